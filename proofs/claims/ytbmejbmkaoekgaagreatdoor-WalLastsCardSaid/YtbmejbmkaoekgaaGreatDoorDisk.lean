/- The disk in memory: its struct, its map of files, the files' structs; and what step does. -/
import Derived.Test.YtbmejbmkaoekgaaGreatDoorModel
import Derived.Test.YtbmejbmkaoekgaaGreatDoorNames
import Derived.Deep.QuietTactic
import Derived.BigQuiet
namespace Go.Proofs.YtbmejbmkaoekgaaGreatDoor
open Go Go.RowKit
set_option linter.unusedVariables false
set_option linter.unusedSimpArgs false

abbrev NG : Nat := 2 + 1
theorem gTab : Tryz.prog.globalNamed "internal/strconv.uint64pow10" = some 2 := by kernel_rfl

section
variable {w w' : World} {S : Nat → Prop}
theorem Tab.size (h : Tab w) : NG ≤ w.heap.size := by
  unfold Tab Lib.TabIs World.var? at h
  rw [gTab] at h
  simp only [Option.bind_some] at h
  split at h
  · rename_i hc; exact (Array.getElem?_eq_some_iff.1 hc).1
  · cases h
theorem Tab.keep (h : Tab w) (k : Keep S w w') (hS : ∀ b, S b → NG ≤ b) : Tab w' := by
  have hsz := h.size
  unfold Tab Lib.TabIs World.var? at h ⊢
  rw [gTab] at h ⊢
  simp only [Option.bind_some] at h ⊢
  rw [k.block _ hsz (fun s => by have := hS _ s; unfold NG at this; omega)]
  exact h
end

theorem keyish_sv : MapKept.IsKey .string (sv []) := trivial
theorem keyS : Keyish .string (fun l : List UInt8 => sv l) := ⟨fun _ => trivial, fun a b h => by
  injection h with h
  injection h with h
  exact List.toArray_inj h⟩

abbrev ptr (k : Nat) : Value := .pointer (some ⟨k, 0, none⟩)

/-- A file's struct. -/
def FileAt (w : World) (p : Nat) (f : FileS) : Prop := ∃ v, Cells w p tFile #[v, .int .i64 (f.safe : Nat)] ∧ Bytes w tByte v f.bytes

/-- A plan's map: nil, or one. -/
def PlanAt (w : World) (pv : Value) (pl : List (Int × Int)) (pb : List Nat) : Prop :=
  (pv = .map none ∧ pl = [] ∧ pb = []) ∨ ∃ pm, pv = .map (some pm) ∧ pb = [pm] ∧ IsMap w pm (.int .i64) (Value.int .i64) (pl.map fun q => (q.1, Value.int .i64 q.2))

def filesL (R : List (FileS × Nat)) : List (List UInt8 × Value) := R.map fun r => (r.1.name, ptr r.2)

/-- The disk's struct lies in block d; F: all blocks that are its own. -/
def DiskR (w : World) (d : Nat) (st : DiskS) (F : List Nat) (fm : Nat) (pv : Value) (pb : List Nat) (R : List (FileS × Nat)) : Prop :=
  F = d :: fm :: (pb ++ R.map (·.2)) ∧ R.map (·.1) = st.files ∧
    Cells w d tDisk #[.int .i64 (st.room : Nat), .map (some fm), pv, .int .i64 (st.steps : Nat), .bool st.down] ∧
    PlanAt w pv st.plan pb ∧ IsMap w fm .string (fun l => sv l) (filesL R) ∧ (∀ r ∈ R, FileAt w r.2 r.1) ∧ F.Nodup ∧ (∀ k ∈ F, NG ≤ k) ∧ st.WF
def DiskAt (w : World) (d : Nat) (st : DiskS) (F : List Nat) : Prop :=
  ∃ (fm : Nat) (pv : Value) (pb : List Nat) (R : List (FileS × Nat)), DiskR w d st F fm pv pb R

section
variable {w w' : World} {S : Nat → Prop} {d : Nat} {st : DiskS} {F : List Nat}
theorem FileAt.keep {p : Nat} {f : FileS} (h : FileAt w p f) (k : Keep S w w') (hp : ¬ S p) (hn : NoBytes w tByte S) : FileAt w' p f := by
  obtain ⟨v, h1, h2⟩ := h
  exact ⟨v, h1.keep k hp, h2.keep k hn⟩
theorem PlanAt.keep {pv : Value} {pl : List (Int × Int)} {pb : List Nat} (h : PlanAt w pv pl pb) (k : Keep S w w') (hp : ∀ b ∈ pb, ¬ S b) : PlanAt w' pv pl pb := by
  rcases h with h | ⟨pm, h1, h2, h3⟩
  · exact .inl h
  · exact .inr ⟨pm, h1, h2, h3.keep k (hp pm (by rw [h2]; simp))⟩
theorem DiskAt.keep (h : DiskAt w d st F) (k : Keep S w w') (hF : ∀ b ∈ F, ¬ S b) (hn : NoBytes w tByte S) : DiskAt w' d st F := by
  obtain ⟨fm, pv, pb, R, rfl, h2, h3, h4, h5, h6, h7, h8, h9⟩ := h
  refine ⟨fm, pv, pb, R, rfl, h2, h3.keep k (hF d (by simp)), h4.keep k (fun b hb => hF b (by simp [hb])), h5.keep k (hF fm (by simp)), fun r hr => (h6 r hr).keep k (hF r.2 ?_) hn, h7, h8, h9⟩
  exact List.mem_cons_of_mem _ (List.mem_cons_of_mem _ (List.mem_append_right _ (List.mem_map.2 ⟨r, hr, rfl⟩)))
theorem DiskAt.ng (h : DiskAt w d st F) : ∀ b ∈ F, NG ≤ b := by obtain ⟨_, _, _, _, _, _, _, _, _, _, _, h8, _⟩ := h; exact h8
theorem DiskAt.wf (h : DiskAt w d st F) : st.WF := by obtain ⟨_, _, _, _, _, _, _, _, _, _, _, _, h9⟩ := h; exact h9
theorem Cells.noBytes {g : Nat} {t t8 : TypeId} {cs : Array Value} (h : Cells w g t cs) (hne : t ≠ t8) : ∀ c fz, w.heap[g]? ≠ some (.cells c t8 fz) := by
  intro c fz e
  unfold Cells at h; rw [h] at e; injection e with e; injection e with _ e; exact hne e
theorem DiskAt.all (h : DiskAt w d st F) : ∀ b ∈ F, b < w.heap.size ∧ ∀ c fz, w.heap[b]? ≠ some (.cells c tByte fz) := by
  obtain ⟨fm, pv, pb, R, rfl, h2, h3, h4, h5, h6, h7, h8, h9⟩ := h
  intro b hb
  rcases List.mem_cons.1 hb with rfl | hb
  · exact ⟨h3.lt, h3.noBytes (by decide)⟩
  rcases List.mem_cons.1 hb with rfl | hb
  · exact ⟨h5.lt, fun c fz => h5.noBytes _ c fz⟩
  rcases List.mem_append.1 hb with hb | hb
  · rcases h4 with ⟨_, _, rfl⟩ | ⟨pm, _, rfl, h⟩
    · cases hb
    · simp at hb; subst hb; exact ⟨h.lt, fun c fz => h.noBytes _ c fz⟩
  · obtain ⟨r, hr, rfl⟩ := List.mem_map.1 hb
    obtain ⟨v, h, _⟩ := h6 r hr
    exact ⟨h.lt, h.noBytes (by decide)⟩
theorem DiskAt.noBytes (h : DiskAt w d st F) : NoBytes w tByte (· ∈ F) := fun k hk => (h.all k hk).2
theorem DiskAt.lt (h : DiskAt w d st F) {b : Nat} (hb : b ∈ F) : b < w.heap.size := (h.all b hb).1
theorem getL_plan (pl : List (Int × Int)) (k : Int) : (getL (pl.map fun q => (q.1, Value.int .i64 q.2)) k).getD (.int .i64 0) = .int .i64 (kindAt pl k) := by
  unfold getL kindAt
  induction pl with
  | nil => rfl
  | cons x l ih =>
    simp only [List.map_cons, List.find?_cons]
    by_cases h : x.1 = k
    · simp [h]
    · simp only [h, decide_false]; exact ih
theorem PlanAt.look {pv : Value} {pl : List (Int × Int)} {pb : List Nat} (h : PlanAt w pv pl pb) (k : Int) :
    (Instr.lookup 56 pv (.int .i64 k) false).run Tryz.prog w = .ok (.int .i64 (kindAt pl k)) w := by
  rcases h with ⟨rfl, rfl, _⟩ | ⟨pm, rfl, _, h⟩
  · exact look_nil keyish_int uPlan uInt zInt k w
  · rw [← getL_plan]; exact h.look keyish_int uPlan uInt zInt k
end

section
variable {w : World} {d : Nat} {st : DiskS} {F : List Nat}
/-- A store into the disk's own struct. -/
theorem DiskAt.own (h : DiskAt w d st F) {st' : DiskS} (i : Nat) (u : Value) (hc : ∀ fm pv, (#[.int .i64 (st.room : Nat), .map (some fm), pv, .int .i64 (st.steps : Nat), .bool st.down] : Array Value).setIfInBounds i u = #[.int .i64 (st'.room : Nat), .map (some fm), pv, .int .i64 (st'.steps : Nat), .bool st'.down])
    (hf : st'.files = st.files) (hp : st'.plan = st.plan) (hr : st'.room = st.room) : DiskAt (w.setCell ⟨d, i, none⟩ u) d st' F := by
  obtain ⟨fm, pv, pb, R, rfl, h2, h3, h4, h5, h6, h7, h8, h9⟩ := h
  have k : Keep (· = d) w (w.setCell ⟨d, i, none⟩ u) := (Keep.refl _ w).setCell _ _ (fun _ => rfl)
  have hno : NoBytes w tByte (· = d) := fun b hb => by subst hb; exact h3.noBytes (by decide)
  have h7' := h7
  simp only [List.nodup_cons, List.mem_cons, List.mem_append, not_or] at h7'
  have hd := (h3.set i u)
  rw [hc fm pv] at hd
  refine ⟨fm, pv, pb, R, rfl, h2.trans hf.symm, hd, ?_, ?_, ?_, h7, h8, ?_⟩
  · rw [hp]; exact h4.keep k (fun b hb e => by subst e; exact h7'.1.2.1 hb)
  · exact h5.keep k (fun e => h7'.1.1 e.symm)
  · exact fun r hr => (h6 r hr).keep k (fun e => h7'.1.2.2 (e ▸ List.mem_map.2 ⟨r, hr, rfl⟩)) hno
  · exact ⟨by rw [hr]; exact h9.room, by unfold DiskS.used; rw [hf, hr]; exact h9.used, by rw [hf]; exact h9.many, by rw [hf]; exact h9.safe, by unfold DiskS.names; rw [hf]; exact h9.names, by rw [hf]; exact h9.short⟩
theorem DiskAt.setSteps (h : DiskAt w d st F) (n : Nat) : DiskAt (w.setCell ⟨d, 3, none⟩ (.int .i64 (n : Nat))) d { st with steps := n } F := h.own 3 _ (fun _ _ => rfl) rfl rfl rfl
theorem DiskAt.setDown (h : DiskAt w d st F) (b : Bool) : DiskAt (w.setCell ⟨d, 4, none⟩ (.bool b)) d { st with down := b } F := h.own 4 _ (fun _ _ => rfl) rfl rfl rfl
theorem DiskAt.drewN (h : DiskAt w d st F) (n : Nat) : DiskAt (w.drewN n) d st F := h.keep ((Keep.refl No w).drewN n) (fun _ _ f => f) (NoBytes.no _ _)
theorem DiskAt.mem (h : DiskAt w d st F) : d ∈ F := by obtain ⟨_, _, _, _, rfl, _⟩ := h; simp
end

/-- What a call on the disk leaves. -/
def StepPost (w : World) (d : Nat) (F : List Nat) (st' : DiskS) (v : Value) (e : Ending) (w' : World) : Prop := e = .returned v ∧ DiskAt w' d st' F ∧ Keep (· ∈ F) w w'

theorem cast_succ (n : Nat) : ((n + 1 : Nat) : Int) = (n : Int) + 1 := rfl
theorem step_io {st : DiskS} (hd : st.down = false) (h : kindAt st.plan ((st.steps : Int) + 1) = 1) : st.step = ({ st with steps := st.steps + 1 }, 31) := by
  unfold DiskS.step; rw [if_neg (by simp [hd]), cast_succ, if_pos h]
theorem step_full {st : DiskS} (hd : st.down = false) (h : kindAt st.plan ((st.steps : Int) + 1) = 2) : st.step = ({ st with steps := st.steps + 1 }, 30) := by
  unfold DiskS.step; rw [if_neg (by simp [hd]), cast_succ, if_neg (by omega), if_pos h]
theorem step_crash {st : DiskS} (hd : st.down = false) (h : kindAt st.plan ((st.steps : Int) + 1) = 3) : st.step = ({ st with steps := st.steps + 1, down := true }, 32) := by
  unfold DiskS.step; rw [if_neg (by simp [hd]), cast_succ, if_neg (by omega), if_neg (by omega), if_pos h]
theorem step_fine {st : DiskS} (hd : st.down = false) (h1 : kindAt st.plan ((st.steps : Int) + 1) ≠ 1) (h2 : kindAt st.plan ((st.steps : Int) + 1) ≠ 2) (h3 : kindAt st.plan ((st.steps : Int) + 1) ≠ 3) : st.step = ({ st with steps := st.steps + 1 }, 0) := by
  unfold DiskS.step; rw [if_neg (by simp [hd]), cast_succ, if_neg h1, if_neg h2, if_neg h3]

set_option maxHeartbeats 1000000 in
theorem step_go (w : World) (d : Nat) (st : DiskS) (F : List Nat) (l : List UInt8) (g off c : Nat) (h : DiskAt w d st F) (hl : Plain l) (h0 : l ≠ []) (h1 : l.length ≤ 32) (hs : st.steps < 4611686018427387904)
    (hc : w.cell? ⟨g, off, none⟩ = some (sv l)) :
    Calls Tryz.prog 46 #[ptr d, .slice (some ⟨g, off, none⟩) 1 c] w (StepPost w d F st.step.1 (.int .i64 st.step.2)) := by
  have h' := Lib.hid h
  obtain ⟨fm, pv, pb, R, hF, hR, hd, hp, hm, hf, hnd, hng, hwf⟩ := h
  have c4 := hd.cell 4
  have c3 := hd.cell 3
  have c2 := hd.cell 2
  have f3 := hd.free 3
  have f4 := hd.free 4
  simp only [List.getElem?_toArray, List.getElem?_cons_succ, List.getElem?_cons_zero] at c4 c3 c2
  clear hF hR hd hm hf hnd hng hwf
  by_cases hdown : st.down = true
  · have e : st.step = (st, 32) := by unfold DiskS.step; rw [if_pos hdown]
    rw [hdown] at c4
    have He := Lib.hid e; clear e hdown hp
    rw [He.out]
    clear He
    go_enter Tryz.func46, Tryz.ntmps46
    go_wp2_with fail
    go_ret
    exact ⟨rfl, h'.out, Keep.refl _ w⟩
  · have hdown' : st.down = false := by simpa using hdown
    rw [hdown'] at c4
    have Hd := Lib.hid hdown'; clear hdown hdown'
    have hcf := Lib.hid (fun W hc => containsFunc_one l hl h0 h1 g off c W hc)
    clear hp c3 c2 f3 f4
    go_enter Tryz.func46, Tryz.ntmps46
    go_wp2_with fail
    refine (hcf.out _ hc).mono ?_
    rintro e w1 ⟨rfl, hk⟩
    have hw1 := h'.out.keep hk (fun _ _ f => f) (NoBytes.no _ _)
    have Hk := Lib.hid hk
    clear hc hcf hk c4
    have Hw1 := Lib.hid hw1
    obtain ⟨fm, pv, pb, R, hF, hR, hd, hp, hm, hf, hnd, hng, hwf⟩ := hw1
    have c4 := hd.cell 4
    have c3 := hd.cell 3
    have c2 := hd.cell 2
    have f3 := hd.free 3
    have f4 := hd.free 4
    simp only [List.getElem?_toArray, List.getElem?_cons_succ, List.getElem?_cons_zero] at c4 c3 c2
    have k1 : Keep (· ∈ F) w1 (w1.setCell ⟨d, 3, none⟩ (.int .i64 ((st.steps : Int) + 1))) := (Keep.refl _ w1).setCell _ _ (fun _ => by rw [hF]; simp)
    have hp1 : PlanAt (w1.setCell ⟨d, 3, none⟩ (.int .i64 ((st.steps : Int) + 1))) pv st.plan pb := hp.keep ((Keep.refl (· = d) w1).setCell _ _ (fun _ => rfl)) (fun b hb e => by
      rw [hF] at hnd; subst e; simp at hnd; exact hnd.1.2.1 hb)
    have hlk := fun n => (show PlanAt ((w1.setCell ⟨d, 3, none⟩ (.int .i64 ((st.steps : Int) + 1))).drewN n) pv st.plan pb from hp1.keep ((Keep.refl No _).drewN n) (fun _ _ f => f)).look ((st.steps : Int) + 1)
    clear hp hp1 hm hf hR hwf
    have Hk1 := Lib.hid k1; clear k1
    have HF := Lib.hid hF; clear hF
    have Hnd := Lib.hid hnd; clear hnd
    have Hng := Lib.hid hng; clear hng
    have Hcd := Lib.hid hd; clear hd
    generalize hkd : kindAt st.plan ((st.steps : Int) + 1) = kd at *
    have Hkd := Lib.hid hkd; clear hkd
    go_wp2_with fail
    go_quiet (fail)
    have Hd1 := Lib.hid (Hw1.out.setSteps (st.steps + 1))
    have HK := Lib.hid ((Hk.out.mono (T := (· ∈ F)) (fun _ f _ => f.elim)).trans Hk1.out (fun _ hb _ => hb))
    by_cases h1 : kd = 1
    · subst h1
      go_wp2_with fail
      go_ret
      have e := step_io Hd.out Hkd.out
      exact ⟨by rw [e]; rfl, by rw [e]; exact Hd1.out.drewN _, HK.out.drewN _⟩
    by_cases h2 : kd = 2
    · subst h2
      go_wp2_with fail
      go_ret
      have e := step_full Hd.out Hkd.out
      exact ⟨by rw [e]; rfl, by rw [e]; exact Hd1.out.drewN _, HK.out.drewN _⟩
    by_cases h3 : kd = 3
    · subst h3
      go_wp2_with fail
      go_ret
      have e := step_crash Hd.out Hkd.out
      exact ⟨by rw [e]; rfl, by rw [e]; exact (Hd1.out.setDown true).drewN _, ((HK.out.setCell ⟨d, 4, none⟩ _ (fun _ => h'.out.mem)).drewN _)⟩
    · have b1 : (kd == 1) = false := by simpa using h1
      have b2 : (kd == 2) = false := by simpa using h2
      have b3 : (kd == 3) = false := by simpa using h3
      have e := Lib.hid (step_fine Hd.out (by rw [Hkd.out]; exact h1) (by rw [Hkd.out]; exact h2) (by rw [Hkd.out]; exact h3))
      clear h1 h2 h3
      go_wp2_with fail
      go_ret
      exact ⟨by rw [e.out]; rfl, by rw [e.out]; exact Hd1.out.drewN _, HK.out.drewN _⟩
end Go.Proofs.YtbmejbmkaoekgaaGreatDoor
