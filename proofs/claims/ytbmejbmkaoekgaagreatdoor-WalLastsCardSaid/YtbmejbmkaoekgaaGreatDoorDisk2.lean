/- The disk's calls that find a file: there, Sync, Read, Truncate, Remove. -/
import Derived.Test.YtbmejbmkaoekgaaGreatDoorDisk
import Derived.Test.YtbmejbmkaoekgaaGreatDoorW2
namespace Go.Proofs.YtbmejbmkaoekgaaGreatDoor
open Go Go.RowKit
set_option linter.unusedVariables false
set_option linter.unusedSimpArgs false

theorem find_R {R : List (FileS × Nat)} (l : List UInt8) : getL (filesL R) l = (R.find? (fun r => r.1.name = l)).map (fun r => ptr r.2) := by
  unfold getL filesL
  rw [List.find?_map]
  simp only [Option.map_map, Function.comp_def]
theorem find_files {R : List (FileS × Nat)} {st : DiskS} (h : R.map (·.1) = st.files) (l : List UInt8) : st.find l = (R.find? (fun r => r.1.name = l)).map (·.1) := by
  unfold DiskS.find
  rw [← h, List.find?_map]
  rfl
theorem look_none {R : List (FileS × Nat)} {st : DiskS} (h : R.map (·.1) = st.files) {l : List UInt8} (hf : st.find l = none) : (getL (filesL R) l).getD (.pointer none) = .pointer none := by
  rw [find_R]
  rw [find_files h] at hf
  rw [Option.map_eq_none_iff.1 hf]; rfl
theorem look_some {R : List (FileS × Nat)} {st : DiskS} (h : R.map (·.1) = st.files) {l : List UInt8} {f : FileS} (hf : st.find l = some f) : ∃ p, (f, p) ∈ R ∧ f.name = l ∧ (getL (filesL R) l).getD (.pointer none) = ptr p := by
  rw [find_files h] at hf
  obtain ⟨r, hr, rfl⟩ := Option.map_eq_some_iff.1 hf
  refine ⟨r.2, List.mem_of_find?_eq_some hr, by simpa using List.find?_some hr, ?_⟩
  rw [find_R, hr]; rfl

def TherePost (w : World) (d : Nat) (F : List Nat) (st : DiskS) (l : List UInt8) (e : Ending) (w' : World) : Prop :=
  Keep (· ∈ F) w w' ∧ ∃ fm pv pb R, DiskR w' d st.step.1 F fm pv pb R ∧
    (st.step.2 ≠ 0 ∧ e = .returned (.tuple #[.pointer none, .int .i64 st.step.2]) ∨
     st.step.2 = 0 ∧ st.find l = none ∧ e = .returned (.tuple #[.pointer none, .int .i64 33]) ∨
     st.step.2 = 0 ∧ ∃ f p, st.find l = some f ∧ (f, p) ∈ R ∧ e = .returned (.tuple #[ptr p, .int .i64 0]))

theorem step_find (d : DiskS) (l : List UInt8) : d.step.1.find l = d.find l := by unfold DiskS.find; rw [step_files]

set_option maxHeartbeats 1000000 in
theorem there_go (w : World) (d : Nat) (st : DiskS) (F : List Nat) (l : List UInt8) (g off c : Nat) (h : DiskAt w d st F) (hl : Plain l) (h0 : l ≠ []) (h1 : l.length ≤ 32) (hs : st.steps < 4611686018427387904)
    (hc : w.cell? ⟨g, off, none⟩ = some (sv l)) (hg : g ∉ F) (hgl : g < w.heap.size) :
    Calls Tryz.prog 49 #[ptr d, .slice (some ⟨g, off, none⟩) 1 c] w (TherePost w d F st l) := by
  have hst := Lib.hid (fun h hc => step_go w d st F l g off c h hl h0 h1 hs hc)
  have h' := Lib.hid h
  have hc' := Lib.hid hc
  clear h hc
  go_enter Tryz.func49, Tryz.ntmps49
  go_wp2_with fail
  refine (hst.out h'.out hc'.out).mono ?_
  rintro e w1 ⟨rfl, hd1, hk1⟩
  have hcell : w1.cell? ⟨g, off, none⟩ = some (sv l) := by rw [hk1.cell hgl hg]; exact hc'.out
  have Hk1 := Lib.hid hk1; clear hk1 hst
  obtain ⟨fm, pv, pb, R, hR⟩ := hd1
  have HR := Lib.hid hR
  obtain ⟨_, hRf, hcd, _, hm, _⟩ := hR
  have c1 := hcd.cell 1
  simp only [List.getElem?_toArray, List.getElem?_cons_succ, List.getElem?_cons_zero] at c1
  have hlk := fun n => (show IsMap (w1.drewN n) fm .string (fun l => sv l) (filesL R) from hm.keep ((Keep.refl No w1).drewN n) (fun f => f)).look keyS uFiles uStr zPFile l
  have HRf := Lib.hid hRf
  clear hRf hcd hm
  by_cases he : st.step.2 = 0
  · rw [he]
    have He := Lib.hid he; clear he
    cases hf : st.find l with
    | none =>
      have HF := Lib.hid hf; clear hf
      have e1 := look_none HRf.out (l := l) (by rw [step_find]; exact HF.out)
      rw [e1] at hlk
      clear e1
      go_wp2_with fail
      go_quiet (fail)
      go_wp2_with fail
      go_ret2
      exact ⟨Hk1.out.drewN _, fm, pv, pb, R, HR.out, .inr (.inl ⟨He.out, HF.out, rfl⟩)⟩
    | some f =>
      have HF := Lib.hid hf; clear hf
      obtain ⟨p, hp, hn, e1⟩ := look_some HRf.out (l := l) (f := f) (by rw [step_find]; exact HF.out)
      rw [e1] at hlk
      clear e1 hn
      have Hp := Lib.hid hp; clear hp
      go_wp2_with fail
      go_quiet (fail)
      go_wp2_with fail
      go_ret2
      exact ⟨Hk1.out.drewN _, fm, pv, pb, R, HR.out, .inr (.inr ⟨He.out, f, p, HF.out, Hp.out, rfl⟩)⟩
  · have hb : (st.step.2 == 0) = false := by simpa using he
    have hb' : (st.step.2 != 0) = true := by simpa using he
    have He := Lib.hid he; clear he
    clear hlk
    generalize hec : st.step.2 = ec at *
    have Hec := Lib.hid hec; clear hec
    go_wp2_with fail
    go_ret2
    exact ⟨Hk1.out, fm, pv, pb, R, HR.out, .inl ⟨by rw [Hec.out]; exact He.out, by rw [Hec.out]; rfl⟩⟩

theorem one_of_nodup {α β : Type} {f : α → β} {l : List α} (h : (l.map f).Nodup) {x y : α} (hx : x ∈ l) (hy : y ∈ l) (e : f x = f y) : x = y := by
  obtain ⟨i, hi⟩ := List.mem_iff_getElem?.1 hx
  obtain ⟨j, hj⟩ := List.mem_iff_getElem?.1 hy
  have := nodup_at h (i := i) (j := j) (x := f x) (by rw [List.getElem?_map, hi]; rfl) (by rw [List.getElem?_map, hj, e]; rfl)
  subst this
  rw [hi] at hj; injection hj

section
variable {w w' : World} {d : Nat} {st : DiskS} {F : List Nat} {fm : Nat} {pv : Value} {pb : List Nat} {R : List (FileS × Nat)}
theorem DiskR.at_ (h : DiskR w d st F fm pv pb R) : DiskAt w d st F := ⟨fm, pv, pb, R, h⟩
theorem DiskR.file (h : DiskR w d st F fm pv pb R) {f : FileS} {p : Nat} (hp : (f, p) ∈ R) : FileAt w p f ∧ f ∈ st.files ∧ p ∈ F := by
  obtain ⟨h1, h2, h3, h4, h5, h6, h7, h8, h9⟩ := h
  refine ⟨h6 _ hp, by rw [← h2]; exact List.mem_map.2 ⟨_, hp, rfl⟩, ?_⟩
  rw [h1]
  exact List.mem_cons_of_mem _ (List.mem_cons_of_mem _ (List.mem_append_right _ (List.mem_map.2 ⟨_, hp, rfl⟩)))
/-- One file's struct is another one. -/
theorem DiskR.turn (h : DiskR w d st F fm pv pb R) {f : FileS} {p : Nat} (hp : (f, p) ∈ R) (g : FileS → FileS) (hg : ∀ x, (g x).name = x.name) (k : Keep (· = p) w w') (hf' : FileAt w' p (g f))
    {st' : DiskS} (e1 : st'.files = turnAt st.files f.name g) (e2 : st'.room = st.room) (e3 : st'.plan = st.plan) (e4 : st'.steps = st.steps) (e5 : st'.down = st.down) (hwf : st'.WF) :
    DiskR w' d st' F fm pv pb (R.map (fun r => if r.1.name = f.name then (g r.1, r.2) else r)) := by
  have hfile := h.file hp
  obtain ⟨h1, h2, h3, h4, h5, h6, h7, h8, h9⟩ := h
  have hno : NoBytes w tByte (· = p) := fun b hb => by
    subst hb
    obtain ⟨v, hc, _⟩ := hfile.1
    exact hc.noBytes (by decide)
  have hnd := h7
  rw [h1] at hnd
  simp only [List.nodup_cons, List.mem_cons, List.mem_append, not_or, List.nodup_append] at hnd
  have hpR : p ∈ R.map (·.2) := List.mem_map.2 ⟨_, hp, rfl⟩
  have hnames : (R.map (fun r => r.1.name)).Nodup := by
    have := h9.names
    unfold DiskS.names at this
    rw [← h2, List.map_map] at this
    exact this
  have em2 : (R.map (fun r => if r.1.name = f.name then (g r.1, r.2) else r)).map (·.2) = R.map (·.2) := by
    rw [List.map_map]; apply List.map_congr_left; intro r _; simp only [Function.comp]; split <;> rfl
  refine ⟨by rw [em2]; exact h1, ?_, ?_, ?_, ?_, ?_, h7, h8, hwf⟩
  · rw [e1, ← h2, turnAt, List.map_map, List.map_map]
    apply List.map_congr_left; intro r _; simp only [Function.comp]; split <;> rfl
  · rw [e2, e4, e5]; exact h3.keep k (fun e => hnd.1.2.2 (e ▸ hpR))
  · rw [e3]; exact h4.keep k (fun b hb e => by subst e; exact hnd.2.2.2.2 _ hb _ hpR rfl)
  · have : filesL (R.map (fun r => if r.1.name = f.name then (g r.1, r.2) else r)) = filesL R := by
      unfold filesL
      rw [List.map_map]; apply List.map_congr_left; intro r _; simp only [Function.comp]; split
      · rw [hg]
      · rfl
    rw [this]
    exact h5.keep k (fun e => hnd.2.1.2 (e ▸ hpR))
  · intro r hr
    obtain ⟨q, hq, rfl⟩ := List.mem_map.1 hr
    by_cases hn : q.1.name = f.name
    · have := one_of_nodup hnames hq hp hn
      subst this
      rw [if_pos hn]; exact hf'
    · rw [if_neg hn]
      have hne : q.2 ≠ p := fun e => by
        have := one_of_nodup hnd.2.2.2.1 hq hp e
        subst this
        exact hn rfl
      exact (h6 q hq).keep k hne hno
end

/-- What a call on the disk leaves; it may have new blocks. -/
def CallPost (w : World) (d : Nat) (F : List Nat) (st' : DiskS) (v : Value) (e : Ending) (w' : World) : Prop :=
  e = .returned v ∧ ∃ F', DiskAt w' d st' F' ∧ Keep (· ∈ F) w w' ∧ ∀ k ∈ F', k ∈ F ∨ w.heap.size ≤ k

theorem turn_short {st : DiskS} (h : st.WF) {l : List UInt8} {g : FileS → FileS} (hg : ∀ x, (g x).name = x.name) : ∀ f ∈ turnAt st.files l g, f.name.length ≤ 32 := by
  intro x hx
  rcases turn_mem hx with ⟨h1, _⟩ | ⟨f, hf, _, rfl⟩
  · exact h.short x h1
  · rw [hg]; exact h.short f hf

theorem sync_wf {st : DiskS} (h : st.WF) (l : List UInt8) (g : FileS → FileS) (hg : ∀ x, (g x).name = x.name) (hb : ∀ x ∈ st.files, (g x).bytes.length ≤ x.bytes.length) (hs : ∀ x ∈ st.files, (g x).safe ≤ (g x).bytes.length) :
    ({ st with files := turnAt st.files l g } : DiskS).WF := by
  refine ⟨h.room, ?_, by rw [turn_len]; exact h.many, ?_, by unfold DiskS.names; rw [turn_names _ _ _ hg]; exact h.names, turn_short h hg⟩
  · refine Nat.le_trans ?_ h.used
    unfold DiskS.used
    have : ∀ m : List FileS, (∀ x ∈ m, (g x).bytes.length ≤ x.bytes.length) → usedBy (turnAt m l g) ≤ usedBy m := by
      intro m
      induction m with
      | nil => intro _; exact Nat.le_refl _
      | cons x m ih =>
        intro hm
        have := ih (fun y hy => hm y (.tail _ hy))
        have hx := hm x (.head _)
        simp only [usedBy, turnAt, List.map_cons, List.sum_cons] at this ⊢
        split <;> omega
    exact this _ hb
  · intro x hx
    rcases turn_mem hx with ⟨h1, _⟩ | ⟨f, hf, _, rfl⟩
    · exact h.safe x h1
    · exact hs f hf

set_option maxHeartbeats 1000000 in
theorem dsync_go (w : World) (d : Nat) (st : DiskS) (F : List Nat) (l : List UInt8) (h : DiskAt w d st F) (hl : Plain l) (h0 : l ≠ []) (h1 : l.length ≤ 32) (hs : st.steps < 4611686018427387904) :
    Calls Tryz.prog 31 #[ptr d, sv l] w (CallPost w d F (st.sync l).1 (.int .i64 (st.sync l).2)) := by
  have h' := Lib.hid h
  have hw1 := Lib.hid (h.keep ((Keep.refl No w).alloc (.cells #[sv l] tStr)) (fun _ _ f => f) (NoBytes.no _ _))
  have hgn := Lib.hid (show w.heap.size ∉ F from fun m => absurd (h.lt m) (by omega))
  clear h
  go_enter Tryz.func31, Tryz.ntmps31
  go_wp2_with fail
  refine (there_go _ d st F l w.heap.size 0 1 hw1.out hl h0 h1 hs (by simp [World.cell?_alloc_new]) hgn.out (by simp)).mono ?_
  rintro e w1 ⟨hk, fm, pv, pb, R, hR, hh⟩
  have HK := Lib.hid (((Keep.refl (· ∈ F) w).alloc _).trans hk (fun _ hb _ => hb)); clear hk
  have HR := Lib.hid hR
  rcases hh with ⟨he, rfl⟩ | ⟨he, hf, rfl⟩ | ⟨he, f, p, hf, hp, rfl⟩
  · have e1 : st.sync l = st.step := by unfold DiskS.sync; rw [if_pos he]
    have E1 := Lib.hid e1
    have hb : (st.step.2 == 0) = false := by simpa using he
    generalize hec : st.step.2 = ec at *
    have Hec := Lib.hid hec
    clear hec he e1 hR
    go_wp2_with fail
    go_ret
    exact ⟨by rw [E1.out, Hec.out]; rfl, F, by rw [E1.out]; exact HR.out.at_, HK.out, fun _ hb => .inl hb⟩
  · have e1 : st.sync l = (st.step.1, 33) := by unfold DiskS.sync; rw [if_neg (by simp [he]), hf]
    have E1 := Lib.hid e1
    clear he hf e1 hR
    go_wp2_with fail
    go_ret
    exact ⟨by rw [E1.out]; rfl, F, by rw [E1.out]; exact HR.out.at_, HK.out, fun _ hb => .inl hb⟩
  · have e1 : st.sync l = ({ st.step.1 with files := turnAt st.files l (fun f => { f with safe := f.bytes.length }) }, 0) := by unfold DiskS.sync; rw [if_neg (by simp [he]), hf]
    have E1 := Lib.hid e1
    obtain ⟨⟨v, hc, hb⟩, hfm, hpF⟩ := hR.file hp
    obtain ⟨A, c, rfl⟩ := hb.form
    have hlen := hR.at_.wf.len hfm
    have c0 := hc.cell 0
    have c1 := hc.cell 1
    have f1 := hc.free 1
    simp only [List.getElem?_toArray, List.getElem?_cons_succ, List.getElem?_cons_zero] at c0 c1
    have hfn : f.name = l := (find_spec hf).2
    have Hfin := Lib.hid (HR.out.turn hp (fun f => { f with safe := f.bytes.length }) (fun _ => rfl) ((Keep.refl (· = p) w1).setCell ⟨p, 1, none⟩ (.int .i64 f.bytes.length) (fun _ => rfl)) ⟨_, hc.set 1 _, hb.keep ((Keep.refl (· = p) w1).setCell ⟨p, 1, none⟩ _ (fun _ => rfl)) (fun b hb => by subst hb; exact hc.noBytes (by decide))⟩
      (st' := { st.step.1 with files := turnAt st.files l (fun f => { f with safe := f.bytes.length }) }) (by rw [hfn, step_files]) rfl rfl rfl rfl
      (by have := sync_wf (step_wf h'.out.wf) l (fun f => { f with safe := f.bytes.length }) (fun _ => rfl) (fun _ _ => Nat.le_refl _) (fun _ _ => Nat.le_refl _); rw [step_files] at this; exact this))
    have HpF := Lib.hid hpF
    clear he hf e1 hR hc hb hfm hpF hfn hp
    go_wp2_with fail
    go_ret
    exact ⟨by rw [E1.out]; rfl, F, by rw [E1.out]; exact Hfin.out.at_, HK.out.setCell _ _ (fun _ => HpF.out), fun _ hb => .inl hb⟩
end Go.Proofs.YtbmejbmkaoekgaaGreatDoor
