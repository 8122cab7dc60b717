/- A plan of faults: L07.Plan, disk.Arm. -/
import Derived.Test.YtbmejbmkaoekgaaGreatDoorLog
import Derived.Test.YtbmejbmkaoekgaaGreatDoorArgs
import Derived.Deep.AppendLies
import Derived.Deep.RegionLaw
import Derived.Deep.SlicePairs
namespace Go.Proofs.YtbmejbmkaoekgaaGreatDoor
open Go Go.RowKit
set_option linter.unusedVariables false
set_option linter.unusedSimpArgs false

abbrev tFaults : TypeId := 42
abbrev tFault : TypeId := 77
def faultV (p : Int × Int) : List Value := [.int .i64 p.1, .int .i64 p.2]
theorem flat_at : ∀ (l : List (Int × Int)) (i : Nat) (p : Int × Int), l[i]? = some p → ∀ j, j < 2 → (l.flatMap faultV)[i * 2 + j]? = (faultV p)[j]?
  | [], i, p, h, _, _ => by simp at h
  | q :: l, 0, p, h, j, hj => by
    simp at h; subst h
    rw [List.flatMap_cons, List.getElem?_append_left (by simp [faultV]; omega)]
    simp
  | q :: l, i + 1, p, h, j, hj => by
    rw [List.flatMap_cons, List.getElem?_append_right (by simp [faultV]; omega)]
    have e : (i + 1) * 2 + j - (faultV q).length = i * 2 + j := by simp [faultV]; omega
    rw [e]
    exact flat_at l i p (by simpa using h) j hj
/-- A slice of pairs of ints; all lies below N. -/
def PList (w : World) (N : Nat) (v : Value) (l : List (Int × Int)) : Prop :=
  ∃ (A : Option Addr) (c : Nat), v = .slice A l.length c ∧ l.length ≤ c ∧ c ≤ maxLen ∧
    (0 < l.length → ∃ g off cs t fz, A = some ⟨g, off, none⟩ ∧ g < N ∧ w.heap[g]? = some (.cells cs t fz) ∧ ∀ i p, l[i]? = some p → cs[off + i * 2]? = some (.int .i64 p.1) ∧ cs[off + i * 2 + 1]? = some (.int .i64 p.2))

theorem PList.keep {w w' : World} {N : Nat} {S : Nat → Prop} {v : Value} {l : List (Int × Int)} (h : PList w N v l) (k : Keep S w w') (hS : ∀ b, S b → N ≤ b) : PList w' N v l := by
  obtain ⟨A, c, h1, h2, h3, h4⟩ := h
  refine ⟨A, c, h1, h2, h3, fun h0 => ?_⟩
  obtain ⟨g, off, cs, t, fz, e1, e0, e2, e3⟩ := h4 h0
  exact ⟨g, off, cs, t, fz, e1, e0, (k.block g (lt_of_heap e2) (fun f => by have := hS g f; omega)).trans e2, e3⟩
theorem PList.at_ {w : World} {N : Nat} {v : Value} {l : List (Int × Int)} (h : PList w N v l) {i : Nat} (hi : i < l.length) :
    ∃ g off c, v = .slice (some ⟨g, off, none⟩) l.length c ∧ g < w.heap.size ∧ w.cell? ⟨g, off + i * 2, none⟩ = some (.int .i64 l[i].1) ∧ w.cell? ⟨g, off + i * 2 + 1, none⟩ = some (.int .i64 l[i].2) := by
  obtain ⟨A, c, rfl, _, _, hx⟩ := h
  obtain ⟨g, off, cs, t, fz, rfl, hN, hg, hc⟩ := hx (by omega)
  have := hc i _ (List.getElem?_eq_getElem hi)
  refine ⟨g, off, c, rfl, lt_of_heap hg, ?_, ?_⟩
  · simp only [World.cell?, hg, Option.isSome_none, Bool.false_eq_true, if_false]; exact this.1
  · simp only [World.cell?, hg, Option.isSome_none, Bool.false_eq_true, if_false]; exact this.2

theorem uFaults : Tryz.prog.underlying tFaults = some (.slice tFault) := by kernel_rfl
theorem iFault : (Tryz.prog.info? tFault).map (fun i => (i.zero, i.size, i.bytes)) = some (some (.agg #[.int .i64 0, .int .i64 0]), 2, 16) := by kernel_rfl

set_option maxRecDepth 100000 in
set_option maxHeartbeats 2000000 in
theorem plan_go (w : World) (v : Value) (l : List (Int × Int)) (hv : PList w w.heap.size v l) (hl : l.length * 16 ≤ 140737488355328) :
    Calls Tryz.prog 14 #[v] w fun e w' => ∃ u, e = .returned u ∧ w'.ownsRow w.heap.size tFault 2 u l.length (l.flatMap faultV) ∧ Keep No w w' := by
  have Hv := Lib.hid hv
  obtain ⟨A, c, rfl, hc1, hc2, _⟩ := hv
  obtain ⟨i0, hi0, hz0, hz1, hz2⟩ := info_parts iFault
  have HI := Lib.hid (And.intro hi0 (And.intro hz0 (And.intro hz1 hz2)))
  clear hi0 hz0 hz1 hz2
  go_enter Tryz.func14, Tryz.ntmps14
  go_wp2_with fail
  go_loopw [3, 4] (fun o i wr => ∃ k, k ≤ l.length ∧ i = .int .i64 k ∧ wr.ownsRow w.heap.size tFault 2 o k ((l.take k).flatMap faultV) ∧ Keep No w wr) (fun o i _ => l.length - (intOf i).toNat)
  case atStart => exact ⟨0, by omega, rfl, World.ownsRow_nil _ _ _ _, Keep.refl _ _⟩
  case round =>
    obtain ⟨k, hk, rfl, hrow, hkw⟩ := hrel
    have Hrow := Lib.hid hrow
    have Hkw := Lib.hid hkw
    clear hrow hkw
    by_cases hlt : k < l.length
    · obtain ⟨g, off, c', hv', hg, hc0, hc1'⟩ := (Hv.out.keep Hkw.out (fun _ f => f.elim)).at_ hlt
      injection hv' with hv1 hv2 hv3
      subst hv1
      have htk := List.take_succ_eq_append_getElem hlt
      obtain ⟨p, hp⟩ : ∃ p, l[k] = p := ⟨_, rfl⟩
      rw [hp] at hc0 hc1' htk
      have Htk := Lib.hid htk
      clear htk hp hv3
      have hki : (k : Int) < (l.length : Int) := by omega
      go_wp2_with fail
      have hrow3 := Hrow.out
      go_region_law
        ((refine step_append_lies _ (by rfl) _ _ _ (by rfl) w.heap.size tFault i0 _ 2 16 uFaults HI.out.1 HI.out.2.1 HI.out.2.2.1 HI.out.2.2.2 rfl (by omega) _ k ((l.take k).flatMap faultV) (by rfl) (row_keep Hrow.out (by repeat (first | exact Keep.refl No wr | apply Keep.drew | apply Keep.alloc)) (fun _ _ f => f)) (⟨wr.heap.size, 0, none⟩ : Addr) 1 1 [.int .i64 p.1, .int .i64 p.2] (by rfl) (by rfl) (World.news_of_block (cs := #[.int .i64 p.1, .int .i64 p.2]) (t := tFault) (fr := (0, 0)) (by first | exact Cells.new wr.drew tFault _ | exact Cells.new wr tFault _)) (by simp [Value.oneCell']) (by omega) (by unfold maxLen; omega) (by omega) (Nat.le_trans Hkw.out.size (by simp)) (wr.heap.size + 1) (by simp) ?_; intro gg cap w6 hown6 hgrow hat6 hlt6
          have kk0 : Keep No w ((wr.alloc (.cells #[.int .i64 p.1, .int .i64 p.2] tFault)).drew) := Keep.trans (T := No) Hkw.out (by repeat (first | exact Keep.refl No wr | apply Keep.drew | apply Keep.alloc)) (fun _ f _ => f.elim)
          have kk : Keep No w w6 := Keep.trans kk0 (Keep.of_grown hgrow) (fun b hb hl => by have := (row_kind Hrow.out hb.symm).1; omega)
          have Hown6 := Lib.hid hown6
          have Hkk := Lib.hid kk
          clear hown6 kk kk0 hgrow hat6))
      all_goals
        go_wp2_with fail
        go_roundw
        case rel => exact ⟨k + 1, by omega, by go_num, by rw [Htk.out, List.flatMap_append]; simpa [faultV] using Hown6.out, Hkk.out⟩
        case measure => simp [intOf]; omega
    · have hkl : k = l.length := by omega
      subst hkl
      have hr := Hrow.out
      rw [List.take_length] at hr
      go_wp2_with fail
      go_ret
      exact ⟨_, rfl, hr, Hkw.out⟩

theorem putL_ints (pl : List (Int × Int)) (k x : Int) : ∃ pl' : List (Int × Int), putL (pl.map fun q => (q.1, Value.int .i64 q.2)) k (.int .i64 x) = pl'.map (fun q => (q.1, Value.int .i64 q.2)) ∧ ∀ q ∈ pl', q ∈ pl ∨ q = (k, x) := by
  unfold putL
  split
  · refine ⟨pl.map (fun q => if q.1 = k then (q.1, x) else q), ?_, ?_⟩
    · simp only [List.map_map]
      apply List.map_congr_left
      intro q _
      simp only [Function.comp_apply]
      split <;> simp
    · intro q hq
      obtain ⟨r, hr, rfl⟩ := List.mem_map.1 hq
      split
      · rename_i e; right; rw [← e]
      · exact .inl hr
  · exact ⟨pl ++ [(k, x)], by simp, fun q hq => by simpa using hq⟩

theorem PList.of_row {w : World} {base : Nat} {u : Value} {l : List (Int × Int)} (h : w.ownsRow base tFault 2 u l.length (l.flatMap faultV)) : PList w w.heap.size u l := by
  rcases h.2 with ⟨rfl, hn⟩ | ⟨g, cap, cur, rfl, h1, h2, h3, h4, h5, h6⟩
  · exact ⟨none, 0, by rw [hn], by omega, by decide, fun h0 => by omega⟩
  · refine ⟨_, cap, rfl, h3, h4, fun _ => ⟨g, 0, cur, tFault, (0, 0), rfl, lt_of_heap h2, h2, fun i p hp => ?_⟩⟩
    have hil : i < l.length := (List.getElem?_eq_some_iff.1 hp).1
    have key : ∀ j, j < 2 → cur[i * 2 + j]? = (faultV p)[j]? := fun j hj => by
      have e : (cur.toList.take (l.length * 2))[i * 2 + j]? = (l.flatMap faultV)[i * 2 + j]? := by rw [h6]
      rw [List.getElem?_take, if_pos (by omega)] at e
      have e2 : (l.flatMap faultV)[i * 2 + j]? = (faultV p)[j]? := flat_at l i p hp j hj
      rw [e2] at e
      simpa using e
    constructor
    · have := key 0 (by omega)
      simpa [faultV] using this
    · have := key 1 (by omega)
      rw [Nat.zero_add]
      simpa [faultV] using this

section
variable {w w' : World} {d : Nat} {st : DiskS} {F : List Nat} {fm : Nat} {pv : Value} {pb : List Nat} {R : List (FileS × Nat)}
/-- Another plan's map. -/
theorem DiskR.newPlan (h : DiskR w d st F fm pv pb R) {pm : Nat} (hm : IsMap w pm (.int .i64) (Value.int .i64) []) (hpm : pm ∉ F) (hng : NG ≤ pm) :
    DiskR (w.setCell ⟨d, 2, none⟩ (.map (some pm))) d { st with plan := [] } (d :: fm :: ([pm] ++ R.map (·.2))) fm (.map (some pm)) [pm] R := by
  obtain ⟨rfl, h2, h3, h4, h5, h6, h7, h8, h9⟩ := h
  have k : Keep (· = d) w (w.setCell ⟨d, 2, none⟩ (.map (some pm))) := (Keep.refl (· = d) w).setCell _ _ (fun _ => rfl)
  have hnb : NoBytes w tByte (· = d) := fun k hk => by subst hk; exact h3.noBytes (by decide)
  simp only [List.nodup_cons, List.mem_cons, List.mem_append, not_or, List.nodup_append] at h7 hpm
  refine ⟨rfl, h2, ?_, .inr ⟨pm, rfl, rfl, hm.keep k (fun e => hpm.1 e)⟩, h5.keep k (fun e => h7.1.1 e.symm), fun r hr => (h6 r hr).keep k (fun e => ?_) hnb, ?_, ?_, ⟨h9.room, h9.used, h9.many, h9.safe, h9.names, h9.short⟩⟩
  · have := h3.set 2 (.map (some pm))
    simpa using this
  · exact h7.1.2.2 (List.mem_map.2 ⟨r, hr, e⟩)
  · simp only [List.nodup_cons, List.mem_cons, List.mem_append, not_or, List.cons_append, List.nil_append]
    refine ⟨⟨h7.1.1, fun e => hpm.1 e.symm, h7.1.2.2⟩, ⟨fun e => hpm.2.1 e.symm, h7.2.1.2⟩, hpm.2.2.2, h7.2.2.2.1⟩
  · intro k hk
    simp only [List.mem_cons, List.mem_append, List.cons_append, List.nil_append] at hk
    rcases hk with e | e | e | e
    · exact h8 k (by simp [e])
    · exact h8 k (by simp [e])
    · rw [e]; exact hng
    · exact h8 k (by simp [e])
end
end Go.Proofs.YtbmejbmkaoekgaaGreatDoor
