/- Arguments that came in: bools, ints, faults. -/
import Derived.Test.YtbmejbmkaoekgaaGreatDoorLasts
import Derived.Deep.SlicePairs
import Derived.Deep.Grids
import Derived.ChangeSlices
namespace Go.Proofs.YtbmejbmkaoekgaaGreatDoor
open Go Go.ChangeShapes Go.WideShapes Go.RowKit Go.Deep
set_option linter.unusedVariables false
set_option linter.unusedSimpArgs false
set_option maxRecDepth 100000

theorem faultP : (match Tryz.prog.underlying 78 with | some (.struct fs) => fs.toList.map (fun f => (f.offset, f.type)) | _ => []) = [(0, 3), (1, 3)] := by kernel_rfl
theorem faultS : ∃ f0 f1 : Field, Tryz.prog.underlying 78 = some (.struct #[f0, f1]) ∧ f0.offset = 0 ∧ f1.offset = 1 ∧ f0.type = 3 ∧ f1.type = 3 := by
  have h := faultP
  generalize Tryz.prog.underlying 78 = u at h ⊢
  split at h
  · rename_i fs
    obtain ⟨l⟩ := fs
    rcases l with _ | ⟨f0, _ | ⟨f1, _ | ⟨f2, l⟩⟩⟩
    · simp at h
    · simp at h
    · simp at h
      exact ⟨f0, f1, rfl, h.1.1, h.2.1, h.1.2, h.2.2⟩
    · simp at h
  · cases h
theorem uFaultsT : Tryz.prog.underlying 39 = some (.slice 78) := by kernel_rfl
theorem cellsFaultT : Tryz.prog.cellsOf 78 = 2 := by kernel_rfl

section
variable {H : Type} {enc : TypeId × Value → H} {w : World} {base : Nat} {held : Bool}
theorem cellsBool : Tryz.prog.cellsOf 4 = 1 := by kernel_rfl
theorem uBoolT : Tryz.prog.underlying 4 = some .bool := by kernel_rfl
theorem uBoolsT : Tryz.prog.underlying 38 = some (.slice 4) := by kernel_rfl
theorem cellsInt : Tryz.prog.cellsOf 3 = 1 := by kernel_rfl
theorem uIntsT : Tryz.prog.underlying 40 = some (.slice 3) := by kernel_rfl

theorem open_boolsAt {v : Value} {d : DataW H} {ps : List MemPlace} {a0 : Option Addr} {len cap : Nat} (hv : v = .slice a0 len cap) (h : DataW.Trod enc Tryz.prog w base (fun _ => true) held 38 v d ps) : ∃ zs, BoolsAt w v zs := by
  subst hv
  obtain ⟨fuel, hf⟩ := h
  rcases open_bools uBoolsT uBoolT cellsBool hf with ⟨hcs, hx⟩ | ⟨a, len', cap', B, hcs, _, hl, hm, hx, hc⟩
  · simp [Value.cells] at hcs
    obtain ⟨rfl, rfl, rfl⟩ := hcs
    exact ⟨[], none, 0, rfl, by simp, fun i hi => by simp at hi⟩
  · simp [Value.cells] at hcs
    obtain ⟨rfl, rfl, rfl⟩ := hcs
    refine ⟨(List.range len).map B, some a, cap, by simp, by simp; unfold maxLen at hm; omega, fun i hi => ?_⟩
    have hi' : i < len := by simpa using hi
    obtain ⟨g, off, cs, t, fz, e1, e2, e3⟩ := cell_block (hc 0 (by omega))
    have ha : a = ⟨g, off, none⟩ := by simpa [Addr.add] using e1
    refine ⟨g, off, by rw [ha], lt_of_heap e2, ?_⟩
    have := hc i (by omega)
    rw [ha, add_at] at this
    rw [this]; simp

theorem open_intsAt {v : Value} {d : DataW H} {ps : List MemPlace} {a0 : Option Addr} {len cap : Nat} (hv : v = .slice a0 len cap) (h : DataW.Trod enc Tryz.prog w base (fun _ => true) held 40 v d ps) : ∃ zs, IntsAt w v zs := by
  subst hv
  obtain ⟨fuel, hf⟩ := h
  rcases open_ints uIntsT uInt cellsInt hf with ⟨hcs, hx⟩ | ⟨a, len', cap', zs, hcs, _, hl, hm, hz, hx, hc, _⟩
  · simp [Value.cells] at hcs
    obtain ⟨rfl, rfl, rfl⟩ := hcs
    exact ⟨[], none, 0, rfl, by simp, fun i hi => by simp at hi⟩
  · simp [Value.cells] at hcs
    obtain ⟨rfl, rfl, rfl⟩ := hcs
    simp only [if_true] at hz
    have hzl : (zs.take len).length = len := by rw [List.length_take]; omega
    refine ⟨zs.take len, some a, cap, by rw [hzl], by rw [hzl]; unfold maxLen at hm; omega, fun i hi => ?_⟩
    have hi' : i < len := by omega
    obtain ⟨g, off, cs, t, fz, e1, e2, e3⟩ := cell_block (hc 0 (by omega))
    have ha : a = ⟨g, off, none⟩ := by simpa [Addr.add] using e1
    refine ⟨g, off, by rw [ha], lt_of_heap e2, ?_⟩
    have := hc i (by omega)
    rw [ha, add_at] at this
    rw [this, List.getD_eq_getElem?_getD, List.getElem?_eq_getElem (by omega)]
    simp

theorem open_plist {v : Value} {d : DataW H} {ps : List MemPlace} {a0 : Option Addr} {len cap : Nat} (hv : v = .slice a0 len cap) (h : DataW.Trod enc Tryz.prog w base (fun _ => true) held 39 v d ps) :
    ∃ l, PList w w.heap.size v l ∧ (l.length = 0 ∨ ∃ es sp, d = .slice es sp ∧ es.length = l.length) := by
  subst hv
  obtain ⟨fuel, hf⟩ := h
  obtain ⟨f0, f1, he, o0, o1, t0, t1⟩ := faultS
  rcases open_slice_pairs uFaultsT he cellsFaultT o0 o1 (by rw [t0]; exact cellsInt) (by rw [t1]; exact cellsInt) hf with ⟨hcs, hx⟩ | ⟨a, len', cap', m, n, V0, V1, D0, D1, P0, P1, hcs, _, hl, hm, hmm, hx, hall⟩
  · simp [Value.cells] at hcs
    obtain ⟨rfl, rfl, rfl⟩ := hcs
    exact ⟨[], ⟨none, 0, rfl, by simp, by decide, fun h => by simp at h⟩, .inl rfl⟩
  · simp [Value.cells] at hcs
    obtain ⟨rfl, rfl, rfl⟩ := hcs
    have hlm : len ≤ m := by rw [hmm]; split <;> omega
    have key : ∀ i, i < len → ∃ p : Int × Int, V0 i = .int .i64 p.1 ∧ V1 i = .int .i64 p.2 := fun i hi => by
      obtain ⟨_, _, q0, q1⟩ := hall i (by omega)
      obtain ⟨x, hx0, _⟩ := DataW.trod_int (by rw [t0]; exact uInt) q0
      obtain ⟨y, hy0, _⟩ := DataW.trod_int (by rw [t1]; exact uInt) q1
      exact ⟨(x, y), by simpa using hx0, by simpa using hy0⟩
    obtain ⟨B, hB⟩ : ∃ B : Nat → Int × Int, ∀ i, i < len → V0 i = .int .i64 (B i).1 ∧ V1 i = .int .i64 (B i).2 :=
      ⟨fun i => if h : i < len then Classical.choose (key i h) else (0, 0), fun i hi => by simp only [dif_pos hi]; exact Classical.choose_spec (key i hi)⟩
    refine ⟨(List.range len).map B, ⟨some a, cap, by simp, by simpa using hl, hm, fun h0 => ?_⟩, .inr ⟨_, _, by injection hx, by simp⟩⟩
    simp at h0
    obtain ⟨g, off, cs, t, fz, e1, e2, e3⟩ := cell_block (hall 0 (by omega)).1
    have ha : a = ⟨g, off, none⟩ := by simpa [Addr.add] using e1
    refine ⟨g, off, cs, t, fz, by rw [ha], lt_of_heap e2, e2, fun i p hp => ?_⟩
    rw [List.getElem?_map] at hp
    obtain ⟨r, hr, rfl⟩ := Option.map_eq_some_iff.1 hp
    have hil : i < len := by have := (List.getElem?_eq_some_iff.1 hr).1; simpa using this
    have hri : r = i := by
      have := (List.getElem?_eq_some_iff.1 hr).2
      simpa using this.symm
    subst hri
    obtain ⟨c1, c2, _, _⟩ := hall r (by omega)
    rw [(hB r hil).1] at c1
    rw [(hB r hil).2] at c2
    refine ⟨?_, ?_⟩
    · obtain ⟨g', off', cs', t', fz', f1, f2, f3⟩ := cell_block c1
      rw [ha, add_at] at f1
      injection f1 with hg' ho'
      subst hg'
      rw [e2] at f2
      injection f2 with f2
      injection f2 with f2
      subst f2
      rw [ho']; exact f3
    · obtain ⟨g', off', cs', t', fz', f1, f2, f3⟩ := cell_block c2
      rw [ha, add_at] at f1
      injection f1 with hg' ho'
      subst hg'
      rw [e2] at f2
      injection f2 with f2
      injection f2 with f2
      subst f2
      have : off + r * 2 + 1 = off' := by omega
      rw [this]; exact f3

theorem has_lt {r : Reach} {t : TypeId} {e : TypeId} {a : Addr} {len cap : Nat} (ht : Tryz.prog.underlying t = some (.slice e)) (h : Value.okWide Tryz.prog w r base t (.slice (some a) len cap)) : a.block < w.heap.size := by
  simp only [Value.okWide, ht, Cell.okWide, Cell.ok] at h
  obtain ⟨_, _, _, _, row, cells, hs, _⟩ := h
  unfold World.shape? at hs
  by_cases hl : a.block < w.heap.size
  · exact hl
  · rw [Array.getElem?_eq_none (by omega)] at hs
    simp at hs
end
end Go.Proofs.YtbmejbmkaoekgaaGreatDoor
