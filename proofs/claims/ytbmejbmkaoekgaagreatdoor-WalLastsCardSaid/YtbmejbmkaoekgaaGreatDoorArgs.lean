/- Arguments that came in: slices of slices of bytes, of ints, of bools. -/
import Derived.Test.YtbmejbmkaoekgaaGreatDoorW2
import Derived.Deep.Matrix
import Derived.ProofKit
import Derived.WideShapes
namespace Go.Proofs.YtbmejbmkaoekgaaGreatDoor
open Go Go.ChangeShapes Go.WideShapes Go.RowKit Go.Deep
set_option linter.unusedVariables false
set_option linter.unusedSimpArgs false

theorem cell_block {w : World} {p : Addr} {v : Value} (h : w.cell? p = some v) : ∃ g off cs t fz, p = ⟨g, off, none⟩ ∧ w.heap[g]? = some (.cells cs t fz) ∧ cs[off]? = some v := by
  obtain ⟨g, off, spot⟩ := p
  unfold World.cell? at h
  simp only at h
  cases hg : w.heap[g]? with
  | none => rw [hg] at h; cases h
  | some o =>
    rw [hg] at h
    cases o with
    | cells cs t fz =>
      simp only at h
      by_cases hs : spot.isSome = true
      · rw [if_pos hs] at h; cases h
      · rw [if_neg hs] at h
        have : spot = none := by cases spot <;> simp_all
        subst this
        exact ⟨g, off, cs, t, fz, rfl, hg, h⟩
    | _ => cases h

/-- A slice of slices of bytes that came in; all lies below N. -/
def AList (w : World) (N : Nat) (v : Value) (l : List (List UInt8)) : Prop :=
  ∃ (A : Option Addr) (c : Nat) (us : List Value), v = .slice A l.length c ∧ l.length ≤ c ∧ c ≤ maxLen ∧ us.length = l.length ∧
    (0 < l.length → ∃ g off cs t fz, A = some ⟨g, off, none⟩ ∧ g < N ∧ w.heap[g]? = some (.cells cs t fz) ∧ ∀ i (u : Value), us[i]? = some u → cs[off + i]? = some u) ∧
    ∀ (i : Nat) (u : Value) (bs : List UInt8), us[i]? = some u → l[i]? = some bs → ∃ t8, Bytes w t8 u bs ∧ (0 < bs.length → ∀ a n c, u = .slice (some a) n c → a.block < N)

theorem AList.keep {w w' : World} {N : Nat} {S : Nat → Prop} {v : Value} {l : List (List UInt8)} (h : AList w N v l) (k : Keep S w w') (hS : ∀ b, S b → N ≤ b) : AList w' N v l := by
  obtain ⟨A, c, us, h1, h2, h3, h4, h5, h6⟩ := h
  refine ⟨A, c, us, h1, h2, h3, h4, fun h0 => ?_, fun i u bs hu hb => ?_⟩
  · obtain ⟨g, off, cs, t, fz, e1, e0, e2, e3⟩ := h5 h0
    exact ⟨g, off, cs, t, fz, e1, e0, (k.block g (lt_of_heap e2) (fun f => by have := hS g f; omega)).trans e2, e3⟩
  · obtain ⟨t8, ⟨A', c', q1, q2, q3, q4⟩, ho⟩ := h6 i u bs hu hb
    refine ⟨t8, ⟨A', c', q1, q2, q3, fun h0 => ?_⟩, ho⟩
    obtain ⟨g, off, cs, fz, e1, e2, e3⟩ := q4 h0
    have hg := ho h0 ⟨g, off, none⟩ _ _ (by rw [q1, e1])
    exact ⟨g, off, cs, fz, e1, (k.block g (lt_of_heap e2) (fun f => by have := hS g f; simp only at hg; omega)).trans e2, e3⟩

theorem AList.at_ {w : World} {N : Nat} {v : Value} {l : List (List UInt8)} (h : AList w N v l) {i : Nat} (hi : i < l.length) :
    ∃ g off c u, v = .slice (some ⟨g, off, none⟩) l.length c ∧ g < w.heap.size ∧ w.cell? ⟨g, off + i, none⟩ = some u ∧ ∃ t8, Bytes w t8 u l[i] ∧ (0 < l[i].length → ∀ a n c, u = .slice (some a) n c → a.block < N) := by
  obtain ⟨A, c, us, rfl, _, _, hl, hx, hb⟩ := h
  obtain ⟨g, off, cs, t, fz, rfl, hN, hg, hc⟩ := hx (by omega)
  have hu : us[i]? = some (us[i]'(by omega)) := List.getElem?_eq_getElem (by omega)
  refine ⟨g, off, c, _, rfl, lt_of_heap hg, ?_, hb i _ _ hu (List.getElem?_eq_getElem hi)⟩
  simp only [World.cell?, hg, Option.isSome_none, Bool.false_eq_true, if_false]
  exact hc i _ hu

section
variable {H : Type} {enc : TypeId × Value → H} {w : World} {base : Nat} {held : Bool}
theorem u8_of {n : Int} (h : (Lit.int .u8 n).wf = true) : n = (((UInt8.ofNat n.toNat).toNat : Nat) : Int) := by
  have h1 : 0 ≤ n ∧ n ≤ 255 := by simpa [Lit.wf, IntKind.min, IntKind.max, IntKind.signed, IntKind.bits] using h
  simp
  omega

/-- One row of bytes, as its ints read. -/
theorem bytes_of {A : Option Addr} {L C : Nat} {Z : List Int} (hL : L ≤ C) (hC : C ≤ maxLen) (hZ : Z.length = C) (hw : ∀ n ∈ Z, (Lit.int .u8 n).wf = true) (hn : A = none → C = 0)
    (hc : ∀ a', A = some a' → base ≤ a'.block ∧ ∀ c, c < C → w.cell? (a'.add c) = some (.int .u8 (Z.getD c 0))) :
    ∃ t8 bs, Bytes w t8 (.slice A L C) bs ∧ bs.length = L ∧ (0 < bs.length → ∀ a n c, (Value.slice A L C) = .slice (some a) n c → a.block < w.heap.size) := by
  cases A with
  | none =>
    have h0 := hn rfl
    have hL0 : L = 0 := by omega
    subst hL0
    exact ⟨0, [], ⟨none, C, rfl, by simp, hC, fun h => by simp at h⟩, rfl, fun h => by simp at h⟩
  | some a =>
    obtain ⟨_, hcell⟩ := hc a rfl
    by_cases h0 : C = 0
    · have hL0 : L = 0 := by omega
      subst hL0
      exact ⟨0, [], ⟨some a, C, rfl, by simp, hC, fun h => by simp at h⟩, rfl, fun h => by simp at h⟩
    · obtain ⟨g, off, cs, t, fz, e1, e2, e3⟩ := cell_block (hcell 0 (by omega))
      have ha : a = ⟨g, off, none⟩ := by simpa [Addr.add] using e1
      refine ⟨t, (Z.take L).map (fun z => UInt8.ofNat z.toNat), ⟨some a, C, by simp [hZ]; omega, by simp; omega, hC, fun _ => ⟨g, off, cs, fz, by rw [ha], e2, fun i b hb => ?_⟩⟩, by simp [hZ]; omega, fun _ a' n c e => ?_⟩
      · rw [List.getElem?_map, List.getElem?_take] at hb
        have hi : i < L := by
          by_cases h : i < L
          · exact h
          · rw [if_neg h] at hb; cases hb
        rw [if_pos hi] at hb
        have hiZ : i < Z.length := by omega
        rw [List.getElem?_eq_getElem hiZ] at hb
        simp at hb
        subst hb
        obtain ⟨g', off', cs', t', fz', f1, f2, f3⟩ := cell_block (hcell i (by omega))
        rw [ha, add_at] at f1
        injection f1 with hg' ho'
        subst hg'
        rw [e2] at f2
        injection f2 with f2
        injection f2 with f2
        subst f2
        rw [ho', f3]
        have := u8_of (hw Z[i] (List.getElem_mem hiZ))
        simp only [bv]
        rw [List.getD_eq_getElem?_getD, List.getElem?_eq_getElem hiZ]
        simp only [Option.getD_some]
        rw [← this]
      · injection e with e
        injection e with e
        subst e
        have : a.block = g := by rw [ha]
        rw [this]; exact lt_of_heap e2

theorem cellsByte : Tryz.prog.cellsOf 5 = 1 := by kernel_rfl
theorem cellsBytes : Tryz.prog.cellsOf 31 = 1 := by kernel_rfl
theorem uRecs' : Tryz.prog.underlying 22 = some (.slice 31) := by kernel_rfl

theorem open_alist {v : Value} {d : DataW H} {ps : List MemPlace} {a0 : Option Addr} {len cap : Nat} (hv : v = .slice a0 len cap) (h : DataW.Trod enc Tryz.prog w base (fun _ => true) held 22 v d ps) :
    ∃ l, AList w w.heap.size v l ∧ (l.length = 0 ∨ ∃ es sp, d = .slice es sp ∧ es.length = l.length) := by
  subst hv
  obtain ⟨fuel, hf⟩ := h
  rcases open_int_rows uRecs' uBytes uByte cellsBytes cellsByte hf with ⟨hcs, hx⟩ | ⟨a, len', cap', A, L, C, Z, hcs, _, hl, hm, hx, hall⟩
  · simp [Value.cells] at hcs
    obtain ⟨rfl, rfl, rfl⟩ := hcs
    exact ⟨[], ⟨none, 0, [], rfl, by simp, by decide, rfl, fun h => by simp at h, fun i u bs hu => by simp at hu⟩, .inl rfl⟩
  · simp [Value.cells] at hcs
    obtain ⟨rfl, rfl, rfl⟩ := hcs
    have key : ∀ r, r < len → ∃ t8 bs, Bytes w t8 (.slice (A r) (L r) (C r)) bs ∧ bs.length = L r ∧ (0 < bs.length → ∀ a n c, (Value.slice (A r) (L r) (C r)) = .slice (some a) n c → a.block < w.heap.size) := fun r hr => by
      obtain ⟨_, q2, q3, q4, q5, q6, q7⟩ := hall r (by omega)
      exact bytes_of q2 q3 q4 q5 q6 q7
    obtain ⟨B, hB⟩ : ∃ B : Nat → List UInt8, ∀ r, r < len → ∃ t8, Bytes w t8 (.slice (A r) (L r) (C r)) (B r) ∧ (0 < (B r).length → ∀ a n c, (Value.slice (A r) (L r) (C r)) = .slice (some a) n c → a.block < w.heap.size) := by
      refine ⟨fun r => if h : r < len then Classical.choose (Classical.choose_spec (key r h)) else [], fun r hr => ?_⟩
      simp only [dif_pos hr]
      have := Classical.choose_spec (Classical.choose_spec (key r hr))
      exact ⟨_, this.1, this.2.2⟩
    refine ⟨(List.range len).map B, ⟨some a, cap, (List.range len).map (fun r => .slice (A r) (L r) (C r)), by simp, by simpa using hl, hm, by simp, fun h0 => ?_, fun i u bs hu hb => ?_⟩, .inr ⟨_, _, by injection hx, by simp⟩⟩
    · simp at h0
      obtain ⟨g, off, cs, t, fz, e1, e2, e3⟩ := cell_block (hall 0 (by omega)).1
      have ha : a = ⟨g, off, none⟩ := by simpa [Addr.add] using e1
      refine ⟨g, off, cs, t, fz, by rw [ha], lt_of_heap e2, e2, fun i u hu => ?_⟩
      rw [List.getElem?_map] at hu
      obtain ⟨r, hr, rfl⟩ := Option.map_eq_some_iff.1 hu
      have hil : i < len := by have := (List.getElem?_eq_some_iff.1 hr).1; simpa using this
      have hri : r = i := by
        have := (List.getElem?_eq_some_iff.1 hr).2
        simpa using this.symm
      subst hri
      obtain ⟨g', off', cs', t', fz', f1, f2, f3⟩ := cell_block (hall r (by omega)).1
      rw [ha, add_at] at f1
      injection f1 with hg' ho'
      subst hg'
      rw [e2] at f2
      injection f2 with f2
      injection f2 with f2
      subst f2
      rw [ho']; exact f3
    · rw [List.getElem?_map] at hu hb
      obtain ⟨r, hr, rfl⟩ := Option.map_eq_some_iff.1 hu
      rw [hr] at hb
      simp at hb
      subst hb
      have hrl : r < len := by
        have h1 := (List.getElem?_eq_some_iff.1 hr)
        obtain ⟨h1, h2⟩ := h1
        simp at h1 h2; omega
      exact hB r hrl
end
end Go.Proofs.YtbmejbmkaoekgaaGreatDoor
