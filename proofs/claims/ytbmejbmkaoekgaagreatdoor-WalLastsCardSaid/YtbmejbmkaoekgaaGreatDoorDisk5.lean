/- The names of the files, in order; List. -/
import Derived.Test.YtbmejbmkaoekgaaGreatDoorDisk4
import Derived.Test.YtbmejbmkaoekgaaGreatDoorIter
import Derived.OwnWalkIn
namespace Go.Proofs.YtbmejbmkaoekgaaGreatDoor
open Go Go.RowKit Go.Sort
set_option linter.unusedVariables false
set_option linter.unusedSimpArgs false

/-- A slice of strings, in a row of the call's own. -/
def NList (w : World) (base : Nat) (v : Value) (l : List (List UInt8)) : Prop := w.ownsRow base tStr 1 v l.length (l.map sv)

def anyR (v : Value) : Option (DataW Unit × List MemPlace) := some (.nil, [])

theorem owns_of_is {P : Program} {kt : TypeId} (hkt : P.underlying kt = some .string) {w : World} {r : Nat} {L : List (List UInt8 × Value)} (h : IsMap w r .string (fun l => sv l) L) (hl : ∀ q ∈ L, q.1.length ≤ 9223372036854775807) (hs : L.length ≤ 9223372036854775807) :
    ∃ D : DataW Unit, w.ownsMap P kt anyR r L.length D ∧ (strKeys D).Perm (L.map (·.1)) ∧ Maps.size D = L.length := by
  obtain ⟨es, clock, hb, hst, hL⟩ := h
  have hsz : es.size = L.length := by have := congrArg List.length hL; simpa using this
  have hkey : ∀ x ∈ es.toList, ∃ q ∈ L, x.key = sv q.1 ∧ keyOf P kt x.key = some (.string q.1) := by
    intro x hx
    have hm : (x.key, x.val) ∈ es.toList.map (fun e => (e.key, e.val)) := List.mem_map.2 ⟨x, hx, rfl⟩
    rw [hL] at hm
    obtain ⟨q, hq, he⟩ := List.mem_map.1 hm
    injection he with e1 e2
    have hql := hl q hq
    refine ⟨q, hq, e1.symm, ?_⟩
    rw [← e1]
    have := WideMaps.keyOf_string_mk (P := P) (s := ⟨q.1.toArray⟩) hkt (by simp [ByteArray.size, maxLen]; omega)
    simpa using this
  refine ⟨_, ⟨es, clock, hb, ⟨by rw [hsz]; unfold maxLen; omega, hst, fun x hx => ?_⟩, by omega, rfl⟩, ?_, ?_⟩
  · obtain ⟨q, _, _, hk⟩ := hkey x hx
    exact ⟨(.string q.1, .nil), by simp [WideElems.rd, hk, anyR]⟩
  · show ((((es.toList.map (WideElems.rg P kt anyR)).foldr DataW.insert [])).map fun p => strOf p.1).Perm _
    refine ((Go.WideShapes.sorted_perm _).map _).trans (List.Perm.of_eq ?_)
    rw [List.map_map]
    have e : L.map (·.1) = es.toList.map (fun x => strOf (WideElems.rg P kt anyR x).1) := by
      have h2 : ∀ (l : List MapEntry) (M : List (List UInt8 × Value)), (∀ x ∈ l, ∃ q : List UInt8, x.key = sv q ∧ keyOf P kt x.key = some (.string q)) → l.map (fun e => (e.key, e.val)) = M.map (fun p => (sv p.1, p.2)) → M.map (·.1) = l.map (fun x => strOf (WideElems.rg P kt anyR x).1) := by
        intro l
        induction l with
        | nil => intro M _ hM; have : M = [] := by simpa using hM.symm
                 subst this; rfl
        | cons x l ih =>
          intro M hx hM
          cases M with
          | nil => simp at hM
          | cons q M =>
            simp only [List.map_cons] at hM
            injection hM with h1 h2
            injection h1 with h1 _
            obtain ⟨q', e1, e2⟩ := hx x (.head _)
            have : q.1 = q' := keyS.inj _ _ (h1.symm.trans e1)
            simp only [List.map_cons]
            rw [ih M (fun y hy => hx y (.tail _ hy)) h2]
            congr 1
            rw [this]
            simp [WideElems.rg, WideElems.rd, e2, anyR, strOf]
      exact h2 es.toList L (fun x hx => by obtain ⟨q, _, a, b⟩ := hkey x hx; exact ⟨q.1, a, b⟩) hL
    exact e.symm
  · show (((es.toList.map (WideElems.rg P kt anyR)).foldr DataW.insert [])).length = _
    rw [length_sorted]; simp [hsz]

theorem encStr_sv (l : List UInt8) : encStr l = sv l := rfl

set_option maxHeartbeats 1000000 in
theorem names_go (w : World) (d : Nat) (st : DiskS) (F : List Nat) (h : DiskAt w d st F) :
    Calls Tryz.prog 32 #[ptr d] w fun e w' => ∃ v, e = .returned v ∧ NList w' w.heap.size v st.sorted ∧ Keep No w w' := by
  obtain ⟨fm, pv, pb, R, hR⟩ := h
  have hwf := hR.at_.wf
  obtain ⟨-, hRf, hcd, -, hm, -⟩ := hR
  have hkeys : (filesL R).map (·.1) = st.names := by
    unfold filesL DiskS.names
    rw [List.map_map, ← hRf, List.map_map]; rfl
  have hlen : (filesL R).length = st.files.length := by unfold filesL; rw [List.length_map, ← hRf, List.length_map]
  obtain ⟨D, hown, hperm, hsz⟩ := owns_of_is (P := Tryz.prog) uStr hm (fun q hq => by
    have : q.1 ∈ (filesL R).map (·.1) := List.mem_map.2 ⟨q, hq, rfl⟩
    rw [hkeys] at this
    obtain ⟨f, hf, he⟩ := List.mem_map.1 this
    have := hwf.short f hf
    rw [← he]; omega) (by have := hwf.many; omega)
  have c1 := hcd.cell 1
  simp only [List.getElem?_toArray, List.getElem?_cons_succ, List.getElem?_cons_zero] at c1
  have hp2 : (strKeys D).Perm st.names := hkeys ▸ hperm
  have Hp2 := Lib.hid hp2
  have Hown := Lib.hid hown
  have hmany := hwf.many
  have hszb : Maps.size D ≤ 16 := by omega
  clear hkeys hlen hperm hRf hcd hm hp2 hown hsz
  refine (callsIn_wide (n := 6)).1 ?_
  have hfK : Fence.wide.fn 51 := trivial
  have hfS : Fence.wide.fn 50 := trivial
  refine callsIn_of_wp Tryz.func32 rfl trivial ?_ rfl
  simp only [Tryz.ntmps32, List.size_toArray, List.length_cons, List.length_nil, Nat.reduceAdd, Nat.reduceSub, Array.replicate_succ, Array.replicate_zero, List.push_toArray, List.append_toArray, List.nil_append, List.cons_append]
  gi_wp2_with (first
    | (gi_at_call 51; refine (Tryz.maps_Keys_51 _ _).mono ?_; rintro e w' ⟨rfl, rfl⟩)
    | (gi_at_call 50; refine (Tryz.slices_Sorted_keys_50_51 fm _ D anyR w Hown.out (by unfold maxLen; omega) (by omega)).mono ?_; rintro e w' ⟨v, ss, rfl, hS, hrow, hnil, hb⟩))
  go_ret
  have hsort : ss.mergeSort leB = st.sorted := mergeSort_of_perm (hS.trans Hp2.out)
  have hl : ss.length = st.sorted.length := by rw [← hsort, List.length_mergeSort]
  refine ⟨v, rfl, ?_, ((Keep.refl No w).alloc _).trans (Keep.of_below hb) (fun _ f => f.elim)⟩
  unfold NList
  rw [← hl, ← hsort]
  exact ownsRow_base_a hrow (by simp)

theorem list_go (w : World) (d : Nat) (st : DiskS) (F : List Nat) (h : DiskAt w d st F) :
    Calls Tryz.prog 11 #[ptr d] w fun e w' => ∃ v, e = .returned v ∧ NList w' w.heap.size v st.list ∧ Keep No w w' := by
  have hn := Lib.hid (names_go w d st F h)
  obtain ⟨fm, pv, pb, R, hR⟩ := h
  obtain ⟨-, -, hcd, -, -, -⟩ := hR
  have c4 := hcd.cell 4
  simp only [List.getElem?_toArray, List.getElem?_cons_succ, List.getElem?_cons_zero] at c4
  clear hcd
  by_cases hdown : st.down = true
  · have e : st.list = [] := by unfold DiskS.list; rw [if_pos hdown]
    rw [hdown] at c4
    have He := Lib.hid e; clear e hdown hn
    go_enter Tryz.func11, Tryz.ntmps11
    go_wp2_with fail
    go_ret
    exact ⟨_, rfl, by rw [He.out]; exact World.ownsRow_nil _ _ _ _, Keep.refl _ w⟩
  · have e : st.list = st.sorted := by unfold DiskS.list; rw [if_neg hdown]
    have hd' : st.down = false := by simpa using hdown
    rw [hd'] at c4
    have He := Lib.hid e; clear e hdown hd'
    go_enter Tryz.func11, Tryz.ntmps11
    go_wp2_with fail
    refine hn.out.mono ?_
    rintro e w1 ⟨v, rfl, hv, hk⟩
    have Hv := Lib.hid hv; clear hv
    go_wp2_with fail
    go_ret
    exact ⟨v, rfl, by rw [He.out]; exact Hv.out, hk⟩
end Go.Proofs.YtbmejbmkaoekgaaGreatDoor
