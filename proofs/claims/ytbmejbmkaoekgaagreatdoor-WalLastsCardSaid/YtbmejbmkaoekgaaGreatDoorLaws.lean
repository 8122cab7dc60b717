/- Laws for the walk: append from a source that may be nil or empty, what Grow of a nil slice makes, a map's operations at the operation. -/
import Derived.Test.YtbmejbmkaoekgaaGreatDoorBase
import Derived.Maps.AppendAt
import Derived.OwnWalk
import Derived.Lib.AppendZeros
namespace Go.Proofs.YtbmejbmkaoekgaaGreatDoor
open Go Go.RowKit Go.MapKept
set_option linter.unusedSimpArgs false
set_option linter.unusedVariables false
set_option linter.unusedSectionVars false

/-- The slice value u shows the cells xs, each of one cell (it may be nil where there is none). -/
def Shows (w : World) (u : Value) (m : Nat) (xs : List Value) : Prop :=
  ∃ A c, u = .slice A m c ∧ xs.length = m ∧ (0 < m → ∃ a, A = some a ∧ ∀ j x, xs[j]? = some x → w.cell? (a.add j) = some x)

theorem Bytes.shows {w : World} {t8 : TypeId} {v : Value} {bs : List UInt8} (h : Bytes w t8 v bs) : Shows w v bs.length (bs.map bv) := by
  have h' := h
  obtain ⟨A, c, rfl, hc, hm, hx⟩ := h
  refine ⟨A, c, rfl, by simp, fun h0 => ?_⟩
  obtain ⟨g, off, cs, fz, rfl, hg, hb⟩ := hx h0
  refine ⟨_, rfl, fun j x hj => ?_⟩
  have hjl : j < bs.length := by have := (List.getElem?_eq_some_iff.1 hj).1; simpa using this
  obtain ⟨a, c', he, _, hcell⟩ := h'.at_ hjl
  injection he with he _ _
  injection he with he
  subst he
  rw [hcell]
  rw [List.getElem?_map, List.getElem?_eq_getElem hjl] at hj
  exact hj

section
variable {P : Program} (w : World)

theorem run_append_zero (base : Nat) (t ty e : TypeId) (i : TypeInfo) (ht : P.underlying t = some (.slice e)) (hi : P.info? e = some i)
    (v : Value) (n : Nat) (xs : List Value) (hown : w.ownsRow base e i.size v n xs) (c : Nat) : (Builtin.append_ #[t, t] ty #[v, .slice none 0 c]).run P w = .ok v w := by
  rcases hown.2 with ⟨rfl, rfl⟩ | ⟨g, cap, cur, rfl, _, _, hnc, _⟩
  · simp [Builtin.append_, run_underlying ht, sizeOf, typeInfo, hi, Builtin.lenOf, Builtin.firstCells]
  · simp [Builtin.append_, run_underlying ht, sizeOf, typeInfo, hi, Builtin.lenOf, Builtin.firstCells, hnc, storeCells]

/-- append of whatever a slice shows, of elements of one cell. -/
theorem run_append_shows (base : Nat) (t ty e : TypeId) (z : Value) (bytes : Nat) (ht : P.underlying t = some (.slice e)) (hi : (P.info? e).map (fun i => (i.zero, i.size, i.bytes)) = some (some z, 1, bytes)) (hz : z.cells.size = 1)
    (v : Value) (n : Nat) (xs : List Value) (hown : w.ownsRow base e 1 v n xs) (u : Value) (m : Nat) (ys : List Value) (hu : Shows w u m ys) (h1 : ∀ y ∈ ys, y.oneCell' = true)
    (h63 : n + m ≤ maxLen) (hbytes : (n + m) * bytes ≤ 140737488355328) (hbase : base ≤ w.heap.size) :
    ∃ v' w', (Builtin.append_ #[t, t] ty #[v, u]).run P w = .ok v' w' ∧ w'.ownsRow base e 1 v' (n + m) (xs ++ ys) ∧ w.grownBy w' v.ownBlock ∧
      (v' = .slice none 0 0 ↔ v = .slice none 0 0 ∧ m = 0) ∧ (v'.ownBlock = v.ownBlock ∨ v'.ownBlock = some w.heap.size) := by
  obtain ⟨i, hii, hz0, hs0, hb0⟩ := info_parts hi
  obtain ⟨A, c, rfl, hl, hx⟩ := hu
  rcases A with _ | a
  · have hm : m = 0 := by
      rcases Nat.eq_zero_or_pos m with h0 | h0
      · exact h0
      · obtain ⟨a, h, _⟩ := hx h0; cases h
    subst hm
    have hn : ys = [] := List.eq_nil_of_length_eq_zero hl
    subst hn
    refine ⟨v, w, run_append_zero w base t ty e i ht hii v n xs (by rw [hs0]; exact hown) c, by simpa using hown, ⟨rfl, rfl, rfl, Nat.le_refl _, fun _ _ _ => rfl⟩, by simp, .inl rfl⟩
  · have hc : ∀ j u, ys[j]? = some u → w.cell? (a.add j) = some u := by
      intro j u hj
      rcases Nat.eq_zero_or_pos m with h0 | h0
      · subst h0
        have hn : ys = [] := List.eq_nil_of_length_eq_zero hl
        subst hn; simp at hj
      · obtain ⟨a', h, hc⟩ := hx h0
        injection h with h
        subst h
        exact hc j u hj
    exact run_append_own_at (P := P) w base t ty e i z 1 bytes ht hii hz0 hs0 hb0 hz (by decide) v n xs hown a m c ys (by simpa using hl) hc h1 h63 hbytes hbase

theorem wpList_append_shows {ops : Array Oper} {rest : List Oper} {o : Oper} {a : Act} {Q : Exit → Act → World → Prop} (hgd : o.guard = none) (s x : Operand) (t : TypeId)
    (ho : o.op = .call { callee := .builtin .append, args := #[s, x], argTypes := #[t, t] })
    (base : Nat) (e : TypeId) (z : Value) (bytes : Nat) (ht : P.underlying t = some (.slice e)) (hi : (P.info? e).map (fun i => (i.zero, i.size, i.bytes)) = some (some z, 1, bytes)) (hz : z.cells.size = 1)
    (v : Value) (n : Nat) (xs : List Value) (hs : a.eval s = v) (hown : w.ownsRow base e 1 v n xs) (u : Value) (m : Nat) (ys : List Value) (hx : a.eval x = u) (hu : Shows w u m ys) (h1 : ∀ y ∈ ys, y.oneCell' = true)
    (h63 : n + m ≤ maxLen) (hbytes : (n + m) * bytes ≤ 140737488355328) (hbase : base ≤ w.heap.size)
    (h : ∀ v' w', w'.ownsRow base e 1 v' (n + m) (xs ++ ys) → w.grownBy w' v.ownBlock → (v' = .slice none 0 0 ↔ v = .slice none 0 0 ∧ m = 0) → (v'.ownBlock = v.ownBlock ∨ v'.ownBlock = some w.heap.size) → wpList P ops Q rest (a.put o.dst v') w') :
    wpList P ops Q (o :: rest) a w := by
  refine wpList_plain hgd fun K hK => ?_
  obtain ⟨v', w', hrun, h2, h3, h4, h5⟩ := run_append_shows (P := P) w base t o.type e z bytes ht hi hz v n xs hown u m ys hu h1 h63 hbytes hbase
  unfold Oper.wp execOp
  simp only [ho, resolve, invoke, builtin, Sem.run_bind, Sem.run_pure, Result.andThen_ok, List.map_toArray, List.map_cons, List.map_nil, hs, hx, hrun]
  exact hK _ _ (h v' w' h2 h3 h4 h5)

/-- append(s[:cap(s)], make([]E, n)...) of a nil s: a new row, all zero. -/
theorem run_append_zeros_new (t ty e xt : TypeId) (z : Value) (bytes : Nat) (ht : P.underlying t = some (.slice e)) (hxt : P.underlying xt = some (.int .i64)) (hi : (P.info? e).map (fun i => (i.zero, i.size, i.bytes)) = some (some z, 1, bytes)) (hz : z.cells.size = 1)
    (n : Nat) (h0 : 0 < n) (h63 : n ≤ maxLen) (hbytes : n * bytes ≤ 140737488355328) :
    ∃ cap w', (Builtin.append_ #[t, xt] ty #[.slice none 0 0, .int .i64 (n : Int)]).run P w = .ok (.slice (some ⟨w.heap.size, 0, none⟩) n cap) w' ∧
      w'.ownsRow w.heap.size e 1 (.slice (some ⟨w.heap.size, 0, none⟩) 0 cap) 0 [] ∧ n ≤ cap ∧ w.grownBy w' none := by
  obtain ⟨i, hii, hz0, hs0, hb0⟩ := info_parts hi
  refine ⟨_, _, Lib.run_append_nil_zeros w t xt ty e i z .i64 .i64 ht hxt hii hz0 n h0 (by omega) (by simp only [maxLen] at h63; omega) (by rw [hb0]; omega), ⟨by simp, .inr ⟨w.heap.size, _, _, rfl, Nat.le_refl _, heap_alloc_new w.drew _, Nat.zero_le _, grownCap_le_maxLen w n 0 e h63, ?_, by simp⟩⟩, grownCap_ge w n 0 e, ⟨rfl, rfl, rfl, by simp, fun k hk _ => heap_alloc_old w.drew _ hk⟩⟩
  have hge := grownCap_ge w n 0 e
  simp only [Array.size_append, size_zeroCells, hz]
  omega

theorem wpList_append_zeros_new {ops : Array Oper} {rest : List Oper} {o : Oper} {a : Act} {Q : Exit → Act → World → Prop} (hgd : o.guard = none) (s x : Operand) (t xt : TypeId)
    (ho : o.op = .call { callee := .builtin .append, args := #[s, x], argTypes := #[t, xt] })
    (e : TypeId) (z : Value) (bytes : Nat) (ht : P.underlying t = some (.slice e)) (hxt : P.underlying xt = some (.int .i64)) (hi : (P.info? e).map (fun i => (i.zero, i.size, i.bytes)) = some (some z, 1, bytes)) (hz : z.cells.size = 1)
    (hs : a.eval s = .slice none 0 0) (n : Nat) (hx : a.eval x = .int .i64 (n : Int)) (h0 : 0 < n) (h63 : n ≤ maxLen) (hbytes : n * bytes ≤ 140737488355328)
    (h : ∀ cap w', w'.ownsRow w.heap.size e 1 (.slice (some ⟨w.heap.size, 0, none⟩) 0 cap) 0 [] → n ≤ cap → w.grownBy w' none → wpList P ops Q rest (a.put o.dst (.slice (some ⟨w.heap.size, 0, none⟩) n cap)) w') :
    wpList P ops Q (o :: rest) a w := by
  refine wpList_plain hgd fun K hK => ?_
  obtain ⟨cap, w', hrun, h2, h3, h4⟩ := run_append_zeros_new (P := P) w t o.type e xt z bytes ht hxt hi hz n h0 h63 hbytes
  unfold Oper.wp execOp
  simp only [ho, resolve, invoke, builtin, Sem.run_bind, Sem.run_pure, Result.andThen_ok, List.map_toArray, List.map_cons, List.map_nil, hs, hx, hrun]
  exact hK _ _ (h cap w' h2 h3 h4)
end

/-! maps -/
section
variable {κ : Type} [DecidableEq κ] {P : Program} {w : World} {r : Nat} {d : TypeDesc} {enc : κ → Value} {L : List (κ × Value)}

theorem wpList_mapUpdate_is {ops : Array Oper} {rest : List Oper} {o : Oper} {a : Act} {Q : Exit → Act → World → Prop} (hgd : o.guard = none) (m x v : Operand) (t : TypeId) (hop : o.op = Op.mapUpdate t m x v)
    (kt e : TypeId) (hk : Keyish d enc) (ht : P.underlying t = some (.map kt e)) (hd : P.underlying kt = some d) (h : IsMap w r d enc L) (key : κ) (val : Value)
    (hm : a.eval m = .map (some r)) (hx : a.eval x = enc key) (hv : a.eval v = val)
    (hK : ∀ w', IsMap w' r d enc (putL L key val) → Keep (· = r) w w' → wpList P ops Q rest (a.put o.dst undef) w') : wpList P ops Q (o :: rest) a w := by
  refine wpList_plain hgd fun K hK' => ?_
  obtain ⟨w', hrun, h1, h2⟩ := h.update hk ht hd key val
  unfold Oper.wp
  simp [execOp, hop, hm, hx, hv, hrun, Result.andThen]
  exact hK' _ _ (hK w' h1 h2)

theorem map_eraseIdx {α β : Type} (f : α → β) : ∀ (l : List α) (j : Nat), (l.eraseIdx j).map f = (l.map f).eraseIdx j
  | [], _ => rfl
  | _ :: _, 0 => rfl
  | x :: l, j + 1 => by simp only [List.eraseIdx_cons_succ, List.map_cons, map_eraseIdx f l j]

/-- delete(m, k) -/
theorem IsMap.delete (h : IsMap w r d enc L) (hk : Keyish d enc) {t kt e ty : TypeId} (ht : P.underlying t = some (.map kt e)) (hd : P.underlying kt = some d) (k : κ) :
    ∃ w', (Builtin.delete_ #[t, kt] ty #[.map (some r), enc k]).run P w = .ok (.tuple #[]) w' ∧ IsMap w' r d enc (delL L k) ∧ Keep (· = r) w w' := by
  have hn := h.nodup
  obtain ⟨es, clock, hb, hs, hL⟩ := h
  rcases find_now hk hs hL hn k with ⟨h1, h2, h3⟩ | ⟨j, x, p, h1, hj, hp, hpk, h5, h6, h7⟩
  · refine ⟨{ w with heap := w.heap.setIfInBounds r (.map es clock) }, by simp [Builtin.delete_, run_underlying ht, MapKept.run_getObj_map hb, run_checkKey hd (hk.key k), run_findKey hd h1, run_setObj_map _ hb, Result.andThen], ⟨_, _, (heap_set hb).1, hs, ?_⟩, putObj_keep hb⟩
    have e : delL L k = L := by
      unfold delL
      rw [List.filter_eq_self]
      intro q hq
      simp only [decide_eq_true_eq]
      exact fun e => h3 (List.mem_map.2 ⟨q, hq, e⟩)
    rw [e]; exact hL
  · refine ⟨{ w with heap := w.heap.setIfInBounds r (.map (es.eraseIdxIfInBounds j) clock) }, by simp [Builtin.delete_, run_underlying ht, MapKept.run_getObj_map hb, run_checkKey hd (hk.key k), run_findKey hd h1, run_setObj_map _ hb, Result.andThen], ⟨_, _, (heap_set hb).1, stamped_erase hs j, ?_⟩, putObj_keep hb⟩
    have hjl : j < es.size := by have := (List.getElem?_eq_some_iff.1 hj).1; simpa using this
    have e1 : (es.eraseIdxIfInBounds j).toList = es.toList.eraseIdx j := by
      unfold Array.eraseIdxIfInBounds
      rw [dif_pos hjl, Array.toList_eraseIdx]
    rw [e1, map_eraseIdx, hL, ← map_eraseIdx]
    congr 1
    clear hb hs h1 hj hL h5 h6 h7 e1 hjl
    unfold delL
    induction L generalizing j with
    | nil => simp at hp
    | cons y L ih =>
      simp only [List.map_cons, List.nodup_cons] at hn
      cases j with
      | zero =>
        simp at hp
        subst hp
        rw [List.eraseIdx_zero, List.tail_cons, List.filter_cons_of_neg (by simpa using hpk)]
        symm
        rw [List.filter_eq_self]
        intro q hq
        simp only [decide_eq_true_eq]
        exact fun e => hn.1 (List.mem_map.2 ⟨q, hq, e.trans hpk.symm⟩)
      | succ j =>
        simp at hp
        have hne : y.1 ≠ k := fun e => hn.1 (List.mem_map.2 ⟨p, List.mem_of_getElem? hp, hpk.trans e.symm⟩)
        rw [List.eraseIdx_cons_succ, List.filter_cons_of_pos (by simpa using hne), ih hn.2 j hp]

theorem wpList_delete_is {ops : Array Oper} {rest : List Oper} {o : Oper} {a : Act} {Q : Exit → Act → World → Prop} (hgd : o.guard = none) (m x : Operand) (t kt e : TypeId)
    (ho : o.op = .call { callee := .builtin .delete, args := #[m, x], argTypes := #[t, kt] }) (hk : Keyish d enc) (ht : P.underlying t = some (.map kt e)) (hd : P.underlying kt = some d) (h : IsMap w r d enc L) (key : κ)
    (hm : a.eval m = .map (some r)) (hx : a.eval x = enc key)
    (hK : ∀ w', IsMap w' r d enc (delL L key) → Keep (· = r) w w' → wpList P ops Q rest (a.put o.dst (.tuple #[])) w') : wpList P ops Q (o :: rest) a w := by
  refine wpList_plain hgd fun K hK' => ?_
  obtain ⟨w', hrun, h1, h2⟩ := h.delete hk ht hd key (ty := o.type)
  unfold Oper.wp execOp
  simp only [ho, resolve, invoke, builtin, Sem.run_bind, Sem.run_pure, Result.andThen_ok, List.map_toArray, List.map_cons, List.map_nil, hm, hx, hrun]
  exact hK' _ _ (hK w' h1 h2)

theorem IsMap.len (h : IsMap w r d enc L) {t kt e ty : TypeId} (ht : P.underlying t = some (.map kt e)) : (Builtin.len_ #[t] ty #[.map (some r)]).run P w = .ok (.int .i64 (L.length : Int)) w := by
  obtain ⟨es, clock, hb, hs, hL⟩ := h
  have e : es.size = L.length := by
    have := congrArg List.length hL
    simpa using this
  simp [Builtin.len_, run_underlying ht, MapKept.run_getObj_map hb, Result.andThen, e, goInt]

/-- Block `it` is a walk over the map of block r: these entries are still to come. -/
def Iter (w : World) (it r : Nat) (d : TypeDesc) (enc : κ → Value) (L left : List (κ × Value)) : Prop :=
  ∃ es clock seen last, w.heap[r]? = some (.map es clock) ∧ Stamped es clock ∧ es.toList.map (fun e => (e.key, e.val)) = L.map (fun p => (enc p.1, p.2)) ∧
    w.heap[it]? = some (.mapIter (some r) clock seen last) ∧ clock ≤ last ∧ (leftOf es seen).toList.map (fun e => (e.key, e.val)) = left.map (fun p => (enc p.1, p.2))

theorem Iter.map {it : Nat} {left : List (κ × Value)} (h : Iter w it r d enc L left) : IsMap w r d enc L := by
  obtain ⟨es, clock, _, _, h1, h2, h3, _⟩ := h; exact ⟨es, clock, h1, h2, h3⟩
theorem Iter.lt {it : Nat} {left : List (κ × Value)} (h : Iter w it r d enc L left) : it < w.heap.size := by
  obtain ⟨_, _, _, _, _, _, _, h4, _⟩ := h; exact lt_of_heap h4
theorem Iter.keep {w' : World} {it : Nat} {left : List (κ × Value)} {S : Nat → Prop} (h : Iter w it r d enc L left) (k : Keep S w w') (h1 : ¬ S it) (h2 : ¬ S r) : Iter w' it r d enc L left := by
  have ha := h.lt
  have hb := h.map.lt
  obtain ⟨es, clock, seen, last, a1, a2, a3, a4, a5, a6⟩ := h
  exact ⟨es, clock, seen, last, (k.block r hb h2).trans a1, a2, a3, (k.block it ha h1).trans a4, a5, a6⟩

/-- 'range m': a new walk, all entries still to come. -/
theorem run_range_is (h : IsMap w r d enc L) {t kt e : TypeId} (ht : P.underlying t = some (.map kt e)) :
    ∃ w', (Instr.range t (.map (some r))).run P w = .ok (.pointer (some ⟨w.heap.size, 0, none⟩)) w' ∧ Iter w' w.heap.size r d enc L L ∧ Keep No w w' := by
  obtain ⟨es, clock, hb, hs, hL⟩ := h
  refine ⟨w.alloc (.mapIter (some r) clock #[] clock), ?_, ⟨es, clock, #[], clock, (Below.heap_alloc w _ r (lt_of_heap hb)).trans hb, hs, hL, heap_alloc_new w _, Nat.le_refl _, ?_⟩, (Keep.refl No w).alloc _⟩
  · simp [Instr.range, run_underlying ht, MapKept.run_getObj_map hb, Result.andThen, newObj, Sem.run]
  · rw [← hL]; unfold leftOf; rw [Array.toList_filter]; exact congrArg _ (List.filter_eq_self.2 (by simp))

theorem wpList_range_is {ops : Array Oper} {rest : List Oper} {o : Oper} {a : Act} {Q : Exit → Act → World → Prop} (hgd : o.guard = none) (x : Operand) (t : TypeId) (hop : o.op = Op.range t x)
    (kt e : TypeId) (ht : P.underlying t = some (.map kt e)) (h : IsMap w r d enc L) (hx : a.eval x = .map (some r))
    (hK : ∀ w', Iter w' w.heap.size r d enc L L → Keep No w w' → wpList P ops Q rest (a.put o.dst (.pointer (some ⟨w.heap.size, 0, none⟩))) w') : wpList P ops Q (o :: rest) a w := by
  refine wpList_plain hgd fun K hK' => ?_
  obtain ⟨w', hrun, h1, h2⟩ := run_range_is (P := P) h ht
  unfold Oper.wp
  simp [execOp, hop, hx, hrun, Result.andThen]
  exact hK' _ _ (hK w' h1 h2)

theorem perm_of_map {α β : Type} {f : α → β} (hf : ∀ a b, f a = f b → a = b) : ∀ {l m : List α}, (l.map f).Perm (m.map f) → l.Perm m
  | [], m, h => by
    have : m = [] := by simpa using h
    subst this; exact .nil
  | x :: l, m, h => by
    have hx : f x ∈ m.map f := h.mem_iff.1 (by simp)
    obtain ⟨y, hy, hxy⟩ := List.mem_map.1 hx
    have hyx : y = x := hf _ _ hxy
    subst hyx
    obtain ⟨m1, m2, rfl⟩ := List.append_of_mem hy
    have h2 : ((y :: l).map f).Perm ((y :: (m1 ++ m2)).map f) := h.trans (List.perm_middle.map f)
    rw [List.map_cons, List.map_cons] at h2
    exact (List.Perm.cons y (perm_of_map hf (List.Perm.cons_inv h2))).trans List.perm_middle.symm

theorem leftOf_push {es : Array MapEntry} {clock : Nat} (hs : Stamped es clock) {seen : Array Nat} {e : MapEntry} (he : e ∈ (leftOf es seen).toList) : (leftOf es seen).toList.Perm (e :: (leftOf es (seen.push e.born)).toList) := by
  unfold leftOf at he ⊢
  simp only [Array.toList_filter] at he ⊢
  have hn := hs.2.1
  generalize es.toList = l at he hn ⊢
  induction l with
  | nil => simp at he
  | cons y l ih =>
    simp only [List.map_cons, List.nodup_cons] at hn
    by_cases hy : y.born = e.born
    · have hne : ∀ z ∈ l, z.born ≠ e.born := fun z hz h => hn.1 (by rw [hy, ← h]; exact List.mem_map.2 ⟨z, hz, rfl⟩)
      have hye : e = y := by
        rw [List.mem_filter] at he
        rcases List.mem_cons.1 he.1 with h | h
        · exact h
        · exact absurd rfl (hne e h)
      subst hye
      have hns : seen.contains e.born = false := by
        rw [List.mem_filter] at he
        simpa using he.2
      rw [List.filter_cons_of_pos (by simpa using hns), List.filter_cons_of_neg (by simp)]
      refine List.Perm.cons _ (List.Perm.of_eq ?_)
      apply List.filter_congr
      intro z hz
      have := hne z hz
      simp [this]
    · have hel : e ∈ l.filter (fun x => !seen.contains x.born) := by
        rw [List.mem_filter] at he ⊢
        refine ⟨?_, he.2⟩
        rcases List.mem_cons.1 he.1 with h | h
        · exact absurd (by rw [h]) hy
        · exact h
      have ih' := ih hel hn.2
      by_cases hsy : seen.contains y.born = true
      · rw [List.filter_cons_of_neg (by simpa using hsy), List.filter_cons_of_neg (by simp at hsy; simp [hsy])]
        exact ih'
      · have hsy' : seen.contains y.born = false := by simpa using hsy
        rw [List.filter_cons_of_pos (by simpa using hsy'), List.filter_cons_of_pos (by simp at hsy'; simp [hsy', hy])]
        exact (List.Perm.cons y ih').trans (List.Perm.swap _ _ _)

/-- 'next': over, or some entry of those that are still to come, whichever. -/
theorem run_next_is {it : Nat} {left : List (κ × Value)} (hk : Keyish d enc) (h : Iter w it r d enc L left) (ty : TypeId) :
    (left = [] ∧ (Instr.next (.pointer (some ⟨it, 0, none⟩)) false ty).run P w = .ok (.tuple #[.bool false]) w) ∨
    ∃ p left' w', left.Perm (p :: left') ∧ (Instr.next (.pointer (some ⟨it, 0, none⟩)) false ty).run P w = .ok (.tuple #[.bool true, enc p.1, p.2]) w' ∧ Iter w' it r d enc L left' ∧
      (Instr.entry (.pointer (some ⟨it, 0, none⟩))).run P w' = .ok (.tuple #[enc p.1, p.2]) w' ∧ Keep (· = it) w w' := by
  obtain ⟨es, clock, seen, last, a1, a2, a3, a4, a5, a6⟩ := h
  rcases run_next_at (P := P) w ty it r clock last seen es clock a4 a1 a2.1 a5 with ⟨h0, hrun⟩ | ⟨e, he, w1, hw1, hrun⟩
  · left
    refine ⟨?_, hrun⟩
    have : (leftOf es seen).toList = [] := List.eq_nil_of_length_eq_zero (by simpa using h0)
    rw [this] at a6
    simpa using a6.symm
  · right
    have hperm := leftOf_push a2 he
    have hmem : e ∈ es.toList := by
      unfold leftOf at he
      simp only [Array.toList_filter, List.mem_filter] at he
      exact he.1
    obtain ⟨j, hj⟩ := List.mem_iff_getElem?.1 he
    have hjm : (left.map (fun p => (enc p.1, p.2)))[j]? = some (e.key, e.val) := by rw [← a6, List.getElem?_map, hj]; rfl
    rw [List.getElem?_map] at hjm
    obtain ⟨p, hp, hpe⟩ := Option.map_eq_some_iff.1 hjm
    injection hpe with hp1 hp2
    -- the rest, as pairs
    have hrest : ∃ left' : List (κ × Value), (leftOf es (seen.push e.born)).toList.map (fun e => (e.key, e.val)) = left'.map (fun p => (enc p.1, p.2)) := by
      have hsub : ∀ x ∈ (leftOf es (seen.push e.born)).toList, ∃ q : κ × Value, (x.key, x.val) = (enc q.1, q.2) := by
        intro x hx
        have hx' : x ∈ (leftOf es seen).toList := hperm.mem_iff.2 (List.mem_cons_of_mem _ hx)
        have : (x.key, x.val) ∈ left.map (fun p => (enc p.1, p.2)) := by rw [← a6]; exact List.mem_map.2 ⟨x, hx', rfl⟩
        obtain ⟨q, _, hq⟩ := List.mem_map.1 this
        exact ⟨q, hq.symm⟩
      generalize (leftOf es (seen.push e.born)).toList = l at hsub
      clear hperm
      induction l with
      | nil => exact ⟨[], rfl⟩
      | cons x l ih =>
        obtain ⟨q, hq⟩ := hsub x (.head _)
        obtain ⟨l', hl'⟩ := ih (fun y hy => hsub y (.tail _ hy))
        exact ⟨q :: l', by simp only [List.map_cons, hq, hl']⟩
    obtain ⟨left', hl'⟩ := hrest
    have hpl : left.Perm (p :: left') := by
      have h1 : (left.map (fun p => (enc p.1, p.2))).Perm ((p :: left').map (fun p => (enc p.1, p.2))) := by
        rw [← a6, List.map_cons, ← hl']
        have := hperm.map (fun e => (e.key, e.val))
        rw [List.map_cons] at this
        rw [hp1, hp2]
        exact this
      exact perm_of_map (fun p q (hpq : (enc p.1, p.2) = (enc q.1, q.2)) => by
        injection hpq with u v
        exact Prod.ext (hk.inj _ _ u) v) h1
    have hr1 : w1.heap[it]? = some (.mapIter (some r) clock seen last) := by rcases hw1 with rfl | rfl <;> exact a4
    have hb1 : w1.heap[r]? = some (.map es clock) := by rcases hw1 with rfl | rfl <;> exact a1
    have hne : r ≠ it := by rintro rfl; rw [a1] at a4; injection a4 with e; cases e
    have hk1 : Keep (· = it) w1 (Go.ChangeMaps.setBlock w1 it (.mapIter (some r) clock (seen.push e.born) clock)) := ⟨rfl, rfl, rfl, by simp [Go.ChangeMaps.setBlock], fun b _ hb => (heap_set hr1).2 b hb⟩
    have hit2 : (Go.ChangeMaps.setBlock w1 it (.mapIter (some r) clock (seen.push e.born) clock)).heap[it]? = some (.mapIter (some r) clock (seen.push e.born) clock) := (heap_set hr1).1
    have hmp2 : (Go.ChangeMaps.setBlock w1 it (.mapIter (some r) clock (seen.push e.born) clock)).heap[r]? = some (.map es clock) := ((heap_set hr1).2 r hne).trans hb1
    refine ⟨p, left', _, hpl, by rw [hp1, hp2]; exact hrun, ⟨es, clock, _, _, hmp2, a2, a3, hit2, Nat.le_refl _, hl'⟩, ?_, ?_⟩
    · rw [hp1, hp2]
      exact run_entry_at _ it r clock seen es clock e hit2 hmp2 hmem a2.2.1
    · rcases hw1 with rfl | rfl
      · exact hk1
      · exact ⟨hk1.os, hk1.tape, hk1.output, hk1.size, hk1.block⟩

theorem wpList_next_is {ops : Array Oper} {rest : List Oper} {o : Oper} {a : Act} {Q : Exit → Act → World → Prop} (hgd : o.guard = none) (x : Operand) (hop : o.op = Op.next x false) (hk : Keyish d enc)
    {it : Nat} {left : List (κ × Value)} (h : Iter w it r d enc L left) (hx : a.eval x = .pointer (some ⟨it, 0, none⟩))
    (hover : left = [] → wpList P ops Q rest (a.put o.dst (.tuple #[.bool false])) w)
    (hK : ∀ p left' w', left.Perm (p :: left') → Iter w' it r d enc L left' → (Instr.entry (.pointer (some ⟨it, 0, none⟩))).run P w' = .ok (.tuple #[enc p.1, p.2]) w' → Keep (· = it) w w' →
      wpList P ops Q rest (a.put o.dst (.tuple #[.bool true, enc p.1, p.2])) w') : wpList P ops Q (o :: rest) a w := by
  refine wpList_plain hgd fun K hK' => ?_
  rcases run_next_is (P := P) hk h o.type with ⟨h0, hrun⟩ | ⟨p, left', w', hp, hrun, h1, h2, h3⟩
  · unfold Oper.wp
    simp [execOp, hop, hx, hrun, Result.andThen]
    exact hK' _ _ (hover h0)
  · unfold Oper.wp
    simp [execOp, hop, hx, hrun, Result.andThen]
    exact hK' _ _ (hK p left' w' hp h1 h2 h3)
end

end Go.Proofs.YtbmejbmkaoekgaaGreatDoor
