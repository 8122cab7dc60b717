/- What is used of memory everywhere in this seat's proofs: blocks that are kept, bytes behind a slice, maps known by their entries in order. -/
import Derived.WalkKit
import Derived.Deep.Draws
import Derived.Maps.RangeRun
import Derived.Lib.Hide
namespace Go.Proofs.YtbmejbmkaoekgaaGreatDoor
set_option linter.unusedSimpArgs false
set_option linter.unusedVariables false
set_option linter.unusedSectionVars false
open Go Go.RowKit Go.MapKept

/-- All blocks that were there are as they were, but those of S. -/
structure Keep (S : Nat → Prop) (w w' : World) : Prop where
  os : w'.os = w.os
  tape : w'.tape = w.tape
  output : w'.output = w.output
  size : w.heap.size ≤ w'.heap.size
  block : ∀ k, k < w.heap.size → ¬ S k → w'.heap[k]? = w.heap[k]?

abbrev No : Nat → Prop := fun _ => False

section
variable {S T : Nat → Prop} {w w1 w' : World}
theorem Keep.refl (S : Nat → Prop) (w : World) : Keep S w w := ⟨rfl, rfl, rfl, Nat.le_refl _, fun _ _ _ => rfl⟩
theorem Keep.trans (h : Keep S w w1) (k : Keep T w1 w') (hT : ∀ b, T b → b < w.heap.size → S b) : Keep S w w' :=
  ⟨k.os.trans h.os, k.tape.trans h.tape, k.output.trans h.output, Nat.le_trans h.size k.size, fun b hb hs =>
    (k.block b (Nat.lt_of_lt_of_le hb h.size) (fun t => hs (hT b t hb))).trans (h.block b hb hs)⟩
theorem Keep.mono (h : Keep S w w') (hS : ∀ b, S b → b < w.heap.size → T b) : Keep T w w' :=
  ⟨h.os, h.tape, h.output, h.size, fun b hb ht => h.block b hb (fun s => ht (hS b s hb))⟩
theorem Keep.drewN (h : Keep S w w') (n : Nat) : Keep S w (w'.drewN n) := ⟨h.os, h.tape, h.output, h.size, h.block⟩
theorem Keep.drew (h : Keep S w w') : Keep S w w'.drew := ⟨h.os, h.tape, h.output, h.size, h.block⟩
theorem Keep.undrewN {n : Nat} (h : Keep S (w.drewN n) w') : Keep S w w' := ⟨h.os, h.tape, h.output, h.size, h.block⟩
theorem Keep.undrew (h : Keep S w.drew w') : Keep S w w' := ⟨h.os, h.tape, h.output, h.size, h.block⟩
theorem Keep.alloc (h : Keep S w w') (o : Obj) : Keep S w (w'.alloc o) :=
  h.trans (T := No) ⟨rfl, rfl, rfl, by simp, fun b hb _ => Below.heap_alloc w' o b hb⟩ (fun _ f => f.elim)
theorem Keep.setCell (h : Keep S w w') (a : Addr) (u : Value) (ha : a.block < w.heap.size → S a.block) : Keep S w (w'.setCell a u) :=
  h.trans (T := fun b => b = a.block) ⟨rfl, rfl, rfl, by simp [World.setCell], fun b _ hne => Below.heap_setCell w' a u b hne⟩ (fun b e hb => by subst e; exact ha hb)
theorem Keep.of_below (h : Below w.heap.size w w') : Keep No w w' := ⟨h.os, h.tape, h.output, h.size, fun b hb _ => h.block b hb⟩
theorem Keep.of_grown {row : Option Nat} (h : w.grownBy w' row) : Keep (fun b => some b = row) w w' := ⟨h.os, h.tape, h.output, h.size, fun b hb hn => h.block b hb hn⟩
theorem Keep.below {B : Nat} (h : Keep S w w') (hB : B ≤ w.heap.size) (hS : ∀ b, S b → b < w.heap.size → B ≤ b) : Below B w w' :=
  ⟨h.os, h.tape, h.output, h.size, fun b hb => h.block b (Nat.lt_of_lt_of_le hb hB) (fun s => by have := hS b s (Nat.lt_of_lt_of_le hb hB); omega)⟩
theorem Keep.grown {row : Option Nat} (h : Keep S w w') (hS : ∀ b, S b → b < w.heap.size → some b = row) : w.grownBy w' row :=
  ⟨h.os, h.tape, h.output, h.size, fun b hb hn => h.block b hb (fun s => hn (hS b s hb))⟩
theorem Keep.thenBelow {B : Nat} (h : Keep S w w1) (k : Below B w1 w') (hB : w.heap.size ≤ B) : Keep S w w' :=
  ⟨k.os.trans h.os, k.tape.trans h.tape, k.output.trans h.output, Nat.le_trans h.size k.size, fun b hb hs => (k.block b (by omega)).trans (h.block b hb hs)⟩
theorem Keep.cell (h : Keep S w w') {a : Addr} (hl : a.block < w.heap.size) (hs : ¬ S a.block) : w'.cell? a = w.cell? a := World.cell?_of_block (h.block a.block hl hs)
theorem Keep.frozen (h : Keep S w w') {a : Addr} (hl : a.block < w.heap.size) (hs : ¬ S a.block) : w'.frozen? a = w.frozen? a := World.frozen?_of_block (h.block a.block hl hs)
end

/-- Block g is just these cells, of element type t, none of them frozen. -/
def Cells (w : World) (g : Nat) (t : TypeId) (cs : Array Value) : Prop := w.heap[g]? = some (.cells cs t (0, 0))

section
variable {w w' : World} {g : Nat} {t : TypeId} {cs : Array Value} {S : Nat → Prop}
theorem lt_of_heap {o : Obj} (h : w.heap[g]? = some o) : g < w.heap.size := (Array.getElem?_eq_some_iff.1 h).1
theorem Cells.lt (h : Cells w g t cs) : g < w.heap.size := lt_of_heap h
theorem Cells.cell (h : Cells w g t cs) (i : Nat) : w.cell? ⟨g, i, none⟩ = cs[i]? := by unfold Cells at h; simp [World.cell?, h]
theorem Cells.free (h : Cells w g t cs) (i : Nat) : w.frozen? ⟨g, i, none⟩ = false := by unfold Cells at h; simp [World.frozen?, h]
theorem Cells.new (w : World) (t : TypeId) (cs : Array Value) : Cells (w.alloc (.cells cs t)) w.heap.size t cs := heap_alloc_new w _
theorem Cells.drewN (h : Cells w g t cs) (n : Nat) : Cells (w.drewN n) g t cs := h
theorem Cells.alloc (h : Cells w g t cs) (o : Obj) : Cells (w.alloc o) g t cs := (Below.heap_alloc w o g h.lt).trans h
theorem Cells.set (h : Cells w g t cs) (i : Nat) (u : Value) : Cells (w.setCell ⟨g, i, none⟩ u) g t (cs.setIfInBounds i u) := by
  unfold Cells at h ⊢
  simp [World.setCell, Array.getElem?_modify, h]
theorem Cells.keep (h : Cells w g t cs) (k : Keep S w w') (hs : ¬ S g) : Cells w' g t cs := (k.block g h.lt hs).trans h
theorem Cells.ne {g' : Nat} {t' : TypeId} {cs' : Array Value} (h : Cells w g t cs) (h' : Cells w g' t' cs') (hne : t ≠ t') : g ≠ g' := by
  rintro rfl
  unfold Cells at h h'
  rw [h] at h'
  injection h' with h'
  injection h' with _ ht
  exact hne ht
end

/-- A byte as a value. -/
def bv (b : UInt8) : Value := .int .u8 (b.toNat : Int)

/-- The slice value v holds the bytes bs (a nil one, or an empty one, holds none). `t8`: the number of the type byte. -/
def Bytes (w : World) (t8 : TypeId) (v : Value) (bs : List UInt8) : Prop :=
  ∃ A c, v = .slice A bs.length c ∧ bs.length ≤ c ∧ c ≤ maxLen ∧
    (0 < bs.length → ∃ g off cs fz, A = some ⟨g, off, none⟩ ∧ w.heap[g]? = some (.cells cs t8 fz) ∧ ∀ i b, bs[i]? = some b → cs[off + i]? = some (bv b))

section
variable {w w' : World} {t8 : TypeId} {v : Value} {bs : List UInt8} {S : Nat → Prop}
/-- No block of S holds bytes. -/
def NoBytes (w : World) (t8 : TypeId) (S : Nat → Prop) : Prop := ∀ k, S k → ∀ cs fz, w.heap[k]? ≠ some (.cells cs t8 fz)
theorem NoBytes.no (w : World) (t8 : TypeId) : NoBytes w t8 No := fun _ f => f.elim
theorem Bytes.keep (h : Bytes w t8 v bs) (k : Keep S w w') (hn : NoBytes w t8 S) : Bytes w' t8 v bs := by
  obtain ⟨A, c, hv, hc, hm, hx⟩ := h
  refine ⟨A, c, hv, hc, hm, fun h0 => ?_⟩
  obtain ⟨g, off, cs, fz, hA, hg, hi⟩ := hx h0
  exact ⟨g, off, cs, fz, hA, (k.block g (lt_of_heap hg) (fun s => hn g s _ _ hg)).trans hg, hi⟩
theorem Bytes.nil (w : World) (t8 : TypeId) : Bytes w t8 (.slice none 0 0) [] := ⟨none, 0, rfl, Nat.le_refl _, Nat.zero_le _, fun h => absurd h (by simp)⟩
theorem Bytes.at_ (h : Bytes w t8 v bs) {i : Nat} (hi : i < bs.length) : ∃ a c, v = .slice (some a) bs.length c ∧ a.block < w.heap.size ∧ w.cell? (a.add i) = some (bv bs[i]) := by
  obtain ⟨A, c, hv, hc, hm, hx⟩ := h
  obtain ⟨g, off, cs, fz, rfl, hg, hb⟩ := hx (by omega)
  refine ⟨_, c, hv, lt_of_heap hg, ?_⟩
  have e : (⟨g, off, none⟩ : Addr).add i = ⟨g, off + i, none⟩ := by unfold Addr.add; split <;> simp_all
  rw [e]
  simp only [World.cell?, hg, Option.isSome_none, Bool.false_eq_true, if_false]
  exact hb i _ (List.getElem?_eq_getElem hi)
theorem Bytes.own {base : Nat} (h : w.ownsRow base t8 1 v bs.length (bs.map bv)) (hm : bs.length ≤ maxLen) : Bytes w t8 v bs := by
  rcases h.2 with ⟨rfl, hn⟩ | ⟨g, cap, cur, rfl, _, hg, h1, h2, h3, h4⟩
  · have : bs = [] := List.eq_nil_of_length_eq_zero hn
    subst this
    exact Bytes.nil w t8
  · refine ⟨_, cap, rfl, h1, h2, fun _ => ⟨g, 0, cur, (0, 0), rfl, hg, fun i b hb => ?_⟩⟩
    have hi : i < bs.length := (List.getElem?_eq_some_iff.1 hb).1
    have e : (bs.map bv)[i]? = some (bv b) := by rw [List.getElem?_map, hb]; rfl
    rw [← h4, List.getElem?_take, if_pos (by simpa using hi)] at e
    simpa using e
end

/-- How a map's keys are written: one kind, each in one way. -/
structure Keyish {κ : Type} (d : TypeDesc) (enc : κ → Value) : Prop where
  key : ∀ k, IsKey d (enc k)
  inj : ∀ a b, enc a = enc b → a = b

theorem keyish_str : Keyish .string Value.string := ⟨fun _ => trivial, fun _ _ h => by injection h⟩
theorem keyish_int : Keyish (.int .i64) (Value.int .i64) := ⟨fun _ => rfl, fun _ _ h => by injection h⟩

/-- Block r is a map with these entries, in the order in which the model has them. -/
def IsMap {κ : Type} (w : World) (r : Nat) (d : TypeDesc) (enc : κ → Value) (L : List (κ × Value)) : Prop :=
  ∃ es clock, w.heap[r]? = some (.map es clock) ∧ Stamped es clock ∧ es.toList.map (fun e => (e.key, e.val)) = L.map (fun p => (enc p.1, p.2))

/-- A map's entries with one more, or with one that is another. -/
def putL {κ : Type} [DecidableEq κ] (L : List (κ × Value)) (k : κ) (v : Value) : List (κ × Value) :=
  if k ∈ L.map (·.1) then L.map (fun p => if p.1 = k then (p.1, v) else p) else L ++ [(k, v)]

/-- What a map has at a key. -/
def getL {κ : Type} [DecidableEq κ] (L : List (κ × Value)) (k : κ) : Option Value := (L.find? (fun p => p.1 = k)).map (·.2)

def delL {κ : Type} [DecidableEq κ] (L : List (κ × Value)) (k : κ) : List (κ × Value) := L.filter (fun p => p.1 ≠ k)

section
variable {κ : Type} {w w' : World} {r : Nat} {d : TypeDesc} {enc : κ → Value} {L : List (κ × Value)} {S : Nat → Prop} {P : Program}

theorem IsMap.lt (h : IsMap w r d enc L) : r < w.heap.size := by obtain ⟨es, c, hb, _⟩ := h; exact lt_of_heap hb
theorem IsMap.keep (h : IsMap w r d enc L) (k : Keep S w w') (hs : ¬ S r) : IsMap w' r d enc L := by
  have hl := h.lt
  obtain ⟨es, c, hb, x⟩ := h
  exact ⟨es, c, (k.block r hl hs).trans hb, x⟩
theorem IsMap.new (w : World) (d : TypeDesc) (enc : κ → Value) : IsMap (w.alloc (.map #[] 0)) w.heap.size d enc ([] : List (κ × Value)) :=
  ⟨#[], 0, heap_alloc_new w _, stamped_empty 0, by simp⟩
theorem IsMap.noBytes (h : IsMap w r d enc L) (t8 : TypeId) (cs : Array Value) (fz : Nat × Nat) : w.heap[r]? ≠ some (.cells cs t8 fz) := by
  obtain ⟨es, c, hb, _⟩ := h; rw [hb]; intro e; injection e with e; cases e
theorem Cells.ne_map {g : Nat} {t : TypeId} {cs : Array Value} (h : Cells w g t cs) (h' : IsMap w r d enc L) : g ≠ r := by
  rintro rfl
  obtain ⟨es, c, hb, _⟩ := h'
  unfold Cells at h; rw [h] at hb; injection hb with e; cases e

theorem isKeys {es : Array MapEntry} (hk : Keyish d enc) (h : es.toList.map (fun e => (e.key, e.val)) = L.map (fun p => (enc p.1, p.2))) : ∀ x ∈ es.toList, IsKey d x.key := by
  intro x hx
  have : (x.key, x.val) ∈ es.toList.map (fun e => (e.key, e.val)) := List.mem_map.2 ⟨x, hx, rfl⟩
  rw [h] at this
  obtain ⟨p, _, hp⟩ := List.mem_map.1 this
  have : x.key = enc p.1 := by injection hp with h1 _; exact h1.symm
  rw [this]; exact hk.key _

theorem get_at {es : Array MapEntry} (h : es.toList.map (fun e => (e.key, e.val)) = L.map (fun p => (enc p.1, p.2))) {j : Nat} {e : MapEntry} (hj : es.toList[j]? = some e) : ∃ p, L[j]? = some p ∧ e.key = enc p.1 ∧ e.val = p.2 := by
  have h1 : (es.toList.map (fun e => (e.key, e.val)))[j]? = some (e.key, e.val) := by rw [List.getElem?_map, hj]; rfl
  rw [h, List.getElem?_map] at h1
  obtain ⟨p, hp, hpe⟩ := Option.map_eq_some_iff.1 h1
  injection hpe with a b
  exact ⟨p, hp, a.symm, b.symm⟩

theorem nodup_of_map {α β : Type} (f : α → β) : ∀ l : List α, (l.map f).Nodup → l.Nodup
  | [], _ => List.nodup_nil
  | x :: l, h => by
    simp only [List.map_cons, List.nodup_cons] at h
    exact List.nodup_cons.2 ⟨fun m => h.1 (List.mem_map.2 ⟨x, m, rfl⟩), nodup_of_map f l h.2⟩

theorem nodup_at {α : Type} {l : List α} (h : l.Nodup) {i j : Nat} {x : α} (hi : l[i]? = some x) (hj : l[j]? = some x) : i = j := by
  induction l generalizing i j with
  | nil => simp at hi
  | cons y l ih =>
    simp only [List.nodup_cons] at h
    cases i with
    | zero =>
      cases j with
      | zero => rfl
      | succ j => simp at hi hj; subst hi; exact absurd (List.mem_of_getElem? hj) h.1
    | succ i =>
      cases j with
      | zero => simp at hi hj; subst hj; exact absurd (List.mem_of_getElem? hi) h.1
      | succ j => simp at hi hj; rw [ih h.2 hi hj]

theorem IsMap.nodup (h : IsMap w r d enc L) : (L.map (·.1)).Nodup := by
  obtain ⟨es, c, _, ⟨_, _, h3⟩, hL⟩ := h
  have e : es.toList.map (·.key) = L.map (fun p => enc p.1) := by
    have := congrArg (List.map Prod.fst) hL
    simpa [List.map_map, Function.comp_def] using this
  rw [e] at h3
  have e2 : L.map (fun p => enc p.1) = (L.map (·.1)).map enc := by simp [List.map_map, Function.comp_def]
  rw [e2] at h3
  exact nodup_of_map enc _ h3

section
variable [DecidableEq κ]

theorem find_one {L : List (κ × Value)} (hn : (L.map (·.1)).Nodup) {j : Nat} {p : κ × Value} (hj : L[j]? = some p) : L.find? (fun q => q.1 = p.1) = some p := by
  induction L generalizing j with
  | nil => simp at hj
  | cons x L ih =>
    simp only [List.map_cons, List.nodup_cons] at hn
    cases j with
    | zero => simp at hj; subst hj; simp
    | succ j =>
      simp only [List.getElem?_cons_succ] at hj
      have hm : p ∈ L := List.mem_of_getElem? hj
      have hne : x.1 ≠ p.1 := fun e => hn.1 (e ▸ List.mem_map.2 ⟨p, hm, rfl⟩)
      rw [List.find?_cons_of_neg (by simpa using hne)]
      exact ih hn.2 hj

/-- What the model finds at a key. -/
theorem find_now {es : Array MapEntry} {clock : Nat} (hk : Keyish d enc) (hs : Stamped es clock) (hL : es.toList.map (fun e => (e.key, e.val)) = L.map (fun p => (enc p.1, p.2))) (hn : (L.map (·.1)).Nodup) (k : κ) :
    (Instr.findNow d (enc k) es.toList 0 = some none ∧ getL L k = none ∧ k ∉ L.map (·.1)) ∨
    ∃ j e p, Instr.findNow d (enc k) es.toList 0 = some (some (j, e.val)) ∧ es.toList[j]? = some e ∧ L[j]? = some p ∧ p.1 = k ∧ e.key = enc k ∧ e.val = p.2 ∧ getL L k = some p.2 := by
  rcases findNow_spec (hk.key k) es.toList 0 (isKeys hk hL) with ⟨h1, h2⟩ | ⟨j, e, h1, h2, h3⟩
  · left
    have hno : k ∉ L.map (·.1) := by
      intro hm
      obtain ⟨p, hp, rfl⟩ := List.mem_map.1 hm
      have : (enc p.1, p.2) ∈ es.toList.map (fun e => (e.key, e.val)) := by rw [hL]; exact List.mem_map.2 ⟨p, hp, rfl⟩
      obtain ⟨x, hx, he⟩ := List.mem_map.1 this
      injection he with a _
      exact h2 x hx a
    refine ⟨h1, ?_, hno⟩
    unfold getL
    rw [List.find?_eq_none.2 (fun p hp => by simp only [decide_eq_true_eq]; intro e; exact hno (List.mem_map.2 ⟨p, hp, e⟩))]
    rfl
  · right
    obtain ⟨p, hp, a, b⟩ := get_at hL h2
    have hpk : p.1 = k := hk.inj _ _ (a.symm.trans h3)
    refine ⟨j, e, p, by simpa using h1, h2, hp, hpk, h3, b, ?_⟩
    subst hpk
    unfold getL
    rw [find_one hn hp]; rfl

/-- m[k] -/
theorem IsMap.look (h : IsMap w r d enc L) (hk : Keyish d enc) {t kt e : TypeId} {z : Value} (ht : P.underlying t = some (.map kt e)) (hd : P.underlying kt = some d) (hz : ∀ w : World, (zeroValue e).run P w = .ok z w) (k : κ) :
    (Instr.lookup t (.map (some r)) (enc k) false).run P w = .ok ((getL L k).getD z) w := by
  have hn := h.nodup
  obtain ⟨es, clock, hb, hs, hL⟩ := h
  rcases find_now hk hs hL hn k with ⟨h1, h2, _⟩ | ⟨j, x, p, h1, _, _, _, _, h6, h7⟩
  · simp [Instr.lookup, run_underlying ht, MapKept.run_getObj_map hb, run_checkKey hd (hk.key k), run_findKey hd h1, hz, h2, Result.andThen]
  · simp [Instr.lookup, run_underlying ht, MapKept.run_getObj_map hb, run_checkKey hd (hk.key k), run_findKey hd h1, h6, h7, Result.andThen]

/-- v, is := m[k] -/
theorem IsMap.look2 (h : IsMap w r d enc L) (hk : Keyish d enc) {t kt e : TypeId} {z : Value} (ht : P.underlying t = some (.map kt e)) (hd : P.underlying kt = some d) (hz : ∀ w : World, (zeroValue e).run P w = .ok z w) (k : κ) :
    (Instr.lookup t (.map (some r)) (enc k) true).run P w = .ok (.tuple #[(getL L k).getD z, .bool (getL L k).isSome]) w := by
  have hn := h.nodup
  obtain ⟨es, clock, hb, hs, hL⟩ := h
  rcases find_now hk hs hL hn k with ⟨h1, h2, _⟩ | ⟨j, x, p, h1, _, _, _, _, h6, h7⟩
  · simp [Instr.lookup, run_underlying ht, MapKept.run_getObj_map hb, run_checkKey hd (hk.key k), run_findKey hd h1, hz, h2, Result.andThen]
  · simp [Instr.lookup, run_underlying ht, MapKept.run_getObj_map hb, run_checkKey hd (hk.key k), run_findKey hd h1, h6, h7, Result.andThen]

/-- The same of a nil map. -/
theorem look_nil {t kt e : TypeId} {z : Value} (hk : Keyish d enc) (ht : P.underlying t = some (.map kt e)) (hd : P.underlying kt = some d) (hz : ∀ w : World, (zeroValue e).run P w = .ok z w) (k : κ) (w : World) :
    (Instr.lookup t (.map none) (enc k) false).run P w = .ok z w := by
  have h1 : Instr.findNow d (enc k) (#[] : Array MapEntry).toList 0 = some none := rfl
  simp [Instr.lookup, run_underlying ht, run_checkKey hd (hk.key k), run_findKey hd h1, hz, Result.andThen]

theorem putObj_keep {w : World} {r : Nat} {o o' : Obj} (hb : w.heap[r]? = some o) : Keep (· = r) w { w with heap := w.heap.setIfInBounds r o' } :=
  ⟨rfl, rfl, rfl, by simp, fun b _ hne => (heap_set hb).2 b hne⟩

/-- m[k] = v -/
theorem IsMap.update (h : IsMap w r d enc L) (hk : Keyish d enc) {t kt e : TypeId} (ht : P.underlying t = some (.map kt e)) (hd : P.underlying kt = some d) (k : κ) (v : Value) :
    ∃ w', (Instr.mapUpdate t (.map (some r)) (enc k) v).run P w = .ok () w' ∧ IsMap w' r d enc (putL L k v) ∧ Keep (· = r) w w' := by
  have hn := h.nodup
  obtain ⟨es, clock, hb, hs, hL⟩ := h
  rcases find_now hk hs hL hn k with ⟨h1, h2, h3⟩ | ⟨j, x, p, h1, hj, hp, hpk, h5, h6, h7⟩
  · refine ⟨_, by simp [Instr.mapUpdate, run_underlying ht, MapKept.run_getObj_map hb, run_checkKey hd (hk.key k), run_findKey hd h1, run_setObj_map _ hb, Result.andThen]; rfl, ⟨_, _, (heap_set hb).1, stamped_push hs ?_, ?_⟩, putObj_keep hb⟩
    · intro y hy he
      obtain ⟨i, hi⟩ := List.mem_iff_getElem?.1 hy
      obtain ⟨q, hq, a, _⟩ := get_at hL hi
      exact h3 (hk.inj _ _ (he.symm.trans a) ▸ List.mem_map.2 ⟨q, List.mem_of_getElem? hq, rfl⟩)
    · unfold putL; rw [if_neg h3]; simp [hL]
  · have hje : es[j]? = some x := by simpa using hj
    refine ⟨{ w with heap := w.heap.setIfInBounds r (.map (es.modify j fun e => { e with key := enc k, val := v }) clock) }, by simp [Instr.mapUpdate, run_underlying ht, MapKept.run_getObj_map hb, run_checkKey hd (hk.key k), run_findKey hd h1, run_setObj_map _ hb, Result.andThen, hje, h5, run_keyThatStays (hk.key k)], ⟨_, _, (heap_set hb).1, stamped_modify hs _ _ (fun _ _ => rfl) (fun y _ hy => ?_), ?_⟩, putObj_keep hb⟩
    · rw [hje] at hy; injection hy with hy; subst hy; exact h5.symm
    · have hin : k ∈ L.map (·.1) := List.mem_map.2 ⟨p, List.mem_of_getElem? hp, hpk⟩
      unfold putL
      rw [if_pos hin]
      apply List.ext_getElem?
      intro i
      simp only [List.getElem?_map, Array.getElem?_toList, Array.getElem?_modify]
      have hLi : (es.toList.map (fun e => (e.key, e.val)))[i]? = (L.map (fun p => (enc p.1, p.2)))[i]? := by rw [hL]
      simp only [List.getElem?_map, Array.getElem?_toList] at hLi
      by_cases hij : j = i
      · subst hij
        simp only [if_pos, hje, hp, Option.map_some, hpk]
      · rw [if_neg hij, hLi]
        cases hq : L[i]? with
        | none => rfl
        | some q =>
          have hne : q.1 ≠ k := by
            intro e
            exact hij (nodup_at hn (x := k) (by rw [List.getElem?_map, hp]; simp [hpk]) (by rw [List.getElem?_map, hq]; simp [e]))
          simp [if_neg hne]
end
end
end Go.Proofs.YtbmejbmkaoekgaaGreatDoor
