/- The log in memory, and what End, First, last say. -/
import Derived.Test.YtbmejbmkaoekgaaGreatDoorDisk7
import Derived.Test.YtbmejbmkaoekgaaGreatDoorW3
namespace Go.Proofs.YtbmejbmkaoekgaaGreatDoor
open Go Go.RowKit
set_option linter.unusedVariables false
set_option linter.unusedSimpArgs false

abbrev tLog : TypeId := 62
abbrev tPart : TypeId := 66
abbrev tParts : TypeId := 60
abbrev tRecs : TypeId := 22

/-- A file of a log: its first record's number, how many it has, its bytes. -/
structure PartS where
  frm : Nat
  many : Nat
  size : Nat
deriving DecidableEq

/-- What a log says. -/
structure LogS where
  name : List UInt8
  most : Int
  parts : List PartS
  recs : List (List UInt8)
  first : Nat
  dirty : Bool

def partV (p : PartS) : List Value := [.int .i64 (p.frm : Nat), .int .i64 (p.many : Nat), .int .i64 (p.size : Nat)]

def RecsAt (w : World) : List Value → List (List UInt8) → Prop
  | [], [] => True
  | v :: vs, b :: bs => Bytes w tByte v b ∧ RecsAt w vs bs
  | _, _ => False

def LogR (w : World) (lb d : Nat) (L : LogS) (pv rv : Value) (vs : List Value) : Prop :=
  Cells w lb tLog #[ptr d, sv L.name, .int .i64 L.most, pv, rv, .int .i64 (L.first : Nat), .bool L.dirty] ∧
    w.ownsRow NG tPart 3 pv L.parts.length (L.parts.flatMap partV) ∧ w.ownsRow NG tBytes 1 rv L.recs.length vs ∧ RecsAt w vs L.recs ∧ NG ≤ lb

/-- The log's struct lies in block lb; G: all blocks that are its own, but those of bytes. -/
def LogAt (w : World) (lb d : Nat) (L : LogS) (G : List Nat) : Prop :=
  ∃ pv rv vs, LogR w lb d L pv rv vs ∧ G = lb :: (pv.ownBlock.toList ++ rv.ownBlock.toList)

section
variable {w w' : World} {S : Nat → Prop} {lb d : Nat} {L : LogS} {G F : List Nat} {pv rv : Value} {vs : List Value} {st : DiskS}

theorem RecsAt.len {vs : List Value} {bs : List (List UInt8)} (h : RecsAt w vs bs) : vs.length = bs.length := by
  induction vs generalizing bs with
  | nil => cases bs with
    | nil => rfl
    | cons b bs => exact h.elim
  | cons v vs ih => cases bs with
    | nil => exact h.elim
    | cons b bs => simp [ih h.2]
theorem RecsAt.keep {vs : List Value} {bs : List (List UInt8)} (h : RecsAt w vs bs) (k : Keep S w w') (hn : NoBytes w tByte S) : RecsAt w' vs bs := by
  induction vs generalizing bs with
  | nil => cases bs with
    | nil => trivial
    | cons b bs => exact h.elim
  | cons v vs ih => cases bs with
    | nil => exact h.elim
    | cons b bs => exact ⟨h.1.keep k hn, ih h.2⟩
theorem RecsAt.snoc {vs : List Value} {bs : List (List UInt8)} (h : RecsAt w vs bs) {v : Value} {b : List UInt8} (hb : Bytes w tByte v b) : RecsAt w (vs ++ [v]) (bs ++ [b]) := by
  induction vs generalizing bs with
  | nil => cases bs with
    | nil => exact ⟨hb, trivial⟩
    | cons b bs => exact h.elim
  | cons v vs ih => cases bs with
    | nil => exact h.elim
    | cons b bs => exact ⟨h.1, ih h.2⟩
theorem RecsAt.get {vs : List Value} {bs : List (List UInt8)} (h : RecsAt w vs bs) {i : Nat} (hi : i < bs.length) : ∃ v, vs[i]? = some v ∧ Bytes w tByte v bs[i] := by
  induction vs generalizing bs i with
  | nil => cases bs with
    | nil => simp at hi
    | cons b bs => exact h.elim
  | cons v vs ih => cases bs with
    | nil => exact h.elim
    | cons b bs => cases i with
      | zero => exact ⟨v, rfl, h.1⟩
      | succ i => exact ih h.2 (by simpa using hi)

theorem row_keep {base size n : Nat} {e : TypeId} {v : Value} {xs : List Value} (h : w.ownsRow base e size v n xs) (k : Keep S w w') (hS : ∀ b, v.ownBlock = some b → ¬ S b) : w'.ownsRow base e size v n xs := by
  refine ⟨h.1, h.2.imp (fun h => h) ?_⟩
  rintro ⟨g, cap, cur, rfl, h1, h2, h3⟩
  exact ⟨g, cap, cur, rfl, h1, (k.block g (lt_of_heap h2) (hS g rfl)).trans h2, h3⟩
theorem row_kind {base size n : Nat} {e : TypeId} {v : Value} {xs : List Value} (h : w.ownsRow base e size v n xs) {b : Nat} (hb : v.ownBlock = some b) : base ≤ b ∧ ∃ cur, w.heap[b]? = some (.cells cur e (0, 0)) := by
  rcases h.2 with ⟨rfl, _⟩ | ⟨g, cap, cur, rfl, h1, h2, _⟩
  · cases hb
  · cases hb; exact ⟨h1, cur, h2⟩
theorem LogR.keep (h : LogR w lb d L pv rv vs) (k : Keep S w w') (h1 : ¬ S lb) (h2 : ∀ b, pv.ownBlock = some b → ¬ S b) (h3 : ∀ b, rv.ownBlock = some b → ¬ S b) (hn : NoBytes w tByte S) : LogR w' lb d L pv rv vs :=
  ⟨h.1.keep k h1, row_keep h.2.1 k h2, row_keep h.2.2.1 k h3, h.2.2.2.1.keep k hn, h.2.2.2.2⟩
theorem LogAt.keep (h : LogAt w lb d L G) (k : Keep S w w') (hG : ∀ b ∈ G, ¬ S b) (hn : NoBytes w tByte S) : LogAt w' lb d L G := by
  obtain ⟨pv, rv, vs, h, rfl⟩ := h
  exact ⟨pv, rv, vs, h.keep k (hG lb (by simp)) (fun b e => hG b (by simp [e])) (fun b e => hG b (by simp [e])) hn, rfl⟩
/-- Each block of the log is of one of three kinds. -/
theorem LogAt.kinds (h : LogAt w lb d L G) : ∀ b ∈ G, NG ≤ b ∧ ∃ cs t, w.heap[b]? = some (.cells cs t (0, 0)) ∧ (t = tLog ∨ t = tPart ∨ t = tBytes) := by
  obtain ⟨pv, rv, vs, h, rfl⟩ := h
  intro b hb
  simp only [List.mem_cons, List.mem_append, Option.mem_toList] at hb
  rcases hb with rfl | hb | hb
  · exact ⟨h.2.2.2.2, _, _, h.1, .inl rfl⟩
  · obtain ⟨h1, cur, h2⟩ := row_kind h.2.1 hb; exact ⟨h1, cur, _, h2, .inr (.inl rfl)⟩
  · obtain ⟨h1, cur, h2⟩ := row_kind h.2.2.1 hb; exact ⟨h1, cur, _, h2, .inr (.inr rfl)⟩
theorem LogAt.lt (h : LogAt w lb d L G) {b : Nat} (hb : b ∈ G) : b < w.heap.size := by
  obtain ⟨_, _, _, h, _⟩ := h.kinds b hb; exact lt_of_heap h
theorem LogAt.noBytes (h : LogAt w lb d L G) : NoBytes w tByte (· ∈ G) := by
  intro b hb c fz e
  obtain ⟨_, cs, t, h, ht⟩ := h.kinds b hb
  rw [h] at e; injection e with e; injection e with _ e
  subst e; revert ht; decide
theorem DiskAt.kinds (h : DiskAt w d st F) : ∀ b ∈ F, ∀ cs t fz, w.heap[b]? = some (.cells cs t fz) → t = tDisk ∨ t = tFile := by
  obtain ⟨fm, pv, pb, R, rfl, h2, h3, h4, h5, h6, h7, h8, h9⟩ := h
  intro b hb cs t fz e
  rcases List.mem_cons.1 hb with rfl | hb
  · unfold Cells at h3; rw [h3] at e; injection e with e; injection e with _ e; exact .inl e.symm
  rcases List.mem_cons.1 hb with rfl | hb
  · obtain ⟨_, _, h5, _⟩ := h5; rw [h5] at e; cases e
  rcases List.mem_append.1 hb with hb | hb
  · rcases h4 with ⟨_, _, rfl⟩ | ⟨pm, _, rfl, h⟩
    · cases hb
    · simp at hb; subst hb
      obtain ⟨_, _, h, _⟩ := h; rw [h] at e; cases e
  · obtain ⟨r, hr, rfl⟩ := List.mem_map.1 hb
    obtain ⟨v, h, _⟩ := h6 r hr
    unfold Cells at h; rw [h] at e; injection e with e; injection e with _ e; exact .inr e.symm
theorem LogAt.apart (h : LogAt w lb d L G) (hd : DiskAt w d st F) : ∀ b ∈ G, b ∉ F := by
  intro b hb hF
  obtain ⟨_, cs, t, h, ht⟩ := h.kinds b hb
  have := hd.kinds b hF cs t _ h
  rcases ht with rfl | rfl | rfl <;> revert this <;> decide
/-- The disk's own doings leave the log. -/
theorem LogAt.disk (h : LogAt w lb d L G) (hd : DiskAt w d st F) (k : Keep (· ∈ F) w w') : LogAt w' lb d L G := h.keep k (h.apart hd) hd.noBytes
/-- The log's own doings leave the disk. -/
theorem DiskAt.log (hd : DiskAt w d st F) (h : LogAt w lb d L G) (k : Keep (· ∈ G) w w') : DiskAt w' d st F := hd.keep k (fun b hF hG => h.apart hd b hG hF) h.noBytes
end

section
variable {w : World} {lb d : Nat} {L : LogS} {G : List Nat}
/-- How many cells lie in the log's lists. -/
theorem LogR.recForm {pv rv : Value} {vs : List Value} (h : LogR w lb d L pv rv vs) : ∃ A c, rv = .slice A L.recs.length c ∧ L.recs.length ≤ c ∧ c ≤ maxLen := by
  rcases h.2.2.1.2 with ⟨rfl, e⟩ | ⟨g, cap, cur, rfl, _, _, h1, h2, _⟩
  · exact ⟨none, 0, by rw [e], by omega, by decide⟩
  · exact ⟨_, cap, rfl, h1, h2⟩
theorem LogR.partForm {pv rv : Value} {vs : List Value} (h : LogR w lb d L pv rv vs) : ∃ A c, pv = .slice A L.parts.length c ∧ L.parts.length ≤ c ∧ c ≤ maxLen := by
  rcases h.2.1.2 with ⟨rfl, e⟩ | ⟨g, cap, cur, rfl, _, _, h1, h2, _⟩
  · exact ⟨none, 0, by rw [e], by omega, by decide⟩
  · exact ⟨_, cap, rfl, h1, h2⟩

def LogS.fin (L : LogS) : Nat := L.first + L.recs.length

theorem end_nil (w : World) : Calls Tryz.prog 17 #[.pointer none] w fun e w' => e = .returned (.int .i64 0) ∧ w' = w := by
  go_enter Tryz.func17, Tryz.ntmps17
  go_wp2_with fail
  go_ret
  exact ⟨rfl, rfl⟩
theorem first_nil (w : World) : Calls Tryz.prog 16 #[.pointer none] w fun e w' => e = .returned (.int .i64 0) ∧ w' = w := by
  go_enter Tryz.func16, Tryz.ntmps16
  go_wp2_with fail
  go_ret
  exact ⟨rfl, rfl⟩
theorem first_go (w : World) (lb d : Nat) (L : LogS) (G : List Nat) (h : LogAt w lb d L G) : Calls Tryz.prog 16 #[ptr lb] w fun e w' => e = .returned (.int .i64 (L.first : Nat)) ∧ w' = w := by
  obtain ⟨pv, rv, vs, h, -⟩ := h
  have c5 := h.1.cell 5
  simp only [List.getElem?_toArray, List.getElem?_cons_succ, List.getElem?_cons_zero] at c5
  clear h
  go_enter Tryz.func16, Tryz.ntmps16
  go_wp2_with fail
  go_ret
  exact ⟨rfl, rfl⟩
theorem end_go (w : World) (lb d : Nat) (L : LogS) (G : List Nat) (h : LogAt w lb d L G) (hf : L.fin < 9223372036854775808) : Calls Tryz.prog 17 #[ptr lb] w fun e w' => e = .returned (.int .i64 (L.fin : Nat)) ∧ ∃ q, w' = w.drewN q := by
  obtain ⟨pv, rv, vs, h, -⟩ := h
  obtain ⟨A, c, rfl, hc⟩ := h.recForm
  have c5 := h.1.cell 5
  have c4 := h.1.cell 4
  simp only [List.getElem?_toArray, List.getElem?_cons_succ, List.getElem?_cons_zero] at c5 c4
  clear h
  have hfin : (L.fin : Int) = (L.first : Int) + (L.recs.length : Int) := by unfold LogS.fin; simp
  have hw : IntKind.i64.wrap ((L.first : Int) + (L.recs.length : Int)) = (L.first : Int) + (L.recs.length : Int) := by rw [IntKind.wrap_i64]; omega
  have Hfin := Lib.hid hfin
  clear hfin
  go_enter Tryz.func17, Tryz.ntmps17
  go_wp2_with fail
  go_quiet (fail)
  go_wp2_with fail
  go_ret
  exact ⟨by rw [Hfin.out]; rfl, _, rfl⟩

theorem last_none (w : World) (lb d : Nat) (L : LogS) (G : List Nat) (h : LogAt w lb d L G) (h0 : L.parts = []) : Calls Tryz.prog 27 #[ptr lb] w fun e w' => e = .returned (.tuple #[.pointer none, .bool false]) ∧ w' = w := by
  obtain ⟨pv, rv, vs, h, -⟩ := h
  obtain ⟨A, c, rfl, hc⟩ := h.partForm
  have c3 := h.1.cell 3
  rw [h0] at c3
  simp only [List.getElem?_toArray, List.getElem?_cons_succ, List.getElem?_cons_zero, List.length_nil] at c3
  clear h
  go_enter Tryz.func27, Tryz.ntmps27
  go_wp2_with fail
  go_ret2
  exact ⟨rfl, rfl⟩
theorem last_some (w : World) (lb d : Nat) (L : LogS) (pv rv : Value) (vs : List Value) (g c n : Nat) (h : LogR w lb d L pv rv vs) (hn : L.parts.length = n + 1) (hpv : pv = .slice (some ⟨g, 0, none⟩) (n + 1) c) (hc : n + 1 ≤ c) (hm : c ≤ maxLen) :
    Calls Tryz.prog 27 #[ptr lb] w fun e w' => e = .returned (.tuple #[.pointer (some ⟨g, n * 3, none⟩), .bool true]) ∧ ∃ q, w' = w.drewN q := by
  subst hpv
  have c3 := h.1.cell 3
  simp only [List.getElem?_toArray, List.getElem?_cons_succ, List.getElem?_cons_zero, List.length_nil] at c3
  clear h
  unfold maxLen at hm
  have hw : IntKind.i64.wrap (((n + 1 : Nat) : Int) - 1) = (n : Int) := by rw [IntKind.wrap_i64]; omega
  have h1 : (((n + 1 : Nat) : Int) == 0) = false := by simp; omega
  go_enter Tryz.func27, Tryz.ntmps27
  go_wp2_with fail
  go_quiet (fail)
  go_wp2_with fail
  go_ret2
  exact ⟨rfl, _, rfl⟩
end
end Go.Proofs.YtbmejbmkaoekgaaGreatDoor
