/- Names of files: which hold, and how they are written. -/
import Derived.Test.YtbmejbmkaoekgaaGreatDoorTypes
import Derived.Test.YtbmejbmkaoekgaaGreatDoorLaws
import Derived.Test.YtbmejbmkaoekgaaGreatDoorShelf
import Derived.Laws.RangeString
namespace Go.Proofs.YtbmejbmkaoekgaaGreatDoor
open Go Go.RowKit
set_option linter.unusedVariables false
set_option linter.unusedSimpArgs false

/-- A list of bytes as a string's value. -/
abbrev sv (l : List UInt8) : Value := .string ⟨l.toArray⟩

/-- Bytes that a file's name may have. -/
def Plain (l : List UInt8) : Prop := ∀ b ∈ l, 33 ≤ b.toNat ∧ b.toNat ≤ 126

theorem idx_none (p : Nat → Bool) (l : List UInt8) (h : ∀ b ∈ l, b.toNat < 128 ∧ p b.toNat = false) (f : Nat) : ∀ pos, Lib.idxFuncFrom p true ⟨l.toArray⟩ f pos = -1 := by
  induction f with
  | zero => intro pos; rfl
  | succ f ih =>
    intro pos
    unfold Lib.idxFuncFrom
    split
    · rename_i hlt
      have hl : pos < l.length := by simpa [ByteArray.size] using hlt
      have hb : ((⟨l.toArray⟩ : ByteArray)[pos]'hlt) = l[pos] := by simp [ByteArray.getElem_eq_getElem_data]
      obtain ⟨h1, h2⟩ := h l[pos] (List.getElem_mem hl)
      rw [decode_ascii ⟨l.toArray⟩ pos hlt (by rw [hb]; exact h1)]
      simp only [hb, h2, Bool.false_eq_true, if_false]
      exact ih _
    · rfl

def oddD (x : Nat) : Bool := decide (x < 33) || decide (126 < x)

theorem dname_closure (W : World) (x : Nat) (hx : x ≤ 1114111) : FnGives Tryz.prog 89 #[] #[encR x] (.bool (oddD x)) W := by
  unfold FnGives
  show Calls Tryz.prog 89 #[.int .i32 (x : Int)] W _
  by_cases h1 : (x : Int) < 33
  · have h1' : decide ((x : Int) < 33) = true := by simpa using h1
    go_enter Tryz.func89, Tryz.ntmps89
    go_wp2
    go_ret
    have e : oddD x = true := by unfold oddD; simp; omega
    exact ⟨by rw [e]; rfl, 0, rfl⟩
  · have h1' : decide ((x : Int) < 33) = false := by simpa using h1
    go_enter Tryz.func89, Tryz.ntmps89
    go_wp2
    go_ret
    have e : oddD x = decide ((126 : Int) < (x : Int)) := by
      unfold oddD
      have : decide (x < 33) = false := by simp; omega
      rw [this, Bool.false_or, decide_eq_decide]; omega
    exact ⟨by rw [e]; rfl, 0, rfl⟩

theorem dname_pred (w : World) : PredAtRunes Tryz.prog 89 #[] oddD w := fun W x hx _ => dname_closure W x hx

theorem dname_contains (l : List UInt8) (h : Plain l) (w : World) :
    Calls Tryz.prog 39 #[sv l, .func (.func 89) #[] #[]] w fun e w' => e = .returned (.bool false) ∧ Keep No w w' := by
  refine (Tryz.strings_ContainsFunc_runes _ #[] (fun args w => by kernel_rfl) oddD ⟨l.toArray⟩ w (dname_pred w)).mono ?_
  rintro e w' ⟨rfl, hb⟩
  have : Lib.idxFunc oddD true ⟨l.toArray⟩ = -1 := idx_none oddD l (fun b hb => by
    obtain ⟨h1, h2⟩ := h b hb
    exact ⟨by omega, by simp [oddD]; omega⟩) _ _
  exact ⟨by rw [show Lib.idxFunc oddD true ⟨l.toArray⟩ = -1 from this]; rfl, Keep.of_below hb⟩


theorem toList_sv (l : List UInt8) : (ByteArray.mk l.toArray).toList = l := by rw [ByteArray.toList_eq]

theorem dname_ok (l : List UInt8) (h : Plain l) (h0 : l ≠ []) (h1 : l.length ≤ 32) (w : World) :
    Calls Tryz.prog 63 #[sv l] w fun e w' => e = .returned (.bool true) ∧ Keep No w w' := by
  have hs : (ByteArray.mk l.toArray).size = l.length := by simp [ByteArray.size]
  have ht := toList_sv l
  have hne : l.isEmpty = false := by cases l <;> simp_all
  have hc := Lib.hid (fun w => dname_contains l h w)
  go_enter Tryz.func63, Tryz.ntmps63
  go_wp2_with fail
  refine (hc.out _).mono ?_
  rintro e w' ⟨rfl, hk⟩
  go_wp2
  go_ret
  exact ⟨rfl, hk⟩

theorem step_closure (l : List UInt8) (h : Plain l) (h0 : l ≠ []) (h1 : l.length ≤ 32) (w : World) :
    Calls Tryz.prog 62 #[sv l] w fun e w' => e = .returned (.bool false) ∧ Keep No w w' := by
  go_enter Tryz.func62, Tryz.ntmps62
  go_wp2_with fail
  refine (dname_ok l h h0 h1 _).mono ?_
  rintro e w' ⟨rfl, hk⟩
  go_wp2
  go_ret
  exact ⟨rfl, hk⟩

theorem indexFunc_one (l : List UInt8) (h : Plain l) (h0 : l ≠ []) (h1 : l.length ≤ 32) (g off c : Nat) (w : World) (hc : w.cell? ⟨g, off, none⟩ = some (sv l)) :
    Calls Tryz.prog 88 #[.slice (some ⟨g, off, none⟩) 1 c, .func (.func 62) #[] #[]] w fun e w' => e = .returned (.int .i64 (-1)) ∧ Keep No w w' := by
  have hf := Lib.hid (fun w => step_closure l h h0 h1 w)
  go_enter Tryz.func88, Tryz.ntmps88
  go_wp2_with fail
  go_loopw [8] (fun i wr => (i = .int .i64 0 ∧ wr = w) ∨ (i = .int .i64 1 ∧ Keep No w wr)) (fun i _ => 1 - (intOf i).toNat)
  case atStart => exact .inl ⟨rfl, rfl⟩
  case round =>
    rcases hrel with ⟨rfl, rfl⟩ | ⟨rfl, hk⟩
    · go_wp2_with fail
      refine (hf.out _).mono ?_
      rintro e w' ⟨rfl, hk⟩
      go_wp2_with fail
      go_roundw
      case rel => exact .inr ⟨rfl, hk⟩
      case measure => simp [intOf]
    · go_wp2_with fail
      go_ret
      exact ⟨rfl, hk⟩

theorem containsFunc_one (l : List UInt8) (h : Plain l) (h0 : l ≠ []) (h1 : l.length ≤ 32) (g off c : Nat) (w : World) (hc : w.cell? ⟨g, off, none⟩ = some (sv l)) :
    Calls Tryz.prog 61 #[.slice (some ⟨g, off, none⟩) 1 c, .func (.func 62) #[] #[]] w fun e w' => e = .returned (.bool false) ∧ Keep No w w' := by
  have hf := Lib.hid (fun w hc => indexFunc_one l h h0 h1 g off c w hc)
  go_enter Tryz.func61, Tryz.ntmps61
  go_wp2_with fail
  refine (hf.out _ hc).mono ?_
  rintro e w' ⟨rfl, hk⟩
  go_wp2
  go_ret
  exact ⟨rfl, hk⟩

/-! wal's names: letters and digits -/
def oddW (x : Nat) : Bool := !((decide (97 ≤ x) && decide (x ≤ 122)) || (decide (65 ≤ x) && decide (x ≤ 90)) || (decide (48 ≤ x) && decide (x ≤ 57)))

theorem wname_closure0 (W : World) (x : Nat) (h0 : x < 48) : Calls Tryz.prog 38 #[.int .i32 (x : Int)] W fun e w' => e = .returned (.bool true) ∧ ∃ q, w' = W.drewN q := by
  have a1 : decide ((97 : Int) ≤ (x : Int)) = false := by simp; omega
  have a2 : decide ((x : Int) ≤ 122) = true := by simp; omega
  have a3 : decide ((65 : Int) ≤ (x : Int)) = false := by simp; omega
  have a4 : decide ((x : Int) ≤ 90) = true := by simp; omega
  have a5 : decide ((48 : Int) ≤ (x : Int)) = false := by simp; omega
  have a6 : decide ((x : Int) ≤ 57) = true := by simp; omega
  go_enter Tryz.func38, Tryz.ntmps38
  go_wp2
  go_ret
  exact ⟨by simp [*], 0, rfl⟩
theorem wname_closure1 (W : World) (x : Nat) (h0 : 48 ≤ x) (h1 : x ≤ 57) : Calls Tryz.prog 38 #[.int .i32 (x : Int)] W fun e w' => e = .returned (.bool false) ∧ ∃ q, w' = W.drewN q := by
  have a1 : decide ((97 : Int) ≤ (x : Int)) = false := by simp; omega
  have a2 : decide ((x : Int) ≤ 122) = true := by simp; omega
  have a3 : decide ((65 : Int) ≤ (x : Int)) = false := by simp; omega
  have a4 : decide ((x : Int) ≤ 90) = true := by simp; omega
  have a5 : decide ((48 : Int) ≤ (x : Int)) = true := by simp; omega
  have a6 : decide ((x : Int) ≤ 57) = true := by simp; omega
  go_enter Tryz.func38, Tryz.ntmps38
  go_wp2
  go_ret
  exact ⟨by simp [*], 0, rfl⟩
theorem wname_closure2 (W : World) (x : Nat) (h0 : 57 < x) (h1 : x < 65) : Calls Tryz.prog 38 #[.int .i32 (x : Int)] W fun e w' => e = .returned (.bool true) ∧ ∃ q, w' = W.drewN q := by
  have a1 : decide ((97 : Int) ≤ (x : Int)) = false := by simp; omega
  have a2 : decide ((x : Int) ≤ 122) = true := by simp; omega
  have a3 : decide ((65 : Int) ≤ (x : Int)) = false := by simp; omega
  have a4 : decide ((x : Int) ≤ 90) = true := by simp; omega
  have a5 : decide ((48 : Int) ≤ (x : Int)) = true := by simp; omega
  have a6 : decide ((x : Int) ≤ 57) = false := by simp; omega
  go_enter Tryz.func38, Tryz.ntmps38
  go_wp2
  go_ret
  exact ⟨by simp [*], 0, rfl⟩
theorem wname_closure3 (W : World) (x : Nat) (h0 : 65 ≤ x) (h1 : x ≤ 90) : Calls Tryz.prog 38 #[.int .i32 (x : Int)] W fun e w' => e = .returned (.bool false) ∧ ∃ q, w' = W.drewN q := by
  have a1 : decide ((97 : Int) ≤ (x : Int)) = false := by simp; omega
  have a2 : decide ((x : Int) ≤ 122) = true := by simp; omega
  have a3 : decide ((65 : Int) ≤ (x : Int)) = true := by simp; omega
  have a4 : decide ((x : Int) ≤ 90) = true := by simp; omega
  have a5 : decide ((48 : Int) ≤ (x : Int)) = true := by simp; omega
  have a6 : decide ((x : Int) ≤ 57) = false := by simp; omega
  go_enter Tryz.func38, Tryz.ntmps38
  go_wp2
  go_ret
  exact ⟨by simp [*], 0, rfl⟩
theorem wname_closure4 (W : World) (x : Nat) (h0 : 90 < x) (h1 : x < 97) : Calls Tryz.prog 38 #[.int .i32 (x : Int)] W fun e w' => e = .returned (.bool true) ∧ ∃ q, w' = W.drewN q := by
  have a1 : decide ((97 : Int) ≤ (x : Int)) = false := by simp; omega
  have a2 : decide ((x : Int) ≤ 122) = true := by simp; omega
  have a3 : decide ((65 : Int) ≤ (x : Int)) = true := by simp; omega
  have a4 : decide ((x : Int) ≤ 90) = false := by simp; omega
  have a5 : decide ((48 : Int) ≤ (x : Int)) = true := by simp; omega
  have a6 : decide ((x : Int) ≤ 57) = false := by simp; omega
  go_enter Tryz.func38, Tryz.ntmps38
  go_wp2
  go_ret
  exact ⟨by simp [*], 0, rfl⟩
theorem wname_closure5 (W : World) (x : Nat) (h0 : 97 ≤ x) (h1 : x ≤ 122) : Calls Tryz.prog 38 #[.int .i32 (x : Int)] W fun e w' => e = .returned (.bool false) ∧ ∃ q, w' = W.drewN q := by
  have a1 : decide ((97 : Int) ≤ (x : Int)) = true := by simp; omega
  have a2 : decide ((x : Int) ≤ 122) = true := by simp; omega
  have a3 : decide ((65 : Int) ≤ (x : Int)) = true := by simp; omega
  have a4 : decide ((x : Int) ≤ 90) = false := by simp; omega
  have a5 : decide ((48 : Int) ≤ (x : Int)) = true := by simp; omega
  have a6 : decide ((x : Int) ≤ 57) = false := by simp; omega
  go_enter Tryz.func38, Tryz.ntmps38
  go_wp2
  go_ret
  exact ⟨by simp [*], 0, rfl⟩
theorem wname_closure6 (W : World) (x : Nat) (h0 : 122 < x) : Calls Tryz.prog 38 #[.int .i32 (x : Int)] W fun e w' => e = .returned (.bool true) ∧ ∃ q, w' = W.drewN q := by
  have a1 : decide ((97 : Int) ≤ (x : Int)) = true := by simp; omega
  have a2 : decide ((x : Int) ≤ 122) = false := by simp; omega
  have a3 : decide ((65 : Int) ≤ (x : Int)) = true := by simp; omega
  have a4 : decide ((x : Int) ≤ 90) = false := by simp; omega
  have a5 : decide ((48 : Int) ≤ (x : Int)) = true := by simp; omega
  have a6 : decide ((x : Int) ≤ 57) = false := by simp; omega
  go_enter Tryz.func38, Tryz.ntmps38
  go_wp2
  go_ret
  exact ⟨by simp [*], 0, rfl⟩

theorem wname_closure (W : World) (x : Nat) (hx : x ≤ 1114111) : FnGives Tryz.prog 38 #[] #[encR x] (.bool (oddW x)) W := by
  unfold FnGives
  show Calls Tryz.prog 38 #[.int .i32 (x : Int)] W _
  have key : ∀ b, oddW x = b → Calls Tryz.prog 38 #[.int .i32 (x : Int)] W (fun e w' => e = .returned (.bool b) ∧ ∃ q, w' = W.drewN q) → Calls Tryz.prog 38 #[.int .i32 (x : Int)] W (fun e w' => e = .returned (.bool (oddW x)) ∧ ∃ q, w' = W.drewN q) := by
    intro b hb h; rw [hb]; exact h
  rcases Nat.lt_or_ge x 48 with h | h
  · exact key true (by unfold oddW; simp; omega) (wname_closure0 W x h)
  rcases Nat.lt_or_ge 57 x with h2 | h2
  · rcases Nat.lt_or_ge x 65 with h3 | h3
    · exact key true (by unfold oddW; simp; omega) (wname_closure2 W x h2 h3)
    rcases Nat.lt_or_ge 90 x with h4 | h4
    · rcases Nat.lt_or_ge x 97 with h5 | h5
      · exact key true (by unfold oddW; simp; omega) (wname_closure4 W x h4 h5)
      rcases Nat.lt_or_ge 122 x with h6 | h6
      · exact key true (by unfold oddW; simp; omega) (wname_closure6 W x h6)
      · exact key false (by unfold oddW; simp; omega) (wname_closure5 W x h5 h6)
    · exact key false (by unfold oddW; simp; omega) (wname_closure3 W x h3 h4)
  · exact key false (by unfold oddW; simp; omega) (wname_closure1 W x h h2)

theorem wname_contains (l : List UInt8) (h : ∀ b ∈ l, oddW b.toNat = false) (w : World) :
    Calls Tryz.prog 39 #[sv l, .func (.func 38) #[] #[]] w fun e w' => e = .returned (.bool false) ∧ Keep No w w' := by
  refine (Tryz.strings_ContainsFunc_runes _ #[] (fun args w => by kernel_rfl) oddW ⟨l.toArray⟩ w (fun W x hx _ => wname_closure W x hx)).mono ?_
  rintro e w' ⟨rfl, hb⟩
  have : Lib.idxFunc oddW true ⟨l.toArray⟩ = -1 := idx_none oddW l (fun b hb => by
    have h1 := h b hb
    exact ⟨by unfold oddW at h1; simp at h1; omega, h1⟩) _ _
  exact ⟨by rw [this]; rfl, Keep.of_below hb⟩

/-- A log's name: letters and digits, not none, no more than 16. -/
structure LogName (l : List UInt8) : Prop where
  plain : ∀ b ∈ l, oddW b.toNat = false
  some_ : l ≠ []
  most : l.length ≤ 16

theorem wname_ok (l : List UInt8) (h : LogName l) (w : World) :
    Calls Tryz.prog 23 #[sv l] w fun e w' => e = .returned (.bool true) ∧ Keep No w w' := by
  have hs : (ByteArray.mk l.toArray).size = l.length := by simp [ByteArray.size]
  have ht := toList_sv l
  have h0 := h.some_
  have h1 := h.most
  have hne : l.isEmpty = false := by cases l <;> simp_all
  have hc := Lib.hid (fun w => wname_contains l h.plain w)
  go_enter Tryz.func23, Tryz.ntmps23
  go_wp2_with fail
  refine (hc.out _).mono ?_
  rintro e w' ⟨rfl, hk⟩
  go_wp2
  go_ret
  exact ⟨rfl, hk⟩

/-- The name of a log's file. -/
def fileName (nm : List UInt8) (n : Nat) : List UInt8 := nm ++ 46 :: Lib.decDigits n

/-- The library's table of powers, as it is laid ahead of all. -/
abbrev Tab (w : World) : Prop := Lib.TabIs Tryz.prog w "internal/strconv.uint64pow10" .u64 Lib.pow10Tab

theorem itoa_nat (n : Nat) : Lib.itoa (n : Int) = Lib.decDigits n := by
  unfold Lib.itoa
  rw [if_neg (by omega)]
  rfl

theorem digits_len (n k : Nat) (hk : 1 ≤ k) (h : n < 10 ^ k) : (Lib.decDigits n).length ≤ k := by
  induction k generalizing n with
  | zero => omega
  | succ k ih =>
    unfold Lib.decDigits
    split
    · simp
    · rename_i h10
      have hk1 : 1 ≤ k := by
        rcases Nat.eq_zero_or_pos k with h0 | h0
        · subst h0; simp at h; omega
        · exact h0
      rw [List.length_append]
      have := ih (n / 10) hk1 (by rw [Nat.pow_succ] at h; omega)
      simp; omega

theorem below_grow (w : World) (k : Nat) (os : Array Obj) : Below w.heap.size w (Sort.grow (w.drewN k) os) :=
  ⟨rfl, rfl, rfl, by simp [Sort.grow], fun b hb => by
    show (w.heap ++ os)[b]? = _
    rw [Array.getElem?_append_left hb]⟩

theorem file_ok (nm : List UInt8) (n : Nat) (hn : n < 1000000000) (hl : nm.length ≤ 16) (w : World) (htab : Tab w) :
    Calls Tryz.prog 21 #[sv nm, .int .i64 n] w fun e w' => e = .returned (sv (fileName nm n)) ∧ Keep No w w' := by
  have hi := Lib.hid (fun w ht => Tryz.strconv_Itoa (n : Int) (by omega) (by omega) w ht)
  have h1 : decide ((n : Int) < 0) = false := by simp
  have h2 : decide ((1000000000 : Int) ≤ (n : Int)) = false := by simp; omega
  have htab' := Lib.hid htab
  clear htab
  go_enter Tryz.func21, Tryz.ntmps21
  go_wp2_with fail
  refine (hi.out _ htab'.out).mono ?_
  rintro e w' ⟨rfl, k, os, rfl⟩
  rw [itoa_nat n]
  have hd := digits_len n 9 (by decide) (by omega)
  generalize hds : Lib.decDigits n = ds at hd ⊢
  have Hds := Lib.hid hds; clear hds
  have hsz : (ByteArray.mk nm.toArray).size = nm.length := by simp [ByteArray.size]
  have hsd : (ByteArray.mk ds.toArray).size = ds.length := by simp [ByteArray.size]
  go_wp2
  go_ret
  refine ⟨?_, ?_⟩
  · have e : (⟨nm.toArray⟩ : ByteArray) ++ ⟨#[46]⟩ ++ ⟨ds.toArray⟩ = ⟨(fileName nm n).toArray⟩ := by
      apply ByteArray.ext
      simp [fileName, Hds.out]
    exact congrArg (fun b => Ending.returned (Value.string b)) e
  · exact Keep.of_below (below_grow _ _ _)
end Go.Proofs.YtbmejbmkaoekgaaGreatDoor
