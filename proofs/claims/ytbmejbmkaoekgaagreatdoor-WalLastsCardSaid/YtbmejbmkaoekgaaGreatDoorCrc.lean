/- The sum of bytes, in plain numbers: each step can be turned back, so that one byte that is another one gives another sum. -/
import Derived.Laws.Entries
import Derived.Laws.BitsLemmas
namespace Go.Proofs.YtbmejbmkaoekgaaGreatDoor
open Go
set_option linter.unusedSimpArgs false

def poly : Nat := 3988292384
def cstep (c : Nat) : Nat := if c % 2 = 1 then (c / 2) ^^^ poly else c / 2
def csteps : Nat → Nat → Nat
  | 0, c => c
  | j + 1, c => cstep (csteps j c)
def cbyte (c : Nat) (b : UInt8) : Nat := csteps 8 (c ^^^ b.toNat)
def cfold (c : Nat) (bs : List UInt8) : Nat := bs.foldl cbyte c
def crc (bs : List UInt8) : Nat := cfold 4294967295 bs ^^^ 4294967295

theorem cstep_lt {c : Nat} (h : c < 4294967296) : cstep c < 4294967296 := by
  unfold cstep
  split
  · exact Nat.xor_lt_two_pow (n := 32) (by omega) (by decide)
  · omega
theorem csteps_lt (j : Nat) {c : Nat} (h : c < 4294967296) : csteps j c < 4294967296 := by
  induction j with
  | zero => exact h
  | succ j ih => exact cstep_lt ih
theorem xor_byte_lt {c : Nat} (h : c < 4294967296) (b : UInt8) : c ^^^ b.toNat < 4294967296 :=
  Nat.xor_lt_two_pow (n := 32) h (by have := b.toNat_lt; omega)
theorem cbyte_lt {c : Nat} (h : c < 4294967296) (b : UInt8) : cbyte c b < 4294967296 := csteps_lt 8 (xor_byte_lt h b)
theorem cfold_lt {c : Nat} (h : c < 4294967296) (bs : List UInt8) : cfold c bs < 4294967296 := by
  induction bs generalizing c with
  | nil => exact h
  | cons b bs ih => exact ih (cbyte_lt h b)
theorem crc_lt (bs : List UInt8) : crc bs < 4294967296 := Nat.xor_lt_two_pow (n := 32) (cfold_lt (by decide) bs) (by decide)
theorem cfold_take (bs : List UInt8) (c k : Nat) (h : k < bs.length) : cfold c (bs.take (k + 1)) = cbyte (cfold c (bs.take k)) bs[k] := by
  rw [List.take_succ_eq_append_getElem h, cfold, List.foldl_append]
  rfl

/-! in the walk's words -/
theorem bits_xor (a b : Nat) (ha : a < 4294967296) (hb : b < 4294967296) : bits .xor .u32 a b = ((a ^^^ b : Nat) : Int) := by
  have ha' : a % 2 ^ 32 = a := Nat.mod_eq_of_lt ha
  have hb' : b % 2 ^ 32 = b := Nat.mod_eq_of_lt hb
  have hx : a ^^^ b < 4294967296 := Nat.xor_lt_two_pow (n := 32) ha hb
  have e := BitVec.toNat_xor (BitVec.ofNat 32 a) (BitVec.ofNat 32 b)
  rw [BitVec.toNat_ofNat, BitVec.toNat_ofNat, ha', hb'] at e
  show IntKind.u32.wrap (((BitVec.ofInt 32 (a : Int)) ^^^ (BitVec.ofInt 32 (b : Int))).toNat : Int) = _
  rw [BitVec.ofInt_natCast, BitVec.ofInt_natCast, e, IntKind.wrap_u32]
  omega
theorem bits_and1 (a : Nat) (ha : a < 4294967296) : bits .and .u32 a 1 = ((a % 2 : Nat) : Int) := by
  have := bits_mask .u32 32 (by decide) (fun n h0 h1 => by rw [IntKind.wrap_u32]; exact Int.emod_eq_of_lt h0 h1) 1 (by decide) a (by omega) (by omega)
  simpa using this
theorem bits_andall (a : Nat) (ha : a < 4294967296) : bits .and .u32 a 4294967295 = (a : Int) := by
  have := bits_mask .u32 32 (by decide) (fun n h0 h1 => by rw [IntKind.wrap_u32]; exact Int.emod_eq_of_lt h0 h1) 32 (by decide) a (by omega) (by omega)
  have e : ((2 : Int) ^ 32 - 1) = 4294967295 := by decide
  rw [e] at this
  rw [this]
  omega
theorem go_cstep (m : Nat) (h : m < 4294967296) : bits .xor .u32 ((m : Int) / 2) (bits .and .u32 3988292384 (-bits .and .u32 (m : Int) 1 % 4294967296)) = (cstep m : Int) := by
  rw [bits_and1 m h]
  have e2 : ((m : Int) / 2) = ((m / 2 : Nat) : Int) := by omega
  rw [e2]
  unfold cstep
  by_cases hm : m % 2 = 1
  · rw [if_pos hm, hm]
    have e : (-((1 : Nat) : Int) % 4294967296) = 4294967295 := by decide
    rw [e]
    have := bits_andall 3988292384 (by decide)
    rw [show ((3988292384 : Nat) : Int) = 3988292384 from rfl] at this
    rw [this]
    exact bits_xor (m / 2) 3988292384 (by omega) (by decide)
  · have h0 : m % 2 = 0 := by omega
    rw [if_neg hm, h0]
    have e : bits .and .u32 3988292384 (-((0 : Nat) : Int) % 4294967296) = ((0 : Nat) : Int) := by decide
    rw [e, bits_xor (m / 2) 0 (by omega) (by decide)]
    simp
theorem go_cbyte (m : Nat) (b : UInt8) (h : m < 4294967296) : bits .xor .u32 (m : Int) ((b.toNat : Int) % 4294967296) = ((m ^^^ b.toNat : Nat) : Int) := by
  have hb := b.toNat_lt
  have e : ((b.toNat : Int) % 4294967296) = ((b.toNat : Nat) : Int) := by omega
  rw [e]
  exact bits_xor m b.toNat h (by omega)

/-! it can be turned back -/
theorem cstep_inj {a b : Nat} (ha : a < 4294967296) (hb : b < 4294967296) (h : cstep a = cstep b) : a = b := by
  have big : ∀ x, x < 2147483648 → 2147483648 ≤ x ^^^ poly := by
    intro x hx
    have h1 : (x ^^^ poly).testBit 31 = true := by
      rw [Nat.testBit_xor, Nat.testBit_lt_two_pow (by simpa using hx)]
      decide
    exact Nat.ge_two_pow_of_testBit h1
  unfold cstep at h
  by_cases h1 : a % 2 = 1 <;> by_cases h2 : b % 2 = 1
  · rw [if_pos h1, if_pos h2] at h
    have e : a / 2 = b / 2 := by
      have := congrArg (· ^^^ poly) h
      simpa [Nat.xor_assoc] using this
    omega
  · rw [if_pos h1, if_neg h2] at h
    have := big (a / 2) (by omega)
    omega
  · rw [if_neg h1, if_pos h2] at h
    have := big (b / 2) (by omega)
    omega
  · rw [if_neg h1, if_neg h2] at h
    omega
theorem csteps_inj (j : Nat) {a b : Nat} (ha : a < 4294967296) (hb : b < 4294967296) (h : csteps j a = csteps j b) : a = b := by
  induction j with
  | zero => exact h
  | succ j ih => exact ih (cstep_inj (csteps_lt j ha) (csteps_lt j hb) h)
theorem cbyte_inj {a b : Nat} {x : UInt8} (ha : a < 4294967296) (hb : b < 4294967296) (h : cbyte a x = cbyte b x) : a = b := by
  have := csteps_inj 8 (xor_byte_lt ha x) (xor_byte_lt hb x) h
  have := congrArg (· ^^^ x.toNat) this
  simpa [Nat.xor_assoc] using this
theorem cbyte_other {a : Nat} {x y : UInt8} (ha : a < 4294967296) (h : cbyte a x = cbyte a y) : x = y := by
  have h1 := csteps_inj 8 (xor_byte_lt ha x) (xor_byte_lt ha y) h
  have h2 := congrArg (a ^^^ ·) h1
  simp only [← Nat.xor_assoc, Nat.xor_self, Nat.zero_xor] at h2
  exact UInt8.toNat_inj.1 h2
theorem cfold_inj (bs : List UInt8) {a b : Nat} (ha : a < 4294967296) (hb : b < 4294967296) (h : cfold a bs = cfold b bs) : a = b := by
  induction bs generalizing a b with
  | nil => exact h
  | cons x bs ih => exact cbyte_inj ha hb (ih (cbyte_lt ha x) (cbyte_lt hb x) h)
/-- One byte that is another one gives another sum. -/
theorem crc_other (p q : List UInt8) (x y : UInt8) (h : crc (p ++ x :: q) = crc (p ++ y :: q)) : x = y := by
  have e : cfold 4294967295 (p ++ x :: q) = cfold 4294967295 (p ++ y :: q) := by
    have := congrArg (· ^^^ 4294967295) h
    simpa [crc, Nat.xor_assoc] using this
  simp only [cfold, List.foldl_append, List.foldl_cons] at e
  exact cbyte_other (cfold_lt (by decide) p) (cfold_inj q (cbyte_lt (cfold_lt (by decide) p) x) (cbyte_lt (cfold_lt (by decide) p) y) e)

theorem crc_example : crc [97] = 3904355907 := by decide
end Go.Proofs.YtbmejbmkaoekgaaGreatDoor
