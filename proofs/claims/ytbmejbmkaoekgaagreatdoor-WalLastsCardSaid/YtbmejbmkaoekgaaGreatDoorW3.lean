/- Next: the frame with which bytes begin. -/
import Derived.Test.YtbmejbmkaoekgaaGreatDoorW2
import Derived.Deep.RegionWith
import Derived.Deep.RegionHeld3
import Derived.Deep.Cut
namespace Go.Proofs.YtbmejbmkaoekgaaGreatDoor
open Go Go.RowKit
set_option linter.unusedVariables false
set_option linter.unusedSimpArgs false

def beN (n : Nat) (bs : List UInt8) : Nat := bs.foldl (fun n b => n * 256 + b.toNat) n

theorem beN_lt (bs : List UInt8) (n k : Nat) (h : n < 256 ^ k) : beN n bs < 256 ^ (k + bs.length) := by
  induction bs generalizing n k with
  | nil => exact h
  | cons b bs ih =>
    have hb := b.toNat_lt
    have : n * 256 + b.toNat < 256 ^ (k + 1) := by rw [Nat.pow_succ]; omega
    have := ih _ (k + 1) this
    simp only [List.length_cons]
    rw [show k + (bs.length + 1) = k + 1 + bs.length from by omega]
    exact this
theorem beN_take (bs : List UInt8) (n k : Nat) (h : k < bs.length) : beN n (bs.take (k + 1)) = beN n (bs.take k) * 256 + bs[k].toNat := by
  rw [List.take_succ_eq_append_getElem h, beN, List.foldl_append]; rfl

/-- The first record of bytes, how many bytes its frame has, the error. -/
def nextB (b : List UInt8) : List UInt8 × Nat × Int :=
  if b.length < 12 then ([], 0, 10)
  else if fourB (crc (b.take 4)) ≠ (b.drop 4).take 4 ∨ 65536 < beN 0 (b.take 4) then ([], 0, 34)
  else if b.length - 12 < beN 0 (b.take 4) then ([], 0, 10)
  else if fourB (crc ((b.drop 12).take (beN 0 (b.take 4)))) ≠ (b.drop 8).take 4 then ([], 0, 34)
  else ((b.drop 12).take (beN 0 (b.take 4)), 12 + beN 0 (b.take 4), 0)

theorem or_byte (m : Nat) (b : UInt8) (h : m < 4294967296) : bits .or .i64 ((m : Int) * 256) (b.toNat : Int) = ((m * 256 + b.toNat : Nat) : Int) := by
  have hb := b.toNat_lt
  have := bits_join .i64 63 (by decide) (fun n h0 h1 => by rw [IntKind.wrap_i64]; omega) 8 ((m : Int) * 256) (b.toNat : Int) (by omega) (by omega) (by omega) (by omega) (by omega) (by omega)
  rw [this]; omega

theorem slice_twelve (w : World) (g off n c N : Nat) (A12 : Option Addr) (h : 12 + N ≤ c) (hif : (if c = 12 then some (⟨g, off, none⟩ : Addr) else some ⟨g, off + 12, none⟩) = A12) :
    (Instr.slice 31 (.slice (some ⟨g, off, none⟩) n c) (some (.int .i64 12)) (some (.int .i64 (12 + (N : Int)))) none).run Tryz.prog w = .ok (.slice A12 N (c - 12)) w := by
  have z5 : (Go.sizeOf 5).run Tryz.prog w = .ok 1 w := by
    obtain ⟨i, hi, _, hs, _⟩ := info_parts iByte
    simp [Go.sizeOf, typeInfo, hi, hs]
  rw [run_slice_lh (P := Tryz.prog) w 31 (some ⟨g, off, none⟩) n c uBytesE .i64 .i64 12 (12 + (N : Int)) (by decide) (by omega) (by omega)]
  rw [eBytes, z5]
  subst hif
  simp only [Result.andThen_ok, sliced]
  have e1 : (12 + (N : Int)).toNat = 12 + N := by omega
  have e2 : (12 : Int).toNat = 12 := rfl
  rw [e1, e2, show 12 + N - 12 = N from by omega]
  by_cases hc : c = 12
  · rw [if_pos hc, if_pos hc]
  · rw [if_neg hc, if_neg hc]; rfl

def NextPost (b : List UInt8) (w : World) (e : Ending) (w' : World) : Prop :=
  ∃ v, e = .returned (.tuple #[v, .int .i64 ((nextB b).2.1 : Nat), .int .i64 (nextB b).2.2]) ∧ Bytes w' tByte v (nextB b).1 ∧ Keep No w w'

set_option maxHeartbeats 400000 in
theorem next_short (v : Value) (b : List UInt8) (w : World) (hb : Bytes w tByte v b) (hl : b.length < 12) :
    Calls Tryz.prog 60 #[v] w fun e w' => e = .returned (.tuple #[.slice none 0 0, .int .i64 0, .int .i64 10]) ∧ w = w' := by
  obtain ⟨A, c, rfl⟩ := hb.form
  clear hb
  go_enter Tryz.func60, Tryz.ntmps60
  go_wp2_with fail
  go_ret3
  exact ⟨rfl, rfl⟩

set_option maxHeartbeats 1000000 in
theorem next_bad (v : Value) (b : List UInt8) (w : World) (hb : Bytes w tByte v b) (hl : ¬ b.length < 12) (N c1 : Nat) (hN : Hid (beN 0 (b.take 4) = N)) (Hc1 : Hid (crc (b.take 4) = c1)) (hs1 : c1 < 4294967296) (HC1 : Hid ((fourB c1 == (b.drop 4).take 4) = false)) :
    Calls Tryz.prog 60 #[v] w (NextPost b w) := by
  have hb' := Lib.hid hb
  obtain ⟨A, c, rfl, hc, hm, hx⟩ := hb
  obtain ⟨g, off, cs, fz, rfl, hg, hi⟩ := hx (by omega)
  unfold maxLen at hm
  clear hg hi hx
  have hb4 : Hid (∀ (k : Nat) (hk : k < (b.take 4).length), ∃ a c', Value.slice (some ⟨g, off, none⟩) 4 c = .slice (some a) 4 c' ∧ a.block < w.heap.size ∧ w.cell? (a.add k) = some (bv (b.take 4)[k])) := Lib.hid (fun k hk => by
    have h := hb'.out.part (i := 0) (j := 4) (by omega) (by omega) (some ⟨g, off, none⟩) (fun _ => by simp [Addr.add])
    have hl4 : (b.take 4).length = 4 := by rw [List.length_take]; omega
    have := h.at_ (i := k) (by simpa using hk)
    simpa [hl4] using this)
  have h4 := Lib.hid (hb'.out.part (i := 0) (j := 4) (by omega) (by omega) (some ⟨g, off, none⟩) (fun _ => by simp [Addr.add]))
  go_enter Tryz.func60, Tryz.ntmps60
  go_wp2_with fail
  go_loop [5, 14] (fun n i => ∃ k : Nat, k ≤ 4 ∧ i = .int .i64 k ∧ n = .int .i64 (beN 0 ((b.take 4).take k) : Nat)) (fun _ i => 4 - (intOf i).toNat)
  case atStart => exact ⟨0, by omega, rfl, rfl⟩
  case round =>
    obtain ⟨k, hk, rfl, rfl⟩ := hrel
    have hl4 : (b.take 4).length = 4 := by rw [List.length_take]; omega
    by_cases hlt : k < 4
    · have hlk : k < (b.take 4).length := by omega
      obtain ⟨a, c', hs, _, hcell⟩ := hb4.out k hlk
      injection hs with hs _ hcc; clear hcc
      injection hs with hs
      subst hs
      have hcell' : w.cell? ⟨g, off + k, none⟩ = some (.int .u8 (((b.take 4)[k]).toNat : Int)) := by
        rw [← add_at]; exact hcell
      clear hcell
      have hbd := (b.take 4)[k].toNat_lt
      have HT := Lib.hid (beN_take (b.take 4) 0 k hlk)
      have hlt2 := beN_lt ((b.take 4).take k) 0 0 (by decide)
      have hlt3 : beN 0 ((b.take 4).take k) < 16777216 := by
        have : ((b.take 4).take k).length ≤ 3 := by rw [List.length_take]; omega
        rw [Nat.zero_add] at hlt2
        exact Nat.lt_of_lt_of_le hlt2 (Nat.le_trans (Nat.pow_le_pow_right (by decide) this) (by decide))
      have HO := Lib.hid (or_byte (beN 0 ((b.take 4).take k)) (b.take 4)[k] (by omega))
      clear hlt2
      generalize beN 0 ((b.take 4).take k) = m at *
      generalize (b.take 4)[k] = x at *
      go_wp2
      go_round
      case rel => exact ⟨k + 1, by omega, by go_num, by rw [HT.out, HO.out]⟩
      case measure => simp [intOf]; omega
    · have hk4 : k = 4 := by omega
      subst hk4
      have ht : (b.take 4).take 4 = b.take 4 := List.take_of_length_le (by omega)
      rw [ht]
      clear ht
      rw [hN.out]
      have h48 := Lib.hid (hb'.out.part (i := 4) (j := 8) (by omega) (by omega) (some ⟨g, off + 4, none⟩) (fun _ => by simp [Addr.add]))
      have hc4 : (4 : Int) ≤ (c : Int) := by omega
      have hc8 : (8 : Int) ≤ (c : Int) := by omega
      have hc4' : 4 ≤ c := by omega
      have hc8' : 8 ≤ c := by omega
      have hd4 : c ≠ 4 := by omega
      go_upto_region 9 with fail
      first | (go_region_with (first
          | (go_at_call 22; refine (sum_any _ (b.take 4) _ ?_).mono ?_; exact h4.out.keep (Keep.refl No w).drew (NoBytes.no _ _); rintro e w' ⟨rfl, rfl⟩; rw [Hc1.out])
          | (go_at_call 48; refine (four_any c1 _ hs1).mono ?_; rintro e w1 ⟨v1, rfl, hv1, hk1⟩; obtain ⟨A1, d1, hA⟩ := hv1.form; subst hA; have hv1' := Lib.hid hv1; have hk1' := Lib.hid hk1.undrew; clear hv1 hk1)
          | (go_at_call 87; refine (equal_any _ _ (fourB c1) ((b.drop 4).take 4) _ hv1'.out ?_).mono ?_; exact h48.out.keep hk1'.out (NoBytes.no _ _); rintro e w' ⟨rfl, rfl⟩; rw [HC1.out]))) | skip
      go_wp2_with fail
      go_ret3
      have hne : fourB (crc (b.take 4)) ≠ (b.drop 4).take 4 := by rw [Hc1.out]; simpa using HC1.out
      have e1 : nextB b = ([], 0, 34) := by unfold nextB; rw [if_neg hl, if_pos (Or.inl hne)]
      exact ⟨_, by rw [e1]; rfl, by rw [e1]; exact Bytes.nil _ _, hk1'.out⟩

set_option maxHeartbeats 1000000 in
theorem next_great (v : Value) (b : List UInt8) (w : World) (hb : Bytes w tByte v b) (hl : ¬ b.length < 12) (N c1 : Nat) (hN : Hid (beN 0 (b.take 4) = N)) (Hc1 : Hid (crc (b.take 4) = c1)) (hs1 : c1 < 4294967296) (HC1 : Hid ((fourB c1 == (b.drop 4).take 4) = true)) (hN6 : (65536 : Int) < N) (hN7 : (N : Int) ≤ 4294967296) :
    Calls Tryz.prog 60 #[v] w (NextPost b w) := by
  have hb' := Lib.hid hb
  obtain ⟨A, c, rfl, hc, hm, hx⟩ := hb
  obtain ⟨g, off, cs, fz, rfl, hg, hi⟩ := hx (by omega)
  unfold maxLen at hm
  clear hg hi hx
  have hb4 : Hid (∀ (k : Nat) (hk : k < (b.take 4).length), ∃ a c', Value.slice (some ⟨g, off, none⟩) 4 c = .slice (some a) 4 c' ∧ a.block < w.heap.size ∧ w.cell? (a.add k) = some (bv (b.take 4)[k])) := Lib.hid (fun k hk => by
    have h := hb'.out.part (i := 0) (j := 4) (by omega) (by omega) (some ⟨g, off, none⟩) (fun _ => by simp [Addr.add])
    have hl4 : (b.take 4).length = 4 := by rw [List.length_take]; omega
    have := h.at_ (i := k) (by simpa using hk)
    simpa [hl4] using this)
  have h4 := Lib.hid (hb'.out.part (i := 0) (j := 4) (by omega) (by omega) (some ⟨g, off, none⟩) (fun _ => by simp [Addr.add]))
  go_enter Tryz.func60, Tryz.ntmps60
  go_wp2_with fail
  go_loop [5, 14] (fun n i => ∃ k : Nat, k ≤ 4 ∧ i = .int .i64 k ∧ n = .int .i64 (beN 0 ((b.take 4).take k) : Nat)) (fun _ i => 4 - (intOf i).toNat)
  case atStart => exact ⟨0, by omega, rfl, rfl⟩
  case round =>
    obtain ⟨k, hk, rfl, rfl⟩ := hrel
    have hl4 : (b.take 4).length = 4 := by rw [List.length_take]; omega
    by_cases hlt : k < 4
    · have hlk : k < (b.take 4).length := by omega
      obtain ⟨a, c', hs, _, hcell⟩ := hb4.out k hlk
      injection hs with hs _ hcc; clear hcc
      injection hs with hs
      subst hs
      have hcell' : w.cell? ⟨g, off + k, none⟩ = some (.int .u8 (((b.take 4)[k]).toNat : Int)) := by
        rw [← add_at]; exact hcell
      clear hcell
      have hbd := (b.take 4)[k].toNat_lt
      have HT := Lib.hid (beN_take (b.take 4) 0 k hlk)
      have hlt2 := beN_lt ((b.take 4).take k) 0 0 (by decide)
      have hlt3 : beN 0 ((b.take 4).take k) < 16777216 := by
        have : ((b.take 4).take k).length ≤ 3 := by rw [List.length_take]; omega
        rw [Nat.zero_add] at hlt2
        exact Nat.lt_of_lt_of_le hlt2 (Nat.le_trans (Nat.pow_le_pow_right (by decide) this) (by decide))
      have HO := Lib.hid (or_byte (beN 0 ((b.take 4).take k)) (b.take 4)[k] (by omega))
      clear hlt2
      generalize beN 0 ((b.take 4).take k) = m at *
      generalize (b.take 4)[k] = x at *
      go_wp2
      go_round
      case rel => exact ⟨k + 1, by omega, by go_num, by rw [HT.out, HO.out]⟩
      case measure => simp [intOf]; omega
    · have hk4 : k = 4 := by omega
      subst hk4
      have ht : (b.take 4).take 4 = b.take 4 := List.take_of_length_le (by omega)
      rw [ht]
      clear ht
      rw [hN.out]
      have h48 := Lib.hid (hb'.out.part (i := 4) (j := 8) (by omega) (by omega) (some ⟨g, off + 4, none⟩) (fun _ => by simp [Addr.add]))
      have hc4 : (4 : Int) ≤ (c : Int) := by omega
      have hc8 : (8 : Int) ≤ (c : Int) := by omega
      have hc4' : 4 ≤ c := by omega
      have hc8' : 8 ≤ c := by omega
      have hd4 : c ≠ 4 := by omega
      go_upto_region 9 with fail
      first | (go_region_held3 (fun _ => True) (trivial) (first
          | (go_at_call 22; refine (sum_any _ (b.take 4) _ ?_).mono ?_; exact h4.out.keep (Keep.refl No w).drew (NoBytes.no _ _); rintro e w' ⟨rfl, rfl⟩; rw [Hc1.out])
          | (go_at_call 48; refine (four_any c1 _ hs1).mono ?_; rintro e w1 ⟨v1, rfl, hv1, hk1⟩; obtain ⟨A1, d1, hA⟩ := hv1.form; subst hA; have hv1' := Lib.hid hv1; have hk1' := Lib.hid hk1.undrew; clear hv1 hk1)
          | (go_at_call 87; refine (equal_any _ _ (fourB c1) ((b.drop 4).take 4) _ hv1'.out ?_).mono ?_; exact h48.out.keep hk1'.out (NoBytes.no _ _); rintro e w' ⟨rfl, rfl⟩; rw [HC1.out]))) | skip
      go_wp2_with fail
      go_ret3
      have e1 : nextB b = ([], 0, 34) := by unfold nextB; rw [if_neg hl, if_pos (Or.inr (by rw [hN.out]; omega))]
      exact ⟨_, by rw [e1]; rfl, by rw [e1]; exact Bytes.nil _ _, hk1'.out⟩

set_option maxHeartbeats 1000000 in
theorem next_part (v : Value) (b : List UInt8) (w : World) (hb : Bytes w tByte v b) (hl : ¬ b.length < 12) (N c1 : Nat) (hN : Hid (beN 0 (b.take 4) = N)) (Hc1 : Hid (crc (b.take 4) = c1)) (hs1 : c1 < 4294967296) (HC1 : Hid ((fourB c1 == (b.drop 4).take 4) = true)) (hN6 : (N : Int) ≤ 65536) (hsh : (b.length : Int) - 12 < (N : Int)) :
    Calls Tryz.prog 60 #[v] w (NextPost b w) := by
  have hb' := Lib.hid hb
  obtain ⟨A, c, rfl, hc, hm, hx⟩ := hb
  obtain ⟨g, off, cs, fz, rfl, hg, hi⟩ := hx (by omega)
  unfold maxLen at hm
  clear hg hi hx
  have hb4 : Hid (∀ (k : Nat) (hk : k < (b.take 4).length), ∃ a c', Value.slice (some ⟨g, off, none⟩) 4 c = .slice (some a) 4 c' ∧ a.block < w.heap.size ∧ w.cell? (a.add k) = some (bv (b.take 4)[k])) := Lib.hid (fun k hk => by
    have h := hb'.out.part (i := 0) (j := 4) (by omega) (by omega) (some ⟨g, off, none⟩) (fun _ => by simp [Addr.add])
    have hl4 : (b.take 4).length = 4 := by rw [List.length_take]; omega
    have := h.at_ (i := k) (by simpa using hk)
    simpa [hl4] using this)
  have h4 := Lib.hid (hb'.out.part (i := 0) (j := 4) (by omega) (by omega) (some ⟨g, off, none⟩) (fun _ => by simp [Addr.add]))
  go_enter Tryz.func60, Tryz.ntmps60
  go_wp2_with fail
  go_loop [5, 14] (fun n i => ∃ k : Nat, k ≤ 4 ∧ i = .int .i64 k ∧ n = .int .i64 (beN 0 ((b.take 4).take k) : Nat)) (fun _ i => 4 - (intOf i).toNat)
  case atStart => exact ⟨0, by omega, rfl, rfl⟩
  case round =>
    obtain ⟨k, hk, rfl, rfl⟩ := hrel
    have hl4 : (b.take 4).length = 4 := by rw [List.length_take]; omega
    by_cases hlt : k < 4
    · have hlk : k < (b.take 4).length := by omega
      obtain ⟨a, c', hs, _, hcell⟩ := hb4.out k hlk
      injection hs with hs _ hcc; clear hcc
      injection hs with hs
      subst hs
      have hcell' : w.cell? ⟨g, off + k, none⟩ = some (.int .u8 (((b.take 4)[k]).toNat : Int)) := by
        rw [← add_at]; exact hcell
      clear hcell
      have hbd := (b.take 4)[k].toNat_lt
      have HT := Lib.hid (beN_take (b.take 4) 0 k hlk)
      have hlt2 := beN_lt ((b.take 4).take k) 0 0 (by decide)
      have hlt3 : beN 0 ((b.take 4).take k) < 16777216 := by
        have : ((b.take 4).take k).length ≤ 3 := by rw [List.length_take]; omega
        rw [Nat.zero_add] at hlt2
        exact Nat.lt_of_lt_of_le hlt2 (Nat.le_trans (Nat.pow_le_pow_right (by decide) this) (by decide))
      have HO := Lib.hid (or_byte (beN 0 ((b.take 4).take k)) (b.take 4)[k] (by omega))
      clear hlt2
      generalize beN 0 ((b.take 4).take k) = m at *
      generalize (b.take 4)[k] = x at *
      go_wp2
      go_round
      case rel => exact ⟨k + 1, by omega, by go_num, by rw [HT.out, HO.out]⟩
      case measure => simp [intOf]; omega
    · have hk4 : k = 4 := by omega
      subst hk4
      have ht : (b.take 4).take 4 = b.take 4 := List.take_of_length_le (by omega)
      rw [ht]
      clear ht
      rw [hN.out]
      have h48 := Lib.hid (hb'.out.part (i := 4) (j := 8) (by omega) (by omega) (some ⟨g, off + 4, none⟩) (fun _ => by simp [Addr.add]))
      have hc4 : (4 : Int) ≤ (c : Int) := by omega
      have hc8 : (8 : Int) ≤ (c : Int) := by omega
      have hc4' : 4 ≤ c := by omega
      have hc8' : 8 ≤ c := by omega
      have hd4 : c ≠ 4 := by omega
      go_upto_region 9 with fail
      first | (go_region_held3 (fun _ => True) (trivial) (first
          | (go_at_call 22; refine (sum_any _ (b.take 4) _ ?_).mono ?_; exact h4.out.keep (Keep.refl No w).drew (NoBytes.no _ _); rintro e w' ⟨rfl, rfl⟩; rw [Hc1.out])
          | (go_at_call 48; refine (four_any c1 _ hs1).mono ?_; rintro e w1 ⟨v1, rfl, hv1, hk1⟩; obtain ⟨A1, d1, hA⟩ := hv1.form; subst hA; have hv1' := Lib.hid hv1; have hk1' := Lib.hid hk1.undrew; clear hv1 hk1)
          | (go_at_call 87; refine (equal_any _ _ (fourB c1) ((b.drop 4).take 4) _ hv1'.out ?_).mono ?_; exact h48.out.keep hk1'.out (NoBytes.no _ _); rintro e w' ⟨rfl, rfl⟩; rw [HC1.out]))) | skip
      go_wp2_with fail
      go_ret3
      have HE : fourB (crc (b.take 4)) = (b.drop 4).take 4 := by rw [Hc1.out]; exact eq_of_beq HC1.out
      have e1 : nextB b = ([], 0, 10) := by unfold nextB; rw [if_neg hl, if_neg (by rw [hN.out]; exact fun h => h.elim (fun h => h HE) (fun h => by omega)), hN.out, if_pos (by omega)]
      exact ⟨_, by rw [e1]; rfl, by rw [e1]; exact Bytes.nil _ _, hk1'.out⟩

set_option maxHeartbeats 1000000 in
theorem next_rot (v : Value) (b : List UInt8) (w : World) (hb : Bytes w tByte v b) (hl : ¬ b.length < 12) (N c1 c2 : Nat) (hN : Hid (beN 0 (b.take 4) = N)) (Hc1 : Hid (crc (b.take 4) = c1)) (hs1 : c1 < 4294967296) (HC1 : Hid ((fourB c1 == (b.drop 4).take 4) = true)) (hN6 : (N : Int) ≤ 65536) (hsh : ¬ ((b.length : Int) - 12 < (N : Int))) (Hc2 : Hid (crc ((b.drop 12).take N) = c2)) (hs2 : c2 < 4294967296) (HC2 : Hid ((fourB c2 == (b.drop 8).take 4) = false)) :
    Calls Tryz.prog 60 #[v] w (NextPost b w) := by
  have hb' := Lib.hid hb
  obtain ⟨A, c, rfl, hc, hm, hx⟩ := hb
  obtain ⟨g, off, cs, fz, rfl, hg, hi⟩ := hx (by omega)
  unfold maxLen at hm
  clear hg hi hx
  have hb4 : Hid (∀ (k : Nat) (hk : k < (b.take 4).length), ∃ a c', Value.slice (some ⟨g, off, none⟩) 4 c = .slice (some a) 4 c' ∧ a.block < w.heap.size ∧ w.cell? (a.add k) = some (bv (b.take 4)[k])) := Lib.hid (fun k hk => by
    have h := hb'.out.part (i := 0) (j := 4) (by omega) (by omega) (some ⟨g, off, none⟩) (fun _ => by simp [Addr.add])
    have hl4 : (b.take 4).length = 4 := by rw [List.length_take]; omega
    have := h.at_ (i := k) (by simpa using hk)
    simpa [hl4] using this)
  have h4 := Lib.hid (hb'.out.part (i := 0) (j := 4) (by omega) (by omega) (some ⟨g, off, none⟩) (fun _ => by simp [Addr.add]))
  go_enter Tryz.func60, Tryz.ntmps60
  go_wp2_with fail
  go_loop [5, 14] (fun n i => ∃ k : Nat, k ≤ 4 ∧ i = .int .i64 k ∧ n = .int .i64 (beN 0 ((b.take 4).take k) : Nat)) (fun _ i => 4 - (intOf i).toNat)
  case atStart => exact ⟨0, by omega, rfl, rfl⟩
  case round =>
    obtain ⟨k, hk, rfl, rfl⟩ := hrel
    have hl4 : (b.take 4).length = 4 := by rw [List.length_take]; omega
    by_cases hlt : k < 4
    · have hlk : k < (b.take 4).length := by omega
      obtain ⟨a, c', hs, _, hcell⟩ := hb4.out k hlk
      injection hs with hs _ hcc; clear hcc
      injection hs with hs
      subst hs
      have hcell' : w.cell? ⟨g, off + k, none⟩ = some (.int .u8 (((b.take 4)[k]).toNat : Int)) := by
        rw [← add_at]; exact hcell
      clear hcell
      have hbd := (b.take 4)[k].toNat_lt
      have HT := Lib.hid (beN_take (b.take 4) 0 k hlk)
      have hlt2 := beN_lt ((b.take 4).take k) 0 0 (by decide)
      have hlt3 : beN 0 ((b.take 4).take k) < 16777216 := by
        have : ((b.take 4).take k).length ≤ 3 := by rw [List.length_take]; omega
        rw [Nat.zero_add] at hlt2
        exact Nat.lt_of_lt_of_le hlt2 (Nat.le_trans (Nat.pow_le_pow_right (by decide) this) (by decide))
      have HO := Lib.hid (or_byte (beN 0 ((b.take 4).take k)) (b.take 4)[k] (by omega))
      clear hlt2
      generalize beN 0 ((b.take 4).take k) = m at *
      generalize (b.take 4)[k] = x at *
      go_wp2
      go_round
      case rel => exact ⟨k + 1, by omega, by go_num, by rw [HT.out, HO.out]⟩
      case measure => simp [intOf]; omega
    · have hk4 : k = 4 := by omega
      subst hk4
      have ht : (b.take 4).take 4 = b.take 4 := List.take_of_length_le (by omega)
      rw [ht]
      clear ht
      rw [hN.out]
      have h48 := Lib.hid (hb'.out.part (i := 4) (j := 8) (by omega) (by omega) (some ⟨g, off + 4, none⟩) (fun _ => by simp [Addr.add]))
      have hc4 : (4 : Int) ≤ (c : Int) := by omega
      have hc8 : (8 : Int) ≤ (c : Int) := by omega
      have hc4' : 4 ≤ c := by omega
      have hc8' : 8 ≤ c := by omega
      have hd4 : c ≠ 4 := by omega
      have h812 := Lib.hid (hb'.out.part (i := 8) (j := 12) (by omega) (by omega) (some ⟨g, off + 8, none⟩) (fun _ => by simp [Addr.add]))
      obtain ⟨A12, hA12, hif⟩ : ∃ A12, (0 < N → A12 = some (⟨g, off + 12, none⟩ : Addr)) ∧ (if c = 12 then some (⟨g, off, none⟩ : Addr) else some ⟨g, off + 12, none⟩) = A12 := ⟨_, fun h => by rw [if_neg (by omega)], rfl⟩
      have h12 := Lib.hid (show Bytes w tByte (.slice A12 N (c - 12)) ((b.drop 12).take N) by
        have := hb'.out.part (i := 12) (j := 12 + N) (by omega) (by omega) A12 (fun h => by rw [hA12 (by omega)]; simp [Addr.add])
        simpa using this)
      clear hA12
      have hc12 : (12 : Int) ≤ (c : Int) := by omega
      have hcN : (12 : Int) + (N : Int) ≤ (c : Int) := by omega
      have hcN' : 12 + N ≤ c := by omega
      have hNn : (0 : Int) ≤ (12 : Int) + (N : Int) := by omega
      have hNt : ((12 : Int) + (N : Int)).toNat = 12 + N := by omega
      have hNs : 12 + N - 12 = N := by omega
      have hd8 : c ≠ 8 := by omega
      have hwr : IntKind.i64.wrap ((12 : Int) + (N : Int)) = 12 + (N : Int) := by rw [IntKind.wrap_i64]; omega
      have hsl : ∀ w, (Instr.slice 31 (.slice (some ⟨g, off, none⟩) b.length c) (some (.int .i64 12)) (some (.int .i64 (12 + (N : Int)))) none).run Tryz.prog w = .ok (.slice A12 N (c - 12)) w := fun w => slice_twelve w g off b.length c N A12 hcN' hif
      go_upto_region 9 with fail
      first | (go_region_held3 (fun _ => True) (trivial) (first
          | (go_at_call 22; refine (sum_any _ (b.take 4) _ ?_).mono ?_; exact h4.out.keep (Keep.refl No w).drew (NoBytes.no _ _); rintro e w' ⟨rfl, rfl⟩; rw [Hc1.out])
          | (go_at_call 48; refine (four_any c1 _ hs1).mono ?_; rintro e w1 ⟨v1, rfl, hv1, hk1⟩; obtain ⟨A1, d1, hA⟩ := hv1.form; subst hA; have hv1' := Lib.hid hv1; have hk1' := Lib.hid hk1.undrew; clear hv1 hk1)
          | (go_at_call 87; refine (equal_any _ _ (fourB c1) ((b.drop 4).take 4) _ hv1'.out ?_).mono ?_; exact h48.out.keep hk1'.out (NoBytes.no _ _); rintro e w' ⟨rfl, rfl⟩; rw [HC1.out]))) | skip
      go_upto_region 13 with fail
      first | (go_region_held3 (fun _ => True) (trivial) (first
          | (go_at_call 22; refine (sum_any _ ((b.drop 12).take N) _ ?_).mono ?_; exact h12.out.keep hk1'.out.drew (NoBytes.no _ _); rintro e w' ⟨rfl, rfl⟩; rw [Hc2.out])
          | (go_at_call 48; refine (four_any c2 _ hs2).mono ?_; rintro e w2 ⟨v2, rfl, hv2, hk2⟩; obtain ⟨A2, d2, hA⟩ := hv2.form; subst hA; have hv2' := Lib.hid hv2; have hk2' := Lib.hid (hk1'.out.trans hk2.undrew (fun _ f => f.elim)); clear hv2 hk2)
          | (go_at_call 87; refine (equal_any _ _ (fourB c2) ((b.drop 8).take 4) _ hv2'.out ?_).mono ?_; exact h812.out.keep hk2'.out (NoBytes.no _ _); rintro e w' ⟨rfl, rfl⟩; rw [HC2.out]))) | skip
      go_wp2_with fail
      go_ret3
      have HE : fourB (crc (b.take 4)) = (b.drop 4).take 4 := by rw [Hc1.out]; exact eq_of_beq HC1.out
      have hne : fourB (crc ((b.drop 12).take N)) ≠ (b.drop 8).take 4 := by rw [Hc2.out]; simpa using HC2.out
      have e1 : nextB b = ([], 0, 34) := by unfold nextB; rw [if_neg hl, if_neg (by rw [hN.out]; exact fun h => h.elim (fun h => h HE) (fun h => by omega)), hN.out, if_neg (by omega), if_pos hne]
      exact ⟨_, by rw [e1]; rfl, by rw [e1]; exact Bytes.nil _ _, hk2'.out⟩

set_option maxHeartbeats 1000000 in
theorem next_ok (v : Value) (b : List UInt8) (w : World) (hb : Bytes w tByte v b) (hl : ¬ b.length < 12) (N c1 c2 : Nat) (hN : Hid (beN 0 (b.take 4) = N)) (Hc1 : Hid (crc (b.take 4) = c1)) (hs1 : c1 < 4294967296) (HC1 : Hid ((fourB c1 == (b.drop 4).take 4) = true)) (hN6 : (N : Int) ≤ 65536) (hsh : ¬ ((b.length : Int) - 12 < (N : Int))) (Hc2 : Hid (crc ((b.drop 12).take N) = c2)) (hs2 : c2 < 4294967296) (HC2 : Hid ((fourB c2 == (b.drop 8).take 4) = true)) :
    Calls Tryz.prog 60 #[v] w (NextPost b w) := by
  have hb' := Lib.hid hb
  obtain ⟨A, c, rfl, hc, hm, hx⟩ := hb
  obtain ⟨g, off, cs, fz, rfl, hg, hi⟩ := hx (by omega)
  unfold maxLen at hm
  clear hg hi hx
  have hb4 : Hid (∀ (k : Nat) (hk : k < (b.take 4).length), ∃ a c', Value.slice (some ⟨g, off, none⟩) 4 c = .slice (some a) 4 c' ∧ a.block < w.heap.size ∧ w.cell? (a.add k) = some (bv (b.take 4)[k])) := Lib.hid (fun k hk => by
    have h := hb'.out.part (i := 0) (j := 4) (by omega) (by omega) (some ⟨g, off, none⟩) (fun _ => by simp [Addr.add])
    have hl4 : (b.take 4).length = 4 := by rw [List.length_take]; omega
    have := h.at_ (i := k) (by simpa using hk)
    simpa [hl4] using this)
  have h4 := Lib.hid (hb'.out.part (i := 0) (j := 4) (by omega) (by omega) (some ⟨g, off, none⟩) (fun _ => by simp [Addr.add]))
  go_enter Tryz.func60, Tryz.ntmps60
  go_wp2_with fail
  go_loop [5, 14] (fun n i => ∃ k : Nat, k ≤ 4 ∧ i = .int .i64 k ∧ n = .int .i64 (beN 0 ((b.take 4).take k) : Nat)) (fun _ i => 4 - (intOf i).toNat)
  case atStart => exact ⟨0, by omega, rfl, rfl⟩
  case round =>
    obtain ⟨k, hk, rfl, rfl⟩ := hrel
    have hl4 : (b.take 4).length = 4 := by rw [List.length_take]; omega
    by_cases hlt : k < 4
    · have hlk : k < (b.take 4).length := by omega
      obtain ⟨a, c', hs, _, hcell⟩ := hb4.out k hlk
      injection hs with hs _ hcc; clear hcc
      injection hs with hs
      subst hs
      have hcell' : w.cell? ⟨g, off + k, none⟩ = some (.int .u8 (((b.take 4)[k]).toNat : Int)) := by
        rw [← add_at]; exact hcell
      clear hcell
      have hbd := (b.take 4)[k].toNat_lt
      have HT := Lib.hid (beN_take (b.take 4) 0 k hlk)
      have hlt2 := beN_lt ((b.take 4).take k) 0 0 (by decide)
      have hlt3 : beN 0 ((b.take 4).take k) < 16777216 := by
        have : ((b.take 4).take k).length ≤ 3 := by rw [List.length_take]; omega
        rw [Nat.zero_add] at hlt2
        exact Nat.lt_of_lt_of_le hlt2 (Nat.le_trans (Nat.pow_le_pow_right (by decide) this) (by decide))
      have HO := Lib.hid (or_byte (beN 0 ((b.take 4).take k)) (b.take 4)[k] (by omega))
      clear hlt2
      generalize beN 0 ((b.take 4).take k) = m at *
      generalize (b.take 4)[k] = x at *
      go_wp2
      go_round
      case rel => exact ⟨k + 1, by omega, by go_num, by rw [HT.out, HO.out]⟩
      case measure => simp [intOf]; omega
    · have hk4 : k = 4 := by omega
      subst hk4
      have ht : (b.take 4).take 4 = b.take 4 := List.take_of_length_le (by omega)
      rw [ht]
      clear ht
      rw [hN.out]
      have h48 := Lib.hid (hb'.out.part (i := 4) (j := 8) (by omega) (by omega) (some ⟨g, off + 4, none⟩) (fun _ => by simp [Addr.add]))
      have hc4 : (4 : Int) ≤ (c : Int) := by omega
      have hc8 : (8 : Int) ≤ (c : Int) := by omega
      have hc4' : 4 ≤ c := by omega
      have hc8' : 8 ≤ c := by omega
      have hd4 : c ≠ 4 := by omega
      have h812 := Lib.hid (hb'.out.part (i := 8) (j := 12) (by omega) (by omega) (some ⟨g, off + 8, none⟩) (fun _ => by simp [Addr.add]))
      obtain ⟨A12, hA12, hif⟩ : ∃ A12, (0 < N → A12 = some (⟨g, off + 12, none⟩ : Addr)) ∧ (if c = 12 then some (⟨g, off, none⟩ : Addr) else some ⟨g, off + 12, none⟩) = A12 := ⟨_, fun h => by rw [if_neg (by omega)], rfl⟩
      have h12 := Lib.hid (show Bytes w tByte (.slice A12 N (c - 12)) ((b.drop 12).take N) by
        have := hb'.out.part (i := 12) (j := 12 + N) (by omega) (by omega) A12 (fun h => by rw [hA12 (by omega)]; simp [Addr.add])
        simpa using this)
      clear hA12
      have hc12 : (12 : Int) ≤ (c : Int) := by omega
      have hcN : (12 : Int) + (N : Int) ≤ (c : Int) := by omega
      have hcN' : 12 + N ≤ c := by omega
      have hNn : (0 : Int) ≤ (12 : Int) + (N : Int) := by omega
      have hNt : ((12 : Int) + (N : Int)).toNat = 12 + N := by omega
      have hNs : 12 + N - 12 = N := by omega
      have hd8 : c ≠ 8 := by omega
      have hwr : IntKind.i64.wrap ((12 : Int) + (N : Int)) = 12 + (N : Int) := by rw [IntKind.wrap_i64]; omega
      have hsl : ∀ w, (Instr.slice 31 (.slice (some ⟨g, off, none⟩) b.length c) (some (.int .i64 12)) (some (.int .i64 (12 + (N : Int)))) none).run Tryz.prog w = .ok (.slice A12 N (c - 12)) w := fun w => slice_twelve w g off b.length c N A12 hcN' hif
      go_upto_region 9 with fail
      first | (go_region_held3 (fun _ => True) (trivial) (first
          | (go_at_call 22; refine (sum_any _ (b.take 4) _ ?_).mono ?_; exact h4.out.keep (Keep.refl No w).drew (NoBytes.no _ _); rintro e w' ⟨rfl, rfl⟩; rw [Hc1.out])
          | (go_at_call 48; refine (four_any c1 _ hs1).mono ?_; rintro e w1 ⟨v1, rfl, hv1, hk1⟩; obtain ⟨A1, d1, hA⟩ := hv1.form; subst hA; have hv1' := Lib.hid hv1; have hk1' := Lib.hid hk1.undrew; clear hv1 hk1)
          | (go_at_call 87; refine (equal_any _ _ (fourB c1) ((b.drop 4).take 4) _ hv1'.out ?_).mono ?_; exact h48.out.keep hk1'.out (NoBytes.no _ _); rintro e w' ⟨rfl, rfl⟩; rw [HC1.out]))) | skip
      go_upto_region 13 with fail
      first | (go_region_held3 (fun _ => True) (trivial) (first
          | (go_at_call 22; refine (sum_any _ ((b.drop 12).take N) _ ?_).mono ?_; exact h12.out.keep hk1'.out.drew (NoBytes.no _ _); rintro e w' ⟨rfl, rfl⟩; rw [Hc2.out])
          | (go_at_call 48; refine (four_any c2 _ hs2).mono ?_; rintro e w2 ⟨v2, rfl, hv2, hk2⟩; obtain ⟨A2, d2, hA⟩ := hv2.form; subst hA; have hv2' := Lib.hid hv2; have hk2' := Lib.hid (hk1'.out.trans hk2.undrew (fun _ f => f.elim)); clear hv2 hk2)
          | (go_at_call 87; refine (equal_any _ _ (fourB c2) ((b.drop 8).take 4) _ hv2'.out ?_).mono ?_; exact h812.out.keep hk2'.out (NoBytes.no _ _); rintro e w' ⟨rfl, rfl⟩; rw [HC2.out]))) | skip
      go_wp2_with (go_at_call 30; refine (clone_any _ ((b.drop 12).take N) _ ?_ ?_).mono ?_; exact h12.out.keep hk2'.out (NoBytes.no _ _); exact (by rw [List.length_take]; omega); rintro e w3 ⟨v3, rfl, hown3, hk3⟩; have hown3' := Lib.hid hown3; have hk3' := Lib.hid (hk2'.out.trans hk3 (fun _ f => f.elim)); clear hown3 hk3)
      go_ret3
      have HE : fourB (crc (b.take 4)) = (b.drop 4).take 4 := by rw [Hc1.out]; exact eq_of_beq HC1.out
      have HE2 : fourB (crc ((b.drop 12).take N)) = (b.drop 8).take 4 := by rw [Hc2.out]; exact eq_of_beq HC2.out
      have e1 : nextB b = ((b.drop 12).take N, 12 + N, 0) := by unfold nextB; rw [if_neg hl, if_neg (by rw [hN.out]; exact fun h => h.elim (fun h => h HE) (fun h => by omega)), hN.out, if_neg (by omega), if_neg (fun h => h HE2)]
      exact ⟨_, by rw [e1]; rfl, by rw [e1]; exact Bytes.own hown3'.out (by rw [List.length_take]; unfold maxLen; omega), hk3'.out⟩


theorem next_go (v : Value) (b : List UInt8) (w : World) (hb : Bytes w tByte v b) : Calls Tryz.prog 60 #[v] w (NextPost b w) := by
  by_cases hl : b.length < 12
  · refine (next_short v b w hb hl).mono ?_
    rintro e w' ⟨rfl, rfl⟩
    have e1 : nextB b = ([], 0, 10) := by unfold nextB; rw [if_pos hl]
    exact ⟨_, by rw [e1]; rfl, by rw [e1]; exact Bytes.nil _ _, Keep.refl No w⟩
  · have hs1 := crc_lt (b.take 4)
    have hNlt := beN_lt (b.take 4) 0 0 (by decide)
    have hl4 : (b.take 4).length = 4 := by rw [List.length_take]; omega
    rw [hl4] at hNlt
    by_cases hC1 : (fourB (crc (b.take 4)) == (b.drop 4).take 4) = true
    · by_cases hN6 : 65536 < beN 0 (b.take 4)
      · exact next_great v b w hb hl _ _ rfl rfl hs1 hC1 (by omega) (by omega)
      · by_cases hsh : b.length - 12 < beN 0 (b.take 4)
        · exact next_part v b w hb hl _ _ rfl rfl hs1 hC1 (by omega) (by omega)
        · have hs2 := crc_lt ((b.drop 12).take (beN 0 (b.take 4)))
          by_cases hC2 : (fourB (crc ((b.drop 12).take (beN 0 (b.take 4)))) == (b.drop 8).take 4) = true
          · exact next_ok v b w hb hl _ _ _ rfl rfl hs1 hC1 (by omega) (by omega) rfl hs2 hC2
          · exact next_rot v b w hb hl _ _ _ rfl rfl hs1 hC1 (by omega) (by omega) rfl hs2 (Lib.hid (by simpa using hC2))
    · exact next_bad v b w hb hl _ _ rfl rfl hs1 (Lib.hid (by simpa using hC1))
end Go.Proofs.YtbmejbmkaoekgaaGreatDoor
