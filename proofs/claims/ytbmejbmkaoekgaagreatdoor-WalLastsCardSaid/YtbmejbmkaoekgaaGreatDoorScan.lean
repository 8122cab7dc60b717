/- A file's bytes as frames: which records, how many bytes, what stands behind them. -/
import Derived.Test.YtbmejbmkaoekgaaGreatDoorW3
import Derived.Test.YtbmejbmkaoekgaaGreatDoorModel
namespace Go.Proofs.YtbmejbmkaoekgaaGreatDoor
open Go Go.RowKit
set_option linter.unusedVariables false
set_option linter.unusedSimpArgs false

def scanF : Nat → List UInt8 → List (List UInt8) × Nat × Int
  | 0, _ => ([], 0, 0)
  | f + 1, b => if b = [] then ([], 0, 0) else if (nextB b).2.2 = 0 then
      ((nextB b).1 :: (scanF f (b.drop (nextB b).2.1)).1, (nextB b).2.1 + (scanF f (b.drop (nextB b).2.1)).2.1, (scanF f (b.drop (nextB b).2.1)).2.2)
    else ([], 0, (nextB b).2.2)
/-- The records of bytes, how many bytes their frames have, the error behind them. -/
def scanB (b : List UInt8) : List (List UInt8) × Nat × Int := scanF b.length b

theorem nextB_ok {b : List UInt8} (h : (nextB b).2.2 = 0) : (nextB b).2.1 = 12 + (nextB b).1.length ∧ (nextB b).2.1 ≤ b.length := by
  unfold nextB at h ⊢
  split
  · rename_i q; rw [if_pos q] at h; cases h
  · rename_i q1; rw [if_neg q1] at h
    split
    · rename_i q; rw [if_pos q] at h; cases h
    · rename_i q2; rw [if_neg q2] at h
      split
      · rename_i q; rw [if_pos q] at h; cases h
      · rename_i q3; rw [if_neg q3] at h
        split
        · rename_i q; rw [if_pos q] at h; cases h
        · simp only
          rw [List.length_take, List.length_drop]
          omega

theorem nextB_err (b : List UInt8) : (nextB b).2.2 = 0 ∨ (nextB b).2.2 = 10 ∨ (nextB b).2.2 = 34 := by
  unfold nextB
  split
  · exact .inr (.inl rfl)
  · split
    · exact .inr (.inr rfl)
    · split
      · exact .inr (.inl rfl)
      · split
        · exact .inr (.inr rfl)
        · exact .inl rfl

theorem nextB_most (b : List UInt8) : (nextB b).1.length ≤ 65536 := by
  unfold nextB
  split
  · simp
  · split
    · simp
    · rename_i q
      split
      · simp
      · split
        · simp
        · simp only
          rw [List.length_take]
          have : ¬ 65536 < beN 0 (b.take 4) := fun h => q (.inr h)
          omega

theorem scanF_enough : ∀ (f : Nat) (b : List UInt8), b.length ≤ f → scanF f b = scanF b.length b
  | 0, b, h => by have : b = [] := List.eq_nil_of_length_eq_zero (by omega); subst this; rfl
  | f + 1, b, h => by
    by_cases hb : b = []
    · subst hb; simp [scanF]
    · obtain ⟨g, hg⟩ : ∃ g, b.length = g + 1 := ⟨b.length - 1, by have := List.length_pos_iff.2 hb; omega⟩
      rw [hg]
      unfold scanF
      rw [if_neg hb, if_neg hb]
      by_cases h0 : (nextB b).2.2 = 0
      · obtain ⟨h1, h2⟩ := nextB_ok h0
        have hl : (b.drop (nextB b).2.1).length ≤ g := by rw [List.length_drop]; omega
        have hl' : (b.drop (nextB b).2.1).length ≤ f := by omega
        rw [if_pos h0, if_pos h0, scanF_enough f _ hl', scanF_enough g _ hl]
      · rw [if_neg h0, if_neg h0]
  termination_by f => f

theorem scanB_nil : scanB [] = ([], 0, 0) := rfl
theorem scanB_ok {b : List UInt8} (hb : b ≠ []) (h0 : (nextB b).2.2 = 0) : scanB b = ((nextB b).1 :: (scanB (b.drop (nextB b).2.1)).1, (nextB b).2.1 + (scanB (b.drop (nextB b).2.1)).2.1, (scanB (b.drop (nextB b).2.1)).2.2) := by
  obtain ⟨g, hg⟩ : ∃ g, b.length = g + 1 := ⟨b.length - 1, by have := List.length_pos_iff.2 hb; omega⟩
  obtain ⟨h1, h2⟩ := nextB_ok h0
  have hl : (b.drop (nextB b).2.1).length ≤ g := by rw [List.length_drop]; omega
  unfold scanB
  rw [hg, scanF, if_neg hb, if_pos h0, scanF_enough g _ hl]
theorem scanB_err {b : List UInt8} (hb : b ≠ []) (h0 : (nextB b).2.2 ≠ 0) : scanB b = ([], 0, (nextB b).2.2) := by
  obtain ⟨g, hg⟩ : ∃ g, b.length = g + 1 := ⟨b.length - 1, by have := List.length_pos_iff.2 hb; omega⟩
  unfold scanB
  rw [hg, scanF, if_neg hb, if_neg h0]

/-- From bytes b the records xs have come, of s bytes with their heads; rest is what is left. -/
inductive Scan (b : List UInt8) : List (List UInt8) → Nat → List UInt8 → Prop
  | nil : Scan b [] 0 b
  | snoc {xs : List (List UInt8)} {s : Nat} {rest : List UInt8} : Scan b xs s rest → rest ≠ [] → (nextB rest).2.2 = 0 → Scan b (xs ++ [(nextB rest).1]) (s + (nextB rest).2.1) (rest.drop (nextB rest).2.1)

theorem Scan.len {b : List UInt8} {xs : List (List UInt8)} {s : Nat} {rest : List UInt8} (h : Scan b xs s rest) : s + rest.length = b.length ∧ rest = b.drop s ∧ 12 * xs.length ≤ s := by
  induction h with
  | nil => exact ⟨by omega, rfl, by simp⟩
  | @snoc xs s rest h hne h0 ih =>
    obtain ⟨h1, h2⟩ := nextB_ok h0
    refine ⟨by rw [List.length_drop]; omega, ?_, by simp; omega⟩
    rw [ih.2.1, List.drop_drop]

theorem Scan.all {b : List UInt8} {xs : List (List UInt8)} {s : Nat} {rest : List UInt8} (h : Scan b xs s rest) : scanB b = (xs ++ (scanB rest).1, s + (scanB rest).2.1, (scanB rest).2.2) := by
  induction h with
  | nil => simp
  | @snoc xs s rest h hne h0 ih =>
    rw [ih, scanB_ok hne h0]
    simp [Nat.add_assoc]

/-- All is read. -/
theorem Scan.fin {b : List UInt8} {xs : List (List UInt8)} {s : Nat} (h : Scan b xs s []) : scanB b = (xs, s, 0) ∧ s = b.length := by
  have := h.all
  rw [scanB_nil] at this
  have hl := h.len.1
  exact ⟨by simpa using this, by simpa using hl⟩
/-- It ends before. -/
theorem Scan.cut {b : List UInt8} {xs : List (List UInt8)} {s : Nat} {rest : List UInt8} (h : Scan b xs s rest) (hne : rest ≠ []) (h0 : (nextB rest).2.2 ≠ 0) : scanB b = (xs, s, (nextB rest).2.2) := by
  have := h.all
  rw [scanB_err hne h0] at this
  simpa using this

theorem ofNat_eq {a b : Nat} (h : UInt8.ofNat a = UInt8.ofNat b) : a % 256 = b % 256 := by
  have := congrArg UInt8.toNat h
  simpa using this
theorem fourB_inj {n m : Nat} (hn : n < 4294967296) (hm : m < 4294967296) (h : fourB n = fourB m) : n = m := by
  unfold fourB at h
  injection h with h1 h; injection h with h2 h; injection h with h3 h; injection h with h4 h
  have := ofNat_eq h1; have := ofNat_eq h2; have := ofNat_eq h3; have := ofNat_eq h4
  omega
theorem beN_four {n : Nat} (hn : n < 4294967296) : beN 0 (fourB n) = n := by
  unfold beN fourB
  simp only [List.foldl_cons, List.foldl_nil, UInt8.toNat_ofNat']
  omega

/-- What stands at the head of bytes whose first twelve are known. -/
theorem nextB_parts {A B C s : List UInt8} (hA : A.length = 4) (hB : B.length = 4) (hC : C.length = 4) :
    nextB (A ++ (B ++ (C ++ s))) = if fourB (crc A) ≠ B ∨ 65536 < beN 0 A then ([], 0, 34) else if s.length < beN 0 A then ([], 0, 10)
      else if fourB (crc (s.take (beN 0 A))) ≠ C then ([], 0, 34) else (s.take (beN 0 A), 12 + beN 0 A, 0) := by
  have e1 : (A ++ (B ++ (C ++ s))).take 4 = A := by rw [List.take_append_of_le_length (by omega), List.take_of_length_le (by omega)]
  have e2 : ((A ++ (B ++ (C ++ s))).drop 4).take 4 = B := by rw [List.drop_append_of_le_length (by omega), List.drop_of_length_le (by omega), List.nil_append, List.take_append_of_le_length (by omega), List.take_of_length_le (by omega)]
  have e3 : ((A ++ (B ++ (C ++ s))).drop 8).take 4 = C := by
    have : (A ++ (B ++ (C ++ s))) = (A ++ B) ++ (C ++ s) := by simp
    rw [this, List.drop_append_of_le_length (by simp; omega), List.drop_of_length_le (by simp; omega), List.nil_append, List.take_append_of_le_length (by omega), List.take_of_length_le (by omega)]
  have e4 : (A ++ (B ++ (C ++ s))).drop 12 = s := by
    have : (A ++ (B ++ (C ++ s))) = (A ++ B ++ C) ++ s := by simp
    rw [this, List.drop_append_of_le_length (by simp; omega), List.drop_of_length_le (by simp; omega), List.nil_append]
  have el : (A ++ (B ++ (C ++ s))).length = s.length + 12 := by simp; omega
  unfold nextB
  rw [if_neg (by omega), e1, e2, e3, e4, el, Nat.add_sub_cancel]

theorem nextB_frame {r : List UInt8} (hr : r.length ≤ 65536) (t : List UInt8) : nextB (frameB r ++ t) = (r, 12 + r.length, 0) := by
  have e : frameB r ++ t = fourB r.length ++ (fourB (crc (fourB r.length)) ++ (fourB (crc r) ++ (r ++ t))) := by unfold frameB; simp
  have hb : beN 0 (fourB r.length) = r.length := beN_four (by omega)
  have ht : (r ++ t).take r.length = r := by simp
  rw [e, nextB_parts (four_len _) (four_len _) (four_len _), hb, if_neg (by rintro (h | h); exact h rfl; omega), if_neg (by simp), ht, if_neg (fun h => h rfl)]

/-- A frame that is there in part. -/
theorem nextB_part {r : List UInt8} (hr : r.length ≤ 65536) (k : Nat) (hk : k < 12 + r.length) : nextB ((frameB r).take k) = ([], 0, 10) := by
  by_cases h12 : k < 12
  · unfold nextB
    rw [if_pos (by rw [List.length_take]; omega)]
  · have e : (frameB r).take k = fourB r.length ++ (fourB (crc (fourB r.length)) ++ (fourB (crc r) ++ r.take (k - 12))) := by
      have e0 : frameB r = (fourB r.length ++ fourB (crc (fourB r.length)) ++ fourB (crc r)) ++ r := by unfold frameB; simp
      have el : (fourB r.length ++ fourB (crc (fourB r.length)) ++ fourB (crc r)).length = 12 := by simp [four_len]
      rw [e0, List.take_append, List.take_of_length_le (by omega), el]
      simp
    have hb : beN 0 (fourB r.length) = r.length := beN_four (by omega)
    rw [e, nextB_parts (four_len _) (four_len _) (four_len _), hb, if_neg (by rintro (h | h); exact h rfl; omega), if_pos (by rw [List.length_take]; omega)]

/-- A byte that is another one. -/
def flip (l : List UInt8) (i : Nat) (x : UInt8) : List UInt8 := l.set i (l.getD i 0 ^^^ x)
theorem flip_len (l : List UInt8) (i : Nat) (x : UInt8) : (flip l i x).length = l.length := by simp [flip]
theorem flip_left {l m : List UInt8} {i : Nat} (x : UInt8) (h : i < l.length) : flip (l ++ m) i x = flip l i x ++ m := by
  unfold flip
  rw [List.set_append, if_pos h]
  simp [List.getD, List.getElem?_append_left h]
theorem flip_right {l m : List UInt8} {i : Nat} (x : UInt8) (h : l.length ≤ i) : flip (l ++ m) i x = l ++ flip m (i - l.length) x := by
  unfold flip
  rw [List.set_append, if_neg (by omega)]
  simp [List.getD, List.getElem?_append_right h]
theorem xor_self {a x : UInt8} (h : a ^^^ x = a) : x = 0 := by
  have : a ^^^ (a ^^^ x) = a ^^^ a := by rw [h]
  rw [← UInt8.xor_assoc, UInt8.xor_self, UInt8.zero_xor] at this
  exact this
theorem flip_ne {l : List UInt8} {i : Nat} {x : UInt8} (hi : i < l.length) (hx : x ≠ 0) : flip l i x ≠ l := by
  intro h
  have := congrArg (fun m : List UInt8 => m[i]?) h
  simp only [flip] at this
  rw [List.getElem?_set_self hi, List.getElem?_eq_getElem hi] at this
  simp only [List.getD, List.getElem?_eq_getElem hi, Option.getD_some, Option.some.injEq] at this
  exact hx (xor_self this)
theorem flip_crc {l : List UInt8} {i : Nat} {x : UInt8} (hi : i < l.length) (hx : x ≠ 0) : crc (flip l i x) ≠ crc l := by
  intro h
  have e1 : l = l.take i ++ l[i] :: l.drop (i + 1) := by rw [List.getElem_cons_drop, List.take_append_drop]
  have e2 : flip l i x = l.take i ++ (l[i] ^^^ x) :: l.drop (i + 1) := by
    unfold flip
    rw [List.set_eq_take_append_cons_drop, if_pos hi]
    simp [List.getD, List.getElem?_eq_getElem hi]
  rw [e2] at h
  have h' : crc (l.take i ++ (l[i] ^^^ x) :: l.drop (i + 1)) = crc (l.take i ++ l[i] :: l.drop (i + 1)) := h.trans (by rw [← e1])
  exact hx (xor_self (crc_other _ _ _ _ h'))

/-- One byte of a frame that is another one is told. -/
theorem nextB_flip {r : List UInt8} (hr : r.length ≤ 65536) {i : Nat} (hi : i < 12 + r.length) {x : UInt8} (hx : x ≠ 0) (t : List UInt8) : nextB (flip (frameB r) i x ++ t) = ([], 0, 34) := by
  have hb : beN 0 (fourB r.length) = r.length := beN_four (by omega)
  have c4 (n : Nat) : (fourB n).length = 4 := four_len n
  unfold frameB
  by_cases h4 : i < 4
  · have hne : fourB (crc (flip (fourB r.length) i x)) ≠ fourB (crc (fourB r.length)) := fun h => flip_crc (by rw [c4]; exact h4) hx (fourB_inj (crc_lt _) (crc_lt _) h)
    rw [flip_left x (by rw [c4]; exact h4), List.append_assoc, List.append_assoc, List.append_assoc, nextB_parts (by rw [flip_len, c4]) (c4 _) (c4 _), if_pos (.inl hne)]
  rw [flip_right x (by rw [c4]; omega), c4]
  by_cases h8 : i < 8
  · have hne : fourB (crc (fourB r.length)) ≠ flip (fourB (crc (fourB r.length))) (i - 4) x := fun h => flip_ne (by rw [c4]; omega) hx h.symm
    rw [flip_left x (by rw [c4]; omega), List.append_assoc, List.append_assoc, List.append_assoc, nextB_parts (c4 _) (by rw [flip_len, c4]) (c4 _), if_pos (.inl hne)]
  rw [flip_right x (by rw [c4]; omega), c4]
  by_cases h12 : i < 12
  · rw [flip_left x (by rw [c4]; omega), List.append_assoc, List.append_assoc, List.append_assoc, nextB_parts (c4 _) (c4 _) (by rw [flip_len, c4]), hb, if_neg (by rintro (h | h); exact h rfl; omega), if_neg (by simp), if_pos ?_]
    intro h
    have ht : (r ++ t).take r.length = r := by simp
    rw [ht] at h
    exact flip_ne (by rw [c4]; omega) hx h.symm
  rw [flip_right x (by rw [c4]; omega), c4]
  rw [List.append_assoc, List.append_assoc, List.append_assoc, nextB_parts (c4 _) (c4 _) (c4 _), hb, if_neg (by rintro (h | h); exact h rfl; omega), if_neg (by simp [flip_len]), if_pos ?_]
  intro h
  have ht : (flip r (i - 4 - 4 - 4) x ++ t).take r.length = flip r (i - 4 - 4 - 4) x := by
    rw [List.take_append_of_le_length (by rw [flip_len]; omega), List.take_of_length_le (by rw [flip_len]; omega)]
  rw [ht] at h
  exact flip_crc (by omega) hx (fourB_inj (crc_lt _) (crc_lt _) h)

/-- Records as a file has them. -/
def framesB (rs : List (List UInt8)) : List UInt8 := (rs.map frameB).flatten
def framesLen (rs : List (List UInt8)) : Nat := (rs.map fun r => 12 + r.length).sum
theorem framesB_len (rs : List (List UInt8)) : (framesB rs).length = framesLen rs := by
  induction rs with
  | nil => rfl
  | cons r rs ih =>
    have : framesB (r :: rs) = frameB r ++ framesB rs := by simp [framesB]
    rw [this, List.length_append, ih, frame_len]; simp [framesLen]
theorem framesB_cons (r : List UInt8) (rs : List (List UInt8)) : framesB (r :: rs) = frameB r ++ framesB rs := by simp [framesB]
theorem framesB_append (rs ss : List (List UInt8)) : framesB (rs ++ ss) = framesB rs ++ framesB ss := by simp [framesB]
theorem framesLen_cons (r : List UInt8) (rs : List (List UInt8)) : framesLen (r :: rs) = 12 + r.length + framesLen rs := by simp [framesLen]
theorem framesLen_append (rs ss : List (List UInt8)) : framesLen (rs ++ ss) = framesLen rs + framesLen ss := by simp [framesLen]
theorem framesLen_least (rs : List (List UInt8)) : 12 * rs.length ≤ framesLen rs := by
  induction rs with
  | nil => simp [framesLen]
  | cons r rs ih => rw [framesLen_cons]; simp; omega

theorem frame_ne (r t : List UInt8) : frameB r ++ t ≠ [] := by
  intro h
  have := congrArg List.length h
  simp [frame_len] at this

theorem scanB_frame {r : List UInt8} (hr : r.length ≤ 65536) (t : List UInt8) : scanB (frameB r ++ t) = (r :: (scanB t).1, 12 + r.length + (scanB t).2.1, (scanB t).2.2) := by
  have h := nextB_frame hr t
  rw [scanB_ok (frame_ne r t) (by rw [h]), h]
  have : (frameB r ++ t).drop (12 + r.length) = t := by rw [← frame_len]; simp
  simp only [this]

theorem scanB_frames {rs : List (List UInt8)} (hr : ∀ r ∈ rs, r.length ≤ 65536) (t : List UInt8) : scanB (framesB rs ++ t) = (rs ++ (scanB t).1, framesLen rs + (scanB t).2.1, (scanB t).2.2) := by
  induction rs with
  | nil => simp [framesB, framesLen]
  | cons r rs ih =>
    rw [framesB_cons, List.append_assoc, scanB_frame (hr r (by simp)), ih (fun x hx => hr x (by simp [hx])), framesLen_cons]
    simp [Nat.add_assoc]

theorem scanB_all {rs : List (List UInt8)} (hr : ∀ r ∈ rs, r.length ≤ 65536) : scanB (framesB rs) = (rs, framesLen rs, 0) := by
  have := scanB_frames hr []
  rw [scanB_nil] at this
  simpa using this

/-- What a first part of frames holds. -/
theorem scanB_take : ∀ (rs : List (List UInt8)) (hr : ∀ r ∈ rs, r.length ≤ 65536) (k : Nat), k ≤ framesLen rs →
    ∃ j e, j ≤ rs.length ∧ scanB ((framesB rs).take k) = (rs.take j, framesLen (rs.take j), e) ∧ (e = 0 ∨ e = 10) ∧ framesLen (rs.take j) ≤ k ∧ (e = 0 → framesLen (rs.take j) = k) ∧ (e ≠ 0 → framesLen (rs.take j) < k) ∧ (∀ m, framesLen (rs.take m) ≤ k → m ≤ rs.length → m ≤ j)
  | [], hr, k, hk => ⟨0, 0, by simp, by simp [framesB, framesLen, scanB_nil], .inl rfl, by simp [framesLen], by simp [framesLen] at hk ⊢; omega, by simp, by simp⟩
  | r :: rs, hr, k, hk => by
    have hrl := hr r (by simp)
    by_cases h0 : k = 0
    · subst h0
      refine ⟨0, 0, by simp, by simp [scanB_nil, framesLen], .inl rfl, by simp [framesLen], by simp [framesLen], by simp, fun m hm hl => ?_⟩
      cases m with
      | zero => simp
      | succ m => simp [framesLen_cons] at hm
    · by_cases hw : k < 12 + r.length
      · have e : (framesB (r :: rs)).take k = (frameB r).take k := by rw [framesB_cons, List.take_append_of_le_length (by rw [frame_len]; omega)]
        have hne : (frameB r).take k ≠ [] := by
          intro h; have := congrArg List.length h; simp [frame_len] at this; omega
        have hn := nextB_part hrl k hw
        refine ⟨0, 10, by simp, ?_, .inr rfl, by simp [framesLen], by simp, by simp [framesLen]; omega, fun m hm hl => ?_⟩
        · rw [e, scanB_err hne (by rw [hn]; simp), hn]; simp [framesLen]
        · cases m with
          | zero => simp
          | succ m => simp [framesLen_cons] at hm; omega
      · rw [framesLen_cons] at hk
        obtain ⟨j, e, h1, h2, h3, h4, h5, h6, h7⟩ := scanB_take rs (fun x hx => hr x (by simp [hx])) (k - (12 + r.length)) (by omega)
        have e0 : (framesB (r :: rs)).take k = frameB r ++ (framesB rs).take (k - (12 + r.length)) := by
          rw [framesB_cons, List.take_append, frame_len, List.take_of_length_le (by rw [frame_len]; omega)]
        refine ⟨j + 1, e, by simp; omega, ?_, h3, ?_, ?_, ?_, fun m hm hl => ?_⟩
        · rw [e0, scanB_frame hrl, h2]; simp [framesLen_cons]
        · simp [framesLen_cons]; omega
        · intro q; have := h5 q; simp [framesLen_cons]; omega
        · intro q; have := h6 q; simp [framesLen_cons]; omega
        · cases m with
          | zero => omega
          | succ m =>
            simp [framesLen_cons] at hm hl
            have := h7 m (by omega) (by omega)
            omega

/-- One byte of a file that is another one is told. -/
theorem scanB_flip {rs : List (List UInt8)} (hr : ∀ r ∈ rs, r.length ≤ 65536) {i : Nat} (hi : i < framesLen rs) {x : UInt8} (hx : x ≠ 0) : (scanB (flip (framesB rs) i x)).2.2 = 34 := by
  induction rs generalizing i with
  | nil => simp [framesLen] at hi
  | cons r rs ih =>
    have hrl := hr r (by simp)
    rw [framesLen_cons] at hi
    rw [framesB_cons]
    by_cases hw : i < 12 + r.length
    · rw [flip_left x (by rw [frame_len]; exact hw)]
      have hn := nextB_flip hrl hw hx (framesB rs)
      have hne : flip (frameB r) i x ++ framesB rs ≠ [] := by
        intro h; have := congrArg List.length h; simp [flip_len, frame_len] at this
      rw [scanB_err hne (by rw [hn]; simp), hn]
    · rw [flip_right x (by rw [frame_len]; omega), scanB_frame hrl, frame_len]
      exact ih (fun y hy => hr y (by simp [hy])) (by omega)
end Go.Proofs.YtbmejbmkaoekgaaGreatDoor
