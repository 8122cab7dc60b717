/- Frames: slices.Concat, Frame, Next. -/
import Derived.Test.YtbmejbmkaoekgaaGreatDoorW1
namespace Go.Proofs.YtbmejbmkaoekgaaGreatDoor
open Go Go.RowKit
set_option linter.unusedVariables false
set_option linter.unusedSimpArgs false

/-- A slice of slices of bytes. -/
def BList (w : World) (v : Value) (l : List (List UInt8)) : Prop :=
  ∃ (A : Option Addr) (c : Nat) (us : List Value), v = .slice A l.length c ∧ l.length ≤ c ∧ c ≤ maxLen ∧ us.length = l.length ∧
    (0 < l.length → ∃ g off cs t fz, A = some ⟨g, off, none⟩ ∧ w.heap[g]? = some (.cells cs t fz) ∧ ∀ i (u : Value), us[i]? = some u → cs[off + i]? = some u) ∧
    ∀ (i : Nat) (u : Value) (bs : List UInt8), us[i]? = some u → l[i]? = some bs → ∃ t8, Bytes w t8 u bs

theorem BList.at_ {w : World} {v : Value} {l : List (List UInt8)} (h : BList w v l) {i : Nat} (hi : i < l.length) :
    ∃ a c u, v = .slice (some a) l.length c ∧ a.block < w.heap.size ∧ w.cell? (a.add i) = some u ∧ ∃ t8, Bytes w t8 u l[i] := by
  obtain ⟨A, c, us, rfl, _, _, hl, hx, hb⟩ := h
  obtain ⟨g, off, cs, t, fz, rfl, hg, hc⟩ := hx (by omega)
  have hu : us[i]? = some (us[i]'(by omega)) := List.getElem?_eq_getElem (by omega)
  refine ⟨_, c, _, rfl, lt_of_heap hg, ?_, hb i _ _ hu (List.getElem?_eq_getElem hi)⟩
  have e : (⟨g, off, none⟩ : Addr).add i = ⟨g, off + i, none⟩ := by unfold Addr.add; split <;> simp_all
  rw [e]
  simp only [World.cell?, hg, Option.isSome_none, Bool.false_eq_true, if_false]
  exact hc i _ hu

theorem sum_take (l : List (List UInt8)) (k : Nat) (hk : k < l.length) : ((l.take (k + 1)).flatten).length = ((l.take k).flatten).length + l[k].length := by
  rw [List.take_succ_eq_append_getElem hk, List.flatten_append, List.length_append]
  simp
theorem flat_take (l : List (List UInt8)) (k : Nat) (hk : k < l.length) : (l.take (k + 1)).flatten = (l.take k).flatten ++ l[k] := by
  rw [List.take_succ_eq_append_getElem hk, List.flatten_append]
  simp
theorem sum_take_le (l : List (List UInt8)) (k : Nat) : ((l.take k).flatten).length ≤ l.flatten.length := by
  conv => rhs; rw [← List.take_append_drop k l]
  rw [List.flatten_append, List.length_append]; omega

theorem add_block (a : Addr) (n : Nat) : (a.add n).block = a.block := by unfold Addr.add; split <;> rfl

theorem grow_any (n : Nat) (w : World) (h1 : n ≤ 140737488355328) :
    Calls Tryz.prog 64 #[.slice none 0 0, .int .i64 n] w fun e w' => ∃ v, e = .returned v ∧ w'.ownsRow w.heap.size tByte 1 v 0 [] ∧ w.grownBy w' none := by
  rcases Nat.eq_zero_or_pos n with h0 | h0
  · subst h0
    refine (grow_zero w).mono ?_
    rintro e w' ⟨rfl, rfl⟩
    exact ⟨_, rfl, World.ownsRow_nil _ _ _ _, ⟨rfl, rfl, rfl, Nat.le_refl _, fun _ _ _ => rfl⟩⟩
  · exact grow_some n w h0 h1

set_option maxHeartbeats 400000 in
theorem concat_any (v : Value) (l : List (List UInt8)) (w : World) (hb : BList w v l) (hl : l.flatten.length ≤ 140737488355328) :
    Calls Tryz.prog 47 #[v] w fun e w' => Fresh w w' e l.flatten := by
  have hcells : Hid (∀ i (hi : i < l.length), ∃ a c u, v = .slice (some a) l.length c ∧ a.block < w.heap.size ∧ w.cell? (a.add i) = some u ∧ ∃ t8, Bytes w t8 u l[i]) := Lib.hid (fun i hi => hb.at_ hi)
  obtain ⟨A, c, us, rfl, hc, hm, _⟩ := hb
  unfold maxLen at hm
  go_enter Tryz.func47, Tryz.ntmps47
  go_wp2
  go_loop [3, 11] (fun n i => ∃ k : Nat, k ≤ l.length ∧ i = .int .i64 k ∧ n = .int .i64 (((l.take k).flatten).length : Nat)) (fun _ i => l.length - (intOf i).toNat)
  case atStart => exact ⟨0, by omega, rfl, rfl⟩
  case round =>
    obtain ⟨k, hk, rfl, rfl⟩ := hrel
    have hle := sum_take_le l k
    by_cases hlt : k < l.length
    · obtain ⟨a, c', u, hs, _, hcell, t8, hu⟩ := hcells.out k hlt
      injection hs with hs _ hcc; clear hcc
      subst hs
      obtain ⟨B, d, rfl, _, hd, _⟩ := hu
      have HS := Lib.hid (sum_take l k hlt)
      have hle1 := sum_take_le l (k + 1)
      rw [HS.out] at hle1
      generalize (List.take k l).flatten.length = m at *
      go_wp2
      go_round
      case rel => exact ⟨k + 1, by omega, by go_num, by rw [HS.out]; go_num⟩
      case measure => simp [intOf]; omega
    · have hkl : k = l.length := by omega
      subst hkl
      rw [List.take_length] at hle ⊢
      have HN : Hid (∀ k, k < l.length → (l.take k).flatten.length + l[k]!.length ≤ l.flatten.length) := Lib.hid (fun k hk => by
        have := sum_take_le l (k + 1)
        rw [sum_take l k hk] at this
        simpa [hk] using this)
      clear hle hlt hk
      generalize hN : l.flatten.length = N at *
      clear hN
      go_wp2_with (go_at_call 64; refine (grow_any _ _ (by omega)).mono ?_; rintro e w1 ⟨v1, rfl, hown, hgrow⟩)
      go_loopw [6, 27] (fun x i wr => ∃ k : Nat, k ≤ l.length ∧ i = .int .i64 k ∧ wr.ownsRow w.heap.size tByte 1 x (l.take k).flatten.length ((l.take k).flatten.map bv) ∧ Keep No w wr) (fun _ i _ => l.length - (intOf i).toNat)
      case atStart => exact ⟨0, by omega, rfl, hown, (Keep.of_grown hgrow).mono (fun b hb _ => by cases hb)⟩
      case round =>
        obtain ⟨k, hk, rfl, hrow, hkeep⟩ := hrel
        by_cases hlt : k < l.length
        · obtain ⟨a, c', u, hs, hal, hcell, t8, hu⟩ := hcells.out k hlt
          injection hs with hs _ hcc; clear hcc
          subst hs
          have hcell1 : wr.cell? (a.add k) = some u := by rw [hkeep.cell (by rw [add_block]; exact hal) (fun f => f)]; exact hcell
          have hu1 := Lib.hid (hu.keep hkeep (NoBytes.no _ _)).shows
          have HT := Lib.hid (flat_take l k hlt)
          have hn := HN.out k hlt
          have hlk : l[k]! = l[k] := by simp [hlt]
          rw [hlk] at hn
          clear hlk hcell hu
          generalize (l.take k).flatten = pre at hrow hn HT
          generalize l[k] = x at hu1 hn HT
          have hrow' := Lib.hid hrow
          clear hrow
          have hkeep' := Lib.hid hkeep
          clear hkeep
          go_wp2_with (at_builtin; refine wpList_append_shows _ rfl _ _ 31 rfl w.heap.size tByte (.int .u8 0) 1 uBytes iByte rfl _ _ _ rfl hrow'.out u x.length (x.map bv) rfl hu1.out (one_bv _) ?h2 ?h3 ?h4 ?_)
          case h2 => simp [maxLen]; omega
          case h3 => omega
          case h4 => exact hkeep'.out.size
          intro v' w2 hown2 hgrow2 _ _
          have hk2 : Keep No w w2 := hkeep'.out.trans (Keep.of_grown hgrow2) (fun b hb hlt => by have := (hrow'.out.lt b hb.symm).1; omega)
          go_wp2
          go_roundw
          case rel => exact ⟨k + 1, by omega, by go_num, by rw [HT.out, List.length_append, List.map_append]; exact hown2, hk2⟩
          case measure => simp [intOf]; omega
        · have hkl : k = l.length := by omega
          subst hkl
          rw [List.take_length] at hrow
          go_wp2
          go_ret
          exact ⟨_, rfl, hrow, hkeep⟩

theorem BList.lit {w : World} (us : List Value) (l : List (List UInt8)) (n : Nat) (hn : n = l.length) (hl : us.length = l.length) (hm : l.length ≤ maxLen)
    (h : ∀ (i : Nat) (u : Value) (bs : List UInt8), us[i]? = some u → l[i]? = some bs → ∃ t8, Bytes w t8 u bs) :
    BList (w.alloc (.cells us.toArray tBytes)) (.slice (some ⟨w.heap.size, 0, none⟩) n n) l := by
  subst hn
  exact ⟨_, _, us, rfl, Nat.le_refl _, hm, hl, fun _ => ⟨_, _, _, _, _, rfl, heap_alloc_new w _, fun i u hu => by simpa using hu⟩, fun i u bs hu hb => (h i u bs hu hb).imp fun _ q => q.keep ((Keep.refl No w).alloc _) (NoBytes.no _ _)⟩

/-- The frame of a record. -/
def frameB (bs : List UInt8) : List UInt8 := fourB bs.length ++ (fourB (crc (fourB bs.length)) ++ (fourB (crc bs) ++ bs))
theorem four_len (n : Nat) : (fourB n).length = 4 := rfl
theorem frame_len (bs : List UInt8) : (frameB bs).length = 12 + bs.length := by simp only [frameB, List.length_append, four_len]; omega

theorem Fresh.of {w w1 w' : World} {e : Ending} {bs : List UInt8} (h : Fresh w1 w' e bs) (k : Keep No w w1) : Fresh w w' e bs := by
  obtain ⟨v, he, hown, hk⟩ := h
  refine ⟨v, he, ⟨hown.1, ?_⟩, k.trans hk (fun _ f => f.elim)⟩
  rcases hown.2 with h | ⟨g, cap, cur, hv, hb, r⟩
  · exact .inl h
  · exact .inr ⟨g, cap, cur, hv, Nat.le_trans k.size hb, r⟩

theorem _root_.Go.Proofs.YtbmejbmkaoekgaaGreatDoor.Bytes.form {w : World} {t8 : TypeId} {v : Value} {bs : List UInt8} (h : Bytes w t8 v bs) : ∃ A c, v = .slice A bs.length c := by
  obtain ⟨A, c, h, _⟩ := h; exact ⟨A, c, h⟩

theorem frame_gen {t8 : TypeId} (v : Value) (bs : List UInt8) (w : World) (hb : Bytes w t8 v bs) (hl : bs.length < 4294967296) :
    Calls Tryz.prog 29 #[v] w fun e w' => Fresh w w' e (frameB bs) := by
  have hb' := Lib.hid hb
  obtain ⟨A, c, rfl, hc, hm, _⟩ := hb
  unfold maxLen at hm
  go_enter Tryz.func29, Tryz.ntmps29
  go_wp2_with fail
  refine (four_any bs.length _ hl).mono ?_
  rintro e w1 ⟨v1, rfl, hv1, hk1⟩
  obtain ⟨A1, d1, hA⟩ := hv1.form
  subst hA
  have hv1' := Lib.hid hv1; clear hv1
  have hk1' := Lib.hid hk1; clear hk1
  go_wp2_with fail
  refine (sum_any _ _ _ hv1'.out).mono ?_
  rintro e w' ⟨rfl, rfl⟩
  have hs1 := crc_lt (fourB bs.length)
  have H1 : ∃ c1, crc (fourB bs.length) = c1 := ⟨_, rfl⟩
  obtain ⟨c1, hc1⟩ := H1
  rw [hc1] at hs1 ⊢
  have Hc1 := Lib.hid hc1; clear hc1
  go_wp2_with fail
  refine (four_any c1 _ hs1).mono ?_
  rintro e w2 ⟨v2, rfl, hv2, hk2⟩
  obtain ⟨A2, d2, hA⟩ := hv2.form
  subst hA
  have hv2' := Lib.hid hv2; clear hv2
  have hk2' := Lib.hid (hk1'.out.trans hk2 (fun _ f => f.elim))
  have hv1' := Lib.hid (hv1'.out.keep hk2 (NoBytes.no _ _))
  clear hk2
  have hb2 := Lib.hid (hb'.out.keep hk2'.out (NoBytes.no _ _))
  go_wp2_with fail
  refine (sum_gen _ _ _ hb2.out).mono ?_
  rintro e w' ⟨rfl, rfl⟩
  have hs2 := crc_lt bs
  obtain ⟨c2, hc2⟩ : ∃ c2, crc bs = c2 := ⟨_, rfl⟩
  rw [hc2] at hs2 ⊢
  have Hc2 := Lib.hid hc2; clear hc2
  go_wp2_with fail
  refine (four_any c2 _ hs2).mono ?_
  rintro e w3 ⟨v3, rfl, hv3, hk3⟩
  obtain ⟨A3, d3, hA⟩ := hv3.form
  subst hA
  have hv3' := Lib.hid hv3; clear hv3
  have hk3' := Lib.hid (hk2'.out.trans hk3 (fun _ f => f.elim))
  have hv13 := Lib.hid (hv1'.out.keep hk3 (NoBytes.no _ _))
  have hv23 := Lib.hid (hv2'.out.keep hk3 (NoBytes.no _ _))
  have hb3 := Lib.hid (hb2.out.keep hk3 (NoBytes.no _ _))
  clear hk3
  go_wp2_with fail
  have hl4 := BList.lit (w := w3) [.slice A1 4 d1, .slice A2 4 d2, .slice A3 4 d3, .slice A bs.length c] [fourB bs.length, fourB c1, fourB c2, bs] 4 rfl rfl (by simp [maxLen]) (by
    intro i u x hu hx
    match i with
    | 0 => cases hu; cases hx; exact ⟨_, hv13.out⟩
    | 1 => cases hu; cases hx; exact ⟨_, hv23.out⟩
    | 2 => cases hu; cases hx; exact ⟨_, hv3'.out⟩
    | 3 => cases hu; cases hx; exact ⟨_, hb3.out⟩
    | n + 4 => simp at hu)
  refine (concat_any _ _ _ hl4 (by simp [four_len]; omega)).mono ?_
  intro e w4 hf
  obtain ⟨v4, rfl, hown, hk⟩ := hf.of (hk3'.out.alloc _)
  clear hl4 hf
  have hown' := Lib.hid hown; clear hown
  have hk' := Lib.hid hk; clear hk
  go_wp2
  go_ret
  have e1 : frameB bs = [fourB bs.length, fourB c1, fourB c2, bs].flatten := by
    simp only [frameB, Hc1.out, Hc2.out]; simp
  exact ⟨_, rfl, by rw [e1]; exact hown'.out, hk'.out⟩

theorem add_at (g off k : Nat) : (⟨g, off, none⟩ : Addr).add k = ⟨g, off + k, none⟩ := by unfold Addr.add; split <;> simp_all

/-- A part of a slice of bytes. -/
theorem Bytes.part {w : World} {A : Option Addr} {n c : Nat} {bs : List UInt8} (h : Bytes w tByte (.slice A n c) bs) {i j : Nat} (hij : i ≤ j) (hj : j ≤ bs.length) (A' : Option Addr) (hA : 0 < j - i → A' = A.map (·.add i)) :
    Bytes w tByte (.slice A' (j - i) (c - i)) ((bs.drop i).take (j - i)) := by
  obtain ⟨A0, c0, he, hc, hm, hx⟩ := h
  injection he with e1 e2 e3
  subst e1; subst e2; subst e3
  have hl : ((bs.drop i).take (j - i)).length = j - i := by rw [List.length_take, List.length_drop]; omega
  refine ⟨A', c - i, by rw [hl], by rw [hl]; omega, by simp only [maxLen] at hm ⊢; omega, fun h0 => ?_⟩
  rw [hl] at h0
  obtain ⟨g, off, cs, fz, rfl, hg, hi⟩ := hx (by omega)
  refine ⟨g, off + i, cs, fz, ?_, hg, fun k b hk => ?_⟩
  · rw [hA h0]
    unfold Addr.add
    by_cases hz : i = 0
    · subst hz; rfl
    · simp [hz]
  · rw [List.getElem?_take] at hk
    split at hk
    · rw [List.getElem?_drop] at hk
      have := hi (i + k) b hk
      rw [← this]; congr 1; omega
    · cases hk


/-- Bytes that came in: they lie in a block below N that is none of X. -/
def Src (w : World) (N : Nat) (X : Nat → Prop) (v : Value) (bs : List UInt8) : Prop := ∃ t8, Bytes w t8 v bs ∧ (0 < bs.length → ∀ a n c, v = .slice (some a) n c → a.block < N ∧ ¬ X a.block)

section
variable {w w' : World} {N : Nat} {X S : Nat → Prop} {v : Value} {bs : List UInt8}
theorem Src.keep (h : Src w N X v bs) (k : Keep S w w') (hS : ∀ b, S b → X b ∨ N ≤ b) : Src w' N X v bs := by
  obtain ⟨t8, ⟨A, c, hv, hc, hm, hx⟩, h2⟩ := h
  refine ⟨t8, ⟨A, c, hv, hc, hm, fun h0 => ?_⟩, h2⟩
  obtain ⟨g, off, cs, fz, hA, hg, hi⟩ := hx h0
  have hb := h2 h0 ⟨g, off, none⟩ _ _ (by rw [hv, hA])
  refine ⟨g, off, cs, fz, hA, (k.block g (lt_of_heap hg) (fun s => ?_)).trans hg, hi⟩
  rcases hS g s with q | q
  · exact hb.2 q
  · have := hb.1; simp only at this; omega
theorem Src.still (h : Src w N X v bs) (k : Keep No w w') : Src w' N X v bs := h.keep k (fun _ f => f.elim)
theorem Src.form (h : Src w N X v bs) : ∃ A c, v = .slice A bs.length c := by obtain ⟨_, h, _⟩ := h; exact h.form
theorem Src.any (h : Src w N X v bs) : ∃ t8, Bytes w t8 v bs := h.imp fun _ q => q.1
theorem Src.of {t8 : TypeId} (h : Bytes w t8 v bs) (hX : ∀ b, X b → ∀ cs fz, w.heap[b]? ≠ some (.cells cs t8 fz)) : Src w w.heap.size X v bs := by
  refine ⟨t8, h, fun h0 a n c hv => ?_⟩
  obtain ⟨A, c', hv', _, _, hx⟩ := h
  obtain ⟨g, off, cs, fz, hA, hg, _⟩ := hx h0
  rw [hv', hA] at hv
  injection hv with hv
  injection hv with hv
  subst hv
  exact ⟨lt_of_heap hg, fun q => hX _ q _ _ hg⟩
theorem Src.old {t8 : TypeId} (h : Bytes w t8 v bs) {M : Nat} (hb : 0 < bs.length → ∀ a n c, v = .slice (some a) n c → a.block < M) (hX : ∀ b, X b → M ≤ b) : Src w w.heap.size X v bs := by
  refine ⟨t8, h, fun h0 a n c hv => ?_⟩
  have h1 := hb h0 a n c hv
  obtain ⟨A, c', hv', _, _, hx⟩ := h
  obtain ⟨g, off, cs, fz, hA, hg, _⟩ := hx h0
  rw [hv', hA] at hv
  injection hv with hv
  injection hv with hv
  subst hv
  exact ⟨lt_of_heap hg, fun q => by have h2 : M ≤ g := hX _ q; have h3 : g < M := h1; omega⟩
end
theorem frame_src (v : Value) (bs : List UInt8) (w : World) (hb : ∃ t8, Bytes w t8 v bs) (hl : bs.length < 4294967296) : Calls Tryz.prog 29 #[v] w fun e w' => Fresh w w' e (frameB bs) := by
  obtain ⟨t8, h⟩ := hb; exact frame_gen v bs w h hl
theorem clone_src (v : Value) (bs : List UInt8) (w : World) (hb : ∃ t8, Bytes w t8 v bs) (hl : bs.length ≤ 140737488355328) : Calls Tryz.prog 30 #[v] w fun e w' => Fresh w w' e bs := by
  obtain ⟨t8, h⟩ := hb; exact clone_gen v bs w h hl
theorem frame_any (v : Value) (bs : List UInt8) (w : World) (hb : Bytes w tByte v bs) (hl : bs.length < 4294967296) :
    Calls Tryz.prog 29 #[v] w fun e w' => Fresh w w' e (frameB bs) := frame_gen v bs w hb hl
end Go.Proofs.YtbmejbmkaoekgaaGreatDoor
