/- frames and the iterator that it makes. -/
import Derived.Test.YtbmejbmkaoekgaaGreatDoorRange
import Derived.Test.YtbmejbmkaoekgaaGreatDoorW3
import Derived.Test.YtbmejbmkaoekgaaGreatDoorDisk
import Derived.RangeFuncBound
import Derived.RangeFuncLeaves
import Derived.Shelf.Abstract
import Derived.Shelf.RegionOpen
import Derived.WalkKit
import Derived.OwnWalkIn
import Derived.LoopNIn
import Derived.LoopIn
namespace Go.Proofs.YtbmejbmkaoekgaaGreatDoor
open Go Go.RowKit Go.Shelf
set_option linter.unusedVariables false
set_option linter.unusedSimpArgs false
attribute [local go_sem] Oper.semAt_some

/-- What a round of the range over frames keeps: the captured cell, and all bytes. -/
def KpF (Bx : Nat) (W W' : World) : Prop := Keep (fun b => b ≠ Bx ∧ ∀ c fz, W.heap[b]? ≠ some (.cells c tByte fz)) W W'

theorem KpF.trans {Bx : Nat} {A B C : World} (h : KpF Bx A B) (k : KpF Bx B C) : KpF Bx A C :=
  Keep.trans h k (fun b hb hl => ⟨hb.1, fun c fz hc => hb.2 c fz ((h.block b hl (fun q => q.2 c fz hc)).trans hc)⟩)
theorem KpF.bytes {Bx : Nat} {W W' : World} (h : KpF Bx W W') {v : Value} {bs : List UInt8} (hb : Bytes W tByte v bs) : Bytes W' tByte v bs := hb.keep h (fun k hk c fz => hk.2 c fz)
theorem KpF.box {Bx : Nat} {W W' : World} (h : KpF Bx W W') {t : TypeId} {cs : Array Value} (hb : Cells W Bx t cs) : Cells W' Bx t cs := hb.keep h (fun k => k.1 rfl)
theorem KpF.put (Bx : Nat) (W : World) (l : Nat) (r : Loop) (o' : Obj) (h : W.heap[l]? = some (.loop r)) (hl : l ≠ Bx) : KpF Bx W (W.putObj l o') :=
  (keep_putObj h).mono (fun b e _ => by subst e; exact ⟨hl, fun c fz hc => by rw [h] at hc; cases hc⟩)

/-- What the iterator itself does: it turns the captured cell, which is no block of bytes. -/
def TkF (Bx : Nat) (W W' : World) : Prop := Keep (· = Bx) W W' ∧ ((∀ c fz, W.heap[Bx]? ≠ some (.cells c tByte fz)) → ∀ c fz, W'.heap[Bx]? ≠ some (.cells c tByte fz))

abbrev encF (x : Value × Int) : Array Value := #[x.1, .int .i64 x.2]

theorem slice_from (w : World) (A : Option Addr) (n c m : Nat) (A' : Option Addr) (h : m ≤ n) (hn : n ≤ c) (hif : (if m = c then A else A.map (·.add m)) = A') :
    (Instr.slice tBytes (.slice A n c) (some (.int .i64 (m : Nat))) none none).run Tryz.prog w = .ok (.slice A' (n - m) (c - m)) w := by
  have z5 : (Go.sizeOf 5).run Tryz.prog w = .ok 1 w := by
    obtain ⟨i, hi, _, hs, _⟩ := info_parts iByte
    simp [Go.sizeOf, typeInfo, hi, hs]
  rw [run_slice_l (P := Tryz.prog) w 31 A n c uBytesE .i64 (m : Nat) (by omega) (by omega), eBytes, z5]
  simp only [Result.andThen_ok, sliced]
  have e1 : ((m : Nat) : Int).toNat = m := by omega
  rw [e1, Nat.mul_one, ← hif]
  by_cases hc : c = m
  · rw [if_pos hc, if_pos hc.symm]
  · rw [if_neg hc, if_neg (fun e => hc e.symm)]

/-- How long the slice in the captured cell is. -/
def boxLen (Bx : Nat) (W : World) : Nat := match W.cell? ⟨Bx, 0, none⟩ with
  | some (.slice _ n _) => n
  | _ => 0

theorem frames_iter (n : Nat) (hn : 1 ≤ n) (w : World) (Bx : Nat) (v : Value) (bs : List UInt8)
    (hbx : Cells w Bx tBytes #[v]) (hb : Bytes w tByte v bs) :
    IterGives Fence.wide n Tryz.prog 59 #[.pointer (some ⟨Bx, 0, none⟩)] encF (TkF Bx) (KpF Bx)
      (fun (rest : List UInt8) (x : Value × Int) W => rest ≠ [] ∧ Bytes W tByte x.1 (nextB rest).1 ∧ x.2 = (nextB rest).2.2)
      (fun _ x => x.2 = 0) (fun rest _ => rest.drop (nextB rest).2.1) (fun rest => rest = []) bs w := by
  intro l J Jx W hW hJ hJx hY h0
  refine callsIn_of_wp Tryz.func59 rfl trivial ?_ rfl
  simp only [Tryz.ntmps59, List.size_toArray, List.length_cons, List.length_nil, Nat.reduceAdd, Nat.reduceSub, Array.replicate_succ, Array.replicate_zero, List.push_toArray, List.append_toArray, List.nil_append, List.cons_append]
  gi_wp2
  gi_loopw [3] (fun p wr => ∃ (rest : List UInt8) (v' : Value), Cells wr Bx tBytes #[v'] ∧ Bytes wr tByte v' rest ∧ J rest wr) (fun p wr => boxLen Bx wr)
  case atStart =>
    exact ⟨bs, v, hbx.keep hW (fun f => f), hb.keep hW (NoBytes.no _ _), h0⟩
  case round =>
    obtain ⟨rest, v', hc, hbr, hJr⟩ := hrel
    obtain ⟨A, c, rfl⟩ := hbr.form
    have c0 := hc.cell 0
    have f0 := hc.free 0
    simp only [List.getElem?_toArray, List.getElem?_cons_succ, List.getElem?_cons_zero] at c0
    have Hc := Lib.hid hc
    have Hbr := Lib.hid hbr
    clear hc hbr
    by_cases hz : rest = []
    · subst hz
      have h1 : decide ((0 : Int) < (([] : List UInt8).length : Int)) = false := by simp
      gi_wp2
      go_end0
      exact ⟨⟨_, rfl⟩, .inl ⟨[], rfl, hJr⟩⟩
    · have hpos : 0 < rest.length := List.length_pos_iff.2 hz
      have h1 : decide ((0 : Int) < (rest.length : Int)) = true := by simp; omega
      have h2 : decide (0 < rest.length) = true := by simp; omega
      gi_wp2
      refine ⟨trivial, ?_⟩
      refine (callsIn_wide.2 (next_go _ rest _ Hbr.out)).mono ?_
      rintro e W1 ⟨v1, rfl, hv1, hk1⟩
      have hJ1 := hJ rest wr W1 hJr ⟨hk1.mono (fun _ f _ => f.elim), fun h c fz e => h c fz ((hk1.block Bx Hc.out.lt (fun f => f)).symm.trans e)⟩
      have hc1 : Cells W1 Bx tBytes #[.slice A rest.length c] := Hc.out.keep hk1 (fun f => f)
      have hb1 := Hbr.out.keep hk1 (NoBytes.no _ _)
      obtain ⟨fn, tmps, assign, body, hy, hR⟩ := hY rest (v1, (nextB rest).2.2) W1 hJ1 ⟨hz, hv1, rfl⟩
      have Hc1 := Lib.hid hc1
      have Hb1 := Lib.hid hb1
      clear hk1 hJ1 hc1 hb1 hv1
      obtain ⟨ec, hec⟩ : ∃ ec, (nextB rest).2.2 = ec := ⟨_, rfl⟩
      obtain ⟨m, hm⟩ : ∃ m, (nextB rest).2.1 = m := ⟨_, rfl⟩
      rw [hec] at hy hR ⊢
      rw [hm] at hR ⊢
      have Hec := Lib.hid hec
      have Hm := Lib.hid hm
      clear hec hm hY
      dsimp only [encF] at hy
      gi_wp2
      refine hR.mono ?_
      rintro e W3 (⟨rfl, hec0, hJ3, hk3⟩ | ⟨rfl, hJx3⟩)
      · subst hec0
        have hN : m ≤ rest.length ∧ 12 ≤ m := by
          have h1 := Hec.out
          have h2 := Hm.out
          unfold nextB at h1 h2
          split at h1
          · cases h1
          · split at h1
            · cases h1
            · split at h1
              · cases h1
              · split at h1
                · cases h1
                · rename_i q1 q2 q3 q4
                  rw [if_neg q1, if_neg q2, if_neg q3, if_neg q4] at h2
                  simp only at h2
                  omega
        have hc3 := hk3.box Hc1.out
        have hb3 := hk3.bytes Hb1.out
        have c3 := hc3.cell 0
        have f3 := hc3.free 0
        simp only [List.getElem?_toArray, List.getElem?_cons_succ, List.getElem?_cons_zero] at c3
        obtain ⟨A', hA'⟩ : ∃ A', (if m = c then A else A.map (·.add m)) = A' := ⟨_, rfl⟩
        have hcl : rest.length ≤ c := by obtain ⟨_, _, e, hle, _⟩ := hb3; injection e with _ _ e; omega
        have hsl : ∀ w, (Instr.slice tBytes (.slice A rest.length c) (some (.int .i64 (m : Nat))) none none).run Tryz.prog w = .ok (.slice A' (rest.length - m) (c - m)) w := fun w => slice_from w A rest.length c m A' hN.1 hcl hA'
        have hp3 := hb3.part (i := m) (j := rest.length) hN.1 (Nat.le_refl _) A' (fun h => by rw [← hA', if_neg (by omega)])
        have Hc3 := Lib.hid hc3
        have Hp3 := Lib.hid hp3
        have HA := Lib.hid hA'
        have hN1 : (m : Int) ≤ (rest.length : Int) := by omega
        have hJ4 := hJ _ _ (W3.setCell ⟨Bx, 0, none⟩ (.slice A' (rest.length - m) (c - m))) hJ3 ⟨(Keep.refl (· = Bx) W3).setCell ⟨Bx, 0, none⟩ _ (fun _ => rfl), fun _ => (hc3.set 0 _).noBytes (by decide)⟩
        clear hc3 hp3 hb3 hA' hR hy hJ3
        gi_wp2
        have kk : Keep (· = Bx) W3 (W3.setCell ⟨Bx, 0, none⟩ (.slice A' (rest.length - m) (c - m))) := (Keep.refl (· = Bx) W3).setCell ⟨Bx, 0, none⟩ _ (fun _ => rfl)
        have hcE : Cells (W3.setCell ⟨Bx, 0, none⟩ (.slice A' (rest.length - m) (c - m))) Bx tBytes #[.slice A' (rest.length - m) (c - m)] := Hc3.out.set 0 _
        have et : (rest.drop m).take (rest.length - m) = rest.drop m := List.take_of_length_le (by rw [List.length_drop]; omega)
        have hbE := Hp3.out.keep kk (fun k hk => by subst hk; exact Hc3.out.noBytes (by decide))
        rw [et] at hbE
        refine ⟨⟨rest.drop m, _, hcE, hbE, hJ4⟩, ?_⟩
        have l1 := hcE.cell 0
        have l2 := Hc.out.cell 0
        simp only [List.getElem?_toArray, List.getElem?_cons_succ, List.getElem?_cons_zero] at l1 l2
        unfold boxLen
        rw [l1, l2]
        show rest.length - m < rest.length
        omega
      · gi_wp2
        refine bodyPost_ret (results_none rfl _ _ _) rfl ?_
        exact ⟨⟨_, rfl⟩, .inr hJx3⟩
end Go.Proofs.YtbmejbmkaoekgaaGreatDoor
