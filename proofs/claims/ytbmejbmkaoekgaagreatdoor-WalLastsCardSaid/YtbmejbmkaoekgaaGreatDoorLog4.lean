/- Append to a log. -/
import Derived.Test.YtbmejbmkaoekgaaGreatDoorLogL
import Derived.Test.YtbmejbmkaoekgaaGreatDoorDisk4
import Derived.Deep.AppendLies
import Derived.Deep.RegionHeld3
import Derived.Deep.RegionLaw
import Derived.Deep.DeepCutAuto
namespace Go.Proofs.YtbmejbmkaoekgaaGreatDoor
open Go Go.RowKit
set_option linter.unusedVariables false
set_option linter.unusedSimpArgs false

theorem uParts : Tryz.prog.underlying tParts = some (.slice tPart) := by kernel_rfl
theorem uRecs : Tryz.prog.underlying tRecs = some (.slice tBytes) := by kernel_rfl
theorem iPart : (Tryz.prog.info? tPart).map (fun i => (i.zero, i.size, i.bytes)) = some (some (.agg #[.int .i64 0, .int .i64 0, .int .i64 0]), 3, 24) := by kernel_rfl

def LogS.addNew (L : LogS) (st : DiskS) (b : List UInt8) : LogS × DiskS × Int :=
  if (st.append (fileName L.name L.fin) (frameB b)).2 = 0 then
    ({ L with parts := L.parts ++ [⟨L.fin, 1, 12 + b.length⟩], recs := L.recs ++ [b], dirty := true }, (st.append (fileName L.name L.fin) (frameB b)).1, 0)
  else (L, (st.append (fileName L.name L.fin) (frameB b)).1, (st.append (fileName L.name L.fin) (frameB b)).2)

theorem append_nil (w : World) (v : Value) : Calls Tryz.prog 9 #[.pointer none, v] w fun e w' => e = .returned (.int .i64 2) ∧ w' = w := by
  go_enter Tryz.func9, Tryz.ntmps9
  go_wp2_with fail
  go_ret
  exact ⟨rfl, rfl⟩

set_option maxRecDepth 100000 in
set_option maxHeartbeats 2000000 in
theorem lappend_new (w : World) (lb d : Nat) (st : DiskS) (L : LogS) (F G : List Nat) (v : Value) (b : List UInt8) (hd : DiskAt w d st F) (h : LogAt w lb d L G) (ok : L.Ok) (htab : Tab w) (hst : st.steps < 4611686018427387904) (hb : Src w w.heap.size (fun k => k ∈ F ∨ k ∈ G) v b) (hbl : b.length ≤ 65536)
    (h0 : L.parts = []) :
    Calls Tryz.prog 9 #[ptr lb, v] w (LogPost w lb d F G (L.addNew st b).1 (L.addNew st b).2.1 (.int .i64 (L.addNew st b).2.2)) := by
  have hl := Lib.hid (fun w h => last_none w lb d L G h h0)
  have hen := Lib.hid (fun w h => end_go w lb d L G h (by have := ok.fin; omega))
  have Hd := Lib.hid hd
  have Hat := Lib.hid h
  obtain ⟨A, c, rfl⟩ := hb.form
  have Hb := Lib.hid hb
  have hb1 : decide ((65536 : Int) < (b.length : Int)) = false := by simp; omega
  have hb2 : decide (65536 < b.length) = false := by simp; omega
  have hfin := ok.fin
  have Htab := Lib.hid htab
  have Hok := Lib.hid ok
  clear hd h hb ok htab h0
  generalize hfn : L.fin = fn at *
  have Hfn := Lib.hid hfn; clear hfn
  go_enter Tryz.func9, Tryz.ntmps9
  go_wp2_with fail
  refine (hen.out _ Hat.out).mono ?_
  rintro e w1 ⟨rfl, q, hq⟩
  have Hk := Lib.hid (show Keep No w w1 by rw [hq]; exact (Keep.refl No w).drewN q)
  clear hq
  go_wp2_with fail
  have hcn := Cells.new w1 tPart #[.int .i64 (fn : Nat), .int .i64 0, .int .i64 0]
  have hkn : Keep No w (w1.alloc (.cells #[.int .i64 (fn : Nat), .int .i64 0, .int .i64 0] tPart)) := Hk.out.alloc _
  have hbn : w.heap.size ≤ w1.heap.size := Hk.out.size
  change Calls _ _ _ (w1.alloc (.cells #[.int .i64 (fn : Nat), .int .i64 0, .int .i64 0] tPart)) _
  generalize hW2 : w1.alloc (.cells #[.int .i64 (fn : Nat), .int .i64 0, .int .i64 0] tPart) = w2 at *
  generalize hbN : w1.heap.size = bn at *
  clear hW2 hbN Hk
  have Hk := Lib.hid hkn; clear hkn
  refine (hl.out _ (Hat.out.keep Hk.out (fun _ _ f => f) (NoBytes.no _ _))).mono ?_
  rintro e w3 ⟨rfl, hw3⟩
  subst hw3
  go_wp2_with fail
  go_quiet (fail)
  go_wp2_with fail
  obtain ⟨W, hW⟩ : ∃ W, w3.drewN nq = W := ⟨_, rfl⟩
  rw [hW]
  have hKW : Keep No w W := by rw [← hW]; exact Hk.out.drewN nq
  have hcW : Cells W bn tPart #[.int .i64 (fn : Nat), .int .i64 0, .int .i64 0] := by rw [← hW]; exact hcn
  have HK := Lib.hid hKW
  have hbW := hcW.lt
  have Hcn := Lib.hid hcW
  clear hW Hk hcn hKW
  obtain ⟨pv, rv, vs, hR, hG⟩ := Hat.out
  have hRW := Lib.hid (hR.keep HK.out (fun f => f) (fun _ _ f => f) (fun _ _ f => f) (NoBytes.no _ _))
  have hlb : lb < w.heap.size := hR.1.lt
  have hlbW := Nat.lt_of_lt_of_le hlb HK.out.size
  have hHG := Lib.hid hG
  have hlbF : lb ∉ F := Hat.out.apart Hd.out lb (by rw [hG]; simp)
  have hbnF : bn ∉ F := fun hf => by have := Hd.out.lt hf; omega
  have hbl' : bn ≠ lb := by omega
  clear hR hG
  have c0 := hRW.out.1.cell 0
  have c1 := hRW.out.1.cell 1
  have n0 := hcW.cell 0
  simp only [List.getElem?_toArray, List.getElem?_cons_succ, List.getElem?_cons_zero] at c0 c1 n0
  clear hcW
  have hnm := Hok.out.name.most
  obtain ⟨hf1, hf2, hf3⟩ := file_plain Hok.out.name hfin
  have Hf := Lib.hid (And.intro hf1 (And.intro hf2 hf3))
  clear hf1 hf2 hf3
  go_region_held3 (fun W => W.cell? ⟨lb, 0, none⟩ = some (ptr d) ∧ W.cell? ⟨lb, 1, none⟩ = some (sv L.name) ∧ W.cell? ⟨bn, 0, none⟩ = some (.int .i64 (fn : Nat))) (first | exact ⟨by assumption, by assumption, by assumption⟩ | go_keep)
    (first
      | (go_at_call 21; refine (file_ok L.name fn hfin hnm _ ?_).mono ?_; exact Htab.out.keep (HK.out.drew) (fun _ f => f.elim); rintro e w2 ⟨rfl, hk2⟩
         have k0 : w2.cell? ⟨lb, 0, none⟩ = some (ptr d) := (hk2.undrew.cell (a := ⟨lb, 0, none⟩) hlbW (fun f => f)).trans c0
         have k1 : w2.cell? ⟨lb, 1, none⟩ = some (sv L.name) := (hk2.undrew.cell (a := ⟨lb, 1, none⟩) hlbW (fun f => f)).trans c1
         have kp : w2.cell? ⟨bn, 0, none⟩ = some (.int .i64 (fn : Nat)) := (hk2.undrew.cell (a := ⟨bn, 0, none⟩) hbW (fun f => f)).trans n0
         have Hk2 := Lib.hid hk2.undrew; clear hk2)
      | (go_at_call 29; refine (frame_src _ b _ ?_ ?_).mono ?_; exact (Hb.out.still (HK.out.trans Hk2.out (fun _ f => f.elim))).any; omega; rintro e w4 ⟨v4, rfl, hv4, hk4⟩
         have l0 : w4.cell? ⟨lb, 0, none⟩ = some (ptr d) := (hk4.cell (a := ⟨lb, 0, none⟩) (Nat.lt_of_lt_of_le hlbW Hk2.out.size) (fun f => f)).trans k0
         have l1 : w4.cell? ⟨lb, 1, none⟩ = some (sv L.name) := (hk4.cell (a := ⟨lb, 1, none⟩) (Nat.lt_of_lt_of_le hlbW Hk2.out.size) (fun f => f)).trans k1
         have lp : w4.cell? ⟨bn, 0, none⟩ = some (.int .i64 (fn : Nat)) := (hk4.cell (a := ⟨bn, 0, none⟩) (Nat.lt_of_lt_of_le hbW Hk2.out.size) (fun f => f)).trans kp
         have hfl : (frameB b).length = 12 + b.length := frame_len b
         have Hv4 := Lib.hid (Bytes.own hv4 (by unfold maxLen; omega)); clear hv4
         have Hk4 := Lib.hid (Hk2.out.trans hk4 (fun _ f => f.elim)); clear hk4)
      | (go_at_call 28; refine (dappend_go _ d st F (fileName L.name fn) (frameB b) _ ?_ Hf.out.1 Hf.out.2.1 Hf.out.2.2 hst Hv4.out ?_ ?_).mono ?_; exact Hd.out.keep (HK.out.trans Hk4.out (fun _ f => f.elim)) (fun _ _ f => f) (NoBytes.no _ _); omega
         exact Nat.le_trans Htab.out.size (HK.out.trans Hk4.out (fun _ f => f.elim)).size
         rintro e w5 ⟨rfl, F', hD5, hk5, hF5⟩
         have j0 : w5.cell? ⟨lb, 0, none⟩ = some (ptr d) := (hk5.cell (a := ⟨lb, 0, none⟩) (Nat.lt_of_lt_of_le hlbW Hk4.out.size) hlbF).trans l0
         have j1 : w5.cell? ⟨lb, 1, none⟩ = some (sv L.name) := (hk5.cell (a := ⟨lb, 1, none⟩) (Nat.lt_of_lt_of_le hlbW Hk4.out.size) hlbF).trans l1
         have jp : w5.cell? ⟨bn, 0, none⟩ = some (.int .i64 (fn : Nat)) := (hk5.cell (a := ⟨bn, 0, none⟩) (Nat.lt_of_lt_of_le hbW Hk4.out.size) hbnF).trans lp
         have Hk5 := Lib.hid ((Hk4.out.mono (T := (· ∈ F)) (fun _ f _ => f.elim)).trans hk5 (fun _ h _ => h)); clear hk5
         have HD5 := Lib.hid hD5
         have HF5 := Lib.hid hF5
         clear hD5 hF5))
  rename_i hHeld
  clear hHeld j0 j1 jp l0 l1 lp k0 k1 kp c0 c1 n0
  have hR5 : LogR w5 lb d L pv rv vs := by
    have a := Hat.out.apart Hd.out
    rw [hHG.out] at a
    exact hRW.out.keep Hk5.out hlbF (fun b e => a b (by simp [e])) (fun b e => a b (by simp [e])) (Hd.out.keep HK.out (fun _ _ f => f) (NoBytes.no _ _)).noBytes
  have hc5 : Cells w5 bn tPart #[.int .i64 (fn : Nat), .int .i64 0, .int .i64 0] := Hcn.out.keep Hk5.out hbnF
  have HF' := Lib.hid (show ∀ b ∈ F', b ∈ F ∨ w.heap.size ≤ b from fun b hb => (HF5.out b hb).imp (fun h => h) (fun h => Nat.le_trans (HK.out.trans Hk4.out (fun _ f => f.elim)).size h))
  have HK5 := Lib.hid (show Keep (· ∈ F) w w5 from (HK.out.mono (fun _ f _ => f.elim)).trans Hk5.out (fun _ h _ => h))
  have HL5 := Lib.hid (show LogAt w5 lb d L G from ⟨pv, rv, vs, hR5, hHG.out⟩)
  clear HF5 Hk5 Hk4 Hk2 Hv4 hfl Hcn hRW
  by_cases hec : (st.append (fileName L.name fn) (frameB b)).2 = 0
  · have e1 : L.addNew st b = ({ L with parts := L.parts ++ [⟨fn, 1, 12 + b.length⟩], recs := L.recs ++ [b], dirty := true }, (st.append (fileName L.name fn) (frameB b)).1, 0) := by
      unfold LogS.addNew; rw [Hfn.out, if_pos hec]
    have E1 := Lib.hid e1
    rw [hec]
    clear e1 hec
    have n1 := hc5.cell 1
    have n2 := hc5.cell 2
    have m1 := hc5.free 1
    have m2 := hc5.free 2
    simp only [List.getElem?_toArray, List.getElem?_cons_succ, List.getElem?_cons_zero] at n1 n2
    have hHc5 := Lib.hid hc5
    have hHR5 := Lib.hid hR5
    clear hc5 hR5
    have hw1 : IntKind.i64.wrap (12 + (b.length : Int)) = 12 + (b.length : Int) := by rw [IntKind.wrap_i64]; omega
    go_wp2_with fail
    obtain ⟨X, hX⟩ : ∃ X, (w5.setCell ⟨bn, 1, none⟩ (.int .i64 1)).setCell ⟨bn, 2, none⟩ (.int .i64 (12 + (b.length : Int))) = X := ⟨_, rfl⟩
    rw [hX]
    have kX : Keep (· = bn) w5 X := by rw [← hX]; exact ((Keep.refl (· = bn) w5).setCell ⟨bn, 1, none⟩ _ (fun _ => rfl)).setCell ⟨bn, 2, none⟩ _ (fun _ => rfl)
    have cX : Cells X bn tPart #[.int .i64 (fn : Nat), .int .i64 1, .int .i64 (12 + (b.length : Int))] := by rw [← hX]; exact (hHc5.out.set 1 _).set 2 _
    have HKX := Lib.hid kX
    have HCX := Lib.hid cX
    have hnbX : ∀ b ∈ G, ¬ b = bn := fun b hb e => by subst e; have := Hat.out.lt hb; omega
    have hnbF : NoBytes w5 tByte (· = bn) := fun k hk => by subst hk; exact hHc5.out.noBytes (by decide)
    have hRX := Lib.hid (show LogR X lb d L pv rv vs from hHR5.out.keep kX (hnbX lb (by rw [hHG.out]; simp)) (fun b e => hnbX b (by rw [hHG.out]; simp [e])) (fun b e => hnbX b (by rw [hHG.out]; simp [e])) hnbF)
    clear hX kX cX n1 n2 m1 m2
    go_quiet (fail)
    go_wp2_with fail
    obtain ⟨Y, hY⟩ : ∃ Y, X.drewN nq = Y := ⟨_, rfl⟩
    rw [hY]
    have kY : Keep No X Y := by rw [← hY]; exact (Keep.refl No X).drewN nq
    have HKY := Lib.hid kY
    have hRY : LogR Y lb d L pv rv vs := hRX.out.keep kY (fun f => f) (fun _ _ f => f) (fun _ _ f => f) (NoBytes.no _ _)
    have cY : Cells Y bn tPart #[.int .i64 (fn : Nat), .int .i64 1, .int .i64 (12 + (b.length : Int))] := HCX.out.keep kY (fun f => f)
    have y0 := cY.cell 0
    have y1 := cY.cell 1
    have y2 := cY.cell 2
    have y3 := hRY.1.cell 3
    have y3f := hRY.1.free 3
    simp only [List.getElem?_toArray, List.getElem?_cons_succ, List.getElem?_cons_zero] at y0 y1 y2 y3
    have hpb : ∀ b, pv.ownBlock = some b → ¬ b = bn := fun b e => hnbX b (by rw [hHG.out]; simp [e])
    have hlbY := hRY.1.lt
    have hbnY := cY.lt
    have HRY := Lib.hid hRY
    have HCY := Lib.hid cY
    obtain ⟨a1, a2, a3⟩ := hRY.apart
    have hpl : L.parts.length < 1000000000 := Hok.out.count
    have ng : NG ≤ Y.heap.size := Nat.le_trans Htab.out.size (Nat.le_trans HK5.out.size (Nat.le_trans HKX.out.size HKY.out.size))
    have HbY := Lib.hid (((Hb.out.keep HK5.out (fun b h => .inl (.inl h))).keep HKX.out (fun b e => .inr (by have e' : b = bn := e; omega))).still HKY.out)
    have HDY := Lib.hid (show DiskAt Y d _ F' from (HD5.out.keep HKX.out (fun b hb e => by subst e; exact absurd (HD5.out.kinds b hb _ _ _ hHc5.out) (by decide)) hnbF).keep HKY.out (fun _ _ f => f) (NoBytes.no _ _))
    obtain ⟨i0, hi0, hz0, hz1, hz2⟩ := info_parts iPart
    clear hY kY hRY cY
    have hAdd := Lib.hid (fun gg cap w6 k h1 h2 => HRY.out.addPart (w6 := w6) (pv' := .slice (some ⟨gg, 0, none⟩) (L.parts.length + 1) cap) k ⟨fn, 1, 12 + b.length⟩ h1 h2)
    go_cut [] (fun wx => ∃ gg cap, LogR wx lb d { L with parts := L.parts ++ [⟨fn, 1, 12 + b.length⟩] } (.slice (some ⟨gg, 0, none⟩) (L.parts.length + 1) cap) rv vs ∧ Keep (fun k => k = lb ∨ some k = pv.ownBlock) Y wx ∧ (pv.ownBlock = some gg ∨ gg = Y.heap.size + 1))
    case first =>
      go_region_law
      ((refine step_append_lies _ (by rfl) _ _ _ (by rfl) NG tPart i0 _ 3 24 uParts hi0 hz0 hz1 hz2 rfl (by omega) pv L.parts.length (L.parts.flatMap partV) (by rfl) (row_keep HRY.out.2.1 (by repeat (first | exact Keep.refl No Y | apply Keep.drew | apply Keep.alloc)) (fun _ _ f => f)) (⟨Y.heap.size, 0, none⟩ : Addr) 1 1 [.int .i64 (fn : Nat), .int .i64 1, .int .i64 (12 + (b.length : Int))] (by rfl) (by rfl) (World.news_of_block (cs := #[.int .i64 (fn : Nat), .int .i64 1, .int .i64 (12 + (b.length : Int))]) (t := tPart) (fr := (0, 0)) (heap_alloc_new Y _)) (by simp [Value.oneCell'])
          (by omega) (by unfold maxLen; omega) (by omega) (by simp; omega) (Y.heap.size + 1) (by simp) ?_; intro gg cap w6 hown6 hgrow hat6 hlt6
        have kk : Keep (fun b => some b = pv.ownBlock) Y w6 := Keep.trans (T := fun b => some b = pv.ownBlock) (Keep.mono (S := No) (by repeat (first | exact Keep.refl No Y | apply Keep.drew | apply Keep.alloc)) (fun _ f _ => f.elim)) (Keep.of_grown hgrow) (fun _ h _ => h)
        have z3f : w6.frozen? ⟨lb, 3, none⟩ = false := (kk.frozen (a := ⟨lb, 3, none⟩) hlbY (fun e => a1 lb e.symm rfl)).trans y3f
        have z3 : w6.cell? ⟨lb, 3, none⟩ = some pv := (kk.cell (a := ⟨lb, 3, none⟩) hlbY (fun e => a1 lb e.symm rfl)).trans y3
        have Hown6 := Lib.hid hown6
        have Hkk := Lib.hid kk
        have Hat6 := Lib.hid hat6
        clear hown6 kk hgrow hat6))
      all_goals (go_wp2_with fail; go_meet)
      all_goals (obtain ⟨q1, q2⟩ := hAdd.out _ _ _ Hkk.out Hown6.out (Hat6.out.imp (fun e => e.symm) (fun e b hb => by rw [← Option.some.inj hb]; show _ ≤ gg; omega)); exact ⟨gg, cap, q1, q2, Hat6.out⟩)
    case rest =>
      obtain ⟨gg, cap, hR7, hk7, hat7⟩ := hcut
      have Hk7 := Lib.hid hk7
      have Hat7 := Lib.hid hat7
      have HR7 := Lib.hid hR7
      have hnb7 : NoBytes Y tByte (fun k => k = lb ∨ some k = pv.ownBlock) := by
        rintro k (e | e)
        · subst e; exact HRY.out.1.noBytes (by decide)
        · exact row_noBytes HRY.out.2.1 (by decide) k e
      have Hb7 := Lib.hid (HbY.out.keep hk7 (fun b hb => .inl (.inr (by
          rw [hHG.out]
          rcases hb with e | e
          · simp [e]
          · simp [← e]))))
      have y4 := hR7.1.cell 4
      have y4f := hR7.1.free 4
      simp only [List.getElem?_toArray, List.getElem?_cons_succ, List.getElem?_cons_zero] at y4
      have hlb7 := hR7.1.lt
      have a2' := hR7.apart.2.1
      have hrl : L.recs.length < 1000000000 := by have := Hok.out.fin; unfold LogS.fin at this; omega
      have ng7 : NG ≤ wc.heap.size := Nat.le_trans ng hk7.size
      obtain ⟨j0, hj0, hy0, hy1, hy2⟩ := info_parts iBytes
      have hAdd2 := Lib.hid (fun w6 v gg cap k hb h1 h2 => HR7.out.addRec (w6 := w6) (rv' := .slice (some ⟨gg, 0, none⟩) (L.recs.length + 1) cap) k v b hb h1 h2)
      clear hk7 hat7 hR7 hAdd hi0 hz0 hz1 hz2 y0 y1 y2 y3 y3f
      go_wp2_with fail
      go_cut [] (fun wx => ∃ v2 gg2 cap2, LogR wx lb d { L with parts := L.parts ++ [⟨fn, 1, 12 + b.length⟩], recs := L.recs ++ [b] } (.slice (some ⟨gg, 0, none⟩) (L.parts.length + 1) cap) (.slice (some ⟨gg2, 0, none⟩) (L.recs.length + 1) cap2) (vs ++ [v2]) ∧ Keep (fun k => k = lb ∨ some k = rv.ownBlock) wc wx ∧ (rv.ownBlock = some gg2 ∨ wc.heap.size ≤ gg2))
      case first =>
        go_region_law
        (first
          | (go_simp; go_at_call 30; refine (clone_src _ b _ ?_ (by omega)).mono ?_; exact (Hb7.out.still (by repeat (first | exact Keep.refl No wc | apply Keep.drew | apply Keep.alloc))).any; rintro e w8 ⟨v2, rfl, hv2, hk8⟩
             have hv2' := Bytes.own hv2 (by unfold maxLen; omega)
             obtain ⟨A2, d2, hA⟩ := hv2'.form
             subst hA
             have hk8' : Keep No wc w8 := Keep.trans (by repeat (first | exact Keep.refl No wc | apply Keep.drew | apply Keep.alloc)) hk8 (fun _ h _ => h)
             have x4 : w8.cell? ⟨lb, 4, none⟩ = some rv := (hk8'.cell (a := ⟨lb, 4, none⟩) hlb7 (fun f => f)).trans y4
             have x4a : ∀ o, (w8.alloc o).cell? ⟨lb, 4, none⟩ = some rv := fun o => (((Keep.refl No w8).alloc o).cell (a := ⟨lb, 4, none⟩) (Nat.lt_of_lt_of_le hlb7 hk8'.size) (fun f => f)).trans x4
             have Hv2 := Lib.hid hv2'
             have Hk8 := Lib.hid hk8'
             clear hv2 hv2' hk8 hk8')
          | (refine step_append_lies _ (by rfl) _ _ _ (by rfl) NG tBytes j0 _ 1 24 uRecs hj0 hy0 hy1 hy2 rfl (by omega) rv L.recs.length vs (by rfl) (row_keep HR7.out.2.2.1 (by repeat (first | exact Hk8.out | apply Keep.drew | apply Keep.alloc)) (fun _ _ f => f)) (⟨w8.heap.size, 0, none⟩ : Addr) 1 1 [.slice A2 b.length d2] (by rfl) (by rfl) (World.news_of_block (cs := #[.slice A2 b.length d2]) (t := tBytes) (fr := (0, 0)) (heap_alloc_new w8 _)) (by simp [Value.oneCell']) (by omega) (by unfold maxLen; omega) (by omega) (Nat.le_trans ng7 (by have := Hk8.out.size; simp; omega)) (w8.heap.size + 1) (by simp) ?_; intro gg2 cap2 w9 hown9 hgrow hat9 hlt9
             have k9 : Keep No wc w8 := Hk8.out
             have kk : Keep (fun b => some b = rv.ownBlock) wc w9 := Keep.trans (T := fun b => some b = rv.ownBlock) (Keep.mono (S := No) (by repeat (first | exact k9 | apply Keep.drew | apply Keep.alloc)) (fun _ f _ => f.elim)) (Keep.of_grown hgrow) (fun _ h _ => h)
             have z4f : w9.frozen? ⟨lb, 4, none⟩ = false := (kk.frozen (a := ⟨lb, 4, none⟩) hlb7 (fun e => a2' lb e.symm rfl)).trans y4f
             have z4 : w9.cell? ⟨lb, 4, none⟩ = some rv := (kk.cell (a := ⟨lb, 4, none⟩) hlb7 (fun e => a2' lb e.symm rfl)).trans y4
             have Hown9 := Lib.hid hown9
             have Hkk := Lib.hid kk
             have Hat9 := Lib.hid hat9
             have r8 := row_keep HR7.out.2.2.1 k9 (fun _ _ f => f)
             have HB9 := Lib.hid (show Bytes w9 tByte (.slice A2 b.length d2) b from Hv2.out.keep (S := fun b => some b = rv.ownBlock) (Keep.trans (T := fun b => some b = rv.ownBlock) (Keep.mono (S := No) (by repeat (first | exact Keep.refl No w8 | apply Keep.drew | apply Keep.alloc)) (fun _ f _ => f.elim)) (Keep.of_grown hgrow) (fun _ h _ => h)) (row_noBytes r8 (by decide)))
             have hsz8 := k9.size
             clear hown9 kk hgrow hat9 k9 r8))
        all_goals (go_wp2_with fail; go_meet)
        all_goals (obtain ⟨q1, q2⟩ := hAdd2.out _ _ _ _ Hkk.out HB9.out Hown9.out (Hat9.out.imp (fun e => e.symm) (fun e b hb => by rw [← Option.some.inj hb]; show _ ≤ gg2; omega)); exact ⟨_, gg2, cap2, q1, q2, Hat9.out.imp (fun e => e) (fun e => by omega)⟩)
      case rest =>
        obtain ⟨v2, gg2, cap2, hR9, hk9, hat9⟩ := hcut
        rename_i wd
        have y6 := hR9.1.cell 6
        have y6f := hR9.1.free 6
        simp only [List.getElem?_toArray, List.getElem?_cons_succ, List.getElem?_cons_zero] at y6
        have HR9 := Lib.hid hR9
        have Hk9 := Lib.hid hk9
        have Hat9 := Lib.hid hat9
        clear hR9 hk9 hat9
        go_wp2_with fail
        go_ret
        obtain ⟨hRe, kE⟩ := HR9.out.setDirty true
        have kwY : Keep (· ∈ F) w Y := (HK5.out.trans HKX.out (fun b e hb => by subst e; omega)).trans HKY.out (fun _ f => f.elim)
        have lY : LogAt Y lb d L G := ⟨pv, rv, vs, HRY.out, hHG.out⟩
        have g7 : ∀ k, (k = lb ∨ some k = pv.ownBlock) → k ∈ G := fun k hk => by
          rw [hHG.out]; rcases hk with e | e
          · subst e; simp
          · simp [← e]
        have l7 : LogAt _ lb d _ (lb :: ((Value.slice (some ⟨gg, 0, none⟩) (L.parts.length + 1) cap).ownBlock.toList ++ rv.ownBlock.toList)) := ⟨_, _, _, HR7.out, rfl⟩
        have l9 : LogAt _ lb d _ (lb :: ((Value.slice (some ⟨gg, 0, none⟩) (L.parts.length + 1) cap).ownBlock.toList ++ (Value.slice (some ⟨gg2, 0, none⟩) (L.recs.length + 1) cap2).ownBlock.toList)) := ⟨_, _, _, HR9.out, rfl⟩
        have g9 : ∀ k, (k = lb ∨ some k = rv.ownBlock) → k ∈ (lb :: ((Value.slice (some ⟨gg, 0, none⟩) (L.parts.length + 1) cap).ownBlock.toList ++ rv.ownBlock.toList)) := fun k hk => by
          rcases hk with e | e
          · subst e; simp
          · simp [← e]
        have d7 := HDY.out.log lY (Hk7.out.mono (fun k hk _ => g7 k hk))
        have d9 := d7.log l7 (Hk9.out.mono (fun k hk _ => g9 k hk))
        have dE := d9.log l9 (kE.mono (fun k hk _ => by subst hk; simp))
        have kwc := (kwY.mono (fun b hb _ => Or.inl hb)).trans Hk7.out (S := fun b => b ∈ F ∨ b ∈ G) (fun b hb _ => Or.inr (g7 b hb))
        have kwd := kwc.trans Hk9.out (fun b hb hl => by
          rcases hb with e | e
          · exact Or.inr (g7 b (.inl e))
          · exact Or.inr (by rw [hHG.out]; simp [← e]))
        have kwe := kwd.trans kE (fun b hb _ => Or.inr (g7 b (.inl hb)))
        refine ⟨by rw [E1.out]; rfl, F', _, by rw [E1.out]; exact dE, by rw [E1.out]; exact ⟨_, _, _, hRe, rfl⟩, kwe, HF'.out, ?_⟩
        intro k hk
        simp only [Value.ownBlock, Option.toList_some, List.mem_cons, List.mem_append, List.not_mem_nil, or_false] at hk
        rcases hk with e | e | e
        · exact .inl (g7 k (.inl e))
        · rcases Hat7.out with h | h
          · exact .inl (g7 k (.inr (by rw [e, h])))
          · exact .inr (by have := kwY.size; omega)
        · rcases Hat9.out with h | h
          · exact .inl (by rw [hHG.out]; simp [h, e])
          · exact .inr (by have := kwc.size; omega)
  · have hb1 : ((st.append (fileName L.name fn) (frameB b)).2 != 0) = true := by simpa using hec
    have e1 : L.addNew st b = (L, (st.append (fileName L.name fn) (frameB b)).1, (st.append (fileName L.name fn) (frameB b)).2) := by
      unfold LogS.addNew; rw [Hfn.out, if_neg hec]
    have E1 := Lib.hid e1
    clear e1
    generalize hee : (st.append (fileName L.name fn) (frameB b)).2 = ee at *
    have hb2 : (ee == 0) = false := by simpa using hec
    have Hee := Lib.hid hee
    clear hee hec hc5 hR5
    go_wp2_with fail
    go_ret
    exact ⟨by rw [E1.out]; rfl, F', G, by rw [E1.out]; exact HD5.out, by rw [E1.out]; exact HL5.out, HK5.out.mono (fun _ h _ => .inl h), HF'.out, fun _ h => .inl h⟩
end Go.Proofs.YtbmejbmkaoekgaaGreatDoor
