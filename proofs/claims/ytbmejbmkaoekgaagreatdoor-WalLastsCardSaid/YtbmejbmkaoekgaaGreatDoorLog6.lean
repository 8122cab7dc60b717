/- Append to a log: the last file is full, and a new one begins. -/
import Derived.Test.YtbmejbmkaoekgaaGreatDoorLog5
namespace Go.Proofs.YtbmejbmkaoekgaaGreatDoor
open Go Go.RowKit
set_option linter.unusedVariables false
set_option linter.unusedSimpArgs false

theorem dsync_steps (st : DiskS) (l : List UInt8) : (st.sync l).1.steps ≤ st.steps + 1 := by
  have := step_steps st
  unfold DiskS.sync
  split
  · exact this
  · split <;> exact this

/-- What Append does where the last file is full. -/
def LogS.addFull (L : LogS) (st : DiskS) (b : List UInt8) : LogS × DiskS × Int :=
  if (L.sync st).2.2 = 0 then (L.sync st).1.addNew (L.sync st).2.1 b else L.sync st

theorem sync_same (L : LogS) (st : DiskS) : (L.sync st).1.name = L.name ∧ (L.sync st).1.parts = L.parts ∧ (L.sync st).1.recs = L.recs ∧ (L.sync st).1.first = L.first ∧ (L.sync st).1.most = L.most := by
  unfold LogS.sync; split
  · exact ⟨rfl, rfl, rfl, rfl, rfl⟩
  · split <;> exact ⟨rfl, rfl, rfl, rfl, rfl⟩
theorem lsync_steps (L : LogS) (st : DiskS) : (L.sync st).2.1.steps ≤ st.steps + 1 := by
  unfold LogS.sync; split
  · exact Nat.le_succ _
  · split
    · exact dsync_steps _ _
    · exact Nat.le_succ _
theorem LogS.Ok.sync {L : LogS} (h : L.Ok) (st : DiskS) : (L.sync st).1.Ok := by
  obtain ⟨e1, e2, e3, e4, e5⟩ := sync_same L st
  refine ⟨e1 ▸ h.name, e2 ▸ h.frm, ?_, e2 ▸ h.count⟩
  have := h.fin
  unfold LogS.fin at this ⊢
  rw [e3, e4]; exact this

set_option maxRecDepth 100000 in
set_option maxHeartbeats 2000000 in
theorem lappend_full (w : World) (lb d : Nat) (st : DiskS) (L : LogS) (F G : List Nat) (v : Value) (b : List UInt8) (hd : DiskAt w d st F) (h : LogAt w lb d L G) (ok : L.Ok) (htab : Tab w) (hst : st.steps < 4611686018427387903) (hb : Src w w.heap.size (fun k => k ∈ F ∨ k ∈ G) v b) (hbl : b.length ≤ 65536)
    (p : PartS) (hp : L.parts.getLast? = some p) (hms : L.most ≤ (p.size : Int)) (hpf : p.frm ≠ L.fin) :
    Calls Tryz.prog 9 #[ptr lb, v] w (LogPost w lb d F G (L.addFull st b).1 (L.addFull st b).2.1 (.int .i64 (L.addFull st b).2.2)) := by
  have Hat := Lib.hid h
  obtain ⟨pv, rv, vs, hR, hG⟩ := h
  obtain ⟨g, cg, n, hn, hpv, hcg, hmg, cur, hcur, hq0, hq1, hq2⟩ := hR.lastPart hp
  have hl := Lib.hid (fun w h => last_some w lb d L pv rv vs g cg n h hn hpv hcg hmg)
  have hen := Lib.hid (fun w h => end_go w lb d L G h (by have := ok.fin; omega))
  have Hd := Lib.hid hd
  obtain ⟨A, c, rfl⟩ := hb.form
  have Hb := Lib.hid hb
  have hb1 : decide ((65536 : Int) < (b.length : Int)) = false := by simp; omega
  have hb2 : decide (65536 < b.length) = false := by simp; omega
  have hfin := ok.fin
  have Htab := Lib.hid htab
  have Hok := Lib.hid ok
  have hpm : p ∈ L.parts := List.mem_of_getLast? hp
  obtain ⟨hfr, hma, hsi⟩ := ok.frm p hpm
  have hmd : decide ((p.size : Int) < L.most) = false := by simpa using hms
  have HR := Lib.hid hR
  have HG := Lib.hid hG
  have Hcur := Lib.hid hcur
  have Hq := Lib.hid (And.intro hq0 (And.intro hq1 hq2))
  have Hpv := Lib.hid hpv
  have Hp := Lib.hid hp
  have Hn := Lib.hid hn
  have hpn : ((L.fin : Int) == (p.frm : Int)) = false := by simp; omega
  have hpn' : (L.fin == p.frm) = false := by simp; omega
  clear hpf
  clear hd hR hG hb ok htab hpm hms hcur hq0 hq1 hq2 hpv hp hn
  generalize hfn : L.fin = fn at *
  have Hfn := Lib.hid hfn; clear hfn
  obtain ⟨n3, hn3⟩ : ∃ n3, n * 3 = n3 := ⟨_, rfl⟩
  have Hn3 := Lib.hid hn3; clear hn3
  go_enter Tryz.func9, Tryz.ntmps9
  go_wp2_with fail
  refine (hen.out _ Hat.out).mono ?_
  rintro e w1 ⟨rfl, q, hq⟩
  have Hk := Lib.hid (show Keep No w w1 by rw [hq]; exact (Keep.refl No w).drewN q)
  clear hq
  go_wp2_with fail
  have hcn := Cells.new w1 tPart #[.int .i64 (fn : Nat), .int .i64 0, .int .i64 0]
  have hkn : Keep No w (w1.alloc (.cells #[.int .i64 (fn : Nat), .int .i64 0, .int .i64 0] tPart)) := Hk.out.alloc _
  have hbn : w.heap.size ≤ w1.heap.size := Hk.out.size
  change Calls _ _ _ (w1.alloc (.cells #[.int .i64 (fn : Nat), .int .i64 0, .int .i64 0] tPart)) _
  generalize hW2 : w1.alloc (.cells #[.int .i64 (fn : Nat), .int .i64 0, .int .i64 0] tPart) = w2 at *
  generalize hbN : w1.heap.size = bn at *
  clear hW2 hbN Hk
  have Hk := Lib.hid hkn; clear hkn
  refine (hl.out _ (HR.out.keep Hk.out (fun f => f) (fun _ _ f => f) (fun _ _ f => f) (NoBytes.no _ _))).mono ?_
  rw [Hn3.out]
  rintro e w3 ⟨rfl, q3, hw3⟩
  have Hk3 := Lib.hid (show Keep No w w3 by rw [hw3]; exact Hk.out.drewN q3)
  have hc3 : Cells w3 bn tPart #[.int .i64 (fn : Nat), .int .i64 0, .int .i64 0] := by rw [hw3]; exact hcn
  clear hw3 Hk hcn
  have hR3 := HR.out.keep Hk3.out (fun f => f) (fun _ _ f => f) (fun _ _ f => f) (NoBytes.no _ _)
  have hcur3 : w3.heap[g]? = some (.cells cur tPart (0, 0)) := (Hk3.out.block g (lt_of_heap Hcur.out) (fun f => f)).trans Hcur.out
  have p0 : w3.cell? ⟨g, n3, none⟩ = some (.int .i64 (p.frm : Nat)) := by rw [← Hn3.out]; simp [World.cell?, hcur3, Hq.out.1]
  have p1 : w3.cell? ⟨g, n3 + 1, none⟩ = some (.int .i64 (p.many : Nat)) := by rw [← Hn3.out]; simp [World.cell?, hcur3, Hq.out.2.1]
  have p2 : w3.cell? ⟨g, n3 + 2, none⟩ = some (.int .i64 (p.size : Nat)) := by rw [← Hn3.out]; simp [World.cell?, hcur3, Hq.out.2.2]
  have r2 := hR3.1.cell 2
  have n0 := hc3.cell 0
  have n1 := hc3.cell 1
  have n2 := hc3.cell 2
  have f0 := hc3.free 0
  have f1 := hc3.free 1
  have f2 := hc3.free 2
  simp only [List.getElem?_toArray, List.getElem?_cons_succ, List.getElem?_cons_zero] at r2 n0 n1 n2
  have hbng : bn ≠ g := by have := lt_of_heap Hcur.out; omega
  have Hc3 := Lib.hid hc3
  have HR3 := Lib.hid hR3
  clear hc3 hR3 hcur3
  go_wp2_with fail
  go_quiet (fail)
  obtain ⟨wA, hWA⟩ : ∃ wA, w3.drewN nq = wA := ⟨_, rfl⟩
  rw [hWA]
  have hKA3 : Keep No w3 wA := by rw [← hWA]; exact (Keep.refl No w3).drewN nq
  have HKA := Lib.hid (show Keep No w wA from Hk3.out.trans hKA3 (fun _ f => f.elim))
  have HcA := Lib.hid (show Cells wA bn tPart #[.int .i64 (fn : Nat), .int .i64 0, .int .i64 0] from Hc3.out.keep hKA3 (fun f => f))
  have HRA := Lib.hid (HR.out.keep HKA.out (fun f => f) (fun _ _ f => f) (fun _ _ f => f) (NoBytes.no _ _))
  have HDA := Lib.hid (Hd.out.keep HKA.out (fun _ _ f => f) (NoBytes.no _ _))
  have HtA := Lib.hid (Htab.out.keep HKA.out (fun _ f => f.elim))
  clear hWA hKA3 p0 p1 p2 r2 n0 n1 n2 f0 f1 f2
  go_wp2_with fail
  refine (syncR_go wA lb d st L F pv rv vs HDA.out HRA.out Hok.out HtA.out (by omega)).mono ?_
  rintro e wB ⟨rfl, F1, hDB, hRB, hKB, hF1⟩
  have hlb : lb < w.heap.size := HR.out.1.lt
  have hgw : g < w.heap.size := lt_of_heap Hcur.out
  have hgG : g ∈ G := by rw [HG.out, Hpv.out]; simp [Value.ownBlock]
  have hgF : g ∉ F := Hat.out.apart Hd.out g hgG
  have hlbg : lb ≠ g := fun e => HR.out.apart.1 g (by rw [Hpv.out]; rfl) e.symm
  have hlbF : lb ∉ F := Hat.out.apart Hd.out lb (by rw [HG.out]; simp)
  have hbnF : bn ∉ F := fun hf => by have := Hd.out.lt hf; omega
  have hbl' : bn ≠ lb := by omega
  have HDB := Lib.hid hDB
  have HRB := Lib.hid hRB
  have HKB := Lib.hid hKB
  have HF1 := Lib.hid (show ∀ b ∈ F1, b ∈ F ∨ w.heap.size ≤ b from fun b hb => (hF1 b hb).imp (fun h => h) (fun h => Nat.le_trans HKA.out.size h))
  have HKwB := Lib.hid (show Keep (fun b => b ∈ F ∨ b = lb) w wB from (HKA.out.mono (fun _ f _ => f.elim)).trans hKB (fun _ h _ => h))
  have HcB := Lib.hid (HcA.out.keep hKB (fun h => h.elim hbnF hbl'))
  have hnbW : NoBytes w tByte (fun b => b ∈ F ∨ b = lb) := by
    rintro k (h | h)
    · exact Hd.out.noBytes k h
    · subst h; exact HR.out.1.noBytes (by decide)
  have HbB := Lib.hid (Hb.out.keep HKwB.out (fun b h => .inl (h.imp (fun h => h) (fun h => by rw [h, HG.out]; simp))))
  have HtB := Lib.hid (show Tab wB from HtA.out.keep hKB (by
    rintro b (h | h)
    · exact Hd.out.ng b h
    · subst h; exact HR.out.2.2.2.2))
  have HcurB := Lib.hid (show wB.heap[g]? = some (.cells cur tPart (0, 0)) from (HKwB.out.block g hgw (fun h => h.elim hgF (fun e => hlbg e.symm))).trans Hcur.out)
  clear hDB hRB hKB hF1 hnbW hen
  by_cases hs0 : (L.sync st).2.2 = 0
  case neg =>
    have e1 : L.addFull st b = L.sync st := by unfold LogS.addFull; rw [if_neg hs0]
    have E1 := Lib.hid e1
    clear e1
    have hbx : ((L.sync st).2.2 != 0) = true := by simpa using hs0
    generalize hee : (L.sync st).2.2 = ee at *
    have hb2 : (ee == 0) = false := by simpa using hs0
    have Hee := Lib.hid hee
    clear hee hs0
    go_wp2_with fail
    go_ret
    refine ⟨by rw [E1.out, Hee.out]; rfl, F1, G, by rw [E1.out]; exact HDB.out, by rw [E1.out]; exact ⟨pv, rv, vs, HRB.out, HG.out⟩, HKwB.out.mono (fun b h _ => h.imp (fun h => h) (fun h => by rw [HG.out]; simp [h])), HF1.out, fun _ h => .inl h⟩
  case pos =>
  have E0 := Lib.hid (show L.addFull st b = (L.sync st).1.addNew (L.sync st).2.1 b by unfold LogS.addFull; rw [if_pos hs0])
  rw [hs0]
  clear hs0
  have hst1 : (L.sync st).2.1.steps < 4611686018427387904 := by have := lsync_steps L st; omega
  have hOk1 := Lib.hid (Hok.out.sync st)
  obtain ⟨s1, s2, s3, s4, s5⟩ := sync_same L st
  have hfn1 : (L.sync st).1.fin = L.fin := by unfold LogS.fin; rw [s3, s4]
  rw [Hfn.out] at hfn1
  obtain ⟨L1, hL1⟩ : ∃ L1, (L.sync st).1 = L1 := ⟨_, rfl⟩
  obtain ⟨st1, hst1e⟩ : ∃ st1, (L.sync st).2.1 = st1 := ⟨_, rfl⟩
  rw [hL1] at HRB hOk1 E0 s1 s2 s3 s4 s5 hfn1
  rw [hst1e] at HDB E0 hst1
  have Hfn1 := Lib.hid hfn1
  have Hs := Lib.hid (And.intro s2 s3)
  clear hL1 hst1e s1 s2 s3 s4 s5 hfn1
  go_wp2_with fail
  obtain ⟨W, hW⟩ : ∃ W, wB = W := ⟨_, rfl⟩
  subst hW
  have hbW := HcB.out.lt
  have hRW := HRB
  have hlbW := Nat.lt_of_lt_of_le hlb HKwB.out.size
  have hHG := HG
  have Hcn := HcB
  have hatB : LogAt wB lb d L1 G := ⟨pv, rv, vs, HRB.out, HG.out⟩
  have HatB := Lib.hid hatB
  have hlbF1 : lb ∉ F1 := hatB.apart HDB.out lb (by rw [HG.out]; simp)
  have hbnF1 : bn ∉ F1 := fun hf => absurd (HDB.out.kinds bn hf _ _ _ HcB.out) (by decide)
  clear hatB
  have c0 := hRW.out.1.cell 0
  have c1 := hRW.out.1.cell 1
  have n0 := Hcn.out.cell 0
  simp only [List.getElem?_toArray, List.getElem?_cons_succ, List.getElem?_cons_zero] at c0 c1 n0
  have hnm := hOk1.out.name.most
  obtain ⟨hf1, hf2, hf3⟩ := file_plain hOk1.out.name hfin
  have Hf := Lib.hid (And.intro hf1 (And.intro hf2 hf3))
  clear hf1 hf2 hf3
  go_region_held3 (fun W => W.cell? ⟨lb, 0, none⟩ = some (ptr d) ∧ W.cell? ⟨lb, 1, none⟩ = some (sv L1.name) ∧ W.cell? ⟨bn, 0, none⟩ = some (.int .i64 (fn : Nat))) (first | exact ⟨by assumption, by assumption, by assumption⟩ | go_keep)
    (first
      | (go_at_call 21; refine (file_ok L1.name fn hfin hnm _ ?_).mono ?_; exact HtB.out.keep ((Keep.refl No wB).drew) (fun _ f => f.elim); rintro e w2 ⟨rfl, hk2⟩
         have k0 : w2.cell? ⟨lb, 0, none⟩ = some (ptr d) := (hk2.undrew.cell (a := ⟨lb, 0, none⟩) hlbW (fun f => f)).trans c0
         have k1 : w2.cell? ⟨lb, 1, none⟩ = some (sv L1.name) := (hk2.undrew.cell (a := ⟨lb, 1, none⟩) hlbW (fun f => f)).trans c1
         have kp : w2.cell? ⟨bn, 0, none⟩ = some (.int .i64 (fn : Nat)) := (hk2.undrew.cell (a := ⟨bn, 0, none⟩) hbW (fun f => f)).trans n0
         have Hk2 := Lib.hid hk2.undrew; clear hk2)
      | (go_at_call 29; refine (frame_src _ b _ ?_ ?_).mono ?_; exact (HbB.out.still Hk2.out).any; omega; rintro e w4 ⟨v4, rfl, hv4, hk4⟩
         have l0 : w4.cell? ⟨lb, 0, none⟩ = some (ptr d) := (hk4.cell (a := ⟨lb, 0, none⟩) (Nat.lt_of_lt_of_le hlbW Hk2.out.size) (fun f => f)).trans k0
         have l1 : w4.cell? ⟨lb, 1, none⟩ = some (sv L1.name) := (hk4.cell (a := ⟨lb, 1, none⟩) (Nat.lt_of_lt_of_le hlbW Hk2.out.size) (fun f => f)).trans k1
         have lp : w4.cell? ⟨bn, 0, none⟩ = some (.int .i64 (fn : Nat)) := (hk4.cell (a := ⟨bn, 0, none⟩) (Nat.lt_of_lt_of_le hbW Hk2.out.size) (fun f => f)).trans kp
         have hfl : (frameB b).length = 12 + b.length := frame_len b
         have Hv4 := Lib.hid (Bytes.own hv4 (by unfold maxLen; omega)); clear hv4
         have Hk4 := Lib.hid (Hk2.out.trans hk4 (fun _ f => f.elim)); clear hk4)
      | (go_at_call 28; refine (dappend_go _ d st1 F1 (fileName L1.name fn) (frameB b) _ ?_ Hf.out.1 Hf.out.2.1 Hf.out.2.2 hst1 Hv4.out ?_ ?_).mono ?_; exact HDB.out.keep Hk4.out (fun _ _ f => f) (NoBytes.no _ _); omega
         exact Nat.le_trans HtB.out.size Hk4.out.size
         rintro e w5 ⟨rfl, F', hD5, hk5, hF5⟩
         have j0 : w5.cell? ⟨lb, 0, none⟩ = some (ptr d) := (hk5.cell (a := ⟨lb, 0, none⟩) (Nat.lt_of_lt_of_le hlbW Hk4.out.size) hlbF1).trans l0
         have j1 : w5.cell? ⟨lb, 1, none⟩ = some (sv L1.name) := (hk5.cell (a := ⟨lb, 1, none⟩) (Nat.lt_of_lt_of_le hlbW Hk4.out.size) hlbF1).trans l1
         have jp : w5.cell? ⟨bn, 0, none⟩ = some (.int .i64 (fn : Nat)) := (hk5.cell (a := ⟨bn, 0, none⟩) (Nat.lt_of_lt_of_le hbW Hk4.out.size) hbnF1).trans lp
         have Hk5 := Lib.hid ((Hk4.out.mono (T := (· ∈ F1)) (fun _ f _ => f.elim)).trans hk5 (fun _ h _ => h)); clear hk5
         have HD5 := Lib.hid hD5
         have HF5 := Lib.hid hF5
         clear hD5 hF5))
  rename_i hHeld
  clear hHeld j0 j1 jp l0 l1 lp k0 k1 kp c0 c1 n0
  have hR5 : LogR w5 lb d L1 pv rv vs := by
    have a := HatB.out.apart HDB.out
    rw [hHG.out] at a
    exact hRW.out.keep Hk5.out hlbF1 (fun b e => a b (by simp [e])) (fun b e => a b (by simp [e])) HDB.out.noBytes
  have hc5 : Cells w5 bn tPart #[.int .i64 (fn : Nat), .int .i64 0, .int .i64 0] := Hcn.out.keep Hk5.out hbnF1
  have HF' := Lib.hid (show ∀ b ∈ F', b ∈ F ∨ w.heap.size ≤ b from fun b hb => (HF5.out b hb).elim (fun h => HF1.out b h) (fun h => .inr (Nat.le_trans (Nat.le_trans HKwB.out.size Hk4.out.size) h)))
  have HK5 := Lib.hid (show Keep (· ∈ F1) wB w5 from Hk5.out)
  have HKw5 := Lib.hid (show Keep (fun b => b ∈ F ∨ b = lb) w w5 from HKwB.out.trans Hk5.out (fun b hb hl => (HF1.out b hb).elim .inl (fun h => by omega)))
  have HL5 := Lib.hid (show LogAt w5 lb d L1 G from ⟨pv, rv, vs, hR5, hHG.out⟩)
  clear HF5 Hk5 Hk4 Hk2 Hv4 hfl Hcn hRW
  by_cases hec : (st1.append (fileName L1.name fn) (frameB b)).2 = 0
  · have e1 : L.addFull st b = ({ L1 with parts := L1.parts ++ [⟨fn, 1, 12 + b.length⟩], recs := L1.recs ++ [b], dirty := true }, (st1.append (fileName L1.name fn) (frameB b)).1, 0) := by
      rw [E0.out]; unfold LogS.addNew; rw [Hfn1.out, if_pos hec]
    have E1 := Lib.hid e1
    rw [hec]
    clear e1 hec
    have n1 := hc5.cell 1
    have n2 := hc5.cell 2
    have m1 := hc5.free 1
    have m2 := hc5.free 2
    simp only [List.getElem?_toArray, List.getElem?_cons_succ, List.getElem?_cons_zero] at n1 n2
    have hHc5 := Lib.hid hc5
    have hHR5 := Lib.hid hR5
    clear hc5 hR5
    have hw1 : IntKind.i64.wrap (12 + (b.length : Int)) = 12 + (b.length : Int) := by rw [IntKind.wrap_i64]; omega
    go_wp2_with fail
    obtain ⟨X, hX⟩ : ∃ X, (w5.setCell ⟨bn, 1, none⟩ (.int .i64 1)).setCell ⟨bn, 2, none⟩ (.int .i64 (12 + (b.length : Int))) = X := ⟨_, rfl⟩
    rw [hX]
    have kX : Keep (· = bn) w5 X := by rw [← hX]; exact ((Keep.refl (· = bn) w5).setCell ⟨bn, 1, none⟩ _ (fun _ => rfl)).setCell ⟨bn, 2, none⟩ _ (fun _ => rfl)
    have cX : Cells X bn tPart #[.int .i64 (fn : Nat), .int .i64 1, .int .i64 (12 + (b.length : Int))] := by rw [← hX]; exact (hHc5.out.set 1 _).set 2 _
    have HKX := Lib.hid kX
    have HCX := Lib.hid cX
    have hnbX : ∀ b ∈ G, ¬ b = bn := fun b hb e => by subst e; have := Hat.out.lt hb; omega
    have hnbF : NoBytes w5 tByte (· = bn) := fun k hk => by subst hk; exact hHc5.out.noBytes (by decide)
    have hRX := Lib.hid (show LogR X lb d L1 pv rv vs from hHR5.out.keep kX (hnbX lb (by rw [hHG.out]; simp)) (fun b e => hnbX b (by rw [hHG.out]; simp [e])) (fun b e => hnbX b (by rw [hHG.out]; simp [e])) hnbF)
    clear hX kX cX n1 n2 m1 m2
    have hgbn : ¬ g = bn := by omega
    have hcurX : X.heap[g]? = some (.cells cur tPart (0, 0)) := (HKX.out.block g (Nat.lt_of_lt_of_le hgw HKw5.out.size) hgbn).trans ((HKw5.out.block g hgw (fun h => h.elim hgF (fun e => hlbg e.symm))).trans Hcur.out)
    have p0 : X.cell? ⟨g, n3, none⟩ = some (.int .i64 (p.frm : Nat)) := by rw [← Hn3.out]; simp [World.cell?, hcurX, Hq.out.1]
    have x0 := HCX.out.cell 0
    simp only [List.getElem?_toArray, List.getElem?_cons_succ, List.getElem?_cons_zero] at x0
    clear hcurX
    go_quiet (fail)
    clear p0 x0
    go_wp2_with fail
    obtain ⟨Y, hY⟩ : ∃ Y, X.drewN nq = Y := ⟨_, rfl⟩
    rw [hY]
    have kY : Keep No X Y := by rw [← hY]; exact (Keep.refl No X).drewN nq
    have HKY := Lib.hid kY
    have hRY : LogR Y lb d L1 pv rv vs := hRX.out.keep kY (fun f => f) (fun _ _ f => f) (fun _ _ f => f) (NoBytes.no _ _)
    have cY : Cells Y bn tPart #[.int .i64 (fn : Nat), .int .i64 1, .int .i64 (12 + (b.length : Int))] := HCX.out.keep kY (fun f => f)
    have y0 := cY.cell 0
    have y1 := cY.cell 1
    have y2 := cY.cell 2
    have y3 := hRY.1.cell 3
    have y3f := hRY.1.free 3
    simp only [List.getElem?_toArray, List.getElem?_cons_succ, List.getElem?_cons_zero] at y0 y1 y2 y3
    have hpb : ∀ b, pv.ownBlock = some b → ¬ b = bn := fun b e => hnbX b (by rw [hHG.out]; simp [e])
    have hlbY := hRY.1.lt
    have hbnY := cY.lt
    have HRY := Lib.hid hRY
    have HCY := Lib.hid cY
    obtain ⟨a1, a2, a3⟩ := hRY.apart
    have hpl : L1.parts.length < 1000000000 := hOk1.out.count
    have ng : NG ≤ Y.heap.size := Nat.le_trans HtB.out.size (Nat.le_trans HK5.out.size (Nat.le_trans HKX.out.size HKY.out.size))
    have HbY := Lib.hid (((HbB.out.keep HK5.out (fun b h => (HF1.out b h).imp Or.inl (fun q => q))).keep HKX.out (fun b e => .inr (by have e' : b = bn := e; omega))).still HKY.out)
    have HDY := Lib.hid (show DiskAt Y d _ F' from (HD5.out.keep HKX.out (fun b hb e => by subst e; exact absurd (HD5.out.kinds b hb _ _ _ hHc5.out) (by decide)) hnbF).keep HKY.out (fun _ _ f => f) (NoBytes.no _ _))
    obtain ⟨i0, hi0, hz0, hz1, hz2⟩ := info_parts iPart
    clear hY kY hRY cY
    have hAdd := Lib.hid (fun gg cap w6 k h1 h2 => HRY.out.addPart (w6 := w6) (pv' := .slice (some ⟨gg, 0, none⟩) (L1.parts.length + 1) cap) k ⟨fn, 1, 12 + b.length⟩ h1 h2)
    go_cut [] (fun wx => ∃ gg cap, LogR wx lb d { L1 with parts := L1.parts ++ [⟨fn, 1, 12 + b.length⟩] } (.slice (some ⟨gg, 0, none⟩) (L1.parts.length + 1) cap) rv vs ∧ Keep (fun k => k = lb ∨ some k = pv.ownBlock) Y wx ∧ (pv.ownBlock = some gg ∨ gg = Y.heap.size + 1))
    case first =>
      go_region_law
      ((refine step_append_lies _ (by rfl) _ _ _ (by rfl) NG tPart i0 _ 3 24 uParts hi0 hz0 hz1 hz2 rfl (by omega) pv L1.parts.length (L1.parts.flatMap partV) (by rfl) (row_keep HRY.out.2.1 (by repeat (first | exact Keep.refl No Y | apply Keep.drew | apply Keep.alloc)) (fun _ _ f => f)) (⟨Y.heap.size, 0, none⟩ : Addr) 1 1 [.int .i64 (fn : Nat), .int .i64 1, .int .i64 (12 + (b.length : Int))] (by rfl) (by rfl) (World.news_of_block (cs := #[.int .i64 (fn : Nat), .int .i64 1, .int .i64 (12 + (b.length : Int))]) (t := tPart) (fr := (0, 0)) (heap_alloc_new Y _)) (by simp [Value.oneCell'])
          (by omega) (by unfold maxLen; omega) (by omega) (by simp; omega) (Y.heap.size + 1) (by simp) ?_; intro gg cap w6 hown6 hgrow hat6 hlt6
        have kk : Keep (fun b => some b = pv.ownBlock) Y w6 := Keep.trans (T := fun b => some b = pv.ownBlock) (Keep.mono (S := No) (by repeat (first | exact Keep.refl No Y | apply Keep.drew | apply Keep.alloc)) (fun _ f _ => f.elim)) (Keep.of_grown hgrow) (fun _ h _ => h)
        have z3f : w6.frozen? ⟨lb, 3, none⟩ = false := (kk.frozen (a := ⟨lb, 3, none⟩) hlbY (fun e => a1 lb e.symm rfl)).trans y3f
        have z3 : w6.cell? ⟨lb, 3, none⟩ = some pv := (kk.cell (a := ⟨lb, 3, none⟩) hlbY (fun e => a1 lb e.symm rfl)).trans y3
        have Hown6 := Lib.hid hown6
        have Hkk := Lib.hid kk
        have Hat6 := Lib.hid hat6
        clear hown6 kk hgrow hat6))
      all_goals (go_wp2_with fail; go_meet)
      all_goals (obtain ⟨q1, q2⟩ := hAdd.out _ _ _ Hkk.out Hown6.out (Hat6.out.imp (fun e => e.symm) (fun e b hb => by rw [← Option.some.inj hb]; show _ ≤ gg; omega)); exact ⟨gg, cap, q1, q2, Hat6.out⟩)
    case rest =>
      obtain ⟨gg, cap, hR7, hk7, hat7⟩ := hcut
      have Hk7 := Lib.hid hk7
      have Hat7 := Lib.hid hat7
      have HR7 := Lib.hid hR7
      have hnb7 : NoBytes Y tByte (fun k => k = lb ∨ some k = pv.ownBlock) := by
        rintro k (e | e)
        · subst e; exact HRY.out.1.noBytes (by decide)
        · exact row_noBytes HRY.out.2.1 (by decide) k e
      have Hb7 := Lib.hid (HbY.out.keep hk7 (fun b hb => .inl (.inr (by
          rw [hHG.out]
          rcases hb with e | e
          · simp [e]
          · simp [← e]))))
      have y4 := hR7.1.cell 4
      have y4f := hR7.1.free 4
      simp only [List.getElem?_toArray, List.getElem?_cons_succ, List.getElem?_cons_zero] at y4
      have hlb7 := hR7.1.lt
      have a2' := hR7.apart.2.1
      have hrl : L1.recs.length < 1000000000 := by have := hOk1.out.fin; unfold LogS.fin at this; omega
      have ng7 : NG ≤ wc.heap.size := Nat.le_trans ng hk7.size
      obtain ⟨j0, hj0, hy0, hy1, hy2⟩ := info_parts iBytes
      have hAdd2 := Lib.hid (fun w6 v gg cap k hb h1 h2 => HR7.out.addRec (w6 := w6) (rv' := .slice (some ⟨gg, 0, none⟩) (L1.recs.length + 1) cap) k v b hb h1 h2)
      clear hk7 hat7 hR7 hAdd hi0 hz0 hz1 hz2 y0 y1 y2 y3 y3f
      go_wp2_with fail
      go_cut [] (fun wx => ∃ v2 gg2 cap2, LogR wx lb d { L1 with parts := L1.parts ++ [⟨fn, 1, 12 + b.length⟩], recs := L1.recs ++ [b] } (.slice (some ⟨gg, 0, none⟩) (L1.parts.length + 1) cap) (.slice (some ⟨gg2, 0, none⟩) (L1.recs.length + 1) cap2) (vs ++ [v2]) ∧ Keep (fun k => k = lb ∨ some k = rv.ownBlock) wc wx ∧ (rv.ownBlock = some gg2 ∨ wc.heap.size ≤ gg2))
      case first =>
        go_region_law
        (first
          | (go_simp; go_at_call 30; refine (clone_src _ b _ ?_ (by omega)).mono ?_; exact (Hb7.out.still (by repeat (first | exact Keep.refl No wc | apply Keep.drew | apply Keep.alloc))).any; rintro e w8 ⟨v2, rfl, hv2, hk8⟩
             have hv2' := Bytes.own hv2 (by unfold maxLen; omega)
             obtain ⟨A2, d2, hA⟩ := hv2'.form
             subst hA
             have hk8' : Keep No wc w8 := Keep.trans (by repeat (first | exact Keep.refl No wc | apply Keep.drew | apply Keep.alloc)) hk8 (fun _ h _ => h)
             have x4 : w8.cell? ⟨lb, 4, none⟩ = some rv := (hk8'.cell (a := ⟨lb, 4, none⟩) hlb7 (fun f => f)).trans y4
             have x4a : ∀ o, (w8.alloc o).cell? ⟨lb, 4, none⟩ = some rv := fun o => (((Keep.refl No w8).alloc o).cell (a := ⟨lb, 4, none⟩) (Nat.lt_of_lt_of_le hlb7 hk8'.size) (fun f => f)).trans x4
             have Hv2 := Lib.hid hv2'
             have Hk8 := Lib.hid hk8'
             clear hv2 hv2' hk8 hk8')
          | (refine step_append_lies _ (by rfl) _ _ _ (by rfl) NG tBytes j0 _ 1 24 uRecs hj0 hy0 hy1 hy2 rfl (by omega) rv L1.recs.length vs (by rfl) (row_keep HR7.out.2.2.1 (by repeat (first | exact Hk8.out | apply Keep.drew | apply Keep.alloc)) (fun _ _ f => f)) (⟨w8.heap.size, 0, none⟩ : Addr) 1 1 [.slice A2 b.length d2] (by rfl) (by rfl) (World.news_of_block (cs := #[.slice A2 b.length d2]) (t := tBytes) (fr := (0, 0)) (heap_alloc_new w8 _)) (by simp [Value.oneCell']) (by omega) (by unfold maxLen; omega) (by omega) (Nat.le_trans ng7 (by have := Hk8.out.size; simp; omega)) (w8.heap.size + 1) (by simp) ?_; intro gg2 cap2 w9 hown9 hgrow hat9 hlt9
             have k9 : Keep No wc w8 := Hk8.out
             have kk : Keep (fun b => some b = rv.ownBlock) wc w9 := Keep.trans (T := fun b => some b = rv.ownBlock) (Keep.mono (S := No) (by repeat (first | exact k9 | apply Keep.drew | apply Keep.alloc)) (fun _ f _ => f.elim)) (Keep.of_grown hgrow) (fun _ h _ => h)
             have z4f : w9.frozen? ⟨lb, 4, none⟩ = false := (kk.frozen (a := ⟨lb, 4, none⟩) hlb7 (fun e => a2' lb e.symm rfl)).trans y4f
             have z4 : w9.cell? ⟨lb, 4, none⟩ = some rv := (kk.cell (a := ⟨lb, 4, none⟩) hlb7 (fun e => a2' lb e.symm rfl)).trans y4
             have Hown9 := Lib.hid hown9
             have Hkk := Lib.hid kk
             have Hat9 := Lib.hid hat9
             have r8 := row_keep HR7.out.2.2.1 k9 (fun _ _ f => f)
             have HB9 := Lib.hid (show Bytes w9 tByte (.slice A2 b.length d2) b from Hv2.out.keep (S := fun b => some b = rv.ownBlock) (Keep.trans (T := fun b => some b = rv.ownBlock) (Keep.mono (S := No) (by repeat (first | exact Keep.refl No w8 | apply Keep.drew | apply Keep.alloc)) (fun _ f _ => f.elim)) (Keep.of_grown hgrow) (fun _ h _ => h)) (row_noBytes r8 (by decide)))
             have hsz8 := k9.size
             clear hown9 kk hgrow hat9 k9 r8))
        all_goals (go_wp2_with fail; go_meet)
        all_goals (obtain ⟨q1, q2⟩ := hAdd2.out _ _ _ _ Hkk.out HB9.out Hown9.out (Hat9.out.imp (fun e => e.symm) (fun e b hb => by rw [← Option.some.inj hb]; show _ ≤ gg2; omega)); exact ⟨_, gg2, cap2, q1, q2, Hat9.out.imp (fun e => e) (fun e => by omega)⟩)
      case rest =>
        obtain ⟨v2, gg2, cap2, hR9, hk9, hat9⟩ := hcut
        rename_i wd
        have y6 := hR9.1.cell 6
        have y6f := hR9.1.free 6
        simp only [List.getElem?_toArray, List.getElem?_cons_succ, List.getElem?_cons_zero] at y6
        have HR9 := Lib.hid hR9
        have Hk9 := Lib.hid hk9
        have Hat9 := Lib.hid hat9
        clear hR9 hk9 hat9
        go_wp2_with fail
        go_ret
        obtain ⟨hRe, kE⟩ := HR9.out.setDirty true
        have kwY : Keep (fun b => b ∈ F ∨ b = lb) w Y := (HKw5.out.trans HKX.out (fun b e hb => by subst e; omega)).trans HKY.out (fun _ f => f.elim)
        have lY : LogAt Y lb d L1 G := ⟨pv, rv, vs, HRY.out, hHG.out⟩
        have g7 : ∀ k, (k = lb ∨ some k = pv.ownBlock) → k ∈ G := fun k hk => by
          rw [hHG.out]; rcases hk with e | e
          · subst e; simp
          · simp [← e]
        have l7 : LogAt _ lb d _ (lb :: ((Value.slice (some ⟨gg, 0, none⟩) (L1.parts.length + 1) cap).ownBlock.toList ++ rv.ownBlock.toList)) := ⟨_, _, _, HR7.out, rfl⟩
        have l9 : LogAt _ lb d _ (lb :: ((Value.slice (some ⟨gg, 0, none⟩) (L1.parts.length + 1) cap).ownBlock.toList ++ (Value.slice (some ⟨gg2, 0, none⟩) (L1.recs.length + 1) cap2).ownBlock.toList)) := ⟨_, _, _, HR9.out, rfl⟩
        have g9 : ∀ k, (k = lb ∨ some k = rv.ownBlock) → k ∈ (lb :: ((Value.slice (some ⟨gg, 0, none⟩) (L1.parts.length + 1) cap).ownBlock.toList ++ rv.ownBlock.toList)) := fun k hk => by
          rcases hk with e | e
          · subst e; simp
          · simp [← e]
        have d7 := HDY.out.log lY (Hk7.out.mono (fun k hk _ => g7 k hk))
        have d9 := d7.log l7 (Hk9.out.mono (fun k hk _ => g9 k hk))
        have dE := d9.log l9 (kE.mono (fun k hk _ => by subst hk; simp))
        have kwc := (kwY.mono (fun b hb _ => hb.imp (fun h => h) (fun h => g7 b (.inl h)))).trans Hk7.out (S := fun b => b ∈ F ∨ b ∈ G) (fun b hb _ => Or.inr (g7 b hb))
        have kwd := kwc.trans Hk9.out (fun b hb hl => by
          rcases hb with e | e
          · exact Or.inr (g7 b (.inl e))
          · exact Or.inr (by rw [hHG.out]; simp [← e]))
        have kwe := kwd.trans kE (fun b hb _ => Or.inr (g7 b (.inl hb)))
        refine ⟨by rw [E1.out]; rfl, F', _, by rw [E1.out]; exact dE, by rw [E1.out]; exact ⟨_, _, _, hRe, rfl⟩, kwe, HF'.out, ?_⟩
        intro k hk
        simp only [Value.ownBlock, Option.toList_some, List.mem_cons, List.mem_append, List.not_mem_nil, or_false] at hk
        rcases hk with e | e | e
        · exact .inl (g7 k (.inl e))
        · rcases Hat7.out with h | h
          · exact .inl (g7 k (.inr (by rw [e, h])))
          · exact .inr (by have := kwY.size; omega)
        · rcases Hat9.out with h | h
          · exact .inl (by rw [hHG.out]; simp [h, e])
          · exact .inr (by have := kwc.size; omega)
  · have hb1 : ((st1.append (fileName L1.name fn) (frameB b)).2 != 0) = true := by simpa using hec
    have e1 : L.addFull st b = (L1, (st1.append (fileName L1.name fn) (frameB b)).1, (st1.append (fileName L1.name fn) (frameB b)).2) := by
      rw [E0.out]; unfold LogS.addNew; rw [Hfn1.out, if_neg hec]
    have E1 := Lib.hid e1
    clear e1
    generalize hee : (st1.append (fileName L1.name fn) (frameB b)).2 = ee at *
    have hb2 : (ee == 0) = false := by simpa using hec
    have Hee := Lib.hid hee
    clear hee hec hc5 hR5
    go_wp2_with fail
    go_ret
    exact ⟨by rw [E1.out]; rfl, F', G, by rw [E1.out]; exact HD5.out, by rw [E1.out]; exact HL5.out, HKw5.out.mono (fun b h _ => h.imp (fun h => h) (fun h => by rw [HG.out]; simp [h])), HF'.out, fun _ h => .inl h⟩
end Go.Proofs.YtbmejbmkaoekgaaGreatDoor
