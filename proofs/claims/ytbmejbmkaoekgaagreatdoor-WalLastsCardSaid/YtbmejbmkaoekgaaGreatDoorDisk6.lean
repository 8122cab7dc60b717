/- Spoil, Down. -/
import Derived.Test.YtbmejbmkaoekgaaGreatDoorDisk5
namespace Go.Proofs.YtbmejbmkaoekgaaGreatDoor
open Go Go.RowKit
set_option linter.unusedVariables false
set_option linter.unusedSimpArgs false

theorem bits_xor8 (a b : UInt8) : bits .xor .u8 (a.toNat : Int) (b.toNat : Int) = (((a ^^^ b).toNat : Nat) : Int) := by
  have ha := a.toNat_lt
  have hb := b.toNat_lt
  have ha' : a.toNat % 2 ^ 8 = a.toNat := Nat.mod_eq_of_lt ha
  have hb' : b.toNat % 2 ^ 8 = b.toNat := Nat.mod_eq_of_lt hb
  have hx : a.toNat ^^^ b.toNat < 256 := Nat.xor_lt_two_pow (n := 8) (by omega) (by omega)
  have e := BitVec.toNat_xor (BitVec.ofNat 8 a.toNat) (BitVec.ofNat 8 b.toNat)
  rw [BitVec.toNat_ofNat, BitVec.toNat_ofNat, ha', hb'] at e
  show IntKind.u8.wrap (((BitVec.ofInt 8 (a.toNat : Int)) ^^^ (BitVec.ofInt 8 (b.toNat : Int))).toNat : Int) = _
  rw [BitVec.ofInt_natCast, BitVec.ofInt_natCast, e, IntKind.wrap_u8, UInt8.toNat_xor]
  omega

theorem spoil_wf {st : DiskS} (h : st.WF) (l : List UInt8) (k : Nat) (x : UInt8) :
    ({ st with files := turnAt st.files l (fun f => { f with bytes := f.bytes.set k (f.bytes.getD k 0 ^^^ x) }) } : DiskS).WF :=
  sync_wf h l (fun f => { f with bytes := f.bytes.set k (f.bytes.getD k 0 ^^^ x) }) (fun _ => rfl) (fun y _ => by simp) (fun y hy => by
    have := h.safe y hy; simpa using this)

set_option maxHeartbeats 1000000 in
theorem spoil_go (w : World) (d : Nat) (st : DiskS) (F : List Nat) (l : List UInt8) (at_ : Int) (x : UInt8) (h : DiskAt w d st F) :
    Calls Tryz.prog 12 #[ptr d, sv l, .int .i64 at_, .int .u8 (x.toNat : Nat)] w (CallPost w d F (st.spoil l at_ x).1 (.int .i64 (st.spoil l at_ x).2)) := by
  have h' := Lib.hid h
  obtain ⟨fm, pv, pb, R, hR⟩ := h
  have HR := Lib.hid hR
  obtain ⟨-, hRf, hcd, -, hm, -⟩ := hR
  have c1 := hcd.cell 1
  simp only [List.getElem?_toArray, List.getElem?_cons_succ, List.getElem?_cons_zero] at c1
  have hlk := hm.look keyS uFiles uStr zPFile l
  have HRf := Lib.hid hRf
  clear hRf hcd hm
  cases hf : st.find l with
  | none =>
    have e1 := look_none HRf.out hf
    rw [e1] at hlk
    have E1 := Lib.hid (show st.spoil l at_ x = (st, 33) by unfold DiskS.spoil; rw [hf])
    clear e1 hf
    go_enter Tryz.func12, Tryz.ntmps12
    go_wp2_with fail
    go_ret
    exact ⟨by rw [E1.out]; rfl, F, by rw [E1.out]; exact h'.out, Keep.refl _ w, fun _ hb => .inl hb⟩
  | some f =>
    obtain ⟨p, hp, hn, e1⟩ := look_some HRf.out hf
    rw [e1] at hlk
    obtain ⟨⟨v, hc, hb⟩, hfm, hpF⟩ := HR.out.file hp
    obtain ⟨A, c, rfl⟩ := hb.form
    have hlen := h'.out.wf.len hfm
    have c0 := hc.cell 0
    have f0 := hc.free 0
    have hpl := hc.lt
    simp only [List.getElem?_toArray, List.getElem?_cons_succ, List.getElem?_cons_zero] at c0
    have Hc := Lib.hid hc
    have Hb := Lib.hid hb
    have Hp := Lib.hid hp
    have HpF := Lib.hid hpF
    have Hn := Lib.hid hn
    have Hf := Lib.hid hf
    clear hc hb hfm hpF hn e1 hp hf
    by_cases hlow : at_ < 0
    · have E1 := Lib.hid (show st.spoil l at_ x = (st, 1) by unfold DiskS.spoil; rw [Hf.out]; simp only; rw [if_pos (.inl hlow)])
      have g1 : decide (at_ < 0) = true := by simpa using hlow
      go_enter Tryz.func12, Tryz.ntmps12
      go_wp2_with fail
      go_ret
      exact ⟨by rw [E1.out]; rfl, F, by rw [E1.out]; exact h'.out, Keep.refl _ w, fun _ hb => .inl hb⟩
    · obtain ⟨k, rfl⟩ := Int.eq_ofNat_of_zero_le (show 0 ≤ at_ by omega)
      have g1 : decide ((k : Int) < 0) = false := by simp
      by_cases hhi : f.bytes.length ≤ k
      · have E1 := Lib.hid (show st.spoil l k x = (st, 1) by unfold DiskS.spoil; rw [Hf.out]; simp only; rw [if_pos (.inr (by omega))])
        have g2 : decide ((f.bytes.length : Int) ≤ (k : Int)) = true := by simp; omega
        clear hlow
        go_enter Tryz.func12, Tryz.ntmps12
        go_wp2_with fail
        go_ret
        exact ⟨by rw [E1.out]; rfl, F, by rw [E1.out]; exact h'.out, Keep.refl _ w, fun _ hb => .inl hb⟩
      · have E1 := Lib.hid (show st.spoil l k x = ({ st with files := turnAt st.files l (fun f => { f with bytes := f.bytes.set k (f.bytes.getD k 0 ^^^ x) }) }, 0) by unfold DiskS.spoil; rw [Hf.out]; simp only; rw [if_neg (by omega)]; rfl)
        have g2 : decide ((f.bytes.length : Int) ≤ (k : Int)) = false := by simp; omega
        have hkl : k < f.bytes.length := by omega
        clear hlow
        go_enter Tryz.func12, Tryz.ntmps12
        go_wp2_with fail
        refine (sclone_any _ f.bytes _ Hb.out (by omega)).mono ?_
        rintro e w1 ⟨v1, rfl, hown, hk1⟩
        obtain ⟨g, cap, cur, hv1, hbase, hg, hnc, hcm, hcs, htake⟩ : ∃ g cap cur, v1 = .slice (some ⟨g, 0, none⟩) f.bytes.length cap ∧ w.heap.size ≤ g ∧ w1.heap[g]? = some (.cells cur tByte (0, 0)) ∧ f.bytes.length ≤ cap ∧ cap ≤ maxLen ∧ cur.size = cap * 1 ∧ cur.toList.take (f.bytes.length * 1) = f.bytes.map bv := by
          rcases hown.2 with ⟨_, h0⟩ | h
          · omega
          · exact h
        subst hv1
        have hcg : Cells w1 g tByte cur := hg
        have hglt := hcg.lt
        have hcurk : cur[k]? = some (bv f.bytes[k]) := by
          have : (f.bytes.map bv)[k]? = some (bv f.bytes[k]) := by rw [List.getElem?_map, List.getElem?_eq_getElem hkl]; rfl
          rw [← htake, List.getElem?_take, if_pos (by omega)] at this
          simpa using this
        have cgk := hcg.cell k
        have fgk := hcg.free k
        rw [hcurk] at cgk
        unfold bv at cgk
        have Hc1 := Lib.hid (Hc.out.keep hk1 (fun f => f))
        have c0' := Hc1.out.cell 0
        have f0' := Hc1.out.free 0
        simp only [List.getElem?_toArray, List.getElem?_cons_succ, List.getElem?_cons_zero] at c0'
        have hgp : g ≠ p := hcg.ne Hc1.out (by decide)
        have Hcg := Lib.hid hcg
        have HX := Lib.hid (bits_xor8 f.bytes[k] x)
        have Htake := Lib.hid htake
        have Hcs := Lib.hid hcs
        have Hk1 := Lib.hid hk1
        have Hcm := Lib.hid hcm
        have Hnc := Lib.hid hnc
        have hbl := f.bytes[k].toNat_lt
        have hxl := x.toNat_lt
        clear hg hcg htake hcs hk1 hcurk hown c0 hlk hcm hnc
        go_wp2_with fail
        go_ret
        rw [HX.out]
        have hgd : f.bytes.getD k 0 = f.bytes[k] := by simp [List.getD, List.getElem?_eq_getElem hkl]
        have kp : Keep (· = p) w1 (w1.setCell ⟨p, 0, none⟩ (.slice (some ⟨g, 0, none⟩) f.bytes.length cap)) := (Keep.refl _ w1).setCell _ _ (fun _ => rfl)
        have kg : Keep (· = g) (w1.setCell ⟨p, 0, none⟩ (.slice (some ⟨g, 0, none⟩) f.bytes.length cap)) ((w1.setCell ⟨p, 0, none⟩ (.slice (some ⟨g, 0, none⟩) f.bytes.length cap)).setCell ⟨g, k, none⟩ (.int .u8 ((f.bytes[k] ^^^ x).toNat : Nat))) := (Keep.refl _ _).setCell _ _ (fun _ => rfl)
        have hcg2 := (Hcg.out.keep kp hgp).set k (.int .u8 ((f.bytes[k] ^^^ x).toNat : Nat))
        have hcp2 := (Hc1.out.set 0 (.slice (some ⟨g, 0, none⟩) f.bytes.length cap)).keep kg (fun e => hgp e.symm)
        have kk : Keep (· = p) w ((w1.setCell ⟨p, 0, none⟩ (.slice (some ⟨g, 0, none⟩) f.bytes.length cap)).setCell ⟨g, k, none⟩ (.int .u8 ((f.bytes[k] ^^^ x).toNat : Nat))) :=
          ((Hk1.out.mono (T := (· = p)) (fun _ f _ => f.elim)).trans kp (fun _ e _ => e)).setCell _ _ (fun hb => absurd hb (by simp; omega))
        have hbytes : Bytes ((w1.setCell ⟨p, 0, none⟩ (.slice (some ⟨g, 0, none⟩) f.bytes.length cap)).setCell ⟨g, k, none⟩ (.int .u8 ((f.bytes[k] ^^^ x).toNat : Nat))) tByte (.slice (some ⟨g, 0, none⟩) f.bytes.length cap) (f.bytes.set k (f.bytes.getD k 0 ^^^ x)) := by
          refine ⟨_, cap, by rw [List.length_set], by rw [List.length_set]; exact Hnc.out, Hcm.out, fun _ => ⟨g, 0, _, _, rfl, hcg2, fun i b hi => ?_⟩⟩
          have hil : i < f.bytes.length := by have := (List.getElem?_eq_some_iff.1 hi).1; simpa using this
          have hcuri : cur[i]? = some (bv f.bytes[i]) := by
            have : (f.bytes.map bv)[i]? = some (bv f.bytes[i]) := by rw [List.getElem?_map, List.getElem?_eq_getElem hil]; rfl
            rw [← Htake.out, List.getElem?_take, if_pos (by omega)] at this
            simpa using this
          rw [Nat.zero_add]
          by_cases hik : k = i
          · subst hik
            have hsz : k < cur.size := by have := Hcs.out; have := Hnc.out; omega
            rw [List.getElem?_set_self hil] at hi
            injection hi with hi
            subst hi
            simp only [Array.getElem?_setIfInBounds, if_pos, hsz, hgd, bv]
          · rw [List.getElem?_set_ne hik] at hi
            rw [List.getElem?_eq_getElem hil] at hi
            injection hi with hi
            subst hi
            rw [Array.getElem?_setIfInBounds, if_neg hik]
            exact hcuri
        have hfin := HR.out.turn Hp.out (fun f => { f with bytes := f.bytes.set k (f.bytes.getD k 0 ^^^ x) }) (fun _ => rfl) kk ⟨_, hcp2, hbytes⟩
          (st' := { st with files := turnAt st.files l (fun f => { f with bytes := f.bytes.set k (f.bytes.getD k 0 ^^^ x) }) }) (by rw [Hn.out]) rfl rfl rfl rfl (spoil_wf h'.out.wf l k x)
        exact ⟨by rw [E1.out]; rfl, F, by rw [E1.out]; exact hfin.at_, kk.mono (fun b hb _ => (show b = p from hb) ▸ HpF.out), fun _ hb => .inl hb⟩

theorem down_go (w : World) (d : Nat) (st : DiskS) (F : List Nat) (h : DiskAt w d st F) :
    Calls Tryz.prog 24 #[ptr d] w fun e w' => e = .returned (.bool st.down) ∧ w = w' := by
  obtain ⟨fm, pv, pb, R, hR⟩ := h
  obtain ⟨-, -, hcd, -, -, -⟩ := hR
  have c4 := hcd.cell 4
  simp only [List.getElem?_toArray, List.getElem?_cons_succ, List.getElem?_cons_zero] at c4
  clear hcd
  go_enter Tryz.func24, Tryz.ntmps24
  go_wp2_with fail
  go_ret
  exact ⟨rfl, rfl⟩
end Go.Proofs.YtbmejbmkaoekgaaGreatDoor
