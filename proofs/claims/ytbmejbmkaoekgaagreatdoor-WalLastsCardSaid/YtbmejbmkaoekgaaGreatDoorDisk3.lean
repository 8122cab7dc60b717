/- Read, Truncate, Remove. -/
import Derived.Test.YtbmejbmkaoekgaaGreatDoorDisk2
namespace Go.Proofs.YtbmejbmkaoekgaaGreatDoor
open Go Go.RowKit
set_option linter.unusedVariables false
set_option linter.unusedSimpArgs false

def ReadPost (w : World) (d : Nat) (F : List Nat) (st : DiskS) (l : List UInt8) (e : Ending) (w' : World) : Prop :=
  ∃ v, e = .returned (.tuple #[v, .int .i64 (st.read l).2.2]) ∧ Bytes w' tByte v (st.read l).2.1 ∧ DiskAt w' d (st.read l).1 F ∧ Keep (· ∈ F) w w'

set_option maxHeartbeats 1000000 in
theorem dread_go (w : World) (d : Nat) (st : DiskS) (F : List Nat) (l : List UInt8) (h : DiskAt w d st F) (hl : Plain l) (h0 : l ≠ []) (h1 : l.length ≤ 32) (hs : st.steps < 4611686018427387904) :
    Calls Tryz.prog 43 #[ptr d, sv l] w (ReadPost w d F st l) := by
  have h' := Lib.hid h
  have hw1 := Lib.hid (h.keep ((Keep.refl No w).alloc (.cells #[sv l] tStr)) (fun _ _ f => f) (NoBytes.no _ _))
  have hgn := Lib.hid (show w.heap.size ∉ F from fun m => absurd (h.lt m) (by omega))
  clear h
  go_enter Tryz.func43, Tryz.ntmps43
  go_wp2_with fail
  refine (there_go _ d st F l w.heap.size 0 1 hw1.out hl h0 h1 hs (by simp [World.cell?_alloc_new]) hgn.out (by simp)).mono ?_
  rintro e w1 ⟨hk, fm, pv, pb, R, hR, hh⟩
  have HK := Lib.hid (((Keep.refl (· ∈ F) w).alloc _).trans hk (fun _ hb _ => hb)); clear hk
  have HR := Lib.hid hR
  rcases hh with ⟨he, rfl⟩ | ⟨he, hf, rfl⟩ | ⟨he, f, p, hf, hp, rfl⟩
  · have e1 : st.read l = (st.step.1, [], st.step.2) := by unfold DiskS.read; rw [if_pos he]
    have E1 := Lib.hid e1
    have hb : (st.step.2 == 0) = false := by simpa using he
    have hb' : (st.step.2 != 0) = true := by simpa using he
    generalize hec : st.step.2 = ec at *
    have Hec := Lib.hid hec
    clear hec he e1 hR
    go_wp2_with fail
    go_ret2
    exact ⟨.slice none 0 0, by rw [E1.out]; rfl, by rw [E1.out]; exact Bytes.nil _ _, by rw [E1.out]; exact HR.out.at_, HK.out⟩
  · have e1 : st.read l = (st.step.1, [], 33) := by unfold DiskS.read; rw [if_neg (by simp [he]), hf]
    have E1 := Lib.hid e1
    clear he hf e1 hR
    go_wp2_with fail
    go_ret2
    exact ⟨.slice none 0 0, by rw [E1.out]; rfl, by rw [E1.out]; exact Bytes.nil _ _, by rw [E1.out]; exact HR.out.at_, HK.out⟩
  · have e1 : st.read l = (st.step.1, f.bytes, 0) := by unfold DiskS.read; rw [if_neg (by simp [he]), hf]
    have E1 := Lib.hid e1
    obtain ⟨⟨v, hc, hb⟩, hfm, hpF⟩ := hR.file hp
    obtain ⟨A, c, rfl⟩ := hb.form
    have hlen := hR.at_.wf.len hfm
    have c0 := hc.cell 0
    simp only [List.getElem?_toArray, List.getElem?_cons_succ, List.getElem?_cons_zero] at c0
    have Hb := Lib.hid hb
    clear he hf e1 hR hc hb hfm hpF hp
    go_wp2_with fail
    refine (sclone_any _ f.bytes _ Hb.out (by omega)).mono ?_
    rintro e w2 ⟨v2, rfl, hown, hk2⟩
    have Hown := Lib.hid hown; clear hown
    have HK2 := Lib.hid hk2; clear hk2
    go_wp2_with fail
    go_ret2
    exact ⟨v2, by rw [E1.out]; rfl, by rw [E1.out]; exact Bytes.own Hown.out (by show f.bytes.length ≤ maxLen; unfold maxLen; omega), by rw [E1.out]; exact HR.out.at_.keep HK2.out (fun _ _ f => f) (NoBytes.no _ _), HK.out.trans HK2.out (fun _ f => f.elim)⟩

theorem trunc_wf {st : DiskS} (h : st.WF) (l : List UInt8) (k : Nat) (f : FileS) (hf : st.find l = some f) (hk : k ≤ f.bytes.length) :
    ({ st with files := turnAt st.files l (fun f => { f with bytes := f.bytes.take k, safe := k }) } : DiskS).WF := by
  have hfs := find_spec hf
  refine ⟨h.room, ?_, by rw [turn_len]; exact h.many, ?_, by
    have := turn_names st.files l (fun f : FileS => { f with bytes := f.bytes.take k, safe := k }) (fun _ => rfl)
    unfold DiskS.names; rw [this]; exact h.names, turn_short h (fun _ => rfl)⟩
  · have := turn_used hfs.1 hfs.2 h.names (fun f => { f with bytes := f.bytes.take k, safe := k })
    have hu := h.used
    unfold DiskS.used at hu ⊢
    simp only [List.length_take] at this
    simp only
    omega
  · intro x hx
    rcases turn_mem hx with ⟨h1, _⟩ | ⟨y, hy, hn, rfl⟩
    · exact h.safe x h1
    · have : y = f := one_of_nodup h.names hy hfs.1 (hn.trans hfs.2.symm)
      subst this
      simp only [List.length_take]; omega

set_option maxHeartbeats 1000000 in
theorem dtrunc_go (w : World) (d : Nat) (st : DiskS) (F : List Nat) (l : List UInt8) (k : Nat) (h : DiskAt w d st F) (hl : Plain l) (h0 : l ≠ []) (h1 : l.length ≤ 32) (hs : st.steps < 4611686018427387904) (hk0 : k ≤ 4294967296) :
    Calls Tryz.prog 45 #[ptr d, sv l, .int .i64 k] w (CallPost w d F (st.truncate l k).1 (.int .i64 (st.truncate l k).2)) := by
  have h' := Lib.hid h
  have hw1 := Lib.hid (h.keep ((Keep.refl No w).alloc (.cells #[sv l] tStr)) (fun _ _ f => f) (NoBytes.no _ _))
  have hgn := Lib.hid (show w.heap.size ∉ F from fun m => absurd (h.lt m) (by omega))
  clear h
  go_enter Tryz.func45, Tryz.ntmps45
  go_wp2_with fail
  refine (there_go _ d st F l w.heap.size 0 1 hw1.out hl h0 h1 hs (by simp [World.cell?_alloc_new]) hgn.out (by simp)).mono ?_
  rintro e w1 ⟨hk, fm, pv, pb, R, hR, hh⟩
  have HK := Lib.hid (((Keep.refl (· ∈ F) w).alloc _).trans hk (fun _ hb _ => hb)); clear hk
  have HR := Lib.hid hR
  rcases hh with ⟨he, rfl⟩ | ⟨he, hf, rfl⟩ | ⟨he, f, p, hf, hp, rfl⟩
  · have e1 : st.truncate l k = st.step := by unfold DiskS.truncate; rw [if_pos he]
    have E1 := Lib.hid e1
    have hb : (st.step.2 == 0) = false := by simpa using he
    have hb' : (st.step.2 != 0) = true := by simpa using he
    generalize hec : st.step.2 = ec at *
    have Hec := Lib.hid hec
    clear hec he e1 hR
    go_wp2_with fail
    go_ret
    exact ⟨by rw [E1.out, Hec.out]; rfl, F, by rw [E1.out]; exact HR.out.at_, HK.out, fun _ hb => .inl hb⟩
  · have e1 : st.truncate l k = (st.step.1, 33) := by unfold DiskS.truncate; rw [if_neg (by simp [he]), hf]
    have E1 := Lib.hid e1
    clear he hf e1 hR
    go_wp2_with fail
    go_ret
    exact ⟨by rw [E1.out]; rfl, F, by rw [E1.out]; exact HR.out.at_, HK.out, fun _ hb => .inl hb⟩
  · obtain ⟨⟨v, hc, hb⟩, hfm, hpF⟩ := hR.file hp
    obtain ⟨A, c, rfl⟩ := hb.form
    have hlen := hR.at_.wf.len hfm
    have hcl : f.bytes.length ≤ c := by obtain ⟨A', c', e, hle, _⟩ := hb; injection e with _ _ e; omega
    have c0 := hc.cell 0
    have f0 := hc.free 0
    have c1 := hc.cell 1
    have f1 := hc.free 1
    simp only [List.getElem?_toArray, List.getElem?_cons_succ, List.getElem?_cons_zero] at c0 c1
    have hkn : decide ((k : Int) < 0) = false := by simp
    by_cases hkl : f.bytes.length < k
    · have e1 : st.truncate l k = (st.step.1, 1) := by unfold DiskS.truncate; rw [if_neg (by simp [he]), hf]; simp only; rw [if_pos hkl]
      have E1 := Lib.hid e1
      clear he hf e1 hR hc hb hfm hpF hp
      have hkd : decide ((f.bytes.length : Int) < (k : Int)) = true := by simp; omega
      go_wp2_with fail
      go_ret
      exact ⟨by rw [E1.out]; rfl, F, by rw [E1.out]; exact HR.out.at_, HK.out, fun _ hb => .inl hb⟩
    · have e1 : st.truncate l k = ({ st.step.1 with files := turnAt st.files l (fun f => { f with bytes := f.bytes.take k, safe := k }) }, 0) := by unfold DiskS.truncate; rw [if_neg (by simp [he]), hf]; simp only; rw [if_neg hkl]
      have E1 := Lib.hid e1
      have hkd : decide ((f.bytes.length : Int) < (k : Int)) = false := by simp; omega
      have hfn : f.name = l := (find_spec hf).2
      have hpart := Lib.hid (show Bytes w1 tByte (.slice A k c) (f.bytes.take k) by
        have := hb.part (i := 0) (j := k) (by omega) (by omega) A (fun _ => by cases A <;> rfl)
        simpa using this)
      have Hwf := Lib.hid (show ({ st.step.1 with files := turnAt st.files l (fun f => { f with bytes := f.bytes.take k, safe := k }) } : DiskS).WF by
        have := trunc_wf (step_wf h'.out.wf) l k f (by rw [step_find]; exact hf) (by omega)
        rw [step_files] at this; exact this)
      have Hp := Lib.hid hp
      have Hc := Lib.hid hc
      have HpF := Lib.hid hpF
      have Hfn := Lib.hid hfn
      have hpl := hc.lt
      have hck : (k : Int) ≤ (c : Int) := by omega
      clear he hf e1 hR hc hb hfm hpF hp hfn
      go_wp2_with fail
      refine (sclone_any _ (f.bytes.take k) _ hpart.out (by rw [List.length_take]; omega)).mono ?_
      rintro e w2 ⟨v2, rfl, hown, hk2⟩
      obtain ⟨A2, d2, hv2⟩ := (Bytes.own hown (by rw [List.length_take]; unfold maxLen; omega)).form
      have hlk : (f.bytes.take k).length = k := by rw [List.length_take]; omega
      rw [hlk] at hv2
      subst hv2
      have Hb2 := Lib.hid (Bytes.own hown (by rw [List.length_take]; unfold maxLen; omega))
      have Hc2 := Lib.hid (Hc.out.keep hk2 (fun f => f))
      have c0 := Hc2.out.cell 0
      have f0 := Hc2.out.free 0
      have c1 := Hc2.out.cell 1
      have f1 := Hc2.out.free 1
      simp only [List.getElem?_toArray, List.getElem?_cons_succ, List.getElem?_cons_zero] at c0 c1
      have HK2 := Lib.hid hk2; clear hk2 hown
      go_wp2_with fail
      go_ret
      have kk : Keep (· = p) w1 ((w2.setCell ⟨p, 0, none⟩ (.slice A2 k d2)).setCell ⟨p, 1, none⟩ (.int .i64 (k : Nat))) := ((HK2.out.mono (T := (· = p)) (fun _ f _ => f.elim)).setCell ⟨p, 0, none⟩ _ (fun _ => rfl)).setCell ⟨p, 1, none⟩ _ (fun _ => rfl)
      have kk2 : Keep (· = p) w2 ((w2.setCell ⟨p, 0, none⟩ (.slice A2 k d2)).setCell ⟨p, 1, none⟩ (.int .i64 (k : Nat))) := ((Keep.refl (· = p) w2).setCell ⟨p, 0, none⟩ _ (fun _ => rfl)).setCell ⟨p, 1, none⟩ _ (fun _ => rfl)
      have Hfin := HR.out.turn Hp.out (fun f => { f with bytes := f.bytes.take k, safe := k }) (fun _ => rfl) kk ⟨_, (Hc2.out.set 0 _).set 1 _, Hb2.out.keep kk2 (fun b hb => by subst hb; exact Hc2.out.noBytes (by decide))⟩
        (st' := { st.step.1 with files := turnAt st.files l (fun f => { f with bytes := f.bytes.take k, safe := k }) }) (by rw [Hfn.out, step_files]) rfl rfl rfl rfl Hwf.out
      exact ⟨by rw [E1.out]; rfl, F, by rw [E1.out]; exact Hfin.at_, HK.out.trans kk (fun b hb _ => (show b = p from hb) ▸ HpF.out), fun _ hb => .inl hb⟩
end Go.Proofs.YtbmejbmkaoekgaaGreatDoor
