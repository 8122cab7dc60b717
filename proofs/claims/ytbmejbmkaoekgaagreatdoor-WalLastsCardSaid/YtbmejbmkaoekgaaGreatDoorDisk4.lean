/- Remove, Append. -/
import Derived.Test.YtbmejbmkaoekgaaGreatDoorDisk3
import Derived.Maps.OwnSet
import Derived.Maps.RangeWalk
import Derived.Deep.LoopGhost
namespace Go.Proofs.YtbmejbmkaoekgaaGreatDoor
open Go Go.RowKit
set_option linter.unusedVariables false
set_option linter.unusedSimpArgs false

section
variable {w w' : World} {d : Nat} {st : DiskS} {F : List Nat} {fm : Nat} {pv : Value} {pb : List Nat} {R : List (FileS × Nat)}

theorem del_R (R : List (FileS × Nat)) (l : List UInt8) : delL (filesL R) l = filesL (R.filter (fun r => r.1.name ≠ l)) := by
  unfold delL filesL
  rw [List.filter_map]; rfl

theorem DiskR.remove (h : DiskR w d st F fm pv pb R) (l : List UInt8) (k : Keep (· = fm) w w') (hm : IsMap w' fm .string (fun l => sv l) (delL (filesL R) l))
    {st' : DiskS} (e1 : st'.files = st.files.filter (fun f => f.name ≠ l)) (e2 : st'.room = st.room) (e3 : st'.plan = st.plan) (e4 : st'.steps = st.steps) (e5 : st'.down = st.down) :
    DiskR w' d st' (d :: fm :: (pb ++ (R.filter (fun r => r.1.name ≠ l)).map (·.2))) fm pv pb (R.filter (fun r => r.1.name ≠ l)) := by
  obtain ⟨h1, h2, h3, h4, h5, h6, h7, h8, h9⟩ := h
  have hno : NoBytes w tByte (· = fm) := fun b hb => by subst hb; exact fun c fz => h5.noBytes _ c fz
  have hnd := h7
  rw [h1] at hnd
  have hsub : (R.filter (fun r => decide (r.1.name ≠ l))).map (·.2) |>.Sublist (R.map (·.2)) := List.filter_sublist.map _
  have hnd' := hnd
  simp only [List.nodup_cons, List.mem_cons, List.mem_append, not_or, List.nodup_append] at hnd
  refine ⟨rfl, ?_, ?_, ?_, ?_, ?_, ?_, ?_, ?_⟩
  · rw [e1, ← h2, List.filter_map]; rfl
  · rw [e2, e4, e5]; exact h3.keep k (fun e => hnd.1.1 e)
  · rw [e3]; exact h4.keep k (fun b hb e => by subst e; exact hnd.2.1.1 hb)
  · rw [← del_R]; exact hm
  · intro r hr
    have hr' := (List.mem_filter.1 hr).1
    exact (h6 r hr').keep k (fun e => hnd.2.1.2 (e ▸ List.mem_map.2 ⟨r, hr', rfl⟩)) hno
  · exact hnd'.sublist ((hsub.append_left pb).cons_cons fm |>.cons_cons d)
  · intro b hb
    refine h8 b ?_
    rw [h1]
    exact ((hsub.append_left pb).cons_cons fm |>.cons_cons d).subset hb
  · refine ⟨by rw [e2]; exact h9.room, ?_, ?_, ?_, ?_, ?_⟩
    · have : ∀ m : List FileS, usedBy (m.filter (fun f => decide (f.name ≠ l))) ≤ usedBy m := by
        intro m
        induction m with
        | nil => exact Nat.le_refl _
        | cons x m ih =>
          rw [List.filter_cons]
          split
          · simp only [usedBy, List.map_cons, List.sum_cons] at ih ⊢; omega
          · simp only [usedBy, List.map_cons, List.sum_cons] at ih ⊢; omega
      unfold DiskS.used
      rw [e1, e2]
      exact Nat.le_trans (this _) h9.used
    · rw [e1]; exact Nat.le_trans (List.length_filter_le _ _) h9.many
    · intro f hf; rw [e1] at hf; exact h9.safe f (List.mem_filter.1 hf).1
    · unfold DiskS.names; rw [e1]; exact h9.names.sublist (List.filter_sublist.map _)
    · intro f hf; rw [e1] at hf; exact h9.short f (List.mem_filter.1 hf).1
end

set_option maxHeartbeats 1000000 in
theorem dremove_go (w : World) (d : Nat) (st : DiskS) (F : List Nat) (l : List UInt8) (h : DiskAt w d st F) (hl : Plain l) (h0 : l ≠ []) (h1 : l.length ≤ 32) (hs : st.steps < 4611686018427387904) :
    Calls Tryz.prog 34 #[ptr d, sv l] w (CallPost w d F (st.remove l).1 (.int .i64 (st.remove l).2)) := by
  have h' := Lib.hid h
  have hw1 := Lib.hid (h.keep ((Keep.refl No w).alloc (.cells #[sv l] tStr)) (fun _ _ f => f) (NoBytes.no _ _))
  have hgn := Lib.hid (show w.heap.size ∉ F from fun m => absurd (h.lt m) (by omega))
  clear h
  go_enter Tryz.func34, Tryz.ntmps34
  go_wp2_with fail
  refine (there_go _ d st F l w.heap.size 0 1 hw1.out hl h0 h1 hs (by simp [World.cell?_alloc_new]) hgn.out (by simp)).mono ?_
  rintro e w1 ⟨hk, fm, pv, pb, R, hR, hh⟩
  have HK := Lib.hid (((Keep.refl (· ∈ F) w).alloc _).trans hk (fun _ hb _ => hb)); clear hk
  have HR := Lib.hid hR
  rcases hh with ⟨he, rfl⟩ | ⟨he, hf, rfl⟩ | ⟨he, f, p, hf, hp, rfl⟩
  · have e1 : st.remove l = st.step := by unfold DiskS.remove; rw [if_pos he]
    have E1 := Lib.hid e1
    have hb : (st.step.2 == 0) = false := by simpa using he
    generalize hec : st.step.2 = ec at *
    have Hec := Lib.hid hec
    clear hec he e1 hR
    go_wp2_with fail
    go_ret
    exact ⟨by rw [E1.out, Hec.out]; rfl, F, by rw [E1.out]; exact HR.out.at_, HK.out, fun _ hb => .inl hb⟩
  · have e1 : st.remove l = (st.step.1, 33) := by unfold DiskS.remove; rw [if_neg (by simp [he]), hf]
    have E1 := Lib.hid e1
    clear he hf e1 hR
    go_wp2_with fail
    go_ret
    exact ⟨by rw [E1.out]; rfl, F, by rw [E1.out]; exact HR.out.at_, HK.out, fun _ hb => .inl hb⟩
  · have e1 : st.remove l = ({ st.step.1 with files := st.files.filter (fun f => f.name ≠ l) }, 0) := by unfold DiskS.remove; rw [if_neg (by simp [he]), hf]
    have E1 := Lib.hid e1
    obtain ⟨hRF, hRf, hcd, _, hm, _⟩ := hR
    have c1 := hcd.cell 1
    simp only [List.getElem?_toArray, List.getElem?_cons_succ, List.getElem?_cons_zero] at c1
    have Hm := Lib.hid hm
    have HRF := Lib.hid hRF
    clear he hf e1 hRF hRf hcd hm hp
    go_wp2_with (at_delete; refine wpList_delete_is rfl _ _ 55 9 73 rfl keyS uFiles uStr Hm.out l rfl rfl ?_)
    intro w2 hm2 hk2
    have Hm2 := Lib.hid hm2
    have Hk2 := Lib.hid hk2
    clear hm2 hk2
    go_wp2_with fail
    go_ret
    have Hfin := HR.out.remove l Hk2.out Hm2.out (st' := { st.step.1 with files := st.files.filter (fun f => f.name ≠ l) }) (by rw [step_files]) rfl rfl rfl rfl
    refine ⟨by rw [E1.out]; rfl, _, by rw [E1.out]; exact Hfin.at_, HK.out.trans Hk2.out (fun b hb _ => by rw [show b = fm from hb, HRF.out]; simp), fun b hb => .inl ?_⟩
    rw [HRF.out]
    exact (((List.filter_sublist.map _).append_left pb).cons_cons fm |>.cons_cons d).subset hb

/-- How many bytes the file of a map's entry has. -/
def wt (R : List (FileS × Nat)) (q : List UInt8 × Value) : Nat := ((R.find? (fun r => r.1.name = q.1)).map (fun r => r.1.bytes.length)).getD 0
def wts (R : List (FileS × Nat)) (l : List (List UInt8 × Value)) : Nat := (l.map (wt R)).sum

theorem wts_perm (R : List (FileS × Nat)) {l m : List (List UInt8 × Value)} (h : l.Perm m) : wts R l = wts R m := (h.map _).sum_nat
theorem wt_mem {R : List (FileS × Nat)} (hn : (R.map (fun r => r.1.name)).Nodup) {r : FileS × Nat} (hr : r ∈ R) (v : Value) : wt R (r.1.name, v) = r.1.bytes.length := by
  unfold wt
  have : R.find? (fun q => decide (q.1.name = r.1.name)) = some r := by
    cases hf : R.find? (fun q => decide (q.1.name = r.1.name)) with
    | none =>
      have := List.find?_eq_none.1 hf r hr
      simp at this
    | some q =>
      have h1 := List.mem_of_find?_eq_some hf
      have h2 : q.1.name = r.1.name := by simpa using List.find?_some hf
      rw [one_of_nodup hn h1 hr h2]
  simp only at this ⊢
  rw [this]; rfl
theorem wts_all {R : List (FileS × Nat)} (hn : (R.map (fun r => r.1.name)).Nodup) : wts R (filesL R) = usedBy (R.map (·.1)) := by
  unfold wts filesL usedBy
  rw [List.map_map, List.map_map]
  congr 1
  apply List.map_congr_left
  intro r hr
  exact wt_mem hn hr _

theorem append_wf_new {st : DiskS} (h : st.WF) (l b : List UInt8) (hf : st.find l = none) (hm : st.files.length < 16) (hb : b.length ≤ st.room - st.used) (hl : l.length ≤ 32) :
    ({ st with files := st.files ++ [⟨l, b, 0⟩] } : DiskS).WF := by
  have hu := h.used
  refine ⟨h.room, ?_, by simp; omega, ?_, ?_, ?_⟩
  · unfold DiskS.used at *
    rw [usedBy_append]
    simp only [usedBy, List.map_cons, List.map_nil, List.sum_cons, List.sum_nil] at *
    omega
  · intro f hf'
    rcases List.mem_append.1 hf' with hf' | hf'
    · exact h.safe f hf'
    · simp at hf'; subst hf'; exact Nat.zero_le _
  · unfold DiskS.names
    rw [List.map_append]
    refine List.nodup_append.2 ⟨h.names, by simp, ?_⟩
    intro x hx y hy
    simp at hy; subst hy
    obtain ⟨f, hf1, rfl⟩ := List.mem_map.1 hx
    exact find_none hf f hf1
  · intro f hf'
    rcases List.mem_append.1 hf' with hf' | hf'
    · exact h.short f hf'
    · simp at hf'; subst hf'; exact hl

theorem append_wf_old {st : DiskS} (h : st.WF) (l b : List UInt8) (f : FileS) (hf : st.find l = some f) (hb : b.length ≤ st.room - st.used) :
    ({ st with files := turnAt st.files l (fun f => { f with bytes := f.bytes ++ b }) } : DiskS).WF := by
  have hu := h.used
  have hfs := find_spec hf
  refine ⟨h.room, ?_, by rw [turn_len]; exact h.many, ?_, ?_, turn_short h (fun _ => rfl)⟩
  · have := turn_used hfs.1 hfs.2 h.names (fun f => { f with bytes := f.bytes ++ b })
    unfold DiskS.used at hu hb ⊢
    simp only [List.length_append] at this
    simp only
    omega
  · intro x hx
    rcases turn_mem hx with ⟨h1, _⟩ | ⟨y, hy, _, rfl⟩
    · exact h.safe x h1
    · have := h.safe y hy
      simp only [List.length_append]; omega
  · have := turn_names st.files l (fun f : FileS => { f with bytes := f.bytes ++ b }) (fun _ => rfl)
    unfold DiskS.names; rw [this]; exact h.names

section
variable {w w' : World} {d : Nat} {st : DiskS} {F : List Nat} {fm : Nat} {pv : Value} {pb : List Nat} {R : List (FileS × Nat)}
theorem DiskR.names (h : DiskR w d st F fm pv pb R) : (R.map (fun r => r.1.name)).Nodup := by
  have := h.at_.wf.names
  obtain ⟨_, h2, _⟩ := h
  unfold DiskS.names at this
  rw [← h2, List.map_map] at this
  exact this
theorem DiskR.keep {S : Nat → Prop} (h : DiskR w d st F fm pv pb R) (k : Keep S w w') (hF : ∀ b ∈ F, ¬ S b) (hn : NoBytes w tByte S) : DiskR w' d st F fm pv pb R := by
  obtain ⟨rfl, h2, h3, h4, h5, h6, h7, h8, h9⟩ := h
  refine ⟨rfl, h2, h3.keep k (hF d (by simp)), h4.keep k (fun b hb => hF b (by simp [hb])), h5.keep k (hF fm (by simp)), fun r hr => (h6 r hr).keep k (hF r.2 ?_) hn, h7, h8, h9⟩
  exact List.mem_cons_of_mem _ (List.mem_cons_of_mem _ (List.mem_append_right _ (List.mem_map.2 ⟨r, hr, rfl⟩)))
end

theorem putL_new {R : List (FileS × Nat)} {st : DiskS} (h : R.map (·.1) = st.files) {l : List UInt8} (hf : st.find l = none) (v : Value) : putL (filesL R) l v = filesL R ++ [(l, v)] := by
  unfold putL
  rw [if_neg]
  intro hm
  obtain ⟨q, hq, rfl⟩ := List.mem_map.1 hm
  obtain ⟨r, hr, rfl⟩ := List.mem_map.1 hq
  exact find_none hf r.1 (by rw [← h]; exact List.mem_map.2 ⟨r, hr, rfl⟩) rfl

theorem DiskR.add {w w' : World} {d : Nat} {st : DiskS} {F : List Nat} {fm : Nat} {pv : Value} {pb : List Nat} {R : List (FileS × Nat)} (h : DiskR w d st F fm pv pb R) {p : Nat} (hp : w.heap.size ≤ p) (hng : NG ≤ w.heap.size) (f : FileS)
    (k : Keep (· = fm) w w') (hm : IsMap w' fm .string (fun l => sv l) (putL (filesL R) f.name (ptr p))) (hf : FileAt w' p f) (hn : st.find f.name = none)
    {st' : DiskS} (e1 : st'.files = st.files ++ [f]) (e3 : st'.room = st.room) (e4 : st'.plan = st.plan) (e5 : st'.steps = st.steps) (e6 : st'.down = st.down) (hwf : st'.WF) :
    DiskR w' d st' (d :: fm :: (pb ++ (R ++ [(f, p)]).map (·.2))) fm pv pb (R ++ [(f, p)]) := by
  have hall := h.at_.all
  obtain ⟨h1, h2, h3, h4, h5, h6, h7, h8, h9⟩ := h
  have hpF : p ∉ F := fun m => by have := (hall p m).1; omega
  have hno : NoBytes w tByte (· = fm) := fun b hb => by subst hb; exact fun c fz => h5.noBytes _ c fz
  have hnd := h7
  rw [h1] at hnd
  have hnd0 := hnd
  simp only [List.nodup_cons, List.mem_cons, List.mem_append, not_or, List.nodup_append] at hnd
  have eF : d :: fm :: (pb ++ (R ++ [(f, p)]).map (·.2)) = F ++ [p] := by rw [h1]; simp
  refine ⟨rfl, by rw [List.map_append, h2, e1]; rfl, ?_, ?_, ?_, ?_, ?_, ?_, hwf⟩
  · rw [e3, e5, e6]; exact h3.keep k (fun e => hnd.1.1 e)
  · rw [e4]; exact h4.keep k (fun b hb e => by subst e; exact hnd.2.1.1 hb)
  · rw [putL_new h2 hn] at hm
    have : filesL (R ++ [(f, p)]) = filesL R ++ [(f.name, ptr p)] := by simp [filesL]
    rw [this]; exact hm
  · intro r hr
    rcases List.mem_append.1 hr with hr | hr
    · exact (h6 r hr).keep k (fun e => hnd.2.1.2 (e ▸ List.mem_map.2 ⟨r, hr, rfl⟩)) hno
    · simp at hr; subst hr; exact hf
  · rw [eF]
    exact List.nodup_append.2 ⟨h7, by simp, fun x hx y hy => by simp at hy; subst hy; exact fun e => hpF (e ▸ hx)⟩
  · rw [eF]
    intro b hb
    rcases List.mem_append.1 hb with hb | hb
    · exact h8 b hb
    · simp at hb; subst hb; omega

set_option maxRecDepth 100000 in
set_option maxHeartbeats 1000000 in
theorem dappend_go (w : World) (d : Nat) (st : DiskS) (F : List Nat) (l b : List UInt8) (v : Value) (h : DiskAt w d st F) (hl : Plain l) (h0 : l ≠ []) (h1 : l.length ≤ 32) (hs : st.steps < 4611686018427387904)
    (hv : Bytes w tByte v b) (hbl : b.length ≤ 4294967296) (hng : NG ≤ w.heap.size) :
    Calls Tryz.prog 28 #[ptr d, sv l, v] w (CallPost w d F (st.append l b).1 (.int .i64 (st.append l b).2)) := by
  have h' := Lib.hid h
  have hw1 := Lib.hid (h.keep ((Keep.refl No w).alloc (.cells #[sv l] tStr)) (fun _ _ f => f) (NoBytes.no _ _))
  have hgn := Lib.hid (show w.heap.size ∉ F from fun m => absurd (h.lt m) (by omega))
  obtain ⟨A, c, rfl⟩ := hv.form
  have Hv := Lib.hid hv
  clear h hv
  go_enter Tryz.func28, Tryz.ntmps28
  go_wp2_with fail
  refine (step_go _ d st F l w.heap.size 0 1 hw1.out hl h0 h1 hs (by simp [World.cell?_alloc_new])).mono ?_
  rintro e w1 ⟨rfl, hd1, hk1⟩
  have HK := Lib.hid (((Keep.refl (· ∈ F) w).alloc _).trans hk1 (fun _ hb _ => hb)); clear hk1
  by_cases he : st.step.2 = 0
  · rw [he]
    have He := Lib.hid he; clear he
    obtain ⟨fm, pv, pb, R, hR⟩ := hd1
    have HR := Lib.hid hR
    have hnames := hR.names
    have hfng := hR.at_.ng
    obtain ⟨hRF, hRf, hcd, -, hm, -⟩ := hR
    have c0 := hcd.cell 0
    have c1 := hcd.cell 1
    simp only [List.getElem?_toArray, List.getElem?_cons_succ, List.getElem?_cons_zero] at c0 c1
    have hlk := hm.look keyS uFiles uStr zPFile l
    have Hm := Lib.hid hm
    have HRf := Lib.hid hRf
    have HRF := Lib.hid hRF
    have Hnames := Lib.hid hnames
    clear hRF hRf hcd hm hnames hfng
    generalize hpv : (getL (filesL R) l).getD (.pointer none) = pf at *
    have Hpf := Lib.hid hpv; clear hpv
    go_wp2_with (at_range; refine wpList_range_is rfl _ 55 rfl 9 73 uFiles Hm.out rfl ?_)
    intro w2 hit hk2
    have Hk2 := Lib.hid hk2
    have Hit := Lib.hid hit
    clear hit hk2
    go_wp2_with fail
    have hroom : st.step.1.room = st.room := step_room st
    have hwf := h'.out.wf
    have hr1 := hwf.room
    have hu1 := hwf.used
    have Hwf := Lib.hid hwf; clear hwf
    rw [hroom]
    clear hroom
    generalize hN : st.used = U at *
    have HN := Lib.hid hN; clear hN
    generalize hM : st.room = M at *
    have HM := Lib.hid hM; clear hM
    have hall : wts R (filesL R) = U := by rw [wts_all Hnames.out, HRf.out, step_files, ← HN.out]; rfl
    have Hall := Lib.hid hall; clear hall
    have HR2 := Lib.hid (HR.out.keep Hk2.out (fun _ _ f => f) (NoBytes.no _ _))
    have hitF : Hid (w1.heap.size ∉ F) := Lib.hid (fun m => absurd (HR.out.at_.lt m) (by omega))
    go_loopg [9] (filesL R).length (fun k x wr => ∃ rest, k = rest.length ∧ Iter wr w1.heap.size fm .string (fun l => sv l) (filesL R) rest ∧ x = .int .i64 ((M - U + wts R rest : Nat) : Int) ∧ wts R rest ≤ U ∧ (∀ q ∈ rest, q ∈ filesL R) ∧ Keep (· = w1.heap.size) w2 wr)
    case atStart => exact ⟨filesL R, rfl, Hit.out, by rw [Hall.out, Nat.sub_add_cancel hu1], by rw [Hall.out]; exact Nat.le_refl _, fun _ h => h, Keep.refl _ _⟩
    case round =>
      obtain ⟨rest, rfl, hit, rfl, hru, hsub, hkw⟩ := hrel
      have Hkw := Lib.hid hkw; clear hkw
      have HRw := Lib.hid (HR2.out.keep Hkw.out (fun b hb e => hitF.out ((show b = w1.heap.size from e) ▸ hb)) (fun b hb c fz e => by
        obtain ⟨_, _, _, _, _, _, _, h4, _⟩ := Hit.out
        rw [show b = w1.heap.size from hb, h4] at e; cases e))
      have Hsub := Lib.hid hsub; clear hsub
      have Hit1 := Lib.hid hit; clear hit
      generalize hW : wts R rest = W at *
      have HW := Lib.hid hW; clear hW
      go_wp2_with (at_next; refine wpList_next_is rfl _ rfl keyS Hit1.out rfl ?over ?next)
      case next =>
        intro q1 q2 rest' w3 hperm hit3 hentry hk3
        have hq := Hsub.out (q1, q2) (hperm.mem_iff.2 (.head _))
        obtain ⟨r, hr, hqe⟩ := List.mem_map.1 hq
        injection hqe with e1 e2
        subst e1; subst e2
        have HRw3 := Lib.hid (HRw.out.keep hk3 (fun b hb e => hitF.out ((show b = w1.heap.size from e) ▸ hb)) (fun b hb c fz e => by
          obtain ⟨_, _, _, _, _, _, _, h4, _⟩ := Hit1.out
          rw [show b = w1.heap.size from hb, h4] at e; cases e))
        obtain ⟨⟨v, hc, hb⟩, hfm, _⟩ := HRw3.out.file (f := r.1) (p := r.2) hr
        obtain ⟨A', c', rfl⟩ := hb.form
        have hlen := HRw3.out.at_.wf.len hfm
        have c0' := hc.cell 0
        simp only [List.getElem?_toArray, List.getElem?_cons_succ, List.getElem?_cons_zero] at c0'
        have hw := wts_perm R hperm
        have hw2 : wts R ((r.1.name, ptr r.2) :: rest') = r.1.bytes.length + wts R rest' := by
          show wt R _ + wts R rest' = _
          rw [wt_mem Hnames.out hr]
        have Hw := Lib.hid (show W = r.1.bytes.length + wts R rest' from HW.out.symm.trans (hw.trans hw2))
        have hwle : r.1.bytes.length + wts R rest' ≤ U := by rw [← Hw.out]; exact hru
        have hge : r.1.bytes.length ≤ M - U + W := by rw [Hw.out]; omega
        have hmW : M - U + W ≤ 1073741824 := by omega
        have Hpl := Lib.hid hperm.length_eq
        have Hsub3 : Hid (∀ q ∈ rest', q ∈ filesL R) := Lib.hid (fun q hq => Hsub.out q (hperm.mem_iff.2 (.tail _ hq)))
        have Hit3 := Lib.hid hit3
        have Hk3 := Lib.hid (Hkw.out.trans hk3 (fun _ h _ => h))
        have Hle3 := Lib.hid hwle
        clear hw hw2 hperm hit3 hk3 hc hb hfm hq hr
        generalize r.1.bytes.length = n at *
        go_wp2_with fail
        go_roundg rest'.length
        case measure => have := Hpl.out; simp at this; omega
        case rel =>
          refine ⟨rest', rfl, Hit3.out, ?_, by have := Hle3.out; omega, Hsub3.out, Hk3.out⟩
          rw [Hw.out]
          have := Hle3.out
          congr 1
          omega
      case over =>
        intro hr0
        have hW0 : W = 0 := by rw [← HW.out, hr0]; rfl
        subst hW0
        clear hr0 hru
        have hz0 : ((M - U : Nat) : Int) + ((0 : Nat) : Int) = ((M - U : Nat) : Int) := by omega
        rw [hz0]
        clear hz0
        have hlen := Hit1.out.map.len (P := Tryz.prog) uFiles (ty := 3)
        have hll : (filesL R).length = st.files.length := by unfold filesL; rw [List.length_map, ← step_files st, ← HRf.out, List.length_map]
        rw [hll] at hlen
        clear hll
        have hcw := HRw.out
        obtain ⟨-, -, hcd2, -, hm2, -⟩ := hcw
        have hdlt := hcd2.lt
        have hfmlt := hm2.lt
        have c1w := hcd2.cell 1
        simp only [List.getElem?_toArray, List.getElem?_cons_succ, List.getElem?_cons_zero] at c1w
        have Hm2 := Lib.hid hm2
        have hmany := Hwf.out.many
        have HK2 := Lib.hid (HK.out.trans (T := fun b => b = w1.heap.size) (show Keep (fun b => b = w1.heap.size) w1 wr from (Hk2.out.mono (fun _ f _ => f.elim)).trans Hkw.out (fun _ e _ => e)) (fun b e hb => absurd HK.out.size (by subst e; omega)))
        clear hcd2 hm2 hlk c0 c1
        generalize hZ : M - U = Z at *
        have HZ := Lib.hid hZ; clear hZ
        have hZle : Z ≤ 1073741824 := by rw [← HZ.out]; omega
        clear hr1 hu1
        cases hf : st.find l with
        | none =>
          have Hf := Lib.hid hf; clear hf
          have hpf : pf = .pointer none := by rw [← Hpf.out]; exact look_none HRf.out (by rw [step_find]; exact Hf.out)
          subst hpf
          by_cases h16 : 16 ≤ st.files.length
          · have g16 : decide ((16 : Int) ≤ (st.files.length : Int)) = true := by simp; omega
            go_wp2_with fail
            go_ret
            have e1 : st.append l b = (st.step.1, 3) := by unfold DiskS.append; rw [if_neg (by simp [He.out]), Hf.out]; simp only; rw [if_pos h16]
            exact ⟨by rw [e1]; rfl, F, by rw [e1]; exact HRw.out.at_, HK2.out, fun _ hb => .inl hb⟩
          · have g16 : decide ((16 : Int) ≤ (st.files.length : Int)) = false := by simp; omega
            by_cases hfit : Z < b.length
            · have gf : decide ((Z : Int) < (b.length : Int)) = true := by simp; omega
              go_wp2_with fail
              go_ret
              have e1 : st.append l b = (st.step.1, 30) := by unfold DiskS.append; rw [if_neg (by simp [He.out]), Hf.out]; simp only; rw [if_neg h16, HM.out, HN.out, HZ.out, if_pos hfit]
              exact ⟨by rw [e1]; rfl, F, by rw [e1]; exact HRw.out.at_, HK2.out, fun _ hb => .inl hb⟩
            · have gf : decide ((Z : Int) < (b.length : Int)) = false := by simp; omega
              go_wp2_with (at_mapUpdate; go_loud (refine wpList_mapUpdate_is rfl _ _ _ 55 rfl 9 73 keyS uFiles uStr (Hm2.out.keep ((Keep.refl No wr).alloc _) (fun f => f)) l _ rfl rfl rfl ?_))
              intro w4 hm4 hk4
              have Hm4 := Lib.hid hm4
              have kall : Keep (· = fm) wr w4 := ((Keep.refl (· = fm) wr).alloc _).trans hk4 (fun _ h _ => h)
              have hcp : Cells w4 wr.heap.size tFile #[.slice none 0 0, .int .i64 0] := (Cells.new wr tFile _).keep hk4 (fun e => by have : wr.heap.size = fm := e; omega)
              have c0p := hcp.cell 0
              have f0p := hcp.free 0
              simp only [List.getElem?_toArray, List.getElem?_cons_succ, List.getElem?_cons_zero] at c0p
              have hplt := hcp.lt
              have Hcp := Lib.hid hcp
              have Hkall := Lib.hid kall
              have Hb4 := Lib.hid ((Hv.out.keep HK2.out h'.out.noBytes).keep kall (fun b hb => by subst hb; exact fun c fz => Hm2.out.noBytes _ c fz))
              have hl2 := Lib.hid (BList.lit (w := w4) [.slice none 0 0, .slice A b.length c] [[], b] 2 rfl rfl (by simp [maxLen]) (by
                intro i u x hu hx
                match i with
                | 0 => cases hu; cases hx; exact ⟨tByte, Bytes.nil _ _⟩
                | 1 => cases hu; cases hx; exact ⟨_, Hb4.out⟩
                | n + 2 => simp at hu))
              clear hm4 hk4 kall hcp hlen c1w
              go_wp2_with fail
              refine (concat_any _ [[], b] _ hl2.out (by simp; omega)).mono ?_
              rintro e w5 ⟨v5, rfl, hown, hk5⟩
              obtain ⟨A5, d5, hv5⟩ := (Bytes.own hown (by simp; unfold maxLen; omega)).form
              have e5 : ([[], b] : List (List UInt8)).flatten = b := by simp
              rw [e5] at hv5 hown
              subst hv5
              have Hown := Lib.hid hown; clear hown e5
              have Hcp5 := Lib.hid ((Hcp.out.alloc (.cells #[.slice none 0 0, .slice A b.length c] tBytes)).keep hk5 (fun f => f))
              have c0q := Hcp5.out.cell 0
              have f0q := Hcp5.out.free 0
              simp only [List.getElem?_toArray, List.getElem?_cons_succ, List.getElem?_cons_zero] at c0q
              have Hk5 := Lib.hid hk5; clear hk5
              go_wp2_with fail
              go_ret
              have e1 : st.append l b = ({ st.step.1 with files := st.files ++ [⟨l, b, 0⟩] }, 0) := by unfold DiskS.append; rw [if_neg (by simp [He.out]), Hf.out]; simp only; rw [if_neg h16, HM.out, HN.out, HZ.out, if_neg hfit]
              have kl : Keep No w4 w5 := ((Keep.refl No w4).alloc _).trans Hk5.out (fun _ f => f.elim)
              have kp : Keep (· = wr.heap.size) w5 (w5.setCell ⟨wr.heap.size, 0, none⟩ (.slice A5 b.length d5)) := (Keep.refl _ w5).setCell _ _ (fun _ => rfl)
              have kfin : Keep (· = fm) wr (w5.setCell ⟨wr.heap.size, 0, none⟩ (.slice A5 b.length d5)) := (Hkall.out.trans kl (fun _ f => f.elim)).setCell _ _ (fun hb => absurd hb (by simp))
              have hmf : IsMap (w5.setCell ⟨wr.heap.size, 0, none⟩ (.slice A5 b.length d5)) fm .string (fun l => sv l) (putL (filesL R) l (ptr wr.heap.size)) := (Hm4.out.keep kl (fun f => f)).keep kp (fun e => by have : fm = wr.heap.size := e; omega)
              have hff : FileAt (w5.setCell ⟨wr.heap.size, 0, none⟩ (.slice A5 b.length d5)) wr.heap.size ⟨l, b, 0⟩ := ⟨_, Hcp5.out.set 0 _, (Bytes.own Hown.out (by unfold maxLen; omega)).keep kp (fun k hk => by subst hk; exact Hcp5.out.noBytes (by decide))⟩
              have hwf' : ({ st.step.1 with files := st.files ++ [⟨l, b, 0⟩] } : DiskS).WF := by
                have := append_wf_new (step_wf Hwf.out) l b (by rw [step_find]; exact Hf.out) (by rw [step_files]; omega) (by
                  unfold DiskS.used; rw [step_room, step_files]
                  show b.length ≤ st.room - st.used
                  rw [HM.out, HN.out, HZ.out]; omega) h1
                rw [step_files] at this; exact this
              have hsz : NG ≤ wr.heap.size := Nat.le_trans hng HK2.out.size
              have hfin := HRw.out.add (Nat.le_refl _) hsz ⟨l, b, 0⟩ kfin hmf hff (by rw [step_find]; exact Hf.out) (st' := { st.step.1 with files := st.files ++ [⟨l, b, 0⟩] }) (by rw [step_files]) rfl rfl rfl rfl hwf'
              refine ⟨by rw [e1]; rfl, _, by rw [e1]; exact hfin.at_, HK2.out.trans kfin (fun k hk _ => by rw [show k = fm from hk, HRF.out]; simp), fun k hk => ?_⟩
              rw [HRF.out]
              simp only [List.map_append, List.map_cons, List.map_nil, List.mem_cons, List.mem_append, List.not_mem_nil, or_false] at hk ⊢
              rcases hk with rfl | rfl | hk | hk | rfl
              · exact .inl (.inl rfl)
              · exact .inl (.inr (.inl rfl))
              · exact .inl (.inr (.inr (.inl hk)))
              · exact .inl (.inr (.inr (.inr hk)))
              · exact .inr HK2.out.size
        | some f =>
          have Hf := Lib.hid hf; clear hf
          obtain ⟨p, hp, hn, e1⟩ := look_some HRf.out (l := l) (f := f) (by rw [step_find]; exact Hf.out)
          have hpf : pf = ptr p := by rw [← Hpf.out]; exact e1
          subst hpf
          clear e1
          obtain ⟨⟨v, hc, hb⟩, hfm, hpF⟩ := HRw.out.file hp
          obtain ⟨A', c', rfl⟩ := hb.form
          have hflen := HRw.out.at_.wf.len hfm
          have Hp := Lib.hid hp
          have Hn := Lib.hid hn
          have HpF := Lib.hid hpF
          have Hc := Lib.hid hc
          have Hb := Lib.hid hb
          have c0p := hc.cell 0
          simp only [List.getElem?_toArray, List.getElem?_cons_succ, List.getElem?_cons_zero] at c0p
          clear hp hn hc hb hfm hpF hlen c1w
          by_cases hfit : Z < b.length
          · have gf : decide ((Z : Int) < (b.length : Int)) = true := by simp; omega
            go_wp2_with fail
            go_ret
            have e1 : st.append l b = (st.step.1, 30) := by unfold DiskS.append; rw [if_neg (by simp [He.out]), Hf.out]; simp only; rw [HM.out, HN.out, HZ.out, if_pos hfit]
            exact ⟨by rw [e1]; rfl, F, by rw [e1]; exact HRw.out.at_, HK2.out, fun _ hb => .inl hb⟩
          · have gf : decide ((Z : Int) < (b.length : Int)) = false := by simp; omega
            have Hbr := Lib.hid (Hv.out.keep HK2.out h'.out.noBytes)
            have hl2 := Lib.hid (BList.lit (w := wr) [.slice A' f.bytes.length c', .slice A b.length c] [f.bytes, b] 2 rfl rfl (by simp [maxLen]) (by
              intro i u x hu hx
              match i with
              | 0 => cases hu; cases hx; exact ⟨_, Hb.out⟩
              | 1 => cases hu; cases hx; exact ⟨_, Hbr.out⟩
              | n + 2 => simp at hu))
            go_wp2_with fail
            refine (concat_any _ [f.bytes, b] _ hl2.out (by simp; omega)).mono ?_
            rintro e w5 ⟨v5, rfl, hown, hk5⟩
            have e5 : ([f.bytes, b] : List (List UInt8)).flatten = f.bytes ++ b := by simp
            rw [e5] at hown
            obtain ⟨A5, d5, hv5⟩ := (Bytes.own hown (by simp; unfold maxLen; omega)).form
            rw [List.length_append] at hv5
            subst hv5
            have Hown := Lib.hid hown; clear hown e5
            have Hk5 := Lib.hid (show Keep No wr w5 from ((Keep.refl No wr).alloc _).trans hk5 (fun _ f => f.elim)); clear hk5
            have Hcp5 := Lib.hid (Hc.out.keep Hk5.out (fun f => f))
            have c0q := Hcp5.out.cell 0
            have f0q := Hcp5.out.free 0
            simp only [List.getElem?_toArray, List.getElem?_cons_succ, List.getElem?_cons_zero] at c0q
            go_wp2_with fail
            go_ret
            have e1 : st.append l b = ({ st.step.1 with files := turnAt st.files l (fun f => { f with bytes := f.bytes ++ b }) }, 0) := by unfold DiskS.append; rw [if_neg (by simp [He.out]), Hf.out]; simp only; rw [HM.out, HN.out, HZ.out, if_neg hfit]
            have kp5 : Keep (· = p) w5 (w5.setCell ⟨p, 0, none⟩ (.slice A5 (f.bytes.length + b.length) d5)) := (Keep.refl _ w5).setCell _ _ (fun _ => rfl)
            have kp : Keep (· = p) wr (w5.setCell ⟨p, 0, none⟩ (.slice A5 (f.bytes.length + b.length) d5)) := (Hk5.out.mono (T := (· = p)) (fun _ f _ => f.elim)).trans kp5 (fun _ h _ => h)
            have hwf' : ({ st.step.1 with files := turnAt st.files l (fun f => { f with bytes := f.bytes ++ b }) } : DiskS).WF := by
              have := append_wf_old (step_wf Hwf.out) l b f (by rw [step_find]; exact Hf.out) (by
                unfold DiskS.used; rw [step_room, step_files]
                show b.length ≤ st.room - st.used
                rw [HM.out, HN.out, HZ.out]; omega)
              rw [step_files] at this; exact this
            have hbn := Bytes.own Hown.out (by rw [List.length_append]; unfold maxLen; omega)
            rw [← List.length_append] at kp kp5
            have hfin := HRw.out.turn Hp.out (fun f => { f with bytes := f.bytes ++ b }) (fun _ => rfl) kp ⟨_, Hcp5.out.set 0 _, by rw [← List.length_append] at hbn; exact hbn.keep kp5 (fun k hk => by subst hk; exact Hcp5.out.noBytes (by decide))⟩
              (st' := { st.step.1 with files := turnAt st.files l (fun f => { f with bytes := f.bytes ++ b }) }) (by rw [Hn.out, step_files]) rfl rfl rfl rfl hwf'
            rw [List.length_append] at hfin kp
            exact ⟨by rw [e1]; rfl, F, by rw [e1]; exact hfin.at_, HK2.out.trans kp (fun b hb _ => (show b = p from hb) ▸ HpF.out), fun _ hb => .inl hb⟩
  · have hb : (st.step.2 == 0) = false := by simpa using he
    have hb' : (st.step.2 != 0) = true := by simpa using he
    have e1 : st.append l b = st.step := by unfold DiskS.append; rw [if_pos he]
    have E1 := Lib.hid e1
    generalize hec : st.step.2 = ec at *
    have Hec := Lib.hid hec
    have Hd1 := Lib.hid hd1
    clear hec he e1 hd1
    go_wp2_with fail
    go_ret
    exact ⟨by rw [E1.out, Hec.out]; rfl, F, by rw [E1.out]; exact Hd1.out, HK.out, fun _ hb => .inl hb⟩
end Go.Proofs.YtbmejbmkaoekgaaGreatDoor
