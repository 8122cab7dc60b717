/- load: one file of a log. -/
import Derived.Test.YtbmejbmkaoekgaaGreatDoorLoadI
import Derived.Test.YtbmejbmkaoekgaaGreatDoorPlay2
import Derived.Deep.Cut
import Derived.Deep.DeepCutAuto
import Derived.TacticsInMore
import Derived.OwnWalkIn
import Derived.LoopNIn
import Derived.LoopIn
import Derived.WalkMore
import Derived.Test.YtbmejbmkaoekgaaGreatDoorRes
import Derived.Deep.RegionHeld3
namespace Go.Proofs.YtbmejbmkaoekgaaGreatDoor
open Go Go.RowKit
set_option linter.unusedVariables false
set_option linter.unusedSimpArgs false
attribute [local go_sem] Oper.semAt_some

theorem uErrno : Tryz.prog.underlying 25 = some (.int .i64) := by kernel_rfl

theorem retM {F : Fence} {n : Nat} {P : Program} {fn : Func} {R : Ending → World → Prop} {a : Act} {w : World} {v : Value} (hd : a.defers = []) (hr : (results fn a.tmps).run P w = .ok v w) (hR : R (.returned v) w) : bodyPostM F n P fn R .ret a w := by
  unfold bodyPostM
  simp only []
  rw [hd]
  exact ⟨v, hr, hR⟩

/-- What is asked of a log ahead of load. -/
structure LogS.LoadOk (L : LogS) : Prop where
  name : LogName L.name
  fin : L.fin < 4000000000
  count : L.parts.length < 1000000000

/-- What a call of load leaves. -/
def LoadPost (w : World) (lb d : Nat) (F G : List Nat) (r : LogS × DiskS × Int) (e : Ending) (w' : World) : Prop :=
  e = .returned (.int .i64 r.2.2) ∧ ∃ F' G', DiskAt w' d r.2.1 F' ∧ (r.2.2 = 0 → LogAt w' lb d r.1 G') ∧ Keep (fun b => b ∈ F ∨ b ∈ G) w w' ∧ (∀ b ∈ F', b ∈ F ∨ w.heap.size ≤ b) ∧ (∀ b ∈ G', b ∈ G ∨ w.heap.size ≤ b)

theorem LoadPost.put {w W : World} {lb d D : Nat} {F G : List Nat} {r : LogS × DiskS × Int} {e : Ending} {x : Option (List Deferred)} (h : LoadPost w lb d F G r e W) (hD : W.heap[D]? = some (.deferred x)) (hw : w.heap.size ≤ D) (o' : Obj) : LoadPost w lb d F G r e (W.putObj D o') := by
  obtain ⟨he, F', G', h1, h2, h3, h4, h5⟩ := h
  have k := keep_putObj (o' := o') hD
  have hn : NoBytes W tByte (· = D) := fun k hk c fz e => by subst hk; rw [hD] at e; cases e
  refine ⟨he, F', G', h1.keep k (fun b hb e => by subst e; exact disk_not_book h1 _ hb (.inr ⟨_, hD⟩)) hn, fun q => (h2 q).keep k (fun b hb e => ?_) hn, h3.trans k (fun b e hb => by omega), h4, h5⟩
  obtain ⟨_, cs, t, hc, _⟩ := (h2 q).kinds b hb
  rw [e, hD] at hc; cases hc
theorem put_cell {W : World} {D b : Nat} {x : Option (List Deferred)} {o' : Obj} {t : TypeId} {cs : Array Value} {v : Value} (hD : W.heap[D]? = some (.deferred x)) (hb : Cells W b t cs) (hv : cs[0]? = some v) : (W.putObj D o').cell? ⟨b, 0, none⟩ = some v :=
  ((keep_putObj (o' := o') hD).cell (a := ⟨b, 0, none⟩) hb.lt (fun e => by have e' : b = D := e; subst e'; unfold Cells at hb; rw [hD] at hb; cases hb)).trans ((hb.cell 0).trans hv)
theorem LoadPost.err {w w3 : World} {B6 lb d : Nat} {F F' G : List Nat} {r : LogS × DiskS × Int} {st1 : DiskS} {ee : Int} {x : Value} (hr1 : r.2.1 = st1) (hr2 : r.2.2 = ee) (h0 : ee ≠ 0) (hd3 : DiskAt w3 d st1 F') (k : Keep (fun b => b ∈ F ∨ b ∈ G) w w3)
    (b6 : Cells w3 B6 25 #[x]) (hB : w.heap.size ≤ B6) (hF : ∀ b ∈ F', b ∈ F ∨ w.heap.size ≤ b) : LoadPost w lb d F G r (.returned (.int .i64 ee)) (w3.setCell ⟨B6, 0, none⟩ (.int .i64 ee)) := by
  refine ⟨by rw [hr2], F', [], ?_, fun q => absurd (hr2.symm.trans q) h0, k.setCell _ _ (fun q => absurd q (by show ¬ B6 < _; omega)), hF, by simp⟩
  rw [hr1]
  refine hd3.keep ((Keep.refl (· = B6) w3).setCell _ _ (fun _ => rfl)) (fun b hb e => ?_) (fun k hk => by subst hk; exact b6.noBytes (by decide))
  subst e
  rcases hd3.kinds b hb _ _ _ b6 with e | e <;> cases e

theorem read_steps (st : DiskS) (n : List UInt8) : (st.read n).1.steps ≤ st.steps + 1 := by
  have := step_steps st
  unfold DiskS.read
  split
  · exact this
  · cases hf : st.find n with
    | none => exact this
    | some f => exact this
theorem read_len {st : DiskS} (h : st.WF) (n : List UInt8) : (st.read n).2.1.length ≤ 1073741824 := by
  unfold DiskS.read
  split
  · simp
  · cases hf : st.find n with
    | none => simp
    | some f => exact h.len (find_spec hf).1

theorem assign_pair {l n : Nat} {P : Program} {t1 t2 : TypeId} {p1 p2 : String} (t : Array Value) (W : World) (K : Act → World → Prop)
    (hK : K { tmps := (t.setIfInBounds 10 (t[37]?.getD undef)).setIfInBounds 11 (t[38]?.getD undef), defers := [] } W) :
    ((Code.region 8 #[{ dst := some 10, op := .assign (.tmp 37), type := t1, pos := p1, after := #[], guard := none }] false).seq (Code.region 9 #[{ dst := some 11, op := .assign (.tmp 38), type := t2, pos := p2, after := #[], guard := none }] false)).wpIn
      (Fence.wide.inRound l) n P (Exit.then K (fun _ _ _ => False)) { tmps := t, defers := [] } W := by
  gi_wp2
  exact hK
theorem assign_load {l n : Nat} {P : Program} {t1 t2 : TypeId} {p1 p2 : String} (A : Act) (hA : A.tmps.size = 97) (x : Value × Int) (W : World) (K : Act → World → Prop)
    (hK : K { tmps := (((A.tmps.setIfInBounds 37 x.1).setIfInBounds 38 (.int .i64 x.2)).setIfInBounds 10 x.1).setIfInBounds 11 (.int .i64 x.2), defers := [] } W) :
    ((Code.region 8 #[{ dst := some 10, op := .assign (.tmp 37), type := t1, pos := p1, after := #[], guard := none }] false).seq (Code.region 9 #[{ dst := some 11, op := .assign (.tmp 38), type := t2, pos := p2, after := #[], guard := none }] false)).wpIn
      (Fence.wide.inRound l) n P (Exit.then K (fun _ _ _ => False)) { tmps := (#[37, 38].zip (encF x)).foldl (fun t (p, v) => t.setIfInBounds p v) A.tmps, defers := [] } W := by
  have e : #[37, 38].zip (encF x) = #[((37 : Nat), x.1), (38, .int .i64 x.2)] := by apply Array.ext'; simp [encF, Array.toList_zip]
  rw [e]
  refine assign_pair _ W K ?_
  have h1 : ((#[((37 : Nat), x.1), (38, Value.int .i64 x.2)].foldl (fun (t : Array Value) (p, v) => t.setIfInBounds p v) A.tmps)[37]?).getD undef = x.1 := by simp [Array.getElem?_setIfInBounds, hA]
  have h2 : ((#[((37 : Nat), x.1), (38, Value.int .i64 x.2)].foldl (fun (t : Array Value) (p, v) => t.setIfInBounds p v) A.tmps)[38]?).getD undef = .int .i64 x.2 := by simp [Array.getElem?_setIfInBounds, hA]
  rw [h1, h2]
  exact hK

set_option maxRecDepth 100000 in
set_option maxHeartbeats 2000000 in
theorem lload_go (w : World) (lb d : Nat) (st : DiskS) (L : LogS) (F : List Nat) (pv rv : Value) (vs : List Value) (n : Nat) (last : Bool) (hd : DiskAt w d st F) (h : LogR w lb d L pv rv vs) (ok : L.LoadOk) (htab : Tab w) (hst : st.steps < 4611686018427387903) (hn : n < 1000000000) :
    Calls Tryz.prog 26 #[ptr lb, .int .i64 n, .bool last] w (LoadPost w lb d F (lb :: (pv.ownBlock.toList ++ rv.ownBlock.toList)) (L.load st n last)) := by
  refine (callsIn_wide (n := 9)).1 ?_
  refine callsIn_of_wp_marks Tryz.func26 rfl trivial ?_ rfl
  simp only [Tryz.ntmps26, List.size_toArray, List.length_cons, List.length_nil, Nat.reduceAdd, Nat.reduceSub, Array.replicate_succ, Array.replicate_zero, List.push_toArray, List.append_toArray, List.nil_append, List.cons_append]
  refine wpIn_wide.2 ?_
  obtain ⟨hf1, hf2, hf3⟩ := file_plain ok.name hn
  have Hf := Lib.hid (And.intro hf1 (And.intro hf2 hf3))
  have hnm := ok.name.most
  have Hok := Lib.hid ok
  have Hd := Lib.hid hd
  have Hr := Lib.hid h
  have Htab := Lib.hid htab
  have hlb := h.1.lt
  have hlbF : lb ∉ F := h.at_.apart hd lb (by simp)
  clear hd h ok htab hf1 hf2 hf3
  go_wp2_with fail
  go_step3
  go_wp2_with fail
  obtain ⟨W, hW⟩ : ∃ W, ((w.alloc (.cells #[ptr lb] 28)).alloc (.cells #[.bool last] 4)).alloc (.cells #[.int .i64 0] 25) = W := ⟨_, rfl⟩
  rw [hW]
  have HK := Lib.hid (show Keep No w W by rw [← hW]; exact (((Keep.refl No w).alloc _).alloc _).alloc _)
  have b3 : Cells W w.heap.size 28 #[ptr lb] := by rw [← hW]; exact ((Cells.new w _ _).alloc _).alloc _
  have b5 : Cells W (w.heap.size + 1) 4 #[.bool last] := by
    rw [← hW]
    have := (Cells.new (w.alloc (.cells #[ptr lb] 28)) 4 #[.bool last]).alloc (.cells #[.int .i64 0] 25)
    rwa [World.size_alloc] at this
  have b6 : Cells W (w.heap.size + 1 + 1) 25 #[.int .i64 0] := by
    rw [← hW]
    have := Cells.new ((w.alloc (.cells #[ptr lb] 28)).alloc (.cells #[.bool last] 4)) 25 #[.int .i64 0]
    rwa [World.size_alloc, World.size_alloc] at this
  clear hW
  have hB3 := b3.lt
  have c3 := b3.cell 0
  have hRW := Hr.out.keep HK.out (fun f => f) (fun _ _ f => f) (fun _ _ f => f) (NoBytes.no _ _)
  have c0 := hRW.1.cell 0
  have c1 := hRW.1.cell 1
  simp only [List.getElem?_toArray, List.getElem?_cons_succ, List.getElem?_cons_zero] at c0 c1 c3
  have hlbW := hRW.1.lt
  have hB3F : w.heap.size ∉ F := fun hf => by have := Hd.out.lt hf; omega
  have B3 := Lib.hid b3
  have B5 := Lib.hid b5
  have B6 := Lib.hid b6
  clear b3 b5 b6 hRW
  go_region_held3 (fun W => W.cell? ⟨w.heap.size, 0, none⟩ = some (ptr lb) ∧ W.cell? ⟨lb, 0, none⟩ = some (ptr d) ∧ W.cell? ⟨lb, 1, none⟩ = some (sv L.name)) (first | exact ⟨by assumption, by assumption, by assumption⟩ | go_keep)
    (first
      | (go_at_call 21; refine (file_ok L.name n hn hnm _ ?_).mono ?_; exact Htab.out.keep (HK.out.drew) (fun _ f => f.elim); rintro e w2 ⟨rfl, hk2⟩
         have k3 : w2.cell? ⟨w.heap.size, 0, none⟩ = some (ptr lb) := (hk2.undrew.cell (a := ⟨w.heap.size, 0, none⟩) hB3 (fun f => f)).trans c3
         have k0 : w2.cell? ⟨lb, 0, none⟩ = some (ptr d) := (hk2.undrew.cell (a := ⟨lb, 0, none⟩) hlbW (fun f => f)).trans c0
         have k1 : w2.cell? ⟨lb, 1, none⟩ = some (sv L.name) := (hk2.undrew.cell (a := ⟨lb, 1, none⟩) hlbW (fun f => f)).trans c1
         have Hk2 := Lib.hid hk2.undrew; clear hk2)
      | (go_at_call 43; refine (dread_go _ d st F (fileName L.name n) ?_ Hf.out.1 Hf.out.2.1 Hf.out.2.2 (by omega)).mono ?_; exact Hd.out.keep (HK.out.trans Hk2.out (fun _ f => f.elim)) (fun _ _ f => f) (NoBytes.no _ _); rintro e w3 ⟨rv3, rfl, hb3, hD3, hk3⟩
         have j3 : w3.cell? ⟨w.heap.size, 0, none⟩ = some (ptr lb) := (hk3.cell (a := ⟨w.heap.size, 0, none⟩) (Nat.lt_of_lt_of_le hB3 Hk2.out.size) hB3F).trans k3
         have j0 : w3.cell? ⟨lb, 0, none⟩ = some (ptr d) := (hk3.cell (a := ⟨lb, 0, none⟩) (Nat.lt_of_lt_of_le hlbW Hk2.out.size) hlbF).trans k0
         have j1 : w3.cell? ⟨lb, 1, none⟩ = some (sv L.name) := (hk3.cell (a := ⟨lb, 1, none⟩) (Nat.lt_of_lt_of_le hlbW Hk2.out.size) hlbF).trans k1
         have Hk3 := Lib.hid ((Hk2.out.mono (T := (· ∈ F)) (fun _ f _ => f.elim)).trans hk3 (fun _ h _ => h)); clear hk3
         have HD3 := Lib.hid hD3
         have Hb3 := Lib.hid hb3
         clear hD3 hb3))
  rename_i hHeld
  clear hHeld j3 j0 j1 k3 k0 k1 c3 c0 c1
  have b3 : Cells w3 w.heap.size 28 #[ptr lb] := B3.out.keep Hk3.out hB3F
  have b5 : Cells w3 (w.heap.size + 1) 4 #[.bool last] := B5.out.keep Hk3.out (fun hf => by have := Hd.out.lt hf; omega)
  have b6 : Cells w3 (w.heap.size + 1 + 1) 25 #[.int .i64 0] := B6.out.keep Hk3.out (fun hf => by have := Hd.out.lt hf; omega)
  have c6 := b6.cell 0
  have f6 := b6.free 0
  have c3 := b3.cell 0
  simp only [List.getElem?_toArray, List.getElem?_cons_succ, List.getElem?_cons_zero] at c3 c6
  have B3 := Lib.hid b3
  have B5 := Lib.hid b5
  have B6 := Lib.hid b6
  clear b3 b5 b6
  have HKw0 := Lib.hid (show Keep (· ∈ F) w w3 from (HK.out.mono (fun _ f _ => f.elim)).trans Hk3.out (fun _ h _ => h))
  by_cases he : (st.read (fileName L.name n)).2.2 = 0
  case neg =>
    have hbx : ((st.read (fileName L.name n)).2.2 != 0) = true := by simpa using he
    generalize hee : (st.read (fileName L.name n)).2.2 = ee at *
    have hb2 : (ee == 0) = false := by simpa using he
    have Hee := Lib.hid hee
    clear hee he
    go_wp2_with fail
    rw [Exit.noGoto_ret]
    refine retM rfl (v := .int .i64 ee) ?_ ?_
    · have hE := (B6.out.set 0 (.int .i64 ee)).cell 0
      exact results_cell_int rfl _ _ (w.heap.size + 1 + 1) .i64 _ (by rfl) (by simpa using hE) uErrno
    · have hL : L.load st n last = (L, (st.read (fileName L.name n)).1, ee) := by unfold LogS.load; rw [Hee.out, if_pos (by simpa using hb2)]
      exact LoadPost.err (by rw [hL]) (by rw [hL]) (by simpa using hb2) HD3.out (HKw0.out.mono (fun _ h _ => .inl h)) B6.out (by omega) (fun _ h => .inl h)
  case pos =>
  rw [he]
  have He := Lib.hid he
  clear he
  have HKw := Lib.hid (show Keep (· ∈ F) w w3 from (HK.out.mono (fun _ f _ => f.elim)).trans Hk3.out (fun _ h _ => h))
  have HR3 := Lib.hid (show LogR w3 lb d L pv rv vs by
    have a := Hr.out.at_.apart Hd.out
    exact Hr.out.keep HKw.out hlbF (fun b e => a b (by simp [e])) (fun b e => a b (by simp [e])) Hd.out.noBytes)
  obtain ⟨bs, hbs⟩ : ∃ bs, (st.read (fileName L.name n)).2.1 = bs := ⟨_, rfl⟩
  rw [hbs] at Hb3
  have Hbs := Lib.hid hbs
  have HB6w := Lib.hid (show w.heap.size + 1 + 1 < w3.heap.size from B6.out.lt)
  clear hbs
  have hfinlt := Hok.out.fin
  go_wp2_with fail
  refine (end_go w3 lb d L _ HR3.out.at_ (by omega)).mono ?_
  rintro e w4 ⟨rfl, q, hq⟩
  have Hk4 := Lib.hid (show Keep No w3 w4 by rw [hq]; exact (Keep.refl No w3).drewN q)
  have b6 : Cells w4 (w.heap.size + 1 + 1) 25 #[.int .i64 0] := B6.out.keep Hk4.out (fun f => f)
  have b3 : Cells w4 w.heap.size 28 #[ptr lb] := B3.out.keep Hk4.out (fun f => f)
  have c6 := b6.cell 0
  have f6 := b6.free 0
  have c3 := b3.cell 0
  simp only [List.getElem?_toArray, List.getElem?_cons_succ, List.getElem?_cons_zero] at c3 c6
  have B3 := Lib.hid b3
  have B6 := Lib.hid b6
  clear hq b3 b6
  by_cases hnf : n = L.fin
  case neg =>
    have hx : ((n : Int) != (L.fin : Int)) = true := by simp; omega
    have hx2 : (n != L.fin) = true := by simp; omega
    have hx3 : (n == L.fin) = false := by simp; omega
    obtain ⟨fn, hfn⟩ : ∃ fn, L.fin = fn := ⟨_, rfl⟩
    rw [hfn] at hx hx2 hx3 hnf ⊢
    have Hfn := Lib.hid hfn
    have Hx := Lib.hid hnf
    clear hfn
    clear hnf
    go_wp2_with fail
    rw [Exit.noGoto_ret]
    refine retM rfl (v := .int .i64 34) ?_ ?_
    · have hE := (B6.out.set 0 (.int .i64 34)).cell 0
      exact results_cell_int rfl _ _ (w.heap.size + 1 + 1) .i64 _ (by rfl) (by simpa using hE) uErrno
    · have hL : L.load st n last = (L, (st.read (fileName L.name n)).1, 34) := by unfold LogS.load; rw [He.out, if_neg (by simp), if_pos (by rw [Hfn.out]; exact Hx.out)]
      exact LoadPost.err (by rw [hL]) (by rw [hL]) (by simp) (HD3.out.keep Hk4.out (fun _ _ f => f) (NoBytes.no _ _)) ((HKw0.out.trans Hk4.out (fun _ f => f.elim)).mono (fun _ h _ => .inl h)) B6.out (by omega) (fun _ h => .inl h)
  case pos =>
  subst hnf
  go_wp2_with fail
  obtain ⟨w5, hw5⟩ : ∃ w5, w4.alloc (.cells #[.int .i64 (L.fin : Nat), .int .i64 0, .int .i64 0] tPart) = w5 := ⟨_, rfl⟩
  obtain ⟨pb, hpb⟩ : ∃ pb, w4.heap.size = pb := ⟨_, rfl⟩
  rw [hw5, hpb]
  have hp5 : Cells w5 pb tPart #[.int .i64 (L.fin : Nat), .int .i64 0, .int .i64 0] := by rw [← hw5, ← hpb]; exact Cells.new _ _ _
  have hk5 : Keep No w4 w5 := by rw [← hw5]; exact (Keep.refl No w4).alloc _
  have hpbw : w3.heap.size ≤ pb := by rw [← hpb]; exact Hk4.out.size
  have HP5 := Lib.hid hp5
  have HK5 := Lib.hid (show Keep No w3 w5 from Hk4.out.trans hk5 (fun _ f => f.elim))
  have HK45 := Lib.hid hk5
  clear hw5 hpb hp5 hk5 c6 f6 c3
  go_step3
  go_wp2_with fail
  refine (frames_go _ rv3 bs (Hb3.out.keep HK5.out (NoBytes.no _ _))).mono ?_
  rintro e w6 ⟨rfl, hbx, hk6⟩
  have HBx := Lib.hid hbx
  have hk46 : Keep No w4 w6 := HK45.out.trans hk6 (fun _ f => f.elim)
  have Hk6 := Lib.hid (show Keep No w3 w6 from HK5.out.trans hk6 (fun _ f => f.elim))
  have HP6 := Lib.hid (HP5.out.keep hk6 (fun f => f))
  clear hbx hk6
  go_wp2_with fail
  have hBxlt := HBx.out.lt
  have hbsl : bs.length ≤ 1073741824 := by rw [← Hbs.out]; exact read_len Hd.out.wf _
  rename_i K0 hK0
  generalize hA : Act.mk _ _ = A
  have hE : A.eval (.tmp 36) = .func (.func 59) #[] #[.pointer (some ⟨w5.heap.size, 0, none⟩)] := by rw [← hA]; rfl
  have ne : Ne w6 lb pb w.heap.size (w.heap.size + 1) (w.heap.size + 1 + 1) w5.heap.size F pv rv := by
    have h35 := HK5.out.size
    have hpv : ∀ b, pv.ownBlock = some b → b < w3.heap.size := fun b hb => by obtain ⟨_, cur, hc⟩ := row_kind HR3.out.2.1 hb; exact lt_of_heap hc
    have hrv : ∀ b, rv.ownBlock = some b → b < w3.heap.size := fun b hb => by obtain ⟨_, cur, hc⟩ := row_kind HR3.out.2.2.1 hb; exact lt_of_heap hc
    have h3B3 := HKw.out.size
    have h5 := B5.out.lt
    have hp5 := HP5.out.lt
    have h6 := HB6w.out
    have h1 := HR3.out.1.lt
    exact ⟨hBxlt, fun b hb e => by have := hpv b hb; omega, by omega, fun b hb e => by have := hpv b hb; omega, fun b hb e => by have := hrv b hb; omega, fun b hb e => by have := HD3.out.lt hb; omega, by omega, by omega, by omega, by omega⟩
  have hit := frames_iter (9 - 1) (by omega) w6 w5.heap.size rv3 bs HBx.out (Hb3.out.keep Hk6.out (NoBytes.no _ _))
  have htail : ∀ (D : Nat) (W : World) (rest : List UInt8) (xs : List (List UInt8)) (s : Nat) (rv' : Value) (vs' : List Value) (ee : Int), LoadI w6 lb d pb w.heap.size (w.heap.size + 1) (w.heap.size + 1 + 1) w5.heap.size L (st.read (fileName L.name L.fin)).1 F pv rv last 0 bs rest xs s rv' vs' W →
      scanB bs = (xs, s, ee) → (ee = 0 ∨ ee = 10 ∧ last = true) → w6.heap.size ≤ D → W.heap[D]? = some (.deferred (some [])) → K0 { A with defers := { target := .collected D, args := #[] } :: A.defers } W := by
    intro D W rest xs s rv' vs' ee hLI hsc hee hDw hD
    obtain ⟨A3, d3, hrv3⟩ := Hb3.out.form
    subst hrv3
    have hlog := hLI.at_.log
    have y3 := hlog.1.cell 3
    have y3f := hlog.1.free 3
    have c3 := hLI.at_.b3.cell 0
    have p0 := hLI.at_.part.cell 0
    have p1 := hLI.at_.part.cell 1
    have p2 := hLI.at_.part.cell 2
    simp only [List.getElem?_toArray, List.getElem?_cons_succ, List.getElem?_cons_zero] at y3 c3 p0 p1 p2
    have hlbW := hlog.1.lt
    have hB3W := hLI.at_.b3.lt
    have hpW := hLI.at_.part.lt
    obtain ⟨i0, hi0, hz0, hz1, hz2⟩ := info_parts iPart
    have hpl : L.parts.length < 1000000000 := Hok.out.count
    have ngW : NG ≤ W.heap.size := Nat.le_trans Htab.out.size (Nat.le_trans HKw.out.size (Nat.le_trans Hk6.out.size hLI.keep.size))
    have pvlb := hlog.apart.1
    have HLI := Lib.hid hLI
    have Hlog := Lib.hid hlog
    have Hsc := Lib.hid hsc
    have HD := Lib.hid hD
    have HNe := Lib.hid ne
    have Hee := Lib.hid hee
    have Pvlb := Lib.hid pvlb
    clear hlog hLI hsc hD ne hee hit pvlb
    have hAdd := Lib.hid (fun gg cap w6 k h1 h2 => Hlog.out.addPart (w6 := w6) (pv' := .slice (some ⟨gg, 0, none⟩) (L.parts.length + 1) cap) k ⟨L.fin, xs.length, s⟩ h1 h2)
    subst hA
    refine hK0 _ _ ?_
    clear hK0
    go_wp2_with fail
    go_cut [] from 69 to 78 (fun wx => ∃ gg cap, LogR wx lb d { L with parts := L.parts ++ [⟨L.fin, xs.length, s⟩], recs := L.recs ++ xs } (.slice (some ⟨gg, 0, none⟩) (L.parts.length + 1) cap) rv' vs' ∧ Keep (fun k => k = lb ∨ some k = pv.ownBlock) W wx ∧ (pv.ownBlock = some gg ∨ W.heap.size ≤ gg))
    case first =>
      refine wp_region_noPanic ?_
      refine wp_region_held_drew (S := fun W1 => W1.cell? ⟨w.heap.size, 0, none⟩ = some (ptr lb) ∧ W1.cell? ⟨pb, 0, none⟩ = some (.int .i64 (L.fin : Nat)) ∧ W1.cell? ⟨pb, 1, none⟩ = some (.int .i64 (xs.length : Nat)) ∧ W1.cell? ⟨pb, 2, none⟩ = some (.int .i64 (s : Nat))) (by kernel_rfl) ⟨c3, p0, p1, p2⟩ (fun hS0 => ?_)
      have kA : Keep No W.drew (W.drew.alloc (.cells #[.int .i64 (L.fin : Nat), .int .i64 (xs.length : Nat), .int .i64 (s : Nat)] tPart)) := (Keep.refl No W.drew).alloc _
      have hS1 : (W.drew.alloc (.cells #[.int .i64 (L.fin : Nat), .int .i64 (xs.length : Nat), .int .i64 (s : Nat)] tPart)).cell? ⟨w.heap.size, 0, none⟩ = some (ptr lb) ∧ (W.drew.alloc (.cells #[.int .i64 (L.fin : Nat), .int .i64 (xs.length : Nat), .int .i64 (s : Nat)] tPart)).cell? ⟨pb, 0, none⟩ = some (.int .i64 (L.fin : Nat)) ∧ (W.drew.alloc (.cells #[.int .i64 (L.fin : Nat), .int .i64 (xs.length : Nat), .int .i64 (s : Nat)] tPart)).cell? ⟨pb, 1, none⟩ = some (.int .i64 (xs.length : Nat)) ∧ (W.drew.alloc (.cells #[.int .i64 (L.fin : Nat), .int .i64 (xs.length : Nat), .int .i64 (s : Nat)] tPart)).cell? ⟨pb, 2, none⟩ = some (.int .i64 (s : Nat)) :=
        ⟨(kA.cell (a := ⟨w.heap.size, 0, none⟩) hB3W (fun f => f)).trans c3, (kA.cell (a := ⟨pb, 0, none⟩) hpW (fun f => f)).trans p0, (kA.cell (a := ⟨pb, 1, none⟩) hpW (fun f => f)).trans p1, (kA.cell (a := ⟨pb, 2, none⟩) hpW (fun f => f)).trans p2⟩
      have y3a : (W.drew.alloc (.cells #[.int .i64 (L.fin : Nat), .int .i64 (xs.length : Nat), .int .i64 (s : Nat)] tPart)).cell? ⟨lb, 3, none⟩ = some pv := (kA.cell (a := ⟨lb, 3, none⟩) hlbW (fun f => f)).trans y3
      clear kA
      refine wpAnyH_take (i := 0) (v := ?_) rfl (by kernel_rfl) (by kernel_rfl) (by kernel_rfl) (fun _ _ _ h => h) (Or.inl ⟨by rfl, ?hz⟩) (by assumption) ?nxt
      case hz => (rintro w ⟨hSa, hSb, hSc, hSd⟩; go_simp; try with_reducible rfl)
      case nxt =>
      try simp only [List.getElem_toArray, List.getElem_cons_zero, List.getElem_cons_succ, Act.put, List.setIfInBounds_toArray, List.set_cons_zero, List.set_cons_succ]
      refine wpAnyH_take (i := 1) (v := ?_) rfl (by kernel_rfl) (by kernel_rfl) (by kernel_rfl) (fun _ _ _ h => h) (Or.inl ⟨by rfl, ?hz⟩) (by assumption) ?nxt
      case hz => (rintro w ⟨hSa, hSb, hSc, hSd⟩; go_simp; try with_reducible rfl)
      case nxt =>
      try simp only [List.getElem_toArray, List.getElem_cons_zero, List.getElem_cons_succ, Act.put, List.setIfInBounds_toArray, List.set_cons_zero, List.set_cons_succ]
      refine wpAnyH_take (i := 2) (v := ?_) rfl (by kernel_rfl) (by kernel_rfl) (by kernel_rfl) (fun _ _ _ h => h) (Or.inl ⟨by rfl, ?hz⟩) (by assumption) ?nxt
      case hz => (rintro w ⟨hSa, hSb, hSc, hSd⟩; go_simp; try with_reducible rfl)
      case nxt =>
      try simp only [List.getElem_toArray, List.getElem_cons_zero, List.getElem_cons_succ, Act.put, List.setIfInBounds_toArray, List.set_cons_zero, List.set_cons_succ]
      refine wpAnyH_take (i := 3) (v := ?_) rfl (by kernel_rfl) (by kernel_rfl) (by kernel_rfl) (fun _ _ _ h => h) (Or.inl ⟨by rfl, ?hz⟩) (by assumption) ?nxt
      case hz => (rintro w ⟨hSa, hSb, hSc, hSd⟩; go_simp; try with_reducible rfl)
      case nxt =>
      try simp only [List.getElem_toArray, List.getElem_cons_zero, List.getElem_cons_succ, Act.put, List.setIfInBounds_toArray, List.set_cons_zero, List.set_cons_succ]
      refine wpAnyH_take (i := 5) (v := ?_) rfl (by kernel_rfl) (by kernel_rfl) (by kernel_rfl) (fun _ _ _ h => h) (Or.inl ⟨by rfl, ?hz⟩) (by assumption) ?nxt
      case hz => (rintro w ⟨hSa, hSb, hSc, hSd⟩; go_simp; try with_reducible rfl)
      case nxt =>
      try simp only [List.getElem_toArray, List.getElem_cons_zero, List.getElem_cons_succ, Act.put, List.setIfInBounds_toArray, List.set_cons_zero, List.set_cons_succ]
      refine wpAnyH_ready (rs := [4, 6]) (by kernel_rfl) (by simp) ?_
      refine AllReadyH.cons (i := 4) rfl (fun K hK => ?g3) (AllReadyH.cons (i := 6) rfl (fun K hK => ?g4) AllReadyH.nil)
      case' g3 =>
        try simp only [List.getElem_toArray, List.getElem_cons_zero, List.getElem_cons_succ, Act.put, List.setIfInBounds_toArray, List.set_cons_zero, List.set_cons_succ]
        go_simp
        refine hK.out _ _ hS0 (fun _ => ?_); clear hK K
        try simp only [List.getElem_toArray, List.getElem_cons_zero, List.getElem_cons_succ, Act.put, List.setIfInBounds_toArray, List.set_cons_zero, List.set_cons_succ]
        refine wpAnyH_ready (rs := [6]) (by kernel_rfl) (by simp) ?_
        refine AllReadyH.cons (i := 6) rfl (fun K hK => ?_) AllReadyH.nil
        try simp only [List.getElem_toArray, List.getElem_cons_zero, List.getElem_cons_succ, Act.put, List.setIfInBounds_toArray, List.set_cons_zero, List.set_cons_succ]
        go_simp
        refine hK.out _ _ hS1 (fun _ => ?_); clear hK K
        try simp only [List.getElem_toArray, List.getElem_cons_zero, List.getElem_cons_succ, Act.put, List.setIfInBounds_toArray, List.set_cons_zero, List.set_cons_succ]
      case' g4 =>
        try simp only [List.getElem_toArray, List.getElem_cons_zero, List.getElem_cons_succ, Act.put, List.setIfInBounds_toArray, List.set_cons_zero, List.set_cons_succ]
        go_simp
        refine hK.out _ _ hS1 (fun _ => ?_); clear hK K
        try simp only [List.getElem_toArray, List.getElem_cons_zero, List.getElem_cons_succ, Act.put, List.setIfInBounds_toArray, List.set_cons_zero, List.set_cons_succ]
        refine wpAnyH_ready (rs := [4]) (by kernel_rfl) (by simp) ?_
        refine AllReadyH.cons (i := 4) rfl (fun K hK => ?_) AllReadyH.nil
        try simp only [List.getElem_toArray, List.getElem_cons_zero, List.getElem_cons_succ, Act.put, List.setIfInBounds_toArray, List.set_cons_zero, List.set_cons_succ]
        go_simp
        refine hK.out _ _ hS1 (fun _ => ?_); clear hK K
        try simp only [List.getElem_toArray, List.getElem_cons_zero, List.getElem_cons_succ, Act.put, List.setIfInBounds_toArray, List.set_cons_zero, List.set_cons_succ]
      all_goals
        obtain ⟨X, hX⟩ : ∃ X, (W.alloc (Obj.cells #[.int .i64 (L.fin : Nat), .int .i64 (xs.length : Nat), .int .i64 (s : Nat)] tPart)).drew = X := ⟨_, rfl⟩
        rw [hX]
        have kX : Keep No W X := by rw [← hX]; exact ((Keep.refl No W).alloc _).drew
        have cX : Cells X W.heap.size tPart #[.int .i64 (L.fin : Nat), .int .i64 (xs.length : Nat), .int .i64 (s : Nat)] := by rw [← hX]; exact Cells.new W _ _
        have sX : X.heap.size = W.heap.size + 1 := by rw [← hX]; simp
        clear hX hS0 hS1 y3a
        refine wpAnyH_ready (rs := [7]) (by kernel_rfl) (by simp) ?_
        refine AllReadyH.cons (i := 7) (o := { dst := some 76, op := .call { callee := .builtin .append, args := #[.tmp 73, .tmp 75], argTypes := #[tParts, tParts] }, type := tParts, pos := "wal.go:136", after := #[{ on := 4, ground := .data }, { on := 6, ground := .data }], guard := none }) rfl (fun K hK => ?_) AllReadyH.nil
        refine step_append_lies _ (by rfl) _ _ _ (by rfl) NG tPart i0 _ 3 24 uParts hi0 hz0 hz1 hz2 rfl (by omega) pv L.parts.length (L.parts.flatMap partV) (by rfl) (row_keep Hlog.out.2.1 kX (fun _ _ f => f)) (⟨W.heap.size, 0, none⟩ : Addr) 1 1 [.int .i64 (L.fin : Nat), .int .i64 (xs.length : Nat), .int .i64 (s : Nat)] (by rfl) (by rfl) (World.news_of_block (cs := #[.int .i64 (L.fin : Nat), .int .i64 (xs.length : Nat), .int .i64 (s : Nat)]) (t := tPart) (fr := (0, 0)) cX) (by simp [Value.oneCell']) (by omega) (by unfold maxLen; omega) (by omega) (by omega) (W.heap.size + 1) sX ?_
        intro gg cap w9 hown9 hgrow hat9 hlt9
        try simp only [List.getElem_toArray, List.getElem_cons_zero, List.getElem_cons_succ, Act.put, List.setIfInBounds_toArray, List.set_cons_zero, List.set_cons_succ]
        have kk : Keep (fun b => some b = pv.ownBlock) W w9 := Keep.trans (T := fun b => some b = pv.ownBlock) (kX.mono (fun _ f _ => f.elim)) (Keep.of_grown hgrow) (fun _ h _ => h)
        have z3f : w9.frozen? ⟨lb, 3, none⟩ = false := (kk.frozen (a := ⟨lb, 3, none⟩) hlbW (fun e => Pvlb.out lb e.symm rfl)).trans y3f
        have z3 : w9.cell? ⟨lb, 3, none⟩ = some pv := (kk.cell (a := ⟨lb, 3, none⟩) hlbW (fun e => Pvlb.out lb e.symm rfl)).trans y3
        have nB3 : ¬ some w.heap.size = pv.ownBlock := fun e => by obtain ⟨_, cur, hc⟩ := row_kind Hlog.out.2.1 e.symm; exact Cells.ne (w := W) hc HLI.out.at_.b3 (by decide) rfl
        have nPb : ¬ some pb = pv.ownBlock := fun e => HNe.out.pp pb e.symm rfl
        have hS2 : w9.cell? ⟨w.heap.size, 0, none⟩ = some (ptr lb) ∧ w9.cell? ⟨pb, 0, none⟩ = some (.int .i64 (L.fin : Nat)) ∧ w9.cell? ⟨pb, 1, none⟩ = some (.int .i64 (xs.length : Nat)) ∧ w9.cell? ⟨pb, 2, none⟩ = some (.int .i64 (s : Nat)) :=
          ⟨(kk.cell (a := ⟨w.heap.size, 0, none⟩) hB3W nB3).trans c3, (kk.cell (a := ⟨pb, 0, none⟩) hpW nPb).trans p0, (kk.cell (a := ⟨pb, 1, none⟩) hpW nPb).trans p1, (kk.cell (a := ⟨pb, 2, none⟩) hpW nPb).trans p2⟩
        have kS : Keep (· = lb) w9 (w9.setCell ⟨lb, 3, none⟩ (.slice (some ⟨gg, 0, none⟩) (L.parts.length + 1) cap)) := (Keep.refl _ w9).setCell _ _ (fun _ => rfl)
        have nB3' : ¬ w.heap.size = lb := Cells.ne HLI.out.at_.b3 Hlog.out.1 (by decide)
        have nPb' : ¬ pb = lb := Cells.ne HLI.out.at_.part Hlog.out.1 (by decide)
        have hS3 : (w9.setCell ⟨lb, 3, none⟩ (.slice (some ⟨gg, 0, none⟩) (L.parts.length + 1) cap)).cell? ⟨w.heap.size, 0, none⟩ = some (ptr lb) ∧ (w9.setCell ⟨lb, 3, none⟩ (.slice (some ⟨gg, 0, none⟩) (L.parts.length + 1) cap)).cell? ⟨pb, 0, none⟩ = some (.int .i64 (L.fin : Nat)) ∧ (w9.setCell ⟨lb, 3, none⟩ (.slice (some ⟨gg, 0, none⟩) (L.parts.length + 1) cap)).cell? ⟨pb, 1, none⟩ = some (.int .i64 (xs.length : Nat)) ∧ (w9.setCell ⟨lb, 3, none⟩ (.slice (some ⟨gg, 0, none⟩) (L.parts.length + 1) cap)).cell? ⟨pb, 2, none⟩ = some (.int .i64 (s : Nat)) :=
          ⟨(kS.cell (a := ⟨w.heap.size, 0, none⟩) (Nat.lt_of_lt_of_le hB3W kk.size) nB3').trans hS2.1, (kS.cell (a := ⟨pb, 0, none⟩) (Nat.lt_of_lt_of_le hpW kk.size) nPb').trans hS2.2.1, (kS.cell (a := ⟨pb, 1, none⟩) (Nat.lt_of_lt_of_le hpW kk.size) nPb').trans hS2.2.2.1, (kS.cell (a := ⟨pb, 2, none⟩) (Nat.lt_of_lt_of_le hpW kk.size) nPb').trans hS2.2.2.2⟩
        have Hown9 := Lib.hid hown9
        have Hkk := Lib.hid kk
        have Hat9 := Lib.hid hat9
        clear hown9 kk hgrow hat9 kX cX sX kS nB3 nPb nB3' nPb'
        refine hK.out _ _ hS2 (fun _ => ?_); clear hK K
        refine wpAnyH_take (i := 8) (v := ?_) rfl (by kernel_rfl) (by kernel_rfl) (by kernel_rfl) (fun _ _ _ h => h) (Or.inl ⟨by rfl, ?hz⟩) (by assumption) ?nxt
        case hz => (rintro w ⟨hSa, hSb, hSc, hSd⟩; go_simp; try with_reducible rfl)
        case nxt =>
        try simp only [List.getElem_toArray, List.getElem_cons_zero, List.getElem_cons_succ, Act.put, List.setIfInBounds_toArray, List.set_cons_zero, List.set_cons_succ]
        refine wpAnyH_take (i := 9) (v := ?_) rfl (by kernel_rfl) (by kernel_rfl) (by kernel_rfl) (fun _ _ _ h => h) (Or.inl ⟨by rfl, ?hz⟩) (by assumption) ?nxt
        case hz => (rintro w ⟨hSa, hSb, hSc, hSd⟩; go_simp; try with_reducible rfl)
        case nxt =>
        try simp only [List.getElem_toArray, List.getElem_cons_zero, List.getElem_cons_succ, Act.put, List.setIfInBounds_toArray, List.set_cons_zero, List.set_cons_succ]
        refine wpAnyH_ready (rs := [10]) (by kernel_rfl) (by simp) ?_
        refine AllReadyH.cons (i := 10) rfl (fun K hK => ?_) AllReadyH.nil
        try simp only [List.getElem_toArray, List.getElem_cons_zero, List.getElem_cons_succ, Act.put, List.setIfInBounds_toArray, List.set_cons_zero, List.set_cons_succ]
        go_simp
        refine hK.out _ _ hS3 (fun _ => ?_); clear hK K
        refine wpAnyH_done (by kernel_rfl) ?_ _
        refine NoPanic.normal ?_
        clear hS2 hS3 z3 z3f
        go_wp2_with fail
        go_meet
        obtain ⟨q1, q2⟩ := hAdd.out _ _ _ Hkk.out Hown9.out (Hat9.out.imp (fun e => e.symm) (fun e b hb => by rw [← Option.some.inj hb]; show _ ≤ gg; omega))
        exact ⟨gg, cap, q1, q2, Hat9.out.imp (fun e => e) (fun e => by omega)⟩
    case rest =>
      obtain ⟨gg, cap, hR7, hk7, hat7⟩ := hcut
      have n7 : ∀ {b : Nat} {t : TypeId} {cs : Array Value}, Cells W b t cs → t ≠ tLog → t ≠ tPart → ¬ (b = lb ∨ some b = pv.ownBlock) := by
        rintro b t cs hc e1 e2 (e | e)
        · subst e; exact Cells.ne hc Hlog.out.1 e1 rfl
        · obtain ⟨_, cur, hcur⟩ := row_kind Hlog.out.2.1 e.symm
          exact Cells.ne (w := W) hc hcur e2 rfl
      have nD : ¬ (D = lb ∨ some D = pv.ownBlock) := by
        rintro (e | e)
        · subst e; have := Hlog.out.1; unfold Cells at this; rw [HD.out] at this; cases this
        · obtain ⟨_, cur, hcur⟩ := row_kind Hlog.out.2.1 e.symm
          rw [HD.out] at hcur; cases hcur
      have nF : ∀ b ∈ F, ¬ (b = lb ∨ some b = pv.ownBlock) := by
        rintro b hb (e | e)
        · subst e; exact hlbF hb
        · obtain ⟨_, cur, hcur⟩ := row_kind Hlog.out.2.1 e.symm
          rcases HLI.out.at_.disk.kinds b hb _ _ _ hcur with e | e <;> cases e
      have nB : NoBytes W tByte (fun k => k = lb ∨ some k = pv.ownBlock) := by
        rintro k (e | e)
        · subst e; exact Hlog.out.1.noBytes (by decide)
        · exact row_noBytes Hlog.out.2.1 (by decide) k e
      have b3 := HLI.out.at_.b3.keep hk7 (n7 HLI.out.at_.b3 (by decide) (by decide))
      have b6 := HLI.out.at_.b6.keep hk7 (n7 HLI.out.at_.b6 (by decide) (by decide))
      have bp := HLI.out.at_.part.keep hk7 (fun e => e.elim (Cells.ne HLI.out.at_.part Hlog.out.1 (by decide)) (fun e => HNe.out.pp pb e.symm rfl))
      have hd7 := HLI.out.at_.disk.keep hk7 nF nB
      have hD7 := (hk7.block D (lt_of_heap HD.out) nD).trans HD.out
      have d3 := b3.cell 0
      have d6 := b6.cell 0
      have d6f := b6.free 0
      have dp := bp.cell 2
      have l0 := hR7.1.cell 0
      have l1 := hR7.1.cell 1
      simp only [List.getElem?_toArray, List.getElem?_cons_succ, List.getElem?_cons_zero] at d3 d6 dp l0 l1
      have hsb : s ≤ bs.length := by have := HLI.out.scan.len.1; omega
      have hB3c := b3.lt
      have hpc := bp.lt
      have hlc := hR7.1.lt
      have hB6c := b6.lt
      have HB3 := Lib.hid b3
      have HB6 := Lib.hid b6
      have Hbp := Lib.hid bp
      have HR7 := Lib.hid hR7
      have Hk7 := Lib.hid hk7
      have Hd7 := Lib.hid hd7
      have HD7 := Lib.hid hD7
      have Hat7 := Lib.hid hat7
      clear b3 b6 bp hR7 hk7 hd7 hD7 hat7 n7 nD nF nB c3 p0 p1 p2 y3 y3f hi0 hz0 hz1 hz2
      have hw3 := HKw0.out.size
      have hw6 := Hk6.out.size
      have hwW := HLI.out.keep.size
      have hw5 := HK5.out.size
      have kwc : Keep (fun b => b ∈ F ∨ b ∈ (lb :: (pv.ownBlock.toList ++ rv.ownBlock.toList))) w wc := (((HKw0.out.mono (fun _ h _ => Or.inl h)).trans Hk6.out (fun _ f => f.elim)).trans HLI.out.keep (fun b hb hl => by
          rcases hb with e | e | e | e | e
          · exact .inr (by simp [e])
          · omega
          · omega
          · exact .inr (by simp [← e])
          · omega)).trans Hk7.out (fun b hb hl => by
          rcases hb with e | e
          · exact .inr (by simp [e])
          · exact .inr (by simp [← e]))
      have hfr : ∀ k ∈ (lb :: (((.slice (some ⟨gg, 0, none⟩) (L.parts.length + 1) cap) : Value).ownBlock.toList ++ rv'.ownBlock.toList)), k ∈ (lb :: (pv.ownBlock.toList ++ rv.ownBlock.toList)) ∨ w.heap.size ≤ k := by
        intro k hk
        rcases List.mem_cons.1 hk with e | hk
        · exact .inl (by simp [e])
        rcases List.mem_append.1 hk with hk | hk
        · have e : k = gg := by simpa [Value.ownBlock] using hk
          rcases Hat7.out with h | h
          · exact .inl (by simp [h, e])
          · exact .inr (by omega)
        · have e : rv'.ownBlock = some k := by simpa using hk
          rcases HLI.out.own with h | h
          · exact .inl (by rw [h] at e; simp [e])
          · exact .inr (by have := h k e; omega)
      have HtabC := Lib.hid (show Tab wc from Htab.out.keep kwc (fun b hb => by
        rcases hb with hb | hb
        · exact Hd.out.ng b hb
        · exact (Hr.out.at_.kinds b hb).1))
      have Hkwc := Lib.hid kwc
      have Hfr := Lib.hid hfr
      have hst1 : (st.read (fileName L.name L.fin)).1.steps < 4611686018427387904 := by have := read_steps st (fileName L.name L.fin); omega
      clear kwc hfr hw3 hw6 hwW hw5
      by_cases hlt : s < bs.length
      · have q1 : decide ((s : Int) < (bs.length : Int)) = true := by simp; omega
        have q2 : decide (s < bs.length) = true := by simp; omega
        have hs4 : s ≤ 4294967296 := by omega
        go_wp2_with fail
        go_region_held3 (fun W1 => W1.cell? ⟨w.heap.size, 0, none⟩ = some (ptr lb) ∧ W1.cell? ⟨lb, 0, none⟩ = some (ptr d) ∧ W1.cell? ⟨lb, 1, none⟩ = some (sv L.name) ∧ W1.cell? ⟨pb, 2, none⟩ = some (.int .i64 (s : Nat))) (first | exact ⟨by assumption, by assumption, by assumption, by assumption⟩ | go_keep)
          (first
            | (go_at_call 21; refine (file_ok L.name L.fin hn hnm _ ?_).mono ?_; exact HtabC.out.keep ((Keep.refl No wc).drew) (fun _ f => f.elim); rintro e w8 ⟨rfl, hk8⟩
               have k3 : w8.cell? ⟨w.heap.size, 0, none⟩ = some (ptr lb) := (hk8.undrew.cell (a := ⟨w.heap.size, 0, none⟩) hB3c (fun f => f)).trans d3
               have k0 : w8.cell? ⟨lb, 0, none⟩ = some (ptr d) := (hk8.undrew.cell (a := ⟨lb, 0, none⟩) hlc (fun f => f)).trans l0
               have k1 : w8.cell? ⟨lb, 1, none⟩ = some (sv L.name) := (hk8.undrew.cell (a := ⟨lb, 1, none⟩) hlc (fun f => f)).trans l1
               have k2 : w8.cell? ⟨pb, 2, none⟩ = some (.int .i64 (s : Nat)) := (hk8.undrew.cell (a := ⟨pb, 2, none⟩) hpc (fun f => f)).trans dp
               have Hk8 := Lib.hid hk8.undrew; clear hk8)
            | (go_at_call 45; refine (dtrunc_go _ d (st.read (fileName L.name L.fin)).1 F (fileName L.name L.fin) s ?_ Hf.out.1 Hf.out.2.1 Hf.out.2.2 (by omega) (by omega)).mono ?_; exact Hd7.out.keep Hk8.out (fun _ _ f => f) (NoBytes.no _ _); rintro e w9 ⟨rfl, F2, hD9, hk9, hF9⟩
               have jB3 : w.heap.size ∉ F := fun hf => by have := Hd.out.lt hf; omega
               have jp : pb ∉ F := fun hf => by have := HD3.out.lt hf; omega
               have jB6 : w.heap.size + 1 + 1 ∉ F := fun hf => by have := Hd.out.lt hf; omega
               have j3 : w9.cell? ⟨w.heap.size, 0, none⟩ = some (ptr lb) := (hk9.cell (a := ⟨w.heap.size, 0, none⟩) (Nat.lt_of_lt_of_le hB3c Hk8.out.size) jB3).trans k3
               have j0 : w9.cell? ⟨lb, 0, none⟩ = some (ptr d) := (hk9.cell (a := ⟨lb, 0, none⟩) (Nat.lt_of_lt_of_le hlc Hk8.out.size) hlbF).trans k0
               have j1 : w9.cell? ⟨lb, 1, none⟩ = some (sv L.name) := (hk9.cell (a := ⟨lb, 1, none⟩) (Nat.lt_of_lt_of_le hlc Hk8.out.size) hlbF).trans k1
               have j2 : w9.cell? ⟨pb, 2, none⟩ = some (.int .i64 (s : Nat)) := (hk9.cell (a := ⟨pb, 2, none⟩) (Nat.lt_of_lt_of_le hpc Hk8.out.size) jp).trans k2
               have kk9 := (Hk8.out.mono (T := (· ∈ F)) (fun _ f _ => f.elim)).trans hk9 (fun _ h _ => h)
               have b69 := HB6.out.keep kk9 jB6
               have j6 : w9.cell? ⟨w.heap.size + 1 + 1, 0, none⟩ = some (.int .i64 0) := b69.cell 0
               have j6f : w9.frozen? ⟨w.heap.size + 1 + 1, 0, none⟩ = false := b69.free 0
               have kS9 : ∀ v, Keep (· = w.heap.size + 1 + 1) w9 (w9.setCell ⟨w.heap.size + 1 + 1, 0, none⟩ v) := fun v => (Keep.refl _ w9).setCell _ _ (fun _ => rfl)
               have m3 : (w9.setCell ⟨w.heap.size + 1 + 1, 0, none⟩ (.int .i64 ((st.read (fileName L.name L.fin)).1.truncate (fileName L.name L.fin) s).2)).cell? ⟨w.heap.size, 0, none⟩ = some (ptr lb) := ((kS9 _).cell (a := ⟨w.heap.size, 0, none⟩) (Nat.lt_of_lt_of_le hB3c kk9.size) (show ¬ w.heap.size = w.heap.size + 1 + 1 by omega)).trans j3
               have m0 : (w9.setCell ⟨w.heap.size + 1 + 1, 0, none⟩ (.int .i64 ((st.read (fileName L.name L.fin)).1.truncate (fileName L.name L.fin) s).2)).cell? ⟨lb, 0, none⟩ = some (ptr d) := ((kS9 _).cell (a := ⟨lb, 0, none⟩) (Nat.lt_of_lt_of_le hlc kk9.size) (show ¬ lb = w.heap.size + 1 + 1 by omega)).trans j0
               have m1 : (w9.setCell ⟨w.heap.size + 1 + 1, 0, none⟩ (.int .i64 ((st.read (fileName L.name L.fin)).1.truncate (fileName L.name L.fin) s).2)).cell? ⟨lb, 1, none⟩ = some (sv L.name) := ((kS9 _).cell (a := ⟨lb, 1, none⟩) (Nat.lt_of_lt_of_le hlc kk9.size) (show ¬ lb = w.heap.size + 1 + 1 by omega)).trans j1
               have m2 : (w9.setCell ⟨w.heap.size + 1 + 1, 0, none⟩ (.int .i64 ((st.read (fileName L.name L.fin)).1.truncate (fileName L.name L.fin) s).2)).cell? ⟨pb, 2, none⟩ = some (.int .i64 (s : Nat)) := ((kS9 _).cell (a := ⟨pb, 2, none⟩) (Nat.lt_of_lt_of_le hpc kk9.size) (show ¬ pb = w.heap.size + 1 + 1 by have := HB6w.out; omega)).trans j2
               have Hkk9 := Lib.hid kk9
               have HD9 := Lib.hid hD9
               have HF9 := Lib.hid hF9
               have HB69 := Lib.hid b69
               clear hk9 hD9 hF9 kk9 b69 kS9))
        rename_i hHeld
        clear hHeld m3 m0 m1 m2 j3 j0 j1 j2 k3 k0 k1 k2
        go_wp2_with fail
        rw [Exit.noGoto_ret]
        have hL : L.load st L.fin last = ({ L with parts := L.parts ++ [⟨L.fin, xs.length, s⟩], recs := L.recs ++ xs }, (st.read (fileName L.name L.fin)).1.truncate (fileName L.name L.fin) s) := by
          unfold LogS.load
          rw [He.out, if_neg (by simp), if_neg (by simp), Hbs.out, Hsc.out, if_neg (by rcases Hee.out with e | ⟨e, e'⟩ <;> simp [e, *]), if_pos hlt]
        have kE := (Keep.refl (· = w.heap.size + 1 + 1) w9).setCell ⟨w.heap.size + 1 + 1, 0, none⟩ (.int .i64 ((st.read (fileName L.name L.fin)).1.truncate (fileName L.name L.fin) s).2) (fun _ => rfl)
        have nDF : D ∉ F := fun hf => disk_not_book Hd7.out D hf (.inr ⟨_, HD7.out⟩)
        have hD9' := (Hkk9.out.block D (lt_of_heap HD7.out) nDF).trans HD7.out
        have hb6 : ¬ D = w.heap.size + 1 + 1 := fun e => by subst e; have := HB69.out; unfold Cells at this; rw [hD9'] at this; cases this
        refine ⟨by simp, .inl ⟨_, _, rfl, run_takeDeferred ((kE.block D (lt_of_heap hD9') hb6).trans hD9'), ?_⟩⟩
        have hDE := (kE.block D (lt_of_heap hD9') hb6).trans hD9'
        refine ⟨_, results_cell_int rfl _ _ (w.heap.size + 1 + 1) .i64 _ (by rfl) (put_cell (v := .int .i64 ((st.read (fileName L.name L.fin)).1.truncate (fileName L.name L.fin) s).2) hDE (HB69.out.set 0 (.int .i64 ((st.read (fileName L.name L.fin)).1.truncate (fileName L.name L.fin) s).2)) (by rfl)) uErrno, ?_⟩
        refine LoadPost.put ?_ hDE (by have := HKw0.out.size; have := Hk6.out.size; omega) _
        have hnb : NoBytes w9 tByte (· = w.heap.size + 1 + 1) := fun k hk => by subst hk; exact HB69.out.noBytes (by decide)
        have lw : LogAt wc lb d _ _ := ⟨_, _, _, HR7.out, rfl⟩
        have lR9 := HR7.out.keep Hkk9.out hlbF (fun b hb => lw.apart Hd7.out b (by simp [hb])) (fun b hb => lw.apart Hd7.out b (by simp [hb])) Hd7.out.noBytes
        have o1 : ∀ b, (Value.slice (some ⟨gg, 0, none⟩) (L.parts.length + 1) cap).ownBlock = some b → ¬ b = w.heap.size + 1 + 1 := fun b hb e => by subst e; obtain ⟨_, cur, hc⟩ := row_kind (b := w.heap.size + 1 + 1) lR9.2.1 hb; exact Cells.ne (w := w9) hc HB69.out (by decide) rfl
        have o2 : ∀ b, rv'.ownBlock = some b → ¬ b = w.heap.size + 1 + 1 := fun b hb e => by subst e; obtain ⟨_, cur, hc⟩ := row_kind (b := w.heap.size + 1 + 1) lR9.2.2.1 hb; exact Cells.ne (w := w9) hc HB69.out (by decide) rfl
        refine ⟨by rw [hL], F2, _, by rw [hL]; exact HD9.out.keep kE (fun b hb e => by subst e; rcases HD9.out.kinds _ hb _ _ _ HB69.out with e | e <;> cases e) hnb, fun _ => by rw [hL]; exact ⟨_, _, _, lR9.keep kE (Cells.ne lR9.1 HB69.out (by decide)) o1 o2 hnb, rfl⟩, (Hkwc.out.trans Hkk9.out (fun b h _ => .inl h)).setCell _ _ (fun q => absurd q (by show ¬ w.heap.size + 1 + 1 < _; omega)), fun b hb => (HF9.out b hb).imp (fun h => h) (fun h => Nat.le_trans Hkwc.out.size (Nat.le_trans Hk8.out.size h)), Hfr.out⟩
      · have q1 : decide ((s : Int) < (bs.length : Int)) = false := by simp; omega
        have q2 : decide (s < bs.length) = false := by simp; omega
        go_wp2_with fail
        have hL : L.load st L.fin last = ({ L with parts := L.parts ++ [⟨L.fin, xs.length, s⟩], recs := L.recs ++ xs }, (st.read (fileName L.name L.fin)).1, 0) := by
          unfold LogS.load
          rw [He.out, if_neg (by simp), if_neg (by simp), Hbs.out, Hsc.out, if_neg (by rcases Hee.out with e | ⟨e, e'⟩ <;> simp [e, *]), if_neg hlt]
        have kE : Keep (· = w.heap.size + 1 + 1) wc (wc.setCell ⟨w.heap.size + 1 + 1, 0, none⟩ (.int .i64 0)) := (Keep.refl _ wc).setCell _ _ (fun _ => rfl)
        rw [Exit.noGoto_ret]
        have hb6 : ¬ D = w.heap.size + 1 + 1 := fun e => by subst e; have := HB6.out; unfold Cells at this; rw [HD7.out] at this; cases this
        refine ⟨by simp, .inl ⟨_, _, rfl, run_takeDeferred ((kE.block D (lt_of_heap HD7.out) hb6).trans HD7.out), ?_⟩⟩
        have hDE := (kE.block D (lt_of_heap HD7.out) hb6).trans HD7.out
        refine ⟨_, results_cell_int rfl _ _ (w.heap.size + 1 + 1) .i64 _ (by rfl) (put_cell (v := .int .i64 0) hDE (HB6.out.set 0 (.int .i64 0)) (by rfl)) uErrno, ?_⟩
        refine LoadPost.put ?_ hDE (by have := HKw0.out.size; have := Hk6.out.size; omega) _
        have hnb : NoBytes wc tByte (· = w.heap.size + 1 + 1) := fun k hk => by subst hk; exact HB6.out.noBytes (by decide)
        have o1 : ∀ b, (Value.slice (some ⟨gg, 0, none⟩) (L.parts.length + 1) cap).ownBlock = some b → ¬ b = w.heap.size + 1 + 1 := fun b hb e => by subst e; obtain ⟨_, cur, hc⟩ := row_kind (b := w.heap.size + 1 + 1) HR7.out.2.1 hb; exact Cells.ne (w := wc) hc HB6.out (by decide) rfl
        have o2 : ∀ b, rv'.ownBlock = some b → ¬ b = w.heap.size + 1 + 1 := fun b hb e => by subst e; obtain ⟨_, cur, hc⟩ := row_kind (b := w.heap.size + 1 + 1) HR7.out.2.2.1 hb; exact Cells.ne (w := wc) hc HB6.out (by decide) rfl
        refine ⟨by rw [hL], F, _, by rw [hL]; exact Hd7.out.keep kE (fun b hb e => by have := Hd.out.lt hb; omega) hnb, fun _ => by rw [hL]; exact ⟨_, _, _, HR7.out.keep kE (Cells.ne HR7.out.1 HB6.out (by decide)) o1 o2 hnb, rfl⟩, Hkwc.out.setCell _ _ (fun q => absurd q (by show ¬ w.heap.size + 1 + 1 < _; omega)), fun _ h => .inl h, Hfr.out⟩
  refine (wpIn_wide (n := 9)).1 ?_
  refine wpIn_rangeFunc_state (F := Fence.wide) (n := 9) rfl (by omega) hE trivial (enters_of Tryz.func59 (by kernel_rfl) rfl) hit
    (fun W W' b ht hb hl => ht.1.block b hl (fun e => by omega)) (fun h k => KpF.trans h k) (fun W l r o' hl hle => KpF.put _ W l r o' hl (by omega)) (fun _ => rfl)
    (fun s x W l r o' hl hok => ⟨hok.1, hok.2.1.keep (keep_putObj hl) (fun k hk c fz e => by subst hk; rw [hl] at e; cases e), hok.2.2⟩)
    (fun rest W => ∃ xs s rv' vs', True ∧ LoadI w6 lb d pb w.heap.size (w.heap.size + 1) (w.heap.size + 1 + 1) w5.heap.size L (st.read (fileName L.name L.fin)).1 F pv rv last 0 bs rest xs s rv' vs' W)
    (fun c W => LoadX w6 lb d pb w.heap.size (w.heap.size + 1) (w.heap.size + 1 + 1) w5.heap.size L (st.read (fileName L.name L.fin)).1 F pv rv last bs c W)
    (fun rest => LoadI.abides ne _) (fun c => LoadX.abides ne c) ?h0 (fun x => { tmps := (((A.tmps.setIfInBounds 37 x.1).setIfInBounds 38 (.int .i64 x.2)).setIfInBounds 10 x.1).setIfInBounds 11 (.int .i64 x.2), defers := [] }) ?assign ?body ?done ?stop
  case assign =>
    intro l x W K hK
    exact assign_load A (by rw [← hA]; rfl) x W K hK
  case h0 =>
    have hl6 := HR3.out.keep Hk6.out (fun f => f) (fun _ _ f => f) (fun _ _ f => f) (NoBytes.no _ _)
    refine ⟨[], 0, rv, vs, trivial, ⟨⟨by simpa using hl6, HD3.out.keep Hk6.out (fun _ _ f => f) (NoBytes.no _ _), HP6.out, B3.out.keep hk46 (fun f => f), B5.out.keep Hk6.out (fun f => f), B6.out.keep hk46 (fun f => f)⟩, .nil, HBx.out.noBytes (by decide), .inl rfl, Keep.refl _ _⟩⟩
  case body =>
    intro l D rest x W r dd hl hD hlw hDw hI hok
    clear hit
    subst hA
    obtain ⟨xs, s, rv', vs', -, hLI⟩ := hI
    obtain ⟨x1, x2⟩ := x
    obtain ⟨hne, hbx, he2⟩ := hok
    simp only at hne hbx he2
    have b3 := hLI.at_.b3
    have b5 := hLI.at_.b5
    have b6 := hLI.at_.b6
    have c3 := b3.cell 0
    have c5 := b5.cell 0
    have c6 := b6.cell 0
    have f6 := b6.free 0
    simp only [List.getElem?_toArray, List.getElem?_cons_succ, List.getElem?_cons_zero] at c3 c5 c6
    have HLI := Lib.hid hLI
    have Hl := Lib.hid hl
    have HDd := Lib.hid hD
    have Hne := Lib.hid hne
    have Hbx := Lib.hid hbx
    have HNe := Lib.hid ne
    clear hLI b3 b5 b6 hl hD hne hbx ne hE
    dsimp only
    rcases nextB_err rest with h0 | h10 | h34
    · have Hh := Lib.hid h0
      rw [h0] at he2
      subst he2
      obtain ⟨hN1, hN2⟩ := nextB_ok h0
      have hlen := HLI.out.scan.len
      clear h0
      obtain ⟨A1, d1, rfl⟩ := Hbx.out.form
      obtain ⟨m, hm⟩ : ∃ m, (nextB rest).1.length = m := ⟨_, rfl⟩
      rw [hm] at hN1 Hbx ⊢
      have hs1 : s + (12 + m) ≤ 1073741824 := by have := hbsl; omega
      have hx1 : xs.length < 1073741824 := by omega
      have HN1 := Lib.hid hN1
      have Hlen := Lib.hid hlen
      have Hm := Lib.hid hm
      clear hN1 hlen hm
      obtain ⟨j0, hj0, hy0, hy1, hy2⟩ := info_parts iBytes
      have hrl : L.recs.length < 4000000000 := by have := Hok.out.fin; unfold LogS.fin at this; omega
      have ngW : NG ≤ W.heap.size := Nat.le_trans Htab.out.size (Nat.le_trans HKw.out.size (Nat.le_trans Hk6.out.size HLI.out.keep.size))
      have hlog := HLI.out.at_.log
      have y4 := hlog.1.cell 4
      have y4f := hlog.1.free 4
      have y1 := HLI.out.at_.part.cell 1
      have y2 := HLI.out.at_.part.cell 2
      simp only [List.getElem?_toArray, List.getElem?_cons_succ, List.getElem?_cons_zero] at y4 y1 y2
      have hlbW := hlog.1.lt
      have hB3W := HLI.out.at_.b3.lt
      have hrow : ∀ b, rv'.ownBlock = some b → NG ≤ b ∧ ∃ cur, W.heap[b]? = some (.cells cur tBytes (0, 0)) := fun b hb => row_kind hlog.2.2.1 hb
      have rvlb : ∀ b, rv'.ownBlock = some b → b ≠ lb := hlog.apart.2.1
      have Hlog := Lib.hid hlog
      have Rvlb := Lib.hid rvlb
      have Hrow := Lib.hid hrow
      clear hlog rvlb hrow
      gi_wp2
      refine wpIn_region_held (S := fun W => W.cell? ⟨w.heap.size, 0, none⟩ = some (ptr lb)) (by kernel_rfl) ?hd ?hL ?_
      case hd =>
        intro i o ho c
        have hmm := Array.mem_of_getElem? ho
        simp only [List.mem_toArray, List.mem_cons, List.not_mem_nil, or_false] at hmm
        rcases hmm with rfl | rfl | rfl | rfl | rfl | rfl | rfl | rfl | rfl | rfl | rfl <;> (intro e; cases e)
      case hL => 
        rintro ⟨a, w, h⟩
        exact h
      have hS0 : W.drew.cell? ⟨w.heap.size, 0, none⟩ = some (ptr lb) := c3
      have hS1 : (W.drew.alloc (.cells #[Value.slice A1 m d1] tBytes)).cell? ⟨w.heap.size, 0, none⟩ = some (ptr lb) := (((Keep.refl No W).drew.alloc _).cell (a := ⟨w.heap.size, 0, none⟩) hB3W (fun f => f)).trans c3
      have y4a : (W.drew.alloc (.cells #[Value.slice A1 m d1] tBytes)).cell? ⟨lb, 4, none⟩ = some rv' := (((Keep.refl No W).drew.alloc _).cell (a := ⟨lb, 4, none⟩) hlbW (fun f => f)).trans y4
      refine wpAnyH_take (i := 0) (v := ?_) rfl (by kernel_rfl) (by kernel_rfl) (by kernel_rfl) (fun _ _ _ h => h) (Or.inl ⟨by rfl, ?hy⟩) (by assumption) ?rest
      case hy => (intro w hSw; (try dsimp only at hSw); go_simp; try with_reducible rfl)
      case rest =>
      simp only [List.getElem_toArray, List.getElem_cons_zero, List.getElem_cons_succ, Act.put, List.setIfInBounds_toArray, List.set_cons_zero, List.set_cons_succ]
      refine wpAnyH_take (i := 1) (v := ?_) rfl (by kernel_rfl) (by kernel_rfl) (by kernel_rfl) (fun _ _ _ h => h) (Or.inl ⟨by rfl, ?hy⟩) (by assumption) ?rest
      case hy => (intro w hSw; (try dsimp only at hSw); go_simp; try with_reducible rfl)
      case rest =>
      simp only [List.getElem_toArray, List.getElem_cons_zero, List.getElem_cons_succ, Act.put, List.setIfInBounds_toArray, List.set_cons_zero, List.set_cons_succ]
      refine wpAnyH_take (i := 2) (v := ?_) rfl (by kernel_rfl) (by kernel_rfl) (by kernel_rfl) (fun _ _ _ h => h) (Or.inl ⟨by rfl, ?hy⟩) (by assumption) ?rest
      case hy => (intro w hSw; (try dsimp only at hSw); go_simp; try with_reducible rfl)
      case rest =>
      simp only [List.getElem_toArray, List.getElem_cons_zero, List.getElem_cons_succ, Act.put, List.setIfInBounds_toArray, List.set_cons_zero, List.set_cons_succ]
      refine wpAnyH_take (i := 3) (v := ?_) rfl (by kernel_rfl) (by kernel_rfl) (by kernel_rfl) (fun _ _ _ h => h) (Or.inl ⟨by rfl, ?hy⟩) (by assumption) ?rest
      case hy => (intro w hSw; (try dsimp only at hSw); go_simp; try with_reducible rfl)
      case rest =>
      simp only [List.getElem_toArray, List.getElem_cons_zero, List.getElem_cons_succ, Act.put, List.setIfInBounds_toArray, List.set_cons_zero, List.set_cons_succ]
      refine wpAnyH_take (i := 5) (v := ?_) rfl (by kernel_rfl) (by kernel_rfl) (by kernel_rfl) (fun _ _ _ h => h) (Or.inl ⟨by rfl, ?hy⟩) (by assumption) ?rest
      case hy => (intro w hSw; (try dsimp only at hSw); go_simp; try with_reducible rfl)
      case rest =>
      simp only [List.getElem_toArray, List.getElem_cons_zero, List.getElem_cons_succ, Act.put, List.setIfInBounds_toArray, List.set_cons_zero, List.set_cons_succ]
      refine wpAnyH_ready (rs := [4, 6]) (by kernel_rfl) (by simp) ?_
      refine AllReadyH.cons (i := 4) rfl (fun K hK => ?g1) (AllReadyH.cons (i := 6) rfl (fun K hK => ?g2) AllReadyH.nil)
      case' g1 =>
        try simp only [List.getElem_toArray, List.getElem_cons_zero, List.getElem_cons_succ, Act.put, List.setIfInBounds_toArray, List.set_cons_zero, List.set_cons_succ]
        go_simp
        refine hK.out _ _ hS0 (fun _ => ?_); clear hK K
        trace "4"
        try simp only [List.getElem_toArray, List.getElem_cons_zero, List.getElem_cons_succ, Act.put, List.setIfInBounds_toArray, List.set_cons_zero, List.set_cons_succ]
        refine wpAnyH_ready (rs := [6]) (by kernel_rfl) (by simp) ?_
        refine AllReadyH.cons (i := 6) rfl (fun K hK => ?_) AllReadyH.nil
        try simp only [List.getElem_toArray, List.getElem_cons_zero, List.getElem_cons_succ, Act.put, List.setIfInBounds_toArray, List.set_cons_zero, List.set_cons_succ]
        go_simp
        refine hK.out _ _ hS1 (fun _ => ?_); clear hK K
        try simp only [List.getElem_toArray, List.getElem_cons_zero, List.getElem_cons_succ, Act.put, List.setIfInBounds_toArray, List.set_cons_zero, List.set_cons_succ]
      case' g2 =>
        try simp only [List.getElem_toArray, List.getElem_cons_zero, List.getElem_cons_succ, Act.put, List.setIfInBounds_toArray, List.set_cons_zero, List.set_cons_succ]
        go_simp
        refine hK.out _ _ hS1 (fun _ => ?_); clear hK K
        trace "6"
        try simp only [List.getElem_toArray, List.getElem_cons_zero, List.getElem_cons_succ, Act.put, List.setIfInBounds_toArray, List.set_cons_zero, List.set_cons_succ]
        refine wpAnyH_ready (rs := [4]) (by kernel_rfl) (by simp) ?_
        refine AllReadyH.cons (i := 4) rfl (fun K hK => ?_) AllReadyH.nil
        try simp only [List.getElem_toArray, List.getElem_cons_zero, List.getElem_cons_succ, Act.put, List.setIfInBounds_toArray, List.set_cons_zero, List.set_cons_succ]
        go_simp
        refine hK.out _ _ hS1 (fun _ => ?_); clear hK K
        try simp only [List.getElem_toArray, List.getElem_cons_zero, List.getElem_cons_succ, Act.put, List.setIfInBounds_toArray, List.set_cons_zero, List.set_cons_succ]
      all_goals
        obtain ⟨X, hX⟩ : ∃ X, (W.alloc (Obj.cells #[Value.slice A1 m d1] tBytes)).drew = X := ⟨_, rfl⟩
        rw [hX]
        have kX : Keep No W X := by rw [← hX]; exact ((Keep.refl No W).alloc _).drew
        have cX : Cells X W.heap.size tBytes #[Value.slice A1 m d1] := by rw [← hX]; exact Cells.new W _ _
        have sX : X.heap.size = W.heap.size + 1 := by rw [← hX]; simp
        clear hX hS0 hS1 y4a
        refine wpAnyH_ready (rs := [7]) (by kernel_rfl) (by simp) ?_
        refine AllReadyH.cons (i := 7) (o := { dst := some 55, op := .call { callee := .builtin .append, args := #[.tmp 52, .tmp 54], argTypes := #[tRecs, tRecs] }, type := tRecs, pos := "wal.go:132", after := #[{ on := 4, ground := .data }, { on := 6, ground := .data }], guard := none }) rfl (fun K hK => ?_) AllReadyH.nil
        refine step_append_lies _ (by rfl) _ _ _ (by rfl) NG tBytes j0 _ 1 24 uRecs hj0 hy0 hy1 hy2 rfl (by omega) rv' (L.recs.length + xs.length) vs' (by rfl) (row_keep (by have := Hlog.out.2.2.1; rwa [List.length_append] at this) kX (fun _ _ f => f)) (⟨W.heap.size, 0, none⟩ : Addr) 1 1 [.slice A1 m d1] (by rfl) (by rfl) (World.news_of_block (cs := #[.slice A1 m d1]) (t := tBytes) (fr := (0, 0)) cX) (by simp [Value.oneCell']) (by omega) (by unfold maxLen; omega) (by omega) (by omega) (W.heap.size + 1) sX ?_
        intro gg cap w9 hown9 hgrow hat9 hlt9
        try simp only [List.getElem_toArray, List.getElem_cons_zero, List.getElem_cons_succ, Act.put, List.setIfInBounds_toArray, List.set_cons_zero, List.set_cons_succ]
        have kk : Keep (fun b => some b = rv'.ownBlock) W w9 := Keep.trans (T := fun b => some b = rv'.ownBlock) (kX.mono (fun _ f _ => f.elim)) (Keep.of_grown hgrow) (fun _ h _ => h)
        have z4f : w9.frozen? ⟨lb, 4, none⟩ = false := (kk.frozen (a := ⟨lb, 4, none⟩) hlbW (fun e => Rvlb.out lb e.symm rfl)).trans y4f
        have z4 : w9.cell? ⟨lb, 4, none⟩ = some rv' := (kk.cell (a := ⟨lb, 4, none⟩) hlbW (fun e => Rvlb.out lb e.symm rfl)).trans y4
        have hS2 : w9.cell? ⟨w.heap.size, 0, none⟩ = some (ptr lb) := (kk.cell (a := ⟨w.heap.size, 0, none⟩) hB3W (fun e => by obtain ⟨_, cur, hc⟩ := Hrow.out _ e.symm; exact Cells.ne (w := W) hc HLI.out.at_.b3 (by decide) rfl)).trans c3
        have hb9 := Hbx.out.keep kk (row_noBytes Hlog.out.2.2.1 (by decide))
        have Hown9 := Lib.hid hown9
        have Hkk := Lib.hid kk
        have Hat9 := Lib.hid hat9
        have Hb9 := Lib.hid hb9
        clear hown9 kk hgrow hat9 hb9 kX cX sX
        refine hK.out _ _ hS2 (fun _ => ?_); clear hK K
        refine wpAnyH_take (i := 8) (v := ?_) rfl (by kernel_rfl) (by kernel_rfl) (by kernel_rfl) (fun _ _ _ h => h) (Or.inl ⟨by rfl, ?hy⟩) (by assumption) ?rest
        case hy => (intro w hSw; (try dsimp only at hSw); go_simp; try with_reducible rfl)
        case rest =>
        try simp only [List.getElem_toArray, List.getElem_cons_zero, List.getElem_cons_succ, Act.put, List.setIfInBounds_toArray, List.set_cons_zero, List.set_cons_succ]
        refine wpAnyH_take (i := 9) (v := ?_) rfl (by kernel_rfl) (by kernel_rfl) (by kernel_rfl) (fun _ _ _ h => h) (Or.inl ⟨by rfl, ?hy⟩) (by assumption) ?rest
        case hy => (intro w hSw; (try dsimp only at hSw); go_simp; try with_reducible rfl)
        case rest =>
        try simp only [List.getElem_toArray, List.getElem_cons_zero, List.getElem_cons_succ, Act.put, List.setIfInBounds_toArray, List.set_cons_zero, List.set_cons_succ]
        refine wpAnyH_ready (rs := [10]) (by kernel_rfl) (by simp) ?_
        refine AllReadyH.cons (i := 10) rfl (fun K hK => ?_) AllReadyH.nil
        try simp only [List.getElem_toArray, List.getElem_cons_zero, List.getElem_cons_succ, Act.put, List.setIfInBounds_toArray, List.set_cons_zero, List.set_cons_succ]
        go_simp
        have kS : Keep (· = lb) w9 (w9.setCell ⟨lb, 4, none⟩ (.slice (some ⟨gg, 0, none⟩) (L.recs.length + xs.length + 1) cap)) := (Keep.refl _ w9).setCell _ _ (fun _ => rfl)
        have hS3 : (w9.setCell ⟨lb, 4, none⟩ (.slice (some ⟨gg, 0, none⟩) (L.recs.length + xs.length + 1) cap)).cell? ⟨w.heap.size, 0, none⟩ = some (ptr lb) := (kS.cell (a := ⟨w.heap.size, 0, none⟩) (Nat.lt_of_lt_of_le hB3W Hkk.out.size) (fun e => Cells.ne HLI.out.at_.b3 Hlog.out.1 (by decide) e)).trans hS2
        refine hK.out _ _ hS3 (fun _ => ?_); clear hK K
        refine wpAnyH_done (by kernel_rfl) ?_ _
        have hpW := HLI.out.at_.part.lt
        have k9 := fun (i : Nat) => (kS.cell (a := ⟨pb, i, none⟩) (Nat.lt_of_lt_of_le hpW Hkk.out.size) (fun e => Cells.ne HLI.out.at_.part Hlog.out.1 (by decide) e)).trans (Hkk.out.cell (a := ⟨pb, i, none⟩) hpW (fun e => by obtain ⟨_, cur, hc⟩ := Hrow.out _ e.symm; exact Cells.ne (w := W) hc HLI.out.at_.part (by decide) rfl))
        have k9f := fun (i : Nat) => (kS.frozen (a := ⟨pb, i, none⟩) (Nat.lt_of_lt_of_le hpW Hkk.out.size) (fun e => Cells.ne HLI.out.at_.part Hlog.out.1 (by decide) e)).trans ((Hkk.out.frozen (a := ⟨pb, i, none⟩) hpW (fun e => by obtain ⟨_, cur, hc⟩ := Hrow.out _ e.symm; exact Cells.ne (w := W) hc HLI.out.at_.part (by decide) rfl)).trans (HLI.out.at_.part.free i))
        obtain ⟨Y, hY⟩ : ∃ Y, w9.setCell ⟨lb, 4, none⟩ (.slice (some ⟨gg, 0, none⟩) (L.recs.length + xs.length + 1) cap) = Y := ⟨_, rfl⟩
        rw [hY] at k9 k9f ⊢
        have p1 : Y.cell? ⟨pb, 1, none⟩ = some (.int .i64 (xs.length : Nat)) := (k9 1).trans y1
        have p2 : Y.cell? ⟨pb, 2, none⟩ = some (.int .i64 (s : Nat)) := (k9 2).trans y2
        have p1f : Y.frozen? ⟨pb, 1, none⟩ = false := k9f 1
        have p2f : Y.frozen? ⟨pb, 2, none⟩ = false := k9f 2
        have HY := Lib.hid hY
        clear hY k9 k9f kS hS2 hS3 z4 z4f y4 y4f y1 y2
        gi_wp2
        obtain ⟨g1, g2, g3⟩ := HLI.out.more HNe.out Hne.out Hh.out Hkk.out Hb9.out Hown9.out (Hat9.out.imp (fun e => e.symm) (fun e b hb => by rw [← Option.some.inj hb]; show _ ≤ gg; omega))
        have e1 : ((s + (nextB rest).2.1 : Nat) : Int) = (s : Int) + (12 + (m : Int)) := by rw [HN1.out]; rfl
        have e2 : ((xs.length + 1 : Nat) : Int) = (xs.length : Int) + 1 := rfl
        rw [e1, e2, HY.out] at g1 g2 g3
        have hcl : ∀ (k : Nat) (o : Obj), W.heap[k]? = some o → (∀ cs t fz, o ≠ .cells cs t fz) → ¬ (k = lb ∨ k = pb ∨ some k = rv'.ownBlock) := by
          rintro k o hk ho (e | e | e)
          · subst e; have := Hlog.out.1; unfold Cells at this; rw [hk] at this; exact ho _ _ _ (Option.some.inj this)
          · subst e; have := HLI.out.at_.part; unfold Cells at this; rw [hk] at this; exact ho _ _ _ (Option.some.inj this)
          · obtain ⟨_, cur, hc⟩ := Hrow.out _ e.symm; rw [hk] at hc; exact ho _ _ _ (Option.some.inj hc)
        exact ⟨trivial, g3.block l (lt_of_heap Hl.out) (hcl _ _ Hl.out (fun _ _ _ e => by cases e)), g3.block D (lt_of_heap HDd.out) (hcl _ _ HDd.out (fun _ _ _ e => by cases e)), g2, _, _, _, _, g1⟩
    · have Hh := Lib.hid h10
      rw [h10] at he2
      subst he2
      clear h10
      cases last
      · gi_wp2
        obtain ⟨h1, k1⟩ := HLI.out.setRes HNe.out 34
        exact ⟨k1.block l (lt_of_heap Hl.out) (fun e => by subst e; have := HLI.out.at_.b6; unfold Cells at this; rw [Hl.out] at this; cases this), k1.block D (lt_of_heap HDd.out) (fun e => by subst e; have := HLI.out.at_.b6; unfold Cells at this; rw [HDd.out] at this; cases this),
          rest, xs, s, rv', vs', 34, .inr ⟨rfl, rfl, .inr ⟨Hh.out, rfl⟩⟩, Hne.out, h1⟩
      · gi_wp2
        exact ⟨rfl, rfl, rest, xs, s, rv', vs', 0, .inl ⟨rfl, rfl, rfl, Hh.out⟩, Hne.out, HLI.out⟩
    · have Hh := Lib.hid h34
      rw [h34] at he2
      subst he2
      clear h34
      gi_wp2
      obtain ⟨h1, k1⟩ := HLI.out.setRes HNe.out 34
      exact ⟨k1.block l (lt_of_heap Hl.out) (fun e => by subst e; have := HLI.out.at_.b6; unfold Cells at this; rw [Hl.out] at this; cases this), k1.block D (lt_of_heap HDd.out) (fun e => by subst e; have := HLI.out.at_.b6; unfold Cells at this; rw [HDd.out] at this; cases this),
        rest, xs, s, rv', vs', 34, .inr ⟨rfl, rfl, .inl Hh.out⟩, Hne.out, h1⟩
  case done =>
    intro D rest W hfin hI hDw hD
    obtain ⟨xs, s, rv', vs', -, hLI⟩ := hI
    subst hfin
    obtain ⟨hs1, hs2⟩ := hLI.scan.fin
    refine htail D W _ xs s rv' vs' 0 hLI hs1 (.inl rfl) hDw hD
  case stop =>
    intro D c W hX hDw hD
    obtain ⟨rest, xs, s, rv', vs', res, hc, hne, hLI⟩ := hX
    rcases hc with ⟨rfl, rfl, rfl, h10⟩ | ⟨rfl, rfl, hc⟩
    · refine wpIn_exit ?_
      have hsc := hLI.scan.cut hne (by rw [h10]; simp)
      rw [h10] at hsc
      exact htail D W _ xs s rv' vs' 10 hLI hsc (.inr ⟨rfl, rfl⟩) hDw hD
    · refine wpIn_ret ?_
      have hsc : (scanB bs).2.2 = 34 ∨ (scanB bs).2.2 ≠ 0 ∧ last = false := by
        have := hLI.scan.cut hne (by rcases hc with h | ⟨h, _⟩ <;> rw [h] <;> simp)
        rw [this]
        rcases hc with h | ⟨h, hl⟩
        · exact .inl h
        · exact .inr ⟨by simp [h], hl⟩
      have hL : L.load st L.fin last = (L, (st.read (fileName L.name L.fin)).1, 34) := by
        unfold LogS.load
        rw [He.out, if_neg (by simp), if_neg (by simp), Hbs.out, if_pos hsc]
      show bodyPostM Fence.wide 9 Tryz.prog Tryz.f26 _ .ret _ _
      subst hA
      refine ⟨by simp, .inl ⟨_, _, rfl, run_takeDeferred hD, ?_⟩⟩
      have hw3 := HKw0.out.size
      have hw5 := HK5.out.size
      have hw6 := Hk6.out.size
      refine ⟨_, results_cell_int rfl _ _ (w.heap.size + 1 + 1) .i64 _ (by rfl) (put_cell (v := .int .i64 34) hD hLI.at_.b6 (by rfl)) uErrno, ?_⟩
      refine LoadPost.put ?_ hD (by omega) _
      refine ⟨by rw [hL], F, [], by rw [hL]; exact hLI.at_.disk, (fun q => by rw [hL] at q; cases q), ((HKw0.out.mono (fun _ h _ => Or.inl h)).trans Hk6.out (fun _ f => f.elim)).trans hLI.keep (fun b hb hl => by
          rcases hb with e | e | e | e | e
          · exact .inr (by simp [e])
          · omega
          · omega
          · exact .inr (by simp [← e])
          · omega), fun _ h => .inl h, by simp⟩
end Go.Proofs.YtbmejbmkaoekgaaGreatDoor
