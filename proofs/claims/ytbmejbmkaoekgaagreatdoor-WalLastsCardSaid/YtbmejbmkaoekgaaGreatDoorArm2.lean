/- disk.Arm, walked. -/
import Derived.Test.YtbmejbmkaoekgaaGreatDoorArm
import Derived.Deep.LoopGhost
import Derived.Deep.Cut
import Derived.IntWalk
import Derived.Maps.RangeWalk
namespace Go.Proofs.YtbmejbmkaoekgaaGreatDoor
open Go Go.RowKit
set_option linter.unusedVariables false
set_option linter.unusedSimpArgs false

theorem DiskR.planSet {w w' : World} {d : Nat} {st : DiskS} {F : List Nat} {fm pm : Nat} {R : List (FileS × Nat)} {pl pl' : List (Int × Int)} (h : DiskR w d { st with plan := pl } F fm (.map (some pm)) [pm] R) (k : Keep (· = pm) w w')
    (hm : IsMap w' pm (.int .i64) (Value.int .i64) (pl'.map fun q => (q.1, Value.int .i64 q.2))) : DiskR w' d { st with plan := pl' } F fm (.map (some pm)) [pm] R := by
  obtain ⟨rfl, h2, h3, h4, h5, h6, h7, h8, h9⟩ := h
  have hpm : IsMap w pm (.int .i64) (Value.int .i64) (pl.map fun q => (q.1, Value.int .i64 q.2)) := by
    rcases h4 with ⟨e, _, _⟩ | ⟨q, e1, e2, e3⟩
    · cases e
    · injection e2 with e2; subst e2; exact e3
  have hnb : NoBytes w tByte (· = pm) := fun b hb c fz e => by have e' : b = pm := hb; subst e'; exact hpm.noBytes _ _ _ e
  simp only [List.nodup_cons, List.mem_cons, List.mem_append, not_or, List.cons_append, List.nil_append] at h7
  refine ⟨rfl, h2, h3.keep k (fun e => h7.1.2.1 e), .inr ⟨pm, rfl, rfl, hm⟩, h5.keep k (fun e => h7.2.1.1 e), fun r hr => (h6 r hr).keep k (fun e => ?_) hnb, by simp only [List.nodup_cons, List.mem_cons, List.mem_append, not_or, List.cons_append, List.nil_append]; exact h7, h8, ⟨h9.room, h9.used, h9.many, h9.safe, h9.names, h9.short⟩⟩
  exact h7.2.2.1 (List.mem_map.2 ⟨r, hr, e⟩)

/-- What Arm leaves: an error and all as it was, or some plan. -/
def ArmPost (w : World) (d : Nat) (st : DiskS) (F : List Nat) (e : Ending) (w' : World) : Prop :=
  ∃ ee F', e = .returned (.int .i64 ee) ∧ Keep (· ∈ F) w w' ∧ (∀ b ∈ F', b ∈ F ∨ w.heap.size ≤ b) ∧ ((ee ≠ 0 ∧ DiskAt w' d st F') ∨ (ee = 0 ∧ ∃ pl, DiskAt w' d { st with plan := pl } F'))

set_option maxRecDepth 100000 in
set_option maxHeartbeats 4000000 in
theorem arm_go (w : World) (d : Nat) (st : DiskS) (F : List Nat) (u : Value) (l : List (Int × Int)) (hd : DiskAt w d st F) (hu : PList w w.heap.size u l) (hst : st.steps ≤ 4611686018427387904) (hng : NG ≤ w.heap.size) :
    Calls Tryz.prog 13 #[ptr d, u] w (ArmPost w d st F) := by
  have Hd := Lib.hid hd
  have Hu := Lib.hid hu
  obtain ⟨A, c, rfl, hc1, hc2, _⟩ := hu
  have hmm := @run_makeMap Tryz.prog
  have hdl := hd.lt hd.mem
  clear hd
  go_enter Tryz.func13, Tryz.ntmps13
  go_wp2_with fail
  obtain ⟨w1, hw1⟩ : ∃ w1, w.alloc (.map #[] 0) = w1 := ⟨_, rfl⟩
  obtain ⟨nb, hnb⟩ : ∃ nb, w.heap.size = nb := ⟨_, rfl⟩
  have hm1 : IsMap w1 nb (.int .i64) (Value.int .i64) ([] : List (Int × Value)) := by rw [← hw1, ← hnb]; exact IsMap.new w _ _
  have k1 : Keep No w w1 := by rw [← hw1]; exact (Keep.refl No w).alloc _
  have hnb1 : nb < w1.heap.size := hm1.lt
  have Hm1 := Lib.hid hm1
  have K1 := Lib.hid k1
  rw [hw1, hnb]
  have Hnb := Lib.hid hnb
  clear hw1 hnb hm1 k1
  go_loopw [15] (fun i wr => ∃ (k : Nat) (L : List (Int × Int)), k ≤ l.length ∧ i = .int .i64 k ∧ IsMap wr nb (.int .i64) (Value.int .i64) (L.map fun q => (q.1, Value.int .i64 q.2)) ∧ Keep (· = nb) w1 wr ∧ ∀ q ∈ L, 1 ≤ q.1) (fun i _ => l.length - (intOf i).toNat)
  case atStart => exact ⟨0, [], by omega, rfl, Hm1.out, Keep.refl _ _, by simp⟩
  case round =>
    obtain ⟨k, L, hk, rfl, hm, hkw, hL⟩ := hrel
    have Hm := Lib.hid hm
    have Hkw := Lib.hid hkw
    have HL := Lib.hid hL
    clear hm hkw hL
    have kw : Keep (· = nb) w wr := (K1.out.mono (fun _ f _ => f.elim)).trans Hkw.out (fun _ h _ => h)
    have Kw := Lib.hid kw
    clear kw
    by_cases hlt : k < l.length
    · obtain ⟨g, off, c', hv', hg, hc0, hc1'⟩ := (Hu.out.keep Kw.out (fun b hb => by have e : b = nb := hb; have := Hnb.out; omega)).at_ hlt
      injection hv' with hv1 hv2 hv3
      subst hv1
      obtain ⟨p, hp⟩ : ∃ p, l[k] = p := ⟨_, rfl⟩
      rw [hp] at hc0 hc1'
      clear hp hv3
      have hki : (k : Int) < (l.length : Int) := by omega
      go_upto_region 7 with (fail)
      have hmW : IsMap (wr.alloc (.cells #[.int .i64 p.1, .int .i64 p.2] tFault)) nb (.int .i64) (Value.int .i64) (L.map fun q => (q.1, Value.int .i64 q.2)) := Hm.out.keep ((Keep.refl No wr).alloc _) (fun f => f)
      have hlk := hmW.look (P := Tryz.prog) keyish_int uPlan uInt zInt p.1
      rw [getL_plan] at hlk
      obtain ⟨w5, hup, hm5, hk5⟩ := hmW.update (P := Tryz.prog) keyish_int uPlan uInt p.1 (.int .i64 p.2)
      have hb7 : Cells (wr.alloc (.cells #[.int .i64 p.1, .int .i64 p.2] tFault)) wr.heap.size tFault #[.int .i64 p.1, .int .i64 p.2] := Cells.new wr _ _
      have kW : Keep (· = nb) w (wr.alloc (.cells #[.int .i64 p.1, .int .i64 p.2] tFault)) := Kw.out.alloc _
      obtain ⟨W, hW⟩ : ∃ W, wr.alloc (.cells #[.int .i64 p.1, .int .i64 p.2] tFault) = W := ⟨_, rfl⟩
      obtain ⟨b7, hb7e⟩ : ∃ b7, wr.heap.size = b7 := ⟨_, rfl⟩
      rw [hW] at hmW hlk hup hk5 hb7 kW ⊢
      rw [hb7e] at hb7 ⊢
      have c70 := hb7.cell 0
      have c71 := hb7.cell 1
      simp only [List.getElem?_toArray, List.getElem?_cons_succ, List.getElem?_cons_zero] at c70 c71
      have hexit : ArmPost w d st F (.returned (.int .i64 1)) W := ⟨1, F, rfl, kW.mono (fun b hb hl => by have e : b = nb := hb; have := Hnb.out; omega), fun _ h => .inl h, .inl ⟨by decide, Hd.out.keep kW (fun b hb e => by have := Hd.out.lt hb; have e' : b = nb := e; have := Hnb.out; omega) (fun b hb c fz e => by
        have e' : b = nb := hb
        subst e'
        have := Hnb.out
        rw [Array.getElem?_eq_none (by omega)] at e; cases e)⟩⟩
      have Hexit := Lib.hid hexit
      obtain ⟨kd, hkd⟩ : ∃ kd, kindAt L p.1 = kd := ⟨_, rfl⟩
      rw [hkd] at hlk
      have Hm5 := Lib.hid hm5
      have Hk5 := Lib.hid hk5
      have KW := Lib.hid kW
      have HkW := Lib.hid (show Keep (· = nb) w1 W from by rw [← hW]; exact Hkw.out.alloc _)
      clear hmW hm5 hk5 hb7 kW hexit hkd hW hb7e
      by_cases h1 : p.1 < 1
      · have d1 : decide (p.1 < 1) = true := by simpa using h1
        go_wp2_with fail
        go_ret
        exact Hexit.out
      have d1 : decide (p.1 < 1) = false := by simpa using h1
      by_cases h2 : p.2 < 1
      · have d2 : decide (p.2 < 1) = true := by simpa using h2
        go_wp2_with fail
        go_ret
        exact Hexit.out
      have d2 : decide (p.2 < 1) = false := by simpa using h2
      by_cases h3 : 3 < p.2
      · have d3 : decide (3 < p.2) = true := by simpa using h3
        go_wp2_with fail
        go_ret
        exact Hexit.out
      have d3 : decide (3 < p.2) = false := by simpa using h3
      by_cases h4 : 0 < kd
      · have d4 : decide (0 < kd) = true := by simpa using h4
        go_wp2_with fail
        go_ret
        exact Hexit.out
      have d4 : decide (0 < kd) = false := by simpa using h4
      by_cases h5 : 64 < l.length
      · have d5 : decide ((64 : Int) < (l.length : Int)) = true := by simp; omega
        have d6 : decide (64 < l.length) = true := by simp; omega
        go_wp2_with fail
        go_ret
        exact Hexit.out
      have d5 : decide ((64 : Int) < (l.length : Int)) = false := by simp; omega
      have d6 : decide (64 < l.length) = false := by simp; omega
      go_wp2_with fail
      go_roundw
      case rel =>
        obtain ⟨L', e1, e2⟩ := putL_ints L p.1 p.2
        refine ⟨k + 1, L', by omega, by go_num, by rw [← e1]; exact Hm5.out, HkW.out.trans Hk5.out (fun _ h _ => h), fun q hq => ?_⟩
        rcases e2 q hq with h | h
        · exact HL.out q h
        · rw [h]; simp only; omega
      case measure => simp [intOf]; omega
    · have hkl : k = l.length := by omega
      subst hkl
      have hnbF : nb ∉ F := fun hf => by have := Hd.out.lt hf; have := Hnb.out; omega
      have hnoB : NoBytes w tByte (· = nb) := fun b hb c fz e => by
        have e' : b = nb := hb
        subst e'
        have := Hnb.out
        rw [Array.getElem?_eq_none (by omega)] at e; cases e
      obtain ⟨fm, pv, pb, R, hR⟩ := Hd.out.keep Kw.out (fun b hb e => by have e' : b = nb := e; subst e'; exact hnbF hb) hnoB
      have hdw := hR.2.2.1.lt
      have hF := hR.1
      have c2 := hR.2.2.1.cell 2
      have f2 := hR.2.2.1.free 2
      simp only [List.getElem?_toArray, List.getElem?_cons_succ, List.getElem?_cons_zero] at c2
      have HR := Lib.hid hR
      have HF := Lib.hid hF
      clear hR hF
      go_upto_region 12 with (fail)
      have eX : (wr.setCell ⟨d, 2, none⟩ (.map (some wr.heap.size))).alloc (.map #[] 0) = (wr.alloc (.map #[] 0)).setCell ⟨d, 2, none⟩ (.map (some wr.heap.size)) := (World.setCell_alloc_past _ _ _ _ hdw).symm
      rw [eX]
      have hRa := HR.out.keep ((Keep.refl No wr).alloc (.map #[] 0)) (fun _ _ f => f) (NoBytes.no _ _)
      have hRX := hRa.newPlan (pm := wr.heap.size) (IsMap.new wr _ _) (fun hf => by have := HR.out.at_.lt hf; omega) (Nat.le_trans hng Kw.out.size)
      have hmX : IsMap ((wr.alloc (.map #[] 0)).setCell ⟨d, 2, none⟩ (.map (some wr.heap.size))) nb (.int .i64) (Value.int .i64) (L.map fun q => (q.1, Value.int .i64 q.2)) := Hm.out.keep (((Keep.refl (· = d) wr).alloc _).setCell _ _ (fun _ => rfl)) (fun e => hnbF (by have e' : nb = d := e; rw [e']; exact Hd.out.mem))
      have kX : Keep (fun b => b = nb ∨ b = d) w ((wr.alloc (.map #[] 0)).setCell ⟨d, 2, none⟩ (.map (some wr.heap.size))) := ((Kw.out.mono (fun b h _ => .inl h)).alloc _).setCell _ _ (fun _ => .inr rfl)
      obtain ⟨X, hX⟩ : ∃ X, (wr.alloc (.map #[] 0)).setCell ⟨d, 2, none⟩ (.map (some wr.heap.size)) = X := ⟨_, rfl⟩
      obtain ⟨pm, hpm⟩ : ∃ pm, wr.heap.size = pm := ⟨_, rfl⟩
      rw [hX] at hRX hmX kX ⊢
      rw [hpm] at hRX
      have hpmw : w.heap.size < pm := by rw [← hpm]; have := Hm.out.lt; have := Hnb.out; omega
      have hpmn : nb ≠ pm := by have := Hnb.out; omega
      have HmX := Lib.hid hmX
      have HRX := Lib.hid hRX
      have KX := Lib.hid kX
      clear eX hRa hRX hmX kX hX hpm c2 f2
      go_wp2_with (at_range; refine wpList_range_is rfl _ tPlan rfl tInt tInt uPlan HmX.out rfl ?_)
      intro w2 hit hk2
      have Hk2 := Lib.hid hk2
      have Hit := Lib.hid hit
      clear hit hk2
      have hitd : X.heap.size ≠ d := by have := HRX.out.2.2.1.lt; omega
      have hitp : X.heap.size ≠ pm := fun e => by
        rcases HRX.out.2.2.2.1 with ⟨e', _, _⟩ | ⟨q, e1, e2, e3⟩
        · cases e'
        · injection e2 with e2; subst e2; have := e3.lt; omega
      have hitF : ∀ b ∈ (d :: fm :: ([pm] ++ R.map (·.2))), b ≠ X.heap.size := fun b hb e => by have := HRX.out.at_.lt hb; omega
      have Hnit : Hid (∀ (W : World) (left : List (Int × Value)), Iter W X.heap.size nb (.int .i64) (Value.int .i64) (L.map fun q => (q.1, Value.int .i64 q.2)) left → NoBytes W tByte (· = X.heap.size)) := Lib.hid (fun W left h b hb c fz e => by
        have e' : b = X.heap.size := hb
        subst e'
        obtain ⟨_, _, _, _, _, _, _, h4, _⟩ := h
        rw [h4] at e; cases e)
      have hR2 := HRX.out.keep Hk2.out (fun _ _ f => f) (NoBytes.no _ _)
      have HR2 := Lib.hid hR2
      clear hR2
      have HitF := Lib.hid hitF
      clear hitF
      go_wp2_with fail
      go_loopg [] L.length (fun k wr => ∃ (rest : List (Int × Value)) (pl : List (Int × Int)), k = rest.length ∧ Iter wr X.heap.size nb (.int .i64) (Value.int .i64) (L.map fun q => (q.1, Value.int .i64 q.2)) rest ∧ DiskR wr d { st with plan := pl } (d :: fm :: ([pm] ++ R.map (·.2))) fm (.map (some pm)) [pm] R ∧ (∀ q ∈ rest, q ∈ L.map fun q => (q.1, Value.int .i64 q.2)) ∧ Keep (fun b => b = X.heap.size ∨ b = pm) w2 wr)
      case atStart => exact ⟨_, [], by simp, Hit.out, HR2.out, fun _ h => h, Keep.refl _ _⟩
      case round =>
        obtain ⟨rest, pl, rfl, hit, hRr, hsub, hkr⟩ := hrel
        have Hit1 := Lib.hid hit
        have HRr := Lib.hid hRr
        have Hsub := Lib.hid hsub
        have Hkr := Lib.hid hkr
        clear hit hRr hsub hkr
        go_wp2_with (at_next; refine wpList_next_is rfl _ rfl keyish_int Hit1.out rfl ?over ?next)
        case next =>
          intro q1 q2 rest' w3 hperm hit3 hentry hk3
          have hq := Hsub.out (q1, q2) (hperm.mem_iff.2 (.head _))
          obtain ⟨r, hr, hqe⟩ := List.mem_map.1 hq
          injection hqe with e1 e2
          subst e1; subst e2
          have hr1 := HL.out r hr
          have hR3 := HRr.out.keep hk3 (fun b hb e => HitF.out b hb e) (Hnit.out _ _ Hit1.out)
          have HR3 := Lib.hid hR3
          obtain ⟨-, -, hcd, hpp, -⟩ := hR3
          have hpmm : IsMap w3 pm (.int .i64) (Value.int .i64) (pl.map fun q => (q.1, Value.int .i64 q.2)) := by
            rcases hpp with ⟨e, _, _⟩ | ⟨q, e1, e2, e3⟩
            · cases e
            · injection e2 with e2; subst e2; exact e3
          have c2 := hcd.cell 2
          have c3 := hcd.cell 3
          simp only [List.getElem?_toArray, List.getElem?_cons_succ, List.getElem?_cons_zero] at c2 c3
          have Hpm := Lib.hid hpmm
          have Hpl := Lib.hid hperm.length_eq
          have Hsub3 : Hid (∀ q ∈ rest', q ∈ L.map fun q => (q.1, Value.int .i64 q.2)) := Lib.hid (fun q hq => Hsub.out q (hperm.mem_iff.2 (.tail _ hq)))
          have Hit3 := Lib.hid hit3
          have Hk3 := Lib.hid (Hkr.out.trans (hk3.mono (fun _ h _ => .inl h)) (fun _ h _ => h))
          clear hperm hit3 hk3 hcd hpp hpmm hq hr
          by_cases hle : r.1 ≤ 4611686018427387904 - (st.steps : Int)
          · have hd1 : decide (r.1 ≤ 4611686018427387904 - (st.steps : Int)) = true := by simpa using hle
            have hlo : -9223372036854775808 ≤ (st.steps : Int) + r.1 := by omega
            have hhi : (st.steps : Int) + r.1 ≤ 9223372036854775807 := by omega
            have hwr : IntKind.i64.wrap ((st.steps : Int) + r.1) = (st.steps : Int) + r.1 := IntWalk.i64_in _ (by omega)
            go_upto_region 16 with (fail)
            go_still_tail 11, (by kernel_rfl)
            have hkY : Keep No w3 (w3.drewN 1) := (Keep.refl No w3).drewN 1
            change wpList _ _ _ _ _ (w3.drewN 1)
            obtain ⟨Y, hY⟩ : ∃ Y, w3.drewN 1 = Y := ⟨_, rfl⟩
            rw [hY] at hkY ⊢
            clear hY
            obtain ⟨w6, hup, hm6, hk6⟩ := (Hpm.out.keep hkY (fun f => f)).update (P := Tryz.prog) keyish_int uPlan uInt ((st.steps : Int) + r.1) (.int .i64 r.2)
            have hRY := HR3.out.keep hkY (fun _ _ f => f) (NoBytes.no _ _)
            have hItY := Hit3.out.keep hkY (fun f => f) (fun f => f)
            have Hm6 := Lib.hid hm6
            have Hk6 := Lib.hid hk6
            have HkY := Lib.hid hkY
            have HRY := Lib.hid hRY
            have HItY := Lib.hid hItY
            clear hm6 hk6 hkY hRY hItY
            go_wp2_with fail
            go_roundg rest'.length
            case measure => have := Hpl.out; simp at this; omega
            case rel =>
              obtain ⟨pl', e1, e2⟩ := putL_ints pl ((st.steps : Int) + r.1) r.2
              refine ⟨rest', pl', rfl, HItY.out.keep Hk6.out hitp hpmn, HRY.out.planSet Hk6.out (by rw [← e1]; exact Hm6.out), Hsub3.out, (Hk3.out.trans HkY.out (fun _ f _ => f.elim)).trans Hk6.out (fun _ h _ => .inr h)⟩
          · have hd1 : decide (r.1 ≤ 4611686018427387904 - (st.steps : Int)) = false := by simpa using hle
            go_wp2_with fail
            go_roundg rest'.length
            case measure => have := Hpl.out; simp at this; omega
            case rel =>
              exact ⟨rest', pl, rfl, Hit3.out, HR3.out, Hsub3.out, Hk3.out⟩
        case over =>
          intro hr0
          go_wp2_with fail
          go_ret
          have hfresh : ∀ b ∈ (d :: fm :: ([pm] ++ R.map (·.2))), b ∈ F ∨ w.heap.size ≤ b := fun b hb => by
            rw [HF.out]
            simp only [List.mem_cons, List.mem_append, List.not_mem_nil, or_false] at hb ⊢
            rcases hb with h | h | h | h
            · exact .inl (.inl h)
            · exact .inl (.inr (.inl h))
            · subst h; exact .inr (Nat.le_of_lt hpmw)
            · exact .inl (.inr (.inr (.inr h)))
          have hXs := KX.out.size
          refine ⟨0, _, rfl, ?_, hfresh, .inr ⟨rfl, pl, fm, _, _, R, HRr.out⟩⟩
          have K2 : Keep (fun b => b = X.heap.size ∨ b = pm) X wr := (Hk2.out.mono (fun _ f _ => f.elim)).trans Hkr.out (fun _ h _ => h)
          refine (Keep.trans (S := fun b => b = nb ∨ b = d ∨ b = X.heap.size ∨ b = pm) (KX.out.mono (fun _ h _ => h.elim .inl (fun e => .inr (.inl e)))) K2 (fun _ h _ => .inr (.inr h))).mono ?_
          intro b hb hl
          have := Hnb.out
          rcases hb with e | e | e | e
          · omega
          · subst e; exact Hd.out.mem
          · omega
          · omega
end Go.Proofs.YtbmejbmkaoekgaaGreatDoor
