/- WalLasts holds of every input: behind any crash Open gives all synced records, in order, and then the first of the others; the law returns true and leaves its arguments as they were. The package-level variables that the row lists start as the program's text lays them (the card ties them). -/
import Derived.Test.YtbmejbmkaoekgaaGreatDoorJoin
import Derived.Test.YtbmejbmkaoekgaaGreatDoorArgs2
namespace Go.Proofs.YtbmejbmkaoekgaaGreatDoor.WWalLasts
open Go Go.ChangeShapes Go.WideShapes Go.ChangeAt Go.RowKit Go.Proofs.YtbmejbmkaoekgaaGreatDoor
set_option linter.unusedVariables false

theorem fnIs : Tryz.prog.funcs[4]? = some Tryz.f4 := Tryz.func4
theorem paramsIs : Tryz.f4.params = #[3, 22, 38, 39, 40] := by kernel_rfl

set_option maxRecDepth 100000 in
/-- What the walk gives. -/
theorem contract (H : Type) (enc : TypeId × Value → H) (W : World) (base : Nat) (args : Array Value) (ds gs : List (DataW H)) (before : List MemPlace)
    (hval : ∀ (j : Nat) t v, Tryz.f4.params[j]? = some t → args[j]? = some v → Value.okWide Tryz.prog W .any base t v)
    (hW : DataW.Whole enc Tryz.prog Tryz.f4.params.toList Rows.walLastsSpec.vars false W args.toList ds gs before) (hS : (DataW.weightsEach Tryz.prog Tryz.f4.params.toList ds).all (· ≤ reachBytes) = true) (hL : laidMetH Tryz.prog Rows.walLastsRow.laid W) :
    Calls Tryz.prog 4 args W fun e W' => ∃ v, e = .returned v ∧ Rows.walLastsSpec.post enc Tryz.prog Tryz.f4 false true false false W args v W' := by
  have hW' := hW
  obtain ⟨p, q, hA0, hV, rfl, hfz, hnd⟩ := hW
  have hA : DataW.TrodAll enc Tryz.prog W 0 (fun _ => true) true Tryz.f4.params.toList args.toList ds p := hA0
  rw [paramsIs] at hA hval hS
  obtain ⟨v0, vs0, d0, ds0, p0, q0, hargs, rfl, rfl, h0, r0⟩ := trodAll_cons hA
  obtain ⟨v1, vs1, d1, ds1, p1, q1, rfl, rfl, rfl, h1, r1⟩ := trodAll_cons r0
  obtain ⟨v2, vs2, d2, ds2, p2, q2, rfl, rfl, rfl, h2, r2⟩ := trodAll_cons r1
  obtain ⟨v3, vs3, d3, ds3, p3, q3, rfl, rfl, rfl, h3, r3⟩ := trodAll_cons r2
  obtain ⟨v4, vs4, d4, ds4, p4, q4, rfl, rfl, rfl, h4, r4⟩ := trodAll_cons r3
  obtain ⟨rfl, rfl, rfl⟩ := trodAll_nil r4
  obtain rfl : args = #[v0, v1, v2, v3, v4] := by cases args; simp_all
  clear hA0 hA r0 r1 r2 r3 r4
  obtain ⟨a0, rfl, rfl, rfl, hw0⟩ := open_int uInt (hval 0 3 v0 rfl rfl) h0
  have h4v := hval 4 40 v4 rfl rfl
  obtain ⟨A1, n1, c1, rfl⟩ := okWide_slice uRecs' (hval 1 22 v1 rfl rfl)
  obtain ⟨A2, n2, c2, rfl⟩ := okWide_slice uBoolsT (hval 2 38 v2 rfl rfl)
  obtain ⟨A3, n3, c3, rfl⟩ := okWide_slice uFaultsT (hval 3 39 v3 rfl rfl)
  obtain ⟨A4, n4, c4, rfl⟩ := okWide_slice uIntsT h4v
  obtain ⟨ls, hls, hlen⟩ := open_alist rfl h1
  obtain ⟨ss, hss⟩ := open_boolsAt rfl h2
  obtain ⟨pl, hpl, hplen⟩ := open_plist rfl h3
  obtain ⟨ks, hks⟩ := open_intsAt rfl h4
  have h47 : reachBytes = 140737488351232 := rfl
  have hll : ls.length ≤ 5864062014805 := by
    rcases hlen with h | ⟨es, sp, rfl, he⟩
    · omega
    · have h24 : Tryz.prog.bytesOf 31 = 24 := by kernel_rfl
      have := sized_slice (j := 1) hS rfl rfl uRecs'
      rw [h24] at this
      omega
  have hpp : pl.length * 16 ≤ 140737488355328 := by
    rcases hplen with h | ⟨es, sp, rfl, he⟩
    · omega
    · have h16 : Tryz.prog.bytesOf 78 = 16 := by kernel_rfl
      have := sized_slice (j := 3) hS rfl rfl uFaultsT
      rw [h16] at this
      omega
  have hkA : ∀ A c, (Value.slice A4 n4 c4) = .slice (some A) ks.length c → A.block < W.heap.size := fun A c e => by
    injection e with e1 e2 e3
    subst e1
    exact has_lt uIntsT h4v
  have hgo := lasts_go W a0 _ _ _ _ ls ss pl ks (tab_of hL) hls hll hss hpl hpp hks hkA
  refine hgo.mono fun e W' ⟨he, hk⟩ => ?_
  subst he
  refine ⟨_, rfl, post_law hW' rfl (by kernel_rfl) (fun xs hx => by subst hx; exact ⟨rfl, rfl, rfl⟩) ?_ (hk.below (Nat.le_refl _) (fun _ f => f.elim))⟩
  rw [paramsIs]
  intro t ht
  simp only [List.mem_cons, List.not_mem_nil, or_false] at ht
  rcases ht with rfl | rfl | rfl | rfl | rfl <;> exact ⟨by kernel_rfl, of_decide_eq_true (by kernel_rfl)⟩

theorem reads (os : Os) {H : Type} (enc : TypeId × Value → H) : ∃ places, DataW.whole enc Tryz.prog ((laidWorld os).forCall (fun _ _ => 0) ⟨#[], #[.int .i64 0, .slice none 0 0, .slice none 0 0, .slice none 0 0, .slice none 0 0], []⟩).memory Tryz.f4.params.toList Rows.walLastsSpec.vars false (#[.int .i64 0, .slice none 0 0, .slice none 0 0, .slice none 0 0, .slice none 0 0] : Array Value).toList 8 = some ([.lit (.int .i64 0), .nil, .nil, .nil, .nil], [], places) :=
  ⟨[], by kernel_rfl⟩

set_option maxRecDepth 100000 in
theorem lifted (os : Os) (started : os.Started) (H : Type) (enc : TypeId × Value → H) (F : Stop.Interp) :
    ReturnsInHanded {} Tryz.checked os 4 .any ((OpenSpec.ofChange Rows.walLastsSpec).preRow enc Tryz.prog Tryz.f4 Rows.walLastsRow.domain false Rows.walLastsRow.laid) (((OpenSpec.ofChange Rows.walLastsSpec).at F).post enc Tryz.prog Tryz.f4 false true false false) := by
  obtain ⟨places, hx⟩ := reads os enc
  refine returnsInHanded_of_row (C := Tryz.checked) (s := OpenSpec.ofChange Rows.walLastsSpec) own started (by kernel_rfl) fnIs
    (witness_row_at (enc := enc) (C := Tryz.checked) false (laidWorld os) #[.int .i64 0, .slice none 0 0, .slice none 0 0, .slice none 0 0, .slice none 0 0] rfl (by kernel_rfl) (by kernel_rfl) (by kernel_rfl)
      (OpenSpec.preRow_of_cond 8 hx (by kernel_rfl) (fun k hk => by cases hk) (by kernel_rfl) (laid_met os _))) ?_
  intro W base args ds gs before hval hW _ _ hS hL _ _
  have hg : gs = [] := by
    obtain ⟨p, q, _, hV, _⟩ := hW
    exact (trodVars_none hV).1
  subst hg
  have hS2 : (DataW.weightsEach Tryz.prog (Tryz.f4.params.toList ++ []) (ds ++ [])).all (· ≤ reachBytes) = true := hS
  rw [List.append_nil, List.append_nil] at hS2
  exact contract H enc W base args ds [] before hval hW hS2 hL

set_option maxRecDepth 100000 in
theorem said : Rows.WalLastsSaid :=
  OpenClaim.holds_of_cond 4 Tryz.f4 rfl rfl rfl rfl rfl rfl rfl ⟨rfl, rfl, rfl, rfl, rfl⟩ rfl rfl rfl rfl rfl (by kernel_rfl) fnIs (by kernel_rfl)
    (of_decide_eq_true (by kernel_rfl)) (by unfold Func.isWrapper; first | (rw [if_pos (by decide +kernel)]; kernel_rfl) | (rw [if_neg (by decide +kernel)]; exact ⟨rfl, rfl⟩))
    (fun os started H enc _ F => by rw [OpenClaim.pre_eq_preRow]; exact lifted os started H enc F)

theorem plain (f : FuncId) (g : Func) (hf : Tryz.pinned.checked.prog.funcNamed "conclave/conclavelaw08.WalLasts" = some f) (hfn : Tryz.pinned.checked.prog.funcs[f]? = some g) :
    true = Tryz.pinned.checked.prog.looks [] ∧ ∀ (j : Nat) t, g.params[j]? = some t → Tryz.pinned.checked.prog.wantsStandIn t = false := by
  obtain rfl : f = 4 := Option.some.inj ((show Tryz.prog.funcNamed "conclave/conclavelaw08.WalLasts" = some 4 by kernel_rfl).symm.trans hf) |>.symm
  obtain rfl : g = Tryz.f4 := (Option.some.inj (fnIs.symm.trans hfn)).symm
  refine ⟨by kernel_rfl, fun j t ht => ?_⟩
  rw [paramsIs] at ht
  have hm := Array.mem_of_getElem? ht
  simp only [List.mem_toArray, List.mem_cons, List.not_mem_nil, or_false] at hm
  rcases hm with rfl | rfl | rfl | rfl | rfl
  · exact (show Tryz.prog.wantsStandIn 3 = false by kernel_rfl)
  · exact (show Tryz.prog.wantsStandIn 22 = false by kernel_rfl)
  · exact (show Tryz.prog.wantsStandIn 38 = false by kernel_rfl)
  · exact (show Tryz.prog.wantsStandIn 39 = false by kernel_rfl)
  · exact (show Tryz.prog.wantsStandIn 40 = false by kernel_rfl)
end Go.Proofs.YtbmejbmkaoekgaaGreatDoor.WWalLasts
namespace Go.Proofs.YtbmejbmkaoekgaaGreatDoor
open WWalLasts in
/-- The card. -/
theorem walLasts_card : Rows.WalLastsCardSaid :=
  Claim7.holds_tied_plain_at .later [] _ _ _ _ said (fun _ h => by cases h) (by kernel_rfl) (fun _ h => by cases h) walLasts_row_tie rfl ⟨rfl, rfl⟩ (by kernel_rfl) rfl plain (by kernel_rfl)
#print axioms walLasts_card
end Go.Proofs.YtbmejbmkaoekgaaGreatDoor
