/- WalLasts, walked. -/
import Derived.Test.YtbmejbmkaoekgaaGreatDoorRots
import Derived.Test.YtbmejbmkaoekgaaGreatDoorArm2
namespace Go.Proofs.YtbmejbmkaoekgaaGreatDoor
open Go Go.RowKit
set_option linter.unusedVariables false
set_option linter.unusedSimpArgs false

/-- A slice of bools that came in. -/
def BoolsAt (w : World) (v : Value) (zs : List Bool) : Prop :=
  ∃ (A : Option Addr) (c : Nat), v = .slice A zs.length c ∧ zs.length ≤ 9223372036854775807 ∧ ∀ i (hi : i < zs.length), ∃ g off, A = some ⟨g, off, none⟩ ∧ g < w.heap.size ∧ w.cell? ⟨g, off + i, none⟩ = some (.bool zs[i])

theorem BoolsAt.keep {w w' : World} {v : Value} {zs : List Bool} (h : BoolsAt w v zs) (k : Keep No w w') : BoolsAt w' v zs := by
  obtain ⟨A, c, rfl, hl, h⟩ := h
  refine ⟨A, c, rfl, hl, fun i hi => ?_⟩
  obtain ⟨g, off, rfl, hg, hc⟩ := h i hi
  exact ⟨g, off, rfl, Nat.lt_of_lt_of_le hg k.size, by rw [k.cell (a := ⟨g, off + i, none⟩) hg (fun f => f)]; exact hc⟩

theorem PList.more {w : World} {N M : Nat} {v : Value} {l : List (Int × Int)} (h : PList w N v l) (hM : N ≤ M) : PList w M v l := by
  obtain ⟨A, c, h1, h2, h3, h4⟩ := h
  refine ⟨A, c, h1, h2, h3, fun h0 => ?_⟩
  obtain ⟨g, off, cs, t, fz, e1, e0, e2, e3⟩ := h4 h0
  exact ⟨g, off, cs, t, fz, e1, by omega, e2, e3⟩

/-- Values that came in, and the bytes that they hold. -/
def Olds (w0 : World) (us : List Value) (rs : List (List UInt8)) : Prop :=
  us.length = rs.length ∧ ∀ (i : Nat) (u : Value) (b : List UInt8), us[i]? = some u → rs[i]? = some b → ∃ t8, Bytes w0 t8 u b

theorem Olds.snoc {w0 : World} {us : List Value} {rs : List (List UInt8)} (h : Olds w0 us rs) {u : Value} {b : List UInt8} {t8 : TypeId} (hb : Bytes w0 t8 u b) : Olds w0 (us ++ [u]) (rs ++ [b]) := by
  obtain ⟨h1, h2⟩ := h
  refine ⟨by simp [h1], fun i u' b' hu hr => ?_⟩
  by_cases hi : i < us.length
  · rw [List.getElem?_append_left hi] at hu
    rw [List.getElem?_append_left (by omega)] at hr
    exact h2 i u' b' hu hr
  · rw [List.getElem?_append_right (by omega)] at hu hr
    have : i - us.length = 0 := by have := (List.getElem?_eq_some_iff.1 hu).1; simp at this; omega
    rw [this] at hu
    rw [← h1, this] at hr
    simp at hu hr
    subst hu; subst hr
    exact ⟨t8, hb⟩

/-- Ahead of a round: q steps at most, safe records synced; rs were taken, u holds them. -/
structure LastsI (w0 : World) (d lb : Nat) (most : Int) (q safe : Nat) (L : LogS) (st : DiskS) (F G : List Nat) (u : Value) (rs : List (List UInt8)) (us : List Value) (wr : World) : Prop where
  here : Here w0 wr d lb L st F G
  lies : Lies L st safe
  name : L.name = logN
  first : L.first = 0
  mst : L.most = most
  steps : st.steps ≤ q
  most1 : 1 ≤ most
  row : wr.ownsRow w0.heap.size tBytes 1 u rs.length us
  olds : Olds w0 us rs
  apart : ∀ b, u.ownBlock = some b → b ∉ F ∧ b ∉ G

theorem row_form {w : World} {base n : Nat} {e : TypeId} {u : Value} {xs : List Value} (h : w.ownsRow base e 1 u n xs) : ∃ A c, u = .slice A n c ∧ n ≤ c ∧ c ≤ maxLen := by
  rcases h.2 with ⟨rfl, e⟩ | ⟨g, cap, cur, rfl, _, _, h1, h2, _⟩
  · exact ⟨none, 0, by rw [e], by omega, by decide⟩
  · exact ⟨_, cap, rfl, h1, h2⟩

theorem row_cell {w : World} {base n i : Nat} {e : TypeId} {u : Value} {xs : List Value} (h : w.ownsRow base e 1 u n xs) (hl : xs.length = n) (hi : i < n) : ∃ g c uu, u = .slice (some ⟨g, 0, none⟩) n c ∧ g < w.heap.size ∧ w.cell? ⟨g, i, none⟩ = some uu ∧ xs[i]? = some uu := by
  rcases h.2 with ⟨rfl, e⟩ | ⟨g, cap, cur, rfl, h1, h2, h3, h4, h5, h6⟩
  · omega
  · have hx : xs[i]? = some (xs[i]'(by omega)) := List.getElem?_eq_getElem (by omega)
    refine ⟨g, cap, _, rfl, lt_of_heap h2, ?_, hx⟩
    simp only [World.cell?, h2]
    have : (cur.toList.take (n * 1))[i]? = some (xs[i]'(by omega)) := by rw [h6]; exact hx
    rw [List.getElem?_take, if_pos (by omega)] at this
    simpa using this

section
variable {w0 w w' : World} {d lb q safe : Nat} {most : Int} {L L' : LogS} {st st' : DiskS} {F G : List Nat} {u v : Value} {rs : List (List UInt8)} {us : List Value} {e : Ending}

theorem Here.stepRow (h : Here w0 w d lb L st F G) (hp : LogPost w lb d F G L' st' v e w') {base n : Nat} (row : w.ownsRow base tBytes 1 u n us) (ap : ∀ b, u.ownBlock = some b → b ∉ F ∧ b ∉ G) :
    e = .returned v ∧ ∃ F' G', Here w0 w' d lb L' st' F' G' ∧ w'.ownsRow base tBytes 1 u n us ∧ ∀ b, u.ownBlock = some b → b ∉ F' ∧ b ∉ G' := by
  obtain ⟨he, F', G', h1, h2, h3, h4, h5⟩ := hp
  have hs := h.keep.size
  refine ⟨he, F', G', ⟨h1, h2, h.keep.trans h3 (fun b hb hl => ?_), fun b hb => ?_, fun b hb => ?_⟩, row_keep row h3 (fun b hb => ?_), fun b hb => ?_⟩
  · rcases hb with hb | hb
    · have := h.ff b hb; omega
    · have := h.gg b hb; omega
  · rcases h4 b hb with q | q
    · exact h.ff b q
    · omega
  · rcases h5 b hb with q | q
    · exact h.gg b q
    · omega
  · have := ap b hb
    rintro (q | q)
    · exact this.1 q
    · exact this.2 q
  · have ha := ap b hb
    obtain ⟨_, cur, hc⟩ := row_kind row hb
    have hl := lt_of_heap hc
    refine ⟨fun hf => ?_, fun hg => ?_⟩
    · rcases h4 b hf with q | q
      · exact ha.1 q
      · omega
    · rcases h5 b hg with q | q
      · exact ha.2 q
      · omega

theorem LastsI.to {q' safe' : Nat} {rs' : List (List UInt8)} (h : LastsI w0 d lb most q safe L st F G u rs us w) (hq : q ≤ q') (hs : safe = safe') (hr : rs = rs') : LastsI w0 d lb most q' safe' L st F G u rs' us w := by
  subst hs; subst hr
  exact { h with steps := Nat.le_trans h.steps hq }

theorem LastsI.app (h : LastsI w0 d lb most q safe L st F G u rs us w) (b : List UInt8) (hb : b.length ≤ 1000) (hp : LogPost w lb d F G (L.append st b).1 (L.append st b).2.1 (.int .i64 (L.append st b).2.2) e w') :
    ∃ L' st' F' G' ee, e = .returned (.int .i64 ee) ∧ L'.recs = (if ee = 0 then L.recs ++ [b] else L.recs) ∧ LastsI w0 d lb most (q + 2) safe L' st' F' G' u rs us w' := by
  obtain ⟨he, F', G', h1, h2, h3⟩ := h.here.stepRow hp h.row h.apart
  have hla := h.lies.append h.here.disk.wf (by rw [h.mst]; exact h.most1) b (by omega)
  have hst := lappend_steps L st b
  have := h.steps
  exact ⟨_, _, F', G', _, he, hla.2.2.2.2, ⟨h1, hla.1, hla.2.1.trans h.name, hla.2.2.1.trans h.first, hla.2.2.2.1.trans h.mst, by omega, h.most1, h2, h.olds, h3⟩⟩

theorem LastsI.syn (h : LastsI w0 d lb most q safe L st F G u rs us w) (hp : LogPost w lb d F G (L.sync st).1 (L.sync st).2.1 (.int .i64 (L.sync st).2.2) e w') :
    ∃ L' st' F' G' ee, e = .returned (.int .i64 ee) ∧ L'.recs = L.recs ∧ LastsI w0 d lb most (q + 1) safe L' st' F' G' u rs us w' ∧ (ee = 0 → LastsI w0 d lb most (q + 1) L.recs.length L' st' F' G' u rs us w') := by
  obtain ⟨he, F', G', h1, h2, h3⟩ := h.here.stepRow hp h.row h.apart
  obtain ⟨a1, a2, a3, a4, a5, a6, a7, a8⟩ := h.lies.sync h.here.disk.wf
  have hst := lsync_steps L st
  have := h.steps
  exact ⟨_, _, F', G', _, he, a2, ⟨h1, a1, a3.trans h.name, a4.trans h.first, a5.trans h.mst, by omega, h.most1, h2, h.olds, h3⟩, fun h0 => ⟨h1, a8 h0, a3.trans h.name, a4.trans h.first, a5.trans h.mst, by omega, h.most1, h2, h.olds, h3⟩⟩

theorem LastsI.grow (h : LastsI w0 d lb most q safe L st F G u rs us w) {gg cap : Nat} {uu : Value} {b : List UInt8} {t8 : TypeId} (k : Keep (fun b => some b = u.ownBlock) w w')
    (hr : w'.ownsRow w0.heap.size tBytes 1 (.slice (some ⟨gg, 0, none⟩) (rs.length + 1) cap) (rs.length + 1) (us ++ [uu])) (hat : u.ownBlock = some gg ∨ w.heap.size ≤ gg) (hb : Bytes w0 t8 uu b) :
    LastsI w0 d lb most q safe L st F G (.slice (some ⟨gg, 0, none⟩) (rs.length + 1) cap) (rs ++ [b]) (us ++ [uu]) w' := by
  have hn : NoBytes w tByte (fun b => some b = u.ownBlock) := row_noBytes h.row (by decide)
  refine ⟨⟨h.here.disk.keep k (fun b hb e => (h.apart b e.symm).1 hb) hn, h.here.log.keep k (fun b hb e => (h.apart b e.symm).2 hb) hn, h.here.keep.trans k (fun b e hl => by have := (row_kind h.row e.symm).1; omega), h.here.ff, h.here.gg⟩, h.lies, h.name, h.first, h.mst, h.steps, h.most1, by simpa using hr, h.olds.snoc hb, fun b e => ?_⟩
  have e' : gg = b := by simpa [Value.ownBlock] using e
  subst e'
  rcases hat with q | q
  · exact h.apart _ q
  · exact ⟨fun hf => by have := h.here.disk.lt hf; omega, fun hg => by have := h.here.log.lt hg; omega⟩
end

set_option maxRecDepth 100000 in
set_option maxHeartbeats 4000000 in
theorem lasts_go (w : World) (most : Int) (v sv1 pv1 kv : Value) (ls : List (List UInt8)) (syncs : List Bool) (plan : List (Int × Int)) (kept : List Int) (htab : Tab w) (hv : AList w w.heap.size v ls) (hll : ls.length ≤ 5864062014805)
    (hs : BoolsAt w sv1 syncs) (hp : PList w w.heap.size pv1 plan) (hpl : plan.length * 16 ≤ 140737488355328) (hk : IntsAt w kv kept) (hkA : ∀ A c, kv = .slice (some A) kept.length c → A.block < w.heap.size) :
    Calls Tryz.prog 4 #[.int .i64 most, v, sv1, pv1, kv] w fun e w' => e = .returned (.bool true) ∧ Keep No w w' := by
  have Htab := Lib.hid htab
  have Hv := Lib.hid hv
  have Hs := Lib.hid hs
  have Hp := Lib.hid hp
  have Hk := Lib.hid hk
  have HkA := Lib.hid hkA
  have ngw := htab.size
  obtain ⟨A, c, us0, rfl, hc1, hc2, _⟩ := hv
  obtain ⟨As, cs, rfl, hsl, _⟩ := hs
  obtain ⟨Ap, cp, rfl, hp1, hp2, _⟩ := hp
  obtain ⟨Ak, ck, rfl, hkl, _⟩ := hk
  clear htab hkA
  by_cases hm : most < 1
  · have h1 : decide (most < 1) = true := by simpa using hm
    go_enter Tryz.func4, Tryz.ntmps4
    go_wp2_with fail
    refine (alive_go _ Htab.out).mono ?_
    rintro e w1 ⟨rfl, k1⟩
    go_wp2_with fail
    go_ret
    exact ⟨rfl, k1⟩
  have h1 : decide (most < 1) = false := by simpa using hm
  go_enter Tryz.func4, Tryz.ntmps4
  go_wp2_with fail
  refine (new_ok 1073741824 w (by omega) ngw).mono ?_
  rintro e w1 ⟨d, F0, rfl, hd0, k0, ff0⟩
  have Hd0 := Lib.hid hd0
  have K0 := Lib.hid k0
  have FF0 := Lib.hid ff0
  clear hd0 k0 ff0
  go_wp2_with fail
  refine (alive_go _ (Htab.out.keep K0.out (fun _ f => f.elim))).mono ?_
  rintro e w1a ⟨rfl, k1a⟩
  have Hd1 := Lib.hid (Hd0.out.keep k1a (fun _ _ f => f) (NoBytes.no _ _))
  have K1 := Lib.hid (show Keep No w w1a from K0.out.trans k1a (fun _ f _ => f.elim))
  clear k1a Hd0 K0
  go_wp2_with fail
  refine (open_go w1a d (disk0 1073741824) F0 logN most [] Hd1.out rfl logN_ok (by omega) (by simp [DiskS.sorted, DiskS.names, disk0]) (by simp) (by simp) (Htab.out.keep K1.out (fun _ f => f.elim)) (by show (0 : Nat) < _; omega)).mono ?_
  rintro e w2 hp
  obtain ⟨lb, F, G, rfl, hh⟩ := open_here hp K1.out FF0.out (by rw [List.mergeSort_nil]; rfl)
  have Hh := Lib.hid (show Here w w2 d lb (fresh logN most 0) (disk0 1073741824) F G by rw [List.mergeSort_nil] at hh; exact hh)
  clear hp hh
  go_wp2_with fail
  refine (plan_go w2 (.slice Ap plan.length cp) plan ((Hp.out.keep Hh.out.keep (fun _ f => f.elim)).more Hh.out.keep.size) hpl).mono ?_
  rintro e w3 ⟨pu, rfl, hrow3, k3⟩
  have Hh3 := Lib.hid (Hh.out.on k3)
  have Hpu := Lib.hid (PList.of_row hrow3)
  clear hrow3 k3 Hh
  go_wp2_with fail
  refine (arm_go w3 d (disk0 1073741824) F pu plan Hh3.out.disk Hpu.out (by show (0 : Nat) ≤ _; omega) (Nat.le_trans ngw Hh3.out.keep.size)).mono ?_
  rintro e w4 ⟨ee, F4, rfl, k4, ff4, hr4⟩
  have Hk4 := Lib.hid (show Keep No w w4 from Hh3.out.keep.trans k4 (fun b hb hl => by have := Hh3.out.ff b hb; omega))
  rcases hr4 with ⟨hee, hd4⟩ | ⟨rfl, pl4, hd4⟩
  · have he1 : (ee != 0) = true := by simpa using hee
    have he2 : (ee == 0) = false := by simpa using hee
    clear hd4 k4 ff4
    go_wp2_with fail
    go_ret
    exact ⟨rfl, Hk4.out⟩
  have hI : Here w w4 d lb (fresh logN most 0) { disk0 1073741824 with plan := pl4 } F4 G := by
    refine ⟨hd4, Hh3.out.log.disk Hh3.out.disk k4, Hk4.out, fun b hb => (ff4 b hb).elim (Hh3.out.ff b) (fun h => ?_), Hh3.out.gg⟩
    have := Hh3.out.keep.size; omega
  have HI0 := Lib.hid (show LastsI w d lb most 0 0 (fresh logN most 0) { disk0 1073741824 with plan := pl4 } F4 G (.slice none 0 0) [] [] w4 from ⟨hI, ⟨by simp [fresh], by simp [fresh], .inl ⟨rfl, rfl, rfl⟩⟩, rfl, rfl, rfl, by simp [disk0], by omega, World.ownsRow_nil _ _ _ _, ⟨rfl, fun i u b h => by simp at h⟩, fun b h => by simp [Value.ownBlock] at h⟩)
  clear hd4 k4 ff4 hI
  go_wp2_with fail
  go_loopw [15, 16, 17] (fun al sf i wr => ∃ k safe L st F G us, k ≤ ls.length ∧ safe ≤ L.recs.length ∧ sf = .int .i64 (safe : Nat) ∧ i = .int .i64 k ∧ LastsI w d lb most (3 * k) safe L st F G al L.recs us wr) (fun _ _ i _ => ls.length - (intOf i).toNat)
  case atStart => exact ⟨0, 0, _, _, _, _, _, by omega, by omega, rfl, rfl, HI0.out⟩
  case round =>
    obtain ⟨k, safe, L, st, F1, G1, us, hk, hsa, rfl, rfl, hI⟩ := hrel
    obtain ⟨Au, cu, hue, hcu1, hcu2⟩ := row_form hI.row
    subst hue
    have HI1 := Lib.hid hI
    clear hI
    by_cases hlt : k < ls.length
    · obtain ⟨g, off, c', u, hv', hg, hcell, t8, hb, ho⟩ := Hv.out.at_ hlt
      injection hv' with hv1 hv2 hv3
      subst hv1
      obtain ⟨A', c2, rfl⟩ := hb.form
      obtain ⟨b, hbk⟩ : ∃ b, ls[k] = b := ⟨_, rfl⟩
      rw [hbk] at hcell hb ho
      have hcw : wr.cell? ⟨g, off + k, none⟩ = some (.slice A' b.length c2) := (HI1.out.here.keep.cell (a := ⟨g, off + k, none⟩) hg (fun f => f)).trans hcell
      have hbw := hb.keep HI1.out.here.keep (NoBytes.no _ _)
      have Hb := Lib.hid hb
      have Hbw := Lib.hid hbw
      have Ho := Lib.hid ho
      have Hcell := Lib.hid hcell
      clear hb hbw ho hbk hv3 hcell
      by_cases hbig : 1000 < b.length
      · have hb1 : decide ((1000 : Int) < (b.length : Int)) = true := by simp; omega
        have hb2 : decide (1000 < b.length) = true := by simp; omega
        go_wp2_with fail
        go_ret
        exact ⟨rfl, HI1.out.here.keep⟩
      have hb1 : decide ((1000 : Int) < (b.length : Int)) = false := by simp; omega
      have hb2 : decide (1000 < b.length) = false := by simp; omega
      have hok := HI1.out.lies.ok HI1.out.here.disk.wf (by rw [HI1.out.name]; exact logN_ok) (by rw [HI1.out.first]; omega)
      have hso := HI1.out.lies.sound (by rw [HI1.out.mst]; exact HI1.out.most1)
      have hst := HI1.out.steps
      have hrl := (HI1.out.lies.bulk HI1.out.here.disk.wf).2
      have Hok := Lib.hid hok
      have Hso := Lib.hid hso
      clear hok hso
      go_wp2_with fail
      refine (append_go wr lb d st L F1 G1 (.slice A' b.length c2) b HI1.out.here.disk HI1.out.here.log Hok.out Hso.out (HI1.out.here.tab Htab.out) (by omega) (HI1.out.here.srcOld Hbw.out Ho.out) (by omega)).mono ?_
      rintro e w4 hp
      obtain ⟨L2, st2, F2, G2, ee, rfl, hrec2, hI2⟩ := HI1.out.app b (by omega) hp
      have hcw4 : w4.cell? ⟨g, off + k, none⟩ = some (.slice A' b.length c2) := (hI2.here.keep.cell (a := ⟨g, off + k, none⟩) hg (fun f => f)).trans Hcell.out
      have HI2 := Lib.hid hI2
      have Hrec2 := Lib.hid hrec2
      clear hp hI2 hrec2 hcw
      obtain ⟨j0, hj0, hy0, hy1, hy2⟩ := info_parts iBytes
      by_cases hs1 : k < syncs.length
      · have hd1 : decide ((k : Int) < (syncs.length : Int)) = true := by simp; omega
        have hd2 : decide (k < syncs.length) = true := by simp; omega
        have hki : (k : Int) < (syncs.length : Int) := by omega
        obtain ⟨As', cs', hAs, _, hxs⟩ := Hs.out
        injection hAs with hAs1 hAs2 hAs3
        obtain ⟨gs, os, rfl, hgs, hcs⟩ := hxs k hs1
        subst hAs1
        have Hsc : Hid (∀ W, Keep No w W → W.cell? ⟨gs, os + k, none⟩ = some (.bool syncs[k])) := Lib.hid (fun W kW => (kW.cell (a := ⟨gs, os + k, none⟩) hgs (fun f => f)).trans hcs)
        obtain ⟨sb, hsb⟩ : ∃ sb, syncs[k] = sb := ⟨_, rfl⟩
        rw [hsb] at Hsc
        clear hcs hsb hxs hAs3
        cases sb
        · by_cases he : ee = 0
          · have hst2 := HI2.out.steps
            have hsz4 := HI2.out.here.keep.size
            have hr : L2.recs = L.recs ++ [b] := by rw [Hrec2.out, if_pos he]
            have hlen : L2.recs.length = L.recs.length + 1 := by rw [hr]; simp
            have Hr := Lib.hid hr
            clear hr
            subst he
            go_wp2_with (at_builtin; refine wpList_append_lies _ rfl _ _ _ rfl w.heap.size tBytes j0 _ 1 24 uRecs' hj0 hy0 hy1 hy2 rfl (by omega) _ L.recs.length us rfl (row_keep HI2.out.row ((Keep.refl No w4).alloc _) (fun _ _ f => f)) ⟨w4.heap.size, 0, none⟩ 1 1 [.slice A' b.length c2] rfl rfl (World.news_of_block (cs := #[.slice A' b.length c2]) (t := tBytes) (fr := (0, 0)) (heap_alloc_new w4 _)) (by simp [Value.oneCell']) (by omega) (by unfold maxLen; omega) (by omega) (by simp; omega) (w4.heap.size + 1) (by simp) ?_; intro gg cap w6 hown6 hgrow hat6 hlt6
                         have kk : Keep (fun b => some b = (Value.slice Au L.recs.length cu).ownBlock) w4 w6 := Keep.trans (T := fun b => some b = (Value.slice Au L.recs.length cu).ownBlock) (Keep.mono (S := No) ((Keep.refl No w4).alloc _) (fun _ f _ => f.elim)) (Keep.of_grown hgrow) (fun _ h _ => h)
                         have HI3 := Lib.hid (HI2.out.grow kk (by simpa using hown6) (hat6.imp (fun e => e) (fun e => by omega)) Hb.out)
                         have hbc := Hsc.out w6 HI3.out.here.keep
                         clear kk hown6 hgrow hat6 hlt6)
            go_roundw
            case rel => exact ⟨k + 1, safe, L2, st2, F2, G2, _, by omega, by omega, rfl, by go_num, HI3.out.to (by omega) rfl Hr.out.symm⟩
            case measure => simp [intOf]; omega
          · have hst2 := HI2.out.steps
            have hsz4 := HI2.out.here.keep.size
            have hr : L2.recs = L.recs := by rw [Hrec2.out, if_neg he]
            have hlen : L2.recs.length = L.recs.length := by rw [hr]
            have Hr := Lib.hid hr
            clear hr
            have he1 : (ee == 0) = false := by simpa using he
            have he2 : (ee != 0) = true := by simpa using he
            clear he
            have hbc := Hsc.out w4 HI2.out.here.keep
            go_wp2_with fail
            go_roundw
            case rel => exact ⟨k + 1, safe, L2, st2, F2, G2, _, by omega, by omega, rfl, by go_num, HI2.out.to (by omega) rfl Hr.out.symm⟩
            case measure => simp [intOf]; omega
        · by_cases he : ee = 0
          · have hst2 := HI2.out.steps
            have hsz4 := HI2.out.here.keep.size
            have hr : L2.recs = L.recs ++ [b] := by rw [Hrec2.out, if_pos he]
            have hlen : L2.recs.length = L.recs.length + 1 := by rw [hr]; simp
            have Hr := Lib.hid hr
            clear hr
            subst he
            go_wp2_with (at_builtin; refine wpList_append_lies _ rfl _ _ _ rfl w.heap.size tBytes j0 _ 1 24 uRecs' hj0 hy0 hy1 hy2 rfl (by omega) _ L.recs.length us rfl (row_keep HI2.out.row ((Keep.refl No w4).alloc _) (fun _ _ f => f)) ⟨w4.heap.size, 0, none⟩ 1 1 [.slice A' b.length c2] rfl rfl (World.news_of_block (cs := #[.slice A' b.length c2]) (t := tBytes) (fr := (0, 0)) (heap_alloc_new w4 _)) (by simp [Value.oneCell']) (by omega) (by unfold maxLen; omega) (by omega) (by simp; omega) (w4.heap.size + 1) (by simp) ?_; intro gg cap w6 hown6 hgrow hat6 hlt6
                         have kk : Keep (fun b => some b = (Value.slice Au L.recs.length cu).ownBlock) w4 w6 := Keep.trans (T := fun b => some b = (Value.slice Au L.recs.length cu).ownBlock) (Keep.mono (S := No) ((Keep.refl No w4).alloc _) (fun _ f _ => f.elim)) (Keep.of_grown hgrow) (fun _ h _ => h)
                         have HI3 := Lib.hid (HI2.out.grow kk (by simpa using hown6) (hat6.imp (fun e => e) (fun e => by omega)) Hb.out)
                         have hbc := Hsc.out w6 HI3.out.here.keep
                         clear kk hown6 hgrow hat6 hlt6)
            refine (sync_go _ lb d st2 L2 F2 G2 HI3.out.here.disk HI3.out.here.log (HI3.out.lies.ok HI3.out.here.disk.wf (by rw [HI3.out.name]; exact logN_ok) (by rw [HI3.out.first]; omega)) (HI3.out.here.tab Htab.out) (by omega)).mono ?_
            rintro e w7 hp
            obtain ⟨L3, st3, F3, G3, e3, rfl, hrec3, hI4, hI4s⟩ := HI3.out.syn hp
            have hlen3 : L3.recs.length = L2.recs.length := by rw [hrec3]
            have Hrec3 := Lib.hid hrec3
            by_cases he3 : e3 = 0
            · subst he3
              have HI4 := Lib.hid (hI4s rfl)
              clear hI4 hI4s hp hrec3
              go_wp2_with fail
              go_roundw
              case rel => exact ⟨k + 1, L.recs.length + 1, L3, st3, F3, G3, _, by omega, by omega, by first | rfl | go_num, by go_num, HI4.out.to (by omega) hlen ((Hr.out.symm).trans Hrec3.out.symm)⟩
              case measure => simp [intOf]; omega
            · have HI4 := Lib.hid hI4
              have hf1 : (e3 == 0) = false := by simpa using he3
              have hf2 : (e3 != 0) = true := by simpa using he3
              clear hI4 hI4s hp hrec3 he3
              go_wp2_with fail
              go_roundw
              case rel => exact ⟨k + 1, safe, L3, st3, F3, G3, _, by omega, by omega, rfl, by go_num, HI4.out.to (by omega) rfl ((Hr.out.symm).trans Hrec3.out.symm)⟩
              case measure => simp [intOf]; omega
          · have hst2 := HI2.out.steps
            have hsz4 := HI2.out.here.keep.size
            have hr : L2.recs = L.recs := by rw [Hrec2.out, if_neg he]
            have hlen : L2.recs.length = L.recs.length := by rw [hr]
            have Hr := Lib.hid hr
            clear hr
            have he1 : (ee == 0) = false := by simpa using he
            have he2 : (ee != 0) = true := by simpa using he
            clear he
            have hbc := Hsc.out w4 HI2.out.here.keep
            go_wp2_with fail
            refine (sync_go _ lb d st2 L2 F2 G2 HI2.out.here.disk HI2.out.here.log (HI2.out.lies.ok HI2.out.here.disk.wf (by rw [HI2.out.name]; exact logN_ok) (by rw [HI2.out.first]; omega)) (HI2.out.here.tab Htab.out) (by omega)).mono ?_
            rintro e w7 hp
            obtain ⟨L3, st3, F3, G3, e3, rfl, hrec3, hI4, hI4s⟩ := HI2.out.syn hp
            have hlen3 : L3.recs.length = L2.recs.length := by rw [hrec3]
            have Hrec3 := Lib.hid hrec3
            by_cases he3 : e3 = 0
            · subst he3
              have HI4 := Lib.hid (hI4s rfl)
              clear hI4 hI4s hp hrec3
              go_wp2_with fail
              go_roundw
              case rel => exact ⟨k + 1, L.recs.length, L3, st3, F3, G3, _, by omega, by omega, by first | rfl | go_num, by go_num, HI4.out.to (by omega) hlen ((Hr.out.symm).trans Hrec3.out.symm)⟩
              case measure => simp [intOf]; omega
            · have HI4 := Lib.hid hI4
              have hf1 : (e3 == 0) = false := by simpa using he3
              have hf2 : (e3 != 0) = true := by simpa using he3
              clear hI4 hI4s hp hrec3 he3
              go_wp2_with fail
              go_roundw
              case rel => exact ⟨k + 1, safe, L3, st3, F3, G3, _, by omega, by omega, rfl, by go_num, HI4.out.to (by omega) rfl ((Hr.out.symm).trans Hrec3.out.symm)⟩
              case measure => simp [intOf]; omega
      · have hd1 : decide ((k : Int) < (syncs.length : Int)) = false := by simp; omega
        have hd2 : decide (k < syncs.length) = false := by simp; omega
        by_cases he : ee = 0
        · have hst2 := HI2.out.steps
          have hsz4 := HI2.out.here.keep.size
          have hr : L2.recs = L.recs ++ [b] := by rw [Hrec2.out, if_pos he]
          have hlen : L2.recs.length = L.recs.length + 1 := by rw [hr]; simp
          have Hr := Lib.hid hr
          clear hr
          subst he
          go_wp2_with (at_builtin; refine wpList_append_lies _ rfl _ _ _ rfl w.heap.size tBytes j0 _ 1 24 uRecs' hj0 hy0 hy1 hy2 rfl (by omega) _ L.recs.length us rfl (row_keep HI2.out.row ((Keep.refl No w4).alloc _) (fun _ _ f => f)) ⟨w4.heap.size, 0, none⟩ 1 1 [.slice A' b.length c2] rfl rfl (World.news_of_block (cs := #[.slice A' b.length c2]) (t := tBytes) (fr := (0, 0)) (heap_alloc_new w4 _)) (by simp [Value.oneCell']) (by omega) (by unfold maxLen; omega) (by omega) (by simp; omega) (w4.heap.size + 1) (by simp) ?_; intro gg cap w6 hown6 hgrow hat6 hlt6
                       have kk : Keep (fun b => some b = (Value.slice Au L.recs.length cu).ownBlock) w4 w6 := Keep.trans (T := fun b => some b = (Value.slice Au L.recs.length cu).ownBlock) (Keep.mono (S := No) ((Keep.refl No w4).alloc _) (fun _ f _ => f.elim)) (Keep.of_grown hgrow) (fun _ h _ => h)
                       have HI3 := Lib.hid (HI2.out.grow kk (by simpa using hown6) (hat6.imp (fun e => e) (fun e => by omega)) Hb.out)
                       clear kk hown6 hgrow hat6 hlt6)
          go_roundw
          case rel => exact ⟨k + 1, safe, L2, st2, F2, G2, _, by omega, by omega, rfl, by go_num, HI3.out.to (by omega) rfl Hr.out.symm⟩
          case measure => simp [intOf]; omega
        · have hst2 := HI2.out.steps
          have hsz4 := HI2.out.here.keep.size
          have hr : L2.recs = L.recs := by rw [Hrec2.out, if_neg he]
          have hlen : L2.recs.length = L.recs.length := by rw [hr]
          have Hr := Lib.hid hr
          clear hr
          have he1 : (ee == 0) = false := by simpa using he
          have he2 : (ee != 0) = true := by simpa using he
          clear he
          go_wp2_with fail
          go_roundw
          case rel => exact ⟨k + 1, safe, L2, st2, F2, G2, _, by omega, by omega, rfl, by go_num, HI2.out.to (by omega) rfl Hr.out.symm⟩
          case measure => simp [intOf]; omega
    · have hkl : k = ls.length := by omega
      subst hkl
      have hap := HI1.out.apart
      have hrow := HI1.out.row
      have hwf := HI1.out.here.disk.wf
      have hok := HI1.out.lies.ok hwf (by rw [HI1.out.name]; exact logN_ok) (by rw [HI1.out.first]; omega)
      have hst := HI1.out.steps
      have hcnt : (fileNums L).length ≤ 16 := by
        have h1 := HI1.out.lies.count
        have h2 := hwf.many
        unfold fileNums; rw [List.length_map]; omega
      have hbk := (HI1.out.lies.bulk hwf).2
      have hpc : L.parts.length ≤ 16 := by unfold fileNums at hcnt; rwa [List.length_map] at hcnt
      obtain ⟨b1, b2, L2, s2, n, b3, b4, b5, b6, b7, b8, b9, b10, b11, b12, b13, b14⟩ := open_boot HI1.out.lies hwf kept most (fun _ => HI1.out.first)
      obtain ⟨ns, n1, n2, n3, n4⟩ := open_ready b1 b2 hok.nums hcnt
      rw [HI1.out.name] at n1 b3
      rw [← n4] at b3
      have hL2 : L2.recs.length = n := by rw [b4, List.length_take]; omega
      have hL1 : L2.first = 0 := b7.trans HI1.out.first
      have B3 := Lib.hid b3
      have B4 := Lib.hid b4
      have Hn := Lib.hid (And.intro n1 (And.intro n2 n3))
      have Hrow := Lib.hid hrow
      have Hap := Lib.hid hap
      have hbs : (st.boot kept).steps = st.steps := by rfl
      have hbd : (st.boot kept).down = false := by rfl
      have Hbd := Lib.hid (And.intro hbs hbd)
      clear hap hrow hwf hok b1 b2 b3 b4 b7 b8 b9 b10 b11 b12 b13 b14 n1 n2 n3 n4 hbs hbd hcnt
      go_wp2_with fail
      refine (boot_go wr d st F1 (.slice Ak kept.length ck) kept HI1.out.here.disk (Hk.out.keep HI1.out.here.keep (fun _ _ _ f => f)) (fun A1 c1 e hf => by have := HkA.out A1 c1 e; have := HI1.out.here.ff _ hf; omega)).mono ?_
      rintro e w5 ⟨rfl, F5, hd5, k5, ff5⟩
      have Hd5 := Lib.hid hd5
      have K5 := Lib.hid (show Keep No w w5 from HI1.out.here.keep.trans k5 (fun b hb hl => by have := HI1.out.here.ff b hb; omega))
      have FF5 := Lib.hid (show ∀ b ∈ F5, w.heap.size ≤ b from fun b hb => HI1.out.here.ff b (ff5 b hb))
      have Hrow5 := Lib.hid (row_keep Hrow.out k5 (fun b hb => (Hap.out b hb).1))
      have Hap5 := Lib.hid (show ∀ b, (Value.slice Au L.recs.length cu).ownBlock = some b → b ∉ F5 from fun b hb hf => (Hap.out b hb).1 (ff5 b hf))
      clear hd5 k5 ff5
      go_wp2_with fail
      refine (open_go w5 d (st.boot kept) F5 logN most ns Hd5.out Hbd.out.2 logN_ok hm Hn.out.1 Hn.out.2.1 Hn.out.2.2 (Htab.out.keep K5.out (fun _ f => f.elim)) (by rw [Hbd.out.1]; omega)).mono ?_
      rintro e w6 hp
      have hrow6 := row_keep Hrow5.out (by obtain ⟨_, _, q, _⟩ := hp; exact q) (fun b hb => Hap5.out b hb)
      obtain ⟨lb2, F6, G6, rfl, hh⟩ := open_here hp K5.out FF5.out (by rw [B3.out])
      rw [B3.out] at hh
      have Hh6 := Lib.hid hh
      have Hrow6 := Lib.hid hrow6
      have hfin : L2.fin = n := by unfold LogS.fin; omega
      have hfin2 : L2.fin < 9223372036854775808 := by omega
      have Hfin := Lib.hid hfin
      have Hfin2 := Lib.hid hfin2
      clear hp hh hrow6 hfin hfin2
      go_wp2_with fail
      have heg : ∀ W, Keep No w6 W → Calls Tryz.prog 17 #[ptr lb2] W fun e w' => e = .returned (.int .i64 (n : Nat)) ∧ Keep No w6 w' := fun W kW => (end_go W lb2 d L2 G6 (Hh6.out.on kW).log Hfin2.out).mono (by
        rintro e w' ⟨rfl, q, rfl⟩
        exact ⟨by rw [Hfin.out], kW.drewN q⟩)
      have Heg := Lib.hid heg
      have hfg := first_go w6 lb2 d L2 G6 Hh6.out.log
      rw [hL1] at hfg
      clear heg
      refine hfg.mono ?_
      rintro e w7 ⟨rfl, e7⟩
      subst e7
      clear hfg
      have z1 : decide ((n : Int) < (safe : Int)) = false := by simp; omega
      have z2 : decide (n < safe) = false := by simp; omega
      have z3 : decide ((L.recs.length : Int) < (n : Int)) = false := by simp; omega
      have z4 : decide (L.recs.length < n) = false := by simp; omega
      go_wp2_with fail
      refine (Heg.out w7 (Keep.refl No w7)).mono ?_
      rintro e w8 ⟨rfl, k8⟩
      go_wp2_with fail
      refine (Heg.out w8 k8).mono ?_
      rintro e w9 ⟨rfl, k9⟩
      have K9 := Lib.hid k9
      clear k8 k9
      go_wp2_with fail
      have Holds := Lib.hid HI1.out.olds
      go_loopw [19] (fun i W => ∃ j : Nat, j ≤ n ∧ i = .int .i64 j ∧ Keep No w7 W) (fun i _ => n - (intOf i).toNat)
      case atStart => exact ⟨0, by omega, rfl, K9.out⟩
      case round =>
        obtain ⟨j, hj, rfl, kj⟩ := hrel
        have Kj := Lib.hid kj
        clear kj
        by_cases hjn : j < n
        · have y1 : decide ((j : Int) < (n : Int)) = true := by simp; omega
          have y2 : decide (j < n) = true := by simp; omega
          obtain ⟨ga, ca, ua, hue, hga, hca, hua⟩ := row_cell Hrow6.out Holds.out.1 (i := j) (by omega)
          injection hue with hu1 hu2 hu3
          subst hu1
          have hjr : j < L.recs.length := by omega
          have hrj : L.recs[j]? = some L.recs[j] := List.getElem?_eq_getElem hjr
          obtain ⟨t8, hbj⟩ := Holds.out.2 j ua _ hua hrj
          obtain ⟨Aj, cj, rfl⟩ := hbj.form
          have h2j : j < L2.recs.length := by omega
          have hsame : L2.recs[j] = L.recs[j] := by simp [B4.out]
          obtain ⟨bj, hbje⟩ : ∃ bj, L.recs[j] = bj := ⟨_, rfl⟩
          rw [hbje] at hbj hsame hca
          have hlen5 := HI1.out.lies.1 _ (List.getElem_mem hjr)
          rw [hbje] at hlen5
          have Hbj := Lib.hid hbj
          have hgo : ∀ W, Keep No w7 W → Calls Tryz.prog 18 #[ptr lb2, .int .i64 (j : Nat)] W (GetPost W bj) := fun W kW => by
            have := get_in W lb2 d L2 G6 j (Hh6.out.on kW).log Hfin2.out h2j (by rw [hsame]; omega)
            rw [hsame, hL1, Nat.zero_add] at this
            exact this
          have Hgo := Lib.hid hgo
          have Hca := Lib.hid (show ∀ W, Keep No w7 W → W.cell? ⟨ga, j, none⟩ = some (.slice Aj bj.length cj) from fun W kW => (kW.cell (a := ⟨ga, j, none⟩) hga (fun f => f)).trans hca)
          have hjl : (j : Int) < (L.recs.length : Int) := by omega
          clear hgo hca hbj hbje hsame hua hrj hu3
          go_wp2_with fail
          refine (Heg.out _ Kj.out).mono ?_
          rintro e w10 ⟨rfl, k10⟩
          go_wp2_with fail
          refine (Hgo.out w10 k10).mono ?_
          rintro e w11 ⟨xv, rfl, hxb, k11⟩
          have k11' : Keep No w7 w11 := k10.trans k11 (fun _ f _ => f.elim)
          have hc11 := Hca.out w11 k11'
          have hb11 := Hbj.out.keep (Hh6.out.keep.trans k11' (fun _ f _ => f.elim)) (NoBytes.no _ _)
          obtain ⟨Ax, cx, rfl⟩ := hxb.form
          have Hxb := Lib.hid hxb
          have Hb11 := Lib.hid hb11
          have K11 := Lib.hid k11'
          clear hxb hb11 k11' k11 k10
          go_wp2_with fail
          refine (same_go _ _ bj bj w11 Hxb.out Hb11.out).mono ?_
          rintro e w12 ⟨rfl, e12⟩
          subst e12
          have hbb : (bj == bj) = true := by simp
          rw [hbb]
          clear hbb
          go_wp2_with fail
          go_roundw
          case rel => exact ⟨j + 1, by omega, by go_num, K11.out⟩
          case measure => simp [intOf]; omega
        · have y1 : decide ((j : Int) < (n : Int)) = false := by simp; omega
          have y2 : decide (j < n) = false := by simp; omega
          go_wp2_with fail
          refine (Heg.out _ Kj.out).mono ?_
          rintro e w10 ⟨rfl, k10⟩
          have K10 := Lib.hid (show Keep No w w10 from Hh6.out.keep.trans k10 (fun _ f _ => f.elim))
          clear k10
          go_wp2_with fail
          go_ret
          exact ⟨rfl, K10.out⟩
end Go.Proofs.YtbmejbmkaoekgaaGreatDoor
