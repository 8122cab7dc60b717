/- WalRots, walked. -/
import Derived.Test.YtbmejbmkaoekgaaGreatDoorAlive
import Derived.Test.YtbmejbmkaoekgaaGreatDoorPlay3
import Derived.Test.YtbmejbmkaoekgaaGreatDoorArgs
namespace Go.Proofs.YtbmejbmkaoekgaaGreatDoor
open Go Go.RowKit
set_option linter.unusedVariables false
set_option linter.unusedSimpArgs false

/-- Ahead of round k: the first k records are in the log, and all went well. -/
structure RotsI (w0 : World) (ls : List (List UInt8)) (d lb : Nat) (most : Int) (k : Nat) (L : LogS) (st : DiskS) (F G : List Nat) (wr : World) : Prop where
  here : Here w0 wr d lb L st F G
  lies : Lies L st 0
  calm : Calm st
  name : L.name = logN
  first : L.first = 0
  mst : L.most = most
  steps : st.steps ≤ 2 * k
  most1 : 1 ≤ most

set_option maxRecDepth 100000 in
set_option maxHeartbeats 4000000 in
theorem rots_go (w : World) (most : Int) (v : Value) (ls : List (List UInt8)) (file at_ : Int) (x : UInt8) (htab : Tab w) (hv : AList w w.heap.size v ls) (hll : ls.length ≤ 140737488355328) :
    Calls Tryz.prog 3 #[.int .i64 most, v, .int .i64 file, .int .i64 at_, .int .u8 (x.toNat : Nat)] w fun e w' => e = .returned (.bool true) ∧ Keep No w w' := by
  have Htab := Lib.hid htab
  have Hv := Lib.hid hv
  have ngw := htab.size
  obtain ⟨A, c, us, rfl, hc1, hc2, _⟩ := hv
  clear htab
  by_cases hm : most < 1
  · have h1 : decide (most < 1) = true := by simpa using hm
    go_enter Tryz.func3, Tryz.ntmps3
    go_wp2_with fail
    refine (alive_go _ Htab.out).mono ?_
    rintro e w1 ⟨rfl, k1⟩
    go_wp2_with fail
    go_ret
    exact ⟨rfl, k1⟩
  have h1 : decide (most < 1) = false := by simpa using hm
  by_cases hx : x = 0
  · subst hx
    have h2 : (((0 : UInt8).toNat : Int) == 0) = true := by rfl
    go_enter Tryz.func3, Tryz.ntmps3
    go_wp2_with fail
    refine (alive_go _ Htab.out).mono ?_
    rintro e w1 ⟨rfl, k1⟩
    go_wp2_with fail
    go_ret
    exact ⟨rfl, k1⟩
  have hx0 : x.toNat ≠ 0 := fun e => hx (UInt8.toNat_inj.1 (by simpa using e))
  have h2 : ((x.toNat : Int) == 0) = false := by simpa using hx0
  have Hx := Lib.hid hx
  clear hx hx0
  go_enter Tryz.func3, Tryz.ntmps3
  go_wp2_with fail
  refine (new_ok 1073741824 w (by omega) ngw).mono ?_
  rintro e w1 ⟨d, F0, rfl, hd0, k0, ff0⟩
  have Hd0 := Lib.hid hd0
  have K0 := Lib.hid k0
  have FF0 := Lib.hid ff0
  clear hd0 k0 ff0
  go_wp2_with fail
  refine (open_go w1 d (disk0 1073741824) F0 logN most [] Hd0.out rfl logN_ok (by omega) (by simp [DiskS.sorted, DiskS.names, disk0]) (by simp) (by simp) (Htab.out.keep K0.out (fun _ f => f.elim)) (by show (0 : Nat) < _; omega)).mono ?_
  rintro e w2 hp
  obtain ⟨lb, F, G, rfl, hh⟩ := open_here hp K0.out FF0.out (by rw [List.mergeSort_nil]; rfl)
  have Hh := Lib.hid (show Here w w2 d lb (fresh logN most 0) (disk0 1073741824) F G by rw [List.mergeSort_nil] at hh; exact hh)
  clear hp hh
  go_wp2_with fail
  refine (alive_go _ (Hh.out.tab Htab.out)).mono ?_
  rintro e w3 ⟨rfl, k3⟩
  have hI : RotsI w ls d lb most 0 (fresh logN most 0) (disk0 1073741824) F G w3 := ⟨Hh.out.on k3, ⟨by simp [fresh], by simp [fresh], .inl ⟨rfl, rfl, rfl⟩⟩, ⟨rfl, rfl⟩, rfl, rfl, rfl, by decide, by omega⟩
  have HI := Lib.hid hI
  clear k3 hI
  go_wp2_with fail
  go_loopw [15] (fun i wr => ∃ k L st F G, k ≤ ls.length ∧ i = .int .i64 k ∧ RotsI w ls d lb most k L st F G wr) (fun i _ => ls.length - (intOf i).toNat)
  case atStart => exact ⟨0, _, _, _, _, by omega, rfl, HI.out⟩
  case round =>
    obtain ⟨k, L, st, F1, G1, hk, rfl, hI⟩ := hrel
    have HI1 := Lib.hid hI
    clear hI
    by_cases hlt : k < ls.length
    · have hA := Hv.out.keep (S := No) HI1.out.here.keep (fun _ f => f.elim)
      obtain ⟨g, off, c', u, hv', hg, hcell, t8, hb, ho⟩ := hA.at_ hlt
      injection hv' with hv1 hv2 hv3
      subst hv1
      obtain ⟨A', c2, rfl⟩ := hb.form
      obtain ⟨b, hbk⟩ : ∃ b, ls[k] = b := ⟨_, rfl⟩
      rw [hbk] at hcell hb ho
      have Hb := Lib.hid hb
      have Ho := Lib.hid ho
      clear hA hb ho hbk hv3
      by_cases hbig : 1000 < b.length
      · have hb1 : decide ((1000 : Int) < (b.length : Int)) = true := by simp; omega
        have hb2 : decide (1000 < b.length) = true := by simp; omega
        go_wp2_with fail
        go_ret
        exact ⟨rfl, HI1.out.here.keep⟩
      · have hb1 : decide ((1000 : Int) < (b.length : Int)) = false := by simp; omega
        have hb2 : decide (1000 < b.length) = false := by simp; omega
        have hwf := HI1.out.here.disk.wf
        have hok := HI1.out.lies.ok hwf (by rw [HI1.out.name]; exact logN_ok) (by rw [HI1.out.first]; omega)
        have hso := HI1.out.lies.sound (by rw [HI1.out.mst]; exact HI1.out.most1)
        have hst := HI1.out.steps
        have hla := HI1.out.lies.append hwf (by rw [HI1.out.mst]; exact HI1.out.most1) b (by omega)
        have hca := HI1.out.calm.lappend L b
        have hsa := lappend_steps L st b
        have Hok := Lib.hid hok
        have Hso := Lib.hid hso
        have Hla := Lib.hid hla
        have Hca := Lib.hid hca
        have Hsa := Lib.hid hsa
        clear hok hso hwf hla hca hsa
        go_wp2_with fail
        refine (append_go wr lb d st L F1 G1 (.slice A' b.length c2) b HI1.out.here.disk HI1.out.here.log Hok.out Hso.out (HI1.out.here.tab Htab.out) (by omega) (HI1.out.here.srcOld Hb.out Ho.out) (by omega)).mono ?_
        rintro e w4 hp
        obtain ⟨rfl, F2, G2, hh⟩ := HI1.out.here.step hp
        have Hh2 := Lib.hid hh
        clear hp hh
        by_cases he : (L.append st b).2.2 = 0
        · rw [he]
          have hI2 : RotsI w ls d lb most (k + 1) (L.append st b).1 (L.append st b).2.1 F2 G2 w4 := ⟨Hh2.out, Hla.out.1, Hca.out, Hla.out.2.1.trans HI1.out.name, Hla.out.2.2.1.trans HI1.out.first, Hla.out.2.2.2.1.trans HI1.out.mst, by have := Hsa.out; omega, HI1.out.most1⟩
          have HI2 := Lib.hid hI2
          clear hI2 he
          go_wp2_with fail
          go_roundw
          case rel => exact ⟨k + 1, _, _, _, _, by omega, by go_num, HI2.out⟩
          case measure => simp [intOf]; omega
        · obtain ⟨ee, hee⟩ : ∃ ee, (L.append st b).2.2 = ee := ⟨_, rfl⟩
          rw [hee] at he ⊢
          have he1 : (ee != 0) = true := by simpa using he
          have he2 : (ee == 0) = false := by simpa using he
          clear hee he
          go_wp2_with fail
          go_ret
          exact ⟨rfl, Hh2.out.keep⟩
    · have hkl : k = ls.length := by omega
      subst hkl
      have hwf := HI1.out.here.disk.wf
      have hok := HI1.out.lies.ok hwf (by rw [HI1.out.name]; exact logN_ok) (by rw [HI1.out.first]; omega)
      have hst := HI1.out.steps
      have hsy := HI1.out.calm.synced HI1.out.lies hwf
      have hls := HI1.out.lies.sync hwf
      have hcs := HI1.out.calm.lsync L
      have hss := lsync_steps L st
      have Hok := Lib.hid hok
      have Hsy := Lib.hid hsy
      have Hls := Lib.hid hls
      have Hcs := Lib.hid hcs
      have Hss := Lib.hid hss
      clear hok hsy hls hcs hss hwf
      go_wp2_with fail
      refine (sync_go wr lb d st L F1 G1 HI1.out.here.disk HI1.out.here.log Hok.out (HI1.out.here.tab Htab.out) (by omega)).mono ?_
      rintro e w4 hp
      obtain ⟨rfl, F2, G2, hh⟩ := HI1.out.here.step hp
      rw [Hsy.out]
      have Hh2 := Lib.hid hh
      clear hp hh
      obtain ⟨L2, hL2⟩ : ∃ L2, (L.sync st).1 = L2 := ⟨_, rfl⟩
      obtain ⟨s2, hs2⟩ : ∃ s2, (L.sync st).2.1 = s2 := ⟨_, rfl⟩
      rw [hL2, hs2] at Hls Hh2
      rw [hs2] at Hcs Hss
      rw [Hsy.out] at Hls
      have hq := Hls.out
      have hl2 : Lies L2 s2 L2.recs.length := by rw [hq.2.1]; exact hq.2.2.2.2.2.2.2 rfl
      have hdirty : L2.parts = [] ∨ L2.dirty = false := by
        by_cases h0 : L2.parts = []
        · exact .inl h0
        · rcases hq.2.2.2.2.2.2.1 rfl h0 with q | q
          · exact .inr q
          · exact .inr q.2
      have Hl2 := Lib.hid hl2
      have Hdirty := Lib.hid hdirty
      have hnm2 : L2.name = logN := hq.2.2.1.trans HI1.out.name
      have hok2 := hl2.ok Hh2.out.disk.wf (by rw [hnm2]; exact logN_ok) (by rw [hq.2.2.2.1, HI1.out.first]; omega)
      have Hok2 := Lib.hid hok2
      have Hnm2 := Lib.hid hnm2
      have hst2 : s2.steps ≤ 2 * ls.length + 1 := by have := Hss.out; omega
      clear hq hl2 hdirty hnm2 hok2 hL2 hs2
      go_wp2_with fail
      -- List
      have hlg := list_go w4 d s2 F2 Hh2.out.disk
      have hsl : s2.list = s2.sorted := by unfold DiskS.list; rw [Hcs.out.1]; rfl
      rw [hsl] at hlg
      refine hlg.mono ?_
      rintro e w5 ⟨lv, rfl, hrow, k5⟩
      have Hh3 := Lib.hid (Hh2.out.on k5)
      have hform : ∃ A c, lv = .slice A s2.sorted.length c ∧ s2.sorted.length ≤ c ∧ c ≤ maxLen ∧ ∀ i (h : i < s2.sorted.length), ∃ g, A = some ⟨g, 0, none⟩ ∧ w5.cell? ⟨g, i, none⟩ = some (sv s2.sorted[i]) := by
        unfold NList at hrow
        rcases hrow.2 with ⟨rfl, e⟩ | ⟨g, cap, cur, rfl, h1, h2, h3, h4, h5, h6⟩
        · exact ⟨none, 0, by rw [e], by omega, by decide, fun i h => by omega⟩
        · refine ⟨_, cap, rfl, h3, h4, fun i h => ⟨g, rfl, ?_⟩⟩
          simp only [World.cell?, h2]
          have : (cur.toList.take (s2.sorted.length * 1))[i]? = some (sv s2.sorted[i]) := by rw [h6]; simp [h]
          rw [List.getElem?_take, if_pos (by omega)] at this
          simpa using this
      obtain ⟨A5, c5, rfl, hc5, hm5, hcell5⟩ := hform
      have Hcell5 := Lib.hid hcell5
      clear hlg hsl hrow k5 hcell5 Hh2
      by_cases hf0 : file < 0
      · have q1 : decide (file < 0) = true := by simpa using hf0
        go_wp2_with fail
        go_ret
        exact ⟨rfl, Hh3.out.keep⟩
      have q1 : decide (file < 0) = false := by simpa using hf0
      by_cases hf1 : (s2.sorted.length : Int) ≤ file
      · have q2 : decide ((s2.sorted.length : Int) ≤ file) = true := by simpa using hf1
        go_wp2_with fail
        go_ret
        exact ⟨rfl, Hh3.out.keep⟩
      obtain ⟨i, hi⟩ : ∃ i : Nat, file = (i : Int) := ⟨file.toNat, by omega⟩
      subst hi
      have hil : i < s2.sorted.length := by omega
      have q2 : decide ((s2.sorted.length : Int) ≤ (i : Int)) = false := by simp; omega
      have q3 : decide (s2.sorted.length ≤ i) = false := by simp; omega
      obtain ⟨g5, hA5, hcell⟩ := Hcell5.out i hil
      subst hA5
      obtain ⟨nm, hnm⟩ : ∃ nm, s2.sorted[i] = nm := ⟨_, rfl⟩
      rw [hnm] at hcell
      clear hnm
      have hil2 : (i : Int) < (s2.sorted.length : Int) := by omega
      clear hf0 hf1
      go_wp2_with fail
      refine (spoil_go w5 d s2 F2 nm at_ x Hh3.out.disk).mono ?_
      rintro e w6 ⟨rfl, F6, hd6, k6, ff6⟩
      have hs3 := Hh3.out.keep.size
      have K6 := Lib.hid (show Keep No w w6 from Hh3.out.keep.trans k6 (fun b hb hl => by have := Hh3.out.ff b hb; omega))
      have FF6 := Lib.hid (show ∀ b ∈ F6, w.heap.size ≤ b from fun b hb => (ff6 b hb).elim (fun h => Hh3.out.ff b h) (fun h => by omega))
      have Hd6 := Lib.hid hd6
      clear hd6 k6 ff6 hs3
      by_cases he : (s2.spoil nm at_ x).2 = 0
      · rw [he]
        have ho := open_flip Hl2.out Hh3.out.disk.wf Hcs.out.1 Hcs.out.2 Hdirty.out nm at_ x Hx.out he most
        obtain ⟨o1, o2, o3⟩ := ho
        have hsp := spoil_steps s2 nm at_ x
        have hcnt : (fileNums L2).length ≤ 16 := by
          have h1 := Hl2.out.count
          have h2 := Hh3.out.disk.wf.many
          unfold fileNums; rw [List.length_map]; omega
        obtain ⟨ns, n1, n2, n3, n4⟩ := open_ready o1 o2 Hok2.out.nums hcnt
        rw [Hnm2.out] at n1 o3
        rw [← n4] at o3
        have Ho3 := Lib.hid o3
        have Hn := Lib.hid (And.intro n1 (And.intro n2 n3))
        have Hsp := Lib.hid hsp
        clear he o1 o2 o3 n1 n2 n3 n4 hsp hcnt
        go_wp2_with fail
        refine (open_go w6 d (s2.spoil nm at_ x).1 F6 logN most ns Hd6.out (Hsp.out.2.1.trans Hcs.out.1) logN_ok hm Hn.out.1 Hn.out.2.1 Hn.out.2.2 (Htab.out.keep K6.out (fun _ f => f.elim)) (by rw [Hsp.out.1]; omega)).mono ?_
        rintro e w7 ⟨F7, hd7, k7, ff7, hr⟩
        rcases hr with ⟨hr, _⟩ | ⟨_, rfl⟩
        · rw [Ho3.out] at hr; cases hr
        · rw [Ho3.out]
          have K7 := Lib.hid (show Keep No w w7 from K6.out.trans k7 (fun b hb hl => by have := FF6.out b hb; omega))
          clear hd7 k7 ff7
          go_wp2_with fail
          go_ret
          exact ⟨rfl, K7.out⟩
      · obtain ⟨ee, hee⟩ : ∃ ee, (s2.spoil nm at_ x).2 = ee := ⟨_, rfl⟩
        rw [hee] at he ⊢
        have he1 : (ee != 0) = true := by simpa using he
        have he2 : (ee == 0) = false := by simpa using he
        clear hee he
        go_wp2_with fail
        go_ret
        exact ⟨rfl, K6.out⟩
end Go.Proofs.YtbmejbmkaoekgaaGreatDoor
