/- Open of a log, walked. -/
import Derived.Test.YtbmejbmkaoekgaaGreatDoorOpen
namespace Go.Proofs.YtbmejbmkaoekgaaGreatDoor
open Go Go.RowKit
set_option linter.unusedVariables false
set_option linter.unusedSimpArgs false

theorem row_base {w : World} {base base' size n : Nat} {e : TypeId} {v : Value} {xs : List Value} (h : w.ownsRow base e size v n xs) (hb : base' ≤ base) : w.ownsRow base' e size v n xs := by
  refine ⟨h.1, h.2.imp (fun q => q) (fun ⟨g, cap, cur, q1, q2, q3⟩ => ⟨g, cap, cur, q1, Nat.le_trans hb q2, q3⟩)⟩

theorem NatRow.form {w : World} {base : Nat} {v : Value} {l : List Nat} (h : NatRow w base v l) : ∃ A c, v = .slice A l.length c ∧ l.length ≤ c ∧ c ≤ maxLen ∧ ∀ i (h : i < l.length), ∃ g, A = some ⟨g, 0, none⟩ ∧ w.cell? ⟨g, i, none⟩ = some (.int .i64 (l[i] : Nat)) := by
  rcases h.2 with ⟨rfl, e⟩ | ⟨g, cap, cur, rfl, h1, h2, h3, h4, h5, h6⟩
  · exact ⟨none, 0, by rw [e], by omega, by decide, fun i h => by omega⟩
  · refine ⟨_, cap, rfl, h3, h4, fun i h => ⟨g, rfl, ?_⟩⟩
    simp only [World.cell?, h2]
    have : (cur.toList.take (l.length * 1))[i]? = some (.int .i64 (l[i] : Nat)) := by rw [h6]; simp [h]
    rw [List.getElem?_take, if_pos (by omega)] at this
    simpa using this

theorem last_is (l : List Nat) (k : Nat) (hk : k < l.length) : ((k : Int) == (l.length : Int) - 1) = (l.drop (k + 1)).isEmpty := by
  rw [Bool.eq_iff_iff, List.isEmpty_iff]
  simp only [beq_iff_eq, List.drop_eq_nil_iff]
  omega

set_option maxRecDepth 100000 in
set_option maxHeartbeats 2000000 in
theorem open_go (w : World) (d : Nat) (st : DiskS) (F : List Nat) (nm : List UInt8) (most : Int) (ns : List Nat) (hd : DiskAt w d st F) (hup : st.down = false) (hnm : LogName nm) (hm1 : 1 ≤ most)
    (hns : st.sorted = ns.map (fileName nm)) (hlt : ∀ n ∈ ns, n < 1000000000) (hl : ns.length ≤ 16) (htab : Tab w) (hst : st.steps < 4611686018427387000) :
    Calls Tryz.prog 8 #[ptr d, sv nm, .int .i64 most] w (OpenPost w d F (openS nm most st (ns.mergeSort (· ≤ ·)))) := by
  have Hd := Lib.hid hd
  have Hup := Lib.hid hup
  have Hnm := Lib.hid hnm
  have Hns := Lib.hid hns
  have Hlt := Lib.hid hlt
  have Htab := Lib.hid htab
  have hlen := List.length_mergeSort (le := fun (a b : Nat) => decide (a ≤ b)) ns
  have hll : (ns.mergeSort (· ≤ ·)).length ≤ 16 := by rw [hlen]; exact hl
  have hmb : decide (most < 1) = false := by simp; omega
  have hmem : ∀ n ∈ ns.mergeSort (· ≤ ·), n < 1000000000 := fun n hn => hlt n ((List.mergeSort_perm ns _).mem_iff.1 hn)
  obtain ⟨l, hl'⟩ : ∃ l, ns.mergeSort (· ≤ ·) = l := ⟨_, rfl⟩
  rw [hl'] at hll hmem ⊢
  have HL := Lib.hid hl'
  have Hmem := Lib.hid hmem
  clear hd hup hnm hns hlt htab hlen hmem hl'
  go_enter Tryz.func8, Tryz.ntmps8
  go_wp2_with fail
  refine (wname_ok nm Hnm.out _).mono ?_
  rintro e w1 ⟨rfl, hk1⟩
  have Hk1 := Lib.hid hk1
  clear hk1
  go_wp2_with fail
  have hdn : Calls Tryz.prog 24 #[ptr d] w1 fun e w' => e = .returned (.bool false) ∧ w1 = w' := by
    have := down_go w1 d st F (Hd.out.keep Hk1.out (fun _ _ f => f) (NoBytes.no _ _))
    rw [Hup.out] at this; exact this
  refine hdn.mono ?_
  rintro e w1' ⟨rfl, rfl⟩
  clear hdn
  go_wp2_with fail
  obtain ⟨w2, hw2⟩ : ∃ w2, w1.alloc (.cells #[ptr d, sv nm, .int .i64 most, .slice none 0 0, .slice none 0 0, .int .i64 0, .bool false] tLog) = w2 := ⟨_, rfl⟩
  rw [hw2]
  obtain ⟨lb, hlb⟩ : ∃ lb, w1.heap.size = lb := ⟨_, rfl⟩
  rw [hlb]
  have hc2 : Cells w2 lb tLog #[ptr d, sv nm, .int .i64 most, .slice none 0 0, .slice none 0 0, .int .i64 0, .bool false] := by rw [← hw2, ← hlb]; exact Cells.new _ _ _
  have k2 : Keep No w w2 := by rw [← hw2]; exact Hk1.out.alloc _
  have hlw : w.heap.size ≤ lb := by rw [← hlb]; exact Hk1.out.size
  have ngw := Htab.out.size
  have hR2 : LogR w2 lb d (fresh nm most 0) (.slice none 0 0) (.slice none 0 0) [] := ⟨hc2, World.ownsRow_nil _ _ _ _, World.ownsRow_nil _ _ _ _, trivial, by omega⟩
  have HR2 := Lib.hid hR2
  have Hk2 := Lib.hid k2
  clear hw2 hlb hc2 k2 hR2
  refine (numbers_go w2 d st F nm ns (Hd.out.keep Hk2.out (fun _ _ f => f) (NoBytes.no _ _)) Hup.out Hnm.out Hns.out Hlt.out hl (Htab.out.keep Hk2.out (fun _ f => f.elim))).mono ?_
  rintro e w3 ⟨v, rfl, hrow, hk3⟩
  rw [HL.out] at hrow
  have hrow' : NatRow w3 NG v l := row_base hrow (Nat.le_trans ngw Hk2.out.size)
  have hk23 : Keep No w w3 := Hk2.out.trans hk3 (fun _ f => f.elim)
  obtain ⟨A, c, rfl, hc1, hc2, hc3⟩ := hrow'.form
  have h0 : OpenI w d st F nm most l lb (.slice A l.length c) 0 (fresh nm most 0) st F [lb] w3 :=
    ⟨⟨_, _, _, HR2.out.keep hk3 (fun f => f) (fun _ _ f => f) (fun _ _ f => f) (NoBytes.no _ _), rfl⟩, Hd.out.keep hk23 (fun _ _ f => f) (NoBytes.no _ _), hk23.mono (fun _ f _ => f.elim), fun _ h => .inl h, fun b hb => by simp at hb; omega, hrow', by omega, rfl, by simp [fresh], by simp [fresh], by simp [fresh], fun _ => ⟨rfl, rfl⟩, fun q => by omega⟩
  have H0 := Lib.hid h0
  clear hrow hrow' hk3 hk23 h0 hc3 HR2
  go_wp2_with fail
  go_loopw [37] (fun i wr => ∃ k Lk sk Fk Gk, k ≤ l.length ∧ i = .int .i64 k ∧ OpenI w d st F nm most l lb (.slice A l.length c) k Lk sk Fk Gk wr) (fun i _ => l.length - (intOf i).toNat)
  case atStart => exact ⟨0, _, _, _, _, by omega, rfl, H0.out⟩
  case round =>
    obtain ⟨k, Lk, sk, Fk, Gk, hk, rfl, hI⟩ := hrel
    obtain ⟨pv, rv, vs, hR, hG⟩ := hI.log
    have HI := Lib.hid hI
    have HR := Lib.hid hR
    have HG := Lib.hid hG
    clear hI hR hG H0
    by_cases hlt : k < l.length
    · obtain ⟨A', c', hv, _, _, hc3⟩ := HI.out.row.form
      injection hv with hv1 hv2 hv3
      obtain ⟨g, hA, hcell⟩ := hc3 k hlt
      rw [hA] at hv1
      subst hv1
      clear hc3 hA hv3
      have y5 := HR.out.1.cell 5
      have y5f := HR.out.1.free 5
      simp only [List.getElem?_toArray, List.getElem?_cons_succ, List.getElem?_cons_zero] at y5
      have hn9 := Hmem.out l[k] (List.getElem_mem hlt)
      obtain ⟨n, hn⟩ : ∃ n, l[k] = n := ⟨_, rfl⟩
      rw [hn] at hcell hn9
      have Hn := Lib.hid hn
      clear hn
      have hok1 : Hid Lk.LoadOk := Lib.hid ⟨by rw [HI.out.name]; exact Hnm.out, by have := HI.out.recs; have := HI.out.first; unfold LogS.fin; omega, by have := HI.out.parts; omega⟩
      have hok0 : Hid ({ Lk with first := n } : LogS).LoadOk := Lib.hid ⟨hok1.out.name, by have := HI.out.recs; show n + Lk.recs.length < _; omega, hok1.out.count⟩
      have htw : Hid (Tab (wr.setCell ⟨lb, 5, none⟩ (.int .i64 (n : Nat)))) := Lib.hid ((Htab.out.keep HI.out.keep (fun b hb => Hd.out.ng b hb)).keep (HR.out.setFirst n).2 (fun b hb => by subst hb; omega))
      have hss : sk.steps < 4611686018427387903 := by have := HI.out.steps; omega
      by_cases hz : k = 0
      · subst hz
        go_wp2_with fail
        refine (lload_go _ lb d sk { Lk with first := n } Fk pv rv vs n (((0 : Nat) : Int) == (l.length : Int) - 1) (HI.out.disk.log HI.out.log ((HR.out.setFirst n).2.mono (fun b e _ => by subst e; rw [HG.out]; simp))) (HR.out.setFirst n).1 hok0.out htw.out hss hn9).mono ?_
        rintro e w4 hp
        have hp2 : LoadPost (wr.setCell ⟨lb, 5, none⟩ (.int .i64 (n : Nat))) lb d Fk Gk (({ Lk with first := n } : LogS).load sk l[0] (l.drop (0 + 1)).isEmpty) e w4 := by rw [← last_is l 0 hlt, Hn.out, HG.out]; exact hp
        have Hp2 := Lib.hid hp2
        clear hp hp2
        rcases HI.out.go hlt Hmem.out (L1 := { Lk with first := n }) (by rw [if_pos rfl, Hn.out]) ⟨_, _, _, (HR.out.setFirst n).1, HG.out⟩ (HR.out.setFirst n).2 Hp2.out with ⟨rfl, h0, Lk', sk', Fk', Gk', hI'⟩ | ⟨ee, hee, rfl, hop, F', hd', hk', hf'⟩
        · have HI' := Lib.hid hI'
          clear h0 hI' Hp2
          go_wp2_with fail
          go_roundw
          case rel => exact ⟨0 + 1, Lk', sk', Fk', Gk', by omega, by go_num, HI'.out⟩
          case measure => simp [intOf]; omega
        · have hb1 : (ee != 0) = true := by simpa using hee
          have hb2 : (ee == 0) = false := by simpa using hee
          have Hop := Lib.hid hop
          have Hd' := Lib.hid hd'
          have Hk' := Lib.hid hk'
          have Hf' := Lib.hid hf'
          have Hee := Lib.hid hee
          clear hop hd' hk' hf' hee Hp2
          go_wp2_with fail
          go_ret2
          exact ⟨F', Hd'.out, Hk'.out, Hf'.out, .inr ⟨by rw [Hop.out]; exact Hee.out, by rw [Hop.out]; rfl⟩⟩
      · have hz1 : ((k : Int) == 0) = false := by simp; omega
        have hz2 : (k == 0) = false := by simp; omega
        go_wp2_with fail
        refine (lload_go _ lb d sk Lk Fk pv rv vs n ((k : Int) == (l.length : Int) - 1) HI.out.disk HR.out hok1.out (Htab.out.keep HI.out.keep (fun b hb => Hd.out.ng b hb)) hss hn9).mono ?_
        rintro e w4 hp
        have hp2 : LoadPost wr lb d Fk Gk (Lk.load sk l[k] (l.drop (k + 1)).isEmpty) e w4 := by rw [← last_is l k hlt, Hn.out, HG.out]; exact hp
        have Hp2 := Lib.hid hp2
        clear hp hp2
        rcases HI.out.go hlt Hmem.out (L1 := Lk) (by rw [if_neg hz]) HI.out.log (Keep.refl _ _) Hp2.out with ⟨rfl, h0, Lk', sk', Fk', Gk', hI'⟩ | ⟨ee, hee, rfl, hop, F', hd', hk', hf'⟩
        · have HI' := Lib.hid hI'
          clear h0 hI' Hp2
          go_wp2_with fail
          go_roundw
          case rel => exact ⟨k + 1, Lk', sk', Fk', Gk', by omega, by go_num, HI'.out⟩
          case measure => simp [intOf]; omega
        · have hb1 : (ee != 0) = true := by simpa using hee
          have hb2 : (ee == 0) = false := by simpa using hee
          have Hop := Lib.hid hop
          have Hd' := Lib.hid hd'
          have Hk' := Lib.hid hk'
          have Hf' := Lib.hid hf'
          have Hee := Lib.hid hee
          clear hop hd' hk' hf' hee Hp2
          go_wp2_with fail
          go_ret2
          exact ⟨F', Hd'.out, Hk'.out, Hf'.out, .inr ⟨by rw [Hop.out]; exact Hee.out, by rw [Hop.out]; rfl⟩⟩
    · have hkk : k = l.length := by omega
      subst hkk
      go_wp2_with fail
      go_ret2
      have hop : openS nm most st l = (Lk, sk, 0) := by
        by_cases hz : l.length = 0
        · have := List.eq_nil_of_length_eq_zero hz
          subst this
          obtain ⟨z1, z2⟩ := HI.out.zero rfl
          rw [z1, z2]; rfl
        · have := HI.out.more (by omega)
          rw [List.drop_length] at this
          rw [← this]; rfl
      exact ⟨Fk, by rw [hop]; exact HI.out.disk, HI.out.keep, HI.out.ff, .inl ⟨by rw [hop], lb, Gk, rfl, by rw [hop]; exact HI.out.log, HI.out.gg⟩⟩
end Go.Proofs.YtbmejbmkaoekgaaGreatDoor
