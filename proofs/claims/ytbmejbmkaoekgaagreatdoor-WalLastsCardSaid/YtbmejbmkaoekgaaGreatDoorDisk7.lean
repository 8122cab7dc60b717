/- Boot. -/
import Derived.Test.YtbmejbmkaoekgaaGreatDoorDisk6
import Derived.BigRegion
import Derived.StillTailTactics
import Derived.Deep.Cut
namespace Go.Proofs.YtbmejbmkaoekgaaGreatDoor
open Go Go.RowKit
set_option linter.unusedVariables false
set_option linter.unusedSimpArgs false

/-- A slice of ints. -/
def IntsAt (w : World) (v : Value) (zs : List Int) : Prop :=
  ∃ (A : Option Addr) (c : Nat), v = .slice A zs.length c ∧ zs.length ≤ 9223372036854775807 ∧ ∀ i (hi : i < zs.length), ∃ g off, A = some ⟨g, off, none⟩ ∧ g < w.heap.size ∧ w.cell? ⟨g, off + i, none⟩ = some (.int .i64 zs[i])

theorem IntsAt.keep {w w' : World} {v : Value} {zs : List Int} {S : Nat → Prop} (h : IntsAt w v zs) (k : Keep S w w') (hS : ∀ A c, v = .slice (some A) zs.length c → ¬ S A.block) : IntsAt w' v zs := by
  obtain ⟨A, c, rfl, hl, h⟩ := h
  refine ⟨A, c, rfl, hl, fun i hi => ?_⟩
  obtain ⟨g, off, rfl, hg, hc⟩ := h i hi
  exact ⟨g, off, rfl, Nat.lt_of_lt_of_le hg k.size, by rw [k.cell (a := ⟨g, off + i, none⟩) hg (hS ⟨g, off, none⟩ c rfl)]; exact hc⟩

/-- The disk when k of its files have been booted. -/
def bootSome (d : DiskS) (kept : List Int) (k : Nat) : List FileS := d.files.map (fun f => if f.name ∈ d.sorted.take k then bootFile kept d.sorted f else f)

theorem boot_name (kept : List Int) (l : List (List UInt8)) (f : FileS) : (bootFile kept l f).name = f.name := rfl
theorem sorted_perm' (d : DiskS) : d.sorted.Perm d.names := List.mergeSort_perm _ _
theorem sorted_nodup {d : DiskS} (h : d.WF) : d.sorted.Nodup := (sorted_perm' d).nodup_iff.2 h.names
theorem bootSome_zero (d : DiskS) (kept : List Int) : bootSome d kept 0 = d.files := by
  unfold bootSome
  conv => rhs; rw [← List.map_id d.files]
  apply List.map_congr_left; intro f _; simp
theorem bootSome_all (d : DiskS) (kept : List Int) : bootSome d kept d.sorted.length = (d.boot kept).files := by
  unfold bootSome DiskS.boot
  simp only [List.take_length]
  apply List.map_congr_left
  intro f hf
  rw [if_pos]
  exact (sorted_perm' d).mem_iff.2 (List.mem_map.2 ⟨f, hf, rfl⟩)
theorem take_mem_succ {l : List (List UInt8)} {k : Nat} (hk : k < l.length) (n : List UInt8) : n ∈ l.take (k + 1) ↔ n ∈ l.take k ∨ n = l[k] := by
  rw [List.take_succ_eq_append_getElem hk, List.mem_append, List.mem_singleton]
theorem bootSome_succ {d : DiskS} (h : d.WF) (kept : List Int) (k : Nat) (hk : k < d.sorted.length) :
    bootSome d kept (k + 1) = turnAt (bootSome d kept k) d.sorted[k] (bootFile kept d.sorted) := by
  have hnd := sorted_nodup h
  unfold bootSome turnAt
  rw [List.map_map]
  apply List.map_congr_left
  intro f hf
  simp only [Function.comp]
  have hnot : d.sorted[k] ∉ d.sorted.take k := by
    intro hm
    obtain ⟨i, hi⟩ := List.mem_iff_getElem?.1 hm
    have hik : i < k := by have := (List.getElem?_eq_some_iff.1 hi).1; simp at this; omega
    rw [List.getElem?_take, if_pos hik] at hi
    have := nodup_at hnd hi (List.getElem?_eq_getElem hk)
    omega
  by_cases h1 : f.name ∈ d.sorted.take k
  · have hne : f.name ≠ d.sorted[k] := fun e => hnot (e ▸ h1)
    rw [if_pos ((take_mem_succ hk _).2 (.inl h1)), if_pos h1, if_neg (by rw [boot_name]; exact hne)]
  · by_cases h2 : f.name = d.sorted[k]
    · rw [if_pos ((take_mem_succ hk _).2 (.inr h2)), if_neg h1, if_pos h2]
    · rw [if_neg (fun m => ((take_mem_succ hk _).1 m).elim h1 h2), if_neg h1, if_neg h2]

theorem left_le {d : DiskS} (h : d.WF) (kept : List Int) (i : Nat) {f : FileS} (hf : f ∈ d.files) : leftOver kept i f ≤ f.bytes.length := by
  unfold leftOver
  have := h.safe f hf
  split <;> omega

theorem bootSome_wf {d : DiskS} (h : d.WF) (kept : List Int) (k : Nat) : ({ d with files := bootSome d kept k } : DiskS).WF := by
  have hn : ∀ (p : FileS → Bool), ((d.files.map (fun f => if p f then bootFile kept d.sorted f else f)).map (·.name)) = d.files.map (·.name) := by
    intro p; rw [List.map_map]; apply List.map_congr_left; intro f _; simp only [Function.comp]; split <;> rfl
  have hlen : ∀ x ∈ bootSome d kept k, ∃ f ∈ d.files, x.name = f.name ∧ x.bytes.length ≤ f.bytes.length ∧ x.safe ≤ x.bytes.length := by
    intro x hx
    obtain ⟨f, hf, rfl⟩ := List.mem_map.1 hx
    refine ⟨f, hf, ?_⟩
    split
    · have := left_le h kept (d.sorted.idxOf f.name) hf
      exact ⟨rfl, by simp only [bootFile, List.length_take]; omega, by simp only [bootFile, List.length_take]; omega⟩
    · exact ⟨rfl, Nat.le_refl _, h.safe f hf⟩
  refine ⟨h.room, ?_, by simp [bootSome]; exact h.many, ?_, ?_, ?_⟩
  · refine Nat.le_trans ?_ h.used
    unfold DiskS.used
    have : ∀ (m : List FileS), (∀ f ∈ m, f ∈ d.files) → usedBy (m.map (fun f => if f.name ∈ d.sorted.take k then bootFile kept d.sorted f else f)) ≤ usedBy m := by
      intro m
      induction m with
      | nil => intro _; exact Nat.le_refl _
      | cons x m ih =>
        intro hm
        have := ih (fun y hy => hm y (.tail _ hy))
        have hx := left_le h kept (d.sorted.idxOf x.name) (hm x (.head _))
        simp only [usedBy, List.map_cons, List.sum_cons] at this ⊢
        split
        · simp only [bootFile, List.length_take] at *; omega
        · omega
    exact this d.files (fun _ h => h)
  · intro x hx
    obtain ⟨f, hf, _, _, h3⟩ := hlen x hx
    exact h3
  · unfold DiskS.names
    have := hn (fun f => decide (f.name ∈ d.sorted.take k))
    simp only [decide_eq_true_eq] at this
    show (List.map (·.name) (bootSome d kept k)).Nodup
    unfold bootSome
    rw [this]; exact h.names
  · intro x hx
    obtain ⟨f, hf, h1, _, _⟩ := hlen x hx
    rw [h1]; exact h.short f hf


theorem boot_find (st : DiskS) (kept : List Int) (k : Nat) (hk : k < st.sorted.length) : ∃ f, ({ st with files := bootSome st kept k } : DiskS).find st.sorted[k] = some f := by
  have hm : st.sorted[k] ∈ st.names := (sorted_perm' st).mem_iff.1 (List.getElem_mem hk)
  obtain ⟨f, hf, hn⟩ := List.mem_map.1 hm
  cases h : ({ st with files := bootSome st kept k } : DiskS).find st.sorted[k] with
  | some g => exact ⟨g, rfl⟩
  | none =>
    have := find_none h (if f.name ∈ st.sorted.take k then bootFile kept st.sorted f else f) (List.mem_map.2 ⟨f, hf, rfl⟩)
    exact absurd (by split <;> exact hn) this

theorem idx_at {l : List (List UInt8)} (h : l.Nodup) {k : Nat} (hk : k < l.length) : l.idxOf l[k] = k := by
  have h1 : l.idxOf l[k] < l.length := List.idxOf_lt_length_of_mem (List.getElem_mem hk)
  have h2 : l[l.idxOf l[k]] = l[k] := List.getElem_idxOf h1
  exact nodup_at h (List.getElem?_eq_getElem h1) (by rw [List.getElem?_eq_getElem hk, h2])

theorem Bytes.recap {w : World} {t8 : TypeId} {A : Option Addr} {n c c' : Nat} {bs : List UInt8} (h : Bytes w t8 (.slice A n c) bs) (h1 : bs.length ≤ c') (h2 : c' ≤ maxLen) : Bytes w t8 (.slice A n c') bs := by
  obtain ⟨A', c0, e, _, _, hx⟩ := h
  injection e with e1 e2 e3
  subst e1; subst e2
  exact ⟨A, c', rfl, h1, h2, hx⟩

/-- One more file is booted. -/
theorem DiskR.booted {w w' : World} {d : Nat} {st : DiskS} {F : List Nat} {fm : Nat} {pv : Value} {pb : List Nat} {R : List (FileS × Nat)} {kept : List Int} {k : Nat} (h : DiskR w d { st with files := bootSome st kept k } F fm pv pb R) (hwf : st.WF)
    (hk : k < st.sorted.length) {f : FileS} {p : Nat} (hp : (f, p) ∈ R) (hn : f.name = st.sorted[k]) {L : Nat} (hL : leftOver kept k f = L) {B : Option Addr} {cb : Nat} (hB : Bytes w tByte (.slice B f.bytes.length cb) f.bytes) (hLl : L ≤ f.bytes.length) (hfl : f.bytes.length ≤ 1073741824)
    (kk : Keep (· = p) w w') (hc : Cells w' p tFile #[.slice B L L, .int .i64 (L : Nat)]) (hno : ∀ c fz, w.heap[p]? ≠ some (.cells c tByte fz)) :
    ∃ R', DiskR w' d { st with files := bootSome st kept (k + 1) } F fm pv pb R' := by
  have hidx : leftOver kept (st.sorted.idxOf f.name) f = L := by rw [hn, idx_at (sorted_nodup hwf) hk, hL]
  have hpart : Bytes w tByte (.slice B L cb) (f.bytes.take L) := by
    have := hB.part (i := 0) (j := L) (by omega) hLl B (fun _ => by cases B <;> rfl)
    simpa using this
  refine ⟨_, h.turn hp (bootFile kept st.sorted) (fun _ => rfl) kk ⟨.slice B L L, ?_, ?_⟩ (st' := { st with files := bootSome st kept (k + 1) }) ?_ rfl rfl rfl rfl (bootSome_wf hwf kept (k + 1))⟩
  · show Cells w' p tFile #[.slice B L L, .int .i64 (leftOver kept (st.sorted.idxOf f.name) f : Nat)]
    rw [hidx]; exact hc
  · show Bytes w' tByte (.slice B L L) (f.bytes.take (leftOver kept (st.sorted.idxOf f.name) f))
    rw [hidx]
    exact (hpart.recap (by rw [List.length_take]; omega) (by unfold maxLen; omega)).keep kk (fun b hb => by subst hb; exact hno)
  · rw [hn]; exact bootSome_succ hwf kept k hk

theorem slice_three (w : World) (B : Option Addr) (n c L : Nat) (h : L ≤ c) :
    (Instr.slice 31 (.slice B n c) none (some (.int .i64 (L : Nat))) (some (.int .i64 (L : Nat)))).run Tryz.prog w = .ok (.slice B L L) w := by
  have z5 : (Go.sizeOf 5).run Tryz.prog w = .ok 1 w := by
    obtain ⟨i, hi, _, hs, _⟩ := info_parts iByte
    simp [Go.sizeOf, typeInfo, hi, hs]
  rw [run_slice_hm (P := Tryz.prog) w 31 B n c uBytesE .i64 .i64 (L : Nat) (L : Nat) (by omega) (by omega) (by omega), eBytes, z5]
  simp only [Result.andThen_ok, sliced]
  have e1 : ((L : Nat) : Int).toNat = L := by omega
  rw [e1]
  have e2 : (if L = 0 then B else B.map (·.add (0 * 1))) = B := by
    split
    · rfl
    · cases B <;> rfl
  rw [e2]
  simp

/-- The plan is gone, the disk is up. -/
theorem DiskR.unplan {w : World} {d : Nat} {st : DiskS} {F : List Nat} {fm : Nat} {pv : Value} {pb : List Nat} {R : List (FileS × Nat)} (h : DiskR w d st F fm pv pb R) :
    DiskAt ((w.setCell ⟨d, 2, none⟩ (.map none)).setCell ⟨d, 4, none⟩ (.bool false)) d { st with plan := [], down := false } (d :: fm :: ([] ++ R.map (·.2))) := by
  have k : Keep (· = d) w ((w.setCell ⟨d, 2, none⟩ (.map none)).setCell ⟨d, 4, none⟩ (.bool false)) := ((Keep.refl (· = d) w).setCell _ _ (fun _ => rfl)).setCell _ _ (fun _ => rfl)
  obtain ⟨h1, h2, h3, h4, h5, h6, h7, h8, h9⟩ := h
  have hno : NoBytes w tByte (· = d) := fun b hb => by subst hb; exact h3.noBytes (by decide)
  have hnd := h7
  rw [h1] at hnd
  have hsub : (d :: fm :: ([] ++ R.map (·.2))).Sublist (d :: fm :: (pb ++ R.map (·.2))) := ((List.sublist_append_right pb _).cons_cons fm).cons_cons d
  have hnd0 := hnd.sublist hsub
  simp only [List.nodup_cons, List.mem_cons, List.mem_append, not_or] at hnd
  refine ⟨fm, .map none, [], R, rfl, h2, (h3.set 2 _).set 4 _, .inl ⟨rfl, rfl, rfl⟩, h5.keep k (fun e => hnd.1.1 e.symm), fun r hr => (h6 r hr).keep k (fun e => hnd.1.2.2 (e ▸ List.mem_map.2 ⟨r, hr, rfl⟩)) hno, hnd0, fun b hb => h8 b (by rw [h1]; exact hsub.subset hb), ⟨h9.room, h9.used, h9.many, h9.safe, h9.names, h9.short⟩⟩

theorem leftOver_some {kept : List Int} {i : Nat} (hi : i < kept.length) (f : FileS) : leftOver kept i f = (min (max (f.safe : Int) kept[i]) (f.bytes.length : Int)).toNat := by
  unfold leftOver; rw [List.getElem?_eq_getElem hi]
theorem leftOver_none {kept : List Int} {i : Nat} (hi : ¬ i < kept.length) (f : FileS) : leftOver kept i f = f.safe := by
  unfold leftOver; rw [List.getElem?_eq_none (by omega)]

set_option maxRecDepth 100000 in
set_option maxHeartbeats 1000000 in
theorem boot_go (w : World) (d : Nat) (st : DiskS) (F : List Nat) (v : Value) (kept : List Int) (h : DiskAt w d st F) (hk : IntsAt w v kept) (hkF : ∀ A c, v = .slice (some A) kept.length c → A.block ∉ F) :
    Calls Tryz.prog 15 #[ptr d, v] w fun e w' => e = .returned (.tuple #[]) ∧ ∃ F', DiskAt w' d (st.boot kept) F' ∧ Keep (· ∈ F) w w' ∧ ∀ k ∈ F', k ∈ F := by
  have hwf := h.wf
  have h' := Lib.hid h
  have hn := Lib.hid (names_go w d st F h)
  obtain ⟨A, c, rfl, hkl, hkc⟩ := hk
  have Hkc := Lib.hid hkc; clear hkc
  clear h
  go_enter Tryz.func15, Tryz.ntmps15
  go_wp2_with fail
  refine hn.out.mono ?_
  rintro e w1 ⟨vn, rfl, hv, hk1⟩
  have hR1 := h'.out.keep hk1 (fun _ _ f => f) (NoBytes.no _ _)
  obtain ⟨fm, pv, pb, R, hR⟩ := hR1
  have HR := Lib.hid hR; clear hR
  have Hk1 := Lib.hid hk1; clear hk1
  have hsl : st.sorted.length ≤ 16 := by rw [(sorted_perm' st).length_eq]; unfold DiskS.names; rw [List.length_map]; exact hwf.many
  have Hwf := Lib.hid hwf; clear hwf
  obtain ⟨hvl, hvn⟩ := hv
  obtain ⟨An, cn, hvf, hvc⟩ : ∃ An cn, vn = .slice An st.sorted.length cn ∧ ∀ i (hi : i < st.sorted.length), ∃ g, An = some ⟨g, 0, none⟩ ∧ w.heap.size ≤ g ∧ g < w1.heap.size ∧ w1.cell? ⟨g, i, none⟩ = some (sv st.sorted[i]) := by
    rcases hvn with ⟨rfl, h0⟩ | ⟨g, cap, cur, rfl, hb, hg, h1, h2, h3, h4⟩
    · exact ⟨none, 0, by rw [h0], fun i hi => by omega⟩
    · refine ⟨_, cap, rfl, fun i hi => ⟨g, rfl, hb, lt_of_heap hg, ?_⟩⟩
      have : (st.sorted.map sv)[i]? = some (sv st.sorted[i]) := by rw [List.getElem?_map, List.getElem?_eq_getElem hi]; rfl
      rw [← h4, List.getElem?_take, if_pos (by omega)] at this
      simp only [World.cell?, hg, Option.isSome_none, Bool.false_eq_true, if_false]
      simpa using this
  subst hvf
  have Hvc := Lib.hid hvc
  clear hvc hvn hvl
  go_wp2_with fail
  go_loopw [12] (fun i wr => ∃ k R, k ≤ st.sorted.length ∧ i = .int .i64 k ∧ DiskR wr d { st with files := bootSome st kept k } F fm pv pb R ∧ Keep (· ∈ F) w1 wr) (fun i _ => st.sorted.length - (intOf i).toNat)
  case atStart => exact ⟨0, R, by omega, rfl, by rw [bootSome_zero]; exact HR.out, Keep.refl _ _⟩
  case round =>
    obtain ⟨k, Rk, hk, rfl, hRk, hkw⟩ := hrel
    have HRk := Lib.hid hRk
    have Hkw := Lib.hid hkw
    obtain ⟨hFk, hRf, hcd, -, hm, -⟩ := hRk
    have c1 := hcd.cell 1
    have c2 := hcd.cell 2
    have c4 := hcd.cell 4
    have f2 := hcd.free 2
    have f4 := hcd.free 4
    simp only [List.getElem?_toArray, List.getElem?_cons_succ, List.getElem?_cons_zero] at c1 c2 c4
    have Hm := Lib.hid hm
    have HRf := Lib.hid hRf
    have HFk := Lib.hid hFk
    have Hcd := Lib.hid hcd
    clear hFk hRf hcd hm hkw
    by_cases hlt : k < st.sorted.length
    · obtain ⟨g, rfl, hg1, hg2, hgc⟩ := Hvc.out k hlt
      have hcell : wr.cell? ⟨g, k, none⟩ = some (sv st.sorted[k]) := by
        rw [Hkw.out.cell (a := ⟨g, k, none⟩) hg2 (fun m => absurd (h'.out.lt m) (by simp; omega))]; exact hgc
      clear hgc
      obtain ⟨f, hf⟩ := boot_find st kept k hlt
      obtain ⟨p, hp, hn, e1⟩ := look_some HRf.out hf
      have hlk := Hm.out.look keyS uFiles uStr zPFile st.sorted[k]
      rw [e1] at hlk
      obtain ⟨⟨vb, hc, hb⟩, hfm, hpF⟩ := HRk.out.file hp
      obtain ⟨B, cb, rfl⟩ := hb.form
      have hcb : f.bytes.length ≤ cb := by obtain ⟨A', c', e, hle, _⟩ := hb; injection e with _ _ e; omega
      have hlen := HRk.out.at_.wf.len hfm
      have hsafe := HRk.out.at_.wf.safe f hfm
      have c0p := hc.cell 0
      have f0p := hc.free 0
      have c1p := hc.cell 1
      have f1p := hc.free 1
      simp only [List.getElem?_toArray, List.getElem?_cons_succ, List.getElem?_cons_zero] at c0p c1p
      have Hc := Lib.hid hc
      have Hb := Lib.hid hb
      have Hp := Lib.hid hp
      have HpF := Lib.hid hpF
      have Hn := Lib.hid hn
      have Hf := Lib.hid hf
      clear hc hb hfm hpF hn e1 hp hf
      by_cases hki : k < kept.length
      · have g1 : decide ((k : Int) < (kept.length : Int)) = true := by simp; omega
        obtain ⟨gk, ok, rfl, hgk, hkc⟩ := Hkc.out k hki
        have hkcell : wr.cell? ⟨gk, ok + k, none⟩ = some (.int .i64 kept[k]) := by
          rw [Hkw.out.cell (a := ⟨gk, ok + k, none⟩) (Nat.lt_of_lt_of_le hgk Hk1.out.size) (hkF ⟨gk, ok, none⟩ c rfl), Hk1.out.cell (a := ⟨gk, ok + k, none⟩) hgk (fun f => f)]
          exact hkc
        clear hkc
        go_upto_region 6 with fail
        go_still_tail 17, (by kernel_rfl)
        have hL : (min (max (f.safe : Int) kept[k]) (f.bytes.length : Int)) = ((leftOver kept k f : Nat) : Int) := by rw [leftOver_some hki]; omega
        have hLl : leftOver kept k f ≤ f.bytes.length := by rw [leftOver_some hki]; omega
        have HL := Lib.hid hL; clear hL
        go_upto_region 7 with fail
        rw [HL.out]
        obtain ⟨L, hLe⟩ : ∃ L, leftOver kept k f = L := ⟨_, rfl⟩
        rw [hLe] at hLl ⊢
        have HLe := Lib.hid hLe; clear hLe
        have hLc : (L : Int) ≤ (cb : Int) := by omega
        have hLc' : L ≤ cb := by omega
        have hsl : ∀ w, (Instr.slice 31 (.slice B f.bytes.length cb) none (some (.int .i64 (L : Nat))) (some (.int .i64 (L : Nat)))).run Tryz.prog w = .ok (.slice B L L) w := fun w => slice_three w B f.bytes.length cb L hLc'
        obtain ⟨W, hW⟩ : ∃ W, (wr.setCell ⟨p, 1, none⟩ (.int .i64 (L : Nat))).drew = W := ⟨_, rfl⟩
        rw [hW]
        have kW : Keep (· = p) wr W := by rw [← hW]; exact ((Keep.refl (· = p) wr).setCell ⟨p, 1, none⟩ _ (fun _ => rfl)).drew
        have hcW : Cells W p tFile #[.slice B f.bytes.length cb, .int .i64 (L : Nat)] := by rw [← hW]; exact Hc.out.set 1 _
        have HW := Lib.hid kW; clear hW kW
        have w0p := hcW.cell 0
        have w1p := hcW.cell 1
        have wf0 := hcW.free 0
        simp only [List.getElem?_toArray, List.getElem?_cons_succ, List.getElem?_cons_zero] at w0p w1p
        have HcW := Lib.hid hcW; clear hcW
        go_still_tail 15, (by kernel_rfl)
        go_wp2_with fail
        have kk : Keep (· = p) wr (W.setCell ⟨p, 0, none⟩ (.slice B L L)).drew := (HW.out.setCell ⟨p, 0, none⟩ _ (fun _ => rfl)).drew
        obtain ⟨R', hR'⟩ := HRk.out.booted Hwf.out hlt Hp.out Hn.out HLe.out Hb.out hLl hlen kk (HcW.out.set 0 _) (Hc.out.noBytes (by decide))
        have HR' := Lib.hid hR'; clear hR'
        have HK' := Lib.hid (Hkw.out.trans kk (fun b hb _ => (show b = p from hb) ▸ HpF.out)); clear kk
        go_roundw
        case rel => exact ⟨k + 1, R', by omega, by go_num, HR'.out, HK'.out⟩
        case measure => simp [intOf]; omega
      · have g1 : decide ((k : Int) < (kept.length : Int)) = false := by simp; omega
        have hLe := leftOver_none hki f
        obtain ⟨L, hL⟩ : ∃ L, f.safe = L := ⟨_, rfl⟩
        rw [hL] at hLe hsafe c1p
        have HLe := Lib.hid hLe; clear hLe
        have HL := Lib.hid hL; clear hL
        have hLc : (L : Int) ≤ (cb : Int) := by omega
        have hLc' : L ≤ cb := by omega
        have hsl : ∀ w, (Instr.slice 31 (.slice B f.bytes.length cb) none (some (.int .i64 (L : Nat))) (some (.int .i64 (L : Nat)))).run Tryz.prog w = .ok (.slice B L L) w := fun w => slice_three w B f.bytes.length cb L hLc'
        go_upto_region 7 with fail
        go_still_tail 15, (by kernel_rfl)
        go_wp2_with fail
        have kk : Keep (· = p) wr (wr.setCell ⟨p, 0, none⟩ (.slice B L L)).drew := ((Keep.refl (· = p) wr).setCell ⟨p, 0, none⟩ _ (fun _ => rfl)).drew
        have hc2 : Cells (wr.setCell ⟨p, 0, none⟩ (.slice B L L)).drew p tFile #[.slice B L L, .int .i64 (L : Nat)] := by
          have := Hc.out.set 0 (.slice B L L)
          rw [HL.out] at this
          exact this
        obtain ⟨R', hR'⟩ := HRk.out.booted Hwf.out hlt Hp.out Hn.out HLe.out Hb.out hsafe hlen kk hc2 (Hc.out.noBytes (by decide))
        have HR' := Lib.hid hR'; clear hR' hc2
        have HK' := Lib.hid (Hkw.out.trans kk (fun b hb _ => (show b = p from hb) ▸ HpF.out)); clear kk
        go_roundw
        case rel => exact ⟨k + 1, R', by omega, by go_num, HR'.out, HK'.out⟩
        case measure => simp [intOf]; omega
    · have hkn : k = st.sorted.length := by omega
      subst hkn
      go_wp2_with fail
      go_end0
      refine ⟨rfl, _, ((by have := HRk.out.unplan; rw [bootSome_all] at this; exact this) : DiskAt _ d (st.boot kept) _), ?_, ?_⟩
      · exact (((Hk1.out.mono (T := (· ∈ F)) (fun _ f _ => f.elim)).trans Hkw.out (fun _ h _ => h)).setCell ⟨d, 2, none⟩ _ (fun _ => h'.out.mem)).setCell ⟨d, 4, none⟩ _ (fun _ => h'.out.mem)
      · intro b hb
        rw [HFk.out]
        simp only [List.nil_append, List.mem_cons, List.mem_append] at hb ⊢
        rcases hb with rfl | rfl | hb
        · exact .inl rfl
        · exact .inr (.inl rfl)
        · exact .inr (.inr (.inr hb))
end Go.Proofs.YtbmejbmkaoekgaaGreatDoor
