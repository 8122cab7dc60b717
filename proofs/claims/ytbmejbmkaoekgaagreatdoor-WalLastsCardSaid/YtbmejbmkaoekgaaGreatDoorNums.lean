/- numbers: of a log's files, rising. -/
import Derived.Test.YtbmejbmkaoekgaaGreatDoorLog7
import Derived.Lib.Atoi
import Derived.Deep.AppendLies
import Derived.OwnWalk
namespace Go.Proofs.YtbmejbmkaoekgaaGreatDoor
open Go Go.RowKit Go.Sort
set_option linter.unusedVariables false
set_option linter.unusedSimpArgs false

theorem decFrom_snoc (l : List UInt8) (b : UInt8) (d : Nat) (hb : Lib.digitVal b = some d) : ∀ acc, Lib.decFrom acc (l ++ [b]) = (Lib.decFrom acc l).map (· * 10 + d) := by
  induction l with
  | nil => intro acc; simp [Lib.decFrom, hb]
  | cons x l ih =>
    intro acc
    simp only [List.cons_append, Lib.decFrom]
    cases Lib.digitVal x with
    | none => rfl
    | some e => exact ih _
theorem digitVal_of (d : Nat) (h : d < 10) : Lib.digitVal (UInt8.ofNat (48 + d)) = some d := by
  unfold Lib.digitVal
  have e : (UInt8.ofNat (48 + d)).toNat = 48 + d := by simp only [UInt8.toNat_ofNat']; omega
  rw [e, if_pos (by omega)]
  congr 1; omega
theorem decFrom_digits (n : Nat) : Lib.decFrom 0 (Lib.decDigits n) = some n := by
  induction n using Nat.strongRecOn with
  | ind n ih =>
    unfold Lib.decDigits
    split
    · rename_i h
      simp only [Lib.decFrom, digitVal_of n h]; simp
    · rename_i h
      rw [decFrom_snoc _ _ _ (digitVal_of _ (by omega)), ih (n / 10) (by omega)]
      simp; omega
theorem digits_ne (n : Nat) : Lib.decDigits n ≠ [] := by
  unfold Lib.decDigits; split <;> simp
theorem digits_dig (n : Nat) : ∀ b ∈ Lib.decDigits n, 48 ≤ b.toNat ∧ b.toNat ≤ 57 := by
  induction n using Nat.strongRecOn with
  | ind n ih =>
    unfold Lib.decDigits
    split
    · rename_i h
      intro b hb; simp only [List.mem_singleton] at hb; subst hb
      simp only [UInt8.toNat_ofNat']; omega
    · rename_i h
      intro b hb
      rcases List.mem_append.1 hb with hb | hb
      · exact ih (n / 10) (by omega) b hb
      · simp only [List.mem_singleton] at hb; subst hb
        simp only [UInt8.toNat_ofNat']; omega
theorem atoi_digits (n : Nat) : Lib.atoi (Lib.decDigits n) = some (n : Int) := by
  have h1 := decFrom_digits n
  have h2 := digits_ne n
  have h3 := digits_dig n
  cases hd : Lib.decDigits n with
  | nil => exact absurd hd h2
  | cons b r =>
    rw [hd] at h1 h3
    have hb := h3 b (by simp)
    have e1 : (b == 45) = false := by
      apply Bool.eq_false_iff.2; intro e; rw [eq_of_beq e] at hb; revert hb; decide
    have e2 : (b == 43) = false := by
      apply Bool.eq_false_iff.2; intro e; rw [eq_of_beq e] at hb; revert hb; decide
    simp only [Lib.atoi, e1, e2, Bool.false_eq_true, if_false, Lib.decNat, List.isEmpty_cons, h1]
    rfl
theorem prefix_file (nm : List UInt8) (n : Nat) : Lib.hasPrefix (fileName nm n) (nm ++ [46]) = true := by
  unfold Lib.hasPrefix fileName
  rw [List.isPrefixOf_iff_prefix]
  exact ⟨Lib.decDigits n, by simp⟩
theorem trim_file (nm : List UInt8) (n : Nat) : Lib.trimPrefix (fileName nm n) (nm ++ [46]) = Lib.decDigits n := by
  unfold Lib.trimPrefix
  rw [if_pos (prefix_file nm n)]
  unfold fileName
  have : nm ++ 46 :: Lib.decDigits n = (nm ++ [46]) ++ Lib.decDigits n := by simp
  rw [this, List.drop_left]
theorem file_inj {nm : List UInt8} {n m : Nat} (h : fileName nm n = fileName nm m) : n = m := by
  unfold fileName at h
  have h1 := List.append_cancel_left h
  injection h1 with _ h1
  have a := decFrom_digits n
  rw [h1, decFrom_digits m] at a
  injection a with a
  exact a.symm

theorem cut_file (nm : List UInt8) (n : Nat) (w : World) :
    Calls Tryz.prog 40 #[sv (fileName nm n), .string (⟨nm.toArray⟩ ++ ⟨#[46]⟩)] w fun e w' => e = .returned (.tuple #[sv (Lib.decDigits n), .bool true]) ∧ w' = w := by
  refine (Tryz.strings_CutPrefix _ _ w).mono ?_
  rintro e w' ⟨rfl, rfl⟩
  have e1 : (⟨(fileName nm n).toArray⟩ : ByteArray).data.toList = fileName nm n := rfl
  have e2 : ((⟨nm.toArray⟩ : ByteArray) ++ ⟨#[46]⟩).data.toList = nm ++ [46] := by simp
  rw [e1, e2, prefix_file, trim_file]
  exact ⟨rfl, rfl⟩
theorem atoi_file (n : Nat) (hn : n < 1000000000) (w : World) :
    Calls Tryz.prog 41 #[sv (Lib.decDigits n)] w fun e w' => e = .returned (.tuple #[.int .i64 (n : Int), .nilIface]) ∧ Keep No w w' := by
  have hl := digits_len n 9 (by decide) (by omega)
  refine (Tryz.strconv_Atoi _ (n : Int) (by show (Lib.decDigits n).length ≤ 18; omega) (atoi_digits n) w).mono ?_
  rintro e w' ⟨rfl, t, rfl⟩
  exact ⟨rfl, Keep.of_below (Lib.bytesWorld_below w _ t)⟩

theorem sort_nat (ns : List Nat) : ((ns.map fun (n : Nat) => (n : Int)).mergeSort fun x y => decide (x ≤ y)) = (ns.mergeSort (· ≤ ·)).map fun (n : Nat) => (n : Int) := by
  rw [List.map_mergeSort]
  intro a _ b _
  simp
theorem sort_row (w : World) (base g cap : Nat) (ns : List Nat) (h : w.ownsRow base 3 1 (.slice (some ⟨g, 0, none⟩) ns.length cap) ns.length (ns.map fun (n : Nat) => Value.int .i64 (n : Int))) (hl : ns.length ≤ 16) :
    Calls Tryz.prog 42 #[.slice (some ⟨g, 0, none⟩) ns.length cap] w fun e w' => e = .returned (.tuple #[]) ∧ w'.ownsRow base 3 1 (.slice (some ⟨g, 0, none⟩) ns.length cap) ns.length ((ns.mergeSort (· ≤ ·)).map fun (n : Nat) => Value.int .i64 (n : Int)) ∧ Keep (· = g) w w' := by
  rcases h.2 with ⟨e, _⟩ | ⟨g', cap', cur, e, h1, h2, h3, h4, h5, h6⟩
  · cases e
  · injection e with e1 e2 e3
    injection e1 with e1; injection e1 with e1
    subst e1; subst e3
    have hglt := lt_of_heap h2
    have hcur : ∀ j (hj : j < ns.length), cur[j]? = some (.int .i64 (ns[j] : Int)) := by
      intro j hj
      have : (cur.toList.take (ns.length * 1))[j]? = some (.int .i64 (ns[j] : Int)) := by rw [h6]; simp [hj]
      rw [List.getElem?_take, if_pos (by omega)] at this
      simpa using this
    have hH : Holds (Value.int .i64) w g 0 (ns.map fun (n : Nat) => (n : Int)).toArray := by
      intro j hj
      have hj' : j < ns.length := by simpa using hj
      refine ⟨?_, by simp [World.frozen?, h2]⟩
      simp only [World.cell?, h2, Nat.zero_add, Option.isSome_none, Bool.false_eq_true, if_false]
      rw [hcur j hj', getElem!_pos _ j hj]
      simp
    have hs := Tryz.slices_Sort_int g 0 cap (ns.map fun (n : Nat) => (n : Int)) w hH hglt (by rw [List.length_map]; omega)
    rw [List.length_map, sort_nat] at hs
    refine hs.mono ?_
    rintro e w' ⟨rfl, q, os, rfl⟩
    have hgA : (Sort.ahead w q).heap[g]? = some (.cells cur 3 (0, 0)) := h2
    have hrow : (grow (putRow (Value.int .i64) (Sort.ahead w q) g 0 ((ns.mergeSort (· ≤ ·)).map fun (n : Nat) => (n : Int)).toArray) os).heap[g]? = some (.cells (putCells (Value.int .i64) 0 ((ns.mergeSort (· ≤ ·)).map fun (n : Nat) => (n : Int)).toArray cur) 3 (0, 0)) := by
      rw [heap_grow_old _ _ (by simpa [putRow, mapBlock] using hglt)]
      simp only [putRow, mapBlock, Array.getElem?_modify]
      rw [if_pos trivial, hgA]
      rfl
    refine ⟨rfl, ⟨by simp, .inr ⟨g, cap, _, rfl, h1, hrow, h3, h4, ?_, ?_⟩⟩, ?_⟩
    · simp [putCells, h5]
    · apply List.ext_getElem?
      intro i
      rw [List.getElem?_take]
      by_cases hi : i < ns.length
      · rw [if_pos (by omega)]
        have hi2 : i < cur.size := by omega
        simp [putCells, hi, hi2, List.length_mergeSort]
      · rw [if_neg (by omega), List.getElem?_eq_none (by simp; omega)]
    · refine ⟨rfl, rfl, rfl, by simp [grow, putRow, mapBlock, Sort.ahead], fun k hk hne => ?_⟩
      rw [heap_grow_old _ _ (by simpa [putRow, mapBlock] using hk)]
      simp only [putRow, mapBlock, Array.getElem?_modify]
      rw [if_neg (fun e => hne e.symm)]
      rfl

theorem uIntsS : Tryz.prog.underlying 40 = some (.slice tInt) := by kernel_rfl
theorem iInt : (Tryz.prog.info? tInt).map (fun i => (i.zero, i.size, i.bytes)) = some (some (.int .i64 0), 1, 8) := by kernel_rfl

/-- A row of numbers that is the caller's alone. -/
def NatRow (w : World) (base : Nat) (v : Value) (ns : List Nat) : Prop := w.ownsRow base tInt 1 v ns.length (ns.map fun (n : Nat) => Value.int .i64 (n : Int))

set_option maxRecDepth 100000 in
set_option maxHeartbeats 2000000 in
theorem numbers_go (w : World) (d : Nat) (st : DiskS) (F : List Nat) (nm : List UInt8) (ns : List Nat) (hd : DiskAt w d st F) (hup : st.down = false) (hnm : LogName nm) (hns : st.sorted = ns.map (fileName nm)) (hlt : ∀ n ∈ ns, n < 1000000000) (hl : ns.length ≤ 16) (htab : Tab w) :
    Calls Tryz.prog 25 #[ptr d, sv nm] w fun e w' => ∃ v, e = .returned v ∧ NatRow w' w.heap.size v (ns.mergeSort (· ≤ ·)) ∧ Keep No w w' := by
  have hls := Lib.hid (list_go w d st F hd)
  have hlist := Lib.hid (show st.list = ns.map (fileName nm) by unfold DiskS.list; rw [if_neg (by simp [hup])]; exact hns)
  have Htab := Lib.hid htab
  have hmost := hnm.most
  clear hd hup hnm hns htab
  go_enter Tryz.func25, Tryz.ntmps25
  go_wp2_with fail
  refine hls.out.mono ?_
  rintro e w1 ⟨lv, rfl, hrow, hk1⟩
  rw [hlist.out] at hrow
  unfold NList at hrow
  rw [List.length_map, List.map_map] at hrow
  have hform : ∃ A c, lv = .slice A ns.length c ∧ ns.length ≤ c ∧ c ≤ maxLen ∧ ∀ i (h : i < ns.length), ∃ g, A = some ⟨g, 0, none⟩ ∧ w.heap.size ≤ g ∧ g < w1.heap.size ∧ w1.cell? ⟨g, i, none⟩ = some (sv (fileName nm ns[i])) := by
    rcases hrow.2 with ⟨rfl, e⟩ | ⟨g, cap, cur, rfl, h1, h2, h3, h4, h5, h6⟩
    · exact ⟨none, 0, by rw [e], by omega, by decide, fun i h => by omega⟩
    · refine ⟨_, cap, rfl, h3, h4, fun i h => ⟨g, rfl, h1, lt_of_heap h2, ?_⟩⟩
      simp only [World.cell?, h2]
      have : (cur.toList.take (ns.length * 1))[i]? = some (sv (fileName nm ns[i])) := by rw [h6]; simp [h]
      rw [List.getElem?_take, if_pos (by omega)] at this
      simpa using this
  obtain ⟨A, c, rfl, hc, hm, hcell⟩ := hform
  have Hcell := Lib.hid hcell
  have Hk1 := Lib.hid hk1
  have Hlt := Lib.hid hlt
  clear hrow hcell hk1 hls hlist hlt
  go_wp2_with fail
  go_loopw [5, 15] (fun o i wr => ∃ k, k ≤ ns.length ∧ i = .int .i64 k ∧ NatRow wr w1.heap.size o (ns.take k) ∧ Keep No w1 wr) (fun o i _ => ns.length - (intOf i).toNat)
  case atStart => exact ⟨0, by omega, rfl, World.ownsRow_nil _ _ _ _, Keep.refl _ _⟩
  case round =>
    obtain ⟨k, hk, rfl, hrow, hkw⟩ := hrel
    have Hrow := Lib.hid hrow
    have Hkw := Lib.hid hkw
    clear hrow hkw
    by_cases hlt : k < ns.length
    · obtain ⟨g, rfl, hg1, hg2, hgc⟩ := Hcell.out k hlt
      have hcell : wr.cell? ⟨g, k, none⟩ = some (sv (fileName nm ns[k])) := (Hkw.out.cell (a := ⟨g, k, none⟩) hg2 (fun f => f)).trans hgc
      have hn9 := Hlt.out ns[k] (List.getElem_mem hlt)
      have htk := List.take_succ_eq_append_getElem hlt
      obtain ⟨n, hn⟩ : ∃ n, ns[k] = n := ⟨_, rfl⟩
      rw [hn] at hcell hn9 htk
      have Htk := Lib.hid htk
      clear hgc hn htk
      have hdl := digits_len n 9 (by decide) (by omega)
      have hdl2 : decide ((9 : Int) < ((Lib.decDigits n).length : Int)) = false := by simp; omega
      have hdl3 : decide (9 < (Lib.decDigits n).length) = false := by simp; omega
      have hsz : (ByteArray.mk (Lib.decDigits n).toArray).size = (Lib.decDigits n).length := by simp [ByteArray.size]
      have hlt' : decide ((k : Int) < (ns.length : Int)) = true := by simp; omega
      have hlt3 : decide (k < ns.length) = true := by simp; omega
      go_wp2_with fail
      refine (cut_file nm n _).mono ?_
      rintro e w2 ⟨rfl, hw2⟩
      subst hw2
      go_wp2_with fail
      refine (atoi_file n hn9 _).mono ?_
      rintro e w3 ⟨rfl, hk3⟩
      have Hk3 := Lib.hid (Hkw.out.trans hk3 (fun _ f => f.elim))
      have Hrow3 := Lib.hid (show NatRow w3 w1.heap.size u5 (ns.take k) from row_keep Hrow.out hk3 (fun _ _ f => f))
      clear hk3 hcell
      go_wp2_with fail
      refine (file_ok nm n hn9 hmost _ (Htab.out.keep (Hk1.out.trans Hk3.out (fun _ f => f.elim)) (fun _ f => f.elim))).mono ?_
      rintro e w4 ⟨rfl, hk4⟩
      have Hk4 := Lib.hid (Hk3.out.trans hk4 (fun _ f => f.elim))
      have hrow4 := row_keep Hrow3.out hk4 (fun _ _ f => f)
      obtain ⟨i0, hi0, hz0, hz1, hz2⟩ := info_parts iInt
      have hsw : w1.heap.size ≤ w4.heap.size := Hk4.out.size
      have htl : (ns.take k).length = k := by rw [List.length_take]; omega
      rw [htl] at hrow4
      have Htl := Lib.hid htl
      clear hk4 htl
      go_upto_region 9 with fail
      go_wp2_with (at_builtin; refine wpList_append_lies _ rfl _ _ _ rfl w1.heap.size tInt i0 _ 1 8 uIntsS hi0 hz0 hz1 hz2 rfl (by omega) u5 k _ rfl (row_keep hrow4 ((Keep.refl No w4).alloc _) (fun _ _ f => f)) ⟨w4.heap.size, 0, none⟩ 1 1 [.int .i64 (n : Nat)] rfl rfl (World.news_of_block (cs := #[.int .i64 (n : Nat)]) (t := tInt) (fr := (0, 0)) (heap_alloc_new w4 _)) (by simp [Value.oneCell']) (by omega) (by unfold maxLen; omega) (by omega) (by simp; omega) (w4.heap.size + 1) (by simp) ?_; intro gg cap w5 hown5 hgrow hat5 hlt5)
      refine ⟨⟨k + 1, by omega, by go_num, ?_, ?_⟩, by simp [intOf]; omega⟩
      · rw [Htk.out]
        unfold NatRow
        rw [List.length_append, Htl.out, List.map_append]
        exact hown5
      · have hb5 : ∀ b, u5.ownBlock = some b → w1.heap.size ≤ b := fun b hb => (row_kind Hrow.out hb).1
        exact (Hk4.out.alloc _).trans (Keep.of_grown hgrow) (fun b hb hl => by have := hb5 b hb.symm; omega)
    · have hkn : k = ns.length := by omega
      subst hkn
      rw [List.take_length] at Hrow
      have hr := Hrow.out
      unfold NatRow at hr
      rcases hr.2 with ⟨rfl, e0⟩ | ⟨g, cap, cur, rfl, h1, h2, h3, h4, h5, h6⟩
      · have hnil : ns = [] := List.eq_nil_of_length_eq_zero e0
        subst hnil
        clear hr
        have hlt' : decide ((([] : List Nat).length : Int) < (([] : List Nat).length : Int)) = false := by simp
        go_wp2_with fail
        refine (Tryz.slices_Sort_int_none none 0 _).mono ?_
        rintro e w5 ⟨rfl, hw5⟩
        subst hw5
        go_wp2_with fail
        go_ret
        have em : ([] : List Nat).mergeSort (· ≤ ·) = [] := by simp
        exact ⟨_, rfl, by rw [em]; exact World.ownsRow_nil _ _ _ _, Hk1.out.trans Hkw.out (fun _ f => f.elim)⟩
      · have hlt' : decide ((ns.length : Int) < (ns.length : Int)) = false := by simp
        have Hr := Lib.hid hr
        clear hr h2 h5 h6
        go_wp2_with fail
        refine (sort_row _ w1.heap.size g cap ns Hr.out hl).mono ?_
        rintro e w5 ⟨rfl, hr5, hk5⟩
        have Hr5 := Lib.hid hr5
        have Hk5 := Lib.hid hk5
        clear hr5 hk5
        go_wp2_with fail
        go_ret
        refine ⟨_, rfl, ?_, (Hk1.out.trans Hkw.out (fun _ f => f.elim)).trans Hk5.out (fun b e hb => by have := Hk1.out.size; subst e; omega)⟩
        have h := ownsRow_base_a Hr5.out (base' := w.heap.size) Hk1.out.size
        unfold NatRow
        rw [List.length_mergeSort]
        exact h
end Go.Proofs.YtbmejbmkaoekgaaGreatDoor
