/- alive: what the statements begin with. -/
import Derived.Test.YtbmejbmkaoekgaaGreatDoorNew
import Derived.Lib.SlBytesConst
namespace Go.Proofs.YtbmejbmkaoekgaaGreatDoor
open Go Go.RowKit
set_option linter.unusedVariables false
set_option linter.unusedSimpArgs false

def logN : List UInt8 := [108, 111, 103]
theorem logN_ok : LogName logN := ⟨by decide, by decide, by decide⟩

section
variable (nm : List UInt8) (most : Int)
def aL1 : LogS := { name := nm, most := most, parts := [⟨0, 1, 13⟩], recs := [[97]], first := 0, dirty := true }
def aL2 : LogS := { name := nm, most := most, parts := [⟨0, 1, 13⟩], recs := [[97]], first := 0, dirty := false }
def aL3 : LogS := { name := nm, most := most, parts := [⟨0, 2, 26⟩], recs := [[97], [98]], first := 0, dirty := true }
def aS1 : DiskS := { room := 1000, files := [⟨fileName nm 0, frameB [97], 0⟩], plan := [], steps := 1, down := false }
def aS2 : DiskS := { room := 1000, files := [⟨fileName nm 0, frameB [97], 13⟩], plan := [], steps := 2, down := false }
def aS3 : DiskS := { room := 1000, files := [⟨fileName nm 0, frameB [97] ++ frameB [98], 13⟩], plan := [], steps := 3, down := false }
def aS4 : DiskS := { room := 1000, files := [⟨fileName nm 0, frameB [97], 13⟩], plan := [], steps := 3, down := false }
def aS5 : DiskS := { room := 1000, files := [⟨fileName nm 0, frameB [97], 13⟩], plan := [], steps := 4, down := false }

theorem alive1 : (fresh nm most 0).append (disk0 1000) [97] = (aL1 nm most, aS1 nm, 0) := by
  have h : (disk0 1000).append (fileName nm 0) (frameB [97]) = (aS1 nm, 0) := by
    unfold DiskS.append
    rw [step_free rfl rfl]
    simp [disk0, DiskS.find, DiskS.used, usedBy, frame_len, aS1]
  rw [lappend_none (by rfl)]
  unfold LogS.addNew
  have hf : (fresh nm most 0).fin = 0 := rfl
  have hn : (fresh nm most 0).name = nm := rfl
  rw [hf, hn, h]
  simp [aL1, fresh]
theorem alive2 : (aL1 nm most).sync (aS1 nm) = (aL2 nm most, aS2 nm, 0) := by
  have h : (aS1 nm).sync (fileName nm 0) = (aS2 nm, 0) := by
    unfold DiskS.sync
    rw [step_free rfl rfl]
    simp [aS1, DiskS.find, turnAt, frame_len, aS2]
  have hl : (aL1 nm most).parts.getLast? = some ⟨0, 1, 13⟩ := rfl
  have hn : (aL1 nm most).name = nm := rfl
  unfold LogS.sync
  rw [hl]
  simp only [hn, h]
  simp [aL1, aL2]
theorem alive3 (hm : 13 < most) : (aL2 nm most).append (aS2 nm) [98] = (aL3 nm most, aS3 nm, 0) := by
  have h : (aS2 nm).append (fileName nm 0) (frameB [98]) = (aS3 nm, 0) := by
    unfold DiskS.append
    rw [step_free rfl rfl]
    simp [aS2, DiskS.find, DiskS.used, usedBy, turnAt, frame_len, aS3]
  have hn : (aL2 nm most).name = nm := rfl
  rw [lappend_fits (p := ⟨0, 1, 13⟩) rfl (by show ((13 : Nat) : Int) < most; omega)]
  unfold LogS.addTo
  simp only [hn, h]
  simp [aL2, aL3]
theorem alive4 : (aS3 nm).boot [] = aS4 nm := by
  have h : (frameB [97] ++ frameB [98]).take 13 = frameB [97] := by
    have : (frameB [97]).length = 13 := by rw [frame_len]; rfl
    rw [← this]; simp
  simp [DiskS.boot, aS3, aS4, bootFile, leftOver, h]
theorem alive5 : openS nm most (aS4 nm) [0] = (aL2 nm most, aS5 nm, 0) := by
  have hw := loads_w [[[97]]] [⟨fileName nm 0, frameB [97], 13⟩] (fresh nm most 0) (aS4 nm) rfl rfl ⟨rfl, by simp [framesB], by simp [frame_len], trivial⟩ (by simp [DiskS.find, aS4]) (by simp) []
  have e : numsOf (fresh nm most 0).fin [[[97]]] ++ [] = [0] := rfl
  rw [e] at hw
  unfold openS
  have e2 : ([0] : List Nat).head?.getD 0 = 0 := rfl
  rw [e2, hw]
  simp [LogS.loads, fresh, aS4, partsOf, framesLen, aL2, aS5, LogS.fin]
end

/-- A log on a disk, all made since w0. -/
structure Here (w0 w : World) (d lb : Nat) (L : LogS) (st : DiskS) (F G : List Nat) : Prop where
  disk : DiskAt w d st F
  log : LogAt w lb d L G
  keep : Keep No w0 w
  ff : ∀ b ∈ F, w0.heap.size ≤ b
  gg : ∀ b ∈ G, w0.heap.size ≤ b

section
variable {w0 w w' : World} {d lb : Nat} {L L' : LogS} {st st' : DiskS} {F G : List Nat} {e : Ending} {v : Value}
theorem Here.step (h : Here w0 w d lb L st F G) (hp : LogPost w lb d F G L' st' v e w') : e = .returned v ∧ ∃ F' G', Here w0 w' d lb L' st' F' G' := by
  obtain ⟨he, F', G', h1, h2, h3, h4, h5⟩ := hp
  have hs := h.keep.size
  refine ⟨he, F', G', h1, h2, h.keep.trans h3 (fun b hb hl => ?_), fun b hb => ?_, fun b hb => ?_⟩
  · rcases hb with hb | hb
    · have := h.ff b hb; omega
    · have := h.gg b hb; omega
  · rcases h4 b hb with q | q
    · exact h.ff b q
    · omega
  · rcases h5 b hb with q | q
    · exact h.gg b q
    · omega
theorem Here.on (h : Here w0 w d lb L st F G) (k : Keep No w w') : Here w0 w' d lb L st F G :=
  ⟨h.disk.keep k (fun _ _ f => f) (NoBytes.no _ _), h.log.keep k (fun _ _ f => f) (NoBytes.no _ _), h.keep.trans k (fun _ f _ => f.elim), h.ff, h.gg⟩
theorem Here.tab (h : Here w0 w d lb L st F G) (ht : Tab w0) : Tab w := ht.keep h.keep (fun _ f => f.elim)
theorem Here.src {bs : List UInt8} {u : Value} (h : Here w0 w d lb L st F G) (hb : Bytes w tByte u bs) : Src w w.heap.size (fun k => k ∈ F ∨ k ∈ G) u bs :=
  Src.of hb (fun b q cs fz => by
    rcases q with q | q
    · exact h.disk.noBytes b q cs fz
    · exact h.log.noBytes b q cs fz)
theorem Here.srcOld {bs : List UInt8} {u : Value} {t8 : TypeId} (h : Here w0 w d lb L st F G) (hb : Bytes w t8 u bs) (ho : 0 < bs.length → ∀ a n c, u = .slice (some a) n c → a.block < w0.heap.size) : Src w w.heap.size (fun k => k ∈ F ∨ k ∈ G) u bs :=
  Src.old hb ho (fun b q => q.elim (h.ff b) (h.gg b))
/-- The disk alone. -/
theorem open_here {d : Nat} {r : LogS × DiskS × Int} (hp : OpenPost w d F r e w') (k : Keep No w0 w) (ff : ∀ b ∈ F, w0.heap.size ≤ b) (h0 : r.2.2 = 0) : ∃ lb F' G', e = .returned (.tuple #[ptr lb, .int .i64 0]) ∧ Here w0 w' d lb r.1 r.2.1 F' G' := by
  obtain ⟨F', h1, h2, h3, h4⟩ := hp
  rcases h4 with ⟨_, lb, G', he, hl, hg⟩ | ⟨q, _⟩
  · have hs := k.size
    refine ⟨lb, F', G', he, h1, hl, k.trans h2 (fun b hb hl => by have := ff b hb; omega), fun b hb => ?_, fun b hb => ?_⟩
    · rcases h3 b hb with q | q
      · exact ff b q
      · omega
    · have := hg b hb; omega
  · exact absurd h0 q
end

theorem fileName_log : fileName logN 0 = [108, 111, 103, 46, 48] := by
  have : Lib.decDigits 0 = [48] := by unfold Lib.decDigits; rfl
  unfold fileName logN; rw [this]; rfl

theorem Bytes.lit2 (w : World) (t8 : TypeId) (cs : Array Value) (fz : Nat × Nat) (bs : List UInt8) (h : cs.toList = bs.map bv) (hl : bs.length ≤ maxLen) (n : Nat) (hn : n = bs.length) :
    Bytes (w.alloc (.cells cs t8 fz)) t8 (.slice (some ⟨w.heap.size, 0, none⟩) n n) bs := by
  subst hn
  refine ⟨_, _, rfl, Nat.le_refl _, hl, fun h0 => ⟨_, _, _, fz, rfl, heap_alloc_new w _, fun i b hb => ?_⟩⟩
  have : cs.toList[i]? = some (bv b) := by rw [h, List.getElem?_map, hb]; rfl
  simpa using this

set_option maxRecDepth 100000 in
set_option maxHeartbeats 2000000 in
theorem alive_go (w : World) (htab : Tab w) : Calls Tryz.prog 6 #[] w fun e w' => e = .returned (.bool true) ∧ Keep No w w' := by
  have Htab := Lib.hid htab
  have ngw := htab.size
  have kc := fun (w : World) (C : Array Value) (n c : Nat) => Lib.run_convert_bytes_const (P := Tryz.prog) w 31 5 C n c uBytes uByte
  clear htab
  go_enter Tryz.func6, Tryz.ntmps6
  go_wp2_with fail
  refine (new_ok 1000 w (by omega) ngw).mono ?_
  rintro e w1 ⟨d, F0, rfl, hd0, k0, ff0⟩
  have Hd0 := Lib.hid hd0
  have K0 := Lib.hid k0
  have FF0 := Lib.hid ff0
  clear hd0 k0 ff0
  go_wp2_with fail
  refine (open_go w1 d (disk0 1000) F0 logN 100 [] Hd0.out rfl logN_ok (by omega) (by simp [DiskS.sorted, DiskS.names, disk0]) (by simp) (by simp) (Htab.out.keep K0.out (fun _ f => f.elim)) (by show (0 : Nat) < _; omega)).mono ?_
  rintro e w2 hp
  obtain ⟨lb, F, G, rfl, hh⟩ := open_here hp K0.out FF0.out (by rw [List.mergeSort_nil]; rfl)
  have Hh := Lib.hid (show Here w w2 d lb (fresh logN 100 0) (disk0 1000) F G by rw [List.mergeSort_nil] at hh; exact hh)
  clear hp hh
  go_wp2_with fail
  -- Append a
  obtain ⟨w3, hw3⟩ : ∃ w3, w2.alloc (.cells #[.int .u8 97] tByte (1, 2)) = w3 := ⟨_, rfl⟩
  obtain ⟨b3, hb3⟩ : ∃ b3, w2.heap.size = b3 := ⟨_, rfl⟩
  rw [hw3, hb3]
  have hB3 : Bytes w3 tByte (.slice (some ⟨b3, 0, none⟩) 1 1) [97] := by rw [← hw3, ← hb3]; exact Bytes.lit2 w2 tByte #[.int .u8 97] (1, 2) [97] rfl (by decide) 1 rfl
  have H3 := Lib.hid (Hh.out.on (w' := w3) (by rw [← hw3]; exact (Keep.refl No w2).alloc _))
  have HB3 := Lib.hid hB3
  clear hw3 hb3 hB3
  refine (append_go w3 lb d (disk0 1000) (fresh logN 100 0) F G (.slice (some ⟨b3, 0, none⟩) 1 1) [97] H3.out.disk H3.out.log ⟨logN_ok, by simp [fresh], by decide, by decide⟩ ⟨by decide, by simp [fresh]⟩ (H3.out.tab Htab.out) (by decide) (H3.out.src HB3.out) (by decide)).mono ?_
  rintro e w4 hp
  have hs := H3.out.step hp
  rw [alive1] at hs
  obtain ⟨rfl, F4, G4, h4⟩ := hs
  have H4 := Lib.hid (show Here w w4 d lb (aL1 logN 100) (aS1 logN) F4 G4 from h4)
  clear hp h4
  dsimp only
  go_wp2_with fail
  -- Sync
  refine (sync_go w4 lb d (aS1 logN) (aL1 logN 100) F4 G4 H4.out.disk H4.out.log ⟨logN_ok, by simp [aL1], by decide, by decide⟩ (H4.out.tab Htab.out) (by decide)).mono ?_
  rintro e w5 hp
  have hs := H4.out.step hp
  rw [alive2] at hs
  obtain ⟨rfl, F5, G5, h5⟩ := hs
  have H5 := Lib.hid (show Here w w5 d lb (aL2 logN 100) (aS2 logN) F5 G5 from h5)
  clear hp h5
  dsimp only
  go_wp2_with fail
  -- Append b
  obtain ⟨w6, hw6⟩ : ∃ w6, w5.alloc (.cells #[.int .u8 98] tByte (1, 2)) = w6 := ⟨_, rfl⟩
  obtain ⟨b6, hb6⟩ : ∃ b6, w5.heap.size = b6 := ⟨_, rfl⟩
  rw [hw6, hb6]
  have hB6 : Bytes w6 tByte (.slice (some ⟨b6, 0, none⟩) 1 1) [98] := by rw [← hw6, ← hb6]; exact Bytes.lit2 w5 tByte #[.int .u8 98] (1, 2) [98] rfl (by decide) 1 rfl
  have H6 := Lib.hid (H5.out.on (w' := w6) (by rw [← hw6]; exact (Keep.refl No w5).alloc _))
  have HB6 := Lib.hid hB6
  clear hw6 hb6 hB6
  refine (append_go w6 lb d (aS2 logN) (aL2 logN 100) F5 G5 (.slice (some ⟨b6, 0, none⟩) 1 1) [98] H6.out.disk H6.out.log ⟨logN_ok, by simp [aL2], by decide, by decide⟩ ⟨by decide, by simp [aL2, LogS.fin]⟩ (H6.out.tab Htab.out) (by decide) (H6.out.src HB6.out) (by decide)).mono ?_
  rintro e w7 hp
  have hs := H6.out.step hp
  rw [alive3 _ _ (by decide)] at hs
  obtain ⟨rfl, F7, G7, h7⟩ := hs
  have H7 := Lib.hid (show Here w w7 d lb (aL3 logN 100) (aS3 logN) F7 G7 from h7)
  clear hp h7
  dsimp only
  go_wp2_with fail
  -- Boot
  refine (boot_go w7 d (aS3 logN) F7 (.slice none 0 0) [] H7.out.disk ⟨none, 0, rfl, by simp, by simp⟩ (by simp)).mono ?_
  rintro e w8 ⟨rfl, F8, hd8, k8, ff8⟩
  rw [alive4] at hd8
  have K8 := Lib.hid (show Keep No w w8 from H7.out.keep.trans k8 (fun b hb hl => by have := H7.out.ff b hb; omega))
  have FF8 := Lib.hid (show ∀ b ∈ F8, w.heap.size ≤ b from fun b hb => H7.out.ff b (ff8 b hb))
  have Hd8 := Lib.hid hd8
  clear hd8 k8 ff8
  go_wp2_with fail
  -- Open
  refine (open_go w8 d (aS4 logN) F8 logN 100 [0] Hd8.out rfl logN_ok (by omega) (by simp [DiskS.sorted, DiskS.names, aS4]) (by simp) (by simp) (Htab.out.keep K8.out (fun _ f => f.elim)) (by decide)).mono ?_
  rintro e w9 hp
  have hp2 : OpenPost w8 d F8 (aL2 logN 100, aS5 logN, 0) e w9 := by rw [← alive5]; rw [List.mergeSort_singleton] at hp; exact hp
  obtain ⟨lk, F9, G9, rfl, hh⟩ := open_here hp2 K8.out FF8.out rfl
  have H9 := Lib.hid (show Here w w9 d lk (aL2 logN 100) (aS5 logN) F9 G9 from hh)
  clear hp hp2 hh
  go_wp2_with fail
  -- Get
  refine (get_in w9 lk d (aL2 logN 100) G9 0 H9.out.log (by decide) (by decide) (by decide)).mono ?_
  rintro e w10 ⟨v, rfl, hv, k10⟩
  have H10 := Lib.hid (H9.out.on k10)
  have hstr := hv.str
  have hstr2 : (convert 31 9 v).run Tryz.prog w10 = .ok (.string ⟨#[97]⟩) w10 := hstr
  clear hv k10 hstr
  go_wp2_with fail
  -- End
  refine (end_go w10 lk d (aL2 logN 100) G9 H10.out.log (by decide)).mono ?_
  rintro e w11 ⟨rfl, q, rfl⟩
  have H11 := Lib.hid (H10.out.on ((Keep.refl No w10).drewN q))
  clear hstr2
  go_wp2_with fail
  -- File
  have hfl := file_ok logN 0 (by decide) (by decide) (w10.drewN q) (H11.out.tab Htab.out)
  rw [fileName_log] at hfl
  refine hfl.mono ?_
  rintro e w12 ⟨rfl, k12⟩
  have H12 := Lib.hid (H11.out.on k12)
  clear hfl k12
  go_wp2_with fail
  -- Sum
  have hsm := sum_any (.slice (some ⟨w12.heap.size, 0, none⟩) 1 1) [97] (w12.alloc (.cells #[.int .u8 97] tByte (1, 2))) (Bytes.lit2 w12 tByte #[.int .u8 97] (1, 2) [97] rfl (by decide) 1 rfl)
  rw [crc_example] at hsm
  refine hsm.mono ?_
  rintro e w13 ⟨rfl, rfl⟩
  clear hsm
  go_wp2_with fail
  go_ret
  exact ⟨rfl, H12.out.keep.alloc _⟩
end Go.Proofs.YtbmejbmkaoekgaaGreatDoor
