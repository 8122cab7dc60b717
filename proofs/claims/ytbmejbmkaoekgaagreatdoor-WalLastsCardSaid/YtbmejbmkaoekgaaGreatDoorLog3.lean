/- Sync of a log. -/
import Derived.Test.YtbmejbmkaoekgaaGreatDoorLog2
namespace Go.Proofs.YtbmejbmkaoekgaaGreatDoor
open Go Go.RowKit
set_option linter.unusedVariables false
set_option linter.unusedSimpArgs false

theorem LogPost.same {w w' : World} {lb d : Nat} {F G : List Nat} {L : LogS} {st : DiskS} {v : Value} (hd : DiskAt w d st F) (h : LogAt w lb d L G) (k : Keep No w w') : LogPost w lb d F G L st v (.returned v) w' :=
  ⟨rfl, F, G, hd.keep k (fun _ _ f => f) (NoBytes.no _ _), h.keep k (fun _ _ f => f) (NoBytes.no _ _), k.mono (fun _ f _ => f.elim), fun _ hb => .inl hb, fun _ hb => .inl hb⟩

theorem sync_nil (w : World) : Calls Tryz.prog 10 #[.pointer none] w fun e w' => e = .returned (.int .i64 2) ∧ w' = w := by
  go_enter Tryz.func10, Tryz.ntmps10
  go_wp2_with fail
  go_ret
  exact ⟨rfl, rfl⟩

theorem sync_none (w : World) (lb d : Nat) (st : DiskS) (L : LogS) (F G : List Nat) (hd : DiskAt w d st F) (h : LogAt w lb d L G) (h0 : L.parts = []) :
    Calls Tryz.prog 10 #[ptr lb] w (LogPost w lb d F G L st (.int .i64 0)) := by
  have hl := Lib.hid (last_none w lb d L G h h0)
  have Hd := Lib.hid hd
  have Hl := Lib.hid h
  clear hd h
  go_enter Tryz.func10, Tryz.ntmps10
  go_wp2_with fail
  refine hl.out.mono ?_
  rintro e w1 ⟨rfl, rfl⟩
  go_wp2_with fail
  go_ret
  exact LogPost.same Hd.out Hl.out (Keep.refl No _)

set_option maxHeartbeats 1000000 in
theorem sync_clean (w : World) (lb d : Nat) (st : DiskS) (L : LogS) (F G : List Nat) (hd : DiskAt w d st F) (h : LogAt w lb d L G) (p : PartS) (hp : L.parts.getLast? = some p) (hdy : L.dirty = false) :
    Calls Tryz.prog 10 #[ptr lb] w (LogPost w lb d F G L st (.int .i64 0)) := by
  have Hd := Lib.hid hd
  have Hl := Lib.hid h
  obtain ⟨pv, rv, vs, h, -⟩ := h
  obtain ⟨g, c, n, hn, hpv, hc, hm, cur, hcur, hc0, hc1, hc2⟩ := h.lastPart hp
  have hl := Lib.hid (last_some w lb d L pv rv vs g c n h hn hpv hc hm)
  have c6 := h.1.cell 6
  rw [hdy] at c6
  simp only [List.getElem?_toArray, List.getElem?_cons_succ, List.getElem?_cons_zero] at c6
  clear hd h hcur hc0 hc1 hc2 hpv hn hp hdy
  go_enter Tryz.func10, Tryz.ntmps10
  go_wp2_with fail
  refine hl.out.mono ?_
  rintro e w1 ⟨rfl, q, hq⟩
  have c6' : w1.cell? ⟨lb, 6, none⟩ = w.cell? ⟨lb, 6, none⟩ := by rw [hq]; rfl
  rw [c6] at c6'
  have Hk := Lib.hid (show Keep No w w1 by rw [hq]; exact (Keep.refl No w).drewN q)
  clear hq c6 hl
  go_wp2_with fail
  go_ret
  exact LogPost.same Hd.out Hl.out Hk.out

set_option maxRecDepth 100000 in
set_option maxHeartbeats 2000000 in
theorem sync_dirty (w : World) (lb d : Nat) (st : DiskS) (L : LogS) (F G : List Nat) (hd : DiskAt w d st F) (h : LogAt w lb d L G) (ok : L.Ok) (htab : Tab w) (hst : st.steps < 4611686018427387904) (p : PartS) (hp : L.parts.getLast? = some p) (hdy : L.dirty = true) :
    Calls Tryz.prog 10 #[ptr lb] w (LogPost w lb d F G (L.sync st).1 (L.sync st).2.1 (.int .i64 (L.sync st).2.2)) := by
  have e1 : L.sync st = ({ L with dirty := (st.sync (fileName L.name p.frm)).2 != 0 }, (st.sync (fileName L.name p.frm)).1, (st.sync (fileName L.name p.frm)).2) := by unfold LogS.sync; rw [hp]; simp only; rw [if_pos hdy]
  have E1 := Lib.hid e1; clear e1
  have Hd := Lib.hid hd
  obtain ⟨pv, rv, vs, h, hG⟩ := h
  obtain ⟨g, c, n, hn, hpv, hc, hm, cur, hcur, hc0, hc1, hc2⟩ := h.lastPart hp
  have hl := Lib.hid (last_some w lb d L pv rv vs g c n h hn hpv hc hm)
  have c6 := h.1.cell 6
  have c0 := h.1.cell 0
  have c1 := h.1.cell 1
  have cp : w.cell? ⟨g, n * 3, none⟩ = some (.int .i64 (p.frm : Nat)) := by simp [World.cell?, hcur, hc0]
  rw [hdy] at c6
  simp only [List.getElem?_toArray, List.getElem?_cons_succ, List.getElem?_cons_zero] at c6 c0 c1
  have hpm : p ∈ L.parts := List.mem_of_getLast? hp
  have hfrm := (ok.frm p hpm).1
  obtain ⟨hf1, hf2, hf3⟩ := file_plain ok.name hfrm
  have Hf := Lib.hid (And.intro hf1 (And.intro hf2 hf3))
  have hnm := ok.name.most
  have Hr := Lib.hid h
  have hglt : g < w.heap.size := lt_of_heap hcur
  have hlblt : lb < w.heap.size := h.1.lt
  have hat := Lib.hid (show LogAt w lb d L G from ⟨pv, rv, vs, h, hG⟩)
  have hgG : g ∈ G := by rw [hG, hpv]; simp [Value.ownBlock]
  have hlbG : lb ∈ G := by rw [hG]; simp
  have hgF : g ∉ F := hat.out.apart hd g hgG
  have hlbF : lb ∉ F := hat.out.apart hd lb hlbG
  have HG := Lib.hid hG
  have Htab := Lib.hid htab
  clear hd h hcur hc0 hc1 hc2 hpv hn hp hdy ok hpm hf1 hf2 hf3 hG hgG hlbG htab
  go_enter Tryz.func10, Tryz.ntmps10
  go_wp2_with fail
  refine hl.out.mono ?_
  rintro e w1 ⟨rfl, q, hq⟩
  have c6' : w1.cell? ⟨lb, 6, none⟩ = w.cell? ⟨lb, 6, none⟩ := by rw [hq]; rfl
  have c0' : w1.cell? ⟨lb, 0, none⟩ = w.cell? ⟨lb, 0, none⟩ := by rw [hq]; rfl
  have c1' : w1.cell? ⟨lb, 1, none⟩ = w.cell? ⟨lb, 1, none⟩ := by rw [hq]; rfl
  have cp' : w1.cell? ⟨g, n * 3, none⟩ = w.cell? ⟨g, n * 3, none⟩ := by rw [hq]; rfl
  rw [c6] at c6'; rw [c0] at c0'; rw [c1] at c1'; rw [cp] at cp'
  have Hk := Lib.hid (show Keep No w w1 by rw [hq]; exact (Keep.refl No w).drewN q)
  have hglt1 : g < w1.heap.size := Nat.lt_of_lt_of_le hglt Hk.out.size
  have hlblt1 : lb < w1.heap.size := Nat.lt_of_lt_of_le hlblt Hk.out.size
  clear hq c6 c0 c1 cp hl
  generalize hnn : n * 3 = n3 at *
  go_wp2_with fail
  go_region_held3 (fun W => W.cell? ⟨lb, 0, none⟩ = some (ptr d) ∧ W.cell? ⟨lb, 1, none⟩ = some (sv L.name) ∧ W.cell? ⟨g, n3, none⟩ = some (.int .i64 (p.frm : Nat))) (first | exact ⟨by assumption, by assumption, by assumption⟩ | go_keep)
    (first
      | (go_at_call 21; refine (file_ok L.name p.frm hfrm hnm _ ?_).mono ?_; exact Htab.out.keep (Hk.out.drew) (fun _ f => f.elim); rintro e w2 ⟨rfl, hk2⟩
         have k0 : w2.cell? ⟨lb, 0, none⟩ = some (ptr d) := (hk2.undrew.cell (a := ⟨lb, 0, none⟩) hlblt1 (fun f => f)).trans c0'
         have k1 : w2.cell? ⟨lb, 1, none⟩ = some (sv L.name) := (hk2.undrew.cell (a := ⟨lb, 1, none⟩) hlblt1 (fun f => f)).trans c1'
         have kp : w2.cell? ⟨g, n3, none⟩ = some (.int .i64 (p.frm : Nat)) := (hk2.undrew.cell (a := ⟨g, n3, none⟩) hglt1 (fun f => f)).trans cp'
         have Hk2 := Lib.hid (Hk.out.trans hk2.undrew (fun _ f => f.elim)); clear hk2)
      | (go_at_call 31; refine (dsync_go _ d st F (fileName L.name p.frm) ?_ Hf.out.1 Hf.out.2.1 Hf.out.2.2 hst).mono ?_; exact Hd.out.keep Hk2.out (fun _ _ f => f) (NoBytes.no _ _); rintro e w3 ⟨rfl, F', hD3, hk3, hF3⟩
         have j0 : w3.cell? ⟨lb, 0, none⟩ = some (ptr d) := (hk3.cell (a := ⟨lb, 0, none⟩) (Nat.lt_of_lt_of_le hlblt Hk2.out.size) hlbF).trans k0
         have j1 : w3.cell? ⟨lb, 1, none⟩ = some (sv L.name) := (hk3.cell (a := ⟨lb, 1, none⟩) (Nat.lt_of_lt_of_le hlblt Hk2.out.size) hlbF).trans k1
         have jp : w3.cell? ⟨g, n3, none⟩ = some (.int .i64 (p.frm : Nat)) := (hk3.cell (a := ⟨g, n3, none⟩) (Nat.lt_of_lt_of_le hglt Hk2.out.size) hgF).trans kp
         have Hk3 := Lib.hid ((Hk2.out.mono (T := (· ∈ F)) (fun _ f _ => f.elim)).trans hk3 (fun _ h _ => h)); clear hk3
         have HD3 := Lib.hid hD3
         have HF3 := Lib.hid hF3
         clear hD3 hF3))
  generalize hec : (st.sync (fileName L.name p.frm)).2 = ec at *
  rename_i hHeld
  have hR3 : LogR w3 lb d L pv rv vs := by
    have a := hat.out.apart Hd.out
    rw [HG.out] at a
    exact Hr.out.keep Hk3.out hlbF (fun b e => a b (by simp [e])) (fun b e => a b (by simp [e])) Hd.out.noBytes
  have c6 := hR3.1.cell 6
  have f6 := hR3.1.free 6
  simp only [List.getElem?_toArray, List.getElem?_cons_succ, List.getElem?_cons_zero] at c6
  have HR3 := Lib.hid hR3
  clear hec hHeld j0 j1 jp k0 k1 kp c6' c0' c1' cp' hR3
  go_wp2_with fail
  go_ret
  obtain ⟨a1, a2, a3⟩ := HR3.out.apart
  have hl3 : LogAt w3 lb d L G := ⟨pv, rv, vs, HR3.out, HG.out⟩
  have kk : Keep (· = lb) w3 (w3.setCell ⟨lb, 6, none⟩ (.bool (ec != 0))) := (Keep.refl (· = lb) w3).setCell _ _ (fun _ => rfl)
  have kk' : Keep (· ∈ G) w3 (w3.setCell ⟨lb, 6, none⟩ (.bool (ec != 0))) := kk.mono (fun b e _ => by subst e; rw [HG.out]; simp)
  refine ⟨by rw [E1.out]; rfl, F', G, by rw [E1.out]; exact HD3.out.log hl3 kk', by rw [E1.out]; exact ⟨pv, rv, vs, HR3.out.dirty _ a1 a2, HG.out⟩, ?_, ?_, fun b hb => .inl hb⟩
  · exact (Hk3.out.mono (fun b hb _ => Or.inl hb)).trans kk' (fun b hb _ => .inr hb)
  · intro b hb
    rcases HF3.out b hb with h | h
    · exact .inl h
    · exact .inr (Nat.le_trans Hk2.out.size h)

theorem sync_go (w : World) (lb d : Nat) (st : DiskS) (L : LogS) (F G : List Nat) (hd : DiskAt w d st F) (h : LogAt w lb d L G) (ok : L.Ok) (htab : Tab w) (hst : st.steps < 4611686018427387904) :
    Calls Tryz.prog 10 #[ptr lb] w (LogPost w lb d F G (L.sync st).1 (L.sync st).2.1 (.int .i64 (L.sync st).2.2)) := by
  cases hp : L.parts.getLast? with
  | none =>
    have e1 : L.sync st = (L, st, 0) := by unfold LogS.sync; rw [hp]
    rw [e1]
    exact sync_none w lb d st L F G hd h (by simpa using hp)
  | some p =>
    by_cases hdy : L.dirty = true
    · exact sync_dirty w lb d st L F G hd h ok htab hst p hp hdy
    · have e1 : L.sync st = (L, st, 0) := by unfold LogS.sync; rw [hp]; simp only; rw [if_neg hdy]
      rw [e1]
      exact sync_clean w lb d st L F G hd h p hp (by simpa using hdy)
end Go.Proofs.YtbmejbmkaoekgaaGreatDoor
