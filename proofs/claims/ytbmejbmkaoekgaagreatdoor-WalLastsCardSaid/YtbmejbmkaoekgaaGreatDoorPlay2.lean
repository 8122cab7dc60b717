/- What Open finds behind a boot, and where one byte is another one, in plain Lean. -/
import Derived.Test.YtbmejbmkaoekgaaGreatDoorPlay
namespace Go.Proofs.YtbmejbmkaoekgaaGreatDoor
open Go Go.RowKit
set_option linter.unusedVariables false
set_option linter.unusedSimpArgs false

def numsOf (f : Nat) (ss : List (List (List UInt8))) : List Nat := (partsOf f ss).map (·.frm)

theorem numsOf_cons (f : Nat) (s : List (List UInt8)) (ss : List (List (List UInt8))) : numsOf f (s :: ss) = f :: numsOf (f + s.length) ss := rfl
theorem numsOf_snoc (f : Nat) (ss : List (List (List UInt8))) (s : List (List UInt8)) : numsOf f (ss ++ [s]) = numsOf f ss ++ [f + ss.flatten.length] := by
  unfold numsOf; rw [partsOf_snoc]; simp [-List.length_flatten]
theorem numsOf_append (t : List (List (List UInt8))) : ∀ (f : Nat) (ss : List (List (List UInt8))), numsOf f (ss ++ t) = numsOf f ss ++ numsOf (f + ss.flatten.length) t
  | f, [] => by simp [numsOf, partsOf]
  | f, s :: ss => by
    show numsOf f (s :: (ss ++ t)) = _
    rw [numsOf_cons, numsOf_cons, numsOf_append t]
    simp [-List.length_flatten, Nat.add_assoc]
theorem numsOf_ge : ∀ (f : Nat) (ss : List (List (List UInt8))), ∀ n ∈ numsOf f ss, f ≤ n ∧ n ≤ f + ss.flatten.length
  | f, [], n, h => by cases h
  | f, s :: ss, n, h => by
    rw [numsOf_cons] at h
    rcases List.mem_cons.1 h with rfl | h
    · exact ⟨Nat.le_refl _, by omega⟩
    · have := numsOf_ge _ ss n h
      simp [-List.length_flatten] at this ⊢; omega
theorem numsOf_rising : ∀ (f : Nat) (ss : List (List (List UInt8))), (numsOf f ss).Pairwise (· ≤ ·)
  | f, [] => List.Pairwise.nil
  | f, s :: ss => by
    rw [numsOf_cons]
    exact List.Pairwise.cons (fun n h => by have := (numsOf_ge _ ss n h).1; omega) (numsOf_rising _ ss)
theorem filesW_names {nm : List UInt8} : ∀ {f : Nat} {ss : List (List (List UInt8))} {gs : List FileS}, FilesW nm f ss gs → gs.map (·.name) = (numsOf f ss).map (fileName nm)
  | f, [], [], h => rfl
  | f, t :: ss, [], h => h.elim
  | f, [], g :: gs, h => h.elim
  | f, t :: ss, x :: gs, ⟨a, b, c, h⟩ => by
    rw [numsOf_cons, List.map_cons, List.map_cons, a, filesW_names h]

/-- The numbers of a disk's files. -/
theorem nums_of {st : DiskS} {nm : List UInt8} {l : List Nat} (h : st.names = l.map (fileName nm)) (hr : l.Pairwise (· ≤ ·)) :
    ∃ ns : List Nat, st.sorted = ns.map (fileName nm) ∧ ns.mergeSort (· ≤ ·) = l ∧ ns.length = l.length ∧ ∀ n ∈ ns, n ∈ l := by
  have hp : st.sorted.Perm (l.map (fileName nm)) := by rw [← h]; exact sorted_perm' st
  obtain ⟨dec, hdec⟩ : ∃ dec : List UInt8 → Nat, ∀ n ∈ l, dec (fileName nm n) = n := ⟨fun x => (l.find? (fun n => decide (fileName nm n = x))).getD 0, fun n hn => by
    cases hf : l.find? (fun m => decide (fileName nm m = fileName nm n)) with
    | none => exact absurd (List.find?_eq_none.1 hf n hn) (by simp)
    | some m => (have hm : fileName nm m = fileName nm n := by simpa using List.find?_some hf
                 simpa [hf] using file_inj hm)⟩
  have hp2 : (st.sorted.map dec).Perm l := by
    have := hp.map dec
    rw [List.map_map] at this
    have e : l.map (dec ∘ fileName nm) = l := by
      rw [List.map_congr_left (f := dec ∘ fileName nm) (g := id) (fun n hn => hdec n hn), List.map_id]
    rwa [e] at this
  refine ⟨st.sorted.map dec, ?_, ?_, ?_, fun n hn => hp2.mem_iff.1 hn⟩
  · rw [List.map_map, List.map_congr_left (g := id), List.map_id]
    intro x hx
    obtain ⟨n, hn, rfl⟩ := List.mem_map.1 (hp.mem_iff.1 hx)
    simp only [Function.comp_apply, id]
    rw [hdec n hn]
  · refine List.Perm.eq_of_pairwise (le := (· ≤ ·)) (fun a b _ _ h1 h2 => by omega) ?_ hr ((List.mergeSort_perm _ _).trans hp2)
    have := List.pairwise_mergeSort (le := fun (a b : Nat) => decide (a ≤ b)) (fun a b c h1 h2 => by simp at *; omega) (fun a b => by simp; omega) (st.sorted.map dec)
    exact this.imp (fun h => by simpa using h)
  · exact hp2.length_eq

section
variable {st : DiskS} {L : LogS}
theorem step_free (hd : st.down = false) (hp : st.plan = []) : st.step = ({ st with steps := st.steps + 1 }, 0) := by
  refine step_fine hd ?_ ?_ ?_ <;> simp [hp, kindAt]
theorem read_free (hd : st.down = false) (hp : st.plan = []) {n : List UInt8} {f : FileS} (hf : st.find n = some f) : st.read n = ({ st with steps := st.steps + 1 }, f.bytes, 0) := by
  unfold DiskS.read
  rw [step_free hd hp, hf]; rfl

theorem load_file (hd : st.down = false) (hp : st.plan = []) {f : FileS} (hf : st.find (fileName L.name L.fin) = some f) {s : List (List UInt8)} (hb : f.bytes = framesB s) (hs : ∀ r ∈ s, r.length ≤ 65536) (last : Bool) :
    L.load st L.fin last = ({ L with parts := L.parts ++ [⟨L.fin, s.length, framesLen s⟩], recs := L.recs ++ s }, { st with steps := st.steps + 1 }, 0) := by
  have hr := read_free hd hp hf
  unfold LogS.load
  rw [hr, hb, scanB_all hs]
  simp only
  rw [if_neg (by simp), if_neg (by simp), if_neg (by simp), framesB_len, if_neg (by omega)]

theorem load_rot (hd : st.down = false) (hp : st.plan = []) {f : FileS} (hf : st.find (fileName L.name L.fin) = some f) (hb : (scanB f.bytes).2.2 = 34) (last : Bool) :
    (L.load st L.fin last).2.2 = 34 := by
  have hr := read_free hd hp hf
  unfold LogS.load
  rw [hr]
  simp only
  rw [if_neg (by simp), if_neg (by simp), if_pos (.inl hb)]

theorem loads_w : ∀ (ss : List (List (List UInt8))) (gs : List FileS) (L : LogS) (st : DiskS), st.down = false → st.plan = [] → FilesW L.name L.fin ss gs → (∀ g ∈ gs, st.find g.name = some g) → (∀ r ∈ ss.flatten, r.length ≤ 65536) → ∀ rest : List Nat,
    L.loads st (numsOf L.fin ss ++ rest) = LogS.loads { L with parts := L.parts ++ partsOf L.fin ss, recs := L.recs ++ ss.flatten } { st with steps := st.steps + ss.length } rest
  | [], [], L, st, _, _, _, _, _, rest => by simp [numsOf, partsOf]
  | t :: ss, [], L, st, _, _, h, _, _, _ => h.elim
  | [], g :: gs, L, st, _, _, h, _, _, _ => h.elim
  | s :: ss, x :: gs, L, st, hd, hp, ⟨a, b, c, h⟩, hf, hs, rest => by
    have hx : st.find (fileName L.name L.fin) = some x := by rw [← a]; exact hf x (by simp)
    rw [numsOf_cons, List.cons_append, LogS.loads, load_file hd hp hx b (fun r hr => hs r (by simp; exact .inl hr))]
    simp only
    rw [if_pos trivial]
    have e : L.fin + s.length = LogS.fin { L with parts := L.parts ++ [⟨L.fin, s.length, framesLen s⟩], recs := L.recs ++ s } := by simp [LogS.fin, Nat.add_assoc]
    have ih := loads_w ss gs { L with parts := L.parts ++ [⟨L.fin, s.length, framesLen s⟩], recs := L.recs ++ s } { st with steps := st.steps + 1 } hd hp (by rw [← e]; exact h) (fun g hg => hf g (by simp [hg])) (fun r hr => hs r (by simp at hr ⊢; exact .inr hr)) rest
    rw [← e] at ih
    rw [ih]
    simp [-List.length_flatten, partsOf, Nat.add_assoc, Nat.add_comm 1]
end

/-- Files found by their names. -/
theorem find_mem {st : DiskS} (hn : st.names.Nodup) {g : FileS} (hg : g ∈ st.files) : st.find g.name = some g := by
  unfold DiskS.find DiskS.names at *
  generalize st.files = l at *
  induction l with
  | nil => cases hg
  | cons x l ih =>
    simp only [List.map_cons, List.nodup_cons] at hn
    rcases List.mem_cons.1 hg with rfl | hg
    · simp
    · have hne : x.name ≠ g.name := fun e => hn.1 (e ▸ List.mem_map.2 ⟨g, hg, rfl⟩)
      rw [List.find?_cons_of_neg (by simpa using hne)]
      exact ih hn.2 hg

theorem framesLen_take_le (s : List (List UInt8)) (j : Nat) : framesLen (s.take j) ≤ framesLen s := by
  have h9 := framesLen_append (s.take j) (s.drop j)
  rw [List.take_append_drop] at h9; omega

/-- Open of a log whose last file is there in part: the whole records of it are there. -/
theorem open_part {nm : List UInt8} {most : Int} {st : DiskS} {f q : Nat} {ss : List (List (List UInt8))} {s : List (List UInt8)} {gs : List FileS} {y : FileS} (hd : st.down = false) (hp : st.plan = []) (hw : st.WF) (hfs : st.files = gs ++ [y])
    (hF : FilesW nm f ss gs) (hn : y.name = fileName nm (f + ss.flatten.length)) (hb : y.bytes = (framesB s).take q) (hq : q ≤ framesLen s) (hy : y.safe = y.bytes.length) (hs : ∀ r ∈ ss.flatten ++ s, r.length ≤ 65536) :
    ∃ L' st' j, openS nm most st (numsOf f (ss ++ [s])) = (L', st', 0) ∧ L'.recs = ss.flatten ++ s.take j ∧ L'.first = f ∧ L'.name = nm ∧ L'.most = most ∧ j ≤ s.length ∧ (∀ m, framesLen (s.take m) ≤ q → m ≤ s.length → m ≤ j) ∧
      Lies L' st' L'.recs.length ∧ L'.dirty = false ∧ st'.down = false ∧ st'.plan = [] ∧ st'.steps ≤ st.steps + ss.length + 2 := by
  have hss : ∀ r ∈ s, r.length ≤ 65536 := fun r hr => hs r (by simp [hr])
  have hsf : ∀ r ∈ ss.flatten, r.length ≤ 65536 := fun r hr => hs r (List.mem_append.2 (.inl hr))
  obtain ⟨j, e, h1, h2, h3, h4, h5, h6, h7⟩ := scanB_take s hss q hq
  have hh : (numsOf f (ss ++ [s])).head?.getD 0 = f := by
    cases ss with
    | nil => rfl
    | cons t ss => rfl
  have hfin : (fresh nm most f).fin = f := by simp [fresh, LogS.fin]
  unfold openS
  rw [hh, numsOf_snoc]
  have hl := loads_w ss gs (fresh nm most f) st hd hp (by rw [hfin]; exact hF) (fun g hg => find_mem hw.names (by rw [hfs]; simp [hg])) hsf [f + ss.flatten.length]
  rw [hfin] at hl
  rw [hl]
  obtain ⟨L1, hL1⟩ : ∃ L1 : LogS, { fresh nm most f with parts := (fresh nm most f).parts ++ partsOf f ss, recs := (fresh nm most f).recs ++ ss.flatten } = L1 := ⟨_, rfl⟩
  obtain ⟨s1, hs1⟩ : ∃ s1 : DiskS, { st with steps := st.steps + ss.length } = s1 := ⟨_, rfl⟩
  rw [hL1, hs1]
  have hf1 : L1.fin = f + ss.flatten.length := by rw [← hL1]; simp [-List.length_flatten, fresh, LogS.fin]
  have hn1 : L1.name = nm := by rw [← hL1]; rfl
  have hr1 : L1.recs = ss.flatten := by rw [← hL1]; simp [fresh]
  have hp1 : L1.parts = partsOf f ss := by rw [← hL1]; simp [fresh]
  have hff : L1.first = f ∧ L1.most = most ∧ L1.dirty = false := by rw [← hL1]; exact ⟨rfl, rfl, rfl⟩
  have hd1 : s1.down = false := by rw [← hs1]; exact hd
  have hpl1 : s1.plan = [] := by rw [← hs1]; exact hp
  have hfs1 : s1.files = gs ++ [y] := by rw [← hs1]; exact hfs
  have hnd1 : s1.names.Nodup := by rw [← hs1]; exact hw.names
  have hst1 : s1.steps = st.steps + ss.length := by rw [← hs1]
  have hrd : s1.read y.name = ({ s1 with steps := s1.steps + 1 }, y.bytes, 0) := read_free hd1 hpl1 (find_last hfs1 hnd1)
  rw [← hf1]
  have hnm : fileName L1.name L1.fin = y.name := by rw [hn1, hf1, hn]
  have hlen : y.bytes.length = q := by rw [hb, List.length_take, framesB_len]; omega
  have hload : L1.load s1 L1.fin true = ({ L1 with parts := L1.parts ++ [⟨L1.fin, (s.take j).length, framesLen (s.take j)⟩], recs := L1.recs ++ s.take j },
      if framesLen (s.take j) < q then (s1.step.1.truncate y.name (framesLen (s.take j))) else ({ s1 with steps := s1.steps + 1 }, 0)) := by
    unfold LogS.load
    rw [hnm, hrd, hb, h2]
    simp only
    rw [if_neg (by simp), if_neg (by simp), if_neg (by rcases h3 with h | h <;> subst h <;> simp), ← hb, hlen, step_free hd1 hpl1]
  have hlies (z : FileS) (d' : DiskS) (hz : d'.files = gs ++ [z]) (hzn : z.name = y.name) (hzb : z.bytes = framesB (s.take j)) (hzs : z.safe = z.bytes.length) : Lies { L1 with parts := L1.parts ++ [⟨L1.fin, (s.take j).length, framesLen (s.take j)⟩], recs := L1.recs ++ s.take j } d' (L1.recs ++ s.take j).length := by
    refine ⟨fun r hr => ?_, Nat.le_refl _, .inr ⟨ss, s.take j, gs, z, ?_, ?_, hz, ?_, ?_, hzb, ?_, fun _ => hzs⟩⟩
    · simp only [hr1] at hr
      rcases List.mem_append.1 hr with hr | hr
      · exact hsf r hr
      · exact hss r (List.mem_of_mem_take hr)
    · simp only [hp1, hf1, hff.1]
    · simp only [hr1]
    · simp only [hn1, hff.1]; exact hF
    · rw [hzn, hn]; simp only [hn1, hff.1]
    · rw [hr1, List.length_append, Nat.add_sub_cancel_left, List.take_of_length_le (Nat.le_refl _), hzs, hzb, framesB_len]
      exact Nat.le_refl _
  have hone : L1.loads s1 [L1.fin] = if (L1.load s1 L1.fin true).2.2 = 0 then ((L1.load s1 L1.fin true).1, (L1.load s1 L1.fin true).2.1, 0) else L1.load s1 L1.fin true := rfl
  rw [hone, hload]
  by_cases hlt : framesLen (s.take j) < q
  · rw [if_pos hlt]
    have htr : s1.step.1.truncate y.name (framesLen (s.take j)) = ({ s1 with steps := s1.steps + 2, files := gs ++ [{ y with bytes := y.bytes.take (framesLen (s.take j)), safe := framesLen (s.take j) }] }, 0) := by
      have hs2 := step_free (st := s1.step.1) (by rw [step_free hd1 hpl1]; exact hd1) (by rw [step_free hd1 hpl1]; exact hpl1)
      unfold DiskS.truncate
      rw [hs2, step_free hd1 hpl1]
      have hfl := find_last (st := { s1 with steps := s1.steps + 1 }) (gs := gs) (x := y) hfs1 hnd1
      have htl := turn_last (st := { s1 with steps := s1.steps + 1 }) (gs := gs) (x := y) hfs1 hnd1 (fun f => { f with bytes := f.bytes.take (framesLen (s.take j)), safe := framesLen (s.take j) })
      simp only
      rw [if_neg (by simp), hfl]
      simp only
      rw [if_neg (by omega)]
      simp only at htl
      rw [htl]
    rw [htr]
    simp only
    rw [if_pos trivial]
    refine ⟨_, _, j, rfl, by rw [hr1], hff.1, hn1, hff.2.1, h1, h7, hlies _ _ rfl rfl ?_ ?_, hff.2.2, hd1, hpl1, ?_⟩
    · show y.bytes.take _ = _
      rw [hb, List.take_take]
      have em : min (framesLen (s.take j)) q = framesLen (s.take j) := by omega
      rw [em]
      have e1 : framesB s = framesB (s.take j) ++ framesB (s.drop j) := by rw [← framesB_append, List.take_append_drop]
      have e2 := framesB_len (s.take j)
      rw [e1, ← e2, List.take_left' rfl]
    · show framesLen (s.take j) = (y.bytes.take (framesLen (s.take j))).length
      rw [List.length_take, hlen]; omega
    · show s1.steps + 2 ≤ _
      omega
  · rw [if_neg hlt]
    simp only
    rw [if_pos trivial]
    refine ⟨_, _, j, rfl, by rw [hr1], hff.1, hn1, hff.2.1, h1, h7, hlies y _ hfs1 rfl ?_ hy, hff.2.2, hd1, hpl1, ?_⟩
    · have hqe : framesLen (s.take j) = q := by omega
      have e1 : framesB s = framesB (s.take j) ++ framesB (s.drop j) := by rw [← framesB_append, List.take_append_drop]
      rw [hb, e1, ← hqe, ← framesB_len, List.take_left' rfl]
    · show s1.steps + 1 ≤ _
      omega

/-- What a boot leaves of a file. -/
theorem left_bounds (kept : List Int) (i : Nat) {f : FileS} (h : f.safe ≤ f.bytes.length) : f.safe ≤ leftOver kept i f ∧ leftOver kept i f ≤ f.bytes.length := by
  unfold leftOver
  cases kept[i]? with
  | none => exact ⟨Nat.le_refl _, h⟩
  | some k => simp only; omega
theorem boot_whole (kept : List Int) (l : List (List UInt8)) {f : FileS} (h : f.safe = f.bytes.length) : bootFile kept l f = f := by
  have := left_bounds kept (l.idxOf f.name) (f := f) (by omega)
  unfold bootFile
  have e : leftOver kept (l.idxOf f.name) f = f.bytes.length := by omega
  rw [e, List.take_length, ← h]
theorem boot_w {nm : List UInt8} (kept : List Int) (l : List (List UInt8)) : ∀ {f : Nat} {ss : List (List (List UInt8))} {gs : List FileS}, FilesW nm f ss gs → gs.map (bootFile kept l) = gs
  | f, [], [], h => rfl
  | f, t :: ss, [], h => h.elim
  | f, [], g :: gs, h => h.elim
  | f, t :: ss, x :: gs, ⟨a, b, c, h⟩ => by rw [List.map_cons, boot_whole kept l c, boot_w kept l h]

theorem boot_wf {st : DiskS} (h : st.WF) (kept : List Int) : (st.boot kept).WF := by
  have hb := bootSome_wf h kept st.sorted.length
  rw [bootSome_all] at hb
  exact ⟨hb.room, hb.used, hb.many, hb.safe, hb.names, hb.short⟩

/-- The numbers of the files of a log that lies on a disk. -/
def fileNums (L : LogS) : List Nat := L.parts.map (·.frm)

/-- Behind a boot, Open has all records that were safe, and behind them the first ones of the others. -/
theorem open_boot {L : LogS} {st : DiskS} {k : Nat} (h : Lies L st k) (hw : st.WF) (kept : List Int) (most : Int) (h0 : L.parts = [] → L.first = 0) :
    (st.boot kept).names = (fileNums L).map (fileName L.name) ∧ (fileNums L).Pairwise (· ≤ ·) ∧
    ∃ L' st' n, openS L.name most (st.boot kept) (fileNums L) = (L', st', 0) ∧ L'.recs = L.recs.take n ∧ k ≤ n ∧ n ≤ L.recs.length ∧ L'.first = L.first ∧ L'.name = L.name ∧ L'.most = most ∧
      Lies L' st' n ∧ L'.dirty = false ∧ st'.down = false ∧ st'.plan = [] ∧ st'.steps ≤ st.steps + L.parts.length + 1 := by
  obtain ⟨h1, h2, h3⟩ := h
  rcases h3 with ⟨a, b, c⟩ | ⟨ss, s, gs, x, a, b, c, d, e, f, g, i⟩
  · have hfn : fileNums L = [] := by simp [fileNums, a]
    have hfs : (st.boot kept).files = [] := by simp [DiskS.boot, c]
    refine ⟨by rw [hfn]; simp [DiskS.names, hfs], by rw [hfn]; exact List.Pairwise.nil, fresh L.name most 0, st.boot kept, 0, by rw [hfn]; rfl, by simp [fresh], ?_, by simp, (h0 a).symm, rfl, rfl, ?_, rfl, rfl, rfl, by simp [DiskS.boot]; omega⟩
    · rw [b] at h2; simpa using h2
    · exact ⟨by simp [fresh], by simp [fresh], .inl ⟨rfl, rfl, hfs⟩⟩
  · have hfn : fileNums L = numsOf L.first (ss ++ [s]) := by rw [numsOf_snoc, fileNums, a]; simp [-List.length_flatten, numsOf]
    have hxs : x.safe ≤ x.bytes.length := hw.safe x (by rw [c]; simp)
    have hlb := left_bounds kept (st.sorted.idxOf x.name) hxs
    have hfs : (st.boot kept).files = gs ++ [bootFile kept st.sorted x] := by
      show st.files.map (bootFile kept st.sorted) = _
      rw [c, List.map_append, boot_w kept st.sorted d]; rfl
    have hbl : x.bytes.length = framesLen s := by rw [f, framesB_len]
    refine ⟨?_, by rw [hfn]; exact numsOf_rising _ _, ?_⟩
    · unfold DiskS.names
      rw [hfs, hfn, numsOf_snoc, List.map_append, filesW_names d, List.map_append]
      show _ ++ [x.name] = _
      rw [e]; rfl
    · obtain ⟨L', st', j, o1, o2, o3, o4, o5, o6, o7, o8, o9, o10, o11, o12⟩ := open_part (nm := L.name) (most := most) (st := st.boot kept) (f := L.first) (q := leftOver kept (st.sorted.idxOf x.name) x) (ss := ss) (s := s) (gs := gs) (y := bootFile kept st.sorted x) rfl rfl (boot_wf hw kept) hfs d e
        (by show x.bytes.take _ = _; rw [f]) (by omega) (by show leftOver kept (st.sorted.idxOf x.name) x = (x.bytes.take (leftOver kept (st.sorted.idxOf x.name) x)).length; rw [List.length_take]; omega) (by rw [← b]; exact h1)
      have hrec : L'.recs = L.recs.take (ss.flatten.length + j) := by
        rw [o2, b, List.take_append, List.take_of_length_le (l := ss.flatten) (by omega), Nat.add_sub_cancel_left]
      refine ⟨L', st', ss.flatten.length + j, by rw [hfn]; exact o1, hrec, ?_, by rw [b, List.length_append]; omega, o3, o4, o5, ?_, o9, o10, o11, ?_⟩
      · have hbr : L.recs.length = ss.flatten.length + s.length := by rw [b, List.length_append]
        have := o7 (k - ss.flatten.length) (by omega) (by omega)
        omega
      · have hl : L'.recs.length = ss.flatten.length + j := by rw [o2, List.length_append, List.length_take]; omega
        rw [← hl]; exact o8
      · rw [a, List.length_append, partsOf_len]
        show _ ≤ st.steps + _ + 1
        have : (st.boot kept).steps = st.steps := rfl
        simp only [List.length_singleton]
        omega

/-- Where one byte of a safe log is another one, Open says so. -/
theorem open_flip {L : LogS} {st : DiskS} (h : Lies L st L.recs.length) (hw : st.WF) (hd : st.down = false) (hp : st.plan = []) (hc : L.parts = [] ∨ L.dirty = false) (n : List UInt8) (at_ : Int) (x : UInt8) (hx : x ≠ 0) (hok : (st.spoil n at_ x).2 = 0) (most : Int) :
    (st.spoil n at_ x).1.names = (fileNums L).map (fileName L.name) ∧ (fileNums L).Pairwise (· ≤ ·) ∧ (openS L.name most (st.spoil n at_ x).1 (fileNums L)).2.2 = 34 := by
  obtain ⟨h1, h2, h3⟩ := h
  rcases h3 with ⟨a, b, c⟩ | ⟨ss, s, gs, y, a, b, c, d, e, f, g, i⟩
  · have : st.find n = none := by unfold DiskS.find; rw [c]; rfl
    unfold DiskS.spoil at hok
    rw [this] at hok; cases hok
  · have hcl : y.safe = y.bytes.length := by
      rcases hc with hc | hc
      · rw [a] at hc; simp at hc
      · exact i hc
    have hW : FilesW L.name L.first (ss ++ [s]) st.files := by rw [c]; exact filesW_snoc d e f hcl
    have hfn : fileNums L = numsOf L.first (ss ++ [s]) := by rw [numsOf_snoc, fileNums, a]; simp [-List.length_flatten, numsOf]
    have hsm : ∀ r ∈ (ss ++ [s]).flatten, r.length ≤ 65536 := by intro r hr; apply h1; rw [b]; simpa using hr
    rw [hfn]
    generalize ss ++ [s] = tt at hW hsm
    clear a b c d e f g i hcl hfn h2 h1 hc
    cases hfi : st.find n with
    | none => unfold DiskS.spoil at hok; rw [hfi] at hok; cases hok
    | some fl =>
      have hsp : (st.spoil n at_ x).1 = { st with files := turnAt st.files n (fun f => { f with bytes := flip f.bytes at_.toNat x }) } ∧ at_.toNat < fl.bytes.length := by
        unfold DiskS.spoil at hok ⊢
        rw [hfi] at hok ⊢
        simp only at hok ⊢
        split at hok
        · cases hok
        · rename_i q; rw [if_neg q]; exact ⟨rfl, by omega⟩
      rw [hsp.1]
      obtain ⟨hm, hfn⟩ := find_spec hfi
      have htn := turn_names st.files n (fun f => { f with bytes := flip f.bytes at_.toNat x }) (fun _ => rfl)
      refine ⟨?_, numsOf_rising _ _, ?_⟩
      · unfold DiskS.names; rw [htn]; exact filesW_names hW
      · -- up to the spoilt file all is as it was
        have key : ∀ (tt : List (List (List UInt8))) (fs : List FileS) (f : Nat), FilesW L.name f tt fs → fl ∈ fs → (fs.map (·.name)).Nodup → ∃ t1 s t2 g1 g2, tt = t1 ++ s :: t2 ∧ fs = g1 ++ fl :: g2 ∧ FilesW L.name f t1 g1 ∧ fl.name = fileName L.name (f + t1.flatten.length) ∧ fl.bytes = framesB s := by
          intro tt
          induction tt with
          | nil => intro fs f hW hm; cases fs with
            | nil => cases hm
            | cons => exact hW.elim
          | cons t tt ih =>
            intro fs f hW hm hn
            cases fs with
            | nil => cases hm
            | cons z fs =>
              obtain ⟨a, b, c, hW⟩ := hW
              rcases List.mem_cons.1 hm with e | hm
              · subst e
                exact ⟨[], t, tt, [], fs, rfl, rfl, trivial, by simpa using a, b⟩
              · simp only [List.map_cons, List.nodup_cons] at hn
                obtain ⟨t1, s, t2, g1, g2, e1, e2, e3, e4, e5⟩ := ih fs _ hW hm hn.2
                exact ⟨t :: t1, s, t2, z :: g1, g2, by rw [e1]; rfl, by rw [e2]; rfl, ⟨a, b, c, e3⟩, by rw [e4]; simp [-List.length_flatten, Nat.add_assoc], e5⟩
        obtain ⟨t1, s, t2, g1, g2, e1, e2, e3, e4, e5⟩ := key tt st.files L.first hW hm hw.names
        have hh : (numsOf L.first tt).head?.getD 0 = L.first := by
          rw [e1]; cases t1 with
          | nil => rfl
          | cons t ss => rfl
        have hfin : (fresh L.name most L.first).fin = L.first := by simp [fresh, LogS.fin]
        have hnd : (({ st with files := turnAt st.files n (fun f => { f with bytes := flip f.bytes at_.toNat x }) } : DiskS)).names.Nodup := by unfold DiskS.names; rw [htn]; exact hw.names
        have hg1 : ∀ g ∈ g1, g.name ≠ n := by
          intro g hg q
          have hnn := hw.names
          unfold DiskS.names at hnn
          rw [e2, List.map_append, List.nodup_append] at hnn
          exact hnn.2.2 g.name (List.mem_map.2 ⟨g, hg, rfl⟩) fl.name (by simp) (by rw [q, hfn])
        unfold openS
        rw [hh]
        have hnums : numsOf L.first tt = numsOf L.first t1 ++ ((L.first + t1.flatten.length) :: numsOf (L.first + t1.flatten.length + s.length) t2) := by
          rw [e1, numsOf_append, numsOf_cons]
        have hl := loads_w t1 g1 (fresh L.name most L.first) { st with files := turnAt st.files n (fun f => { f with bytes := flip f.bytes at_.toNat x }) } hd hp (by rw [hfin]; exact e3)
          (fun g hg => find_mem hnd (by
            show g ∈ turnAt st.files n _
            unfold turnAt
            exact List.mem_map.2 ⟨g, by rw [e2]; simp [hg], if_neg (hg1 g hg)⟩)) (fun r hr => hsm r (by rw [e1]; simp at hr ⊢; exact .inl hr)) ((L.first + t1.flatten.length) :: numsOf (L.first + t1.flatten.length + s.length) t2)
        rw [hfin] at hl
        rw [hnums, hl]
        obtain ⟨L1, hL1⟩ : ∃ L1 : LogS, { fresh L.name most L.first with parts := (fresh L.name most L.first).parts ++ partsOf L.first t1, recs := (fresh L.name most L.first).recs ++ t1.flatten } = L1 := ⟨_, rfl⟩
        rw [hL1]
        have hf1 : L1.fin = L.first + t1.flatten.length := by rw [← hL1]; simp [-List.length_flatten, fresh, LogS.fin]
        have hn1 : L1.name = L.name := by rw [← hL1]; rfl
        rw [LogS.loads, ← hf1]
        have hrot := load_rot (L := L1) (st := { st with files := turnAt st.files n (fun f => { f with bytes := flip f.bytes at_.toNat x }), steps := st.steps + t1.length }) hd hp (f := { fl with bytes := flip fl.bytes at_.toNat x }) (by
          have hnm : fileName L1.name L1.fin = fl.name := by rw [hn1, hf1, e4]
          rw [hnm]
          refine find_mem (g := { fl with bytes := flip fl.bytes at_.toNat x }) hnd ?_
          show _ ∈ turnAt st.files n _
          unfold turnAt
          exact List.mem_map.2 ⟨fl, hm, if_pos hfn⟩) (by
          show (scanB (flip fl.bytes at_.toNat x)).2.2 = 34
          rw [e5]
          refine scanB_flip (fun r hr => hsm r (by rw [e1]; simp [hr])) ?_ hx
          rw [← framesB_len, ← e5]; exact hsp.2)
        rw [if_neg (by rw [hrot]; simp)]
        exact hrot _
end Go.Proofs.YtbmejbmkaoekgaaGreatDoor
