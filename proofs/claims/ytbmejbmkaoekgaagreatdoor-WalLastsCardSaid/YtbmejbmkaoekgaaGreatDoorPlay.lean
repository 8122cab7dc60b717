/- A log on a disk in plain Lean: what lies where; Append, Sync, a boot, Open. -/
import Derived.Test.YtbmejbmkaoekgaaGreatDoorNums
import Derived.Test.YtbmejbmkaoekgaaGreatDoorScan
namespace Go.Proofs.YtbmejbmkaoekgaaGreatDoor
open Go Go.RowKit
set_option linter.unusedVariables false
set_option linter.unusedSimpArgs false

/-- One file is read at Open. -/
def LogS.load (L : LogS) (st : DiskS) (n : Nat) (last : Bool) : LogS × DiskS × Int :=
  if (st.read (fileName L.name n)).2.2 ≠ 0 then (L, (st.read (fileName L.name n)).1, (st.read (fileName L.name n)).2.2)
  else if n ≠ L.fin then (L, (st.read (fileName L.name n)).1, 34)
  else if (scanB (st.read (fileName L.name n)).2.1).2.2 = 34 ∨ ((scanB (st.read (fileName L.name n)).2.1).2.2 ≠ 0 ∧ last = false) then (L, (st.read (fileName L.name n)).1, 34)
  else ({ L with parts := L.parts ++ [⟨n, (scanB (st.read (fileName L.name n)).2.1).1.length, (scanB (st.read (fileName L.name n)).2.1).2.1⟩], recs := L.recs ++ (scanB (st.read (fileName L.name n)).2.1).1 },
    if (scanB (st.read (fileName L.name n)).2.1).2.1 < (st.read (fileName L.name n)).2.1.length then (st.read (fileName L.name n)).1.truncate (fileName L.name n) (scanB (st.read (fileName L.name n)).2.1).2.1
    else ((st.read (fileName L.name n)).1, 0))

def LogS.loads : LogS → DiskS → List Nat → LogS × DiskS × Int
  | L, st, [] => (L, st, 0)
  | L, st, n :: l => if (L.load st n l.isEmpty).2.2 = 0 then LogS.loads (L.load st n l.isEmpty).1 (L.load st n l.isEmpty).2.1 l else L.load st n l.isEmpty

def fresh (nm : List UInt8) (most : Int) (first : Nat) : LogS := { name := nm, most := most, parts := [], recs := [], first := first, dirty := false }
/-- What Open finds, where the log's files have these numbers. -/
def openS (nm : List UInt8) (most : Int) (st : DiskS) (ns : List Nat) : LogS × DiskS × Int := (fresh nm most (ns.head?.getD 0)).loads st ns

def partsOf : Nat → List (List (List UInt8)) → List PartS
  | _, [] => []
  | f, s :: ss => ⟨f, s.length, framesLen s⟩ :: partsOf (f + s.length) ss

/-- Files that hold just these records, and are safe. -/
def FilesW (nm : List UInt8) : Nat → List (List (List UInt8)) → List FileS → Prop
  | _, [], [] => True
  | f, s :: ss, x :: xs => x.name = fileName nm f ∧ x.bytes = framesB s ∧ x.safe = x.bytes.length ∧ FilesW nm (f + s.length) ss xs
  | _, _, _ => False

/-- The disk holds the log; k records are safe. -/
def Lies (L : LogS) (st : DiskS) (k : Nat) : Prop :=
  (∀ r ∈ L.recs, r.length ≤ 65536) ∧ k ≤ L.recs.length ∧
  ((L.parts = [] ∧ L.recs = [] ∧ st.files = []) ∨
   ∃ ss s gs x, L.parts = partsOf L.first ss ++ [⟨L.first + ss.flatten.length, s.length, framesLen s⟩] ∧ L.recs = ss.flatten ++ s ∧ st.files = gs ++ [x] ∧ FilesW L.name L.first ss gs ∧
     x.name = fileName L.name (L.first + ss.flatten.length) ∧ x.bytes = framesB s ∧ framesLen (s.take (k - ss.flatten.length)) ≤ x.safe ∧ (L.dirty = false → x.safe = x.bytes.length))

section
variable {nm : List UInt8}
theorem partsOf_snoc (s : List (List UInt8)) : ∀ (f : Nat) (ss : List (List (List UInt8))), partsOf f (ss ++ [s]) = partsOf f ss ++ [⟨f + ss.flatten.length, s.length, framesLen s⟩]
  | f, [] => by simp [-List.length_flatten, partsOf]
  | f, t :: ss => by simp [-List.length_flatten, partsOf, partsOf_snoc s (f + t.length) ss, Nat.add_assoc]
theorem filesW_snoc {s : List (List UInt8)} {x : FileS} : ∀ {f : Nat} {ss : List (List (List UInt8))} {gs : List FileS}, FilesW nm f ss gs → x.name = fileName nm (f + ss.flatten.length) → x.bytes = framesB s → x.safe = x.bytes.length → FilesW nm f (ss ++ [s]) (gs ++ [x])
  | f, [], [], h, h1, h2, h3 => ⟨by simpa using h1, h2, h3, trivial⟩
  | f, t :: ss, [], h, _, _, _ => h.elim
  | f, [], g :: gs, h, _, _, _ => h.elim
  | f, t :: ss, g :: gs, ⟨a, b, c, h⟩, h1, h2, h3 => ⟨a, b, c, filesW_snoc h (by rw [h1]; simp [-List.length_flatten, Nat.add_assoc]) h2 h3⟩
theorem filesW_name : ∀ {f : Nat} {ss : List (List (List UInt8))} {gs : List FileS}, FilesW nm f ss gs → ∀ g ∈ gs, ∃ n, g.name = fileName nm n ∧ f ≤ n ∧ n ≤ f + ss.flatten.length
  | f, [], [], h, g, hg => by cases hg
  | f, t :: ss, [], h, _, _ => h.elim
  | f, [], g :: gs, h, _, _ => h.elim
  | f, t :: ss, x :: gs, ⟨a, b, c, h⟩, g, hg => by
    rcases List.mem_cons.1 hg with rfl | hg
    · exact ⟨f, a, Nat.le_refl _, by simp⟩
    · obtain ⟨n, h1, h2, h3⟩ := filesW_name h g hg
      exact ⟨n, h1, by omega, by simp [-List.length_flatten]; omega⟩
theorem filesW_len : ∀ {f : Nat} {ss : List (List (List UInt8))} {gs : List FileS}, FilesW nm f ss gs → gs.length = ss.length
  | f, [], [], h => rfl
  | f, t :: ss, [], h => h.elim
  | f, [], g :: gs, h => h.elim
  | f, t :: ss, x :: gs, ⟨a, b, c, h⟩ => by simp [-List.length_flatten, filesW_len h]
theorem partsOf_len : ∀ (f : Nat) (ss : List (List (List UInt8))), (partsOf f ss).length = ss.length
  | f, [] => rfl
  | f, t :: ss => by simp [-List.length_flatten, partsOf, partsOf_len]
end

section
variable {L : LogS} {st : DiskS} {k : Nat}
theorem Lies.files {st' : DiskS} (h : Lies L st k) (e : st'.files = st.files) : Lies L st' k := by
  unfold Lies at h ⊢; rw [e]; exact h
theorem Lies.less {k' : Nat} (h : Lies L st k) (hk : k' ≤ k) : Lies L st k' := by
  obtain ⟨h1, h2, h3⟩ := h
  refine ⟨h1, by omega, ?_⟩
  rcases h3 with h3 | ⟨ss, s, gs, x, a, b, c, d, e, f, g, i⟩
  · exact .inl h3
  · refine .inr ⟨ss, s, gs, x, a, b, c, d, e, f, Nat.le_trans ?_ g, i⟩
    have : s.take (k' - ss.flatten.length) = (s.take (k - ss.flatten.length)).take (k' - ss.flatten.length) := by rw [List.take_take]; congr 1; omega
    rw [this]
    have h9 := framesLen_append ((s.take (k - ss.flatten.length)).take (k' - ss.flatten.length)) ((s.take (k - ss.flatten.length)).drop (k' - ss.flatten.length))
    rw [List.take_append_drop] at h9
    omega

/-- The last of the disk's files is found by its name, and by that alone. -/
theorem find_last {gs : List FileS} {x : FileS} (hf : st.files = gs ++ [x]) (hn : st.names.Nodup) : st.find x.name = some x := by
  unfold DiskS.find
  rw [hf, List.find?_append]
  have : gs.find? (fun f => decide (f.name = x.name)) = none := by
    rw [List.find?_eq_none]
    intro g hg
    simp only [decide_eq_true_eq]
    intro e
    unfold DiskS.names at hn
    rw [hf, List.map_append, List.nodup_append] at hn
    exact hn.2.2 g.name (List.mem_map.2 ⟨g, hg, rfl⟩) x.name (by simp) e
  rw [this]; simp
theorem turn_last {gs : List FileS} {x : FileS} (hf : st.files = gs ++ [x]) (hn : st.names.Nodup) (g : FileS → FileS) : turnAt st.files x.name g = gs ++ [g x] := by
  unfold turnAt
  rw [hf, List.map_append]
  have : gs.map (fun f => if f.name = x.name then g f else f) = gs := by
    rw [List.map_congr_left (g := id), List.map_id]
    intro y hy
    unfold DiskS.names at hn
    rw [hf, List.map_append, List.nodup_append] at hn
    exact if_neg (fun e => hn.2.2 y.name (List.mem_map.2 ⟨y, hy, rfl⟩) x.name (by simp) e)
  rw [this]; simp

theorem Lies.sync (h : Lies L st k) (hw : st.WF) : Lies (L.sync st).1 (L.sync st).2.1 k ∧ (L.sync st).1.recs = L.recs ∧ (L.sync st).1.name = L.name ∧ (L.sync st).1.first = L.first ∧ (L.sync st).1.most = L.most ∧ (L.sync st).1.parts = L.parts ∧
    ((L.sync st).2.2 = 0 → (L.sync st).1.parts ≠ [] → (L.sync st).1.dirty = false ∨ L.dirty = true ∧ (L.sync st).1.dirty = false) ∧ ((L.sync st).2.2 = 0 → Lies (L.sync st).1 (L.sync st).2.1 L.recs.length) := by
  obtain ⟨h1, h2, h3⟩ := h
  rcases h3 with ⟨a, b, c⟩ | ⟨ss, s, gs, x, a, b, c, d, e, f, g, i⟩
  · have hs : L.sync st = (L, st, 0) := by unfold LogS.sync; rw [a]; rfl
    rw [hs]
    exact ⟨⟨h1, h2, .inl ⟨a, b, c⟩⟩, rfl, rfl, rfl, rfl, rfl, fun _ hp => absurd a hp, fun _ => ⟨h1, by simp, .inl ⟨a, b, c⟩⟩⟩
  · have hl : L.parts.getLast? = some ⟨L.first + ss.flatten.length, s.length, framesLen s⟩ := by rw [a]; simp
    by_cases hd : L.dirty = true
    case neg =>
      have hd' : L.dirty = false := by simpa using hd
      have hs : L.sync st = (L, st, 0) := by unfold LogS.sync; rw [hl]; simp [-List.length_flatten, hd']
      rw [hs]
      refine ⟨⟨h1, h2, .inr ⟨ss, s, gs, x, a, b, c, d, e, f, g, i⟩⟩, rfl, rfl, rfl, rfl, rfl, fun _ _ => .inl hd', fun _ => ⟨h1, Nat.le_refl _, .inr ⟨ss, s, gs, x, a, b, c, d, e, f, ?_, i⟩⟩⟩
      have hx := i hd'
      rw [hx, f, framesB_len, b, List.length_append, Nat.add_sub_cancel_left, List.take_of_length_le (Nat.le_refl _)]
      exact Nat.le_refl _
    case pos =>
      have hs : L.sync st = ({ L with dirty := (st.sync x.name).2 != 0 }, (st.sync x.name).1, (st.sync x.name).2) := by unfold LogS.sync; rw [hl]; simp [-List.length_flatten, hd, e]
      rw [hs]
      by_cases h0 : st.step.2 = 0
      · have hy : st.sync x.name = ({ st.step.1 with files := gs ++ [{ x with safe := x.bytes.length }] }, 0) := by
          unfold DiskS.sync
          rw [if_neg (fun q => q h0), find_last c hw.names, turn_last c hw.names]
        rw [hy]
        have hl : ∀ k', k' ≤ L.recs.length → Lies { L with dirty := false } { st.step.1 with files := gs ++ [{ x with safe := x.bytes.length }] } k' := fun k' hk' =>
          ⟨h1, hk', .inr ⟨ss, s, gs, { x with safe := x.bytes.length }, a, b, rfl, d, e, f, by
            show _ ≤ x.bytes.length
            rw [f, framesB_len]
            have h9 := framesLen_append (s.take (k' - ss.flatten.length)) (s.drop (k' - ss.flatten.length))
            rw [List.take_append_drop] at h9
            omega, fun _ => rfl⟩⟩
        exact ⟨hl k h2, rfl, rfl, rfl, rfl, rfl, fun _ _ => .inl rfl, fun _ => hl _ (Nat.le_refl _)⟩
      · have hy : st.sync x.name = st.step := by unfold DiskS.sync; rw [if_pos h0]
        rw [hy]
        have hne : (st.step.2 != 0) = true := by simpa using h0
        refine ⟨⟨h1, h2, .inr ⟨ss, s, gs, x, a, b, by show st.step.1.files = _; rw [step_files, c], d, e, f, g, fun q => ?_⟩⟩, rfl, rfl, rfl, rfl, rfl, fun q => absurd q h0, fun q => absurd q h0⟩
        rw [hne] at q; cases q

theorem Lies.addTo (h : Lies L st k) (hw : st.WF) (b : List UInt8) (hb : b.length ≤ 65536) (p : PartS) (hp : L.parts.getLast? = some p) :
    Lies (L.addTo st b p).1 (L.addTo st b p).2.1 k ∧ (L.addTo st b p).1.name = L.name ∧ (L.addTo st b p).1.first = L.first ∧ (L.addTo st b p).1.most = L.most ∧
      (L.addTo st b p).1.recs = if (L.addTo st b p).2.2 = 0 then L.recs ++ [b] else L.recs := by
  obtain ⟨h1, h2, h3⟩ := h
  rcases h3 with ⟨a, _, _⟩ | ⟨ss, s, gs, x, a, bb, c, d, e, f, g, i⟩
  · rw [a] at hp; cases hp
  have hp' : p = ⟨L.first + ss.flatten.length, s.length, framesLen s⟩ := by rw [a] at hp; simp [-List.length_flatten] at hp; exact hp.symm
  subst hp'
  unfold LogS.addTo
  simp only [← e]
  have hA : (st.append x.name (frameB b)).2 = 0 ∧ (st.append x.name (frameB b)).1.files = gs ++ [{ x with bytes := x.bytes ++ frameB b }] ∨ (st.append x.name (frameB b)).2 ≠ 0 ∧ (st.append x.name (frameB b)).1.files = st.files := by
    unfold DiskS.append
    by_cases h0 : st.step.2 = 0
    · rw [if_neg (fun q => q h0), find_last c hw.names]
      simp only
      by_cases hr : st.room - st.used < (frameB b).length
      · rw [if_pos hr]; exact .inr ⟨by simp, step_files st⟩
      · rw [if_neg hr]; exact .inl ⟨rfl, turn_last c hw.names _⟩
    · rw [if_pos h0]; exact .inr ⟨h0, step_files st⟩
  rcases hA with ⟨h0, hf⟩ | ⟨h0, hf⟩
  · rw [if_pos h0]
    refine ⟨⟨?_, by show k ≤ (L.recs ++ [b]).length; simp [-List.length_flatten]; omega, .inr ⟨ss, s ++ [b], gs, { x with bytes := x.bytes ++ frameB b }, ?_, ?_, hf, d, e, ?_, ?_, ?_⟩⟩, rfl, rfl, rfl, by simp⟩
    · intro r hr
      rcases List.mem_append.1 hr with hr | hr
      · exact h1 r hr
      · simp [-List.length_flatten] at hr; subst hr; exact hb
    · show L.parts.dropLast ++ _ = _
      rw [a]
      simp [-List.length_flatten, framesLen_append, framesLen, Nat.add_assoc]
    · show L.recs ++ [b] = _
      rw [bb]; simp
    · show x.bytes ++ frameB b = _
      rw [f, framesB_append]; simp [-List.length_flatten, framesB]
    · show framesLen ((s ++ [b]).take _) ≤ x.safe
      rw [List.take_append_of_le_length (by rw [bb] at h2; simp [-List.length_flatten] at h2; omega)]
      exact g
    · intro q; cases q
  · rw [if_neg h0]
    exact ⟨⟨h1, h2, .inr ⟨ss, s, gs, x, a, bb, by rw [hf, c], d, e, f, g, i⟩⟩, rfl, rfl, rfl, by rw [if_neg h0]⟩

/-- A new file begins: the last one is whole and safe. -/
theorem Lies.addNew (h : Lies L st k) (b : List UInt8) (hb : b.length ≤ 65536) (hc : L.parts = [] ∨ L.dirty = false) (hs : ∀ p, L.parts.getLast? = some p → p.frm ≠ L.fin) :
    Lies (L.addNew st b).1 (L.addNew st b).2.1 k ∧ (L.addNew st b).1.name = L.name ∧ (L.addNew st b).1.first = L.first ∧ (L.addNew st b).1.most = L.most ∧
      (L.addNew st b).1.recs = if (L.addNew st b).2.2 = 0 then L.recs ++ [b] else L.recs := by
  obtain ⟨h1, h2, h3⟩ := h
  have hno : st.find (fileName L.name L.fin) = none := by
    rcases h3 with ⟨_, _, c⟩ | ⟨ss, s, gs, x, a, bb, c, d, e, f, g, i⟩
    · unfold DiskS.find; rw [c]; rfl
    · have hfin : L.fin = L.first + ss.flatten.length + s.length := by unfold LogS.fin; rw [bb]; simp [-List.length_flatten, Nat.add_assoc]
      have hne := hs ⟨L.first + ss.flatten.length, s.length, framesLen s⟩ (by rw [a]; simp)
      simp only at hne
      unfold DiskS.find
      rw [List.find?_eq_none]
      intro y hy
      simp only [decide_eq_true_eq]
      rw [c] at hy
      rcases List.mem_append.1 hy with hy | hy
      · obtain ⟨n, q1, q2, q3⟩ := filesW_name d y hy
        rw [q1]; intro q; have := file_inj q; omega
      · simp [-List.length_flatten] at hy; subst hy
        rw [e]; intro q; have := file_inj q; omega
  have hA : (st.append (fileName L.name L.fin) (frameB b)).2 = 0 ∧ (st.append (fileName L.name L.fin) (frameB b)).1.files = st.files ++ [⟨fileName L.name L.fin, frameB b, 0⟩] ∨ (st.append (fileName L.name L.fin) (frameB b)).2 ≠ 0 ∧ (st.append (fileName L.name L.fin) (frameB b)).1.files = st.files := by
    unfold DiskS.append
    by_cases h0 : st.step.2 = 0
    · rw [if_neg (fun q => q h0), hno]
      simp only
      by_cases hm : 16 ≤ st.files.length
      · rw [if_pos hm]; exact .inr ⟨by simp, step_files st⟩
      rw [if_neg hm]
      by_cases hr : st.room - st.used < (frameB b).length
      · rw [if_pos hr]; exact .inr ⟨by simp, step_files st⟩
      · rw [if_neg hr]; exact .inl ⟨rfl, rfl⟩
    · rw [if_pos h0]; exact .inr ⟨h0, step_files st⟩
  unfold LogS.addNew
  rcases hA with ⟨h0, hf⟩ | ⟨h0, hf⟩
  · rw [if_pos h0]
    have hsm : ∀ r ∈ L.recs ++ [b], r.length ≤ 65536 := by
      intro r hr
      rcases List.mem_append.1 hr with hr | hr
      · exact h1 r hr
      · simp [-List.length_flatten] at hr; subst hr; exact hb
    have hkk : k ≤ (L.recs ++ [b]).length := by simp [-List.length_flatten]; omega
    refine ⟨⟨hsm, hkk, ?_⟩, rfl, rfl, rfl, by simp⟩
    rcases h3 with ⟨a, bb, c⟩ | ⟨ss, s, gs, x, a, bb, c, d, e, f, g, i⟩
    · refine .inr ⟨[], [b], [], ⟨fileName L.name L.fin, frameB b, 0⟩, ?_, ?_, ?_, trivial, ?_, ?_, ?_, fun q => by cases q⟩
      · show L.parts ++ _ = _
        simp [-List.length_flatten, a, bb, LogS.fin, partsOf, framesLen]
      · show L.recs ++ [b] = _
        simp [-List.length_flatten, bb]
      · rw [hf, c]
      · simp [-List.length_flatten, LogS.fin, bb]
      · simp [-List.length_flatten, framesB]
      · have : k = 0 := by rw [bb] at h2; simpa using h2
        subst this; simp [-List.length_flatten, framesLen]
    · have hcl : x.safe = x.bytes.length := by
        rcases hc with hc | hc
        · rw [a] at hc; simp [-List.length_flatten] at hc
        · exact i hc
      have hfl : (ss ++ [s]).flatten = L.recs := by rw [bb]; simp
      refine .inr ⟨ss ++ [s], [b], gs ++ [x], ⟨fileName L.name L.fin, frameB b, 0⟩, ?_, ?_, ?_, filesW_snoc d e f hcl, ?_, ?_, ?_, fun q => by cases q⟩
      · show L.parts ++ _ = _
        rw [partsOf_snoc, ← a, hfl]; simp [-List.length_flatten, LogS.fin, framesLen]
      · show L.recs ++ [b] = _
        rw [hfl]
      · rw [hf, c]
      · rw [hfl]; rfl
      · simp [-List.length_flatten, framesB]
      · rw [hfl]
        have : k - L.recs.length = 0 := by omega
        rw [this]; simp [-List.length_flatten, framesLen]
  · rw [if_neg h0]
    refine ⟨⟨h1, h2, ?_⟩, rfl, rfl, rfl, by rw [if_neg h0]⟩
    rcases h3 with ⟨a, bb, c⟩ | ⟨ss, s, gs, x, a, bb, c, d, e, f, g, i⟩
    · exact .inl ⟨a, bb, by rw [hf, c]⟩
    · exact .inr ⟨ss, s, gs, x, a, bb, by rw [hf, c], d, e, f, g, i⟩

theorem Lies.sound (h : Lies L st k) (hm : 1 ≤ L.most) : L.Sound := by
  refine ⟨hm, fun p hp hf => ?_⟩
  obtain ⟨h1, h2, h3⟩ := h
  rcases h3 with ⟨a, _, _⟩ | ⟨ss, s, gs, x, a, bb, c, d, e, f, g, i⟩
  · rw [a] at hp; cases hp
  · rw [a] at hp; simp [-List.length_flatten] at hp; subst hp
    simp only [LogS.fin, bb, List.length_append] at hf
    have : s = [] := List.eq_nil_of_length_eq_zero (by omega)
    subst this; rfl

theorem lappend_none {L : LogS} {st : DiskS} {b : List UInt8} (h : L.parts.getLast? = none) : L.append st b = L.addNew st b := by unfold LogS.append; rw [h]
theorem lappend_fits {L : LogS} {st : DiskS} {b : List UInt8} {p : PartS} (h : L.parts.getLast? = some p) (hs : (p.size : Int) < L.most) : L.append st b = L.addTo st b p := by unfold LogS.append; rw [h]; exact if_pos hs
theorem lappend_over {L : LogS} {st : DiskS} {b : List UInt8} {p : PartS} (h : L.parts.getLast? = some p) (hs : ¬ (p.size : Int) < L.most) : L.append st b = L.addFull st b := by unfold LogS.append; rw [h]; exact if_neg hs
/-- Append keeps the files as they should be. -/
theorem Lies.append (h : Lies L st k) (hw : st.WF) (hm : 1 ≤ L.most) (b : List UInt8) (hb : b.length ≤ 65536) :
    Lies (L.append st b).1 (L.append st b).2.1 k ∧ (L.append st b).1.name = L.name ∧ (L.append st b).1.first = L.first ∧ (L.append st b).1.most = L.most ∧
      (L.append st b).1.recs = if (L.append st b).2.2 = 0 then L.recs ++ [b] else L.recs := by
  cases hp : L.parts.getLast? with
  | none =>
    rw [lappend_none hp]
    have h0 : L.parts = [] := by simpa using hp
    exact h.addNew b hb (.inl h0) (fun p hp' => by rw [hp] at hp'; cases hp')
  | some p =>
    by_cases hs : (p.size : Int) < L.most
    · rw [lappend_fits hp hs]; exact h.addTo hw b hb p hp
    · rw [lappend_over hp hs]
      have so := (h.sound hm).2 p hp
      obtain ⟨q1, q2, q3, q4, q5, q6, q7, q8⟩ := h.sync hw
      by_cases h0 : (L.sync st).2.2 = 0
      · have hF : L.addFull st b = (L.sync st).1.addNew (L.sync st).2.1 b := by unfold LogS.addFull; rw [if_pos h0]
        rw [hF]
        have hd : (L.sync st).1.dirty = false := by
          rcases q7 h0 (by rw [q6]; intro q; rw [q] at hp; cases hp) with hd | hd
          · exact hd
          · exact hd.2
        have hfin : (L.sync st).1.fin = L.fin := by unfold LogS.fin; rw [q2, q4]
        have := q1.addNew b hb (.inr hd) (fun p' hp' => by
          rw [q6, hp] at hp'
          injection hp' with hp'
          subst hp'
          rw [hfin]
          intro q
          have := so q
          omega)
        rw [q2, q3, q4, q5] at this
        exact this
      · have hF : L.addFull st b = L.sync st := by unfold LogS.addFull; rw [if_neg h0]
        rw [hF]
        exact ⟨q1, q3, q4, q5, by rw [if_neg h0]; exact q2⟩
end
end Go.Proofs.YtbmejbmkaoekgaaGreatDoor
