/- Bounds of a log that lies on a disk; a disk where no fault is planned. -/
import Derived.Test.YtbmejbmkaoekgaaGreatDoorPlay2
namespace Go.Proofs.YtbmejbmkaoekgaaGreatDoor
open Go Go.RowKit
set_option linter.unusedVariables false
set_option linter.unusedSimpArgs false

theorem filesW_used {nm : List UInt8} : ∀ {f : Nat} {ss : List (List (List UInt8))} {gs : List FileS}, FilesW nm f ss gs → usedBy gs = framesLen ss.flatten
  | f, [], [], h => rfl
  | f, t :: ss, [], h => h.elim
  | f, [], g :: gs, h => h.elim
  | f, t :: ss, x :: gs, ⟨a, b, c, h⟩ => by
    have ih := filesW_used h
    have e : usedBy (x :: gs) = x.bytes.length + usedBy gs := by simp [usedBy]
    rw [e, ih, b, framesB_len]
    simp [-List.length_flatten, framesLen_append]
theorem partsOf_mem : ∀ (f : Nat) (ss : List (List (List UInt8))) (p : PartS), p ∈ partsOf f ss → p.frm ≤ f + ss.flatten.length ∧ p.many ≤ ss.flatten.length ∧ p.size ≤ framesLen ss.flatten
  | f, [], p, h => by cases h
  | f, s :: ss, p, h => by
    have e : framesLen (s :: ss).flatten = framesLen s + framesLen ss.flatten := by simp [framesLen_append]
    have e2 : (s :: ss).flatten.length = s.length + ss.flatten.length := by simp [-List.length_flatten]
    rw [e, e2]
    rcases List.mem_cons.1 h with rfl | h
    · simp only; omega
    · have := partsOf_mem _ ss p h
      omega

section
variable {L : LogS} {st : DiskS} {k : Nat}
theorem Lies.bulk (h : Lies L st k) (hw : st.WF) : framesLen L.recs ≤ 1073741824 ∧ L.recs.length ≤ 89478485 := by
  have hu : framesLen L.recs = st.used := by
    obtain ⟨h1, h2, h3⟩ := h
    rcases h3 with ⟨a, b, c⟩ | ⟨ss, s, gs, x, a, b, c, d, e, f, g, i⟩
    · rw [b]; unfold DiskS.used; rw [c]; rfl
    · unfold DiskS.used
      rw [c, usedBy_append, filesW_used d, b, framesLen_append]
      have : usedBy [x] = x.bytes.length := by simp [usedBy]
      rw [this, f, framesB_len]
  have h1 := framesLen_least L.recs
  have := hw.used; have := hw.room
  omega

theorem Lies.ok (h : Lies L st k) (hw : st.WF) (hn : LogName L.name) (hf : L.first ≤ 900000000) : L.Ok := by
  obtain ⟨b1, b2⟩ := h.bulk hw
  have hmany := hw.many
  refine ⟨hn, ?_, by unfold LogS.fin; omega, ?_⟩
  · intro p hp
    obtain ⟨h1, h2, h3⟩ := h
    rcases h3 with ⟨a, b, c⟩ | ⟨ss, s, gs, x, a, b, c, d, e, f, g, i⟩
    · rw [a] at hp; cases hp
    · rw [b, framesLen_append] at b1
      rw [b, List.length_append] at b2
      rw [a] at hp
      rcases List.mem_append.1 hp with hp | hp
      · have := partsOf_mem _ _ _ hp
        omega
      · simp [-List.length_flatten] at hp; subst hp; simp only; omega
  · obtain ⟨h1, h2, h3⟩ := h
    rcases h3 with ⟨a, b, c⟩ | ⟨ss, s, gs, x, a, b, c, d, e, f, g, i⟩
    · rw [a]; decide
    · rw [c, List.length_append, filesW_len d] at hmany
      rw [a, List.length_append, partsOf_len]
      simp only [List.length_singleton] at hmany ⊢
      omega
theorem Lies.count (h : Lies L st k) : L.parts.length = st.files.length := by
  obtain ⟨h1, h2, h3⟩ := h
  rcases h3 with ⟨a, b, c⟩ | ⟨ss, s, gs, x, a, b, c, d, e, f, g, i⟩
  · rw [a, c]; rfl
  · rw [a, c, List.length_append, List.length_append, partsOf_len, filesW_len d]; rfl
theorem Lies.names (h : Lies L st k) : st.names = (fileNums L).map (fileName L.name) := by
  obtain ⟨h1, h2, h3⟩ := h
  rcases h3 with ⟨a, b, c⟩ | ⟨ss, s, gs, x, a, b, c, d, e, f, g, i⟩
  · unfold DiskS.names fileNums; rw [a, c]; rfl
  · unfold DiskS.names fileNums
    rw [a, c, List.map_append, List.map_append, List.map_append, filesW_names d]
    show _ ++ [x.name] = _
    rw [e]; rfl

/-- What Open asks of the disk's names. -/
theorem open_ready {st' : DiskS} {nm : List UInt8} {l : List Nat} (hn : st'.names = l.map (fileName nm)) (hr : l.Pairwise (· ≤ ·)) (hl : ∀ n ∈ l, n < 1000000000) (hc : l.length ≤ 16) :
    ∃ ns : List Nat, st'.sorted = ns.map (fileName nm) ∧ (∀ n ∈ ns, n < 1000000000) ∧ ns.length ≤ 16 ∧ ns.mergeSort (· ≤ ·) = l := by
  obtain ⟨ns, h1, h2, h3, h4⟩ := nums_of hn hr
  exact ⟨ns, h1, fun n hn => hl n (h4 n hn), by omega, h2⟩
theorem LogS.Ok.nums (h : L.Ok) : ∀ n ∈ fileNums L, n < 1000000000 := by
  intro n hn
  obtain ⟨p, hp, rfl⟩ := List.mem_map.1 hn
  exact (h.frm p hp).1

/-- No fault is planned, and the disk is up. -/
def Calm (st : DiskS) : Prop := st.down = false ∧ st.plan = []
theorem Calm.step (h : Calm st) : Calm st.step.1 := by rw [step_free h.1 h.2]; exact h
theorem Calm.append (h : Calm st) (n b : List UInt8) : Calm (st.append n b).1 := by
  unfold DiskS.append
  split
  · exact h.step
  · split
    · split
      · exact h.step
      · split <;> exact h.step
    · split <;> exact h.step
theorem Calm.sync (h : Calm st) (n : List UInt8) : Calm (st.sync n).1 := by
  unfold DiskS.sync
  split
  · exact h.step
  · split <;> exact h.step
theorem Calm.lsync (h : Calm st) (L : LogS) : Calm (L.sync st).2.1 := by
  unfold LogS.sync
  split
  · exact h
  · split
    · exact h.sync _
    · exact h
theorem Calm.addNew (h : Calm st) (L : LogS) (b : List UInt8) : Calm (L.addNew st b).2.1 := by
  unfold LogS.addNew; split <;> exact h.append _ _
theorem Calm.lappend (h : Calm st) (L : LogS) (b : List UInt8) : Calm (L.append st b).2.1 := by
  cases hp : L.parts.getLast? with
  | none => rw [lappend_none hp]; exact h.addNew _ _
  | some p =>
    by_cases hs : (p.size : Int) < L.most
    · rw [lappend_fits hp hs]; unfold LogS.addTo; split <;> exact h.append _ _
    · rw [lappend_over hp hs]; unfold LogS.addFull; split
      · exact (h.lsync L).addNew _ _
      · exact h.lsync L
theorem Calm.synced (h : Calm st) (hl : Lies L st k) (hw : st.WF) : (L.sync st).2.2 = 0 := by
  obtain ⟨h1, h2, h3⟩ := hl
  rcases h3 with ⟨a, b, c⟩ | ⟨ss, s, gs, x, a, b, c, d, e, f, g, i⟩
  · unfold LogS.sync; rw [a]; rfl
  · have hl : L.parts.getLast? = some ⟨L.first + ss.flatten.length, s.length, framesLen s⟩ := by rw [a]; simp [-List.length_flatten]
    unfold LogS.sync
    rw [hl]
    simp only
    split
    · rw [← e]
      unfold DiskS.sync
      rw [step_free h.1 h.2, find_last c hw.names]
      rfl
    · rfl

/-- A call takes few steps. -/
theorem dappend_steps (st : DiskS) (n b : List UInt8) : (st.append n b).1.steps ≤ st.steps + 1 := by
  have := step_steps st
  unfold DiskS.append
  split
  · exact this
  · split
    · split
      · exact this
      · split <;> exact this
    · split <;> exact this
theorem addNew_steps (L : LogS) (st : DiskS) (b : List UInt8) : (L.addNew st b).2.1.steps ≤ st.steps + 1 := by
  unfold LogS.addNew; split <;> exact dappend_steps _ _ _
theorem lappend_steps (L : LogS) (st : DiskS) (b : List UInt8) : (L.append st b).2.1.steps ≤ st.steps + 2 := by
  cases hp : L.parts.getLast? with
  | none => rw [lappend_none hp]; have := addNew_steps L st b; omega
  | some p =>
    by_cases hs : (p.size : Int) < L.most
    · rw [lappend_fits hp hs]
      unfold LogS.addTo
      have := dappend_steps st (fileName L.name p.frm) (frameB b)
      split <;> (simp only; omega)
    · rw [lappend_over hp hs]
      have h1 := lsync_steps L st
      unfold LogS.addFull; split
      · have := addNew_steps (L.sync st).1 (L.sync st).2.1 b; omega
      · omega
theorem spoil_steps (st : DiskS) (n : List UInt8) (a : Int) (x : UInt8) : (st.spoil n a x).1.steps = st.steps ∧ (st.spoil n a x).1.down = st.down ∧ (st.spoil n a x).1.plan = st.plan := by
  unfold DiskS.spoil
  split
  · exact ⟨rfl, rfl, rfl⟩
  · split <;> exact ⟨rfl, rfl, rfl⟩
end
end Go.Proofs.YtbmejbmkaoekgaaGreatDoor
