/- Open of a log. -/
import Derived.Test.YtbmejbmkaoekgaaGreatDoorLoad
namespace Go.Proofs.YtbmejbmkaoekgaaGreatDoor
open Go Go.RowKit
set_option linter.unusedVariables false
set_option linter.unusedSimpArgs false

theorem scanF_len : ∀ (f : Nat) (b : List UInt8), 12 * (scanF f b).1.length ≤ b.length
  | 0, b => by simp [scanF]
  | f + 1, b => by
    unfold scanF
    split
    · simp
    · split
      · rename_i h0
        obtain ⟨h1, h2⟩ := nextB_ok h0
        have ih := scanF_len f (b.drop (nextB b).2.1)
        rw [List.length_drop] at ih
        simp only [List.length_cons]
        omega
      · simp
theorem trunc_steps (st : DiskS) (n : List UInt8) (k : Nat) : (st.truncate n k).1.steps ≤ st.steps + 1 := by
  have := step_steps st
  unfold DiskS.truncate
  split
  · exact this
  · cases hf : st.find n with
    | none => exact this
    | some f => simp only; split <;> exact this

theorem load_grows {L : LogS} {st : DiskS} (hw : st.WF) (n : Nat) (last : Bool) : (L.load st n last).2.1.steps ≤ st.steps + 2 ∧ (L.load st n last).1.name = L.name ∧ (L.load st n last).1.first = L.first ∧
    (L.load st n last).1.recs.length ≤ L.recs.length + 89478486 ∧ (L.load st n last).1.parts.length ≤ L.parts.length + 1 := by
  have h1 := read_steps st (fileName L.name n)
  have h2 := scanF_len (st.read (fileName L.name n)).2.1.length (st.read (fileName L.name n)).2.1
  have h3 := read_len hw (fileName L.name n)
  have h4 : 12 * (scanB (st.read (fileName L.name n)).2.1).1.length ≤ (st.read (fileName L.name n)).2.1.length := h2
  unfold LogS.load
  split
  · exact ⟨by simp only; omega, rfl, rfl, by simp only; omega, by simp only; omega⟩
  · split
    · exact ⟨by simp only; omega, rfl, rfl, by simp only; omega, by simp only; omega⟩
    · split
      · exact ⟨by simp only; omega, rfl, rfl, by simp only; omega, by simp only; omega⟩
      · refine ⟨?_, rfl, rfl, by simp only [List.length_append]; omega, by simp⟩
        simp only
        split
        · have := trunc_steps (st.read (fileName L.name n)).1 (fileName L.name n) (scanB (st.read (fileName L.name n)).2.1).2.1
          omega
        · simp only; omega

/-- What a call of Open leaves. -/
def OpenPost (w : World) (d : Nat) (F : List Nat) (r : LogS × DiskS × Int) (e : Ending) (w' : World) : Prop :=
  ∃ F', DiskAt w' d r.2.1 F' ∧ Keep (· ∈ F) w w' ∧ (∀ b ∈ F', b ∈ F ∨ w.heap.size ≤ b) ∧
    ((r.2.2 = 0 ∧ ∃ lb G', e = .returned (.tuple #[ptr lb, .int .i64 0]) ∧ LogAt w' lb d r.1 G' ∧ ∀ b ∈ G', w.heap.size ≤ b) ∨ (r.2.2 ≠ 0 ∧ e = .returned (.tuple #[.pointer none, .int .i64 r.2.2])))

theorem LogR.setFirst {Y : World} {lb d : Nat} {L : LogS} {pv rv : Value} {vs : List Value} (h : LogR Y lb d L pv rv vs) (n : Nat) : LogR (Y.setCell ⟨lb, 5, none⟩ (.int .i64 (n : Nat))) lb d { L with first := n } pv rv vs ∧ Keep (· = lb) Y (Y.setCell ⟨lb, 5, none⟩ (.int .i64 (n : Nat))) := by
  have k : Keep (· = lb) Y (Y.setCell ⟨lb, 5, none⟩ (.int .i64 (n : Nat))) := (Keep.refl (· = lb) Y).setCell _ _ (fun _ => rfl)
  obtain ⟨a1, a2, a3⟩ := h.apart
  refine ⟨⟨?_, row_keep h.2.1 k (fun b hb e => a1 b hb e), row_keep h.2.2.1 k (fun b hb e => a2 b hb e), h.2.2.2.1.keep k (fun b hb => by subst hb; exact h.1.noBytes (by decide)), h.2.2.2.2⟩, k⟩
  have := h.1.set 5 (.int .i64 (n : Nat))
  simpa using this

/-- Ahead of round k of Open's loop. -/
structure OpenI (w : World) (d : Nat) (st : DiskS) (F : List Nat) (nm : List UInt8) (most : Int) (l : List Nat) (lb : Nat) (v : Value) (k : Nat) (Lk : LogS) (sk : DiskS) (Fk Gk : List Nat) (wr : World) : Prop where
  log : LogAt wr lb d Lk Gk
  disk : DiskAt wr d sk Fk
  keep : Keep (· ∈ F) w wr
  ff : ∀ b ∈ Fk, b ∈ F ∨ w.heap.size ≤ b
  gg : ∀ b ∈ Gk, w.heap.size ≤ b
  row : NatRow wr NG v l
  steps : sk.steps ≤ st.steps + 2 * k
  name : Lk.name = nm
  recs : Lk.recs.length ≤ k * 89478486
  parts : Lk.parts.length ≤ k
  first : Lk.first < 1000000000
  zero : k = 0 → Lk = fresh nm most 0 ∧ sk = st
  more : 0 < k → Lk.loads sk (l.drop k) = openS nm most st l

theorem OpenI.go {w : World} {d : Nat} {st : DiskS} {F : List Nat} {nm : List UInt8} {most : Int} {l : List Nat} {lb : Nat} {v : Value} {k : Nat} {Lk L1 : LogS} {sk : DiskS} {Fk Gk : List Nat} {wr w1 w2 : World} {e : Ending}
    (h : OpenI w d st F nm most l lb v k Lk sk Fk Gk wr) (hk : k < l.length) (hl : ∀ n ∈ l, n < 1000000000)
    (hL1 : L1 = if k = 0 then { Lk with first := l[k] } else Lk) (h1 : LogAt w1 lb d L1 Gk) (k1 : Keep (· = lb) wr w1)
    (hp : LoadPost w1 lb d Fk Gk (L1.load sk l[k] (l.drop (k + 1)).isEmpty) e w2) :
    (e = .returned (.int .i64 0) ∧ (L1.load sk l[k] (l.drop (k + 1)).isEmpty).2.2 = 0 ∧ ∃ Lk' sk' Fk' Gk', OpenI w d st F nm most l lb v (k + 1) Lk' sk' Fk' Gk' w2) ∨
    (∃ ee, ee ≠ 0 ∧ e = .returned (.int .i64 ee) ∧ (openS nm most st l).2.2 = ee ∧ ∃ F', DiskAt w2 d (openS nm most st l).2.1 F' ∧ Keep (· ∈ F) w w2 ∧ (∀ b ∈ F', b ∈ F ∨ w.heap.size ≤ b)) := by
  obtain ⟨he, F', G', p1, p2, p3, p4, p5⟩ := hp
  have hlbG : lb ∈ Gk := by obtain ⟨_, _, _, _, rfl⟩ := h.log; simp
  have hwr := h.keep.size
  have hw1 := k1.size
  have kw1 : Keep (· ∈ F) w w1 := h.keep.trans k1 (fun b hb hl => by subst hb; have := h.gg _ hlbG; omega)
  have kw2 : Keep (· ∈ F) w w2 := kw1.trans p3 (fun b hb hl => by
    rcases hb with hb | hb
    · rcases h.ff b hb with q | q
      · exact q
      · omega
    · have := h.gg b hb; omega)
  have hF' : ∀ b ∈ F', b ∈ F ∨ w.heap.size ≤ b := fun b hb => by
    rcases p4 b hb with q | q
    · exact h.ff b q
    · exact .inr (by omega)
  have hG' : ∀ b ∈ G', w.heap.size ≤ b := fun b hb => by
    rcases p5 b hb with q | q
    · exact h.gg b q
    · omega
  have hdrop : l.drop k = l[k] :: l.drop (k + 1) := (List.drop_eq_getElem_cons hk)
  have hloads : L1.loads sk (l.drop k) = openS nm most st l := by
    by_cases h0 : k = 0
    · subst h0
      obtain ⟨z1, z2⟩ := h.zero rfl
      rw [if_pos rfl] at hL1
      subst z2
      unfold openS
      have hh : l.head?.getD 0 = l[0] := by
        cases l with
        | nil => simp at hk
        | cons a l => rfl
      rw [hh, hL1, z1]; rfl
    · rw [if_neg h0] at hL1
      rw [hL1]; exact h.more (by omega)
  rw [hdrop, LogS.loads] at hloads
  obtain ⟨g1, g2, g3, g4, g5⟩ := load_grows (L := L1) h.disk.wf l[k] (l.drop (k + 1)).isEmpty
  have hname : L1.name = nm ∧ L1.recs = Lk.recs ∧ L1.parts = Lk.parts ∧ L1.first < 1000000000 := by
    rw [hL1]; split
    · exact ⟨h.name, rfl, rfl, hl _ (List.getElem_mem hk)⟩
    · exact ⟨h.name, rfl, rfl, h.first⟩
  have rowk : NatRow w2 NG v l := by
    refine row_keep (row_keep h.row k1 (fun b hb e => ?_)) p3 (fun b hb e => ?_)
    · subst e
      obtain ⟨_, cur, hc⟩ := row_kind h.row hb
      obtain ⟨_, cs, t, hc', ht⟩ := h.log.kinds _ hlbG
      rw [hc] at hc'
      injection hc' with hc'; injection hc' with _ hc'
      rcases ht with ht | ht | ht <;> (rw [← hc'] at ht; revert ht; decide)
    · obtain ⟨_, cur, hc⟩ := row_kind h.row hb
      rcases e with e | e
      · rcases h.disk.kinds b e _ _ _ hc with q | q <;> (revert q; decide)
      · obtain ⟨_, cs, t, hc', ht⟩ := h.log.kinds b e
        rw [hc] at hc'
        injection hc' with hc'; injection hc' with _ hc'
        rcases ht with ht | ht | ht <;> (rw [← hc'] at ht; revert ht; decide)
  by_cases h0 : (L1.load sk l[k] (l.drop (k + 1)).isEmpty).2.2 = 0
  · left
    rw [if_pos h0] at hloads
    refine ⟨by rw [he, h0], h0, _, _, F', G', ⟨p2 h0, p1, kw2, hF', hG', rowk, ?_, by rw [g2]; exact hname.1, ?_, ?_, by rw [g3]; exact hname.2.2.2, fun q => by omega, fun _ => hloads⟩⟩
    · have := h.steps; omega
    · have := h.recs; rw [hname.2.1] at g4; omega
    · have := h.parts; rw [hname.2.2.1] at g5; omega
  · right
    rw [if_neg h0] at hloads
    exact ⟨_, h0, he, by rw [hloads], F', by rw [← hloads]; exact p1, kw2, hF'⟩
end Go.Proofs.YtbmejbmkaoekgaaGreatDoor
