/- Get and Sync. -/
import Derived.Test.YtbmejbmkaoekgaaGreatDoorLog
import Derived.StillTailTactics
namespace Go.Proofs.YtbmejbmkaoekgaaGreatDoor
open Go Go.RowKit
set_option linter.unusedVariables false
set_option linter.unusedSimpArgs false

def GetPost (w : World) (b : List UInt8) (e : Ending) (w' : World) : Prop := ∃ v, e = .returned (.tuple #[v, .int .i64 0]) ∧ Bytes w' tByte v b ∧ Keep No w w'

set_option maxRecDepth 100000 in
set_option maxHeartbeats 1000000 in
theorem get_in (w : World) (lb d : Nat) (L : LogS) (G : List Nat) (i : Nat) (h : LogAt w lb d L G) (hf : L.fin < 9223372036854775808) (hi : i < L.recs.length) (hb : L.recs[i].length ≤ 140737488355328) :
    Calls Tryz.prog 18 #[ptr lb, .int .i64 ((L.first + i : Nat) : Int)] w (GetPost w L.recs[i]) := by
  have hen := Lib.hid (fun w h => end_go w lb d L G h hf)
  have hat := Lib.hid h
  obtain ⟨pv, rv, vs, h, -⟩ := h
  obtain ⟨v, hv, hvb⟩ := h.2.2.2.1.get hi
  have hcell : ∃ g c, rv = .slice (some ⟨g, 0, none⟩) L.recs.length c ∧ L.recs.length ≤ c ∧ c ≤ maxLen ∧ w.cell? ⟨g, i, none⟩ = some v := by
    rcases h.2.2.1.2 with ⟨_, e⟩ | ⟨g, cap, cur, rfl, _, h2, h3, h4, h5, h6⟩
    · omega
    · refine ⟨g, cap, rfl, h3, h4, ?_⟩
      simp only [World.cell?, h2]
      rw [← h6, List.getElem?_take, if_pos (by omega)] at hv
      simpa using hv
  obtain ⟨g, c, rfl, hc, hm, hcell⟩ := hcell
  obtain ⟨A, cc, rfl⟩ := hvb.form
  have Hvb := Lib.hid hvb
  have c4 := h.1.cell 4
  have c5 := h.1.cell 5
  simp only [List.getElem?_toArray, List.getElem?_cons_succ, List.getElem?_cons_zero] at c4 c5
  have hfin : L.fin = L.first + L.recs.length := rfl
  unfold maxLen at hm
  have hlo : decide (L.first + i < L.first) = false := by simp
  have hhi : decide (L.fin ≤ L.first + i) = false := by simp; omega
  have hw : IntKind.i64.wrap (((L.first + i : Nat) : Int) - (L.first : Int)) = (i : Int) := by rw [IntKind.wrap_i64]; omega
  clear h hv hvb hfin
  generalize hrec : L.recs[i] = r at *
  clear hrec
  generalize L.recs.length = m at *
  generalize L.fin = fn at *
  generalize hfi : L.first + i = x at *
  generalize L.first = fi at *
  clear hfi
  go_enter Tryz.func18, Tryz.ntmps18
  go_wp2_with fail
  refine (hen.out _ hat.out).mono ?_
  rintro e w1 ⟨rfl, q, hq⟩
  have c4' : w1.cell? ⟨lb, 4, none⟩ = w.cell? ⟨lb, 4, none⟩ := by rw [hq]; rfl
  have c5' : w1.cell? ⟨lb, 5, none⟩ = w.cell? ⟨lb, 5, none⟩ := by rw [hq]; rfl
  have hcell' : w1.cell? ⟨g, i, none⟩ = w.cell? ⟨g, i, none⟩ := by rw [hq]; rfl
  rw [c4] at c4'; rw [c5] at c5'; rw [hcell] at hcell'
  have Hk := Lib.hid (show Keep No w w1 by rw [hq]; exact (Keep.refl No w).drewN q)
  clear hq c4 c5 hcell hat hen
  go_wp2_with fail
  go_still_tail 12, (by kernel_rfl)
  obtain ⟨W, hW⟩ : ∃ W, w1.drew = W := ⟨_, rfl⟩
  change wpList _ _ _ _ _ w1.drew
  rw [hW]
  have HK := Lib.hid (show Keep No w W by rw [← hW]; exact Hk.out.drew)
  have HB := Lib.hid (Hvb.out.keep HK.out (NoBytes.no _ _))
  clear hW Hk Hvb c4' c5' hcell'
  go_wp2_with fail
  refine (clone_any _ r _ HB.out (by omega)).mono ?_
  rintro e w2 ⟨v2, rfl, hown, hk2⟩
  have Hown := Lib.hid hown; clear hown
  have HK2 := Lib.hid hk2; clear hk2
  go_wp2_with fail
  go_ret2
  exact ⟨v2, rfl, Bytes.own Hown.out (by unfold maxLen; omega), HK.out.trans HK2.out (fun _ f => f.elim)⟩

theorem oddW_plain {b : UInt8} (h : oddW b.toNat = false) : 33 ≤ b.toNat ∧ b.toNat ≤ 126 := by
  unfold oddW at h; simp at h; omega
theorem digits_plain (n : Nat) : Plain (Lib.decDigits n) := by
  induction n using Nat.strongRecOn with
  | ind n ih =>
    unfold Lib.decDigits
    split
    · rename_i h
      intro b hb; simp only [List.mem_singleton] at hb; subst hb
      simp only [UInt8.toNat_ofNat']; omega
    · rename_i h
      intro b hb
      rcases List.mem_append.1 hb with hb | hb
      · exact ih (n / 10) (by omega) b hb
      · simp only [List.mem_singleton] at hb; subst hb
        simp only [UInt8.toNat_ofNat']; omega
theorem file_plain {nm : List UInt8} (h : LogName nm) {n : Nat} (hn : n < 1000000000) : Plain (fileName nm n) ∧ fileName nm n ≠ [] ∧ (fileName nm n).length ≤ 32 := by
  refine ⟨?_, by simp [fileName], ?_⟩
  · intro b hb
    unfold fileName at hb
    rcases List.mem_append.1 hb with hb | hb
    · exact oddW_plain (h.plain b hb)
    · rcases List.mem_cons.1 hb with rfl | hb
      · decide
      · exact digits_plain n b hb
  · have := h.most
    have := digits_len n 9 (by decide) (by omega)
    simp [fileName]; omega

/-- What is asked of a log ahead of a call. -/
structure LogS.Ok (L : LogS) : Prop where
  name : LogName L.name
  frm : ∀ p ∈ L.parts, p.frm < 1000000000 ∧ p.many < 1000000000 ∧ p.size ≤ 4294967296
  fin : L.fin < 1000000000
  count : L.parts.length < 1000000000

def LogS.sync (L : LogS) (st : DiskS) : LogS × DiskS × Int :=
  match L.parts.getLast? with
  | none => (L, st, 0)
  | some p => if L.dirty then ({ L with dirty := (st.sync (fileName L.name p.frm)).2 != 0 }, (st.sync (fileName L.name p.frm)).1, (st.sync (fileName L.name p.frm)).2) else (L, st, 0)

/-- What a call on a log leaves. -/
def LogPost (w : World) (lb d : Nat) (F G : List Nat) (L' : LogS) (st' : DiskS) (v : Value) (e : Ending) (w' : World) : Prop :=
  e = .returned v ∧ ∃ F' G', DiskAt w' d st' F' ∧ LogAt w' lb d L' G' ∧ Keep (fun b => b ∈ F ∨ b ∈ G) w w' ∧ (∀ b ∈ F', b ∈ F ∨ w.heap.size ≤ b) ∧ (∀ b ∈ G', b ∈ G ∨ w.heap.size ≤ b)

theorem LogR.dirty {w : World} {lb d : Nat} {L : LogS} {pv rv : Value} {vs : List Value} (h : LogR w lb d L pv rv vs) (x : Bool) (h2 : ∀ b, pv.ownBlock = some b → b ≠ lb) (h3 : ∀ b, rv.ownBlock = some b → b ≠ lb) :
    LogR (w.setCell ⟨lb, 6, none⟩ (.bool x)) lb d { L with dirty := x } pv rv vs := by
  have k : Keep (· = lb) w (w.setCell ⟨lb, 6, none⟩ (.bool x)) := (Keep.refl (· = lb) w).setCell _ _ (fun _ => rfl)
  exact ⟨h.1.set 6 _, row_keep h.2.1 k h2, row_keep h.2.2.1 k h3, h.2.2.2.1.keep k (fun b hb => by subst hb; exact h.1.noBytes (by decide)), h.2.2.2.2⟩
theorem LogR.apart {w : World} {lb d : Nat} {L : LogS} {pv rv : Value} {vs : List Value} (h : LogR w lb d L pv rv vs) : (∀ b, pv.ownBlock = some b → b ≠ lb) ∧ (∀ b, rv.ownBlock = some b → b ≠ lb) ∧ ∀ b, pv.ownBlock = some b → rv.ownBlock ≠ some b := by
  have hl := h.1
  unfold Cells at hl
  refine ⟨?_, ?_, ?_⟩
  · rintro b hb rfl
    obtain ⟨_, cur, h2⟩ := row_kind h.2.1 hb
    rw [hl] at h2; injection h2 with h2; injection h2 with _ h2; revert h2; decide
  · rintro b hb rfl
    obtain ⟨_, cur, h2⟩ := row_kind h.2.2.1 hb
    rw [hl] at h2; injection h2 with h2; injection h2 with _ h2; revert h2; decide
  · rintro b hb hb'
    obtain ⟨_, cur, h2⟩ := row_kind h.2.1 hb
    obtain ⟨_, cur', h3⟩ := row_kind h.2.2.1 hb'
    rw [h2] at h3; injection h3 with h3; injection h3 with _ h3; revert h3; decide

/-- The last part, in memory. -/
theorem LogR.lastPart {w : World} {lb d : Nat} {L : LogS} {pv rv : Value} {vs : List Value} (h : LogR w lb d L pv rv vs) {p : PartS} (hp : L.parts.getLast? = some p) :
    ∃ g c n, L.parts.length = n + 1 ∧ pv = .slice (some ⟨g, 0, none⟩) (n + 1) c ∧ n + 1 ≤ c ∧ c ≤ maxLen ∧ ∃ cur, w.heap[g]? = some (.cells cur tPart (0, 0)) ∧ cur[n * 3]? = some (.int .i64 (p.frm : Nat)) ∧ cur[n * 3 + 1]? = some (.int .i64 (p.many : Nat)) ∧ cur[n * 3 + 2]? = some (.int .i64 (p.size : Nat)) := by
  obtain ⟨ps, hps⟩ : ∃ ps, L.parts = ps ++ [p] := by
    have hne : L.parts ≠ [] := by intro h0; rw [h0] at hp; cases hp
    rw [List.getLast?_eq_some_getLast hne] at hp; injection hp with hp
    exact ⟨L.parts.dropLast, by rw [← hp]; exact (List.dropLast_concat_getLast hne).symm⟩
  have hl : L.parts.length = ps.length + 1 := by rw [hps]; simp
  rcases h.2.1.2 with ⟨_, e⟩ | ⟨g, cap, cur, rfl, _, h2, h3, h4, h5, h6⟩
  · omega
  · have hfl : (ps.flatMap partV).length = ps.length * 3 := by
      clear hps h6 hl
      induction ps with
      | nil => rfl
      | cons a ps ih => rw [List.flatMap_cons, List.length_append, ih]; simp [partV]; omega
    have key : ∀ j, j < 3 → cur[ps.length * 3 + j]? = (partV p)[j]? := by
      intro j hj
      have : (cur.toList.take (L.parts.length * 3))[ps.length * 3 + j]? = (partV p)[j]? := by
        rw [h6, hps, List.flatMap_append, List.getElem?_append_right (by omega), hfl]
        simp
      rw [List.getElem?_take, if_pos (by omega)] at this
      simpa using this
    refine ⟨g, cap, ps.length, hl, by rw [hl], by omega, h4, cur, h2, ?_, ?_, ?_⟩
    · exact key 0 (by omega)
    · exact key 1 (by omega)
    · exact key 2 (by omega)
end Go.Proofs.YtbmejbmkaoekgaaGreatDoor
