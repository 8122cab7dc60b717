/- What a log is behind a new part, a new record, another last part. -/
import Derived.Test.YtbmejbmkaoekgaaGreatDoorLog3
namespace Go.Proofs.YtbmejbmkaoekgaaGreatDoor
open Go Go.RowKit
set_option linter.unusedVariables false
set_option linter.unusedSimpArgs false

section
variable {w Y w6 : World} {lb d : Nat} {L : LogS} {pv rv pv' rv' : Value} {vs : List Value}

theorem row_noBytes {base size n : Nat} {e : TypeId} {v : Value} {xs : List Value} (h : w.ownsRow base e size v n xs) (hne : e ≠ tByte) : NoBytes w tByte (fun b => some b = v.ownBlock) := by
  intro b hb c fz hc
  obtain ⟨_, cur, h2⟩ := row_kind h hb.symm
  rw [h2] at hc; injection hc with hc; injection hc with _ hc; exact hne hc

theorem LogR.addPart (h : LogR Y lb d L pv rv vs) (kk : Keep (fun b => some b = pv.ownBlock) Y w6) (p : PartS)
    (hown : w6.ownsRow NG tPart 3 pv' (L.parts.length + 1) (L.parts.flatMap partV ++ partV p)) (hgg : pv'.ownBlock = pv.ownBlock ∨ ∀ b, pv'.ownBlock = some b → Y.heap.size ≤ b) :
    LogR (w6.setCell ⟨lb, 3, none⟩ pv') lb d { L with parts := L.parts ++ [p] } pv' rv vs ∧ Keep (fun b => b = lb ∨ some b = pv.ownBlock) Y (w6.setCell ⟨lb, 3, none⟩ pv') := by
  obtain ⟨a1, a2, a3⟩ := h.apart
  have k2 : Keep (fun b => b = lb ∨ some b = pv.ownBlock) Y (w6.setCell ⟨lb, 3, none⟩ pv') := (kk.mono (fun b hb _ => .inr hb)).setCell _ _ (fun _ => .inl rfl)
  have ks : Keep (· = lb) w6 (w6.setCell ⟨lb, 3, none⟩ pv') := (Keep.refl (· = lb) w6).setCell _ _ (fun _ => rfl)
  have hc6 := h.1.keep kk (fun e => a1 lb e.symm rfl)
  refine ⟨⟨hc6.set 3 _, ?_, row_keep h.2.2.1 k2 ?_, h.2.2.2.1.keep k2 ?_, h.2.2.2.2⟩, k2⟩
  · have := row_keep hown ks (fun b hb e => by
      subst e
      rcases hgg with e | e
      · rw [e] at hb; exact a1 _ hb rfl
      · have := e _ hb; have := h.1.lt; omega)
    simpa [List.flatMap_append] using this
  · rintro b hb (e | e)
    · exact a2 b hb e
    · exact a3 b e.symm hb
  · rintro b (e | e)
    · subst e; exact h.1.noBytes (by decide)
    · exact row_noBytes h.2.1 (by decide) b e

theorem LogR.addRec (h : LogR Y lb d L pv rv vs) (kk : Keep (fun b => some b = rv.ownBlock) Y w6) (v : Value) (b : List UInt8) (hb : Bytes w6 tByte v b)
    (hown : w6.ownsRow NG tBytes 1 rv' (L.recs.length + 1) (vs ++ [v])) (hgg : rv'.ownBlock = rv.ownBlock ∨ ∀ b, rv'.ownBlock = some b → Y.heap.size ≤ b) :
    LogR (w6.setCell ⟨lb, 4, none⟩ rv') lb d { L with recs := L.recs ++ [b] } pv rv' (vs ++ [v]) ∧ Keep (fun b => b = lb ∨ some b = rv.ownBlock) Y (w6.setCell ⟨lb, 4, none⟩ rv') := by
  obtain ⟨a1, a2, a3⟩ := h.apart
  have k2 : Keep (fun b => b = lb ∨ some b = rv.ownBlock) Y (w6.setCell ⟨lb, 4, none⟩ rv') := (kk.mono (fun b hb _ => .inr hb)).setCell _ _ (fun _ => .inl rfl)
  have ks : Keep (· = lb) w6 (w6.setCell ⟨lb, 4, none⟩ rv') := (Keep.refl (· = lb) w6).setCell _ _ (fun _ => rfl)
  have hc6 := h.1.keep kk (fun e => a2 lb e.symm rfl)
  have hkn : NoBytes w6 tByte (· = lb) := fun k hk => by subst hk; exact hc6.noBytes (by decide)
  refine ⟨⟨hc6.set 4 _, row_keep h.2.1 k2 ?_, ?_, (h.2.2.2.1.keep k2 ?_).snoc (hb.keep ks hkn), h.2.2.2.2⟩, k2⟩
  · rintro b hb (e | e)
    · exact a1 b hb e
    · exact a3 b hb e.symm
  · have := row_keep hown ks (fun b hb e => by
      subst e
      rcases hgg with e | e
      · rw [e] at hb; exact a2 _ hb rfl
      · have := e _ hb; have := h.1.lt; omega)
    simpa using this
  · rintro b (e | e)
    · subst e; exact h.1.noBytes (by decide)
    · exact row_noBytes h.2.2.1 (by decide) b e

theorem LogR.setDirty (h : LogR Y lb d L pv rv vs) (x : Bool) : LogR (Y.setCell ⟨lb, 6, none⟩ (.bool x)) lb d { L with dirty := x } pv rv vs ∧ Keep (· = lb) Y (Y.setCell ⟨lb, 6, none⟩ (.bool x)) :=
  ⟨h.dirty x h.apart.1 h.apart.2.1, (Keep.refl (· = lb) Y).setCell _ _ (fun _ => rfl)⟩

/-- Other numbers in the last part. -/
theorem LogR.turnLast (h : LogR Y lb d L pv rv vs) {ps : List PartS} {p p' : PartS} (hps : L.parts = ps ++ [p]) {g c : Nat} (hpv : pv = .slice (some ⟨g, 0, none⟩) (ps.length + 1) c) {cur : Array Value} (hcur : Y.heap[g]? = some (.cells cur tPart (0, 0)))
    (k : Keep (· = g) Y w6) (hw : w6.heap[g]? = some (.cells (((cur.setIfInBounds (ps.length * 3) (.int .i64 (p'.frm : Nat))).setIfInBounds (ps.length * 3 + 1) (.int .i64 (p'.many : Nat))).setIfInBounds (ps.length * 3 + 2) (.int .i64 (p'.size : Nat))) tPart (0, 0))) :
    LogR w6 lb d { L with parts := ps ++ [p'] } pv rv vs := by
  obtain ⟨a1, a2, a3⟩ := h.apart
  subst hpv
  have hgl : g ≠ lb := a1 g rfl
  refine ⟨h.1.keep k (fun e => hgl e.symm), ?_, row_keep h.2.2.1 k (fun b hb e => by subst e; exact a3 _ rfl hb), h.2.2.2.1.keep k (fun b hb => by
    subst hb; intro c' fz hc'; rw [hcur] at hc'; injection hc' with hc'; injection hc' with _ hc'; revert hc'; decide), h.2.2.2.2⟩
  have h3 := h.2.1
  have hfl : ∀ l : List PartS, (l.flatMap partV).length = l.length * 3 := by
    intro l
    induction l with
    | nil => rfl
    | cons a ps ih => rw [List.flatMap_cons, List.length_append, ih]; simp [partV]; omega
  refine ⟨by rw [hfl], .inr ?_⟩
  rcases h3.2 with ⟨e, _⟩ | ⟨g', cap, cur', e, hb, h2, h4, h5, h6, h7⟩
  · cases e
  · injection e with e1 e2 e3
    injection e1 with e1; injection e1 with e1
    subst e1; subst e3
    rw [hcur] at h2
    injection h2 with h2; injection h2 with h2
    subst h2
    have hlen : L.parts.length = ps.length + 1 := by rw [hps]; simp
    rw [hlen] at h4 h7
    refine ⟨g, c, _, by simp, hb, hw, by simpa using h4, h5, by simp [h6], ?_⟩
    apply List.ext_getElem?
    intro i
    rw [hps] at h7
    simp only [List.length_append, List.length_cons, List.length_nil, List.flatMap_append, List.flatMap_cons, List.flatMap_nil, List.append_nil, Nat.zero_add] at h7 ⊢
    have h7i : (cur.toList.take ((ps.length + 1) * 3))[i]? = (ps.flatMap partV ++ partV p)[i]? := by rw [h7]
    rw [List.getElem?_take] at h7i ⊢
    by_cases hi : i < (ps.length + 1) * 3
    · rw [if_pos hi] at h7i ⊢
      by_cases hi3 : i < ps.length * 3
      · rw [List.getElem?_append_left (by rw [hfl]; omega)] at h7i ⊢
        rw [← h7i]
        simp only [Array.getElem?_toList, Array.getElem?_setIfInBounds]
        rw [if_neg (by omega), if_neg (by omega), if_neg (by omega)]
      · rw [List.getElem?_append_right (by rw [hfl]; omega), hfl]
        have hsz : (ps.length + 1) * 3 ≤ cur.size := by rw [h6]; exact Nat.mul_le_mul_right 3 h4
        obtain ⟨j, rfl⟩ : ∃ j, i = ps.length * 3 + j := ⟨i - ps.length * 3, by omega⟩
        have hj : j = 0 ∨ j = 1 ∨ j = 2 := by omega
        rw [Nat.add_sub_cancel_left]
        rcases hj with rfl | rfl | rfl
        · simp only [Array.getElem?_toList, Array.getElem?_setIfInBounds, partV]
          rw [if_neg (by omega), if_neg (by omega), if_pos (by omega), if_pos (by omega)]; rfl
        · have : ps.length * 3 + 1 < cur.size := by omega
          simp [Array.getElem?_setIfInBounds, partV, this]
        · have : ps.length * 3 + 2 < cur.size := by omega
          simp [Array.getElem?_setIfInBounds, partV, this]
    · rw [if_neg hi]
      rw [List.getElem?_eq_none (by rw [List.length_append, hfl]; simp [partV]; omega)]
end
end Go.Proofs.YtbmejbmkaoekgaaGreatDoor
