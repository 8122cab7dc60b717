/- What holds between two rounds of load's range over frames. -/
import Derived.Test.YtbmejbmkaoekgaaGreatDoorNums
import Derived.Test.YtbmejbmkaoekgaaGreatDoorBridge
import Derived.Test.YtbmejbmkaoekgaaGreatDoorFrames
import Derived.Test.YtbmejbmkaoekgaaGreatDoorScan
namespace Go.Proofs.YtbmejbmkaoekgaaGreatDoor
open Go Go.RowKit
set_option linter.unusedVariables false
set_option linter.unusedSimpArgs false

structure LoadAt (lb d pb B3 B5 B6 : Nat) (L : LogS) (st : DiskS) (F : List Nat) (pv : Value) (last : Bool) (res : Int) (xs : List (List UInt8)) (s : Nat) (rv' : Value) (vs' : List Value) (W : World) : Prop where
  log : LogR W lb d { L with recs := L.recs ++ xs } pv rv' vs'
  disk : DiskAt W d st F
  part : Cells W pb tPart #[.int .i64 (L.fin : Nat), .int .i64 (xs.length : Nat), .int .i64 (s : Nat)]
  b3 : Cells W B3 28 #[ptr lb]
  b5 : Cells W B5 4 #[.bool last]
  b6 : Cells W B6 25 #[.int .i64 res]

theorem not_book {W : World} {b : Nat} {cs : Array Value} {t : TypeId} {fz : Nat × Nat} (h : W.heap[b]? = some (.cells cs t fz)) : ¬ IsBook W b := by
  rintro (⟨r, h'⟩ | ⟨d, h'⟩) <;> rw [h] at h' <;> cases h'

theorem disk_not_book {W : World} {d : Nat} {st : DiskS} {F : List Nat} (h : DiskAt W d st F) : ∀ b ∈ F, ¬ IsBook W b := by
  obtain ⟨fm, pv, pb, R, rfl, h2, h3, h4, h5, h6, h7, h8, h9⟩ := h
  intro b hb
  rcases List.mem_cons.1 hb with rfl | hb
  · exact not_book h3
  rcases List.mem_cons.1 hb with rfl | hb
  · obtain ⟨_, _, h5, _⟩ := h5; rintro (⟨r, h'⟩ | ⟨d, h'⟩) <;> rw [h5] at h' <;> cases h'
  rcases List.mem_append.1 hb with hb | hb
  · rcases h4 with ⟨_, _, rfl⟩ | ⟨pm, _, rfl, h⟩
    · cases hb
    · simp at hb; subst hb
      obtain ⟨_, _, h, _⟩ := h; rintro (⟨r, h'⟩ | ⟨d, h'⟩) <;> rw [h] at h' <;> cases h'
  · obtain ⟨r, hr, rfl⟩ := List.mem_map.1 hb
    obtain ⟨v, h, _⟩ := h6 r hr
    exact not_book h

/-- What is known of it behind any doing that turns Bx and book-keeping alone, where Bx holds no bytes. -/
theorem LoadAt.keep {lb d pb B3 B5 B6 : Nat} {L : LogS} {st : DiskS} {F : List Nat} {pv : Value} {last : Bool} {res : Int} {xs : List (List UInt8)} {s : Nat} {rv' : Value} {vs' : List Value} {W W' : World} {Bx : Nat}
    (h : LoadAt lb d pb B3 B5 B6 L st F pv last res xs s rv' vs' W) (k : Keep (fun b => b = Bx ∨ IsBook W b) W W') (h1 : lb ≠ Bx) (h2 : ∀ b, pv.ownBlock = some b → b ≠ Bx) (h3 : ∀ b, rv'.ownBlock = some b → b ≠ Bx) (h4 : ∀ b ∈ F, b ≠ Bx) (h5 : pb ≠ Bx) (h6 : B3 ≠ Bx) (h7 : B5 ≠ Bx) (h8 : B6 ≠ Bx)
    (h9 : ∀ c fz, W.heap[Bx]? ≠ some (.cells c tByte fz)) : LoadAt lb d pb B3 B5 B6 L st F pv last res xs s rv' vs' W' := by
  have hn : NoBytes W tByte (fun b => b = Bx ∨ IsBook W b) := by
    rintro b (e | e) c fz hc
    · subst e; exact h9 c fz hc
    · exact not_book hc e
  have hr : ∀ {b : Nat} {v : Value} {base n sz : Nat} {e : TypeId} {ys : List Value}, W.ownsRow base e sz v n ys → v.ownBlock = some b → ¬ IsBook W b := fun hrow hb => by
    obtain ⟨_, cur, hc⟩ := row_kind hrow hb; exact not_book hc
  refine ⟨h.log.keep k (fun q => q.elim h1 (not_book h.log.1)) (fun b hb q => q.elim (h2 b hb) (hr h.log.2.1 hb)) (fun b hb q => q.elim (h3 b hb) (hr h.log.2.2.1 hb)) hn, h.disk.keep k (fun b hb q => q.elim (h4 b hb) (disk_not_book h.disk b hb)) hn,
    h.part.keep k (fun q => q.elim h5 (not_book h.part)), h.b3.keep k (fun q => q.elim h6 (not_book h.b3)), h.b5.keep k (fun q => q.elim h7 (not_book h.b5)), h.b6.keep k (fun q => q.elim h8 (not_book h.b6))⟩

/-- All that stands between two rounds, seen from the loop's start w0. -/
structure LoadI (w0 : World) (lb d pb B3 B5 B6 Bx : Nat) (L : LogS) (st : DiskS) (F : List Nat) (pv rv : Value) (last : Bool) (res : Int) (bs rest : List UInt8) (xs : List (List UInt8)) (s : Nat) (rv' : Value) (vs' : List Value) (W : World) : Prop where
  at_ : LoadAt lb d pb B3 B5 B6 L st F pv last res xs s rv' vs' W
  scan : Scan bs xs s rest
  nb : ∀ c fz, W.heap[Bx]? ≠ some (.cells c tByte fz)
  own : rv'.ownBlock = rv.ownBlock ∨ ∀ b, rv'.ownBlock = some b → w0.heap.size ≤ b
  keep : Keep (fun b => b = lb ∨ b = pb ∨ b = B6 ∨ some b = rv.ownBlock ∨ b = Bx) w0 W

/-- The blocks of the loop are all distinct from the captured one. -/
structure Ne (w0 : World) (lb pb B3 B5 B6 Bx : Nat) (F : List Nat) (pv rv : Value) : Prop where
  lt : Bx < w0.heap.size
  pp : ∀ b, pv.ownBlock = some b → b ≠ pb
  lb : lb ≠ Bx
  pv : ∀ b, pv.ownBlock = some b → b ≠ Bx
  rv : ∀ b, rv.ownBlock = some b → b ≠ Bx
  F : ∀ b ∈ F, b ≠ Bx
  pb : pb ≠ Bx
  b3 : B3 ≠ Bx
  b5 : B5 ≠ Bx
  b6 : B6 ≠ Bx

section
variable {w0 : World} {lb d pb B3 B5 B6 Bx : Nat} {L : LogS} {st : DiskS} {F : List Nat} {pv rv : Value} {last : Bool} {res : Int} {bs rest : List UInt8} {xs : List (List UInt8)} {s : Nat} {rv' : Value} {vs' : List Value} {W W' : World}
theorem LoadI.step (h : LoadI w0 lb d pb B3 B5 B6 Bx L st F pv rv last res bs rest xs s rv' vs' W) (ne : Ne w0 lb pb B3 B5 B6 Bx F pv rv) (k : Keep (fun b => b = Bx ∨ (IsBook W b ∧ w0.heap.size ≤ b)) W W') (hb : ∀ c fz, W'.heap[Bx]? ≠ some (.cells c tByte fz)) :
    LoadI w0 lb d pb B3 B5 B6 Bx L st F pv rv last res bs rest xs s rv' vs' W' := by
  refine ⟨h.at_.keep (k.mono (fun b e _ => e.imp (fun e => e) (fun e => e.1))) ne.lb ne.pv (fun b hb' => ?_) ne.F ne.pb ne.b3 ne.b5 ne.b6 h.nb, h.scan, hb, h.own, h.keep.trans k ?_⟩
  · rcases h.own with e | e
    · exact ne.rv b (by rw [← e]; exact hb')
    · have := e b hb'; have := ne.lt; omega
  · rintro b (e | e) hl
    · exact .inr (.inr (.inr (.inr e)))
    · omega

theorem LoadI.abides (ne : Ne w0 lb pb B3 B5 B6 Bx F pv rv) (X : List (List UInt8) → Nat → Prop) :
    Abides w0.heap.size (TkF Bx) (fun W => ∃ xs s rv' vs', X xs s ∧ LoadI w0 lb d pb B3 B5 B6 Bx L st F pv rv last res bs rest xs s rv' vs' W) := by
  refine ⟨?_, ?_, ?_⟩
  · rintro W W' ⟨xs, s, rv', vs', hX, h⟩ ⟨k, hb⟩
    exact ⟨xs, s, rv', vs', hX, h.step ne (k.mono (fun b e _ => .inl e)) (hb h.nb)⟩
  · rintro W l r r1 hl hle ⟨xs, s, rv', vs', hX, h⟩
    have hk := keep_putObj (o' := .loop r1) hl
    by_cases hlB : l = Bx
    · exact ⟨xs, s, rv', vs', hX, h.step ne (hk.mono (fun b e _ => .inr (by subst e; exact ⟨.inl ⟨r, hl⟩, hle⟩))) (fun c fz e => by
        subst hlB
        rw [World.putObj_heap_same (Array.getElem?_eq_some_iff.1 hl).1] at e; cases e)⟩
    · exact ⟨xs, s, rv', vs', hX, h.step ne (hk.mono (fun b e _ => .inr (by subst e; exact ⟨.inl ⟨r, hl⟩, hle⟩))) (fun c fz e => h.nb c fz (by
        by_cases hs : Bx < W.heap.size
        · rw [hk.block Bx hs (fun e => hlB e.symm)] at e; exact e
        · have := ne.lt; have := h.keep.size; omega))⟩
  · rintro W W' ⟨xs, s, rv', vs', hX, h⟩ k
    exact ⟨xs, s, rv', vs', hX, h.step ne (k.mono (fun _ f _ => f.elim)) (fun c fz e => h.nb c fz (by
        have := ne.lt; have := h.keep.size
        rw [k.block Bx (by omega) (fun f => f)] at e; exact e))⟩

/-- How load leaves the range: by the label, or with an error. -/
def LoadX (w0 : World) (lb d pb B3 B5 B6 Bx : Nat) (L : LogS) (st : DiskS) (F : List Nat) (pv rv : Value) (last : Bool) (bs : List UInt8) (c : Code) (W : World) : Prop :=
  ∃ rest xs s rv' vs' res, ((c = .exit 0 ∧ last = true ∧ res = 0 ∧ (nextB rest).2.2 = 10) ∨ (c = .ret ∧ res = 34 ∧ ((nextB rest).2.2 = 34 ∨ (nextB rest).2.2 = 10 ∧ last = false))) ∧ rest ≠ [] ∧ LoadI w0 lb d pb B3 B5 B6 Bx L st F pv rv last res bs rest xs s rv' vs' W

theorem LoadX.abides (ne : Ne w0 lb pb B3 B5 B6 Bx F pv rv) (c : Code) : Abides w0.heap.size (TkF Bx) (LoadX w0 lb d pb B3 B5 B6 Bx L st F pv rv last bs c) := by
  refine ⟨?_, ?_, ?_⟩
  · rintro W W' ⟨rest, xs, s, rv', vs', res, hc, hr, h⟩ ht
    obtain ⟨xs', s', rv'', vs'', -, h'⟩ := (LoadI.abides (lb := lb) (d := d) ne (fun xs' s' => True)).tk W W' ⟨xs, s, rv', vs', trivial, h⟩ ht
    exact ⟨rest, xs', s', rv'', vs'', res, hc, hr, h'⟩
  · rintro W l r r1 hl hle ⟨rest, xs, s, rv', vs', res, hc, hr, h⟩
    obtain ⟨xs', s', rv'', vs'', -, h'⟩ := (LoadI.abides (lb := lb) (d := d) ne (fun xs' s' => True)).put W l r r1 hl hle ⟨xs, s, rv', vs', trivial, h⟩
    exact ⟨rest, xs', s', rv'', vs'', res, hc, hr, h'⟩
  · rintro W W' ⟨rest, xs, s, rv', vs', res, hc, hr, h⟩ k
    obtain ⟨xs', s', rv'', vs'', -, h'⟩ := (LoadI.abides (lb := lb) (d := d) ne (fun xs' s' => True)).new W W' ⟨xs, s, rv', vs', trivial, h⟩ k
    exact ⟨rest, xs', s', rv'', vs'', res, hc, hr, h'⟩

/-- The result's cell is another one. -/
theorem LoadI.setRes (h : LoadI w0 lb d pb B3 B5 B6 Bx L st F pv rv last res bs rest xs s rv' vs' W) (ne : Ne w0 lb pb B3 B5 B6 Bx F pv rv) (r : Int) :
    LoadI w0 lb d pb B3 B5 B6 Bx L st F pv rv last r bs rest xs s rv' vs' (W.setCell ⟨B6, 0, none⟩ (.int .i64 r)) ∧ Keep (· = B6) W (W.setCell ⟨B6, 0, none⟩ (.int .i64 r)) := by
  have k : Keep (· = B6) W (W.setCell ⟨B6, 0, none⟩ (.int .i64 r)) := (Keep.refl _ W).setCell _ _ (fun _ => rfl)
  have hn : NoBytes W tByte (· = B6) := fun k hk => by subst hk; exact h.at_.b6.noBytes (by decide)
  have hr : ∀ {b : Nat} {v : Value} {base n sz : Nat} {e : TypeId} {ys : List Value}, W.ownsRow base e sz v n ys → e ≠ 25 → v.ownBlock = some b → b ≠ B6 := fun hrow hne hb e => by
    subst e
    obtain ⟨_, cur, hc⟩ := row_kind hrow hb
    exact Cells.ne (w := W) hc h.at_.b6 hne rfl
  refine ⟨⟨⟨h.at_.log.keep k (Cells.ne h.at_.log.1 h.at_.b6 (by decide)) (fun b hb => hr h.at_.log.2.1 (by decide) hb) (fun b hb => hr h.at_.log.2.2.1 (by decide) hb) hn, h.at_.disk.keep k (fun b hb e => by
      subst e
      rcases h.at_.disk.kinds b hb _ _ _ h.at_.b6 with e | e <;> cases e) hn,
    h.at_.part.keep k (Cells.ne h.at_.part h.at_.b6 (by decide)), h.at_.b3.keep k (Cells.ne h.at_.b3 h.at_.b6 (by decide)), h.at_.b5.keep k (Cells.ne h.at_.b5 h.at_.b6 (by decide)), h.at_.b6.set 0 _⟩,
    h.scan, fun c fz e => h.nb c fz ?_, h.own, h.keep.trans k (fun b e _ => .inr (.inr (.inl e)))⟩, k⟩
  have hl : Bx < W.heap.size := Nat.lt_of_lt_of_le ne.lt h.keep.size
  rw [k.block Bx hl (fun e => ne.b6 e.symm)] at e
  exact e

/-- One more record. -/
theorem LoadI.more {W2 : World} {v rv2 : Value} (h : LoadI w0 lb d pb B3 B5 B6 Bx L st F pv rv last res bs rest xs s rv' vs' W) (ne : Ne w0 lb pb B3 B5 B6 Bx F pv rv) (hne : rest ≠ []) (h0 : (nextB rest).2.2 = 0)
    (kk : Keep (fun b => some b = rv'.ownBlock) W W2) (hb : Bytes W2 tByte v (nextB rest).1) (hown : W2.ownsRow NG tBytes 1 rv2 (L.recs.length + xs.length + 1) (vs' ++ [v])) (hgg : rv2.ownBlock = rv'.ownBlock ∨ ∀ b, rv2.ownBlock = some b → W.heap.size ≤ b) :
    LoadI w0 lb d pb B3 B5 B6 Bx L st F pv rv last res bs (rest.drop (nextB rest).2.1) (xs ++ [(nextB rest).1]) (s + (nextB rest).2.1) rv2 (vs' ++ [v])
      (((W2.setCell ⟨lb, 4, none⟩ rv2).setCell ⟨pb, 1, none⟩ (.int .i64 ((xs.length + 1 : Nat) : Int))).setCell ⟨pb, 2, none⟩ (.int .i64 ((s + (nextB rest).2.1 : Nat) : Int))) ∧
    KpF Bx W (((W2.setCell ⟨lb, 4, none⟩ rv2).setCell ⟨pb, 1, none⟩ (.int .i64 ((xs.length + 1 : Nat) : Int))).setCell ⟨pb, 2, none⟩ (.int .i64 ((s + (nextB rest).2.1 : Nat) : Int))) ∧
    Keep (fun b => b = lb ∨ b = pb ∨ some b = rv'.ownBlock) W (((W2.setCell ⟨lb, 4, none⟩ rv2).setCell ⟨pb, 1, none⟩ (.int .i64 ((xs.length + 1 : Nat) : Int))).setCell ⟨pb, 2, none⟩ (.int .i64 ((s + (nextB rest).2.1 : Nat) : Int))) := by
  obtain ⟨hl1, k1⟩ := h.at_.log.addRec kk v _ hb (by simpa using hown) hgg
  obtain ⟨W4, hW4⟩ : ∃ W4, ((W2.setCell ⟨lb, 4, none⟩ rv2).setCell ⟨pb, 1, none⟩ (.int .i64 ((xs.length + 1 : Nat) : Int))).setCell ⟨pb, 2, none⟩ (.int .i64 ((s + (nextB rest).2.1 : Nat) : Int)) = W4 := ⟨_, rfl⟩
  have k2 : Keep (· = pb) (W2.setCell ⟨lb, 4, none⟩ rv2) W4 := by rw [← hW4]; exact ((Keep.refl (· = pb) _).setCell ⟨pb, 1, none⟩ _ (fun _ => rfl)).setCell ⟨pb, 2, none⟩ _ (fun _ => rfl)
  have hrt : ∀ {b : Nat}, rv'.ownBlock = some b → ∃ cur, W.heap[b]? = some (.cells cur tBytes (0, 0)) := fun hb => (row_kind h.at_.log.2.2.1 hb).2
  have plb : lb ≠ pb := Cells.ne h.at_.log.1 h.at_.part (by decide)
  have prv : ∀ b, rv'.ownBlock = some b → b ≠ pb := fun b hb e => by
    subst e; obtain ⟨cur, hc⟩ := hrt hb; exact Cells.ne (w := W) hc h.at_.part (by decide) rfl
  have hpart : Cells (W2.setCell ⟨lb, 4, none⟩ rv2) pb tPart #[.int .i64 (L.fin : Nat), .int .i64 (xs.length : Nat), .int .i64 (s : Nat)] := h.at_.part.keep k1 (fun e => e.elim (fun e => plb e.symm) (fun e => prv pb e.symm rfl))
  have hn2 : NoBytes (W2.setCell ⟨lb, 4, none⟩ rv2) tByte (· = pb) := fun k hk => by subst hk; exact hpart.noBytes (by decide)
  have hlp : pb < W.heap.size := h.at_.part.lt
  have hl2 := hl1.keep k2 plb (fun b hb => ne.pp b hb) (fun b hb e => by
    rcases hgg with q | q
    · exact prv b (by rw [← q]; exact hb) e
    · have := q b hb; omega) hn2
  have kall : Keep (fun b => b = lb ∨ b = pb ∨ some b = rv'.ownBlock) W W4 := (k1.mono (fun b e _ => e.elim .inl (fun e => .inr (.inr e)))).trans k2 (fun b e _ => .inr (.inl e))
  have hnall : NoBytes W tByte (fun b => b = lb ∨ b = pb ∨ some b = rv'.ownBlock) := by
    rintro b (e | e | e) c fz
    · subst e; exact h.at_.log.1.noBytes (by decide) c fz
    · subst e; exact h.at_.part.noBytes (by decide) c fz
    · exact row_noBytes h.at_.log.2.2.1 (by decide) b e c fz
  have off : ∀ {b : Nat} {t : TypeId} {cs : Array Value}, Cells W b t cs → t ≠ tLog → t ≠ tPart → t ≠ tBytes → ¬ (b = lb ∨ b = pb ∨ some b = rv'.ownBlock) := by
    rintro b t cs hc e1 e2 e3 (e | e | e)
    · subst e; exact Cells.ne hc h.at_.log.1 e1 rfl
    · subst e; exact Cells.ne hc h.at_.part e2 rfl
    · obtain ⟨cur, hcur⟩ := hrt e.symm
      exact Cells.ne (w := W) hc hcur e3 rfl
  have offF : ∀ b ∈ F, ¬ (b = lb ∨ b = pb ∨ some b = rv'.ownBlock) := by
    rintro b hb (e | e | e)
    · subst e; rcases h.at_.disk.kinds b hb _ _ _ h.at_.log.1 with e | e <;> cases e
    · subst e; rcases h.at_.disk.kinds b hb _ _ _ h.at_.part with e | e <;> cases e
    · obtain ⟨cur, hcur⟩ := hrt e.symm
      rcases h.at_.disk.kinds b hb _ _ _ hcur with e | e <;> cases e
  have hBx : Bx < W.heap.size := Nat.lt_of_lt_of_le ne.lt h.keep.size
  have rvBx : ∀ b, rv'.ownBlock = some b → b ≠ Bx := fun b hb e => by
    rcases h.own with q | q
    · exact ne.rv b (by rw [← q]; exact hb) e
    · have := q b hb; have := ne.lt; omega
  have offB : ¬ (Bx = lb ∨ Bx = pb ∨ some Bx = rv'.ownBlock) := by
    rintro (e | e | e)
    · exact ne.lb e.symm
    · exact ne.pb e.symm
    · exact rvBx Bx e.symm rfl
  rw [hW4]
  refine ⟨⟨⟨?_, h.at_.disk.keep kall offF hnall, ?_, h.at_.b3.keep kall (off h.at_.b3 (by decide) (by decide) (by decide)), h.at_.b5.keep kall (off h.at_.b5 (by decide) (by decide) (by decide)), h.at_.b6.keep kall (off h.at_.b6 (by decide) (by decide) (by decide))⟩,
    h.scan.snoc hne h0, fun c fz e => h.nb c fz ?_, ?_, h.keep.trans kall ?_⟩, kall.mono (fun b e _ => ?_), kall⟩
  · have e : ({ L with recs := L.recs ++ (xs ++ [(nextB rest).1]) } : LogS) = { L with recs := (L.recs ++ xs) ++ [(nextB rest).1] } := by rw [List.append_assoc]
    rw [e]; exact hl2
  · rw [← hW4]
    have := (hpart.set 1 (.int .i64 ((xs.length + 1 : Nat) : Int))).set 2 (.int .i64 ((s + (nextB rest).2.1 : Nat) : Int))
    simpa using this
  · rw [kall.block Bx hBx offB] at e; exact e
  · rcases hgg with q | q
    · rw [q]; exact h.own
    · exact .inr (fun b hb => Nat.le_trans h.keep.size (q b hb))
  · rintro b (e | e | e) hl
    · exact .inl e
    · exact .inr (.inl e)
    · rcases h.own with q | q
      · exact .inr (.inr (.inr (.inl (by rw [← q]; exact e))))
      · have := q b e.symm; omega
  · refine ⟨fun q => offB (by subst q; exact e), fun c fz => hnall b e c fz⟩
end
end Go.Proofs.YtbmejbmkaoekgaaGreatDoor
