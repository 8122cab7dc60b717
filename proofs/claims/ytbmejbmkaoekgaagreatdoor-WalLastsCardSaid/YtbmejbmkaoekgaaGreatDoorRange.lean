/- A range over a function whose iterator keeps a state of its own in a captured variable: the law for the caller. -/
import Derived.Test.YtbmejbmkaoekgaaGreatDoorBase
import Derived.RangeFuncNested
import Derived.RangeFuncCalls
import Derived.TacticsInMore
namespace Go.Proofs.YtbmejbmkaoekgaaGreatDoor
open Go Go.RowKit
set_option linter.unusedVariables false
set_option linter.unusedSimpArgs false

/-- A block of the loop's own book-keeping. -/
def IsBook (W : World) (b : Nat) : Prop := (∃ r, W.heap[b]? = some (.loop r)) ∨ ∃ d, W.heap[b]? = some (.deferred d)

/-- I abides what the iterator itself does (Tk), a turn of a loop's record, and new blocks. -/
structure Abides (base : Nat) (Tk : World → World → Prop) (I : World → Prop) : Prop where
  tk : ∀ W W', I W → Tk W W' → I W'
  put : ∀ (W : World) (l : Nat) (r r1 : Loop), W.heap[l]? = some (.loop r) → base ≤ l → I W → I (W.putObj l (.loop r1))
  new : ∀ W W', I W → Keep No W W' → I W'

theorem keep_putObj {W : World} {l : Nat} {o o' : Obj} (h : W.heap[l]? = some o) : Keep (· = l) W (W.putObj l o') :=
  ⟨rfl, rfl, rfl, by simp, fun b _ hne => World.putObj_heap_other hne⟩

variable {F : Fence} {n : Nat} {P : Program}

/-- How a body may leave a round. -/
def roundEnd {σ : Type} (Kp : World → World → Prop) (good : Prop) (I : σ → World → Prop) (Ix : Code → World → Prop) (s' : σ) (l D : Nat) (W : World) : Exit → Act → World → Prop
  | .normal, _, W' => good ∧ W'.heap[l]? = W.heap[l]? ∧ W'.heap[D]? = W.heap[D]? ∧ Kp W W' ∧ I s' W'
  | .ret, _, W' => W'.heap[l]? = W.heap[l]? ∧ W'.heap[D]? = W.heap[D]? ∧ Ix .ret W'
  | .exit id, _, W' => W'.heap[l]? = W.heap[l]? ∧ W'.heap[D]? = W.heap[D]? ∧ Ix (.exit id) W'
  | .goto t, _, W' => W'.heap[l]? = W.heap[l]? ∧ W'.heap[D]? = W.heap[D]? ∧ Ix (.goto t) W'
  | .panic _, _, _ => False
  | .outgrown, _, _ => False

/-- What an iterator gives: it goes from state to state, by elements that `ok` lets in. T: what it may turn itself; Kp: what it wants a round to keep. -/
def IterGives {σ α : Type} (F : Fence) (n : Nat) (P : Program) (gf : Nat) (lb : Array Value) (encs : α → Array Value) (Tk : World → World → Prop) (Kp : World → World → Prop) (ok : σ → α → World → Prop) (good : σ → α → Prop) (next : σ → α → σ) (fin : σ → Prop) (s0 : σ) (w : World) : Prop :=
  ∀ (l : Nat) (J : σ → World → Prop) (Jx : World → Prop) (W : World), Keep No w W → (∀ s W W', J s W → Tk W W' → J s W') → (∀ W W', Jx W → Tk W W' → Jx W') →
    (∀ s x W, J s W → ok s x W → YieldAt F (n - 1) P l (encs x) W fun e W' => (e = .returned (.bool true) ∧ good s x ∧ J (next s x) W' ∧ Kp W W') ∨ (e = .returned (.bool false) ∧ Jx W')) →
    J s0 W → CallsIn F n P gf (#[.func (.yield l) #[] #[]] ++ lb) W fun e W' => (∃ v, e = .returned v) ∧ ((∃ s, fin s ∧ J s W') ∨ Jx W')

theorem wpIn_rangeFunc_state {σ α : Type} {g : Operand} {ps : Array Tmp} {assign body : Code} {Q : Exit → Act → World → Prop} {a : Act} {w : World}
    (hro : F.round = none) (h1 : 1 ≤ n) {gf : Nat} {lb : Array Value} (hg : a.eval g = .func (.func gf) #[] lb) (hFg : F.fn gf) (eg : ∀ args w, (callFunc gf args).run P w = .ok (.enter gf args) w)
    {encs : α → Array Value} {Tk : World → World → Prop} {Kp : World → World → Prop} {ok : σ → α → World → Prop} {good : σ → α → Prop} {next : σ → α → σ} {fin : σ → Prop} {s0 : σ} (hseq : IterGives F (n - 1) P gf lb encs Tk Kp ok good next fin s0 w)
    (hT : ∀ (W W' : World) (b : Nat), Tk W W' → w.heap.size ≤ b → b < W.heap.size → W'.heap[b]? = W.heap[b]?)
    (hKt : ∀ {A B C : World}, Kp A B → Kp B C → Kp A C) (hKb : ∀ (W : World) (l : Nat) (r : Loop) (o' : Obj), W.heap[l]? = some (.loop r) → w.heap.size ≤ l → Kp W (W.putObj l o')) (hps : ∀ x, (encs x).size = ps.size)
    (hok : ∀ s x (W : World) (l : Nat) (r : Loop) (o' : Obj), W.heap[l]? = some (.loop r) → ok s x W → ok s x (W.putObj l o'))
    (I : σ → World → Prop) (Ix : Code → World → Prop) (hI : ∀ s, Abides w.heap.size Tk (I s)) (hIx : ∀ c, Abides w.heap.size Tk (Ix c)) (h0 : I s0 w) (a₁ : α → Act)
    (hassign : ∀ (l : Nat) (x : α) (W : World) (K : Act → World → Prop), K (a₁ x) W →
      assign.wpIn (F.inRound l) (n - 1 - 1) P (Exit.then K (fun _ _ _ => False)) { tmps := (ps.zip (encs x)).foldl (fun t (p, v) => t.setIfInBounds p v) a.tmps, defers := [] } W)
    (hbody : ∀ (l D : Nat) (s : σ) (x : α) (W : World) (r : Loop) (d : Option (List Deferred)), W.heap[l]? = some (.loop r) → W.heap[D]? = some (.deferred d) → w.heap.size ≤ l → w.heap.size ≤ D → I s W → ok s x W → body.wpIn (F.inRound l) (n - 1 - 1) P (roundEnd Kp (good s x) I Ix (next s x) l D W) (a₁ x) W)
    (hdone : ∀ (D : Nat) (s : σ) (W : World), fin s → I s W → w.heap.size ≤ D → W.heap[D]? = some (.deferred (some [])) → Q .normal { a with defers := { target := .collected D, args := #[] } :: a.defers } W)
    (hstop : ∀ (D : Nat) (c : Code) (W : World), Ix c W → w.heap.size ≤ D → W.heap[D]? = some (.deferred (some [])) → c.wpIn F n P Q { a with defers := { target := .collected D, args := #[] } :: a.defers } W) :
    (Code.rangeFunc g ps assign body).wpIn F n P Q a w := by
  refine wpIn_rangeFunc ?_
  intro fn hfn
  rw [hro]
  obtain ⟨rec, hrec⟩ : ∃ rec : LoopState → Option Code → Loop, rec = fun st pe => { state := st, pending := pe, fn, tmps := a.tmps, params := ps, assign, body, defers := w.heap.size } := ⟨_, rfl⟩
  obtain ⟨W1, hW1⟩ : ∃ W1, (w.alloc (.deferred (some []))).alloc (.loop (rec .ready none)) = W1 := ⟨_, rfl⟩
  have hL1 : W1.heap[w.heap.size + 1]? = some (.loop (rec .ready none)) := by
    rw [← hW1]; have := World.alloc_heap_new (w.alloc (.deferred (some []))) (.loop (rec .ready none)); rwa [World.size_alloc] at this
  have hK1 : W1.heap[w.heap.size]? = some (.deferred (some [])) := by
    rw [← hW1]; exact (Below.heap_alloc _ _ _ (by simp)).trans (World.alloc_heap_new w _)
  have hkw : Keep No w W1 := by rw [← hW1]; exact ((Keep.refl No w).alloc _).alloc _
  have hI1 : I s0 W1 := (hI s0).new w W1 h0 hkw
  refine ⟨w.heap.size + 1, [{ target := .collected w.heap.size, args := #[] }], W1, { target := .fn (.func gf) lb, args := #[.func (.yield (w.heap.size + 1)) #[] #[]] }, W1, gf,
    #[.func (.yield (w.heap.size + 1)) #[] #[]] ++ lb, W1, ?_, ?_, ?_, ?_, fun _ => h1, ?_⟩
  · rw [← hW1, hrec]; exact run_enterLoop_outer _ _ _ _ _
  · simp only [resolve, hg]
    simp [go_sem]
  · intro f' hf'; simp [Target.leads] at hf'; subst hf'; exact hFg
  · simp [invoke, go_sem, eg]
  · refine (hseq (w.heap.size + 1)
      (fun s W => I s W ∧ W.heap[w.heap.size + 1]? = some (.loop (rec .ready none)) ∧ W.heap[w.heap.size]? = some (.deferred (some [])))
      (fun W => ∃ c, Ix c W ∧ W.heap[w.heap.size + 1]? = some (.loop (rec .done (some c))) ∧ W.heap[w.heap.size]? = some (.deferred (some [])))
      W1 hkw ?_ ?_ ?_ ⟨hI1, hL1, hK1⟩).mono ?_
    · rintro s W W' ⟨hi, hl, hk⟩ hkk
      exact ⟨(hI s).tk W W' hi hkk, (hT W W' _ hkk (by omega) (Array.getElem?_eq_some_iff.1 hl).1).trans hl, (hT W W' _ hkk (Nat.le_refl _) (Array.getElem?_eq_some_iff.1 hk).1).trans hk⟩
    · rintro W W' ⟨c, hi, hl, hk⟩ hkk
      exact ⟨c, (hIx c).tk W W' hi hkk, (hT W W' _ hkk (by omega) (Array.getElem?_eq_some_iff.1 hl).1).trans hl, (hT W W' _ hkk (Nat.le_refl _) (Array.getElem?_eq_some_iff.1 hk).1).trans hk⟩
    · -- one round
      rintro s x W ⟨hi, hl, hk⟩ hokx
      have hlt : w.heap.size + 1 < W.heap.size := (Array.getElem?_eq_some_iff.1 hl).1
      have hy := run_yield (P := P) (args := encs x) hl (by rw [hrec]; exact hps x)
      rw [hrec] at hy
      refine ⟨fn, _, assign, body, hy, roundIn_of_wpIn hfn (hassign _ x W _ ⟨_, run_beginRound hl (by rw [hrec]), ?_⟩)⟩
      have hl2 : (W.putObj (w.heap.size + 1) (.loop { rec .ready none with state := .busy })).heap[w.heap.size + 1]? = some (.loop { rec .ready none with state := .busy }) := World.putObj_heap_same hlt
      have hk2 : (W.putObj (w.heap.size + 1) (.loop { rec .ready none with state := .busy })).heap[w.heap.size]? = some (.deferred (some [])) := (World.putObj_heap_other (by omega)).trans hk
      have hw2 : Kp W (W.putObj (w.heap.size + 1) (.loop { rec .ready none with state := .busy })) := hKb _ _ _ _ hl (by omega)
      refine wpIn_mono (hbody (w.heap.size + 1) w.heap.size s x _ _ _ hl2 hk2 (by omega) (Nat.le_refl _) ((hI s).put _ _ _ _ hl (by omega) hi) (hok _ _ _ _ _ _ hl hokx)) ?_
      have fin' : ∀ (jump : Option Code) (W3 : World), W3.heap[w.heap.size + 1]? = (W.putObj (w.heap.size + 1) (.loop { rec .ready none with state := .busy })).heap[w.heap.size + 1]? → W3.heap[w.heap.size]? = (W.putObj (w.heap.size + 1) (.loop { rec .ready none with state := .busy })).heap[w.heap.size]? →
          (Instr.endRound (w.heap.size + 1) jump).run P W3 = .ok (.bool jump.isNone) (W3.putObj (w.heap.size + 1) (.loop (rec (if jump.isNone then .ready else .done) jump))) ∧
          W3.heap[w.heap.size + 1]? = some (.loop { rec .ready none with state := .busy }) ∧
          (W3.putObj (w.heap.size + 1) (.loop (rec (if jump.isNone then .ready else .done) jump))).heap[w.heap.size + 1]? = some (.loop (rec (if jump.isNone then .ready else .done) jump)) ∧
          (W3.putObj (w.heap.size + 1) (.loop (rec (if jump.isNone then .ready else .done) jump))).heap[w.heap.size]? = some (.deferred (some [])) := fun jump W3 h3 h4 => by
        have hl3 := h3.trans hl2
        have := run_endRound (P := P) jump hl3
        rw [hrec] at this ⊢
        exact ⟨this, by rw [hrec] at hl3; exact hl3, World.putObj_heap_same (Array.getElem?_eq_some_iff.1 hl3).1, (World.putObj_heap_other (by omega)).trans (h4.trans hk2)⟩
      rintro e a3 W3 hp
      cases e with
      | normal =>
        obtain ⟨hgd, h3, h4, hkp3, hi3⟩ := hp
        obtain ⟨hr, hl3, hl4, hk4⟩ := fin' none W3 h3 h4
        exact ⟨_, _, hr, .inl ⟨rfl, hgd, ⟨(hI _).put _ _ _ _ hl3 (by omega) hi3, hl4, hk4⟩, hKt (hKt hw2 hkp3) (hKb _ _ _ _ hl3 (by omega))⟩⟩
      | ret =>
        obtain ⟨h3, h4, hi3⟩ := hp
        obtain ⟨hr, hl3, hl4, hk4⟩ := fin' (some .ret) W3 h3 h4
        exact ⟨_, _, hr, .inr ⟨rfl, .ret, (hIx _).put _ _ _ _ hl3 (by omega) hi3, hl4, hk4⟩⟩
      | exit id =>
        obtain ⟨h3, h4, hi3⟩ := hp
        obtain ⟨hr, hl3, hl4, hk4⟩ := fin' (some (.exit id)) W3 h3 h4
        exact ⟨_, _, hr, .inr ⟨rfl, .exit id, (hIx _).put _ _ _ _ hl3 (by omega) hi3, hl4, hk4⟩⟩
      | goto t =>
        obtain ⟨h3, h4, hi3⟩ := hp
        obtain ⟨hr, hl3, hl4, hk4⟩ := fin' (some (.goto t)) W3 h3 h4
        exact ⟨_, _, hr, .inr ⟨rfl, .goto t, (hIx _).put _ _ _ _ hl3 (by omega) hi3, hl4, hk4⟩⟩
      | panic ch => exact hp.elim
      | outgrown => exact hp.elim
    · -- behind the iterator
      rintro e W2 ⟨⟨v, rfl⟩, (⟨s, hS, hi, hl, hk⟩ | ⟨c, hi, hl, hk⟩)⟩
      · exact ⟨none, _, by have := run_endLoop (P := P) hl (by rw [hrec]; simp); rw [hrec] at this; exact this, hdone _ s _ hS ((hI s).put _ _ _ _ hl (by omega) hi) (Nat.le_refl _) ((World.putObj_heap_other (by omega)).trans hk)⟩
      · exact ⟨some c, _, by have := run_endLoop (P := P) hl (by rw [hrec]; simp); rw [hrec] at this; exact this, hstop _ c _ ((hIx c).put _ _ _ _ hl (by omega) hi) (Nat.le_refl _) ((World.putObj_heap_other (by omega)).trans hk)⟩
end Go.Proofs.YtbmejbmkaoekgaaGreatDoor
