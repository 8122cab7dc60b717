/- Append, whole; what a nil log says; frames. -/
import Derived.Test.YtbmejbmkaoekgaaGreatDoorLog6
import Derived.Test.YtbmejbmkaoekgaaGreatDoorFrames
namespace Go.Proofs.YtbmejbmkaoekgaaGreatDoor
open Go Go.RowKit
set_option linter.unusedVariables false
set_option linter.unusedSimpArgs false

def LogS.append (L : LogS) (st : DiskS) (b : List UInt8) : LogS × DiskS × Int :=
  match L.parts.getLast? with
  | none => L.addNew st b
  | some p => if (p.size : Int) < L.most then L.addTo st b p else L.addFull st b

/-- The last file's number is the end's where it is empty alone. -/
def LogS.Sound (L : LogS) : Prop := 1 ≤ L.most ∧ ∀ p, L.parts.getLast? = some p → p.frm = L.fin → p.size = 0

theorem append_go (w : World) (lb d : Nat) (st : DiskS) (L : LogS) (F G : List Nat) (v : Value) (b : List UInt8) (hd : DiskAt w d st F) (h : LogAt w lb d L G) (ok : L.Ok) (so : L.Sound) (htab : Tab w) (hst : st.steps < 4611686018427387903) (hb : Src w w.heap.size (fun k => k ∈ F ∨ k ∈ G) v b) (hbl : b.length ≤ 65536) :
    Calls Tryz.prog 9 #[ptr lb, v] w (LogPost w lb d F G (L.append st b).1 (L.append st b).2.1 (.int .i64 (L.append st b).2.2)) := by
  unfold LogS.append
  cases hp : L.parts.getLast? with
  | none => exact lappend_new w lb d st L F G v b hd h ok htab (by omega) hb hbl (by simpa using hp)
  | some p =>
    simp only
    by_cases hm : (p.size : Int) < L.most
    · rw [if_pos hm]
      exact lappend_to w lb d st L F G v b hd h ok htab (by omega) hb hbl p hp hm
    · rw [if_neg hm]
      exact lappend_full w lb d st L F G v b hd h ok htab hst hb hbl p hp (by omega) (fun e => by have := so.2 p hp e; have := so.1; omega)

theorem trim_nil (w : World) (v : Value) : Calls Tryz.prog 20 #[.pointer none, v] w fun e w' => e = .returned (.int .i64 2) ∧ w' = w := by
  go_enter Tryz.func20, Tryz.ntmps20
  go_wp2_with fail
  go_ret
  exact ⟨rfl, rfl⟩
theorem get_nil (w : World) (v : Value) : Calls Tryz.prog 18 #[.pointer none, v] w fun e w' => e = .returned (.tuple #[.slice none 0 0, .int .i64 2]) ∧ w' = w := by
  go_enter Tryz.func18, Tryz.ntmps18
  go_wp2_with fail
  go_ret2
  exact ⟨rfl, rfl⟩
theorem open_nil (w : World) (nm : List UInt8) (v : Value) : Calls Tryz.prog 8 #[.pointer none, sv nm, v] w fun e w' => e = .returned (.tuple #[.pointer none, .int .i64 2]) ∧ Keep No w w' := by
  go_enter Tryz.func8, Tryz.ntmps8
  go_wp2_with fail
  go_ret2
  exact ⟨rfl, by repeat (first | exact Keep.refl No _ | apply Keep.alloc | apply Keep.drew)⟩

theorem frames_go (w : World) (v : Value) (b : List UInt8) (hb : Bytes w tByte v b) :
    Calls Tryz.prog 44 #[v] w fun e w' => e = .returned (.func (.func 59) #[] #[.pointer (some ⟨w.heap.size, 0, none⟩)]) ∧ Cells w' w.heap.size tBytes #[v] ∧ Keep No w w' := by
  obtain ⟨A, c, rfl⟩ := hb.form
  clear hb
  go_enter Tryz.func44, Tryz.ntmps44
  go_wp2_with fail
  go_ret
  exact ⟨rfl, Cells.new w tBytes _, (Keep.refl No w).alloc _⟩
end Go.Proofs.YtbmejbmkaoekgaaGreatDoor
