/- What a nil log says, and a log of a nil disk: the law, walked. -/
import Derived.Test.YtbmejbmkaoekgaaGreatDoorAlive
namespace Go.Proofs.YtbmejbmkaoekgaaGreatDoor
open Go Go.RowKit
set_option linter.unusedVariables false
set_option linter.unusedSimpArgs false

theorem nopen_nil (w : World) : Calls Tryz.prog 8 #[.pointer none, .string ⟨#[108, 111, 103]⟩, .int .i64 1] w fun e w' => e = .returned (.tuple #[.pointer none, .int .i64 2]) ∧ Keep No w w' := open_nil w [108, 111, 103] _

set_option maxRecDepth 100000 in
set_option maxHeartbeats 2000000 in
theorem nils_go (w : World) (u : Value) (n : Int) (htab : Tab w) : Calls Tryz.prog 5 #[u, .int .i64 n] w fun e w' => e = .returned (.bool true) ∧ Keep No w w' := by
  have Htab := Lib.hid htab
  clear htab
  go_enter Tryz.func5, Tryz.ntmps5
  go_wp2_with fail
  refine (get_nil _ _).mono ?_
  rintro e w0 ⟨rfl, hw0⟩
  rw [hw0]
  clear hw0
  go_wp2_with fail
  refine (nopen_nil _).mono ?_
  rintro e w1 ⟨rfl, k1⟩
  have K1 := Lib.hid k1
  clear k1
  go_wp2_with fail
  refine (append_nil _ _).mono ?_
  rintro e w2 ⟨rfl, hw2⟩
  rw [hw2]
  clear hw2
  go_wp2_with fail
  refine (sync_nil _).mono ?_
  rintro e w3 ⟨rfl, hw3⟩
  rw [hw3]
  clear hw3
  go_wp2_with fail
  refine (trim_nil _ _).mono ?_
  rintro e w4 ⟨rfl, hw4⟩
  rw [hw4]
  clear hw4
  go_wp2_with fail
  refine (first_nil _).mono ?_
  rintro e w5 ⟨rfl, hw5⟩
  rw [hw5]
  clear hw5
  go_wp2_with fail
  refine (end_nil _).mono ?_
  rintro e w6 ⟨rfl, hw6⟩
  rw [hw6]
  clear hw6
  go_wp2_with fail
  refine (alive_go _ (Htab.out.keep K1.out (fun _ f => f.elim))).mono ?_
  rintro e w7 ⟨rfl, k7⟩
  go_wp2_with fail
  go_ret
  exact ⟨rfl, K1.out.trans k7 (fun _ f => f.elim)⟩
end Go.Proofs.YtbmejbmkaoekgaaGreatDoor
