/- A new disk; bytes against bytes; a disk's calls where no fault is planned. -/
import Derived.Test.YtbmejbmkaoekgaaGreatDoorOpen2
namespace Go.Proofs.YtbmejbmkaoekgaaGreatDoor
open Go Go.RowKit
set_option linter.unusedVariables false
set_option linter.unusedSimpArgs false

def disk0 (room : Nat) : DiskS := { room := room, files := [], plan := [], steps := 0, down := false }

theorem new_ok (room : Nat) (w : World) (h1 : room ≤ 1073741824) (hng : NG ≤ w.heap.size) :
    Calls Tryz.prog 7 #[.int .i64 room] w fun e w' =>
      ∃ d F, e = .returned (.tuple #[ptr d, .int .i64 0]) ∧ DiskAt w' d (disk0 room) F ∧ Keep No w w' ∧ ∀ b ∈ F, w.heap.size ≤ b := by
  have hmm := @run_makeMap Tryz.prog
  have h0 : decide ((room : Int) < 0) = false := by simp
  have h2 : decide (1073741824 < (room : Int)) = false := by simp; omega
  have h3 : decide (1073741824 < room) = false := by simp; omega
  go_enter Tryz.func7, Tryz.ntmps7
  go_wp2
  go_ret2
  refine ⟨w.heap.size + 1, [w.heap.size + 1, w.heap.size], rfl, ⟨w.heap.size, .map none, [], [], rfl, rfl, ?_, .inl ⟨rfl, rfl, rfl⟩, ?_, by simp, by simp, ?_, ?_⟩, ?_, ?_⟩
  · have := Cells.new (w.alloc (.map #[] 0)) tDisk #[.int .i64 (room : Nat), .map (some w.heap.size), .map none, .int .i64 0, .bool false]
    rw [World.size_alloc] at this
    exact this
  · have := IsMap.new (κ := List UInt8) w .string (fun l => sv l)
    exact this.keep ((Keep.refl No _).alloc _) (fun f => f)
  · intro k hk; simp at hk; rcases hk with e | e <;> omega
  · exact ⟨h1, by simp [disk0, DiskS.used, usedBy], by simp [disk0], by simp [disk0], by simp [disk0, DiskS.names], by simp [disk0]⟩
  · exact ((Keep.refl No w).alloc _).alloc _
  · intro k hk; simp at hk; rcases hk with e | e <;> omega

theorem same_go {t8 t9 : TypeId} (u v : Value) (xs ys : List UInt8) (w : World) (ha : Bytes w t8 u xs) (hb : Bytes w t9 v ys) :
    Calls Tryz.prog 19 #[u, v] w fun e w' => e = .returned (.bool (xs == ys)) ∧ w = w' := by
  have r1 := ha.str
  have r2 := hb.str
  clear ha hb
  go_enter Tryz.func19, Tryz.ntmps19
  go_wp2
  go_ret
  exact ⟨rfl, rfl⟩
end Go.Proofs.YtbmejbmkaoekgaaGreatDoor
