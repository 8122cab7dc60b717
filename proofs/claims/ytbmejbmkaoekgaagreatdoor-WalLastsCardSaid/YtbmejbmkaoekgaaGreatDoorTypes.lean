/- What the program's table says of the types that the walks meet. -/
import Derived.Test.YtbmejbmkaoekgaaGreatDoorProg
import Derived.KernelRfl
import Derived.Test.YtbmejbmkaoekgaaGreatDoorBase
namespace Go.Proofs.YtbmejbmkaoekgaaGreatDoor
open Go
abbrev tByte : TypeId := 5
abbrev tStr : TypeId := 9
abbrev tInt : TypeId := 3
abbrev tBytes : TypeId := 31
abbrev tDisk : TypeId := 58
abbrev tFile : TypeId := 75
abbrev tPFile : TypeId := 73
abbrev tPDisk : TypeId := 24
abbrev tFiles : TypeId := 55
abbrev tPlan : TypeId := 56
theorem uByte : Tryz.prog.underlying 5 = some (.int .u8) := by kernel_rfl
theorem uStr : Tryz.prog.underlying 9 = some .string := by kernel_rfl
theorem uInt : Tryz.prog.underlying 3 = some (.int .i64) := by kernel_rfl
theorem uBytes : Tryz.prog.underlying 31 = some (.slice 5) := by kernel_rfl
theorem uBytesE : Tryz.prog.underlying 31 = some (.slice (Tryz.prog.elem 31)) := by kernel_rfl
theorem eBytes : Tryz.prog.elem 31 = 5 := by kernel_rfl
theorem uFiles : Tryz.prog.underlying 55 = some (.map 9 73) := by kernel_rfl
theorem uPlan : Tryz.prog.underlying 56 = some (.map 3 3) := by kernel_rfl
theorem zPFile (w : World) : (zeroValue 73).run Tryz.prog w = .ok (.pointer none) w := by kernel_rfl
theorem zInt (w : World) : (zeroValue 3).run Tryz.prog w = .ok (.int .i64 0) w := by kernel_rfl
theorem iByte : (Tryz.prog.info? 5).map (fun i => (i.zero, i.size, i.bytes)) = some (some (.int .u8 0), 1, 1) := by kernel_rfl
theorem iBytes : (Tryz.prog.info? 31).map (fun i => (i.zero, i.size, i.bytes)) = some (some (.slice none 0 0), 1, 24) := by kernel_rfl
end Go.Proofs.YtbmejbmkaoekgaaGreatDoor
