/- A result that lies in a cell. -/
import Derived.Test.YtbmejbmkaoekgaaGreatDoorBase
import Derived.Laws.Rows
import Derived.Tactics2
namespace Go.Proofs.YtbmejbmkaoekgaaGreatDoor
open Go Go.RowKit
theorem results_cell_int {P : Program} {fn : Func} {p : Tmp} {ty : TypeId} (h : fn.results = #[.cell p ty]) (tmps : Array Value) (w : World) (g : Nat) (k : IntKind) (v : Value)
    (hp : tmps.getD p undef = .pointer (some ⟨g, 0, none⟩)) (hc : w.cell? ⟨g, 0, none⟩ = some v) (hu : P.underlying ty = some (.int k)) :
    (results fn tmps).run P w = .ok v w := by
  have hp' : tmps[p]?.getD undef = .pointer (some ⟨g, 0, none⟩) := by simpa using hp
  have ha : (isAgg ty).run P w = .ok false w := by simp [isAgg, Sem.run_bind, go_sem, run_underlying hu]
  simp [results, h, hp', asAddr, go_sem, ha, hc]
end Go.Proofs.YtbmejbmkaoekgaaGreatDoor
