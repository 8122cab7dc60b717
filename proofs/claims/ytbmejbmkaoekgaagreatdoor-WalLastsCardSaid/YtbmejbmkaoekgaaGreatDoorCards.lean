/-
  DERIVED. GIVEN WITH THE SEED: THE CARDS: each row of YtbmejbmkaoekgaaGreatDoorRows.lean that lists a variable, with what it lists TIED to the program's text (the seventh form; the later family's looks); each row that meets fmt, with fmt's text TOLD by the authors' own Lean function (tested against real Go, not proved from fmt's source: count such statements apart). THE CARD IS WHAT COUNTS. Prove the row's statement (the work); the ties are given (YtbmejbmkaoekgaaGreatDoorTie.lean); close each card by the builder's one call (the guide's Derived/Test/ToyasCard.lean, 'card_holds'). Laid BY PROGRAM, IN A SANDBOX (cutbox-door.mjs). By AI agents, Wed Nov 11 2026. No macro, syntax, notation, axiom, sorry.
-/
import Derived.Test.YtbmejbmkaoekgaaGreatDoorRows
import GoSem.ClaimSeven
namespace Go.Proofs.YtbmejbmkaoekgaaGreatDoor
namespace Rows

/-- THE TIED CARD OF 'conclavelaw08.WalRots'. -/
def walRotsCard : Claim7 := { stood := { row := walRotsRow, standIns := [], harness := (true, "27ade224e81a20c4ab9d5dfddf11b1d8dbda38b88b92d8f23b5cdd64be2dc4d1"), looks := true }, kinds := [], alts := [], laidByText := true, laidKinds := [.data, .data, .data, .sentinel, .sentinel], laidTests := true, laidLooks := .later }
def WalRotsCardSaid : Prop := Claim7.holds Tryz.pinned (.plain (OpenSpec.ofChange walRotsSpec)) walRotsCard

/-- THE TIED CARD OF 'conclavelaw08.WalLasts'. -/
def walLastsCard : Claim7 := { stood := { row := walLastsRow, standIns := [], harness := (true, "27ade224e81a20c4ab9d5dfddf11b1d8dbda38b88b92d8f23b5cdd64be2dc4d1"), looks := true }, kinds := [], alts := [], laidByText := true, laidKinds := [.data, .data, .data, .sentinel, .sentinel], laidTests := true, laidLooks := .later }
def WalLastsCardSaid : Prop := Claim7.holds Tryz.pinned (.plain (OpenSpec.ofChange walLastsSpec)) walLastsCard

/-- THE TIED CARD OF 'conclavelaw08.WalNils'. -/
def walNilsCard : Claim7 := { stood := { row := walNilsRow, standIns := [], harness := (true, "27ade224e81a20c4ab9d5dfddf11b1d8dbda38b88b92d8f23b5cdd64be2dc4d1"), looks := true }, kinds := [], alts := [], laidByText := true, laidKinds := [.data, .data, .data, .sentinel, .sentinel], laidTests := true, laidLooks := .later }
def WalNilsCardSaid : Prop := Claim7.holds Tryz.pinned (.plain (OpenSpec.ofChange walNilsSpec)) walNilsCard

/-- THE SECOND FORM's CARD OF 'conclavelaw08.WalRots'. -/
def walRotsUptoCard : Claim7 := { stood := { row := walRotsUptoRow, standIns := [], harness := (true, "27ade224e81a20c4ab9d5dfddf11b1d8dbda38b88b92d8f23b5cdd64be2dc4d1"), looks := true }, kinds := [], alts := [], laidByText := true, laidKinds := [.data, .data, .data, .sentinel, .sentinel], laidTests := true, laidLooks := .later }
def WalRotsUptoCardSaid : Prop := Claim7.holds Tryz.pinned (.plain (OpenSpec.upto walRotsSpec)) walRotsUptoCard

/-- THE SECOND FORM's CARD OF 'conclavelaw08.WalLasts'. -/
def walLastsUptoCard : Claim7 := { stood := { row := walLastsUptoRow, standIns := [], harness := (true, "27ade224e81a20c4ab9d5dfddf11b1d8dbda38b88b92d8f23b5cdd64be2dc4d1"), looks := true }, kinds := [], alts := [], laidByText := true, laidKinds := [.data, .data, .data, .sentinel, .sentinel], laidTests := true, laidLooks := .later }
def WalLastsUptoCardSaid : Prop := Claim7.holds Tryz.pinned (.plain (OpenSpec.upto walLastsSpec)) walLastsUptoCard

/-- THE SECOND FORM's CARD OF 'conclavelaw08.WalNils'. -/
def walNilsUptoCard : Claim7 := { stood := { row := walNilsUptoRow, standIns := [], harness := (true, "27ade224e81a20c4ab9d5dfddf11b1d8dbda38b88b92d8f23b5cdd64be2dc4d1"), looks := true }, kinds := [], alts := [], laidByText := true, laidKinds := [.data, .data, .data, .sentinel, .sentinel], laidTests := true, laidLooks := .later }
def WalNilsUptoCardSaid : Prop := Claim7.holds Tryz.pinned (.plain (OpenSpec.upto walNilsSpec)) walNilsUptoCard
end Rows
end Go.Proofs.YtbmejbmkaoekgaaGreatDoor
