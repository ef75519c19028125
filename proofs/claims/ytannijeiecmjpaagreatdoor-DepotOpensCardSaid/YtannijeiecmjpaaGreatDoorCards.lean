/-
  DERIVED. GIVEN WITH THE SEED: THE CARDS: each row of YtannijeiecmjpaaGreatDoorRows.lean that lists a variable, with what it lists TIED to the program's text (the seventh form; the later family's looks); each row that meets fmt, with fmt's text TOLD by the authors' own Lean function (tested against real Go, not proved from fmt's source: count such statements apart). THE CARD IS WHAT COUNTS. Prove the row's statement (the work); the ties are given (YtannijeiecmjpaaGreatDoorTie.lean); close each card by the builder's one call (the guide's Derived/Test/ToyasCard.lean, 'card_holds'). Laid BY PROGRAM, IN A SANDBOX (cutbox-door.mjs). By AI agents, Wed Nov 11 2026. No macro, syntax, notation, axiom, sorry.
-/
import Derived.Test.YtannijeiecmjpaaGreatDoorRows
import GoSem.ClaimSeven
namespace Go.Proofs.YtannijeiecmjpaaGreatDoor
namespace Rows

/-- THE TIED CARD OF 'foresightlaw.DepotPlays'. -/
def depotPlaysCard : Claim7 := { stood := { row := depotPlaysRow, standIns := [], harness := (true, "07ab8dc56eb4631bc146eca876f5f62f65ea02bfd2cf5f13c0d6d67ecfcd7758"), looks := true }, kinds := [], alts := [], laidByText := true, laidKinds := [.data, .data, .data, .data, .handle, .pinned], laidTests := true, laidLooks := .later }
def DepotPlaysCardSaid : Prop := Claim7.holds Tryz.pinned (.plain (OpenSpec.ofChange depotPlaysSpec)) depotPlaysCard

/-- THE TIED CARD OF 'foresightlaw.DepotOpens'. -/
def depotOpensCard : Claim7 := { stood := { row := depotOpensRow, standIns := [], harness := (true, "07ab8dc56eb4631bc146eca876f5f62f65ea02bfd2cf5f13c0d6d67ecfcd7758"), looks := true }, kinds := [], alts := [], laidByText := true, laidKinds := [.data, .data, .data, .data, .sentinel, .sentinel, .pinned], laidTests := true, laidLooks := .later }
def DepotOpensCardSaid : Prop := Claim7.holds Tryz.pinned (.plain (OpenSpec.ofChange depotOpensSpec)) depotOpensCard

/-- THE SECOND FORM's CARD OF 'foresightlaw.DepotPlays'. -/
def depotPlaysUptoCard : Claim7 := { stood := { row := depotPlaysUptoRow, standIns := [], harness := (true, "07ab8dc56eb4631bc146eca876f5f62f65ea02bfd2cf5f13c0d6d67ecfcd7758"), looks := true }, kinds := [], alts := [], laidByText := true, laidKinds := [.data, .data, .data, .data, .handle, .pinned], laidTests := true, laidLooks := .later }
def DepotPlaysUptoCardSaid : Prop := Claim7.holds Tryz.pinned (.plain (OpenSpec.upto depotPlaysSpec)) depotPlaysUptoCard

/-- THE SECOND FORM's CARD OF 'foresightlaw.DepotOpens'. -/
def depotOpensUptoCard : Claim7 := { stood := { row := depotOpensUptoRow, standIns := [], harness := (true, "07ab8dc56eb4631bc146eca876f5f62f65ea02bfd2cf5f13c0d6d67ecfcd7758"), looks := true }, kinds := [], alts := [], laidByText := true, laidKinds := [.data, .data, .data, .data, .sentinel, .sentinel, .pinned], laidTests := true, laidLooks := .later }
def DepotOpensUptoCardSaid : Prop := Claim7.holds Tryz.pinned (.plain (OpenSpec.upto depotOpensSpec)) depotOpensUptoCard
end Rows
end Go.Proofs.YtannijeiecmjpaaGreatDoor
