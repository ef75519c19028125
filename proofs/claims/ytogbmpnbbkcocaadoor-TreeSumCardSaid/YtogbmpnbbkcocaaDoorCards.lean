/-
  DERIVED. GIVEN WITH THE SEED: THE CARDS: each row of YtogbmpnbbkcocaaDoorRows.lean that lists a variable, with what it lists TIED to the program's text (the seventh form; the later family's looks); each row that meets fmt, with fmt's text TOLD by the authors' own Lean function (tested against real Go, not proved from fmt's source: count such statements apart). THE CARD IS WHAT COUNTS. Prove the row's statement (the work); the ties are given (YtogbmpnbbkcocaaDoorTie.lean); close each card by the builder's one call (the guide's Derived/Test/ToyasCard.lean, 'card_holds'). Laid BY PROGRAM, IN A SANDBOX (cutbox-door.mjs). By AI agents, Wed Nov 11 2026. No macro, syntax, notation, axiom, sorry.
-/
import Derived.Test.YtogbmpnbbkcocaaDoorRows
import GoSem.ClaimSeven
namespace Go.Proofs.YtogbmpnbbkcocaaDoor
namespace Rows

/-- THE TIED CARD OF 'foresightlaw.TreeFar'. -/
def treeFarCard : Claim7 := { stood := { row := treeFarRow, standIns := [], harness := (true, "1a01c736a1dcd5872ce7c3008b02f43d15411970bdfa889bcf608041de5fefad"), looks := true }, kinds := [], alts := [], laidByText := true, laidKinds := [.handle], laidTests := true, laidLooks := .later }
def TreeFarCardSaid : Prop := Claim7.holds Tryd.pinned (.plain (OpenSpec.ofChange treeFarSpec)) treeFarCard

/-- THE TIED CARD OF 'foresightlaw.TreeCenter'. -/
def treeCenterCard : Claim7 := { stood := { row := treeCenterRow, standIns := [], harness := (true, "1a01c736a1dcd5872ce7c3008b02f43d15411970bdfa889bcf608041de5fefad"), looks := true }, kinds := [], alts := [], laidByText := true, laidKinds := [.handle], laidTests := true, laidLooks := .later }
def TreeCenterCardSaid : Prop := Claim7.holds Tryd.pinned (.plain (OpenSpec.ofChange treeCenterSpec)) treeCenterCard

/-- THE TIED CARD OF 'foresightlaw.TreeMiddle'. -/
def treeMiddleCard : Claim7 := { stood := { row := treeMiddleRow, standIns := [], harness := (true, "1a01c736a1dcd5872ce7c3008b02f43d15411970bdfa889bcf608041de5fefad"), looks := true }, kinds := [], alts := [], laidByText := true, laidKinds := [.handle], laidTests := true, laidLooks := .later }
def TreeMiddleCardSaid : Prop := Claim7.holds Tryd.pinned (.plain (OpenSpec.ofChange treeMiddleSpec)) treeMiddleCard

/-- THE TIED CARD OF 'foresightlaw.TreeSum'. -/
def treeSumCard : Claim7 := { stood := { row := treeSumRow, standIns := [], harness := (true, "1a01c736a1dcd5872ce7c3008b02f43d15411970bdfa889bcf608041de5fefad"), looks := true }, kinds := [], alts := [], laidByText := true, laidKinds := [.handle], laidTests := true, laidLooks := .later }
def TreeSumCardSaid : Prop := Claim7.holds Tryd.pinned (.plain (OpenSpec.ofChange treeSumSpec)) treeSumCard

/-- THE TIED CARD OF 'foresightlaw.TripLong'. -/
def tripLongCard : Claim7 := { stood := { row := tripLongRow, standIns := [], harness := (true, "1a01c736a1dcd5872ce7c3008b02f43d15411970bdfa889bcf608041de5fefad"), looks := true }, kinds := [], alts := [], laidByText := true, laidKinds := [.handle], laidTests := true, laidLooks := .later }
def TripLongCardSaid : Prop := Claim7.holds Tryd.pinned (.plain (OpenSpec.ofChange tripLongSpec)) tripLongCard

/-- THE TIED CARD OF 'foresightlaw.TripRound'. -/
def tripRoundCard : Claim7 := { stood := { row := tripRoundRow, standIns := [], harness := (true, "1a01c736a1dcd5872ce7c3008b02f43d15411970bdfa889bcf608041de5fefad"), looks := true }, kinds := [], alts := [], laidByText := true, laidKinds := [.handle], laidTests := true, laidLooks := .later }
def TripRoundCardSaid : Prop := Claim7.holds Tryd.pinned (.plain (OpenSpec.ofChange tripRoundSpec)) tripRoundCard

/-- THE TIED CARD OF 'foresightlaw.TripTree'. -/
def tripTreeCard : Claim7 := { stood := { row := tripTreeRow, standIns := [], harness := (true, "1a01c736a1dcd5872ce7c3008b02f43d15411970bdfa889bcf608041de5fefad"), looks := true }, kinds := [], alts := [], laidByText := true, laidKinds := [.handle], laidTests := true, laidLooks := .later }
def TripTreeCardSaid : Prop := Claim7.holds Tryd.pinned (.plain (OpenSpec.ofChange tripTreeSpec)) tripTreeCard

/-- THE TIED CARD OF 'foresightlaw.TripBetter'. -/
def tripBetterCard : Claim7 := { stood := { row := tripBetterRow, standIns := [], harness := (true, "1a01c736a1dcd5872ce7c3008b02f43d15411970bdfa889bcf608041de5fefad"), looks := true }, kinds := [], alts := [], laidByText := true, laidKinds := [.handle], laidTests := true, laidLooks := .later }
def TripBetterCardSaid : Prop := Claim7.holds Tryd.pinned (.plain (OpenSpec.ofChange tripBetterSpec)) tripBetterCard

/-- THE TIED CARD OF 'foresightlaw.TripSavings'. -/
def tripSavingsCard : Claim7 := { stood := { row := tripSavingsRow, standIns := [], harness := (true, "1a01c736a1dcd5872ce7c3008b02f43d15411970bdfa889bcf608041de5fefad"), looks := true }, kinds := [], alts := [], laidByText := true, laidKinds := [.handle], laidTests := true, laidLooks := .later }
def TripSavingsCardSaid : Prop := Claim7.holds Tryd.pinned (.plain (OpenSpec.ofChange tripSavingsSpec)) tripSavingsCard

/-- THE SECOND FORM's CARD OF 'foresightlaw.TreeFar'. -/
def treeFarUptoCard : Claim7 := { stood := { row := treeFarUptoRow, standIns := [], harness := (true, "1a01c736a1dcd5872ce7c3008b02f43d15411970bdfa889bcf608041de5fefad"), looks := true }, kinds := [], alts := [], laidByText := true, laidKinds := [.handle], laidTests := true, laidLooks := .later }
def TreeFarUptoCardSaid : Prop := Claim7.holds Tryd.pinned (.plain (OpenSpec.upto treeFarSpec)) treeFarUptoCard

/-- THE SECOND FORM's CARD OF 'foresightlaw.TreeCenter'. -/
def treeCenterUptoCard : Claim7 := { stood := { row := treeCenterUptoRow, standIns := [], harness := (true, "1a01c736a1dcd5872ce7c3008b02f43d15411970bdfa889bcf608041de5fefad"), looks := true }, kinds := [], alts := [], laidByText := true, laidKinds := [.handle], laidTests := true, laidLooks := .later }
def TreeCenterUptoCardSaid : Prop := Claim7.holds Tryd.pinned (.plain (OpenSpec.upto treeCenterSpec)) treeCenterUptoCard

/-- THE SECOND FORM's CARD OF 'foresightlaw.TreeMiddle'. -/
def treeMiddleUptoCard : Claim7 := { stood := { row := treeMiddleUptoRow, standIns := [], harness := (true, "1a01c736a1dcd5872ce7c3008b02f43d15411970bdfa889bcf608041de5fefad"), looks := true }, kinds := [], alts := [], laidByText := true, laidKinds := [.handle], laidTests := true, laidLooks := .later }
def TreeMiddleUptoCardSaid : Prop := Claim7.holds Tryd.pinned (.plain (OpenSpec.upto treeMiddleSpec)) treeMiddleUptoCard

/-- THE SECOND FORM's CARD OF 'foresightlaw.TreeSum'. -/
def treeSumUptoCard : Claim7 := { stood := { row := treeSumUptoRow, standIns := [], harness := (true, "1a01c736a1dcd5872ce7c3008b02f43d15411970bdfa889bcf608041de5fefad"), looks := true }, kinds := [], alts := [], laidByText := true, laidKinds := [.handle], laidTests := true, laidLooks := .later }
def TreeSumUptoCardSaid : Prop := Claim7.holds Tryd.pinned (.plain (OpenSpec.upto treeSumSpec)) treeSumUptoCard

/-- THE SECOND FORM's CARD OF 'foresightlaw.TripLong'. -/
def tripLongUptoCard : Claim7 := { stood := { row := tripLongUptoRow, standIns := [], harness := (true, "1a01c736a1dcd5872ce7c3008b02f43d15411970bdfa889bcf608041de5fefad"), looks := true }, kinds := [], alts := [], laidByText := true, laidKinds := [.handle], laidTests := true, laidLooks := .later }
def TripLongUptoCardSaid : Prop := Claim7.holds Tryd.pinned (.plain (OpenSpec.upto tripLongSpec)) tripLongUptoCard

/-- THE SECOND FORM's CARD OF 'foresightlaw.TripRound'. -/
def tripRoundUptoCard : Claim7 := { stood := { row := tripRoundUptoRow, standIns := [], harness := (true, "1a01c736a1dcd5872ce7c3008b02f43d15411970bdfa889bcf608041de5fefad"), looks := true }, kinds := [], alts := [], laidByText := true, laidKinds := [.handle], laidTests := true, laidLooks := .later }
def TripRoundUptoCardSaid : Prop := Claim7.holds Tryd.pinned (.plain (OpenSpec.upto tripRoundSpec)) tripRoundUptoCard

/-- THE SECOND FORM's CARD OF 'foresightlaw.TripTree'. -/
def tripTreeUptoCard : Claim7 := { stood := { row := tripTreeUptoRow, standIns := [], harness := (true, "1a01c736a1dcd5872ce7c3008b02f43d15411970bdfa889bcf608041de5fefad"), looks := true }, kinds := [], alts := [], laidByText := true, laidKinds := [.handle], laidTests := true, laidLooks := .later }
def TripTreeUptoCardSaid : Prop := Claim7.holds Tryd.pinned (.plain (OpenSpec.upto tripTreeSpec)) tripTreeUptoCard

/-- THE SECOND FORM's CARD OF 'foresightlaw.TripBetter'. -/
def tripBetterUptoCard : Claim7 := { stood := { row := tripBetterUptoRow, standIns := [], harness := (true, "1a01c736a1dcd5872ce7c3008b02f43d15411970bdfa889bcf608041de5fefad"), looks := true }, kinds := [], alts := [], laidByText := true, laidKinds := [.handle], laidTests := true, laidLooks := .later }
def TripBetterUptoCardSaid : Prop := Claim7.holds Tryd.pinned (.plain (OpenSpec.upto tripBetterSpec)) tripBetterUptoCard

/-- THE SECOND FORM's CARD OF 'foresightlaw.TripSavings'. -/
def tripSavingsUptoCard : Claim7 := { stood := { row := tripSavingsUptoRow, standIns := [], harness := (true, "1a01c736a1dcd5872ce7c3008b02f43d15411970bdfa889bcf608041de5fefad"), looks := true }, kinds := [], alts := [], laidByText := true, laidKinds := [.handle], laidTests := true, laidLooks := .later }
def TripSavingsUptoCardSaid : Prop := Claim7.holds Tryd.pinned (.plain (OpenSpec.upto tripSavingsSpec)) tripSavingsUptoCard
end Rows
end Go.Proofs.YtogbmpnbbkcocaaDoor
