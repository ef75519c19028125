/-
  DERIVED. GIVEN WITH THE SEED: THE CARDS: each row of YtfaklhkdfpfjgaaDoorRows.lean that lists a variable, with what it lists TIED to the program's text (the seventh form; the later family's looks); each row that meets fmt, with fmt's text TOLD by the authors' own Lean function (tested against real Go, not proved from fmt's source: count such statements apart). THE CARD IS WHAT COUNTS. Prove the row's statement (the work); the ties are given (YtfaklhkdfpfjgaaDoorTie.lean); close each card by the builder's one call (the guide's Derived/Test/ToyasCard.lean, 'card_holds'). Laid BY PROGRAM, IN A SANDBOX (cutbox-door.mjs). By AI agents, Wed Nov 11 2026. No macro, syntax, notation, axiom, sorry.
-/
import Derived.Test.YtfaklhkdfpfjgaaDoorRows
import GoSem.ClaimSeven
namespace Go.Proofs.YtfaklhkdfpfjgaaDoor
namespace Rows

/-- THE TIED CARD OF 'foresightlaw.PathRuns'. -/
def pathRunsCard : Claim7 := { stood := { row := pathRunsRow, standIns := [], harness := (true, "d1c7d00fb8982c6b5e3dc77d0b34a29e4a01938a11fb6fdcf865a95808ecff32"), looks := true }, kinds := [], alts := [], laidByText := true, laidKinds := [.handle], laidTests := true, laidLooks := .later }
def PathRunsCardSaid : Prop := Claim7.holds Tryd.pinned (.plain (OpenSpec.ofChange pathRunsSpec)) pathRunsCard

/-- THE TIED CARD OF 'foresightlaw.RiskWorks'. -/
def riskWorksCard : Claim7 := { stood := { row := riskWorksRow, standIns := [], harness := (true, "d1c7d00fb8982c6b5e3dc77d0b34a29e4a01938a11fb6fdcf865a95808ecff32"), looks := true }, kinds := [], alts := [], laidByText := true, laidKinds := [.handle], laidTests := true, laidLooks := .later }
def RiskWorksCardSaid : Prop := Claim7.holds Tryd.pinned (.plain (OpenSpec.ofChange riskWorksSpec)) riskWorksCard

/-- THE TIED CARD OF 'foresightlaw.RiskSets'. -/
def riskSetsCard : Claim7 := { stood := { row := riskSetsRow, standIns := [], harness := (true, "d1c7d00fb8982c6b5e3dc77d0b34a29e4a01938a11fb6fdcf865a95808ecff32"), looks := true }, kinds := [], alts := [], laidByText := true, laidKinds := [.handle], laidTests := true, laidLooks := .later }
def RiskSetsCardSaid : Prop := Claim7.holds Tryd.pinned (.plain (OpenSpec.ofChange riskSetsSpec)) riskSetsCard

/-- THE TIED CARD OF 'foresightlaw.ShopList'. -/
def shopListCard : Claim7 := { stood := { row := shopListRow, standIns := [], harness := (true, "d1c7d00fb8982c6b5e3dc77d0b34a29e4a01938a11fb6fdcf865a95808ecff32"), looks := true }, kinds := [], alts := [], laidByText := true, laidKinds := [.handle], laidTests := true, laidLooks := .later }
def ShopListCardSaid : Prop := Claim7.holds Tryd.pinned (.plain (OpenSpec.ofChange shopListSpec)) shopListCard

/-- THE TIED CARD OF 'foresightlaw.ShopHu'. -/
def shopHuCard : Claim7 := { stood := { row := shopHuRow, standIns := [], harness := (true, "d1c7d00fb8982c6b5e3dc77d0b34a29e4a01938a11fb6fdcf865a95808ecff32"), looks := true }, kinds := [], alts := [], laidByText := true, laidKinds := [.handle], laidTests := true, laidLooks := .later }
def ShopHuCardSaid : Prop := Claim7.holds Tryd.pinned (.plain (OpenSpec.ofChange shopHuSpec)) shopHuCard

/-- THE TIED CARD OF 'foresightlaw.LotsPlan'. -/
def lotsPlanCard : Claim7 := { stood := { row := lotsPlanRow, standIns := [], harness := (true, "d1c7d00fb8982c6b5e3dc77d0b34a29e4a01938a11fb6fdcf865a95808ecff32"), looks := true }, kinds := [], alts := [], laidByText := true, laidKinds := [.handle], laidTests := true, laidLooks := .later }
def LotsPlanCardSaid : Prop := Claim7.holds Tryd.pinned (.plain (OpenSpec.ofChange lotsPlanSpec)) lotsPlanCard

/-- THE TIED CARD OF 'foresightlaw.TapePlays'. -/
def tapePlaysCard : Claim7 := { stood := { row := tapePlaysRow, standIns := [], harness := (true, "d1c7d00fb8982c6b5e3dc77d0b34a29e4a01938a11fb6fdcf865a95808ecff32"), looks := true }, kinds := [], alts := [], laidByText := true, laidKinds := [.handle], laidTests := true, laidLooks := .later }
def TapePlaysCardSaid : Prop := Claim7.holds Tryd.pinned (.plain (OpenSpec.ofChange tapePlaysSpec)) tapePlaysCard

/-- THE TIED CARD OF 'foresightlaw.TripRound'. -/
def tripRoundCard : Claim7 := { stood := { row := tripRoundRow, standIns := [], harness := (true, "d1c7d00fb8982c6b5e3dc77d0b34a29e4a01938a11fb6fdcf865a95808ecff32"), looks := true }, kinds := [], alts := [], laidByText := true, laidKinds := [.handle], laidTests := true, laidLooks := .later }
def TripRoundCardSaid : Prop := Claim7.holds Tryd.pinned (.plain (OpenSpec.ofChange tripRoundSpec)) tripRoundCard

/-- THE TIED CARD OF 'foresightlaw.TripTree'. -/
def tripTreeCard : Claim7 := { stood := { row := tripTreeRow, standIns := [], harness := (true, "d1c7d00fb8982c6b5e3dc77d0b34a29e4a01938a11fb6fdcf865a95808ecff32"), looks := true }, kinds := [], alts := [], laidByText := true, laidKinds := [.handle], laidTests := true, laidLooks := .later }
def TripTreeCardSaid : Prop := Claim7.holds Tryd.pinned (.plain (OpenSpec.ofChange tripTreeSpec)) tripTreeCard

/-- THE TIED CARD OF 'foresightlaw.TripBetter'. -/
def tripBetterCard : Claim7 := { stood := { row := tripBetterRow, standIns := [], harness := (true, "d1c7d00fb8982c6b5e3dc77d0b34a29e4a01938a11fb6fdcf865a95808ecff32"), looks := true }, kinds := [], alts := [], laidByText := true, laidKinds := [.handle], laidTests := true, laidLooks := .later }
def TripBetterCardSaid : Prop := Claim7.holds Tryd.pinned (.plain (OpenSpec.ofChange tripBetterSpec)) tripBetterCard

/-- THE TIED CARD OF 'foresightlaw.TripSavings'. -/
def tripSavingsCard : Claim7 := { stood := { row := tripSavingsRow, standIns := [], harness := (true, "d1c7d00fb8982c6b5e3dc77d0b34a29e4a01938a11fb6fdcf865a95808ecff32"), looks := true }, kinds := [], alts := [], laidByText := true, laidKinds := [.handle], laidTests := true, laidLooks := .later }
def TripSavingsCardSaid : Prop := Claim7.holds Tryd.pinned (.plain (OpenSpec.ofChange tripSavingsSpec)) tripSavingsCard

/-- THE SECOND FORM's CARD OF 'foresightlaw.PathRuns'. -/
def pathRunsUptoCard : Claim7 := { stood := { row := pathRunsUptoRow, standIns := [], harness := (true, "d1c7d00fb8982c6b5e3dc77d0b34a29e4a01938a11fb6fdcf865a95808ecff32"), looks := true }, kinds := [], alts := [], laidByText := true, laidKinds := [.handle], laidTests := true, laidLooks := .later }
def PathRunsUptoCardSaid : Prop := Claim7.holds Tryd.pinned (.plain (OpenSpec.upto pathRunsSpec)) pathRunsUptoCard

/-- THE SECOND FORM's CARD OF 'foresightlaw.RiskWorks'. -/
def riskWorksUptoCard : Claim7 := { stood := { row := riskWorksUptoRow, standIns := [], harness := (true, "d1c7d00fb8982c6b5e3dc77d0b34a29e4a01938a11fb6fdcf865a95808ecff32"), looks := true }, kinds := [], alts := [], laidByText := true, laidKinds := [.handle], laidTests := true, laidLooks := .later }
def RiskWorksUptoCardSaid : Prop := Claim7.holds Tryd.pinned (.plain (OpenSpec.upto riskWorksSpec)) riskWorksUptoCard

/-- THE SECOND FORM's CARD OF 'foresightlaw.RiskSets'. -/
def riskSetsUptoCard : Claim7 := { stood := { row := riskSetsUptoRow, standIns := [], harness := (true, "d1c7d00fb8982c6b5e3dc77d0b34a29e4a01938a11fb6fdcf865a95808ecff32"), looks := true }, kinds := [], alts := [], laidByText := true, laidKinds := [.handle], laidTests := true, laidLooks := .later }
def RiskSetsUptoCardSaid : Prop := Claim7.holds Tryd.pinned (.plain (OpenSpec.upto riskSetsSpec)) riskSetsUptoCard

/-- THE SECOND FORM's CARD OF 'foresightlaw.ShopList'. -/
def shopListUptoCard : Claim7 := { stood := { row := shopListUptoRow, standIns := [], harness := (true, "d1c7d00fb8982c6b5e3dc77d0b34a29e4a01938a11fb6fdcf865a95808ecff32"), looks := true }, kinds := [], alts := [], laidByText := true, laidKinds := [.handle], laidTests := true, laidLooks := .later }
def ShopListUptoCardSaid : Prop := Claim7.holds Tryd.pinned (.plain (OpenSpec.upto shopListSpec)) shopListUptoCard

/-- THE SECOND FORM's CARD OF 'foresightlaw.ShopHu'. -/
def shopHuUptoCard : Claim7 := { stood := { row := shopHuUptoRow, standIns := [], harness := (true, "d1c7d00fb8982c6b5e3dc77d0b34a29e4a01938a11fb6fdcf865a95808ecff32"), looks := true }, kinds := [], alts := [], laidByText := true, laidKinds := [.handle], laidTests := true, laidLooks := .later }
def ShopHuUptoCardSaid : Prop := Claim7.holds Tryd.pinned (.plain (OpenSpec.upto shopHuSpec)) shopHuUptoCard

/-- THE SECOND FORM's CARD OF 'foresightlaw.LotsPlan'. -/
def lotsPlanUptoCard : Claim7 := { stood := { row := lotsPlanUptoRow, standIns := [], harness := (true, "d1c7d00fb8982c6b5e3dc77d0b34a29e4a01938a11fb6fdcf865a95808ecff32"), looks := true }, kinds := [], alts := [], laidByText := true, laidKinds := [.handle], laidTests := true, laidLooks := .later }
def LotsPlanUptoCardSaid : Prop := Claim7.holds Tryd.pinned (.plain (OpenSpec.upto lotsPlanSpec)) lotsPlanUptoCard

/-- THE SECOND FORM's CARD OF 'foresightlaw.TapePlays'. -/
def tapePlaysUptoCard : Claim7 := { stood := { row := tapePlaysUptoRow, standIns := [], harness := (true, "d1c7d00fb8982c6b5e3dc77d0b34a29e4a01938a11fb6fdcf865a95808ecff32"), looks := true }, kinds := [], alts := [], laidByText := true, laidKinds := [.handle], laidTests := true, laidLooks := .later }
def TapePlaysUptoCardSaid : Prop := Claim7.holds Tryd.pinned (.plain (OpenSpec.upto tapePlaysSpec)) tapePlaysUptoCard

/-- THE SECOND FORM's CARD OF 'foresightlaw.TripRound'. -/
def tripRoundUptoCard : Claim7 := { stood := { row := tripRoundUptoRow, standIns := [], harness := (true, "d1c7d00fb8982c6b5e3dc77d0b34a29e4a01938a11fb6fdcf865a95808ecff32"), looks := true }, kinds := [], alts := [], laidByText := true, laidKinds := [.handle], laidTests := true, laidLooks := .later }
def TripRoundUptoCardSaid : Prop := Claim7.holds Tryd.pinned (.plain (OpenSpec.upto tripRoundSpec)) tripRoundUptoCard

/-- THE SECOND FORM's CARD OF 'foresightlaw.TripTree'. -/
def tripTreeUptoCard : Claim7 := { stood := { row := tripTreeUptoRow, standIns := [], harness := (true, "d1c7d00fb8982c6b5e3dc77d0b34a29e4a01938a11fb6fdcf865a95808ecff32"), looks := true }, kinds := [], alts := [], laidByText := true, laidKinds := [.handle], laidTests := true, laidLooks := .later }
def TripTreeUptoCardSaid : Prop := Claim7.holds Tryd.pinned (.plain (OpenSpec.upto tripTreeSpec)) tripTreeUptoCard

/-- THE SECOND FORM's CARD OF 'foresightlaw.TripBetter'. -/
def tripBetterUptoCard : Claim7 := { stood := { row := tripBetterUptoRow, standIns := [], harness := (true, "d1c7d00fb8982c6b5e3dc77d0b34a29e4a01938a11fb6fdcf865a95808ecff32"), looks := true }, kinds := [], alts := [], laidByText := true, laidKinds := [.handle], laidTests := true, laidLooks := .later }
def TripBetterUptoCardSaid : Prop := Claim7.holds Tryd.pinned (.plain (OpenSpec.upto tripBetterSpec)) tripBetterUptoCard

/-- THE SECOND FORM's CARD OF 'foresightlaw.TripSavings'. -/
def tripSavingsUptoCard : Claim7 := { stood := { row := tripSavingsUptoRow, standIns := [], harness := (true, "d1c7d00fb8982c6b5e3dc77d0b34a29e4a01938a11fb6fdcf865a95808ecff32"), looks := true }, kinds := [], alts := [], laidByText := true, laidKinds := [.handle], laidTests := true, laidLooks := .later }
def TripSavingsUptoCardSaid : Prop := Claim7.holds Tryd.pinned (.plain (OpenSpec.upto tripSavingsSpec)) tripSavingsUptoCard
end Rows
end Go.Proofs.YtfaklhkdfpfjgaaDoor
