/-
  DERIVED. GIVEN WITH THE SEED: THE CARDS: each row of YtgcocjfbppkgbaaDoorRows.lean that lists a variable, with what it lists TIED to the program's text (the seventh form; the later family's looks); each row that meets fmt, with fmt's text TOLD by the authors' own Lean function (tested against real Go, not proved from fmt's source: count such statements apart). THE CARD IS WHAT COUNTS. Prove the row's statement (the work); the ties are given (YtgcocjfbppkgbaaDoorTie.lean); close each card by the builder's one call (the guide's Derived/Test/ToyasCard.lean, 'card_holds'). Laid BY PROGRAM, IN A SANDBOX (cutbox-door.mjs). By AI agents, Wed Nov 11 2026. No macro, syntax, notation, axiom, sorry.
-/
import Derived.Test.YtgcocjfbppkgbaaDoorRows
import GoSem.ClaimSeven
namespace Go.Proofs.YtgcocjfbppkgbaaDoor
namespace Rows

/-- THE TIED CARD OF 'foresightlaw.RiskWorks'. -/
def riskWorksCard : Claim7 := { stood := { row := riskWorksRow, standIns := [], harness := (true, "cf2c6dc279b369b26703e0239daaa5ebefb5f3d95674ffd83c3b0c02c5db2b75"), looks := true }, kinds := [], alts := [], laidByText := true, laidKinds := [.handle], laidTests := true, laidLooks := .later }
def RiskWorksCardSaid : Prop := Claim7.holds Tryd.pinned (.plain (OpenSpec.ofChange riskWorksSpec)) riskWorksCard

/-- THE TIED CARD OF 'foresightlaw.RiskSets'. -/
def riskSetsCard : Claim7 := { stood := { row := riskSetsRow, standIns := [], harness := (true, "cf2c6dc279b369b26703e0239daaa5ebefb5f3d95674ffd83c3b0c02c5db2b75"), looks := true }, kinds := [], alts := [], laidByText := true, laidKinds := [.handle], laidTests := true, laidLooks := .later }
def RiskSetsCardSaid : Prop := Claim7.holds Tryd.pinned (.plain (OpenSpec.ofChange riskSetsSpec)) riskSetsCard

/-- THE TIED CARD OF 'foresightlaw.ShopFlow'. -/
def shopFlowCard : Claim7 := { stood := { row := shopFlowRow, standIns := [], harness := (true, "cf2c6dc279b369b26703e0239daaa5ebefb5f3d95674ffd83c3b0c02c5db2b75"), looks := true }, kinds := [], alts := [], laidByText := true, laidKinds := [.handle], laidTests := true, laidLooks := .later }
def ShopFlowCardSaid : Prop := Claim7.holds Tryd.pinned (.plain (OpenSpec.ofChange shopFlowSpec)) shopFlowCard

/-- THE TIED CARD OF 'foresightlaw.ShopMcNaughton'. -/
def shopMcNaughtonCard : Claim7 := { stood := { row := shopMcNaughtonRow, standIns := [], harness := (true, "cf2c6dc279b369b26703e0239daaa5ebefb5f3d95674ffd83c3b0c02c5db2b75"), looks := true }, kinds := [], alts := [], laidByText := true, laidKinds := [.handle], laidTests := true, laidLooks := .later }
def ShopMcNaughtonCardSaid : Prop := Claim7.holds Tryd.pinned (.plain (OpenSpec.ofChange shopMcNaughtonSpec)) shopMcNaughtonCard

/-- THE TIED CARD OF 'foresightlaw.ShopList'. -/
def shopListCard : Claim7 := { stood := { row := shopListRow, standIns := [], harness := (true, "cf2c6dc279b369b26703e0239daaa5ebefb5f3d95674ffd83c3b0c02c5db2b75"), looks := true }, kinds := [], alts := [], laidByText := true, laidKinds := [.handle], laidTests := true, laidLooks := .later }
def ShopListCardSaid : Prop := Claim7.holds Tryd.pinned (.plain (OpenSpec.ofChange shopListSpec)) shopListCard

/-- THE TIED CARD OF 'foresightlaw.ShopLongest'. -/
def shopLongestCard : Claim7 := { stood := { row := shopLongestRow, standIns := [], harness := (true, "cf2c6dc279b369b26703e0239daaa5ebefb5f3d95674ffd83c3b0c02c5db2b75"), looks := true }, kinds := [], alts := [], laidByText := true, laidKinds := [.handle], laidTests := true, laidLooks := .later }
def ShopLongestCardSaid : Prop := Claim7.holds Tryd.pinned (.plain (OpenSpec.ofChange shopLongestSpec)) shopLongestCard

/-- THE TIED CARD OF 'foresightlaw.ShopJohnson'. -/
def shopJohnsonCard : Claim7 := { stood := { row := shopJohnsonRow, standIns := [], harness := (true, "cf2c6dc279b369b26703e0239daaa5ebefb5f3d95674ffd83c3b0c02c5db2b75"), looks := true }, kinds := [], alts := [], laidByText := true, laidKinds := [.handle], laidTests := true, laidLooks := .later }
def ShopJohnsonCardSaid : Prop := Claim7.holds Tryd.pinned (.plain (OpenSpec.ofChange shopJohnsonSpec)) shopJohnsonCard

/-- THE TIED CARD OF 'foresightlaw.ShopHu'. -/
def shopHuCard : Claim7 := { stood := { row := shopHuRow, standIns := [], harness := (true, "cf2c6dc279b369b26703e0239daaa5ebefb5f3d95674ffd83c3b0c02c5db2b75"), looks := true }, kinds := [], alts := [], laidByText := true, laidKinds := [.handle], laidTests := true, laidLooks := .later }
def ShopHuCardSaid : Prop := Claim7.holds Tryd.pinned (.plain (OpenSpec.ofChange shopHuSpec)) shopHuCard

/-- THE TIED CARD OF 'foresightlaw.LotsCost'. -/
def lotsCostCard : Claim7 := { stood := { row := lotsCostRow, standIns := [], harness := (true, "cf2c6dc279b369b26703e0239daaa5ebefb5f3d95674ffd83c3b0c02c5db2b75"), looks := true }, kinds := [], alts := [], laidByText := true, laidKinds := [.handle], laidTests := true, laidLooks := .later }
def LotsCostCardSaid : Prop := Claim7.holds Tryd.pinned (.plain (OpenSpec.ofChange lotsCostSpec)) lotsCostCard

/-- THE TIED CARD OF 'foresightlaw.LotsPlan'. -/
def lotsPlanCard : Claim7 := { stood := { row := lotsPlanRow, standIns := [], harness := (true, "cf2c6dc279b369b26703e0239daaa5ebefb5f3d95674ffd83c3b0c02c5db2b75"), looks := true }, kinds := [], alts := [], laidByText := true, laidKinds := [.handle], laidTests := true, laidLooks := .later }
def LotsPlanCardSaid : Prop := Claim7.holds Tryd.pinned (.plain (OpenSpec.ofChange lotsPlanSpec)) lotsPlanCard

/-- THE TIED CARD OF 'foresightlaw.TapePlays'. -/
def tapePlaysCard : Claim7 := { stood := { row := tapePlaysRow, standIns := [], harness := (true, "cf2c6dc279b369b26703e0239daaa5ebefb5f3d95674ffd83c3b0c02c5db2b75"), looks := true }, kinds := [], alts := [], laidByText := true, laidKinds := [.handle], laidTests := true, laidLooks := .later }
def TapePlaysCardSaid : Prop := Claim7.holds Tryd.pinned (.plain (OpenSpec.ofChange tapePlaysSpec)) tapePlaysCard

/-- THE SECOND FORM's CARD OF 'foresightlaw.RiskWorks'. -/
def riskWorksUptoCard : Claim7 := { stood := { row := riskWorksUptoRow, standIns := [], harness := (true, "cf2c6dc279b369b26703e0239daaa5ebefb5f3d95674ffd83c3b0c02c5db2b75"), looks := true }, kinds := [], alts := [], laidByText := true, laidKinds := [.handle], laidTests := true, laidLooks := .later }
def RiskWorksUptoCardSaid : Prop := Claim7.holds Tryd.pinned (.plain (OpenSpec.upto riskWorksSpec)) riskWorksUptoCard

/-- THE SECOND FORM's CARD OF 'foresightlaw.RiskSets'. -/
def riskSetsUptoCard : Claim7 := { stood := { row := riskSetsUptoRow, standIns := [], harness := (true, "cf2c6dc279b369b26703e0239daaa5ebefb5f3d95674ffd83c3b0c02c5db2b75"), looks := true }, kinds := [], alts := [], laidByText := true, laidKinds := [.handle], laidTests := true, laidLooks := .later }
def RiskSetsUptoCardSaid : Prop := Claim7.holds Tryd.pinned (.plain (OpenSpec.upto riskSetsSpec)) riskSetsUptoCard

/-- THE SECOND FORM's CARD OF 'foresightlaw.ShopFlow'. -/
def shopFlowUptoCard : Claim7 := { stood := { row := shopFlowUptoRow, standIns := [], harness := (true, "cf2c6dc279b369b26703e0239daaa5ebefb5f3d95674ffd83c3b0c02c5db2b75"), looks := true }, kinds := [], alts := [], laidByText := true, laidKinds := [.handle], laidTests := true, laidLooks := .later }
def ShopFlowUptoCardSaid : Prop := Claim7.holds Tryd.pinned (.plain (OpenSpec.upto shopFlowSpec)) shopFlowUptoCard

/-- THE SECOND FORM's CARD OF 'foresightlaw.ShopMcNaughton'. -/
def shopMcNaughtonUptoCard : Claim7 := { stood := { row := shopMcNaughtonUptoRow, standIns := [], harness := (true, "cf2c6dc279b369b26703e0239daaa5ebefb5f3d95674ffd83c3b0c02c5db2b75"), looks := true }, kinds := [], alts := [], laidByText := true, laidKinds := [.handle], laidTests := true, laidLooks := .later }
def ShopMcNaughtonUptoCardSaid : Prop := Claim7.holds Tryd.pinned (.plain (OpenSpec.upto shopMcNaughtonSpec)) shopMcNaughtonUptoCard

/-- THE SECOND FORM's CARD OF 'foresightlaw.ShopList'. -/
def shopListUptoCard : Claim7 := { stood := { row := shopListUptoRow, standIns := [], harness := (true, "cf2c6dc279b369b26703e0239daaa5ebefb5f3d95674ffd83c3b0c02c5db2b75"), looks := true }, kinds := [], alts := [], laidByText := true, laidKinds := [.handle], laidTests := true, laidLooks := .later }
def ShopListUptoCardSaid : Prop := Claim7.holds Tryd.pinned (.plain (OpenSpec.upto shopListSpec)) shopListUptoCard

/-- THE SECOND FORM's CARD OF 'foresightlaw.ShopLongest'. -/
def shopLongestUptoCard : Claim7 := { stood := { row := shopLongestUptoRow, standIns := [], harness := (true, "cf2c6dc279b369b26703e0239daaa5ebefb5f3d95674ffd83c3b0c02c5db2b75"), looks := true }, kinds := [], alts := [], laidByText := true, laidKinds := [.handle], laidTests := true, laidLooks := .later }
def ShopLongestUptoCardSaid : Prop := Claim7.holds Tryd.pinned (.plain (OpenSpec.upto shopLongestSpec)) shopLongestUptoCard

/-- THE SECOND FORM's CARD OF 'foresightlaw.ShopJohnson'. -/
def shopJohnsonUptoCard : Claim7 := { stood := { row := shopJohnsonUptoRow, standIns := [], harness := (true, "cf2c6dc279b369b26703e0239daaa5ebefb5f3d95674ffd83c3b0c02c5db2b75"), looks := true }, kinds := [], alts := [], laidByText := true, laidKinds := [.handle], laidTests := true, laidLooks := .later }
def ShopJohnsonUptoCardSaid : Prop := Claim7.holds Tryd.pinned (.plain (OpenSpec.upto shopJohnsonSpec)) shopJohnsonUptoCard

/-- THE SECOND FORM's CARD OF 'foresightlaw.ShopHu'. -/
def shopHuUptoCard : Claim7 := { stood := { row := shopHuUptoRow, standIns := [], harness := (true, "cf2c6dc279b369b26703e0239daaa5ebefb5f3d95674ffd83c3b0c02c5db2b75"), looks := true }, kinds := [], alts := [], laidByText := true, laidKinds := [.handle], laidTests := true, laidLooks := .later }
def ShopHuUptoCardSaid : Prop := Claim7.holds Tryd.pinned (.plain (OpenSpec.upto shopHuSpec)) shopHuUptoCard

/-- THE SECOND FORM's CARD OF 'foresightlaw.LotsCost'. -/
def lotsCostUptoCard : Claim7 := { stood := { row := lotsCostUptoRow, standIns := [], harness := (true, "cf2c6dc279b369b26703e0239daaa5ebefb5f3d95674ffd83c3b0c02c5db2b75"), looks := true }, kinds := [], alts := [], laidByText := true, laidKinds := [.handle], laidTests := true, laidLooks := .later }
def LotsCostUptoCardSaid : Prop := Claim7.holds Tryd.pinned (.plain (OpenSpec.upto lotsCostSpec)) lotsCostUptoCard

/-- THE SECOND FORM's CARD OF 'foresightlaw.LotsPlan'. -/
def lotsPlanUptoCard : Claim7 := { stood := { row := lotsPlanUptoRow, standIns := [], harness := (true, "cf2c6dc279b369b26703e0239daaa5ebefb5f3d95674ffd83c3b0c02c5db2b75"), looks := true }, kinds := [], alts := [], laidByText := true, laidKinds := [.handle], laidTests := true, laidLooks := .later }
def LotsPlanUptoCardSaid : Prop := Claim7.holds Tryd.pinned (.plain (OpenSpec.upto lotsPlanSpec)) lotsPlanUptoCard

/-- THE SECOND FORM's CARD OF 'foresightlaw.TapePlays'. -/
def tapePlaysUptoCard : Claim7 := { stood := { row := tapePlaysUptoRow, standIns := [], harness := (true, "cf2c6dc279b369b26703e0239daaa5ebefb5f3d95674ffd83c3b0c02c5db2b75"), looks := true }, kinds := [], alts := [], laidByText := true, laidKinds := [.handle], laidTests := true, laidLooks := .later }
def TapePlaysUptoCardSaid : Prop := Claim7.holds Tryd.pinned (.plain (OpenSpec.upto tapePlaysSpec)) tapePlaysUptoCard
end Rows
end Go.Proofs.YtgcocjfbppkgbaaDoor
