/-
  DERIVED. GIVEN WITH THE SEED: THE CARDS: each row of YtannijeiecmjpaaDoorRows.lean that lists a variable, with what it lists TIED to the program's text (the seventh form; the later family's looks); each row that meets fmt, with fmt's text TOLD by the authors' own Lean function (tested against real Go, not proved from fmt's source: count such statements apart). THE CARD IS WHAT COUNTS. Prove the row's statement (the work); the ties are given (YtannijeiecmjpaaDoorTie.lean); close each card by the builder's one call (the guide's Derived/Test/ToyasCard.lean, 'card_holds'). Laid BY PROGRAM, IN A SANDBOX (cutbox-door.mjs). By AI agents, Wed Nov 11 2026. No macro, syntax, notation, axiom, sorry.
-/
import Derived.Test.YtannijeiecmjpaaDoorRows
import GoSem.ClaimSeven
namespace Go.Proofs.YtannijeiecmjpaaDoor
namespace Rows

/-- THE TIED CARD OF 'foresightlaw.PathRuns'. -/
def pathRunsCard : Claim7 := { stood := { row := pathRunsRow, standIns := [], harness := (true, "358a4a8ef1361160203f037521c6e973fe76abb3dcfccee3e1265ce770474c10"), looks := true }, kinds := [], alts := [], laidByText := true, laidKinds := [.handle], laidTests := true, laidLooks := .later }
def PathRunsCardSaid : Prop := Claim7.holds Tryd.pinned (.plain (OpenSpec.ofChange pathRunsSpec)) pathRunsCard

/-- THE TIED CARD OF 'foresightlaw.ShopList'. -/
def shopListCard : Claim7 := { stood := { row := shopListRow, standIns := [], harness := (true, "358a4a8ef1361160203f037521c6e973fe76abb3dcfccee3e1265ce770474c10"), looks := true }, kinds := [], alts := [], laidByText := true, laidKinds := [.handle], laidTests := true, laidLooks := .later }
def ShopListCardSaid : Prop := Claim7.holds Tryd.pinned (.plain (OpenSpec.ofChange shopListSpec)) shopListCard

/-- THE TIED CARD OF 'foresightlaw.TapePlays'. -/
def tapePlaysCard : Claim7 := { stood := { row := tapePlaysRow, standIns := [], harness := (true, "358a4a8ef1361160203f037521c6e973fe76abb3dcfccee3e1265ce770474c10"), looks := true }, kinds := [], alts := [], laidByText := true, laidKinds := [.handle], laidTests := true, laidLooks := .later }
def TapePlaysCardSaid : Prop := Claim7.holds Tryd.pinned (.plain (OpenSpec.ofChange tapePlaysSpec)) tapePlaysCard

/-- THE TIED CARD OF 'foresightlaw.TripSavings'. -/
def tripSavingsCard : Claim7 := { stood := { row := tripSavingsRow, standIns := [], harness := (true, "358a4a8ef1361160203f037521c6e973fe76abb3dcfccee3e1265ce770474c10"), looks := true }, kinds := [], alts := [], laidByText := true, laidKinds := [.handle], laidTests := true, laidLooks := .later }
def TripSavingsCardSaid : Prop := Claim7.holds Tryd.pinned (.plain (OpenSpec.ofChange tripSavingsSpec)) tripSavingsCard

/-- THE SECOND FORM's CARD OF 'foresightlaw.PathRuns'. -/
def pathRunsUptoCard : Claim7 := { stood := { row := pathRunsUptoRow, standIns := [], harness := (true, "358a4a8ef1361160203f037521c6e973fe76abb3dcfccee3e1265ce770474c10"), looks := true }, kinds := [], alts := [], laidByText := true, laidKinds := [.handle], laidTests := true, laidLooks := .later }
def PathRunsUptoCardSaid : Prop := Claim7.holds Tryd.pinned (.plain (OpenSpec.upto pathRunsSpec)) pathRunsUptoCard

/-- THE SECOND FORM's CARD OF 'foresightlaw.ShopList'. -/
def shopListUptoCard : Claim7 := { stood := { row := shopListUptoRow, standIns := [], harness := (true, "358a4a8ef1361160203f037521c6e973fe76abb3dcfccee3e1265ce770474c10"), looks := true }, kinds := [], alts := [], laidByText := true, laidKinds := [.handle], laidTests := true, laidLooks := .later }
def ShopListUptoCardSaid : Prop := Claim7.holds Tryd.pinned (.plain (OpenSpec.upto shopListSpec)) shopListUptoCard

/-- THE SECOND FORM's CARD OF 'foresightlaw.TapePlays'. -/
def tapePlaysUptoCard : Claim7 := { stood := { row := tapePlaysUptoRow, standIns := [], harness := (true, "358a4a8ef1361160203f037521c6e973fe76abb3dcfccee3e1265ce770474c10"), looks := true }, kinds := [], alts := [], laidByText := true, laidKinds := [.handle], laidTests := true, laidLooks := .later }
def TapePlaysUptoCardSaid : Prop := Claim7.holds Tryd.pinned (.plain (OpenSpec.upto tapePlaysSpec)) tapePlaysUptoCard

/-- THE SECOND FORM's CARD OF 'foresightlaw.TripSavings'. -/
def tripSavingsUptoCard : Claim7 := { stood := { row := tripSavingsUptoRow, standIns := [], harness := (true, "358a4a8ef1361160203f037521c6e973fe76abb3dcfccee3e1265ce770474c10"), looks := true }, kinds := [], alts := [], laidByText := true, laidKinds := [.handle], laidTests := true, laidLooks := .later }
def TripSavingsUptoCardSaid : Prop := Claim7.holds Tryd.pinned (.plain (OpenSpec.upto tripSavingsSpec)) tripSavingsUptoCard
end Rows
end Go.Proofs.YtannijeiecmjpaaDoor
