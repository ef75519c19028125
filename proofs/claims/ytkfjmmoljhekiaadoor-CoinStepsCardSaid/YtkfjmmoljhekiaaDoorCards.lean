/-
  DERIVED. GIVEN WITH THE SEED: THE CARDS: each row of YtkfjmmoljhekiaaDoorRows.lean that lists a variable, with what it lists TIED to the program's text (the seventh form; the later family's looks); each row that meets fmt, with fmt's text TOLD by the authors' own Lean function (tested against real Go, not proved from fmt's source: count such statements apart). THE CARD IS WHAT COUNTS. Prove the row's statement (the work); the ties are given (YtkfjmmoljhekiaaDoorTie.lean); close each card by the builder's one call (the guide's Derived/Test/ToyasCard.lean, 'card_holds'). Laid BY PROGRAM, IN A SANDBOX (cutbox-door.mjs). By AI agents, Wed Nov 11 2026. No macro, syntax, notation, axiom, sorry.
-/
import Derived.Test.YtkfjmmoljhekiaaDoorRows
import GoSem.ClaimSeven
namespace Go.Proofs.YtkfjmmoljhekiaaDoor
namespace Rows

/-- THE TIED CARD OF 'foresightlaw.PathWaits'. -/
def pathWaitsCard : Claim7 := { stood := { row := pathWaitsRow, standIns := [], harness := (true, "530cfaff09121a13b0deb767c45cda1394c9181c54028180cc13c5923d8a97c7"), looks := true }, kinds := [], alts := [], laidByText := true, laidKinds := [.handle], laidTests := true, laidLooks := .later }
def PathWaitsCardSaid : Prop := Claim7.holds Tryd.pinned (.plain (OpenSpec.ofChange pathWaitsSpec)) pathWaitsCard

/-- THE TIED CARD OF 'foresightlaw.PathMany'. -/
def pathManyCard : Claim7 := { stood := { row := pathManyRow, standIns := [], harness := (true, "530cfaff09121a13b0deb767c45cda1394c9181c54028180cc13c5923d8a97c7"), looks := true }, kinds := [], alts := [], laidByText := true, laidKinds := [.handle], laidTests := true, laidLooks := .later }
def PathManyCardSaid : Prop := Claim7.holds Tryd.pinned (.plain (OpenSpec.ofChange pathManySpec)) pathManyCard

/-- THE TIED CARD OF 'foresightlaw.PathRuns'. -/
def pathRunsCard : Claim7 := { stood := { row := pathRunsRow, standIns := [], harness := (true, "530cfaff09121a13b0deb767c45cda1394c9181c54028180cc13c5923d8a97c7"), looks := true }, kinds := [], alts := [], laidByText := true, laidKinds := [.handle], laidTests := true, laidLooks := .later }
def PathRunsCardSaid : Prop := Claim7.holds Tryd.pinned (.plain (OpenSpec.ofChange pathRunsSpec)) pathRunsCard

/-- THE TIED CARD OF 'foresightlaw.CoinSteps'. -/
def coinStepsCard : Claim7 := { stood := { row := coinStepsRow, standIns := [], harness := (true, "530cfaff09121a13b0deb767c45cda1394c9181c54028180cc13c5923d8a97c7"), looks := true }, kinds := [], alts := [], laidByText := true, laidKinds := [.handle], laidTests := true, laidLooks := .later }
def CoinStepsCardSaid : Prop := Claim7.holds Tryd.pinned (.plain (OpenSpec.ofChange coinStepsSpec)) coinStepsCard

/-- THE TIED CARD OF 'foresightlaw.LineOrder'. -/
def lineOrderCard : Claim7 := { stood := { row := lineOrderRow, standIns := [], harness := (true, "530cfaff09121a13b0deb767c45cda1394c9181c54028180cc13c5923d8a97c7"), looks := true }, kinds := [], alts := [], laidByText := true, laidKinds := [.handle], laidTests := true, laidLooks := .later }
def LineOrderCardSaid : Prop := Claim7.holds Tryd.pinned (.plain (OpenSpec.ofChange lineOrderSpec)) lineOrderCard

/-- THE TIED CARD OF 'foresightlaw.LineEnds'. -/
def lineEndsCard : Claim7 := { stood := { row := lineEndsRow, standIns := [], harness := (true, "530cfaff09121a13b0deb767c45cda1394c9181c54028180cc13c5923d8a97c7"), looks := true }, kinds := [], alts := [], laidByText := true, laidKinds := [.handle], laidTests := true, laidLooks := .later }
def LineEndsCardSaid : Prop := Claim7.holds Tryd.pinned (.plain (OpenSpec.ofChange lineEndsSpec)) lineEndsCard

/-- THE TIED CARD OF 'foresightlaw.LineCosts'. -/
def lineCostsCard : Claim7 := { stood := { row := lineCostsRow, standIns := [], harness := (true, "530cfaff09121a13b0deb767c45cda1394c9181c54028180cc13c5923d8a97c7"), looks := true }, kinds := [], alts := [], laidByText := true, laidKinds := [.handle], laidTests := true, laidLooks := .later }
def LineCostsCardSaid : Prop := Claim7.holds Tryd.pinned (.plain (OpenSpec.ofChange lineCostsSpec)) lineCostsCard

/-- THE TIED CARD OF 'foresightlaw.LineLawler'. -/
def lineLawlerCard : Claim7 := { stood := { row := lineLawlerRow, standIns := [], harness := (true, "530cfaff09121a13b0deb767c45cda1394c9181c54028180cc13c5923d8a97c7"), looks := true }, kinds := [], alts := [], laidByText := true, laidKinds := [.handle], laidTests := true, laidLooks := .later }
def LineLawlerCardSaid : Prop := Claim7.holds Tryd.pinned (.plain (OpenSpec.ofChange lineLawlerSpec)) lineLawlerCard

/-- THE TIED CARD OF 'foresightlaw.LineJackson'. -/
def lineJacksonCard : Claim7 := { stood := { row := lineJacksonRow, standIns := [], harness := (true, "530cfaff09121a13b0deb767c45cda1394c9181c54028180cc13c5923d8a97c7"), looks := true }, kinds := [], alts := [], laidByText := true, laidKinds := [.handle], laidTests := true, laidLooks := .later }
def LineJacksonCardSaid : Prop := Claim7.holds Tryd.pinned (.plain (OpenSpec.ofChange lineJacksonSpec)) lineJacksonCard

/-- THE TIED CARD OF 'foresightlaw.LineSmith'. -/
def lineSmithCard : Claim7 := { stood := { row := lineSmithRow, standIns := [], harness := (true, "530cfaff09121a13b0deb767c45cda1394c9181c54028180cc13c5923d8a97c7"), looks := true }, kinds := [], alts := [], laidByText := true, laidKinds := [.handle], laidTests := true, laidLooks := .later }
def LineSmithCardSaid : Prop := Claim7.holds Tryd.pinned (.plain (OpenSpec.ofChange lineSmithSpec)) lineSmithCard

/-- THE TIED CARD OF 'foresightlaw.LineMoore'. -/
def lineMooreCard : Claim7 := { stood := { row := lineMooreRow, standIns := [], harness := (true, "530cfaff09121a13b0deb767c45cda1394c9181c54028180cc13c5923d8a97c7"), looks := true }, kinds := [], alts := [], laidByText := true, laidKinds := [.handle], laidTests := true, laidLooks := .later }
def LineMooreCardSaid : Prop := Claim7.holds Tryd.pinned (.plain (OpenSpec.ofChange lineMooreSpec)) lineMooreCard

/-- THE SECOND FORM's CARD OF 'foresightlaw.PathWaits'. -/
def pathWaitsUptoCard : Claim7 := { stood := { row := pathWaitsUptoRow, standIns := [], harness := (true, "530cfaff09121a13b0deb767c45cda1394c9181c54028180cc13c5923d8a97c7"), looks := true }, kinds := [], alts := [], laidByText := true, laidKinds := [.handle], laidTests := true, laidLooks := .later }
def PathWaitsUptoCardSaid : Prop := Claim7.holds Tryd.pinned (.plain (OpenSpec.upto pathWaitsSpec)) pathWaitsUptoCard

/-- THE SECOND FORM's CARD OF 'foresightlaw.PathMany'. -/
def pathManyUptoCard : Claim7 := { stood := { row := pathManyUptoRow, standIns := [], harness := (true, "530cfaff09121a13b0deb767c45cda1394c9181c54028180cc13c5923d8a97c7"), looks := true }, kinds := [], alts := [], laidByText := true, laidKinds := [.handle], laidTests := true, laidLooks := .later }
def PathManyUptoCardSaid : Prop := Claim7.holds Tryd.pinned (.plain (OpenSpec.upto pathManySpec)) pathManyUptoCard

/-- THE SECOND FORM's CARD OF 'foresightlaw.PathRuns'. -/
def pathRunsUptoCard : Claim7 := { stood := { row := pathRunsUptoRow, standIns := [], harness := (true, "530cfaff09121a13b0deb767c45cda1394c9181c54028180cc13c5923d8a97c7"), looks := true }, kinds := [], alts := [], laidByText := true, laidKinds := [.handle], laidTests := true, laidLooks := .later }
def PathRunsUptoCardSaid : Prop := Claim7.holds Tryd.pinned (.plain (OpenSpec.upto pathRunsSpec)) pathRunsUptoCard

/-- THE SECOND FORM's CARD OF 'foresightlaw.CoinSteps'. -/
def coinStepsUptoCard : Claim7 := { stood := { row := coinStepsUptoRow, standIns := [], harness := (true, "530cfaff09121a13b0deb767c45cda1394c9181c54028180cc13c5923d8a97c7"), looks := true }, kinds := [], alts := [], laidByText := true, laidKinds := [.handle], laidTests := true, laidLooks := .later }
def CoinStepsUptoCardSaid : Prop := Claim7.holds Tryd.pinned (.plain (OpenSpec.upto coinStepsSpec)) coinStepsUptoCard

/-- THE SECOND FORM's CARD OF 'foresightlaw.LineOrder'. -/
def lineOrderUptoCard : Claim7 := { stood := { row := lineOrderUptoRow, standIns := [], harness := (true, "530cfaff09121a13b0deb767c45cda1394c9181c54028180cc13c5923d8a97c7"), looks := true }, kinds := [], alts := [], laidByText := true, laidKinds := [.handle], laidTests := true, laidLooks := .later }
def LineOrderUptoCardSaid : Prop := Claim7.holds Tryd.pinned (.plain (OpenSpec.upto lineOrderSpec)) lineOrderUptoCard

/-- THE SECOND FORM's CARD OF 'foresightlaw.LineEnds'. -/
def lineEndsUptoCard : Claim7 := { stood := { row := lineEndsUptoRow, standIns := [], harness := (true, "530cfaff09121a13b0deb767c45cda1394c9181c54028180cc13c5923d8a97c7"), looks := true }, kinds := [], alts := [], laidByText := true, laidKinds := [.handle], laidTests := true, laidLooks := .later }
def LineEndsUptoCardSaid : Prop := Claim7.holds Tryd.pinned (.plain (OpenSpec.upto lineEndsSpec)) lineEndsUptoCard

/-- THE SECOND FORM's CARD OF 'foresightlaw.LineCosts'. -/
def lineCostsUptoCard : Claim7 := { stood := { row := lineCostsUptoRow, standIns := [], harness := (true, "530cfaff09121a13b0deb767c45cda1394c9181c54028180cc13c5923d8a97c7"), looks := true }, kinds := [], alts := [], laidByText := true, laidKinds := [.handle], laidTests := true, laidLooks := .later }
def LineCostsUptoCardSaid : Prop := Claim7.holds Tryd.pinned (.plain (OpenSpec.upto lineCostsSpec)) lineCostsUptoCard

/-- THE SECOND FORM's CARD OF 'foresightlaw.LineLawler'. -/
def lineLawlerUptoCard : Claim7 := { stood := { row := lineLawlerUptoRow, standIns := [], harness := (true, "530cfaff09121a13b0deb767c45cda1394c9181c54028180cc13c5923d8a97c7"), looks := true }, kinds := [], alts := [], laidByText := true, laidKinds := [.handle], laidTests := true, laidLooks := .later }
def LineLawlerUptoCardSaid : Prop := Claim7.holds Tryd.pinned (.plain (OpenSpec.upto lineLawlerSpec)) lineLawlerUptoCard

/-- THE SECOND FORM's CARD OF 'foresightlaw.LineJackson'. -/
def lineJacksonUptoCard : Claim7 := { stood := { row := lineJacksonUptoRow, standIns := [], harness := (true, "530cfaff09121a13b0deb767c45cda1394c9181c54028180cc13c5923d8a97c7"), looks := true }, kinds := [], alts := [], laidByText := true, laidKinds := [.handle], laidTests := true, laidLooks := .later }
def LineJacksonUptoCardSaid : Prop := Claim7.holds Tryd.pinned (.plain (OpenSpec.upto lineJacksonSpec)) lineJacksonUptoCard

/-- THE SECOND FORM's CARD OF 'foresightlaw.LineSmith'. -/
def lineSmithUptoCard : Claim7 := { stood := { row := lineSmithUptoRow, standIns := [], harness := (true, "530cfaff09121a13b0deb767c45cda1394c9181c54028180cc13c5923d8a97c7"), looks := true }, kinds := [], alts := [], laidByText := true, laidKinds := [.handle], laidTests := true, laidLooks := .later }
def LineSmithUptoCardSaid : Prop := Claim7.holds Tryd.pinned (.plain (OpenSpec.upto lineSmithSpec)) lineSmithUptoCard

/-- THE SECOND FORM's CARD OF 'foresightlaw.LineMoore'. -/
def lineMooreUptoCard : Claim7 := { stood := { row := lineMooreUptoRow, standIns := [], harness := (true, "530cfaff09121a13b0deb767c45cda1394c9181c54028180cc13c5923d8a97c7"), looks := true }, kinds := [], alts := [], laidByText := true, laidKinds := [.handle], laidTests := true, laidLooks := .later }
def LineMooreUptoCardSaid : Prop := Claim7.holds Tryd.pinned (.plain (OpenSpec.upto lineMooreSpec)) lineMooreUptoCard
end Rows
end Go.Proofs.YtkfjmmoljhekiaaDoor
