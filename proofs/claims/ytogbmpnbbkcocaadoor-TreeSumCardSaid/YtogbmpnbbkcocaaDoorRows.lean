/-
  NARROWER THAN 'FOR EVERY INPUT', by the rows' own cells (each row's printed sentence says how): TreeFar: laid · TreeCenter: laid · TreeMiddle: laid · TreeSum: laid · TripLong: laid · TripRound: laid · TripTree: laid · TripBetter: laid · TripSavings: laid.
  DERIVED. THE GIVEN ROWS OF THIS SEAT. 9 by the template 'for every input the law returns true; each argument reads behind the call as it read before'; 0 by the template 'total and deterministic' (their statements: YtogbmpnbbkcocaaDoorTotals.lean).
  GIVEN WITH THE SEED: the statements are not yours to turn. If you find one false, say at which input.
  Laid BY PROGRAM, IN A SANDBOX (cutbox-rows.mjs): the forced cells as the released guide's own fill.sh prints them over the translation 53535d3a7dc7dd27… (all of the seat's roots in one cut). By AI agents, Wed Nov 11 2026. No macro, syntax, notation, axiom, sorry.
-/
import Derived.Test.YtogbmpnbbkcocaaDoorChecked
import GoSem.Claim
import GoSem.ClaimJoined
import GoSem.ClaimMapViews
import Derived.JoinedTies
import Derived.KernelRfl
namespace Go.Proofs.YtogbmpnbbkcocaaDoor
/- THE CELL 'sum', in the pinned program and in every row, IS THE sha256 OF THE DUMP (.gsa) THAT YtogbmpnbbkcocaaDoorProg.lean LOADS. Nothing in Lean hashes anything: it is a label: what it is worth is what the hold of that sum in a sandbox is worth. -/
noncomputable def Tryd.pinned : Pinned := { name := "ytogbmpnbbkcocaadoor", sum := "53535d3a7dc7dd27edba4b7faaad9e6bcf0b6ae6a08c0f1ad1be9bf374c83ecb", checked := Tryd.checked }
namespace Rows
def none {H : Type} : Left H := { results := [], args := [] }

/- WHAT THE LISTED PACKAGE-LEVEL VARIABLES READ AS WHEN THE CALL BEGINS. Each datum BY PROGRAM (the guide's laid-datum.mjs) off the statement by which the dump's own 'gosem.cut.vars' lays the variable. In a bare row this is a premise. The card (YtogbmpnbbkcocaaDoorCards.lean) ties it to the program's text. -/
def laid_errors_errorType {H : Type} : DataW H := .iface "internal/reflectlite.rtype" (.agg [.ptr (.lit (.string [101, 114, 114, 111, 114]))])

/-- 'foresightlaw.TreeFar': WHATEVER THE INPUT: true; the input reads as it did. -/
def treeFarSpec : ChangeSpec := { name := "treeFar", fn := fun _ => fun
  | [d1, d2, d3] => { results := [.lit (.bool true)], args := [d1, d2, d3] }
  | _ => none }
def treeFarRow : OpenClaim := { program := "ytogbmpnbbkcocaadoor", sum := "53535d3a7dc7dd27edba4b7faaad9e6bcf0b6ae6a08c0f1ad1be9bf374c83ecb", func := "foresight/foresightlaw.TreeFar", spec := "treeFar", inPlace := ["internal/reflectlite.ValueOf", "(internal/reflectlite.Value).Type", "(internal/reflectlite.Value).IsNil", "internal/reflectlite.TypeOf", "(internal/reflectlite.Value).Elem", "(internal/reflectlite.Value).Set"], unfollowed := true, recurses := true, named := ["errors.errorType"], apart := false, laid := [("errors.errorType", laid_errors_errorType)] }
def TreeFarSaid : Prop := treeFarRow.holds Tryd.pinned (OpenSpec.ofChange treeFarSpec)

/-- ITS FALSE NEIGHBOUR: 'it returns false'. Refute it at one input. -/
def treeFarWrong : ChangeSpec := { name := "treeFar", fn := fun _ => fun
  | [d1, d2, d3] => { results := [.lit (.bool false)], args := [d1, d2, d3] }
  | _ => none }
def TreeFarWrongFalsely : Prop := treeFarRow.holds Tryd.pinned (OpenSpec.ofChange treeFarWrong)

/-- 'foresightlaw.TreeCenter': WHATEVER THE INPUT: true; the input reads as it did. -/
def treeCenterSpec : ChangeSpec := { name := "treeCenter", fn := fun _ => fun
  | [d1, d2] => { results := [.lit (.bool true)], args := [d1, d2] }
  | _ => none }
def treeCenterRow : OpenClaim := { program := "ytogbmpnbbkcocaadoor", sum := "53535d3a7dc7dd27edba4b7faaad9e6bcf0b6ae6a08c0f1ad1be9bf374c83ecb", func := "foresight/foresightlaw.TreeCenter", spec := "treeCenter", inPlace := ["internal/reflectlite.ValueOf", "(internal/reflectlite.Value).Type", "(internal/reflectlite.Value).IsNil", "internal/reflectlite.TypeOf", "(internal/reflectlite.Value).Elem", "(internal/reflectlite.Value).Set"], unfollowed := true, recurses := true, named := ["errors.errorType"], apart := false, laid := [("errors.errorType", laid_errors_errorType)] }
def TreeCenterSaid : Prop := treeCenterRow.holds Tryd.pinned (OpenSpec.ofChange treeCenterSpec)

/-- ITS FALSE NEIGHBOUR: 'it returns false'. Refute it at one input. -/
def treeCenterWrong : ChangeSpec := { name := "treeCenter", fn := fun _ => fun
  | [d1, d2] => { results := [.lit (.bool false)], args := [d1, d2] }
  | _ => none }
def TreeCenterWrongFalsely : Prop := treeCenterRow.holds Tryd.pinned (OpenSpec.ofChange treeCenterWrong)

/-- 'foresightlaw.TreeMiddle': WHATEVER THE INPUT: true; the input reads as it did. -/
def treeMiddleSpec : ChangeSpec := { name := "treeMiddle", fn := fun _ => fun
  | [d1, d2, d3] => { results := [.lit (.bool true)], args := [d1, d2, d3] }
  | _ => none }
def treeMiddleRow : OpenClaim := { program := "ytogbmpnbbkcocaadoor", sum := "53535d3a7dc7dd27edba4b7faaad9e6bcf0b6ae6a08c0f1ad1be9bf374c83ecb", func := "foresight/foresightlaw.TreeMiddle", spec := "treeMiddle", inPlace := ["internal/reflectlite.ValueOf", "(internal/reflectlite.Value).Type", "(internal/reflectlite.Value).IsNil", "internal/reflectlite.TypeOf", "(internal/reflectlite.Value).Elem", "(internal/reflectlite.Value).Set"], unfollowed := true, recurses := true, named := ["errors.errorType"], apart := false, laid := [("errors.errorType", laid_errors_errorType)] }
def TreeMiddleSaid : Prop := treeMiddleRow.holds Tryd.pinned (OpenSpec.ofChange treeMiddleSpec)

/-- ITS FALSE NEIGHBOUR: 'it returns false'. Refute it at one input. -/
def treeMiddleWrong : ChangeSpec := { name := "treeMiddle", fn := fun _ => fun
  | [d1, d2, d3] => { results := [.lit (.bool false)], args := [d1, d2, d3] }
  | _ => none }
def TreeMiddleWrongFalsely : Prop := treeMiddleRow.holds Tryd.pinned (OpenSpec.ofChange treeMiddleWrong)

/-- 'foresightlaw.TreeSum': WHATEVER THE INPUT: true; the input reads as it did. -/
def treeSumSpec : ChangeSpec := { name := "treeSum", fn := fun _ => fun
  | [d1, d2, d3, d4] => { results := [.lit (.bool true)], args := [d1, d2, d3, d4] }
  | _ => none }
def treeSumRow : OpenClaim := { program := "ytogbmpnbbkcocaadoor", sum := "53535d3a7dc7dd27edba4b7faaad9e6bcf0b6ae6a08c0f1ad1be9bf374c83ecb", func := "foresight/foresightlaw.TreeSum", spec := "treeSum", inPlace := ["internal/reflectlite.ValueOf", "(internal/reflectlite.Value).Type", "(internal/reflectlite.Value).IsNil", "internal/reflectlite.TypeOf", "(internal/reflectlite.Value).Elem", "(internal/reflectlite.Value).Set"], unfollowed := true, recurses := true, named := ["errors.errorType"], apart := false, laid := [("errors.errorType", laid_errors_errorType)] }
def TreeSumSaid : Prop := treeSumRow.holds Tryd.pinned (OpenSpec.ofChange treeSumSpec)

/-- ITS FALSE NEIGHBOUR: 'it returns false'. Refute it at one input. -/
def treeSumWrong : ChangeSpec := { name := "treeSum", fn := fun _ => fun
  | [d1, d2, d3, d4] => { results := [.lit (.bool false)], args := [d1, d2, d3, d4] }
  | _ => none }
def TreeSumWrongFalsely : Prop := treeSumRow.holds Tryd.pinned (OpenSpec.ofChange treeSumWrong)

/-- 'foresightlaw.TripLong': WHATEVER THE INPUT: true; the input reads as it did. -/
def tripLongSpec : ChangeSpec := { name := "tripLong", fn := fun _ => fun
  | [d1, d2] => { results := [.lit (.bool true)], args := [d1, d2] }
  | _ => none }
def tripLongRow : OpenClaim := { program := "ytogbmpnbbkcocaadoor", sum := "53535d3a7dc7dd27edba4b7faaad9e6bcf0b6ae6a08c0f1ad1be9bf374c83ecb", func := "foresight/foresightlaw.TripLong", spec := "tripLong", inPlace := ["internal/reflectlite.ValueOf", "(internal/reflectlite.Value).Type", "(internal/reflectlite.Value).IsNil", "internal/reflectlite.TypeOf", "(internal/reflectlite.Value).Elem", "(internal/reflectlite.Value).Set"], unfollowed := true, recurses := true, named := ["errors.errorType"], apart := false, laid := [("errors.errorType", laid_errors_errorType)] }
def TripLongSaid : Prop := tripLongRow.holds Tryd.pinned (OpenSpec.ofChange tripLongSpec)

/-- ITS FALSE NEIGHBOUR: 'it returns false'. Refute it at one input. -/
def tripLongWrong : ChangeSpec := { name := "tripLong", fn := fun _ => fun
  | [d1, d2] => { results := [.lit (.bool false)], args := [d1, d2] }
  | _ => none }
def TripLongWrongFalsely : Prop := tripLongRow.holds Tryd.pinned (OpenSpec.ofChange tripLongWrong)

/-- 'foresightlaw.TripRound': WHATEVER THE INPUT: true; the input reads as it did. -/
def tripRoundSpec : ChangeSpec := { name := "tripRound", fn := fun _ => fun
  | [d] => { results := [.lit (.bool true)], args := [d] }
  | _ => none }
def tripRoundRow : OpenClaim := { program := "ytogbmpnbbkcocaadoor", sum := "53535d3a7dc7dd27edba4b7faaad9e6bcf0b6ae6a08c0f1ad1be9bf374c83ecb", func := "foresight/foresightlaw.TripRound", spec := "tripRound", inPlace := ["internal/reflectlite.ValueOf", "(internal/reflectlite.Value).Type", "(internal/reflectlite.Value).IsNil", "internal/reflectlite.TypeOf", "(internal/reflectlite.Value).Elem", "(internal/reflectlite.Value).Set"], unfollowed := true, recurses := true, named := ["errors.errorType"], apart := false, laid := [("errors.errorType", laid_errors_errorType)] }
def TripRoundSaid : Prop := tripRoundRow.holds Tryd.pinned (OpenSpec.ofChange tripRoundSpec)

/-- ITS FALSE NEIGHBOUR: 'it returns false'. Refute it at one input. -/
def tripRoundWrong : ChangeSpec := { name := "tripRound", fn := fun _ => fun
  | [d] => { results := [.lit (.bool false)], args := [d] }
  | _ => none }
def TripRoundWrongFalsely : Prop := tripRoundRow.holds Tryd.pinned (OpenSpec.ofChange tripRoundWrong)

/-- 'foresightlaw.TripTree': WHATEVER THE INPUT: true; the input reads as it did. -/
def tripTreeSpec : ChangeSpec := { name := "tripTree", fn := fun _ => fun
  | [d] => { results := [.lit (.bool true)], args := [d] }
  | _ => none }
def tripTreeRow : OpenClaim := { program := "ytogbmpnbbkcocaadoor", sum := "53535d3a7dc7dd27edba4b7faaad9e6bcf0b6ae6a08c0f1ad1be9bf374c83ecb", func := "foresight/foresightlaw.TripTree", spec := "tripTree", inPlace := ["internal/reflectlite.ValueOf", "(internal/reflectlite.Value).Type", "(internal/reflectlite.Value).IsNil", "internal/reflectlite.TypeOf", "(internal/reflectlite.Value).Elem", "(internal/reflectlite.Value).Set"], unfollowed := true, recurses := true, named := ["errors.errorType"], apart := false, laid := [("errors.errorType", laid_errors_errorType)] }
def TripTreeSaid : Prop := tripTreeRow.holds Tryd.pinned (OpenSpec.ofChange tripTreeSpec)

/-- ITS FALSE NEIGHBOUR: 'it returns false'. Refute it at one input. -/
def tripTreeWrong : ChangeSpec := { name := "tripTree", fn := fun _ => fun
  | [d] => { results := [.lit (.bool false)], args := [d] }
  | _ => none }
def TripTreeWrongFalsely : Prop := tripTreeRow.holds Tryd.pinned (OpenSpec.ofChange tripTreeWrong)

/-- 'foresightlaw.TripBetter': WHATEVER THE INPUT: true; the input reads as it did. -/
def tripBetterSpec : ChangeSpec := { name := "tripBetter", fn := fun _ => fun
  | [d1, d2] => { results := [.lit (.bool true)], args := [d1, d2] }
  | _ => none }
def tripBetterRow : OpenClaim := { program := "ytogbmpnbbkcocaadoor", sum := "53535d3a7dc7dd27edba4b7faaad9e6bcf0b6ae6a08c0f1ad1be9bf374c83ecb", func := "foresight/foresightlaw.TripBetter", spec := "tripBetter", inPlace := ["internal/reflectlite.ValueOf", "(internal/reflectlite.Value).Type", "(internal/reflectlite.Value).IsNil", "internal/reflectlite.TypeOf", "(internal/reflectlite.Value).Elem", "(internal/reflectlite.Value).Set"], unfollowed := true, recurses := true, named := ["errors.errorType"], apart := false, laid := [("errors.errorType", laid_errors_errorType)] }
def TripBetterSaid : Prop := tripBetterRow.holds Tryd.pinned (OpenSpec.ofChange tripBetterSpec)

/-- ITS FALSE NEIGHBOUR: 'it returns false'. Refute it at one input. -/
def tripBetterWrong : ChangeSpec := { name := "tripBetter", fn := fun _ => fun
  | [d1, d2] => { results := [.lit (.bool false)], args := [d1, d2] }
  | _ => none }
def TripBetterWrongFalsely : Prop := tripBetterRow.holds Tryd.pinned (OpenSpec.ofChange tripBetterWrong)

/-- 'foresightlaw.TripSavings': WHATEVER THE INPUT: true; the input reads as it did. -/
def tripSavingsSpec : ChangeSpec := { name := "tripSavings", fn := fun _ => fun
  | [d1, d2, d3] => { results := [.lit (.bool true)], args := [d1, d2, d3] }
  | _ => none }
def tripSavingsRow : OpenClaim := { program := "ytogbmpnbbkcocaadoor", sum := "53535d3a7dc7dd27edba4b7faaad9e6bcf0b6ae6a08c0f1ad1be9bf374c83ecb", func := "foresight/foresightlaw.TripSavings", spec := "tripSavings", inPlace := ["internal/reflectlite.ValueOf", "(internal/reflectlite.Value).Type", "(internal/reflectlite.Value).IsNil", "internal/reflectlite.TypeOf", "(internal/reflectlite.Value).Elem", "(internal/reflectlite.Value).Set"], unfollowed := true, recurses := true, named := ["errors.errorType"], apart := false, laid := [("errors.errorType", laid_errors_errorType)] }
def TripSavingsSaid : Prop := tripSavingsRow.holds Tryd.pinned (OpenSpec.ofChange tripSavingsSpec)

/-- ITS FALSE NEIGHBOUR: 'it returns false'. Refute it at one input. -/
def tripSavingsWrong : ChangeSpec := { name := "tripSavings", fn := fun _ => fun
  | [d1, d2, d3] => { results := [.lit (.bool false)], args := [d1, d2, d3] }
  | _ => none }
def TripSavingsWrongFalsely : Prop := tripSavingsRow.holds Tryd.pinned (OpenSpec.ofChange tripSavingsWrong)

/- THE SECOND FORM. 'bulk': how many values and letters a reading holds, each counted each time it is reached (what is shared counts as often as it is met; a slice's spare places count too). A statement '..UptoSaid' is the law's where the arguments, and the package variables that the reading takes, are together of bulk at most 1048576: NARROWER than '..Said'. Prove '..Said' where nothing that the law and all that it calls make is longer than what came in: it says more and counts as full. Else prove '..UptoSaid'. A law counts once. -/
mutual
def uptoBulk {H : Type} : DataW H → Nat
  | .lit (.string bytes) => bytes.length + 1
  | .lit _ => 1
  | .nil => 1
  | .ptr d => uptoBulk d + 1
  | .slice elems spare => uptoBulkAll elems + uptoBulkAll spare + 1
  | .agg parts => uptoBulkAll parts + 1
  | .iface _ d => uptoBulk d + 1
  | .map entries => uptoBulkEntries entries + 1
  | .held _ => 1
def uptoBulkAll {H : Type} : List (DataW H) → Nat
  | [] => 0
  | d :: r => uptoBulk d + uptoBulkAll r
def uptoBulkEntries {H : Type} : List (Lit × DataW H) → Nat
  | [] => 0
  | x :: r => uptoBulkEntry x + uptoBulkEntries r
def uptoBulkEntry {H : Type} : Lit × DataW H → Nat
  | (.string bytes, d) => bytes.length + uptoBulk d + 1
  | (_, d) => uptoBulk d + 1
 end
def uptoSmall : (H : Type) → List (DataW H) → Bool := fun _ ds => decide (uptoBulkAll ds ≤ 1048576)
def OpenSpec.upto (s : _root_.Go.ChangeSpec) : _root_.Go.OpenSpec := { _root_.Go.OpenSpec.ofChange s with cond := some uptoSmall }

/-- 'foresightlaw.TreeFar', WHERE WHAT IT READS IS OF BULK AT MOST 1048576: true; the input reads as it did. -/
def treeFarUptoRow : OpenClaim := { program := "ytogbmpnbbkcocaadoor", sum := "53535d3a7dc7dd27edba4b7faaad9e6bcf0b6ae6a08c0f1ad1be9bf374c83ecb", func := "foresight/foresightlaw.TreeFar", spec := "treeFar", inPlace := ["internal/reflectlite.ValueOf", "(internal/reflectlite.Value).Type", "(internal/reflectlite.Value).IsNil", "internal/reflectlite.TypeOf", "(internal/reflectlite.Value).Elem", "(internal/reflectlite.Value).Set"], unfollowed := true, recurses := true, named := ["errors.errorType"], apart := false, laid := [("errors.errorType", laid_errors_errorType)], narrowed := true }
def TreeFarUptoSaid : Prop := treeFarUptoRow.holds Tryd.pinned (OpenSpec.upto treeFarSpec)

/-- 'foresightlaw.TreeCenter', WHERE WHAT IT READS IS OF BULK AT MOST 1048576: true; the input reads as it did. -/
def treeCenterUptoRow : OpenClaim := { program := "ytogbmpnbbkcocaadoor", sum := "53535d3a7dc7dd27edba4b7faaad9e6bcf0b6ae6a08c0f1ad1be9bf374c83ecb", func := "foresight/foresightlaw.TreeCenter", spec := "treeCenter", inPlace := ["internal/reflectlite.ValueOf", "(internal/reflectlite.Value).Type", "(internal/reflectlite.Value).IsNil", "internal/reflectlite.TypeOf", "(internal/reflectlite.Value).Elem", "(internal/reflectlite.Value).Set"], unfollowed := true, recurses := true, named := ["errors.errorType"], apart := false, laid := [("errors.errorType", laid_errors_errorType)], narrowed := true }
def TreeCenterUptoSaid : Prop := treeCenterUptoRow.holds Tryd.pinned (OpenSpec.upto treeCenterSpec)

/-- 'foresightlaw.TreeMiddle', WHERE WHAT IT READS IS OF BULK AT MOST 1048576: true; the input reads as it did. -/
def treeMiddleUptoRow : OpenClaim := { program := "ytogbmpnbbkcocaadoor", sum := "53535d3a7dc7dd27edba4b7faaad9e6bcf0b6ae6a08c0f1ad1be9bf374c83ecb", func := "foresight/foresightlaw.TreeMiddle", spec := "treeMiddle", inPlace := ["internal/reflectlite.ValueOf", "(internal/reflectlite.Value).Type", "(internal/reflectlite.Value).IsNil", "internal/reflectlite.TypeOf", "(internal/reflectlite.Value).Elem", "(internal/reflectlite.Value).Set"], unfollowed := true, recurses := true, named := ["errors.errorType"], apart := false, laid := [("errors.errorType", laid_errors_errorType)], narrowed := true }
def TreeMiddleUptoSaid : Prop := treeMiddleUptoRow.holds Tryd.pinned (OpenSpec.upto treeMiddleSpec)

/-- 'foresightlaw.TreeSum', WHERE WHAT IT READS IS OF BULK AT MOST 1048576: true; the input reads as it did. -/
def treeSumUptoRow : OpenClaim := { program := "ytogbmpnbbkcocaadoor", sum := "53535d3a7dc7dd27edba4b7faaad9e6bcf0b6ae6a08c0f1ad1be9bf374c83ecb", func := "foresight/foresightlaw.TreeSum", spec := "treeSum", inPlace := ["internal/reflectlite.ValueOf", "(internal/reflectlite.Value).Type", "(internal/reflectlite.Value).IsNil", "internal/reflectlite.TypeOf", "(internal/reflectlite.Value).Elem", "(internal/reflectlite.Value).Set"], unfollowed := true, recurses := true, named := ["errors.errorType"], apart := false, laid := [("errors.errorType", laid_errors_errorType)], narrowed := true }
def TreeSumUptoSaid : Prop := treeSumUptoRow.holds Tryd.pinned (OpenSpec.upto treeSumSpec)

/-- 'foresightlaw.TripLong', WHERE WHAT IT READS IS OF BULK AT MOST 1048576: true; the input reads as it did. -/
def tripLongUptoRow : OpenClaim := { program := "ytogbmpnbbkcocaadoor", sum := "53535d3a7dc7dd27edba4b7faaad9e6bcf0b6ae6a08c0f1ad1be9bf374c83ecb", func := "foresight/foresightlaw.TripLong", spec := "tripLong", inPlace := ["internal/reflectlite.ValueOf", "(internal/reflectlite.Value).Type", "(internal/reflectlite.Value).IsNil", "internal/reflectlite.TypeOf", "(internal/reflectlite.Value).Elem", "(internal/reflectlite.Value).Set"], unfollowed := true, recurses := true, named := ["errors.errorType"], apart := false, laid := [("errors.errorType", laid_errors_errorType)], narrowed := true }
def TripLongUptoSaid : Prop := tripLongUptoRow.holds Tryd.pinned (OpenSpec.upto tripLongSpec)

/-- 'foresightlaw.TripRound', WHERE WHAT IT READS IS OF BULK AT MOST 1048576: true; the input reads as it did. -/
def tripRoundUptoRow : OpenClaim := { program := "ytogbmpnbbkcocaadoor", sum := "53535d3a7dc7dd27edba4b7faaad9e6bcf0b6ae6a08c0f1ad1be9bf374c83ecb", func := "foresight/foresightlaw.TripRound", spec := "tripRound", inPlace := ["internal/reflectlite.ValueOf", "(internal/reflectlite.Value).Type", "(internal/reflectlite.Value).IsNil", "internal/reflectlite.TypeOf", "(internal/reflectlite.Value).Elem", "(internal/reflectlite.Value).Set"], unfollowed := true, recurses := true, named := ["errors.errorType"], apart := false, laid := [("errors.errorType", laid_errors_errorType)], narrowed := true }
def TripRoundUptoSaid : Prop := tripRoundUptoRow.holds Tryd.pinned (OpenSpec.upto tripRoundSpec)

/-- 'foresightlaw.TripTree', WHERE WHAT IT READS IS OF BULK AT MOST 1048576: true; the input reads as it did. -/
def tripTreeUptoRow : OpenClaim := { program := "ytogbmpnbbkcocaadoor", sum := "53535d3a7dc7dd27edba4b7faaad9e6bcf0b6ae6a08c0f1ad1be9bf374c83ecb", func := "foresight/foresightlaw.TripTree", spec := "tripTree", inPlace := ["internal/reflectlite.ValueOf", "(internal/reflectlite.Value).Type", "(internal/reflectlite.Value).IsNil", "internal/reflectlite.TypeOf", "(internal/reflectlite.Value).Elem", "(internal/reflectlite.Value).Set"], unfollowed := true, recurses := true, named := ["errors.errorType"], apart := false, laid := [("errors.errorType", laid_errors_errorType)], narrowed := true }
def TripTreeUptoSaid : Prop := tripTreeUptoRow.holds Tryd.pinned (OpenSpec.upto tripTreeSpec)

/-- 'foresightlaw.TripBetter', WHERE WHAT IT READS IS OF BULK AT MOST 1048576: true; the input reads as it did. -/
def tripBetterUptoRow : OpenClaim := { program := "ytogbmpnbbkcocaadoor", sum := "53535d3a7dc7dd27edba4b7faaad9e6bcf0b6ae6a08c0f1ad1be9bf374c83ecb", func := "foresight/foresightlaw.TripBetter", spec := "tripBetter", inPlace := ["internal/reflectlite.ValueOf", "(internal/reflectlite.Value).Type", "(internal/reflectlite.Value).IsNil", "internal/reflectlite.TypeOf", "(internal/reflectlite.Value).Elem", "(internal/reflectlite.Value).Set"], unfollowed := true, recurses := true, named := ["errors.errorType"], apart := false, laid := [("errors.errorType", laid_errors_errorType)], narrowed := true }
def TripBetterUptoSaid : Prop := tripBetterUptoRow.holds Tryd.pinned (OpenSpec.upto tripBetterSpec)

/-- 'foresightlaw.TripSavings', WHERE WHAT IT READS IS OF BULK AT MOST 1048576: true; the input reads as it did. -/
def tripSavingsUptoRow : OpenClaim := { program := "ytogbmpnbbkcocaadoor", sum := "53535d3a7dc7dd27edba4b7faaad9e6bcf0b6ae6a08c0f1ad1be9bf374c83ecb", func := "foresight/foresightlaw.TripSavings", spec := "tripSavings", inPlace := ["internal/reflectlite.ValueOf", "(internal/reflectlite.Value).Type", "(internal/reflectlite.Value).IsNil", "internal/reflectlite.TypeOf", "(internal/reflectlite.Value).Elem", "(internal/reflectlite.Value).Set"], unfollowed := true, recurses := true, named := ["errors.errorType"], apart := false, laid := [("errors.errorType", laid_errors_errorType)], narrowed := true }
def TripSavingsUptoSaid : Prop := tripSavingsUptoRow.holds Tryd.pinned (OpenSpec.upto tripSavingsSpec)

end Rows
end Go.Proofs.YtogbmpnbbkcocaaDoor
