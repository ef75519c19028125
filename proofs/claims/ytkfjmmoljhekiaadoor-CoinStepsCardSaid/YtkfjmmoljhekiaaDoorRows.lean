/-
  NARROWER THAN 'FOR EVERY INPUT', by the rows' own cells (each row's printed sentence says how): PathWaits: laid · PathMany: laid · PathRuns: laid · CoinSteps: laid · LineOrder: laid · LineEnds: laid · LineCosts: laid · LineLawler: laid · LineJackson: laid · LineSmith: laid · LineMoore: laid.
  DERIVED. THE GIVEN ROWS OF THIS SEAT. 11 by the template 'for every input the law returns true; each argument reads behind the call as it read before'; 0 by the template 'total and deterministic' (their statements: YtkfjmmoljhekiaaDoorTotals.lean).
  GIVEN WITH THE SEED: the statements are not yours to turn. If you find one false, say at which input.
  Laid BY PROGRAM, IN A SANDBOX (cutbox-rows.mjs): the forced cells as the released guide's own fill.sh prints them over the translation 229e3767fb349e78… (all of the seat's roots in one cut). By AI agents, Wed Nov 11 2026. No macro, syntax, notation, axiom, sorry.
-/
import Derived.Test.YtkfjmmoljhekiaaDoorChecked
import GoSem.Claim
import GoSem.ClaimJoined
import GoSem.ClaimMapViews
import Derived.JoinedTies
import Derived.KernelRfl
namespace Go.Proofs.YtkfjmmoljhekiaaDoor
/- THE CELL 'sum', in the pinned program and in every row, IS THE sha256 OF THE DUMP (.gsa) THAT YtkfjmmoljhekiaaDoorProg.lean LOADS. Nothing in Lean hashes anything: it is a label: what it is worth is what the hold of that sum in a sandbox is worth. -/
noncomputable def Tryd.pinned : Pinned := { name := "ytkfjmmoljhekiaadoor", sum := "229e3767fb349e78cc8b57ea98a096f92e45920459f647d6e9d6eace11f1e4ae", checked := Tryd.checked }
namespace Rows
def none {H : Type} : Left H := { results := [], args := [] }

/- WHAT THE LISTED PACKAGE-LEVEL VARIABLES READ AS WHEN THE CALL BEGINS. Each datum BY PROGRAM (the guide's laid-datum.mjs) off the statement by which the dump's own 'gosem.cut.vars' lays the variable. In a bare row this is a premise. The card (YtkfjmmoljhekiaaDoorCards.lean) ties it to the program's text. -/
def laid_errors_errorType {H : Type} : DataW H := .iface "internal/reflectlite.rtype" (.agg [.ptr (.lit (.string [101, 114, 114, 111, 114]))])

/-- 'foresightlaw.PathWaits': WHATEVER THE INPUT: true; the input reads as it did. -/
def pathWaitsSpec : ChangeSpec := { name := "pathWaits", fn := fun _ => fun
  | [d] => { results := [.lit (.bool true)], args := [d] }
  | _ => none }
def pathWaitsRow : OpenClaim := { program := "ytkfjmmoljhekiaadoor", sum := "229e3767fb349e78cc8b57ea98a096f92e45920459f647d6e9d6eace11f1e4ae", func := "foresight/foresightlaw.PathWaits", spec := "pathWaits", inPlace := ["internal/reflectlite.ValueOf", "(internal/reflectlite.Value).Type", "(internal/reflectlite.Value).IsNil", "internal/reflectlite.TypeOf", "(internal/reflectlite.Value).Elem", "(internal/reflectlite.Value).Set"], unfollowed := true, recurses := true, named := ["errors.errorType"], apart := false, laid := [("errors.errorType", laid_errors_errorType)] }
def PathWaitsSaid : Prop := pathWaitsRow.holds Tryd.pinned (OpenSpec.ofChange pathWaitsSpec)

/-- ITS FALSE NEIGHBOUR: 'it returns false'. Refute it at one input. -/
def pathWaitsWrong : ChangeSpec := { name := "pathWaits", fn := fun _ => fun
  | [d] => { results := [.lit (.bool false)], args := [d] }
  | _ => none }
def PathWaitsWrongFalsely : Prop := pathWaitsRow.holds Tryd.pinned (OpenSpec.ofChange pathWaitsWrong)

/-- 'foresightlaw.PathMany': WHATEVER THE INPUT: true; the input reads as it did. -/
def pathManySpec : ChangeSpec := { name := "pathMany", fn := fun _ => fun
  | [d1, d2] => { results := [.lit (.bool true)], args := [d1, d2] }
  | _ => none }
def pathManyRow : OpenClaim := { program := "ytkfjmmoljhekiaadoor", sum := "229e3767fb349e78cc8b57ea98a096f92e45920459f647d6e9d6eace11f1e4ae", func := "foresight/foresightlaw.PathMany", spec := "pathMany", inPlace := ["internal/reflectlite.ValueOf", "(internal/reflectlite.Value).Type", "(internal/reflectlite.Value).IsNil", "internal/reflectlite.TypeOf", "(internal/reflectlite.Value).Elem", "(internal/reflectlite.Value).Set"], unfollowed := true, recurses := true, named := ["errors.errorType"], apart := false, laid := [("errors.errorType", laid_errors_errorType)] }
def PathManySaid : Prop := pathManyRow.holds Tryd.pinned (OpenSpec.ofChange pathManySpec)

/-- ITS FALSE NEIGHBOUR: 'it returns false'. Refute it at one input. -/
def pathManyWrong : ChangeSpec := { name := "pathMany", fn := fun _ => fun
  | [d1, d2] => { results := [.lit (.bool false)], args := [d1, d2] }
  | _ => none }
def PathManyWrongFalsely : Prop := pathManyRow.holds Tryd.pinned (OpenSpec.ofChange pathManyWrong)

/-- 'foresightlaw.PathRuns': WHATEVER THE INPUT: true; the input reads as it did. -/
def pathRunsSpec : ChangeSpec := { name := "pathRuns", fn := fun _ => fun
  | [d1, d2] => { results := [.lit (.bool true)], args := [d1, d2] }
  | _ => none }
def pathRunsRow : OpenClaim := { program := "ytkfjmmoljhekiaadoor", sum := "229e3767fb349e78cc8b57ea98a096f92e45920459f647d6e9d6eace11f1e4ae", func := "foresight/foresightlaw.PathRuns", spec := "pathRuns", inPlace := ["internal/reflectlite.ValueOf", "(internal/reflectlite.Value).Type", "(internal/reflectlite.Value).IsNil", "internal/reflectlite.TypeOf", "(internal/reflectlite.Value).Elem", "(internal/reflectlite.Value).Set"], unfollowed := true, recurses := true, named := ["errors.errorType"], apart := false, laid := [("errors.errorType", laid_errors_errorType)] }
def PathRunsSaid : Prop := pathRunsRow.holds Tryd.pinned (OpenSpec.ofChange pathRunsSpec)

/-- ITS FALSE NEIGHBOUR: 'it returns false'. Refute it at one input. -/
def pathRunsWrong : ChangeSpec := { name := "pathRuns", fn := fun _ => fun
  | [d1, d2] => { results := [.lit (.bool false)], args := [d1, d2] }
  | _ => none }
def PathRunsWrongFalsely : Prop := pathRunsRow.holds Tryd.pinned (OpenSpec.ofChange pathRunsWrong)

/-- 'foresightlaw.CoinSteps': WHATEVER THE INPUT: true; the input reads as it did. -/
def coinStepsSpec : ChangeSpec := { name := "coinSteps", fn := fun _ => fun
  | [d1, d2] => { results := [.lit (.bool true)], args := [d1, d2] }
  | _ => none }
def coinStepsRow : OpenClaim := { program := "ytkfjmmoljhekiaadoor", sum := "229e3767fb349e78cc8b57ea98a096f92e45920459f647d6e9d6eace11f1e4ae", func := "foresight/foresightlaw.CoinSteps", spec := "coinSteps", inPlace := ["internal/reflectlite.ValueOf", "(internal/reflectlite.Value).Type", "(internal/reflectlite.Value).IsNil", "internal/reflectlite.TypeOf", "(internal/reflectlite.Value).Elem", "(internal/reflectlite.Value).Set"], unfollowed := true, recurses := true, named := ["errors.errorType"], apart := false, laid := [("errors.errorType", laid_errors_errorType)] }
def CoinStepsSaid : Prop := coinStepsRow.holds Tryd.pinned (OpenSpec.ofChange coinStepsSpec)

/-- ITS FALSE NEIGHBOUR: 'it returns false'. Refute it at one input. -/
def coinStepsWrong : ChangeSpec := { name := "coinSteps", fn := fun _ => fun
  | [d1, d2] => { results := [.lit (.bool false)], args := [d1, d2] }
  | _ => none }
def CoinStepsWrongFalsely : Prop := coinStepsRow.holds Tryd.pinned (OpenSpec.ofChange coinStepsWrong)

/-- 'foresightlaw.LineOrder': WHATEVER THE INPUT: true; the input reads as it did. -/
def lineOrderSpec : ChangeSpec := { name := "lineOrder", fn := fun _ => fun
  | [d1, d2, d3] => { results := [.lit (.bool true)], args := [d1, d2, d3] }
  | _ => none }
def lineOrderRow : OpenClaim := { program := "ytkfjmmoljhekiaadoor", sum := "229e3767fb349e78cc8b57ea98a096f92e45920459f647d6e9d6eace11f1e4ae", func := "foresight/foresightlaw.LineOrder", spec := "lineOrder", inPlace := ["internal/reflectlite.ValueOf", "(internal/reflectlite.Value).Type", "(internal/reflectlite.Value).IsNil", "internal/reflectlite.TypeOf", "(internal/reflectlite.Value).Elem", "(internal/reflectlite.Value).Set"], unfollowed := true, recurses := true, named := ["errors.errorType"], apart := false, laid := [("errors.errorType", laid_errors_errorType)] }
def LineOrderSaid : Prop := lineOrderRow.holds Tryd.pinned (OpenSpec.ofChange lineOrderSpec)

/-- ITS FALSE NEIGHBOUR: 'it returns false'. Refute it at one input. -/
def lineOrderWrong : ChangeSpec := { name := "lineOrder", fn := fun _ => fun
  | [d1, d2, d3] => { results := [.lit (.bool false)], args := [d1, d2, d3] }
  | _ => none }
def LineOrderWrongFalsely : Prop := lineOrderRow.holds Tryd.pinned (OpenSpec.ofChange lineOrderWrong)

/-- 'foresightlaw.LineEnds': WHATEVER THE INPUT: true; the input reads as it did. -/
def lineEndsSpec : ChangeSpec := { name := "lineEnds", fn := fun _ => fun
  | [d1, d2] => { results := [.lit (.bool true)], args := [d1, d2] }
  | _ => none }
def lineEndsRow : OpenClaim := { program := "ytkfjmmoljhekiaadoor", sum := "229e3767fb349e78cc8b57ea98a096f92e45920459f647d6e9d6eace11f1e4ae", func := "foresight/foresightlaw.LineEnds", spec := "lineEnds", inPlace := ["internal/reflectlite.ValueOf", "(internal/reflectlite.Value).Type", "(internal/reflectlite.Value).IsNil", "internal/reflectlite.TypeOf", "(internal/reflectlite.Value).Elem", "(internal/reflectlite.Value).Set"], unfollowed := true, recurses := true, named := ["errors.errorType"], apart := false, laid := [("errors.errorType", laid_errors_errorType)] }
def LineEndsSaid : Prop := lineEndsRow.holds Tryd.pinned (OpenSpec.ofChange lineEndsSpec)

/-- ITS FALSE NEIGHBOUR: 'it returns false'. Refute it at one input. -/
def lineEndsWrong : ChangeSpec := { name := "lineEnds", fn := fun _ => fun
  | [d1, d2] => { results := [.lit (.bool false)], args := [d1, d2] }
  | _ => none }
def LineEndsWrongFalsely : Prop := lineEndsRow.holds Tryd.pinned (OpenSpec.ofChange lineEndsWrong)

/-- 'foresightlaw.LineCosts': WHATEVER THE INPUT: true; the input reads as it did. -/
def lineCostsSpec : ChangeSpec := { name := "lineCosts", fn := fun _ => fun
  | [d1, d2] => { results := [.lit (.bool true)], args := [d1, d2] }
  | _ => none }
def lineCostsRow : OpenClaim := { program := "ytkfjmmoljhekiaadoor", sum := "229e3767fb349e78cc8b57ea98a096f92e45920459f647d6e9d6eace11f1e4ae", func := "foresight/foresightlaw.LineCosts", spec := "lineCosts", inPlace := ["internal/reflectlite.ValueOf", "(internal/reflectlite.Value).Type", "(internal/reflectlite.Value).IsNil", "internal/reflectlite.TypeOf", "(internal/reflectlite.Value).Elem", "(internal/reflectlite.Value).Set"], unfollowed := true, recurses := true, named := ["errors.errorType"], apart := false, laid := [("errors.errorType", laid_errors_errorType)] }
def LineCostsSaid : Prop := lineCostsRow.holds Tryd.pinned (OpenSpec.ofChange lineCostsSpec)

/-- ITS FALSE NEIGHBOUR: 'it returns false'. Refute it at one input. -/
def lineCostsWrong : ChangeSpec := { name := "lineCosts", fn := fun _ => fun
  | [d1, d2] => { results := [.lit (.bool false)], args := [d1, d2] }
  | _ => none }
def LineCostsWrongFalsely : Prop := lineCostsRow.holds Tryd.pinned (OpenSpec.ofChange lineCostsWrong)

/-- 'foresightlaw.LineLawler': WHATEVER THE INPUT: true; the input reads as it did. -/
def lineLawlerSpec : ChangeSpec := { name := "lineLawler", fn := fun _ => fun
  | [d1, d2] => { results := [.lit (.bool true)], args := [d1, d2] }
  | _ => none }
def lineLawlerRow : OpenClaim := { program := "ytkfjmmoljhekiaadoor", sum := "229e3767fb349e78cc8b57ea98a096f92e45920459f647d6e9d6eace11f1e4ae", func := "foresight/foresightlaw.LineLawler", spec := "lineLawler", inPlace := ["internal/reflectlite.ValueOf", "(internal/reflectlite.Value).Type", "(internal/reflectlite.Value).IsNil", "internal/reflectlite.TypeOf", "(internal/reflectlite.Value).Elem", "(internal/reflectlite.Value).Set"], unfollowed := true, recurses := true, named := ["errors.errorType"], apart := false, laid := [("errors.errorType", laid_errors_errorType)] }
def LineLawlerSaid : Prop := lineLawlerRow.holds Tryd.pinned (OpenSpec.ofChange lineLawlerSpec)

/-- ITS FALSE NEIGHBOUR: 'it returns false'. Refute it at one input. -/
def lineLawlerWrong : ChangeSpec := { name := "lineLawler", fn := fun _ => fun
  | [d1, d2] => { results := [.lit (.bool false)], args := [d1, d2] }
  | _ => none }
def LineLawlerWrongFalsely : Prop := lineLawlerRow.holds Tryd.pinned (OpenSpec.ofChange lineLawlerWrong)

/-- 'foresightlaw.LineJackson': WHATEVER THE INPUT: true; the input reads as it did. -/
def lineJacksonSpec : ChangeSpec := { name := "lineJackson", fn := fun _ => fun
  | [d] => { results := [.lit (.bool true)], args := [d] }
  | _ => none }
def lineJacksonRow : OpenClaim := { program := "ytkfjmmoljhekiaadoor", sum := "229e3767fb349e78cc8b57ea98a096f92e45920459f647d6e9d6eace11f1e4ae", func := "foresight/foresightlaw.LineJackson", spec := "lineJackson", inPlace := ["internal/reflectlite.ValueOf", "(internal/reflectlite.Value).Type", "(internal/reflectlite.Value).IsNil", "internal/reflectlite.TypeOf", "(internal/reflectlite.Value).Elem", "(internal/reflectlite.Value).Set"], unfollowed := true, recurses := true, named := ["errors.errorType"], apart := false, laid := [("errors.errorType", laid_errors_errorType)] }
def LineJacksonSaid : Prop := lineJacksonRow.holds Tryd.pinned (OpenSpec.ofChange lineJacksonSpec)

/-- ITS FALSE NEIGHBOUR: 'it returns false'. Refute it at one input. -/
def lineJacksonWrong : ChangeSpec := { name := "lineJackson", fn := fun _ => fun
  | [d] => { results := [.lit (.bool false)], args := [d] }
  | _ => none }
def LineJacksonWrongFalsely : Prop := lineJacksonRow.holds Tryd.pinned (OpenSpec.ofChange lineJacksonWrong)

/-- 'foresightlaw.LineSmith': WHATEVER THE INPUT: true; the input reads as it did. -/
def lineSmithSpec : ChangeSpec := { name := "lineSmith", fn := fun _ => fun
  | [d] => { results := [.lit (.bool true)], args := [d] }
  | _ => none }
def lineSmithRow : OpenClaim := { program := "ytkfjmmoljhekiaadoor", sum := "229e3767fb349e78cc8b57ea98a096f92e45920459f647d6e9d6eace11f1e4ae", func := "foresight/foresightlaw.LineSmith", spec := "lineSmith", inPlace := ["internal/reflectlite.ValueOf", "(internal/reflectlite.Value).Type", "(internal/reflectlite.Value).IsNil", "internal/reflectlite.TypeOf", "(internal/reflectlite.Value).Elem", "(internal/reflectlite.Value).Set"], unfollowed := true, recurses := true, named := ["errors.errorType"], apart := false, laid := [("errors.errorType", laid_errors_errorType)] }
def LineSmithSaid : Prop := lineSmithRow.holds Tryd.pinned (OpenSpec.ofChange lineSmithSpec)

/-- ITS FALSE NEIGHBOUR: 'it returns false'. Refute it at one input. -/
def lineSmithWrong : ChangeSpec := { name := "lineSmith", fn := fun _ => fun
  | [d] => { results := [.lit (.bool false)], args := [d] }
  | _ => none }
def LineSmithWrongFalsely : Prop := lineSmithRow.holds Tryd.pinned (OpenSpec.ofChange lineSmithWrong)

/-- 'foresightlaw.LineMoore': WHATEVER THE INPUT: true; the input reads as it did. -/
def lineMooreSpec : ChangeSpec := { name := "lineMoore", fn := fun _ => fun
  | [d] => { results := [.lit (.bool true)], args := [d] }
  | _ => none }
def lineMooreRow : OpenClaim := { program := "ytkfjmmoljhekiaadoor", sum := "229e3767fb349e78cc8b57ea98a096f92e45920459f647d6e9d6eace11f1e4ae", func := "foresight/foresightlaw.LineMoore", spec := "lineMoore", inPlace := ["internal/reflectlite.ValueOf", "(internal/reflectlite.Value).Type", "(internal/reflectlite.Value).IsNil", "internal/reflectlite.TypeOf", "(internal/reflectlite.Value).Elem", "(internal/reflectlite.Value).Set"], unfollowed := true, recurses := true, named := ["errors.errorType"], apart := false, laid := [("errors.errorType", laid_errors_errorType)] }
def LineMooreSaid : Prop := lineMooreRow.holds Tryd.pinned (OpenSpec.ofChange lineMooreSpec)

/-- ITS FALSE NEIGHBOUR: 'it returns false'. Refute it at one input. -/
def lineMooreWrong : ChangeSpec := { name := "lineMoore", fn := fun _ => fun
  | [d] => { results := [.lit (.bool false)], args := [d] }
  | _ => none }
def LineMooreWrongFalsely : Prop := lineMooreRow.holds Tryd.pinned (OpenSpec.ofChange lineMooreWrong)

/- THE SECOND FORM. 'bulk': how many values and letters a reading holds, each counted each time it is reached (what is shared counts as often as it is met; a slice's spare places count too). A statement '..UptoSaid' is the law's where the arguments, and the package variables that the reading takes, are together of bulk at most 1048576: NARROWER than '..Said'. Prove '..Said' where nothing that the law and all that it calls make is longer than what came in: it says more and counts as full. Else prove '..UptoSaid'. A law counts once. -/
mutual
def uptoBulk {H : Type} : DataW H → Nat
  | .lit (.string bytes) => bytes.length + 1
  | .lit _ => 1
  | .nil => 1
  | .ptr d => uptoBulk d + 1
  | .slice elems spare => uptoBulkAll elems + uptoBulkAll spare + 1
  | .agg parts => uptoBulkAll parts + 1
  | .iface _ d => uptoBulk d + 1
  | .map entries => uptoBulkEntries entries + 1
  | .held _ => 1
def uptoBulkAll {H : Type} : List (DataW H) → Nat
  | [] => 0
  | d :: r => uptoBulk d + uptoBulkAll r
def uptoBulkEntries {H : Type} : List (Lit × DataW H) → Nat
  | [] => 0
  | x :: r => uptoBulkEntry x + uptoBulkEntries r
def uptoBulkEntry {H : Type} : Lit × DataW H → Nat
  | (.string bytes, d) => bytes.length + uptoBulk d + 1
  | (_, d) => uptoBulk d + 1
 end
def uptoSmall : (H : Type) → List (DataW H) → Bool := fun _ ds => decide (uptoBulkAll ds ≤ 1048576)
def OpenSpec.upto (s : _root_.Go.ChangeSpec) : _root_.Go.OpenSpec := { _root_.Go.OpenSpec.ofChange s with cond := some uptoSmall }

/-- 'foresightlaw.PathWaits', WHERE WHAT IT READS IS OF BULK AT MOST 1048576: true; the input reads as it did. -/
def pathWaitsUptoRow : OpenClaim := { program := "ytkfjmmoljhekiaadoor", sum := "229e3767fb349e78cc8b57ea98a096f92e45920459f647d6e9d6eace11f1e4ae", func := "foresight/foresightlaw.PathWaits", spec := "pathWaits", inPlace := ["internal/reflectlite.ValueOf", "(internal/reflectlite.Value).Type", "(internal/reflectlite.Value).IsNil", "internal/reflectlite.TypeOf", "(internal/reflectlite.Value).Elem", "(internal/reflectlite.Value).Set"], unfollowed := true, recurses := true, named := ["errors.errorType"], apart := false, laid := [("errors.errorType", laid_errors_errorType)], narrowed := true }
def PathWaitsUptoSaid : Prop := pathWaitsUptoRow.holds Tryd.pinned (OpenSpec.upto pathWaitsSpec)

/-- 'foresightlaw.PathMany', WHERE WHAT IT READS IS OF BULK AT MOST 1048576: true; the input reads as it did. -/
def pathManyUptoRow : OpenClaim := { program := "ytkfjmmoljhekiaadoor", sum := "229e3767fb349e78cc8b57ea98a096f92e45920459f647d6e9d6eace11f1e4ae", func := "foresight/foresightlaw.PathMany", spec := "pathMany", inPlace := ["internal/reflectlite.ValueOf", "(internal/reflectlite.Value).Type", "(internal/reflectlite.Value).IsNil", "internal/reflectlite.TypeOf", "(internal/reflectlite.Value).Elem", "(internal/reflectlite.Value).Set"], unfollowed := true, recurses := true, named := ["errors.errorType"], apart := false, laid := [("errors.errorType", laid_errors_errorType)], narrowed := true }
def PathManyUptoSaid : Prop := pathManyUptoRow.holds Tryd.pinned (OpenSpec.upto pathManySpec)

/-- 'foresightlaw.PathRuns', WHERE WHAT IT READS IS OF BULK AT MOST 1048576: true; the input reads as it did. -/
def pathRunsUptoRow : OpenClaim := { program := "ytkfjmmoljhekiaadoor", sum := "229e3767fb349e78cc8b57ea98a096f92e45920459f647d6e9d6eace11f1e4ae", func := "foresight/foresightlaw.PathRuns", spec := "pathRuns", inPlace := ["internal/reflectlite.ValueOf", "(internal/reflectlite.Value).Type", "(internal/reflectlite.Value).IsNil", "internal/reflectlite.TypeOf", "(internal/reflectlite.Value).Elem", "(internal/reflectlite.Value).Set"], unfollowed := true, recurses := true, named := ["errors.errorType"], apart := false, laid := [("errors.errorType", laid_errors_errorType)], narrowed := true }
def PathRunsUptoSaid : Prop := pathRunsUptoRow.holds Tryd.pinned (OpenSpec.upto pathRunsSpec)

/-- 'foresightlaw.CoinSteps', WHERE WHAT IT READS IS OF BULK AT MOST 1048576: true; the input reads as it did. -/
def coinStepsUptoRow : OpenClaim := { program := "ytkfjmmoljhekiaadoor", sum := "229e3767fb349e78cc8b57ea98a096f92e45920459f647d6e9d6eace11f1e4ae", func := "foresight/foresightlaw.CoinSteps", spec := "coinSteps", inPlace := ["internal/reflectlite.ValueOf", "(internal/reflectlite.Value).Type", "(internal/reflectlite.Value).IsNil", "internal/reflectlite.TypeOf", "(internal/reflectlite.Value).Elem", "(internal/reflectlite.Value).Set"], unfollowed := true, recurses := true, named := ["errors.errorType"], apart := false, laid := [("errors.errorType", laid_errors_errorType)], narrowed := true }
def CoinStepsUptoSaid : Prop := coinStepsUptoRow.holds Tryd.pinned (OpenSpec.upto coinStepsSpec)

/-- 'foresightlaw.LineOrder', WHERE WHAT IT READS IS OF BULK AT MOST 1048576: true; the input reads as it did. -/
def lineOrderUptoRow : OpenClaim := { program := "ytkfjmmoljhekiaadoor", sum := "229e3767fb349e78cc8b57ea98a096f92e45920459f647d6e9d6eace11f1e4ae", func := "foresight/foresightlaw.LineOrder", spec := "lineOrder", inPlace := ["internal/reflectlite.ValueOf", "(internal/reflectlite.Value).Type", "(internal/reflectlite.Value).IsNil", "internal/reflectlite.TypeOf", "(internal/reflectlite.Value).Elem", "(internal/reflectlite.Value).Set"], unfollowed := true, recurses := true, named := ["errors.errorType"], apart := false, laid := [("errors.errorType", laid_errors_errorType)], narrowed := true }
def LineOrderUptoSaid : Prop := lineOrderUptoRow.holds Tryd.pinned (OpenSpec.upto lineOrderSpec)

/-- 'foresightlaw.LineEnds', WHERE WHAT IT READS IS OF BULK AT MOST 1048576: true; the input reads as it did. -/
def lineEndsUptoRow : OpenClaim := { program := "ytkfjmmoljhekiaadoor", sum := "229e3767fb349e78cc8b57ea98a096f92e45920459f647d6e9d6eace11f1e4ae", func := "foresight/foresightlaw.LineEnds", spec := "lineEnds", inPlace := ["internal/reflectlite.ValueOf", "(internal/reflectlite.Value).Type", "(internal/reflectlite.Value).IsNil", "internal/reflectlite.TypeOf", "(internal/reflectlite.Value).Elem", "(internal/reflectlite.Value).Set"], unfollowed := true, recurses := true, named := ["errors.errorType"], apart := false, laid := [("errors.errorType", laid_errors_errorType)], narrowed := true }
def LineEndsUptoSaid : Prop := lineEndsUptoRow.holds Tryd.pinned (OpenSpec.upto lineEndsSpec)

/-- 'foresightlaw.LineCosts', WHERE WHAT IT READS IS OF BULK AT MOST 1048576: true; the input reads as it did. -/
def lineCostsUptoRow : OpenClaim := { program := "ytkfjmmoljhekiaadoor", sum := "229e3767fb349e78cc8b57ea98a096f92e45920459f647d6e9d6eace11f1e4ae", func := "foresight/foresightlaw.LineCosts", spec := "lineCosts", inPlace := ["internal/reflectlite.ValueOf", "(internal/reflectlite.Value).Type", "(internal/reflectlite.Value).IsNil", "internal/reflectlite.TypeOf", "(internal/reflectlite.Value).Elem", "(internal/reflectlite.Value).Set"], unfollowed := true, recurses := true, named := ["errors.errorType"], apart := false, laid := [("errors.errorType", laid_errors_errorType)], narrowed := true }
def LineCostsUptoSaid : Prop := lineCostsUptoRow.holds Tryd.pinned (OpenSpec.upto lineCostsSpec)

/-- 'foresightlaw.LineLawler', WHERE WHAT IT READS IS OF BULK AT MOST 1048576: true; the input reads as it did. -/
def lineLawlerUptoRow : OpenClaim := { program := "ytkfjmmoljhekiaadoor", sum := "229e3767fb349e78cc8b57ea98a096f92e45920459f647d6e9d6eace11f1e4ae", func := "foresight/foresightlaw.LineLawler", spec := "lineLawler", inPlace := ["internal/reflectlite.ValueOf", "(internal/reflectlite.Value).Type", "(internal/reflectlite.Value).IsNil", "internal/reflectlite.TypeOf", "(internal/reflectlite.Value).Elem", "(internal/reflectlite.Value).Set"], unfollowed := true, recurses := true, named := ["errors.errorType"], apart := false, laid := [("errors.errorType", laid_errors_errorType)], narrowed := true }
def LineLawlerUptoSaid : Prop := lineLawlerUptoRow.holds Tryd.pinned (OpenSpec.upto lineLawlerSpec)

/-- 'foresightlaw.LineJackson', WHERE WHAT IT READS IS OF BULK AT MOST 1048576: true; the input reads as it did. -/
def lineJacksonUptoRow : OpenClaim := { program := "ytkfjmmoljhekiaadoor", sum := "229e3767fb349e78cc8b57ea98a096f92e45920459f647d6e9d6eace11f1e4ae", func := "foresight/foresightlaw.LineJackson", spec := "lineJackson", inPlace := ["internal/reflectlite.ValueOf", "(internal/reflectlite.Value).Type", "(internal/reflectlite.Value).IsNil", "internal/reflectlite.TypeOf", "(internal/reflectlite.Value).Elem", "(internal/reflectlite.Value).Set"], unfollowed := true, recurses := true, named := ["errors.errorType"], apart := false, laid := [("errors.errorType", laid_errors_errorType)], narrowed := true }
def LineJacksonUptoSaid : Prop := lineJacksonUptoRow.holds Tryd.pinned (OpenSpec.upto lineJacksonSpec)

/-- 'foresightlaw.LineSmith', WHERE WHAT IT READS IS OF BULK AT MOST 1048576: true; the input reads as it did. -/
def lineSmithUptoRow : OpenClaim := { program := "ytkfjmmoljhekiaadoor", sum := "229e3767fb349e78cc8b57ea98a096f92e45920459f647d6e9d6eace11f1e4ae", func := "foresight/foresightlaw.LineSmith", spec := "lineSmith", inPlace := ["internal/reflectlite.ValueOf", "(internal/reflectlite.Value).Type", "(internal/reflectlite.Value).IsNil", "internal/reflectlite.TypeOf", "(internal/reflectlite.Value).Elem", "(internal/reflectlite.Value).Set"], unfollowed := true, recurses := true, named := ["errors.errorType"], apart := false, laid := [("errors.errorType", laid_errors_errorType)], narrowed := true }
def LineSmithUptoSaid : Prop := lineSmithUptoRow.holds Tryd.pinned (OpenSpec.upto lineSmithSpec)

/-- 'foresightlaw.LineMoore', WHERE WHAT IT READS IS OF BULK AT MOST 1048576: true; the input reads as it did. -/
def lineMooreUptoRow : OpenClaim := { program := "ytkfjmmoljhekiaadoor", sum := "229e3767fb349e78cc8b57ea98a096f92e45920459f647d6e9d6eace11f1e4ae", func := "foresight/foresightlaw.LineMoore", spec := "lineMoore", inPlace := ["internal/reflectlite.ValueOf", "(internal/reflectlite.Value).Type", "(internal/reflectlite.Value).IsNil", "internal/reflectlite.TypeOf", "(internal/reflectlite.Value).Elem", "(internal/reflectlite.Value).Set"], unfollowed := true, recurses := true, named := ["errors.errorType"], apart := false, laid := [("errors.errorType", laid_errors_errorType)], narrowed := true }
def LineMooreUptoSaid : Prop := lineMooreUptoRow.holds Tryd.pinned (OpenSpec.upto lineMooreSpec)

end Rows
end Go.Proofs.YtkfjmmoljhekiaaDoor
