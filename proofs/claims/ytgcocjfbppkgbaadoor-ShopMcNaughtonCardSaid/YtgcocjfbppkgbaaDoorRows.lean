/-
  NARROWER THAN 'FOR EVERY INPUT', by the rows' own cells (each row's printed sentence says how): RiskWorks: laid · RiskSets: laid · ShopFlow: laid · ShopMcNaughton: laid · ShopList: laid · ShopLongest: laid · ShopJohnson: laid · ShopHu: laid · LotsCost: laid · LotsPlan: laid · TapePlays: laid.
  DERIVED. THE GIVEN ROWS OF THIS SEAT. 11 by the template 'for every input the law returns true; each argument reads behind the call as it read before'; 0 by the template 'total and deterministic' (their statements: YtgcocjfbppkgbaaDoorTotals.lean).
  GIVEN WITH THE SEED: the statements are not yours to turn. If you find one false, say at which input.
  Laid BY PROGRAM, IN A SANDBOX (cutbox-rows.mjs): the forced cells as the released guide's own fill.sh prints them over the translation a31fc5cf1dfb2c14… (all of the seat's roots in one cut). By AI agents, Wed Nov 11 2026. No macro, syntax, notation, axiom, sorry.
-/
import Derived.Test.YtgcocjfbppkgbaaDoorChecked
import GoSem.Claim
import GoSem.ClaimJoined
import GoSem.ClaimMapViews
import Derived.JoinedTies
import Derived.KernelRfl
namespace Go.Proofs.YtgcocjfbppkgbaaDoor
/- THE CELL 'sum', in the pinned program and in every row, IS THE sha256 OF THE DUMP (.gsa) THAT YtgcocjfbppkgbaaDoorProg.lean LOADS. Nothing in Lean hashes anything: it is a label: what it is worth is what the hold of that sum in a sandbox is worth. -/
noncomputable def Tryd.pinned : Pinned := { name := "ytgcocjfbppkgbaadoor", sum := "a31fc5cf1dfb2c14f8e29b1d4f0d52dc1dc7a2bcf7a5fbaf885ae6e5bc1e84ad", checked := Tryd.checked }
namespace Rows
def none {H : Type} : Left H := { results := [], args := [] }

/- WHAT THE LISTED PACKAGE-LEVEL VARIABLES READ AS WHEN THE CALL BEGINS. Each datum BY PROGRAM (the guide's laid-datum.mjs) off the statement by which the dump's own 'gosem.cut.vars' lays the variable. In a bare row this is a premise. The card (YtgcocjfbppkgbaaDoorCards.lean) ties it to the program's text. -/
def laid_errors_errorType {H : Type} : DataW H := .iface "internal/reflectlite.rtype" (.agg [.ptr (.lit (.string [101, 114, 114, 111, 114]))])

/-- 'foresightlaw.RiskWorks': WHATEVER THE INPUT: true; the input reads as it did. -/
def riskWorksSpec : ChangeSpec := { name := "riskWorks", fn := fun _ => fun
  | [d1, d2] => { results := [.lit (.bool true)], args := [d1, d2] }
  | _ => none }
def riskWorksRow : OpenClaim := { program := "ytgcocjfbppkgbaadoor", sum := "a31fc5cf1dfb2c14f8e29b1d4f0d52dc1dc7a2bcf7a5fbaf885ae6e5bc1e84ad", func := "foresight/foresightlaw.RiskWorks", spec := "riskWorks", inPlace := ["internal/reflectlite.ValueOf", "(internal/reflectlite.Value).Type", "(internal/reflectlite.Value).IsNil", "internal/reflectlite.TypeOf", "(internal/reflectlite.Value).Elem", "(internal/reflectlite.Value).Set"], unfollowed := true, recurses := true, named := ["errors.errorType"], apart := false, laid := [("errors.errorType", laid_errors_errorType)] }
def RiskWorksSaid : Prop := riskWorksRow.holds Tryd.pinned (OpenSpec.ofChange riskWorksSpec)

/-- ITS FALSE NEIGHBOUR: 'it returns false'. Refute it at one input. -/
def riskWorksWrong : ChangeSpec := { name := "riskWorks", fn := fun _ => fun
  | [d1, d2] => { results := [.lit (.bool false)], args := [d1, d2] }
  | _ => none }
def RiskWorksWrongFalsely : Prop := riskWorksRow.holds Tryd.pinned (OpenSpec.ofChange riskWorksWrong)

/-- 'foresightlaw.RiskSets': WHATEVER THE INPUT: true; the input reads as it did. -/
def riskSetsSpec : ChangeSpec := { name := "riskSets", fn := fun _ => fun
  | [d1, d2] => { results := [.lit (.bool true)], args := [d1, d2] }
  | _ => none }
def riskSetsRow : OpenClaim := { program := "ytgcocjfbppkgbaadoor", sum := "a31fc5cf1dfb2c14f8e29b1d4f0d52dc1dc7a2bcf7a5fbaf885ae6e5bc1e84ad", func := "foresight/foresightlaw.RiskSets", spec := "riskSets", inPlace := ["internal/reflectlite.ValueOf", "(internal/reflectlite.Value).Type", "(internal/reflectlite.Value).IsNil", "internal/reflectlite.TypeOf", "(internal/reflectlite.Value).Elem", "(internal/reflectlite.Value).Set"], unfollowed := true, recurses := true, named := ["errors.errorType"], apart := false, laid := [("errors.errorType", laid_errors_errorType)] }
def RiskSetsSaid : Prop := riskSetsRow.holds Tryd.pinned (OpenSpec.ofChange riskSetsSpec)

/-- ITS FALSE NEIGHBOUR: 'it returns false'. Refute it at one input. -/
def riskSetsWrong : ChangeSpec := { name := "riskSets", fn := fun _ => fun
  | [d1, d2] => { results := [.lit (.bool false)], args := [d1, d2] }
  | _ => none }
def RiskSetsWrongFalsely : Prop := riskSetsRow.holds Tryd.pinned (OpenSpec.ofChange riskSetsWrong)

/-- 'foresightlaw.ShopFlow': WHATEVER THE INPUT: true; the input reads as it did. -/
def shopFlowSpec : ChangeSpec := { name := "shopFlow", fn := fun _ => fun
  | [d1, d2] => { results := [.lit (.bool true)], args := [d1, d2] }
  | _ => none }
def shopFlowRow : OpenClaim := { program := "ytgcocjfbppkgbaadoor", sum := "a31fc5cf1dfb2c14f8e29b1d4f0d52dc1dc7a2bcf7a5fbaf885ae6e5bc1e84ad", func := "foresight/foresightlaw.ShopFlow", spec := "shopFlow", inPlace := ["internal/reflectlite.ValueOf", "(internal/reflectlite.Value).Type", "(internal/reflectlite.Value).IsNil", "internal/reflectlite.TypeOf", "(internal/reflectlite.Value).Elem", "(internal/reflectlite.Value).Set"], unfollowed := true, recurses := true, named := ["errors.errorType"], apart := false, laid := [("errors.errorType", laid_errors_errorType)] }
def ShopFlowSaid : Prop := shopFlowRow.holds Tryd.pinned (OpenSpec.ofChange shopFlowSpec)

/-- ITS FALSE NEIGHBOUR: 'it returns false'. Refute it at one input. -/
def shopFlowWrong : ChangeSpec := { name := "shopFlow", fn := fun _ => fun
  | [d1, d2] => { results := [.lit (.bool false)], args := [d1, d2] }
  | _ => none }
def ShopFlowWrongFalsely : Prop := shopFlowRow.holds Tryd.pinned (OpenSpec.ofChange shopFlowWrong)

/-- 'foresightlaw.ShopMcNaughton': WHATEVER THE INPUT: true; the input reads as it did. -/
def shopMcNaughtonSpec : ChangeSpec := { name := "shopMcNaughton", fn := fun _ => fun
  | [d1, d2] => { results := [.lit (.bool true)], args := [d1, d2] }
  | _ => none }
def shopMcNaughtonRow : OpenClaim := { program := "ytgcocjfbppkgbaadoor", sum := "a31fc5cf1dfb2c14f8e29b1d4f0d52dc1dc7a2bcf7a5fbaf885ae6e5bc1e84ad", func := "foresight/foresightlaw.ShopMcNaughton", spec := "shopMcNaughton", inPlace := ["internal/reflectlite.ValueOf", "(internal/reflectlite.Value).Type", "(internal/reflectlite.Value).IsNil", "internal/reflectlite.TypeOf", "(internal/reflectlite.Value).Elem", "(internal/reflectlite.Value).Set"], unfollowed := true, recurses := true, named := ["errors.errorType"], apart := false, laid := [("errors.errorType", laid_errors_errorType)] }
def ShopMcNaughtonSaid : Prop := shopMcNaughtonRow.holds Tryd.pinned (OpenSpec.ofChange shopMcNaughtonSpec)

/-- ITS FALSE NEIGHBOUR: 'it returns false'. Refute it at one input. -/
def shopMcNaughtonWrong : ChangeSpec := { name := "shopMcNaughton", fn := fun _ => fun
  | [d1, d2] => { results := [.lit (.bool false)], args := [d1, d2] }
  | _ => none }
def ShopMcNaughtonWrongFalsely : Prop := shopMcNaughtonRow.holds Tryd.pinned (OpenSpec.ofChange shopMcNaughtonWrong)

/-- 'foresightlaw.ShopList': WHATEVER THE INPUT: true; the input reads as it did. -/
def shopListSpec : ChangeSpec := { name := "shopList", fn := fun _ => fun
  | [d1, d2, d3] => { results := [.lit (.bool true)], args := [d1, d2, d3] }
  | _ => none }
def shopListRow : OpenClaim := { program := "ytgcocjfbppkgbaadoor", sum := "a31fc5cf1dfb2c14f8e29b1d4f0d52dc1dc7a2bcf7a5fbaf885ae6e5bc1e84ad", func := "foresight/foresightlaw.ShopList", spec := "shopList", inPlace := ["internal/reflectlite.ValueOf", "(internal/reflectlite.Value).Type", "(internal/reflectlite.Value).IsNil", "internal/reflectlite.TypeOf", "(internal/reflectlite.Value).Elem", "(internal/reflectlite.Value).Set"], unfollowed := true, recurses := true, named := ["errors.errorType"], apart := false, laid := [("errors.errorType", laid_errors_errorType)] }
def ShopListSaid : Prop := shopListRow.holds Tryd.pinned (OpenSpec.ofChange shopListSpec)

/-- ITS FALSE NEIGHBOUR: 'it returns false'. Refute it at one input. -/
def shopListWrong : ChangeSpec := { name := "shopList", fn := fun _ => fun
  | [d1, d2, d3] => { results := [.lit (.bool false)], args := [d1, d2, d3] }
  | _ => none }
def ShopListWrongFalsely : Prop := shopListRow.holds Tryd.pinned (OpenSpec.ofChange shopListWrong)

/-- 'foresightlaw.ShopLongest': WHATEVER THE INPUT: true; the input reads as it did. -/
def shopLongestSpec : ChangeSpec := { name := "shopLongest", fn := fun _ => fun
  | [d] => { results := [.lit (.bool true)], args := [d] }
  | _ => none }
def shopLongestRow : OpenClaim := { program := "ytgcocjfbppkgbaadoor", sum := "a31fc5cf1dfb2c14f8e29b1d4f0d52dc1dc7a2bcf7a5fbaf885ae6e5bc1e84ad", func := "foresight/foresightlaw.ShopLongest", spec := "shopLongest", inPlace := ["internal/reflectlite.ValueOf", "(internal/reflectlite.Value).Type", "(internal/reflectlite.Value).IsNil", "internal/reflectlite.TypeOf", "(internal/reflectlite.Value).Elem", "(internal/reflectlite.Value).Set"], unfollowed := true, recurses := true, named := ["errors.errorType"], apart := false, laid := [("errors.errorType", laid_errors_errorType)] }
def ShopLongestSaid : Prop := shopLongestRow.holds Tryd.pinned (OpenSpec.ofChange shopLongestSpec)

/-- ITS FALSE NEIGHBOUR: 'it returns false'. Refute it at one input. -/
def shopLongestWrong : ChangeSpec := { name := "shopLongest", fn := fun _ => fun
  | [d] => { results := [.lit (.bool false)], args := [d] }
  | _ => none }
def ShopLongestWrongFalsely : Prop := shopLongestRow.holds Tryd.pinned (OpenSpec.ofChange shopLongestWrong)

/-- 'foresightlaw.ShopJohnson': WHATEVER THE INPUT: true; the input reads as it did. -/
def shopJohnsonSpec : ChangeSpec := { name := "shopJohnson", fn := fun _ => fun
  | [d] => { results := [.lit (.bool true)], args := [d] }
  | _ => none }
def shopJohnsonRow : OpenClaim := { program := "ytgcocjfbppkgbaadoor", sum := "a31fc5cf1dfb2c14f8e29b1d4f0d52dc1dc7a2bcf7a5fbaf885ae6e5bc1e84ad", func := "foresight/foresightlaw.ShopJohnson", spec := "shopJohnson", inPlace := ["internal/reflectlite.ValueOf", "(internal/reflectlite.Value).Type", "(internal/reflectlite.Value).IsNil", "internal/reflectlite.TypeOf", "(internal/reflectlite.Value).Elem", "(internal/reflectlite.Value).Set"], unfollowed := true, recurses := true, named := ["errors.errorType"], apart := false, laid := [("errors.errorType", laid_errors_errorType)] }
def ShopJohnsonSaid : Prop := shopJohnsonRow.holds Tryd.pinned (OpenSpec.ofChange shopJohnsonSpec)

/-- ITS FALSE NEIGHBOUR: 'it returns false'. Refute it at one input. -/
def shopJohnsonWrong : ChangeSpec := { name := "shopJohnson", fn := fun _ => fun
  | [d] => { results := [.lit (.bool false)], args := [d] }
  | _ => none }
def ShopJohnsonWrongFalsely : Prop := shopJohnsonRow.holds Tryd.pinned (OpenSpec.ofChange shopJohnsonWrong)

/-- 'foresightlaw.ShopHu': WHATEVER THE INPUT: true; the input reads as it did. -/
def shopHuSpec : ChangeSpec := { name := "shopHu", fn := fun _ => fun
  | [d1, d2] => { results := [.lit (.bool true)], args := [d1, d2] }
  | _ => none }
def shopHuRow : OpenClaim := { program := "ytgcocjfbppkgbaadoor", sum := "a31fc5cf1dfb2c14f8e29b1d4f0d52dc1dc7a2bcf7a5fbaf885ae6e5bc1e84ad", func := "foresight/foresightlaw.ShopHu", spec := "shopHu", inPlace := ["internal/reflectlite.ValueOf", "(internal/reflectlite.Value).Type", "(internal/reflectlite.Value).IsNil", "internal/reflectlite.TypeOf", "(internal/reflectlite.Value).Elem", "(internal/reflectlite.Value).Set"], unfollowed := true, recurses := true, named := ["errors.errorType"], apart := false, laid := [("errors.errorType", laid_errors_errorType)] }
def ShopHuSaid : Prop := shopHuRow.holds Tryd.pinned (OpenSpec.ofChange shopHuSpec)

/-- ITS FALSE NEIGHBOUR: 'it returns false'. Refute it at one input. -/
def shopHuWrong : ChangeSpec := { name := "shopHu", fn := fun _ => fun
  | [d1, d2] => { results := [.lit (.bool false)], args := [d1, d2] }
  | _ => none }
def ShopHuWrongFalsely : Prop := shopHuRow.holds Tryd.pinned (OpenSpec.ofChange shopHuWrong)

/-- 'foresightlaw.LotsCost': WHATEVER THE INPUT: true; the input reads as it did. -/
def lotsCostSpec : ChangeSpec := { name := "lotsCost", fn := fun _ => fun
  | [d1, d2, d3, d4] => { results := [.lit (.bool true)], args := [d1, d2, d3, d4] }
  | _ => none }
def lotsCostRow : OpenClaim := { program := "ytgcocjfbppkgbaadoor", sum := "a31fc5cf1dfb2c14f8e29b1d4f0d52dc1dc7a2bcf7a5fbaf885ae6e5bc1e84ad", func := "foresight/foresightlaw.LotsCost", spec := "lotsCost", inPlace := ["internal/reflectlite.ValueOf", "(internal/reflectlite.Value).Type", "(internal/reflectlite.Value).IsNil", "internal/reflectlite.TypeOf", "(internal/reflectlite.Value).Elem", "(internal/reflectlite.Value).Set"], unfollowed := true, recurses := true, named := ["errors.errorType"], apart := false, laid := [("errors.errorType", laid_errors_errorType)] }
def LotsCostSaid : Prop := lotsCostRow.holds Tryd.pinned (OpenSpec.ofChange lotsCostSpec)

/-- ITS FALSE NEIGHBOUR: 'it returns false'. Refute it at one input. -/
def lotsCostWrong : ChangeSpec := { name := "lotsCost", fn := fun _ => fun
  | [d1, d2, d3, d4] => { results := [.lit (.bool false)], args := [d1, d2, d3, d4] }
  | _ => none }
def LotsCostWrongFalsely : Prop := lotsCostRow.holds Tryd.pinned (OpenSpec.ofChange lotsCostWrong)

/-- 'foresightlaw.LotsPlan': WHATEVER THE INPUT: true; the input reads as it did. -/
def lotsPlanSpec : ChangeSpec := { name := "lotsPlan", fn := fun _ => fun
  | [d1, d2, d3] => { results := [.lit (.bool true)], args := [d1, d2, d3] }
  | _ => none }
def lotsPlanRow : OpenClaim := { program := "ytgcocjfbppkgbaadoor", sum := "a31fc5cf1dfb2c14f8e29b1d4f0d52dc1dc7a2bcf7a5fbaf885ae6e5bc1e84ad", func := "foresight/foresightlaw.LotsPlan", spec := "lotsPlan", inPlace := ["internal/reflectlite.ValueOf", "(internal/reflectlite.Value).Type", "(internal/reflectlite.Value).IsNil", "internal/reflectlite.TypeOf", "(internal/reflectlite.Value).Elem", "(internal/reflectlite.Value).Set"], unfollowed := true, recurses := true, named := ["errors.errorType"], apart := false, laid := [("errors.errorType", laid_errors_errorType)] }
def LotsPlanSaid : Prop := lotsPlanRow.holds Tryd.pinned (OpenSpec.ofChange lotsPlanSpec)

/-- ITS FALSE NEIGHBOUR: 'it returns false'. Refute it at one input. -/
def lotsPlanWrong : ChangeSpec := { name := "lotsPlan", fn := fun _ => fun
  | [d1, d2, d3] => { results := [.lit (.bool false)], args := [d1, d2, d3] }
  | _ => none }
def LotsPlanWrongFalsely : Prop := lotsPlanRow.holds Tryd.pinned (OpenSpec.ofChange lotsPlanWrong)

/-- 'foresightlaw.TapePlays': WHATEVER THE INPUT: true; the input reads as it did. -/
def tapePlaysSpec : ChangeSpec := { name := "tapePlays", fn := fun _ => fun
  | [d1, d2] => { results := [.lit (.bool true)], args := [d1, d2] }
  | _ => none }
def tapePlaysRow : OpenClaim := { program := "ytgcocjfbppkgbaadoor", sum := "a31fc5cf1dfb2c14f8e29b1d4f0d52dc1dc7a2bcf7a5fbaf885ae6e5bc1e84ad", func := "foresight/foresightlaw.TapePlays", spec := "tapePlays", inPlace := ["internal/reflectlite.ValueOf", "(internal/reflectlite.Value).Type", "(internal/reflectlite.Value).IsNil", "internal/reflectlite.TypeOf", "(internal/reflectlite.Value).Elem", "(internal/reflectlite.Value).Set"], unfollowed := true, recurses := true, named := ["errors.errorType"], apart := false, laid := [("errors.errorType", laid_errors_errorType)] }
def TapePlaysSaid : Prop := tapePlaysRow.holds Tryd.pinned (OpenSpec.ofChange tapePlaysSpec)

/-- ITS FALSE NEIGHBOUR: 'it returns false'. Refute it at one input. -/
def tapePlaysWrong : ChangeSpec := { name := "tapePlays", fn := fun _ => fun
  | [d1, d2] => { results := [.lit (.bool false)], args := [d1, d2] }
  | _ => none }
def TapePlaysWrongFalsely : Prop := tapePlaysRow.holds Tryd.pinned (OpenSpec.ofChange tapePlaysWrong)

/- THE SECOND FORM. 'bulk': how many values and letters a reading holds, each counted each time it is reached (what is shared counts as often as it is met; a slice's spare places count too). A statement '..UptoSaid' is the law's where the arguments, and the package variables that the reading takes, are together of bulk at most 1048576: NARROWER than '..Said'. Prove '..Said' where nothing that the law and all that it calls make is longer than what came in: it says more and counts as full. Else prove '..UptoSaid'. A law counts once. -/
mutual
def uptoBulk {H : Type} : DataW H → Nat
  | .lit (.string bytes) => bytes.length + 1
  | .lit _ => 1
  | .nil => 1
  | .ptr d => uptoBulk d + 1
  | .slice elems spare => uptoBulkAll elems + uptoBulkAll spare + 1
  | .agg parts => uptoBulkAll parts + 1
  | .iface _ d => uptoBulk d + 1
  | .map entries => uptoBulkEntries entries + 1
  | .held _ => 1
def uptoBulkAll {H : Type} : List (DataW H) → Nat
  | [] => 0
  | d :: r => uptoBulk d + uptoBulkAll r
def uptoBulkEntries {H : Type} : List (Lit × DataW H) → Nat
  | [] => 0
  | x :: r => uptoBulkEntry x + uptoBulkEntries r
def uptoBulkEntry {H : Type} : Lit × DataW H → Nat
  | (.string bytes, d) => bytes.length + uptoBulk d + 1
  | (_, d) => uptoBulk d + 1
 end
def uptoSmall : (H : Type) → List (DataW H) → Bool := fun _ ds => decide (uptoBulkAll ds ≤ 1048576)
def OpenSpec.upto (s : _root_.Go.ChangeSpec) : _root_.Go.OpenSpec := { _root_.Go.OpenSpec.ofChange s with cond := some uptoSmall }

/-- 'foresightlaw.RiskWorks', WHERE WHAT IT READS IS OF BULK AT MOST 1048576: true; the input reads as it did. -/
def riskWorksUptoRow : OpenClaim := { program := "ytgcocjfbppkgbaadoor", sum := "a31fc5cf1dfb2c14f8e29b1d4f0d52dc1dc7a2bcf7a5fbaf885ae6e5bc1e84ad", func := "foresight/foresightlaw.RiskWorks", spec := "riskWorks", inPlace := ["internal/reflectlite.ValueOf", "(internal/reflectlite.Value).Type", "(internal/reflectlite.Value).IsNil", "internal/reflectlite.TypeOf", "(internal/reflectlite.Value).Elem", "(internal/reflectlite.Value).Set"], unfollowed := true, recurses := true, named := ["errors.errorType"], apart := false, laid := [("errors.errorType", laid_errors_errorType)], narrowed := true }
def RiskWorksUptoSaid : Prop := riskWorksUptoRow.holds Tryd.pinned (OpenSpec.upto riskWorksSpec)

/-- 'foresightlaw.RiskSets', WHERE WHAT IT READS IS OF BULK AT MOST 1048576: true; the input reads as it did. -/
def riskSetsUptoRow : OpenClaim := { program := "ytgcocjfbppkgbaadoor", sum := "a31fc5cf1dfb2c14f8e29b1d4f0d52dc1dc7a2bcf7a5fbaf885ae6e5bc1e84ad", func := "foresight/foresightlaw.RiskSets", spec := "riskSets", inPlace := ["internal/reflectlite.ValueOf", "(internal/reflectlite.Value).Type", "(internal/reflectlite.Value).IsNil", "internal/reflectlite.TypeOf", "(internal/reflectlite.Value).Elem", "(internal/reflectlite.Value).Set"], unfollowed := true, recurses := true, named := ["errors.errorType"], apart := false, laid := [("errors.errorType", laid_errors_errorType)], narrowed := true }
def RiskSetsUptoSaid : Prop := riskSetsUptoRow.holds Tryd.pinned (OpenSpec.upto riskSetsSpec)

/-- 'foresightlaw.ShopFlow', WHERE WHAT IT READS IS OF BULK AT MOST 1048576: true; the input reads as it did. -/
def shopFlowUptoRow : OpenClaim := { program := "ytgcocjfbppkgbaadoor", sum := "a31fc5cf1dfb2c14f8e29b1d4f0d52dc1dc7a2bcf7a5fbaf885ae6e5bc1e84ad", func := "foresight/foresightlaw.ShopFlow", spec := "shopFlow", inPlace := ["internal/reflectlite.ValueOf", "(internal/reflectlite.Value).Type", "(internal/reflectlite.Value).IsNil", "internal/reflectlite.TypeOf", "(internal/reflectlite.Value).Elem", "(internal/reflectlite.Value).Set"], unfollowed := true, recurses := true, named := ["errors.errorType"], apart := false, laid := [("errors.errorType", laid_errors_errorType)], narrowed := true }
def ShopFlowUptoSaid : Prop := shopFlowUptoRow.holds Tryd.pinned (OpenSpec.upto shopFlowSpec)

/-- 'foresightlaw.ShopMcNaughton', WHERE WHAT IT READS IS OF BULK AT MOST 1048576: true; the input reads as it did. -/
def shopMcNaughtonUptoRow : OpenClaim := { program := "ytgcocjfbppkgbaadoor", sum := "a31fc5cf1dfb2c14f8e29b1d4f0d52dc1dc7a2bcf7a5fbaf885ae6e5bc1e84ad", func := "foresight/foresightlaw.ShopMcNaughton", spec := "shopMcNaughton", inPlace := ["internal/reflectlite.ValueOf", "(internal/reflectlite.Value).Type", "(internal/reflectlite.Value).IsNil", "internal/reflectlite.TypeOf", "(internal/reflectlite.Value).Elem", "(internal/reflectlite.Value).Set"], unfollowed := true, recurses := true, named := ["errors.errorType"], apart := false, laid := [("errors.errorType", laid_errors_errorType)], narrowed := true }
def ShopMcNaughtonUptoSaid : Prop := shopMcNaughtonUptoRow.holds Tryd.pinned (OpenSpec.upto shopMcNaughtonSpec)

/-- 'foresightlaw.ShopList', WHERE WHAT IT READS IS OF BULK AT MOST 1048576: true; the input reads as it did. -/
def shopListUptoRow : OpenClaim := { program := "ytgcocjfbppkgbaadoor", sum := "a31fc5cf1dfb2c14f8e29b1d4f0d52dc1dc7a2bcf7a5fbaf885ae6e5bc1e84ad", func := "foresight/foresightlaw.ShopList", spec := "shopList", inPlace := ["internal/reflectlite.ValueOf", "(internal/reflectlite.Value).Type", "(internal/reflectlite.Value).IsNil", "internal/reflectlite.TypeOf", "(internal/reflectlite.Value).Elem", "(internal/reflectlite.Value).Set"], unfollowed := true, recurses := true, named := ["errors.errorType"], apart := false, laid := [("errors.errorType", laid_errors_errorType)], narrowed := true }
def ShopListUptoSaid : Prop := shopListUptoRow.holds Tryd.pinned (OpenSpec.upto shopListSpec)

/-- 'foresightlaw.ShopLongest', WHERE WHAT IT READS IS OF BULK AT MOST 1048576: true; the input reads as it did. -/
def shopLongestUptoRow : OpenClaim := { program := "ytgcocjfbppkgbaadoor", sum := "a31fc5cf1dfb2c14f8e29b1d4f0d52dc1dc7a2bcf7a5fbaf885ae6e5bc1e84ad", func := "foresight/foresightlaw.ShopLongest", spec := "shopLongest", inPlace := ["internal/reflectlite.ValueOf", "(internal/reflectlite.Value).Type", "(internal/reflectlite.Value).IsNil", "internal/reflectlite.TypeOf", "(internal/reflectlite.Value).Elem", "(internal/reflectlite.Value).Set"], unfollowed := true, recurses := true, named := ["errors.errorType"], apart := false, laid := [("errors.errorType", laid_errors_errorType)], narrowed := true }
def ShopLongestUptoSaid : Prop := shopLongestUptoRow.holds Tryd.pinned (OpenSpec.upto shopLongestSpec)

/-- 'foresightlaw.ShopJohnson', WHERE WHAT IT READS IS OF BULK AT MOST 1048576: true; the input reads as it did. -/
def shopJohnsonUptoRow : OpenClaim := { program := "ytgcocjfbppkgbaadoor", sum := "a31fc5cf1dfb2c14f8e29b1d4f0d52dc1dc7a2bcf7a5fbaf885ae6e5bc1e84ad", func := "foresight/foresightlaw.ShopJohnson", spec := "shopJohnson", inPlace := ["internal/reflectlite.ValueOf", "(internal/reflectlite.Value).Type", "(internal/reflectlite.Value).IsNil", "internal/reflectlite.TypeOf", "(internal/reflectlite.Value).Elem", "(internal/reflectlite.Value).Set"], unfollowed := true, recurses := true, named := ["errors.errorType"], apart := false, laid := [("errors.errorType", laid_errors_errorType)], narrowed := true }
def ShopJohnsonUptoSaid : Prop := shopJohnsonUptoRow.holds Tryd.pinned (OpenSpec.upto shopJohnsonSpec)

/-- 'foresightlaw.ShopHu', WHERE WHAT IT READS IS OF BULK AT MOST 1048576: true; the input reads as it did. -/
def shopHuUptoRow : OpenClaim := { program := "ytgcocjfbppkgbaadoor", sum := "a31fc5cf1dfb2c14f8e29b1d4f0d52dc1dc7a2bcf7a5fbaf885ae6e5bc1e84ad", func := "foresight/foresightlaw.ShopHu", spec := "shopHu", inPlace := ["internal/reflectlite.ValueOf", "(internal/reflectlite.Value).Type", "(internal/reflectlite.Value).IsNil", "internal/reflectlite.TypeOf", "(internal/reflectlite.Value).Elem", "(internal/reflectlite.Value).Set"], unfollowed := true, recurses := true, named := ["errors.errorType"], apart := false, laid := [("errors.errorType", laid_errors_errorType)], narrowed := true }
def ShopHuUptoSaid : Prop := shopHuUptoRow.holds Tryd.pinned (OpenSpec.upto shopHuSpec)

/-- 'foresightlaw.LotsCost', WHERE WHAT IT READS IS OF BULK AT MOST 1048576: true; the input reads as it did. -/
def lotsCostUptoRow : OpenClaim := { program := "ytgcocjfbppkgbaadoor", sum := "a31fc5cf1dfb2c14f8e29b1d4f0d52dc1dc7a2bcf7a5fbaf885ae6e5bc1e84ad", func := "foresight/foresightlaw.LotsCost", spec := "lotsCost", inPlace := ["internal/reflectlite.ValueOf", "(internal/reflectlite.Value).Type", "(internal/reflectlite.Value).IsNil", "internal/reflectlite.TypeOf", "(internal/reflectlite.Value).Elem", "(internal/reflectlite.Value).Set"], unfollowed := true, recurses := true, named := ["errors.errorType"], apart := false, laid := [("errors.errorType", laid_errors_errorType)], narrowed := true }
def LotsCostUptoSaid : Prop := lotsCostUptoRow.holds Tryd.pinned (OpenSpec.upto lotsCostSpec)

/-- 'foresightlaw.LotsPlan', WHERE WHAT IT READS IS OF BULK AT MOST 1048576: true; the input reads as it did. -/
def lotsPlanUptoRow : OpenClaim := { program := "ytgcocjfbppkgbaadoor", sum := "a31fc5cf1dfb2c14f8e29b1d4f0d52dc1dc7a2bcf7a5fbaf885ae6e5bc1e84ad", func := "foresight/foresightlaw.LotsPlan", spec := "lotsPlan", inPlace := ["internal/reflectlite.ValueOf", "(internal/reflectlite.Value).Type", "(internal/reflectlite.Value).IsNil", "internal/reflectlite.TypeOf", "(internal/reflectlite.Value).Elem", "(internal/reflectlite.Value).Set"], unfollowed := true, recurses := true, named := ["errors.errorType"], apart := false, laid := [("errors.errorType", laid_errors_errorType)], narrowed := true }
def LotsPlanUptoSaid : Prop := lotsPlanUptoRow.holds Tryd.pinned (OpenSpec.upto lotsPlanSpec)

/-- 'foresightlaw.TapePlays', WHERE WHAT IT READS IS OF BULK AT MOST 1048576: true; the input reads as it did. -/
def tapePlaysUptoRow : OpenClaim := { program := "ytgcocjfbppkgbaadoor", sum := "a31fc5cf1dfb2c14f8e29b1d4f0d52dc1dc7a2bcf7a5fbaf885ae6e5bc1e84ad", func := "foresight/foresightlaw.TapePlays", spec := "tapePlays", inPlace := ["internal/reflectlite.ValueOf", "(internal/reflectlite.Value).Type", "(internal/reflectlite.Value).IsNil", "internal/reflectlite.TypeOf", "(internal/reflectlite.Value).Elem", "(internal/reflectlite.Value).Set"], unfollowed := true, recurses := true, named := ["errors.errorType"], apart := false, laid := [("errors.errorType", laid_errors_errorType)], narrowed := true }
def TapePlaysUptoSaid : Prop := tapePlaysUptoRow.holds Tryd.pinned (OpenSpec.upto tapePlaysSpec)

end Rows
end Go.Proofs.YtgcocjfbppkgbaaDoor
