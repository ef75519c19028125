/- The great seat's door: from the condition on the six listed variables of DepotPlays to the table of powers of ten and the handle; a world that meets it; closed facts of the program that the row uses. -/
import Derived.Test.YtannijeiecmjpaaGreatDoorTell
import Derived.Test.YtannijeiecmjpaaGreatDoorLineD
import Derived.Test.YtannijeiecmjpaaGreatDoorLift
import Derived.Test.YtannijeiecmjpaaGreatDoorTie
import Derived.Test.YtannijeiecmjpaaGreatDoorCards
import Derived.ChangeVars
import Derived.JoinedOf
import Derived.RowKit
import Derived.RowKitTokens
import Derived.LaidLaws
import Derived.LaidHandle
import Derived.Lay
import Derived.Lib.LaidTab
import Derived.Stop.Joined
import Derived.Stop.LaidErr
import Derived.SevenTiedAt
namespace Go.Proofs.YtannijeiecmjpaaGreatDoor
open Go.ChangeShapes Go.WideShapes Go.RowKit

theorem Tryz.own : ownKnob Tryz.prog.godebug = none := by kernel_rfl
theorem Tryz.et : Tryz.prog.globalNamed "errors.errorType" = some 0 := by kernel_rfl
theorem Tryz.rt : (Tryz.prog.cutTypes.find? (·.1 == "internal/reflectlite.rtype")).map (·.2) = some 105 := by kernel_rfl
theorem Tryz.oneRow : ((List.range 224).filter fun t => Tryz.prog.rowNamed t [101, 114, 114, 111, 114]) = [33] := by kernel_rfl
theorem Tryz.size : Tryz.prog.types.size = 224 := by kernel_rfl
theorem Tryz.laidOut : laidOutB Tryz.prog = true := by kernel_rfl

/-- The listed variables that are plain data. -/
def dataP : List (String × DataW Unit) := [("math/bits.deBruijn32tab", Rows.laid_math_bits_deBruijn32tab), ("math/bits.deBruijn64tab", Rows.laid_math_bits_deBruijn64tab), ("internal/strconv.uint64pow10", Rows.laid_internal_strconv_uint64pow10), ("unicode/utf8.acceptRanges", Rows.laid_unicode_utf8_acceptRanges), ("unicode/utf8.first", Rows.laid_unicode_utf8_first)]
/-- All of them. -/
def laidP : List (String × DataW Unit) := [("math/bits.deBruijn32tab", Rows.laid_math_bits_deBruijn32tab), ("math/bits.deBruijn64tab", Rows.laid_math_bits_deBruijn64tab), ("internal/strconv.uint64pow10", Rows.laid_internal_strconv_uint64pow10), ("unicode/utf8.acceptRanges", Rows.laid_unicode_utf8_acceptRanges), ("errors.errorType", Rows.laid_errors_errorType), ("unicode/utf8.first", Rows.laid_unicode_utf8_first)]
theorem laidP_data : (laidP.filter fun x => x.2.handleName?.isNone) = dataP := by kernel_rfl
theorem laidP_hand : (laidP.filter fun x => x.2.handleName?.isSome) = [("errors.errorType", Rows.laid_errors_errorType)] := by kernel_rfl
theorem parts_of_laid {W : World} (h : laidMetH Tryz.prog laidP W) : laidMet Tryz.prog dataP W ∧ handlesMet Tryz.prog [("errors.errorType", Rows.laid_errors_errorType)] W := by
  unfold laidMetH at h
  rw [laidP_hand] at h
  rw [laidP_data] at h
  exact h
/-- What the condition gives a walk: the handle's one cell. -/
theorem hnd_of_laid {W : World} (h : laidMetH Tryz.prog laidP W) : Hnd W := by
  obtain ⟨name, u, ty, e1, e2, e3, e4, e5⟩ := (parts_of_laid h).2 _ (List.mem_singleton.2 rfl)
  have en : name = [101, 114, 114, 111, 114] := (Option.some.inj e1).symm
  subst en
  obtain rfl := Option.some.inj (Tryz.rt.symm.trans e2)
  have hm : ty ∈ (List.range 224).filter fun t => Tryz.prog.rowNamed t [101, 114, 114, 111, 114] := List.mem_filter.2 ⟨List.mem_range.2 (by rw [← Tryz.size]; exact e3), e4⟩
  rw [Tryz.oneRow] at hm
  obtain rfl := List.mem_singleton.1 hm
  have hh : typeHandle Tryz.prog 33 = .pointer (some ⟨9, 33, none⟩) := by kernel_rfl
  rw [hh] at e5
  show W.cell? ⟨0, 0, none⟩ = some (.iface 105 (.agg #[.pointer (some ⟨9, 33, none⟩)]))
  simpa using World.var?_cell Tryz.et e5 0
/-- .. and the table of powers of ten. -/
theorem pow_data : (Rows.laid_internal_strconv_uint64pow10 : DataW Unit) = Lib.tabData .u64 Lib.pow10Tab := by kernel_rfl
theorem pow_of_laid {W : World} (h : laidMet Tryz.prog dataP W) : PowAt W := by
  have h1 := laidMet.tail (laidMet.tail h)
  rw [pow_data] at h1
  exact Lib.tabIs_of_head powG (t := 184) (by kernel_rfl) Tryz.underlying184 Tryz.underlying136 (by kernel_rfl) (by kernel_rfl) h1

/-- A world that meets the condition: the settled one, the handle's cell laid, then the data. -/
noncomputable def hdlWorld (os : Os) : World :=
  let w0 := World.holding Tryz.prog os ⟨#[], #[], []⟩
  { w0 with heap := w0.heap.modify 0 fun
      | .cells _ t frozen => .cells #[.iface 105 (.agg #[.pointer (some ⟨9, 33, none⟩)])] t frozen
      | o => o }
noncomputable def laidWorld (os : Os) : World := (hdlWorld os).layVars Tryz.prog dataP
theorem laidWorld_os (os : Os) : (laidWorld os).os = os := World.layVars_os _ _ _
theorem laidWorld_met (os : Os) (args : Array Value) : laidMetH Tryz.prog laidP ((laidWorld os).forCall (fun _ _ => 0) ⟨#[], args, []⟩).memory := by
  refine laidMetH_of_parts ?_ (by rw [laidP_hand]; kernel_rfl)
  rw [laidP_data]
  have e1 : (dataP.filter fun x => (dataP.map (·.1)).contains x.1) = dataP := List.filter_eq_self.2 fun x hx => List.contains_iff_mem.2 (List.mem_map.2 ⟨x, hx, rfl⟩)
  have e2 : (dataP.filter fun x => !(dataP.map (·.1)).contains x.1) = [] := List.filter_eq_nil_iff.2 fun x hx => by rw [List.contains_iff_mem.2 (List.mem_map.2 ⟨x, hx, rfl⟩)]; simp
  have h : laidMet Tryz.prog dataP (laidWorld os) := laidMet_layVars (w0 := hdlWorld os) (dataP.map (·.1)) [] (by rw [e1]; rfl) (by rw [e1]; kernel_rfl) (by rw [e1]; kernel_rfl) (by rw [e2]; exact LaidIn.none)
  exact h.of_heap (by simp [World.memory, World.forCall, Input.heap])
end Go.Proofs.YtannijeiecmjpaaGreatDoor
