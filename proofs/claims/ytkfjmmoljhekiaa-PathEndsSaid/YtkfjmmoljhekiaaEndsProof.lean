/- PathEnds: for every list of jobs, every list of pieces and every time, the program's Ends and Work are the reference's: foresightlaw.PathEnds returns true, and what was there reads as it did. No condition. -/
import Derived.Test.YtkfjmmoljhekiaaEndsLaw
import Derived.Test.YtkfjmmoljhekiaaLift
namespace Go.Proofs.Ytkfjmmoljhekiaa
open Go.ChangeShapes Go.WideShapes Go.ChangeAt Go.RowKit

theorem Try.own : ownKnob Try.prog.godebug = none := by kernel_rfl
theorem Try.laidOut : laidOutB Try.prog = true := by kernel_rfl
theorem Try.readable3 : (Try.f3.params.toList.all fun t => Try.prog.readableRec t && decide (t < Try.prog.types.size)) = true := by kernel_rfl
theorem Try.cells26 : Try.prog.cellsOf 26 = 3 := by kernel_rfl
theorem Try.cells39 : Try.prog.cellsOf 39 = 3 := by kernel_rfl

set_option maxRecDepth 100000 in
theorem pathEnds_lifted (os : Os) (started : os.Started) (H : Type) (enc : TypeId × Value → H) :
    ReturnsInHanded {} Try.checked os 3 .any (Rows.pathEndsSpec.pre6 enc Try.prog Try.f3 Rows.pathEndsRow.domain false) (Rows.pathEndsSpec.post enc Try.prog Try.f3 false true false false) := by
  refine returnsInHanded_of_change (C := Try.checked) Try.own started (by kernel_rfl) Try.func3
    (ChangeSpec.witness6 (enc := enc) (C := Try.checked) false ⟨#[], #[.slice none 0 0, .slice none 0 0, .int .i64 0], []⟩ 8 (by kernel_rfl) (by kernel_rfl) (by kernel_rfl) (by kernel_rfl)) ?_
  intro W base args ds gs before hval0 hW _ _
  have hval : ∀ (j : Nat) t v, Try.f3.params[j]? = some t → args[j]? = some v → Value.okWide Try.prog W .any base t v := hval0
  have hW' := hW
  obtain ⟨p, q, hA0, hV, rfl, hfz, hnd⟩ := hW
  have hA : DataW.TrodAll enc Try.prog W 0 (fun _ => true) true Try.f3.params.toList args.toList ds p := hA0
  rw [Try.params3] at hA hval
  obtain ⟨v0, v1, v2, d0, d1, d2, p0, p1, p2, rfl, rfl, rfl, h0, h1, h2⟩ := trodAll_three hA
  obtain ⟨rfl, rfl⟩ := trodVars_none hV
  obtain ⟨a0, c0, xs, rfl, hl0, hm0, he0, _⟩ := open_recs3 Try.underlying22 Try.underlying39 (by kernel_rfl) Try.cells39 Try.underlying3 Try.underlying3 Try.underlying3 (hval 0 22 v0 rfl rfl) h0
  obtain ⟨a1, c1, ys, rfl, hl1, hm1, he1, _⟩ := open_recs3 Try.underlying23 Try.underlying26 (by kernel_rfl) Try.cells26 Try.underlying3 Try.underlying3 Try.underlying3 (hval 1 23 v1 rfl rfl) h1
  obtain ⟨t, rfl, rfl, rfl, _⟩ := open_int Try.underlying3 (hval 2 3 v2 rfl rfl) h2
  clear hA0 hval0
  refine (law_any a0 a1 _ c0 _ c1 xs ys t W rfl rfl (by omega) (by omega) he0 he1).mono fun e W' ⟨he, hb⟩ => ?_
  subst he
  refine ⟨_, rfl, law_post Try.laidOut ?_ rfl Try.underlying4 hW' rfl rfl rfl rfl hb⟩
  intro t ht
  have := List.all_eq_true.1 Try.readable3 t ht
  rw [Bool.and_eq_true, decide_eq_true_eq] at this
  exact this

theorem pathEnds_holds : Rows.PathEndsSaid :=
  OpenClaim.holds_of_wide 3 Try.f3 rfl rfl rfl rfl rfl rfl rfl ⟨rfl, rfl, rfl, rfl, rfl⟩ rfl rfl rfl rfl rfl (by kernel_rfl) Try.func3 (by kernel_rfl)
    (of_decide_eq_true (by kernel_rfl)) (by unfold Func.isWrapper; rw [if_neg (of_decide_eq_false (by kernel_rfl))]; exact ⟨rfl, rfl⟩)
    (fun os started H enc _ => pathEnds_lifted os started H enc)
#print axioms pathEnds_holds
end Go.Proofs.Ytkfjmmoljhekiaa
