/- LotsPlan: of any needs the plan and its cost are those found by all ways to part periods into runs, or both tell the same error. Condition: errors.errorType holds the handle of the type error, as the text of the program lays it (the card ties it). -/
import Derived.Test.YtfaklhkdfpfjgaaDoorDoor
import Derived.Test.YtfaklhkdfpfjgaaDoorLotsPlanLaw
namespace Go.Proofs.YtfaklhkdfpfjgaaDoor
open Go.ChangeShapes Go.WideShapes Go.ChangeAt Go.RowKit

theorem lotsPlan_readable : (Tryd.f8.params.toList.all fun t => Tryd.prog.readableRec t && decide (t < Tryd.prog.types.size)) = true := by kernel_rfl

set_option maxRecDepth 100000 in
theorem lotsPlan_lifted (os : Os) (started : os.Started) (H : Type) (enc : TypeId × Value → H) :
    ReturnsInHanded {} Tryd.checked os 8 .any (fun w args => (Rows.lotsPlanSpec.pre enc Tryd.prog Tryd.f8 [] false w args ∧ laidMetH Tryd.prog [("errors.errorType", Rows.laid_errors_errorType)] w) ∧ sizedMet enc Tryd.prog Tryd.f8 (OpenSpec.ofChange Rows.lotsPlanSpec) false w args)
      (Rows.lotsPlanSpec.post enc Tryd.prog Tryd.f8 false true false false) := by
  refine returnsInHanded_of_change_and (C := Tryd.checked) (X := fun w _ => laidMetH Tryd.prog [("errors.errorType", Rows.laid_errors_errorType)] w) (fun _ _ _ hh h => h.of_heap hh) Tryd.own started (by kernel_rfl) Tryd.func8
    (ChangeSpec.witness_at (enc := enc) (C := Tryd.checked) (os := os) (X := fun w _ => laidMetH Tryd.prog [("errors.errorType", Rows.laid_errors_errorType)] w) false (laidWorld os) #[.slice none 0 0, .slice none 0 0, .slice none 0 0] 8 rfl (by kernel_rfl) (by kernel_rfl) (by kernel_rfl) (by kernel_rfl) (by kernel_rfl) (laidWorld_met os _)) ?_
  intro W base args ds gs before hval0 hW _ _ hL _
  have hval : ∀ (j : Nat) t v, Tryd.f8.params[j]? = some t → args[j]? = some v → Value.okWide Tryd.prog W .any base t v := hval0
  have hW' := hW
  obtain ⟨p, q, hA0, hV0, rfl, hfz, hnd⟩ := hW
  have hA : DataW.TrodAll enc Tryd.prog W 0 (fun _ => true) true Tryd.f8.params.toList args.toList ds p := hA0
  have hV : DataW.TrodVars enc Tryd.prog W (fun _ => true) [] gs q := hV0
  rw [Tryd.params8] at hA hval
  obtain ⟨v0, v1, v2, d0, d1, d2, p0, p1, p2, rfl, rfl, rfl, h0, h1, h2⟩ := trodAll_three hA
  obtain ⟨rfl, rfl⟩ : gs = [] ∧ q = [] := by
    cases gs with
    | nil => exact ⟨rfl, hV⟩
    | cons g r => exact absurd hV (by intro h; cases h)
  have hg := hnd_of_laid hL
  obtain ⟨a0, c0, x0, rfl, hl0, hm0, he0, hw0⟩ := open_intlist Tryd.underlying50 Tryd.underlying3 (show Tryd.prog.cellsOf 3 = 1 by kernel_rfl) (hval 0 50 v0 rfl rfl) h0
  obtain ⟨a1, c1, x1, rfl, hl1, hm1, he1, hw1⟩ := open_intlist Tryd.underlying50 Tryd.underlying3 (show Tryd.prog.cellsOf 3 = 1 by kernel_rfl) (hval 1 50 v1 rfl rfl) h1
  obtain ⟨a2, c2, x2, rfl, hl2, hm2, he2, hw2⟩ := open_intlist Tryd.underlying50 Tryd.underlying3 (show Tryd.prog.cellsOf 3 = 1 by kernel_rfl) (hval 2 50 v2 rfl rfl) h2
  clear hA0 hval0
  refine (lotsPlan_law a0 a1 a2 _ _ _ c0 c1 c2 x0 x1 x2 W hg rfl rfl rfl hl0 (by omega) (by omega) (by omega) he0 he1 he2).mono fun e W' ⟨he, hb⟩ => ?_
  subst he
  refine ⟨_, rfl, law_post Tryd.laidOut ?_ rfl Tryd.underlying4 hW' rfl rfl rfl rfl hb⟩
  intro t ht
  have := List.all_eq_true.1 lotsPlan_readable t ht
  rw [Bool.and_eq_true, decide_eq_true_eq] at this
  exact this

theorem lotsPlan_row : Rows.LotsPlanSaid :=
  OpenClaim.holds_of_wide 8 Tryd.f8 rfl rfl rfl rfl rfl rfl rfl ⟨rfl, rfl, rfl, rfl, rfl⟩ rfl rfl rfl rfl rfl (by kernel_rfl) Tryd.func8 (by kernel_rfl)
    (of_decide_eq_true (by kernel_rfl)) (by unfold Func.isWrapper; rw [if_neg (of_decide_eq_false (by kernel_rfl))]; exact ⟨rfl, rfl⟩)
    (fun os started H enc _ => lotsPlan_lifted os started H enc)
theorem lotsPlan_noStand : (Tryd.f8.params.toList.all fun t => !Tryd.prog.wantsStandIn t) = true := by kernel_rfl
theorem lotsPlan_card : Rows.LotsPlanCardSaid :=
  Claim7.holds_tied_plain_at .later [] [.handle] true Rows.lotsPlanCard.stood.harness true
    lotsPlan_row (fun _ h => by cases h) (by kernel_rfl) (fun _ h => by cases h) lotsPlan_row_tie rfl ⟨rfl, rfl⟩ (by kernel_rfl) rfl
    (fun f fn hf hfn => by
      obtain rfl : f = 8 := Option.some.inj ((show Tryd.prog.funcNamed "foresight/foresightlaw.LotsPlan" = some 8 by kernel_rfl).symm.trans hf) |>.symm
      obtain rfl : fn = Tryd.f8 := (Option.some.inj (Tryd.func8.symm.trans hfn)).symm
      exact ⟨by kernel_rfl, fun j t ht => by
        have h := List.all_eq_true.1 lotsPlan_noStand t (Array.mem_toList_iff.2 (Array.mem_of_getElem? ht))
        rw [Bool.not_eq_true'] at h
        exact h⟩)
    (by kernel_rfl)
#print axioms lotsPlan_card
end Go.Proofs.YtfaklhkdfpfjgaaDoor
