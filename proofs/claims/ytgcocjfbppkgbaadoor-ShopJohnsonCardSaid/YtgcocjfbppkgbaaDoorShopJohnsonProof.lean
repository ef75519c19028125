/- ShopJohnson: of any jobs Johnson's row is the reference's, ties too, or both tell the same error. Condition: errors.errorType holds the handle of the type error, as the text of the program lays it (the card ties it). -/
import Derived.Test.YtgcocjfbppkgbaaDoorDoor
import Derived.Test.YtgcocjfbppkgbaaDoorLift2
import Derived.Test.YtgcocjfbppkgbaaDoorShopJohn
namespace Go.Proofs.YtgcocjfbppkgbaaDoor
open Go.ChangeShapes Go.WideShapes Go.ChangeAt Go.RowKit

theorem shopJohnson_readable : (Tryd.f9.params.toList.all fun t => Tryd.prog.readableRec t && decide (t < Tryd.prog.types.size)) = true := by kernel_rfl

set_option maxRecDepth 100000 in
theorem shopJohnson_lifted (os : Os) (started : os.Started) (H : Type) (enc : TypeId × Value → H) :
    ReturnsInHanded {} Tryd.checked os 9 .any (fun w args => (Rows.shopJohnsonSpec.pre enc Tryd.prog Tryd.f9 [] false w args ∧ laidMetH Tryd.prog [("errors.errorType", Rows.laid_errors_errorType)] w) ∧ sizedMet enc Tryd.prog Tryd.f9 (OpenSpec.ofChange Rows.shopJohnsonSpec) false w args)
      (Rows.shopJohnsonSpec.post enc Tryd.prog Tryd.f9 false true false false) := by
  refine returnsInHanded_of_change_and (C := Tryd.checked) (X := fun w _ => laidMetH Tryd.prog [("errors.errorType", Rows.laid_errors_errorType)] w) (fun _ _ _ hh h => h.of_heap hh) Tryd.own started (by kernel_rfl) Tryd.func9
    (ChangeSpec.witness_at (enc := enc) (C := Tryd.checked) (os := os) (X := fun w _ => laidMetH Tryd.prog [("errors.errorType", Rows.laid_errors_errorType)] w) false (laidWorld os) #[.slice none 0 0] 8 rfl (by kernel_rfl) (by kernel_rfl) (by kernel_rfl) (by kernel_rfl) (by kernel_rfl) (laidWorld_met os _)) ?_
  intro W base args ds gs before hval0 hW _ _ hL _
  have hval : ∀ (j : Nat) t v, Tryd.f9.params[j]? = some t → args[j]? = some v → Value.okWide Tryd.prog W .any base t v := hval0
  have hW' := hW
  obtain ⟨p, q, hA0, hV0, rfl, hfz, hnd⟩ := hW
  have hA : DataW.TrodAll enc Tryd.prog W 0 (fun _ => true) true Tryd.f9.params.toList args.toList ds p := hA0
  have hV : DataW.TrodVars enc Tryd.prog W (fun _ => true) [] gs q := hV0
  rw [Tryd.params9] at hA hval
  obtain ⟨v0, d0, rfl, rfl, h0⟩ := trodAll_one hA
  obtain ⟨rfl, rfl⟩ : gs = [] ∧ q = [] := by
    cases gs with
    | nil => exact ⟨rfl, hV⟩
    | cons g r => exact absurd hV (by intro h; cases h)
  have hg := hnd_of_laid hL
  obtain ⟨a0, c0, x0, rfl, hl0, hm0, he0, hw0⟩ := open_recs2 Tryd.underlying43 Tryd.underlying115 (by kernel_rfl) (show Tryd.prog.cellsOf 115 = 2 by kernel_rfl) Tryd.underlying3 Tryd.underlying3 (hval 0 43 v0 rfl rfl) h0
  clear hA0 hval0
  refine (shopJohnson_law a0 _ c0 x0 W hg rfl (by omega) he0).mono fun e W' ⟨he, hb⟩ => ?_
  subst he
  refine ⟨_, rfl, law_post Tryd.laidOut ?_ rfl Tryd.underlying4 hW' rfl rfl rfl rfl hb⟩
  intro t ht
  have := List.all_eq_true.1 shopJohnson_readable t ht
  rw [Bool.and_eq_true, decide_eq_true_eq] at this
  exact this

theorem shopJohnson_row : Rows.ShopJohnsonSaid :=
  OpenClaim.holds_of_wide 9 Tryd.f9 rfl rfl rfl rfl rfl rfl rfl ⟨rfl, rfl, rfl, rfl, rfl⟩ rfl rfl rfl rfl rfl (by kernel_rfl) Tryd.func9 (by kernel_rfl)
    (of_decide_eq_true (by kernel_rfl)) (by unfold Func.isWrapper; rw [if_neg (of_decide_eq_false (by kernel_rfl))]; exact ⟨rfl, rfl⟩)
    (fun os started H enc _ => shopJohnson_lifted os started H enc)
theorem shopJohnson_noStand : (Tryd.f9.params.toList.all fun t => !Tryd.prog.wantsStandIn t) = true := by kernel_rfl
theorem shopJohnson_card : Rows.ShopJohnsonCardSaid :=
  Claim7.holds_tied_plain_at .later [] [.handle] true Rows.shopJohnsonCard.stood.harness true
    shopJohnson_row (fun _ h => by cases h) (by kernel_rfl) (fun _ h => by cases h) shopJohnson_row_tie rfl ⟨rfl, rfl⟩ (by kernel_rfl) rfl
    (fun f fn hf hfn => by
      obtain rfl : f = 9 := Option.some.inj ((show Tryd.prog.funcNamed "foresight/foresightlaw.ShopJohnson" = some 9 by kernel_rfl).symm.trans hf) |>.symm
      obtain rfl : fn = Tryd.f9 := (Option.some.inj (Tryd.func9.symm.trans hfn)).symm
      exact ⟨by kernel_rfl, fun j t ht => by
        have h := List.all_eq_true.1 shopJohnson_noStand t (Array.mem_toList_iff.2 (Array.mem_of_getElem? ht))
        rw [Bool.not_eq_true'] at h
        exact h⟩)
    (by kernel_rfl)
#print axioms shopJohnson_card
end Go.Proofs.YtgcocjfbppkgbaaDoor
