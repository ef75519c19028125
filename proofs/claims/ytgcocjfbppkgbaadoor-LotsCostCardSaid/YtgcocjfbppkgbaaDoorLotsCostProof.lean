/- LotsCost: what any orders cost, or what is wrong with them, is the reference's; so is what is wrong with the need. Condition: errors.errorType holds the handle of the type error, as the text of the program lays it (the card ties it). -/
import Derived.Test.YtgcocjfbppkgbaaDoorDoor
import Derived.Test.YtgcocjfbppkgbaaDoorLotsCostLaw
namespace Go.Proofs.YtgcocjfbppkgbaaDoor
open Go.ChangeShapes Go.WideShapes Go.ChangeAt Go.RowKit

theorem lotsCost_readable : (Tryd.f11.params.toList.all fun t => Tryd.prog.readableRec t && decide (t < Tryd.prog.types.size)) = true := by kernel_rfl

set_option maxRecDepth 100000 in
theorem lotsCost_lifted (os : Os) (started : os.Started) (H : Type) (enc : TypeId × Value → H) :
    ReturnsInHanded {} Tryd.checked os 11 .any (fun w args => (Rows.lotsCostSpec.pre enc Tryd.prog Tryd.f11 [] false w args ∧ laidMetH Tryd.prog [("errors.errorType", Rows.laid_errors_errorType)] w) ∧ sizedMet enc Tryd.prog Tryd.f11 (OpenSpec.ofChange Rows.lotsCostSpec) false w args)
      (Rows.lotsCostSpec.post enc Tryd.prog Tryd.f11 false true false false) := by
  refine returnsInHanded_of_change_and (C := Tryd.checked) (X := fun w _ => laidMetH Tryd.prog [("errors.errorType", Rows.laid_errors_errorType)] w) (fun _ _ _ hh h => h.of_heap hh) Tryd.own started (by kernel_rfl) Tryd.func11
    (ChangeSpec.witness_at (enc := enc) (C := Tryd.checked) (os := os) (X := fun w _ => laidMetH Tryd.prog [("errors.errorType", Rows.laid_errors_errorType)] w) false (laidWorld os) #[.slice none 0 0, .slice none 0 0, .slice none 0 0, .slice none 0 0] 8 rfl (by kernel_rfl) (by kernel_rfl) (by kernel_rfl) (by kernel_rfl) (by kernel_rfl) (laidWorld_met os _)) ?_
  intro W base args ds gs before hval0 hW _ _ hL _
  have hval : ∀ (j : Nat) t v, Tryd.f11.params[j]? = some t → args[j]? = some v → Value.okWide Tryd.prog W .any base t v := hval0
  have hW' := hW
  obtain ⟨p, q, hA0, hV0, rfl, hfz, hnd⟩ := hW
  have hA : DataW.TrodAll enc Tryd.prog W 0 (fun _ => true) true Tryd.f11.params.toList args.toList ds p := hA0
  have hV : DataW.TrodVars enc Tryd.prog W (fun _ => true) [] gs q := hV0
  rw [Tryd.params11] at hA hval
  obtain ⟨v0, v1, v2, v3, d0, d1, d2, d3, p0, p1, p2, p3, rfl, rfl, rfl, h0, h1, h2, h3⟩ := trodAll_four hA
  obtain ⟨rfl, rfl⟩ : gs = [] ∧ q = [] := by
    cases gs with
    | nil => exact ⟨rfl, hV⟩
    | cons g r => exact absurd hV (by intro h; cases h)
  have hg := hnd_of_laid hL
  obtain ⟨a0, c0, x0, rfl, hl0, hm0, he0, hw0⟩ := open_intlist Tryd.underlying37 Tryd.underlying3 (show Tryd.prog.cellsOf 3 = 1 by kernel_rfl) (hval 0 37 v0 rfl rfl) h0
  obtain ⟨a1, c1, x1, rfl, hl1, hm1, he1, hw1⟩ := open_intlist Tryd.underlying37 Tryd.underlying3 (show Tryd.prog.cellsOf 3 = 1 by kernel_rfl) (hval 1 37 v1 rfl rfl) h1
  obtain ⟨a2, c2, x2, rfl, hl2, hm2, he2, hw2⟩ := open_intlist Tryd.underlying37 Tryd.underlying3 (show Tryd.prog.cellsOf 3 = 1 by kernel_rfl) (hval 2 37 v2 rfl rfl) h2
  obtain ⟨a3, c3, x3, rfl, hl3, hm3, he3, hw3⟩ := open_intlist Tryd.underlying37 Tryd.underlying3 (show Tryd.prog.cellsOf 3 = 1 by kernel_rfl) (hval 3 37 v3 rfl rfl) h3
  clear hA0 hval0
  refine (lotsCost_law a0 a1 a2 a3 _ _ _ _ c0 c1 c2 c3 x0 x1 x2 x3 W hg rfl rfl rfl rfl (by omega) (by omega) (by omega) (by omega) he0 he1 he2 he3).mono fun e W' ⟨he, hb⟩ => ?_
  subst he
  refine ⟨_, rfl, law_post Tryd.laidOut ?_ rfl Tryd.underlying4 hW' rfl rfl rfl rfl hb⟩
  intro t ht
  have := List.all_eq_true.1 lotsCost_readable t ht
  rw [Bool.and_eq_true, decide_eq_true_eq] at this
  exact this

theorem lotsCost_row : Rows.LotsCostSaid :=
  OpenClaim.holds_of_wide 11 Tryd.f11 rfl rfl rfl rfl rfl rfl rfl ⟨rfl, rfl, rfl, rfl, rfl⟩ rfl rfl rfl rfl rfl (by kernel_rfl) Tryd.func11 (by kernel_rfl)
    (of_decide_eq_true (by kernel_rfl)) (by unfold Func.isWrapper; rw [if_neg (of_decide_eq_false (by kernel_rfl))]; exact ⟨rfl, rfl⟩)
    (fun os started H enc _ => lotsCost_lifted os started H enc)
theorem lotsCost_noStand : (Tryd.f11.params.toList.all fun t => !Tryd.prog.wantsStandIn t) = true := by kernel_rfl
theorem lotsCost_card : Rows.LotsCostCardSaid :=
  Claim7.holds_tied_plain_at .later [] [.handle] true Rows.lotsCostCard.stood.harness true
    lotsCost_row (fun _ h => by cases h) (by kernel_rfl) (fun _ h => by cases h) lotsCost_row_tie rfl ⟨rfl, rfl⟩ (by kernel_rfl) rfl
    (fun f fn hf hfn => by
      obtain rfl : f = 11 := Option.some.inj ((show Tryd.prog.funcNamed "foresight/foresightlaw.LotsCost" = some 11 by kernel_rfl).symm.trans hf) |>.symm
      obtain rfl : fn = Tryd.f11 := (Option.some.inj (Tryd.func11.symm.trans hfn)).symm
      exact ⟨by kernel_rfl, fun j t ht => by
        have h := List.all_eq_true.1 lotsCost_noStand t (Array.mem_toList_iff.2 (Array.mem_of_getElem? ht))
        rw [Bool.not_eq_true'] at h
        exact h⟩)
    (by kernel_rfl)
#print axioms lotsCost_card
end Go.Proofs.YtgcocjfbppkgbaaDoor
