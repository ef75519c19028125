/- DepotPlays: of any moves and names, what the depot tells at each move, what is there, and the journal are the reference's. Condition: the six listed tables of the library hold what the text of the program lays (the card ties it). -/
import Derived.Test.YtannijeiecmjpaaGreatDoorDoorZ
import Derived.Test.YtannijeiecmjpaaGreatDoorOpenD
import Derived.Test.YtannijeiecmjpaaGreatDoorPlaysD
namespace Go.Proofs.YtannijeiecmjpaaGreatDoor
open Go.ChangeShapes Go.WideShapes Go.ChangeAt Go.RowKit

theorem depotPlays_readable : (Tryz.f3.params.toList.all fun t => Tryz.prog.readableRec t && decide (t < Tryz.prog.types.size)) = true := by kernel_rfl

set_option maxRecDepth 100000 in
theorem depotPlays_lifted (os : Os) (started : os.Started) (H : Type) (enc : TypeId × Value → H) :
    ReturnsInHanded {} Tryz.checked os 3 .any (fun w args => (Rows.depotPlaysSpec.pre enc Tryz.prog Tryz.f3 [] false w args ∧ laidMetH Tryz.prog laidP w) ∧ sizedMet enc Tryz.prog Tryz.f3 (OpenSpec.ofChange Rows.depotPlaysSpec) false w args)
      (Rows.depotPlaysSpec.post enc Tryz.prog Tryz.f3 false true false false) := by
  refine returnsInHanded_of_change_and (C := Tryz.checked) (X := fun w _ => laidMetH Tryz.prog laidP w) (fun _ _ _ hh h => h.of_heap hh) Tryz.own started (by kernel_rfl) Tryz.func3
    (ChangeSpec.witness_shaped (enc := enc) (C := Tryz.checked) (os := os) (X := fun w _ => laidMetH Tryz.prog laidP w) false (laidWorld os) #[.slice none 0 0, .slice none 0 0] 8 (laidWorld_os os)
      (World.shaped_of_ZipB (by kernel_rfl) (by kernel_rfl)) (by kernel_rfl) (by kernel_rfl) (by kernel_rfl) (laidWorld_met os _)) ?_
  intro W base args ds gs before hval0 hW _ _ hL _
  have hval : ∀ (j : Nat) t v, Tryz.f3.params[j]? = some t → args[j]? = some v → Value.okWide Tryz.prog W .any base t v := hval0
  have hW' := hW
  obtain ⟨p, q, hA0, hV0, rfl, hfz, hnd⟩ := hW
  have hA : DataW.TrodAll enc Tryz.prog W 0 (fun _ => true) true Tryz.f3.params.toList args.toList ds p := hA0
  have hV : DataW.TrodVars enc Tryz.prog W (fun _ => true) [] gs q := hV0
  rw [Tryz.params3] at hA hval
  obtain ⟨v0, v1, d0, d1, p0, p1, rfl, rfl, rfl, h0, h1⟩ := trodAll_two hA
  obtain ⟨rfl, rfl⟩ : gs = [] ∧ q = [] := by
    cases gs with
    | nil => exact ⟨rfl, hV⟩
    | cons g r => exact absurd hV (by intro h; cases h)
  have hg := hnd_of_laid hL
  have hp := pow_of_laid (parts_of_laid hL).1
  obtain ⟨a0, c0, x0, rfl, hl0, hm0, he0, hw0⟩ := open_moves Tryz.underlying22 Tryz.underlying36 (by kernel_rfl) (show Tryz.prog.cellsOf 36 = 2 by kernel_rfl) Tryz.underlying9 Tryz.underlying3 (hval 0 22 v0 rfl rfl) h0
  obtain ⟨a1, c1, x1, rfl, hl1, hm1, he1, hw1⟩ := open_texts Tryz.underlying23 Tryz.underlying9 (show Tryz.prog.cellsOf 9 = 1 by kernel_rfl) (hval 1 23 v1 rfl rfl) h1
  have hms : ∀ m ∈ x0, m.1.length ≤ 9223372036854775807 ∧ -9223372036854775808 ≤ m.2 ∧ m.2 ≤ 9223372036854775807 := fun m hm => by
    obtain ⟨k1, k2⟩ := hw0 m hm
    unfold maxLen at k1
    have k3 : -9223372036854775808 ≤ m.2 ∧ m.2 ≤ 9223372036854775807 := by simpa [Lit.wf, IntKind.min, IntKind.max, IntKind.signed, IntKind.bits] using k2
    exact ⟨by omega, k3⟩
  have hns : ∀ s ∈ x1, s.length ≤ 9223372036854775807 := fun s hs => by
    have k1 := hw1 s hs
    unfold maxLen at k1
    omega
  clear hA0 hval0
  refine (plays_law a0 a1 _ _ c0 c1 x0 x1 W hg hp rfl rfl hms hns he0 he1).mono fun e W' ⟨he, hb⟩ => ?_
  subst he
  refine ⟨_, rfl, law_post Tryz.laidOut ?_ rfl Tryz.underlying4 hW' rfl rfl rfl rfl hb⟩
  intro t ht
  have := List.all_eq_true.1 depotPlays_readable t ht
  rw [Bool.and_eq_true, decide_eq_true_eq] at this
  exact this

theorem depotPlays_row : Rows.DepotPlaysSaid :=
  OpenClaim.holds_of_wide 3 Tryz.f3 rfl rfl rfl rfl rfl rfl rfl ⟨rfl, rfl, rfl, rfl, rfl⟩ rfl rfl rfl rfl rfl (by kernel_rfl) Tryz.func3 (by kernel_rfl)
    (of_decide_eq_true (by kernel_rfl)) (by unfold Func.isWrapper; rw [if_neg (of_decide_eq_false (by kernel_rfl))]; exact ⟨rfl, rfl⟩)
    (fun os started H enc _ => depotPlays_lifted os started H enc)
theorem depotPlays_noStand : (Tryz.f3.params.toList.all fun t => !Tryz.prog.wantsStandIn t) = true := by kernel_rfl
theorem depotPlays_card : Rows.DepotPlaysCardSaid :=
  Claim7.holds_tied_plain_at .later [] [.data, .data, .data, .data, .handle, .pinned] true Rows.depotPlaysCard.stood.harness true
    depotPlays_row (fun _ h => by cases h) (by kernel_rfl) (fun _ h => by cases h) depotPlays_row_tie rfl ⟨rfl, rfl⟩ (by kernel_rfl) rfl
    (fun f fn hf hfn => by
      obtain rfl : f = 3 := Option.some.inj ((show Tryz.prog.funcNamed "foresight/foresightlaw.DepotPlays" = some 3 by kernel_rfl).symm.trans hf) |>.symm
      obtain rfl : fn = Tryz.f3 := (Option.some.inj (Tryz.func3.symm.trans hfn)).symm
      exact ⟨by kernel_rfl, fun j t ht => by
        have h := List.all_eq_true.1 depotPlays_noStand t (Array.mem_toList_iff.2 (Array.mem_of_getElem? ht))
        rw [Bool.not_eq_true'] at h
        exact h⟩)
    (by kernel_rfl)
#print axioms depotPlays_card
end Go.Proofs.YtannijeiecmjpaaGreatDoor
