/- The law LotsPlan: the plan, and its cost, are the best of all ways to part periods into runs, or both tell the same error. -/
import Derived.Test.YtfaklhkdfpfjgaaDoorPlanW
import Derived.Test.YtfaklhkdfpfjgaaDoorRefPlan2
import Derived.Test.YtfaklhkdfpfjgaaDoorSame
import Derived.Test.YtfaklhkdfpfjgaaDoorWhole
namespace Go.Proofs.YtfaklhkdfpfjgaaDoor
open Go.RowKit

set_option maxRecDepth 100000 in
set_option maxHeartbeats 4000000 in
theorem plan_bad (aW aO aK : Option Addr) (cW cO cK : Nat) (W O K : List Int) (w : World) (hN : needErr W O K ≠ 0) (lW : W.length ≤ 80) (lO : O.length ≤ 80) (lK : K.length ≤ 80) (hW : Elems encI 1 w aW W) (hO : Elems encI 1 w aO O) (hK : Elems encI 1 w aK K) :
    Calls Tryd.prog 39 #[.agg #[.slice aW W.length cW, .slice aO O.length cO, .slice aK K.length cK]] w fun e w' => e = .returned (.tuple #[.slice none 0 0, .int .i64 0, errV (needErr W O K)]) ∧ Below w.heap.size w w' := by
  have hba : Below w.heap.size w (w.alloc (Obj.cells #[.slice aW W.length cW, .slice aO O.length cO, .slice aK K.length cK] 77)) := (Below.refl _ _).alloc (Nat.le_refl _) _
  have HC := needCheck_any aW aO aK _ _ _ cW cO cK W O K _ rfl rfl rfl (by omega) (by omega) (by omega) (hW.at hba) (hO.at hba) (hK.at hba)
  have hV : errV (needErr W O K) = .iface 25 (.int .i64 (needErr W O K)) := if_neg hN
  rw [hV] at HC ⊢
  have HC := Lib.hid HC
  have HBA := Lib.hid hba
  clear hV hN hW hO hK hba
  generalize needErr W O K = ev at *
  go_enter Tryd.func39, Tryd.ntmps39
  go_wp2_with fail
  refine HC.out.mono ?_
  rintro e w1 ⟨rfl, hb1⟩
  have HB1 : Hid (Below w.heap.size w w1) := Lib.hid (HBA.out.trans (hb1.mono (by simp)))
  clear hb1 HC HBA
  go_wp2
  go_ret3
  exact ⟨rfl, HB1.out⟩

set_option maxRecDepth 100000 in
set_option maxHeartbeats 4000000 in
theorem lotsPlan_law (aW aO aV : Option Addr) (nW nO nV cW cO cV : Nat) (W O V : List Int) (w : World) (hg : Hnd w) (lW : nW = W.length) (lO : nO = O.length) (lV : nV = V.length) (hcW : W.length ≤ cW) (mW : nW ≤ maxLen) (mO : nO ≤ maxLen) (mV : nV ≤ maxLen)
    (hW : Elems encI 1 w aW W) (hO : Elems encI 1 w aO O) (hV : Elems encI 1 w aV V) :
    Calls Tryd.prog 8 #[.slice aW nW cW, .slice aO nO cO, .slice aV nV cV] w fun e w' => e = .returned (.bool true) ∧ Below w.heap.size w w' := by
  subst lW; subst lO; subst lV
  unfold maxLen at mW mO mV
  by_cases b9 : 9 < W.length ∧ W.length ≤ 50
  · obtain ⟨b1, b2⟩ := b9
    go_enter Tryd.func8, Tryd.ntmps8
    go_wp2
    go_ret
    exact ⟨rfl, Below.refl _ _⟩
  by_cases bW : 80 < W.length
  · have b1 : 9 < W.length := by omega
    have b2 : ¬ W.length ≤ 50 := by omega
    clear b9
    go_enter Tryd.func8, Tryd.ntmps8
    go_wp2
    go_ret
    exact ⟨rfl, Below.refl _ _⟩
  have hguard : W.length ≤ 9 ∨ (9 < W.length ∧ 50 < W.length) := by omega
  clear b9
  by_cases bO : 80 < O.length
  · rcases hguard with h1 | ⟨h1, h2⟩
    all_goals
      go_enter Tryd.func8, Tryd.ntmps8
      go_wp2
      go_ret
      exact ⟨rfl, Below.refl _ _⟩
  by_cases bV : 80 < V.length
  · rcases hguard with h1 | ⟨h1, h2⟩
    all_goals
      go_enter Tryd.func8, Tryd.ntmps8
      go_wp2
      go_ret
      exact ⟨rfl, Below.refl _ _⟩
  have hb0 : Below w.heap.size w (w.alloc (Obj.cells #[.slice aW W.length cW, .slice aO O.length cO, .slice aV V.length cV] 71)) := (Below.refl _ _).alloc (Nat.le_refl _) _
  have H1 := Lib.hid (refNeed_any aW aO aV _ _ _ cW cO cV W O V _ rfl rfl rfl (by omega) (hW.at hb0) (hO.at hb0) (hV.at hb0))
  have HB0 := Lib.hid hb0
  have HE := Lib.hid (And.intro hW (And.intro hO hV))
  by_cases hN : needErr W O V = 0
  case neg =>
    have HP := Lib.hid (fun w' hb' => plan_bad aW aO aV cW cO cV W O V w' hN (by omega) (by omega) (by omega) (hW.at hb') (hO.at hb') (hV.at hb'))
    have hz : (needErr W O V == 0) = false := by simpa using hN
    have HNZ := Lib.hid hN
    clear hN hW hO hV hb0
    generalize needErr W O V = ev at *
    rcases hguard with h1 | ⟨h1, h2⟩
    all_goals
      go_enter Tryd.func8, Tryd.ntmps8
      go_wp2_with fail
      refine H1.out.mono ?_
      rintro e w1 ⟨rfl, hb1⟩
      have hb01 := HB0.out.trans (hb1.mono HB0.out.size)
      go_wp2_with fail
      refine (HP.out _ hb01).mono ?_
      rintro e w2 ⟨rfl, hb2⟩
      have hb02 := below_next hb01 hb2
      clear hb1 hb01 hb2
      go_wp2_with fail
      refine (ints_any ev none none 0 0 0 0 [] [] _ (hg.at hb02) rfl rfl (by simp) (by simp) (Or.inl rfl) (Or.inl rfl) (fun _ => rfl) (fun _ => rfl)).mono ?_
      rintro e w3 ⟨rfl, hb3⟩
      have hb03 := below_next hb02 hb3
      clear hb02 hb3
      go_wp2_with fail
      refine (whole_any ev 0 0 _ (hg.at hb03) (fun _ => rfl) (fun _ => rfl)).mono ?_
      rintro e w4 ⟨rfl, hb4⟩
      go_wp2
      go_ret
      exact ⟨rfl, below_next hb03 hb4⟩
  have h50 := (need_ok hN).1
  have h9 : W.length ≤ 9 := by omega
  have HR := Lib.hid (fun w' hb' => refPlan_any aW aO aV cW cO cV W O V w' hN h9 (hW.at hb') (hO.at hb') (hV.at hb'))
  have HP := Lib.hid (fun w' hb' => plan_any aW aO aV cW cO cV W O V w' hN h9 hcW (hW.at hb') (hO.at hb') (hV.at hb'))
  rw [hN] at H1
  clear hN hW hO hV hb0 hguard h50
  go_enter Tryd.func8, Tryd.ntmps8
  go_wp2_with fail
  refine H1.out.mono ?_
  rintro e w1 ⟨rfl, hb1⟩
  have hb01 := HB0.out.trans (hb1.mono HB0.out.size)
  have c0 : w1.cell? ⟨w.heap.size, 0, none⟩ = some (.slice aW W.length cW) := (hb1.cell (by simp)).trans (by simp)
  have c1 : w1.cell? ⟨w.heap.size, 1, none⟩ = some (.slice aO O.length cO) := (hb1.cell (by simp)).trans (by simp)
  have c2 : w1.cell? ⟨w.heap.size, 2, none⟩ = some (.slice aV V.length cV) := (hb1.cell (by simp)).trans (by simp)
  clear hb1
  go_wp2_with fail
  refine (HR.out _ hb01).mono ?_
  intro e w2 hw
  unfold RefPlanPost at hw
  obtain ⟨a5, c5, cc, pp, hbt, rfl, he5, hb2⟩ := hw
  have HBT := Lib.hid hbt
  have hb02 := below_next hb01 hb2
  clear hb01 hb2 hbt c0 c1 c2
  go_wp2_with fail
  refine (HP.out _ hb02).mono ?_
  intro e w3 hw
  unfold PlanPost at hw
  obtain ⟨a6, c6, cc2, pp2, hbt, rfl, he6, hb3⟩ := hw
  have hb03 := below_next hb02 hb3
  have he53 := he5.at hb3
  rw [HBT.out] at hbt
  simp only [Option.some.injEq, Prod.mk.injEq] at hbt
  obtain ⟨rfl, rfl⟩ := hbt
  clear hb02 hb3 he5
  obtain ⟨L, hL⟩ : ∃ L, L = placeT W (List.replicate W.length 0) W.length pp := ⟨_, rfl⟩
  rw [← hL] at he6 he53
  have hLl : L.length = W.length := by rw [hL, placeT_len]; simp
  have HLL := Lib.hid hLl
  have HEL := Lib.hid (And.intro he6 he53)
  clear hL hLl he6 he53
  rw [show (Value.nilIface) = errV 0 from rfl]
  go_wp2_with fail
  refine (ints_any 0 a6 a5 _ _ _ _ L L _ (hg.at hb03) HLL.out.symm HLL.out.symm (by rw [HLL.out]; omega) (by rw [HLL.out]; omega) HEL.out.1 HEL.out.2 (fun _ => rfl) (fun h => absurd rfl h)).mono ?_
  rintro e w4 ⟨rfl, hb4⟩
  have hb04 := below_next hb03 hb4
  clear hb03 hb4
  go_wp2_with fail
  refine (whole_any 0 cc cc _ (hg.at hb04) (fun _ => rfl) (fun h => absurd rfl h)).mono ?_
  rintro e w5 ⟨rfl, hb5⟩
  go_wp2
  go_ret
  exact ⟨rfl, below_next hb04 hb5⟩
end Go.Proofs.YtfaklhkdfpfjgaaDoor
