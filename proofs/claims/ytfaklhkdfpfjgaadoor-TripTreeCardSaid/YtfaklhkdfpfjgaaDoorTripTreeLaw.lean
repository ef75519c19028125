/- The law TripTree: the length of the shortest tree and the way to the nearest place are the reference's, or all tell the same error. -/
import Derived.Test.YtfaklhkdfpfjgaaDoorRefTree
import Derived.Test.YtfaklhkdfpfjgaaDoorRefNear
import Derived.Test.YtfaklhkdfpfjgaaDoorSame
import Derived.Test.YtfaklhkdfpfjgaaDoorWhole
namespace Go.Proofs.YtfaklhkdfpfjgaaDoor
open Go.RowKit

theorem tree_bad (a : Option Addr) (n cap : Nat) (A : List (List Int)) (w : World) (hl : n = A.length) (hn : n ≤ maxLen) (hM : mapCheck A ≠ 0) (hr : Rows2 w a A) :
    Calls Tryd.prog 51 #[.slice a n cap] w fun e w' => e = .returned (.tuple #[.int .i64 0, errV (mapCheck A)]) ∧ Below w.heap.size w w' := by
  subst hl
  have HC1 := tripChk_any a _ cap A w rfl hn hr
  have hV : errV (mapCheck A) = .iface 25 (.int .i64 (mapCheck A)) := if_neg hM
  rw [hV] at HC1 ⊢
  clear hV hM
  generalize mapCheck A = ev at *
  go_enter Tryd.func51, Tryd.ntmps51
  go_wp2_with fail
  refine HC1.mono ?_
  rintro e w1 ⟨rfl, hb1⟩
  go_wp2
  go_ret2
  exact ⟨rfl, hb1⟩
theorem near_bad (a : Option Addr) (n cap : Nat) (A : List (List Int)) (w : World) (hl : n = A.length) (hn : n ≤ maxLen) (hM : mapCheck A ≠ 0) (hr : Rows2 w a A) :
    Calls Tryd.prog 52 #[.slice a n cap] w fun e w' => e = .returned (.tuple #[.slice none 0 0, errV (mapCheck A)]) ∧ Below w.heap.size w w' := by
  subst hl
  have HC1 := tripChk_any a _ cap A w rfl hn hr
  have hV : errV (mapCheck A) = .iface 25 (.int .i64 (mapCheck A)) := if_neg hM
  rw [hV] at HC1 ⊢
  clear hV hM
  generalize mapCheck A = ev at *
  go_enter Tryd.func52, Tryd.ntmps52
  go_wp2_with fail
  refine HC1.mono ?_
  rintro e w1 ⟨rfl, hb1⟩
  go_wp2
  go_ret2
  exact ⟨rfl, hb1⟩

set_option maxRecDepth 100000 in
set_option maxHeartbeats 8000000 in
theorem tripTree_law (a : Option Addr) (n cap : Nat) (A : List (List Int)) (w : World) (hg : Hnd w) (hl : n = A.length) (hn : n ≤ maxLen) (hr : Rows2 w a A) :
    Calls Tryd.prog 11 #[.slice a n cap] w fun e w' => e = .returned (.bool true) ∧ Below w.heap.size w w' := by
  subst hl
  have HBIG := big_any a _ cap A w rfl hn hr
  have HC1 := Lib.hid (fun w' h => refMap_any a _ cap A w' rfl hn h)
  by_cases hM : mapCheck A = 0
  case neg =>
    have HT := Lib.hid (fun w' h => tree_bad a _ cap A w' rfl hn hM h)
    have HN := Lib.hid (fun w' h => near_bad a _ cap A w' rfl hn hM h)
    have hz0 : (mapCheck A == 0) = false := by simpa using hM
    have HNZ := Lib.hid hM
    clear hM
    generalize mapCheck A = ev at *
    go_enter Tryd.func11, Tryd.ntmps11
    go_wp2_with fail
    refine HBIG.mono ?_
    intro e w1 hw
    unfold BigPost at hw
    obtain ⟨b, rfl, rfl⟩ := hw
    cases b with
    | true =>
      go_wp2
      go_ret
      exact ⟨rfl, Below.refl _ _⟩
    | false =>
      go_wp2_with fail
      refine (HC1.out _ hr).mono ?_
      rintro e w2 ⟨rfl, hb2⟩
      go_wp2_with fail
      refine (HT.out _ (hr.at hb2)).mono ?_
      rintro e w3 ⟨rfl, hb3⟩
      have hb03 := below_next hb2 hb3
      go_wp2_with fail
      refine (HN.out _ (hr.at hb03)).mono ?_
      rintro e w4 ⟨rfl, hb4⟩
      have hb04 := below_next hb03 hb4
      go_wp2_with fail
      refine (whole_any ev 0 0 _ (hg.at hb04) (fun _ => rfl) (fun _ => rfl)).mono ?_
      rintro e w5 ⟨rfl, hb5⟩
      have hb05 := below_next hb04 hb5
      go_wp2_with fail
      refine (ints_any ev none none 0 0 0 0 [] [] _ (hg.at hb05) rfl rfl (by simp) (by simp) (Or.inl rfl) (Or.inl rfl) (fun _ => rfl) (fun _ => rfl)).mono ?_
      rintro e w6 ⟨rfl, hb6⟩
      go_wp2
      go_ret
      exact ⟨rfl, below_next hb05 hb6⟩
  obtain ⟨hA9, _⟩ := map_ok hM
  have HRN := Lib.hid (fun w' h => refNear_ok a _ cap A w' rfl hM h)
  have HRT := Lib.hid (fun w' h => refTree_ok a _ cap A w' rfl hM h)
  have HPT := Lib.hid (fun w' h => prim_ok a _ cap A w' rfl hM h)
  have HPN := Lib.hid (fun w' h => near_ok a _ cap A w' rfl hM h)
  have HNL := Lib.hid (near_len A A.length)
  rw [hM] at HC1
  clear hM
  go_enter Tryd.func11, Tryd.ntmps11
  go_wp2_with fail
  refine HBIG.mono ?_
  intro e w1 hw
  unfold BigPost at hw
  obtain ⟨b, rfl, rfl⟩ := hw
  cases b with
  | true =>
    go_wp2
    go_ret
    exact ⟨rfl, Below.refl _ _⟩
  | false =>
    go_wp2_with fail
    refine (HC1.out _ hr).mono ?_
    rintro e w2 ⟨rfl, hb2⟩
    go_wp2_with fail
    refine (HRN.out _ (hr.at hb2)).mono ?_
    intro e w3 hw
    unfold RefNearPost at hw
    obtain ⟨a3, c3, rfl, he3, hb3⟩ := hw
    have hb03 := below_next hb2 hb3
    go_wp2_with fail
    refine (HRT.out _ (hr.at hb03)).mono ?_
    intro e w4 hw
    unfold RefTreePost at hw
    obtain ⟨s4, l4, rfl, hl4, hs4, hb4⟩ := hw
    have HS4 := Lib.hid hs4
    clear hs4
    have hb04 := below_next hb03 hb4
    have he4 := he3.at hb4
    clear hb2 hb3 hb03 he3
    go_wp2_with fail
    refine (HPT.out _ (hr.at hb04)).mono ?_
    intro e w5 hw
    unfold PrimPost at hw
    obtain ⟨S, s5, rfl, hp5, hb5⟩ := hw
    have hb05 := below_next hb04 hb5
    have hss : s5 = s4 := (prim_end hp5 l4 hl4).trans HS4.out.symm
    have HSS := Lib.hid hss
    clear hss hp5 hl4 HS4
    go_wp2_with fail
    refine (HPN.out _ (hr.at hb05)).mono ?_
    intro e w6 hw
    unfold NearPost at hw
    obtain ⟨a6, c6, rfl, he6, hb6⟩ := hw
    have hb06 := below_next hb05 hb6
    have he46 := (he4.at hb5).at hb6
    have hE0 : errV 0 = .nilIface := rfl
    rw [← hE0]
    go_wp2_with fail
    refine (whole_any 0 s5 s4 _ (hg.at hb06) (fun _ => HSS.out) (fun h => absurd rfl h)).mono ?_
    rintro e w7 ⟨rfl, hb7⟩
    have hb07 := below_next hb06 hb7
    go_wp2_with fail
    refine (ints_any 0 a6 a3 _ _ _ _ (nearM A A.length) (nearM A A.length) _ (hg.at hb07) HNL.out.symm HNL.out.symm (by rw [HNL.out]; omega) (by rw [HNL.out]; omega) (he6.at hb7) (he46.at hb7) (fun _ => rfl) (fun h => absurd rfl h)).mono ?_
    rintro e w8 ⟨rfl, hb8⟩
    go_wp2
    go_ret
    exact ⟨rfl, below_next hb07 hb8⟩
end Go.Proofs.YtfaklhkdfpfjgaaDoor
