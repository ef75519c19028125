/- The law TreeSum: how far all people are, and how many are in each branch, are the reference's, or all tell the same error. -/
import Derived.Test.YtogbmpnbbkcocaaDoorTreeBr2
namespace Go.Proofs.YtogbmpnbbkcocaaDoor
open Go.RowKit

theorem sum_bad (a a2 : Option Addr) (n n2 cap cap2 : Nat) (ni ri : Int) (xs : List R3) (ps : List Int) (w : World) (hl : n = xs.length) (hl2 : n2 = ps.length) (hn : xs.length ≤ 100) (hn2 : ps.length ≤ 100) (hT : peoErr ni xs ps ≠ 0) (hx : Elems enc3 3 w a xs) (hp : Elems encI 1 w a2 ps) :
    Calls Tryd.prog 26 #[.int .i64 ni, .slice a n cap, .slice a2 n2 cap2, .int .i64 ri] w fun e w' => e = .returned (.tuple #[.int .i64 0, errV (peoErr ni xs ps)]) ∧ Below w.heap.size w w' := by
  subst hl; subst hl2
  have hC := weights_any a a2 _ _ cap cap2 ni xs ps w rfl rfl hn hn2 hx hp
  rw [show errV (peoErr ni xs ps) = .iface 25 (.int .i64 (peoErr ni xs ps)) from if_neg hT] at hC ⊢
  generalize peoErr ni xs ps = er at *
  clear hx hp hT
  go_enter Tryd.func26, Tryd.ntmps26
  go_wp2_with fail
  refine hC.mono ?_
  rintro e w1 ⟨rfl, hb1⟩
  go_wp2
  go_ret2
  exact ⟨rfl, hb1⟩
theorem branches_bad (a a2 : Option Addr) (n n2 cap cap2 : Nat) (ni ri : Int) (xs : List R3) (ps : List Int) (w : World) (hl : n = xs.length) (hl2 : n2 = ps.length) (hn : xs.length ≤ 100) (hn2 : ps.length ≤ 100) (hT : peoErr ni xs ps ≠ 0) (hx : Elems enc3 3 w a xs) (hp : Elems encI 1 w a2 ps) :
    Calls Tryd.prog 27 #[.int .i64 ni, .slice a n cap, .slice a2 n2 cap2, .int .i64 ri] w fun e w' => e = .returned (.tuple #[.slice none 0 0, errV (peoErr ni xs ps)]) ∧ Below w.heap.size w w' := by
  subst hl; subst hl2
  have hC := weights_any a a2 _ _ cap cap2 ni xs ps w rfl rfl hn hn2 hx hp
  rw [show errV (peoErr ni xs ps) = .iface 25 (.int .i64 (peoErr ni xs ps)) from if_neg hT] at hC ⊢
  generalize peoErr ni xs ps = er at *
  clear hx hp hT
  go_enter Tryd.func27, Tryd.ntmps27
  go_wp2_with fail
  refine hC.mono ?_
  rintro e w1 ⟨rfl, hb1⟩
  go_wp2
  go_ret2
  exact ⟨rfl, hb1⟩
set_option maxHeartbeats 4000000 in
theorem sum_range (a a2 : Option Addr) (n n2 cap cap2 : Nat) (ni ri : Int) (xs : List R3) (ps : List Int) (w : World) (hl : n = xs.length) (hl2 : n2 = ps.length) (hn : xs.length ≤ 100) (hn2 : ps.length ≤ 100) (hT : peoErr ni xs ps = 0) (hr : ri < 0 ∨ ni ≤ ri) (hx : Elems enc3 3 w a xs) (hp : Elems encI 1 w a2 ps) :
    Calls Tryd.prog 26 #[.int .i64 ni, .slice a n cap, .slice a2 n2 cap2, .int .i64 ri] w fun e w' => e = .returned (.tuple #[.int .i64 0, .iface 25 (.int .i64 2)]) ∧ Below w.heap.size w w' := by
  subst hl; subst hl2
  have hC := weights_any a a2 _ _ cap cap2 ni xs ps w rfl rfl hn hn2 hx hp
  rw [hT, show errV 0 = .nilIface from rfl] at hC
  have HX := Lib.hid hx
  have HF := Lib.hid (fun w h => far_range a _ cap ni ri xs w rfl hn (peo_ok hT).1 hr h)
  clear hx hp hT hr
  go_enter Tryd.func26, Tryd.ntmps26
  go_wp2_with fail
  refine hC.mono ?_
  rintro e w1 ⟨rfl, hb1⟩
  have HF2 := Lib.hid (HF.out _ (HX.out.at hb1))
  go_wp2_with fail
  refine HF2.out.mono ?_
  rintro e w2 ⟨rfl, hb2⟩
  have hb := below_next hb1 hb2
  clear HF HF2 hC
  go_wp2
  go_loop [13, 31] (fun sv iv => sv = .int .i64 0 ∧ iv = .int .i64 0) (fun _ _ => 0)
  case atStart => exact ⟨rfl, rfl⟩
  case round =>
    obtain ⟨rfl, rfl⟩ := hrel
    go_wp2
    go_ret2
    exact ⟨rfl, hb⟩
set_option maxHeartbeats 4000000 in
theorem branches_range (a a2 : Option Addr) (n n2 cap cap2 : Nat) (ni ri : Int) (xs : List R3) (ps : List Int) (w : World) (hl : n = xs.length) (hl2 : n2 = ps.length) (hn : xs.length ≤ 100) (hn2 : ps.length ≤ 100) (hT : peoErr ni xs ps = 0) (hr : ri < 0 ∨ ni ≤ ri) (hx : Elems enc3 3 w a xs) (hp : Elems encI 1 w a2 ps) :
    Calls Tryd.prog 27 #[.int .i64 ni, .slice a n cap, .slice a2 n2 cap2, .int .i64 ri] w fun e w' => e = .returned (.tuple #[.slice none 0 0, .iface 25 (.int .i64 2)]) ∧ Below w.heap.size w w' := by
  subst hl; subst hl2
  have hC := weights_any a a2 _ _ cap cap2 ni xs ps w rfl rfl hn hn2 hx hp
  rw [hT, show errV 0 = .nilIface from rfl] at hC
  clear hx hp hT
  rcases hr with hr | hr
  · go_enter Tryd.func27, Tryd.ntmps27
    go_wp2_with fail
    refine hC.mono ?_
    rintro e w1 ⟨rfl, hb1⟩
    go_wp2
    go_ret2
    exact ⟨rfl, hb1⟩
  · by_cases h0 : ri < 0
    · go_enter Tryd.func27, Tryd.ntmps27
      go_wp2_with fail
      refine hC.mono ?_
      rintro e w1 ⟨rfl, hb1⟩
      go_wp2
      go_ret2
      exact ⟨rfl, hb1⟩
    · go_enter Tryd.func27, Tryd.ntmps27
      go_wp2_with fail
      refine hC.mono ?_
      rintro e w1 ⟨rfl, hb1⟩
      go_wp2
      go_ret2
      exact ⟨rfl, hb1⟩

set_option maxRecDepth 100000 in
set_option maxHeartbeats 8000000 in
theorem treeSum_law (a a2 : Option Addr) (n n2 cap cap2 : Nat) (ni ri : Int) (xs : List R3) (ps : List Int) (w : World) (hg : Hnd w) (hl : n = xs.length) (hl2 : n2 = ps.length) (hcap : n ≤ cap) (hcm : cap ≤ maxLen) (hn2 : n2 ≤ maxLen) (hx : Elems enc3 3 w a xs) (hp : Elems encI 1 w a2 ps) :
    Calls Tryd.prog 6 #[.int .i64 ni, .slice a n cap, .slice a2 n2 cap2, .int .i64 ri] w fun e w' => e = .returned (.bool true) ∧ Below w.heap.size w w' := by
  subst hl; subst hl2
  have hn : xs.length ≤ maxLen := by omega
  unfold maxLen at hn hn2
  by_cases hA : 100 < xs.length
  · have hd : decide ((100 : Int) < (xs.length : Int)) = true := by simp; omega
    go_enter Tryd.func6, Tryd.ntmps6
    go_wp2
    go_ret
    exact ⟨rfl, Below.refl _ _⟩
  have hd : decide ((100 : Int) < (xs.length : Int)) = false := by simp; omega
  have hn100 : xs.length ≤ 100 := by omega
  clear hA
  by_cases hB : 100 < ps.length
  · have hd2 : decide ((100 : Int) < (ps.length : Int)) = true := by simp; omega
    go_enter Tryd.func6, Tryd.ntmps6
    go_wp2
    go_ret
    exact ⟨rfl, Below.refl _ _⟩
  have hd2 : decide ((100 : Int) < (ps.length : Int)) = false := by simp; omega
  have hp100 : ps.length ≤ 100 := by omega
  have HX := Lib.hid hx
  have HP := Lib.hid hp
  clear hx hp hB
  by_cases hT : peoErr ni xs ps = 0
  case neg =>
    have hq3 : (peoErr ni xs ps == 0) = false := by simpa using hT
    have H1 := Lib.hid (fun a c w h1 h2 => people_any a a2 _ _ c cap2 ni xs ps w rfl rfl hn100 hp100 h1 h2)
    have H2 := Lib.hid (fun w h1 h2 => sum_bad a a2 _ _ cap cap2 ni ri xs ps w rfl rfl hn100 hp100 hT h1 h2)
    have H3 := Lib.hid (fun w h1 h2 => branches_bad a a2 _ _ cap cap2 ni ri xs ps w rfl rfl hn100 hp100 hT h1 h2)
    have HT := Lib.hid hT
    generalize peoErr ni xs ps = er at *
    clear hT
    go_enter Tryd.func6, Tryd.ntmps6
    go_wp2_with fail
    refine (edges_any _ _ _ xs _ (by omega) rfl HX.out).mono ?_
    rintro e w1 ⟨a1, c1, rfl, he1, hb1⟩
    have H1' := Lib.hid (H1.out a1 c1 _ he1 (HP.out.at hb1))
    go_wp2_with fail
    refine H1'.out.mono ?_
    rintro e w2 ⟨rfl, hb2⟩
    have h02 := below_next hb1 hb2
    clear H1' H1
    have H2' := Lib.hid (H2.out _ (HX.out.at h02) (HP.out.at h02))
    go_wp2_with fail
    refine H2'.out.mono ?_
    rintro e w4 ⟨rfl, hb4⟩
    have h04 := below_next h02 hb4
    have H3' := Lib.hid (H3.out _ (HX.out.at h04) (HP.out.at h04))
    clear H2' H2 H3 hb4
    go_wp2_with fail
    refine H3'.out.mono ?_
    rintro e w5 ⟨rfl, hb5⟩
    have h05 := below_next h04 hb5
    clear H3' hb5
    go_wp2_with fail
    refine (whole_any er 0 0 _ (hg.at h05) (fun _ => rfl) (fun _ => rfl)).mono ?_
    rintro e w6 ⟨rfl, hb6⟩
    have h06 := below_next h05 hb6
    have hg6 := hg.at h06
    go_wp2_with fail
    refine (ints_any er _ _ _ _ _ _ [] [] _ hg6 rfl rfl (by simp) (by simp) (Or.inl rfl) (Or.inl rfl) (fun h => absurd h HT.out) (fun _ => rfl)).mono ?_
    rintro e w7 ⟨rfl, hb7⟩
    go_wp2
    go_ret
    exact ⟨rfl, below_next h06 hb7⟩
  have H1 := Lib.hid (fun a c w h1 h2 => people_any a a2 _ _ c cap2 ni xs ps w rfl rfl hn100 hp100 h1 h2)
  rw [hT] at H1
  by_cases hr : ri < 0 ∨ ni ≤ ri
  · have H2 := Lib.hid (fun w h1 h2 => sum_range a a2 _ _ cap cap2 ni ri xs ps w rfl rfl hn100 hp100 hT hr h1 h2)
    have H3 := Lib.hid (fun w h1 h2 => branches_range a a2 _ _ cap cap2 ni ri xs ps w rfl rfl hn100 hp100 hT hr h1 h2)
    clear hT
    go_enter Tryd.func6, Tryd.ntmps6
    go_wp2_with fail
    refine (edges_any _ _ _ xs _ (by omega) rfl HX.out).mono ?_
    rintro e w1 ⟨a1, c1, rfl, he1, hb1⟩
    have H1' := Lib.hid (H1.out a1 c1 _ he1 (HP.out.at hb1))
    go_wp2_with fail
    refine H1'.out.mono ?_
    rintro e w2 ⟨rfl, hb2⟩
    have h02 := below_next hb1 hb2
    clear H1' H1
    have H2' := Lib.hid (H2.out _ (HX.out.at h02) (HP.out.at h02))
    go_wp2_with fail
    all_goals try (exfalso; omega)
    all_goals
      refine H2'.out.mono ?_
      rintro e w4 ⟨rfl, hb4⟩
      have h04 := below_next h02 hb4
      have H3' := Lib.hid (H3.out _ (HX.out.at h04) (HP.out.at h04))
      clear H2' hb4
      go_wp2_with fail
      refine H3'.out.mono ?_
      rintro e w5 ⟨rfl, hb5⟩
      have h05 := below_next h04 hb5
      clear H3' hb5
      go_wp2_with fail
      refine (whole_any 2 0 0 _ (hg.at h05) (fun _ => rfl) (fun _ => rfl)).mono ?_
      rintro e w6 ⟨rfl, hb6⟩
      have h06 := below_next h05 hb6
      have hg6 := hg.at h06
      go_wp2_with fail
      refine (ints_any 2 _ _ _ _ _ _ [] [] _ hg6 rfl rfl (by simp) (by simp) (Or.inl rfl) (Or.inl rfl) (fun h => absurd h (by decide)) (fun _ => rfl)).mono ?_
      rintro e w7 ⟨rfl, hb7⟩
      go_wp2
      go_ret
      exact ⟨rfl, below_next h06 hb7⟩
  · obtain ⟨m, rfl, hTO⟩ := treeOk (peo_ok hT).1
    obtain ⟨r, rfl⟩ := Int.eq_ofNat_of_zero_le (show 0 ≤ ri by omega)
    have hrm : r < m := by omega
    have hr1 : ¬ ((r : Int) < 0) := by omega
    have hr2 : ¬ ((m : Int) ≤ (r : Int)) := by omega
    have H2 := Lib.hid (fun w h1 h2 => sum_ok a a2 _ _ cap cap2 m r xs ps w rfl rfl hn100 hp100 hT hrm h1 h2)
    have H3 := Lib.hid (fun w h1 h2 => branches_ok a a2 _ _ cap cap2 m r xs ps w rfl rfl hn100 hp100 hcap hcm hT hrm h1 h2)
    have H4 := Lib.hid (fun a c w h1 h2 => refSum_any a a2 _ _ c cap2 m r xs ps w rfl rfl hn100 hT hrm h1 h2)
    have H5 := Lib.hid (fun a c w h1 h2 => refBranches_any a a2 _ _ c cap2 m r xs ps w rfl rfl hn100 hT hrm h1 h2)
    have hbl := brL_len xs (brV m xs ps r) r xs.length
    generalize brL xs (brV m xs ps r) r xs.length = BL at *
    generalize sumW (rowD m xs r) ps m = sv at *
    have hbl2 : BL.length ≤ 1000 := by omega
    clear hT hr hTO hbl hcm
    go_enter Tryd.func6, Tryd.ntmps6
    go_wp2_with fail
    refine (edges_any _ _ _ xs _ (by omega) rfl HX.out).mono ?_
    rintro e w1 ⟨a1, c1, rfl, he1, hb1⟩
    have H1' := Lib.hid (H1.out a1 c1 _ he1 (HP.out.at hb1))
    go_wp2_with fail
    refine H1'.out.mono ?_
    rintro e w2 ⟨rfl, hb2⟩
    have h02 := below_next hb1 hb2
    clear H1' H1
    have HE1 := Lib.hid (he1.at hb2)
    have HP2 := Lib.hid (HP.out.at h02)
    have H4' := Lib.hid (H4.out a1 c1 _ HE1.out HP2.out)
    go_wp2_with fail
    refine H4'.out.mono ?_
    rintro e w4 ⟨rfl, _, hb4⟩
    have H5' := Lib.hid (H5.out a1 c1 _ (HE1.out.at hb4) (HP2.out.at hb4))
    have h04 := below_next h02 hb4
    clear H4' H4 hb4
    go_wp2_with fail
    refine H5'.out.mono ?_
    intro e w5 hw5
    unfold BrPost at hw5
    obtain ⟨a5, c5, rfl, he5, hb5⟩ := hw5
    have h05 := below_next h04 hb5
    have HE5 := Lib.hid he5
    have H2' := Lib.hid (H2.out _ (HX.out.at h05) (HP.out.at h05))
    clear H5' H5 hb5 he5
    go_wp2_with fail
    refine H2'.out.mono ?_
    rintro e w6 ⟨rfl, _, hb6⟩
    have h06 := below_next h05 hb6
    have HE6 := Lib.hid (HE5.out.at hb6)
    have H3' := Lib.hid (H3.out _ (HX.out.at h06) (HP.out.at h06))
    clear H2' H2 H3 hb6
    go_wp2_with fail
    refine H3'.out.mono ?_
    intro e w7 hw7
    unfold BrPost2 at hw7
    obtain ⟨a7, c7, rfl, he7, hb7⟩ := hw7
    have h07 := below_next h06 hb7
    have HE7 := Lib.hid he7
    have HE8 := Lib.hid (HE6.out.at hb7)
    clear H3' hb7 he7
    go_wp2_with fail
    refine (whole_any 0 sv sv _ (hg.at h07) (fun _ => rfl) (fun h => absurd rfl h)).mono ?_
    rintro e w8 ⟨rfl, hb8⟩
    have h08 := below_next h07 hb8
    have hg8 := hg.at h08
    have HE9 := Lib.hid (HE7.out.at hb8)
    have HE10 := Lib.hid (HE8.out.at hb8)
    clear hb8
    go_wp2_with fail
    refine (ints_any 0 _ _ _ _ _ _ BL BL _ hg8 rfl rfl hbl2 hbl2 HE9.out HE10.out (fun _ => rfl) (fun h => absurd rfl h)).mono ?_
    rintro e w9 ⟨rfl, hb9⟩
    go_wp2
    go_ret
    exact ⟨rfl, below_next h08 hb9⟩
end Go.Proofs.YtogbmpnbbkcocaaDoor
