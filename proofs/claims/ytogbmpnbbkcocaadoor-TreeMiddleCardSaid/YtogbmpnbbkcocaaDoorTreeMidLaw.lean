/- The law TreeMiddle: the place with the least sum is the reference's, ties too, or all tell the same error. -/
import Derived.Test.YtogbmpnbbkcocaaDoorTreeSum
namespace Go.Proofs.YtogbmpnbbkcocaaDoor
open Go.RowKit

set_option maxRecDepth 100000 in
set_option maxHeartbeats 8000000 in
theorem treeMiddle_law (a a2 : Option Addr) (n n2 cap cap2 : Nat) (ni : Int) (xs : List R3) (ps : List Int) (w : World) (hg : Hnd w) (hl : n = xs.length) (hl2 : n2 = ps.length) (hn : n ≤ maxLen) (hn2 : n2 ≤ maxLen) (hx : Elems enc3 3 w a xs) (hp : Elems encI 1 w a2 ps) :
    Calls Tryd.prog 5 #[.int .i64 ni, .slice a n cap, .slice a2 n2 cap2] w fun e w' => e = .returned (.bool true) ∧ Below w.heap.size w w' := by
  subst hl; subst hl2
  unfold maxLen at hn hn2
  by_cases hA : 100 < xs.length
  · have hd : decide ((100 : Int) < (xs.length : Int)) = true := by simp; omega
    go_enter Tryd.func5, Tryd.ntmps5
    go_wp2
    go_ret
    exact ⟨rfl, Below.refl _ _⟩
  have hd : decide ((100 : Int) < (xs.length : Int)) = false := by simp; omega
  have hn100 : xs.length ≤ 100 := by omega
  clear hA
  by_cases hB : 100 < ps.length
  · have hd2 : decide ((100 : Int) < (ps.length : Int)) = true := by simp; omega
    go_enter Tryd.func5, Tryd.ntmps5
    go_wp2
    go_ret
    exact ⟨rfl, Below.refl _ _⟩
  have hd2 : decide ((100 : Int) < (ps.length : Int)) = false := by simp; omega
  have hp100 : ps.length ≤ 100 := by omega
  have HX := Lib.hid hx
  have HP := Lib.hid hp
  clear hx hp hB
  by_cases hT : peoErr ni xs ps = 0
  case neg =>
    have hq3 : (peoErr ni xs ps == 0) = false := by simpa using hT
    have H1 := Lib.hid (fun a c w h1 h2 => people_any a a2 _ _ c cap2 ni xs ps w rfl rfl hn100 hp100 h1 h2)
    have H2 := Lib.hid (fun w h1 h2 => middle_bad a a2 _ _ cap cap2 ni xs ps w rfl rfl hn100 hp100 hT h1 h2)
    have HT := Lib.hid hT
    generalize peoErr ni xs ps = er at *
    clear hT
    go_enter Tryd.func5, Tryd.ntmps5
    go_wp2_with fail
    refine (edges_any _ _ _ xs _ (by omega) rfl HX.out).mono ?_
    rintro e w1 ⟨a1, c1, rfl, he1, hb1⟩
    have H1' := Lib.hid (H1.out a1 c1 _ he1 (HP.out.at hb1))
    go_wp2_with fail
    refine H1'.out.mono ?_
    rintro e w2 ⟨rfl, hb2⟩
    have h02 := below_next hb1 hb2
    clear H1' he1 hb1 hb2
    go_wp2
    go_loop [9, 10, 11] (fun v9 v10 v11 => v9 = .int .i64 0 ∧ v10 = .int .i64 0 ∧ v11 = .int .i64 0) (fun _ _ _ => 0)
    case atStart => exact ⟨rfl, rfl, rfl⟩
    case round =>
      obtain ⟨rfl, rfl, rfl⟩ := hrel
      have H2' := Lib.hid (H2.out _ (HX.out.at h02) (HP.out.at h02))
      have hmain : (0 < ni ∨ ¬ 0 < ni) := by omega
      rcases hmain with hpos | hpos
      all_goals
        go_wp2_with fail
        refine H2'.out.mono ?_
        rintro e w4 ⟨rfl, hb4⟩
        have h20 := below_next h02 hb4
        clear H2' hb4
        go_wp2_with fail
        refine (whole_any er 0 0 _ (hg.at h20) (fun _ => rfl) (fun _ => rfl)).mono ?_
        rintro e w20 ⟨rfl, hb20⟩
        have h21 := below_next h20 hb20
        go_wp2_with fail
        refine (whole_any er 0 0 _ (hg.at h21) (fun _ => rfl) (fun _ => rfl)).mono ?_
        rintro e w21 ⟨rfl, hb21⟩
        have h22 := below_next h21 hb21
        go_wp2
        go_ret
        exact ⟨rfl, h22⟩
  obtain ⟨hT1, hT2, hT3⟩ := peo_ok hT
  obtain ⟨m, rfl, hTO⟩ := treeOk hT1
  have hlow := hTO.low
  have hpos := hTO.pos
  have H1 := Lib.hid (fun a c w h1 h2 => people_any a a2 _ _ c cap2 m xs ps w rfl rfl hn100 hp100 h1 h2)
  have H2 := Lib.hid (fun w h1 h2 => middle_ok a a2 _ _ cap cap2 m xs ps w rfl rfl hn100 hp100 hT h1 h2)
  have HS := Lib.hid (fun a c r hr w h1 h2 => refSum_any a a2 _ _ c cap2 m r xs ps w rfl rfl hn100 hT hr h1 h2)
  have HT3 := Lib.hid hT3
  rw [hT] at H1
  clear hTO hT hT1 hT2 hT3
  obtain ⟨v, hv⟩ : ∃ v : Nat → Int, v = fun i => sumW (rowD m xs i) ps m := ⟨_, rfl⟩
  have HV : Hid (∀ r, sumW (rowD m xs r) ps m = v r) := Lib.hid (fun r => by rw [hv])
  rw [← hv] at H2
  clear hv
  go_enter Tryd.func5, Tryd.ntmps5
  go_wp2_with fail
  refine (edges_any _ _ _ xs _ (by omega) rfl HX.out).mono ?_
  rintro e w1 ⟨a1, c1, rfl, he1, hb1⟩
  have H1' := Lib.hid (H1.out a1 c1 _ he1 (HP.out.at hb1))
  go_wp2_with fail
  refine H1'.out.mono ?_
  rintro e w2 ⟨rfl, hb2⟩
  have h02 := below_next hb1 hb2
  have HE1 := Lib.hid (he1.at hb2)
  have HP2 := Lib.hid (HP.out.at h02)
  clear H1' he1 hb1
  go_wp2
  go_loopw [9, 10, 11] (fun v9 v10 v11 wr => ∃ k : Nat, k ≤ m ∧ v11 = .int .i64 k ∧ v9 = .int .i64 (leaR v k).1 ∧ v10 = .int .i64 (leaR v k).2 ∧ Hid (∀ i, i < k → 0 ≤ v i) ∧ Below w2.heap.size w2 wr) (fun _ _ v11 _ => m - (intOf v11).toNat)
  case atStart => exact ⟨0, by omega, rfl, rfl, rfl, Lib.hid (fun i hi => by omega), Below.refl _ _⟩
  case round =>
    obtain ⟨k, hk, rfl, rfl, rfl, HP0, hb⟩ := hrel
    by_cases hlt : k < m
    · have HST := Lib.hid (show leaR v (k + 1) = if k = 0 ∨ v k < (leaR v k).2 then ((k : Int), v k) else leaR v k from rfl)
      have HF := Lib.hid (HS.out a1 c1 k hlt _ (HE1.out.at hb) (HP2.out.at hb))
      have HV2 := Lib.hid (HV.out k)
      rw [HV.out k] at HF
      obtain ⟨wo, hwo⟩ : ∃ wo : World, wo = wr := ⟨_, rfl⟩
      subst hwo
      generalize hca : (leaR v k).1 = ca at *
      generalize hcb : (leaR v k).2 = cb at *
      have HCA := Lib.hid (show (leaR v k).1 = ca ∧ (leaR v k).2 = cb from ⟨hca, hcb⟩)
      clear hca hcb
      obtain ⟨mk, hmk⟩ : ∃ mk, mk = v k := ⟨_, rfl⟩
      rw [← hmk] at HF HST HV2
      have HMK := Lib.hid hmk
      clear hmk
      go_wp2_with fail
      refine HF.out.mono ?_
      rintro e w3 ⟨rfl, hlo, hb3⟩
      have hb4 := below_next hb hb3
      have HP1 : Hid (∀ i, i < k + 1 → 0 ≤ v i) := Lib.hid (fun i hi => by
        by_cases h : i = k
        · subst h
          rw [← HV.out i]
          exact (sumW_bd hlo HT3.out m (by omega)).1
        · exact HP0.out i (by omega))
      clear HF hb3 hb hlo HP0
      by_cases hk0 : k = 0
      · have HK := Lib.hid (HST.out.trans (if_pos (Or.inl hk0)))
        have hkd : ((k : Int) == 0) = true := by simp; omega
        clear HST hk0
        go_wp2
        exact ⟨⟨k + 1, by omega, by go_num, by rw [HK.out], by rw [HK.out], HP1, hb4⟩, by simp [intOf]; omega⟩
      · have hkd : ((k : Int) == 0) = false := by simp; omega
        by_cases hc2 : mk < cb
        · have HK := Lib.hid (HST.out.trans (if_pos (Or.inr hc2)))
          clear HST hk0
          go_wp2
          exact ⟨⟨k + 1, by omega, by go_num, by rw [HK.out], by rw [HK.out], HP1, hb4⟩, by simp [intOf]; omega⟩
        · have HK := Lib.hid (HST.out.trans (if_neg (fun h => h.elim hk0 hc2)))
          clear HST hk0
          go_wp2
          exact ⟨⟨k + 1, by omega, by go_num, by rw [HK.out, HCA.out.1], by rw [HK.out, HCA.out.2], HP1, hb4⟩, by simp [intOf]; omega⟩
    · obtain rfl : k = m := by omega
      have h03 := below_next h02 hb
      have H2' := H2.out _ (HX.out.at h03) (HP.out.at h03)
      rw [(lea_same v k HP0.out k hpos (Nat.le_refl _)).1] at H2'
      obtain ⟨c, hc⟩ : ∃ c, c = leaR v k := ⟨_, rfl⟩
      rw [← hc] at H2' ⊢
      obtain ⟨c1', c2'⟩ := c
      have HC2 := Lib.hid H2'
      clear hc H2' H2 hb hb2 HE1 HP0
      go_wp2_with fail
      refine HC2.out.mono ?_
      rintro e w4 ⟨rfl, hb4⟩
      have h20 := below_next h03 hb4
      clear HC2 hb4
      go_wp2_with fail
      refine (whole_any 0 c1' c1' _ (hg.at h20) (fun _ => rfl) (fun h => absurd rfl h)).mono ?_
      rintro e w20 ⟨rfl, hb20⟩
      have h21 := below_next h20 hb20
      go_wp2_with fail
      refine (whole_any 0 c2' c2' _ (hg.at h21) (fun _ => rfl) (fun h => absurd rfl h)).mono ?_
      rintro e w21 ⟨rfl, hb21⟩
      have h22 := below_next h21 hb21
      go_wp2
      go_ret
      exact ⟨rfl, h22⟩
end Go.Proofs.YtogbmpnbbkcocaaDoor
