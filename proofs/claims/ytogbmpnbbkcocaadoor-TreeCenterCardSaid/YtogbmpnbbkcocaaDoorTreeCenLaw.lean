/- The law TreeCenter: the center and the two farthest places are the reference's, or all tell the same error. -/
import Derived.Test.YtogbmpnbbkcocaaDoorTreeCen
namespace Go.Proofs.YtogbmpnbbkcocaaDoor
open Go.RowKit

set_option maxRecDepth 100000 in
set_option maxHeartbeats 8000000 in
theorem treeCenter_law (a : Option Addr) (n cap : Nat) (ni : Int) (xs : List R3) (w : World) (hg : Hnd w) (hl : n = xs.length) (hn : n ≤ maxLen) (hx : Elems enc3 3 w a xs) :
    Calls Tryd.prog 4 #[.int .i64 ni, .slice a n cap] w fun e w' => e = .returned (.bool true) ∧ Below w.heap.size w w' := by
  subst hl
  unfold maxLen at hn
  by_cases hA : 100 < xs.length
  · have hd : decide ((100 : Int) < (xs.length : Int)) = true := by simp; omega
    go_enter Tryd.func4, Tryd.ntmps4
    go_wp2
    go_ret
    exact ⟨rfl, Below.refl _ _⟩
  have hd : decide ((100 : Int) < (xs.length : Int)) = false := by simp; omega
  have hn100 : xs.length ≤ 100 := by omega
  have HX := Lib.hid hx
  clear hx hA
  by_cases hT : treeErr ni xs = 0
  case neg =>
    have hq3 : (treeErr ni xs == 0) = false := by simpa using hT
    have H1 := Lib.hid (fun a c w h => trefChk_any a _ c ni xs w rfl hn100 h)
    have H2 := Lib.hid (fun w h => center_bad a _ cap ni xs w rfl hn100 hT h)
    have H3 := Lib.hid (fun w h => across_bad a _ cap ni xs w rfl hn100 hT h)
    have HT := Lib.hid hT
    generalize treeErr ni xs = er at *
    clear hT
    go_enter Tryd.func4, Tryd.ntmps4
    go_wp2_with fail
    refine (edges_any _ _ _ xs _ (by omega) rfl HX.out).mono ?_
    rintro e w1 ⟨a1, c1, rfl, he1, hb1⟩
    have H1' := H1.out a1 c1 _ he1
    go_wp2_with fail
    refine H1'.mono ?_
    rintro e w2 ⟨rfl, hb2⟩
    have h02 := below_next hb1 hb2
    clear H1' he1 hb1 hb2
    go_wp2
    go_loop [7, 8, 9, 10, 11, 12] (fun v7 v8 v9 v10 v11 v12 => v7 = .int .i64 0 ∧ v8 = .int .i64 0 ∧ v9 = .int .i64 0 ∧ v10 = .int .i64 0 ∧ v11 = .int .i64 0 ∧ v12 = .int .i64 0) (fun _ _ _ _ _ _ => 0)
    case atStart => exact ⟨rfl, rfl, rfl, rfl, rfl, rfl⟩
    case round =>
      obtain ⟨rfl, rfl, rfl, rfl, rfl, rfl⟩ := hrel
      have H2' := Lib.hid (H2.out _ (HX.out.at h02))
      have hmain : (0 < ni ∨ ¬ 0 < ni) := by omega
      rcases hmain with hpos | hpos
      all_goals
        go_wp2_with fail
        refine H2'.out.mono ?_
        rintro e w4 ⟨rfl, hb4⟩
        have h04 := below_next h02 hb4
        have H3' := Lib.hid (H3.out _ (HX.out.at h04))
        go_wp2_with fail
        refine H3'.out.mono ?_
        rintro e w5 ⟨rfl, hb5⟩
        have h20 := below_next h04 hb5
        clear H2' H3' hb4 hb5
        go_wp2_with fail
        refine (whole_any er 0 0 _ (hg.at h20) (fun _ => rfl) (fun _ => rfl)).mono ?_
        rintro e w20 ⟨rfl, hb20⟩
        have h21 := below_next h20 hb20
        go_wp2_with fail
        refine (whole_any er 0 0 _ (hg.at h21) (fun _ => rfl) (fun _ => rfl)).mono ?_
        rintro e w21 ⟨rfl, hb21⟩
        have h22 := below_next h21 hb21
        go_wp2_with fail
        refine (whole_any er 0 0 _ (hg.at h22) (fun _ => rfl) (fun _ => rfl)).mono ?_
        rintro e w22 ⟨rfl, hb22⟩
        have h23 := below_next h22 hb22
        go_wp2_with fail
        refine (whole_any er 0 0 _ (hg.at h23) (fun _ => rfl) (fun _ => rfl)).mono ?_
        rintro e w23 ⟨rfl, hb23⟩
        have h24 := below_next h23 hb23
        go_wp2_with fail
        refine (whole_any er 0 0 _ (hg.at h24) (fun _ => rfl) (fun _ => rfl)).mono ?_
        rintro e w24 ⟨rfl, hb24⟩
        have h25 := below_next h24 hb24
        go_wp2
        go_ret
        exact ⟨rfl, h25⟩
  obtain ⟨m, rfl, hTO⟩ := treeOk hT
  have HTO := Lib.hid hTO
  have hlow := hTO.low
  have hpos := hTO.pos
  have H1 := Lib.hid (fun a c w h => trefChk_any a _ c m xs w rfl hn100 h)
  have H2 := Lib.hid (fun w h => center_any a _ cap m xs w rfl hn100 hT h)
  have H3 := Lib.hid (fun w h => across_any a _ cap m xs w rfl hn100 hT h)
  rw [hT] at H1
  clear hTO hT
  go_enter Tryd.func4, Tryd.ntmps4
  go_wp2_with fail
  refine (edges_any _ _ _ xs _ (by omega) rfl HX.out).mono ?_
  rintro e w1 ⟨a1, c1, rfl, he1, hb1⟩
  have H1' := H1.out a1 c1 _ he1
  go_wp2_with fail
  refine H1'.mono ?_
  rintro e w2 ⟨rfl, hb2⟩
  have h02 := below_next hb1 hb2
  have HE1 := Lib.hid (he1.at hb2)
  clear H1' he1 hb1
  go_wp2
  go_loopw [7, 8, 9, 10, 11, 12] (fun v7 v8 v9 v10 v11 v12 wr => ∃ k : Nat, k ≤ m ∧ v12 = .int .i64 k ∧ v7 = .int .i64 (cenR m xs k).1 ∧ v8 = .int .i64 (cenR m xs k).2 ∧ v9 = .int .i64 (farM m xs k).1 ∧ v10 = .int .i64 (farM m xs k).2.1 ∧ v11 = .int .i64 (farM m xs k).2.2 ∧ Below w2.heap.size w2 wr) (fun _ _ _ _ _ v12 _ => m - (intOf v12).toNat)
  case atStart => exact ⟨0, by omega, rfl, rfl, rfl, rfl, rfl, rfl, Below.refl _ _⟩
  case round =>
    obtain ⟨k, hk, rfl, rfl, rfl, rfl, rfl, rfl, hb⟩ := hrel
    by_cases hlt : k < m
    · have HST := Lib.hid (show cenR m xs (k + 1) = if k = 0 ∨ mxL (rowD m xs k) m < (cenR m xs k).2 then ((k : Int), mxL (rowD m xs k) m) else cenR m xs k from rfl)
      have HS0 := Lib.hid (show farM m xs (k + 1) = farR (rowD m xs k) k (farM m xs k) m from rfl)
      have HF := Lib.hid (refFarT_any a1 _ c1 m k xs _ rfl hn100 HTO.out hlt (HE1.out.at hb))
      obtain ⟨wo, hwo⟩ : ∃ wo : World, wo = wr := ⟨_, rfl⟩
      subst hwo
      generalize hca : (cenR m xs k).1 = ca at *
      generalize hcb : (cenR m xs k).2 = cb at *
      have HCA := Lib.hid (show (cenR m xs k).1 = ca ∧ (cenR m xs k).2 = cb from ⟨hca, hcb⟩)
      clear hca hcb
      obtain ⟨s, hs⟩ : ∃ s, s = farM m xs k := ⟨_, rfl⟩
      rw [← hs] at HS0 ⊢
      clear hs
      obtain ⟨s1, s2, s3⟩ := s
      go_wp2_with fail
      refine HF.out.mono ?_
      rintro e w3 ⟨a3, c3, rfl, he3, hlow3, hb3⟩
      have hb4 := below_next hb hb3
      have hrl := rowD_len m xs k
      generalize rowD m xs k = ys at *
      have HE3 := Lib.hid he3
      have HRL := Lib.hid hrl
      clear HF he3 hlow3 hb3 hb hrl
      go_wp2
      go_loopw [9, 10, 11, 13, 15] (fun v9 v10 v11 v13 v15 wi => ∃ j : Nat, j ≤ m ∧ v15 = .int .i64 j ∧ v13 = .int .i64 (mxL ys j) ∧ v9 = .int .i64 (farR ys k (s1, s2, s3) j).1 ∧ v10 = .int .i64 (farR ys k (s1, s2, s3) j).2.1 ∧ v11 = .int .i64 (farR ys k (s1, s2, s3) j).2.2 ∧ ∃ q, wi = w3.drewN q) (fun _ _ _ _ v15 _ => m - (intOf v15).toNat)
      case atStart => exact ⟨0, by omega, rfl, rfl, rfl, rfl, rfl, 0, rfl⟩
      case round =>
        obtain ⟨j, hj, rfl, rfl, rfl, rfl, rfl, q, rfl⟩ := hrel
        by_cases hjm : j < m
        · have hjl : j < ys.length := by rw [HRL.out]; exact hjm
          obtain ⟨b2, o2, rfl, hc⟩ := HE3.out.some hjl
          have g1 := hc j hjl 0 _ rfl
          simp only [Nat.add_zero, Nat.mul_one] at g1
          have HST2 := Lib.hid (show farR ys k (s1, s2, s3) (j + 1) = if (farR ys k (s1, s2, s3) j).2.2 < ys[j] then ((k : Int), (j : Int), ys[j]) else farR ys k (s1, s2, s3) j by rw [← getD_nat hjl]; rfl)
          have HMX := Lib.hid (show mxL ys (j + 1) = max (mxL ys j) ys[j] by rw [← getD_nat hjl]; rfl)
          clear hc
          generalize hfa : (farR ys k (s1, s2, s3) j).1 = fa at *
          generalize hfb : (farR ys k (s1, s2, s3) j).2.1 = fb at *
          generalize hfc : (farR ys k (s1, s2, s3) j).2.2 = fc at *
          have HFA := Lib.hid (show (farR ys k (s1, s2, s3) j).1 = fa ∧ (farR ys k (s1, s2, s3) j).2.1 = fb ∧ (farR ys k (s1, s2, s3) j).2.2 = fc from ⟨hfa, hfb, hfc⟩)
          clear hfa hfb hfc
          generalize ys[j] = yj at *
          generalize mxL ys j = mj at *
          obtain ⟨mn, hmn⟩ : ∃ v, v = max mj yj := ⟨_, rfl⟩
          have hcase : (mj < yj ∧ mn = yj) ∨ (yj ≤ mj ∧ mn = mj) := by omega
          have HM2 := Lib.hid (HMX.out.trans hmn.symm)
          clear hmn HMX
          by_cases hlt2 : fc < yj
          · have HK := Lib.hid (HST2.out.trans (if_pos hlt2))
            clear HST2
            rcases hcase with ⟨hq1, rfl⟩ | ⟨hq1, rfl⟩
            all_goals
              go_wp2_with fail
              all_goals try (exfalso; omega)
              all_goals
                go_quiet (fail)
                go_wp2
                exact ⟨⟨j + 1, by omega, by go_num, by rw [HM2.out], by rw [HK.out], by rw [HK.out], by rw [HK.out], _, rfl⟩, by simp [intOf]; omega⟩
          · have HK := Lib.hid (HST2.out.trans (if_neg hlt2))
            clear HST2
            rcases hcase with ⟨hq1, rfl⟩ | ⟨hq1, rfl⟩
            all_goals
              go_wp2_with fail
              all_goals try (exfalso; omega)
              all_goals
                exact ⟨⟨j + 1, by omega, by go_num, by rw [HM2.out], by rw [HK.out, HFA.out.1], by rw [HK.out, HFA.out.2.1], by rw [HK.out, HFA.out.2.2], _, rfl⟩, by simp [intOf]; omega⟩
        · obtain rfl : j = m := by omega
          obtain ⟨t, ht⟩ : ∃ t, t = farR ys k (s1, s2, s3) j := ⟨_, rfl⟩
          rw [← ht] at HS0 ⊢
          clear ht
          obtain ⟨t1, t2, t3⟩ := t
          generalize mxL ys j = mk at *
          have hb5 := below_drewN' hb4 q
          clear hb4
          by_cases hk0 : k = 0
          · have HK := Lib.hid (HST.out.trans (if_pos (Or.inl hk0)))
            have hkd : ((k : Int) == 0) = true := by simp; omega
            clear HST hk0
            go_wp2
            exact ⟨⟨k + 1, by omega, by go_num, by rw [HK.out], by rw [HK.out], by rw [HS0.out], by rw [HS0.out], by rw [HS0.out], hb5⟩, by simp [intOf]; omega⟩
          · have hkd : ((k : Int) == 0) = false := by simp; omega
            by_cases hc2 : mk < cb
            · have HK := Lib.hid (HST.out.trans (if_pos (Or.inr hc2)))
              clear HST hk0
              go_wp2
              exact ⟨⟨k + 1, by omega, by go_num, by rw [HK.out], by rw [HK.out], by rw [HS0.out], by rw [HS0.out], by rw [HS0.out], hb5⟩, by simp [intOf]; omega⟩
            · have HK := Lib.hid (HST.out.trans (if_neg (fun h => h.elim hk0 hc2)))
              clear HST hk0
              go_wp2
              exact ⟨⟨k + 1, by omega, by go_num, by rw [HK.out, HCA.out.1], by rw [HK.out, HCA.out.2], by rw [HS0.out], by rw [HS0.out], by rw [HS0.out], hb5⟩, by simp [intOf]; omega⟩
    · obtain rfl : k = m := by omega
      have h03 := below_next h02 hb
      have H2' := H2.out _ (HX.out.at h03)
      rw [(cen_same k xs k hpos).1] at H2'
      obtain ⟨s, hs⟩ : ∃ s, s = farM k xs k := ⟨_, rfl⟩
      obtain ⟨c, hc⟩ : ∃ c, c = cenR k xs k := ⟨_, rfl⟩
      rw [← hs] at H3 ⊢
      rw [← hc] at H2' ⊢
      obtain ⟨s1, s2, s3⟩ := s
      obtain ⟨c1', c2'⟩ := c
      have HC2 := Lib.hid H2'
      clear hs hc H2' H2 hb hb2 HE1
      go_wp2_with fail
      refine HC2.out.mono ?_
      rintro e w4 ⟨rfl, hb4⟩
      have h04 := below_next h03 hb4
      have HC3 := Lib.hid (H3.out _ (HX.out.at h04))
      clear HC2
      go_wp2_with fail
      refine HC3.out.mono ?_
      rintro e w5 ⟨rfl, hb5⟩
      have h20 := below_next h04 hb5
      clear HC3 H3 hb4 hb5
      go_wp2_with fail
      refine (whole_any 0 c1' c1' _ (hg.at h20) (fun _ => rfl) (fun h => absurd rfl h)).mono ?_
      rintro e w20 ⟨rfl, hb20⟩
      have h21 := below_next h20 hb20
      go_wp2_with fail
      refine (whole_any 0 c2' c2' _ (hg.at h21) (fun _ => rfl) (fun h => absurd rfl h)).mono ?_
      rintro e w21 ⟨rfl, hb21⟩
      have h22 := below_next h21 hb21
      go_wp2_with fail
      refine (whole_any 0 s1 s1 _ (hg.at h22) (fun _ => rfl) (fun h => absurd rfl h)).mono ?_
      rintro e w22 ⟨rfl, hb22⟩
      have h23 := below_next h22 hb22
      go_wp2_with fail
      refine (whole_any 0 s2 s2 _ (hg.at h23) (fun _ => rfl) (fun h => absurd rfl h)).mono ?_
      rintro e w23 ⟨rfl, hb23⟩
      have h24 := below_next h23 hb23
      go_wp2_with fail
      refine (whole_any 0 s3 s3 _ (hg.at h24) (fun _ => rfl) (fun h => absurd rfl h)).mono ?_
      rintro e w24 ⟨rfl, hb24⟩
      have h25 := below_next h24 hb24
      go_wp2
      go_ret
      exact ⟨rfl, h25⟩
end Go.Proofs.YtogbmpnbbkcocaaDoor
