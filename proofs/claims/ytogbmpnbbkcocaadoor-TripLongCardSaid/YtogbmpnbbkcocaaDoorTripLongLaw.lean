/- The law TripLong: the length of any round way is the reference's, or both tell the same error. -/
import Derived.Test.YtogbmpnbbkcocaaDoorTripLong
namespace Go.Proofs.YtogbmpnbbkcocaaDoor
open Go.RowKit

set_option maxRecDepth 100000 in
set_option maxHeartbeats 8000000 in
theorem tripLong_law (a a2 : Option Addr) (n n2 cap cap2 : Nat) (A : List (List Int)) (way : List Int) (w : World) (hg : Hnd w) (hl : n = A.length) (hl2 : n2 = way.length) (hn : n ≤ maxLen) (hn2 : n2 ≤ maxLen) (hr : Rows2 w a A) (hx : Elems encI 1 w a2 way) :
    Calls Tryd.prog 7 #[.slice a n cap, .slice a2 n2 cap2] w fun e w' => e = .returned (.bool true) ∧ Below w.heap.size w w' := by
  subst hl; subst hl2
  have hn' := hn
  unfold maxLen at hn' hn2
  have HRR := Lib.hid hr
  have HX := Lib.hid hx
  clear hr hx
  by_cases hA : 150 < way.length
  · have hd : decide ((150 : Int) < (way.length : Int)) = true := by simp; omega
    go_enter Tryd.func7, Tryd.ntmps7
    go_wp2_with fail
    refine (big_any a _ cap A _ rfl hn HRR.out).mono ?_
    intro e w0 hw0
    unfold BigPost at hw0
    obtain ⟨bg, rfl, rfl⟩ := hw0
    cases bg with
    | true =>
      go_wp2
      go_ret
      exact ⟨rfl, Below.refl _ _⟩
    | false =>
      go_wp2
      go_ret
      exact ⟨rfl, Below.refl _ _⟩
  have hd : decide ((150 : Int) < (way.length : Int)) = false := by simp; omega
  have hw150 : way.length ≤ 150 := by omega
  clear hA
  by_cases hM : mapCheck A = 0
  case neg =>
    have hq3 : (mapCheck A == 0) = false := by simpa using hM
    have hq4 : (mapCheck A != mapCheck A) = false := by simp
    have H1 := Lib.hid (fun w h => refMap_any a _ cap A w rfl hn h)
    have H2 := Lib.hid (fun w h => tripChk_any a _ cap A w rfl hn h)
    have H3 := Lib.hid (fun w h => long_bad a a2 _ way.length cap cap2 A w rfl hn hM h)
    have HM := Lib.hid hM
    generalize mapCheck A = er at *
    clear hM
    go_enter Tryd.func7, Tryd.ntmps7
    go_wp2_with fail
    refine (big_any a _ cap A _ rfl hn HRR.out).mono ?_
    intro e w0 hw0
    unfold BigPost at hw0
    obtain ⟨bg, rfl, rfl⟩ := hw0
    cases bg with
    | true =>
      go_wp2
      go_ret
      exact ⟨rfl, Below.refl _ _⟩
    | false =>
    go_wp2_with fail
    refine (H1.out _ HRR.out).mono ?_
    rintro e w1 ⟨rfl, hb1⟩
    go_wp2_with fail
    refine (H2.out _ (HRR.out.at hb1)).mono ?_
    rintro e w2 ⟨rfl, hb2⟩
    have h02 := below_next hb1 hb2
    go_wp2_with fail
    refine (tell_any _ _ (hg.at h02)).mono ?_
    rintro e w3 ⟨rfl, hb3⟩
    have h03 := below_next h02 hb3
    clear H1 H2 hb1 hb2 hb3
    go_wp2
    go_loop [5, 6] (fun ev iv => ev = .int .i64 er ∧ iv = .int .i64 0) (fun _ _ => 0)
    case atStart => exact ⟨rfl, rfl⟩
    case round =>
    obtain ⟨rfl, rfl⟩ := hrel
    have hmain : (0 < way.length ∨ ¬ 0 < way.length) := by omega
    have HL := Lib.hid (H3.out _ (HRR.out.at h03))
    rcases hmain with hpos | hpos
    all_goals
      go_wp2_with fail
      refine HL.out.mono ?_
      rintro e w5 ⟨rfl, hb5⟩
      have h05 := below_next h03 hb5
      have hg5 := hg.at h05
      clear HL
      go_wp2_with fail
      refine (whole_any er 0 0 _ hg5 (fun _ => rfl) (fun _ => rfl)).mono ?_
      rintro e w6 ⟨rfl, hb6⟩
      go_wp2
      go_ret
      exact ⟨rfl, below_next h05 hb6⟩
  have H1 := Lib.hid (fun w h => refMap_any a _ cap A w rfl hn h)
  have H2 := Lib.hid (fun w h => tripChk_any a _ cap A w rfl hn h)
  rw [hM] at H1 H2
  rw [show errV 0 = .nilIface from rfl] at H2
  by_cases hL : 100 < way.length
  · have hd2 : decide ((100 : Int) < (way.length : Int)) = true := by simp; omega
    have H3 := Lib.hid (fun w h => long_limit a a2 _ _ cap cap2 A way w rfl rfl hM hL h)
    clear hM
    go_enter Tryd.func7, Tryd.ntmps7
    go_wp2_with fail
    refine (big_any a _ cap A _ rfl hn HRR.out).mono ?_
    intro e w0 hw0
    unfold BigPost at hw0
    obtain ⟨bg, rfl, rfl⟩ := hw0
    cases bg with
    | true =>
      go_wp2
      go_ret
      exact ⟨rfl, Below.refl _ _⟩
    | false =>
    go_wp2_with fail
    refine (H1.out _ HRR.out).mono ?_
    rintro e w1 ⟨rfl, hb1⟩
    go_wp2_with fail
    refine (H2.out _ (HRR.out.at hb1)).mono ?_
    rintro e w2 ⟨rfl, hb2⟩
    have h02 := below_next hb1 hb2
    go_wp2_with fail
    refine (tell_nil _).mono ?_
    rintro e w3 ⟨rfl, hb3⟩
    have h03 := below_next h02 hb3
    clear H1 H2 hb1 hb2 hb3
    go_wp2
    go_loop [5, 6] (fun ev iv => ev = .int .i64 4 ∧ iv = .int .i64 0) (fun _ _ => 0)
    case atStart => exact ⟨rfl, rfl⟩
    case round =>
    obtain ⟨rfl, rfl⟩ := hrel
    have hmain : (0 < way.length ∨ ¬ 0 < way.length) := by omega
    have HL := Lib.hid (H3.out _ (HRR.out.at h03))
    rcases hmain with hpos | hpos
    all_goals
      go_wp2_with fail
      refine HL.out.mono ?_
      rintro e w5 ⟨rfl, hb5⟩
      have h05 := below_next h03 hb5
      have hg5 := hg.at h05
      clear HL
      go_wp2_with fail
      refine (whole_any 4 0 0 _ hg5 (fun _ => rfl) (fun _ => rfl)).mono ?_
      rintro e w6 ⟨rfl, hb6⟩
      go_wp2
      go_ret
      exact ⟨rfl, below_next h05 hb6⟩
  have hd2 : decide ((100 : Int) < (way.length : Int)) = false := by simp; omega
  have hw100 : way.length ≤ 100 := by omega
  have hA9 := (map_ok hM).1
  clear hL
  by_cases hany : way.any (badAt A.length) = true
  · have H3 := Lib.hid (fun w h1 h2 => long_range a a2 _ _ cap cap2 A way w rfl rfl hM hw100 hany h1 h2)
    have HAN := Lib.hid hany
    clear hM hany
    go_enter Tryd.func7, Tryd.ntmps7
    go_wp2_with fail
    refine (big_any a _ cap A _ rfl hn HRR.out).mono ?_
    intro e w0 hw0
    unfold BigPost at hw0
    obtain ⟨bg, rfl, rfl⟩ := hw0
    cases bg with
    | true =>
      go_wp2
      go_ret
      exact ⟨rfl, Below.refl _ _⟩
    | false =>
    go_wp2_with fail
    refine (H1.out _ HRR.out).mono ?_
    rintro e w1 ⟨rfl, hb1⟩
    go_wp2_with fail
    refine (H2.out _ (HRR.out.at hb1)).mono ?_
    rintro e w2 ⟨rfl, hb2⟩
    have h02 := below_next hb1 hb2
    go_wp2_with fail
    refine (tell_nil _).mono ?_
    rintro e w3 ⟨rfl, hb3⟩
    have h03 := below_next h02 hb3
    clear H1 H2 hb1 hb2 hb3
    have HX3 := Lib.hid (HX.out.at h03)
    go_wp2
    go_loop [5, 6] (fun ev iv => ∃ k : Nat, k ≤ way.length ∧ iv = .int .i64 k ∧ ((ev = .int .i64 0 ∧ Hid (∀ j (h : j < way.length), j < k → badAt A.length way[j] = false)) ∨ (ev = .int .i64 2))) (fun _ iv => way.length - (intOf iv).toNat)
    case atStart => exact ⟨0, by omega, rfl, Or.inl ⟨rfl, Lib.hid (fun j _ hj => by omega)⟩⟩
    case round =>
    obtain ⟨k, hk, rfl, hev⟩ := hrel
    rcases hev with ⟨rfl, HV⟩ | rfl
    · by_cases hlt : k < way.length
      · obtain ⟨b, o, rfl, hc⟩ := HX3.out.some hlt
        have g1 := hc k hlt 0 _ rfl
        simp only [Nat.add_zero, Nat.mul_one] at g1
        by_cases hbad : badAt A.length way[k] = true
        · simp only [badAt, Bool.or_eq_true, decide_eq_true_eq] at hbad
          clear hc HV
          generalize way[k] = x at *
          go_wp2_with fail
          all_goals first
            | (exfalso; omega)
            | exact ⟨⟨k + 1, by omega, by go_num, Or.inr rfl⟩, by simp [intOf]; omega⟩
            | exact ⟨⟨k + 1, by omega, by go_num⟩, by simp [intOf]; omega⟩
        · have hgood : badAt A.length way[k] = false := by simpa using hbad
          have HV2 : Hid (∀ j (h : j < way.length), j < k + 1 → badAt A.length way[j] = false) := Lib.hid (fun j hj hjk => by
            by_cases h : j = k
            · subst h; exact hgood
            · exact HV.out j hj (by omega))
          obtain ⟨q1, q2⟩ := badAt_no hgood
          clear hc HV hgood hbad
          generalize way[k] = x at *
          go_wp2_with fail
          all_goals first
            | (exfalso; omega)
            | exact ⟨⟨k + 1, by omega, by go_num, Or.inl ⟨rfl, HV2⟩⟩, by simp [intOf]; omega⟩
            | exact ⟨⟨k + 1, by omega, by go_num, HV2⟩, by simp [intOf]; omega⟩
      · exfalso
        obtain ⟨x, hx, hb⟩ := List.any_eq_true.1 HAN.out
        obtain ⟨j, hj, rfl⟩ := List.mem_iff_getElem.1 hx
        have h := HV.out j hj (by omega)
        rw [h] at hb
        cases hb
    · have HL := Lib.hid (H3.out _ (HRR.out.at h03) HX3.out)
      have hmain : (k < way.length ∨ ¬ k < way.length) := by omega
      rcases hmain with hpos | hpos
      all_goals
        go_wp2_with fail
        refine HL.out.mono ?_
        rintro e w5 ⟨rfl, hb5⟩
        have h05 := below_next h03 hb5
        have hg5 := hg.at h05
        clear HL
        go_wp2_with fail
        refine (whole_any 2 0 0 _ hg5 (fun _ => rfl) (fun _ => rfl)).mono ?_
        rintro e w6 ⟨rfl, hb6⟩
        go_wp2
        go_ret
        exact ⟨rfl, below_next h05 hb6⟩
  · have hB := any_no hany
    have H3 := Lib.hid (fun w h1 h2 => long_ok a a2 _ _ cap cap2 A way w rfl rfl hM hw100 hB h1 h2)
    have H4 := Lib.hid (fun w h1 h2 => refLong_any a a2 _ _ cap cap2 A way w rfl rfl hM hw100 hB h1 h2)
    have HB := Lib.hid hB
    clear hM hany hB
    generalize longM A way = lv at *
    go_enter Tryd.func7, Tryd.ntmps7
    go_wp2_with fail
    refine (big_any a _ cap A _ rfl hn HRR.out).mono ?_
    intro e w0 hw0
    unfold BigPost at hw0
    obtain ⟨bg, rfl, rfl⟩ := hw0
    cases bg with
    | true =>
      go_wp2
      go_ret
      exact ⟨rfl, Below.refl _ _⟩
    | false =>
    go_wp2_with fail
    refine (H1.out _ HRR.out).mono ?_
    rintro e w1 ⟨rfl, hb1⟩
    go_wp2_with fail
    refine (H2.out _ (HRR.out.at hb1)).mono ?_
    rintro e w2 ⟨rfl, hb2⟩
    have h02 := below_next hb1 hb2
    go_wp2_with fail
    refine (tell_nil _).mono ?_
    rintro e w3 ⟨rfl, hb3⟩
    have h03 := below_next h02 hb3
    clear H1 H2 hb1 hb2 hb3
    have HX3 := Lib.hid (HX.out.at h03)
    go_wp2
    go_loop [5, 6] (fun ev iv => ∃ k : Nat, k ≤ way.length ∧ iv = .int .i64 k ∧ ev = .int .i64 0) (fun _ iv => way.length - (intOf iv).toNat)
    case atStart => exact ⟨0, by omega, rfl, rfl⟩
    case round =>
    obtain ⟨k, hk, rfl, rfl⟩ := hrel
    by_cases hlt : k < way.length
    · obtain ⟨b, o, rfl, hc⟩ := HX3.out.some hlt
      have g1 := hc k hlt 0 _ rfl
      simp only [Nat.add_zero, Nat.mul_one] at g1
      obtain ⟨q1, q2⟩ := HB.out _ (List.getElem_mem hlt)
      clear hc
      generalize way[k] = x at *
      go_wp2_with fail
      all_goals first
        | (exfalso; omega)
        | exact ⟨⟨k + 1, by omega, by go_num, rfl⟩, by simp [intOf]; omega⟩
        | exact ⟨⟨k + 1, by omega, by go_num⟩, by simp [intOf]; omega⟩
    · obtain rfl : k = way.length := by omega
      have HL4 := Lib.hid (H4.out _ (HRR.out.at h03) HX3.out)
      go_wp2_with fail
      refine HL4.out.mono ?_
      rintro e w4 ⟨rfl, hb4⟩
      have h04 := below_next h03 hb4
      have HL := Lib.hid (H3.out _ (HRR.out.at h04) (HX.out.at h04))
      clear HL4 H4 H3
      go_wp2_with fail
      refine HL.out.mono ?_
      rintro e w5 ⟨rfl, hb5⟩
      have h05 := below_next h04 hb5
      have hg5 := hg.at h05
      clear HL
      go_wp2_with fail
      refine (whole_any 0 lv lv _ hg5 (fun _ => rfl) (fun h => absurd rfl h)).mono ?_
      rintro e w6 ⟨rfl, hb6⟩
      go_wp2
      go_ret
      exact ⟨rfl, below_next h05 hb6⟩
end Go.Proofs.YtogbmpnbbkcocaaDoor
