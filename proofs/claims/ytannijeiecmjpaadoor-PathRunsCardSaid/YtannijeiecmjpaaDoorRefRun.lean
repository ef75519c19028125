/- The reference's better and Run: from one time at which something happens to the next one. -/
import Derived.Test.YtannijeiecmjpaaDoorRunS
import Derived.Test.YtannijeiecmjpaaDoorTabN
import Derived.Deep.DeepCutAuto
import Derived.Deep.CutBlock
namespace Go.Proofs.YtannijeiecmjpaaDoor
open Go.RowKit

theorem goes_refB (rule : Int) (xs : List R3) (left : Nat → Int) (i k : Nat) (x y : Int) (h2 : rule ≠ 2)
    (hx : x = if rule = 3 then (xs.getD i (0, 0, 0)).2.1 else if rule = 4 ∨ rule = 5 then (xs.getD i (0, 0, 0)).2.2 else if rule = 6 then left i else 0)
    (hy : y = if rule = 3 then (xs.getD k (0, 0, 0)).2.1 else if rule = 4 ∨ rule = 5 then (xs.getD k (0, 0, 0)).2.2 else if rule = 6 then left k else 0) :
    decide (goesB rule xs left i k) = (decide (x < y) || (decide (x = y) && decide (i < k))) := by
  have h := goes_ref rule xs left i k
  rw [if_neg h2, ← hx, ← hy] at h
  by_cases g : goesB rule xs left i k
  · have := h.1 g
    rw [decide_eq_true g]
    by_cases h1 : x < y
    · simp [h1]
    · have h3 : x = y ∧ i < k := by omega
      simp [h3.1, h3.2]
  · have h1 : ¬ (x < y ∨ x = y ∧ i < k) := fun hh => g (h.2 hh)
    rw [decide_eq_false g]
    have h3 : ¬ x < y := by omega
    by_cases h4 : x = y
    · have h5 : ¬ i < k := by omega
      simp [h4, h5]
    · simp [h3, h4]

theorem val3 {x y : Int} {i k : Nat} {R : Bool} (h : R = (decide (x < y) || (decide (x = y) && decide (i < k)))) : (x < y → R = true) ∧ (y < x → R = false) ∧ (x = y → R = decide (i < k)) := by
  refine ⟨fun g => ?_, fun g => ?_, fun g => ?_⟩
  · rw [h]; simp [g]
  · have h2 : ¬ x < y := by omega
    have h3 : ¬ x = y := by omega
    rw [h]; simp [h2, h3]
  · subst g; rw [h]; simp
set_option maxRecDepth 100000 in
set_option maxHeartbeats 4000000 in
theorem better_any (rule : Int) (a ae : Option Addr) (n cap ce i k : Nat) (xs : List R3) (E : List Int) (w : World) (hn : n = xs.length) (hm : n = E.length) (hi : i < n) (hk : k < n) (hx : Elems enc3 3 w a xs) (hE : Elems encI 1 w ae E) (h60 : n ≤ 60) (hr : 1 ≤ rule) (hr6 : rule ≤ 6) :
    Calls Tryd.prog 36 #[.slice a n cap, .slice ae n ce, .int .i64 rule, .int .i64 i, .int .i64 k] w fun e w' => e = .returned (.bool (decide (goesB rule xs (lf E) i k))) ∧ Below w.heap.size w w' := by
  have hix : i < xs.length := by omega
  have hkx : k < xs.length := by omega
  have hiE : i < E.length := by omega
  have hkE : k < E.length := by omega
  obtain ⟨b, o, rfl, hc⟩ := hx.some hix
  obtain ⟨be, oe, rfl, he⟩ := hE.some hiE
  have c1 := hc i hix 1 _ rfl
  have c2 := hc i hix 2 _ rfl
  have c3 := he i hiE 0 _ rfl
  have d1 := hc k hkx 1 _ rfl
  have d2 := hc k hkx 2 _ rfl
  have d3 := he k hkE 0 _ rfl
  simp only [Nat.add_zero, Nat.mul_one] at c3 d3
  have gi : xs.getD i (0, 0, 0) = xs[i] := by simp [List.getD_eq_getElem?_getD, hix]
  have gk : xs.getD k (0, 0, 0) = xs[k] := by simp [List.getD_eq_getElem?_getD, hkx]
  have ei : lf E i = E[i] := getD_lt hiE
  have ek : lf E k = E[k] := getD_lt hkE
  have HG : ∀ x y, rule ≠ 2 → x = (if rule = 3 then xs[i].2.1 else if rule = 4 ∨ rule = 5 then xs[i].2.2 else if rule = 6 then E[i] else 0) → y = (if rule = 3 then xs[k].2.1 else if rule = 4 ∨ rule = 5 then xs[k].2.2 else if rule = 6 then E[k] else 0) →
      decide (goesB rule xs (lf E) i k) = (decide (x < y) || (decide (x = y) && decide (i < k))) := fun x y h2 h3 h4 => goes_refB rule xs (lf E) i k x y h2 (by rw [gi, ei]; exact h3) (by rw [gk, ek]; exact h4)
  have H2 : rule = 2 → decide (goesB rule xs (lf E) i k) = decide (k < i) := fun h => by
    have := goes_ref rule xs (lf E) i k
    rw [if_pos h] at this
    simp [this]
  generalize decide (goesB rule xs (lf E) i k) = R at *
  generalize xs[i].2.1 = x1 at *
  generalize xs[i].2.2 = x2 at *
  generalize E[i] = x3 at *
  generalize xs[k].2.1 = y1 at *
  generalize xs[k].2.2 = y2 at *
  generalize E[k] = y3 at *
  clear gi gk ei ek hc he hx hE hix hkx hiE hkE hn hm
  have hcase : rule = 1 ∨ rule = 2 ∨ rule = 3 ∨ rule = 4 ∨ rule = 5 ∨ rule = 6 := by omega
  rcases hcase with rfl | rfl | rfl | rfl | rfl | rfl
  case' inr.inl =>
    have HV := Lib.hid (H2 rfl)
    clear H2 HG
    go_enter Tryd.func36, Tryd.ntmps36
    go_wp2
    go_ret
    exact ⟨by rw [HV.out]; simp, Below.refl _ _⟩
  case' inl =>
    have HV := Lib.hid (HG 0 0 (by decide) rfl rfl)
    clear H2 HG
    by_cases hik : i < k
    · have HV2 : Hid (R = true) := Lib.hid (by rw [HV.out]; simp [hik])
      go_enter Tryd.func36, Tryd.ntmps36
      go_wp2
      go_ret
      exact ⟨by rw [HV2.out]; rfl, Below.refl _ _⟩
    · have HV2 : Hid (R = false) := Lib.hid (by rw [HV.out]; simp [hik])
      have hik2 : ¬ (i : Int) < (k : Int) := by omega
      go_enter Tryd.func36, Tryd.ntmps36
      go_wp2
      go_ret
      exact ⟨by rw [HV2.out]; rfl, Below.refl _ _⟩
  case' inr.inr.inl =>
    have HV := Lib.hid (val3 (HG x1 y1 (by decide) rfl rfl))
    clear H2 HG
    rcases Int.lt_trichotomy x1 y1 with h1 | h1 | h1
    · have HV2 : Hid (R = true) := Lib.hid (HV.out.1 h1)
      clear HV
      go_enter Tryd.func36, Tryd.ntmps36
      go_wp2_with fail
      go_quiet (fail)
      go_wp2
      go_ret
      exact ⟨by rw [HV2.out]; first | rfl | exact ret_bool (decide_eq_false (by omega)), below_drewN w _ _⟩
    · have hik0 : i < k ∨ ¬ i < k := by omega
      rcases hik0 with hik | hik
      · have HV2 : Hid (R = true) := Lib.hid ((HV.out.2.2 h1).trans (decide_eq_true hik))
        have hik2 : decide ((i : Int) < (k : Int)) = true := by simp [hik]
        clear HV
        go_enter Tryd.func36, Tryd.ntmps36
        go_wp2_with fail
        go_quiet (fail)
        go_wp2
        go_ret
        exact ⟨by rw [HV2.out]; first | rfl | exact ret_bool (decide_eq_false (by omega)), below_drewN w _ _⟩
      · have HV2 : Hid (R = false) := Lib.hid ((HV.out.2.2 h1).trans (decide_eq_false hik))
        have hik2 : decide ((i : Int) < (k : Int)) = false := by simp; omega
        clear HV
        go_enter Tryd.func36, Tryd.ntmps36
        go_wp2_with fail
        go_quiet (fail)
        go_wp2
        go_ret
        exact ⟨by rw [HV2.out]; first | rfl | exact ret_bool (decide_eq_false (by omega)), below_drewN w _ _⟩
    · have HV2 : Hid (R = false) := Lib.hid (HV.out.2.1 h1)
      have h2 : ¬ x1 < y1 := by omega
      have h3 : (x1 == y1) = false := by simp; omega
      clear HV
      go_enter Tryd.func36, Tryd.ntmps36
      go_wp2_with fail
      go_quiet (fail)
      go_wp2
      go_ret
      exact ⟨by rw [HV2.out]; first | rfl | exact ret_bool (decide_eq_false (by omega)), below_drewN w _ _⟩
  case' inr.inr.inr.inl =>
    have HV := Lib.hid (val3 (HG x2 y2 (by decide) rfl rfl))
    clear H2 HG
    rcases Int.lt_trichotomy x2 y2 with h1 | h1 | h1
    · have HV2 : Hid (R = true) := Lib.hid (HV.out.1 h1)
      clear HV
      go_enter Tryd.func36, Tryd.ntmps36
      go_wp2_with fail
      go_quiet (fail)
      go_wp2
      go_ret
      exact ⟨by rw [HV2.out]; first | rfl | exact ret_bool (decide_eq_false (by omega)), below_drewN w _ _⟩
    · have hik0 : i < k ∨ ¬ i < k := by omega
      rcases hik0 with hik | hik
      · have HV2 : Hid (R = true) := Lib.hid ((HV.out.2.2 h1).trans (decide_eq_true hik))
        have hik2 : decide ((i : Int) < (k : Int)) = true := by simp [hik]
        clear HV
        go_enter Tryd.func36, Tryd.ntmps36
        go_wp2_with fail
        go_quiet (fail)
        go_wp2
        go_ret
        exact ⟨by rw [HV2.out]; first | rfl | exact ret_bool (decide_eq_false (by omega)), below_drewN w _ _⟩
      · have HV2 : Hid (R = false) := Lib.hid ((HV.out.2.2 h1).trans (decide_eq_false hik))
        have hik2 : decide ((i : Int) < (k : Int)) = false := by simp; omega
        clear HV
        go_enter Tryd.func36, Tryd.ntmps36
        go_wp2_with fail
        go_quiet (fail)
        go_wp2
        go_ret
        exact ⟨by rw [HV2.out]; first | rfl | exact ret_bool (decide_eq_false (by omega)), below_drewN w _ _⟩
    · have HV2 : Hid (R = false) := Lib.hid (HV.out.2.1 h1)
      have h2 : ¬ x2 < y2 := by omega
      have h3 : (x2 == y2) = false := by simp; omega
      clear HV
      go_enter Tryd.func36, Tryd.ntmps36
      go_wp2_with fail
      go_quiet (fail)
      go_wp2
      go_ret
      exact ⟨by rw [HV2.out]; first | rfl | exact ret_bool (decide_eq_false (by omega)), below_drewN w _ _⟩
  case' inr.inr.inr.inr.inl =>
    have HV := Lib.hid (val3 (HG x2 y2 (by decide) rfl rfl))
    clear H2 HG
    rcases Int.lt_trichotomy x2 y2 with h1 | h1 | h1
    · have HV2 : Hid (R = true) := Lib.hid (HV.out.1 h1)
      clear HV
      go_enter Tryd.func36, Tryd.ntmps36
      go_wp2_with fail
      go_quiet (fail)
      go_wp2
      go_ret
      exact ⟨by rw [HV2.out]; first | rfl | exact ret_bool (decide_eq_false (by omega)), below_drewN w _ _⟩
    · have hik0 : i < k ∨ ¬ i < k := by omega
      rcases hik0 with hik | hik
      · have HV2 : Hid (R = true) := Lib.hid ((HV.out.2.2 h1).trans (decide_eq_true hik))
        have hik2 : decide ((i : Int) < (k : Int)) = true := by simp [hik]
        clear HV
        go_enter Tryd.func36, Tryd.ntmps36
        go_wp2_with fail
        go_quiet (fail)
        go_wp2
        go_ret
        exact ⟨by rw [HV2.out]; first | rfl | exact ret_bool (decide_eq_false (by omega)), below_drewN w _ _⟩
      · have HV2 : Hid (R = false) := Lib.hid ((HV.out.2.2 h1).trans (decide_eq_false hik))
        have hik2 : decide ((i : Int) < (k : Int)) = false := by simp; omega
        clear HV
        go_enter Tryd.func36, Tryd.ntmps36
        go_wp2_with fail
        go_quiet (fail)
        go_wp2
        go_ret
        exact ⟨by rw [HV2.out]; first | rfl | exact ret_bool (decide_eq_false (by omega)), below_drewN w _ _⟩
    · have HV2 : Hid (R = false) := Lib.hid (HV.out.2.1 h1)
      have h2 : ¬ x2 < y2 := by omega
      have h3 : (x2 == y2) = false := by simp; omega
      clear HV
      go_enter Tryd.func36, Tryd.ntmps36
      go_wp2_with fail
      go_quiet (fail)
      go_wp2
      go_ret
      exact ⟨by rw [HV2.out]; first | rfl | exact ret_bool (decide_eq_false (by omega)), below_drewN w _ _⟩
  case' inr.inr.inr.inr.inr =>
    have HV := Lib.hid (val3 (HG x3 y3 (by decide) rfl rfl))
    clear H2 HG
    rcases Int.lt_trichotomy x3 y3 with h1 | h1 | h1
    · have HV2 : Hid (R = true) := Lib.hid (HV.out.1 h1)
      clear HV
      go_enter Tryd.func36, Tryd.ntmps36
      go_wp2_with fail
      go_quiet (fail)
      go_wp2
      go_ret
      exact ⟨by rw [HV2.out]; first | rfl | exact ret_bool (decide_eq_false (by omega)), below_drewN w _ _⟩
    · have hik0 : i < k ∨ ¬ i < k := by omega
      rcases hik0 with hik | hik
      · have HV2 : Hid (R = true) := Lib.hid ((HV.out.2.2 h1).trans (decide_eq_true hik))
        have hik2 : decide ((i : Int) < (k : Int)) = true := by simp [hik]
        clear HV
        go_enter Tryd.func36, Tryd.ntmps36
        go_wp2_with fail
        go_quiet (fail)
        go_wp2
        go_ret
        exact ⟨by rw [HV2.out]; first | rfl | exact ret_bool (decide_eq_false (by omega)), below_drewN w _ _⟩
      · have HV2 : Hid (R = false) := Lib.hid ((HV.out.2.2 h1).trans (decide_eq_false hik))
        have hik2 : decide ((i : Int) < (k : Int)) = false := by simp; omega
        clear HV
        go_enter Tryd.func36, Tryd.ntmps36
        go_wp2_with fail
        go_quiet (fail)
        go_wp2
        go_ret
        exact ⟨by rw [HV2.out]; first | rfl | exact ret_bool (decide_eq_false (by omega)), below_drewN w _ _⟩
    · have HV2 : Hid (R = false) := Lib.hid (HV.out.2.1 h1)
      have h2 : ¬ x3 < y3 := by omega
      have h3 : (x3 == y3) = false := by simp; omega
      clear HV
      go_enter Tryd.func36, Tryd.ntmps36
      go_wp2_with fail
      go_quiet (fail)
      go_wp2
      go_ret
      exact ⟨by rw [HV2.out]; first | rfl | exact ret_bool (decide_eq_false (by omega)), below_drewN w _ _⟩
end Go.Proofs.YtannijeiecmjpaaDoor
