/- trip.Savings: the ways that end in an error. -/
import Derived.Test.YtannijeiecmjpaaDoorSavX
namespace Go.Proofs.YtannijeiecmjpaaDoor
open Go.RowKit

set_option maxRecDepth 100000 in
set_option maxHeartbeats 8000000 in
theorem savings_bad (a aw : Option Addr) (cap cw : Nat) (room : Int) (M : List (List Int)) (wants : List Int) (w : World) (hn : M.length ≤ maxLen) (hnw : wants.length ≤ 60) (hr : Rows2 w a M) (hx : Elems encI 1 w aw wants) (hE : savErr M wants room ≠ 0) :
    Calls Tryd.prog 25 #[.slice a M.length cap, .slice aw wants.length cw, .int .i64 room] w fun e w' => e = .returned (.tuple #[.slice none 0 0, errV (savErr M wants room)]) ∧ Below w.heap.size w w' := by
  have hn0 := hn
  unfold maxLen at hn
  obtain ⟨E, hEE⟩ : ∃ E, E = savErr M wants room := ⟨_, rfl⟩
  rw [← hEE] at hE ⊢
  have HVE : Hid (errV E = .iface 25 (.int .i64 E)) := Lib.hid (if_neg hE)
  have hb0 : Below w.heap.size w (w.alloc (.cells #[.slice aw wants.length cw] 39)) := (Below.refl _ _).alloc (Nat.le_refl _) _
  have H0 := tripChk_any a M.length cap M (w.alloc (.cells #[.slice aw wants.length cw] 39)) rfl hn0 (hr.at hb0)
  have hd1 : (w.alloc (.cells #[.slice aw wants.length cw] 39)).cell? ⟨w.heap.size, 0, none⟩ = some (.slice aw wants.length cw) := by simp
  have HXW := Lib.hid (hx.at hb0)
  have HB0 := Lib.hid hb0
  clear hb0 hx hr
  unfold savErr at hEE
  by_cases hC : mapCheck M = 0
  case neg =>
    rw [if_pos hC] at hEE
    rw [← hEE, HVE.out] at H0
    have H0 := Lib.hid H0
    clear hC hEE hn0
    go_enter Tryd.func25, Tryd.ntmps25
    go_wp2_with fail
    refine H0.out.mono ?_
    rintro e w1 ⟨rfl, hb1⟩
    have hb2 := HB0.out.trans (hb1.mono HB0.out.size)
    go_wp2
    go_ret2
    exact ⟨by rw [HVE.out]; rfl, hb2⟩
  rw [if_neg (by simpa using hC)] at hEE
  rw [show errV (mapCheck M) = .nilIface by unfold errV; rw [if_pos hC]] at H0
  have H0 := Lib.hid H0
  have hn9 := (map_ok hC).1
  clear hC hn0
  by_cases hL : wants.length = M.length
  case neg =>
    rw [if_pos hL] at hEE
    have HE3 := Lib.hid hEE
    have hd : ((wants.length : Int) != (M.length : Int)) = true := by simp; omega
    clear hL hEE
    go_enter Tryd.func25, Tryd.ntmps25
    go_wp2_with fail
    refine H0.out.mono ?_
    rintro e w1 ⟨rfl, hb1⟩
    have hb2 := HB0.out.trans (hb1.mono HB0.out.size)
    have d1 := (hb1.cell (lt_of_cell hd1)).trans hd1
    clear hb1 hd1
    go_wp2
    go_ret2
    exact ⟨by rw [HVE.out, HE3.out]; rfl, hb2⟩
  rw [if_neg (by simpa using hL)] at hEE
  have HM : Hid (E = wantsFrom room 0 (wants.drop 0)) := Lib.hid hEE
  have hd : ((wants.length : Int) != (M.length : Int)) = false := by simp; omega
  have HE := Lib.hid hE
  clear hL hEE hE
  go_enter Tryd.func25, Tryd.ntmps25
  go_wp2_with fail
  refine H0.out.mono ?_
  rintro e w1 ⟨rfl, hb1⟩
  have HB2 := Lib.hid (HB0.out.trans (hb1.mono HB0.out.size))
  have HX1 := Lib.hid (HXW.out.at hb1)
  have d1 := (hb1.cell (lt_of_cell hd1)).trans hd1
  clear hb1 hd1 H0 HB0 HXW
  go_wp2
  go_loopw [38] (fun iv wr => ∃ k : Nat, k ≤ wants.length ∧ iv = .int .i64 k ∧ Hid (E = wantsFrom room k (wants.drop k)) ∧ w1 = wr) (fun iv _ => wants.length - (intOf iv).toNat)
  case atStart => exact ⟨0, by omega, rfl, HM, rfl⟩
  case round =>
    clear HM
    obtain ⟨k, hk, rfl, HM, rfl⟩ := hrel
    by_cases hlt : k < wants.length
    · obtain ⟨b, o, rfl, hc⟩ := HX1.out.some hlt
      have c1 := hc k hlt 0 _ rfl
      simp only [Nat.add_zero, Nat.mul_one] at c1
      have hst := wants_here room wants k hlt
      obtain ⟨x, hxx⟩ : ∃ x, x = wants[k] := ⟨_, rfl⟩
      rw [← hxx] at hst c1
      clear hc hxx
      by_cases h1 : x < 0 ∨ 1000000000 < x
      · have HR := Lib.hid (show E = 2 from HM.out.trans (hst.trans (if_pos h1)))
        clear hst HM
        by_cases h0 : x < 0
        · have e1 := decide_eq_true h0
          clear h1 h0
          go_wp2
          go_ret2
          exact ⟨by rw [HVE.out, HR.out]; rfl, HB2.out⟩
        · have e1 := decide_eq_false h0
          have e2 : decide ((1000000000 : Int) < x) = true := by simp; omega
          clear h1 h0
          go_wp2
          go_ret2
          exact ⟨by rw [HVE.out, HR.out]; rfl, HB2.out⟩
      have hst := hst.trans (if_neg h1)
      have e1 : ¬ x < 0 := by omega
      have e2 : ¬ 1000000000 < x := by omega
      clear h1
      by_cases h2 : 0 < k ∧ room < x
      · have HR := Lib.hid (show E = 9 from HM.out.trans (hst.trans (if_pos h2)))
        have e3 : decide ((0 : Int) < (k : Int)) = true := by simp; omega
        have e5 : decide (0 < k) = true := by simp; omega
        have e4 : decide (room < x) = true := by simp; omega
        have d3 := decide_eq_false e1
        have d4 := decide_eq_false e2
        clear hst HM h2 e1 e2
        go_wp2
        go_ret2
        exact ⟨by rw [HVE.out, HR.out]; rfl, HB2.out⟩
      have HR := Lib.hid (HM.out.trans (hst.trans (if_neg h2)))
      have d3 := decide_eq_false e1
      have d4 := decide_eq_false e2
      clear hst HM e1 e2
      by_cases h3 : 0 < k
      · have e3 : decide ((0 : Int) < (k : Int)) = true := by simp; omega
        have e4 : decide (room < x) = false := by simp; omega
        clear h2
        go_wp2
        exact ⟨⟨k + 1, by omega, by go_num, HR, trivial⟩, by simp [intOf]; omega⟩
      · have e3 : decide ((0 : Int) < (k : Int)) = false := by simp; omega
        clear h2
        go_wp2
        exact ⟨⟨k + 1, by omega, by go_num, HR, trivial⟩, by simp [intOf]; omega⟩
    · obtain rfl : k = wants.length := by omega
      exact absurd (HM.out.trans (wants_done room wants)) HE.out
end Go.Proofs.YtannijeiecmjpaaDoor
