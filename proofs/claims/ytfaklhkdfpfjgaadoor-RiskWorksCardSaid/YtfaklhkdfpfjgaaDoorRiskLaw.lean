/- The law RiskWorks: whether the whole works is the reference's, or both tell the same error. -/
import Derived.Test.YtfaklhkdfpfjgaaDoorRiskConv
import Derived.Test.YtfaklhkdfpfjgaaDoorRiskRef
import Derived.Test.YtfaklhkdfpfjgaaDoorTell
namespace Go.Proofs.YtfaklhkdfpfjgaaDoor
open Go.RowKit

set_option maxRecDepth 100000 in
set_option maxHeartbeats 4000000 in
theorem riskWorks_any (a ap : Option Addr) (m cap pl cp : Nat) (L : List GateT) (P : List Bool) (w : World) (hl : m = L.length) (hm : m ≤ maxLen) (hp : pl = P.length) (hr : Gates w a L) (hx : Elems encB 1 w ap P) :
    Calls Tryd.prog 21 #[.slice a m cap, .slice ap pl cp] w fun e w' => e = .returned (.tuple #[.bool (gatesCheck (P.length : Int) L == 0 && worksG (fun k => P.getD k false) L), errV (gatesCheck (P.length : Int) L)]) ∧ Below w.heap.size w w' := by
  subst hl; subst hp
  have H1 := riskChk_any a _ cap (P.length : Int) L w rfl hm hr
  by_cases hC : gatesCheck (P.length : Int) L = 0
  · have H2 := fun w1 h1 h2 => works_any a ap _ cap _ cp L P w1 rfl rfl hC h1 h2
    rw [hC] at H1 ⊢
    rw [show errV 0 = .nilIface from rfl] at H1 ⊢
    generalize worksG (fun k => P.getD k false) L = wv at *
    clear hC
    go_enter Tryd.func21, Tryd.ntmps21
    go_wp2_with fail
    refine H1.mono ?_
    rintro e w1 ⟨rfl, hb1⟩
    go_wp2_with fail
    refine (H2 _ (hr.at hb1) (hx.at hb1)).mono ?_
    rintro e w2 ⟨rfl, hb2⟩
    go_wp2
    go_ret2
    exact ⟨rfl, below_next hb1 hb2⟩
  · have hV : errV (gatesCheck (P.length : Int) L) = .iface 25 (.int .i64 (gatesCheck (P.length : Int) L)) := if_neg hC
    have hz : (gatesCheck (P.length : Int) L == 0) = false := by simpa using hC
    rw [hz, Bool.false_and]
    rw [hV] at H1 ⊢
    clear hV hC hz
    generalize gatesCheck (P.length : Int) L = ev at *
    go_enter Tryd.func21, Tryd.ntmps21
    go_wp2_with fail
    refine H1.mono ?_
    rintro e w1 ⟨rfl, hb1⟩
    go_wp2
    go_ret2
    exact ⟨rfl, hb1⟩

set_option maxRecDepth 100000 in
set_option maxHeartbeats 8000000 in
theorem riskWorks_law (a ap : Option Addr) (m cap pl cp : Nat) (L : List GateT) (P : List Bool) (w : World) (hg : Hnd w) (hl : m = L.length) (hm : m ≤ maxLen) (hz : m * 32 ≤ 140737488351232) (hp : pl = P.length) (hpm : pl ≤ maxLen) (hr : Gates w a L) (hx : Elems encB 1 w ap P) :
    Calls Tryd.prog 4 #[.slice a m cap, .slice ap pl cp] w fun e w' => e = .returned (.bool true) ∧ Below w.heap.size w w' := by
  subst hl; subst hp
  have HG := gates_any a _ cap L w hm hz rfl hr
  unfold maxLen at hpm
  by_cases hbig : (20 : Int) < (P.length : Int)
  · have hd := decide_eq_true hbig
    clear hbig
    go_enter Tryd.func4, Tryd.ntmps4
    go_wp2_with fail
    refine HG.mono ?_
    intro e w1 hw
    unfold ConvPost at hw
    obtain ⟨a', n', cap', b, rfl, h2, hb1⟩ := hw
    clear h2
    cases b with
    | false =>
      go_wp2
      go_ret
      exact ⟨rfl, hb1⟩
    | true =>
      go_wp2
      go_ret
      exact ⟨rfl, hb1⟩
  have hd := decide_eq_false hbig
  have hP20 : P.length ≤ 20 := by omega
  clear hbig
  go_enter Tryd.func4, Tryd.ntmps4
  go_wp2_with fail
  refine HG.mono ?_
  intro e w1 hw
  unfold ConvPost at hw
  obtain ⟨a', n', cap', b, rfl, h2, hb1⟩ := hw
  cases b with
  | false =>
    clear h2
    go_wp2
    go_ret
    exact ⟨rfl, hb1⟩
  | true =>
    obtain ⟨rfl, hgr, h40⟩ := h2 rfl
    have HRW := fun w' h1 => refGates_any a' _ cap' (P.length : Int) L w' rfl (by unfold maxLen; omega) h1
    have HRC := fun w' h1 => riskChk_any a _ cap (P.length : Int) L w' rfl hm h1
    have HWK := fun w' h1 h2 => riskWorks_any a ap _ cap _ cp L P w' rfl hm rfl h1 h2
    have HRF := fun w' hC h1 => refWorks_any (fun k => P.getD k false) L P.length ((setN P P.length : Nat) : Int) a' _ cap' w' rfl hC (set_bits P P.length) h1
    obtain ⟨er, her⟩ : ∃ er, er = gatesCheck (P.length : Int) L := ⟨_, rfl⟩
    obtain ⟨wv, hwv⟩ : ∃ wv, wv = worksG (fun k => P.getD k false) L := ⟨_, rfl⟩
    rw [← her] at HRW HRC HWK HRF
    rw [← hwv] at HWK HRF
    have HRW := Lib.hid HRW
    have HRC := Lib.hid HRC
    have HWK := Lib.hid HWK
    have HRF := Lib.hid HRF
    have HGR := Lib.hid hgr
    clear her hwv hgr h2 HG
    go_wp2_with fail
    refine (HRW.out _ HGR.out).mono ?_
    rintro e w2 ⟨rfl, hb2⟩
    have hb02 := below_next hb1 hb2
    go_wp2
    go_loop [8, 9] (fun sv iv => ∃ k : Nat, k ≤ P.length ∧ iv = .int .i64 k ∧ sv = .int .i64 (setN P k : Nat)) (fun _ iv => P.length - (intOf iv).toNat)
    case atStart => exact ⟨0, by omega, rfl, rfl⟩
    case round =>
      obtain ⟨k, hk, rfl, rfl⟩ := hrel
      by_cases hlt : k < P.length
      · have hX := hx.at hb02
        obtain ⟨b4, o4, rfl, hc4⟩ := hX.some hlt
        have h6 := hc4 k hlt 0 _ rfl
        simp only [Nat.add_zero, Nat.mul_one] at h6
        have hs : setN P (k + 1) = setN P k + if P[k] = true then 2 ^ k else 0 := by
          show setN P k + (if P.getD k false = true then 2 ^ k else 0) = _
          rw [getB_lt hlt]
        have h7 := setN_lt P (k + 1)
        have h8 : 2 ^ (k + 1) ≤ 2 ^ 20 := Nat.pow_le_pow_right (by omega) (by omega)
        have HS := Lib.hid hs
        cases hbv : P[k] with
        | false =>
          rw [hbv] at h6
          have HE : Hid (setN P (k + 1) = setN P k) := Lib.hid (by rw [hs, hbv, if_neg (by simp)]; rfl)
          clear hc4 hX hs hbv h7 h8
          go_wp2
          go_round
          case rel => exact ⟨k + 1, by omega, by go_num, by rw [HE.out]⟩
          case measure => simp [intOf]; omega
        | true =>
          rw [hbv] at h6
          have HE : Hid (setN P (k + 1) = setN P k + 2 ^ k) := Lib.hid (by rw [hs, hbv, if_pos rfl])
          obtain ⟨q, hq⟩ : ∃ q : Nat, q = 2 ^ k := ⟨_, rfl⟩
          rw [← hq] at HE
          have h9 : setN P k + q < 2097152 := by have := HE.out; omega
          have hq2 : (2 : Int) ^ k = (q : Int) := by rw [hq]; push_cast; rfl
          have hq3 : IntKind.i64.wrap (2 ^ k) = (q : Int) := by rw [hq2]; exact IntWalk.i64_in _ (by omega)
          have hq4 : wrap64 (2 ^ k) = (q : Int) := by rw [hq2]; exact IntWalk.wrap64_in _ (by omega)
          clear hc4 hX hs hbv h7 h8 hq
          go_wp2
          exact ⟨⟨k + 1, by omega, by go_num, by rw [HE.out]; push_cast; rfl⟩, by simp [intOf]; omega⟩
      · obtain rfl : k = P.length := by omega
        clear hlt hk
        have HRF2 := Lib.hid (fun w' h => HRF.out w' h)
        clear HRF
        generalize setN P P.length = sn at *
        go_wp2_with fail
        refine (HWK.out _ (hr.at hb02) (hx.at hb02)).mono ?_
        rintro e w3 ⟨rfl, hb3⟩
        have hb03 := below_next hb02 hb3
        have hgr3 := HGR.out.at (below_next hb2 hb3)
        have hqq : (er == er) = true := by simp
        by_cases hC : er = 0
        · have HC := Lib.hid hC
          have hz0 : (er == 0) = true := by simpa using hC
          rw [hz0, Bool.true_and]
          have hww : (wv == wv) = true := by simp
          clear hC
          go_wp2_with (first
            | (go_at_call 17; refine (tell_any _ _ (hg.at hb03)).mono ?_; rintro e w4 ⟨rfl, hb4⟩)
            | fail)
          have hb04 := below_next hb03 hb4
          go_wp2_with fail
          refine (HRF2.out _ HC.out (hgr3.at hb4)).mono ?_
          rintro e w5 ⟨rfl, hb5⟩
          have hb05 := below_next hb04 hb5
          go_wp2_with fail
          refine (HRC.out _ (hr.at hb05)).mono ?_
          rintro e w6 ⟨rfl, hb6⟩
          have hb06 := below_next hb05 hb6
          go_wp2_with (go_at_call 17; refine (tell_any _ _ (hg.at hb06)).mono ?_; rintro e w7 ⟨rfl, hb7⟩)
          go_wp2
          go_ret
          exact ⟨rfl, below_next hb06 hb7⟩
        · have hz0 : (er == 0) = false := by simpa using hC
          rw [hz0, Bool.false_and]
          clear hC HRF2
          go_wp2_with (first
            | (go_at_call 17; refine (tell_any _ _ (hg.at hb03)).mono ?_; rintro e w4 ⟨rfl, hb4⟩)
            | fail)
          have hb04 := below_next hb03 hb4
          go_wp2_with fail
          refine (HRC.out _ (hr.at hb04)).mono ?_
          rintro e w6 ⟨rfl, hb6⟩
          have hb06 := below_next hb04 hb6
          go_wp2_with (go_at_call 17; refine (tell_any _ _ (hg.at hb06)).mono ?_; rintro e w7 ⟨rfl, hb7⟩)
          go_wp2
          go_ret
          exact ⟨rfl, below_next hb06 hb7⟩
end Go.Proofs.YtfaklhkdfpfjgaaDoor
