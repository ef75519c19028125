/- The law ShopFlow: when all is done is the reference's. -/
import Derived.Test.YtgcocjfbppkgbaaDoorFlow
import Derived.Test.YtgcocjfbppkgbaaDoorWhole
namespace Go.Proofs.YtgcocjfbppkgbaaDoor
open Go.RowKit

set_option maxRecDepth 100000 in
set_option maxHeartbeats 4000000 in
theorem flow_law (a a2 : Option Addr) (n n2 cap cap2 : Nat) (xs : List R2) (row : List Int) (w : World) (hg : Hnd w) (hl : n = xs.length) (hl2 : n2 = row.length) (hn : n ≤ maxLen) (hn2 : n2 ≤ maxLen) (hcap : n2 ≤ cap2) (hx : Elems enc2 2 w a xs) (hr : Elems encI 1 w a2 row) :
    Calls Tryd.prog 5 #[.slice a n cap, .slice a2 n2 cap2] w fun e w' => e = .returned (.bool true) ∧ Below w.heap.size w w' := by
  subst hl; subst hl2
  unfold maxLen at hn hn2
  by_cases hA : 100 < xs.length
  · have hd : decide ((100 : Int) < (xs.length : Int)) = true := by simp; omega
    go_enter Tryd.func5, Tryd.ntmps5
    go_wp2
    go_ret
    exact ⟨rfl, Below.refl _ _⟩
  have hd : decide ((100 : Int) < (xs.length : Int)) = false := by simp; omega
  by_cases hB : 100 < row.length
  · have hd2 : decide ((100 : Int) < (row.length : Int)) = true := by simp; omega
    go_enter Tryd.func5, Tryd.ntmps5
    go_wp2
    go_ret
    exact ⟨rfl, Below.refl _ _⟩
  have hd2 : decide ((100 : Int) < (row.length : Int)) = false := by simp; omega
  have HF : ∀ w, Elems enc2 2 w a xs → Elems encI 1 w a2 row → _ := fun w h1 h2 => flow_any a a2 _ _ cap cap2 xs row w rfl rfl (by omega) (by omega) h1 h2
  by_cases hC : twosCheck xs = 0
  case neg =>
    have hE : flowErr xs row = twosCheck xs := if_pos hC
    rw [hE] at HF
    have hz : (twosCheck xs == 0) = false := beq_eq_false_iff_ne.2 hC
    have HN := Lib.hid hC
    clear hC hE
    go_enter Tryd.func5, Tryd.ntmps5
    go_wp2_with fail
    refine (twos_any _ _ _ xs _ (by omega) rfl hx).mono ?_
    rintro e w1 ⟨a1, c1, rfl, he1, hb1⟩
    go_wp2_with fail
    refine (refTwos_any _ _ _ xs _ rfl (by unfold maxLen; omega) he1).mono ?_
    rintro e w2 ⟨rfl, hb2⟩
    have h02 := below_next hb1 hb2
    go_wp2_with fail
    refine (HF _ (hx.at h02) (hr.at h02)).mono ?_
    rintro e w3 ⟨m, rfl, h0, h1, hb3⟩
    have h03 := below_next h02 hb3
    have H1 := Lib.hid h1
    clear h0 h1 HF
    go_wp2_with fail
    refine (whole_any (twosCheck xs) m 0 _ (hg.at h03) (fun h => absurd h HN.out) (fun h => H1.out h)).mono ?_
    rintro e w4 ⟨rfl, hb4⟩
    go_wp2
    go_ret
    exact ⟨rfl, below_next h03 hb4⟩
  have hE : flowErr xs row = orderM row xs.length := if_neg (by simp [hC])
  rw [hE] at HF
  have hlen := twos_ok_len hC
  by_cases hO : orderM row xs.length = 0
  case neg =>
    have hz : (orderM row xs.length == 0) = false := beq_eq_false_iff_ne.2 hO
    have HN := Lib.hid hO
    have HC := Lib.hid hC
    clear hC hE hO
    go_enter Tryd.func5, Tryd.ntmps5
    go_wp2_with fail
    refine (twos_any _ _ _ xs _ (by omega) rfl hx).mono ?_
    rintro e w1 ⟨a1, c1, rfl, he1, hb1⟩
    go_wp2_with fail
    refine (refTwos_any _ _ _ xs _ rfl (by unfold maxLen; omega) he1).mono ?_
    rintro e w2 ⟨rfl, hb2⟩
    rw [HC.out]
    have h02 := below_next hb1 hb2
    go_wp2_with fail
    refine (refOrder_any _ _ _ _ row _ rfl (by omega) (hr.at h02) hcap).mono ?_
    rintro e w3 ⟨rfl, hb3⟩
    have h03 := below_next h02 hb3
    go_wp2_with fail
    refine (HF _ (hx.at h03) (hr.at h03)).mono ?_
    rintro e w4 ⟨m, rfl, h0, h1, hb4⟩
    have h04 := below_next h03 hb4
    have H1 := Lib.hid h1
    clear h0 h1 HF
    go_wp2_with fail
    refine (whole_any (orderM row xs.length) m 0 _ (hg.at h04) (fun h => absurd h HN.out) (fun h => H1.out h)).mono ?_
    rintro e w5 ⟨rfl, hb5⟩
    go_wp2
    go_ret
    exact ⟨rfl, below_next h04 hb5⟩
  have hq := flow_eq hC row (by have := (order_ok hO).1; omega)
  have HQ := Lib.hid hq
  have HC := Lib.hid hC
  have HO := Lib.hid hO
  clear hC hE hO hq
  go_enter Tryd.func5, Tryd.ntmps5
  go_wp2_with fail
  refine (twos_any _ _ _ xs _ (by omega) rfl hx).mono ?_
  rintro e w1 ⟨a1, c1, rfl, he1, hb1⟩
  go_wp2_with fail
  refine (refTwos_any _ _ _ xs _ rfl (by unfold maxLen; omega) he1).mono ?_
  rintro e w2 ⟨rfl, hb2⟩
  rw [HC.out]
  have h02 := below_next hb1 hb2
  go_wp2_with fail
  refine (refOrder_any _ _ _ _ row _ rfl (by omega) (hr.at h02) hcap).mono ?_
  rintro e w3 ⟨rfl, hb3⟩
  rw [HO.out]
  have h03 := below_next h02 hb3
  go_wp2_with fail
  refine (refFlow_any _ _ _ _ _ _ xs row _ rfl rfl (by omega) HO.out (he1.at (below_next hb2 hb3)) (hr.at h03)).mono ?_
  rintro e w4 ⟨rfl, hb4⟩
  have h04 := below_next h03 hb4
  go_wp2_with fail
  refine (HF _ (hx.at h04) (hr.at h04)).mono ?_
  rintro e w5 ⟨m, rfl, h0, h1, hb5⟩
  have h05 := below_next h04 hb5
  have H0 := Lib.hid ((h0 HO.out).trans HQ.out)
  rw [HO.out]
  clear h0 h1 HF
  go_wp2_with fail
  refine (whole_any 0 m _ _ (hg.at h05) (fun _ => H0.out) (fun h => absurd rfl h)).mono ?_
  rintro e w6 ⟨rfl, hb6⟩
  go_wp2
  go_ret
  exact ⟨rfl, below_next h05 hb6⟩
end Go.Proofs.YtgcocjfbppkgbaaDoor
