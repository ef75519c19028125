/- The law RiskSets: the least paths and cuts are the reference's, or both tell the same error. -/
import Derived.Test.YtfaklhkdfpfjgaaDoorSetsR
import Derived.Test.YtfaklhkdfpfjgaaDoorSame
namespace Go.Proofs.YtfaklhkdfpfjgaaDoor
open Go.RowKit

theorem paths_bad (a : Option Addr) (m cap : Nat) (p : Int) (L : List GateT) (w : World) (hl : m = L.length) (hm : m ≤ maxLen) (hC : gatesCheck p L ≠ 0) (hr : Gates w a L) :
    Calls Tryd.prog 26 #[.int .i64 p, .slice a m cap] w fun e w' => e = .returned (.tuple #[.slice none 0 0, errV (gatesCheck p L)]) ∧ Below w.heap.size w w' := by
  subst hl
  have H1 := riskChk_any a _ cap p L w rfl hm hr
  have hV : errV (gatesCheck p L) = .iface 25 (.int .i64 (gatesCheck p L)) := if_neg hC
  rw [hV] at H1 ⊢
  clear hV hC
  generalize gatesCheck p L = ev at *
  go_enter Tryd.func26, Tryd.ntmps26
  go_wp2_with fail
  refine H1.mono ?_
  rintro e w1 ⟨rfl, hb1⟩
  go_wp2
  go_ret2
  exact ⟨rfl, hb1⟩
theorem cuts_bad (a : Option Addr) (m cap : Nat) (p : Int) (L : List GateT) (w : World) (hl : m = L.length) (hm : m ≤ maxLen) (hC : gatesCheck p L ≠ 0) (hr : Gates w a L) :
    Calls Tryd.prog 27 #[.int .i64 p, .slice a m cap] w fun e w' => e = .returned (.tuple #[.slice none 0 0, errV (gatesCheck p L)]) ∧ Below w.heap.size w w' := by
  subst hl
  have H1 := riskChk_any a _ cap p L w rfl hm hr
  have hV : errV (gatesCheck p L) = .iface 25 (.int .i64 (gatesCheck p L)) := if_neg hC
  rw [hV] at H1 ⊢
  clear hV hC
  generalize gatesCheck p L = ev at *
  go_enter Tryd.func27, Tryd.ntmps27
  go_wp2_with fail
  refine H1.mono ?_
  rintro e w1 ⟨rfl, hb1⟩
  go_wp2
  go_ret2
  exact ⟨rfl, hb1⟩

theorem sets_len {n : Nat} (hn : n ≤ 6) (L : List GateT) : (pathsM L n).length ≤ 1000 ∧ (cutsM L n).length ≤ 1000 := by
  have h1 : 2 ^ n ≤ 2 ^ 6 := Nat.pow_le_pow_right (by omega) hn
  have h2 := sel_len (WS L) (fun s k => !WS L (s - 2 ^ k)) n (2 ^ n)
  have h3 := sel_len (fun s => !WS L (2 ^ n - 1 - s)) (fun s k => WS L (2 ^ n - 1 - s + 2 ^ k)) n (2 ^ n)
  unfold pathsM cutsM
  omega

set_option maxRecDepth 100000 in
set_option maxHeartbeats 8000000 in
theorem riskSets_law (a : Option Addr) (m cap : Nat) (p : Int) (L : List GateT) (w : World) (hg : Hnd w) (hl : m = L.length) (hm : m ≤ maxLen) (hz : m * 32 ≤ 140737488351232) (hr : Gates w a L) :
    Calls Tryd.prog 5 #[.int .i64 p, .slice a m cap] w fun e w' => e = .returned (.bool true) ∧ Below w.heap.size w w' := by
  subst hl
  have HG := gates_any a _ cap L w hm hz rfl hr
  by_cases hmid : 6 < p ∧ p ≤ 10
  · obtain ⟨h6, h10⟩ := hmid
    go_enter Tryd.func5, Tryd.ntmps5
    go_wp2_with fail
    refine HG.mono ?_
    intro e w1 hw
    unfold ConvPost at hw
    obtain ⟨a', n', cap', b, rfl, h2, hb1⟩ := hw
    clear h2
    cases b with
    | false =>
      go_wp2
      go_ret
      exact ⟨rfl, hb1⟩
    | true =>
      go_wp2
      go_ret
      exact ⟨rfl, hb1⟩
  by_cases hC : gatesCheck p L = 0
  · obtain ⟨c1, c2, c3, c4, _⟩ := gatesCheck_ok hC
    obtain ⟨n, rfl⟩ := Int.eq_ofNat_of_zero_le (show 0 ≤ p by omega)
    have hn6 : n ≤ 6 := by omega
    obtain ⟨q1, q2⟩ := sets_len hn6 L
    have HRW := fun a' cap' w' h1 => refGates_any a' _ cap' (n : Int) L w' rfl hm h1
    rw [hC] at HRW
    have HRW := Lib.hid HRW
    have HRP := Lib.hid (fun a' cap' w' h1 => refPaths_ok a' _ cap' n L w' rfl hm hn6 hC h1)
    have HRC := Lib.hid (fun a' cap' w' h1 => refCuts_ok a' _ cap' n L w' rfl hm hn6 hC h1)
    have HPP := Lib.hid (fun w' h1 => paths_ok a _ cap n L w' rfl hm hn6 hC h1)
    have HPC := Lib.hid (fun w' h1 => cuts_ok a _ cap n L w' rfl hm hn6 hC h1)
    obtain ⟨X, hX⟩ : ∃ X, X = pathsM L n := ⟨_, rfl⟩
    obtain ⟨Y, hY⟩ : ∃ Y, Y = cutsM L n := ⟨_, rfl⟩
    rw [← hX] at HRP HPP q1
    rw [← hY] at HRC HPC q2
    have h6 : ¬ (6 : Int) < (n : Int) := by omega
    clear hX hY hmid
    go_enter Tryd.func5, Tryd.ntmps5
    go_wp2_with fail
    refine HG.mono ?_
    intro e w1 hw
    unfold ConvPost at hw
    obtain ⟨a', n', cap', b, rfl, h2, hb1⟩ := hw
    cases b with
    | false =>
      clear h2
      go_wp2
      go_ret
      exact ⟨rfl, hb1⟩
    | true =>
      obtain ⟨rfl, hgr, _⟩ := h2 rfl
      clear h2
      go_wp2_with fail
      refine (HRW.out a' cap' _ hgr).mono ?_
      rintro e w2 ⟨rfl, hb2⟩
      have hb02 := below_next hb1 hb2
      have hgr2 := hgr.at hb2
      go_wp2_with fail
      refine (HRP.out a' cap' _ hgr2).mono ?_
      rintro e w3 ⟨ax, cx, rfl, hex, hb3⟩
      have hb03 := below_next hb02 hb3
      have hgr3 := hgr2.at hb3
      go_wp2_with fail
      refine (HRC.out a' cap' _ hgr3).mono ?_
      rintro e w4 ⟨ay, cy, rfl, hey, hb4⟩
      have hb04 := below_next hb03 hb4
      have hex4 := hex.at hb4
      clear hb2 hb3 hb4 hb02 hb03 hgr hgr2 hgr3 hex
      go_wp2_with fail
      refine (HPP.out _ (hr.at hb04)).mono ?_
      rintro e w5 ⟨au, cu, rfl, heu, hb5⟩
      have hb05 := below_next hb04 hb5
      go_wp2_with fail
      refine (HPC.out _ (hr.at hb05)).mono ?_
      rintro e w6 ⟨av, cv, rfl, hev, hb6⟩
      have hb06 := below_next hb05 hb6
      have hex6 := (hex4.at hb5).at hb6
      have hey6 := (hey.at hb5).at hb6
      have heu6 := heu.at hb6
      have hE0 : errV 0 = .nilIface := rfl
      rw [← hE0]
      go_wp2_with fail
      refine (ints_any 0 au ax _ _ _ _ X X _ (hg.at hb06) rfl rfl q1 q1 heu6 hex6 (fun _ => rfl) (fun h => absurd rfl h)).mono ?_
      rintro e w7 ⟨rfl, hb7⟩
      have hb07 := below_next hb06 hb7
      go_wp2_with fail
      refine (ints_any 0 av ay _ _ _ _ Y Y _ (hg.at hb07) rfl rfl q2 q2 (hev.at hb7) (hey6.at hb7) (fun _ => rfl) (fun h => absurd rfl h)).mono ?_
      rintro e w8 ⟨rfl, hb8⟩
      go_wp2
      go_ret
      exact ⟨rfl, below_next hb07 hb8⟩
  · have HRW := fun a' cap' w' h1 => refGates_any a' _ cap' p L w' rfl hm h1
    have HPP := fun w' h1 => paths_bad a _ cap p L w' rfl hm hC h1
    have HPC := fun w' h1 => cuts_bad a _ cap p L w' rfl hm hC h1
    generalize gatesCheck p L = er at *
    have HRW := Lib.hid HRW
    have HPP := Lib.hid HPP
    have HPC := Lib.hid HPC
    have HC := Lib.hid hC
    have hz0 : (er == 0) = false := by simpa using hC
    by_cases h6 : 6 < p
    · have h10 : ¬ p ≤ 10 := by omega
      clear hmid hC
      go_enter Tryd.func5, Tryd.ntmps5
      go_wp2_with fail
      refine HG.mono ?_
      intro e w1 hw
      unfold ConvPost at hw
      obtain ⟨a', n', cap', b, rfl, h2, hb1⟩ := hw
      cases b with
      | false =>
        clear h2
        go_wp2
        go_ret
        exact ⟨rfl, hb1⟩
      | true =>
        obtain ⟨rfl, hgr, _⟩ := h2 rfl
        clear h2
        go_wp2_with fail
        refine (HRW.out a' cap' _ hgr).mono ?_
        rintro e w2 ⟨rfl, hb2⟩
        have hb02 := below_next hb1 hb2
        go_wp2_with fail
        refine (HPP.out _ (hr.at hb02)).mono ?_
        rintro e w5 ⟨rfl, hb5⟩
        have hb05 := below_next hb02 hb5
        go_wp2_with fail
        refine (HPC.out _ (hr.at hb05)).mono ?_
        rintro e w6 ⟨rfl, hb6⟩
        have hb06 := below_next hb05 hb6
        go_wp2_with fail
        refine (ints_any er none none 0 0 0 0 [] [] _ (hg.at hb06) rfl rfl (by simp) (by simp) (Or.inl rfl) (Or.inl rfl) (fun _ => rfl) (fun _ => rfl)).mono ?_
        rintro e w7 ⟨rfl, hb7⟩
        have hb07 := below_next hb06 hb7
        go_wp2_with fail
        refine (ints_any er none none 0 0 0 0 [] [] _ (hg.at hb07) rfl rfl (by simp) (by simp) (Or.inl rfl) (Or.inl rfl) (fun _ => rfl) (fun _ => rfl)).mono ?_
        rintro e w8 ⟨rfl, hb8⟩
        go_wp2
        go_ret
        exact ⟨rfl, below_next hb07 hb8⟩
    · clear hmid hC
      go_enter Tryd.func5, Tryd.ntmps5
      go_wp2_with fail
      refine HG.mono ?_
      intro e w1 hw
      unfold ConvPost at hw
      obtain ⟨a', n', cap', b, rfl, h2, hb1⟩ := hw
      cases b with
      | false =>
        clear h2
        go_wp2
        go_ret
        exact ⟨rfl, hb1⟩
      | true =>
        obtain ⟨rfl, hgr, _⟩ := h2 rfl
        clear h2
        go_wp2_with fail
        refine (HRW.out a' cap' _ hgr).mono ?_
        rintro e w2 ⟨rfl, hb2⟩
        have hb02 := below_next hb1 hb2
        go_wp2_with fail
        refine (HPP.out _ (hr.at hb02)).mono ?_
        rintro e w5 ⟨rfl, hb5⟩
        have hb05 := below_next hb02 hb5
        go_wp2_with fail
        refine (HPC.out _ (hr.at hb05)).mono ?_
        rintro e w6 ⟨rfl, hb6⟩
        have hb06 := below_next hb05 hb6
        go_wp2_with fail
        refine (ints_any er none none 0 0 0 0 [] [] _ (hg.at hb06) rfl rfl (by simp) (by simp) (Or.inl rfl) (Or.inl rfl) (fun _ => rfl) (fun _ => rfl)).mono ?_
        rintro e w7 ⟨rfl, hb7⟩
        have hb07 := below_next hb06 hb7
        go_wp2_with fail
        refine (ints_any er none none 0 0 0 0 [] [] _ (hg.at hb07) rfl rfl (by simp) (by simp) (Or.inl rfl) (Or.inl rfl) (fun _ => rfl) (fun _ => rfl)).mono ?_
        rintro e w8 ⟨rfl, hb8⟩
        go_wp2
        go_ret
        exact ⟨rfl, below_next hb07 hb8⟩
end Go.Proofs.YtfaklhkdfpfjgaaDoor
