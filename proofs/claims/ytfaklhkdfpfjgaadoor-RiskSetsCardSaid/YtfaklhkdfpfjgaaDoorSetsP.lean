/- The least paths and cuts (21.2): the program's. -/
import Derived.Test.YtfaklhkdfpfjgaaDoorRiskOn
namespace Go.Proofs.YtfaklhkdfpfjgaaDoor
open Go.RowKit
theorem cast_out {t q : Nat} (h : q ≤ t) : (t : Int) - (q : Int) = ((t - q : Nat) : Int) := by omega
theorem cast_in {N t q : Nat} (h : t < N) : (N : Int) - 1 - (t : Int) + (q : Int) = ((N - 1 - t + q : Nat) : Int) := by omega
theorem rowI1 : RowOf Tryd.prog 50 3 (.int .i64 0) 1 8 := rowOf Tryd.underlying50 (by kernel_rfl) rfl (by decide)
def pathsM (L : List GateT) (n : Nat) : List Int := selM (WS L) (fun s k => !WS L (s - 2 ^ k)) n (2 ^ n)
def cutsM (L : List GateT) (n : Nat) : List Int := selM (fun s => !WS L (2 ^ n - 1 - s)) (fun s k => WS L (2 ^ n - 1 - s + 2 ^ k)) n (2 ^ n)

set_option maxRecDepth 100000 in
set_option maxHeartbeats 8000000 in
theorem paths_ok (a : Option Addr) (m cap n : Nat) (L : List GateT) (w : World) (hl : m = L.length) (hm : m ≤ maxLen) (hn6 : n ≤ 6) (hC : gatesCheck (n : Int) L = 0) (hr : Gates w a L) :
    Calls Tryd.prog 26 #[.int .i64 n, .slice a m cap] w fun e w' => ∃ a' cap', e = .returned (.tuple #[.slice a' (pathsM L n).length cap', .nilIface]) ∧ Elems encI 1 w' a' (pathsM L n) ∧ Below w.heap.size w w' := by
  subst hl
  have HRR := Lib.hid hr
  obtain ⟨A, hA⟩ : ∃ A, A = (WS L) := ⟨_, rfl⟩
  obtain ⟨B, hB⟩ : ∃ B, B = (fun s k => !WS L (s - 2 ^ k)) := ⟨_, rfl⟩
  obtain ⟨N, hN⟩ : ∃ N, N = 2 ^ n := ⟨_, rfl⟩
  have hN64 : N ≤ 64 := by
    have : 2 ^ n ≤ 2 ^ 6 := Nat.pow_le_pow_right (by omega) hn6
    omega
  have hN1 : 1 ≤ N := by rw [hN]; exact Nat.two_pow_pos n
  have HCALL : Hid (∀ w' (z : Int) (s : Nat), z = (s : Int) → s < N → Gates w' a L → Calls Tryd.prog 70 #[.slice a L.length cap, .int .i64 n, .int .i64 z] w' fun e w'' => e = .returned (.bool (WS L s)) ∧ Below w'.heap.size w' w'') :=
    Lib.hid (fun w' z s hz hs hg => by
      subst hz
      exact on_any a _ cap n s L w' rfl hC (by rw [← hN]; exact hs) hg)
  have HXS : Hid (pathsM L n = selM A B n N) := Lib.hid (by rw [hA, hB, hN]; rfl)
  have HA : Hid (∀ t, t < N → A t = (WS L t)) := Lib.hid (fun t _ => by simp only [hA, hN])
  have HBB : Hid (∀ t k q, q = 2 ^ k → B t k = (!WS L (t - q))) := Lib.hid (fun t k q hq => by simp only [hB, hN, hq])
  have HBIT : Hid (∀ t k : Nat, bits .and .i64 ((t : Int) / 2 ^ k) 1 = if bitB t k = true then 1 else 0) := Lib.hid (fun t k => bit_and t k)
  have HOUT : Hid (∀ t k q : Nat, t < N → k < n → q = 2 ^ k → bitB t k = true → bits .andNot .i64 (t : Int) (q : Int) = (t : Int) - (q : Int) ∧ q ≤ t) := Lib.hid (fun t k q ht hk hq hb => by
    have h := bit_out (s := t) (k := k) (by omega) (by omega) hb
    rw [← hq] at h
    refine ⟨?_, h.2⟩
    rw [h.1]; omega)
  have hNn2 : (2 : Int) ^ n = (N : Int) := by rw [hN]; push_cast; rfl
  have hNw : IntKind.i64.wrap (2 ^ n) = (N : Int) := by rw [hNn2]; exact IntWalk.i64_in _ (by omega)
  have hNw2 : wrap64 (2 ^ n) = (N : Int) := by rw [hNn2]; exact IntWalk.wrap64_in _ (by omega)
  clear hNn2
  have HCHK := Lib.hid (riskChk_any a _ cap (n : Int) L w rfl hm hr)
  rw [hC, show errV 0 = .nilIface from rfl] at HCHK
  rw [HXS.out]
  clear hA hB hN hC hr
  go_enter Tryd.func26, Tryd.ntmps26
  go_wp2_with fail
  refine HCHK.out.mono ?_
  rintro e w0 ⟨rfl, hb0⟩
  clear HCHK
  go_wp2
  go_loopw [7, 19] (fun ov iv wr => ∃ (t : Nat) (v : Value), v = ov ∧ t ≤ N ∧ iv = .int .i64 t ∧ wr.ownsRow w.heap.size 3 1 v (selM A B n t).length ((selM A B n t).map (Value.int .i64)) ∧ Below w.heap.size w wr) (fun _ iv _ => N - (intOf iv).toNat)
  case atStart => exact ⟨0, _, rfl, by omega, rfl, World.ownsRow_nil _ _ _ _, hb0⟩
  case round =>
    obtain ⟨t, v, rfl, ht, rfl, hown, hb⟩ := hrel
    clear hb0
    by_cases hlt : t < N
    · have hlen := sel_len A B n t
      have HS := Lib.hid (sel_succ A B n t)
      have hz1 : (t : Int) = ((t : Nat) : Int) := by omega
      have HC1 := Lib.hid (HCALL.out wr (t : Int) t hz1 (by omega) (HRR.out.at hb))
      clear hz1
      have hAt := HA.out t hlt
      cases hc1 : WS L t with
      | false =>
        rw [hc1] at HC1 hAt
        have HI : Hid ((A t && inner B t n) = false) := Lib.hid (by rw [hAt]; rfl)
        clear hAt hc1
        go_wp2_with fail
        refine HC1.out.mono ?_
        rintro e wr2 ⟨rfl, hb2⟩
        have hb3 := below_next hb hb2
        have hown3 := owns_at hown hb2
        have hown5 : wr2.ownsRow w.heap.size 3 1 v (selM A B n (t + 1)).length ((selM A B n (t + 1)).map (Value.int .i64)) := by
          rw [HS.out, HI.out, if_neg (by simp), List.append_nil]; exact hown3
        clear hown3 hown hb hb2
        go_wp2
        exact ⟨⟨t + 1, _, rfl, by omega, by go_num, hown5, hb3⟩, by simp [intOf]; omega⟩
      | true =>
        rw [hc1] at HC1 hAt
        have HAT : Hid (A t = true) := Lib.hid (by simp [hAt])
        clear hAt hc1
        go_wp2_with fail
        refine HC1.out.mono ?_
        rintro e w2 ⟨rfl, hb2⟩
        have hb3 := below_next hb hb2
        have hown3 := owns_at hown hb2
        clear hown hb hb2
        go_wp2
        go_loopw [9, 28] (fun lv iv wr2 => ∃ k : Nat, k ≤ n ∧ iv = .int .i64 k ∧ lv = .bool (inner B t k) ∧ wr2.ownsRow w.heap.size 3 1 v (selM A B n t).length ((selM A B n t).map (Value.int .i64)) ∧ Below w.heap.size w wr2) (fun _ iv _ => n - (intOf iv).toNat)
        case atStart => exact ⟨0, by omega, rfl, rfl, hown3, hb3⟩
        case round =>
          clear hown3 hb3
          obtain ⟨k, hk, rfl, rfl, hown3, hb3⟩ := hrel
          have hbs3 := hb3.size
          by_cases hkn : k < n
          · have HIS := Lib.hid (inner_succ B t k)
            cases hik : inner B t k with
            | false =>
              have HI2 : Hid (false = inner B t (k + 1)) := Lib.hid (by rw [HIS.out, hik]; rfl)
              clear hik HIS
              go_wp2
              exact ⟨⟨k + 1, by omega, by go_num, by rw [← HI2.out], hown3, hb3⟩, by simp [intOf]; omega⟩
            | true =>
              obtain ⟨q, hq⟩ : ∃ q, q = 2 ^ k := ⟨_, rfl⟩
              have hq2 : (2 : Int) ^ k = (q : Int) := by rw [hq]; push_cast; rfl
              have hq6 : q ≤ 64 := by
                have : 2 ^ k ≤ 2 ^ 6 := Nat.pow_le_pow_right (by omega) (by omega)
                omega
              have hq3 : IntKind.i64.wrap (2 ^ k) = (q : Int) := by rw [hq2]; exact IntWalk.i64_in _ (by omega)
              have hq4 : wrap64 (2 ^ k) = (q : Int) := by rw [hq2]; exact IntWalk.wrap64_in _ (by omega)
              clear hq2
              have hbit := HBIT.out t k
              have hBt := HBB.out t k q hq
              cases hbk : bitB t k with
              | false =>
                rw [hbk, if_neg (by simp)] at hbit
                have HI2 : Hid (true = inner B t (k + 1)) := Lib.hid (by rw [HIS.out, hik, hbk]; rfl)
                clear hik HIS hbk hBt hq
                go_wp2
                exact ⟨⟨k + 1, by omega, by go_num, by rw [← HI2.out], hown3, hb3⟩, by simp [intOf]; omega⟩
              | true =>
                rw [hbk, if_pos rfl] at hbit
                obtain ⟨hor, hle⟩ := HOUT.out t k q hlt hkn hq hbk
                have hz2 : ((t : Int) - (q : Int)) = (((t - q) : Nat) : Int) := cast_out hle
                have HC2 := Lib.hid (HCALL.out wr ((t : Int) - (q : Int)) (t - q) hz2 (Nat.lt_of_le_of_lt (Nat.sub_le _ _) hlt) (HRR.out.at hb3))
                have HI2 : Hid ((!WS L (t - q)) = inner B t (k + 1)) := Lib.hid (by rw [HIS.out, hik, hbk, hBt]; simp)
                clear hik HIS hbk hBt hq hz2
                generalize WS L (t - q) = c2 at *
                go_wp2_with fail
                refine HC2.out.mono ?_
                rintro e w4 ⟨rfl, hb4⟩
                have hb5 := below_next hb3 hb4
                have hown5 := owns_at hown3 hb4
                clear hown3 hb3 hb4 hbs3
                cases c2 with
                | true =>
                  go_wp2
                  exact ⟨⟨k + 1, by omega, by go_num, congrArg Value.bool HI2.out, hown5, hb5⟩, by simp [intOf]; omega⟩
                | false =>
                  go_wp2
                  exact ⟨⟨k + 1, by omega, by go_num, congrArg Value.bool HI2.out, hown5, hb5⟩, by simp [intOf]; omega⟩
          · obtain rfl : k = n := by omega
            cases hik : inner B t k with
            | true =>
              have HI : Hid ((A t && inner B t k) = true) := Lib.hid (by rw [HAT.out, hik]; rfl)
              clear hik
              go_wp2_with (at_builtin; (refine app_row rowI1 rfl _ _ rfl w.heap.size rfl hown3 [.int .i64 (t : Int)] rfl (by first | rfl | simp) rfl (encI_one _) (by unfold maxLen; omega) (by omega) hbs3 ?_))
              intro v' w4 hown4 hb4
              have hown5 : w4.ownsRow w.heap.size 3 1 v' (selM A B k (t + 1)).length ((selM A B k (t + 1)).map (Value.int .i64)) := by
                rw [HS.out, HI.out, if_pos rfl, List.map_append, List.length_append]; exact hown4
              have hb5 := hb3.trans hb4
              clear hown4 hb4 hown3 hb3
              go_wp2
              exact ⟨⟨t + 1, _, rfl, by omega, by go_num, hown5, hb5⟩, by simp [intOf]; omega⟩

            | false =>
              have HI : Hid ((A t && inner B t k) = false) := Lib.hid (by rw [HAT.out, hik]; rfl)
              clear hik
              have hown5 : wr.ownsRow w.heap.size 3 1 v (selM A B k (t + 1)).length ((selM A B k (t + 1)).map (Value.int .i64)) := by
                rw [HS.out, HI.out, if_neg (by simp), List.append_nil]; exact hown3
              clear hown3
              go_wp2
              exact ⟨⟨t + 1, _, rfl, by omega, by go_num, hown5, hb3⟩, by simp [intOf]; omega⟩

    · obtain rfl : t = N := by omega
      obtain ⟨a', cap', rfl, he, _⟩ := ints_of_owns rfl hown
      have HE := Lib.hid he
      clear hown he
      go_wp2
      go_ret2
      exact ⟨_, _, rfl, HE.out, hb⟩

set_option maxRecDepth 100000 in
set_option maxHeartbeats 8000000 in
theorem cuts_ok (a : Option Addr) (m cap n : Nat) (L : List GateT) (w : World) (hl : m = L.length) (hm : m ≤ maxLen) (hn6 : n ≤ 6) (hC : gatesCheck (n : Int) L = 0) (hr : Gates w a L) :
    Calls Tryd.prog 27 #[.int .i64 n, .slice a m cap] w fun e w' => ∃ a' cap', e = .returned (.tuple #[.slice a' (cutsM L n).length cap', .nilIface]) ∧ Elems encI 1 w' a' (cutsM L n) ∧ Below w.heap.size w w' := by
  subst hl
  have HRR := Lib.hid hr
  obtain ⟨A, hA⟩ : ∃ A, A = (fun s => !WS L (2 ^ n - 1 - s)) := ⟨_, rfl⟩
  obtain ⟨B, hB⟩ : ∃ B, B = (fun s k => WS L (2 ^ n - 1 - s + 2 ^ k)) := ⟨_, rfl⟩
  obtain ⟨N, hN⟩ : ∃ N, N = 2 ^ n := ⟨_, rfl⟩
  have hN64 : N ≤ 64 := by
    have : 2 ^ n ≤ 2 ^ 6 := Nat.pow_le_pow_right (by omega) hn6
    omega
  have hN1 : 1 ≤ N := by rw [hN]; exact Nat.two_pow_pos n
  have HCALL : Hid (∀ w' (z : Int) (s : Nat), z = (s : Int) → s < N → Gates w' a L → Calls Tryd.prog 70 #[.slice a L.length cap, .int .i64 n, .int .i64 z] w' fun e w'' => e = .returned (.bool (WS L s)) ∧ Below w'.heap.size w' w'') :=
    Lib.hid (fun w' z s hz hs hg => by
      subst hz
      exact on_any a _ cap n s L w' rfl hC (by rw [← hN]; exact hs) hg)
  have HXS : Hid (cutsM L n = selM A B n N) := Lib.hid (by rw [hA, hB, hN]; rfl)
  have HA : Hid (∀ t, t < N → A t = (!WS L (N - 1 - t))) := Lib.hid (fun t _ => by simp only [hA, hN])
  have HBB : Hid (∀ t k q, q = 2 ^ k → B t k = (WS L (N - 1 - t + q))) := Lib.hid (fun t k q hq => by simp only [hB, hN, hq])
  have HBIT : Hid (∀ t k : Nat, bits .and .i64 ((t : Int) / 2 ^ k) 1 = if bitB t k = true then 1 else 0) := Lib.hid (fun t k => bit_and t k)
  have HOUT : Hid (∀ t k q : Nat, t < N → k < n → q = 2 ^ k → bitB t k = true → bits .or .i64 ((N : Int) - 1 - (t : Int)) (q : Int) = (N : Int) - 1 - (t : Int) + (q : Int) ∧ N - 1 - t + q < N) := Lib.hid (fun t k q ht hk hq hb => by
    have h := bit_in (s := t) (n := n) (k := k) (by omega) (by rw [← hN]; exact ht) hk hb
    rw [← hN, ← hq] at h
    refine ⟨?_, h.2⟩
    have h1 := h.1
    rw [show ((N - 1 - t : Nat) : Int) = (N : Int) - 1 - (t : Int) by omega] at h1
    rw [h1]; omega)
  have HALL : Hid (∀ t : Nat, t < N → bits .andNot .i64 ((N : Int) - 1) (t : Int) = (N : Int) - 1 - (t : Int)) := Lib.hid (fun t ht => by
    have h := all_out (s := t) (n := n) (by omega) (by rw [← hN]; exact ht)
    rw [← hN] at h
    rw [show ((N - 1 : Nat) : Int) = (N : Int) - 1 by omega] at h
    rw [h]; omega)
  have hNn2 : (2 : Int) ^ n = (N : Int) := by rw [hN]; push_cast; rfl
  have hNw : IntKind.i64.wrap (2 ^ n) = (N : Int) := by rw [hNn2]; exact IntWalk.i64_in _ (by omega)
  have hNw2 : wrap64 (2 ^ n) = (N : Int) := by rw [hNn2]; exact IntWalk.wrap64_in _ (by omega)
  clear hNn2
  have HCHK := Lib.hid (riskChk_any a _ cap (n : Int) L w rfl hm hr)
  rw [hC, show errV 0 = .nilIface from rfl] at HCHK
  rw [HXS.out]
  clear hA hB hN hC hr
  go_enter Tryd.func27, Tryd.ntmps27
  go_wp2_with fail
  refine HCHK.out.mono ?_
  rintro e w0 ⟨rfl, hb0⟩
  clear HCHK
  go_wp2
  go_loopw [8, 23] (fun ov iv wr => ∃ (t : Nat) (v : Value), v = ov ∧ t ≤ N ∧ iv = .int .i64 t ∧ wr.ownsRow w.heap.size 3 1 v (selM A B n t).length ((selM A B n t).map (Value.int .i64)) ∧ Below w.heap.size w wr) (fun _ iv _ => N - (intOf iv).toNat)
  case atStart => exact ⟨0, _, rfl, by omega, rfl, World.ownsRow_nil _ _ _ _, hb0⟩
  case round =>
    obtain ⟨t, v, rfl, ht, rfl, hown, hb⟩ := hrel
    clear hb0
    by_cases hlt : t < N
    · have hlen := sel_len A B n t
      have HS := Lib.hid (sel_succ A B n t)
      have hz1 : ((N : Int) - 1 - (t : Int)) = (((N - 1 - t) : Nat) : Int) := by omega
      have HC1 := Lib.hid (HCALL.out wr ((N : Int) - 1 - (t : Int)) (N - 1 - t) hz1 (by omega) (HRR.out.at hb))
      clear hz1
      have hAt := HA.out t hlt
      have hall := HALL.out t hlt
      cases hc1 : WS L (N - 1 - t) with
      | true =>
        rw [hc1] at HC1 hAt
        have HI : Hid ((A t && inner B t n) = false) := Lib.hid (by rw [hAt]; rfl)
        clear hAt hc1
        go_wp2_with fail
        refine HC1.out.mono ?_
        rintro e wr2 ⟨rfl, hb2⟩
        have hb3 := below_next hb hb2
        have hown3 := owns_at hown hb2
        have hown5 : wr2.ownsRow w.heap.size 3 1 v (selM A B n (t + 1)).length ((selM A B n (t + 1)).map (Value.int .i64)) := by
          rw [HS.out, HI.out, if_neg (by simp), List.append_nil]; exact hown3
        clear hown3 hown hb hb2
        go_wp2
        exact ⟨⟨t + 1, _, rfl, by omega, by go_num, hown5, hb3⟩, by simp [intOf]; omega⟩
      | false =>
        rw [hc1] at HC1 hAt
        have HAT : Hid (A t = true) := Lib.hid (by simp [hAt])
        clear hAt hc1
        go_wp2_with fail
        refine HC1.out.mono ?_
        rintro e w2 ⟨rfl, hb2⟩
        have hb3 := below_next hb hb2
        have hown3 := owns_at hown hb2
        clear hown hb hb2
        go_wp2
        go_loopw [10, 33] (fun lv iv wr2 => ∃ k : Nat, k ≤ n ∧ iv = .int .i64 k ∧ lv = .bool (inner B t k) ∧ wr2.ownsRow w.heap.size 3 1 v (selM A B n t).length ((selM A B n t).map (Value.int .i64)) ∧ Below w.heap.size w wr2) (fun _ iv _ => n - (intOf iv).toNat)
        case atStart => exact ⟨0, by omega, rfl, rfl, hown3, hb3⟩
        case round =>
          clear hown3 hb3
          obtain ⟨k, hk, rfl, rfl, hown3, hb3⟩ := hrel
          have hbs3 := hb3.size
          by_cases hkn : k < n
          · have HIS := Lib.hid (inner_succ B t k)
            cases hik : inner B t k with
            | false =>
              have HI2 : Hid (false = inner B t (k + 1)) := Lib.hid (by rw [HIS.out, hik]; rfl)
              clear hik HIS
              go_wp2
              exact ⟨⟨k + 1, by omega, by go_num, by rw [← HI2.out], hown3, hb3⟩, by simp [intOf]; omega⟩
            | true =>
              obtain ⟨q, hq⟩ : ∃ q, q = 2 ^ k := ⟨_, rfl⟩
              have hq2 : (2 : Int) ^ k = (q : Int) := by rw [hq]; push_cast; rfl
              have hq6 : q ≤ 64 := by
                have : 2 ^ k ≤ 2 ^ 6 := Nat.pow_le_pow_right (by omega) (by omega)
                omega
              have hq3 : IntKind.i64.wrap (2 ^ k) = (q : Int) := by rw [hq2]; exact IntWalk.i64_in _ (by omega)
              have hq4 : wrap64 (2 ^ k) = (q : Int) := by rw [hq2]; exact IntWalk.wrap64_in _ (by omega)
              clear hq2
              have hbit := HBIT.out t k
              have hBt := HBB.out t k q hq
              cases hbk : bitB t k with
              | false =>
                rw [hbk, if_neg (by simp)] at hbit
                have HI2 : Hid (true = inner B t (k + 1)) := Lib.hid (by rw [HIS.out, hik, hbk]; rfl)
                clear hik HIS hbk hBt hq
                go_wp2
                exact ⟨⟨k + 1, by omega, by go_num, by rw [← HI2.out], hown3, hb3⟩, by simp [intOf]; omega⟩
              | true =>
                rw [hbk, if_pos rfl] at hbit
                obtain ⟨hor, hle⟩ := HOUT.out t k q hlt hkn hq hbk
                have hz2 : ((N : Int) - 1 - (t : Int) + (q : Int)) = (((N - 1 - t + q) : Nat) : Int) := cast_in hlt
                have HC2 := Lib.hid (HCALL.out wr ((N : Int) - 1 - (t : Int) + (q : Int)) (N - 1 - t + q) hz2 hle (HRR.out.at hb3))
                have HI2 : Hid ((WS L (N - 1 - t + q)) = inner B t (k + 1)) := Lib.hid (by rw [HIS.out, hik, hbk, hBt]; simp)
                clear hik HIS hbk hBt hq hz2
                generalize WS L (N - 1 - t + q) = c2 at *
                go_wp2_with fail
                refine HC2.out.mono ?_
                rintro e w4 ⟨rfl, hb4⟩
                have hb5 := below_next hb3 hb4
                have hown5 := owns_at hown3 hb4
                clear hown3 hb3 hb4 hbs3
                cases c2 with
                | true =>
                  go_wp2
                  exact ⟨⟨k + 1, by omega, by go_num, congrArg Value.bool HI2.out, hown5, hb5⟩, by simp [intOf]; omega⟩
                | false =>
                  go_wp2
                  exact ⟨⟨k + 1, by omega, by go_num, congrArg Value.bool HI2.out, hown5, hb5⟩, by simp [intOf]; omega⟩
          · obtain rfl : k = n := by omega
            cases hik : inner B t k with
            | true =>
              have HI : Hid ((A t && inner B t k) = true) := Lib.hid (by rw [HAT.out, hik]; rfl)
              clear hik
              go_wp2_with (at_builtin; (refine app_row rowI1 rfl _ _ rfl w.heap.size rfl hown3 [.int .i64 (t : Int)] rfl (by first | rfl | simp) rfl (encI_one _) (by unfold maxLen; omega) (by omega) hbs3 ?_))
              intro v' w4 hown4 hb4
              have hown5 : w4.ownsRow w.heap.size 3 1 v' (selM A B k (t + 1)).length ((selM A B k (t + 1)).map (Value.int .i64)) := by
                rw [HS.out, HI.out, if_pos rfl, List.map_append, List.length_append]; exact hown4
              have hb5 := hb3.trans hb4
              clear hown4 hb4 hown3 hb3
              go_wp2
              exact ⟨⟨t + 1, _, rfl, by omega, by go_num, hown5, hb5⟩, by simp [intOf]; omega⟩

            | false =>
              have HI : Hid ((A t && inner B t k) = false) := Lib.hid (by rw [HAT.out, hik]; rfl)
              clear hik
              have hown5 : wr.ownsRow w.heap.size 3 1 v (selM A B k (t + 1)).length ((selM A B k (t + 1)).map (Value.int .i64)) := by
                rw [HS.out, HI.out, if_neg (by simp), List.append_nil]; exact hown3
              clear hown3
              go_wp2
              exact ⟨⟨t + 1, _, rfl, by omega, by go_num, hown5, hb3⟩, by simp [intOf]; omega⟩

    · obtain rfl : t = N := by omega
      obtain ⟨a', cap', rfl, he, _⟩ := ints_of_owns rfl hown
      have HE := Lib.hid he
      clear hown he
      go_wp2
      go_ret2
      exact ⟨_, _, rfl, HE.out, hb⟩
end Go.Proofs.YtfaklhkdfpfjgaaDoor
