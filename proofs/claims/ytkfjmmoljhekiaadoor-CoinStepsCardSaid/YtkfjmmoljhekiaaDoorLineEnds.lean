/- When each task is at its end: line.Ends and the reference's Ends. -/
import Derived.Test.YtkfjmmoljhekiaaDoorLineChk
import Derived.Test.YtkfjmmoljhekiaaDoorLineOrd
import Derived.BigRegion
namespace Go.Proofs.YtkfjmmoljhekiaaDoor
open Go.RowKit
theorem rowN : RowOf Tryd.prog 27 3 (.int .i64 0) 1 8 := rowOf Tryd.underlying27 (by kernel_rfl) rfl (by decide)

set_option maxRecDepth 100000 in
set_option maxHeartbeats 4000000 in
theorem ends_any (a a2 : Option Addr) (n n2 cap cap2 : Nat) (xs : List R3) (row : List Int) (w : World) (hl : n = xs.length) (hl2 : n2 = row.length) (hn : xs.length ≤ 100) (hn2 : row.length ≤ 100) (hx : Elems enc3 3 w a xs) (hr : Elems encI 1 w a2 row) :
    Calls Tryd.prog 34 #[.slice a n cap, .slice a2 n2 cap2] w fun e w' => ∃ a' n' cap' ys, e = .returned (.tuple #[.slice a' n' cap', errV (endsErr xs row)]) ∧ n' = List.length ys ∧ Elems encI 1 w' a' ys ∧
      (endsErr xs row = 0 → ys = outM xs row row.length) ∧ (endsErr xs row ≠ 0 → ys = []) ∧ Below w.heap.size w w' := by
  subst hl; subst hl2
  by_cases hC : tasksCheck xs = 0
  case neg =>
    have hE : endsErr xs row = tasksCheck xs := if_pos hC
    have hne : endsErr xs row ≠ 0 := by rw [hE]; exact hC
    have hV : errV (tasksCheck xs) = .iface 25 (.int .i64 (tasksCheck xs)) := if_neg hC
    have HE := Lib.hid hE
    have HN := Lib.hid hne
    have HV := Lib.hid hV
    clear hC hE hne hV
    go_enter Tryd.func34, Tryd.ntmps34
    go_wp2_with (go_at_call 28; refine (lcheck_any _ _ _ xs _ rfl (by unfold maxLen; omega) hx).mono ?_; rintro e w1 ⟨rfl, hb1⟩; rw [HV.out])
    go_ret2
    exact ⟨none, 0, 0, [], by rw [HE.out, HV.out]; rfl, rfl, Or.inl rfl, fun h => absurd h HN.out, fun _ => rfl, hb1⟩
  have hlen := tasks_ok_len hC
  have hV : errV (tasksCheck xs) = .nilIface := if_pos hC
  have hEE : endsErr xs row = orderM row xs.length := if_neg (by simp [hC])
  by_cases hO : orderM row xs.length = 0
  case neg =>
    have hV2 : errV (orderM row xs.length) = .iface 25 (.int .i64 (orderM row xs.length)) := if_neg hO
    have HV := Lib.hid hV
    have HV2 := Lib.hid hV2
    have HE := Lib.hid hEE
    have HN := Lib.hid hO
    clear hC hV hEE hV2 hO
    go_enter Tryd.func34, Tryd.ntmps34
    go_wp2_with (go_at_call 28; refine (lcheck_any _ _ _ xs _ rfl (by unfold maxLen; omega) hx).mono ?_; rintro e w1 ⟨rfl, hb1⟩; rw [HV.out])
    refine (order_any _ _ _ _ row _ rfl (by omega) (hr.at hb1)).mono ?_
    rintro e w2 ⟨rfl, hb2⟩
    rw [HV2.out]
    go_wp2
    go_ret2
    exact ⟨none, 0, 0, [], by rw [HE.out, HV2.out]; rfl, rfl, Or.inl rfl, fun h => absurd (HE.out.symm.trans h) HN.out, fun _ => rfl, below_next hb1 hb2⟩
  obtain ⟨hrl, hok⟩ := order_ok hO
  have hE : endsErr xs row = 0 := hEE.trans hO
  have hV2 : errV (orderM row xs.length) = .nilIface := if_pos hO
  have HV := Lib.hid hV
  have HV2 := Lib.hid hV2
  have HE := Lib.hid hE
  have HOK := Lib.hid hok
  clear hC hV hEE hV2 hO hE hok
  suffices h : Calls Tryd.prog 34 #[.slice a xs.length cap, .slice a2 row.length cap2] w fun e w' => ∃ a' n' cap' ys, e = .returned (.tuple #[.slice a' n' cap', .nilIface]) ∧ n' = List.length ys ∧ Elems encI 1 w' a' ys ∧ ys = outM xs row row.length ∧ Below w.heap.size w w' by
    refine h.mono ?_
    rintro e w' ⟨a', n', cap', ys, h1, h2, h3, h4, h5⟩
    exact ⟨a', n', cap', ys, by rw [HE.out]; exact h1, h2, h3, fun _ => h4, fun h => absurd HE.out h, h5⟩
  clear HE
  go_enter Tryd.func34, Tryd.ntmps34
  go_wp2_with (first | (go_at_call 28; refine (lcheck_any _ _ _ xs _ rfl (by unfold maxLen; omega) hx).mono ?_; rintro e w1 ⟨rfl, hb1⟩; rw [HV.out]) | (at_make; refine make_row _ rowN rfl _ _ rfl w.heap.size _ _ _ _ xs.length rfl rfl rfl rfl (by omega) (by unfold maxLen; omega) hb1.size ?_))
  refine (order_any _ _ _ _ row _ rfl (by omega) (hr.at hb1)).mono ?_
  rintro e w2 ⟨rfl, hb2⟩
  rw [HV2.out]
  have hb02 := below_next hb1 hb2
  clear HV HV2
  go_wp2_with (at_make; refine make_row _ rowN rfl _ _ rfl w.heap.size _ _ _ _ xs.length rfl rfl rfl rfl (by omega) (by unfold maxLen; omega) hb02.size ?_)
  intro w3 hown hb3
  rw [made_ints xs.length, show List.replicate xs.length (0 : Int) = outM xs row 0 from rfl] at hown
  have hb := hb02.trans hb3
  have hg1 := hb02.size
  have hg2 := (owns_base hown).2
  clear hb1 hb2 hb3 hb02
  generalize w2.heap.size = g at *
  clear w2 w1
  go_wp2
  go_loopw [9, 29] (fun nv i wr => ∃ k : Nat, k ≤ row.length ∧ i = .int .i64 k ∧ nv = .int .i64 (nowM xs row k) ∧ wr.ownsRow w.heap.size 3 1 (.slice (some ⟨g, 0, none⟩) xs.length xs.length) xs.length ((outM xs row k).map (Value.int .i64)) ∧ Below w.heap.size w wr) (fun _ i _ => row.length - (intOf i).toNat)
  case atStart => exact ⟨0, by omega, rfl, rfl, hown, hb⟩
  case round =>
    clear hown hb
    obtain ⟨k, hk, rfl, rfl, hown, hb⟩ := hrel
    by_cases hlt : k < row.length
    · obtain ⟨b2, o2, rfl, hc2⟩ := hr.some hlt
      have h1 := (hb.cell (lt_of_cell (hc2 k hlt 0 _ rfl))).trans (hc2 k hlt 0 _ rfl)
      simp only [Nat.add_zero, Nat.mul_one] at h1
      obtain ⟨p1, p2, p3⟩ := HOK.out k hlt
      obtain ⟨x, hxv⟩ := Int.eq_ofNat_of_zero_le p1
      have hxx : x < xs.length := by omega
      obtain ⟨b, o, rfl, hc⟩ := hx.some hxx
      have h2 := (hb.cell (lt_of_cell (hc x hxx 0 _ rfl))).trans (hc x hxx 0 _ rfl)
      simp only [Nat.add_zero] at h2
      have hN : nowM xs row (k + 1) = wrap64 (nowM xs row k + xs[x].1) := by
        show wrap64 _ = _
        rw [getD_lt hlt, hxv]
        simp [longOf, List.getD, hxx]
      have hS : outM xs row (k + 1) = (outM xs row k).set x (nowM xs row (k + 1)) := by
        show List.set _ _ _ = _
        rw [getD_lt hlt, hxv]
        rfl
      have HN := Lib.hid hN
      have hset := owns_set hown x (nowM xs row (k + 1))
      rw [← hS, hN] at hset
      have hfz := hown.frozenAt x
      have h3 := owns_get hown x (by omega) (by rw [outM_len]; exact hxx)
      generalize (outM xs row k)[x]'(by rw [outM_len]; exact hxx) = ov at h3
      rw [hxv] at h1
      have hlq := Lib.hid (outM_len xs row k)
      clear hc hc2 hx hr hS hN p1 p2 p3 hown hxv HOK
      obtain ⟨O2, hO2⟩ : ∃ O2, O2 = outM xs row (k + 1) := ⟨_, rfl⟩
      rw [← hO2] at hset
      have HO2 := Lib.hid hO2
      clear hO2
      generalize nowM xs row k = N1 at *
      go_wp2_with fail
      exact ⟨⟨k + 1, by omega, by go_num, by rw [HN.out], by rw [← HO2.out]; exact hset, hb.setCell hg1 _⟩, by simp [intOf]; omega⟩
    · obtain rfl : k = row.length := by omega
      obtain ⟨a', cap', he0, he, _⟩ := ints_of_owns (outM_len _ _ _).symm hown
      obtain ⟨rfl, _, rfl⟩ := Value.slice.inj he0
      clear hx hr hown HOK
      go_wp2
      go_ret2
      exact ⟨_, _, _, _, rfl, (outM_len _ _ _).symm, he, rfl, hb⟩

set_option maxRecDepth 100000 in
set_option maxHeartbeats 4000000 in
theorem refEnds_any (a a2 : Option Addr) (n n2 cap cap2 : Nat) (xs : List R3) (row : List Int) (w : World) (hl : n = xs.length) (hl2 : n2 = row.length) (hn : xs.length ≤ 100) (hn2 : row.length ≤ 100) (hx : Elems enc3 3 w a xs) (hr : Elems encI 1 w a2 row) (hcap : n2 ≤ cap2) :
    Calls Tryd.prog 33 #[.slice a n cap, .slice a2 n2 cap2] w fun e w' => ∃ a' n' cap' ys, e = .returned (.tuple #[.slice a' n' cap', .int .i64 (endsErr xs row)]) ∧ n' = List.length ys ∧ Elems encI 1 w' a' ys ∧
      (endsErr xs row = 0 → ys = outM xs row row.length) ∧ (endsErr xs row ≠ 0 → ys = []) ∧ Below w.heap.size w w' := by
  subst hl; subst hl2
  by_cases hC : tasksCheck xs = 0
  case neg =>
    have hE : endsErr xs row = tasksCheck xs := if_pos hC
    have hne : endsErr xs row ≠ 0 := by rw [hE]; exact hC
    have hd : (tasksCheck xs != 0) = true := by simpa using hC
    have HE := Lib.hid hE
    have HN := Lib.hid hne
    clear hC hE hne
    go_enter Tryd.func33, Tryd.ntmps33
    go_wp2_with fail
    refine (lrefCheck_any _ _ _ xs _ rfl (by unfold maxLen; omega) hx).mono ?_
    rintro e w1 ⟨rfl, hb1⟩
    go_wp2
    go_ret2
    exact ⟨none, 0, 0, [], by rw [HE.out]; rfl, rfl, Or.inl rfl, fun h => absurd h HN.out, fun _ => rfl, hb1⟩
  have hlen := tasks_ok_len hC
  have hEE : endsErr xs row = orderM row xs.length := if_neg (by simp [hC])
  by_cases hO : orderM row xs.length = 0
  case neg =>
    have hd : (orderM row xs.length != 0) = true := by simpa using hO
    have HE := Lib.hid hEE
    have HN := Lib.hid hO
    have HC := Lib.hid hC
    clear hC hEE hO
    go_enter Tryd.func33, Tryd.ntmps33
    go_wp2_with fail
    refine (lrefCheck_any _ _ _ xs _ rfl (by unfold maxLen; omega) hx).mono ?_
    rintro e w1 ⟨rfl, hb1⟩
    rw [HC.out]
    go_wp2_with fail
    refine (refOrder_any _ _ _ _ row _ rfl (by omega) (hr.at hb1) hcap).mono ?_
    rintro e w2 ⟨rfl, hb2⟩
    go_wp2
    go_ret2
    exact ⟨none, 0, 0, [], by rw [HE.out]; rfl, rfl, Or.inl rfl, fun h => absurd (HE.out.symm.trans h) HN.out, fun _ => rfl, below_next hb1 hb2⟩
  obtain ⟨hrl, hok⟩ := order_ok hO
  have hE : endsErr xs row = 0 := hEE.trans hO
  have HE := Lib.hid hE
  have HC := Lib.hid hC
  have HO := Lib.hid hO
  have HOK := Lib.hid hok
  clear hC hEE hO hE hok
  suffices h : Calls Tryd.prog 33 #[.slice a xs.length cap, .slice a2 row.length cap2] w fun e w' => ∃ a' n' cap' ys, e = .returned (.tuple #[.slice a' n' cap', .int .i64 0]) ∧ n' = List.length ys ∧ Elems encI 1 w' a' ys ∧ ys = outM xs row row.length ∧ Below w.heap.size w w' by
    refine h.mono ?_
    rintro e w' ⟨a', n', cap', ys, h1, h2, h3, h4, h5⟩
    exact ⟨a', n', cap', ys, by rw [HE.out]; exact h1, h2, h3, fun _ => h4, fun h => absurd HE.out h, h5⟩
  clear HE
  go_enter Tryd.func33, Tryd.ntmps33
  go_wp2_with fail
  refine (lrefCheck_any _ _ _ xs _ rfl (by unfold maxLen; omega) hx).mono ?_
  rintro e w1 ⟨rfl, hb1⟩
  rw [HC.out]
  go_wp2_with fail
  refine (refOrder_any _ _ _ _ row _ rfl (by omega) (hr.at hb1) hcap).mono ?_
  rintro e w2 ⟨rfl, hb2⟩
  rw [HO.out]
  have hb02 := below_next hb1 hb2
  clear HC HO
  go_wp2_with (at_make; refine make_row _ rowN rfl _ _ rfl w.heap.size _ _ _ _ xs.length rfl rfl rfl rfl (by omega) (by unfold maxLen; omega) hb02.size ?_)
  intro w3 hown hb3
  rw [made_ints xs.length, show List.replicate xs.length (0 : Int) = outM xs row 0 from rfl] at hown
  have hb := hb02.trans hb3
  have hg1 := hb02.size
  have hg2 := (owns_base hown).2
  clear hb1 hb2 hb3 hb02
  generalize w2.heap.size = g at *
  clear w2 w1
  go_wp2
  go_loopw [29] (fun i wr => ∃ k : Nat, k ≤ row.length ∧ i = .int .i64 k ∧ wr.ownsRow w.heap.size 3 1 (.slice (some ⟨g, 0, none⟩) xs.length xs.length) xs.length ((outM xs row k).map (Value.int .i64)) ∧ Below w.heap.size w wr) (fun i _ => row.length - (intOf i).toNat)
  case atStart => exact ⟨0, by omega, rfl, hown, hb⟩
  case round =>
    clear hown hb
    obtain ⟨k, hk, rfl, hown, hb⟩ := hrel
    by_cases hlt : k < row.length
    · obtain ⟨b2, o2, rfl, hc2⟩ := hr.some hlt
      obtain ⟨p1, p2, p3⟩ := HOK.out k hlt
      obtain ⟨x, hxv⟩ := Int.eq_ofNat_of_zero_le p1
      have hxx : x < xs.length := by omega
      obtain ⟨b, o, rfl, hc⟩ := hx.some hxx
      have hS : outM xs row (k + 1) = (outM xs row k).set x (nowM xs row (k + 1)) := by
        show List.set _ _ _ = _
        rw [getD_lt hlt, hxv]
        rfl
      have hF : (outM xs row k).set x (nowM xs row 0) = outM xs row k := by
        have hf := outM_fresh xs row k x (by omega) (fun j hj => (HOK.out j hj).1) (by rw [← hxv]; exact p3)
        apply List.ext_getElem
        · simp
        · intro i h1 h2
          rw [List.getElem_set]
          by_cases hxi : x = i
          · subst hxi
            rw [getD_lt h2] at hf
            rw [if_pos rfl, hf]
            rfl
          · rw [if_neg hxi]
      have HS := Lib.hid hS
      have HLO := Lib.hid (outM_len xs row k)
      rw [← hF] at hown
      have hkc : k + 1 ≤ cap2 := by omega
      have hk1 : (0 : Int) ≤ (k : Int) + 1 := by omega
      clear hS hF
      go_wp2_with fail
      go_loopw [37] (fun i wi => ∃ q : Nat, q ≤ k + 1 ∧ i = .int .i64 q ∧ wi.ownsRow w.heap.size 3 1 (.slice (some ⟨g, 0, none⟩) xs.length xs.length) xs.length (((outM xs row k).set x (nowM xs row q)).map (Value.int .i64)) ∧ Below w.heap.size w wi) (fun i _ => k + 1 - (intOf i).toNat)
      case atStart => exact ⟨0, by omega, rfl, hown, hb⟩
      case round =>
        clear hown hb
        obtain ⟨q, hq, rfl, hown, hb⟩ := hrel
        by_cases hqk : q < k + 1
        · have hqr : q < row.length := by omega
          have h1 := (hb.cell (lt_of_cell (hc2 q hqr 0 _ rfl))).trans (hc2 q hqr 0 _ rfl)
          have h4 := (hb.cell (lt_of_cell (hc2 k hlt 0 _ rfl))).trans (hc2 k hlt 0 _ rfl)
          simp only [Nat.add_zero, Nat.mul_one] at h1 h4
          obtain ⟨r1, r2, r3⟩ := HOK.out q hqr
          obtain ⟨y, hyv⟩ := Int.eq_ofNat_of_zero_le r1
          have hyy : y < xs.length := by omega
          have h2 := (hb.cell (lt_of_cell (hc y hyy 0 _ rfl))).trans (hc y hyy 0 _ rfl)
          simp only [Nat.add_zero] at h2
          have hN : nowM xs row (q + 1) = wrap64 (nowM xs row q + xs[y].1) := by
            show wrap64 _ = _
            rw [getD_lt hqr, hyv]
            simp [longOf, List.getD, hyy]
          have hxl : x < ((outM xs row k).set x (nowM xs row q)).length := by simp [outM_len]; exact hxx
          have h3 := owns_get hown x (by omega) hxl
          rw [List.getElem_set_self] at h3
          have hset := owns_set hown x (nowM xs row (q + 1))
          rw [List.set_set, hN] at hset
          have hfz := hown.frozenAt x
          have HN := Lib.hid hN
          rw [hyv] at h1
          rw [hxv] at h4
          clear hc hc2 hx hr hN p1 p2 p3 r1 r2 r3 hown hxl HOK hyv hxv HS HLO
          generalize outM xs row k = O1 at *
          generalize nowM xs row q = N1 at *
          go_wp2_with fail
          go_region
          go_wp2
          refine ⟨⟨q + 1, by omega, by go_num, ?_, ?_⟩, by simp [intOf]; omega⟩
          · rw [HN.out]
            exact hset
          · first
              | exact (below_drewN' hb _).setCell hg1 _
              | exact below_drewN' (hb.setCell hg1 _) _
        · obtain rfl : q = k + 1 := by omega
          rw [← HS.out] at hown
          clear hc hc2 hx hr p1 p2 p3 HOK hxv HS HLO
          go_wp2_with fail
          exact ⟨⟨k + 1, by omega, by go_num, hown, hb⟩, by simp [intOf]; omega⟩
    · obtain rfl : k = row.length := by omega
      obtain ⟨a', cap', he0, he, _⟩ := ints_of_owns (outM_len _ _ _).symm hown
      obtain ⟨rfl, _, rfl⟩ := Value.slice.inj he0
      clear hx hr hown HOK
      go_wp2
      go_ret2
      exact ⟨_, _, _, _, rfl, (outM_len _ _ _).symm, he, rfl, hb⟩
end Go.Proofs.YtkfjmmoljhekiaaDoor
