/- When all is done over two machines: shop.Flow and the reference's Flow. -/
import Derived.Test.YtgcocjfbppkgbaaDoorFlowChk
import Derived.Test.YtgcocjfbppkgbaaDoorLineOrd
import Derived.BigQuiet
namespace Go.Proofs.YtgcocjfbppkgbaaDoor
open Go.RowKit
theorem get2_lt {E : List R2} {j : Nat} (h : j < E.length) : E.getD j (0, 0) = E[j] := by simp [List.getD, h]
theorem aOf_at {l : List R2} {row : List Int} {k x : Nat} (hk : k < row.length) (hx : x < l.length) (h : row[k] = (x : Int)) : aOf l row k = l[x].1 ∧ bOf l row k = l[x].2 := by
  unfold aOf bOf
  rw [getD_lt hk, h, show ((x : Int)).toNat = x from Int.toNat_natCast x, get2_lt hx]
  exact ⟨rfl, rfl⟩

set_option maxRecDepth 100000 in
set_option maxHeartbeats 4000000 in
theorem flow_any (a a2 : Option Addr) (n n2 cap cap2 : Nat) (xs : List R2) (row : List Int) (w : World) (hl : n = xs.length) (hl2 : n2 = row.length) (hn : xs.length ≤ 100) (hn2 : row.length ≤ 100) (hx : Elems enc2 2 w a xs) (hr : Elems encI 1 w a2 row) :
    Calls Tryd.prog 29 #[.slice a n cap, .slice a2 n2 cap2] w fun e w' => ∃ m : Int, e = .returned (.tuple #[.int .i64 m, errV (flowErr xs row)]) ∧ (flowErr xs row = 0 → m = fbM xs row row.length) ∧ (flowErr xs row ≠ 0 → m = 0) ∧ Below w.heap.size w w' := by
  subst hl; subst hl2
  by_cases hC : twosCheck xs = 0
  case neg =>
    have hE : flowErr xs row = twosCheck xs := if_pos hC
    have hne : flowErr xs row ≠ 0 := by rw [hE]; exact hC
    have hV : errV (twosCheck xs) = .iface 27 (.int .i64 (twosCheck xs)) := if_neg hC
    have HE := Lib.hid hE
    have HN := Lib.hid hne
    have HV := Lib.hid hV
    clear hC hE hne hV
    go_enter Tryd.func29, Tryd.ntmps29
    go_wp2_with (go_at_call 59; refine (twosCheck_any _ _ _ xs _ rfl (by unfold maxLen; omega) hx).mono ?_; rintro e w1 ⟨rfl, hb1⟩; rw [HV.out])
    go_ret2
    exact ⟨0, by rw [HE.out, HV.out]; rfl, fun h => absurd h HN.out, fun _ => rfl, hb1⟩
  have hlen := twos_ok_len hC
  have hV : errV (twosCheck xs) = .nilIface := if_pos hC
  have hEE : flowErr xs row = orderM row xs.length := if_neg (by simp [hC])
  by_cases hO : orderM row xs.length = 0
  case neg =>
    have hV2 : errV (orderM row xs.length) = .iface 27 (.int .i64 (orderM row xs.length)) := if_neg hO
    have HV := Lib.hid hV
    have HV2 := Lib.hid hV2
    have HE := Lib.hid hEE
    have HN := Lib.hid hO
    clear hC hV hEE hV2 hO
    go_enter Tryd.func29, Tryd.ntmps29
    go_wp2_with (go_at_call 59; refine (twosCheck_any _ _ _ xs _ rfl (by unfold maxLen; omega) hx).mono ?_; rintro e w1 ⟨rfl, hb1⟩; rw [HV.out])
    refine (order_any _ _ _ _ row _ rfl (by omega) (hr.at hb1)).mono ?_
    rintro e w2 ⟨rfl, hb2⟩
    rw [HV2.out]
    go_wp2
    go_ret2
    exact ⟨0, by rw [HE.out, HV2.out]; rfl, fun h => absurd (HE.out.symm.trans h) HN.out, fun _ => rfl, below_next hb1 hb2⟩
  obtain ⟨hrl, hok⟩ := order_ok hO
  have hE : flowErr xs row = 0 := hEE.trans hO
  have hV2 : errV (orderM row xs.length) = .nilIface := if_pos hO
  have HV := Lib.hid hV
  have HV2 := Lib.hid hV2
  have HE := Lib.hid hE
  have HOK := Lib.hid hok
  clear hC hV hEE hV2 hO hE hok
  suffices h : Calls Tryd.prog 29 #[.slice a xs.length cap, .slice a2 row.length cap2] w fun e w' => e = .returned (.tuple #[.int .i64 (fbM xs row row.length), .nilIface]) ∧ Below w.heap.size w w' by
    refine h.mono ?_
    rintro e w' ⟨h1, h5⟩
    exact ⟨_, by rw [HE.out]; exact h1, fun _ => rfl, fun h => absurd HE.out h, h5⟩
  clear HE
  go_enter Tryd.func29, Tryd.ntmps29
  go_wp2_with (go_at_call 59; refine (twosCheck_any _ _ _ xs _ rfl (by unfold maxLen; omega) hx).mono ?_; rintro e w1 ⟨rfl, hb1⟩; rw [HV.out])
  refine (order_any _ _ _ _ row _ rfl (by omega) (hr.at hb1)).mono ?_
  rintro e w2 ⟨rfl, hb2⟩
  rw [HV2.out]
  have hb02 := below_next hb1 hb2
  clear HV HV2 hb1 hb2
  have hx2 := hx.at hb02
  have hr2 := hr.at hb02
  clear hx hr
  go_wp2
  go_loopw [8, 9, 26] (fun av bv i wr => ∃ k : Nat, k ≤ row.length ∧ i = .int .i64 k ∧ av = .int .i64 (faM xs row k) ∧ bv = .int .i64 (fbM xs row k) ∧ ∃ m, wr = w2.drewN m) (fun _ _ i _ => row.length - (intOf i).toNat)
  case atStart => exact ⟨0, by omega, rfl, rfl, rfl, 0, rfl⟩
  case round =>
    obtain ⟨k, hk, rfl, rfl, rfl, m, rfl⟩ := hrel
    by_cases hlt : k < row.length
    · obtain ⟨b2, o2, rfl, hc2⟩ := hr2.some hlt
      have h1 := hc2 k hlt 0 _ rfl
      simp only [Nat.add_zero, Nat.mul_one] at h1
      obtain ⟨p1, p2, p3⟩ := HOK.out k hlt
      obtain ⟨x, hxv⟩ := Int.eq_ofNat_of_zero_le p1
      have hxx : x < xs.length := by omega
      obtain ⟨b, o, rfl, hc⟩ := hx2.some hxx
      have h2 := hc x hxx 0 _ rfl
      have h3 := hc x hxx 1 _ rfl
      simp only [Nat.add_zero] at h2
      obtain ⟨ha, hbb⟩ := aOf_at hlt hxx hxv
      have HA : Hid (faM xs row (k + 1) = wrap64 (faM xs row k + xs[x].1)) := by
        show faM xs row (k + 1) = _
        rw [← ha]; rfl
      have HB : Hid (fbM xs row (k + 1) = wrap64 ((if faM xs row (k + 1) < fbM xs row k then fbM xs row k else faM xs row (k + 1)) + xs[x].2)) := by
        show fbM xs row (k + 1) = _
        rw [← hbb]; rfl
      rw [hxv] at h1
      clear hc hc2 hx2 hr2 p1 p2 p3 hxv HOK ha hbb
      generalize faM xs row k = A1 at *
      generalize fbM xs row k = B1 at *
      go_wp2_with fail
      all_goals
        refine ⟨⟨k + 1, by omega, by go_num, by rw [HA.out], ?_, _, rfl⟩, by simp [intOf]; omega⟩
        rw [HB.out, HA.out]
        try first
          | rw [if_pos (by assumption)]
          | rw [if_neg (Int.not_lt.mpr (by assumption))]
    · obtain rfl : k = row.length := by omega
      clear hx2 hr2 HOK
      go_wp2
      go_ret2
      exact ⟨rfl, below_drewN' hb02 _⟩

set_option maxRecDepth 100000 in
set_option maxHeartbeats 4000000 in
theorem refFlow_any (a a2 : Option Addr) (n n2 cap cap2 : Nat) (xs : List R2) (row : List Int) (w : World) (hl : n = xs.length) (hl2 : n2 = row.length) (hn : xs.length ≤ 100) (hO : orderM row xs.length = 0) (hx : Elems enc2 2 w a xs) (hr : Elems encI 1 w a2 row) :
    Calls Tryd.prog 28 #[.slice a n cap, .slice a2 n2 cap2] w fun e w' => e = .returned (.int .i64 (longM xs row row.length)) ∧ Below w.heap.size w w' := by
  subst hl; subst hl2
  obtain ⟨hrl, hok⟩ := order_ok hO
  have HOK := Lib.hid hok
  clear hok hO
  go_enter Tryd.func28, Tryd.ntmps28
  go_wp2
  go_loopw [5, 12] (fun lv i wr => ∃ k : Nat, k ≤ row.length ∧ i = .int .i64 k ∧ lv = .int .i64 (longM xs row k) ∧ ∃ m, wr = w.drewN m) (fun _ i _ => row.length - (intOf i).toNat)
  case atStart => exact ⟨0, by omega, rfl, rfl, 0, rfl⟩
  case round =>
    obtain ⟨k, hk, rfl, rfl, m, rfl⟩ := hrel
    by_cases hlt : k < row.length
    · have HL : Hid (longM xs row (k + 1) = if longM xs row k < wayM xs row k row.length then wayM xs row k row.length else longM xs row k) := Lib.hid rfl
      generalize longM xs row k = L1 at *
      go_wp2
      go_loopw [7, 17] (fun nv i wi => ∃ q : Nat, q ≤ row.length ∧ i = .int .i64 q ∧ nv = .int .i64 (wayM xs row k q) ∧ ∃ m, wi = w.drewN m) (fun _ i _ => row.length - (intOf i).toNat)
      case atStart => exact ⟨0, by omega, rfl, rfl, _, rfl⟩
      case round =>
        obtain ⟨q, hq, rfl, rfl, m, rfl⟩ := hrel
        by_cases hqk : q < row.length
        · obtain ⟨b2, o2, rfl, hc2⟩ := hr.some hqk
          have h1 := hc2 q hqk 0 _ rfl
          simp only [Nat.add_zero, Nat.mul_one] at h1
          obtain ⟨p1, p2, p3⟩ := HOK.out q hqk
          obtain ⟨x, hxv⟩ := Int.eq_ofNat_of_zero_le p1
          have hxx : x < xs.length := by omega
          obtain ⟨b, o, rfl, hc⟩ := hx.some hxx
          have h2 := hc x hxx 0 _ rfl
          have h3 := hc x hxx 1 _ rfl
          simp only [Nat.add_zero] at h2
          obtain ⟨ha, hbb⟩ := aOf_at hqk hxx hxv
          have HW : Hid (wayM xs row k (q + 1) = if k ≤ q then wrap64 ((if q ≤ k then wrap64 (wayM xs row k q + xs[x].1) else wayM xs row k q) + xs[x].2) else (if q ≤ k then wrap64 (wayM xs row k q + xs[x].1) else wayM xs row k q)) := by
            show wayM xs row k (q + 1) = _
            rw [← ha, ← hbb]; rfl
          rw [hxv] at h1
          clear hc hc2 hx hr p1 p2 p3 hxv HOK ha hbb HL
          generalize wayM xs row k q = W1 at *
          rcases Nat.lt_trichotomy q k with hc | hc | hc
          · have d1 : decide ((q : Int) ≤ (k : Int)) = true := by simp; omega
            have d2 : decide ((k : Int) ≤ (q : Int)) = false := by simp; omega
            have HQ := Lib.hid (HW.out.trans ((if_neg (by omega)).trans (if_pos (by omega))))
            go_wp2_with fail
            exact ⟨⟨q + 1, by omega, by go_num, by rw [HQ.out], _, rfl⟩, by simp [intOf]; omega⟩
          · have d1 : decide ((q : Int) ≤ (k : Int)) = true := by simp; omega
            have d2 : decide ((k : Int) ≤ (q : Int)) = true := by simp; omega
            have HQ := Lib.hid (HW.out.trans ((if_pos (by omega)).trans (by rw [if_pos (show q ≤ k by omega)])))
            clear HW
            have HC := Lib.hid hc
            clear hc
            go_wp2_with fail
            all_goals first
              | (exfalso; have := HC.out; omega)
              | exact ⟨⟨q + 1, by omega, by go_num, by rw [HQ.out], _, rfl⟩, by simp [intOf]; omega⟩
          · have d1 : decide ((q : Int) ≤ (k : Int)) = false := by simp; omega
            have d2 : decide ((k : Int) ≤ (q : Int)) = true := by simp; omega
            have HQ := Lib.hid (HW.out.trans ((if_pos (by omega)).trans (by rw [if_neg (show ¬ q ≤ k by omega)])))
            go_wp2_with fail
            exact ⟨⟨q + 1, by omega, by go_num, by rw [HQ.out], _, rfl⟩, by simp [intOf]; omega⟩
        · obtain rfl : q = row.length := by omega
          clear hx hr HOK
          generalize wayM xs row k row.length = W1 at *
          go_wp2_with fail
          all_goals
            refine ⟨⟨k + 1, by omega, by go_num, ?_, _, rfl⟩, by simp [intOf]; omega⟩
            rw [HL.out]
            try first
              | rw [if_pos (by assumption)]
              | rw [if_neg (Int.not_lt.mpr (by assumption))]
    · obtain rfl : k = row.length := by omega
      clear hx hr HOK
      go_wp2
      go_ret
      exact ⟨rfl, below_drewN _ _ _⟩
end Go.Proofs.YtgcocjfbppkgbaaDoor
