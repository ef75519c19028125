/- Cost, Late, Tardy of the program and of the reference. -/
import Derived.Test.YtkfjmmoljhekiaaDoorLineCostM
import Derived.Test.YtkfjmmoljhekiaaDoorLineEnds
namespace Go.Proofs.YtkfjmmoljhekiaaDoor
open Go.RowKit

theorem ends_m (a a2 : Option Addr) (n n2 cap cap2 : Nat) (xs : List R3) (row : List Int) (w : World) (hl : n = xs.length) (hl2 : n2 = row.length) (hn : xs.length ≤ 100) (hn2 : row.length ≤ 100) (hx : Elems enc3 3 w a xs) (hr : Elems encI 1 w a2 row) :
    Calls Tryd.prog 34 #[.slice a n cap, .slice a2 n2 cap2] w fun e w' => ∃ a' cap', e = .returned (.tuple #[.slice a' (endsM xs row).length cap', errV (endsErr xs row)]) ∧ Elems encI 1 w' a' (endsM xs row) ∧ Below w.heap.size w w' := by
  refine (ends_any a a2 n n2 cap cap2 xs row w hl hl2 hn hn2 hx hr).mono ?_
  rintro e w' ⟨a', n', cap', ys, rfl, rfl, he, h0, h1, hb⟩
  have : ys = endsM xs row := by
    unfold endsM
    by_cases h : endsErr xs row = 0
    · rw [if_pos h]; exact h0 h
    · rw [if_neg h]; exact h1 h
  subst this
  exact ⟨a', cap', rfl, he, hb⟩
theorem refEnds_m (a a2 : Option Addr) (n n2 cap cap2 : Nat) (xs : List R3) (row : List Int) (w : World) (hl : n = xs.length) (hl2 : n2 = row.length) (hn : xs.length ≤ 100) (hn2 : row.length ≤ 100) (hx : Elems enc3 3 w a xs) (hr : Elems encI 1 w a2 row) (hcap : n2 ≤ cap2) :
    Calls Tryd.prog 33 #[.slice a n cap, .slice a2 n2 cap2] w fun e w' => ∃ a' cap', e = .returned (.tuple #[.slice a' (endsM xs row).length cap', .int .i64 (endsErr xs row)]) ∧ Elems encI 1 w' a' (endsM xs row) ∧ Below w.heap.size w w' := by
  refine (refEnds_any a a2 n n2 cap cap2 xs row w hl hl2 hn hn2 hx hr hcap).mono ?_
  rintro e w' ⟨a', n', cap', ys, rfl, rfl, he, h0, h1, hb⟩
  have : ys = endsM xs row := by
    unfold endsM
    by_cases h : endsErr xs row = 0
    · rw [if_pos h]; exact h0 h
    · rw [if_neg h]; exact h1 h
  subst this
  exact ⟨a', cap', rfl, he, hb⟩

set_option maxRecDepth 100000 in
set_option maxHeartbeats 4000000 in
theorem cost_any (a a2 : Option Addr) (n n2 cap cap2 : Nat) (xs : List R3) (row : List Int) (w : World) (hl : n = xs.length) (hl2 : n2 = row.length) (hn : xs.length ≤ 100) (hn2 : row.length ≤ 100) (hx : Elems enc3 3 w a xs) (hr : Elems encI 1 w a2 row) :
    Calls Tryd.prog 36 #[.slice a n cap, .slice a2 n2 cap2] w fun e w' => e = .returned (.tuple #[.int .i64 (costM xs (endsM xs row) (endsM xs row).length), errV (endsErr xs row)]) ∧ Below w.heap.size w w' := by
  subst hl; subst hl2
  have H := ends_m a a2 _ _ cap cap2 xs row w rfl rfl hn hn2 hx hr
  have hle := endsM_len xs row
  generalize endsErr xs row = er at *
  generalize endsM xs row = E at *
  generalize errV er = ev at *
  clear hr
  go_enter Tryd.func36, Tryd.ntmps36
  go_wp2_with fail
  refine H.mono ?_
  rintro e w1 ⟨a1, c1, rfl, he1, hb1⟩
  have hx1 := hx.at hb1
  clear hx H
  go_wp2
  go_loopw [8, 18] (fun s i wr => ∃ k : Nat, k ≤ E.length ∧ i = .int .i64 k ∧ s = .int .i64 (costM xs E k) ∧ ∃ m, wr = w1.drewN m) (fun _ i _ => E.length - (intOf i).toNat)
  case atStart => exact ⟨0, by omega, rfl, rfl, 0, rfl⟩
  case round =>
    obtain ⟨k, hk, rfl, rfl, m, rfl⟩ := hrel
    by_cases hlt : k < E.length
    · have hlt2 : k < xs.length := by omega
      obtain ⟨b, o, rfl, hc⟩ := hx1.some hlt2
      obtain ⟨b1, o1, rfl, hc1⟩ := he1.some hlt
      have h1 := hc k hlt2 1 _ rfl
      have h2 := hc1 k hlt 0 _ rfl
      simp only [Nat.add_zero, Nat.mul_one] at h2
      have HS : Hid (costM xs E (k + 1) = wrap64 (costM xs E k + wrap64 (xs[k].2.1 * E[k]))) := by
        show costM xs E (k + 1) = _
        show wrap64 _ = _
        rw [getR_lt hlt2, getD_lt hlt]
      have hwr : ∀ n, IntKind.i64.wrap n = wrap64 n := IntWalk.i64_left
      clear hc hc1 hx1 he1
      generalize costM xs E k = c at *
      go_wp2_with fail
      go_quiet (fail)
      clear hwr
      go_wp2
      exact ⟨⟨k + 1, by omega, by go_num, by rw [HS.out], _, rfl⟩, by simp [intOf]; omega⟩
    · obtain rfl : k = E.length := by omega
      clear hx1 he1
      go_wp2
      go_ret2
      exact ⟨rfl, below_drewN' hb1 _⟩

set_option maxRecDepth 100000 in
set_option maxHeartbeats 4000000 in
theorem tardy_any (a a2 : Option Addr) (n n2 cap cap2 : Nat) (xs : List R3) (row : List Int) (w : World) (hl : n = xs.length) (hl2 : n2 = row.length) (hn : xs.length ≤ 100) (hn2 : row.length ≤ 100) (hx : Elems enc3 3 w a xs) (hr : Elems encI 1 w a2 row) :
    Calls Tryd.prog 38 #[.slice a n cap, .slice a2 n2 cap2] w fun e w' => e = .returned (.tuple #[.int .i64 (tardyM xs (endsM xs row) (endsM xs row).length), errV (endsErr xs row)]) ∧ Below w.heap.size w w' := by
  subst hl; subst hl2
  have H := ends_m a a2 _ _ cap cap2 xs row w rfl rfl hn hn2 hx hr
  have hle := endsM_len xs row
  generalize endsErr xs row = er at *
  generalize endsM xs row = E at *
  generalize errV er = ev at *
  clear hr
  go_enter Tryd.func38, Tryd.ntmps38
  go_wp2_with fail
  refine H.mono ?_
  rintro e w1 ⟨a1, c1, rfl, he1, hb1⟩
  have hx1 := hx.at hb1
  clear hx H
  go_wp2
  go_loopw [8, 18] (fun s i wr => ∃ k : Nat, k ≤ E.length ∧ i = .int .i64 k ∧ s = .int .i64 (tardyM xs E k) ∧ ∃ m, wr = w1.drewN m) (fun _ i _ => E.length - (intOf i).toNat)
  case atStart => exact ⟨0, by omega, rfl, rfl, 0, rfl⟩
  case round =>
    obtain ⟨k, hk, rfl, rfl, m, rfl⟩ := hrel
    by_cases hlt : k < E.length
    · have hlt2 : k < xs.length := by omega
      obtain ⟨b, o, rfl, hc⟩ := hx1.some hlt2
      obtain ⟨b1, o1, rfl, hc1⟩ := he1.some hlt
      have h1 := hc k hlt2 2 _ rfl
      have h2 := hc1 k hlt 0 _ rfl
      simp only [Nat.add_zero, Nat.mul_one] at h2
      have HS : Hid (tardyM xs E (k + 1) = if xs[k].2.2 < E[k] then wrap64 (tardyM xs E k + 1) else tardyM xs E k) := by
        show tardyM xs E (k + 1) = _
        rw [← getR_lt hlt2, ← getD_lt hlt]
        rfl
      clear hc hc1 hx1 he1
      generalize tardyM xs E k = c at *
      go_wp2_with fail
      go_quiet (fail)
      go_wp2
      all_goals
        refine ⟨⟨k + 1, by omega, by go_num, ?_, _, rfl⟩, by simp [intOf]; omega⟩
        rw [HS.out]
        first
          | rw [if_pos (by assumption)]
          | rw [if_neg (Int.not_lt.mpr (by assumption))]
    · obtain rfl : k = E.length := by omega
      clear hx1 he1
      go_wp2
      go_ret2
      exact ⟨rfl, below_drewN' hb1 _⟩

set_option maxRecDepth 100000 in
set_option maxHeartbeats 4000000 in
theorem late_any (a a2 : Option Addr) (n n2 cap cap2 : Nat) (xs : List R3) (row : List Int) (w : World) (hl : n = xs.length) (hl2 : n2 = row.length) (hn : xs.length ≤ 100) (hn2 : row.length ≤ 100) (hx : Elems enc3 3 w a xs) (hr : Elems encI 1 w a2 row) :
    Calls Tryd.prog 37 #[.slice a n cap, .slice a2 n2 cap2] w fun e w' => e = .returned (.tuple #[.int .i64 (lateM xs (endsM xs row) (endsM xs row).length), errV (endsErr xs row)]) ∧ Below w.heap.size w w' := by
  subst hl; subst hl2
  have H := ends_m a a2 _ _ cap cap2 xs row w rfl rfl hn hn2 hx hr
  by_cases hE : endsErr xs row = 0
  case neg =>
    have hn := endsM_none hE
    rw [hn] at H ⊢
    rw [show errV (endsErr xs row) = .iface 25 (.int .i64 (endsErr xs row)) from if_neg hE] at H ⊢
    generalize endsErr xs row = er at *
    clear hr hn hE
    go_enter Tryd.func37, Tryd.ntmps37
    go_wp2_with fail
    refine H.mono ?_
    rintro e w1 ⟨a1, c1, rfl, he1, hb1⟩
    clear hx H
    go_wp2
    go_ret2
    exact ⟨rfl, hb1⟩
  have hle := endsM_len0 hE
  rw [hE] at H ⊢
  generalize endsM xs row = E at *
  rw [show errV 0 = .nilIface from rfl] at H ⊢
  clear hE hr
  by_cases h0 : xs.length = 0
  · have hd : ((xs.length : Int) == 0) = true := beq_iff_eq.2 (by omega)
    have HE : Hid (lateM xs E E.length = 0) := by
      show _ = _
      rw [hle, h0]; rfl
    clear h0
    go_enter Tryd.func37, Tryd.ntmps37
    go_wp2_with fail
    refine H.mono ?_
    rintro e w1 ⟨a1, c1, rfl, he1, hb1⟩
    clear hx H
    go_wp2
    go_ret2
    exact ⟨by rw [HE.out]; rfl, hb1⟩
  have hd : ((xs.length : Int) == 0) = false := beq_eq_false_iff_ne.2 (by omega)
  have hx0 : 0 < xs.length := by omega
  have he0 : 0 < E.length := by omega
  have HZ : Hid (mostM xs E 0 = wrap64 (E[0] - xs[0].2.2)) := by
    show _ = _
    unfold mostM
    rw [if_pos rfl, getD_lt he0, getR_lt hx0]
  have HE : Hid (lateM xs E E.length = mostM xs E E.length) := by
    show _ = _
    unfold mostM
    rw [if_neg (by omega)]
  go_enter Tryd.func37, Tryd.ntmps37
  go_wp2_with fail
  refine H.mono ?_
  rintro e w1 ⟨a1, c1, rfl, he1, hb1⟩
  have hx1 := hx.at hb1
  obtain ⟨b, o, rfl, hc⟩ := hx1.some hx0
  obtain ⟨b1, o1, rfl, hc1⟩ := he1.some he0
  have h01 := hc 0 hx0 2 _ rfl
  have h02 := hc1 0 he0 0 _ rfl
  simp only [Nat.add_zero, Nat.zero_mul] at h01 h02
  have hwr : ∀ n, IntKind.i64.wrap n = wrap64 n := IntWalk.i64_left
  clear hx H hx1 he1
  go_wp2_with fail
  go_quiet (fail)
  clear hwr h01 h02
  go_wp2
  go_loopw [8, 34] (fun s i wr => ∃ k : Nat, k ≤ E.length ∧ i = .int .i64 k ∧ s = .int .i64 (mostM xs E k) ∧ ∃ m, wr = w1.drewN m) (fun _ i _ => E.length - (intOf i).toNat)
  case atStart => exact ⟨0, by omega, rfl, by rw [HZ.out], _, rfl⟩
  case round =>
    obtain ⟨k, hk, rfl, rfl, m, rfl⟩ := hrel
    by_cases hlt : k < E.length
    · have hlt2 : k < xs.length := by omega
      have h1 := hc k hlt2 2 _ rfl
      have h2 := hc1 k hlt 0 _ rfl
      simp only [Nat.add_zero, Nat.mul_one] at h2
      have HS : Hid (mostM xs E (k + 1) = if mostM xs E k < wrap64 (E[k] - xs[k].2.2) then wrap64 (E[k] - xs[k].2.2) else mostM xs E k) := by
        show mostM xs E (k + 1) = _
        rw [mostM_succ, getR_lt hlt2, getD_lt hlt]
      have hwr : ∀ n, IntKind.i64.wrap n = wrap64 n := IntWalk.i64_left
      clear hc hc1 HZ HE
      generalize mostM xs E k = c at *
      go_wp2_with fail
      go_quiet (fail)
      clear hwr
      go_wp2
      all_goals
        refine ⟨⟨k + 1, by omega, by go_num, ?_, _, rfl⟩, by simp [intOf]; omega⟩
        rw [HS.out]
    · obtain rfl : k = E.length := by omega
      clear hc hc1 HZ
      go_wp2
      go_ret2
      exact ⟨by rw [HE.out]; rfl, below_drewN' hb1 _⟩

theorem results_tmp4 {fn : Func} {t u v x : Tmp} (h : fn.results = #[.tmp t, .tmp u, .tmp v, .tmp x]) (tmps : Array Value) (P : Program) (w : World) :
    (results fn tmps).run P w = .ok (.tuple #[tmps.getD t undef, tmps.getD u undef, tmps.getD v undef, tmps.getD x undef]) w := by
  simp [results, h]
macro "go_ret4" : tactic => `(tactic|
  ((try simp only [Exit.inBlock, Exit.then]); refine bodyPost_ret (results_tmp4 rfl _ _ _) rfl ?_))

set_option maxRecDepth 100000 in
set_option maxHeartbeats 4000000 in
theorem counts_any (a a2 : Option Addr) (n n2 cap cap2 : Nat) (xs : List R3) (row : List Int) (w : World) (hl : n = xs.length) (hl2 : n2 = row.length) (hn : xs.length ≤ 100) (hn2 : row.length ≤ 100) (hx : Elems enc3 3 w a xs) (hr : Elems encI 1 w a2 row) (hcap : n2 ≤ cap2) :
    Calls Tryd.prog 35 #[.slice a n cap, .slice a2 n2 cap2] w fun e w' => e = .returned (.tuple #[.int .i64 (costM xs (endsM xs row) (endsM xs row).length), .int .i64 (lateM xs (endsM xs row) (endsM xs row).length), .int .i64 (tardyM xs (endsM xs row) (endsM xs row).length), .int .i64 (endsErr xs row)]) ∧ Below w.heap.size w w' := by
  subst hl; subst hl2
  have H := refEnds_m a a2 _ _ cap cap2 xs row w rfl rfl hn hn2 hx hr hcap
  have hle := endsM_len xs row
  have HD : ∀ k (hk : k < (endsM xs row).length) (hl : k < xs.length), wrap64 ((endsM xs row)[k] - xs[k].2.2) = (endsM xs row)[k] - xs[k].2.2 := fun k hk hl => ends_due k hk hl
  generalize endsErr xs row = er at *
  generalize endsM xs row = E at *
  clear hr
  go_enter Tryd.func35, Tryd.ntmps35
  go_wp2_with fail
  refine H.mono ?_
  rintro e w1 ⟨a1, c1, rfl, he1, hb1⟩
  have hx1 := hx.at hb1
  clear hx H
  go_wp2
  go_loopw [10, 11, 12, 24] (fun s l t i wr => ∃ k : Nat, k ≤ E.length ∧ i = .int .i64 k ∧ s = .int .i64 (costM xs E k) ∧ l = .int .i64 (lateM xs E k) ∧ t = .int .i64 (tardyM xs E k) ∧ ∃ m, wr = w1.drewN m) (fun _ _ _ i _ => E.length - (intOf i).toNat)
  case atStart => exact ⟨0, by omega, rfl, rfl, rfl, rfl, 0, rfl⟩
  case round =>
    obtain ⟨k, hk, rfl, rfl, rfl, rfl, m, rfl⟩ := hrel
    by_cases hlt : k < E.length
    · have hlt2 : k < xs.length := by omega
      obtain ⟨b, o, rfl, hc⟩ := hx1.some hlt2
      obtain ⟨b1, o1, rfl, hc1⟩ := he1.some hlt
      have h1 := hc k hlt2 2 _ rfl
      have h3 := hc k hlt2 1 _ rfl
      have h2 := hc1 k hlt 0 _ rfl
      simp only [Nat.add_zero, Nat.mul_one] at h2
      have HS : Hid (costM xs E (k + 1) = wrap64 (costM xs E k + wrap64 (xs[k].2.1 * E[k]))) := by
        show costM xs E (k + 1) = _
        show wrap64 _ = _
        rw [getR_lt hlt2, getD_lt hlt]
      have HL : Hid (lateM xs E (k + 1) = if k = 0 ∨ lateM xs E k < wrap64 (E[k] - xs[k].2.2) then wrap64 (E[k] - xs[k].2.2) else lateM xs E k) := by
        show lateM xs E (k + 1) = _
        rw [← getR_lt hlt2, ← getD_lt hlt]
        rfl
      have hdd := HD k hlt hlt2
      have HT : Hid (tardyM xs E (k + 1) = if 0 < wrap64 (E[k] - xs[k].2.2) then wrap64 (tardyM xs E k + 1) else tardyM xs E k) := by
        show tardyM xs E (k + 1) = _
        have : tardyM xs E (k + 1) = if xs[k].2.2 < E[k] then wrap64 (tardyM xs E k + 1) else tardyM xs E k := by
          rw [← getR_lt hlt2, ← getD_lt hlt]
          rfl
        rw [this, hdd]
        by_cases hq : xs[k].2.2 < E[k]
        · rw [if_pos hq, if_pos (by omega)]
        · rw [if_neg hq, if_neg (by omega)]
      clear hc hc1 hx1 he1 HD hdd
      generalize costM xs E k = c at *
      generalize lateM xs E k = l at *
      generalize tardyM xs E k = t at *
      by_cases hk0 : k = 0
      · have hkd : ((k : Int) == 0) = true := beq_iff_eq.2 (by omega)
        have HK := Lib.hid hk0
        clear hk0
        go_wp2_with fail
        all_goals
          refine ⟨⟨k + 1, by omega, by go_num, by rw [HS.out], ?_, ?_, _, rfl⟩, by simp [intOf]; omega⟩
          · rw [HL.out, if_pos (Or.inl HK.out)]
          · rw [HT.out]
            first
              | rw [if_pos (by assumption)]
              | rw [if_neg (Int.not_lt.mpr (by assumption))]
      · have hkd : ((k : Int) == 0) = false := beq_eq_false_iff_ne.2 (by omega)
        have HK := Lib.hid hk0
        clear hk0
        go_wp2_with fail
        all_goals
          refine ⟨⟨k + 1, by omega, by go_num, by rw [HS.out], ?_, ?_, _, rfl⟩, by simp [intOf]; omega⟩
          · rw [HL.out]
            first
              | rw [if_pos (Or.inr (by assumption))]
              | rw [if_neg (by intro h; rcases h with h | h; exact HK.out h; exact absurd h (Int.not_lt.mpr (by assumption)))]
          · rw [HT.out]
            first
              | rw [if_pos (by assumption)]
              | rw [if_neg (Int.not_lt.mpr (by assumption))]
    · obtain rfl : k = E.length := by omega
      clear hx1 he1 HD
      go_wp2
      go_ret4
      exact ⟨rfl, below_drewN' hb1 _⟩

set_option maxHeartbeats 400000 in
theorem whole_any (E n m : Int) (w : World) (hg : Hnd w) (h0 : E = 0 → n = m) (h1 : E ≠ 0 → n = 0) :
    Calls Tryd.prog 39 #[.int .i64 n, errV E, .int .i64 m, .int .i64 E] w fun e w' => e = .returned (.bool true) ∧ Below w.heap.size w w' := by
  by_cases hE : E = 0
  · have hxy := h0 hE
    subst hE
    subst hxy
    have hd : (n == n) = true := by simp
    clear h0 h1
    show Calls Tryd.prog 39 #[.int .i64 n, .nilIface, .int .i64 n, .int .i64 0] w _
    go_enter Tryd.func39, Tryd.ntmps39
    go_wp2
    go_ret
    exact ⟨rfl, Below.refl _ _⟩
  · have hz := h1 hE
    subst hz
    clear h0 h1
    have hb1 : (E != 0) = true := by simpa using hE
    have hb2 : (E == E) = true := by simp
    rw [errV, if_neg hE]
    clear hE
    go_enter Tryd.func39, Tryd.ntmps39
    go_wp2_with (go_at_call 18; refine (tell_hit _ _ hg).mono ?_; rintro e w1 ⟨rfl, hbw⟩)
    go_ret
    exact ⟨rfl, hbw⟩
end Go.Proofs.YtkfjmmoljhekiaaDoor
