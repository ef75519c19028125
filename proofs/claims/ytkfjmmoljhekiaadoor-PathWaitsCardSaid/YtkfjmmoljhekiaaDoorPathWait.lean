/- The waits for one server: the reference's (when each begins less when it came) and the program's (Lindley's). -/
import Derived.Test.YtkfjmmoljhekiaaDoorPathChk
import Derived.Test.YtkfjmmoljhekiaaDoorPathBeg
namespace Go.Proofs.YtkfjmmoljhekiaaDoor
open Go.RowKit

set_option maxRecDepth 100000 in
set_option maxHeartbeats 4000000 in
theorem refWaits_any (a : Option Addr) (n cap : Nat) (xs : List R3) (w : World) (hl : n = xs.length) (hn : xs.length ≤ 100) (hx : Elems enc3 3 w a xs) :
    Calls Tryd.prog 16 #[.slice a n cap] w fun e w' => ∃ a' cap', e = .returned (.slice a' xs.length cap') ∧ Elems encI 1 w' a' (waitsM xs xs.length) ∧ Below w.heap.size w w' := by
  subst hl
  go_enter Tryd.func16, Tryd.ntmps16
  go_wp2_with fail
  refine (begins_any _ _ _ 1 xs _ rfl hn (by omega) (by omega) hx).mono ?_
  rintro e w1 ⟨a1, c1, rfl, he1, hb1⟩
  have hbl := Lib.hid (beginsM_len xs 1 xs.length)
  have hx1 := hx.at hb1
  go_wp2
  go_loopw [3, 9] (fun v i wr => ∃ k : Nat, k ≤ xs.length ∧ i = .int .i64 k ∧ wr.ownsRow w1.heap.size 3 1 v k ((waitsM xs k).map (Value.int .i64)) ∧ Below w1.heap.size w1 wr) (fun _ i _ => xs.length - (intOf i).toNat)
  case atStart => exact ⟨0, by omega, rfl, World.ownsRow_nil _ _ _ _, Below.refl _ _⟩
  case round =>
    obtain ⟨k, hk, rfl, hown, hb⟩ := hrel
    by_cases hlt : k < xs.length
    · obtain ⟨b, o, rfl, hc⟩ := hx1.some hlt
      have hlt1 : k < (beginsM xs 1 xs.length).length := by rw [hbl.out]; exact hlt
      obtain ⟨b1, o1, rfl, hc1⟩ := he1.some hlt1
      have h1 := (hb.cell (lt_of_cell (hc k hlt 0 _ rfl))).trans (hc k hlt 0 _ rfl)
      have h2 := (hb.cell (lt_of_cell (hc1 k hlt1 0 _ rfl))).trans (hc1 k hlt1 0 _ rfl)
      simp only [Nat.add_zero, Nat.mul_one] at h1 h2
      have HW : Hid (waitsM xs (k + 1) = waitsM xs k ++ [wrap64 ((beginsM xs 1 xs.length)[k] - xs[k].1)]) := by
        show _ = _
        rw [waitsM_succ, getD_lt hlt1]
        simp [List.getD, hlt]
      have hsz := hb.size
      clear hc hc1 hx hx1 he1
      generalize (beginsM xs 1 xs.length)[k] = bk at *
      go_wp2_with (at_builtin; (refine app_row rowI rfl _ _ rfl w1.heap.size rfl hown [.int .i64 (wrap64 (bk - xs[k].1))] rfl (by first | rfl | simp) rfl (encI_one _) (by unfold maxLen; omega) (by omega) hsz ?_))
      intro v' w2 hown2 hb2
      go_wp2
      exact ⟨⟨k + 1, by omega, by go_num, by rw [HW.out, List.map_append]; exact hown2, hb.trans hb2⟩, by simp [intOf]; omega⟩
    · obtain rfl : k = xs.length := by omega
      obtain ⟨a', cap', rfl, he, _⟩ := ints_of_owns (by rw [waitsM_len]) hown
      rw [waitsM_len] at *
      clear hx hx1 he1
      go_wp2
      go_ret
      exact ⟨a', cap', rfl, he, below_next hb1 hb⟩

set_option maxRecDepth 100000 in
set_option maxHeartbeats 4000000 in
theorem waits_any (a : Option Addr) (n cap : Nat) (xs : List R3) (w : World) (hl : n = xs.length) (hn : xs.length ≤ 100) (hx : Elems enc3 3 w a xs) :
    Calls Tryd.prog 17 #[.slice a n cap] w fun e w' => ∃ a' n' cap' ys, e = .returned (.tuple #[.slice a' n' cap', errV (jobsCheck xs)]) ∧ n' = List.length ys ∧ Elems encI 1 w' a' ys ∧
      (jobsCheck xs = 0 → ys = lindleyM xs xs.length) ∧ (jobsCheck xs ≠ 0 → ys = []) ∧ Below w.heap.size w w' := by
  subst hl
  by_cases hC : jobsCheck xs = 0
  case neg =>
    have hV : errV (jobsCheck xs) = .iface 25 (.int .i64 (jobsCheck xs)) := if_neg hC
    have HN := Lib.hid hC
    have HV := Lib.hid hV
    clear hC hV
    go_enter Tryd.func17, Tryd.ntmps17
    go_wp2_with (go_at_call 19; refine (check_any _ _ _ xs _ rfl (by unfold maxLen; omega) hx).mono ?_; rintro e w1 ⟨rfl, hb1⟩; rw [HV.out])
    go_ret2
    exact ⟨none, 0, 0, [], by rw [HV.out]; rfl, rfl, Or.inl rfl, fun h => absurd h HN.out, fun _ => rfl, hb1⟩
  have hV : errV (jobsCheck xs) = .nilIface := if_pos hC
  have HV := Lib.hid hV
  have HC := Lib.hid hC
  clear hC hV
  suffices h : Calls Tryd.prog 17 #[.slice a xs.length cap] w fun e w' => ∃ a' n' cap' ys, e = .returned (.tuple #[.slice a' n' cap', .nilIface]) ∧ n' = List.length ys ∧ Elems encI 1 w' a' ys ∧ ys = lindleyM xs xs.length ∧ Below w.heap.size w w' by
    refine h.mono ?_
    rintro e w' ⟨a', n', cap', ys, h1, h2, h3, h4, h5⟩
    exact ⟨a', n', cap', ys, by rw [HV.out]; exact h1, h2, h3, fun _ => h4, fun h => absurd HC.out h, h5⟩
  clear HC
  go_enter Tryd.func17, Tryd.ntmps17
  go_wp2_with (go_at_call 19; refine (check_any _ _ _ xs _ rfl (by unfold maxLen; omega) hx).mono ?_; rintro e w1 ⟨rfl, hb1⟩; rw [HV.out])
  have hx1 := hx.at hb1
  go_loopw [5, 15] (fun v i wr => ∃ k : Nat, k ≤ xs.length ∧ i = .int .i64 k ∧ wr.ownsRow w1.heap.size 3 1 v k ((lindleyM xs k).map (Value.int .i64)) ∧ Below w1.heap.size w1 wr) (fun _ i _ => xs.length - (intOf i).toNat)
  case atStart => exact ⟨0, by omega, rfl, World.ownsRow_nil _ _ _ _, Below.refl _ _⟩
  case round =>
    obtain ⟨k, hk, rfl, hown, hb⟩ := hrel
    have hsz := hb.size
    by_cases hlt : k < xs.length
    · obtain ⟨b, o, rfl, hc⟩ := hx1.some hlt
      have HL := Lib.hid (lindleyM_succ xs k)
      by_cases hk0 : 0 < k
      · have hk1 : k - 1 < xs.length := by omega
        have h1 := (hb.cell (lt_of_cell (hc k hlt 0 _ rfl))).trans (hc k hlt 0 _ rfl)
        have h2 := (hb.cell (lt_of_cell (hc (k - 1) hk1 0 _ rfl))).trans (hc (k - 1) hk1 0 _ rfl)
        have h3 := (hb.cell (lt_of_cell (hc (k - 1) hk1 1 _ rfl))).trans (hc (k - 1) hk1 1 _ rfl)
        simp only [Nat.add_zero] at h1 h2
        obtain ⟨g, cap2, rfl, hg1, hg2⟩ := hown.form hk0
        have hll : k - 1 < (lindleyM xs k).length := by rw [lindleyM_len]; omega
        have h4 := owns_get hown (k - 1) (by omega) hll
        rw [show (lindleyM xs k)[k - 1] = lindley xs (k - 1) by simp [lindleyM]] at h4
        have HS : Hid (lindley xs k = if 0 < wrap64 (wrap64 (lindley xs (k - 1) + xs[k - 1].2.1) - wrap64 (xs[k].1 - xs[k - 1].1)) then wrap64 (wrap64 (lindley xs (k - 1) + xs[k - 1].2.1) - wrap64 (xs[k].1 - xs[k - 1].1)) else 0) := by
          show lindley xs k = _
          obtain ⟨m, rfl⟩ : ∃ m, k = m + 1 := ⟨k - 1, by omega⟩
          simp [lindley, List.getD, hlt, show m < xs.length by omega]
        have hki : wrap64 ((k : Int) - 1) = ((k - 1 : Nat) : Int) := by rw [IntWalk.wrap64_in _ (by omega)]; omega
        have hkn : ((k - 1 : Nat) : Int) < (k : Int) := by omega
        have hkm : ((k - 1 : Nat) : Int) < (xs.length : Int) := by omega
        have hwr : ∀ n, IntKind.i64.wrap n = wrap64 n := IntWalk.i64_left
        clear hc hx hx1
        generalize lindley xs (k - 1) = L at *
        have hown0 := hown
        go_wp2_with fail
        go_quiet (fail)
        have hown1 : (wr.drewN nq).ownsRow w1.heap.size 3 1 (.slice (some ⟨g, 0, none⟩) k cap2) k ((lindleyM xs k).map (Value.int .i64)) := hown0
        clear h1 h2 h3 h4
        go_wp2_with (at_builtin; (refine app_row rowI rfl _ _ rfl w1.heap.size rfl hown1 [.int .i64 _] rfl (by first | rfl | simp) rfl (encI_one _) (by unfold maxLen; omega) (by omega) hsz ?_))
        all_goals
          intro v' w2 hown2 hb2
          have hb3 := (below_drewN' hb nq).trans hb2
          clear hown0 hown1 hb2 hwr hown
          have hown3 : w2.ownsRow w1.heap.size 3 1 v' (k + 1) ((lindleyM xs (k + 1)).map (Value.int .i64)) := by
            rw [HL.out, HS.out, List.map_append]
            first
              | (rw [if_pos (by assumption)]; exact hown2)
              | (rw [if_neg (Int.not_lt.mpr (by assumption))]; exact hown2)
          clear hown2
          go_wp2
          exact ⟨⟨k + 1, by omega, by go_num, hown3, hb3⟩, by simp [intOf]; omega⟩
      · have hk00 : ¬ (0 : Int) < (k : Int) := by omega
        have HS : Hid (lindley xs k = 0) := by
          show _ = _
          rw [show k = 0 by omega]; rfl
        clear hc hx hx1
        go_wp2_with (at_builtin; (refine app_row rowI rfl _ _ rfl w1.heap.size rfl hown [.int .i64 0] rfl (by first | rfl | simp) rfl (encI_one _) (by unfold maxLen; omega) (by omega) hsz ?_))
        intro v' w2 hown2 hb2
        have hown3 : w2.ownsRow w1.heap.size 3 1 v' (k + 1) ((lindleyM xs (k + 1)).map (Value.int .i64)) := by
          rw [HL.out, HS.out, List.map_append]
          exact hown2
        clear hown2 hown
        go_wp2
        exact ⟨⟨k + 1, by omega, by go_num, hown3, hb.trans hb2⟩, by simp [intOf]; omega⟩
    · obtain rfl : k = xs.length := by omega
      obtain ⟨a', cap', rfl, he, _⟩ := ints_of_owns (by rw [lindleyM_len]) hown
      clear hx hx1 hown
      go_wp2
      go_ret2
      exact ⟨a', _, cap', _, rfl, rfl, he, rfl, below_next hb1 hb⟩
end Go.Proofs.YtkfjmmoljhekiaaDoor
