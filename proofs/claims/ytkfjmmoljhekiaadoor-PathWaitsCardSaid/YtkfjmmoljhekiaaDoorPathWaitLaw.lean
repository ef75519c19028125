/- The law PathWaits: Lindley's waits are the reference's, and Check tells the reference's error. -/
import Derived.Test.YtkfjmmoljhekiaaDoorPathWait
import Derived.Test.YtkfjmmoljhekiaaDoorPathJobs
import Derived.Test.YtkfjmmoljhekiaaDoorPathL
import Derived.Test.YtkfjmmoljhekiaaDoorSame
namespace Go.Proofs.YtkfjmmoljhekiaaDoor
open Go.RowKit

set_option maxRecDepth 100000 in
set_option maxHeartbeats 4000000 in
theorem waits_law (a : Option Addr) (n cap : Nat) (xs : List R3) (w : World) (hg : Hnd w) (hl : n = xs.length) (hn : n ≤ maxLen) (hx : Elems enc3 3 w a xs) :
    Calls Tryd.prog 3 #[.slice a n cap] w fun e w' => e = .returned (.bool true) ∧ Below w.heap.size w w' := by
  subst hl
  unfold maxLen at hn
  by_cases hA : 100 < xs.length
  · have hd : decide ((100 : Int) < (xs.length : Int)) = true := by simp; omega
    go_enter Tryd.func3, Tryd.ntmps3
    go_wp2
    go_ret
    exact ⟨rfl, Below.refl _ _⟩
  have hd : decide ((100 : Int) < (xs.length : Int)) = false := by simp; omega
  by_cases hC : jobsCheck xs = 0
  case neg =>
    have HC := Lib.hid hC
    have hb0 : (jobsCheck xs == 0) = false := by simpa using hC
    clear hC
    go_enter Tryd.func3, Tryd.ntmps3
    go_wp2_with fail
    refine (jobs_any _ _ _ xs _ (by omega) rfl hx).mono ?_
    rintro e w1 ⟨a1, c1, rfl, he1, hb1⟩
    go_wp2_with fail
    refine (refCheck_any _ _ _ xs _ rfl (by unfold maxLen; omega) he1).mono ?_
    rintro e w2 ⟨rfl, hb2⟩
    have h02 := below_next hb1 hb2
    go_wp2_with fail
    refine (waits_any _ _ _ xs _ rfl (by omega) (hx.at h02)).mono ?_
    rintro e w3 ⟨a3, n3, c3, ys, rfl, hn3, he3, hy0, hy1, hb3⟩
    have hys := hy1 HC.out
    subst hys
    subst hn3
    have h03 := below_next h02 hb3
    clear hy0 hy1
    go_wp2_with fail
    refine (check_any _ _ _ xs _ rfl (by unfold maxLen; omega) (hx.at h03)).mono ?_
    rintro e w4 ⟨rfl, hb4⟩
    have h04 := below_next h03 hb4
    go_wp2_with fail
    refine (tell_any _ _ (hg.at h04)).mono ?_
    rintro e w5 ⟨rfl, hb5⟩
    have h05 := below_next h04 hb5
    go_wp2_with fail
    refine (ints_any (jobsCheck xs) _ _ _ _ _ _ [] [] _ (hg.at h05) rfl rfl (by simp) (by simp) (Or.inl rfl) (Or.inl rfl) (fun _ => rfl) (fun _ => rfl)).mono ?_
    rintro e w6 ⟨rfl, hb6⟩
    go_wp2
    go_ret
    exact ⟨rfl, below_next h05 hb6⟩
  have HQ := Lib.hid (waits_eq hC)
  have HC := Lib.hid hC
  clear hC
  go_enter Tryd.func3, Tryd.ntmps3
  go_wp2_with fail
  refine (jobs_any _ _ _ xs _ (by omega) rfl hx).mono ?_
  rintro e w1 ⟨a1, c1, rfl, he1, hb1⟩
  go_wp2_with fail
  refine (refCheck_any _ _ _ xs _ rfl (by unfold maxLen; omega) he1).mono ?_
  rintro e w2 ⟨rfl, hb2⟩
  rw [HC.out]
  have h02 := below_next hb1 hb2
  go_wp2_with fail
  refine (refWaits_any _ _ _ xs _ rfl (by omega) (he1.at hb2)).mono ?_
  rintro e w3 ⟨a3, c3, rfl, he3, hb3⟩
  have h03 := below_next h02 hb3
  go_wp2_with fail
  refine (waits_any _ _ _ xs _ rfl (by omega) (hx.at h03)).mono ?_
  rintro e w4 ⟨a4, n4, c4, ys, rfl, hn4, he4, hy0, hy1, hb4⟩
  have hys := hy0 HC.out
  rw [HC.out]
  subst hys
  rw [lindleyM_len] at hn4
  subst hn4
  have h04 := below_next h03 hb4
  clear hy0 hy1
  go_wp2_with fail
  refine (check_any _ _ _ xs _ rfl (by unfold maxLen; omega) (hx.at h04)).mono ?_
  rintro e w5 ⟨rfl, hb5⟩
  have h05 := below_next h04 hb5
  go_wp2_with fail
  refine (tell_any _ _ (hg.at h05)).mono ?_
  rintro e w6 ⟨rfl, hb6⟩
  rw [HC.out]
  have h06 := below_next h05 hb6
  have hll := Lib.hid (lindleyM_len xs xs.length)
  have hwl := Lib.hid (waitsM_len xs xs.length)
  go_wp2_with fail
  refine (ints_any 0 _ _ _ _ _ _ _ _ _ (hg.at h06) hll.out.symm hwl.out.symm (by rw [hll.out]; omega) (by rw [hwl.out]; omega) (he4.at (below_next hb5 hb6)) (he3.at (below_next hb4 (below_next hb5 hb6))) (fun _ => HQ.out) (fun h => absurd rfl h)).mono ?_
  rintro e w7 ⟨rfl, hb7⟩
  go_wp2
  go_ret
  exact ⟨rfl, below_next h06 hb7⟩
end Go.Proofs.YtkfjmmoljhekiaaDoor
