/- The law PathMany: what the program's Many answers is the reference's. -/
import Derived.Test.YtkfjmmoljhekiaaDoorPathMany
import Derived.Test.YtkfjmmoljhekiaaDoorPathJobs
import Derived.Test.YtkfjmmoljhekiaaDoorSame
namespace Go.Proofs.YtkfjmmoljhekiaaDoor
open Go.RowKit

set_option maxRecDepth 100000 in
set_option maxHeartbeats 4000000 in
theorem many_law (a : Option Addr) (n cap : Nat) (si : Int) (xs : List R3) (w : World) (hg : Hnd w) (hl : n = xs.length) (hn : n ≤ maxLen) (hx : Elems enc3 3 w a xs) :
    Calls Tryd.prog 4 #[.slice a n cap, .int .i64 si] w fun e w' => e = .returned (.bool true) ∧ Below w.heap.size w w' := by
  subst hl
  unfold maxLen at hn
  by_cases hA : 100 < xs.length
  · have hd : decide ((100 : Int) < (xs.length : Int)) = true := by simp; omega
    go_enter Tryd.func4, Tryd.ntmps4
    go_wp2
    go_ret
    exact ⟨rfl, Below.refl _ _⟩
  have hd : decide ((100 : Int) < (xs.length : Int)) = false := by simp; omega
  have H0 : ∀ ys, Hid (manyErr xs si = 0 → ys = beginsM xs si.toNat xs.length) → manyErr xs si = 0 → ys = beginsM xs si.toNat xs.length := fun _ h => h.out
  by_cases hC : jobsCheck xs = 0
  case neg =>
    have hE : manyErr xs si = jobsCheck xs := if_pos hC
    have HE := Lib.hid hE
    have HC := Lib.hid hC
    have hb0 : (jobsCheck xs == 0) = false := by simpa using hC
    clear hC hE
    go_enter Tryd.func4, Tryd.ntmps4
    go_wp2_with fail
    refine (jobs_any _ _ _ xs _ (by omega) rfl hx).mono ?_
    rintro e w1 ⟨a1, c1, rfl, he1, hb1⟩
    go_wp2_with fail
    refine (refCheck_any _ _ _ xs _ rfl (by unfold maxLen; omega) he1).mono ?_
    rintro e w2 ⟨rfl, hb2⟩
    have h02 := below_next hb1 hb2
    go_wp2_with fail
    refine (many_any _ _ _ si xs _ rfl (by omega) (hx.at h02)).mono ?_
    rintro e w3 ⟨a3, n3, c3, ys, rfl, hn3, he3, hy0, hy1, hb3⟩
    have hys := hy1 (by rw [HE.out]; exact HC.out)
    subst hys
    subst hn3
    rw [HE.out]
    have h03 := below_next h02 hb3
    clear hy0 hy1
    go_wp2_with fail
    refine (ints_any (jobsCheck xs) _ _ _ _ _ _ [] [] _ (hg.at h03) rfl rfl (by simp) (by simp) (Or.inl rfl) (Or.inl rfl) (fun _ => rfl) (fun _ => rfl)).mono ?_
    rintro e w4 ⟨rfl, hb4⟩
    go_wp2
    go_ret
    exact ⟨rfl, below_next h03 hb4⟩
  have hV : jobsCheck xs = 0 := hC
  have hlen := jobs_ok_len hC
  by_cases hS : si < 1 ∨ 20 < si
  case pos =>
    have hE : manyErr xs si = 4 := by unfold manyErr; rw [if_neg (by simp [hC]), if_pos hS]
    have HE := Lib.hid hE
    have HC := Lib.hid hC
    clear hC hE hV
    by_cases hS1 : si < 1
    all_goals
      go_enter Tryd.func4, Tryd.ntmps4
      go_wp2_with fail
      refine (jobs_any _ _ _ xs _ (by omega) rfl hx).mono ?_
      rintro e w1 ⟨a1, c1, rfl, he1, hb1⟩
      go_wp2_with fail
      refine (refCheck_any _ _ _ xs _ rfl (by unfold maxLen; omega) he1).mono ?_
      rintro e w2 ⟨rfl, hb2⟩
      rw [HC.out]
      have h02 := below_next hb1 hb2
      go_wp2_with fail
    · refine (many_any _ _ _ si xs _ rfl (by omega) (hx.at h02)).mono ?_
      rintro e w3 ⟨a3, n3, c3, ys, rfl, hn3, he3, hy0, hy1, hb3⟩
      have hys := hy1 (by rw [HE.out]; decide)
      subst hys
      subst hn3
      rw [HE.out]
      have h03 := below_next h02 hb3
      clear hy0 hy1
      go_wp2_with fail
      refine (ints_any 4 _ _ _ _ _ _ [] [] _ (hg.at h03) rfl rfl (by simp) (by simp) (Or.inl rfl) (Or.inl rfl) (fun _ => rfl) (fun _ => rfl)).mono ?_
      rintro e w4 ⟨rfl, hb4⟩
      go_wp2
      go_ret
      exact ⟨rfl, below_next h03 hb4⟩
    · refine (many_any _ _ _ si xs _ rfl (by omega) (hx.at h02)).mono ?_
      rintro e w3 ⟨a3, n3, c3, ys, rfl, hn3, he3, hy0, hy1, hb3⟩
      have hys := hy1 (by rw [HE.out]; decide)
      subst hys
      subst hn3
      rw [HE.out]
      have h03 := below_next h02 hb3
      clear hy0 hy1
      go_wp2_with fail
      refine (ints_any 4 _ _ _ _ _ _ [] [] _ (hg.at h03) rfl rfl (by simp) (by simp) (Or.inl rfl) (Or.inl rfl) (fun _ => rfl) (fun _ => rfl)).mono ?_
      rintro e w4 ⟨rfl, hb4⟩
      go_wp2
      go_ret
      exact ⟨rfl, below_next h03 hb4⟩
  obtain ⟨s, rfl⟩ := Int.eq_ofNat_of_zero_le (show 0 ≤ si by omega)
  have hE : manyErr xs s = 0 := by unfold manyErr; rw [if_neg (by simp [hC]), if_neg hS]
  have HE := Lib.hid hE
  have HC := Lib.hid hC
  have hs1 : 1 ≤ s := by omega
  have hs2 : s ≤ 20 := by omega
  clear hC hE hV hS H0
  go_enter Tryd.func4, Tryd.ntmps4
  go_wp2_with fail
  refine (jobs_any _ _ _ xs _ (by omega) rfl hx).mono ?_
  rintro e w1 ⟨a1, c1, rfl, he1, hb1⟩
  go_wp2_with fail
  refine (refCheck_any _ _ _ xs _ rfl (by unfold maxLen; omega) he1).mono ?_
  rintro e w2 ⟨rfl, hb2⟩
  rw [HC.out]
  have h02 := below_next hb1 hb2
  go_wp2_with fail
  refine (begins_any _ _ _ s xs _ rfl (by omega) hs1 hs2 (he1.at hb2)).mono ?_
  rintro e w3 ⟨a3, c3, rfl, he3, hb3⟩
  have h03 := below_next h02 hb3
  go_wp2_with fail
  refine (many_any _ _ _ s xs _ rfl (by omega) (hx.at h03)).mono ?_
  rintro e w4 ⟨a4, n4, c4, ys, rfl, hn4, he4, hy0, hy1, hb4⟩
  have hys := hy0 HE.out
  rw [Int.toNat_natCast] at hys
  subst hys
  rw [HE.out]
  rw [beginsM_len] at hn4
  subst hn4
  have h04 := below_next h03 hb4
  clear hy0 hy1
  have hbl := beginsM_len xs s xs.length
  have HBL := Lib.hid hbl
  clear hbl
  go_wp2_with fail
  refine (ints_any 0 _ _ _ _ _ _ _ _ _ (hg.at h04) HBL.out.symm HBL.out.symm (by rw [HBL.out]; omega) (by rw [HBL.out]; omega) he4 (he3.at hb4) (fun _ => rfl) (fun h => absurd rfl h)).mono ?_
  rintro e w5 ⟨rfl, hb5⟩
  go_wp2
  go_ret
  exact ⟨rfl, below_next h04 hb5⟩
end Go.Proofs.YtkfjmmoljhekiaaDoor
