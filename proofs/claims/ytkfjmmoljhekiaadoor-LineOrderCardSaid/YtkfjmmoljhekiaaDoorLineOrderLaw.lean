/- The law LineOrder: Check and Order tell what the reference tells. -/
import Derived.Test.YtkfjmmoljhekiaaDoorLineChk
import Derived.Test.YtkfjmmoljhekiaaDoorLineOrd
import Derived.Test.YtkfjmmoljhekiaaDoorLineTasks
namespace Go.Proofs.YtkfjmmoljhekiaaDoor
open Go.RowKit

set_option maxRecDepth 100000 in
set_option maxHeartbeats 4000000 in
theorem lineOrder_law (a a2 : Option Addr) (n n2 cap cap2 : Nat) (ni : Int) (xs : List R3) (row : List Int) (w : World) (hg : Hnd w) (hl : n = xs.length) (hl2 : n2 = row.length) (hn : n ≤ maxLen) (hn2 : n2 ≤ maxLen) (hcap : n2 ≤ cap2) (hx : Elems enc3 3 w a xs) (hr : Elems encI 1 w a2 row) :
    Calls Tryd.prog 7 #[.slice a n cap, .slice a2 n2 cap2, .int .i64 ni] w fun e w' => e = .returned (.bool true) ∧ Below w.heap.size w w' := by
  subst hl; subst hl2
  unfold maxLen at hn hn2
  by_cases hA : 100 < xs.length
  · have hd : decide ((100 : Int) < (xs.length : Int)) = true := by simp; omega
    go_enter Tryd.func7, Tryd.ntmps7
    go_wp2
    go_ret
    exact ⟨rfl, Below.refl _ _⟩
  have hd : decide ((100 : Int) < (xs.length : Int)) = false := by simp; omega
  by_cases hB : 100 < row.length
  · have hd2 : decide ((100 : Int) < (row.length : Int)) = true := by simp; omega
    go_enter Tryd.func7, Tryd.ntmps7
    go_wp2
    go_ret
    exact ⟨rfl, Below.refl _ _⟩
  have hd2 : decide ((100 : Int) < (row.length : Int)) = false := by simp; omega
  have hq1 : (tasksCheck xs == tasksCheck xs) = true := by simp
  have hq2 : (orderM row ni == orderM row ni) = true := by simp
  go_enter Tryd.func7, Tryd.ntmps7
  go_wp2_with fail
  refine (lcheck_any _ _ _ xs _ rfl (by unfold maxLen; omega) hx).mono ?_
  rintro e w1 ⟨rfl, hb1⟩
  go_wp2_with fail
  refine (tell_any _ _ (hg.at hb1)).mono ?_
  rintro e w2 ⟨rfl, hb2⟩
  have h02 := below_next hb1 hb2
  go_wp2_with fail
  refine (tasks_any _ _ _ xs _ (by omega) rfl (hx.at h02)).mono ?_
  rintro e w3 ⟨a3, c3, rfl, he3, hb3⟩
  have h03 := below_next h02 hb3
  go_wp2_with fail
  refine (lrefCheck_any _ _ _ xs _ rfl (by unfold maxLen; omega) he3).mono ?_
  rintro e w4 ⟨rfl, hb4⟩
  have h04 := below_next h03 hb4
  go_wp2_with fail
  refine (order_any _ _ _ ni row _ rfl (by omega) (hr.at h04)).mono ?_
  rintro e w5 ⟨rfl, hb5⟩
  have h05 := below_next h04 hb5
  go_wp2_with fail
  refine (tell_any _ _ (hg.at h05)).mono ?_
  rintro e w6 ⟨rfl, hb6⟩
  have h06 := below_next h05 hb6
  go_wp2_with fail
  refine (refOrder_any _ _ _ ni row _ rfl (by omega) (hr.at h06) hcap).mono ?_
  rintro e w7 ⟨rfl, hb7⟩
  go_wp2
  go_ret
  exact ⟨rfl, below_next h06 hb7⟩
end Go.Proofs.YtkfjmmoljhekiaaDoor
