/- The law LineEnds: the program's ends are the reference's. -/
import Derived.Test.YtkfjmmoljhekiaaDoorLineEnds
import Derived.Test.YtkfjmmoljhekiaaDoorLineTasks
import Derived.Test.YtkfjmmoljhekiaaDoorSame
namespace Go.Proofs.YtkfjmmoljhekiaaDoor
open Go.RowKit

set_option maxRecDepth 100000 in
set_option maxHeartbeats 4000000 in
theorem lineEnds_law (a a2 : Option Addr) (n n2 cap cap2 : Nat) (xs : List R3) (row : List Int) (w : World) (hg : Hnd w) (hl : n = xs.length) (hl2 : n2 = row.length) (hn : n ≤ maxLen) (hn2 : n2 ≤ maxLen) (hcap : n2 ≤ cap2) (hx : Elems enc3 3 w a xs) (hr : Elems encI 1 w a2 row) :
    Calls Tryd.prog 8 #[.slice a n cap, .slice a2 n2 cap2] w fun e w' => e = .returned (.bool true) ∧ Below w.heap.size w w' := by
  subst hl; subst hl2
  unfold maxLen at hn hn2
  by_cases hA : 100 < xs.length
  · have hd : decide ((100 : Int) < (xs.length : Int)) = true := by simp; omega
    go_enter Tryd.func8, Tryd.ntmps8
    go_wp2
    go_ret
    exact ⟨rfl, Below.refl _ _⟩
  have hd : decide ((100 : Int) < (xs.length : Int)) = false := by simp; omega
  by_cases hB : 100 < row.length
  · have hd2 : decide ((100 : Int) < (row.length : Int)) = true := by simp; omega
    go_enter Tryd.func8, Tryd.ntmps8
    go_wp2
    go_ret
    exact ⟨rfl, Below.refl _ _⟩
  have hd2 : decide ((100 : Int) < (row.length : Int)) = false := by simp; omega
  have hol : (outM xs row row.length).length = xs.length := outM_len _ _ _
  have HOL := Lib.hid hol
  clear hol
  have HEQ : ∀ ys zs, (endsErr xs row = 0 → ys = outM xs row row.length) → (endsErr xs row = 0 → zs = outM xs row row.length) → endsErr xs row = 0 → ys = zs := fun ys zs h1 h2 h => (h1 h).trans (h2 h).symm
  have HLE : ∀ ys, (endsErr xs row = 0 → ys = outM xs row row.length) → (endsErr xs row ≠ 0 → ys = []) → ys.length ≤ 1000 := by
    intro ys h1 h2
    by_cases h : endsErr xs row = 0
    · rw [h1 h, HOL.out]; omega
    · rw [h2 h]; simp
  go_enter Tryd.func8, Tryd.ntmps8
  go_wp2_with fail
  refine (tasks_any _ _ _ xs _ (by omega) rfl hx).mono ?_
  rintro e w1 ⟨a1, c1, rfl, he1, hb1⟩
  go_wp2_with fail
  refine (refEnds_any _ _ _ _ _ _ xs row _ rfl rfl (by omega) (by omega) he1 (hr.at hb1) hcap).mono ?_
  rintro e w2 ⟨a2', n2', c2', ys, rfl, rfl, he2, hy0, hy1, hb2⟩
  have h02 := below_next hb1 hb2
  have hyl := HLE ys hy0 hy1
  have Y0 := Lib.hid hy0
  have Y1 := Lib.hid hy1
  clear hy0 hy1
  go_wp2_with fail
  refine (ends_any _ _ _ _ _ _ xs row _ rfl rfl (by omega) (by omega) (hx.at h02) (hr.at h02)).mono ?_
  rintro e w3 ⟨a3, n3, c3, zs, rfl, rfl, he3, hz0, hz1, hb3⟩
  have h03 := below_next h02 hb3
  have hzl := HLE zs hz0 hz1
  have Z0 := Lib.hid hz0
  have Z1 := Lib.hid hz1
  clear hz0 hz1
  go_wp2_with fail
  refine (ints_any (endsErr xs row) _ _ _ _ _ _ zs ys _ (hg.at h03) rfl rfl hzl hyl he3 (he2.at hb3) (HEQ _ _ Z0.out Y0.out) (fun h => by rw [Z1.out h]; rfl)).mono ?_
  rintro e w4 ⟨rfl, hb4⟩
  go_wp2
  go_ret
  exact ⟨rfl, below_next h03 hb4⟩
end Go.Proofs.YtkfjmmoljhekiaaDoor
