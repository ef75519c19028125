/- The law LineCosts: Cost, Late and Tardy are the reference's. -/
import Derived.Test.YtkfjmmoljhekiaaDoorLineCost
import Derived.Test.YtkfjmmoljhekiaaDoorLineTasks
namespace Go.Proofs.YtkfjmmoljhekiaaDoor
open Go.RowKit

set_option maxRecDepth 100000 in
set_option maxHeartbeats 4000000 in
theorem lineCosts_law (a a2 : Option Addr) (n n2 cap cap2 : Nat) (xs : List R3) (row : List Int) (w : World) (hg : Hnd w) (hl : n = xs.length) (hl2 : n2 = row.length) (hn : n ≤ maxLen) (hn2 : n2 ≤ maxLen) (hcap : n2 ≤ cap2) (hx : Elems enc3 3 w a xs) (hr : Elems encI 1 w a2 row) :
    Calls Tryd.prog 9 #[.slice a n cap, .slice a2 n2 cap2] w fun e w' => e = .returned (.bool true) ∧ Below w.heap.size w w' := by
  subst hl; subst hl2
  unfold maxLen at hn hn2
  by_cases hA : 100 < xs.length
  · have hd : decide ((100 : Int) < (xs.length : Int)) = true := by simp; omega
    go_enter Tryd.func9, Tryd.ntmps9
    go_wp2
    go_ret
    exact ⟨rfl, Below.refl _ _⟩
  have hd : decide ((100 : Int) < (xs.length : Int)) = false := by simp; omega
  by_cases hB : 100 < row.length
  · have hd2 : decide ((100 : Int) < (row.length : Int)) = true := by simp; omega
    go_enter Tryd.func9, Tryd.ntmps9
    go_wp2
    go_ret
    exact ⟨rfl, Below.refl _ _⟩
  have hd2 : decide ((100 : Int) < (row.length : Int)) = false := by simp; omega
  have hz : endsErr xs row ≠ 0 → costM xs (endsM xs row) (endsM xs row).length = 0 ∧ lateM xs (endsM xs row) (endsM xs row).length = 0 ∧ tardyM xs (endsM xs row) (endsM xs row).length = 0 := by
    intro h
    rw [endsM_none h]
    exact ⟨rfl, rfl, rfl⟩
  have HC : ∀ (a : Option Addr) (c : Nat) w, Elems enc3 3 w a xs → Elems encI 1 w a2 row → _ := fun a c w h1 h2 => counts_any a a2 _ _ c cap2 xs row w rfl rfl (by omega) (by omega) h1 h2 hcap
  have H1 := fun w h1 h2 => cost_any a a2 _ _ cap cap2 xs row w rfl rfl (by omega) (by omega) h1 h2
  have H2 := fun w h1 h2 => late_any a a2 _ _ cap cap2 xs row w rfl rfl (by omega) (by omega) h1 h2
  have H3 := fun w h1 h2 => tardy_any a a2 _ _ cap cap2 xs row w rfl rfl (by omega) (by omega) h1 h2
  generalize costM xs (endsM xs row) (endsM xs row).length = c at *
  generalize lateM xs (endsM xs row) (endsM xs row).length = l at *
  generalize tardyM xs (endsM xs row) (endsM xs row).length = t at *
  generalize endsErr xs row = er at *
  have HZ := Lib.hid hz
  clear hz
  go_enter Tryd.func9, Tryd.ntmps9
  go_wp2_with fail
  refine (tasks_any _ _ _ xs _ (by omega) rfl hx).mono ?_
  rintro e w1 ⟨a1, c1, rfl, he1, hb1⟩
  go_wp2_with fail
  refine (HC a1 c1 _ he1 (hr.at hb1)).mono ?_
  rintro e w2 ⟨rfl, hb2⟩
  have h02 := below_next hb1 hb2
  go_wp2_with fail
  refine (H1 _ (hx.at h02) (hr.at h02)).mono ?_
  rintro e w3 ⟨rfl, hb3⟩
  have h03 := below_next h02 hb3
  go_wp2_with fail
  refine (H2 _ (hx.at h03) (hr.at h03)).mono ?_
  rintro e w4 ⟨rfl, hb4⟩
  have h04 := below_next h03 hb4
  go_wp2_with fail
  refine (H3 _ (hx.at h04) (hr.at h04)).mono ?_
  rintro e w5 ⟨rfl, hb5⟩
  have h05 := below_next h04 hb5
  clear HC H1 H2 H3
  go_wp2_with fail
  refine (whole_any er c c _ (hg.at h05) (fun _ => rfl) (fun h => (HZ.out h).1)).mono ?_
  rintro e w6 ⟨rfl, hb6⟩
  have h06 := below_next h05 hb6
  go_wp2_with fail
  refine (whole_any er l l _ (hg.at h06) (fun _ => rfl) (fun h => (HZ.out h).2.1)).mono ?_
  rintro e w7 ⟨rfl, hb7⟩
  have h07 := below_next h06 hb7
  go_wp2_with fail
  refine (whole_any er t t _ (hg.at h07) (fun _ => rfl) (fun h => (HZ.out h).2.2)).mono ?_
  rintro e w8 ⟨rfl, hb8⟩
  go_wp2
  go_ret
  exact ⟨rfl, below_next h07 hb8⟩
end Go.Proofs.YtkfjmmoljhekiaaDoor
