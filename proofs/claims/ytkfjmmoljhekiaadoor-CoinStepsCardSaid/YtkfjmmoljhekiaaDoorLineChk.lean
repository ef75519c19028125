/- line.Check and the reference's TasksCheck: both tell tasksCheck. -/
import Derived.Test.YtkfjmmoljhekiaaDoorRows
import Derived.Test.YtkfjmmoljhekiaaDoorTell
import Derived.Test.YtkfjmmoljhekiaaDoorLineM
namespace Go.Proofs.YtkfjmmoljhekiaaDoor
open Go.RowKit

set_option maxHeartbeats 4000000 in
theorem lcheck_any (a : Option Addr) (n cap : Nat) (xs : List R3) (w : World) (hl : n = xs.length) (hn : n ≤ maxLen) (hx : Elems enc3 3 w a xs) :
    Calls Tryd.prog 28 #[.slice a n cap] w fun e w' => e = .returned (errV (tasksCheck xs)) ∧ Below w.heap.size w w' := by
  subst hl
  unfold maxLen at hn
  by_cases hA : 60 < xs.length
  · have hd : decide ((60 : Int) < (xs.length : Int)) = true := by simp; omega
    have hr : tasksCheck xs = 4 := if_pos hA
    have HR := Lib.hid hr
    clear hr
    go_enter Tryd.func28, Tryd.ntmps28
    go_wp2
    go_ret
    exact ⟨by rw [HR.out]; rfl, Below.refl _ _⟩
  have hd : decide ((60 : Int) < (xs.length : Int)) = false := by simp; omega
  have HR : Hid (tasksCheck xs = tasksFrom (xs.drop 0)) := if_neg hA
  clear hA
  go_enter Tryd.func28, Tryd.ntmps28
  go_wp2
  go_loopw [11] (fun i wr => ∃ k : Nat, k ≤ xs.length ∧ i = .int .i64 k ∧ Hid (tasksCheck xs = tasksFrom (xs.drop k)) ∧ Below w.heap.size w wr) (fun i _ => xs.length - (intOf i).toNat)
  case atStart => exact ⟨0, by omega, rfl, HR, Below.refl _ _⟩
  case round =>
    clear HR
    obtain ⟨k, hk, rfl, HR, hb⟩ := hrel
    by_cases hlt : k < xs.length
    · obtain ⟨b, o, rfl, hc⟩ := hx.some hlt
      have hbB := lt_of_cell (hc k hlt 0 _ rfl)
      simp only at hbB
      have h1 := (hb.cell hbB).trans (hc k hlt 0 _ rfl)
      have h2 := (hb.cell hbB).trans (hc k hlt 1 _ rfl)
      have h3 := (hb.cell hbB).trans (hc k hlt 2 _ rfl)
      simp only [Nat.add_zero] at h1
      have hsz := hb.size
      by_cases hbad : badTask xs[k] = true
      · have HB := Lib.hid (HR.out.trans (tasks_bad hlt hbad))
        clear hc hx HR
        simp only [badTask, Bool.or_eq_true, decide_eq_true_eq] at hbad
        go_wp2_with fail
        all_goals first
          | (go_ret; exact ⟨by rw [HB.out]; rfl, hb.alloc hb.size _⟩)
          | (exfalso; omega)
      · have hgood : badTask xs[k] = false := by simpa using hbad
        have hin : 0 ≤ xs[k].1 ∧ xs[k].1 ≤ 1000000000 ∧ 0 ≤ xs[k].2.1 ∧ xs[k].2.1 ≤ 10000 ∧ 0 ≤ xs[k].2.2 ∧ xs[k].2.2 ≤ 1000000000 := by
          simp only [badTask, Bool.or_eq_false_iff, decide_eq_false_iff_not] at hgood
          omega
        obtain ⟨q1, q2, q3, q4, q5, q6⟩ := hin
        have HB := Lib.hid (HR.out.trans (tasks_good hlt hgood))
        clear hc hx HR hbad hgood
        go_wp2_with fail
        exact ⟨⟨k + 1, by omega, by go_num, HB, hb.alloc hb.size _⟩, by simp [intOf]; omega⟩
    · clear hx
      obtain rfl : k = xs.length := by omega
      have HB := Lib.hid (HR.out.trans (tasks_done xs))
      clear HR
      go_wp2
      go_ret
      exact ⟨by rw [HB.out]; rfl, hb⟩

set_option maxHeartbeats 4000000 in
theorem lrefCheck_any (a : Option Addr) (n cap : Nat) (xs : List R3) (w : World) (hl : n = xs.length) (hn : n ≤ maxLen) (hx : Elems enc3 3 w a xs) :
    Calls Tryd.prog 29 #[.slice a n cap] w fun e w' => e = .returned (.int .i64 (tasksCheck xs)) ∧ Below w.heap.size w w' := by
  subst hl
  unfold maxLen at hn
  by_cases hA : 60 < xs.length
  · have hd : decide ((60 : Int) < (xs.length : Int)) = true := by simp; omega
    have hr : tasksCheck xs = 4 := if_pos hA
    have HR := Lib.hid hr
    clear hr
    go_enter Tryd.func29, Tryd.ntmps29
    go_wp2
    go_ret
    exact ⟨by rw [HR.out]; rfl, Below.refl _ _⟩
  have hd : decide ((60 : Int) < (xs.length : Int)) = false := by simp; omega
  have HR : Hid (tasksCheck xs = tasksFrom (xs.drop 0)) := if_neg hA
  clear hA
  go_enter Tryd.func29, Tryd.ntmps29
  go_wp2
  go_loopw [10] (fun i wr => ∃ k : Nat, k ≤ xs.length ∧ i = .int .i64 k ∧ Hid (tasksCheck xs = tasksFrom (xs.drop k)) ∧ Below w.heap.size w wr) (fun i _ => xs.length - (intOf i).toNat)
  case atStart => exact ⟨0, by omega, rfl, HR, Below.refl _ _⟩
  case round =>
    clear HR
    obtain ⟨k, hk, rfl, HR, hb⟩ := hrel
    by_cases hlt : k < xs.length
    · obtain ⟨b, o, rfl, hc⟩ := hx.some hlt
      have hbB := lt_of_cell (hc k hlt 0 _ rfl)
      simp only at hbB
      have h1 := (hb.cell hbB).trans (hc k hlt 0 _ rfl)
      have h2 := (hb.cell hbB).trans (hc k hlt 1 _ rfl)
      have h3 := (hb.cell hbB).trans (hc k hlt 2 _ rfl)
      simp only [Nat.add_zero] at h1
      have hsz := hb.size
      by_cases hbad : badTask xs[k] = true
      · have HB := Lib.hid (HR.out.trans (tasks_bad hlt hbad))
        clear hc hx HR
        simp only [badTask, Bool.or_eq_true, decide_eq_true_eq] at hbad
        go_wp2_with fail
        all_goals first
          | (go_ret; exact ⟨by rw [HB.out]; rfl, hb.alloc hb.size _⟩)
          | (exfalso; omega)
      · have hgood : badTask xs[k] = false := by simpa using hbad
        have hin : 0 ≤ xs[k].1 ∧ xs[k].1 ≤ 1000000000 ∧ 0 ≤ xs[k].2.1 ∧ xs[k].2.1 ≤ 10000 ∧ 0 ≤ xs[k].2.2 ∧ xs[k].2.2 ≤ 1000000000 := by
          simp only [badTask, Bool.or_eq_false_iff, decide_eq_false_iff_not] at hgood
          omega
        obtain ⟨q1, q2, q3, q4, q5, q6⟩ := hin
        have HB := Lib.hid (HR.out.trans (tasks_good hlt hgood))
        clear hc hx HR hbad hgood
        go_wp2_with fail
        exact ⟨⟨k + 1, by omega, by go_num, HB, hb.alloc hb.size _⟩, by simp [intOf]; omega⟩
    · clear hx
      obtain rfl : k = xs.length := by omega
      have HB := Lib.hid (HR.out.trans (tasks_done xs))
      clear HR
      go_wp2
      go_ret
      exact ⟨by rw [HB.out]; rfl, hb⟩
end Go.Proofs.YtkfjmmoljhekiaaDoor
