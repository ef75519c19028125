/- What is wrong with calls, in plain words. No program in sight. -/
import Derived.Test.YtannijeiecmjpaaDoorTapeM
namespace Go.Proofs.YtannijeiecmjpaaDoor
open Go.RowKit

/-- 24.1: a call that may not be. -/
def badCall (x : R3) : Bool := decide (x.1 < 0) || decide (1000000000 < x.1) || decide (x.2.1 < 0) || decide (1000000000 < x.2.1) || decide (x.2.2 < 0) || decide (1000000000 < x.2.2)
def earlyC (p : Option Int) (x : Int) : Bool := match p with | some a => decide (x < a) | none => false
/-- From a job on, behind one that came at p. -/
def callsFrom : Option Int → List R3 → Int
  | _, [] => 0
  | p, x :: xs => if badCall x = true then 2 else if earlyC p x.1 = true then 12 else callsFrom (some x.1) xs
def callsCheck (xs : List R3) : Int := if 60 < xs.length then 4 else callsFrom none xs
def prvC (xs : List R3) (k : Nat) : Option Int := if k = 0 then none else (xs[k - 1]?).map (·.1)

theorem calls_here (xs : List R3) (k : Nat) (h : k < xs.length) (p : Option Int) : callsFrom p (xs.drop k) = if badCall xs[k] = true then 2 else if earlyC p xs[k].1 = true then 12 else callsFrom (some xs[k].1) (xs.drop (k + 1)) := by
  rw [List.drop_eq_getElem_cons h]
  rfl
theorem prvC_succ (xs : List R3) (k : Nat) (h : k < xs.length) : prvC xs (k + 1) = some xs[k].1 := by
  simp [prvC, h]
theorem calls_bad {xs : List R3} {k : Nat} (h : k < xs.length) (p : Option Int) (hb : badCall xs[k] = true) : callsFrom p (xs.drop k) = 2 := by
  rw [calls_here xs k h, if_pos hb]
theorem calls_late {xs : List R3} {k : Nat} (h : k < xs.length) (p : Option Int) (hb : badCall xs[k] = false) (he : earlyC p xs[k].1 = true) : callsFrom p (xs.drop k) = 12 := by
  rw [calls_here xs k h, if_neg (by simp [hb]), if_pos he]
theorem calls_good {xs : List R3} {k : Nat} (h : k < xs.length) (p : Option Int) (hb : badCall xs[k] = false) (he : earlyC p xs[k].1 = false) : callsFrom p (xs.drop k) = callsFrom (prvC xs (k + 1)) (xs.drop (k + 1)) := by
  rw [calls_here xs k h, if_neg (by simp [hb]), if_neg (by simp [he]), prvC_succ xs k h]
theorem calls_done (xs : List R3) (p : Option Int) : callsFrom p (xs.drop xs.length) = 0 := by simp [callsFrom]

/-- What holds of calls that may be. -/
theorem calls_ok {xs : List R3} {p : Option Int} (h : callsFrom p xs = 0) : ∀ x ∈ xs, badCall x = false := by
  induction xs generalizing p with
  | nil => intro x hx; simp at hx
  | cons y ys ih =>
    intro x hx
    unfold callsFrom at h
    by_cases hb : badCall y = true
    · rw [if_pos hb] at h; omega
    · rw [if_neg hb] at h
      by_cases he : earlyC p y.1 = true
      · rw [if_pos he] at h; omega
      · rw [if_neg he] at h
        rcases List.mem_cons.1 hx with rfl | hx
        · simpa using hb
        · exact ih h x hx
theorem calls_ok_len {xs : List R3} (h : callsCheck xs = 0) : xs.length ≤ 60 := by
  unfold callsCheck at h
  by_cases hl : 60 < xs.length
  · rw [if_pos hl] at h; omega
  · omega
theorem calls_ok_job {xs : List R3} (h : callsCheck xs = 0) (j : Nat) (hj : j < xs.length) : 0 ≤ xs[j].1 ∧ xs[j].1 ≤ 1000000000 ∧ 0 ≤ xs[j].2.1 ∧ xs[j].2.1 ≤ 1000000000 ∧ 0 ≤ xs[j].2.2 ∧ xs[j].2.2 ≤ 1000000000 := by
  have hl := calls_ok_len h
  unfold callsCheck at h
  rw [if_neg (by omega)] at h
  have hb := calls_ok h xs[j] (List.getElem_mem hj)
  simp only [badCall, Bool.or_eq_false_iff, decide_eq_false_iff_not] at hb
  omega
/-- They come in order. -/
theorem calls_sorted {xs : List R3} {p : Option Int} (h : callsFrom p xs = 0) : ∀ j (hj : j + 1 < xs.length), xs[j].1 ≤ xs[j + 1].1 := by
  induction xs generalizing p with
  | nil => intro j hj; simp at hj
  | cons y ys ih =>
    intro j hj
    unfold callsFrom at h
    by_cases hb : badCall y = true
    · rw [if_pos hb] at h; omega
    rw [if_neg hb] at h
    by_cases he : earlyC p y.1 = true
    · rw [if_pos he] at h; omega
    rw [if_neg he] at h
    rcases j with _ | j
    · cases ys with
      | nil => simp at hj
      | cons z zs =>
        unfold callsFrom at h
        by_cases hb2 : badCall z = true
        · rw [if_pos hb2] at h; omega
        rw [if_neg hb2] at h
        by_cases he2 : earlyC (some y.1) z.1 = true
        · rw [if_pos he2] at h; omega
        simp only [earlyC, decide_eq_true_eq] at he2
        simp only [List.getElem_cons_zero, List.getElem_cons_succ]
        omega
    · simp only [List.getElem_cons_succ]
      exact ih h j (by simpa using hj)
theorem calls_ok_sorted {xs : List R3} (h : callsCheck xs = 0) (j : Nat) (hj : j + 1 < xs.length) : xs[j].1 ≤ xs[j + 1].1 := by
  have hl := calls_ok_len h
  unfold callsCheck at h
  rw [if_neg (by omega)] at h
  exact calls_sorted h j hj
theorem calls_good_all {xs : List R3} (h : callsCheck xs = 0) : GoodC xs := by
  have hl := calls_ok_len h
  have e : ∀ i (hi : i < xs.length), xs.getD i (0, 0, 0) = xs[i] := fun i hi => by simp [List.getD_eq_getElem?_getD, hi]
  refine ⟨hl, fun i hi => ?_, fun i hi => ?_⟩
  · have := calls_ok_job h i hi
    unfold cA cL cD
    rw [e i hi]
    omega
  · have := calls_ok_sorted h i hi
    unfold cA
    rw [e i (by omega), e (i + 1) hi]
    exact this
end Go.Proofs.YtannijeiecmjpaaDoor
