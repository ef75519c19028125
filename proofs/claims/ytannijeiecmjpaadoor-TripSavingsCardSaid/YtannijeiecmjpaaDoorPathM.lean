/- Chapter 5 in plain words: what is wrong with jobs; when each begins; how long each waits. No program in sight. -/
import Derived.Test.YtannijeiecmjpaaDoorBase
namespace Go.Proofs.YtannijeiecmjpaaDoor
open Go.RowKit

/-- 5.1: a job that may not be. -/
def badJob (x : R3) : Bool := decide (x.1 < 0) || decide (1000000000 < x.1) || decide (x.2.1 < 1) || decide (1000000000 < x.2.1) || decide (x.2.2 < 0) || decide (9 < x.2.2)
def early (p : Option Int) (x : Int) : Bool := match p with | some a => decide (x < a) | none => false
/-- From a job on, behind one that came at p. -/
def jobsFrom : Option Int → List R3 → Int
  | _, [] => 0
  | p, x :: xs => if badJob x = true then 2 else if early p x.1 = true then 12 else jobsFrom (some x.1) xs
def jobsCheck (xs : List R3) : Int := if 60 < xs.length then 4 else jobsFrom none xs
def prv (xs : List R3) (k : Nat) : Option Int := if k = 0 then none else (xs[k - 1]?).map (·.1)

theorem jobs_here (xs : List R3) (k : Nat) (h : k < xs.length) (p : Option Int) : jobsFrom p (xs.drop k) = if badJob xs[k] = true then 2 else if early p xs[k].1 = true then 12 else jobsFrom (some xs[k].1) (xs.drop (k + 1)) := by
  rw [List.drop_eq_getElem_cons h]
  rfl
theorem prv_succ (xs : List R3) (k : Nat) (h : k < xs.length) : prv xs (k + 1) = some xs[k].1 := by
  simp [prv, h]
theorem jobs_bad {xs : List R3} {k : Nat} (h : k < xs.length) (p : Option Int) (hb : badJob xs[k] = true) : jobsFrom p (xs.drop k) = 2 := by
  rw [jobs_here xs k h, if_pos hb]
theorem jobs_late {xs : List R3} {k : Nat} (h : k < xs.length) (p : Option Int) (hb : badJob xs[k] = false) (he : early p xs[k].1 = true) : jobsFrom p (xs.drop k) = 12 := by
  rw [jobs_here xs k h, if_neg (by simp [hb]), if_pos he]
theorem jobs_good {xs : List R3} {k : Nat} (h : k < xs.length) (p : Option Int) (hb : badJob xs[k] = false) (he : early p xs[k].1 = false) : jobsFrom p (xs.drop k) = jobsFrom (prv xs (k + 1)) (xs.drop (k + 1)) := by
  rw [jobs_here xs k h, if_neg (by simp [hb]), if_neg (by simp [he]), prv_succ xs k h]
theorem jobs_done (xs : List R3) (p : Option Int) : jobsFrom p (xs.drop xs.length) = 0 := by simp [jobsFrom]

/-- What holds of jobs that may be. -/
theorem jobs_ok {xs : List R3} {p : Option Int} (h : jobsFrom p xs = 0) : ∀ x ∈ xs, badJob x = false := by
  induction xs generalizing p with
  | nil => intro x hx; simp at hx
  | cons y ys ih =>
    intro x hx
    unfold jobsFrom at h
    by_cases hb : badJob y = true
    · rw [if_pos hb] at h; omega
    · rw [if_neg hb] at h
      by_cases he : early p y.1 = true
      · rw [if_pos he] at h; omega
      · rw [if_neg he] at h
        rcases List.mem_cons.1 hx with rfl | hx
        · simpa using hb
        · exact ih h x hx
theorem jobs_ok_len {xs : List R3} (h : jobsCheck xs = 0) : xs.length ≤ 60 := by
  unfold jobsCheck at h
  by_cases hl : 60 < xs.length
  · rw [if_pos hl] at h; omega
  · omega
theorem jobs_ok_job {xs : List R3} (h : jobsCheck xs = 0) (j : Nat) (hj : j < xs.length) : 0 ≤ xs[j].1 ∧ xs[j].1 ≤ 1000000000 ∧ 1 ≤ xs[j].2.1 ∧ xs[j].2.1 ≤ 1000000000 ∧ 0 ≤ xs[j].2.2 ∧ xs[j].2.2 ≤ 9 := by
  have hl := jobs_ok_len h
  unfold jobsCheck at h
  rw [if_neg (by omega)] at h
  have hb := jobs_ok h xs[j] (List.getElem_mem hj)
  simp only [badJob, Bool.or_eq_false_iff, decide_eq_false_iff_not] at hb
  omega
/-- They come in order. -/
theorem jobs_sorted {xs : List R3} {p : Option Int} (h : jobsFrom p xs = 0) : ∀ j (hj : j + 1 < xs.length), xs[j].1 ≤ xs[j + 1].1 := by
  induction xs generalizing p with
  | nil => intro j hj; simp at hj
  | cons y ys ih =>
    intro j hj
    unfold jobsFrom at h
    by_cases hb : badJob y = true
    · rw [if_pos hb] at h; omega
    rw [if_neg hb] at h
    by_cases he : early p y.1 = true
    · rw [if_pos he] at h; omega
    rw [if_neg he] at h
    rcases j with _ | j
    · cases ys with
      | nil => simp at hj
      | cons z zs =>
        unfold jobsFrom at h
        by_cases hb2 : badJob z = true
        · rw [if_pos hb2] at h; omega
        rw [if_neg hb2] at h
        by_cases he2 : early (some y.1) z.1 = true
        · rw [if_pos he2] at h; omega
        simp only [early, decide_eq_true_eq] at he2
        simp only [List.getElem_cons_zero, List.getElem_cons_succ]
        omega
    · simp only [List.getElem_cons_succ]
      exact ih h j (by simpa using hj)
theorem jobs_ok_sorted {xs : List R3} (h : jobsCheck xs = 0) (j : Nat) (hj : j + 1 < xs.length) : xs[j].1 ≤ xs[j + 1].1 := by
  have hl := jobs_ok_len h
  unfold jobsCheck at h
  rw [if_neg (by omega)] at h
  exact jobs_sorted h j hj
theorem badJob_no {x : R3} (h1 : 0 ≤ x.1) (h2 : x.1 ≤ 1000000000) (h3 : 1 ≤ x.2.1) (h4 : x.2.1 ≤ 1000000000) (h5 : 0 ≤ x.2.2) (h6 : x.2.2 ≤ 9) : badJob x = false := by
  simp [badJob]; omega

/-! ### 5.2 -/
/-- Of the first i servers the first that is free the soonest. -/
def soonest (free : List Int) (i : Nat) : Nat := (List.range i).foldl (fun k i => if free.getD i 0 < free.getD k 0 then i else k) 0
theorem soonest_succ (free : List Int) (i : Nat) : soonest free (i + 1) = if free.getD i 0 < free.getD (soonest free i) 0 then i else soonest free i := by
  unfold soonest
  rw [List.range_succ, List.foldl_append]
  rfl
theorem soonest_lt (free : List Int) (i : Nat) (h : 0 < i) : soonest free i < i := by
  induction i with
  | zero => omega
  | succ i ih =>
    rw [soonest_succ]
    split
    · omega
    · rcases Nat.eq_zero_or_pos i with rfl | h'
      · simp [soonest]
      · have := ih h'; omega
/-- When a job begins that the soonest server takes. -/
def beginAt (free : List Int) (j : R3) : Int := if free.getD (soonest free free.length) 0 < j.1 then j.1 else free.getD (soonest free free.length) 0
def serve (free : List Int) (j : R3) : List Int := free.set (soonest free free.length) (wrap64 (beginAt free j + j.2.1))
/-- The servers behind the first k jobs, and when these began. -/
def freeAt (xs : List R3) (s k : Nat) : List Int := (xs.take k).foldl serve (List.replicate s 0)
theorem freeAt_succ (xs : List R3) (s k : Nat) (h : k < xs.length) : freeAt xs s (k + 1) = serve (freeAt xs s k) xs[k] := foldl_take serve _ xs k h
theorem freeAt_len (xs : List R3) (s k : Nat) : (freeAt xs s k).length = s := by
  have : ∀ (l : List R3) (f : List Int), (l.foldl serve f).length = f.length := by
    intro l
    induction l with
    | nil => intro f; rfl
    | cons x l ih => intro f; rw [List.foldl_cons, ih]; simp [serve]
  rw [freeAt, this]; simp
def beginsM (xs : List R3) (s k : Nat) : List Int := (List.range k).map fun i => beginAt (freeAt xs s i) (xs.getD i (0, 0, 0))
theorem beginsM_succ (xs : List R3) (s k : Nat) (h : k < xs.length) : beginsM xs s (k + 1) = beginsM xs s k ++ [beginAt (freeAt xs s k) xs[k]] := by
  unfold beginsM
  rw [List.range_succ, List.map_append]
  simp [h]
theorem beginsM_len (xs : List R3) (s k : Nat) : (beginsM xs s k).length = k := by simp [beginsM]
/-- Lindley's. -/
def lindley (xs : List R3) : Nat → Int
  | 0 => 0
  | k + 1 => let v := wrap64 (wrap64 (lindley xs k + (xs.getD k (0, 0, 0)).2.1) - wrap64 ((xs.getD (k + 1) (0, 0, 0)).1 - (xs.getD k (0, 0, 0)).1)); if 0 < v then v else 0
def lindleyM (xs : List R3) (k : Nat) : List Int := (List.range k).map (lindley xs)
theorem lindleyM_succ (xs : List R3) (k : Nat) : lindleyM xs (k + 1) = lindleyM xs k ++ [lindley xs k] := by
  unfold lindleyM
  rw [List.range_succ, List.map_append]
  rfl
theorem lindleyM_len (xs : List R3) (k : Nat) : (lindleyM xs k).length = k := by simp [lindleyM]
/-- The reference's waits: when each begins by one server, less when it came. -/
def waitsM (xs : List R3) (k : Nat) : List Int := (List.range k).map fun i => wrap64 ((beginsM xs 1 xs.length).getD i 0 - (xs.getD i (0, 0, 0)).1)
theorem waitsM_succ (xs : List R3) (k : Nat) : waitsM xs (k + 1) = waitsM xs k ++ [wrap64 ((beginsM xs 1 xs.length).getD k 0 - (xs.getD k (0, 0, 0)).1)] := by
  unfold waitsM
  rw [List.range_succ, List.map_append]
  rfl
theorem waitsM_len (xs : List R3) (k : Nat) : (waitsM xs k).length = k := by simp [waitsM]
end Go.Proofs.YtannijeiecmjpaaDoor
