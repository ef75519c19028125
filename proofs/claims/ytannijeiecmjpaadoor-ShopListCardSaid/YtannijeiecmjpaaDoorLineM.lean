/- Chapter 9 in plain words: what is wrong with tasks and with a row of them; when each is at its end. No program in sight. -/
import Derived.Test.YtannijeiecmjpaaDoorRow
import Derived.IntWalk
namespace Go.Proofs.YtannijeiecmjpaaDoor
open Go.RowKit Go.IntWalk

/-- 9.1: a task that may not be: long, weight, due. -/
def badTask (x : R3) : Bool := decide (x.1 < 0) || decide (1000000000 < x.1) || decide (x.2.1 < 0) || decide (10000 < x.2.1) || decide (x.2.2 < 0) || decide (1000000000 < x.2.2)
def tasksFrom : List R3 → Int
  | [] => 0
  | x :: xs => if badTask x = true then 2 else tasksFrom xs
def tasksCheck (xs : List R3) : Int := if 60 < xs.length then 4 else tasksFrom xs
theorem tasks_here (xs : List R3) (k : Nat) (h : k < xs.length) : tasksFrom (xs.drop k) = if badTask xs[k] = true then 2 else tasksFrom (xs.drop (k + 1)) := by
  rw [List.drop_eq_getElem_cons h]
  rfl
theorem tasks_bad {xs : List R3} {k : Nat} (h : k < xs.length) (hb : badTask xs[k] = true) : tasksFrom (xs.drop k) = 2 := by
  rw [tasks_here xs k h, if_pos hb]
theorem tasks_good {xs : List R3} {k : Nat} (h : k < xs.length) (hb : badTask xs[k] = false) : tasksFrom (xs.drop k) = tasksFrom (xs.drop (k + 1)) := by
  rw [tasks_here xs k h, if_neg (by simp [hb])]
theorem tasks_done (xs : List R3) : tasksFrom (xs.drop xs.length) = 0 := by simp [tasksFrom]
theorem tasks_ok {xs : List R3} (h : tasksFrom xs = 0) : ∀ x ∈ xs, badTask x = false := by
  induction xs with
  | nil => intro x hx; simp at hx
  | cons y ys ih =>
    intro x hx
    unfold tasksFrom at h
    by_cases hb : badTask y = true
    · rw [if_pos hb] at h; omega
    · rw [if_neg hb] at h
      rcases List.mem_cons.1 hx with rfl | hx
      · simpa using hb
      · exact ih h x hx
theorem tasks_ok_len {xs : List R3} (h : tasksCheck xs = 0) : xs.length ≤ 60 := by
  unfold tasksCheck at h
  by_cases hl : 60 < xs.length
  · rw [if_pos hl] at h; omega
  · omega
theorem tasks_ok_task {xs : List R3} (h : tasksCheck xs = 0) (j : Nat) (hj : j < xs.length) : 0 ≤ xs[j].1 ∧ xs[j].1 ≤ 1000000000 ∧ 0 ≤ xs[j].2.1 ∧ xs[j].2.1 ≤ 10000 ∧ 0 ≤ xs[j].2.2 ∧ xs[j].2.2 ≤ 1000000000 := by
  have hl := tasks_ok_len h
  unfold tasksCheck at h
  rw [if_neg (by omega)] at h
  have hb := tasks_ok h xs[j] (List.getElem_mem hj)
  simp only [badTask, Bool.or_eq_false_iff, decide_eq_false_iff_not] at hb
  omega

/-- A row that has each of n things once. -/
def orderFrom (n : Int) : List Int → List Int → Int
  | _, [] => 0
  | pre, x :: xs => if x < 0 ∨ n ≤ x then 2 else if x ∈ pre then 9 else orderFrom n (pre ++ [x]) xs
def orderM (row : List Int) (n : Int) : Int := if (row.length : Int) = n then orderFrom n (row.take 0) (row.drop 0) else 3
theorem order_here (n : Int) (row : List Int) (k : Nat) (h : k < row.length) : orderFrom n (row.take k) (row.drop k) = if row[k] < 0 ∨ n ≤ row[k] then 2 else if row[k] ∈ row.take k then 9 else orderFrom n (row.take (k + 1)) (row.drop (k + 1)) := by
  rw [List.drop_eq_getElem_cons h, List.take_succ_eq_append_getElem h]
  rfl
theorem order_done (n : Int) (row : List Int) : orderFrom n (row.take row.length) (row.drop row.length) = 0 := by simp [orderFrom]
theorem order_all {n : Int} {row : List Int} : ∀ {k : Nat}, orderFrom n (row.take k) (row.drop k) = 0 → ∀ j (h : j < row.length), k ≤ j → (0 ≤ row[j] ∧ row[j] < n ∧ row[j] ∉ row.take j) := by
  intro k h0 j hj hkj
  obtain ⟨d, rfl⟩ : ∃ d, j = k + d := ⟨j - k, by omega⟩
  induction d generalizing k with
  | zero =>
    rw [order_here n row k (by omega)] at h0
    by_cases h1 : row[k] < 0 ∨ n ≤ row[k]
    · rw [if_pos h1] at h0; omega
    rw [if_neg h1] at h0
    by_cases h2 : row[k] ∈ row.take k
    · rw [if_pos h2] at h0; omega
    simp only [Nat.add_zero]
    exact ⟨by omega, by omega, h2⟩
  | succ d ih =>
    rw [order_here n row k (by omega)] at h0
    by_cases h1 : row[k] < 0 ∨ n ≤ row[k]
    · rw [if_pos h1] at h0; omega
    rw [if_neg h1] at h0
    by_cases h2 : row[k] ∈ row.take k
    · rw [if_pos h2] at h0; omega
    rw [if_neg h2] at h0
    have := ih (k := k + 1) h0 (by omega) (by omega)
    simp only [show k + 1 + d = k + (d + 1) by omega] at this
    exact this
theorem order_ok {row : List Int} {n : Int} (h : orderM row n = 0) : (row.length : Int) = n ∧ ∀ j (h : j < row.length), 0 ≤ row[j] ∧ row[j] < n ∧ row[j] ∉ row.take j := by
  unfold orderM at h
  by_cases hl : (row.length : Int) = n
  · rw [if_pos hl] at h
    exact ⟨hl, fun j hj => order_all h j hj (by omega)⟩
  · rw [if_neg hl] at h; omega
/-- Which are seen among the first k. -/
def seenM (s : Nat) (row : List Int) (k : Nat) : List Bool := (List.range s).map fun (i : Nat) => decide ((i : Int) ∈ row.take k)
theorem seenM_len (s : Nat) (row : List Int) (k : Nat) : (seenM s row k).length = s := by simp [seenM]
theorem seenM_zero (s : Nat) (row : List Int) : seenM s row 0 = List.replicate s false := by
  apply List.ext_getElem
  · simp [seenM]
  · intro i h1 h2; simp [seenM]
theorem seenM_get (s : Nat) (row : List Int) (k i : Nat) (h : i < (seenM s row k).length) : (seenM s row k)[i] = decide ((i : Int) ∈ row.take k) := by simp [seenM]
theorem seenM_succ (s : Nat) (row : List Int) (k x : Nat) (h : k < row.length) (hx : row[k] = (x : Int)) : seenM s row (k + 1) = (seenM s row k).set x true := by
  apply List.ext_getElem
  · simp [seenM]
  · intro i h1 h2
    rw [seenM_get, List.take_succ_eq_append_getElem h, List.getElem_set]
    by_cases hi : x = i
    · subst hi; simp [hx]
    · rw [if_neg hi, seenM_get, hx]
      have : ¬ (i : Int) = (x : Int) := by omega
      simp [this]

/-! ### 9.2 -/
def longOf (l : List R3) (i : Int) : Int := (l.getD i.toNat (0, 0, 0)).1
def nowM (l : List R3) (row : List Int) : Nat → Int
  | 0 => 0
  | k + 1 => wrap64 (nowM l row k + longOf l (row.getD k 0))
def outM (l : List R3) (row : List Int) : Nat → List Int
  | 0 => List.replicate l.length 0
  | k + 1 => (outM l row k).set (row.getD k 0).toNat (nowM l row (k + 1))
theorem outM_len (l : List R3) (row : List Int) (k : Nat) : (outM l row k).length = l.length := by
  induction k with
  | zero => simp [outM]
  | succ k ih => simp [outM, ih]
theorem outM_fresh (l : List R3) (row : List Int) (k i : Nat) (hk : k ≤ row.length) (hnn : ∀ j (h : j < row.length), 0 ≤ row[j]) (h : (i : Int) ∉ row.take k) : (outM l row k).getD i 0 = 0 := by
  induction k with
  | zero => simp [outM, List.getD, List.getElem?_replicate]; split <;> rfl
  | succ k ih =>
    have hk' : k < row.length := by omega
    rw [List.take_succ_eq_append_getElem hk'] at h
    simp only [List.mem_append, List.mem_singleton, not_or] at h
    have h1 := ih (by omega) h.1
    have h2 := hnn k hk'
    have hne : (row.getD k 0).toNat ≠ i := by
      rw [getD_lt hk']
      intro he
      exact h.2 (by omega)
    unfold outM
    rw [List.getD, List.getElem?_set_ne hne]
    exact h1
def endsErr (l : List R3) (row : List Int) : Int := if tasksCheck l ≠ 0 then tasksCheck l else orderM row l.length
end Go.Proofs.YtannijeiecmjpaaDoor
