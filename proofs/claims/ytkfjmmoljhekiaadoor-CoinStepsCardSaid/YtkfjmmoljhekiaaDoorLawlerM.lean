/- Lawler's row (9.5) in plain words. No program in sight. -/
import Derived.Test.YtkfjmmoljhekiaaDoorLineM
namespace Go.Proofs.YtkfjmmoljhekiaaDoor
open Go.RowKit

/-- A row of n numbers told by their places. -/
def tabI (n : Nat) (f : Nat → Int) : List Int := (List.range n).map f
theorem tabI_len (n : Nat) (f : Nat → Int) : (tabI n f).length = n := by simp [tabI]
theorem tabI_get (n : Nat) (f : Nat → Int) (j : Nat) (h : j < (tabI n f).length) : (tabI n f)[j] = f j := by simp [tabI]
theorem tabI_set {n : Nat} {f g : Nat → Int} {k : Nat} {v : Int} (h : ∀ y, y < n → g y = if y = k then v else f y) : (tabI n f).set k v = tabI n g := by
  apply List.ext_getElem
  · simp [tabI]
  · intro i h1 h2
    rw [tabI_len] at h2
    rw [List.getElem_set, tabI_get, tabI_get, h i h2]
    by_cases hk : k = i
    · subst hk; simp
    · rw [if_neg hk, if_neg (fun h => hk h.symm)]
theorem tabI_congr {n : Nat} {f g : Nat → Int} (h : ∀ y, y < n → g y = f y) : tabI n f = tabI n g := by
  apply List.ext_getElem
  · simp [tabI]
  · intro i h1 h2
    rw [tabI_len] at h2
    rw [tabI_get, tabI_get, h i h2]
theorem tabI_zero (n : Nat) : List.replicate n (0 : Int) = tabI n (fun _ => 0) := by
  apply List.ext_getElem
  · simp [tabI]
  · intro i h1 h2; simp [tabI]

/-- How often i is named in the first k rows, of those that are not placed. -/
def cP (A : List (List Int)) (pl : List Bool) (i : Int) : Nat → Nat
  | 0 => 0
  | k + 1 => cP A pl i k + (if pl.getD k false = true then 0 else (A.getD k []).count i)
theorem cP_zero (A : List (List Int)) (pl : List Bool) (i : Int) : ∀ n, cP A pl i n = 0 ↔ ∀ k, k < n → pl.getD k false = false → i ∉ A.getD k [] := by
  intro n
  induction n with
  | zero => simp [cP]
  | succ n ih =>
    unfold cP
    constructor
    · intro h k hk hp
      have h1 : cP A pl i n = 0 := by omega
      by_cases hkn : k = n
      · subst hkn
        rw [if_neg (by rw [hp]; decide)] at h
        have h2 : (A.getD k []).count i = 0 := by omega
        exact List.count_eq_zero.1 h2
      · exact ih.1 h1 k (by omega) hp
    · intro h
      rw [ih.2 (fun k hk hp => h k (by omega) hp)]
      by_cases hp : pl.getD n false = true
      · rw [if_pos hp]
      · rw [if_neg hp, List.count_eq_zero.2 (h n (by omega) (by simpa using hp))]
theorem getD_set_ne {pl : List Bool} {b k : Nat} (h : b ≠ k) : (pl.set b true).getD k false = pl.getD k false := by
  rw [List.getD_eq_getElem?_getD, List.getD_eq_getElem?_getD, List.getElem?_set_ne h]
theorem getD_set_eq {pl : List Bool} {b : Nat} (h : b < pl.length) : (pl.set b true).getD b false = true := by
  rw [List.getD_eq_getElem?_getD, List.getElem?_set_self h]
  rfl
theorem cP_set (A : List (List Int)) (pl : List Bool) (i : Int) (b : Nat) (hb : b < pl.length) (hp : pl.getD b false = false) : ∀ n, cP A (pl.set b true) i n + (if b < n then (A.getD b []).count i else 0) = cP A pl i n := by
  intro n
  induction n with
  | zero => simp [cP]
  | succ n ih =>
    unfold cP
    by_cases hbn : b = n
    · subst hbn
      rw [if_neg (by omega)] at ih
      rw [getD_set_eq hb, hp, if_pos rfl, if_pos (by omega), if_neg (by decide)]
      omega
    · rw [getD_set_ne hbn]
      by_cases h2 : b < n
      · rw [if_pos h2] at ih
        rw [if_pos (show b < n + 1 by omega)]
        omega
      · rw [if_neg h2] at ih
        rw [if_neg (show ¬ b < n + 1 by omega)]
        omega
/-- How many numbers the first k rows have together. -/
def totL (A : List (List Int)) : Nat → Nat
  | 0 => 0
  | k + 1 => totL A k + (A.getD k []).length
theorem cP_le (A : List (List Int)) (pl : List Bool) (i : Int) : ∀ n, cP A pl i n ≤ totL A n := by
  intro n
  induction n with
  | zero => simp [cP]
  | succ n ih =>
    unfold cP totL
    have := List.count_le_length (a := i) (l := A.getD n [])
    split <;> omega
theorem totL_mono (A : List (List Int)) {m n : Nat} (h : m ≤ n) : totL A m ≤ totL A n := by
  induction n with
  | zero => have : m = 0 := by omega
            subst this; exact Nat.le_refl _
  | succ n ih =>
    by_cases h2 : m = n + 1
    · subst h2; exact Nat.le_refl _
    · have := ih (by omega)
      show _ ≤ totL A n + _
      omega
theorem len_le_tot (A : List (List Int)) {k n : Nat} (h : k < n) : (A.getD k []).length ≤ totL A n := by
  have : totL A k + (A.getD k []).length ≤ totL A n := totL_mono A (show k + 1 ≤ n by omega)
  omega

def xat (xs : List R3) (i : Nat) : R3 := xs.getD i (0, 0, 0)
theorem xat_get {xs : List R3} {i : Nat} (h : i < xs.length) : xs[i] = xat xs i := by simp [xat, List.getD, h]
theorem cnt_take {r : List Int} {q : Nat} (h : q < r.length) (y : Int) : (r.take (q + 1)).count y = (r.take q).count y + if r[q] = y then 1 else 0 := by
  rw [List.take_succ_eq_append_getElem h, List.count_append, List.count_singleton]
  simp
/-- How often y is named in the first i rows of those that are not placed, and in the first q numbers of the next one. -/
def cQ (A : List (List Int)) (pl : List Bool) (i q : Nat) (y : Nat) : Int := ((cP A pl y i + ((A.getD i []).take q).count (y : Int) : Nat) : Int)
theorem cQ_zero (A : List (List Int)) (pl : List Bool) (i : Nat) (y : Nat) : cQ A pl i 0 y = (cP A pl y i : Nat) := by simp [cQ]
theorem cQ_succ (A : List (List Int)) (pl : List Bool) {i q k : Nat} {R : List Int} (hR : R = A.getD i []) (h : q < R.length) (hk : R[q] = (k : Int)) (y : Nat) : cQ A pl i (q + 1) y = if y = k then cQ A pl i q k + 1 else cQ A pl i q y := by
  subst hR
  unfold cQ
  rw [cnt_take h, hk]
  by_cases hy : y = k
  · subst hy; rw [if_pos rfl, if_pos rfl]; omega
  · rw [if_neg hy, if_neg (by omega)]; omega
theorem cQ_done (A : List (List Int)) (pl : List Bool) (i : Nat) {R : List Int} (hR : R = A.getD i []) (hp : pl.getD i false = false) (y : Nat) : cQ A pl i R.length y = (cP A pl y (i + 1) : Nat) := by
  subst hR
  unfold cQ
  rw [List.take_length]
  show _ = ((cP A pl y i + (if pl.getD i false = true then 0 else (A.getD i []).count (y : Int)) : Nat) : Int)
  rw [if_neg (by rw [hp]; decide)]
theorem cQ_bd (A : List (List Int)) (pl : List Bool) {i n : Nat} (hi : i < n) (q : Nat) (y : Nat) : 0 ≤ cQ A pl i q y ∧ cQ A pl i q y ≤ totL A n := by
  unfold cQ
  have h1 := cP_le A pl y i
  have h2 : ((A.getD i []).take q).count (y : Int) ≤ (A.getD i []).length := Nat.le_trans List.count_le_length (by rw [List.length_take]; omega)
  have h3 : totL A i + (A.getD i []).length ≤ totL A n := totL_mono A (show i + 1 ≤ n by omega)
  omega
/-- And behind a placing: what is left of them. -/
def cR (A : List (List Int)) (pl : List Bool) (n b q : Nat) (y : Nat) : Int := (cP A pl y n : Int) - (((A.getD b []).take q).count (y : Int) : Nat)
theorem cR_zero (A : List (List Int)) (pl : List Bool) (n b : Nat) (y : Nat) : cR A pl n b 0 y = (cP A pl y n : Nat) := by simp [cR]
theorem cR_succ (A : List (List Int)) (pl : List Bool) {n b q k : Nat} {R : List Int} (hR : R = A.getD b []) (h : q < R.length) (hk : R[q] = (k : Int)) (y : Nat) : cR A pl n b (q + 1) y = if y = k then cR A pl n b q k - 1 else cR A pl n b q y := by
  subst hR
  unfold cR
  rw [cnt_take h, hk]
  by_cases hy : y = k
  · subst hy; rw [if_pos rfl, if_pos rfl]; omega
  · rw [if_neg hy, if_neg (by omega)]; omega
theorem cR_done (A : List (List Int)) (pl : List Bool) {n b : Nat} {R : List Int} (hR : R = A.getD b []) (hb : b < pl.length) (hbn : b < n) (hp : pl.getD b false = false) (y : Nat) : cR A pl n b R.length y = (cP A (pl.set b true) y n : Nat) := by
  subst hR
  unfold cR
  rw [List.take_length]
  have := cP_set A pl y b hb hp n
  rw [if_pos hbn] at this
  omega
theorem cR_bd (A : List (List Int)) (pl : List Bool) {n b : Nat} (hb : b < pl.length) (hbn : b < n) (hp : pl.getD b false = false) (q : Nat) (y : Nat) : 0 ≤ cR A pl n b q y ∧ cR A pl n b q y ≤ totL A n := by
  unfold cR
  have h1 := cP_le A pl y n
  have h2 := cP_set A pl y b hb hp n
  rw [if_pos hbn] at h2
  have h3 : ((A.getD b []).take q).count (y : Int) ≤ (A.getD b []).count (y : Int) := (List.take_sublist _ _).count_le _
  omega

/-- How long those that are not placed take, of the first k. -/
def leftM (xs : List R3) (pl : List Bool) : Nat → Int
  | 0 => 0
  | k + 1 => leftM xs pl k + (if pl.getD k false = true then 0 else (xat xs k).1)
theorem left_set (xs : List R3) (pl : List Bool) (b : Nat) (hb : b < pl.length) (hp : pl.getD b false = false) : ∀ n, leftM xs (pl.set b true) n = leftM xs pl n - (if b < n then (xat xs b).1 else 0) := by
  intro n
  induction n with
  | zero => simp [leftM]
  | succ n ih =>
    unfold leftM
    by_cases hbn : b = n
    · subst hbn
      rw [if_neg (by omega)] at ih
      rw [getD_set_eq hb, hp, if_pos rfl, if_neg (show ¬ (false = true) by decide), if_pos (show b < b + 1 by omega), ih]
      omega
    · rw [getD_set_ne hbn, ih]
      by_cases h2 : b < n
      · rw [if_pos h2, if_pos (show b < n + 1 by omega)]
        omega
      · rw [if_neg h2, if_neg (show ¬ b < n + 1 by omega)]
        omega
theorem xat_ok {xs : List R3} (h : tasksCheck xs = 0) (i : Nat) : 0 ≤ (xat xs i).1 ∧ (xat xs i).1 ≤ 1000000000 ∧ 0 ≤ (xat xs i).2.1 ∧ (xat xs i).2.1 ≤ 10000 ∧ 0 ≤ (xat xs i).2.2 ∧ (xat xs i).2.2 ≤ 1000000000 := by
  rcases Nat.lt_or_ge i xs.length with g | g
  · rw [← xat_get g]
    exact tasks_ok_task h i g
  · simp [xat, List.getD, List.getElem?_eq_none g]
theorem left_bd {xs : List R3} (h : tasksCheck xs = 0) (pl : List Bool) : ∀ n, 0 ≤ leftM xs pl n ∧ leftM xs pl n ≤ n * 1000000000 := by
  intro n
  induction n with
  | zero => simp [leftM]
  | succ n ih =>
    unfold leftM
    have := xat_ok h n
    split <;> omega

/-- What a task costs where it ends at that time. -/
def costL (xs : List R3) (now : Int) (i : Nat) : Int := wrap64 ((xat xs i).2.1 * max 0 (now - (xat xs i).2.2))
theorem cost_zero (xs : List R3) (now : Int) (i : Nat) (h : now ≤ (xat xs i).2.2) : costL xs now i = 0 := by
  unfold costL
  rw [show max 0 (now - (xat xs i).2.2) = 0 by omega, Int.mul_zero]
  exact Go.IntWalk.wrap64_in 0 (by omega)
theorem cost_pos (xs : List R3) (now : Int) (i : Nat) (h : (xat xs i).2.2 < now) : costL xs now i = wrap64 ((xat xs i).2.1 * (now - (xat xs i).2.2)) := by
  unfold costL
  rw [show max 0 (now - (xat xs i).2.2) = now - (xat xs i).2.2 by omega]
/-- May it be the last of those not placed? -/
def canM (A : List (List Int)) (pl : List Bool) (n i : Nat) : Bool := !pl.getD i false && cP A pl i n == 0
/-- The last of those that cost the least there, of the first k. -/
def pickM (xs : List R3) (A : List (List Int)) (pl : List Bool) (n : Nat) (now : Int) : Nat → Int × Int
  | 0 => (-1, 0)
  | i + 1 => if canM A pl n i = true ∧ ((pickM xs A pl n now i).1 < 0 ∨ costL xs now i ≤ (pickM xs A pl n now i).2) then (i, costL xs now i) else pickM xs A pl n now i
theorem pick_rng (xs : List R3) (A : List (List Int)) (pl : List Bool) (n : Nat) (now : Int) : ∀ k, -1 ≤ (pickM xs A pl n now k).1 ∧ (pickM xs A pl n now k).1 < k := by
  intro k
  induction k with
  | zero => simp [pickM]
  | succ k ih =>
    unfold pickM
    split
    · simp only; omega
    · omega
theorem pick_can (xs : List R3) (A : List (List Int)) (pl : List Bool) (n : Nat) (now : Int) : ∀ k, 0 ≤ (pickM xs A pl n now k).1 → canM A pl n (pickM xs A pl n now k).1.toNat = true := by
  intro k
  induction k with
  | zero => intro h; simp [pickM] at h
  | succ k ih =>
    unfold pickM
    split
    · rename_i h; intro _; exact h.1
    · exact ih
/-- The rounds, from the end on: what is wrong, the row, the greatest cost. -/
def roundsM (xs : List R3) (A : List (List Int)) : Nat → List Bool → List Int → Int → Int × List Int × Int
  | 0, _, row, wo => (0, row, wo)
  | p + 1, pl, row, wo => if (pickM xs A pl xs.length (leftM xs pl xs.length) xs.length).1 < 0 then (12, [], 0)
    else roundsM xs A p (pl.set (pickM xs A pl xs.length (leftM xs pl xs.length) xs.length).1.toNat true) (row.set p (pickM xs A pl xs.length (leftM xs pl xs.length) xs.length).1) (max wo (pickM xs A pl xs.length (leftM xs pl xs.length) xs.length).2)
def inRow (n : Nat) (r : List Int) : Prop := ∀ x ∈ r, 0 ≤ x ∧ x < n
instance (n : Nat) (r : List Int) : Decidable (inRow n r) := by unfold inRow; infer_instance
def lawlerM (xs : List R3) (A : List (List Int)) : Int × List Int × Int :=
  if tasksCheck xs ≠ 0 then (tasksCheck xs, [], 0) else if A.length ≠ xs.length then (3, [], 0) else if ¬ ∀ r ∈ A, inRow xs.length r then (2, [], 0)
  else roundsM xs A xs.length (List.replicate xs.length false) (List.replicate xs.length 0) 0
theorem rounds_len (xs : List R3) (A : List (List Int)) : ∀ (p : Nat) (pl : List Bool) (row : List Int) (wo : Int), (roundsM xs A p pl row wo).1 = 0 → (roundsM xs A p pl row wo).2.1.length = row.length := by
  intro p
  induction p with
  | zero => intro pl row wo _; rfl
  | succ p ih =>
    intro pl row wo h
    unfold roundsM at h ⊢
    split
    · rename_i h2; rw [if_pos h2] at h; simp at h
    · rename_i h2; rw [if_neg h2] at h
      rw [ih _ _ _ h]; simp
theorem rounds_err (xs : List R3) (A : List (List Int)) : ∀ (p : Nat) (pl : List Bool) (row : List Int) (wo : Int), (roundsM xs A p pl row wo).1 ≠ 0 → (roundsM xs A p pl row wo).2 = ([], 0) := by
  intro p
  induction p with
  | zero => intro pl row wo h; exact absurd rfl h
  | succ p ih =>
    intro pl row wo h
    unfold roundsM at h ⊢
    split
    · rfl
    · rename_i h2; rw [if_neg h2] at h
      exact ih _ _ _ h
theorem lawler_err (xs : List R3) (A : List (List Int)) (h : (lawlerM xs A).1 ≠ 0) : (lawlerM xs A).2 = ([], 0) := by
  unfold lawlerM at h ⊢
  split
  · rfl
  · rename_i h1
    rw [if_neg h1] at h
    split
    · rfl
    · rename_i h2
      rw [if_neg h2] at h
      split
      · rfl
      · rename_i h3
        rw [if_neg h3] at h
        exact rounds_err _ _ _ _ _ _ h
theorem lawler_len (xs : List R3) (A : List (List Int)) (h : tasksCheck xs = 0 → xs.length ≤ 60) : (lawlerM xs A).2.1.length ≤ 60 := by
  by_cases h0 : (lawlerM xs A).1 = 0
  · unfold lawlerM at h0 ⊢
    split
    · simp
    · rename_i h1
      rw [if_neg h1] at h0
      split
      · simp
      · rename_i h2
        rw [if_neg h2] at h0
        split
        · simp
        · rename_i h3
          rw [if_neg h3] at h0
          rw [rounds_len _ _ _ _ _ _ h0]
          simp only [List.length_replicate]
          exact h (by simpa using h1)
  · rw [lawler_err xs A h0]; simp
end Go.Proofs.YtkfjmmoljhekiaaDoor
