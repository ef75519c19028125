/- Going to the nearest place each time (19.2), in plain words. No program in sight. -/
import Derived.Test.YtfaklhkdfpfjgaaDoorLongM
namespace Go.Proofs.YtfaklhkdfpfjgaaDoor
open Go.RowKit

def lastN (way : List Int) : Int := way.getD (way.length - 1) 0
def pickN (A : List (List Int)) (way : List Int) : Nat → Int
  | 0 => -1
  | k + 1 => if (k : Int) ∈ way then pickN A way k else if pickN A way k < 0 ∨ (0 < way.length ∧ distM A (lastN way) k < distM A (lastN way) (pickN A way k)) then (k : Int) else pickN A way k
def nearM (A : List (List Int)) : Nat → List Int
  | 0 => []
  | t + 1 => nearM A t ++ [pickN A (nearM A t) A.length]
theorem near_len (A : List (List Int)) : ∀ t, (nearM A t).length = t
  | 0 => rfl
  | t + 1 => by unfold nearM; rw [List.length_append, near_len A t]; rfl
theorem pick_lt (A : List (List Int)) (way : List Int) : ∀ k, -1 ≤ pickN A way k ∧ pickN A way k < k
  | 0 => by simp [pickN]
  | k + 1 => by
    have := pick_lt A way k
    unfold pickN
    split
    · omega
    · split <;> omega
theorem pick_new (A : List (List Int)) (way : List Int) : ∀ k, 0 ≤ pickN A way k → pickN A way k ∉ way
  | 0, h => by simp [pickN] at h
  | k + 1, h => by
    unfold pickN at h ⊢
    split at h
    · rename_i h1; rw [if_pos h1]; exact pick_new A way k h
    · rename_i h1
      rw [if_neg h1]
      split at h
      · rename_i h2; rw [if_pos h2]; exact h1
      · rename_i h2; rw [if_neg h2]; exact pick_new A way k h
theorem pick_some (A : List (List Int)) (way : List Int) : ∀ k, pickN A way k < 0 → ∀ j : Nat, j < k → (j : Int) ∈ way
  | 0, _, j, hj => by omega
  | k + 1, h, j, hj => by
    unfold pickN at h
    split at h
    · rename_i h1
      rcases Nat.lt_or_ge j k with h2 | h2
      · exact pick_some A way k h j h2
      · obtain rfl : j = k := by omega
        exact h1
    · rename_i h1
      split at h
      · omega
      · rename_i h2; exact absurd (Or.inl h) h2
/-- So many numbers are not all in a shorter row. -/
theorem cnt_step (x : Int) (xs : List Int) : ∀ n : Nat, (List.range n).countP (fun k : Nat => decide ((k : Int) ∈ x :: xs)) ≤ (List.range n).countP (fun k : Nat => decide ((k : Int) ∈ xs)) + (if 0 ≤ x ∧ x < n then 1 else 0)
  | 0 => by simp
  | n + 1 => by
    have h := cnt_step x xs n
    rw [List.range_succ, List.countP_append, List.countP_append, List.countP_singleton, List.countP_singleton]
    by_cases h1 : (n : Int) ∈ xs
    · rw [if_pos (by simp [h1]), if_pos (by simp [h1])]
      split at h <;> split <;> omega
    · by_cases h2 : (n : Int) = x
      · rw [if_pos (by simp [h2]), if_neg (by simp [h1]), if_pos (by omega)]
        rw [if_neg (by omega)] at h
        omega
      · rw [if_neg (by simp [h1, h2]), if_neg (by simp [h1])]
        split at h <;> split <;> omega
theorem cnt_le (n : Nat) : ∀ xs : List Int, (List.range n).countP (fun k : Nat => decide ((k : Int) ∈ xs)) ≤ xs.length
  | [] => by
    have : (List.range n).countP (fun k : Nat => decide ((k : Int) ∈ ([] : List Int))) = 0 := List.countP_eq_zero.2 (fun a _ => by simp)
    omega
  | x :: xs => by
    have h1 := cnt_step x xs n
    have h2 := cnt_le n xs
    rw [List.length_cons]
    split at h1 <;> omega
theorem cnt_all {n : Nat} {xs : List Int} (h : ∀ j : Nat, j < n → (j : Int) ∈ xs) : n ≤ xs.length := by
  have h1 := cnt_le n xs
  have h2 : (List.range n).countP (fun k : Nat => decide ((k : Int) ∈ xs)) = (List.range n).length := List.countP_eq_length.2 (fun a ha => by simp [h a (List.mem_range.1 ha)])
  rw [h2, List.length_range] at h1
  exact h1
theorem pick_in (A : List (List Int)) {t : Nat} (ht : t < A.length) : 0 ≤ pickN A (nearM A t) A.length ∧ pickN A (nearM A t) A.length < A.length := by
  have h := pick_lt A (nearM A t) A.length
  refine ⟨?_, h.2⟩
  rcases Int.lt_or_le (pickN A (nearM A t) A.length) 0 with h1 | h1
  · have h2 := cnt_all (pick_some A (nearM A t) A.length h1)
    rw [near_len] at h2
    omega
  · exact h1
theorem near_in (A : List (List Int)) : ∀ t, t ≤ A.length → ∀ x ∈ nearM A t, 0 ≤ x ∧ x < A.length
  | 0, _, x, hx => by simp [nearM] at hx
  | t + 1, h, x, hx => by
    unfold nearM at hx
    rcases List.mem_append.1 hx with hx | hx
    · exact near_in A t (by omega) x hx
    · rw [List.mem_singleton] at hx
      rw [hx]
      exact pick_in A (by omega)
end Go.Proofs.YtfaklhkdfpfjgaaDoor
