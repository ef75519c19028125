/- Chapter 5.3 in plain words: who of those that wait goes ahead. No program in sight. (Under way: the rounds of the program and the steps of the reference.) -/
import Derived.Test.YtannijeiecmjpaaDoorPathM
namespace Go.Proofs.YtannijeiecmjpaaDoor
open Go.RowKit

/-- What a job that waits goes by (the program's rank). -/
def rkOf (rule : Int) (xs : List R3) (left : Nat → Int) (i : Nat) : Int :=
  if rule = 2 then -(i : Int) else if rule = 3 then (xs.getD i (0, 0, 0)).2.1 else if rule = 4 ∨ rule = 5 then (xs.getD i (0, 0, 0)).2.2 else if rule = 6 then left i else (i : Int)
/-- Does i go ahead of k? -/
def goesB (rule : Int) (xs : List R3) (left : Nat → Int) (i k : Nat) : Prop :=
  rkOf rule xs left i < rkOf rule xs left k ∨ rkOf rule xs left i = rkOf rule xs left k ∧ i < k
/-- The reference's words for it. -/
theorem goes_ref (rule : Int) (xs : List R3) (left : Nat → Int) (i k : Nat) :
    goesB rule xs left i k ↔ if rule = 2 then k < i else
      (if rule = 3 then (xs.getD i (0, 0, 0)).2.1 else if rule = 4 ∨ rule = 5 then (xs.getD i (0, 0, 0)).2.2 else if rule = 6 then left i else 0) <
        (if rule = 3 then (xs.getD k (0, 0, 0)).2.1 else if rule = 4 ∨ rule = 5 then (xs.getD k (0, 0, 0)).2.2 else if rule = 6 then left k else 0) ∨
      (if rule = 3 then (xs.getD i (0, 0, 0)).2.1 else if rule = 4 ∨ rule = 5 then (xs.getD i (0, 0, 0)).2.2 else if rule = 6 then left i else 0) =
        (if rule = 3 then (xs.getD k (0, 0, 0)).2.1 else if rule = 4 ∨ rule = 5 then (xs.getD k (0, 0, 0)).2.2 else if rule = 6 then left k else 0) ∧ i < k := by
  unfold goesB rkOf
  by_cases h2 : rule = 2
  · simp only [h2, if_true]; omega
  · by_cases h3 : rule = 3
    · simp [h3]
    · by_cases h4 : rule = 4 ∨ rule = 5
      · simp [h2, h3, h4]
      · by_cases h6 : rule = 6
        · simp [h6]
        · rw [if_neg h2, if_neg h2, if_neg h3, if_neg h3, if_neg h4, if_neg h4, if_neg h6, if_neg h6, if_neg h2, if_neg h3, if_neg h3, if_neg h4, if_neg h4, if_neg h6, if_neg h6]; omega
theorem goes_trans {rule : Int} {xs : List R3} {left : Nat → Int} {i j k : Nat} (h : goesB rule xs left i j) (h2 : goesB rule xs left j k) : goesB rule xs left i k := by
  unfold goesB at *; omega
theorem goes_total {rule : Int} {xs : List R3} {left : Nat → Int} {i j : Nat} (h : i ≠ j) : goesB rule xs left i j ∨ goesB rule xs left j i := by
  unfold goesB; omega
theorem goes_irrefl {rule : Int} {xs : List R3} {left : Nat → Int} {i : Nat} : ¬ goesB rule xs left i i := by
  unfold goesB; omega
instance (rule : Int) (xs : List R3) (left : Nat → Int) (i k : Nat) : Decidable (goesB rule xs left i k) := by unfold goesB; infer_instance
/-- The reference's search: of those below m for whom P holds, who goes ahead of all. -/
def aheadOf (rule : Int) (xs : List R3) (left : Nat → Int) (P : Nat → Bool) : Nat → Option Nat
  | 0 => none
  | m + 1 => if P m = true then (match aheadOf rule xs left P m with | none => some m | some k => if goesB rule xs left m k then some m else some k) else aheadOf rule xs left P m
theorem ahead_least (rule : Int) (xs : List R3) (left : Nat → Int) (P : Nat → Bool) : ∀ m : Nat,
    (aheadOf rule xs left P m = none → ∀ i, i < m → P i = false) ∧
    ∀ b, aheadOf rule xs left P m = some b → b < m ∧ P b = true ∧ ∀ i, i < m → P i = true → i ≠ b → goesB rule xs left b i := by
  intro m
  induction m with
  | zero => exact ⟨fun _ i hi => absurd hi (Nat.not_lt_zero _), fun b h => by cases h⟩
  | succ m ih =>
    obtain ⟨ih1, ih2⟩ := ih
    unfold aheadOf
    by_cases hP : P m = true
    · rw [if_pos hP]
      cases hA : aheadOf rule xs left P m with
      | none =>
        refine ⟨(fun h => by cases h), fun b h => ?_⟩
        obtain rfl : m = b := by simpa using h
        exact ⟨Nat.lt_succ_self _, hP, fun i hi hpi hne => by rw [ih1 hA i (by omega)] at hpi; cases hpi⟩
      | some k =>
        obtain ⟨hk1, hk2, hk3⟩ := ih2 k hA
        refine ⟨(fun h => by dsimp only at h; split at h <;> cases h), fun b h => ?_⟩
        dsimp only at h
        by_cases hg : goesB rule xs left m k
        · rw [if_pos hg] at h
          obtain rfl : m = b := by simpa using h
          refine ⟨Nat.lt_succ_self _, hP, fun i hi hpi hne => ?_⟩
          by_cases hik : i = k
          · rw [hik]; exact hg
          · exact goes_trans hg (hk3 i (by omega) hpi hik)
        · rw [if_neg hg] at h
          obtain rfl : k = b := by simpa using h
          refine ⟨by omega, hk2, fun i hi hpi hne => ?_⟩
          by_cases him : i = m
          · rw [him]
            rcases goes_total (rule := rule) (xs := xs) (left := left) (show m ≠ k by omega) with h | h
            · exact absurd h hg
            · exact h
          · exact hk3 i (by omega) hpi hne
    · rw [if_neg hP]
      refine ⟨fun h i hi => ?_, fun b h => ?_⟩
      · by_cases him : i = m
        · rw [him]; simpa using hP
        · exact ih1 h i (by omega)
      · obtain ⟨h1, h2, h3⟩ := ih2 b h
        exact ⟨by omega, h2, fun i hi hpi hne => h3 i (by
          have : i ≠ m := fun h => by rw [h] at hpi; exact hP hpi
          omega) hpi hne⟩
/-- The one who goes ahead of all is told by that. -/
theorem ahead_one {rule : Int} {xs : List R3} {left : Nat → Int} {P : Nat → Bool} {m b : Nat} (hb : b < m) (hP : P b = true) (h : ∀ i, i < m → P i = true → i ≠ b → goesB rule xs left b i) : aheadOf rule xs left P m = some b := by
  obtain ⟨h1, h2⟩ := ahead_least rule xs left P m
  cases hA : aheadOf rule xs left P m with
  | none => rw [h1 hA b hb] at hP; cases hP
  | some k =>
    obtain ⟨k1, k2, k3⟩ := h2 k hA
    by_cases hk : k = b
    · rw [hk]
    · exact absurd (goes_trans (k3 b hb hP (fun h => hk h.symm)) (h k k1 k2 hk)) goes_irrefl
end Go.Proofs.YtannijeiecmjpaaDoor
