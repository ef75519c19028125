/- How long a round way is (19.1), in plain words. No program in sight. -/
import Derived.Test.YtfaklhkdfpfjgaaDoorTripChk
namespace Go.Proofs.YtfaklhkdfpfjgaaDoor
open Go.RowKit

def distM (A : List (List Int)) (i k : Int) : Int := (A.getD i.toNat []).getD k.toNat 0
/-- The first k legs of a round way. -/
def legM (A : List (List Int)) (way : List Int) : Nat → Int
  | 0 => 0
  | k + 1 => legM A way k + distM A (way.getD k 0) (way.getD ((k + 1) % way.length) 0)
def longM (A : List (List Int)) (way : List Int) : Int := if 1 < way.length then legM A way way.length else 0
def badAt (n : Nat) (x : Int) : Bool := decide (x < 0) || decide ((n : Int) ≤ x)
def longErr (A : List (List Int)) (way : List Int) : Int :=
  if mapCheck A ≠ 0 then mapCheck A else if 100 < way.length then 4 else if way.any (badAt A.length) = true then 2 else 0
theorem badAt_no {n : Nat} {x : Int} (h : badAt n x = false) : 0 ≤ x ∧ x < n := by
  simp only [badAt, Bool.or_eq_false_iff, decide_eq_false_iff_not] at h
  omega
theorem any_no {n : Nat} {way : List Int} (h : ¬ way.any (badAt n) = true) : ∀ x ∈ way, 0 ≤ x ∧ x < n := by
  intro x hx
  refine badAt_no ?_
  cases hq : badAt n x with
  | false => rfl
  | true => exact absurd (List.any_eq_true.2 ⟨x, hx, hq⟩) h
theorem dist_at {A : List (List Int)} (hA : ∀ r ∈ A, r.length = A.length ∧ ∀ x ∈ r, 0 ≤ x ∧ x ≤ 1000000000) {i k : Nat} (hi : i < A.length) (hk : k < A.length) :
    ∃ h : k < A[i].length, distM A i k = A[i][k] ∧ 0 ≤ A[i][k] ∧ A[i][k] ≤ 1000000000 := by
  have h1 := hA _ (List.getElem_mem hi)
  have h2 : k < A[i].length := by rw [h1.1]; exact hk
  refine ⟨h2, ?_, h1.2 _ (List.getElem_mem h2)⟩
  have e1 : A.getD i [] = A[i] := by simp [List.getD, hi]
  unfold distM
  rw [Int.toNat_natCast, Int.toNat_natCast, e1]
  simp [List.getD, h2]
theorem leg_bd {A : List (List Int)} (hA : ∀ r ∈ A, r.length = A.length ∧ ∀ x ∈ r, 0 ≤ x ∧ x ≤ 1000000000) (way : List Int) : ∀ k, 0 ≤ legM A way k ∧ legM A way k ≤ k * 1000000000 := by
  have hd : ∀ i k, 0 ≤ distM A i k ∧ distM A i k ≤ 1000000000 := by
    intro i k
    unfold distM
    rcases Nat.lt_or_ge i.toNat A.length with g | g
    · have e1 : A.getD i.toNat [] = A[i.toNat] := by simp [List.getD, g]
      rw [e1]
      rcases Nat.lt_or_ge k.toNat A[i.toNat].length with g2 | g2
      · have e2 : A[i.toNat].getD k.toNat 0 = A[i.toNat][k.toNat] := by simp [List.getD, g2]
        rw [e2]
        exact (hA _ (List.getElem_mem g)).2 _ (List.getElem_mem g2)
      · simp [List.getD, List.getElem?_eq_none g2]
    · simp [List.getD, List.getElem?_eq_none g]
  intro k
  induction k with
  | zero => simp [legM]
  | succ k ih =>
    have := hd (way.getD k 0) (way.getD ((k + 1) % way.length) 0)
    unfold legM
    omega
theorem getI_nat {ys : List Int} {k : Nat} (h : k < ys.length) : ys.getD k 0 = ys[k] := by simp [List.getD, h]
end Go.Proofs.YtfaklhkdfpfjgaaDoor
