/- Chapter 11 in plain words: what is wrong with a need; what orders cost. No program in sight. -/
import Derived.Test.YtfaklhkdfpfjgaaDoorBase
import Derived.Test.YtfaklhkdfpfjgaaDoorContains
import Derived.IntWalk
namespace Go.Proofs.YtfaklhkdfpfjgaaDoor
open Go.RowKit Go.IntWalk

def needErr (W O K : List Int) : Int := if 50 < W.length then 4 else if O.length ≠ W.length ∨ K.length ≠ W.length then 3 else if W.any (outOf 1000000) = true ∨ O.any (outOf 1000000) = true ∨ K.any (outOf 1000000) = true then 2 else 0
/-- So many periods are to come yet; what is there; what it costs so far. -/
def lotsFrom (W O K X : List Int) : Nat → Int → Int → Int × Int
  | 0, h, s => if 0 < h then (0, 10) else (s, 0)
  | n + 1, h, s =>
    if X.getD (X.length - (n + 1)) 0 < 0 ∨ 50000000 < X.getD (X.length - (n + 1)) 0 then (0, 2)
    else if h + X.getD (X.length - (n + 1)) 0 - W.getD (X.length - (n + 1)) 0 < 0 then (0, 8)
    else lotsFrom W O K X n (h + X.getD (X.length - (n + 1)) 0 - W.getD (X.length - (n + 1)) 0)
      ((if 0 < X.getD (X.length - (n + 1)) 0 then s + O.getD (X.length - (n + 1)) 0 else s) + (h + X.getD (X.length - (n + 1)) 0 - W.getD (X.length - (n + 1)) 0) * K.getD (X.length - (n + 1)) 0)
def lotsM (W O K X : List Int) : Int × Int := if needErr W O K ≠ 0 then (0, needErr W O K) else if X.length ≠ W.length then (0, 3) else lotsFrom W O K X (X.length - 0) 0 0

theorem need_ok {W O K : List Int} (h : needErr W O K = 0) : W.length ≤ 50 ∧ O.length = W.length ∧ K.length = W.length ∧ (∀ x ∈ W, 0 ≤ x ∧ x ≤ 1000000) ∧ (∀ x ∈ O, 0 ≤ x ∧ x ≤ 1000000) ∧ (∀ x ∈ K, 0 ≤ x ∧ x ≤ 1000000) := by
  unfold needErr at h
  by_cases h1 : 50 < W.length
  · rw [if_pos h1] at h; omega
  rw [if_neg h1] at h
  by_cases h2 : O.length ≠ W.length ∨ K.length ≠ W.length
  · rw [if_pos h2] at h; omega
  rw [if_neg h2] at h
  by_cases h3 : W.any (outOf 1000000) = true ∨ O.any (outOf 1000000) = true ∨ K.any (outOf 1000000) = true
  · rw [if_pos h3] at h; omega
  have key : ∀ l : List Int, ¬ l.any (outOf 1000000) = true → ∀ x ∈ l, 0 ≤ x ∧ x ≤ 1000000 := by
    intro l hl x hx
    have : outOf 1000000 x = false := by
      rcases hq : outOf 1000000 x with _ | _
      · rfl
      · exact absurd (List.any_eq_true.2 ⟨x, hx, hq⟩) hl
    simp only [outOf, Bool.or_eq_false_iff, decide_eq_false_iff_not] at this
    omega
  refine ⟨by omega, by omega, by omega, key W ?_, key O ?_, key K ?_⟩
  · intro h; exact h3 (Or.inl h)
  · intro h; exact h3 (Or.inr (Or.inl h))
  · intro h; exact h3 (Or.inr (Or.inr h))
theorem lots_here {W O K X : List Int} {k : Nat} (h s : Int) (hk : k < X.length) (hW : k < W.length) (hO : k < O.length) (hK : k < K.length) :
    lotsFrom W O K X (X.length - k) h s = if X[k] < 0 ∨ 50000000 < X[k] then (0, 2) else if h + X[k] - W[k] < 0 then (0, 8)
      else lotsFrom W O K X (X.length - (k + 1)) (h + X[k] - W[k]) ((if 0 < X[k] then s + O[k] else s) + (h + X[k] - W[k]) * K[k]) := by
  obtain ⟨n, hn⟩ : ∃ n, X.length - k = n + 1 := ⟨X.length - k - 1, by omega⟩
  rw [hn, show X.length - (k + 1) = n by omega]
  show (if X.getD (X.length - (n + 1)) 0 < 0 ∨ _ then _ else _) = _
  rw [show X.length - (n + 1) = k by omega, getD_lt hk, getD_lt hW, getD_lt hO, getD_lt hK]
theorem lots_bounds {h s x o v y : Int} {k : Nat} (hk : k < 50) (h0 : 0 ≤ h) (h1 : h ≤ k * 50000000) (s0 : 0 ≤ s) (s1 : s ≤ k * 2500000001000000) (x0 : 0 ≤ x) (x1 : x ≤ 50000000) (v0 : 0 ≤ v) (v1 : v ≤ 1000000) (o0 : 0 ≤ o) (o1 : o ≤ 1000000) (y0 : 0 ≤ y) (y1 : y ≤ 1000000) :
    wrap64 (x - v) = x - v ∧ wrap64 (h + (x - v)) = h + x - v ∧ wrap64 (h + x) = h + x ∧ wrap64 (h + x - v) = h + x - v ∧ wrap64 (s + o) = s + o ∧
    (0 ≤ h + x - v → h + x - v ≤ (k + 1 : Nat) * 50000000 ∧ 0 ≤ (h + x - v) * y ∧ (h + x - v) * y ≤ 2500000000000000 ∧ wrap64 ((h + x - v) * y) = (h + x - v) * y ∧ wrap64 (s + (h + x - v) * y) = s + (h + x - v) * y ∧ wrap64 (s + o + (h + x - v) * y) = s + o + (h + x - v) * y ∧
      s + o + (h + x - v) * y ≤ (k + 1 : Nat) * 2500000001000000 ∧ s + (h + x - v) * y ≤ (k + 1 : Nat) * 2500000001000000) := by
  have hk2 : (k : Int) * 50000000 ≤ 2450000000 := by omega
  refine ⟨wrap64_in _ (by omega), (wrap64_in _ (by omega)).trans (by omega), wrap64_in _ (by omega), wrap64_in _ (by omega), wrap64_in _ (by omega), fun hp => ?_⟩
  have m0 : 0 ≤ (h + x - v) * y := Int.mul_nonneg hp y0
  have m1 : (h + x - v) * y ≤ 2500000000 * 1000000 := Int.mul_le_mul (by omega) y1 y0 (by omega)
  generalize (h + x - v) * y = m at *
  refine ⟨by push_cast; omega, m0, by omega, wrap64_in _ (by omega), wrap64_in _ (by omega), wrap64_in _ (by omega), by push_cast; omega, by push_cast; omega⟩
end Go.Proofs.YtfaklhkdfpfjgaaDoor
