/- What a saving is read from: the cells of a map of distances. No program in sight. -/
import Derived.Test.YtannijeiecmjpaaDoorSavE
import Derived.Test.YtannijeiecmjpaaDoorRows2
namespace Go.Proofs.YtannijeiecmjpaaDoor
open Go.RowKit

/-- The row of a place, cell by cell. -/
theorem rows2_row {w : World} {a : Option Addr} {A : List (List Int)} (h : Rows2 w a A) {i n : Nat} (hi : i < A.length) (hn : A[i].length = n) (h0 : 0 < n) : ∃ b o bi oi ci, a = some ⟨b, o, none⟩ ∧ w.cell? ⟨b, o + i, none⟩ = some (.slice (some ⟨bi, oi, none⟩) n ci) ∧ n ≤ ci ∧
    ∀ k, k < n → w.cell? ⟨bi, oi + k, none⟩ = some (.int .i64 (mAt A i k)) := by
  rcases h with h | ⟨b, o, rfl, h⟩
  · rw [h] at hi; simp at hi
  · obtain ⟨a', c', h1, h2, _, h4⟩ := h i hi
    obtain ⟨bi, oi, rfl, hc⟩ := h4.some (show 0 < A[i].length by omega)
    refine ⟨b, o, bi, oi, c', rfl, by rw [← hn]; exact h1, by omega, fun k hk => ?_⟩
    have h5 := hc k (by omega) 0 _ rfl
    simp only [Nat.add_zero, Nat.mul_one] at h5
    have e : mAt A i k = A[i][k]'(by omega) := by
      unfold mAt
      have e1 : A.getD i [] = A[i] := by simp [List.getD_eq_getElem?_getD, hi]
      rw [e1]
      simp [List.getD_eq_getElem?_getD, show k < A[i].length by omega]
    rw [e]
    exact h5
/-- How great a saving may be. -/
theorem savAt_bound {M : List (List Int)} (h : mapCheck M = 0) {i k : Nat} (hi : i < M.length) (hk : k < M.length) : -1000000000 ≤ savAt M i k ∧ savAt M i k ≤ 2000000000 ∧ 0 ≤ mAt M i 0 ∧ mAt M i 0 ≤ 1000000000 ∧ 0 ≤ mAt M 0 k ∧ mAt M 0 k ≤ 1000000000 ∧ 0 ≤ mAt M i k ∧ mAt M i k ≤ 1000000000 := by
  obtain ⟨_, h2⟩ := map_ok h
  have key : ∀ i k, i < M.length → k < M.length → 0 ≤ mAt M i k ∧ mAt M i k ≤ 1000000000 := fun i k hi hk => by
    obtain ⟨h3, h4⟩ := h2 _ (List.getElem_mem hi)
    have hk2 : k < M[i].length := by omega
    have e : mAt M i k = M[i][k] := by
      unfold mAt
      have e1 : M.getD i [] = M[i] := by simp [List.getD_eq_getElem?_getD, hi]
      rw [e1]
      simp [List.getD_eq_getElem?_getD, hk2]
    rw [e]
    exact h4 _ (List.getElem_mem hk2)
  have k1 := key i 0 hi (by omega)
  have k2 := key 0 k (by omega) hk
  have k3 := key i k hi hk
  unfold savAt
  omega
end Go.Proofs.YtannijeiecmjpaaDoor
