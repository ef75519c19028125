/- Sets of parts as numbers, in plain words: bits, taking one out, putting one in; the least ones. No program in sight. -/
import Derived.Test.YtfaklhkdfpfjgaaDoorRiskConv
namespace Go.Proofs.YtfaklhkdfpfjgaaDoor
open Go.RowKit

/-- Whether a part is in a set. -/
def bitB (s k : Nat) : Bool := decide (s / 2 ^ k % 2 = 1)
theorem bitB_out {s n k : Nat} (hs : s < 2 ^ n) (hk : n ≤ k) : bitB s k = false := by
  unfold bitB
  have h1 : s / 2 ^ k = 0 := Nat.div_eq_of_lt (Nat.lt_of_lt_of_le hs (Nat.pow_le_pow_right (by omega) hk))
  rw [h1]; rfl
theorem bit_and (s k : Nat) : bits .and .i64 ((s : Int) / 2 ^ k) 1 = if bitB s k = true then 1 else 0 := by
  rw [i64_and1]
  have h2 : (s : Int) / 2 ^ k % 2 = ((s / 2 ^ k % 2 : Nat) : Int) := by
    push_cast
    rfl
  rw [h2]
  unfold bitB
  by_cases h : s / 2 ^ k % 2 = 1
  · rw [h]; rfl
  · have h3 : s / 2 ^ k % 2 = 0 := by omega
    rw [h3]; rfl
theorem andNot_fin : ∀ s : Fin 64, ∀ k : Fin 6, bitB s.1 k.1 = true → bits .andNot .i64 ((s.1 : Nat) : Int) ((2 ^ k.1 : Nat) : Int) = ((s.1 - 2 ^ k.1 : Nat) : Int) ∧ 2 ^ k.1 ≤ s.1 := by decide +kernel
theorem bit_out {s k : Nat} (hs : s < 64) (hk : k < 6) (h : bitB s k = true) : bits .andNot .i64 (s : Int) ((2 ^ k : Nat) : Int) = ((s - 2 ^ k : Nat) : Int) ∧ 2 ^ k ≤ s := andNot_fin ⟨s, hs⟩ ⟨k, hk⟩ h
theorem all_fin : ∀ n : Fin 7, ∀ s : Fin 64, s.1 < 2 ^ n.1 → bits .andNot .i64 ((2 ^ n.1 - 1 : Nat) : Int) ((s.1 : Nat) : Int) = ((2 ^ n.1 - 1 - s.1 : Nat) : Int) := by decide +kernel
theorem all_out {s n : Nat} (hn : n < 7) (hs : s < 2 ^ n) : bits .andNot .i64 ((2 ^ n - 1 : Nat) : Int) (s : Int) = ((2 ^ n - 1 - s : Nat) : Int) := by
  have h64 : 2 ^ n ≤ 2 ^ 6 := Nat.pow_le_pow_right (by omega) (by omega)
  exact all_fin ⟨n, hn⟩ ⟨s, by omega⟩ hs
theorem or_fin : ∀ n : Fin 7, ∀ s : Fin 64, ∀ k : Fin 6, s.1 < 2 ^ n.1 → k.1 < n.1 → bitB s.1 k.1 = true → bits .or .i64 ((2 ^ n.1 - 1 - s.1 : Nat) : Int) ((2 ^ k.1 : Nat) : Int) = ((2 ^ n.1 - 1 - s.1 + 2 ^ k.1 : Nat) : Int) ∧ 2 ^ n.1 - 1 - s.1 + 2 ^ k.1 < 2 ^ n.1 := by decide +kernel
theorem bit_in {s n k : Nat} (hn : n < 7) (hs : s < 2 ^ n) (hk : k < n) (h : bitB s k = true) : bits .or .i64 ((2 ^ n - 1 - s : Nat) : Int) ((2 ^ k : Nat) : Int) = ((2 ^ n - 1 - s + 2 ^ k : Nat) : Int) ∧ 2 ^ n - 1 - s + 2 ^ k < 2 ^ n := by
  have h64 : 2 ^ n ≤ 2 ^ 6 := Nat.pow_le_pow_right (by omega) (by omega)
  exact or_fin ⟨n, hn⟩ ⟨s, by omega⟩ ⟨k, by omega⟩ hs hk h
/-- The sets that are so, and stay so by no part less. -/
def inner (B : Nat → Nat → Bool) (s k : Nat) : Bool := (List.range k).all fun j => !bitB s j || B s j
def selM (A : Nat → Bool) (B : Nat → Nat → Bool) (n : Nat) (t : Nat) : List Int := ((List.range t).filter fun s => A s && inner B s n).map fun s : Nat => (s : Int)
theorem inner_succ (B : Nat → Nat → Bool) (s k : Nat) : inner B s (k + 1) = (inner B s k && (!bitB s k || B s k)) := by
  unfold inner
  rw [List.range_succ, List.all_append]
  simp
theorem sel_succ (A : Nat → Bool) (B : Nat → Nat → Bool) (n t : Nat) : selM A B n (t + 1) = selM A B n t ++ if (A t && inner B t n) = true then [(t : Int)] else [] := by
  unfold selM
  rw [List.range_succ, List.filter_append, List.map_append]
  congr 1
  by_cases h : (A t && inner B t n) = true
  · rw [if_pos h]; simp [h]
  · rw [if_neg h]; simp [h]
theorem sel_len (A : Nat → Bool) (B : Nat → Nat → Bool) (n : Nat) : ∀ t, (selM A B n t).length ≤ t
  | 0 => by simp [selM]
  | t + 1 => by
    have := sel_len A B n t
    rw [sel_succ, List.length_append]
    split <;> simp <;> omega
/-- Bools of the call's own, written one by one. -/
def tabB (n : Nat) (f : Nat → Bool) : List Bool := (List.range n).map f
theorem tabB_len (n : Nat) (f : Nat → Bool) : (tabB n f).length = n := by simp [tabB]
theorem tabB_set (n : Nat) (f g : Nat → Bool) (k : Nat) (b : Bool) (h : ∀ y, y < n → g y = if y = k then b else f y) : (tabB n f).set k b = tabB n g := by
  refine List.ext_getElem (by simp [tabB]) fun t h1 h2 => ?_
  rw [List.getElem_set]
  simp only [tabB, List.length_set, List.length_map, List.length_range] at h1
  simp only [tabB, List.getElem_map, List.getElem_range]
  rw [h t h1]
  by_cases hk : k = t
  · rw [if_pos hk, if_pos hk.symm]
  · rw [if_neg hk, if_neg (fun h => hk h.symm)]
theorem made_bools (n : Nat) : (madeCells #[Value.bool false] n).toList = (tabB n (fun _ => false)).map Value.bool := by
  have h1 : (madeCells #[Value.bool false] n).toList = List.replicate n (Value.bool false) := toList_madeCells_one _ _
  rw [h1]
  refine List.ext_getElem (by simp [tabB]) fun t h1 h2 => by simp [tabB]
theorem tabB_get {n : Nat} {f : Nat → Bool} {k : Nat} : (tabB n f).getD k false = if k < n then f k else false := by
  by_cases h : k < n
  · rw [if_pos h]; simp [tabB, List.getD, h]
  · rw [if_neg h]; simp [tabB, List.getD, h]
end Go.Proofs.YtfaklhkdfpfjgaaDoor
