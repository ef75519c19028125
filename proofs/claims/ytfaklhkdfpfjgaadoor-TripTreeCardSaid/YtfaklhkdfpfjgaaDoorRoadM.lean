/- The roads (19.2), in plain words: all of them, sorted by length. No program in sight. -/
import Derived.Test.YtfaklhkdfpfjgaaDoorPrimM
import Derived.Test.YtfaklhkdfpfjgaaDoorSortX
namespace Go.Proofs.YtfaklhkdfpfjgaaDoor
open Go.RowKit

def rowR (A : List (List Int)) (i k : Nat) : List R3 := (List.range k).map fun k : Nat => ((i : Int), (k : Int), dM A i k)
def roadsR (A : List (List Int)) : Nat → List R3
  | 0 => []
  | i + 1 => roadsR A i ++ rowR A i i
theorem rowR_succ (A : List (List Int)) (i k : Nat) : rowR A i (k + 1) = rowR A i k ++ [((i : Int), (k : Int), dM A i k)] := by simp [rowR, List.range_succ]
theorem rowR_len (A : List (List Int)) (i k : Nat) : (rowR A i k).length = k := by simp [rowR]
theorem roadsR_len (A : List (List Int)) : ∀ i, (roadsR A i).length ≤ i * i
  | 0 => by simp [roadsR]
  | i + 1 => by
    have := roadsR_len A i
    unfold roadsR
    rw [List.length_append, rowR_len, Nat.succ_mul, Nat.mul_succ]
    omega
theorem roadsR_mem (A : List (List Int)) : ∀ (n : Nat) (x : R3), x ∈ roadsR A n ↔ ∃ i k : Nat, k < i ∧ i < n ∧ x = ((i : Int), (k : Int), dM A i k)
  | 0, x => by simp [roadsR]
  | n + 1, x => by
    unfold roadsR
    rw [List.mem_append, roadsR_mem A n x]
    unfold rowR
    rw [List.mem_map]
    constructor
    · rintro (⟨i, k, h1, h2, h3⟩ | ⟨k, h1, h2⟩)
      · exact ⟨i, k, h1, by omega, h3⟩
      · exact ⟨n, k, by have := List.mem_range.1 h1; omega, by omega, h2.symm⟩
    · rintro ⟨i, k, h1, h2, h3⟩
      by_cases h : i < n
      · exact Or.inl ⟨i, k, h1, h, h3⟩
      · obtain rfl : i = n := by omega
        exact Or.inr ⟨k, List.mem_range.2 h1, h3.symm⟩
def keyR (l : List R3) (x : Int) : Int := (l.getD x.toNat (0, 0, 0)).2.2
def fR (l : List R3) (x y : Int) : Int := keyR l x - keyR l y
theorem swkR (l : List R3) : SWk (ltf (fR l)) := by
  constructor
  · intro x y h
    rw [ltf_true] at h
    rw [ltf_false]
    unfold fR at *
    omega
  · intro x y z h
    rw [ltf_true] at h
    rw [ltf_true, ltf_true]
    unfold fR at *
    omega
/-- A road by its number, as the plain law has it. -/
def roadT (l : List R3) (x : Int) : RoadT := ((l.getD x.toNat (0, 0, 0)).1.toNat, (l.getD x.toNat (0, 0, 0)).2.1.toNat, (l.getD x.toNat (0, 0, 0)).2.2)
def sortedR (l : List R3) (r : RowF) : List RoadT := (List.range l.length).map fun t => roadT l (r t)
theorem sorted_roads {A : List (List Int)} {r : RowF} (hs : SrtF (ltf (fR (roadsR A A.length))) 0 (roadsR A A.length).length r) (ho : OkF 0 (roadsR A A.length).length idF r) : RoadsOk A (sortedR (roadsR A A.length) r) := by
  have hmem := roadsR_mem A A.length
  generalize roadsR A A.length = l at *
  have hval : ∀ t, t < l.length → ∃ j : Nat, j < l.length ∧ r t = (j : Int) := fun t ht => by
    obtain ⟨s, _, h2, h3⟩ := ho.val (Nat.zero_le t) ht
    exact ⟨s, h2, h3⟩
  refine ⟨?_, ?_, ?_⟩
  · unfold sortedR
    rw [List.pairwise_map]
    refine List.Pairwise.imp_of_mem (fun {a b} ha hb h => ?_) (List.pairwise_lt_range (n := l.length))
    have h1 := hs a b (Nat.zero_le _) h (List.mem_range.1 hb)
    show keyR l (r a) ≤ keyR l (r b)
    rcases h1 with h1 | ⟨h1, _⟩
    · rw [ltf_true] at h1; unfold fR at h1; omega
    · rw [ltf_false] at h1; unfold fR at h1; omega
  · intro i k hki hin
    have h1 : (((i : Int), (k : Int), dM A i k) : R3) ∈ l := (hmem _).2 ⟨i, k, hki, hin, rfl⟩
    obtain ⟨j, hj, he⟩ := List.getElem_of_mem h1
    have h2 : (j : Int) ∈ tab l.length idF := List.mem_map.2 ⟨j, List.mem_range.2 hj, rfl⟩
    have h3 := (ok_perm ho).mem_iff.2 h2
    obtain ⟨t, ht, hrt⟩ := List.mem_map.1 h3
    refine List.mem_map.2 ⟨t, ht, ?_⟩
    unfold roadT
    rw [hrt, Int.toNat_natCast]
    have : l.getD j (0, 0, 0) = ((i : Int), (k : Int), dM A i k) := by rw [← he]; simp [List.getD, hj]
    rw [this]
    simp
  · intro x hx
    obtain ⟨t, ht, rfl⟩ := List.mem_map.1 hx
    obtain ⟨j, hj, hrt⟩ := hval t (List.mem_range.1 ht)
    have h1 : l[j] ∈ l := List.getElem_mem hj
    obtain ⟨i, k, hki, hin, he⟩ := (hmem _).1 h1
    have h2 : l.getD j (0, 0, 0) = ((i : Int), (k : Int), dM A i k) := by rw [← he]; simp [List.getD, hj]
    unfold roadT
    rw [hrt, Int.toNat_natCast, h2]
    simp only [Int.toNat_natCast]
    exact ⟨hki, hin, trivial⟩
end Go.Proofs.YtfaklhkdfpfjgaaDoor
