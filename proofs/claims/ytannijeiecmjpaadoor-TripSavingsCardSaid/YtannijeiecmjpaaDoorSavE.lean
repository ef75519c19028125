/- What is wrong with what places want, in plain words. No program in sight. -/
import Derived.Test.YtannijeiecmjpaaDoorTripChk
import Derived.Test.YtannijeiecmjpaaDoorSavL
namespace Go.Proofs.YtannijeiecmjpaaDoor
open Go.RowKit

/-- From the i-th place on. -/
def wantsFrom (room : Int) : Nat → List Int → Int
  | _, [] => 0
  | i, x :: xs => if x < 0 ∨ 1000000000 < x then 2 else if 0 < i ∧ room < x then 9 else wantsFrom room (i + 1) xs
def savErr (M : List (List Int)) (wants : List Int) (room : Int) : Int := if mapCheck M ≠ 0 then mapCheck M else if wants.length ≠ M.length then 3 else wantsFrom room 0 wants
theorem wants_here (room : Int) (wants : List Int) (k : Nat) (h : k < wants.length) : wantsFrom room k (wants.drop k) = if wants[k] < 0 ∨ 1000000000 < wants[k] then 2 else if 0 < k ∧ room < wants[k] then 9 else wantsFrom room (k + 1) (wants.drop (k + 1)) := by
  rw [List.drop_eq_getElem_cons h]
  rfl
theorem wants_done (room : Int) (wants : List Int) : wantsFrom room wants.length (wants.drop wants.length) = 0 := by simp [wantsFrom]
theorem wants_ok {room : Int} : ∀ {xs : List Int} {i : Nat}, wantsFrom room i xs = 0 → ∀ x ∈ xs, 0 ≤ x ∧ x ≤ 1000000000
  | [], _, _, x, hx => by cases hx
  | y :: ys, i, h, x, hx => by
    unfold wantsFrom at h
    by_cases h1 : y < 0 ∨ 1000000000 < y
    · rw [if_pos h1] at h; omega
    · rw [if_neg h1] at h
      by_cases h2 : 0 < i ∧ room < y
      · rw [if_pos h2] at h; omega
      · rw [if_neg h2] at h
        rcases List.mem_cons.1 hx with rfl | hx
        · omega
        · exact wants_ok h x hx
/-- What both sides tell of a right map and right wants. -/
noncomputable def toursS (M : List (List Int)) (wants : List Int) (room : Int) (D : List R3) : List (List Int) := listS M.length (savS wants room M.length (D.map fun x => (x.2.1.toNat, x.2.2.toNat)))
end Go.Proofs.YtannijeiecmjpaaDoor
