/- Cost, Late and Tardy in plain words, out of the ends. No program in sight. -/
import Derived.Test.YtkfjmmoljhekiaaDoorLineM
namespace Go.Proofs.YtkfjmmoljhekiaaDoor
open Go.RowKit Go.IntWalk

def endsM (l : List R3) (row : List Int) : List Int := if endsErr l row = 0 then outM l row row.length else []
def costM (l : List R3) (E : List Int) : Nat → Int
  | 0 => 0
  | k + 1 => wrap64 (costM l E k + wrap64 ((l.getD k (0, 0, 0)).2.1 * E.getD k 0))
def lateM (l : List R3) (E : List Int) : Nat → Int
  | 0 => 0
  | k + 1 => if k = 0 ∨ lateM l E k < wrap64 (E.getD k 0 - (l.getD k (0, 0, 0)).2.2) then wrap64 (E.getD k 0 - (l.getD k (0, 0, 0)).2.2) else lateM l E k
def tardyM (l : List R3) (E : List Int) : Nat → Int
  | 0 => 0
  | k + 1 => if (l.getD k (0, 0, 0)).2.2 < E.getD k 0 then wrap64 (tardyM l E k + 1) else tardyM l E k
theorem getR_lt {E : List R3} {j : Nat} (h : j < E.length) : E.getD j (0, 0, 0) = E[j] := by simp [List.getD, h]

theorem longOf_in {l : List R3} (h : tasksCheck l = 0) (i : Int) : 0 ≤ longOf l i ∧ longOf l i ≤ 1000000000 := by
  unfold longOf
  rcases Nat.lt_or_ge i.toNat l.length with hi | hi
  · rw [getR_lt hi]
    have := tasks_ok_task h i.toNat hi
    omega
  · simp [List.getD, List.getElem?_eq_none hi]
theorem nowM_in {l : List R3} (h : tasksCheck l = 0) (row : List Int) (k : Nat) (hk : k ≤ 60) : 0 ≤ nowM l row k ∧ nowM l row k ≤ k * 1000000000 := by
  induction k with
  | zero => simp [nowM]
  | succ k ih =>
    have h1 := ih (by omega)
    have h2 := longOf_in h (row.getD k 0)
    unfold nowM
    rw [wrap64_in _ (by omega)]
    constructor
    · omega
    · push_cast; omega
theorem outM_in {l : List R3} (h : tasksCheck l = 0) (row : List Int) (k : Nat) (hk : k ≤ 60) : ∀ x ∈ outM l row k, 0 ≤ x ∧ x ≤ 60000000000 := by
  induction k with
  | zero => intro x hx; have := (List.mem_replicate.1 hx).2; omega
  | succ k ih =>
    intro x hx
    rcases List.mem_or_eq_of_mem_set hx with hx | rfl
    · exact ih (by omega) x hx
    · have := nowM_in h row (k + 1) hk
      omega
theorem ends_ok {l : List R3} {row : List Int} (h : endsErr l row = 0) : tasksCheck l = 0 ∧ orderM row l.length = 0 := by
  unfold endsErr at h
  by_cases hc : tasksCheck l = 0
  · rw [if_neg (by simp [hc])] at h
    exact ⟨hc, h⟩
  · rw [if_pos hc] at h
    exact absurd h hc
theorem endsM_in (l : List R3) (row : List Int) : ∀ x ∈ endsM l row, 0 ≤ x ∧ x ≤ 60000000000 := by
  unfold endsM
  by_cases h : endsErr l row = 0
  · rw [if_pos h]
    obtain ⟨h1, h2⟩ := ends_ok h
    have := tasks_ok_len h1
    have := (order_ok h2).1
    exact outM_in h1 row _ (by omega)
  · rw [if_neg h]
    intro x hx
    simp at hx
theorem endsM_len (l : List R3) (row : List Int) : (endsM l row).length ≤ l.length := by
  unfold endsM
  split
  · rw [outM_len]; omega
  · simp
theorem endsM_len0 {l : List R3} {row : List Int} (h : endsErr l row = 0) : (endsM l row).length = l.length := by
  unfold endsM
  rw [if_pos h, outM_len]
theorem endsM_none {l : List R3} {row : List Int} (h : endsErr l row ≠ 0) : endsM l row = [] := if_neg h
/-- What is taken off is within words. -/
theorem ends_due {l : List R3} {row : List Int} (k : Nat) (hk : k < (endsM l row).length) (hl : k < l.length) : wrap64 ((endsM l row)[k] - l[k].2.2) = (endsM l row)[k] - l[k].2.2 := by
  have h1 := endsM_in l row _ (List.getElem_mem hk)
  by_cases h : endsErr l row = 0
  · have h2 := tasks_ok_task (ends_ok h).1 k hl
    rw [wrap64_in _ (by omega)]
  · have h3 := endsM_none h
    rw [h3] at hk
    simp at hk
/-- The program's most so far: it begins with the first one's. -/
def mostM (l : List R3) (E : List Int) (k : Nat) : Int := if k = 0 then wrap64 (E.getD 0 0 - (l.getD 0 (0, 0, 0)).2.2) else lateM l E k
theorem mostM_succ (l : List R3) (E : List Int) (k : Nat) : mostM l E (k + 1) = if mostM l E k < wrap64 (E.getD k 0 - (l.getD k (0, 0, 0)).2.2) then wrap64 (E.getD k 0 - (l.getD k (0, 0, 0)).2.2) else mostM l E k := by
  unfold mostM
  rw [if_neg (by omega)]
  by_cases hk : k = 0
  · subst hk
    simp [lateM]
  · rw [if_neg hk]
    show (if k = 0 ∨ _ then _ else _) = _
    simp [hk]
end Go.Proofs.YtkfjmmoljhekiaaDoor
