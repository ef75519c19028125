/- The first of the least ones, of a row of them. No program in sight. -/
import Derived.Test.YtfaklhkdfpfjgaaDoorBase
namespace Go.Proofs.YtfaklhkdfpfjgaaDoor
section
variable {α : Type}
def better : Option (Int × α) → Option (Int × α) → Option (Int × α)
  | none, y => y
  | some x, none => some x
  | some x, some y => if y.1 < x.1 then some y else some x
theorem better_none (x : Option (Int × α)) : better x none = x := by cases x <;> rfl
theorem better_assoc (x y z : Option (Int × α)) : better (better x y) z = better x (better y z) := by
  cases x with
  | none => rfl
  | some x =>
    cases y with
    | none => rfl
    | some y =>
      cases z with
      | none => rw [better_none, better_none]
      | some z =>
        by_cases h1 : y.1 < x.1
        · by_cases h2 : z.1 < y.1
          · simp only [better, if_pos h1, if_pos h2, if_pos (show z.1 < x.1 by omega)]
          · simp only [better, if_pos h1, if_neg h2]
        · by_cases h2 : z.1 < y.1
          · simp only [better, if_neg h1, if_pos h2]
          · simp only [better, if_neg h1, if_neg h2, if_neg (show ¬ z.1 < x.1 by omega)]
def minF : List (Int × α) → Option (Int × α)
  | [] => none
  | x :: l => better (some x) (minF l)
theorem minF_append (l r : List (Int × α)) : minF (l ++ r) = better (minF l) (minF r) := by
  induction l with
  | nil => rfl
  | cons x l ih => simp only [List.cons_append, minF, ih, better_assoc]
theorem minF_map {β : Type} (c : Int) (f : α → β) : ∀ l : List (Int × α), minF (l.map fun x => (x.1 + c, f x.2)) = (minF l).map fun x => (x.1 + c, f x.2)
  | [] => rfl
  | x :: l => by
    simp only [List.map_cons, minF, minF_map c f l]
    cases minF l with
    | none => rfl
    | some y =>
      by_cases h : y.1 < x.1
      · simp only [Option.map_some, better, if_pos h, if_pos (show y.1 + c < x.1 + c by omega)]
      · simp only [Option.map_some, better, if_neg h, if_neg (show ¬ y.1 + c < x.1 + c by omega)]
theorem minF_some {l : List (Int × α)} (h : l ≠ []) : ∃ x, minF l = some x := by
  cases l with
  | nil => exact absurd rfl h
  | cons x l =>
    cases h2 : minF l with
    | none => exact ⟨x, by simp only [minF, h2, better]⟩
    | some y =>
      by_cases h1 : y.1 < x.1
      · exact ⟨y, by simp only [minF, h2, better, if_pos h1]⟩
      · exact ⟨x, by simp only [minF, h2, better, if_neg h1]⟩
theorem minF_mem {l : List (Int × α)} {x : Int × α} (h : minF l = some x) : x ∈ l := by
  induction l generalizing x with
  | nil => cases h
  | cons y l ih =>
    cases h2 : minF l with
    | none =>
      simp only [minF, h2, better, Option.some.injEq] at h
      rw [h]; exact List.mem_cons_self ..
    | some z =>
      by_cases h1 : z.1 < y.1
      · simp only [minF, h2, better, if_pos h1, Option.some.injEq] at h
        rw [← h]; exact List.mem_cons_of_mem _ (ih h2)
      · simp only [minF, h2, better, if_neg h1, Option.some.injEq] at h
        rw [h]; exact List.mem_cons_self ..
/-- The least number so far, as a program holds it: -1 where there is none. -/
def numOf (o : Option (Int × α)) : Int := match o with | none => -1 | some x => x.1
end
/-- The first of the least ones of the first n. -/
def joinB {α : Type} (g : Nat → Option (Int × α)) : Nat → Option (Int × α)
  | 0 => none
  | d + 1 => better (joinB g d) (g d)
theorem joinB_congr {α : Type} {g g' : Nat → Option (Int × α)} : ∀ n : Nat, (∀ d, d < n → g d = g' d) → joinB g n = joinB g' n := by
  intro n
  induction n with
  | zero => intro _; rfl
  | succ n ih => intro h; unfold joinB; rw [ih (fun d hd => h d (by omega)), h n (by omega)]
theorem better_map {α β : Type} (c : Int) (f : α → β) (x y : Option (Int × α)) : (better x y).map (fun z => (z.1 + c, f z.2)) = better (x.map fun z => (z.1 + c, f z.2)) (y.map fun z => (z.1 + c, f z.2)) := by
  cases x with
  | none => rfl
  | some x =>
    cases y with
    | none => rfl
    | some y =>
      by_cases h : y.1 < x.1
      · simp only [Option.map_some, better, if_pos h, if_pos (show y.1 + c < x.1 + c by omega)]
      · simp only [Option.map_some, better, if_neg h, if_neg (show ¬ y.1 + c < x.1 + c by omega)]
theorem joinB_mem {α : Type} {g : Nat → Option (Int × α)} : ∀ {n : Nat} {x : Int × α}, joinB g n = some x → ∃ d, d < n ∧ g d = some x := by
  intro n
  induction n with
  | zero => intro x h; cases h
  | succ n ih =>
    intro x h
    unfold joinB at h
    cases h1 : joinB g n with
    | none =>
      rw [h1] at h
      exact ⟨n, by omega, h⟩
    | some y =>
      rw [h1] at h
      cases h2 : g n with
      | none =>
        rw [h2, better_none] at h
        obtain ⟨d, hd, he⟩ := ih (h1.trans h)
        exact ⟨d, by omega, he⟩
      | some z =>
        rw [h2] at h
        by_cases hc : z.1 < y.1
        · simp only [better, if_pos hc] at h
          exact ⟨n, by omega, h2.trans h⟩
        · simp only [better, if_neg hc] at h
          obtain ⟨d, hd, he⟩ := ih (h1.trans h)
          exact ⟨d, by omega, he⟩
theorem joinB_some {α : Type} {g : Nat → Option (Int × α)} {n : Nat} (hn : 0 < n) (h : ∀ d, d < n → ∃ x, g d = some x) : ∃ x, joinB g n = some x := by
  obtain ⟨m, rfl⟩ : ∃ m, n = m + 1 := ⟨n - 1, by omega⟩
  obtain ⟨y, hy⟩ := h m (by omega)
  unfold joinB
  rw [hy]
  cases h1 : joinB g m with
  | none => exact ⟨y, rfl⟩
  | some x =>
    by_cases hc : y.1 < x.1
    · exact ⟨y, by simp only [better, if_pos hc]⟩
    · exact ⟨x, by simp only [better, if_neg hc]⟩

end Go.Proofs.YtfaklhkdfpfjgaaDoor
