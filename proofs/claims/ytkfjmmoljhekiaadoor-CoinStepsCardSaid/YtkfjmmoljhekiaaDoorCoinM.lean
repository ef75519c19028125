/- How much of a word stands at the end of a text (4.3), in plain words: the greatest number of letters; it hangs on what stood there before alone. No program in sight. -/
import Derived.Test.YtkfjmmoljhekiaaDoorBase
namespace Go.Proofs.YtkfjmmoljhekiaaDoor
open Go.RowKit

/-- The greatest number up to m of letters of the word with which a text ends. -/
def stM (w t : List Int) : Nat → Nat
  | 0 => 0
  | m + 1 => if t.drop (t.length - (m + 1)) = w.take (m + 1) then m + 1 else stM w t m
def stands (w t : List Int) : Nat := stM w t (min w.length t.length)
def EndsW (w t : List Int) (j : Nat) : Prop := j ≤ w.length ∧ w.take j <:+ t
theorem endsW_len {w t : List Int} {j : Nat} (h : EndsW w t j) : j ≤ t.length := by
  have := h.2.length_le
  rw [List.length_take] at this
  have := h.1
  omega
theorem endsW_drop {w t : List Int} {j : Nat} (h1 : j ≤ w.length) : EndsW w t j ↔ t.drop (t.length - j) = w.take j := by
  unfold EndsW
  rw [List.suffix_iff_eq_drop, List.length_take, Nat.min_eq_left h1]
  constructor
  · intro h; exact h.2.symm
  · intro h; exact ⟨h1, h.symm⟩
theorem stM_spec (w t : List Int) : ∀ m, m ≤ w.length → m ≤ t.length → EndsW w t (stM w t m) ∧ ∀ j, j ≤ m → EndsW w t j → j ≤ stM w t m := by
  intro m
  induction m with
  | zero =>
    intro _ _
    exact ⟨⟨by simp [stM], by simp [stM]⟩, fun j hj _ => by simpa [stM] using hj⟩
  | succ m ih =>
    intro h1 h2
    obtain ⟨i1, i2⟩ := ih (by omega) (by omega)
    unfold stM
    by_cases h : t.drop (t.length - (m + 1)) = w.take (m + 1)
    · rw [if_pos h]
      exact ⟨(endsW_drop h1).2 h, fun j hj _ => hj⟩
    · rw [if_neg h]
      refine ⟨i1, fun j hj he => ?_⟩
      by_cases hjm : j = m + 1
      · subst hjm; exact absurd ((endsW_drop h1).1 he) h
      · exact i2 j (by omega) he
theorem stands_spec (w t : List Int) : EndsW w t (stands w t) ∧ ∀ j, EndsW w t j → j ≤ stands w t := by
  obtain ⟨h1, h2⟩ := stM_spec w t (min w.length t.length) (Nat.min_le_left _ _) (Nat.min_le_right _ _)
  exact ⟨h1, fun j hj => h2 j (Nat.le_min.2 ⟨hj.1, endsW_len hj⟩) hj⟩
theorem stands_uniq {w t : List Int} {s : Nat} (h : EndsW w t s) (hm : ∀ j, EndsW w t j → j ≤ s) : stands w t = s := by
  obtain ⟨h1, h2⟩ := stands_spec w t
  have := h2 s h
  have := hm _ h1
  omega
theorem stands_le (w t : List Int) : stands w t ≤ w.length ∧ stands w t ≤ t.length := by
  have h := (stands_spec w t).1
  exact ⟨h.1, endsW_len h⟩
/-- Behind one letter more. -/
theorem endsW_snoc {w t : List Int} {k : Int} {i : Nat} (hi : i < w.length) : EndsW w (t ++ [k]) (i + 1) ↔ (w[i] = k ∧ EndsW w t i) := by
  unfold EndsW
  rw [List.take_succ_eq_append_getElem hi, List.suffix_concat_iff]
  constructor
  · rintro ⟨_, h | ⟨t', h, hs⟩⟩
    · exact absurd h (List.append_ne_nil_of_right_ne_nil _ (List.cons_ne_nil _ _))
    · obtain ⟨h1, h2⟩ := List.append_inj' h rfl
      simp only [List.cons.injEq, and_true] at h2
      exact ⟨h2, by omega, h1 ▸ hs⟩
  · rintro ⟨rfl, _, hs⟩
    exact ⟨by omega, Or.inr ⟨_, rfl, hs⟩⟩
theorem stands_snoc (w t : List Int) (k : Int) : stands w (t ++ [k]) = stands w (w.take (stands w t) ++ [k]) := by
  obtain ⟨h1, h2⟩ := stands_spec w t
  have key : ∀ j, EndsW w (t ++ [k]) j ↔ EndsW w (w.take (stands w t) ++ [k]) j := by
    intro j
    cases j with
    | zero => constructor <;> (intro _; exact ⟨by omega, by simp⟩)
    | succ i =>
      by_cases hi : i < w.length
      · rw [endsW_snoc hi, endsW_snoc hi]
        constructor
        · rintro ⟨hk, he⟩
          refine ⟨hk, he.1, List.suffix_of_suffix_length_le he.2 h1.2 ?_⟩
          have := h2 i he
          rw [List.length_take, List.length_take]
          omega
        · rintro ⟨hk, he⟩
          exact ⟨hk, he.1, he.2.trans h1.2⟩
      · constructor <;> (intro h; have := h.1; omega)
  obtain ⟨g1, g2⟩ := stands_spec w (w.take (stands w t) ++ [k])
  exact stands_uniq ((key _).2 g1) (fun j hj => g2 j ((key j).1 hj))
/-- Where the whole text does not stand there, its first letter counts for nothing. -/
theorem stands_tail {w : List Int} {x : Int} {t : List Int} (h : ¬ w.take (t.length + 1) = x :: t) : stands w (x :: t) = stands w t := by
  obtain ⟨h1, h2⟩ := stands_spec w t
  refine stands_uniq ⟨h1.1, h1.2.trans (List.suffix_cons _ _)⟩ (fun j hj => h2 j ⟨hj.1, ?_⟩)
  rcases List.suffix_cons_iff.1 hj.2 with h3 | h3
  · exfalso
    have h4 := congrArg List.length h3
    rw [List.length_take, List.length_cons] at h4
    have := hj.1
    have h5 : j = t.length + 1 := by omega
    subst h5
    exact h h3
  · exact h3
/-- What stands there without the first letter, of n letters of the word. -/
def failM (w : List Int) (n : Nat) : Nat := stands w ((w.take n).tail)
/-- Of n letters that stand there, behind the letter k. -/
def rowM (w : List Int) (n : Nat) (k : Int) : Nat := stands w (if n = w.length then (w.take n ++ [k]).tail else w.take n ++ [k])
theorem failM_zero (w : List Int) : failM w 0 = 0 := by
  have := (stands_le w ((w.take 0).tail)).2
  simp at this
  unfold failM; simp [this]
theorem failM_one (w : List Int) : failM w 1 = 0 := by
  have := (stands_le w ((w.take 1).tail)).2
  rw [List.length_tail, List.length_take] at this
  unfold failM; omega
theorem failM_lt (w : List Int) (n : Nat) (h : 0 < n) : failM w n < n := by
  have := (stands_le w ((w.take n).tail)).2
  rw [List.length_tail, List.length_take] at this
  unfold failM; omega
theorem rowM_in {w : List Int} {n : Nat} (h : n < w.length) (k : Int) : rowM w n k = stands w (w.take n ++ [k]) := by
  unfold rowM; rw [if_neg (by omega)]
theorem tail_snoc {l : List Int} (k : Int) (h : l ≠ []) : (l ++ [k]).tail = l.tail ++ [k] := by
  cases l with
  | nil => exact absurd rfl h
  | cons x xs => rfl
theorem take_ne {w : List Int} {n : Nat} (h0 : 0 < n) (hw : 0 < w.length) : w.take n ≠ [] := by
  intro h
  have := congrArg List.length h
  rw [List.length_take, List.length_nil] at this
  omega
/-- The row behind the failure of n letters. -/
theorem row_fail {w : List Int} {n : Nat} (h0 : 0 < n) (hn : n ≤ w.length) (k : Int) : rowM w (failM w n) k = stands w ((w.take n ++ [k]).tail) := by
  have hf := failM_lt w n h0
  rw [rowM_in (by omega), tail_snoc k (take_ne h0 (by omega)), stands_snoc w ((w.take n).tail) k]
  rfl
theorem row_hit {w : List Int} {n : Nat} (h : n < w.length) : rowM w n w[n] = n + 1 := by
  rw [rowM_in h, ← List.take_succ_eq_append_getElem h]
  refine stands_uniq ⟨by omega, List.suffix_refl _⟩ (fun j hj => ?_)
  have := endsW_len hj
  rw [List.length_take] at this
  omega
theorem row_miss {w : List Int} {n : Nat} (h : n < w.length) {k : Int} (hk : w[n] ≠ k) : rowM w n k = stands w ((w.take n ++ [k]).tail) := by
  rw [rowM_in h]
  cases hc : w.take n ++ [k] with
  | nil => simp at hc
  | cons x t =>
    have hl := congrArg List.length hc
    rw [List.length_append, List.length_take, List.length_cons] at hl
    simp only [List.length_cons, List.length_nil] at hl
    refine stands_tail fun h2 => ?_
    rw [← hc, show t.length + 1 = n + 1 by omega, List.take_succ_eq_append_getElem h] at h2
    have h3 := (List.append_inj' h2 rfl).2
    simp only [List.cons.injEq, and_true] at h3
    exact hk h3
theorem row_zero {w : List Int} (h : 0 < w.length) {k : Int} (hk : w[0] ≠ k) : rowM w 0 k = 0 := by
  rw [row_miss h hk]
  have := (stands_le w ((w.take 0 ++ [k]).tail)).2
  simp at this
  simp [this]
theorem row_miss' {w : List Int} {n : Nat} (h0 : 0 < n) (h : n < w.length) {k : Int} (hk : w[n] ≠ k) : rowM w n k = rowM w (failM w n) k := by
  rw [row_miss h hk, row_fail h0 (by omega)]
theorem row_last {w : List Int} (h0 : 0 < w.length) (k : Int) : rowM w w.length k = rowM w (failM w w.length) k := by
  rw [row_fail h0 (Nat.le_refl _)]
  unfold rowM
  rw [if_pos rfl]
theorem fail_succ {w : List Int} {n : Nat} (h0 : 0 < n) (h : n < w.length) : failM w (n + 1) = rowM w (failM w n) w[n] := by
  rw [row_fail h0 (by omega)]
  unfold failM
  rw [List.take_succ_eq_append_getElem h]
theorem rowM_le (w : List Int) (n : Nat) (k : Int) : rowM w n k ≤ w.length := (stands_le _ _).1
end Go.Proofs.YtkfjmmoljhekiaaDoor
