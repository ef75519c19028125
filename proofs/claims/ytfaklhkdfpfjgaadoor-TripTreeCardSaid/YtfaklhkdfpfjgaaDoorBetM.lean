/- Turning pieces of a round way over (19.3): a way by its legs, what turning a piece over makes of its length. No program in sight. -/
import Derived.Test.YtfaklhkdfpfjgaaDoorLongM
namespace Go.Proofs.YtfaklhkdfpfjgaaDoor
open Go.RowKit

/-- How long a way is, from its first place to its last one. -/
def pathL (A : List (List Int)) : List Int → Int
  | x :: y :: r => distM A x y + pathL A (y :: r)
  | _ => 0
theorem pathL_append (A : List (List Int)) : ∀ (l : List Int) (a b : Int) (r : List Int), pathL A (l ++ [a] ++ b :: r) = pathL A (l ++ [a]) + distM A a b + pathL A (b :: r)
  | [], a, b, r => by simp [pathL]
  | [x], a, b, r => by simp [pathL]; omega
  | x :: y :: l, a, b, r => by
    have h := pathL_append A (y :: l) a b r
    simp only [List.cons_append, List.append_assoc] at h ⊢
    simp only [pathL, h]
    omega
theorem pathL_reverse {A : List (List Int)} : ∀ (l : List Int), (∀ x ∈ l, ∀ y ∈ l, distM A x y = distM A y x) → pathL A l.reverse = pathL A l
  | [], _ => rfl
  | [x], _ => rfl
  | x :: y :: l, h => by
    have h1 := pathL_reverse (y :: l) (fun p hp q hq => h p (List.mem_cons_of_mem _ hp) q (List.mem_cons_of_mem _ hq))
    rw [List.reverse_cons] at h1
    rw [List.reverse_cons, List.reverse_cons]
    have h2 := pathL_append A l.reverse y x []
    rw [List.append_assoc] at h2 ⊢
    simp only [List.cons_append, List.nil_append] at h2 ⊢
    rw [h2, h1]
    have h3 := h x (by simp) y (by simp)
    simp only [pathL]
    omega
/-- A round way, laid open: its first place stands at its end too. -/
def openW (w : List Int) : List Int := w ++ [w.getD 0 0]
theorem legM_path (A : List (List Int)) (w : List Int) : ∀ k, k ≤ w.length → legM A w k = pathL A ((openW w).take (k + 1)) := by
  intro k
  induction k with
  | zero =>
    intro _
    unfold openW
    cases w with
    | nil => simp [legM, pathL]
    | cons x r => simp [legM, pathL]
  | succ k ih =>
    intro h
    have hlen : (openW w).length = w.length + 1 := by unfold openW; simp
    have e1 : (openW w).take (k + 2) = (openW w).take k ++ [(openW w)[k]'(by omega)] ++ [(openW w)[k + 1]'(by omega)] := by
      rw [List.take_succ_eq_append_getElem (by omega), List.take_succ_eq_append_getElem (by omega)]
    have e2 : (openW w).take (k + 1) = (openW w).take k ++ [(openW w)[k]'(by omega)] := List.take_succ_eq_append_getElem (by omega)
    have g1 : (openW w)[k]'(by omega) = w.getD k 0 := by
      unfold openW
      rw [List.getElem_append_left (by omega)]
      simp [List.getD, show k < w.length by omega]
    have g2 : (openW w)[k + 1]'(by omega) = w.getD ((k + 1) % w.length) 0 := by
      unfold openW
      by_cases hk : k + 1 < w.length
      · rw [List.getElem_append_left hk, Nat.mod_eq_of_lt hk]
        simp [List.getD, hk]
      · have h3 : k + 1 = w.length := by omega
        have h4 : (k + 1) % w.length = 0 := by rw [h3]; exact Nat.mod_self _
        rw [List.getElem_append_right (by omega), h4]
        simp
    rw [e1, g1, g2, pathL_append, ← g1, ← e2, ← ih (by omega), legM, g1]
    simp [pathL]
theorem longM_path (A : List (List Int)) (w : List Int) (h : 1 < w.length) : longM A w = pathL A (openW w) := by
  unfold longM
  rw [if_pos h, legM_path A w _ (Nat.le_refl _), List.take_of_length_le]
  unfold openW
  simp
/-- A piece is turned over. -/
def revM (w : List Int) (i k : Nat) : List Int := w.take i ++ ((w.drop i).take (k + 1 - i)).reverse ++ w.drop (k + 1)
theorem rev_len {w : List Int} {i k : Nat} (hik : i ≤ k) (hk : k < w.length) : (revM w i k).length = w.length := by
  unfold revM
  simp only [List.length_append, List.length_take, List.length_reverse, List.length_drop]
  omega
theorem rev_mem {w : List Int} {i k : Nat} (hik : i ≤ k) : ∀ x, x ∈ revM w i k ↔ x ∈ w := by
  intro x
  have h1 : w = w.take i ++ ((w.drop i).take (k + 1 - i) ++ w.drop (k + 1)) := by
    have h2 : (w.drop i).take (k + 1 - i) ++ (w.drop i).drop (k + 1 - i) = w.drop i := List.take_append_drop _ _
    rw [List.drop_drop, show i + (k + 1 - i) = k + 1 by omega] at h2
    rw [h2, List.take_append_drop]
  constructor
  · intro h
    rw [h1]
    unfold revM at h
    simp only [List.mem_append, List.mem_reverse] at h ⊢
    rcases h with (h | h) | h
    · exact Or.inl h
    · exact Or.inr (Or.inl h)
    · exact Or.inr (Or.inr h)
  · intro h
    rw [h1] at h
    unfold revM
    simp only [List.mem_append, List.mem_reverse] at h ⊢
    rcases h with h | h | h
    · exact Or.inl (Or.inl h)
    · exact Or.inl (Or.inr h)
    · exact Or.inr h
/-- It helps to turn the piece over. -/
def Helps (A : List (List Int)) (w : List Int) (i k : Nat) : Prop :=
  distM A (w.getD (i - 1) 0) (w.getD k 0) + distM A (w.getD i 0) (w.getD ((k + 1) % w.length) 0) < distM A (w.getD (i - 1) 0) (w.getD i 0) + distM A (w.getD k 0) (w.getD ((k + 1) % w.length) 0)
theorem rev_long {A : List (List Int)} {w : List Int} {i k : Nat} (hs : ∀ x ∈ w, ∀ y ∈ w, distM A x y = distM A y x) (hi : 1 ≤ i) (hik : i < k) (hk : k < w.length) :
    longM A (revM w i k) + (distM A (w.getD (i - 1) 0) (w.getD i 0) + distM A (w.getD k 0) (w.getD ((k + 1) % w.length) 0)) = longM A w + (distM A (w.getD (i - 1) 0) (w.getD k 0) + distM A (w.getD i 0) (w.getD ((k + 1) % w.length) 0)) := by
  have hw : 1 < w.length := by omega
  rw [longM_path A _ (by rw [rev_len (by omega) hk]; exact hw), longM_path A w hw]
  -- the four pieces
  obtain ⟨X, hX⟩ : ∃ X, X = w.take (i - 1) := ⟨_, rfl⟩
  have e1 : w.take i = X ++ [w.getD (i - 1) 0] := by
    have h := List.take_succ_eq_append_getElem (l := w) (i := i - 1) (by omega)
    rw [show i - 1 + 1 = i by omega] at h
    rw [h, hX]
    simp [List.getD, show i - 1 < w.length by omega]
  obtain ⟨M, hM⟩ : ∃ M, M = (w.drop (i + 1)).take (k - i - 1) := ⟨_, rfl⟩
  have e2 : (w.drop i).take (k + 1 - i) = w.getD i 0 :: M ++ [w.getD k 0] := by
    rw [List.drop_eq_getElem_cons (show i < w.length by omega), show k + 1 - i = (k - i) + 1 by omega, List.take_succ_cons]
    have h := List.take_succ_eq_append_getElem (l := w.drop (i + 1)) (i := k - i - 1) (by rw [List.length_drop]; omega)
    rw [show k - i - 1 + 1 = k - i by omega] at h
    rw [h, hM]
    have g1 : (w.drop (i + 1))[k - i - 1]'(by rw [List.length_drop]; omega) = w.getD k 0 := by
      rw [List.getElem_drop]
      simp [List.getD, show i + 1 + (k - i - 1) = k by omega, hk]
    rw [g1]
    simp [List.getD, show i < w.length by omega]
  obtain ⟨T, hT⟩ : ∃ T, w.drop (k + 1) ++ [w.getD 0 0] = w.getD ((k + 1) % w.length) 0 :: T := by
    by_cases hk1 : k + 1 < w.length
    · refine ⟨w.drop (k + 2) ++ [w.getD 0 0], ?_⟩
      rw [List.drop_eq_getElem_cons hk1, Nat.mod_eq_of_lt hk1, show w.getD (k + 1) 0 = w[k + 1] by simp [List.getD, hk1]]
      rfl
    · have h3 : k + 1 = w.length := by omega
      refine ⟨[], ?_⟩
      rw [h3, Nat.mod_self]
      simp
  have h1 : w = w.take i ++ ((w.drop i).take (k + 1 - i) ++ w.drop (k + 1)) := by
    have h2 : (w.drop i).take (k + 1 - i) ++ (w.drop i).drop (k + 1 - i) = w.drop i := List.take_append_drop _ _
    rw [List.drop_drop, show i + (k + 1 - i) = k + 1 by omega] at h2
    rw [h2, List.take_append_drop]
  have h0 : (revM w i k).getD 0 0 = w.getD 0 0 := by
    unfold revM
    have h5 : (w.take i ++ ((w.drop i).take (k + 1 - i)).reverse ++ w.drop (k + 1))[0]? = w[0]? := by
      rw [List.append_assoc, List.getElem?_append_left (by rw [List.length_take]; omega), List.getElem?_take, if_pos (by omega)]
    rw [List.getD_eq_getElem?_getD, h5, List.getD_eq_getElem?_getD]
  have o1 : openW w = X ++ [w.getD (i - 1) 0] ++ (w.getD i 0 :: M ++ [w.getD k 0]) ++ (w.getD ((k + 1) % w.length) 0 :: T) := by
    have : openW w = w.take i ++ ((w.drop i).take (k + 1 - i)) ++ (w.drop (k + 1) ++ [w.getD 0 0]) := by
      unfold openW
      conv => lhs; rw [h1]
      simp only [List.append_assoc]
      rw [← h1]
    rw [this, e1, e2, hT]
  have o2 : openW (revM w i k) = X ++ [w.getD (i - 1) 0] ++ (w.getD k 0 :: M.reverse ++ [w.getD i 0]) ++ (w.getD ((k + 1) % w.length) 0 :: T) := by
    unfold openW
    rw [h0]
    unfold revM
    rw [List.append_assoc, hT, e1, e2]
    simp
  have hmem : ∀ x ∈ w.getD i 0 :: M ++ [w.getD k 0], x ∈ w := by
    intro x hx
    rw [← e2] at hx
    exact List.mem_of_mem_drop (List.mem_of_mem_take hx)
  have hrev := pathL_reverse (A := A) (w.getD i 0 :: M ++ [w.getD k 0]) (fun x hx y hy => hs x (hmem x hx) y (hmem y hy))
  have hr2 : (w.getD i 0 :: M ++ [w.getD k 0]).reverse = w.getD k 0 :: M.reverse ++ [w.getD i 0] := by simp
  rw [hr2] at hrev
  rw [o1, o2]
  generalize w.getD (i - 1) 0 = a at *
  generalize w.getD i 0 = b at *
  generalize w.getD k 0 = c at *
  generalize w.getD ((k + 1) % w.length) 0 = d at *
  have p1 := pathL_append A (X ++ [a] ++ (b :: M)) c d T
  have p2 := pathL_append A X a b (M ++ [c])
  have p3 := pathL_append A (X ++ [a] ++ (c :: M.reverse)) b d T
  have p4 := pathL_append A X a c (M.reverse ++ [b])
  simp only [List.append_assoc, List.cons_append, List.nil_append] at p1 p2 p3 p4 hrev ⊢
  omega
/-- The first piece that helps. -/
def FirstAt (A : List (List Int)) (w : List Int) (i k : Nat) : Prop :=
  1 ≤ i ∧ i < k ∧ k < w.length ∧ Helps A w i k ∧ ∀ i' k', 1 ≤ i' → i' < k' → k' < w.length → (i' < i ∨ i' = i ∧ k' < k) → ¬ Helps A w i' k'
def NoneAt (A : List (List Int)) (w : List Int) : Prop := ∀ i' k', 1 ≤ i' → i' < k' → k' < w.length → ¬ Helps A w i' k'
/-- Where it ends. -/
inductive EndsAt (A : List (List Int)) : List Int → List Int → Prop where
  | done {w : List Int} (h : NoneAt A w) : EndsAt A w w
  | next {w r : List Int} {i k : Nat} (h : FirstAt A w i k) (h2 : EndsAt A (revM w i k) r) : EndsAt A w r
theorem first_one {A : List (List Int)} {w : List Int} {i k i' k' : Nat} (h : FirstAt A w i k) (h' : FirstAt A w i' k') : i = i' ∧ k = k' := by
  obtain ⟨h1, h2, h3, h4, h5⟩ := h
  obtain ⟨g1, g2, g3, g4, g5⟩ := h'
  by_cases c1 : i < i' ∨ i = i' ∧ k < k'
  · exact absurd h4 (g5 i k h1 h2 h3 c1)
  · by_cases c2 : i' < i ∨ i' = i ∧ k' < k
    · exact absurd g4 (h5 i' k' g1 g2 g3 c2)
    · omega
theorem EndsAt.one {A : List (List Int)} {w r r' : List Int} (h : EndsAt A w r) (h' : EndsAt A w r') : r = r' := by
  induction h with
  | done h0 =>
    cases h' with
    | done _ => rfl
    | next h1 _ => exact absurd h1.2.2.2.1 (h0 _ _ h1.1 h1.2.1 h1.2.2.1)
  | next h0 h2 ih =>
    cases h' with
    | done h1 => exact absurd h0.2.2.2.1 (h1 _ _ h0.1 h0.2.1 h0.2.2.1)
    | next h1 h3 =>
      obtain ⟨rfl, rfl⟩ := first_one h0 h1
      exact ih h3
/-- What stays while pieces are turned over. -/
def WayOk (A : List (List Int)) (w : List Int) : Prop := w.length = A.length ∧ (∀ x ∈ w, 0 ≤ x ∧ x < A.length)
theorem wayOk_rev {A : List (List Int)} {w : List Int} {i k : Nat} (h : WayOk A w) (hik : i ≤ k) (hk : k < w.length) : WayOk A (revM w i k) :=
  ⟨(rev_len hik hk).trans h.1, fun x hx => h.2 x ((rev_mem hik x).1 hx)⟩
end Go.Proofs.YtfaklhkdfpfjgaaDoor
