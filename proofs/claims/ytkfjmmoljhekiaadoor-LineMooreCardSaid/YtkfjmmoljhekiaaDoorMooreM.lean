/- Moore's and Hodgson's row in plain words; cells stored one behind the other in a row of the call's own; a row made shorter. No program in sight. -/
import Derived.Test.YtkfjmmoljhekiaaDoorLineSort
namespace Go.Proofs.YtkfjmmoljhekiaaDoor
open Go.RowKit

/-- How long all of them take together. -/
def sumL (xs : List R3) (on : List Int) : Int := on.foldl (fun s i => s + (xget xs i).1) 0
theorem foldl_shift (f : Int → Int) : ∀ (l : List Int) (a : Int), l.foldl (fun s i => s + f i) a = a + l.foldl (fun s i => s + f i) 0 := by
  intro l
  induction l with
  | nil => intro a; simp
  | cons x l ih => intro a; simp only [List.foldl_cons]; rw [ih, ih (0 + f x)]; omega
theorem sumL_app (xs : List R3) (on : List Int) (i : Int) : sumL xs (on ++ [i]) = sumL xs on + (xget xs i).1 := by
  simp [sumL, List.foldl_append]
theorem sumL_cons (xs : List R3) (on : List Int) (i : Int) : sumL xs (i :: on) = (xget xs i).1 + sumL xs on := by
  show List.foldl _ _ _ = _
  rw [List.foldl_cons, foldl_shift (fun i => (xget xs i).1)]
  simp [sumL]
theorem sumL_erase (xs : List R3) : ∀ (on : List Int) (k : Nat) (h : k < on.length), sumL xs (on.eraseIdx k) = sumL xs on - (xget xs on[k]).1 := by
  intro on
  induction on with
  | nil => intro k h; simp at h
  | cons a on ih =>
    intro k h
    cases k with
    | zero => rw [List.eraseIdx_cons_zero, sumL_cons]; simp; omega
    | succ k =>
      rw [List.eraseIdx_cons_succ, sumL_cons, sumL_cons, ih k (by simpa using h)]
      simp only [List.getElem_cons_succ]
      omega
theorem sumL_bound {xs : List R3} (hx : ∀ i, 0 ≤ (xget xs i).1 ∧ (xget xs i).1 ≤ 1000000000) : ∀ (on : List Int), 0 ≤ sumL xs on ∧ sumL xs on ≤ on.length * 1000000000 := by
  intro on
  induction on with
  | nil => simp [sumL]
  | cons a on ih =>
    rw [sumL_cons]
    have := hx a
    simp only [List.length_cons]
    omega
/-- The first of the longest, of the first k of them. -/
def amaxM (xs : List R3) (on : List Int) : Nat → Nat
  | 0 => 0
  | k + 1 => if (xget xs (on.getD (amaxM xs on k) 0)).1 < (xget xs (on.getD k 0)).1 then k else amaxM xs on k
theorem amaxM_lt (xs : List R3) (on : List Int) : ∀ k, 0 < k → amaxM xs on k < k := by
  intro k
  induction k with
  | zero => intro h; omega
  | succ k ih =>
    intro _
    unfold amaxM
    split
    · omega
    · rcases Nat.eq_zero_or_pos k with rfl | h
      · simp [amaxM]
      · have := ih h; omega
def mooreStep (xs : List R3) (s : List Int × List Int) (i : Int) : List Int × List Int :=
  if sumL xs (s.1 ++ [i]) ≤ (xget xs i).2.2 then (s.1 ++ [i], s.2)
  else ((s.1 ++ [i]).eraseIdx (amaxM xs (s.1 ++ [i]) (s.1 ++ [i]).length), s.2 ++ [(s.1 ++ [i]).getD (amaxM xs (s.1 ++ [i]) (s.1 ++ [i]).length) 0])
def mooreTo (xs : List R3) (row : List Int) (k : Nat) : List Int × List Int := (row.take k).foldl (mooreStep xs) ([], [])
theorem mooreTo_succ (xs : List R3) (row : List Int) (k : Nat) (h : k < row.length) : mooreTo xs row (k + 1) = mooreStep xs (mooreTo xs row k) row[k] := by
  unfold mooreTo
  rw [List.take_succ_eq_append_getElem h, List.foldl_append]
  rfl
theorem step_all (P : Int → Prop) (xs : List R3) (s : List Int × List Int) (i : Int) (h1 : ∀ x ∈ s.1, P x) (h2 : ∀ x ∈ s.2, P x) (hi : P i) : (∀ x ∈ (mooreStep xs s i).1, P x) ∧ (∀ x ∈ (mooreStep xs s i).2, P x) := by
  have h3 : ∀ x ∈ s.1 ++ [i], P x := by
    intro x hx
    rcases List.mem_append.1 hx with h | h
    · exact h1 x h
    · simp at h; rw [h]; exact hi
  unfold mooreStep
  split
  · exact ⟨h3, h2⟩
  · refine ⟨fun x hx => h3 x (List.mem_of_mem_eraseIdx hx), fun x hx => ?_⟩
    rcases List.mem_append.1 hx with h | h
    · exact h2 x h
    · simp only [List.mem_singleton] at h
      have hl := amaxM_lt xs (s.1 ++ [i]) (s.1 ++ [i]).length (by simp)
      rw [List.getD_eq_getElem?_getD, List.getElem?_eq_getElem hl] at h
      rw [h]
      exact h3 _ (List.getElem_mem hl)
theorem step_len (xs : List R3) (s : List Int × List Int) (i : Int) : (mooreStep xs s i).1.length + (mooreStep xs s i).2.length = s.1.length + s.2.length + 1 := by
  unfold mooreStep
  split
  · simp; omega
  · have hl := amaxM_lt xs (s.1 ++ [i]) (s.1 ++ [i]).length (by simp)
    have h2 : ((s.1 ++ [i]).eraseIdx (amaxM xs (s.1 ++ [i]) (s.1 ++ [i]).length)).length = (s.1 ++ [i]).length - 1 := by
      rw [List.length_eraseIdx, if_pos hl]
    have h3 : (s.1 ++ [i]).length = s.1.length + 1 := by simp
    show (List.eraseIdx _ _).length + List.length (s.2 ++ [_]) = _
    rw [h2, h3, List.length_append, List.length_singleton]
    omega
theorem mooreTo_all (P : Int → Prop) (xs : List R3) (row : List Int) (hr : ∀ x ∈ row, P x) : ∀ k, k ≤ row.length → (∀ x ∈ (mooreTo xs row k).1, P x) ∧ (∀ x ∈ (mooreTo xs row k).2, P x) ∧ (mooreTo xs row k).1.length + (mooreTo xs row k).2.length = k := by
  intro k
  induction k with
  | zero => intro _; simp [mooreTo]
  | succ k ih =>
    intro h
    obtain ⟨a, b, c⟩ := ih (by omega)
    rw [mooreTo_succ xs row k (by omega)]
    have h1 := step_all P xs (mooreTo xs row k) (row[k]'(by omega)) a b (hr _ (List.getElem_mem (by omega)))
    exact ⟨h1.1, h1.2, by rw [step_len, c]⟩

/-- Values laid one behind the other over a list. -/
def setAll (E : List Int) (o : Nat) : List Int → List Int
  | [] => E
  | v :: r => setAll (E.set o v) (o + 1) r
theorem setAll_len : ∀ (r : List Int) (E : List Int) (o : Nat), (setAll E o r).length = E.length := by
  intro r
  induction r with
  | nil => intro E o; rfl
  | cons v r ih => intro E o; unfold setAll; rw [ih]; simp
theorem setAll_get : ∀ (r : List Int) (E : List Int) (o t : Nat), o + r.length ≤ E.length → (setAll E o r)[t]? = if o ≤ t ∧ t < o + r.length then r[t - o]? else E[t]? := by
  intro r
  induction r with
  | nil => intro E o t _; unfold setAll; rw [if_neg (by simp)]
  | cons v r ih =>
    intro E o t h
    simp only [List.length_cons] at h
    unfold setAll
    rw [ih _ _ _ (by simp; omega), List.getElem?_set]
    by_cases h1 : o = t
    · subst h1
      rw [if_neg (by omega), if_pos rfl, if_pos (show o < E.length by omega), if_pos (show o ≤ o ∧ o < o + (v :: r).length from ⟨Nat.le_refl _, by simp⟩)]
      simp
    · rw [if_neg h1]
      by_cases h2 : o + 1 ≤ t ∧ t < o + 1 + r.length
      · rw [if_pos h2, if_pos (show o ≤ t ∧ t < o + (v :: r).length from ⟨by omega, by simp; omega⟩), show t - o = (t - (o + 1)) + 1 by omega, List.getElem?_cons_succ]
      · rw [if_neg h2, if_neg (by simp; omega)]
theorem erase_setAll (E : List Int) (i : Nat) (h : i < E.length) (z : Int) : (setAll (setAll E i (E.drop (i + 1))) (E.length - 1) [z]).take (E.length - 1) = E.eraseIdx i := by
  refine List.ext_getElem? fun t => ?_
  rw [List.getElem?_take, List.getElem?_eraseIdx]
  by_cases ht : t < E.length - 1
  · rw [if_pos ht, setAll_get _ _ _ _ (by rw [setAll_len]; simp; omega), if_neg (by omega), setAll_get _ _ _ _ (by simp; omega)]
    by_cases h2 : t < i
    · rw [if_pos h2, if_neg (by omega)]
    · rw [if_neg h2, if_pos ⟨by omega, by simp; omega⟩, List.getElem?_drop, show i + 1 + (t - i) = t + 1 by omega]
  · rw [if_neg ht]
    by_cases h2 : t < i
    · omega
    · rw [if_neg h2, List.getElem?_eq_none (by omega)]
theorem owns_setAll {base e g n cap : Nat} : ∀ (r : List Int) {w : World} {E : List Int} (o : Nat), w.ownsRow base e 1 (.slice (some ⟨g, 0, none⟩) n cap) n (E.map (Value.int .i64)) → (w.setCells g o (r.map (Value.int .i64))).ownsRow base e 1 (.slice (some ⟨g, 0, none⟩) n cap) n ((setAll E o r).map (Value.int .i64)) := by
  intro r
  induction r with
  | nil => intro w E o h; exact h
  | cons v r ih => intro w E o h; exact ih (o + 1) (owns_set h o v)
theorem owns_shrink {w : World} {base e n cap m : Nat} {ad : Option Addr} {xs : List Value} (h : w.ownsRow base e 1 (.slice ad n cap) n xs) (hm : m ≤ n) : w.ownsRow base e 1 (.slice ad m cap) m (xs.take m) := by
  refine ⟨by rw [List.length_take, h.1]; omega, ?_⟩
  rcases h.2 with ⟨h1, h2⟩ | ⟨g, cap', cur, h1, h2, h3, h4, h5, h6, h7⟩
  · obtain ⟨rfl, _, rfl⟩ := Value.slice.inj h1
    exact Or.inl ⟨by rw [show m = 0 by omega], by omega⟩
  · obtain ⟨rfl, _, rfl⟩ := Value.slice.inj h1
    refine Or.inr ⟨g, cap, cur, rfl, h2, h3, by omega, h5, h6, ?_⟩
    rw [← h7, List.take_take, Nat.mul_one, Nat.mul_one, Nat.min_eq_left hm]
theorem grown_setCells (g : Nat) : ∀ (r : List Value) (w : World) (o : Nat), w.grownBy (w.setCells g o r) (some g) := by
  intro r
  induction r with
  | nil => intro w o; exact ⟨rfl, rfl, rfl, Nat.le_refl _, fun _ _ _ => rfl⟩
  | cons v r ih =>
    intro w o
    have h := ih (w.setCell ⟨g, o, none⟩ v) (o + 1)
    refine ⟨h.os, h.tape, h.output, ?_, fun k hk hne => ?_⟩
    · have h2 := h.size; exact Nat.le_trans (by simp [World.setCell]) h2
    · exact (h.block k (by simpa [World.setCell] using hk) hne).trans (Below.heap_setCell _ _ _ _ (fun e => hne (by rw [e])))
theorem grown_trans {a b c : World} {row : Option Nat} (h : a.grownBy b row) (k : b.grownBy c row) : a.grownBy c row :=
  ⟨k.os.trans h.os, k.tape.trans h.tape, k.output.trans h.output, Nat.le_trans h.size k.size, fun i hi hne => (k.block i (Nat.lt_of_lt_of_le hi h.size) hne).trans (h.block i hi hne)⟩
end Go.Proofs.YtkfjmmoljhekiaaDoor
