/- Cells stored one behind the other in a row of the call's own; a row made shorter. No program in sight. -/
import Derived.Test.YtannijeiecmjpaaDoorRow2
namespace Go.Proofs.YtannijeiecmjpaaDoor
open Go.RowKit

/-- Values laid one behind the other over a list. -/
def setAll (E : List Int) (o : Nat) : List Int → List Int
  | [] => E
  | v :: r => setAll (E.set o v) (o + 1) r
theorem setAll_len : ∀ (r : List Int) (E : List Int) (o : Nat), (setAll E o r).length = E.length := by
  intro r
  induction r with
  | nil => intro E o; rfl
  | cons v r ih => intro E o; unfold setAll; rw [ih]; simp
theorem setAll_get : ∀ (r : List Int) (E : List Int) (o t : Nat), o + r.length ≤ E.length → (setAll E o r)[t]? = if o ≤ t ∧ t < o + r.length then r[t - o]? else E[t]? := by
  intro r
  induction r with
  | nil => intro E o t _; unfold setAll; rw [if_neg (by simp)]
  | cons v r ih =>
    intro E o t h
    simp only [List.length_cons] at h
    unfold setAll
    rw [ih _ _ _ (by simp; omega), List.getElem?_set]
    by_cases h1 : o = t
    · subst h1
      rw [if_neg (by omega), if_pos rfl, if_pos (show o < E.length by omega), if_pos (show o ≤ o ∧ o < o + (v :: r).length from ⟨Nat.le_refl _, by simp⟩)]
      simp
    · rw [if_neg h1]
      by_cases h2 : o + 1 ≤ t ∧ t < o + 1 + r.length
      · rw [if_pos h2, if_pos (show o ≤ t ∧ t < o + (v :: r).length from ⟨by omega, by simp; omega⟩), show t - o = (t - (o + 1)) + 1 by omega, List.getElem?_cons_succ]
      · rw [if_neg h2, if_neg (by simp; omega)]
theorem owns_setAll {base e g n cap : Nat} : ∀ (r : List Int) {w : World} {E : List Int} (o : Nat), w.ownsRow base e 1 (.slice (some ⟨g, 0, none⟩) n cap) n (E.map (Value.int .i64)) → (w.setCells g o (r.map (Value.int .i64))).ownsRow base e 1 (.slice (some ⟨g, 0, none⟩) n cap) n ((setAll E o r).map (Value.int .i64)) := by
  intro r
  induction r with
  | nil => intro w E o h; exact h
  | cons v r ih => intro w E o h; exact ih (o + 1) (owns_set h o v)
theorem owns_shrink {w : World} {base e n cap m : Nat} {ad : Option Addr} {xs : List Value} (h : w.ownsRow base e 1 (.slice ad n cap) n xs) (hm : m ≤ n) : w.ownsRow base e 1 (.slice ad m cap) m (xs.take m) := by
  refine ⟨by rw [List.length_take, h.1]; omega, ?_⟩
  rcases h.2 with ⟨h1, h2⟩ | ⟨g, cap', cur, h1, h2, h3, h4, h5, h6, h7⟩
  · obtain ⟨rfl, _, rfl⟩ := Value.slice.inj h1
    exact Or.inl ⟨by rw [show m = 0 by omega], by omega⟩
  · obtain ⟨rfl, _, rfl⟩ := Value.slice.inj h1
    refine Or.inr ⟨g, cap, cur, rfl, h2, h3, by omega, h5, h6, ?_⟩
    rw [← h7, List.take_take, Nat.mul_one, Nat.mul_one, Nat.min_eq_left hm]
theorem grown_setCells (g : Nat) : ∀ (r : List Value) (w : World) (o : Nat), w.grownBy (w.setCells g o r) (some g) := by
  intro r
  induction r with
  | nil => intro w o; exact ⟨rfl, rfl, rfl, Nat.le_refl _, fun _ _ _ => rfl⟩
  | cons v r ih =>
    intro w o
    have h := ih (w.setCell ⟨g, o, none⟩ v) (o + 1)
    refine ⟨h.os, h.tape, h.output, ?_, fun k hk hne => ?_⟩
    · have h2 := h.size; exact Nat.le_trans (by simp [World.setCell]) h2
    · exact (h.block k (by simpa [World.setCell] using hk) hne).trans (Below.heap_setCell _ _ _ _ (fun e => hne (by rw [e])))
theorem grown_trans {a b c : World} {row : Option Nat} (h : a.grownBy b row) (k : b.grownBy c row) : a.grownBy c row :=
  ⟨k.os.trans h.os, k.tape.trans h.tape, k.output.trans h.output, Nat.le_trans h.size k.size, fun i hi hne => (k.block i (Nat.lt_of_lt_of_le hi h.size) hne).trans (h.block i hi hne)⟩
end Go.Proofs.YtannijeiecmjpaaDoor
