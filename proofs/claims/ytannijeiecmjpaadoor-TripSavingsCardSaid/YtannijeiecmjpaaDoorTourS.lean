/- The tours in memory: each in a row of the call's own, no two in one. -/
import Derived.Test.YtannijeiecmjpaaDoorRows
import Derived.Test.YtannijeiecmjpaaDoorSavM
import Derived.Test.YtannijeiecmjpaaDoorRow
namespace Go.Proofs.YtannijeiecmjpaaDoor
open Go.RowKit

/-- Of each place that begins a tour the slice V f holds it; elsewhere it is nil. -/
structure ToursAt (w : World) (base : Nat) (T : ToursF) (V : Nat → Value) : Prop where
  none' : ∀ f, T f = [] → V f = .slice none 0 0
  row : ∀ f, w.ownsRow base 3 1 (V f) (T f).length ((T f).map (Value.int .i64))
  apart : ∀ f g b, (V f).ownBlock = some b → (V g).ownBlock = some b → f = g
theorem ToursAt.lt {w : World} {base : Nat} {T : ToursF} {V : Nat → Value} (H : ToursAt w base T V) {f b : Nat} (h : (V f).ownBlock = some b) : base ≤ b ∧ b < w.heap.size := (H.row f).lt b h
theorem ToursAt.form {w : World} {base : Nat} {T : ToursF} {V : Nat → Value} (H : ToursAt w base T V) {f : Nat} (h : T f ≠ []) : ∃ g q c, V f = .slice (some ⟨g, 0, none⟩) (q + 1) c ∧ (T f).length = q + 1 := by
  have hl : 0 < (T f).length := List.length_pos_iff.2 h
  rcases (H.row f).2 with ⟨_, h0⟩ | ⟨g, cap, cur, h1, _⟩
  · omega
  · refine ⟨g, (T f).length - 1, cap, ?_, by omega⟩
    rw [h1, Nat.sub_add_cancel hl]
/-- Where no tour's block is written they stay. -/
theorem ToursAt.grown {w w' : World} {base : Nat} {T : ToursF} {V : Nat → Value} (H : ToursAt w base T V) {row : Option Nat} (hg : w.grownBy w' row) (hr : ∀ f b, (V f).ownBlock = some b → row ≠ some b) : ToursAt w' base T V := by
  refine ⟨H.none', fun f => (H.row f).kept hg ?_, H.apart⟩
  cases hb : (V f).ownBlock with
  | none => exact Or.inl rfl
  | some b => exact Or.inr (fun h => hr f b hb h.symm)
theorem ToursAt.next {w w' : World} {base : Nat} {T : ToursF} {V : Nat → Value} (H : ToursAt w base T V) (h : Below w.heap.size w w') : ToursAt w' base T V :=
  ⟨H.none', fun f => owns_at (H.row f) h, H.apart⟩
theorem ToursAt.start (w : World) (base : Nat) : ToursAt w base (fun _ => []) (fun _ => .slice none 0 0) :=
  ⟨fun _ _ => rfl, fun _ => World.ownsRow_nil _ _ _ _, fun f g b h => by cases h⟩
/-- A tour of one place more. -/
theorem ToursAt.add {w w' : World} {base : Nat} {T : ToursF} {V : Nat → Value} (H : ToursAt w base T V) {f : Nat} {v : Value} {t : List Int} (hg : w.grownBy w' none) (hv : w'.ownsRow base 3 1 v t.length (t.map (Value.int .i64))) (hne : t ≠ []) (hb : ∀ b, v.ownBlock = some b → w.heap.size ≤ b) :
    ToursAt w' base (fun g => if g = f then t else T g) (fun g => if g = f then v else V g) := by
  refine ⟨fun g h => ?_, fun g => ?_, fun g h b h1 h2 => ?_⟩
  · by_cases e : g = f
    · rw [if_pos e] at h; exact absurd h hne
    · rw [if_neg e] at h ⊢; exact H.none' g h
  · by_cases e : g = f
    · simp only [if_pos e]; exact hv
    · simp only [if_neg e]; exact (H.grown hg (fun f b _ => by simp)).row g
  · by_cases e : g = f
    · rw [if_pos e] at h1
      by_cases e2 : h = f
      · rw [e, e2]
      · rw [if_neg e2] at h2
        have := hb b h1
        have := (H.lt h2).2
        omega
    · rw [if_neg e] at h1
      by_cases e2 : h = f
      · rw [if_pos e2] at h2
        have := hb b h2
        have := (H.lt h1).2
        omega
      · rw [if_neg e2] at h2
        exact H.apart g h b h1 h2
/-- Two are made one. -/
theorem ToursAt.merge {w w' : World} {base : Nat} {T : ToursF} {V : Nat → Value} (H : ToursAt w base T V) {a k : Nat} (ha : T a ≠ []) {v : Value} (hg : w.grownBy w' (V a).ownBlock) (hv : w'.ownsRow base 3 1 v (T a ++ T k).length ((T a ++ T k).map (Value.int .i64)))
    (hb : v.ownBlock = (V a).ownBlock ∨ ∀ b, v.ownBlock = some b → w.heap.size ≤ b) : ToursAt w' base (mergeS T a k) (fun f => if f = a then v else if f = k then .slice none 0 0 else V f) := by
  have far : ∀ f, f ≠ a → ∀ b, v.ownBlock = some b → (V f).ownBlock = some b → False := fun f hf b h1 h2 => by
    rcases hb with hb | hb
    · rw [hb] at h1; exact hf (H.apart f a b h2 h1)
    · have := hb b h1
      have := (H.lt h2).2
      omega
  refine ⟨fun f h => ?_, fun f => ?_, fun f g b h1 h2 => ?_⟩
  · unfold mergeS at h
    by_cases e : f = a
    · rw [if_pos e] at h; exact absurd (List.append_eq_nil_iff.1 h).1 ha
    · rw [if_neg e] at h ⊢
      by_cases e2 : f = k
      · rw [if_pos e2]
      · rw [if_neg e2] at h ⊢; exact H.none' f h
  · unfold mergeS
    by_cases e : f = a
    · simp only [if_pos e]; exact hv
    · simp only [if_neg e]
      by_cases e2 : f = k
      · simp only [if_pos e2]; exact World.ownsRow_nil _ _ _ _
      · simp only [if_neg e2]
        refine (H.row f).kept hg ?_
        cases hb2 : (V f).ownBlock with
        | none => exact Or.inl rfl
        | some b => exact Or.inr (fun h => e (H.apart f a b hb2 h.symm))
  · by_cases e : f = a
    · rw [if_pos e] at h1
      by_cases e2 : g = a
      · rw [e, e2]
      · rw [if_neg e2] at h2
        by_cases e3 : g = k
        · rw [if_pos e3] at h2; cases h2
        · rw [if_neg e3] at h2; exact (far g e2 b h1 h2).elim
    · rw [if_neg e] at h1
      by_cases e4 : f = k
      · rw [if_pos e4] at h1; cases h1
      · rw [if_neg e4] at h1
        by_cases e2 : g = a
        · rw [if_pos e2] at h2; exact (far f e b h2 h1).elim
        · rw [if_neg e2] at h2
          by_cases e3 : g = k
          · rw [if_pos e3] at h2; cases h2
          · rw [if_neg e3] at h2; exact H.apart f g b h1 h2
end Go.Proofs.YtannijeiecmjpaaDoor
