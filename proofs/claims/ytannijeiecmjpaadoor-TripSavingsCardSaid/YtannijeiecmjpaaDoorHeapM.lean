/- A heap in plain words: what one sinks or rises to, the least on top. No program in sight. -/
import Derived.Test.YtannijeiecmjpaaDoorBase
namespace Go.Proofs.YtannijeiecmjpaaDoor
open Go.RowKit

/-- A weak order by 'sooner'. -/
def WOrd {α : Type} (lt : α → α → Bool) : Prop := (∀ x y, lt x y = true → lt y x = false) ∧ ∀ x y z, lt x z = true → lt x y = true ∨ lt y z = true
theorem WOrd.trans {α : Type} {lt : α → α → Bool} (O : WOrd lt) {x y z : α} (h1 : lt y x = false) (h2 : lt z y = false) : lt z x = false := by
  cases h : lt z x with
  | false => rfl
  | true =>
    rcases O.2 z y x h with h3 | h3
    · rw [h2] at h3; cases h3
    · rw [h1] at h3; cases h3
def lg {α : Type} [Inhabited α] (xs : List α) (k : Nat) : α := xs.getD k default
def swp {α : Type} [Inhabited α] (xs : List α) (i j : Nat) : List α := (xs.set i (lg xs j)).set j (lg xs i)
theorem swp_len {α : Type} [Inhabited α] (xs : List α) (i j : Nat) : (swp xs i j).length = xs.length := by simp [swp]
theorem lg_swp {α : Type} [Inhabited α] {xs : List α} {i j : Nat} (hi : i < xs.length) (hj : j < xs.length) (k : Nat) : lg (swp xs i j) k = if k = j then lg xs i else if k = i then lg xs j else lg xs k := by
  show ((xs.set i (lg xs j)).set j (lg xs i)).getD k default = _
  rw [List.getD_eq_getElem?_getD, List.getElem?_set, List.length_set, List.getElem?_set]
  by_cases h1 : j = k
  · subst h1
    rw [if_pos rfl, if_pos hj, if_pos rfl]; rfl
  · rw [if_neg h1, if_neg (show ¬ k = j from fun h => h1 h.symm)]
    by_cases h2 : i = k
    · subst h2
      rw [if_pos rfl, if_pos hi, if_pos rfl]; rfl
    · rw [if_neg h2, if_neg (show ¬ k = i from fun h => h2 h.symm)]
      rw [← List.getD_eq_getElem?_getD]; rfl
theorem lg_get {α : Type} [Inhabited α] {xs : List α} {k : Nat} (h : k < xs.length) : lg xs k = xs[k] := by simp [lg, List.getD_eq_getElem?_getD, h]
theorem swp_perm {α : Type} [Inhabited α] {xs : List α} {i j : Nat} (hi : i < xs.length) (hj : j < xs.length) : (swp xs i j).Perm xs := by
  unfold swp
  rw [lg_get hi, lg_get hj]
  exact List.set_set_perm hi hj
theorem swp_take {α : Type} [Inhabited α] {xs : List α} {i j n : Nat} (hi : n ≤ i) (hj : n ≤ j) : (swp xs i j).take n = xs.take n := by
  unfold swp
  rw [List.take_set_of_le hj, List.take_set_of_le hi]

/-- Each of the first n whose parent is s or behind is no sooner than it. -/
def HeapF {α : Type} [Inhabited α] (lt : α → α → Bool) (xs : List α) (s n : Nat) : Prop := ∀ k, 0 < k → k < n → s ≤ (k - 1) / 2 → lt (lg xs k) (lg xs ((k - 1) / 2)) = false
/-- One sinks: it stands at i. -/
def SinkF {α : Type} [Inhabited α] (lt : α → α → Bool) (xs : List α) (s n i : Nat) : Prop :=
  s ≤ i ∧ (∀ k, 0 < k → k < n → s ≤ (k - 1) / 2 → (k - 1) / 2 ≠ i → lt (lg xs k) (lg xs ((k - 1) / 2)) = false) ∧
    ∀ k, 0 < k → k < n → (k - 1) / 2 = i → 0 < i → s ≤ (i - 1) / 2 → lt (lg xs k) (lg xs ((i - 1) / 2)) = false
/-- One rises: it stands at j. -/
def RiseF {α : Type} [Inhabited α] (lt : α → α → Bool) (xs : List α) (n j : Nat) : Prop :=
  (∀ k, 0 < k → k < n → k ≠ j → lt (lg xs k) (lg xs ((k - 1) / 2)) = false) ∧
    ∀ k, 0 < k → k < n → (k - 1) / 2 = j → 0 < j → lt (lg xs k) (lg xs ((j - 1) / 2)) = false
theorem sink_start {α : Type} [Inhabited α] {lt : α → α → Bool} {xs : List α} {s n : Nat} (h : HeapF lt xs (s + 1) n) : SinkF lt xs s n s :=
  ⟨Nat.le_refl _, fun k h1 h2 h3 h4 => h k h1 h2 (by omega), fun k h1 h2 h3 h4 h5 => by omega⟩
theorem sink_none {α : Type} [Inhabited α] {lt : α → α → Bool} {xs : List α} {s n i : Nat} (h : SinkF lt xs s n i) (hn : n ≤ 2 * i + 1) : HeapF lt xs s n :=
  fun k h1 h2 h3 => h.2.1 k h1 h2 h3 (by omega)
/-- The child that goes up: the sooner one. -/
theorem sink_end {α : Type} [Inhabited α] {lt : α → α → Bool} (O : WOrd lt) {xs : List α} {s n i j : Nat} (h : SinkF lt xs s n i) (ho : ∀ k, k < n → k = 2 * i + 1 ∨ k = 2 * i + 2 → lt (lg xs k) (lg xs j) = false) (hl : lt (lg xs j) (lg xs i) = false) : HeapF lt xs s n := by
  intro k h1 h2 h3
  by_cases hp : (k - 1) / 2 = i
  · rw [hp]
    exact O.trans hl (ho k h2 (by omega))
  · exact h.2.1 k h1 h2 h3 hp
theorem sink_step {α : Type} [Inhabited α] {lt : α → α → Bool} (O : WOrd lt) {xs : List α} {s n i j : Nat} (h : SinkF lt xs s n i) (hn : n ≤ xs.length) (hjn : j < n) (hj : j = 2 * i + 1 ∨ j = 2 * i + 2) (ho : ∀ k, k < n → k = 2 * i + 1 ∨ k = 2 * i + 2 → lt (lg xs k) (lg xs j) = false) (hl : lt (lg xs j) (lg xs i) = true) : SinkF lt (swp xs i j) s n j := by
  obtain ⟨g1, g2, g3⟩ := h
  have hji : j < xs.length := by omega
  have hii : i < xs.length := by omega
  refine ⟨by omega, fun k h1 h2 h3 h4 => ?_, fun k h1 h2 h3 h4 h5 => ?_⟩
  · rw [lg_swp hii hji, lg_swp hii hji]
    by_cases hp : (k - 1) / 2 = i
    · rw [hp, if_neg (show i ≠ j by omega), if_pos rfl]
      by_cases hk : k = j
      · rw [if_pos hk]; exact O.1 _ _ hl
      · rw [if_neg hk, if_neg (by omega)]
        exact ho k h2 (by omega)
    · rw [if_neg (show (k - 1) / 2 ≠ j from h4), if_neg hp]
      rw [if_neg (show k ≠ j by omega)]
      by_cases hk : k = i
      · subst hk
        rw [if_pos rfl]
        exact g3 j (by omega) hjn (by omega) h1 h3
      · rw [if_neg hk]
        exact g2 k h1 h2 h3 hp
  · have e : (j - 1) / 2 = i := by omega
    rw [e, lg_swp hii hji, lg_swp hii hji, if_neg (show k ≠ j by omega), if_neg (show k ≠ i by omega), if_neg (show i ≠ j by omega), if_pos rfl]
    have := g2 k h1 h2 (by omega) (by omega)
    rwa [h3] at this
theorem rise_start {α : Type} [Inhabited α] {lt : α → α → Bool} {xs : List α} {n : Nat} (h : HeapF lt xs 0 n) : RiseF lt xs (n + 1) n :=
  ⟨fun k h1 h2 h3 => h k h1 (by omega) (Nat.zero_le _), fun k h1 h2 h3 => by omega⟩
theorem rise_top {α : Type} [Inhabited α] {lt : α → α → Bool} {xs : List α} {n : Nat} (h : RiseF lt xs n 0) : HeapF lt xs 0 n := fun k h1 h2 _ => h.1 k h1 h2 (by omega)
theorem rise_end {α : Type} [Inhabited α] {lt : α → α → Bool} {xs : List α} {n j : Nat} (h : RiseF lt xs n j) (hl : lt (lg xs j) (lg xs ((j - 1) / 2)) = false) : HeapF lt xs 0 n := by
  intro k h1 h2 _
  by_cases hk : k = j
  · rw [hk]; exact hl
  · exact h.1 k h1 h2 hk
theorem rise_step {α : Type} [Inhabited α] {lt : α → α → Bool} (O : WOrd lt) {xs : List α} {n j : Nat} (h : RiseF lt xs n j) (hn : n ≤ xs.length) (hj0 : 0 < j) (hjn : j < n) (hl : lt (lg xs j) (lg xs ((j - 1) / 2)) = true) : RiseF lt (swp xs ((j - 1) / 2) j) n ((j - 1) / 2) := by
  obtain ⟨g1, g2⟩ := h
  have hji : j < xs.length := by omega
  have hii : (j - 1) / 2 < xs.length := by omega
  generalize hi : (j - 1) / 2 = i at *
  refine ⟨fun k h1 h2 h3 => ?_, fun k h1 h2 h3 h4 => ?_⟩
  · rw [lg_swp hii hji, lg_swp hii hji]
    by_cases hk : k = j
    · subst hk
      rw [hi, if_pos rfl, if_neg (by omega), if_pos rfl]
      exact O.1 _ _ hl
    · rw [if_neg hk, if_neg h3]
      by_cases hp : (k - 1) / 2 = i
      · rw [hp, if_neg (by omega), if_pos rfl]
        have := g1 k h1 h2 hk
        rw [hp] at this
        exact O.trans (O.1 _ _ hl) this
      · by_cases hpj : (k - 1) / 2 = j
        · rw [if_pos hpj]
          exact g2 k h1 h2 hpj hj0
        · rw [if_neg hpj, if_neg hp]
          exact g1 k h1 h2 hk
  · have hgi := g1 i h4 (by omega) (by omega)
    rw [lg_swp hii hji, lg_swp hii hji, if_neg (show (i - 1) / 2 ≠ j by omega), if_neg (show (i - 1) / 2 ≠ i by omega)]
    by_cases hk : k = j
    · rw [if_pos hk]; exact hgi
    · rw [if_neg hk, if_neg (by omega)]
      have := g1 k h1 h2 hk
      rw [h3] at this
      exact O.trans hgi this
/-- The least is on top. -/
theorem heap_top {α : Type} [Inhabited α] {lt : α → α → Bool} (O : WOrd lt) {xs : List α} {n : Nat} (h : HeapF lt xs 0 n) : ∀ k, k < n → lt (lg xs k) (lg xs 0) = false := by
  intro k
  induction k using Nat.strongRecOn with
  | ind k ih =>
    intro hk
    by_cases h0 : k = 0
    · subst h0
      cases hc : lt (lg xs 0) (lg xs 0) with
      | false => rfl
      | true => have := O.1 _ _ hc; rw [hc] at this; cases this
    · exact O.trans (ih ((k - 1) / 2) (by omega) (by omega)) (h k (by omega) hk (Nat.zero_le _))
theorem heap_app {α : Type} [Inhabited α] {lt : α → α → Bool} {xs : List α} (x : α) (h : HeapF lt xs 0 xs.length) : HeapF lt (xs ++ [x]) 0 xs.length := by
  have e : ∀ k, k < xs.length → lg (xs ++ [x]) k = lg xs k := fun k hk => by simp [lg, List.getD_eq_getElem?_getD, List.getElem?_append_left hk]
  intro k h1 h2 h3
  rw [e k h2, e _ (by omega)]
  exact h k h1 h2 h3
theorem heap_take {α : Type} [Inhabited α] {lt : α → α → Bool} {xs : List α} {s n : Nat} (h : HeapF lt xs s n) : HeapF lt (xs.take n) s n := by
  have e : ∀ k, k < n → lg (xs.take n) k = lg xs k := fun k hk => by simp [lg, List.getD_eq_getElem?_getD, List.getElem?_take_of_lt hk]
  intro k h1 h2 h3
  rw [e k h2, e _ (by omega)]
  exact h k h1 h2 h3
theorem heap_half {α : Type} [Inhabited α] (lt : α → α → Bool) (xs : List α) (n : Nat) : HeapF lt xs (n / 2) n := fun k h1 h2 h3 => by omega
/-- The first and the last are swapped: all but the last one's place are as they were but the top. -/
theorem heap_swap {α : Type} [Inhabited α] {lt : α → α → Bool} {xs : List α} (h : HeapF lt xs 0 xs.length) (h0 : 0 < xs.length) : HeapF lt (swp xs 0 (xs.length - 1)) 1 (xs.length - 1) := by
  intro k h1 h2 h3
  rw [lg_swp h0 (by omega), lg_swp h0 (by omega), if_neg (by omega), if_neg (by omega), if_neg (by omega), if_neg (by omega)]
  exact h k h1 (by omega) (Nat.zero_le _)
end Go.Proofs.YtannijeiecmjpaaDoor
