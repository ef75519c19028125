/- The list on several machines in plain words: who is free the soonest, and what comes of it. No program in sight. -/
import Derived.Test.YtannijeiecmjpaaDoorHeapM
import Derived.Test.YtannijeiecmjpaaDoorParts
namespace Go.Proofs.YtannijeiecmjpaaDoor
open Go.RowKit

abbrev P2 := Int × Int
def ltP (x y : P2) : Bool := decide (x.1 < y.1) || (decide (x.1 = y.1) && decide (x.2 < y.2))
theorem ltP_iff (x y : P2) : ltP x y = true ↔ x.1 < y.1 ∨ (x.1 = y.1 ∧ x.2 < y.2) := by simp [ltP]
theorem ltP_not (x y : P2) : ltP x y = false ↔ y.1 < x.1 ∨ (x.1 = y.1 ∧ y.2 ≤ x.2) := by
  cases h : ltP x y with
  | true => rw [ltP_iff] at h; constructor
            · intro h2; cases h2
            · intro h2; exfalso; omega
  | false =>
    constructor
    · intro _
      by_cases h2 : y.1 < x.1 ∨ (x.1 = y.1 ∧ y.2 ≤ x.2)
      · exact h2
      · rw [(ltP_iff x y).2 (by omega)] at h; cases h
    · intro _; rfl
theorem ordP : WOrd ltP := by
  refine ⟨fun x y h => ?_, fun x y z h => ?_⟩
  · rw [ltP_iff] at h; rw [ltP_not]; omega
  · rw [ltP_iff] at h; rw [ltP_iff, ltP_iff]; omega
theorem ltP_one {x y : P2} (h1 : ltP x y = false) (h2 : ltP y x = false) : x = y := by
  rw [ltP_not] at h1 h2
  obtain ⟨a, b⟩ := x
  obtain ⟨c, d⟩ := y
  simp only at h1 h2
  have e1 : a = c := by omega
  have e2 : b = d := by omega
  rw [e1, e2]

/-- The machines with their numbers, from k on. -/
def pairsF (k : Int) : List Int → List P2
  | [] => []
  | a :: l => (a, k) :: pairsF (k + 1) l
theorem pairsF_app (k : Int) (l r : List Int) : pairsF k (l ++ r) = pairsF k l ++ pairsF (k + l.length) r := by
  induction l generalizing k with
  | nil => simp [pairsF]
  | cons a l ih =>
    simp only [List.cons_append, pairsF, ih, List.length_cons]
    rw [show k + 1 + (l.length : Int) = k + ((l.length + 1 : Nat) : Int) by omega]
theorem pairsF_len (k : Int) (l : List Int) : (pairsF k l).length = l.length := by
  induction l generalizing k with
  | nil => rfl
  | cons a l ih => simp [pairsF, ih]
theorem pairsF_mem {x : P2} {l : List Int} : ∀ {k : Int}, x ∈ pairsF k l → ∃ j : Nat, j < l.length ∧ x = (lg l j, k + j) := by
  induction l with
  | nil => intro k h; cases h
  | cons a l ih =>
    intro k h
    rcases List.mem_cons.1 h with rfl | h
    · exact ⟨0, by simp, by simp [lg]⟩
    · obtain ⟨j, hj, rfl⟩ := ih h
      refine ⟨j + 1, by simp; omega, ?_⟩
      rw [show k + 1 + (j : Int) = k + ((j + 1 : Nat) : Int) by omega]
      rfl
theorem pairsF_split {l : List Int} {m : Nat} (h : m < l.length) (k : Int) : pairsF k l = pairsF k (l.take m) ++ (lg l m, k + m) :: pairsF (k + m + 1) (l.drop (m + 1)) := by
  have e : l = l.take m ++ lg l m :: l.drop (m + 1) := by
    rw [lg_get h, ← List.drop_eq_getElem_cons h, List.take_append_drop]
  have e2 : pairsF k l = pairsF k (l.take m ++ lg l m :: l.drop (m + 1)) := congrArg (pairsF k) e
  rw [e2, pairsF_app, List.length_take, Nat.min_eq_left (by omega)]
  rfl
theorem pairsF_set {l : List Int} {m : Nat} (h : m < l.length) (v k : Int) : pairsF k (l.set m v) = pairsF k (l.take m) ++ (v, k + m) :: pairsF (k + m + 1) (l.drop (m + 1)) := by
  rw [List.set_eq_take_append_cons_drop, if_pos h, pairsF_app, List.length_take, Nat.min_eq_left (by omega)]
  rfl
theorem pairsF_get {l : List Int} {m : Nat} (h : m < l.length) : (lg l m, (m : Int)) ∈ pairsF 0 l := by
  rw [pairsF_split h 0, show (0 : Int) + (m : Int) = m by omega]
  simp
/-- One machine's time is another one now. -/
theorem pairs_next {xs ys : List P2} {l : List Int} {m : Nat} (h : m < l.length) (v : Int) (hp : xs.Perm (pairsF 0 l)) (hy : xs.Perm (ys ++ [(lg l m, (m : Int))])) : (ys ++ [(v, (m : Int))]).Perm (pairsF 0 (l.set m v)) := by
  have h1 : ((lg l m, (m : Int)) :: ys).Perm (pairsF 0 l) := (List.perm_append_singleton _ _).symm.trans (hy.symm.trans hp)
  rw [pairsF_split h 0, show (0 : Int) + (m : Int) = m by omega] at h1
  have h2 := List.Perm.cons_inv (h1.trans List.perm_middle)
  rw [pairsF_set h, show (0 : Int) + (m : Int) = m by omega]
  exact (List.perm_append_singleton _ _).trans ((h2.cons _).trans List.perm_middle.symm)

/-- The first of those that are free the soonest, of the first k. -/
def leastTo (l : List Int) : Nat → Nat
  | 0 => 0
  | k + 1 => if lg l k < lg l (leastTo l k) then k else leastTo l k
theorem leastTo_le (l : List Int) : ∀ k, leastTo l k ≤ k ∧ (0 < k → leastTo l k < k) := by
  intro k
  induction k with
  | zero => exact ⟨Nat.le_refl _, fun h => by omega⟩
  | succ k ih =>
    unfold leastTo
    by_cases h : lg l k < lg l (leastTo l k)
    · rw [if_pos h]; omega
    · rw [if_neg h]
      refine ⟨by omega, fun _ => by omega⟩
theorem leastTo_least (l : List Int) : ∀ k j, j < k → ltP (lg l j, (j : Int)) (lg l (leastTo l k), ((leastTo l k : Nat) : Int)) = false := by
  intro k
  induction k with
  | zero => intro j h; omega
  | succ k ih =>
    intro j hj
    unfold leastTo
    by_cases h : lg l k < lg l (leastTo l k)
    · rw [if_pos h, ltP_not]
      by_cases hk : j = k
      · subst hk; right; exact ⟨rfl, Int.le_refl _⟩
      · have := ih j (by omega)
        rw [ltP_not] at this
        simp only at this ⊢
        left; omega
    · rw [if_neg h]
      by_cases hk : j = k
      · subst hk
        rw [ltP_not]
        have := leastTo_le l j
        simp only
        omega
      · exact ih j (by omega)
/-- The heap's top is the first of those that are free the soonest. -/
theorem heap_least {xs : List P2} {l : List Int} (hp : xs.Perm (pairsF 0 l)) (hh : HeapF ltP xs 0 xs.length) (hn : 0 < l.length) : lg xs 0 = (lg l (leastTo l l.length), ((leastTo l l.length : Nat) : Int)) ∧ leastTo l l.length < l.length := by
  have hm := (leastTo_le l l.length).2 hn
  have hx : 0 < xs.length := by rw [hp.length_eq, pairsF_len]; exact hn
  have h0 : lg xs 0 ∈ pairsF 0 l := hp.mem_iff.1 (by rw [lg_get hx]; exact List.getElem_mem _)
  obtain ⟨j, hj, e⟩ := pairsF_mem h0
  rw [show (0 : Int) + (j : Int) = j by omega] at e
  have h1 := leastTo_least l l.length j hj
  rw [← e] at h1
  have h2 : (lg l (leastTo l l.length), ((leastTo l l.length : Nat) : Int)) ∈ xs := hp.mem_iff.2 (pairsF_get hm)
  obtain ⟨k, hk, e2⟩ := List.getElem_of_mem h2
  have h3 := heap_top ordP hh k hk
  rw [lg_get hk, e2] at h3
  exact ⟨ltP_one h1 h3, hm⟩

/-- Free times, the end, the parts. -/
def stepL (l : List Int) (s : List Int × Int × List R4) (i : Int) : List Int × Int × List R4 :=
  (s.1.set (leastTo s.1 s.1.length) (lg s.1 (leastTo s.1 s.1.length) + atI l i), max s.2.1 (lg s.1 (leastTo s.1 s.1.length) + atI l i), s.2.2 ++ [(((leastTo s.1 s.1.length : Nat) : Int), i, lg s.1 (leastTo s.1 s.1.length), lg s.1 (leastTo s.1 s.1.length) + atI l i)])
def listTo (l row : List Int) (m k : Nat) : List Int × Int × List R4 := (row.take k).foldl (stepL l) (List.replicate m 0, 0, [])
theorem listTo_zero (l row : List Int) (m : Nat) : listTo l row m 0 = (List.replicate m 0, 0, []) := by simp [listTo]
theorem listTo_succ (l row : List Int) (m k : Nat) (h : k < row.length) : listTo l row m (k + 1) = stepL l (listTo l row m k) row[k] := by
  unfold listTo
  rw [List.take_succ_eq_append_getElem h, List.foldl_append]
  rfl
theorem listTo_len (l row : List Int) (m : Nat) : ∀ k, k ≤ row.length → (listTo l row m k).1.length = m ∧ (listTo l row m k).2.2.length = k := by
  intro k
  induction k with
  | zero => intro _; rw [listTo_zero]; simp
  | succ k ih =>
    intro h
    rw [listTo_succ l row m k (by omega)]
    have := ih (by omega)
    simp [stepL, this.1, this.2]
theorem listTo_bound {l row : List Int} {m : Nat} (hm : 0 < m) (hl : ∀ x ∈ l, 0 ≤ x ∧ x ≤ 1000000000) (hr : ∀ j (h : j < row.length), 0 ≤ row[j] ∧ row[j] < l.length) : ∀ k, k ≤ row.length →
    (∀ j, j < m → 0 ≤ lg (listTo l row m k).1 j ∧ lg (listTo l row m k).1 j ≤ k * 1000000000) ∧ 0 ≤ (listTo l row m k).2.1 ∧ (listTo l row m k).2.1 ≤ k * 1000000000 := by
  intro k
  induction k with
  | zero =>
    intro _
    rw [listTo_zero]
    refine ⟨fun j hj => ?_, by simp, by simp⟩
    rw [lg_get (by simpa using hj)]; simp
  | succ k ih =>
    intro h
    have hk : k < row.length := by omega
    obtain ⟨h1, h2, h3⟩ := ih (by omega)
    obtain ⟨g1, g2⟩ := listTo_len l row m k (by omega)
    obtain ⟨r1, r2⟩ := hr k hk
    have ha : 0 ≤ atI l row[k] ∧ atI l row[k] ≤ 1000000000 := by
      obtain ⟨q, hq⟩ : ∃ q : Nat, row[k] = (q : Int) := ⟨row[k].toNat, by omega⟩
      rw [hq, atI_nat (show q < l.length by omega)]
      exact hl _ (List.getElem_mem _)
    rw [listTo_succ l row m k hk]
    clear ih
    generalize listTo l row m k = s at *
    generalize hv : atI l row[k] = v at *
    have hle := (leastTo_le s.1 s.1.length).2 (by omega)
    have hL := h1 (leastTo s.1 s.1.length) (by omega)
    refine ⟨fun j hj => ?_, ?_, ?_⟩
    · show 0 ≤ lg (s.1.set _ _) j ∧ lg (s.1.set _ _) j ≤ _
      rw [hv]
      generalize leastTo s.1 s.1.length = q at *
      have e : lg (s.1.set q (lg s.1 q + v)) j = if q = j then lg s.1 q + v else lg s.1 j := by
        unfold lg
        rw [List.getD_eq_getElem?_getD, List.getElem?_set]
        by_cases hqj : q = j
        · rw [if_pos hqj, if_pos hle, if_pos hqj]; rfl
        · rw [if_neg hqj, if_neg hqj, ← List.getD_eq_getElem?_getD]
      rw [e]
      have := h1 j hj
      by_cases hqj : q = j
      · rw [if_pos hqj]; omega
      · rw [if_neg hqj]; omega
    · show 0 ≤ max s.2.1 (lg s.1 _ + atI l row[k])
      omega
    · show max s.2.1 (lg s.1 _ + atI l row[k]) ≤ _
      rw [hv]
      omega
end Go.Proofs.YtannijeiecmjpaaDoor
