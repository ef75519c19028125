/- The savings in their order: a row of indices that is sorted by them, and a sorted permutation, tell one list. No program in sight. -/
import Derived.Test.YtannijeiecmjpaaDoorSavM
import Derived.Test.YtannijeiecmjpaaDoorInsN
namespace Go.Proofs.YtannijeiecmjpaaDoor
open Go.RowKit

/-- Of two savings (how much, from, to) the one that comes first. -/
def ltSv (x y : R3) : Bool := decide (y.1 < x.1) || (decide (x.1 = y.1) && (decide (x.2.1 < y.2.1) || (decide (x.2.1 = y.2.1) && decide (x.2.2 < y.2.2))))
theorem ltSv_iff (x y : R3) : ltSv x y = true ↔ y.1 < x.1 ∨ (x.1 = y.1 ∧ (x.2.1 < y.2.1 ∨ (x.2.1 = y.2.1 ∧ x.2.2 < y.2.2))) := by simp [ltSv]
theorem ltSv_not (x y : R3) : ltSv x y = false ↔ ¬ (y.1 < x.1 ∨ (x.1 = y.1 ∧ (x.2.1 < y.2.1 ∨ (x.2.1 = y.2.1 ∧ x.2.2 < y.2.2)))) := by
  rw [← ltSv_iff]; simp
theorem ltSv_asym (x y : R3) (h : ltSv x y = true) : ltSv y x = false := by
  rw [ltSv_iff] at h; rw [ltSv_not]; omega
theorem ltSv_total {x y : R3} (h1 : ltSv x y = false) (h2 : ltSv y x = false) : x = y := by
  rw [ltSv_not] at h1 h2
  obtain ⟨a, b, c⟩ := x
  obtain ⟨d, e, f⟩ := y
  simp only at h1 h2
  have e1 : a = d := by omega
  have e2 : b = e := by omega
  have e3 : c = f := by omega
  rw [e1, e2, e3]
theorem strict_one {α : Type} {lt : α → α → Bool} (ha : ∀ x y, lt x y = true → lt y x = false) : ∀ {xs ys : List α}, xs.Pairwise (fun x y => lt x y = true) → ys.Pairwise (fun x y => lt x y = true) → xs.Perm ys → xs = ys := by
  intro xs
  induction xs with
  | nil => intro ys _ _ hp; exact (List.nil_perm.1 hp).symm
  | cons x xs ih =>
    intro ys h1 h2 hp
    cases ys with
    | nil => exact absurd (List.perm_nil.1 hp) (by simp)
    | cons y ys =>
      rw [List.pairwise_cons] at h1 h2
      have hxy : x = y := by
        have hx : x ∈ y :: ys := hp.mem_iff.1 List.mem_cons_self
        have hy : y ∈ x :: xs := hp.mem_iff.2 List.mem_cons_self
        rcases List.mem_cons.1 hx with h | h
        · exact h
        · rcases List.mem_cons.1 hy with k | k
          · exact k.symm
          · have e1 := h2.1 x h
            have e2 := h1.1 y k
            rw [ha _ _ e1] at e2; cases e2
      subst hxy
      rw [ih h1.2 h2.2 (List.Perm.cons_inv hp)]

/-! ### the savings of a map -/
def mAt (M : List (List Int)) (i k : Nat) : Int := (M.getD i []).getD k 0
def savAt (M : List (List Int)) (i k : Nat) : Int := mAt M i 0 + mAt M 0 k - mAt M i k
def isSav (M : List (List Int)) (i k : Nat) : Bool := decide (1 ≤ k) && (decide (i ≠ k) && decide (0 < savAt M i k))
/-- Those from i, to the first K places. -/
def rowTo (M : List (List Int)) (i K : Nat) : List R3 := ((List.range K).filter (isSav M i)).map fun k => (savAt M i k, (i : Int), (k : Int))
/-- Those from the first I places. -/
def savTo (M : List (List Int)) (n I : Nat) : List R3 := ((List.range I).filter (fun i => decide (1 ≤ i))).flatMap fun i => rowTo M i n
theorem rowTo_succ (M : List (List Int)) (i K : Nat) : rowTo M i (K + 1) = rowTo M i K ++ if isSav M i K = true then [(savAt M i K, (i : Int), (K : Int))] else [] := by
  unfold rowTo
  rw [List.range_succ, List.filter_append, List.map_append]
  congr 1
  by_cases h : isSav M i K = true
  · rw [if_pos h]; simp [h]
  · rw [if_neg h]; simp [h]
theorem savTo_succ (M : List (List Int)) (n I : Nat) (h : 1 ≤ I) : savTo M n (I + 1) = savTo M n I ++ rowTo M I n := by
  unfold savTo
  rw [List.range_succ, List.filter_append, List.flatMap_append]
  simp [h]
theorem savTo_one (M : List (List Int)) (n : Nat) : savTo M n 1 = [] := by simp [savTo, List.range_succ]
theorem rowTo_len (M : List (List Int)) (i K : Nat) : (rowTo M i K).length ≤ K := by
  unfold rowTo
  have := List.length_filter_le (isSav M i) (List.range K)
  simpa using this
theorem savTo_len (M : List (List Int)) (n : Nat) : ∀ I, (savTo M n I).length ≤ I * n := by
  intro I
  induction I with
  | zero => simp [savTo]
  | succ I ih =>
    by_cases h : 1 ≤ I
    · rw [savTo_succ M n I h, List.length_append]
      have := rowTo_len M I n
      rw [Nat.succ_mul]; omega
    · obtain rfl : I = 0 := by omega
      rw [savTo_one]; simp
theorem rowTo_mem {M : List (List Int)} {i K : Nat} {x : R3} (h : x ∈ rowTo M i K) : ∃ k, k < K ∧ 1 ≤ k ∧ i ≠ k ∧ x = (savAt M i k, (i : Int), (k : Int)) := by
  unfold rowTo at h
  obtain ⟨k, hk, rfl⟩ := List.mem_map.1 h
  obtain ⟨h1, h2⟩ := List.mem_filter.1 hk
  simp only [isSav, Bool.and_eq_true, decide_eq_true_eq] at h2
  exact ⟨k, by simpa using h1, h2.1, h2.2.1, rfl⟩
theorem savTo_mem {M : List (List Int)} {n I : Nat} {x : R3} (h : x ∈ savTo M n I) : ∃ i k, i < I ∧ 1 ≤ i ∧ k < n ∧ 1 ≤ k ∧ i ≠ k ∧ x = (savAt M i k, (i : Int), (k : Int)) := by
  unfold savTo at h
  obtain ⟨i, hi, hx⟩ := List.mem_flatMap.1 h
  obtain ⟨h1, h2⟩ := List.mem_filter.1 hi
  obtain ⟨k, k1, k2, k3, k4⟩ := rowTo_mem hx
  exact ⟨i, k, by simpa using h1, by simpa using h2, k1, k2, k3, k4⟩
/-- They stand by their places. -/
def lexS (x y : R3) : Prop := x.2.1 < y.2.1 ∨ (x.2.1 = y.2.1 ∧ x.2.2 < y.2.2)
theorem rowTo_lex (M : List (List Int)) (i : Nat) : ∀ K, (rowTo M i K).Pairwise lexS := by
  intro K
  induction K with
  | zero => exact List.Pairwise.nil
  | succ K ih =>
    rw [rowTo_succ, List.pairwise_append]
    refine ⟨ih, ?_, fun x hx y hy => ?_⟩
    · split
      · exact List.pairwise_singleton _ _
      · exact List.Pairwise.nil
    · obtain ⟨k, hk, _, _, rfl⟩ := rowTo_mem hx
      split at hy
      · simp at hy; subst hy; right; simp; omega
      · cases hy
theorem savTo_lex (M : List (List Int)) (n : Nat) : ∀ I, (savTo M n I).Pairwise lexS := by
  intro I
  induction I with
  | zero => exact List.Pairwise.nil
  | succ I ih =>
    by_cases h : 1 ≤ I
    · rw [savTo_succ M n I h, List.pairwise_append]
      refine ⟨ih, rowTo_lex M I n, fun x hx y hy => ?_⟩
      obtain ⟨i, k, hi, _, _, _, _, rfl⟩ := savTo_mem hx
      obtain ⟨k', _, _, _, rfl⟩ := rowTo_mem hy
      left; simp; omega
    · obtain rfl : I = 0 := by omega
      rw [savTo_one]; exact List.Pairwise.nil
/-- The greater saving goes ahead. -/
def ltIx (l : List R3) (x y : Int) : Bool := decide ((l.getD y.toNat (0, 0, 0)).1 < (l.getD x.toNat (0, 0, 0)).1)
theorem swk_ix (l : List R3) : SWk (ltIx l) := by
  refine ⟨fun x y h => ?_, fun x y z h => ?_⟩
  · simp only [ltIx, decide_eq_true_eq, decide_eq_false_iff_not] at h ⊢; omega
  · simp only [ltIx, decide_eq_true_eq] at h ⊢; omega
theorem tab_id_map (l : List R3) : (tab l.length idF).map (fun i => l.getD i.toNat (0, 0, 0)) = l := by
  refine List.ext_getElem (by simp [tab]) fun j h1 h2 => ?_
  simp [tab, idF, List.getD_eq_getElem?_getD, h2]
/-- One list. -/
theorem sav_one {l D : List R3} (hl : l.Pairwise lexS) (hD : D.Perm l) (hs : D.Pairwise (fun x y => ltSv x y = true)) {r : RowF} (h1 : SrtF (ltIx l) 0 l.length r) (h2 : OkF 0 l.length idF r) :
    (tab l.length r).map (fun i => l.getD i.toNat (0, 0, 0)) = D := by
  have hp := ok_perm h2
  have hin : ∀ t, t < l.length → ∃ j : Nat, j < l.length ∧ r t = (j : Int) := fun t ht => by
    have : r t ∈ tab l.length idF := hp.mem_iff.1 (by simp only [tab, List.mem_map, List.mem_range]; exact ⟨t, ht, rfl⟩)
    simp only [tab, List.mem_map, List.mem_range, idF] at this
    obtain ⟨j, hj, e⟩ := this
    exact ⟨j, hj, e.symm⟩
  refine strict_one ltSv_asym ?_ hs ?_
  · rw [List.pairwise_map, List.pairwise_iff_getElem]
    intro s t hs' ht' hst
    rw [tab_get hs', tab_get ht']
    rw [tab_len] at hs' ht'
    obtain ⟨a, ha, ea⟩ := hin s hs'
    obtain ⟨b, hb, eb⟩ := hin t ht'
    have htt := h1 s t (Nat.zero_le _) hst ht'
    rw [ea, eb] at htt ⊢
    have ga : l.getD ((a : Int).toNat) (0, 0, 0) = l[a] := by simp [List.getD_eq_getElem?_getD, ha]
    have gb : l.getD ((b : Int).toNat) (0, 0, 0) = l[b] := by simp [List.getD_eq_getElem?_getD, hb]
    unfold TT ltIx at htt
    rw [ga, gb] at htt
    rw [ga, gb, ltSv_iff]
    simp only [decide_eq_true_eq, decide_eq_false_iff_not] at htt
    rcases htt with h | ⟨h, hab⟩
    · exact Or.inl h
    · by_cases hlt : l[b].1 < l[a].1
      · exact Or.inl hlt
      · right
        refine ⟨by omega, ?_⟩
        exact List.pairwise_iff_getElem.1 hl a b ha hb (by omega)
  · have := hp.map (fun i => l.getD i.toNat (0, 0, 0))
    rw [tab_id_map] at this
    exact this.trans hD.symm
end Go.Proofs.YtannijeiecmjpaaDoor
