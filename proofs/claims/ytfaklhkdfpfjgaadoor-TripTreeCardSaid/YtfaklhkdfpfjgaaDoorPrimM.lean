/- Growing a tree by the nearest place (19.2), in plain words: its sum is that of the roads by length. No program in sight. -/
import Derived.Test.YtfaklhkdfpfjgaaDoorKrusM
import Derived.Test.YtfaklhkdfpfjgaaDoorLongM
namespace Go.Proofs.YtfaklhkdfpfjgaaDoor
open Go.RowKit

def dM (A : List (List Int)) (i j : Nat) : Int := min (distM A (i : Int) (j : Int)) (distM A (j : Int) (i : Int))
theorem dM_symm (A : List (List Int)) (i j : Nat) : dM A i j = dM A j i := Int.min_comm _ _
def RoadsOk (A : List (List Int)) (l : List RoadT) : Prop :=
  l.Pairwise (fun x y => x.2.2 ≤ y.2.2) ∧ (∀ i k, k < i → i < A.length → (i, k, dM A i k) ∈ l) ∧ ∀ x ∈ l, x.2.1 < x.1 ∧ x.1 < A.length ∧ x.2.2 = dM A x.1 x.2.1
def cntS (n : Nat) (S : Nat → Bool) : Nat := (List.range n).countP S
def putS (S : Nat → Bool) (b : Nat) : Nat → Bool := fun x => S x || decide (x = b)
theorem cnt_put {S : Nat → Bool} {b : Nat} (hb : S b = false) : ∀ n : Nat, b < n → cntS n (putS S b) = cntS n S + 1 := by
  have hoth : ∀ n : Nat, n ≤ b → cntS n (putS S b) = cntS n S := fun n hn => List.countP_congr (fun j hj => by
    have := List.mem_range.1 hj
    unfold putS
    rw [decide_eq_false (by omega), Bool.or_false])
  intro n
  induction n with
  | zero => intro h; omega
  | succ n ih =>
    intro h
    unfold cntS at *
    rw [List.range_succ, List.countP_append, List.countP_append, List.countP_singleton, List.countP_singleton]
    by_cases hn : b = n
    · subst hn
      rw [hoth b (Nat.le_refl _), hb]
      simp [putS]
    · rw [ih (by omega)]
      have : putS S b n = S n := by unfold putS; rw [decide_eq_false (fun h => hn h.symm), Bool.or_false]
      rw [this]; omega
theorem cnt_out {S : Nat → Bool} : ∀ n : Nat, cntS n S < n → ∃ b, b < n ∧ S b = false := by
  intro n h
  cases hall : (List.range n).all S with
  | true =>
    have h2 : (List.range n).countP S = (List.range n).length := List.countP_eq_length.2 (List.all_eq_true.1 hall)
    unfold cntS at h
    rw [h2, List.length_range] at h
    omega
  | false =>
    have h1 : ¬ ∀ x ∈ List.range n, S x = true := fun h => by rw [List.all_eq_true.2 h] at hall; cases hall
    obtain ⟨x, hx⟩ := Classical.not_forall.1 h1
    obtain ⟨hx, hn⟩ := Classical.not_imp.1 hx
    exact ⟨x, List.mem_range.1 hx, by cases h : S x with | true => exact absurd h hn | false => rfl⟩
theorem cnt_full {S : Nat → Bool} {n : Nat} (h : cntS n S = n) : ∀ x, x < n → S x = true := by
  intro x hx
  have h2 : (List.range n).countP S = (List.range n).length := by rw [List.length_range]; exact h
  exact List.countP_eq_length.1 h2 x (List.mem_range.2 hx)
/-- Where it stands behind k places. -/
def PrimInv (A : List (List Int)) (S : Nat → Bool) (k : Nat) (sum : Int) : Prop :=
  (1 ≤ k → S 0 = true ∧ ∀ l, RoadsOk A l → sum + kruskal l (inF S) = kruskal l (fun x => x)) ∧ cntS A.length S = k ∧ 0 ≤ sum ∧ sum ≤ k * 1000000000 ∧ (k = 0 → sum = 0 ∧ S = fun _ => false)
theorem prim_start (A : List (List Int)) : PrimInv A (fun _ => false) 0 0 := by
  refine ⟨fun h => by omega, ?_, by omega, by omega, fun _ => ⟨rfl, rfl⟩⟩
  unfold cntS
  exact List.countP_eq_zero.2 (fun a _ => by simp)
theorem prim_one {A : List (List Int)} (h : 0 < A.length) : PrimInv A (putS (fun _ => false) 0) 1 0 := by
  refine ⟨fun _ => ⟨rfl, fun l _ => ?_⟩, ?_, by omega, by omega, fun h => by omega⟩
  · have h1 : putS (fun _ => false) 0 = fun x => decide (x = 0) := by funext x; simp [putS]
    rw [Int.zero_add, h1, ← kruskal_same l inF_one]
  · rw [cnt_put rfl _ h]
    have : cntS A.length (fun _ => false) = 0 := List.countP_eq_zero.2 (fun a _ => by simp)
    omega
/-- The best way out so far. -/
def BestAt (A : List (List Int)) (S : Nat → Bool) (P : Nat → Nat → Prop) (best at' : Int) : Prop :=
  (best = -1 ∧ ∀ i j, i < A.length → j < A.length → P i j → S i = true → S j = false → False) ∨
    (∃ a b : Nat, a < A.length ∧ b < A.length ∧ S a = true ∧ S b = false ∧ best = dM A a b ∧ at' = (b : Int) ∧ ∀ i j, i < A.length → j < A.length → P i j → S i = true → S j = false → dM A a b ≤ dM A i j)
theorem dM_bd {A : List (List Int)} (hA : ∀ r ∈ A, r.length = A.length ∧ ∀ x ∈ r, 0 ≤ x ∧ x ≤ 1000000000) {i j : Nat} (hi : i < A.length) (hj : j < A.length) : 0 ≤ dM A i j ∧ dM A i j ≤ 1000000000 := by
  obtain ⟨_, h1, h2, h3⟩ := dist_at hA hi hj
  obtain ⟨_, g1, g2, g3⟩ := dist_at hA hj hi
  unfold dM
  omega
theorem best_keep {A : List (List Int)} {S : Nat → Bool} {P Q : Nat → Nat → Prop} {best at' : Int} (h : BestAt A S P best at') (hq : ∀ i j, i < A.length → j < A.length → Q i j → S i = true → S j = false → P i j ∨ (0 ≤ best ∧ best ≤ dM A i j)) : BestAt A S Q best at' := by
  rcases h with ⟨h1, h2⟩ | ⟨a, b, h1, h2, h3, h4, h5, h6, h7⟩
  · refine Or.inl ⟨h1, fun i j hi hj hp hsi hsj => ?_⟩
    rcases hq i j hi hj hp hsi hsj with h | ⟨h, _⟩
    · exact h2 i j hi hj h hsi hsj
    · omega
  · refine Or.inr ⟨a, b, h1, h2, h3, h4, h5, h6, fun i j hi hj hp hsi hsj => ?_⟩
    rcases hq i j hi hj hp hsi hsj with h | ⟨_, h⟩
    · exact h7 i j hi hj h hsi hsj
    · omega
theorem best_take {A : List (List Int)} (hA : ∀ r ∈ A, r.length = A.length ∧ ∀ x ∈ r, 0 ≤ x ∧ x ≤ 1000000000) {S : Nat → Bool} {P Q : Nat → Nat → Prop} {best at' : Int} {a b : Nat} (h : BestAt A S P best at') (ha : a < A.length) (hb : b < A.length) (hsa : S a = true) (hsb : S b = false) (hl : best < 0 ∨ dM A a b < best)
    (hq : ∀ i j, i < A.length → j < A.length → Q i j → S i = true → S j = false → P i j ∨ (i = a ∧ j = b)) : BestAt A S Q (dM A a b) (b : Int) := by
  refine Or.inr ⟨a, b, ha, hb, hsa, hsb, rfl, rfl, fun i j hi hj hp hsi hsj => ?_⟩
  rcases hq i j hi hj hp hsi hsj with h' | ⟨rfl, rfl⟩
  · rcases h with ⟨_, h2⟩ | ⟨a', b', h1, h2, h3, h4, h5, h6, h7⟩
    · exact absurd (h2 i j hi hj h' hsi hsj) id
    · have := h7 i j hi hj h' hsi hsj
      have hbd := dM_bd hA h1 h2
      rcases hl with hl | hl
      · omega
      · omega
  · exact Int.le_refl _
/-- One place more. -/
theorem prim_step {A : List (List Int)} (hA : ∀ r ∈ A, r.length = A.length ∧ ∀ x ∈ r, 0 ≤ x ∧ x ≤ 1000000000) {S : Nat → Bool} {k : Nat} {sum best at' : Int} (h : PrimInv A S k sum) (hk : 1 ≤ k) (hkn : k < A.length) (hb : BestAt A S (fun _ _ => True) best at') :
    ∃ b : Nat, b < A.length ∧ at' = (b : Int) ∧ 0 ≤ best ∧ best ≤ 1000000000 ∧ PrimInv A (putS S b) (k + 1) (sum + best) := by
  obtain ⟨h1, h2, h3, h4, _⟩ := h
  obtain ⟨hS0, hsum⟩ := h1 hk
  obtain ⟨c, hc, hSc⟩ := cnt_out A.length (by rw [h2]; exact hkn)
  rcases hb with ⟨_, hb⟩ | ⟨a, b, ha, hbn, hsa, hsb, rfl, rfl, hmin⟩
  · exact absurd (hb 0 c (by omega) hc trivial hS0 hSc) id
  · have hbd := dM_bd hA ha hbn
    refine ⟨b, hbn, rfl, hbd.1, hbd.2, fun _ => ⟨?_, fun l hl => ?_⟩, ?_, by omega, by push_cast; omega, fun h => by omega⟩
    · unfold putS; rw [hS0, Bool.true_or]
    · have h5 := kruskal_step hl.1 hl.2.1 hl.2.2 (dM_symm A) ha hbn hsa hsb (fun i j hi hj hsi hsj => hmin i j hi hj trivial hsi hsj)
      have h6 := hsum l hl
      show sum + dM A a b + kruskal l (inF (fun x => S x || decide (x = b))) = _
      omega
    · rw [cnt_put hsb _ hbn, h2]
theorem prim_end {A : List (List Int)} {S : Nat → Bool} {sum : Int} (h : PrimInv A S A.length sum) (l : List RoadT) (hl : RoadsOk A l) : sum = kruskal l (fun x => x) := by
  obtain ⟨h1, h2, h3, h4, h5⟩ := h
  by_cases h0 : A.length = 0
  · have hnil : l = [] := by
      cases l with
      | nil => rfl
      | cons x l => have := (hl.2.2 x (List.mem_cons_self ..)).2.1; omega
    rw [(h5 h0).1, hnil]; rfl
  · obtain ⟨_, h6⟩ := h1 (by omega)
    have h7 := h6 l hl
    have h8 := kruskal_all S l (fun x hx => by
      obtain ⟨g1, g2, _⟩ := hl.2.2 x hx
      exact ⟨cnt_full h2 _ g2, cnt_full h2 _ (by omega)⟩)
    omega
end Go.Proofs.YtfaklhkdfpfjgaaDoor
