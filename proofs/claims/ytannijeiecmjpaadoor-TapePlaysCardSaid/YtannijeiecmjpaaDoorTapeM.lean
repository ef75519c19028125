/- A house of calls in plain words: call by call, and event by event; that both are one. No program in sight. -/
import Derived.Test.YtannijeiecmjpaaDoorBase
import Derived.Test.YtannijeiecmjpaaDoorHeapM
namespace Go.Proofs.YtannijeiecmjpaaDoor
open Go.RowKit

abbrev R2 := Int × Int
def cA (xs : List R3) (i : Nat) : Int := (xs.getD i (0, 0, 0)).1
def cL (xs : List R3) (i : Nat) : Int := (xs.getD i (0, 0, 0)).2.1
def cD (xs : List R3) (i : Nat) : Int := (xs.getD i (0, 0, 0)).1 + (xs.getD i (0, 0, 0)).2.2
/-- When a call can be taken, by the agents in order; -1: never. -/
def atR (free : List Int) (A : Int) : Int := free.foldl (fun at' t => if at' < 0 ∨ max t A < at' then max t A else at') (-1)
/-- The first agent who can take it then. -/
def whoR (free : List Int) (A T : Int) : Nat := free.findIdx (fun t => decide (max t A ≤ T))
def stepT (free : List Int) (A L D : Int) : List Int × R2 :=
  if atR free A < 0 ∨ D < atR free A then (free, (-1, D)) else (free.set (whoR free A (atR free A)) (atR free A + L), (((whoR free A (atR free A) : Nat) : Int), atR free A))
/-- Who is free when, behind the first i calls. -/
def frR (m : Nat) (xs : List R3) : Nat → List Int
  | 0 => List.replicate m 0
  | i + 1 => (stepT (frR m xs i) (cA xs i) (cL xs i) (cD xs i)).1
/-- What becomes of the i-th call. -/
def foR (m : Nat) (xs : List R3) (i : Nat) : R2 := (stepT (frR m xs i) (cA xs i) (cL xs i) (cD xs i)).2
theorem frR_len (m : Nat) (xs : List R3) (i : Nat) : (frR m xs i).length = m := by
  induction i with
  | zero => simp [frR]
  | succ i ih => unfold frR stepT; split <;> simp [ih]

/-! ### when a call can be taken -/
theorem atR_spec (free : List Int) (A : Int) (hA : 0 ≤ A) : (free = [] ∧ atR free A = -1) ∨ (free ≠ [] ∧ 0 ≤ atR free A ∧ (∃ t ∈ free, max t A = atR free A) ∧ ∀ t ∈ free, atR free A ≤ max t A) := by
  have key : ∀ (l : List Int) (b : Int), (0 ≤ b → 0 ≤ l.foldl (fun at' t => if at' < 0 ∨ max t A < at' then max t A else at') b ∧ (l.foldl (fun at' t => if at' < 0 ∨ max t A < at' then max t A else at') b = b ∨ ∃ t ∈ l, max t A = l.foldl (fun at' t => if at' < 0 ∨ max t A < at' then max t A else at') b) ∧
      l.foldl (fun at' t => if at' < 0 ∨ max t A < at' then max t A else at') b ≤ b ∧ ∀ t ∈ l, l.foldl (fun at' t => if at' < 0 ∨ max t A < at' then max t A else at') b ≤ max t A) := by
    intro l
    induction l with
    | nil => intro b hb; exact ⟨hb, Or.inl rfl, Int.le_refl _, fun t ht => absurd ht (by simp)⟩
    | cons x l ih =>
      intro b hb
      simp only [List.foldl_cons]
      have hx : 0 ≤ max x A := by omega
      by_cases hc : b < 0 ∨ max x A < b
      · rw [if_pos hc]
        obtain ⟨h1, h2, h3, h4⟩ := ih (max x A) hx
        refine ⟨h1, Or.inr ?_, by omega, fun t ht => ?_⟩
        · rcases h2 with h2 | ⟨t, ht, h2⟩
          · exact ⟨x, List.mem_cons_self, h2.symm⟩
          · exact ⟨t, List.mem_cons_of_mem _ ht, h2⟩
        · rcases List.mem_cons.1 ht with rfl | ht
          · exact h3
          · exact h4 t ht
      · rw [if_neg hc]
        obtain ⟨h1, h2, h3, h4⟩ := ih b hb
        refine ⟨h1, ?_, h3, fun t ht => ?_⟩
        · rcases h2 with h2 | ⟨t, ht, h2⟩
          · exact Or.inl h2
          · exact Or.inr ⟨t, List.mem_cons_of_mem _ ht, h2⟩
        · rcases List.mem_cons.1 ht with rfl | ht
          · omega
          · exact h4 t ht
  cases free with
  | nil => exact Or.inl ⟨rfl, rfl⟩
  | cons x l =>
    right
    have hx : 0 ≤ max x A := by omega
    obtain ⟨h1, h2, h3, h4⟩ := key l (max x A) hx
    have e : atR (x :: l) A = l.foldl (fun at' t => if at' < 0 ∨ max t A < at' then max t A else at') (max x A) := by
      unfold atR
      simp only [List.foldl_cons]
      rw [if_pos (Or.inl (by omega))]
    rw [e]
    refine ⟨by simp, h1, ?_, fun t ht => ?_⟩
    · rcases h2 with h2 | ⟨t, ht, h2⟩
      · exact ⟨x, List.mem_cons_self, h2.symm⟩
      · exact ⟨t, List.mem_cons_of_mem _ ht, h2⟩
    · rcases List.mem_cons.1 ht with rfl | ht
      · exact h3
      · exact h4 t ht
/-- Somebody can take a call that comes at A by the time T. -/
def canBy (free : List Int) (A T : Int) : Prop := ∃ t ∈ free, max t A ≤ T
theorem canBy_mono {free : List Int} {A T T' : Int} (h : canBy free A T) (hT : T ≤ T') : canBy free A T' := by
  obtain ⟨t, ht, h⟩ := h
  exact ⟨t, ht, by omega⟩
theorem atR_at {free : List Int} {A T : Int} (hA : 0 ≤ A) (h1 : canBy free A T) (h2 : ¬ canBy free A (T - 1)) : atR free A = T := by
  obtain ⟨t, ht, h⟩ := h1
  rcases atR_spec free A hA with ⟨rfl, _⟩ | ⟨_, h3, ⟨u, hu, h4⟩, h5⟩
  · cases ht
  · have := h5 t ht
    have h6 : ¬ atR free A ≤ T - 1 := fun h7 => h2 ⟨u, hu, by omega⟩
    omega
theorem lost {free : List Int} {A L D : Int} (hA : 0 ≤ A) (h : ¬ canBy free A D) : stepT free A L D = (free, (-1, D)) := by
  unfold stepT
  rw [if_pos]
  rcases atR_spec free A hA with ⟨_, h1⟩ | ⟨_, _, ⟨u, hu, h4⟩, _⟩
  · left; omega
  · right
    have h6 : ¬ atR free A ≤ D := fun h7 => h ⟨u, hu, by omega⟩
    omega
theorem taken {free : List Int} {A L D T : Int} (hA : 0 ≤ A) (hAT : A ≤ T) (hD : T ≤ D) (h1 : canBy free A T) (h2 : ¬ canBy free A (T - 1)) :
    stepT free A L D = (free.set (free.findIdx (fun t => decide (t ≤ T))) (T + L), (((free.findIdx (fun t => decide (t ≤ T)) : Nat) : Int), T)) := by
  have e := atR_at hA h1 h2
  unfold stepT
  rw [e, if_neg (by omega)]
  have e2 : whoR free A T = free.findIdx (fun t => decide (t ≤ T)) := by
    unfold whoR
    congr 1
    funext t
    exact decide_eq_decide.2 (by omega)
  rw [e2]
/-- Who could be served later could be served now: those ahead go first. -/
theorem can_back {free : List Int} {A L D A' T : Int} (hA : 0 ≤ A) (hAA : A ≤ A') (h : canBy (stepT free A L D).1 A' T) (hL : 0 ≤ L) : canBy free A T := by
  obtain ⟨t, ht, h⟩ := h
  unfold stepT at ht
  by_cases hc : atR free A < 0 ∨ D < atR free A
  · rw [if_pos hc] at ht
    exact ⟨t, ht, by omega⟩
  · rw [if_neg hc] at ht
    rcases List.mem_or_eq_of_mem_set ht with ht | rfl
    · exact ⟨t, ht, by omega⟩
    · rcases atR_spec free A hA with ⟨_, h1⟩ | ⟨_, _, ⟨u, hu, h4⟩, _⟩
      · omega
      · exact ⟨u, hu, by omega⟩

/-- Calls that may be. -/
def GoodC (xs : List R3) : Prop := xs.length ≤ 60 ∧ (∀ i, i < xs.length → 0 ≤ cA xs i ∧ cA xs i ≤ 1000000000 ∧ 0 ≤ cL xs i ∧ cL xs i ≤ 1000000000 ∧ cA xs i ≤ cD xs i ∧ cD xs i ≤ 2000000000) ∧ ∀ i, i + 1 < xs.length → cA xs i ≤ cA xs (i + 1)
theorem cA_mono {xs : List R3} (h : GoodC xs) : ∀ {i j : Nat}, i ≤ j → j < xs.length → cA xs i ≤ cA xs j := by
  intro i j hij
  induction hij with
  | refl => intro _; exact Int.le_refl _
  | step hij ih => intro hj; exact Int.le_trans (ih (by omega)) (h.2.2 _ hj)
theorem can_mono {xs : List R3} {m : Nat} (h : GoodC xs) {T : Int} : ∀ {i j : Nat}, i ≤ j → j < xs.length → canBy (frR m xs j) (cA xs j) T → canBy (frR m xs i) (cA xs i) T := by
  intro i j hij
  induction hij with
  | refl => intro _ hc; exact hc
  | step hij ih =>
    rename_i j
    intro hj hc
    obtain ⟨h1, h2, h3, h4, h5, h6⟩ := h.2.1 j (by omega)
    exact ih (by omega) (can_back h1 (h.2.2 j hj) hc h3)
/-- Those who are lost leave the agents as they are. -/
theorem fr_same {xs : List R3} {m : Nat} (h : GoodC xs) : ∀ {i j : Nat}, i ≤ j → j ≤ xs.length → (∀ k, i ≤ k → k < j → ¬ canBy (frR m xs k) (cA xs k) (cD xs k)) → frR m xs j = frR m xs i := by
  intro i j hij
  induction hij with
  | refl => intro _ _; rfl
  | step hij ih =>
    rename_i j
    intro hj hk
    have hj2 : i ≤ j := hij
    rw [show frR m xs (j + 1) = (stepT (frR m xs j) (cA xs j) (cL xs j) (cD xs j)).1 from rfl, lost (h.2.1 j (by omega)).1 (hk j hj2 (Nat.lt_succ_self _))]
    exact ih (by omega) (fun k h1 h2 => hk k h1 (by omega))

/-! ### event by event -/
/-- Those who wait: of the first `next` those from f on who have not gone by T. -/
def waitR (xs : List R3) (f next : Nat) (T : Int) : List Nat := (List.range next).filter fun i => decide (f ≤ i) && decide (T < cD xs i)
/-- All is done that is to be done up to T. -/
structure DoneBy (xs : List R3) (m : Nat) (T : Int) (f next : Nat) (ys free : List Int) (out : List R2) : Prop where
  fn : f ≤ next
  nn : next ≤ xs.length
  come : ∀ i, i < next → cA xs i ≤ T
  later : ∀ i, next ≤ i → i < xs.length → T < cA xs i
  fr : free = frR m xs f
  cant : ∀ i, f ≤ i → i < xs.length → ¬ canBy (frR m xs i) (cA xs i) T
  olen : out.length = xs.length
  said : ∀ i, i < next → (i < f ∨ cD xs i ≤ T) → out.getD i (0, 0) = foR m xs i
  low : ∀ y ∈ ys, T ≤ y ∧ y ≤ 3000000000
  inA : ∀ i, i < xs.length → T < cA xs i → cA xs i ∈ ys
  inD : ∀ i, i < xs.length → T < cD xs i → cD xs i ∈ ys
  inF : ∀ t ∈ free, T < t → 0 < t → t ∈ ys
  room : ys.length + (waitR xs f next T).length + (xs.length - next) ≤ 3 * xs.length
/-- In a round at time T (the last one was at T0): k calls have come, f are behind. -/
structure MidBy (xs : List R3) (m : Nat) (T0 T : Int) (f next : Nat) (ys free : List Int) (out : List R2) : Prop where
  le : T0 ≤ T
  fn : f ≤ next
  nn : next ≤ xs.length
  come : ∀ i, i < next → cA xs i ≤ T
  lat0 : ∀ i, next ≤ i → i < xs.length → T0 < cA xs i
  fr : free = frR m xs f
  cant0 : ∀ i, f ≤ i → i < xs.length → ¬ canBy (frR m xs i) (cA xs i) T0
  cant1 : ∀ i, f ≤ i → i < xs.length → ¬ canBy (frR m xs i) (cA xs i) (T - 1)
  olen : out.length = xs.length
  said : ∀ i, i < next → (i < f ∨ cD xs i ≤ T0) → out.getD i (0, 0) = foR m xs i
  low : ∀ y ∈ ys, T ≤ y ∧ y ≤ 3000000000
  hT : T ≤ 3000000000
  inA : ∀ i, i < xs.length → T < cA xs i → cA xs i ∈ ys
  inD : ∀ i, i < xs.length → T < cD xs i → cD xs i ∈ ys
  inF : ∀ t ∈ free, T < t → 0 < t → t ∈ ys
  geA : ∀ i, i < xs.length → T0 < cA xs i → T ≤ cA xs i
  geD : ∀ i, i < xs.length → T0 < cD xs i → T ≤ cD xs i
  room : ys.length + (waitR xs f next T0).length + (xs.length - next) + 1 ≤ 3 * xs.length
theorem wait_cons {xs : List R3} {f next i : Nat} {T : Int} {rest : List Nat} (h : waitR xs f next T = i :: rest) : f ≤ i ∧ i < next ∧ T < cD xs i ∧ (∀ j, f ≤ j → j < i → cD xs j ≤ T) ∧ rest = waitR xs (i + 1) next T := by
  unfold waitR at h
  obtain ⟨l1, l2, e, h1, h2, h3⟩ := List.filter_eq_cons_iff.1 h
  have hpw := List.pairwise_lt_range (n := next)
  rw [e, List.pairwise_append] at hpw
  obtain ⟨_, hp2, hp3⟩ := hpw
  rw [List.pairwise_cons] at hp2
  have hi : i < next := by have : i ∈ List.range next := by rw [e]; simp
                           simpa using this
  simp only [Bool.and_eq_true, decide_eq_true_eq] at h2
  refine ⟨h2.1, hi, h2.2, fun j hj hji => ?_, ?_⟩
  · have hm : j ∈ List.range next := by simp; omega
    rw [e] at hm
    rcases List.mem_append.1 hm with hm | hm
    · have := h1 j hm
      simp only [Bool.and_eq_true, decide_eq_true_eq, not_and] at this
      have := this hj
      omega
    · rcases List.mem_cons.1 hm with rfl | hm
      · omega
      · have := hp2.1 j hm; omega
  · unfold waitR
    rw [e, List.filter_append, List.filter_cons]
    have z1 : l1.filter (fun k => decide (i + 1 ≤ k) && decide (T < cD xs k)) = [] := by
      rw [List.filter_eq_nil_iff]
      intro k hk
      have := hp3 k hk i List.mem_cons_self
      simp only [Bool.and_eq_true, decide_eq_true_eq, not_and]
      omega
    rw [z1, if_neg (by intro h9; simp at h9; omega), List.nil_append, ← h3]
    apply List.filter_congr
    intro k hk
    have := hp2.1 k hk
    have e1 : decide (f ≤ k) = true := by simp; omega
    have e2 : decide (i + 1 ≤ k) = true := by simp; omega
    rw [e1, e2]
theorem wait_nil {xs : List R3} {f next : Nat} {T : Int} (h : waitR xs f next T = []) : ∀ j, f ≤ j → j < next → cD xs j ≤ T := by
  intro j h1 h2
  have := List.filter_eq_nil_iff.1 h j (by simpa using h2)
  simp only [Bool.and_eq_true, decide_eq_true_eq, not_and] at this
  have := this h1
  omega
theorem wait_succ {xs : List R3} {f next : Nat} {T : Int} (h1 : f ≤ next) (h2 : T < cD xs next) : waitR xs f (next + 1) T = waitR xs f next T ++ [next] := by
  unfold waitR
  rw [List.range_succ, List.filter_append]
  simp [h1, h2]
theorem wait_mem {xs : List R3} {f next i : Nat} {T : Int} : i ∈ waitR xs f next T ↔ i < next ∧ f ≤ i ∧ T < cD xs i := by
  unfold waitR
  simp
theorem wait_le (xs : List R3) (f next : Nat) (T : Int) : (waitR xs f next T).length ≤ next := by
  have := List.length_filter_le (fun i => decide (f ≤ i) && decide (T < cD xs i)) (List.range next)
  simpa [waitR] using this
theorem wait_later {xs : List R3} {f next : Nat} {T0 T : Int} (h : T0 ≤ T) : waitR xs f next T = (waitR xs f next T0).filter (fun i => decide (T < cD xs i)) := by
  unfold waitR
  rw [List.filter_filter]
  apply List.filter_congr
  intro i _
  by_cases h1 : f ≤ i <;> by_cases h2 : T < cD xs i <;> simp [h1, h2]
  omega

theorem done_start {xs : List R3} {m : Nat} (h : GoodC xs) {ys : List Int} (hl : ys.length = 2 * xs.length) (h1 : ∀ i, i < xs.length → cA xs i ∈ ys ∧ cD xs i ∈ ys) (h2 : ∀ y ∈ ys, 0 ≤ y ∧ y ≤ 3000000000) : DoneBy xs m (-1) 0 0 ys (List.replicate m 0) (List.replicate xs.length (0, 0)) := by
  refine ⟨Nat.le_refl _, Nat.zero_le _, fun i hi => by omega, fun i _ hi => by have := (h.2.1 i hi).1; omega, rfl, fun i _ hi => ?_, by simp, fun i hi => by omega, fun y hy => by have := h2 y hy; omega, fun i hi _ => (h1 i hi).1, fun i hi _ => (h1 i hi).2, fun t ht h3 h4 => ?_, ?_⟩
  · rintro ⟨t, _, h3⟩
    have := (h.2.1 i hi).1
    omega
  · rw [List.mem_replicate] at ht; omega
  · simp [waitR]; omega
/-- The next event. -/
theorem mid_start {xs : List R3} {m : Nat} (h : GoodC xs) {T0 T : Int} {f next : Nat} {ys zs free : List Int} {out : List R2} (H : DoneBy xs m T0 f next ys free out) (hp : ys.Perm (zs ++ [T])) (hm : ∀ y ∈ ys, T ≤ y) : MidBy xs m T0 T f next zs free out := by
  have hT : T ∈ ys := hp.mem_iff.2 (by simp)
  have hlow := H.low T hT
  have mem : ∀ y, y ∈ ys → T < y → y ∈ zs := fun y hy hlt => by
    have := hp.mem_iff.1 hy
    rcases List.mem_append.1 this with h1 | h1
    · exact h1
    · simp at h1; omega
  have geA : ∀ i, i < xs.length → T0 < cA xs i → T ≤ cA xs i := fun i hi h1 => hm _ (H.inA i hi h1)
  refine ⟨hlow.1, H.fn, H.nn, fun i hi => Int.le_trans (H.come i hi) hlow.1, H.later, H.fr, H.cant, fun i h1 h2 h3 => ?_, H.olen, H.said, fun y hy => ⟨hm y (hp.mem_iff.2 (by simp [hy])), (H.low y (hp.mem_iff.2 (by simp [hy]))).2⟩, hlow.2,
    fun i hi h1 => mem _ (H.inA i hi (by omega)) h1, fun i hi h1 => mem _ (H.inD i hi (by omega)) h1, fun t ht h1 h2 => mem _ (H.inF t ht (by omega) h2) h1, geA, fun i hi h1 => hm _ (H.inD i hi h1), ?_⟩
  · have hf : f < xs.length := by omega
    obtain ⟨t, ht, h4⟩ := can_mono h h1 h2 h3
    rw [← H.fr] at ht
    have hA := H.cant f (Nat.le_refl _) hf
    have ht0 : t ≤ T0 ∨ t ≤ 0 := by
      by_cases h5 : T0 < t
      · by_cases h6 : 0 < t
        · have := hm _ (H.inF t ht h5 h6); omega
        · right; omega
      · left; omega
    have hA0 : cA xs f ≤ T0 := by
      by_cases h5 : T0 < cA xs f
      · have := geA f hf h5; omega
      · omega
    have := (h.2.1 f hf).1
    exact hA ⟨t, by rw [← H.fr]; exact ht, by omega⟩
  · have := hp.length_eq
    simp at this
    have := H.room
    omega
/-- One more has come. -/
theorem mid_come {xs : List R3} {m : Nat} (h : GoodC xs) {T0 T : Int} {f next : Nat} {zs free : List Int} {out : List R2} (H : MidBy xs m T0 T f next zs free out) (hn : next < xs.length) (hc : cA xs next ≤ T) :
    MidBy xs m T0 T f (next + 1) zs free out ∧ waitR xs f (next + 1) T0 = waitR xs f next T0 ++ [next] := by
  have hA := H.lat0 next (Nat.le_refl _) hn
  have hD := (h.2.1 next hn).2.2.2.2.1
  have hw : waitR xs f (next + 1) T0 = waitR xs f next T0 ++ [next] := wait_succ H.fn (by omega)
  refine ⟨⟨H.le, Nat.le_succ_of_le H.fn, hn, fun i hi => ?_, fun i hi h2 => H.lat0 i (by omega) h2, H.fr, H.cant0, H.cant1, H.olen, fun i hi h2 => ?_, H.low, H.hT, H.inA, H.inD, H.inF, H.geA, H.geD, ?_⟩, hw⟩
  · rcases Nat.lt_or_ge i next with h1 | h1
    · exact H.come i h1
    · obtain rfl : i = next := by omega
      exact hc
  · rcases Nat.lt_or_ge i next with h1 | h1
    · exact H.said i h1 h2
    · obtain rfl : i = next := by omega
      have := H.fn
      omega
  · rw [hw, List.length_append]
    have := H.room
    simp only [List.length_cons, List.length_nil]
    omega
/-- The first of those who wait is taken. -/
theorem mid_take {xs : List R3} {m : Nat} (h : GoodC xs) {T0 T : Int} {f next i : Nat} {zs free us : List Int} {out : List R2} {rest : List Nat} (H : MidBy xs m T0 T f next zs free out) (hw : waitR xs f next T0 = i :: rest)
    (hf : free.findIdx (fun t => decide (t ≤ T)) < free.length) (hu : us.Perm (zs ++ [T + cL xs i])) :
    rest = waitR xs (i + 1) next T0 ∧ i < xs.length ∧ T ≤ 2000000000 ∧ MidBy xs m T0 T (i + 1) next us (free.set (free.findIdx (fun t => decide (t ≤ T))) (T + cL xs i)) (out.set i (((free.findIdx (fun t => decide (t ≤ T)) : Nat) : Int), T)) := by
  obtain ⟨w1, w2, w3, w4, w5⟩ := wait_cons hw
  have hin : i < xs.length := Nat.lt_of_lt_of_le w2 H.nn
  obtain ⟨g1, g2, g3, g4, g5, g6⟩ := h.2.1 i hin
  have hDT : T ≤ cD xs i := H.geD i hin w3
  have hAT : cA xs i ≤ T := H.come i w2
  have hlost : ∀ k, f ≤ k → k < i → ¬ canBy (frR m xs k) (cA xs k) (cD xs k) := fun k h1 h2 h3 => H.cant0 k h1 (by omega) (canBy_mono h3 (w4 k h1 h2))
  have hfr : frR m xs i = free := (fr_same h w1 (Nat.le_of_lt hin) hlost).trans H.fr.symm
  have hpred := List.findIdx_getElem (w := hf)
  simp only [decide_eq_true_eq] at hpred
  have hcan : canBy free (cA xs i) T := ⟨_, List.getElem_mem hf, by omega⟩
  have hcant : ¬ canBy free (cA xs i) (T - 1) := by rw [← hfr]; exact H.cant1 i w1 hin
  have hst := taken (L := cL xs i) (D := cD xs i) g1 hAT hDT hcan hcant
  rw [← hfr] at hst
  have hfr2 : frR m xs (i + 1) = (frR m xs i).set ((frR m xs i).findIdx (fun t => decide (t ≤ T))) (T + cL xs i) := congrArg Prod.fst hst
  have hfo : foR m xs i = ((((frR m xs i).findIdx (fun t => decide (t ≤ T)) : Nat) : Int), T) := congrArg Prod.snd hst
  rw [hfr] at hfr2 hfo
  refine ⟨w5, hin, by omega, ⟨H.le, w2, H.nn, H.come, H.lat0, hfr2.symm, fun k h1 h2 => H.cant0 k (by omega) h2, fun k h1 h2 => H.cant1 k (by omega) h2, by simp [H.olen], fun k hk h2 => ?_, fun y hy => ?_, H.hT,
    fun k hk h1 => hu.mem_iff.2 (by simp [H.inA k hk h1]), fun k hk h1 => hu.mem_iff.2 (by simp [H.inD k hk h1]), fun t ht h1 h2 => ?_, H.geA, H.geD, ?_⟩⟩
  · rw [List.getD_eq_getElem?_getD, List.getElem?_set]
    by_cases hki : i = k
    · subst hki
      rw [if_pos rfl, if_pos (by rw [H.olen]; exact hin), hfo]
      rfl
    · rw [if_neg hki, ← List.getD_eq_getElem?_getD]
      refine H.said k hk ?_
      rcases h2 with h2 | h2
      · rcases Nat.lt_or_ge k f with h3 | h3
        · exact Or.inl h3
        · exact Or.inr (w4 k h3 (by omega))
      · exact Or.inr h2
  · have := hu.mem_iff.1 hy
    rcases List.mem_append.1 this with h1 | h1
    · exact H.low y h1
    · simp at h1; omega
  · rcases List.mem_or_eq_of_mem_set ht with ht | rfl
    · exact hu.mem_iff.2 (by simp [H.inF t ht h1 h2])
    · exact hu.mem_iff.2 (by simp)
  · have h1 := H.room
    rw [hw] at h1
    rw [← w5]
    have h2 := hu.length_eq
    simp at h2 h1
    omega
/-- Nobody else can be taken now. -/
theorem mid_none {xs : List R3} {m : Nat} (h : GoodC xs) {T0 T : Int} {f next : Nat} {zs free : List Int} {out : List R2} (H : MidBy xs m T0 T f next zs free out) (hlat : ∀ i, next ≤ i → i < xs.length → T < cA xs i)
    (hn : waitR xs f next T0 = [] ∨ ∀ t ∈ free, T < t) : ∃ f', MidBy xs m T0 T f' next zs free out ∧ waitR xs f' next T0 = waitR xs f next T0 ∧ ∀ j, f' ≤ j → j < xs.length → ¬ canBy (frR m xs j) (cA xs j) T := by
  rcases hn with hn | hn
  · have hw := wait_nil hn
    have hlost : ∀ k, f ≤ k → k < next → ¬ canBy (frR m xs k) (cA xs k) (cD xs k) := fun k h1 h2 h3 => H.cant0 k h1 (by have := H.nn; omega) (canBy_mono h3 (hw k h1 h2))
    have hfr := fr_same h H.fn H.nn hlost
    have hw2 : waitR xs next next T0 = [] := by
      rw [waitR, List.filter_eq_nil_iff]
      intro k hk
      simp only [List.mem_range] at hk
      simp only [Bool.and_eq_true, decide_eq_true_eq, not_and]
      omega
    refine ⟨next, ⟨H.le, Nat.le_refl _, H.nn, H.come, H.lat0, H.fr.trans hfr.symm, fun k h1 h2 => H.cant0 k (by have := H.fn; omega) h2, fun k h1 h2 => H.cant1 k (by have := H.fn; omega) h2, H.olen, fun k hk h2 => H.said k hk ?_, H.low, H.hT, H.inA, H.inD, H.inF, H.geA, H.geD, ?_⟩, by rw [hn, hw2], fun j h1 h2 => ?_⟩
    · rcases Nat.lt_or_ge k f with h3 | h3
      · exact Or.inl h3
      · exact Or.inr (hw k h3 hk)
    · rw [hw2, ← hn]; exact H.room
    · rintro ⟨t, _, h3⟩
      have := hlat j h1 h2
      omega
  · refine ⟨f, H, rfl, fun j h1 h2 h3 => ?_⟩
    obtain ⟨t, ht, h4⟩ := can_mono h h1 h2 h3
    rw [← H.fr] at ht
    have := hn t ht
    omega
/-- Those whose patience has ended go. -/
theorem mid_end {xs : List R3} {m : Nat} (h : GoodC xs) {T0 T : Int} {f next : Nat} {zs free : List Int} {out out' : List R2} (H : MidBy xs m T0 T f next zs free out) (hlat : ∀ i, next ≤ i → i < xs.length → T < cA xs i)
    (hcant : ∀ j, f ≤ j → j < xs.length → ¬ canBy (frR m xs j) (cA xs j) T) (hl : out'.length = out.length) (ho : ∀ i, out'.getD i (0, 0) = if i ∈ waitR xs f next T0 ∧ cD xs i ≤ T then (-1, T) else out.getD i (0, 0)) : DoneBy xs m T f next zs free out' := by
  refine ⟨H.fn, H.nn, H.come, hlat, H.fr, hcant, by rw [hl]; exact H.olen, fun i hi h2 => ?_, H.low, H.inA, H.inD, H.inF, ?_⟩
  · have hin : i < xs.length := by have := H.nn; omega
    rw [ho]
    by_cases hc : i ∈ waitR xs f next T0 ∧ cD xs i ≤ T
    · rw [if_pos hc]
      obtain ⟨_, h3, h4⟩ := wait_mem.1 hc.1
      have h5 : cD xs i = T := by have := H.geD i hin h4; omega
      have h6 := lost (L := cL xs i) (h.2.1 i hin).1 (by rw [h5]; exact hcant i h3 hin : ¬ canBy (frR m xs i) (cA xs i) (cD xs i))
      show (-1, T) = (stepT _ _ _ _).2
      rw [h6, h5]
    · rw [if_neg hc]
      refine H.said i hi ?_
      rcases Nat.lt_or_ge i f with h3 | h3
      · exact Or.inl h3
      · right
        rcases h2 with h2 | h2
        · omega
        · by_cases h4 : T0 < cD xs i
          · exact absurd ⟨wait_mem.2 ⟨hi, h3, h4⟩, h2⟩ hc
          · omega
  · have h1 : (waitR xs f next T).length ≤ (waitR xs f next T0).length := by rw [wait_later H.le]; exact List.length_filter_le _ _
    have := H.room
    omega
/-- All is said. -/
theorem done_end {xs : List R3} {m : Nat} {T : Int} {f next : Nat} {free : List Int} {out : List R2} (H : DoneBy xs m T f next [] free out) : out = (List.range xs.length).map (foR m xs) := by
  have hA : ∀ i, i < xs.length → cA xs i ≤ T := fun i hi => by
    by_cases h1 : T < cA xs i
    · exact absurd (H.inA i hi h1) (by simp)
    · omega
  have hD : ∀ i, i < xs.length → cD xs i ≤ T := fun i hi => by
    by_cases h1 : T < cD xs i
    · exact absurd (H.inD i hi h1) (by simp)
    · omega
  have hn : next = xs.length := by
    rcases Nat.lt_or_ge next xs.length with h1 | h1
    · have := H.later next (Nat.le_refl _) h1
      have := hA next h1
      omega
    · have := H.nn; omega
  refine List.ext_getElem (by simp [H.olen]) fun i h1 h2 => ?_
  have hi : i < xs.length := by rw [← H.olen]; exact h1
  have := H.said i (by omega) (Or.inr (hD i hi))
  rw [List.getD_eq_getElem?_getD, List.getElem?_eq_getElem h1] at this
  simpa using this
end Go.Proofs.YtannijeiecmjpaaDoor
