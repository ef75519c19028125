/- The shortest tree (19.2): taking the roads by length, each that joins what is not joined yet, and growing from one place by the nearest one come to the same sum. No program in sight. -/
import Derived.Test.YtfaklhkdfpfjgaaDoorBase
namespace Go.Proofs.YtfaklhkdfpfjgaaDoor

/-- A road: two places, and how long it is. -/
abbrev RoadT := Nat × Nat × Int
/-- Two places are made one: who bore the one's name bears the other's. -/
def mergeF (f : Nat → Nat) (a b : Nat) : Nat → Nat := fun x => if f x = f a then f b else f x
/-- Two namings tell the same places apart. -/
def SameF (f g : Nat → Nat) : Prop := ∀ x y, f x = f y ↔ g x = g y
theorem SameF.refl (f : Nat → Nat) : SameF f f := fun _ _ => Iff.rfl
theorem SameF.symm {f g : Nat → Nat} (h : SameF f g) : SameF g f := fun x y => (h x y).symm
theorem SameF.trans {f g h : Nat → Nat} (h1 : SameF f g) (h2 : SameF g h) : SameF f h := fun x y => (h1 x y).trans (h2 x y)
theorem merge_iff (f : Nat → Nat) (a b x y : Nat) : mergeF f a b x = mergeF f a b y ↔ f x = f y ∨ (f x = f a ∧ f y = f b) ∨ (f x = f b ∧ f y = f a) := by
  unfold mergeF
  by_cases h1 : f x = f a <;> by_cases h2 : f y = f a
  · rw [if_pos h1, if_pos h2]; omega
  · rw [if_pos h1, if_neg h2]; omega
  · rw [if_neg h1, if_pos h2]; omega
  · rw [if_neg h1, if_neg h2]; omega
theorem merge_same {f g : Nat → Nat} (h : SameF f g) (a b : Nat) : SameF (mergeF f a b) (mergeF g a b) := by
  intro x y
  rw [merge_iff, merge_iff, h x y, h x a, h y b, h x b, h y a]
theorem merge_turn (f : Nat → Nat) (a b : Nat) : SameF (mergeF f a b) (mergeF f b a) := by
  intro x y
  rw [merge_iff, merge_iff]
  omega
theorem merge_swap (f : Nat → Nat) (a b c d : Nat) : SameF (mergeF (mergeF f a b) c d) (mergeF (mergeF f c d) a b) := by
  intro x y
  simp only [merge_iff]
  generalize f x = x
  generalize f y = y
  generalize f a = a
  generalize f b = b
  generalize f c = c
  generalize f d = d
  grind
/-- Who is named alike already. -/
theorem merge_idle {f : Nat → Nat} {a b : Nat} (h : f a = f b) : SameF (mergeF f a b) f := by
  intro x y
  rw [merge_iff]
  omega
/-- The sum of the roads that are taken. -/
def kruskal : List RoadT → (Nat → Nat) → Int
  | [], _ => 0
  | x :: l, f => if f x.1 = f x.2.1 then kruskal l f else x.2.2 + kruskal l (mergeF f x.1 x.2.1)
theorem kruskal_same : ∀ (l : List RoadT) {f g : Nat → Nat}, SameF f g → kruskal l f = kruskal l g
  | [], _, _, _ => rfl
  | x :: l, f, g, h => by
    unfold kruskal
    by_cases h1 : f x.1 = f x.2.1
    · rw [if_pos h1, if_pos ((h _ _).1 h1), kruskal_same l h]
    · rw [if_neg h1, if_neg (fun h2 => h1 ((h _ _).2 h2)), kruskal_same l (merge_same h _ _)]
/-- A road that is among the shortest that lead out of where one is may be taken first. -/
theorem kruskal_take (e : RoadT) : ∀ (l : List RoadT) (f : Nat → Nat) (s : Nat), l.Pairwise (fun x y => x.2.2 ≤ y.2.2) → e ∈ l → ((f e.1 = f s ∧ f e.2.1 ≠ f s) ∨ (f e.2.1 = f s ∧ f e.1 ≠ f s)) →
    (∀ x ∈ l, (f x.1 = f s ∧ f x.2.1 ≠ f s) ∨ (f x.2.1 = f s ∧ f x.1 ≠ f s) → e.2.2 ≤ x.2.2) → kruskal l f = e.2.2 + kruskal l (mergeF f e.1 e.2.1) := by
  intro l
  induction l with
  | nil => intro f s _ h; cases h
  | cons x l ih =>
    intro f s hs he ho hm
    obtain ⟨hx, hs'⟩ := List.pairwise_cons.1 hs
    have hj : mergeF f e.1 e.2.1 x.1 = mergeF f e.1 e.2.1 x.2.1 ↔ f x.1 = f x.2.1 ∨ (f x.1 = f e.1 ∧ f x.2.1 = f e.2.1) ∨ (f x.1 = f e.2.1 ∧ f x.2.1 = f e.1) := merge_iff f e.1 e.2.1 _ _
    have hel : x = e ∨ e ∈ l := by
      rcases List.mem_cons.1 he with h | h
      · exact Or.inl h.symm
      · exact Or.inr h
    have hk : ∀ u v, mergeF f x.1 x.2.1 u = mergeF f x.1 x.2.1 v ↔ f u = f v ∨ (f u = f x.1 ∧ f v = f x.2.1) ∨ (f u = f x.2.1 ∧ f v = f x.1) := merge_iff f x.1 x.2.1
    have hk1 := hk e.1 s
    have hk2 := hk e.2.1 s
    unfold kruskal
    by_cases h1 : f x.1 = f x.2.1
    · rw [if_pos h1, if_pos (hj.2 (Or.inl h1))]
      refine ih f s hs' ?_ ho (fun y hy => hm y (List.mem_cons_of_mem _ hy))
      rcases hel with rfl | h
      · exfalso; clear hj hk hk1 hk2; omega
      · exact h
    rw [if_neg h1]
    by_cases h2 : (f x.1 = f s ∧ f x.2.1 ≠ f s) ∨ (f x.2.1 = f s ∧ f x.1 ≠ f s)
    · have h3 := hm x (List.mem_cons_self ..) h2
      have h4 : x.2.2 = e.2.2 := by
        rcases hel with rfl | h
        · rfl
        · have := hx e h; omega
      by_cases h5 : mergeF f e.1 e.2.1 x.1 = mergeF f e.1 e.2.1 x.2.1
      · have h6 := hj.1 h5
        have h7 : SameF (mergeF f x.1 x.2.1) (mergeF f e.1 e.2.1) := by
          intro u v
          rw [merge_iff, merge_iff]
          clear hm hj hk hk1 hk2 h5 ih hs hs' hx he hel h3 h4
          generalize f u = fu
          generalize f v = fv
          generalize f x.1 = x1 at *
          generalize f x.2.1 = x2 at *
          generalize f e.1 = e1 at *
          generalize f e.2.1 = e2 at *
          generalize f s = fs at *
          grind
        rw [if_pos h5, h4, kruskal_same l h7]
      · have h6 := fun h => h5 (hj.2 h)
        have g1 : e ∈ l := by
          rcases hel with rfl | h
          · exact absurd (Or.inr (Or.inl ⟨rfl, rfl⟩)) h6
          · exact h
        have g2 : ((mergeF f x.1 x.2.1 e.1 = mergeF f x.1 x.2.1 s ∧ mergeF f x.1 x.2.1 e.2.1 ≠ mergeF f x.1 x.2.1 s) ∨ (mergeF f x.1 x.2.1 e.2.1 = mergeF f x.1 x.2.1 s ∧ mergeF f x.1 x.2.1 e.1 ≠ mergeF f x.1 x.2.1 s)) := by
          rw [ne_eq, ne_eq, hk1, hk2]
          clear hm hj hk hk1 hk2 h5 ih hs hs' hx he hel h3 h4
          generalize f x.1 = x1 at *
          generalize f x.2.1 = x2 at *
          generalize f e.1 = e1 at *
          generalize f e.2.1 = e2 at *
          generalize f s = fs at *
          grind
        rw [if_neg h5, ih (mergeF f x.1 x.2.1) s hs' g1 g2 (fun y hy _ => by have := hx y hy; omega), kruskal_same l (merge_swap f e.1 e.2.1 x.1 x.2.1)]
        omega
    · have h5 : ¬ mergeF f e.1 e.2.1 x.1 = mergeF f e.1 e.2.1 x.2.1 := by
        rw [hj]
        clear hm hj hk hk1 hk2 ih hs hs' hx he hel
        generalize f x.1 = x1 at *
        generalize f x.2.1 = x2 at *
        generalize f e.1 = e1 at *
        generalize f e.2.1 = e2 at *
        generalize f s = fs at *
        grind
      have g1 : e ∈ l := by
        rcases hel with rfl | h
        · exact absurd ho h2
        · exact h
      have g2 : ((mergeF f x.1 x.2.1 e.1 = mergeF f x.1 x.2.1 s ∧ mergeF f x.1 x.2.1 e.2.1 ≠ mergeF f x.1 x.2.1 s) ∨ (mergeF f x.1 x.2.1 e.2.1 = mergeF f x.1 x.2.1 s ∧ mergeF f x.1 x.2.1 e.1 ≠ mergeF f x.1 x.2.1 s)) := by
        rw [ne_eq, ne_eq, hk1, hk2]
        clear hm hj hk hk1 hk2 h5 ih hs hs' hx he hel
        generalize f x.1 = x1 at *
        generalize f x.2.1 = x2 at *
        generalize f e.1 = e1 at *
        generalize f e.2.1 = e2 at *
        generalize f s = fs at *
        grind
      rw [if_neg h5, ih (mergeF f x.1 x.2.1) s hs' g1 g2 ?_, kruskal_same l (merge_swap f e.1 e.2.1 x.1 x.2.1)]
      · omega
      · intro y hy h6
        refine hm y (List.mem_cons_of_mem _ hy) ?_
        rw [ne_eq, ne_eq, hk, hk] at h6
        clear hm hj hk hk1 hk2 h5 ih hs hs' hx he hel g1 g2
        generalize f x.1 = x1 at *
        generalize f x.2.1 = x2 at *
        generalize f y.1 = y1 at *
        generalize f y.2.1 = y2 at *
        generalize f s = fs at *
        grind
/-- Growing from one place: those that are in bear one name. -/
def inF (S : Nat → Bool) : Nat → Nat := fun x => if S x = true then 0 else x + 1
theorem inF_iff (S : Nat → Bool) (x y : Nat) : inF S x = inF S y ↔ (S x = true ∧ S y = true) ∨ (S x = false ∧ S y = false ∧ x = y) := by
  unfold inF
  cases S x <;> cases S y <;> simp
theorem inF_grow {S : Nat → Bool} {a b : Nat} (ha : S a = true) (hb : S b = false) : SameF (mergeF (inF S) a b) (inF (fun x => S x || decide (x = b))) := by
  intro x y
  rw [merge_iff, inF_iff, inF_iff, inF_iff, inF_iff, inF_iff, inF_iff]
  by_cases hx : x = b <;> by_cases hy : y = b <;> simp_all <;> (try (intro _ h; exact hy h.symm))
theorem inF_one : SameF (fun x => x) (inF (fun x => decide (x = 0))) := by
  intro x y
  rw [inF_iff]
  simp
  omega
theorem kruskal_all (S : Nat → Bool) : ∀ (l : List RoadT), (∀ x ∈ l, S x.1 = true ∧ S x.2.1 = true) → kruskal l (inF S) = 0
  | [], _ => rfl
  | x :: l, h => by
    unfold kruskal
    rw [if_pos ((inF_iff S _ _).2 (Or.inl (h x (List.mem_cons_self ..)))), kruskal_all S l (fun y hy => h y (List.mem_cons_of_mem _ hy))]
/-- One place more: the nearest one. d: how long a road is, either way. -/
theorem kruskal_step {n : Nat} {d : Nat → Nat → Int} {l : List RoadT} (hs : l.Pairwise (fun x y => x.2.2 ≤ y.2.2)) (hl : ∀ i k, k < i → i < n → (i, k, d i k) ∈ l) (hl2 : ∀ x ∈ l, x.2.1 < x.1 ∧ x.1 < n ∧ x.2.2 = d x.1 x.2.1) (hd : ∀ i k, d i k = d k i)
    {S : Nat → Bool} {a b : Nat} (han : a < n) (hbn : b < n) (ha : S a = true) (hb : S b = false) (hm : ∀ i j, i < n → j < n → S i = true → S j = false → d a b ≤ d i j) :
    kruskal l (inF S) = d a b + kruskal l (inF (fun x => S x || decide (x = b))) := by
  have hne : a ≠ b := fun h => by rw [h, hb] at ha; cases ha
  have hF : ∀ x, inF S x = inF S a ↔ S x = true := fun x => by
    rw [inF_iff, ha]; simp
  have hmin : ∀ (c : Int), c = d a b → ∀ x ∈ l, (inF S x.1 = inF S a ∧ inF S x.2.1 ≠ inF S a) ∨ (inF S x.2.1 = inF S a ∧ inF S x.1 ≠ inF S a) → c ≤ x.2.2 := by
    intro c hc x hx h
    obtain ⟨h1, h2, h3⟩ := hl2 x hx
    rw [hc, h3]
    rw [hF, hF, ne_eq, hF, ne_eq, hF] at h
    rcases h with ⟨g1, g2⟩ | ⟨g1, g2⟩
    · exact hm _ _ (by omega) (by omega) g1 (by simpa using g2)
    · rw [hd x.1]
      exact hm _ _ (by omega) (by omega) g1 (by simpa using g2)
  rcases Nat.lt_or_ge b a with hlt | hge
  · have h1 := kruskal_take (a, b, d a b) l (inF S) a hs (hl a b hlt han) (Or.inl ⟨rfl, by rw [ne_eq, hF, hb]; simp⟩) (hmin _ rfl)
    rw [h1, kruskal_same l (inF_grow ha hb)]
  · have h1 := kruskal_take (b, a, d b a) l (inF S) a hs (hl b a (by omega) hbn) (Or.inr ⟨rfl, by rw [ne_eq, hF, hb]; simp⟩) (hmin _ (hd b a))
    rw [h1, kruskal_same l ((merge_turn _ b a).trans (inF_grow ha hb)), hd b a]
end Go.Proofs.YtfaklhkdfpfjgaaDoor
