/- The memory of trip.Savings: the map of tours, their rows, the row of savings. -/
import Derived.Test.YtannijeiecmjpaaDoorSavSort
import Derived.Test.YtannijeiecmjpaaDoorSavB
import Derived.Test.YtannijeiecmjpaaDoorTourO
import Derived.Test.YtannijeiecmjpaaDoorTourK
import Derived.Test.YtannijeiecmjpaaDoorInBox
namespace Go.Proofs.YtannijeiecmjpaaDoor
open Go.RowKit Go.Maps Go.Shelf

theorem rowSv : RowOf Tryd.prog 113 116 (.agg #[.int .i64 0, .int .i64 0, .int .i64 0]) 3 24 := rowOf Tryd.underlying113 (by kernel_rfl) rfl (by decide)
theorem rowTr : RowOf Tryd.prog 76 3 (.int .i64 0) 1 8 := rowOf Tryd.underlying76 (by kernel_rfl) rfl (by decide)
theorem rowTs : RowOf Tryd.prog 71 76 (.slice none 0 0) 1 24 := rowOf Tryd.underlying71 (by kernel_rfl) rfl (by decide)
theorem len3 (D : List R3) : (D.flatMap enc3).length = D.length * 3 := by
  induction D with
  | nil => rfl
  | cons a l ih => simp [enc3] at ih ⊢; omega
/-- slices.SortFunc on any row of savings of the call's own. -/
theorem savSort_all {w : World} {base : Nat} {lv : Value} {l : List R3} (h : w.ownsRow base 116 3 lv l.length (l.flatMap enc3)) (hl : l.Pairwise lexS) (hn : l.length ≤ 1000) :
    Calls Tryd.prog 50 #[lv, .func (.func 51) #[] #[]] w fun e w' => e = .returned (.tuple #[]) ∧
      ∃ D : List R3, D.Perm l ∧ D.Pairwise (fun x y => ltSv x y = true) ∧ w'.ownsRow base 116 3 lv D.length (D.flatMap enc3) ∧ w.grownBy w' lv.ownBlock := by
  rcases h.2 with ⟨rfl, h0⟩ | ⟨g, cap, cur, rfl, hr⟩
  · have hl0 : l = [] := List.eq_nil_of_length_eq_zero h0
    subst hl0
    refine Calls.mono (AnyF.slices_SortFunc_none sortSv none 0 (.func (.func 51) #[] #[]) w) ?_
    rintro e w' ⟨rfl, rfl⟩
    exact ⟨rfl, [], List.Perm.refl _, List.Pairwise.nil, World.ownsRow_nil _ _ _ _, ⟨rfl, rfl, rfl, Nat.le_refl _, fun _ _ _ => rfl⟩⟩
  · refine (savSort_any h hl hn).mono ?_
    rintro e w' ⟨rfl, D, h1, h2, h3, h4⟩
    exact ⟨rfl, D, h1, h2, by rw [h1.length_eq]; exact h3, h4⟩
/-- The tours' map lies in block bm, the rows behind it; since w1 nothing older was written. -/
structure SavAt (bm : Nat) (T : ToursF) (V : Nat → Value) (N : Nat) (lv : Value) (l : List R3) (w1 w : World) : Prop where
  map : TMap w bm N T V
  tours : ToursAt w (bm + 1) T V
  row : w.ownsRow (bm + 1) 116 3 lv l.length (l.flatMap enc3)
  apart : ∀ f b, (V f).ownBlock = some b → lv.ownBlock ≠ some b
  fr : Below w1.heap.size w1 w
  sz : bm + 1 ≤ w.heap.size
  le : w1.heap.size ≤ bm
variable {bm N : Nat} {T : ToursF} {V : Nat → Value} {lv : Value} {l : List R3} {w1 w : World}
theorem own_ne {v : Value} {row : Option Nat} (h : ∀ b, v.ownBlock = some b → row ≠ some b) : v.ownBlock = none ∨ v.ownBlock ≠ row := by
  cases hb : v.ownBlock with
  | none => exact Or.inl rfl
  | some b => exact Or.inr (fun e => h b hb e.symm)
theorem SavAt.grown {w' : World} {row : Option Nat} (H : SavAt bm T V N lv l w1 w) (hg : w.grownBy w' row) (hm : row ≠ some bm) (hT : ∀ f b, (V f).ownBlock = some b → row ≠ some b) (hl : ∀ b, lv.ownBlock = some b → row ≠ some b) (hr : ∀ j, row = some j → w1.heap.size ≤ j) : SavAt bm T V N lv l w1 w' :=
  ⟨H.map.kept hg (fun e => hm e.symm), H.tours.grown hg hT, H.row.kept hg (own_ne hl), H.apart, H.fr.grown hg H.fr.size hr, Nat.le_trans H.sz hg.size, H.le⟩
/-- New blocks alone. -/
theorem SavAt.next {w' : World} (H : SavAt bm T V N lv l w1 w) (hg : w.grownBy w' none) : SavAt bm T V N lv l w1 w' :=
  H.grown hg (by simp) (fun _ _ _ => by simp) (fun _ _ => by simp) (by simp)
theorem SavAt.start (bm : Nat) (w1 : World) (h : bm = w1.heap.size) : SavAt bm (fun _ => []) (fun _ => .slice none 0 0) 0 (.slice none 0 0) [] w1 (w1.alloc (.map #[] 0)) := by
  subst h
  exact ⟨⟨_, World.ownsMap_made _ _ _ _, mapOf_none _⟩, ToursAt.start _ _, World.ownsRow_nil _ _ _ _, (fun f b h => by cases h), (Below.refl _ _).alloc (Nat.le_refl _) _, by simp, Nat.le_refl _⟩
/-- A tour of one place. -/
theorem SavAt.tour {w' : World} (H : SavAt bm T V N lv l w1 w) (f : Nat) (hg : (w.alloc (.cells #[.int .i64 f] 3)).grownBy w' (some bm))
    (hm : TMap w' bm (N + 1) (fun g => if g = f then [(f : Int)] else T g) (fun g => if g = f then .slice (some ⟨w.heap.size, 0, none⟩) 1 1 else V g)) :
    SavAt bm (fun g => if g = f then [(f : Int)] else T g) (fun g => if g = f then .slice (some ⟨w.heap.size, 0, none⟩) 1 1 else V g) (N + 1) lv l w1 w' := by
  have hW : w.grownBy (w.alloc (.cells #[.int .i64 f] 3)) none := World.grownBy_alloc w _ none
  have HW := H.next hW
  have hv : (w.alloc (.cells #[.int .i64 f] 3)).ownsRow (bm + 1) 3 1 (.slice (some ⟨w.heap.size, 0, none⟩) 1 1) [(f : Int)].length ([(f : Int)].map (Value.int .i64)) := World.ownsRow_lit w #[.int .i64 f] 1 H.sz (by unfold maxLen; omega) rfl
  have HT := H.tours.add (f := f) hW hv (by simp) (fun b hb => by simp [Value.ownBlock] at hb; omega)
  refine ⟨hm, HT.grown hg (fun g b hb e => ?_), HW.row.kept hg (own_ne (fun b hb e => ?_)), fun g b h1 h2 => ?_, HW.fr.grown hg HW.fr.size (fun j hj => by cases hj; exact H.le), Nat.le_trans HW.sz hg.size, H.le⟩
  · have := (HT.lt hb).1
    cases e
    omega
  · have := (HW.row.lt b hb).1
    cases e
    omega
  · by_cases e : g = f
    · rw [if_pos e] at h1
      have h3 : w.heap.size = b := by simpa [Value.ownBlock] using h1
      have := (H.row.lt b h2).2
      omega
    · rw [if_neg e] at h1
      exact H.apart g b h1 h2
/-- The row of savings is written on, or lies elsewhere. -/
theorem SavAt.save {w' : World} {lv' : Value} {l' : List R3} (H : SavAt bm T V N lv l w1 w) (hrow : w'.ownsRow (bm + 1) 116 3 lv' l'.length (l'.flatMap enc3)) (hg : w.grownBy w' lv.ownBlock)
    (hloc : lv'.ownBlock = lv.ownBlock ∨ ∀ g, lv'.ownBlock = some g → w.heap.size ≤ g) : SavAt bm T V N lv' l' w1 w' := by
  refine ⟨H.map.kept hg (fun e => ?_), H.tours.grown hg (fun f b hb => H.apart f b hb), hrow, fun f b h1 h2 => ?_, H.fr.grown hg H.fr.size (fun j hj => ?_), Nat.le_trans H.sz hg.size, H.le⟩
  · have := (H.row.lt bm e.symm).1
    omega
  · rcases hloc with h | h
    · exact H.apart f b h1 (by rw [← h]; exact h2)
    · have h3 := h b h2
      have h4 := (H.tours.lt h1).2
      omega
  · have h3 := (H.row.lt j hj).1
    have h4 := H.le
    omega
/-- Two tours are made one. -/
theorem SavAt.merge {w2 w3 w4 : World} {a k : Nat} {v' : Value} (H : SavAt bm T V N lv l w1 w) (hak : a ≠ k) (ha : T a ≠ []) (hg : w.grownBy w2 (V a).ownBlock) (hv : w2.ownsRow (bm + 1) 3 1 v' (T a ++ T k).length ((T a ++ T k).map (Value.int .i64)))
    (hb : v'.ownBlock = (V a).ownBlock ∨ ∀ b, v'.ownBlock = some b → w.heap.size ≤ b) (h3 : w2.grownBy w3 (some bm)) (h4 : w3.grownBy w4 (some bm))
    (hm : TMap w4 bm (N + 1) (fun g => if g = k then [] else (fun g => if g = a then T a ++ T k else T g) g) (fun g => if g = k then .slice none 0 0 else (fun g => if g = a then v' else V g) g)) :
    SavAt bm (mergeS T a k) (fun f => if f = a then v' else if f = k then .slice none 0 0 else V f) (N + 1) lv l w1 w4 := by
  obtain ⟨e1, e2⟩ := merged_eq (T := T) (V := V) hak v'
  rw [e1, e2] at hm
  have HT := H.tours.merge (k := k) ha hg hv hb
  have hrow2 := H.row.kept hg (own_ne (fun b hb e => H.apart a b e hb))
  have far : ∀ b, bm + 1 ≤ b → (some bm : Option Nat) ≠ some b := fun b hb e => by cases e; omega
  have HT3 := HT.grown h3 (fun g b hb => far b (HT.lt hb).1)
  have HT4 := HT3.grown h4 (fun g b hb => far b (HT3.lt hb).1)
  have hrow3 := hrow2.kept h3 (own_ne (fun b hb => far b (hrow2.lt b hb).1))
  have hrow4 := hrow3.kept h4 (own_ne (fun b hb => far b (hrow3.lt b hb).1))
  refine ⟨hm, HT4, hrow4, fun f b h1 h2 => ?_, ?_, Nat.le_trans H.sz (Nat.le_trans hg.size (Nat.le_trans h3.size h4.size)), H.le⟩
  · have hlt := (H.row.lt b h2).2
    by_cases e : f = a
    · rw [if_pos e] at h1
      rcases hb with hb | hb
      · exact H.apart a b (by rw [← hb]; exact h1) h2
      · have := hb b h1
        omega
    · rw [if_neg e] at h1
      by_cases e2 : f = k
      · rw [if_pos e2] at h1; cases h1
      · rw [if_neg e2] at h1
        exact H.apart f b h1 h2
  · have f1 := H.fr.grown hg H.fr.size (fun j hj => by have := (H.tours.lt hj).1; have := H.le; omega)
    have f2 := f1.grown h3 f1.size (fun j hj => by cases hj; exact H.le)
    exact f2.grown h4 f2.size (fun j hj => by cases hj; exact H.le)
/-- One tour is appended to another. -/
theorem app_tour {ops : Array Oper} {rest : List Oper} {o : Oper} {a : Act} {Q : Exit → Act → World → Prop} (hgd : o.guard = none) (s x : Operand)
    (ho : o.op = .call { callee := .builtin .append, args := #[s, x], argTypes := #[76, 76] }) (base : Nat) {v : Value} {n : Nat} {xs ys : List Int} (hs : a.eval s = v) (hown : w.ownsRow base 3 1 v n (xs.map (Value.int .i64)))
    {g m c : Nat} (hx : a.eval x = .slice (some ⟨g, 0, none⟩) m c) (hown2 : w.ownsRow base 3 1 (.slice (some ⟨g, 0, none⟩) m c) m (ys.map (Value.int .i64))) (h63 : n + m ≤ 1000) (hbase : base ≤ w.heap.size) (h0 : 0 < m)
    (h : ∀ ad cap w', w'.ownsRow base 3 1 (.slice ad (n + m) cap) (n + m) ((xs ++ ys).map (Value.int .i64)) → w.grownBy w' v.ownBlock → ((Value.slice ad (n + m) cap).ownBlock = v.ownBlock ∨ ∀ g, (Value.slice ad (n + m) cap).ownBlock = some g → w.heap.size ≤ g) → wpList Tryd.prog ops Q rest (a.put o.dst (.slice ad (n + m) cap)) w') :
    wpList Tryd.prog ops Q (o :: rest) a w := by
  obtain ⟨i, ht, hi, hz, hsize, hby, hzs, hsz⟩ := rowTr
  refine wpList_append_own_at w hgd s x 76 ho base 3 i (.int .i64 0) 1 8 ht hi hz hsize hby hzs hsz v n _ hs hown ⟨g, 0, none⟩ m c (ys.map (Value.int .i64)) hx (by rw [hown2.1]) (hown2.cells (g := g) rfl) (fun u hu => by obtain ⟨z, _, rfl⟩ := List.mem_map.1 hu; rfl) (by unfold maxLen; omega) (by omega) hbase ?_
  intro v' w' h2 h3 _ h5
  obtain ⟨ad, cap, rfl⟩ : ∃ ad cap, v' = .slice ad (n + m) cap := by
    rcases h2.2 with ⟨h1, h2⟩ | ⟨g, cap, cur, h1, _⟩
    · omega
    · exact ⟨_, _, h1⟩
  refine h ad cap w' (by rw [List.map_append]; exact h2) h3 ?_
  rcases h5 with h5 | h5
  · exact Or.inl h5
  · exact Or.inr (fun g hg => by rw [h5] at hg; have := Option.some.inj hg; omega)
theorem start_succ {i : Nat} (h : 1 ≤ i) : (fun g => if g = i then [(i : Int)] else startS i g) = startS (i + 1) := by
  funext g
  unfold startS
  by_cases e : g = i
  · subst e
    rw [if_pos rfl, if_pos ⟨h, by omega⟩]
  · rw [if_neg e]
    by_cases h2 : 1 ≤ g ∧ g < i
    · rw [if_pos h2, if_pos ⟨h2.1, by omega⟩]
    · rw [if_neg h2, if_neg (by omega)]
theorem start_one : startS 1 = fun _ => [] := by
  funext g
  unfold startS
  rw [if_neg (by omega)]
theorem rowTo_one (M : List (List Int)) (i : Nat) : rowTo M i 1 = [] := by
  rw [rowTo_succ]
  simp [rowTo, isSav]
end Go.Proofs.YtannijeiecmjpaaDoor
