/- The memory of the reference's Savings: the box that holds the row of savings, the row of tours, the tours. -/
import Derived.Test.YtannijeiecmjpaaDoorRows
import Derived.Test.YtannijeiecmjpaaDoorTourO
import Derived.Test.YtannijeiecmjpaaDoorSavX
import Derived.Test.YtannijeiecmjpaaDoorInBox
namespace Go.Proofs.YtannijeiecmjpaaDoor
open Go.RowKit

abbrev encL (x : R3) : List Value := [.int .i64 x.2.1, .int .i64 x.2.2, .int .i64 x.1]
theorem encL_one (x : R3) : ∀ u ∈ encL x, u.oneCell' = true := by
  intro u hu; simp [encL] at hu; rcases hu with rfl | rfl | rfl <;> rfl
theorem rowTT : RowOf Tryd.prog 67 39 (.slice none 0 0) 1 24 := rowOf Tryd.underlying67 (by kernel_rfl) rfl (by decide)
theorem rowRs : RowOf Tryd.prog 107 109 (.agg #[.int .i64 0, .int .i64 0, .int .i64 0]) 3 24 := rowOf Tryd.underlying107 (by kernel_rfl) rfl (by decide)
theorem rowII : RowOf Tryd.prog 39 3 (.int .i64 0) 1 8 := rowOf Tryd.underlying39 (by kernel_rfl) rfl (by decide)
/-- The reference's result while it looks for the tour that begins with i, behind the first t tours. -/
def outTo (T : ToursF) (i t : Nat) : List Nat := firsts T i ++ (if i ≤ t ∧ T i ≠ [] then [i] else [])
theorem outTo_zero {T : ToursF} {i : Nat} (h : 1 ≤ i) : outTo T i 0 = firsts T i := by
  unfold outTo
  rw [if_neg (by omega), List.append_nil]
theorem outTo_same {T : ToursF} {i t : Nat} (h : t + 1 = i → T i = []) : outTo T i (t + 1) = outTo T i t := by
  unfold outTo
  by_cases h1 : i ≤ t + 1 ∧ T i ≠ []
  · have h2 : i ≤ t := by
      rcases Nat.lt_or_ge t i with h3 | h3
      · exact absurd (h (by omega)) h1.2
      · exact h3
    rw [if_pos h1, if_pos ⟨h2, h1.2⟩]
  · rw [if_neg h1, if_neg (fun h2 => h1 ⟨by omega, h2.2⟩)]
theorem outTo_hit {T : ToursF} {i t : Nat} (h : t + 1 = i) (h2 : T i ≠ []) : outTo T i (t + 1) = outTo T i t ++ [i] := by
  unfold outTo
  rw [if_pos ⟨by omega, h2⟩, if_neg (by omega), List.append_nil]
theorem outTo_end {T : ToursF} {i t : Nat} (h : i ≤ t) : outTo T i t = firsts T (i + 1) := by
  unfold outTo
  rw [firsts_succ]
  congr 1
  by_cases h2 : T i = []
  · rw [if_neg (fun h3 => h3.2 h2), if_pos h2]
  · rw [if_pos ⟨h, h2⟩, if_neg h2]
theorem outTo_le (T : ToursF) (i t : Nat) : (outTo T i t).length ≤ i + 1 := by
  unfold outTo
  rw [List.length_append]
  have := firsts_le T i
  split <;> simp <;> omega
/-- Any number more are appended at a step of a region that draws its order: where the row lies then. -/
theorem step_app_at {P : Program} {w : World} {ops : Array Oper} {o : Oper} {a : Act} {K : Act → World → Prop} {Q : Exit → Act → World → Prop} {E : Prop} {t e : TypeId} {z : Value} {size bytes : Nat} (R : RowOf P t e z size bytes) (hgd : o.guard = none) (s x : Operand)
    (ho : o.op = .call { callee := .builtin .append, args := #[s, x], argTypes := #[t, t] }) (base : Nat)
    {v : Value} {n : Nat} {xs : List Value} (hs : a.eval s = v) (hown : w.ownsRow base e size v n xs)
    (ad : Addr) (m c : Nat) (news : List Value) (hx : a.eval x = .slice (some ad) m c) (hl : news.length = m * size) (hnews : ∀ j u, news[j]? = some u → w.cell? (ad.add j) = some u) (h1 : ∀ u ∈ news, u.oneCell' = true)
    (h63 : n + m ≤ maxLen) (hbytes : (n + m) * bytes ≤ 140737488355328) (hbase : base ≤ w.heap.size) (h0 : 0 < n + m)
    (h : ∀ ar cap w', w'.ownsRow base e size (.slice ar (n + m) cap) (n + m) (xs ++ news) → w.grownBy w' v.ownBlock → ((Value.slice ar (n + m) cap).ownBlock = v.ownBlock ∨ ∀ g, (Value.slice ar (n + m) cap).ownBlock = some g → w.heap.size ≤ g) → K (a.put o.dst (.slice ar (n + m) cap)) w') :
    if Region.wanted o (yielded ops a.tmps) = true then Oper.wp P o a w K Q else E := by
  obtain ⟨i, ht, hi, hz, hsize, hby, hzs, hsz⟩ := R
  have hw : Region.wanted o (yielded ops a.tmps) = true := by simp [Region.wanted, hgd]
  rw [if_pos hw]
  obtain ⟨v', w', hr, h2, h3, _, h5⟩ := run_append_own_at (P := P) w base t o.type e i z size bytes ht hi hz hsize hby hzs hsz v n xs hown ad m c news hl hnews h1 h63 hbytes hbase
  obtain ⟨ar, cap, rfl⟩ := rowForm h2
  unfold Oper.wp execOp
  simp only [ho, resolve, invoke, builtin, Sem.run_bind, Sem.run_pure, Result.andThen_ok, List.map_toArray, List.map_cons, List.map_nil, hs, hx, hr]
  refine h ar cap w' h2 h3 ?_
  rcases h5 with h5 | h5
  · exact Or.inl h5
  · exact Or.inr (fun g hg => by rw [h5] at hg; have := Option.some.inj hg; omega)
/-- Two that may come up: each of them, and what follows. -/
theorem take_both {P : Program} {ops : Array Oper} {Q : Exit → Act → World → Prop} {md : Region.Mode} {S : World → Prop} {i j : Nat} {oi oj : Oper} {fuel : Nat} {listed : Array Bool} {a : Act} {w : World} (hi : ops.toList[i]? = some oi) (hj : ops.toList[j]? = some oj)
    (hr : Region.ready md ops listed = [i, j])
    (h : ∀ K' : Act → World → Prop, Shut (∀ a w, S w → (S w → wpAnyH P md ops Q S fuel (listed.setIfInBounds i true) a w) → K' a w) → if Region.wanted oi (yielded ops a.tmps) = true then Oper.wp P oi a w K' Q else K' (a.put oi.dst undef) w)
    (h2 : ∀ K' : Act → World → Prop, Shut (∀ a w, S w → (S w → wpAnyH P md ops Q S fuel (listed.setIfInBounds j true) a w) → K' a w) → if Region.wanted oj (yielded ops a.tmps) = true then Oper.wp P oj a w K' Q else K' (a.put oj.dst undef) w) :
    wpAnyH P md ops Q S (fuel + 1) listed a w :=
  wpAnyH_ready hr (by simp) (AllReadyH.cons (by rw [← Array.getElem?_toList]; exact hi) h (AllReadyH.cons (by rw [← Array.getElem?_toList]; exact hj) h2 AllReadyH.nil))
/-- The slices of the first m tours. -/
def rowVs (V : Nat → Value) (m : Nat) : List Value := (List.range m).map (fun t => V (t + 1))
theorem rowVs_len (V : Nat → Value) (m : Nat) : (rowVs V m).length = m := by simp [rowVs]
theorem rowVs_get {V : Nat → Value} {m t : Nat} (h : t < m) : (rowVs V m)[t]? = some (V (t + 1)) := by simp [rowVs, h]
theorem rowVs_succ (V : Nat → Value) (m : Nat) : rowVs V (m + 1) = rowVs V m ++ [V (m + 1)] := by simp [rowVs, List.range_succ]
theorem rowVs_same {V V' : Nat → Value} {m : Nat} (h : ∀ t, t < m → V (t + 1) = V' (t + 1)) : rowVs V m = rowVs V' m := by
  unfold rowVs
  exact List.map_congr_left (fun t ht => h t (by simpa using ht))
theorem rowVs_merge {V : Nat → Value} {m a k : Nat} (v : Value) (hak : a ≠ k) (ha : 1 ≤ a) (hk : 1 ≤ k) : rowVs (fun f => if f = a then v else if f = k then .slice none 0 0 else V f) m = ((rowVs V m).set (a - 1) v).set (k - 1) (.slice none 0 0) := by
  refine List.ext_getElem? fun t => ?_
  rw [List.getElem?_set, List.getElem?_set]
  simp only [List.length_set, rowVs_len]
  rcases Nat.lt_or_ge t m with ht | ht
  · rw [rowVs_get ht]
    by_cases h1 : k - 1 = t
    · have e1 : t + 1 = k := by omega
      have e2 : t + 1 ≠ a := by omega
      rw [if_pos h1, if_neg e2, if_pos e1, if_pos (by omega)]
    · have e1 : t + 1 ≠ k := by omega
      rw [if_neg h1]
      by_cases h2 : a - 1 = t
      · have e2 : t + 1 = a := by omega
        rw [if_pos h2, if_pos e2, if_pos (by omega)]
      · have e2 : t + 1 ≠ a := by omega
        rw [if_neg h2, if_neg e2, if_neg e1, rowVs_get ht]
  · rw [List.getElem?_eq_none (by rw [rowVs_len]; exact ht)]
    by_cases h1 : k - 1 = t
    · rw [if_pos h1, if_neg (by omega)]
    · rw [if_neg h1]
      by_cases h2 : a - 1 = t
      · rw [if_pos h2, if_neg (by omega)]
      · rw [if_neg h2, List.getElem?_eq_none (by rw [rowVs_len]; exact ht)]
theorem own_ne' {v : Value} {row : Option Nat} (h : ∀ b, v.ownBlock = some b → row ≠ some b) : v.ownBlock = none ∨ v.ownBlock ≠ row := by
  cases hb : v.ownBlock with
  | none => exact Or.inl rfl
  | some b => exact Or.inr (fun e => h b hb e.symm)
theorem grown_setCell (w : World) (a : Addr) (v : Value) : w.grownBy (w.setCell a v) (some a.block) := ⟨rfl, rfl, rfl, by simp [World.setCell], fun i hi h4 => Below.heap_setCell _ _ _ _ (fun h5 => h4 (by rw [h5]))⟩
/-- Box bx holds the row of savings; the row tv the tours' slices. -/
structure RefAt (bx : Nat) (T : ToursF) (V : Nat → Value) (m : Nat) (tv lv : Value) (l : List R3) (w1 w : World) : Prop where
  box : w.cell? ⟨bx, 0, none⟩ = some lv
  free : w.frozen? ⟨bx, 0, none⟩ = false
  lrow : w.ownsRow (bx + 1) 109 3 lv l.length (l.flatMap encL)
  trow : w.ownsRow (bx + 1) 39 1 tv m (rowVs V m)
  tours : ToursAt w (bx + 1) T V
  ap1 : ∀ f b, (V f).ownBlock = some b → lv.ownBlock ≠ some b ∧ tv.ownBlock ≠ some b
  ap2 : ∀ b, lv.ownBlock = some b → tv.ownBlock ≠ some b
  fr : Below w1.heap.size w1 w
  sz : bx + 1 ≤ w.heap.size
  le : w1.heap.size ≤ bx
variable {bx m : Nat} {T : ToursF} {V : Nat → Value} {tv lv : Value} {l : List R3} {w1 w : World}
theorem RefAt.start (bx : Nat) (w1 : World) (h : bx = w1.heap.size) : RefAt bx (fun _ => []) (fun _ => .slice none 0 0) 0 (.slice none 0 0) (.slice none 0 0) [] w1 (w1.alloc (.cells #[.slice none 0 0] 107)) := by
  subst h
  exact ⟨by simp, by unfold World.frozen? World.alloc; simp only [Array.getElem?_push_size]; rfl, World.ownsRow_nil _ _ _ _, World.ownsRow_nil _ _ _ _, ToursAt.start _ _, (fun f b h => by cases h), (fun b h => by cases h), (Below.refl _ _).alloc (Nat.le_refl _) _, by simp, Nat.le_refl _⟩
theorem RefAt.grown {w' : World} {row : Option Nat} (H : RefAt bx T V m tv lv l w1 w) (hg : w.grownBy w' row) (hb : row ≠ some bx) (hT : ∀ f b, (V f).ownBlock = some b → row ≠ some b) (hl : ∀ b, lv.ownBlock = some b → row ≠ some b) (ht : ∀ b, tv.ownBlock = some b → row ≠ some b) (hr : ∀ j, row = some j → w1.heap.size ≤ j) : RefAt bx T V m tv lv l w1 w' :=
  ⟨(World.cell?_of_block (hg.block bx (lt_of_cell H.box) (fun e => hb e.symm))).trans H.box, (World.frozen?_of_block (hg.block bx (lt_of_cell H.box) (fun e => hb e.symm))).trans H.free, H.lrow.kept hg (own_ne' hl), H.trow.kept hg (own_ne' ht), H.tours.grown hg hT, H.ap1, H.ap2, H.fr.grown hg H.fr.size hr, Nat.le_trans H.sz hg.size, H.le⟩
theorem RefAt.next {w' : World} (H : RefAt bx T V m tv lv l w1 w) (hg : w.grownBy w' none) : RefAt bx T V m tv lv l w1 w' :=
  H.grown hg (by simp) (fun _ _ _ => by simp) (fun _ _ => by simp) (fun _ _ => by simp) (by simp)
theorem RefAt.below {w' : World} (H : RefAt bx T V m tv lv l w1 w) (hb : Below w.heap.size w w') : RefAt bx T V m tv lv l w1 w' :=
  ⟨(hb.cell (lt_of_cell H.box)).trans H.box, (hb.frozen (lt_of_cell H.box)).trans H.free, owns_at H.lrow hb, owns_at H.trow hb, H.tours.next hb, H.ap1, H.ap2, H.fr.trans (hb.mono H.fr.size), Nat.le_trans H.sz hb.size, H.le⟩
theorem elems_block {α : Type} {enc : α → List Value} {k : Nat} {w w' : World} {a : Option Addr} {xs : List α} (h : Elems enc k w a xs) (hb : ∀ p : Addr, a = some p → w'.heap[p.block]? = w.heap[p.block]?) : Elems enc k w' a xs := by
  rcases h with rfl | ⟨b, o, rfl, h⟩
  · exact Or.inl rfl
  · exact Or.inr ⟨b, o, rfl, fun j hj i u hu => (World.cell?_of_block (a := ⟨b, o + j * k + i, none⟩) (hb ⟨b, o, none⟩ rfl)).trans (h j hj i u hu)⟩
/-- The number of the tour that ends with place i, of the first t ones. -/
def endF (T : ToursF) (i t : Nat) (A : Int) : Prop := (A = -1 ∧ ∀ s, s < t → ¬ endsAt T (s + 1) i) ∨ ∃ s, s < t ∧ A = (s : Int) ∧ endsAt T (s + 1) i
theorem endF_zero (T : ToursF) (i : Nat) : endF T i 0 (-1) := Or.inl ⟨rfl, fun s hs => by omega⟩
theorem endF_no {T : ToursF} {i t : Nat} {A : Int} (h : endF T i t A) (hn : ¬ endsAt T (t + 1) i) : endF T i (t + 1) A := by
  rcases h with ⟨h1, h2⟩ | ⟨s, h1, h2, h3⟩
  · refine Or.inl ⟨h1, fun s hs => ?_⟩
    by_cases e : s = t
    · rw [e]; exact hn
    · exact h2 s (by omega)
  · exact Or.inr ⟨s, by omega, h2, h3⟩
theorem endF_yes {T : ToursF} {i t : Nat} (hn : endsAt T (t + 1) i) : endF T i (t + 1) t := Or.inr ⟨t, by omega, rfl, hn⟩
/-- The number of the tour that begins with place k. -/
def begF (T : ToursF) (k t : Nat) (B : Int) : Prop := (B = -1 ∧ ∀ s, s < t → ¬ (s + 1 = k ∧ T k ≠ [])) ∨ ∃ s, s < t ∧ B = (s : Int) ∧ s + 1 = k ∧ T k ≠ []
theorem begF_zero (T : ToursF) (k : Nat) : begF T k 0 (-1) := Or.inl ⟨rfl, fun s hs => by omega⟩
theorem begF_no {T : ToursF} {k t : Nat} {B : Int} (h : begF T k t B) (hn : ¬ (t + 1 = k ∧ T k ≠ [])) : begF T k (t + 1) B := by
  rcases h with ⟨h1, h2⟩ | ⟨s, h1, h2, h3⟩
  · refine Or.inl ⟨h1, fun s hs => ?_⟩
    by_cases e : s = t
    · rw [e]; exact hn
    · exact h2 s (by omega)
  · exact Or.inr ⟨s, by omega, h2, h3⟩
theorem begF_yes {T : ToursF} {k t : Nat} (h1 : t + 1 = k) (h2 : T k ≠ []) : begF T k (t + 1) t := Or.inr ⟨t, by omega, rfl, h1, h2⟩
/-- A tour of one place more. -/
theorem RefAt.tour {w' : World} {ad : Option Addr} {cap : Nat} (H : RefAt bx T V m tv lv l w1 w)
    (h1 : w'.ownsRow (bx + 1) 39 1 (.slice ad (m + 1) cap) (m + 1) (rowVs V m ++ [.slice (some ⟨w.heap.size, 0, none⟩) 1 1]))
    (h2 : (w.alloc (.cells #[.int .i64 ((m + 1 : Nat) : Int)] 3)).grownBy w' tv.ownBlock)
    (h3 : (Value.slice ad (m + 1) cap).ownBlock = tv.ownBlock ∨ ∀ g, (Value.slice ad (m + 1) cap).ownBlock = some g → (w.alloc (.cells #[.int .i64 ((m + 1 : Nat) : Int)] 3)).heap.size ≤ g) :
    RefAt bx (fun g => if g = m + 1 then [((m + 1 : Nat) : Int)] else T g) (fun g => if g = m + 1 then .slice (some ⟨w.heap.size, 0, none⟩) 1 1 else V g) (m + 1) (.slice ad (m + 1) cap) lv l w1 w' := by
  have hW : w.grownBy (w.alloc (.cells #[.int .i64 ((m + 1 : Nat) : Int)] 3)) none := World.grownBy_alloc w _ none
  have hsW : (w.alloc (.cells #[.int .i64 ((m + 1 : Nat) : Int)] 3)).heap.size = w.heap.size + 1 := by simp
  have HW := H.next hW
  have hv : (w.alloc (.cells #[.int .i64 ((m + 1 : Nat) : Int)] 3)).ownsRow (bx + 1) 3 1 (.slice (some ⟨w.heap.size, 0, none⟩) 1 1) [((m + 1 : Nat) : Int)].length ([((m + 1 : Nat) : Int)].map (Value.int .i64)) := World.ownsRow_lit w #[.int .i64 ((m + 1 : Nat) : Int)] 1 H.sz (by unfold maxLen; omega) rfl
  have HT := H.tours.add (f := m + 1) hW hv (by simp) (fun b hb => by simp [Value.ownBlock] at hb; omega)
  have htw : ∀ b, tv.ownBlock = some b → b < w.heap.size := fun b hb => (H.trow.lt b hb).2
  have hbxt : tv.ownBlock ≠ some bx := fun e => by have := (H.trow.lt bx e).1; omega
  have apT : ∀ f b, (if f = m + 1 then (Value.slice (some ⟨w.heap.size, 0, none⟩) 1 1) else V f).ownBlock = some b → tv.ownBlock ≠ some b := fun f b hb e => by
    by_cases e2 : f = m + 1
    · rw [if_pos e2] at hb
      have h5 : w.heap.size = b := by simpa [Value.ownBlock] using hb
      have := htw b e
      omega
    · rw [if_neg e2] at hb
      exact (H.ap1 f b hb).2 e
  refine ⟨(World.cell?_of_block (h2.block bx (lt_of_cell HW.box) (fun e => hbxt e.symm))).trans HW.box, (World.frozen?_of_block (h2.block bx (lt_of_cell HW.box) (fun e => hbxt e.symm))).trans HW.free, HW.lrow.kept h2 (own_ne' (fun b hb => H.ap2 b hb)), ?_, HT.grown h2 (fun f b hb => apT f b hb), fun f b hb => ⟨fun e => ?_, fun e => ?_⟩, fun b hb e => ?_, HW.fr.grown h2 HW.fr.size (fun j hj => by have := (H.trow.lt j hj).1; have := H.le; omega), Nat.le_trans HW.sz h2.size, H.le⟩
  · rw [rowVs_succ, rowVs_same (V := fun g => if g = m + 1 then Value.slice (some ⟨w.heap.size, 0, none⟩) 1 1 else V g) (V' := V) (fun t ht => by simp; omega)]
    simpa using h1
  · by_cases e2 : f = m + 1
    · rw [if_pos e2] at hb
      have h5 : w.heap.size = b := by simpa [Value.ownBlock] using hb
      have := (H.lrow.lt b e).2
      omega
    · rw [if_neg e2] at hb
      exact (H.ap1 f b hb).1 e
  · rcases h3 with h3 | h3
    · exact apT f b hb (by rw [← h3]; exact e)
    · have h4 := h3 b e
      by_cases e2 : f = m + 1
      · rw [if_pos e2] at hb
        have h5 : w.heap.size = b := by simpa [Value.ownBlock] using hb
        omega
      · rw [if_neg e2] at hb
        have := (H.tours.lt hb).2
        omega
  · rcases h3 with h3 | h3
    · exact H.ap2 b hb (by rw [← h3]; exact e)
    · have h4 := h3 b e
      have := (H.lrow.lt b hb).2
      omega
theorem RefAt.tour2 {w' : World} {ad : Option Addr} {cap : Nat} (H : RefAt bx T V m tv lv l w1 w) (i : Nat) (hi : i = m + 1)
    (h1 : w'.ownsRow (bx + 1) 39 1 (.slice ad (m + 1) cap) (m + 1) (rowVs V m ++ [.slice (some ⟨w.heap.size, 0, none⟩) 1 1]))
    (h2 : (w.alloc (.cells #[.int .i64 i] 3)).grownBy w' tv.ownBlock)
    (h3 : (Value.slice ad (m + 1) cap).ownBlock = tv.ownBlock ∨ ∀ g, (Value.slice ad (m + 1) cap).ownBlock = some g → (w.alloc (.cells #[.int .i64 i] 3)).heap.size ≤ g) :
    RefAt bx (fun g => if g = i then [(i : Int)] else T g) (fun g => if g = i then .slice (some ⟨w.heap.size, 0, none⟩) 1 1 else V g) (m + 1) (.slice ad (m + 1) cap) lv l w1 w' := by
  subst hi
  exact H.tour h1 h2 h3
/-- A saving more. -/
theorem RefAt.save {w' : World} {lv' : Value} {l' : List R3} (H : RefAt bx T V m tv lv l w1 w) (hrow : w'.ownsRow (bx + 1) 109 3 lv' l'.length (l'.flatMap encL)) (hg : w.grownBy w' lv.ownBlock)
    (hloc : lv'.ownBlock = lv.ownBlock ∨ ∀ g, lv'.ownBlock = some g → w.heap.size ≤ g) : RefAt bx T V m tv lv' l' w1 (w'.setCell ⟨bx, 0, none⟩ lv') := by
  have hbl : lv.ownBlock ≠ some bx := fun e => by have := (H.lrow.lt bx e).1; omega
  have c1 := (World.cell?_of_block (hg.block bx (lt_of_cell H.box) (fun e => hbl e.symm))).trans H.box
  have f1 := (World.frozen?_of_block (hg.block bx (lt_of_cell H.box) (fun e => hbl e.symm))).trans H.free
  have hs := grown_setCell w' ⟨bx, 0, none⟩ lv'
  have far : ∀ b, bx + 1 ≤ b → (some bx : Option Nat) ≠ some b := fun b hb e => by cases e; omega
  have t1 := H.trow.kept hg (own_ne' (fun b hb e => H.ap2 b e hb))
  have T1 := H.tours.grown hg (fun f b hb e => (H.ap1 f b hb).1 e)
  have fr1 := H.fr.grown hg H.fr.size (fun j hj => by have := (H.lrow.lt j hj).1; have := H.le; omega)
  refine ⟨World.cell?_setCell_same _ _ _ c1, by rw [World.frozen?_setCell]; exact f1, hrow.kept hs (own_ne' (fun b hb => far b (hrow.lt b hb).1)), t1.kept hs (own_ne' (fun b hb => far b (t1.lt b hb).1)), T1.grown hs (fun f b hb => far b (T1.lt hb).1), fun f b hb => ⟨fun e => ?_, (H.ap1 f b hb).2⟩, fun b hb e => ?_, fr1.grown hs fr1.size (fun j hj => by cases hj; exact H.le), Nat.le_trans H.sz (Nat.le_trans hg.size hs.size), H.le⟩
  · rcases hloc with h | h
    · exact (H.ap1 f b hb).1 (by rw [← h]; exact e)
    · have h3 := h b e
      have h4 := (H.tours.lt hb).2
      omega
  · rcases hloc with h | h
    · exact H.ap2 b (by rw [← h]; exact hb) e
    · have h3 := h b hb
      have h4 := (H.trow.lt b e).2
      omega
/-- Two tours are made one. -/
theorem RefAt.merge {w2 : World} {a k gt ct : Nat} {v' : Value} (H : RefAt bx T V m (.slice (some ⟨gt, 0, none⟩) m ct) lv l w1 w) (hak : a ≠ k) (ha1 : 1 ≤ a) (hk1 : 1 ≤ k) (ha : T a ≠ []) (hg : w.grownBy w2 (V a).ownBlock) (hv : w2.ownsRow (bx + 1) 3 1 v' (T a ++ T k).length ((T a ++ T k).map (Value.int .i64)))
    (hb : v'.ownBlock = (V a).ownBlock ∨ ∀ b, v'.ownBlock = some b → w.heap.size ≤ b) :
    RefAt bx (mergeS T a k) (fun f => if f = a then v' else if f = k then .slice none 0 0 else V f) m (.slice (some ⟨gt, 0, none⟩) m ct) lv l w1 ((w2.setCell ⟨gt, a - 1, none⟩ v').setCell ⟨gt, k - 1, none⟩ (.slice none 0 0)) := by
  have hgt := H.trow.lt gt rfl
  have HT := H.tours.merge (k := k) ha hg hv hb
  have hbx : (V a).ownBlock ≠ some bx := fun e => by have := (H.tours.lt e).1; omega
  have c1 := (World.cell?_of_block (hg.block bx (lt_of_cell H.box) (fun e => hbx e.symm))).trans H.box
  have f1 := (World.frozen?_of_block (hg.block bx (lt_of_cell H.box) (fun e => hbx e.symm))).trans H.free
  have l1 := H.lrow.kept hg (own_ne' (fun b hb e => (H.ap1 a b e).1 hb))
  have t1 := H.trow.kept hg (own_ne' (fun b hb e => (H.ap1 a b e).2 hb))
  have fr1 := H.fr.grown hg H.fr.size (fun j hj => by have := (H.tours.lt hj).1; have := H.le; omega)
  have s1 := grown_setCell w2 ⟨gt, a - 1, none⟩ v'
  have s2 := grown_setCell (w2.setCell ⟨gt, a - 1, none⟩ v') ⟨gt, k - 1, none⟩ (.slice none 0 0)
  have nT : ∀ f b, ((fun f => if f = a then v' else if f = k then Value.slice none 0 0 else V f) f).ownBlock = some b → (some gt : Option Nat) ≠ some b := fun f b h1 e => by
    have e3 : gt = b := Option.some.inj e
    simp only at h1
    by_cases e1 : f = a
    · rw [if_pos e1] at h1
      rcases hb with hb | hb
      · exact (H.ap1 a b (by rw [← hb]; exact h1)).2 (by rw [← e3]; rfl)
      · have := hb b h1; omega
    · rw [if_neg e1] at h1
      by_cases e2 : f = k
      · rw [if_pos e2] at h1; cases h1
      · rw [if_neg e2] at h1
        exact (H.ap1 f b h1).2 (by rw [← e3]; rfl)
  have nl : ∀ b, lv.ownBlock = some b → (some gt : Option Nat) ≠ some b := fun b h1 e => H.ap2 b h1 e
  have HT2 := (HT.grown s1 nT).grown s2 nT
  have l2 := (l1.kept s1 (own_ne' nl)).kept s2 (own_ne' nl)
  have ne : ∀ p : Nat, (⟨gt, p, none⟩ : Addr).block ≠ (⟨bx, 0, none⟩ : Addr).block := fun p => by simp; omega
  refine ⟨by rw [World.cell?_setCell_far _ _ _ _ (ne _), World.cell?_setCell_far _ _ _ _ (ne _)]; exact c1, by rw [World.frozen?_setCell, World.frozen?_setCell]; exact f1, l2, ?_, HT2, fun f b h1 => ⟨fun e => ?_, fun e => nT f b h1 e⟩, H.ap2, ?_, ?_, H.le⟩
  · rw [rowVs_merge v' hak ha1 hk1]
    exact ((t1.stored (a - 1) v').1.stored (k - 1) (.slice none 0 0)).1
  · by_cases e1 : f = a
    · rw [if_pos e1] at h1
      rcases hb with hb | hb
      · exact (H.ap1 a b (by rw [← hb]; exact h1)).1 e
      · have := hb b h1
        have := (H.lrow.lt b e).2
        omega
    · rw [if_neg e1] at h1
      by_cases e2 : f = k
      · rw [if_pos e2] at h1; cases h1
      · rw [if_neg e2] at h1
        exact (H.ap1 f b h1).1 e
  · have f2 := fr1.grown s1 fr1.size (fun j hj => by cases hj; have := hgt.1; have := H.le; simp; omega)
    exact f2.grown s2 f2.size (fun j hj => by cases hj; have := hgt.1; have := H.le; simp; omega)
  · exact Nat.le_trans H.sz (Nat.le_trans hg.size (Nat.le_trans s1.size s2.size))
theorem len3L (D : List R3) : (D.flatMap encL).length = D.length * 3 := by
  induction D with
  | nil => rfl
  | cons a l ih => simp [encL] at ih ⊢; omega
theorem ref_start_succ {i : Nat} (h : 1 ≤ i) : (fun g => if g = i then [(i : Int)] else startS i g) = startS (i + 1) := by
  funext g
  unfold startS
  by_cases e : g = i
  · subst e
    rw [if_pos rfl, if_pos ⟨h, by omega⟩]
  · rw [if_neg e]
    by_cases h2 : 1 ≤ g ∧ g < i
    · rw [if_pos h2, if_pos ⟨h2.1, by omega⟩]
    · rw [if_neg h2, if_neg (by omega)]
theorem ref_start_one : startS 1 = fun _ => [] := by
  funext g
  unfold startS
  rw [if_neg (by omega)]
theorem ref_rowTo_one (M : List (List Int)) (i : Nat) : rowTo M i 1 = [] := by
  rw [rowTo_succ]
  simp [rowTo, isSav]
theorem eg_refSav : ∀ args w, (callFunc 48 args).run Tryd.prog w = .ok (.enter 48 args) w := fun args w => by kernel_rfl
set_option maxHeartbeats 1000000 in
theorem refAbv_any (a : Option Addr) (n cap bx : Nat) (l : List R3) (x y : Int) (w : World) (hl : n = l.length) (hx : Elems encL 3 w a l) (hb : w.cell? ⟨bx, 0, none⟩ = some (.slice a n cap)) (x0 : 0 ≤ x) (x1 : x < l.length) (y0 : 0 ≤ y) (y1 : y < l.length) :
    Calls Tryd.prog 48 #[.int .i64 x, .int .i64 y, .pointer (some ⟨bx, 0, none⟩)] w fun e w' => e = .returned (.bool (ltIx l y x)) ∧ Below w.heap.size w w' := by
  subst hl
  obtain ⟨i, rfl⟩ : ∃ i : Nat, x = (i : Int) := ⟨x.toNat, by omega⟩
  obtain ⟨k, rfl⟩ : ∃ k : Nat, y = (k : Int) := ⟨y.toNat, by omega⟩
  have hi : i < l.length := by omega
  have hk : k < l.length := by omega
  obtain ⟨b, o, rfl, hc⟩ := hx.some hi
  have p1 := hc i hi 2 _ rfl
  have q1 := hc k hk 2 _ rfl
  have hv : ltIx l (k : Int) (i : Int) = decide (l[i].1 < l[k].1) := by
    unfold ltIx
    simp [List.getD_eq_getElem?_getD, hi, hk]
  have HV := Lib.hid hv
  clear hc hx hv
  generalize l[i].1 = p at *
  generalize l[k].1 = q at *
  go_enter Tryd.func48, Tryd.ntmps48
  go_wp2
  go_quiet (fail)
  go_wp2
  go_ret
  exact ⟨by rw [HV.out]; rfl, below_drewN _ _ _⟩
end Go.Proofs.YtannijeiecmjpaaDoor
