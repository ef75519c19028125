/- A row of the call's own whose slice value lies in a box: what stays when it is written, lengthened, made shorter. -/
import Derived.Test.YtannijeiecmjpaaDoorRow
import Derived.Test.YtannijeiecmjpaaDoorHeapM
import Derived.Maps.AppendAt
namespace Go.Proofs.YtannijeiecmjpaaDoor
open Go.RowKit

/-- All that lay in w but the box's block and the row's is as it was. -/
structure FrB (bp : Nat) (row : Option Nat) (w w' : World) : Prop where
  os : w'.os = w.os
  tape : w'.tape = w.tape
  output : w'.output = w.output
  size : w.heap.size ≤ w'.heap.size
  block : ∀ k, k < w.heap.size → k ≠ bp → some k ≠ row → w'.heap[k]? = w.heap[k]?
theorem FrB.refl (bp : Nat) (row : Option Nat) (w : World) : FrB bp row w w := ⟨rfl, rfl, rfl, Nat.le_refl _, fun _ _ _ _ => rfl⟩
theorem FrB.next {bp : Nat} {row : Option Nat} {a b c : World} (h : FrB bp row a b) (k : Below b.heap.size b c) : FrB bp row a c :=
  ⟨k.os.trans h.os, k.tape.trans h.tape, k.output.trans h.output, Nat.le_trans h.size k.size, fun i hi h1 h2 => (k.block i (Nat.lt_of_lt_of_le hi h.size)).trans (h.block i hi h1 h2)⟩
theorem FrB.grown {bp : Nat} {row r2 : Option Nat} {a b c : World} (h : FrB bp row a b) (k : b.grownBy c r2) (hr : r2 = row ∨ r2 = some bp ∨ ∀ g, r2 = some g → a.heap.size ≤ g) : FrB bp row a c := by
  refine ⟨k.os.trans h.os, k.tape.trans h.tape, k.output.trans h.output, Nat.le_trans h.size k.size, fun i hi h1 h2 => (k.block i (Nat.lt_of_lt_of_le hi h.size) ?_).trans (h.block i hi h1 h2)⟩
  rcases hr with rfl | rfl | hr
  · exact h2
  · intro h3; exact h1 (Option.some.inj h3)
  · intro h3; have := hr i h3.symm; omega
theorem FrB.cell {bp : Nat} {row : Option Nat} {w w' : World} (h : FrB bp row w w') {p : Addr} {v : Value} (hc : w.cell? p = some v) (h1 : p.block ≠ bp) (h2 : some p.block ≠ row) : w'.cell? p = some v :=
  (World.cell?_of_block (h.block p.block (lt_of_cell hc) h1 h2)).trans hc
theorem FrB.frozen {bp : Nat} {row : Option Nat} {w w' : World} (h : FrB bp row w w') {p : Addr} {v : Value} (hc : w.cell? p = some v) (hf : w.frozen? p = false) (h1 : p.block ≠ bp) (h2 : some p.block ≠ row) : w'.frozen? p = false :=
  (World.frozen?_of_block (h.block p.block (lt_of_cell hc) h1 h2)).trans hf
theorem FrB.owns {bp : Nat} {row : Option Nat} {w w' : World} (h : FrB bp row w w') {base e size n : Nat} {v : Value} {xs : List Value} (ho : w.ownsRow base e size v n xs) (h1 : v.ownBlock ≠ some bp) (h2 : ∀ g, v.ownBlock = some g → some g ≠ row) : w'.ownsRow base e size v n xs := by
  refine ⟨ho.1, ?_⟩
  rcases ho.2 with hn | ⟨g, cap, cur, rfl, hg, hh, r⟩
  · exact Or.inl hn
  · have hlt : g < w.heap.size := (ho.lt g rfl).2
    exact Or.inr ⟨g, cap, cur, rfl, hg, by rw [h.block g hlt (fun h3 => h1 (by rw [h3]; rfl)) (h2 g rfl)]; exact hh, r⟩
theorem FrB.below {bp : Nat} {row : Option Nat} {B : Nat} {w w' : World} (h : FrB bp row w w') (h1 : B ≤ bp) (h2 : ∀ g, row = some g → B ≤ g) (h3 : B ≤ w.heap.size) : Below B w w' :=
  ⟨h.os, h.tape, h.output, h.size, fun k hk => h.block k (by omega) (by omega) (fun h4 => by have := h2 k h4.symm; omega)⟩

theorem shrink_k {w : World} {base e n cap m size : Nat} {ad : Option Addr} {xs : List Value} (h : w.ownsRow base e size (.slice ad n cap) n xs) (hm : m ≤ n) : w.ownsRow base e size (.slice ad m cap) m (xs.take (m * size)) := by
  have hmul := Nat.mul_le_mul_right size hm
  refine ⟨by rw [List.length_take, h.1]; omega, ?_⟩
  rcases h.2 with ⟨h1, h2⟩ | ⟨g, cap', cur, h1, h2, h3, h4, h5, h6, h7⟩
  · obtain ⟨rfl, _, rfl⟩ := Value.slice.inj h1
    exact Or.inl ⟨by rw [show m = 0 by omega], by omega⟩
  · obtain ⟨rfl, _, rfl⟩ := Value.slice.inj h1
    refine Or.inr ⟨g, cap, cur, rfl, h2, h3, by omega, h5, h6, ?_⟩
    rw [← h7, List.take_take, Nat.min_eq_left hmul]

/-- One more is appended at a step of a region that draws its order: where the row lies then. -/
theorem step_row_at {P : Program} {w : World} {ops : Array Oper} {o : Oper} {a : Act} {K : Act → World → Prop} {Q : Exit → Act → World → Prop} {E : Prop} {t e : TypeId} {z : Value} {size bytes : Nat} (R : RowOf P t e z size bytes) (hgd : o.guard = none) (s x : Operand)
    (ho : o.op = .call { callee := .builtin .append, args := #[s, x], argTypes := #[t, t] }) (base : Nat)
    {v : Value} {n : Nat} {xs : List Value} (hs : a.eval s = v) (hown : w.ownsRow base e size v n xs)
    (B : Nat) (news : List Value) (hB : w.heap[B]? = some (.cells news.toArray e (0, 0))) (hx : a.eval x = .slice (some ⟨B, 0, none⟩) 1 1) (hl : news.length = size) (h1 : ∀ u ∈ news, u.oneCell' = true)
    (h63 : n + 1 ≤ maxLen) (hbytes : (n + 1) * bytes ≤ 140737488355328) (hbase : base ≤ w.heap.size)
    (h : ∀ v' w', w'.ownsRow base e size v' (n + 1) (xs ++ news) → w.grownBy w' v.ownBlock → (v'.ownBlock = v.ownBlock ∨ ∀ g, v'.ownBlock = some g → w.heap.size ≤ g) → K (a.put o.dst v') w') :
    if Region.wanted o (yielded ops a.tmps) = true then Oper.wp P o a w K Q else E := by
  obtain ⟨i, ht, hi, hz, hsize, hby, hzs, hsz⟩ := R
  have hw : Region.wanted o (yielded ops a.tmps) = true := by simp [Region.wanted, hgd]
  rw [if_pos hw]
  obtain ⟨v', w', hr, h2, h3, _, h5⟩ := run_append_own_at (P := P) w base t o.type e i z size bytes ht hi hz hsize hby hzs hsz v n xs hown ⟨B, 0, none⟩ 1 1 news (by rw [hl, Nat.one_mul]) (World.news_of_block (cs := news.toArray) hB) h1 h63 hbytes hbase
  unfold Oper.wp execOp
  simp only [ho, resolve, invoke, builtin, Sem.run_bind, Sem.run_pure, Result.andThen_ok, List.map_toArray, List.map_cons, List.map_nil, hs, hx, hr]
  refine h v' w' h2 h3 ?_
  rcases h5 with h5 | h5
  · exact Or.inl h5
  · exact Or.inr (fun g hg => by rw [h5] at hg; have := Option.some.inj hg; omega)

/-- One more, at a list of operations: where the row lies then. -/
theorem app_at {P : Program} {w : World} {ops : Array Oper} {rest : List Oper} {o : Oper} {a : Act} {Q : Exit → Act → World → Prop} {t e : TypeId} {z : Value} {size bytes : Nat} (R : RowOf P t e z size bytes) (hgd : o.guard = none) (s x : Operand)
    (ho : o.op = .call { callee := .builtin .append, args := #[s, x], argTypes := #[t, t] }) (base : Nat)
    {v : Value} {n : Nat} {xs : List Value} (hs : a.eval s = v) (hown : w.ownsRow base e size v n xs)
    (news : List Value) {H : Nat} (hx : a.eval x = .slice (some ⟨H, 0, none⟩) 1 1) (hH : w.heap.size = H) (hl : news.length = size) (h1 : ∀ u ∈ news, u.oneCell' = true)
    (h63 : n + 1 ≤ maxLen) (hbytes : (n + 1) * bytes ≤ 140737488355328) (hbase : base ≤ w.heap.size)
    (h : ∀ ad cap w', w'.ownsRow base e size (.slice ad (n + 1) cap) (n + 1) (xs ++ news) → w.grownBy w' v.ownBlock → ((Value.slice ad (n + 1) cap).ownBlock = v.ownBlock ∨ ∀ g, (Value.slice ad (n + 1) cap).ownBlock = some g → w.heap.size ≤ g) → wpList P ops Q rest (a.put o.dst (.slice ad (n + 1) cap)) w') :
    wpList P ops Q (o :: rest) a (w.alloc (.cells news.toArray e)) := by
  subst hH
  obtain ⟨i, ht, hi, hz, hsize, hby, hzs, hsz⟩ := R
  refine wpList_append_own_at (w.alloc (.cells news.toArray e)) hgd s x t ho base e i z size bytes ht hi hz hsize hby hzs hsz v n xs hs (hown.alloc _) ⟨w.heap.size, 0, none⟩ 1 1 news hx (by rw [hl, Nat.one_mul])
    (World.news_of_block (cs := news.toArray) (by show (w.heap.push _)[w.heap.size]? = _; exact Array.getElem?_push_size)) h1 h63 hbytes (by simp; omega) ?_
  intro v' w' h2 h3 _ h5
  obtain ⟨ad, cap, rfl⟩ : ∃ ad cap, v' = .slice ad (n + 1) cap := by
    rcases h2.2 with ⟨h1, h2⟩ | ⟨g, cap, cur, h1, _⟩
    · omega
    · exact ⟨_, _, h1⟩
  refine h ad cap w' h2 ?_ ?_
  · have hg : w.grownBy (w.alloc (.cells news.toArray e)) v.ownBlock := World.grownBy_alloc w _ _
    exact ⟨h3.os.trans hg.os, h3.tape.trans hg.tape, h3.output.trans hg.output, Nat.le_trans hg.size h3.size, fun i hi hne => (h3.block i (Nat.lt_of_lt_of_le hi hg.size) hne).trans (hg.block i hi hne)⟩
  · rcases h5 with h5 | h5
    · exact Or.inl h5
    · exact Or.inr (fun g hg => by rw [h5] at hg; have := Option.some.inj hg; simp at this; omega)

variable {α : Type}
/-- In w the box bp holds the slice value s, which holds xs; beside box and row all is as it was in w0, where the box held s0. -/
structure InBox (e size : Nat) (enc : α → List Value) (bp B : Nat) (w0 : World) (s0 : Value) (s : Value) (xs : List α) (w : World) : Prop where
  box : w.cell? ⟨bp, 0, none⟩ = some s
  free : w.frozen? ⟨bp, 0, none⟩ = false
  row : w.ownsRow B e size s xs.length (xs.flatMap enc)
  fr : FrB bp s0.ownBlock w0 w
  own : s.ownBlock = s0.ownBlock ∨ ∀ g, s.ownBlock = some g → w0.heap.size ≤ g
  hB : bp < B ∧ B ≤ w0.heap.size
theorem InBox.start {e size : Nat} {enc : α → List Value} {bp B : Nat} {w : World} {s : Value} {xs : List α} (h1 : w.cell? ⟨bp, 0, none⟩ = some s) (h2 : w.frozen? ⟨bp, 0, none⟩ = false) (h3 : w.ownsRow B e size s xs.length (xs.flatMap enc)) (h4 : bp < B) (h5 : B ≤ w.heap.size) :
    InBox e size enc bp B w s s xs w := ⟨h1, h2, h3, FrB.refl _ _ _, Or.inl rfl, h4, h5⟩
variable {e size : Nat} {enc : α → List Value} {bp B : Nat} {w0 : World} {s0 s : Value} {xs : List α} {w w' : World}
theorem InBox.next (H : InBox e size enc bp B w0 s0 s xs w) (h : Below w.heap.size w w') : InBox e size enc bp B w0 s0 s xs w' :=
  ⟨(h.cell (lt_of_cell H.box)).trans H.box, (h.frozen (lt_of_cell H.box)).trans H.free, owns_at H.row h, H.fr.next h, H.own, H.hB⟩
theorem InBox.ne (H : InBox e size enc bp B w0 s0 s xs w) : ∀ g, s.ownBlock = some g → B ≤ g ∧ g ≠ bp := fun g hg => by
  have h1 := (H.row.lt g hg).1
  have h2 := H.hB.1
  exact ⟨h1, by omega⟩
theorem InBox.grown (H : InBox e size enc bp B w0 s0 s xs w) (h : w.grownBy w' s.ownBlock) : w'.cell? ⟨bp, 0, none⟩ = some s ∧ w'.frozen? ⟨bp, 0, none⟩ = false ∧ FrB bp s0.ownBlock w0 w' := by
  have hne : some bp ≠ s.ownBlock := fun h2 => (H.ne bp h2.symm).2 rfl
  refine ⟨(World.cell?_of_block (h.block bp (lt_of_cell H.box) hne)).trans H.box, (World.frozen?_of_block (h.block bp (lt_of_cell H.box) hne)).trans H.free, H.fr.grown h ?_⟩
  rcases H.own with h2 | h2
  · exact Or.inl h2
  · exact Or.inr (Or.inr h2)
/-- The row is written on. -/
theorem InBox.put (H : InBox e size enc bp B w0 s0 s xs w) (h : w.grownBy w' s.ownBlock) {ys : List α} (hr : w'.ownsRow B e size s ys.length (ys.flatMap enc)) : InBox e size enc bp B w0 s0 s ys w' :=
  ⟨(H.grown h).1, (H.grown h).2.1, hr, (H.grown h).2.2, H.own, H.hB⟩
/-- Another row is laid into the box. -/
theorem InBox.box' (H : InBox e size enc bp B w0 s0 s xs w) (h : w.grownBy w' s.ownBlock) {s' : Value} {ys : List α} (hr : w'.ownsRow B e size s' ys.length (ys.flatMap enc)) (ho : s'.ownBlock = s.ownBlock ∨ ∀ g, s'.ownBlock = some g → w0.heap.size ≤ g) :
    InBox e size enc bp B w0 s0 s' ys (w'.setCell ⟨bp, 0, none⟩ s') := by
  obtain ⟨h1, h2, h3⟩ := H.grown h
  refine ⟨World.cell?_setCell_same _ _ _ h1, by rw [World.frozen?_setCell]; exact h2, ownsRow_setCell_below hr H.hB.1 _, ?_, ?_, H.hB⟩
  · have hg : w'.grownBy (w'.setCell ⟨bp, 0, none⟩ s') (some bp) := ⟨rfl, rfl, rfl, by simp [World.setCell], fun i hi h4 => Below.heap_setCell _ _ _ _ (fun h5 => h4 (by rw [h5]))⟩
    exact h3.grown hg (Or.inr (Or.inl rfl))
  · rcases ho with ho | ho
    · rw [ho]; exact H.own
    · exact Or.inr ho
theorem rowForm {w : World} {base e size n : Nat} {v : Value} {xs : List Value} (h : w.ownsRow base e size v n xs) : ∃ ad cap, v = .slice ad n cap := by
  rcases h.2 with ⟨h1, h2⟩ | ⟨g, cap, cur, h1, _⟩
  · exact ⟨none, 0, by rw [h1, h2]⟩
  · exact ⟨_, _, h1⟩
theorem rowSome {w : World} {base e size n : Nat} {v : Value} {xs : List Value} (h : w.ownsRow base e size v n xs) (h0 : 0 < n) : ∃ g cap, v = .slice (some ⟨g, 0, none⟩) n cap ∧ n ≤ cap ∧ cap ≤ maxLen := by
  rcases h.2 with ⟨h1, h2⟩ | ⟨g, cap, cur, h1, _, _, h2, h3, _⟩
  · omega
  · exact ⟨g, cap, h1, h2, h3⟩
end Go.Proofs.YtannijeiecmjpaaDoor
