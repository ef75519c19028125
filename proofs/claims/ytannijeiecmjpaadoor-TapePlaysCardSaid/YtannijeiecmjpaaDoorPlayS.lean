/- The memory of tape.Play: its boxes, its rows, the row of those who wait (which begins where it begins); its two function values. -/
import Derived.Test.YtannijeiecmjpaaDoorClockH
import Derived.Test.YtannijeiecmjpaaDoorDelT
import Derived.Test.YtannijeiecmjpaaDoorTapeC
import Derived.Test.YtannijeiecmjpaaDoorTabN
import Derived.Test.YtannijeiecmjpaaDoorRefPlay
import Derived.ArgAppend
import Derived.Deep.DeepAppendRoom
namespace Go.Proofs.YtannijeiecmjpaaDoor
open Go.RowKit

theorem madeP (n : Nat) : (madeCells #[Value.int .i64 0, Value.int .i64 0] (n * 2)).toList = (List.replicate n ((0 : Int), (0 : Int))).flatMap encF := by
  have h1 : (madeCells #[Value.int .i64 0, Value.int .i64 0] (n * 2)).toList = List.replicate (n * 2) (Value.int .i64 0) := by
    apply List.ext_getElem (by simp [size_madeCells])
    intro j h1 h2
    have hj : j % 2 = 0 ∨ j % 2 = 1 := by omega
    rcases hj with hj | hj <;> simp [madeCells, hj]
  rw [h1]
  clear h1
  induction n with
  | zero => rfl
  | succ n ih => rw [show (n + 1) * 2 = n * 2 + 2 by omega, ← List.replicate_append_replicate, ih, show List.replicate (n + 1) ((0 : Int), (0 : Int)) = List.replicate n (0, 0) ++ [(0, 0)] from List.replicate_succ', List.flatMap_append]; rfl
/-- 'make([]T, n)' as an equation, whatever T's size. -/
theorem made_rowk {P : Program} {t e : TypeId} {z : Value} {size bytes : Nat} (R : RowOf P t e z size bytes) (n : Nat) (L : Int) (hL : L = (n : Int)) (b2 : bytes * n ≤ 281474976710656) (b3 : n ≤ maxLen) :
    ∃ Z : Array Value, (∀ w, (Instr.makeSlice t (.int .i64 L) (.int .i64 L)).run P w = .ok (.slice (some ⟨w.heap.size, 0, none⟩) n n) (w.alloc (.cells Z e))) ∧
      ∀ (w : World) (base : Nat), base ≤ w.heap.size → (w.alloc (.cells Z e)).ownsRow base e size (.slice (some ⟨w.heap.size, 0, none⟩) n n) n (madeCells z.cells (n * size)).toList := by
  obtain ⟨i, ht, hi, hz, hsize, hby, hzs, hsz⟩ := R
  subst hL
  have h63 : (n : Int) ≤ 9223372036854775807 := by
    have h := b3
    simp [maxLen] at h
    omega
  have hb : (i.bytes : Int) * (n : Int) ≤ 281474976710656 := by
    have h : ((i.bytes * n : Nat) : Int) ≤ 281474976710656 := by rw [hby]; omega
    rwa [Int.natCast_mul] at h
  refine ⟨madeCells z.cells (n * size), fun w => ?_, fun w base hbase => ?_⟩
  · have hr := run_make (P := P) w t e i z ht hi hz .i64 .i64 n n (by omega) (Int.le_refl _) hb h63
    simp only [Int.toNat_natCast, hsize] at hr
    exact hr
  · exact World.ownsRow_lit w _ n hbase b3 (by rw [size_madeCells])

/-! ### those who wait -/
def nI (l : List Nat) : List Int := l.map (fun i : Nat => (i : Int))
/-- A slice of integers that lies in a row of the call's own, from some place on. -/
def TailR (w : World) (base : Nat) (v : Value) (xs : List Int) : Prop :=
  (v = .slice none 0 0 ∧ xs = []) ∨ ∃ g k c cap dead, v = .slice (some ⟨g, k, none⟩) xs.length c ∧ dead.length = k ∧ xs.length ≤ c ∧ k + c ≤ cap ∧
    w.ownsRow base 3 1 (.slice (some ⟨g, 0, none⟩) (k + xs.length) cap) (k + xs.length) ((dead ++ xs).map (Value.int .i64))
theorem TailR.lt {w : World} {base : Nat} {v : Value} {xs : List Int} (h : TailR w base v xs) : ∀ g, v.ownBlock = some g → base ≤ g ∧ g < w.heap.size := by
  intro g hg
  rcases h with ⟨rfl, _⟩ | ⟨g', k, c, cap, dead, rfl, _, _, _, h⟩
  · cases hg
  · obtain rfl : g' = g := by simpa [Value.ownBlock] using hg
    exact h.lt _ rfl
theorem TailR.kept {w w' : World} {base : Nat} {v : Value} {xs : List Int} (h : TailR w base v xs) (hb : ∀ g, v.ownBlock = some g → w'.heap[g]? = w.heap[g]?) : TailR w' base v xs := by
  rcases h with h | ⟨g, k, c, cap, dead, rfl, h1, h2, h3, h4⟩
  · exact Or.inl h
  · exact Or.inr ⟨g, k, c, cap, dead, rfl, h1, h2, h3, own_block h4 (hb g rfl)⟩
theorem TailR.form {w : World} {base : Nat} {v : Value} {xs : List Int} (h : TailR w base v xs) : ∃ ad c, v = .slice ad xs.length c := by
  rcases h with ⟨rfl, rfl⟩ | ⟨g, k, c, cap, dead, rfl, _⟩
  · exact ⟨none, 0, rfl⟩
  · exact ⟨_, _, rfl⟩
theorem TailR.cons {w : World} {base : Nat} {v : Value} {x : Int} {xs : List Int} (h : TailR w base v (x :: xs)) : ∃ g k c, v = .slice (some ⟨g, k, none⟩) (xs.length + 1) c ∧ xs.length + 1 ≤ c ∧ w.cell? ⟨g, k, none⟩ = some (.int .i64 x) ∧
    TailR w base (.slice (if c = 1 then some ⟨g, k, none⟩ else some ⟨g, k + 1, none⟩) xs.length (c - 1)) xs := by
  rcases h with ⟨_, h⟩ | ⟨g, k, c, cap, dead, rfl, h1, h2, h3, h4⟩
  · cases h
  · simp only [List.length_cons] at h2 h4
    have c0 := (tail_get h4 h1 rfl 0 (by simp)).1
    simp only [Nat.add_zero, List.getElem_cons_zero] at c0
    refine ⟨g, k, c, rfl, h2, c0, Or.inr ?_⟩
    by_cases hc : c = 1
    · rw [if_pos hc]
      subst hc
      obtain rfl : xs = [] := List.eq_nil_of_length_eq_zero (by omega)
      refine ⟨g, k, 0, cap, dead, rfl, h1, by simp, by omega, ?_⟩
      have := shrink_k h4 (m := k) (by omega)
      rw [Nat.mul_one, ← List.map_take, ← h1, List.take_append_of_le_length (Nat.le_refl _), List.take_of_length_le (Nat.le_refl _), h1] at this
      simpa using this
    · rw [if_neg hc]
      refine ⟨g, k + 1, c - 1, cap, dead ++ [x], rfl, by simp [h1], by omega, by omega, ?_⟩
      rw [show k + 1 + xs.length = k + (xs.length + 1) by omega, List.append_assoc]
      exact h4
theorem owns_more {w : World} {base g n cap : Nat} {E : List Int} {i : TypeInfo} (hi : (Tryd.prog).info? 3 = some i) (hsize : i.size = 1) (h : w.ownsRow base 3 1 (.slice (some ⟨g, 0, none⟩) n cap) n (E.map (Value.int .i64))) (hn : n + 1 ≤ cap) (x : Int) (B : Nat) (hB : w.heap[B]? = some (.cells #[.int .i64 x] 3 (0, 0))) :
    (w.setCells g n [.int .i64 x]).ownsRow base 3 1 (.slice (some ⟨g, 0, none⟩) (n + 1) cap) (n + 1) ((E ++ [x]).map (Value.int .i64)) ∧ (w.cell? ⟨g, n, none⟩).isSome = true := by
  have hnews : ∀ j u, [Value.int .i64 x][j]? = some u → w.cell? ((⟨B, 0, none⟩ : Addr).add j) = some u := World.news_of_block (cs := #[.int .i64 x]) hB
  obtain ⟨w', hr, h2, h3⟩ := run_append_own_spare (P := Tryd.prog) w base 39 39 3 i 1 Tryd.underlying39 hi hsize g n cap _ h ⟨B, 0, none⟩ 1 1 [.int .i64 x] rfl hnews (by intro u hu; simp at hu; subst hu; rfl) hn
  have hs : (w.cell? ⟨g, n, none⟩).isSome = true := by
    rcases h.2 with ⟨h1, _⟩ | ⟨g', cap', cur, h1, _, hg, _, _, hcs, _⟩
    · cases h1
    · obtain ⟨e1, _, e3⟩ := Value.slice.inj h1
      have hgg : g = g' := by simpa using e1
      subst hgg
      subst e3
      unfold World.cell?
      simp only [hg]
      have : n < cur.size := by omega
      simp [this]
  have hr2 := run_append_room_cells (P := Tryd.prog) w 39 39 3 i Tryd.underlying39 hi g 0 n cap ⟨B, 0, none⟩ 1 1 [.int .i64 x] (by rw [hsize]; rfl) hnews (by intro u hu; simp at hu; subst hu; rfl) hn
    (fun j hj => by simp at hj; subst hj; rw [hsize]; simpa using hs) (fun j _ => h.frozenAt _)
  rw [hr] at hr2
  have he : w' = w.setCells g (0 + n * i.size) [.int .i64 x] := by injection hr2
  rw [hsize, Nat.zero_add, Nat.mul_one] at he
  rw [← he, List.map_append]
  exact ⟨h2, hs⟩
/-- One more waits. -/
theorem app_tail {P : Program} (hP : P = Tryd.prog) {w : World} {ops : Array Oper} {rest : List Oper} {o : Oper} {a : Act} {Q : Exit → Act → World → Prop} (hgd : o.guard = none) (s x : Operand)
    (ho : o.op = .call { callee := .builtin .append, args := #[s, x], argTypes := #[39, 39] }) (base : Nat)
    {v : Value} {xs : List Int} (hs : a.eval s = v) (H : TailR w base v xs) (y : Int) {B : Nat} (hx : a.eval x = .slice (some ⟨B, 0, none⟩) 1 1) (hB : w.heap.size = B) (hl : xs.length ≤ 1000) (hbase : base ≤ w.heap.size)
    (h : ∀ ad c w', TailR w' base (.slice ad (xs.length + 1) c) (xs ++ [y]) → w.grownBy w' v.ownBlock → ((Value.slice ad (xs.length + 1) c).ownBlock = v.ownBlock ∨ ∀ g, (Value.slice ad (xs.length + 1) c).ownBlock = some g → w.heap.size ≤ g) → wpList P ops Q rest (a.put o.dst (.slice ad (xs.length + 1) c)) w') :
    wpList P ops Q (o :: rest) a (w.alloc (.cells #[.int .i64 y] 3)) := by
  subst hP
  subst hB
  obtain ⟨i, ht, hi, hz, hsize, hby, hzs, hsz⟩ := rowIn
  have hg0 : ∀ row, w.grownBy (w.alloc (.cells #[.int .i64 y] 3)) row := fun row => World.grownBy_alloc w _ _
  rcases H with ⟨rfl, rfl⟩ | ⟨g, k, c, cap, dead, rfl, h1, h2, h3, h4⟩
  · refine app_at rowIn hgd s x ho base hs (World.ownsRow_nil _ _ _ _) [.int .i64 y] hx rfl rfl (by intro u hu; simp at hu; subst hu; rfl) (by unfold maxLen; omega) (by omega) hbase ?_
    intro ad c w' e1 e2 e3
    refine h ad c w' (Or.inr ?_) e2 e3
    obtain ⟨g, cap, e4, e5, _⟩ := rowSome e1 (by omega)
    obtain ⟨rfl, _, rfl⟩ := Value.slice.inj e4
    exact ⟨g, 0, c, c, [], rfl, rfl, e5, by omega, by simpa using e1⟩
  · have hgw : g < w.heap.size := (h4.lt g rfl).2
    have h4' := h4.alloc (.cells #[.int .i64 y] 3)
    have hBk : (w.alloc (.cells #[.int .i64 y] 3)).heap[w.heap.size]? = some (.cells #[.int .i64 y] 3 (0, 0)) := Array.getElem?_push_size
    have hnews : ∀ j u, [Value.int .i64 y][j]? = some u → (w.alloc (.cells #[.int .i64 y] 3)).cell? ((⟨w.heap.size, 0, none⟩ : Addr).add j) = some u := World.news_of_block (cs := #[.int .i64 y]) hBk
    refine wpList_append_arg (w.alloc (.cells #[.int .i64 y] 3)) hgd s x 39 ho 3 i _ 1 8 ht hi hz hsize hby hzs hsz g k xs.length c (xs.map (Value.int .i64)) hs (by simp) (fun j u hj => ?_) ⟨w.heap.size, 0, none⟩ 1 1 [.int .i64 y] hx rfl hnews (by intro u hu; simp at hu; subst hu; rfl) (fun hr j hj => ?_) (by unfold maxLen; omega) (by omega) (fun hr => ?_) (fun hr v' w' e1 e2 => ?_)
    · rw [List.getElem?_map] at hj
      obtain ⟨z, hz1, rfl⟩ := Option.map_eq_some_iff.1 hj
      obtain ⟨hjl, rfl⟩ := List.getElem?_eq_some_iff.1 hz1
      exact (tail_get h4' h1 rfl j hjl).1
    · simp only [List.length_cons, List.length_nil] at hj
      obtain rfl : j = 0 := by omega
      refine ⟨?_, h4'.frozenAt _⟩
      have := (owns_more hi hsize h4' (by omega) y w.heap.size hBk).2
      simpa using this
    · have hm := owns_more hi hsize h4' (by omega) y w.heap.size hBk
      refine h (some ⟨g, k, none⟩) c _ (Or.inr ⟨g, k, c, cap, dead, by simp, h1, by simpa using hr, h3, ?_⟩) ?_ (Or.inl rfl)
      · rw [Nat.mul_one, List.length_append, ← List.append_assoc]
        exact hm.1
      · exact grown_trans (hg0 _) (grown_setCells g _ _ _)
    · have hfm : ∃ ad c', v' = .slice ad (xs.length + 1) c' := by
        rcases e1.2 with ⟨_, q⟩ | ⟨g', cap', cur, q, _⟩
        · omega
        · exact ⟨_, _, q⟩
      obtain ⟨ad, c', rfl⟩ := hfm
      refine h ad c' w' (Or.inr ?_) ?_ (Or.inr (fun g' hg' => ?_))
      · obtain ⟨g', cap', e4, e5, _⟩ := rowSome e1 (by omega)
        obtain ⟨rfl, _, rfl⟩ := Value.slice.inj e4
        refine ⟨g', 0, c', c', [], by simp, rfl, by simpa using e5, by omega, ?_⟩
        have e6 : w'.ownsRow base 3 1 (.slice (some ⟨g', 0, none⟩) (xs.length + 1) c') (xs.length + 1) (xs.map (Value.int .i64) ++ [.int .i64 y]) := by
          refine ⟨e1.1, ?_⟩
          rcases e1.2 with ⟨q, _⟩ | ⟨g2, cap2, cur, q1, q2, q3⟩
          · cases q
          · exact Or.inr ⟨g2, cap2, cur, q1, Nat.le_trans hbase (Nat.le_trans (by simp) q2), q3⟩
        simpa using e6
      · have := grown_trans (hg0 none) e2
        exact ⟨this.os, this.tape, this.output, this.size, fun q hq _ => this.block q hq (by simp)⟩
      · have := (e1.lt g' hg').1
        simp at this
        omega

theorem gcell {w w' : World} {row : Option Nat} (hg : w.grownBy w' row) {p : Addr} {v : Value} (h : w.cell? p = some v) (hne : some p.block ≠ row) : w'.cell? p = some v :=
  (World.cell?_of_block (hg.block p.block (lt_of_cell h) hne)).trans h
theorem gfroz {w w' : World} {row : Option Nat} (hg : w.grownBy w' row) {p : Addr} {v : Value} (h : w.cell? p = some v) (hf : w.frozen? p = false) (hne : some p.block ≠ row) : w'.frozen? p = false :=
  (World.frozen?_of_block (hg.block p.block (lt_of_cell h) hne)).trans hf
/-! ### the memory -/
/-- All but those who wait. -/
structure PlayR (w : World) (a : Option Addr) (n cap m G : Nat) (cs : Value) (ys F : List Int) (O : List R2) (wr : World) : Prop where
  boxL : wr.cell? ⟨w.heap.size, 0, none⟩ = some (.slice a n cap)
  boxO : wr.cell? ⟨G + 1, 0, none⟩ = some (.slice (some ⟨G, 0, none⟩) n n)
  rowO : wr.ownsRow (w.heap.size + 1) 63 2 (.slice (some ⟨G, 0, none⟩) n n) n (O.flatMap encF)
  rowF : wr.ownsRow (w.heap.size + 1) 3 1 (.slice (some ⟨G + 2, 0, none⟩) m m) m (F.map (Value.int .i64))
  boxC : wr.cell? ⟨G + 3, 0, none⟩ = some cs
  freeC : wr.frozen? ⟨G + 3, 0, none⟩ = false
  rowC : wr.ownsRow (G + 4) 3 1 cs ys.length (ys.flatMap encI)
  fr : Below w.heap.size w wr
  hB : w.heap.size + 1 ≤ G ∧ G + 4 ≤ wr.heap.size
structure PlayAt (w : World) (a : Option Addr) (n cap m G : Nat) (cs : Value) (ys F : List Int) (O : List R2) (wv : Value) (wait : List Int) (wr : World) : Prop where
  rest : PlayR w a n cap m G cs ys F O wr
  tail : TailR wr (G + 4) wv wait
  apart : ∀ b, cs.ownBlock = some b → wv.ownBlock ≠ some b
section
variable {w : World} {a : Option Addr} {n cap m G : Nat} {cs : Value} {ys F : List Int} {O : List R2} {wv : Value} {wait : List Int} {wr wr' : World}
theorem PlayR.olen (H : PlayR w a n cap m G cs ys F O wr) : O.length = n := by
  have h1 := H.rowO.1
  have h2 : ∀ l : List R2, (l.flatMap encF).length = l.length * 2 := fun l => by induction l with | nil => rfl | cons a l ih => simp [encF] at ih ⊢; omega
  rw [h2] at h1
  omega
theorem PlayR.flen (H : PlayR w a n cap m G cs ys F O wr) : F.length = m := owns_len H.rowF
/-- Where none of its blocks is written all stays. -/
theorem PlayR.grown (H : PlayR w a n cap m G cs ys F O wr) {row : Option Nat} (hg : wr.grownBy wr' row) (h1 : ∀ b, row = some b → G + 4 ≤ b ∧ cs.ownBlock ≠ some b) : PlayR w a n cap m G cs ys F O wr' := by
  have hb := H.hB.1
  have hne : ∀ k, k < G + 4 → some k ≠ row := fun k hk h => by have := (h1 k h.symm).1; omega
  have hr : ∀ (k : Nat), k < G + 4 → (some k : Option Nat) = none ∨ (some k : Option Nat) ≠ row := fun k hk => Or.inr (hne k hk)
  refine ⟨gcell hg H.boxL (hne _ (by show w.heap.size < _; omega)), gcell hg H.boxO (hne _ (by show G + 1 < _; omega)), H.rowO.kept hg (hr G (by omega)), H.rowF.kept hg (hr (G + 2) (by omega)), gcell hg H.boxC (hne _ (by show G + 3 < _; omega)), gfroz hg H.boxC H.freeC (hne _ (by show G + 3 < _; omega)), H.rowC.kept hg ?_, ?_, hb, Nat.le_trans H.hB.2 hg.size⟩
  · cases hc : cs.ownBlock with
    | none => exact Or.inl rfl
    | some b => exact Or.inr (fun h => (h1 b h.symm).2 hc)
  · exact H.fr.grown hg H.fr.size (fun k hk => by have := (h1 k hk).1; omega)
theorem PlayR.next (H : PlayR w a n cap m G cs ys F O wr) (h : Below wr.heap.size wr wr') : PlayR w a n cap m G cs ys F O wr' :=
  H.grown (row := none) (grown_of_below h none) (fun b hb => by cases hb)
theorem PlayAt.next (H : PlayAt w a n cap m G cs ys F O wv wait wr) (h : Below wr.heap.size wr wr') : PlayAt w a n cap m G cs ys F O wv wait wr' :=
  ⟨H.rest.next h, H.tail.kept (fun g hg => h.block g (H.tail.lt g hg).2), H.apart⟩
theorem PlayR.toBox (H : PlayR w a n cap m G cs ys F O wr) : StC (G + 3) (G + 4) wr cs cs ys wr := InBox.start H.boxC H.freeC H.rowC (Nat.lt_succ_self _) H.hB.2
/-- The clock is another one. -/
theorem PlayAt.heap (H : PlayAt w a n cap m G cs ys F O wv wait wr) {cs' : Value} {zs : List Int} (h : StC (G + 3) (G + 4) wr cs cs' zs wr') : PlayAt w a n cap m G cs' zs F O wv wait wr' := by
  have hb := H.rest.hB.1
  have hcs : ∀ k, cs.ownBlock = some k → G + 4 ≤ k := fun k hk => (H.rest.rowC.lt k hk).1
  have hne : ∀ k, k < G + 4 → some k ≠ cs.ownBlock := fun k hk h => by have := hcs k h.symm; omega
  have e1 : ∀ g, (Value.slice (some ⟨G, 0, none⟩) n n).ownBlock = some g → some g ≠ cs.ownBlock := fun g hg => by
    have e : G = g := Option.some.inj hg
    rw [← e]; exact hne _ (by omega)
  have e2 : ∀ g, (Value.slice (some ⟨G + 2, 0, none⟩) m m).ownBlock = some g → some g ≠ cs.ownBlock := fun g hg => by
    have e : G + 2 = g := Option.some.inj hg
    rw [← e]; exact hne _ (by omega)
  refine ⟨⟨h.fr.cell H.rest.boxL (by show w.heap.size ≠ _; omega) (hne _ (by show w.heap.size < _; omega)), h.fr.cell H.rest.boxO (by show G + 1 ≠ _; omega) (hne _ (by show G + 1 < _; omega)),
    h.fr.owns H.rest.rowO (by show some G ≠ _; simp) e1, h.fr.owns H.rest.rowF (by show some (G + 2) ≠ _; simp) e2,
    h.box, h.free, h.row, ?_, hb, Nat.le_trans H.rest.hB.2 h.fr.size⟩, H.tail.kept (fun g hg => ?_), fun b hb2 hw => ?_⟩
  · have h3 := H.rest.fr.size
    exact H.rest.fr.trans (h.fr.below (by omega) (fun g hg => by have := hcs g hg; omega) (by omega))
  · have h1 := H.tail.lt g hg
    exact h.fr.block g h1.2 (by omega) (fun h2 => H.apart g h2.symm hg)
  · rcases h.own with h2 | h2
    · exact H.apart b (by rw [← h2]; exact hb2) hw
    · have h3 := h2 b hb2
      have h4 := (H.tail.lt b hw).2
      omega
/-- Others wait. -/
theorem PlayAt.await (H : PlayAt w a n cap m G cs ys F O wv wait wr) (hg : wr.grownBy wr' wv.ownBlock) {wv' : Value} {wait' : List Int} (ht : TailR wr' (G + 4) wv' wait') (hv : wv'.ownBlock = wv.ownBlock ∨ ∀ g, wv'.ownBlock = some g → wr.heap.size ≤ g) : PlayAt w a n cap m G cs ys F O wv' wait' wr' := by
  refine ⟨H.rest.grown hg (fun b hb => ⟨(H.tail.lt b hb).1, fun h => H.apart b h hb⟩), ht, fun b hb hw => ?_⟩
  rcases hv with hv | hv
  · exact H.apart b hb (by rw [← hv]; exact hw)
  · have h1 := hv b hw
    have h2 := (H.rest.rowC.lt b hb).2
    omega
theorem flatF_set (xs : List R2) (k : Nat) (v : R2) (h : k < xs.length) : (xs.set k v).flatMap encF = ((xs.flatMap encF).set (k * 2) (.int .i64 v.1)).set (k * 2 + 1) (.int .i64 v.2) := by
  induction xs generalizing k with
  | nil => simp at h
  | cons x xs ih =>
    rcases k with _ | k
    · simp [encF]
    · have := ih k (by simpa using h)
      simp only [List.set_cons_succ, List.flatMap_cons]
      rw [this, show (k + 1) * 2 + 1 = (encF x).length + (k * 2 + 1) by simp [encF]; omega, show (k + 1) * 2 = (encF x).length + k * 2 by simp [encF]; omega,
        List.set_append_right _ _ (by omega), List.set_append_right _ _ (by omega)]
      simp
/-- A fate is told. -/
theorem PlayR.setO (H : PlayR w a n cap m G cs ys F O wr) (i : Nat) (hi : i < n) (v : R2) : PlayR w a n cap m G cs ys F (O.set i v) ((wr.setCell ⟨G, i * 2, none⟩ (.int .i64 v.1)).setCell ⟨G, i * 2 + 1, none⟩ (.int .i64 v.2)) := by
  have hb := H.hB.1
  have hol := H.olen
  have h1 := H.rowO.stored (i * 2) (.int .i64 v.1)
  have h2 := h1.1.stored (i * 2 + 1) (.int .i64 v.2)
  have hg := grown_trans h1.2 h2.2
  have hcs : cs.ownBlock = none ∨ cs.ownBlock ≠ some G := by
    cases hc : cs.ownBlock with
    | none => exact Or.inl rfl
    | some b => exact Or.inr (fun h => by have := (H.rowC.lt b hc).1; have := Option.some.inj h; omega)
  refine ⟨gcell hg H.boxL (by simp; omega), gcell hg H.boxO (by simp), by rw [flatF_set O i v (by omega)]; exact h2.1, H.rowF.kept hg (Or.inr (by show some (G + 2) ≠ some G; simp)), gcell hg H.boxC (by simp), gfroz hg H.boxC H.freeC (by simp), H.rowC.kept hg hcs, H.fr.grown hg H.fr.size (fun k hk => by have := Option.some.inj hk; omega), hb, Nat.le_trans H.hB.2 hg.size⟩
/-- An agent is free at another time. -/
theorem PlayR.setF (H : PlayR w a n cap m G cs ys F O wr) (j : Nat) (v : Int) : PlayR w a n cap m G cs ys (F.set j v) O (wr.setCell ⟨G + 2, j, none⟩ (.int .i64 v)) := by
  have hb := H.hB.1
  have hg : wr.grownBy (wr.setCell ⟨G + 2, j, none⟩ (.int .i64 v)) (some (G + 2)) := grown_setCells (G + 2) [.int .i64 v] wr j
  have hcs : cs.ownBlock = none ∨ cs.ownBlock ≠ some (G + 2) := by
    cases hc : cs.ownBlock with
    | none => exact Or.inl rfl
    | some b => exact Or.inr (fun h => by have := (H.rowC.lt b hc).1; have := Option.some.inj h; omega)
  refine ⟨gcell hg H.boxL (by simp; omega), gcell hg H.boxO (by simp), H.rowO.kept hg (Or.inr (by show some G ≠ some (G + 2); simp)), owns_set H.rowF j v, gcell hg H.boxC (by simp), gfroz hg H.boxC H.freeC (by simp), H.rowC.kept hg hcs, H.fr.grown hg H.fr.size (fun k hk => by have := Option.some.inj hk; omega), hb, Nat.le_trans H.hB.2 hg.size⟩
/-- The rest is written where nobody waits. -/
theorem PlayAt.with (H : PlayAt w a n cap m G cs ys F O wv wait wr) {F' : List Int} {O' : List R2} (h : PlayR w a n cap m G cs ys F' O' wr') (hk : ∀ g, G + 4 ≤ g → g < wr.heap.size → wr'.heap[g]? = wr.heap[g]?) : PlayAt w a n cap m G cs ys F' O' wv wait wr' :=
  ⟨h, H.tail.kept (fun g hg => hk g (H.tail.lt g hg).1 (H.tail.lt g hg).2), H.apart⟩
theorem PlayR.cellO (H : PlayR w a n cap m G cs ys F O wr) {i : Nat} (hi : i < n) : ((∃ v, wr.cell? ⟨G, i * 2, none⟩ = some v) ∧ wr.frozen? ⟨G, i * 2, none⟩ = false) ∧ (∃ v, wr.cell? ⟨G, i * 2 + 1, none⟩ = some v) ∧ wr.frozen? ⟨G, i * 2 + 1, none⟩ = false := by
  have hol := H.olen
  obtain ⟨a', c', h1, h2, _⟩ := elems_of_owns (enc := encF) (fun _ => rfl) hol.symm H.rowO
  obtain ⟨rfl, _, _⟩ := Value.slice.inj h1
  obtain ⟨b, o, hbo, hc⟩ := h2.some (show i < O.length by omega)
  obtain ⟨rfl, rfl⟩ : G = b ∧ 0 = o := by simpa using hbo
  have c1 := hc i (by omega) 0 _ rfl
  have c2 := hc i (by omega) 1 _ rfl
  simp only [Nat.zero_add, Nat.add_zero] at c1 c2
  exact ⟨⟨⟨_, c1⟩, H.rowO.frozenAt _⟩, ⟨_, c2⟩, H.rowO.frozenAt _⟩
theorem PlayR.cellF (H : PlayR w a n cap m G cs ys F O wr) {j : Nat} (hj : j < F.length) : wr.cell? ⟨G + 2, j, none⟩ = some (.int .i64 F[j]) ∧ wr.frozen? ⟨G + 2, j, none⟩ = false :=
  ⟨owns_get H.rowF j (by rw [← H.flen]; exact hj) hj, H.rowF.frozenAt j⟩
end
end Go.Proofs.YtannijeiecmjpaaDoor
