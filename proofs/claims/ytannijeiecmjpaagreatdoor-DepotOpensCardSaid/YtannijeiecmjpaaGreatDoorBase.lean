/- Plain words on slices that lie in memory: a slice's elements in the order of a list, in any world; that they stay where memory below is as it was; how what a call appends is such a slice. No program in sight. -/
import Derived.WalkKit
import Derived.WalkSpells
import Derived.Deep.QuietTactic
import Derived.BigQuiet
import Derived.Outline
import Derived.Lib.Hide
import Derived.StillTailTactics
import Derived.Deep.RegionHeld3
import Derived.Deep.AppendLies
namespace Go.Proofs.YtannijeiecmjpaaGreatDoor
open Go.RowKit

/-- The elements xs, each of k cells by enc, lie from the address on. -/
def Elems {α : Type} (enc : α → List Value) (k : Nat) (w : World) (a : Option Addr) (xs : List α) : Prop :=
  xs = [] ∨ ∃ b o, a = some ⟨b, o, none⟩ ∧ ∀ j (h : j < xs.length) i u, (enc xs[j])[i]? = some u → w.cell? ⟨b, o + j * k + i, none⟩ = some u

theorem lt_of_cell {w : World} {a : Addr} {v : Value} (h : w.cell? a = some v) : a.block < w.heap.size := by
  rcases Nat.lt_or_ge a.block w.heap.size with h' | h'
  · exact h'
  · simp [World.cell?, Array.getElem?_eq_none h'] at h

theorem Elems.below {α : Type} {enc : α → List Value} {k : Nat} {w w' : World} {a : Option Addr} {xs : List α} (h : Elems enc k w a xs) {B : Nat} (hb : Below B w w') (hB : w.heap.size ≤ B) : Elems enc k w' a xs := by
  rcases h with rfl | ⟨b, o, rfl, h⟩
  · exact Or.inl rfl
  · refine Or.inr ⟨b, o, rfl, fun j hj i u hu => ?_⟩
    have h1 := h j hj i u hu
    exact (hb.cell (p := ⟨b, o + j * k + i, none⟩) (Nat.lt_of_lt_of_le (lt_of_cell h1) hB)).trans h1

theorem Elems.drewN {α : Type} {enc : α → List Value} {k : Nat} {w : World} {a : Option Addr} {xs : List α} (h : Elems enc k w a xs) (n : Nat) : Elems enc k (w.drewN n) a xs := h

/-- The block and the place of a slice that is not empty. -/
theorem Elems.some {α : Type} {enc : α → List Value} {k : Nat} {w : World} {a : Option Addr} {xs : List α} (h : Elems enc k w a xs) {j : Nat} (hj : j < xs.length) :
    ∃ b o, a = Option.some ⟨b, o, none⟩ ∧ ∀ j (h : j < xs.length) i u, (enc xs[j])[i]? = Option.some u → w.cell? ⟨b, o + j * k + i, none⟩ = Option.some u := by
  rcases h with rfl | h
  · simp at hj
  · exact h

theorem below_drewN (w : World) (n : Nat) (B : Nat) : Below B w (w.drewN n) := ⟨rfl, rfl, rfl, Nat.le_refl _, fun _ _ => rfl⟩

theorem below_next {a b c : World} (h : Below a.heap.size a b) (k : Below b.heap.size b c) : Below a.heap.size a c := h.trans (k.mono h.size)
theorem Elems.at {α : Type} {enc : α → List Value} {k : Nat} {w w' : World} {a : Option Addr} {xs : List α} (h : Elems enc k w a xs) (hb : Below w.heap.size w w') : Elems enc k w' a xs := h.below hb (Nat.le_refl _)

theorem below_drewN' {B : Nat} {a w : World} (h : Below B a w) (n : Nat) : Below B a (w.drewN n) := h.trans (below_drewN w n B)

theorem flat_get {α : Type} (enc : α → List Value) (k : Nat) (hk : ∀ x, (enc x).length = k) : ∀ (xs : List α) (j : Nat) (h : j < xs.length) (i : Nat) (u : Value), (enc xs[j])[i]? = some u → (xs.flatMap enc)[j * k + i]? = some u := by
  intro xs
  induction xs with
  | nil => intro j h; simp at h
  | cons x xs ih =>
    intro j h i u hu
    rcases j with _ | j
    · simp only [List.getElem_cons_zero] at hu
      have hi : i < (enc x).length := by
        rcases Nat.lt_or_ge i (enc x).length with h' | h'
        · exact h'
        · rw [List.getElem?_eq_none h'] at hu; cases hu
      simp only [List.flatMap_cons, Nat.zero_mul, Nat.zero_add]
      rw [List.getElem?_append_left hi]; exact hu
    · simp only [List.getElem_cons_succ] at hu
      have := ih j (by simpa using h) i u hu
      simp only [List.flatMap_cons]
      rw [List.getElem?_append_right (by rw [hk x, Nat.succ_mul]; omega), hk x]
      rw [show (j + 1) * k + i - k = j * k + i by rw [Nat.succ_mul]; omega]
      exact this

/-- What a call has appended element by element is a slice of them. -/
theorem elems_of_owns {α : Type} {enc : α → List Value} {k : Nat} (hk : ∀ x, (enc x).length = k) {w : World} {base e : Nat} {v : Value} {n : Nat} {xs : List α} (hn : n = xs.length)
    (h : w.ownsRow base e k v n (xs.flatMap enc)) : ∃ a cap, v = .slice a xs.length cap ∧ Elems enc k w a xs ∧ n ≤ cap := by
  subst hn
  rcases h.2 with ⟨rfl, h0⟩ | ⟨g, cap, cur, rfl, hg, hh, hc, hm, hs, ht⟩
  · exact ⟨none, 0, by rw [h0], Or.inl (List.eq_nil_of_length_eq_zero h0), by omega⟩
  · refine ⟨_, cap, rfl, Or.inr ⟨g, 0, rfl, fun j hj i u hu => ?_⟩, hc⟩
    have h1 := flat_get enc k hk xs j hj i u hu
    have h2 := h.cells (g := g) rfl (j * k + i) u h1
    have h3 : (⟨g, 0, none⟩ : Addr).add (j * k + i) = ⟨g, 0 + j * k + i, none⟩ := by
      unfold Addr.add
      split
      · rename_i h0; simp only [Nat.zero_add, h0]
      · simp only [Nat.zero_add]
    rw [h3] at h2
    exact h2

/-- Integers. -/
abbrev encI (x : Int) : List Value := [.int .i64 x]
abbrev encB (x : Bool) : List Value := [.bool x]
abbrev R3 := Int × Int × Int
abbrev enc3 (x : R3) : List Value := [.int .i64 x.1, .int .i64 x.2.1, .int .i64 x.2.2]
abbrev encS (x : Option Addr × Nat × Nat) : List Value := [.slice x.1 x.2.1 x.2.2]

theorem enc3_one (x : R3) : ∀ u ∈ enc3 x, u.oneCell' = true := by
  intro u hu; simp [enc3] at hu; rcases hu with rfl | rfl | rfl <;> rfl
theorem encI_one (x : Int) : ∀ u ∈ encI x, u.oneCell' = true := by
  intro u hu; simp [encI] at hu; subst hu; rfl
theorem encS_one (x : Option Addr × Nat × Nat) : ∀ u ∈ encS x, u.oneCell' = true := by
  intro u hu; simp [encS] at hu; subst hu; rfl
theorem flatMap_encI (xs : List Int) : xs.flatMap encI = xs.map (Value.int .i64) := by
  induction xs with
  | nil => rfl
  | cons x xs ih => rw [List.flatMap_cons, ih]; rfl

theorem ints_of_owns {w : World} {base e : Nat} {v : Value} {n : Nat} {xs : List Int} (hn : n = xs.length)
    (h : w.ownsRow base e 1 v n (xs.map (Value.int .i64))) : ∃ a cap, v = .slice a xs.length cap ∧ Elems encI 1 w a xs ∧ n ≤ cap :=
  elems_of_owns (enc := encI) (fun _ => rfl) hn (by rw [flatMap_encI]; exact h)

/-- One record more is appended to a slice of the call's own: the record lies in a block that was laid for it. -/
theorem wpList_append_rec {P : Program} (w : World) {ops : Array Oper} {rest : List Oper} {o : Oper} {a : Act} {Q : Exit → Act → World → Prop} (hgd : o.guard = none) (s x : Operand) (t : TypeId)
    (ho : o.op = .call { callee := .builtin .append, args := #[s, x], argTypes := #[t, t] })
    (base : Nat) (e : TypeId) (i : TypeInfo) (z : Value) (size bytes : Nat) (ht : P.underlying t = some (.slice e)) (hi : P.info? e = some i) (hz : i.zero = some z)
    (hsize : i.size = size) (hby : i.bytes = bytes) (hzs : z.cells.size = size) (hsz : 0 < size)
    (v : Value) (n : Nat) (xs : List Value) (hs : a.eval s = v) (hown : w.ownsRow base e size v n xs)
    (news : List Value) (hx : a.eval x = .slice (some ⟨w.heap.size, 0, none⟩) 1 1) (hl : news.length = size) (h1 : ∀ u ∈ news, u.oneCell' = true)
    (h63 : n + 1 ≤ maxLen) (hbytes : (n + 1) * bytes ≤ 140737488355328) (hbase : base ≤ w.heap.size)
    (h : ∀ v' w', w'.ownsRow base e size v' (n + 1) (xs ++ news) → Below base w w' → wpList P ops Q rest (a.put o.dst v') w') :
    wpList P ops Q (o :: rest) a (w.alloc (.cells news.toArray e)) := by
  refine wpList_append_own (w.alloc (.cells news.toArray e)) hgd s x t ho base e i z size bytes ht hi hz hsize hby hzs hsz v n xs hs (hown.alloc _) ⟨w.heap.size, 0, none⟩ 1 1 news hx (by rw [hl, Nat.one_mul]) ?_ h1 h63 hbytes (by simp; omega) ?_
  · intro j u hj
    have hadd : (⟨w.heap.size, 0, none⟩ : Addr).add j = ⟨w.heap.size, j, none⟩ := by unfold Addr.add; split <;> simp_all
    rw [hadd]
    show (match (w.heap.push (.cells news.toArray e))[w.heap.size]? with | some (.cells c _ _) => if (none : Option Nat).isSome then none else c[j]? | _ => none) = some u
    rw [Array.getElem?_push_size]
    simpa using hj
  · intro v' w' h2 h3 h4
    refine h v' w' h2 ?_
    refine Below.grown (w := w.alloc (.cells news.toArray e)) ((Below.refl _ _).alloc hbase _) h3 (by simp; omega) ?_
    intro k hk
    exact (hown.lt k hk).1

/-- What a call owns stays owned where its block's number is below B and memory below B is as it was. -/
theorem owns_below {w w' : World} {base e size n B : Nat} {v : Value} {xs : List Value} (h : w.ownsRow base e size v n xs) (hb : Below B w w') (hB : ∀ g, v.ownBlock = some g → g < B) : w'.ownsRow base e size v n xs := by
  refine ⟨h.1, ?_⟩
  rcases h.2 with hn | ⟨g, cap, cur, rfl, hg, hh, r⟩
  · exact Or.inl hn
  · exact Or.inr ⟨g, cap, cur, rfl, hg, by rw [hb.block g (hB g rfl)]; exact hh, r⟩
theorem owns_at {w w' : World} {base e size n : Nat} {v : Value} {xs : List Value} (h : w.ownsRow base e size v n xs) (hb : Below w.heap.size w w') : w'.ownsRow base e size v n xs :=
  owns_below h hb (fun g hg => (h.lt g hg).2)

/-- The same at a step of a region that draws its order; the record's block B is known whole. -/
theorem step_append_rec {P : Program} {w : World} {ops : Array Oper} {o : Oper} {a : Act} {K : Act → World → Prop} {Q : Exit → Act → World → Prop} {E : Prop} (hgd : o.guard = none) (s x : Operand) (t : TypeId)
    (ho : o.op = .call { callee := .builtin .append, args := #[s, x], argTypes := #[t, t] })
    (base : Nat) (e : TypeId) (i : TypeInfo) (z : Value) (size bytes : Nat) (ht : P.underlying t = some (.slice e)) (hi : P.info? e = some i) (hz : i.zero = some z)
    (hsize : i.size = size) (hby : i.bytes = bytes) (hzs : z.cells.size = size) (hsz : 0 < size)
    (v : Value) (n : Nat) (xs : List Value) (hs : a.eval s = v) (hown : w.ownsRow base e size v n xs)
    (B : Nat) (news : List Value) (hB : w.heap[B]? = some (.cells news.toArray e (0, 0))) (hx : a.eval x = .slice (some ⟨B, 0, none⟩) 1 1) (hl : news.length = size) (h1 : ∀ u ∈ news, u.oneCell' = true)
    (h63 : n + 1 ≤ maxLen) (hbytes : (n + 1) * bytes ≤ 140737488355328) (hbase : base ≤ w.heap.size)
    (h : ∀ v' w', w'.ownsRow base e size v' (n + 1) (xs ++ news) → Below base w w' → K (a.put o.dst v') w') :
    if Region.wanted o (yielded ops a.tmps) = true then Oper.wp P o a w K Q else E := by
  have hw : Region.wanted o (yielded ops a.tmps) = true := by simp [Region.wanted, hgd]
  rw [if_pos hw]
  refine wp_append_own w s x t ho base e i z size bytes ht hi hz hsize hby hzs hsz v n xs hs hown ⟨B, 0, none⟩ 1 1 news hx (by rw [hl, Nat.one_mul]) ?_ h1 h63 hbytes hbase ?_
  · exact World.news_of_block (cs := news.toArray) hB
  · intro v' w' h2 h3 h4
    exact h v' w' h2 (Below.grown (Below.refl _ _) h3 hbase (fun k hk => (hown.lt k hk).1))

theorem take_flat {α : Type} (enc : α → List Value) (xs : List α) (k : Nat) (h : k < xs.length) : (xs.take k).flatMap enc ++ enc xs[k] = (xs.take (k + 1)).flatMap enc := by
  rw [List.take_succ_eq_append_getElem h, List.flatMap_append]
  simp

theorem foldl_take {α β : Type} (f : β → α → β) (b : β) (xs : List α) (k : Nat) (h : k < xs.length) : (xs.take (k + 1)).foldl f b = f ((xs.take k).foldl f b) xs[k] := by
  rw [List.take_succ_eq_append_getElem h, List.foldl_append]
  rfl

/-- A row of integers of the call's own: read, written. -/
theorem owns_get {w : World} {base e g n cap : Nat} {E : List Int} (h : w.ownsRow base e 1 (.slice (some ⟨g, 0, none⟩) n cap) n (E.map (Value.int .i64))) (j : Nat) (hj : j < n) (hE : j < E.length) :
    w.cell? ⟨g, j, none⟩ = some (.int .i64 E[j]) := by
  rw [h.cellAt j (by omega), List.getElem?_map, List.getElem?_eq_getElem hE]
  rfl
theorem owns_set {w : World} {base e g n cap : Nat} {E : List Int} (h : w.ownsRow base e 1 (.slice (some ⟨g, 0, none⟩) n cap) n (E.map (Value.int .i64))) (j : Nat) (u : Int) :
    (w.setCell ⟨g, j, none⟩ (.int .i64 u)).ownsRow base e 1 (.slice (some ⟨g, 0, none⟩) n cap) n ((E.set j u).map (Value.int .i64)) := by
  rw [List.map_set]
  exact (h.stored j (.int .i64 u)).1
theorem owns_len {w : World} {base e n : Nat} {v : Value} {E : List Int} (h : w.ownsRow base e 1 v n (E.map (Value.int .i64))) : E.length = n := by
  have := h.1
  simpa using this
theorem owns_base {w : World} {base e g n cap size : Nat} {xs : List Value} (h : w.ownsRow base e size (.slice (some ⟨g, 0, none⟩) n cap) n xs) : base ≤ g ∧ g < w.heap.size := h.lt g rfl
theorem made_ints (n : Nat) : (madeCells #[Value.int .i64 0] n).toList = (List.replicate n (0 : Int)).map (Value.int .i64) := by
  rw [List.map_replicate]
  exact toList_madeCells_one _ _

/-- A cell that is there stays there behind a new block. -/
theorem cell_a1 {w : World} {p : Addr} {v : Value} (h : w.cell? p = some v) (o : Obj) : (w.alloc o).cell? p = some v :=
  (((Below.refl w.heap.size w).alloc (Nat.le_refl _) o).cell (lt_of_cell h)).trans h
theorem cell_a2 {w : World} {p : Addr} {v : Value} (h : w.cell? p = some v) (o o2 : Obj) : ((w.alloc o).alloc o2).cell? p = some v := cell_a1 (cell_a1 h o) o2
theorem cell_a3 {w : World} {p : Addr} {v : Value} (h : w.cell? p = some v) (o o2 o3 : Obj) : (((w.alloc o).alloc o2).alloc o3).cell? p = some v := cell_a1 (cell_a2 h o o2) o3
theorem frozen_a1 {w : World} {p : Addr} (hl : p.block < w.heap.size) (h : w.frozen? p = false) (o : Obj) : (w.alloc o).frozen? p = false :=
  (((Below.refl w.heap.size w).alloc (Nat.le_refl _) o).frozen hl).trans h
theorem frozen_a2 {w : World} {p : Addr} (hl : p.block < w.heap.size) (h : w.frozen? p = false) (o o2 : Obj) : ((w.alloc o).alloc o2).frozen? p = false :=
  frozen_a1 (by simp; omega) (frozen_a1 hl h o) o2
theorem frozen_a3 {w : World} {p : Addr} (hl : p.block < w.heap.size) (h : w.frozen? p = false) (o o2 o3 : Obj) : (((w.alloc o).alloc o2).alloc o3).frozen? p = false :=
  frozen_a1 (by simp; omega) (frozen_a2 hl h o o2) o3

theorem getD_lt {E : List Int} {j : Nat} (h : j < E.length) : E.getD j 0 = E[j] := by simp [List.getD, h]

/-- An operation of a drawn region is taken first (it runs in every world that meets S); the operation is read off the list. -/
theorem take_yes {P : Program} {ops : Array Oper} {Q : Exit → Act → World → Prop} {md : Region.Mode} {S : World → Prop} {i : Nat} {oi : Oper} {v : Value} {fuel : Nat} {listed : Array Bool} {a : Act} {w : World} (hi : ops.toList[i]? = some oi)
    (hs : Region.noSelect ops = true) (hf : Region.free md ops listed i = true) (hr : (Region.ready md ops listed).contains i = true)
    (hQ : ∀ c a w, Q (.panic c) (a.put oi.dst v) w → Q (.panic c) a w) (hw : Region.wanted oi (yielded ops a.tmps) = true) (hS : S w) (hy : ∀ w, S w → (execOp a.eval oi).run P w = .ok (.value v) w)
    (h : wpAnyH P md ops Q S fuel (listed.setIfInBounds i true) (a.put oi.dst v) w) : wpAnyH P md ops Q S (fuel + 1) listed a w :=
  wpAnyH_take (by rw [← Array.getElem?_toList]; exact hi) hs hf hr hQ (Or.inl ⟨hw, hy⟩) hS h
/-- One that is guarded and not wanted. -/
theorem take_no {P : Program} {ops : Array Oper} {Q : Exit → Act → World → Prop} {md : Region.Mode} {S : World → Prop} {i : Nat} {oi : Oper} {fuel : Nat} {listed : Array Bool} {a : Act} {w : World} (hi : ops.toList[i]? = some oi)
    (hs : Region.noSelect ops = true) (hf : Region.free md ops listed i = true) (hr : (Region.ready md ops listed).contains i = true)
    (hQ : ∀ c a w, Q (.panic c) (a.put oi.dst undef) w → Q (.panic c) a w) (hw : Region.wanted oi (yielded ops a.tmps) = false) (hS : S w)
    (h : wpAnyH P md ops Q S fuel (listed.setIfInBounds i true) (a.put oi.dst undef) w) : wpAnyH P md ops Q S (fuel + 1) listed a w :=
  wpAnyH_take (by rw [← Array.getElem?_toList]; exact hi) hs hf hr hQ (Or.inr ⟨hw, rfl⟩) hS h
/-- One that is loud: it alone may come up. -/
theorem take_loud {P : Program} {ops : Array Oper} {Q : Exit → Act → World → Prop} {md : Region.Mode} {S : World → Prop} {i : Nat} {oi : Oper} {fuel : Nat} {listed : Array Bool} {a : Act} {w : World} (hi : ops.toList[i]? = some oi)
    (hr : Region.ready md ops listed = [i])
    (h : ∀ K' : Act → World → Prop, Shut (∀ a w, S w → (S w → wpAnyH P md ops Q S fuel (listed.setIfInBounds i true) a w) → K' a w) → if Region.wanted oi (yielded ops a.tmps) = true then Oper.wp P oi a w K' Q else K' (a.put oi.dst undef) w) :
    wpAnyH P md ops Q S (fuel + 1) listed a w :=
  wpAnyH_ready hr (by simp) (AllReadyH.cons (by rw [← Array.getElem?_toList]; exact hi) h AllReadyH.nil)

theorem ret_bool {a b : Bool} (h : a = b) : Ending.returned (.bool a) = .returned (.bool b) := by rw [h]
theorem ret_int {a b : Int} (h : a = b) : Ending.returned (.int .i64 a) = .returned (.int .i64 b) := by rw [h]
end Go.Proofs.YtannijeiecmjpaaGreatDoor
