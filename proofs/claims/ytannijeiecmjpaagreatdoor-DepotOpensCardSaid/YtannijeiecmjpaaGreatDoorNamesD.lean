/- The reference's row of names: put in order, one by one. No program in sight. -/
import Derived.Test.YtannijeiecmjpaaGreatDoorSameD
import Derived.Laws.CopyOwn
import Derived.Test.YtannijeiecmjpaaGreatDoorStepA
namespace Go.Proofs.YtannijeiecmjpaaGreatDoor
open Go.RowKit

/-- The names that are told after k moves. -/
structure OutOf (L : List MoveD) (k : Nat) (O : List Byt) : Prop where
  nodup : O.Nodup
  sorted : O.Pairwise (fun a b => a ≤ b)
  mem : ∀ x, x ∈ O ↔ haveM L x ≠ 0 ∧ ∃ m ∈ L.take k, m.1 = x
theorem out_zero (L : List MoveD) : OutOf L 0 [] := ⟨List.nodup_nil, List.Pairwise.nil, fun x => by simp⟩
theorem take_some {L : List MoveD} {k : Nat} (hk : k < L.length) (x : Byt) : (∃ m ∈ L.take (k + 1), m.1 = x) ↔ (∃ m ∈ L.take k, m.1 = x) ∨ L[k].1 = x := by
  rw [List.take_succ_eq_append_getElem hk]
  simp only [List.mem_append, List.mem_singleton]
  constructor
  · rintro ⟨m, h | rfl, rfl⟩
    · exact Or.inl ⟨m, h, rfl⟩
    · exact Or.inr rfl
  · rintro (⟨m, h, rfl⟩ | rfl)
    · exact ⟨m, Or.inl h, rfl⟩
    · exact ⟨_, Or.inr rfl, rfl⟩
/-- Nothing of it is there. -/
theorem out_none {L : List MoveD} {k : Nat} {O : List Byt} (h : OutOf L k O) (hk : k < L.length) (h0 : haveM L L[k].1 = 0) : OutOf L (k + 1) O :=
  ⟨h.nodup, h.sorted, fun x => by
    rw [h.mem x, take_some hk]
    constructor
    · rintro ⟨a, b⟩
      exact ⟨a, Or.inl b⟩
    · rintro ⟨a, b | rfl⟩
      · exact ⟨a, b⟩
      · exact absurd h0 a⟩
/-- It is told already. -/
theorem out_told {L : List MoveD} {k : Nat} {O : List Byt} (h : OutOf L k O) (hk : k < L.length) (h0 : L[k].1 ∈ O) : OutOf L (k + 1) O :=
  ⟨h.nodup, h.sorted, fun x => by
    rw [h.mem x, take_some hk]
    constructor
    · rintro ⟨a, b⟩
      exact ⟨a, Or.inl b⟩
    · rintro ⟨a, b | rfl⟩
      · exact ⟨a, b⟩
      · exact ⟨a, ((h.mem _).1 h0).2⟩⟩
/-- A text put in at i. -/
def insAt (O : List Byt) (i : Nat) (t : Byt) : List Byt := O.take i ++ t :: O.drop i
theorem insAt_length {O : List Byt} {i : Nat} (t : Byt) (hi : i ≤ O.length) : (insAt O i t).length = O.length + 1 := by
  unfold insAt
  rw [List.length_append, List.length_cons, List.length_take, List.length_drop]
  omega
theorem not_told {O : List Byt} {i : Nat} {t : Byt} (hs : O.Pairwise (fun a b => a ≤ b)) (hb : ∀ j (hj : j < O.length), j < i → O[j] < t) (ha : ∀ h : i < O.length, ¬ O[i] < t ∧ O[i] ≠ t) : t ∉ O := by
  intro hm
  obtain ⟨l, hl, rfl⟩ := List.getElem_of_mem hm
  by_cases hli : l < i
  · exact List.lt_irrefl _ (hb l hl hli)
  · have hi : i < O.length := by omega
    obtain ⟨h1, h2⟩ := ha hi
    have h3 := List.not_lt.1 h1
    by_cases e : l = i
    · subst e
      exact h2 rfl
    · have h4 := List.pairwise_iff_getElem.1 hs i l hi hl (by omega)
      exact h2 (List.le_antisymm h4 h3)
theorem out_ins {L : List MoveD} {k i : Nat} {O : List Byt} (h : OutOf L k O) (hk : k < L.length) (h0 : haveM L L[k].1 ≠ 0) (hi : i ≤ O.length) (hb : ∀ j (hj : j < O.length), j < i → O[j] < L[k].1) (ha : ∀ h : i < O.length, ¬ O[i] < L[k].1 ∧ O[i] ≠ L[k].1) : OutOf L (k + 1) (insAt O i L[k].1) := by
  have hnm := not_told h.sorted hb ha
  have hp : (insAt O i L[k].1).Perm (L[k].1 :: O) := by
    unfold insAt
    refine List.perm_middle.trans ?_
    rw [List.take_append_drop]
  refine ⟨hp.nodup_iff.2 (List.nodup_cons.2 ⟨hnm, h.nodup⟩), ?_, fun x => ?_⟩
  · unfold insAt
    have h5 := h.sorted
    rw [← List.take_append_drop i O] at h5
    obtain ⟨s1, s2, s3⟩ := List.pairwise_append.1 h5
    have hbt : ∀ a ∈ O.take i, a ≤ L[k].1 := fun a hm => by
      obtain ⟨j, hj, rfl⟩ := List.getElem_of_mem hm
      rw [List.length_take] at hj
      rw [List.getElem_take]
      exact List.le_of_lt (hb j (by omega) (by omega))
    have hat : ∀ b ∈ O.drop i, L[k].1 ≤ b := fun b hm => by
      obtain ⟨j, hj, rfl⟩ := List.getElem_of_mem hm
      rw [List.length_drop] at hj
      rw [List.getElem_drop]
      have hio : i < O.length := by omega
      have h3 := List.not_lt.1 (ha hio).1
      rcases Nat.eq_zero_or_pos j with e | e
      · subst e; exact h3
      · exact List.le_trans h3 (List.pairwise_iff_getElem.1 h.sorted i (i + j) hio (by omega) (by omega))
    refine List.pairwise_append.2 ⟨s1, List.pairwise_cons.2 ⟨hat, s2⟩, fun a hma b hmb => ?_⟩
    rcases List.mem_cons.1 hmb with rfl | hmb
    · exact hbt a hma
    · exact s3 a hma b hmb
  · rw [hp.mem_iff, List.mem_cons, h.mem x, take_some hk]
    constructor
    · rintro (rfl | ⟨a, b⟩)
      · exact ⟨h0, Or.inr rfl⟩
      · exact ⟨a, Or.inl b⟩
    · rintro ⟨a, b | rfl⟩
      · exact Or.inr ⟨a, b⟩
      · exact Or.inl rfl
theorem have_some {L : List MoveD} {x : Byt} (h : ¬ ∃ m ∈ L, m.1 = x) : haveM L x = 0 := by
  have key : ∀ k, k ≤ L.length → haveM (L.take k) x = 0 := by
    intro k
    induction k with
    | zero => intro _; simp [haveM]
    | succ k ih =>
      intro hk
      rw [have_take L x k (by omega), if_neg (fun e => h ⟨L[k], List.getElem_mem _, e⟩)]
      exact ih (by omega)
  have h2 := key L.length (Nat.le_refl _)
  rwa [List.take_length] at h2
theorem names_out {L : List MoveD} {O : List Byt} (h : OutOf L L.length O) : NamesOf L O :=
  ⟨h.nodup, fun x => by
    rw [h.mem x, List.take_length]
    exact ⟨fun h => h.1, fun h2 => ⟨h2, Classical.byContradiction fun h3 => h2 (have_some h3)⟩⟩, h.sorted⟩
theorem spliced {cur xs : List Value} {z u : Value} {i : Nat} (h : cur.take (xs.length + 1) = xs ++ [z]) (hi : i ≤ xs.length) : ((splice cur (i + 1) (xs.drop i)).take (xs.length + 1)).set i u = xs.take i ++ u :: xs.drop i := by
  have hl := congrArg List.length h
  rw [List.length_take, List.length_append, List.length_singleton] at hl
  have h1 : cur.take i = xs.take i := by
    have h2 : (cur.take (xs.length + 1)).take i = (xs ++ [z]).take i := by rw [h]
    rw [List.take_take, Nat.min_eq_left (by omega), List.take_append_of_le_length hi] at h2
    exact h2
  unfold splice
  rw [← List.append_assoc, List.take_left' (by rw [List.length_append, List.length_take, List.length_drop]; omega), List.take_succ_eq_append_getElem (show i < cur.length by omega), h1, List.append_assoc, List.set_append_right _ _ (by rw [List.length_take]; omega)]
  rw [List.length_take, Nat.min_eq_left hi, Nat.sub_self]
  rfl
/-- The block of an own row, whole. -/
theorem row_block {w : World} {base e : Nat} {v : Value} {n : Nat} {xs : List Value} (h : w.ownsRow base e 1 v n xs) (hn : 0 < n) :
    ∃ g cap cur, v = .slice (some ⟨g, 0, none⟩) n cap ∧ base ≤ g ∧ g < w.heap.size ∧ w.heap[g]? = some (.cells (List.toArray cur) e (0, 0)) ∧ n ≤ cap ∧ cap ≤ maxLen ∧ cur.length = cap ∧ cur.take n = xs := by
  have hlt := h.lt
  rcases h.2 with ⟨_, h0⟩ | ⟨g, cap, cur, rfl, hg, hh, hc, hm, hs, ht⟩
  · omega
  · exact ⟨g, cap, cur.toList, rfl, hg, (hlt g rfl).2, by simpa using hh, hc, hm, by simpa using hs, by simpa using ht⟩
theorem row_of_block {w : World} {base e g cap n : Nat} {cur xs : List Value} (hx : xs.length = n) (hg : base ≤ g) (hh : w.heap[g]? = some (.cells (List.toArray cur) e (0, 0))) (hc : n ≤ cap) (hm : cap ≤ maxLen) (hl : cur.length = cap) (ht : cur.take n = xs) :
    w.ownsRow base e 1 (.slice (some ⟨g, 0, none⟩) n cap) n xs :=
  ⟨by omega, .inr ⟨g, cap, cur.toArray, rfl, hg, hh, hc, hm, by simpa using hl, by simpa using ht⟩⟩
/-- A copy at a step of a region: no other block has turned. -/
theorem step_copy {P : Program} {ops : Array Oper} {o : Oper} {a : Act} {w : World} {K : Act → World → Prop} {Q : Exit → Act → World → Prop} {E : Prop} (hgd : o.guard = none) (d s : Operand) (dT sT : TypeId)
    (ho : o.op = .call { callee := .builtin .copy, args := #[d, s], argTypes := #[dT, sT] }) (elem : TypeId) (hu : P.underlying dT = some (.slice elem)) (hsz : (P.info? elem).map (·.size) = some 1)
    (dp sp : Option Addr) (dLen dCap sLen sCap : Nat) (hd : a.eval d = .slice dp dLen dCap) (hs : a.eval s = .slice sp sLen sCap)
    (g off : Nat) (cur : List Value) (t : TypeId) (hg : w.heap[g]? = some (.cells cur.toArray t (0, 0))) (cs : List Value) (hn : cs.length = Nat.min sLen dLen)
    (hpos : 0 < cs.length → dp = some ⟨g, off, none⟩ ∧ ∃ ad, sp = some ad ∧ ∀ j v, cs[j]? = some v → w.cell? (ad.add j) = some v)
    (hfit : off + cs.length ≤ cur.length) (h1 : ∀ v ∈ cs, v.oneCell' = true)
    (h : ∀ w', Hid (w'.heap[g]? = some (.cells (splice cur off cs).toArray t (0, 0))) → FrS (fun k => k = g) w w' → K (a.put o.dst (goInt cs.length)) w') :
    if Region.wanted o (yielded ops a.tmps) = true then Oper.wp P o a w K Q else E := by
  have hw : Region.wanted o (yielded ops a.tmps) = true := by simp [Region.wanted, hgd]
  rw [if_pos hw]
  by_cases h0 : cs.length = 0
  · obtain rfl : cs = [] := List.eq_nil_of_length_eq_zero h0
    have hrun := run_copy_none (P := P) w dT sT o.type elem dp sp dLen dCap sLen sCap hu hsz (by simpa using hn.symm)
    unfold Oper.wp
    simp [execOp, ho, resolve, invoke, builtin, hd, hs, hrun, Result.andThen]
    exact h w (show _ = _ by simpa [splice] using hg) (FrS.refl _ _)
  · obtain ⟨rfl, ad, rfl, hsrc⟩ := hpos (by omega)
    have hrun := run_copy_row (P := P) w dT sT o.type elem g off dLen dCap ad sLen sCap cur.toArray t cs hu hsz hg hn hsrc (by simpa using hfit) h1
    unfold Oper.wp
    simp [execOp, ho, resolve, invoke, builtin, hd, hs, hrun, Result.andThen]
    exact h _ (show _ = _ by simpa [splice] using setRow_heap w g _ _ t _ hg) ⟨rfl, rfl, rfl, by simp [World.setRow], fun k _ hk2 => setRow_other w g k _ (fun e => hk2 e)⟩
/-- One more, where the row lies then told. -/
theorem app_at {P : Program} {w : World} {ops : Array Oper} {rest : List Oper} {o : Oper} {a : Act} {Q : Exit → Act → World → Prop} {t e : TypeId} {z : Value} {size bytes : Nat} (R : RowOf P t e z size bytes) (hgd : o.guard = none) (s x : Operand)
    (ho : o.op = .call { callee := .builtin .append, args := #[s, x], argTypes := #[t, t] }) (base : Nat)
    {v : Value} {n : Nat} {xs : List Value} (hs : a.eval s = v) (hown : w.ownsRow base e size v n xs)
    (ad : Addr) (m c : Nat) (news : List Value) (hx : a.eval x = .slice (some ad) m c) (hl : news.length = m * size) (hnews : ∀ j u, news[j]? = some u → w.cell? (ad.add j) = some u) (h1 : ∀ u ∈ news, u.oneCell' = true)
    (h63 : n + m ≤ maxLen) (hbytes : (n + m) * bytes ≤ 140737488355328) (hbase : base ≤ w.heap.size)
    (h : ∀ ar cap w', w'.ownsRow base e size (.slice ar (n + m) cap) (n + m) (xs ++ news) → w.grownBy w' v.ownBlock → ((Value.slice ar (n + m) cap).ownBlock = v.ownBlock ∨ ∀ g, (Value.slice ar (n + m) cap).ownBlock = some g → w.heap.size ≤ g) → wpList P ops Q rest (a.put o.dst (.slice ar (n + m) cap)) w') :
    wpList P ops Q (o :: rest) a w := by
  refine wpList_plain hgd fun K' hK' => ?_
  obtain ⟨i, ht, hi, hz, hsize, hby, hzs, hsz⟩ := R
  obtain ⟨v', w', hr, h2, h3, _, h5⟩ := run_append_own_at (P := P) w base t o.type e i z size bytes ht hi hz hsize hby hzs hsz v n xs hown ad m c news hl hnews h1 h63 hbytes hbase
  obtain ⟨ar, cap, rfl⟩ := rowForm h2
  unfold Oper.wp execOp
  simp only [ho, resolve, invoke, builtin, Sem.run_bind, Sem.run_pure, Result.andThen_ok, List.map_toArray, List.map_cons, List.map_nil, hs, hx, hr]
  refine hK' _ _ (h ar cap w' h2 h3 ?_)
  rcases h5 with h5 | h5
  · exact Or.inl h5
  · exact Or.inr (fun g hg => by rw [h5] at hg; have := Option.some.inj hg; omega)
end Go.Proofs.YtannijeiecmjpaaGreatDoor
