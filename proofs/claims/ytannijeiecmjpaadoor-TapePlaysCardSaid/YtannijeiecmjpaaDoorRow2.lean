/- One more is appended to a row of the call's own, and what becomes of the other rows of its own: which block was written is told. No program in sight. -/
import Derived.Test.YtannijeiecmjpaaDoorRow
import Derived.OwnWalk
import Derived.ArgAppend
namespace Go.Proofs.YtannijeiecmjpaaDoor
open Go.RowKit

/-- Two rows lie in blocks of their own. -/
def Apart (v u : Value) : Prop := u.ownBlock = none ∨ u.ownBlock ≠ v.ownBlock
theorem app_row2 {P : Program} {w : World} {ops : Array Oper} {rest : List Oper} {o : Oper} {a : Act} {Q : Exit → Act → World → Prop} {t e : TypeId} {z : Value} {size bytes : Nat} (R : RowOf P t e z size bytes) (hgd : o.guard = none) (s x : Operand)
    (ho : o.op = .call { callee := .builtin .append, args := #[s, x], argTypes := #[t, t] }) (base : Nat)
    {v : Value} {n : Nat} {xs : List Value} (hs : a.eval s = v) (hown : w.ownsRow base e size v n xs)
    (news : List Value) {H : Nat} (hx : a.eval x = .slice (some ⟨H, 0, none⟩) 1 1) (hH : w.heap.size = H) (hl : news.length = size) (h1 : ∀ u ∈ news, u.oneCell' = true)
    (h63 : n + 1 ≤ maxLen) (hbytes : (n + 1) * bytes ≤ 140737488355328) (hbase : base ≤ w.heap.size)
    (h : ∀ v' w', w'.ownsRow base e size v' (n + 1) (xs ++ news) → w.grownBy w' v.ownBlock → (v'.ownBlock = v.ownBlock ∨ ∀ g, v'.ownBlock = some g → w.heap.size ≤ g) → wpList P ops Q rest (a.put o.dst v') w') :
    wpList P ops Q (o :: rest) a (w.alloc (.cells news.toArray e)) := by
  subst hH
  obtain ⟨i, ht, hi, hz, hsize, hby, hzs, hsz⟩ := R
  have hnew : ∀ j u, news[j]? = some u → (w.alloc (.cells news.toArray e)).cell? ((⟨w.heap.size, 0, none⟩ : Addr).add j) = some u := by
    intro j u hj
    have hadd : (⟨w.heap.size, 0, none⟩ : Addr).add j = ⟨w.heap.size, j, none⟩ := by unfold Addr.add; split <;> simp_all
    rw [hadd]
    show (match (w.heap.push (.cells news.toArray e))[w.heap.size]? with | some (.cells c _ _) => if (none : Option Nat).isSome then none else c[j]? | _ => none) = some u
    rw [Array.getElem?_push_size]
    simpa using hj
  have hga : ∀ row, w.grownBy (w.alloc (.cells news.toArray e)) row := fun row => World.grownBy_alloc w _ row
  have htr : ∀ {row w'}, (w.alloc (.cells news.toArray e)).grownBy w' row → w.grownBy w' row := fun {row w'} k =>
    ⟨k.os.trans (hga row).os, k.tape.trans (hga row).tape, k.output.trans (hga row).output, Nat.le_trans (hga row).size k.size, fun j hj hne => (k.block j (Nat.lt_of_lt_of_le hj (hga row).size) hne).trans ((hga row).block j hj hne)⟩
  have howna := hown.alloc (.cells news.toArray e)
  by_cases hroom : ∃ g cap, v = .slice (some ⟨g, 0, none⟩) n cap ∧ n + 1 ≤ cap
  · obtain ⟨g, cap, rfl, hr⟩ := hroom
    refine wpList_append_fits _ hgd s x t ho base e i size ht hi hsize g n cap xs hs howna ⟨w.heap.size, 0, none⟩ 1 1 news hx (by rw [hl, Nat.one_mul]) hnew h1 hr ?_
    intro w' k1 k2
    exact h _ w' k1 (htr k2) (Or.inl rfl)
  · obtain ⟨ao, cap, rfl, hfull, hnone⟩ : ∃ ao cap, v = .slice ao n cap ∧ cap < n + 1 ∧ (ao = none → n = 0 ∧ cap = 0) := by
      rcases hown.2 with ⟨h2, h3⟩ | ⟨g, cap, cur, h2, _, _, h4, _⟩
      · exact ⟨none, 0, by rw [h2, h3], by omega, fun _ => ⟨h3, rfl⟩⟩
      · refine ⟨_, cap, h2, ?_, fun h => by cases h⟩
        rcases Nat.lt_or_ge cap (n + 1) with g1 | g1
        · exact g1
        · exact absurd ⟨g, cap, h2, g1⟩ hroom
    refine wpList_append_grows _ hgd s x t ho e i z size bytes ht hi hz hsize hby hzs hsz ao n cap xs hs hnone hown.1 ?_ ⟨w.heap.size, 0, none⟩ 1 1 news hx (by rw [hl, Nat.one_mul]) hnew h1 hfull h63 hbytes ?_
    · intro b hb j u hj
      subst hb
      rcases hown.2 with ⟨h2, _⟩ | ⟨g, cap', cur, h2, _⟩
      · cases h2
      · obtain ⟨h3, _, _⟩ := Value.slice.inj h2
        cases h3
        exact howna.cells (g := g) rfl j u hj
    · intro v' w' k1 k2
      have hk : w'.ownsRow base e size v' (n + 1) (xs ++ news) := by
        refine ⟨k1.1, ?_⟩
        rcases k1.2 with k3 | ⟨g, c, cur, k3, k4, k5⟩
        · exact Or.inl k3
        · exact Or.inr ⟨g, c, cur, k3, by simp at k4; omega, k5⟩
      refine h v' w' hk (htr ⟨k2.os, k2.tape, k2.output, k2.size, fun j hj _ => k2.block j hj (by simp)⟩) (Or.inr fun g hg => ?_)
      have := (k1.lt g hg).1
      simp at this
      omega
/-- The other row stays, and stays apart. -/
theorem apart_kept {w w' : World} {base e size n : Nat} {v v' u : Value} {xs : List Value} (h : w.ownsRow base e size u n xs) (ha : Apart v u) (hg : w.grownBy w' v.ownBlock) (hv : v'.ownBlock = v.ownBlock ∨ ∀ g, v'.ownBlock = some g → w.heap.size ≤ g) :
    w'.ownsRow base e size u n xs ∧ Apart v' u := by
  refine ⟨h.kept hg ha, ?_⟩
  rcases ha with h1 | h1
  · unfold Apart; exact Or.inl h1
  · unfold Apart
    rcases hv with h2 | h2
    · exact Or.inr (by rw [h2]; exact h1)
    · cases hb : u.ownBlock with
      | none => exact Or.inl rfl
      | some g =>
        refine Or.inr fun h3 => ?_
        have h4 := h2 g h3.symm
        have h5 := (h.lt g hb).2
        omega
theorem grown_below {w w' : World} {base : Nat} {v : Value} {e size n : Nat} {xs : List Value} (hown : w.ownsRow base e size v n xs) (hb : base ≤ w.heap.size) (hg : w.grownBy w' v.ownBlock) : Below base w w' :=
  (Below.refl _ _).grown hg hb (fun k hk => (hown.lt k hk).1)
end Go.Proofs.YtannijeiecmjpaaDoor
