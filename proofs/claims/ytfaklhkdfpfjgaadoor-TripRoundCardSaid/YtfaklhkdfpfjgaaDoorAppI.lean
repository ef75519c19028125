/- A whole slice of integers is appended to a row of the call's own. -/
import Derived.Test.YtfaklhkdfpfjgaaDoorRow
import Derived.Test.YtfaklhkdfpfjgaaDoorRows
import Derived.Laws.AppendOwnNone
namespace Go.Proofs.YtfaklhkdfpfjgaaDoor
open Go.RowKit
theorem rowAI : RowOf Tryd.prog 50 3 (.int .i64 0) 1 8 := rowOf Tryd.underlying50 (by kernel_rfl) rfl (by decide)
theorem newsI_of {w : World} {a : Addr} {xs : List Int} (h : Elems encI 1 w (some a) xs) : ∀ j u, (xs.map (Value.int .i64))[j]? = some u → w.cell? (a.add j) = some u := by
  intro j u hj
  rw [List.getElem?_map] at hj
  rcases Nat.lt_or_ge j xs.length with hl | hl
  · rw [List.getElem?_eq_getElem hl] at hj
    simp only [Option.map_some, Option.some.injEq] at hj
    obtain ⟨b, o, ha, hc⟩ := h.some hl
    simp only [Option.some.injEq] at ha
    subst ha
    have h3 := hc j hl 0 u (by rw [← hj]; rfl)
    simp only [Nat.add_zero, Nat.mul_one] at h3
    unfold Addr.add
    split
    · rename_i h0; rw [h0] at h3; exact h3
    · exact h3
  · rw [List.getElem?_eq_none hl] at hj; cases hj
theorem intsI_ones (xs : List Int) : ∀ u ∈ xs.map (Value.int .i64), u.oneCell' = true := by
  intro u hu
  obtain ⟨z, _, rfl⟩ := List.mem_map.1 hu
  rfl
/-- A whole slice is appended, a nil one too. -/
theorem app_allI {P : Program} {w : World} {ops : Array Oper} {rest : List Oper} {o : Oper} {a : Act} {Q : Exit → Act → World → Prop} {t e : TypeId} {z : Value} {bytes : Nat} (R : RowOf P t e z 1 bytes) (hgd : o.guard = none) (s x : Operand)
    (ho : o.op = .call { callee := .builtin .append, args := #[s, x], argTypes := #[t, t] }) (base : Nat)
    {v : Value} {n : Nat} {xs : List Value} (hs : a.eval s = v) (hown : w.ownsRow base e 1 v n xs)
    (a2 : Option Addr) (m c : Nat) (ys : List Int) (hx : a.eval x = .slice a2 m c) (hm : m = ys.length) (hn : a2 = none → c = 0) (he : Elems encI 1 w a2 ys)
    (h63 : n + m ≤ maxLen) (hbytes : (n + m) * bytes ≤ 140737488355328) (hbase : base ≤ w.heap.size)
    (h : ∀ v' w', w'.ownsRow base e 1 v' (n + m) (xs ++ ys.map (Value.int .i64)) → Below base w w' → wpList P ops Q rest (a.put o.dst v') w') :
    wpList P ops Q (o :: rest) a w := by
  obtain ⟨i, ht, hi, hz, hsize, hby, hzs, hsz⟩ := R
  subst hm
  cases a2 with
  | none =>
    have hc := hn rfl
    subst hc
    have hy : ys = [] := by
      rcases he with h1 | ⟨b, o', h1, _⟩
      · exact h1
      · cases h1
    subst hy
    refine wpList_append_own_none hgd s x t ho base e i 1 ht hi v n xs hs hown hx ?_
    have := h v w (by simpa using hown) (Below.refl _ _)
    exact this
  | some ad =>
    exact wpList_append_own w hgd s x t ho base e i z 1 bytes ht hi hz hsize hby hzs hsz v n xs hs hown ad ys.length c (ys.map (Value.int .i64)) hx (by simp) (newsI_of he) (intsI_ones ys) h63 hbytes hbase fun v' w' h2 h3 _ =>
      h v' w' h2 (Below.grown (Below.refl _ _) h3 hbase (fun k hk => (hown.lt k hk).1))
end Go.Proofs.YtfaklhkdfpfjgaaDoor
