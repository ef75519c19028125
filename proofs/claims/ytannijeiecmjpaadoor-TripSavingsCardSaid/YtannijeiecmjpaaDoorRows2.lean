/- A slice of slices of integers that lies in memory: in the order of a list of lists, in any world; an argument of that form opened. No program in sight. -/
import Derived.Test.YtannijeiecmjpaaDoorLift
import Derived.Deep.Matrix
namespace Go.Proofs.YtannijeiecmjpaaDoor
open Go.ChangeShapes Go.WideShapes Go.Deep Go.RowKit

/-- The rows A lie from the address on. -/
def Rows2 (w : World) (a : Option Addr) (A : List (List Int)) : Prop :=
  A = [] ∨ ∃ b o, a = some ⟨b, o, none⟩ ∧ ∀ j (h : j < A.length), ∃ a' c', w.cell? ⟨b, o + j, none⟩ = some (.slice a' A[j].length c') ∧ A[j].length ≤ c' ∧ c' ≤ maxLen ∧ Elems encI 1 w a' A[j]
theorem Rows2.at {w w' : World} {a : Option Addr} {A : List (List Int)} (h : Rows2 w a A) (hb : Below w.heap.size w w') : Rows2 w' a A := by
  rcases h with h | ⟨b, o, rfl, h⟩
  · exact Or.inl h
  · refine Or.inr ⟨b, o, rfl, fun j hj => ?_⟩
    obtain ⟨a', c', h1, h2, h3, h4⟩ := h j hj
    exact ⟨a', c', (hb.cell (p := ⟨b, o + j, none⟩) (lt_of_cell h1)).trans h1, h2, h3, h4.at hb⟩
theorem Rows2.some {w : World} {a : Option Addr} {A : List (List Int)} (h : Rows2 w a A) {j : Nat} (hj : j < A.length) :
    ∃ b o, a = Option.some ⟨b, o, none⟩ ∧ ∀ j (h : j < A.length), ∃ a' c', w.cell? ⟨b, o + j, none⟩ = Option.some (.slice a' A[j].length c') ∧ A[j].length ≤ c' ∧ c' ≤ maxLen ∧ Elems encI 1 w a' A[j] := by
  rcases h with rfl | h
  · simp at hj
  · exact h

section
variable {H : Type} {enc : TypeId × Value → H} {P : Program}
theorem spot_none {w : World} {a : Addr} {v : Value} (h : w.cell? a = some v) : a.spot = none := by
  unfold World.cell? at h
  split at h
  · split at h
    · cases h
    · rename_i h'; simpa using h'
  · cases h
theorem add_form {w : World} {a : Addr} {v : Value} (h : w.cell? (a.add 0) = some v) : ∀ q, a.add q = ⟨a.block, a.off + q, none⟩ := by
  have hsp : a.spot = none := by
    have := spot_none h
    simpa [Addr.add] using this
  intro q
  unfold Addr.add
  split
  · rename_i hq; subst hq; cases a; simp at hsp; simp [hsp]
  · simp
theorem weightsAll_mem {e : TypeId} : ∀ {l : List (DataW H)} {d : DataW H}, d ∈ l → ∀ n ∈ d.weights P e, n ∈ DataW.weightsAll P e l
  | [], _, h, _, _ => by cases h
  | x :: xs, d, h, n, hn => by
    rcases List.mem_cons.1 h with rfl | h
    · simp only [DataW.weightsAll, List.mem_append]; exact Or.inl hn
    · simp only [DataW.weightsAll, List.mem_append]; exact Or.inr (weightsAll_mem h n hn)
/-- A slice of slices of integers that came in. -/
theorem open_rows2 {w : World} {base : Nat} {held : Bool} {r : Reach} {b0 : Nat} {t e q : TypeId} {v : Value} {d : DataW H} {p : List MemPlace}
    (ht : P.underlying t = some (.slice e)) (he : P.underlying e = some (.slice q)) (hq : P.underlying q = some (.int .i64)) (ce : P.cellsOf e = 1) (cq : P.cellsOf q = 1)
    (hval : Value.okWide P w r b0 t v) (hd : DataW.Trod enc P w base (fun _ => true) held t v d p) :
    ∃ (a : Option Addr) (cap : Nat) (A : List (List Int)), v = .slice a A.length cap ∧ A.length ≤ cap ∧ cap ≤ maxLen ∧ Rows2 w a A ∧ (∀ r ∈ A, ∀ x ∈ r, (Lit.int .i64 x).wf = true) ∧ ∀ B, (∀ m ∈ d.weights P t, m ≤ B) → ∀ r ∈ A, r.length * P.bytesOf q ≤ B := by
  obtain ⟨a0, len, cap, rfl⟩ := okWide_slice ht hval
  obtain ⟨fuel, hf⟩ := hd
  rcases open_int_rows ht he hq ce cq hf with ⟨hcs, hx⟩ | ⟨a, len', cap', Ad, L, C, Z, hcs, hb, hl, hm, hx, hi⟩
  · simp [Value.cells] at hcs
    obtain ⟨rfl, rfl, rfl⟩ := hcs
    exact ⟨none, 0, [], rfl, by simp, by simp [maxLen], Or.inl rfl, by simp, by simp⟩
  · simp [Value.cells] at hcs
    obtain ⟨rfl, rfl, rfl⟩ := hcs
    refine ⟨some a, cap, (List.range len).map fun r => (Z r).take (L r), by simp, by simp; omega, hm, ?_, ?_, ?_⟩
    · by_cases hl0 : len = 0
      · subst hl0; exact Or.inl rfl
      · have hadd := add_form (hi 0 (by omega)).1
        refine Or.inr ⟨a.block, a.off, by rw [← Nat.add_zero a.off, ← hadd 0]; simp [Addr.add], fun j hj => ?_⟩
        have hjl : j < len := by simpa using hj
        obtain ⟨h1, h2, h3, h4, h5, h6, h7⟩ := hi j (by omega)
        rw [hadd] at h1
        have hlen : ((Z j).take (L j)).length = L j := by rw [List.length_take]; omega
        refine ⟨Ad j, C j, ?_, ?_, h3, ?_⟩
        · simp only [List.getElem_map, List.getElem_range, hlen]
          exact h1
        · simp only [List.getElem_map, List.getElem_range, hlen]
          exact h2
        · simp only [List.getElem_map, List.getElem_range]
          by_cases hL : L j = 0
          · exact Or.inl (by rw [hL]; rfl)
          · cases hA : Ad j with
            | none => have := h6 hA; omega
            | some a' =>
              obtain ⟨_, h8⟩ := h7 a' hA
              have hadd' := add_form (h8 0 (by omega))
              refine Or.inr ⟨a'.block, a'.off, by rw [← Nat.add_zero a'.off, ← hadd' 0]; simp [Addr.add], fun i hi2 k u hu => ?_⟩
              have hil : i < L j := by omega
              have h9 := h8 i (by omega)
              rw [hadd'] at h9
              match k, hu with
              | 0, hu =>
                simp only [encI, List.getElem?_cons_zero, Option.some.injEq] at hu
                rw [Nat.mul_one, Nat.add_zero, h9, ← hu, List.getElem_take]
                simp [List.getD, show i < (Z j).length by omega]
              | k + 1, hu => simp [encI] at hu
    · intro r hr x hx
      simp only [List.mem_map, List.mem_range] at hr
      obtain ⟨i, hil, rfl⟩ := hr
      exact (hi i (by omega)).2.2.2.2.1 x (List.mem_of_mem_take hx)
    · intro B hB r hr
      simp only [List.mem_map, List.mem_range] at hr
      obtain ⟨i, hil, rfl⟩ := hr
      obtain ⟨h1, h2, h3, h4, h5, h6, h7⟩ := hi i (by omega)
      cases hA : Ad i with
      | none =>
        have := h6 hA
        rw [show L i = 0 by omega]
        simp
      | some a' =>
        simp only [Prod.mk.injEq] at hx
        have hmem : intRow .i64 (Ad i) (L i) (Z i) ∈ (List.range len).map fun r => (intRow .i64 (Ad r) (L r) (Z r) : DataW H) := List.mem_map.2 ⟨i, List.mem_range.2 hil, rfl⟩
        have hw := weightsAll_mem (P := P) (e := e) hmem ((L i + (C i - L i)) * P.bytesOf q) (by
          rw [hA]
          simp only [intRow, DataW.weights, he, List.mem_cons]
          left
          congr 1
          simp [lits, h4]
          omega)
        have hw2 := hB _ (show _ ∈ d.weights P t by
          rw [hx.1]
          simp only [DataW.weights, ht, List.mem_cons, List.mem_append]
          exact Or.inr (Or.inl hw))
        refine Nat.le_trans (Nat.mul_le_mul_right _ ?_) hw2
        rw [List.length_take]
        omega
end
end Go.Proofs.YtannijeiecmjpaaDoor
