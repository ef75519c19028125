/- Gates and truth values that came in: a slice of records of a number and a slice of numbers, and a slice of Bools, opened to lists. No program in sight. -/
import Derived.Test.YtfaklhkdfpfjgaaDoorLift
import Derived.Deep.Matrix
namespace Go.Proofs.YtfaklhkdfpfjgaaDoor
open Go.ChangeShapes Go.WideShapes Go.Deep Go.RowKit

/-- A gate: how many at the least, of which. -/
abbrev GateT := Int × List Int
/-- The gates L lie from the address on. -/
def Gates (w : World) (a : Option Addr) (L : List GateT) : Prop :=
  L = [] ∨ ∃ b o, a = some ⟨b, o, none⟩ ∧ ∀ j (h : j < L.length), w.cell? ⟨b, o + j * 2, none⟩ = some (.int .i64 L[j].1) ∧ ∃ a' c', w.cell? ⟨b, o + j * 2 + 1, none⟩ = some (.slice a' L[j].2.length c') ∧ L[j].2.length ≤ c' ∧ c' ≤ maxLen ∧ Elems encI 1 w a' L[j].2
theorem Gates.at {w w' : World} {a : Option Addr} {L : List GateT} (h : Gates w a L) (hb : Below w.heap.size w w') : Gates w' a L := by
  rcases h with h | ⟨b, o, rfl, h⟩
  · exact Or.inl h
  · refine Or.inr ⟨b, o, rfl, fun j hj => ?_⟩
    obtain ⟨h0, a', c', h1, h2, h3, h4⟩ := h j hj
    exact ⟨(hb.cell (p := ⟨b, o + j * 2, none⟩) (lt_of_cell h0)).trans h0, a', c', (hb.cell (p := ⟨b, o + j * 2 + 1, none⟩) (lt_of_cell h1)).trans h1, h2, h3, h4.at hb⟩
theorem Gates.some {w : World} {a : Option Addr} {L : List GateT} (h : Gates w a L) {j : Nat} (hj : j < L.length) :
    ∃ b o, a = Option.some ⟨b, o, none⟩ ∧ ∀ j (h : j < L.length), w.cell? ⟨b, o + j * 2, none⟩ = Option.some (.int .i64 L[j].1) ∧ ∃ a' c', w.cell? ⟨b, o + j * 2 + 1, none⟩ = Option.some (.slice a' L[j].2.length c') ∧ L[j].2.length ≤ c' ∧ c' ≤ maxLen ∧ Elems encI 1 w a' L[j].2 := by
  rcases h with rfl | h
  · simp at hj
  · exact h

section
variable {H : Type} {enc : TypeId × Value → H} {P : Program}
theorem spot_none' {w : World} {a : Addr} {v : Value} (h : w.cell? a = some v) : a.spot = none := by
  unfold World.cell? at h
  split at h
  · split at h
    · cases h
    · rename_i h'; simpa using h'
  · cases h
theorem add_form' {w : World} {a : Addr} {v : Value} (h : w.cell? (a.add 0) = some v) : ∀ q, a.add q = ⟨a.block, a.off + q, none⟩ := by
  have hsp : a.spot = none := by
    have := spot_none' h
    simpa [Addr.add] using this
  intro q
  unfold Addr.add
  split
  · rename_i hq; subst hq; cases a; simp at hsp; simp [hsp]
  · simp
/-- A slice of Bools that came in. -/
theorem open_bools {w : World} {base : Nat} {spare : Nat → Bool} {held : Bool} {r : Reach} {b0 : Nat} {t e : TypeId} {v : Value} {d : DataW H} {p : List MemPlace}
    (ht : P.underlying t = some (.slice e)) (he : P.underlying e = some .bool) (hC : P.cellsOf e = 1)
    (hval : Value.okWide P w r b0 t v) (hd : DataW.Trod enc P w base spare held t v d p) :
    ∃ (a : Option Addr) (cap : Nat) (xs : List Bool), v = .slice a xs.length cap ∧ xs.length ≤ cap ∧ cap ≤ maxLen ∧ Elems encB 1 w a xs := by
  obtain ⟨a0, len, cap, rfl⟩ := okWide_slice ht hval
  obtain ⟨fuel, hf⟩ := hd
  rcases open_slice1 ht hC hf with ⟨hcs, hx⟩ | ⟨a, len', cap', m, n, V, D, Pl, hcs, hb, hl, hm, hmm, hx, hi⟩
  · simp [Value.cells] at hcs
    obtain ⟨rfl, rfl, rfl⟩ := hcs
    exact ⟨none, 0, [], rfl, by simp, by simp [maxLen], Or.inl rfl⟩
  · simp [Value.cells] at hcs
    obtain ⟨rfl, rfl, rfl⟩ := hcs
    have hlm : len ≤ m := by rw [hmm]; split <;> omega
    have key : ∀ i, ∃ x : Bool, i < len → w.cell? (a.add i) = some (.bool x) := by
      intro i
      by_cases hil : i < len
      · obtain ⟨hc, ht'⟩ := hi i (by omega)
        obtain ⟨z, hz, _⟩ := DataW.trod_bool he ht'
        simp only [List.cons.injEq, and_true] at hz
        exact ⟨z, fun _ => by rw [hc, hz]⟩
      · exact ⟨false, fun h => absurd h hil⟩
    obtain ⟨g, hg⟩ := Classical.axiomOfChoice key
    refine ⟨some a, cap, (List.range len).map g, by simp, by simp; omega, hm, ?_⟩
    by_cases hl0 : len = 0
    · subst hl0; exact Or.inl rfl
    · have hadd := add_form' (hg 0 (by omega))
      refine Or.inr ⟨a.block, a.off, by rw [← Nat.add_zero a.off, ← hadd 0]; simp [Addr.add], fun j hj i u hu => ?_⟩
      have hjl : j < len := by simpa using hj
      have c0 := hg j hjl
      simp only [List.getElem_map, List.getElem_range] at hu
      rw [hadd] at c0
      match i, hu with
      | 0, hu => simp [encB] at hu; subst hu; simpa using c0
      | i + 1, hu => simp [encB] at hu
/-- A slice of gates that came in. -/
theorem open_gates {w : World} {base : Nat} {spare : Nat → Bool} {held : Bool} {r : Reach} {b0 : Nat} {t e q : TypeId} {f0 f1 : Field} {v : Value} {d : DataW H} {p : List MemPlace}
    (ht : P.underlying t = some (.slice e)) (he : P.underlying e = some (.struct #[f0, f1])) (hone : oneCellFields P #[f0, f1] = true) (hC : P.cellsOf e = 2)
    (h0 : P.underlying f0.type = some (.int .i64)) (h1 : P.underlying f1.type = some (.slice q)) (hq : P.underlying q = some (.int .i64)) (cq : P.cellsOf q = 1)
    (hval : Value.okWide P w r b0 t v) (hd : DataW.Trod enc P w base spare held t v d p) :
    ∃ (a : Option Addr) (cap : Nat) (L : List GateT), v = .slice a L.length cap ∧ L.length ≤ cap ∧ cap ≤ maxLen ∧ Gates w a L ∧ (∀ x ∈ L, (Lit.int .i64 x.1).wf = true ∧ ∀ y ∈ x.2, (Lit.int .i64 y).wf = true) ∧ ∀ B, (∀ m ∈ d.weights P t, m ≤ B) → L.length * P.bytesOf e ≤ B := by
  obtain ⟨a0, len, cap, rfl⟩ := okWide_slice ht hval
  obtain ⟨fuel, hf⟩ := hd
  rcases open_slice ht hf with ⟨hcs, hx⟩ | ⟨a, len', cap', m, n, D, Pl, hcs, hb, hl, hm, hmm, hx, hi⟩
  · simp [Value.cells] at hcs
    obtain ⟨rfl, rfl, rfl⟩ := hcs
    exact ⟨none, 0, [], rfl, by simp, by simp [maxLen], Or.inl rfl, by simp, by simp⟩
  · simp [Value.cells] at hcs
    obtain ⟨rfl, rfl, rfl⟩ := hcs
    have hlm : len ≤ m := by rw [hmm]; split <;> omega
    have key : ∀ i, ∃ x : GateT, i < len → (w.cell? (a.add (i * 2)) = some (.int .i64 x.1) ∧ ∃ a' c', w.cell? (a.add (i * 2 + 1)) = some (.slice a' x.2.length c') ∧ x.2.length ≤ c' ∧ c' ≤ maxLen ∧ Elems encI 1 w a' x.2) ∧
        (Lit.int .i64 x.1).wf = true ∧ ∀ y ∈ x.2, (Lit.int .i64 y).wf = true := by
      intro i
      by_cases hil : i < len
      · obtain ⟨cs', hc, ht'⟩ := hi i (by omega)
        rw [hC] at hc
        obtain ⟨ys, n', hn', hy, hlen, hyl, hfy⟩ := DataW.trod_struct he ht'
        obtain ⟨_, hcl, hat⟩ := World.cells?_some hc
        have hcell : ∀ j (hj : j < 2), w.cell? (a.add (i * 2 + j)) = some (cs'[j]'(by omega)) := by
          intro j hj
          have := hat j hj
          rw [Go.Deep.add_add] at this
          rw [this, List.getElem?_eq_getElem]
        have field : ∀ (j : Nat) (hj : j < 2) (f : Field), (#[f0, f1] : Array Field)[j]? = some f → ∃ y, DataW.trod enc P w base spare held n' f.type [cs'[j]'(by omega)] = some y := by
          intro j hj f hfj
          obtain ⟨ho, hk⟩ := hone_of hone j f hfj
          have h1 := hfy j f hfj
          rw [ho, hk] at h1
          have hone' : (cs'.drop j).take 1 = [cs'[j]'(by omega)] := by
            rw [List.drop_eq_getElem_cons (by omega)]
            rfl
          rw [hone'] at h1
          have hys : ys[j]? = some (ys[j]'(by simp at hyl; omega)) := List.getElem?_eq_getElem _
          exact ⟨_, h1.trans hys⟩
        obtain ⟨y0, c0⟩ := field 0 (by omega) f0 rfl
        obtain ⟨z, hz, _, hw⟩ := DataW.trod_int h0 c0
        simp only [List.cons.injEq, and_true] at hz
        have e0 : w.cell? (a.add (i * 2)) = some (.int .i64 z) := by have h := hcell 0 (by omega); rw [hz] at h; simpa using h
        obtain ⟨y1, c1⟩ := field 1 (by omega) f1 rfl
        have e1 := hcell 1 (by omega)
        rcases open_slice1 h1 cq c1 with ⟨hcs, _⟩ | ⟨a', len', cap', m', n', V, D', Pl', hcs, hb', hl', hm', hmm', hx', hi'⟩
        · simp only [List.cons.injEq, and_true] at hcs
          rw [hcs] at e1
          exact ⟨(z, []), fun _ => ⟨⟨e0, none, 0, e1, by simp, by simp [maxLen], Or.inl rfl⟩, hw, by simp⟩⟩
        · simp only [List.cons.injEq, and_true] at hcs
          rw [hcs] at e1
          have hlm' : len' ≤ m' := by rw [hmm']; split <;> omega
          have key2 : ∀ i, ∃ x : Int, i < len' → w.cell? (a'.add i) = some (.int .i64 x) ∧ (Lit.int .i64 x).wf = true := by
            intro i
            by_cases hil : i < len'
            · obtain ⟨hc, ht'⟩ := hi' i (by omega)
              obtain ⟨z, hz, _, hw⟩ := DataW.trod_int hq ht'
              simp only [List.cons.injEq, and_true] at hz
              exact ⟨z, fun _ => ⟨by rw [hc, hz], hw⟩⟩
            · exact ⟨0, fun h => absurd h hil⟩
          obtain ⟨g, hg⟩ := Classical.axiomOfChoice key2
          refine ⟨(z, (List.range len').map g), fun _ => ⟨⟨e0, some a', cap', by simpa using e1, by simp; omega, hm', ?_⟩, hw, ?_⟩⟩
          · by_cases hl0 : len' = 0
            · subst hl0; exact Or.inl rfl
            · have hadd := add_form' (hg 0 (by omega)).1
              refine Or.inr ⟨a'.block, a'.off, by rw [← Nat.add_zero a'.off, ← hadd 0]; simp [Addr.add], fun j hj i u hu => ?_⟩
              have hjl : j < len' := by simpa using hj
              have c0 := (hg j hjl).1
              simp only [List.getElem_map, List.getElem_range] at hu
              rw [hadd] at c0
              match i, hu with
              | 0, hu => simp [encI] at hu; subst hu; simpa using c0
              | i + 1, hu => simp [encI] at hu
          · intro x hx
            simp only [List.mem_map, List.mem_range] at hx
            obtain ⟨i, hil, rfl⟩ := hx
            exact (hg i hil).2
      · exact ⟨(0, []), fun h => absurd h hil⟩
    obtain ⟨g, hg⟩ := Classical.axiomOfChoice key
    refine ⟨some a, cap, (List.range len).map g, by simp, by simp; omega, hm, ?_, ?_, ?_⟩
    · by_cases hl0 : len = 0
      · subst hl0; exact Or.inl rfl
      · have hadd := add_form' (show w.cell? (a.add 0) = _ by simpa using (hg 0 (by omega)).1.1)
        refine Or.inr ⟨a.block, a.off, by rw [← Nat.add_zero a.off, ← hadd 0]; simp [Addr.add], fun j hj => ?_⟩
        have hjl : j < len := by simpa using hj
        obtain ⟨⟨c0, a', c', c1, r⟩, _⟩ := hg j hjl
        rw [hadd] at c0 c1
        simp only [List.getElem_map, List.getElem_range]
        exact ⟨c0, a', c', c1, r⟩
    · intro x hx
      simp only [List.mem_map, List.mem_range] at hx
      obtain ⟨i, hil, rfl⟩ := hx
      exact (hg i hil).2
    · intro B hB
      simp only [Prod.mk.injEq] at hx
      have h1 := hB ((((List.range len).map D).length + ((List.range (m - len)).map fun j => D (len + j)).length) * P.bytesOf e) (by
        rw [hx.1]
        simp only [DataW.weights, ht, List.mem_cons]
        exact Or.inl trivial)
      refine Nat.le_trans (Nat.mul_le_mul_right _ ?_) h1
      simp
end
end Go.Proofs.YtfaklhkdfpfjgaaDoor
