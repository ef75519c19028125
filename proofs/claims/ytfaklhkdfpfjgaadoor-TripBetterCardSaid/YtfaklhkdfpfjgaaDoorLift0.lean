/- A slice of integers that came in, opened; a nil one has no room. No program in sight. -/
import Derived.Test.YtfaklhkdfpfjgaaDoorLift
namespace Go.Proofs.YtfaklhkdfpfjgaaDoor
open Go.ChangeShapes Go.WideShapes Go.Deep Go.RowKit

section
variable {H : Type} {enc : TypeId × Value → H} {P : Program}
/-- A slice of integers that came in. -/
theorem open_intlist0 {w : World} {base : Nat} {spare : Nat → Bool} {held : Bool} {r : Reach} {b0 : Nat} {t e : TypeId} {v : Value} {d : DataW H} {p : List MemPlace}
    (ht : P.underlying t = some (.slice e)) (he : P.underlying e = some (.int .i64)) (hC : P.cellsOf e = 1)
    (hval : Value.okWide P w r b0 t v) (hd : DataW.Trod enc P w base spare held t v d p) :
    ∃ (a : Option Addr) (cap : Nat) (xs : List Int), v = .slice a xs.length cap ∧ xs.length ≤ cap ∧ cap ≤ maxLen ∧ Elems encI 1 w a xs ∧ (∀ x ∈ xs, (Lit.int .i64 x).wf = true) ∧ (a = none → cap = 0) := by
  obtain ⟨a0, len, cap, rfl⟩ := okWide_slice ht hval
  obtain ⟨fuel, hf⟩ := hd
  rcases open_slice1 ht hC hf with ⟨hcs, hx⟩ | ⟨a, len', cap', m, n, V, D, Pl, hcs, hb, hl, hm, hmm, hx, hi⟩
  · simp [Value.cells] at hcs
    obtain ⟨rfl, rfl, rfl⟩ := hcs
    exact ⟨none, 0, [], rfl, by simp, by simp [maxLen], Or.inl rfl, by simp, fun _ => rfl⟩
  · simp [Value.cells] at hcs
    obtain ⟨rfl, rfl, rfl⟩ := hcs
    have hlm : len ≤ m := by rw [hmm]; split <;> omega
    have key : ∀ i, ∃ x : Int, i < len → w.cell? (a.add i) = some (.int .i64 x) ∧ (Lit.int .i64 x).wf = true := by
      intro i
      by_cases hil : i < len
      · obtain ⟨hc, ht'⟩ := hi i (by omega)
        obtain ⟨z, hz, _, hw⟩ := DataW.trod_int he ht'
        simp only [List.cons.injEq, and_true] at hz
        exact ⟨z, fun _ => ⟨by rw [hc, hz], hw⟩⟩
      · exact ⟨0, fun h => absurd h hil⟩
    obtain ⟨g, hg⟩ := Classical.axiomOfChoice key
    refine ⟨some a, cap, (List.range len).map g, by simp, by simp; omega, hm, ?_, ?_, fun h => by cases h⟩
    · by_cases hl0 : len = 0
      · subst hl0; exact Or.inl rfl
      · have hsp : a.spot = none := by
          have h := (hg 0 (by omega)).1
          simp only [Addr.add, if_true] at h
          unfold World.cell? at h
          split at h
          · split at h
            · cases h
            · rename_i h'; simpa using h'
          · cases h
        refine Or.inr ⟨a.block, a.off, by cases a; simp at hsp; simp [hsp], fun j hj i u hu => ?_⟩
        have hjl : j < len := by simpa using hj
        have hadd : ∀ q, a.add q = ⟨a.block, a.off + q, none⟩ := by
          intro q
          unfold Addr.add
          split
          · rename_i hq; subst hq; cases a; simp at hsp; simp [hsp]
          · simp
        have c0 := (hg j hjl).1
        simp only [List.getElem_map, List.getElem_range] at hu
        rw [hadd] at c0
        match i, hu with
        | 0, hu => simp [encI] at hu; subst hu; simpa using c0
        | i + 1, hu => simp [encI] at hu
    · intro x hx
      simp only [List.mem_map, List.mem_range] at hx
      obtain ⟨i, hil, rfl⟩ := hx
      exact (hg i hil).2
end
end Go.Proofs.YtfaklhkdfpfjgaaDoor
