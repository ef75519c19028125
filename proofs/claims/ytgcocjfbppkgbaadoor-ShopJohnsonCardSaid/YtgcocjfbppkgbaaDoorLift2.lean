/- Slices of records of two integers, opened. No program in sight. -/
import Derived.Test.YtgcocjfbppkgbaaDoorLift
import Derived.Test.YtgcocjfbppkgbaaDoorFlowM
namespace Go.Proofs.YtgcocjfbppkgbaaDoor
open Go.ChangeShapes Go.WideShapes Go.Deep Go.RowKit
section
variable {H : Type} {enc : TypeId × Value → H} {P : Program}
/-- A slice of records of two integers that came in. -/
theorem open_recs2 {w : World} {base : Nat} {spare : Nat → Bool} {held : Bool} {r : Reach} {b0 : Nat} {t e : TypeId} {f0 f1 : Field} {v : Value} {d : DataW H} {p : List MemPlace}
    (ht : P.underlying t = some (.slice e)) (he : P.underlying e = some (.struct #[f0, f1])) (hone : oneCellFields P #[f0, f1] = true) (hC : P.cellsOf e = 2)
    (h0 : P.underlying f0.type = some (.int .i64)) (h1 : P.underlying f1.type = some (.int .i64))
    (hval : Value.okWide P w r b0 t v) (hd : DataW.Trod enc P w base spare held t v d p) :
    ∃ (a : Option Addr) (cap : Nat) (xs : List R2), v = .slice a xs.length cap ∧ xs.length ≤ cap ∧ cap ≤ maxLen ∧ Elems enc2 2 w a xs ∧ ∀ x ∈ xs, (Lit.int .i64 x.1).wf = true ∧ (Lit.int .i64 x.2).wf = true := by
  obtain ⟨a0, len, cap, rfl⟩ := okWide_slice ht hval
  obtain ⟨fuel, hf⟩ := hd
  rcases open_slice ht hf with ⟨hcs, hx⟩ | ⟨a, len', cap', m, n, D, Pl, hcs, hb, hl, hm, hmm, hx, hi⟩
  · simp [Value.cells] at hcs
    obtain ⟨rfl, rfl, rfl⟩ := hcs
    exact ⟨none, 0, [], rfl, by simp, by simp [maxLen], Or.inl rfl, by simp⟩
  · simp [Value.cells] at hcs
    obtain ⟨rfl, rfl, rfl⟩ := hcs
    have hlm : len ≤ m := by rw [hmm]; split <;> omega
    have key : ∀ i, ∃ x : R2, i < len → (w.cell? (a.add (i * 2)) = some (.int .i64 x.1) ∧ w.cell? (a.add (i * 2 + 1)) = some (.int .i64 x.2)) ∧
        (Lit.int .i64 x.1).wf = true ∧ (Lit.int .i64 x.2).wf = true := by
      intro i
      by_cases hil : i < len
      · obtain ⟨cs', hc, ht'⟩ := hi i (by omega)
        rw [hC] at hc
        obtain ⟨ys, n', hn', hy, hlen, hyl, hfy⟩ := DataW.trod_struct he ht'
        obtain ⟨_, hcl, hat⟩ := World.cells?_some hc
        have hcell : ∀ j (hj : j < 2), w.cell? (a.add (i * 2 + j)) = some (cs'[j]'(by omega)) := by
          intro j hj
          have := hat j hj
          rw [Go.Deep.add_add] at this
          rw [this, List.getElem?_eq_getElem]
        have field : ∀ (j : Nat) (hj : j < 2) (f : Field), (#[f0, f1] : Array Field)[j]? = some f → P.underlying f.type = some (.int .i64) → ∃ z : Int, w.cell? (a.add (i * 2 + j)) = some (.int .i64 z) ∧ (Lit.int .i64 z).wf = true := by
          intro j hj f hfj hty
          obtain ⟨ho, hk⟩ := hone_of hone j f hfj
          have h1 := hfy j f hfj
          rw [ho, hk] at h1
          have hone' : (cs'.drop j).take 1 = [cs'[j]'(by omega)] := by
            rw [List.drop_eq_getElem_cons (by omega)]
            rfl
          rw [hone'] at h1
          have hys : ys[j]? = some (ys[j]'(by simp at hyl; omega)) := List.getElem?_eq_getElem _
          obtain ⟨z, hz, _, hw⟩ := DataW.trod_int hty (h1.trans hys)
          simp only [List.cons.injEq, and_true] at hz
          exact ⟨z, by rw [hcell j hj, hz], hw⟩
        obtain ⟨z0, c0, w0⟩ := field 0 (by omega) f0 rfl h0
        obtain ⟨z1, c1, w1⟩ := field 1 (by omega) f1 rfl h1
        exact ⟨(z0, z1), fun _ => ⟨⟨by simpa using c0, c1⟩, w0, w1⟩⟩
      · exact ⟨(0, 0), fun h => absurd h hil⟩
    obtain ⟨g, hg⟩ := Classical.axiomOfChoice key
    refine ⟨some a, cap, (List.range len).map g, by simp, by simp; omega, hm, ?_, ?_⟩
    · by_cases hl0 : len = 0
      · subst hl0; exact Or.inl rfl
      · have hsp : a.spot = none := by
          have h := (hg 0 (by omega)).1.1
          simp only [Nat.zero_mul, Addr.add, if_true] at h
          unfold World.cell? at h
          split at h
          · split at h
            · cases h
            · rename_i h'; simpa using h'
          · cases h
        refine Or.inr ⟨a.block, a.off, by cases a; simp at hsp; simp [hsp], fun j hj i u hu => ?_⟩
        have hjl : j < len := by simpa using hj
        have hadd : ∀ q, a.add q = ⟨a.block, a.off + q, none⟩ := by
          intro q
          unfold Addr.add
          split
          · rename_i hq; subst hq; cases a; simp at hsp; simp [hsp]
          · simp
        obtain ⟨⟨c0, c1⟩, _⟩ := hg j hjl
        simp only [List.getElem_map, List.getElem_range] at hu
        rw [hadd] at c0 c1
        match i, hu with
        | 0, hu => simp [enc2] at hu; subst hu; exact c0
        | 1, hu => simp [enc2] at hu; subst hu; exact c1
        | i + 2, hu => simp [enc2] at hu
    · intro x hx
      simp only [List.mem_map, List.mem_range] at hx
      obtain ⟨i, hil, rfl⟩ := hx
      exact (hg i hil).2

end
end Go.Proofs.YtgcocjfbppkgbaaDoor
