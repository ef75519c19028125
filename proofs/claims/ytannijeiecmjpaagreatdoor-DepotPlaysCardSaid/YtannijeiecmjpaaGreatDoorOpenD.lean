/- The arguments of the depot's laws as they come in. -/
import Derived.Test.YtannijeiecmjpaaGreatDoorLift
import Derived.Test.YtannijeiecmjpaaGreatDoorBothD
import Derived.SliceStrings
namespace Go.Proofs.YtannijeiecmjpaaGreatDoor
open Go.ChangeShapes Go.WideShapes Go.Deep Go.RowKit
variable {H : Type} {enc : TypeId × Value → H} {P : Program}

/-- A slice of moves that came in. -/
theorem open_moves {w : World} {base : Nat} {spare : Nat → Bool} {held : Bool} {r : Reach} {b0 : Nat} {t e : TypeId} {f0 f1 : Field} {v : Value} {d : DataW H} {p : List MemPlace}
    (ht : P.underlying t = some (.slice e)) (he : P.underlying e = some (.struct #[f0, f1])) (hone : oneCellFields P #[f0, f1] = true) (hC : P.cellsOf e = 2)
    (h0 : P.underlying f0.type = some .string) (h1 : P.underlying f1.type = some (.int .i64))
    (hval : Value.okWide P w r b0 t v) (hd : DataW.Trod enc P w base spare held t v d p) :
    ∃ (a : Option Addr) (cap : Nat) (xs : List MoveD), v = .slice a xs.length cap ∧ xs.length ≤ cap ∧ cap ≤ maxLen ∧ Elems encM 2 w a xs ∧ ∀ x ∈ xs, x.1.length ≤ maxLen ∧ (Lit.int .i64 x.2).wf = true := by
  obtain ⟨a0, len, cap, rfl⟩ := okWide_slice ht hval
  obtain ⟨fuel, hf⟩ := hd
  rcases open_slice ht hf with ⟨hcs, hx⟩ | ⟨a, len', cap', m, n, D, Pl, hcs, hb, hl, hm, hmm, hx, hi⟩
  · simp [Value.cells] at hcs
    obtain ⟨rfl, rfl, rfl⟩ := hcs
    exact ⟨none, 0, [], rfl, by simp, by simp [maxLen], Or.inl rfl, by simp⟩
  · simp [Value.cells] at hcs
    obtain ⟨rfl, rfl, rfl⟩ := hcs
    have hlm : len ≤ m := by rw [hmm]; split <;> omega
    have key : ∀ i, ∃ x : MoveD, i < len → (w.cell? (a.add (i * 2)) = some (strV x.1) ∧ w.cell? (a.add (i * 2 + 1)) = some (.int .i64 x.2)) ∧ x.1.length ≤ maxLen ∧ (Lit.int .i64 x.2).wf = true := by
      intro i
      by_cases hil : i < len
      · obtain ⟨cs', hc, ht'⟩ := hi i (by omega)
        rw [hC] at hc
        obtain ⟨ys, n', hn', hy, hlen, hyl, hfy⟩ := DataW.trod_struct he ht'
        obtain ⟨_, hcl, hat⟩ := World.cells?_some hc
        have hcell : ∀ j (hj : j < 2), w.cell? (a.add (i * 2 + j)) = some (cs'[j]'(by omega)) := by
          intro j hj
          have := hat j hj
          rw [Go.Deep.add_add] at this
          rw [this, List.getElem?_eq_getElem]
        have one : ∀ (j : Nat) (hj : j < 2) (f : Field), (#[f0, f1] : Array Field)[j]? = some f → DataW.trod enc P w base spare held n' f.type [cs'[j]'(by omega)] = some (ys[j]'(by simp at hyl; omega)) := by
          intro j hj f hfj
          obtain ⟨ho, hk⟩ := hone_of hone j f hfj
          have h1 := hfy j f hfj
          rw [ho, hk] at h1
          have hone' : (cs'.drop j).take 1 = [cs'[j]'(by omega)] := by
            rw [List.drop_eq_getElem_cons (by omega)]
            rfl
          rw [hone'] at h1
          have hys : ys[j]? = some (ys[j]'(by simp at hyl; omega)) := List.getElem?_eq_getElem _
          exact h1.trans hys
        obtain ⟨s0, e0, _, w0⟩ := DataW.trod_string h0 (one 0 (by omega) f0 rfl)
        obtain ⟨z1, e1, _, w1⟩ := DataW.trod_int h1 (one 1 (by omega) f1 rfl)
        simp only [List.cons.injEq, and_true] at e0 e1
        have c0 := hcell 0 (by omega)
        have c1 := hcell 1 (by omega)
        rw [e0] at c0
        rw [e1] at c1
        exact ⟨(s0.data.toList, z1), fun _ => ⟨⟨by simpa using c0, c1⟩, (show s0.data.toList.length ≤ maxLen by rw [Array.length_toList]; exact w0), w1⟩⟩
      · exact ⟨([], 0), fun h => absurd h hil⟩
    obtain ⟨g, hg⟩ := Classical.axiomOfChoice key
    refine ⟨some a, cap, (List.range len).map g, by simp, by simp; omega, hm, ?_, ?_⟩
    · by_cases hl0 : len = 0
      · subst hl0; exact Or.inl rfl
      · have hsp : a.spot = none := by
          have h := (hg 0 (by omega)).1.1
          simp only [Nat.zero_mul, Addr.add, if_true] at h
          unfold World.cell? at h
          split at h
          · split at h
            · cases h
            · rename_i h'; simpa using h'
          · cases h
        refine Or.inr ⟨a.block, a.off, by cases a; simp at hsp; simp [hsp], fun j hj i u hu => ?_⟩
        have hjl : j < len := by simpa using hj
        have hadd : ∀ q, a.add q = ⟨a.block, a.off + q, none⟩ := by
          intro q
          unfold Addr.add
          split
          · rename_i hq; subst hq; cases a; simp at hsp; simp [hsp]
          · simp
        obtain ⟨⟨c0, c1⟩, _⟩ := hg j hjl
        simp only [List.getElem_map, List.getElem_range] at hu
        rw [hadd] at c0 c1
        match i, hu with
        | 0, hu => simp [encM] at hu; subst hu; exact c0
        | 1, hu => simp [encM] at hu; subst hu; exact c1
        | i + 2, hu => simp [encM] at hu
    · intro x hx
      simp only [List.mem_map, List.mem_range] at hx
      obtain ⟨i, hil, rfl⟩ := hx
      exact (hg i hil).2

/-- A slice of texts that came in. -/
theorem open_texts {w : World} {base : Nat} {spare : Nat → Bool} {held : Bool} {r : Reach} {b0 : Nat} {t e : TypeId} {v : Value} {d : DataW H} {p : List MemPlace}
    (ht : P.underlying t = some (.slice e)) (he : P.underlying e = some .string) (hC : P.cellsOf e = 1)
    (hval : Value.okWide P w r b0 t v) (hd : DataW.Trod enc P w base spare held t v d p) :
    ∃ (a : Option Addr) (cap : Nat) (xs : List Byt), v = .slice a xs.length cap ∧ xs.length ≤ cap ∧ cap ≤ maxLen ∧ Elems encT 1 w a xs ∧ ∀ x ∈ xs, x.length ≤ maxLen := by
  obtain ⟨a0, len, cap, rfl⟩ := okWide_slice ht hval
  obtain ⟨fuel, hf⟩ := hd
  rcases open_slice1 ht hC hf with ⟨hcs, hx⟩ | ⟨a, len', cap', m, n, V, D, Pl, hcs, hb, hl, hm, hmm, hx, hi⟩
  · simp [Value.cells] at hcs
    obtain ⟨rfl, rfl, rfl⟩ := hcs
    exact ⟨none, 0, [], rfl, by simp, by simp [maxLen], Or.inl rfl, by simp⟩
  · simp [Value.cells] at hcs
    obtain ⟨rfl, rfl, rfl⟩ := hcs
    have hlm : len ≤ m := by rw [hmm]; split <;> omega
    have key : ∀ i, ∃ x : Byt, i < len → w.cell? (a.add i) = some (strV x) ∧ x.length ≤ maxLen := by
      intro i
      by_cases hil : i < len
      · obtain ⟨hc, ht'⟩ := hi i (by omega)
        obtain ⟨z, hz, _, hw⟩ := DataW.trod_string he ht'
        simp only [List.cons.injEq, and_true] at hz
        exact ⟨z.data.toList, fun _ => ⟨by rw [hc, hz], show z.data.toList.length ≤ maxLen by rw [Array.length_toList]; exact hw⟩⟩
      · exact ⟨[], fun h => absurd h hil⟩
    obtain ⟨g, hg⟩ := Classical.axiomOfChoice key
    refine ⟨some a, cap, (List.range len).map g, by simp, by simp; omega, hm, ?_, ?_⟩
    · by_cases hl0 : len = 0
      · subst hl0; exact Or.inl rfl
      · have hsp : a.spot = none := by
          have h := (hg 0 (by omega)).1
          simp only [Addr.add, if_true] at h
          unfold World.cell? at h
          split at h
          · split at h
            · cases h
            · rename_i h'; simpa using h'
          · cases h
        refine Or.inr ⟨a.block, a.off, by cases a; simp at hsp; simp [hsp], fun j hj i u hu => ?_⟩
        have hjl : j < len := by simpa using hj
        have hadd : ∀ q, a.add q = ⟨a.block, a.off + q, none⟩ := by
          intro q
          unfold Addr.add
          split
          · rename_i hq; subst hq; cases a; simp at hsp; simp [hsp]
          · simp
        have c0 := (hg j hjl).1
        simp only [List.getElem_map, List.getElem_range] at hu
        rw [hadd] at c0
        match i, hu with
        | 0, hu => simp [encT] at hu; subst hu; simpa using c0
        | i + 1, hu => simp [encT] at hu
    · intro x hx
      simp only [List.mem_map, List.mem_range] at hx
      obtain ⟨i, hil, rfl⟩ := hx
      exact (hg i hil).2
end Go.Proofs.YtannijeiecmjpaaGreatDoor
