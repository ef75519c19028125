/- From a law's walk to its row: the arguments opened to lists, what was there reads as it did, the post of a law that answers true. No program in sight. -/
import Derived.Test.YtannijeiecmjpaaGreatDoorBase
import Derived.ProofKit
import Derived.SizedLaws
import Derived.Deep.Slices
import Derived.Deep.Fields
import Derived.ChangeSame
namespace Go.Proofs.YtannijeiecmjpaaGreatDoor
open Go.ChangeShapes Go.WideShapes Go.Deep Go.RowKit

section
variable {H : Type} {enc : TypeId × Value → H} {P : Program}

theorem trodAll_below (hl : laidOutB P = true) {W W' : World} (hb : Below W.heap.size W W') : ∀ (ts : List TypeId) (vs : List Value) (ds : List (DataW H)) (ps : List MemPlace), (∀ t ∈ ts, P.readableRec t = true ∧ t < P.types.size) →
    DataW.TrodAll enc P W 0 (fun _ => true) true ts vs ds ps → (∀ x ∈ ps, x.block < W.heap.size) → DataW.TrodAll enc P W' 0 (fun b => decide (b < W.heap.size)) true ts vs ds ps
  | [], [], [], _, _, h, _ => h
  | t :: ts, v :: vs, d :: ds, ps, hr, h, hlt => by
    obtain ⟨p, q, h1, h2, rfl⟩ := h
    exact ⟨p, q, Below.trod hl (hr t (by simp)).1 (hr t (by simp)).2 h1 hb (fun x hx => hlt x (by simp [hx])),
      trodAll_below hl hb ts vs ds q (fun t ht => hr t (by simp [ht])) h2 (fun x hx => hlt x (by simp [hx])), rfl⟩
  | [], [], _ :: _, _, _, h, _ => h.elim
  | [], _ :: _, _, _, _, h, _ => h.elim
  | _ :: _, [], _, _, _, h, _ => h.elim
  | _ :: _, _ :: _, [], _, _, h, _ => h.elim

/-- A law that answers true, and leaves what was there as it was. -/
theorem law_post {f : Func} {s : ChangeSpec} {W W' : World} {args : Array Value} {ds gs : List (DataW H)} {before : List MemPlace} {tb : TypeId}
    (hl : laidOutB P = true) (hr : ∀ t ∈ f.params.toList, P.readableRec t = true ∧ t < P.types.size) (hres : f.resultTypes = #[tb]) (htb : P.underlying tb = some .bool)
    (hW : DataW.Whole enc P f.params.toList s.vars false W args.toList ds gs before) (hv : s.vars = [])
    (h1 : (s.fn H (ds ++ gs)).results = [.lit (.bool true)]) (h2 : (s.fn H (ds ++ gs)).args = ds) (h3 : (s.fn H (ds ++ gs)).vars = [])
    (hb : Below W.heap.size W W') : s.post enc P f false true false false W args (.bool true) W' := by
  have hlt := hW.lt
  obtain ⟨p, q, hA, hV, rfl, hz, hn⟩ := hW
  have hq : q = [] := by
    rw [hv] at hV
    cases gs with
    | nil => exact hV
    | cons g r => exact absurd hV (by intro h; cases h)
  subst hq
  refine ⟨ds, gs, p ++ [], [], p, [], ⟨p, [], hA, hV, rfl, hz, hn⟩, ?_, ?_, ?_, hb.frame _, fun h => by cases h⟩
  · rw [h1, hres]
    exact trodAll_mk1 (shut_bool htb true)
  · rw [h2]
    exact trodAll_below hl hb _ _ _ _ hr hA (fun x hx => hlt x (by simp [hx]))
  · rw [h3, hv]
    rfl

/-- A slice of records of three integers that came in. -/
theorem open_recs3 {w : World} {base : Nat} {spare : Nat → Bool} {held : Bool} {r : Reach} {b0 : Nat} {t e : TypeId} {f0 f1 f2 : Field} {v : Value} {d : DataW H} {p : List MemPlace}
    (ht : P.underlying t = some (.slice e)) (he : P.underlying e = some (.struct #[f0, f1, f2])) (hone : oneCellFields P #[f0, f1, f2] = true) (hC : P.cellsOf e = 3)
    (h0 : P.underlying f0.type = some (.int .i64)) (h1 : P.underlying f1.type = some (.int .i64)) (h2 : P.underlying f2.type = some (.int .i64))
    (hval : Value.okWide P w r b0 t v) (hd : DataW.Trod enc P w base spare held t v d p) :
    ∃ (a : Option Addr) (cap : Nat) (xs : List R3), v = .slice a xs.length cap ∧ xs.length ≤ cap ∧ cap ≤ maxLen ∧ Elems enc3 3 w a xs ∧ ∀ x ∈ xs, (Lit.int .i64 x.1).wf = true ∧ (Lit.int .i64 x.2.1).wf = true ∧ (Lit.int .i64 x.2.2).wf = true := by
  obtain ⟨a0, len, cap, rfl⟩ := okWide_slice ht hval
  obtain ⟨fuel, hf⟩ := hd
  rcases open_slice ht hf with ⟨hcs, hx⟩ | ⟨a, len', cap', m, n, D, Pl, hcs, hb, hl, hm, hmm, hx, hi⟩
  · simp [Value.cells] at hcs
    obtain ⟨rfl, rfl, rfl⟩ := hcs
    exact ⟨none, 0, [], rfl, by simp, by simp [maxLen], Or.inl rfl, by simp⟩
  · simp [Value.cells] at hcs
    obtain ⟨rfl, rfl, rfl⟩ := hcs
    have hlm : len ≤ m := by rw [hmm]; split <;> omega
    have key : ∀ i, ∃ x : R3, i < len → (w.cell? (a.add (i * 3)) = some (.int .i64 x.1) ∧ w.cell? (a.add (i * 3 + 1)) = some (.int .i64 x.2.1) ∧ w.cell? (a.add (i * 3 + 2)) = some (.int .i64 x.2.2)) ∧
        (Lit.int .i64 x.1).wf = true ∧ (Lit.int .i64 x.2.1).wf = true ∧ (Lit.int .i64 x.2.2).wf = true := by
      intro i
      by_cases hil : i < len
      · obtain ⟨cs', hc, ht'⟩ := hi i (by omega)
        rw [hC] at hc
        obtain ⟨ys, n', hn', hy, hlen, hyl, hfy⟩ := DataW.trod_struct he ht'
        obtain ⟨_, hcl, hat⟩ := World.cells?_some hc
        have hcell : ∀ j (hj : j < 3), w.cell? (a.add (i * 3 + j)) = some (cs'[j]'(by omega)) := by
          intro j hj
          have := hat j hj
          rw [Go.Deep.add_add] at this
          rw [this, List.getElem?_eq_getElem]
        have field : ∀ (j : Nat) (hj : j < 3) (f : Field), (#[f0, f1, f2] : Array Field)[j]? = some f → P.underlying f.type = some (.int .i64) → ∃ z : Int, w.cell? (a.add (i * 3 + j)) = some (.int .i64 z) ∧ (Lit.int .i64 z).wf = true := by
          intro j hj f hfj hty
          obtain ⟨ho, hk⟩ := hone_of hone j f hfj
          have h1 := hfy j f hfj
          rw [ho, hk] at h1
          have hone' : (cs'.drop j).take 1 = [cs'[j]'(by omega)] := by
            rw [List.drop_eq_getElem_cons (by omega)]
            rfl
          rw [hone'] at h1
          have hys : ys[j]? = some (ys[j]'(by simp at hyl; omega)) := List.getElem?_eq_getElem _
          obtain ⟨z, hz, _, hw⟩ := DataW.trod_int hty (h1.trans hys)
          simp only [List.cons.injEq, and_true] at hz
          exact ⟨z, by rw [hcell j hj, hz], hw⟩
        obtain ⟨z0, c0, w0⟩ := field 0 (by omega) f0 rfl h0
        obtain ⟨z1, c1, w1⟩ := field 1 (by omega) f1 rfl h1
        obtain ⟨z2, c2, w2⟩ := field 2 (by omega) f2 rfl h2
        exact ⟨(z0, z1, z2), fun _ => ⟨⟨by simpa using c0, c1, c2⟩, w0, w1, w2⟩⟩
      · exact ⟨(0, 0, 0), fun h => absurd h hil⟩
    obtain ⟨g, hg⟩ := Classical.axiomOfChoice key
    refine ⟨some a, cap, (List.range len).map g, by simp, by simp; omega, hm, ?_, ?_⟩
    · by_cases hl0 : len = 0
      · subst hl0; exact Or.inl rfl
      · have hsp : a.spot = none := by
          have h := (hg 0 (by omega)).1.1
          simp only [Nat.zero_mul, Addr.add, if_true] at h
          unfold World.cell? at h
          split at h
          · split at h
            · cases h
            · rename_i h'; simpa using h'
          · cases h
        refine Or.inr ⟨a.block, a.off, by cases a; simp at hsp; simp [hsp], fun j hj i u hu => ?_⟩
        have hjl : j < len := by simpa using hj
        have hadd : ∀ q, a.add q = ⟨a.block, a.off + q, none⟩ := by
          intro q
          unfold Addr.add
          split
          · rename_i hq; subst hq; cases a; simp at hsp; simp [hsp]
          · simp
        obtain ⟨⟨c0, c1, c2⟩, _⟩ := hg j hjl
        simp only [List.getElem_map, List.getElem_range] at hu
        rw [hadd] at c0 c1 c2
        match i, hu with
        | 0, hu => simp [enc3] at hu; subst hu; exact c0
        | 1, hu => simp [enc3] at hu; subst hu; exact c1
        | 2, hu => simp [enc3] at hu; subst hu; exact c2
        | i + 3, hu => simp [enc3] at hu
    · intro x hx
      simp only [List.mem_map, List.mem_range] at hx
      obtain ⟨i, hil, rfl⟩ := hx
      exact (hg i hil).2

/-- A slice of integers that came in. -/
theorem open_intlist {w : World} {base : Nat} {spare : Nat → Bool} {held : Bool} {r : Reach} {b0 : Nat} {t e : TypeId} {v : Value} {d : DataW H} {p : List MemPlace}
    (ht : P.underlying t = some (.slice e)) (he : P.underlying e = some (.int .i64)) (hC : P.cellsOf e = 1)
    (hval : Value.okWide P w r b0 t v) (hd : DataW.Trod enc P w base spare held t v d p) :
    ∃ (a : Option Addr) (cap : Nat) (xs : List Int), v = .slice a xs.length cap ∧ xs.length ≤ cap ∧ cap ≤ maxLen ∧ Elems encI 1 w a xs ∧ ∀ x ∈ xs, (Lit.int .i64 x).wf = true := by
  obtain ⟨a0, len, cap, rfl⟩ := okWide_slice ht hval
  obtain ⟨fuel, hf⟩ := hd
  rcases open_slice1 ht hC hf with ⟨hcs, hx⟩ | ⟨a, len', cap', m, n, V, D, Pl, hcs, hb, hl, hm, hmm, hx, hi⟩
  · simp [Value.cells] at hcs
    obtain ⟨rfl, rfl, rfl⟩ := hcs
    exact ⟨none, 0, [], rfl, by simp, by simp [maxLen], Or.inl rfl, by simp⟩
  · simp [Value.cells] at hcs
    obtain ⟨rfl, rfl, rfl⟩ := hcs
    have hlm : len ≤ m := by rw [hmm]; split <;> omega
    have key : ∀ i, ∃ x : Int, i < len → w.cell? (a.add i) = some (.int .i64 x) ∧ (Lit.int .i64 x).wf = true := by
      intro i
      by_cases hil : i < len
      · obtain ⟨hc, ht'⟩ := hi i (by omega)
        obtain ⟨z, hz, _, hw⟩ := DataW.trod_int he ht'
        simp only [List.cons.injEq, and_true] at hz
        exact ⟨z, fun _ => ⟨by rw [hc, hz], hw⟩⟩
      · exact ⟨0, fun h => absurd h hil⟩
    obtain ⟨g, hg⟩ := Classical.axiomOfChoice key
    refine ⟨some a, cap, (List.range len).map g, by simp, by simp; omega, hm, ?_, ?_⟩
    · by_cases hl0 : len = 0
      · subst hl0; exact Or.inl rfl
      · have hsp : a.spot = none := by
          have h := (hg 0 (by omega)).1
          simp only [Addr.add, if_true] at h
          unfold World.cell? at h
          split at h
          · split at h
            · cases h
            · rename_i h'; simpa using h'
          · cases h
        refine Or.inr ⟨a.block, a.off, by cases a; simp at hsp; simp [hsp], fun j hj i u hu => ?_⟩
        have hjl : j < len := by simpa using hj
        have hadd : ∀ q, a.add q = ⟨a.block, a.off + q, none⟩ := by
          intro q
          unfold Addr.add
          split
          · rename_i hq; subst hq; cases a; simp at hsp; simp [hsp]
          · simp
        have c0 := (hg j hjl).1
        simp only [List.getElem_map, List.getElem_range] at hu
        rw [hadd] at c0
        match i, hu with
        | 0, hu => simp [encI] at hu; subst hu; simpa using c0
        | i + 1, hu => simp [encI] at hu
    · intro x hx
      simp only [List.mem_map, List.mem_range] at hx
      obtain ⟨i, hil, rfl⟩ := hx
      exact (hg i hil).2
end
end Go.Proofs.YtannijeiecmjpaaGreatDoor
