/- coin.Steps: the rows of what stands there behind each letter. -/
import Derived.Test.YtkfjmmoljhekiaaDoorCoinM
import Derived.Test.YtkfjmmoljhekiaaDoorLawlerM
import Derived.Test.YtkfjmmoljhekiaaDoorRow2
import Derived.Test.YtkfjmmoljhekiaaDoorRows2
import Derived.Test.YtkfjmmoljhekiaaDoorRows
import Derived.Test.YtkfjmmoljhekiaaDoorTell
import Derived.Laws.CopyOwn
namespace Go.Proofs.YtkfjmmoljhekiaaDoor
open Go.RowKit
theorem rowC : RowOf Tryd.prog 27 3 (.int .i64 0) 1 8 := rowOf Tryd.underlying27 (by kernel_rfl) rfl (by decide)
theorem rowCC : RowOf Tryd.prog 48 27 (.slice none 0 0) 1 24 := rowOf Tryd.underlying48 (by kernel_rfl) rfl (by decide)

/-- A row of the call's own is filled with another one. -/
theorem copy_row {P : Program} {w : World} {ops : Array Oper} {rest : List Oper} {o : Oper} {a : Act} {Q : Exit → Act → World → Prop} (hgd : o.guard = none) (d s : Operand) (dT sT : TypeId)
    (ho : o.op = .call { callee := .builtin .copy, args := #[d, s], argTypes := #[dT, sT] }) (elem : TypeId) (hu : P.underlying dT = some (.slice elem)) (hsz : (P.info? elem).map (·.size) = some 1)
    {base e g L : Nat} {xs : List Value} (hown : w.ownsRow base e 1 (.slice (some ⟨g, 0, none⟩) L L) L xs) (ad : Addr) (sCap : Nat) (hd : a.eval d = .slice (some ⟨g, 0, none⟩) L L) (hs : a.eval s = .slice (some ad) L sCap)
    (cs : List Value) (hn : cs.length = L) (hsrc : ∀ j v, cs[j]? = some v → w.cell? (ad.add j) = some v) (h1 : ∀ v ∈ cs, v.oneCell' = true)
    (h : ∀ w', w'.ownsRow base e 1 (.slice (some ⟨g, 0, none⟩) L L) L cs → w.grownBy w' (some g) → wpList P ops Q rest (a.put o.dst (goInt L)) w') : wpList P ops Q (o :: rest) a w := by
  rcases hown.2 with ⟨h2, _⟩ | ⟨g', cap', cur, h2, hb, hg, hnc, hcm, hcs, htake⟩
  · cases h2
  · obtain ⟨h3, _, h4⟩ := Value.slice.inj h2
    simp only [Option.some.injEq, Addr.mk.injEq, and_true] at h3
    subst h3; subst h4
    have hrow : (cur.toList.take 0 ++ (cs ++ cur.toList.drop (0 + cs.length))) = cs := by
      rw [List.take_zero, List.nil_append, List.drop_eq_nil_of_le (by rw [Array.length_toList, hcs, hn]; omega), List.append_nil]
    refine wpList_copy_own hgd d s dT sT ho elem hu hsz g 0 L L ad L sCap hd hs cur e hg cs (by rw [hn]; exact (Nat.min_self L).symm) hsrc (by rw [hcs, hn]; omega) h1 ?_
    rw [hrow, hn]
    refine h _ ⟨by rw [hn, Nat.mul_one], Or.inr ⟨g, L, cs.toArray, rfl, hb, setRow_heap w g _ _ e _ hg, hnc, hcm, by simp [hn], by rw [Nat.mul_one]; exact List.take_of_length_le (by rw [hn]; exact Nat.le_refl _)⟩⟩ ?_
    exact ⟨rfl, rfl, rfl, by simp [World.setRow], fun k _ hk => setRow_other w g k _ (fun h5 => hk (by rw [h5]))⟩

/-- Rows of the call's own, in a row of the call's own: their blocks and rooms. -/
abbrev hdOf (L : Nat) (q : Nat × Nat) : Value := .slice (some ⟨q.1, 0, none⟩) L q.2
def RowsOwn (w : World) (base L : Nat) (v : Value) (G : List (Nat × Nat)) (f : Nat → Nat → Int) : Prop :=
  w.ownsRow base 27 1 v G.length (G.map (hdOf L)) ∧
    ∀ j (h : j < G.length), v.ownBlock ≠ some G[j].1 ∧ L ≤ G[j].2 ∧ G[j].2 ≤ maxLen ∧ w.ownsRow base 3 1 (hdOf L G[j]) L ((tabI L (f j)).map (Value.int .i64))
theorem RowsOwn.at {w w' : World} {base L : Nat} {v : Value} {G : List (Nat × Nat)} {f : Nat → Nat → Int} (h : RowsOwn w base L v G f) (hb : Below w.heap.size w w') : RowsOwn w' base L v G f :=
  ⟨owns_at h.1 hb, fun j hj => ⟨(h.2 j hj).1, (h.2 j hj).2.1, (h.2 j hj).2.2.1, owns_at (h.2 j hj).2.2.2 hb⟩⟩
theorem RowsOwn.kept {w w' : World} {base L : Nat} {v : Value} {G : List (Nat × Nat)} {f : Nat → Nat → Int} (h : RowsOwn w base L v G f) {g : Nat} (hg : w.grownBy w' (some g)) (h1 : v.ownBlock ≠ some g) (h2 : ∀ j (hj : j < G.length), G[j].1 ≠ g) : RowsOwn w' base L v G f :=
  ⟨h.1.kept hg (Or.inr h1), fun j hj => ⟨(h.2 j hj).1, (h.2 j hj).2.1, (h.2 j hj).2.2.1, (h.2 j hj).2.2.2.kept hg (Or.inr (by simp [Value.ownBlock]; exact h2 j hj))⟩⟩
theorem RowsOwn.lt {w : World} {base L : Nat} {v : Value} {G : List (Nat × Nat)} {f : Nat → Nat → Int} (h : RowsOwn w base L v G f) (j : Nat) (hj : j < G.length) : G[j].1 < w.heap.size := (owns_base (h.2 j hj).2.2.2).2
/-- One row more. -/
theorem RowsOwn.more {w w' : World} {base L : Nat} {v v' : Value} {G : List (Nat × Nat)} {f : Nat → Nat → Int} {g c : Nat} {fg : Nat → Int} (h : RowsOwn w base L v G f) (hg : w.grownBy w' v.ownBlock) (hv : v'.ownBlock = v.ownBlock ∨ ∀ q, v'.ownBlock = some q → w.heap.size ≤ q)
    (hown : w'.ownsRow base 27 1 v' (G.length + 1) (G.map (hdOf L) ++ [hdOf L (g, c)])) (hc1 : L ≤ c) (hc2 : c ≤ maxLen) (hgo : w.ownsRow base 3 1 (hdOf L (g, c)) L ((tabI L fg).map (Value.int .i64))) (hne : v.ownBlock ≠ some g) :
    RowsOwn w' base L v' (G ++ [(g, c)]) (fun j => if j = G.length then fg else f j) := by
  refine ⟨by simpa using hown, fun j hj => ?_⟩
  have hap : ∀ q, q < w.heap.size → v.ownBlock ≠ some q → v'.ownBlock ≠ some q := by
    intro q hq hvq
    rcases hv with hv | hv
    · rw [hv]; exact hvq
    · intro hb
      have := hv q hb
      omega
  by_cases hjl : j < G.length
  · have e1 : (G ++ [(g, c)])[j] = G[j] := List.getElem_append_left hjl
    obtain ⟨h1, h2, h3, h4⟩ := h.2 j hjl
    rw [e1]
    simp only [if_neg (show ¬ j = G.length by omega)]
    exact ⟨hap _ (h.lt j hjl) h1, h2, h3, h4.kept hg (Or.inr (fun h5 => h1 (by rw [← h5]; rfl)))⟩
  · have hje : j = G.length := by simp at hj; omega
    have e1 : (G ++ [(g, c)])[j] = (g, c) := by subst hje; simp
    rw [e1]
    simp only [if_pos hje]
    exact ⟨hap _ (owns_base hgo).2 hne, hc1, hc2, hgo.kept hg (Or.inr (fun h5 => hne (by rw [← h5]; rfl)))⟩
theorem RowsOwn.congr {w : World} {base L : Nat} {v : Value} {G : List (Nat × Nat)} {f f' : Nat → Nat → Int} (h : RowsOwn w base L v G f) (he : ∀ j, j < G.length → ∀ y, y < L → f' j y = f j y) : RowsOwn w base L v G f' :=
  ⟨h.1, fun j hj => ⟨(h.2 j hj).1, (h.2 j hj).2.1, (h.2 j hj).2.2.1, by rw [← tabI_congr (he j hj)]; exact (h.2 j hj).2.2.2⟩⟩
/-- They lie as a slice of slices. -/
theorem RowsOwn.rows {w : World} {base L n : Nat} {v : Value} {G : List (Nat × Nat)} {f : Nat → Nat → Int} (h : RowsOwn w base L v G f) (hn : G.length = n) : ∃ a c, v = .slice a n c ∧ Rows2 w a ((List.range n).map fun j => tabI L (f j)) := by
  subst hn
  rcases h.1.2 with ⟨h2, h3⟩ | ⟨g, cap, cur, h2, hb, hg, hnc, hcm, hcs, ht⟩
  · exact ⟨none, 0, by rw [h2, h3], Or.inl (by rw [h3]; rfl)⟩
  · subst h2
    refine ⟨_, cap, rfl, Or.inr ⟨g, 0, rfl, fun j hj => ?_⟩⟩
    have hjG : j < G.length := by simpa using hj
    obtain ⟨h4, h5, h6, h7⟩ := h.2 j hjG
    have hc := h.1.cells (g := g) rfl j (hdOf L G[j]) (by rw [List.getElem?_map, List.getElem?_eq_getElem hjG]; rfl)
    have hadd : (⟨g, 0, none⟩ : Addr).add j = ⟨g, 0 + j, none⟩ := by
      unfold Addr.add
      split
      · rename_i h0; simp only [Nat.zero_add, h0]
      · simp only [Nat.zero_add]
    rw [hadd] at hc
    obtain ⟨a', c', he0, he, _⟩ := ints_of_owns (tabI_len _ _).symm h7
    obtain ⟨rfl, _, rfl⟩ := Value.slice.inj he0
    refine ⟨some ⟨G[j].1, 0, none⟩, G[j].2, ?_, ?_, h6, ?_⟩
    · rw [hc]; simp [hdOf, tabI_len]
    · simp [tabI_len]; exact h5
    · simpa using he

def stepsErr (letters : Int) (word : List Int) : Int :=
  if letters < 1 ∨ 100 < letters ∨ (word.length : Int) < 1 ∨ (12 : Int) < word.length then 4 else if word.any (fun x => decide (x < 0) || decide (letters ≤ x)) = true then 2 else 0
def rowF (word : List Int) (j : Nat) (y : Nat) : Int := (rowM word j (y : Int) : Nat)
end Go.Proofs.YtkfjmmoljhekiaaDoor
