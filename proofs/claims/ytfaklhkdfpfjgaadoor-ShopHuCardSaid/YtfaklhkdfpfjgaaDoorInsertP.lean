/- A piece of a row is copied one place further in the row itself: what the row holds behind it. -/
import Derived.Test.YtfaklhkdfpfjgaaDoorSortW
import Derived.Laws.CopyOwn
namespace Go.Proofs.YtfaklhkdfpfjgaaDoor
open Go.RowKit

theorem row_get {n t : Nat} {r : RowF} (h : t < n) : (rowV n r)[t]? = some (.int .i64 (r t)) := by
  simp [rowV, tab, h]
theorem row_none {n t : Nat} {r : RowF} (h : n ≤ t) : (rowV n r)[t]? = none := by
  simp [rowV, tab, h]
theorem row_same {n : Nat} {r r' : RowF} (h : ∀ t, t < n → r t = r' t) : rowV n r = rowV n r' := by
  refine List.ext_getElem? fun t => ?_
  rcases Nat.lt_or_ge t n with g | g
  · rw [row_get g, row_get g, h t g]
  · rw [row_none g, row_none g]
def cellsOf (r : RowF) (j c : Nat) : List Value := (seg r j (j + c)).map (Value.int .i64)
theorem cellsOf_len (r : RowF) (j c : Nat) : (cellsOf r j c).length = c := by simp [cellsOf, seg]
theorem cellsOf_get {r : RowF} {j c t : Nat} (h : t < c) : (cellsOf r j c)[t]? = some (.int .i64 (r (j + t))) := by
  simp [cellsOf, seg, h]
theorem cellsOf_one (r : RowF) (j c : Nat) : ∀ v ∈ cellsOf r j c, v.oneCell' = true := by
  intro v hv
  simp only [cellsOf, List.mem_map] at hv
  obtain ⟨x, _, rfl⟩ := hv
  rfl
theorem copied_tab {cur : List Value} {n j c : Nat} {r : RowF} (h : cur.take n = rowV n r) (hn : n ≤ cur.length) (hjc : j + 1 + c ≤ n) :
    (splice cur (j + 1) (cellsOf r j c)).take n = rowV n (fun t => if j + 1 ≤ t ∧ t < j + 1 + c then r (t - 1) else r t) := by
  have hcur : ∀ t, t < n → cur[t]? = some (.int .i64 (r t)) := fun t ht => by
    have := congrArg (fun l => l[t]?) h
    simp only [List.getElem?_take, ht, if_true] at this
    rw [this, row_get ht]
  refine List.ext_getElem? fun t => ?_
  rcases Nat.lt_or_ge t n with g | g
  · rw [List.getElem?_take, if_pos g, row_get g]
    unfold splice
    rcases Nat.lt_or_ge t (j + 1) with g1 | g1
    · rw [List.getElem?_append_left (by simp; omega), List.getElem?_take, if_pos g1, hcur t g, if_neg (by omega)]
    · rw [List.getElem?_append_right (by simp; omega), List.length_take, Nat.min_eq_left (by omega)]
      rcases Nat.lt_or_ge t (j + 1 + c) with g2 | g2
      · rw [List.getElem?_append_left (by rw [cellsOf_len]; omega), cellsOf_get (by omega), if_pos ⟨g1, g2⟩]
        congr 3; omega
      · rw [List.getElem?_append_right (by rw [cellsOf_len]; omega), cellsOf_len, List.getElem?_drop, if_neg (by omega)]
        rw [show j + 1 + c + (t - (j + 1) - c) = t by omega]
        exact hcur t g
  · rw [List.getElem?_take, if_neg (by omega), row_none g]

/-- The block of an own row, whole. -/
theorem owns_block {w : World} {base e : Nat} {v : Value} {n : Nat} {r : RowF} (h : w.ownsRow base e 1 v n (rowV n r)) (hn : 0 < n) :
    ∃ g cap cur, v = .slice (some ⟨g, 0, none⟩) n cap ∧ base ≤ g ∧ g < w.heap.size ∧ w.heap[g]? = some (.cells (List.toArray cur) e (0, 0)) ∧ n ≤ cap ∧ cap ≤ maxLen ∧ cur.length = cap ∧ cur.take n = rowV n r := by
  have hlt := h.lt
  rcases h.2 with ⟨_, h0⟩ | ⟨g, cap, cur, rfl, hg, hh, hc, hm, hs, ht⟩
  · omega
  · exact ⟨g, cap, cur.toList, rfl, hg, (hlt g rfl).2, by simpa using hh, hc, hm, by simpa using hs, by simpa using ht⟩
theorem owns_of_block {w : World} {base e g cap n : Nat} {cur : List Value} {r : RowF} (hg : base ≤ g) (hh : w.heap[g]? = some (.cells (List.toArray cur) e (0, 0))) (hc : n ≤ cap) (hm : cap ≤ maxLen) (hl : cur.length = cap) (ht : cur.take n = rowV n r) :
    w.ownsRow base e 1 (.slice (some ⟨g, 0, none⟩) n cap) n (rowV n r) :=
  ⟨by simp [rowV, tab], .inr ⟨g, cap, cur.toArray, rfl, hg, hh, hc, hm, by simpa using hl, by simpa using ht⟩⟩
theorem row_app {n : Nat} (r : RowF) (x : Int) : rowV n r ++ [Value.int .i64 x] = rowV (n + 1) (fun t => if t = n then x else r t) := by
  refine List.ext_getElem? fun t => ?_
  have hl : (rowV n r).length = n := by simp [rowV, tab]
  rcases Nat.lt_or_ge t n with g | g
  · rw [List.getElem?_append_left (by omega), row_get g, row_get (by omega), if_neg (by omega)]
  · rw [List.getElem?_append_right (by omega), hl]
    rcases Nat.lt_or_ge t (n + 1) with g2 | g2
    · obtain rfl : t = n := by omega
      rw [row_get g2, if_pos rfl, Nat.sub_self]; rfl
    · rw [row_none g2]
      simp; omega
end Go.Proofs.YtfaklhkdfpfjgaaDoor
