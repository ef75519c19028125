/- Small words on sorted rows: that they are one; a row filled with 0, 1, ..; how a function value is entered. -/
import Derived.Test.YtfaklhkdfpfjgaaDoorSortT
import Derived.Test.YtfaklhkdfpfjgaaDoorInsert
namespace Go.Proofs.YtfaklhkdfpfjgaaDoor
open Go.RowKit

theorem enter_of {P : Program} {f : FuncId} {fn : Func} {c : Code} (hf : P.funcs[f]? = some fn) (hname : (fn.name == "runtime.NumGoroutine") = false) (hb : fn.body = some c) : ∀ args w, (callFunc f args).run P w = .ok (.enter f args) w := by
  intro args w
  have h1 : fn.name ≠ "runtime.NumGoroutine" := by simpa using hname
  simp [callFunc, hf, h1, hb, mark]
/-- The row of a sort: of like ones the smaller number first. -/
def Sorted (lt : Int → Int → Bool) (n : Nat) (ys : List Int) : Prop := ∃ r, ys = tab n r ∧ SrtF lt 0 n r ∧ OkF 0 n idF r
theorem Sorted.one {lt : Int → Int → Bool} (O : SWk lt) {n : Nat} {ys zs : List Int} (h : Sorted lt n ys) (k : Sorted lt n zs) : ys = zs := by
  obtain ⟨r, rfl, h1, h2⟩ := h
  obtain ⟨q, rfl, k1, k2⟩ := k
  exact sorted_one O (srt_pairwise h1) (srt_pairwise k1) ((ok_perm h2).trans (ok_perm k2).symm)
theorem Sorted.len {lt : Int → Int → Bool} {n : Nat} {ys : List Int} (h : Sorted lt n ys) : ys.length = n := by
  obtain ⟨r, rfl, _, _⟩ := h
  exact tab_len _ _
def fillF (k : Nat) : RowF := fun t => if t < k then (t : Int) else 0
theorem fill_zero (n : Nat) : (List.replicate n (0 : Int)).map (Value.int .i64) = rowV n (fillF 0) := by
  refine List.ext_getElem? fun t => ?_
  rcases Nat.lt_or_ge t n with g | g
  · rw [row_get g]; simp [g, fillF]
  · rw [row_none g]; simp [g]
theorem fill_succ (n k : Nat) : (tab n (fillF k)).set k (k : Int) = tab n (fillF (k + 1)) := by
  rw [tab_set]
  congr 1
  funext t
  unfold fillF
  by_cases h : t = k
  · subst h; simp
  · by_cases h2 : t < k
    · rw [if_neg h, if_pos h2, if_pos (by omega)]
    · rw [if_neg h, if_neg h2, if_neg (by omega)]
theorem fill_done (n : Nat) : rowV n (fillF n) = rowV n idF := row_same fun _ ht => if_pos ht

theorem ltf_true {f : Int → Int → Int} {x y : Int} : ltf f x y = true ↔ f x y < 0 := by unfold ltf; exact decide_eq_true_iff
theorem ltf_false {f : Int → Int → Int} {x y : Int} : ltf f x y = false ↔ 0 ≤ f x y := by unfold ltf; rw [decide_eq_false_iff_not]; omega
end Go.Proofs.YtfaklhkdfpfjgaaDoor
