/- A row of tours that is handed back: a slice of slices. -/
import Derived.Test.YtannijeiecmjpaaDoorTourS
import Derived.Test.YtannijeiecmjpaaDoorRows2
import Derived.Test.YtannijeiecmjpaaDoorSavK
namespace Go.Proofs.YtannijeiecmjpaaDoor
open Go.RowKit

/-- The places below K that begin a tour. -/
def firsts (T : ToursF) (K : Nat) : List Nat := (List.range K).filter (fun f => !(T f).isEmpty)
theorem firsts_list (T : ToursF) (K : Nat) : (firsts T K).map T = listTo T K := by
  unfold firsts listTo
  rw [List.filter_map]
  rfl
theorem firsts_succ (T : ToursF) (K : Nat) : firsts T (K + 1) = firsts T K ++ if T K = [] then [] else [K] := by
  unfold firsts
  rw [List.range_succ, List.filter_append]
  congr 1
  by_cases h : T K = []
  · rw [if_pos h]; simp [h]
  · rw [if_neg h]
    have : (T K).isEmpty = false := by cases hT : T K with
      | nil => exact absurd hT h
      | cons x xs => rfl
    simp [this]
theorem firsts_le (T : ToursF) (K : Nat) : (firsts T K).length ≤ K := by
  have := listTo_le T K
  rw [← firsts_list, List.length_map] at this
  exact this
theorem firsts_one {n : Nat} {T : ToursF} (h : GoodS n T) : firsts T 1 = [] := by
  have := listTo_one h
  rw [← firsts_list] at this
  simpa using this
theorem cap_of_owns {w : World} {base e n : Nat} {v : Value} {xs : List Int} (hn : n = xs.length) (h : w.ownsRow base e 1 v n (xs.map (Value.int .i64))) : ∃ a cap, v = .slice a xs.length cap ∧ Elems encI 1 w a xs ∧ xs.length ≤ cap ∧ cap ≤ maxLen ∧ (a = none → cap = 0) := by
  subst hn
  obtain ⟨a, cap, rfl, h1, h2⟩ := ints_of_owns rfl h
  refine ⟨a, cap, rfl, h1, h2, ?_⟩
  rcases h.2 with ⟨hv, h0⟩ | ⟨g, cap', cur, hv, hg, hh, hc, hm, hs, ht⟩
  · obtain ⟨e1, _, e3⟩ := Value.slice.inj hv
    exact ⟨by rw [e3]; exact Nat.zero_le _, fun _ => e3⟩
  · obtain ⟨e1, _, e3⟩ := Value.slice.inj hv
    exact ⟨by rw [e3]; exact hm, fun e => by rw [e] at e1; cases e1⟩
theorem rows2_of_owns {w : World} {base base2 e : Nat} {v : Value} {T : ToursF} {V : Nat → Value} {F : List Nat} (H : ToursAt w base T V) (h : w.ownsRow base2 e 1 v F.length (F.map V)) : ∃ a cap, v = .slice a F.length cap ∧ Rows2 w a (F.map T) := by
  rcases h.2 with ⟨rfl, h0⟩ | ⟨g, cap, cur, rfl, hg, hh, hc, hm, hs, ht⟩
  · have : F = [] := List.eq_nil_of_length_eq_zero h0
    subst this
    exact ⟨none, 0, rfl, Or.inl rfl⟩
  · refine ⟨_, cap, rfl, Or.inr ⟨g, 0, rfl, fun j hj => ?_⟩⟩
    have hj2 : j < F.length := by simpa using hj
    obtain ⟨a', c', k1, k2, k3, k4, _⟩ := cap_of_owns rfl (show w.ownsRow base 3 1 (V F[j]) (T F[j]).length ((T F[j]).map (Value.int .i64)) from H.row F[j])
    have h1 := h.cellAt (g := g) (cap := cap) j (by omega)
    refine ⟨a', c', ?_, ?_, k4, ?_⟩
    · rw [Nat.zero_add, h1, List.getElem?_map, List.getElem?_eq_getElem hj2]
      simp only [Option.map_some, List.getElem_map]
      rw [k1]
    · simp only [List.getElem_map]; exact k3
    · simp only [List.getElem_map]; exact k2
end Go.Proofs.YtannijeiecmjpaaDoor
