/- Saving by saving: what the tours are after the first k of them. No program in sight. -/
import Derived.Test.YtannijeiecmjpaaDoorSavE
namespace Go.Proofs.YtannijeiecmjpaaDoor
open Go.RowKit

/-- After the first k savings. -/
noncomputable def tourK (wants : List Int) (room : Int) (n : Nat) (D : List R3) (k : Nat) : ToursF := savS wants room n ((D.take k).map fun x => (x.2.1.toNat, x.2.2.toNat))
theorem tourK_zero (wants : List Int) (room : Int) (n : Nat) (D : List R3) : tourK wants room n D 0 = startS n := rfl
theorem tourK_succ (wants : List Int) (room : Int) (n : Nat) (D : List R3) (k : Nat) (h : k < D.length) : tourK wants room n D (k + 1) = stepS wants room (tourK wants room n D k) D[k].2.1.toNat D[k].2.2.toNat := by
  unfold tourK savS
  rw [List.take_succ_eq_append_getElem h, List.map_append, List.foldl_append]
  rfl
theorem tourK_all (wants : List Int) (room : Int) (n : Nat) (D : List R3) : tourK wants room n D D.length = savS wants room n (D.map fun x => (x.2.1.toNat, x.2.2.toNat)) := by
  unfold tourK
  rw [List.take_length]
theorem tourK_good (wants : List Int) (room : Int) (n : Nat) (D : List R3) (k : Nat) : GoodS n (tourK wants room n D k) := good_sav _ _ _ _
/-- Nobody fits. -/
theorem stepS_same {n : Nat} {wants : List Int} {room : Int} {T : ToursF} (h : GoodS n T) {i k : Nat} (hno : ∀ f, T f ≠ [] → ¬ (endsAt T f i ∧ f ≠ k)) : stepS wants room T i k = T := by
  by_cases hex : ∃ a, endsAt T a i
  · obtain ⟨a, ha⟩ := hex
    have hne : T a ≠ [] := fun e => by unfold endsAt at ha; rw [e] at ha; cases ha
    refine (stepS_at h ha).2 fun hf => hno a hne ⟨ha, hf.1⟩
  · exact stepS_none fun a ha => hex ⟨a, ha⟩
theorem ends_at_iff {T : ToursF} {f i : Nat} (hne : T f ≠ []) : endsAt T f i ↔ (T f).getD ((T f).length - 1) 0 = (i : Int) := by
  unfold endsAt
  have hl : 0 < (T f).length := List.length_pos_iff.2 hne
  rw [List.getLast?_eq_getElem?, List.getD_eq_getElem?_getD, List.getElem?_eq_getElem (by omega)]
  simp
theorem listS_eq (n : Nat) (T : ToursF) : listS n T = ((List.range n).map T).filter (fun t => !t.isEmpty) := rfl
/-- The tours of the first K places. -/
def listTo (T : ToursF) (K : Nat) : List (List Int) := ((List.range K).map T).filter (fun t => !t.isEmpty)
theorem listTo_succ (T : ToursF) (K : Nat) : listTo T (K + 1) = listTo T K ++ if T K = [] then [] else [T K] := by
  unfold listTo
  rw [List.range_succ, List.map_append, List.filter_append]
  congr 1
  by_cases h : T K = []
  · rw [if_pos h]; simp [h]
  · rw [if_neg h]
    have : (T K).isEmpty = false := by cases hT : T K with
      | nil => exact absurd hT h
      | cons x xs => rfl
    simp [this]
theorem listTo_one {n : Nat} {T : ToursF} (h : GoodS n T) : listTo T 1 = [] := by
  have h0 : T 0 = [] := by
    cases hT : T 0 with
    | nil => rfl
    | cons x xs =>
      obtain ⟨p, hp, h1, _⟩ := h.inn 0 x (by rw [hT]; exact List.mem_cons_self)
      have h2 := h.head 0 (by rw [hT]; simp)
      rw [hT] at h2
      simp at h2
      omega
  simp [listTo, h0]
theorem listTo_le (T : ToursF) (K : Nat) : (listTo T K).length ≤ K := by
  unfold listTo
  have := List.length_filter_le (fun t : List Int => !t.isEmpty) ((List.range K).map T)
  simpa using this
end Go.Proofs.YtannijeiecmjpaaDoor
