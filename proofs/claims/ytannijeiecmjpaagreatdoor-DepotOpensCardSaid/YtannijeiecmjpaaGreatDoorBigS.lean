/- foresightbig's numbers: SetString of decimal digits, IsInt64, Int64. -/
import Derived.Test.YtannijeiecmjpaaGreatDoorBigX
namespace Go.Proofs.YtannijeiecmjpaaGreatDoor
open Go.RowKit

def addM (xs ys : List Int) : List Int := if xs.length < ys.length then addRaw ys xs else addRaw xs ys
theorem add_all (a a2 : Option Addr) (n n2 c c2 : Nat) (xs ys : List Int) (w : World) (hl : n = xs.length) (hl2 : n2 = ys.length) (hx : Elems encU 1 w a xs) (hy : Elems encU 1 w a2 ys) (hW : Words xs) (hW2 : Words ys) (hn : n ≤ 10000) (hn2 : n2 ≤ 10000) :
    Calls Tryz.prog 81 #[.slice a n c, .slice a2 n2 c2] w fun e w' => ∃ m, TrimOf (addM xs ys) m ∧ ∃ a' c', e = .returned (.slice a' m c') ∧ Elems encU 1 w' a' ((addM xs ys).take m) ∧ Below w.heap.size w w' ∧ m ≤ c' ∧ c' ≤ maxLen := by
  unfold addM
  by_cases h : xs.length < ys.length
  · rw [if_pos h]
    exact add_swap a a2 n n2 c c2 xs ys w hl hl2 (by omega) hx hy hW hW2 hn hn2
  · rw [if_neg h]
    exact add_any a a2 n n2 c c2 xs ys w hl hl2 (by omega) hx hy hW hW2 hn hn2
theorem words_addM {xs ys : List Int} (h : Words xs) (h2 : Words ys) : Words (addM xs ys) := by
  unfold addM
  split
  · exact words_add h2 h
  · exact words_add h h2
theorem words_rowOfN {x : Int} (h0 : 0 ≤ x) (h1 : x < 4294967296) : Words (rowOfN x) := by
  unfold rowOfN
  split
  · intro y hy; cases hy
  · intro y hy
    obtain rfl := List.mem_singleton.1 hy
    exact ⟨h0, h1⟩
theorem rowOfN_len (x : Int) : (rowOfN x).length ≤ 1 := by unfold rowOfN; split <;> simp
theorem addM_len (xs ys : List Int) : (addM xs ys).length ≤ max xs.length ys.length + 1 := by
  unfold addM addRaw
  split
  · rw [List.length_append, lowT_len, List.length_singleton]; omega
  · rw [List.length_append, lowT_len, List.length_singleton]; omega
theorem mulRaw_len (xs : List Int) (y : Int) : (mulRaw xs y).length = xs.length + 1 := by
  unfold mulRaw
  rw [List.length_append, lowT_len, List.length_singleton]
theorem addM_small {u D : Int} {m : Nat} (h0 : 0 ≤ u) (d0 : 0 ≤ D) (h1 : u + D < 4294967296) (ht : TrimOf (addM (rowOfN u) (rowOfN D)) m) : (addM (rowOfN u) (rowOfN D)).take m = rowOfN (u + D) := by
  have hu : rowOfN u = if u = 0 then [] else [u] := rfl
  have hD : rowOfN D = if D = 0 then [] else [D] := rfl
  by_cases hu0 : u = 0
  · by_cases hd0 : D = 0
    · subst hu0; subst hd0
      have e : addM (rowOfN 0) (rowOfN 0) = [0] := by simp [addM, rowOfN, addRaw, lowT, carT]
      rw [e] at ht ⊢
      exact trimOf_one ht
    · subst hu0
      have e : addM (rowOfN 0) (rowOfN D) = [D, 0] := by
        rw [hD, if_neg hd0]
        simp only [addM, rowOfN, if_pos, List.length_nil, List.length_singleton]
        rw [if_pos (by omega)]
        exact add_none d0 (by omega)
      rw [e] at ht ⊢
      rw [Int.zero_add]
      exact trimOf_two ht
  · by_cases hd0 : D = 0
    · subst hd0
      have e : addM (rowOfN u) (rowOfN 0) = [u, 0] := by
        rw [hu, if_neg hu0]
        simp only [addM, rowOfN, if_pos, List.length_nil, List.length_singleton]
        rw [if_neg (by omega)]
        exact add_none h0 (by omega)
      rw [e] at ht ⊢
      rw [Int.add_zero]
      exact trimOf_two ht
    · have e : addM (rowOfN u) (rowOfN D) = [u + D, 0] := by
        rw [hu, hD, if_neg hu0, if_neg hd0]
        simp only [addM, List.length_singleton]
        rw [if_neg (by omega)]
        exact add_small h0 d0 h1
      rw [e] at ht ⊢
      exact trimOf_two ht
/-- One digit more. -/
theorem dig_step {v D : Int} {xs P : List Int} {m : Nat} (hx : RowDig v xs) (h0 : 0 ≤ v) (d0 : 0 ≤ D) (d9 : D ≤ 9) (hP : (xs = [] ∧ P = []) ∨ (xs ≠ [] ∧ ∃ k, TrimOf (mulRaw xs 10) k ∧ P = (mulRaw xs 10).take k)) (ht : TrimOf (addM P (rowOfN D)) m) : RowDig (v * 10 + D) ((addM P (rowOfN D)).take m) := by
  have hWP : Words P := by
    rcases hP with ⟨_, rfl⟩ | ⟨_, k, _, rfl⟩
    · intro y hy; cases hy
    · exact words_take (words_mul hx.words (by omega) (by omega)) k
  refine ⟨words_take (words_addM hWP (words_rowOfN d0 (by omega))) m, last_take ht, fun hs => ?_⟩
  have hxr := hx.small (by omega)
  have hPr : P = rowOfN (v * 10) := by
    rcases hP with ⟨h1, rfl⟩ | ⟨h1, k, hk, rfl⟩
    · rw [h1] at hxr
      unfold rowOfN at hxr ⊢
      by_cases hv : v = 0
      · rw [hv]; rfl
      · rw [if_neg hv] at hxr; cases hxr
    · have hv : v ≠ 0 := fun e => h1 (by rw [hxr, e]; rfl)
      have e : mulRaw xs 10 = [v * 10, 0] := by
        rw [hxr]
        unfold rowOfN
        rw [if_neg hv]
        exact mul_small h0 (by omega) (by omega)
      rw [e] at hk ⊢
      exact trimOf_two hk
  subst hPr
  exact addM_small (by omega) d0 hs ht
set_option maxRecDepth 100000 in
set_option maxHeartbeats 4000000 in
theorem give_any (zb : Nat) (ng : Bool) (a : Option Addr) (n c : Nat) (o0 o1 : Value) (w : World) (h0 : w.cell? ⟨zb, 0, none⟩ = some o0) (h1 : w.cell? ⟨zb, 1, none⟩ = some o1) (f0 : w.frozen? ⟨zb, 0, none⟩ = false) (f1 : w.frozen? ⟨zb, 1, none⟩ = false) :
    Calls Tryz.prog 84 #[.pointer (some ⟨zb, 0, none⟩), .bool ng, .slice a n c] w fun e w' => e = .returned (.pointer (some ⟨zb, 0, none⟩)) ∧ w'.cell? ⟨zb, 0, none⟩ = some (.bool (ng && decide (0 < n))) ∧ w'.cell? ⟨zb, 1, none⟩ = some (.slice a n c) ∧ Below zb w w' ∧ w'.heap.size = w.heap.size ∧ (∀ k, k ≠ zb → w'.heap[k]? = w.heap[k]?) := by
  have k0 : (w.setCell ⟨zb, 1, none⟩ (.slice a n c)).cell? ⟨zb, 0, none⟩ = some o0 := by rw [World.cell?_setCell_other _ _ _ _ (by simp)]; exact h0
  have kf : (w.setCell ⟨zb, 1, none⟩ (.slice a n c)).frozen? ⟨zb, 0, none⟩ = false := by rw [World.frozen?_setCell]; exact f0
  have k1 : (w.setCell ⟨zb, 1, none⟩ (.slice a n c)).cell? ⟨zb, 1, none⟩ = some (.slice a n c) := World.cell?_setCell_same _ _ _ h1
  have fin : ∀ b : Bool, ((w.setCell ⟨zb, 1, none⟩ (.slice a n c)).setCell ⟨zb, 0, none⟩ (.bool b)).cell? ⟨zb, 0, none⟩ = some (.bool b) ∧ ((w.setCell ⟨zb, 1, none⟩ (.slice a n c)).setCell ⟨zb, 0, none⟩ (.bool b)).cell? ⟨zb, 1, none⟩ = some (.slice a n c) ∧ Below zb w ((w.setCell ⟨zb, 1, none⟩ (.slice a n c)).setCell ⟨zb, 0, none⟩ (.bool b)) ∧ ((w.setCell ⟨zb, 1, none⟩ (.slice a n c)).setCell ⟨zb, 0, none⟩ (.bool b)).heap.size = w.heap.size ∧ (∀ k, k ≠ zb → ((w.setCell ⟨zb, 1, none⟩ (.slice a n c)).setCell ⟨zb, 0, none⟩ (.bool b)).heap[k]? = w.heap[k]?) := fun b =>
    ⟨World.cell?_setCell_same _ _ _ k0, by rw [World.cell?_setCell_other _ _ _ _ (by simp)]; exact k1, ((Below.refl _ _).setCell (p := ⟨zb, 1, none⟩) (Nat.le_refl _) _).setCell (p := ⟨zb, 0, none⟩) (Nat.le_refl _) _, by simp [World.setCell], fun k hk => (Below.heap_setCell _ _ _ _ (fun e => hk e)).trans (Below.heap_setCell _ _ _ _ (fun e => hk e))⟩
  have HF := Lib.hid fin
  clear fin
  by_cases hn : 0 < n
  · have hd : decide ((0 : Int) < (n : Int)) = true := decide_eq_true (by omega)
    have hd2 : decide (0 < n) = true := decide_eq_true hn
    rw [hd2]
    cases ng
    · go_enter Tryz.func84, Tryz.ntmps84
      go_wp2
      go_ret
      exact ⟨rfl, HF.out false⟩
    · go_enter Tryz.func84, Tryz.ntmps84
      go_wp2
      go_ret
      exact ⟨rfl, HF.out true⟩
  · have hd : decide ((0 : Int) < (n : Int)) = false := decide_eq_false (by omega)
    have hd2 : decide (0 < n) = false := decide_eq_false hn
    rw [hd2, Bool.and_false]
    cases ng
    · go_enter Tryz.func84, Tryz.ntmps84
      go_wp2
      go_ret
      exact ⟨rfl, HF.out false⟩
    · go_enter Tryz.func84, Tryz.ntmps84
      go_wp2
      go_ret
      exact ⟨rfl, HF.out false⟩
end Go.Proofs.YtannijeiecmjpaaGreatDoor
