/- Gates (21.1): what is wrong with them, which of them work; what a memo of them holds. No program in sight. -/
import Derived.Test.YtfaklhkdfpfjgaaDoorGateL
import Derived.Maps.OwnSet
namespace Go.Proofs.YtfaklhkdfpfjgaaDoor
open Go.RowKit

def badPart (n : Int) (g : Nat) (k : Int) : Bool := decide (n ≤ k) || decide (k < -(g : Int))
def gateErr (n : Int) (g : Nat) (x : GateT) : Int := if 20 < x.2.length then 4 else if x.1 < 0 ∨ (x.2.length : Int) < x.1 then 1 else if x.2.any (badPart n g) = true then 2 else 0
def gatesFrom (n : Int) (g : Nat) : List GateT → Int
  | [] => 0
  | x :: xs => if gateErr n g x ≠ 0 then gateErr n g x else gatesFrom n (g + 1) xs
def gatesCheck (n : Int) (L : List GateT) : Int := if n < 1 ∨ 10 < n ∨ L.length < 1 ∨ 20 < L.length then 4 else gatesFrom n 0 L
theorem gates_here (n : Int) (L : List GateT) (k : Nat) (h : k < L.length) : gatesFrom n k (L.drop k) = if gateErr n k L[k] ≠ 0 then gateErr n k L[k] else gatesFrom n (k + 1) (L.drop (k + 1)) := by
  rw [List.drop_eq_getElem_cons h]
  rfl
theorem gates_done (n : Int) (L : List GateT) (k : Nat) : gatesFrom n k (L.drop L.length) = 0 := by simp [gatesFrom]
/-- A gate that is right. -/
def GateOk (n : Int) (g : Nat) (x : GateT) : Prop := x.2.length ≤ 20 ∧ 0 ≤ x.1 ∧ x.1 ≤ x.2.length ∧ ∀ k ∈ x.2, k < n ∧ -(g : Int) ≤ k
theorem gate_ok {n : Int} {g : Nat} {x : GateT} (h : gateErr n g x = 0) : GateOk n g x := by
  unfold gateErr at h
  by_cases h1 : 20 < x.2.length
  · rw [if_pos h1] at h; omega
  rw [if_neg h1] at h
  by_cases h2 : x.1 < 0 ∨ (x.2.length : Int) < x.1
  · rw [if_pos h2] at h; omega
  rw [if_neg h2] at h
  by_cases h3 : x.2.any (badPart n g) = true
  · rw [if_pos h3] at h; omega
  refine ⟨by omega, by omega, by omega, fun k hk => ?_⟩
  have h4 : badPart n g k = false := by
    cases hq : badPart n g k with
    | false => rfl
    | true => exact absurd (List.any_eq_true.2 ⟨k, hk, hq⟩) h3
  simp only [badPart, Bool.or_eq_false_iff, decide_eq_false_iff_not] at h4
  omega
theorem gatesFrom_ok {n : Int} : ∀ {L : List GateT} {g : Nat}, gatesFrom n g L = 0 → ∀ j (h : j < L.length), GateOk n (g + j) L[j]
  | [], _, _, j, h => by simp at h
  | x :: xs, g, h, j, hj => by
    unfold gatesFrom at h
    by_cases h1 : gateErr n g x ≠ 0
    · rw [if_pos h1] at h; exact absurd h h1
    rw [if_neg h1] at h
    rcases j with _ | j
    · exact gate_ok (Classical.not_not.1 h1)
    · have := gatesFrom_ok h j (by simpa using hj)
      rw [show g + 1 + j = g + (j + 1) by omega] at this
      exact this
theorem gatesCheck_ok {n : Int} {L : List GateT} (h : gatesCheck n L = 0) : 1 ≤ n ∧ n ≤ 10 ∧ 1 ≤ L.length ∧ L.length ≤ 20 ∧ ∀ j (h : j < L.length), GateOk n j L[j] := by
  unfold gatesCheck at h
  by_cases h1 : n < 1 ∨ 10 < n ∨ L.length < 1 ∨ 20 < L.length
  · rw [if_pos h1] at h; omega
  rw [if_neg h1] at h
  refine ⟨by omega, by omega, by omega, by omega, fun j hj => ?_⟩
  have := gatesFrom_ok h j hj
  rwa [Nat.zero_add] at this

/-- Which of them work, one by one; P: the parts that do. -/
def liveG (P : Nat → Bool) (gs : List Bool) (k : Int) : Bool := if 0 ≤ k then P k.toNat else gs.getD (-k - 1).toNat false
def gateG (P : Nat → Bool) (gs : List Bool) (x : GateT) : Bool := decide (x.1 ≤ (x.2.countP (liveG P gs) : Nat))
def gatesG (P : Nat → Bool) (L : List GateT) : Nat → List Bool
  | 0 => []
  | k + 1 => gatesG P L k ++ [gateG P (gatesG P L k) (L.getD k (0, []))]
def valG (P : Nat → Bool) (L : List GateT) (j : Nat) : Bool := gateG P (gatesG P L j) (L.getD j (0, []))
def worksG (P : Nat → Bool) (L : List GateT) : Bool := valG P L (L.length - 1)
theorem gatesG_len (P : Nat → Bool) (L : List GateT) : ∀ k, (gatesG P L k).length = k
  | 0 => rfl
  | k + 1 => by unfold gatesG; rw [List.length_append, gatesG_len P L k]; rfl
theorem gatesG_get (P : Nat → Bool) (L : List GateT) : ∀ k j, j < k → (gatesG P L k).getD j false = valG P L j
  | 0, j, h => by omega
  | k + 1, j, h => by
    unfold gatesG
    by_cases hj : j < k
    · rw [← gatesG_get P L k j hj]
      simp [List.getD, List.getElem?_append_left (show j < (gatesG P L k).length by rw [gatesG_len]; exact hj)]
    · obtain rfl : j = k := by omega
      have h1 := gatesG_len P L j
      simp [List.getD, h1]
      rfl
/-- The same, from the whole down. -/
def liveV (P : Nat → Bool) (L : List GateT) (k : Int) : Bool := if 0 ≤ k then P k.toNat else valG P L (-k - 1).toNat
theorem live_same {P : Nat → Bool} {L : List GateT} {j : Nat} {k : Int} (hk : -(j : Int) ≤ k) : liveG P (gatesG P L j) k = liveV P L k := by
  unfold liveG liveV
  by_cases h : 0 ≤ k
  · rw [if_pos h, if_pos h]
  · rw [if_neg h, if_neg h, gatesG_get P L j _ (by omega)]
theorem val_down {P : Nat → Bool} {L : List GateT} {n : Int} {j : Nat} (hj : j < L.length) (h : GateOk n j L[j]) : valG P L j = decide (L[j].1 ≤ ((L[j].2.countP (liveV P L) : Nat) : Int)) := by
  have h0 : L.getD j (0, []) = L[j] := by simp [List.getD, hj]
  unfold valG gateG
  rw [h0, List.countP_congr (p := liveG P (gatesG P L j)) (q := liveV P L) (fun k hk => by rw [live_same (h.2.2.2 k hk).2])]
theorem count_take {α : Type} (p : α → Bool) (l : List α) (i : Nat) (h : i < l.length) : (l.take (i + 1)).countP p = (l.take i).countP p + if p l[i] = true then 1 else 0 := by
  rw [List.take_succ_eq_append_getElem h, List.countP_append, List.countP_singleton]
theorem count_le {α : Type} (p : α → Bool) (l : List α) (i : Nat) : (l.take i).countP p ≤ i := Nat.le_trans List.countP_le_length (by rw [List.length_take]; omega)

/-- What a memo holds is true, and it holds none but numbers of gates. -/
def memoCnt {H : Type} (D : DataW H) : Nat := (List.range 20).countP (fun j : Nat => Maps.has D (.int .i64 (j : Int)))
def MemoOk {H : Type} (V : Nat → Bool) (D : DataW H) : Prop :=
  Maps.Tidy D ∧ Maps.size D ≤ memoCnt D ∧ ∀ j : Nat, j < 20 → Maps.has D (.int .i64 (j : Int)) = true → ∀ z, D.atKey (.int .i64 (j : Int)) z = .lit (.bool (V j))
theorem memo_size {H : Type} {V : Nat → Bool} {D : DataW H} (h : MemoOk V D) : Maps.size D ≤ 20 := by
  refine Nat.le_trans h.2.1 ?_
  unfold memoCnt
  refine Nat.le_trans List.countP_le_length ?_
  simp
theorem memo_none {H : Type} (V : Nat → Bool) : MemoOk V (.map [] : DataW H) := by
  refine ⟨Maps.tidy_empty, by rw [Maps.size_eq]; simp, fun j _ h => ?_⟩
  rw [Maps.has_eq] at h
  simp at h
theorem isKey_int (j : Nat) : WideAt.IsKeyLit (.int .i64 (j : Int)) := by simp [WideAt.IsKeyLit]
theorem count_more {p q : Nat → Bool} {k : Nat} (hp : p k = false) (hq : q k = true) : ∀ n : Nat, k < n → (∀ j, j < n → j ≠ k → q j = p j) → (List.range n).countP q = (List.range n).countP p + 1 := by
  intro n
  induction n with
  | zero => intro h; omega
  | succ n ih =>
    intro h he
    rw [List.range_succ, List.countP_append, List.countP_append]
    by_cases hk : k = n
    · subst hk
      have : (List.range k).countP q = (List.range k).countP p := List.countP_congr (fun j hj => by rw [he j (by have := List.mem_range.1 hj; omega) (by have := List.mem_range.1 hj; omega)])
      rw [this]
      simp [hp, hq]
    · have h1 := ih (by omega) (fun j hj hn => he j (by omega) hn)
      simp only [List.countP_cons, List.countP_nil, he n (by omega) (fun h => hk h.symm)]
      omega
theorem memo_put {H : Type} {V : Nat → Bool} {D : DataW H} (h : MemoOk V D) {g : Nat} (hg : g < 20) : MemoOk V (D.put (.int .i64 (g : Int)) (.lit (.bool (V g)))) := by
  have hne : ∀ j : Nat, j ≠ g → (Lit.int .i64 (j : Int)) ≠ .int .i64 (g : Int) := fun j hj h2 => hj (by injection h2 with _ h3; omega)
  have hoth : ∀ j : Nat, j ≠ g → Maps.has (D.put (.int .i64 (g : Int)) (.lit (.bool (V g)))) (.int .i64 (j : Int)) = Maps.has D (.int .i64 (j : Int)) := fun j hj => Maps.has_put_other (hne j hj) _
  have hown := Maps.has_put_same h.1.isMap (isKey_int g) (.lit (.bool (V g)))
  refine ⟨h.1.put (isKey_int g) _, ?_, fun j hj hh z => ?_⟩
  · rw [Maps.size_put h.1]
    have h2 := h.2.1
    by_cases hh : Maps.has D (.int .i64 (g : Int)) = true
    · rw [if_pos hh]
      have : memoCnt (D.put (.int .i64 (g : Int)) (.lit (.bool (V g)))) = memoCnt D := by
        unfold memoCnt
        refine List.countP_congr (fun j _ => ?_)
        by_cases hj : j = g
        · subst hj; rw [hown, hh]
        · rw [hoth j hj]
      omega
    · rw [if_neg hh]
      have : memoCnt (D.put (.int .i64 (g : Int)) (.lit (.bool (V g)))) = memoCnt D + 1 := by
        unfold memoCnt
        exact count_more (k := g) (by simpa using hh) hown 20 hg (fun j _ hj => hoth j hj)
      omega
  · by_cases hjg : j = g
    · subst hjg
      rw [Maps.atKey_put_same h.1.isMap (isKey_int j)]
    · rw [Maps.atKey_put_other (hne j hjg)]
      exact h.2.2 j hj (by rw [← hoth j hjg]; exact hh) z
end Go.Proofs.YtfaklhkdfpfjgaaDoor
