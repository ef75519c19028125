/- Numbers by words of 32 bits, and by digits: what foresightbig reckons, in plain words. No program in sight. -/
import Derived.Test.YtannijeiecmjpaaGreatDoorBase
namespace Go.Proofs.YtannijeiecmjpaaGreatDoor
open Go.RowKit

/-- The carry, and the low words, of a row that is reckoned word by word: t i c is what is reckoned at word i with the carry c. -/
def carT (t : Nat → Int → Int) : Nat → Int
  | 0 => 0
  | i + 1 => t i (carT t i) / 4294967296
def lowT (t : Nat → Int → Int) : Nat → List Int
  | 0 => []
  | i + 1 => lowT t i ++ [t i (carT t i) % 4294967296]
theorem lowT_len (t : Nat → Int → Int) : ∀ n, (lowT t n).length = n
  | 0 => rfl
  | n + 1 => by rw [lowT, List.length_append, lowT_len t n]; rfl
/-- Words. -/
def Words (xs : List Int) : Prop := ∀ x ∈ xs, 0 ≤ x ∧ x < 4294967296
theorem words_low (t : Nat → Int → Int) : ∀ n, Words (lowT t n)
  | 0 => fun x hx => by cases hx
  | n + 1 => fun x hx => by
    rw [lowT] at hx
    rcases List.mem_append.1 hx with hx | hx
    · exact words_low t n x hx
    · obtain rfl := List.mem_singleton.1 hx
      exact ⟨Int.emod_nonneg _ (by omega), Int.emod_lt_of_pos _ (by omega)⟩
/-- A number below 2^32 as words. -/
def rowOfN (v : Int) : List Int := if v = 0 then [] else [v]
/-- A row without its noughts at the end. -/
structure TrimOf (xs : List Int) (n : Nat) : Prop where
  le : n ≤ xs.length
  zero : ∀ j (h : j < xs.length), n ≤ j → xs[j] = 0
  last : ∀ (h : n - 1 < xs.length), 0 < n → xs[n - 1] ≠ 0
theorem trimOf_two {v : Int} {n : Nat} (h : TrimOf [v, 0] n) : [v, 0].take n = rowOfN v := by
  have h1 : n ≤ 2 := h.le
  unfold rowOfN
  match n, h1 with
  | 0, _ =>
    have := h.zero 0 (by simp) (Nat.le_refl _)
    simp at this
    simp [this]
  | 1, _ =>
    have := h.last (by simp) (by omega)
    simp at this
    simp [this]
  | 2, _ =>
    have := h.last (by simp) (by omega)
    simp at this
theorem trimOf_one {v : Int} {n : Nat} (h : TrimOf [v] n) : [v].take n = rowOfN v := by
  have h1 : n ≤ 1 := h.le
  unfold rowOfN
  match n, h1 with
  | 0, _ =>
    have := h.zero 0 (by simp) (Nat.le_refl _)
    simp at this
    simp [this]
  | 1, _ =>
    have := h.last (by simp) (by omega)
    simp at this
    simp [this]
/-- a times one word y. -/
def mulT (a : List Int) (y : Int) (i : Nat) (c : Int) : Int := a.getD i 0 * y + c
def mulRaw (a : List Int) (y : Int) : List Int := lowT (mulT a y) a.length ++ [carT (mulT a y) a.length]
/-- a and b together. -/
def addT (a b : List Int) (i : Nat) (c : Int) : Int := c + a.getD i 0 + b.getD i 0
def addRaw (a b : List Int) : List Int := lowT (addT a b) a.length ++ [carT (addT a b) a.length]
theorem getD_words {a : List Int} (h : Words a) (i : Nat) : 0 ≤ a.getD i 0 ∧ a.getD i 0 < 4294967296 := by
  rw [List.getD_eq_getElem?_getD]
  cases hi : a[i]? with
  | none => simp
  | some x => exact h x (List.mem_of_getElem? hi)
theorem mul_carry {a : List Int} {y : Int} (ha : Words a) (h0 : 0 ≤ y) (h1 : y < 4294967296) : ∀ n, 0 ≤ carT (mulT a y) n ∧ carT (mulT a y) n < 4294967296
  | 0 => by simp [carT]
  | n + 1 => by
    have ih := mul_carry ha h0 h1 n
    have hx := getD_words ha n
    have h2 : 0 ≤ a.getD n 0 * y := Int.mul_nonneg hx.1 h0
    have h3 : a.getD n 0 * y ≤ 4294967295 * 4294967295 := Int.mul_le_mul (by omega) (by omega) h0 (by omega)
    rw [carT, mulT]
    omega
theorem mul_step {a : List Int} {y : Int} (ha : Words a) (h0 : 0 ≤ y) (h1 : y < 4294967296) (n : Nat) : 0 ≤ mulT a y n (carT (mulT a y) n) ∧ mulT a y n (carT (mulT a y) n) < 18446744073709551616 := by
  have ih := mul_carry ha h0 h1 n
  have hx := getD_words ha n
  have h2 : 0 ≤ a.getD n 0 * y := Int.mul_nonneg hx.1 h0
  have h3 : a.getD n 0 * y ≤ 4294967295 * 4294967295 := Int.mul_le_mul (by omega) (by omega) h0 (by omega)
  show 0 ≤ a.getD n 0 * y + carT (mulT a y) n ∧ a.getD n 0 * y + carT (mulT a y) n < 18446744073709551616
  omega
theorem add_carry {a b : List Int} (ha : Words a) (hb : Words b) : ∀ n, 0 ≤ carT (addT a b) n ∧ carT (addT a b) n ≤ 1
  | 0 => by simp [carT]
  | n + 1 => by
    have ih := add_carry ha hb n
    have hx := getD_words ha n
    have hy := getD_words hb n
    rw [carT, addT]
    omega
theorem words_mul {a : List Int} {y : Int} (ha : Words a) (h0 : 0 ≤ y) (h1 : y < 4294967296) : Words (mulRaw a y) := fun x hx => by
  rcases List.mem_append.1 hx with hx | hx
  · exact words_low _ _ x hx
  · obtain rfl := List.mem_singleton.1 hx
    exact mul_carry ha h0 h1 _
theorem words_add {a b : List Int} (ha : Words a) (hb : Words b) : Words (addRaw a b) := fun x hx => by
  rcases List.mem_append.1 hx with hx | hx
  · exact words_low _ _ x hx
  · obtain rfl := List.mem_singleton.1 hx
    have := add_carry ha hb a.length
    omega
theorem words_take {a : List Int} (h : Words a) (n : Nat) : Words (a.take n) := fun x hx => h x (List.mem_of_mem_take hx)
/-- The product of a small number and y, while it is small. -/
theorem mul_small {v y : Int} (h0 : 0 ≤ v) (hy : 0 ≤ y) (h1 : v * y < 4294967296) : mulRaw [v] y = [v * y, 0] := by
  have h2 : 0 ≤ v * y := Int.mul_nonneg h0 hy
  unfold mulRaw
  simp only [List.length_singleton, lowT, carT, mulT, List.getD_cons_zero, List.nil_append, Int.add_zero, List.singleton_append]
  rw [Int.emod_eq_of_lt h2 h1, Int.ediv_eq_zero_of_lt h2 h1]
theorem add_small {v d : Int} (h0 : 0 ≤ v) (hd : 0 ≤ d) (h1 : v + d < 4294967296) : addRaw [v] [d] = [v + d, 0] := by
  unfold addRaw
  simp only [List.length_singleton, lowT, carT, addT, List.getD_cons_zero, List.nil_append, Int.zero_add, List.singleton_append]
  rw [Int.emod_eq_of_lt (by omega) h1, Int.ediv_eq_zero_of_lt (by omega) h1]
theorem add_none {v : Int} (h0 : 0 ≤ v) (h1 : v < 4294967296) : addRaw [v] [] = [v, 0] := by
  unfold addRaw
  simp only [List.length_singleton, lowT, carT, addT, List.getD_cons_zero, List.nil_append, Int.zero_add, List.singleton_append, List.getD_nil, Int.add_zero]
  rw [Int.emod_eq_of_lt (by omega) h1, Int.ediv_eq_zero_of_lt (by omega) h1]
/-- The digits' number. -/
def valD (l : List UInt8) : Int := l.foldl (fun v b => v * 10 + ((b.toNat : Int) - 48)) 0
theorem valD_snoc (l : List UInt8) (b : UInt8) : valD (l ++ [b]) = valD l * 10 + ((b.toNat : Int) - 48) := by
  unfold valD
  rw [List.foldl_append]
  rfl
def digB (b : UInt8) : Bool := decide (48 ≤ b.toNat) && decide (b.toNat ≤ 57)
theorem valD_nonneg {l : List UInt8} (h : l.all digB = true) : ∀ k, 0 ≤ valD (l.take k)
  | 0 => by simp [valD]
  | k + 1 => by
    have ih := valD_nonneg h k
    by_cases hk : k < l.length
    · rw [List.take_succ_eq_append_getElem hk, valD_snoc]
      have h2 := List.all_eq_true.1 h _ (List.getElem_mem hk)
      unfold digB at h2
      simp only [Bool.and_eq_true, decide_eq_true_eq] at h2
      omega
    · rw [List.take_of_length_le (by omega)]
      rw [List.take_of_length_le (by omega)] at ih
      exact ih
theorem valD_le {l : List UInt8} (h : l.all digB = true) {k : Nat} (hk : k < l.length) : valD (l.take k) * 10 ≤ valD (l.take (k + 1)) ∧ valD (l.take (k + 1)) = valD (l.take k) * 10 + ((l[k].toNat : Int) - 48) := by
  have h3 : valD (l.take (k + 1)) = valD (l.take k) * 10 + ((l[k].toNat : Int) - 48) := by rw [List.take_succ_eq_append_getElem hk, valD_snoc]
  have h2 := List.all_eq_true.1 h _ (List.getElem_mem hk)
  unfold digB at h2
  simp only [Bool.and_eq_true, decide_eq_true_eq] at h2
  exact ⟨by omega, h3⟩
/-- A row that tells the digits' number while this is small. -/
structure RowDig (v : Int) (xs : List Int) : Prop where
  words : Words xs
  last : ∀ (h : xs.length - 1 < xs.length), 0 < xs.length → xs[xs.length - 1] ≠ 0
  small : v < 4294967296 → xs = rowOfN v
theorem last_take {xs : List Int} {n : Nat} (h : TrimOf xs n) : ∀ (h : (xs.take n).length - 1 < (xs.take n).length), 0 < (xs.take n).length → (xs.take n)[(xs.take n).length - 1] ≠ 0 := by
  intro h1 h2
  have hl : (xs.take n).length = n := by rw [List.length_take]; have := h.le; omega
  have h3 := h.last (by have := h.le; omega) (by omega)
  rw [List.getElem_take]
  simp only [hl]
  exact h3
end Go.Proofs.YtannijeiecmjpaaGreatDoor
