/- The shortest round way (19.2) in plain words: from a place over all of a set and back; the first of the least ones. No program in sight. -/
import Derived.Test.YtfaklhkdfpfjgaaDoorLongM
import Derived.Test.YtfaklhkdfpfjgaaDoorMinM
import Derived.Test.YtfaklhkdfpfjgaaDoorSetM
namespace Go.Proofs.YtfaklhkdfpfjgaaDoor
open Go.RowKit

/-- What is least is found at its first place. -/
theorem joinB_first {α : Type} {g : Nat → Option (Int × α)} : ∀ (n : Nat), (joinB g n = none → ∀ j, j < n → g j = none) ∧ ∀ x, joinB g n = some x → (∃ d, d < n ∧ g d = some x ∧ ∀ j, j < d → ∀ y, g j = some y → x.1 < y.1) ∧ ∀ j, j < n → ∀ y, g j = some y → x.1 ≤ y.1 := by
  intro n
  induction n with
  | zero => exact ⟨fun _ j hj => by omega, fun x h => (nomatch h)⟩
  | succ n ih =>
    obtain ⟨ih0, ih1⟩ := ih
    unfold joinB
    cases h1 : joinB g n with
    | none =>
      have h0 := ih0 h1
      refine ⟨fun h j hj => ?_, fun x h => ⟨⟨n, by omega, h, fun j hj y hy => ?_⟩, fun j hj y hy => ?_⟩⟩
      · by_cases hjn : j < n
        · exact h0 j hjn
        · obtain rfl : j = n := by omega
          exact h
      · rw [h0 j hj] at hy; cases hy
      · by_cases hjn : j < n
        · rw [h0 j hjn] at hy; cases hy
        · obtain rfl : j = n := by omega
          rw [show g j = some x from h] at hy
          cases hy
          exact Int.le_refl _
    | some z =>
      obtain ⟨⟨d, hd, hgd, hfd⟩, hmin⟩ := ih1 z h1
      cases h2 : g n with
      | none =>
        rw [better_none]
        refine ⟨fun h => (nomatch h), fun x h => ?_⟩
        cases h
        refine ⟨⟨d, by omega, hgd, hfd⟩, fun j hj y hy => ?_⟩
        by_cases hjn : j < n
        · exact hmin j hjn y hy
        · obtain rfl : j = n := by omega
          rw [h2] at hy; cases hy
      | some u =>
        by_cases hc : u.1 < z.1
        · simp only [better, if_pos hc]
          refine ⟨fun h => (nomatch h), fun x h => ?_⟩
          cases h
          refine ⟨⟨n, by omega, h2, fun j hj y hy => ?_⟩, fun j hj y hy => ?_⟩
          · have := hmin j hj y hy; omega
          · by_cases hjn : j < n
            · have := hmin j hjn y hy; omega
            · obtain rfl : j = n := by omega
              rw [h2] at hy; cases hy; exact Int.le_refl _
        · simp only [better, if_neg hc]
          refine ⟨fun h => (nomatch h), fun x h => ?_⟩
          cases h
          refine ⟨⟨d, by omega, hgd, hfd⟩, fun j hj y hy => ?_⟩
          by_cases hjn : j < n
          · exact hmin j hjn y hy
          · obtain rfl : j = n := by omega
            rw [h2] at hy; cases hy; omega

theorem bit_sub_fin : ∀ s : Fin 64, ∀ k : Fin 6, ∀ j : Fin 6, bitB s.1 k.1 = true → bitB (s.1 - 2 ^ k.1) j.1 = (bitB s.1 j.1 && decide (j.1 ≠ k.1)) := by decide +kernel
theorem bit_sub {s k j : Nat} (hs : s < 64) (hk : k < 6) (hj : j < 6) (h : bitB s k = true) : bitB (s - 2 ^ k) j = (bitB s j && decide (j ≠ k)) := bit_sub_fin ⟨s, hs⟩ ⟨k, hk⟩ ⟨j, hj⟩ h
theorem bit_lt {s k : Nat} (hs : s < 64) (hk : k < 6) (h : bitB s k = true) : s - 2 ^ k < s := by
  have h1 := (bit_out hs hk h).2
  have h2 : 0 < 2 ^ k := Nat.two_pow_pos k
  omega
theorem bit_any_fin : ∀ s : Fin 64, s.1 ≠ 0 → ∃ k : Fin 6, bitB s.1 k.1 = true := by decide +kernel
theorem bit_any {s : Nat} (hs : s < 64) (h : s ≠ 0) : ∃ k, k < 6 ∧ bitB s k = true := by
  obtain ⟨k, hk⟩ := bit_any_fin ⟨s, hs⟩ h
  exact ⟨k.1, k.2, hk⟩
def cntB (s : Nat) : Nat := (List.range 6).countP (bitB s)
theorem cnt_sub_fin : ∀ s : Fin 64, ∀ k : Fin 6, bitB s.1 k.1 = true → cntB (s.1 - 2 ^ k.1) + 1 = cntB s.1 := by decide +kernel
theorem cnt_sub {s k : Nat} (hs : s < 64) (hk : k < 6) (h : bitB s k = true) : cntB (s - 2 ^ k) + 1 = cntB s := cnt_sub_fin ⟨s, hs⟩ ⟨k, hk⟩ h
theorem cnt_zero_fin : ∀ s : Fin 64, cntB s.1 = 0 → s.1 = 0 := by decide +kernel
theorem cnt_zero {s : Nat} (hs : s < 64) : cntB s = 0 → s = 0 := cnt_zero_fin ⟨s, hs⟩
theorem bit_all_fin : ∀ n : Fin 7, ∀ k : Fin 6, 1 ≤ n.1 → bitB (2 ^ n.1 - 2) k.1 = (decide (k.1 ≠ 0) && decide (k.1 < n.1)) := by decide +kernel
theorem bit_all {n k : Nat} (hn : n < 7) (hk : k < 6) (h : 1 ≤ n) : bitB (2 ^ n - 2) k = (decide (k ≠ 0) && decide (k < n)) := bit_all_fin ⟨n, hn⟩ ⟨k, hk⟩ h
theorem cnt_all_fin : ∀ n : Fin 7, 1 ≤ n.1 → cntB (2 ^ n.1 - 2) = n.1 - 1 := by decide +kernel
theorem cnt_all {n : Nat} (hn : n < 7) (h : 1 ≤ n) : cntB (2 ^ n - 2) = n - 1 := cnt_all_fin ⟨n, hn⟩ h

theorem bit_below {n s k : Nat} (hs : s < 2 ^ n) (h : bitB s k = true) : k < n := by
  rcases Nat.lt_or_ge k n with g | g
  · exact g
  · rw [bitB_out hs g] at h; cases h
/-- From a place over all of a set to 0: the least, and the first way that is so long. -/
def bestR (A : List (List Int)) (n : Nat) : Nat → Nat → Nat → Option (Int × List Nat)
  | 0, a, _ => some (distM A a 0, [])
  | f + 1, a, s => if s = 0 then some (distM A a 0, []) else joinB (fun d => if bitB s d = true then (bestR A n f d (s - 2 ^ d)).map fun x => (x.1 + distM A a d, d :: x.2) else none) n
def bestS (A : List (List Int)) (n a s : Nat) : Option (Int × List Nat) := bestR A n s a s
def stepS (A : List (List Int)) (n a s d : Nat) : Option (Int × List Nat) := if bitB s d = true then (bestS A n d (s - 2 ^ d)).map fun x => (x.1 + distM A a d, d :: x.2) else none
theorem bestR_more (A : List (List Int)) {n : Nat} (hn : n ≤ 6) : ∀ (f s a : Nat), s ≤ f → s < 2 ^ n → bestR A n (f + 1) a s = bestR A n f a s := by
  intro f
  induction f with
  | zero => intro s a hs _; obtain rfl : s = 0 := by omega
            rfl
  | succ f ih =>
    intro s a hs hl
    by_cases h0 : s = 0
    · subst h0; rfl
    · rw [bestR, if_neg h0]
      conv => rhs; rw [bestR, if_neg h0]
      refine joinB_congr n fun d hd => ?_
      by_cases hb : bitB s d = true
      · have h64 : 2 ^ n ≤ 2 ^ 6 := Nat.pow_le_pow_right (by omega) hn
        have h1 := bit_lt (by omega) (by omega) hb
        rw [if_pos hb, if_pos hb, ih _ d (by omega) (by omega)]
      · rw [if_neg hb, if_neg hb]
theorem bestR_all (A : List (List Int)) {n : Nat} (hn : n ≤ 6) {s : Nat} (a : Nat) (hs : s < 2 ^ n) : ∀ d : Nat, bestR A n (s + d) a s = bestS A n a s := by
  intro d
  induction d with
  | zero => rfl
  | succ d ih => rw [show s + (d + 1) = s + d + 1 by omega, bestR_more A hn _ _ a (by omega) hs, ih]
theorem bestS_zero (A : List (List Int)) (n a : Nat) : bestS A n a 0 = some (distM A a 0, []) := rfl
theorem bestS_step (A : List (List Int)) {n : Nat} (hn : n ≤ 6) {s : Nat} (a : Nat) (hs : s < 2 ^ n) (h : s ≠ 0) : bestS A n a s = joinB (stepS A n a s) n := by
  obtain ⟨m, rfl⟩ : ∃ m, s = m + 1 := ⟨s - 1, by omega⟩
  unfold bestS
  rw [bestR, if_neg h]
  refine joinB_congr _ fun d hd => ?_
  unfold stepS
  by_cases hb : bitB (m + 1) d = true
  · have h64 : 2 ^ n ≤ 2 ^ 6 := Nat.pow_le_pow_right (by omega) hn
    have h1 := bit_lt (by omega) (by omega) hb
    rw [if_pos hb, if_pos hb]
    have h2 := bestR_all A hn d (show m + 1 - 2 ^ d < 2 ^ n by omega) (m - (m + 1 - 2 ^ d))
    rw [show m + 1 - 2 ^ d + (m - (m + 1 - 2 ^ d)) = m by omega] at h2
    rw [h2]
  · rw [if_neg hb, if_neg hb]
theorem dist_bd {A : List (List Int)} (hA : ∀ r ∈ A, r.length = A.length ∧ ∀ x ∈ r, 0 ≤ x ∧ x ≤ 1000000000) {i k : Nat} (hi : i < A.length) (hk : k < A.length) : 0 ≤ distM A i k ∧ distM A i k ≤ 1000000000 := by
  obtain ⟨_, h1, h2, h3⟩ := dist_at hA hi hk
  rw [h1]; exact ⟨h2, h3⟩
/-- What is known of it: how much it may be, and where it goes first. -/
theorem bestS_some {A : List (List Int)} (hA : ∀ r ∈ A, r.length = A.length ∧ ∀ x ∈ r, 0 ≤ x ∧ x ≤ 1000000000) {n : Nat} (hn : n ≤ 6) (hl : A.length = n) : ∀ (m s a : Nat), s ≤ m → s < 2 ^ n → a < n →
    ∃ c p, bestS A n a s = some (c, p) ∧ 0 ≤ c ∧ c ≤ (cntB s + 1) * 1000000000 ∧ (s = 0 → p = [] ∧ c = distM A a 0) ∧
      (s ≠ 0 → ∃ k c' p', k < n ∧ bitB s k = true ∧ p = k :: p' ∧ bestS A n k (s - 2 ^ k) = some (c', p') ∧ c = c' + distM A a k ∧ ∀ j, j < k → bitB s j = true → ∀ c2 p2, bestS A n j (s - 2 ^ j) = some (c2, p2) → c < c2 + distM A a j) := by
  have h64 : 2 ^ n ≤ 2 ^ 6 := Nat.pow_le_pow_right (by omega) hn
  intro m
  induction m with
  | zero =>
    intro s a hs _ ha
    obtain rfl : s = 0 := by omega
    have hd := dist_bd hA (i := a) (k := 0) (by omega) (by omega)
    refine ⟨_, _, rfl, hd.1, ?_, fun _ => ⟨rfl, rfl⟩, fun h => absurd rfl h⟩
    push_cast at hd ⊢
    have : (0 : Int) ≤ cntB 0 := by omega
    omega
  | succ m ih =>
    intro s a hs hlt ha
    by_cases h0 : s = 0
    · subst h0
      have hd := dist_bd hA (i := a) (k := 0) (by omega) (by omega)
      refine ⟨_, _, rfl, hd.1, ?_, fun _ => ⟨rfl, rfl⟩, fun h => absurd rfl h⟩
      push_cast at hd ⊢
      have : (0 : Int) ≤ cntB 0 := by omega
      omega
    · have hin : ∀ d, d < n → bitB s d = true → ∃ c p, bestS A n d (s - 2 ^ d) = some (c, p) ∧ 0 ≤ c ∧ c ≤ cntB s * 1000000000 := by
        intro d hd hb
        have h1 := bit_lt (by omega) (by omega) hb
        obtain ⟨c, p, h2, h3, h4, _⟩ := ih (s - 2 ^ d) d (by omega) (by omega) hd
        have h5 := cnt_sub (by omega) (by omega) hb
        refine ⟨c, p, h2, h3, ?_⟩
        rw [← h5]; push_cast; exact h4
      obtain ⟨k0, hk0, hb0⟩ := bit_any (by omega) h0
      have hk0n := bit_below hlt hb0
      obtain ⟨hno, hyes⟩ := joinB_first (g := stepS A n a s) n
      rw [bestS_step A hn a hlt h0]
      cases hj : joinB (stepS A n a s) n with
      | none =>
        exfalso
        have h1 := hno hj k0 hk0n
        obtain ⟨c, p, h2, _⟩ := hin k0 hk0n hb0
        unfold stepS at h1
        rw [if_pos hb0, h2] at h1
        cases h1
      | some x =>
        obtain ⟨⟨d, hd, hgd, hfd⟩, _⟩ := hyes x hj
        unfold stepS at hgd
        by_cases hb : bitB s d = true
        · obtain ⟨c, p, h2, h3, h4⟩ := hin d hd hb
          rw [if_pos hb, h2] at hgd
          simp only [Option.map_some, Option.some.injEq] at hgd
          have hdd := dist_bd hA (i := a) (k := d) (by omega) (by omega)
          refine ⟨x.1, x.2, rfl, ?_, ?_, fun h => absurd h h0, fun _ => ⟨d, c, p, hd, hb, by rw [← hgd], h2, by rw [← hgd], fun j hj hbj c2 p2 h5 => ?_⟩⟩
          · rw [← hgd]; show 0 ≤ c + _; omega
          · rw [← hgd]; show c + _ ≤ _; rw [Int.add_mul]; omega
          · have h6 := hfd j hj (c2 + distM A a j, j :: p2) (by unfold stepS; rw [if_pos hbj, h5]; rfl)
            exact h6
        · rw [if_neg hb] at hgd; cases hgd

/-- The legs of a row, not back. -/
def openM (A : List (List Int)) (row : List Int) : Int := legM A row (row.length - 1)
theorem leg_app (A : List (List Int)) (row t : List Int) : ∀ j : Nat, j + 1 ≤ row.length → legM A (row ++ t) j = legM A row j := by
  intro j
  induction j with
  | zero => intro _; rfl
  | succ j ih =>
    intro hj
    unfold legM
    rw [ih (by omega)]
    have e1 : (row ++ t).getD j 0 = row.getD j 0 := by simp [List.getD, List.getElem?_append_left (show j < row.length by omega)]
    have e2 : (j + 1) % (row ++ t).length = j + 1 := Nat.mod_eq_of_lt (by rw [List.length_append]; omega)
    have e3 : (j + 1) % row.length = j + 1 := Nat.mod_eq_of_lt (by omega)
    have e4 : (row ++ t).getD (j + 1) 0 = row.getD (j + 1) 0 := by simp [List.getD, List.getElem?_append_left (show j + 1 < row.length by omega)]
    rw [e1, e2, e3, e4]
theorem open_snoc (A : List (List Int)) (row : List Int) (k : Int) (h : 1 ≤ row.length) : openM A (row ++ [k]) = openM A row + distM A (row.getD (row.length - 1) 0) k := by
  unfold openM
  rw [show (row ++ [k]).length - 1 = (row.length - 1) + 1 by simp; omega, legM, leg_app A row [k] _ (by omega)]
  have e1 : (row ++ [k]).getD (row.length - 1) 0 = row.getD (row.length - 1) 0 := by simp [List.getD, List.getElem?_append_left (show row.length - 1 < row.length by omega)]
  have e2 : (row.length - 1 + 1) % (row ++ [k]).length = row.length := by
    rw [show row.length - 1 + 1 = row.length by omega]
    exact Nat.mod_eq_of_lt (by simp)
  have e3 : (row ++ [k]).getD row.length 0 = k := by simp [List.getD]
  rw [e1, e2, e3]
theorem long_open (A : List (List Int)) (row : List Int) (h : 1 < row.length) : longM A row = openM A row + distM A (row.getD (row.length - 1) 0) (row.getD 0 0) := by
  unfold longM openM
  rw [if_pos h]
  obtain ⟨m, hm⟩ : ∃ m, row.length = m + 1 := ⟨row.length - 1, by omega⟩
  rw [hm, legM, show m + 1 - 1 = m by omega, hm, Nat.mod_self]
end Go.Proofs.YtfaklhkdfpfjgaaDoor
