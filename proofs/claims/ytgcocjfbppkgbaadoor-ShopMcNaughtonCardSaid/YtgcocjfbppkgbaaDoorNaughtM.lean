/- McNaughton's plan in plain words: the end, and the cuts of one long line. No program in sight. -/
import Derived.Test.YtgcocjfbppkgbaaDoorShopLong
namespace Go.Proofs.YtgcocjfbppkgbaaDoor
open Go.RowKit

abbrev R4 := Int × Int × Int × Int
abbrev enc4 (x : R4) : List Value := [.int .i64 x.1, .int .i64 x.2.1, .int .i64 x.2.2.1, .int .i64 x.2.2.2]
theorem enc4_one (x : R4) : ∀ u ∈ enc4 x, u.oneCell' = true := by
  intro u hu; simp [enc4] at hu; rcases hu with rfl | rfl | rfl | rfl <;> rfl

/-- Pieces of [at, te) of a line that is cut at each multiple of e. -/
def cutF (e i te : Int) : Nat → Int → List R4
  | 0, _ => []
  | f + 1, p => if p < te then (p / e, i, p - p / e * e, min te ((p / e + 1) * e) - p / e * e) :: cutF e i te f (min te ((p / e + 1) * e)) else []
theorem cut_more {e : Int} (he : 0 < e) {p te : Int} (h : p < te) : p < min te ((p / e + 1) * e) := by
  have h1 := Int.lt_mul_of_ediv_lt he (show p / e < p / e + 1 by omega)
  omega
theorem cutF_any {e i te : Int} (he : 0 < e) : ∀ (f g : Nat) (p : Int), (te - p).toNat ≤ f → (te - p).toNat ≤ g → cutF e i te f p = cutF e i te g p := by
  intro f
  induction f with
  | zero =>
    intro g p h1 _
    cases g with
    | zero => rfl
    | succ g => unfold cutF; rw [if_neg (by omega)]
  | succ f ih =>
    intro g p h1 h2
    cases g with
    | zero => unfold cutF; rw [if_neg (by omega)]
    | succ g =>
      unfold cutF
      by_cases h : p < te
      · rw [if_pos h, if_pos h]
        have := cut_more he h
        rw [ih g _ (by omega) (by omega)]
      · rw [if_neg h, if_neg h]
def cutM (e i p te : Int) : List R4 := cutF e i te (te - p).toNat p
theorem cutM_step {e i p te : Int} (he : 0 < e) (h : p < te) : cutM e i p te = (p / e, i, p - p / e * e, min te ((p / e + 1) * e) - p / e * e) :: cutM e i (min te ((p / e + 1) * e)) te := by
  have h1 := cut_more he h
  unfold cutM
  obtain ⟨f, hf⟩ : ∃ f, (te - p).toNat = f + 1 := ⟨(te - p).toNat - 1, by omega⟩
  rw [hf]
  show (if p < te then _ else _) = _
  rw [if_pos h, cutF_any he f _ _ (by omega) (Nat.le_refl _)]
theorem cutM_done {e i p te : Int} (h : ¬ p < te) : cutM e i p te = [] := by
  unfold cutM
  rw [show (te - p).toNat = 0 by omega]
  rfl

def sumTo (xs : List Int) (k : Nat) : Int := (xs.take k).foldl (· + ·) 0
theorem sumTo_succ (xs : List Int) (k : Nat) (h : k < xs.length) : sumTo xs (k + 1) = sumTo xs k + xs[k] := by
  unfold sumTo
  rw [List.take_succ_eq_append_getElem h, List.foldl_append]
  rfl
theorem sumTo_bound {xs : List Int} (hx : ∀ x ∈ xs, 0 ≤ x ∧ x ≤ 1000000000) : ∀ k, k ≤ xs.length → 0 ≤ sumTo xs k ∧ sumTo xs k ≤ k * 1000000000 := by
  intro k
  induction k with
  | zero => intro _; simp [sumTo]
  | succ k ih =>
    intro h
    have h1 := ih (by omega)
    have h2 := hx _ (List.getElem_mem (show k < xs.length by omega))
    rw [sumTo_succ xs k (by omega)]
    omega
def mostTo (xs : List Int) (k : Nat) : Int := (xs.take k).foldl max 0
theorem mostTo_succ (xs : List Int) (k : Nat) (h : k < xs.length) : mostTo xs (k + 1) = max (mostTo xs k) xs[k] := by
  unfold mostTo
  rw [List.take_succ_eq_append_getElem h, List.foldl_append]
  rfl
theorem mostTo_bound {xs : List Int} (hx : ∀ x ∈ xs, 0 ≤ x ∧ x ≤ 1000000000) : ∀ k, k ≤ xs.length → 0 ≤ mostTo xs k ∧ mostTo xs k ≤ 1000000000 ∧ ∀ j (_ : j < k) (hj : j < xs.length), xs[j] ≤ mostTo xs k := by
  intro k
  induction k with
  | zero => intro _; refine ⟨by simp [mostTo], by simp [mostTo], fun j hj => by omega⟩
  | succ k ih =>
    intro h
    obtain ⟨h1, h2, h3⟩ := ih (by omega)
    have h4 := hx _ (List.getElem_mem (show k < xs.length by omega))
    rw [mostTo_succ xs k (by omega)]
    refine ⟨by omega, by omega, fun j hj hj2 => ?_⟩
    rcases Nat.lt_or_ge j k with g | g
    · have := h3 j g hj2; omega
    · obtain rfl : j = k := by omega
      omega
theorem end_step {all m e : Int} (hm : 1 ≤ m) (h : e * m < all) : e + max 1 ((all - e * m) / m) ≤ (all + m - 1) / m := by
  have h1 : e + 1 ≤ (all + m - 1) / m := Int.le_ediv_of_mul_le (by omega) (by rw [Int.add_mul]; omega)
  have h2 : e + (all - e * m) / m ≤ (all + m - 1) / m := by
    refine Int.le_ediv_of_mul_le (by omega) ?_
    rw [Int.add_mul]
    have := Int.ediv_mul_le (all - e * m) (show m ≠ 0 by omega)
    omega
  omega
theorem end_stop {all m e : Int} (hm : 1 ≤ m) (h : ¬ e * m < all) : (all + m - 1) / m ≤ e := by
  have : (all + m - 1) / m < e + 1 := Int.ediv_lt_of_lt_mul (by omega) (by rw [Int.add_mul]; omega)
  omega
theorem pos_div {e q r : Int} (he : 0 < e) (h0 : 0 ≤ r) (h1 : r < e) : (q * e + r) / e = q := by
  rw [Int.add_comm, Int.add_mul_ediv_right _ _ (by omega), Int.ediv_eq_zero_of_lt h0 h1]; omega
/-- One more piece, told by machine and time. -/
theorem cut_at {e i q r n : Int} (he : 0 < e) (h0 : 0 ≤ r) (h1 : r < e) (hn : 0 < n) :
    cutM e i (q * e + r) (q * e + r + n) = (q, i, r, r + min n (e - r)) :: cutM e i (q * e + r + min n (e - r)) (q * e + r + n) := by
  rw [cutM_step he (by omega), pos_div he h0 h1]
  have h2 : (q + 1) * e = q * e + e := by rw [Int.add_mul]; omega
  have h3 : min (q * e + r + n) ((q + 1) * e) = q * e + r + min n (e - r) := by rw [h2]; omega
  rw [h3, show q * e + r - q * e = r by omega, show q * e + r + min n (e - r) - q * e = r + min n (e - r) by omega]
/-- When all is done. -/
def endM (xs : List Int) (m : Int) : Int := max (mostTo xs xs.length) ((sumTo xs xs.length + m - 1) / m)
/-- The pieces of the first k jobs. -/
def piecesTo (xs : List Int) (e : Int) : Nat → List R4
  | 0 => []
  | k + 1 => piecesTo xs e k ++ cutM e k (sumTo xs k) (sumTo xs (k + 1))
theorem next_piece {E i q r n : Int} {out P : List R4} (hE : 0 < E) (h0 : 0 ≤ r) (h1 : r < E) (hn : 0 < n) (h : out ++ cutM E i (q * E + r) (q * E + r + n) = P) {q' r' n' e : Int}
    (he : e = r + min n (E - r)) (hq : q' * E + r' = q * E + r + min n (E - r)) (hn' : n' = n - min n (E - r)) : (out ++ [(q, i, r, e)]) ++ cutM E i (q' * E + r') (q' * E + r' + n') = P := by
  rw [cut_at hE h0 h1 hn] at h
  rw [hq, hn', he, show q * E + r + min n (E - r) + (n - min n (E - r)) = q * E + r + n by omega, List.append_assoc]
  exact h
theorem flat_app (out : List R4) (p : R4) : out.flatMap enc4 ++ enc4 p = (out ++ [p]).flatMap enc4 := by simp [List.flatMap_append]
end Go.Proofs.YtgcocjfbppkgbaaDoor
