/- 11.2 in plain words: what a run of periods costs; the best way to part the first periods into runs; what is ordered by it. No program in sight. -/
import Derived.Test.YtfaklhkdfpfjgaaDoorMinM
import Derived.Test.YtfaklhkdfpfjgaaDoorLotsM
namespace Go.Proofs.YtfaklhkdfpfjgaaDoor
open Go.RowKit

/-- What is wanted from period i up to t. -/
def sumW (W : List Int) (i t : Nat) : Int := ((W.drop i).take (t - i)).sum
theorem sumW_none (W : List Int) (t : Nat) : sumW W t t = 0 := by simp [sumW]
theorem sumW_cons {W : List Int} {i t : Nat} (h : i < t) (ht : t ≤ W.length) : sumW W i t = W.getD i 0 + sumW W (i + 1) t := by
  unfold sumW
  rw [List.drop_eq_getElem_cons (show i < W.length by omega), show t - i = (t - (i + 1)) + 1 by omega, List.take_succ_cons, List.sum_cons, getD_lt (show i < W.length by omega)]
theorem sumW_snoc {W : List Int} {i t : Nat} (h : i ≤ t) (ht : t < W.length) : sumW W i (t + 1) = sumW W i t + W.getD t 0 := by
  unfold sumW
  have hl : t - i < (W.drop i).length := by simp; omega
  rw [show t + 1 - i = (t - i) + 1 by omega, List.take_succ_eq_append_getElem hl, List.sum_append, List.getElem_drop, getD_lt ht]
  simp [show i + (t - i) = t by omega]
theorem sumW_bd {W : List Int} (hW : ∀ x ∈ W, 0 ≤ x ∧ x ≤ 1000000) {i : Nat} : ∀ (d : Nat), i + d ≤ W.length → 0 ≤ sumW W i (i + d) ∧ sumW W i (i + d) ≤ d * 1000000 := by
  intro d
  induction d with
  | zero => intro _; rw [Nat.add_zero, sumW_none]; omega
  | succ d ih =>
    intro h
    have h1 := ih (by omega)
    rw [show i + (d + 1) = i + d + 1 by omega, sumW_snoc (by omega) (by omega), getD_lt (show i + d < W.length by omega)]
    have h2 := hW _ (List.getElem_mem (show i + d < W.length by omega))
    push_cast
    omega
theorem sumW_in {W : List Int} (hW : ∀ x ∈ W, 0 ≤ x ∧ x ≤ 1000000) {i t : Nat} (h : i ≤ t) (ht : t ≤ W.length) : 0 ≤ sumW W i t ∧ sumW W i t ≤ (t - i : Nat) * 1000000 := by
  have h1 := sumW_bd hW (i := i) (t - i) (by omega)
  rw [show i + (t - i) = t by omega] at h1
  exact h1

/-- What it costs to keep up to t what is wanted by then, the last d periods long. -/
def keepC (W K : List Int) (t : Nat) : Nat → Int
  | 0 => 0
  | d + 1 => keepC W K t d + sumW W (t - d) t * K.getD (t - (d + 1)) 0
def runC (W O K : List Int) (i t : Nat) : Int := keepC W K t (t - i) + if 0 < sumW W i t then O.getD i 0 else 0
theorem keepC_bd {W K : List Int} (hW : ∀ x ∈ W, 0 ≤ x ∧ x ≤ 1000000) (hK : ∀ x ∈ K, 0 ≤ x ∧ x ≤ 1000000) (hl : K.length = W.length) {t : Nat} (ht : t ≤ W.length) (h9 : t ≤ 9) : ∀ d : Nat, d ≤ t → 0 ≤ keepC W K t d ∧ keepC W K t d ≤ d * 9000000000000 ∧ (d < t → 0 ≤ sumW W (t - d) t * K.getD (t - (d + 1)) 0 ∧ sumW W (t - d) t * K.getD (t - (d + 1)) 0 ≤ 9000000000000) := by
  have key : ∀ d : Nat, d < t → 0 ≤ sumW W (t - d) t * K.getD (t - (d + 1)) 0 ∧ sumW W (t - d) t * K.getD (t - (d + 1)) 0 ≤ 9000000000000 := by
    intro d hd
    have h1 := sumW_in hW (show t - d ≤ t by omega) ht
    have hi : t - (d + 1) < K.length := by omega
    have h2 := hK _ (List.getElem_mem hi)
    rw [getD_lt hi]
    have h3 : sumW W (t - d) t ≤ 9000000 := by omega
    refine ⟨Int.mul_nonneg h1.1 h2.1, ?_⟩
    have h4 : sumW W (t - d) t * K[t - (d + 1)] ≤ 9000000 * 1000000 := Int.mul_le_mul h3 h2.2 h2.1 (by omega)
    omega
  intro d
  induction d with
  | zero => intro _; exact ⟨Int.le_refl _, by simp [keepC], key 0⟩
  | succ d ih =>
    intro hd
    have h1 := ih (by omega)
    have h2 := key d (by omega)
    refine ⟨?_, ?_, key (d + 1)⟩
    · unfold keepC; omega
    · unfold keepC; push_cast; omega
theorem runC_bd {W O K : List Int} (hW : ∀ x ∈ W, 0 ≤ x ∧ x ≤ 1000000) (hO : ∀ x ∈ O, 0 ≤ x ∧ x ≤ 1000000) (hK : ∀ x ∈ K, 0 ≤ x ∧ x ≤ 1000000) (lO : O.length = W.length) (lK : K.length = W.length) {i t : Nat} (hi : i < t) (ht : t ≤ W.length) (h9 : t ≤ 9) : 0 ≤ runC W O K i t ∧ runC W O K i t ≤ 81000001000000 := by
  have h1 := keepC_bd hW hK lK ht h9 (t - i) (by omega)
  have h2 : i < O.length := by omega
  have h3 := hO _ (List.getElem_mem h2)
  unfold runC
  rw [getD_lt h2]
  split <;> omega

/-- The best way to part the first t periods into runs: what it costs, where its runs begin (the last ahead). -/
def bestF (W O K : List Int) : Nat → Nat → Option (Int × List Nat)
  | 0, _ => some (0, [])
  | f + 1, t => if t = 0 then some (0, []) else joinB (fun d => (bestF W O K f (t - 1 - d)).map fun x => (x.1 + runC W O K (t - 1 - d) t, (t - 1 - d) :: x.2)) t
def bestT (W O K : List Int) (t : Nat) : Option (Int × List Nat) := bestF W O K t t
def stepT (W O K : List Int) (t d : Nat) : Option (Int × List Nat) := (bestT W O K (t - 1 - d)).map fun x => (x.1 + runC W O K (t - 1 - d) t, (t - 1 - d) :: x.2)
theorem bestF_more (W O K : List Int) : ∀ (f t : Nat), t ≤ f → bestF W O K (f + 1) t = bestF W O K f t := by
  intro f
  induction f with
  | zero => intro t ht; obtain rfl : t = 0 := by omega
            rfl
  | succ f ih =>
    intro t ht
    by_cases h0 : t = 0
    · subst h0; rfl
    · rw [bestF, if_neg h0]
      conv => rhs; rw [bestF, if_neg h0]
      refine joinB_congr t fun d hd => ?_
      rw [ih (t - 1 - d) (by omega)]
theorem bestF_all (W O K : List Int) (t : Nat) : ∀ d : Nat, bestF W O K (t + d) t = bestT W O K t := by
  intro d
  induction d with
  | zero => rfl
  | succ d ih => rw [show t + (d + 1) = t + d + 1 by omega, bestF_more W O K _ t (by omega), ih]
theorem bestT_zero (W O K : List Int) : bestT W O K 0 = some (0, []) := rfl
theorem bestT_step (W O K : List Int) {t : Nat} (h : t ≠ 0) : bestT W O K t = joinB (stepT W O K t) t := by
  obtain ⟨m, rfl⟩ : ∃ m, t = m + 1 := ⟨t - 1, by omega⟩
  unfold bestT
  rw [bestF, if_neg h]
  refine joinB_congr _ fun d hd => ?_
  unfold stepT
  have h2 := bestF_all W O K (m - d) d
  rw [show m - d + d = m by omega] at h2
  rw [show m + 1 - 1 - d = m - d by omega, h2]
/-- What is known of it. -/
theorem bestT_some {W O K : List Int} (hW : ∀ x ∈ W, 0 ≤ x ∧ x ≤ 1000000) (hO : ∀ x ∈ O, 0 ≤ x ∧ x ≤ 1000000) (hK : ∀ x ∈ K, 0 ≤ x ∧ x ≤ 1000000) (lO : O.length = W.length) (lK : K.length = W.length) (h9 : W.length ≤ 9) :
    ∀ (m t : Nat), t ≤ m → t ≤ W.length → ∃ c p, bestT W O K t = some (c, p) ∧ 0 ≤ c ∧ c ≤ t * 81000001000000 ∧ (t ≠ 0 → ∃ i c' p', i < t ∧ p = i :: p' ∧ bestT W O K i = some (c', p') ∧ c = c' + runC W O K i t) := by
  intro m
  induction m with
  | zero =>
    intro t ht _
    obtain rfl : t = 0 := by omega
    exact ⟨0, [], rfl, by omega, by omega, fun h => absurd rfl h⟩
  | succ m ih =>
    intro t ht hl
    by_cases h0 : t = 0
    · subst h0; exact ⟨0, [], rfl, by omega, by omega, fun h => absurd rfl h⟩
    · have hs : ∀ d, d < t → ∃ x, stepT W O K t d = some x := by
        intro d hd
        obtain ⟨c, p, h1, _⟩ := ih (t - 1 - d) (by omega) (by omega)
        exact ⟨_, by unfold stepT; rw [h1]; rfl⟩
      obtain ⟨x, hx⟩ := joinB_some (by omega) hs
      obtain ⟨d, hd, he⟩ := joinB_mem hx
      obtain ⟨c, p, h1, h2, h3, _⟩ := ih (t - 1 - d) (by omega) (by omega)
      unfold stepT at he
      rw [h1] at he
      simp only [Option.map_some, Option.some.injEq] at he
      have hr := runC_bd hW hO hK lO lK (i := t - 1 - d) (t := t) (by omega) hl (by omega)
      refine ⟨x.1, x.2, by rw [bestT_step W O K h0, hx], ?_, ?_, fun _ => ⟨t - 1 - d, c, p, by omega, by rw [← he], h1, by rw [← he]⟩⟩
      · rw [← he]; show 0 ≤ c + _; omega
      · rw [← he]; show c + _ ≤ _; have : (t - 1 - d : Nat) ≤ t - 1 := by omega
        have h4 : ((t - 1 - d : Nat) : Int) * 81000001000000 ≤ ((t - 1 : Nat) : Int) * 81000001000000 := by omega
        omega
/-- What is ordered by a way to part the first t periods, on top of what stands there. -/
def placeT (W : List Int) : List Int → Nat → List Nat → List Int
  | D, _, [] => D
  | D, t, i :: p => placeT W (D.set i (sumW W i t)) i p
theorem placeT_len (W : List Int) : ∀ (p : List Nat) (D : List Int) (t : Nat), (placeT W D t p).length = D.length := by
  intro p
  induction p with
  | nil => intro D t; rfl
  | cons i p ih => intro D t; unfold placeT; rw [ih, List.length_set]
/-- From period e on what is ordered costs so much, and nothing is left. -/
def Suff (W O K D : List Int) (e : Nat) (C : Int) : Prop := ∀ (X : List Int) (s : Int), X.length = D.length → (∀ j, e ≤ j → X.getD j 0 = D.getD j 0) → lotsFrom W O K X (X.length - e) 0 s = (s + C, 0)
theorem suff_end (W O K D : List Int) {e : Nat} (h : e = D.length) : Suff W O K D e 0 := by
  intro X s hl _
  rw [show X.length - e = 0 by omega]
  simp [lotsFrom]
/-- Going over a run without a new order. -/
theorem lots_keep {W O K X : List Int} (hW : ∀ x ∈ W, 0 ≤ x ∧ x ≤ 1000000) (lO : O.length = W.length) (lK : K.length = W.length) (lX : X.length = W.length) {e : Nat} (he : e ≤ W.length) : ∀ (d : Nat) (s : Int), d ≤ e → (∀ j, e - d ≤ j → j < e → X.getD j 0 = 0) →
    lotsFrom W O K X (X.length - (e - d)) (sumW W (e - d) e) s = lotsFrom W O K X (X.length - e) 0 (s + keepC W K e d) := by
  intro d
  induction d with
  | zero => intro s _ _; rw [Nat.sub_zero, sumW_none]; simp [keepC]
  | succ d ih =>
    intro s hd hz
    have hk : e - (d + 1) < X.length := by omega
    have hx : X[e - (d + 1)] = 0 := by rw [← getD_lt hk]; exact hz _ (by omega) (by omega)
    have h0 := sumW_cons (W := W) (show e - (d + 1) < e by omega) he
    have h1 := sumW_in hW (show e - d ≤ e by omega) he
    rw [show e - (d + 1) + 1 = e - d by omega, getD_lt (show e - (d + 1) < W.length by omega)] at h0
    rw [lots_here _ _ hk (by omega) (by omega) (by omega), hx, if_neg (by omega), if_neg (by omega), show e - (d + 1) + 1 = e - d by omega, if_neg (by omega)]
    rw [show sumW W (e - (d + 1)) e + 0 - W[e - (d + 1)] = sumW W (e - d) e by omega]
    rw [ih _ (by omega) (fun j h2 h3 => hz j (by omega) h3)]
    congr 1
    rw [show keepC W K e (d + 1) = keepC W K e d + sumW W (e - d) e * K.getD (e - (d + 1)) 0 from rfl, getD_lt (show e - (d + 1) < K.length by omega)]
    omega
/-- One run more ahead of it. -/
theorem suff_run {W O K D : List Int} (hW : ∀ x ∈ W, 0 ≤ x ∧ x ≤ 1000000) (lO : O.length = W.length) (lK : K.length = W.length) (lD : D.length = W.length) (h9 : W.length ≤ 9) {i e : Nat} {C : Int} (hi : i < e) (he : e ≤ W.length) (hz : ∀ j, j < e → D.getD j 0 = 0) (h : Suff W O K D e C) :
    Suff W O K (D.set i (sumW W i e)) i (runC W O K i e + C) := by
  intro X s hl hX
  rw [List.length_set] at hl
  have hk : i < X.length := by omega
  have hx : X[i] = sumW W i e := by
    rw [← getD_lt hk, hX i (Nat.le_refl _)]
    simp [List.getD, show i < D.length by omega]
  have hoth : ∀ j, i < j → X.getD j 0 = D.getD j 0 := by
    intro j hj
    rw [hX j (by omega)]
    simp [List.getD, show i ≠ j by omega]
  have h1 := sumW_in hW (show i ≤ e by omega) he
  have h0 := sumW_cons (W := W) hi he
  have h2 := sumW_in hW (show i + 1 ≤ e by omega) he
  rw [getD_lt (show i < W.length by omega)] at h0
  rw [lots_here _ _ hk (by omega) (by omega) (by omega), hx, if_neg (by omega), if_neg (by omega)]
  rw [show 0 + sumW W i e - W[i] = sumW W (i + 1) e by omega]
  have h3 := lots_keep (O := O) (K := K) (X := X) hW lO lK (by omega) he (e - (i + 1)) ((if 0 < sumW W i e then s + O[i] else s) + sumW W (i + 1) e * K[i]) (by omega) (fun j hj1 hj2 => by rw [hoth j (by omega)]; exact hz j hj2)
  rw [show e - (e - (i + 1)) = i + 1 by omega] at h3
  rw [h3, h X _ (by omega) (fun j hj => hoth j (by omega))]
  congr 1
  unfold runC
  rw [show e - i = (e - (i + 1)) + 1 by omega, keepC, show e - (e - (i + 1)) = i + 1 by omega, show e - (e - (i + 1) + 1) = i by omega, getD_lt (show i < K.length by omega), getD_lt (show i < O.length by omega)]
  split <;> omega
theorem suff_all {W O K D : List Int} {C : Int} (hN : needErr W O K = 0) (lD : D.length = W.length) (h : Suff W O K D 0 C) : lotsM W O K D = (C, 0) := by
  unfold lotsM
  rw [if_neg (by simpa using hN), if_neg (by omega), h D 0 rfl (fun _ _ => rfl)]
  simp
end Go.Proofs.YtfaklhkdfpfjgaaDoor
