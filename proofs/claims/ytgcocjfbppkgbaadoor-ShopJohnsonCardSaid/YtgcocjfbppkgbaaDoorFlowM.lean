/- 10.1 in plain words: what is wrong with the jobs of two machines; when all is done. The plain law: going job by job is the longest way through. No program in sight. -/
import Derived.Test.YtgcocjfbppkgbaaDoorLineM
namespace Go.Proofs.YtgcocjfbppkgbaaDoor
open Go.RowKit Go.IntWalk

abbrev R2 := Int × Int
abbrev enc2 (x : R2) : List Value := [.int .i64 x.1, .int .i64 x.2]
theorem enc2_one (x : R2) : ∀ u ∈ enc2 x, u.oneCell' = true := by
  intro u hu; simp [enc2] at hu; rcases hu with rfl | rfl <;> rfl

def badTwo (x : R2) : Bool := decide (x.1 < 0) || decide (1000000000 < x.1) || decide (x.2 < 0) || decide (1000000000 < x.2)
def twosFrom : List R2 → Int
  | [] => 0
  | x :: xs => if badTwo x = true then 2 else twosFrom xs
def twosCheck (xs : List R2) : Int := if 60 < xs.length then 4 else twosFrom xs
theorem twos_here (xs : List R2) (k : Nat) (h : k < xs.length) : twosFrom (xs.drop k) = if badTwo xs[k] = true then 2 else twosFrom (xs.drop (k + 1)) := by
  rw [List.drop_eq_getElem_cons h]
  rfl
theorem twos_bad {xs : List R2} {k : Nat} (h : k < xs.length) (hb : badTwo xs[k] = true) : twosFrom (xs.drop k) = 2 := by
  rw [twos_here xs k h, if_pos hb]
theorem twos_good {xs : List R2} {k : Nat} (h : k < xs.length) (hb : badTwo xs[k] = false) : twosFrom (xs.drop k) = twosFrom (xs.drop (k + 1)) := by
  rw [twos_here xs k h, if_neg (by simp [hb])]
theorem twos_done (xs : List R2) : twosFrom (xs.drop xs.length) = 0 := by simp [twosFrom]
theorem twos_ok {xs : List R2} (h : twosFrom xs = 0) : ∀ x ∈ xs, badTwo x = false := by
  induction xs with
  | nil => intro x hx; simp at hx
  | cons y ys ih =>
    intro x hx
    unfold twosFrom at h
    by_cases hb : badTwo y = true
    · rw [if_pos hb] at h; omega
    · rw [if_neg hb] at h
      rcases List.mem_cons.1 hx with rfl | hx
      · simpa using hb
      · exact ih h x hx
theorem twos_ok_len {xs : List R2} (h : twosCheck xs = 0) : xs.length ≤ 60 := by
  unfold twosCheck at h
  by_cases hl : 60 < xs.length
  · rw [if_pos hl] at h; omega
  · omega
theorem twos_ok_two {xs : List R2} (h : twosCheck xs = 0) (j : Nat) (hj : j < xs.length) : 0 ≤ xs[j].1 ∧ xs[j].1 ≤ 1000000000 ∧ 0 ≤ xs[j].2 ∧ xs[j].2 ≤ 1000000000 := by
  have hl := twos_ok_len h
  unfold twosCheck at h
  rw [if_neg (by omega)] at h
  have hb := twos_ok h xs[j] (List.getElem_mem hj)
  simp only [badTwo, Bool.or_eq_false_iff, decide_eq_false_iff_not] at hb
  omega

/-- Of the row's i-th: how long on each machine. -/
def aOf (l : List R2) (row : List Int) (i : Nat) : Int := (l.getD (row.getD i 0).toNat (0, 0)).1
def bOf (l : List R2) (row : List Int) (i : Nat) : Int := (l.getD (row.getD i 0).toNat (0, 0)).2
/-- The program's: when the first machine, and the second, are done with the first i. -/
def faM (l : List R2) (row : List Int) : Nat → Int
  | 0 => 0
  | i + 1 => wrap64 (faM l row i + aOf l row i)
def fbM (l : List R2) (row : List Int) : Nat → Int
  | 0 => 0
  | i + 1 => wrap64 ((if faM l row (i + 1) < fbM l row i then fbM l row i else faM l row (i + 1)) + bOf l row i)
/-- The reference's: the way that changes machines at k, over the first i. -/
def wayM (l : List R2) (row : List Int) (k : Nat) : Nat → Int
  | 0 => 0
  | i + 1 => if k ≤ i then wrap64 ((if i ≤ k then wrap64 (wayM l row k i + aOf l row i) else wayM l row k i) + bOf l row i) else (if i ≤ k then wrap64 (wayM l row k i + aOf l row i) else wayM l row k i)
def longM (l : List R2) (row : List Int) : Nat → Int
  | 0 => 0
  | k + 1 => if longM l row k < wayM l row k row.length then wayM l row k row.length else longM l row k

theorem ab_in {l : List R2} (h : twosCheck l = 0) (row : List Int) (i : Nat) : 0 ≤ aOf l row i ∧ aOf l row i ≤ 1000000000 ∧ 0 ≤ bOf l row i ∧ bOf l row i ≤ 1000000000 := by
  unfold aOf bOf
  generalize (row.getD i 0).toNat = j
  rcases Nat.lt_or_ge j l.length with hi | hi
  · rw [show l.getD j (0, 0) = l[j] by simp [List.getD, hi]]
    exact ⟨(twos_ok_two h _ hi).1, (twos_ok_two h _ hi).2.1, (twos_ok_two h _ hi).2.2.1, (twos_ok_two h _ hi).2.2.2⟩
  · rw [show l.getD j (0, 0) = (0, 0) by simp [List.getD, hi]]
    simp
theorem faM_in {l : List R2} (h : twosCheck l = 0) (row : List Int) (i : Nat) (hi : i ≤ 60) : 0 ≤ faM l row i ∧ faM l row i ≤ i * 1000000000 := by
  induction i with
  | zero => simp [faM]
  | succ i ih =>
    have h1 := ih (by omega)
    have h2 := ab_in h row i
    unfold faM
    rw [wrap64_in _ (by omega)]
    push_cast
    omega
theorem faM_succ {l : List R2} (h : twosCheck l = 0) (row : List Int) (i : Nat) (hi : i < 60) : faM l row (i + 1) = faM l row i + aOf l row i := by
  have h1 := faM_in h row i (by omega)
  have h2 := ab_in h row i
  show wrap64 _ = _
  rw [wrap64_in _ (by omega)]
/-- Before the change the way is the first machine's. -/
theorem way_early (l : List R2) (row : List Int) (k i : Nat) (hk : i ≤ k) : wayM l row k i = faM l row i := by
  induction i with
  | zero => rfl
  | succ i ih =>
    have h1 := ih (by omega)
    show (if k ≤ i then _ else _) = _
    rw [if_neg (by omega), if_pos (by omega), h1]
    rfl
theorem way_at {l : List R2} (h : twosCheck l = 0) (row : List Int) (i : Nat) (hi : i < 60) : wayM l row i (i + 1) = faM l row (i + 1) + bOf l row i := by
  have h1 := faM_in h row (i + 1) (by omega)
  have h2 := ab_in h row i
  show (if i ≤ i then _ else _) = _
  rw [if_pos (by omega), if_pos (by omega), way_early l row i i (by omega)]
  show wrap64 (faM l row (i + 1) + _) = _
  rw [wrap64_in _ (by omega)]
theorem way_in {l : List R2} (h : twosCheck l = 0) (row : List Int) (k i : Nat) (hi : i ≤ 60) : 0 ≤ wayM l row k i ∧ wayM l row k i ≤ i * 2000000000 := by
  induction i with
  | zero => simp [wayM]
  | succ i ih =>
    have h1 := ih (by omega)
    have h2 := ab_in h row i
    have e1 : (if i ≤ k then wrap64 (wayM l row k i + aOf l row i) else wayM l row k i) = if i ≤ k then wayM l row k i + aOf l row i else wayM l row k i := by
      rw [wrap64_in _ (by omega)]
    show 0 ≤ (if k ≤ i then _ else _) ∧ (if k ≤ i then _ else _) ≤ _
    rw [e1]
    by_cases hk : k ≤ i
    · rw [if_pos hk]
      rw [wrap64_in _ (by split <;> omega)]
      push_cast
      split <;> omega
    · rw [if_neg hk]
      push_cast
      split <;> omega
theorem way_late {l : List R2} (h : twosCheck l = 0) (row : List Int) (k i : Nat) (hi : i < 60) (hk : k < i) : wayM l row k (i + 1) = wayM l row k i + bOf l row i := by
  have h1 := way_in h row k i (by omega)
  have h2 := ab_in h row i
  show (if k ≤ i then _ else _) = _
  rw [if_pos (by omega), if_neg (by omega), wrap64_in _ (by omega)]
theorem fb_longest {l : List R2} (h : twosCheck l = 0) (row : List Int) (i : Nat) (hi : i ≤ 60) :
    0 ≤ fbM l row i ∧ fbM l row i ≤ i * 2000000000 ∧ (∀ k, k < i → wayM l row k i ≤ fbM l row i) ∧ (i = 0 ∧ fbM l row i = 0 ∨ ∃ k, k < i ∧ wayM l row k i = fbM l row i) := by
  induction i with
  | zero => simp [fbM]
  | succ i ih =>
    obtain ⟨h0, h1, h2, h3⟩ := ih (by omega)
    have hab := ab_in h row i
    have hfa := faM_in h row (i + 1) hi
    have hat := way_at h row i (by omega)
    have e : fbM l row (i + 1) = (if faM l row (i + 1) < fbM l row i then fbM l row i else faM l row (i + 1)) + bOf l row i := by
      show wrap64 _ = _
      rw [wrap64_in _ (by split <;> omega)]
    rw [e]
    refine ⟨by split <;> omega, by push_cast; push_cast at hfa; split <;> omega, ?_, Or.inr ?_⟩
    · intro k hk
      rcases Nat.lt_or_ge k i with hk' | hk'
      · have := h2 k hk'
        rw [way_late h row k i (by omega) hk']
        split <;> omega
      · obtain rfl : k = i := by omega
        rw [hat]
        split <;> omega
    · by_cases hc : faM l row (i + 1) < fbM l row i
      · rcases h3 with ⟨rfl, hb0⟩ | ⟨k, hk, hw⟩
        · omega
        · exact ⟨k, by omega, by rw [if_pos hc, way_late h row k i (by omega) hk, hw]⟩
      · exact ⟨i, by omega, by rw [if_neg hc, hat]⟩
theorem long_longest (l : List R2) (row : List Int) (k : Nat) :
    0 ≤ longM l row k ∧ (∀ j, j < k → wayM l row j row.length ≤ longM l row k) ∧ (longM l row k = 0 ∨ ∃ j, j < k ∧ wayM l row j row.length = longM l row k) := by
  induction k with
  | zero => simp [longM]
  | succ k ih =>
    obtain ⟨h0, h1, h2⟩ := ih
    have e : longM l row (k + 1) = if longM l row k < wayM l row k row.length then wayM l row k row.length else longM l row k := rfl
    rw [e]
    refine ⟨by split <;> omega, ?_, ?_⟩
    · intro j hj
      rcases Nat.lt_or_ge j k with hj' | hj'
      · have := h1 j hj'
        split <;> omega
      · obtain rfl : j = k := by omega
        split <;> omega
    · by_cases hc : longM l row k < wayM l row k row.length
      · rw [if_pos hc]; exact Or.inr ⟨k, by omega, rfl⟩
      · rw [if_neg hc]
        rcases h2 with h2 | ⟨j, hj, h2⟩
        · exact Or.inl h2
        · exact Or.inr ⟨j, by omega, h2⟩
/-- Going job by job is the longest way through. -/
theorem flow_eq {l : List R2} (h : twosCheck l = 0) (row : List Int) (hr : row.length ≤ 60) : fbM l row row.length = longM l row row.length := by
  obtain ⟨a0, _, a1, a2⟩ := fb_longest h row row.length hr
  obtain ⟨b0, b1, b2⟩ := long_longest l row row.length
  rcases a2 with ⟨hz, a2⟩ | ⟨k, hk, a2⟩
  · rcases b2 with b2 | ⟨j, hj, b2⟩
    · omega
    · omega
  · have := b1 k hk
    rcases b2 with b2 | ⟨j, hj, b2⟩
    · omega
    · have := a1 j hj
      omega
def flowErr (l : List R2) (row : List Int) : Int := if twosCheck l ≠ 0 then twosCheck l else orderM row l.length
end Go.Proofs.YtgcocjfbppkgbaaDoor
