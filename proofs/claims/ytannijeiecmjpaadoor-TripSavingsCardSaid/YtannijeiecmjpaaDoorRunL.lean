/- Chapter 5.3 in plain words: the reference's steps from one time at which something happens to the next one; that the program's round, where who is served stays so, is several of them. No program in sight. -/
import Derived.Test.YtannijeiecmjpaaDoorRunM
namespace Go.Proofs.YtannijeiecmjpaaDoor
open Go.RowKit

def atOf (xs : List R3) (i : Nat) : Int := (xs.getD i (0, 0, 0)).1
def lf (l : List Int) (i : Nat) : Int := l.getD i 0
/-- A piece more, or the last one longer. -/
def addPc (out : List R3) (b now to : Int) : List R3 :=
  if 0 < out.length ∧ (out.getD (out.length - 1) (0, 0, 0)).1 = b ∧ (out.getD (out.length - 1) (0, 0, 0)).2.2 = now then
    out.set (out.length - 1) ((out.getD (out.length - 1) (0, 0, 0)).1, (out.getD (out.length - 1) (0, 0, 0)).2.1, to)
  else out ++ [(b, now, to)]
/-- When the next one of the first m comes; -1 if nobody does. -/
def nextOf (xs : List R3) (now : Int) : Nat → Int
  | 0 => -1
  | m + 1 => if now < atOf xs m ∧ (nextOf xs now m < 0 ∨ atOf xs m < nextOf xs now m) then atOf xs m else nextOf xs now m
/-- Who is there and has work left. -/
def hereB (xs : List R3) (now : Int) (left : List Int) (i : Nat) : Bool := decide (atOf xs i ≤ now) && decide (0 < lf left i)
abbrev RSt := Int × Int × List Int × List R3
/-- Who is served. -/
def bestR (xs : List R3) (rule : Int) (s : RSt) : Option Nat :=
  if 0 ≤ s.2.1 ∧ 0 < lf s.2.2.1 s.2.1.toNat ∧ rule ≤ 4 then some s.2.1.toNat else aheadOf rule xs (lf s.2.2.1) (hereB xs s.1 s.2.2.1) xs.length
/-- Until when. -/
def toR (xs : List R3) (now : Int) (left : List Int) (b : Nat) : Int :=
  if 0 ≤ nextOf xs now xs.length ∧ nextOf xs now xs.length < now + lf left b then nextOf xs now xs.length else now + lf left b
def serveR (now to : Int) (b : Nat) (left : List Int) (out : List R3) : RSt := (to, (b : Int), left.set b (lf left b - (to - now)), addPc out b now to)
def stepR (xs : List R3) (rule : Int) (s : RSt) : Option RSt :=
  match bestR xs rule s with
  | none => if nextOf xs s.1 xs.length < 0 then none else some (nextOf xs s.1 xs.length, s.2)
  | some b => some (serveR s.1 (toR xs s.1 s.2.2.1 b) b s.2.2.1 s.2.2.2)
def iterR (xs : List R3) (rule : Int) : Nat → Option RSt
  | 0 => some (0, -1, xs.map (·.2.1), [])
  | T + 1 => (iterR xs rule T).bind (stepR xs rule)
def ReachR (xs : List R3) (rule : Int) (s : RSt) : Prop := ∃ T, iterR xs rule T = some s
theorem reach_zero (xs : List R3) (rule : Int) : ReachR xs rule (0, -1, xs.map (·.2.1), []) := ⟨0, rfl⟩
theorem reach_step {xs : List R3} {rule : Int} {s s' : RSt} (h : ReachR xs rule s) (hs : stepR xs rule s = some s') : ReachR xs rule s' := by
  obtain ⟨T, hT⟩ := h
  exact ⟨T + 1, by show (iterR xs rule T).bind _ = _; rw [hT]; exact hs⟩
theorem iter_none {xs : List R3} {rule : Int} {T : Nat} (h : iterR xs rule T = none) : ∀ k, iterR xs rule (T + k) = none := by
  intro k
  induction k with
  | zero => exact h
  | succ k ih => show (iterR xs rule (T + k)).bind _ = none; rw [ih]; rfl
/-- There is one end. -/
theorem reach_end {xs : List R3} {rule : Int} {s s' : RSt} (h : ReachR xs rule s) (hs : stepR xs rule s = none) (h' : ReachR xs rule s') (hs' : stepR xs rule s' = none) : s = s' := by
  obtain ⟨T, hT⟩ := h
  obtain ⟨U, hU⟩ := h'
  have e1 : iterR xs rule (T + 1) = none := by show (iterR xs rule T).bind _ = _; rw [hT]; exact hs
  have e2 : iterR xs rule (U + 1) = none := by show (iterR xs rule U).bind _ = _; rw [hU]; exact hs'
  rcases Nat.lt_trichotomy T U with hlt | heq | hlt
  · have := iter_none e1 (U - (T + 1))
    rw [show T + 1 + (U - (T + 1)) = U by omega, hU] at this; cases this
  · subst heq; rw [hT] at hU; injection hU
  · have := iter_none e2 (T - (U + 1))
    rw [show U + 1 + (T - (U + 1)) = T by omega, hT] at this; cases this

theorem nextOf_spec (xs : List R3) (now : Int) (h0 : 0 ≤ now) : ∀ m : Nat, (nextOf xs now m = -1 ∧ ∀ i, i < m → atOf xs i ≤ now) ∨
    (now < nextOf xs now m ∧ (∃ i, i < m ∧ atOf xs i = nextOf xs now m) ∧ ∀ i, i < m → now < atOf xs i → nextOf xs now m ≤ atOf xs i) := by
  intro m
  induction m with
  | zero => exact Or.inl ⟨rfl, fun i hi => absurd hi (Nat.not_lt_zero _)⟩
  | succ m ih =>
    unfold nextOf
    by_cases hc : now < atOf xs m ∧ (nextOf xs now m < 0 ∨ atOf xs m < nextOf xs now m)
    · rw [if_pos hc]
      refine Or.inr ⟨hc.1, ⟨m, Nat.lt_succ_self _, rfl⟩, fun i hi hn => ?_⟩
      by_cases him : i = m
      · rw [him]; exact Int.le_refl _
      · rcases ih with ⟨h1, h2⟩ | ⟨h1, h2, h3⟩
        · have := h2 i (by omega); omega
        · have := h3 i (by omega) hn; omega
    · rw [if_neg hc]
      rcases ih with ⟨h1, h2⟩ | ⟨h1, ⟨j, hj, hj2⟩, h3⟩
      · refine Or.inl ⟨h1, fun i hi => ?_⟩
        by_cases him : i = m
        · rw [him]; omega
        · exact h2 i (by omega)
      · refine Or.inr ⟨h1, ⟨j, by omega, hj2⟩, fun i hi hn => ?_⟩
        by_cases him : i = m
        · rw [him] at hn ⊢; omega
        · exact h3 i (by omega) hn

/-! ### what holds all the way -/
def GoodR (xs : List R3) (s : RSt) : Prop :=
  0 ≤ s.1 ∧ s.2.2.1.length = xs.length ∧ (∀ i, 0 ≤ lf s.2.2.1 i ∧ lf s.2.2.1 i ≤ 1000000000) ∧ s.1 + s.2.2.1.sum ≤ 61000000000 ∧ (s.2.2.2.length : Int) ≤ s.1 ∧ (s.2.1 = -1 ∨ 0 ≤ s.2.1 ∧ s.2.1 < xs.length) ∧ ∀ p ∈ s.2.2.2, 0 ≤ p.1 ∧ p.1 < xs.length
theorem sum_set (l : List Int) (b : Nat) (v : Int) (h : b < l.length) : (l.set b v).sum = l.sum - lf l b + v := by
  induction l generalizing b with
  | nil => simp at h
  | cons x l ih =>
    rcases b with _ | b
    · simp [lf]; omega
    · have := ih b (by simpa using h)
      simp only [List.set_cons_succ, List.sum_cons, this]
      simp only [lf, List.getD_cons_succ]
      omega
theorem lf_set (l : List Int) (b : Nat) (v : Int) (i : Nat) (h : b < l.length) : lf (l.set b v) i = if i = b then v else lf l i := by
  unfold lf
  simp only [List.getD_eq_getElem?_getD, List.getElem?_set]
  by_cases hi : b = i
  · subst hi; simp [h]
  · rw [if_neg hi, if_neg (fun h => hi h.symm)]
theorem sum_le (l : List Int) (h : ∀ i, 0 ≤ lf l i ∧ lf l i ≤ 1000000000) : 0 ≤ l.sum ∧ l.sum ≤ l.length * 1000000000 := by
  induction l with
  | nil => simp
  | cons x l ih =>
    have h0 := h 0
    have h1 := ih (fun i => by have := h (i + 1); simpa [lf] using this)
    simp only [lf, List.getD_cons_zero] at h0
    simp only [List.sum_cons, List.length_cons]
    omega
theorem lf_le_sum (l : List Int) (h : ∀ i, 0 ≤ lf l i ∧ lf l i ≤ 1000000000) (i : Nat) : lf l i ≤ l.sum := by
  induction l generalizing i with
  | nil => simp [lf]
  | cons x l ih =>
    have h0 := h 0
    have hh : ∀ i, 0 ≤ lf l i ∧ lf l i ≤ 1000000000 := fun i => by have := h (i + 1); simpa [lf] using this
    have h1 := sum_le l hh
    simp only [lf, List.getD_cons_zero] at h0
    simp only [List.sum_cons]
    rcases i with _ | i
    · simp only [lf, List.getD_cons_zero]; omega
    · have := ih hh i
      simp only [lf, List.getD_cons_succ] at this ⊢
      omega
theorem lf_pos_lt {l : List Int} {i : Nat} (h : 0 < lf l i) : i < l.length := by
  rcases Nat.lt_or_ge i l.length with h' | h'
  · exact h'
  · unfold lf at h; rw [List.getD_eq_getElem?_getD, List.getElem?_eq_none h'] at h; simp at h
theorem addPc_len (out : List R3) (b now to : Int) : (addPc out b now to).length ≤ out.length + 1 := by
  unfold addPc; split <;> simp
theorem addPc_mem {out : List R3} {b now to : Int} {n : Nat} (h : ∀ p ∈ out, 0 ≤ p.1 ∧ p.1 < n) (hb : 0 ≤ b ∧ b < n) : ∀ p ∈ addPc out b now to, 0 ≤ p.1 ∧ p.1 < n := by
  intro p hp
  unfold addPc at hp
  split at hp
  · rename_i hc
    rcases List.mem_or_eq_of_mem_set hp with hp | rfl
    · exact h p hp
    · rw [hc.2.1]; exact hb
  · rcases List.mem_append.1 hp with hp | hp
    · exact h p hp
    · obtain rfl := List.mem_singleton.1 hp; exact hb
/-- A job that is served. -/
theorem bestR_some {xs : List R3} {rule : Int} {s : RSt} (hG : GoodR xs s) {b : Nat} (h : bestR xs rule s = some b) : b < xs.length ∧ 0 < lf s.2.2.1 b := by
  unfold bestR at h
  split at h
  · rename_i hc
    obtain rfl : s.2.1.toNat = b := by simpa using h
    exact ⟨by have := lf_pos_lt hc.2.1; rw [hG.2.1] at this; exact this, hc.2.1⟩
  · obtain ⟨h1, h2, _⟩ := (ahead_least _ _ _ _ _).2 b h
    simp only [hereB, Bool.and_eq_true, decide_eq_true_eq] at h2
    exact ⟨h1, h2.2⟩
theorem toR_in {xs : List R3} {now : Int} {left : List Int} {b : Nat} (h0 : 0 ≤ now) (hb : 0 < lf left b) : now < toR xs now left b ∧ toR xs now left b ≤ now + lf left b := by
  have := nextOf_spec xs now h0 xs.length
  unfold toR
  split
  · rcases this with ⟨h1, _⟩ | ⟨h1, _⟩ <;> omega
  · omega
theorem serve_good {xs : List R3} {s : RSt} (hG : GoodR xs s) {b : Nat} {to : Int} (hb : b < xs.length) (h1 : s.1 < to) (h2 : to ≤ s.1 + lf s.2.2.1 b) : GoodR xs (serveR s.1 to b s.2.2.1 s.2.2.2) := by
  obtain ⟨g1, g2, g3, g4, g5, g6, g7⟩ := hG
  have hb' : b < s.2.2.1.length := by omega
  refine ⟨by show 0 ≤ to; omega, by simp [serveR, g2], fun i => ?_, ?_, ?_, Or.inr ⟨by show (0 : Int) ≤ (b : Int); omega, by show (b : Int) < _; omega⟩, addPc_mem g7 (by omega)⟩
  · show 0 ≤ lf (s.2.2.1.set b _) i ∧ lf (s.2.2.1.set b _) i ≤ _
    rw [lf_set _ _ _ _ hb']
    have := g3 i
    have := g3 b
    split <;> omega
  · show to + (s.2.2.1.set b _).sum ≤ _
    rw [sum_set _ _ _ hb']; omega
  · have := addPc_len s.2.2.2 b s.1 to
    show ((addPc s.2.2.2 b s.1 to).length : Int) ≤ to
    omega
theorem step_good {xs : List R3} {rule : Int} (hx : jobsCheck xs = 0) {s s' : RSt} (hG : GoodR xs s) (h : stepR xs rule s = some s') : GoodR xs s' ∧ s.1 < s'.1 := by
  unfold stepR at h
  cases hB : bestR xs rule s with
  | none =>
    simp only [hB] at h
    split at h
    · cases h
    · rename_i hn
      injection h with h
      subst h
      obtain ⟨g1, g2, g3, g4, g5, g6⟩ := hG
      rcases nextOf_spec xs s.1 g1 xs.length with ⟨h1, _⟩ | ⟨h1, ⟨i, hi, h2⟩, h3⟩
      · omega
      · have hl := jobs_ok_len hx
        have hj := jobs_ok_job hx i hi
        have hat : atOf xs i = xs[i].1 := by simp [atOf, List.getD, hi]
        have hs := sum_le _ g3
        rw [g2] at hs
        refine ⟨⟨?_, g2, g3, ?_, ?_, g6⟩, h1⟩
        · show 0 ≤ nextOf xs s.1 xs.length; omega
        · show nextOf xs s.1 xs.length + s.2.2.1.sum ≤ _; omega
        · show (s.2.2.2.length : Int) ≤ nextOf xs s.1 xs.length; omega
  | some b =>
    simp only [hB] at h
    injection h with h
    subst h
    obtain ⟨h1, h2⟩ := bestR_some hG hB
    obtain ⟨h3, h4⟩ := toR_in (xs := xs) hG.1 h2
    exact ⟨serve_good hG h1 h3 h4, h3⟩
theorem good_zero {xs : List R3} (hx : jobsCheck xs = 0) : GoodR xs (0, -1, xs.map (·.2.1), []) := by
  have hl := jobs_ok_len hx
  have h0 : ∀ i, 0 ≤ lf (xs.map (·.2.1)) i ∧ lf (xs.map (·.2.1)) i ≤ 1000000000 := by
    intro i
    unfold lf
    rcases Nat.lt_or_ge i xs.length with h | h
    · have hj := jobs_ok_job hx i h
      simp [List.getD, h]; omega
    · simp [List.getD, h]
  have hs := sum_le _ h0
  simp only [List.length_map] at hs
  refine ⟨Int.le_refl _, by simp, h0, ?_, by simp, Or.inl rfl, by simp⟩
  show 0 + (xs.map (·.2.1)).sum ≤ _
  omega
theorem reach_good {xs : List R3} {rule : Int} (hx : jobsCheck xs = 0) {s : RSt} (h : ReachR xs rule s) : GoodR xs s := by
  obtain ⟨T, hT⟩ := h
  induction T generalizing s with
  | zero =>
    injection hT with hT
    subst hT
    exact good_zero hx
  | succ T ih =>
    change (iterR xs rule T).bind _ = _ at hT
    cases hI : iterR xs rule T with
    | none => rw [hI] at hT; cases hT
    | some s0 => rw [hI] at hT; exact (step_good hx (ih hI) hT).1

/-! ### a piece in pieces -/
theorem getD_set_self (l : List R3) (k : Nat) (p : R3) (h : k < l.length) : (l.set k p).getD k (0, 0, 0) = p := by
  simp [List.getD_eq_getElem?_getD, h]
theorem addPc_last (out : List R3) (b now to : Int) : 0 < (addPc out b now to).length ∧ ∃ f, (addPc out b now to).getD ((addPc out b now to).length - 1) (0, 0, 0) = (b, f, to) := by
  unfold addPc
  split
  · rename_i h
    refine ⟨by simp; omega, (out.getD (out.length - 1) (0, 0, 0)).2.1, ?_⟩
    rw [List.length_set, getD_set_self _ _ _ (by omega), h.2.1]
  · exact ⟨by simp, now, by simp [List.getD_eq_getElem?_getD]⟩
theorem addPc_of {O : List R3} {b f t to : Int} (h1 : 0 < O.length) (h2 : O.getD (O.length - 1) (0, 0, 0) = (b, f, t)) : addPc O b t to = O.set (O.length - 1) (b, f, to) := by
  unfold addPc
  rw [if_pos ⟨h1, by rw [h2], by rw [h2]⟩, h2]
theorem addPc_twice (out : List R3) (b now t to : Int) : addPc (addPc out b now t) b t to = addPc out b now to := by
  by_cases hc : 0 < out.length ∧ (out.getD (out.length - 1) (0, 0, 0)).1 = b ∧ (out.getD (out.length - 1) (0, 0, 0)).2.2 = now
  · have e : ∀ v, addPc out b now v = out.set (out.length - 1) (b, (out.getD (out.length - 1) (0, 0, 0)).2.1, v) := fun v => by
      unfold addPc
      rw [if_pos hc, hc.2.1]
    rw [e t, e to, addPc_of (f := (out.getD (out.length - 1) (0, 0, 0)).2.1) (by simp; omega) (by rw [List.length_set, getD_set_self _ _ _ (by omega)]), List.length_set, List.set_set]
  · have e : ∀ v, addPc out b now v = out ++ [(b, now, v)] := fun v => by
      unfold addPc
      rw [if_neg hc]
    rw [e t, e to, addPc_of (f := now) (by simp) (by simp [List.getD_eq_getElem?_getD])]
    simp

/-! ### the program's round -/
/-- Who is served stays so: from any time within. -/
theorem stay_reach {xs : List R3} {rule : Int} (hr : rule ≤ 4) {b : Nat} {left : List Int} {out : List R3} {now : Int} (h0 : 0 ≤ now) (hb : b < left.length) :
    ∀ (d : Nat) (t : Int), now < t → (now + lf left b - t).toNat = d → t ≤ now + lf left b → ReachR xs rule (serveR now t b left out) → ReachR xs rule (serveR now (now + lf left b) b left out) := by
  intro d
  induction d using Nat.strongRecOn with
  | ind d ih =>
    intro t ht hd hle hR
    by_cases he : t = now + lf left b
    · rw [← he]; exact hR
    · have hpos : 0 < lf (left.set b (lf left b - (t - now))) b := by rw [lf_set _ _ _ _ hb, if_pos rfl]; omega
      have hB : bestR xs rule (serveR now t b left out) = some b := by
        unfold bestR serveR
        rw [if_pos ⟨by show (0 : Int) ≤ (b : Int); omega, by show 0 < lf _ (b : Int).toNat; rw [Int.toNat_natCast]; exact hpos, hr⟩]
        simp
      obtain ⟨h3, h4⟩ := toR_in (xs := xs) (now := t) (by omega) hpos
      rw [lf_set _ _ _ _ hb, if_pos rfl] at h4
      have hS : stepR xs rule (serveR now t b left out) = some (serveR now (toR xs t (left.set b (lf left b - (t - now))) b) b left out) := by
        unfold stepR
        rw [hB]
        show some (serveR t (toR xs t (left.set b (lf left b - (t - now))) b) b (left.set b (lf left b - (t - now))) (addPc out b now t)) = _
        unfold serveR
        rw [addPc_twice, List.set_set, lf_set _ _ _ _ hb, if_pos rfl]
        congr 5
        omega
      exact ih (now + lf left b - toR xs t (left.set b (lf left b - (t - now))) b).toNat (by omega) _ (by omega) rfl (by omega) (reach_step hR hS)

/-- The program's state at the head of a round, beside the reference's: now, the number of those who came, who waits, what is left, the pieces. -/
def HeadR (xs : List R3) (rule now : Int) (next : Nat) (wait : List Nat) (left : List Int) (out : List R3) : Prop :=
  ∃ on, ReachR xs rule (now, on, left, out) ∧ (rule ≤ 4 → on < 0 ∨ lf left on.toNat ≤ 0) ∧ next ≤ xs.length ∧ wait = (List.range next).filter (fun i => decide (0 < lf left i)) ∧
    (∀ i, i < next → atOf xs i ≤ now) ∧ ∀ i, next ≤ i → i < xs.length → 0 < lf left i
theorem head_zero {xs : List R3} {rule : Int} (hx : jobsCheck xs = 0) : HeadR xs rule 0 0 [] (xs.map (·.2.1)) [] := by
  refine ⟨-1, reach_zero xs rule, fun _ => Or.inl (by omega), Nat.zero_le _, by simp, fun i hi => absurd hi (Nat.not_lt_zero _), fun i _ hi => ?_⟩
  have hj := jobs_ok_job hx i hi
  simp [lf, List.getD, hi]; omega
theorem at_le {xs : List R3} (hx : jobsCheck xs = 0) {i : Nat} : ∀ {k : Nat}, i ≤ k → k < xs.length → atOf xs i ≤ atOf xs k := by
  intro k
  induction k with
  | zero => intro hi hk; obtain rfl : i = 0 := by omega
            exact Int.le_refl _
  | succ k ih =>
    intro hi hk
    by_cases h : i = k + 1
    · rw [h]; exact Int.le_refl _
    · have h1 := ih (by omega) (by omega)
      have h2 := jobs_ok_sorted hx k hk
      have e1 : atOf xs k = xs[k].1 := by simp [atOf, List.getD, show k < xs.length by omega]
      have e2 : atOf xs (k + 1) = xs[k + 1].1 := by simp [atOf, List.getD, hk]
      omega
/-- Nobody waits: the reference goes to the time when the next one comes. -/
theorem head_idle {xs : List R3} {rule now : Int} {next : Nat} {left : List Int} {out : List R3} (hx : jobsCheck xs = 0) (h : HeadR xs rule now next [] left out) (hn : next < xs.length) :
    HeadR xs rule (if now < atOf xs next then atOf xs next else now) next [] left out := by
  by_cases hc : now < atOf xs next
  · rw [if_pos hc]
    obtain ⟨on, h1, h2, h3, h4, h5, h6⟩ := h
    have hG := reach_good hx h1
    have hno : ∀ i, i < next → lf left i ≤ 0 := by
      intro i hi
      have := (List.filter_eq_nil_iff.1 h4.symm) i (List.mem_range.2 hi)
      simpa using this
    have hB : bestR xs rule (now, on, left, out) = none := by
      unfold bestR
      rw [if_neg (by intro hh; have := h2 hh.2.2; have h7 := hh.1; have h8 := hh.2.1; simp only at h7 h8; omega)]
      cases hA : aheadOf rule xs (lf left) (hereB xs now left) xs.length with
      | none => rfl
      | some k =>
        obtain ⟨k1, k2, _⟩ := (ahead_least _ _ _ _ _).2 k hA
        simp only [hereB, Bool.and_eq_true, decide_eq_true_eq] at k2
        rcases Nat.lt_or_ge k next with hk | hk
        · have := hno k hk; omega
        · have := at_le hx hk k1; omega
    have hN : nextOf xs now xs.length = atOf xs next := by
      rcases nextOf_spec xs now hG.1 xs.length with ⟨n1, n2⟩ | ⟨n1, ⟨i, hi, n2⟩, n3⟩
      · have := n2 next hn; omega
      · have a1 := n3 next hn hc
        rcases Nat.lt_or_ge i next with hk | hk
        · have := h5 i hk; omega
        · have := at_le hx hk hi; omega
    have hS : stepR xs rule (now, on, left, out) = some (atOf xs next, on, left, out) := by
      unfold stepR
      rw [hB]
      have := hG.1
      simp only at this
      simp only [hN]
      rw [if_neg (by omega)]
    exact ⟨on, reach_step h1 hS, h2, h3, h4, fun i hi => by have := h5 i hi; omega, h6⟩
  · rw [if_neg hc]; exact h
/-- One who has come waits. -/
theorem head_come {xs : List R3} {rule now : Int} {next : Nat} {wait : List Nat} {left : List Int} {out : List R3} (h : HeadR xs rule now next wait left out) (hn : next < xs.length) (ha : atOf xs next ≤ now) :
    HeadR xs rule now (next + 1) (wait ++ [next]) left out := by
  obtain ⟨on, h1, h2, h3, h4, h5, h6⟩ := h
  refine ⟨on, h1, h2, hn, ?_, fun i hi => ?_, fun i hi => h6 i (by omega)⟩
  · rw [List.range_succ, List.filter_append, ← h4]
    simp [h6 next (Nat.le_refl _) hn]
  · by_cases hi' : i = next
    · rw [hi']; exact ha
    · exact h5 i (by omega)
theorem head_none {xs : List R3} {rule now : Int} {left : List Int} {out : List R3} (hx : jobsCheck xs = 0) (h : HeadR xs rule now xs.length [] left out) :
    ∃ on, ReachR xs rule (now, on, left, out) ∧ stepR xs rule (now, on, left, out) = none := by
  obtain ⟨on, h1, h2, h3, h4, h5, h6⟩ := h
  have hG := reach_good hx h1
  have hno : ∀ i, i < xs.length → lf left i ≤ 0 := by
    intro i hi
    have := (List.filter_eq_nil_iff.1 h4.symm) i (List.mem_range.2 hi)
    simpa using this
  have hB : bestR xs rule (now, on, left, out) = none := by
    unfold bestR
    rw [if_neg (by intro hh; have := h2 hh.2.2; have h7 := hh.1; have h8 := hh.2.1; simp only at h7 h8; omega)]
    cases hA : aheadOf rule xs (lf left) (hereB xs now left) xs.length with
    | none => rfl
    | some k =>
      obtain ⟨k1, k2, _⟩ := (ahead_least _ _ _ _ _).2 k hA
      simp only [hereB, Bool.and_eq_true, decide_eq_true_eq] at k2
      have := hno k k1; omega
  refine ⟨on, h1, ?_⟩
  unfold stepR
  rw [hB]
  have hN : nextOf xs now xs.length < 0 := by
    rcases nextOf_spec xs now hG.1 xs.length with ⟨n1, n2⟩ | ⟨n1, ⟨i, hi, n2⟩, n3⟩
    · omega
    · have := h5 i hi; omega
  simp only [hN, if_true]
/-- Until when the program serves. -/
def toP (xs : List R3) (rule now : Int) (next : Nat) (left : List Int) (b : Nat) : Int :=
  if 5 ≤ rule ∧ next < xs.length ∧ atOf xs next < now + lf left b then atOf xs next else now + lf left b
/-- One is served. -/
theorem head_serve {xs : List R3} {rule now : Int} {next : Nat} {wait : List Nat} {left : List Int} {out : List R3} (hx : jobsCheck xs = 0) (h : HeadR xs rule now next wait left out) (hn : next < xs.length → now < atOf xs next) {b : Nat}
    (hb : b ∈ wait) (hbest : ∀ i ∈ wait, i ≠ b → goesB rule xs (lf left) b i) :
    now < toP xs rule now next left b ∧ toP xs rule now next left b ≤ now + lf left b ∧ b < next ∧ 0 < lf left b ∧
    HeadR xs rule (toP xs rule now next left b) next (if lf left b - (toP xs rule now next left b - now) = 0 then wait.filter (fun i => decide (i ≠ b)) else wait) (left.set b (lf left b - (toP xs rule now next left b - now))) (addPc out b now (toP xs rule now next left b)) := by
  obtain ⟨on, h1, h2, h3, h4, h5, h6⟩ := h
  have hG := reach_good hx h1
  obtain ⟨hbn, hbl⟩ : b < next ∧ 0 < lf left b := by
    rw [h4] at hb
    simpa using hb
  have hbx : b < left.length := lf_pos_lt hbl
  have hB : bestR xs rule (now, on, left, out) = some b := by
    unfold bestR
    rw [if_neg (by intro hh; have := h2 hh.2.2; have h7 := hh.1; have h8 := hh.2.1; simp only at h7 h8; omega)]
    refine ahead_one (by omega) (by simp only [hereB, Bool.and_eq_true, decide_eq_true_eq]; exact ⟨h5 b hbn, hbl⟩) fun i hi hp hne => ?_
    simp only [hereB, Bool.and_eq_true, decide_eq_true_eq] at hp
    refine hbest i ?_ hne
    rw [h4]
    simp only [List.mem_filter, List.mem_range, decide_eq_true_eq]
    refine ⟨?_, hp.2⟩
    rcases Nat.lt_or_ge i next with hk | hk
    · exact hk
    · have := at_le hx hk hi
      have := hn (by omega)
      have := hp.1
      omega
  have hS : stepR xs rule (now, on, left, out) = some (serveR now (toR xs now left b) b left out) := by
    unfold stepR
    rw [hB]
  have hR := reach_step h1 hS
  have h0 : 0 ≤ now := hG.1
  obtain ⟨t1, t2⟩ := toR_in (xs := xs) h0 hbl
  have hN : (next < xs.length ∧ nextOf xs now xs.length = atOf xs next) ∨ (next = xs.length ∧ nextOf xs now xs.length = -1) := by
    rcases nextOf_spec xs now h0 xs.length with ⟨n1, n2⟩ | ⟨n1, ⟨i, hi, n2⟩, n3⟩
    · refine Or.inr ⟨?_, n1⟩
      rcases Nat.lt_or_ge next xs.length with hk | hk
      · have := n2 next hk; have := hn hk; omega
      · omega
    · rcases Nat.lt_or_ge i next with hk | hk
      · have := h5 i hk; omega
      · refine Or.inl ⟨by omega, ?_⟩
        have := n3 next (by omega) (hn (by omega))
        have := at_le hx hk hi
        omega
  have hT : now < toP xs rule now next left b ∧ toP xs rule now next left b ≤ now + lf left b := by
    unfold toP
    split
    · rename_i hc
      have := hn hc.2.1
      omega
    · omega
  have hR2 : ReachR xs rule (serveR now (toP xs rule now next left b) b left out) := by
    by_cases h5r : 5 ≤ rule
    · have : toP xs rule now next left b = toR xs now left b := by
        unfold toP toR
        rcases hN with ⟨n1, n2⟩ | ⟨n1, n2⟩
        · rw [n2]
          by_cases hc : atOf xs next < now + lf left b
          · rw [if_pos ⟨h5r, n1, hc⟩, if_pos ⟨by have := hn n1; omega, hc⟩]
          · rw [if_neg (fun h => hc h.2.2), if_neg (fun h => hc h.2)]
        · rw [if_neg (fun h => by omega), if_neg (fun h => by omega)]
      rw [this]; exact hR
    · have : toP xs rule now next left b = now + lf left b := by
        unfold toP
        rw [if_neg (fun h => h5r h.1)]
      rw [this]
      exact stay_reach (by omega) h0 hbx _ _ t1 rfl t2 hR
  refine ⟨hT.1, hT.2, hbn, hbl, (b : Int), hR2, fun hr => ?_, h3, ?_, fun i hi => by have := h5 i hi; omega, fun i hi hi2 => ?_⟩
  · have : toP xs rule now next left b = now + lf left b := by
      unfold toP
      rw [if_neg (fun h => by omega)]
    rw [this, Int.toNat_natCast, lf_set _ _ _ _ hbx, if_pos rfl]
    omega
  · generalize toP xs rule now next left b = to at *
    have hkey : ∀ i, decide (0 < lf (left.set b (lf left b - (to - now))) i) = (decide (0 < lf left i) && (decide (i ≠ b) || !decide (lf left b - (to - now) = 0))) := by
      intro i
      rw [lf_set _ _ _ _ hbx]
      by_cases hi : i = b
      · subst hi
        by_cases hz : lf left i - (to - now) = 0
        · simp [hz]
        · simp [hz, hbl]; omega
      · simp [hi]
    simp only [hkey]
    by_cases hz : lf left b - (to - now) = 0
    · rw [if_pos hz, h4, List.filter_filter]
      apply List.filter_congr
      intro i _
      simp [hz, Bool.and_comm]
    · rw [if_neg hz, h4]
      apply List.filter_congr
      intro i _
      simp [hz]
  · rw [lf_set _ _ _ _ hbx, if_neg (by omega)]
    exact h6 i hi hi2
end Go.Proofs.YtannijeiecmjpaaDoor
