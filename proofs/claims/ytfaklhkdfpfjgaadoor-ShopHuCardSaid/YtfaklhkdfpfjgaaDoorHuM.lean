/- Hu's rounds (10.3), in plain words: whom the reference takes one by one, the first of a sorted row. No program in sight. -/
import Derived.Test.YtfaklhkdfpfjgaaDoorSortX
namespace Go.Proofs.YtfaklhkdfpfjgaaDoor
open Go.RowKit

/-- The reference's search for the best of those that are left. -/
def bestF (lt : Int → Int → Bool) (ok : Int → Bool) : Int → List Int → Int
  | b, [] => b
  | b, i :: t => bestF lt ok (if ok i = true ∧ (b < 0 ∨ lt i b = true) then i else b) t
/-- What it has found behind any of them. -/
def BestOf (lt : Int → Int → Bool) (ok : Int → Bool) (M : List Int) (b : Int) : Prop :=
  (b = -1 ∧ ∀ i ∈ M, ok i = false) ∨ (b ∈ M ∧ ok b = true ∧ ∀ i ∈ M, ok i = true → i = b ∨ TT lt b i)
theorem best_step {lt : Int → Int → Bool} (O : SWk lt) {ok : Int → Bool} {M : List Int} {b i : Int} (hM : ∀ x ∈ M, 0 ≤ x ∧ x < i) (h : BestOf lt ok M b) :
    BestOf lt ok (M ++ [i]) (if ok i = true ∧ (b < 0 ∨ lt i b = true) then i else b) := by
  by_cases hi : ok i = true
  · rcases h with ⟨rfl, h⟩ | ⟨h1, h2, h3⟩
    · rw [if_pos ⟨hi, Or.inl (by omega)⟩]
      refine Or.inr ⟨by simp, hi, fun x hx hk => ?_⟩
      rcases List.mem_append.1 hx with hx | hx
      · rw [h x hx] at hk; cases hk
      · exact Or.inl (by simpa using hx)
    · have hb := hM b h1
      by_cases hl : lt i b = true
      · rw [if_pos ⟨hi, Or.inr hl⟩]
        refine Or.inr ⟨by simp, hi, fun x hx hk => ?_⟩
        rcases List.mem_append.1 hx with hx | hx
        · rcases h3 x hx hk with rfl | h4
          · exact Or.inr (Or.inl hl)
          · exact Or.inr (TT.trans O (Or.inl hl) h4)
        · exact Or.inl (by simpa using hx)
      · rw [if_neg (fun h4 => h4.2.elim (fun h5 => by omega) hl)]
        refine Or.inr ⟨List.mem_append_left _ h1, h2, fun x hx hk => ?_⟩
        rcases List.mem_append.1 hx with hx | hx
        · exact h3 x hx hk
        · obtain rfl : x = i := by simpa using hx
          exact Or.inr (Or.inr ⟨by simpa using hl, hb.2⟩)
  · rw [if_neg (fun h4 => hi h4.1)]
    have hi' : ok i = false := by simpa using hi
    rcases h with ⟨rfl, h⟩ | ⟨h1, h2, h3⟩
    · refine Or.inl ⟨rfl, fun x hx => ?_⟩
      rcases List.mem_append.1 hx with hx | hx
      · exact h x hx
      · obtain rfl : x = i := by simpa using hx
        exact hi'
    · refine Or.inr ⟨List.mem_append_left _ h1, h2, fun x hx hk => ?_⟩
      rcases List.mem_append.1 hx with hx | hx
      · exact h3 x hx hk
      · obtain rfl : x = i := by simpa using hx
        rw [hi'] at hk; cases hk
/-- Behind k of a sorted row the best that is left is the next one. -/
theorem best_next {lt : Int → Int → Bool} (O : SWk lt) {ok : Int → Bool} {M S : List Int} {b : Int} (hp : S.Perm M) (hs : S.Pairwise (TT lt)) {k : Nat} (hk : k < S.length)
    (hok : ∀ x ∈ S, ok x = true ↔ x ∉ S.take k) (h : BestOf lt ok M b) : b = S[k] := by
  have hmem : S[k] ∈ S := List.getElem_mem hk
  have hnot : S[k] ∉ S.take k := by
    intro h2
    obtain ⟨j, hj, he⟩ := List.getElem_of_mem h2
    rw [List.getElem_take] at he
    have hjk : j < k := by rw [List.length_take] at hj; omega
    have h3 := List.pairwise_iff_getElem.1 hs j k (by omega) hk hjk
    rw [he] at h3
    exact TT.asym O h3 h3
  have hko := (hok _ hmem).2 hnot
  rcases h with ⟨_, h⟩ | ⟨h1, h2, h3⟩
  · rw [h _ (hp.mem_iff.1 hmem)] at hko; cases hko
  · have hbS := hp.mem_iff.2 h1
    rcases h3 _ (hp.mem_iff.1 hmem) hko with h4 | h4
    · exact h4.symm
    · exfalso
      obtain ⟨j, hj, rfl⟩ := List.getElem_of_mem hbS
      have hjk : ¬ j < k := fun hlt => (hok _ hbS).1 h2 (List.mem_take_iff_getElem.2 ⟨j, by omega, rfl⟩)
      rcases Nat.lt_or_ge k j with hlt | hge
      · exact TT.asym O h4 (List.pairwise_iff_getElem.1 hs k j hk hj hlt)
      · obtain rfl : j = k := by omega
        exact TT.asym O h4 h4
theorem best_all {lt : Int → Int → Bool} (O : SWk lt) {ok : Int → Bool} (l : List Int) : ∀ (M : List Int) (b : Int), (∀ x ∈ M ++ l, 0 ≤ x) → (M ++ l).Pairwise (· < ·) → BestOf lt ok M b → BestOf lt ok (M ++ l) (bestF lt ok b l) := by
  induction l with
  | nil => intro M b _ _ h; simpa [bestF] using h
  | cons i t ih =>
    intro M b h0 hp h
    have hM : ∀ x ∈ M, 0 ≤ x ∧ x < i := fun x hx => ⟨h0 x (List.mem_append_left _ hx), (List.pairwise_append.1 hp).2.2 x hx i (List.mem_cons_self ..)⟩
    have h2 := ih (M ++ [i]) _ (by simpa using h0) (by simpa using hp) (best_step O hM h)
    simpa [bestF] using h2
theorem best_from {lt : Int → Int → Bool} (O : SWk lt) {ok : Int → Bool} (M : List Int) (h0 : ∀ x ∈ M, 0 ≤ x) (hp : M.Pairwise (· < ·)) : BestOf lt ok M (bestF lt ok (-1) M) :=
  best_all O M [] (-1) (by simpa using h0) (by simpa using hp) (Or.inl ⟨rfl, fun _ h => by cases h⟩)

/-- Not done yet. -/
def undone (D : List Int) (x : Int) : Bool := decide (D.getD x.toNat 0 < 0)
/-- The reference's takings of one time. -/
def pickM (lt : Int → Int → Bool) (now : Int) (M : List Int) : Nat → List Int → List Int
  | 0, D => D
  | m + 1, D => pickM lt now M m (if bestF lt (undone D) (-1) M < 0 then D else D.set (bestF lt (undone D) (-1) M).toNat now)
/-- The program's. -/
def putM (now : Int) (l D : List Int) : List Int := l.foldl (fun D i => D.set i.toNat now) D
theorem put_len (now : Int) (l : List Int) : ∀ D : List Int, (putM now l D).length = D.length := by
  induction l with
  | nil => intro D; rfl
  | cons i t ih => intro D; show (putM now t (D.set i.toNat now)).length = _; rw [ih, List.length_set]
theorem put_get (now : Int) (l : List Int) : ∀ (D : List Int) (j : Nat), j < D.length → (∀ x ∈ l, 0 ≤ x) → (putM now l D).getD j 0 = if (j : Int) ∈ l then now else D.getD j 0 := by
  induction l with
  | nil => intro D j _ _; simp [putM]
  | cons i t ih =>
    intro D j hj h0
    show (putM now t (D.set i.toNat now)).getD j 0 = _
    rw [ih _ j (by simpa using hj) (fun x hx => h0 x (List.mem_cons_of_mem _ hx))]
    have hi := h0 i (List.mem_cons_self ..)
    by_cases h1 : (j : Int) ∈ t
    · rw [if_pos h1, if_pos (List.mem_cons_of_mem _ h1)]
    · rw [if_neg h1]
      by_cases h2 : (j : Int) = i
      · rw [if_pos (by rw [h2]; exact List.mem_cons_self ..), show i.toNat = j by omega]
        simp [List.getD, hj]
      · rw [if_neg (fun h3 => (List.mem_cons.1 h3).elim h2 h1)]
        simp [List.getD, show i.toNat ≠ j by omega]
/-- What both take is the same. -/
theorem pick_put {lt : Int → Int → Bool} (O : SWk lt) {now : Int} (hnow : 0 ≤ now) {M S D : List Int} (hM0 : ∀ x ∈ M, 0 ≤ x ∧ x < D.length) (hMp : M.Pairwise (· < ·)) (hMu : ∀ x ∈ M, undone D x = true) (hp : S.Perm M) (hs : S.Pairwise (TT lt)) :
    ∀ (m k : Nat), pickM lt now M m (putM now (S.take k) D) = putM now (S.take (k + m)) D := by
  intro m
  induction m with
  | zero => intro k; rfl
  | succ m ih =>
    intro k
    have hS0 : ∀ x ∈ S, 0 ≤ x ∧ x < D.length := fun x hx => hM0 x (hp.mem_iff.1 hx)
    have hok : ∀ x ∈ S, undone (putM now (S.take k) D) x = true ↔ x ∉ S.take k := by
      intro x hx
      obtain ⟨h1, h2⟩ := hS0 x hx
      have hu := hMu x (hp.mem_iff.1 hx)
      unfold undone at hu ⊢
      rw [decide_eq_true_iff] at hu ⊢
      rw [put_get now _ D x.toNat (by omega) (fun y hy => (hS0 y (List.mem_of_mem_take hy)).1), show ((x.toNat : Nat) : Int) = x by omega]
      by_cases h3 : x ∈ S.take k
      · rw [if_pos h3]; exact ⟨fun h => by omega, fun h => absurd h3 h⟩
      · rw [if_neg h3]; exact ⟨fun _ => h3, fun _ => hu⟩
    have hb := best_from O (ok := undone (putM now (S.take k) D)) M (fun x hx => (hM0 x hx).1) hMp
    unfold pickM
    rcases Nat.lt_or_ge k S.length with hk | hk
    · have he := best_next O hp hs hk hok hb
      have hk0 := (hS0 _ (List.getElem_mem hk)).1
      rw [he, if_neg (by omega)]
      have h4 : (putM now (S.take k) D).set S[k].toNat now = putM now (S.take (k + 1)) D := by
        unfold putM
        rw [List.take_succ_eq_append_getElem hk, List.foldl_append]
        rfl
      rw [h4, ih (k + 1), show k + 1 + m = k + (m + 1) by omega]
    · have hneg : bestF lt (undone (putM now (S.take k) D)) (-1) M < 0 := by
        rcases hb with ⟨h1, _⟩ | ⟨h1, h2, _⟩
        · omega
        · exfalso
          have h5 := hp.mem_iff.2 h1
          exact (hok _ h5).1 h2 (by
            generalize bestF lt (undone (putM now (S.take k) D)) (-1) M = b at *
            rw [List.take_of_length_le hk]
            exact h5)
      rw [if_pos hneg, ih k, List.take_of_length_le (by omega), List.take_of_length_le (by omega)]
/-- How many stand on the way from j on, up to a number. -/
def chainM (next : List Int) : Nat → Int → Nat
  | 0, _ => 0
  | f + 1, j => if j < 0 then 0 else 1 + chainM next f (next.getD j.toNat 0)
theorem chain_le (next : List Int) : ∀ (f : Nat) (j : Int), chainM next f j ≤ f := by
  intro f
  induction f with
  | zero => intro j; simp [chainM]
  | succ f ih =>
    intro j
    unfold chainM
    split
    · omega
    · have := ih (next.getD j.toNat 0); omega
theorem chain_stable (next : List Int) : ∀ (f : Nat) (j : Int), chainM next f j < f → chainM next (f + 1) j = chainM next f j := by
  intro f
  induction f with
  | zero => intro j h; omega
  | succ f ih =>
    intro j h
    unfold chainM at h ⊢
    by_cases hj : j < 0
    · rw [if_pos hj, if_pos hj]
    · rw [if_neg hj] at h
      rw [if_neg hj, if_neg hj, ih _ (by omega)]
/-- The level of a number (10.3): how far it is from its end, itself counted. -/
def levelM (next : List Int) (i : Int) : Nat := chainM next (next.length + 1) i
/-- Who is ahead of another one is farther from the end by one. -/
theorem level_next {next : List Int} {k : Int} (hk : 0 ≤ k) (hl : levelM next k ≤ next.length) : levelM next k = 1 + levelM next (next.getD k.toNat 0) := by
  unfold levelM at hl ⊢
  rw [chainM, if_neg (by omega)] at hl ⊢
  rw [chain_stable next next.length _ (by omega)]
/-- Those that may be taken: not done, and all that are ahead of them are done. -/
def mayOk (next D : List Int) (i : Nat) : Bool := undone D i && (List.range next.length).all (fun k => decide (next.getD k 0 ≠ (i : Int)) || !undone D k)
def mayM (next D : List Int) : List Int := ((List.range next.length).filter (mayOk next D)).map (fun i : Nat => (i : Int))
/-- While somebody is left somebody may be taken. -/
theorem may_some {next D : List Int} (hl : ∀ k : Nat, k < next.length → levelM next k ≤ next.length) {i : Nat} (hi : i < next.length) (hu : undone D i = true) : mayM next D ≠ [] := by
  have key : ∀ (d i : Nat), next.length - levelM next i ≤ d → i < next.length → undone D i = true → ∃ j, j < next.length ∧ mayOk next D j = true := by
    intro d
    induction d with
    | zero =>
      intro i hd hi hu
      refine ⟨i, hi, ?_⟩
      unfold mayOk
      rw [hu, Bool.true_and, List.all_eq_true]
      intro k hk
      rw [List.mem_range] at hk
      by_cases he : next.getD k 0 = (i : Int)
      · exfalso
        have h1 := level_next (next := next) (k := (k : Int)) (by omega) (hl k hk)
        have h2 := hl k hk
        rw [Int.toNat_natCast, he] at h1
        omega
      · rw [decide_eq_true he]; rfl
    | succ d ih =>
      intro i hd hi hu
      by_cases hall : (List.range next.length).all (fun k => decide (next.getD k 0 ≠ (i : Int)) || !undone D k) = true
      · exact ⟨i, hi, by unfold mayOk; rw [hu, hall]; rfl⟩
      · rw [List.all_eq_true] at hall
        obtain ⟨k, hk⟩ := Classical.not_forall.1 hall
        obtain ⟨hk, hn⟩ := Classical.not_imp.1 hk
        rw [List.mem_range] at hk
        rw [Bool.or_eq_true, not_or, decide_eq_true_iff, Bool.not_eq_true'] at hn
        have he : next.getD k 0 = (i : Int) := Classical.not_not.1 hn.1
        have h1 := level_next (next := next) (k := (k : Int)) (by omega) (hl k hk)
        have h2 := hl k hk
        rw [Int.toNat_natCast, he] at h1
        exact ih k (by omega) hk (by cases h : undone D k with | true => rfl | false => exact absurd h hn.2)
  obtain ⟨j, hj, hm⟩ := key _ i (Nat.le_refl _) hi hu
  intro h0
  have : (j : Int) ∈ mayM next D := List.mem_map.2 ⟨j, List.mem_filter.2 ⟨List.mem_range.2 hj, hm⟩, rfl⟩
  rw [h0] at this
  cases this
theorem count_same {p q : Nat → Bool} : ∀ n : Nat, (∀ j, j < n → q j = p j) → (List.range n).countP q = (List.range n).countP p := by
  intro n
  induction n with
  | zero => intro _; rfl
  | succ n ih =>
    intro h
    rw [List.range_succ, List.countP_append, List.countP_append, ih (fun j hj => h j (by omega))]
    simp [List.countP_cons, h n (by omega)]
theorem count_less {p q : Nat → Bool} {k : Nat} (hp : p k = true) (hq : q k = false) : ∀ n : Nat, k < n → (∀ j, j < n → j ≠ k → q j = p j) → (List.range n).countP q + 1 = (List.range n).countP p := by
  intro n
  induction n with
  | zero => intro h; omega
  | succ n ih =>
    intro h he
    rw [List.range_succ, List.countP_append, List.countP_append]
    by_cases hk : k = n
    · subst hk
      rw [count_same (p := p) (q := q) k (fun j hj => he j (by omega) (by omega))]
      simp [hp, hq]
    · have h1 := ih (by omega) (fun j hj hn => he j (by omega) hn)
      simp only [List.countP_cons, List.countP_nil, he n (by omega) (fun h => hk h.symm)]
      omega
/-- How many stand ahead of a number and are not done. -/
def waitM (next D : List Int) (i : Int) : Nat := (List.range next.length).countP (fun k => decide (next.getD k 0 = i) && undone D k)
theorem may_wait (next D : List Int) (i : Nat) : mayOk next D i = (undone D i && decide (waitM next D i = 0)) := by
  unfold mayOk waitM
  congr 1
  rw [Bool.eq_iff_iff, List.all_eq_true, decide_eq_true_iff, List.countP_eq_zero]
  constructor
  · intro h k hk
    have h1 := h k hk
    cases hu : undone D k <;> simp_all
  · intro h k hk
    have h1 := h k hk
    cases hu : undone D k <;> simp_all
/-- One is done: whom it stands ahead of waits for one less. -/
theorem wait_set {next D : List Int} {k : Nat} {now : Int} (hnow : 0 ≤ now) (hl : D.length = next.length) (hk : k < next.length) (hu : undone D k = true) (i : Int) :
    waitM next (D.set k now) i + (if next.getD k 0 = i then 1 else 0) = waitM next D i := by
  have hoth : ∀ j, j ≠ k → undone (D.set k now) j = undone D j := fun j hj => by
    have h1 : (D.set k now).getD j 0 = D.getD j 0 := by simp [List.getD, show k ≠ j from fun h => hj h.symm]
    unfold undone
    rw [Int.toNat_natCast, h1]
  have hown : undone (D.set k now) k = false := by
    unfold undone
    rw [Int.toNat_natCast]
    simp [List.getD, show k < D.length by omega]
    omega
  unfold waitM
  by_cases he : next.getD k 0 = i
  · rw [if_pos he]
    refine count_less (k := k) (by rw [decide_eq_true he, hu]; rfl) (by rw [hown, Bool.and_false]) _ hk (fun j _ hj => by rw [hoth j hj])
  · rw [if_neg he, Nat.add_zero]
    refine count_same _ (fun j _ => ?_)
    by_cases hj : j = k
    · subst hj; rw [decide_eq_false he]; rfl
    · rw [hoth j hj]
/-- How many are left. -/
def leftM (n : Nat) (D : List Int) : Nat := (List.range n).countP (fun k : Nat => undone D (k : Int))
theorem left_set {n : Nat} {D : List Int} {k : Nat} {now : Int} (hnow : 0 ≤ now) (hl : D.length = n) (hk : k < n) (hu : undone D k = true) : leftM n (D.set k now) + 1 = leftM n D := by
  refine count_less (p := fun k : Nat => undone D (k : Int)) (q := fun j : Nat => undone (D.set k now) (j : Int)) (k := k) hu ?_ n hk (fun j _ hj => ?_)
  · show undone (D.set k now) (k : Int) = false
    unfold undone
    rw [Int.toNat_natCast]
    simp [List.getD, show k < D.length by omega]
    omega
  · show undone (D.set k now) (j : Int) = undone D (j : Int)
    have h1 : (D.set k now).getD j 0 = D.getD j 0 := by simp [List.getD, show k ≠ j from fun h => hj h.symm]
    unfold undone
    rw [Int.toNat_natCast, h1]
theorem left_zero {n : Nat} {D : List Int} (h : leftM n D = 0) : ∀ k : Nat, k < n → undone D k = false := by
  intro k hk
  have h1 := List.countP_eq_zero.1 h k (List.mem_range.2 hk)
  simpa using h1
theorem left_pos {n : Nat} {D : List Int} (h : leftM n D ≠ 0) : ∃ k : Nat, k < n ∧ undone D k = true := by
  have h1 := List.countP_pos_iff.1 (Nat.pos_of_ne_zero h)
  obtain ⟨k, hk, hu⟩ := h1
  exact ⟨k, List.mem_range.1 hk, hu⟩
theorem may_in (next D : List Int) : ∀ x ∈ mayM next D, 0 ≤ x ∧ x < next.length ∧ undone D x = true := by
  intro x hx
  obtain ⟨i, hi, rfl⟩ := List.mem_map.1 hx
  obtain ⟨h1, h2⟩ := List.mem_filter.1 hi
  rw [List.mem_range] at h1
  unfold mayOk at h2
  rw [Bool.and_eq_true] at h2
  exact ⟨by omega, by omega, h2.1⟩
theorem may_up (next D : List Int) : (mayM next D).Pairwise (· < ·) := by
  unfold mayM
  rw [List.pairwise_map]
  refine List.Pairwise.imp (fun {a b} h => ?_) ((List.pairwise_lt_range (n := next.length)).filter (mayOk next D))
  omega
theorem put_left {n : Nat} {now : Int} (hnow : 0 ≤ now) (l : List Int) : ∀ D : List Int, D.length = n → l.Nodup → (∀ x ∈ l, 0 ≤ x ∧ x < n ∧ undone D x = true) → leftM n (putM now l D) + l.length = leftM n D := by
  induction l with
  | nil => intro D _ _ _; rfl
  | cons i t ih =>
    intro D hl hn h
    obtain ⟨h1, h2, h3⟩ := h i (List.mem_cons_self ..)
    obtain ⟨hnt, hnd⟩ := List.nodup_cons.1 hn
    have hk : undone D ((i.toNat : Nat) : Int) = true := by rw [show ((i.toNat : Nat) : Int) = i by omega]; exact h3
    have h4 := left_set hnow hl (k := i.toNat) (by omega) hk
    have h5 := ih (D.set i.toNat now) (by rw [List.length_set]; exact hl) hnd (fun x hx => by
      obtain ⟨g1, g2, g3⟩ := h x (List.mem_cons_of_mem _ hx)
      refine ⟨g1, g2, ?_⟩
      have hne : i.toNat ≠ x.toNat := fun he => hnt (by rw [show i = x by omega]; exact hx)
      have h6 : (D.set i.toNat now).getD x.toNat 0 = D.getD x.toNat 0 := by simp [List.getD, hne]
      unfold undone at g3 ⊢
      rw [h6]; exact g3)
    show leftM n (putM now t (D.set i.toNat now)) + (t.length + 1) = leftM n D
    omega
/-- One time of the reference, and all of them. -/
def roundM (lt : Int → Int → Bool) (now : Int) (m : Nat) (next D : List Int) : List Int := pickM lt now (mayM next D) m D
def huM (lt : Int → Int → Bool) (m : Nat) (next : List Int) : Nat → Int → List Int → List Int
  | 0, _, D => D
  | f + 1, now, D => if leftM next.length D = 0 then D else huM lt m next f (now + 1) (roundM lt now m next D)
theorem round_put {lt : Int → Int → Bool} (O : SWk lt) {now : Int} (hnow : 0 ≤ now) {m : Nat} {next D S : List Int} (hl : D.length = next.length) (hp : S.Perm (mayM next D)) (hs : S.Pairwise (TT lt)) :
    roundM lt now m next D = putM now (S.take m) D := by
  have h := pick_put O hnow (M := mayM next D) (S := S) (D := D) (fun x hx => by have := may_in next D x hx; omega) (may_up next D) (fun x hx => (may_in next D x hx).2.2) hp hs m 0
  rw [Nat.zero_add] at h
  exact h
/-- How far two are apart by their levels. -/
def fH (next : List Int) (x y : Int) : Int := (levelM next y : Int) - (levelM next x : Int)
theorem swkH (next : List Int) : SWk (ltf (fH next)) := by
  constructor
  · intro x y h
    unfold ltf fH at *
    simp only [decide_eq_true_eq, decide_eq_false_iff_not] at *
    omega
  · intro x y z h
    unfold ltf fH at *
    simp only [decide_eq_true_eq] at *
    omega
/-- What is done behind so many times. -/
def seqM (next : List Int) (m : Nat) : Nat → List Int
  | 0 => List.replicate next.length (-1)
  | t + 1 => roundM (ltf (fH next)) t m next (seqM next m t)
theorem pick_len (lt : Int → Int → Bool) (now : Int) (M : List Int) : ∀ (m : Nat) (D : List Int), (pickM lt now M m D).length = D.length := by
  intro m
  induction m with
  | zero => intro D; rfl
  | succ m ih =>
    intro D
    unfold pickM
    rw [ih]
    split
    · rfl
    · rw [List.length_set]
theorem seq_len (next : List Int) (m : Nat) : ∀ t, (seqM next m t).length = next.length
  | 0 => by simp [seqM]
  | t + 1 => by unfold seqM roundM; rw [pick_len, seq_len next m t]
/-- The program's row of those that may be taken, sorted. -/
def SortH (next D S : List Int) : Prop := S.Perm (mayM next D) ∧ S.Pairwise (TT (ltf (fH next)))
theorem seq_put {next S : List Int} {m t : Nat} (h : SortH next (seqM next m t) S) : seqM next m (t + 1) = putM t (S.take m) (seqM next m t) :=
  round_put (swkH next) (Int.natCast_nonneg t) (seq_len next m t) h.1 h.2
theorem sortH_in {next D S : List Int} (h : SortH next D S) : ∀ x ∈ S, 0 ≤ x ∧ x < next.length ∧ undone D x = true := fun x hx => may_in next D x (h.1.mem_iff.1 hx)
theorem sortH_nodup {next D S : List Int} (h : SortH next D S) : S.Nodup :=
  h.1.nodup_iff.2 ((may_up next D).imp (fun h => by omega))
/-- One more is taken. -/
theorem put_take {now : Int} {S D : List Int} {q : Nat} (hq : q < S.length) : putM now (S.take (q + 1)) D = (putM now (S.take q) D).set S[q].toNat now := by
  unfold putM
  rw [List.take_succ_eq_append_getElem hq, List.foldl_append]
  rfl
theorem put_undone {next : List Int} {now : Int} {S D : List Int} (lD : D.length = next.length) (h : SortH next D S) {q : Nat} (hq : q < S.length) : undone (putM now (S.take q) D) S[q] = true := by
  have h1 := sortH_in h
  obtain ⟨g1, g2, g3⟩ := h1 _ (List.getElem_mem hq)
  have hn := sortH_nodup h
  have hnot : S[q] ∉ S.take q := by
    intro h2
    obtain ⟨j, hj, he⟩ := List.getElem_of_mem h2
    rw [List.length_take] at hj
    rw [List.getElem_take] at he
    have := (List.getElem_inj hn).1 he
    omega
  unfold undone at g3 ⊢
  rw [put_get now _ D S[q].toNat (by omega) (fun y hy => (h1 y (List.mem_of_mem_take hy)).1), show ((S[q].toNat : Nat) : Int) = S[q] by omega, if_neg hnot]
  exact g3
theorem put_wait {next : List Int} {now : Int} (hnow : 0 ≤ now) {S D : List Int} (lD : D.length = next.length) (h : SortH next D S) {q : Nat} (hq : q < S.length) (i : Int) :
    waitM next (putM now (S.take (q + 1)) D) i + (if next.getD S[q].toNat 0 = i then 1 else 0) = waitM next (putM now (S.take q) D) i := by
  obtain ⟨g1, g2, g3⟩ := sortH_in h _ (List.getElem_mem hq)
  rw [put_take hq]
  refine wait_set hnow (by rw [put_len, lD]) (by omega) ?_ i
  rw [show ((S[q].toNat : Nat) : Int) = S[q] by omega]
  exact put_undone lD h hq
theorem put_left1 {next : List Int} {now : Int} (hnow : 0 ≤ now) {S D : List Int} (lD : D.length = next.length) (h : SortH next D S) {q : Nat} (hq : q < S.length) :
    leftM next.length (putM now (S.take (q + 1)) D) + 1 = leftM next.length (putM now (S.take q) D) := by
  obtain ⟨g1, g2, g3⟩ := sortH_in h _ (List.getElem_mem hq)
  rw [put_take hq]
  refine left_set hnow (by rw [put_len, lD]) (by omega) ?_
  rw [show ((S[q].toNat : Nat) : Int) = S[q] by omega]
  exact put_undone lD h hq
/-- A row sorted by the law of the sort. -/
theorem may_nodup (next D : List Int) : (mayM next D).Nodup := (may_up next D).imp (fun h => by omega)
theorem left_le (n : Nat) (D : List Int) : leftM n D ≤ n := by
  unfold leftM
  have := List.countP_le_length (p := fun k : Nat => undone D (k : Int)) (l := List.range n)
  simpa using this
/-- While somebody is left a time takes somebody. -/
theorem seq_less {next S : List Int} {m t : Nat} (hm : 1 ≤ m) (hl : ∀ k : Nat, k < next.length → levelM next k ≤ next.length) (h : SortH next (seqM next m t) S) (h0 : leftM next.length (seqM next m t) ≠ 0) :
    leftM next.length (seqM next m (t + 1)) + (S.take m).length = leftM next.length (seqM next m t) ∧ 0 < (S.take m).length := by
  obtain ⟨k, hk, hu⟩ := left_pos h0
  have h1 := may_some hl hk hu
  have h2 : S ≠ [] := fun he => h1 (by rw [he] at h; exact h.1.nil_eq.symm)
  have h3 : 0 < S.length := List.length_pos_iff.2 h2
  rw [seq_put h]
  refine ⟨put_left (Int.natCast_nonneg t) (S.take m) _ (seq_len next m t) ((sortH_nodup h).sublist (List.take_sublist _ _)) (fun x hx => sortH_in h x (List.mem_of_mem_take hx)), ?_⟩
  rw [List.length_take]; omega
/-- Where it ends. -/
def EndsAt (next : List Int) (m T : Nat) : Prop := leftM next.length (seqM next m T) = 0 ∧ ∀ t, t < T → leftM next.length (seqM next m t) ≠ 0
theorem ends_one {next : List Int} {m T U : Nat} (h : EndsAt next m T) (k : EndsAt next m U) : T = U := by
  rcases Nat.lt_trichotomy T U with g | g | g
  · exact absurd h.1 (k.2 T g)
  · exact g
  · exact absurd k.1 (h.2 U g)
/-- The way from a number on, step by step. -/
theorem chain_go {next : List Int} {f : Nat} {j : Int} (h : ¬ j < 0) : chainM next (f + 1) j = 1 + chainM next f (next.getD j.toNat 0) := by rw [chainM, if_neg h]
theorem chain_end {next : List Int} {f : Nat} {j : Int} (h : j < 0) : chainM next f j = 0 := by cases f with | zero => rfl | succ f => rw [chainM, if_pos h]
/-- What is wrong (10.3). -/
def badH (n : Nat) (k : Int) : Bool := decide (k < -1) || decide ((n : Int) ≤ k)
def huErr (next : List Int) (m : Int) : Int := if m < 1 ∨ 20 < m ∨ 60 < next.length then 4 else if next.any (badH next.length) = true then 2 else if (List.range next.length).any (fun i => decide (next.length < levelM next (i : Int))) = true then 12 else 0
/-- A taking makes nobody undone; where somebody may be taken it takes one. -/
theorem pick_left {lt : Int → Int → Bool} (O : SWk lt) {now : Int} (hnow : 0 ≤ now) {n : Nat} {M : List Int} (hM0 : ∀ x ∈ M, 0 ≤ x ∧ x < n) (hMp : M.Pairwise (· < ·)) : ∀ (m : Nat) (D : List Int), D.length = n → leftM n (pickM lt now M m D) ≤ leftM n D := by
  intro m
  induction m with
  | zero => intro D _; exact Nat.le_refl _
  | succ m ih =>
    intro D hl
    unfold pickM
    have hb := best_from O (ok := undone D) M (fun x hx => (hM0 x hx).1) hMp
    by_cases h : bestF lt (undone D) (-1) M < 0
    · rw [if_pos h]; exact ih D hl
    · rw [if_neg h]
      rcases hb with ⟨h1, _⟩ | ⟨h1, h2, _⟩
      · omega
      · obtain ⟨g1, g2⟩ := hM0 _ h1
        have h3 := left_set hnow hl (k := (bestF lt (undone D) (-1) M).toNat) (by omega) (by rw [show (((bestF lt (undone D) (-1) M).toNat : Nat) : Int) = bestF lt (undone D) (-1) M by omega]; exact h2)
        have h4 := ih (D.set (bestF lt (undone D) (-1) M).toNat now) (by rw [List.length_set]; exact hl)
        omega
theorem round_less {next : List Int} {m t : Nat} (hm : 1 ≤ m) (hl : ∀ k : Nat, k < next.length → levelM next k ≤ next.length) (h0 : leftM next.length (seqM next m t) ≠ 0) : leftM next.length (seqM next m (t + 1)) < leftM next.length (seqM next m t) := by
  obtain ⟨k, hk, hu⟩ := left_pos h0
  have h1 := may_some hl hk hu
  obtain ⟨m', rfl⟩ : ∃ m', m = m' + 1 := ⟨m - 1, by omega⟩
  have hM0 : ∀ x ∈ mayM next (seqM next (m' + 1) t), 0 ≤ x ∧ x < next.length := fun x hx => by have := may_in next _ x hx; omega
  have hb := best_from (swkH next) (ok := undone (seqM next (m' + 1) t)) (mayM next (seqM next (m' + 1) t)) (fun x hx => (hM0 x hx).1) (may_up next _)
  show leftM next.length (pickM (ltf (fH next)) t (mayM next (seqM next (m' + 1) t)) (m' + 1) (seqM next (m' + 1) t)) < _
  unfold pickM
  rcases hb with ⟨_, h2⟩ | ⟨h2, h3, _⟩
  · exfalso
    obtain ⟨x, hx⟩ := List.exists_mem_of_ne_nil _ h1
    have h3 := (may_in next _ x hx).2.2
    rw [h2 x hx] at h3; cases h3
  · obtain ⟨g1, g2⟩ := hM0 _ h2
    rw [if_neg (by omega)]
    have h4 := left_set (Int.natCast_nonneg t) (seq_len next (m' + 1) t) (k := (bestF (ltf (fH next)) (undone (seqM next (m' + 1) t)) (-1) (mayM next (seqM next (m' + 1) t))).toNat) (by omega) (by
      rw [show (((bestF (ltf (fH next)) (undone (seqM next (m' + 1) t)) (-1) (mayM next (seqM next (m' + 1) t))).toNat : Nat) : Int) = bestF (ltf (fH next)) (undone (seqM next (m' + 1) t)) (-1) (mayM next (seqM next (m' + 1) t)) by omega]; exact h3)
    have h5 := pick_left (swkH next) (Int.natCast_nonneg t) hM0 (may_up next _) m' ((seqM next (m' + 1) t).set (bestF (ltf (fH next)) (undone (seqM next (m' + 1) t)) (-1) (mayM next (seqM next (m' + 1) t))).toNat (t : Int)) (by simp [seq_len])
    exact Nat.lt_of_le_of_lt h5 (by omega)
theorem ends_least {next : List Int} {m : Nat} : ∀ T, leftM next.length (seqM next m T) = 0 → ∃ U, EndsAt next m U := by
  intro T
  induction T using Nat.strongRecOn with
  | _ T ih =>
    intro h
    by_cases hx : ∃ t, t < T ∧ leftM next.length (seqM next m t) = 0
    · obtain ⟨t, ht, h2⟩ := hx
      exact ih t ht h2
    · exact ⟨T, h, fun t ht h2 => hx ⟨t, ht, h2⟩⟩
theorem ends_exists {next : List Int} {m : Nat} (hm : 1 ≤ m) (hl : ∀ k : Nat, k < next.length → levelM next k ≤ next.length) : ∃ T, EndsAt next m T := by
  have key : ∀ (d t : Nat), leftM next.length (seqM next m t) ≤ d → ∃ T, leftM next.length (seqM next m T) = 0 := by
    intro d
    induction d with
    | zero => intro t h; exact ⟨t, by omega⟩
    | succ d ih =>
      intro t h
      by_cases h0 : leftM next.length (seqM next m t) = 0
      · exact ⟨t, h0⟩
      · have h1 := round_less hm hl h0
        exact ih (t + 1) (by omega)
  obtain ⟨T, hT⟩ := key _ 0 (Nat.le_refl _)
  exact ends_least T hT
/-- What is known where nothing is wrong. -/
theorem hu_ok {next : List Int} {m : Int} (h : huErr next m = 0) : 1 ≤ m ∧ m ≤ 20 ∧ next.length ≤ 60 ∧ (∀ x ∈ next, -1 ≤ x ∧ x < next.length) ∧ ∀ k : Nat, k < next.length → levelM next k ≤ next.length := by
  unfold huErr at h
  by_cases h1 : m < 1 ∨ 20 < m ∨ 60 < next.length
  · rw [if_pos h1] at h; omega
  rw [if_neg h1] at h
  by_cases h2 : next.any (badH next.length) = true
  · rw [if_pos h2] at h; omega
  rw [if_neg h2] at h
  by_cases h3 : (List.range next.length).any (fun i => decide (next.length < levelM next (i : Int))) = true
  · rw [if_pos h3] at h; omega
  refine ⟨by omega, by omega, by omega, fun x hx => ?_, fun k hk => ?_⟩
  · have h4 : badH next.length x = false := by
      cases h5 : badH next.length x with
      | false => rfl
      | true => exact absurd (List.any_eq_true.2 ⟨x, hx, h5⟩) h2
    simp only [badH, Bool.or_eq_false_iff, decide_eq_false_iff_not] at h4
    omega
  · rcases Nat.lt_or_ge next.length (levelM next k) with g | g
    · exact absurd (List.any_eq_true.2 ⟨k, List.mem_range.2 hk, by simpa using g⟩) h3
    · exact g
/-- Those up to a number that may be taken. -/
def mayK (next D : List Int) (k : Nat) : List Int := ((List.range k).filter (mayOk next D)).map (fun i : Nat => (i : Int))
theorem mayK_succ (next D : List Int) (k : Nat) : mayK next D (k + 1) = mayK next D k ++ if mayOk next D k = true then [(k : Int)] else [] := by
  unfold mayK
  rw [List.range_succ, List.filter_append, List.map_append]
  congr 1
  by_cases h : mayOk next D k = true
  · rw [if_pos h]; simp [h]
  · rw [if_neg h]; simp [h]
theorem mayK_len (next D : List Int) (k : Nat) : (mayK next D k).length ≤ k := by
  unfold mayK
  rw [List.length_map]
  have := List.length_filter_le (mayOk next D) (List.range k)
  simpa using this
def someK (D : List Int) (k : Nat) : Bool := (List.range k).any (fun i : Nat => undone D (i : Int))
theorem someK_succ (D : List Int) (k : Nat) : someK D (k + 1) = (someK D k || undone D (k : Int)) := by
  unfold someK
  rw [List.range_succ, List.any_append]
  simp
theorem some_left (n : Nat) (D : List Int) : someK D n = decide (leftM n D ≠ 0) := by
  rw [Bool.eq_iff_iff, decide_eq_true_iff]
  unfold someK leftM
  rw [List.any_eq_true]
  constructor
  · rintro ⟨k, hk, hu⟩ h0
    have := List.countP_eq_zero.1 h0 k hk
    exact this hu
  · intro h
    obtain ⟨k, hk, hu⟩ := List.countP_pos_iff.1 (Nat.pos_of_ne_zero h)
    exact ⟨k, hk, hu⟩
def aheadK (next D : List Int) (i q : Nat) : Bool := (List.range q).all (fun k => decide (next.getD k 0 ≠ (i : Int)) || !undone D k)
theorem aheadK_succ (next D : List Int) (i q : Nat) : aheadK next D i (q + 1) = (aheadK next D i q && (decide (next.getD q 0 ≠ (i : Int)) || !undone D q)) := by
  unfold aheadK
  rw [List.range_succ, List.all_append]
  simp
theorem may_ahead (next D : List Int) (i : Nat) : mayOk next D i = (undone D i && aheadK next D i next.length) := rfl
end Go.Proofs.YtfaklhkdfpfjgaaDoor
