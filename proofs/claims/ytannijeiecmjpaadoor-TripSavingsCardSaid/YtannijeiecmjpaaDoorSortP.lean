/- Plain words on sorting a row in place, stably: rows as functions, two pieces that change places, merging by halves. No program in sight. -/
import Derived.Test.YtannijeiecmjpaaDoorBase
namespace Go.Proofs.YtannijeiecmjpaaDoor

abbrev RowF := Nat → Int
def swpF (r : RowF) (i j : Nat) : RowF := fun t => if t = i then r j else if t = j then r i else r t
/-- The pieces [a, m) and [m, b) change places. -/
def rotF (r : RowF) (a m b : Nat) : RowF := fun t => if t < a then r t else if t < a + (b - m) then r (t + (m - a)) else if t < b then r (t - (b - m)) else r t
/-- The pieces of n from a on and from b on change places. -/
def swrF (r : RowF) (a b n : Nat) : RowF := fun t => if a ≤ t ∧ t < a + n then r (t + (b - a)) else if b ≤ t ∧ t < b + n then r (t - (b - a)) else r t
def seg (r : RowF) (a b : Nat) : List Int := (List.range' a (b - a)).map r
def tab (n : Nat) (r : RowF) : List Int := (List.range n).map r

theorem tab_len (n : Nat) (r : RowF) : (tab n r).length = n := by simp [tab]
theorem tab_get {n : Nat} {r : RowF} {j : Nat} (h : j < (tab n r).length) : (tab n r)[j] = r j := by simp [tab]
theorem tab_set (n : Nat) (r : RowF) (i : Nat) (v : Int) : (tab n r).set i v = tab n (fun t => if t = i then v else r t) := by
  refine List.ext_getElem (by simp [tab]) fun j h1 h2 => ?_
  rw [List.getElem_set]
  simp only [tab, List.getElem_map, List.getElem_range]
  by_cases h : i = j
  · subst h; simp
  · have : ¬ j = i := fun h' => h h'.symm
    simp [h, this]
theorem tab_of (E : List Int) : E = tab E.length (fun t => E.getD t 0) := by
  refine List.ext_getElem (by simp [tab]) fun j h1 h2 => ?_
  simp [tab, List.getD, h1]
theorem seg_zero (r : RowF) (n : Nat) : seg r 0 n = tab n r := by simp [seg, tab, List.range_eq_range']
theorem seg_split (r : RowF) {a m b : Nat} (h1 : a ≤ m) (h2 : m ≤ b) : seg r a b = seg r a m ++ seg r m b := by
  unfold seg
  rw [← List.map_append, show m = a + (m - a) by omega, show a + (m - a) - a = m - a by omega, List.range'_append_1, show m - a + (b - (a + (m - a))) = b - a by omega]
theorem seg_shift {r r' : RowF} {a b n : Nat} (h : ∀ k, k < n → r (a + k) = r' (b + k)) : seg r a (a + n) = seg r' b (b + n) := by
  unfold seg
  refine List.ext_getElem (by simp) fun j h1 h2 => ?_
  simp only [List.getElem_map, List.getElem_range']
  simp at h1
  simpa using h j (by omega)
theorem seg_same {r r' : RowF} {a b : Nat} (h : ∀ t, a ≤ t → t < b → r t = r' t) : seg r a b = seg r' a b := by
  rcases Nat.lt_or_ge a b with hab | hab
  · obtain ⟨n, rfl⟩ : ∃ n, b = a + n := ⟨b - a, by omega⟩
    exact seg_shift fun k hk => h _ (by omega) (by omega)
  · simp [seg, show b - a = 0 by omega]
theorem seg_one (r : RowF) (a : Nat) : seg r a (a + 1) = [r a] := by simp [seg]
theorem seg_mem {r : RowF} {a b : Nat} {x : Int} : x ∈ seg r a b ↔ ∃ t, a ≤ t ∧ t < b ∧ r t = x := by
  simp only [seg, List.mem_map, List.mem_range'_1]
  constructor
  · rintro ⟨t, ⟨h1, h2⟩, h3⟩; exact ⟨t, h1, by omega, h3⟩
  · rintro ⟨t, h1, h2, h3⟩; exact ⟨t, ⟨h1, by omega⟩, h3⟩

/-- The row is another order of the same between a and b, and the same elsewhere. -/
structure OkF (a b : Nat) (r r' : RowF) : Prop where
  out : ∀ t, (t < a ∨ b ≤ t) → r' t = r t
  perm : (seg r' a b).Perm (seg r a b)

theorem OkF.refl (a b : Nat) (r : RowF) : OkF a b r r := ⟨fun _ _ => rfl, List.Perm.refl _⟩
theorem OkF.trans {a b : Nat} {r r' r'' : RowF} (h : OkF a b r r') (k : OkF a b r' r'') : OkF a b r r'' := ⟨fun t ht => (k.out t ht).trans (h.out t ht), k.perm.trans h.perm⟩
theorem OkF.widen {a b a' b' : Nat} {r r' : RowF} (h : OkF a b r r') (h1 : a' ≤ a) (h2 : a ≤ b) (h3 : b ≤ b') : OkF a' b' r r' := by
  refine ⟨fun t ht => h.out t (by omega), ?_⟩
  rw [seg_split r' h1 (Nat.le_trans h2 h3), seg_split r' h2 h3, seg_split r h1 (Nat.le_trans h2 h3), seg_split r h2 h3, seg_same (r := r') (r' := r) (a := a') (b := a) (fun t _ ht => h.out t (Or.inl ht)), seg_same (r := r') (r' := r) (a := b) (b := b') (fun t ht _ => h.out t (Or.inr ht))]
  exact ((h.perm).append_right _).append_left _
theorem OkF.val {a b : Nat} {r r' : RowF} (h : OkF a b r r') {t : Nat} (h1 : a ≤ t) (h2 : t < b) : ∃ s, a ≤ s ∧ s < b ∧ r' t = r s := by
  have h3 : r' t ∈ seg r' a b := seg_mem.2 ⟨t, h1, h2, rfl⟩
  obtain ⟨s, k1, k2, k3⟩ := seg_mem.1 (h.perm.mem_iff.1 h3)
  exact ⟨s, k1, k2, k3.symm⟩

theorem rot_ok (r : RowF) {a m b : Nat} (h1 : a ≤ m) (h2 : m ≤ b) : OkF a b r (rotF r a m b) := by
  refine ⟨fun t ht => ?_, ?_⟩
  · unfold rotF
    rcases ht with ht | ht
    · rw [if_pos ht]
    · rw [if_neg (by omega), if_neg (by omega), if_neg (by omega)]
  · rw [seg_split (rotF r a m b) (a := a) (m := a + (b - m)) (b := b) (by omega) (by omega), seg_split r h1 h2]
    have e1 : seg (rotF r a m b) a (a + (b - m)) = seg r m b := by
      have := seg_shift (r := rotF r a m b) (r' := r) (a := a) (b := m) (n := b - m) (fun k hk => by
        unfold rotF
        rw [if_neg (by omega), if_pos (by omega)]
        congr 1; omega)
      rwa [show m + (b - m) = b by omega] at this
    have e2 : seg (rotF r a m b) (a + (b - m)) b = seg r a m := by
      have := seg_shift (r := rotF r a m b) (r' := r) (a := a + (b - m)) (b := a) (n := m - a) (fun k hk => by
        unfold rotF
        rw [if_neg (by omega), if_neg (by omega), if_pos (by omega)]
        congr 1; omega)
      rwa [show a + (b - m) + (m - a) = b by omega, show a + (m - a) = m by omega] at this
    rw [e1, e2]
    exact List.perm_append_comm

theorem rot_none (r : RowF) (a m : Nat) : rotF r a m m = r := by
  funext t; unfold rotF
  repeat' split
  all_goals first | rfl | (exfalso; omega) | (congr 1; omega)
theorem rot_none' (r : RowF) (m b : Nat) : rotF r m m b = r := by
  funext t; unfold rotF
  repeat' split
  all_goals first | rfl | (exfalso; omega) | (congr 1; omega)
theorem swr_zero (r : RowF) (a b : Nat) : swrF r a b 0 = r := by
  funext t; unfold swrF
  rw [if_neg (by omega), if_neg (by omega)]
theorem swr_succ (r : RowF) {a b k : Nat} (h : a + (k + 1) ≤ b) : swrF r a b (k + 1) = swpF (swrF r a b k) (a + k) (b + k) := by
  funext t; unfold swpF swrF
  repeat' split
  all_goals first | rfl | (exfalso; omega) | (congr 1; omega)
theorem rot_step1 (r : RowF) {m i j : Nat} (h : j < i) (hi : i ≤ m) : rotF r (m - i) m (m + j) = rotF (swrF r (m - i) m j) (m - (i - j)) m (m + j) := by
  funext t; unfold rotF swrF
  repeat' split
  all_goals first | rfl | (exfalso; omega) | (congr 1; omega)
theorem rot_step2 (r : RowF) {m i j : Nat} (h : i < j) (hi : i ≤ m) : rotF r (m - i) m (m + j) = rotF (swrF r (m - i) (m + j - i) i) (m - i) m (m + (j - i)) := by
  funext t; unfold rotF swrF
  repeat' split
  all_goals first | rfl | (exfalso; omega) | (congr 1; omega)
theorem rot_end (r : RowF) {m i : Nat} (hi : i ≤ m) : rotF r (m - i) m (m + i) = swrF r (m - i) m i := by
  funext t; unfold rotF swrF
  repeat' split
  all_goals first | rfl | (exfalso; omega) | (congr 1; omega)
theorem bub_up (r : RowF) {a k : Nat} (h : a ≤ k) : rotF r a (a + 1) (k + 2) = swpF (rotF r a (a + 1) (k + 1)) k (k + 1) := by
  funext t; unfold swpF rotF
  repeat' split
  all_goals first | rfl | (exfalso; omega) | (congr 1; omega)
theorem bub_down (r : RowF) {k m : Nat} (h : k + 1 ≤ m) : rotF r k m (m + 1) = swpF (rotF r (k + 1) m (m + 1)) (k + 1) k := by
  funext t; unfold swpF rotF
  repeat' split
  all_goals first | rfl | (exfalso; omega) | (congr 1; omega)
/-- What stands where while one is led down, or up. -/
theorem bub_down_at (r : RowF) {k m : Nat} (h : k ≤ m) : rotF r k m (m + 1) k = r m := by
  unfold rotF
  rw [if_neg (by omega), if_pos (by omega)]
  congr 1; omega
theorem bub_down_ahead (r : RowF) {k m t : Nat} (h : t < k) : rotF r k m (m + 1) t = r t := by
  unfold rotF
  rw [if_pos h]

/-- A strict weak order. -/
structure SWk (lt : Int → Int → Bool) : Prop where
  asym : ∀ x y, lt x y = true → lt y x = false
  neg : ∀ x y z, lt x z = true → lt x y = true ∨ lt y z = true
/-- The order in which of like ones the smaller number is first. -/
def TT (lt : Int → Int → Bool) (x y : Int) : Prop := lt x y = true ∨ (lt y x = false ∧ x < y)
theorem TT.trans {lt : Int → Int → Bool} (O : SWk lt) {x y z : Int} (h : TT lt x y) (k : TT lt y z) : TT lt x z := by
  rcases h with h | ⟨h, hx⟩ <;> rcases k with k | ⟨k, ky⟩
  · rcases O.neg x z y h with g | g
    · exact Or.inl g
    · have := O.asym _ _ k; rw [g] at this; cases this
  · rcases O.neg x z y h with g | g
    · exact Or.inl g
    · rw [g] at k; cases k
  · rcases O.neg y x z k with g | g
    · rw [g] at h; cases h
    · exact Or.inl g
  · refine Or.inr ⟨?_, by omega⟩
    cases hz : lt z x with
    | false => rfl
    | true =>
      rcases O.neg z y x hz with g | g
      · rw [g] at k; cases k
      · rw [g] at h; cases h
theorem TT.asym {lt : Int → Int → Bool} (O : SWk lt) {x y : Int} (h : TT lt x y) : ¬ TT lt y x := by
  rintro k
  rcases h with h | ⟨h, hx⟩ <;> rcases k with k | ⟨k, ky⟩
  · have := O.asym _ _ h; rw [k] at this; cases this
  · rw [h] at k; cases k
  · rw [h] at k; cases k
  · omega

def SrtF (lt : Int → Int → Bool) (a b : Nat) (r : RowF) : Prop := ∀ s t, a ≤ s → s < t → t < b → TT lt (r s) (r t)
/-- All of [a, m) are smaller numbers than all of [m, b). -/
def CrsF (a m b : Nat) (r : RowF) : Prop := ∀ s t, a ≤ s → s < m → m ≤ t → t < b → r s < r t

theorem srt_le {lt : Int → Int → Bool} (O : SWk lt) {a b : Nat} {r : RowF} (h : SrtF lt a b r) {s t : Nat} (hs : a ≤ s) (hst : s ≤ t) (ht : t < b) {x : Int} (k : TT lt (r t) x) : TT lt (r s) x := by
  rcases Nat.lt_or_ge s t with h' | h'
  · exact (h s t hs h' ht).trans O k
  · obtain rfl : s = t := by omega
    exact k
theorem le_srt {lt : Int → Int → Bool} (O : SWk lt) {a b : Nat} {r : RowF} (h : SrtF lt a b r) {s t : Nat} (hs : a ≤ s) (hst : s ≤ t) (ht : t < b) {x : Int} (k : TT lt x (r s)) : TT lt x (r t) := by
  rcases Nat.lt_or_ge s t with h' | h'
  · exact k.trans O (h s t hs h' ht)
  · obtain rfl : s = t := by omega
    exact k

/-- The values of a row of which two pieces have changed places. -/
theorem rot_cases (r : RowF) {a m b : Nat} (h1 : a ≤ m) (h2 : m ≤ b) (t : Nat) :
    (t < a ∧ rotF r a m b t = r t) ∨ (∃ y, m ≤ y ∧ y < b ∧ t = a + (y - m) ∧ rotF r a m b t = r y) ∨ (∃ x, a ≤ x ∧ x < m ∧ t = x + (b - m) ∧ rotF r a m b t = r x) ∨ (b ≤ t ∧ rotF r a m b t = r t) := by
  unfold rotF
  rcases Nat.lt_or_ge t a with g1 | g1
  · exact Or.inl ⟨g1, by rw [if_pos g1]⟩
  rcases Nat.lt_or_ge t (a + (b - m)) with g2 | g2
  · exact Or.inr (Or.inl ⟨t + (m - a), by omega, by omega, by omega, by rw [if_neg (by omega), if_pos g2]⟩)
  rcases Nat.lt_or_ge t b with g3 | g3
  · exact Or.inr (Or.inr (Or.inl ⟨t - (b - m), by omega, by omega, by omega, by rw [if_neg (by omega), if_neg (by omega), if_pos g3]⟩))
  · exact Or.inr (Or.inr (Or.inr ⟨g3, by rw [if_neg (by omega), if_neg (by omega), if_neg (by omega)]⟩))

theorem rot_sorted {lt : Int → Int → Bool} {r : RowF} {a s m e b : Nat} (h0 : a ≤ s) (h1 : s ≤ m) (h2 : m ≤ e) (h3 : e ≤ b) (hL : SrtF lt a m r) (hR : SrtF lt m b r)
    (c1 : ∀ x y, a ≤ x → x < s → m ≤ y → y < e → TT lt (r x) (r y)) (c2 : ∀ x y, s ≤ x → x < m → m ≤ y → y < e → TT lt (r y) (r x))
    (c3 : ∀ x y, s ≤ x → x < m → e ≤ y → y < b → TT lt (r x) (r y)) (c4 : ∀ x y, a ≤ x → x < s → e ≤ y → y < b → TT lt (r x) (r y)) : SrtF lt a b (rotF r s m e) := by
  intro u v hu huv hv
  rcases rot_cases r h1 h2 u with ⟨g, eu⟩ | ⟨y, gy1, gy2, gy3, eu⟩ | ⟨x, gx1, gx2, gx3, eu⟩ | ⟨g, eu⟩ <;>
  rcases rot_cases r h1 h2 v with ⟨k, ev⟩ | ⟨y', ky1, ky2, ky3, ev⟩ | ⟨x', kx1, kx2, kx3, ev⟩ | ⟨k, ev⟩ <;> rw [eu, ev]
  all_goals first
    | (exfalso; omega)
    | exact hL _ _ (by omega) (by omega) (by omega)
    | exact hR _ _ (by omega) (by omega) (by omega)
    | exact c1 _ _ (by omega) (by omega) (by omega) (by omega)
    | exact c2 _ _ (by omega) (by omega) (by omega) (by omega)
    | exact c3 _ _ (by omega) (by omega) (by omega) (by omega)
    | exact c4 _ _ (by omega) (by omega) (by omega) (by omega)

theorem tt_cross {lt : Int → Int → Bool} {x y : Int} (h : lt y x = false) (k : x < y) : TT lt x y := Or.inr ⟨h, k⟩

/-- One is led down to its place in a sorted piece. -/
theorem ins_sorted {lt : Int → Int → Bool} (O : SWk lt) {r : RowF} {a j i : Nat} (h0 : a ≤ j) (h1 : j ≤ i) (hL : SrtF lt a i r) (hc : ∀ t, a ≤ t → t < i → r t < r i)
    (k1 : ∀ t, j ≤ t → t < i → lt (r i) (r t) = true) (k2 : a < j → lt (r i) (r (j - 1)) = false) : SrtF lt a (i + 1) (rotF r j i (i + 1)) := by
  have hlow : ∀ x, a ≤ x → x < j → TT lt (r x) (r i) := fun x hx hxj =>
    srt_le O hL (s := x) (t := j - 1) hx (by omega) (by omega) (tt_cross (k2 (by omega)) (hc _ (by omega) (by omega)))
  refine rot_sorted h0 h1 (by omega) (Nat.le_refl _) hL (fun s t hs hst ht => by omega) ?_ ?_ ?_ ?_
  · intro x y hx hxj hy hy2
    obtain rfl : y = i := by omega
    exact hlow x hx hxj
  · intro x y hx hxj hy hy2
    obtain rfl : y = i := by omega
    exact Or.inl (k1 x hx hxj)
  · intro x y hx hxj hy hy2; omega
  · intro x y hx hxj hy hy2; omega

/-- The first piece is one element. -/
theorem sym_one {lt : Int → Int → Bool} (O : SWk lt) {r : RowF} {a i b : Nat} (h1 : a + 1 ≤ i) (h2 : i ≤ b) (hR : SrtF lt (a + 1) b r) (hc : CrsF a (a + 1) b r)
    (k1 : i = a + 1 ∨ lt (r (i - 1)) (r a) = true) (k2 : i = b ∨ lt (r i) (r a) = false) : SrtF lt a b (rotF r a (a + 1) i) := by
  refine rot_sorted (Nat.le_refl _) (by omega) h1 h2 (fun s t hs hst ht => by omega) hR ?_ ?_ ?_ ?_
  · intro x y hx hxj hy hy2; omega
  · intro x y hx hxj hy hy2
    obtain rfl : x = a := by omega
    rcases k1 with k1 | k1
    · omega
    · exact srt_le O hR (s := y) (t := i - 1) hy (by omega) (by omega) (Or.inl k1)
  · intro x y hx hxj hy hy2
    obtain rfl : x = a := by omega
    rcases k2 with k2 | k2
    · omega
    · exact le_srt O hR (s := i) (t := y) (by omega) hy hy2 (tt_cross k2 (hc _ _ (by omega) (by omega) (by omega) (by omega)))
  · intro x y hx hxj hy hy2; omega
/-- The second piece is one element. -/
theorem sym_last {lt : Int → Int → Bool} (O : SWk lt) {r : RowF} {a i m : Nat} (h1 : a ≤ i) (h2 : i ≤ m) (hL : SrtF lt a m r) (hc : CrsF a m (m + 1) r)
    (k1 : i = a ∨ lt (r m) (r (i - 1)) = false) (k2 : i = m ∨ lt (r m) (r i) = true) : SrtF lt a (m + 1) (rotF r i m (m + 1)) := by
  refine rot_sorted h1 h2 (by omega) (Nat.le_refl _) hL (fun s t hs hst ht => by omega) ?_ ?_ ?_ ?_
  · intro x y hx hxj hy hy2
    obtain rfl : y = m := by omega
    rcases k1 with k1 | k1
    · omega
    · exact srt_le O hL (s := x) (t := i - 1) hx (by omega) (by omega) (tt_cross k1 (hc _ _ (by omega) (by omega) (by omega) (by omega)))
  · intro x y hx hxj hy hy2
    obtain rfl : y = m := by omega
    rcases k2 with k2 | k2
    · omega
    · exact le_srt O hL (s := i) (t := x) (by omega) hx hxj (Or.inl k2)
  · intro x y hx hxj hy hy2; omega
  · intro x y hx hxj hy hy2; omega

structure SymMid (lt : Int → Int → Bool) (a s mid e b : Nat) (r1 : RowF) : Prop where
  sL : SrtF lt a s r1
  sM : SrtF lt s mid r1
  cL : CrsF a s mid r1
  sN : SrtF lt mid e r1
  sR : SrtF lt e b r1
  cR : CrsF mid e b r1
  halves : ∀ x y, a ≤ x → x < mid → mid ≤ y → y < b → TT lt (r1 x) (r1 y)

theorem sym_mid {lt : Int → Int → Bool} (O : SWk lt) {r : RowF} {a s m e b mid : Nat} (h0 : a ≤ s) (h1 : s ≤ m) (h2 : m ≤ e) (h3 : e ≤ b) (hm : s + e = mid + m) (hL : SrtF lt a m r) (hR : SrtF lt m b r) (hc : CrsF a m b r)
    (k1 : s = a ∨ e = b ∨ lt (r e) (r (s - 1)) = false) (k2 : s = m ∨ e = m ∨ lt (r (e - 1)) (r s) = true) : SymMid lt a s mid e b (rotF r s m e) := by
  have c4 : ∀ x y, a ≤ x → x < s → e ≤ y → y < b → TT lt (r x) (r y) := by
    intro x y hx hxs hy hyb
    rcases k1 with k | k | k
    · omega
    · omega
    · exact srt_le O hL (s := x) (t := s - 1) hx (by omega) (by omega) (le_srt O hR (s := e) (t := y) h2 hy hyb (tt_cross k (hc _ _ (by omega) (by omega) (by omega) (by omega))))
  have c2 : ∀ x y, s ≤ x → x < m → m ≤ y → y < e → TT lt (r y) (r x) := by
    intro x y hx hxs hy hyb
    rcases k2 with k | k | k
    · omega
    · omega
    · exact srt_le O hR (s := y) (t := e - 1) hy (by omega) (by omega) (le_srt O hL (s := s) (t := x) h0 hx hxs (Or.inl k))
  have hcase := rot_cases r h1 h2
  refine ⟨?_, ?_, ?_, ?_, ?_, ?_, ?_⟩
  all_goals
    intro u v
    intros
    rcases hcase u with ⟨g, eu⟩ | ⟨y, gy1, gy2, gy3, eu⟩ | ⟨x, gx1, gx2, gx3, eu⟩ | ⟨g, eu⟩ <;>
    rcases hcase v with ⟨k, ev⟩ | ⟨y', ky1, ky2, ky3, ev⟩ | ⟨x', kx1, kx2, kx3, ev⟩ | ⟨k, ev⟩ <;> rw [eu, ev]
    all_goals first
      | (exfalso; omega)
      | exact hL _ _ (by omega) (by omega) (by omega)
      | exact hR _ _ (by omega) (by omega) (by omega)
      | exact hc _ _ (by omega) (by omega) (by omega) (by omega)
      | exact c2 _ _ (by omega) (by omega) (by omega) (by omega)
      | exact c4 _ _ (by omega) (by omega) (by omega) (by omega)

theorem srt_none {lt : Int → Int → Bool} {a s b : Nat} {r : RowF} (h : a = s ∨ s = b) (h1 : SrtF lt a s r) (h2 : SrtF lt s b r) : SrtF lt a b r := by
  rcases h with rfl | rfl
  · exact h2
  · exact h1

theorem srt_out {lt : Int → Int → Bool} {a b c d : Nat} {r r' : RowF} (h : SrtF lt a b r) (k : OkF c d r r') (hd : b ≤ c ∨ d ≤ a) : SrtF lt a b r' := by
  intro s t hs hst ht
  rw [k.out s (by omega), k.out t (by omega)]
  exact h s t hs hst ht
theorem crs_out {a m b c d : Nat} {r r' : RowF} (h : CrsF a m b r) (k : OkF c d r r') (hd : b ≤ c ∨ d ≤ a) : CrsF a m b r' := by
  intro s t hs hsm htm ht
  rw [k.out s (by omega), k.out t (by omega)]
  exact h s t hs hsm htm ht

/-- Both halves are merged. -/
theorem sym_join {lt : Int → Int → Bool} {r1 r2 r3 : RowF} {a mid b : Nat} (h1 : a ≤ mid) (h2 : mid ≤ b) (hh : ∀ x y, a ≤ x → x < mid → mid ≤ y → y < b → TT lt (r1 x) (r1 y))
    (o1 : OkF a mid r1 r2) (s1 : SrtF lt a mid r2) (o2 : OkF mid b r2 r3) (s2 : SrtF lt mid b r3) : SrtF lt a b r3 ∧ OkF a b r1 r3 := by
  refine ⟨?_, (o1.widen (Nat.le_refl _) h1 h2).trans (o2.widen h1 h2 (Nat.le_refl _))⟩
  intro u v hu huv hv
  rcases Nat.lt_or_ge u mid with g | g
  · rcases Nat.lt_or_ge v mid with k | k
    · rw [o2.out u (by omega), o2.out v (by omega)]; exact s1 u v hu huv k
    · obtain ⟨x, x1, x2, x3⟩ := o1.val hu g
      obtain ⟨y, y1, y2, y3⟩ := o2.val k hv
      rw [o2.out u (by omega), x3, y3, o1.out y (by omega)]
      exact hh x y x1 x2 y1 y2
  · exact s2 u v g huv hv

/-- The row in pieces of so many: those below a are sorted, the others ascend. -/
def FstF (lt : Int → Int → Bool) (n bs a : Nat) (r : RowF) : Prop :=
  ∀ s t, s < t → t < n → (s / bs < t / bs → r s < r t) ∧ (t < a → s / bs = t / bs → TT lt (r s) (r t)) ∧ (a ≤ s → r s < r t)
def RunsF (lt : Int → Int → Bool) (n bs : Nat) (r : RowF) : Prop :=
  ∀ s t, s < t → t < n → (s / bs < t / bs → r s < r t) ∧ (s / bs = t / bs → TT lt (r s) (r t))
def HalfF (lt : Int → Int → Bool) (n bs a : Nat) (r : RowF) : Prop :=
  ∀ s t, s < t → t < n → (s / (2 * bs) < t / (2 * bs) → r s < r t) ∧ (t < a → s / (2 * bs) = t / (2 * bs) → TT lt (r s) (r t)) ∧ (a ≤ s → (s / bs < t / bs → r s < r t) ∧ (s / bs = t / bs → TT lt (r s) (r t)))

theorem div_in {bs c s : Nat} (hb : 0 < bs) : s / bs = c ↔ c * bs ≤ s ∧ s < (c + 1) * bs := by
  constructor
  · rintro rfl
    exact ⟨Nat.div_mul_le_self _ _, by rw [Nat.add_mul, Nat.one_mul, Nat.mul_comm]; have := Nat.div_add_mod s bs; have := Nat.mod_lt s hb; omega⟩
  · rintro ⟨h1, h2⟩
    exact Nat.div_eq_of_lt_le h1 h2

theorem div_lt_of {bs s t : Nat} (h : s / bs < t / bs) : s < t := by
  rcases Nat.lt_or_ge s t with g | g
  · exact g
  · have := Nat.div_le_div_right (c := bs) g; omega

theorem fst_start {lt : Int → Int → Bool} {n bs : Nat} {r : RowF} (h : ∀ s t, s < t → t < n → r s < r t) : FstF lt n bs 0 r :=
  fun s t hs ht => ⟨fun _ => h s t hs ht, fun h0 => by omega, fun _ => h s t hs ht⟩

theorem fst_asc {lt : Int → Int → Bool} {n bs a b : Nat} {r : RowF} (h : FstF lt n bs a r) (hb : b ≤ n) : ∀ s t, a ≤ s → s < t → t < b → r s < r t :=
  fun s t hs hst ht => (h s t hst (by omega)).2.2 hs

theorem fst_step {lt : Int → Int → Bool} {n bs a b c : Nat} {r r' : RowF} (hbs : 0 < bs) (hc : a = c * bs) (hb : b ≤ n) (hab : a ≤ b) (hab2 : b ≤ a + bs) (hend : b = a + bs ∨ b = n) (h : FstF lt n bs a r) (o : OkF a b r r') (hs : SrtF lt a b r') : FstF lt n bs b r' := by
  subst hc
  have hblk : ∀ t, c * bs ≤ t → t < b → t / bs = c := fun t h1 h2 => (div_in hbs).2 ⟨h1, by rw [Nat.add_mul, Nat.one_mul]; omega⟩
  have hval : ∀ t, ∃ u, r' t = r u ∧ u / bs = t / bs ∧ (t < c * bs ∨ b ≤ t → u = t) ∧ (c * bs ≤ t → t < b → c * bs ≤ u ∧ u < b) := by
    intro t
    rcases Nat.lt_or_ge t (c * bs) with g | g
    · exact ⟨t, o.out t (Or.inl g), rfl, fun _ => rfl, fun k => by omega⟩
    · rcases Nat.lt_or_ge t b with g2 | g2
      · obtain ⟨u, u1, u2, u3⟩ := o.val g g2
        exact ⟨u, u3, by rw [hblk u u1 u2, hblk t g g2], fun k => by omega, fun _ _ => ⟨u1, u2⟩⟩
      · exact ⟨t, o.out t (Or.inr g2), rfl, fun _ => rfl, fun _ k => by omega⟩
  intro s t hst ht
  obtain ⟨u, u1, u2, u3, u4⟩ := hval s
  obtain ⟨v, v1, v2, v3, v4⟩ := hval t
  have hvn : v < n := by
    rcases Nat.lt_or_ge t (c * bs) with g | g
    · rw [v3 (Or.inl g)]; exact ht
    · rcases Nat.lt_or_ge t b with g2 | g2
      · have := (v4 g g2).2; omega
      · rw [v3 (Or.inr g2)]; exact ht
  have huv : s / bs < t / bs → r' s < r' t := fun k => by
    have k2 : u / bs < v / bs := by rw [u2, v2]; exact k
    rw [u1, v1]
    exact (h u v (div_lt_of k2) hvn).1 k2
  refine ⟨huv, ?_, ?_⟩
  · intro htb hsame
    rcases Nat.lt_or_ge s (c * bs) with g | g
    · have h1 : s / bs < c := by
        rw [Nat.div_lt_iff_lt_mul hbs]; exact g
      have h2 : t < c * bs := by
        rcases Nat.lt_or_ge t (c * bs) with g2 | g2
        · exact g2
        · have := hblk t g2 htb; omega
      rw [o.out s (Or.inl g), o.out t (Or.inl h2)]
      exact (h s t hst ht).2.1 h2 hsame
    · exact hs s t g hst htb
  · intro hbs'
    rw [o.out s (Or.inr hbs'), o.out t (Or.inr (by omega))]
    exact (h s t hst ht).2.2 (by omega)

theorem fst_end {lt : Int → Int → Bool} {n bs : Nat} {r : RowF} (h : FstF lt n bs n r) : RunsF lt n bs r :=
  fun s t hst ht => ⟨(h s t hst ht).1, (h s t hst ht).2.1 ht⟩

theorem half_start {lt : Int → Int → Bool} {n bs : Nat} {r : RowF} (h : RunsF lt n bs r) : HalfF lt n bs 0 r := by
  intro s t hst ht
  refine ⟨fun k => (h s t hst ht).1 ?_, fun h0 => by omega, fun _ => h s t hst ht⟩
  rw [Nat.mul_comm, ← Nat.div_div_eq_div_mul, ← Nat.div_div_eq_div_mul] at k
  rcases Nat.lt_or_ge (s / bs) (t / bs) with g | g
  · exact g
  · have := Nat.div_le_div_right (c := 2) g; omega

theorem half_pre {lt : Int → Int → Bool} {n bs a b c : Nat} {r : RowF} (hbs : 0 < bs) (hc : a = c * (2 * bs)) (hb : b ≤ n) (h1 : a + bs < b) (h2 : b ≤ a + 2 * bs) (h : HalfF lt n bs a r) :
    SrtF lt a (a + bs) r ∧ SrtF lt (a + bs) b r ∧ CrsF a (a + bs) b r := by
  have e : a = (2 * c) * bs := by rw [hc, Nat.mul_assoc, Nat.mul_left_comm]
  have b1 : ∀ t, a ≤ t → t < a + bs → t / bs = 2 * c := fun t g1 g2 => (div_in hbs).2 ⟨by omega, by rw [Nat.add_mul, Nat.one_mul]; omega⟩
  have b2 : ∀ t, a + bs ≤ t → t < b → t / bs = 2 * c + 1 := fun t g1 g2 => (div_in hbs).2 ⟨by rw [Nat.add_mul, Nat.one_mul]; omega, by rw [Nat.add_mul, Nat.add_mul, Nat.one_mul]; omega⟩
  refine ⟨?_, ?_, ?_⟩
  · intro s t hs hst ht
    exact ((h s t hst (by omega)).2.2 hs).2 (by rw [b1 s hs (by omega), b1 t (by omega) ht])
  · intro s t hs hst ht
    exact ((h s t hst (by omega)).2.2 (by omega)).2 (by rw [b2 s hs (by omega), b2 t (by omega) ht])
  · intro s t hs hsm hmt ht
    exact ((h s t (by omega) (by omega)).2.2 hs).1 (by rw [b1 s hs hsm, b2 t hmt ht]; omega)

theorem half_step {lt : Int → Int → Bool} {n bs a b c : Nat} {r r' : RowF} (hbs : 0 < bs) (hc : a = c * (2 * bs)) (hb : b ≤ n) (hab : a ≤ b) (hab2 : b ≤ a + 2 * bs) (hend : b = a + 2 * bs ∨ b = n) (h : HalfF lt n bs a r) (o : OkF a b r r') (hs : SrtF lt a b r') : HalfF lt n bs b r' := by
  have hbs2 : 0 < 2 * bs := by omega
  unfold HalfF at h ⊢
  generalize 2 * bs = B at *
  subst hc
  have hblk : ∀ t, c * B ≤ t → t < b → t / B = c := fun t h1 h2 => (div_in hbs2).2 ⟨h1, by rw [Nat.add_mul, Nat.one_mul]; omega⟩
  have hval : ∀ t, t < n → ∃ u, r' t = r u ∧ u / B = t / B ∧ u < n := by
    intro t htn
    rcases Nat.lt_or_ge t (c * B) with g | g
    · exact ⟨t, o.out t (Or.inl g), rfl, htn⟩
    · rcases Nat.lt_or_ge t b with g2 | g2
      · obtain ⟨u, u1, u2, u3⟩ := o.val g g2
        exact ⟨u, u3, by rw [hblk u u1 u2, hblk t g g2], by omega⟩
      · exact ⟨t, o.out t (Or.inr g2), rfl, htn⟩
  intro s t hst ht
  refine ⟨?_, ?_, ?_⟩
  · intro k
    obtain ⟨u, u1, u2, u3⟩ := hval s (by omega)
    obtain ⟨v, v1, v2, v3⟩ := hval t ht
    have k2 : u / B < v / B := by rw [u2, v2]; exact k
    rw [u1, v1]
    exact (h u v (div_lt_of k2) v3).1 k2
  · intro htb hsame
    rcases Nat.lt_or_ge s (c * B) with g | g
    · have h1 : s / B < c := by
        rw [Nat.div_lt_iff_lt_mul hbs2]; exact g
      have h2 : t < c * B := by
        rcases Nat.lt_or_ge t (c * B) with g2 | g2
        · exact g2
        · have := hblk t g2 htb; omega
      rw [o.out s (Or.inl g), o.out t (Or.inl h2)]
      exact (h s t hst ht).2.1 h2 hsame
    · exact hs s t g hst htb
  · intro hbs'
    rw [o.out s (Or.inr hbs'), o.out t (Or.inr (by omega))]
    exact (h s t hst ht).2.2 (by omega)

theorem half_end {lt : Int → Int → Bool} {n bs : Nat} {r : RowF} (h : HalfF lt n bs n r) : RunsF lt n (2 * bs) r :=
  fun s t hst ht => ⟨(h s t hst ht).1, (h s t hst ht).2.1 ht⟩
/-- What is left over is one sorted piece. -/
theorem half_rest {lt : Int → Int → Bool} {n bs a c : Nat} {r : RowF} (hbs : 0 < bs) (hc : a = c * (2 * bs)) (ha : a ≤ n) (hn : n ≤ a + bs) (h : HalfF lt n bs a r) : RunsF lt n (2 * bs) r := by
  refine half_end (half_step hbs hc (Nat.le_refl n) ha (by omega) (Or.inr rfl) h (OkF.refl _ _ _) ?_)
  have e : a = (2 * c) * bs := by rw [hc, Nat.mul_assoc, Nat.mul_left_comm]
  have b1 : ∀ t, a ≤ t → t < n → t / bs = 2 * c := fun t g1 g2 => (div_in hbs).2 ⟨by omega, by rw [Nat.add_mul, Nat.one_mul]; omega⟩
  intro s t hs hst ht
  exact ((h s t hst ht).2.2 hs).2 (by rw [b1 s hs (by omega), b1 t (by omega) ht])
theorem runs_end {lt : Int → Int → Bool} {n bs : Nat} {r : RowF} (hn : n ≤ bs) (h : RunsF lt n bs r) : SrtF lt 0 n r := by
  intro s t _ hst ht
  exact (h s t hst ht).2 (by rw [Nat.div_eq_of_lt (by omega), Nat.div_eq_of_lt (by omega)])

/-- A sorted row of given elements is one. -/
theorem sorted_one {lt : Int → Int → Bool} (O : SWk lt) : ∀ {xs ys : List Int}, xs.Pairwise (TT lt) → ys.Pairwise (TT lt) → xs.Perm ys → xs = ys := by
  intro xs
  induction xs with
  | nil => intro ys _ _ hp; exact (List.nil_perm.1 hp).symm
  | cons x xs ih =>
    intro ys h1 h2 hp
    cases ys with
    | nil => exact absurd hp.length_eq (by simp)
    | cons y ys =>
      have hxy : x = y := by
        rcases List.mem_cons.1 (hp.mem_iff.1 (List.mem_cons_self)) with g | g
        · exact g
        · rcases List.mem_cons.1 (hp.mem_iff.2 (List.mem_cons_self)) with k | k
          · exact k.symm
          · exact absurd ((List.pairwise_cons.1 h1).1 y k) (TT.asym O ((List.pairwise_cons.1 h2).1 x g))
      subst hxy
      rw [ih (List.pairwise_cons.1 h1).2 (List.pairwise_cons.1 h2).2 ((List.perm_cons x).1 hp)]
theorem srt_pairwise {lt : Int → Int → Bool} {n : Nat} {r : RowF} (h : SrtF lt 0 n r) : (tab n r).Pairwise (TT lt) := by
  rw [List.pairwise_iff_getElem]
  intro i j hi hj hij
  rw [tab_get hi, tab_get hj]
  rw [tab_len] at hj
  exact h i j (Nat.zero_le _) hij hj
theorem ok_perm {n : Nat} {r r' : RowF} (h : OkF 0 n r r') : (tab n r').Perm (tab n r) := by
  rw [← seg_zero, ← seg_zero]; exact h.perm
end Go.Proofs.YtannijeiecmjpaaDoor
