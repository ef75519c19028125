/- Places joined by edges, in plain words: what any search reaches; in a tree all searches find the same ways; what is cut off without an edge. No program in sight. -/
import Derived.Test.YtogbmpnbbkcocaaDoorRow
import Derived.IntWalk
namespace Go.Proofs.YtogbmpnbbkcocaaDoor
open Go.RowKit Go.IntWalk

/-- A row of n numbers told by their places. -/
def tabI (n : Nat) (f : Nat → Int) : List Int := (List.range n).map f
theorem tabI_len (n : Nat) (f : Nat → Int) : (tabI n f).length = n := by simp [tabI]
theorem tabI_get (n : Nat) (f : Nat → Int) (j : Nat) (h : j < (tabI n f).length) : (tabI n f)[j] = f j := by simp [tabI]
theorem tabI_congr {n : Nat} {f g : Nat → Int} (h : ∀ y, y < n → g y = f y) : tabI n f = tabI n g := by
  apply List.ext_getElem
  · simp [tabI]
  · intro i h1 h2
    rw [tabI_len] at h2
    rw [tabI_get, tabI_get, h i h2]
def upd (f : Nat → Int) (b : Nat) (v : Int) : Nat → Int := fun y => if y = b then v else f y
theorem upd_at (f : Nat → Int) (b : Nat) (v : Int) : upd f b v b = v := if_pos rfl
theorem upd_ne (f : Nat → Int) {b y : Nat} (v : Int) (h : y ≠ b) : upd f b v y = f y := if_neg h
theorem tabI_upd (n : Nat) (f : Nat → Int) (b : Nat) (v : Int) : (tabI n f).set b v = tabI n (upd f b v) := by
  apply List.ext_getElem
  · simp [tabI]
  · intro i h1 h2
    rw [tabI_len] at h2
    rw [List.getElem_set, tabI_get, tabI_get]
    by_cases h : b = i
    · subst h; rw [if_pos rfl, upd_at]
    · rw [if_neg h, upd_ne _ _ (fun h' => h h'.symm)]
theorem tabI_rep (n : Nat) (v : Int) : List.replicate n v = tabI n (fun _ => v) := by
  apply List.ext_getElem
  · simp [tabI]
  · intro i h1 h2; simp [tabI]

/-- How many of the first n places are not reached. -/
def unr : Nat → (Nat → Int) → Nat
  | 0, _ => 0
  | n + 1, f => unr n f + (if f n < 0 then 1 else 0)
theorem unr_le (n : Nat) (f : Nat → Int) : unr n f ≤ n := by
  induction n with
  | zero => simp [unr]
  | succ n ih => unfold unr; split <;> omega
theorem unr_out (n : Nat) (f : Nat → Int) (i : Nat) (v : Int) (h : n ≤ i) : unr n (upd f i v) = unr n f := by
  induction n with
  | zero => rfl
  | succ n ih =>
    unfold unr
    rw [ih (by omega), upd_ne _ _ (by omega)]
theorem unr_set (n : Nat) (f : Nat → Int) (i : Nat) (v : Int) (h : i < n) (h1 : f i < 0) (h2 : 0 ≤ v) : unr n (upd f i v) + 1 = unr n f := by
  induction n with
  | zero => omega
  | succ n ih =>
    unfold unr
    by_cases hin : i = n
    · subst hin
      rw [unr_out _ _ _ _ (Nat.le_refl _), upd_at, if_neg (by omega), if_pos h1]
    · have := ih (by omega)
      rw [upd_ne _ _ (by omega : n ≠ i)]
      omega
theorem unr_all (n : Nat) : unr n (fun _ => -1) = n := by
  induction n with
  | zero => rfl
  | succ n ih => unfold unr; rw [ih, if_pos (show (-1 : Int) < 0 by decide)]

/-- An edge joins two places. -/
def joins (e : R3) (p i : Nat) : Prop := (e.1 = (p : Int) ∧ e.2.1 = (i : Int)) ∨ (e.1 = (i : Int) ∧ e.2.1 = (p : Int))
theorem joins_sym {e : R3} {p i : Nat} (h : joins e p i) : joins e i p := by
  rcases h with h | h
  · exact Or.inr h
  · exact Or.inl h
def startF (at' : Nat) : Nat → Int := upd (fun _ => -1) at' 0
/-- What a search may have found: from one place on, edge by edge. -/
inductive Grow (es : List R3) (r : Nat) : (Nat → Int) → Prop
  | start : Grow es r (startF r)
  | step {f : Nat → Int} (h : Grow es r f) {e : R3} (he : e ∈ es) {p i : Nat} (hj : joins e p i) (hp : 0 ≤ f p) (hi : f i < 0) : Grow es r (upd f i (f p + e.2.2))
/-- Nothing more is to be found. -/
def Closed (es : List R3) (f : Nat → Int) : Prop := ∀ e ∈ es, ∀ p i, joins e p i → 0 ≤ f p → 0 ≤ f i
theorem grow_fwd {es : List R3} {r : Nat} {f : Nat → Int} (h : Grow es r f) (U : Nat → Prop) (hU : ∀ e ∈ es, ∀ p i, joins e p i → U p → U i) (hr : U r) : ∀ y, 0 ≤ f y → U y := by
  induction h with
  | start =>
    intro y hy
    by_cases h : y = r
    · subst h; exact hr
    · rw [startF, upd_ne _ _ h] at hy; omega
  | step h he hj hp hi ih =>
    rename_i f e p i
    intro y hy
    by_cases h2 : y = i
    · subst h2; exact hU e he p y hj (ih p hp)
    · rw [upd_ne _ _ h2] at hy; exact ih y hy
theorem grow_back {es : List R3} {r : Nat} {f : Nat → Int} (h : Grow es r f) (U : Nat → Prop) (hU : ∀ e ∈ es, ∀ p i, joins e p i → U p → U i) : ∀ y, 0 ≤ f y → U y → U r := by
  induction h with
  | start =>
    intro y hy hu
    by_cases h : y = r
    · subst h; exact hu
    · rw [startF, upd_ne _ _ h] at hy; omega
  | step h he hj hp hi ih =>
    rename_i f e p i
    intro y hy hu
    by_cases h2 : y = i
    · subst h2; exact ih p hp (hU e he y p (joins_sym hj) hu)
    · rw [upd_ne _ _ h2] at hy; exact ih y hy hu
theorem grow_root {es : List R3} {r : Nat} {f : Nat → Int} (h : Grow es r f) : f r = 0 := by
  induction h with
  | start => exact upd_at _ _ _
  | step h he hj hp hi ih =>
    rename_i f e p i
    by_cases h2 : r = i
    · subst h2; omega
    · rw [upd_ne _ _ h2]; exact ih
theorem grow_same {es : List R3} {r : Nat} {f g : Nat → Int} (hf : Grow es r f) (hg : Grow es r g) (hc : Closed es g) : ∀ y, 0 ≤ f y → 0 ≤ g y :=
  grow_fwd hf (fun y => 0 ≤ g y) hc (by rw [grow_root hg]; omega)
/-- Edges that may be, among n places. -/
def okEdge (n : Nat) (e : R3) : Prop := 0 ≤ e.1 ∧ e.1 < n ∧ 0 ≤ e.2.1 ∧ e.2.1 < n ∧ 0 ≤ e.2.2 ∧ e.2.2 ≤ 1000000000
theorem joins_lt {n : Nat} {e : R3} {p i : Nat} (h : okEdge n e) (hj : joins e p i) : p < n ∧ i < n := by
  unfold okEdge at h
  rcases hj with h1 | h1 <;> omega
theorem grow_in {es : List R3} {r n : Nat} {f : Nat → Int} (h : Grow es r f) (hr : r < n) (hE : ∀ e ∈ es, okEdge n e) : ∀ y, 0 ≤ f y → y < n :=
  grow_fwd h (fun y => y < n) (fun e he _ _ hj _ => (joins_lt (hE e he) hj).2) hr
theorem grow_low {es : List R3} {r : Nat} {f : Nat → Int} (h : Grow es r f) (hE : ∀ e ∈ es, 0 ≤ e.2.2) : ∀ y, f y < 0 → f y = -1 := by
  induction h with
  | start =>
    intro y hy
    by_cases h : y = r
    · subst h; rw [startF, upd_at] at hy; omega
    · rw [startF, upd_ne _ _ h]
  | step h he hj hp hi ih =>
    rename_i f e p i
    intro y hy
    by_cases h2 : y = i
    · subst h2; rw [upd_at] at hy; have := hE e he; omega
    · rw [upd_ne _ _ h2] at hy ⊢; exact ih y hy
theorem grow_bd {es : List R3} {r n : Nat} {f : Nat → Int} (h : Grow es r f) (hE : ∀ e ∈ es, okEdge n e) : ∀ y, f y + (unr n f : Int) * 1000000000 ≤ (n : Int) * 1000000000 := by
  induction h with
  | start =>
    intro y
    have hu := unr_le n (startF r)
    have : startF r y ≤ 0 := by
      unfold startF upd
      split
      · exact Int.le_refl _
      · show (-1 : Int) ≤ 0; decide
    omega
  | step h he hj hp hi ih =>
    rename_i f e p i
    intro y
    have hin := (joins_lt (hE e he) hj).2
    have hl := hE e he
    unfold okEdge at hl
    have hu := unr_set n f i (f p + e.2.2) hin hi (by omega)
    by_cases h2 : y = i
    · subst h2
      rw [upd_at]
      have := ih p
      omega
    · rw [upd_ne _ _ h2]
      have := ih y
      omega
theorem grow_le {es : List R3} {r n : Nat} {f : Nat → Int} (h : Grow es r f) (hE : ∀ e ∈ es, okEdge n e) (y : Nat) : -1 ≤ f y ∧ f y ≤ n * 1000000000 := by
  have h1 := grow_bd h hE y
  constructor
  · rcases Int.lt_or_le (f y) 0 with h2 | h2
    · rw [grow_low h (fun e he => (hE e he).2.2.2.2.1) y h2]; omega
    · omega
  · omega

/-- By which edge each place was found, and from where. -/
def Pars (es : List R3) (r : Nat) (f : Nat → Int) (rk pe pp : Nat → Nat) : Prop :=
  ∀ i, 0 ≤ f i → i ≠ r → ∃ h : pe i < es.length, joins es[pe i] (pp i) i ∧ 0 ≤ f (pp i) ∧ rk (pp i) < rk i ∧ f i = f (pp i) + es[pe i].2.2
theorem grow_pars {es : List R3} {r : Nat} {f : Nat → Int} (h : Grow es r f) : ∃ rk pe pp, Pars es r f rk pe pp := by
  induction h with
  | start =>
    refine ⟨fun _ => 0, fun _ => 0, fun _ => 0, fun i hi hne => ?_⟩
    rw [startF, upd_ne _ _ hne] at hi; omega
  | step h he hj hp hi ih =>
    rename_i f e p i
    obtain ⟨rk, pe, pp, ih⟩ := ih
    obtain ⟨k, hk, rfl⟩ := List.mem_iff_getElem.1 he
    refine ⟨fun y => if y = i then rk p + 1 else rk y, fun y => if y = i then k else pe y, fun y => if y = i then p else pp y, fun j hjf hne => ?_⟩
    have hpi : p ≠ i := by intro h2; subst h2; omega
    by_cases h2 : j = i
    · subst h2
      simp only [if_pos]
      refine ⟨hk, hj, by rw [upd_ne _ _ hpi]; exact hp, by rw [if_neg hpi]; omega, by rw [upd_at, upd_ne _ _ hpi]⟩
    · rw [upd_ne _ _ h2] at hjf
      obtain ⟨h3, h4, h5, h6, h7⟩ := ih j hjf hne
      have hpj : pp j ≠ i := by intro h8; rw [h8] at h5; omega
      simp only [if_neg h2]
      refine ⟨h3, h4, by rw [upd_ne _ _ hpj]; exact h5, by rw [if_neg hpj]; exact h6, by rw [upd_ne _ _ h2, upd_ne _ _ hpj]; exact h7⟩
theorem pars_inj {es : List R3} {r : Nat} {f : Nat → Int} {rk pe pp : Nat → Nat} (h : Pars es r f rk pe pp) {i j : Nat} (hi : 0 ≤ f i) (hir : i ≠ r) (hj : 0 ≤ f j) (hjr : j ≠ r) (he : pe i = pe j) : i = j := by
  obtain ⟨h1, h2, _, h4, _⟩ := h i hi hir
  obtain ⟨k1, k2, _, k4, _⟩ := h j hj hjr
  simp only [he] at h2
  unfold joins at h2 k2
  rcases h2 with h2 | h2 <;> rcases k2 with k2 | k2
  · omega
  · have e1 : pp i = j := by omega
    have e2 : pp j = i := by omega
    rw [e1] at h4; rw [e2] at k4; omega
  · have e1 : pp i = j := by omega
    have e2 : pp j = i := by omega
    rw [e1] at h4; rw [e2] at k4; omega
  · omega
theorem nodup_le : ∀ (m : Nat) (L : List Nat), L.Nodup → (∀ x ∈ L, x < m) → L.length ≤ m := by
  intro m
  induction m with
  | zero =>
    intro L _ h
    cases L with
    | nil => simp
    | cons x xs => have := h x (by simp); omega
  | succ m ih =>
    intro L hn h
    by_cases hm : m ∈ L
    · have h1 := ih (L.erase m) (hn.erase m) (fun x hx => by
        have h2 := (hn.mem_erase_iff).1 hx
        have h3 := h x h2.2
        have h4 := h2.1
        omega)
      rw [List.length_erase_of_mem hm] at h1
      omega
    · have := ih L hn (fun x hx => by
        have h3 := h x hx
        have : x ≠ m := fun h4 => hm (h4 ▸ hx)
        omega)
      omega
/-- The places but the root, each by its edge: all apart. -/
theorem pars_nodup {es : List R3} {r n : Nat} {f : Nat → Int} {rk pe pp : Nat → Nat} (h : Pars es r f rk pe pp) (hall : ∀ i, i < n → 0 ≤ f i) : (((List.range n).erase r).map pe).Nodup := by
  have hn : ((List.range n).erase r).Nodup := List.nodup_range.erase r
  unfold List.Nodup at hn ⊢
  rw [List.pairwise_map]
  refine List.Pairwise.imp_of_mem ?_ hn
  intro a b ha hb hab hpe
  have h1 := List.nodup_range.mem_erase_iff.1 ha
  have h2 := List.nodup_range.mem_erase_iff.1 hb
  exact hab (pars_inj h (hall a (List.mem_range.1 h1.2)) h1.1 (hall b (List.mem_range.1 h2.2)) h2.1 hpe)
theorem pars_count {es : List R3} {r n : Nat} {f : Nat → Int} (h : Grow es r f) (hr : r < n) (hall : ∀ i, i < n → 0 ≤ f i) : n ≤ es.length + 1 := by
  obtain ⟨rk, pe, pp, hp⟩ := grow_pars h
  have h1 := nodup_le es.length _ (pars_nodup hp hall) (fun x hx => by
    obtain ⟨i, hi, rfl⟩ := List.mem_map.1 hx
    have h2 := List.nodup_range.mem_erase_iff.1 hi
    exact (hp i (hall i (List.mem_range.1 h2.2)) h2.1).1)
  rw [List.length_map, List.length_erase_of_mem (List.mem_range.2 hr), List.length_range] at h1
  omega
theorem pars_onto {es : List R3} {r n : Nat} {f : Nat → Int} {rk pe pp : Nat → Nat} (hp : Pars es r f rk pe pp) (hr : r < n) (hall : ∀ i, i < n → 0 ≤ f i) (hn : es.length + 1 = n) (k : Nat) (hk : k < es.length) :
    ∃ i, i < n ∧ i ≠ r ∧ pe i = k := by
  by_cases hm : k ∈ ((List.range n).erase r).map pe
  · obtain ⟨i, hi, rfl⟩ := List.mem_map.1 hm
    have h2 := List.nodup_range.mem_erase_iff.1 hi
    exact ⟨i, List.mem_range.1 h2.2, h2.1, rfl⟩
  · exfalso
    have h1 := nodup_le es.length (k :: ((List.range n).erase r).map pe) (List.nodup_cons.2 ⟨hm, pars_nodup hp hall⟩) (fun x hx => by
      rcases List.mem_cons.1 hx with rfl | hx
      · exact hk
      · obtain ⟨i, hi, rfl⟩ := List.mem_map.1 hx
        have h2 := List.nodup_range.mem_erase_iff.1 hi
        exact (hp i (hall i (List.mem_range.1 h2.2)) h2.1).1)
    rw [List.length_cons, List.length_map, List.length_erase_of_mem (List.mem_range.2 hr), List.length_range] at h1
    omega
/-- In a tree all searches from one place find the same. -/
theorem tree_same {es : List R3} {r n : Nat} {f g : Nat → Int} (hf : Grow es r f) (hg : Grow es r g) (hr : r < n) (hE : ∀ e ∈ es, okEdge n e) (haf : ∀ i, i < n → 0 ≤ f i) (hag : ∀ i, i < n → 0 ≤ g i) (hn : es.length + 1 = n) :
    ∀ i, i < n → f i = g i := by
  obtain ⟨rk, pe, pp, hp⟩ := grow_pars hf
  obtain ⟨rk2, pe2, pp2, hp2⟩ := grow_pars hg
  have key : ∀ m i, rk i ≤ m → i < n → i ≠ r → pe i = pe2 i := by
    intro m
    induction m with
    | zero =>
      intro i hm hi hir
      obtain ⟨_, _, _, h4, _⟩ := hp i (haf i hi) hir
      omega
    | succ m ih =>
      intro i hm hi hir
      obtain ⟨h1, h2, h3, h4, h5⟩ := hp i (haf i hi) hir
      obtain ⟨j, hj, hjr, hje⟩ := pars_onto hp2 hr hag hn (pe i) h1
      obtain ⟨k1, k2, k3, k4, k5⟩ := hp2 j (hag j hj) hjr
      have hpn := (joins_lt (hE _ (List.getElem_mem h1)) h2).1
      simp only [hje] at k2
      have hor : j = i ∨ j = pp i := by
        unfold joins at h2 k2
        rcases h2 with h2 | h2 <;> rcases k2 with k2 | k2 <;> omega
      rcases hor with rfl | hor
      · exact hje.symm
      · exfalso
        subst hor
        have h6 := ih (pp i) (by omega) hpn hjr
        have h7 := pars_inj hp (haf _ hpn) hjr (haf i hi) hir (by rw [h6, hje])
        rw [h7] at h4
        omega
  have key2 : ∀ m i, rk i ≤ m → i < n → f i = g i := by
    intro m
    induction m with
    | zero =>
      intro i hm hi
      by_cases hir : i = r
      · subst hir; rw [grow_root hf, grow_root hg]
      · obtain ⟨_, _, _, h4, _⟩ := hp i (haf i hi) hir
        omega
    | succ m ih =>
      intro i hm hi
      by_cases hir : i = r
      · subst hir; rw [grow_root hf, grow_root hg]
      · obtain ⟨h1, h2, h3, h4, h5⟩ := hp i (haf i hi) hir
        obtain ⟨k1, k2, k3, k4, k5⟩ := hp2 i (hag i hi) hir
        have he := key _ i (Nat.le_refl _) hi hir
        have hpn := (joins_lt (hE _ (List.getElem_mem h1)) h2).1
        simp only [← he] at k2 k5
        have hpp : pp2 i = pp i := by
          unfold joins at h2 k2
          rcases h2 with h2 | h2 <;> rcases k2 with k2 | k2 <;> omega
        rw [h5, k5, hpp, ih (pp i) (by omega) hpn]
  exact fun i hi => key2 _ i (Nat.le_refl _) hi
/-- Without one edge a tree falls in two: what is reached from its one end, and from its other. -/
theorem tree_cut {es : List R3} {r n : Nat} {F f g : Nat → Int} (hF : Grow es r F) (haF : ∀ i, i < n → 0 ≤ F i) (hn : es.length + 1 = n) {k : Nat} (hk : k < es.length) {a b : Nat} (ha : a < n) (hj : joins es[k] a b)
    (hf : Grow (es.eraseIdx k) a f) (hcf : Closed (es.eraseIdx k) f) (hg : Grow (es.eraseIdx k) b g) (hcg : Closed (es.eraseIdx k) g) (i : Nat) (hi : i < n) : 0 ≤ g i ↔ f i < 0 := by
  have hmem : ∀ e ∈ es, e = es[k] ∨ e ∈ es.eraseIdx k := by
    intro e he
    obtain ⟨j, hj, rfl⟩ := List.mem_iff_getElem.1 he
    by_cases h : j = k
    · subst h; exact Or.inl rfl
    · exact Or.inr (List.mem_eraseIdx_iff_getElem.2 ⟨j, hj, h, rfl⟩)
  have hfa := grow_root hf
  have hgb := grow_root hg
  -- all is reached from one of them
  have hor : 0 ≤ f i ∨ 0 ≤ g i := by
    have hU : ∀ e ∈ es, ∀ p i, joins e p i → (0 ≤ f p ∨ 0 ≤ g p) → (0 ≤ f i ∨ 0 ≤ g i) := by
      intro e he p q hpq hu
      rcases hmem e he with rfl | he2
      · have hq : q = a ∨ q = b := by
          unfold joins at hj hpq
          rcases hj with h2 | h2 <;> rcases hpq with k2 | k2 <;> omega
        rcases hq with rfl | rfl
        · exact Or.inl (by omega)
        · exact Or.inr (by omega)
      · rcases hu with hu | hu
        · exact Or.inl (hcf e he2 p q hpq hu)
        · exact Or.inr (hcg e he2 p q hpq hu)
    have h0 := grow_back hF (fun y => 0 ≤ f y ∨ 0 ≤ g y) hU a (haF a ha) (Or.inl (by omega))
    exact grow_fwd hF (fun y => 0 ≤ f y ∨ 0 ≤ g y) hU h0 i (haF i hi)
  -- none from both
  have hno : ¬ (0 ≤ f i ∧ 0 ≤ g i) := by
    rintro ⟨h1, h2⟩
    have hfb : 0 ≤ f b := grow_back hg (fun y => 0 ≤ f y) hcf i h2 h1
    have hU : ∀ e ∈ es, ∀ p i, joins e p i → 0 ≤ f p → 0 ≤ f i := by
      intro e he p q hpq hu
      rcases hmem e he with rfl | he2
      · have hq : q = a ∨ q = b := by
          unfold joins at hj hpq
          rcases hj with h2 | h2 <;> rcases hpq with k2 | k2 <;> omega
        rcases hq with rfl | rfl
        · omega
        · exact hfb
      · exact hcf e he2 p q hpq hu
    have h0 := grow_back hF (fun y => 0 ≤ f y) hU a (haF a ha) (by omega)
    have hall : ∀ i, i < n → 0 ≤ f i := fun i hi => grow_fwd hF (fun y => 0 ≤ f y) hU h0 i (haF i hi)
    have hc := pars_count hf ha hall
    rw [List.length_eraseIdx, if_pos hk] at hc
    omega
  omega
end Go.Proofs.YtogbmpnbbkcocaaDoor
