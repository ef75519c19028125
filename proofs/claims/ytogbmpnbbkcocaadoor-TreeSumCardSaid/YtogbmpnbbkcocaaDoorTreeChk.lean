/- What is wrong with edges (20.1): tree.Check and the reference's TreeCheck tell the same. -/
import Derived.Test.YtogbmpnbbkcocaaDoorTreeFar2
import Derived.Test.YtogbmpnbbkcocaaDoorTell
namespace Go.Proofs.YtogbmpnbbkcocaaDoor
open Go.RowKit

def badEdge (n : Int) (e : R3) : Bool := decide (e.1 < 0) || decide (n ≤ e.1) || decide (e.2.1 < 0) || decide (n ≤ e.2.1) || decide (e.2.2 < 0) || decide (1000000000 < e.2.2)
def edgesFrom (n : Int) : List R3 → Int
  | [] => 0
  | x :: xs => if badEdge n x = true then 2 else edgesFrom n xs
theorem edges_here (n : Int) (xs : List R3) (k : Nat) (h : k < xs.length) : edgesFrom n (xs.drop k) = if badEdge n xs[k] = true then 2 else edgesFrom n (xs.drop (k + 1)) := by
  rw [List.drop_eq_getElem_cons h]
  rfl
theorem edges_done (n : Int) (xs : List R3) : edgesFrom n (xs.drop xs.length) = 0 := by simp [edgesFrom]
theorem edges_ok {n : Int} {xs : List R3} (h : edgesFrom n xs = 0) : ∀ x ∈ xs, badEdge n x = false := by
  induction xs with
  | nil => intro x hx; simp at hx
  | cons y ys ih =>
    intro x hx
    unfold edgesFrom at h
    by_cases hb : badEdge n y = true
    · rw [if_pos hb] at h; omega
    · rw [if_neg hb] at h
      rcases List.mem_cons.1 hx with rfl | hx
      · simpa using hb
      · exact ih h x hx
/-- Can all places be come to from the first one? -/
def AllIn (n : Nat) (xs : List R3) : Prop := ∀ i, i < n → ∃ f, Grow xs 0 f ∧ 0 ≤ f i
open Classical in
noncomputable def treeErr (n : Int) (xs : List R3) : Int :=
  if n < 1 ∨ 60 < n then 4 else if (xs.length : Int) ≠ n - 1 then 3 else if edgesFrom n xs ≠ 0 then edgesFrom n xs else if AllIn n.toNat xs then 0 else 8
theorem edges_okEdge {n : Nat} {xs : List R3} (h : edgesFrom n xs = 0) : ∀ e ∈ xs, okEdge n e := by
  intro e he
  have hb := edges_ok h e he
  simp only [badEdge, Bool.or_eq_false_iff, decide_eq_false_iff_not] at hb
  unfold okEdge
  omega
/-- A search that found all says that all can be come to; one that is at its end and did not, that not all can. -/
theorem allIn_iff {n : Nat} {xs : List R3} {f : Nat → Int} (hg : Grow xs 0 f) (hc : Closed xs f) : AllIn n xs ↔ ∀ i, i < n → 0 ≤ f i := by
  constructor
  · intro h i hi
    obtain ⟨g, h1, h2⟩ := h i hi
    exact grow_same h1 hg hc i h2
  · intro h i hi
    exact ⟨f, hg, h i hi⟩
theorem tree_ok {n : Int} {xs : List R3} (h : treeErr n xs = 0) : 1 ≤ n ∧ n ≤ 60 ∧ (xs.length : Int) = n - 1 ∧ edgesFrom n xs = 0 ∧ AllIn n.toNat xs := by
  unfold treeErr at h
  by_cases h1 : n < 1 ∨ 60 < n
  · rw [if_pos h1] at h; omega
  rw [if_neg h1] at h
  by_cases h2 : (xs.length : Int) ≠ n - 1
  · rw [if_pos h2] at h; omega
  rw [if_neg h2] at h
  by_cases h3 : edgesFrom n xs ≠ 0
  · rw [if_pos h3] at h; exact absurd h h3
  rw [if_neg h3] at h
  by_cases h4 : AllIn n.toNat xs
  · exact ⟨by omega, by omega, by omega, by omega, h4⟩
  · rw [if_neg h4] at h; omega

/-- slices.Index and slices.Contains over integers. -/
def idxM (v : Int) : List Int → Nat → Int
  | [], _ => -1
  | x :: xs, k => if v = x then (k : Int) else idxM v xs (k + 1)
theorem idxM_none {v : Int} : ∀ {xs : List Int} {k : Nat}, v ∉ xs → idxM v xs k = -1
  | [], _, _ => rfl
  | x :: xs, k, h => by
    unfold idxM
    rw [if_neg (fun h2 => h (by rw [h2]; simp))]
    exact idxM_none (fun h2 => h (List.mem_cons_of_mem _ h2))
theorem idxM_some {v : Int} : ∀ {xs : List Int} {k : Nat}, v ∈ xs → 0 ≤ idxM v xs k
  | [], _, h => by simp at h
  | x :: xs, k, h => by
    unfold idxM
    by_cases h2 : v = x
    · rw [if_pos h2]; omega
    · rw [if_neg h2]
      exact idxM_some (by rcases List.mem_cons.1 h with h3 | h3; exact absurd h3 h2; exact h3)
theorem idx_here (v : Int) (xs : List Int) (k : Nat) (h : k < xs.length) : idxM v (xs.drop k) k = if v = xs[k] then (k : Int) else idxM v (xs.drop (k + 1)) (k + 1) := by
  rw [List.drop_eq_getElem_cons h]
  rfl
set_option maxHeartbeats 4000000 in
theorem index_any (v : Int) (a : Option Addr) (n cap : Nat) (xs : List Int) (w : World) (hl : n = xs.length) (hn : xs.length ≤ 1000) (hx : Elems encI 1 w a xs) :
    Calls Tryd.prog 72 #[.slice a n cap, .int .i64 v] w fun e w' => e = .returned (.int .i64 (idxM v xs 0)) ∧ w = w' := by
  subst hl
  have HX := Lib.hid hx
  obtain ⟨r, hr⟩ : ∃ r, r = idxM v xs 0 := ⟨_, rfl⟩
  rw [← hr]
  have HR : Hid (r = idxM v (xs.drop 0) 0) := Lib.hid hr
  clear hx hr
  go_enter Tryd.func72, Tryd.ntmps72
  go_wp2
  go_loop [8] (fun i => ∃ k : Nat, k ≤ xs.length ∧ i = .int .i64 k ∧ Hid (r = idxM v (xs.drop k) k)) (fun i => xs.length - (intOf i).toNat)
  case atStart => exact ⟨0, by omega, rfl, HR⟩
  case round =>
    clear HR
    obtain ⟨k, hk, rfl, HR⟩ := hrel
    by_cases hlt : k < xs.length
    · obtain ⟨b, o, rfl, hc⟩ := HX.out.some hlt
      have h1 := hc k hlt 0 _ rfl
      simp only [Nat.add_zero, Nat.mul_one] at h1
      have hst := HR.out.trans (idx_here v xs k hlt)
      clear hc HR
      generalize xs[k] = x at *
      by_cases hvx : v = x
      · rw [if_pos hvx] at hst
        have HS := Lib.hid hst
        have hd : (v == x) = true := by simpa using hvx
        clear hst hvx
        go_wp2
        go_ret
        exact ⟨by rw [HS.out]; rfl, rfl⟩
      · rw [if_neg hvx] at hst
        have HS := Lib.hid hst
        have hd : (v == x) = false := by simpa using hvx
        clear hst hvx
        go_wp2
        exact ⟨⟨k + 1, by omega, by go_num, HS⟩, by simp [intOf]; omega⟩
    · obtain rfl : k = xs.length := by omega
      have HS := Lib.hid (show r = -1 by rw [HR.out]; simp [idxM])
      clear HR
      go_wp2
      go_ret
      exact ⟨by rw [HS.out]; rfl, rfl⟩
theorem contains_yes (v : Int) (a : Option Addr) (n cap : Nat) (xs : List Int) (w : World) (hl : n = xs.length) (hn : xs.length ≤ 1000) (hx : Elems encI 1 w a xs) (hm : v ∈ xs) :
    Calls Tryd.prog 47 #[.slice a n cap, .int .i64 v] w fun e w' => e = .returned (.bool true) ∧ w = w' := by
  have H := index_any v a n cap xs w hl hn hx
  have hi := idxM_some (k := 0) hm
  generalize idxM v xs 0 = r at *
  clear hx hm hl
  go_enter Tryd.func47, Tryd.ntmps47
  go_wp2_with fail
  refine H.mono ?_
  rintro e w1 ⟨rfl, rfl⟩
  go_wp2
  go_ret
  exact ⟨rfl, rfl⟩
theorem contains_no (v : Int) (a : Option Addr) (n cap : Nat) (xs : List Int) (w : World) (hl : n = xs.length) (hn : xs.length ≤ 1000) (hx : Elems encI 1 w a xs) (hm : v ∉ xs) :
    Calls Tryd.prog 47 #[.slice a n cap, .int .i64 v] w fun e w' => e = .returned (.bool false) ∧ w = w' := by
  have H := index_any v a n cap xs w hl hn hx
  rw [idxM_none (k := 0) hm] at H
  clear hx hm hl
  go_enter Tryd.func47, Tryd.ntmps47
  go_wp2_with fail
  refine H.mono ?_
  rintro e w1 ⟨rfl, rfl⟩
  go_wp2
  go_ret
  exact ⟨rfl, rfl⟩

theorem hes_all (xs : List R3) : ∀ e, e ∈ xs ↔ ∃ k, ∃ h : k < xs.length, (k : Int) ≠ -1 ∧ xs[k] = e := by
  intro e
  rw [List.mem_iff_getElem]
  constructor
  · rintro ⟨k, h, rfl⟩; exact ⟨k, h, by omega, rfl⟩
  · rintro ⟨k, h, _, rfl⟩; exact ⟨k, h, rfl⟩

set_option maxRecDepth 100000 in
set_option maxHeartbeats 8000000 in
theorem tchk_any (a : Option Addr) (n cap : Nat) (ni : Int) (xs : List R3) (w : World) (hl : n = xs.length) (hn : xs.length ≤ 100) (hx : Elems enc3 3 w a xs) :
    Calls Tryd.prog 15 #[.int .i64 ni, .slice a n cap] w fun e w' => e = .returned (errV (treeErr ni xs)) ∧ Below w.heap.size w w' := by
  subst hl
  have HX := Lib.hid hx
  clear hx
  obtain ⟨er, her⟩ : ∃ er, er = treeErr ni xs := ⟨_, rfl⟩
  rw [← her]
  by_cases hA : ni < 1 ∨ 60 < ni
  · have HR := Lib.hid (show er = 4 from her.trans (if_pos hA))
    clear her
    rcases hA with hA | hA
    · go_enter Tryd.func15, Tryd.ntmps15
      go_wp2
      go_ret
      exact ⟨by rw [HR.out]; rfl, Below.refl _ _⟩
    · have hA1 : ¬ ni < 1 := by omega
      go_enter Tryd.func15, Tryd.ntmps15
      go_wp2
      go_ret
      exact ⟨by rw [HR.out]; rfl, Below.refl _ _⟩
  have her1 := her.trans (if_neg hA)
  clear her
  have hA1 : 1 ≤ ni := by omega
  have hA2 : ni ≤ 60 := by omega
  clear hA
  by_cases hB : (xs.length : Int) = ni - 1
  case neg =>
    have HR := Lib.hid (show er = 3 from her1.trans (if_pos hB))
    have hd : ((xs.length : Int) != ni - 1) = true := by simpa using hB
    clear her1 hB
    go_enter Tryd.func15, Tryd.ntmps15
    go_wp2
    go_ret
    exact ⟨by rw [HR.out]; rfl, Below.refl _ _⟩
  have her2 := her1.trans (if_neg (by omega))
  have hd : ((xs.length : Int) != ni - 1) = false := by simpa using hB
  obtain ⟨m, rfl⟩ := Int.eq_ofNat_of_zero_le (show 0 ≤ ni by omega)
  simp only [Int.toNat_natCast] at her2
  have HXL := Lib.hid (show xs.length + 1 = m by omega)
  have HR : Hid (er = if edgesFrom (m : Int) (xs.drop 0) ≠ 0 then edgesFrom (m : Int) (xs.drop 0) else @ite Int (AllIn m xs) (Classical.propDecidable _) 0 8) := Lib.hid her2
  have HE : Hid (edgesFrom (m : Int) xs = edgesFrom (m : Int) (xs.drop 0)) := Lib.hid rfl
  clear her1 her2 hB
  go_enter Tryd.func15, Tryd.ntmps15
  go_wp2
  go_loopw [22] (fun i wr => ∃ k : Nat, k ≤ xs.length ∧ i = .int .i64 k ∧ Hid (edgesFrom (m : Int) xs = edgesFrom (m : Int) (xs.drop k)) ∧ Below w.heap.size w wr) (fun i _ => xs.length - (intOf i).toNat)
  case atStart => exact ⟨0, by omega, rfl, HE, Below.refl _ _⟩
  case round =>
    clear HE
    obtain ⟨k, hk, rfl, HE, hb⟩ := hrel
    by_cases hlt : k < xs.length
    · obtain ⟨b, o, rfl, hc⟩ := HX.out.some hlt
      have h1 := (hb.cell (lt_of_cell (hc k hlt 0 _ rfl))).trans (hc k hlt 0 _ rfl)
      have h2 := (hb.cell (lt_of_cell (hc k hlt 1 _ rfl))).trans (hc k hlt 1 _ rfl)
      have h3 := (hb.cell (lt_of_cell (hc k hlt 2 _ rfl))).trans (hc k hlt 2 _ rfl)
      simp only [Nat.add_zero] at h1
      have hsz := hb.size
      have hst := edges_here m xs k hlt
      by_cases hbad : badEdge m xs[k] = true
      · rw [if_pos hbad] at hst
        have HB := Lib.hid (show er = 2 by rw [HR.out]; show (if edgesFrom (m : Int) xs ≠ 0 then edgesFrom (m : Int) xs else _) = _; rw [HE.out, hst]; rfl)
        clear hc HR HE hst
        simp only [badEdge, Bool.or_eq_true, decide_eq_true_eq] at hbad
        generalize xs[k].1 = X1 at *
        generalize xs[k].2.1 = X2 at *
        generalize xs[k].2.2 = X3 at *
        go_wp2_with fail
        all_goals first
          | (exfalso; omega)
          | (go_ret; exact ⟨by rw [HB.out]; rfl, hb.alloc hb.size _⟩)
      · have hgood : badEdge m xs[k] = false := by simpa using hbad
        rw [if_neg hbad] at hst
        have HB := Lib.hid (HE.out.trans hst)
        simp only [badEdge, Bool.or_eq_false_iff, decide_eq_false_iff_not] at hgood
        clear hc hbad hst HE
        generalize xs[k].1 = X1 at *
        generalize xs[k].2.1 = X2 at *
        generalize xs[k].2.2 = X3 at *
        obtain ⟨⟨⟨⟨⟨q1, q2⟩, q3⟩, q4⟩, q5⟩, q6⟩ := hgood
        go_wp2_with fail
        all_goals first
          | (exfalso; omega)
          | exact ⟨⟨k + 1, by omega, by go_num, HB, hb.alloc hb.size _⟩, by simp [intOf]; omega⟩
    · obtain rfl : k = xs.length := by omega
      have he0 : edgesFrom (m : Int) xs = 0 := HE.out.trans (edges_done m xs)
      have HB := Lib.hid (show er = @ite Int (AllIn m xs) (Classical.propDecidable _) 0 8 by rw [HR.out]; exact if_neg (fun h => h he0))
      have hok := edges_okEdge he0
      have hm0 : 0 < m := by omega
      clear HR HE he0 hlt
      have HF := Lib.hid (from_any a xs.length cap m 0 xs _ rfl hn (by omega) hm0 hok (HX.out.at hb))
      have HOK := Lib.hid hok
      clear hok
      go_wp2_with fail
      refine HF.out.mono ?_
      intro e w2 hw2
      unfold FromPost at hw2
      obtain ⟨a', cap', f, rfl, he, hg, hcl, hb2⟩ := hw2
      have hb02 := below_next hb hb2
      have hiff := allIn_iff (n := m) hg hcl
      have hlow := grow_low hg (fun e he => (HOK.out e he).2.2.2.2.1)
      by_cases hall : ∀ i, i < m → 0 ≤ f i
      · have HR := Lib.hid (show er = 0 by rw [HB.out]; exact if_pos (hiff.2 hall))
        have HC := Lib.hid (contains_no (-1) a' m cap' (tabI m f) w2 (tabI_len _ _).symm (by rw [tabI_len]; omega) he (fun h => by
          obtain ⟨i, hi, hie⟩ := List.mem_map.1 h
          have := hall i (List.mem_range.1 hi)
          omega))
        clear hiff hlow hall HB hb hb2 he HF
        go_wp2_with fail
        refine HC.out.mono ?_
        rintro e w3 ⟨rfl, rfl⟩
        go_wp2
        go_ret
        exact ⟨by rw [HR.out]; rfl, hb02⟩
      · have HR := Lib.hid (show er = 8 by rw [HB.out]; exact if_neg (fun h => hall (hiff.1 h)))
        have HC := Lib.hid (contains_yes (-1) a' m cap' (tabI m f) w2 (tabI_len _ _).symm (by rw [tabI_len]; omega) he (by
          rcases Classical.em (-1 ∈ tabI m f) with h | h
          · exact h
          · exact absurd (fun i hi => by
              rcases Int.lt_or_le (f i) 0 with h2 | h2
              · exact absurd (List.mem_map.2 ⟨i, List.mem_range.2 hi, hlow i h2⟩) h
              · exact h2) hall))
        clear hiff hlow hall HB hb hb2 he HF
        go_wp2_with fail
        refine HC.out.mono ?_
        rintro e w3 ⟨rfl, rfl⟩
        go_wp2
        go_ret
        exact ⟨by rw [HR.out]; rfl, hb02⟩

set_option maxRecDepth 100000 in
set_option maxHeartbeats 8000000 in
theorem trefChk_any (a : Option Addr) (n cap : Nat) (ni : Int) (xs : List R3) (w : World) (hl : n = xs.length) (hn : xs.length ≤ 100) (hx : Elems enc3 3 w a xs) :
    Calls Tryd.prog 13 #[.int .i64 ni, .slice a n cap] w fun e w' => e = .returned (.int .i64 (treeErr ni xs)) ∧ Below w.heap.size w w' := by
  subst hl
  have HX := Lib.hid hx
  clear hx
  obtain ⟨er, her⟩ : ∃ er, er = treeErr ni xs := ⟨_, rfl⟩
  rw [← her]
  by_cases hA : ni < 1 ∨ 60 < ni
  · have HR := Lib.hid (show er = 4 from her.trans (if_pos hA))
    clear her
    rcases hA with hA | hA
    · go_enter Tryd.func13, Tryd.ntmps13
      go_wp2
      go_ret
      exact ⟨by rw [HR.out]; rfl, Below.refl _ _⟩
    · have hA1 : ¬ ni < 1 := by omega
      go_enter Tryd.func13, Tryd.ntmps13
      go_wp2
      go_ret
      exact ⟨by rw [HR.out]; rfl, Below.refl _ _⟩
  have her1 := her.trans (if_neg hA)
  clear her
  have hA1 : 1 ≤ ni := by omega
  have hA2 : ni ≤ 60 := by omega
  clear hA
  by_cases hB : (xs.length : Int) = ni - 1
  case neg =>
    have HR := Lib.hid (show er = 3 from her1.trans (if_pos hB))
    have hd : ((xs.length : Int) != ni - 1) = true := by simpa using hB
    clear her1 hB
    go_enter Tryd.func13, Tryd.ntmps13
    go_wp2
    go_ret
    exact ⟨by rw [HR.out]; rfl, Below.refl _ _⟩
  have her2 := her1.trans (if_neg (by omega))
  have hd : ((xs.length : Int) != ni - 1) = false := by simpa using hB
  obtain ⟨m, rfl⟩ := Int.eq_ofNat_of_zero_le (show 0 ≤ ni by omega)
  simp only [Int.toNat_natCast] at her2
  have HXL := Lib.hid (show xs.length + 1 = m by omega)
  have HR : Hid (er = if edgesFrom (m : Int) (xs.drop 0) ≠ 0 then edgesFrom (m : Int) (xs.drop 0) else @ite Int (AllIn m xs) (Classical.propDecidable _) 0 8) := Lib.hid her2
  have HE : Hid (edgesFrom (m : Int) xs = edgesFrom (m : Int) (xs.drop 0)) := Lib.hid rfl
  clear her1 her2 hB
  go_enter Tryd.func13, Tryd.ntmps13
  go_wp2
  go_loopw [22] (fun i wr => ∃ k : Nat, k ≤ xs.length ∧ i = .int .i64 k ∧ Hid (edgesFrom (m : Int) xs = edgesFrom (m : Int) (xs.drop k)) ∧ Below w.heap.size w wr) (fun i _ => xs.length - (intOf i).toNat)
  case atStart => exact ⟨0, by omega, rfl, HE, Below.refl _ _⟩
  case round =>
    clear HE
    obtain ⟨k, hk, rfl, HE, hb⟩ := hrel
    by_cases hlt : k < xs.length
    · obtain ⟨b, o, rfl, hc⟩ := HX.out.some hlt
      have h1 := (hb.cell (lt_of_cell (hc k hlt 0 _ rfl))).trans (hc k hlt 0 _ rfl)
      have h2 := (hb.cell (lt_of_cell (hc k hlt 1 _ rfl))).trans (hc k hlt 1 _ rfl)
      have h3 := (hb.cell (lt_of_cell (hc k hlt 2 _ rfl))).trans (hc k hlt 2 _ rfl)
      simp only [Nat.add_zero] at h1
      have hsz := hb.size
      have hst := edges_here m xs k hlt
      by_cases hbad : badEdge m xs[k] = true
      · rw [if_pos hbad] at hst
        have HB := Lib.hid (show er = 2 by rw [HR.out]; show (if edgesFrom (m : Int) xs ≠ 0 then edgesFrom (m : Int) xs else _) = _; rw [HE.out, hst]; rfl)
        clear hc HR HE hst
        simp only [badEdge, Bool.or_eq_true, decide_eq_true_eq] at hbad
        generalize xs[k].1 = X1 at *
        generalize xs[k].2.1 = X2 at *
        generalize xs[k].2.2 = X3 at *
        go_wp2_with fail
        all_goals first
          | (exfalso; omega)
          | (go_ret; exact ⟨by rw [HB.out]; rfl, hb.alloc hb.size _⟩)
      · have hgood : badEdge m xs[k] = false := by simpa using hbad
        rw [if_neg hbad] at hst
        have HB := Lib.hid (HE.out.trans hst)
        simp only [badEdge, Bool.or_eq_false_iff, decide_eq_false_iff_not] at hgood
        clear hc hbad hst HE
        generalize xs[k].1 = X1 at *
        generalize xs[k].2.1 = X2 at *
        generalize xs[k].2.2 = X3 at *
        obtain ⟨⟨⟨⟨⟨q1, q2⟩, q3⟩, q4⟩, q5⟩, q6⟩ := hgood
        go_wp2_with fail
        all_goals first
          | (exfalso; omega)
          | exact ⟨⟨k + 1, by omega, by go_num, HB, hb.alloc hb.size _⟩, by simp [intOf]; omega⟩
    · obtain rfl : k = xs.length := by omega
      have he0 : edgesFrom (m : Int) xs = 0 := HE.out.trans (edges_done m xs)
      have HB := Lib.hid (show er = @ite Int (AllIn m xs) (Classical.propDecidable _) 0 8 by rw [HR.out]; exact if_neg (fun h => h he0))
      have hok := edges_okEdge he0
      have hm0 : 0 < m := by omega
      clear HR HE he0 hlt
      have HF := Lib.hid (refFar_any xs (-1) a xs.length cap m 0 xs _ rfl hn (by omega) hm0 hok (hes_all xs) (HX.out.at hb))
      have HOK := Lib.hid hok
      clear hok
      go_wp2_with fail
      refine HF.out.mono ?_
      intro e w2 hw2
      unfold FromPost at hw2
      obtain ⟨a', cap', f, rfl, he, hg, hcl, hb2⟩ := hw2
      have hb02 := below_next hb hb2
      have HIF := Lib.hid (allIn_iff (n := m) hg hcl)
      have HEL := Lib.hid he
      clear hb hb2 he HF hg hcl
      go_wp2
      go_loop [61] (fun iv => ∃ k : Nat, k ≤ m ∧ iv = .int .i64 k ∧ Hid (∀ i, i < k → 0 ≤ f i)) (fun iv => m - (intOf iv).toNat)
      case atStart => exact ⟨0, by omega, rfl, Lib.hid (fun i hi => by omega)⟩
      case round =>
        obtain ⟨k, hk, rfl, HK⟩ := hrel
        by_cases hlt : k < m
        · obtain ⟨b, o, rfl, hc⟩ := HEL.out.some (j := k) (by rw [tabI_len]; exact hlt)
          have h1 := hc k (by rw [tabI_len]; exact hlt) 0 _ rfl
          simp only [Nat.add_zero, Nat.mul_one] at h1
          rw [tabI_get] at h1
          by_cases hf : f k < 0
          · have HR := Lib.hid (show er = 8 by rw [HB.out]; exact if_neg (fun h => by have := HIF.out.1 h k hlt; omega))
            clear hc HK HB
            generalize f k = v at *
            go_wp2
            go_ret
            exact ⟨by rw [HR.out]; rfl, hb02⟩
          · have HK2 := Lib.hid (show ∀ i, i < k + 1 → 0 ≤ f i from fun i hi => by
              by_cases h : i = k
              · subst h; omega
              · exact HK.out i (by omega))
            clear hc HK
            generalize f k = v at *
            go_wp2
            exact ⟨⟨k + 1, by omega, by go_num, HK2⟩, by simp [intOf]; omega⟩
        · obtain rfl : k = m := by omega
          have HR := Lib.hid (show er = 0 by rw [HB.out]; exact if_pos (HIF.out.2 HK.out))
          clear HK HB
          go_wp2
          go_ret
          exact ⟨by rw [HR.out]; rfl, hb02⟩
end Go.Proofs.YtogbmpnbbkcocaaDoor
