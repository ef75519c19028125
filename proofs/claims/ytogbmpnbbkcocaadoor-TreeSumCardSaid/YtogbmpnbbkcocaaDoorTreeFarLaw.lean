/- The law TreeFar: how far places are is the reference's, or both tell the same error. -/
import Derived.Test.YtogbmpnbbkcocaaDoorTreeChk
import Derived.Test.YtogbmpnbbkcocaaDoorSame
namespace Go.Proofs.YtogbmpnbbkcocaaDoor
open Go.RowKit
theorem rowE : RowOf Tryd.prog 23 82 (.agg #[.int .i64 0, .int .i64 0, .int .i64 0]) 3 24 := rowOf Tryd.underlying23 (by kernel_rfl) rfl (by decide)

set_option maxHeartbeats 1000000 in
theorem edges_any (a : Option Addr) (n cap : Nat) (xs : List R3) (w : World) (hn : xs.length ≤ 1000) (hl : n = xs.length)
   (hx : Elems enc3 3 w a xs) :
  Calls Tryd.prog 12 #[.slice a n cap] w fun e w' => ∃ a' cap', e = .returned (.slice a' xs.length cap') ∧ Elems enc3 3 w' a' xs ∧ Below w.heap.size w w' := by
  subst hl
  go_enter Tryd.func12, Tryd.ntmps12
  go_wp2
  go_loopw [3, 4] (fun v i wr => ∃ k : Nat, k ≤ xs.length ∧ i = .int .i64 k ∧ wr.ownsRow w.heap.size 82 3 v k ((xs.take k).flatMap enc3) ∧ Below w.heap.size w wr) (fun _ i _ => xs.length - (intOf i).toNat)
  case atStart => exact ⟨0, by omega, rfl, World.ownsRow_nil _ _ _ _, Below.refl _ _⟩
  case round =>
    obtain ⟨k, hk, rfl, hown, hb⟩ := hrel
    by_cases hlt : k < xs.length
    · obtain ⟨b, o, rfl, hc⟩ := hx.some hlt
      have hbB := lt_of_cell (hc k hlt 0 _ rfl)
      simp only at hbB
      have h1 := (hb.cell hbB).trans (hc k hlt 0 _ rfl)
      have h2 := (hb.cell hbB).trans (hc k hlt 1 _ rfl)
      have h3 := (hb.cell hbB).trans (hc k hlt 2 _ rfl)
      simp only [Nat.add_zero] at h1
      clear hc hx
      have hsz := hb.size
      go_wp2_with fail
      go_region_held3 (fun w' => w'.cell? ⟨b, o + k * 3, none⟩ = some (.int .i64 xs[k].1) ∧ w'.cell? ⟨b, o + k * 3 + 1, none⟩ = some (.int .i64 xs[k].2.1) ∧ w'.cell? ⟨b, o + k * 3 + 2, none⟩ = some (.int .i64 xs[k].2.2))
        (first | go_keep | (refine ⟨?_, ?_, ?_⟩ <;> (rw [hb1.cell hbB]; simp [*])))
        ((refine step_row rowE (by rfl) _ _ (by rfl) w.heap.size (by rfl) ((hown.alloc _).drew) wr.heap.size (enc3 xs[k]) (heap_alloc_new wr _) (by rfl) rfl (enc3_one _) (by unfold maxLen; omega) (by omega) (by simp; omega) ?_; intro v' w1 hown1 hb1))
      rw [take_flat] at hown1
      clear hown hsz h1 h2 h3
      go_wp2
      go_roundw
      case rel => exact ⟨k + 1, by omega, by go_num, hown1, hb.trans (((((Below.refl _ _).alloc hb.size _).drew).trans hb1))⟩
      case measure => simp [intOf]; omega
    · go_wp2
      go_ret
      obtain rfl : k = xs.length := by omega
      rw [List.take_length] at hown
      obtain ⟨a', cap', rfl, he, _⟩ := elems_of_owns (enc := enc3) (fun _ => rfl) rfl hown
      exact ⟨a', cap', rfl, he, hb⟩

/-- What a tree is, in one word. -/
structure TreeOk (n : Nat) (xs : List R3) : Prop where
  pos : 0 < n
  low : n ≤ 60
  len : xs.length + 1 = n
  ok : ∀ e ∈ xs, okEdge n e
  all : AllIn n xs
theorem treeOk {n : Int} {xs : List R3} (h : treeErr n xs = 0) : ∃ m : Nat, n = m ∧ TreeOk m xs := by
  obtain ⟨h1, h2, h3, h4, h5⟩ := tree_ok h
  obtain ⟨m, rfl⟩ := Int.eq_ofNat_of_zero_le (show 0 ≤ n by omega)
  exact ⟨m, rfl, by omega, by omega, by omega, edges_okEdge h4, h5⟩
theorem TreeOk.reach {n : Nat} {xs : List R3} (h : TreeOk n xs) {r : Nat} (hr : r < n) {f : Nat → Int} (hg : Grow xs r f) (hc : Closed xs f) : ∀ i, i < n → 0 ≤ f i := by
  intro i hi
  obtain ⟨F, h1, h2⟩ := h.all r hr
  have h0 := grow_back h1 (fun y => 0 ≤ f y) hc r h2 (by show 0 ≤ f r; rw [grow_root hg]; omega)
  obtain ⟨F', h3, h4⟩ := h.all i hi
  exact grow_fwd h3 (fun y => 0 ≤ f y) hc h0 i h4
theorem TreeOk.same {n : Nat} {xs : List R3} (h : TreeOk n xs) {r : Nat} (hr : r < n) {f g : Nat → Int} (hf : Grow xs r f) (hcf : Closed xs f) (hg : Grow xs r g) (hcg : Closed xs g) : tabI n f = tabI n g :=
  tabI_congr (fun y hy => tree_same hg hf hr h.ok (h.reach hr hg hcg) (h.reach hr hf hcf) h.len y hy)

/-- tree.Far where the tree is right, and the place is there. -/
theorem far_ok (a : Option Addr) (n cap : Nat) (m r : Nat) (xs : List R3) (w : World) (hl : n = xs.length) (hn : xs.length ≤ 100) (hT : treeErr m xs = 0) (hr : r < m) (hx : Elems enc3 3 w a xs) :
    Calls Tryd.prog 17 #[.int .i64 m, .slice a n cap, .int .i64 r] w fun e w' => ∃ a' cap' f, e = .returned (.tuple #[.slice a' m cap', .nilIface]) ∧ Elems encI 1 w' a' (tabI m f) ∧ Grow xs r f ∧ Closed xs f ∧ Below w.heap.size w w' := by
  subst hl
  have HX := Lib.hid hx
  have hC := tchk_any a _ cap m xs w rfl hn hx
  rw [hT] at hC
  obtain ⟨m', hm', hTO⟩ := treeOk hT
  obtain rfl : m = m' := by omega
  have HTO := Lib.hid hTO
  have hlow := hTO.low
  clear hx hT hm' hTO
  go_enter Tryd.func17, Tryd.ntmps17
  go_wp2_with fail
  refine hC.mono ?_
  rintro e w1 ⟨rfl, hb1⟩
  have HF := Lib.hid (from_any a xs.length cap m r xs _ rfl hn hlow hr HTO.out.ok (HX.out.at hb1))
  clear hC
  rw [show errV 0 = .nilIface from rfl]
  go_wp2_with fail
  refine HF.out.mono ?_
  intro e w2 hw2
  unfold FromPost at hw2
  obtain ⟨a', cap', f, rfl, he, hg, hcl, hb2⟩ := hw2
  have H := Lib.hid (show Grow xs r f ∧ Closed xs f from ⟨hg, hcl⟩)
  have hb := below_next hb1 hb2
  clear hg hcl HF hb1 hb2
  go_wp2
  go_ret2
  first
    | exact ⟨_, _, f, rfl, he, H.out.1, H.out.2, hb⟩
    | exact ⟨_, ⟨_, f, rfl, he, H.out.1, H.out.2, hb⟩⟩
/-- And where something is wrong. -/
theorem far_bad (a : Option Addr) (n cap : Nat) (ni ri : Int) (xs : List R3) (w : World) (hl : n = xs.length) (hn : xs.length ≤ 100) (hT : treeErr ni xs ≠ 0) (hx : Elems enc3 3 w a xs) :
    Calls Tryd.prog 17 #[.int .i64 ni, .slice a n cap, .int .i64 ri] w fun e w' => e = .returned (.tuple #[.slice none 0 0, errV (treeErr ni xs)]) ∧ Below w.heap.size w w' := by
  subst hl
  have hC := tchk_any a _ cap ni xs w rfl hn hx
  rw [show errV (treeErr ni xs) = .iface 25 (.int .i64 (treeErr ni xs)) from if_neg hT] at hC ⊢
  generalize treeErr ni xs = er at *
  clear hx hT
  go_enter Tryd.func17, Tryd.ntmps17
  go_wp2_with fail
  refine hC.mono ?_
  rintro e w1 ⟨rfl, hb1⟩
  go_wp2
  go_ret2
  exact ⟨rfl, hb1⟩
theorem far_range (a : Option Addr) (n cap : Nat) (ni ri : Int) (xs : List R3) (w : World) (hl : n = xs.length) (hn : xs.length ≤ 100) (hT : treeErr ni xs = 0) (hr : ri < 0 ∨ ni ≤ ri) (hx : Elems enc3 3 w a xs) :
    Calls Tryd.prog 17 #[.int .i64 ni, .slice a n cap, .int .i64 ri] w fun e w' => e = .returned (.tuple #[.slice none 0 0, .iface 25 (.int .i64 2)]) ∧ Below w.heap.size w w' := by
  subst hl
  have hC := tchk_any a _ cap ni xs w rfl hn hx
  rw [hT] at hC
  clear hx hT
  go_enter Tryd.func17, Tryd.ntmps17
  go_wp2_with fail
  refine hC.mono ?_
  rintro e w1 ⟨rfl, hb1⟩
  rw [show errV 0 = .nilIface from rfl]
  go_wp2
  all_goals first
    | (exfalso; omega)
    | (go_ret2; exact ⟨rfl, hb1⟩)
theorem refFarOne_any (a : Option Addr) (n cap places r : Nat) (xs : List R3) (w : World) (hl : n = xs.length) (hn : xs.length ≤ 100) (hT : TreeOk places xs) (hr : r < places) (hx : Elems enc3 3 w a xs) :
    Calls Tryd.prog 16 #[.int .i64 places, .slice a n cap, .int .i64 r] w (FromPost places r xs w) := by
  subst hl
  have HF := Lib.hid (refFar_any xs (-1) a xs.length cap places r xs w rfl hn hT.low hr hT.ok (hes_all xs) hx)
  clear hx hT
  go_enter Tryd.func16, Tryd.ntmps16
  go_wp2_with fail
  refine HF.out.mono ?_
  intro e w2 hw2
  have HW := Lib.hid hw2
  unfold FromPost at hw2
  obtain ⟨a', cap', f, rfl, he, hg, hcl, hb2⟩ := hw2
  clear he hg hcl hb2 HF
  go_wp2
  go_ret
  exact HW.out

set_option maxRecDepth 100000 in
set_option maxHeartbeats 8000000 in
theorem treeFar_law (a : Option Addr) (n cap : Nat) (ni ri : Int) (xs : List R3) (w : World) (hg : Hnd w) (hl : n = xs.length) (hn : n ≤ maxLen) (hx : Elems enc3 3 w a xs) :
    Calls Tryd.prog 3 #[.int .i64 ni, .slice a n cap, .int .i64 ri] w fun e w' => e = .returned (.bool true) ∧ Below w.heap.size w w' := by
  subst hl
  unfold maxLen at hn
  by_cases hA : 100 < xs.length
  · have hd : decide ((100 : Int) < (xs.length : Int)) = true := by simp; omega
    go_enter Tryd.func3, Tryd.ntmps3
    go_wp2
    go_ret
    exact ⟨rfl, Below.refl _ _⟩
  have hd : decide ((100 : Int) < (xs.length : Int)) = false := by simp; omega
  have hn100 : xs.length ≤ 100 := by omega
  have HX := Lib.hid hx
  clear hx hA
  by_cases hT : treeErr ni xs = 0
  case neg =>
    have hq : (treeErr ni xs == treeErr ni xs) = true := by simp
    have hq2 : (treeErr ni xs != treeErr ni xs) = false := by simp
    have hq3 : (treeErr ni xs == 0) = false := by simpa using hT
    have H1 := fun a c w h => trefChk_any a _ c ni xs w rfl hn100 h
    have H2 := fun w h => tchk_any a _ cap ni xs w rfl hn100 h
    have H3 := fun w h => far_bad a _ cap ni ri xs w rfl hn100 hT h
    have HT := Lib.hid hT
    generalize treeErr ni xs = er at *
    clear hT
    go_enter Tryd.func3, Tryd.ntmps3
    go_wp2_with fail
    refine (edges_any _ _ _ xs _ (by omega) rfl HX.out).mono ?_
    rintro e w1 ⟨a1, c1, rfl, he1, hb1⟩
    have H1' := H1 a1 c1 _ he1
    go_wp2_with fail
    refine H1'.mono ?_
    rintro e w2 ⟨rfl, hb2⟩
    have h02 := below_next hb1 hb2
    have H2' := H2 _ (HX.out.at h02)
    go_wp2_with fail
    refine H2'.mono ?_
    rintro e w3 ⟨rfl, hb3⟩
    have h03 := below_next h02 hb3
    go_wp2_with fail
    refine (tell_any _ _ (hg.at h03)).mono ?_
    rintro e w4 ⟨rfl, hb4⟩
    have h04 := below_next h03 hb4
    have H3' := H3 _ (HX.out.at h04)
    clear H1' H2' H1 H2 H3
    go_wp2_with fail
    refine H3'.mono ?_
    rintro e w5 ⟨rfl, hb5⟩
    have h05 := below_next h04 hb5
    have hg5 := hg.at h05
    clear H3'
    go_wp2_with fail
    refine (ints_any er _ _ _ _ _ _ [] [] _ hg5 rfl rfl (by simp) (by simp) (Or.inl rfl) (Or.inl rfl) (fun h => absurd h HT.out) (fun _ => rfl)).mono ?_
    rintro e w6 ⟨rfl, hb6⟩
    go_wp2
    go_ret
    exact ⟨rfl, below_next h05 hb6⟩
  obtain ⟨m, rfl, hTO⟩ := treeOk hT
  have HTO := Lib.hid hTO
  have hlow := hTO.low
  have HT := Lib.hid hT
  have hv0 : errV 0 = .nilIface := rfl
  have H1 := fun a c w h => trefChk_any a _ c m xs w rfl hn100 h
  have H2 := fun w h => tchk_any a _ cap m xs w rfl hn100 h
  rw [hT] at H1 H2
  rw [hv0] at H2
  clear hTO hT hv0
  by_cases hr : ri < 0 ∨ (m : Int) ≤ ri
  · have H3 := fun w h => far_range a _ cap m ri xs w rfl hn100 HT.out hr h
    go_enter Tryd.func3, Tryd.ntmps3
    go_wp2_with fail
    refine (edges_any _ _ _ xs _ (by omega) rfl HX.out).mono ?_
    rintro e w1 ⟨a1, c1, rfl, he1, hb1⟩
    have H1' := H1 a1 c1 _ he1
    go_wp2_with fail
    refine H1'.mono ?_
    rintro e w2 ⟨rfl, hb2⟩
    have h02 := below_next hb1 hb2
    have H2' := H2 _ (HX.out.at h02)
    go_wp2_with fail
    refine H2'.mono ?_
    rintro e w3 ⟨rfl, hb3⟩
    have h03 := below_next h02 hb3
    go_wp2_with fail
    refine (tell_nil _).mono ?_
    rintro e w4 ⟨rfl, hb4⟩
    have h04 := below_next h03 hb4
    have H3' := H3 _ (HX.out.at h04)
    clear H1' H2' H1 H2 H3
    go_wp2_with fail
    all_goals try (exfalso; omega)
    all_goals
      refine H3'.mono ?_
      rintro e w5 ⟨rfl, hb5⟩
      have h05 := below_next h04 hb5
      have hg5 := hg.at h05
      go_wp2_with fail
      refine (ints_any 2 _ _ _ _ _ _ [] [] _ hg5 rfl rfl (by simp) (by simp) (Or.inl rfl) (Or.inl rfl) (fun h => absurd h (by decide)) (fun _ => rfl)).mono ?_
      rintro e w6 ⟨rfl, hb6⟩
      go_wp2
      go_ret
      exact ⟨rfl, below_next h05 hb6⟩
  · obtain ⟨r, rfl⟩ := Int.eq_ofNat_of_zero_le (show 0 ≤ ri by omega)
    have hrm : r < m := by omega
    have hr1 : ¬ ((r : Int) < 0) := by omega
    have hr2 : ¬ ((m : Int) ≤ (r : Int)) := by omega
    have H3 := fun w h => far_ok a _ cap m r xs w rfl hn100 HT.out hrm h
    have H4 := fun a c w h => refFarOne_any a _ c m r xs w rfl hn100 HTO.out hrm h
    clear hr
    go_enter Tryd.func3, Tryd.ntmps3
    go_wp2_with fail
    refine (edges_any _ _ _ xs _ (by omega) rfl HX.out).mono ?_
    rintro e w1 ⟨a1, c1, rfl, he1, hb1⟩
    have H1' := H1 a1 c1 _ he1
    go_wp2_with fail
    refine H1'.mono ?_
    rintro e w2 ⟨rfl, hb2⟩
    have h02 := below_next hb1 hb2
    have H2' := H2 _ (HX.out.at h02)
    go_wp2_with fail
    refine H2'.mono ?_
    rintro e w3 ⟨rfl, hb3⟩
    have h03 := below_next h02 hb3
    go_wp2_with fail
    refine (tell_nil _).mono ?_
    rintro e w4 ⟨rfl, hb4⟩
    have h04 := below_next h03 hb4
    have H4' := H4 a1 c1 _ (he1.at (below_next (below_next hb2 hb3) hb4))
    clear H1' H2' H1 H2 H4
    go_wp2_with fail
    refine H4'.mono ?_
    intro e w5 hw5
    unfold FromPost at hw5
    obtain ⟨a5, c5, f5, rfl, he5, hg5, hcl5, hb5⟩ := hw5
    have h05 := below_next h04 hb5
    have H3' := H3 _ (HX.out.at h05)
    have HG5 := Lib.hid (show Grow xs r f5 ∧ Closed xs f5 from ⟨hg5, hcl5⟩)
    have HE5 := Lib.hid he5
    clear H4' H3 hg5 hcl5 he5
    go_wp2_with fail
    refine H3'.mono ?_
    rintro e w6 ⟨a6, c6, f6, rfl, he6, hg6, hcl6, hb6⟩
    have h06 := below_next h05 hb6
    have hnd := hg.at h06
    have HEQ := Lib.hid (HTO.out.same hrm hg6 hcl6 HG5.out.1 HG5.out.2)
    have HE6 := Lib.hid he6
    clear H3' hg6 hcl6 he6
    go_wp2_with fail
    refine (ints_any 0 _ _ _ _ _ _ (tabI m f6) (tabI m f5) _ hnd (tabI_len _ _).symm (tabI_len _ _).symm (by rw [tabI_len]; omega) (by rw [tabI_len]; omega) HE6.out (HE5.out.at hb6) (fun _ => HEQ.out) (fun h => absurd rfl h)).mono ?_
    rintro e w7 ⟨rfl, hb7⟩
    go_wp2
    go_ret
    exact ⟨rfl, below_next h06 hb7⟩
end Go.Proofs.YtogbmpnbbkcocaaDoor
