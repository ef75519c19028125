/- The center, and what is the farthest (20.3): tree.Center and tree.Across; the law TreeCenter. -/
import Derived.Test.YtogbmpnbbkcocaaDoorTreeFarLaw
import Derived.Test.YtogbmpnbbkcocaaDoorWhole
namespace Go.Proofs.YtogbmpnbbkcocaaDoor
open Go.RowKit

open Classical in
/-- How far each place is from one. -/
noncomputable def dM (xs : List R3) (r : Nat) : Nat → Int := if h : ∃ f, Grow xs r f ∧ Closed xs f then Classical.choose h else fun _ => 0
noncomputable def rowD (m : Nat) (xs : List R3) (r : Nat) : List Int := tabI m (dM xs r)
theorem rowD_len (m : Nat) (xs : List R3) (r : Nat) : (rowD m xs r).length = m := tabI_len _ _
theorem TreeOk.row {m : Nat} {xs : List R3} (h : TreeOk m xs) {r : Nat} (hr : r < m) {f : Nat → Int} (hg : Grow xs r f) (hc : Closed xs f) : tabI m f = rowD m xs r := by
  have hex : ∃ f, Grow xs r f ∧ Closed xs f := ⟨f, hg, hc⟩
  have hs := Classical.choose_spec hex
  unfold rowD dM
  rw [dif_pos hex]
  exact h.same hr hg hc hs.1 hs.2
theorem TreeOk.low0 {m : Nat} {xs : List R3} (h : TreeOk m xs) {r : Nat} (hr : r < m) {f : Nat → Int} (hg : Grow xs r f) (hc : Closed xs f) : ∀ x ∈ rowD m xs r, 0 ≤ x ∧ x ≤ 60000000000 := by
  intro x hx
  rw [← h.row hr hg hc] at hx
  obtain ⟨i, hi, rfl⟩ := List.mem_map.1 hx
  have h1 := h.reach hr hg hc i (List.mem_range.1 hi)
  have h2 := (grow_le hg h.ok i).2
  have h3 := h.low
  omega
/-- tree.from, in a tree. -/
theorem fromT_any (a : Option Addr) (n cap m r : Nat) (xs : List R3) (w : World) (hl : n = xs.length) (hn : xs.length ≤ 100) (hT : TreeOk m xs) (hr : r < m) (hx : Elems enc3 3 w a xs) :
    Calls Tryd.prog 48 #[.int .i64 m, .slice a n cap, .int .i64 r] w fun e w' => ∃ a' cap', e = .returned (.slice a' m cap') ∧ Elems encI 1 w' a' (rowD m xs r) ∧ (∀ x ∈ rowD m xs r, 0 ≤ x ∧ x ≤ 60000000000) ∧ Below w.heap.size w w' := by
  refine (from_any a n cap m r xs w hl hn hT.low hr hT.ok hx).mono ?_
  rintro e w' ⟨a', cap', f, rfl, he, hg, hc, hb⟩
  exact ⟨a', cap', rfl, by rw [← hT.row hr hg hc]; exact he, hT.low0 hr hg hc, hb⟩
theorem refFarT_any (a : Option Addr) (n cap m r : Nat) (xs : List R3) (w : World) (hl : n = xs.length) (hn : xs.length ≤ 100) (hT : TreeOk m xs) (hr : r < m) (hx : Elems enc3 3 w a xs) :
    Calls Tryd.prog 16 #[.int .i64 m, .slice a n cap, .int .i64 r] w fun e w' => ∃ a' cap', e = .returned (.slice a' m cap') ∧ Elems encI 1 w' a' (rowD m xs r) ∧ (∀ x ∈ rowD m xs r, 0 ≤ x ∧ x ≤ 60000000000) ∧ Below w.heap.size w w' := by
  refine (refFarOne_any a n cap m r xs w hl hn hT hr hx).mono ?_
  rintro e w' ⟨a', cap', f, rfl, he, hg, hc, hb⟩
  exact ⟨a', cap', rfl, by rw [← hT.row hr hg hc]; exact he, hT.low0 hr hg hc, hb⟩

/-- The greatest of the first k. -/
def mxL (ys : List Int) : Nat → Int
  | 0 => 0
  | k + 1 => max (mxL ys k) (ys.getD k 0)
theorem mxL_pos (ys : List Int) : ∀ k, 0 ≤ mxL ys k := by
  intro k
  induction k with
  | zero => simp [mxL]
  | succ k ih => unfold mxL; omega
theorem getD_nat {ys : List Int} {k : Nat} (h : k < ys.length) : ys.getD k 0 = ys[k] := by simp [List.getD, h]
set_option maxHeartbeats 4000000 in
theorem max_any (a : Option Addr) (n cap : Nat) (ys : List Int) (w : World) (hl : n = ys.length) (hn : ys.length ≤ 1000) (h1 : 0 < ys.length) (h0 : ∀ x ∈ ys, 0 ≤ x) (hx : Elems encI 1 w a ys) :
    Calls Tryd.prog 49 #[.slice a n cap] w fun e w' => e = .returned (.int .i64 (mxL ys ys.length)) ∧ w = w' := by
  subst hl
  have HX := Lib.hid hx
  obtain ⟨b, o, rfl, hc⟩ := hx.some h1
  have g0 := hc 0 h1 0 _ rfl
  simp only [Nat.add_zero, Nat.zero_mul] at g0
  have hm1 : mxL ys 1 = ys[0] := by
    show max 0 (ys.getD 0 0) = _
    rw [getD_nat h1]
    have := h0 _ (List.getElem_mem h1)
    omega
  have HM1 := Lib.hid hm1
  clear hc hm1 hx h0
  generalize ys[0] = y0 at *
  go_enter Tryd.func49, Tryd.ntmps49
  go_wp2
  clear g0
  go_loop [3, 4] (fun mv iv => ∃ k : Nat, 1 ≤ k ∧ k ≤ ys.length ∧ iv = .int .i64 k ∧ mv = .int .i64 (mxL ys k)) (fun _ iv => ys.length - (intOf iv).toNat)
  case atStart => exact ⟨1, by omega, by omega, rfl, by rw [HM1.out]⟩
  case round =>
    obtain ⟨k, hk1, hk, rfl, rfl⟩ := hrel
    by_cases hlt : k < ys.length
    · obtain ⟨b2, o2, h2, hc⟩ := HX.out.some hlt
      simp only [Option.some.injEq, Addr.mk.injEq, and_true] at h2
      obtain ⟨rfl, rfl⟩ := h2
      have g1 := hc k hlt 0 _ rfl
      simp only [Nat.add_zero, Nat.mul_one] at g1
      have hst : mxL ys (k + 1) = max (mxL ys k) ys[k] := by rw [← getD_nat hlt]; rfl
      have HST := Lib.hid hst
      clear hc hst
      generalize mxL ys k = mk at *
      generalize ys[k] = yk at *
      by_cases hmx : mk < yk
      · have HK := Lib.hid (show mxL ys (k + 1) = yk by rw [HST.out]; omega)
        go_wp2
        all_goals first
          | (exfalso; omega)
          | exact ⟨⟨k + 1, by omega, by omega, by go_num, by rw [HK.out]⟩, by simp [intOf]; omega⟩
      · have HK := Lib.hid (show mxL ys (k + 1) = mk by rw [HST.out]; omega)
        go_wp2
        all_goals first
          | (exfalso; omega)
          | exact ⟨⟨k + 1, by omega, by omega, by go_num, by rw [HK.out]⟩, by simp [intOf]; omega⟩
    · obtain rfl : k = ys.length := by omega
      go_wp2
      go_ret
      exact ⟨rfl, rfl⟩

/-- The center, place by place: the program's, and the reference's. -/
noncomputable def cenM (m : Nat) (xs : List R3) : Nat → Int × Int
  | 0 => (0, -1)
  | i + 1 => if (cenM m xs i).2 < 0 ∨ mxL (rowD m xs i) m < (cenM m xs i).2 then (i, mxL (rowD m xs i) m) else cenM m xs i
noncomputable def cenR (m : Nat) (xs : List R3) : Nat → Int × Int
  | 0 => (0, 0)
  | i + 1 => if i = 0 ∨ mxL (rowD m xs i) m < (cenR m xs i).2 then (i, mxL (rowD m xs i) m) else cenR m xs i
theorem cen_same (m : Nat) (xs : List R3) : ∀ i, 0 < i → cenM m xs i = cenR m xs i ∧ 0 ≤ (cenM m xs i).2 := by
  intro i
  induction i with
  | zero => intro h; omega
  | succ i ih =>
    intro _
    have hp := mxL_pos (rowD m xs i) m
    by_cases hi : i = 0
    · subst hi
      unfold cenM cenR
      rw [if_pos (Or.inl (by show (-1 : Int) < 0; decide)), if_pos (Or.inl rfl)]
      exact ⟨rfl, hp⟩
    · obtain ⟨h1, h2⟩ := ih (by omega)
      unfold cenM cenR
      rw [h1] at h2 ⊢
      by_cases hm : mxL (rowD m xs i) m < (cenR m xs i).2
      · rw [if_pos (Or.inr hm), if_pos (Or.inr hm)]
        exact ⟨rfl, hp⟩
      · rw [if_neg (by omega), if_neg (by omega)]
        exact ⟨rfl, h2⟩
/-- The two that are the farthest from each other, so far. -/
def farR (ys : List Int) (i : Nat) (s : Int × Int × Int) : Nat → Int × Int × Int
  | 0 => s
  | k + 1 => if (farR ys i s k).2.2 < ys.getD k 0 then (i, k, ys.getD k 0) else farR ys i s k
noncomputable def farM (m : Nat) (xs : List R3) : Nat → Int × Int × Int
  | 0 => (0, 0, 0)
  | i + 1 => farR (rowD m xs i) i (farM m xs i) m

set_option maxRecDepth 100000 in
set_option maxHeartbeats 8000000 in
theorem center_any (a : Option Addr) (n cap m : Nat) (xs : List R3) (w : World) (hl : n = xs.length) (hn : xs.length ≤ 100) (hT : treeErr m xs = 0) (hx : Elems enc3 3 w a xs) :
    Calls Tryd.prog 19 #[.int .i64 m, .slice a n cap] w fun e w' => e = .returned (.tuple #[.int .i64 (cenM m xs m).1, .int .i64 (cenM m xs m).2, .nilIface]) ∧ Below w.heap.size w w' := by
  subst hl
  have HX := Lib.hid hx
  have hC := tchk_any a _ cap m xs w rfl hn hx
  rw [hT] at hC
  obtain ⟨m', hm', hTO⟩ := treeOk hT
  obtain rfl : m = m' := by omega
  have HTO := Lib.hid hTO
  have hlow := hTO.low
  clear hx hT hm' hTO
  go_enter Tryd.func19, Tryd.ntmps19
  go_wp2_with fail
  refine hC.mono ?_
  rintro e w1 ⟨rfl, hb1⟩
  clear hC
  rw [show errV 0 = .nilIface from rfl]
  go_wp2
  go_loopw [8, 9, 19] (fun av bv iv wr => ∃ k : Nat, k ≤ m ∧ iv = .int .i64 k ∧ av = .int .i64 (cenM m xs k).1 ∧ bv = .int .i64 (cenM m xs k).2 ∧ Below w.heap.size w wr) (fun _ _ iv _ => m - (intOf iv).toNat)
  case atStart => exact ⟨0, by omega, rfl, rfl, rfl, hb1⟩
  case round =>
    clear hb1
    obtain ⟨k, hk, rfl, rfl, rfl, hb⟩ := hrel
    by_cases hlt : k < m
    · have hst : cenM m xs (k + 1) = if (cenM m xs k).2 < 0 ∨ mxL (rowD m xs k) m < (cenM m xs k).2 then ((k : Int), mxL (rowD m xs k) m) else cenM m xs k := rfl
      have HST := Lib.hid hst
      have HF := Lib.hid (fromT_any a _ cap m k xs _ rfl hn HTO.out hlt (HX.out.at hb))
      obtain ⟨wo, hwo⟩ : ∃ wo : World, wo = wr := ⟨_, rfl⟩
      subst hwo
      clear hst
      generalize hca : (cenM m xs k).1 = ca at *
      generalize hcb : (cenM m xs k).2 = cb at *
      have HCA := Lib.hid hca
      have HCB := Lib.hid hcb
      clear hca hcb
      go_wp2_with fail
      refine HF.out.mono ?_
      rintro e w2 ⟨a2, c2, rfl, he2, hlow2, hb2⟩
      have HM := Lib.hid (max_any a2 m c2 (rowD m xs k) w2 (rowD_len _ _ _).symm (by rw [rowD_len]; omega) (by rw [rowD_len]; omega) (fun x hx => (hlow2 x hx).1) he2)
      have hb3 := below_next hb hb2
      clear HF he2 hlow2 hb2 hb
      go_wp2_with fail
      refine HM.out.mono ?_
      rintro e w3 ⟨rfl, rfl⟩
      rw [rowD_len]
      clear HM
      generalize mxL (rowD m xs k) m = mk at *
      by_cases hc1 : cb < 0
      · have HK := Lib.hid (HST.out.trans (if_pos (Or.inl hc1)))
        clear HST
        go_wp2
        exact ⟨⟨k + 1, by omega, by go_num, by rw [HK.out], by rw [HK.out], hb3⟩, by simp [intOf]; omega⟩
      · by_cases hc2 : mk < cb
        · have HK := Lib.hid (HST.out.trans (if_pos (Or.inr hc2)))
          clear HST
          go_wp2
          exact ⟨⟨k + 1, by omega, by go_num, by rw [HK.out], by rw [HK.out], hb3⟩, by simp [intOf]; omega⟩
        · have HK := Lib.hid (HST.out.trans (if_neg (fun h => h.elim hc1 hc2)))
          clear HST
          go_wp2
          exact ⟨⟨k + 1, by omega, by go_num, by rw [HK.out, HCA.out], by rw [HK.out, HCB.out], hb3⟩, by simp [intOf]; omega⟩
    · obtain rfl : k = m := by omega
      go_wp2
      go_ret3
      exact ⟨rfl, hb⟩

theorem results_tmp4 {fn : Func} {t u v x : Tmp} (h : fn.results = #[.tmp t, .tmp u, .tmp v, .tmp x]) (tmps : Array Value) (P : Program) (w : World) :
    (results fn tmps).run P w = .ok (.tuple #[tmps.getD t undef, tmps.getD u undef, tmps.getD v undef, tmps.getD x undef]) w := by
  simp [results, h]

set_option maxRecDepth 100000 in
set_option maxHeartbeats 8000000 in
theorem across_any (a : Option Addr) (n cap m : Nat) (xs : List R3) (w : World) (hl : n = xs.length) (hn : xs.length ≤ 100) (hT : treeErr m xs = 0) (hx : Elems enc3 3 w a xs) :
    Calls Tryd.prog 20 #[.int .i64 m, .slice a n cap] w fun e w' => e = .returned (.tuple #[.int .i64 (farM m xs m).1, .int .i64 (farM m xs m).2.1, .int .i64 (farM m xs m).2.2, .nilIface]) ∧ Below w.heap.size w w' := by
  subst hl
  have HX := Lib.hid hx
  have hC := tchk_any a _ cap m xs w rfl hn hx
  rw [hT] at hC
  obtain ⟨m', hm', hTO⟩ := treeOk hT
  obtain rfl : m = m' := by omega
  have HTO := Lib.hid hTO
  have hlow := hTO.low
  clear hx hT hm' hTO
  go_enter Tryd.func20, Tryd.ntmps20
  go_wp2_with fail
  refine hC.mono ?_
  rintro e w1 ⟨rfl, hb1⟩
  clear hC
  rw [show errV 0 = .nilIface from rfl]
  go_wp2
  go_loopw [4, 5, 6, 19] (fun av bv cv iv wr => ∃ k : Nat, k ≤ m ∧ iv = .int .i64 k ∧ av = .int .i64 (farM m xs k).1 ∧ bv = .int .i64 (farM m xs k).2.1 ∧ cv = .int .i64 (farM m xs k).2.2 ∧ Below w.heap.size w wr) (fun _ _ _ iv _ => m - (intOf iv).toNat)
  case atStart => exact ⟨0, by omega, rfl, rfl, rfl, rfl, hb1⟩
  case round =>
    clear hb1
    obtain ⟨k, hk, rfl, rfl, rfl, rfl, hb⟩ := hrel
    by_cases hlt : k < m
    · have HF := Lib.hid (fromT_any a _ cap m k xs _ rfl hn HTO.out hlt (HX.out.at hb))
      have HS0 := Lib.hid (show farM m xs (k + 1) = farR (rowD m xs k) k (farM m xs k) m from rfl)
      obtain ⟨wo, hwo⟩ : ∃ wo : World, wo = wr := ⟨_, rfl⟩
      subst hwo
      obtain ⟨s, hs⟩ : ∃ s, s = farM m xs k := ⟨_, rfl⟩
      rw [← hs] at HS0 ⊢
      clear hs
      go_wp2_with fail
      refine HF.out.mono ?_
      rintro e w2 ⟨a2, c2, rfl, he2, hlow2, hb2⟩
      have hb3 := below_next hb hb2
      have hrl := rowD_len m xs k
      generalize rowD m xs k = ys at *
      have HE2 := Lib.hid he2
      have HRL := Lib.hid hrl
      clear HF he2 hlow2 hb2 hb hrl
      go_wp2
      go_loop [4, 5, 6, 27] (fun av bv cv iv => ∃ j : Nat, j ≤ m ∧ iv = .int .i64 j ∧ av = .int .i64 (farR ys k s j).1 ∧ bv = .int .i64 (farR ys k s j).2.1 ∧ cv = .int .i64 (farR ys k s j).2.2) (fun _ _ _ iv => m - (intOf iv).toNat)
      case atStart => exact ⟨0, by omega, rfl, rfl, rfl, rfl⟩
      case round =>
        obtain ⟨j, hj, rfl, rfl, rfl, rfl⟩ := hrel
        by_cases hjm : j < m
        · have hjl : j < ys.length := by rw [HRL.out]; exact hjm
          obtain ⟨b2, o2, rfl, hc⟩ := HE2.out.some hjl
          have g1 := hc j hjl 0 _ rfl
          simp only [Nat.add_zero, Nat.mul_one] at g1
          have hst : farR ys k s (j + 1) = if (farR ys k s j).2.2 < ys[j] then ((k : Int), (j : Int), ys[j]) else farR ys k s j := by rw [← getD_nat hjl]; rfl
          have HST := Lib.hid hst
          clear hc hst
          generalize hfa : (farR ys k s j).1 = fa at *
          generalize hfb : (farR ys k s j).2.1 = fb at *
          generalize hfc : (farR ys k s j).2.2 = fc at *
          have HFA := Lib.hid (show (farR ys k s j).1 = fa ∧ (farR ys k s j).2.1 = fb ∧ (farR ys k s j).2.2 = fc from ⟨hfa, hfb, hfc⟩)
          clear hfa hfb hfc
          generalize ys[j] = yj at *
          by_cases hlt2 : fc < yj
          · have HK := Lib.hid (HST.out.trans (if_pos hlt2))
            clear HST
            go_wp2
            exact ⟨⟨j + 1, by omega, by go_num, by rw [HK.out], by rw [HK.out], by rw [HK.out]⟩, by simp [intOf]; omega⟩
          · have HK := Lib.hid (HST.out.trans (if_neg hlt2))
            clear HST
            go_wp2
            exact ⟨⟨j + 1, by omega, by go_num, by rw [HK.out, HFA.out.1], by rw [HK.out, HFA.out.2.1], by rw [HK.out, HFA.out.2.2]⟩, by simp [intOf]; omega⟩
        · obtain rfl : j = m := by omega
          obtain ⟨t, ht⟩ : ∃ t, t = farR ys k s j := ⟨_, rfl⟩
          rw [← ht] at HS0 ⊢
          clear ht
          obtain ⟨t1, t2, t3⟩ := t
          go_wp2
          exact ⟨⟨k + 1, by omega, by go_num, by rw [HS0.out], by rw [HS0.out], by rw [HS0.out], hb3⟩, by simp [intOf]; omega⟩
    · obtain rfl : k = m := by omega
      go_wp2
      refine bodyPost_ret (results_tmp4 rfl _ _ _) rfl ?_
      exact ⟨rfl, hb⟩

/-- Both, where something is wrong. -/
theorem center_bad (a : Option Addr) (n cap : Nat) (ni : Int) (xs : List R3) (w : World) (hl : n = xs.length) (hn : xs.length ≤ 100) (hT : treeErr ni xs ≠ 0) (hx : Elems enc3 3 w a xs) :
    Calls Tryd.prog 19 #[.int .i64 ni, .slice a n cap] w fun e w' => e = .returned (.tuple #[.int .i64 0, .int .i64 0, errV (treeErr ni xs)]) ∧ Below w.heap.size w w' := by
  subst hl
  have hC := tchk_any a _ cap ni xs w rfl hn hx
  rw [show errV (treeErr ni xs) = .iface 25 (.int .i64 (treeErr ni xs)) from if_neg hT] at hC ⊢
  generalize treeErr ni xs = er at *
  clear hx hT
  go_enter Tryd.func19, Tryd.ntmps19
  go_wp2_with fail
  refine hC.mono ?_
  rintro e w1 ⟨rfl, hb1⟩
  go_wp2
  go_ret3
  exact ⟨rfl, hb1⟩
theorem across_bad (a : Option Addr) (n cap : Nat) (ni : Int) (xs : List R3) (w : World) (hl : n = xs.length) (hn : xs.length ≤ 100) (hT : treeErr ni xs ≠ 0) (hx : Elems enc3 3 w a xs) :
    Calls Tryd.prog 20 #[.int .i64 ni, .slice a n cap] w fun e w' => e = .returned (.tuple #[.int .i64 0, .int .i64 0, .int .i64 0, errV (treeErr ni xs)]) ∧ Below w.heap.size w w' := by
  subst hl
  have hC := tchk_any a _ cap ni xs w rfl hn hx
  rw [show errV (treeErr ni xs) = .iface 25 (.int .i64 (treeErr ni xs)) from if_neg hT] at hC ⊢
  generalize treeErr ni xs = er at *
  clear hx hT
  go_enter Tryd.func20, Tryd.ntmps20
  go_wp2_with fail
  refine hC.mono ?_
  rintro e w1 ⟨rfl, hb1⟩
  go_wp2
  refine bodyPost_ret (results_tmp4 rfl _ _ _) rfl ?_
  exact ⟨rfl, hb1⟩
end Go.Proofs.YtogbmpnbbkcocaaDoor
