/- How far all people are (20.2): tree.Sum, tree.Middle and the reference's; the law TreeMiddle. -/
import Derived.Test.YtogbmpnbbkcocaaDoorTreeCen
import Derived.Test.YtogbmpnbbkcocaaDoorContG
namespace Go.Proofs.YtogbmpnbbkcocaaDoor
open Go.RowKit

def outOf (lim x : Int) : Bool := decide (x < 0) || decide (lim < x)
noncomputable def peoErr (n : Int) (xs : List R3) (ps : List Int) : Int :=
  if treeErr n xs ≠ 0 then treeErr n xs else if (ps.length : Int) ≠ n then 3 else if ps.any (outOf 10000) = true then 2 else 0
theorem peo_ok {n : Int} {xs : List R3} {ps : List Int} (h : peoErr n xs ps = 0) : treeErr n xs = 0 ∧ (ps.length : Int) = n ∧ ∀ p ∈ ps, 0 ≤ p ∧ p ≤ 10000 := by
  unfold peoErr at h
  by_cases h1 : treeErr n xs ≠ 0
  · rw [if_pos h1] at h; exact absurd h h1
  rw [if_neg h1] at h
  by_cases h2 : (ps.length : Int) ≠ n
  · rw [if_pos h2] at h; omega
  rw [if_neg h2] at h
  by_cases h3 : ps.any (outOf 10000) = true
  · rw [if_pos h3] at h; omega
  refine ⟨by omega, by omega, fun p hp => ?_⟩
  have h4 : outOf 10000 p = false := by
    cases hq : outOf 10000 p with
    | false => rfl
    | true => exact absurd (List.any_eq_true.2 ⟨p, hp, hq⟩) h3
  simp only [outOf, Bool.or_eq_false_iff, decide_eq_false_iff_not] at h4
  omega
theorem wq_any (x : Int) (w : World) : Calls Tryd.prog 73 #[.int .i64 x] w fun e w' => e = .returned (.bool (outOf 10000 x)) ∧ Below w.heap.size w w' := by
  by_cases h1 : x < 0
  · have HB : Hid (outOf 10000 x = true) := Lib.hid (by simp [outOf, h1])
    go_enter Tryd.func73, Tryd.ntmps73
    go_wp2
    go_ret
    exact ⟨by rw [HB.out]; rfl, Below.refl _ _⟩
  · by_cases h2 : 10000 < x
    · have HB : Hid (outOf 10000 x = true) := Lib.hid (by simp [outOf, h2])
      go_enter Tryd.func73, Tryd.ntmps73
      go_wp2
      go_ret
      exact ⟨by rw [HB.out]; rfl, Below.refl _ _⟩
    · have HB : Hid (outOf 10000 x = false) := Lib.hid (by simp [outOf]; omega)
      go_enter Tryd.func73, Tryd.ntmps73
      go_wp2
      go_ret
      exact ⟨by rw [HB.out]; rfl, Below.refl _ _⟩
theorem eg_wq : ∀ args w, (callFunc 73 args).run Tryd.prog w = .ok (.enter 73 args) w := enter_of Tryd.func73 (by kernel_rfl) rfl

set_option maxHeartbeats 4000000 in
theorem weights_any (a a2 : Option Addr) (n n2 cap cap2 : Nat) (ni : Int) (xs : List R3) (ps : List Int) (w : World) (hl : n = xs.length) (hl2 : n2 = ps.length) (hn : xs.length ≤ 100) (hn2 : ps.length ≤ 100) (hx : Elems enc3 3 w a xs) (hp : Elems encI 1 w a2 ps) :
    Calls Tryd.prog 50 #[.int .i64 ni, .slice a n cap, .slice a2 n2 cap2] w fun e w' => e = .returned (errV (peoErr ni xs ps)) ∧ Below w.heap.size w w' := by
  subst hl; subst hl2
  have HP := Lib.hid hp
  have hC := tchk_any a _ cap ni xs w rfl hn hx
  obtain ⟨er, her⟩ : ∃ er, er = peoErr ni xs ps := ⟨_, rfl⟩
  rw [← her]
  by_cases hT : treeErr ni xs = 0
  case neg =>
    have HR := Lib.hid (show errV er = .iface 25 (.int .i64 (treeErr ni xs)) by rw [her.trans (if_pos hT)]; exact if_neg hT)
    rw [show errV (treeErr ni xs) = .iface 25 (.int .i64 (treeErr ni xs)) from if_neg hT] at hC
    generalize treeErr ni xs = te at *
    clear hx hp her hT
    go_enter Tryd.func50, Tryd.ntmps50
    go_wp2_with fail
    refine hC.mono ?_
    rintro e w1 ⟨rfl, hb1⟩
    go_wp2
    go_ret
    exact ⟨by rw [HR.out]; rfl, hb1⟩
  have her1 := her.trans (if_neg (by simp [hT]))
  rw [hT] at hC
  clear her hT
  by_cases hL : (ps.length : Int) = ni
  case neg =>
    have HR := Lib.hid (show er = 3 from her1.trans (if_pos hL))
    have hd : ((ps.length : Int) != ni) = true := by simpa using hL
    clear her1 hL hx hp
    go_enter Tryd.func50, Tryd.ntmps50
    go_wp2_with fail
    refine hC.mono ?_
    rintro e w1 ⟨rfl, hb1⟩
    rw [show errV 0 = .nilIface from rfl]
    go_wp2
    go_ret
    exact ⟨by rw [HR.out]; rfl, hb1⟩
  have hd : ((ps.length : Int) != ni) = false := by simpa using hL
  have her2 := her1.trans (if_neg (by omega))
  clear her1 hL
  have HQ : ∀ w', PredOk 73 #[] (outOf 10000) ps w'.heap.size w' := fun w' w'' _ x _ => wq_any x w''
  have HC2 := Lib.hid (fun w' h => containsF_any 73 #[] (outOf 10000) a2 _ cap2 ps w' eg_wq (HQ w') rfl (by omega) h)
  clear hx hp HQ
  by_cases hany : ps.any (outOf 10000) = true
  · have HR := Lib.hid (show er = 2 from her2.trans (if_pos hany))
    rw [hany] at HC2
    clear her2 hany
    go_enter Tryd.func50, Tryd.ntmps50
    go_wp2_with fail
    refine hC.mono ?_
    rintro e w1 ⟨rfl, hb1⟩
    rw [show errV 0 = .nilIface from rfl]
    have HC3 := Lib.hid (HC2.out _ (HP.out.at hb1))
    go_wp2_with fail
    refine HC3.out.mono ?_
    rintro e w2 ⟨rfl, hb2⟩
    have hb := below_next hb1 hb2
    clear HC3
    go_wp2
    go_ret
    exact ⟨by rw [HR.out]; rfl, hb⟩
  · have HR := Lib.hid (show er = 0 from her2.trans (if_neg hany))
    rw [show ps.any (outOf 10000) = false by simpa using hany] at HC2
    clear her2 hany
    go_enter Tryd.func50, Tryd.ntmps50
    go_wp2_with fail
    refine hC.mono ?_
    rintro e w1 ⟨rfl, hb1⟩
    rw [show errV 0 = .nilIface from rfl]
    have HC3 := Lib.hid (HC2.out _ (HP.out.at hb1))
    go_wp2_with fail
    refine HC3.out.mono ?_
    rintro e w2 ⟨rfl, hb2⟩
    have hb := below_next hb1 hb2
    clear HC3
    go_wp2
    go_ret
    exact ⟨by rw [HR.out]; rfl, hb⟩

set_option maxHeartbeats 4000000 in
theorem people_any (a a2 : Option Addr) (n n2 cap cap2 : Nat) (ni : Int) (xs : List R3) (ps : List Int) (w : World) (hl : n = xs.length) (hl2 : n2 = ps.length) (hn : xs.length ≤ 100) (hn2 : ps.length ≤ 100) (hx : Elems enc3 3 w a xs) (hp : Elems encI 1 w a2 ps) :
    Calls Tryd.prog 22 #[.int .i64 ni, .slice a n cap, .slice a2 n2 cap2] w fun e w' => e = .returned (.int .i64 (peoErr ni xs ps)) ∧ Below w.heap.size w w' := by
  subst hl; subst hl2
  have HP := Lib.hid hp
  have hC := trefChk_any a _ cap ni xs w rfl hn hx
  obtain ⟨er, her⟩ : ∃ er, er = peoErr ni xs ps := ⟨_, rfl⟩
  rw [← her]
  by_cases hT : treeErr ni xs = 0
  case neg =>
    have HR := Lib.hid (show er = treeErr ni xs from her.trans (if_pos hT))
    have hd : (treeErr ni xs != 0) = true := by simpa using hT
    generalize treeErr ni xs = te at *
    clear hx hp her hT
    go_enter Tryd.func22, Tryd.ntmps22
    go_wp2_with fail
    refine hC.mono ?_
    rintro e w1 ⟨rfl, hb1⟩
    go_wp2
    go_ret
    exact ⟨by rw [HR.out]; rfl, hb1⟩
  have her1 := her.trans (if_neg (by simp [hT]))
  rw [hT] at hC
  clear her hT
  by_cases hL : (ps.length : Int) = ni
  case neg =>
    have HR := Lib.hid (show er = 3 from her1.trans (if_pos hL))
    have hd : ((ps.length : Int) != ni) = true := by simpa using hL
    clear her1 hL hx hp
    go_enter Tryd.func22, Tryd.ntmps22
    go_wp2_with fail
    refine hC.mono ?_
    rintro e w1 ⟨rfl, hb1⟩
    go_wp2
    go_ret
    exact ⟨by rw [HR.out]; rfl, hb1⟩
  have hd : ((ps.length : Int) != ni) = false := by simpa using hL
  have HR0 := Lib.hid (her1.trans (if_neg (by omega)))
  have HQ0 : Hid ((ps.take 0).any (outOf 10000) = false) := Lib.hid (by simp)
  clear her1 hL hx hp
  go_enter Tryd.func22, Tryd.ntmps22
  go_wp2_with fail
  refine hC.mono ?_
  rintro e w1 ⟨rfl, hb1⟩
  have HP1 := Lib.hid (HP.out.at hb1)
  clear hC HP
  go_wp2
  go_loop [22] (fun i => ∃ k : Nat, k ≤ ps.length ∧ i = .int .i64 k ∧ Hid ((ps.take k).any (outOf 10000) = false)) (fun i => ps.length - (intOf i).toNat)
  case atStart => exact ⟨0, by omega, rfl, HQ0⟩
  case round =>
    clear HQ0
    obtain ⟨k, hk, rfl, HQ⟩ := hrel
    by_cases hlt : k < ps.length
    · obtain ⟨b, o, rfl, hc⟩ := HP1.out.some hlt
      have h1 := hc k hlt 0 _ rfl
      simp only [Nat.add_zero, Nat.mul_one] at h1
      by_cases hbad : outOf 10000 ps[k] = true
      · have HR := Lib.hid (show er = 2 from HR0.out.trans (if_pos (List.any_eq_true.2 ⟨_, List.getElem_mem hlt, hbad⟩)))
        simp only [outOf, Bool.or_eq_true, decide_eq_true_eq] at hbad
        clear hc HQ HR0
        generalize ps[k] = x at *
        go_wp2_with fail
        all_goals first
          | (exfalso; omega)
          | (go_ret; exact ⟨by rw [HR.out]; rfl, hb1⟩)
      · have hgood : outOf 10000 ps[k] = false := by simpa using hbad
        have HQ2 : Hid ((ps.take (k + 1)).any (outOf 10000) = false) := Lib.hid (by rw [List.take_succ_eq_append_getElem hlt, List.any_append, HQ.out]; simp [hgood])
        simp only [outOf, Bool.or_eq_false_iff, decide_eq_false_iff_not] at hgood
        obtain ⟨q1, q2⟩ := hgood
        clear hc HQ hbad
        generalize ps[k] = x at *
        go_wp2_with fail
        all_goals first
          | (exfalso; omega)
          | exact ⟨⟨k + 1, by omega, by go_num, HQ2⟩, by simp [intOf]; omega⟩
    · obtain rfl : k = ps.length := by omega
      have HR := Lib.hid (show er = 0 by
        rw [HR0.out]
        have h := HQ.out
        rw [List.take_length] at h
        rw [if_neg (by simp [h])])
      clear HQ HR0
      go_wp2
      go_ret
      exact ⟨by rw [HR.out]; rfl, hb1⟩

/-- How far all people are, of the first k places. -/
def sumW (ds ps : List Int) : Nat → Int
  | 0 => 0
  | k + 1 => wrap64 (sumW ds ps k + wrap64 (ds.getD k 0 * ps.getD k 0))
theorem sumW_bd {ds ps : List Int} (hd : ∀ x ∈ ds, 0 ≤ x ∧ x ≤ 60000000000) (hp : ∀ p ∈ ps, 0 ≤ p ∧ p ≤ 10000) : ∀ k, k ≤ 100 → 0 ≤ sumW ds ps k ∧ sumW ds ps k ≤ k * 600000000000000 := by
  have hget : ∀ (l : List Int) (B : Int), 0 ≤ B → (∀ x ∈ l, 0 ≤ x ∧ x ≤ B) → ∀ k, 0 ≤ l.getD k 0 ∧ l.getD k 0 ≤ B := by
    intro l B hB h k
    rcases Nat.lt_or_ge k l.length with g | g
    · rw [getD_nat g]; exact h _ (List.getElem_mem g)
    · simp [List.getD, List.getElem?_eq_none g]; exact hB
  intro k
  induction k with
  | zero => intro _; simp [sumW]
  | succ k ih =>
    intro hk
    have h1 := ih (by omega)
    have h2 := hget ds _ (by omega) hd k
    have h3 := hget ps _ (by omega) hp k
    have h4 := Int.mul_nonneg h2.1 h3.1
    have h5 : ds.getD k 0 * ps.getD k 0 ≤ 60000000000 * 10000 := Int.mul_le_mul h2.2 h3.2 h3.1 (by omega)
    unfold sumW
    rw [IntWalk.wrap64_in (ds.getD k 0 * ps.getD k 0) (by omega), IntWalk.wrap64_in _ (by omega)]
    omega

set_option maxRecDepth 100000 in
set_option maxHeartbeats 4000000 in
theorem sum_ok (a a2 : Option Addr) (n n2 cap cap2 m r : Nat) (xs : List R3) (ps : List Int) (w : World) (hl : n = xs.length) (hl2 : n2 = ps.length) (hn : xs.length ≤ 100) (hn2 : ps.length ≤ 100) (hT : peoErr m xs ps = 0) (hr : r < m) (hx : Elems enc3 3 w a xs) (hp : Elems encI 1 w a2 ps) :
    Calls Tryd.prog 26 #[.int .i64 m, .slice a n cap, .slice a2 n2 cap2, .int .i64 r] w fun e w' => e = .returned (.tuple #[.int .i64 (sumW (rowD m xs r) ps m), .nilIface]) ∧ (∀ x ∈ rowD m xs r, 0 ≤ x ∧ x ≤ 60000000000) ∧ Below w.heap.size w w' := by
  subst hl; subst hl2
  have HX := Lib.hid hx
  have HP := Lib.hid hp
  have hC := weights_any a a2 _ _ cap cap2 m xs ps w rfl rfl hn hn2 hx hp
  rw [hT, show errV 0 = .nilIface from rfl] at hC
  obtain ⟨hT1, hT2, hT3⟩ := peo_ok hT
  obtain ⟨m', hm', hTO⟩ := treeOk hT1
  obtain rfl : m = m' := by omega
  have HTO := Lib.hid hTO
  have HFAR := Lib.hid (fun w h => far_ok a _ cap m r xs w rfl hn hT1 hr h)
  have hlow := hTO.low
  have hpl : ps.length = m := by omega
  have HPL := Lib.hid hpl
  clear hx hp hT hT1 hT2 hT3 hm' hTO hpl
  suffices h : Calls Tryd.prog 26 #[.int .i64 m, .slice a xs.length cap, .slice a2 ps.length cap2, .int .i64 r] w fun e w' => e = .returned (.tuple #[.int .i64 (sumW (rowD m xs r) ps m), .nilIface]) ∧ Hid (∀ x ∈ rowD m xs r, 0 ≤ x ∧ x ≤ 60000000000) ∧ Below w.heap.size w w' by
    exact h.mono (fun e w' h => ⟨h.1, h.2.1.out, h.2.2⟩)
  generalize hrow : rowD m xs r = ds at *
  have HROW := Lib.hid hrow
  clear hrow
  go_enter Tryd.func26, Tryd.ntmps26
  go_wp2_with fail
  refine hC.mono ?_
  rintro e w1 ⟨rfl, hb1⟩
  have HF := Lib.hid (HFAR.out _ (HX.out.at hb1))
  clear hC
  go_wp2_with fail
  refine HF.out.mono ?_
  rintro e w2 ⟨a3, c3, f, rfl, he3, hg3, hc3, hb2⟩
  have hb := below_next hb1 hb2
  have hds : tabI m f = ds := (HTO.out.row hr hg3 hc3).trans HROW.out
  have HLO := Lib.hid (show ∀ x ∈ ds, 0 ≤ x ∧ x ≤ 60000000000 by rw [← HROW.out]; exact HTO.out.low0 hr hg3 hc3)
  have hdl : ds.length = m := by rw [← HROW.out]; exact rowD_len _ _ _
  rw [hds] at he3
  have HE3 := Lib.hid he3
  have HP2 := Lib.hid (HP.out.at hb)
  have HDL := Lib.hid hdl
  clear HF he3 hg3 hc3 hds hdl hb1 hb2
  go_wp2
  go_loopw [13, 31] (fun sv iv wr => ∃ k : Nat, k ≤ m ∧ iv = .int .i64 k ∧ sv = .int .i64 (sumW ds ps k) ∧ ∃ q, wr = w2.drewN q) (fun _ iv _ => m - (intOf iv).toNat)
  case atStart => exact ⟨0, by omega, rfl, rfl, 0, rfl⟩
  case round =>
    obtain ⟨k, hk, rfl, rfl, q, rfl⟩ := hrel
    by_cases hlt : k < m
    · have hk1 : k < ds.length := by rw [HDL.out]; exact hlt
      have hk2 : k < ps.length := by rw [HPL.out]; exact hlt
      obtain ⟨b1, o1, rfl, hc1⟩ := HE3.out.some hk1
      obtain ⟨b2, o2, rfl, hc2⟩ := HP2.out.some hk2
      have g1 := hc1 k hk1 0 _ rfl
      have g2 := hc2 k hk2 0 _ rfl
      simp only [Nat.add_zero, Nat.mul_one] at g1 g2
      have HST := Lib.hid (show sumW ds ps (k + 1) = wrap64 (sumW ds ps k + wrap64 (ds[k] * ps[k])) by rw [← getD_nat hk1, ← getD_nat hk2]; rfl)
      have hwr : ∀ n, IntKind.i64.wrap n = wrap64 n := IntWalk.i64_left
      clear hc1 hc2
      generalize sumW ds ps k = s at *
      generalize ds[k] = dk at *
      generalize ps[k] = pk at *
      go_wp2_with fail
      go_quiet (fail)
      clear hwr
      go_wp2
      exact ⟨⟨k + 1, by omega, by go_num, by rw [HST.out], _, rfl⟩, by simp [intOf]; omega⟩
    · obtain rfl : k = m := by omega
      go_wp2
      go_ret2
      first
        | exact ⟨rfl, HLO, below_drewN' hb _⟩
        | exact ⟨rfl, below_drewN' hb _⟩

set_option maxRecDepth 100000 in
set_option maxHeartbeats 4000000 in
theorem refSum_any (a a2 : Option Addr) (n n2 cap cap2 m r : Nat) (xs : List R3) (ps : List Int) (w : World) (hl : n = xs.length) (hl2 : n2 = ps.length) (hn : xs.length ≤ 100) (hT : peoErr m xs ps = 0) (hr : r < m) (hx : Elems enc3 3 w a xs) (hp : Elems encI 1 w a2 ps) :
    Calls Tryd.prog 23 #[.int .i64 m, .slice a n cap, .slice a2 n2 cap2, .int .i64 r] w fun e w' => e = .returned (.int .i64 (sumW (rowD m xs r) ps m)) ∧ (∀ x ∈ rowD m xs r, 0 ≤ x ∧ x ≤ 60000000000) ∧ Below w.heap.size w w' := by
  subst hl; subst hl2
  have HX := Lib.hid hx
  have HP := Lib.hid hp
  obtain ⟨hT1, hT2, hT3⟩ := peo_ok hT
  obtain ⟨m', hm', hTO⟩ := treeOk hT1
  obtain rfl : m = m' := by omega
  have hlow := hTO.low
  have HF := Lib.hid (refFarT_any a _ cap m r xs w rfl hn hTO hr hx)
  have hpl : ps.length = m := by omega
  have HPL := Lib.hid hpl
  have HRL := Lib.hid (rowD_len m xs r)
  clear hx hp hT hT1 hT2 hT3 hm' hTO hpl
  suffices h : Calls Tryd.prog 23 #[.int .i64 m, .slice a xs.length cap, .slice a2 ps.length cap2, .int .i64 r] w fun e w' => e = .returned (.int .i64 (sumW (rowD m xs r) ps m)) ∧ Hid (∀ x ∈ rowD m xs r, 0 ≤ x ∧ x ≤ 60000000000) ∧ Below w.heap.size w w' by
    exact h.mono (fun e w' h => ⟨h.1, h.2.1.out, h.2.2⟩)
  generalize rowD m xs r = ds at *
  go_enter Tryd.func23, Tryd.ntmps23
  go_wp2_with fail
  refine HF.out.mono ?_
  rintro e w2 ⟨a3, c3, rfl, he3, hlo, hb⟩
  have HLO := Lib.hid hlo
  have HE3 := Lib.hid he3
  have HP2 := Lib.hid (HP.out.at hb)
  clear HF he3 hlo
  go_wp2
  go_loop [9, 17] (fun sv iv => ∃ k : Nat, k ≤ m ∧ iv = .int .i64 k ∧ sv = .int .i64 (sumW ds ps k)) (fun _ iv => m - (intOf iv).toNat)
  case atStart => exact ⟨0, by omega, rfl, rfl⟩
  case round =>
    obtain ⟨k, hk, rfl, rfl⟩ := hrel
    by_cases hlt : k < m
    · have hk1 : k < ds.length := by rw [HRL.out]; exact hlt
      have hk2 : k < ps.length := by rw [HPL.out]; exact hlt
      obtain ⟨b1, o1, rfl, hc1⟩ := HE3.out.some hk1
      obtain ⟨b2, o2, rfl, hc2⟩ := HP2.out.some hk2
      have g1 := hc1 k hk1 0 _ rfl
      have g2 := hc2 k hk2 0 _ rfl
      simp only [Nat.add_zero, Nat.mul_one] at g1 g2
      have HST := Lib.hid (show sumW ds ps (k + 1) = wrap64 (sumW ds ps k + wrap64 (ds[k] * ps[k])) by rw [← getD_nat hk1, ← getD_nat hk2]; rfl)
      clear hc1 hc2
      generalize sumW ds ps k = s at *
      generalize ds[k] = dk at *
      generalize ps[k] = pk at *
      go_wp2
      exact ⟨⟨k + 1, by omega, by go_num, by rw [HST.out]⟩, by simp [intOf]; omega⟩
    · obtain rfl : k = m := by omega
      go_wp2
      go_ret
      first
        | exact ⟨rfl, HLO, hb⟩
        | exact ⟨rfl, hb⟩

/-- The first of the least, place by place: the program's, and the reference's. -/
def leaM (v : Nat → Int) : Nat → Int × Int
  | 0 => (0, -1)
  | i + 1 => if (leaM v i).2 < 0 ∨ v i < (leaM v i).2 then (i, v i) else leaM v i
def leaR (v : Nat → Int) : Nat → Int × Int
  | 0 => (0, 0)
  | i + 1 => if i = 0 ∨ v i < (leaR v i).2 then (i, v i) else leaR v i
theorem lea_same (v : Nat → Int) (n : Nat) (hv : ∀ i, i < n → 0 ≤ v i) : ∀ i, 0 < i → i ≤ n → leaM v i = leaR v i ∧ 0 ≤ (leaM v i).2 := by
  intro i
  induction i with
  | zero => intro h; omega
  | succ i ih =>
    intro _ hin
    have hp := hv i (by omega)
    by_cases hi : i = 0
    · subst hi
      unfold leaM leaR
      rw [if_pos (Or.inl (by show (-1 : Int) < 0; decide)), if_pos (Or.inl rfl)]
      exact ⟨rfl, hp⟩
    · obtain ⟨h1, h2⟩ := ih (by omega) (by omega)
      unfold leaM leaR
      rw [h1] at h2 ⊢
      by_cases hm : v i < (leaR v i).2
      · rw [if_pos (Or.inr hm), if_pos (Or.inr hm)]
        exact ⟨rfl, hp⟩
      · rw [if_neg (by omega), if_neg (by omega)]
        exact ⟨rfl, h2⟩

set_option maxRecDepth 100000 in
set_option maxHeartbeats 8000000 in
theorem middle_ok (a a2 : Option Addr) (n n2 cap cap2 m : Nat) (xs : List R3) (ps : List Int) (w : World) (hl : n = xs.length) (hl2 : n2 = ps.length) (hn : xs.length ≤ 100) (hn2 : ps.length ≤ 100) (hT : peoErr m xs ps = 0) (hx : Elems enc3 3 w a xs) (hp : Elems encI 1 w a2 ps) :
    Calls Tryd.prog 24 #[.int .i64 m, .slice a n cap, .slice a2 n2 cap2] w fun e w' => e = .returned (.tuple #[.int .i64 (leaM (fun i => sumW (rowD m xs i) ps m) m).1, .int .i64 (leaM (fun i => sumW (rowD m xs i) ps m) m).2, .nilIface]) ∧ Below w.heap.size w w' := by
  subst hl; subst hl2
  have HX := Lib.hid hx
  have HP := Lib.hid hp
  have hC := weights_any a a2 _ _ cap cap2 m xs ps w rfl rfl hn hn2 hx hp
  rw [hT, show errV 0 = .nilIface from rfl] at hC
  obtain ⟨hT1, hT2, hT3⟩ := peo_ok hT
  obtain ⟨m', hm', hTO⟩ := treeOk hT1
  obtain rfl : m = m' := by omega
  have hlow := hTO.low
  have HS := Lib.hid (fun r hr w h1 h2 => sum_ok a a2 _ _ cap cap2 m r xs ps w rfl rfl hn hn2 hT hr h1 h2)
  clear hx hp hT hT1 hT2 hT3 hm' hTO
  obtain ⟨v, hv⟩ : ∃ v : Nat → Int, v = fun i => sumW (rowD m xs i) ps m := ⟨_, rfl⟩
  have HV : Hid (∀ r, sumW (rowD m xs r) ps m = v r) := Lib.hid (fun r => by rw [hv])
  rw [← hv]
  clear hv
  go_enter Tryd.func24, Tryd.ntmps24
  go_wp2_with fail
  refine hC.mono ?_
  rintro e w1 ⟨rfl, hb1⟩
  clear hC
  go_wp2
  go_loopw [10, 11, 23] (fun av bv iv wr => ∃ k : Nat, k ≤ m ∧ iv = .int .i64 k ∧ av = .int .i64 (leaM v k).1 ∧ bv = .int .i64 (leaM v k).2 ∧ Below w.heap.size w wr) (fun _ _ iv _ => m - (intOf iv).toNat)
  case atStart => exact ⟨0, by omega, rfl, rfl, rfl, hb1⟩
  case round =>
    clear hb1
    obtain ⟨k, hk, rfl, rfl, rfl, hb⟩ := hrel
    by_cases hlt : k < m
    · have HST := Lib.hid (show leaM v (k + 1) = if (leaM v k).2 < 0 ∨ v k < (leaM v k).2 then ((k : Int), v k) else leaM v k from rfl)
      have HF := Lib.hid (HS.out k hlt _ (HX.out.at hb) (HP.out.at hb))
      rw [HV.out k] at HF
      obtain ⟨wo, hwo⟩ : ∃ wo : World, wo = wr := ⟨_, rfl⟩
      subst hwo
      generalize hca : (leaM v k).1 = ca at *
      generalize hcb : (leaM v k).2 = cb at *
      have HCA := Lib.hid (show (leaM v k).1 = ca ∧ (leaM v k).2 = cb from ⟨hca, hcb⟩)
      clear hca hcb
      generalize v k = mk at *
      go_wp2_with fail
      refine HF.out.mono ?_
      rintro e w2 ⟨rfl, hlo, hb2⟩
      have hb3 := below_next hb hb2
      clear HF hb2 hb hlo
      by_cases hc1 : cb < 0
      · have HK := Lib.hid (HST.out.trans (if_pos (Or.inl hc1)))
        clear HST
        go_wp2
        exact ⟨⟨k + 1, by omega, by go_num, by rw [HK.out], by rw [HK.out], hb3⟩, by simp [intOf]; omega⟩
      · by_cases hc2 : mk < cb
        · have HK := Lib.hid (HST.out.trans (if_pos (Or.inr hc2)))
          clear HST
          go_wp2
          exact ⟨⟨k + 1, by omega, by go_num, by rw [HK.out], by rw [HK.out], hb3⟩, by simp [intOf]; omega⟩
        · have HK := Lib.hid (HST.out.trans (if_neg (fun h => h.elim hc1 hc2)))
          clear HST
          go_wp2
          exact ⟨⟨k + 1, by omega, by go_num, by rw [HK.out, HCA.out.1], by rw [HK.out, HCA.out.2], hb3⟩, by simp [intOf]; omega⟩
    · obtain rfl : k = m := by omega
      go_wp2
      go_ret3
      exact ⟨rfl, hb⟩
theorem middle_bad (a a2 : Option Addr) (n n2 cap cap2 : Nat) (ni : Int) (xs : List R3) (ps : List Int) (w : World) (hl : n = xs.length) (hl2 : n2 = ps.length) (hn : xs.length ≤ 100) (hn2 : ps.length ≤ 100) (hT : peoErr ni xs ps ≠ 0) (hx : Elems enc3 3 w a xs) (hp : Elems encI 1 w a2 ps) :
    Calls Tryd.prog 24 #[.int .i64 ni, .slice a n cap, .slice a2 n2 cap2] w fun e w' => e = .returned (.tuple #[.int .i64 0, .int .i64 0, errV (peoErr ni xs ps)]) ∧ Below w.heap.size w w' := by
  subst hl; subst hl2
  have hC := weights_any a a2 _ _ cap cap2 ni xs ps w rfl rfl hn hn2 hx hp
  rw [show errV (peoErr ni xs ps) = .iface 25 (.int .i64 (peoErr ni xs ps)) from if_neg hT] at hC ⊢
  generalize peoErr ni xs ps = er at *
  clear hx hp hT
  go_enter Tryd.func24, Tryd.ntmps24
  go_wp2_with fail
  refine hC.mono ?_
  rintro e w1 ⟨rfl, hb1⟩
  go_wp2
  go_ret3
  exact ⟨rfl, hb1⟩
end Go.Proofs.YtogbmpnbbkcocaaDoor
