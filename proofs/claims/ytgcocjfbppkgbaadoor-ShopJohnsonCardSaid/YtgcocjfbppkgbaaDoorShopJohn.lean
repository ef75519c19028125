/- Johnson's row: shop.Johnson and the reference's. -/
import Derived.Test.YtgcocjfbppkgbaaDoorShopLong
import Derived.Test.YtgcocjfbppkgbaaDoorFlowChk
import Derived.Deep.RegionHeld3
import Derived.Deep.DeepCutAuto
namespace Go.Proofs.YtgcocjfbppkgbaaDoor
open Go.RowKit

def tget (xs : List R2) (x : Int) : R2 := xs.getD x.toNat (0, 0)
theorem tget_nat {xs : List R2} {k : Nat} (h : k < xs.length) : tget xs k = xs[k] := by simp [tget, List.getD, h]
def lessJ (p q : R2) : Int := if p.1 ≤ p.2 then (if q.1 ≤ q.2 then p.1 - q.1 else -1) else (if q.1 ≤ q.2 then 1 else q.2 - p.2)
def fJ (xs : List R2) (x y : Int) : Int := lessJ (tget xs x) (tget xs y)
theorem lessJ_lt {p q : R2} : lessJ p q < 0 ↔ (p.1 ≤ p.2 ∧ q.1 ≤ q.2 ∧ p.1 < q.1) ∨ (p.1 ≤ p.2 ∧ ¬ q.1 ≤ q.2) ∨ (¬ p.1 ≤ p.2 ∧ ¬ q.1 ≤ q.2 ∧ q.2 < p.2) := by
  unfold lessJ
  by_cases h1 : p.1 ≤ p.2
  · rw [if_pos h1]
    by_cases h2 : q.1 ≤ q.2
    · rw [if_pos h2]; omega
    · rw [if_neg h2]; omega
  · rw [if_neg h1]
    by_cases h2 : q.1 ≤ q.2
    · rw [if_pos h2]; omega
    · rw [if_neg h2]; omega
theorem swkJ (xs : List R2) : SWk (ltf (fJ xs)) := by
  constructor
  · intro x y h
    rw [ltf_true] at h
    rw [ltf_false]
    unfold fJ at *
    rw [lessJ_lt] at h
    by_cases hlt : lessJ (tget xs y) (tget xs x) < 0
    · rw [lessJ_lt] at hlt; omega
    · omega
  · intro x y z h
    rw [ltf_true] at h
    rw [ltf_true, ltf_true]
    unfold fJ at *
    rw [lessJ_lt] at h
    rw [lessJ_lt, lessJ_lt]
    omega
theorem eg_john1 : ∀ args w, (callFunc 70 args).run Tryd.prog w = .ok (.enter 70 args) w := enter_of Tryd.func70 (by kernel_rfl) rfl
theorem eg_refJohn1 : ∀ args w, (callFunc 69 args).run Tryd.prog w = .ok (.enter 69 args) w := enter_of Tryd.func69 (by kernel_rfl) rfl

set_option maxRecDepth 100000 in
set_option maxHeartbeats 8000000 in
theorem johnFn_any (a : Option Addr) (n cap b2 : Nat) (xs : List R2) (x y : Int) (w : World) (hC : twosCheck xs = 0)
    (hl : n = xs.length) (hx : Elems enc2 2 w a xs) (c2 : w.cell? ⟨b2, 0, none⟩ = some (.slice a n cap)) (x0 : 0 ≤ x) (x1 : x < n) (y0 : 0 ≤ y) (y1 : y < n) :
    Calls Tryd.prog 70 #[.int .i64 x, .int .i64 y, .pointer (some ⟨b2, 0, none⟩)] w fun e w' => e = .returned (.int .i64 (fJ xs x y)) ∧ Below w.heap.size w w' := by
  subst hl
  obtain ⟨i, rfl⟩ := Int.eq_ofNat_of_zero_le x0
  obtain ⟨k, rfl⟩ := Int.eq_ofNat_of_zero_le y0
  have hi : i < xs.length := by omega
  have hk : k < xs.length := by omega
  obtain ⟨b, o, rfl, hc⟩ := hx.some hi
  have p1 := hc i hi 0 _ rfl
  have p2 := hc i hi 1 _ rfl
  have q1 := hc k hk 0 _ rfl
  have q2 := hc k hk 1 _ rfl
  simp only [Nat.add_zero] at p1 q1
  obtain ⟨a1, a2, a3, a4⟩ := twos_ok_two hC i hi
  obtain ⟨b1, b2', b3, b4⟩ := twos_ok_two hC k hk
  have hv : fJ xs i k = lessJ xs[i] xs[k] := by unfold fJ; rw [tget_nat hi, tget_nat hk]
  have HV := Lib.hid hv
  clear hc hx hv
  generalize xs[i] = pp at *
  generalize xs[k] = qq at *
  obtain ⟨pa, pb⟩ := pp
  obtain ⟨qa, qb⟩ := qq
  simp only at p1 p2 q1 q2 a1 a2 a3 a4 b1 b2' b3 b4
  have hi2 : (i : Int) < (xs.length : Int) := by omega
  have hk2 : (k : Int) < (xs.length : Int) := by omega
  go_enter Tryd.func70, Tryd.ntmps70
  go_upto_region 1 with (fail)
  go_cut [6, 7] (fun v6 v7 wx => ∃ g1 g2 : Nat, v6 = .pointer (some ⟨g1, 0, none⟩) ∧ v7 = .pointer (some ⟨g2, 0, none⟩) ∧ wx.cell? ⟨g1, 0, none⟩ = some (.int .i64 pa) ∧ wx.cell? ⟨g1, 1, none⟩ = some (.int .i64 pb) ∧ wx.cell? ⟨g2, 0, none⟩ = some (.int .i64 qa) ∧ wx.cell? ⟨g2, 1, none⟩ = some (.int .i64 qb) ∧ Below w.heap.size w wx)
  case first =>
    go_wp2
    go_region_held3 (fun w' => w'.cell? ⟨b2, 0, none⟩ = some (.slice (some ⟨b, o, none⟩) xs.length cap) ∧ w'.cell? ⟨b, o + i * 2, none⟩ = some (.int .i64 pa) ∧ w'.cell? ⟨b, o + i * 2 + 1, none⟩ = some (.int .i64 pb) ∧ w'.cell? ⟨b, o + k * 2, none⟩ = some (.int .i64 qa) ∧ w'.cell? ⟨b, o + k * 2 + 1, none⟩ = some (.int .i64 qb))
      (first | exact ⟨c2, p1, p2, q1, q2⟩ | (refine (show Below w.heap.size w _ → _ from fun hB => ⟨(hB.cell (lt_of_cell c2)).trans c2, (hB.cell (lt_of_cell p1)).trans p1, (hB.cell (lt_of_cell p2)).trans p2, (hB.cell (lt_of_cell q1)).trans q1, (hB.cell (lt_of_cell q2)).trans q2⟩) ?_; (repeat (first | exact Below.refl _ _ | refine Below.drew ?_ | refine Below.setCell ?_ (by simp) _ | refine Below.alloc ?_ (by simp) _))))
      (fail)
    all_goals
      go_wp2_with fail
      go_meet
      case rel => exact ⟨_, _, rfl, rfl, by simp, by simp, by simp, by simp, (((Below.refl _ _).alloc (Nat.le_refl _) _).alloc (by simp) _).drew⟩
  case rest =>
    obtain ⟨g1, g2, rfl, rfl, d1, d2, d3, d4, hbc⟩ := hcut
    clear p1 p2 q1 q2 c2
    by_cases h1 : pa ≤ pb
    · have hd1 : decide (pa ≤ pb) = true := by simpa using h1
      by_cases h2 : qa ≤ qb
      · have hd2 : decide (qa ≤ qb) = true := by simpa using h2
        have HL : Hid (lessJ (pa, pb) (qa, qb) = pa - qa) := Lib.hid (by simp [lessJ, h1, h2])
        go_wp2
        go_quiet (fail)
        go_wp2
        go_ret
        exact ⟨by rw [HV.out, HL.out]; rfl, hbc.trans (below_drewN _ _ _)⟩
      · have hd2 : decide (qa ≤ qb) = false := by simpa using h2
        have HL : Hid (lessJ (pa, pb) (qa, qb) = -1) := Lib.hid (by simp [lessJ, h1, h2])
        go_wp2
        go_quiet (fail)
        go_wp2
        go_ret
        exact ⟨by rw [HV.out, HL.out]; rfl, hbc.trans (below_drewN _ _ _)⟩
    · have hd1 : decide (pa ≤ pb) = false := by simpa using h1
      by_cases h2 : qa ≤ qb
      · have hd2 : decide (qa ≤ qb) = true := by simpa using h2
        have HL : Hid (lessJ (pa, pb) (qa, qb) = 1) := Lib.hid (by simp [lessJ, h1, h2])
        go_wp2
        go_quiet (fail)
        go_wp2
        go_ret
        exact ⟨by rw [HV.out, HL.out]; rfl, hbc.trans (below_drewN _ _ _)⟩
      · have hd2 : decide (qa ≤ qb) = false := by simpa using h2
        have HL : Hid (lessJ (pa, pb) (qa, qb) = qb - pb) := Lib.hid (by simp [lessJ, h1, h2])
        go_wp2
        go_quiet (fail)
        go_wp2
        go_ret
        exact ⟨by rw [HV.out, HL.out]; rfl, hbc.trans (below_drewN _ _ _)⟩

set_option maxRecDepth 100000 in
set_option maxHeartbeats 8000000 in
theorem refJohnFn_any (a : Option Addr) (n cap b2 : Nat) (xs : List R2) (x y : Int) (w : World) (hC : twosCheck xs = 0)
    (hl : n = xs.length) (hx : Elems enc2 2 w a xs) (c2 : w.cell? ⟨b2, 0, none⟩ = some (.slice a n cap)) (x0 : 0 ≤ x) (x1 : x < n) (y0 : 0 ≤ y) (y1 : y < n) :
    Calls Tryd.prog 69 #[.int .i64 x, .int .i64 y, .pointer (some ⟨b2, 0, none⟩)] w fun e w' => e = .returned (.bool (ltf (fJ xs) y x)) ∧ Below w.heap.size w w' := by
  subst hl
  obtain ⟨i, rfl⟩ := Int.eq_ofNat_of_zero_le x0
  obtain ⟨k, rfl⟩ := Int.eq_ofNat_of_zero_le y0
  have hi : i < xs.length := by omega
  have hk : k < xs.length := by omega
  obtain ⟨b, o, rfl, hc⟩ := hx.some hi
  have p1 := hc i hi 0 _ rfl
  have p2 := hc i hi 1 _ rfl
  have q1 := hc k hk 0 _ rfl
  have q2 := hc k hk 1 _ rfl
  simp only [Nat.add_zero] at p1 q1
  obtain ⟨a1, a2, a3, a4⟩ := twos_ok_two hC i hi
  obtain ⟨b1, b2', b3, b4⟩ := twos_ok_two hC k hk
  have hv : ltf (fJ xs) k i = decide (lessJ xs[k] xs[i] < 0) := by unfold ltf fJ; rw [tget_nat hi, tget_nat hk]
  have HV := Lib.hid hv
  clear hc hx hv
  generalize xs[i] = pp at *
  generalize xs[k] = qq at *
  obtain ⟨pa, pb⟩ := pp
  obtain ⟨qa, qb⟩ := qq
  simp only at p1 p2 q1 q2 a1 a2 a3 a4 b1 b2' b3 b4
  have hi2 : (i : Int) < (xs.length : Int) := by omega
  have hk2 : (k : Int) < (xs.length : Int) := by omega
  go_enter Tryd.func69, Tryd.ntmps69
  go_upto_region 1 with (fail)
  go_cut [6, 7] (fun v6 v7 wx => ∃ g1 g2 : Nat, v6 = .pointer (some ⟨g1, 0, none⟩) ∧ v7 = .pointer (some ⟨g2, 0, none⟩) ∧ wx.cell? ⟨g1, 0, none⟩ = some (.int .i64 pa) ∧ wx.cell? ⟨g1, 1, none⟩ = some (.int .i64 pb) ∧ wx.cell? ⟨g2, 0, none⟩ = some (.int .i64 qa) ∧ wx.cell? ⟨g2, 1, none⟩ = some (.int .i64 qb) ∧ Below w.heap.size w wx)
  case first =>
    go_wp2
    go_region_held3 (fun w' => w'.cell? ⟨b2, 0, none⟩ = some (.slice (some ⟨b, o, none⟩) xs.length cap) ∧ w'.cell? ⟨b, o + i * 2, none⟩ = some (.int .i64 pa) ∧ w'.cell? ⟨b, o + i * 2 + 1, none⟩ = some (.int .i64 pb) ∧ w'.cell? ⟨b, o + k * 2, none⟩ = some (.int .i64 qa) ∧ w'.cell? ⟨b, o + k * 2 + 1, none⟩ = some (.int .i64 qb))
      (first | exact ⟨c2, p1, p2, q1, q2⟩ | (refine (show Below w.heap.size w _ → _ from fun hB => ⟨(hB.cell (lt_of_cell c2)).trans c2, (hB.cell (lt_of_cell p1)).trans p1, (hB.cell (lt_of_cell p2)).trans p2, (hB.cell (lt_of_cell q1)).trans q1, (hB.cell (lt_of_cell q2)).trans q2⟩) ?_; (repeat (first | exact Below.refl _ _ | refine Below.drew ?_ | refine Below.setCell ?_ (by simp) _ | refine Below.alloc ?_ (by simp) _))))
      (fail)
    all_goals
      go_wp2_with fail
      go_meet
      case rel => exact ⟨_, _, rfl, rfl, by simp, by simp, by simp, by simp, (((Below.refl _ _).alloc (Nat.le_refl _) _).alloc (by simp) _).drew⟩
  case rest =>
    obtain ⟨g1, g2, rfl, rfl, d1, d2, d3, d4, hbc⟩ := hcut
    clear p1 p2 q1 q2 c2
    by_cases h1 : pa ≤ pb
    · have hd1 : decide (pa ≤ pb) = true := by simpa using h1
      by_cases h2 : qa ≤ qb
      · have hd2 : decide (qa ≤ qb) = true := by simpa using h2
        have HL : Hid (decide (lessJ (qa, qb) (pa, pb) < 0) = decide (qa < pa)) := Lib.hid (by rw [decide_eq_decide, lessJ_lt]; omega)
        go_wp2
        go_ret
        exact ⟨by rw [HV.out, HL.out]; rfl, hbc⟩
      · have hd2 : decide (qa ≤ qb) = false := by simpa using h2
        have HL : Hid (decide (lessJ (qa, qb) (pa, pb) < 0) = false) := Lib.hid (by rw [decide_eq_false_iff_not, lessJ_lt]; omega)
        go_wp2
        go_ret
        exact ⟨by rw [HV.out, HL.out]; rfl, hbc⟩
    · have hd1 : decide (pa ≤ pb) = false := by simpa using h1
      by_cases h2 : qa ≤ qb
      · have hd2 : decide (qa ≤ qb) = true := by simpa using h2
        have HL : Hid (decide (lessJ (qa, qb) (pa, pb) < 0) = true) := Lib.hid (by rw [decide_eq_true_iff, lessJ_lt]; omega)
        go_wp2
        go_ret
        exact ⟨by rw [HV.out, HL.out]; rfl, hbc⟩
      · have hd2 : decide (qa ≤ qb) = false := by simpa using h2
        have HL : Hid (decide (lessJ (qa, qb) (pa, pb) < 0) = decide (pb < qb)) := Lib.hid (by rw [decide_eq_decide, lessJ_lt]; omega)
        go_wp2
        go_ret
        exact ⟨by rw [HV.out, HL.out]; rfl, hbc⟩

set_option maxRecDepth 100000 in
set_option maxHeartbeats 4000000 in
theorem refJohn_any (xs : List R2) (hn : xs.length ≤ 100) (w : World) (a : Option Addr) (cap : Nat) (hC : twosCheck xs = 0) (hx : Elems enc2 2 w a xs) :
    Calls Tryd.prog 39 #[.slice a xs.length cap] w fun e w' => ∃ a' n' cap' ys, e = .returned (.slice a' n' cap') ∧ n' = List.length ys ∧ Elems encI 1 w' a' ys ∧ Sorted (ltf (fJ xs)) xs.length ys ∧ Below w.heap.size w w' := by
  have habv : AbvOk 69 #[.pointer (some ⟨w.heap.size, 0, none⟩)] (ltf (fJ xs)) xs.length (w.heap.size + 1) (w.alloc (Obj.cells #[.slice a xs.length cap] 44)) := by
    intro w' hw' x y x0 x1 y0 y1
    have hba : Below w.heap.size w (w.alloc (Obj.cells #[.slice a xs.length cap] 44)) := (Below.refl _ _).alloc (Nat.le_refl _) _
    exact refJohnFn_any a xs.length cap w.heap.size xs x y w' hC rfl (hx.below (hba.trans (hw'.mono (by omega))) (Nat.le_refl _)) ((hw'.cell (p := ⟨w.heap.size, 0, none⟩) (show w.heap.size < w.heap.size + 1 by omega)).trans (by simp)) x0 x1 y0 y1
  have hi := insert_any 69 #[.pointer (some ⟨w.heap.size, 0, none⟩)] (ltf (fJ xs)) xs.length (w.alloc (Obj.cells #[.slice a xs.length cap] 44)) eg_refJohn1 (by simpa using habv) (swkJ xs) (by omega)
  have HI := Lib.hid hi
  clear hi habv hx
  go_enter Tryd.func39, Tryd.ntmps39
  go_wp2_with fail
  refine (HI.out).mono ?_
  rintro e w1 ⟨a', cap', r, rfl, h1, h2, h3, h4⟩
  have HZ := Lib.hid (show Elems encI 1 w1 a' (tab xs.length r) ∧ Sorted (ltf (fJ xs)) xs.length (tab xs.length r) from ⟨h1, r, rfl, h2, h3⟩)
  clear h1 h2 h3
  go_wp2
  go_ret
  exact ⟨_, _, _, _, rfl, (tab_len _ _).symm, HZ.out.1, HZ.out.2, ((Below.refl _ _).alloc (Nat.le_refl _) _).trans (h4.mono (by simp))⟩

set_option maxRecDepth 100000 in
set_option maxHeartbeats 4000000 in
theorem johnson_any (a : Option Addr) (n cap : Nat) (xs : List R2) (w : World) (hl : n = xs.length) (hn : xs.length ≤ 100) (hx : Elems enc2 2 w a xs) :
    Calls Tryd.prog 40 #[.slice a n cap] w fun e w' => ∃ a' n' cap' ys, e = .returned (.tuple #[.slice a' n' cap', errV (twosCheck xs)]) ∧ n' = List.length ys ∧ Elems encI 1 w' a' ys ∧
      (twosCheck xs = 0 → Sorted (ltf (fJ xs)) xs.length ys) ∧ (twosCheck xs ≠ 0 → ys = []) ∧ Below w.heap.size w w' := by
  subst hl
  have hba : Below w.heap.size w (w.alloc (Obj.cells #[.slice a xs.length cap] 43)) := (Below.refl _ _).alloc (Nat.le_refl _) _
  by_cases hC : twosCheck xs = 0
  case neg =>
    have hV : errV (twosCheck xs) = .iface 27 (.int .i64 (twosCheck xs)) := if_neg hC
    have HN := Lib.hid hC
    have HV := Lib.hid hV
    clear hC hV
    go_enter Tryd.func40, Tryd.ntmps40
    go_wp2_with fail
    refine (twosCheck_any _ _ _ xs _ rfl (by unfold maxLen; omega) (hx.at hba)).mono ?_
    rintro e w1 ⟨rfl, hb1⟩
    rw [HV.out]
    go_wp2
    go_ret2
    exact ⟨none, 0, 0, [], by rw [HV.out]; rfl, rfl, Or.inl rfl, fun h => absurd h HN.out, fun _ => rfl, hba.trans (hb1.mono hba.size)⟩
  have hV : errV (twosCheck xs) = .nilIface := if_pos hC
  have HV := Lib.hid hV
  have HK := Lib.hid hC
  suffices h : Calls Tryd.prog 40 #[.slice a xs.length cap] w fun e w' => ∃ a' n' cap' ys, e = .returned (.tuple #[.slice a' n' cap', .nilIface]) ∧ n' = List.length ys ∧ Elems encI 1 w' a' ys ∧ Sorted (ltf (fJ xs)) xs.length ys ∧ Below w.heap.size w w' by
    refine h.mono ?_
    rintro e w' ⟨a', n', cap', ys, h1, h2, h3, h4, h5⟩
    exact ⟨a', n', cap', ys, by rw [HV.out]; exact h1, h2, h3, fun _ => h4, fun h => absurd hC h, h5⟩
  clear hC hV
  go_enter Tryd.func40, Tryd.ntmps40
  go_wp2_with fail
  refine (twosCheck_any _ _ _ xs _ rfl (by unfold maxLen; omega) (hx.at hba)).mono ?_
  rintro e w1 ⟨rfl, hb1⟩
  rw [HV.out]
  have d1 := (hb1.cell (p := ⟨w.heap.size, 0, none⟩) (by simp)).trans (show (w.alloc (Obj.cells #[.slice a xs.length cap] 43)).cell? ⟨w.heap.size, 0, none⟩ = some (.slice a xs.length cap) by simp)
  have hb := hba.trans (hb1.mono hba.size)
  have hs1 := hb1.size
  have hg1 : w.heap.size + 1 ≤ w1.heap.size := by simp at hs1; omega
  clear hb1 hba hs1
  go_wp2_with (at_make; refine make_row _ rowI' rfl _ _ rfl w1.heap.size _ _ _ _ xs.length rfl rfl rfl rfl (by omega) (by unfold maxLen; omega) (Nat.le_refl _) ?_)
  intro w3 hown hb3
  rw [made_ints xs.length, fill_zero] at hown
  have hg3 := (owns_base hown).2
  have e1 := (hb3.cell (lt_of_cell d1)).trans d1
  have hbb := hb.trans (hb3.mono hb.size)
  have HXX := Lib.hid (show Elems enc2 2 w1 a xs ∧ Below w1.heap.size w1 w3 from ⟨hx.at hb, hb3⟩)
  clear d1 hb3 hb hx
  generalize hgq : w1.heap.size = g at *
  have HGQ := Lib.hid hgq
  clear hgq
  go_wp2
  go_loopw [17] (fun iv wr => ∃ k : Nat, k ≤ xs.length ∧ iv = .int .i64 k ∧ wr.ownsRow g 3 1 (.slice (some ⟨g, 0, none⟩) xs.length xs.length) xs.length (rowV xs.length (fillF k)) ∧ Below g w3 wr) (fun iv _ => xs.length - (intOf iv).toNat)
  case atStart => exact ⟨0, by omega, rfl, hown, Below.refl _ _⟩
  case round =>
    clear hown
    obtain ⟨k, hk, rfl, hown, hbw⟩ := hrel
    by_cases hlt : k < xs.length
    · have c1 := owns_at_tab hown (j := k) hlt
      have hf := hown.frozenAt k
      have hnew := owns_set hown k (k : Int)
      rw [fill_succ] at hnew
      have HN := Lib.hid hnew
      clear hnew hown
      generalize fillF k k = ov at c1
      go_wp2
      go_roundw
      case rel => exact ⟨k + 1, by omega, by go_num, HN.out, hbw.setCell (p := ⟨g, k, none⟩) (Nat.le_refl g) _⟩
      case measure => simp [intOf]; omega
    · obtain rfl : k = xs.length := by omega
      rw [fill_done] at hown
      have hcmp : CmpOk 70 #[.pointer (some ⟨w.heap.size, 0, none⟩)] (fJ xs) xs.length g wr := by
        intro w' hw' x y x0 x1 y0 y1
        have h2 := hbw.trans hw'
        exact johnFn_any a xs.length cap w.heap.size xs x y w' HK.out rfl (HXX.out.1.below (HXX.out.2.trans h2) (Nat.le_of_eq HGQ.out)) ((h2.cell (p := ⟨w.heap.size, 0, none⟩) (show w.heap.size < g by omega)).trans e1) x0 x1 y0 y1
      have hrng : RngF xs.length xs.length idF := fun t ht => ⟨by unfold idF; omega, by unfold idF; omega⟩
      have hsort := sortStable_any 70 _ (fJ xs) xs.length g xs.length xs.length g idF wr eg_john1 hcmp (swkJ xs) hown (by omega) hrng (fun s t hs _ => by unfold idF; omega)
      have HS := Lib.hid hsort
      clear hcmp hrng hsort hown
      go_wp2_with fail
      refine (HS.out).mono ?_
      rintro e w4 ⟨rfl, r', ho, hs, hown4, hb4⟩
      obtain ⟨a', cap', he0, he, _⟩ := ints_of_owns (tab_len _ _).symm hown4
      obtain ⟨rfl, hq, rfl⟩ := Value.slice.inj he0
      have HE := Lib.hid he
      have HZ := Lib.hid (show Sorted (ltf (fJ xs)) xs.length (tab xs.length r') from ⟨r', rfl, hs, ho⟩)
      clear hq he he0 hs ho hown4
      go_wp2
      go_ret2
      exact ⟨_, _, _, _, rfl, (tab_len _ _).symm, HE.out, HZ.out, hbb.trans ((hbw.trans hb4).mono (by omega))⟩

set_option maxRecDepth 100000 in
set_option maxHeartbeats 4000000 in
theorem shopJohnson_law (a : Option Addr) (n cap : Nat) (xs : List R2) (w : World) (hg : Hnd w) (hl : n = xs.length) (hn : n ≤ maxLen) (hx : Elems enc2 2 w a xs) :
    Calls Tryd.prog 9 #[.slice a n cap] w fun e w' => e = .returned (.bool true) ∧ Below w.heap.size w w' := by
  subst hl
  unfold maxLen at hn
  by_cases hA : 100 < xs.length
  · have hd : decide ((100 : Int) < (xs.length : Int)) = true := by simp; omega
    go_enter Tryd.func9, Tryd.ntmps9
    go_wp2
    go_ret
    exact ⟨rfl, Below.refl _ _⟩
  have hd : decide ((100 : Int) < (xs.length : Int)) = false := by simp; omega
  by_cases hC : twosCheck xs = 0
  case neg =>
    have hq : (twosCheck xs == 0) = false := by simpa using hC
    have HC := Lib.hid hC
    clear hC
    go_enter Tryd.func9, Tryd.ntmps9
    go_wp2_with fail
    refine (twos_any _ _ _ xs _ (by omega) rfl hx).mono ?_
    rintro e w1 ⟨a1, c1, rfl, he1, hb1⟩
    go_wp2_with fail
    refine (refTwos_any _ _ _ xs _ rfl (by unfold maxLen; omega) he1).mono ?_
    rintro e w2 ⟨rfl, hb2⟩
    have h02 := below_next hb1 hb2
    go_wp2_with fail
    refine (johnson_any _ _ _ xs _ rfl (by omega) (hx.at h02)).mono ?_
    rintro e w3 ⟨a3, n3, c3, zs, rfl, rfl, he3, hz0, hz1, hb3⟩
    have h03 := below_next h02 hb3
    have HZ := Lib.hid (hz1 HC.out)
    clear hz0 hz1
    go_wp2_with fail
    refine (ints_any (twosCheck xs) _ _ _ _ _ _ zs [] _ (hg.at h03) rfl rfl (by rw [HZ.out]; simp) (by simp) he3 (Or.inl rfl) (fun h => absurd h HC.out) (fun _ => by rw [HZ.out]; rfl)).mono ?_
    rintro e w4 ⟨rfl, hb4⟩
    go_wp2
    go_ret
    exact ⟨rfl, below_next h03 hb4⟩
  have hq : (twosCheck xs == 0) = true := by simpa using hC
  have HC := Lib.hid hC
  clear hC
  go_enter Tryd.func9, Tryd.ntmps9
  go_wp2_with fail
  refine (twos_any _ _ _ xs _ (by omega) rfl hx).mono ?_
  rintro e w1 ⟨a1, c1, rfl, he1, hb1⟩
  go_wp2_with fail
  refine (refTwos_any _ _ _ xs _ rfl (by unfold maxLen; omega) he1).mono ?_
  rintro e w2 ⟨rfl, hb2⟩
  have h02 := below_next hb1 hb2
  go_wp2_with fail
  refine (refJohn_any xs (by omega) _ _ _ HC.out (he1.at hb2)).mono ?_
  rintro e w3 ⟨a2, n2, c2, ys, rfl, hqq, he2, hs2, hb3⟩
  subst hqq
  have h03 := below_next h02 hb3
  have HS2 := Lib.hid hs2
  clear hs2
  go_wp2_with fail
  refine (johnson_any _ _ _ xs _ rfl (by omega) (hx.at h03)).mono ?_
  rintro e w4 ⟨a4, n4, c4, zs, rfl, rfl, he4, hz0, hz1, hb4⟩
  have h04 := below_next h03 hb4
  have HZ := Lib.hid (hz0 HC.out)
  clear hz0 hz1
  go_wp2_with fail
  refine (ints_any (twosCheck xs) _ _ _ _ _ _ zs ys _ (hg.at h04) rfl rfl (by rw [HZ.out.len]; omega) (by rw [HS2.out.len]; omega) he4 (he2.at hb4) (fun _ => HZ.out.one (swkJ xs) HS2.out) (fun h => absurd HC.out h)).mono ?_
  rintro e w5 ⟨rfl, hb5⟩
  go_wp2
  go_ret
  exact ⟨rfl, below_next h04 hb5⟩
end Go.Proofs.YtgcocjfbppkgbaaDoor
