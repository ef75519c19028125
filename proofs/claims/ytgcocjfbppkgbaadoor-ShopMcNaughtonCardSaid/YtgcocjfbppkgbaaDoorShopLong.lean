/- The row of the longest first: shop.Longest and the reference's. -/
import Derived.Test.YtgcocjfbppkgbaaDoorContF
import Derived.Test.YtgcocjfbppkgbaaDoorSame
import Derived.BigQuiet
import Derived.Deep.QuietTactic
namespace Go.Proofs.YtgcocjfbppkgbaaDoor
open Go.RowKit

/-- 10.2: what is wrong with lengths and machines. -/
def outL (x : Int) : Bool := decide (x < 0) || decide (1000000000 < x)
def lenErr (xs : List Int) (m : Int) : Int := if m < 1 ∨ 20 < m ∨ 60 < xs.length then 4 else if xs.any outL = true then 2 else 0
theorem len_ok {xs : List Int} {m : Int} (h : lenErr xs m = 0) : 1 ≤ m ∧ m ≤ 20 ∧ xs.length ≤ 60 ∧ ∀ x ∈ xs, 0 ≤ x ∧ x ≤ 1000000000 := by
  unfold lenErr at h
  by_cases h1 : m < 1 ∨ 20 < m ∨ 60 < xs.length
  · rw [if_pos h1] at h; omega
  · rw [if_neg h1] at h
    by_cases h2 : xs.any outL = true
    · rw [if_pos h2] at h; omega
    · refine ⟨by omega, by omega, by omega, fun x hx => ?_⟩
      have h3 : outL x = false := by
        cases h4 : outL x with
        | false => rfl
        | true => exact absurd (List.any_eq_true.2 ⟨x, hx, h4⟩) h2
      simp only [outL, Bool.or_eq_false_iff, decide_eq_false_iff_not] at h3
      omega
theorem outL_any (x : Int) (w : World) : Calls Tryd.prog 85 #[.int .i64 x] w fun e w' => e = .returned (.bool (outL x)) ∧ Below w.heap.size w w' := by
  by_cases h1 : x < 0
  · have HB : Hid (outL x = true) := Lib.hid (by simp [outL, h1])
    go_enter Tryd.func85, Tryd.ntmps85
    go_wp2
    go_ret
    exact ⟨by rw [HB.out]; rfl, Below.refl _ _⟩
  · by_cases h2 : 1000000000 < x
    · have HB : Hid (outL x = true) := Lib.hid (by simp [outL, h2])
      go_enter Tryd.func85, Tryd.ntmps85
      go_wp2
      go_ret
      exact ⟨by rw [HB.out]; rfl, Below.refl _ _⟩
    · have HB : Hid (outL x = false) := Lib.hid (by simp [outL]; omega)
      go_enter Tryd.func85, Tryd.ntmps85
      go_wp2
      go_ret
      exact ⟨by rw [HB.out]; rfl, Below.refl _ _⟩
theorem eg_len : ∀ args w, (callFunc 85 args).run Tryd.prog w = .ok (.enter 85 args) w := enter_of Tryd.func85 (by kernel_rfl) rfl

set_option maxRecDepth 100000 in
set_option maxHeartbeats 4000000 in
theorem lengths_any (a : Option Addr) (n cap : Nat) (m : Int) (xs : List Int) (w : World) (hl : n = xs.length) (hn : xs.length ≤ 1000) (hx : Elems encI 1 w a xs) :
    Calls Tryd.prog 61 #[.slice a n cap, .int .i64 m] w fun e w' => e = .returned (errV (lenErr xs m)) ∧ Below w.heap.size w w' := by
  subst hl
  by_cases h1 : m < 1 ∨ 20 < m ∨ 60 < xs.length
  · have HR : Hid (lenErr xs m = 4) := Lib.hid (if_pos h1)
    by_cases g1 : m < 1
    · clear h1
      go_enter Tryd.func61, Tryd.ntmps61
      go_wp2
      go_ret
      exact ⟨by rw [HR.out]; rfl, Below.refl _ _⟩
    · by_cases g2 : 20 < m
      · clear h1
        go_enter Tryd.func61, Tryd.ntmps61
        go_wp2
        go_ret
        exact ⟨by rw [HR.out]; rfl, Below.refl _ _⟩
      · have g3 : (60 : Int) < (xs.length : Int) := by omega
        have hd : decide ((60 : Int) < (xs.length : Int)) = true := by simp; omega
        clear h1
        go_enter Tryd.func61, Tryd.ntmps61
        go_wp2
        go_ret
        exact ⟨by rw [HR.out]; rfl, Below.refl _ _⟩
  · have g1 : ¬ m < 1 := by omega
    have g2 : ¬ 20 < m := by omega
    have hd : decide ((60 : Int) < (xs.length : Int)) = false := by simp; omega
    have hcf := containsF_any 85 #[] outL a xs.length cap xs w eg_len (fun w' _ x _ => outL_any x w') rfl hn hx
    have HCF := Lib.hid hcf
    have HR : Hid (lenErr xs m = if xs.any outL = true then 2 else 0) := Lib.hid (if_neg h1)
    clear h1 hcf
    cases hb : xs.any outL with
    | true =>
      have HB := Lib.hid hb
      clear hb
      go_enter Tryd.func61, Tryd.ntmps61
      go_wp2_with fail
      refine (HCF.out).mono ?_
      rintro e w1 ⟨rfl, hb1⟩
      rw [HB.out]
      go_wp2
      go_ret
      exact ⟨by rw [HR.out, HB.out]; rfl, hb1⟩
    | false =>
      have HB := Lib.hid hb
      clear hb
      go_enter Tryd.func61, Tryd.ntmps61
      go_wp2_with fail
      refine (HCF.out).mono ?_
      rintro e w1 ⟨rfl, hb1⟩
      rw [HB.out]
      go_wp2
      go_ret
      exact ⟨by rw [HR.out, HB.out]; rfl, hb1⟩

theorem any_take {xs : List Int} {k : Nat} (h : k < xs.length) (hq : (xs.take k).any outL = false) (hk : outL xs[k] = false) : (xs.take (k + 1)).any outL = false := by
  rw [List.take_succ_eq_append_getElem h, List.any_append, hq]
  simp [hk]
set_option maxRecDepth 100000 in
set_option maxHeartbeats 4000000 in
theorem refLengths_any (a : Option Addr) (n cap : Nat) (m : Int) (xs : List Int) (w : World) (hl : n = xs.length) (hn : xs.length ≤ 1000) (hx : Elems encI 1 w a xs) :
    Calls Tryd.prog 31 #[.slice a n cap, .int .i64 m] w fun e w' => e = .returned (.int .i64 (lenErr xs m)) ∧ Below w.heap.size w w' := by
  subst hl
  by_cases h1 : m < 1 ∨ 20 < m ∨ 60 < xs.length
  · have HR : Hid (lenErr xs m = 4) := Lib.hid (if_pos h1)
    by_cases g1 : m < 1
    · clear h1
      go_enter Tryd.func31, Tryd.ntmps31
      go_wp2
      go_ret
      exact ⟨by rw [HR.out]; rfl, Below.refl _ _⟩
    · by_cases g2 : 20 < m
      · clear h1
        go_enter Tryd.func31, Tryd.ntmps31
        go_wp2
        go_ret
        exact ⟨by rw [HR.out]; rfl, Below.refl _ _⟩
      · have g3 : (60 : Int) < (xs.length : Int) := by omega
        have hd : decide ((60 : Int) < (xs.length : Int)) = true := by simp; omega
        clear h1
        go_enter Tryd.func31, Tryd.ntmps31
        go_wp2
        go_ret
        exact ⟨by rw [HR.out]; rfl, Below.refl _ _⟩
  · have g1 : ¬ m < 1 := by omega
    have g2 : ¬ 20 < m := by omega
    have hd : decide ((60 : Int) < (xs.length : Int)) = false := by simp; omega
    have HR : Hid (lenErr xs m = if xs.any outL = true then 2 else 0) := Lib.hid (if_neg h1)
    clear h1
    go_enter Tryd.func31, Tryd.ntmps31
    go_wp2
    go_loop [20] (fun i => ∃ k : Nat, k ≤ xs.length ∧ i = .int .i64 k ∧ Hid ((xs.take k).any outL = false)) (fun i => xs.length - (intOf i).toNat)
    case atStart => exact ⟨0, by omega, rfl, Lib.hid (by simp)⟩
    case round =>
      obtain ⟨k, hk, rfl, HQ⟩ := hrel
      by_cases hlt : k < xs.length
      · obtain ⟨b, o, rfl, hc⟩ := hx.some hlt
        have c1 := hc k hlt 0 _ rfl
        simp only [Nat.add_zero, Nat.mul_one] at c1
        clear hc hx
        by_cases b1 : xs[k] < 0 ∨ 1000000000 < xs[k]
        · have HE : Hid (lenErr xs m = 2) := Lib.hid (by
            rw [HR.out, if_pos]
            exact List.any_eq_true.2 ⟨_, List.getElem_mem hlt, by simp only [outL, Bool.or_eq_true, decide_eq_true_eq]; exact b1⟩)
          rcases b1 with b1 | b1
          · go_wp2
            go_ret
            exact ⟨by rw [HE.out]; rfl, Below.refl _ _⟩
          · have b2 : ¬ xs[k] < 0 := by omega
            go_wp2
            go_ret
            exact ⟨by rw [HE.out]; rfl, Below.refl _ _⟩
        · have HT : Hid ((xs.take (k + 1)).any outL = false) := Lib.hid (any_take hlt HQ.out (by simp only [outL, Bool.or_eq_false_iff, decide_eq_false_iff_not]; omega))
          have b2 : ¬ xs[k] < 0 := by omega
          have b3 : ¬ 1000000000 < xs[k] := by omega
          clear b1
          go_wp2
          go_round
          case rel => exact ⟨k + 1, by omega, by go_num, HT⟩
          case measure => simp [intOf]; omega
      · obtain rfl : k = xs.length := by omega
        have HE : Hid (lenErr xs m = 0) := Lib.hid (by rw [HR.out, if_neg]; have := HQ.out; rw [List.take_length] at this; simp [this])
        clear hx
        go_wp2
        go_ret
        exact ⟨by rw [HE.out]; rfl, Below.refl _ _⟩

def atI (xs : List Int) (x : Int) : Int := xs.getD x.toNat 0
theorem atI_nat {xs : List Int} {k : Nat} (h : k < xs.length) : atI xs k = xs[k] := by simp [atI, List.getD, h]
def fL (xs : List Int) (x y : Int) : Int := atI xs y - atI xs x
theorem swkL (xs : List Int) : SWk (ltf (fL xs)) := by
  constructor
  · intro x y h
    rw [ltf_true] at h
    rw [ltf_false]
    unfold fL at *
    omega
  · intro x y z h
    rw [ltf_true] at h
    rw [ltf_true, ltf_true]
    unfold fL at *
    omega
theorem eg_long1 : ∀ args w, (callFunc 68 args).run Tryd.prog w = .ok (.enter 68 args) w := enter_of Tryd.func68 (by kernel_rfl) rfl
theorem eg_refLong1 : ∀ args w, (callFunc 66 args).run Tryd.prog w = .ok (.enter 66 args) w := enter_of Tryd.func66 (by kernel_rfl) rfl

set_option maxRecDepth 100000 in
set_option maxHeartbeats 4000000 in
theorem longFn_any (a : Option Addr) (n cap b2 : Nat) (xs : List Int) (x y : Int) (w : World) (hb : ∀ x ∈ xs, 0 ≤ x ∧ x ≤ 1000000000)
    (hl : n = xs.length) (hx : Elems encI 1 w a xs) (c2 : w.cell? ⟨b2, 0, none⟩ = some (.slice a n cap)) (x0 : 0 ≤ x) (x1 : x < n) (y0 : 0 ≤ y) (y1 : y < n) :
    Calls Tryd.prog 68 #[.int .i64 x, .int .i64 y, .pointer (some ⟨b2, 0, none⟩)] w fun e w' => e = .returned (.int .i64 (fL xs x y)) ∧ Below w.heap.size w w' := by
  subst hl
  obtain ⟨i, rfl⟩ := Int.eq_ofNat_of_zero_le x0
  obtain ⟨k, rfl⟩ := Int.eq_ofNat_of_zero_le y0
  have hi : i < xs.length := by omega
  have hk : k < xs.length := by omega
  obtain ⟨b, o, rfl, hc⟩ := hx.some hi
  have p := hc i hi 0 _ rfl
  have q := hc k hk 0 _ rfl
  simp only [Nat.add_zero, Nat.mul_one] at p q
  have HV : Hid (fL xs i k = xs[k] - xs[i]) := Lib.hid (by unfold fL; rw [atI_nat hi, atI_nat hk])
  have b1 := hb _ (List.getElem_mem hi)
  have b2' := hb _ (List.getElem_mem hk)
  clear hc hx hb
  generalize xs[i] = pv at *
  generalize xs[k] = qv at *
  obtain ⟨b3, b4⟩ := b1
  obtain ⟨b5, b6⟩ := b2'
  have hi2 : (i : Int) < (xs.length : Int) := by omega
  have hk2 : (k : Int) < (xs.length : Int) := by omega
  have hwr : IntKind.i64.wrap (qv - pv) = qv - pv := IntWalk.i64_in _ (by omega)
  go_enter Tryd.func68, Tryd.ntmps68
  go_wp2
  go_quiet (fail)
  clear hwr
  go_wp2
  go_ret
  exact ⟨by rw [HV.out]; rfl, below_drewN _ _ _⟩

set_option maxRecDepth 100000 in
set_option maxHeartbeats 4000000 in
theorem refLongFn_any (a : Option Addr) (n cap b2 : Nat) (xs : List Int) (x y : Int) (w : World)
    (hl : n = xs.length) (hx : Elems encI 1 w a xs) (c2 : w.cell? ⟨b2, 0, none⟩ = some (.slice a n cap)) (x0 : 0 ≤ x) (x1 : x < n) (y0 : 0 ≤ y) (y1 : y < n) :
    Calls Tryd.prog 66 #[.int .i64 x, .int .i64 y, .pointer (some ⟨b2, 0, none⟩)] w fun e w' => e = .returned (.bool (ltf (fL xs) y x)) ∧ Below w.heap.size w w' := by
  subst hl
  obtain ⟨i, rfl⟩ := Int.eq_ofNat_of_zero_le x0
  obtain ⟨k, rfl⟩ := Int.eq_ofNat_of_zero_le y0
  have hi : i < xs.length := by omega
  have hk : k < xs.length := by omega
  obtain ⟨b, o, rfl, hc⟩ := hx.some hi
  have p := hc i hi 0 _ rfl
  have q := hc k hk 0 _ rfl
  simp only [Nat.add_zero, Nat.mul_one] at p q
  have HV : Hid (ltf (fL xs) k i = decide (xs[i] < xs[k])) := Lib.hid (by unfold ltf fL; rw [atI_nat hi, atI_nat hk]; congr 1; simp; omega)
  clear hc hx
  generalize xs[i] = pv at *
  generalize xs[k] = qv at *
  have hi2 : (i : Int) < (xs.length : Int) := by omega
  have hk2 : (k : Int) < (xs.length : Int) := by omega
  go_enter Tryd.func66, Tryd.ntmps66
  go_wp2
  go_quiet (fail)
  go_wp2
  go_ret
  exact ⟨by rw [HV.out]; rfl, below_drewN _ _ _⟩

set_option maxRecDepth 100000 in
set_option maxHeartbeats 4000000 in
theorem refLong_any (xs : List Int) (hn : xs.length ≤ 100) (w : World) (a : Option Addr) (cap : Nat) (hx : Elems encI 1 w a xs) :
    Calls Tryd.prog 37 #[.slice a xs.length cap] w fun e w' => ∃ a' n' cap' ys, e = .returned (.slice a' n' cap') ∧ n' = List.length ys ∧ Elems encI 1 w' a' ys ∧ Sorted (ltf (fL xs)) xs.length ys ∧ Below w.heap.size w w' := by
  have habv : AbvOk 66 #[.pointer (some ⟨w.heap.size, 0, none⟩)] (ltf (fL xs)) xs.length (w.heap.size + 1) (w.alloc (Obj.cells #[.slice a xs.length cap] 37)) := by
    intro w' hw' x y x0 x1 y0 y1
    have hba : Below w.heap.size w (w.alloc (Obj.cells #[.slice a xs.length cap] 37)) := (Below.refl _ _).alloc (Nat.le_refl _) _
    exact refLongFn_any a xs.length cap w.heap.size xs x y w' rfl (hx.below (hba.trans (hw'.mono (by omega))) (Nat.le_refl _)) ((hw'.cell (p := ⟨w.heap.size, 0, none⟩) (show w.heap.size < w.heap.size + 1 by omega)).trans (by simp)) x0 x1 y0 y1
  have hi := insert_any 66 #[.pointer (some ⟨w.heap.size, 0, none⟩)] (ltf (fL xs)) xs.length (w.alloc (Obj.cells #[.slice a xs.length cap] 37)) eg_refLong1 (by simpa using habv) (swkL xs) (by omega)
  have HI := Lib.hid hi
  clear hi habv hx
  go_enter Tryd.func37, Tryd.ntmps37
  go_wp2_with fail
  refine (HI.out).mono ?_
  rintro e w1 ⟨a', cap', r, rfl, h1, h2, h3, h4⟩
  have HZ := Lib.hid (show Elems encI 1 w1 a' (tab xs.length r) ∧ Sorted (ltf (fL xs)) xs.length (tab xs.length r) from ⟨h1, r, rfl, h2, h3⟩)
  clear h1 h2 h3
  go_wp2
  go_ret
  exact ⟨_, _, _, _, rfl, (tab_len _ _).symm, HZ.out.1, HZ.out.2, ((Below.refl _ _).alloc (Nat.le_refl _) _).trans (h4.mono (by simp))⟩

set_option maxRecDepth 100000 in
set_option maxHeartbeats 4000000 in
theorem longest_any (a : Option Addr) (n cap : Nat) (xs : List Int) (w : World) (hl : n = xs.length) (hn : xs.length ≤ 100) (hx : Elems encI 1 w a xs) :
    Calls Tryd.prog 38 #[.slice a n cap] w fun e w' => ∃ a' n' cap' ys, e = .returned (.tuple #[.slice a' n' cap', errV (lenErr xs 1)]) ∧ n' = List.length ys ∧ Elems encI 1 w' a' ys ∧
      (lenErr xs 1 = 0 → Sorted (ltf (fL xs)) xs.length ys) ∧ (lenErr xs 1 ≠ 0 → ys = []) ∧ Below w.heap.size w w' := by
  subst hl
  have hba : Below w.heap.size w (w.alloc (Obj.cells #[.slice a xs.length cap] 37)) := (Below.refl _ _).alloc (Nat.le_refl _) _
  by_cases hC : lenErr xs 1 = 0
  case neg =>
    have hV : errV (lenErr xs 1) = .iface 27 (.int .i64 (lenErr xs 1)) := if_neg hC
    have HN := Lib.hid hC
    have HV := Lib.hid hV
    clear hC hV
    go_enter Tryd.func38, Tryd.ntmps38
    go_wp2_with fail
    refine (lengths_any _ _ _ 1 xs _ rfl (by omega) (hx.at hba)).mono ?_
    rintro e w1 ⟨rfl, hb1⟩
    rw [HV.out]
    go_wp2
    go_ret2
    exact ⟨none, 0, 0, [], by rw [HV.out]; rfl, rfl, Or.inl rfl, fun h => absurd h HN.out, fun _ => rfl, hba.trans (hb1.mono hba.size)⟩
  have hV : errV (lenErr xs 1) = .nilIface := if_pos hC
  have HV := Lib.hid hV
  have HK := Lib.hid (len_ok hC)
  suffices h : Calls Tryd.prog 38 #[.slice a xs.length cap] w fun e w' => ∃ a' n' cap' ys, e = .returned (.tuple #[.slice a' n' cap', .nilIface]) ∧ n' = List.length ys ∧ Elems encI 1 w' a' ys ∧ Sorted (ltf (fL xs)) xs.length ys ∧ Below w.heap.size w w' by
    refine h.mono ?_
    rintro e w' ⟨a', n', cap', ys, h1, h2, h3, h4, h5⟩
    exact ⟨a', n', cap', ys, by rw [HV.out]; exact h1, h2, h3, fun _ => h4, fun h => absurd hC h, h5⟩
  clear hC hV
  go_enter Tryd.func38, Tryd.ntmps38
  go_wp2_with fail
  refine (lengths_any _ _ _ 1 xs _ rfl (by omega) (hx.at hba)).mono ?_
  rintro e w1 ⟨rfl, hb1⟩
  rw [HV.out]
  have d1 := (hb1.cell (p := ⟨w.heap.size, 0, none⟩) (by simp)).trans (show (w.alloc (Obj.cells #[.slice a xs.length cap] 37)).cell? ⟨w.heap.size, 0, none⟩ = some (.slice a xs.length cap) by simp)
  have hb := hba.trans (hb1.mono hba.size)
  have hs1 := hb1.size
  have hg1 : w.heap.size + 1 ≤ w1.heap.size := by simp at hs1; omega
  clear hb1 hba hs1
  go_wp2_with (at_make; refine make_row _ rowI' rfl _ _ rfl w1.heap.size _ _ _ _ xs.length rfl rfl rfl rfl (by omega) (by unfold maxLen; omega) (Nat.le_refl _) ?_)
  intro w3 hown hb3
  rw [made_ints xs.length, fill_zero] at hown
  have hg3 := (owns_base hown).2
  have e1 := (hb3.cell (lt_of_cell d1)).trans d1
  have hbb := hb.trans (hb3.mono hb.size)
  have HXX := Lib.hid (show Elems encI 1 w1 a xs ∧ Below w1.heap.size w1 w3 from ⟨hx.at hb, hb3⟩)
  clear d1 hb3 hb hx
  generalize hgq : w1.heap.size = g at *
  have HGQ := Lib.hid hgq
  clear hgq
  go_wp2
  go_loopw [17] (fun iv wr => ∃ k : Nat, k ≤ xs.length ∧ iv = .int .i64 k ∧ wr.ownsRow g 3 1 (.slice (some ⟨g, 0, none⟩) xs.length xs.length) xs.length (rowV xs.length (fillF k)) ∧ Below g w3 wr) (fun iv _ => xs.length - (intOf iv).toNat)
  case atStart => exact ⟨0, by omega, rfl, hown, Below.refl _ _⟩
  case round =>
    clear hown
    obtain ⟨k, hk, rfl, hown, hbw⟩ := hrel
    by_cases hlt : k < xs.length
    · have c1 := owns_at_tab hown (j := k) hlt
      have hf := hown.frozenAt k
      have hnew := owns_set hown k (k : Int)
      rw [fill_succ] at hnew
      have HN := Lib.hid hnew
      clear hnew hown
      generalize fillF k k = ov at c1
      go_wp2
      go_roundw
      case rel => exact ⟨k + 1, by omega, by go_num, HN.out, hbw.setCell (p := ⟨g, k, none⟩) (Nat.le_refl g) _⟩
      case measure => simp [intOf]; omega
    · obtain rfl : k = xs.length := by omega
      rw [fill_done] at hown
      have hcmp : CmpOk 68 #[.pointer (some ⟨w.heap.size, 0, none⟩)] (fL xs) xs.length g wr := by
        intro w' hw' x y x0 x1 y0 y1
        have h2 := hbw.trans hw'
        exact longFn_any a xs.length cap w.heap.size xs x y w' HK.out.2.2.2 rfl (HXX.out.1.below (HXX.out.2.trans h2) (Nat.le_of_eq HGQ.out)) ((h2.cell (p := ⟨w.heap.size, 0, none⟩) (show w.heap.size < g by omega)).trans e1) x0 x1 y0 y1
      have hrng : RngF xs.length xs.length idF := fun t ht => ⟨by unfold idF; omega, by unfold idF; omega⟩
      have hsort := sortStable_any 68 _ (fL xs) xs.length g xs.length xs.length g idF wr eg_long1 hcmp (swkL xs) hown (by omega) hrng (fun s t hs _ => by unfold idF; omega)
      have HS := Lib.hid hsort
      clear hcmp hrng hsort hown
      go_wp2_with fail
      refine (HS.out).mono ?_
      rintro e w4 ⟨rfl, r', ho, hs, hown4, hb4⟩
      obtain ⟨a', cap', he0, he, _⟩ := ints_of_owns (tab_len _ _).symm hown4
      obtain ⟨rfl, hq, rfl⟩ := Value.slice.inj he0
      have HE := Lib.hid he
      have HZ := Lib.hid (show Sorted (ltf (fL xs)) xs.length (tab xs.length r') from ⟨r', rfl, hs, ho⟩)
      clear hq he he0 hs ho hown4
      go_wp2
      go_ret2
      exact ⟨_, _, _, _, rfl, (tab_len _ _).symm, HE.out, HZ.out, hbb.trans ((hbw.trans hb4).mono (by omega))⟩

set_option maxRecDepth 100000 in
set_option maxHeartbeats 4000000 in
theorem shopLongest_law (a : Option Addr) (n cap : Nat) (xs : List Int) (w : World) (hg : Hnd w) (hl : n = xs.length) (hn : n ≤ maxLen) (hx : Elems encI 1 w a xs) :
    Calls Tryd.prog 8 #[.slice a n cap] w fun e w' => e = .returned (.bool true) ∧ Below w.heap.size w w' := by
  subst hl
  unfold maxLen at hn
  by_cases hA : 100 < xs.length
  · have hd : decide ((100 : Int) < (xs.length : Int)) = true := by simp; omega
    go_enter Tryd.func8, Tryd.ntmps8
    go_wp2
    go_ret
    exact ⟨rfl, Below.refl _ _⟩
  have hd : decide ((100 : Int) < (xs.length : Int)) = false := by simp; omega
  by_cases hC : lenErr xs 1 = 0
  case neg =>
    have hq : (lenErr xs 1 == 0) = false := by simpa using hC
    have HC := Lib.hid hC
    clear hC
    go_enter Tryd.func8, Tryd.ntmps8
    go_wp2_with fail
    refine (refLengths_any _ _ _ 1 xs _ rfl (by omega) hx).mono ?_
    rintro e w1 ⟨rfl, hb1⟩
    go_wp2_with fail
    refine (longest_any _ _ _ xs _ rfl (by omega) (hx.at hb1)).mono ?_
    rintro e w2 ⟨a1, n1, c1, zs, rfl, rfl, he1, hz0, hz1, hb2⟩
    have h02 := below_next hb1 hb2
    have HZ := Lib.hid (hz1 HC.out)
    clear hz0 hz1
    go_wp2_with fail
    refine (ints_any (lenErr xs 1) _ _ _ _ _ _ zs [] _ (hg.at h02) rfl rfl (by rw [HZ.out]; simp) (by simp) he1 (Or.inl rfl) (fun h => absurd h HC.out) (fun _ => by rw [HZ.out]; rfl)).mono ?_
    rintro e w3 ⟨rfl, hb3⟩
    go_wp2
    go_ret
    exact ⟨rfl, below_next h02 hb3⟩
  have hq : (lenErr xs 1 == 0) = true := by simpa using hC
  have HC := Lib.hid hC
  clear hC
  go_enter Tryd.func8, Tryd.ntmps8
  go_wp2_with fail
  refine (refLengths_any _ _ _ 1 xs _ rfl (by omega) hx).mono ?_
  rintro e w1 ⟨rfl, hb1⟩
  go_wp2_with fail
  refine (refLong_any xs (by omega) _ _ _ (hx.at hb1)).mono ?_
  rintro e w2 ⟨a2, n2, c2, ys, rfl, hqq, he2, hs2, hb2⟩
  subst hqq
  have h02 := below_next hb1 hb2
  have HS2 := Lib.hid hs2
  clear hs2
  go_wp2_with fail
  refine (longest_any _ _ _ xs _ rfl (by omega) (hx.at h02)).mono ?_
  rintro e w3 ⟨a1, n1, c1, zs, rfl, rfl, he1, hz0, hz1, hb3⟩
  have h03 := below_next h02 hb3
  have HZ := Lib.hid (hz0 HC.out)
  clear hz0 hz1
  go_wp2_with fail
  refine (ints_any (lenErr xs 1) _ _ _ _ _ _ zs ys _ (hg.at h03) rfl rfl (by rw [HZ.out.len]; omega) (by rw [HS2.out.len]; omega) he1 (he2.at hb3) (fun _ => HZ.out.one (swkL xs) HS2.out) (fun h => absurd HC.out h)).mono ?_
  rintro e w4 ⟨rfl, hb4⟩
  go_wp2
  go_ret
  exact ⟨rfl, below_next h03 hb4⟩
end Go.Proofs.YtgcocjfbppkgbaaDoor
