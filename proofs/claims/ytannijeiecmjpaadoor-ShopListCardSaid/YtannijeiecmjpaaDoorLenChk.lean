/- What is wrong with lengths and machines: shop.lengths and the reference's. -/
import Derived.Test.YtannijeiecmjpaaDoorContP
import Derived.Test.YtannijeiecmjpaaDoorTell
import Derived.BigQuiet
import Derived.Deep.QuietTactic
namespace Go.Proofs.YtannijeiecmjpaaDoor
open Go.RowKit

/-- 10.2: what is wrong with lengths and machines. -/
def outL (x : Int) : Bool := decide (x < 0) || decide (1000000000 < x)
def lenErr (xs : List Int) (m : Int) : Int := if m < 1 ∨ 20 < m ∨ 60 < xs.length then 4 else if xs.any outL = true then 2 else 0
theorem len_ok {xs : List Int} {m : Int} (h : lenErr xs m = 0) : 1 ≤ m ∧ m ≤ 20 ∧ xs.length ≤ 60 ∧ ∀ x ∈ xs, 0 ≤ x ∧ x ≤ 1000000000 := by
  unfold lenErr at h
  by_cases h1 : m < 1 ∨ 20 < m ∨ 60 < xs.length
  · rw [if_pos h1] at h; omega
  · rw [if_neg h1] at h
    by_cases h2 : xs.any outL = true
    · rw [if_pos h2] at h; omega
    · refine ⟨by omega, by omega, by omega, fun x hx => ?_⟩
      have h3 : outL x = false := by
        cases h4 : outL x with
        | false => rfl
        | true => exact absurd (List.any_eq_true.2 ⟨x, hx, h4⟩) h2
      simp only [outL, Bool.or_eq_false_iff, decide_eq_false_iff_not] at h3
      omega
theorem outL_any (x : Int) (w : World) : Calls Tryd.prog 59 #[.int .i64 x] w fun e w' => e = .returned (.bool (outL x)) ∧ Below w.heap.size w w' := by
  by_cases h1 : x < 0
  · have HB : Hid (outL x = true) := Lib.hid (by simp [outL, h1])
    go_enter Tryd.func59, Tryd.ntmps59
    go_wp2
    go_ret
    exact ⟨by rw [HB.out]; rfl, Below.refl _ _⟩
  · by_cases h2 : 1000000000 < x
    · have HB : Hid (outL x = true) := Lib.hid (by simp [outL, h2])
      go_enter Tryd.func59, Tryd.ntmps59
      go_wp2
      go_ret
      exact ⟨by rw [HB.out]; rfl, Below.refl _ _⟩
    · have HB : Hid (outL x = false) := Lib.hid (by simp [outL]; omega)
      go_enter Tryd.func59, Tryd.ntmps59
      go_wp2
      go_ret
      exact ⟨by rw [HB.out]; rfl, Below.refl _ _⟩
theorem eg_len : ∀ args w, (callFunc 59 args).run Tryd.prog w = .ok (.enter 59 args) w := fun args w => by kernel_rfl

set_option maxRecDepth 100000 in
set_option maxHeartbeats 4000000 in
theorem lengths_any (a : Option Addr) (n cap : Nat) (m : Int) (xs : List Int) (w : World) (hl : n = xs.length) (hn : xs.length ≤ 1000) (hx : Elems encI 1 w a xs) :
    Calls Tryd.prog 37 #[.slice a n cap, .int .i64 m] w fun e w' => e = .returned (errV (lenErr xs m)) ∧ Below w.heap.size w w' := by
  subst hl
  by_cases h1 : m < 1 ∨ 20 < m ∨ 60 < xs.length
  · have HR : Hid (lenErr xs m = 4) := Lib.hid (if_pos h1)
    by_cases g1 : m < 1
    · clear h1
      go_enter Tryd.func37, Tryd.ntmps37
      go_wp2
      go_ret
      exact ⟨by rw [HR.out]; rfl, Below.refl _ _⟩
    · by_cases g2 : 20 < m
      · clear h1
        go_enter Tryd.func37, Tryd.ntmps37
        go_wp2
        go_ret
        exact ⟨by rw [HR.out]; rfl, Below.refl _ _⟩
      · have g3 : (60 : Int) < (xs.length : Int) := by omega
        have hd : decide ((60 : Int) < (xs.length : Int)) = true := by simp; omega
        clear h1
        go_enter Tryd.func37, Tryd.ntmps37
        go_wp2
        go_ret
        exact ⟨by rw [HR.out]; rfl, Below.refl _ _⟩
  · have g1 : ¬ m < 1 := by omega
    have g2 : ¬ 20 < m := by omega
    have hd : decide ((60 : Int) < (xs.length : Int)) = false := by simp; omega
    have hcf := containsF_any 59 #[] outL a xs.length cap xs w eg_len (fun w' _ x _ => outL_any x w') rfl hn hx
    have HCF := Lib.hid hcf
    have HR : Hid (lenErr xs m = if xs.any outL = true then 2 else 0) := Lib.hid (if_neg h1)
    clear h1 hcf
    cases hb : xs.any outL with
    | true =>
      have HB := Lib.hid hb
      clear hb
      go_enter Tryd.func37, Tryd.ntmps37
      go_wp2_with fail
      refine (HCF.out).mono ?_
      rintro e w1 ⟨rfl, hb1⟩
      rw [HB.out]
      go_wp2
      go_ret
      exact ⟨by rw [HR.out, HB.out]; rfl, hb1⟩
    | false =>
      have HB := Lib.hid hb
      clear hb
      go_enter Tryd.func37, Tryd.ntmps37
      go_wp2_with fail
      refine (HCF.out).mono ?_
      rintro e w1 ⟨rfl, hb1⟩
      rw [HB.out]
      go_wp2
      go_ret
      exact ⟨by rw [HR.out, HB.out]; rfl, hb1⟩

theorem any_take {xs : List Int} {k : Nat} (h : k < xs.length) (hq : (xs.take k).any outL = false) (hk : outL xs[k] = false) : (xs.take (k + 1)).any outL = false := by
  rw [List.take_succ_eq_append_getElem h, List.any_append, hq]
  simp [hk]
set_option maxRecDepth 100000 in
set_option maxHeartbeats 4000000 in
theorem refLengths_any (a : Option Addr) (n cap : Nat) (m : Int) (xs : List Int) (w : World) (hl : n = xs.length) (hn : xs.length ≤ 1000) (hx : Elems encI 1 w a xs) :
    Calls Tryd.prog 12 #[.slice a n cap, .int .i64 m] w fun e w' => e = .returned (.int .i64 (lenErr xs m)) ∧ Below w.heap.size w w' := by
  subst hl
  by_cases h1 : m < 1 ∨ 20 < m ∨ 60 < xs.length
  · have HR : Hid (lenErr xs m = 4) := Lib.hid (if_pos h1)
    by_cases g1 : m < 1
    · clear h1
      go_enter Tryd.func12, Tryd.ntmps12
      go_wp2
      go_ret
      exact ⟨by rw [HR.out]; rfl, Below.refl _ _⟩
    · by_cases g2 : 20 < m
      · clear h1
        go_enter Tryd.func12, Tryd.ntmps12
        go_wp2
        go_ret
        exact ⟨by rw [HR.out]; rfl, Below.refl _ _⟩
      · have g3 : (60 : Int) < (xs.length : Int) := by omega
        have hd : decide ((60 : Int) < (xs.length : Int)) = true := by simp; omega
        clear h1
        go_enter Tryd.func12, Tryd.ntmps12
        go_wp2
        go_ret
        exact ⟨by rw [HR.out]; rfl, Below.refl _ _⟩
  · have g1 : ¬ m < 1 := by omega
    have g2 : ¬ 20 < m := by omega
    have hd : decide ((60 : Int) < (xs.length : Int)) = false := by simp; omega
    have HR : Hid (lenErr xs m = if xs.any outL = true then 2 else 0) := Lib.hid (if_neg h1)
    clear h1
    go_enter Tryd.func12, Tryd.ntmps12
    go_wp2
    go_loop [20] (fun i => ∃ k : Nat, k ≤ xs.length ∧ i = .int .i64 k ∧ Hid ((xs.take k).any outL = false)) (fun i => xs.length - (intOf i).toNat)
    case atStart => exact ⟨0, by omega, rfl, Lib.hid (by simp)⟩
    case round =>
      obtain ⟨k, hk, rfl, HQ⟩ := hrel
      by_cases hlt : k < xs.length
      · obtain ⟨b, o, rfl, hc⟩ := hx.some hlt
        have c1 := hc k hlt 0 _ rfl
        simp only [Nat.add_zero, Nat.mul_one] at c1
        clear hc hx
        by_cases b1 : xs[k] < 0 ∨ 1000000000 < xs[k]
        · have HE : Hid (lenErr xs m = 2) := Lib.hid (by
            rw [HR.out, if_pos]
            exact List.any_eq_true.2 ⟨_, List.getElem_mem hlt, by simp only [outL, Bool.or_eq_true, decide_eq_true_eq]; exact b1⟩)
          rcases b1 with b1 | b1
          · go_wp2
            go_ret
            exact ⟨by rw [HE.out]; rfl, Below.refl _ _⟩
          · have b2 : ¬ xs[k] < 0 := by omega
            go_wp2
            go_ret
            exact ⟨by rw [HE.out]; rfl, Below.refl _ _⟩
        · have HT : Hid ((xs.take (k + 1)).any outL = false) := Lib.hid (any_take hlt HQ.out (by simp only [outL, Bool.or_eq_false_iff, decide_eq_false_iff_not]; omega))
          have b2 : ¬ xs[k] < 0 := by omega
          have b3 : ¬ 1000000000 < xs[k] := by omega
          clear b1
          go_wp2
          go_round
          case rel => exact ⟨k + 1, by omega, by go_num, HT⟩
          case measure => simp [intOf]; omega
      · obtain rfl : k = xs.length := by omega
        have HE : Hid (lenErr xs m = 0) := Lib.hid (by rw [HR.out, if_neg]; have := HQ.out; rw [List.take_length] at this; simp [this])
        clear hx
        go_wp2
        go_ret
        exact ⟨by rw [HE.out]; rfl, Below.refl _ _⟩
end Go.Proofs.YtannijeiecmjpaaDoor
