/- shop.twos and the reference's TwosCheck: both tell twosCheck; the two's in the reference's type. -/
import Derived.Test.YtgcocjfbppkgbaaDoorRows
import Derived.Test.YtgcocjfbppkgbaaDoorTell
import Derived.Test.YtgcocjfbppkgbaaDoorFlowM
namespace Go.Proofs.YtgcocjfbppkgbaaDoor
open Go.RowKit

set_option maxHeartbeats 4000000 in
theorem twosCheck_any (a : Option Addr) (n cap : Nat) (xs : List R2) (w : World) (hl : n = xs.length) (hn : n ≤ maxLen) (hx : Elems enc2 2 w a xs) :
    Calls Tryd.prog 59 #[.slice a n cap] w fun e w' => e = .returned (errV (twosCheck xs)) ∧ Below w.heap.size w w' := by
  subst hl
  unfold maxLen at hn
  by_cases hA : 60 < xs.length
  · have hd : decide ((60 : Int) < (xs.length : Int)) = true := by simp; omega
    have hr : twosCheck xs = 4 := if_pos hA
    have HR := Lib.hid hr
    clear hr
    go_enter Tryd.func59, Tryd.ntmps59
    go_wp2
    go_ret
    exact ⟨by rw [HR.out]; rfl, Below.refl _ _⟩
  have hd : decide ((60 : Int) < (xs.length : Int)) = false := by simp; omega
  have HR : Hid (twosCheck xs = twosFrom (xs.drop 0)) := if_neg hA
  clear hA
  go_enter Tryd.func59, Tryd.ntmps59
  go_wp2
  go_loopw [11] (fun i wr => ∃ k : Nat, k ≤ xs.length ∧ i = .int .i64 k ∧ Hid (twosCheck xs = twosFrom (xs.drop k)) ∧ Below w.heap.size w wr) (fun i _ => xs.length - (intOf i).toNat)
  case atStart => exact ⟨0, by omega, rfl, HR, Below.refl _ _⟩
  case round =>
    clear HR
    obtain ⟨k, hk, rfl, HR, hb⟩ := hrel
    by_cases hlt : k < xs.length
    · obtain ⟨b, o, rfl, hc⟩ := hx.some hlt
      have hbB := lt_of_cell (hc k hlt 0 _ rfl)
      simp only at hbB
      have h1 := (hb.cell hbB).trans (hc k hlt 0 _ rfl)
      have h2 := (hb.cell hbB).trans (hc k hlt 1 _ rfl)
      simp only [Nat.add_zero] at h1
      have hsz := hb.size
      by_cases hbad : badTwo xs[k] = true
      · have HB := Lib.hid (HR.out.trans (twos_bad hlt hbad))
        clear hc hx HR
        simp only [badTwo, Bool.or_eq_true, decide_eq_true_eq] at hbad
        go_wp2_with fail
        all_goals first
          | (go_ret; exact ⟨by rw [HB.out]; rfl, hb.alloc hb.size _⟩)
          | (exfalso; omega)
      · have hgood : badTwo xs[k] = false := by simpa using hbad
        have hin : 0 ≤ xs[k].1 ∧ xs[k].1 ≤ 1000000000 ∧ 0 ≤ xs[k].2 ∧ xs[k].2 ≤ 1000000000 := by
          simp only [badTwo, Bool.or_eq_false_iff, decide_eq_false_iff_not] at hgood
          omega
        obtain ⟨q1, q2, q3, q4⟩ := hin
        have HB := Lib.hid (HR.out.trans (twos_good hlt hgood))
        clear hc hx HR hbad hgood
        go_wp2_with fail
        exact ⟨⟨k + 1, by omega, by go_num, HB, hb.alloc hb.size _⟩, by simp [intOf]; omega⟩
    · clear hx
      obtain rfl : k = xs.length := by omega
      have HB := Lib.hid (HR.out.trans (twos_done xs))
      clear HR
      go_wp2
      go_ret
      exact ⟨by rw [HB.out]; rfl, hb⟩

set_option maxHeartbeats 4000000 in
theorem refTwos_any (a : Option Addr) (n cap : Nat) (xs : List R2) (w : World) (hl : n = xs.length) (hn : n ≤ maxLen) (hx : Elems enc2 2 w a xs) :
    Calls Tryd.prog 26 #[.slice a n cap] w fun e w' => e = .returned (.int .i64 (twosCheck xs)) ∧ Below w.heap.size w w' := by
  subst hl
  unfold maxLen at hn
  by_cases hA : 60 < xs.length
  · have hd : decide ((60 : Int) < (xs.length : Int)) = true := by simp; omega
    have hr : twosCheck xs = 4 := if_pos hA
    have HR := Lib.hid hr
    clear hr
    go_enter Tryd.func26, Tryd.ntmps26
    go_wp2
    go_ret
    exact ⟨by rw [HR.out]; rfl, Below.refl _ _⟩
  have hd : decide ((60 : Int) < (xs.length : Int)) = false := by simp; omega
  have HR : Hid (twosCheck xs = twosFrom (xs.drop 0)) := if_neg hA
  clear hA
  go_enter Tryd.func26, Tryd.ntmps26
  go_wp2
  go_loopw [10] (fun i wr => ∃ k : Nat, k ≤ xs.length ∧ i = .int .i64 k ∧ Hid (twosCheck xs = twosFrom (xs.drop k)) ∧ Below w.heap.size w wr) (fun i _ => xs.length - (intOf i).toNat)
  case atStart => exact ⟨0, by omega, rfl, HR, Below.refl _ _⟩
  case round =>
    clear HR
    obtain ⟨k, hk, rfl, HR, hb⟩ := hrel
    by_cases hlt : k < xs.length
    · obtain ⟨b, o, rfl, hc⟩ := hx.some hlt
      have hbB := lt_of_cell (hc k hlt 0 _ rfl)
      simp only at hbB
      have h1 := (hb.cell hbB).trans (hc k hlt 0 _ rfl)
      have h2 := (hb.cell hbB).trans (hc k hlt 1 _ rfl)
      simp only [Nat.add_zero] at h1
      have hsz := hb.size
      by_cases hbad : badTwo xs[k] = true
      · have HB := Lib.hid (HR.out.trans (twos_bad hlt hbad))
        clear hc hx HR
        simp only [badTwo, Bool.or_eq_true, decide_eq_true_eq] at hbad
        go_wp2_with fail
        all_goals first
          | (go_ret; exact ⟨by rw [HB.out]; rfl, hb.alloc hb.size _⟩)
          | (exfalso; omega)
      · have hgood : badTwo xs[k] = false := by simpa using hbad
        have hin : 0 ≤ xs[k].1 ∧ xs[k].1 ≤ 1000000000 ∧ 0 ≤ xs[k].2 ∧ xs[k].2 ≤ 1000000000 := by
          simp only [badTwo, Bool.or_eq_false_iff, decide_eq_false_iff_not] at hgood
          omega
        obtain ⟨q1, q2, q3, q4⟩ := hin
        have HB := Lib.hid (HR.out.trans (twos_good hlt hgood))
        clear hc hx HR hbad hgood
        go_wp2_with fail
        exact ⟨⟨k + 1, by omega, by go_num, HB, hb.alloc hb.size _⟩, by simp [intOf]; omega⟩
    · clear hx
      obtain rfl : k = xs.length := by omega
      have HB := Lib.hid (HR.out.trans (twos_done xs))
      clear HR
      go_wp2
      go_ret
      exact ⟨by rw [HB.out]; rfl, hb⟩
theorem row2 : RowOf Tryd.prog 44 116 (.agg #[.int .i64 0, .int .i64 0]) 2 16 := rowOf Tryd.underlying44 (by kernel_rfl) rfl (by decide)

set_option maxHeartbeats 1000000 in
theorem twos_any (a : Option Addr) (n cap : Nat) (xs : List R2) (w : World) (hn : xs.length ≤ 1000) (hl : n = xs.length)
   (hx : Elems enc2 2 w a xs) :
  Calls Tryd.prog 25 #[.slice a n cap] w fun e w' => ∃ a' cap', e = .returned (.slice a' xs.length cap') ∧ Elems enc2 2 w' a' xs ∧ Below w.heap.size w w' := by
  subst hl
  go_enter Tryd.func25, Tryd.ntmps25
  go_wp2
  go_loopw [3, 4] (fun v i wr => ∃ k : Nat, k ≤ xs.length ∧ i = .int .i64 k ∧ wr.ownsRow w.heap.size 116 2 v k ((xs.take k).flatMap enc2) ∧ Below w.heap.size w wr) (fun _ i _ => xs.length - (intOf i).toNat)
  case atStart => exact ⟨0, by omega, rfl, World.ownsRow_nil _ _ _ _, Below.refl _ _⟩
  case round =>
    obtain ⟨k, hk, rfl, hown, hb⟩ := hrel
    by_cases hlt : k < xs.length
    · obtain ⟨b, o, rfl, hc⟩ := hx.some hlt
      have hbB := lt_of_cell (hc k hlt 0 _ rfl)
      simp only at hbB
      have h1 := (hb.cell hbB).trans (hc k hlt 0 _ rfl)
      have h2 := (hb.cell hbB).trans (hc k hlt 1 _ rfl)
      simp only [Nat.add_zero] at h1
      clear hc hx
      have hsz := hb.size
      go_wp2_with fail
      go_region_held3 (fun w' => w'.cell? ⟨b, o + k * 2, none⟩ = some (.int .i64 xs[k].1) ∧ w'.cell? ⟨b, o + k * 2 + 1, none⟩ = some (.int .i64 xs[k].2))
        (first | go_keep | (refine ⟨?_, ?_⟩ <;> (rw [hb1.cell hbB]; simp [*])))
        ((refine step_row row2 (by rfl) _ _ (by rfl) w.heap.size (by rfl) ((hown.alloc _).drew) wr.heap.size (enc2 xs[k]) (heap_alloc_new wr _) (by rfl) rfl (enc2_one _) (by unfold maxLen; omega) (by omega) (by simp; omega) ?_; intro v' w1 hown1 hb1))
      rw [take_flat] at hown1
      clear hown hsz h1 h2
      go_wp2
      go_roundw
      case rel => exact ⟨k + 1, by omega, by go_num, hown1, hb.trans (((((Below.refl _ _).alloc hb.size _).drew).trans hb1))⟩
      case measure => simp [intOf]; omega
    · go_wp2
      go_ret
      obtain rfl : k = xs.length := by omega
      rw [List.take_length] at hown
      obtain ⟨a', cap', rfl, he, _⟩ := elems_of_owns (enc := enc2) (fun _ => rfl) rfl hown
      exact ⟨a', cap', rfl, he, hb⟩
end Go.Proofs.YtgcocjfbppkgbaaDoor
