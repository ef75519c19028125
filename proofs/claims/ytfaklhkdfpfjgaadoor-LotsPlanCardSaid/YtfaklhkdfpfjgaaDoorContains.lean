/- slices.ContainsFunc over integers with the two closures that tell what is out of bounds. -/
import Derived.Test.YtfaklhkdfpfjgaaDoorRows
import Derived.Test.YtfaklhkdfpfjgaaDoorBase
namespace Go.Proofs.YtfaklhkdfpfjgaaDoor
open Go.RowKit
def outOf (lim x : Int) : Bool := decide (x < 0) || decide (lim < x)
theorem lotsBad_any (x : Int) (w : World) : Calls Tryd.prog 109 #[.int .i64 x] w fun e w' => e = .returned (.bool (outOf 1000000 x)) ∧ Below w.heap.size w w' := by
  by_cases h1 : x < 0
  · have HB : Hid (outOf 1000000 x = true) := Lib.hid (by simp [outOf, h1])
    go_enter Tryd.func109, Tryd.ntmps109
    go_wp2
    go_ret
    exact ⟨by rw [HB.out]; rfl, Below.refl _ _⟩
  · by_cases h2 : 1000000 < x
    · have HB : Hid (outOf 1000000 x = true) := Lib.hid (by simp [outOf, h2])
      go_enter Tryd.func109, Tryd.ntmps109
      go_wp2
      go_ret
      exact ⟨by rw [HB.out]; rfl, Below.refl _ _⟩
    · have HB : Hid (outOf 1000000 x = false) := Lib.hid (by simp [outOf]; omega)
      go_enter Tryd.func109, Tryd.ntmps109
      go_wp2
      go_ret
      exact ⟨by rw [HB.out]; rfl, Below.refl _ _⟩

set_option maxHeartbeats 400000 in
theorem lotsContains_any (a : Option Addr) (n cap : Nat) (xs : List Int) (w : World) (hl : n = xs.length) (hn : xs.length ≤ 1000) (hx : Elems encI 1 w a xs) :
    Calls Tryd.prog 76 #[.slice a n cap, .func (.func 109) #[] #[]] w fun e w' => e = .returned (.bool (xs.any (outOf 1000000))) ∧ Below w.heap.size w w' := by
  subst hl
  go_enter Tryd.func76, Tryd.ntmps76
  go_wp2
  go_loopw [8] (fun i wr => ∃ k : Nat, k ≤ xs.length ∧ i = .int .i64 k ∧ Hid ((xs.take k).any (outOf 1000000) = false) ∧ Below w.heap.size w wr) (fun i _ => xs.length - (intOf i).toNat)
  case atStart => exact ⟨0, by omega, rfl, Lib.hid (by simp), Below.refl _ _⟩
  case round =>
    obtain ⟨k, hk, rfl, HQ, hb⟩ := hrel
    by_cases hlt : k < xs.length
    · obtain ⟨b, o, rfl, hc⟩ := hx.some hlt
      have h1 := (hb.cell (lt_of_cell (hc k hlt 0 _ rfl))).trans (hc k hlt 0 _ rfl)
      simp only [Nat.add_zero, Nat.mul_one] at h1
      clear hc hx
      by_cases hbad : outOf 1000000 xs[k] = true
      · have HR : Hid (xs.any (outOf 1000000) = true) := Lib.hid (List.any_eq_true.2 ⟨_, List.getElem_mem hlt, hbad⟩)
        have HB := Lib.hid hbad
        clear hbad
        go_wp2_with fail
        refine (lotsBad_any _ _).mono ?_
        rintro e w1 ⟨rfl, hb1⟩
        rw [HB.out]
        go_wp2
        go_ret
        exact ⟨by rw [HR.out]; rfl, below_next hb hb1⟩
      · have HB : Hid (outOf 1000000 xs[k] = false) := Lib.hid (by simpa using hbad)
        have HK : Hid ((xs.take (k + 1)).any (outOf 1000000) = false) := Lib.hid (by rw [List.take_succ_eq_append_getElem hlt, List.any_append, HQ.out]; simp [HB.out])
        clear hbad
        go_wp2_with fail
        refine (lotsBad_any _ _).mono ?_
        rintro e w1 ⟨rfl, hb1⟩
        rw [HB.out]
        go_wp2
        exact ⟨⟨k + 1, by omega, by go_num, HK, below_next hb hb1⟩, by simp [intOf]; omega⟩
    · obtain rfl : k = xs.length := by omega
      have HR : Hid (xs.any (outOf 1000000) = false) := Lib.hid (by have := HQ.out; rwa [List.take_length] at this)
      clear hx HQ
      go_wp2
      go_ret
      exact ⟨by rw [HR.out]; rfl, hb⟩
end Go.Proofs.YtfaklhkdfpfjgaaDoor
