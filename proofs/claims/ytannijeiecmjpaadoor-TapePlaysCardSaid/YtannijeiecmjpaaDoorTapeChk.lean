/- tape.Check tells callsCheck. -/
import Derived.Test.YtannijeiecmjpaaDoorRows
import Derived.Test.YtannijeiecmjpaaDoorBase
import Derived.Test.YtannijeiecmjpaaDoorTell
import Derived.Test.YtannijeiecmjpaaDoorTapeC
import Derived.IntWalk
namespace Go.Proofs.YtannijeiecmjpaaDoor
open Go.RowKit

set_option maxRecDepth 100000 in
set_option maxHeartbeats 4000000 in
theorem callCheck_any (a : Option Addr) (n cap : Nat) (xs : List R3) (w : World) (hl : n = xs.length) (hn : n ≤ maxLen) (hx : Elems enc3 3 w a xs) :
    Calls Tryd.prog 19 #[.slice a n cap] w fun e w' => e = .returned (errV (callsCheck xs)) ∧ Below w.heap.size w w' := by
  subst hl
  unfold maxLen at hn
  by_cases hA : 60 < xs.length
  · have hd : decide ((60 : Int) < (xs.length : Int)) = true := by simp; omega
    have hr : callsCheck xs = 4 := if_pos hA
    have HR := Lib.hid hr
    clear hr
    go_enter Tryd.func19, Tryd.ntmps19
    go_wp2
    go_ret
    exact ⟨by rw [HR.out]; rfl, Below.refl _ _⟩
  have hd : decide ((60 : Int) < (xs.length : Int)) = false := by simp; omega
  have HR : Hid (callsCheck xs = callsFrom (prvC xs 0) (xs.drop 0)) := if_neg hA
  clear hA
  go_enter Tryd.func19, Tryd.ntmps19
  go_wp2
  go_loopw [11] (fun i wr => ∃ k : Nat, k ≤ xs.length ∧ i = .int .i64 k ∧ Hid (callsCheck xs = callsFrom (prvC xs k) (xs.drop k)) ∧ Below w.heap.size w wr) (fun i _ => xs.length - (intOf i).toNat)
  case atStart => exact ⟨0, by omega, rfl, HR, Below.refl _ _⟩
  case round =>
    clear HR
    obtain ⟨k, hk, rfl, HR, hb⟩ := hrel
    by_cases hlt : k < xs.length
    · obtain ⟨b, o, rfl, hc⟩ := hx.some hlt
      have hbB := lt_of_cell (hc k hlt 0 _ rfl)
      simp only at hbB
      have h1 := (hb.cell hbB).trans (hc k hlt 0 _ rfl)
      have h2 := (hb.cell hbB).trans (hc k hlt 1 _ rfl)
      have h3 := (hb.cell hbB).trans (hc k hlt 2 _ rfl)
      simp only [Nat.add_zero] at h1
      have hsz := hb.size
      by_cases hbad : badCall xs[k] = true
      · have HB := Lib.hid (HR.out.trans (calls_bad hlt _ hbad))
        clear hc hx HR
        simp only [badCall, Bool.or_eq_true, decide_eq_true_eq] at hbad
        go_wp2_with fail
        all_goals first
          | (go_ret; exact ⟨by rw [HB.out]; rfl, hb.alloc hb.size _⟩)
          | (exfalso; omega)
      · have hgood : badCall xs[k] = false := by simpa using hbad
        have hin : 0 ≤ xs[k].1 ∧ xs[k].1 ≤ 1000000000 ∧ 0 ≤ xs[k].2.1 ∧ xs[k].2.1 ≤ 1000000000 ∧ 0 ≤ xs[k].2.2 ∧ xs[k].2.2 ≤ 1000000000 := by
          simp only [badCall, Bool.or_eq_false_iff, decide_eq_false_iff_not] at hgood
          omega
        obtain ⟨q1, q2, q3, q4, q5, q6⟩ := hin
        by_cases hk0 : 0 < k
        · have hk1 : k - 1 < xs.length := by omega
          have h4 := (hb.cell hbB).trans (hc (k - 1) hk1 0 _ rfl)
          simp only [Nat.add_zero] at h4
          have h5 := cell_a1 h4
          clear h4
          have hpr : prvC xs k = some xs[k - 1].1 := by have := prvC_succ xs (k - 1) hk1; rw [show k - 1 + 1 = k by omega] at this; exact this
          have hki : IntKind.i64.wrap ((k : Int) - 1) = ((k - 1 : Nat) : Int) := by rw [IntWalk.i64_in _ (by omega)]; omega
          have hkd : decide ((0 : Int) < (k : Int)) = true := by simp; omega
          by_cases hord : xs[k].1 < xs[k - 1].1
          · have HB := Lib.hid (HR.out.trans (calls_late hlt _ hgood (by rw [hpr]; simp [earlyC]; exact hord)))
            clear hc hx HR hbad hgood hpr
            go_wp2_with fail
            go_quiet (fail)
            go_wp2
            go_ret
            exact ⟨by rw [HB.out]; rfl, below_drewN' (hb.alloc hb.size _) _⟩
          · have HB := Lib.hid (HR.out.trans (calls_good hlt _ hgood (by rw [hpr]; simp [earlyC]; omega)))
            clear hc hx HR hbad hgood hpr
            go_wp2_with fail
            go_quiet (fail)
            go_wp2
            exact ⟨⟨k + 1, by omega, by go_num, HB, below_drewN' (hb.alloc hb.size _) _⟩, by simp [intOf]; omega⟩
        · have hkd : decide ((0 : Int) < (k : Int)) = false := by simp; omega
          have HB := Lib.hid (HR.out.trans (calls_good hlt _ hgood (by simp [prvC, show k = 0 by omega, earlyC])))
          clear hc hx HR hbad hgood
          go_wp2_with fail
          go_quiet (fail)
          go_wp2
          exact ⟨⟨k + 1, by omega, by go_num, HB, below_drewN' (hb.alloc hb.size _) _⟩, by simp [intOf]; omega⟩
    · clear hx
      obtain rfl : k = xs.length := by omega
      have HB := Lib.hid (HR.out.trans (calls_done xs _))
      clear HR
      go_wp2
      go_ret
      exact ⟨by rw [HB.out]; rfl, hb⟩
end Go.Proofs.YtannijeiecmjpaaDoor
