/- The law PathRuns: what the program's Run answers is the reference's. -/
import Derived.Test.YtannijeiecmjpaaDoorRunW
import Derived.Test.YtannijeiecmjpaaDoorRefRunW
import Derived.Test.YtannijeiecmjpaaDoorPathJobs
namespace Go.Proofs.YtannijeiecmjpaaDoor
open Go.RowKit

/-- One end, so one row of pieces. -/
theorem run_same {xs : List R3} {rule now on now' on' : Int} {left left' : List Int} {out out' : List R3} (h : ReachR xs rule (now, on, left, out)) (h2 : stepR xs rule (now, on, left, out) = none) (k : ReachR xs rule (now', on', left', out')) (k2 : stepR xs rule (now', on', left', out') = none) : out' = out := by
  have e := reach_end h h2 k k2
  injection e with _ e
  injection e with _ e
  injection e with _ e
  exact e.symm
theorem run_len {xs : List R3} {rule now on : Int} {left : List Int} {out : List R3} (hC : jobsCheck xs = 0) (h : ReachR xs rule (now, on, left, out)) : out.length ≤ 61000000000 := by
  obtain ⟨_, _, g3, g4, g5, _⟩ := reach_good hC h
  have hs := sum_le _ g3
  simp only at g4 g5 hs
  omega

set_option maxRecDepth 100000 in
set_option maxHeartbeats 4000000 in
theorem runs_law (a : Option Addr) (n cap : Nat) (si : Int) (xs : List R3) (w : World) (hg : Hnd w) (hl : n = xs.length) (hn : n ≤ maxLen) (hx : Elems enc3 3 w a xs) :
    Calls Tryd.prog 3 #[.slice a n cap, .int .i64 si] w fun e w' => e = .returned (.bool true) ∧ Below w.heap.size w w' := by
  subst hl
  unfold maxLen at hn
  by_cases hA : 100 < xs.length
  · have hd : decide ((100 : Int) < (xs.length : Int)) = true := by simp; omega
    go_enter Tryd.func3, Tryd.ntmps3
    go_wp2
    go_ret
    exact ⟨rfl, Below.refl _ _⟩
  have hd : decide ((100 : Int) < (xs.length : Int)) = false := by simp; omega
  have HJ := Lib.hid (jobs_any a xs.length cap xs w (by omega) rfl hx)
  have HCK := Lib.hid (fun (w' : World) (a' : Option Addr) (c' : Nat) (h : Elems enc3 3 w' a' xs) => refCheck_any a' xs.length c' xs w' rfl (by unfold maxLen; omega) h)
  have HRU := Lib.hid (fun (w' : World) (h : Below w.heap.size w w') => run_any a xs.length cap si xs w' rfl (by omega) (hx.at h))
  by_cases hE : runErr xs si = 0
  case neg =>
    by_cases hC : jobsCheck xs = 0
    case neg =>
      have hEE : runErr xs si = jobsCheck xs := if_pos hC
      have HEE := Lib.hid hEE
      have HNE := Lib.hid hE
      have hb0 : (jobsCheck xs == 0) = false := by simpa using hC
      have hb1 : (jobsCheck xs != 0) = true := by simpa using hC
      have hb2 : (jobsCheck xs == jobsCheck xs) = true := by simp
      clear hC hE hEE hx
      go_enter Tryd.func3, Tryd.ntmps3
      go_wp2_with fail
      refine HJ.out.mono ?_
      rintro e w1 ⟨a1, c1, rfl, he1, hb1'⟩
      go_wp2_with fail
      refine (HCK.out _ _ _ he1).mono ?_
      rintro e w2 ⟨rfl, hb2'⟩
      have HB2 := Lib.hid (below_next hb1' hb2')
      clear he1 hb1' hb2'
      generalize jobsCheck xs = ec at *
      go_wp2_with fail
      refine (HRU.out _ HB2.out).mono ?_
      rintro e w3 ⟨hb3, h⟩
      rcases h with ⟨_, rfl⟩ | ⟨h, _⟩
      case inr => exact absurd h HNE.out
      rw [HEE.out]
      have HB3 := Lib.hid (below_next HB2.out hb3)
      clear hb3
      go_wp2_with fail
      refine (tell_any _ _ (hg.at HB3.out)).mono ?_
      rintro e w4 ⟨rfl, hb4⟩
      go_wp2
      go_ret
      exact ⟨rfl, below_next HB3.out hb4⟩
    case pos =>
      have hS : si < 1 ∨ 6 < si := by
        by_cases h : si < 1 ∨ 6 < si
        · exact h
        · exact absurd (by unfold runErr; rw [if_neg (by simp [hC]), if_neg h]) hE
      have hEE : runErr xs si = 1 := by unfold runErr; rw [if_neg (by simp [hC]), if_pos hS]
      have HEE := Lib.hid hEE
      have HNE := Lib.hid hE
      have HC := Lib.hid hC
      clear hC hE hEE hx
      have hS2 : si < 1 ∨ ¬ si < 1 ∧ 6 < si := by omega
      clear hS
      rcases hS2 with hS | ⟨hS, hS2⟩
      all_goals
        go_enter Tryd.func3, Tryd.ntmps3
        go_wp2_with fail
        refine HJ.out.mono ?_
        rintro e w1 ⟨a1, c1, rfl, he1, hb1'⟩
        go_wp2_with fail
        refine (HCK.out _ _ _ he1).mono ?_
        rintro e w2 ⟨rfl, hb2'⟩
        rw [HC.out]
        have HB2 := Lib.hid (below_next hb1' hb2')
        clear he1 hb1' hb2'
        go_wp2_with fail
        refine (HRU.out _ HB2.out).mono ?_
        rintro e w3 ⟨hb3, h⟩
        rcases h with ⟨_, rfl⟩ | ⟨h, _⟩
        case inr => exact absurd h HNE.out
        rw [HEE.out]
        have HB3 := Lib.hid (below_next HB2.out hb3)
        clear hb3
        go_wp2_with fail
        refine (tell_any _ _ (hg.at HB3.out)).mono ?_
        rintro e w4 ⟨rfl, hb4⟩
        go_wp2
        go_ret
        exact ⟨rfl, below_next HB3.out hb4⟩
  case pos =>
    have hC : jobsCheck xs = 0 := by
      by_cases h : jobsCheck xs = 0
      · exact h
      · exact absurd (show runErr xs si = jobsCheck xs from if_pos h) (by rw [hE]; exact fun h2 => h h2.symm)
    have hS : ¬ (si < 1 ∨ 6 < si) := fun h => by
      unfold runErr at hE
      rw [if_neg (by simp [hC]), if_pos h] at hE
      exact absurd hE (by decide)
    have hr1 : ¬ si < 1 := by omega
    have hr6 : ¬ 6 < si := by omega
    have HC := Lib.hid hC
    have HE := Lib.hid hE
    have HRR := Lib.hid (fun (w' : World) (a' : Option Addr) (c' : Nat) (h : Elems enc3 3 w' a' xs) => refRun_any a' xs.length c' si xs w' rfl h hC (by omega) (by omega))
    clear hC hE hS hx
    go_enter Tryd.func3, Tryd.ntmps3
    go_wp2_with fail
    refine HJ.out.mono ?_
    rintro e w1 ⟨a1, c1, rfl, he1, hb1'⟩
    go_wp2_with fail
    refine (HCK.out _ _ _ he1).mono ?_
    rintro e w2 ⟨rfl, hb2'⟩
    rw [HC.out]
    have HB1 := Lib.hid hb1'
    have HB2 := Lib.hid (below_next hb1' hb2')
    have HE1 := Lib.hid (he1.at hb2')
    clear he1 hb1' hb2'
    go_wp2_with fail
    refine (HRU.out _ HB2.out).mono ?_
    rintro e w3 ⟨hb3, h⟩
    rcases h with ⟨h, _⟩ | ⟨_, now, on, left, out, a3, c3, hp1, hp2, rfl, he3⟩
    case inl => exact absurd HE.out h
    have HP := Lib.hid (And.intro hp1 hp2)
    have HB3 := Lib.hid (below_next HB2.out hb3)
    have HE2 := Lib.hid (HE1.out.at hb3)
    have HOL := Lib.hid (run_len HC.out hp1)
    have HE3 := Lib.hid he3
    clear hp1 hp2 hb3 he3 HRU HJ HCK
    go_wp2_with fail
    refine (HRR.out _ _ _ HE2.out).mono ?_
    rintro e w4 ⟨hb4, now', on', left', out', a4, c4, k1, k2, rfl, he4⟩
    have hsame := run_same HP.out.1 HP.out.2 k1 k2
    subst hsame
    have HB4 := Lib.hid (below_next HB3.out hb4)
    have HE4 := Lib.hid he4
    have HE5 := Lib.hid (HE3.out.at hb4)
    clear k1 k2 hb4 he4
    obtain ⟨m, hm⟩ : ∃ m, m = out'.length := ⟨_, rfl⟩
    have HM := Lib.hid hm
    have hm9 : m ≤ 61000000000 := by rw [hm]; exact HOL.out
    rw [← hm]
    clear hm
    have hmm : ((m : Int) != (m : Int)) = false := by simp
    go_wp2
    go_loopw [10] (fun iv wr => ∃ k : Nat, k ≤ m ∧ iv = .int .i64 k ∧ Below w4.heap.size w4 wr) (fun iv _ => m - (intOf iv).toNat)
    case atStart => exact ⟨0, by omega, rfl, Below.refl _ _⟩
    case round =>
      obtain ⟨k, hk, rfl, hbw⟩ := hrel
      by_cases hlt : k < m
      · have hko : k < out'.length := by rw [← HM.out]; exact hlt
        obtain ⟨b, o, hae, hc⟩ := (HE5.out.at hbw).some hko
        obtain ⟨b', o', hae', hc'⟩ := (HE4.out.at hbw).some hko
        have q1 := hc k hko 0 _ rfl
        have q2 := hc k hko 1 _ rfl
        have q3 := hc k hko 2 _ rfl
        have r1 := hc' k hko 0 _ rfl
        have r2 := hc' k hko 1 _ rfl
        have r3 := hc' k hko 2 _ rfl
        simp only [Nat.add_zero] at q1 r1
        generalize out'[k].1 = x1 at *
        generalize out'[k].2.1 = x2 at *
        generalize out'[k].2.2 = x3 at *
        have d1 : (x1 != x1) = false := by simp
        have d2 : (x2 != x2) = false := by simp
        have d3 : (x3 != x3) = false := by simp
        subst hae
        subst hae'
        have HBW := Lib.hid hbw
        clear hc hc' hbw
        go_wp2_with fail
        go_quiet (fail)
        go_wp2
        exact ⟨⟨k + 1, by omega, by go_num, below_drewN' HBW.out _⟩, by simp [intOf]; omega⟩
      · obtain rfl : k = m := by omega
        have HBW := Lib.hid hbw
        clear hbw
        go_wp2
        go_ret
        exact ⟨rfl, below_next HB4.out HBW.out⟩
end Go.Proofs.YtannijeiecmjpaaDoor
