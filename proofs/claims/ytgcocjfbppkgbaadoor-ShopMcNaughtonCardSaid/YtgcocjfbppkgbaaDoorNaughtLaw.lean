/- The law ShopMcNaughton. -/
import Derived.Test.YtgcocjfbppkgbaaDoorRefNaught
import Derived.Test.YtgcocjfbppkgbaaDoorWhole
import Derived.BigQuiet
import Derived.Deep.QuietTactic
namespace Go.Proofs.YtgcocjfbppkgbaaDoor
open Go.RowKit

set_option maxRecDepth 100000 in
set_option maxHeartbeats 8000000 in
theorem parts_any (a a2 : Option Addr) (n n2 c c2 : Nat) (ps : List R4) (w : World) (hl : n = ps.length) (hl2 : n2 = ps.length) (hn : ps.length ≤ 100000000000) (hx : Elems enc4 4 w a ps) (hy : Elems enc4 4 w a2 ps) :
    Calls Tryd.prog 34 #[.slice a n c, .slice a2 n2 c2] w fun e w' => e = .returned (.bool true) ∧ Below w.heap.size w w' := by
  subst hl; subst hl2
  have hd : (((ps.length : Int)) != ((ps.length : Int))) = false := by simp
  go_enter Tryd.func34, Tryd.ntmps34
  go_wp2
  go_loopw [5] (fun iv wr => ∃ (k m : Nat), k ≤ ps.length ∧ iv = .int .i64 k ∧ wr = w.drewN m) (fun iv _ => ps.length - (intOf iv).toNat)
  case atStart => exact ⟨0, 0, by omega, rfl, rfl⟩
  case round =>
    obtain ⟨k, m, hk, rfl, rfl⟩ := hrel
    by_cases hlt : k < ps.length
    · obtain ⟨b, o, rfl, hc⟩ := hx.some hlt
      obtain ⟨b2, o2, rfl, hc2⟩ := hy.some hlt
      have p0 := hc k hlt 0 _ rfl
      have p1 := hc k hlt 1 _ rfl
      have p2 := hc k hlt 2 _ rfl
      have p3 := hc k hlt 3 _ rfl
      have q0 := hc2 k hlt 0 _ rfl
      have q1 := hc2 k hlt 1 _ rfl
      have q2 := hc2 k hlt 2 _ rfl
      have q3 := hc2 k hlt 3 _ rfl
      simp only [Nat.add_zero] at p0 q0
      clear hc hc2 hx hy
      generalize ps[k] = x at *
      obtain ⟨x0, x1, x2, x3⟩ := x
      have d0 : (x0 != x0) = false := by simp
      have d1 : (x1 != x1) = false := by simp
      have d2 : (x2 != x2) = false := by simp
      have d3 : (x3 != x3) = false := by simp
      have hk2 : (k : Int) < (ps.length : Int) := by omega
      go_wp2
      go_quiet (fail)
      go_wp2
      go_roundw
      case rel => exact ⟨k + 1, _, by omega, by go_num, rfl⟩
      case measure => simp [intOf]; omega
    · go_wp2
      go_ret
      exact ⟨rfl, below_drewN _ _ _⟩

set_option maxRecDepth 100000 in
set_option maxHeartbeats 4000000 in
theorem naught_law (a : Option Addr) (n cap : Nat) (m : Int) (xs : List Int) (w : World) (hg : Hnd w) (hl : n = xs.length) (hn : n ≤ maxLen) (hx : Elems encI 1 w a xs) :
    Calls Tryd.prog 6 #[.slice a n cap, .int .i64 m] w fun e w' => e = .returned (.bool true) ∧ Below w.heap.size w w' := by
  subst hl
  unfold maxLen at hn
  by_cases hA : 100 < xs.length
  · have hd : decide ((100 : Int) < (xs.length : Int)) = true := by simp; omega
    go_enter Tryd.func6, Tryd.ntmps6
    go_wp2
    go_ret
    exact ⟨rfl, Below.refl _ _⟩
  have hd : decide ((100 : Int) < (xs.length : Int)) = false := by simp; omega
  by_cases hC : lenErr xs m = 0
  case neg =>
    have hq : (lenErr xs m == 0) = false := by simpa using hC
    have HC := Lib.hid hC
    have HZ : Hid (naughtE xs m = 0) := Lib.hid (if_neg hC)
    clear hC
    go_enter Tryd.func6, Tryd.ntmps6
    go_wp2_with fail
    refine (refLengths_any _ _ _ m xs _ rfl (by omega) hx).mono ?_
    rintro e w1 ⟨rfl, hb1⟩
    go_wp2_with fail
    refine (naught_any _ _ _ m xs _ rfl (by omega) (hx.at hb1)).mono ?_
    rintro e w2 ⟨a1, n1, c1, ps, rfl, rfl, he1, _, hz1, hb2⟩
    have h02 := below_next hb1 hb2
    have hps := hz1 HC.out
    clear hz1
    subst hps
    go_wp2_with fail
    refine (whole_any (lenErr xs m) (naughtE xs m) 0 _ (hg.at h02) (fun h => absurd h HC.out) (fun _ => HZ.out)).mono ?_
    rintro e w3 ⟨rfl, hb3⟩
    have h03 := below_next h02 hb3
    go_wp2_with fail
    refine (parts_any _ _ _ _ _ _ [] _ rfl rfl (by simp) (he1.at hb3) (Or.inl rfl)).mono ?_
    rintro e w4 ⟨rfl, hb4⟩
    go_wp2
    go_ret
    exact ⟨rfl, below_next h03 hb4⟩
  have hq : (lenErr xs m == 0) = true := by simpa using hC
  have HC := Lib.hid hC
  have HZ : Hid (naughtE xs m = endM xs m) := Lib.hid (if_pos hC)
  clear hC
  go_enter Tryd.func6, Tryd.ntmps6
  go_wp2_with fail
  refine (refLengths_any _ _ _ m xs _ rfl (by omega) hx).mono ?_
  rintro e w1 ⟨rfl, hb1⟩
  go_wp2_with fail
  refine (refNaught_any _ _ _ m xs _ HC.out rfl (hx.at hb1)).mono ?_
  rintro e w2 ⟨a2, n2, c2, ps, rfl, hqq, he2, hp2, hlen2, hb2⟩
  subst hqq
  have h02 := below_next hb1 hb2
  have HP2 := Lib.hid hp2
  clear hp2
  go_wp2_with fail
  refine (naught_any _ _ _ m xs _ rfl (by omega) (hx.at h02)).mono ?_
  rintro e w3 ⟨a1, n1, c1, qs, rfl, rfl, he1, hz0, _, hb3⟩
  have h03 := below_next h02 hb3
  have hqs : qs = ps := (hz0 HC.out).trans HP2.out.symm
  clear hz0
  subst hqs
  go_wp2_with fail
  refine (whole_any (lenErr xs m) (naughtE xs m) (endM xs m) _ (hg.at h03) (fun _ => HZ.out) (fun h => absurd HC.out h)).mono ?_
  rintro e w4 ⟨rfl, hb4⟩
  have h04 := below_next h03 hb4
  go_wp2_with fail
  refine (parts_any _ _ _ _ _ _ qs _ rfl rfl hlen2 (he1.at hb4) (he2.at (below_next hb3 hb4))).mono ?_
  rintro e w5 ⟨rfl, hb5⟩
  go_wp2
  go_ret
  exact ⟨rfl, below_next h04 hb5⟩
end Go.Proofs.YtgcocjfbppkgbaaDoor
