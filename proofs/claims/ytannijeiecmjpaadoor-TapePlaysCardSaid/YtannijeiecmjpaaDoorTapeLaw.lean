/- The law TapePlays: what becomes of each call is what going call by call gives. -/
import Derived.Test.YtannijeiecmjpaaDoorPlayW
import Derived.Test.YtannijeiecmjpaaDoorTapeRChk
namespace Go.Proofs.YtannijeiecmjpaaDoor
open Go.RowKit

theorem rowRC : RowOf Tryd.prog 51 54 (.agg #[.int .i64 0, .int .i64 0, .int .i64 0]) 3 24 := rowOf Tryd.underlying51 (by kernel_rfl) rfl (by decide)
/-- How many of the first k nobody took. -/
def lostTo (O : List R2) (k : Nat) : Int := (((O.take k).filter (fun x => decide (x.1 < 0))).length : Nat)
theorem lost_succ (O : List R2) (k : Nat) (h : k < O.length) : lostTo O (k + 1) = if O[k].1 < 0 then lostTo O k + 1 else lostTo O k := by
  unfold lostTo
  rw [List.take_succ_eq_append_getElem h, List.filter_append, List.length_append]
  by_cases h1 : O[k].1 < 0
  · rw [if_pos h1]; simp [h1]
  · rw [if_neg h1]; simp [h1]
theorem lost_le (O : List R2) (k : Nat) : 0 ≤ lostTo O k ∧ lostTo O k ≤ k := by
  unfold lostTo
  have h1 := List.length_filter_le (fun x : R2 => decide (x.1 < 0)) (O.take k)
  rw [List.length_take] at h1
  omega
set_option maxHeartbeats 1000000 in
theorem lost_any (a : Option Addr) (n cap : Nat) (O : List R2) (w : World) (hl : n = O.length) (hn : O.length ≤ 1000) (hx : Elems encF 2 w a O) :
    Calls Tryd.prog 22 #[.slice a n cap] w fun e w' => e = .returned (.int .i64 (lostTo O O.length)) ∧ Below w.heap.size w w' := by
  subst hl
  have HX := Lib.hid hx
  clear hx
  go_enter Tryd.func22, Tryd.ntmps22
  go_wp2
  go_loopw [3, 8] (fun nv iv wr => ∃ k : Nat, k ≤ O.length ∧ iv = .int .i64 k ∧ nv = .int .i64 (lostTo O k) ∧ Hid (Below w.heap.size w wr)) (fun _ iv _ => O.length - (intOf iv).toNat)
  case atStart => exact ⟨0, by omega, rfl, by simp [lostTo], Lib.hid (Below.refl _ _)⟩
  case round =>
    obtain ⟨k, hk, rfl, rfl, HB⟩ := hrel
    by_cases hlt : k < O.length
    · obtain ⟨b, o, rfl, hc⟩ := (HX.out.at HB.out).some hlt
      have c1 := hc k hlt 0 _ rfl
      have c2 := hc k hlt 1 _ rfl
      simp only [Nat.add_zero] at c1
      have HS := Lib.hid (lost_succ O k hlt)
      have hb := lost_le O k
      have HN : ∀ o, Hid (Below w.heap.size w (wr.alloc o)) := fun o => Lib.hid (HB.out.alloc HB.out.size o)
      clear hc
      generalize O[k] = x at *
      obtain ⟨x1, x2⟩ := x
      simp only at c1 c2 HS
      generalize lostTo O k = q at *
      have hw : IntKind.i64.wrap (q + 1) = q + 1 := IntWalk.i64_in _ (by omega)
      by_cases h1 : x1 < 0
      · have HV : Hid (lostTo O (k + 1) = q + 1) := Lib.hid (by rw [HS.out, if_pos h1])
        go_wp2
        exact ⟨⟨k + 1, by omega, by go_num, by rw [HV.out], HN _⟩, by simp [intOf]; omega⟩
      · have HV : Hid (lostTo O (k + 1) = q) := Lib.hid (by rw [HS.out, if_neg h1])
        go_wp2
        exact ⟨⟨k + 1, by omega, by go_num, by rw [HV.out], HN _⟩, by simp [intOf]; omega⟩
    · obtain rfl : k = O.length := by omega
      clear HX
      go_wp2
      go_ret
      exact ⟨rfl, HB.out⟩
set_option maxRecDepth 100000 in
set_option maxHeartbeats 16000000 in
theorem tape_law (a : Option Addr) (n cap : Nat) (ag : Int) (xs : List R3) (w : World) (hg : Hnd w) (hl : n = xs.length) (hn : n ≤ maxLen) (hx : Elems enc3 3 w a xs) :
    Calls Tryd.prog 5 #[.slice a n cap, .int .i64 ag] w fun e w' => e = .returned (.bool true) ∧ Below w.heap.size w w' := by
  subst hl
  unfold maxLen at hn
  by_cases hA : 100 < xs.length
  · have hd : decide ((100 : Int) < (xs.length : Int)) = true := by simp; omega
    clear hx
    go_enter Tryd.func5, Tryd.ntmps5
    go_wp2
    go_ret
    exact ⟨rfl, Below.refl _ _⟩
  have hd : decide ((100 : Int) < (xs.length : Int)) = false := by simp; omega
  have HX := Lib.hid hx
  have H2 := Lib.hid (fun w' (hb : Below w.heap.size w w') => callCheck_any a xs.length cap xs w' rfl (by unfold maxLen; omega) (hx.at hb))
  have H3 := Lib.hid (fun w' (hb : Below w.heap.size w w') => tell_any (callsCheck xs) w' (hg.at hb))
  have H4 := Lib.hid (fun w' (hb : Below w.heap.size w w') => play_any a xs.length cap ag xs w' rfl (by omega) (hx.at hb))
  have hx100 : xs.length ≤ 100 := by omega
  have HHG := Lib.hid hg
  clear hA hx hg hn
  go_enter Tryd.func5, Tryd.ntmps5
  go_wp2
  go_loopw [5, 6] (fun v i wr => ∃ k : Nat, k ≤ xs.length ∧ i = .int .i64 k ∧ wr.ownsRow w.heap.size 54 3 v k ((xs.take k).flatMap enc3) ∧ Below w.heap.size w wr) (fun _ i _ => xs.length - (intOf i).toNat)
  case atStart => exact ⟨0, by omega, rfl, World.ownsRow_nil _ _ _ _, Below.refl _ _⟩
  case round =>
    obtain ⟨k, hk, rfl, hown, hb⟩ := hrel
    by_cases hlt : k < xs.length
    · obtain ⟨b, o, rfl, hc⟩ := HX.out.some hlt
      have hbB := lt_of_cell (hc k hlt 0 _ rfl)
      simp only at hbB
      have h1 := (hb.cell hbB).trans (hc k hlt 0 _ rfl)
      have h2 := (hb.cell hbB).trans (hc k hlt 1 _ rfl)
      have h3 := (hb.cell hbB).trans (hc k hlt 2 _ rfl)
      simp only [Nat.add_zero] at h1
      clear hc HX H2 H3 H4
      have hsz := hb.size
      go_wp2_with fail
      go_region_held3 (fun w' => w'.cell? ⟨b, o + k * 3, none⟩ = some (.int .i64 xs[k].1) ∧ w'.cell? ⟨b, o + k * 3 + 1, none⟩ = some (.int .i64 xs[k].2.1) ∧ w'.cell? ⟨b, o + k * 3 + 2, none⟩ = some (.int .i64 xs[k].2.2))
        (first | go_keep | (refine ⟨?_, ?_, ?_⟩ <;> (rw [hb1.cell hbB]; simp [*])))
        ((refine step_row rowRC (by rfl) _ _ (by rfl) w.heap.size (by rfl) ((hown.alloc _).drew) wr.heap.size (enc3 xs[k]) (heap_alloc_new wr _) (by rfl) rfl (enc3_one _) (by unfold maxLen; omega) (by omega) (by simp; omega) ?_; intro v' w1 hown1 hb1))
      rw [take_flat] at hown1
      clear hown hsz h1 h2 h3
      go_wp2
      go_roundw
      case rel => exact ⟨k + 1, by omega, by go_num, hown1, hb.trans (((((Below.refl _ _).alloc hb.size _).drew).trans hb1))⟩
      case measure => simp [intOf]; omega
    · obtain rfl : k = xs.length := by omega
      rw [List.take_length] at hown
      obtain ⟨a2, c2, rfl, he, _⟩ := elems_of_owns (enc := enc3) (fun _ => rfl) rfl hown
      have R1 := refCalls_any a2 xs.length c2 xs wr rfl (by unfold maxLen; omega) he
      have HE := Lib.hid he
      have HB := Lib.hid hb
      have hself : (callsCheck xs != callsCheck xs) = false := by simp
      have hself2 : (callsCheck xs == callsCheck xs) = true := by simp
      clear hown he hb
      go_wp2_with fail
      refine R1.mono ?_
      rintro e w1 ⟨rfl, hb1⟩
      have B1 := Lib.hid (below_next HB.out hb1)
      have HE1 := Lib.hid (HE.out.at hb1)
      clear R1 HB HE hb1
      go_wp2_with fail
      refine (H2.out w1 B1.out).mono ?_
      rintro e w2 ⟨rfl, hb2⟩
      have B2 := Lib.hid (below_next B1.out hb2)
      have HE2 := Lib.hid (HE1.out.at hb2)
      clear B1 HE1 hb2
      go_wp2_with fail
      refine (H3.out w2 B2.out).mono ?_
      rintro e w3 ⟨rfl, hb3⟩
      have B3 := Lib.hid (below_next B2.out hb3)
      have HE3 := Lib.hid (HE2.out.at hb3)
      clear B2 HE2 hb3
      by_cases hC : callsCheck xs = 0
      case neg =>
        have hq : (callsCheck xs == 0) = false := by simpa using hC
        have hq2 : (callsCheck xs != 0) = true := by simpa using hC
        have HP : Hid (playErr xs ag = callsCheck xs) := Lib.hid (if_pos hC)
        have HC := Lib.hid hC
        have hz : (((0 : Nat) : Int) == 0) = true := by decide
        clear hC
        go_wp2_with fail
        refine (H4.out w3 B3.out).mono ?_
        rintro e w4 ⟨hb4, h4⟩
        rw [HP.out] at h4
        have B4 := Lib.hid (below_next B3.out hb4)
        rcases h4 with ⟨_, rfl⟩ | ⟨h4, _⟩
        case inr => exact absurd h4 HC.out
        go_wp2_with fail
        refine (H3.out w4 B4.out).mono ?_
        rintro e w5 ⟨rfl, hb5⟩
        have B5 := Lib.hid (below_next B4.out hb5)
        clear hb4 hb5 B3 B4
        go_wp2
        go_ret
        exact ⟨rfl, B5.out⟩
      have hq : (callsCheck xs == 0) = true := by simpa using hC
      by_cases hS : ag < 0 ∨ 20 < ag
      case pos =>
        have HP : Hid (playErr xs ag = 4) := Lib.hid (by unfold playErr; rw [if_neg (by simp [hC]), if_pos hS])
        have hz : (((0 : Nat) : Int) == 0) = true := by decide
        have H5 := Lib.hid (fun w' (hb : Below w.heap.size w w') => tell_any 4 w' (HHG.out.at hb))
        have hS2 : ag < 0 ∨ ¬ ag < 0 ∧ 20 < ag := by omega
        clear hS hC
        rcases hS2 with hS | ⟨hS, hS2⟩
        all_goals
          go_wp2_with fail
          refine (H4.out w3 B3.out).mono ?_
          rintro e w4 ⟨hb4, h4⟩
          rw [HP.out] at h4
          have B4 := Lib.hid (below_next B3.out hb4)
          rcases h4 with ⟨_, rfl⟩ | ⟨h4, _⟩
          case inr => exact absurd h4 (by decide)
          go_wp2_with fail
          refine (H5.out w4 B4.out).mono ?_
          rintro e w5 ⟨rfl, hb5⟩
          have B5 := Lib.hid (below_next B4.out hb5)
          clear hb4 hb5 B3 B4
          go_wp2
          go_ret
          exact ⟨rfl, B5.out⟩
      have HP : Hid (playErr xs ag = 0) := Lib.hid (by unfold playErr; rw [if_neg (by simp [hC]), if_neg hS])
      obtain ⟨m, rfl⟩ : ∃ m : Nat, ag = (m : Int) := ⟨ag.toNat, by omega⟩
      have hm20 : m ≤ 20 := by omega
      have hr1 : ¬ (m : Int) < 0 := by omega
      have hr2 : ¬ 20 < (m : Int) := by omega
      have HG := Lib.hid (calls_good_all hC)
      clear hS hC
      go_wp2_with fail
      refine (H4.out w3 B3.out).mono ?_
      rintro e w4 ⟨hb4, h4⟩
      rw [HP.out] at h4
      have B4 := Lib.hid (below_next B3.out hb4)
      have HE4 := Lib.hid (HE3.out.at hb4)
      rcases h4 with ⟨h4, _⟩ | ⟨_, a3, c3, rfl, he5⟩
      case inl => exact absurd rfl h4
      have HF4 := Lib.hid he5
      have R6 := refPlay_any a2 xs.length c2 m xs w4 rfl hm20 HG.out HE4.out
      clear he5 hb4 HE3 B3
      go_wp2_with fail
      refine R6.mono ?_
      rintro e w5 ⟨hb5, a6, c6, rfl, he6⟩
      have B5 := Lib.hid (below_next B4.out hb5)
      have HF5 : Hid (Elems encF 2 w5 a3 (foTo m xs xs.length)) := Lib.hid (HF4.out.at hb5)
      have HF6 := Lib.hid he6
      have HOL := Lib.hid (foTo_len m xs xs.length)
      have hln : ((xs.length : Int) != (xs.length : Int)) = false := by simp
      clear R6 hb5 he6 HF4 B4 HE4 H2 H3 H4 HX
      generalize foTo m xs xs.length = O at *
      have R7 := Lib.hid (fun w' (hb : Below w5.heap.size w5 w') => lost_any a3 xs.length c3 O w' HOL.out.symm (by rw [HOL.out]; omega) (HF5.out.at hb))
      go_wp2
      go_loopw [11, 12] (fun nv iv wr => ∃ k m : Nat, k ≤ xs.length ∧ iv = .int .i64 k ∧ nv = .int .i64 (lostTo O k) ∧ wr = w5.drewN m) (fun _ iv _ => xs.length - (intOf iv).toNat)
      case atStart => exact ⟨0, 0, by omega, rfl, by simp [lostTo], rfl⟩
      case round =>
        obtain ⟨k, md, hk, rfl, rfl, rfl⟩ := hrel
        by_cases hlt : k < xs.length
        · have hkO : k < O.length := by rw [HOL.out]; exact hlt
          obtain ⟨b, o, rfl, hc⟩ := HF5.out.some hkO
          obtain ⟨b2, o2, rfl, hc2⟩ := HF6.out.some hkO
          have p0 := hc k hkO 0 _ rfl
          have p1 := hc k hkO 1 _ rfl
          have q0 := hc2 k hkO 0 _ rfl
          have q1 := hc2 k hkO 1 _ rfl
          simp only [Nat.add_zero] at p0 q0
          have HS := Lib.hid (lost_succ O k hkO)
          have hb := lost_le O k
          clear hc hc2
          generalize O[k] = x at *
          obtain ⟨x1, x2⟩ := x
          simp only at p0 p1 q0 q1 HS
          generalize lostTo O k = q at *
          have hw : IntKind.i64.wrap (q + 1) = q + 1 := IntWalk.i64_in _ (by omega)
          have d0 : (x1 != x1) = false := by simp
          have d1 : (x2 != x2) = false := by simp
          have hk2 : (k : Int) < (xs.length : Int) := by omega
          by_cases h1 : x1 < 0
          · have HV : Hid (lostTo O (k + 1) = q + 1) := Lib.hid (by rw [HS.out, if_pos h1])
            go_wp2
            go_quiet (fail)
            go_wp2
            exact ⟨⟨k + 1, _, by omega, by go_num, by rw [HV.out], rfl⟩, by simp [intOf]; omega⟩
          · have HV : Hid (lostTo O (k + 1) = q) := Lib.hid (by rw [HS.out, if_neg h1])
            go_wp2
            go_quiet (fail)
            go_wp2
            exact ⟨⟨k + 1, _, by omega, by go_num, by rw [HV.out], rfl⟩, by simp [intOf]; omega⟩
        · obtain rfl : k = xs.length := by omega
          have R8 := R7.out (w5.drewN md) (below_drewN _ _ _)
          rw [HOL.out] at R8
          have heq : (lostTo O xs.length == lostTo O xs.length) = true := by simp
          have B6 := Lib.hid (B5.out.trans (below_drewN w5 md w.heap.size))
          clear R7
          go_wp2_with fail
          refine R8.mono ?_
          rintro e w8 ⟨rfl, hb8⟩
          have B8 := Lib.hid (below_next B6.out hb8)
          clear hb8
          go_wp2
          go_ret
          exact ⟨rfl, B8.out⟩
end Go.Proofs.YtannijeiecmjpaaDoor
