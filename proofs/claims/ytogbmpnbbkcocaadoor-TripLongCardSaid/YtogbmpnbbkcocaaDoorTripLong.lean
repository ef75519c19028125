/- How long a round way is (19.1): trip.Long and the reference's Long; the law TripLong. -/
import Derived.Test.YtogbmpnbbkcocaaDoorTripChk
import Derived.Test.YtogbmpnbbkcocaaDoorWhole
namespace Go.Proofs.YtogbmpnbbkcocaaDoor
open Go.RowKit

def distM (A : List (List Int)) (i k : Int) : Int := (A.getD i.toNat []).getD k.toNat 0
/-- The first k legs of a round way. -/
def legM (A : List (List Int)) (way : List Int) : Nat → Int
  | 0 => 0
  | k + 1 => legM A way k + distM A (way.getD k 0) (way.getD ((k + 1) % way.length) 0)
def longM (A : List (List Int)) (way : List Int) : Int := if 1 < way.length then legM A way way.length else 0
def badAt (n : Nat) (x : Int) : Bool := decide (x < 0) || decide ((n : Int) ≤ x)
def longErr (A : List (List Int)) (way : List Int) : Int :=
  if mapCheck A ≠ 0 then mapCheck A else if 100 < way.length then 4 else if way.any (badAt A.length) = true then 2 else 0
theorem badAt_no {n : Nat} {x : Int} (h : badAt n x = false) : 0 ≤ x ∧ x < n := by
  simp only [badAt, Bool.or_eq_false_iff, decide_eq_false_iff_not] at h
  omega
theorem any_no {n : Nat} {way : List Int} (h : ¬ way.any (badAt n) = true) : ∀ x ∈ way, 0 ≤ x ∧ x < n := by
  intro x hx
  refine badAt_no ?_
  cases hq : badAt n x with
  | false => rfl
  | true => exact absurd (List.any_eq_true.2 ⟨x, hx, hq⟩) h
theorem dist_at {A : List (List Int)} (hA : ∀ r ∈ A, r.length = A.length ∧ ∀ x ∈ r, 0 ≤ x ∧ x ≤ 1000000000) {i k : Nat} (hi : i < A.length) (hk : k < A.length) :
    ∃ h : k < A[i].length, distM A i k = A[i][k] ∧ 0 ≤ A[i][k] ∧ A[i][k] ≤ 1000000000 := by
  have h1 := hA _ (List.getElem_mem hi)
  have h2 : k < A[i].length := by rw [h1.1]; exact hk
  refine ⟨h2, ?_, h1.2 _ (List.getElem_mem h2)⟩
  have e1 : A.getD i [] = A[i] := by simp [List.getD, hi]
  unfold distM
  rw [Int.toNat_natCast, Int.toNat_natCast, e1]
  simp [List.getD, h2]
theorem leg_bd {A : List (List Int)} (hA : ∀ r ∈ A, r.length = A.length ∧ ∀ x ∈ r, 0 ≤ x ∧ x ≤ 1000000000) (way : List Int) : ∀ k, 0 ≤ legM A way k ∧ legM A way k ≤ k * 1000000000 := by
  have hd : ∀ i k, 0 ≤ distM A i k ∧ distM A i k ≤ 1000000000 := by
    intro i k
    unfold distM
    rcases Nat.lt_or_ge i.toNat A.length with g | g
    · have e1 : A.getD i.toNat [] = A[i.toNat] := by simp [List.getD, g]
      rw [e1]
      rcases Nat.lt_or_ge k.toNat A[i.toNat].length with g2 | g2
      · have e2 : A[i.toNat].getD k.toNat 0 = A[i.toNat][k.toNat] := by simp [List.getD, g2]
        rw [e2]
        exact (hA _ (List.getElem_mem g)).2 _ (List.getElem_mem g2)
      · simp [List.getD, List.getElem?_eq_none g2]
    · simp [List.getD, List.getElem?_eq_none g]
  intro k
  induction k with
  | zero => simp [legM]
  | succ k ih =>
    have := hd (way.getD k 0) (way.getD ((k + 1) % way.length) 0)
    unfold legM
    omega
theorem getI_nat {ys : List Int} {k : Nat} (h : k < ys.length) : ys.getD k 0 = ys[k] := by simp [List.getD, h]

set_option maxRecDepth 100000 in
set_option maxHeartbeats 8000000 in
theorem long_ok (a a2 : Option Addr) (n n2 cap cap2 : Nat) (A : List (List Int)) (way : List Int) (w : World) (hl : n = A.length) (hl2 : n2 = way.length) (hM : mapCheck A = 0) (hW : way.length ≤ 100) (hB : ∀ x ∈ way, 0 ≤ x ∧ x < A.length) (hr : Rows2 w a A) (hx : Elems encI 1 w a2 way) :
    Calls Tryd.prog 32 #[.slice a n cap, .slice a2 n2 cap2] w fun e w' => e = .returned (.tuple #[.int .i64 (longM A way), .nilIface]) ∧ Below w.heap.size w w' := by
  subst hl; subst hl2
  obtain ⟨hA9, hA⟩ := map_ok hM
  have hC := tripChk_any a _ cap A w rfl (by unfold maxLen; omega) hr
  rw [hM, show errV 0 = .nilIface from rfl] at hC
  have HRR := Lib.hid hr
  have HX := Lib.hid hx
  have HB := Lib.hid hB
  have HA := Lib.hid hA
  have HLB := Lib.hid (leg_bd hA way)
  obtain ⟨lv, hlv⟩ : ∃ v, v = longM A way := ⟨_, rfl⟩
  rw [← hlv]
  have HLV := Lib.hid hlv
  clear hr hx hB hA hM hlv
  go_enter Tryd.func32, Tryd.ntmps32
  go_wp2_with fail
  refine hC.mono ?_
  rintro e w1 ⟨rfl, hb1⟩
  clear hC
  have HR1 := Lib.hid (HRR.out.at hb1)
  have HX1 := Lib.hid (HX.out.at hb1)
  go_wp2
  go_loop [7, 21] (fun sv iv => ∃ k : Nat, k ≤ way.length ∧ iv = .int .i64 k ∧ sv = .int .i64 (legM A way (k - 1))) (fun _ iv => way.length - (intOf iv).toNat)
  case atStart => exact ⟨0, by omega, rfl, rfl⟩
  case round =>
    obtain ⟨k, hk, rfl, rfl⟩ := hrel
    by_cases hlt : k < way.length
    · obtain ⟨b, o, rfl, hc⟩ := HX1.out.some hlt
      have g1 := hc k hlt 0 _ rfl
      simp only [Nat.add_zero, Nat.mul_one] at g1
      have hwk := HB.out _ (List.getElem_mem hlt)
      obtain ⟨q, hq⟩ := Int.eq_ofNat_of_zero_le hwk.1
      have hqA : q < A.length := by omega
      have hq1 : ¬ ((q : Int) < 0) := by omega
      have hq2 : ¬ ((A.length : Int) ≤ (q : Int)) := by omega
      rw [hq] at g1
      rcases Nat.eq_zero_or_pos k with hk0 | hk0
      · subst hk0
        simp only [Nat.add_zero] at g1
        clear hc hwk
        go_wp2
        exact ⟨⟨1, by omega, by go_num, rfl⟩, by simp [intOf]; omega⟩
      · obtain ⟨j, rfl⟩ : ∃ j, k = j + 1 := ⟨k - 1, by omega⟩
        have hjl : j < way.length := by omega
        have g2 := hc j hjl 0 _ rfl
        simp only [Nat.add_zero, Nat.mul_one] at g2
        have hwj := HB.out _ (List.getElem_mem hjl)
        obtain ⟨p, hp⟩ := Int.eq_ofNat_of_zero_le hwj.1
        have hpA : p < A.length := by omega
        rw [hp] at g2
        obtain ⟨b2, o2, rfl, hcA⟩ := HR1.out.some hpA
        obtain ⟨ar, cr, e1, e2, e3, e4⟩ := hcA p hpA
        obtain ⟨hqr, hd1, hd2, hd3⟩ := dist_at HA.out hpA hqA
        obtain ⟨b3, o3, rfl, hc3⟩ := e4.some hqr
        have g3 := hc3 q hqr 0 _ rfl
        simp only [Nat.add_zero, Nat.mul_one] at g3
        have hrl : A[p].length = A.length := (HA.out _ (List.getElem_mem hpA)).1
        rw [hrl] at e1
        have hst : legM A way (j + 1) = legM A way j + A[p][q] := by
          rw [← hd1]
          show _ + distM A (way.getD j 0) (way.getD ((j + 1) % way.length) 0) = _
          rw [Nat.mod_eq_of_lt hlt, getI_nat hjl, getI_nat hlt, hp, hq]
        have HST := Lib.hid hst
        have hlb := HLB.out j
        have hlb1 := hlb.1
        have hlb2 : legM A way j ≤ 100000000000 := by omega
        have hjd : ((j + 1 : Nat) : Int) - 1 = (j : Int) := by omega
        have HJD := Lib.hid hjd
        clear hc hcA hc3 e2 e3 e4 hwk hwj hst hlb hrl hjd hd1
        simp only [Nat.add_sub_cancel]
        generalize legM A way j = s at *
        generalize A[p][q] = dq at *
        obtain ⟨jj, hjj⟩ : ∃ jj : Nat, jj = j + 1 := ⟨_, rfl⟩
        have hj1 : (0 : Int) < (jj : Int) := by omega
        have hj2 : (jj : Int) - 1 = (j : Int) := by omega
        rw [← hjj] at g1 hlt ⊢
        have HJJ := Lib.hid hjj
        clear hjj
        go_wp2
        exact ⟨⟨jj + 1, by omega, by go_num, by rw [Nat.add_sub_cancel, HJJ.out, HST.out]⟩, by simp [intOf]; omega⟩
    · obtain rfl : k = way.length := by omega
      by_cases h1 : 1 < way.length
      · have hd : decide ((1 : Int) < (way.length : Int)) = true := by simp; omega
        have h0 : 0 < way.length := by omega
        have hlast : way.length - 1 < way.length := by omega
        obtain ⟨b, o, rfl, hc⟩ := HX1.out.some h0
        have g1 := hc 0 h0 0 _ rfl
        have g2 := hc (way.length - 1) hlast 0 _ rfl
        simp only [Nat.add_zero, Nat.mul_one] at g1 g2
        have hw0 := HB.out _ (List.getElem_mem h0)
        have hwl := HB.out _ (List.getElem_mem hlast)
        obtain ⟨q, hq⟩ := Int.eq_ofNat_of_zero_le hw0.1
        obtain ⟨p, hp⟩ := Int.eq_ofNat_of_zero_le hwl.1
        have hqA : q < A.length := by omega
        have hpA : p < A.length := by omega
        rw [hq] at g1
        rw [hp] at g2
        obtain ⟨b2, o2, rfl, hcA⟩ := HR1.out.some hpA
        obtain ⟨ar, cr, e1, e2, e3, e4⟩ := hcA p hpA
        obtain ⟨hqr, hd1, hd2, hd3⟩ := dist_at HA.out hpA hqA
        obtain ⟨b3, o3, rfl, hc3⟩ := e4.some hqr
        have g3 := hc3 q hqr 0 _ rfl
        simp only [Nat.add_zero, Nat.mul_one] at g3
        have hrl : A[p].length = A.length := (HA.out _ (List.getElem_mem hpA)).1
        rw [hrl] at e1
        obtain ⟨L, hL⟩ : ∃ L, L = way.length - 1 := ⟨_, rfl⟩
        have hLe : way.length = L + 1 := by omega
        have hst : lv = legM A way L + A[p][q] := by
          rw [HLV.out]
          unfold longM
          rw [if_pos h1, ← hd1]
          have e : legM A way way.length = legM A way (L + 1) := by rw [hLe]
          rw [e]
          show _ + distM A (way.getD L 0) (way.getD ((L + 1) % way.length) 0) = _
          rw [← hLe, Nat.mod_self, getI_nat h0, hq, hL, getI_nat hlast, hp]
        have HST := Lib.hid hst
        have hlb := HLB.out L
        have hlb1 := hlb.1
        have hlb2 : legM A way L ≤ 100000000000 := by omega
        rw [← hL] at g2 ⊢
        have hLI : (way.length : Int) - 1 = (L : Int) := by omega
        have hLI2 : IntKind.i64.wrap ((way.length : Int) - 1) = (L : Int) := by rw [hLI]; exact IntWalk.i64_in _ (by omega)
        have hLl : L < way.length := by omega
        have HLE := Lib.hid hLe
        clear hc hcA hc3 e2 e3 e4 hw0 hwl hst hlb hrl hd1 hL hLe HLV
        generalize legM A way L = s at *
        generalize A[p][q] = dq at *
        have hsum : IntKind.i64.wrap (s + dq) = s + dq := IntWalk.i64_in _ (by omega)
        go_wp2_with fail
        go_quiet (fail)
        clear hsum hLI2
        go_wp2
        go_ret2
        exact ⟨by rw [HST.out]; rfl, below_drewN' hb1 _⟩
      · have hd : decide ((1 : Int) < (way.length : Int)) = false := by simp; omega
        have hst : lv = legM A way (way.length - 1) := by
          rw [HLV.out]
          unfold longM
          rw [if_neg h1, show way.length - 1 = 0 by omega]
          rfl
        rw [← hst]
        clear hst HLV h1
        go_wp2
        go_ret2
        exact ⟨rfl, hb1⟩

set_option maxRecDepth 100000 in
set_option maxHeartbeats 8000000 in
theorem long_range (a a2 : Option Addr) (n n2 cap cap2 : Nat) (A : List (List Int)) (way : List Int) (w : World) (hl : n = A.length) (hl2 : n2 = way.length) (hM : mapCheck A = 0) (hW : way.length ≤ 100) (hB : way.any (badAt A.length) = true) (hr : Rows2 w a A) (hx : Elems encI 1 w a2 way) :
    Calls Tryd.prog 32 #[.slice a n cap, .slice a2 n2 cap2] w fun e w' => e = .returned (.tuple #[.int .i64 0, .iface 25 (.int .i64 2)]) ∧ Below w.heap.size w w' := by
  subst hl; subst hl2
  obtain ⟨hA9, hA⟩ := map_ok hM
  have hC := tripChk_any a _ cap A w rfl (by unfold maxLen; omega) hr
  rw [hM, show errV 0 = .nilIface from rfl] at hC
  have HRR := Lib.hid hr
  have HX := Lib.hid hx
  have HB := Lib.hid hB
  have HA := Lib.hid hA
  have HLB := Lib.hid (leg_bd hA way)
  clear hr hx hB hA hM
  go_enter Tryd.func32, Tryd.ntmps32
  go_wp2_with fail
  refine hC.mono ?_
  rintro e w1 ⟨rfl, hb1⟩
  clear hC
  have HR1 := Lib.hid (HRR.out.at hb1)
  have HX1 := Lib.hid (HX.out.at hb1)
  go_wp2
  go_loop [7, 21] (fun sv iv => ∃ k : Nat, k ≤ way.length ∧ iv = .int .i64 k ∧ sv = .int .i64 (legM A way (k - 1)) ∧ Hid (∀ j (h : j < way.length), j < k → 0 ≤ way[j] ∧ way[j] < A.length)) (fun _ iv => way.length - (intOf iv).toNat)
  case atStart => exact ⟨0, by omega, rfl, rfl, Lib.hid (fun j _ hj => by omega)⟩
  case round =>
    obtain ⟨k, hk, rfl, rfl, HV⟩ := hrel
    by_cases hlt : k < way.length
    · obtain ⟨b, o, rfl, hc⟩ := HX1.out.some hlt
      have g1 := hc k hlt 0 _ rfl
      simp only [Nat.add_zero, Nat.mul_one] at g1
      by_cases hbad : badAt A.length way[k] = true
      · simp only [badAt, Bool.or_eq_true, decide_eq_true_eq] at hbad
        clear hc HV
        generalize way[k] = x at *
        go_wp2_with fail
        all_goals first
          | (exfalso; omega)
          | (go_ret2; exact ⟨rfl, hb1⟩)
      have hwk := badAt_no (show badAt A.length way[k] = false by simpa using hbad)
      have HV2 : Hid (∀ j (h : j < way.length), j < k + 1 → 0 ≤ way[j] ∧ way[j] < A.length) := Lib.hid (fun j hj hjk => by
        by_cases h : j = k
        · subst h; exact hwk
        · exact HV.out j hj (by omega))
      clear hbad
      obtain ⟨q, hq⟩ := Int.eq_ofNat_of_zero_le hwk.1
      have hqA : q < A.length := by omega
      have hq1 : ¬ ((q : Int) < 0) := by omega
      have hq2 : ¬ ((A.length : Int) ≤ (q : Int)) := by omega
      rw [hq] at g1
      rcases Nat.eq_zero_or_pos k with hk0 | hk0
      · subst hk0
        simp only [Nat.add_zero] at g1
        clear hc hwk
        go_wp2
        exact ⟨⟨1, by omega, by go_num, rfl, HV2⟩, by simp [intOf]; omega⟩
      · obtain ⟨j, rfl⟩ : ∃ j, k = j + 1 := ⟨k - 1, by omega⟩
        have hjl : j < way.length := by omega
        have g2 := hc j hjl 0 _ rfl
        simp only [Nat.add_zero, Nat.mul_one] at g2
        have hwj := HV.out j hjl (by omega)
        obtain ⟨p, hp⟩ := Int.eq_ofNat_of_zero_le hwj.1
        have hpA : p < A.length := by omega
        rw [hp] at g2
        obtain ⟨b2, o2, rfl, hcA⟩ := HR1.out.some hpA
        obtain ⟨ar, cr, e1, e2, e3, e4⟩ := hcA p hpA
        obtain ⟨hqr, hd1, hd2, hd3⟩ := dist_at HA.out hpA hqA
        obtain ⟨b3, o3, rfl, hc3⟩ := e4.some hqr
        have g3 := hc3 q hqr 0 _ rfl
        simp only [Nat.add_zero, Nat.mul_one] at g3
        have hrl : A[p].length = A.length := (HA.out _ (List.getElem_mem hpA)).1
        rw [hrl] at e1
        have hst : legM A way (j + 1) = legM A way j + A[p][q] := by
          rw [← hd1]
          show _ + distM A (way.getD j 0) (way.getD ((j + 1) % way.length) 0) = _
          rw [Nat.mod_eq_of_lt hlt, getI_nat hjl, getI_nat hlt, hp, hq]
        have HST := Lib.hid hst
        have hlb := HLB.out j
        have hlb1 := hlb.1
        have hlb2 : legM A way j ≤ 100000000000 := by omega
        have hjd : ((j + 1 : Nat) : Int) - 1 = (j : Int) := by omega
        have HJD := Lib.hid hjd
        clear hc hcA hc3 e2 e3 e4 hwk hwj hst hlb hrl hjd hd1
        simp only [Nat.add_sub_cancel]
        generalize legM A way j = s at *
        generalize A[p][q] = dq at *
        obtain ⟨jj, hjj⟩ : ∃ jj : Nat, jj = j + 1 := ⟨_, rfl⟩
        have hj1 : (0 : Int) < (jj : Int) := by omega
        have hj2 : (jj : Int) - 1 = (j : Int) := by omega
        rw [← hjj] at g1 hlt HV2 ⊢
        have HJJ := Lib.hid hjj
        clear hjj
        go_wp2
        exact ⟨⟨jj + 1, by omega, by go_num, by rw [Nat.add_sub_cancel, HJJ.out, HST.out], HV2⟩, by simp [intOf]; omega⟩
    · obtain rfl : k = way.length := by omega
      exfalso
      obtain ⟨x, hx, hb⟩ := List.any_eq_true.1 HB.out
      obtain ⟨j, hj, rfl⟩ := List.mem_iff_getElem.1 hx
      have h := HV.out j hj hj
      simp only [badAt, Bool.or_eq_true, decide_eq_true_eq] at hb
      omega

theorem long_bad (a a2 : Option Addr) (n n2 cap cap2 : Nat) (A : List (List Int)) (w : World) (hl : n = A.length) (hn : n ≤ maxLen) (hM : mapCheck A ≠ 0) (hr : Rows2 w a A) :
    Calls Tryd.prog 32 #[.slice a n cap, .slice a2 n2 cap2] w fun e w' => e = .returned (.tuple #[.int .i64 0, errV (mapCheck A)]) ∧ Below w.heap.size w w' := by
  subst hl
  have hC := tripChk_any a _ cap A w rfl hn hr
  rw [show errV (mapCheck A) = .iface 25 (.int .i64 (mapCheck A)) from if_neg hM] at hC ⊢
  generalize mapCheck A = er at *
  clear hr hM
  go_enter Tryd.func32, Tryd.ntmps32
  go_wp2_with fail
  refine hC.mono ?_
  rintro e w1 ⟨rfl, hb1⟩
  go_wp2
  go_ret2
  exact ⟨rfl, hb1⟩
theorem long_limit (a a2 : Option Addr) (n n2 cap cap2 : Nat) (A : List (List Int)) (way : List Int) (w : World) (hl : n = A.length) (hl2 : n2 = way.length) (hM : mapCheck A = 0) (hW : 100 < way.length) (hr : Rows2 w a A) :
    Calls Tryd.prog 32 #[.slice a n cap, .slice a2 n2 cap2] w fun e w' => e = .returned (.tuple #[.int .i64 0, .iface 25 (.int .i64 4)]) ∧ Below w.heap.size w w' := by
  subst hl; subst hl2
  obtain ⟨hA9, hA⟩ := map_ok hM
  have hC := tripChk_any a _ cap A w rfl (by unfold maxLen; omega) hr
  rw [hM, show errV 0 = .nilIface from rfl] at hC
  have hd : decide ((100 : Int) < (way.length : Int)) = true := by simp; omega
  clear hr hM hA hW
  go_enter Tryd.func32, Tryd.ntmps32
  go_wp2_with fail
  refine hC.mono ?_
  rintro e w1 ⟨rfl, hb1⟩
  go_wp2
  go_ret2
  exact ⟨rfl, hb1⟩
set_option maxRecDepth 100000 in
set_option maxHeartbeats 8000000 in
theorem refLong_any (a a2 : Option Addr) (n n2 cap cap2 : Nat) (A : List (List Int)) (way : List Int) (w : World) (hl : n = A.length) (hl2 : n2 = way.length) (hM : mapCheck A = 0) (hW : way.length ≤ 100) (hB : ∀ x ∈ way, 0 ≤ x ∧ x < A.length) (hr : Rows2 w a A) (hx : Elems encI 1 w a2 way) :
    Calls Tryd.prog 31 #[.slice a n cap, .slice a2 n2 cap2] w fun e w' => e = .returned (.int .i64 (longM A way)) ∧ Below w.heap.size w w' := by
  subst hl; subst hl2
  obtain ⟨hA9, hA⟩ := map_ok hM
  have HRR := Lib.hid hr
  have HX := Lib.hid hx
  have HB := Lib.hid hB
  have HA := Lib.hid hA
  have HLB := Lib.hid (leg_bd hA way)
  obtain ⟨lv, hlv⟩ : ∃ v, v = longM A way := ⟨_, rfl⟩
  rw [← hlv]
  have HLV := Lib.hid hlv
  clear hr hx hB hA hM hlv
  go_enter Tryd.func31, Tryd.ntmps31
  go_wp2
  go_loopw [5, 9] (fun sv iv wr => ∃ k : Nat, k ≤ way.length ∧ iv = .int .i64 k ∧ sv = .int .i64 (if 1 < way.length then legM A way k else 0) ∧ ∃ m, wr = w.drewN m) (fun _ iv _ => way.length - (intOf iv).toNat)
  case atStart => exact ⟨0, by omega, rfl, by simp [legM], 0, rfl⟩
  case round =>
    obtain ⟨k, hk, rfl, rfl, m, rfl⟩ := hrel
    by_cases hlt : k < way.length
    · by_cases h1 : 1 < way.length
      · have hd : decide ((1 : Int) < (way.length : Int)) = true := by simp; omega
        simp only [if_pos h1]
        have hnl : (k + 1) % way.length < way.length := Nat.mod_lt _ (by omega)
        obtain ⟨b, o, rfl, hc⟩ := HX.out.some hlt
        have g1 := hc k hlt 0 _ rfl
        have g2 := hc ((k + 1) % way.length) hnl 0 _ rfl
        simp only [Nat.add_zero, Nat.mul_one] at g1 g2
        have hwk := HB.out _ (List.getElem_mem hlt)
        have hwn := HB.out _ (List.getElem_mem hnl)
        obtain ⟨p, hp⟩ := Int.eq_ofNat_of_zero_le hwk.1
        obtain ⟨q, hq⟩ := Int.eq_ofNat_of_zero_le hwn.1
        have hqA : q < A.length := by omega
        have hpA : p < A.length := by omega
        rw [hp] at g1
        rw [hq] at g2
        obtain ⟨b2, o2, rfl, hcA⟩ := HRR.out.some hpA
        obtain ⟨ar, cr, e1, e2, e3, e4⟩ := hcA p hpA
        obtain ⟨hqr, hd1, hd2, hd3⟩ := dist_at HA.out hpA hqA
        obtain ⟨b3, o3, rfl, hc3⟩ := e4.some hqr
        have g3 := hc3 q hqr 0 _ rfl
        simp only [Nat.add_zero, Nat.mul_one] at g3
        have hrl : A[p].length = A.length := (HA.out _ (List.getElem_mem hpA)).1
        rw [hrl] at e1
        have hst : legM A way (k + 1) = legM A way k + A[p][q] := by
          rw [← hd1]
          show _ + distM A (way.getD k 0) (way.getD ((k + 1) % way.length) 0) = _
          rw [getI_nat hlt, getI_nat hnl, hp, hq]
        have HST := Lib.hid hst
        have hlb := HLB.out k
        have hlb1 := hlb.1
        have hlb2 : legM A way k ≤ 100000000000 := by omega
        obtain ⟨nx, hnx⟩ : ∃ nx : Nat, nx = (k + 1) % way.length := ⟨_, rfl⟩
        rw [← hnx] at g2 hnl
        have hw1 : IntKind.i64.wrap ((k : Int) + 1) = (k : Int) + 1 := IntWalk.i64_in _ (by omega)
        have hrem : ((k : Int) + 1).tmod (way.length : Int) = (nx : Int) := by
          rw [hnx]
          have : ((k : Int) + 1) = ((k + 1 : Nat) : Int) := by omega
          rw [this, Int.tmod_eq_emod_of_nonneg (by omega)]
          exact (Int.natCast_emod _ _).symm
        have hzero : ((way.length : Int) == 0) = false := beq_eq_false_iff_ne.2 (by omega)
        clear hc hcA hc3 e2 e3 e4 hwk hwn hst hlb hrl hd1 hnx
        generalize legM A way k = s at *
        generalize A[p][q] = dq at *
        have hsum : IntKind.i64.wrap (s + dq) = s + dq := IntWalk.i64_in _ (by omega)
        go_wp2_with fail
        go_quiet (fail)
        clear hsum hw1 hrem
        go_wp2
        exact ⟨⟨k + 1, by omega, by go_num, by rw [HST.out], _, rfl⟩, by simp [intOf]; omega⟩
      · have hd : decide ((1 : Int) < (way.length : Int)) = false := by simp; omega
        simp only [if_neg h1]
        go_wp2
        exact ⟨⟨k + 1, by omega, by go_num, rfl, _, rfl⟩, by simp [intOf]; omega⟩
    · obtain rfl : k = way.length := by omega
      have hst : (if 1 < way.length then legM A way way.length else 0) = lv := HLV.out.symm
      rw [hst]
      clear hst HLV
      go_wp2
      go_ret
      exact ⟨rfl, below_drewN _ _ _⟩
end Go.Proofs.YtogbmpnbbkcocaaDoor
