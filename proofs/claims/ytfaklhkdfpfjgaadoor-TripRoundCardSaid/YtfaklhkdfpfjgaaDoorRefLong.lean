/- How long a round way is (19.1): the reference's Long. -/
import Derived.Test.YtfaklhkdfpfjgaaDoorLongM
namespace Go.Proofs.YtfaklhkdfpfjgaaDoor
open Go.RowKit
set_option maxRecDepth 100000 in
set_option maxHeartbeats 8000000 in
theorem refLong_any (a a2 : Option Addr) (n n2 cap cap2 : Nat) (A : List (List Int)) (way : List Int) (w : World) (hl : n = A.length) (hl2 : n2 = way.length) (hM : mapCheck A = 0) (hW : way.length ≤ 100) (hB : ∀ x ∈ way, 0 ≤ x ∧ x < A.length) (hr : Rows2 w a A) (hx : Elems encI 1 w a2 way) :
    Calls Tryd.prog 89 #[.slice a n cap, .slice a2 n2 cap2] w fun e w' => e = .returned (.int .i64 (longM A way)) ∧ Below w.heap.size w w' := by
  subst hl; subst hl2
  obtain ⟨hA9, hA⟩ := map_ok hM
  have HRR := Lib.hid hr
  have HX := Lib.hid hx
  have HB := Lib.hid hB
  have HA := Lib.hid hA
  have HLB := Lib.hid (leg_bd hA way)
  obtain ⟨lv, hlv⟩ : ∃ v, v = longM A way := ⟨_, rfl⟩
  rw [← hlv]
  have HLV := Lib.hid hlv
  clear hr hx hB hA hM hlv
  go_enter Tryd.func89, Tryd.ntmps89
  go_wp2
  go_loopw [5, 9] (fun sv iv wr => ∃ k : Nat, k ≤ way.length ∧ iv = .int .i64 k ∧ sv = .int .i64 (if 1 < way.length then legM A way k else 0) ∧ ∃ m, wr = w.drewN m) (fun _ iv _ => way.length - (intOf iv).toNat)
  case atStart => exact ⟨0, by omega, rfl, by simp [legM], 0, rfl⟩
  case round =>
    obtain ⟨k, hk, rfl, rfl, m, rfl⟩ := hrel
    by_cases hlt : k < way.length
    · by_cases h1 : 1 < way.length
      · have hd : decide ((1 : Int) < (way.length : Int)) = true := by simp; omega
        simp only [if_pos h1]
        have hnl : (k + 1) % way.length < way.length := Nat.mod_lt _ (by omega)
        obtain ⟨b, o, rfl, hc⟩ := HX.out.some hlt
        have g1 := hc k hlt 0 _ rfl
        have g2 := hc ((k + 1) % way.length) hnl 0 _ rfl
        simp only [Nat.add_zero, Nat.mul_one] at g1 g2
        have hwk := HB.out _ (List.getElem_mem hlt)
        have hwn := HB.out _ (List.getElem_mem hnl)
        obtain ⟨p, hp⟩ := Int.eq_ofNat_of_zero_le hwk.1
        obtain ⟨q, hq⟩ := Int.eq_ofNat_of_zero_le hwn.1
        have hqA : q < A.length := by omega
        have hpA : p < A.length := by omega
        rw [hp] at g1
        rw [hq] at g2
        obtain ⟨b2, o2, rfl, hcA⟩ := HRR.out.some hpA
        obtain ⟨ar, cr, e1, e2, e3, e4⟩ := hcA p hpA
        obtain ⟨hqr, hd1, hd2, hd3⟩ := dist_at HA.out hpA hqA
        obtain ⟨b3, o3, rfl, hc3⟩ := e4.some hqr
        have g3 := hc3 q hqr 0 _ rfl
        simp only [Nat.add_zero, Nat.mul_one] at g3
        have hrl : A[p].length = A.length := (HA.out _ (List.getElem_mem hpA)).1
        rw [hrl] at e1
        have hst : legM A way (k + 1) = legM A way k + A[p][q] := by
          rw [← hd1]
          show _ + distM A (way.getD k 0) (way.getD ((k + 1) % way.length) 0) = _
          rw [getI_nat hlt, getI_nat hnl, hp, hq]
        have HST := Lib.hid hst
        have hlb := HLB.out k
        have hlb1 := hlb.1
        have hlb2 : legM A way k ≤ 100000000000 := by omega
        obtain ⟨nx, hnx⟩ : ∃ nx : Nat, nx = (k + 1) % way.length := ⟨_, rfl⟩
        rw [← hnx] at g2 hnl
        have hw1 : IntKind.i64.wrap ((k : Int) + 1) = (k : Int) + 1 := IntWalk.i64_in _ (by omega)
        have hrem : ((k : Int) + 1).tmod (way.length : Int) = (nx : Int) := by
          rw [hnx]
          have : ((k : Int) + 1) = ((k + 1 : Nat) : Int) := by omega
          rw [this, Int.tmod_eq_emod_of_nonneg (by omega)]
          exact (Int.natCast_emod _ _).symm
        have hzero : ((way.length : Int) == 0) = false := beq_eq_false_iff_ne.2 (by omega)
        clear hc hcA hc3 e2 e3 e4 hwk hwn hst hlb hrl hd1 hnx
        generalize legM A way k = s at *
        generalize A[p][q] = dq at *
        have hsum : IntKind.i64.wrap (s + dq) = s + dq := IntWalk.i64_in _ (by omega)
        go_wp2_with fail
        go_quiet (fail)
        clear hsum hw1 hrem
        go_wp2
        exact ⟨⟨k + 1, by omega, by go_num, by rw [HST.out], _, rfl⟩, by simp [intOf]; omega⟩
      · have hd : decide ((1 : Int) < (way.length : Int)) = false := by simp; omega
        simp only [if_neg h1]
        go_wp2
        exact ⟨⟨k + 1, by omega, by go_num, rfl, _, rfl⟩, by simp [intOf]; omega⟩
    · obtain rfl : k = way.length := by omega
      have hst : (if 1 < way.length then legM A way way.length else 0) = lv := HLV.out.symm
      rw [hst]
      clear hst HLV
      go_wp2
      go_ret
      exact ⟨rfl, below_drewN _ _ _⟩
end Go.Proofs.YtfaklhkdfpfjgaaDoor
