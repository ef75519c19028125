/- trip.Better (19.3): where it ends. -/
import Derived.Test.YtfaklhkdfpfjgaaDoorSlc
import Derived.Test.YtfaklhkdfpfjgaaDoorLineOrd
import Derived.Test.YtfaklhkdfpfjgaaDoorTripChk
namespace Go.Proofs.YtfaklhkdfpfjgaaDoor
open Go.RowKit

theorem rev_tab (W : List Int) {i k : Nat} (hik : i ≤ k) (hk : k < W.length) : revM W i k = tab W.length (revF (fun t => W.getD t 0) i k) := by
  refine List.ext_getElem (by rw [rev_len hik hk, tab_len]) fun t h1 h2 => ?_
  rw [tab_get]
  have htW : t < W.length := by rwa [rev_len hik hk] at h1
  have hg : ∀ j, j < W.length → W.getD j 0 = W[j]! := fun j hj => by simp [List.getD, hj]
  have h3 : (revM W i k)[t]? = some ((revM W i k)[t]) := List.getElem?_eq_getElem h1
  have key : (revM W i k)[t]? = some (revF (fun t => W.getD t 0) i k t) := by
    unfold revM revF
    by_cases c1 : t < i
    · rw [if_neg (by omega), List.append_assoc, List.getElem?_append_left (by rw [List.length_take]; omega), List.getElem?_take, if_pos c1]
      simp [List.getD, htW]
    · by_cases c2 : t ≤ k
      · rw [if_pos (by omega), List.append_assoc, List.getElem?_append_right (by rw [List.length_take]; omega), List.getElem?_append_left (by simp only [List.length_take, List.length_reverse, List.length_drop]; omega)]
        rw [List.getElem?_reverse (by simp only [List.length_take, List.length_drop]; omega), List.getElem?_take]
        simp only [List.length_take, List.length_drop]
        rw [if_pos (by omega), List.getElem?_drop]
        have e1 : i + (min (k + 1 - i) (W.length - i) - 1 - (t - min i W.length)) = i + k - t := by omega
        rw [e1]
        simp [List.getD, show i + k - t < W.length by omega]
      · rw [if_neg (by omega), List.getElem?_append_right (by simp only [List.length_append, List.length_take, List.length_reverse, List.length_drop]; omega)]
        simp only [List.length_append, List.length_take, List.length_reverse, List.length_drop]
        rw [List.getElem?_drop]
        have e1 : k + 1 + (t - (min i W.length + min (k + 1 - i) (W.length - i))) = t := by omega
        rw [e1]
        simp [List.getD, htW]
  rw [h3] at key
  exact Option.some.inj key
/-- A way read off the memory. -/
def wayOf (w : World) (a : Option Addr) (n : Nat) : List Int :=
  (List.range n).map fun j => match a with
    | some p => (match w.cell? ⟨p.block, p.off + j, none⟩ with | some (.int _ x) => x | _ => 0)
    | none => 0
theorem wayOf_eq {w : World} {a : Option Addr} {W : List Int} (h : Elems encI 1 w a W) : wayOf w a W.length = W := by
  refine List.ext_getElem (by simp [wayOf]) fun t h1 h2 => ?_
  obtain ⟨b, o, rfl, hc⟩ := h.some h2
  have h3 := hc t h2 0 _ rfl
  simp only [Nat.add_zero, Nat.mul_one] at h3
  simp [wayOf, h3]
def symB (A : List (List Int)) : Bool := (List.range A.length).all fun i => (List.range A.length).all fun k => decide (distM A (i : Int) (k : Int) = distM A (k : Int) (i : Int))
theorem symB_true {A : List (List Int)} (h : symB A = true) {x y : Int} (hx : 0 ≤ x ∧ x < A.length) (hy : 0 ≤ y ∧ y < A.length) : distM A x y = distM A y x := by
  obtain ⟨i, rfl⟩ := Int.eq_ofNat_of_zero_le hx.1
  obtain ⟨k, rfl⟩ := Int.eq_ofNat_of_zero_le hy.1
  have h1 := List.all_eq_true.1 h i (List.mem_range.2 (by omega))
  have h2 := List.all_eq_true.1 h1 k (List.mem_range.2 (by omega))
  exact of_decide_eq_true h2
theorem helps_less {A : List (List Int)} {w : List Int} {i k : Nat} (hs : symB A = true) (hw : WayOk A w) (hi : 1 ≤ i) (hik : i < k) (hk : k < w.length) : longM A (revM w i k) < longM A w ↔ Helps A w i k := by
  have h := rev_long (A := A) (w := w) (fun x hx y hy => symB_true hs (hw.2 x hx) (hw.2 y hy)) hi hik hk
  unfold Helps
  omega
theorem wayOk_at {A : List (List Int)} {w : List Int} (h : WayOk A w) {j : Nat} (hj : j < w.length) : ∃ p : Nat, w[j] = (p : Int) ∧ p < A.length ∧ w.getD j 0 = (p : Int) := by
  have h1 := h.2 _ (List.getElem_mem hj)
  obtain ⟨p, hp⟩ := Int.eq_ofNat_of_zero_le h1.1
  exact ⟨p, hp, by omega, by rw [← hp]; simp [List.getD, hj]⟩
theorem long_nonneg {A : List (List Int)} (hA : mapCheck A = 0) (w : List Int) : 0 ≤ longM A w := by
  obtain ⟨_, h⟩ := map_ok hA
  unfold longM
  split
  · exact (leg_bd h w _).1
  · omega
/-- The map's rows and numbers in memory, by their addresses. -/
theorem rows_at {w : World} {a : Option Addr} {A : List (List Int)} (hA : ∀ r ∈ A, r.length = A.length ∧ ∀ x ∈ r, 0 ≤ x ∧ x ≤ 1000000000) (h : Rows2 w a A) (h0 : 0 < A.length) :
    ∃ b2 o2, a = some ⟨b2, o2, none⟩ ∧ ∃ R : Nat → Nat × Nat × Nat, ∀ p, p < A.length → w.cell? ⟨b2, o2 + p, none⟩ = some (.slice (some ⟨(R p).1, (R p).2.1, none⟩) A.length (R p).2.2) ∧
      ∀ q, q < A.length → w.cell? ⟨(R p).1, (R p).2.1 + q, none⟩ = some (.int .i64 (distM A (p : Int) (q : Int))) := by
  obtain ⟨b2, o2, rfl, hcA⟩ := h.some h0
  refine ⟨b2, o2, rfl, ?_⟩
  have key : ∀ p, ∃ R : Nat × Nat × Nat, p < A.length → w.cell? ⟨b2, o2 + p, none⟩ = some (.slice (some ⟨R.1, R.2.1, none⟩) A.length R.2.2) ∧
      ∀ q, q < A.length → w.cell? ⟨R.1, R.2.1 + q, none⟩ = some (.int .i64 (distM A (p : Int) (q : Int))) := by
    intro p
    by_cases hp : p < A.length
    · obtain ⟨ar, cr, e1, e2, e3, e4⟩ := hcA p hp
      have hR := (hA _ (List.getElem_mem hp)).1
      obtain ⟨b3, o3, rfl, hc3⟩ := e4.some (j := 0) (by omega)
      refine ⟨(b3, o3, cr), fun _ => ⟨by rw [← hR]; exact e1, fun q hq => ?_⟩⟩
      obtain ⟨hpq, d1, _, _⟩ := dist_at hA hp hq
      have g1 := hc3 q hpq 0 _ rfl
      simp only [Nat.add_zero, Nat.mul_one] at g1
      rw [d1]; exact g1
    · exact ⟨(0, 0, 0), fun h => absurd h hp⟩
  obtain ⟨R, hR⟩ := Classical.axiomOfChoice key
  exact ⟨R, hR⟩
theorem dist_bd {A : List (List Int)} (hA : ∀ r ∈ A, r.length = A.length ∧ ∀ x ∈ r, 0 ≤ x ∧ x ≤ 1000000000) {p q : Nat} (hp : p < A.length) (hq : q < A.length) : 0 ≤ distM A (p : Int) (q : Int) ∧ distM A (p : Int) (q : Int) ≤ 1000000000 := by
  obtain ⟨_, h1, h2, h3⟩ := dist_at hA hp hq
  rw [h1]; exact ⟨h2, h3⟩
/-- An own row's place. -/
theorem own_place {w : World} {B g0 n cap : Nat} {a : Option Addr} {xs : List Value} (h : w.ownsRow B g0 1 (.slice a n cap) n xs) (hn : 0 < n) : ∃ g, a = some ⟨g, 0, none⟩ := by
  rcases h.2 with ⟨h1, h2⟩ | ⟨g, cap', cur, h1, _⟩
  · omega
  · obtain ⟨h2, _, _⟩ := Value.slice.inj h1
    exact ⟨g, h2⟩
def BetInv (A : List (List Int)) (way W : List Int) (bv : Bool) : Prop := WayOk A W ∧ (bv = false → NoneAt A W) ∧ ∀ r, EndsAt A W r → EndsAt A way r
def BetPost (A : List (List Int)) (way : List Int) (w : World) (e : Ending) (w' : World) : Prop :=
  ∃ a' cap' r, e = .returned (.tuple #[.slice a' A.length cap', .nilIface]) ∧ Elems encI 1 w' a' r ∧ EndsAt A way r ∧ r.length = A.length ∧ Below w.heap.size w w'

set_option maxRecDepth 100000 in
set_option maxHeartbeats 16000000 in
theorem better_ok (a a2 : Option Addr) (n n2 cap cap2 : Nat) (A : List (List Int)) (way : List Int) (w : World) (hl : n = A.length) (hl2 : n2 = way.length) (hM : mapCheck A = 0) (hO : orderM way A.length = 0) (hS : symB A = true) (ha2 : a2 = none → cap2 = 0)
    (hr : Rows2 w a A) (hx : Elems encI 1 w a2 way) :
    Calls Tryd.prog 54 #[.slice a n cap, .slice a2 n2 cap2] w (BetPost A way w) := by
  subst hl; subst hl2
  obtain ⟨hA9, hA⟩ := map_ok hM
  obtain ⟨ho1, ho2⟩ := order_ok hO
  have hwl : way.length = A.length := by omega
  have hWay : WayOk A way := ⟨hwl, fun x hx => by
    obtain ⟨j, hj, rfl⟩ := List.getElem_of_mem hx
    obtain ⟨q1, q2, _⟩ := ho2 j hj
    exact ⟨q1, q2⟩⟩
  have HC1 := tripChk_any a _ cap A w rfl (by unfold maxLen; omega) hr
  rw [hM, show errV 0 = .nilIface from rfl] at HC1
  have HC2 := fun w' h => order_any a2 _ cap2 (A.length : Int) way w' rfl (by omega) h
  rw [hO, show errV 0 = .nilIface from rfl] at HC2
  have HC1 := Lib.hid HC1
  have HC2 := Lib.hid HC2
  have HC3 := Lib.hid (fun w' h => clone_any a2 way.length cap2 way w' rfl (by omega) ha2 h)
  have HRR := Lib.hid hr
  have HX := Lib.hid hx
  have HA := Lib.hid hA
  have HS := Lib.hid hS
  have HM := Lib.hid hM
  have HWAY := Lib.hid hWay
  have HWL := Lib.hid hwl
  have hn9 : way.length ≤ 9 := by omega
  clear hr hx hA hS hM hO ho1 ho2 hWay ha2 hwl
  go_enter Tryd.func54, Tryd.ntmps54
  go_wp2_with fail
  refine HC1.out.mono ?_
  rintro e w1 ⟨rfl, hb1⟩
  go_wp2_with fail
  refine (HC2.out _ (HX.out.at hb1)).mono ?_
  rintro e w2 ⟨rfl, hb2⟩
  have hb02 := below_next hb1 hb2
  clear hb1 hb2
  go_wp2
  have hsp : ∀ i k : Nat, i < A.length → k < A.length → distM A (i : Int) (k : Int) = distM A (k : Int) (i : Int) := fun i k hi hk => symB_true HS.out ⟨by omega, by omega⟩ ⟨by omega, by omega⟩
  have HSP := Lib.hid hsp
  clear hsp
  go_loopw [8, 32] (fun _ iv wr => ∃ i m : Nat, i ≤ A.length ∧ iv = .int .i64 i ∧ wr = w2.drewN m) (fun _ iv _ => A.length - (intOf iv).toNat)
  case atStart => exact ⟨0, 0, by omega, rfl, rfl⟩
  case round =>
    obtain ⟨i, m, hi, rfl, rfl⟩ := hrel
    by_cases hil : i < A.length
    · go_wp2
      go_loopw [9, 37] (fun _ kv wr => ∃ k m : Nat, k ≤ A.length ∧ kv = .int .i64 k ∧ wr = w2.drewN m) (fun _ kv _ => A.length - (intOf kv).toNat)
      case atStart => exact ⟨0, m, by omega, rfl, rfl⟩
      case round =>
        obtain ⟨k, m, hk, rfl, rfl⟩ := hrel
        by_cases hkl : k < A.length
        · have hR := HRR.out.at hb02
          obtain ⟨b2, o2, rfl, hcA⟩ := hR.some hil
          obtain ⟨ar, cr, e1, e2, e3, e4⟩ := hcA i hil
          obtain ⟨a4, c4, f1, f2, f3, f4⟩ := hcA k hkl
          obtain ⟨hki, d1, _, _⟩ := dist_at HA.out hil hkl
          obtain ⟨hik, d2, _, _⟩ := dist_at HA.out hkl hil
          have hRi := (HA.out _ (List.getElem_mem hil)).1
          have hRk := (HA.out _ (List.getElem_mem hkl)).1
          obtain ⟨b3, o3, rfl, hc3⟩ := e4.some hki
          obtain ⟨b4, o4, rfl, hc4⟩ := f4.some hik
          have g1 := hc3 k hki 0 _ rfl
          have g2 := hc4 i hik 0 _ rfl
          simp only [Nat.add_zero, Nat.mul_one] at g1 g2
          rw [← d1] at g1
          rw [← d2] at g2
          rw [HSP.out i k hil hkl] at g1
          rw [hRi] at e1
          rw [hRk] at f1
          clear hcA hc3 hc4 d1 d2 e2 e3 e4 f2 f3 f4 hR
          generalize distM A (k : Int) (i : Int) = dv at *
          have hdv : (dv != dv) = false := by simp
          go_wp2
          go_quiet (fail)
          go_wp2
          exact ⟨⟨k + 1, _, by omega, by go_num, rfl⟩, by simp [intOf]; omega⟩
        · obtain rfl : k = A.length := by omega
          go_wp2
          exact ⟨⟨i + 1, m, by omega, by go_num, rfl⟩, by simp [intOf]; omega⟩
    · obtain rfl : i = A.length := by omega
      clear hil hi
      have hb02m : Below w.heap.size w (w2.drewN m) := below_drewN' hb02 m
      go_wp2_with fail
      refine (HC3.out _ (HX.out.at hb02m)).mono ?_
      rintro e w3 ⟨v, rfl, hown, hb3⟩
      have hb03 := below_next hb02m hb3
      obtain ⟨B0, hB0⟩ : ∃ B0, B0 = (w2.drewN m).heap.size := ⟨_, rfl⟩
      rw [← hB0] at hown
      have HB0 : Hid (w.heap.size ≤ B0) := Lib.hid (by rw [hB0]; exact hb02m.size)
      obtain ⟨a', cap', rfl, _, hcap⟩ := ints_of_owns rfl hown
      clear hb02 hb02m hb3 hB0 HC1 HC2 HC3
      go_wp2
      go_loopw [11] (fun av wr => ∃ (W : List Int) (bv : Bool), av = .bool bv ∧ Hid (BetInv A way W bv) ∧ wr.ownsRow B0 3 1 (.slice a' way.length cap') way.length (W.map (Value.int .i64)) ∧ Below w.heap.size w wr) (fun av wr => 2 * (longM A (wayOf wr a' way.length)).toNat + (match av with | .bool true => 1 | _ => 0))
      case atStart => exact ⟨way, true, rfl, Lib.hid ⟨HWAY.out, fun h => Bool.noConfusion h, fun r h => h⟩, hown, hb03⟩
      case round =>
        clear hown hb03
        obtain ⟨W, bv, rfl, HW, hown, hb⟩ := hrel
        have hWl : W.length = way.length := HW.out.1.1.trans HWL.out.symm
        obtain ⟨a5, cap5, hq5, he5, _⟩ := ints_of_owns hWl.symm hown
        obtain ⟨rfl, hq6, rfl⟩ := Value.slice.inj hq5
        have hwof : wayOf wr a' way.length = W := by rw [← hWl]; exact wayOf_eq he5
        have HWOF := Lib.hid hwof
        have HWl := Lib.hid hWl
        clear hwof hq5 hq6 hWl
        cases bv with
        | false =>
          have HE := Lib.hid he5
          clear hown he5
          go_wp2
          go_ret2
          unfold BetPost
          exact ⟨a', cap', W, by rw [HWL.out]; rfl, HE.out, HW.out.2.2 _ (EndsAt.done (HW.out.2.1 rfl)), HW.out.1.1, hb⟩
        | true =>
          clear he5
          obtain ⟨wo, hwo⟩ : ∃ wo : World, wo = wr := ⟨_, rfl⟩
          subst hwo
          go_wp2
          go_step3
          go_wp2
          go_step3
          go_wp2
          go_loopw [11, 12] (fun av iv wr => av = .bool false ∧ ∃ i m : Nat, 1 ≤ i ∧ i ≤ way.length + 1 ∧ iv = .int .i64 i ∧ Hid (∀ i' k', 1 ≤ i' → i' < k' → k' < W.length → i' < i → ¬ Helps A W i' k') ∧ wr = wo.drewN m) (fun _ iv _ => way.length + 2 - (intOf iv).toNat)
          case atStart => exact ⟨rfl, 1, 0, by omega, by omega, rfl, Lib.hid (fun i' k' h1 _ _ h4 => by omega), rfl⟩
          case round =>
            obtain ⟨rfl, i, m1, hi1, hil, rfl, HI, rfl⟩ := hrel
            by_cases hin : i < way.length
            · go_wp2
              go_loopw [11, 13] (fun av kv wr => av = .bool false ∧ ∃ k m : Nat, i + 1 ≤ k ∧ k ≤ way.length ∧ kv = .int .i64 k ∧ Hid (∀ k', i < k' → k' < k → ¬ Helps A W i k') ∧ wr = wo.drewN m) (fun _ kv _ => way.length - (intOf kv).toNat)
              case atStart => exact ⟨rfl, i + 1, m1, by omega, by omega, by go_num, Lib.hid (fun k' h1 h2 => by omega), rfl⟩
              case round =>
                obtain ⟨rfl, k, m2, hik, hkl, rfl, HK, rfl⟩ := hrel
                by_cases hkn : k < way.length
                · have hWl : W.length = way.length := HWl.out
                  have hwl : way.length = A.length := HWL.out
                  have hA0 : 0 < A.length := by omega
                  obtain ⟨g, hga⟩ := own_place hown (by omega)
                  obtain ⟨b2, o2, haa, R, hR⟩ := rows_at HA.out (HRR.out.at hb) hA0
                  obtain ⟨i0, hi0⟩ : ∃ i0 : Nat, i0 = i - 1 := ⟨_, rfl⟩
                  obtain ⟨kd, hkd⟩ : ∃ kd : Nat, kd = (k + 1) % W.length := ⟨_, rfl⟩
                  have hkdl : kd < W.length := by rw [hkd]; exact Nat.mod_lt _ (by omega)
                  obtain ⟨pa, qa1, qa2, qa3⟩ := wayOk_at HW.out.1 (j := i0) (by omega)
                  obtain ⟨pb, qb1, qb2, qb3⟩ := wayOk_at HW.out.1 (j := i) (by omega)
                  obtain ⟨pc, qc1, qc2, qc3⟩ := wayOk_at HW.out.1 (j := k) (by omega)
                  obtain ⟨pd, qd1, qd2, qd3⟩ := wayOk_at HW.out.1 (j := kd) hkdl
                  have HH : Hid (Helps A W i k ↔ distM A pa pc + distM A pb pd < distM A pa pb + distM A pc pd) := Lib.hid (by
                    unfold Helps
                    rw [← hi0, ← hkd, qa3, qb3, qc3, qd3])
                  have hrem : ((k : Int) + 1).tmod (way.length : Int) = (kd : Int) := by
                    rw [hkd, hWl]
                    have : ((k : Int) + 1) = ((k + 1 : Nat) : Int) := by omega
                    rw [this, Int.tmod_eq_emod_of_nonneg (by omega)]
                    exact (Int.natCast_emod _ _).symm
                  have hzero : ((way.length : Int) == 0) = false := beq_eq_false_iff_ne.2 (by omega)
                  have hw1 : IntKind.i64.wrap ((k : Int) + 1) = (k : Int) + 1 := IntWalk.i64_in _ (by omega)
                  have hw2 : IntKind.i64.wrap ((i : Int) - 1) = (i0 : Int) := (IntWalk.i64_in _ (by omega)).trans (by omega)
                  subst hga
                  subst haa
                  have x1 := owns_get hown i0 (by omega) (by omega)
                  have x2 := owns_get hown i (by omega) (by omega)
                  have x3 := owns_get hown k (by omega) (by omega)
                  have x4 := owns_get hown kd (by omega) hkdl
                  rw [qa1] at x1
                  rw [qb1] at x2
                  rw [qc1] at x3
                  rw [qd1] at x4
                  obtain ⟨ra, da⟩ := hR pa qa2
                  obtain ⟨rb, db⟩ := hR pb qb2
                  obtain ⟨rc, dc⟩ := hR pc qc2
                  have dac := da pc qc2
                  have dab := da pb qb2
                  have dbd := db pd qd2
                  have dcd := dc pd qd2
                  obtain ⟨n1, n2⟩ := dist_bd HA.out qa2 qc2
                  obtain ⟨n3, n4⟩ := dist_bd HA.out qa2 qb2
                  obtain ⟨n5, n6⟩ := dist_bd HA.out qb2 qd2
                  obtain ⟨n7, n8⟩ := dist_bd HA.out qc2 qd2
                  have hi00 : (i0 : Int) < (way.length : Int) := by omega
                  have hkd0 : (kd : Int) < (way.length : Int) := by omega
                  have HI0 := Lib.hid hi0
                  rw [hwl] at hi00 hkd0 hrem hzero hkn hin hown ⊢
                  clear hR da db dc qa1 qa3 qb1 qb3 qc1 qc3 qd1 qd3 hkd hi0 hWl hkdl
                  generalize distM A (pa : Int) (pc : Int) = vac at *
                  generalize distM A (pa : Int) (pb : Int) = vab at *
                  generalize distM A (pb : Int) (pd : Int) = vbd at *
                  generalize distM A (pc : Int) (pd : Int) = vcd at *
                  generalize (R pa).1 = ba at *
                  generalize (R pa).2.1 = oa at *
                  generalize (R pb).1 = bb at *
                  generalize (R pb).2.1 = ob at *
                  generalize (R pc).1 = bc at *
                  generalize (R pc).2.1 = oc at *
                  by_cases hh : vac + vbd < vab + vcd
                  · have hfirst : FirstAt A W i k := ⟨hi1, by omega, by rw [HWl.out, HWL.out]; exact hkn, HH.out.2 hh, fun i' k' h1 h2 h3 h4 => by
                      rcases h4 with h4 | ⟨rfl, h4⟩
                      · exact HI.out i' k' h1 h2 h3 h4
                      · exact HK.out k' h2 h4⟩
                    have HF := Lib.hid hfirst
                    have hE : W.map (Value.int .i64) = rowV A.length (fun t => W.getD t 0) := by
                      unfold rowV
                      conv => lhs; rw [tab_of W]
                      rw [HWl.out, HWL.out]
                    have HOWN : Hid (∀ q, (wo.drewN q).ownsRow B0 3 1 (.slice (some ⟨g, 0, none⟩) A.length cap') A.length (rowV A.length (fun t => W.getD t 0))) := Lib.hid (fun q => by
                      rw [← hE]; exact hown)
                    have hgB := (owns_base hown).1
                    have hne : ¬ cap' = i := by omega
                    have hw3 : (k : Int) + 1 ≤ (cap' : Int) := by omega
                    have hw4 : (i : Int) ≤ (k : Int) + 1 := by omega
                    have hw5 : ((k : Int) + 1).toNat = k + 1 := by omega
                    clear hfirst hE
                    go_wp2
                    go_quiet (fail)
                    clear hrem
                    go_wp2
                    go_quiet (fail)
                    go_wp2_with fail
                    refine (reverse_any g A.length cap' i k _ _ B0 (fun t => W.getD t 0) _ (HOWN.out _) (by omega) (by omega) (by omega) rfl).mono ?_
                    rintro e w5 ⟨rfl, hown5, hb5⟩
                    have hrl : (revM W i k).length = way.length := (rev_len (by omega) (by rw [HWl.out, HWL.out]; exact hkn)).trans HWl.out
                    have hE5 : rowV A.length (revF (fun t => W.getD t 0) i k) = (revM W i k).map (Value.int .i64) := by
                      rw [rev_tab W (by omega) (by rw [HWl.out, HWL.out]; exact hkn)]
                      unfold rowV
                      rw [HWl.out, HWL.out]
                    rw [hE5] at hown5
                    have hb05 : Below w.heap.size w w5 := (below_drewN' hb _).trans (hb5.mono (Nat.le_trans HB0.out hgB))
                    have hlong : longM A (revM W i k) < longM A W := (helps_less HS.out HW.out.1 hi1 (by omega) (by rw [HWl.out, HWL.out]; exact hkn)).2 HF.out.2.2.2.1
                    have hnn := long_nonneg HM.out (revM W i k)
                    obtain ⟨a6, cap6, hq7, he6, _⟩ := ints_of_owns (hwl.symm.trans hrl.symm) hown5
                    obtain ⟨rfl, hq8, rfl⟩ := Value.slice.inj hq7
                    have hw6 : wayOf w5 (some ⟨g, 0, none⟩) A.length = revM W i k := by rw [← hwl, ← hrl]; exact wayOf_eq he6
                    have HINV : Hid (BetInv A way (revM W i k) true) := Lib.hid ⟨wayOk_rev HW.out.1 (by omega) (by rw [HWl.out, HWL.out]; exact hkn), fun h => Bool.noConfusion h, fun r h => HW.out.2.2 r (EndsAt.next HF.out h)⟩
                    have HMS : Hid (2 * (longM A (wayOf w5 (some ⟨g, 0, none⟩) way.length)).toNat + 1 < 2 * (longM A (wayOf wo (some ⟨g, 0, none⟩) way.length)).toNat + 1) := Lib.hid (by
                      rw [HWOF.out, hwl, hw6]; omega)
                    rw [← hwl] at hown5
                    clear hE5 hlong hnn hq7 hq8 hw6 he6 hrl
                    go_wp2
                    rw [Exit.noGoto_normal]
                    go_roundw
                    case rel =>
                      repeat apply Exists.intro
                      refine ⟨⟨revM W i k, true, rfl, HINV.out, hown5, hb05⟩, ?_⟩
                      rw [hwl]
                    case measure => exact HMS.out
                  · have HK2 : Hid (∀ k', i < k' → k' < k + 1 → ¬ Helps A W i k') := Lib.hid (fun k' h1 h2 => by
                      rcases Nat.lt_or_ge k' k with h3 | h3
                      · exact HK.out k' h1 h3
                      · obtain rfl : k' = k := by omega
                        exact fun h => hh (HH.out.1 h))
                    go_wp2
                    go_quiet (fail)
                    clear hrem hw2
                    go_wp2
                    go_quiet (fail)
                    clear hw1
                    go_wp2
                    exact ⟨⟨rfl, k + 1, _, by omega, by omega, by go_num, HK2, rfl⟩, by simp [intOf]; omega⟩
                · obtain rfl : k = way.length := by omega
                  have HI2 : Hid (∀ i' k', 1 ≤ i' → i' < k' → k' < W.length → i' < i + 1 → ¬ Helps A W i' k') := Lib.hid (fun i' k' h1 h2 h3 h4 => by
                    rcases Nat.lt_or_ge i' i with h5 | h5
                    · exact HI.out i' k' h1 h2 h3 h5
                    · obtain rfl : i' = i := by omega
                      exact HK.out k' h2 (by rw [← HWl.out]; exact h3))
                  go_wp2
                  exact ⟨⟨rfl, i + 1, m2, by omega, by omega, by go_num, HI2, rfl⟩, by simp [intOf]; omega⟩
            · have HN : Hid (BetInv A way W false) := Lib.hid ⟨HW.out.1, fun _ i' k' h1 h2 h3 => HI.out i' k' h1 h2 h3 (by have := HWl.out; omega), HW.out.2.2⟩
              have hbo := below_drewN' hb m1
              go_wp2
              rw [Exit.noGoto_normal]
              go_roundw
              case rel =>
                repeat apply Exists.intro
                exact ⟨⟨W, false, rfl, HN.out, hown, hbo⟩, rfl⟩
              case measure => exact Nat.lt_succ_self _
end Go.Proofs.YtfaklhkdfpfjgaaDoor
