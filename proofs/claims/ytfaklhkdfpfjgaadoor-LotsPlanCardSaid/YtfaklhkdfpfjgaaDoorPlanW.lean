/- lots.Plan (11.2): the least up to each period, from those ahead of it. -/
import Derived.Test.YtfaklhkdfpfjgaaDoorPlanM
import Derived.Test.YtfaklhkdfpfjgaaDoorLotsChk
import Derived.Test.YtfaklhkdfpfjgaaDoorAppI
import Derived.Test.YtfaklhkdfpfjgaaDoorTabN
import Derived.Deep.DeepCutAuto
import Derived.Deep.RegionLaw
namespace Go.Proofs.YtfaklhkdfpfjgaaDoor
open Go.RowKit

def numB (o : Option (Int × List Nat)) : Int := match o with | none => -1 | some x => x.1
def headB (o : Option (Int × List Nat)) : Int := match o with | none => 0 | some x => ((x.2.headD 0 : Nat) : Int)
def costB (W O K : List Int) (j : Nat) : Int := numB (bestT W O K j)
def fromB (W O K : List Int) (j : Nat) : Int := headB (bestT W O K j)
def PlanPost (W O K : List Int) (w : World) (e : Ending) (w' : World) : Prop :=
  ∃ a cap c p, bestT W O K W.length = some (c, p) ∧ e = .returned (.tuple #[.slice a W.length cap, .int .i64 c, .nilIface]) ∧ Elems encI 1 w' a (placeT W (List.replicate W.length 0) W.length p) ∧ Below w.heap.size w w'
set_option maxRecDepth 100000 in
set_option maxHeartbeats 16000000 in
theorem plan_any (aW aO aK : Option Addr) (cW cO cK : Nat) (W O K : List Int) (w : World) (hN : needErr W O K = 0) (h9 : W.length ≤ 9) (hcW : W.length ≤ cW) (hW : Elems encI 1 w aW W) (hO : Elems encI 1 w aO O) (hK : Elems encI 1 w aK K) :
    Calls Tryd.prog 39 #[.agg #[.slice aW W.length cW, .slice aO O.length cO, .slice aK K.length cK]] w (PlanPost W O K w) := by
  obtain ⟨_, lO, lK, bW, bO, bK⟩ := need_ok hN
  have hba : Below w.heap.size w (w.alloc (Obj.cells #[.slice aW W.length cW, .slice aO O.length cO, .slice aK K.length cK] 77)) := (Below.refl _ _).alloc (Nat.le_refl _) _
  have HC := needCheck_any aW aO aK _ _ _ cW cO cK W O K _ rfl rfl rfl (by omega) (by omega) (by omega) (hW.at hba) (hO.at hba) (hK.at hba)
  rw [hN, show errV 0 = .nilIface from rfl] at HC
  have HC := Lib.hid HC
  have HW := Lib.hid hW
  have HO := Lib.hid hO
  have HK := Lib.hid hK
  have HBW := Lib.hid bW
  have HBO := Lib.hid bO
  have HBK := Lib.hid bK
  have HBA := Lib.hid hba
  have HLO := Lib.hid lO
  have HLK := Lib.hid lK
  obtain ⟨Z, hmk, hrow⟩ := made_row rowAI (W.length + 1) ((W.length : Int) + 1) (by omega) (by omega) (by unfold maxLen; omega)
  have hk1 : IntKind.i64.wrap ((W.length : Int) + 1) = (W.length : Int) + 1 := IntWalk.i64_in _ (by omega)
  clear hW hO hK bW bO bK hba hN lO lK
  go_enter Tryd.func39, Tryd.ntmps39
  go_wp2_with fail
  refine HC.out.mono ?_
  rintro e1 w1 ⟨rfl, hb1⟩
  have n1 : w1.cell? ⟨w.heap.size, 0, none⟩ = some (.slice aW W.length cW) := (hb1.cell (by simp)).trans (by simp)
  have n2 : w1.cell? ⟨w.heap.size, 1, none⟩ = some (.slice aO O.length cO) := (hb1.cell (by simp)).trans (by simp)
  have n3 : w1.cell? ⟨w.heap.size, 2, none⟩ = some (.slice aK K.length cK) := (hb1.cell (by simp)).trans (by simp)
  have hsz1 : w.heap.size < w1.heap.size := by have := hb1.size; simp at this; omega
  have HB1 : Hid (Below w.heap.size w w1) := Lib.hid (HBA.out.trans (hb1.mono (by simp)))
  clear hb1 HC HBA
  obtain ⟨G, hG⟩ : ∃ G, G = w1.heap.size := ⟨_, rfl⟩
  have HG := Lib.hid hG
  have hrow2 : ∀ (w : World) (base : Nat), base ≤ w.heap.size → (w.alloc (.cells Z 3)).ownsRow base 3 1 (.slice (some ⟨w.heap.size, 0, none⟩) (W.length + 1) (W.length + 1)) (W.length + 1) ((tabN (W.length + 1) (fun _ => 0)).map (Value.int .i64)) := fun w base h => by
    have h1 := hrow w base h
    rw [show (madeCells (Value.int IntKind.i64 0).cells ((W.length + 1) * 1)).toList = (madeCells #[Value.int .i64 0] (W.length + 1)).toList by simp [Value.cells], made_ints, tabN_same] at h1
    exact h1
  have HROW := Lib.hid hrow2
  clear hG hrow hrow2
  go_upto_region 5 with (fail)
  go_cut [7, 8] (fun lv fv wx => ∃ gL gF : Nat, lv = .slice (some ⟨gL, 0, none⟩) (W.length + 1) (W.length + 1) ∧ fv = .slice (some ⟨gF, 0, none⟩) (W.length + 1) (W.length + 1) ∧ gL ≠ gF ∧ wx.ownsRow G 3 1 (.slice (some ⟨gL, 0, none⟩) (W.length + 1) (W.length + 1)) (W.length + 1) ((tabN (W.length + 1) (fun _ => 0)).map (Value.int .i64)) ∧ wx.ownsRow G 3 1 (.slice (some ⟨gF, 0, none⟩) (W.length + 1) (W.length + 1)) (W.length + 1) ((tabN (W.length + 1) (fun _ => 0)).map (Value.int .i64)) ∧ Below G w1 wx)
  case first =>
    go_wp2
    go_region
    all_goals
      go_wp2_with fail
      go_meet
      have hq0 : G ≤ w1.heap.size := Nat.le_of_eq HG.out
      have hq1 : ∀ o, G ≤ (w1.alloc o).heap.size := fun o => by simp; omega
      have hq2 := (HROW.out w1 G hq0).alloc (.cells Z 3)
      have hq3 : ((w1.alloc (.cells Z 3)).alloc (.cells Z 3)).ownsRow G 3 1 (.slice (some ⟨w1.heap.size + 1, 0, none⟩) (W.length + 1) (W.length + 1)) (W.length + 1) ((tabN (W.length + 1) (fun _ => 0)).map (Value.int .i64)) := by
        have h := HROW.out (w1.alloc (.cells Z 3)) G (hq1 _)
        simpa using h
      case rel => exact ⟨_, _, rfl, rfl, by simp, by first | exact hq2 | exact hq3, by first | exact hq2 | exact hq3, by
        repeat (first | exact Below.refl _ _ | refine Below.drew ?_ | refine Below.alloc ?_ (by first | exact hq0 | exact hq1 _) _)⟩
  case rest =>
    obtain ⟨gL, gF, rfl, rfl, hne, hL, hF, hbx⟩ := hcut
    have HBX := Lib.hid hbx
    have HL := Lib.hid hL
    have HF := Lib.hid hF
    have HGS : Hid (w.heap.size < G) := Lib.hid (by rw [HG.out]; exact hsz1)
    have HJO : Hid (∀ t, t ≤ W.length → ∀ d, d ≤ t → ∀ z, joinB (stepT W O K t) d = some z → 0 ≤ z.1) := Lib.hid (fun t ht d hd z hz => by
      obtain ⟨d', hd', hy⟩ := joinB_mem hz
      obtain ⟨c, p, h1, h2, _⟩ := bestT_some HBW.out HBO.out HBK.out HLO.out HLK.out h9 (t - 1 - d') (t - 1 - d') (Nat.le_refl _) (by omega)
      unfold stepT at hy
      rw [h1] at hy
      simp only [Option.map_some, Option.some.injEq] at hy
      have h3 := runC_bd HBW.out HBO.out HBK.out HLO.out HLK.out (i := t - 1 - d') (t := t) (by omega) ht (by omega)
      rw [← hy]
      show 0 ≤ c + _
      omega)
    have HL1 : Hid (wc.ownsRow G 3 1 (.slice (some ⟨gL, 0, none⟩) (W.length + 1) (W.length + 1)) (W.length + 1) ((tabN (W.length + 1) (fun x => if x < 1 then costB W O K x else 0)).map (Value.int .i64))) := Lib.hid (by
      rw [tabN_congr (g := fun _ => 0) (fun t _ => by by_cases h : t < 1 <;> simp [h]; obtain rfl : t = 0 := by omega
                                                      rfl)]
      exact hL)
    have HF1 : Hid (wc.ownsRow G 3 1 (.slice (some ⟨gF, 0, none⟩) (W.length + 1) (W.length + 1)) (W.length + 1) ((tabN (W.length + 1) (fun x => if x < 1 then fromB W O K x else 0)).map (Value.int .i64))) := Lib.hid (by
      rw [tabN_congr (g := fun _ => 0) (fun t _ => by by_cases h : t < 1 <;> simp [h]; obtain rfl : t = 0 := by omega
                                                      rfl)]
      exact hF)
    have hN1 := Lib.hid n1
    have hN2 := Lib.hid n2
    have hN3 := Lib.hid n3
    clear hL hF hbx HROW hk1 HL HF n1 n2 n3 hmk
    go_wp2
    go_loopw [9] (fun tv wr => ∃ t : Nat, 1 ≤ t ∧ t ≤ W.length + 1 ∧ tv = .int .i64 t ∧ wr.ownsRow G 3 1 (.slice (some ⟨gL, 0, none⟩) (W.length + 1) (W.length + 1)) (W.length + 1) ((tabN (W.length + 1) (fun x => if x < t then costB W O K x else 0)).map (Value.int .i64)) ∧ wr.ownsRow G 3 1 (.slice (some ⟨gF, 0, none⟩) (W.length + 1) (W.length + 1)) (W.length + 1) ((tabN (W.length + 1) (fun x => if x < t then fromB W O K x else 0)).map (Value.int .i64)) ∧ Hid (Below G w1 wr)) (fun tv _ => W.length + 1 - (intOf tv).toNat)
    case atStart => exact ⟨1, by omega, by omega, rfl, HL1.out, HF1.out, HBX⟩
    case round =>
      clear HL1 HF1 HBX
      obtain ⟨t, ht1, htn, rfl, hL, hF, HB⟩ := hrel
      by_cases htk : t ≤ W.length
      · have HF0 : Hid (wr.ownsRow G 3 1 (.slice (some ⟨gF, 0, none⟩) (W.length + 1) (W.length + 1)) (W.length + 1) ((tabN (W.length + 1) (fun x => if x < t then fromB W O K x else if x = t then headB (joinB (stepT W O K t) 0) else 0)).map (Value.int .i64))) := Lib.hid (by
          rw [tabN_congr (g := fun x => if x < t then fromB W O K x else 0) (fun x _ => by by_cases h : x < t <;> simp [h]; intro _; rfl)]
          exact hF)
        have HL0 := Lib.hid hL
        clear hF hL
        go_wp2
        go_loopw [10, 11, 12] (fun bv kv iv wr => ∃ (d : Nat) (j b kp : Int), j + d + 1 = t ∧ d ≤ t ∧ iv = .int .i64 j ∧ bv = .int .i64 b ∧ kv = .int .i64 kp ∧ Hid (numB (joinB (stepT W O K t) d) = b) ∧ Hid (keepC W K t d = kp) ∧
          wr.ownsRow G 3 1 (.slice (some ⟨gL, 0, none⟩) (W.length + 1) (W.length + 1)) (W.length + 1) ((tabN (W.length + 1) (fun x => if x < t then costB W O K x else 0)).map (Value.int .i64)) ∧ wr.ownsRow G 3 1 (.slice (some ⟨gF, 0, none⟩) (W.length + 1) (W.length + 1)) (W.length + 1) ((tabN (W.length + 1) (fun x => if x < t then fromB W O K x else if x = t then headB (joinB (stepT W O K t) d) else 0)).map (Value.int .i64)) ∧ Hid (Below G w1 wr)) (fun _ _ iv _ => (intOf iv + 1).toNat)
        case atStart => exact ⟨0, (t : Int) - 1, -1, 0, by omega, by omega, by go_num, rfl, rfl, Lib.hid rfl, Lib.hid rfl, HL0.out, HF0.out, HB⟩
        case round =>
          clear HL0 HF0 HB
          obtain ⟨d, j, bv, kv, hj, hd, rfl, rfl, rfl, HBV, HKV, hL, hF, HB⟩ := hrel
          by_cases hj0 : 0 ≤ j
          · obtain ⟨i, rfl⟩ := Int.eq_ofNat_of_zero_le hj0
            have hit : i + d + 1 = t := by omega
            have hin : i < W.length := by omega
            have HBW1 : Hid (Below w.heap.size w wr) := Lib.hid (HB1.out.trans (HB.out.mono (Nat.le_of_lt HGS.out)))
            obtain ⟨b, o, haE, hc⟩ := (HW.out.at HBW1.out).some hin
            have n1 := (HB.out.cell (show w.heap.size < G from HGS.out)).trans hN1.out
            have n2 := (HB.out.cell (p := ⟨w.heap.size, 1, none⟩) HGS.out).trans hN2.out
            have n3 := (HB.out.cell (p := ⟨w.heap.size, 2, none⟩) HGS.out).trans hN3.out
            have hbi := HBW.out
            have HADR : Hid (∃ oa, (if cW = i + 1 then some (⟨b, o, none⟩ : Addr) else some ⟨b, o + (i + 1), none⟩) = some ⟨b, oa, none⟩ ∧ ∀ q, i + 1 + q < t → oa + q = o + (i + 1 + q)) := Lib.hid (by
              by_cases h : cW = i + 1
              · exact ⟨o, if_pos h, fun q hq => by omega⟩
              · exact ⟨o + (i + 1), if_neg h, fun q hq => by omega⟩)
            obtain ⟨oa, hoa, hoq⟩ := HADR.out
            have HOQ := Lib.hid hoq
            have HCI := Lib.hid hc
            have hw1 : IntKind.i64.wrap ((i : Int) + 1) = (i : Int) + 1 := IntWalk.i64_in _ (by omega)
            have hi1 : (0 : Int) ≤ (i : Int) + 1 := by omega
            have hi2 : (i : Int) + 1 ≤ (t : Int) := by omega
            have hi3 : (t : Int) ≤ (cW : Int) := by omega
            have hi4 : ((i : Int) + 1).toNat = i + 1 := by omega
            have HHF := Lib.hid hF
            have HHL := Lib.hid hL
            subst haE
            clear hoq hc hF hL hbi
            obtain ⟨wo, hwo⟩ : ∃ wo : World, wo = wr := ⟨_, rfl⟩
            have HWO := Lib.hid hwo
            rw [← hwo] at n1 n2 n3 ⊢
            clear hwo
            go_wp2
            go_loopw [13, 53] (fun lv qv wr => ∃ (q : Nat) (l : Int), q ≤ t - (i + 1) ∧ qv = .int .i64 q ∧ lv = .int .i64 l ∧ Hid (sumW W (i + 1) (i + 1 + q) = l) ∧ wr = wo) (fun _ qv _ => t - (i + 1) - (intOf qv).toNat)
            case atStart => exact ⟨0, 0, by omega, rfl, rfl, Lib.hid (sumW_none W _), rfl⟩
            case round =>
              obtain ⟨q, l, hq, rfl, rfl, HS, rfl⟩ := hrel
              by_cases hqd : q < t - (i + 1)
              · have c1 := HCI.out (i + 1 + q) (by omega) 0 _ rfl
                simp only [Nat.add_zero, Nat.mul_one] at c1
                rw [← HWO.out, ← HOQ.out q (by omega)] at c1
                have hbd := HBW.out _ (List.getElem_mem (show i + 1 + q < W.length by omega))
                have hsb := sumW_in HBW.out (show i + 1 ≤ i + 1 + q by omega) (by omega)
                rw [HS.out] at hsb
                have hsb2 : 0 ≤ l ∧ l ≤ 9000000 := by
                  have : ((i + 1 + q - (i + 1) : Nat) : Int) ≤ 9 := by omega
                  omega
                have HS2 : Hid (sumW W (i + 1) (i + 1 + (q + 1)) = l + W[i + 1 + q]) := Lib.hid (by
                  have h := sumW_snoc (W := W) (show i + 1 ≤ i + 1 + q by omega) (by omega)
                  rw [HS.out, getD_lt (show i + 1 + q < W.length by omega)] at h
                  exact h)
                clear n1 n2 n3 HS hsb
                generalize W[i + 1 + q] = wv at *
                obtain ⟨hbd0, hbd1⟩ := hbd
                obtain ⟨hl0, hl1⟩ := hsb2
                go_wp2
                exact ⟨⟨q + 1, l + wv, by omega, by go_num, rfl, HS2, by first | rfl | trivial⟩, by simp [intOf]; omega⟩
              · obtain rfl : q = t - (i + 1) := by omega
                have hS : sumW W (t - d) t = l := by
                  have h := HS.out
                  rw [show i + 1 + (t - (i + 1)) = t by omega] at h
                  rw [show t - d = i + 1 by omega]
                  exact h
                have c1 := HCI.out i hin 0 _ rfl
                simp only [Nat.add_zero, Nat.mul_one] at c1
                rw [← HWO.out] at c1
                have hWR : Hid (Below w.heap.size w wr) := Lib.hid (by rw [HWO.out]; exact HBW1.out)
                obtain ⟨b3, o3, haK, hcK⟩ := (HK.out.at hWR.out).some (show i < K.length by have := HLK.out; omega)
                obtain ⟨b4, o4, haO, hcO⟩ := (HO.out.at hWR.out).some (show i < O.length by have := HLO.out; omega)
                have c2 := hcK i (by have := HLK.out; omega) 0 _ rfl
                have c3 := hcO i (by have := HLO.out; omega) 0 _ rfl
                simp only [Nat.add_zero, Nat.mul_one] at c2 c3
                subst haK
                subst haO
                have hL := HHL.out
                have hF := HHF.out
                rw [← HWO.out] at hL hF
                have HB : Hid (Below G w1 wr) := Lib.hid (by rw [HWO.out]; exact HB.out)
                have c4 := tabN_at hL (j := i) (by omega)
                rw [if_pos (show i < t by omega)] at c4
                obtain ⟨ci, pv, hci, hci0, hci1, _⟩ := bestT_some HBW.out HBO.out HBK.out HLO.out HLK.out h9 i i (Nat.le_refl _) (by omega)
                rw [show costB W O K i = ci by unfold costB; rw [hci]; rfl] at c4
                have hlK : i < K.length := by have := HLK.out; omega
                have hlO : i < O.length := by have := HLO.out; omega
                have hwb := HBW.out _ (List.getElem_mem hin)
                have hkb := HBK.out _ (List.getElem_mem hlK)
                have hob := HBO.out _ (List.getElem_mem hlO)
                have hkd := keepC_bd HBW.out HBK.out HLK.out htk (by omega) d hd
                have hkk := hkd.2.2 (by omega)
                rw [hS, show t - (d + 1) = i by omega, getD_lt hlK] at hkk
                have hk0 := hkd.1
                have hk1 := hkd.2.1
                rw [HKV.out] at hk0 hk1
                have hk2 : kv ≤ 81000000000000 := by
                  have : (d : Int) ≤ 9 := by omega
                  omega
                have hsb := sumW_in HBW.out (show t - d ≤ t by omega) htk
                rw [hS] at hsb
                have hl0 : 0 ≤ l := hsb.1
                have hl1 : l ≤ 9000000 := by
                  have : ((t - (t - d) : Nat) : Int) ≤ 9 := by omega
                  omega
                have hci2 : ci ≤ 729000009000000 := by
                  have : (i : Int) ≤ 9 := by omega
                  omega
                have HKP : Hid (keepC W K t (d + 1) = kv + l * K[i]) := Lib.hid (by
                  rw [show keepC W K t (d + 1) = keepC W K t d + sumW W (t - d) t * K.getD (t - (d + 1)) 0 from rfl, HKV.out, hS, show t - (d + 1) = i by omega, getD_lt hlK])
                have hST : stepT W O K t d = some (ci + ((kv + l * K[i]) + if 0 < l + W[i] then O[i] else 0), i :: pv) := by
                  unfold stepT
                  rw [show t - 1 - d = i by omega, hci]
                  unfold runC
                  have h1 := sumW_cons (W := W) (show i < t by omega) htk
                  rw [show i + 1 = t - d by omega, hS, getD_lt hin] at h1
                  rw [show t - i = d + 1 by omega, HKP.out, h1, getD_lt hlO, show W[i] + l = l + W[i] by omega]
                  rfl
                have hmw : IntKind.i64.wrap (l * K[i]) = l * K[i] := IntWalk.i64_in _ (by omega)
                clear hcK hcO HS hS hsb hkd HCI HHL HHF HOQ hci hk1 HBW1 hWR
                generalize K[i] = ki at *
                generalize O[i] = oi at *
                generalize hWi : W[i] = wi at *
                clear hWi
                obtain ⟨hw0, hw2⟩ := hwb
                obtain ⟨hkb0, hkb1⟩ := hkb
                obtain ⟨hob0, hob1⟩ := hob
                obtain ⟨hkk0, hkk1⟩ := hkk
                have HWO2 := HWO
                clear HWO
                by_cases hpos : 0 < l + wi
                · have HST : Hid (stepT W O K t d = some (ci + (kv + l * ki) + oi, i :: pv)) := Lib.hid (by rw [hST, if_pos hpos, ← Int.add_assoc])
                  clear hST
                  cases hjd : joinB (stepT W O K t) d with
                  | none =>
                    have hb0 : bv = -1 := by have h := HBV.out; rw [hjd] at h; exact h.symm
                    have HNEW : Hid (joinB (stepT W O K t) (d + 1) = some ((ci + (kv + l * ki) + oi), i :: pv)) := Lib.hid (by rw [joinB, HST.out, hjd]; rfl)
                    clear hjd HBV
                    subst hb0
                    have f9 := hF.frozenAt t
                    have o9 := tabN_at hF (j := t) (by omega)
                    have HF2 := Lib.hid (tabN_put (f' := fun x => if x < t then fromB W O K x else if x = t then headB (joinB (stepT W O K t) (d + 1)) else 0) hF t (i : Int) (fun x _ => by
                      have h := HNEW.out
                      by_cases hx : x = t
                      · rw [if_pos hx, if_neg (by omega), if_pos hx, h]; rfl
                      · rw [if_neg hx, if_neg hx]; by_cases hx2 : x < t <;> simp [hx2, hx]))
                    have HB2 : Hid (Below G w1 (wr.setCell ⟨gF, t, none⟩ (.int .i64 (i : Int)))) := Lib.hid (HB.out.setCell (p := ⟨gF, t, none⟩) (owns_base hF).1 _)
                    have HL2 : Hid ((wr.setCell ⟨gF, t, none⟩ (.int .i64 (i : Int))).ownsRow G 3 1 (.slice (some ⟨gL, 0, none⟩) (W.length + 1) (W.length + 1)) (W.length + 1) ((tabN (W.length + 1) (fun x => if x < t then costB W O K x else 0)).map (Value.int .i64))) := Lib.hid (hL.kept (hF.stored t (.int .i64 (i : Int))).2 (Or.inr (by simp [Value.ownBlock]; exact hne)))
                    have HNB : Hid (numB (joinB (stepT W O K t) (d + 1)) = (ci + (kv + l * ki) + oi)) := Lib.hid (by rw [HNEW.out]; rfl)
                    clear hL hF HB HST HNEW
                    go_wp2
                    exact ⟨⟨d + 1, (i : Int) - 1, (ci + (kv + l * ki) + oi), (kv + l * ki), by omega, by omega, by go_num, rfl, rfl, HNB, HKP, HL2.out, HF2.out, HB2⟩, by simp [intOf] <;> omega⟩
                  | some z =>
                    have hb0 : 0 ≤ z.1 := HJO.out t (by omega) d (by omega) z hjd
                    have hb1 : bv = z.1 := by have h := HBV.out; rw [hjd] at h; exact h.symm
                    have hbn : ¬ bv < 0 := by omega
                    by_cases hlt : (ci + (kv + l * ki) + oi) < bv
                    · have HNEW : Hid (joinB (stepT W O K t) (d + 1) = some ((ci + (kv + l * ki) + oi), i :: pv)) := Lib.hid (by rw [joinB, HST.out, hjd]; simp only [better]; rw [if_pos (by omega)])
                      clear hjd hb1 hb0 HBV
                      have f9 := hF.frozenAt t
                      have o9 := tabN_at hF (j := t) (by omega)
                      have HF2 := Lib.hid (tabN_put (f' := fun x => if x < t then fromB W O K x else if x = t then headB (joinB (stepT W O K t) (d + 1)) else 0) hF t (i : Int) (fun x _ => by
                        have h := HNEW.out
                        by_cases hx : x = t
                        · rw [if_pos hx, if_neg (by omega), if_pos hx, h]; rfl
                        · rw [if_neg hx, if_neg hx]; by_cases hx2 : x < t <;> simp [hx2, hx]))
                      have HB2 : Hid (Below G w1 (wr.setCell ⟨gF, t, none⟩ (.int .i64 (i : Int)))) := Lib.hid (HB.out.setCell (p := ⟨gF, t, none⟩) (owns_base hF).1 _)
                      have HL2 : Hid ((wr.setCell ⟨gF, t, none⟩ (.int .i64 (i : Int))).ownsRow G 3 1 (.slice (some ⟨gL, 0, none⟩) (W.length + 1) (W.length + 1)) (W.length + 1) ((tabN (W.length + 1) (fun x => if x < t then costB W O K x else 0)).map (Value.int .i64))) := Lib.hid (hL.kept (hF.stored t (.int .i64 (i : Int))).2 (Or.inr (by simp [Value.ownBlock]; exact hne)))
                      have HNB : Hid (numB (joinB (stepT W O K t) (d + 1)) = (ci + (kv + l * ki) + oi)) := Lib.hid (by rw [HNEW.out]; rfl)
                      clear hL hF HB HST HNEW
                      go_wp2
                      exact ⟨⟨d + 1, (i : Int) - 1, (ci + (kv + l * ki) + oi), (kv + l * ki), by omega, by omega, by go_num, rfl, rfl, HNB, HKP, HL2.out, HF2.out, HB2⟩, by simp [intOf] <;> omega⟩
                    · have HNEW : Hid (joinB (stepT W O K t) (d + 1) = joinB (stepT W O K t) d) := Lib.hid (by rw [joinB, HST.out, hjd]; simp only [better]; rw [if_neg (by omega)])
                      clear hjd hb1 hb0
                      have HF2 : Hid (wr.ownsRow G 3 1 (.slice (some ⟨gF, 0, none⟩) (W.length + 1) (W.length + 1)) (W.length + 1) ((tabN (W.length + 1) (fun x => if x < t then fromB W O K x else if x = t then headB (joinB (stepT W O K t) (d + 1)) else 0)).map (Value.int .i64))) := Lib.hid (by rw [HNEW.out]; exact hF)
                      have HNB : Hid (numB (joinB (stepT W O K t) (d + 1)) = bv) := Lib.hid (by rw [HNEW.out]; exact HBV.out)
                      have HL2 := Lib.hid hL
                      clear hL hF HST HNEW
                      go_wp2
                      exact ⟨⟨d + 1, (i : Int) - 1, bv, (kv + l * ki), by omega, by omega, by go_num, rfl, rfl, HNB, HKP, HL2.out, HF2.out, HB⟩, by simp [intOf] <;> omega⟩
                · have HST : Hid (stepT W O K t d = some (ci + (kv + l * ki), i :: pv)) := Lib.hid (by rw [hST, if_neg hpos, Int.add_zero])
                  clear hST
                  cases hjd : joinB (stepT W O K t) d with
                  | none =>
                    have hb0 : bv = -1 := by have h := HBV.out; rw [hjd] at h; exact h.symm
                    have HNEW : Hid (joinB (stepT W O K t) (d + 1) = some ((ci + (kv + l * ki)), i :: pv)) := Lib.hid (by rw [joinB, HST.out, hjd]; rfl)
                    clear hjd HBV
                    subst hb0
                    have f9 := hF.frozenAt t
                    have o9 := tabN_at hF (j := t) (by omega)
                    have HF2 := Lib.hid (tabN_put (f' := fun x => if x < t then fromB W O K x else if x = t then headB (joinB (stepT W O K t) (d + 1)) else 0) hF t (i : Int) (fun x _ => by
                      have h := HNEW.out
                      by_cases hx : x = t
                      · rw [if_pos hx, if_neg (by omega), if_pos hx, h]; rfl
                      · rw [if_neg hx, if_neg hx]; by_cases hx2 : x < t <;> simp [hx2, hx]))
                    have HB2 : Hid (Below G w1 (wr.setCell ⟨gF, t, none⟩ (.int .i64 (i : Int)))) := Lib.hid (HB.out.setCell (p := ⟨gF, t, none⟩) (owns_base hF).1 _)
                    have HL2 : Hid ((wr.setCell ⟨gF, t, none⟩ (.int .i64 (i : Int))).ownsRow G 3 1 (.slice (some ⟨gL, 0, none⟩) (W.length + 1) (W.length + 1)) (W.length + 1) ((tabN (W.length + 1) (fun x => if x < t then costB W O K x else 0)).map (Value.int .i64))) := Lib.hid (hL.kept (hF.stored t (.int .i64 (i : Int))).2 (Or.inr (by simp [Value.ownBlock]; exact hne)))
                    have HNB : Hid (numB (joinB (stepT W O K t) (d + 1)) = (ci + (kv + l * ki))) := Lib.hid (by rw [HNEW.out]; rfl)
                    clear hL hF HB HST HNEW
                    go_wp2
                    exact ⟨⟨d + 1, (i : Int) - 1, (ci + (kv + l * ki)), (kv + l * ki), by omega, by omega, by go_num, rfl, rfl, HNB, HKP, HL2.out, HF2.out, HB2⟩, by simp [intOf] <;> omega⟩
                  | some z =>
                    have hb0 : 0 ≤ z.1 := HJO.out t (by omega) d (by omega) z hjd
                    have hb1 : bv = z.1 := by have h := HBV.out; rw [hjd] at h; exact h.symm
                    have hbn : ¬ bv < 0 := by omega
                    by_cases hlt : (ci + (kv + l * ki)) < bv
                    · have HNEW : Hid (joinB (stepT W O K t) (d + 1) = some ((ci + (kv + l * ki)), i :: pv)) := Lib.hid (by rw [joinB, HST.out, hjd]; simp only [better]; rw [if_pos (by omega)])
                      clear hjd hb1 hb0 HBV
                      have f9 := hF.frozenAt t
                      have o9 := tabN_at hF (j := t) (by omega)
                      have HF2 := Lib.hid (tabN_put (f' := fun x => if x < t then fromB W O K x else if x = t then headB (joinB (stepT W O K t) (d + 1)) else 0) hF t (i : Int) (fun x _ => by
                        have h := HNEW.out
                        by_cases hx : x = t
                        · rw [if_pos hx, if_neg (by omega), if_pos hx, h]; rfl
                        · rw [if_neg hx, if_neg hx]; by_cases hx2 : x < t <;> simp [hx2, hx]))
                      have HB2 : Hid (Below G w1 (wr.setCell ⟨gF, t, none⟩ (.int .i64 (i : Int)))) := Lib.hid (HB.out.setCell (p := ⟨gF, t, none⟩) (owns_base hF).1 _)
                      have HL2 : Hid ((wr.setCell ⟨gF, t, none⟩ (.int .i64 (i : Int))).ownsRow G 3 1 (.slice (some ⟨gL, 0, none⟩) (W.length + 1) (W.length + 1)) (W.length + 1) ((tabN (W.length + 1) (fun x => if x < t then costB W O K x else 0)).map (Value.int .i64))) := Lib.hid (hL.kept (hF.stored t (.int .i64 (i : Int))).2 (Or.inr (by simp [Value.ownBlock]; exact hne)))
                      have HNB : Hid (numB (joinB (stepT W O K t) (d + 1)) = (ci + (kv + l * ki))) := Lib.hid (by rw [HNEW.out]; rfl)
                      clear hL hF HB HST HNEW
                      go_wp2
                      exact ⟨⟨d + 1, (i : Int) - 1, (ci + (kv + l * ki)), (kv + l * ki), by omega, by omega, by go_num, rfl, rfl, HNB, HKP, HL2.out, HF2.out, HB2⟩, by simp [intOf] <;> omega⟩
                    · have HNEW : Hid (joinB (stepT W O K t) (d + 1) = joinB (stepT W O K t) d) := Lib.hid (by rw [joinB, HST.out, hjd]; simp only [better]; rw [if_neg (by omega)])
                      clear hjd hb1 hb0
                      have HF2 : Hid (wr.ownsRow G 3 1 (.slice (some ⟨gF, 0, none⟩) (W.length + 1) (W.length + 1)) (W.length + 1) ((tabN (W.length + 1) (fun x => if x < t then fromB W O K x else if x = t then headB (joinB (stepT W O K t) (d + 1)) else 0)).map (Value.int .i64))) := Lib.hid (by rw [HNEW.out]; exact hF)
                      have HNB : Hid (numB (joinB (stepT W O K t) (d + 1)) = bv) := Lib.hid (by rw [HNEW.out]; exact HBV.out)
                      have HL2 := Lib.hid hL
                      clear hL hF HST HNEW
                      go_wp2
                      exact ⟨⟨d + 1, (i : Int) - 1, bv, (kv + l * ki), by omega, by omega, by go_num, rfl, rfl, HNB, HKP, HL2.out, HF2.out, HB⟩, by simp [intOf] <;> omega⟩
          · obtain rfl : d = t := by omega
            have hJ : joinB (stepT W O K d) d = bestT W O K d := (bestT_step W O K (by omega)).symm
            have c9 := tabN_at hL (j := d) (by omega)
            have f9 := hL.frozenAt d
            have HL2 := Lib.hid (tabN_put (f' := fun x => if x < d + 1 then costB W O K x else 0) hL d bv (fun x _ => by
              by_cases hx : x = d
              · rw [if_pos hx, if_pos (by omega), hx]; unfold costB; rw [← hJ]; exact HBV.out.symm
              · rw [if_neg hx]
                by_cases hx2 : x < d
                · rw [if_pos hx2, if_pos (by omega)]
                · rw [if_neg hx2, if_neg (by omega)]))
            have HF2 : Hid ((wr.setCell ⟨gL, d, none⟩ (.int .i64 bv)).ownsRow G 3 1 (.slice (some ⟨gF, 0, none⟩) (W.length + 1) (W.length + 1)) (W.length + 1) ((tabN (W.length + 1) (fun x => if x < d + 1 then fromB W O K x else 0)).map (Value.int .i64))) := Lib.hid (by
              have h := hF.kept (hL.stored d (.int .i64 bv)).2 (Or.inr (by simp [Value.ownBlock]; exact fun h => hne h.symm))
              rw [tabN_congr (g := fun x => if x < d + 1 then fromB W O K x else 0) (fun x _ => by
                by_cases hx : x = d
                · rw [if_neg (by omega), if_pos hx, if_pos (by omega), hx, hJ]; rfl
                · by_cases hx2 : x < d
                  · rw [if_pos hx2, if_pos (by omega)]
                  · rw [if_neg hx2, if_neg hx, if_neg (by omega)])] at h
              exact h)
            have HB2 : Hid (Below G w1 (wr.setCell ⟨gL, d, none⟩ (.int .i64 bv))) := Lib.hid (HB.out.setCell (p := ⟨gL, d, none⟩) (owns_base hL).1 _)
            clear hL hF HB hJ HBV HKV
            go_wp2
            exact ⟨⟨d + 1, by omega, by omega, by go_num, HL2.out, HF2.out, HB2⟩, by simp [intOf]; omega⟩
      · obtain rfl : t = W.length + 1 := by omega
        obtain ⟨Z2, hmk2, hrow2⟩ := made_row rowAI W.length (W.length : Int) rfl (by omega) (by unfold maxLen; omega)
        obtain ⟨U, hU⟩ : ∃ U, U = wr.heap.size := ⟨_, rfl⟩
        have HU := Lib.hid hU
        have hO0 : (wr.alloc (.cells Z2 3)).ownsRow U 3 1 (.slice (some ⟨U, 0, none⟩) W.length W.length) W.length ((List.replicate W.length (0 : Int)).map (Value.int .i64)) := by
          have h := hrow2 wr wr.heap.size (Nat.le_refl _)
          rw [show (madeCells (Value.int IntKind.i64 0).cells (W.length * 1)).toList = (madeCells #[Value.int .i64 0] W.length).toList by simp [Value.cells], made_ints, ← hU] at h
          exact h
        have hlL := (owns_base hL).2
        have hlF := (owns_base hF).2
        have HLa := Lib.hid (hL.alloc (.cells Z2 3))
        have HFa := Lib.hid (hF.alloc (.cells Z2 3))
        have HGU : Hid (gL < U ∧ gF < U ∧ G ≤ U) := Lib.hid ⟨by omega, by omega, by have := HB.out.size; have := HG.out; omega⟩
        have HBa : Hid (Below G w1 (wr.alloc (.cells Z2 3))) := Lib.hid (HB.out.alloc (by have := HB.out.size; have := HG.out; omega) _)
        obtain ⟨wa, hwa⟩ : ∃ wa, wa = wr.alloc (.cells Z2 3) := ⟨_, rfl⟩
        rw [← hwa] at hO0 HLa HFa HBa
        have HWA := Lib.hid hwa
        have HO0 := Lib.hid hO0
        obtain ⟨c0, p0, hb0, _⟩ := bestT_some HBW.out HBO.out HBK.out HLO.out HLK.out h9 W.length W.length (Nat.le_refl _) (Nat.le_refl _)
        have HB0 := Lib.hid hb0
        have HPR : Hid (∀ t, t ≤ W.length → t ≠ 0 → ∀ c p, bestT W O K t = some (c, p) → ∃ (i : Nat) (c' : Int) (p' : List Nat), i < t ∧ p = i :: p' ∧ bestT W O K i = some (c', p')) := Lib.hid (fun t ht h0 c p h => by
          obtain ⟨c1, p1, g1, _, _, g2⟩ := bestT_some HBW.out HBO.out HBK.out HLO.out HLK.out h9 t t (Nat.le_refl _) ht
          rw [h] at g1
          simp only [Option.some.injEq, Prod.mk.injEq] at g1
          obtain ⟨i, c', p', q1, q2, q3, _⟩ := g2 h0
          exact ⟨i, c', p', q1, by rw [g1.2]; exact q2, q3⟩)
        have HZ0 : Hid (∀ j, j < W.length → (List.replicate W.length (0 : Int)).getD j 0 = 0) := Lib.hid (fun j hj => by simp [List.getD, hj])
        have hlr : (List.replicate W.length (0 : Int)).length = W.length := by simp
        clear hL hF HB hrow2 hlL hlF hO0 hwa hb0 hU
        go_wp2
        rw [← HU.out, ← HWA.out]
        go_loopw [18] (fun tv wr2 => ∃ (t : Nat) (D : List Int) (c : Int) (p : List Nat), t ≤ W.length ∧ tv = .int .i64 t ∧ D.length = W.length ∧ Hid (∀ j, j < t → D.getD j 0 = 0) ∧ Hid (bestT W O K t = some (c, p)) ∧ Hid (placeT W D t p = placeT W (List.replicate W.length 0) W.length p0) ∧ wr2.ownsRow U 3 1 (.slice (some ⟨U, 0, none⟩) W.length W.length) W.length (D.map (Value.int .i64)) ∧ Hid (Below U wa wr2)) (fun tv _ => (intOf tv).toNat)
        case atStart => exact ⟨W.length, _, c0, p0, by omega, rfl, hlr, HZ0, HB0, Lib.hid rfl, HO0.out, Lib.hid (Below.refl _ _)⟩
        case round =>
          clear HZ0 hlr HO0
          obtain ⟨t, D, c, p, ht, rfl, hD, HZ, HBT, HP, hO, HB2⟩ := hrel
          have hLr := owns_below HLa.out HB2.out (fun g hg => by simp [Value.ownBlock] at hg; have := HGU.out.1; omega)
          have hFr := owns_below HFa.out HB2.out (fun g hg => by simp [Value.ownBlock] at hg; have := HGU.out.2.1; omega)
          have HBG : Hid (Below G w1 wr) := Lib.hid (HBa.out.trans (HB2.out.mono HGU.out.2.2))
          by_cases ht0 : t = 0
          · subst ht0
            have hp : p = [] := by
              have h := HBT.out
              rw [bestT_zero] at h
              simp only [Option.some.injEq, Prod.mk.injEq] at h
              exact h.2.symm
            subst hp
            have HD : Hid (D = placeT W (List.replicate W.length 0) W.length p0) := Lib.hid HP.out
            have hEl : Elems encI 1 wr (some ⟨U, 0, none⟩) D := by
              obtain ⟨a, c, hv, he, _⟩ := ints_of_owns hD.symm hO
              obtain ⟨h1, _, _⟩ := Value.slice.inj hv
              rw [h1]; exact he
            have HEl := Lib.hid hEl
            have c9 := tabN_at hLr (j := W.length) (by omega)
            rw [if_pos (by omega), show costB W O K W.length = c0 by unfold costB; rw [HB0.out]; rfl] at c9
            have HBE : Hid (Below w.heap.size w wr) := Lib.hid (HB1.out.trans (HBG.out.mono (Nat.le_of_lt HGS.out)))
            clear hLr hFr hO hEl HP HBT HZ hmk2
            go_wp2
            go_quiet (fail)
            go_wp2
            go_ret3
            unfold PlanPost
            exact ⟨_, _, c0, p0, HB0.out, rfl, by rw [← HD.out]; exact HEl.out.drewN _, below_drewN' HBE.out _⟩
          · obtain ⟨i, c', p', hit, rfl, hbi⟩ := HPR.out t ht ht0 c p HBT.out
            have hf : fromB W O K t = i := by unfold fromB; rw [HBT.out]; rfl
            have c5 := tabN_at hFr (j := t) (by omega)
            rw [if_pos (by omega), hf] at c5
            have HBW1 : Hid (Below w.heap.size w wr) := Lib.hid (HB1.out.trans (HBG.out.mono (Nat.le_of_lt HGS.out)))
            obtain ⟨b, o, haE, hc⟩ := (HW.out.at HBW1.out).some (show i < W.length by omega)
            have n1 := (HBG.out.cell (show w.heap.size < G from HGS.out)).trans hN1.out
            have had : (if cW = i then some (⟨b, o, none⟩ : Addr) else some ⟨b, o + i, none⟩) = some ⟨b, o + i, none⟩ := if_neg (by omega)
            have hi1 : (i : Int) ≤ (t : Int) := by omega
            have hi3 : (t : Int) ≤ (cW : Int) := by omega
            have htp : ¬ (t : Int) = 0 := by omega
            have HCI := Lib.hid hc
            have HBI := Lib.hid hbi
            have hDi : D.getD i 0 = 0 := HZ.out i hit
            have HS0 : Hid (wr.ownsRow U 3 1 (.slice (some ⟨U, 0, none⟩) W.length W.length) W.length ((D.set i (sumW W i (i + 0))).map (Value.int .i64))) := Lib.hid (by
              rw [Nat.add_zero, sumW_none, show D.set i 0 = D from by
                refine List.ext_getElem (by simp) fun x h1 h2 => ?_
                rw [List.getElem_set]
                by_cases h : i = x
                · subst h; rw [if_pos rfl, ← hDi, getD_lt h2]
                · rw [if_neg h]]
              exact hO)
            have HFR := Lib.hid hFr
            subst haE
            have HFI := Lib.hid hf
            clear hLr hFr hO hc hbi hf HBT hmk2
            obtain ⟨wo, hwo⟩ : ∃ wo : World, wo = wr := ⟨_, rfl⟩
            have HWO := Lib.hid hwo
            rw [← hwo] at c5 n1 ⊢
            clear hwo
            go_wp2
            go_quiet (fail)
            go_wp2
            go_loopw [125] (fun qv wr3 => ∃ q : Nat, q ≤ t - i ∧ qv = .int .i64 q ∧ wr3.ownsRow U 3 1 (.slice (some ⟨U, 0, none⟩) W.length W.length) W.length ((D.set i (sumW W i (i + q))).map (Value.int .i64)) ∧ Hid (Below U wa wr3)) (fun qv _ => t - i - (intOf qv).toNat)
            case atStart => exact ⟨0, by omega, rfl, by rw [HWO.out]; exact HS0.out, Lib.hid (by rw [HWO.out]; exact below_drewN' HB2.out _)⟩
            case round =>
              clear HS0 c5 n1
              obtain ⟨q, hq, rfl, hO, HB3⟩ := hrel
              have hFr := owns_below HFa.out HB3.out (fun g hg => by simp [Value.ownBlock] at hg; have := HGU.out.2.1; omega)
              have c5 := tabN_at hFr (j := t) (by omega)
              rw [if_pos (by omega), HFI.out] at c5
              have HBG : Hid (Below G w1 wr) := Lib.hid (HBa.out.trans (HB3.out.mono HGU.out.2.2))
              by_cases hqd : q < t - i
              · have HBW2 : Hid (Below w.heap.size w wr) := Lib.hid (HB1.out.trans (HBG.out.mono (Nat.le_of_lt HGS.out)))
                have hiq : i + q < W.length := by omega
                obtain ⟨b5, o5, hbo, hc5⟩ := (HW.out.at HBW2.out).some hiq
                simp only [Option.some.injEq, Addr.mk.injEq, and_true] at hbo
                have c1 := hc5 (i + q) hiq 0 _ rfl
                rw [← hbo.1, ← hbo.2] at c1
                simp only [Nat.add_zero, Nat.mul_one] at c1
                rw [← Nat.add_assoc] at c1
                have hbd := HBW.out _ (List.getElem_mem hiq)
                have hsb := sumW_in HBW.out (show i ≤ i + q by omega) (by omega)
                have hsb2 : sumW W i (i + q) ≤ 9000000 := by
                  have : ((i + q - i : Nat) : Int) ≤ 9 := by omega
                  omega
                have hsb0 := hsb.1
                have c6 := owns_get hO i (by omega) (by simp; omega)
                rw [List.getElem_set, if_pos rfl] at c6
                have f6 := hO.frozenAt i
                have hset := owns_set hO i (sumW W i (i + q) + W[i + q])
                rw [List.set_set] at hset
                have HS2 : Hid (sumW W i (i + (q + 1)) = sumW W i (i + q) + W[i + q]) := Lib.hid (by
                  have h := sumW_snoc (W := W) (show i ≤ i + q by omega) hiq
                  rw [getD_lt hiq] at h
                  exact h)
                have HO2 : Hid ((wr.setCell ⟨U, i, none⟩ (.int .i64 (sumW W i (i + q) + W[i + q]))).ownsRow U 3 1 (.slice (some ⟨U, 0, none⟩) W.length W.length) W.length ((D.set i (sumW W i (i + (q + 1)))).map (Value.int .i64))) := Lib.hid (by rw [HS2.out]; exact hset)
                have HB4 : Hid (Below U wa (wr.setCell ⟨U, i, none⟩ (.int .i64 (sumW W i (i + q) + W[i + q])))) := Lib.hid (HB3.out.setCell (p := ⟨U, i, none⟩) (Nat.le_refl _) _)
                clear hsb hc5 hbo hO hFr hset HS2 HB3
                generalize sumW W i (i + q) = sv at *
                generalize W[i + q] = wv at *
                obtain ⟨hbd0, hbd1⟩ := hbd
                go_wp2
                exact ⟨⟨q + 1, by omega, by go_num, HO2.out, HB4⟩, by simp [intOf]; omega⟩
              · obtain rfl : q = t - i := by omega
                have HO2 : Hid (wr.ownsRow U 3 1 (.slice (some ⟨U, 0, none⟩) W.length W.length) W.length ((D.set i (sumW W i t)).map (Value.int .i64))) := Lib.hid (by
                  rw [show i + (t - i) = t by omega] at hO
                  exact hO)
                have HZ2 : Hid (∀ j, j < i → (D.set i (sumW W i t)).getD j 0 = 0) := Lib.hid (fun j hj => by
                  have h1 : (D.set i (sumW W i t)).getD j 0 = D.getD j 0 := by simp [List.getD, show i ≠ j by omega]
                  rw [h1]; exact HZ.out j (by omega))
                have hD2 : (D.set i (sumW W i t)).length = W.length := by simp [hD]
                clear hO hFr
                go_wp2
                exact ⟨⟨i, D.set i (sumW W i t), c', p', by omega, rfl, hD2, HZ2, HBI, HP, HO2.out, HB3⟩, by simp [intOf]; omega⟩
end Go.Proofs.YtfaklhkdfpfjgaaDoor
