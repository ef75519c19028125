/- What is wrong with gates (21.1): risk.Check and the reference's GatesCheck tell the same. -/
import Derived.Test.YtfaklhkdfpfjgaaDoorRiskM
import Derived.Test.YtfaklhkdfpfjgaaDoorTell
namespace Go.Proofs.YtfaklhkdfpfjgaaDoor
open Go.RowKit

set_option maxRecDepth 100000 in
set_option maxHeartbeats 8000000 in
theorem riskChk_any (a : Option Addr) (m cap : Nat) (n : Int) (L : List GateT) (w : World) (hl : m = L.length) (hm : m ≤ maxLen) (hr : Gates w a L) :
    Calls Tryd.prog 23 #[.int .i64 n, .slice a m cap] w fun e w' => e = .returned (errV (gatesCheck n L)) ∧ Below w.heap.size w w' := by
  subst hl
  unfold maxLen at hm
  obtain ⟨er, her⟩ : ∃ er, er = gatesCheck n L := ⟨_, rfl⟩
  rw [← her]
  have HR0 := Lib.hid (fun h => her.trans (if_pos h))
  by_cases g1 : n < 1
  · have HR := Lib.hid (show er = 4 from HR0.out (Or.inl g1))
    clear her HR0 hr
    go_enter Tryd.func23, Tryd.ntmps23
    go_wp2
    go_ret
    exact ⟨by rw [HR.out]; rfl, Below.refl _ _⟩
  by_cases g2 : 10 < n
  · have HR := Lib.hid (show er = 4 from HR0.out (Or.inr (Or.inl g2)))
    clear her HR0 hr
    go_enter Tryd.func23, Tryd.ntmps23
    go_wp2
    go_ret
    exact ⟨by rw [HR.out]; rfl, Below.refl _ _⟩
  by_cases g3 : (L.length : Int) < 1
  · have HR := Lib.hid (show er = 4 from HR0.out (Or.inr (Or.inr (Or.inl (by omega)))))
    have hd := decide_eq_true g3
    clear her HR0 hr
    go_enter Tryd.func23, Tryd.ntmps23
    go_wp2
    go_ret
    exact ⟨by rw [HR.out]; rfl, Below.refl _ _⟩
  by_cases g4 : (20 : Int) < (L.length : Int)
  · have HR := Lib.hid (show er = 4 from HR0.out (Or.inr (Or.inr (Or.inr (by omega)))))
    have hd3 := decide_eq_false g3
    have hd := decide_eq_true g4
    clear her HR0 hr
    go_enter Tryd.func23, Tryd.ntmps23
    go_wp2
    go_ret
    exact ⟨by rw [HR.out]; rfl, Below.refl _ _⟩
  have hd3 := decide_eq_false g3
  have hd4 := decide_eq_false g4
  have HM : Hid (er = gatesFrom n 0 (L.drop 0)) := Lib.hid (her.trans (if_neg (by omega)))
  have HRR := Lib.hid hr
  clear her HR0 hr
  go_enter Tryd.func23, Tryd.ntmps23
  go_wp2
  go_loopw [28] (fun i wr => ∃ k : Nat, k ≤ L.length ∧ i = .int .i64 k ∧ Hid (er = gatesFrom n k (L.drop k)) ∧ Below w.heap.size w wr) (fun i _ => L.length - (intOf i).toNat)
  case atStart => exact ⟨0, by omega, rfl, HM, Below.refl _ _⟩
  case round =>
    clear HM
    obtain ⟨k, hk, rfl, HM, hb⟩ := hrel
    by_cases hlt : k < L.length
    · obtain ⟨b2, o2, rfl, hcA⟩ := HRR.out.some hlt
      obtain ⟨e0, ar, cr, e1, e2, e3, e4⟩ := hcA k hlt
      have h0 := (hb.cell (lt_of_cell e0)).trans e0
      have h1 := (hb.cell (lt_of_cell e1)).trans e1
      have hst := gates_here n L k hlt
      obtain ⟨R, hR⟩ : ∃ R, R = L[k] := ⟨_, rfl⟩
      rw [← hR] at hst h0 h1 e2 e4
      clear hcA e0 e1 hR
      obtain ⟨z, xs⟩ := R
      simp only at hst h0 h1 e2 e4
      have hst2 : gateErr n k (z, xs) = if 20 < xs.length then 4 else if z < 0 ∨ (xs.length : Int) < z then 1 else if xs.any (badPart n k) = true then 2 else 0 := rfl
      have hxm : xs.length ≤ 9223372036854775807 := by unfold maxLen at e3; omega
      have hsz := hb.size
      have hba := hb.alloc hsz (Obj.cells #[.int .i64 z, .slice ar xs.length cr] 133)
      by_cases c1 : (20 : Int) < (xs.length : Int)
      · have hd := decide_eq_true c1
        rw [if_pos (by omega)] at hst2
        have HR := Lib.hid (show er = 4 by rw [HM.out, hst, hst2]; rfl)
        clear hst hst2 HM
        go_wp2_with fail
        go_ret
        exact ⟨by rw [HR.out]; rfl, hba⟩
      have hd1 := decide_eq_false c1
      rw [if_neg (by omega)] at hst2
      by_cases c2 : z < 0
      · rw [if_pos (Or.inl c2)] at hst2
        have HR := Lib.hid (show er = 1 by rw [HM.out, hst, hst2]; rfl)
        clear hst hst2 HM
        go_wp2_with fail
        go_ret
        exact ⟨by rw [HR.out]; rfl, hba⟩
      by_cases c3 : (xs.length : Int) < z
      · rw [if_pos (Or.inr c3)] at hst2
        have hd2 := decide_eq_false c2
        have hd3 := decide_eq_true c3
        have HR := Lib.hid (show er = 1 by rw [HM.out, hst, hst2]; rfl)
        clear hst hst2 HM
        go_wp2_with fail
        go_ret
        exact ⟨by rw [HR.out]; rfl, hba⟩
      rw [if_neg (by omega)] at hst2
      have hd2 := decide_eq_false c2
      have hd5 := decide_eq_false c3
      have HE4 := Lib.hid (e4.at hba)
      have HST := Lib.hid (show er = if gateErr n k (z, xs) ≠ 0 then gateErr n k (z, xs) else gatesFrom n (k + 1) (L.drop (k + 1)) from HM.out.trans hst)
      have HST2 := Lib.hid hst2
      have HQ0 : Hid ((xs.take 0).any (badPart n k) = false) := Lib.hid (by simp)
      have hneg : IntKind.i64.wrap (-(k : Int)) = -(k : Int) := IntWalk.i64_in _ (by omega)
      have hneg2 : wrap64 (-(k : Int)) = -(k : Int) := IntWalk.wrap64_in _ (by omega)
      clear hst hst2 HM e4
      go_wp2
      go_loop [53] (fun i => ∃ q : Nat, q ≤ xs.length ∧ i = .int .i64 q ∧ Hid ((xs.take q).any (badPart n k) = false)) (fun i => xs.length - (intOf i).toNat)
      case atStart => exact ⟨0, by omega, rfl, HQ0⟩
      case round =>
        clear HQ0
        obtain ⟨q, hq, rfl, HQ⟩ := hrel
        by_cases hql : q < xs.length
        · obtain ⟨b3, o3, rfl, hc3⟩ := HE4.out.some hql
          have h5 := hc3 q hql 0 _ rfl
          simp only [Nat.add_zero, Nat.mul_one] at h5
          by_cases hbad : badPart n k xs[q] = true
          · have HR := Lib.hid (show er = 2 by
              rw [HST.out, HST2.out, if_pos (List.any_eq_true.2 ⟨_, List.getElem_mem hql, hbad⟩)]; rfl)
            simp only [badPart, Bool.or_eq_true, decide_eq_true_eq] at hbad
            clear hc3 HQ HST HST2
            generalize xs[q] = x at *
            rcases hbad with hbad | hbad
            · go_wp2_with fail
              all_goals first
                | (exfalso; omega)
                | (go_ret; exact ⟨by rw [HR.out]; rfl, hba⟩)
            · go_wp2_with fail
              all_goals first
                | (exfalso; omega)
                | (go_ret; exact ⟨by rw [HR.out]; rfl, hba⟩)
          · have hgood : badPart n k xs[q] = false := by simpa using hbad
            have HQ2 : Hid ((xs.take (q + 1)).any (badPart n k) = false) := Lib.hid (by rw [List.take_succ_eq_append_getElem hql, List.any_append, HQ.out]; simp [hgood])
            simp only [badPart, Bool.or_eq_false_iff, decide_eq_false_iff_not] at hgood
            obtain ⟨q1, q2⟩ := hgood
            clear hc3 HQ hbad
            generalize xs[q] = x at *
            go_wp2_with fail
            all_goals first
              | (exfalso; omega)
              | exact ⟨⟨q + 1, by omega, by go_num, HQ2⟩, by simp [intOf]; omega⟩
        · obtain rfl : q = xs.length := by omega
          have HR : Hid (er = gatesFrom n (k + 1) (L.drop (k + 1))) := Lib.hid (by
            rw [HST.out, HST2.out, if_neg (by have h := HQ.out; rw [List.take_length] at h; simp [h])])
          clear HQ HST HST2
          go_wp2
          exact ⟨⟨k + 1, by omega, by go_num, HR, hba⟩, by simp [intOf]; omega⟩
    · obtain rfl : k = L.length := by omega
      have HR := Lib.hid (show er = 0 by rw [HM.out, gates_done])
      clear HM
      go_wp2
      go_ret
      exact ⟨by rw [HR.out]; rfl, hb⟩

set_option maxRecDepth 100000 in
set_option maxHeartbeats 8000000 in
theorem refGates_any (a : Option Addr) (m cap : Nat) (n : Int) (L : List GateT) (w : World) (hl : m = L.length) (hm : m ≤ maxLen) (hr : Gates w a L) :
    Calls Tryd.prog 20 #[.int .i64 n, .slice a m cap] w fun e w' => e = .returned (.int .i64 (gatesCheck n L)) ∧ Below w.heap.size w w' := by
  subst hl
  unfold maxLen at hm
  obtain ⟨er, her⟩ : ∃ er, er = gatesCheck n L := ⟨_, rfl⟩
  rw [← her]
  have HR0 := Lib.hid (fun h => her.trans (if_pos h))
  by_cases g1 : n < 1
  · have HR := Lib.hid (show er = 4 from HR0.out (Or.inl g1))
    clear her HR0 hr
    go_enter Tryd.func20, Tryd.ntmps20
    go_wp2
    go_ret
    exact ⟨by rw [HR.out]; rfl, Below.refl _ _⟩
  by_cases g2 : 10 < n
  · have HR := Lib.hid (show er = 4 from HR0.out (Or.inr (Or.inl g2)))
    clear her HR0 hr
    go_enter Tryd.func20, Tryd.ntmps20
    go_wp2
    go_ret
    exact ⟨by rw [HR.out]; rfl, Below.refl _ _⟩
  by_cases g3 : (L.length : Int) < 1
  · have HR := Lib.hid (show er = 4 from HR0.out (Or.inr (Or.inr (Or.inl (by omega)))))
    have hd := decide_eq_true g3
    clear her HR0 hr
    go_enter Tryd.func20, Tryd.ntmps20
    go_wp2
    go_ret
    exact ⟨by rw [HR.out]; rfl, Below.refl _ _⟩
  by_cases g4 : (20 : Int) < (L.length : Int)
  · have HR := Lib.hid (show er = 4 from HR0.out (Or.inr (Or.inr (Or.inr (by omega)))))
    have hd3 := decide_eq_false g3
    have hd := decide_eq_true g4
    clear her HR0 hr
    go_enter Tryd.func20, Tryd.ntmps20
    go_wp2
    go_ret
    exact ⟨by rw [HR.out]; rfl, Below.refl _ _⟩
  have hd3 := decide_eq_false g3
  have hd4 := decide_eq_false g4
  have HM : Hid (er = gatesFrom n 0 (L.drop 0)) := Lib.hid (her.trans (if_neg (by omega)))
  have HRR := Lib.hid hr
  clear her HR0 hr
  go_enter Tryd.func20, Tryd.ntmps20
  go_wp2
  go_loopw [27] (fun i wr => ∃ k : Nat, k ≤ L.length ∧ i = .int .i64 k ∧ Hid (er = gatesFrom n k (L.drop k)) ∧ Below w.heap.size w wr) (fun i _ => L.length - (intOf i).toNat)
  case atStart => exact ⟨0, by omega, rfl, HM, Below.refl _ _⟩
  case round =>
    clear HM
    obtain ⟨k, hk, rfl, HM, hb⟩ := hrel
    by_cases hlt : k < L.length
    · obtain ⟨b2, o2, rfl, hcA⟩ := HRR.out.some hlt
      obtain ⟨e0, ar, cr, e1, e2, e3, e4⟩ := hcA k hlt
      have h0 := (hb.cell (lt_of_cell e0)).trans e0
      have h1 := (hb.cell (lt_of_cell e1)).trans e1
      have hst := gates_here n L k hlt
      obtain ⟨R, hR⟩ : ∃ R, R = L[k] := ⟨_, rfl⟩
      rw [← hR] at hst h0 h1 e2 e4
      clear hcA e0 e1 hR
      obtain ⟨z, xs⟩ := R
      simp only at hst h0 h1 e2 e4
      have hst2 : gateErr n k (z, xs) = if 20 < xs.length then 4 else if z < 0 ∨ (xs.length : Int) < z then 1 else if xs.any (badPart n k) = true then 2 else 0 := rfl
      have hxm : xs.length ≤ 9223372036854775807 := by unfold maxLen at e3; omega
      have hsz := hb.size
      have hba := hb.alloc hsz (Obj.cells #[.int .i64 z, .slice ar xs.length cr] 134)
      by_cases c1 : (20 : Int) < (xs.length : Int)
      · have hd := decide_eq_true c1
        rw [if_pos (by omega)] at hst2
        have HR := Lib.hid (show er = 4 by rw [HM.out, hst, hst2]; rfl)
        clear hst hst2 HM
        go_wp2_with fail
        go_ret
        exact ⟨by rw [HR.out]; rfl, hba⟩
      have hd1 := decide_eq_false c1
      rw [if_neg (by omega)] at hst2
      by_cases c2 : z < 0
      · rw [if_pos (Or.inl c2)] at hst2
        have HR := Lib.hid (show er = 1 by rw [HM.out, hst, hst2]; rfl)
        clear hst hst2 HM
        go_wp2_with fail
        go_ret
        exact ⟨by rw [HR.out]; rfl, hba⟩
      by_cases c3 : (xs.length : Int) < z
      · rw [if_pos (Or.inr c3)] at hst2
        have hd2 := decide_eq_false c2
        have hd3 := decide_eq_true c3
        have HR := Lib.hid (show er = 1 by rw [HM.out, hst, hst2]; rfl)
        clear hst hst2 HM
        go_wp2_with fail
        go_ret
        exact ⟨by rw [HR.out]; rfl, hba⟩
      rw [if_neg (by omega)] at hst2
      have hd2 := decide_eq_false c2
      have hd5 := decide_eq_false c3
      have HE4 := Lib.hid (e4.at hba)
      have HST := Lib.hid (show er = if gateErr n k (z, xs) ≠ 0 then gateErr n k (z, xs) else gatesFrom n (k + 1) (L.drop (k + 1)) from HM.out.trans hst)
      have HST2 := Lib.hid hst2
      have HQ0 : Hid ((xs.take 0).any (badPart n k) = false) := Lib.hid (by simp)
      have hneg : IntKind.i64.wrap (-(k : Int)) = -(k : Int) := IntWalk.i64_in _ (by omega)
      have hneg2 : wrap64 (-(k : Int)) = -(k : Int) := IntWalk.wrap64_in _ (by omega)
      clear hst hst2 HM e4
      go_wp2
      go_loop [50] (fun i => ∃ q : Nat, q ≤ xs.length ∧ i = .int .i64 q ∧ Hid ((xs.take q).any (badPart n k) = false)) (fun i => xs.length - (intOf i).toNat)
      case atStart => exact ⟨0, by omega, rfl, HQ0⟩
      case round =>
        clear HQ0
        obtain ⟨q, hq, rfl, HQ⟩ := hrel
        by_cases hql : q < xs.length
        · obtain ⟨b3, o3, rfl, hc3⟩ := HE4.out.some hql
          have h5 := hc3 q hql 0 _ rfl
          simp only [Nat.add_zero, Nat.mul_one] at h5
          by_cases hbad : badPart n k xs[q] = true
          · have HR := Lib.hid (show er = 2 by
              rw [HST.out, HST2.out, if_pos (List.any_eq_true.2 ⟨_, List.getElem_mem hql, hbad⟩)]; rfl)
            simp only [badPart, Bool.or_eq_true, decide_eq_true_eq] at hbad
            clear hc3 HQ HST HST2
            generalize xs[q] = x at *
            rcases hbad with hbad | hbad
            · go_wp2_with fail
              all_goals first
                | (exfalso; omega)
                | (go_ret; exact ⟨by rw [HR.out]; rfl, hba⟩)
            · go_wp2_with fail
              all_goals first
                | (exfalso; omega)
                | (go_ret; exact ⟨by rw [HR.out]; rfl, hba⟩)
          · have hgood : badPart n k xs[q] = false := by simpa using hbad
            have HQ2 : Hid ((xs.take (q + 1)).any (badPart n k) = false) := Lib.hid (by rw [List.take_succ_eq_append_getElem hql, List.any_append, HQ.out]; simp [hgood])
            simp only [badPart, Bool.or_eq_false_iff, decide_eq_false_iff_not] at hgood
            obtain ⟨q1, q2⟩ := hgood
            clear hc3 HQ hbad
            generalize xs[q] = x at *
            go_wp2_with fail
            all_goals first
              | (exfalso; omega)
              | exact ⟨⟨q + 1, by omega, by go_num, HQ2⟩, by simp [intOf]; omega⟩
        · obtain rfl : q = xs.length := by omega
          have HR : Hid (er = gatesFrom n (k + 1) (L.drop (k + 1))) := Lib.hid (by
            rw [HST.out, HST2.out, if_neg (by have h := HQ.out; rw [List.take_length] at h; simp [h])])
          clear HQ HST HST2
          go_wp2
          exact ⟨⟨k + 1, by omega, by go_num, HR, hba⟩, by simp [intOf]; omega⟩
    · obtain rfl : k = L.length := by omega
      have HR := Lib.hid (show er = 0 by rw [HM.out, gates_done])
      clear HM
      go_wp2
      go_ret
      exact ⟨by rw [HR.out]; rfl, hb⟩
end Go.Proofs.YtfaklhkdfpfjgaaDoor
