/- What orders cost (11.1): the reference. -/
import Derived.Test.YtfaklhkdfpfjgaaDoorLotsChk
namespace Go.Proofs.YtfaklhkdfpfjgaaDoor
open Go.RowKit
set_option maxRecDepth 100000 in
set_option maxHeartbeats 4000000 in
theorem refLots_any (aW aO aK aX : Option Addr) (nW nO nK nX cW cO cK cX : Nat) (W O K X : List Int) (w : World) (lW : nW = W.length) (lO : nO = O.length) (lK : nK = K.length) (lX : nX = X.length) (bW : W.length ≤ 80) (bX : X.length ≤ 80)
    (hW : Elems encI 1 w aW W) (hO : Elems encI 1 w aO O) (hK : Elems encI 1 w aK K) (hX : Elems encI 1 w aX X) :
    Calls Tryd.prog 81 #[.agg #[.slice aW nW cW, .slice aO nO cO, .slice aK nK cK], .slice aX nX cX] w fun e w' => e = .returned (.tuple #[.int .i64 (lotsM W O K X).1, .int .i64 (lotsM W O K X).2]) ∧ Below w.heap.size w w' := by
  subst lW; subst lO; subst lK; subst lX
  have hba : Below w.heap.size w (w.alloc (Obj.cells #[.slice aW W.length cW, .slice aO O.length cO, .slice aK K.length cK] 71)) := (Below.refl _ _).alloc (Nat.le_refl _) _
  by_cases hN : needErr W O K = 0
  case neg =>
    have HE : Hid (lotsM W O K X = (0, needErr W O K)) := Lib.hid (if_pos hN)
    have hd : (needErr W O K != 0) = true := by simpa using hN
    clear hN
    go_enter Tryd.func81, Tryd.ntmps81
    go_wp2_with fail
    refine (refNeed_any _ _ _ _ _ _ _ _ _ W O K _ rfl rfl rfl (by omega) (hW.at hba) (hO.at hba) (hK.at hba)).mono ?_
    rintro e w1 ⟨rfl, hb1⟩
    go_wp2
    go_ret2
    exact ⟨by rw [HE.out]; rfl, hba.trans (hb1.mono hba.size)⟩
  obtain ⟨g1, g2, g3, g4, g5, g6⟩ := need_ok hN
  have HN : Hid (needErr W O K = 0) := Lib.hid (hN)
  by_cases hL : X.length = W.length
  case neg =>
    have HE : Hid (lotsM W O K X = (0, 3)) := Lib.hid ((if_neg (by simp [hN])).trans (if_pos hL))
    have hd : ((X.length : Int) != (W.length : Int)) = true := by simp; omega
    clear hN hL g2 g3 g4 g5 g6
    go_enter Tryd.func81, Tryd.ntmps81
    go_wp2_with fail
    refine (refNeed_any _ _ _ _ _ _ _ _ _ W O K _ rfl rfl rfl (by omega) (hW.at hba) (hO.at hba) (hK.at hba)).mono ?_
    rintro e w1 ⟨rfl, hb1⟩
    rw [HN.out]
    have d0 := (hb1.cell (p := ⟨w.heap.size, 0, none⟩) (by simp)).trans (show (w.alloc (Obj.cells #[.slice aW W.length cW, .slice aO O.length cO, .slice aK K.length cK] 71)).cell? ⟨w.heap.size, 0, none⟩ = some (.slice aW W.length cW) by simp)
    go_wp2
    go_ret2
    exact ⟨by rw [HE.out]; rfl, hba.trans (hb1.mono hba.size)⟩
  have HR : Hid (lotsM W O K X = lotsFrom W O K X (X.length - 0) 0 0) := Lib.hid ((if_neg (by simp [hN])).trans (if_neg (by simp [hL])))
  have hd : ((X.length : Int) != (W.length : Int)) = false := by simp; omega
  have HLX := Lib.hid hL
  have HG := Lib.hid (show O.length = W.length ∧ K.length = W.length ∧ (∀ x ∈ W, 0 ≤ x ∧ x ≤ 1000000) ∧ (∀ x ∈ O, 0 ≤ x ∧ x ≤ 1000000) ∧ (∀ x ∈ K, 0 ≤ x ∧ x ≤ 1000000) from ⟨g2, g3, g4, g5, g6⟩)
  clear hN hL g2 g3 g4 g5 g6
  go_enter Tryd.func81, Tryd.ntmps81
  go_wp2_with fail
  refine (refNeed_any _ _ _ _ _ _ _ _ _ W O K _ rfl rfl rfl (by omega) (hW.at hba) (hO.at hba) (hK.at hba)).mono ?_
  rintro e w1 ⟨rfl, hb1⟩
  rw [HN.out]
  have d0 := (hb1.cell (p := ⟨w.heap.size, 0, none⟩) (by simp)).trans (show (w.alloc (Obj.cells #[.slice aW W.length cW, .slice aO O.length cO, .slice aK K.length cK] 71)).cell? ⟨w.heap.size, 0, none⟩ = some (.slice aW W.length cW) by simp)
  have d1 := (hb1.cell (p := ⟨w.heap.size, 1, none⟩) (by simp)).trans (show (w.alloc (Obj.cells #[.slice aW W.length cW, .slice aO O.length cO, .slice aK K.length cK] 71)).cell? ⟨w.heap.size, 1, none⟩ = some (.slice aO O.length cO) by simp)
  have d2 := (hb1.cell (p := ⟨w.heap.size, 2, none⟩) (by simp)).trans (show (w.alloc (Obj.cells #[.slice aW W.length cW, .slice aO O.length cO, .slice aK K.length cK] 71)).cell? ⟨w.heap.size, 2, none⟩ = some (.slice aK K.length cK) by simp)
  have hb := hba.trans (hb1.mono hba.size)
  have hW1 := hW.at hb
  have hO1 := hO.at hb
  have hK1 := hK.at hb
  have hX1 := hX.at hb
  have hout : ∀ m, Below w.heap.size w (w1.drewN m) := fun m => below_drewN' hb m
  clear hW hO hK hX hba hb1 hb
  go_wp2_with fail
  go_loopw [7, 8, 24] (fun hv sv i wr => ∃ (k : Nat) (h s : Int), k ≤ X.length ∧ i = .int .i64 k ∧ hv = .int .i64 h ∧ sv = .int .i64 s ∧ 0 ≤ h ∧ h ≤ k * 50000000 ∧ 0 ≤ s ∧ s ≤ k * 2500000001000000 ∧ Hid (lotsM W O K X = lotsFrom W O K X (X.length - k) h s) ∧ ∃ m, wr = w1.drewN m) (fun _ _ i _ => X.length - (intOf i).toNat)
  case atStart => exact ⟨0, 0, 0, by omega, rfl, rfl, rfl, by omega, by omega, by omega, by omega, HR, 0, rfl⟩
  case round =>
    clear HR
    obtain ⟨k, h, s, hk, rfl, rfl, rfl, i0, i1, j0, j1, HR, m, rfl⟩ := hrel
    by_cases hlt : k < X.length
    · have hlW : k < W.length := by rw [← HLX.out]; exact hlt
      have hlO : k < O.length := by rw [HG.out.1]; exact hlW
      have hlK : k < K.length := by rw [HG.out.2.1]; exact hlW
      obtain ⟨bx, ox, rfl, e0⟩ := hX1.some hlt
      obtain ⟨bw, ow, rfl, e1⟩ := hW1.some hlW
      obtain ⟨bo, oo, rfl, e2⟩ := hO1.some hlO
      obtain ⟨bk, ok, rfl, e3⟩ := hK1.some hlK
      have f0 := e0 k hlt 0 _ rfl
      have f1 := e1 k hlW 0 _ rfl
      have f2 := e2 k hlO 0 _ rfl
      have f3 := e3 k hlK 0 _ rfl
      simp only [Nat.add_zero, Nat.mul_one] at f0 f1 f2 f3
      have HH := Lib.hid (HR.out.trans (lots_here h s hlt hlW hlO hlK))
      obtain ⟨q1, q2⟩ := HG.out.2.2.1 _ (List.getElem_mem hlW)
      obtain ⟨q3, q4⟩ := HG.out.2.2.2.1 _ (List.getElem_mem hlO)
      obtain ⟨q5, q6⟩ := HG.out.2.2.2.2 _ (List.getElem_mem hlK)
      clear e0 e1 e2 e3 hX1 hW1 hO1 hK1 HG HR
      by_cases hbad : X[k] < 0 ∨ 50000000 < X[k]
      · have HE := Lib.hid (HH.out.trans (if_pos hbad))
        clear HH q1 q2 q3 q4 q5 q6
        rcases hbad with hbad | hbad
        · go_wp2_with fail
          go_ret2
          exact ⟨by rw [HE.out]; rfl, hout _⟩
        · have hbad2 : ¬ X[k] < 0 := by omega
          go_wp2_with fail
          go_ret2
          exact ⟨by rw [HE.out]; rfl, hout _⟩
      · have hx0 : ¬ X[k] < 0 := by omega
        have hx1 : ¬ 50000000 < X[k] := by omega
        have HH2 := Lib.hid (HH.out.trans (if_neg hbad))
        obtain ⟨t1, t2, t3, t4, t5, t6⟩ := lots_bounds (k := k) (h := h) (s := s) (x := X[k]) (o := O[k]) (v := W[k]) (y := K[k]) (by have := HLX.out; omega) i0 i1 j0 j1 (by omega) (by omega) q1 q2 q3 q4 q5 q6
        by_cases hneg : h + X[k] - W[k] < 0
        · have HE := Lib.hid (HH2.out.trans (if_pos hneg))
          obtain ⟨h1, hh⟩ : ∃ h1, h1 = h + X[k] - W[k] := ⟨_, rfl⟩
          have t4b := t4.trans hh.symm
          rw [← hh] at hneg t2
          clear t4
          have hcx : h + X[k] < W[k] := by omega
          have HQ := Lib.hid hh
          clear HH HH2 t6 hbad q1 q2 q3 q4 q5 q6 i1 j1 hh hneg
          by_cases hpos : 0 < X[k]
          · go_wp2_with fail
            go_ret2
            exact ⟨by rw [HE.out]; rfl, hout _⟩
          · go_wp2_with fail
            go_ret2
            exact ⟨by rw [HE.out]; rfl, hout _⟩
        · obtain ⟨u1, u2, u3, u4, u5, u6, u7, u8⟩ := t6 (by omega)
          have HE := Lib.hid (HH2.out.trans (if_neg hneg))
          obtain ⟨h1, hh⟩ : ∃ h1, h1 = h + X[k] - W[k] := ⟨_, rfl⟩
          have t4b := t4.trans hh.symm
          rw [← hh] at hneg t2 HE u1 u2 u3 u4 u5 u6 u7 u8
          clear t4
          have hcx : ¬ h + X[k] < W[k] := by omega
          have HQ := Lib.hid hh
          have HU := Lib.hid (show 0 ≤ h1 ∧ h1 ≤ (k + 1 : Nat) * 50000000 ∧ 0 ≤ s + h1 * K[k] ∧ s + h1 * K[k] ≤ (k + 1 : Nat) * 2500000001000000 ∧ 0 ≤ s + O[k] + h1 * K[k] ∧ s + O[k] + h1 * K[k] ≤ (k + 1 : Nat) * 2500000001000000 from ⟨by omega, u1, by omega, u8, by omega, u7⟩)
          clear HH HH2 hbad q1 q2 q3 q4 q5 q6 i0 i1 j0 j1 t6 u1 u2 u3 u7 u8 hh hneg
          by_cases hpos : 0 < X[k]
          · have HE2 : Hid (lotsM W O K X = lotsFrom W O K X (X.length - (k + 1)) h1 (s + O[k] + h1 * K[k])) := Lib.hid (by rw [HE.out, if_pos hpos])
            clear HE
            go_wp2_with fail
            exact ⟨⟨k + 1, h1, s + O[k] + h1 * K[k], by omega, by go_num, by first | rw [t4b] | rw [t2], by first | rw [t4b, u4, u6] | rw [t2, u4, u6] | rw [u4, u6] | rw [u6], HU.out.1, HU.out.2.1, HU.out.2.2.2.2.1, HU.out.2.2.2.2.2, HE2, _, rfl⟩, by simp [intOf]; omega⟩
          · have HE2 : Hid (lotsM W O K X = lotsFrom W O K X (X.length - (k + 1)) h1 (s + h1 * K[k])) := Lib.hid (by rw [HE.out, if_neg hpos])
            clear HE
            go_wp2_with fail
            exact ⟨⟨k + 1, h1, s + h1 * K[k], by omega, by go_num, by first | rw [t4b] | rw [t2], by first | rw [t4b, u4, u5] | rw [t2, u4, u5] | rw [u4, u5] | rw [u5], HU.out.1, HU.out.2.1, HU.out.2.2.1, HU.out.2.2.2.1, HE2, _, rfl⟩, by simp [intOf]; omega⟩
    · obtain rfl : k = X.length := by omega
      have HZ : Hid (lotsM W O K X = if 0 < h then (0, 10) else (s, 0)) := Lib.hid (by rw [HR.out, Nat.sub_self]; rfl)
      clear HR hX1 hW1 hO1 hK1 HG
      by_cases hz : 0 < h
      · have HE := Lib.hid (HZ.out.trans (if_pos hz))
        have hdz : (h != 0) = true := by simp; omega
        clear HZ hz
        go_wp2_with fail
        go_ret2
        exact ⟨by rw [HE.out]; rfl, hout _⟩
      · have HE := Lib.hid (HZ.out.trans (if_neg hz))
        have hdz : (h != 0) = false := by simp; omega
        clear HZ hz
        go_wp2_with fail
        go_ret2
        exact ⟨by rw [HE.out]; rfl, hout _⟩
end Go.Proofs.YtfaklhkdfpfjgaaDoor
