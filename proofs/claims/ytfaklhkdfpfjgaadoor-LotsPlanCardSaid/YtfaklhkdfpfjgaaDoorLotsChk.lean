/- lots.Check and the reference's NeedCheck: both tell needErr. -/
import Derived.Test.YtfaklhkdfpfjgaaDoorLotsM
import Derived.Test.YtfaklhkdfpfjgaaDoorTell
import Derived.BigRegion
namespace Go.Proofs.YtfaklhkdfpfjgaaDoor
open Go.RowKit

set_option maxRecDepth 100000 in
set_option maxHeartbeats 4000000 in
theorem needCheck_any (aW aO aK : Option Addr) (nW nO nK cW cO cK : Nat) (W O K : List Int) (w : World) (lW : nW = W.length) (lO : nO = O.length) (lK : nK = K.length) (bW : W.length ≤ 1000) (bO : O.length ≤ 1000) (bK : K.length ≤ 1000)
    (hW : Elems encI 1 w aW W) (hO : Elems encI 1 w aO O) (hK : Elems encI 1 w aK K) :
    Calls Tryd.prog 82 #[.agg #[.slice aW nW cW, .slice aO nO cO, .slice aK nK cK]] w fun e w' => e = .returned (errV (needErr W O K)) ∧ Below w.heap.size w w' := by
  subst lW; subst lO; subst lK
  by_cases h1 : 50 < W.length
  · have hd : decide ((50 : Int) < (W.length : Int)) = true := by simp; omega
    have HR : Hid (needErr W O K = 4) := Lib.hid (if_pos h1)
    clear h1
    go_enter Tryd.func82, Tryd.ntmps82
    go_wp2
    go_ret
    exact ⟨by rw [HR.out]; rfl, (Below.refl _ _).alloc (Nat.le_refl _) _⟩
  have hd : decide ((50 : Int) < (W.length : Int)) = false := by simp; omega
  by_cases h2 : O.length ≠ W.length ∨ K.length ≠ W.length
  · have HR : Hid (needErr W O K = 3) := Lib.hid ((if_neg h1).trans (if_pos h2))
    clear h1
    rcases h2 with h2 | h2
    · have hd2 : ((O.length : Int) != (W.length : Int)) = true := by simp; omega
      go_enter Tryd.func82, Tryd.ntmps82
      go_wp2
      go_ret
      exact ⟨by rw [HR.out]; rfl, (Below.refl _ _).alloc (Nat.le_refl _) _⟩
    · have hd3 : ((K.length : Int) != (W.length : Int)) = true := by simp; omega
      by_cases h3 : O.length = W.length
      · have hd2 : ((O.length : Int) != (W.length : Int)) = false := by simp; omega
        go_enter Tryd.func82, Tryd.ntmps82
        go_wp2
        go_ret
        exact ⟨by rw [HR.out]; rfl, (Below.refl _ _).alloc (Nat.le_refl _) _⟩
      · have hd2 : ((O.length : Int) != (W.length : Int)) = true := by simp; omega
        go_enter Tryd.func82, Tryd.ntmps82
        go_wp2
        go_ret
        exact ⟨by rw [HR.out]; rfl, (Below.refl _ _).alloc (Nat.le_refl _) _⟩
  have hd2 : ((O.length : Int) != (W.length : Int)) = false := by simp; omega
  have hd3 : ((K.length : Int) != (W.length : Int)) = false := by simp; omega
  have HR : Hid (needErr W O K = if W.any (outOf 1000000) = true ∨ O.any (outOf 1000000) = true ∨ K.any (outOf 1000000) = true then 2 else 0) := Lib.hid ((if_neg h1).trans (if_neg h2))
  clear h1 h2
  go_enter Tryd.func82, Tryd.ntmps82
  go_wp2_with fail
  go_loopw [35] (fun i wr => ∃ k : Nat, k ≤ 3 ∧ i = .int .i64 k ∧ Hid ((1 ≤ k → W.any (outOf 1000000) = false) ∧ (2 ≤ k → O.any (outOf 1000000) = false) ∧ (3 ≤ k → K.any (outOf 1000000) = false)) ∧
      wr.cell? ⟨w.heap.size + 1, 0, none⟩ = some (.slice aW W.length cW) ∧ wr.cell? ⟨w.heap.size + 1, 1, none⟩ = some (.slice aO O.length cO) ∧ wr.cell? ⟨w.heap.size + 1, 2, none⟩ = some (.slice aK K.length cK) ∧ Below w.heap.size w wr) (fun i _ => 3 - (intOf i).toNat)
  case atStart => exact ⟨0, by omega, rfl, Lib.hid ⟨fun h => by omega, fun h => by omega, fun h => by omega⟩, by simp, by simp, by simp, ((Below.refl _ _).alloc (Nat.le_refl _) _).alloc (by simp) _⟩
  case round =>
    obtain ⟨k, hk, rfl, HQ, d0, d1, d2, hb⟩ := hrel
    have c0 := d0
    have c1 := d1
    have c2 := d2
    obtain rfl | rfl | rfl | rfl : k = 0 ∨ k = 1 ∨ k = 2 ∨ k = 3 := by omega
    · have c := c0
      clear c0 c1 c2
      by_cases hbad : W.any (outOf 1000000) = true
      · have HB := Lib.hid hbad
        have HE : Hid (needErr W O K = 2) := Lib.hid (HR.out.trans (if_pos (Or.inl hbad)))
        clear hbad HQ
        go_wp2_with fail
        refine (lotsContains_any _ _ _ W _ rfl bW (hW.at hb)).mono ?_
        rintro e w1 ⟨rfl, hb1⟩
        rw [HB.out]
        go_wp2
        go_ret
        exact ⟨by rw [HE.out]; rfl, below_next hb hb1⟩
      · have HB : Hid (W.any (outOf 1000000) = false) := Lib.hid (by simpa using hbad)
        clear hbad
        go_wp2_with fail
        refine (lotsContains_any _ _ _ W _ rfl bW (hW.at hb)).mono ?_
        rintro e w1 ⟨rfl, hb1⟩
        rw [HB.out]
        have hs1 := hb1.size
        have k0 := (hb1.cell (lt_of_cell d0)).trans d0
        have k1 := (hb1.cell (lt_of_cell d1)).trans d1
        have k2 := (hb1.cell (lt_of_cell d2)).trans d2
        clear d0 d1 d2 c
        go_wp2
        exact ⟨⟨1, by omega, rfl, Lib.hid ⟨fun _ => HB.out, fun h => by omega, fun h => by omega⟩, k0, k1, k2, below_next hb hb1⟩, by simp [intOf]⟩
    · have c := c1
      clear c0 c1 c2
      by_cases hbad : O.any (outOf 1000000) = true
      · have HB := Lib.hid hbad
        have HE : Hid (needErr W O K = 2) := Lib.hid (HR.out.trans (if_pos (Or.inr (Or.inl hbad))))
        clear hbad HQ
        go_wp2_with fail
        refine (lotsContains_any _ _ _ O _ rfl bO (hO.at hb)).mono ?_
        rintro e w1 ⟨rfl, hb1⟩
        rw [HB.out]
        go_wp2
        go_ret
        exact ⟨by rw [HE.out]; rfl, below_next hb hb1⟩
      · have HB : Hid (O.any (outOf 1000000) = false) := Lib.hid (by simpa using hbad)
        clear hbad
        go_wp2_with fail
        refine (lotsContains_any _ _ _ O _ rfl bO (hO.at hb)).mono ?_
        rintro e w1 ⟨rfl, hb1⟩
        rw [HB.out]
        have hs1 := hb1.size
        have k0 := (hb1.cell (lt_of_cell d0)).trans d0
        have k1 := (hb1.cell (lt_of_cell d1)).trans d1
        have k2 := (hb1.cell (lt_of_cell d2)).trans d2
        clear d0 d1 d2 c
        go_wp2
        exact ⟨⟨2, by omega, rfl, Lib.hid ⟨fun _ => HQ.out.1 (by omega), fun _ => HB.out, fun h => by omega⟩, k0, k1, k2, below_next hb hb1⟩, by simp [intOf]⟩
    · have c := c2
      clear c0 c1 c2
      by_cases hbad : K.any (outOf 1000000) = true
      · have HB := Lib.hid hbad
        have HE : Hid (needErr W O K = 2) := Lib.hid (HR.out.trans (if_pos (Or.inr (Or.inr hbad))))
        clear hbad HQ
        go_wp2_with fail
        refine (lotsContains_any _ _ _ K _ rfl bK (hK.at hb)).mono ?_
        rintro e w1 ⟨rfl, hb1⟩
        rw [HB.out]
        go_wp2
        go_ret
        exact ⟨by rw [HE.out]; rfl, below_next hb hb1⟩
      · have HB : Hid (K.any (outOf 1000000) = false) := Lib.hid (by simpa using hbad)
        clear hbad
        go_wp2_with fail
        refine (lotsContains_any _ _ _ K _ rfl bK (hK.at hb)).mono ?_
        rintro e w1 ⟨rfl, hb1⟩
        rw [HB.out]
        have hs1 := hb1.size
        have k0 := (hb1.cell (lt_of_cell d0)).trans d0
        have k1 := (hb1.cell (lt_of_cell d1)).trans d1
        have k2 := (hb1.cell (lt_of_cell d2)).trans d2
        clear d0 d1 d2 c
        go_wp2
        exact ⟨⟨3, by omega, rfl, Lib.hid ⟨fun _ => HQ.out.1 (by omega), fun _ => HQ.out.2.1 (by omega), fun _ => HB.out⟩, k0, k1, k2, below_next hb hb1⟩, by simp [intOf]⟩
    · have HE : Hid (needErr W O K = 0) := Lib.hid (HR.out.trans (if_neg (by
        rw [HQ.out.1 (by omega), HQ.out.2.1 (by omega), HQ.out.2.2 (by omega)]; simp)))
      clear HQ c0 c1 c2 d0 d1 d2
      go_wp2
      go_ret
      exact ⟨by rw [HE.out]; rfl, hb⟩
set_option maxRecDepth 100000 in
set_option maxHeartbeats 4000000 in
theorem refNeed_any (aW aO aK : Option Addr) (nW nO nK cW cO cK : Nat) (W O K : List Int) (w : World) (lW : nW = W.length) (lO : nO = O.length) (lK : nK = K.length) (bW : W.length ≤ 1000)
    (hW : Elems encI 1 w aW W) (hO : Elems encI 1 w aO O) (hK : Elems encI 1 w aK K) :
    Calls Tryd.prog 37 #[.agg #[.slice aW nW cW, .slice aO nO cO, .slice aK nK cK]] w fun e w' => e = .returned (.int .i64 (needErr W O K)) ∧ Below w.heap.size w w' := by
  subst lW; subst lO; subst lK
  by_cases h1 : 50 < W.length
  · have hd : decide ((50 : Int) < (W.length : Int)) = true := by simp; omega
    have HR : Hid (needErr W O K = 4) := Lib.hid (if_pos h1)
    clear h1
    go_enter Tryd.func37, Tryd.ntmps37
    go_wp2
    go_ret
    exact ⟨by rw [HR.out]; rfl, (Below.refl _ _).alloc (Nat.le_refl _) _⟩
  have hd : decide ((50 : Int) < (W.length : Int)) = false := by simp; omega
  by_cases h2 : O.length ≠ W.length ∨ K.length ≠ W.length
  · have HR : Hid (needErr W O K = 3) := Lib.hid ((if_neg h1).trans (if_pos h2))
    clear h1
    rcases h2 with h2 | h2
    · have hd2 : ((O.length : Int) != (W.length : Int)) = true := by simp; omega
      go_enter Tryd.func37, Tryd.ntmps37
      go_wp2
      go_ret
      exact ⟨by rw [HR.out]; rfl, (Below.refl _ _).alloc (Nat.le_refl _) _⟩
    · have hd3 : ((K.length : Int) != (W.length : Int)) = true := by simp; omega
      by_cases h3 : O.length = W.length
      · have hd2 : ((O.length : Int) != (W.length : Int)) = false := by simp; omega
        go_enter Tryd.func37, Tryd.ntmps37
        go_wp2
        go_ret
        exact ⟨by rw [HR.out]; rfl, (Below.refl _ _).alloc (Nat.le_refl _) _⟩
      · have hd2 : ((O.length : Int) != (W.length : Int)) = true := by simp; omega
        go_enter Tryd.func37, Tryd.ntmps37
        go_wp2
        go_ret
        exact ⟨by rw [HR.out]; rfl, (Below.refl _ _).alloc (Nat.le_refl _) _⟩
  have hd2 : ((O.length : Int) != (W.length : Int)) = false := by simp; omega
  have hd3 : ((K.length : Int) != (W.length : Int)) = false := by simp; omega
  have HR : Hid (needErr W O K = if W.any (outOf 1000000) = true ∨ O.any (outOf 1000000) = true ∨ K.any (outOf 1000000) = true then 2 else 0) := Lib.hid ((if_neg h1).trans (if_neg h2))
  have HOL := Lib.hid (show O.length = W.length by omega)
  have HKL := Lib.hid (show K.length = W.length by omega)
  clear h1 h2
  go_enter Tryd.func37, Tryd.ntmps37
  go_wp2_with fail
  go_loopw [29] (fun i wr => ∃ k : Nat, k ≤ W.length ∧ i = .int .i64 k ∧ Hid ((W.take k).any (outOf 1000000) = false ∧ (O.take k).any (outOf 1000000) = false ∧ (K.take k).any (outOf 1000000) = false) ∧
      wr.cell? ⟨w.heap.size, 0, none⟩ = some (.slice aW W.length cW) ∧ wr.cell? ⟨w.heap.size, 1, none⟩ = some (.slice aO O.length cO) ∧ wr.cell? ⟨w.heap.size, 2, none⟩ = some (.slice aK K.length cK) ∧ Below w.heap.size w wr) (fun i _ => W.length - (intOf i).toNat)
  case atStart => exact ⟨0, by omega, rfl, Lib.hid (by simp), by simp, by simp, by simp, (Below.refl _ _).alloc (Nat.le_refl _) _⟩
  case round =>
    obtain ⟨k, hk, rfl, HQ, d0, d1, d2, hb⟩ := hrel
    by_cases hlt : k < W.length
    · have hlO : k < O.length := by rw [HOL.out]; exact hlt
      have hlK : k < K.length := by rw [HKL.out]; exact hlt
      obtain ⟨b0, o0, rfl, e0⟩ := hW.some hlt
      obtain ⟨b1, o1, rfl, e1⟩ := hO.some hlO
      obtain ⟨b2, o2, rfl, e2⟩ := hK.some hlK
      have f0 := (hb.cell (lt_of_cell (e0 k hlt 0 _ rfl))).trans (e0 k hlt 0 _ rfl)
      have f1 := (hb.cell (lt_of_cell (e1 k hlO 0 _ rfl))).trans (e1 k hlO 0 _ rfl)
      have f2 := (hb.cell (lt_of_cell (e2 k hlK 0 _ rfl))).trans (e2 k hlK 0 _ rfl)
      simp only [Nat.add_zero, Nat.mul_one] at f0 f1 f2
      clear e0 e1 e2
      go_wp2_with fail
      go_region
      go_wp2
      go_loopw [49] (fun i wi => ∃ q : Nat, q ≤ 3 ∧ i = .int .i64 q ∧ Hid ((1 ≤ q → outOf 1000000 W[k] = false) ∧ (2 ≤ q → outOf 1000000 O[k] = false) ∧ (3 ≤ q → outOf 1000000 K[k] = false)) ∧ ∃ m, wi = (wr.alloc (Obj.cells #[.int .i64 W[k], .int .i64 O[k], .int .i64 K[k]] 3)).drewN m) (fun i _ => 3 - (intOf i).toNat)
      case atStart => exact ⟨0, by omega, rfl, Lib.hid ⟨fun h => by omega, fun h => by omega, fun h => by omega⟩, _, rfl⟩
      case round =>
        obtain ⟨q, hq, rfl, HI, m, rfl⟩ := hrel
        obtain rfl | rfl | rfl | rfl : q = 0 ∨ q = 1 ∨ q = 2 ∨ q = 3 := by omega
        · by_cases hbad : outOf 1000000 W[k] = true
          · have hany : W.any (outOf 1000000) = true := List.any_eq_true.2 ⟨_, List.getElem_mem hlt, hbad⟩
            have HE : Hid (needErr W O K = 2) := Lib.hid (HR.out.trans (if_pos (Or.inl hany)))
            have hcase : W[k] < 0 ∨ 1000000 < W[k] := by simpa [outOf] using hbad
            clear hany HI HQ HR hbad d0 d1 d2 f0 f1 f2
            rcases hcase with hcase | hcase
            · go_wp2_with fail
              go_ret
              exact ⟨by rw [HE.out]; rfl, below_drewN' (hb.alloc hb.size _) _⟩
            · have hc2 : ¬ W[k] < 0 := by omega
              go_wp2_with fail
              go_ret
              exact ⟨by rw [HE.out]; rfl, below_drewN' (hb.alloc hb.size _) _⟩
          · have HB : Hid (outOf 1000000 W[k] = false) := Lib.hid (by simpa using hbad)
            have hcase : ¬ W[k] < 0 ∧ ¬ 1000000 < W[k] := by simpa [outOf] using hbad
            obtain ⟨hc1, hc2⟩ := hcase
            clear HQ HR hbad d0 d1 d2 f0 f1 f2
            go_wp2_with fail
            exact ⟨⟨1, by omega, rfl, Lib.hid ⟨fun _ => HB.out, fun h => by omega, fun h => by omega⟩, _, rfl⟩, by simp [intOf]⟩
        · by_cases hbad : outOf 1000000 O[k] = true
          · have hany : O.any (outOf 1000000) = true := List.any_eq_true.2 ⟨_, List.getElem_mem hlO, hbad⟩
            have HE : Hid (needErr W O K = 2) := Lib.hid (HR.out.trans (if_pos (Or.inr (Or.inl hany))))
            have hcase : O[k] < 0 ∨ 1000000 < O[k] := by simpa [outOf] using hbad
            clear hany HI HQ HR hbad d0 d1 d2 f0 f1 f2
            rcases hcase with hcase | hcase
            · go_wp2_with fail
              go_ret
              exact ⟨by rw [HE.out]; rfl, below_drewN' (hb.alloc hb.size _) _⟩
            · have hc2 : ¬ O[k] < 0 := by omega
              go_wp2_with fail
              go_ret
              exact ⟨by rw [HE.out]; rfl, below_drewN' (hb.alloc hb.size _) _⟩
          · have HB : Hid (outOf 1000000 O[k] = false) := Lib.hid (by simpa using hbad)
            have hcase : ¬ O[k] < 0 ∧ ¬ 1000000 < O[k] := by simpa [outOf] using hbad
            obtain ⟨hc1, hc2⟩ := hcase
            clear HQ HR hbad d0 d1 d2 f0 f1 f2
            go_wp2_with fail
            exact ⟨⟨2, by omega, rfl, Lib.hid ⟨fun _ => HI.out.1 (by omega), fun _ => HB.out, fun h => by omega⟩, _, rfl⟩, by simp [intOf]⟩
        · by_cases hbad : outOf 1000000 K[k] = true
          · have hany : K.any (outOf 1000000) = true := List.any_eq_true.2 ⟨_, List.getElem_mem hlK, hbad⟩
            have HE : Hid (needErr W O K = 2) := Lib.hid (HR.out.trans (if_pos (Or.inr (Or.inr hany))))
            have hcase : K[k] < 0 ∨ 1000000 < K[k] := by simpa [outOf] using hbad
            clear hany HI HQ HR hbad d0 d1 d2 f0 f1 f2
            rcases hcase with hcase | hcase
            · go_wp2_with fail
              go_ret
              exact ⟨by rw [HE.out]; rfl, below_drewN' (hb.alloc hb.size _) _⟩
            · have hc2 : ¬ K[k] < 0 := by omega
              go_wp2_with fail
              go_ret
              exact ⟨by rw [HE.out]; rfl, below_drewN' (hb.alloc hb.size _) _⟩
          · have HB : Hid (outOf 1000000 K[k] = false) := Lib.hid (by simpa using hbad)
            have hcase : ¬ K[k] < 0 ∧ ¬ 1000000 < K[k] := by simpa [outOf] using hbad
            obtain ⟨hc1, hc2⟩ := hcase
            clear HQ HR hbad d0 d1 d2 f0 f1 f2
            go_wp2_with fail
            exact ⟨⟨3, by omega, rfl, Lib.hid ⟨fun _ => HI.out.1 (by omega), fun _ => HI.out.2.1 (by omega), fun _ => HB.out⟩, _, rfl⟩, by simp [intOf]⟩
        · have HK : Hid ((W.take (k + 1)).any (outOf 1000000) = false ∧ (O.take (k + 1)).any (outOf 1000000) = false ∧ (K.take (k + 1)).any (outOf 1000000) = false) := Lib.hid (by
            rw [List.take_succ_eq_append_getElem hlt, List.take_succ_eq_append_getElem hlO, List.take_succ_eq_append_getElem hlK, List.any_append, List.any_append, List.any_append, HQ.out.1, HQ.out.2.1, HQ.out.2.2]
            simp [HI.out.1 (by omega), HI.out.2.1 (by omega), HI.out.2.2 (by omega)])
          have g0 := cell_a1 d0
          have g1 := cell_a1 d1
          have g2 := cell_a1 d2
          clear HI HQ HR d0 d1 d2 f0 f1 f2
          go_wp2_with fail
          exact ⟨⟨k + 1, by omega, by go_num, HK, g0 _, g1 _, g2 _, below_drewN' (hb.alloc hb.size _) _⟩, by simp [intOf]; omega⟩
    · obtain rfl : k = W.length := by omega
      have HE : Hid (needErr W O K = 0) := Lib.hid (HR.out.trans (if_neg (by
        have h1 := HQ.out.1
        have h2 := HQ.out.2.1
        have h3 := HQ.out.2.2
        rw [List.take_length] at h1
        rw [← HOL.out, List.take_length] at h2
        rw [← HKL.out, List.take_length] at h3
        rw [h1, h2, h3]; simp)))
      clear HQ HR d0 d1 d2
      go_wp2
      go_ret
      exact ⟨by rw [HE.out]; rfl, hb⟩
end Go.Proofs.YtfaklhkdfpfjgaaDoor
