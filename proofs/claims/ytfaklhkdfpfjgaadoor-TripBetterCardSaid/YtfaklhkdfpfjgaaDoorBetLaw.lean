/- The law TripBetter: turning pieces over ends where the reference does, or both tell the same error. -/
import Derived.Test.YtfaklhkdfpfjgaaDoorRefBet
import Derived.Test.YtfaklhkdfpfjgaaDoorSame
import Derived.Test.YtfaklhkdfpfjgaaDoorLift0
namespace Go.Proofs.YtfaklhkdfpfjgaaDoor
open Go.RowKit

def symTo (A : List (List Int)) (i k : Nat) : Bool := (List.range k).all fun k => decide (distM A (i : Int) (k : Int) = distM A (k : Int) (i : Int))
def symRows (A : List (List Int)) (i : Nat) : Bool := (List.range i).all fun i => symTo A i A.length
theorem symRows_all (A : List (List Int)) : symRows A A.length = symB A := rfl
theorem symTo_succ (A : List (List Int)) (i k : Nat) : symTo A i (k + 1) = (symTo A i k && decide (distM A (i : Int) (k : Int) = distM A (k : Int) (i : Int))) := by
  unfold symTo
  rw [List.range_succ, List.all_append]
  simp
theorem symRows_succ (A : List (List Int)) (i : Nat) : symRows A (i + 1) = (symRows A i && symTo A i A.length) := by
  unfold symRows
  rw [List.range_succ, List.all_append]
  simp
theorem symRows_mono (A : List (List Int)) {i j : Nat} (h : i ≤ j) (hj : symRows A i = false) : symRows A j = false := by
  obtain ⟨d, rfl⟩ : ∃ d, j = i + d := ⟨j - i, by omega⟩
  clear h
  induction d with
  | zero => exact hj
  | succ d ih => rw [← Nat.add_assoc, symRows_succ, ih]; rfl
theorem symTo_mono (A : List (List Int)) (i : Nat) {k j : Nat} (h : k ≤ j) (hj : symTo A i k = false) : symTo A i j = false := by
  obtain ⟨d, rfl⟩ : ∃ d, j = k + d := ⟨j - k, by omega⟩
  clear h
  induction d with
  | zero => exact hj
  | succ d ih => rw [← Nat.add_assoc, symTo_succ, ih]; rfl
def betErr (A : List (List Int)) (way : List Int) : Int := if mapCheck A ≠ 0 then mapCheck A else if orderM way A.length ≠ 0 then orderM way A.length else if symB A = true then 0 else 3

set_option maxRecDepth 100000 in
set_option maxHeartbeats 8000000 in
theorem better_bad (a a2 : Option Addr) (n n2 cap cap2 : Nat) (A : List (List Int)) (way : List Int) (w : World) (hl : n = A.length) (hn : n ≤ maxLen) (hl2 : n2 = way.length) (hw : way.length ≤ 100) (hE : betErr A way ≠ 0)
    (hr : Rows2 w a A) (hx : Elems encI 1 w a2 way) :
    Calls Tryd.prog 54 #[.slice a n cap, .slice a2 n2 cap2] w fun e w' => e = .returned (.tuple #[.slice none 0 0, errV (betErr A way)]) ∧ Below w.heap.size w w' := by
  subst hl; subst hl2
  have HC1 := tripChk_any a _ cap A w rfl hn hr
  have HC2 := fun w' h => order_any a2 _ cap2 (A.length : Int) way w' rfl hw h
  by_cases hM : mapCheck A = 0
  case neg =>
    have hB : betErr A way = mapCheck A := if_pos hM
    have hV : errV (mapCheck A) = .iface 25 (.int .i64 (mapCheck A)) := if_neg hM
    rw [hB]
    rw [hV] at HC1 ⊢
    clear hB hV hM hE
    generalize mapCheck A = ev at *
    go_enter Tryd.func54, Tryd.ntmps54
    go_wp2_with fail
    refine HC1.mono ?_
    rintro e w1 ⟨rfl, hb1⟩
    go_wp2
    go_ret2
    exact ⟨rfl, hb1⟩
  rw [hM, show errV 0 = .nilIface from rfl] at HC1
  by_cases hO : orderM way A.length = 0
  case neg =>
    have hB : betErr A way = orderM way A.length := (if_neg (fun h => h hM)).trans (if_pos hO)
    have hV : errV (orderM way A.length) = .iface 25 (.int .i64 (orderM way A.length)) := if_neg hO
    rw [hB]
    rw [hV] at HC2 ⊢
    have HC2 := Lib.hid HC2
    clear hB hV hO hE hM
    generalize orderM way A.length = ev at *
    go_enter Tryd.func54, Tryd.ntmps54
    go_wp2_with fail
    refine HC1.mono ?_
    rintro e w1 ⟨rfl, hb1⟩
    go_wp2_with fail
    refine (HC2.out _ (hx.at hb1)).mono ?_
    rintro e w2 ⟨rfl, hb2⟩
    go_wp2
    go_ret2
    exact ⟨rfl, below_next hb1 hb2⟩
  rw [hO, show errV 0 = .nilIface from rfl] at HC2
  have hB1 : betErr A way = if symB A = true then 0 else 3 := (if_neg (fun h => h hM)).trans (if_neg (fun h => h hO))
  have hS : symB A = false := by
    cases h : symB A with
    | false => rfl
    | true => rw [hB1, h, if_pos rfl] at hE; exact absurd rfl hE
  have hB : betErr A way = 3 := by rw [hB1, hS, if_neg (by simp)]
  obtain ⟨hA9, hA⟩ := map_ok hM
  rw [hB, show errV 3 = .iface 25 (.int .i64 3) from rfl]
  have HC2 := Lib.hid HC2
  have HRR := Lib.hid hr
  have HX := Lib.hid hx
  have HA := Lib.hid hA
  have HS := Lib.hid hS
  clear hr hx hA hS hM hO hB hB1 hE hn
  go_enter Tryd.func54, Tryd.ntmps54
  go_wp2_with fail
  refine HC1.mono ?_
  rintro e w1 ⟨rfl, hb1⟩
  go_wp2_with fail
  refine (HC2.out _ (HX.out.at hb1)).mono ?_
  rintro e w2 ⟨rfl, hb2⟩
  have hb02 := below_next hb1 hb2
  clear hb1 hb2
  go_wp2
  go_loopw [8, 32] (fun _ iv wr => ∃ i m : Nat, i ≤ A.length ∧ iv = .int .i64 i ∧ Hid (symRows A i = true) ∧ wr = w2.drewN m) (fun _ iv _ => A.length - (intOf iv).toNat)
  case atStart => exact ⟨0, 0, by omega, rfl, Lib.hid rfl, rfl⟩
  case round =>
    obtain ⟨i, m, hi, rfl, HSI, rfl⟩ := hrel
    by_cases hil : i < A.length
    · go_wp2
      go_loopw [9, 37] (fun _ kv wr => ∃ k m : Nat, k ≤ A.length ∧ kv = .int .i64 k ∧ Hid (symTo A i k = true) ∧ wr = w2.drewN m) (fun _ kv _ => A.length - (intOf kv).toNat)
      case atStart => exact ⟨0, m, by omega, rfl, Lib.hid rfl, rfl⟩
      case round =>
        obtain ⟨k, m, hk, rfl, HSK, rfl⟩ := hrel
        by_cases hkl : k < A.length
        · obtain ⟨b2, o2, rfl, R, hR⟩ := rows_at HA.out (HRR.out.at hb02) (by omega)
          obtain ⟨e1, g0⟩ := hR i hil
          obtain ⟨f1, f0⟩ := hR k hkl
          have g1 := g0 k hkl
          have g2 := f0 i hil
          have HSS := Lib.hid (symTo_succ A i k)
          clear hR g0 f0
          by_cases hd : distM A (i : Int) (k : Int) = distM A (k : Int) (i : Int)
          · have HK2 : Hid (symTo A i (k + 1) = true) := Lib.hid (by rw [HSS.out, HSK.out, decide_eq_true hd]; rfl)
            rw [hd] at g1
            clear hd
            generalize distM A (k : Int) (i : Int) = dv at *
            generalize (R i).1 = ba at *
            generalize (R i).2.1 = oa at *
            generalize (R k).1 = bb at *
            generalize (R k).2.1 = ob at *
            have hdv : (dv != dv) = false := by simp
            go_wp2
            go_quiet (fail)
            go_wp2
            exact ⟨⟨k + 1, _, by omega, by go_num, HK2, rfl⟩, by simp [intOf]; omega⟩
          · have hdv : (distM A (i : Int) (k : Int) != distM A (k : Int) (i : Int)) = true := bne_iff_ne.2 hd
            clear hd
            generalize distM A (k : Int) (i : Int) = dv at *
            generalize distM A (i : Int) (k : Int) = dw at *
            generalize (R i).1 = ba at *
            generalize (R i).2.1 = oa at *
            generalize (R k).1 = bb at *
            generalize (R k).2.1 = ob at *
            go_wp2
            go_quiet (fail)
            go_wp2
            first | go_ret2 | (rw [Exit.noGoto_ret]; go_ret2)
            exact ⟨rfl, below_drewN' hb02 _⟩
        · obtain rfl : k = A.length := by omega
          have HI2 : Hid (symRows A (i + 1) = true) := Lib.hid (by rw [symRows_succ, HSI.out, HSK.out]; rfl)
          go_wp2
          exact ⟨⟨i + 1, m, by omega, by go_num, HI2, rfl⟩, by simp [intOf]; omega⟩
    · exfalso
      have : i = A.length := by omega
      have h1 := HSI.out
      rw [this, symRows_all, HS.out] at h1
      cases h1

set_option maxRecDepth 100000 in
set_option maxHeartbeats 8000000 in
theorem tripBetter_law (a a2 : Option Addr) (n n2 cap cap2 : Nat) (A : List (List Int)) (way : List Int) (w : World) (hg : Hnd w) (hl : n = A.length) (hn : n ≤ maxLen) (hl2 : n2 = way.length) (hn2 : n2 ≤ maxLen) (hcap : n2 ≤ cap2) (ha2 : a2 = none → cap2 = 0)
    (hr : Rows2 w a A) (hx : Elems encI 1 w a2 way) :
    Calls Tryd.prog 12 #[.slice a n cap, .slice a2 n2 cap2] w fun e w' => e = .returned (.bool true) ∧ Below w.heap.size w w' := by
  subst hl; subst hl2
  have HBIG := big_any a _ cap A w rfl hn hr
  unfold maxLen at hn2
  by_cases hlong : (60 : Int) < (way.length : Int)
  · have hd := decide_eq_true hlong
    clear hlong
    go_enter Tryd.func12, Tryd.ntmps12
    go_wp2_with fail
    refine HBIG.mono ?_
    intro e w1 hw
    unfold BigPost at hw
    obtain ⟨b, rfl, rfl⟩ := hw
    cases b with
    | true =>
      go_wp2
      go_ret
      exact ⟨rfl, Below.refl _ _⟩
    | false =>
      go_wp2
      go_ret
      exact ⟨rfl, Below.refl _ _⟩
  have hd60 := decide_eq_false hlong
  have hw60 : way.length ≤ 60 := by omega
  clear hlong
  have HC1 := fun w' h => refMap_any a _ cap A w' rfl hn h
  have HC2 := fun w' h => refOrder_any a2 _ cap2 (A.length : Int) way w' rfl (by omega) h hcap
  have HC1 := Lib.hid HC1
  have HC2 := Lib.hid HC2
  -- what an error comes to in the end
  have HBAD : Hid (∀ w', betErr A way ≠ 0 → Rows2 w' a A → Elems encI 1 w' a2 way → Calls Tryd.prog 54 #[.slice a A.length cap, .slice a2 way.length cap2] w' fun e w'' => e = .returned (.tuple #[.slice none 0 0, errV (betErr A way)]) ∧ Below w'.heap.size w' w'') :=
    Lib.hid (fun w' hE h1 h2 => better_bad a a2 _ _ cap cap2 A way w' rfl hn rfl (by omega) hE h1 h2)
  by_cases hM : mapCheck A = 0
  case neg =>
    have hB : betErr A way = mapCheck A := if_pos hM
    rw [hB] at HBAD
    have HNZ := Lib.hid hM
    have hz0 : (mapCheck A == 0) = false := by simpa using hM
    clear hB hM HC2
    generalize mapCheck A = ev at *
    go_enter Tryd.func12, Tryd.ntmps12
    go_wp2_with fail
    refine HBIG.mono ?_
    intro e w1 hw
    unfold BigPost at hw
    obtain ⟨b, rfl, rfl⟩ := hw
    cases b with
    | true =>
      go_wp2
      go_ret
      exact ⟨rfl, Below.refl _ _⟩
    | false =>
      go_wp2_with fail
      refine (HC1.out _ hr).mono ?_
      rintro e w2 ⟨rfl, hb2⟩
      go_wp2
      go_loop [6, 5] (fun iv ev' => iv = .int .i64 0 ∧ ev' = .int .i64 ev) (fun _ _ => 0)
      case atStart => exact ⟨rfl, rfl⟩
      case round =>
        obtain ⟨rfl, rfl⟩ := hrel
        by_cases h0 : (0 : Int) < (A.length : Int)
        all_goals
          go_wp2_with fail
          refine (HBAD.out _ HNZ.out (hr.at hb2) (hx.at hb2)).mono ?_
          rintro e w3 ⟨rfl, hb3⟩
          have hb03 := below_next hb2 hb3
          go_wp2_with fail
          refine (ints_any ev none none 0 0 0 0 [] [] _ (hg.at hb03) rfl rfl (by simp) (by simp) (Or.inl rfl) (Or.inl rfl) (fun _ => rfl) (fun _ => rfl)).mono ?_
          rintro e w4 ⟨rfl, hb4⟩
          go_wp2
          go_ret
          exact ⟨rfl, below_next hb03 hb4⟩
  by_cases hO : orderM way A.length = 0
  case neg =>
    have hB : betErr A way = orderM way A.length := (if_neg (fun h => h hM)).trans (if_pos hO)
    rw [hB] at HBAD
    rw [hM] at HC1
    have HNZ := Lib.hid hO
    have hz0 : (orderM way A.length == 0) = false := by simpa using hO
    clear hB hM hO
    generalize orderM way A.length = ev at *
    go_enter Tryd.func12, Tryd.ntmps12
    go_wp2_with fail
    refine HBIG.mono ?_
    intro e w1 hw
    unfold BigPost at hw
    obtain ⟨b, rfl, rfl⟩ := hw
    cases b with
    | true =>
      go_wp2
      go_ret
      exact ⟨rfl, Below.refl _ _⟩
    | false =>
      go_wp2_with fail
      refine (HC1.out _ hr).mono ?_
      rintro e w2 ⟨rfl, hb2⟩
      go_wp2_with fail
      refine (HC2.out _ (hx.at hb2)).mono ?_
      rintro e w3 ⟨rfl, hb3⟩
      have hb03 := below_next hb2 hb3
      clear hb2 hb3
      go_wp2
      go_loop [6, 5] (fun iv ev' => iv = .int .i64 0 ∧ ev' = .int .i64 ev) (fun _ _ => 0)
      case atStart => exact ⟨rfl, rfl⟩
      case round =>
        obtain ⟨rfl, rfl⟩ := hrel
        by_cases h0 : (0 : Int) < (A.length : Int)
        all_goals
          go_wp2_with fail
          refine (HBAD.out _ HNZ.out (hr.at hb03) (hx.at hb03)).mono ?_
          rintro e w4 ⟨rfl, hb4⟩
          have hb04 := below_next hb03 hb4
          go_wp2_with fail
          refine (ints_any ev none none 0 0 0 0 [] [] _ (hg.at hb04) rfl rfl (by simp) (by simp) (Or.inl rfl) (Or.inl rfl) (fun _ => rfl) (fun _ => rfl)).mono ?_
          rintro e w5 ⟨rfl, hb5⟩
          go_wp2
          go_ret
          exact ⟨rfl, below_next hb04 hb5⟩
  obtain ⟨hA9, hA⟩ := map_ok hM
  have hB : betErr A way = if symB A = true then 0 else 3 := (if_neg (fun h => h hM)).trans (if_neg (fun h => h hO))
  have HB := Lib.hid hB
  have HMM := Lib.hid hM
  have HOO := Lib.hid hO
  have HA := Lib.hid hA
  have HRR := Lib.hid hr
  have HX := Lib.hid hx
  rw [hM] at HC1
  rw [hO] at HC2
  have hwl : way.length = A.length := by have := (order_ok hO).1; omega
  have HWL := Lib.hid hwl
  clear hB hM hO hA hr hx hwl
  go_enter Tryd.func12, Tryd.ntmps12
  go_wp2_with fail
  refine HBIG.mono ?_
  intro e w1 hw
  unfold BigPost at hw
  obtain ⟨b, rfl, rfl⟩ := hw
  cases b with
  | true =>
    go_wp2
    go_ret
    exact ⟨rfl, Below.refl _ _⟩
  | false =>
    go_wp2_with fail
    refine (HC1.out _ HRR.out).mono ?_
    rintro e w2 ⟨rfl, hb2⟩
    go_wp2_with fail
    refine (HC2.out _ (HX.out.at hb2)).mono ?_
    rintro e w3 ⟨rfl, hb3⟩
    have hb03 := below_next hb2 hb3
    clear hb2 hb3 HC1 HC2
    go_wp2
    go_loopw [5, 6] (fun ev iv wr => ∃ i m : Nat, i ≤ A.length ∧ iv = .int .i64 i ∧ ev = .int .i64 (if symRows A i = true then 0 else 3) ∧ wr = w3.drewN m) (fun _ iv _ => A.length - (intOf iv).toNat)
    case atStart => exact ⟨0, 0, by omega, rfl, rfl, rfl⟩
    case round =>
      obtain ⟨i, m, hi, rfl, rfl, rfl⟩ := hrel
      cases hsi : symRows A i with
      | false =>
        have hS : symB A = false := symRows_mono A hi hsi
        have hE3 : betErr A way = 3 := by rw [HB.out, hS, if_neg (by simp)]
        rw [hE3] at HBAD
        have hbm := below_drewN' hb03 m
        clear hsi hS hE3
        rw [if_neg (by simp)]
        by_cases h0 : i < A.length
        all_goals
          go_wp2_with fail
          refine (HBAD.out _ (by decide) (HRR.out.at hbm) (HX.out.at hbm)).mono ?_
          rintro e w4 ⟨rfl, hb4⟩
          have hb04 := below_next hbm hb4
          go_wp2_with fail
          refine (ints_any 3 none none 0 0 0 0 [] [] _ (hg.at hb04) rfl rfl (by simp) (by simp) (Or.inl rfl) (Or.inl rfl) (fun _ => rfl) (fun _ => rfl)).mono ?_
          rintro e w5 ⟨rfl, hb5⟩
          go_wp2
          go_ret
          exact ⟨rfl, below_next hb04 hb5⟩
      | true =>
        have HSI := Lib.hid hsi
        clear hsi
        rw [if_pos rfl]
        by_cases hil : i < A.length
        · go_wp2
          go_loopw [5, 7] (fun ev kv wr => ∃ k m : Nat, k ≤ A.length ∧ kv = .int .i64 k ∧ ev = .int .i64 (if symTo A i k = true then 0 else 3) ∧ wr = w3.drewN m) (fun _ kv _ => A.length - (intOf kv).toNat)
          case atStart => exact ⟨0, m, by omega, rfl, rfl, rfl⟩
          case round =>
            obtain ⟨k, m, hk, rfl, rfl, rfl⟩ := hrel
            by_cases hkl : k < A.length
            · obtain ⟨b2, o2, haa, R, hR⟩ := rows_at HA.out (HRR.out.at hb03) (by omega)
              obtain ⟨e1, g0⟩ := hR i hil
              obtain ⟨f1, f0⟩ := hR k hkl
              have g1 := g0 k hkl
              have g2 := f0 i hil
              have HSS := Lib.hid (symTo_succ A i k)
              subst haa
              clear hR g0 f0
              by_cases hd : distM A (i : Int) (k : Int) = distM A (k : Int) (i : Int)
              · have HK2 : Hid ((if symTo A i k = true then (0 : Int) else 3) = if symTo A i (k + 1) = true then 0 else 3) := Lib.hid (by rw [HSS.out, decide_eq_true hd, Bool.and_true])
                rw [hd] at g1
                clear hd
                generalize distM A (k : Int) (i : Int) = dv at *
                generalize (R i).1 = ba at *
                generalize (R i).2.1 = oa at *
                generalize (R k).1 = bb at *
                generalize (R k).2.1 = ob at *
                have hdv : (dv != dv) = false := by simp
                generalize (if symTo A i k = true then (0 : Int) else 3) = ek at *
                go_wp2
                go_quiet (fail)
                go_wp2
                exact ⟨⟨k + 1, _, by omega, by go_num, congrArg (Value.int .i64) HK2.out, rfl⟩, by simp [intOf]; omega⟩
              · have hdv : (distM A (i : Int) (k : Int) != distM A (k : Int) (i : Int)) = true := bne_iff_ne.2 hd
                have HK2 : Hid (3 = if symTo A i (k + 1) = true then (0 : Int) else 3) := Lib.hid (by rw [HSS.out, decide_eq_false hd, Bool.and_false, if_neg (by simp)])
                clear hd
                generalize distM A (k : Int) (i : Int) = dv at *
                generalize distM A (i : Int) (k : Int) = dw at *
                generalize (R i).1 = ba at *
                generalize (R i).2.1 = oa at *
                generalize (R k).1 = bb at *
                generalize (R k).2.1 = ob at *
                generalize (if symTo A i k = true then (0 : Int) else 3) = ek at *
                go_wp2
                go_quiet (fail)
                go_wp2
                exact ⟨⟨k + 1, _, by omega, by go_num, congrArg (Value.int .i64) HK2.out, rfl⟩, by simp [intOf]; omega⟩
            · obtain rfl : k = A.length := by omega
              have HI2 : Hid ((if symTo A i A.length = true then (0 : Int) else 3) = if symRows A (i + 1) = true then 0 else 3) := Lib.hid (by rw [symRows_succ, HSI.out, Bool.true_and])
              rw [HI2.out]
              go_wp2
              exact ⟨⟨i + 1, m, by omega, by go_num, rfl, rfl⟩, by simp [intOf]; omega⟩
        · obtain rfl : i = A.length := by omega
          have hS : symB A = true := HSI.out
          have hE0 : betErr A way = 0 := by rw [HB.out, hS, if_pos rfl]
          have hbm := below_drewN' hb03 m
          have HR := Lib.hid (fun w' h1 h2 => refBetter_ok a a2 _ _ cap cap2 A way w' rfl rfl HMM.out HOO.out hS ha2 h1 h2)
          have HP := Lib.hid (fun w' h1 h2 => better_ok a a2 _ _ cap cap2 A way w' rfl rfl HMM.out HOO.out hS ha2 h1 h2)
          clear hS hE0 hil hi HBAD
          go_wp2_with fail
          refine (HR.out _ (HRR.out.at hbm) (HX.out.at hbm)).mono ?_
          intro e w4 hw4
          unfold RefBetPost at hw4
          obtain ⟨a4, c4, r4, rfl, he4, hE4, hl4, hb4⟩ := hw4
          have hb04 := below_next hbm hb4
          go_wp2_with fail
          refine (HP.out _ (HRR.out.at hb04) (HX.out.at hb04)).mono ?_
          intro e w5 hw5
          unfold BetPost at hw5
          obtain ⟨a5, c5, r5, rfl, he5, hE5, hl5, hb5⟩ := hw5
          have hb05 := below_next hb04 hb5
          have hrr : r5 = r4 := EndsAt.one hE5 hE4
          have hE0 : errV 0 = .nilIface := rfl
          rw [← hE0]
          go_wp2_with fail
          refine (ints_any 0 a5 a4 _ _ _ _ r5 r4 _ (hg.at hb05) hl5.symm (HWL.out.trans hl4.symm) (by omega) (by omega) he5 (he4.at hb5) (fun _ => hrr) (fun h => absurd rfl h)).mono ?_
          rintro e w6 ⟨rfl, hb6⟩
          go_wp2
          go_ret
          exact ⟨rfl, below_next hb05 hb6⟩
end Go.Proofs.YtfaklhkdfpfjgaaDoor
