/- The reference's Lawler: what it answers is lawlerM. -/
import Derived.Test.YtkfjmmoljhekiaaDoorLawler
import Derived.Test.YtkfjmmoljhekiaaDoorLineTasks
namespace Go.Proofs.YtkfjmmoljhekiaaDoor
open Go.RowKit

/-- May i be the last, as far as the first k rows say, and the first q numbers of the next one? -/
def mayM (A : List (List Int)) (pl : List Bool) (i k q : Nat) : Bool := !pl.getD i false && (cP A pl i k == 0 && (pl.getD k false || ((A.getD k []).take q).count (i : Int) == 0))
theorem mayM_start (A : List (List Int)) (pl : List Bool) (i : Nat) : mayM A pl i 0 0 = !pl.getD i false := by simp [mayM, cP]
theorem mayM_row (A : List (List Int)) (pl : List Bool) (i k : Nat) : mayM A pl i k 0 = (!pl.getD i false && cP A pl i k == 0) := by simp [mayM]
theorem mayM_next (A : List (List Int)) (pl : List Bool) (i k : Nat) : mayM A pl i k (A.getD k []).length = mayM A pl i (k + 1) 0 := by
  rw [mayM_row]
  unfold mayM
  rw [List.take_length]
  show _ = (_ && (cP A pl i k + (if pl.getD k false = true then 0 else (A.getD k []).count (i : Int))) == 0)
  generalize (A.getD k []).count (i : Int) = c
  generalize cP A pl i k = d
  cases pl.getD i false <;> cases pl.getD k false <;> simp
  rw [Bool.eq_iff_iff]; simp
theorem mayM_step (A : List (List Int)) (pl : List Bool) (i k q : Nat) (h : q < (A.getD k []).length) : mayM A pl i k (q + 1) = (mayM A pl i k q && ((A.getD k [])[q] != (i : Int) || pl.getD k false)) := by
  unfold mayM
  rw [cnt_take h]
  by_cases h1 : (A.getD k [])[q] = (i : Int)
  · rw [if_pos h1, h1]
    cases pl.getD i false <;> cases pl.getD k false <;> simp
  · rw [if_neg h1, show ((A.getD k [])[q] != (i : Int)) = true by simpa using h1]
    simp

set_option maxRecDepth 100000 in
set_option maxHeartbeats 16000000 in
theorem refLawler_any (a a2 : Option Addr) (n n2 cap cap2 : Nat) (xs : List R3) (A : List (List Int)) (w : World) (hl : n = xs.length) (hl2 : n2 = A.length) (hn : xs.length ≤ 100) (hT : A.length = xs.length → totL A A.length ≤ 200) (hx : Elems enc3 3 w a xs) (hr : Rows2 w a2 A) :
    Calls Tryd.prog 40 #[.slice a n cap, .slice a2 n2 cap2] w fun e w' => ∃ a' cap', e = .returned (.tuple #[.slice a' (lawlerM xs A).2.1.length cap', .int .i64 (lawlerM xs A).2.2, .int .i64 (lawlerM xs A).1]) ∧ Elems encI 1 w' a' (lawlerM xs A).2.1 ∧ Below w.heap.size w w' := by
  subst hl; subst hl2
  obtain ⟨er, ys, wo, hM⟩ : ∃ er ys wo, lawlerM xs A = (er, ys, wo) := ⟨_, _, _, rfl⟩
  rw [hM]
  show Calls Tryd.prog 40 #[.slice a xs.length cap, .slice a2 A.length cap2] w fun e w' => ∃ a' cap', e = .returned (.tuple #[.slice a' ys.length cap', .int .i64 wo, .int .i64 er]) ∧ Elems encI 1 w' a' ys ∧ Below w.heap.size w w'
  by_cases hC : tasksCheck xs = 0
  case neg =>
    have h : (er, ys, wo) = (tasksCheck xs, [], 0) := hM.symm.trans (if_pos hC)
    simp only [Prod.mk.injEq] at h
    obtain ⟨rfl, rfl, rfl⟩ := h
    have hd : (tasksCheck xs != 0) = true := by simpa using hC
    clear hC hM hr
    go_enter Tryd.func40, Tryd.ntmps40
    go_wp2_with fail
    refine (lrefCheck_any _ _ _ xs _ rfl (by unfold maxLen; omega) hx).mono ?_
    rintro e w1 ⟨rfl, hb1⟩
    go_wp2
    go_ret3
    exact ⟨none, 0, rfl, Or.inl rfl, hb1⟩
  have hlen := tasks_ok_len hC
  have hM1 : (er, ys, wo) = if A.length ≠ xs.length then (3, [], 0) else if ¬ ∀ r ∈ A, inRow xs.length r then (2, [], 0) else roundsM xs A xs.length (List.replicate xs.length false) (List.replicate xs.length 0) 0 := hM.symm.trans (if_neg (by simp [hC]))
  have HC := Lib.hid hC
  clear hM hC
  by_cases hAl : A.length = xs.length
  case neg =>
    rw [if_pos hAl] at hM1
    simp only [Prod.mk.injEq] at hM1
    obtain ⟨rfl, rfl, rfl⟩ := hM1
    have hd : ((A.length : Int) != (xs.length : Int)) = true := by simp; omega
    clear hAl hr
    go_enter Tryd.func40, Tryd.ntmps40
    go_wp2_with fail
    refine (lrefCheck_any _ _ _ xs _ rfl (by unfold maxLen; omega) hx).mono ?_
    rintro e w1 ⟨rfl, hb1⟩
    rw [HC.out]
    go_wp2
    go_ret3
    exact ⟨none, 0, rfl, Or.inl rfl, hb1⟩
  rw [if_neg (by simp [hAl])] at hM1
  have HM := Lib.hid hM1
  have hA60 : A.length ≤ 60 := by omega
  have HAL := Lib.hid hAl
  have HT := Lib.hid (hT hAl)
  have hd : ((A.length : Int) != (xs.length : Int)) = false := by simp; omega
  clear hM1 hAl hT
  go_enter Tryd.func40, Tryd.ntmps40
  go_wp2_with fail
  refine (lrefCheck_any _ _ _ xs _ rfl (by unfold maxLen; omega) hx).mono ?_
  rintro e w1 ⟨rfl, hb1⟩
  rw [HC.out]
  have HX := Lib.hid (hx.at hb1)
  have HRR := Lib.hid (hr.at hb1)
  clear hx hr
  go_wp2_with fail
  go_loop [39] (fun i => ∃ k : Nat, k ≤ A.length ∧ i = .int .i64 k ∧ Hid (∀ r ∈ A.take k, inRow xs.length r)) (fun i => A.length - (intOf i).toNat)
  case atStart => exact ⟨0, by omega, rfl, Lib.hid (by simp)⟩
  case round =>
    obtain ⟨k, hk, rfl, HI⟩ := hrel
    by_cases hkA : k < A.length
    · obtain ⟨b2, o2, rfl, hcA⟩ := HRR.out.some hkA
      obtain ⟨ar, cr, e1, e2, e3, e4⟩ := hcA k hkA
      have hAk : A[k] = A.getD k [] := by simp [List.getD, hkA]
      obtain ⟨R, hR⟩ : ∃ R, R = A.getD k [] := ⟨_, rfl⟩
      rw [hAk, ← hR] at e4 e1
      have hrl2 : R.length ≤ 200 := by rw [hR]; exact Nat.le_trans (len_le_tot A hkA) HT.out
      have HRk := Lib.hid (show R = A.getD k [] ∧ A[k] = R from ⟨hR, by rw [hAk, hR]⟩)
      have HE4 := Lib.hid e4
      clear hcA e2 e3 e4 hAk hR
      go_wp2_with fail
      clear e1
      go_loop [45] (fun i => ∃ q : Nat, q ≤ R.length ∧ i = .int .i64 q ∧ Hid (∀ x ∈ R.take q, 0 ≤ x ∧ x < xs.length)) (fun i => R.length - (intOf i).toNat)
      case atStart => exact ⟨0, by omega, rfl, Lib.hid (by simp)⟩
      case round =>
        obtain ⟨q, hq, rfl, HQ⟩ := hrel
        by_cases hql : q < R.length
        · obtain ⟨b3, o3, rfl, hc3⟩ := HE4.out.some hql
          have h5 := hc3 q hql 0 _ rfl
          simp only [Nat.add_zero, Nat.mul_one] at h5
          by_cases hbad : R[q] < 0 ∨ (xs.length : Int) ≤ R[q]
          · have HE : Hid ((er, ys, wo) = (2, [], 0)) := Lib.hid (HM.out.trans (if_pos (fun h => by
              have h6 := h R (by rw [← HRk.out.2]; exact List.getElem_mem hkA) _ (List.getElem_mem hql)
              omega)))
            clear hc3 HM
            generalize R[q] = x at *
            go_wp2_with fail
            all_goals first
              | (exfalso; omega)
              | (go_ret3
                 have h := HE.out
                 simp only [Prod.mk.injEq] at h
                 obtain ⟨rfl, rfl, rfl⟩ := h
                 first
                   | exact ⟨none, 0, rfl, Or.inl rfl, hb1⟩
                   | exact ⟨none, ⟨0, rfl⟩, Or.inl rfl, hb1⟩)
          · have HQ2 : Hid (∀ x ∈ R.take (q + 1), 0 ≤ x ∧ x < xs.length) := Lib.hid (fun x hx => by
              rw [List.take_succ_eq_append_getElem hql] at hx
              rcases List.mem_append.1 hx with h | h
              · exact HQ.out x h
              · simp only [List.mem_singleton] at h; omega)
            clear hc3 HQ
            have hq1 : ¬ (R[q] < 0) := by omega
            have hq2 : ¬ ((xs.length : Int) ≤ R[q]) := by omega
            clear hbad
            generalize R[q] = x at *
            go_wp2_with fail
            go_round
            case rel => exact ⟨q + 1, by omega, by go_num, HQ2⟩
            case measure => simp [intOf]; omega
        · obtain rfl : q = R.length := by omega
          have HI2 : Hid (∀ r ∈ A.take (k + 1), inRow xs.length r) := Lib.hid (fun r hr => by
            rw [List.take_succ_eq_append_getElem hkA] at hr
            rcases List.mem_append.1 hr with h | h
            · exact HI.out r h
            · simp only [List.mem_singleton] at h
              subst h
              have h7 := HQ.out
              rw [List.take_length] at h7
              intro x hx
              exact h7 x (by rw [← HRk.out.2]; exact hx))
          clear HQ HI
          go_wp2_with fail
          go_round
          case rel => exact ⟨k + 1, by omega, by go_num, HI2⟩
          case measure => simp [intOf]; omega
    · obtain rfl : k = A.length := by omega
      have HM2 : Hid ((er, ys, wo) = roundsM xs A xs.length (List.replicate xs.length false) (List.replicate xs.length 0) 0) := Lib.hid (HM.out.trans (if_neg (fun h => h (fun r hr => HI.out r (by rw [List.take_length]; exact hr)))))
      clear HM HI
      go_wp2_with (at_make; refine make_row _ rowB rfl _ _ rfl w1.heap.size _ _ _ _ xs.length rfl rfl rfl rfl (by omega) (by unfold maxLen; omega) (Nat.le_refl _) ?_)
      intro w3 hdone hb3
      rw [made_bools xs.length] at hdone
      have hg4 := (owns_base hdone).2
      have hbS := hb3.size
      generalize hg1e : w1.heap.size = g1 at *
      go_wp2_with (at_make; refine make_row _ rowN rfl _ _ rfl w3.heap.size _ _ _ _ xs.length rfl rfl rfl rfl (by omega) (by unfold maxLen; omega) (Nat.le_refl _) ?_)
      intro w4 hrow hb4
      rw [made_ints xs.length] at hrow
      have hdone4 := owns_at hdone hb4
      have hrow4 := owns_down hrow hbS
      have hb04 : Below g1 w1 w4 := hb3.trans (hb4.mono hbS)
      clear hdone hrow hb3 hb4 hbS
      generalize w3.heap.size = g2 at *
      clear w3
      go_wp2
      -- the rounds, from the end on
      go_loopw [14, 15] (fun wv pv wr => ∃ (i : Int) (pl : List Bool) (row : List Int) (wq : Int), pv = .int .i64 i ∧ wv = .int .i64 wq ∧ -1 ≤ i ∧ i < xs.length ∧
          Hid (pl.length = xs.length ∧ row.length = xs.length ∧ (er, ys, wo) = roundsM xs A (i + 1).toNat pl row wq) ∧
          wr.ownsRow g1 3 1 (.slice (some ⟨g2, 0, none⟩) xs.length xs.length) xs.length (row.map (Value.int .i64)) ∧
          wr.ownsRow g1 4 1 (.slice (some ⟨g1, 0, none⟩) xs.length xs.length) xs.length (pl.map Value.bool) ∧ Below g1 w1 wr) (fun _ pv _ => (intOf pv + 1).toNat)
      case atStart =>
        refine ⟨(xs.length : Int) - 1, List.replicate xs.length false, List.replicate xs.length 0, 0, by go_num, rfl, by omega, by omega, Lib.hid ⟨by simp, by simp, ?_⟩, hrow4, hdone4, hb04⟩
        rw [show ((xs.length : Int) - 1 + 1).toNat = xs.length by omega]
        exact HM2.out
      case round =>
        clear hrow4 hdone4 hb04 HM2
        obtain ⟨i, pl, row, wq, rfl, rfl, hi1, hi2, HR, hrow, hdone, hb⟩ := hrel
        by_cases hi : 0 ≤ i
        · obtain ⟨q, rfl⟩ := Int.eq_ofNat_of_zero_le hi
          have hqn : q < xs.length := by omega
          obtain ⟨wo1, hwo1⟩ : ∃ wo1 : World, wo1 = wr := ⟨_, rfl⟩
          subst hwo1
          go_wp2
          go_loop [16, 74] (fun ev iv => ∃ k : Nat, k ≤ xs.length ∧ iv = .int .i64 k ∧ ev = .int .i64 (leftM xs pl k)) (fun _ iv => xs.length - (intOf iv).toNat)
          case atStart => exact ⟨0, by omega, rfl, rfl⟩
          case round =>
            obtain ⟨k, hk, rfl, rfl⟩ := hrel
            by_cases hlt : k < xs.length
            · have hpl : k < pl.length := by rw [HR.out.1]; exact hlt
              obtain ⟨b, o, rfl, hc⟩ := HX.out.some hlt
              have h1 := (hb.cell (by rw [← hg1e]; exact lt_of_cell (hc k hlt 0 _ rfl))).trans (hc k hlt 0 _ rfl)
              simp only [Nat.add_zero] at h1
              rw [xat_get hlt] at h1
              have d1 := ownsB_get hdone k hlt hpl
              have hlb := left_bd HC.out pl k
              have hlb1 := hlb.1
              have hlb2 : leftM xs pl k ≤ 100000000000 := by omega
              have hxb := xat_ok HC.out k
              have hxb1 := hxb.1
              have hxb2 := hxb.2.1
              have hstep : leftM xs pl (k + 1) = leftM xs pl k + (if pl[k] = true then 0 else (xat xs k).1) := by
                show _ + _ = _
                simp [List.getD, hpl]
              have HST := Lib.hid hstep
              clear hc hlb hxb hstep
              generalize leftM xs pl k = lv at *
              generalize (xat xs k).1 = X1 at *
              generalize pl[k] = pk at *
              cases pk with
              | true =>
                have HK := Lib.hid (HST.out.trans (by rw [if_pos rfl, Int.add_zero]))
                clear HST
                go_wp2_with fail
                go_round
                case rel => exact ⟨k + 1, by omega, by go_num, by rw [HK.out]⟩
                case measure => simp [intOf]; omega
              | false =>
                have HK := Lib.hid (HST.out.trans (by rw [if_neg (by decide)]))
                clear HST
                go_wp2_with fail
                go_round
                case rel => exact ⟨k + 1, by omega, by go_num, by rw [HK.out]⟩
                case measure => simp [intOf]; omega
            · obtain rfl : k = xs.length := by omega
              have hlb := left_bd HC.out pl xs.length
              have hlb1 := hlb.1
              have hlb2 : leftM xs pl xs.length ≤ 100000000000 := by omega
              obtain ⟨nowv, hnow⟩ : ∃ v, v = leftM xs pl xs.length := ⟨_, rfl⟩
              rw [← hnow] at hlb1 hlb2
              rw [← hnow]
              have HNOW := Lib.hid hnow
              clear hlb hnow
              go_wp2
              go_loopw [18, 19, 92] (fun bv cv iv wi => ∃ k : Nat, k ≤ xs.length ∧ iv = .int .i64 k ∧ bv = .int .i64 (pickM xs A pl xs.length nowv k).1 ∧ cv = .int .i64 (pickM xs A pl xs.length nowv k).2 ∧ ∃ m, wi = wo1.drewN m) (fun _ _ iv _ => xs.length - (intOf iv).toNat)
              case atStart => exact ⟨0, by omega, rfl, rfl, rfl, 0, rfl⟩
              case round =>
                obtain ⟨k, hk, rfl, rfl, rfl, m, rfl⟩ := hrel
                by_cases hlt : k < xs.length
                · have hpl : k < pl.length := by rw [HR.out.1]; exact hlt
                  have d1 := ownsB_get hdone k hlt hpl
                  have hm0 : mayM A pl k 0 0 = !pl[k] := by rw [mayM_start]; simp [List.getD, hpl]
                  have HM0 := Lib.hid hm0
                  generalize pl[k] = pk at *
                  clear hm0
                  go_wp2_with fail
                  clear d1
                  rw [← HM0.out]
                  go_loop [21, 102] (fun mv iv => ∃ r : Nat, r ≤ A.length ∧ iv = .int .i64 r ∧ mv = .bool (mayM A pl k r 0)) (fun _ iv => A.length - (intOf iv).toNat)
                  case atStart => exact ⟨0, by omega, rfl, rfl⟩
                  case round =>
                    obtain ⟨r, hr, rfl, rfl⟩ := hrel
                    by_cases hrA : r < A.length
                    · obtain ⟨b2, o2, rfl, hcA⟩ := HRR.out.some hrA
                      obtain ⟨ar, cr, e1, e2, e3, e4⟩ := hcA r hrA
                      have h4 := (hb.cell (by rw [← hg1e]; exact lt_of_cell e1)).trans e1
                      have hAk : A[r] = A.getD r [] := by simp [List.getD, hrA]
                      obtain ⟨R, hR⟩ : ∃ R, R = A.getD r [] := ⟨_, rfl⟩
                      rw [hAk, ← hR] at e4 h4
                      have hrl2 : R.length ≤ 200 := by rw [hR]; exact Nat.le_trans (len_le_tot A hrA) HT.out
                      have HRk := Lib.hid hR
                      have HE4 := Lib.hid e4
                      have hrn : r < xs.length := by rw [← HAL.out]; exact hrA
                      have hpr : r < pl.length := by rw [HR.out.1]; exact hrn
                      have d2 := ownsB_get hdone r hrn hpr
                      have HPR := Lib.hid (show pl.getD r false = pl[r] by simp [List.getD, hpr])
                      generalize pl[r] = pr at *
                      clear hcA e1 e2 e3 e4 hAk hR
                      go_wp2_with fail
                      clear h4
                      go_loop [21, 109] (fun mv iv => ∃ z : Nat, z ≤ R.length ∧ iv = .int .i64 z ∧ mv = .bool (mayM A pl k r z)) (fun _ iv => R.length - (intOf iv).toNat)
                      case atStart => exact ⟨0, by omega, rfl, rfl⟩
                      case round =>
                        obtain ⟨z, hz, rfl, rfl⟩ := hrel
                        by_cases hzl : z < R.length
                        · obtain ⟨b3, o3, rfl, hc3⟩ := HE4.out.some hzl
                          have h5 := (hb.cell (by rw [← hg1e]; exact lt_of_cell (hc3 z hzl 0 _ rfl))).trans (hc3 z hzl 0 _ rfl)
                          simp only [Nat.add_zero, Nat.mul_one] at h5
                          have hst := mayM_step A pl k r z (by rw [← HRk.out]; exact hzl)
                          simp only [← HRk.out] at hst
                          rw [HPR.out] at hst
                          have HST := Lib.hid hst
                          clear hc3 hst
                          generalize R[z] = x at *
                          generalize mayM A pl k r z = mz at *
                          cases mz with
                          | false =>
                            have HK := Lib.hid (HST.out.trans (Bool.false_and _))
                            clear HST
                            go_wp2_with fail
                            go_round
                            case rel => exact ⟨z + 1, by omega, by go_num, by rw [HK.out]⟩
                            case measure => simp [intOf]; omega
                          | true =>
                            by_cases hxk : x = (k : Int)
                            · subst hxk
                              have hne : ((k : Int) != (k : Int)) = false := by simp
                              have HK := Lib.hid (show mayM A pl k r (z + 1) = pr by rw [HST.out, hne]; simp)
                              clear HST
                              go_wp2_with fail
                              go_round
                              case rel => exact ⟨z + 1, by omega, by go_num, by rw [HK.out]⟩
                              case measure => simp [intOf]; omega
                            · have hne : (x != (k : Int)) = true := by simpa using hxk
                              have HK := Lib.hid (show mayM A pl k r (z + 1) = true by rw [HST.out, hne]; simp)
                              clear HST hxk
                              go_wp2_with fail
                              go_round
                              case rel => exact ⟨z + 1, by omega, by go_num, by rw [HK.out]⟩
                              case measure => simp [intOf]; omega
                        · obtain rfl : z = R.length := by omega
                          have HK := Lib.hid (show mayM A pl k r R.length = mayM A pl k (r + 1) 0 by rw [HRk.out, mayM_next])
                          clear d2
                          go_wp2_with fail
                          go_round
                          case rel => exact ⟨r + 1, by omega, by go_num, by rw [HK.out]⟩
                          case measure => simp [intOf]; omega
                    · obtain rfl : r = A.length := by omega
                      have hcan : mayM A pl k A.length 0 = canM A pl xs.length k := by rw [mayM_row, HAL.out]; rfl
                      rw [hcan]
                      obtain ⟨b, o, rfl, hc⟩ := HX.out.some hlt
                      have h2 := (hb.cell (by rw [← hg1e]; exact lt_of_cell (hc k hlt 1 _ rfl))).trans (hc k hlt 1 _ rfl)
                      have h3 := (hb.cell (by rw [← hg1e]; exact lt_of_cell (hc k hlt 2 _ rfl))).trans (hc k hlt 2 _ rfl)
                      rw [xat_get hlt] at h2 h3
                      have hcost : (nowv ≤ (xat xs k).2.2 ∧ costL xs nowv k = 0) ∨ ((xat xs k).2.2 < nowv ∧ costL xs nowv k = wrap64 ((xat xs k).2.1 * (nowv - (xat xs k).2.2))) := by
                        by_cases h : nowv ≤ (xat xs k).2.2
                        · exact Or.inl ⟨h, cost_zero _ _ _ h⟩
                        · exact Or.inr ⟨by omega, cost_pos _ _ _ (by omega)⟩
                      have hxk := xat_ok HC.out k
                      have hxk1 := hxk.2.2.2.2.1
                      have hxk2 := hxk.2.2.2.2.2
                      have HPY := Lib.hid (@pick_yes xs A pl xs.length nowv k)
                      have HPN := Lib.hid (@pick_no xs A pl xs.length nowv k)
                      have HPN' := Lib.hid (@pick_no' xs A pl xs.length nowv k)
                      clear hc hcan hxk hr hrA
                      generalize (xat xs k).2.1 = X2 at *
                      generalize (xat xs k).2.2 = X3 at *
                      generalize costL xs nowv k = cst at *
                      generalize canM A pl xs.length k = cb at *
                      generalize hpb : (pickM xs A pl xs.length nowv k).1 = pb at *
                      generalize hpc : (pickM xs A pl xs.length nowv k).2 = pc at *
                      have HPB := Lib.hid hpb
                      have HPC := Lib.hid hpc
                      clear hpb hpc
                      cases cb with
                      | false =>
                        have HK := Lib.hid (HPN.out rfl)
                        clear HPY HPN HPN'
                        have hwd : IntKind.i64.wrap (nowv - X3) = nowv - X3 := IntWalk.i64_in _ (by omega)
                        rcases hcost with ⟨hq1, rfl⟩ | ⟨hq1, rfl⟩
                        case' inl =>
                          have hs : ¬ ((0 : Int) < nowv - X3) := by omega
                          have hwp : IntKind.i64.wrap (0 : Int) = 0 := by decide
                        case' inr =>
                          have hs : (0 : Int) < nowv - X3 := by omega
                          have hwp := IntWalk.i64_left (X2 * (nowv - X3))
                        all_goals
                          go_wp2_with fail
                          go_quiet (fail)
                          clear hwp hwd
                          go_wp2_with fail
                          all_goals first
                            | (exfalso; omega)
                            | (go_roundw
                               case rel => exact ⟨k + 1, by omega, by go_num, by rw [HK.out, HPB.out], by rw [HK.out, HPC.out], _, rfl⟩
                               case measure => simp [intOf]; omega)
                      | true =>
                        by_cases hq2 : pb < 0
                        · have HK := Lib.hid (HPY.out rfl (Or.inl hq2))
                          clear HPY HPN HPN'
                          have hwd : IntKind.i64.wrap (nowv - X3) = nowv - X3 := IntWalk.i64_in _ (by omega)
                          rcases hcost with ⟨hq1, rfl⟩ | ⟨hq1, rfl⟩
                          case' inl =>
                            have hs : ¬ ((0 : Int) < nowv - X3) := by omega
                            have hwp : IntKind.i64.wrap (0 : Int) = 0 := by decide
                          case' inr =>
                            have hs : (0 : Int) < nowv - X3 := by omega
                            have hwp := IntWalk.i64_left (X2 * (nowv - X3))
                          all_goals
                            go_wp2_with fail
                            go_quiet (fail)
                            clear hwp hwd
                            go_wp2_with fail
                            all_goals first
                              | (exfalso; omega)
                              | (go_roundw
                                 case rel => exact ⟨k + 1, by omega, by go_num, by rw [HK.out], by rw [HK.out], _, rfl⟩
                                 case measure => simp [intOf]; omega)
                        · by_cases hq3 : cst ≤ pc
                          · have HK := Lib.hid (HPY.out rfl (Or.inr hq3))
                            clear HPY HPN HPN'
                            have hwd : IntKind.i64.wrap (nowv - X3) = nowv - X3 := IntWalk.i64_in _ (by omega)
                            rcases hcost with ⟨hq1, rfl⟩ | ⟨hq1, rfl⟩
                            case' inl =>
                              have hs : ¬ ((0 : Int) < nowv - X3) := by omega
                              have hwp : IntKind.i64.wrap (0 : Int) = 0 := by decide
                            case' inr =>
                              have hs : (0 : Int) < nowv - X3 := by omega
                              have hwp := IntWalk.i64_left (X2 * (nowv - X3))
                            all_goals
                              go_wp2_with fail
                              go_quiet (fail)
                              clear hwp hwd
                              go_wp2_with fail
                              all_goals first
                                | (exfalso; omega)
                                | (go_roundw
                                   case rel => exact ⟨k + 1, by omega, by go_num, by rw [HK.out], by rw [HK.out], _, rfl⟩
                                   case measure => simp [intOf]; omega)
                          · have HK := Lib.hid (HPN'.out hq2 hq3)
                            clear HPY HPN HPN'
                            have hwd : IntKind.i64.wrap (nowv - X3) = nowv - X3 := IntWalk.i64_in _ (by omega)
                            rcases hcost with ⟨hq1, rfl⟩ | ⟨hq1, rfl⟩
                            case' inl =>
                              have hs : ¬ ((0 : Int) < nowv - X3) := by omega
                              have hwp : IntKind.i64.wrap (0 : Int) = 0 := by decide
                            case' inr =>
                              have hs : (0 : Int) < nowv - X3 := by omega
                              have hwp := IntWalk.i64_left (X2 * (nowv - X3))
                            all_goals
                              go_wp2_with fail
                              go_quiet (fail)
                              clear hwp hwd
                              go_wp2_with fail
                              all_goals first
                                | (exfalso; omega)
                                | (go_roundw
                                   case rel => exact ⟨k + 1, by omega, by go_num, by rw [HK.out, HPB.out], by rw [HK.out, HPC.out], _, rfl⟩
                                   case measure => simp [intOf]; omega)
                · obtain rfl : k = xs.length := by omega
                  have hprg := pick_rng xs A pl xs.length nowv xs.length
                  have hRS : (er, ys, wo) = if (pickM xs A pl xs.length nowv xs.length).1 < 0 then (12, [], 0) else roundsM xs A q (pl.set (pickM xs A pl xs.length nowv xs.length).1.toNat true) (row.set q (pickM xs A pl xs.length nowv xs.length).1) (max wq (pickM xs A pl xs.length nowv xs.length).2) := by
                    have h := HR.out.2.2
                    rw [show ((q : Int) + 1).toNat = q + 1 by omega] at h
                    rw [HNOW.out]
                    exact h
                  generalize (pickM xs A pl xs.length nowv xs.length).1 = bi at *
                  generalize (pickM xs A pl xs.length nowv xs.length).2 = bc at *
                  by_cases hneg : bi < 0
                  · rw [if_pos hneg] at hRS
                    simp only [Prod.mk.injEq] at hRS
                    obtain ⟨rfl, rfl, rfl⟩ := hRS
                    have hB1 := below_drewN' (hb1.trans (hb.mono (by rw [← hg1e]; exact hb1.size))) m
                    clear hrow hdone hprg HNOW HR
                    go_wp2
                    go_ret3
                    first
                      | exact ⟨none, 0, rfl, Or.inl rfl, hB1⟩
                      | exact ⟨none, ⟨0, rfl⟩, Or.inl rfl, hB1⟩
                  · rw [if_neg hneg] at hRS
                    obtain ⟨bn, rfl⟩ := Int.eq_ofNat_of_zero_le (show 0 ≤ bi by omega)
                    have hbn : bn < xs.length := by omega
                    simp only [Int.toNat_natCast] at hRS
                    have hbl : bn < pl.length := by rw [HR.out.1]; exact hbn
                    have hqr : q < row.length := by rw [HR.out.2.1]; exact hqn
                    have hrow2 : (wo1.drewN m).ownsRow g1 3 1 (.slice (some ⟨g2, 0, none⟩) xs.length xs.length) xs.length (row.map (Value.int .i64)) := hrow
                    have hdone2 : (wo1.drewN m).ownsRow g1 4 1 (.slice (some ⟨g1, 0, none⟩) xs.length xs.length) xs.length (pl.map Value.bool) := hdone
                    have hB : Below g1 w1 (wo1.drewN m) := below_drewN' hb m
                    have hG2 := (owns_base hrow2).1
                    have hG3 := (owns_base hdone2).1
                    have f1 := owns_get hrow2 q hqn hqr
                    have f2 := hrow2.frozenAt q
                    have hrow5 := owns_set hrow2 q (bn : Int)
                    have hdone5 := kept_apart hrow2 hdone2 (by omega) q (.int .i64 (bn : Int))
                    have f3 := ownsB_get hdone5 bn hbn hbl
                    have f4 := hdone5.frozenAt bn
                    have hdone6 := ownsB_set hdone5 bn true
                    have hrow6 := kept_apart hdone5 hrow5 (by omega) bn (.bool true)
                    have hB6 := (hB.setCell (p := ⟨g2, q, none⟩) hG2 (.int .i64 (bn : Int))).setCell (p := ⟨g1, bn, none⟩) hG3 (.bool true)
                    have HRS := Lib.hid hRS
                    have hplb : ¬ ((bn : Int) < 0) := by omega
                    clear hRS hprg hneg hrow hdone hrow2 hdone2 hrow5 hdone5 hB
                    generalize pl[bn] = plb at *
                    generalize row[q] = rq at *
                    obtain ⟨wm, hwm⟩ : ∃ v, v = max wq bc := ⟨_, rfl⟩
                    rw [← hwm] at HRS
                    have hcase : (wq < bc ∧ wm = bc) ∨ (bc ≤ wq ∧ wm = wq) := by omega
                    clear hwm
                    have HR2 : Hid ((pl.set bn true).length = xs.length ∧ (row.set q (bn : Int)).length = xs.length ∧ (er, ys, wo) = roundsM xs A ((q : Int) - 1 + 1).toNat (pl.set bn true) (row.set q (bn : Int)) wm) := Lib.hid ⟨by rw [List.length_set]; exact HR.out.1, by rw [List.length_set]; exact HR.out.2.1, by rw [show ((q : Int) - 1 + 1).toNat = q by omega]; exact HRS.out⟩
                    clear HR HRS hb
                    rcases hcase with ⟨hq1, rfl⟩ | ⟨hq1, rfl⟩
                    all_goals
                      go_wp2_with fail
                      all_goals try (exfalso; omega)
                      exact ⟨⟨(q : Int) - 1, _, _, _, by go_num, rfl, by omega, by omega, HR2, hrow6, hdone6, hB6⟩, by first | (simp [intOf]; done) | (simp [intOf]; omega)⟩
        · obtain rfl : i = -1 := by omega
          have h : (er, ys, wo) = (0, row, wq) := by simpa [roundsM] using HR.out.2.2
          simp only [Prod.mk.injEq] at h
          obtain ⟨rfl, rfl, rfl⟩ := h
          obtain ⟨a', cap', he0, he, _⟩ := ints_of_owns HR.out.2.1.symm hrow
          have HL := Lib.hid HR.out.2.1
          obtain ⟨rfl, hq0, rfl⟩ := Value.slice.inj he0
          have hB1 := hb1.trans (hb.mono (by rw [← hg1e]; exact hb1.size))
          clear hrow hdone he0 hq0
          go_wp2
          go_ret3
          first
            | exact ⟨_, _, by rw [HL.out]; rfl, he, hB1⟩
            | exact ⟨_, ⟨_, by rw [HL.out]; rfl⟩, he, hB1⟩
end Go.Proofs.YtkfjmmoljhekiaaDoor
