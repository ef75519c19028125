/- line.Lawler: what it answers is lawlerM. -/
import Derived.Test.YtkfjmmoljhekiaaDoorLawlerM
import Derived.Test.YtkfjmmoljhekiaaDoorLineEnds
import Derived.Test.YtkfjmmoljhekiaaDoorRows2
namespace Go.Proofs.YtkfjmmoljhekiaaDoor
open Go.RowKit

theorem kept_apart {w : World} {base e g n c : Nat} {xs : List Value} {base2 e2 g2 n2 c2 : Nat} {ys : List Value} (h : w.ownsRow base e 1 (.slice (some ⟨g, 0, none⟩) n c) n xs) (h2 : w.ownsRow base2 e2 1 (.slice (some ⟨g2, 0, none⟩) n2 c2) n2 ys) (hne : g2 ≠ g) (j : Nat) (u : Value) :
    (w.setCell ⟨g, j, none⟩ u).ownsRow base2 e2 1 (.slice (some ⟨g2, 0, none⟩) n2 c2) n2 ys := h2.kept (h.stored j u).2 (Or.inr (by simp [Value.ownBlock]; exact hne))
theorem owns_down {w : World} {B B' e size n : Nat} {v : Value} {xs : List Value} (h : w.ownsRow B e size v n xs) (hB : B' ≤ B) : w.ownsRow B' e size v n xs := by
  refine ⟨h.1, ?_⟩
  rcases h.2 with h2 | ⟨g, cap, cur, h2, h3, r⟩
  · exact Or.inl h2
  · exact Or.inr ⟨g, cap, cur, h2, by omega, r⟩
theorem pick_yes {xs : List R3} {A : List (List Int)} {pl : List Bool} {n : Nat} {now : Int} {k : Nat} (h1 : canM A pl n k = true) (h2 : (pickM xs A pl n now k).1 < 0 ∨ costL xs now k ≤ (pickM xs A pl n now k).2) : pickM xs A pl n now (k + 1) = ((k : Int), costL xs now k) := if_pos ⟨h1, h2⟩
theorem pick_no {xs : List R3} {A : List (List Int)} {pl : List Bool} {n : Nat} {now : Int} {k : Nat} (h1 : canM A pl n k = false) : pickM xs A pl n now (k + 1) = pickM xs A pl n now k := if_neg (by simp [h1])
theorem pick_no' {xs : List R3} {A : List (List Int)} {pl : List Bool} {n : Nat} {now : Int} {k : Nat} (h1 : ¬ (pickM xs A pl n now k).1 < 0) (h2 : ¬ costL xs now k ≤ (pickM xs A pl n now k).2) : pickM xs A pl n now (k + 1) = pickM xs A pl n now k := if_neg (fun h => h.2.elim h1 h2)
theorem replB_get (n k : Nat) : (List.replicate n false).getD k false = false := by simp [List.getD, List.getElem?_replicate]; split <;> rfl
theorem left_all (xs : List R3) (n k : Nat) : leftM xs (List.replicate n false) (k + 1) = leftM xs (List.replicate n false) k + (xat xs k).1 := by
  show _ + _ = _
  rw [replB_get]
  simp

set_option maxRecDepth 100000 in
set_option maxHeartbeats 16000000 in
theorem lawler_any (a a2 : Option Addr) (n n2 cap cap2 : Nat) (xs : List R3) (A : List (List Int)) (w : World) (hl : n = xs.length) (hl2 : n2 = A.length) (hn : xs.length ≤ 100) (hT : A.length = xs.length → totL A A.length ≤ 200) (hx : Elems enc3 3 w a xs) (hr : Rows2 w a2 A) :
    Calls Tryd.prog 41 #[.slice a n cap, .slice a2 n2 cap2] w fun e w' => ∃ a' cap', e = .returned (.tuple #[.slice a' (lawlerM xs A).2.1.length cap', .int .i64 (lawlerM xs A).2.2, errV (lawlerM xs A).1]) ∧ Elems encI 1 w' a' (lawlerM xs A).2.1 ∧ Below w.heap.size w w' := by
  subst hl; subst hl2
  obtain ⟨er, ys, wo, hM⟩ : ∃ er ys wo, lawlerM xs A = (er, ys, wo) := ⟨_, _, _, rfl⟩
  rw [hM]
  show Calls Tryd.prog 41 #[.slice a xs.length cap, .slice a2 A.length cap2] w fun e w' => ∃ a' cap', e = .returned (.tuple #[.slice a' ys.length cap', .int .i64 wo, errV er]) ∧ Elems encI 1 w' a' ys ∧ Below w.heap.size w w'
  by_cases hC : tasksCheck xs = 0
  case neg =>
    have h : (er, ys, wo) = (tasksCheck xs, [], 0) := hM.symm.trans (if_pos hC)
    simp only [Prod.mk.injEq] at h
    obtain ⟨rfl, rfl, rfl⟩ := h
    have HV := Lib.hid (show errV (tasksCheck xs) = .iface 25 (.int .i64 (tasksCheck xs)) from if_neg hC)
    clear hC hM hr
    go_enter Tryd.func41, Tryd.ntmps41
    go_wp2_with (go_at_call 28; refine (lcheck_any _ _ _ xs _ rfl (by unfold maxLen; omega) hx).mono ?_; rintro e w1 ⟨rfl, hb1⟩; rw [HV.out])
    go_ret3
    exact ⟨none, 0, by rw [HV.out]; rfl, Or.inl rfl, hb1⟩
  have hlen := tasks_ok_len hC
  have HV := Lib.hid (show errV (tasksCheck xs) = .nilIface from if_pos hC)
  have hM1 : (er, ys, wo) = if A.length ≠ xs.length then (3, [], 0) else if ¬ ∀ r ∈ A, inRow xs.length r then (2, [], 0) else roundsM xs A xs.length (List.replicate xs.length false) (List.replicate xs.length 0) 0 := hM.symm.trans (if_neg (by simp [hC]))
  have HC := Lib.hid hC
  clear hM hC
  by_cases hAl : A.length = xs.length
  case neg =>
    rw [if_pos hAl] at hM1
    simp only [Prod.mk.injEq] at hM1
    obtain ⟨rfl, rfl, rfl⟩ := hM1
    have hd : ((A.length : Int) != (xs.length : Int)) = true := by simp; omega
    clear hAl hr
    go_enter Tryd.func41, Tryd.ntmps41
    go_wp2_with (go_at_call 28; refine (lcheck_any _ _ _ xs _ rfl (by unfold maxLen; omega) hx).mono ?_; rintro e w1 ⟨rfl, hb1⟩; rw [HV.out])
    go_ret3
    exact ⟨none, 0, rfl, Or.inl rfl, hb1⟩
  rw [if_neg (by simp [hAl])] at hM1
  have HM := Lib.hid hM1
  have HAL := Lib.hid hAl
  have HT := Lib.hid (hT hAl)
  have HX := Lib.hid hx
  have HRR := Lib.hid hr
  have hd : ((A.length : Int) != (xs.length : Int)) = false := by simp; omega
  clear hM1 hAl hT hr
  go_enter Tryd.func41, Tryd.ntmps41
  go_wp2_with (first | (go_at_call 28; refine (lcheck_any _ _ _ xs _ rfl (by unfold maxLen; omega) hx).mono ?_; rintro e w1 ⟨rfl, hb1⟩; rw [HV.out]) | (at_make; refine make_row _ rowN rfl _ _ rfl w.heap.size _ _ _ _ xs.length rfl rfl rfl rfl (by omega) (by unfold maxLen; omega) hb1.size ?_))
  clear hx
  intro w2 hown hb2
  rw [made_ints xs.length, tabI_zero, tabI_congr (g := cQ A (List.replicate xs.length false) 0 0) (fun y _ => by rw [cQ_zero]; rfl)] at hown
  have hb := hb1.trans hb2
  have hg1 := hb1.size
  have hg2 := (owns_base hown).2
  clear hb1 hb2
  generalize w1.heap.size = g1 at *
  clear w1
  go_wp2
  -- how many must be behind each, and how long all take
  go_loopw [9, 41] (fun nv i wr => ∃ k : Nat, k ≤ xs.length ∧ i = .int .i64 k ∧ nv = .int .i64 (leftM xs (List.replicate xs.length false) k) ∧ Hid (∀ r ∈ A.take k, inRow xs.length r) ∧
      wr.ownsRow w.heap.size 3 1 (.slice (some ⟨g1, 0, none⟩) xs.length xs.length) xs.length ((tabI xs.length (cQ A (List.replicate xs.length false) k 0)).map (Value.int .i64)) ∧ Below w.heap.size w wr) (fun _ i _ => xs.length - (intOf i).toNat)
  case atStart => exact ⟨0, by omega, rfl, rfl, Lib.hid (by simp), hown, hb⟩
  case round =>
    clear hown hb
    obtain ⟨k, hk, rfl, rfl, HI, hown, hb⟩ := hrel
    have hg3 := (owns_base hown).2
    by_cases hlt : k < xs.length
    · have hkA : k < A.length := by rw [HAL.out]; exact hlt
      obtain ⟨b, o, rfl, hc⟩ := HX.out.some hlt
      have h1 := (hb.cell (lt_of_cell (hc k hlt 0 _ rfl))).trans (hc k hlt 0 _ rfl)
      have h2 := (hb.cell (lt_of_cell (hc k hlt 1 _ rfl))).trans (hc k hlt 1 _ rfl)
      have h3 := (hb.cell (lt_of_cell (hc k hlt 2 _ rfl))).trans (hc k hlt 2 _ rfl)
      simp only [Nat.add_zero] at h1
      rw [xat_get hlt] at h1 h2 h3
      obtain ⟨b2, o2, rfl, hcA⟩ := HRR.out.some hkA
      obtain ⟨ar, cr, e1, e2, e3, e4⟩ := hcA k hkA
      have h4 := cell_a1 ((hb.cell (lt_of_cell e1)).trans e1) (.cells #[.int .i64 (xat xs k).1, .int .i64 (xat xs k).2.1, .int .i64 (xat xs k).2.2] 94)
      have hAk : A[k] = A.getD k [] := by simp [List.getD, hkA]
      obtain ⟨R, hR⟩ : ∃ R, R = A.getD k [] := ⟨_, rfl⟩
      rw [hAk, ← hR] at e4 h4
      have hrl2 : R.length ≤ 200 := by rw [hR]; exact Nat.le_trans (len_le_tot A hkA) HT.out
      have HRk := Lib.hid (show R = A.getD k [] ∧ A[k] = R from ⟨hR, by rw [hAk, hR]⟩)
      have hL1 := left_all xs xs.length k
      have hlb := left_bd HC.out (List.replicate xs.length false) k
      have hxb := (xat_ok HC.out k).1
      have hxb2 := (xat_ok HC.out k).2.1
      have hlb1 := hlb.1
      have hlb2 : leftM xs (List.replicate xs.length false) k ≤ 100000000000 := by omega
      have HL1 := Lib.hid hL1
      have HE4 := Lib.hid e4
      clear hc hcA e1 e2 e3 e4 hL1 hlb hAk hR
      generalize leftM xs (List.replicate xs.length false) k = nowv at *
      generalize (xat xs k).1 = X1 at *
      generalize (xat xs k).2.1 = X2 at *
      generalize (xat xs k).2.2 = X3 at *
      have hba := hb.alloc hb.size (.cells #[.int .i64 X1, .int .i64 X2, .int .i64 X3] 94)
      have howna := hown.alloc (.cells #[.int .i64 X1, .int .i64 X2, .int .i64 X3] 94)
      go_wp2_with fail
      clear h1 h2 h3 h4 hown hb hg3
      go_loopw [55] (fun i wi => ∃ q : Nat, q ≤ R.length ∧ i = .int .i64 q ∧ Hid (∀ x ∈ R.take q, 0 ≤ x ∧ x < xs.length) ∧
          wi.ownsRow w.heap.size 3 1 (.slice (some ⟨g1, 0, none⟩) xs.length xs.length) xs.length ((tabI xs.length (cQ A (List.replicate xs.length false) k q)).map (Value.int .i64)) ∧ Below w.heap.size w wi) (fun i _ => R.length - (intOf i).toNat)
      case atStart => exact ⟨0, by omega, rfl, Lib.hid (by simp), howna, hba⟩
      case round =>
        clear howna hba
        obtain ⟨q, hq, rfl, HQ, hown, hb⟩ := hrel
        have hg3 := (owns_base hown).2
        by_cases hql : q < R.length
        · obtain ⟨b3, o3, rfl, hc3⟩ := HE4.out.some hql
          have h5 := (hb.cell (lt_of_cell (hc3 q hql 0 _ rfl))).trans (hc3 q hql 0 _ rfl)
          simp only [Nat.add_zero, Nat.mul_one] at h5
          by_cases hbad : R[q] < 0 ∨ (xs.length : Int) ≤ R[q]
          · have HE : Hid ((er, ys, wo) = (2, [], 0)) := Lib.hid (HM.out.trans (if_pos (fun h => by
              have h6 := h R (by rw [← HRk.out.2]; exact List.getElem_mem hkA) _ (List.getElem_mem hql)
              omega)))
            clear hc3 HM
            generalize R[q] = x at *
            go_wp2_with fail
            all_goals try (exfalso; omega)
            all_goals
              have h := HE.out
              simp only [Prod.mk.injEq] at h
              obtain ⟨rfl, rfl, rfl⟩ := h
              go_ret3
              first
                | exact ⟨none, 0, rfl, Or.inl rfl, hb⟩
                | exact ⟨none, ⟨0, rfl⟩, Or.inl rfl, hb⟩
          · obtain ⟨y, hy⟩ := Int.eq_ofNat_of_zero_le (show 0 ≤ R[q] by omega)
            have hyn : y < xs.length := by omega
            have h6 := owns_get hown y hyn (by rw [tabI_len]; exact hyn)
            rw [tabI_get] at h6
            have hcb := cQ_bd A (List.replicate xs.length false) hkA q y
            have hcb1 := hcb.1
            have hcb2 : cQ A (List.replicate xs.length false) k q y ≤ 200 := by have := HT.out; omega
            have hset := owns_set hown y (cQ A (List.replicate xs.length false) k q y + 1)
            rw [tabI_set (g := cQ A (List.replicate xs.length false) k (q + 1)) (fun z _ => cQ_succ A _ HRk.out.1 hql hy z)] at hset
            have hfz := hown.frozenAt y
            have HQ2 : Hid (∀ x ∈ R.take (q + 1), 0 ≤ x ∧ x < xs.length) := Lib.hid (fun x hx => by
              rw [List.take_succ_eq_append_getElem hql] at hx
              rcases List.mem_append.1 hx with h | h
              · exact HQ.out x h
              · simp only [List.mem_singleton] at h; omega)
            rw [hy] at h5
            clear hc3 hbad hcb hown HQ hy
            have hq1 : ¬ ((y : Int) < 0) := by omega
            have hq2 : ¬ ((xs.length : Int) ≤ (y : Int)) := by omega
            generalize cQ A (List.replicate xs.length false) k q y = cv at *
            go_wp2_with fail
            exact ⟨⟨q + 1, by omega, by go_num, HQ2, hset, hb.setCell hg1 _⟩, by simp [intOf]; omega⟩
        · obtain rfl : q = R.length := by omega
          have HI2 : Hid (∀ r ∈ A.take (k + 1), inRow xs.length r) := Lib.hid (fun r hr => by
            rw [List.take_succ_eq_append_getElem hkA] at hr
            rcases List.mem_append.1 hr with h | h
            · exact HI.out r h
            · simp only [List.mem_singleton] at h
              subst h
              have h7 := HQ.out
              rw [List.take_length] at h7
              intro x hx
              exact h7 x (by rw [← HRk.out.2]; exact hx))
          rw [tabI_congr (g := cQ A (List.replicate xs.length false) (k + 1) 0) (fun y _ => by rw [cQ_done A _ k HRk.out.1 (replB_get _ _), cQ_zero])] at hown
          clear HQ HI
          go_wp2_with fail
          exact ⟨⟨k + 1, by omega, by go_num, by rw [HL1.out], HI2, hown, hb⟩, by simp [intOf]; omega⟩
    · obtain rfl : k = xs.length := by omega
      have HM2 : Hid ((er, ys, wo) = roundsM xs A xs.length (List.replicate xs.length false) (List.replicate xs.length 0) 0) := Lib.hid (HM.out.trans (if_neg (fun h => h (fun r hr => HI.out r (by rw [← HAL.out, List.take_length]; exact hr)))))
      rw [tabI_congr (g := fun y => ((cP A (List.replicate xs.length false) y xs.length : Nat) : Int)) (fun y _ => (cQ_zero _ _ _ _).symm)] at hown
      have HIN : Hid (∀ r ∈ A, inRow xs.length r) := Lib.hid (fun r hr => HI.out r (by rw [← HAL.out, List.take_length]; exact hr))
      clear HM HI
      go_wp2_with (at_make; refine make_row _ rowN rfl _ _ rfl wr.heap.size _ _ _ _ xs.length rfl rfl rfl rfl (by omega) (by unfold maxLen; omega) (Nat.le_refl _) ?_)
      intro w3 hrow hb3
      rw [made_ints xs.length] at hrow
      have hg4 := (owns_base hrow).2
      have hbS := hb.size
      have hown3 := owns_at hown hb3
      have hb03 := below_next hb hb3
      have hrow3 := owns_down hrow hbS
      clear hown hb hb3 hrow
      generalize wr.heap.size = g2 at *
      go_wp2_with (at_make; refine make_row _ rowB rfl _ _ rfl w3.heap.size _ _ _ _ xs.length rfl rfl rfl rfl (by omega) (by unfold maxLen; omega) (Nat.le_refl _) ?_)
      intro w4 hdone hb4
      rw [made_bools xs.length] at hdone
      have hown4 := owns_at hown3 hb4
      have hrow4 := owns_at hrow3 hb4
      have hb04 := below_next hb03 hb4
      have hdone4 := owns_down hdone hb03.size
      clear hown3 hrow3 hb4 hdone hb03
      generalize w3.heap.size = g3 at *
      clear w3
      go_wp2
      -- the rounds, from the end on
      go_loopw [9, 16, 17] (fun nv wv pv wr => ∃ (i : Int) (pl : List Bool) (row : List Int) (wq : Int), pv = .int .i64 i ∧ wv = .int .i64 wq ∧ nv = .int .i64 (leftM xs pl xs.length) ∧ -1 ≤ i ∧ i < xs.length ∧
          Hid (pl.length = xs.length ∧ row.length = xs.length ∧ (er, ys, wo) = roundsM xs A (i + 1).toNat pl row wq) ∧
          wr.ownsRow w.heap.size 3 1 (.slice (some ⟨g1, 0, none⟩) xs.length xs.length) xs.length ((tabI xs.length (fun y => ((cP A pl y xs.length : Nat) : Int))).map (Value.int .i64)) ∧
          wr.ownsRow w.heap.size 3 1 (.slice (some ⟨g2, 0, none⟩) xs.length xs.length) xs.length (row.map (Value.int .i64)) ∧
          wr.ownsRow w.heap.size 4 1 (.slice (some ⟨g3, 0, none⟩) xs.length xs.length) xs.length (pl.map Value.bool) ∧ Below w.heap.size w wr) (fun _ _ pv _ => (intOf pv + 1).toNat)
      case atStart =>
        refine ⟨(xs.length : Int) - 1, List.replicate xs.length false, List.replicate xs.length 0, 0, by go_num, rfl, rfl, by omega, by omega, Lib.hid ⟨by simp, by simp, ?_⟩, hown4, hrow4, hdone4, hb04⟩
        rw [show ((xs.length : Int) - 1 + 1).toNat = xs.length by omega]
        exact HM2.out
      case round =>
        clear hown4 hrow4 hdone4 hb04 HM2
        obtain ⟨i, pl, row, wq, rfl, rfl, rfl, hi1, hi2, HR, hown, hrow, hdone, hb⟩ := hrel
        by_cases hi : 0 ≤ i
        · obtain ⟨q, rfl⟩ := Int.eq_ofNat_of_zero_le hi
          have hqn : q < xs.length := by omega
          have hlb := left_bd HC.out pl xs.length
          have hlb1 := hlb.1
          have hlb2 : leftM xs pl xs.length ≤ 100000000000 := by omega
          obtain ⟨nowv, hnow⟩ : ∃ v, v = leftM xs pl xs.length := ⟨_, rfl⟩
          rw [← hnow] at hlb1 hlb2
          rw [← hnow]
          have HNOW := Lib.hid hnow
          clear hlb hnow
          obtain ⟨wo1, hwo1⟩ : ∃ wo1 : World, wo1 = wr := ⟨_, rfl⟩
          subst hwo1
          go_wp2
          go_loopw [18, 19, 91] (fun bv cv iv wi => ∃ k : Nat, k ≤ xs.length ∧ iv = .int .i64 k ∧ bv = .int .i64 (pickM xs A pl xs.length nowv k).1 ∧ cv = .int .i64 (pickM xs A pl xs.length nowv k).2 ∧ Below wo1.heap.size wo1 wi) (fun _ _ iv _ => xs.length - (intOf iv).toNat)
          case atStart => exact ⟨0, by omega, rfl, rfl, rfl, Below.refl _ _⟩
          case round =>
            obtain ⟨k, hk, rfl, rfl, rfl, hbi⟩ := hrel
            by_cases hlt : k < xs.length
            · have hB := below_next hb hbi
              obtain ⟨b, o, rfl, hc⟩ := HX.out.some hlt
              have h1 := (hB.cell (lt_of_cell (hc k hlt 0 _ rfl))).trans (hc k hlt 0 _ rfl)
              have h2 := (hB.cell (lt_of_cell (hc k hlt 1 _ rfl))).trans (hc k hlt 1 _ rfl)
              have h3 := (hB.cell (lt_of_cell (hc k hlt 2 _ rfl))).trans (hc k hlt 2 _ rfl)
              simp only [Nat.add_zero] at h1
              rw [xat_get hlt] at h1 h2 h3
              have hpl : k < pl.length := by rw [HR.out.1]; exact hlt
              have d1 := cell_a1 (ownsB_get (owns_at hdone hbi) k hlt hpl) (.cells #[.int .i64 (xat xs k).1, .int .i64 (xat xs k).2.1, .int .i64 (xat xs k).2.2] 94)
              have d2 := cell_a1 (owns_get (owns_at hown hbi) k hlt (by rw [tabI_len]; exact hlt)) (.cells #[.int .i64 (xat xs k).1, .int .i64 (xat xs k).2.1, .int .i64 (xat xs k).2.2] 94)
              rw [tabI_get] at d2
              have hcan : canM A pl xs.length k = (!pl[k] && cP A pl k xs.length == 0) := by simp [canM, List.getD, hpl]
              have hcost : (nowv ≤ (xat xs k).2.2 ∧ costL xs nowv k = 0) ∨ ((xat xs k).2.2 < nowv ∧ costL xs nowv k = wrap64 ((xat xs k).2.1 * (nowv - (xat xs k).2.2))) := by
                by_cases h : nowv ≤ (xat xs k).2.2
                · exact Or.inl ⟨h, cost_zero _ _ _ h⟩
                · exact Or.inr ⟨by omega, cost_pos _ _ _ (by omega)⟩
              have hpy := @pick_yes xs A pl xs.length nowv k
              have hpn := @pick_no xs A pl xs.length nowv k
              have hpn' := @pick_no' xs A pl xs.length nowv k
              have hxk := xat_ok HC.out k
              have hxk1 := hxk.2.2.2.2.1
              have hxk2 := hxk.2.2.2.2.2
              have hBa := hbi.alloc hbi.size (.cells #[.int .i64 (xat xs k).1, .int .i64 (xat xs k).2.1, .int .i64 (xat xs k).2.2] 94)
              rw [hcan] at hpy hpn
              have HPY := Lib.hid hpy
              have HPN := Lib.hid hpn
              have HPN' := Lib.hid hpn'
              clear hc hcan hpy hpn hpn' hxk hB
              generalize (xat xs k).1 = X1 at *
              generalize (xat xs k).2.1 = X2 at *
              generalize (xat xs k).2.2 = X3 at *
              generalize pl[k] = plk at *
              generalize costL xs nowv k = cst at *
              generalize cP A pl k xs.length = cpk at *
              generalize hpb : (pickM xs A pl xs.length nowv k).1 = pb at *
              generalize hpc : (pickM xs A pl xs.length nowv k).2 = pc at *
              have HPB := Lib.hid hpb
              have HPC := Lib.hid hpc
              clear hpb hpc
              cases plk with
              | true =>
                have HK := Lib.hid (HPN.out rfl)
                clear HPY HPN HPN'
                rcases hcost with ⟨hq1, rfl⟩ | ⟨hq1, rfl⟩
                all_goals
                  go_wp2_with fail
                  all_goals first
                    | (exfalso; omega)
                    | (go_roundw
                       case rel => exact ⟨k + 1, by omega, by go_num, by rw [HK.out, HPB.out], by rw [HK.out, HPC.out], hBa⟩
                       case measure => simp [intOf]; omega)
              | false =>
                by_cases hz : cpk = 0
                · subst hz
                  by_cases hq2 : pb < 0
                  · have HK := Lib.hid (HPY.out rfl (Or.inl hq2))
                    clear HPY HPN HPN'
                    rcases hcost with ⟨hq1, rfl⟩ | ⟨hq1, rfl⟩
                    all_goals
                      go_wp2_with fail
                      all_goals first
                        | (exfalso; omega)
                        | (go_roundw
                           case rel => exact ⟨k + 1, by omega, by go_num, by rw [HK.out], by rw [HK.out], hBa⟩
                           case measure => simp [intOf]; omega)
                  · by_cases hq3 : cst ≤ pc
                    · have HK := Lib.hid (HPY.out rfl (Or.inr hq3))
                      clear HPY HPN HPN'
                      rcases hcost with ⟨hq1, rfl⟩ | ⟨hq1, rfl⟩
                      all_goals
                        go_wp2_with fail
                        all_goals first
                          | (exfalso; omega)
                          | (go_roundw
                             case rel => exact ⟨k + 1, by omega, by go_num, by rw [HK.out], by rw [HK.out], hBa⟩
                             case measure => simp [intOf]; omega)
                    · have HK := Lib.hid (HPN'.out hq2 hq3)
                      clear HPY HPN HPN'
                      rcases hcost with ⟨hq1, rfl⟩ | ⟨hq1, rfl⟩
                      all_goals
                        go_wp2_with fail
                        all_goals first
                          | (exfalso; omega)
                          | (go_roundw
                             case rel => exact ⟨k + 1, by omega, by go_num, by rw [HK.out, HPB.out], by rw [HK.out, HPC.out], hBa⟩
                             case measure => simp [intOf]; omega)
                · have HK := Lib.hid (HPN.out (by simp [hz]))
                  have hz2 : ((cpk : Int) == 0) = false := by simpa using hz
                  clear HPY HPN HPN'
                  rcases hcost with ⟨hq1, rfl⟩ | ⟨hq1, rfl⟩
                  all_goals
                    go_wp2_with fail
                    all_goals first
                      | (exfalso; omega)
                      | (go_roundw
                         case rel => exact ⟨k + 1, by omega, by go_num, by rw [HK.out, HPB.out], by rw [HK.out, HPC.out], hBa⟩
                         case measure => simp [intOf]; omega)
            · obtain rfl : k = xs.length := by omega
              have hprg := pick_rng xs A pl xs.length nowv xs.length
              have hpcn := pick_can xs A pl xs.length nowv xs.length
              have hRS : (er, ys, wo) = if (pickM xs A pl xs.length nowv xs.length).1 < 0 then (12, [], 0) else roundsM xs A q (pl.set (pickM xs A pl xs.length nowv xs.length).1.toNat true) (row.set q (pickM xs A pl xs.length nowv xs.length).1) (max wq (pickM xs A pl xs.length nowv xs.length).2) := by
                have h := HR.out.2.2
                rw [show ((q : Int) + 1).toNat = q + 1 by omega] at h
                rw [HNOW.out]
                exact h
              generalize (pickM xs A pl xs.length nowv xs.length).1 = bi at *
              generalize (pickM xs A pl xs.length nowv xs.length).2 = bc at *
              by_cases hneg : bi < 0
              · rw [if_pos hneg] at hRS
                simp only [Prod.mk.injEq] at hRS
                obtain ⟨rfl, rfl, rfl⟩ := hRS
                clear hown hrow hdone hprg hpcn HNOW HR
                go_wp2
                go_ret3
                exact ⟨none, 0, rfl, Or.inl rfl, below_next hb hbi⟩
              · rw [if_neg hneg] at hRS
                obtain ⟨bn, rfl⟩ := Int.eq_ofNat_of_zero_le (show 0 ≤ bi by omega)
                have hbn : bn < xs.length := by omega
                have hcan := hpcn (by omega)
                simp only [Int.toNat_natCast] at hcan hRS
                have hpb : pl.getD bn false = false := by
                  simp only [canM, Bool.and_eq_true, Bool.not_eq_true'] at hcan
                  exact hcan.1
                have hbl : bn < pl.length := by rw [HR.out.1]; exact hbn
                have hqr : q < row.length := by rw [HR.out.2.1]; exact hqn
                have hown2 := owns_at hown hbi
                have hrow2 := owns_at hrow hbi
                have hdone2 := owns_at hdone hbi
                have hB := below_next hb hbi
                have hG1 := (owns_base hown2).1
                have hG2 := (owns_base hrow2).1
                have hG3 := (owns_base hdone2).1
                have f1 := owns_get hrow2 q hqn hqr
                have f2 := hrow2.frozenAt q
                have hrow5 := owns_set hrow2 q (bn : Int)
                have hdone5 := kept_apart hrow2 hdone2 (by omega) q (.int .i64 (bn : Int))
                have hown5 := kept_apart hrow2 hown2 (by omega) q (.int .i64 (bn : Int))
                have f3 := ownsB_get hdone5 bn hbn hbl
                have f4 := hdone5.frozenAt bn
                have hdone6 := ownsB_set hdone5 bn true
                have hrow6 := kept_apart hdone5 hrow5 (by omega) bn (.bool true)
                have hown6 := kept_apart hdone5 hown5 (by omega) bn (.bool true)
                have hB6 := (hB.setCell (p := ⟨g2, q, none⟩) hG2 (.int .i64 (bn : Int))).setCell (p := ⟨g3, bn, none⟩) hG3 (.bool true)
                rw [tabI_congr (g := cR A pl xs.length bn 0) (fun y _ => by rw [cR_zero])] at hown6
                obtain ⟨b, o, rfl, hc⟩ := HX.out.some hbn
                have c1 := (hB6.cell (lt_of_cell (hc bn hbn 0 _ rfl))).trans (hc bn hbn 0 _ rfl)
                simp only [Nat.add_zero] at c1
                have hbA : bn < A.length := by rw [HAL.out]; exact hbn
                obtain ⟨b2, o2, rfl, hcA⟩ := HRR.out.some hbA
                obtain ⟨ar, cr, e1, e2, e3, e4⟩ := hcA bn hbA
                have c2 := (hB6.cell (lt_of_cell e1)).trans e1
                have hAk : A[bn] = A.getD bn [] := by simp [List.getD, hbA]
                obtain ⟨R, hR⟩ : ∃ R, R = A.getD bn [] := ⟨_, rfl⟩
                rw [hAk, ← hR] at e4 c2
                rw [xat_get hbn] at c1
                have hrl2 : R.length ≤ 200 := by rw [hR]; exact Nat.le_trans (len_le_tot A hbA) HT.out
                have hls := left_set xs pl bn hbl hpb xs.length
                rw [if_pos hbn] at hls
                have hxb := xat_ok HC.out bn
                have hxb1 := hxb.1
                have hxb2 := hxb.2.1
                have HLS : Hid (leftM xs (pl.set bn true) xs.length = nowv - (xat xs bn).1) := Lib.hid (by rw [hls, HNOW.out])
                have HE4 := Lib.hid e4
                have HRk := Lib.hid (show R = A.getD bn [] ∧ A[bn] = R from ⟨hR, by rw [hAk, hR]⟩)
                have HPB := Lib.hid (show bn < pl.length ∧ bn < xs.length ∧ pl.getD bn false = false from ⟨hbl, hbn, hpb⟩)
                have HRS := Lib.hid hRS
                have hplb : ¬ ((bn : Int) < 0) := by omega
                clear hc hcA e1 e2 e3 e4 hAk hR hls hxb hRS hpb hcan hpcn hprg hneg hown hrow hdone hown2 hrow2 hdone2 hrow5 hdone5 hown5 hB
                generalize (xat xs bn).1 = X1 at *
                generalize pl[bn] = plb at *
                generalize row[q] = rq at *
                obtain ⟨wm, hwm⟩ : ∃ v, v = max wq bc := ⟨_, rfl⟩
                rw [← hwm] at HRS
                have hcase : (wq < bc ∧ wm = bc) ∨ (bc ≤ wq ∧ wm = wq) := by omega
                clear hwm
                rcases hcase with ⟨hq1, rfl⟩ | ⟨hq1, rfl⟩
                all_goals
                  go_wp2_with fail
                  all_goals try (exfalso; omega)
                  clear f1 f2 f3 f4 c1 c2 hb hbi
                  go_loopw [153] (fun iv wi => ∃ z : Nat, z ≤ R.length ∧ iv = .int .i64 z ∧
                      wi.ownsRow w.heap.size 3 1 (.slice (some ⟨g1, 0, none⟩) xs.length xs.length) xs.length ((tabI xs.length (cR A pl xs.length bn z)).map (Value.int .i64)) ∧
                      wi.ownsRow w.heap.size 3 1 (.slice (some ⟨g2, 0, none⟩) xs.length xs.length) xs.length ((row.set q (bn : Int)).map (Value.int .i64)) ∧
                      wi.ownsRow w.heap.size 4 1 (.slice (some ⟨g3, 0, none⟩) xs.length xs.length) xs.length ((pl.set bn true).map Value.bool) ∧ Below w.heap.size w wi) (fun iv _ => R.length - (intOf iv).toNat)
                  case atStart => exact ⟨0, by omega, rfl, hown6, hrow6, hdone6, hB6⟩
                  case round =>
                    clear hown6 hrow6 hdone6 hB6
                    obtain ⟨z, hz, rfl, hown, hrow, hdone, hb⟩ := hrel
                    by_cases hzl : z < R.length
                    · obtain ⟨b3, o3, rfl, hc3⟩ := HE4.out.some hzl
                      have h5 := (hb.cell (lt_of_cell (hc3 z hzl 0 _ rfl))).trans (hc3 z hzl 0 _ rfl)
                      simp only [Nat.add_zero, Nat.mul_one] at h5
                      have hin := HIN.out _ (List.getElem_mem hbA) _ (show R[z] ∈ A[bn] by rw [HRk.out.2]; exact List.getElem_mem hzl)
                      obtain ⟨y, hy⟩ := Int.eq_ofNat_of_zero_le hin.1
                      have hyn : y < xs.length := by omega
                      have h6 := owns_get hown y hyn (by rw [tabI_len]; exact hyn)
                      rw [tabI_get] at h6
                      have hcb := cR_bd A pl HPB.out.1 HPB.out.2.1 HPB.out.2.2 z y
                      have hcb1 := hcb.1
                      have hcb2 : cR A pl xs.length bn z y ≤ 200 := by have := HT.out; rw [HAL.out] at this; omega
                      have hset := owns_set hown y (cR A pl xs.length bn z y - 1)
                      rw [tabI_set (g := cR A pl xs.length bn (z + 1)) (fun t _ => cR_succ A pl HRk.out.1 hzl hy t)] at hset
                      have hfz := hown.frozenAt y
                      have hrow7 := kept_apart hown hrow (by omega) y (.int .i64 (cR A pl xs.length bn z y - 1))
                      have hdone7 := kept_apart hown hdone (by omega) y (.int .i64 (cR A pl xs.length bn z y - 1))
                      rw [hy] at h5
                      clear hc3 hin hcb hown hrow hdone hy
                      generalize cR A pl xs.length bn z y = cv at *
                      go_wp2_with fail
                      exact ⟨⟨z + 1, by omega, by go_num, hset, hrow7, hdone7, hb.setCell hg1 _⟩, by simp [intOf]; omega⟩
                    · obtain rfl : z = R.length := by omega
                      rw [tabI_congr (g := fun y => ((cP A (pl.set bn true) y xs.length : Nat) : Int)) (fun y _ => (cR_done A pl HRk.out.1 HPB.out.1 HPB.out.2.1 HPB.out.2.2 y).symm)] at hown
                      have HR2 : Hid ((pl.set bn true).length = xs.length ∧ (row.set q (bn : Int)).length = xs.length ∧ (er, ys, wo) = roundsM xs A ((q : Int) - 1 + 1).toNat (pl.set bn true) (row.set q (bn : Int)) _) := Lib.hid ⟨by rw [List.length_set]; exact HR.out.1, by rw [List.length_set]; exact HR.out.2.1, by rw [show ((q : Int) - 1 + 1).toNat = q by omega]; exact HRS.out⟩
                      go_wp2_with fail
                      exact ⟨⟨(q : Int) - 1, _, _, _, by go_num, rfl, by rw [HLS.out], by omega, by omega, HR2, hown, hrow, hdone, hb⟩, by first | (simp [intOf]; done) | (simp [intOf]; omega)⟩
        · obtain rfl : i = -1 := by omega
          have h : (er, ys, wo) = (0, row, wq) := by simpa [roundsM] using HR.out.2.2
          simp only [Prod.mk.injEq] at h
          obtain ⟨rfl, rfl, rfl⟩ := h
          obtain ⟨a', cap', he0, he, _⟩ := ints_of_owns HR.out.2.1.symm hrow
          have HL := Lib.hid HR.out.2.1
          obtain ⟨rfl, _, rfl⟩ := Value.slice.inj he0
          clear hown hrow hdone he0
          go_wp2
          go_ret3
          first
            | exact ⟨_, _, by rw [HL.out]; rfl, he, hb⟩
            | exact ⟨_, ⟨_, by rw [HL.out]; rfl⟩, he, hb⟩
end Go.Proofs.YtkfjmmoljhekiaaDoor
