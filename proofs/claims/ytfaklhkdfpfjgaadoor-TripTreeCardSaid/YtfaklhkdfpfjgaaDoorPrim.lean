/- trip.Tree (19.2): its sum is that of the roads by length. -/
import Derived.Test.YtfaklhkdfpfjgaaDoorPrimM
import Derived.Test.YtfaklhkdfpfjgaaDoorBet
namespace Go.Proofs.YtfaklhkdfpfjgaaDoor
open Go.RowKit

def tabS (n : Nat) (S : Nat → Bool) : List Bool := (List.range n).map S
theorem tabS_len (n : Nat) (S : Nat → Bool) : (tabS n S).length = n := by simp [tabS]
theorem tabS_get {n : Nat} {S : Nat → Bool} {j : Nat} (h : j < (tabS n S).length) : (tabS n S)[j] = S j := by simp [tabS]
theorem tabS_put (n : Nat) (S : Nat → Bool) (b : Nat) : (tabS n S).set b true = tabS n (putS S b) := by
  refine List.ext_getElem (by simp [tabS]) fun t h1 h2 => ?_
  rw [List.getElem_set]
  simp only [tabS, List.getElem_map, List.getElem_range, putS]
  by_cases h : b = t
  · rw [if_pos h, decide_eq_true h.symm, Bool.or_true]
  · rw [if_neg h, decide_eq_false (fun h2 => h h2.symm), Bool.or_false]
theorem made_tabS (n : Nat) : (madeCells #[Value.bool false] n).toList = (tabS n (fun _ => false)).map Value.bool := by
  rw [made_bools]
  congr 1
  exact List.ext_getElem (by simp [tabS]) fun t h1 h2 => by simp [tabS]
def PrimPost (A : List (List Int)) (w : World) (e : Ending) (w' : World) : Prop :=
  ∃ S sum, e = .returned (.tuple #[.int .i64 sum, .nilIface]) ∧ PrimInv A S A.length sum ∧ Below w.heap.size w w'

set_option maxRecDepth 100000 in
set_option maxHeartbeats 16000000 in
theorem prim_ok (a : Option Addr) (n cap : Nat) (A : List (List Int)) (w : World) (hl : n = A.length) (hM : mapCheck A = 0) (hr : Rows2 w a A) :
    Calls Tryd.prog 51 #[.slice a n cap] w (PrimPost A w) := by
  subst hl
  obtain ⟨hA9, hA⟩ := map_ok hM
  have HC1 := tripChk_any a _ cap A w rfl (by unfold maxLen; omega) hr
  rw [hM, show errV 0 = .nilIface from rfl] at HC1
  have HC1 := Lib.hid HC1
  have HRR := Lib.hid hr
  have HA := Lib.hid hA
  clear hr hA hM
  go_enter Tryd.func51, Tryd.ntmps51
  go_wp2_with fail
  refine HC1.out.mono ?_
  rintro e w1 ⟨rfl, hb1⟩
  clear HC1
  go_wp2_with (at_make; refine make_row _ rowB rfl _ _ rfl w1.heap.size _ _ _ _ A.length rfl rfl rfl rfl (by omega) (by unfold maxLen; omega) (Nat.le_refl _) ?_)
  intro w2 hown hb2
  rw [made_tabS] at hown
  have hb02 := below_next hb1 hb2
  have HG : Hid (w.heap.size ≤ w1.heap.size) := Lib.hid hb1.size
  clear hb1 hb2
  generalize w1.heap.size = g at *
  go_wp2
  go_loopw [6, 23] (fun sv kv wr => ∃ (k : Nat) (S : Nat → Bool) (sum : Int), k ≤ A.length ∧ kv = .int .i64 k ∧ sv = .int .i64 sum ∧ wr.ownsRow g 4 1 (.slice (some ⟨g, 0, none⟩) A.length A.length) A.length ((tabS A.length S).map Value.bool) ∧ Hid (PrimInv A S k sum) ∧ Below w.heap.size w wr) (fun _ kv _ => A.length - (intOf kv).toNat)
  case atStart => exact ⟨0, _, 0, by omega, rfl, rfl, hown, Lib.hid (prim_start A), hb02⟩
  case round =>
    clear hown hb02
    obtain ⟨k, S, sum, hk, rfl, rfl, hown, HI, hb⟩ := hrel
    by_cases hkn : k < A.length
    · by_cases hk0 : k = 0
      · subst hk0
        obtain ⟨h0, hS⟩ := HI.out.2.2.2.2 rfl
        subst hS
        subst h0
        have hset := ownsB_set hown 0 true
        rw [tabS_put] at hset
        have c1 := ownsB_get hown 0 hkn (by rw [tabS_len]; exact hkn)
        rw [tabS_get] at c1
        have hf := hown.frozenAt 0
        have HI2 := Lib.hid (prim_one hkn)
        have hbs := hb.setCell (p := ⟨g, 0, none⟩) HG.out (.bool true)
        have HS := Lib.hid hset
        have hle0 : (0 : Int) < (A.length : Int) := by omega
        clear hown hset HI hb
        go_wp2
        exact ⟨⟨1, _, 0, by omega, rfl, rfl, HS.out, HI2, hbs⟩, by simp [intOf]; omega⟩
      · have hk1 : 1 ≤ k := by omega
        have hkd : ((k : Int) == 0) = false := beq_eq_false_iff_ne.2 (by omega)
        obtain ⟨b2, o2, rfl, R, hR⟩ := rows_at HA.out (HRR.out.at hb) (by omega)
        have HR := Lib.hid hR
        have hsb0 := HI.out.2.2.1
        have hsb1 : sum ≤ 9000000000 := by have := HI.out.2.2.2.1; omega
        clear hR
        obtain ⟨wo, hwo⟩ : ∃ wo : World, wo = wr := ⟨_, rfl⟩
        subst hwo
        go_wp2
        go_loopw [8, 9, 32] (fun bv av iv wr => ∃ (i m : Nat) (best at' : Int), i ≤ A.length ∧ iv = .int .i64 i ∧ bv = .int .i64 best ∧ av = .int .i64 at' ∧ -1 ≤ best ∧ best ≤ 1000000000 ∧ Hid (BestAt A S (fun i' _ => i' < i) best at') ∧ wr = wo.drewN m) (fun _ _ iv _ => A.length - (intOf iv).toNat)
        case atStart => exact ⟨0, 0, -1, 0, by omega, rfl, rfl, rfl, by omega, by omega, Lib.hid (Or.inl ⟨rfl, fun i j _ _ h => by omega⟩), rfl⟩
        case round =>
          obtain ⟨i, m, best, at', hi, rfl, rfl, rfl, hb0, hb1, HB, rfl⟩ := hrel
          by_cases hin : i < A.length
          · go_wp2
            go_loopw [8, 9, 37] (fun bv av jv wr => ∃ (j m : Nat) (best at' : Int), j ≤ A.length ∧ jv = .int .i64 j ∧ bv = .int .i64 best ∧ av = .int .i64 at' ∧ -1 ≤ best ∧ best ≤ 1000000000 ∧ Hid (BestAt A S (fun i' j' => i' < i ∨ i' = i ∧ j' < j) best at') ∧ wr = wo.drewN m) (fun _ _ jv _ => A.length - (intOf jv).toNat)
            case atStart => exact ⟨0, m, best, at', by omega, rfl, rfl, rfl, hb0, hb1, Lib.hid (best_keep HB.out (fun i' j' _ _ h _ _ => Or.inl (by omega))), rfl⟩
            case round =>
              clear HB hb0 hb1
              obtain ⟨j, m, best, at', hj, rfl, rfl, rfl, hb0, hb1, HB, rfl⟩ := hrel
              by_cases hjn : j < A.length
              · obtain ⟨ri, di⟩ := HR.out i hin
                obtain ⟨rj, dj⟩ := HR.out j hjn
                have dij := di j hjn
                have dji := dj i hin
                obtain ⟨hd0, hd1⟩ := dM_bd HA.out hin hjn
                have c1 := ownsB_get hown i hin (by rw [tabS_len]; exact hin)
                have c2 := ownsB_get hown j hjn (by rw [tabS_len]; exact hjn)
                rw [tabS_get] at c1 c2
                have HQ : Hid (∀ i' j', (i' < i ∨ i' = i ∧ j' < j + 1) → (i' < i ∨ i' = i ∧ j' < j) ∨ (i' = i ∧ j' = j)) := Lib.hid (fun i' j' h => by omega)
                have HMN : Hid ((if distM A (j : Int) (i : Int) < distM A (i : Int) (j : Int) then distM A (j : Int) (i : Int) else distM A (i : Int) (j : Int)) = dM A i j) := Lib.hid (by unfold dM; split <;> omega)
                clear di dj
                -- the four cases
                have HTAKE : Hid (S i = true → S j = false → (best < 0 ∨ dM A i j < best) → BestAt A S (fun i' j' => i' < i ∨ i' = i ∧ j' < j + 1) (dM A i j) (j : Int)) := Lib.hid (fun h1 h2 h3 => best_take HA.out HB.out hin hjn h1 h2 h3 (fun i' j' _ _ h _ _ => HQ.out i' j' h))
                have HKEEP : Hid ((S i = false ∨ S j = true ∨ (0 ≤ best ∧ best ≤ dM A i j)) → BestAt A S (fun i' j' => i' < i ∨ i' = i ∧ j' < j + 1) best at') := Lib.hid (fun h1 => best_keep HB.out (fun i' j' _ _ h hsi hsj => by
                  rcases HQ.out i' j' h with h2 | ⟨rfl, rfl⟩
                  · exact Or.inl h2
                  · rcases h1 with h1 | h1 | h1
                    · rw [h1] at hsi; cases hsi
                    · rw [h1] at hsj; cases hsj
                    · exact Or.inr h1))
                generalize dM A i j = dv at *
                generalize distM A (i : Int) (j : Int) = v1 at *
                generalize distM A (j : Int) (i : Int) = v2 at *
                generalize (R i).1 = ba at *
                generalize (R i).2.1 = oa at *
                generalize (R j).1 = bb at *
                generalize (R j).2.1 = ob at *
                have hmn := HMN.out
                cases hsi : S i with
                | false =>
                  rw [hsi] at c1
                  have HB2 := Lib.hid (HKEEP.out (Or.inl hsi))
                  clear HKEEP HTAKE hsi
                  go_wp2
                  go_quiet (fail)
                  go_wp2
                  exact ⟨⟨j + 1, _, best, at', by omega, by go_num, rfl, rfl, hb0, hb1, HB2, rfl⟩, by simp [intOf]; omega⟩
                | true =>
                  rw [hsi] at c1
                  cases hsj : S j with
                  | true =>
                    rw [hsj] at c2
                    have HB2 := Lib.hid (HKEEP.out (Or.inr (Or.inl hsj)))
                    clear HKEEP HTAKE hsi hsj
                    go_wp2
                    go_quiet (fail)
                    go_wp2
                    exact ⟨⟨j + 1, _, best, at', by omega, by go_num, rfl, rfl, hb0, hb1, HB2, rfl⟩, by simp [intOf]; omega⟩
                  | false =>
                    rw [hsj] at c2
                    by_cases hlt : best < 0 ∨ dv < best
                    · have HB2 := Lib.hid (HTAKE.out hsi hsj hlt)
                      clear HKEEP HTAKE hsi hsj
                      rcases hlt with hlt | hlt
                      · go_wp2
                        go_quiet (fail)
                        go_wp2
                        exact ⟨⟨j + 1, _, dv, j, by omega, by go_num, rfl, rfl, by omega, by omega, HB2, rfl⟩, by simp [intOf]; omega⟩
                      · have hnn : ¬ best < 0 := by omega
                        go_wp2
                        go_quiet (fail)
                        go_wp2
                        exact ⟨⟨j + 1, _, dv, j, by omega, by go_num, rfl, rfl, by omega, by omega, HB2, rfl⟩, by simp [intOf]; omega⟩
                    · have h1 : ¬ best < 0 := by omega
                      have h2 : ¬ dv < best := by omega
                      have HB2 := Lib.hid (HKEEP.out (Or.inr (Or.inr ⟨by omega, by omega⟩)))
                      clear HKEEP HTAKE hsi hsj hlt
                      go_wp2
                      go_quiet (fail)
                      go_wp2
                      exact ⟨⟨j + 1, _, best, at', by omega, by go_num, rfl, rfl, hb0, hb1, HB2, rfl⟩, by simp [intOf]; omega⟩
              · obtain rfl : j = A.length := by omega
                have HB2 : Hid (BestAt A S (fun i' _ => i' < i + 1) best at') := Lib.hid (best_keep HB.out (fun i' j' _ hj' h _ _ => Or.inl (by omega)))
                go_wp2
                exact ⟨⟨i + 1, m, best, at', by omega, by go_num, rfl, rfl, hb0, hb1, HB2, rfl⟩, by simp [intOf]; omega⟩
          · obtain rfl : i = A.length := by omega
            obtain ⟨b, hbn, rfl, hbb0, hbb1, hinv⟩ := prim_step HA.out HI.out hk1 hkn (best_keep HB.out (Q := fun _ _ => True) (fun i' j' hi' _ _ _ _ => Or.inl hi'))
            have HI2 := Lib.hid hinv
            have hset := ownsB_set hown b true
            rw [tabS_put] at hset
            have c1 := ownsB_get hown b hbn (by rw [tabS_len]; exact hbn)
            rw [tabS_get] at c1
            have hf := hown.frozenAt b
            have HS : Hid (∀ q, ((wo.drewN q).setCell ⟨g, b, none⟩ (.bool true)).ownsRow g 4 1 (.slice (some ⟨g, 0, none⟩) A.length A.length) A.length ((tabS A.length (putS S b)).map Value.bool)) := Lib.hid (fun q => hset)
            have HBS : Hid (∀ q, Below w.heap.size w ((wo.drewN q).setCell ⟨g, b, none⟩ (.bool true))) := Lib.hid (fun q => (below_drewN' hb q).setCell (p := ⟨g, b, none⟩) HG.out (.bool true))
            clear hset hown hinv
            generalize S b = sb at *
            go_wp2
            exact ⟨⟨k + 1, _, _, by omega, by go_num, rfl, HS.out _, HI2, HBS.out _⟩, by simp [intOf]; omega⟩
    · obtain rfl : k = A.length := by omega
      go_wp2
      go_ret2
      unfold PrimPost
      exact ⟨S, sum, rfl, HI.out, hb⟩
end Go.Proofs.YtfaklhkdfpfjgaaDoor
