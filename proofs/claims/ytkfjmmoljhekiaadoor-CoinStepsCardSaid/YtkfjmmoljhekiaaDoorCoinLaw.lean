/- The law CoinSteps: the program's rows are the reference's. -/
import Derived.Test.YtkfjmmoljhekiaaDoorCoinErr
import Derived.Test.YtkfjmmoljhekiaaDoorRefCoin
import Derived.Test.YtkfjmmoljhekiaaDoorSame
namespace Go.Proofs.YtkfjmmoljhekiaaDoor
open Go.RowKit

theorem stepRows_len (word : List Int) (L : Nat) : (stepRows word L).length = word.length + 1 := by simp [stepRows]
theorem stepRows_row (word : List Int) (L : Nat) : ∀ r ∈ stepRows word L, r.length = L := by
  intro r hr
  unfold stepRows at hr
  obtain ⟨j, _, rfl⟩ := List.mem_map.1 hr
  simp [tabI]
set_option maxRecDepth 100000 in
set_option maxHeartbeats 8000000 in
theorem coinLim_law (l : Int) (a : Option Addr) (n cap : Nat) (w : World) (hg : Hnd w) (hn : n ≤ 20) (h : l < 1 ∨ 100 < l ∨ (n : Int) < 1 ∨ (12 : Int) < (n : Int)) :
    Calls Tryd.prog 6 #[.int .i64 l, .slice a n cap] w fun e w' => e = .returned (.bool true) ∧ Below w.heap.size w w' := by
  have hd20 : decide ((20 : Int) < (n : Int)) = false := decide_eq_false (by omega)
  have HS := Lib.hid (steps_lim l a n cap w h)
  have key : decide (l < 1) = true ∨ (decide (l < 1) = false ∧ decide (100 < l) = true) ∨ (decide (l < 1) = false ∧ decide (100 < l) = false ∧ decide ((n : Int) < 1) = true) ∨ (decide (l < 1) = false ∧ decide (100 < l) = false ∧ decide ((n : Int) < 1) = false ∧ decide ((12 : Int) < (n : Int)) = true) := by
    simp only [decide_eq_true_eq, decide_eq_false_iff_not]
    omega
  clear h
  rcases key with hd1 | ⟨hd1, hd2⟩ | ⟨hd1, hd2, hd3⟩ | ⟨hd1, hd2, hd3, hd4⟩
  all_goals
    go_enter Tryd.func6, Tryd.ntmps6
    go_wp2
    go_loop [5, 6] (fun ev iv => ev = .int .i64 4 ∧ iv = .int .i64 0) (fun _ _ => 0)
    case atStart => exact ⟨rfl, rfl⟩
    case round =>
      obtain ⟨rfl, rfl⟩ := hrel
      go_wp2_with (go_at_call 25; refine HS.out.mono ?_; rintro e w1 ⟨rfl, hb1⟩)
      all_goals go_wp2_with (go_at_call 18; refine (tell_any 4 _ (hg.at hb1)).mono ?_; rintro e w2 ⟨rfl, hb2⟩)
      all_goals
        go_ret
        exact ⟨rfl, below_next hb1 hb2⟩

set_option maxRecDepth 100000 in
set_option maxHeartbeats 8000000 in
theorem coinIn_law (a : Option Addr) (n cap L : Nat) (word : List Int) (w : World) (hg : Hnd w) (hl : n = word.length) (h1 : 1 ≤ n) (h12 : n ≤ 12) (hL1 : 1 ≤ L) (hL2 : L ≤ 100) (hcap : n ≤ cap) (hcm : cap ≤ maxLen) (hx : Elems encI 1 w a word) :
    Calls Tryd.prog 6 #[.int .i64 L, .slice a n cap] w fun e w' => e = .returned (.bool true) ∧ Below w.heap.size w w' := by
  have HX := Lib.hid hx
  have HL := Lib.hid hl
  have HCM := Lib.hid hcm
  have hd20 : decide ((20 : Int) < (n : Int)) = false := decide_eq_false (by omega)
  have hd1 : decide ((L : Int) < 1) = false := decide_eq_false (by omega)
  have hd2 : decide ((100 : Int) < (L : Int)) = false := decide_eq_false (by omega)
  have hd3 : decide ((n : Int) < 1) = false := decide_eq_false (by omega)
  have hd4 : decide ((12 : Int) < (n : Int)) = false := decide_eq_false (by omega)
  clear hx hl hcm
  go_enter Tryd.func6, Tryd.ntmps6
  go_wp2
  go_loop [5, 6] (fun ev iv => ∃ (k : Nat) (E : Int), k ≤ n ∧ ev = .int .i64 E ∧ iv = .int .i64 k ∧ ((E = 0 ∧ Hid (∀ j (h : j < word.length), j < k → 0 ≤ word[j] ∧ word[j] < L)) ∨ (E = 2 ∧ Hid (∃ x ∈ word, x < 0 ∨ L ≤ x)))) (fun _ iv => n - (intOf iv).toNat)
  case atStart => exact ⟨0, 0, by omega, rfl, rfl, Or.inl ⟨rfl, Lib.hid (fun j _ h => by omega)⟩⟩
  case round =>
    obtain ⟨k, E, hk, rfl, rfl, ⟨rfl, HG⟩ | ⟨rfl, HB⟩⟩ := hrel
    · by_cases hlt : k < n
      · have hltw : k < word.length := by rw [← HL.out]; exact hlt
        obtain ⟨b, o, rfl, hc⟩ := HX.out.some hltw
        have g1 := hc k hltw 0 _ rfl
        simp only [Nat.add_zero, Nat.mul_one] at g1
        have HG2 : Hid (0 ≤ word[k] ∧ word[k] < L → ∀ j (h : j < word.length), j < k + 1 → 0 ≤ word[j] ∧ word[j] < L) := Lib.hid (fun h j hj hk => by
          by_cases hjk : j = k
          · subst hjk; exact h
          · exact HG.out j hj (by omega))
        have HM := Lib.hid (List.getElem_mem hltw)
        clear hc HG
        generalize word[k] = x at *
        by_cases q1 : x < 0
        · have hq1 : decide (x < 0) = true := decide_eq_true q1
          have HE : Hid (∃ x ∈ word, x < 0 ∨ L ≤ x) := Lib.hid ⟨x, HM.out, Or.inl q1⟩
          clear HG2 HM
          go_wp2_with fail
          exact ⟨⟨k + 1, 2, by omega, rfl, by go_num, Or.inr ⟨rfl, HE⟩⟩, by simp [intOf]; omega⟩
        have hq1 : decide (x < 0) = false := decide_eq_false q1
        by_cases q2 : (L : Int) ≤ x
        · have hq2 : decide ((L : Int) ≤ x) = true := decide_eq_true q2
          have HE : Hid (∃ x ∈ word, x < 0 ∨ L ≤ x) := Lib.hid ⟨x, HM.out, Or.inr q2⟩
          clear HG2 HM
          go_wp2_with fail
          exact ⟨⟨k + 1, 2, by omega, rfl, by go_num, Or.inr ⟨rfl, HE⟩⟩, by simp [intOf]; omega⟩
        have hq2 : decide ((L : Int) ≤ x) = false := decide_eq_false q2
        have HG3 := Lib.hid (HG2.out ⟨by omega, by omega⟩)
        clear HG2 HM
        go_wp2_with fail
        exact ⟨⟨k + 1, 0, by omega, rfl, by go_num, Or.inl ⟨rfl, HG3⟩⟩, by simp [intOf]; omega⟩
      · obtain rfl : k = n := by omega
        have hwl := HL.out
        have HS := Lib.hid (steps_ok a k cap L word w hwl (by omega) (by omega) hL1 hL2 (fun x hx => by obtain ⟨j, hj, rfl⟩ := List.getElem_of_mem hx; exact HG.out j hj (by omega)) HX.out)
        have HR : Hid (∀ w1, Below w.heap.size w w1 → _) := Lib.hid (fun w1 hb => refSteps_ok a k cap L word w1 hwl (by omega) (by omega) hL1 hL2 hcap HCM.out (HX.out.at hb))
        clear HG hwl
        go_wp2_with fail
        refine HS.out.mono ?_
        rintro e w1 ⟨a1, c1, rfl, hr1, hb1⟩
        have HR1 := Lib.hid (HR.out w1 hb1)
        rw [← HL.out]
        clear HR HS
        go_wp2_with fail
        refine HR1.out.mono ?_
        rintro e w2 ⟨a2, c2, rfl, hr2, hb2⟩
        rw [← HL.out]
        have HR1' := Lib.hid (hr1.at hb2)
        have HR2 := Lib.hid hr2
        have HB02 := Lib.hid (below_next hb1 hb2)
        clear HR1 hr1 hr2 hb1 hb2
        go_wp2
        go_loopw [10] (fun iv wr => ∃ j : Nat, j ≤ k + 1 ∧ iv = .int .i64 j ∧ Below w2.heap.size w2 wr) (fun iv _ => k + 1 - (intOf iv).toNat)
        case atStart => exact ⟨0, by omega, rfl, Below.refl _ _⟩
        case round =>
          obtain ⟨j, hj, rfl, hb⟩ := hrel
          have HBR := Lib.hid hb
          by_cases hlt2 : j < k + 1
          · have hjl : j < (stepRows word L).length := by rw [stepRows_len, ← HL.out]; exact hlt2
            obtain ⟨b1, o1, rfl, hc1⟩ := (HR1'.out.at hb).some hjl
            obtain ⟨b2, o2, rfl, hc2⟩ := (HR2.out.at hb).some hjl
            obtain ⟨ar, cr, e1, e2, e3, e4⟩ := hc1 j hjl
            obtain ⟨ax, cs, f1, f2, f3, f4⟩ := hc2 j hjl
            have hrl := stepRows_row word L _ (List.getElem_mem hjl)
            have HE4 := Lib.hid e4
            have HF4 := Lib.hid f4
            clear hc1 hc2 e2 e3 f2 f3 e4 f4 hb
            generalize (stepRows word L)[j] = R at *
            have HRL := Lib.hid hrl
            rw [hrl] at e1 f1
            clear hrl hjl
            have HEd := Lib.hid (HE4.out.at (Below.refl wr.heap.size wr).drew)
            have HFd := Lib.hid (HF4.out.at (Below.refl wr.heap.size wr).drew)
            have hbd := Lib.hid (HBR.out.drew)
            go_wp2
            go_region_held3 (fun w' => w'.cell? ⟨b1, o1 + j, none⟩ = some (.slice ar L cr) ∧ w'.cell? ⟨b2, o2 + j, none⟩ = some (.slice ax L cs))
              (first | exact ⟨e1, f1⟩ | exact ⟨(hb5.cell (lt_of_cell e1)).trans e1, (hb5.cell (lt_of_cell f1)).trans f1⟩)
              ((go_at_call 27; refine (sameInts_any ar ax L L cr cs R R _ HRL.out.symm HRL.out.symm (by rw [HRL.out]; omega) (by rw [HRL.out]; omega) HEd.out HFd.out).mono ?_; rintro e w5 ⟨rfl, hb5⟩; rw [decide_eq_true (rfl : R = R)]))
            have hb05 := hbd.out.trans (hb5.mono hbd.out.size)
            go_wp2
            exact ⟨⟨j + 1, by omega, by go_num, hb05⟩, by simp [intOf]; omega⟩
          · obtain rfl : j = k + 1 := by omega
            go_wp2
            go_ret
            exact ⟨rfl, below_next HB02.out HBR.out⟩
    · have HS := Lib.hid (steps_rng a n cap L word w HL.out (by have := HL.out; omega) (by have := HL.out; omega) hL1 hL2 HB.out HX.out)
      clear HB
      go_wp2_with (go_at_call 25; refine HS.out.mono ?_; rintro e w1 ⟨rfl, hb1⟩)
      all_goals go_wp2_with (go_at_call 18; refine (tell_any 2 _ (hg.at hb1)).mono ?_; rintro e w2 ⟨rfl, hb2⟩)
      all_goals
        go_ret
        exact ⟨rfl, below_next hb1 hb2⟩

set_option maxRecDepth 100000 in
theorem coinSteps_law (l : Int) (a : Option Addr) (n cap : Nat) (word : List Int) (w : World) (hg : Hnd w) (hl : n = word.length) (hcap : n ≤ cap) (hcm : cap ≤ maxLen) (hx : Elems encI 1 w a word) :
    Calls Tryd.prog 6 #[.int .i64 l, .slice a n cap] w fun e w' => e = .returned (.bool true) ∧ Below w.heap.size w w' := by
  by_cases h20 : 20 < n
  · have hd20 : decide ((20 : Int) < (n : Int)) = true := decide_eq_true (by omega)
    clear hl
    go_enter Tryd.func6, Tryd.ntmps6
    go_wp2
    go_ret
    exact ⟨rfl, Below.refl _ _⟩
  by_cases h : l < 1 ∨ 100 < l ∨ (n : Int) < 1 ∨ (12 : Int) < (n : Int)
  · exact coinLim_law l a n cap w hg (by omega) h
  · obtain ⟨L, rfl⟩ : ∃ L : Nat, l = L := ⟨l.toNat, by omega⟩
    exact coinIn_law a n cap L word w hg hl (by omega) (by omega) (by omega) (by omega) hcap hcm hx
end Go.Proofs.YtkfjmmoljhekiaaDoor
