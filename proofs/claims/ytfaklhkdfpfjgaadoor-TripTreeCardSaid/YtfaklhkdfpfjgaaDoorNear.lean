/- trip.Near and the reference's Near (19.2). -/
import Derived.Test.YtfaklhkdfpfjgaaDoorNearM
import Derived.Test.YtfaklhkdfpfjgaaDoorBet
namespace Go.Proofs.YtfaklhkdfpfjgaaDoor
open Go.RowKit

theorem index_any (a : Option Addr) (n cap : Nat) (xs : List Int) (x : Int) (w : World) (hl : n = xs.length) (hn : xs.length ≤ 1000) (hx : Elems encI 1 w a xs) :
    Calls Tryd.prog 112 #[.slice a n cap, .int .i64 x] w fun e w' => (∃ r : Int, e = .returned (.int .i64 r) ∧ (0 ≤ r ↔ x ∈ xs)) ∧ w = w' := by
  subst hl
  have HX := Lib.hid hx
  clear hx
  go_enter Tryd.func112, Tryd.ntmps112
  go_wp2
  go_loop [8] (fun iv => ∃ k : Nat, k ≤ xs.length ∧ iv = .int .i64 k ∧ Hid (x ∉ xs.take k)) (fun iv => xs.length - (intOf iv).toNat)
  case atStart => exact ⟨0, by omega, rfl, Lib.hid (by simp)⟩
  case round =>
    obtain ⟨k, hk, rfl, HN⟩ := hrel
    by_cases hlt : k < xs.length
    · obtain ⟨b, o, rfl, hc⟩ := HX.out.some hlt
      have h1 := hc k hlt 0 _ rfl
      simp only [Nat.add_zero, Nat.mul_one] at h1
      by_cases he : x = xs[k]
      · have HM : Hid (x ∈ xs) := Lib.hid (by rw [he]; exact List.getElem_mem hlt)
        have hd : (x == xs[k]) = true := by simpa using he
        clear hc he
        generalize xs[k] = y at *
        go_wp2
        go_ret
        exact ⟨⟨_, rfl, ⟨fun _ => HM.out, fun _ => by omega⟩⟩, rfl⟩
      · have HN2 : Hid (x ∉ xs.take (k + 1)) := Lib.hid (by
          rw [List.take_succ_eq_append_getElem hlt, List.mem_append, List.mem_singleton]
          exact fun h => h.elim HN.out he)
        have hd : (x == xs[k]) = false := by simpa using he
        clear hc he
        generalize xs[k] = y at *
        go_wp2
        exact ⟨⟨k + 1, by omega, by go_num, HN2⟩, by simp [intOf]; omega⟩
    · obtain rfl : k = xs.length := by omega
      have HN2 : Hid (x ∉ xs) := Lib.hid (by have h := HN.out; rwa [List.take_length] at h)
      go_wp2
      go_ret
      exact ⟨⟨_, rfl, ⟨fun h => by omega, fun h => absurd h HN2.out⟩⟩, rfl⟩
theorem contains_any (a : Option Addr) (n cap : Nat) (xs : List Int) (x : Int) (w : World) (hl : n = xs.length) (hn : xs.length ≤ 1000) (hx : Elems encI 1 w a xs) :
    Calls Tryd.prog 93 #[.slice a n cap, .int .i64 x] w fun e w' => e = .returned (.bool (decide (x ∈ xs))) ∧ w = w' := by
  have HI := Lib.hid (index_any a n cap xs x w hl hn hx)
  clear hl hx
  go_enter Tryd.func93, Tryd.ntmps93
  go_wp2_with fail
  refine HI.out.mono ?_
  rintro e w1 ⟨⟨r, rfl, hr⟩, rfl⟩
  have HR : Hid (decide (0 ≤ r) = decide (x ∈ xs)) := Lib.hid (decide_eq_decide.2 hr)
  clear hr
  go_wp2
  go_ret
  exact ⟨by rw [← HR.out]; rfl, rfl⟩
def NearPost (A : List (List Int)) (w : World) (e : Ending) (w' : World) : Prop :=
  ∃ a' cap', e = .returned (.tuple #[.slice a' A.length cap', .nilIface]) ∧ Elems encI 1 w' a' (nearM A A.length) ∧ Below w.heap.size w w'

set_option maxRecDepth 100000 in
set_option maxHeartbeats 16000000 in
theorem near_ok (a : Option Addr) (n cap : Nat) (A : List (List Int)) (w : World) (hl : n = A.length) (hM : mapCheck A = 0) (hr : Rows2 w a A) :
    Calls Tryd.prog 52 #[.slice a n cap] w (NearPost A w) := by
  subst hl
  obtain ⟨hA9, hA⟩ := map_ok hM
  have HC1 := tripChk_any a _ cap A w rfl (by unfold maxLen; omega) hr
  rw [hM, show errV 0 = .nilIface from rfl] at HC1
  have HC1 := Lib.hid HC1
  have HRR := Lib.hid hr
  have HA := Lib.hid hA
  clear hr hA hM
  go_enter Tryd.func52, Tryd.ntmps52
  go_wp2_with fail
  refine HC1.out.mono ?_
  rintro e w1 ⟨rfl, hb1⟩
  clear HC1
  have HHB : Hid (w.heap.size ≤ w1.heap.size) := Lib.hid hb1.size
  have hb11 := Below.refl w1.heap.size w1
  have HB1 := Lib.hid hb1
  clear hb1
  go_wp2
  go_loopw [5] (fun v wr => ∃ (t : Nat) (a' : Option Addr) (c' : Nat), t ≤ A.length ∧ v = .slice a' t c' ∧ wr.ownsRow w1.heap.size 3 1 (.slice a' t c') t ((nearM A t).map (Value.int .i64)) ∧ Below w1.heap.size w1 wr) (fun v _ => match v with | .slice _ l _ => A.length - l | _ => 0)
  case atStart => exact ⟨0, none, 0, by omega, rfl, World.ownsRow_nil _ _ _ _, hb11⟩
  case round =>
    clear hb11
    obtain ⟨t, a', c', ht, rfl, hown, hbn⟩ := hrel
    have hb := below_next HB1.out hbn
    by_cases htn : t < A.length
    · obtain ⟨b2, o2, rfl, R, hR⟩ := rows_at HA.out (HRR.out.at hb) (by omega)
      have HR := Lib.hid hR
      have hnl := near_len A t
      obtain ⟨a5, c5, hq5, he5, _⟩ := ints_of_owns hnl.symm hown
      obtain ⟨rfl, hq6, rfl⟩ := Value.slice.inj hq5
      have HE5 := Lib.hid he5
      have HNI := Lib.hid (near_in A t ht)
      have HPI := Lib.hid (pick_in A htn)
      have HNL := Lib.hid hnl
      clear hR hq5 hq6 he5 hnl
      obtain ⟨wo, hwo⟩ : ∃ wo : World, wo = wr := ⟨_, rfl⟩
      subst hwo
      go_wp2
      go_loopw [6, 20] (fun bv kv wr => ∃ k m : Nat, k ≤ A.length ∧ kv = .int .i64 k ∧ bv = .int .i64 (pickN A (nearM A t) k) ∧ wr = wo.drewN m) (fun _ kv _ => A.length - (intOf kv).toNat)
      case atStart => exact ⟨0, 0, by omega, rfl, rfl, rfl⟩
      case round =>
        obtain ⟨k, m, hk, rfl, rfl, rfl⟩ := hrel
        by_cases hkn : k < A.length
        · have HCON : Hid (∀ (bv : Bool) (q : Nat), decide ((k : Int) ∈ nearM A t) = bv → Calls Tryd.prog 93 #[.slice a' t c', .int .i64 k] (wo.drewN (m + q)) fun e w' => e = .returned (.bool bv) ∧ ∃ n, w' = wo.drewN (m + n)) := Lib.hid (fun bv q hbv => by
            refine (contains_any a' t c' (nearM A t) (k : Int) (wo.drewN (m + q)) HNL.out.symm (by rw [HNL.out]; omega) HE5.out).mono ?_
            rintro e w' ⟨rfl, rfl⟩
            exact ⟨by rw [hbv], q, rfl⟩)
          have hpl := pick_lt A (nearM A t) k
          have hst : pickN A (nearM A t) (k + 1) = if (k : Int) ∈ nearM A t then pickN A (nearM A t) k else if pickN A (nearM A t) k < 0 ∨ (0 < (nearM A t).length ∧ distM A (lastN (nearM A t)) k < distM A (lastN (nearM A t)) (pickN A (nearM A t) k)) then (k : Int) else pickN A (nearM A t) k := rfl
          rw [HNL.out] at hst
          by_cases hin : (k : Int) ∈ nearM A t
          · rw [if_pos hin] at hst
            have HST := Lib.hid hst
            have HC := Lib.hid (fun q => HCON.out true q (decide_eq_true hin))
            clear hst hin HCON
            generalize pickN A (nearM A t) k = pk at *
            go_wp2
            go_quiet (exact HC.out _)
            go_wp2
            exact ⟨⟨k + 1, _, by omega, by go_num, congrArg (Value.int .i64) HST.out.symm, rfl⟩, by simp [intOf]; omega⟩
          · rw [if_neg hin] at hst
            have HC := Lib.hid (fun q => HCON.out false q (decide_eq_false hin))
            clear hin HCON
            by_cases hp0 : pickN A (nearM A t) k < 0
            · rw [if_pos (Or.inl hp0)] at hst
              have HST := Lib.hid hst
              clear hst
              generalize pickN A (nearM A t) k = pk at *
              go_wp2
              go_quiet (exact HC.out _)
              go_wp2
              exact ⟨⟨k + 1, _, by omega, by go_num, congrArg (Value.int .i64) HST.out.symm, rfl⟩, by simp [intOf]; omega⟩
            · obtain ⟨p, hp⟩ := Int.eq_ofNat_of_zero_le (show 0 ≤ pickN A (nearM A t) k by omega)
              rw [hp] at hst hpl ⊢
              have hpA : p < A.length := by omega
              by_cases ht0 : t = 0
              · rw [if_neg (by omega)] at hst
                have HST := Lib.hid hst
                have hd0 : decide ((0 : Int) < (t : Int)) = false := decide_eq_false (by omega)
                have hd1 : decide (0 < t) = false := decide_eq_false (by omega)
                have hpd : decide ((p : Int) < 0) = false := decide_eq_false (by omega)
                clear hst hp hp0 ht0 htn
                go_wp2
                go_quiet (exact HC.out _)
                go_wp2
                exact ⟨⟨k + 1, _, by omega, by go_num, congrArg (Value.int .i64) HST.out.symm, rfl⟩, by simp [intOf]; omega⟩
              · obtain ⟨t0, ht1⟩ : ∃ t0 : Nat, t0 = t - 1 := ⟨_, rfl⟩
                have ht0l : t0 < (nearM A t).length := by rw [HNL.out]; omega
                obtain ⟨b5, o5, rfl, hc5⟩ := HE5.out.some ht0l
                have g1 := hc5 t0 ht0l 0 _ rfl
                simp only [Nat.add_zero, Nat.mul_one] at g1
                have hl1 := HNI.out _ (List.getElem_mem ht0l)
                obtain ⟨l, hl⟩ := Int.eq_ofNat_of_zero_le hl1.1
                have hlA : l < A.length := by omega
                have hlast : lastN (nearM A t) = (l : Int) := by
                  unfold lastN
                  rw [HNL.out, ← ht1, ← hl]
                  simp [List.getD, ht0l]
                rw [hl] at g1
                rw [hlast] at hst
                obtain ⟨rl, dl⟩ := HR.out l hlA
                have dlk := dl k hkn
                have dlp := dl p hpA
                have htd : decide ((0 : Int) < (t : Int)) = true := decide_eq_true (by omega)
                have htd1 : decide (0 < t) = true := decide_eq_true (by omega)
                have hpd : decide ((p : Int) < 0) = false := decide_eq_false (by omega)
                have hw1 : IntKind.i64.wrap ((t : Int) - 1) = (t0 : Int) := (IntWalk.i64_in _ (by omega)).trans (by omega)
                have ht0n : (t0 : Int) < (t : Int) := by omega
                have hpn : ¬ ((p : Int) < 0) := by omega
                by_cases hlt : distM A (l : Int) (k : Int) < distM A (l : Int) (p : Int)
                · rw [if_pos (Or.inr ⟨by omega, hlt⟩)] at hst
                  have HST := Lib.hid hst
                  clear hst hp hp0 hc5 hl hl1 hlast dl ht1 ht0l ht0 htn
                  generalize distM A (l : Int) (k : Int) = v1 at *
                  generalize distM A (l : Int) (p : Int) = v2 at *
                  generalize (R l).1 = ba at *
                  generalize (R l).2.1 = oa at *
                  go_wp2
                  go_quiet (exact HC.out _)
                  go_wp2
                  exact ⟨⟨k + 1, _, by omega, by go_num, congrArg (Value.int .i64) HST.out.symm, rfl⟩, by simp [intOf]; omega⟩
                · rw [if_neg (by omega)] at hst
                  have HST := Lib.hid hst
                  clear hst hp hp0 hc5 hl hl1 hlast dl ht1 ht0l ht0 htn
                  generalize distM A (l : Int) (k : Int) = v1 at *
                  generalize distM A (l : Int) (p : Int) = v2 at *
                  generalize (R l).1 = ba at *
                  generalize (R l).2.1 = oa at *
                  go_wp2
                  go_quiet (exact HC.out _)
                  go_wp2
                  exact ⟨⟨k + 1, _, by omega, by go_num, congrArg (Value.int .i64) HST.out.symm, rfl⟩, by simp [intOf]; omega⟩
        · obtain rfl : k = A.length := by omega
          obtain ⟨hq0, hq1⟩ := HPI.out
          have hownm : (wo.drewN m).ownsRow w1.heap.size 3 1 (.slice a' t c') t ((nearM A t).map (Value.int .i64)) := hown
          have hbm := below_drewN' hb m
          have HSX : Hid ((nearM A t).map (Value.int .i64) ++ [Value.int .i64 (pickN A (nearM A t) A.length)] = (nearM A (t + 1)).map (Value.int .i64)) := Lib.hid (by
            show _ = (nearM A t ++ [pickN A (nearM A t) A.length]).map _
            rw [List.map_append]; rfl)
          have hbs : w1.heap.size ≤ (wo.drewN m).heap.size := hbn.size
          have hbnm := below_drewN' hbn m
          generalize pickN A (nearM A t) A.length = pk at *
          go_wp2_with (at_builtin; (refine app_row rowW rfl _ _ rfl w1.heap.size rfl hownm [.int .i64 pk] rfl (by first | rfl | simp) rfl (encI_one _) (by unfold maxLen; omega) (by omega) hbs ?_))
          intro v' w4 hown4 hb4
          rw [HSX.out] at hown4
          obtain ⟨a6, c6, rfl, _, _⟩ := ints_of_owns (near_len A (t + 1)).symm hown4
          rw [near_len] at hown4 ⊢
          have hb5 := hbnm.trans hb4
          go_wp2
          exact ⟨⟨t + 1, a6, c6, by omega, rfl, hown4, hb5⟩, by simp; omega⟩
    · obtain rfl : t = A.length := by omega
      obtain ⟨a5, c5, hq5, he5, _⟩ := ints_of_owns (near_len A _).symm hown
      obtain ⟨rfl, hq6, rfl⟩ := Value.slice.inj hq5
      have HE5 := Lib.hid he5
      clear hq5 hq6 he5
      go_wp2
      go_ret2
      unfold NearPost
      exact ⟨a', c', rfl, HE5.out, hb⟩
end Go.Proofs.YtfaklhkdfpfjgaaDoor
