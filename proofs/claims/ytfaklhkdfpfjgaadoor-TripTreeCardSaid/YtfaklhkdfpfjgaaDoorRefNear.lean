/- The reference's Near (19.2). -/
import Derived.Test.YtfaklhkdfpfjgaaDoorNear
import Derived.Test.YtfaklhkdfpfjgaaDoorPrim
namespace Go.Proofs.YtfaklhkdfpfjgaaDoor
open Go.RowKit

def seenN (way : List Int) : Nat → Bool := fun k => decide ((k : Int) ∈ way)
theorem seen_put (way : List Int) (b : Nat) : putS (seenN way) b = seenN (way ++ [(b : Int)]) := by
  funext x
  unfold putS seenN
  by_cases h : x = b
  · subst h; simp
  · have h2 : (x : Int) ≠ (b : Int) := by omega
    simp [h, h2]
def RefNearPost (A : List (List Int)) (w : World) (e : Ending) (w' : World) : Prop :=
  ∃ a' cap', e = .returned (.slice a' A.length cap') ∧ Elems encI 1 w' a' (nearM A A.length) ∧ Below w.heap.size w w'

set_option maxRecDepth 100000 in
set_option maxHeartbeats 16000000 in
theorem refNear_ok (a : Option Addr) (n cap : Nat) (A : List (List Int)) (w : World) (hl : n = A.length) (hM : mapCheck A = 0) (hr : Rows2 w a A) :
    Calls Tryd.prog 49 #[.slice a n cap] w (RefNearPost A w) := by
  subst hl
  obtain ⟨hA9, hA⟩ := map_ok hM
  have HRR := Lib.hid hr
  have HA := Lib.hid hA
  clear hr hA hM
  go_enter Tryd.func49, Tryd.ntmps49
  go_wp2_with (at_make; refine make_row _ rowB rfl _ _ rfl w.heap.size _ _ _ _ A.length rfl rfl rfl rfl (by omega) (by unfold maxLen; omega) (Nat.le_refl _) ?_)
  intro w2 hseen hb2
  rw [made_tabS] at hseen
  have hg2 := (owns_base hseen).2
  obtain ⟨g, hgg⟩ : ∃ g, g = w.heap.size := ⟨_, rfl⟩
  have HG : Hid (w.heap.size = g) := Lib.hid hgg.symm
  rw [← hgg] at hseen hb2 hg2 ⊢
  clear hgg
  have HG2 : Hid (g + 1 ≤ w2.heap.size) := Lib.hid hg2
  have HB2 := Lib.hid hb2
  have hb22 := Below.refl (g + 1) w2
  have hseen0 : w2.ownsRow g 4 1 (.slice (some ⟨g, 0, none⟩) A.length A.length) A.length ((tabS A.length (seenN (nearM A 0))).map Value.bool) := by
    have : seenN (nearM A 0) = fun _ => false := by funext x; simp [seenN, nearM]
    rw [this]; exact hseen
  clear hseen hb2 hg2
  go_wp2
  go_loopw [3, 12] (fun v tv wr => ∃ (t : Nat) (a' : Option Addr) (c' : Nat), t ≤ A.length ∧ tv = .int .i64 t ∧ v = .slice a' t c' ∧ wr.ownsRow (g + 1) 3 1 (.slice a' t c') t ((nearM A t).map (Value.int .i64)) ∧ wr.ownsRow g 4 1 (.slice (some ⟨g, 0, none⟩) A.length A.length) A.length ((tabS A.length (seenN (nearM A t))).map Value.bool) ∧ Hid (g + 1 ≤ wr.heap.size) ∧ Below g w wr) (fun _ tv _ => A.length - (intOf tv).toNat)
  case atStart => exact ⟨0, none, 0, by omega, rfl, rfl, World.ownsRow_nil _ _ _ _, hseen0, HG2, HB2.out⟩
  case round =>
    clear hseen0 hb22
    obtain ⟨t, a', c', ht, rfl, rfl, hown, hseen, HSZ, hbg⟩ := hrel
    have hb : Below w.heap.size w wr := by rw [HG.out]; exact hbg
    by_cases htn : t < A.length
    · obtain ⟨b2, o2, rfl, R, hR⟩ := rows_at HA.out (HRR.out.at hb) (by omega)
      have HR := Lib.hid hR
      have hnl := near_len A t
      obtain ⟨a5, c5, hq5, he5, _⟩ := ints_of_owns hnl.symm hown
      obtain ⟨rfl, hq6, rfl⟩ := Value.slice.inj hq5
      have HE5 := Lib.hid he5
      have HNI := Lib.hid (near_in A t ht)
      have HPI := Lib.hid (pick_in A htn)
      have HNL := Lib.hid hnl
      clear hR hq5 hq6 he5 hnl
      obtain ⟨wo, hwo⟩ : ∃ wo : World, wo = wr := ⟨_, rfl⟩
      subst hwo
      go_wp2
      go_loopw [5, 16] (fun bv kv wr => ∃ k m : Nat, k ≤ A.length ∧ kv = .int .i64 k ∧ bv = .int .i64 (pickN A (nearM A t) k) ∧ wr = wo.drewN m) (fun _ kv _ => A.length - (intOf kv).toNat)
      case atStart => exact ⟨0, 0, by omega, rfl, rfl, rfl⟩
      case round =>
        obtain ⟨k, m, hk, rfl, rfl, rfl⟩ := hrel
        by_cases hkn : k < A.length
        · have hpl := pick_lt A (nearM A t) k
          have hst : pickN A (nearM A t) (k + 1) = if (k : Int) ∈ nearM A t then pickN A (nearM A t) k else if pickN A (nearM A t) k < 0 ∨ (0 < (nearM A t).length ∧ distM A (lastN (nearM A t)) k < distM A (lastN (nearM A t)) (pickN A (nearM A t) k)) then (k : Int) else pickN A (nearM A t) k := rfl
          rw [HNL.out] at hst
          have s1 := ownsB_get hseen k hkn (by rw [tabS_len]; exact hkn)
          rw [tabS_get] at s1
          unfold seenN at s1
          by_cases hin : (k : Int) ∈ nearM A t
          · rw [if_pos hin] at hst
            rw [decide_eq_true hin] at s1
            have HST := Lib.hid hst
            clear hst hin
            generalize pickN A (nearM A t) k = pk at *
            go_wp2
            exact ⟨⟨k + 1, _, by omega, by go_num, congrArg (Value.int .i64) HST.out.symm, rfl⟩, by simp [intOf]; omega⟩
          · rw [if_neg hin] at hst
            rw [decide_eq_false hin] at s1
            clear hin
            by_cases hp0 : pickN A (nearM A t) k < 0
            · rw [if_pos (Or.inl hp0)] at hst
              have HST := Lib.hid hst
              clear hst
              generalize pickN A (nearM A t) k = pk at *
              go_wp2
              go_quiet (fail)
              go_wp2
              exact ⟨⟨k + 1, _, by omega, by go_num, congrArg (Value.int .i64) HST.out.symm, rfl⟩, by simp [intOf]; omega⟩
            · obtain ⟨p, hp⟩ := Int.eq_ofNat_of_zero_le (show 0 ≤ pickN A (nearM A t) k by omega)
              rw [hp] at hst hpl ⊢
              have hpA : p < A.length := by omega
              have hpd : decide ((p : Int) < 0) = false := decide_eq_false (by omega)
              by_cases ht0 : t = 0
              · rw [if_neg (by omega)] at hst
                have HST := Lib.hid hst
                have hd0 : decide ((0 : Int) < (t : Int)) = false := decide_eq_false (by omega)
                have hd1 : decide (0 < t) = false := decide_eq_false (by omega)
                clear hst hp hp0 ht0 htn
                go_wp2
                go_quiet (fail)
                go_wp2
                exact ⟨⟨k + 1, _, by omega, by go_num, congrArg (Value.int .i64) HST.out.symm, rfl⟩, by simp [intOf]; omega⟩
              · obtain ⟨t0, ht1⟩ : ∃ t0 : Nat, t0 = t - 1 := ⟨_, rfl⟩
                have ht0l : t0 < (nearM A t).length := by rw [HNL.out]; omega
                obtain ⟨b5, o5, rfl, hc5⟩ := HE5.out.some ht0l
                have g1 := hc5 t0 ht0l 0 _ rfl
                simp only [Nat.add_zero, Nat.mul_one] at g1
                have hl1 := HNI.out _ (List.getElem_mem ht0l)
                obtain ⟨l, hl⟩ := Int.eq_ofNat_of_zero_le hl1.1
                have hlA : l < A.length := by omega
                have hlast : lastN (nearM A t) = (l : Int) := by
                  unfold lastN
                  rw [HNL.out, ← ht1, ← hl]
                  simp [List.getD, ht0l]
                rw [hl] at g1
                rw [hlast] at hst
                obtain ⟨rl, dl⟩ := HR.out l hlA
                have dlk := dl k hkn
                have dlp := dl p hpA
                have htd : decide ((0 : Int) < (t : Int)) = true := decide_eq_true (by omega)
                have htd1 : decide (0 < t) = true := decide_eq_true (by omega)
                have hw1 : IntKind.i64.wrap ((t : Int) - 1) = (t0 : Int) := (IntWalk.i64_in _ (by omega)).trans (by omega)
                have ht0n : (t0 : Int) < (t : Int) := by omega
                have hpn : ¬ ((p : Int) < 0) := by omega
                by_cases hlt : distM A (l : Int) (k : Int) < distM A (l : Int) (p : Int)
                · rw [if_pos (Or.inr ⟨by omega, hlt⟩)] at hst
                  have HST := Lib.hid hst
                  clear hst hp hp0 hc5 hl hl1 hlast dl ht1 ht0l ht0 htn
                  generalize distM A (l : Int) (k : Int) = v1 at *
                  generalize distM A (l : Int) (p : Int) = v2 at *
                  generalize (R l).1 = ba at *
                  generalize (R l).2.1 = oa at *
                  go_wp2
                  go_quiet (fail)
                  go_wp2
                  exact ⟨⟨k + 1, _, by omega, by go_num, congrArg (Value.int .i64) HST.out.symm, rfl⟩, by simp [intOf]; omega⟩
                · rw [if_neg (by omega)] at hst
                  have HST := Lib.hid hst
                  clear hst hp hp0 hc5 hl hl1 hlast dl ht1 ht0l ht0 htn
                  generalize distM A (l : Int) (k : Int) = v1 at *
                  generalize distM A (l : Int) (p : Int) = v2 at *
                  generalize (R l).1 = ba at *
                  generalize (R l).2.1 = oa at *
                  go_wp2
                  go_quiet (fail)
                  go_wp2
                  exact ⟨⟨k + 1, _, by omega, by go_num, congrArg (Value.int .i64) HST.out.symm, rfl⟩, by simp [intOf]; omega⟩
        · obtain rfl : k = A.length := by omega
          obtain ⟨hq0, hq1⟩ := HPI.out
          have HSX : Hid ((nearM A t).map (Value.int .i64) ++ [Value.int .i64 (pickN A (nearM A t) A.length)] = (nearM A (t + 1)).map (Value.int .i64)) := Lib.hid (by
            show _ = (nearM A t ++ [pickN A (nearM A t) A.length]).map _
            rw [List.map_append]; rfl)
          obtain ⟨p, hp⟩ := Int.eq_ofNat_of_zero_le hq0
          have HPS : Hid (putS (seenN (nearM A t)) p = seenN (nearM A (t + 1))) := Lib.hid (by
            rw [seen_put]
            show _ = seenN (nearM A t ++ [pickN A (nearM A t) A.length])
            rw [hp])
          rw [hp] at HSX ⊢
          have hpA : p < A.length := by omega
          have s1 := ownsB_get hseen p hpA (by rw [tabS_len]; exact hpA)
          rw [tabS_get] at s1
          have hf := hseen.frozenAt p
          have hset := ownsB_set hseen p true
          rw [tabS_put, HPS.out] at hset
          have hgs := (hseen.stored p (.bool true)).2
          have hown2 := hown.kept hgs (Or.inr (fun h => by have := (hown.lt g h).1; omega))
          have hbs : g + 1 ≤ ((wo.drewN m).setCell ⟨g, p, none⟩ (.bool true)).heap.size := by simpa using HSZ.out
          have hbg2 : Below g w ((wo.drewN m).setCell ⟨g, p, none⟩ (.bool true)) := (below_drewN' hbg m).setCell (p := ⟨g, p, none⟩) (Nat.le_refl g) _
          have HS2 : Hid (((wo.drewN m).setCell ⟨g, p, none⟩ (.bool true)).ownsRow g 4 1 (.slice (some ⟨g, 0, none⟩) A.length A.length) A.length ((tabS A.length (seenN (nearM A (t + 1)))).map Value.bool)) := Lib.hid hset
          have hownm : ((wo.drewN m).setCell ⟨g, p, none⟩ (.bool true)).ownsRow (g + 1) 3 1 (.slice a' t c') t ((nearM A t).map (Value.int .i64)) := hown2
          clear hseen hown hset hgs hown2 hbg hb hq0 hq1
          generalize seenN (nearM A t) p = sb at *
          go_wp2_with (at_builtin; (refine app_row rowW rfl _ _ rfl (g + 1) rfl hownm [.int .i64 p] rfl (by first | rfl | simp) rfl (encI_one _) (by unfold maxLen; omega) (by omega) hbs ?_))
          intro v' w4 hown4 hb4
          rw [HSX.out] at hown4
          obtain ⟨a6, c6, rfl, _, _⟩ := ints_of_owns (near_len A (t + 1)).symm hown4
          rw [near_len] at hown4 ⊢
          have hb5 := hbg2.trans (hb4.mono (Nat.le_succ g))
          have hs4 := owns_below HS2.out hb4 (fun q hq => by cases hq; exact Nat.lt_succ_self g)
          have HZ4 : Hid (g + 1 ≤ w4.heap.size) := Lib.hid (Nat.le_trans hbs hb4.size)
          go_wp2
          exact ⟨⟨t + 1, a6, c6, by omega, by go_num, rfl, hown4, hs4, HZ4, hb5⟩, by simp [intOf]; omega⟩
    · obtain rfl : t = A.length := by omega
      obtain ⟨a5, c5, hq5, he5, _⟩ := ints_of_owns (near_len A _).symm hown
      obtain ⟨rfl, hq6, rfl⟩ := Value.slice.inj hq5
      have HE5 := Lib.hid he5
      clear hq5 hq6 he5
      go_wp2
      go_ret
      unfold RefNearPost
      exact ⟨a', c', rfl, HE5.out, hb⟩
end Go.Proofs.YtfaklhkdfpfjgaaDoor
