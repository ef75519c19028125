/- risk.on: whether the whole works by a set of parts. -/
import Derived.Test.YtfaklhkdfpfjgaaDoorSetM
import Derived.Test.YtfaklhkdfpfjgaaDoorRiskRef
namespace Go.Proofs.YtfaklhkdfpfjgaaDoor
open Go.RowKit

/-- Whether the whole works by a set. -/
def WS (L : List GateT) (s : Nat) : Bool := worksG (bitB s) L
theorem ownsB_set {w : World} {base e g n cap : Nat} {E : List Bool} (h : w.ownsRow base e 1 (.slice (some ⟨g, 0, none⟩) n cap) n (E.map Value.bool)) (j : Nat) (u : Bool) :
    (w.setCell ⟨g, j, none⟩ (.bool u)).ownsRow base e 1 (.slice (some ⟨g, 0, none⟩) n cap) n ((E.set j u).map Value.bool) := by
  rw [List.map_set]
  exact (h.stored j (.bool u)).1
set_option maxRecDepth 100000 in
set_option maxHeartbeats 8000000 in
theorem on_any (a : Option Addr) (m cap n s : Nat) (L : List GateT) (w : World) (hl : m = L.length) (hC : gatesCheck (n : Int) L = 0) (hs : s < 2 ^ n) (hr : Gates w a L) :
    Calls Tryd.prog 70 #[.slice a m cap, .int .i64 n, .int .i64 s] w fun e w' => e = .returned (.bool (WS L s)) ∧ Below w.heap.size w w' := by
  subst hl
  obtain ⟨c1, c2, _, _, _⟩ := gatesCheck_ok hC
  have HBIT := Lib.hid (fun k => bit_and s k)
  have HRR := Lib.hid hr
  have HC := Lib.hid hC
  have HS := Lib.hid hs
  clear hr hC hs
  go_enter Tryd.func70, Tryd.ntmps70
  go_wp2_with (at_make; refine make_row _ rowB rfl _ _ rfl w.heap.size _ _ _ _ n rfl rfl rfl rfl (by omega) (by unfold maxLen; omega) (Nat.le_refl _) ?_)
  intro w2 hown hb2
  rw [made_bools n] at hown
  have hg2 := (owns_base hown).2
  obtain ⟨g, hgg⟩ : ∃ g, g = w.heap.size := ⟨_, rfl⟩
  have HG := Lib.hid hgg
  rw [← hgg] at hown hb2 hg2 ⊢
  clear hgg
  go_wp2
  go_loopw [13] (fun iv wr => ∃ k : Nat, k ≤ n ∧ iv = .int .i64 k ∧ wr.ownsRow g 4 1 (.slice (some ⟨g, 0, none⟩) n n) n ((tabB n (fun j => decide (j < k) && bitB s j)).map Value.bool) ∧ Below g w wr) (fun iv _ => n - (intOf iv).toNat)
  case atStart => exact ⟨0, by omega, rfl, by simpa using hown, hb2⟩
  case round =>
    clear hown hb2
    obtain ⟨k, hk, rfl, hown, hb⟩ := hrel
    by_cases hlt : k < n
    · have hbit := HBIT.out k
      obtain ⟨g', cap', hq, h6⟩ := ownsB_get hown k hlt
      simp only [Value.slice.injEq, Option.some.injEq, Addr.mk.injEq, and_true, true_and] at hq
      obtain ⟨rfl, rfl⟩ := hq
      have hf := hown.frozenAt k
      have hnew := ownsB_set hown k (bitB s k)
      rw [tabB_set n _ (fun j => decide (j < k + 1) && bitB s j) k (bitB s k) (fun y _ => by
        by_cases hy : y = k
        · subst hy; simp
        · rw [if_neg hy]
          congr 1
          exact decide_eq_decide.2 (by omega))] at hnew
      have hbs := hb.setCell (p := ⟨g, k, none⟩) (Nat.le_refl g) (.bool (bitB s k))
      have HN := Lib.hid hnew
      clear hown hnew
      cases hbv : bitB s k with
      | true =>
        rw [hbv] at hbit hbs HN
        rw [if_pos rfl] at hbit
        clear hbv
        generalize (tabB n (fun j => decide (j < k) && bitB s j)).getD k false = ov at *
        go_wp2
        go_roundw
        case rel => exact ⟨k + 1, by omega, by go_num, HN.out, hbs⟩
        case measure => simp [intOf]; omega
      | false =>
        rw [hbv] at hbit hbs HN
        rw [if_neg (by simp)] at hbit
        clear hbv
        generalize (tabB n (fun j => decide (j < k) && bitB s j)).getD k false = ov at *
        go_wp2
        go_roundw
        case rel => exact ⟨k + 1, by omega, by go_num, HN.out, hbs⟩
        case measure => simp [intOf]; omega
    · obtain rfl : k = n := by omega
      obtain ⟨ap, cp, he0, he, _⟩ := bools_of_owns (tabB_len _ _).symm hown
      obtain ⟨rfl, hq0, rfl⟩ := Value.slice.inj he0
      have hlen := tabB_len k (fun j => decide (j < k) && bitB s j)
      have HW := Lib.hid (works_any a (some ⟨g, 0, none⟩) _ cap k k L (tabB k (fun j => decide (j < k) && bitB s j)) wr rfl hlen.symm (by rw [hlen]; exact HC.out) (HRR.out.at (by rw [← HG.out]; exact hb)) he)
      have HV : Hid (worksG (fun q => (tabB k (fun j => decide (j < k) && bitB s j)).getD q false) L = WS L s) := Lib.hid (by
        unfold WS
        congr 1
        funext q
        rw [tabB_get]
        by_cases hq : q < k
        · rw [if_pos hq]; simp [hq]
        · rw [if_neg hq, bitB_out HS.out (by omega)])
      rw [HG.out] at hb
      clear he he0 hq0 hlen hown
      go_wp2_with fail
      refine HW.out.mono ?_
      rintro e w3 ⟨rfl, hb3⟩
      generalize worksG (fun q => (tabB k (fun j => decide (j < k) && bitB s j)).getD q false) L = vv at *
      go_wp2
      go_ret
      exact ⟨by rw [← HV.out]; rfl, hb.trans (hb3.mono hb.size)⟩
end Go.Proofs.YtfaklhkdfpfjgaaDoor
