/- The reference's far whole: a search from one place, without an edge. -/
import Derived.Test.YtogbmpnbbkcocaaDoorTreeFar
import Derived.Laws.EntriesVeiled
namespace Go.Proofs.YtogbmpnbbkcocaaDoor
open Go.RowKit

set_option maxRecDepth 100000 in
set_option maxHeartbeats 8000000 in
theorem refFar_any (es : List R3) (wo : Int) (a : Option Addr) (n cap places r : Nat) (xs : List R3) (w : World) (hl : n = xs.length) (hn : xs.length ≤ 100) (hp : places ≤ 60) (hr : r < places) (hE : ∀ e ∈ xs, okEdge places e)
    (hes : ∀ e, e ∈ es ↔ ∃ k, ∃ h : k < xs.length, (k : Int) ≠ wo ∧ xs[k] = e) (hx : Elems enc3 3 w a xs) :
    Calls Tryd.prog 45 #[.int .i64 places, .slice a n cap, .int .i64 r, .int .i64 wo] w (FromPost places r es w) := by
  subst hl
  have HE := Lib.hid hE
  have HX := Lib.hid hx
  have HES := Lib.hid hes
  have eg := eg_far1
  clear hE hx hes
  go_enter Tryd.func45, Tryd.ntmps45
  go_wp2_with (at_make; refine make_row _ rowN rfl _ _ rfl (w.heap.size + 2) _ _ _ _ places rfl rfl rfl rfl (by omega) (by unfold maxLen; omega) (by simp) ?_)
  intro w1 hown hb
  rw [made_ints places, tabI_rep, tabI_congr (g := fun y => if y < 0 then -1 else 0) (fun y _ => by simp)] at hown
  go_wp2
  have hg2 := (owns_base hown).2
  have hE0 : Elems enc3 3 w a xs := HX.out
  -- what lies there
  have b5 : w1.cell? ⟨w.heap.size, 0, none⟩ = some (.slice a xs.length cap) := by
    rw [hb.cell (p := ⟨w.heap.size, 0, none⟩) (by simp)]
    simp
  have b7 : w1.cell? ⟨w.heap.size + 1, 0, none⟩ = some (.int .i64 wo) := by
    rw [hb.cell (p := ⟨w.heap.size + 1, 0, none⟩) (by simp)]
    simp
  have hb0 : Below w.heap.size w w1 := (((Below.refl _ _).alloc (Nat.le_refl _) _).alloc (by simp) _).trans (hb.mono (by omega))
  have hc9 : (w1.alloc (.cells #[.slice (some ⟨w.heap.size + 1 + 1, 0, none⟩) places places] 31)).cell? ⟨w1.heap.size, 0, none⟩ = some (.slice (some ⟨w.heap.size + 1 + 1, 0, none⟩) places places) := by simp
  have hc5 := cell_a1 b5 (.cells #[.slice (some ⟨w.heap.size + 1 + 1, 0, none⟩) places places] 31)
  have hc7 := cell_a1 b7 (.cells #[.slice (some ⟨w.heap.size + 1 + 1, 0, none⟩) places places] 31)
  have howna := hown.alloc (.cells #[.slice (some ⟨w.heap.size + 1 + 1, 0, none⟩) places places] 31)
  have hba := hb0.alloc hb0.size (.cells #[.slice (some ⟨w.heap.size + 1 + 1, 0, none⟩) places places] 31)
  have n9 : w1.heap.size ≠ w.heap.size + 1 + 1 := by omega
  clear hown hb b5 b7 hb0
  obtain ⟨g, hgg⟩ : ∃ g, g = w.heap.size + 1 + 1 := ⟨_, rfl⟩
  obtain ⟨B5, hB5⟩ : ∃ g, g = w.heap.size := ⟨_, rfl⟩
  obtain ⟨B7, hB7⟩ : ∃ g, g = w.heap.size + 1 := ⟨_, rfl⟩
  have n5 : B5 ≠ g := by omega
  have n7 : B7 ≠ g := by omega
  have hB0 : w.heap.size ≤ g := by omega
  rw [← hgg] at hc9 hc5 hc7 howna hba n9 ⊢
  rw [show w.heap.size + 1 = B7 from hB7.symm] at hc7 ⊢
  rw [← hB5] at hc5 ⊢
  have HG := Lib.hid (show w.heap.size = B5 ∧ w.heap.size ≤ g from ⟨hB5.symm, hB0⟩)
  clear hgg hB7 hg2 hB5
  generalize w1.heap.size = B9 at *
  generalize w1.alloc (.cells #[.slice (some ⟨g, 0, none⟩) places places] 31) = w2 at *
  clear w1
  go_loopw [16] (fun i wr => ∃ k : Nat, k ≤ places ∧ i = .int .i64 k ∧ wr.cell? ⟨B9, 0, none⟩ = some (.slice (some ⟨g, 0, none⟩) places places) ∧ wr.cell? ⟨B5, 0, none⟩ = some (.slice a xs.length cap) ∧ wr.cell? ⟨B7, 0, none⟩ = some (.int .i64 wo) ∧
      wr.ownsRow g 3 1 (.slice (some ⟨g, 0, none⟩) places places) places ((tabI places (fun y => if y < k then -1 else 0)).map (Value.int .i64)) ∧ Below w.heap.size w wr) (fun i _ => places - (intOf i).toNat)
  case atStart => exact ⟨0, by omega, rfl, hc9, hc5, hc7, howna, hba⟩
  case round =>
    clear hc9 hc5 hc7 howna hba
    obtain ⟨k, hk, rfl, hc9, hc5, hc7, hown, hb⟩ := hrel
    by_cases hlt : k < places
    · have h1 := tabI_at _ hown hlt
      have hset := tabI_put hown k (-1)
      rw [tabI_congr (g := fun y => if y < k + 1 then -1 else 0) (fun y _ => by
        unfold upd
        by_cases h : y = k
        · subst h; simp
        · rw [if_neg h]
          by_cases h2 : y < k
          · simp only [if_pos h2, if_pos (show y < k + 1 by omega)]
          · simp only [if_neg h2, if_neg (show ¬ y < k + 1 by omega)])] at hset
      have hfz := hown.frozenAt k
      have d9 := cell_off hown k (.int .i64 (-1)) n9 hc9
      have d5 := cell_off hown k (.int .i64 (-1)) n5 hc5
      have d7 := cell_off hown k (.int .i64 (-1)) n7 hc7
      have hbs := hb.setCell (p := ⟨g, k, none⟩) HG.out.2 (.int .i64 (-1))
      have H9 := Lib.hid (And.intro d9 (And.intro d5 d7))
      clear hown d9 d5 d7 hc5 hc7
      generalize (if k < k then (-1 : Int) else 0) = v at *
      go_wp2
      go_roundw
      case rel => exact ⟨k + 1, by omega, by go_num, H9.out.1, H9.out.2.1, H9.out.2.2, hset, hbs⟩
      case measure => simp [intOf]; omega
    · obtain rfl : k = places := by omega
      rw [tabI_congr (g := fun _ => -1) (fun y hy => by rw [if_pos hy])] at hown
      clear hlt
      have hgs := (owns_base hown).2
      have hbs := hb.size
      have HC := Lib.hid (farWalk_any es xs r k wo a cap w B9 B5 B7 wr.heap.size g g hn hp HE.out HES.out HX.out HG.out.2 ⟨n9, n5, n7, by omega⟩ _ (fun _ => -1) r 0 (wr.alloc (.cells #[.func (.func 67) #[] #[.pointer (some ⟨B9, 0, none⟩), .pointer (some ⟨B5, 0, none⟩), .pointer (some ⟨B7, 0, none⟩), .pointer (some ⟨wr.heap.size, 0, none⟩)]] 115)) (Nat.le_refl _) hr (by decide) (by omega) Grow.start
        ⟨cell_a1 hc9 _, cell_a1 hc5 _, cell_a1 hc7 _, by simp⟩ (hown.alloc _) (hb.alloc hbs _))
      have hb2 := hb.alloc hbs (.cells #[.func (.func 67) #[] #[.pointer (some ⟨B9, 0, none⟩), .pointer (some ⟨B5, 0, none⟩), .pointer (some ⟨B7, 0, none⟩), .pointer (some ⟨wr.heap.size, 0, none⟩)]] 115)
      have hc9a := cell_a1 hc9 (.cells #[.func (.func 67) #[] #[.pointer (some ⟨B9, 0, none⟩), .pointer (some ⟨B5, 0, none⟩), .pointer (some ⟨B7, 0, none⟩), .pointer (some ⟨wr.heap.size, 0, none⟩)]] 115)
      have hl9 := lt_of_cell hc9a
      clear hc5 hc7 hown
      go_wp2_with fail
      refine HC.out.mono ?_
      intro e w3 hw3
      unfold WalkPost at hw3
      obtain ⟨rfl, f', hgr, hown3, hp3⟩ := hw3
      have e9 := (hgr.cell_far ⟨B9, 0, none⟩ hl9 (by simp; exact n9)).trans hc9a
      have hb3 := Below.grown hb2 hgr (by simp; omega) (fun k hk => by cases hk; exact HG.out.2)
      obtain ⟨a', cap', he0, he, _⟩ := ints_of_owns (tabI_len _ _).symm hown3
      obtain ⟨rfl, hq0, rfl⟩ := Value.slice.inj he0
      have HP3 := Lib.hid hp3
      clear hq0 he0 hown3 hgr hc9a hl9 hb2 hp3
      go_wp2
      go_ret
      unfold FromPost
      exact ⟨_, _, f', rfl, he, HP3.out.1, fun e he p i hj hp => HP3.out.2.2.2 p (by show (-1 : Int) < 0; decide) hp e he i hj, hb3⟩
end Go.Proofs.YtogbmpnbbkcocaaDoor
