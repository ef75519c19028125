import Derived.Test.YtkfjmmoljhekiaaRows
import Derived.Test.YtkfjmmoljhekiaaEndsWalks
namespace Go.Proofs.Ytkfjmmoljhekiaa
open Go.RowKit
theorem ends_len0 (n : Nat) (ys : List R3) (E : List Int) : (ys.foldl (endsStep n) E).length = E.length := by
  induction ys generalizing E with
  | nil => rfl
  | cons y ys ih => rw [List.foldl_cons, ih]; unfold endsStep; split <;> simp
theorem ends_len (n : Nat) (ys : List R3) : (ys.foldl (endsStep n) (List.replicate n 0)).length = n := by rw [ends_len0]; simp
set_option maxHeartbeats 4000000 in
theorem law_any (a a2 : Option Addr) (n cap n2 cap2 : Nat) (xs ys : List R3) (t : Int) (w : World) (hl : n = xs.length) (hl2 : n2 = ys.length)
   (hn : n ≤ maxLen) (hn2 : n2 ≤ maxLen) (hx : Elems enc3 3 w a xs) (hy : Elems enc3 3 w a2 ys) :
  Calls Try.prog 3 #[.slice a n cap, .slice a2 n2 cap2, .int .i64 t] w fun e w' => e = .returned (.bool true) ∧ Below w.heap.size w w' := by
  subst hl; subst hl2
  unfold maxLen at hn hn2
  by_cases hA : 100 < xs.length
  · have hd : decide ((100 : Int) < (xs.length : Int)) = true := by simp; omega
    go_enter Try.func3, Try.ntmps3
    go_wp2
    go_ret
    exact ⟨rfl, Below.refl _ _⟩
  have hdA : decide ((100 : Int) < (xs.length : Int)) = false := by simp; omega
  by_cases hB : 200 < ys.length
  · have hd : decide ((200 : Int) < (ys.length : Int)) = true := by simp; omega
    go_enter Try.func3, Try.ntmps3
    go_wp2
    go_ret
    exact ⟨rfl, Below.refl _ _⟩
  have hdB : decide ((200 : Int) < (ys.length : Int)) = false := by simp; omega
  obtain ⟨i0, hi, hz0, hz1, hz2⟩ := info_parts Try.info27
  go_enter Try.func3, Try.ntmps3
  go_wp2
  go_loopw [7, 8] (fun v i wr => ∃ k : Nat, k ≤ ys.length ∧ i = .int .i64 k ∧ wr.ownsRow w.heap.size 27 3 v k ((ys.take k).flatMap enc3) ∧ Below w.heap.size w wr) (fun _ i _ => ys.length - (intOf i).toNat)
  case atStart => exact ⟨0, by omega, rfl, World.ownsRow_nil _ _ _ _, Below.refl _ _⟩
  case round =>
    obtain ⟨k, hk, rfl, hown, hb⟩ := hrel
    by_cases hlt : k < ys.length
    · obtain ⟨b, o, rfl, hc⟩ := hy.some hlt
      have hbB := lt_of_cell (hc k hlt 0 _ rfl)
      simp only at hbB
      have h1 := (hb.cell hbB).trans (hc k hlt 0 _ rfl)
      have h2 := (hb.cell hbB).trans (hc k hlt 1 _ rfl)
      have h3 := (hb.cell hbB).trans (hc k hlt 2 _ rfl)
      simp only [Nat.add_zero] at h1
      clear hc hx hy
      have hsz := hb.size
      go_wp2_with fail
      go_region_held3 (fun w' => w'.cell? ⟨b, o + k * 3, none⟩ = some (.int .i64 ys[k].1) ∧ w'.cell? ⟨b, o + k * 3 + 1, none⟩ = some (.int .i64 ys[k].2.1) ∧ w'.cell? ⟨b, o + k * 3 + 2, none⟩ = some (.int .i64 ys[k].2.2))
        (first | go_keep | (refine ⟨?_, ?_, ?_⟩ <;> (rw [hb1.cell hbB]; simp [*])))
        ((refine step_append_rec (by rfl) _ _ 24 (by rfl) w.heap.size 27 i0 _ 3 24 Try.underlying24 hi hz0 hz1 hz2 rfl (by decide) _ _ _ (by rfl) ((hown.alloc _).drew) wr.heap.size (enc3 ys[k]) (heap_alloc_new wr _) (by rfl) rfl (enc3_one _) (by unfold maxLen; omega) (by omega) (by simp; omega) ?_; intro v' w1 hown1 hb1))
      rw [take_flat] at hown1
      clear hown hsz h1 h2 h3
      go_wp2
      go_roundw
      case rel => exact ⟨k + 1, by omega, by go_num, hown1, hb.trans (((((Below.refl _ _).alloc hb.size _).drew).trans hb1))⟩
      case measure => simp [intOf]; omega
    · obtain rfl : k = ys.length := by omega
      rw [List.take_length] at hown
      obtain ⟨a', cap', rfl, he, _⟩ := elems_of_owns (enc := enc3) (fun _ => rfl) rfl hown
      clear hown
      go_wp2_with fail
      refine (ends_any _ _ _ _ _ _ ys _ (by omega) (by omega) rfl (hy.at hb)).mono ?_
      rintro e w1 ⟨a1, cap1, rfl, he1, hb1⟩
      have hb1' := below_next hb hb1
      go_wp2_with fail
      refine (jobs_any _ _ _ xs _ (by omega) rfl (hx.at hb1')).mono ?_
      rintro e w2 ⟨a2, cap2, rfl, he2, hb2⟩
      have hb2' := below_next hb1 hb2
      go_wp2_with fail
      refine (ends5_any _ _ _ _ _ _ ys _ (by omega) (by omega) rfl (he.at hb2')).mono ?_
      rintro e w3 ⟨a3, cap3, rfl, he3, hb3⟩
      have hb3' := below_next hb2 hb3
      have hl1 := ends_len xs.length ys
      go_wp2_with fail
      refine (sameInts_any _ _ _ _ _ _ _ _ _ hl1.symm hl1.symm (by omega) (by omega) (he1.at hb3') he3).mono ?_
      rintro e w4 ⟨rfl, hb4⟩
      have h04 := below_next hb (below_next hb1 (below_next hb3' hb4))
      go_wp2_with fail
      refine (work_any _ _ _ _ _ _ xs ys t _ (by omega) rfl (by omega) rfl (hx.at h04) (hy.at h04)).mono ?_
      rintro e w5 ⟨rfl, hb5⟩
      have h05 := below_next h04 hb5
      go_wp2_with fail
      refine (jobs_any _ _ _ xs _ (by omega) rfl (hx.at h05)).mono ?_
      rintro e w6 ⟨a6, cap6, rfl, he6, hb6⟩
      have h06 := below_next h05 hb6
      have hr6 := below_next (below_next hb2' (below_next hb3 hb4)) (below_next hb5 hb6)
      go_wp2_with fail
      refine (refWork_any _ _ _ _ _ _ xs ys t _ (by omega) rfl (by omega) rfl he6 (he.at hr6)).mono ?_
      rintro e w7 ⟨rfl, hb7⟩
      go_wp2
      go_ret
      exact ⟨rfl, below_next h06 hb7⟩
end Go.Proofs.Ytkfjmmoljhekiaa
