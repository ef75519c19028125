/- foresightlaw.jobs: the jobs in the reference's type. -/
import Derived.Test.YtannijeiecmjpaaDoorRows
import Derived.Test.YtannijeiecmjpaaDoorRow
namespace Go.Proofs.YtannijeiecmjpaaDoor
open Go.RowKit
theorem rowJ : RowOf Tryd.prog 23 80 (.agg #[.int .i64 0, .int .i64 0, .int .i64 0]) 3 24 := rowOf Tryd.underlying23 (by kernel_rfl) rfl (by decide)

set_option maxHeartbeats 1000000 in
theorem jobs_any (a : Option Addr) (n cap : Nat) (xs : List R3) (w : World) (hn : xs.length ≤ 1000) (hl : n = xs.length)
   (hx : Elems enc3 3 w a xs) :
  Calls Tryd.prog 7 #[.slice a n cap] w fun e w' => ∃ a' cap', e = .returned (.slice a' xs.length cap') ∧ Elems enc3 3 w' a' xs ∧ Below w.heap.size w w' := by
  subst hl
  go_enter Tryd.func7, Tryd.ntmps7
  go_wp2
  go_loopw [3, 4] (fun v i wr => ∃ k : Nat, k ≤ xs.length ∧ i = .int .i64 k ∧ wr.ownsRow w.heap.size 80 3 v k ((xs.take k).flatMap enc3) ∧ Below w.heap.size w wr) (fun _ i _ => xs.length - (intOf i).toNat)
  case atStart => exact ⟨0, by omega, rfl, World.ownsRow_nil _ _ _ _, Below.refl _ _⟩
  case round =>
    obtain ⟨k, hk, rfl, hown, hb⟩ := hrel
    by_cases hlt : k < xs.length
    · obtain ⟨b, o, rfl, hc⟩ := hx.some hlt
      have hbB := lt_of_cell (hc k hlt 0 _ rfl)
      simp only at hbB
      have h1 := (hb.cell hbB).trans (hc k hlt 0 _ rfl)
      have h2 := (hb.cell hbB).trans (hc k hlt 1 _ rfl)
      have h3 := (hb.cell hbB).trans (hc k hlt 2 _ rfl)
      simp only [Nat.add_zero] at h1
      clear hc hx
      have hsz := hb.size
      go_wp2_with fail
      go_region_held3 (fun w' => w'.cell? ⟨b, o + k * 3, none⟩ = some (.int .i64 xs[k].1) ∧ w'.cell? ⟨b, o + k * 3 + 1, none⟩ = some (.int .i64 xs[k].2.1) ∧ w'.cell? ⟨b, o + k * 3 + 2, none⟩ = some (.int .i64 xs[k].2.2))
        (first | go_keep | (refine ⟨?_, ?_, ?_⟩ <;> (rw [hb1.cell hbB]; simp [*])))
        ((refine step_row rowJ (by rfl) _ _ (by rfl) w.heap.size (by rfl) ((hown.alloc _).drew) wr.heap.size (enc3 xs[k]) (heap_alloc_new wr _) (by rfl) rfl (enc3_one _) (by unfold maxLen; omega) (by omega) (by simp; omega) ?_; intro v' w1 hown1 hb1))
      rw [take_flat] at hown1
      clear hown hsz h1 h2 h3
      go_wp2
      go_roundw
      case rel => exact ⟨k + 1, by omega, by go_num, hown1, hb.trans (((((Below.refl _ _).alloc hb.size _).drew).trans hb1))⟩
      case measure => simp [intOf]; omega
    · go_wp2
      go_ret
      obtain rfl : k = xs.length := by omega
      rw [List.take_length] at hown
      obtain ⟨a', cap', rfl, he, _⟩ := elems_of_owns (enc := enc3) (fun _ => rfl) rfl hown
      exact ⟨a', cap', rfl, he, hb⟩
end Go.Proofs.YtannijeiecmjpaaDoor
