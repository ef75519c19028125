/- api.Tell: of an error that is an Errno, its number; 0 of nil. -/
import Derived.Test.YtannijeiecmjpaaGreatDoorAs
namespace Go.Proofs.YtannijeiecmjpaaGreatDoor
open Go.RowKit

/-- An Errno as an error: nil for 0. -/
def errV (n : Int) : Value := if n = 0 then .nilIface else .iface 37 (.int .i64 n)
/-- api.Tell of nil: 0. -/
theorem tell_nil (w : World) : Calls Tryz.prog 7 #[.nilIface] w fun e w' => e = .returned (.int .i64 0) ∧ Below w.heap.size w w' := by
  go_enter Tryz.func7, Tryz.ntmps7
  go_wp2
  go_ret
  exact ⟨rfl, Below.refl _ _⟩
set_option maxHeartbeats 4000000 in
theorem tell_hit (n : Int) (w : World) (hg : Hnd w) : Calls Tryz.prog 7 #[.iface 37 (.int .i64 n)] w fun e w' => e = .returned (.int .i64 n) ∧ Below w.heap.size w w' := by
  have hlt : 0 < w.heap.size := lt_of_cell hg
  have hgA : (w.alloc (.cells #[.int .i64 0] 37)).cell? ⟨0, 0, none⟩ = some hnd := cell_a1 hg _
  have htA : (w.alloc (.cells #[.int .i64 0] 37)).cell? ⟨w.heap.size, 0, none⟩ = some (.int .i64 0) := by simp
  have hfA : (w.alloc (.cells #[.int .i64 0] 37)).frozen? ⟨w.heap.size, 0, none⟩ = false := by simp
  go_enter Tryz.func7, Tryz.ntmps7
  go_wp2_with (go_at_call 22; refine (as_hit n _ (.int .i64 0) _ hgA htA hfA).mono ?_; rintro e w' ⟨rfl, rfl⟩)
  go_ret
  refine ⟨rfl, ?_⟩
  exact ((((((Below.refl _ _).alloc (Nat.le_refl _) _).alloc (by simp) _).alloc (by simp; omega) _).alloc (by simp; omega) _).alloc (by simp; omega) _)
/-- api.Tell of an Errno as an error. -/
theorem tell_any (n : Int) (w : World) (hg : Hnd w) : Calls Tryz.prog 7 #[errV n] w fun e w' => e = .returned (.int .i64 n) ∧ Below w.heap.size w w' := by
  by_cases h : n = 0
  · subst h
    exact tell_nil w
  · rw [errV, if_neg h]
    exact tell_hit n w hg
end Go.Proofs.YtannijeiecmjpaaGreatDoor
