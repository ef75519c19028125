/- foresightlaw.whole: what the program answers is what is wanted, or both tell the same error. -/
import Derived.Test.YtannijeiecmjpaaDoorRows
import Derived.Test.YtannijeiecmjpaaDoorBase
import Derived.Test.YtannijeiecmjpaaDoorTell
namespace Go.Proofs.YtannijeiecmjpaaDoor
open Go.RowKit
set_option maxHeartbeats 400000 in
theorem whole_any (E n m : Int) (w : World) (hg : Hnd w) (h0 : E = 0 → n = m) (h1 : E ≠ 0 → n = 0) :
    Calls Tryd.prog 16 #[.int .i64 n, errV E, .int .i64 m, .int .i64 E] w fun e w' => e = .returned (.bool true) ∧ Below w.heap.size w w' := by
  by_cases hE : E = 0
  · have hxy := h0 hE
    subst hE
    subst hxy
    have hd : (n == n) = true := by simp
    clear h0 h1
    show Calls Tryd.prog 16 #[.int .i64 n, .nilIface, .int .i64 n, .int .i64 0] w _
    go_enter Tryd.func16, Tryd.ntmps16
    go_wp2
    go_ret
    exact ⟨rfl, Below.refl _ _⟩
  · have hz := h1 hE
    subst hz
    clear h0 h1
    have hb1 : (E != 0) = true := by simpa using hE
    have hb2 : (E == E) = true := by simp
    rw [errV, if_neg hE]
    clear hE
    go_enter Tryd.func16, Tryd.ntmps16
    go_wp2_with (go_at_call 10; refine (tell_hit _ _ hg).mono ?_; rintro e w1 ⟨rfl, hbw⟩)
    go_ret
    exact ⟨rfl, hbw⟩
end Go.Proofs.YtannijeiecmjpaaDoor
