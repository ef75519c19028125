/- Parts of a plan: how they lie; foresightlaw's parts. -/
import Derived.Test.YtannijeiecmjpaaDoorRows
import Derived.Test.YtannijeiecmjpaaDoorBase
import Derived.BigQuiet
import Derived.Deep.QuietTactic
namespace Go.Proofs.YtannijeiecmjpaaDoor
open Go.RowKit

abbrev R4 := Int × Int × Int × Int
abbrev enc4 (x : R4) : List Value := [.int .i64 x.1, .int .i64 x.2.1, .int .i64 x.2.2.1, .int .i64 x.2.2.2]
theorem enc4_one (x : R4) : ∀ u ∈ enc4 x, u.oneCell' = true := by
  intro u hu; simp [enc4] at hu; rcases hu with rfl | rfl | rfl | rfl <;> rfl

theorem flat_app (out : List R4) (p : R4) : out.flatMap enc4 ++ enc4 p = (out ++ [p]).flatMap enc4 := by simp [List.flatMap_append]
def atI (xs : List Int) (x : Int) : Int := xs.getD x.toNat 0
theorem atI_nat {xs : List Int} {k : Nat} (h : k < xs.length) : atI xs k = xs[k] := by simp [atI, List.getD, h]

set_option maxRecDepth 100000 in
set_option maxHeartbeats 8000000 in
theorem parts_any (a a2 : Option Addr) (n n2 c c2 : Nat) (ps : List R4) (w : World) (hl : n = ps.length) (hl2 : n2 = ps.length) (hn : ps.length ≤ 100000000000) (hx : Elems enc4 4 w a ps) (hy : Elems enc4 4 w a2 ps) :
    Calls Tryd.prog 17 #[.slice a n c, .slice a2 n2 c2] w fun e w' => e = .returned (.bool true) ∧ Below w.heap.size w w' := by
  subst hl; subst hl2
  have hd : (((ps.length : Int)) != ((ps.length : Int))) = false := by simp
  go_enter Tryd.func17, Tryd.ntmps17
  go_wp2
  go_loopw [5] (fun iv wr => ∃ (k m : Nat), k ≤ ps.length ∧ iv = .int .i64 k ∧ wr = w.drewN m) (fun iv _ => ps.length - (intOf iv).toNat)
  case atStart => exact ⟨0, 0, by omega, rfl, rfl⟩
  case round =>
    obtain ⟨k, m, hk, rfl, rfl⟩ := hrel
    by_cases hlt : k < ps.length
    · obtain ⟨b, o, rfl, hc⟩ := hx.some hlt
      obtain ⟨b2, o2, rfl, hc2⟩ := hy.some hlt
      have p0 := hc k hlt 0 _ rfl
      have p1 := hc k hlt 1 _ rfl
      have p2 := hc k hlt 2 _ rfl
      have p3 := hc k hlt 3 _ rfl
      have q0 := hc2 k hlt 0 _ rfl
      have q1 := hc2 k hlt 1 _ rfl
      have q2 := hc2 k hlt 2 _ rfl
      have q3 := hc2 k hlt 3 _ rfl
      simp only [Nat.add_zero] at p0 q0
      clear hc hc2 hx hy
      generalize ps[k] = x at *
      obtain ⟨x0, x1, x2, x3⟩ := x
      have d0 : (x0 != x0) = false := by simp
      have d1 : (x1 != x1) = false := by simp
      have d2 : (x2 != x2) = false := by simp
      have d3 : (x3 != x3) = false := by simp
      have hk2 : (k : Int) < (ps.length : Int) := by omega
      go_wp2
      go_quiet (fail)
      go_wp2
      go_roundw
      case rel => exact ⟨k + 1, _, by omega, by go_num, rfl⟩
      case measure => simp [intOf]; omega
    · go_wp2
      go_ret
      exact ⟨rfl, below_drewN _ _ _⟩
end Go.Proofs.YtannijeiecmjpaaDoor
