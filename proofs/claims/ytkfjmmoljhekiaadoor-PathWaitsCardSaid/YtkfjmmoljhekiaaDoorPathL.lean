/- The plain law of 5.2: Lindley's waits are the beginnings less the comings. No program in sight. -/
import Derived.Test.YtkfjmmoljhekiaaDoorPathM
import Derived.IntWalk
namespace Go.Proofs.YtkfjmmoljhekiaaDoor
open Go.RowKit Go.IntWalk

theorem soonest_one (f : Int) : soonest [f] 1 = 0 := by simp [soonest]
theorem beginAt_one (f : Int) (j : R3) : beginAt [f] j = if f < j.1 then j.1 else f := by
  unfold beginAt
  rw [show ([f] : List Int).length = 1 from rfl, soonest_one]
  rfl
theorem serve_one (f : Int) (j : R3) : serve [f] j = [wrap64 (beginAt [f] j + j.2.1)] := by
  unfold serve
  rw [show ([f] : List Int).length = 1 from rfl, soonest_one]
  rfl

theorem lindley_step {xs : List R3} (h : jobsCheck xs = 0) (k : Nat) (hk : k < xs.length) :
    ∃ f, freeAt xs 1 k = [f] ∧ lindley xs k = beginAt [f] xs[k] - xs[k].1 ∧ 0 ≤ lindley xs k ∧ lindley xs k ≤ k * 1000000000 := by
  have hl := jobs_ok_len h
  induction k with
  | zero =>
    have hj := jobs_ok_job h 0 hk
    refine ⟨0, by simp [freeAt], ?_, by simp [lindley], by simp [lindley]⟩
    rw [beginAt_one]
    show (0 : Int) = _
    split <;> omega
  | succ k ih =>
    obtain ⟨f, hf, hlin, h0, h1⟩ := ih (by omega)
    have hj := jobs_ok_job h k (by omega)
    have hj1 := jobs_ok_job h (k + 1) hk
    have hs := jobs_ok_sorted h k hk
    have hkk : (k : Int) * 1000000000 ≤ 60000000000 := by omega
    refine ⟨wrap64 (beginAt [f] xs[k] + xs[k].2.1), ?_, ?_⟩
    · rw [freeAt_succ xs 1 k (by omega), hf, serve_one]
    · have e1 : wrap64 (beginAt [f] xs[k] + xs[k].2.1) = beginAt [f] xs[k] + xs[k].2.1 := wrap64_in _ (by omega)
      have g0 : xs.getD k (0, 0, 0) = xs[k] := by simp [List.getD, show k < xs.length by omega]
      have g1 : xs.getD (k + 1) (0, 0, 0) = xs[k + 1] := by simp [List.getD, hk]
      have e2 : lindley xs (k + 1) = if 0 < lindley xs k + xs[k].2.1 - (xs[k + 1].1 - xs[k].1) then lindley xs k + xs[k].2.1 - (xs[k + 1].1 - xs[k].1) else 0 := by
        show (if 0 < wrap64 _ then wrap64 _ else 0) = _
        rw [g0, g1, wrap64_in (lindley xs k + xs[k].2.1) (by omega), wrap64_in (xs[k + 1].1 - xs[k].1) (by omega), wrap64_in _ (by omega)]
      rw [e1, e2, beginAt_one]
      refine ⟨?_, ?_, ?_⟩
      · split <;> split <;> omega
      · split <;> omega
      · split <;> omega

theorem waits_eq {xs : List R3} (h : jobsCheck xs = 0) : lindleyM xs xs.length = waitsM xs xs.length := by
  unfold lindleyM waitsM
  apply List.map_congr_left
  intro k hk
  have hk : k < xs.length := by simpa using hk
  have hl := jobs_ok_len h
  obtain ⟨f, hf, hlin, h0, h1⟩ := lindley_step h k hk
  have g0 : xs.getD k (0, 0, 0) = xs[k] := by simp [List.getD, hk]
  have g1 : (beginsM xs 1 xs.length).getD k 0 = beginAt [f] xs[k] := by
    unfold beginsM
    simp [List.getD, hk, hf]
  rw [g0, g1, ← hlin, wrap64_in _ (by omega)]
end Go.Proofs.YtkfjmmoljhekiaaDoor
