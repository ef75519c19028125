/- depot.may tells doErr. -/
import Derived.Test.YtannijeiecmjpaaGreatDoorRows
import Derived.Test.YtannijeiecmjpaaGreatDoorDepD
import Derived.Test.YtannijeiecmjpaaGreatDoorTell
namespace Go.Proofs.YtannijeiecmjpaaGreatDoor
open Go.RowKit Go.WideMaps Go.Maps

set_option maxRecDepth 100000 in
set_option maxHeartbeats 8000000 in
theorem may_any {base bd : Nat} {mv jv : Value} {L : List MoveD} (m : MoveD) {w : World} (hL : L.length ≤ 500) (hm : m.1.length ≤ 9223372036854775807) (m0 : -9223372036854775808 ≤ m.2) (m1 : m.2 ≤ 9223372036854775807) (H : DepAt base bd mv jv L w) :
    Calls Tryz.prog 20 #[.pointer (some ⟨bd, 0, none⟩), .agg #[strV m.1, .int .i64 m.2]] w fun e w' => e = .returned (errV (doErr L m)) ∧ Below w.heap.size w w' := by
  obtain ⟨s, mu⟩ := m
  simp only at hm m0 m1
  have hsz : (⟨s.toArray⟩ : ByteArray).size = s.length := by simp [ByteArray.size]
  have hb0 : Below w.heap.size w (w.alloc (.cells #[strV s, .int .i64 mu] 36)) := (Below.refl _ _).alloc (Nat.le_refl _) _
  have HN := Lib.hid (depName_any ⟨s.toArray⟩ (w.alloc (.cells #[strV s, .int .i64 mu] 36)) (by unfold maxLen; omega))
  have a0 : (w.alloc (.cells #[strV s, .int .i64 mu] 36)).cell? ⟨w.heap.size, 0, none⟩ = some (strV s) := by simp
  have a1 : (w.alloc (.cells #[strV s, .int .i64 mu] 36)).cell? ⟨w.heap.size, 1, none⟩ = some (.int .i64 mu) := by simp
  have HB0 := Lib.hid hb0
  have H0 := Lib.hid (H.at hb0)
  have hbd2 := haveM_bound H.ok s
  clear H hb0
  have hVn : (⟨s.toArray⟩ : ByteArray).data.toList = s := rfl
  rw [hVn] at HN
  clear hVn
  obtain ⟨E, hE⟩ : ∃ E, E = doErr L (s, mu) := ⟨_, rfl⟩
  rw [← hE]
  unfold doErr at hE
  simp only at hE
  by_cases h1 : nameOk s = true
  case neg =>
    have h1 : nameOk s = false := by simpa using h1
    rw [if_pos h1] at hE
    rw [h1] at HN
    have HE := Lib.hid hE
    clear h1 hE
    go_enter Tryz.func20, Tryz.ntmps20
    go_wp2_with fail
    refine HN.out.mono ?_
    rintro e w1 ⟨rfl, hb1⟩
    have hb2 := HB0.out.trans (hb1.mono HB0.out.size)
    go_wp2
    go_ret
    exact ⟨by rw [HE.out]; rfl, hb2⟩
  rw [if_neg (by simp [h1])] at hE
  rw [h1] at HN
  obtain ⟨q, hq⟩ : ∃ q, q = haveM L s := ⟨_, rfl⟩
  rw [← hq] at hE hbd2
  have HQ := Lib.hid hq
  clear hq h1
  by_cases h2 : mu = 0 ∨ mu < -1000000 ∨ 1000000 < mu
  · rw [if_pos h2] at hE
    have HE := Lib.hid hE
    have hcs : mu = 0 ∨ (mu ≠ 0 ∧ mu < -1000000) ∨ (mu ≠ 0 ∧ ¬ mu < -1000000 ∧ 1000000 < mu) := by omega
    clear h2 hE
    rcases hcs with g1 | ⟨g1, g2⟩ | ⟨g1, g2, g3⟩
    · have d1 : (mu == 0) = true := by simp [g1]
      clear g1
      go_enter Tryz.func20, Tryz.ntmps20
      go_wp2_with fail
      refine HN.out.mono ?_
      rintro e w1 ⟨rfl, hb1⟩
      have hb2 := HB0.out.trans (hb1.mono HB0.out.size)
      have b0 := (hb1.cell (lt_of_cell a0)).trans a0
      have b1 := (hb1.cell (lt_of_cell a1)).trans a1
      go_wp2
      go_ret
      exact ⟨by rw [HE.out]; rfl, hb2⟩
    · have d1 : (mu == 0) = false := by simp [g1]
      have d2 := decide_eq_true g2
      clear g1 g2
      go_enter Tryz.func20, Tryz.ntmps20
      go_wp2_with fail
      refine HN.out.mono ?_
      rintro e w1 ⟨rfl, hb1⟩
      have hb2 := HB0.out.trans (hb1.mono HB0.out.size)
      have b0 := (hb1.cell (lt_of_cell a0)).trans a0
      have b1 := (hb1.cell (lt_of_cell a1)).trans a1
      go_wp2
      go_ret
      exact ⟨by rw [HE.out]; rfl, hb2⟩
    · have d1 : (mu == 0) = false := by simp [g1]
      have d2 := decide_eq_false g2
      have d3 := decide_eq_true g3
      clear g1 g2 g3
      go_enter Tryz.func20, Tryz.ntmps20
      go_wp2_with fail
      refine HN.out.mono ?_
      rintro e w1 ⟨rfl, hb1⟩
      have hb2 := HB0.out.trans (hb1.mono HB0.out.size)
      have b0 := (hb1.cell (lt_of_cell a0)).trans a0
      have b1 := (hb1.cell (lt_of_cell a1)).trans a1
      go_wp2
      go_ret
      exact ⟨by rw [HE.out]; rfl, hb2⟩
  rw [if_neg h2] at hE
  have d1 : (mu == 0) = false := by simp; omega
  have d2 : decide (mu < -1000000) = false := decide_eq_false (by omega)
  have d3 : decide ((1000000 : Int) < mu) = false := decide_eq_false (by omega)
  have hwq : IntKind.i64.wrap (q + mu) = q + mu := IntWalk.i64_in _ (by omega)
  have HE := Lib.hid hE
  clear hE h2
  go_enter Tryz.func20, Tryz.ntmps20
  go_wp2_with fail
  refine HN.out.mono ?_
  rintro e w1 ⟨rfl, hb1⟩
  have hb2 := HB0.out.trans (hb1.mono HB0.out.size)
  have b0 := (hb1.cell (lt_of_cell a0)).trans a0
  have b1 := (hb1.cell (lt_of_cell a1)).trans a1
  have H1 := H0.out.at hb1
  have e0 := H1.c0
  have e2 := H1.c2
  have hk : ∀ q', (Instr.lookup 24 mv (strV s) false).run Tryz.prog (w1.drewN q') = .ok (.int .i64 q) (w1.drewN q') := fun q' => by
    rw [HQ.out]
    exact look_have (H1.at (below_drewN w1 q' _)).have' s hm
  clear H1 a0 a1 hb1
  go_wp2
  go_quiet (fail)
  by_cases hlow : q + mu < 0
  · have hdl := decide_eq_true hlow
    have HE' : E = 8 := by rw [HE.out, if_pos hlow]
    have HEE := Lib.hid HE'
    clear hlow HE HE'
    rw [hdl]
    go_wp2
    go_ret
    exact ⟨by rw [HEE.out]; rfl, hb2.trans (below_drewN w1 _ _)⟩
  have hdl := decide_eq_false hlow
  rw [if_neg hlow] at HE
  clear hlow
  rw [hdl]
  by_cases hful : L.length = 500
  · have hdf : ((L.length : Int) == 500) = true := by simp [hful]
    have HE' : E = 4 := by rw [HE.out, if_pos (by omega)]
    have HEE := Lib.hid HE'
    clear hful HE HE'
    go_wp2
    go_ret
    exact ⟨by rw [HEE.out]; rfl, hb2.trans (below_drewN w1 _ _)⟩
  have hdf : ((L.length : Int) == 500) = false := by simp; omega
  have HE' : E = 0 := by rw [HE.out, if_neg (by omega)]
  have HEE := Lib.hid HE'
  clear hful HE HE'
  go_wp2
  go_ret
  exact ⟨by rw [HEE.out]; rfl, hb2.trans (below_drewN w1 _ _)⟩
end Go.Proofs.YtannijeiecmjpaaGreatDoor
