/- The reference's LotsPlan (11.2), whole. -/
import Derived.Test.YtfaklhkdfpfjgaaDoorRefPlan
namespace Go.Proofs.YtfaklhkdfpfjgaaDoor
open Go.RowKit

def RefPlanPost (W O K : List Int) (w : World) (e : Ending) (w' : World) : Prop :=
  ∃ a cap c p, bestT W O K W.length = some (c, p) ∧ e = .returned (.tuple #[.slice a W.length cap, .int .i64 c]) ∧ Elems encI 1 w' a (placeT W (List.replicate W.length 0) W.length p) ∧ Below w.heap.size w w'
/-- The boxes that are laid first. -/
theorem plan_start (w : World) (vW vO vK : Value) : ∃ X, X = (((w.alloc (.cells #[vW, vO, vK] 71)).alloc (.cells #[.int .i64 (-1)] 3)).alloc (.cells #[.slice none 0 0] 50)) ∧ X.heap.size = w.heap.size + 3 ∧ Below w.heap.size w X ∧
    (X.cell? ⟨w.heap.size, 0, none⟩ = some vW ∧ X.cell? ⟨w.heap.size, 1, none⟩ = some vO ∧ X.cell? ⟨w.heap.size, 2, none⟩ = some vK) ∧
    X.ownsRow (w.heap.size + 1) 3 1 (.slice (some ⟨w.heap.size + 1, 0, none⟩) 1 1) 1 [.int .i64 (-1)] ∧ X.ownsRow (w.heap.size + 2) 50 1 (.slice (some ⟨w.heap.size + 2, 0, none⟩) 1 1) 1 [.slice none 0 0] := by
  obtain ⟨X, hX⟩ : ∃ X, X = (((w.alloc (.cells #[vW, vO, vK] 71)).alloc (.cells #[.int .i64 (-1)] 3)).alloc (.cells #[.slice none 0 0] 50)) := ⟨_, rfl⟩
  refine ⟨X, hX, ?_⟩
  subst hX
  refine ⟨by simp, (((Below.refl _ _).alloc (Nat.le_refl _) _).alloc (by simp) _).alloc (by simp; omega) _, ⟨cell_a2 (by simp) _ _, cell_a2 (by simp) _ _, cell_a2 (by simp) _ _⟩, ?_, ?_⟩
  · have h := World.ownsRow_lit (e := 3) (base := w.heap.size + 1) (size := 1) (w.alloc (.cells #[vW, vO, vK] 71)) #[Value.int .i64 (-1)] 1 (by simp) (by unfold maxLen; omega) rfl
    have h2 := h.alloc (.cells #[.slice none 0 0] 50)
    simpa using h2
  · have h := World.ownsRow_lit (e := 50) (base := w.heap.size + 2) (size := 1) ((w.alloc (.cells #[vW, vO, vK] 71)).alloc (.cells #[.int .i64 (-1)] 3)) #[Value.slice none 0 0] 1 (by simp) (by unfold maxLen; omega) rfl
    simpa using h
theorem plan_boxes {w2 : World} {N n : Nat} {vW vO vK : Value} {D : List Int} (hs : N + 4 ≤ w2.heap.size) (h1 : w2.cell? ⟨N, 0, none⟩ = some vW ∧ w2.cell? ⟨N, 1, none⟩ = some vO ∧ w2.cell? ⟨N, 2, none⟩ = some vK)
    (h2 : w2.ownsRow (N + 1) 3 1 (.slice (some ⟨N + 1, 0, none⟩) 1 1) 1 [.int .i64 (-1)]) (h3 : w2.ownsRow (N + 2) 50 1 (.slice (some ⟨N + 2, 0, none⟩) 1 1) 1 [.slice none 0 0]) (h4 : w2.ownsRow (N + 3) 3 1 (.slice (some ⟨N + 3, 0, none⟩) n n) n (D.map (Value.int .i64))) (t : TypeId) :
    PlanAt ((w2.alloc (.cells #[.slice (some ⟨N + 3, 0, none⟩) n n] 50)).alloc (.cells #[walkV N w2.heap.size (w2.heap.size + 1)] t)) N w2.heap.size (w2.heap.size + 1) (w2.heap.size + 2) n vW vO vK D none ∧ OrdB N w2.heap.size (w2.heap.size + 1) (w2.heap.size + 2) := by
  refine ⟨⟨⟨cell_a2 h1.1 _ _, cell_a2 h1.2.1 _ _, cell_a2 h1.2.2 _ _⟩, ⟨?_, ?_⟩, (h2.alloc _).alloc _, (h4.alloc _).alloc _, .slice none 0 0, (h3.alloc _).alloc _, World.ownsRow_nil _ _ _ _⟩, by unfold OrdB; omega⟩
  · exact cell_a1 (by simp) _
  · simp
set_option maxRecDepth 100000 in
set_option maxHeartbeats 8000000 in
theorem refPlan_any (aW aO aK : Option Addr) (cW cO cK : Nat) (W O K : List Int) (w : World) (hN : needErr W O K = 0) (h9 : W.length ≤ 9) (hW : Elems encI 1 w aW W) (hO : Elems encI 1 w aO O) (hK : Elems encI 1 w aK K) :
    Calls Tryd.prog 38 #[.agg #[.slice aW W.length cW, .slice aO O.length cO, .slice aK K.length cK]] w (RefPlanPost W O K w) := by
  obtain ⟨_, lO, lK, bW, bO, bK⟩ := need_ok hN
  obtain ⟨c, p, hbt, hc0, _⟩ := bestT_some bW bO bK lO lK h9 W.length W.length (Nat.le_refl _) (Nat.le_refl _)
  have HBT := Lib.hid hbt
  obtain ⟨X, hX, hXs, hXb, hX1, hX2, hX3⟩ := plan_start w (.slice aW W.length cW) (.slice aO O.length cO) (.slice aK K.length cK)
  have HX := Lib.hid (And.intro hXs (And.intro hXb (And.intro hX1 (And.intro hX2 hX3))))
  have HWALK := Lib.hid (planWalk w aW aO aK cW cO cK W O K hN h9 hW hO hK)
  clear hbt hW hO hK hN hXs hXb hX1 hX2 hX3 lO lK bW bO bK
  have HXE := Lib.hid hX
  clear hX
  go_enter Tryd.func38, Tryd.ntmps38
  go_wp2_with (at_make; refine make_row _ rowAI rfl _ _ rfl (w.heap.size + 3) _ _ _ _ W.length rfl rfl rfl rfl (by omega) (by unfold maxLen; omega) (by simp) ?_)
  intro w2 hown hb2
  rw [made_ints] at hown
  rw [← HXE.out] at hb2
  have hown2 : w2.ownsRow (w.heap.size + 3) 3 1 (.slice (some ⟨w.heap.size + 3, 0, none⟩) W.length W.length) W.length ((List.replicate W.length (0 : Int)).map (Value.int .i64)) := hown
  have hs2 : w.heap.size + 4 ≤ w2.heap.size := (owns_base hown2).2
  obtain ⟨q1, q2, q3, q4, q5⟩ := HX.out
  have hb2' : Below X.heap.size X w2 := by rw [q1]; exact hb2
  obtain ⟨hP, hOrd⟩ := plan_boxes hs2 ⟨(hb2'.cell (lt_of_cell q3.1)).trans q3.1, (hb2'.cell (lt_of_cell q3.2.1)).trans q3.2.1, (hb2'.cell (lt_of_cell q3.2.2)).trans q3.2.2⟩ (owns_at q4 hb2') (owns_at q5 hb2') hown2 151
  have hb02 := q2.trans (hb2'.mono (by omega))
  have hbF : Below w.heap.size w ((w2.alloc (.cells #[.slice (some ⟨w.heap.size + 3, 0, none⟩) W.length W.length] 50)).alloc (.cells #[walkV w.heap.size w2.heap.size (w2.heap.size + 1)] 151)) := (hb02.alloc (by omega) _).alloc (by simp; omega) _
  have HC := Lib.hid (HWALK.out _ _ _ hOrd (W.length + 1) W.length (List.replicate W.length 0) none 0 _ (by omega) (Nat.le_refl _) (by simp) (fun j _ => by simp [List.getD, List.getElem?_replicate]; split <;> rfl) (suff_end W O K _ (by simp)) (Int.le_refl _) (by simp) (fun x hx => by cases hx) hP (by simp) hbF)
  have eg := eg_plan1
  clear hown hown2 hb2 q1 q2 q3 q4 q5 hb2' hP hOrd hbF hb02
  go_wp2_with fail
  rw [show w.heap.size + 1 + 1 + 1 = w.heap.size + 3 from rfl, show w.heap.size + 1 + 1 = w.heap.size + 2 from rfl]
  refine HC.out.mono ?_
  intro e w3 hw
  unfold WalkPost at hw
  obtain ⟨rfl, hP3, _, hb3⟩ := hw
  rw [HBT.out] at hP3
  obtain ⟨_, _, h6, _, vp, h8, h9'⟩ := hP3
  replace h6 : w3.ownsRow (w.heap.size + 1) 3 1 (.slice (some ⟨w.heap.size + 1, 0, none⟩) 1 1) 1 [.int .i64 (c + 0)] := h6
  rw [Int.add_zero] at h6
  replace h9' : w3.ownsRow (w2.heap.size + 2) 3 1 vp (placeT W (List.replicate W.length 0) W.length p).length ((placeT W (List.replicate W.length 0) W.length p).map (Value.int .i64)) := h9'
  obtain ⟨a5, c5, rfl, he5, _⟩ := ints_of_owns rfl h9'
  rw [placeT_len, List.length_replicate] at h8
  have c6 : w3.cell? ⟨w.heap.size + 1, 0, none⟩ = some (.int .i64 c) := h6.cellAt 0 (by omega)
  have c8 : w3.cell? ⟨w.heap.size + 1 + 1, 0, none⟩ = some (.slice a5 W.length c5) := h8.cellAt 0 (by omega)
  have HE := Lib.hid (And.intro he5 hb3)
  clear h6 h8 h9' he5 hb3 HC eg
  go_wp2
  go_quiet (fail)
  go_wp2
  go_ret2
  unfold RefPlanPost
  exact ⟨a5, c5, c, p, HBT.out, rfl, HE.out.1, below_drewN' HE.out.2 _⟩
end Go.Proofs.YtfaklhkdfpfjgaaDoor
