/- The reference's Round (19.2): the boxes, and what comes of them. -/
import Derived.Test.YtfaklhkdfpfjgaaDoorRefRound
namespace Go.Proofs.YtfaklhkdfpfjgaaDoor
open Go.RowKit

theorem rowBB : RowOf Tryd.prog 40 4 (.bool false) 1 1 := rowOf Tryd.underlying40 (by kernel_rfl) rfl (by decide)
/-- What Walks lays ahead of the search. -/
theorem walks_lay {w : World} {N n : Nat} {a : Option Addr} {cap : Nat} {Z : Array Value} (hs : w.heap.size = N + 3) (hc : w.cell? ⟨N, 0, none⟩ = some (.slice a n cap)) (hO : OutBox w N (N + 9) none (.slice none 0 0))
    (hZ : ∀ (w : World) (base : Nat), base ≤ w.heap.size → (w.alloc (.cells Z 4)).ownsRow base 4 1 (.slice (some ⟨w.heap.size, 0, none⟩) n n) n ((tabB n (fun _ => false)).map Value.bool)) (t1 t2 : TypeId) :
    WalksAt ((((((w.alloc (.cells #[.int .i64 (n : Int)] 3)).alloc (.cells #[fnV N] t1)).alloc (.cells #[.slice none 0 0] 50)).alloc (.cells Z 4)).alloc (.cells #[.slice (some ⟨N + 6, 0, none⟩) n n] 40)).alloc (.cells #[wkV N] t2)) N n a cap [] (fun _ => false) none := by
  obtain ⟨o1, o2, o3⟩ := hO
  have hcn : ∀ (w : World) (v : Value) (t : TypeId) (g : Nat), g = w.heap.size → (w.alloc (.cells #[v] t)).cell? ⟨g, 0, none⟩ = some v := fun w v t g hg => by rw [hg]; simp
  have hrow : (((w.alloc (.cells #[.int .i64 (n : Int)] 3)).alloc (.cells #[fnV N] t1)).alloc (.cells #[.slice none 0 0] 50)).ownsRow (N + 5) 50 1 (.slice (some ⟨N + 5, 0, none⟩) 1 1) 1 [.slice none 0 0] := by
    have h := World.ownsRow_lit (e := 50) (base := N + 5) (size := 1) ((w.alloc (.cells #[.int .i64 (n : Int)] 3)).alloc (.cells #[fnV N] t1)) #[Value.slice none 0 0] 1 (by simp [hs]) (by unfold maxLen; omega) rfl
    simpa [hs] using h
  have hused : ((((w.alloc (.cells #[.int .i64 (n : Int)] 3)).alloc (.cells #[fnV N] t1)).alloc (.cells #[.slice none 0 0] 50)).alloc (.cells Z 4)).ownsRow (N + 6) 4 1 (.slice (some ⟨N + 6, 0, none⟩) n n) n ((tabB n (fun _ => false)).map Value.bool) := by
    have h := hZ (((w.alloc (.cells #[.int .i64 (n : Int)] 3)).alloc (.cells #[fnV N] t1)).alloc (.cells #[.slice none 0 0] 50)) (N + 6) (by simp [hs])
    simpa [hs] using h
  refine ⟨.slice none 0 0, .slice none 0 0, ⟨?_, ?_, ?_, ?_, ?_⟩, ⟨(((((o1.alloc _).alloc _).alloc _).alloc _).alloc _).alloc _, (((((o2.alloc _).alloc _).alloc _).alloc _).alloc _).alloc _, World.ownsRow_nil _ _ _ _⟩, ((hrow.alloc _).alloc _).alloc _, World.ownsRow_nil _ _ _ _, Or.inl rfl, (hused.alloc _).alloc _, by simp [hs]⟩
  · exact cell_a3 (cell_a3 hc _ _ _) _ _ _
  · exact cell_a3 (cell_a2 (hcn w _ _ _ hs.symm) _ _) _ _ _
  · exact cell_a3 (cell_a1 (hcn _ _ _ _ (by simp [hs])) _) _ _ _
  · exact cell_a1 (hcn _ _ _ _ (by simp [hs])) _
  · exact hcn _ _ _ _ (by simp [hs])
set_option maxRecDepth 100000 in
set_option maxHeartbeats 8000000 in
theorem walks_any (w0 : World) (a : Option Addr) (cap : Nat) (A : List (List Int)) (hM : mapCheck A = 0) (hA6 : A.length ≤ 6) (hr : Rows2 w0 a A) (w : World) (hs : w.heap.size = w0.heap.size + 3) (hc : w.cell? ⟨w0.heap.size, 0, none⟩ = some (.slice a A.length cap)) (hO : OutBox w w0.heap.size (w0.heap.size + 9) none (.slice none 0 0)) (hb : Below w0.heap.size w0 w) :
    Calls Tryd.prog 87 #[.int .i64 A.length, fnV w0.heap.size] w fun e w' => e = .returned (.tuple #[]) ∧ Below w0.heap.size w0 w' ∧ ∃ row U, WalksAt w' w0.heap.size A.length a cap row U (topR A) := by
  obtain ⟨Z, hmk, hrow⟩ := made_row rowBB A.length (A.length : Int) rfl (by omega) (by unfold maxLen; omega)
  have hZ : ∀ (w : World) (base : Nat), base ≤ w.heap.size → (w.alloc (.cells Z 4)).ownsRow base 4 1 (.slice (some ⟨w.heap.size, 0, none⟩) A.length A.length) A.length ((tabB A.length (fun _ => false)).map Value.bool) := fun w base h => by
    have h1 := hrow w base h
    rw [show (madeCells (Value.bool false).cells (A.length * 1)).toList = (madeCells #[Value.bool false] A.length).toList by simp [Value.cells], made_bools] at h1
    exact h1
  have hlay := walks_lay hs hc hO hZ 161 189
  have hbl : Below w0.heap.size w0 ((((((w.alloc (.cells #[.int .i64 (A.length : Int)] 3)).alloc (.cells #[fnV w0.heap.size] 161)).alloc (.cells #[.slice none 0 0] 50)).alloc (.cells Z 4)).alloc (.cells #[.slice (some ⟨w0.heap.size + 6, 0, none⟩) A.length A.length] 40)).alloc (.cells #[wkV w0.heap.size] 189)) :=
    (((((hb.alloc (by omega) _).alloc (by simp; omega) _).alloc (by simp; omega) _).alloc (by simp; omega) _).alloc (by simp; omega) _).alloc (by simp; omega) _
  have HT := Lib.hid (walkTop w0 a cap A hM hA6 hr [] (fun _ => false) _ rfl (fun _ => rfl) hlay hbl)
  have eg := eg_walks1
  have HS := Lib.hid hs
  clear hlay hbl hZ hrow hO hc hr hM hb hs
  unfold fnV
  go_enter Tryd.func87, Tryd.ntmps87
  go_wp2_with fail
  rw [HS.out]
  rw [show w0.heap.size + 3 + 1 + 1 + 1 + 1 + 1 = w0.heap.size + 8 from rfl, show w0.heap.size + 3 + 1 + 1 + 1 + 1 = w0.heap.size + 7 from rfl, show w0.heap.size + 3 + 1 + 1 + 1 = w0.heap.size + 6 from rfl, show w0.heap.size + 3 + 1 + 1 = w0.heap.size + 5 from rfl, show w0.heap.size + 3 + 1 = w0.heap.size + 4 from rfl]
  unfold wkArgs fnV wkV at HT
  refine HT.out.mono ?_
  intro e w1 hw
  unfold WalkTPost at hw
  obtain ⟨hb1, b, rfl, row, U, hW⟩ := hw
  have HW := Lib.hid (And.intro hb1 hW)
  clear hb1 hW HT
  go_wp2
  go_end0
  exact ⟨rfl, HW.out.1, row, U, HW.out.2⟩
def RefRoundPost (A : List (List Int)) (w : World) (e : Ending) (w' : World) : Prop :=
  ∃ ar cr c row, topR A = some (c, row) ∧ e = .returned (.tuple #[.slice ar row.length cr, .int .i64 c]) ∧ Elems encI 1 w' ar row ∧ Below w.heap.size w w'
theorem round_lay (w : World) (v : Value) (T : TypeId) : ∃ X, X = (((w.alloc (.cells #[v] T)).alloc (.cells #[.int .i64 (-1)] 3)).alloc (.cells #[.slice none 0 0] 50)) ∧ X.heap.size = w.heap.size + 3 ∧ X.cell? ⟨w.heap.size, 0, none⟩ = some v ∧ OutBox X w.heap.size (w.heap.size + 9) none (.slice none 0 0) ∧ Below w.heap.size w X := by
  obtain ⟨X, hX⟩ : ∃ X, X = (((w.alloc (.cells #[v] T)).alloc (.cells #[.int .i64 (-1)] 3)).alloc (.cells #[.slice none 0 0] 50)) := ⟨_, rfl⟩
  refine ⟨X, hX, ?_⟩
  subst hX
  refine ⟨by simp, cell_a2 (by simp) _ _, ⟨?_, ?_, World.ownsRow_nil _ _ _ _⟩, (((Below.refl _ _).alloc (Nat.le_refl _) _).alloc (by simp) _).alloc (by simp; omega) _⟩
  · have h := World.ownsRow_lit (e := 3) (base := w.heap.size + 1) (size := 1) (w.alloc (.cells #[v] T)) #[Value.int .i64 (-1)] 1 (by simp) (by unfold maxLen; omega) rfl
    have h2 := h.alloc (.cells #[.slice none 0 0] 50)
    simpa [numR] using h2
  · have h := World.ownsRow_lit (e := 50) (base := w.heap.size + 2) (size := 1) ((w.alloc (.cells #[v] T)).alloc (.cells #[.int .i64 (-1)] 3)) #[Value.slice none 0 0] 1 (by simp) (by unfold maxLen; omega) rfl
    simpa using h
theorem topR_some {A : List (List Int)} (hM : mapCheck A = 0) (hA6 : A.length ≤ 6) : ∃ c row, topR A = some (c, row) := by
  unfold topR
  by_cases h0 : A.length = 0
  · rw [if_pos h0]; exact ⟨_, _, rfl⟩
  · rw [if_neg h0]
    by_cases h1 : A.length = 1
    · rw [if_pos h1]; exact ⟨_, _, rfl⟩
    · rw [if_neg h1]
      obtain ⟨c, p, h6, _⟩ := bestS_some (map_ok hM).2 hA6 rfl (2 ^ A.length - 2) (2 ^ A.length - 2) 0 (Nat.le_refl _) (by have : 0 < 2 ^ A.length := Nat.two_pow_pos _; omega) (by omega)
      rw [h6]
      exact ⟨_, _, rfl⟩
set_option maxRecDepth 100000 in
set_option maxHeartbeats 8000000 in
theorem refRound_any (a : Option Addr) (cap : Nat) (A : List (List Int)) (w : World) (hM : mapCheck A = 0) (hA6 : A.length ≤ 6) (hr : Rows2 w a A) :
    Calls Tryd.prog 47 #[.slice a A.length cap] w (RefRoundPost A w) := by
  obtain ⟨c, row, htop⟩ := topR_some hM hA6
  obtain ⟨X, hX, hXs, hXc, hXo, hXb⟩ := round_lay w (.slice a A.length cap) 96
  have HW := Lib.hid (walks_any w a cap A hM hA6 hr X hXs hXc hXo hXb)
  have HX := Lib.hid hX
  have HTOP := Lib.hid htop
  clear hr hM hXs hXo hXb htop
  go_enter Tryd.func47, Tryd.ntmps47
  go_wp2_with fail
  rw [show w.heap.size + 1 + 1 = w.heap.size + 2 from rfl, ← HX.out]
  unfold fnV at HW
  refine HW.out.mono ?_
  rintro e w1 ⟨rfl, hb1, row1, U1, hW1⟩
  rw [HTOP.out] at hW1
  obtain ⟨vr, vp, _, ⟨o1, o2, o3⟩, _⟩ := hW1
  have c6 : w1.cell? ⟨w.heap.size + 1, 0, none⟩ = some (.int .i64 c) := o1.cellAt 0 (by omega)
  have c8 : w1.cell? ⟨w.heap.size + 2, 0, none⟩ = some vp := o2.cellAt 0 (by omega)
  obtain ⟨ar, cr, rfl, _, he, _⟩ := owns_slice (xs := row) rfl o3
  have HE := Lib.hid (And.intro he hb1)
  clear o1 o2 o3 he hb1 HW hX hXc
  go_wp2
  go_quiet (fail)
  go_wp2
  go_ret2
  unfold RefRoundPost
  exact ⟨ar, cr, c, row, HTOP.out, rfl, HE.out.1, below_drewN' HE.out.2 _⟩
end Go.Proofs.YtfaklhkdfpfjgaaDoor
