/- The law LotsCost: what orders cost, or what is wrong with them, is the reference's; so is what is wrong with the need. -/
import Derived.Test.YtgcocjfbppkgbaaDoorLotsCost
import Derived.Test.YtgcocjfbppkgbaaDoorWhole
namespace Go.Proofs.YtgcocjfbppkgbaaDoor
open Go.RowKit

theorem lotsM_err (W O K X : List Int) (h : (lotsM W O K X).2 ≠ 0) : (lotsM W O K X).1 = 0 := by
  have key : ∀ n h s, (lotsFrom W O K X n h s).2 ≠ 0 → (lotsFrom W O K X n h s).1 = 0 := by
    intro n
    induction n with
    | zero =>
      intro h s hh
      unfold lotsFrom at hh ⊢
      by_cases hz : 0 < h
      · rw [if_pos hz]
      · rw [if_neg hz] at hh; exact absurd rfl hh
    | succ n ih =>
      intro h s hh
      unfold lotsFrom at hh ⊢
      by_cases h1 : X.getD (X.length - (n + 1)) 0 < 0 ∨ 50000000 < X.getD (X.length - (n + 1)) 0
      · rw [if_pos h1]
      · rw [if_neg h1] at hh ⊢
        by_cases h2 : h + X.getD (X.length - (n + 1)) 0 - W.getD (X.length - (n + 1)) 0 < 0
        · rw [if_pos h2]
        · rw [if_neg h2] at hh ⊢
          exact ih _ _ hh
  unfold lotsM at h ⊢
  by_cases h1 : needErr W O K ≠ 0
  · rw [if_pos h1]
  · rw [if_neg h1] at h ⊢
    by_cases h2 : X.length ≠ W.length
    · rw [if_pos h2]
    · rw [if_neg h2] at h ⊢
      exact key _ _ _ h

abbrev Boxes (w' : World) (b c : Nat) (v0 v1 v2 : Value) : Prop := w'.cell? ⟨b, 0, none⟩ = some v0 ∧ w'.cell? ⟨b, 1, none⟩ = some v1 ∧ w'.cell? ⟨b, 2, none⟩ = some v2 ∧ w'.cell? ⟨c, 0, none⟩ = some v0 ∧ w'.cell? ⟨c, 1, none⟩ = some v1 ∧ w'.cell? ⟨c, 2, none⟩ = some v2
theorem boxes_keep {w w' : World} {v0 v1 v2 : Value} {t t2 : TypeId} (hb : Below ((w.alloc (Obj.cells #[v0, v1, v2] t)).alloc (Obj.cells #[v0, v1, v2] t2)).heap.size ((w.alloc (Obj.cells #[v0, v1, v2] t)).alloc (Obj.cells #[v0, v1, v2] t2)) w') :
    Boxes w' w.heap.size (w.heap.size + 1) v0 v1 v2 := by
  refine ⟨?_, ?_, ?_, ?_, ?_, ?_⟩ <;> (rw [hb.cell (by simp; try omega)]; simp)

set_option maxRecDepth 100000 in
set_option maxHeartbeats 4000000 in
theorem lotsCost_law (aW aO aV aX : Option Addr) (nW nO nV nX cW cO cV cX : Nat) (W O V X : List Int) (w : World) (hg : Hnd w) (lW : nW = W.length) (lO : nO = O.length) (lV : nV = V.length) (lX : nX = X.length) (mW : nW ≤ maxLen) (mO : nO ≤ maxLen) (mV : nV ≤ maxLen) (mX : nX ≤ maxLen)
    (hW : Elems encI 1 w aW W) (hO : Elems encI 1 w aO O) (hV : Elems encI 1 w aV V) (hX : Elems encI 1 w aX X) :
    Calls Tryd.prog 11 #[.slice aW nW cW, .slice aO nO cO, .slice aV nV cV, .slice aX nX cX] w fun e w' => e = .returned (.bool true) ∧ Below w.heap.size w w' := by
  subst lW; subst lO; subst lV; subst lX
  unfold maxLen at mW mO mV mX
  by_cases bW : 80 < W.length
  · go_enter Tryd.func11, Tryd.ntmps11
    go_wp2
    go_ret
    exact ⟨rfl, Below.refl _ _⟩
  by_cases bO : 80 < O.length
  · go_enter Tryd.func11, Tryd.ntmps11
    go_wp2
    go_ret
    exact ⟨rfl, Below.refl _ _⟩
  by_cases bV : 80 < V.length
  · go_enter Tryd.func11, Tryd.ntmps11
    go_wp2
    go_ret
    exact ⟨rfl, Below.refl _ _⟩
  by_cases bX : 80 < X.length
  · go_enter Tryd.func11, Tryd.ntmps11
    go_wp2
    go_ret
    exact ⟨rfl, Below.refl _ _⟩
  have H1 := fun w hg1 hg2 hg3 hg4 => refLots_any aW aO aV aX _ _ _ _ cW cO cV cX W O V X w rfl rfl rfl rfl (by omega) (by omega) hg1 hg2 hg3 hg4
  have H2 := fun w hg1 hg2 hg3 hg4 => lotsCost_any aW aO aV aX _ _ _ _ cW cO cV cX W O V X w rfl rfl rfl rfl (by omega) (by omega) (by omega) (by omega) hg1 hg2 hg3 hg4
  have HZ := Lib.hid (lotsM_err W O V X)
  generalize lotsM W O V X = R at *
  obtain ⟨r, er⟩ := R
  simp only at H1 H2
  have hb0 : Below w.heap.size w ((w.alloc (Obj.cells #[.slice aW W.length cW, .slice aO O.length cO, .slice aV V.length cV] 74)).alloc (Obj.cells #[.slice aW W.length cW, .slice aO O.length cO, .slice aV V.length cV] 75)) := ((Below.refl _ _).alloc (Nat.le_refl _) _).alloc (by simp) _
  go_enter Tryd.func11, Tryd.ntmps11
  go_wp2_with fail
  refine (H1 _ (hW.at hb0) (hO.at hb0) (hV.at hb0) (hX.at hb0)).mono ?_
  rintro e w1 ⟨rfl, hb1⟩
  obtain ⟨a0, a1, a2, a3, a4, a5⟩ := boxes_keep hb1
  have k1 := hb0.trans (hb1.mono hb0.size)
  go_wp2_with fail
  refine (H2 _ (hW.at k1) (hO.at k1) (hV.at k1) (hX.at k1)).mono ?_
  rintro e w2 ⟨rfl, hb2⟩
  clear a0 a1 a2 a3 a4 a5 k1 H1 H2
  have h02 := below_next hb1 hb2
  obtain ⟨a0, a1, a2, a3, a4, a5⟩ := boxes_keep h02
  have k2 := hb0.trans (h02.mono hb0.size)
  clear hb1 hb2 h02
  go_wp2_with fail
  have hqq : (needErr W O V == needErr W O V) = true := by simp
  have kD : Below w.heap.size w w2.drew := k2.trans ((Below.refl _ _).drew)
  have kB := Below.refl w2.drew.heap.size w2.drew
  go_region_held3 (fun w' => w'.cell? ⟨w.heap.size, 0, none⟩ = some (.slice aW W.length cW) ∧ w'.cell? ⟨w.heap.size, 1, none⟩ = some (.slice aO O.length cO) ∧ w'.cell? ⟨w.heap.size, 2, none⟩ = some (.slice aV V.length cV) ∧ w'.cell? ⟨w.heap.size + 1, 0, none⟩ = some (.slice aW W.length cW) ∧ w'.cell? ⟨w.heap.size + 1, 1, none⟩ = some (.slice aO O.length cO) ∧ w'.cell? ⟨w.heap.size + 1, 2, none⟩ = some (.slice aV V.length cV) ∧ Below w.heap.size w w')
    (first
      | exact ⟨a0, a1, a2, a3, a4, a5, kD⟩
      | exact ⟨(kB.cell (lt_of_cell a0)).trans a0, (kB.cell (lt_of_cell a1)).trans a1, (kB.cell (lt_of_cell a2)).trans a2, (kB.cell (lt_of_cell a3)).trans a3, (kB.cell (lt_of_cell a4)).trans a4, (kB.cell (lt_of_cell a5)).trans a5, below_next kD kB⟩)
    (first
      | (go_at_call 45; refine (needCheck_any _ _ _ _ _ _ _ _ _ W O V _ rfl rfl rfl (by omega) (by omega) (by omega) (hW.at (below_next kD kB)) (hO.at (below_next kD kB)) (hV.at (below_next kD kB))).mono ?_; rintro e wN ⟨rfl, hbN⟩; replace kB := below_next kB hbN)
      | (go_at_call 46; refine (refNeed_any _ _ _ _ _ _ _ _ _ W O V _ rfl rfl rfl (by omega) (hW.at (below_next kD kB)) (hO.at (below_next kD kB)) (hV.at (below_next kD kB))).mono ?_; rintro e wN ⟨rfl, hbN⟩; replace kB := below_next kB hbN)
      | (go_at_call 17; refine (tell_any _ _ (hg.at (below_next kD kB))).mono ?_; rintro e wN ⟨rfl, hbN⟩; replace kB := below_next kB hbN)
      | (go_at_call 30; refine (whole_any er r r _ (hg.at (below_next kD kB)) (fun _ => rfl) (fun h => HZ.out h)).mono ?_; rintro e wN ⟨rfl, hbN⟩; replace kB := below_next kB hbN))
  go_wp2
  go_ret
  exact ⟨rfl, below_next kD kB⟩
end Go.Proofs.YtgcocjfbppkgbaaDoor
