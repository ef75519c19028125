/- The reference's Round (19.2): its question about a row: is it shorter than the best so far. -/
import Derived.Test.YtfaklhkdfpfjgaaDoorRoundM
import Derived.Test.YtfaklhkdfpfjgaaDoorRefLong
import Derived.Test.YtfaklhkdfpfjgaaDoorAppI
import Derived.Test.YtfaklhkdfpfjgaaDoorRow2
namespace Go.Proofs.YtfaklhkdfpfjgaaDoor
open Go.RowKit

def planR (st : Option (Int × List Int)) : List Int := match st with | none => [] | some x => x.2
def numR (st : Option (Int × List Int)) : Int := match st with | none => -1 | some x => x.1
/-- The boxes of what is best so far. -/
def OutBox (w : World) (N Q : Nat) (st : Option (Int × List Int)) (vp : Value) : Prop :=
  w.ownsRow (N + 1) 3 1 (.slice (some ⟨N + 1, 0, none⟩) 1 1) 1 [.int .i64 (numR st)] ∧ w.ownsRow (N + 2) 50 1 (.slice (some ⟨N + 2, 0, none⟩) 1 1) 1 [vp] ∧ w.ownsRow Q 3 1 vp (planR st).length ((planR st).map (Value.int .i64))
theorem grownR_set (w : World) (b i : Nat) (v : Value) : w.grownBy (w.setCell ⟨b, i, none⟩ v) (some b) :=
  ⟨rfl, rfl, rfl, by simp [World.setCell], fun k _ hk => Below.heap_setCell _ _ _ _ (fun e => hk (by simp [e]))⟩
/-- What becomes of the world where a row is the best so far. -/
def Put2 (N : Nat) (w : World) (c : Int) (row : List Int) (w' : World) : Prop :=
  ∃ w1 v, Below w.heap.size w w1 ∧ w1.ownsRow w.heap.size 3 1 v row.length (row.map (Value.int .i64)) ∧ w' = (w1.setCell ⟨N + 1, 0, none⟩ (.int .i64 c)).setCell ⟨N + 2, 0, none⟩ v
theorem OutBox.put {w w' : World} {N Q : Nat} {st : Option (Int × List Int)} {vp : Value} {c : Int} {row : List Int} (h : OutBox w N Q st vp) (hQ : N + 2 < Q) (hs : Q ≤ w.heap.size) (hp : Put2 N w c row w') : ∃ v, OutBox w' N Q (some (c, row)) v ∧ ∀ g, v.ownBlock = some g → w.heap.size ≤ g := by
  obtain ⟨w1, v, hb, hv, rfl⟩ := hp
  obtain ⟨h1, h2, _⟩ := h
  have h1' := owns_at h1 hb
  have h2' := owns_at h2 hb
  obtain ⟨s1, g1⟩ := h1'.stored 0 (.int .i64 c)
  have h2b := h2'.kept g1 (Or.inr (by simp [Value.ownBlock]))
  have hvb := hv.kept g1 (Or.inr (fun hq => by have := (hv.lt _ hq).1; omega))
  obtain ⟨s2, g2⟩ := h2b.stored 0 v
  have hvc := hvb.kept g2 (Or.inr (fun hq => by have := (hvb.lt _ hq).1; omega))
  refine ⟨v, ⟨s1.kept g2 (Or.inr (by simp [Value.ownBlock])), s2, ⟨hvc.1, ?_⟩⟩, fun g hg => (hvc.lt g hg).1⟩
  rcases hvc.2 with k | ⟨g, cap, cur, k1, k2, k3⟩
  · exact Or.inl k
  · exact Or.inr ⟨g, cap, cur, k1, by omega, k3⟩
def RoundFPost (N : Nat) (A : List (List Int)) (row : List Int) (st : Option (Int × List Int)) (w : World) (e : Ending) (w' : World) : Prop :=
  if row ≠ [] ∧ 0 < row.getD 0 0 then e = .returned (.bool true) ∧ Below w.heap.size w w'
  else e = .returned (.bool false) ∧ ((better st (some (longM A row, row)) = st ∧ Below w.heap.size w w') ∨ (better st (some (longM A row, row)) = some (longM A row, row) ∧ Put2 N w (longM A row) row w'))

set_option maxRecDepth 100000 in
set_option maxHeartbeats 8000000 in
theorem roundFn_any (a ar : Option Addr) (cap cr N Q : Nat) (A : List (List Int)) (row : List Int) (st : Option (Int × List Int)) (vp : Value) (w : World) (hM : mapCheck A = 0) (hr : Rows2 w a A) (hB : ∀ x ∈ row, 0 ≤ x ∧ x < A.length) (hl : row.length ≤ 9) (hx : Elems encI 1 w ar row) (hn : ar = none → cr = 0)
    (hc : w.cell? ⟨N, 0, none⟩ = some (.slice a A.length cap)) (hO : OutBox w N Q st vp) (hok : ∀ x, st = some x → 0 ≤ x.1) :
    Calls Tryd.prog 88 #[.slice ar row.length cr, .pointer (some ⟨N, 0, none⟩), .pointer (some ⟨N + 1, 0, none⟩), .pointer (some ⟨N + 2, 0, none⟩)] w (RoundFPost N A row st w) := by
  have hL := refLong_any a ar _ _ cap cr A row w rfl rfl hM (by omega) hB hr hx
  obtain ⟨hA9, hA⟩ := map_ok hM
  by_cases hbad : row ≠ [] ∧ 0 < row.getD 0 0
  · have HBD := Lib.hid hbad
    have hl0 : 0 < row.length := List.length_pos_iff.2 hbad.1
    have h0 := hbad.2
    rw [getD_lt hl0] at h0
    obtain ⟨b, o, rfl, hcc⟩ := hx.some hl0
    have c1 := hcc 0 hl0 0 _ rfl
    simp only [Nat.add_zero, Nat.mul_one] at c1
    have hlz : (0 : Int) < (row.length : Int) := by omega
    clear hcc hx hL hB hbad hO hok hc
    generalize row[0] = x0 at *
    go_enter Tryd.func88, Tryd.ntmps88
    go_wp2
    go_ret
    unfold RoundFPost
    rw [if_pos HBD.out]
    exact ⟨rfl, Below.refl _ _⟩
  · have HBD := Lib.hid hbad
    have hcase : row.length = 0 ∨ ∃ b o, ar = some ⟨b, o, none⟩ ∧ 0 < row.length ∧ w.cell? ⟨b, o, none⟩ = some (.int .i64 (row.getD 0 0)) ∧ ¬ 0 < row.getD 0 0 := by
      by_cases hl0 : row.length = 0
      · exact Or.inl hl0
      · obtain ⟨b, o, hb, hcc⟩ := hx.some (show 0 < row.length by omega)
        have c1 := hcc 0 (by omega) 0 _ rfl
        simp only [Nat.add_zero, Nat.mul_one] at c1
        refine Or.inr ⟨b, o, hb, by omega, by rw [getD_lt (by omega)]; exact c1, fun h => hbad ⟨fun h2 => hl0 (by rw [h2]; rfl), h⟩⟩
    have HL := Lib.hid hL
    have HX := Lib.hid hx
    have HN := Lib.hid hn
    have HO := Lib.hid hO
    obtain ⟨lm, hlm⟩ : ∃ lm, lm = longM A row := ⟨_, rfl⟩
    rw [← hlm] at HL
    have HLM := Lib.hid hlm.symm
    clear hL hx hn hO hlm hbad hB hA hr hM
    rcases hcase with hl0 | ⟨b, o, rfl, hl0, c1, hng⟩
    · obtain rfl : row = [] := List.eq_nil_of_length_eq_zero hl0
      clear hl0
      go_enter Tryd.func88, Tryd.ntmps88
      go_wp2_with fail
      refine HL.out.mono ?_
      rintro e w1 ⟨rfl, hb1⟩
      have HB1 := Lib.hid hb1
      have c3 := (owns_at HO.out.1 hb1).cellAt 0 (by omega)
      clear hb1 HL
      cases st with
      | none =>
        replace c3 : w1.cell? ⟨N + 1, 0, none⟩ = some (.int .i64 (-1)) := c3
        have HBE : Hid (better none (some (lm, ([] : List Int))) = some (lm, ([] : List Int))) := Lib.hid rfl
        have hemp : (w1.alloc (.cells #[] 3)).ownsRow w.heap.size 3 1 (.slice (some ⟨w1.heap.size, 0, none⟩) 0 0) 0 [] := World.ownsRow_lit w1 #[] 0 HB1.out.size (by omega) rfl
        have hba := (Below.refl w1.heap.size w1).alloc (Nat.le_refl _) (.cells #[] 3)
        have hel := (HX.out.at HB1.out).at hba
        have hbase : w.heap.size ≤ (w1.alloc (.cells #[] 3)).heap.size := by have := HB1.out.size; simp; omega
        go_wp2_with (at_builtin; refine app_allI rowAI rfl _ _ rfl w.heap.size rfl hemp ar 0 cr [] rfl rfl HN.out hel (by unfold maxLen; omega) (by omega) hbase ?_)
        intro v2 w2 hown2 hb2
        have hown3 : w2.ownsRow w.heap.size 3 1 v2 ([] : List Int).length (([] : List Int).map (Value.int .i64)) := by simpa using hown2
        have hB2 : Below w.heap.size w w2 := HB1.out.trans ((hba.mono HB1.out.size).trans hb2)
        obtain ⟨k1, k2, _⟩ := HO.out
        have q1 := (owns_at k1 hB2).cellAt 0 (by omega)
        have q2 := (owns_at k1 hB2).frozenAt 0
        have q3 := (owns_at k2 hB2).cellAt 0 (by omega)
        have q4 := (owns_at k2 hB2).frozenAt 0
        obtain ⟨a5, c5, rfl, _, _⟩ := ints_of_owns rfl hown3
        have HP : Hid (Put2 N w lm [] ((w2.setCell ⟨N + 1, 0, none⟩ (.int .i64 lm)).setCell ⟨N + 2, 0, none⟩ (.slice a5 0 c5))) := Lib.hid ⟨w2, _, hB2, hown3, rfl⟩
        clear hemp hba hel hbase hown2 hown3 hb2 hB2 k1 k2 c3
        go_wp2
        go_ret
        unfold RoundFPost
        rw [if_neg HBD.out]
        exact ⟨rfl, Or.inr ⟨by rw [HLM.out]; exact HBE.out, by rw [HLM.out]; exact HP.out⟩⟩
      | some x =>
        replace c3 : w1.cell? ⟨N + 1, 0, none⟩ = some (.int .i64 x.1) := c3
        have hx0 := hok x rfl
        have hx1 : ¬ x.1 < 0 := by omega
        by_cases hlt : lm < x.1
        · have HBE : Hid (better (some x) (some (lm, ([] : List Int))) = some (lm, ([] : List Int))) := Lib.hid (by simp only [better, if_pos hlt])
          generalize hxv : x.1 = xv at *
          clear hxv
          have hemp : (w1.alloc (.cells #[] 3)).ownsRow w.heap.size 3 1 (.slice (some ⟨w1.heap.size, 0, none⟩) 0 0) 0 [] := World.ownsRow_lit w1 #[] 0 HB1.out.size (by omega) rfl
          have hba := (Below.refl w1.heap.size w1).alloc (Nat.le_refl _) (.cells #[] 3)
          have hel := (HX.out.at HB1.out).at hba
          have hbase : w.heap.size ≤ (w1.alloc (.cells #[] 3)).heap.size := by have := HB1.out.size; simp; omega
          go_wp2_with (at_builtin; refine app_allI rowAI rfl _ _ rfl w.heap.size rfl hemp ar 0 cr [] rfl rfl HN.out hel (by unfold maxLen; omega) (by omega) hbase ?_)
          intro v2 w2 hown2 hb2
          have hown3 : w2.ownsRow w.heap.size 3 1 v2 ([] : List Int).length (([] : List Int).map (Value.int .i64)) := by simpa using hown2
          have hB2 : Below w.heap.size w w2 := HB1.out.trans ((hba.mono HB1.out.size).trans hb2)
          obtain ⟨k1, k2, _⟩ := HO.out
          have q1 := (owns_at k1 hB2).cellAt 0 (by omega)
          have q2 := (owns_at k1 hB2).frozenAt 0
          have q3 := (owns_at k2 hB2).cellAt 0 (by omega)
          have q4 := (owns_at k2 hB2).frozenAt 0
          obtain ⟨a5, c5, rfl, _, _⟩ := ints_of_owns rfl hown3
          have HP : Hid (Put2 N w lm [] ((w2.setCell ⟨N + 1, 0, none⟩ (.int .i64 lm)).setCell ⟨N + 2, 0, none⟩ (.slice a5 0 c5))) := Lib.hid ⟨w2, _, hB2, hown3, rfl⟩
          clear hemp hba hel hbase hown2 hown3 hb2 hB2 k1 k2 c3
          go_wp2
          go_ret
          unfold RoundFPost
          rw [if_neg HBD.out]
          exact ⟨rfl, Or.inr ⟨by rw [HLM.out]; exact HBE.out, by rw [HLM.out]; exact HP.out⟩⟩
        · have HBE : Hid (better (some x) (some (lm, ([] : List Int))) = some x) := Lib.hid (by simp only [better, if_neg hlt])
          generalize hxv : x.1 = xv at *
          clear hxv
          go_wp2
          go_ret
          unfold RoundFPost
          rw [if_neg HBD.out]
          exact ⟨rfl, Or.inl ⟨by rw [HLM.out]; exact HBE.out, HB1.out⟩⟩
    · have hlz : (0 : Int) < (row.length : Int) := by omega
      generalize hx0 : row.getD 0 0 = x0 at c1 hng
      clear hx0
      go_enter Tryd.func88, Tryd.ntmps88
      go_wp2_with fail
      refine HL.out.mono ?_
      rintro e w1 ⟨rfl, hb1⟩
      have HB1 := Lib.hid hb1
      have c3 := (owns_at HO.out.1 hb1).cellAt 0 (by omega)
      clear hb1 HL
      cases st with
      | none =>
        replace c3 : w1.cell? ⟨N + 1, 0, none⟩ = some (.int .i64 (-1)) := c3
        have HBE : Hid (better none (some (lm, row)) = some (lm, row)) := Lib.hid rfl
        have hemp : (w1.alloc (.cells #[] 3)).ownsRow w.heap.size 3 1 (.slice (some ⟨w1.heap.size, 0, none⟩) 0 0) 0 [] := World.ownsRow_lit w1 #[] 0 HB1.out.size (by omega) rfl
        have hba := (Below.refl w1.heap.size w1).alloc (Nat.le_refl _) (.cells #[] 3)
        have hel := (HX.out.at HB1.out).at hba
        have hbase : w.heap.size ≤ (w1.alloc (.cells #[] 3)).heap.size := by have := HB1.out.size; simp; omega
        go_wp2_with (at_builtin; refine app_allI rowAI rfl _ _ rfl w.heap.size rfl hemp (some ⟨b, o, none⟩) row.length cr row rfl rfl HN.out hel (by unfold maxLen; omega) (by omega) hbase ?_)
        intro v2 w2 hown2 hb2
        have hown3 : w2.ownsRow w.heap.size 3 1 v2 row.length (row.map (Value.int .i64)) := by simpa using hown2
        have hB2 : Below w.heap.size w w2 := HB1.out.trans ((hba.mono HB1.out.size).trans hb2)
        obtain ⟨k1, k2, _⟩ := HO.out
        have q1 := (owns_at k1 hB2).cellAt 0 (by omega)
        have q2 := (owns_at k1 hB2).frozenAt 0
        have q3 := (owns_at k2 hB2).cellAt 0 (by omega)
        have q4 := (owns_at k2 hB2).frozenAt 0
        obtain ⟨a5, c5, rfl, _, _⟩ := ints_of_owns rfl hown3
        have HP : Hid (Put2 N w lm row ((w2.setCell ⟨N + 1, 0, none⟩ (.int .i64 lm)).setCell ⟨N + 2, 0, none⟩ (.slice a5 row.length c5))) := Lib.hid ⟨w2, _, hB2, hown3, rfl⟩
        clear hemp hba hel hbase hown2 hown3 hb2 hB2 k1 k2 c3
        go_wp2
        go_ret
        unfold RoundFPost
        rw [if_neg HBD.out]
        exact ⟨rfl, Or.inr ⟨by rw [HLM.out]; exact HBE.out, by rw [HLM.out]; exact HP.out⟩⟩
      | some x =>
        replace c3 : w1.cell? ⟨N + 1, 0, none⟩ = some (.int .i64 x.1) := c3
        have hx0 := hok x rfl
        have hx1 : ¬ x.1 < 0 := by omega
        by_cases hlt : lm < x.1
        · have HBE : Hid (better (some x) (some (lm, row)) = some (lm, row)) := Lib.hid (by simp only [better, if_pos hlt])
          generalize hxv : x.1 = xv at *
          clear hxv
          have hemp : (w1.alloc (.cells #[] 3)).ownsRow w.heap.size 3 1 (.slice (some ⟨w1.heap.size, 0, none⟩) 0 0) 0 [] := World.ownsRow_lit w1 #[] 0 HB1.out.size (by omega) rfl
          have hba := (Below.refl w1.heap.size w1).alloc (Nat.le_refl _) (.cells #[] 3)
          have hel := (HX.out.at HB1.out).at hba
          have hbase : w.heap.size ≤ (w1.alloc (.cells #[] 3)).heap.size := by have := HB1.out.size; simp; omega
          go_wp2_with (at_builtin; refine app_allI rowAI rfl _ _ rfl w.heap.size rfl hemp (some ⟨b, o, none⟩) row.length cr row rfl rfl HN.out hel (by unfold maxLen; omega) (by omega) hbase ?_)
          intro v2 w2 hown2 hb2
          have hown3 : w2.ownsRow w.heap.size 3 1 v2 row.length (row.map (Value.int .i64)) := by simpa using hown2
          have hB2 : Below w.heap.size w w2 := HB1.out.trans ((hba.mono HB1.out.size).trans hb2)
          obtain ⟨k1, k2, _⟩ := HO.out
          have q1 := (owns_at k1 hB2).cellAt 0 (by omega)
          have q2 := (owns_at k1 hB2).frozenAt 0
          have q3 := (owns_at k2 hB2).cellAt 0 (by omega)
          have q4 := (owns_at k2 hB2).frozenAt 0
          obtain ⟨a5, c5, rfl, _, _⟩ := ints_of_owns rfl hown3
          have HP : Hid (Put2 N w lm row ((w2.setCell ⟨N + 1, 0, none⟩ (.int .i64 lm)).setCell ⟨N + 2, 0, none⟩ (.slice a5 row.length c5))) := Lib.hid ⟨w2, _, hB2, hown3, rfl⟩
          clear hemp hba hel hbase hown2 hown3 hb2 hB2 k1 k2 c3
          go_wp2
          go_ret
          unfold RoundFPost
          rw [if_neg HBD.out]
          exact ⟨rfl, Or.inr ⟨by rw [HLM.out]; exact HBE.out, by rw [HLM.out]; exact HP.out⟩⟩
        · have HBE : Hid (better (some x) (some (lm, row)) = some x) := Lib.hid (by simp only [better, if_neg hlt])
          generalize hxv : x.1 = xv at *
          clear hxv
          go_wp2
          go_ret
          unfold RoundFPost
          rw [if_neg HBD.out]
          exact ⟨rfl, Or.inl ⟨by rw [HLM.out]; exact HBE.out, HB1.out⟩⟩
end Go.Proofs.YtfaklhkdfpfjgaaDoor
