/- Which gates work: risk.works tells worksG. -/
import Derived.Test.YtfaklhkdfpfjgaaDoorRiskChk
import Derived.Test.YtfaklhkdfpfjgaaDoorRow
namespace Go.Proofs.YtfaklhkdfpfjgaaDoor
open Go.RowKit

theorem rowB : RowOf Tryd.prog 40 4 (.bool false) 1 1 := rowOf Tryd.underlying40 (by kernel_rfl) rfl (by decide)
/-- Bools of the call's own, read. -/
theorem ownsB_get {w : World} {base e n : Nat} {v : Value} {E : List Bool} (h : w.ownsRow base e 1 v n (E.map Value.bool)) (j : Nat) (hj : j < n) :
    ∃ g cap, v = .slice (some ⟨g, 0, none⟩) n cap ∧ w.cell? ⟨g, j, none⟩ = some (.bool (E.getD j false)) := by
  have hl : E.length = n := by have := h.1; simpa using this
  rcases h.2 with ⟨_, h0⟩ | ⟨g, cap, cur, rfl, _⟩
  · omega
  · refine ⟨g, cap, rfl, ?_⟩
    have h1 := h.cells (g := g) rfl j (.bool (E.getD j false)) (by rw [List.getElem?_map, List.getElem?_eq_getElem (by omega)]; simp [List.getD, show j < E.length by omega])
    have h2 : (⟨g, 0, none⟩ : Addr).add j = ⟨g, j, none⟩ := by
      unfold Addr.add
      split
      · rename_i h3; simp only [h3]
      · simp
    rwa [h2] at h1
theorem getB_lt {E : List Bool} {j : Nat} (h : j < E.length) : E.getD j false = E[j] := by simp [List.getD, h]
theorem bools_of_owns {w : World} {base e : Nat} {v : Value} {n : Nat} {xs : List Bool} (hn : n = xs.length)
    (h : w.ownsRow base e 1 v n (xs.map Value.bool)) : ∃ a cap, v = .slice a xs.length cap ∧ Elems encB 1 w a xs ∧ n ≤ cap := by
  refine elems_of_owns (enc := encB) (base := base) (e := e) (fun _ => rfl) hn ?_
  have : xs.flatMap encB = xs.map Value.bool := by
    clear h hn
    induction xs with
    | nil => rfl
    | cons x xs ih => rw [List.flatMap_cons, ih]; rfl
  rw [this]; exact h

set_option maxRecDepth 100000 in
set_option maxHeartbeats 8000000 in
theorem works_any (a ap : Option Addr) (m cap pl cp : Nat) (L : List GateT) (P : List Bool) (w : World) (hl : m = L.length) (hp : pl = P.length) (hC : gatesCheck (P.length : Int) L = 0) (hr : Gates w a L) (hx : Elems encB 1 w ap P) :
    Calls Tryd.prog 68 #[.slice a m cap, .slice ap pl cp] w fun e w' => e = .returned (.bool (worksG (fun k => P.getD k false) L)) ∧ Below w.heap.size w w' := by
  subst hl; subst hp
  obtain ⟨c1, c2, c3, c4, c5⟩ := gatesCheck_ok hC
  obtain ⟨Pf, hPf⟩ : ∃ Pf : Nat → Bool, Pf = fun k => P.getD k false := ⟨_, rfl⟩
  rw [← hPf]
  have HPf := Lib.hid (fun k => congrFun hPf k)
  have HRR := Lib.hid hr
  have HX := Lib.hid hx
  have HOK := Lib.hid c5
  clear hr hx c5 hC hPf
  go_enter Tryd.func68, Tryd.ntmps68
  go_wp2
  go_loopw [5, 13] (fun ov iv wr => ∃ (k : Nat) (v : Value), v = ov ∧ k ≤ L.length ∧ iv = .int .i64 k ∧ wr.ownsRow w.heap.size 4 1 v k ((gatesG Pf L k).map Value.bool) ∧ Below w.heap.size w wr) (fun _ iv _ => L.length - (intOf iv).toNat)
  case atStart => exact ⟨0, _, rfl, by omega, rfl, World.ownsRow_nil _ _ _ _, Below.refl _ _⟩
  case round =>
    obtain ⟨k, v, rfl, hk, rfl, hown, hb⟩ := hrel
    by_cases hlt : k < L.length
    · obtain ⟨b2, o2, rfl, hcA⟩ := HRR.out.some hlt
      obtain ⟨e0, ar, cr, e1, e2, e3, e4⟩ := hcA k hlt
      have h0 := (hb.cell (lt_of_cell e0)).trans e0
      have h1 := (hb.cell (lt_of_cell e1)).trans e1
      obtain ⟨o1, o2', o3, o4⟩ := HOK.out k hlt
      have HG : Hid (gatesG Pf L (k + 1) = gatesG Pf L k ++ [gateG Pf (gatesG Pf L k) L[k]]) := Lib.hid (by
        show gatesG Pf L k ++ [gateG Pf (gatesG Pf L k) (L.getD k (0, []))] = _
        simp [List.getD, hlt])
      obtain ⟨R, hR⟩ : ∃ R, R = L[k] := ⟨_, rfl⟩
      rw [← hR] at HG h0 h1 e2 e4 o1 o2' o3 o4
      clear hcA e0 e1 hR
      obtain ⟨z, xs⟩ := R
      simp only at h0 h1 e2 e4 o1 o2' o3 o4
      have hsz := hb.size
      have hba := hb.alloc hsz (Obj.cells #[.int .i64 z, .slice ar xs.length cr] 133)
      have howna := hown.alloc (Obj.cells #[.int .i64 z, .slice ar xs.length cr] 133)
      have HE4 := Lib.hid (e4.at hba)
      have HXa := Lib.hid (HX.out.at hba)
      have HO4 := Lib.hid o4
      have hgl := gatesG_len Pf L k
      obtain ⟨gs, hgs⟩ : ∃ gs, gs = gatesG Pf L k := ⟨_, rfl⟩
      rw [← hgs] at HG hgl howna
      clear hown e4 o4 hgs hb
      go_wp2
      go_loop [8, 20] (fun nv iv => ∃ (q c : Nat), q ≤ xs.length ∧ iv = .int .i64 q ∧ nv = .int .i64 c ∧ c ≤ q ∧ Hid (c = (xs.take q).countP (liveG Pf gs))) (fun _ iv => xs.length - (intOf iv).toNat)
      case atStart => exact ⟨0, 0, by omega, rfl, rfl, by omega, Lib.hid (by simp)⟩
      case round =>
        obtain ⟨q, c, hq, rfl, rfl, hcq, HQ⟩ := hrel
        by_cases hql : q < xs.length
        · obtain ⟨b3, o3, rfl, hc3⟩ := HE4.out.some hql
          have h5 := hc3 q hql 0 _ rfl
          simp only [Nat.add_zero, Nat.mul_one] at h5
          obtain ⟨x1, x2⟩ := HO4.out _ (List.getElem_mem hql)
          have HN : Hid (∀ bv, liveG Pf gs xs[q] = bv → (xs.take (q + 1)).countP (liveG Pf gs) = c + if bv = true then 1 else 0) := Lib.hid (fun bv h => by rw [count_take _ _ _ hql, ← HQ.out, h])
          have HL : Hid (liveG Pf gs xs[q] = if 0 ≤ xs[q] then Pf xs[q].toNat else gs.getD (-xs[q] - 1).toNat false) := Lib.hid rfl
          clear hc3 HQ
          generalize xs[q] = x at *
          by_cases hx0 : 0 ≤ x
          · obtain ⟨p, rfl⟩ := Int.eq_ofNat_of_zero_le hx0
            have hpl : p < P.length := by omega
            obtain ⟨b4, o4, rfl, hc4⟩ := HXa.out.some hpl
            have h6 := hc4 p hpl 0 _ rfl
            simp only [Nat.add_zero, Nat.mul_one] at h6
            have HPv : Hid (P[p] = Pf p) := Lib.hid (by rw [HPf.out p, getB_lt hpl])
            rw [if_pos hx0, Int.toNat_natCast] at HL
            rw [HPv.out] at h6
            clear hc4
            cases hbv : Pf p with
            | true =>
              have HC : Hid (c + 1 = (xs.take (q + 1)).countP (liveG Pf gs)) := Lib.hid ((HN.out _ (HL.out.trans hbv)).symm)
              rw [hbv] at h6
              clear HN HL HPv hbv
              go_wp2_with fail
              exact ⟨⟨q + 1, c + 1, by omega, by go_num, by go_num, by omega, HC⟩, by simp [intOf]; omega⟩
            | false =>
              have HC : Hid (c = (xs.take (q + 1)).countP (liveG Pf gs)) := Lib.hid ((HN.out _ (HL.out.trans hbv)).symm)
              rw [hbv] at h6
              clear HN HL HPv hbv
              go_wp2_with fail
              exact ⟨⟨q + 1, c, by omega, by go_num, rfl, by omega, HC⟩, by simp [intOf]; omega⟩
          · obtain ⟨j, hj⟩ := Int.eq_ofNat_of_zero_le (show 0 ≤ -x - 1 by omega)
            have hjk : j < k := by omega
            have hw1 : IntKind.i64.wrap (-x) = -x := IntWalk.i64_in _ (by omega)
            have hw2 : IntKind.i64.wrap (-x - 1) = (j : Int) := (IntWalk.i64_in _ (by omega)).trans hj
            have hw3 : wrap64 (-x) = -x := IntWalk.wrap64_in _ (by omega)
            have hw4 : wrap64 (-x - 1) = (j : Int) := (IntWalk.wrap64_in _ (by omega)).trans hj
            obtain ⟨g, capg, rfl, h6⟩ := ownsB_get howna j hjk
            rw [if_neg hx0, hj, Int.toNat_natCast] at HL
            cases hbv : gs.getD j false with
            | true =>
              have HC : Hid (c + 1 = (xs.take (q + 1)).countP (liveG Pf gs)) := Lib.hid ((HN.out _ (HL.out.trans hbv)).symm)
              rw [hbv] at h6
              clear HN HL hbv
              go_wp2_with fail
              exact ⟨⟨q + 1, c + 1, by omega, by go_num, by go_num, by omega, HC⟩, by simp [intOf]; omega⟩
            | false =>
              have HC : Hid (c = (xs.take (q + 1)).countP (liveG Pf gs)) := Lib.hid ((HN.out _ (HL.out.trans hbv)).symm)
              rw [hbv] at h6
              clear HN HL hbv
              go_wp2_with fail
              exact ⟨⟨q + 1, c, by omega, by go_num, rfl, by omega, HC⟩, by simp [intOf]; omega⟩
        · obtain rfl : q = xs.length := by omega
          have hgv : gateG Pf gs (z, xs) = decide (z ≤ (c : Int)) := by
            have h := HQ.out
            rw [List.take_length] at h
            unfold gateG
            rw [← h]
          rw [hgv] at HG
          clear HQ hgv hql
          have hbs := hba.size
          go_wp2_with (at_builtin; (refine app_row rowB rfl _ _ rfl w.heap.size rfl howna [.bool (decide (z ≤ (c : Int)))] rfl (by first | rfl | simp) rfl (by intro u hu; simp at hu; subst hu; rfl) (by unfold maxLen; omega) (by omega) hbs ?_))
          intro v' w2 hown2 hb2
          have hown3 : w2.ownsRow w.heap.size 4 1 v' (k + 1) ((gatesG Pf L (k + 1)).map Value.bool) := by rw [HG.out, List.map_append]; exact hown2
          have hb3 := hba.trans hb2
          clear hown2 hb2 hba
          go_wp2
          exact ⟨⟨k + 1, _, rfl, by omega, by go_num, hown3, hb3⟩, by simp [intOf]; omega⟩
    · obtain rfl : k = L.length := by omega
      obtain ⟨j, hj⟩ : ∃ j, j = L.length - 1 := ⟨_, rfl⟩
      obtain ⟨g, capg, rfl, h6⟩ := ownsB_get hown j (by omega)
      rw [gatesG_get Pf L _ _ (show j < L.length by omega)] at h6
      have HW : Hid (worksG Pf L = valG Pf L j) := Lib.hid (by rw [hj]; rfl)
      have hw2 : IntKind.i64.wrap ((L.length : Int) - 1) = (j : Int) := (IntWalk.i64_in _ (by omega)).trans (by omega)
      have hw4 : wrap64 ((L.length : Int) - 1) = (j : Int) := (IntWalk.wrap64_in _ (by omega)).trans (by omega)
      have hjl : (j : Int) < (L.length : Int) := by omega
      clear hown hj HOK HRR HX hlt
      generalize valG Pf L j = bv at *
      go_wp2
      go_ret
      exact ⟨by rw [HW.out]; rfl, hb⟩
end Go.Proofs.YtfaklhkdfpfjgaaDoor
