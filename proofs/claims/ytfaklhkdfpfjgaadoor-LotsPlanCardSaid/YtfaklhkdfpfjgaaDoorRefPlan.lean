/- The reference's LotsPlan (11.2): all ways to part periods into runs, one by one; the first of the least ones is kept. -/
import Derived.Test.YtfaklhkdfpfjgaaDoorPlanM
import Derived.Test.YtfaklhkdfpfjgaaDoorRefLots
import Derived.Test.YtfaklhkdfpfjgaaDoorAppI
import Derived.Laws.EntriesVeiled
namespace Go.Proofs.YtfaklhkdfpfjgaaDoor
open Go.RowKit

def planL (st : Option (Int × List Int)) : List Int := match st with | none => [] | some x => x.2
def numP (st : Option (Int × List Int)) : Int := match st with | none => -1 | some x => x.1
def walkV (N bo bw : Nat) : Value := .func (.func 80) #[] #[.pointer (some ⟨N, 0, none⟩), .pointer (some ⟨bo, 0, none⟩), .pointer (some ⟨N + 1, 0, none⟩), .pointer (some ⟨N + 2, 0, none⟩), .pointer (some ⟨bw, 0, none⟩)]
/-- How the boxes' blocks lie. -/
def OrdB (N bo bw Q : Nat) : Prop := N + 4 ≤ bo ∧ bo < bw ∧ bw < Q
/-- What lies there while the ways are gone through. -/
def PlanAt (w : World) (N bo bw Q n : Nat) (vW vO vK : Value) (D : List Int) (st : Option (Int × List Int)) : Prop :=
  (w.cell? ⟨N, 0, none⟩ = some vW ∧ w.cell? ⟨N, 1, none⟩ = some vO ∧ w.cell? ⟨N, 2, none⟩ = some vK) ∧ (w.cell? ⟨bo, 0, none⟩ = some (.slice (some ⟨N + 3, 0, none⟩) n n) ∧ w.cell? ⟨bw, 0, none⟩ = some (walkV N bo bw)) ∧
  w.ownsRow (N + 1) 3 1 (.slice (some ⟨N + 1, 0, none⟩) 1 1) 1 [.int .i64 (numP st)] ∧
  w.ownsRow (N + 3) 3 1 (.slice (some ⟨N + 3, 0, none⟩) n n) n (D.map (Value.int .i64)) ∧
  ∃ vp, w.ownsRow (N + 2) 50 1 (.slice (some ⟨N + 2, 0, none⟩) 1 1) 1 [vp] ∧ w.ownsRow (Q) 3 1 vp (planL st).length ((planL st).map (Value.int .i64))
theorem PlanAt.at {w w' : World} {N bo bw Q n : Nat} {vW vO vK : Value} {D : List Int} {st : Option (Int × List Int)} (h : PlanAt w N bo bw Q n vW vO vK D st) (hb : Below w.heap.size w w') : PlanAt w' N bo bw Q n vW vO vK D st := by
  obtain ⟨⟨h1, h2, h3⟩, ⟨h4, h5⟩, h6, h7, vp, h8, h9⟩ := h
  exact ⟨⟨(hb.cell (lt_of_cell h1)).trans h1, (hb.cell (lt_of_cell h2)).trans h2, (hb.cell (lt_of_cell h3)).trans h3⟩, ⟨(hb.cell (lt_of_cell h4)).trans h4, (hb.cell (lt_of_cell h5)).trans h5⟩, owns_at h6 hb, owns_at h7 hb, vp, owns_at h8 hb, owns_at h9 hb⟩
/-- One number of the orders is written. -/
theorem PlanAt.put {w : World} {N bo bw Q n : Nat} {vW vO vK : Value} {D : List Int} {st : Option (Int × List Int)} (ho : OrdB N bo bw Q) (h : PlanAt w N bo bw Q n vW vO vK D st) (i : Nat) (u : Int) : PlanAt (w.setCell ⟨N + 3, i, none⟩ (.int .i64 u)) N bo bw Q n vW vO vK (D.set i u) st := by
  obtain ⟨o1, o2, o3⟩ := ho
  obtain ⟨⟨h1, h2, h3⟩, ⟨h4, h5⟩, h6, h7, vp, h8, h9⟩ := h
  have hg := (h7.stored i (.int .i64 u)).2
  have key : ∀ {p : Addr} {v : Value}, p.block ≠ N + 3 → w.cell? p = some v → (w.setCell ⟨N + 3, i, none⟩ (.int .i64 u)).cell? p = some v := fun {p v} hp hc => by
    rw [hg.cell_far p (lt_of_cell hc) (by simp; exact hp)]; exact hc
  refine ⟨⟨key (by simp) h1, key (by simp) h2, key (by simp) h3⟩, ⟨key (by simp; omega) h4, key (by simp; omega) h5⟩, h6.kept hg (Or.inr (by simp [Value.ownBlock])), owns_set h7 i u, vp, h8.kept hg (Or.inr (by simp [Value.ownBlock])), h9.kept hg (Or.inr (fun hq => by have := (h9.lt _ hq).1; omega))⟩
/-- All but the row that is kept. -/
def PlanLow (w : World) (N bo bw Q n : Nat) (vW vO vK : Value) (D : List Int) : Prop :=
  (w.cell? ⟨N, 0, none⟩ = some vW ∧ w.cell? ⟨N, 1, none⟩ = some vO ∧ w.cell? ⟨N, 2, none⟩ = some vK) ∧ (w.cell? ⟨bo, 0, none⟩ = some (.slice (some ⟨N + 3, 0, none⟩) n n) ∧ w.cell? ⟨bw, 0, none⟩ = some (walkV N bo bw)) ∧
  (∃ vb, w.ownsRow (N + 1) 3 1 (.slice (some ⟨N + 1, 0, none⟩) 1 1) 1 [vb]) ∧
  w.ownsRow (N + 3) 3 1 (.slice (some ⟨N + 3, 0, none⟩) n n) n (D.map (Value.int .i64)) ∧
  ∃ vp, w.ownsRow (N + 2) 50 1 (.slice (some ⟨N + 2, 0, none⟩) 1 1) 1 [vp]
theorem PlanAt.low {w : World} {N bo bw Q n : Nat} {vW vO vK : Value} {D : List Int} {st : Option (Int × List Int)} (h : PlanAt w N bo bw Q n vW vO vK D st) : PlanLow w N bo bw Q n vW vO vK D :=
  ⟨h.1, h.2.1, ⟨_, h.2.2.1⟩, h.2.2.2.1, h.2.2.2.2.choose, h.2.2.2.2.choose_spec.1⟩
theorem PlanLow.below {w w' : World} {N bo bw Q n : Nat} {vW vO vK : Value} {D : List Int} (ho : OrdB N bo bw Q) (h : PlanLow w N bo bw Q n vW vO vK D) (hb : Below Q w w') : PlanLow w' N bo bw Q n vW vO vK D := by
  obtain ⟨o1, o2, o3⟩ := ho
  obtain ⟨⟨h1, h2, h3⟩, ⟨h4, h5⟩, ⟨vb, h6⟩, h7, vp, h8⟩ := h
  exact ⟨⟨(hb.cell (show N < Q by omega)).trans h1, (hb.cell (show N < Q by omega)).trans h2, (hb.cell (show N < Q by omega)).trans h3⟩, ⟨(hb.cell (show bo < Q by omega)).trans h4, (hb.cell (show bw < Q by omega)).trans h5⟩,
    ⟨vb, owns_below h6 hb (fun g hg => by simp [Value.ownBlock] at hg; omega)⟩, owns_below h7 hb (fun g hg => by simp [Value.ownBlock] at hg; omega), vp, owns_below h8 hb (fun g hg => by simp [Value.ownBlock] at hg; omega)⟩
/-- The best is put down. -/
theorem PlanLow.best {w : World} {N bo bw Q n : Nat} {vW vO vK : Value} {D D2 : List Int} (ho : OrdB N bo bw Q) (h : PlanLow w N bo bw Q n vW vO vK D) (c : Int) (v' : Value) (hv : w.ownsRow (Q) 3 1 v' D2.length (D2.map (Value.int .i64))) :
    PlanAt ((w.setCell ⟨N + 1, 0, none⟩ (.int .i64 c)).setCell ⟨N + 2, 0, none⟩ v') N bo bw Q n vW vO vK D (some (c, D2)) := by
  obtain ⟨o1, o2, o3⟩ := ho
  obtain ⟨⟨h1, h2, h3⟩, ⟨h4, h5⟩, ⟨vb, h6⟩, h7, vp, h8⟩ := h
  obtain ⟨s1, hg⟩ := h6.stored 0 (.int .i64 c)
  have key : ∀ {p : Addr} {v : Value}, p.block ≠ N + 1 → w.cell? p = some v → (w.setCell ⟨N + 1, 0, none⟩ (.int .i64 c)).cell? p = some v := fun {p v} hp hc => by
    rw [hg.cell_far p (lt_of_cell hc) (by simp; exact hp)]; exact hc
  have h8b := h8.kept hg (Or.inr (by simp [Value.ownBlock]))
  have hvb := hv.kept hg (Or.inr (fun hq => by have := (hv.lt _ hq).1; omega))
  have h7b := h7.kept hg (Or.inr (by simp [Value.ownBlock]))
  obtain ⟨t1, hk⟩ := h8b.stored 0 v'
  have key2 : ∀ {p : Addr} {v : Value}, p.block ≠ N + 2 → (w.setCell ⟨N + 1, 0, none⟩ (.int .i64 c)).cell? p = some v → ((w.setCell ⟨N + 1, 0, none⟩ (.int .i64 c)).setCell ⟨N + 2, 0, none⟩ v').cell? p = some v := fun {p v} hp hc => by
    rw [hk.cell_far p (lt_of_cell hc) (by simp; exact hp)]; exact hc
  refine ⟨⟨key2 (by simp) (key (by simp) h1), key2 (by simp) (key (by simp) h2), key2 (by simp) (key (by simp) h3)⟩, ⟨key2 (by simp; omega) (key (by simp; omega) h4), key2 (by simp; omega) (key (by simp; omega) h5)⟩, s1.kept hk (Or.inr (by simp [Value.ownBlock])), h7b.kept hk (Or.inr (by simp [Value.ownBlock])), v', t1, hvb.kept hk (Or.inr (fun hq => by have := (hvb.lt _ hq).1; omega))⟩
theorem PlanLow.cells {w : World} {N bo bw Q n : Nat} {vW vO vK : Value} {D : List Int} (h : PlanLow w N bo bw Q n vW vO vK D) : ∃ vb vp, w.cell? ⟨N + 1, 0, none⟩ = some vb ∧ w.frozen? ⟨N + 1, 0, none⟩ = false ∧ w.cell? ⟨N + 2, 0, none⟩ = some vp ∧ w.frozen? ⟨N + 2, 0, none⟩ = false := by
  obtain ⟨_, _, ⟨vb, h6⟩, _, vp, h8⟩ := h
  exact ⟨vb, vp, h6.cellAt 0 (by omega), h6.frozenAt 0, h8.cellAt 0 (by omega), h8.frozenAt 0⟩
theorem enterP {P : Program} {f : FuncId} {fn : Func} {c : Code} (hf : P.funcs[f]? = some fn) (hname : (fn.name == "runtime.NumGoroutine") = false) (hb : fn.body = some c) : ∀ args w, (callFunc f args).run P w = .ok (.enter f args) w := by
  intro args w
  have h1 : fn.name ≠ "runtime.NumGoroutine" := by simpa using hname
  simp [callFunc, hf, h1, hb, mark]
theorem owned_elems {w : World} {base g n : Nat} {D : List Int} (hD : D.length = n) (h : w.ownsRow base 3 1 (.slice (some ⟨g, 0, none⟩) n n) n (D.map (Value.int .i64))) : Elems encI 1 w (some ⟨g, 0, none⟩) D := by
  obtain ⟨a, c, hv, he, _⟩ := ints_of_owns hD.symm h
  obtain ⟨h1, _, _⟩ := Value.slice.inj hv
  rw [h1]; exact he
theorem eg_plan1 : ∀ args w, (callFunc 80 args).run Tryd.prog w = .ok (.enter 80 args) w := enterP Tryd.func80 (by kernel_rfl) rfl
def WalkPost (w0 : World) (bo bw Q n : Nat) (vW vO vK : Value) (D : List Int) (st : Option (Int × List Int)) (e : Ending) (w' : World) : Prop :=
  e = .returned (.tuple #[]) ∧ PlanAt w' w0.heap.size bo bw Q n vW vO vK D st ∧ Q ≤ w'.heap.size ∧ Below w0.heap.size w0 w'
/-- What is kept of all ways to part the first e periods, with what stands behind them. -/
def fromT (W : List Int) (D : List Int) (e : Nat) (C : Int) (x : Int × List Nat) : Int × List Int := (x.1 + C, placeT W D e x.2)
theorem from_step (W O K : List Int) (D : List Int) (st : Option (Int × List Int)) {e d : Nat} (C : Int) :
    better (better st ((joinB (stepT W O K e) d).map (fromT W D e C))) ((bestT W O K (e - 1 - d)).map (fromT W (D.set (e - 1 - d) (sumW W (e - 1 - d) e)) (e - 1 - d) (runC W O K (e - 1 - d) e + C))) = better st ((joinB (stepT W O K e) (d + 1)).map (fromT W D e C)) := by
  have h1 : (stepT W O K e d).map (fromT W D e C) = (bestT W O K (e - 1 - d)).map (fromT W (D.set (e - 1 - d) (sumW W (e - 1 - d) e)) (e - 1 - d) (runC W O K (e - 1 - d) e + C)) := by
    unfold stepT
    rw [Option.map_map]
    congr 1
    funext x
    show ((x.1 + runC W O K (e - 1 - d) e) + C, placeT W D e ((e - 1 - d) :: x.2)) = (x.1 + (runC W O K (e - 1 - d) e + C), _)
    rw [Int.add_assoc]
    rfl
  rw [better_assoc, joinB, ← h1]
  congr 1
  exact (better_map C (fun p => placeT W D e p) _ _).symm
theorem set_back {D : List Int} {i : Nat} (s : Int) (hi : D.getD i 0 = 0) : (D.set i s).set i 0 = D := by
  rw [List.set_set]
  refine List.ext_getElem (by simp) fun t h1 h2 => ?_
  rw [List.getElem_set]
  by_cases h : i = t
  · subst h; rw [if_pos rfl, ← hi, getD_lt h2]
  · rw [if_neg h]
/-- No cost is below 0. -/
def CostOk (st : Option (Int × List Int)) : Prop := ∀ x, st = some x → 0 ≤ x.1
theorem better_ok {x y : Option (Int × List Int)} (h : CostOk x) (k : CostOk y) : CostOk (better x y) := by
  intro z hz
  cases x with
  | none => exact k z hz
  | some x =>
    cases y with
    | none => rw [better_none] at hz; exact h z hz
    | some y =>
      by_cases hc : y.1 < x.1
      · simp only [better, if_pos hc] at hz; exact k z hz
      · simp only [better, if_neg hc] at hz; exact h z hz

set_option maxRecDepth 100000 in
set_option maxHeartbeats 8000000 in
theorem planWalk (w0 : World) (aW aO aK : Option Addr) (cW cO cK : Nat) (W O K : List Int) (hN : needErr W O K = 0) (h9 : W.length ≤ 9) (hW : Elems encI 1 w0 aW W) (hO : Elems encI 1 w0 aO O) (hK : Elems encI 1 w0 aK K) (bo bw Q : Nat) (ho : OrdB w0.heap.size bo bw Q) :
    ∀ (m e : Nat) (D : List Int) (st : Option (Int × List Int)) (C : Int) (w : World), e < m → e ≤ W.length → D.length = W.length → (∀ j, j < e → D.getD j 0 = 0) → Suff W O K D e C → 0 ≤ C → C ≤ (W.length - e : Nat) * 81000001000000 → CostOk st →
    PlanAt w w0.heap.size bo bw Q W.length (.slice aW W.length cW) (.slice aO O.length cO) (.slice aK K.length cK) D st → Q ≤ w.heap.size → Below w0.heap.size w0 w →
    Calls Tryd.prog 80 #[.int .i64 e, .pointer (some ⟨w0.heap.size, 0, none⟩), .pointer (some ⟨bo, 0, none⟩), .pointer (some ⟨w0.heap.size + 1, 0, none⟩), .pointer (some ⟨w0.heap.size + 2, 0, none⟩), .pointer (some ⟨bw, 0, none⟩)] w
      (WalkPost w0 bo bw Q W.length (.slice aW W.length cW) (.slice aO O.length cO) (.slice aK K.length cK) D (better st ((bestT W O K e).map (fromT W D e C)))) := by
  obtain ⟨_, lO, lK, bW, bO, bK⟩ := need_ok hN
  intro m
  induction m with
  | zero => intro e D st C w he; omega
  | succ m ih =>
    intro e D st C w he heW hD hz hS hC0 hC1 hok hP hsz hb
    by_cases he0 : e = 0
    · subst he0
      have hlots := suff_all hN hD hS
      rw [bestT_zero]
      simp only [Option.map_some, fromT, placeT, Int.zero_add]
      obtain ⟨R, hR⟩ : ∃ R, R = better st (some (C, D)) := ⟨_, rfl⟩
      rw [← hR]
      have HR := Lib.hid hR
      clear hR
      have HP := Lib.hid hP
      have HB := Lib.hid hb
      have HSZ := Lib.hid hsz
      have hEl := owned_elems hD hP.2.2.2.1
      have HC := refLots_any aW aO aK (some ⟨w0.heap.size + 3, 0, none⟩) _ _ _ _ cW cO cK W.length W O K D w rfl rfl rfl hD.symm (by omega) (by omega) (hW.at hb) (hO.at hb) (hK.at hb) hEl
      rw [hlots] at HC
      have HC := Lib.hid HC
      obtain ⟨n1, n2, n3⟩ := hP.1
      have b4 := hP.2.1.1
      have HD := Lib.hid hD
      obtain ⟨N, hN'⟩ : ∃ N, N = w0.heap.size := ⟨_, rfl⟩
      have HNW := Lib.hid hN'
      have hoN := ho
      rw [← hN'] at HP HC n1 n2 n3 b4 hoN ⊢
      have HORD := Lib.hid hoN
      clear hoN
      clear hN' hlots hS hz ih hW hO hK hN hb hsz hEl hP hC1 he heW hD bW bO bK lO lK
      generalize hcW : W.length = n at *
      have HCW := Lib.hid hcW
      clear hcW
      go_enter Tryd.func80, Tryd.ntmps80
      go_wp2_with fail
      refine HC.out.mono ?_
      rintro e1 w1 ⟨rfl, hb1⟩
      have HP1 := Lib.hid (HP.out.at hb1)
      have HB1 := Lib.hid (HB.out.trans (hb1.mono HB.out.size))
      have HSZ1 : Hid (Q ≤ w1.heap.size) := Lib.hid (Nat.le_trans HSZ.out hb1.size)
      clear hb1 n1 n2 n3 b4 HC HP HB HSZ
      have b4 := HP1.out.2.1.1
      have c3 := HP1.out.2.2.1.cellAt 0 (by omega)
      rw [show ([Value.int .i64 (numP st)] : List Value)[0]? = some (.int .i64 (numP st)) from rfl] at c3
      cases st with
      | none =>
        replace c3 : w1.cell? ⟨N + 1, 0, none⟩ = some (.int .i64 (-1)) := c3
        have HRE : Hid (R = some (C, D)) := Lib.hid (HR.out.trans rfl)
        have hemp : (w1.alloc (.cells #[] 3)).ownsRow (Q) 3 1 (.slice (some ⟨w1.heap.size, 0, none⟩) 0 0) 0 [] := World.ownsRow_lit w1 #[] 0 HSZ1.out (by omega) rfl
        have b4' := cell_a1 b4 (.cells #[] 3)
        have hba := (Below.refl w1.heap.size w1).alloc (Nat.le_refl _) (.cells #[] 3)
        have hel := (owned_elems HD.out HP1.out.2.2.2.1).at hba
        have hbase : Q ≤ (w1.alloc (.cells #[] 3)).heap.size := by have := HSZ1.out; simp; omega
        have hDn := HD.out
        go_wp2_with (at_builtin; refine app_allI rowAI rfl _ _ rfl (Q) rfl hemp (some ⟨N + 3, 0, none⟩) n n D rfl hDn.symm (fun h => by cases h) hel (by unfold maxLen; omega) (by omega) hbase ?_)
        intro v2 w2 hown2 hb2
        have HBA : Hid (Below (Q) w1 w2) := Lib.hid ((hba.mono HSZ1.out).trans hb2)
        have hown3 : w2.ownsRow (Q) 3 1 v2 D.length (D.map (Value.int .i64)) := by simpa [hDn] using hown2
        have HL2 := Lib.hid (PlanLow.below HORD.out HP1.out.low HBA.out)
        obtain ⟨vb, vp, q1, q2, q3, q4⟩ := HL2.out.cells
        obtain ⟨a5, c5, rfl, _, _⟩ := ints_of_owns rfl hown3
        have HPB := Lib.hid (PlanLow.best HORD.out HL2.out C _ hown3)
        have HBB : Hid (Below w0.heap.size w0 ((w2.setCell ⟨N + 1, 0, none⟩ (.int .i64 C)).setCell ⟨N + 2, 0, none⟩ (.slice a5 D.length c5))) := Lib.hid (((HB1.out.trans (HBA.out.mono (by have := HNW.out; have := HORD.out; unfold OrdB at this; omega))).setCell (p := ⟨N + 1, 0, none⟩) (by have := HNW.out; have := HORD.out; unfold OrdB at this; simp; omega) _).setCell (p := ⟨N + 2, 0, none⟩) (by have := HNW.out; have := HORD.out; unfold OrdB at this; simp; omega) _)
        have HSB : Hid (Q ≤ ((w2.setCell ⟨N + 1, 0, none⟩ (.int .i64 C)).setCell ⟨N + 2, 0, none⟩ (.slice a5 D.length c5)).heap.size) := Lib.hid (by have := HSZ1.out; have := HBA.out.size; have := HNW.out; simp; omega)
        clear hemp b4' hba hel hbase hown2 hown3 hb2 hDn b4 c3
        go_wp2
        ((try simp only [Exit.inBlock, Exit.then]); refine bodyPost_ret (results_none rfl _ _ _) rfl ?_)
        unfold WalkPost
        rw [← HNW.out]
        rw [HRE.out]
        have HBN := HBB.out
        rw [← HNW.out] at HBN
        exact ⟨rfl, HPB.out, HSB.out, HBN⟩
      | some x =>
        have hx0 := hok x rfl
        replace c3 : w1.cell? ⟨N + 1, 0, none⟩ = some (.int .i64 x.1) := c3
        have hx1 : ¬ x.1 < 0 := by omega
        by_cases hlt : C < x.1
        · have HRE : Hid (R = some (C, D)) := Lib.hid (HR.out.trans (by simp only [better, if_pos hlt]))
          generalize x.1 = xv at *
          have hemp : (w1.alloc (.cells #[] 3)).ownsRow (Q) 3 1 (.slice (some ⟨w1.heap.size, 0, none⟩) 0 0) 0 [] := World.ownsRow_lit w1 #[] 0 HSZ1.out (by omega) rfl
          have b4' := cell_a1 b4 (.cells #[] 3)
          have hba := (Below.refl w1.heap.size w1).alloc (Nat.le_refl _) (.cells #[] 3)
          have hel := (owned_elems HD.out HP1.out.2.2.2.1).at hba
          have hbase : Q ≤ (w1.alloc (.cells #[] 3)).heap.size := by have := HSZ1.out; simp; omega
          have hDn := HD.out
          go_wp2_with (at_builtin; refine app_allI rowAI rfl _ _ rfl (Q) rfl hemp (some ⟨N + 3, 0, none⟩) n n D rfl hDn.symm (fun h => by cases h) hel (by unfold maxLen; omega) (by omega) hbase ?_)
          intro v2 w2 hown2 hb2
          have HBA : Hid (Below (Q) w1 w2) := Lib.hid ((hba.mono HSZ1.out).trans hb2)
          have hown3 : w2.ownsRow (Q) 3 1 v2 D.length (D.map (Value.int .i64)) := by simpa [hDn] using hown2
          have HL2 := Lib.hid (PlanLow.below HORD.out HP1.out.low HBA.out)
          obtain ⟨vb, vp, q1, q2, q3, q4⟩ := HL2.out.cells
          obtain ⟨a5, c5, rfl, _, _⟩ := ints_of_owns rfl hown3
          have HPB := Lib.hid (PlanLow.best HORD.out HL2.out C _ hown3)
          have HBB : Hid (Below w0.heap.size w0 ((w2.setCell ⟨N + 1, 0, none⟩ (.int .i64 C)).setCell ⟨N + 2, 0, none⟩ (.slice a5 D.length c5))) := Lib.hid (((HB1.out.trans (HBA.out.mono (by have := HNW.out; have := HORD.out; unfold OrdB at this; omega))).setCell (p := ⟨N + 1, 0, none⟩) (by have := HNW.out; have := HORD.out; unfold OrdB at this; simp; omega) _).setCell (p := ⟨N + 2, 0, none⟩) (by have := HNW.out; have := HORD.out; unfold OrdB at this; simp; omega) _)
          have HSB : Hid (Q ≤ ((w2.setCell ⟨N + 1, 0, none⟩ (.int .i64 C)).setCell ⟨N + 2, 0, none⟩ (.slice a5 D.length c5)).heap.size) := Lib.hid (by have := HSZ1.out; have := HBA.out.size; have := HNW.out; simp; omega)
          clear hemp b4' hba hel hbase hown2 hown3 hb2 hDn b4 c3
          go_wp2
          ((try simp only [Exit.inBlock, Exit.then]); refine bodyPost_ret (results_none rfl _ _ _) rfl ?_)
          unfold WalkPost
          rw [← HNW.out]
          rw [HRE.out]
          have HBN := HBB.out
          rw [← HNW.out] at HBN
          exact ⟨rfl, HPB.out, HSB.out, HBN⟩
        · have HRE : Hid (R = some x) := Lib.hid (HR.out.trans (by simp only [better, if_neg hlt]))
          generalize x.1 = xv at *
          go_wp2
          ((try simp only [Exit.inBlock, Exit.then]); refine bodyPost_ret (results_none rfl _ _ _) rfl ?_)
          unfold WalkPost
          rw [← HNW.out]
          rw [HRE.out]
          have HBN := HB1.out
          rw [← HNW.out] at HBN
          exact ⟨rfl, HP1.out, HSZ1.out, HBN⟩
    · have HP := Lib.hid hP
      have HB := Lib.hid hb
      have HSZ := Lib.hid hsz
      have HW := Lib.hid hW
      have HIH := Lib.hid ih
      have HSF := Lib.hid hS
      have HZ := Lib.hid hz
      have HOK := Lib.hid hok
      have HBW := Lib.hid bW
      have HRB : Hid (∀ i, i < e → 0 ≤ runC W O K i e ∧ runC W O K i e ≤ 81000001000000) := Lib.hid (fun i hi => runC_bd bW bO bK lO lK hi heW (by omega))
      have HSR : Hid (∀ i, i < e → Suff W O K (D.set i (sumW W i e)) i (runC W O K i e + C)) := Lib.hid (fun i hi => suff_run bW lO lK hD h9 hi heW hz hS)
      have HJS : Hid (joinB (stepT W O K e) e = bestT W O K e) := Lib.hid (bestT_step W O K he0).symm
      have HJO : Hid (∀ d, d ≤ e → CostOk (better st ((joinB (stepT W O K e) d).map (fromT W D e C)))) := Lib.hid (fun d hd => better_ok hok (fun x hx => by
        cases hj : joinB (stepT W O K e) d with
        | none => rw [hj] at hx; cases hx
        | some y =>
          rw [hj] at hx
          obtain ⟨d', hd', hy⟩ := joinB_mem hj
          obtain ⟨c, p, h1, h2, _⟩ := bestT_some bW bO bK lO lK h9 (e - 1 - d') (e - 1 - d') (Nat.le_refl _) (by omega)
          unfold stepT at hy
          rw [h1] at hy
          simp only [Option.map_some, Option.some.injEq] at hy hx
          have h3 := runC_bd bW bO bK lO lK (i := e - 1 - d') (t := e) (by omega) heW (by omega)
          rw [← hx, ← hy]
          show 0 ≤ (c + _) + C
          omega))
      obtain ⟨N, hN'⟩ : ∃ N, N = w0.heap.size := ⟨_, rfl⟩
      have HNW := Lib.hid hN'
      have hoN := ho
      rw [← hN'] at HP hoN ⊢
      have HORD := Lib.hid hoN
      clear hoN
      have hst0 : Hid (PlanAt w N bo bw Q W.length (.slice aW W.length cW) (.slice aO O.length cO) (.slice aK K.length cK) D (better st ((joinB (stepT W O K e) 0).map (fromT W D e C)))) := Lib.hid (by
        rw [show joinB (stepT W O K e) 0 = none from rfl, Option.map_none, better_none]; exact HP.out)
      have HS0 : Hid (sumW W (e - 0) e = 0) := Lib.hid (sumW_none W e)
      have hd0 : ((e : Int) == 0) = false := beq_eq_false_iff_ne.2 (by omega)
      clear hP hb hsz hW hO hK hS hz hok ih hN bW bO bK hN' lO lK
      go_enter Tryd.func80, Tryd.ntmps80
      go_wp2
      go_loopw [9, 10] (fun sv iv wr => ∃ (d : Nat) (j s : Int), j + d + 1 = e ∧ d ≤ e ∧ iv = .int .i64 j ∧ sv = .int .i64 s ∧ Hid (sumW W (e - d) e = s) ∧ Hid (PlanAt wr N bo bw Q W.length (.slice aW W.length cW) (.slice aO O.length cO) (.slice aK K.length cK) D (better st ((joinB (stepT W O K e) d).map (fromT W D e C)))) ∧ Hid (Q ≤ wr.heap.size) ∧ Hid (Below w0.heap.size w0 wr)) (fun _ iv _ => (intOf iv + 1).toNat)
      case atStart => exact ⟨0, (e : Int) - 1, 0, by omega, by omega, by go_num, rfl, HS0, hst0, HSZ, HB⟩
      case round =>
        clear hst0 HS0 HP HSZ HB
        obtain ⟨d, j, s, hj, hd, rfl, rfl, HS, HP, HSZ, HB⟩ := hrel
        by_cases hj0 : 0 ≤ j
        · obtain ⟨i, rfl⟩ := Int.eq_ofNat_of_zero_le hj0
          have hie : i + d + 1 = e := by omega
          have hin : i < W.length := by omega
          obtain ⟨b, o, haE, hc⟩ := (HW.out.at HB.out).some hin
          have c1 := hc i hin 0 _ rfl
          simp only [Nat.add_zero, Nat.mul_one] at c1
          have hbw := HBW.out _ (List.getElem_mem hin)
          have hsb := sumW_in HBW.out (show e - d ≤ e by omega) heW
          rw [HS.out] at hsb
          have HS1 : Hid (s + W[i] = sumW W i e) := Lib.hid (by
            have h := sumW_cons (W := W) (show i < e by omega) heW
            rw [show i + 1 = e - d by omega, HS.out, getD_lt hin] at h
            omega)
          have hsb2 : 0 ≤ s ∧ s ≤ 9000000 := by
            have : ((e - (e - d) : Nat) : Int) ≤ 9 := by omega
            omega
          obtain ⟨n1, n2, n3⟩ := HP.out.1
          have b4 := HP.out.2.1.1
          have c7 := owns_get HP.out.2.2.2.1 i hin (by omega)
          have f7 := HP.out.2.2.2.1.frozenAt i
          have HP2 := Lib.hid (PlanAt.put HORD.out HP.out i (s + W[i]))
          have HB2 : Hid (Below w0.heap.size w0 (wr.setCell ⟨N + 3, i, none⟩ (.int .i64 (s + W[i])))) := Lib.hid (HB.out.setCell (p := ⟨N + 3, i, none⟩) (by have := HNW.out; have := HORD.out; unfold OrdB at this; simp; omega) _)
          have HSZ2 : Hid (Q ≤ (wr.setCell ⟨N + 3, i, none⟩ (.int .i64 (s + W[i]))).heap.size) := Lib.hid (by have := HSZ.out; simp; omega)
          have b5 := HP2.out.2.1.2
          unfold walkV at b5
          have eg := eg_plan1
          have HCALL : Hid (Calls Tryd.prog 80 #[.int .i64 i, .pointer (some ⟨N, 0, none⟩), .pointer (some ⟨bo, 0, none⟩), .pointer (some ⟨N + 1, 0, none⟩), .pointer (some ⟨N + 2, 0, none⟩), .pointer (some ⟨bw, 0, none⟩)] (wr.setCell ⟨N + 3, i, none⟩ (.int .i64 (s + W[i])))
              (WalkPost w0 bo bw Q W.length (.slice aW W.length cW) (.slice aO O.length cO) (.slice aK K.length cK) (D.set i (sumW W i e)) (better st ((joinB (stepT W O K e) (d + 1)).map (fromT W D e C))))) := Lib.hid (by
            have q1 := HRB.out i (by omega)
            have q2 : ((W.length - e : Nat) : Int) + 1 ≤ ((W.length - i : Nat) : Int) := by omega
            have q3 : ∀ j, j < i → (D.set i (sumW W i e)).getD j 0 = 0 := fun j hj => by
              have h1 : (D.set i (sumW W i e)).getD j 0 = D.getD j 0 := by simp [List.getD, show i ≠ j by omega]
              rw [h1]; exact HZ.out j (by omega)
            have h := HIH.out i (D.set i (sumW W i e)) (better st ((joinB (stepT W O K e) d).map (fromT W D e C))) (runC W O K i e + C) (wr.setCell ⟨N + 3, i, none⟩ (.int .i64 (s + W[i]))) (by omega) (by omega) (by simp [hD]) q3 (HSR.out i (by omega)) (by omega) (by omega) (HJO.out d hd) (by rw [← HS1.out, ← HNW.out]; exact HP2.out) HSZ2.out HB2.out
            have h2 := from_step W O K D st (e := e) (d := d) C
            rw [show e - 1 - d = i by omega] at h2
            rw [h2] at h
            rw [← HNW.out] at h
            exact h)
          have HSS : Hid (sumW W (e - (d + 1)) e = s + W[i]) := Lib.hid (by rw [HS1.out, show e - (d + 1) = i by omega])
          have HBK : Hid ((D.set i (sumW W i e)).set i 0 = D) := Lib.hid (set_back _ (HZ.out i (by omega)))
          have hil : i < D.length := by omega
          subst haE
          clear HP HB HSZ hc HS HP2 HB2 HSZ2
          generalize D[i] = dv at *
          generalize hWi : W[i] = wv at *
          clear hWi
          obtain ⟨hbw0, hbw1⟩ := hbw
          go_wp2_with fail
          refine HCALL.out.mono ?_
          intro e1 w2 hw2
          unfold WalkPost at hw2
          obtain ⟨rfl, hP3, hsz3, hb3⟩ := hw2
          rw [← HNW.out] at hP3
          have b4 := hP3.2.1.1
          have c7 := owns_get hP3.2.2.2.1 i hin (by simp; omega)
          have f7 := hP3.2.2.2.1.frozenAt i
          have hP4 := PlanAt.put HORD.out hP3 i 0
          rw [HBK.out] at hP4
          have HP4 := Lib.hid hP4
          have HB4 : Hid (Below w0.heap.size w0 (w2.setCell ⟨N + 3, i, none⟩ (.int .i64 0))) := Lib.hid (hb3.setCell (p := ⟨N + 3, i, none⟩) (by have := HNW.out; have := HORD.out; unfold OrdB at this; simp; omega) _)
          have HSZ4 : Hid (Q ≤ (w2.setCell ⟨N + 3, i, none⟩ (.int .i64 0)).heap.size) := Lib.hid (by simp; omega)
          clear hP3 hP4 hsz3 hb3 HCALL
          go_wp2
          exact ⟨⟨d + 1, (i : Int) - 1, s + wv, by omega, by omega, by go_num, rfl, HSS, HP4, HSZ4, HB4⟩, by simp [intOf] <;> omega⟩
        · obtain rfl : d = e := by omega
          go_wp2
          go_end0
          unfold WalkPost
          rw [← HNW.out]
          have h := HP.out
          rw [HJS.out] at h
          have HBN := HB.out
          rw [← HNW.out] at HBN
          exact ⟨rfl, h, HSZ.out, HBN⟩
end Go.Proofs.YtfaklhkdfpfjgaaDoor
