/- Which gates work, from the whole down: the reference's Works, by a memo, tells worksG. -/
import Derived.Test.YtfaklhkdfpfjgaaDoorRiskWalk
import Derived.Laws.EntriesVeiled
import Derived.Maps.OwnSet
import Derived.Maps.OwnOps
namespace Go.Proofs.YtfaklhkdfpfjgaaDoor
open Go.RowKit Go.Maps

theorem enter_rw {P : Program} {f : FuncId} {fn : Func} {c : Code} (hf : P.funcs[f]? = some fn) (hname : (fn.name == "runtime.NumGoroutine") = false) (hb : fn.body = some c) : ∀ args w, (callFunc f args).run P w = .ok (.enter f args) w := by
  intro args w
  have h1 : fn.name ≠ "runtime.NumGoroutine" := by simpa using hname
  simp [callFunc, hf, h1, hb, mark]
theorem eg_works1 : ∀ args w, (callFunc 69 args).run Tryd.prog w = .ok (.enter 69 args) w := enter_rw Tryd.func69 (by kernel_rfl) rfl
theorem grown_next' {w w' w'' : World} {row : Option Nat} (h : w.grownBy w' row) (k : w'.grownBy w'' row) : w.grownBy w'' row :=
  ⟨k.os.trans h.os, k.tape.trans h.tape, k.output.trans h.output, Nat.le_trans h.size k.size, fun j hj hne => (k.block j (Nat.lt_of_lt_of_le hj h.size) hne).trans (h.block j hj hne)⟩
theorem grown_refl' (w : World) (row : Option Nat) : w.grownBy w row := ⟨rfl, rfl, rfl, Nat.le_refl _, fun _ _ _ => rfl⟩

theorem cell_nw {w : World} {v : Value} {t : TypeId} {n : Nat} (h : n = w.heap.size) : (w.alloc (.cells #[v] t)).cell? ⟨n, 0, none⟩ = some v := by
  subst h
  simp
/-- A memo: block B is a map from numbers to Bools that reads as D. -/
abbrev ownsMemo (w : World) (B : Nat) (D : DataW Unit) : Prop := w.ownsMap Tryd.prog 3 (plainElem Tryd.prog 4) B (Maps.size D) D
theorem memo_fit {w : World} {B n : Nat} {D : DataW Unit} (h : w.ownsMap Tryd.prog 3 (plainElem Tryd.prog 4) B n D) : ownsMemo w B D := by
  obtain ⟨es, clock, h1, h2, h3, h4⟩ := h
  refine ⟨es, clock, h1, h2, ?_, h4⟩
  rw [h4, Maps.size_eq, length_read]
  exact Nat.le_refl _
theorem lawK : Keyed Tryd.prog 3 := int_keyed Tryd.underlying3
theorem zeroB (w : World) : (zeroValue 4).run Tryd.prog w = .ok (.bool false) w := by kernel_rfl

/-- The variables that the search goes by. -/
def WorkVars (w : World) (Bm Bl Bs Bg M : Nat) (a : Option Addr) (len cap : Nat) (set : Int) : Prop :=
  w.cell? ⟨Bm, 0, none⟩ = some (.map (some M)) ∧ w.cell? ⟨Bl, 0, none⟩ = some (.slice a len cap) ∧ w.cell? ⟨Bs, 0, none⟩ = some (.int .i64 set) ∧
    w.cell? ⟨Bg, 0, none⟩ = some (.func (.func 69) #[] #[.pointer (some ⟨Bm, 0, none⟩), .pointer (some ⟨Bl, 0, none⟩), .pointer (some ⟨Bs, 0, none⟩), .pointer (some ⟨Bg, 0, none⟩)])
theorem WorkVars.kept {w w' : World} {Bm Bl Bs Bg M : Nat} {a : Option Addr} {len cap : Nat} {set : Int} (h : WorkVars w Bm Bl Bs Bg M a len cap set) (hg : w.grownBy w' (some M)) (hne : Bm ≠ M ∧ Bl ≠ M ∧ Bs ≠ M ∧ Bg ≠ M) : WorkVars w' Bm Bl Bs Bg M a len cap set := by
  refine ⟨?_, ?_, ?_, ?_⟩
  · rw [hg.cell_far _ (lt_of_cell h.1) (by simp; exact hne.1)]; exact h.1
  · rw [hg.cell_far _ (lt_of_cell h.2.1) (by simp; exact hne.2.1)]; exact h.2.1
  · rw [hg.cell_far _ (lt_of_cell h.2.2.1) (by simp; exact hne.2.2.1)]; exact h.2.2.1
  · rw [hg.cell_far _ (lt_of_cell h.2.2.2) (by simp; exact hne.2.2.2)]; exact h.2.2.2
def WorkPost (V : Nat → Bool) (M g : Nat) (w : World) (e : Ending) (w' : World) : Prop :=
  e = .returned (.bool (V g)) ∧ ∃ D', w.grownBy w' (some M) ∧ ownsMemo w' M D' ∧ MemoOk V D'

theorem plainB_gen {P : Program} {e : TypeId} (he : P.underlying e = some .bool) {v : Value} {z : DataW Unit × List MemPlace} (h : plainElem P e v = some z) : ∃ b, v = .bool b ∧ z = (.lit (.bool b), []) := by
  unfold plainElem at h
  rw [he] at h
  cases v <;> simp_all
theorem plainB_any {v : Value} {z : DataW Unit × List MemPlace} (h : plainElem Tryd.prog 4 v = some z) : ∃ b, v = .bool b ∧ z = (.lit (.bool b), []) := plainB_gen Tryd.underlying4 h
theorem plainB_inv {v : Value} {d : DataW Unit} {ps : List MemPlace} {b : Bool} (h : plainElem Tryd.prog 4 v = some (d, ps)) (hd : d = .lit (.bool b)) : v = .bool b := by
  obtain ⟨c, rfl, hz⟩ := plainB_any h
  rw [hd] at hz
  simp only [Prod.mk.injEq, DataW.lit.injEq, Lit.bool.injEq] at hz
  rw [hz.1]
section
variable (w : World) {ops : Array Oper} {rest : List Oper} {o : Oper} {a : Act} {Q : Exit → Act → World → Prop}
/-- 'v, ok := memo[g]'. -/
theorem wp_memo_ok (hg : o.guard = none) (m x : Operand) (hop : o.op = Op.lookup 135 m x true) (M : Nat) (D : DataW Unit) (V : Nat → Bool) (g : Nat) (b : Bool)
    (hm : a.eval m = .map (some M)) (hown : ownsMemo w M D) (hV : MemoOk V D) (hx : a.eval x = .int .i64 g) (hg20 : g < 20) (hb : Maps.has D (.int .i64 (g : Int)) = b)
    (hK : ∀ c : Bool, (b = true → c = V g) → wpList Tryd.prog ops Q rest (a.put o.dst (.tuple #[.bool c, .bool b])) w) :
    wpList Tryd.prog ops Q (o :: rest) a w := by
  refine wpList_lookup_own_ok w hg m x 135 hop 3 4 lawK Tryd.underlying135 (plainElem Tryd.prog 4) (zeroB w) (.lit (.bool false)) [] (plainElem_bool Tryd.underlying4 _) M _ D hm hown (.int .i64 g) (.int .i64 g) hx (keyOf_int_mk Tryd.underlying3 (WalkArith.wf_i64 (by omega))) ?_
  intro v ps hv
  obtain ⟨c, rfl, hz⟩ := plainB_any hv
  rw [hb]
  refine hK c (fun h => ?_)
  have h1 := hV.2.2 g hg20 (hb.trans h) (.lit (.bool false))
  rw [h1] at hz
  simp only [Prod.mk.injEq, DataW.lit.injEq, Lit.bool.injEq] at hz
  exact hz.1.symm
/-- 'memo[g]', where it is there. -/
theorem wp_memo (hg : o.guard = none) (m x : Operand) (hop : o.op = Op.lookup 135 m x false) (M : Nat) (D : DataW Unit) (V : Nat → Bool) (g : Nat)
    (hm : a.eval m = .map (some M)) (hown : ownsMemo w M D) (hV : MemoOk V D) (hx : a.eval x = .int .i64 g) (hg20 : g < 20) (hb : Maps.has D (.int .i64 (g : Int)) = true)
    (hK : wpList Tryd.prog ops Q rest (a.put o.dst (.bool (V g))) w) :
    wpList Tryd.prog ops Q (o :: rest) a w := by
  refine wpList_plain hg fun K' hK' => ?_
  obtain ⟨v, ps, hrun, hv⟩ := hown.lookup lawK Tryd.underlying135 (zeroB w) (plainElem_bool Tryd.underlying4 _) (keyOf_int_mk Tryd.underlying3 (WalkArith.wf_i64 (n := (g : Int)) (by omega)))
  obtain rfl := plainB_inv hv (hV.2.2 g hg20 hb _)
  unfold Oper.wp
  simp [execOp, hop, hm, hx, hrun, Result.andThen]
  exact hK' _ _ hK
end
/-- 'memo[g] = v'. -/
theorem memo_upd {w : World} (M : Nat) (D : DataW Unit) (V : Nat → Bool) (g : Nat) (hown : ownsMemo w M D) (hV : MemoOk V D) (hg20 : g < 20) (b : Bool) (hbv : b = V g) :
    ∃ w' D', (Instr.mapUpdate 135 (.map (some M)) (.int .i64 g) (.bool b)).run Tryd.prog w = .ok () w' ∧ ownsMemo w' M D' ∧ MemoOk V D' ∧ Maps.has D' (.int .i64 (g : Int)) = true ∧ w.grownBy w' (some M) := by
  subst hbv
  have h20 := memo_size hV
  obtain ⟨w', hrun, r1, r2⟩ := hown.update lawK Tryd.underlying135 (by unfold maxLen; omega) (keyOf_int_mk Tryd.underlying3 (WalkArith.wf_i64 (n := (g : Int)) (by omega))) (plainElem_bool Tryd.underlying4 (V g))
  exact ⟨w', _, hrun, memo_fit r1, memo_put hV hg20, Maps.has_put_same hV.1.isMap (isKey_int g) _, r2⟩

set_option maxRecDepth 100000 in
set_option maxHeartbeats 8000000 in
theorem works1_any (Pf : Nat → Bool) (L : List GateT) (n : Nat) (set : Int) (a : Option Addr) (cap : Nat) (w0 : World) (Bm Bl Bs Bg M : Nat) (hC : gatesCheck (n : Int) L = 0) (hset : ∀ k : Nat, k < n → bits .and .i64 (set / 2 ^ k) 1 = if Pf k = true then 1 else 0)
    (hr : Gates w0 a L) (hB0 : w0.heap.size ≤ M) (hne : Bm ≠ M ∧ Bl ≠ M ∧ Bs ≠ M ∧ Bg ≠ M) : ∀ (g : Nat) (D : DataW Unit) (w : World), g < L.length →
    WorkVars w Bm Bl Bs Bg M a L.length cap set → ownsMemo w M D → MemoOk (valG Pf L) D → Below w0.heap.size w0 w →
    Calls Tryd.prog 69 #[.int .i64 g, .pointer (some ⟨Bm, 0, none⟩), .pointer (some ⟨Bl, 0, none⟩), .pointer (some ⟨Bs, 0, none⟩), .pointer (some ⟨Bg, 0, none⟩)] w (WorkPost (valG Pf L) M g w) := by
  obtain ⟨c1, c2, c3, c4, HOK0⟩ := gatesCheck_ok hC
  clear hC
  have HOK := Lib.hid HOK0
  have HSET := Lib.hid hset
  have HRR := Lib.hid hr
  have HNE := Lib.hid hne
  clear HOK0 hset hr hne
  intro g
  induction g using Nat.strongRecOn with
  | ind g ih =>
    intro D w hg hv hown hm hb
    have hg20 : g < 20 := by omega
    have HM := Lib.hid hm
    have HV := Lib.hid hv
    have HB := Lib.hid hb
    have HIH := Lib.hid ih
    have eg := eg_works1
    obtain ⟨v1, v2, v3, v4⟩ := hv
    clear hm ih hb
    cases hh : Maps.has D (.int .i64 (g : Int)) with
    | true =>
      have HH := Lib.hid hh
      clear hh
      go_enter Tryd.func69, Tryd.ntmps69
      go_wp2_with ((at_lookup; refine wp_memo_ok _ rfl _ _ rfl M D (valG Pf L) g true rfl hown HM.out rfl hg20 HH.out ?_; intro c hc))
      obtain rfl := hc trivial
      have HVV := Lib.hid (rfl : valG Pf L g = valG Pf L g)
      clear HVV
      generalize hvv : valG Pf L g = vv at *
      have HVV := Lib.hid hvv
      clear hvv
      go_wp2
      go_ret
      unfold WorkPost
      exact ⟨by rw [HVV.out]; rfl, D, grown_refl' _ _, hown, HM.out⟩
    | false =>
      have HH := Lib.hid hh
      clear hh
      obtain ⟨b2, o2, rfl, hcA⟩ := HRR.out.some hg
      obtain ⟨e0, ar, cr, e1, e2, e3, e4⟩ := hcA g hg
      have hok := HOK.out g hg
      have hvd := val_down (P := Pf) hg hok
      obtain ⟨o1, o2', o3, o4⟩ := hok
      obtain ⟨R, hR⟩ : ∃ R, R = L[g] := ⟨_, rfl⟩
      rw [← hR] at hvd e0 e1 e2 e4 o1 o2' o3 o4
      clear hcA hR
      obtain ⟨z, xs⟩ := R
      simp only at hvd e0 e1 e2 e4 o1 o2' o3 o4
      have hbo := HB.out
      have h0 := (hbo.cell (lt_of_cell e0)).trans e0
      have h1 := (hbo.cell (lt_of_cell e1)).trans e1
      have HVD := Lib.hid hvd
      have HE := Lib.hid (show w0.cell? ⟨b2, o2 + g * 2, none⟩ = _ ∧ w0.cell? ⟨b2, o2 + g * 2 + 1, none⟩ = _ from ⟨e0, e1⟩)
      have HE4 := Lib.hid e4
      have HO4 := Lib.hid o4
      clear hvd e4 o4 hbo e0 e1
      go_enter Tryd.func69, Tryd.ntmps69
      go_wp2_with ((at_lookup; refine wp_memo_ok _ rfl _ _ rfl M D (valG Pf L) g false rfl hown HM.out rfl hg20 HH.out ?_; intro c _))
      go_wp2
      clear v1 v2 v3 v4 h0 h1
      go_loopw [9, 26] (fun nv iv wr => ∃ (q c : Nat) (D' : DataW Unit), q ≤ xs.length ∧ iv = .int .i64 q ∧ nv = .int .i64 c ∧ c ≤ q ∧ w.grownBy wr (some M) ∧ ownsMemo wr M D' ∧ Hid (MemoOk (valG Pf L) D') ∧ Hid (c = (xs.take q).countP (liveV Pf L))) (fun _ iv _ => xs.length - (intOf iv).toNat)
      case atStart => exact ⟨0, 0, D, by omega, rfl, rfl, by omega, grown_refl' _ _, hown, HM, Lib.hid (by simp)⟩
      case round =>
        clear hown HM HH
        obtain ⟨q, c, D', hq, rfl, rfl, hcq, hgr, hown, HM, HQ⟩ := hrel
        have hb := Below.grown HB.out hgr HB.out.size (fun k hk => by cases hk; exact hB0)
        obtain ⟨v1, v2, v3, v4⟩ := HV.out.kept hgr HNE.out
        by_cases hql : q < xs.length
        · have he4 := HE4.out.at hb
          obtain ⟨b3, o3, rfl, hc3⟩ := he4.some hql
          have h5 := hc3 q hql 0 _ rfl
          simp only [Nat.add_zero, Nat.mul_one] at h5
          obtain ⟨x1, x2⟩ := HO4.out _ (List.getElem_mem hql)
          have HN : Hid (∀ bv, liveV Pf L xs[q] = bv → (xs.take (q + 1)).countP (liveV Pf L) = c + if bv = true then 1 else 0) := Lib.hid (fun bv h => by rw [count_take _ _ _ hql, ← HQ.out, h])
          have HL : Hid (liveV Pf L xs[q] = if 0 ≤ xs[q] then Pf xs[q].toNat else valG Pf L (-xs[q] - 1).toNat) := Lib.hid rfl
          clear hc3 HQ he4
          generalize xs[q] = x at *
          by_cases hx0 : 0 ≤ x
          · obtain ⟨p, rfl⟩ := Int.eq_ofNat_of_zero_le hx0
            have hpl : p < n := by omega
            have hbit := HSET.out p hpl
            rw [if_pos hx0, Int.toNat_natCast] at HL
            cases hbv : Pf p with
            | true =>
              have HC : Hid (c + 1 = (xs.take (q + 1)).countP (liveV Pf L)) := Lib.hid ((HN.out _ (HL.out.trans hbv)).symm)
              rw [hbv, if_pos rfl] at hbit
              clear HN HL hbv
              go_wp2_with fail
              exact ⟨⟨q + 1, c + 1, D', by omega, by go_num, by go_num, by omega, hgr, hown, HM, HC⟩, by simp [intOf]; omega⟩
            | false =>
              have HC : Hid (c = (xs.take (q + 1)).countP (liveV Pf L)) := Lib.hid ((HN.out _ (HL.out.trans hbv)).symm)
              rw [hbv, if_neg (by simp)] at hbit
              clear HN HL hbv
              go_wp2_with fail
              exact ⟨⟨q + 1, c, D', by omega, by go_num, rfl, by omega, hgr, hown, HM, HC⟩, by simp [intOf]; omega⟩
          · obtain ⟨j, hj⟩ := Int.eq_ofNat_of_zero_le (show 0 ≤ -x - 1 by omega)
            have hjg : j < g := by omega
            have hw1 : IntKind.i64.wrap (-x) = -x := IntWalk.i64_in _ (by omega)
            have hw2 : IntKind.i64.wrap (-x - 1) = (j : Int) := (IntWalk.i64_in _ (by omega)).trans hj
            have hw3 : wrap64 (-x) = -x := IntWalk.wrap64_in _ (by omega)
            have hw4 : wrap64 (-x - 1) = (j : Int) := (IntWalk.wrap64_in _ (by omega)).trans hj
            have HCALL := Lib.hid (HIH.out j hjg D' wr (by omega) (HV.out.kept hgr HNE.out) hown HM.out hb)
            rw [if_neg hx0, hj, Int.toNat_natCast] at HL
            clear hown hb HM
            cases hbv : valG Pf L j with
            | true =>
              have HC : Hid (c + 1 = (xs.take (q + 1)).countP (liveV Pf L)) := Lib.hid ((HN.out _ (HL.out.trans hbv)).symm)
              have HBV := Lib.hid hbv
              clear HN HL hbv
              go_wp2_with fail
              refine HCALL.out.mono ?_
              intro e w2 hw
              unfold WorkPost at hw
              obtain ⟨rfl, D2, hg2, hown2, hm2⟩ := hw
              have HM2 := Lib.hid hm2
              have hgr2 := grown_next' hgr hg2
              rw [HBV.out]
              clear hg2 hgr hm2
              go_wp2
              exact ⟨⟨q + 1, c + 1, D2, by omega, by go_num, by go_num, by omega, hgr2, hown2, HM2, HC⟩, by simp [intOf]; omega⟩
            | false =>
              have HC : Hid (c = (xs.take (q + 1)).countP (liveV Pf L)) := Lib.hid ((HN.out _ (HL.out.trans hbv)).symm)
              have HBV := Lib.hid hbv
              clear HN HL hbv
              go_wp2_with fail
              refine HCALL.out.mono ?_
              intro e w2 hw
              unfold WorkPost at hw
              obtain ⟨rfl, D2, hg2, hown2, hm2⟩ := hw
              have HM2 := Lib.hid hm2
              have hgr2 := grown_next' hgr hg2
              rw [HBV.out]
              clear hg2 hgr hm2
              go_wp2
              exact ⟨⟨q + 1, c, D2, by omega, by go_num, rfl, by omega, hgr2, hown2, HM2, HC⟩, by simp [intOf]; omega⟩
        · obtain rfl : q = xs.length := by omega
          have HVG : Hid (decide (z ≤ (c : Int)) = valG Pf L g) := Lib.hid (by
            have h := HQ.out
            rw [List.take_length] at h
            rw [HVD.out, ← h])
          have h0 := (hb.cell (lt_of_cell HE.out.1)).trans HE.out.1
          clear HQ hql
          go_wp2_with fail
          have hownd : ownsMemo wr.drew M D' := hown
          obtain ⟨w2, D2, hrun2, hown2, hm2, hh2, hg2⟩ := memo_upd M D' (valG Pf L) g hownd HM.out hg20 _ HVG.out
          have hg2 : wr.grownBy w2 (some M) := grown_next' (show wr.grownBy wr.drew (some M) from ⟨rfl, rfl, rfl, Nat.le_refl _, fun _ _ _ => rfl⟩) hg2
          obtain ⟨m1, m2, m3, m4⟩ := (HV.out.kept hgr HNE.out).kept (w := wr) (w' := w2) hg2 HNE.out
          have hb2M := lt_of_cell HE.out.1
          simp only at hb2M
          have m0 := (hg2.cell_far ⟨b2, o2 + g * 2, none⟩ (lt_of_cell h0) (by simp; omega)).trans h0
          go_region_held3 (fun w' => w'.cell? ⟨Bm, 0, none⟩ = some (.map (some M)) ∧ w'.cell? ⟨Bl, 0, none⟩ = some (.slice (some ⟨b2, o2, none⟩) L.length cap) ∧ w'.cell? ⟨b2, o2 + g * 2, none⟩ = some (.int .i64 z))
            (first | exact ⟨v1, v2, h0⟩ | exact ⟨m1, m2, m0⟩ | go_keep)
            (fail)
          have HH2 := Lib.hid hh2
          have HM2 := Lib.hid hm2
          clear hm2 hh2 hrun2
          go_wp2_with ((at_lookup; refine wp_memo _ rfl _ _ rfl M D2 (valG Pf L) g rfl hown2 HM2.out rfl hg20 HH2.out ?_))
          generalize hvv : valG Pf L g = vv at *
          have HVV := Lib.hid hvv
          clear hvv
          go_wp2
          go_ret
          unfold WorkPost
          exact ⟨by rw [HVV.out]; rfl, D2, grown_next' hgr hg2, hown2, HM2.out⟩

set_option maxRecDepth 100000 in
set_option maxHeartbeats 8000000 in
theorem refWorks_any (Pf : Nat → Bool) (L : List GateT) (n : Nat) (set : Int) (a : Option Addr) (m cap : Nat) (w : World) (hl : m = L.length) (hC : gatesCheck (n : Int) L = 0) (hset : ∀ k : Nat, k < n → bits .and .i64 (set / 2 ^ k) 1 = if Pf k = true then 1 else 0)
    (hr : Gates w a L) :
    Calls Tryd.prog 22 #[.slice a m cap, .int .i64 set] w fun e w' => e = .returned (.bool (worksG Pf L)) ∧ Below w.heap.size w w' := by
  subst hl
  obtain ⟨c1, c2, c3, c4, _⟩ := gatesCheck_ok hC
  obtain ⟨j, hj⟩ : ∃ j, j = L.length - 1 := ⟨_, rfl⟩
  have hjl : j < L.length := by omega
  have hw1 : IntKind.i64.wrap ((L.length : Int) - 1) = (j : Int) := (IntWalk.i64_in _ (by omega)).trans (by omega)
  have hw2 : wrap64 ((L.length : Int) - 1) = (j : Int) := (IntWalk.wrap64_in _ (by omega)).trans (by omega)
  have HRR := Lib.hid hr
  have HS := Lib.hid hset
  have HC := Lib.hid hC
  have HW : Hid (worksG Pf L = valG Pf L j) := Lib.hid (by rw [hj]; rfl)
  have eg := eg_works1
  have hmm := @run_makeMap Tryd.prog
  clear hr hset hC hj
  go_enter Tryd.func22, Tryd.ntmps22
  go_wp2_with fail
  have hmap : ownsMemo (((w.alloc (.cells #[.slice a L.length cap] 41)).alloc (.cells #[.int .i64 set] 3)).alloc (.map #[] 0)) (w.heap.size + 1 + 1) (.map [] : DataW Unit) := by
    have h := World.ownsMap_made (H := Unit) ((w.alloc (.cells #[.slice a L.length cap] 41)).alloc (.cells #[.int .i64 set] 3)) Tryd.prog 3 (plainElem Tryd.prog 4)
    have h2 := memo_fit h
    simpa using h2
  have hb4 : Below w.heap.size w (((w.alloc (.cells #[.slice a L.length cap] 41)).alloc (.cells #[.int .i64 set] 3)).alloc (.map #[] 0)) :=
    (((Below.refl _ _).alloc (Nat.le_refl _) _).alloc (by simp) _).alloc (by simp; omega) _
  refine (works1_any Pf L n set a cap w (w.heap.size + 1 + 1 + 1) w.heap.size (w.heap.size + 1) (w.heap.size + 1 + 1 + 1 + 1) (w.heap.size + 1 + 1) HC.out HS.out HRR.out (by omega) ⟨by omega, by omega, by omega, by omega⟩ j (.map []) (((((w.alloc (.cells #[.slice a L.length cap] 41)).alloc (.cells #[.int .i64 set] 3)).alloc (.map #[] 0)).alloc (.cells #[.map (some (w.heap.size + 1 + 1))] 135)).alloc (.cells #[.func (.func 69) #[] #[.pointer (some ⟨w.heap.size + 1 + 1 + 1, 0, none⟩), .pointer (some ⟨w.heap.size, 0, none⟩), .pointer (some ⟨w.heap.size + 1, 0, none⟩), .pointer (some ⟨w.heap.size + 1 + 1 + 1 + 1, 0, none⟩)]] 128)) hjl
    ⟨cell_a1 (cell_nw (by simp)) _, cell_a1 (cell_a1 (cell_a1 (cell_a1 (cell_nw rfl) _) _) _) _, cell_a1 (cell_a1 (cell_a1 (cell_nw (by simp)) _) _) _, cell_nw (by simp)⟩ ((hmap.alloc _).alloc _) (memo_none _) ((hb4.alloc (by simp; omega) _).alloc (by simp; omega) _)).mono ?_
  intro e w2 hw
  unfold WorkPost at hw
  obtain ⟨rfl, D2, hg2, hown2, hm2⟩ := hw
  have hb5 := Below.grown ((hb4.alloc (by simp; omega) _).alloc (by simp; omega) _) hg2 (by simp; omega) (fun k hk => by cases hk; omega)
  clear hg2 hown2 hm2 hmap hb4
  generalize valG Pf L j = vv at *
  go_wp2
  go_ret
  exact ⟨by rw [HW.out]; rfl, hb5⟩
end Go.Proofs.YtfaklhkdfpfjgaaDoor
