/- How many people are in each branch (20.2): the reference's Branches and tree.Branches. -/
import Derived.Test.YtogbmpnbbkcocaaDoorTreeSum
import Derived.Test.YtogbmpnbbkcocaaDoorTreeConcat
namespace Go.Proofs.YtogbmpnbbkcocaaDoor
open Go.RowKit

theorem closed_exists {es : List R3} {r n : Nat} (hE : ∀ e ∈ es, okEdge n e) : ∃ f, Grow es r f ∧ Closed es f := by
  have key : ∀ k f, unr n f ≤ k → Grow es r f → ∃ g, Grow es r g ∧ Closed es g := by
    intro k
    induction k with
    | zero =>
      intro f hk hg
      refine ⟨f, hg, fun e he p i hj hp => ?_⟩
      rcases Int.lt_or_le (f i) 0 with h | h
      · have := unr_set n f i 0 (joins_lt (hE e he) hj).2 h (by omega)
        omega
      · exact h
    | succ k ih =>
      intro f hk hg
      by_cases hc : Closed es f
      · exact ⟨f, hg, hc⟩
      · simp only [Closed, Classical.not_forall] at hc
        obtain ⟨e, he, p, i, hj, hp, hi⟩ := hc
        have h := unr_set n f i (f p + e.2.2) (joins_lt (hE e he) hj).2 (by omega) (by have := (hE e he).2.2.2.2.1; omega)
        exact ih _ (by omega) (hg.step he hj hp (by omega))
  exact key _ _ (Nat.le_refl _) Grow.start
open Classical in
/-- Is a place reached? -/
noncomputable def inM (es : List R3) (r i : Nat) : Bool := decide (∃ f, Grow es r f ∧ 0 ≤ f i)
theorem inM_eq {es : List R3} {r : Nat} {f : Nat → Int} (hg : Grow es r f) (hc : Closed es f) (i : Nat) : inM es r i = decide (0 ≤ f i) := by
  unfold inM
  refine decide_eq_decide.2 ⟨?_, fun h => ⟨f, hg, h⟩⟩
  rintro ⟨g, h1, h2⟩
  exact grow_same h1 hg hc i h2
def sumSel (b : Nat → Bool) (ps : List Int) : Nat → Int
  | 0 => 0
  | k + 1 => sumSel b ps k + (if b k = true then ps.getD k 0 else 0)
theorem sumSel_bd {ps : List Int} (b : Nat → Bool) (hp : ∀ p ∈ ps, 0 ≤ p ∧ p ≤ 10000) : ∀ k, 0 ≤ sumSel b ps k ∧ sumSel b ps k ≤ k * 10000 := by
  intro k
  induction k with
  | zero => simp [sumSel]
  | succ k ih =>
    have h : 0 ≤ ps.getD k 0 ∧ ps.getD k 0 ≤ 10000 := by
      rcases Nat.lt_or_ge k ps.length with g | g
      · rw [getD_nat g]; exact hp _ (List.getElem_mem g)
      · simp [List.getD, List.getElem?_eq_none g]
    unfold sumSel
    split <;> omega
theorem sumSel_congr {b c : Nat → Bool} {ps : List Int} : ∀ n, (∀ i, i < n → b i = c i) → sumSel b ps n = sumSel c ps n := by
  intro n
  induction n with
  | zero => intro _; rfl
  | succ n ih =>
    intro h
    unfold sumSel
    rw [ih (fun i hi => h i (by omega)), h n (by omega)]
def x3 (xs : List R3) (k : Nat) : R3 := xs.getD k (0, 0, 0)
theorem x3_get {xs : List R3} {k : Nat} (h : k < xs.length) : xs[k] = x3 xs k := by simp [x3, List.getD, h]
/-- The branches at a place, of the first k edges. -/
def brL (xs : List R3) (v : Nat → Int) (r : Nat) : Nat → List Int
  | 0 => []
  | k + 1 => if (x3 xs k).1 = (r : Int) ∨ (x3 xs k).2.1 = (r : Int) then brL xs v r k ++ [v k] else brL xs v r k
theorem brL_len (xs : List R3) (v : Nat → Int) (r : Nat) : ∀ k, (brL xs v r k).length ≤ k := by
  intro k
  induction k with
  | zero => simp [brL]
  | succ k ih =>
    unfold brL
    split
    · rw [List.length_append]
      show _ + 1 ≤ _
      omega
    · omega
noncomputable def brV (m : Nat) (xs : List R3) (ps : List Int) (r k : Nat) : Int := sumSel (fun i => !inM (xs.eraseIdx k) r i) ps m
theorem TreeOk.cut {m : Nat} {xs : List R3} (h : TreeOk m xs) {r q k : Nat} (hr : r < m) (hk : k < xs.length) (hj : joins xs[k] r q) (ps : List Int) : sumSel (fun i => inM (xs.eraseIdx k) q i) ps m = brV m xs ps r k := by
  have hE : ∀ e ∈ xs.eraseIdx k, okEdge m e := fun e he => h.ok e (List.mem_of_mem_eraseIdx he)
  obtain ⟨F, hF1, hF2⟩ := closed_exists (r := r) h.ok
  obtain ⟨f, hf1, hf2⟩ := closed_exists (r := r) hE
  obtain ⟨g, hg1, hg2⟩ := closed_exists (r := q) hE
  refine sumSel_congr m (fun i hi => ?_)
  have hc := tree_cut hF1 (h.reach hr hF1 hF2) h.len hk hr hj hf1 hf2 hg1 hg2 i hi
  show inM (xs.eraseIdx k) q i = !inM (xs.eraseIdx k) r i
  rw [inM_eq hf1 hf2, inM_eq hg1 hg2]
  rcases Int.lt_or_le (f i) 0 with h2 | h2
  · rw [decide_eq_true (hc.2 h2), decide_eq_false (by omega)]; rfl
  · rw [decide_eq_false (fun h3 => by have := hc.1 h3; omega), decide_eq_true h2]; rfl
theorem hes_cut (xs : List R3) (k : Nat) : ∀ e, e ∈ xs.eraseIdx k ↔ ∃ j, ∃ h : j < xs.length, (j : Int) ≠ (k : Int) ∧ xs[j] = e := by
  intro e
  rw [List.mem_eraseIdx_iff_getElem]
  constructor
  · rintro ⟨j, h, hne, rfl⟩; exact ⟨j, h, by omega, rfl⟩
  · rintro ⟨j, h, hne, rfl⟩; exact ⟨j, h, by omega, rfl⟩

def BrPost (L : List Int) (w : World) (e : Ending) (w' : World) : Prop := ∃ a' cap', e = .returned (.slice a' L.length cap') ∧ Elems encI 1 w' a' L ∧ Below w.heap.size w w'
set_option maxRecDepth 100000 in
set_option maxHeartbeats 8000000 in
theorem refBranches_any (a a2 : Option Addr) (n n2 cap cap2 m r : Nat) (xs : List R3) (ps : List Int) (w : World) (hl : n = xs.length) (hl2 : n2 = ps.length) (hn : xs.length ≤ 100) (hT : peoErr m xs ps = 0) (hr : r < m) (hx : Elems enc3 3 w a xs) (hp : Elems encI 1 w a2 ps) :
    Calls Tryd.prog 25 #[.int .i64 m, .slice a n cap, .slice a2 n2 cap2, .int .i64 r] w (BrPost (brL xs (brV m xs ps r) r xs.length) w) := by
  subst hl; subst hl2
  have HX := Lib.hid hx
  have HP := Lib.hid hp
  obtain ⟨hT1, hT2, hT3⟩ := peo_ok hT
  obtain ⟨m', hm', hTO⟩ := treeOk hT1
  obtain rfl : m = m' := by omega
  have hlow := hTO.low
  have hpl : ps.length = m := by omega
  have HPL := Lib.hid hpl
  have HTO := Lib.hid hTO
  have HT3 := Lib.hid hT3
  clear hx hp hT hT1 hT2 hT3 hm' hTO hpl
  go_enter Tryd.func25, Tryd.ntmps25
  go_wp2
  go_loopw [9, 17] (fun ov iv wr => ∃ k : Nat, k ≤ xs.length ∧ iv = .int .i64 k ∧ wr.ownsRow w.heap.size 3 1 ov (brL xs (brV m xs ps r) r k).length ((brL xs (brV m xs ps r) r k).map (Value.int .i64)) ∧ Below w.heap.size w wr) (fun _ iv _ => xs.length - (intOf iv).toNat)
  case atStart => exact ⟨0, by omega, rfl, World.ownsRow_nil _ _ _ _, Below.refl _ _⟩
  case round =>
    obtain ⟨k, hk, rfl, hown, hb⟩ := hrel
    by_cases hlt : k < xs.length
    · obtain ⟨b, o, rfl, hc⟩ := HX.out.some hlt
      have c1 := (hb.cell (lt_of_cell (hc k hlt 0 _ rfl))).trans (hc k hlt 0 _ rfl)
      have c2 := (hb.cell (lt_of_cell (hc k hlt 1 _ rfl))).trans (hc k hlt 1 _ rfl)
      have c3 := (hb.cell (lt_of_cell (hc k hlt 2 _ rfl))).trans (hc k hlt 2 _ rfl)
      simp only [Nat.add_zero] at c1
      have hok := HTO.out.ok _ (List.getElem_mem hlt)
      rw [x3_get hlt] at c1 c2 c3 hok
      have hlk := brL_len xs (brV m xs ps r) r k
      have HSY : Hid (((x3 xs k).1 = (r : Int) ∨ (x3 xs k).2.1 = (r : Int)) → brL xs (brV m xs ps r) r (k + 1) = brL xs (brV m xs ps r) r k ++ [brV m xs ps r k]) := Lib.hid (fun h => if_pos h)
      have HSN : Hid (¬ ((x3 xs k).1 = (r : Int) ∨ (x3 xs k).2.1 = (r : Int)) → brL xs (brV m xs ps r) r (k + 1) = brL xs (brV m xs ps r) r k) := Lib.hid (fun h => if_neg h)
      obtain ⟨p, hp0⟩ := Int.eq_ofNat_of_zero_le hok.1
      obtain ⟨q, hq0⟩ := Int.eq_ofNat_of_zero_le hok.2.2.1
      rw [hp0] at c1 HSY HSN
      rw [hq0] at c2 HSY HSN
      generalize (x3 xs k).2.2 = L at *
      generalize brL xs (brV m xs ps r) r k = L0 at *
      clear hc hok hp0 hq0
      have howna := hown.alloc (.cells #[.int .i64 p, .int .i64 q, .int .i64 L] 82)
      have hba := hb.alloc hb.size (.cells #[.int .i64 p, .int .i64 q, .int .i64 L] 82)
      by_cases hpq : (p : Int) = r ∨ (q : Int) = r
      · have HS := Lib.hid (HSY.out hpq)
        have HF := Lib.hid (refFar_any (xs.eraseIdx k) k (some ⟨b, o, none⟩) xs.length cap m r xs _ rfl hn hlow hr HTO.out.ok (hes_cut xs k) (HX.out.below hba (Nat.le_refl _)))
        have hcase : ((p : Int) == (r : Int)) = true ∨ (((p : Int) == (r : Int)) = false ∧ ((q : Int) == (r : Int)) = true) := by
          by_cases h : (p : Int) = r
          · exact Or.inl (by simpa using h)
          · exact Or.inr ⟨beq_eq_false_iff_ne.2 h, by simpa using hpq.resolve_left h⟩
        clear HSY HSN hpq hown
        rcases hcase with hd1 | ⟨hd1, hd2⟩
        all_goals
          go_wp2_with fail
          refine HF.out.mono ?_
          intro e w3 hw3
          unfold FromPost at hw3
          obtain ⟨a3, c3', f, rfl, he3, hg3, hcl3, hb3⟩ := hw3
          have hown3 := owns_at howna hb3
          have hb4 := below_next hba hb3
          have HE3 := Lib.hid he3
          have HP3 := Lib.hid (HP.out.at hb4)
          have HIN := Lib.hid (fun i => inM_eq hg3 hcl3 i)
          have HV : Hid (brV m xs ps r k = sumSel (fun i => !inM (xs.eraseIdx k) r i) ps m) := Lib.hid rfl
          obtain ⟨bs, hbs⟩ : ∃ bs : Nat → Bool, bs = fun i => !inM (xs.eraseIdx k) r i := ⟨_, rfl⟩
          rw [← hbs] at HV
          have HBS : Hid (∀ i, bs i = decide (f i < 0)) := Lib.hid (fun i => by
            rw [hbs]
            simp only
            rw [HIN.out i]
            by_cases h : 0 ≤ f i
            · rw [decide_eq_true h, decide_eq_false (by omega)]; rfl
            · rw [decide_eq_false h, decide_eq_true (by omega)]; rfl)
          have HBD := Lib.hid (sumSel_bd bs HT3.out)
          clear hbs he3 hg3 hcl3 hb3 howna hba HIN c1 c2 c3 hb HF
          go_wp2
          go_loop [12, 38] (fun nv iv => ∃ j : Nat, j ≤ m ∧ iv = .int .i64 j ∧ nv = .int .i64 (sumSel bs ps j)) (fun _ iv => m - (intOf iv).toNat)
          case atStart => exact ⟨0, by omega, rfl, rfl⟩
          case round =>
            obtain ⟨j, hj, rfl, rfl⟩ := hrel
            by_cases hjm : j < m
            · have hj1 : j < (tabI m f).length := by rw [tabI_len]; exact hjm
              have hj2 : j < ps.length := by rw [HPL.out]; exact hjm
              obtain ⟨b1, o1, rfl, hc1⟩ := HE3.out.some hj1
              obtain ⟨b2, o2, rfl, hc2⟩ := HP3.out.some hj2
              have g1 := hc1 j hj1 0 _ rfl
              have g2 := hc2 j hj2 0 _ rfl
              simp only [Nat.add_zero, Nat.mul_one] at g1 g2
              rw [tabI_get] at g1
              have hbd := HBD.out j
              have hbd1 := hbd.1
              have hbd2 : sumSel bs ps j ≤ 10000000 := by omega
              have hpj := HT3.out _ (List.getElem_mem hj2)
              have hpj1 := hpj.1
              have hpj2 := hpj.2
              by_cases hf : f j < 0
              · have HST := Lib.hid (show sumSel bs ps (j + 1) = sumSel bs ps j + ps[j] by
                  show _ + (if bs j = true then _ else _) = _
                  rw [HBS.out j, decide_eq_true hf, if_pos rfl, getD_nat hj2])
                clear hc1 hc2 hbd hpj
                generalize sumSel bs ps j = s at *
                generalize ps[j] = pj at *
                generalize f j = fj at *
                go_wp2
                exact ⟨⟨j + 1, by omega, by go_num, by rw [HST.out]⟩, by simp [intOf]; omega⟩
              · have HST := Lib.hid (show sumSel bs ps (j + 1) = sumSel bs ps j by
                  show _ + (if bs j = true then _ else _) = _
                  rw [HBS.out j, decide_eq_false hf, if_neg (by decide), Int.add_zero])
                clear hc1 hc2 hbd hpj
                generalize sumSel bs ps j = s at *
                generalize f j = fj at *
                go_wp2
                exact ⟨⟨j + 1, by omega, by go_num, by rw [HST.out]⟩, by simp [intOf]; omega⟩
            · obtain rfl : j = m := by omega
              rw [← HV.out]
              have hbsz := hb4.size
              have HS2 := Lib.hid HS.out
              generalize brV j xs ps r k = bv at *
              go_wp2_with (at_builtin; (refine app_row rowN rfl _ _ rfl w.heap.size rfl hown3 [.int .i64 bv] rfl (by first | rfl | simp) rfl (encI_one _) (by unfold maxLen; omega) (by omega) hbsz ?_))
              intro v' w4 hown4 hb5
              rw [show L0.map (Value.int .i64) ++ [Value.int .i64 bv] = (L0 ++ [bv]).map (Value.int .i64) by simp, show L0.length + 1 = (L0 ++ [bv]).length by simp, ← HS2.out] at hown4
              have hb6 := hb4.trans hb5
              have HO4 := Lib.hid hown4
              clear hown4 hown3 hb4 hb5 HS HS2 HV
              go_wp2
              exact ⟨⟨k + 1, by omega, by go_num, HO4.out, hb6⟩, by simp [intOf]; omega⟩
      · have HS := Lib.hid (HSN.out hpq)
        have hd1 : ((p : Int) == (r : Int)) = false := beq_eq_false_iff_ne.2 (fun h => hpq (Or.inl h))
        have hd2 : ((q : Int) == (r : Int)) = false := beq_eq_false_iff_ne.2 (fun h => hpq (Or.inr h))
        rw [← HS.out] at howna
        have HO := Lib.hid howna
        clear HSY HSN hpq hown howna HS
        go_wp2
        exact ⟨⟨k + 1, by omega, by go_num, HO.out, hba⟩, by simp [intOf]; omega⟩
    · obtain rfl : k = xs.length := by omega
      obtain ⟨a', cap', rfl, he, _⟩ := ints_of_owns rfl hown
      clear hown
      go_wp2
      go_ret
      unfold BrPost
      exact ⟨a', cap', rfl, he, hb⟩
end Go.Proofs.YtogbmpnbbkcocaaDoor
