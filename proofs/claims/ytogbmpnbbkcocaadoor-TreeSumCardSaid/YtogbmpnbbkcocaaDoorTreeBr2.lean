/- tree.Branches: how many people are in each branch. -/
import Derived.Test.YtogbmpnbbkcocaaDoorTreeBr
import Derived.Deep.RegionWith
namespace Go.Proofs.YtogbmpnbbkcocaaDoor
open Go.RowKit

theorem elems_take {w : World} {a : Addr} {xs : List R3} (h : Elems enc3 3 w (some a) xs) (k : Nat) : Elems enc3 3 w (some a) (xs.take k) := by
  by_cases hx : 0 < (xs.take k).length
  · have hx2 : 0 < xs.length := by rw [List.length_take] at hx; omega
    obtain ⟨b, o, ha, hc⟩ := h.some hx2
    refine Or.inr ⟨b, o, ha, fun j hj i u hu => ?_⟩
    have hj2 : j < xs.length := by rw [List.length_take] at hj; omega
    rw [List.getElem_take] at hu
    exact hc j hj2 i u hu
  · exact Or.inl (List.eq_nil_of_length_eq_zero (by omega))
theorem elems_drop {w : World} {b o : Nat} {xs : List R3} (h : ∀ j (h : j < xs.length) i u, (enc3 xs[j])[i]? = some u → w.cell? ⟨b, o + j * 3 + i, none⟩ = some u) (k : Nat) : Elems enc3 3 w (some ⟨b, o + k * 3, none⟩) (xs.drop k) := by
  refine Or.inr ⟨b, o + k * 3, rfl, fun j hj i u hu => ?_⟩
  rw [List.length_drop] at hj
  rw [List.getElem_drop] at hu
  have := h (k + j) (by omega) i u hu
  rw [show o + (k + j) * 3 + i = o + k * 3 + j * 3 + i by omega] at this
  exact this

def BrPost2 (L : List Int) (w : World) (e : Ending) (w' : World) : Prop := ∃ a' cap', e = .returned (.tuple #[.slice a' L.length cap', .nilIface]) ∧ Elems encI 1 w' a' L ∧ Below w.heap.size w w'
set_option maxRecDepth 100000 in
set_option maxHeartbeats 8000000 in
theorem branches_ok (a a2 : Option Addr) (n n2 cap cap2 m r : Nat) (xs : List R3) (ps : List Int) (w : World) (hl : n = xs.length) (hl2 : n2 = ps.length) (hn : xs.length ≤ 100) (hn2 : ps.length ≤ 100) (hcap : n ≤ cap) (hcm : cap ≤ maxLen) (hT : peoErr m xs ps = 0) (hr : r < m) (hx : Elems enc3 3 w a xs) (hp : Elems encI 1 w a2 ps) :
    Calls Tryd.prog 27 #[.int .i64 m, .slice a n cap, .slice a2 n2 cap2, .int .i64 r] w (BrPost2 (brL xs (brV m xs ps r) r xs.length) w) := by
  subst hl; subst hl2
  have HX := Lib.hid hx
  have HP := Lib.hid hp
  have hC := weights_any a a2 _ _ cap cap2 m xs ps w rfl rfl hn hn2 hx hp
  rw [hT, show errV 0 = .nilIface from rfl] at hC
  obtain ⟨hT1, hT2, hT3⟩ := peo_ok hT
  obtain ⟨m', hm', hTO⟩ := treeOk hT1
  obtain rfl : m = m' := by omega
  have hlow := hTO.low
  have hpl : ps.length = m := by omega
  have HPL := Lib.hid hpl
  have HTO := Lib.hid hTO
  have HT3 := Lib.hid hT3
  have hr1 : ¬ ((r : Int) < 0) := by omega
  have hr2 : ¬ ((m : Int) ≤ (r : Int)) := by omega
  have hd0 : decide ((r : Int) < 0) = false := decide_eq_false hr1
  have hd00 : decide (m ≤ r) = false := decide_eq_false (by omega)
  unfold maxLen at hcm
  clear hx hp hT hT1 hT2 hT3 hm' hTO hpl
  go_enter Tryd.func27, Tryd.ntmps27
  go_wp2_with fail
  refine hC.mono ?_
  rintro e w1 ⟨rfl, hb1⟩
  clear hC
  go_wp2
  go_loopw [11, 35] (fun ov iv wr => ∃ k : Nat, k ≤ xs.length ∧ iv = .int .i64 k ∧ wr.ownsRow w.heap.size 3 1 ov (brL xs (brV m xs ps r) r k).length ((brL xs (brV m xs ps r) r k).map (Value.int .i64)) ∧ Below w.heap.size w wr) (fun _ iv _ => xs.length - (intOf iv).toNat)
  case atStart => exact ⟨0, by omega, rfl, World.ownsRow_nil _ _ _ _, hb1⟩
  case round =>
    clear hb1
    obtain ⟨k, hk, rfl, hown, hb⟩ := hrel
    by_cases hlt : k < xs.length
    · obtain ⟨b, o, rfl, hc⟩ := HX.out.some hlt
      have HCX := Lib.hid hc
      have c1 := (hb.cell (lt_of_cell (hc k hlt 0 _ rfl))).trans (hc k hlt 0 _ rfl)
      have c2 := (hb.cell (lt_of_cell (hc k hlt 1 _ rfl))).trans (hc k hlt 1 _ rfl)
      have c3 := (hb.cell (lt_of_cell (hc k hlt 2 _ rfl))).trans (hc k hlt 2 _ rfl)
      simp only [Nat.add_zero] at c1
      have hok := HTO.out.ok _ (List.getElem_mem hlt)
      have hjn : ∀ p q : Nat, xs[k].1 = (p : Int) → xs[k].2.1 = (q : Int) → joins xs[k] p q := fun p q h1 h2 => Or.inl ⟨h1, h2⟩
      have HJN := Lib.hid hjn
      have HXG := Lib.hid (x3_get hlt)
      rw [x3_get hlt] at c1 c2 c3 hok
      have hlk := brL_len xs (brV m xs ps r) r k
      have HSY : Hid (((x3 xs k).1 = (r : Int) ∨ (x3 xs k).2.1 = (r : Int)) → brL xs (brV m xs ps r) r (k + 1) = brL xs (brV m xs ps r) r k ++ [brV m xs ps r k]) := Lib.hid (fun h => if_pos h)
      have HSN : Hid (¬ ((x3 xs k).1 = (r : Int) ∨ (x3 xs k).2.1 = (r : Int)) → brL xs (brV m xs ps r) r (k + 1) = brL xs (brV m xs ps r) r k) := Lib.hid (fun h => if_neg h)
      obtain ⟨p, hp0⟩ := Int.eq_ofNat_of_zero_le hok.1
      obtain ⟨q, hq0⟩ := Int.eq_ofNat_of_zero_le hok.2.2.1
      have hpm : p < m := by have := hok.2.1; omega
      have hqm : q < m := by have := hok.2.2.2.1; omega
      have HPQ := Lib.hid (show xs[k].1 = (p : Int) ∧ xs[k].2.1 = (q : Int) by rw [x3_get hlt]; exact ⟨hp0, hq0⟩)
      rw [hp0] at c1 HSY HSN
      rw [hq0] at c2 HSY HSN
      generalize (x3 xs k).2.2 = L at *
      generalize brL xs (brV m xs ps r) r k = L0 at *
      clear hc hok hp0 hq0 hjn
      have howna := hown.alloc (.cells #[.int .i64 p, .int .i64 q, .int .i64 L] 81)
      have hba := hb.alloc hb.size (.cells #[.int .i64 p, .int .i64 q, .int .i64 L] 81)
      by_cases hpq : (p : Int) = r ∨ (q : Int) = r
      · have HS := Lib.hid (HSY.out hpq)
        -- the other end, and that the branch beyond it is what the reference counts
        obtain ⟨ot, hot⟩ : ∃ ot : Nat, (p : Int) + q - r = ot ∧ ot < m ∧ joins xs[k] r ot := by
          rcases hpq with h | h
          · obtain rfl : p = r := by omega
            exact ⟨q, by omega, hqm, HJN.out p q HPQ.out.1 HPQ.out.2⟩
          · obtain rfl : q = r := by omega
            exact ⟨p, by omega, hpm, joins_sym (HJN.out p q HPQ.out.1 HPQ.out.2)⟩
        have HOT := Lib.hid hot.1
        have hotm := hot.2.1
        have HCUT := Lib.hid (HTO.out.cut hr hlt hot.2.2 ps)
        have hcase : ((p : Int) != (r : Int)) = false ∨ (((p : Int) != (r : Int)) = true ∧ ((q : Int) != (r : Int)) = false) := by
          by_cases h : (p : Int) = r
          · exact Or.inl (by simpa using h)
          · exact Or.inr ⟨by simpa using h, by simpa using hpq.resolve_left h⟩
        have hkc : k + 1 ≤ cap := by omega
        clear HSY HSN hpq hown hot
        have hw1 : IntKind.i64.wrap ((k : Int) + 1) = (k : Int) + 1 := IntWalk.i64_in _ (by omega)
        have hi1 : (0 : Int) ≤ (k : Int) + 1 := by omega
        have hi2 : (k : Int) + 1 ≤ (xs.length : Int) := by omega
        have hi3 : (k : Int) + 1 ≤ (cap : Int) := by omega
        have hi4 : ((k : Int) + 1).toNat = k + 1 := by omega
        have hi5 : (k : Int) ≤ (cap : Int) := by omega
        have hdrop : ∃ ad2 : Addr, (if cap = k + 1 then some (⟨b, o, none⟩ : Addr) else some ⟨b, o + (k + 1) * 3, none⟩) = some ad2 ∧ Elems enc3 3 w (some ad2) (xs.drop (k + 1)) := by
          by_cases h : cap = k + 1
          · exact ⟨⟨b, o, none⟩, if_pos h, Or.inl (List.drop_eq_nil_of_le (by omega))⟩
          · exact ⟨_, if_neg h, elems_drop HCX.out (k + 1)⟩
        obtain ⟨ad2, had2, hed⟩ := hdrop
        have HED := Lib.hid hed
        have hW : ∀ o', Below w.heap.size w ((wr.alloc (.cells #[.int .i64 p, .int .i64 q, .int .i64 L] 81)).alloc o').drew := fun o' => (hba.alloc hba.size o').drew
        have HW := Lib.hid hW
        have HOA := Lib.hid (fun o' => ((howna.alloc o').drew))
        have hel : (xs.eraseIdx k).length ≤ 100 := by rw [List.length_eraseIdx, if_pos hlt]; omega
        have hEE : ∀ e ∈ xs.eraseIdx k, okEdge m e := fun e he => HTO.out.ok e (List.mem_of_mem_eraseIdx he)
        have HEE := Lib.hid hEE
        have hL0 : L0.length ≤ 100 := by omega
        clear hed hW howna hEE
        rcases hcase with hd1 | ⟨hd1, hd2⟩
        all_goals
          go_wp2_with fail
          go_region_held3 (fun _ => True) (trivial)
            ((go_at_call 51; refine (concat_any (wr.heap.size + 1) k cap (xs.length - (k + 1)) (cap - (k + 1)) ⟨b, o, none⟩ ad2 (xs.take k) (xs.drop (k + 1)) _ (by rw [List.length_take]; omega) (by rw [List.length_drop]) (by rw [List.length_take, List.length_drop]; omega) (by simp) (by simp) (by exact (elems_take HX.out k).below (HW.out _) (Nat.le_refl _)) (by exact HED.out.below (HW.out _) (Nat.le_refl _))).mono ?_; intro e w5 hw5; unfold ConcatPost at hw5; obtain ⟨a5, c5, rfl, he5, hb5⟩ := hw5))
          rw [← List.eraseIdx_eq_take_drop_succ] at he5
          obtain ⟨N, hN⟩ : ∃ N, N = k + (xs.length - (k + 1)) := ⟨_, rfl⟩
          rw [← hN]
          have hNl : N = (xs.eraseIdx k).length := by rw [List.length_eraseIdx, if_pos hlt]; omega
          have hb05 := (HW.out _).trans (hb5.mono (by have := (HW.out (.cells #[] 0)).size; simp at this ⊢; omega))
          have hown5 := owns_at (HOA.out _) hb5
          have z1 := (hb5.cell (p := ⟨wr.heap.size, 0, none⟩) (by simp; omega)).trans (show _ = some (.int .i64 p) by simp)
          have z2 := (hb5.cell (p := ⟨wr.heap.size, 1, none⟩) (by simp; omega)).trans (show _ = some (.int .i64 q) by simp)
          have HF := Lib.hid (from_any a5 N c5 m ot (xs.eraseIdx k) _ hNl hel hlow hotm HEE.out he5)
          clear had2 hN hNl hel he5 hb5 hba hw1 hi1 hi2 hi3 hi4 hi5 c1 c2 c3
          generalize wr.heap.size = hs at *
          go_wp2_with fail
          rw [HOT.out]
          refine HF.out.mono ?_
          intro e w6 hw6
          unfold FromPost at hw6
          obtain ⟨a6, c6, f, rfl, he6, hg6, hcl6, hb6⟩ := hw6
          have hown6 := owns_at hown5 hb6
          have hb06 := below_next hb05 hb6
          have HE3 := Lib.hid he6
          have HP3 := Lib.hid (HP.out.at hb06)
          have HIN := Lib.hid (fun i => inM_eq hg6 hcl6 i)
          obtain ⟨bs, hbs⟩ : ∃ bs : Nat → Bool, bs = fun i => inM (xs.eraseIdx k) ot i := ⟨_, rfl⟩
          rw [← hbs] at HCUT
          have HBS : Hid (∀ i, bs i = decide (0 ≤ f i)) := Lib.hid (fun i => by rw [hbs]; exact HIN.out i)
          have HBD := Lib.hid (sumSel_bd bs HT3.out)
          clear hbs he6 hg6 hcl6 hb6 HIN hown5 hb05 z1 z2 HF
          go_wp2
          go_loop [15, 70] (fun nv iv => ∃ j : Nat, j ≤ m ∧ iv = .int .i64 j ∧ nv = .int .i64 (sumSel bs ps j)) (fun _ iv => m - (intOf iv).toNat)
          case atStart => exact ⟨0, by omega, rfl, rfl⟩
          case round =>
            obtain ⟨j, hj, rfl, rfl⟩ := hrel
            by_cases hjm : j < m
            · have hj1 : j < (tabI m f).length := by rw [tabI_len]; exact hjm
              have hj2 : j < ps.length := by rw [HPL.out]; exact hjm
              obtain ⟨b1, o1, rfl, hc1⟩ := HE3.out.some hj1
              obtain ⟨b2, o2, rfl, hc2⟩ := HP3.out.some hj2
              have g1 := hc1 j hj1 0 _ rfl
              have g2 := hc2 j hj2 0 _ rfl
              simp only [Nat.add_zero, Nat.mul_one] at g1 g2
              rw [tabI_get] at g1
              have hbd := HBD.out j
              have hbd1 := hbd.1
              have hbd2 : sumSel bs ps j ≤ 10000000 := by omega
              have hpj := HT3.out _ (List.getElem_mem hj2)
              have hpj1 := hpj.1
              have hpj2 := hpj.2
              by_cases hf : 0 ≤ f j
              · have HST := Lib.hid (show sumSel bs ps (j + 1) = sumSel bs ps j + ps[j] by
                  show _ + (if bs j = true then _ else _) = _
                  rw [HBS.out j, decide_eq_true hf, if_pos rfl, getD_nat hj2])
                clear hc1 hc2 hbd hpj
                generalize sumSel bs ps j = s at *
                generalize ps[j] = pj at *
                generalize f j = fj at *
                go_wp2
                exact ⟨⟨j + 1, by omega, by go_num, by rw [HST.out]⟩, by simp [intOf]; omega⟩
              · have HST := Lib.hid (show sumSel bs ps (j + 1) = sumSel bs ps j by
                  show _ + (if bs j = true then _ else _) = _
                  rw [HBS.out j, decide_eq_false hf, if_neg (by decide), Int.add_zero])
                clear hc1 hc2 hbd hpj
                generalize sumSel bs ps j = s at *
                generalize f j = fj at *
                go_wp2
                exact ⟨⟨j + 1, by omega, by go_num, by rw [HST.out]⟩, by simp [intOf]; omega⟩
            · obtain rfl : j = m := by omega
              rw [HCUT.out]
              have hbsz := hb06.size
              have HS2 := Lib.hid HS.out
              generalize brV j xs ps r k = bv at *
              go_wp2_with (at_builtin; (refine app_row rowN rfl _ _ rfl w.heap.size rfl hown6 [.int .i64 bv] rfl (by first | rfl | simp) rfl (encI_one _) (by unfold maxLen; omega) (by omega) hbsz ?_))
              intro v' w7 hown7 hb7
              rw [show L0.map (Value.int .i64) ++ [Value.int .i64 bv] = (L0 ++ [bv]).map (Value.int .i64) by simp, show L0.length + 1 = (L0 ++ [bv]).length by simp, ← HS2.out] at hown7
              have hb8 := hb06.trans hb7
              have HO4 := Lib.hid hown7
              clear hown7 hown6 hb06 hb7 HS HS2 HCUT
              go_wp2
              exact ⟨⟨k + 1, by omega, by go_num, HO4.out, hb8⟩, by simp [intOf]; omega⟩
      · have HS := Lib.hid (HSN.out hpq)
        have hd1 : ((p : Int) != (r : Int)) = true := by
          have : (p : Int) ≠ r := fun h => hpq (Or.inl h)
          exact bne_iff_ne.2 this
        have hd2 : ((q : Int) != (r : Int)) = true := by
          have : (q : Int) ≠ r := fun h => hpq (Or.inr h)
          exact bne_iff_ne.2 this
        rw [← HS.out] at howna
        have HO := Lib.hid howna
        clear HSY HSN hpq hown howna HS
        go_wp2
        exact ⟨⟨k + 1, by omega, by go_num, HO.out, hba⟩, by simp [intOf]; omega⟩
    · obtain rfl : k = xs.length := by omega
      obtain ⟨a', cap', rfl, he, _⟩ := ints_of_owns rfl hown
      clear hown
      go_wp2
      go_ret2
      unfold BrPost2
      exact ⟨a', cap', rfl, he, hb⟩
end Go.Proofs.YtogbmpnbbkcocaaDoor
