/- coin.Steps, of letters and a word that may be: its rows are rowF. -/
import Derived.Test.YtkfjmmoljhekiaaDoorCoin
import Derived.Test.YtkfjmmoljhekiaaDoorLineEnds
namespace Go.Proofs.YtkfjmmoljhekiaaDoor
open Go.RowKit

def stepRows (word : List Int) (L : Nat) : List (List Int) := (List.range (word.length + 1)).map fun j => tabI L (rowF word j)
def CoinPost (word : List Int) (L : Nat) (w : World) (e : Ending) (w' : World) : Prop := ∃ a' cap', e = .returned (.tuple #[.slice a' (word.length + 1) cap', .nilIface]) ∧ Rows2 w' a' (stepRows word L) ∧ Below w.heap.size w w'
theorem rowF_zero {word : List Int} (h : 0 < word.length) {x : Nat} (hx : word[0] = (x : Int)) (y : Nat) : rowF word 0 y = if y = x then 1 else 0 := by
  unfold rowF
  by_cases hy : y = x
  · subst hy; rw [if_pos rfl, ← hx, row_hit h]; rfl
  · rw [if_neg hy, row_zero h (by omega)]; rfl
theorem rowF_mid {word : List Int} {k : Nat} (h0 : 0 < k) (h : k < word.length) {x : Nat} (hx : word[k] = (x : Int)) (y : Nat) : rowF word k y = if y = x then (k : Int) + 1 else rowF word (failM word k) y := by
  unfold rowF
  by_cases hy : y = x
  · subst hy; rw [if_pos rfl, ← hx, row_hit h]; omega
  · rw [if_neg hy, row_miss' h0 h (by omega)]
theorem rowF_last {word : List Int} (h : 0 < word.length) (y : Nat) : rowF word word.length y = rowF word (failM word word.length) y := by
  unfold rowF; rw [row_last h]

theorem owns_dn {w : World} {B B' e size n : Nat} {v : Value} {xs : List Value} (h : w.ownsRow B e size v n xs) (hB : B' ≤ B) : w.ownsRow B' e size v n xs := by
  refine ⟨h.1, ?_⟩
  rcases h.2 with h2 | ⟨g, cap, cur, h2, h3, r⟩
  · exact Or.inl h2
  · exact Or.inr ⟨g, cap, cur, h2, by omega, r⟩

set_option maxRecDepth 100000 in
set_option maxHeartbeats 16000000 in
theorem steps_ok (a : Option Addr) (n cap L : Nat) (word : List Int) (w : World) (hl : n = word.length) (h1 : 1 ≤ word.length) (h12 : word.length ≤ 12) (hL1 : 1 ≤ L) (hL2 : L ≤ 100) (hB : ∀ x ∈ word, 0 ≤ x ∧ x < L) (hx : Elems encI 1 w a word) :
    Calls Tryd.prog 25 #[.int .i64 L, .slice a n cap] w (CoinPost word L w) := by
  subst hl
  have HX := Lib.hid hx
  have HB := Lib.hid hB
  have hd1 : decide ((L : Int) < 1) = false := decide_eq_false (by omega)
  have hd2 : decide ((100 : Int) < (L : Int)) = false := decide_eq_false (by omega)
  have hd3 : decide ((word.length : Int) < 1) = false := decide_eq_false (by omega)
  have hd4 : decide ((12 : Int) < (word.length : Int)) = false := decide_eq_false (by omega)
  have hne : word ≠ [] := by intro h; subst h; simp at h1
  have hsz : (Tryd.prog.info? 3).map (·.size) = some 1 := by kernel_rfl
  have HSZ := Lib.hid hsz
  clear hx hB hsz
  go_enter Tryd.func25, Tryd.ntmps25
  go_wp2
  all_goals try (exfalso; omega)
  go_loop [31] (fun iv => ∃ k : Nat, k ≤ word.length ∧ iv = .int .i64 k) (fun iv => word.length - (intOf iv).toNat)
  case atStart => exact ⟨0, by omega, rfl⟩
  case round =>
    obtain ⟨k, hk, rfl⟩ := hrel
    by_cases hlt : k < word.length
    · obtain ⟨b, o, rfl, hc⟩ := HX.out.some hlt
      have g1 := hc k hlt 0 _ rfl
      simp only [Nat.add_zero, Nat.mul_one] at g1
      obtain ⟨q1, q2⟩ := HB.out _ (List.getElem_mem hlt)
      clear hc
      generalize word[k] = x at *
      go_wp2_with fail
      all_goals first
        | (exfalso; omega)
        | exact ⟨⟨k + 1, by omega, by go_num⟩, by simp [intOf]; omega⟩
    · obtain rfl : k = word.length := by omega
      clear hk hlt
      go_wp2
      go_loopw [8, 9, 10] (fun ov fv nv wr => ∃ (k : Nat) (G : List (Nat × Nat)) (v : Value), v = ov ∧ k ≤ word.length + 1 ∧ fv = .int .i64 (failM word (min k word.length) : Nat) ∧ nv = .int .i64 k ∧ Hid (G.length = k) ∧ RowsOwn wr w.heap.size L v G (rowF word) ∧ Below w.heap.size w wr) (fun _ _ nv _ => word.length + 1 - (intOf nv).toNat)
      case atStart => exact ⟨0, [], _, rfl, by omega, by rw [Nat.zero_min, failM_zero]; rfl, rfl, Lib.hid rfl, ⟨World.ownsRow_nil _ _ _ _, fun j hj => by simp at hj⟩, Below.refl _ _⟩
      case round =>
        obtain ⟨k, G, v, rfl, hk, rfl, rfl, HG, hro, hb⟩ := hrel
        by_cases hlt : k < word.length + 1
        · have hle : (k : Int) ≤ (word.length : Int) := by omega
          go_wp2_with (at_make; refine make_row _ rowC rfl _ _ rfl wr.heap.size _ _ _ _ L rfl rfl rfl rfl (by omega) (by unfold maxLen; omega) (Nat.le_refl _) ?_)
          intro w2 hrow0 hb2
          have hbs := hb.size
          have hrow := owns_dn hrow0 hbs
          have hgl := (owns_base hrow).2
          rw [made_ints L, tabI_zero] at hrow
          have hro2 := hro.at hb2
          have hb02 := below_next hb hb2
          have hvb : ∀ q, v.ownBlock = some q → q ≠ wr.heap.size := fun q hq => by have := (hro.1.lt q hq).2; omega
          have hGb : ∀ j (h : j < G.length), G[j].1 ≠ wr.heap.size := fun j h => by have := hro.lt j h; omega
          have HVB := Lib.hid (show v.ownBlock ≠ some wr.heap.size from fun h => hvb _ h rfl)
          have HGB := Lib.hid hGb
          have hbs2 : w.heap.size ≤ wr.heap.size := hbs
          clear hrow0 hro hb hb2 hvb hGb hbs
          generalize wr.heap.size = g at *
          -- what is left, once the row is filled
          have HEND : Hid (∀ (w3 : World) (fg : Nat → Int), RowsOwn w3 w.heap.size L v G (rowF word) → w3.ownsRow w.heap.size 3 1 (hdOf L (g, L)) L ((tabI L fg).map (Value.int .i64)) → (∀ y, y < L → rowF word k y = fg y) → ∀ v' w4, w4.ownsRow w.heap.size 27 1 v' (G.length + 1) (G.map (hdOf L) ++ [hdOf L (g, L)]) → w3.grownBy w4 v.ownBlock → (v'.ownBlock = v.ownBlock ∨ ∀ q, v'.ownBlock = some q → w3.heap.size ≤ q) → RowsOwn w4 w.heap.size L v' (G ++ [(g, L)]) (rowF word)) := Lib.hid (fun w3 fg h1 h2 h3 v' w4 h4 h5 h6 =>
            (h1.more h5 h6 h4 (Nat.le_refl _) (by unfold maxLen; omega) h2 HVB.out).congr (fun j hj y hy => by
              by_cases hjG : j = G.length
              · simp only [if_pos hjG]; rw [hjG, HG.out]; exact h3 y hy
              · simp only [if_neg hjG]))
          have HG2 : Hid ((G ++ [(g, L)]).length = k + 1) := Lib.hid (by rw [List.length_append, HG.out]; rfl)
          have hGl : G.length ≤ 20 := by rw [HG.out]; omega
          obtain ⟨N, hN⟩ : ∃ N, N = G.length := ⟨_, rfl⟩
          have HN := Lib.hid hN
          by_cases hk0 : k = 0
          · have hw0 : 0 < word.length := by omega
            obtain ⟨b, o, rfl, hc⟩ := HX.out.some hw0
            have g1 := (hb02.cell (lt_of_cell (hc 0 hw0 0 _ rfl))).trans (hc 0 hw0 0 _ rfl)
            simp only [Nat.add_zero, Nat.zero_mul] at g1
            obtain ⟨q1, q2⟩ := HB.out _ (List.getElem_mem hw0)
            obtain ⟨x, hxv⟩ := Int.eq_ofNat_of_zero_le q1
            have hxL : x < L := by omega
            have HF0 := Lib.hid (fun y (_ : y < L) => rowF_zero hw0 hxv y)
            rw [hxv] at g1
            have f1 := owns_get hrow x hxL (by rw [tabI_len]; exact hxL)
            rw [tabI_get] at f1
            have f2 := hrow.frozenAt x
            have hset := owns_set hrow x 1
            rw [tabI_set (g := fun y => if y = x then (1 : Int) else 0) (fun y _ => rfl)] at hset
            have hgr := (hrow.stored x (.int .i64 1)).2
            have hro3 := hro2.kept hgr HVB.out HGB.out
            have hb03 := hb02.setCell (p := ⟨g, x, none⟩) (by simp; omega) (.int .i64 1)
            have hbs3 := hb03.size
            have HRO3 := Lib.hid hro3
            have HSET := Lib.hid hset
            clear hc q1 q2 hxv hrow hro2 hgr hset hb02 hGl hN hro3
            subst hk0
            have hro4 := HRO3.out.1
            go_wp2_with (at_builtin; (refine app_row2 rowCC rfl _ _ rfl w.heap.size rfl hro4 [hdOf L (g, L)] rfl (by first | rfl | simp) rfl (by intro u hu; simp at hu; subst hu; rfl) (by have := HG.out; unfold maxLen; omega) (by have := HG.out; omega) hbs3 ?_))
            intro v' w4 hown4 hg4 hv4
            have hro5 := HEND.out _ _ HRO3.out HSET.out HF0.out v' w4 hown4 hg4 (by simpa using hv4)
            have hb04 := hb03.trans (grown_below hro4 hbs3 hg4)
            have HRO5 := Lib.hid hro5
            clear hown4 hg4 hv4 hro4 hb03 hro5 f1 f2 g1
            go_wp2
            exact ⟨⟨1, G ++ [(g, L)], _, rfl, by omega, by rw [show min 1 word.length = 1 by omega, failM_one, failM_zero], by go_num, HG2, HRO5.out, hb04⟩, by simp [intOf]⟩
          · have hkl : k ≤ word.length := by omega
            have hF0 : failM word (min k word.length) = failM word k := by rw [Nat.min_eq_left hkl]
            rw [hF0]
            have hFk : failM word k < k := failM_lt word k (by omega)
            have HFD := Lib.hid (fun (h : k < word.length) => fail_succ (by omega) h)
            have HFE := Lib.hid (show ∀ y, rowF word (failM word k) y = (rowM word (failM word k) (y : Int) : Nat) from fun y => rfl)
            have HMID := Lib.hid (fun (h : k < word.length) (x : Nat) (hx : word[k] = (x : Int)) y => rowF_mid (by omega) h hx y)
            have HLAST := Lib.hid (fun (h : k = word.length) (y : Nat) => (by rw [h]; exact rowF_last (by omega) y : rowF word k y = rowF word (failM word k) y))
            have HRL := Lib.hid (fun y => rowM_le word (failM word k) y)
            generalize hFe : failM word k = F at *
            have HFK := Lib.hid hFe
            clear hFe
            have hFG : F < G.length := by rw [HG.out]; exact hFk
            obtain ⟨gv, cv, hv, _, _⟩ := hro2.1.form (by rw [HG.out]; omega)
            subst hv
            have hdc := hro2.1.cellAt F (by omega)
            rw [List.getElem?_map, List.getElem?_eq_getElem hFG] at hdc
            simp only [Option.map_some, hdOf] at hdc
            have hsrc := (hro2.2 F hFG).2.2.2.cells (g := G[F].1) rfl
            have hkd : ¬ k = 0 := hk0
            have hcl : ((tabI L (rowF word F)).map (Value.int .i64)).length = L := by simp [tabI_len]
            have hone : ∀ u ∈ (tabI L (rowF word F)).map (Value.int .i64), u.oneCell' = true := by
              intro u hu
              obtain ⟨z, _, rfl⟩ := List.mem_map.1 hu
              rfl
            have HRO2 := Lib.hid hro2
            have HHD : Hid (∀ w', RowsOwn w' w.heap.size L (.slice (some ⟨gv, 0, none⟩) G.length cv) G (rowF word) → w'.cell? ⟨gv, F, none⟩ = some (.slice (some ⟨G[F].1, 0, none⟩) L G[F].2)) := Lib.hid (fun w' h => by
              have h2 := h.1.cellAt F (by omega)
              rw [List.getElem?_map, List.getElem?_eq_getElem hFG] at h2
              simpa only [Option.map_some, hdOf] using h2)
            have HRC : Hid (∀ w' (y : Nat), RowsOwn w' w.heap.size L (.slice (some ⟨gv, 0, none⟩) G.length cv) G (rowF word) → y < L → w'.cell? ⟨G[F].1, y, none⟩ = some (.int .i64 (rowF word F y))) := Lib.hid (fun w' y h hy => by
              have h2 := owns_get (h.2 F hFG).2.2.2 y hy (by rw [tabI_len]; exact hy)
              rwa [tabI_get] at h2)
            clear hro2 hN
            generalize G[F].1 = gF at *
            generalize G[F].2 = cF at *
            go_wp2_with (with_reducible refine copy_row rfl _ _ _ _ rfl 3 Tryd.underlying27 HSZ.out hrow ⟨gF, 0, none⟩ cF rfl rfl ((tabI L (rowF word F)).map (Value.int .i64)) hcl hsrc hone ?_)
            intro w3 hrow3 hg3
            have hro3 := HRO2.out.kept hg3 HVB.out HGB.out
            have hb03 := Below.grown hb02 hg3 (by have := hb02.size; omega) (fun q hq => by cases hq; omega)
            clear hdc hsrc hcl hone HRO2 hrow hg3 hb02 hgl
            by_cases hkw : k < word.length
            · obtain ⟨b, o, rfl, hc⟩ := HX.out.some hkw
              have g1 := (hb03.cell (lt_of_cell (hc k hkw 0 _ rfl))).trans (hc k hkw 0 _ rfl)
              simp only [Nat.add_zero, Nat.mul_one] at g1
              obtain ⟨q1, q2⟩ := HB.out _ (List.getElem_mem hkw)
              obtain ⟨x, hxv⟩ := Int.eq_ofNat_of_zero_le q1
              have hxL : x < L := by omega
              rw [hxv] at g1
              have f1 := owns_get hrow3 x hxL (by rw [tabI_len]; exact hxL)
              rw [tabI_get] at f1
              have f2 := hrow3.frozenAt x
              have hset := owns_set hrow3 x ((k : Int) + 1)
              rw [tabI_set (g := rowF word k) (fun y _ => HMID.out hkw x hxv y)] at hset
              have hgr := (hrow3.stored x (.int .i64 ((k : Int) + 1))).2
              have hro4 := hro3.kept hgr HVB.out HGB.out
              have hb04 := hb03.setCell (p := ⟨g, x, none⟩) (by simp; omega) (.int .i64 ((k : Int) + 1))
              have r1 := HHD.out _ hro4
              have r2 := HRC.out _ x hro4 hxL
              have r3 := (hb04.cell (lt_of_cell (hc k hkw 0 _ rfl))).trans (hc k hkw 0 _ rfl)
              simp only [Nat.add_zero, Nat.mul_one] at r3
              rw [hxv] at r3
              have hfs : rowF word F x = (failM word (k + 1) : Nat) := by
                rw [HFD.out hkw, hxv]; rfl
              have hnm : min (k + 1) word.length = k + 1 := by omega
              have HFS := Lib.hid hfs
              have HNM := Lib.hid hnm
              have HSET := Lib.hid hset
              have HRO4 := Lib.hid hro4
              clear hc q1 q2 hxv hrow3 hro3 hset hgr hb03 hro4 hfs hnm
              generalize rowF word F x = fx at *
              go_wp2
              go_quiet (fail)
              have HRN : Hid (∀ m, RowsOwn ((w3.setCell ⟨g, x, none⟩ (.int .i64 ((k : Int) + 1))).drewN m) w.heap.size L (.slice (some ⟨gv, 0, none⟩) G.length cv) G (rowF word)) := Lib.hid (fun m => HRO4.out)
              have HSN : Hid (∀ m, ((w3.setCell ⟨g, x, none⟩ (.int .i64 ((k : Int) + 1))).drewN m).ownsRow w.heap.size 3 1 (hdOf L (g, L)) L ((tabI L (rowF word k)).map (Value.int .i64))) := Lib.hid (fun m => HSET.out)
              have HBN : Hid (∀ m, Below w.heap.size w ((w3.setCell ⟨g, x, none⟩ (.int .i64 ((k : Int) + 1))).drewN m)) := Lib.hid (fun m => below_drewN' hb04 m)
              clear HRO4 HSET hb04 r1 r2 r3 f1 f2 g1
              go_wp2_with (at_builtin; (refine app_row2 rowCC rfl _ _ rfl w.heap.size rfl (HRN.out _).1 [hdOf L (g, L)] rfl (by first | rfl | simp) rfl (by intro u hu; simp at hu; subst hu; rfl) (by have := HG.out; unfold maxLen; omega) (by have := HG.out; omega) (HBN.out _).size ?_))
              intro v' w5 hown5 hg5 hv5
              have HRO5 := Lib.hid (HEND.out _ _ (HRN.out _) (HSN.out _) (fun y _ => rfl) v' w5 hown5 hg5 (by simpa using hv5))
              have hb05 := (HBN.out _).trans (grown_below (HRN.out _).1 (HBN.out _).size hg5)
              clear hown5 hg5 hv5 HRN HSN HBN
              go_wp2
              exact ⟨⟨k + 1, G ++ [(g, L)], _, rfl, by omega, by rw [HNM.out, ← HFS.out], by go_num, HG2, HRO5.out, hb05⟩, by simp [intOf]; omega⟩
            · have hkl2 : k = word.length := by omega
              have HKL := Lib.hid hkl2
              have hro4 := hro3.1
              have hbs3 := hb03.size
              have HRO3 := Lib.hid hro3
              have HRW := Lib.hid hrow3
              have hnk : ¬ (k : Int) < (word.length : Int) := by omega
              clear hro3 hrow3 hkl2
              go_wp2_with (at_builtin; (refine app_row2 rowCC rfl _ _ rfl w.heap.size rfl hro4 [hdOf L (g, L)] rfl (by first | rfl | simp) rfl (by intro u hu; simp at hu; subst hu; rfl) (by have := HG.out; unfold maxLen; omega) (by have := HG.out; omega) hbs3 ?_))
              intro v' w5 hown5 hg5 hv5
              have HRO5 := Lib.hid (HEND.out _ _ HRO3.out HRW.out (fun y _ => HLAST.out HKL.out y) v' w5 hown5 hg5 (by simpa using hv5))
              have hb05 := hb03.trans (grown_below hro4 hbs3 hg5)
              clear hown5 hg5 hv5 hro4 hb03
              go_wp2
              exact ⟨⟨k + 1, G ++ [(g, L)], _, rfl, by omega, by rw [show min (k + 1) word.length = k by rw [HKL.out]; omega, HFK.out], by go_num, HG2, HRO5.out, hb05⟩, by simp [intOf]; omega⟩
        · obtain rfl : k = word.length + 1 := by omega
          obtain ⟨a', c', rfl, hrows⟩ := hro.rows HG.out
          have HRO := Lib.hid hrows
          clear hro hrows hlt
          go_wp2
          go_ret2
          unfold CoinPost
          exact ⟨a', c', rfl, HRO.out, hb⟩
end Go.Proofs.YtkfjmmoljhekiaaDoor
