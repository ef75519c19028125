/- The reference's Steps: its rows are rowF. -/
import Derived.Test.YtkfjmmoljhekiaaDoorCoinWalk
import Derived.Test.YtkfjmmoljhekiaaDoorCoinStand
namespace Go.Proofs.YtkfjmmoljhekiaaDoor
open Go.RowKit

/-- Any number more are appended. -/
theorem app_manyI {P : Program} {w : World} {ops : Array Oper} {rest : List Oper} {o : Oper} {a : Act} {Q : Exit → Act → World → Prop} {t e : TypeId} {z : Value} {size bytes : Nat} (R : RowOf P t e z size bytes) (hgd : o.guard = none) (s x : Operand)
    (ho : o.op = .call { callee := .builtin .append, args := #[s, x], argTypes := #[t, t] }) (base : Nat)
    {v : Value} {n : Nat} {xs : List Value} (hs : a.eval s = v) (hown : w.ownsRow base e size v n xs)
    (ad : Addr) (m c : Nat) (news : List Value) (hx : a.eval x = .slice (some ad) m c) (hl : news.length = m * size) (hnews : ∀ j u, news[j]? = some u → w.cell? (ad.add j) = some u) (h1 : ∀ u ∈ news, u.oneCell' = true)
    (h63 : n + m ≤ maxLen) (hbytes : (n + m) * bytes ≤ 140737488355328) (hbase : base ≤ w.heap.size)
    (h : ∀ v' w', w'.ownsRow base e size v' (n + m) (xs ++ news) → Below base w w' → wpList P ops Q rest (a.put o.dst v') w') :
    wpList P ops Q (o :: rest) a w := by
  obtain ⟨i, ht, hi, hz, hsize, hby, hzs, hsz⟩ := R
  exact wpList_append_own w hgd s x t ho base e i z size bytes ht hi hz hsize hby hzs hsz v n xs hs hown ad m c news hx hl hnews h1 h63 hbytes hbase fun v' w' h2 h3 _ =>
    h v' w' h2 (Below.grown (Below.refl _ _) h3 hbase (fun k hk => (hown.lt k hk).1))
theorem elemsI_news {w : World} {a : Addr} {xs : List Int} (h : Elems encI 1 w (some a) xs) : ∀ j u, (xs.map (Value.int .i64))[j]? = some u → w.cell? (a.add j) = some u := by
  intro j u hj
  rw [List.getElem?_map] at hj
  rcases Nat.lt_or_ge j xs.length with hl | hl
  · rw [List.getElem?_eq_getElem hl] at hj
    simp only [Option.map_some, Option.some.injEq] at hj
    obtain ⟨b, o, ha, hc⟩ := h.some hl
    simp only [Option.some.injEq] at ha
    subst ha
    have h3 := hc j hl 0 u (by rw [← hj]; rfl)
    simp only [Nat.add_zero, Nat.mul_one] at h3
    unfold Addr.add
    split
    · rename_i h0; rw [h0] at h3; exact h3
    · exact h3
  · rw [List.getElem?_eq_none hl] at hj; cases hj
theorem ints_one (xs : List Int) : ∀ u ∈ xs.map (Value.int .i64), u.oneCell' = true := by
  intro u hu
  obtain ⟨z, _, rfl⟩ := List.mem_map.1 hu
  rfl
theorem tabI_more (k : Nat) (f : Nat → Int) : (tabI k f).map (Value.int .i64) ++ [.int .i64 (f k)] = (tabI (k + 1) f).map (Value.int .i64) := by
  simp [tabI, List.range_succ]

def RefCoinPost (word : List Int) (L : Nat) (w : World) (e : Ending) (w' : World) : Prop := ∃ a' cap', e = .returned (.slice a' (word.length + 1) cap') ∧ Rows2 w' a' (stepRows word L) ∧ Below w.heap.size w w'
set_option maxRecDepth 100000 in
set_option maxHeartbeats 16000000 in
theorem refSteps_ok (a : Option Addr) (n cap L : Nat) (word : List Int) (w : World) (hl : n = word.length) (h1 : 1 ≤ word.length) (h12 : word.length ≤ 12) (hL1 : 1 ≤ L) (hL2 : L ≤ 100) (hcap : n ≤ cap) (hcm : cap ≤ maxLen) (hx : Elems encI 1 w a word) :
    Calls Tryd.prog 26 #[.int .i64 L, .slice a n cap] w (RefCoinPost word L w) := by
  subst hl
  have HX := Lib.hid hx
  have hcm2 := hcm
  unfold maxLen at hcm2
  obtain ⟨b, o, rfl, _⟩ := hx.some (show 0 < word.length by omega)
  have HCM := Lib.hid hcm
  clear hx hcm
  go_enter Tryd.func26, Tryd.ntmps26
  go_wp2
  go_loopw [5, 6] (fun ov nv wr => ∃ (k : Nat) (G : List (Nat × Nat)) (v : Value), v = ov ∧ k ≤ word.length + 1 ∧ nv = .int .i64 k ∧ Hid (G.length = k) ∧ RowsOwn wr w.heap.size L v G (rowF word) ∧ Below w.heap.size w wr) (fun _ nv _ => word.length + 1 - (intOf nv).toNat)
  case atStart => exact ⟨0, [], _, rfl, by omega, rfl, Lib.hid rfl, ⟨World.ownsRow_nil _ _ _ _, fun j hj => by simp at hj⟩, Below.refl _ _⟩
  case round =>
    obtain ⟨k, G, v, rfl, hk, rfl, HG, hro, hb⟩ := hrel
    by_cases hlt : k < word.length + 1
    · have hle : (k : Int) ≤ (word.length : Int) := by omega
      have HRO := Lib.hid hro
      have HB := Lib.hid hb
      clear hro hb
      obtain ⟨wo, hwo⟩ : ∃ wo : World, wo = wr := ⟨_, rfl⟩
      subst hwo
      go_wp2
      go_loopw [7, 18] (fun rv iv wr => ∃ (j : Nat) (v2 : Value), v2 = rv ∧ j ≤ L ∧ iv = .int .i64 j ∧ wr.ownsRow wo.heap.size 3 1 v2 j ((tabI j (rowF word k)).map (Value.int .i64)) ∧ Below wo.heap.size wo wr) (fun _ iv _ => L - (intOf iv).toNat)
      case atStart => exact ⟨0, _, rfl, by omega, rfl, World.ownsRow_nil _ _ _ _, Below.refl _ _⟩
      case round =>
        obtain ⟨j, v2, rfl, hj, rfl, hrow, hbr⟩ := hrel
        by_cases hjl : j < L
        · have hemp : (wr.alloc (.cells #[] 3)).ownsRow wr.heap.size 3 1 (.slice (some ⟨wr.heap.size, 0, none⟩) 0 0) 0 [] := World.ownsRow_lit wr #[] 0 (Nat.le_refl _) (by omega) rfl
          have hbw := below_next HB.out hbr
          have hnews := elemsI_news ((elemsI_take HX.out k).below (hbw.alloc hbw.size (.cells #[] 3)) (Nat.le_refl _))
          have hlk : ((word.take k).map (Value.int .i64)).length = k * 1 := by rw [List.length_map, List.length_take]; omega
          have HROW := Lib.hid hrow
          have HBW := Lib.hid hbw
          have HBR := Lib.hid hbr
          have hbase : wr.heap.size ≤ (wr.alloc (.cells #[] 3)).heap.size := by simp
          clear hrow hbw hbr
          go_wp2_with (at_builtin; refine app_manyI rowC rfl _ _ rfl wr.heap.size rfl hemp ⟨b, o, none⟩ k cap ((word.take k).map (Value.int .i64)) rfl hlk hnews (ints_one _) (by unfold maxLen; omega) (by omega) hbase ?_)
          intro v3 w3 hown3 hb3
          rw [← List.map_take] at hown3
          have hb3' := ((Below.refl wr.heap.size wr).alloc (Nat.le_refl _) (.cells #[] 3)).trans hb3
          have hbs3 := hb3'.size
          clear hemp hnews hlk hbase hb3
          go_wp2_with (at_builtin; (refine app_row rowC rfl _ _ rfl wr.heap.size rfl hown3 [.int .i64 j] rfl (by first | rfl | simp) rfl (encI_one _) (by unfold maxLen; omega) (by omega) hbs3 ?_))
          intro v4 w4 hown4 hb4
          rw [show List.take k (word.map (Value.int .i64)) ++ [.int .i64 (j : Int)] = (word.take k ++ [(j : Int)]).map (Value.int .i64) by simp [List.map_take]] at hown4
          have hb4' := hb3'.trans hb4
          have htl : (word.take k ++ [(j : Int)]).length = k + 1 := by rw [List.length_append, List.length_take]; simp; omega
          obtain ⟨g4, c4, hv4, hg4a, hg4b⟩ := hown4.form (by omega)
          obtain ⟨a4', c4', hv4', he4, hc4⟩ := ints_of_owns htl.symm hown4
          have hcm4 : c4 ≤ maxLen := by
            rcases hown4.2 with ⟨h7, h8⟩ | ⟨g', cap', cur, h7, _, _, _, h9, _⟩
            · omega
            · rw [hv4] at h7
              obtain ⟨_, _, rfl⟩ := Value.slice.inj h7
              exact h9
          rw [hv4] at hv4'
          obtain ⟨rfl, hq4, rfl⟩ := Value.slice.inj hv4'
          subst hv4
          have HC4 := Lib.hid (show k + 1 ≤ c4 ∧ c4 ≤ maxLen from ⟨hc4, hcm4⟩)
          have HB4 := Lib.hid hb4'
          have HE4 := Lib.hid he4
          have HTL := Lib.hid htl
          have hbw4 := below_next HBW.out hb4'
          have HW4 := Lib.hid (HX.out.below hbw4 (Nat.le_refl _))
          have hbs4 : wo.heap.size ≤ w4.heap.size := by have h7 := HBR.out.size; have h8 := hb4'.size; omega
          have hc4k : k + 1 ≤ c4 := hc4
          clear hown3 hb3' hown4 hb4 hv4' hc4 hcm4 hq4 he4 hb4' htl hbw4 hbs3
          by_cases hkl : k = word.length
          · have hkd : ((k : Int) == (word.length : Int)) = true := by simp; omega
            have hne1 : ¬ c4 = 1 := by omega
            have hi1 : (1 : Int) ≤ (k : Int) + 1 := by omega
            have hi2 : (1 : Int) ≤ (c4 : Int) := by omega
            have HST := Lib.hid (show rowF word k j = (stands word (word.take k ++ [(j : Int)]).tail : Nat) by unfold rowF rowM; rw [if_pos hkl])
            have het : Elems encI 1 w4 (some ⟨g4, 1, none⟩) (word.take k ++ [(j : Int)]).tail := by
              obtain ⟨b7, o7, h7, hc7⟩ := HE4.out.some (show 0 < (word.take k ++ [(j : Int)]).length by rw [HTL.out]; omega)
              simp only [Option.some.injEq, Addr.mk.injEq, and_true] at h7
              obtain ⟨rfl, rfl⟩ := h7
              have h8 := elemsI_drop hc7 1
              rw [List.drop_one] at h8
              exact h8
            have HC := Lib.hid (stands_any (some ⟨g4, 1, none⟩) (some ⟨b, o, none⟩) k word.length (c4 - 1) cap (word.take k ++ [(j : Int)]).tail word w4 (by rw [List.length_tail, HTL.out]; rfl) rfl (by rw [List.length_tail, HTL.out]; omega) h12 (by omega) hcap (by have := HC4.out.2; omega) HCM.out het HW4.out)
            have HKL := Lib.hid hkl
            clear het hkl
            go_wp2_with fail
            refine HC.out.mono ?_
            rintro e w5 ⟨rfl, hb5⟩
            rw [← HST.out]
            have hrow5 := owns_at HROW.out (below_next HB4.out hb5)
            have hb05 := below_next HBR.out (below_next HB4.out hb5)
            have hbs5 := hb05.size
            clear HC hb5
            generalize hrf : rowF word k j = rf at *
            have HRF := Lib.hid hrf
            clear hrf
            go_wp2_with (at_builtin; (refine app_row rowC rfl _ _ rfl wo.heap.size rfl hrow5 [.int .i64 rf] rfl (by first | rfl | simp) rfl (encI_one _) (by unfold maxLen; omega) (by omega) hbs5 ?_))
            intro v6 w6 hown6 hb6
            rw [← HRF.out, tabI_more] at hown6
            have hb06 := hb05.trans hb6
            have HO6 := Lib.hid hown6
            clear hown6 hrow5 hb6 hb05
            go_wp2
            exact ⟨⟨j + 1, v6, rfl, by omega, by go_num, HO6.out, hb06⟩, by simp [intOf]; omega⟩
          · have hkd : ((k : Int) == (word.length : Int)) = false := by simp; omega
            have HST := Lib.hid (show rowF word k j = (stands word (word.take k ++ [(j : Int)]) : Nat) by unfold rowF rowM; rw [if_neg hkl])
            have HC := Lib.hid (stands_any (some ⟨g4, 0, none⟩) (some ⟨b, o, none⟩) (k + 1) word.length c4 cap (word.take k ++ [(j : Int)]) word w4 HTL.out.symm rfl (by rw [HTL.out]; omega) h12 hc4k hcap HC4.out.2 HCM.out HE4.out HW4.out)
            clear hkl
            go_wp2_with fail
            refine HC.out.mono ?_
            rintro e w5 ⟨rfl, hb5⟩
            rw [← HST.out]
            have hrow5 := owns_at HROW.out (below_next HB4.out hb5)
            have hb05 := below_next HBR.out (below_next HB4.out hb5)
            have hbs5 := hb05.size
            clear HC hb5
            generalize hrf : rowF word k j = rf at *
            have HRF := Lib.hid hrf
            clear hrf
            go_wp2_with (at_builtin; (refine app_row rowC rfl _ _ rfl wo.heap.size rfl hrow5 [.int .i64 rf] rfl (by first | rfl | simp) rfl (encI_one _) (by unfold maxLen; omega) (by omega) hbs5 ?_))
            intro v6 w6 hown6 hb6
            rw [← HRF.out, tabI_more] at hown6
            have hb06 := hb05.trans hb6
            have HO6 := Lib.hid hown6
            clear hown6 hrow5 hb6 hb05
            go_wp2
            exact ⟨⟨j + 1, v6, rfl, by omega, by go_num, HO6.out, hb06⟩, by simp [intOf]; omega⟩
        · obtain rfl : j = L := by omega
          obtain ⟨g, c, hv, hga, hgb⟩ := hrow.form (by omega)
          have hcc : j ≤ c ∧ c ≤ maxLen := by
            rcases hrow.2 with ⟨h7, h8⟩ | ⟨g', cap', cur, h7, _, _, h8, h9, _⟩
            · omega
            · rw [hv] at h7
              obtain ⟨_, _, rfl⟩ := Value.slice.inj h7
              exact ⟨h8, h9⟩
          subst hv
          have hbw := below_next HB.out hbr
          have hro := HRO.out.at hbr
          have hvne : v.ownBlock ≠ some g := fun h => by
            have := (HRO.out.1.lt g h).2
            omega
          have HGO := Lib.hid (owns_dn hrow (show w.heap.size ≤ wo.heap.size from HB.out.size))
          have HEND : Hid (∀ v' w4, w4.ownsRow w.heap.size 27 1 v' (G.length + 1) (G.map (hdOf j) ++ [hdOf j (g, c)]) → wr.grownBy w4 v.ownBlock → (v'.ownBlock = v.ownBlock ∨ ∀ q, v'.ownBlock = some q → wr.heap.size ≤ q) → RowsOwn w4 w.heap.size j v' (G ++ [(g, c)]) (rowF word)) := Lib.hid (fun v' w4 h4 h5 h6 =>
            (hro.more h5 h6 h4 hcc.1 hcc.2 HGO.out hvne).congr (fun i hi y hy => by
              by_cases hiG : i = G.length
              · simp only [if_pos hiG]; rw [hiG, HG.out]
              · simp only [if_neg hiG]))
          have HG2 : Hid ((G ++ [(g, c)]).length = k + 1) := Lib.hid (by rw [List.length_append, HG.out]; rfl)
          have hro1 := hro.1
          have hbs := hbw.size
          clear hrow hro hvne hcc hbr
          go_wp2_with (at_builtin; (refine app_row2 rowCC rfl _ _ rfl w.heap.size rfl hro1 [hdOf j (g, c)] rfl (by first | rfl | simp) rfl (by intro u hu; simp at hu; subst hu; rfl) (by have := HG.out; unfold maxLen; omega) (by have := HG.out; omega) hbs ?_))
          intro v' w4 hown4 hg4 hv4
          have HRO4 := Lib.hid (HEND.out v' w4 hown4 hg4 hv4)
          have hb04 := hbw.trans (grown_below hro1 hbs hg4)
          clear hown4 hg4 hv4 hro1 hbw
          go_wp2
          exact ⟨⟨k + 1, G ++ [(g, c)], _, rfl, by omega, by go_num, HG2, HRO4.out, hb04⟩, by simp [intOf]; omega⟩
    · obtain rfl : k = word.length + 1 := by omega
      obtain ⟨a', c', rfl, hrows⟩ := hro.rows HG.out
      have HRO := Lib.hid hrows
      clear hro hrows hlt
      go_wp2
      go_ret
      unfold RefCoinPost
      exact ⟨a', c', rfl, HRO.out, hb⟩
end Go.Proofs.YtkfjmmoljhekiaaDoor
