/- The law LineMoore: the reference's row, and the program's. -/
import Derived.Test.YtkfjmmoljhekiaaDoorMoore
import Derived.Deep.AppendLies
namespace Go.Proofs.YtkfjmmoljhekiaaDoor
open Go.RowKit

/-- Any number more are appended, at a step of a region that draws its order. -/
theorem step_app_many {P : Program} {w : World} {ops : Array Oper} {o : Oper} {a : Act} {K : Act → World → Prop} {Q : Exit → Act → World → Prop} {E : Prop} {t e : TypeId} {z : Value} {size bytes : Nat} (R : RowOf P t e z size bytes) (hgd : o.guard = none) (s x : Operand)
    (ho : o.op = .call { callee := .builtin .append, args := #[s, x], argTypes := #[t, t] }) (base : Nat)
    {v : Value} {n : Nat} {xs : List Value} (hs : a.eval s = v) (hown : w.ownsRow base e size v n xs)
    (ad : Addr) (m c : Nat) (news : List Value) (hx : a.eval x = .slice (some ad) m c) (hl : news.length = m * size) (hnews : ∀ j u, news[j]? = some u → w.cell? (ad.add j) = some u) (h1 : ∀ u ∈ news, u.oneCell' = true)
    (h63 : n + m ≤ maxLen) (hbytes : (n + m) * bytes ≤ 140737488355328) (hbase : base ≤ w.heap.size)
    (h : ∀ v' w', w'.ownsRow base e size v' (n + m) (xs ++ news) → Below base w w' → K (a.put o.dst v') w') :
    if Region.wanted o (yielded ops a.tmps) = true then Oper.wp P o a w K Q else E := by
  obtain ⟨i, ht, hi, hz, hsize, hby, hzs, hsz⟩ := R
  have hw : Region.wanted o (yielded ops a.tmps) = true := by simp [Region.wanted, hgd]
  rw [if_pos hw]
  exact wp_append_own w s x t ho base e i z size bytes ht hi hz hsize hby hzs hsz v n xs hs hown ad m c news hx hl hnews h1 h63 hbytes hbase fun v' w' h2 h3 _ =>
    h v' w' h2 (Below.grown (Below.refl _ _) h3 hbase (fun k hk => (hown.lt k hk).1))
theorem owns_mono {w : World} {B B' e size n : Nat} {v : Value} {xs : List Value} (h : w.ownsRow B e size v n xs) (hB : B' ≤ B) : w.ownsRow B' e size v n xs := by
  refine ⟨h.1, ?_⟩
  rcases h.2 with h2 | ⟨g, cap, cur, h2, h3, r⟩
  · exact Or.inl h2
  · exact Or.inr ⟨g, cap, cur, h2, by omega, r⟩

theorem eg_refMoore : ∀ args w, (callFunc 48 args).run Tryd.prog w = .ok (.enter 48 args) w := enter_of Tryd.func48 (by kernel_rfl) rfl

set_option maxRecDepth 100000 in
set_option maxHeartbeats 8000000 in
theorem refMoore_any (xs : List R3) (hC : tasksCheck xs = 0) (hn : xs.length ≤ 100) : RefOk 48 xs (MooreOk xs) := by
  intro w a cap hx
  have HB := Lib.hid (long_bd hC)
  clear hC
  go_enter Tryd.func48, Tryd.ntmps48
  go_wp2_with fail
  refine (refJack_any xs hn w a cap hx).mono ?_
  rintro e w1 ⟨a1, n1, c1, row, rfl, hn1, he1, hS, hb1⟩
  have HS := Lib.hid hS
  have hrl := hS.len
  have HRL := Lib.hid hrl
  rw [hrl] at hn1
  subst hn1
  have HX := Lib.hid (hx.at hb1)
  have HRW := Lib.hid he1
  clear hS hx he1 hrl
  go_wp2_with fail
  go_loopw [3, 4, 15] (fun v u iv wr => ∃ (k : Nat) (ad ad2 : Option Addr) (c c2 : Nat), k ≤ xs.length ∧ iv = .int .i64 k ∧ v = .slice ad (mooreTo xs row k).1.length c ∧ u = .slice ad2 (mooreTo xs row k).2.length c2 ∧
      wr.ownsRow w1.heap.size 3 1 (.slice ad (mooreTo xs row k).1.length c) (mooreTo xs row k).1.length ((mooreTo xs row k).1.map (Value.int .i64)) ∧
      wr.ownsRow w1.heap.size 3 1 (.slice ad2 (mooreTo xs row k).2.length c2) (mooreTo xs row k).2.length ((mooreTo xs row k).2.map (Value.int .i64)) ∧
      Hid (Apart (.slice ad (mooreTo xs row k).1.length c) (.slice ad2 (mooreTo xs row k).2.length c2)) ∧ Below w1.heap.size w1 wr) (fun _ _ iv _ => xs.length - (intOf iv).toNat)
  case atStart => exact ⟨0, none, none, 0, 0, by omega, rfl, rfl, rfl, World.ownsRow_nil _ _ _ _, World.ownsRow_nil _ _ _ _, Lib.hid (Or.inl rfl), Below.refl _ _⟩
  case round =>
    obtain ⟨k, ad, ad2, c, c2, hk, rfl, rfl, rfl, hon, hoff, HA, hbw⟩ := hrel
    by_cases hlt : k < xs.length
    · have hkr : k < row.length := by rw [HRL.out]; exact hlt
      have hst := mooreTo_succ xs row k hkr
      obtain ⟨hall1, hall2, hall3⟩ := mooreTo_all (fun x => 0 ≤ x ∧ x < xs.length) xs row HS.out.rng k (by omega)
      have hri := HS.out.rng _ (List.getElem_mem hkr)
      obtain ⟨b1, o1, rfl, hcr⟩ := HRW.out.some hkr
      have fr := hcr k hkr 0 _ rfl
      simp only [Nat.add_zero, Nat.mul_one] at fr
      unfold mooreStep at hst
      generalize (mooreTo xs row k).1 = on at *
      generalize (mooreTo xs row k).2 = off at *
      generalize row[k] = ri at *
      obtain ⟨i, rfl⟩ := Int.eq_ofNat_of_zero_le hri.1
      have hi : i < xs.length := by omega
      obtain ⟨b, o, rfl, hcx⟩ := HX.out.some hi
      have f2 := hcx i hi 2 _ rfl
      have hge := xget_nat hi
      rw [hge] at hst
      have HST := Lib.hid hst
      have HAL := Lib.hid (show (∀ x ∈ on, 0 ≤ x ∧ x < xs.length) ∧ (∀ x ∈ off, 0 ≤ x ∧ x < xs.length) from ⟨hall1, hall2⟩)
      have HCX := Lib.hid hcx
      have hol : on.length ≤ 100 ∧ off.length ≤ 100 := by omega
      obtain ⟨hol1, hol2⟩ := hol
      clear hst hall1 hall2 hcx hcr hge hall3 hri
      have r1 := (hbw.cell (lt_of_cell fr)).trans fr
      obtain ⟨wo, hwo⟩ : ∃ wo : World, wo = wr := ⟨_, rfl⟩
      subst hwo
      go_wp2_with (at_builtin; (refine app_row2 rowI' rfl _ _ rfl w1.heap.size rfl hon [.int .i64 i] rfl (by first | rfl | simp) rfl (encI_one _) (by unfold maxLen; omega) (by omega) hbw.size ?_))
      intro v' w2 hon2 hg2 hv2
      obtain ⟨hoff2, hap⟩ := apart_kept hoff HA.out hg2 hv2
      have hb2 := hbw.trans (grown_below hon hbw.size hg2)
      obtain ⟨on1, hon1⟩ : ∃ on1, on1 = on ++ [(i : Int)] := ⟨_, rfl⟩
      have hl1 : on1.length = on.length + 1 := by rw [hon1]; simp
      rw [show on.map (Value.int .i64) ++ [Value.int .i64 (i : Int)] = on1.map (Value.int .i64) by rw [hon1]; simp] at hon2
      obtain ⟨g, cap1, hv', hg1, hg3, hc1, hcm⟩ := owns_slice hon2 (by omega)
      subst hv'
      have HAP := Lib.hid hap
      have HST' := HST.out
      rw [← hon1] at HST'
      have hmem : ∀ x ∈ on1, 0 ≤ x ∧ x < xs.length := by
        intro x hx
        rw [hon1] at hx
        rcases List.mem_append.1 hx with h | h
        · exact HAL.out.1 x h
        · simp at h; omega
      have H' := Lib.hid (show _ ∧ on1.length = on.length + 1 ∧ ∀ x ∈ on1, 0 ≤ x ∧ x < xs.length from ⟨HST', hl1, hmem⟩)
      clear r1 hon hoff hbw hg2 hv2 hap HA HST HST' hon1 hl1 hmem HAL fr
      -- how long all of them take
      go_wp2
      go_loopw [7, 25] (fun sv jv wr => ∃ j : Nat, j ≤ on.length + 1 ∧ jv = .int .i64 j ∧ sv = .int .i64 (sumL xs (on1.take j)) ∧ w2 = wr) (fun _ jv _ => on.length + 1 - (intOf jv).toNat)
      case atStart => exact ⟨0, by omega, rfl, by simp [sumL], rfl⟩
      case round =>
        obtain ⟨j, hj, rfl, rfl, rfl⟩ := hrel
        by_cases hjl : j < on.length + 1
        · have hl1 := H'.out.2.1
          have hy' := H'.out.2.2 on1[j] (List.getElem_mem (by omega))
          have cy := owns_get hon2 j (by omega) (by omega)
          have hnext : sumL xs (on1.take (j + 1)) = sumL xs (on1.take j) + (xget xs on1[j]).1 := by
            rw [List.take_succ_eq_append_getElem (by omega), sumL_app]
          have hbs := sumL_bound HB.out (on1.take j)
          have hlj : (on1.take j).length ≤ 200 := by rw [List.length_take]; omega
          generalize on1[j] = y at *
          obtain ⟨yi, rfl⟩ := Int.eq_ofNat_of_zero_le hy'.1
          have hyi : yi < xs.length := by omega
          have hby := HB.out yi
          rw [xget_nat hyi] at hnext hby
          have gy := HCX.out yi hyi 0 _ rfl
          simp only [Nat.add_zero] at gy
          have cy2 := (hb2.cell (lt_of_cell gy)).trans gy
          have HNX := Lib.hid hnext
          have hbs1 := hbs.1
          have hbs3 : sumL xs (on1.take j) ≤ 200 * 1000000000 := by omega
          obtain ⟨hby1, hby2⟩ := hby
          clear hnext gy hl1 hy' f2 hbs hlj
          generalize sumL xs (on1.take j) = sm at *
          generalize xs[yi].1 = Ly at *
          go_wp2
          go_roundw
          case rel => exact ⟨j + 1, by omega, by go_num, by rw [HNX.out], by first | rfl | trivial⟩
          case measure => simp [intOf]; omega
        · obtain rfl : j = on.length + 1 := by omega
          rw [List.take_of_length_le (by rw [H'.out.2.1]; omega)]
          have q2 := (hb2.cell (lt_of_cell f2)).trans f2
          have hbs := sumL_bound HB.out on1
          have hbs3 : sumL xs on1 ≤ 200 * 1000000000 := by have := H'.out.2.1; omega
          have hbs1 := hbs.1
          clear hbs hjl hj f2
          by_cases hle : sumL xs on1 ≤ xs[i].2.2
          · have HK : Hid (mooreTo xs row (k + 1) = (on1, off)) := Lib.hid (by rw [H'.out.1, if_pos hle])
            have hl1 := Lib.hid H'.out.2.1
            generalize hD : xs[i].2.2 = D at *
            generalize sumL xs on1 = sm at *
            go_wp2
            go_roundw
            case rel => exact ⟨k + 1, some ⟨g, 0, none⟩, ad2, cap1, c2, by omega, by go_num, by rw [HK.out, hl1.out], by rw [HK.out], by rw [HK.out, hl1.out]; exact hon2, by rw [HK.out]; exact hoff2, Lib.hid (apart_len HAP.out), hb2⟩
            case measure => simp [intOf]; omega
          · have HK0 : Hid (mooreTo xs row (k + 1) = (on1.eraseIdx (amaxM xs on1 on1.length), off ++ [on1.getD (amaxM xs on1 on1.length) 0])) := Lib.hid (by rw [H'.out.1, if_neg hle])
            have hn1 : ¬ sumL xs on1 ≤ xs[i].2.2 := hle
            generalize hD : xs[i].2.2 = D at *
            generalize sumL xs on1 = sm at *
            clear hle
            go_wp2
            go_loopw [10, 46] (fun kv jv wr => ∃ j : Nat, j ≤ on.length + 1 ∧ jv = .int .i64 j ∧ kv = .int .i64 (amaxM xs on1 j : Nat) ∧ ∃ m, wr = w2.drewN m) (fun _ jv _ => on.length + 1 - (intOf jv).toNat)
            case atStart => exact ⟨0, by omega, rfl, rfl, 0, rfl⟩
            case round =>
              obtain ⟨j, hj, rfl, rfl, m, rfl⟩ := hrel
              have ham : amaxM xs on1 j ≤ on.length := by
                rcases Nat.eq_zero_or_pos j with h | h
                · rw [h]; simp [amaxM]
                · have := amaxM_lt xs on1 j h; omega
              by_cases hjl : j < on.length + 1
              · have hz := H'.out.2.2
                have hl1 := H'.out.2.1
                have hy' := hz on1[j] (List.getElem_mem (by omega))
                have hz' := hz on1[amaxM xs on1 j] (List.getElem_mem (by omega))
                have cy := owns_get hon2 j (by omega) (by omega)
                have cz := owns_get hon2 (amaxM xs on1 j) (by omega) (by omega)
                have hnext : amaxM xs on1 (j + 1) = if (xget xs on1[amaxM xs on1 j]).1 < (xget xs on1[j]).1 then j else amaxM xs on1 j := by
                  show (if _ then _ else _) = _
                  simp [List.getD, show j < on1.length by omega, show amaxM xs on1 j < on1.length by omega]
                generalize on1[j] = y at *
                generalize on1[amaxM xs on1 j] = z at *
                obtain ⟨yi, rfl⟩ := Int.eq_ofNat_of_zero_le hy'.1
                obtain ⟨zi, rfl⟩ := Int.eq_ofNat_of_zero_le hz'.1
                have hyi : yi < xs.length := by omega
                have hzi : zi < xs.length := by omega
                rw [xget_nat hyi, xget_nat hzi] at hnext
                have gy := HCX.out yi hyi 0 _ rfl
                have gz := HCX.out zi hzi 0 _ rfl
                simp only [Nat.add_zero] at gy gz
                have cy2 := (hb2.cell (lt_of_cell gy)).trans gy
                have cz2 := (hb2.cell (lt_of_cell gz)).trans gz
                have HNX := Lib.hid hnext
                clear hnext gy gz hz hl1 hy' hz' q2
                generalize amaxM xs on1 j = am at *
                generalize xs[yi].1 = Ly at *
                generalize xs[zi].1 = Lz at *
                have y1 : (j : Int) < (on.length : Int) + 1 := by omega
                have y2 : (am : Int) < (on.length : Int) + 1 := by omega
                have y3 : (yi : Int) < (xs.length : Int) := by omega
                have y4 : (zi : Int) < (xs.length : Int) := by omega
                by_cases hlt2 : Lz < Ly
                · have HN2 : Hid (amaxM xs on1 (j + 1) = j) := Lib.hid (HNX.out.trans (if_pos hlt2))
                  go_wp2
                  go_quiet (fail)
                  go_wp2
                  go_roundw
                  case rel => exact ⟨j + 1, by omega, by go_num, by rw [HN2.out], _, rfl⟩
                  case measure => simp [intOf]; omega
                · have HN2 : Hid (amaxM xs on1 (j + 1) = am) := Lib.hid (HNX.out.trans (if_neg hlt2))
                  go_wp2
                  go_quiet (fail)
                  go_wp2
                  go_roundw
                  case rel => exact ⟨j + 1, by omega, by go_num, by rw [HN2.out], _, rfl⟩
                  case measure => simp [intOf]; omega
              · obtain rfl : j = on.length + 1 := by omega
                have hl1 := H'.out.2.1
                have k1 := HK0.out
                rw [hl1] at k1
                have cz := owns_get hon2 (amaxM xs on1 (on.length + 1)) (by omega) (by omega)
                have hz' := H'.out.2.2 on1[amaxM xs on1 (on.length + 1)] (List.getElem_mem (by omega))
                have hel : (on1.eraseIdx (amaxM xs on1 (on.length + 1))).length = on.length := by
                  rw [List.length_eraseIdx, if_pos (by omega)]; omega
                rw [show on1.getD (amaxM xs on1 (on.length + 1)) 0 = on1[amaxM xs on1 (on.length + 1)]'(by omega) by simp [List.getD, show amaxM xs on1 (on.length + 1) < on1.length by omega]] at k1
                generalize on1[amaxM xs on1 (on.length + 1)]'(by omega) = z at *
                have HK := Lib.hid (show mooreTo xs row (k + 1) = _ ∧ _ from ⟨k1, hel⟩)
                clear k1 hel hz' hl1 q2 hjl hj
                generalize amaxM xs on1 (on.length + 1) = am at *
                have y2 : (am : Int) < (on.length : Int) + 1 := by omega
                have hamn : am < on.length + 1 := by omega
                have hb3 := below_drewN' hb2 m
                have hon3 : (w2.drewN m).ownsRow w1.heap.size 3 1 (.slice (some ⟨g, 0, none⟩) (on.length + 1) cap1) (on.length + 1) (on1.map (Value.int .i64)) := hon2
                have hoff3 : (w2.drewN m).ownsRow w1.heap.size 3 1 (.slice ad2 off.length c2) off.length (off.map (Value.int .i64)) := hoff2
                have cz3 : (w2.drewN m).cell? _ = _ := cz
                clear cz hb2 hon2 hoff2
                generalize w2.drewN m = w3 at *
                go_wp2_with (at_builtin; (refine app_row2 rowI' rfl _ _ rfl w1.heap.size rfl hoff3 [.int .i64 z] rfl (by first | rfl | simp) rfl (encI_one _) (by unfold maxLen; omega) (by omega) hb3.size ?_))
                intro v2 w4 hoff4 hg4 hv4
                obtain ⟨hon4, hap4⟩ := apart_kept hon3 (apart_sym HAP.out) hg4 hv4
                have hb4 := hb3.trans (grown_below hoff3 hb3.size hg4)
                rw [show off.map (Value.int .i64) ++ [Value.int .i64 z] = (off ++ [z]).map (Value.int .i64) by simp] at hoff4
                obtain ⟨ad4, c4, hv5⟩ := owns_form hoff4
                subst hv5
                have HAP4 := Lib.hid (apart_sym hap4)
                clear hap4 hg4 hv4 hon3 hoff3 hb3 cz3
                have hgl := (owns_base hon4).2
                have hl1 := H'.out.2.1
                have OWN0 : Hid ((w4.alloc (Obj.cells #[] 3)).drew.ownsRow w4.heap.size 3 1 (.slice (some ⟨w4.heap.size, 0, none⟩) 0 0) 0 []) := World.ownsRow_made w4 #[] 0 (Nat.le_refl _) (by unfold maxLen; omega) rfl
                have hb0 : Below w4.heap.size w4 (w4.alloc (Obj.cells #[] 3)).drew := ((Below.refl _ _).alloc (Nat.le_refl _) _).drew
                have S1 : Hid (((on1.take am).map (Value.int .i64)).length = am * 1) := Lib.hid (by simp; omega)
                have S2 : Hid (((on1.drop (am + 1)).map (Value.int .i64)).length = (on.length + 1 - (am + 1)) * 1) := Lib.hid (by simp; omega)
                have O1 : Hid ((∀ u ∈ (on1.take am).map (Value.int .i64), u.oneCell' = true) ∧ ∀ u ∈ (on1.drop (am + 1)).map (Value.int .i64), u.oneCell' = true) := Lib.hid ⟨fun u hu => by
                  obtain ⟨x, _, rfl⟩ := List.mem_map.1 hu; rfl, fun u hu => by
                  obtain ⟨x, _, rfl⟩ := List.mem_map.1 hu; rfl⟩
                have C0 : ∀ t, t < on.length + 1 → w4.cell? ⟨g, t, none⟩ = some (.int .i64 (on1.getD t 0)) := fun t ht => by
                  rw [owns_get hon4 t ht (by omega)]; simp [List.getD, show t < on1.length by omega]
                have C1 : Hid (∀ j u, ((on1.take am).map (Value.int .i64))[j]? = some u → (w4.alloc (Obj.cells #[] 3)).drew.cell? ((⟨g, 0, none⟩ : Addr).add j) = some u) := Lib.hid fun j u hu => by
                  have hadd : (⟨g, 0, none⟩ : Addr).add j = ⟨g, j, none⟩ := by unfold Addr.add; split <;> simp_all
                  have hj : j < am := by
                    have := (List.getElem?_eq_some_iff.1 hu).1
                    rw [List.length_map, List.length_take] at this; omega
                  rw [hadd]
                  refine (hb0.cell (p := ⟨g, j, none⟩) hgl).trans ((C0 j (by omega)).trans ?_)
                  rw [← hu, List.getElem?_map, List.getElem?_take, if_pos hj]
                  simp [List.getD, show j < on1.length by omega]
                obtain ⟨A, hA, C2⟩ : ∃ A : Addr, (if cap1 = am + 1 then some (⟨g, 0, none⟩ : Addr) else some ⟨g, am + 1, none⟩) = some A ∧ Hid (∀ w', Below w4.heap.size w4 w' → ∀ j u, ((on1.drop (am + 1)).map (Value.int .i64))[j]? = some u → w'.cell? (A.add j) = some u) := by
                  have hjl : ∀ (j : Nat) (u : Value), ((on1.drop (am + 1)).map (Value.int .i64))[j]? = some u → am + 1 + j < on1.length := fun j u hu => by
                    have := (List.getElem?_eq_some_iff.1 hu).1
                    rw [List.length_map, List.length_drop] at this; omega
                  by_cases h : cap1 = am + 1
                  · exact ⟨⟨g, 0, none⟩, if_pos h, fun w' _ j u hu => by have := hjl j u hu; omega⟩
                  · refine ⟨⟨g, am + 1, none⟩, if_neg h, fun w' hw' j u hu => ?_⟩
                    have hj := hjl j u hu
                    have hadd : (⟨g, am + 1, none⟩ : Addr).add j = ⟨g, am + 1 + j, none⟩ := by unfold Addr.add; split <;> simp_all
                    rw [hadd]
                    refine (hw'.cell (p := ⟨g, am + 1 + j, none⟩) hgl).trans ((C0 _ (by omega)).trans ?_)
                    rw [← hu, List.getElem?_map, List.getElem?_drop]
                    simp [List.getD, hj]
                have hoff4b := (owns_form hoff4)
                have hofl : ∀ gg, (Value.slice ad4 (off ++ [z]).length c4).ownBlock = some gg → gg < w4.heap.size := fun gg hgg => (hoff4.lt gg (by simpa using hgg)).2
                have HOFL := Lib.hid hofl
                have HB0 := Lib.hid hb0
                have v1 : am ≤ cap1 := by omega
                have v2 : am + 1 ≤ cap1 := by omega
                have v3 : (am : Int) + 1 ≤ (on.length : Int) + 1 := by omega
                have v4 : (0 : Int) ≤ (am : Int) + 1 := by omega
                have v5 : ((am : Int) + 1).toNat = am + 1 := by omega
                have v6 : IntKind.i64.wrap ((am : Int) + 1) = (am : Int) + 1 := IntWalk.i64_in _ (by omega)
                have v7 : (0 : Int) ≤ (am : Int) := by omega
                clear C0 hon4 hoff4b hofl hb0 hl1 HB HS HRL HX HRW HCX
                go_wp2
                go_region_law (first
                  | (refine step_app_many rowI' rfl (.tmp 75) (.tmp 78) rfl w4.heap.size (by simp [Act.eval]) OWN0.out ⟨g, 0, none⟩ am cap1 ((on1.take am).map (Value.int .i64)) (by simp [Act.eval]) S1.out C1.out O1.out.1 (by unfold maxLen; omega) (by omega) (by simp) ?_; intro vA wA hoA hbA)
                  | (refine step_app_many rowI' rfl (.tmp 79) (.tmp 83) rfl w4.heap.size (by simp [Act.eval]) hoA A (on.length + 1 - (am + 1)) (cap1 - (am + 1)) ((on1.drop (am + 1)).map (Value.int .i64)) (by simp [Act.eval]) S2.out (C2.out _ (HB0.out.trans hbA)) O1.out.2 (by unfold maxLen; omega) (by omega) (HB0.out.trans hbA).size ?_; intro vB wB hoB hbB))
                have hq : ([] ++ (on1.take am).map (Value.int .i64)) ++ (on1.drop (am + 1)).map (Value.int .i64) = (on1.eraseIdx am).map (Value.int .i64) := by rw [List.nil_append, ← List.map_append, List.eraseIdx_eq_take_drop_succ]
                have hn' : 0 + am + (on.length + 1 - (am + 1)) = on.length := by omega
                rw [hq, hn'] at hoB
                have hoB2 := owns_mono hoB hb4.size
                have hbW : Below w4.heap.size w4 wB := (HB0.out.trans hbA).trans hbB
                have hoffB := owns_below hoff4 hbW (fun gg hgg => HOFL.out gg (by simpa using hgg))
                have hb5 := hb4.trans (hbW.mono hb4.size)
                obtain ⟨adB, cB, hvB⟩ := owns_form hoB
                subst hvB
                have hapB : Apart (.slice adB on.length cB) (.slice ad4 (off ++ [z]).length c4) := by
                  unfold Apart
                  cases hu : (Value.slice ad4 (off ++ [z]).length c4).ownBlock with
                  | none => exact Or.inl rfl
                  | some gg =>
                    refine Or.inr fun h3 => ?_
                    have h4 := (hoB.lt gg h3.symm).1
                    have h5 := HOFL.out gg hu
                    omega
                have HAPB := Lib.hid hapB
                clear hq hapB hoB hbW hbA hbB hoA hoff4 hb4 HOFL S1 S2 O1 C1 C2 OWN0 HB0 hA hn' v6
                go_wp2
                go_roundw
                case rel => exact ⟨k + 1, adB, ad4, cB, c4, by omega, by go_num, by rw [HK.out.1, HK.out.2], by rw [HK.out.1]; simp, by rw [HK.out.1, HK.out.2]; exact hoB2, by rw [HK.out.1]; simpa using hoffB, Lib.hid (apart_len HAPB.out), hb5⟩
                case measure => simp [intOf]; omega
    · obtain rfl : k = xs.length := by omega
      obtain ⟨_, _, hall3⟩ := mooreTo_all (fun _ => True) xs row (fun _ _ => trivial) xs.length (by rw [HRL.out]; exact Nat.le_refl _)
      obtain ⟨i0, hi0, hz0, hz1, hz2⟩ := info_parts infoInt
      have hll1 : (mooreTo xs row xs.length).1.length ≤ 100 := by omega
      have hll2 : (mooreTo xs row xs.length).2.length ≤ 100 := by omega
      clear hall3
      have HM : Hid (MooreOk xs ((mooreTo xs row xs.length).1 ++ (mooreTo xs row xs.length).2)) := Lib.hid ⟨row, HS.out, by unfold mooreAll; rw [HRL.out]⟩
      generalize (mooreTo xs row xs.length).1 = on at *
      generalize (mooreTo xs row xs.length).2 = off at *
      rcases hoff.2 with ⟨h1, h2⟩ | ⟨g2, c3, cur, h1, _⟩
      · obtain ⟨rfl, h3, rfl⟩ := Value.slice.inj h1
        have hoff0 : off = [] := List.eq_nil_of_length_eq_zero h2
        subst hoff0
        obtain ⟨a', cap', he0, he, _⟩ := ints_of_owns rfl hon
        have HE := Lib.hid he
        obtain ⟨rfl, hq2, rfl⟩ := Value.slice.inj he0
        clear he he0 h1 h2 h3 hoff hq2
        go_wp2_with (at_builtin; (refine wpList_append_own_none rfl _ _ 27 rfl w1.heap.size 3 i0 1 Tryd.underlying27 hi0 _ _ _ rfl hon rfl ?_))
        go_wp2
        go_ret
        exact ⟨ad, on.length, c, on, rfl, rfl, HE.out, by have := HM.out; simpa using this, hb1.trans (hbw.mono hb1.size)⟩
      · obtain ⟨rfl, h3, rfl⟩ := Value.slice.inj h1
        have hcells := hoff.cells (g := g2) rfl
        have HCE := Lib.hid hcells
        clear h1 h3 hcells hoff
        go_wp2_with (at_builtin; (refine wpList_append_own _ rfl _ _ 27 rfl w1.heap.size 3 i0 (.int .i64 0) 1 8 Tryd.underlying27 hi0 hz0 hz1 hz2 rfl (by decide) _ _ _ rfl hon ⟨g2, 0, none⟩ off.length c2 (off.map (Value.int .i64)) rfl (by simp) HCE.out (by intro u hu; simp only [List.mem_map] at hu; obtain ⟨x, _, rfl⟩ := hu; rfl) (by unfold maxLen; omega) (by omega) hbw.size ?_))
        intro v' w4 hon4 hg4 _
        rw [← List.map_append] at hon4
        have hb4 := hbw.trans (grown_below hon hbw.size hg4)
        obtain ⟨a', cap', hv', he, _⟩ := ints_of_owns (by rw [List.length_append]) hon4
        subst hv'
        have HE := Lib.hid he
        clear he hon4 hg4 hon hbw
        go_wp2
        go_ret
        exact ⟨a', _, cap', on ++ off, rfl, rfl, HE.out, HM.out, hb1.trans (hb4.mono hb1.size)⟩

set_option maxRecDepth 100000 in
set_option maxHeartbeats 4000000 in
theorem lineMoore_law (a : Option Addr) (n cap : Nat) (xs : List R3) (w : World) (hg : Hnd w) (hl : n = xs.length) (hn : n ≤ maxLen) (hx : Elems enc3 3 w a xs) :
    Calls Tryd.prog 13 #[.slice a n cap] w fun e w' => e = .returned (.bool true) ∧ Below w.heap.size w w' := by
  subst hl
  unfold maxLen at hn
  by_cases hA : 100 < xs.length
  · have hd : decide ((100 : Int) < (xs.length : Int)) = true := by simp; omega
    go_enter Tryd.func13, Tryd.ntmps13
    go_wp2
    go_ret
    exact ⟨rfl, Below.refl _ _⟩
  have hd : decide ((100 : Int) < (xs.length : Int)) = false := by simp; omega
  go_enter Tryd.func13, Tryd.ntmps13
  go_wp2_with fail
  refine (moore_any _ _ _ xs _ rfl (by omega) hx).mono ?_
  rintro e w1 ⟨a1, n1, c1, zs, rfl, rfl, he1, hz0, hz1, hb1⟩
  have hlen : zs.length ≤ 1000 := by
    by_cases hC : tasksCheck xs = 0
    · rw [(hz0 hC).len]; omega
    · rw [hz1 hC]; simp
  have HZ := Lib.hid (show (tasksCheck xs = 0 → MooreOk xs zs) ∧ (tasksCheck xs ≠ 0 → zs = []) from ⟨hz0, hz1⟩)
  clear hz0 hz1
  go_wp2_with fail
  refine (lawSorted_any 48 _ _ _ _ _ _ xs zs (MooreOk xs) _ eg_refMoore (hg.at hb1) (fun hC => refMoore_any xs hC (by omega)) (fun ys h => by rw [h.len]; omega) (fun h ys hy => (HZ.out.1 h).one hy) HZ.out.2 hlen rfl rfl (by omega) (hx.at hb1) he1).mono ?_
  rintro e w2 ⟨rfl, hb2⟩
  go_wp2
  go_ret
  exact ⟨rfl, below_next hb1 hb2⟩
end Go.Proofs.YtkfjmmoljhekiaaDoor
