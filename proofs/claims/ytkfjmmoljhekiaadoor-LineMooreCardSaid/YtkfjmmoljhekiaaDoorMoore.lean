/- Moore's and Hodgson's row: line.Moore. -/
import Derived.Test.YtkfjmmoljhekiaaDoorLineJack
import Derived.Test.YtkfjmmoljhekiaaDoorDelete
import Derived.Laws.AppendOwnNone
namespace Go.Proofs.YtkfjmmoljhekiaaDoor
open Go.RowKit

def mooreAll (xs : List R3) (row : List Int) : List Int := (mooreTo xs row row.length).1 ++ (mooreTo xs row row.length).2
def MooreOk (xs : List R3) (ys : List Int) : Prop := ∃ row, Sorted (ltf (fOf lessD xs)) xs.length row ∧ ys = mooreAll xs row
theorem MooreOk.one {xs : List R3} {ys zs : List Int} (h : MooreOk xs ys) (k : MooreOk xs zs) : ys = zs := by
  obtain ⟨r, h1, rfl⟩ := h
  obtain ⟨q, k1, rfl⟩ := k
  rw [h1.one (swkD xs) k1]
theorem Sorted.rng {lt : Int → Int → Bool} {n : Nat} {ys : List Int} (h : Sorted lt n ys) : ∀ x ∈ ys, 0 ≤ x ∧ x < n := by
  obtain ⟨r, rfl, _, ho⟩ := h
  intro x hx
  have h1 := (ok_perm ho).mem_iff.1 hx
  simp only [tab, List.mem_map, List.mem_range] at h1
  obtain ⟨t, ht, rfl⟩ := h1
  unfold idF
  omega
theorem MooreOk.len {xs : List R3} {ys : List Int} (h : MooreOk xs ys) : ys.length = xs.length := by
  obtain ⟨r, h1, rfl⟩ := h
  have := (mooreTo_all (fun _ => True) xs r (fun _ _ => trivial) r.length (Nat.le_refl _)).2.2
  simp only [mooreAll, List.length_append]
  rw [this, h1.len]
theorem long_bd {xs : List R3} (h : tasksCheck xs = 0) (x : Int) : 0 ≤ (xget xs x).1 ∧ (xget xs x).1 ≤ 1000000000 := by
  unfold xget
  rcases Nat.lt_or_ge x.toNat xs.length with g | g
  · simp only [List.getD, List.getElem?_eq_getElem g, Option.getD_some]
    have := tasks_ok_task h _ g
    exact ⟨this.1, this.2.1⟩
  · simp [List.getD, List.getElem?_eq_none g]
/-- The block of an own row of given numbers. -/
theorem owns_slice {w : World} {base e : Nat} {v : Value} {n : Nat} {E : List Int} (h : w.ownsRow base e 1 v n (E.map (Value.int .i64))) (hn : 0 < n) :
    ∃ g cap, v = .slice (some ⟨g, 0, none⟩) n cap ∧ base ≤ g ∧ g < w.heap.size ∧ n ≤ cap ∧ cap ≤ maxLen := by
  have hlt := h.lt
  rcases h.2 with ⟨_, h0⟩ | ⟨g, cap, cur, rfl, hg, hh, hc, hm, _⟩
  · omega
  · exact ⟨g, cap, rfl, hg, (hlt g rfl).2, hc, hm⟩
theorem apart_sym {v u : Value} (h : Apart v u) : Apart u v := by
  unfold Apart at *
  cases hv : v.ownBlock with
  | none => exact Or.inl rfl
  | some g =>
    refine Or.inr ?_
    rcases h with h | h
    · rw [h]; exact fun h => by cases h
    · rw [← hv]; exact fun h2 => h h2.symm
theorem apart_len {ad ad2 : Option Addr} {n c m d n' m' : Nat} (h : Apart (.slice ad n c) (.slice ad2 m d)) : Apart (.slice ad n' c) (.slice ad2 m' d) := by
  cases ad <;> cases ad2 <;> exact h
theorem owns_form {w : World} {base e : Nat} {v : Value} {n : Nat} {xs : List Value} (h : w.ownsRow base e 1 v n xs) : ∃ ad cap, v = .slice ad n cap := by
  rcases h.2 with ⟨h1, h2⟩ | ⟨g, cap, cur, h1, _⟩
  · exact ⟨none, 0, by rw [h1, h2]⟩
  · exact ⟨_, _, h1⟩

set_option maxRecDepth 100000 in
set_option maxHeartbeats 8000000 in
theorem moore_any (a : Option Addr) (n cap : Nat) (xs : List R3) (w : World) (hl : n = xs.length) (hn : xs.length ≤ 100) (hx : Elems enc3 3 w a xs) :
    Calls Tryd.prog 47 #[.slice a n cap] w fun e w' => ∃ a' n' cap' ys, e = .returned (.tuple #[.slice a' n' cap', errV (tasksCheck xs)]) ∧ n' = List.length ys ∧ Elems encI 1 w' a' ys ∧
      (tasksCheck xs = 0 → MooreOk xs ys) ∧ (tasksCheck xs ≠ 0 → ys = []) ∧ Below w.heap.size w w' := by
  subst hl
  by_cases hC : tasksCheck xs = 0
  case neg =>
    have hV : errV (tasksCheck xs) = .iface 25 (.int .i64 (tasksCheck xs)) := if_neg hC
    have HN := Lib.hid hC
    have HV := Lib.hid hV
    clear hC hV
    go_enter Tryd.func47, Tryd.ntmps47
    go_wp2_with fail
    refine (jackson_any _ _ _ xs _ rfl hn hx).mono ?_
    rintro e w1 ⟨a1, n1, c1, row, rfl, _, _, _, _, hb1⟩
    rw [HV.out]
    go_wp2
    go_ret2
    exact ⟨none, 0, 0, [], by rw [HV.out]; rfl, rfl, Or.inl rfl, fun h => absurd h HN.out, fun _ => rfl, hb1⟩
  have hV : errV (tasksCheck xs) = .nilIface := if_pos hC
  have HV := Lib.hid hV
  have HB := Lib.hid (long_bd hC)
  have HC := Lib.hid hC
  suffices h : Calls Tryd.prog 47 #[.slice a xs.length cap] w fun e w' => ∃ a' n' cap' ys, e = .returned (.tuple #[.slice a' n' cap', .nilIface]) ∧ n' = List.length ys ∧ Elems encI 1 w' a' ys ∧ MooreOk xs ys ∧ Below w.heap.size w w' by
    refine h.mono ?_
    rintro e w' ⟨a', n', cap', ys, h1, h2, h3, h4, h5⟩
    exact ⟨a', n', cap', ys, by rw [HV.out]; exact h1, h2, h3, fun _ => h4, fun h => absurd hC h, h5⟩
  clear hC hV
  go_enter Tryd.func47, Tryd.ntmps47
  go_wp2_with fail
  refine (jackson_any _ _ _ xs _ rfl hn hx).mono ?_
  rintro e w1 ⟨a1, n1, c1, row, rfl, hn1, he1, hs1, _, hb1⟩
  rw [HV.out]
  have hS := hs1 HC.out
  have HS := Lib.hid hS
  have hrl := hS.len
  have HRL := Lib.hid hrl
  rw [hrl] at hn1
  subst hn1
  have HX := Lib.hid (hx.at hb1)
  have HRW := Lib.hid he1
  clear hs1 hS hx he1 hrl
  go_wp2_with fail
  go_loopw [6, 7, 8, 23] (fun v u s iv wr => ∃ (k : Nat) (ad ad2 : Option Addr) (c c2 : Nat), k ≤ xs.length ∧ iv = .int .i64 k ∧ v = .slice ad (mooreTo xs row k).1.length c ∧ u = .slice ad2 (mooreTo xs row k).2.length c2 ∧ s = .int .i64 (sumL xs (mooreTo xs row k).1) ∧
      wr.ownsRow w1.heap.size 3 1 (.slice ad (mooreTo xs row k).1.length c) (mooreTo xs row k).1.length ((mooreTo xs row k).1.map (Value.int .i64)) ∧
      wr.ownsRow w1.heap.size 3 1 (.slice ad2 (mooreTo xs row k).2.length c2) (mooreTo xs row k).2.length ((mooreTo xs row k).2.map (Value.int .i64)) ∧
      Hid (Apart (.slice ad (mooreTo xs row k).1.length c) (.slice ad2 (mooreTo xs row k).2.length c2) ∧ Apart (.slice ad2 (mooreTo xs row k).2.length c2) (.slice ad (mooreTo xs row k).1.length c)) ∧ Below w1.heap.size w1 wr) (fun _ _ _ iv _ => xs.length - (intOf iv).toNat)
  case atStart => exact ⟨0, none, none, 0, 0, by omega, rfl, rfl, rfl, rfl, World.ownsRow_nil _ _ _ _, World.ownsRow_nil _ _ _ _, Lib.hid ⟨Or.inl rfl, Or.inl rfl⟩, Below.refl _ _⟩
  case round =>
    obtain ⟨k, ad, ad2, c, c2, hk, rfl, rfl, rfl, rfl, hon, hoff, HA, hbw⟩ := hrel
    by_cases hlt : k < xs.length
    · have hkr : k < row.length := by rw [HRL.out]; exact hlt
      have hst := mooreTo_succ xs row k hkr
      obtain ⟨hall1, hall2, hall3⟩ := mooreTo_all (fun x => 0 ≤ x ∧ x < xs.length) xs row HS.out.rng k (by omega)
      have hri := HS.out.rng _ (List.getElem_mem hkr)
      obtain ⟨b1, o1, rfl, hcr⟩ := HRW.out.some hkr
      have fr := hcr k hkr 0 _ rfl
      simp only [Nat.add_zero, Nat.mul_one] at fr
      unfold mooreStep at hst
      generalize (mooreTo xs row k).1 = on at *
      generalize (mooreTo xs row k).2 = off at *
      generalize row[k] = ri at *
      obtain ⟨i, rfl⟩ := Int.eq_ofNat_of_zero_le hri.1
      have hi : i < xs.length := by omega
      obtain ⟨b, o, rfl, hcx⟩ := HX.out.some hi
      have f1 := hcx i hi 0 _ rfl
      have f2 := hcx i hi 2 _ rfl
      simp only [Nat.add_zero] at f1
      have hsum := sumL_app xs on i
      have hge := xget_nat hi
      rw [hge] at hsum hst
      have hbs := sumL_bound HB.out on
      have hb1' := HB.out i
      rw [hge] at hb1'
      have HST := Lib.hid hst
      have HAL := Lib.hid (show (∀ x ∈ on, 0 ≤ x ∧ x < xs.length) ∧ (∀ x ∈ off, 0 ≤ x ∧ x < xs.length) from ⟨hall1, hall2⟩)
      have HSUM := Lib.hid hsum
      have HCX := Lib.hid hcx
      have hol : on.length ≤ 100 ∧ off.length ≤ 100 := by omega
      obtain ⟨hol1, hol2⟩ := hol
      obtain ⟨hbs1, hbs2⟩ := hbs
      obtain ⟨hbl1, hbl2⟩ := hb1'
      have hbs3 : sumL xs on ≤ 100 * 1000000000 := by omega
      clear hst hall1 hall2 hsum hcx hcr hge hall3 hri hbs2
      generalize hS : sumL xs on = sm at *
      have HSM := Lib.hid hS
      clear hS
      have r1 := (hbw.cell (lt_of_cell fr)).trans fr
      obtain ⟨wo, hwo⟩ : ∃ wo : World, wo = wr := ⟨_, rfl⟩
      subst hwo
      go_wp2_with (at_builtin; (refine app_row2 rowI' rfl _ _ rfl w1.heap.size rfl hon [.int .i64 i] rfl (by first | rfl | simp) rfl (encI_one _) (by unfold maxLen; omega) (by omega) hbw.size ?_))
      intro v' w2 hon2 hg2 hv2
      obtain ⟨hoff2, hap⟩ := apart_kept hoff HA.out.1 hg2 hv2
      have hb2 := hbw.trans (grown_below hon hbw.size hg2)
      rw [show on.map (Value.int .i64) ++ [Value.int .i64 (i : Int)] = (on ++ [(i : Int)]).map (Value.int .i64) by simp] at hon2
      obtain ⟨g, cap1, hv', hg1, hg3, hc1, hcm⟩ := owns_slice hon2 (by omega)
      subst hv'
      have HAP := Lib.hid hap
      clear r1 hon hoff hbw hg2 hv2 hap HA
      have q1 := (hb2.cell (lt_of_cell f1)).trans f1
      have q2 := (hb2.cell (lt_of_cell f2)).trans f2
      generalize hD : xs[i].2.2 = D at *
      generalize hL : xs[i].1 = L at *
      by_cases hle : sm + L ≤ D
      · have H' : Hid (mooreTo xs row (k + 1) = (on ++ [(i : Int)], off)) := Lib.hid (by rw [HST.out, if_pos (by rw [HSUM.out]; exact hle)])
        have hn1 : ¬ D < sm + L := by omega
        clear HST
        go_wp2
        go_roundw
        case rel => exact ⟨k + 1, some ⟨g, 0, none⟩, ad2, cap1, c2, by omega, by go_num, by rw [H'.out]; simp, by rw [H'.out], by rw [H'.out, HSUM.out], by rw [H'.out]; simpa using hon2, by rw [H'.out]; exact hoff2, Lib.hid (by rw [H'.out]; exact ⟨by simpa using HAP.out, by simpa using apart_sym HAP.out⟩), hb2⟩
        case measure => simp [intOf]; omega
      · have hn1 : D < sm + L := by omega
        obtain ⟨on1, hon1⟩ : ∃ on1, on1 = on ++ [(i : Int)] := ⟨_, rfl⟩
        have hl1 : on1.length = on.length + 1 := by rw [hon1]; simp
        rw [← hon1] at hon2
        have H' : Hid (mooreTo xs row (k + 1) = (on1.eraseIdx (amaxM xs on1 on1.length), off ++ [on1.getD (amaxM xs on1 on1.length) 0]) ∧ sumL xs on1 = sm + L ∧ on1.length = on.length + 1 ∧ ∀ x ∈ on1, 0 ≤ x ∧ x < xs.length) := Lib.hid ⟨by rw [HST.out, if_neg (by rw [HSUM.out]; exact hle), hon1], by rw [hon1, HSUM.out], hl1, by
          intro x hx
          rw [hon1] at hx
          rcases List.mem_append.1 hx with h | h
          · exact HAL.out.1 x h
          · simp at h; omega⟩
        clear HST hon1 hl1 hle
        go_wp2
        go_loopw [11, 47] (fun kv jv wr => ∃ j : Nat, j ≤ on.length + 1 ∧ jv = .int .i64 j ∧ kv = .int .i64 (amaxM xs on1 j : Nat) ∧ ∃ m, wr = w2.drewN m) (fun _ jv _ => on.length + 1 - (intOf jv).toNat)
        case atStart => exact ⟨0, by omega, rfl, rfl, 0, rfl⟩
        case round =>
          obtain ⟨j, hj, rfl, rfl, m, rfl⟩ := hrel
          have ham : amaxM xs on1 j ≤ on.length := by
            rcases Nat.eq_zero_or_pos j with h | h
            · rw [h]; simp [amaxM]
            · have := amaxM_lt xs on1 j h; omega
          by_cases hjl : j < on.length + 1
          · have hz := H'.out.2.2.2
            have hl1 := H'.out.2.2.1
            have hy' := hz on1[j] (List.getElem_mem (by omega))
            have hz' := hz on1[amaxM xs on1 j] (List.getElem_mem (by omega))
            have cy := owns_get hon2 j (by omega) (by omega)
            have cz := owns_get hon2 (amaxM xs on1 j) (by omega) (by omega)
            have hnext : amaxM xs on1 (j + 1) = if (xget xs on1[amaxM xs on1 j]).1 < (xget xs on1[j]).1 then j else amaxM xs on1 j := by
              show (if _ then _ else _) = _
              simp [List.getD, show j < on1.length by omega, show amaxM xs on1 j < on1.length by omega]
            generalize on1[j] = y at *
            generalize on1[amaxM xs on1 j] = z at *
            obtain ⟨yi, rfl⟩ := Int.eq_ofNat_of_zero_le hy'.1
            obtain ⟨zi, rfl⟩ := Int.eq_ofNat_of_zero_le hz'.1
            have hyi : yi < xs.length := by omega
            have hzi : zi < xs.length := by omega
            rw [xget_nat hyi, xget_nat hzi] at hnext
            have gy := HCX.out yi hyi 0 _ rfl
            have gz := HCX.out zi hzi 0 _ rfl
            simp only [Nat.add_zero] at gy gz
            have cy2 := (hb2.cell (lt_of_cell gy)).trans gy
            have cz2 := (hb2.cell (lt_of_cell gz)).trans gz
            have HNX := Lib.hid hnext
            clear hnext gy gz hz hl1 hy' hz' f1 f2 q1 q2 fr
            generalize amaxM xs on1 j = am at *
            generalize xs[yi].1 = Ly at *
            generalize xs[zi].1 = Lz at *
            have y1 : (j : Int) < (on.length : Int) + 1 := by omega
            have y2 : (am : Int) < (on.length : Int) + 1 := by omega
            have y3 : (yi : Int) < (xs.length : Int) := by omega
            have y4 : (zi : Int) < (xs.length : Int) := by omega
            by_cases hlt2 : Lz < Ly
            · have HN2 : Hid (amaxM xs on1 (j + 1) = j) := Lib.hid (HNX.out.trans (if_pos hlt2))
              go_wp2
              go_quiet (fail)
              go_wp2
              go_roundw
              case rel => exact ⟨j + 1, by omega, by go_num, by rw [HN2.out], _, rfl⟩
              case measure => simp [intOf]; omega
            · have HN2 : Hid (amaxM xs on1 (j + 1) = am) := Lib.hid (HNX.out.trans (if_neg hlt2))
              go_wp2
              go_quiet (fail)
              go_wp2
              go_roundw
              case rel => exact ⟨j + 1, by omega, by go_num, by rw [HN2.out], _, rfl⟩
              case measure => simp [intOf]; omega
          · obtain rfl : j = on.length + 1 := by omega
            have hl1 := H'.out.2.2.1
            have H2 := H'.out
            rw [hl1] at H2
            obtain ⟨k1, k2, _, k4⟩ := H2
            have cz := owns_get hon2 (amaxM xs on1 (on.length + 1)) (by omega) (by omega)
            have hz' := k4 on1[amaxM xs on1 (on.length + 1)] (List.getElem_mem (by omega))
            have hers := sumL_erase xs on1 (amaxM xs on1 (on.length + 1)) (by omega)
            have hel : (on1.eraseIdx (amaxM xs on1 (on.length + 1))).length = on.length := by
              rw [List.length_eraseIdx, if_pos (by omega)]; omega
            rw [show on1.getD (amaxM xs on1 (on.length + 1)) 0 = on1[amaxM xs on1 (on.length + 1)]'(by omega) by simp [List.getD, show amaxM xs on1 (on.length + 1) < on1.length by omega]] at k1
            generalize on1[amaxM xs on1 (on.length + 1)]'(by omega) = z at *
            obtain ⟨zi, rfl⟩ := Int.eq_ofNat_of_zero_le hz'.1
            have hzi : zi < xs.length := by omega
            have gz := HCX.out zi hzi 0 _ rfl
            simp only [Nat.add_zero] at gz
            have cz2 := (hb2.cell (lt_of_cell gz)).trans gz
            have hbz := HB.out zi
            rw [xget_nat hzi] at hbz hers
            have HK := Lib.hid (show mooreTo xs row (k + 1) = _ ∧ _ ∧ _ from ⟨k1, hers.trans (by rw [k2]), hel⟩)
            clear k1 k2 k4 hers hel hz' gz hl1 f1 f2 q1 q2 fr hjl hj
            generalize amaxM xs on1 (on.length + 1) = am at *
            generalize xs[zi].1 = Lz at *
            obtain ⟨hbz1, hbz2⟩ := hbz
            have y2 : (am : Int) < (on.length : Int) + 1 := by omega
            have y4 : (zi : Int) < (xs.length : Int) := by omega
            have hamn : am < on.length + 1 := by omega
            have hb3 := below_drewN' hb2 m
            have hon3 : (w2.drewN m).ownsRow w1.heap.size 3 1 (.slice (some ⟨g, 0, none⟩) (on.length + 1) cap1) (on.length + 1) (on1.map (Value.int .i64)) := hon2
            have hoff3 : (w2.drewN m).ownsRow w1.heap.size 3 1 (.slice ad2 off.length c2) off.length (off.map (Value.int .i64)) := hoff2
            have cz3 : (w2.drewN m).cell? _ = _ := cz
            have cz4 : (w2.drewN m).cell? _ = _ := cz2
            clear cz cz2 hb2 hon2 hoff2
            generalize w2.drewN m = w3 at *
            go_wp2_with (at_builtin; (refine app_row2 rowI' rfl _ _ rfl w1.heap.size rfl hoff3 [.int .i64 zi] rfl (by first | rfl | simp) rfl (encI_one _) (by unfold maxLen; omega) (by omega) hb3.size ?_))
            intro v2 w4 hoff4 hg4 hv4
            obtain ⟨hon4, hap4⟩ := apart_kept hon3 (apart_sym HAP.out) hg4 hv4
            have hb4 := hb3.trans (grown_below hoff3 hb3.size hg4)
            rw [show off.map (Value.int .i64) ++ [Value.int .i64 (zi : Int)] = (off ++ [(zi : Int)]).map (Value.int .i64) by simp] at hoff4
            obtain ⟨ad4, c4, hv5⟩ := owns_form hoff4
            subst hv5
            have HAP4 := Lib.hid (apart_sym hap4)
            clear hap4 hg4 hv4 hon3 hoff3 hb3 cz3 cz4
            go_wp2_with fail
            refine (delete_any g (on.length + 1) cap1 am w1.heap.size on1 _ hon4 hamn (by omega) hc1 hcm).mono ?_
            rintro e w5 ⟨rfl, hon5, hg5⟩
            have hoff5 := hoff4.kept hg5 HAP4.out
            have hb5 := hb4.trans (grown_below hon4 hb4.size hg5)
            clear hon4 hoff4 hg5 hb4
            simp only [Nat.add_sub_cancel] at hon5
            go_wp2
            go_roundw
            case rel => exact ⟨k + 1, some ⟨g, 0, none⟩, ad4, cap1, c4, by omega, by go_num, by rw [HK.out.1, HK.out.2.2], by rw [HK.out.1]; simp, by rw [HK.out.1, HK.out.2.1], by rw [HK.out.1, HK.out.2.2]; exact hon5, by rw [HK.out.1]; simpa using hoff5, Lib.hid ⟨apart_len HAP4.out, apart_len (apart_sym HAP4.out)⟩, hb5⟩
            case measure => simp [intOf]; omega
    · obtain rfl : k = xs.length := by omega
      obtain ⟨_, _, hall3⟩ := mooreTo_all (fun _ => True) xs row (fun _ _ => trivial) xs.length (by rw [HRL.out]; exact Nat.le_refl _)
      obtain ⟨i0, hi0, hz0, hz1, hz2⟩ := info_parts infoInt
      have hll1 : (mooreTo xs row xs.length).1.length ≤ 100 := by omega
      have hll2 : (mooreTo xs row xs.length).2.length ≤ 100 := by omega
      clear hall3
      have HM : Hid (MooreOk xs ((mooreTo xs row xs.length).1 ++ (mooreTo xs row xs.length).2)) := Lib.hid ⟨row, HS.out, by unfold mooreAll; rw [HRL.out]⟩
      generalize (mooreTo xs row xs.length).1 = on at *
      generalize (mooreTo xs row xs.length).2 = off at *
      rcases hoff.2 with ⟨h1, h2⟩ | ⟨g2, c3, cur, h1, _⟩
      · obtain ⟨rfl, h3, rfl⟩ := Value.slice.inj h1
        have hoff0 : off = [] := List.eq_nil_of_length_eq_zero h2
        subst hoff0
        obtain ⟨a', cap', he0, he, _⟩ := ints_of_owns rfl hon
        have HE := Lib.hid he
        obtain ⟨rfl, hq2, rfl⟩ := Value.slice.inj he0
        clear he he0 h1 h2 h3 hoff hq2
        go_wp2_with (at_builtin; (refine wpList_append_own_none rfl _ _ 27 rfl w1.heap.size 3 i0 1 Tryd.underlying27 hi0 _ _ _ rfl hon rfl ?_))
        go_wp2
        go_ret2
        exact ⟨ad, on.length, c, on, rfl, rfl, HE.out, by have := HM.out; simpa using this, hb1.trans (hbw.mono hb1.size)⟩
      · obtain ⟨rfl, h3, rfl⟩ := Value.slice.inj h1
        have hcells := hoff.cells (g := g2) rfl
        have HCE := Lib.hid hcells
        clear h1 h3 hcells hoff
        go_wp2_with (at_builtin; (refine wpList_append_own _ rfl _ _ 27 rfl w1.heap.size 3 i0 (.int .i64 0) 1 8 Tryd.underlying27 hi0 hz0 hz1 hz2 rfl (by decide) _ _ _ rfl hon ⟨g2, 0, none⟩ off.length c2 (off.map (Value.int .i64)) rfl (by simp) HCE.out (by intro u hu; simp only [List.mem_map] at hu; obtain ⟨x, _, rfl⟩ := hu; rfl) (by unfold maxLen; omega) (by omega) hbw.size ?_))
        intro v' w4 hon4 hg4 _
        rw [← List.map_append] at hon4
        have hb4 := hbw.trans (grown_below hon hbw.size hg4)
        obtain ⟨a', cap', hv', he, _⟩ := ints_of_owns (by rw [List.length_append]) hon4
        subst hv'
        have HE := Lib.hid he
        clear he hon4 hg4 hon hbw
        go_wp2
        go_ret2
        exact ⟨a', _, cap', on ++ off, rfl, rfl, HE.out, HM.out, hb1.trans (hb4.mono hb1.size)⟩
end Go.Proofs.YtkfjmmoljhekiaaDoor
