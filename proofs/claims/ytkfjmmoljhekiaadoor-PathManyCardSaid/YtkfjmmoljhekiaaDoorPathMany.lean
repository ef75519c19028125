/- The program's Many. -/
import Derived.Test.YtkfjmmoljhekiaaDoorPathChk
import Derived.Test.YtkfjmmoljhekiaaDoorPathBeg
namespace Go.Proofs.YtkfjmmoljhekiaaDoor
open Go.RowKit
/-- Many: what is wrong, or when each begins. -/
def manyErr (xs : List R3) (s : Int) : Int := if jobsCheck xs ≠ 0 then jobsCheck xs else if s < 1 ∨ 20 < s then 4 else 0

set_option maxRecDepth 100000 in
set_option maxHeartbeats 4000000 in
theorem many_any (a : Option Addr) (n cap : Nat) (si : Int) (xs : List R3) (w : World) (hl : n = xs.length) (hn : xs.length ≤ 100) (hx : Elems enc3 3 w a xs) :
    Calls Tryd.prog 22 #[.slice a n cap, .int .i64 si] w fun e w' => ∃ a' n' cap' ys, e = .returned (.tuple #[.slice a' n' cap', errV (manyErr xs si)]) ∧ n' = List.length ys ∧ Elems encI 1 w' a' ys ∧
      (manyErr xs si = 0 → ys = beginsM xs si.toNat xs.length) ∧ (manyErr xs si ≠ 0 → ys = []) ∧ Below w.heap.size w w' := by
  subst hl
  by_cases hC : jobsCheck xs = 0
  case neg =>
    have hE : manyErr xs si = jobsCheck xs := if_pos hC
    have hne : manyErr xs si ≠ 0 := by rw [hE]; exact hC
    have hV : errV (jobsCheck xs) = .iface 25 (.int .i64 (jobsCheck xs)) := if_neg hC
    have HE := Lib.hid hE
    have HN := Lib.hid hne
    have HV := Lib.hid hV
    clear hC hE hne hV
    go_enter Tryd.func22, Tryd.ntmps22
    go_wp2_with (go_at_call 19; refine (check_any _ _ _ xs _ rfl (by unfold maxLen; omega) hx).mono ?_; rintro e w1 ⟨rfl, hb1⟩; rw [HV.out])
    go_ret2
    exact ⟨none, 0, 0, [], by rw [HE.out, HV.out]; rfl, rfl, Or.inl rfl, fun h => absurd h HN.out, fun _ => rfl, hb1⟩
  have hlen := jobs_ok_len hC
  have hV : errV (jobsCheck xs) = .nilIface := if_pos hC
  by_cases hS : si < 1 ∨ 20 < si
  case pos =>
    have hE : manyErr xs si = 4 := by unfold manyErr; rw [if_neg (by simp [hC]), if_pos hS]
    have HV := Lib.hid hV
    have HE := Lib.hid hE
    clear hC hV hE
    rcases hS with hS | hS
    · go_enter Tryd.func22, Tryd.ntmps22
      go_wp2_with (go_at_call 19; refine (check_any _ _ _ xs _ rfl (by unfold maxLen; omega) hx).mono ?_; rintro e w1 ⟨rfl, hb1⟩; rw [HV.out])
      go_ret2
      exact ⟨none, 0, 0, [], by rw [HE.out]; rfl, rfl, Or.inl rfl, fun h => absurd (HE.out.symm.trans h) (by decide), fun _ => rfl, hb1⟩
    · have hS' : ¬ si < 1 := by omega
      go_enter Tryd.func22, Tryd.ntmps22
      go_wp2_with (go_at_call 19; refine (check_any _ _ _ xs _ rfl (by unfold maxLen; omega) hx).mono ?_; rintro e w1 ⟨rfl, hb1⟩; rw [HV.out])
      go_ret2
      exact ⟨none, 0, 0, [], by rw [HE.out]; rfl, rfl, Or.inl rfl, fun h => absurd (HE.out.symm.trans h) (by decide), fun _ => rfl, hb1⟩
  obtain ⟨s, rfl⟩ := Int.eq_ofNat_of_zero_le (show 0 ≤ si by omega)
  have hE : manyErr xs s = 0 := by unfold manyErr; rw [if_neg (by simp [hC]), if_neg hS]
  have hs : 1 ≤ s := by omega
  have hs2 : s ≤ 20 := by omega
  have HV := Lib.hid hV
  have HE := Lib.hid hE
  clear hC hV hE hS
  suffices h : Calls Tryd.prog 22 #[.slice a xs.length cap, .int .i64 s] w fun e w' => ∃ a' n' cap' ys, e = .returned (.tuple #[.slice a' n' cap', .nilIface]) ∧ n' = List.length ys ∧ Elems encI 1 w' a' ys ∧ ys = beginsM xs s xs.length ∧ Below w.heap.size w w' by
    refine h.mono ?_
    rintro e w' ⟨a', n', cap', ys, h1, h2, h3, h4, h5⟩
    exact ⟨a', n', cap', ys, by rw [HE.out]; exact h1, h2, h3, fun _ => h4, fun h => absurd HE.out h, h5⟩
  clear HE
  go_enter Tryd.func22, Tryd.ntmps22
  go_wp2_with (first | (go_at_call 19; refine (check_any _ _ _ xs _ rfl (by unfold maxLen; omega) hx).mono ?_; rintro e w1 ⟨rfl, hb1⟩; rw [HV.out]) | (at_make; refine make_row _ rowI rfl _ _ rfl w.heap.size _ _ _ _ s rfl rfl rfl rfl (by omega) (by unfold maxLen; omega) hb1.size ?_))
  intro w2 hown hb2
  rw [made_ints s] at hown
  have hb := hb1.trans hb2
  have hg1 := hb1.size
  have hg2 := (owns_base hown).2
  clear hb1 hb2
  generalize w1.heap.size = g at *
  clear w1
  go_wp2
  obtain ⟨B, hB⟩ : ∃ B, B = g + 1 := ⟨_, rfl⟩
  have hgB : g < B := by omega
  have hBw : w.heap.size ≤ B := by omega
  have hBr : B ≤ w2.heap.size := by omega
  clear hB hg2
  go_loopw [8, 30] (fun v i wr => ∃ k : Nat, k ≤ xs.length ∧ i = .int .i64 k ∧ wr.ownsRow w.heap.size 3 1 (.slice (some ⟨g, 0, none⟩) s s) s ((freeAt xs s k).map (Value.int .i64)) ∧
      wr.ownsRow B 3 1 v k ((beginsM xs s k).map (Value.int .i64)) ∧ Below w.heap.size w wr ∧ B ≤ wr.heap.size) (fun _ i _ => xs.length - (intOf i).toNat)
  case atStart => exact ⟨0, by omega, rfl, hown, World.ownsRow_nil _ _ _ _, hb, hBr⟩
  case round =>
    clear hown hb hBr
    obtain ⟨k, hk, rfl, hfree, hout, hb, hBr⟩ := hrel
    by_cases hlt : k < xs.length
    · obtain ⟨b, o, rfl, hc⟩ := hx.some hlt
      have hbB := lt_of_cell (hc k hlt 0 _ rfl)
      simp only at hbB
      have h1 := (hb.cell hbB).trans (hc k hlt 0 _ rfl)
      have h2 := (hb.cell hbB).trans (hc k hlt 1 _ rfl)
      have h3 := (hb.cell hbB).trans (hc k hlt 2 _ rfl)
      simp only [Nat.add_zero] at h1
      have HF := Lib.hid (freeAt_succ xs s k hlt)
      have HO := Lib.hid (beginsM_succ xs s k hlt)
      have HL := Lib.hid (freeAt_len xs s k)
      clear hc hx
      generalize freeAt xs s k = F at *
      generalize beginsM xs s k = O at *
      have hsz := hb.size
      have hFc : ∀ j (h : j < F.length) (o : Obj), (wr.alloc o).cell? ⟨g, j, none⟩ = some (.int .i64 F[j]) := fun j h o => cell_a1 (owns_get hfree j (by rw [← HL.out]; exact h) h) o
      go_wp2
      obtain ⟨O1, hO1⟩ : ∃ O1, O1 = Obj.cells #[Value.int IntKind.i64 xs[k].1, Value.int IntKind.i64 xs[k].2.1, Value.int IntKind.i64 xs[k].2.2] 81 := ⟨_, rfl⟩
      go_loopw [11, 36] (fun kv i wi => ∃ q : Nat, q ≤ s ∧ i = .int .i64 q ∧ kv = .int .i64 (soonest F q) ∧ ∃ m, wi = (wr.alloc (Obj.cells #[Value.int IntKind.i64 xs[k].1, Value.int IntKind.i64 xs[k].2.1, Value.int IntKind.i64 xs[k].2.2] 81)).drewN m) (fun _ i _ => s - (intOf i).toNat)
      case atStart => exact ⟨0, by omega, rfl, rfl, 0, rfl⟩
      case round =>
        obtain ⟨q, hq, rfl, rfl, m, rfl⟩ := hrel
        by_cases hqs : q < s
        · have hq1 : q < F.length := by rw [HL.out]; exact hqs
          have hq2 : soonest F q < F.length := by
            rw [HL.out]
            rcases Nat.eq_zero_or_pos q with h0 | h0
            · subst h0; exact hqs
            · have := soonest_lt F q h0; omega
          have hq3 : soonest F q < s := by rw [← HL.out]; exact hq2
          have HS := Lib.hid (soonest_succ F q)
          have c1 := hFc q hq1 (Obj.cells #[Value.int IntKind.i64 xs[k].1, Value.int IntKind.i64 xs[k].2.1, Value.int IntKind.i64 xs[k].2.2] 81)
          have c2 := hFc _ hq2 (Obj.cells #[Value.int IntKind.i64 xs[k].1, Value.int IntKind.i64 xs[k].2.1, Value.int IntKind.i64 xs[k].2.2] 81)
          have HG1 := Lib.hid (getD_lt hq1)
          have HG2 := Lib.hid (getD_lt hq2)
          clear hFc
          generalize soonest F q = z at *
          go_wp2
          go_quiet (fail)
          go_wp2
          all_goals
            refine ⟨⟨q + 1, by omega, by go_num, ?_, _, rfl⟩, by simp [intOf]; omega⟩
            refine congrArg (fun t : Nat => Value.int .i64 (t : Int)) ?_
            rw [HS.out, HG1.out, HG2.out]
            first
              | rw [if_pos (by assumption)]
              | rw [if_neg (Int.not_lt.mpr (by assumption))]
        · obtain rfl : s = q := by omega
          have hz1 : soonest F s < s := soonest_lt F s (by omega)
          have hz2 : soonest F s < F.length := by rw [HL.out]; exact hz1
          have hFz := hFc _ hz2
          have hfr : ∀ o, (wr.alloc o).frozen? ⟨g, soonest F s, none⟩ = false := fun o => frozen_a1 (owns_base hfree).2 (hfree.frozenAt _) o
          have HB : Hid (beginAt F xs[k] = if F[soonest F s] < xs[k].1 then xs[k].1 else F[soonest F s]) := by
            show beginAt F xs[k] = _
            unfold beginAt
            rw [HL.out, getD_lt hz2]
          have HV : Hid (serve F xs[k] = F.set (soonest F s) (wrap64 (beginAt F xs[k] + xs[k].2.1))) := by
            show serve F xs[k] = _
            unfold serve
            rw [HL.out]
          have hO2 : ∀ (o : Obj) (v : Value) (z : Nat), ((wr.alloc o).setCell ⟨g, z, none⟩ v).ownsRow B 3 1 u8 k (O.map (Value.int .i64)) := fun o v z => ownsRow_setCell_below (hout.alloc _) hgB _
          have hF2 : ∀ (o : Obj) (m : Nat) (v : Int) (z : Nat), (((wr.alloc o).drewN m).setCell ⟨g, z, none⟩ (.int .i64 v)).ownsRow w.heap.size 3 1 (.slice (some ⟨g, 0, none⟩) s s) s ((F.set z v).map (Value.int .i64)) := fun o m v z => owns_set (w := (wr.alloc o).drewN m) (hfree.alloc o) z v
          clear hFc hout hfree
          generalize soonest F s = z at *
          by_cases hcmp : F[z] < xs[k].1
          · have HB2 := Lib.hid (HB.out.trans (if_pos hcmp))
            go_wp2_with fail
            go_quiet (fail)
            go_wp2_with (at_builtin; (refine app_row rowI rfl _ _ rfl B rfl (hO2 _ _ _) [.int .i64 xs[k].1] rfl (by first | rfl | simp) rfl (encI_one _) (by unfold maxLen; omega) (by omega) (by simp; omega) ?_))
            intro v' w1 hown1 hb1
            have hf1 := owns_below (hF2 _ _ _ _) hb1 (fun q hq => by have h0 : g = q := Option.some.inj hq; omega)
            have hw1 := ((below_drewN' (hb.alloc hb.size (Obj.cells #[Value.int IntKind.i64 xs[k].1, Value.int IntKind.i64 xs[k].2.1, Value.int IntKind.i64 xs[k].2.2] 81)) (m + nq)).setCell (p := ⟨g, z, none⟩) hg1 (.int .i64 (wrap64 (xs[k].1 + xs[k].2.1)))).trans (hb1.mono hBw)
            have hs1 := (((below_drewN' ((Below.refl 0 wr).alloc (Nat.zero_le _) (Obj.cells #[Value.int IntKind.i64 xs[k].1, Value.int IntKind.i64 xs[k].2.1, Value.int IntKind.i64 xs[k].2.2] 81)) (m + nq)).setCell (p := ⟨g, z, none⟩) (Nat.zero_le _) (.int .i64 (wrap64 (xs[k].1 + xs[k].2.1)))).trans (hb1.mono (Nat.zero_le _))).size
            clear hO2 hF2 hFz hfr
            go_wp2
            refine ⟨⟨k + 1, by omega, by go_num, ?_, ?_, hw1, by omega⟩, by simp [intOf]; omega⟩
            · rw [HF.out, HV.out, HB2.out]; exact hf1
            · rw [HO.out, HB2.out, List.map_append]; exact hown1
          · by_cases hcmp2 : xs[k].1 < F[z]
            · have HB2 := Lib.hid (HB.out.trans (if_neg hcmp))
              go_wp2_with fail
              go_quiet (fail)
              go_wp2_with (at_builtin; (refine app_row rowI rfl _ _ rfl B rfl (hO2 _ _ _) [.int .i64 F[z]] rfl (by first | rfl | simp) rfl (encI_one _) (by unfold maxLen; omega) (by omega) (by simp; omega) ?_))
              intro v' w1 hown1 hb1
              have hf1 := owns_below (hF2 _ _ _ _) hb1 (fun q hq => by have h0 : g = q := Option.some.inj hq; omega)
              have hw1 := ((below_drewN' (hb.alloc hb.size (Obj.cells #[Value.int IntKind.i64 xs[k].1, Value.int IntKind.i64 xs[k].2.1, Value.int IntKind.i64 xs[k].2.2] 81)) (m + nq)).setCell (p := ⟨g, z, none⟩) hg1 (.int .i64 (wrap64 (F[z] + xs[k].2.1)))).trans (hb1.mono hBw)
              have hs1 := (((below_drewN' ((Below.refl 0 wr).alloc (Nat.zero_le _) (Obj.cells #[Value.int IntKind.i64 xs[k].1, Value.int IntKind.i64 xs[k].2.1, Value.int IntKind.i64 xs[k].2.2] 81)) (m + nq)).setCell (p := ⟨g, z, none⟩) (Nat.zero_le _) (.int .i64 (wrap64 (F[z] + xs[k].2.1)))).trans (hb1.mono (Nat.zero_le _))).size
              clear hO2 hF2 hFz hfr
              go_wp2
              refine ⟨⟨k + 1, by omega, by go_num, ?_, ?_, hw1, by omega⟩, by simp [intOf]; omega⟩
              · rw [HF.out, HV.out, HB2.out]; exact hf1
              · rw [HO.out, HB2.out, List.map_append]; exact hown1
            · have hq0 : F[z] = xs[k].1 := by omega
              have HB2 : Hid (beginAt F xs[k] = xs[k].1) := (HB.out.trans (if_neg hcmp)).trans hq0
              clear hq0
              go_wp2_with fail
              go_quiet (fail)
              go_wp2_with (at_builtin; (refine app_row rowI rfl _ _ rfl B rfl (hO2 _ _ _) [.int .i64 xs[k].1] rfl (by first | rfl | simp) rfl (encI_one _) (by unfold maxLen; omega) (by omega) (by simp; omega) ?_))
              intro v' w1 hown1 hb1
              have hf1 := owns_below (hF2 _ _ _ _) hb1 (fun q hq => by have h0 : g = q := Option.some.inj hq; omega)
              have hw1 := ((below_drewN' (hb.alloc hb.size (Obj.cells #[Value.int IntKind.i64 xs[k].1, Value.int IntKind.i64 xs[k].2.1, Value.int IntKind.i64 xs[k].2.2] 81)) (m + nq)).setCell (p := ⟨g, z, none⟩) hg1 (.int .i64 (wrap64 (xs[k].1 + xs[k].2.1)))).trans (hb1.mono hBw)
              have hs1 := (((below_drewN' ((Below.refl 0 wr).alloc (Nat.zero_le _) (Obj.cells #[Value.int IntKind.i64 xs[k].1, Value.int IntKind.i64 xs[k].2.1, Value.int IntKind.i64 xs[k].2.2] 81)) (m + nq)).setCell (p := ⟨g, z, none⟩) (Nat.zero_le _) (.int .i64 (wrap64 (xs[k].1 + xs[k].2.1)))).trans (hb1.mono (Nat.zero_le _))).size
              clear hO2 hF2 hFz hfr
              go_wp2
              refine ⟨⟨k + 1, by omega, by go_num, ?_, ?_, hw1, by omega⟩, by simp [intOf]; omega⟩
              · rw [HF.out, HV.out, HB2.out]; exact hf1
              · rw [HO.out, HB2.out, List.map_append]; exact hown1
    · obtain rfl : k = xs.length := by omega
      clear hx
      obtain ⟨a', cap', rfl, he, _⟩ := ints_of_owns (by rw [beginsM_len]) hout
      go_wp2
      go_ret2
      exact ⟨a', _, cap', _, rfl, rfl, he, rfl, hb⟩
end Go.Proofs.YtkfjmmoljhekiaaDoor
