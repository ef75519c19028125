/- When each job begins: the reference's Begins and the program's Many. -/
import Derived.Test.YtkfjmmoljhekiaaDoorRows
import Derived.Test.YtkfjmmoljhekiaaDoorPathM
import Derived.Test.YtkfjmmoljhekiaaDoorRow
import Derived.BigRegion
namespace Go.Proofs.YtkfjmmoljhekiaaDoor
open Go.RowKit
theorem rowI : RowOf Tryd.prog 27 3 (.int .i64 0) 1 8 := rowOf Tryd.underlying27 (by kernel_rfl) rfl (by decide)

set_option maxRecDepth 100000 in
set_option maxHeartbeats 4000000 in
theorem begins_any (a : Option Addr) (n cap s : Nat) (xs : List R3) (w : World) (hl : n = xs.length) (hn : xs.length ≤ 100) (hs : 1 ≤ s) (hs2 : s ≤ 20) (hx : Elems enc3 3 w a xs) :
    Calls Tryd.prog 21 #[.slice a n cap, .int .i64 s] w fun e w' => ∃ a' cap', e = .returned (.slice a' xs.length cap') ∧ Elems encI 1 w' a' (beginsM xs s xs.length) ∧ Below w.heap.size w w' := by
  subst hl
  go_enter Tryd.func21, Tryd.ntmps21
  go_wp2
  go_loopw [6, 13] (fun v i wr => ∃ k : Nat, k ≤ s ∧ i = .int .i64 k ∧ wr.ownsRow w.heap.size 3 1 v k ((List.replicate k (0 : Int)).map (Value.int .i64)) ∧ Below w.heap.size w wr) (fun _ i _ => s - (intOf i).toNat)
  case atStart => exact ⟨0, by omega, rfl, World.ownsRow_nil _ _ _ _, Below.refl _ _⟩
  case round =>
    obtain ⟨k, hk, rfl, hown, hb⟩ := hrel
    by_cases hlt : k < s
    · have hsz := hb.size
      go_wp2_with (at_builtin; refine app_row rowI rfl _ _ rfl w.heap.size rfl hown [.int .i64 0] rfl (by first | rfl | simp) rfl (encI_one 0) (by unfold maxLen; omega) (by omega) hsz ?_)
      intro v' w1 hown1 hb1
      have hown2 : w1.ownsRow w.heap.size 3 1 v' (k + 1) ((List.replicate (k + 1) (0 : Int)).map (Value.int .i64)) := by
        rw [List.replicate_succ', List.map_append]; simpa using hown1
      clear hown hown1
      go_wp2
      go_roundw
      case rel => exact ⟨k + 1, by omega, by go_num, hown2, hb.trans hb1⟩
      case measure => simp [intOf]; omega
    · obtain rfl : s = k := by omega
      obtain ⟨g, cap2, rfl, hg1, hg2⟩ := hown.form (by omega)
      go_wp2
      obtain ⟨B, hB⟩ : ∃ B, B = wr.heap.size := ⟨_, rfl⟩
      have hgB : g < B := by omega
      have hBw : w.heap.size ≤ B := by have := hb.size; omega
      have hBr : B ≤ wr.heap.size := by omega
      clear hB hg2
      go_loopw [5, 21] (fun v i wr => ∃ k : Nat, k ≤ xs.length ∧ i = .int .i64 k ∧ wr.ownsRow w.heap.size 3 1 (.slice (some ⟨g, 0, none⟩) s cap2) s ((freeAt xs s k).map (Value.int .i64)) ∧
          wr.ownsRow B 3 1 v k ((beginsM xs s k).map (Value.int .i64)) ∧ Below w.heap.size w wr ∧ B ≤ wr.heap.size) (fun _ i _ => xs.length - (intOf i).toNat)
      case atStart => exact ⟨0, by omega, rfl, hown, World.ownsRow_nil _ _ _ _, hb, hBr⟩
      case round =>
        clear hown hb hBr
        obtain ⟨k, hk, rfl, hfree, hout, hb, hBr⟩ := hrel
        by_cases hlt : k < xs.length
        · obtain ⟨b, o, rfl, hc⟩ := hx.some hlt
          have hbB := lt_of_cell (hc k hlt 0 _ rfl)
          simp only at hbB
          have h1 := (hb.cell hbB).trans (hc k hlt 0 _ rfl)
          have h2 := (hb.cell hbB).trans (hc k hlt 1 _ rfl)
          have h3 := (hb.cell hbB).trans (hc k hlt 2 _ rfl)
          simp only [Nat.add_zero] at h1
          have HF := Lib.hid (freeAt_succ xs s k hlt)
          have HO := Lib.hid (beginsM_succ xs s k hlt)
          have HL := Lib.hid (freeAt_len xs s k)
          clear hc hx
          generalize freeAt xs s k = F at *
          generalize beginsM xs s k = O at *
          have hsz := hb.size
          have hFc : ∀ j (h : j < F.length) (o : Obj), (wr.alloc o).cell? ⟨g, j, none⟩ = some (.int .i64 F[j]) := fun j h o => cell_a1 (owns_get hfree j (by rw [← HL.out]; exact h) h) o
          go_wp2
          obtain ⟨O1, hO1⟩ : ∃ O1, O1 = Obj.cells #[Value.int IntKind.i64 xs[k].1, Value.int IntKind.i64 xs[k].2.1, Value.int IntKind.i64 xs[k].2.2] 82 := ⟨_, rfl⟩
          go_loopw [9, 27] (fun kv i wi => ∃ q : Nat, q ≤ s ∧ i = .int .i64 q ∧ kv = .int .i64 (soonest F q) ∧ ∃ m, wi = (wr.alloc (Obj.cells #[Value.int IntKind.i64 xs[k].1, Value.int IntKind.i64 xs[k].2.1, Value.int IntKind.i64 xs[k].2.2] 82)).drewN m) (fun _ i _ => s - (intOf i).toNat)
          case atStart => exact ⟨0, by omega, rfl, rfl, 0, rfl⟩
          case round =>
            obtain ⟨q, hq, rfl, rfl, m, rfl⟩ := hrel
            by_cases hqs : q < s
            · have hq1 : q < F.length := by rw [HL.out]; exact hqs
              have hq2 : soonest F q < F.length := by
                rw [HL.out]
                rcases Nat.eq_zero_or_pos q with h0 | h0
                · subst h0; exact hqs
                · have := soonest_lt F q h0; omega
              have hq3 : soonest F q < s := by rw [← HL.out]; exact hq2
              have HS := Lib.hid (soonest_succ F q)
              have c1 := hFc q hq1 (Obj.cells #[Value.int IntKind.i64 xs[k].1, Value.int IntKind.i64 xs[k].2.1, Value.int IntKind.i64 xs[k].2.2] 82)
              have c2 := hFc _ hq2 (Obj.cells #[Value.int IntKind.i64 xs[k].1, Value.int IntKind.i64 xs[k].2.1, Value.int IntKind.i64 xs[k].2.2] 82)
              have HG1 := Lib.hid (getD_lt hq1)
              have HG2 := Lib.hid (getD_lt hq2)
              clear hFc
              generalize soonest F q = z at *
              go_wp2
              go_quiet (fail)
              go_wp2
              all_goals
                refine ⟨⟨q + 1, by omega, by go_num, ?_, _, rfl⟩, by simp [intOf]; omega⟩
                refine congrArg (fun t : Nat => Value.int .i64 (t : Int)) ?_
                rw [HS.out, HG1.out, HG2.out]
                first
                  | rw [if_pos (by assumption)]
                  | rw [if_neg (Int.not_lt.mpr (by assumption))]
            · obtain rfl : s = q := by omega
              have hz1 : soonest F s < s := soonest_lt F s (by omega)
              have hz2 : soonest F s < F.length := by rw [HL.out]; exact hz1
              have hFz := hFc _ hz2
              have hfr : ∀ o, (wr.alloc o).frozen? ⟨g, soonest F s, none⟩ = false := fun o => frozen_a1 (owns_base hfree).2 (hfree.frozenAt _) o
              have HB : Hid (beginAt F xs[k] = if F[soonest F s] < xs[k].1 then xs[k].1 else F[soonest F s]) := by
                show beginAt F xs[k] = _
                unfold beginAt
                rw [HL.out, getD_lt hz2]
              have HV : Hid (serve F xs[k] = F.set (soonest F s) (wrap64 (beginAt F xs[k] + xs[k].2.1))) := by
                show serve F xs[k] = _
                unfold serve
                rw [HL.out]
              have hO2 : ∀ (o : Obj) (v : Value) (z : Nat), ((wr.alloc o).setCell ⟨g, z, none⟩ v).ownsRow B 3 1 u5 k (O.map (Value.int .i64)) := fun o v z => ownsRow_setCell_below (hout.alloc _) hgB _
              have hF2 : ∀ (o : Obj) (m : Nat) (v : Int) (z : Nat), (((wr.alloc o).drewN m).setCell ⟨g, z, none⟩ (.int .i64 v)).ownsRow w.heap.size 3 1 (.slice (some ⟨g, 0, none⟩) s cap2) s ((F.set z v).map (Value.int .i64)) := fun o m v z => owns_set (w := (wr.alloc o).drewN m) (hfree.alloc o) z v
              clear hFc hout hfree
              generalize soonest F s = z at *
              by_cases hcmp : F[z] < xs[k].1
              · have HB2 := Lib.hid (HB.out.trans (if_pos hcmp))
                go_wp2_with (at_builtin; (refine app_row rowI rfl _ _ rfl B rfl (hO2 _ _ _) [.int .i64 xs[k].1] rfl (by first | rfl | simp) rfl (encI_one _) (by unfold maxLen; omega) (by omega) (by simp; omega) ?_))
                intro v' w1 hown1 hb1
                have hf1 := owns_below (hF2 _ _ _ _) hb1 (fun q hq => by have h0 : g = q := Option.some.inj hq; omega)
                have hw1 := ((below_drewN' (hb.alloc hb.size (Obj.cells #[Value.int IntKind.i64 xs[k].1, Value.int IntKind.i64 xs[k].2.1, Value.int IntKind.i64 xs[k].2.2] 82)) m).setCell (p := ⟨g, z, none⟩) hg1 (.int .i64 (wrap64 (xs[k].1 + xs[k].2.1)))).trans (hb1.mono hBw)
                have hs1 := (((below_drewN' ((Below.refl 0 wr).alloc (Nat.zero_le _) (Obj.cells #[Value.int IntKind.i64 xs[k].1, Value.int IntKind.i64 xs[k].2.1, Value.int IntKind.i64 xs[k].2.2] 82)) m).setCell (p := ⟨g, z, none⟩) (Nat.zero_le _) (.int .i64 (wrap64 (xs[k].1 + xs[k].2.1)))).trans (hb1.mono (Nat.zero_le _))).size
                clear hO2 hF2 hFz hfr
                go_wp2
                refine ⟨⟨k + 1, by omega, by go_num, ?_, ?_, hw1, by omega⟩, by simp [intOf]; omega⟩
                · rw [HF.out, HV.out, HB2.out]; exact hf1
                · rw [HO.out, HB2.out, List.map_append]; exact hown1
              · have HB2 := Lib.hid (HB.out.trans (if_neg hcmp))
                go_wp2_with (at_builtin; (refine app_row rowI rfl _ _ rfl B rfl (hO2 _ _ _) [.int .i64 F[z]] rfl (by first | rfl | simp) rfl (encI_one _) (by unfold maxLen; omega) (by omega) (by simp; omega) ?_))
                intro v' w1 hown1 hb1
                have hf1 := owns_below (hF2 _ _ _ _) hb1 (fun q hq => by have h0 : g = q := Option.some.inj hq; omega)
                have hw1 := ((below_drewN' (hb.alloc hb.size (Obj.cells #[Value.int IntKind.i64 xs[k].1, Value.int IntKind.i64 xs[k].2.1, Value.int IntKind.i64 xs[k].2.2] 82)) m).setCell (p := ⟨g, z, none⟩) hg1 (.int .i64 (wrap64 (F[z] + xs[k].2.1)))).trans (hb1.mono hBw)
                have hs1 := (((below_drewN' ((Below.refl 0 wr).alloc (Nat.zero_le _) (Obj.cells #[Value.int IntKind.i64 xs[k].1, Value.int IntKind.i64 xs[k].2.1, Value.int IntKind.i64 xs[k].2.2] 82)) m).setCell (p := ⟨g, z, none⟩) (Nat.zero_le _) (.int .i64 (wrap64 (F[z] + xs[k].2.1)))).trans (hb1.mono (Nat.zero_le _))).size
                clear hO2 hF2 hFz hfr
                go_wp2
                refine ⟨⟨k + 1, by omega, by go_num, ?_, ?_, hw1, by omega⟩, by simp [intOf]; omega⟩
                · rw [HF.out, HV.out, HB2.out]; exact hf1
                · rw [HO.out, HB2.out, List.map_append]; exact hown1
        · obtain rfl : k = xs.length := by omega
          clear hx
          obtain ⟨a', cap', rfl, he, _⟩ := ints_of_owns (by rw [beginsM_len]) hout
          rw [beginsM_len] at *
          go_wp2
          go_ret
          exact ⟨a', cap', rfl, he, hb⟩
end Go.Proofs.YtkfjmmoljhekiaaDoor
