/- The reference's Things tells the names in order. -/
import Derived.Test.YtannijeiecmjpaaGreatDoorNamesD
import Derived.Deep.DeepCutAuto
import Derived.BigQuiet
import Derived.Sort.Walk0
import Derived.Deep.RegionLaw
import Derived.BigRegion
import Derived.Deep.QuietTactic
namespace Go.Proofs.YtannijeiecmjpaaGreatDoor
open Go.RowKit

theorem rowS : RowOf Tryz.prog 23 9 (.string ⟨#[]⟩) 1 16 := rowOf Tryz.underlying23 (by kernel_rfl) rfl (by decide)
set_option maxRecDepth 100000 in
set_option maxHeartbeats 8000000 in
theorem refThings_any {base bd : Nat} {v : Value} {L : List MoveD} {w : World} (hL : L.length ≤ 500) (H : RefDep base bd v L w) :
    Calls Tryz.prog 15 #[.pointer (some ⟨bd, 0, none⟩)] w fun e w' => ∃ v ss, e = .returned v ∧ NamesOf L ss ∧ w'.ownsRow w.heap.size 9 1 v ss.length (ss.map strV) ∧ Below w.heap.size w w' := by
  obtain ⟨a, c, rfl, h2⟩ := H.elems
  have h1 := H.cell
  have HX := Lib.hid h2
  have HH := Lib.hid H
  clear h2 H
  go_enter Tryz.func15, Tryz.ntmps15
  go_wp2
  go_loopw [3, 12] (fun ov iv wr => ∃ (k : Nat) (O : List Byt), k ≤ L.length ∧ O.length ≤ k ∧ iv = .int .i64 k ∧ Hid (OutOf L k O) ∧ (∃ ad cp, ov = .slice ad O.length cp) ∧ Hid (wr.ownsRow w.heap.size 9 1 ov O.length (O.map strV)) ∧ Below w.heap.size w wr) (fun _ iv _ => L.length - (intOf iv).toNat)
  case atStart => exact ⟨0, [], by omega, Nat.le_refl _, rfl, Lib.hid (out_zero L), ⟨_, _, rfl⟩, Lib.hid ⟨rfl, Or.inl ⟨rfl, rfl⟩⟩, Below.refl _ _⟩
  case round =>
    obtain ⟨k, O, hk, hOk, rfl, HO, ⟨ad, cp, rfl⟩, HR, hb⟩ := hrel
    by_cases hlt : k < L.length
    · obtain ⟨b, o, rfl, hc⟩ := HX.out.some hlt
      have c0 := hc k hlt 0 _ rfl
      have c1 := hc k hlt 1 _ rfl
      have d0 := (hb.cell (lt_of_cell c0)).trans c0
      have d1 := (hb.cell (lt_of_cell c1)).trans c1
      simp only [Nat.add_zero] at d0
      have hbb := hb.size
      clear hc c0 c1
      have HT : Hid (haveM L L[k].1 = haveM L L[k].1) := Lib.hid rfl
      obtain ⟨t, ht⟩ : ∃ t, t = L[k].1 := ⟨_, rfl⟩
      obtain ⟨mu, hmu⟩ : ∃ mu, mu = L[k].2 := ⟨_, rfl⟩
      rw [← ht] at d0
      rw [← hmu] at d1
      have HTT := Lib.hid ht
      clear ht hmu HT
      have hba : Hid (Below wr.heap.size wr (wr.alloc (.cells #[strV t, .int .i64 mu] 39))) := Lib.hid ((Below.refl _ _).alloc (Nat.le_refl _) _)
      have hE : Hid (Elems encT 1 wr ad O) := by
        obtain ⟨a2, c2, h9, h10, _⟩ := elems_of_owns (enc := encT) (xs := O) (fun _ => rfl) rfl (show wr.ownsRow w.heap.size 9 1 (.slice ad O.length cp) O.length (O.flatMap encT) by have h := HR.out; rwa [show O.flatMap encT = O.map strV by rw [← List.map_eq_flatMap]])
        have e3 : a2 = ad := (Value.slice.inj h9).1.symm
        rw [e3] at h10
        exact Lib.hid h10
      obtain ⟨wr0, hw0⟩ : ∃ wr0, wr0 = wr := ⟨_, rfl⟩
      subst hw0
      go_wp2
      go_loopw [6] (fun iv wi => ∃ i : Nat, i ≤ O.length ∧ iv = .int .i64 i ∧ Hid (∀ j (hj : j < O.length), j < i → O[j] < t) ∧ Below (wr0.alloc (.cells #[strV t, .int .i64 mu] 39)).heap.size (wr0.alloc (.cells #[strV t, .int .i64 mu] 39)) wi) (fun iv _ => O.length - (intOf iv).toNat)
      case atStart => exact ⟨0, by omega, rfl, Lib.hid (fun j _ h => absurd h (by omega)), Below.refl _ _⟩
      case round =>
        obtain ⟨i, hi, rfl, HB, hbi⟩ := hrel
        have HBI := Lib.hid ((hba.out).trans (hbi.mono hba.out.size))
        have n0 : (wr0.alloc (.cells #[strV t, .int .i64 mu] 39)).cell? ⟨wr0.heap.size, 0, none⟩ = some (strV t) := by simp
        have m0 := (hbi.cell (lt_of_cell n0)).trans n0
        clear n0
        by_cases hil : i < O.length
        · obtain ⟨b1, o1, rfl, hoc⟩ := hE.out.some hil
          have p0 := hoc i hil 0 _ rfl
          have q0 := (HBI.out.cell (lt_of_cell p0)).trans p0
          simp only [Nat.add_zero, Nat.mul_one] at q0
          clear p0 hoc
          have hg : decide ((i : Int) < (O.length : Int)) = true := decide_eq_true (by omega)
          by_cases hit : O[i] < t
          · have hd : Op.bytesLess O[i] t = true := (_root_.Go.Proofs.bytesLess_eq _ _).trans (decide_eq_true hit)
            have HB2 : Hid (∀ j (hj : j < O.length), j < i + 1 → O[j] < t) := Lib.hid (fun j hj h => by
              by_cases e : j = i
              · subst e; exact hit
              · exact HB.out j hj (by omega))
            clear hit
            go_wp2
            go_quiet (fail)
            go_wp2
            exact ⟨⟨i + 1, by omega, by go_num, HB2, hbi.trans (below_drewN _ _ _)⟩, by simp [intOf]; omega⟩
          · have hd : Op.bytesLess O[i] t = false := (_root_.Go.Proofs.bytesLess_eq _ _).trans (decide_eq_false hit)
            have HIT := Lib.hid hit
            clear hit
            have hRD := HH.out.at (hb.trans (HBI.out.mono hbb))
            obtain ⟨q, hq⟩ : ∃ q, q = haveM L t := ⟨_, rfl⟩
            have HQ := Lib.hid hq
            clear hq
            go_wp2
            go_quiet (fail)
            obtain ⟨wV, hV⟩ : ∃ wV, wV = wr.drewN nq := ⟨_, rfl⟩
            have hB9 : Below wr.heap.size wr wV := by rw [hV]; exact below_drewN wr nq _
            rw [← hV]
            clear hV
            replace m0 := (hB9.cell (lt_of_cell m0)).trans m0
            replace q0 := (hB9.cell (lt_of_cell q0)).trans q0
            replace hRD := hRD.at hB9
            have HBV := Lib.hid (HBI.out.trans (hB9.mono HBI.out.size))
            clear hB9
            go_wp2
            by_cases hz : q = 0
            · have hdz : (q == 0) = true := by simp [hz]
              refine wp_region_held_drew (S := fun w' => w'.cell? ⟨wr0.heap.size, 0, none⟩ = some (strV t) ∧ w'.cell? ⟨b1, o1 + i, none⟩ = some (strV O[i]) ∧ RefDep base bd (.slice (some ⟨b, o, none⟩) L.length c) L w' ∧ Below wr0.heap.size wr0 w') (by kernel_rfl) ⟨(by simpa using m0), (by simpa using q0), hRD.at (below_drewN wV 1 _), HBV.out.trans (below_drewN wV 1 _)⟩ (fun hHeld => ?_)
              refine take_yes (i := 0) (v := ?_) rfl (by kernel_rfl) (by kernel_rfl) (by kernel_rfl) (fun _ _ _ h => h) (by kernel_rfl) hHeld ?_ ?_
              rotate_left
              · intro w hSw; go_split_ands; go_simp; try with_reducible rfl
              try simp only [Act.put, List.setIfInBounds_toArray, List.set_cons_zero, List.set_cons_succ]
              refine take_yes (i := 1) (v := ?_) rfl (by kernel_rfl) (by kernel_rfl) (by kernel_rfl) (fun _ _ _ h => h) (by kernel_rfl) hHeld ?_ ?_
              rotate_left
              · intro w hSw; go_split_ands; go_simp; try with_reducible rfl
              try simp only [Act.put, List.setIfInBounds_toArray, List.set_cons_zero, List.set_cons_succ]
              refine take_yes (i := 2) (v := ?_) rfl (by kernel_rfl) (by kernel_rfl) (by kernel_rfl) (fun _ _ _ h => h) (by kernel_rfl) hHeld ?_ ?_
              rotate_left
              · intro w hSw; go_split_ands; go_simp; try with_reducible rfl
              try simp only [Act.put, List.setIfInBounds_toArray, List.set_cons_zero, List.set_cons_succ]
              refine take_loud (i := 3) rfl (by kernel_rfl) (fun K hK => ?_)
              go_wp2_with (go_at_call 10; refine (refHave_any bd L t _ hL hHeld.2.2.1).mono ?_; rintro e wN ⟨rfl, hbN⟩)
              rw [← HQ.out]
              refine hK.out _ _ ⟨(hbN.cell (lt_of_cell hHeld.1)).trans hHeld.1, (hbN.cell (lt_of_cell hHeld.2.1)).trans hHeld.2.1, hHeld.2.2.1.at hbN, hHeld.2.2.2.trans (hbN.mono hHeld.2.2.2.size)⟩ (fun hHeld2 => ?_)
              replace hHeld := hHeld2
              clear hK K hHeld2 hbN
              try simp only [Act.put, List.setIfInBounds_toArray, List.set_cons_zero, List.set_cons_succ]
              refine take_yes (i := 4) (v := ?_) rfl (by kernel_rfl) (by kernel_rfl) (by kernel_rfl) (fun _ _ _ h => h) (by kernel_rfl) hHeld ?_ ?_
              rotate_left
              · intro w hSw; go_split_ands; go_simp; try with_reducible rfl
              try simp only [Act.put, List.setIfInBounds_toArray, List.set_cons_zero, List.set_cons_succ]
              refine take_yes (i := 5) (v := ?_) rfl (by kernel_rfl) (by kernel_rfl) (by kernel_rfl) (fun _ _ _ h => h) (by kernel_rfl) hHeld ?_ ?_
              rotate_left
              · intro w hSw; go_split_ands; go_simp; try with_reducible rfl
              try simp only [Act.put, List.setIfInBounds_toArray, List.set_cons_zero, List.set_cons_succ]
              refine take_no (i := 6) rfl (by kernel_rfl) (by kernel_rfl) (by kernel_rfl) (fun _ _ _ h => h) (by kernel_rfl) hHeld ?_
              try simp only [Act.put, List.setIfInBounds_toArray, List.set_cons_zero, List.set_cons_succ]
              refine take_no (i := 7) rfl (by kernel_rfl) (by kernel_rfl) (by kernel_rfl) (fun _ _ _ h => h) (by kernel_rfl) hHeld ?_
              try simp only [Act.put, List.setIfInBounds_toArray, List.set_cons_zero, List.set_cons_succ]
              refine take_no (i := 8) rfl (by kernel_rfl) (by kernel_rfl) (by kernel_rfl) (fun _ _ _ h => h) (by kernel_rfl) hHeld ?_
              try simp only [Act.put, List.setIfInBounds_toArray, List.set_cons_zero, List.set_cons_succ]
              refine take_no (i := 9) rfl (by kernel_rfl) (by kernel_rfl) (by kernel_rfl) (fun _ _ _ h => h) (by kernel_rfl) hHeld ?_
              try simp only [Act.put, List.setIfInBounds_toArray, List.set_cons_zero, List.set_cons_succ]
              refine take_no (i := 10) rfl (by kernel_rfl) (by kernel_rfl) (by kernel_rfl) (fun _ _ _ h => h) (by kernel_rfl) hHeld ?_
              try simp only [Act.put, List.setIfInBounds_toArray, List.set_cons_zero, List.set_cons_succ]
              refine take_no (i := 11) rfl (by kernel_rfl) (by kernel_rfl) (by kernel_rfl) (fun _ _ _ h => h) (by kernel_rfl) hHeld ?_
              try simp only [Act.put, List.setIfInBounds_toArray, List.set_cons_zero, List.set_cons_succ]
              refine take_no (i := 12) rfl (by kernel_rfl) (by kernel_rfl) (by kernel_rfl) (fun _ _ _ h => h) (by kernel_rfl) hHeld ?_
              try simp only [Act.put, List.setIfInBounds_toArray, List.set_cons_zero, List.set_cons_succ]
              refine take_no (i := 13) rfl (by kernel_rfl) (by kernel_rfl) (by kernel_rfl) (fun _ _ _ h => h) (by kernel_rfl) hHeld ?_
              try simp only [Act.put, List.setIfInBounds_toArray, List.set_cons_zero, List.set_cons_succ]
              refine take_no (i := 14) rfl (by kernel_rfl) (by kernel_rfl) (by kernel_rfl) (fun _ _ _ h => h) (by kernel_rfl) hHeld ?_
              try simp only [Act.put, List.setIfInBounds_toArray, List.set_cons_zero, List.set_cons_succ]
              refine take_no (i := 15) rfl (by kernel_rfl) (by kernel_rfl) (by kernel_rfl) (fun _ _ _ h => h) (by kernel_rfl) hHeld ?_
              try simp only [Act.put, List.setIfInBounds_toArray, List.set_cons_zero, List.set_cons_succ]
              refine take_no (i := 16) rfl (by kernel_rfl) (by kernel_rfl) (by kernel_rfl) (fun _ _ _ h => h) (by kernel_rfl) hHeld ?_
              try simp only [Act.put, List.setIfInBounds_toArray, List.set_cons_zero, List.set_cons_succ]
              refine take_no (i := 17) rfl (by kernel_rfl) (by kernel_rfl) (by kernel_rfl) (fun _ _ _ h => h) (by kernel_rfl) hHeld ?_
              try simp only [Act.put, List.setIfInBounds_toArray, List.set_cons_zero, List.set_cons_succ]
              refine take_no (i := 18) rfl (by kernel_rfl) (by kernel_rfl) (by kernel_rfl) (fun _ _ _ h => h) (by kernel_rfl) hHeld ?_
              try simp only [Act.put, List.setIfInBounds_toArray, List.set_cons_zero, List.set_cons_succ]
              refine take_yes (i := 19) (v := ?_) rfl (by kernel_rfl) (by kernel_rfl) (by kernel_rfl) (fun _ _ _ h => h) (by kernel_rfl) hHeld ?_ ?_
              rotate_left
              · intro w hSw; go_split_ands; go_simp; try with_reducible rfl
              try simp only [Act.put, List.setIfInBounds_toArray, List.set_cons_zero, List.set_cons_succ]
              have HBN := Lib.hid hHeld.2.2.2
              have HRN := Lib.hid (own_frs (S := fun _ => False) HR.out (FrS.of_below HBN.out) (fun _ _ h => h))
              have HON : Hid (OutOf L (k + 1) O) := Lib.hid (out_none HO.out hlt (by rw [← HTT.out, ← HQ.out]; exact hz))
              refine wpAnyH_done (by kernel_rfl) ?_ _
              go_wp2
              exact ⟨⟨k + 1, O, by omega, by omega, by go_num, HON, ⟨_, _, rfl⟩, HRN, hb.trans (HBN.out.mono hbb)⟩, by simp [intOf]; omega⟩
            · have hdz : (q == 0) = false := by simp [hz]
              refine wp_region_held_drew (S := fun w' => w'.cell? ⟨wr0.heap.size, 0, none⟩ = some (strV t) ∧ w'.cell? ⟨b1, o1 + i, none⟩ = some (strV O[i]) ∧ RefDep base bd (.slice (some ⟨b, o, none⟩) L.length c) L w' ∧ Below wr0.heap.size wr0 w') (by kernel_rfl) ⟨(by simpa using m0), (by simpa using q0), hRD.at (below_drewN wV 1 _), HBV.out.trans (below_drewN wV 1 _)⟩ (fun hHeld => ?_)
              refine take_yes (i := 0) (v := ?_) rfl (by kernel_rfl) (by kernel_rfl) (by kernel_rfl) (fun _ _ _ h => h) (by kernel_rfl) hHeld ?_ ?_
              rotate_left
              · intro w hSw; go_split_ands; go_simp; try with_reducible rfl
              try simp only [Act.put, List.setIfInBounds_toArray, List.set_cons_zero, List.set_cons_succ]
              refine take_yes (i := 1) (v := ?_) rfl (by kernel_rfl) (by kernel_rfl) (by kernel_rfl) (fun _ _ _ h => h) (by kernel_rfl) hHeld ?_ ?_
              rotate_left
              · intro w hSw; go_split_ands; go_simp; try with_reducible rfl
              try simp only [Act.put, List.setIfInBounds_toArray, List.set_cons_zero, List.set_cons_succ]
              refine take_yes (i := 2) (v := ?_) rfl (by kernel_rfl) (by kernel_rfl) (by kernel_rfl) (fun _ _ _ h => h) (by kernel_rfl) hHeld ?_ ?_
              rotate_left
              · intro w hSw; go_split_ands; go_simp; try with_reducible rfl
              try simp only [Act.put, List.setIfInBounds_toArray, List.set_cons_zero, List.set_cons_succ]
              refine take_loud (i := 3) rfl (by kernel_rfl) (fun K hK => ?_)
              go_wp2_with (go_at_call 10; refine (refHave_any bd L t _ hL hHeld.2.2.1).mono ?_; rintro e wN ⟨rfl, hbN⟩)
              rw [← HQ.out]
              refine hK.out _ _ ⟨(hbN.cell (lt_of_cell hHeld.1)).trans hHeld.1, (hbN.cell (lt_of_cell hHeld.2.1)).trans hHeld.2.1, hHeld.2.2.1.at hbN, hHeld.2.2.2.trans (hbN.mono hHeld.2.2.2.size)⟩ (fun hHeld2 => ?_)
              replace hHeld := hHeld2
              clear hK K hHeld2 hbN
              try simp only [Act.put, List.setIfInBounds_toArray, List.set_cons_zero, List.set_cons_succ]
              refine take_yes (i := 4) (v := ?_) rfl (by kernel_rfl) (by kernel_rfl) (by kernel_rfl) (fun _ _ _ h => h) (by kernel_rfl) hHeld ?_ ?_
              rotate_left
              · intro w hSw; go_split_ands; go_simp; try with_reducible rfl
              try simp only [Act.put, List.setIfInBounds_toArray, List.set_cons_zero, List.set_cons_succ]
              refine take_yes (i := 5) (v := ?_) rfl (by kernel_rfl) (by kernel_rfl) (by kernel_rfl) (fun _ _ _ h => h) (by kernel_rfl) hHeld ?_ ?_
              rotate_left
              · intro w hSw; go_split_ands; go_simp; try with_reducible rfl
              try simp only [Act.put, List.setIfInBounds_toArray, List.set_cons_zero, List.set_cons_succ]
              by_cases het : O[i] = t
              · have hde : (O[i] == t) = true := beq_iff_eq.2 het
                have HIN : Hid (L[k].1 ∈ O) := Lib.hid (by rw [← HTT.out, ← het]; exact List.getElem_mem _)
                clear het
                refine take_yes (i := 6) (v := ?_) rfl (by kernel_rfl) (by kernel_rfl) (by kernel_rfl) (fun _ _ _ h => h) (by kernel_rfl) hHeld ?_ ?_
                rotate_left
                · intro w hSw; go_split_ands; go_simp; try with_reducible rfl
                try simp only [Act.put, List.setIfInBounds_toArray, List.set_cons_zero, List.set_cons_succ]
                refine take_yes (i := 7) (v := ?_) rfl (by kernel_rfl) (by kernel_rfl) (by kernel_rfl) (fun _ _ _ h => h) (by kernel_rfl) hHeld ?_ ?_
                rotate_left
                · intro w hSw; go_split_ands; go_simp; try with_reducible rfl
                try simp only [Act.put, List.setIfInBounds_toArray, List.set_cons_zero, List.set_cons_succ]
                refine take_yes (i := 8) (v := ?_) rfl (by kernel_rfl) (by kernel_rfl) (by kernel_rfl) (fun _ _ _ h => h) (by kernel_rfl) hHeld ?_ ?_
                rotate_left
                · intro w hSw; go_split_ands; go_simp; try with_reducible rfl
                try simp only [Act.put, List.setIfInBounds_toArray, List.set_cons_zero, List.set_cons_succ]
                refine take_yes (i := 9) (v := ?_) rfl (by kernel_rfl) (by kernel_rfl) (by kernel_rfl) (fun _ _ _ h => h) (by kernel_rfl) hHeld ?_ ?_
                rotate_left
                · intro w hSw; go_split_ands; go_simp; try with_reducible rfl
                try simp only [Act.put, List.setIfInBounds_toArray, List.set_cons_zero, List.set_cons_succ]
                refine take_yes (i := 10) (v := ?_) rfl (by kernel_rfl) (by kernel_rfl) (by kernel_rfl) (fun _ _ _ h => h) (by kernel_rfl) hHeld ?_ ?_
                rotate_left
                · intro w hSw; go_split_ands; go_simp; try with_reducible rfl
                try simp only [Act.put, List.setIfInBounds_toArray, List.set_cons_zero, List.set_cons_succ]
                refine take_yes (i := 11) (v := ?_) rfl (by kernel_rfl) (by kernel_rfl) (by kernel_rfl) (fun _ _ _ h => h) (by kernel_rfl) hHeld ?_ ?_
                rotate_left
                · intro w hSw; go_split_ands; go_simp; try with_reducible rfl
                try simp only [Act.put, List.setIfInBounds_toArray, List.set_cons_zero, List.set_cons_succ]
                refine take_yes (i := 12) (v := ?_) rfl (by kernel_rfl) (by kernel_rfl) (by kernel_rfl) (fun _ _ _ h => h) (by kernel_rfl) hHeld ?_ ?_
                rotate_left
                · intro w hSw; go_split_ands; go_simp; try with_reducible rfl
                try simp only [Act.put, List.setIfInBounds_toArray, List.set_cons_zero, List.set_cons_succ]
                refine take_yes (i := 13) (v := ?_) rfl (by kernel_rfl) (by kernel_rfl) (by kernel_rfl) (fun _ _ _ h => h) (by kernel_rfl) hHeld ?_ ?_
                rotate_left
                · intro w hSw; go_split_ands; go_simp; try with_reducible rfl
                try simp only [Act.put, List.setIfInBounds_toArray, List.set_cons_zero, List.set_cons_succ]
                refine take_yes (i := 14) (v := ?_) rfl (by kernel_rfl) (by kernel_rfl) (by kernel_rfl) (fun _ _ _ h => h) (by kernel_rfl) hHeld ?_ ?_
                rotate_left
                · intro w hSw; go_split_ands; go_simp; try with_reducible rfl
                try simp only [Act.put, List.setIfInBounds_toArray, List.set_cons_zero, List.set_cons_succ]
                refine take_yes (i := 15) (v := ?_) rfl (by kernel_rfl) (by kernel_rfl) (by kernel_rfl) (fun _ _ _ h => h) (by kernel_rfl) hHeld ?_ ?_
                rotate_left
                · intro w hSw; go_split_ands; go_simp; try with_reducible rfl
                try simp only [Act.put, List.setIfInBounds_toArray, List.set_cons_zero, List.set_cons_succ]
                refine take_yes (i := 16) (v := ?_) rfl (by kernel_rfl) (by kernel_rfl) (by kernel_rfl) (fun _ _ _ h => h) (by kernel_rfl) hHeld ?_ ?_
                rotate_left
                · intro w hSw; go_split_ands; go_simp; try with_reducible rfl
                try simp only [Act.put, List.setIfInBounds_toArray, List.set_cons_zero, List.set_cons_succ]
                refine take_yes (i := 17) (v := ?_) rfl (by kernel_rfl) (by kernel_rfl) (by kernel_rfl) (fun _ _ _ h => h) (by kernel_rfl) hHeld ?_ ?_
                rotate_left
                · intro w hSw; go_split_ands; go_simp; try with_reducible rfl
                try simp only [Act.put, List.setIfInBounds_toArray, List.set_cons_zero, List.set_cons_succ]
                refine take_yes (i := 18) (v := ?_) rfl (by kernel_rfl) (by kernel_rfl) (by kernel_rfl) (fun _ _ _ h => h) (by kernel_rfl) hHeld ?_ ?_
                rotate_left
                · intro w hSw; go_split_ands; go_simp; try with_reducible rfl
                try simp only [Act.put, List.setIfInBounds_toArray, List.set_cons_zero, List.set_cons_succ]
                refine take_yes (i := 19) (v := ?_) rfl (by kernel_rfl) (by kernel_rfl) (by kernel_rfl) (fun _ _ _ h => h) (by kernel_rfl) hHeld ?_ ?_
                rotate_left
                · intro w hSw; go_split_ands; go_simp; try with_reducible rfl
                try simp only [Act.put, List.setIfInBounds_toArray, List.set_cons_zero, List.set_cons_succ]
                have HBN := Lib.hid hHeld.2.2.2
                have HRN := Lib.hid (own_frs (S := fun _ => False) HR.out (FrS.of_below HBN.out) (fun _ _ h => h))
                have HON : Hid (OutOf L (k + 1) O) := Lib.hid (out_told HO.out hlt HIN.out)
                refine wpAnyH_done (by kernel_rfl) ?_ _
                go_wp2
                exact ⟨⟨k + 1, O, by omega, by omega, by go_num, HON, ⟨_, _, rfl⟩, HRN, hb.trans (HBN.out.mono hbb)⟩, by simp [intOf]; omega⟩
              · have hde : (O[i] == t) = false := beq_eq_false_iff_ne.2 het
                have HET := Lib.hid het
                clear het
                refine take_yes (i := 6) (v := ?_) rfl (by kernel_rfl) (by kernel_rfl) (by kernel_rfl) (fun _ _ _ h => h) (by kernel_rfl) hHeld ?_ ?_
                rotate_left
                · intro w hSw; go_split_ands; go_simp; try with_reducible rfl
                try simp only [Act.put, List.setIfInBounds_toArray, List.set_cons_zero, List.set_cons_succ]
                refine take_yes (i := 7) (v := ?_) rfl (by kernel_rfl) (by kernel_rfl) (by kernel_rfl) (fun _ _ _ h => h) (by kernel_rfl) hHeld ?_ ?_
                rotate_left
                · intro w hSw; go_split_ands; go_simp; try with_reducible rfl
                try simp only [Act.put, List.setIfInBounds_toArray, List.set_cons_zero, List.set_cons_succ]
                refine take_yes (i := 8) (v := ?_) rfl (by kernel_rfl) (by kernel_rfl) (by kernel_rfl) (fun _ _ _ h => h) (by kernel_rfl) hHeld ?_ ?_
                rotate_left
                · intro w hSw; go_split_ands; go_simp; try with_reducible rfl
                try simp only [Act.put, List.setIfInBounds_toArray, List.set_cons_zero, List.set_cons_succ]
                refine take_yes (i := 9) (v := ?_) rfl (by kernel_rfl) (by kernel_rfl) (by kernel_rfl) (fun _ _ _ h => h) (by kernel_rfl) hHeld ?_ ?_
                rotate_left
                · intro w hSw; go_split_ands; go_simp; try with_reducible rfl
                try simp only [Act.put, List.setIfInBounds_toArray, List.set_cons_zero, List.set_cons_succ]
                refine take_yes (i := 10) (v := ?_) rfl (by kernel_rfl) (by kernel_rfl) (by kernel_rfl) (fun _ _ _ h => h) (by kernel_rfl) hHeld ?_ ?_
                rotate_left
                · intro w hSw; go_split_ands; go_simp; try with_reducible rfl
                try simp only [Act.put, List.setIfInBounds_toArray, List.set_cons_zero, List.set_cons_succ]
                refine take_yes (i := 11) (v := ?_) rfl (by kernel_rfl) (by kernel_rfl) (by kernel_rfl) (fun _ _ _ h => h) (by kernel_rfl) hHeld ?_ ?_
                rotate_left
                · intro w hSw; go_split_ands; go_simp; try with_reducible rfl
                try simp only [Act.put, List.setIfInBounds_toArray, List.set_cons_zero, List.set_cons_succ]
                refine take_yes (i := 12) (v := ?_) rfl (by kernel_rfl) (by kernel_rfl) (by kernel_rfl) (fun _ _ _ h => h) (by kernel_rfl) hHeld ?_ ?_
                rotate_left
                · intro w hSw; go_split_ands; go_simp; try with_reducible rfl
                try simp only [Act.put, List.setIfInBounds_toArray, List.set_cons_zero, List.set_cons_succ]
                refine take_yes (i := 13) (v := ?_) rfl (by kernel_rfl) (by kernel_rfl) (by kernel_rfl) (fun _ _ _ h => h) (by kernel_rfl) hHeld ?_ ?_
                rotate_left
                · intro w hSw; go_split_ands; go_simp; try with_reducible rfl
                try simp only [Act.put, List.setIfInBounds_toArray, List.set_cons_zero, List.set_cons_succ]
                refine take_yes (i := 14) (v := ?_) rfl (by kernel_rfl) (by kernel_rfl) (by kernel_rfl) (fun _ _ _ h => h) (by kernel_rfl) hHeld ?_ ?_
                rotate_left
                · intro w hSw; go_split_ands; go_simp; try with_reducible rfl
                try simp only [Act.put, List.setIfInBounds_toArray, List.set_cons_zero, List.set_cons_succ]
                refine take_yes (i := 15) (v := ?_) rfl (by kernel_rfl) (by kernel_rfl) (by kernel_rfl) (fun _ _ _ h => h) (by kernel_rfl) hHeld ?_ ?_
                rotate_left
                · intro w hSw; go_split_ands; go_simp; try with_reducible rfl
                try simp only [Act.put, List.setIfInBounds_toArray, List.set_cons_zero, List.set_cons_succ]
                refine take_yes (i := 16) (v := ?_) rfl (by kernel_rfl) (by kernel_rfl) (by kernel_rfl) (fun _ _ _ h => h) (by kernel_rfl) hHeld ?_ ?_
                rotate_left
                · intro w hSw; go_split_ands; go_simp; try with_reducible rfl
                try simp only [Act.put, List.setIfInBounds_toArray, List.set_cons_zero, List.set_cons_succ]
                refine take_yes (i := 17) (v := ?_) rfl (by kernel_rfl) (by kernel_rfl) (by kernel_rfl) (fun _ _ _ h => h) (by kernel_rfl) hHeld ?_ ?_
                rotate_left
                · intro w hSw; go_split_ands; go_simp; try with_reducible rfl
                try simp only [Act.put, List.setIfInBounds_toArray, List.set_cons_zero, List.set_cons_succ]
                refine take_yes (i := 18) (v := ?_) rfl (by kernel_rfl) (by kernel_rfl) (by kernel_rfl) (fun _ _ _ h => h) (by kernel_rfl) hHeld ?_ ?_
                rotate_left
                · intro w hSw; go_split_ands; go_simp; try with_reducible rfl
                try simp only [Act.put, List.setIfInBounds_toArray, List.set_cons_zero, List.set_cons_succ]
                refine take_yes (i := 19) (v := ?_) rfl (by kernel_rfl) (by kernel_rfl) (by kernel_rfl) (fun _ _ _ h => h) (by kernel_rfl) hHeld ?_ ?_
                rotate_left
                · intro w hSw; go_split_ands; go_simp; try with_reducible rfl
                try simp only [Act.put, List.setIfInBounds_toArray, List.set_cons_zero, List.set_cons_succ]
                have HBN := Lib.hid hHeld.2.2.2
                have HRN := Lib.hid (own_frs (S := fun _ => False) HR.out (FrS.of_below HBN.out) (fun _ _ h => h))
                have HON : Hid (OutOf L (k + 1) (insAt O i t)) := Lib.hid (by
                  have h := out_ins HO.out hlt (by rw [← HTT.out, ← HQ.out]; exact hz) hi (by rw [← HTT.out]; exact HB.out) (fun _ => by rw [← HTT.out]; exact ⟨HIT.out, HET.out⟩)
                  rw [← HTT.out] at h
                  exact h)
                have m9 := hHeld.1
                have hbs : w.heap.size ≤ wN.heap.size := by have := HBN.out.size; omega
                have hwz : wr0.heap.size < wN.heap.size := lt_of_cell m9
                refine wpAnyH_done (by kernel_rfl) ?_ _
                go_wp2_with (at_builtin; (refine app_at rowS rfl _ _ rfl w.heap.size rfl (HRN.out.alloc _) ⟨wN.heap.size, 0, none⟩ 1 1 [strV []] rfl rfl (by intro j u hu; rcases j with _ | j <;> simp [Addr.add] at hu ⊢; exact hu) (by intro u hu; simp at hu; subst hu; rfl) (by unfold maxLen; omega) (by omega) (by simp; omega) ?_))
                intro ar cap2 w2 hown2 hg2 hloc
                have n9 := (((Below.refl wN.heap.size wN).alloc (Nat.le_refl _) (.cells #[strV []] 9)).cell (lt_of_cell m9)).trans m9
                have m2 := (World.cell?_of_block (a := ⟨wr0.heap.size, 0, none⟩) (hg2.block _ (lt_of_cell n9) (fun e => by have h8 : wr0.heap.size < wr0.heap.size := (HR.out.lt _ e.symm).2; omega))).trans n9
                have hb2 : Below w.heap.size (wN.alloc (.cells #[strV []] 9)) w2 := ⟨hg2.os, hg2.tape, hg2.output, hg2.size, fun k hk => hg2.block k (by simp; omega) (fun e => by have := (HR.out.lt k e.symm).1; omega)⟩
                have HB3 := Lib.hid (((hb.trans (HBN.out.mono hbb)).trans (((Below.refl wN.heap.size wN).alloc (Nat.le_refl _) (.cells #[strV []] 9)).mono hbs)).trans hb2)
                obtain ⟨g2, cap3, cur, hv3, e1, e2, e3, e4, e5, e6, e7⟩ := row_block hown2 (by omega)
                have hgm : wr0.heap.size ≠ g2 := fun e => by
                  rcases hloc with h | h
                  · have := (HR.out.lt g2 (by rw [← h, hv3]; rfl)).2
                    omega
                  · have h8 : wN.heap.size + 1 ≤ g2 := h g2 (by rw [hv3]; rfl)
                    omega
                obtain ⟨ha3, _, hc3⟩ := Value.slice.inj hv3
                subst ha3
                subst hc3
                clear hv3 hloc hb2 n9 hg2
                have hxl : (O.map strV).length = O.length := by simp
                have hsl : ((O.map strV).drop i).length = O.length - i := by simp
                have hs2 : ∀ l v, ((O.map strV).drop i)[l]? = some v → w2.drew.cell? ((⟨g2, i, none⟩ : Addr).add l) = some v := by
                  intro l v hl
                  have hadd : (⟨g2, i, none⟩ : Addr).add l = ⟨g2, i + l, none⟩ := by unfold Addr.add; split <;> simp_all
                  have hc2 : w2.drew.cell? ⟨g2, i + l, none⟩ = cur[i + l]? := by
                    have e30 : w2.drew.heap[g2]? = some (.cells cur.toArray 9 (0, 0)) := e3
                    simp [World.cell?, e30]
                  have hlt2 := (List.getElem?_eq_some_iff.1 hl).1
                  rw [hsl] at hlt2
                  have h9 := congrArg (fun x => x[i + l]?) e7
                  simp only [List.getElem?_take] at h9
                  rw [if_pos (by omega), List.getElem?_append_left (by omega)] at h9
                  rw [List.getElem?_drop] at hl
                  rw [hadd, hc2, h9, hl]
                have S1 : Hid (((O.map strV).drop i).length = Nat.min (O.length + 1 - i) (O.length - i)) := Lib.hid (by rw [hsl]; exact (Nat.min_eq_right (by omega)).symm)
                have S2 : Hid (0 < ((O.map strV).drop i).length → (if cap2 = i + 1 then some (⟨g2, 0, none⟩ : Addr) else some ⟨g2, i + 1, none⟩) = some ⟨g2, i + 1, none⟩ ∧ ∃ ad, some (⟨g2, i, none⟩ : Addr) = some ad ∧ ∀ j v, ((O.map strV).drop i)[j]? = some v → w2.drew.cell? (ad.add j) = some v) := Lib.hid fun h => by
                  rw [hsl] at h
                  exact ⟨if_neg (by omega), _, rfl, hs2⟩
                have S3 : Hid (i + 1 + ((O.map strV).drop i).length ≤ cur.length) := Lib.hid (by rw [hsl]; omega)
                have S4 : Hid (∀ v ∈ (O.map strV).drop i, v.oneCell' = true) := Lib.hid (fun v hv => by
                  obtain ⟨x, _, rfl⟩ := List.mem_map.1 (List.mem_of_mem_drop hv)
                  rfl)
                have HSP : Hid (((splice cur (i + 1) ((O.map strV).drop i)).take (O.length + 1)).set i (strV t) = (insAt O i t).map strV) := Lib.hid (by
                  have h := spliced (u := strV t) (by rw [hxl]; exact e7) (show i ≤ (O.map strV).length by rw [hxl]; exact hi)
                  rw [hxl] at h
                  rw [h]
                  simp [insAt, List.map_take, List.map_drop])
                have HEE := Lib.hid (show w2.heap[g2]? = some (.cells cur.toArray 9 (0, 0)) ∧ cur.length = cap2 from ⟨e3, e6⟩)
                have HM2 := Lib.hid m2
                clear e3 e6 e7 hown2 hs2 hsl m2 m9
                have z1 : IntKind.i64.wrap ((i : Int) + 1) = (i : Int) + 1 := IntWalk.i64_in _ (by omega)
                have z2 : (0 : Int) ≤ (i : Int) + 1 := by omega
                have z3 : ((i : Int) + 1).toNat = i + 1 := by omega
                have z4 : (i : Int) + 1 ≤ ((O.length : Int) + 1) := by omega
                have z5 : (0 : Int) ≤ (i : Int) := by omega
                have z6 : (i : Int) ≤ ((O.length : Int) + 1) := by omega
                have z7 : ¬ cap2 = i := by omega
                go_wp2
                go_region_law ((refine step_copy rfl (.tmp 57) (.tmp 60) 23 23 rfl 9 Tryz.underlying23 (by kernel_rfl) (if cap2 = i + 1 then some (⟨g2, 0, none⟩ : Addr) else some ⟨g2, i + 1, none⟩) (some ⟨g2, i, none⟩) (O.length - i) (cap2 - (i + 1)) (O.length + 1 - i) (cap2 - i) (by simp [Act.eval, Act.put]) (by simp [Act.eval, Act.put]) g2 (i + 1) cur 9 HEE.out.1 ((O.map strV).drop i) S1.out S2.out S3.out S4.out ?_; intro w4 hg4 hf4))
                have hlen : (splice cur (i + 1) ((O.map strV).drop i)).length = cap2 := by rw [length_splice _ _ _ S3.out]; exact HEE.out.2
                have hb4 : Below w.heap.size w w4 := (HB3.out.trans ((below_drewN w2 1 _).mono HB3.out.size)).trans (hf4.below (show w.heap.size ≤ w2.heap.size from HB3.out.size) (fun k hk => by rw [hk]; exact e1))
                have m4 := cell_frs (show w2.drew.cell? ⟨wr0.heap.size, 0, none⟩ = some (strV t) from HM2.out) hf4 hgm
                have hown4 := row_of_block (xs := (splice cur (i + 1) ((O.map strV).drop i)).take (O.length + 1)) (by rw [List.length_take, hlen]; omega) e1 hg4.out e4 e5 hlen rfl
                obtain ⟨ov, c4⟩ : ∃ ov, w4.cell? ⟨g2, i, none⟩ = some ov := by
                  have hlt3 : i < (splice cur (i + 1) ((O.map strV).drop i)).length := by rw [hlen]; omega
                  exact ⟨(splice cur (i + 1) ((O.map strV).drop i))[i], by have h := hg4.out; simp [World.cell?, h, hlt3]⟩
                have hf9 : w4.frozen? ⟨g2, i, none⟩ = false := hown4.frozenAt i
                have hnew := (hown4.stored i (strV t)).1
                rw [HSP.out] at hnew
                have hlI := insAt_length t hi
                have HN := Lib.hid hnew
                have HLI := Lib.hid hlI
                have HB4 := Lib.hid hb4
                clear hnew hown4 hg4 hlen S1 S2 S3 S4 HSP HEE hlI hb4 hf4
                go_wp2
                exact ⟨⟨k + 1, insAt O i t, by omega, by rw [HLI.out]; omega, by go_num, HON, ⟨_, _, by rw [HLI.out]⟩, Lib.hid (by rw [HLI.out]; exact HN.out), HB4.out.setCell (p := ⟨g2, i, none⟩) e1 _⟩, by simp [intOf]; omega⟩
        · have hg : decide ((i : Int) < (O.length : Int)) = false := decide_eq_false (by omega)
          have hRD := HH.out.at (hb.trans (HBI.out.mono hbb))
          obtain ⟨q, hq⟩ : ∃ q, q = haveM L t := ⟨_, rfl⟩
          have HQ := Lib.hid hq
          clear hq
          go_wp2
          go_quiet (fail)
          obtain ⟨wV, hV⟩ : ∃ wV, wV = wr.drewN nq := ⟨_, rfl⟩
          have hB9 : Below wr.heap.size wr wV := by rw [hV]; exact below_drewN wr nq _
          rw [← hV]
          clear hV
          replace m0 := (hB9.cell (lt_of_cell m0)).trans m0
          replace hRD := hRD.at hB9
          have HBV := Lib.hid (HBI.out.trans (hB9.mono HBI.out.size))
          clear hB9
          go_wp2
          by_cases hz : q = 0
          · have hdz : (q == 0) = true := by simp [hz]
            refine wp_region_held_drew (S := fun w' => w'.cell? ⟨wr0.heap.size, 0, none⟩ = some (strV t) ∧ RefDep base bd (.slice (some ⟨b, o, none⟩) L.length c) L w' ∧ Below wr0.heap.size wr0 w') (by kernel_rfl) ⟨(by simpa using m0), hRD.at (below_drewN wV 1 _), HBV.out.trans (below_drewN wV 1 _)⟩ (fun hHeld => ?_)
            refine take_yes (i := 0) (v := ?_) rfl (by kernel_rfl) (by kernel_rfl) (by kernel_rfl) (fun _ _ _ h => h) (by kernel_rfl) hHeld ?_ ?_
            rotate_left
            · intro w hSw; go_split_ands; go_simp; try with_reducible rfl
            try simp only [Act.put, List.setIfInBounds_toArray, List.set_cons_zero, List.set_cons_succ]
            refine take_yes (i := 1) (v := ?_) rfl (by kernel_rfl) (by kernel_rfl) (by kernel_rfl) (fun _ _ _ h => h) (by kernel_rfl) hHeld ?_ ?_
            rotate_left
            · intro w hSw; go_split_ands; go_simp; try with_reducible rfl
            try simp only [Act.put, List.setIfInBounds_toArray, List.set_cons_zero, List.set_cons_succ]
            refine take_yes (i := 2) (v := ?_) rfl (by kernel_rfl) (by kernel_rfl) (by kernel_rfl) (fun _ _ _ h => h) (by kernel_rfl) hHeld ?_ ?_
            rotate_left
            · intro w hSw; go_split_ands; go_simp; try with_reducible rfl
            try simp only [Act.put, List.setIfInBounds_toArray, List.set_cons_zero, List.set_cons_succ]
            refine take_loud (i := 3) rfl (by kernel_rfl) (fun K hK => ?_)
            go_wp2_with (go_at_call 10; refine (refHave_any bd L t _ hL hHeld.2.1).mono ?_; rintro e wN ⟨rfl, hbN⟩)
            rw [← HQ.out]
            refine hK.out _ _ ⟨(hbN.cell (lt_of_cell hHeld.1)).trans hHeld.1, hHeld.2.1.at hbN, hHeld.2.2.trans (hbN.mono hHeld.2.2.size)⟩ (fun hHeld2 => ?_)
            replace hHeld := hHeld2
            clear hK K hHeld2 hbN
            try simp only [Act.put, List.setIfInBounds_toArray, List.set_cons_zero, List.set_cons_succ]
            refine take_yes (i := 4) (v := ?_) rfl (by kernel_rfl) (by kernel_rfl) (by kernel_rfl) (fun _ _ _ h => h) (by kernel_rfl) hHeld ?_ ?_
            rotate_left
            · intro w hSw; go_split_ands; go_simp; try with_reducible rfl
            try simp only [Act.put, List.setIfInBounds_toArray, List.set_cons_zero, List.set_cons_succ]
            refine take_yes (i := 5) (v := ?_) rfl (by kernel_rfl) (by kernel_rfl) (by kernel_rfl) (fun _ _ _ h => h) (by kernel_rfl) hHeld ?_ ?_
            rotate_left
            · intro w hSw; go_split_ands; go_simp; try with_reducible rfl
            try simp only [Act.put, List.setIfInBounds_toArray, List.set_cons_zero, List.set_cons_succ]
            refine take_no (i := 6) rfl (by kernel_rfl) (by kernel_rfl) (by kernel_rfl) (fun _ _ _ h => h) (by kernel_rfl) hHeld ?_
            try simp only [Act.put, List.setIfInBounds_toArray, List.set_cons_zero, List.set_cons_succ]
            refine take_no (i := 7) rfl (by kernel_rfl) (by kernel_rfl) (by kernel_rfl) (fun _ _ _ h => h) (by kernel_rfl) hHeld ?_
            try simp only [Act.put, List.setIfInBounds_toArray, List.set_cons_zero, List.set_cons_succ]
            refine take_no (i := 8) rfl (by kernel_rfl) (by kernel_rfl) (by kernel_rfl) (fun _ _ _ h => h) (by kernel_rfl) hHeld ?_
            try simp only [Act.put, List.setIfInBounds_toArray, List.set_cons_zero, List.set_cons_succ]
            refine take_no (i := 9) rfl (by kernel_rfl) (by kernel_rfl) (by kernel_rfl) (fun _ _ _ h => h) (by kernel_rfl) hHeld ?_
            try simp only [Act.put, List.setIfInBounds_toArray, List.set_cons_zero, List.set_cons_succ]
            refine take_no (i := 10) rfl (by kernel_rfl) (by kernel_rfl) (by kernel_rfl) (fun _ _ _ h => h) (by kernel_rfl) hHeld ?_
            try simp only [Act.put, List.setIfInBounds_toArray, List.set_cons_zero, List.set_cons_succ]
            refine take_no (i := 11) rfl (by kernel_rfl) (by kernel_rfl) (by kernel_rfl) (fun _ _ _ h => h) (by kernel_rfl) hHeld ?_
            try simp only [Act.put, List.setIfInBounds_toArray, List.set_cons_zero, List.set_cons_succ]
            refine take_no (i := 12) rfl (by kernel_rfl) (by kernel_rfl) (by kernel_rfl) (fun _ _ _ h => h) (by kernel_rfl) hHeld ?_
            try simp only [Act.put, List.setIfInBounds_toArray, List.set_cons_zero, List.set_cons_succ]
            refine take_no (i := 13) rfl (by kernel_rfl) (by kernel_rfl) (by kernel_rfl) (fun _ _ _ h => h) (by kernel_rfl) hHeld ?_
            try simp only [Act.put, List.setIfInBounds_toArray, List.set_cons_zero, List.set_cons_succ]
            refine take_no (i := 14) rfl (by kernel_rfl) (by kernel_rfl) (by kernel_rfl) (fun _ _ _ h => h) (by kernel_rfl) hHeld ?_
            try simp only [Act.put, List.setIfInBounds_toArray, List.set_cons_zero, List.set_cons_succ]
            refine take_no (i := 15) rfl (by kernel_rfl) (by kernel_rfl) (by kernel_rfl) (fun _ _ _ h => h) (by kernel_rfl) hHeld ?_
            try simp only [Act.put, List.setIfInBounds_toArray, List.set_cons_zero, List.set_cons_succ]
            refine take_no (i := 16) rfl (by kernel_rfl) (by kernel_rfl) (by kernel_rfl) (fun _ _ _ h => h) (by kernel_rfl) hHeld ?_
            try simp only [Act.put, List.setIfInBounds_toArray, List.set_cons_zero, List.set_cons_succ]
            refine take_no (i := 17) rfl (by kernel_rfl) (by kernel_rfl) (by kernel_rfl) (fun _ _ _ h => h) (by kernel_rfl) hHeld ?_
            try simp only [Act.put, List.setIfInBounds_toArray, List.set_cons_zero, List.set_cons_succ]
            refine take_no (i := 18) rfl (by kernel_rfl) (by kernel_rfl) (by kernel_rfl) (fun _ _ _ h => h) (by kernel_rfl) hHeld ?_
            try simp only [Act.put, List.setIfInBounds_toArray, List.set_cons_zero, List.set_cons_succ]
            refine take_yes (i := 19) (v := ?_) rfl (by kernel_rfl) (by kernel_rfl) (by kernel_rfl) (fun _ _ _ h => h) (by kernel_rfl) hHeld ?_ ?_
            rotate_left
            · intro w hSw; go_split_ands; go_simp; try with_reducible rfl
            try simp only [Act.put, List.setIfInBounds_toArray, List.set_cons_zero, List.set_cons_succ]
            have HBN := Lib.hid hHeld.2.2
            have HRN := Lib.hid (own_frs (S := fun _ => False) HR.out (FrS.of_below HBN.out) (fun _ _ h => h))
            have HON : Hid (OutOf L (k + 1) O) := Lib.hid (out_none HO.out hlt (by rw [← HTT.out, ← HQ.out]; exact hz))
            refine wpAnyH_done (by kernel_rfl) ?_ _
            go_wp2
            exact ⟨⟨k + 1, O, by omega, by omega, by go_num, HON, ⟨_, _, rfl⟩, HRN, hb.trans (HBN.out.mono hbb)⟩, by simp [intOf]; omega⟩
          · have hdz : (q == 0) = false := by simp [hz]
            refine wp_region_held_drew (S := fun w' => w'.cell? ⟨wr0.heap.size, 0, none⟩ = some (strV t) ∧ RefDep base bd (.slice (some ⟨b, o, none⟩) L.length c) L w' ∧ Below wr0.heap.size wr0 w') (by kernel_rfl) ⟨(by simpa using m0), hRD.at (below_drewN wV 1 _), HBV.out.trans (below_drewN wV 1 _)⟩ (fun hHeld => ?_)
            refine take_yes (i := 0) (v := ?_) rfl (by kernel_rfl) (by kernel_rfl) (by kernel_rfl) (fun _ _ _ h => h) (by kernel_rfl) hHeld ?_ ?_
            rotate_left
            · intro w hSw; go_split_ands; go_simp; try with_reducible rfl
            try simp only [Act.put, List.setIfInBounds_toArray, List.set_cons_zero, List.set_cons_succ]
            refine take_yes (i := 1) (v := ?_) rfl (by kernel_rfl) (by kernel_rfl) (by kernel_rfl) (fun _ _ _ h => h) (by kernel_rfl) hHeld ?_ ?_
            rotate_left
            · intro w hSw; go_split_ands; go_simp; try with_reducible rfl
            try simp only [Act.put, List.setIfInBounds_toArray, List.set_cons_zero, List.set_cons_succ]
            refine take_yes (i := 2) (v := ?_) rfl (by kernel_rfl) (by kernel_rfl) (by kernel_rfl) (fun _ _ _ h => h) (by kernel_rfl) hHeld ?_ ?_
            rotate_left
            · intro w hSw; go_split_ands; go_simp; try with_reducible rfl
            try simp only [Act.put, List.setIfInBounds_toArray, List.set_cons_zero, List.set_cons_succ]
            refine take_loud (i := 3) rfl (by kernel_rfl) (fun K hK => ?_)
            go_wp2_with (go_at_call 10; refine (refHave_any bd L t _ hL hHeld.2.1).mono ?_; rintro e wN ⟨rfl, hbN⟩)
            rw [← HQ.out]
            refine hK.out _ _ ⟨(hbN.cell (lt_of_cell hHeld.1)).trans hHeld.1, hHeld.2.1.at hbN, hHeld.2.2.trans (hbN.mono hHeld.2.2.size)⟩ (fun hHeld2 => ?_)
            replace hHeld := hHeld2
            clear hK K hHeld2 hbN
            try simp only [Act.put, List.setIfInBounds_toArray, List.set_cons_zero, List.set_cons_succ]
            refine take_yes (i := 4) (v := ?_) rfl (by kernel_rfl) (by kernel_rfl) (by kernel_rfl) (fun _ _ _ h => h) (by kernel_rfl) hHeld ?_ ?_
            rotate_left
            · intro w hSw; go_split_ands; go_simp; try with_reducible rfl
            try simp only [Act.put, List.setIfInBounds_toArray, List.set_cons_zero, List.set_cons_succ]
            refine take_yes (i := 5) (v := ?_) rfl (by kernel_rfl) (by kernel_rfl) (by kernel_rfl) (fun _ _ _ h => h) (by kernel_rfl) hHeld ?_ ?_
            rotate_left
            · intro w hSw; go_split_ands; go_simp; try with_reducible rfl
            try simp only [Act.put, List.setIfInBounds_toArray, List.set_cons_zero, List.set_cons_succ]
            refine take_yes (i := 6) (v := ?_) rfl (by kernel_rfl) (by kernel_rfl) (by kernel_rfl) (fun _ _ _ h => h) (by kernel_rfl) hHeld ?_ ?_
            rotate_left
            · intro w hSw; go_split_ands; go_simp; try with_reducible rfl
            try simp only [Act.put, List.setIfInBounds_toArray, List.set_cons_zero, List.set_cons_succ]
            refine take_yes (i := 7) (v := ?_) rfl (by kernel_rfl) (by kernel_rfl) (by kernel_rfl) (fun _ _ _ h => h) (by kernel_rfl) hHeld ?_ ?_
            rotate_left
            · intro w hSw; go_split_ands; go_simp; try with_reducible rfl
            try simp only [Act.put, List.setIfInBounds_toArray, List.set_cons_zero, List.set_cons_succ]
            refine take_yes (i := 8) (v := ?_) rfl (by kernel_rfl) (by kernel_rfl) (by kernel_rfl) (fun _ _ _ h => h) (by kernel_rfl) hHeld ?_ ?_
            rotate_left
            · intro w hSw; go_split_ands; go_simp; try with_reducible rfl
            try simp only [Act.put, List.setIfInBounds_toArray, List.set_cons_zero, List.set_cons_succ]
            refine take_yes (i := 9) (v := ?_) rfl (by kernel_rfl) (by kernel_rfl) (by kernel_rfl) (fun _ _ _ h => h) (by kernel_rfl) hHeld ?_ ?_
            rotate_left
            · intro w hSw; go_split_ands; go_simp; try with_reducible rfl
            try simp only [Act.put, List.setIfInBounds_toArray, List.set_cons_zero, List.set_cons_succ]
            refine take_yes (i := 10) (v := ?_) rfl (by kernel_rfl) (by kernel_rfl) (by kernel_rfl) (fun _ _ _ h => h) (by kernel_rfl) hHeld ?_ ?_
            rotate_left
            · intro w hSw; go_split_ands; go_simp; try with_reducible rfl
            try simp only [Act.put, List.setIfInBounds_toArray, List.set_cons_zero, List.set_cons_succ]
            refine take_no (i := 11) rfl (by kernel_rfl) (by kernel_rfl) (by kernel_rfl) (fun _ _ _ h => h) (by kernel_rfl) hHeld ?_
            try simp only [Act.put, List.setIfInBounds_toArray, List.set_cons_zero, List.set_cons_succ]
            refine take_no (i := 12) rfl (by kernel_rfl) (by kernel_rfl) (by kernel_rfl) (fun _ _ _ h => h) (by kernel_rfl) hHeld ?_
            try simp only [Act.put, List.setIfInBounds_toArray, List.set_cons_zero, List.set_cons_succ]
            refine take_no (i := 13) rfl (by kernel_rfl) (by kernel_rfl) (by kernel_rfl) (fun _ _ _ h => h) (by kernel_rfl) hHeld ?_
            try simp only [Act.put, List.setIfInBounds_toArray, List.set_cons_zero, List.set_cons_succ]
            refine take_no (i := 14) rfl (by kernel_rfl) (by kernel_rfl) (by kernel_rfl) (fun _ _ _ h => h) (by kernel_rfl) hHeld ?_
            try simp only [Act.put, List.setIfInBounds_toArray, List.set_cons_zero, List.set_cons_succ]
            refine take_no (i := 15) rfl (by kernel_rfl) (by kernel_rfl) (by kernel_rfl) (fun _ _ _ h => h) (by kernel_rfl) hHeld ?_
            try simp only [Act.put, List.setIfInBounds_toArray, List.set_cons_zero, List.set_cons_succ]
            refine take_no (i := 16) rfl (by kernel_rfl) (by kernel_rfl) (by kernel_rfl) (fun _ _ _ h => h) (by kernel_rfl) hHeld ?_
            try simp only [Act.put, List.setIfInBounds_toArray, List.set_cons_zero, List.set_cons_succ]
            refine take_no (i := 17) rfl (by kernel_rfl) (by kernel_rfl) (by kernel_rfl) (fun _ _ _ h => h) (by kernel_rfl) hHeld ?_
            try simp only [Act.put, List.setIfInBounds_toArray, List.set_cons_zero, List.set_cons_succ]
            refine take_yes (i := 18) (v := ?_) rfl (by kernel_rfl) (by kernel_rfl) (by kernel_rfl) (fun _ _ _ h => h) (by kernel_rfl) hHeld ?_ ?_
            rotate_left
            · intro w hSw; go_split_ands; go_simp; try with_reducible rfl
            try simp only [Act.put, List.setIfInBounds_toArray, List.set_cons_zero, List.set_cons_succ]
            refine take_yes (i := 19) (v := ?_) rfl (by kernel_rfl) (by kernel_rfl) (by kernel_rfl) (fun _ _ _ h => h) (by kernel_rfl) hHeld ?_ ?_
            rotate_left
            · intro w hSw; go_split_ands; go_simp; try with_reducible rfl
            try simp only [Act.put, List.setIfInBounds_toArray, List.set_cons_zero, List.set_cons_succ]
            have HBN := Lib.hid hHeld.2.2
            have HRN := Lib.hid (own_frs (S := fun _ => False) HR.out (FrS.of_below HBN.out) (fun _ _ h => h))
            have HON : Hid (OutOf L (k + 1) (insAt O i t)) := Lib.hid (by
              have h := out_ins HO.out hlt (by rw [← HTT.out, ← HQ.out]; exact hz) hi (by rw [← HTT.out]; exact HB.out) (fun h => absurd h hil)
              rw [← HTT.out] at h
              exact h)
            have m9 := hHeld.1
            have hbs : w.heap.size ≤ wN.heap.size := by have := HBN.out.size; omega
            have hwz : wr0.heap.size < wN.heap.size := lt_of_cell m9
            refine wpAnyH_done (by kernel_rfl) ?_ _
            go_wp2_with (at_builtin; (refine app_at rowS rfl _ _ rfl w.heap.size rfl (HRN.out.alloc _) ⟨wN.heap.size, 0, none⟩ 1 1 [strV []] rfl rfl (by intro j u hu; rcases j with _ | j <;> simp [Addr.add] at hu ⊢; exact hu) (by intro u hu; simp at hu; subst hu; rfl) (by unfold maxLen; omega) (by omega) (by simp; omega) ?_))
            intro ar cap2 w2 hown2 hg2 hloc
            have n9 := (((Below.refl wN.heap.size wN).alloc (Nat.le_refl _) (.cells #[strV []] 9)).cell (lt_of_cell m9)).trans m9
            have m2 := (World.cell?_of_block (a := ⟨wr0.heap.size, 0, none⟩) (hg2.block _ (lt_of_cell n9) (fun e => by have h8 : wr0.heap.size < wr0.heap.size := (HR.out.lt _ e.symm).2; omega))).trans n9
            have hb2 : Below w.heap.size (wN.alloc (.cells #[strV []] 9)) w2 := ⟨hg2.os, hg2.tape, hg2.output, hg2.size, fun k hk => hg2.block k (by simp; omega) (fun e => by have := (HR.out.lt k e.symm).1; omega)⟩
            have HB3 := Lib.hid (((hb.trans (HBN.out.mono hbb)).trans (((Below.refl wN.heap.size wN).alloc (Nat.le_refl _) (.cells #[strV []] 9)).mono hbs)).trans hb2)
            obtain ⟨g2, cap3, cur, hv3, e1, e2, e3, e4, e5, e6, e7⟩ := row_block hown2 (by omega)
            have hgm : wr0.heap.size ≠ g2 := fun e => by
              rcases hloc with h | h
              · have := (HR.out.lt g2 (by rw [← h, hv3]; rfl)).2
                omega
              · have h8 : wN.heap.size + 1 ≤ g2 := h g2 (by rw [hv3]; rfl)
                omega
            obtain ⟨ha3, _, hc3⟩ := Value.slice.inj hv3
            subst ha3
            subst hc3
            clear hv3 hloc hb2 n9 hg2
            have hxl : (O.map strV).length = O.length := by simp
            have hsl : ((O.map strV).drop i).length = O.length - i := by simp
            have hs2 : ∀ l v, ((O.map strV).drop i)[l]? = some v → w2.drew.cell? ((⟨g2, i, none⟩ : Addr).add l) = some v := by
              intro l v hl
              have hadd : (⟨g2, i, none⟩ : Addr).add l = ⟨g2, i + l, none⟩ := by unfold Addr.add; split <;> simp_all
              have hc2 : w2.drew.cell? ⟨g2, i + l, none⟩ = cur[i + l]? := by
                have e30 : w2.drew.heap[g2]? = some (.cells cur.toArray 9 (0, 0)) := e3
                simp [World.cell?, e30]
              have hlt2 := (List.getElem?_eq_some_iff.1 hl).1
              rw [hsl] at hlt2
              have h9 := congrArg (fun x => x[i + l]?) e7
              simp only [List.getElem?_take] at h9
              rw [if_pos (by omega), List.getElem?_append_left (by omega)] at h9
              rw [List.getElem?_drop] at hl
              rw [hadd, hc2, h9, hl]
            have S1 : Hid (((O.map strV).drop i).length = Nat.min (O.length + 1 - i) (O.length - i)) := Lib.hid (by rw [hsl]; exact (Nat.min_eq_right (by omega)).symm)
            have S2 : Hid (0 < ((O.map strV).drop i).length → (if cap2 = i + 1 then some (⟨g2, 0, none⟩ : Addr) else some ⟨g2, i + 1, none⟩) = some ⟨g2, i + 1, none⟩ ∧ ∃ ad, some (⟨g2, i, none⟩ : Addr) = some ad ∧ ∀ j v, ((O.map strV).drop i)[j]? = some v → w2.drew.cell? (ad.add j) = some v) := Lib.hid fun h => by
              rw [hsl] at h
              exact ⟨if_neg (by omega), _, rfl, hs2⟩
            have S3 : Hid (i + 1 + ((O.map strV).drop i).length ≤ cur.length) := Lib.hid (by rw [hsl]; omega)
            have S4 : Hid (∀ v ∈ (O.map strV).drop i, v.oneCell' = true) := Lib.hid (fun v hv => by
              obtain ⟨x, _, rfl⟩ := List.mem_map.1 (List.mem_of_mem_drop hv)
              rfl)
            have HSP : Hid (((splice cur (i + 1) ((O.map strV).drop i)).take (O.length + 1)).set i (strV t) = (insAt O i t).map strV) := Lib.hid (by
              have h := spliced (u := strV t) (by rw [hxl]; exact e7) (show i ≤ (O.map strV).length by rw [hxl]; exact hi)
              rw [hxl] at h
              rw [h]
              simp [insAt, List.map_take, List.map_drop])
            have HEE := Lib.hid (show w2.heap[g2]? = some (.cells cur.toArray 9 (0, 0)) ∧ cur.length = cap2 from ⟨e3, e6⟩)
            have HM2 := Lib.hid m2
            clear e3 e6 e7 hown2 hs2 hsl m2 m9
            have z1 : IntKind.i64.wrap ((i : Int) + 1) = (i : Int) + 1 := IntWalk.i64_in _ (by omega)
            have z2 : (0 : Int) ≤ (i : Int) + 1 := by omega
            have z3 : ((i : Int) + 1).toNat = i + 1 := by omega
            have z4 : (i : Int) + 1 ≤ ((O.length : Int) + 1) := by omega
            have z5 : (0 : Int) ≤ (i : Int) := by omega
            have z6 : (i : Int) ≤ ((O.length : Int) + 1) := by omega
            have z7 : ¬ cap2 = i := by omega
            go_wp2
            go_region_law ((refine step_copy rfl (.tmp 57) (.tmp 60) 23 23 rfl 9 Tryz.underlying23 (by kernel_rfl) (if cap2 = i + 1 then some (⟨g2, 0, none⟩ : Addr) else some ⟨g2, i + 1, none⟩) (some ⟨g2, i, none⟩) (O.length - i) (cap2 - (i + 1)) (O.length + 1 - i) (cap2 - i) (by simp [Act.eval, Act.put]) (by simp [Act.eval, Act.put]) g2 (i + 1) cur 9 HEE.out.1 ((O.map strV).drop i) S1.out S2.out S3.out S4.out ?_; intro w4 hg4 hf4))
            have hlen : (splice cur (i + 1) ((O.map strV).drop i)).length = cap2 := by rw [length_splice _ _ _ S3.out]; exact HEE.out.2
            have hb4 : Below w.heap.size w w4 := (HB3.out.trans ((below_drewN w2 1 _).mono HB3.out.size)).trans (hf4.below (show w.heap.size ≤ w2.heap.size from HB3.out.size) (fun k hk => by rw [hk]; exact e1))
            have m4 := cell_frs (show w2.drew.cell? ⟨wr0.heap.size, 0, none⟩ = some (strV t) from HM2.out) hf4 hgm
            have hown4 := row_of_block (xs := (splice cur (i + 1) ((O.map strV).drop i)).take (O.length + 1)) (by rw [List.length_take, hlen]; omega) e1 hg4.out e4 e5 hlen rfl
            obtain ⟨ov, c4⟩ : ∃ ov, w4.cell? ⟨g2, i, none⟩ = some ov := by
              have hlt3 : i < (splice cur (i + 1) ((O.map strV).drop i)).length := by rw [hlen]; omega
              exact ⟨(splice cur (i + 1) ((O.map strV).drop i))[i], by have h := hg4.out; simp [World.cell?, h, hlt3]⟩
            have hf9 : w4.frozen? ⟨g2, i, none⟩ = false := hown4.frozenAt i
            have hnew := (hown4.stored i (strV t)).1
            rw [HSP.out] at hnew
            have hlI := insAt_length t hi
            have HN := Lib.hid hnew
            have HLI := Lib.hid hlI
            have HB4 := Lib.hid hb4
            clear hnew hown4 hg4 hlen S1 S2 S3 S4 HSP HEE hlI hb4 hf4
            go_wp2
            exact ⟨⟨k + 1, insAt O i t, by omega, by rw [HLI.out]; omega, by go_num, HON, ⟨_, _, by rw [HLI.out]⟩, Lib.hid (by rw [HLI.out]; exact HN.out), HB4.out.setCell (p := ⟨g2, i, none⟩) e1 _⟩, by simp [intOf]; omega⟩
    · have hall : L.length = k := by omega
      have HN : Hid (NamesOf L O) := Lib.hid (names_out (by rw [hall]; exact HO.out))
      clear hall
      go_wp2
      go_ret
      exact ⟨_, O, rfl, HN.out, HR.out, hb⟩
end Go.Proofs.YtannijeiecmjpaaGreatDoor
