/- The reference's OpenDepot does what runM says (printed by gen_openr.py). -/
import Derived.Test.YtannijeiecmjpaaGreatDoorNumD
import Derived.Test.YtannijeiecmjpaaGreatDoorOpenP
namespace Go.Proofs.YtannijeiecmjpaaGreatDoor
open Go.RowKit

theorem ext_of (b : Byt) (i j : Nat) : (⟨b.toArray⟩ : ByteArray).extract i j = ⟨((b.drop i).take (j - i)).toArray⟩ := by
  apply ByteArray.ext
  apply Array.toList_inj.1
  rw [Lib.extract_data]
theorem ref_out {base bd : Nat} {v : Value} {L : List MoveD} {w : World} (H : RefDep base bd v L w) {B2 : Nat} (h : w.heap.size ≤ B2) : ¬ refBlocks bd v B2 := by
  rintro (h1 | h1)
  · have := lt_of_cell H.cell
    simp only at this
    omega
  · have := (H.row.lt B2 h1).2
    omega
def OpenRPost (b : Byt) (w : World) (e : Ending) (w' : World) : Prop :=
  ∃ v, e = .returned (.tuple #[.pointer (some ⟨w.heap.size, 0, none⟩), .int .i64 ((journalM (runM b 500 [])).length : Int)]) ∧ RefDep (w.heap.size + 1) w.heap.size v (runM b 500 []) w' ∧ OnWay b (runM b 500 []) ∧ Below w.heap.size w w'
set_option maxRecDepth 100000 in
set_option maxHeartbeats 40000000 in
theorem refOpen_any (b : Byt) (w : World) (hn : b.length ≤ 3000) (H : OpW w) :
    Calls Tryz.prog 19 #[strV b] w (OpenRPost b w) := by
  have HW := Lib.hid H
  have HS0 : Hid (RefDep (w.heap.size + 1) w.heap.size (.slice none 0 0) [] (w.alloc (.cells #[.slice none 0 0] 31))) := Lib.hid ⟨by simp, by simp, ⟨rfl, Or.inl ⟨rfl, rfl⟩⟩, fun m hm => (by cases hm), fun b hb => (by cases hb)⟩
  have HB0 : Hid (Below w.heap.size w (w.alloc (.cells #[.slice none 0 0] 31))) := Lib.hid ((Below.refl _ _).alloc (Nat.le_refl _) _)
  clear H
  obtain ⟨S, hS⟩ : ∃ S : ByteArray, S = ⟨b.toArray⟩ := ⟨_, rfl⟩
  have hSs : S.size = b.length := by rw [hS]; simp [ByteArray.size]
  have HEX : Hid (∀ i j, S.extract i j = ⟨((b.drop i).take (j - i)).toArray⟩) := Lib.hid (fun i j => by rw [hS]; exact ext_of b i j)
  rw [show strV b = .string S by rw [hS]]
  clear hS
  go_enter Tryz.func19, Tryz.ntmps19
  go_wp2
  go_loopw [5] (fun av wr => ∃ (L : List MoveD) (v : Value), av = .int .i64 ((journalM L).length : Int) ∧ Hid (OnWay b L) ∧ Hid (RefDep (w.heap.size + 1) w.heap.size v L wr) ∧ Hid (Below w.heap.size w wr)) (fun av _ => b.length - (intOf av).toNat)
  case atStart => exact ⟨[], _, rfl, Lib.hid (onWay_nil b), HS0, HB0⟩
  case round =>
    obtain ⟨L, v, rfl, HO, HD, HB⟩ := hrel
    clear HS0 HB0
    obtain ⟨ja, jc, rfl⟩ := rowForm HD.out.row
    have hjl := HO.out.le
    obtain ⟨jl, hj⟩ : ∃ jl, jl = (journalM L).length := ⟨_, rfl⟩
    rw [← hj] at hjl
    rw [← hj]
    have HJ := Lib.hid hj
    clear hj
    have HOW := Lib.hid (HW.out.at HB.out)
    have z2 : (jl : Int) ≤ (b.length : Int) := by omega
    obtain ⟨rest, hrest⟩ : ∃ rest, rest = b.drop jl := ⟨_, rfl⟩
    have hrl : rest.length = b.length - jl := by rw [hrest, List.length_drop]
    have hx1 : S.extract jl b.length = ⟨rest.toArray⟩ := by rw [HEX.out, hrest, List.take_of_length_le (by rw [List.length_drop]; omega)]
    have HFIN : Hid ((∀ m, ¬ StepTo L rest m) → ∀ w' v, RefDep (w.heap.size + 1) w.heap.size v L w' → Below w.heap.size w w' → OpenRPost b w (.returned (.tuple #[.pointer (some ⟨w.heap.size, 0, none⟩), .int .i64 (jl : Int)])) w') := Lib.hid (fun h w' v h1 h2 => by
      rw [hrest, HJ.out] at h
      have e := HO.out.stop (next_none h)
      have ho := HO.out
      rw [e] at h1 ho
      exact ⟨_, by rw [HJ.out, ← e], h1, ho, h2⟩)
    have HRE := Lib.hid hrest
    have HRL := Lib.hid hrl
    clear hrest hrl
    go_wp2_with fail
    refine (sidx_any rest wr).mono ?_
    rintro e w1 ⟨rfl, rfl⟩
    rcases (show Lib.indexByte rest 10 = -1 ∨ ∃ k : Nat, Lib.indexByte rest 10 = (k : Int) from by
      have h1 := Lib.indexByte_ge rest 10
      rcases Int.lt_or_le (Lib.indexByte rest 10) 0 with h | h
      · exact Or.inl (by omega)
      · exact Or.inr ⟨(Lib.indexByte rest 10).toNat, by omega⟩) with hk | ⟨k, hk⟩
    · have HNS : Hid (∀ m, ¬ StepTo L rest m) := Lib.hid (fun m hm => by
        have h5 := (step_yes hm).1
        rw [hk] at h5
        omega)
      rw [hk]
      have HNO := Lib.hid (HFIN.out HNS.out)
      clear hk
      go_wp2
      go_ret2
      exact HNO.out _ _ HD.out HB.out
    · have hkl := index_lt hk
      have hrl := HRL.out
      have HK := Lib.hid hk
      have hx2 : S.extract jl (jl + k) = ⟨(rest.take k).toArray⟩ := by rw [HEX.out, HRE.out, Nat.add_sub_cancel_left]
      have hjk : IntKind.i64.wrap ((jl : Int) + (k : Int)) = (jl : Int) + (k : Int) := IntWalk.i64_in _ (by omega)
      have z3 : (jl : Int) + (k : Int) ≤ (b.length : Int) := by omega
      have HSP := Lib.hid (split_any (rest.take k) w1 HOW.out (by rw [List.length_take]; omega))
      rw [hk]
      have hkr : k ≤ 3000 := by omega
      clear hk hrl
      go_wp2_with fail
      refine HSP.out.mono ?_
      rintro e w2 ⟨aw, rfl, hWS, hb2⟩
      have HB2 := Lib.hid (HB.out.trans (hb2.mono HB.out.size))
      have HD2 := Lib.hid (HD.out.at hb2)
      have HPL : Hid (∀ p ∈ Lib.split (rest.take k) [32], p.length ≤ 3000) := Lib.hid (fun p hp => by
        have h := piece_len [32] _ _ p hp
        rw [List.length_take] at h
        omega)
      obtain ⟨ws, hws⟩ : ∃ ws, ws = Lib.split (rest.take k) [32] := ⟨_, rfl⟩
      rw [← hws] at hWS HPL
      rw [← hws]
      have HWS := Lib.hid hWS
      have HWE := Lib.hid hws
      clear hWS hws hb2 HSP HOW HD HB hx2
      by_cases h4 : ws.length = 4
      · obtain ⟨p0, p1, p2, p3, rfl⟩ : ∃ p0 p1 p2 p3, ws = [p0, p1, p2, p3] := by
          match ws, h4 with
          | [p0, p1, p2, p3], _ => exact ⟨p0, p1, p2, p3, rfl⟩
        obtain ⟨Bw, ow, rfl, hcw⟩ := HWS.out.some (show 0 < [p0, p1, p2, p3].length by simp)
        have q1 : w2.cell? ⟨Bw, ow + 1, none⟩ = some (strV p1) := by have h := hcw 1 (by simp) 0 _ rfl; simpa using h
        have q2 : w2.cell? ⟨Bw, ow + 2, none⟩ = some (strV p2) := by have h := hcw 2 (by simp) 0 _ rfl; simpa using h
        have hp1 := HPL.out p1 (by simp)
        have hp2 := HPL.out p2 (by simp)
        have HAT := Lib.hid (number_any p2 w2 hp2)
        have HW1 : Hid ((Lib.split (rest.take k) [32])[1]? = some p1) := Lib.hid (by rw [← HWE.out]; rfl)
        have HW2 : Hid ((Lib.split (rest.take k) [32])[2]? = some p2) := Lib.hid (by rw [← HWE.out]; rfl)
        clear hcw HWS HWE HPL h4
        go_wp2_with fail
        refine HAT.out.mono ?_
        rintro e w3 ⟨nv, ok, rfl, n0, n1, hb3, hnum⟩
        have HB3 := Lib.hid (HB2.out.trans (hb3.mono HB2.out.size))
        have HD3 := Lib.hid (HD2.out.at hb3)
        have HOW3 := Lib.hid (HW.out.at HB3.out)
        replace q1 := (hb3.cell (lt_of_cell q1)).trans q1
        have HONE : Hid (∀ m, StepTo L rest m → m = (p1, nv) ∧ ok = true) := Lib.hid (fun m hm => by
          obtain ⟨_, k1, k2, _⟩ := step_data hm HK.out
          obtain ⟨_, b0, b1, _⟩ := doErr_ok hm.1
          rw [HW1.out] at k1
          rw [HW2.out] at k2
          have h9 := hnum m.2 b0 b1 (Option.some.inj k2)
          exact ⟨Prod.ext (Option.some.inj k1).symm h9.1.symm, h9.2⟩)
        clear hb3 HAT HD2 HB2 q2 hnum
        obtain ⟨B2, hB2⟩ : ∃ B2, B2 = w3.heap.size := ⟨_, rfl⟩
        obtain ⟨W, hW⟩ : ∃ W, W = w3.alloc (.cells #[strV p1, .int .i64 nv] 39) := ⟨_, rfl⟩
        have hbW : Below w3.heap.size w3 W := by rw [hW]; exact (Below.refl _ _).alloc (Nat.le_refl _) _
        have x0 : W.cell? ⟨B2, 0, none⟩ = some (strV p1) := by rw [hW, hB2]; simp
        have x1 : W.cell? ⟨B2, 1, none⟩ = some (.int .i64 nv) := by rw [hW, hB2]; simp
        have HDW := Lib.hid (HD3.out.at hbW)
        have HOWW := Lib.hid (HOW3.out.at hbW)
        have HBW := Lib.hid (HB3.out.trans (hbW.mono HB3.out.size))
        have HOUT := Lib.hid (ref_out HD3.out (B2 := B2) (by omega))
        clear hbW
        cases ok
        · have HNS : Hid (∀ m, ¬ StepTo L rest m) := Lib.hid (fun m hm => by
            have := (HONE.out m hm).2
            cases this)
          go_wp2
          rw [← hW, ← hB2]
          clear hW hB2 HONE
          skip
          · skip
            refine wp_region_held_drew (S := fun w' => w'.cell? ⟨B2, 0, none⟩ = some (strV p1) ∧ w'.cell? ⟨B2, 1, none⟩ = some (.int .i64 nv) ∧ Hid (OpW w' ∧ Below w.heap.size w w')) (by kernel_rfl) ⟨by simpa using x0, by simpa using x1, Lib.hid ⟨HOWW.out.at (below_drewN W 1 _), HBW.out.trans (below_drewN W 1 _)⟩⟩ (fun hHeld => ?_)
            have HDX := HDW
            refine take_yes (i := 0) (v := ?_) rfl (by kernel_rfl) (by kernel_rfl) (by kernel_rfl) (fun _ _ _ h => h) (by kernel_rfl) hHeld ?_ ?_
            rotate_left
            · intro w hSw; go_split_ands; go_simp; try with_reducible rfl
            try simp only [Act.put, List.setIfInBounds_toArray, List.set_cons_zero, List.set_cons_succ]
            refine take_yes (i := 1) (v := ?_) rfl (by kernel_rfl) (by kernel_rfl) (by kernel_rfl) (fun _ _ _ h => h) (by kernel_rfl) hHeld ?_ ?_
            rotate_left
            · intro w hSw; go_split_ands; go_simp; try with_reducible rfl
            try simp only [Act.put, List.setIfInBounds_toArray, List.set_cons_zero, List.set_cons_succ]
            refine take_yes (i := 2) (v := ?_) rfl (by kernel_rfl) (by kernel_rfl) (by kernel_rfl) (fun _ _ _ h => h) (by kernel_rfl) hHeld ?_ ?_
            rotate_left
            · intro w hSw; go_split_ands; go_simp; try with_reducible rfl
            try simp only [Act.put, List.setIfInBounds_toArray, List.set_cons_zero, List.set_cons_succ]
            refine take_no (i := 3) rfl (by kernel_rfl) (by kernel_rfl) (by kernel_rfl) (fun _ _ _ h => h) (by kernel_rfl) hHeld ?_
            try simp only [Act.put, List.setIfInBounds_toArray, List.set_cons_zero, List.set_cons_succ]
            refine take_no (i := 4) rfl (by kernel_rfl) (by kernel_rfl) (by kernel_rfl) (fun _ _ _ h => h) (by kernel_rfl) hHeld ?_
            try simp only [Act.put, List.setIfInBounds_toArray, List.set_cons_zero, List.set_cons_succ]
            refine take_no (i := 5) rfl (by kernel_rfl) (by kernel_rfl) (by kernel_rfl) (fun _ _ _ h => h) (by kernel_rfl) hHeld ?_
            try simp only [Act.put, List.setIfInBounds_toArray, List.set_cons_zero, List.set_cons_succ]
            refine take_no (i := 6) rfl (by kernel_rfl) (by kernel_rfl) (by kernel_rfl) (fun _ _ _ h => h) (by kernel_rfl) hHeld ?_
            try simp only [Act.put, List.setIfInBounds_toArray, List.set_cons_zero, List.set_cons_succ]
            refine take_no (i := 7) rfl (by kernel_rfl) (by kernel_rfl) (by kernel_rfl) (fun _ _ _ h => h) (by kernel_rfl) hHeld ?_
            try simp only [Act.put, List.setIfInBounds_toArray, List.set_cons_zero, List.set_cons_succ]
            refine take_no (i := 8) rfl (by kernel_rfl) (by kernel_rfl) (by kernel_rfl) (fun _ _ _ h => h) (by kernel_rfl) hHeld ?_
            try simp only [Act.put, List.setIfInBounds_toArray, List.set_cons_zero, List.set_cons_succ]
            refine take_no (i := 9) rfl (by kernel_rfl) (by kernel_rfl) (by kernel_rfl) (fun _ _ _ h => h) (by kernel_rfl) hHeld ?_
            try simp only [Act.put, List.setIfInBounds_toArray, List.set_cons_zero, List.set_cons_succ]
            refine take_no (i := 10) rfl (by kernel_rfl) (by kernel_rfl) (by kernel_rfl) (fun _ _ _ h => h) (by kernel_rfl) hHeld ?_
            try simp only [Act.put, List.setIfInBounds_toArray, List.set_cons_zero, List.set_cons_succ]
            refine take_no (i := 11) rfl (by kernel_rfl) (by kernel_rfl) (by kernel_rfl) (fun _ _ _ h => h) (by kernel_rfl) hHeld ?_
            try simp only [Act.put, List.setIfInBounds_toArray, List.set_cons_zero, List.set_cons_succ]
            refine take_no (i := 12) rfl (by kernel_rfl) (by kernel_rfl) (by kernel_rfl) (fun _ _ _ h => h) (by kernel_rfl) hHeld ?_
            try simp only [Act.put, List.setIfInBounds_toArray, List.set_cons_zero, List.set_cons_succ]
            refine take_no (i := 13) rfl (by kernel_rfl) (by kernel_rfl) (by kernel_rfl) (fun _ _ _ h => h) (by kernel_rfl) hHeld ?_
            try simp only [Act.put, List.setIfInBounds_toArray, List.set_cons_zero, List.set_cons_succ]
            refine take_no (i := 14) rfl (by kernel_rfl) (by kernel_rfl) (by kernel_rfl) (fun _ _ _ h => h) (by kernel_rfl) hHeld ?_
            try simp only [Act.put, List.setIfInBounds_toArray, List.set_cons_zero, List.set_cons_succ]
            refine take_no (i := 15) rfl (by kernel_rfl) (by kernel_rfl) (by kernel_rfl) (fun _ _ _ h => h) (by kernel_rfl) hHeld ?_
            try simp only [Act.put, List.setIfInBounds_toArray, List.set_cons_zero, List.set_cons_succ]
            refine take_no (i := 16) rfl (by kernel_rfl) (by kernel_rfl) (by kernel_rfl) (fun _ _ _ h => h) (by kernel_rfl) hHeld ?_
            try simp only [Act.put, List.setIfInBounds_toArray, List.set_cons_zero, List.set_cons_succ]
            refine take_no (i := 17) rfl (by kernel_rfl) (by kernel_rfl) (by kernel_rfl) (fun _ _ _ h => h) (by kernel_rfl) hHeld ?_
            try simp only [Act.put, List.setIfInBounds_toArray, List.set_cons_zero, List.set_cons_succ]
            refine take_yes (i := 18) (v := ?_) rfl (by kernel_rfl) (by kernel_rfl) (by kernel_rfl) (fun _ _ _ h => h) (by kernel_rfl) hHeld ?_ ?_
            rotate_left
            · intro w hSw; go_split_ands; go_simp; try with_reducible rfl
            try simp only [Act.put, List.setIfInBounds_toArray, List.set_cons_zero, List.set_cons_succ]
            refine take_yes (i := 19) (v := ?_) rfl (by kernel_rfl) (by kernel_rfl) (by kernel_rfl) (fun _ _ _ h => h) (by kernel_rfl) hHeld ?_ ?_
            rotate_left
            · intro w hSw; go_split_ands; go_simp; try with_reducible rfl
            try simp only [Act.put, List.setIfInBounds_toArray, List.set_cons_zero, List.set_cons_succ]
            refine take_no (i := 20) rfl (by kernel_rfl) (by kernel_rfl) (by kernel_rfl) (fun _ _ _ h => h) (by kernel_rfl) hHeld ?_
            try simp only [Act.put, List.setIfInBounds_toArray, List.set_cons_zero, List.set_cons_succ]
            refine take_no (i := 21) rfl (by kernel_rfl) (by kernel_rfl) (by kernel_rfl) (fun _ _ _ h => h) (by kernel_rfl) hHeld ?_
            try simp only [Act.put, List.setIfInBounds_toArray, List.set_cons_zero, List.set_cons_succ]
            refine take_no (i := 22) rfl (by kernel_rfl) (by kernel_rfl) (by kernel_rfl) (fun _ _ _ h => h) (by kernel_rfl) hHeld ?_
            try simp only [Act.put, List.setIfInBounds_toArray, List.set_cons_zero, List.set_cons_succ]
            refine take_no (i := 23) rfl (by kernel_rfl) (by kernel_rfl) (by kernel_rfl) (fun _ _ _ h => h) (by kernel_rfl) hHeld ?_
            try simp only [Act.put, List.setIfInBounds_toArray, List.set_cons_zero, List.set_cons_succ]
            refine take_yes (i := 24) (v := ?_) rfl (by kernel_rfl) (by kernel_rfl) (by kernel_rfl) (fun _ _ _ h => h) (by kernel_rfl) hHeld ?_ ?_
            rotate_left
            · intro w hSw; go_split_ands; go_simp; try with_reducible rfl
            try simp only [Act.put, List.setIfInBounds_toArray, List.set_cons_zero, List.set_cons_succ]
            have HBX := Lib.hid hHeld.2.2.out.2
            refine wpAnyH_done (by kernel_rfl) ?_ _
            clear hHeld
            have HNO := Lib.hid (HFIN.out HNS.out)
            go_wp2
            go_ret2
            exact HNO.out _ _ (HDX.out.at (below_drewN W 1 _)) HBX.out
        · go_wp2
          rw [← hW, ← hB2]
          clear hW hB2
          have hx3 : S.extract jl (jl + k + 1) = ⟨(rest.take (k + 1)).toArray⟩ := by rw [HEX.out, HRE.out]; congr 3; omega
          have hLn := HO.out.len
          have HLN : Hid (∀ w', OpW w' → Calls Tryz.prog 28 #[.int .i64 L.length, .agg #[strV p1, .int .i64 nv]] w' fun e w'' => e = .returned (strV (lineM L.length (p1, nv))) ∧ Below w'.heap.size w' w'') := Lib.hid (fun w' h => refLine_any L.length ⟨p1.toArray⟩ nv w' (by omega) (by simp [ByteArray.size]; omega) n0 n1 h.pow)
          have k1w : IntKind.i64.wrap ((k : Int) + 1) = (k : Int) + 1 := IntWalk.i64_in _ (by omega)
          have hrl := HRL.out
          have k2w : IntKind.i64.wrap ((jl : Int) + (k : Int) + 1) = (jl : Int) + (k : Int) + 1 := IntWalk.i64_in _ (by omega)
          have k3w : IntKind.i64.wrap ((jl : Int) + ((k : Int) + 1)) = (jl : Int) + ((k : Int) + 1) := IntWalk.i64_in _ (by omega)
          have z4 : (jl : Int) + (k : Int) + 1 ≤ (b.length : Int) := by omega
          have z5 : (0 : Int) ≤ (jl : Int) + (k : Int) + 1 := by omega
          have z6 : (jl : Int) ≤ (jl : Int) + (k : Int) + 1 := by omega
          have z7 : ((jl : Int) + (k : Int) + 1).toNat = jl + k + 1 := by omega
          by_cases hls : lineM L.length (p1, nv) = rest.take (k + 1)
          · have hll : (lineM L.length (p1, nv)).length = k + 1 := by rw [hls, List.length_take]; omega
            have hjn : (journalM (L ++ [(p1, nv)])).length = jl + (k + 1) := by rw [journal_snoc, List.length_append, hll, HJ.out]
            have HJN := Lib.hid hjn
            clear hll hjn
            rw [hls] at HLN
            by_cases hE : doErr L (p1, nv) = 0
            · skip
              · have hst : StepTo L rest (p1, nv) := step_no hls hE
                have hnx : nextM b L = some (p1, nv) := next_some (by rw [← HJ.out, ← HRE.out]; exact hst) (by rw [← HJ.out, ← HRE.out]; exact fun m hm => (HONE.out m hm).1)
                have hnn := HO.out.next hnx
                have hdn := hnn.2.2
                have HON := Lib.hid hnn.1
                have HDO : Hid (∀ w', OpW w' → Below w.heap.size w w' → RefDep (w.heap.size + 1) w.heap.size (.slice ja L.length jc) L w' → Calls Tryz.prog 6 #[.pointer (some ⟨w.heap.size, 0, none⟩), .agg #[strV p1, .int .i64 nv]] w' fun e w'' => e = .returned (.int .i64 0) ∧ (∃ v2, RefDep (w.heap.size + 1) w.heap.size v2 (L ++ [(p1, nv)]) w'') ∧ Below w.heap.size w' w'' ∧ ∀ j v, w'.cell? ⟨B2, j, none⟩ = some v → w''.cell? ⟨B2, j, none⟩ = some v) := Lib.hid (fun w' h1 h2 h3 => by
                  refine (refDo_any (w.heap.size + 1) w.heap.size L (p1, nv) _ w' hLn h3 (by have := lt_of_cell h3.cell; simp only at this; omega) (by omega) (by simp only; omega)).mono ?_
                  rintro e w'' ⟨he, v2, hd2, hf, _⟩
                  rw [hE] at he
                  rw [hdn] at hd2
                  exact ⟨he, ⟨v2, hd2⟩, ref_low (Nat.le_refl _) (by omega) h2.size h3 hf, fun j v h => cell_frs h hf HOUT.out⟩)
                clear hst hnx hnn hdn hE hls HONE
                have hseg : ((rest.take (k + 1)) != (rest.take (k + 1))) = false := by simp
                generalize rest.take (k + 1) = seg at *
                refine wp_region_held_drew (S := fun w' => w'.cell? ⟨B2, 0, none⟩ = some (strV p1) ∧ w'.cell? ⟨B2, 1, none⟩ = some (.int .i64 nv) ∧ Hid (OpW w' ∧ Below w.heap.size w w')) (by kernel_rfl) ⟨by simpa using x0, by simpa using x1, Lib.hid ⟨HOWW.out.at (below_drewN W 1 _), HBW.out.trans (below_drewN W 1 _)⟩⟩ (fun hHeld => ?_)
                have HDX := HDW
                refine take_yes (i := 0) (v := ?_) rfl (by kernel_rfl) (by kernel_rfl) (by kernel_rfl) (fun _ _ _ h => h) (by kernel_rfl) hHeld ?_ ?_
                rotate_left
                · intro w hSw; go_split_ands; go_simp; try with_reducible rfl
                try simp only [Act.put, List.setIfInBounds_toArray, List.set_cons_zero, List.set_cons_succ]
                refine take_yes (i := 1) (v := ?_) rfl (by kernel_rfl) (by kernel_rfl) (by kernel_rfl) (fun _ _ _ h => h) (by kernel_rfl) hHeld ?_ ?_
                rotate_left
                · intro w hSw; go_split_ands; go_simp; try with_reducible rfl
                try simp only [Act.put, List.setIfInBounds_toArray, List.set_cons_zero, List.set_cons_succ]
                refine take_yes (i := 2) (v := ?_) rfl (by kernel_rfl) (by kernel_rfl) (by kernel_rfl) (fun _ _ _ h => h) (by kernel_rfl) hHeld ?_ ?_
                rotate_left
                · intro w hSw; go_split_ands; go_simp; try with_reducible rfl
                try simp only [Act.put, List.setIfInBounds_toArray, List.set_cons_zero, List.set_cons_succ]
                refine take_yes (i := 3) (v := ?_) rfl (by kernel_rfl) (by kernel_rfl) (by kernel_rfl) (fun _ _ _ h => h) (by kernel_rfl) hHeld ?_ ?_
                rotate_left
                · intro w hSw; go_split_ands; go_simp; try with_reducible rfl
                try simp only [Act.put, List.setIfInBounds_toArray, List.set_cons_zero, List.set_cons_succ]
                refine take_yes (i := 4) (v := ?_) rfl (by kernel_rfl) (by kernel_rfl) (by kernel_rfl) (fun _ _ _ h => h) (by kernel_rfl) hHeld ?_ ?_
                rotate_left
                · intro w hSw; go_split_ands; go_simp; try with_reducible rfl
                try simp only [Act.put, List.setIfInBounds_toArray, List.set_cons_zero, List.set_cons_succ]
                refine take_yes (i := 5) (v := ?_) rfl (by kernel_rfl) (by kernel_rfl) (by kernel_rfl) (fun _ _ _ h => h) (by kernel_rfl) hHeld ?_ ?_
                rotate_left
                · intro w hSw; go_split_ands; go_simp; try with_reducible rfl
                try simp only [Act.put, List.setIfInBounds_toArray, List.set_cons_zero, List.set_cons_succ]
                refine take_yes (i := 6) (v := ?_) rfl (by kernel_rfl) (by kernel_rfl) (by kernel_rfl) (fun _ _ _ h => h) (by kernel_rfl) hHeld ?_ ?_
                rotate_left
                · intro w hSw; go_split_ands; go_simp; try with_reducible rfl
                try simp only [Act.put, List.setIfInBounds_toArray, List.set_cons_zero, List.set_cons_succ]
                refine take_yes (i := 7) (v := ?_) rfl (by kernel_rfl) (by kernel_rfl) (by kernel_rfl) (fun _ _ _ h => h) (by kernel_rfl) hHeld ?_ ?_
                rotate_left
                · intro w hSw; go_split_ands; go_simp; try with_reducible rfl
                try simp only [Act.put, List.setIfInBounds_toArray, List.set_cons_zero, List.set_cons_succ]
                refine take_yes (i := 8) (v := ?_) rfl (by kernel_rfl) (by kernel_rfl) (by kernel_rfl) (fun _ _ _ h => h) (by kernel_rfl) hHeld ?_ ?_
                rotate_left
                · intro w hSw; go_split_ands; go_simp; try with_reducible rfl
                try simp only [Act.put, List.setIfInBounds_toArray, List.set_cons_zero, List.set_cons_succ]
                refine take_yes (i := 9) (v := ?_) rfl (by kernel_rfl) (by kernel_rfl) (by kernel_rfl) (fun _ _ _ h => h) (by kernel_rfl) hHeld ?_ ?_
                rotate_left
                · intro w hSw; go_split_ands; go_simp; try with_reducible rfl
                try simp only [Act.put, List.setIfInBounds_toArray, List.set_cons_zero, List.set_cons_succ]
                refine take_yes (i := 10) (v := ?_) rfl (by kernel_rfl) (by kernel_rfl) (by kernel_rfl) (fun _ _ _ h => h) (by kernel_rfl) hHeld ?_ ?_
                rotate_left
                · intro w hSw; go_split_ands; go_simp; try with_reducible rfl
                try simp only [Act.put, List.setIfInBounds_toArray, List.set_cons_zero, List.set_cons_succ]
                refine take_yes (i := 11) (v := ?_) rfl (by kernel_rfl) (by kernel_rfl) (by kernel_rfl) (fun _ _ _ h => h) (by kernel_rfl) hHeld ?_ ?_
                rotate_left
                · intro w hSw; go_split_ands; go_simp; try with_reducible rfl
                try simp only [Act.put, List.setIfInBounds_toArray, List.set_cons_zero, List.set_cons_succ]
                refine take_yes (i := 12) (v := ?_) rfl (by kernel_rfl) (by kernel_rfl) (by kernel_rfl) (fun _ _ _ h => h) (by kernel_rfl) hHeld ?_ ?_
                rotate_left
                · intro w hSw; go_split_ands; go_simp; try with_reducible rfl
                try simp only [Act.put, List.setIfInBounds_toArray, List.set_cons_zero, List.set_cons_succ]
                refine take_yes (i := 15) (v := ?_) rfl (by kernel_rfl) (by kernel_rfl) (by kernel_rfl) (fun _ _ _ h => h) (by kernel_rfl) hHeld ?_ ?_
                rotate_left
                · intro w hSw; go_split_ands; go_simp; try with_reducible rfl
                try simp only [Act.put, List.setIfInBounds_toArray, List.set_cons_zero, List.set_cons_succ]
                have c2 := HDX.out.cell
                refine take_loud (i := 13) rfl (by kernel_rfl) (fun K hK => ?_)
                go_simp
                refine hK.out _ _ hHeld (fun hHeld2 => ?_)
                replace hHeld := hHeld2
                clear hK K hHeld2 c2
                try simp only [Act.put, List.setIfInBounds_toArray, List.set_cons_zero, List.set_cons_succ]
                refine take_yes (i := 14) (v := ?_) rfl (by kernel_rfl) (by kernel_rfl) (by kernel_rfl) (fun _ _ _ h => h) (by kernel_rfl) hHeld ?_ ?_
                rotate_left
                · intro w hSw; go_split_ands; go_simp; try with_reducible rfl
                try simp only [Act.put, List.setIfInBounds_toArray, List.set_cons_zero, List.set_cons_succ]
                refine take_loud (i := 16) rfl (by kernel_rfl) (fun K hK => ?_)
                go_simp
                go_wp2_with (go_at_call 28; refine (HLN.out _ hHeld.2.2.out.1).mono ?_; rintro e wN ⟨rfl, hbN⟩)
                replace HDX := Lib.hid (HDX.out.at ((below_drewN W 1 _).trans hbN))
                refine hK.out _ _ ⟨(hbN.cell (lt_of_cell hHeld.1)).trans hHeld.1, (hbN.cell (lt_of_cell hHeld.2.1)).trans hHeld.2.1, Lib.hid ⟨hHeld.2.2.out.1.at hbN, hHeld.2.2.out.2.trans (hbN.mono hHeld.2.2.out.2.size)⟩⟩ (fun hHeld2 => ?_)
                replace hHeld := hHeld2
                clear hK K hHeld2 hbN
                try simp only [Act.put, List.setIfInBounds_toArray, List.set_cons_zero, List.set_cons_succ]
                refine take_yes (i := 17) (v := ?_) rfl (by kernel_rfl) (by kernel_rfl) (by kernel_rfl) (fun _ _ _ h => h) (by kernel_rfl) hHeld ?_ ?_
                rotate_left
                · intro w hSw; go_split_ands; go_simp; try with_reducible rfl
                try simp only [Act.put, List.setIfInBounds_toArray, List.set_cons_zero, List.set_cons_succ]
                refine take_yes (i := 18) (v := ?_) rfl (by kernel_rfl) (by kernel_rfl) (by kernel_rfl) (fun _ _ _ h => h) (by kernel_rfl) hHeld ?_ ?_
                rotate_left
                · intro w hSw; go_split_ands; go_simp; try with_reducible rfl
                try simp only [Act.put, List.setIfInBounds_toArray, List.set_cons_zero, List.set_cons_succ]
                refine take_yes (i := 19) (v := ?_) rfl (by kernel_rfl) (by kernel_rfl) (by kernel_rfl) (fun _ _ _ h => h) (by kernel_rfl) hHeld ?_ ?_
                rotate_left
                · intro w hSw; go_split_ands; go_simp; try with_reducible rfl
                try simp only [Act.put, List.setIfInBounds_toArray, List.set_cons_zero, List.set_cons_succ]
                refine take_yes (i := 20) (v := ?_) rfl (by kernel_rfl) (by kernel_rfl) (by kernel_rfl) (fun _ _ _ h => h) (by kernel_rfl) hHeld ?_ ?_
                rotate_left
                · intro w hSw; go_split_ands; go_simp; try with_reducible rfl
                try simp only [Act.put, List.setIfInBounds_toArray, List.set_cons_zero, List.set_cons_succ]
                refine take_yes (i := 21) (v := ?_) rfl (by kernel_rfl) (by kernel_rfl) (by kernel_rfl) (fun _ _ _ h => h) (by kernel_rfl) hHeld ?_ ?_
                rotate_left
                · intro w hSw; go_split_ands; go_simp; try with_reducible rfl
                try simp only [Act.put, List.setIfInBounds_toArray, List.set_cons_zero, List.set_cons_succ]
                refine take_loud (i := 22) rfl (by kernel_rfl) (fun K hK => ?_)
                go_simp
                go_wp2_with (go_at_call 6; refine (HDO.out _ hHeld.2.2.out.1 hHeld.2.2.out.2 HDX.out).mono ?_; rintro e wN ⟨rfl, ⟨v2, hD2⟩, hbN, hcN⟩)
                have HDN := Lib.hid hD2
                refine hK.out _ _ ⟨hcN _ _ hHeld.1, hcN _ _ hHeld.2.1, Lib.hid ⟨HW.out.at (hHeld.2.2.out.2.trans hbN), hHeld.2.2.out.2.trans hbN⟩⟩ (fun hHeld2 => ?_)
                replace hHeld := hHeld2
                clear hK K hHeld2 hbN hcN hD2 HDX
                try simp only [Act.put, List.setIfInBounds_toArray, List.set_cons_zero, List.set_cons_succ]
                refine take_yes (i := 23) (v := ?_) rfl (by kernel_rfl) (by kernel_rfl) (by kernel_rfl) (fun _ _ _ h => h) (by kernel_rfl) hHeld ?_ ?_
                rotate_left
                · intro w hSw; go_split_ands; go_simp; try with_reducible rfl
                try simp only [Act.put, List.setIfInBounds_toArray, List.set_cons_zero, List.set_cons_succ]
                refine take_yes (i := 24) (v := ?_) rfl (by kernel_rfl) (by kernel_rfl) (by kernel_rfl) (fun _ _ _ h => h) (by kernel_rfl) hHeld ?_ ?_
                rotate_left
                · intro w hSw; go_split_ands; go_simp; try with_reducible rfl
                try simp only [Act.put, List.setIfInBounds_toArray, List.set_cons_zero, List.set_cons_succ]
                have HBX := Lib.hid hHeld.2.2.out.2
                refine wpAnyH_done (by kernel_rfl) ?_ _
                clear hHeld
                go_wp2
                exact ⟨⟨L ++ [(p1, nv)], v2, congrArg (Value.int .i64) (by rw [HJN.out]; omega), HON, HDN, HBX⟩, by simp [intOf]; omega⟩
            · skip
              · have HNS : Hid (∀ m, ¬ StepTo L rest m) := Lib.hid (fun m hm => by
                  have e := (HONE.out m hm).1
                  subst e
                  exact hE hm.1)
                have hdn : doneM L (p1, nv) = L := by unfold doneM; rw [if_neg hE]
                obtain ⟨E, hEE⟩ : ∃ E, E = doErr L (p1, nv) := ⟨_, rfl⟩
                have HDO : Hid (∀ w', OpW w' → Below w.heap.size w w' → RefDep (w.heap.size + 1) w.heap.size (.slice ja L.length jc) L w' → Calls Tryz.prog 6 #[.pointer (some ⟨w.heap.size, 0, none⟩), .agg #[strV p1, .int .i64 nv]] w' fun e w'' => e = .returned (.int .i64 E) ∧ (∃ v2, RefDep (w.heap.size + 1) w.heap.size v2 L w'') ∧ Below w.heap.size w' w'' ∧ ∀ j v, w'.cell? ⟨B2, j, none⟩ = some v → w''.cell? ⟨B2, j, none⟩ = some v) := Lib.hid (fun w' h1 h2 h3 => by
                  refine (refDo_any (w.heap.size + 1) w.heap.size L (p1, nv) _ w' hLn h3 (by have := lt_of_cell h3.cell; simp only at this; omega) (by omega) (by simp only; omega)).mono ?_
                  rintro e w'' ⟨he, v2, hd2, hf, _⟩
                  rw [← hEE] at he
                  rw [hdn] at hd2
                  exact ⟨he, ⟨v2, hd2⟩, ref_low (Nat.le_refl _) (by omega) h2.size h3 hf, fun j v h => cell_frs h hf HOUT.out⟩)
                have hE0 : (E != 0) = true := by rw [hEE]; simpa using hE
                clear hdn hE hEE hls HONE HJN
                have hseg : ((rest.take (k + 1)) != (rest.take (k + 1))) = false := by simp
                obtain ⟨seg, hsg⟩ : ∃ seg, seg = rest.take (k + 1) := ⟨_, rfl⟩
                rw [← hsg] at HLN hx3 hseg
                clear hsg
                refine wp_region_held_drew (S := fun w' => w'.cell? ⟨B2, 0, none⟩ = some (strV p1) ∧ w'.cell? ⟨B2, 1, none⟩ = some (.int .i64 nv) ∧ Hid (OpW w' ∧ Below w.heap.size w w')) (by kernel_rfl) ⟨by simpa using x0, by simpa using x1, Lib.hid ⟨HOWW.out.at (below_drewN W 1 _), HBW.out.trans (below_drewN W 1 _)⟩⟩ (fun hHeld => ?_)
                have HDX := HDW
                refine take_yes (i := 0) (v := ?_) rfl (by kernel_rfl) (by kernel_rfl) (by kernel_rfl) (fun _ _ _ h => h) (by kernel_rfl) hHeld ?_ ?_
                rotate_left
                · intro w hSw; go_split_ands; go_simp; try with_reducible rfl
                try simp only [Act.put, List.setIfInBounds_toArray, List.set_cons_zero, List.set_cons_succ]
                refine take_yes (i := 1) (v := ?_) rfl (by kernel_rfl) (by kernel_rfl) (by kernel_rfl) (fun _ _ _ h => h) (by kernel_rfl) hHeld ?_ ?_
                rotate_left
                · intro w hSw; go_split_ands; go_simp; try with_reducible rfl
                try simp only [Act.put, List.setIfInBounds_toArray, List.set_cons_zero, List.set_cons_succ]
                refine take_yes (i := 2) (v := ?_) rfl (by kernel_rfl) (by kernel_rfl) (by kernel_rfl) (fun _ _ _ h => h) (by kernel_rfl) hHeld ?_ ?_
                rotate_left
                · intro w hSw; go_split_ands; go_simp; try with_reducible rfl
                try simp only [Act.put, List.setIfInBounds_toArray, List.set_cons_zero, List.set_cons_succ]
                refine take_yes (i := 3) (v := ?_) rfl (by kernel_rfl) (by kernel_rfl) (by kernel_rfl) (fun _ _ _ h => h) (by kernel_rfl) hHeld ?_ ?_
                rotate_left
                · intro w hSw; go_split_ands; go_simp; try with_reducible rfl
                try simp only [Act.put, List.setIfInBounds_toArray, List.set_cons_zero, List.set_cons_succ]
                refine take_yes (i := 4) (v := ?_) rfl (by kernel_rfl) (by kernel_rfl) (by kernel_rfl) (fun _ _ _ h => h) (by kernel_rfl) hHeld ?_ ?_
                rotate_left
                · intro w hSw; go_split_ands; go_simp; try with_reducible rfl
                try simp only [Act.put, List.setIfInBounds_toArray, List.set_cons_zero, List.set_cons_succ]
                refine take_yes (i := 5) (v := ?_) rfl (by kernel_rfl) (by kernel_rfl) (by kernel_rfl) (fun _ _ _ h => h) (by kernel_rfl) hHeld ?_ ?_
                rotate_left
                · intro w hSw; go_split_ands; go_simp; try with_reducible rfl
                try simp only [Act.put, List.setIfInBounds_toArray, List.set_cons_zero, List.set_cons_succ]
                refine take_yes (i := 6) (v := ?_) rfl (by kernel_rfl) (by kernel_rfl) (by kernel_rfl) (fun _ _ _ h => h) (by kernel_rfl) hHeld ?_ ?_
                rotate_left
                · intro w hSw; go_split_ands; go_simp; try with_reducible rfl
                try simp only [Act.put, List.setIfInBounds_toArray, List.set_cons_zero, List.set_cons_succ]
                refine take_yes (i := 7) (v := ?_) rfl (by kernel_rfl) (by kernel_rfl) (by kernel_rfl) (fun _ _ _ h => h) (by kernel_rfl) hHeld ?_ ?_
                rotate_left
                · intro w hSw; go_split_ands; go_simp; try with_reducible rfl
                try simp only [Act.put, List.setIfInBounds_toArray, List.set_cons_zero, List.set_cons_succ]
                refine take_yes (i := 8) (v := ?_) rfl (by kernel_rfl) (by kernel_rfl) (by kernel_rfl) (fun _ _ _ h => h) (by kernel_rfl) hHeld ?_ ?_
                rotate_left
                · intro w hSw; go_split_ands; go_simp; try with_reducible rfl
                try simp only [Act.put, List.setIfInBounds_toArray, List.set_cons_zero, List.set_cons_succ]
                refine take_yes (i := 9) (v := ?_) rfl (by kernel_rfl) (by kernel_rfl) (by kernel_rfl) (fun _ _ _ h => h) (by kernel_rfl) hHeld ?_ ?_
                rotate_left
                · intro w hSw; go_split_ands; go_simp; try with_reducible rfl
                try simp only [Act.put, List.setIfInBounds_toArray, List.set_cons_zero, List.set_cons_succ]
                refine take_yes (i := 10) (v := ?_) rfl (by kernel_rfl) (by kernel_rfl) (by kernel_rfl) (fun _ _ _ h => h) (by kernel_rfl) hHeld ?_ ?_
                rotate_left
                · intro w hSw; go_split_ands; go_simp; try with_reducible rfl
                try simp only [Act.put, List.setIfInBounds_toArray, List.set_cons_zero, List.set_cons_succ]
                refine take_yes (i := 11) (v := ?_) rfl (by kernel_rfl) (by kernel_rfl) (by kernel_rfl) (fun _ _ _ h => h) (by kernel_rfl) hHeld ?_ ?_
                rotate_left
                · intro w hSw; go_split_ands; go_simp; try with_reducible rfl
                try simp only [Act.put, List.setIfInBounds_toArray, List.set_cons_zero, List.set_cons_succ]
                refine take_yes (i := 12) (v := ?_) rfl (by kernel_rfl) (by kernel_rfl) (by kernel_rfl) (fun _ _ _ h => h) (by kernel_rfl) hHeld ?_ ?_
                rotate_left
                · intro w hSw; go_split_ands; go_simp; try with_reducible rfl
                try simp only [Act.put, List.setIfInBounds_toArray, List.set_cons_zero, List.set_cons_succ]
                refine take_yes (i := 15) (v := ?_) rfl (by kernel_rfl) (by kernel_rfl) (by kernel_rfl) (fun _ _ _ h => h) (by kernel_rfl) hHeld ?_ ?_
                rotate_left
                · intro w hSw; go_split_ands; go_simp; try with_reducible rfl
                try simp only [Act.put, List.setIfInBounds_toArray, List.set_cons_zero, List.set_cons_succ]
                have c2 := HDX.out.cell
                refine take_loud (i := 13) rfl (by kernel_rfl) (fun K hK => ?_)
                go_simp
                refine hK.out _ _ hHeld (fun hHeld2 => ?_)
                replace hHeld := hHeld2
                clear hK K hHeld2 c2
                try simp only [Act.put, List.setIfInBounds_toArray, List.set_cons_zero, List.set_cons_succ]
                refine take_yes (i := 14) (v := ?_) rfl (by kernel_rfl) (by kernel_rfl) (by kernel_rfl) (fun _ _ _ h => h) (by kernel_rfl) hHeld ?_ ?_
                rotate_left
                · intro w hSw; go_split_ands; go_simp; try with_reducible rfl
                try simp only [Act.put, List.setIfInBounds_toArray, List.set_cons_zero, List.set_cons_succ]
                refine take_loud (i := 16) rfl (by kernel_rfl) (fun K hK => ?_)
                go_simp
                go_wp2_with (go_at_call 28; refine (HLN.out _ hHeld.2.2.out.1).mono ?_; rintro e wN ⟨rfl, hbN⟩)
                replace HDX := Lib.hid (HDX.out.at ((below_drewN W 1 _).trans hbN))
                refine hK.out _ _ ⟨(hbN.cell (lt_of_cell hHeld.1)).trans hHeld.1, (hbN.cell (lt_of_cell hHeld.2.1)).trans hHeld.2.1, Lib.hid ⟨hHeld.2.2.out.1.at hbN, hHeld.2.2.out.2.trans (hbN.mono hHeld.2.2.out.2.size)⟩⟩ (fun hHeld2 => ?_)
                replace hHeld := hHeld2
                clear hK K hHeld2 hbN
                try simp only [Act.put, List.setIfInBounds_toArray, List.set_cons_zero, List.set_cons_succ]
                refine take_yes (i := 17) (v := ?_) rfl (by kernel_rfl) (by kernel_rfl) (by kernel_rfl) (fun _ _ _ h => h) (by kernel_rfl) hHeld ?_ ?_
                rotate_left
                · intro w hSw; go_split_ands; go_simp; try with_reducible rfl
                try simp only [Act.put, List.setIfInBounds_toArray, List.set_cons_zero, List.set_cons_succ]
                refine take_yes (i := 18) (v := ?_) rfl (by kernel_rfl) (by kernel_rfl) (by kernel_rfl) (fun _ _ _ h => h) (by kernel_rfl) hHeld ?_ ?_
                rotate_left
                · intro w hSw; go_split_ands; go_simp; try with_reducible rfl
                try simp only [Act.put, List.setIfInBounds_toArray, List.set_cons_zero, List.set_cons_succ]
                refine take_yes (i := 19) (v := ?_) rfl (by kernel_rfl) (by kernel_rfl) (by kernel_rfl) (fun _ _ _ h => h) (by kernel_rfl) hHeld ?_ ?_
                rotate_left
                · intro w hSw; go_split_ands; go_simp; try with_reducible rfl
                try simp only [Act.put, List.setIfInBounds_toArray, List.set_cons_zero, List.set_cons_succ]
                refine take_yes (i := 20) (v := ?_) rfl (by kernel_rfl) (by kernel_rfl) (by kernel_rfl) (fun _ _ _ h => h) (by kernel_rfl) hHeld ?_ ?_
                rotate_left
                · intro w hSw; go_split_ands; go_simp; try with_reducible rfl
                try simp only [Act.put, List.setIfInBounds_toArray, List.set_cons_zero, List.set_cons_succ]
                refine take_yes (i := 21) (v := ?_) rfl (by kernel_rfl) (by kernel_rfl) (by kernel_rfl) (fun _ _ _ h => h) (by kernel_rfl) hHeld ?_ ?_
                rotate_left
                · intro w hSw; go_split_ands; go_simp; try with_reducible rfl
                try simp only [Act.put, List.setIfInBounds_toArray, List.set_cons_zero, List.set_cons_succ]
                refine take_loud (i := 22) rfl (by kernel_rfl) (fun K hK => ?_)
                go_simp
                go_wp2_with (go_at_call 6; refine (HDO.out _ hHeld.2.2.out.1 hHeld.2.2.out.2 HDX.out).mono ?_; rintro e wN ⟨rfl, ⟨v2, hD2⟩, hbN, hcN⟩)
                have HDN := Lib.hid hD2
                refine hK.out _ _ ⟨hcN _ _ hHeld.1, hcN _ _ hHeld.2.1, Lib.hid ⟨HW.out.at (hHeld.2.2.out.2.trans hbN), hHeld.2.2.out.2.trans hbN⟩⟩ (fun hHeld2 => ?_)
                replace hHeld := hHeld2
                clear hK K hHeld2 hbN hcN hD2 HDX
                try simp only [Act.put, List.setIfInBounds_toArray, List.set_cons_zero, List.set_cons_succ]
                refine take_yes (i := 23) (v := ?_) rfl (by kernel_rfl) (by kernel_rfl) (by kernel_rfl) (fun _ _ _ h => h) (by kernel_rfl) hHeld ?_ ?_
                rotate_left
                · intro w hSw; go_split_ands; go_simp; try with_reducible rfl
                try simp only [Act.put, List.setIfInBounds_toArray, List.set_cons_zero, List.set_cons_succ]
                refine take_yes (i := 24) (v := ?_) rfl (by kernel_rfl) (by kernel_rfl) (by kernel_rfl) (fun _ _ _ h => h) (by kernel_rfl) hHeld ?_ ?_
                rotate_left
                · intro w hSw; go_split_ands; go_simp; try with_reducible rfl
                try simp only [Act.put, List.setIfInBounds_toArray, List.set_cons_zero, List.set_cons_succ]
                have HDX := HDN
                have HBX := Lib.hid hHeld.2.2.out.2
                refine wpAnyH_done (by kernel_rfl) ?_ _
                clear hHeld
                have HNO := Lib.hid (HFIN.out HNS.out)
                go_wp2
                go_ret2
                exact HNO.out _ _ (HDX.out) HBX.out
          · skip
            · have HNS : Hid (∀ m, ¬ StepTo L rest m) := Lib.hid (fun m hm => by
                have e := (HONE.out m hm).1
                subst e
                exact hls (step_data hm HK.out).2.2.2)
              have hseg : (lineM L.length (p1, nv) == rest.take (k + 1)) = false := beq_eq_false_iff_ne.2 hls
              have hseg2 : (rest.take (k + 1) == lineM L.length (p1, nv)) = false := beq_eq_false_iff_ne.2 (fun h => hls h.symm)
              obtain ⟨seg, hsg⟩ : ∃ seg, seg = rest.take (k + 1) := ⟨_, rfl⟩
              rw [← hsg] at hx3 hseg hseg2
              clear hls hsg HONE
              generalize lineM L.length (p1, nv) = ln at *
              refine wp_region_held_drew (S := fun w' => w'.cell? ⟨B2, 0, none⟩ = some (strV p1) ∧ w'.cell? ⟨B2, 1, none⟩ = some (.int .i64 nv) ∧ Hid (OpW w' ∧ Below w.heap.size w w')) (by kernel_rfl) ⟨by simpa using x0, by simpa using x1, Lib.hid ⟨HOWW.out.at (below_drewN W 1 _), HBW.out.trans (below_drewN W 1 _)⟩⟩ (fun hHeld => ?_)
              have HDX := HDW
              refine take_yes (i := 0) (v := ?_) rfl (by kernel_rfl) (by kernel_rfl) (by kernel_rfl) (fun _ _ _ h => h) (by kernel_rfl) hHeld ?_ ?_
              rotate_left
              · intro w hSw; go_split_ands; go_simp; try with_reducible rfl
              try simp only [Act.put, List.setIfInBounds_toArray, List.set_cons_zero, List.set_cons_succ]
              refine take_yes (i := 1) (v := ?_) rfl (by kernel_rfl) (by kernel_rfl) (by kernel_rfl) (fun _ _ _ h => h) (by kernel_rfl) hHeld ?_ ?_
              rotate_left
              · intro w hSw; go_split_ands; go_simp; try with_reducible rfl
              try simp only [Act.put, List.setIfInBounds_toArray, List.set_cons_zero, List.set_cons_succ]
              refine take_yes (i := 2) (v := ?_) rfl (by kernel_rfl) (by kernel_rfl) (by kernel_rfl) (fun _ _ _ h => h) (by kernel_rfl) hHeld ?_ ?_
              rotate_left
              · intro w hSw; go_split_ands; go_simp; try with_reducible rfl
              try simp only [Act.put, List.setIfInBounds_toArray, List.set_cons_zero, List.set_cons_succ]
              refine take_yes (i := 3) (v := ?_) rfl (by kernel_rfl) (by kernel_rfl) (by kernel_rfl) (fun _ _ _ h => h) (by kernel_rfl) hHeld ?_ ?_
              rotate_left
              · intro w hSw; go_split_ands; go_simp; try with_reducible rfl
              try simp only [Act.put, List.setIfInBounds_toArray, List.set_cons_zero, List.set_cons_succ]
              refine take_yes (i := 4) (v := ?_) rfl (by kernel_rfl) (by kernel_rfl) (by kernel_rfl) (fun _ _ _ h => h) (by kernel_rfl) hHeld ?_ ?_
              rotate_left
              · intro w hSw; go_split_ands; go_simp; try with_reducible rfl
              try simp only [Act.put, List.setIfInBounds_toArray, List.set_cons_zero, List.set_cons_succ]
              refine take_yes (i := 5) (v := ?_) rfl (by kernel_rfl) (by kernel_rfl) (by kernel_rfl) (fun _ _ _ h => h) (by kernel_rfl) hHeld ?_ ?_
              rotate_left
              · intro w hSw; go_split_ands; go_simp; try with_reducible rfl
              try simp only [Act.put, List.setIfInBounds_toArray, List.set_cons_zero, List.set_cons_succ]
              refine take_yes (i := 6) (v := ?_) rfl (by kernel_rfl) (by kernel_rfl) (by kernel_rfl) (fun _ _ _ h => h) (by kernel_rfl) hHeld ?_ ?_
              rotate_left
              · intro w hSw; go_split_ands; go_simp; try with_reducible rfl
              try simp only [Act.put, List.setIfInBounds_toArray, List.set_cons_zero, List.set_cons_succ]
              refine take_yes (i := 7) (v := ?_) rfl (by kernel_rfl) (by kernel_rfl) (by kernel_rfl) (fun _ _ _ h => h) (by kernel_rfl) hHeld ?_ ?_
              rotate_left
              · intro w hSw; go_split_ands; go_simp; try with_reducible rfl
              try simp only [Act.put, List.setIfInBounds_toArray, List.set_cons_zero, List.set_cons_succ]
              refine take_yes (i := 8) (v := ?_) rfl (by kernel_rfl) (by kernel_rfl) (by kernel_rfl) (fun _ _ _ h => h) (by kernel_rfl) hHeld ?_ ?_
              rotate_left
              · intro w hSw; go_split_ands; go_simp; try with_reducible rfl
              try simp only [Act.put, List.setIfInBounds_toArray, List.set_cons_zero, List.set_cons_succ]
              refine take_yes (i := 9) (v := ?_) rfl (by kernel_rfl) (by kernel_rfl) (by kernel_rfl) (fun _ _ _ h => h) (by kernel_rfl) hHeld ?_ ?_
              rotate_left
              · intro w hSw; go_split_ands; go_simp; try with_reducible rfl
              try simp only [Act.put, List.setIfInBounds_toArray, List.set_cons_zero, List.set_cons_succ]
              refine take_yes (i := 10) (v := ?_) rfl (by kernel_rfl) (by kernel_rfl) (by kernel_rfl) (fun _ _ _ h => h) (by kernel_rfl) hHeld ?_ ?_
              rotate_left
              · intro w hSw; go_split_ands; go_simp; try with_reducible rfl
              try simp only [Act.put, List.setIfInBounds_toArray, List.set_cons_zero, List.set_cons_succ]
              refine take_yes (i := 11) (v := ?_) rfl (by kernel_rfl) (by kernel_rfl) (by kernel_rfl) (fun _ _ _ h => h) (by kernel_rfl) hHeld ?_ ?_
              rotate_left
              · intro w hSw; go_split_ands; go_simp; try with_reducible rfl
              try simp only [Act.put, List.setIfInBounds_toArray, List.set_cons_zero, List.set_cons_succ]
              refine take_yes (i := 12) (v := ?_) rfl (by kernel_rfl) (by kernel_rfl) (by kernel_rfl) (fun _ _ _ h => h) (by kernel_rfl) hHeld ?_ ?_
              rotate_left
              · intro w hSw; go_split_ands; go_simp; try with_reducible rfl
              try simp only [Act.put, List.setIfInBounds_toArray, List.set_cons_zero, List.set_cons_succ]
              refine take_yes (i := 15) (v := ?_) rfl (by kernel_rfl) (by kernel_rfl) (by kernel_rfl) (fun _ _ _ h => h) (by kernel_rfl) hHeld ?_ ?_
              rotate_left
              · intro w hSw; go_split_ands; go_simp; try with_reducible rfl
              try simp only [Act.put, List.setIfInBounds_toArray, List.set_cons_zero, List.set_cons_succ]
              have c2 := HDX.out.cell
              refine take_loud (i := 13) rfl (by kernel_rfl) (fun K hK => ?_)
              go_simp
              refine hK.out _ _ hHeld (fun hHeld2 => ?_)
              replace hHeld := hHeld2
              clear hK K hHeld2 c2
              try simp only [Act.put, List.setIfInBounds_toArray, List.set_cons_zero, List.set_cons_succ]
              refine take_yes (i := 14) (v := ?_) rfl (by kernel_rfl) (by kernel_rfl) (by kernel_rfl) (fun _ _ _ h => h) (by kernel_rfl) hHeld ?_ ?_
              rotate_left
              · intro w hSw; go_split_ands; go_simp; try with_reducible rfl
              try simp only [Act.put, List.setIfInBounds_toArray, List.set_cons_zero, List.set_cons_succ]
              refine take_loud (i := 16) rfl (by kernel_rfl) (fun K hK => ?_)
              go_simp
              go_wp2_with (go_at_call 28; refine (HLN.out _ hHeld.2.2.out.1).mono ?_; rintro e wN ⟨rfl, hbN⟩)
              replace HDX := Lib.hid (HDX.out.at ((below_drewN W 1 _).trans hbN))
              refine hK.out _ _ ⟨(hbN.cell (lt_of_cell hHeld.1)).trans hHeld.1, (hbN.cell (lt_of_cell hHeld.2.1)).trans hHeld.2.1, Lib.hid ⟨hHeld.2.2.out.1.at hbN, hHeld.2.2.out.2.trans (hbN.mono hHeld.2.2.out.2.size)⟩⟩ (fun hHeld2 => ?_)
              replace hHeld := hHeld2
              clear hK K hHeld2 hbN
              try simp only [Act.put, List.setIfInBounds_toArray, List.set_cons_zero, List.set_cons_succ]
              refine take_yes (i := 17) (v := ?_) rfl (by kernel_rfl) (by kernel_rfl) (by kernel_rfl) (fun _ _ _ h => h) (by kernel_rfl) hHeld ?_ ?_
              rotate_left
              · intro w hSw; go_split_ands; go_simp; try with_reducible rfl
              try simp only [Act.put, List.setIfInBounds_toArray, List.set_cons_zero, List.set_cons_succ]
              refine take_yes (i := 18) (v := ?_) rfl (by kernel_rfl) (by kernel_rfl) (by kernel_rfl) (fun _ _ _ h => h) (by kernel_rfl) hHeld ?_ ?_
              rotate_left
              · intro w hSw; go_split_ands; go_simp; try with_reducible rfl
              try simp only [Act.put, List.setIfInBounds_toArray, List.set_cons_zero, List.set_cons_succ]
              refine take_yes (i := 19) (v := ?_) rfl (by kernel_rfl) (by kernel_rfl) (by kernel_rfl) (fun _ _ _ h => h) (by kernel_rfl) hHeld ?_ ?_
              rotate_left
              · intro w hSw; go_split_ands; go_simp; try with_reducible rfl
              try simp only [Act.put, List.setIfInBounds_toArray, List.set_cons_zero, List.set_cons_succ]
              refine take_no (i := 20) rfl (by kernel_rfl) (by kernel_rfl) (by kernel_rfl) (fun _ _ _ h => h) (by kernel_rfl) hHeld ?_
              try simp only [Act.put, List.setIfInBounds_toArray, List.set_cons_zero, List.set_cons_succ]
              refine take_no (i := 21) rfl (by kernel_rfl) (by kernel_rfl) (by kernel_rfl) (fun _ _ _ h => h) (by kernel_rfl) hHeld ?_
              try simp only [Act.put, List.setIfInBounds_toArray, List.set_cons_zero, List.set_cons_succ]
              refine take_no (i := 22) rfl (by kernel_rfl) (by kernel_rfl) (by kernel_rfl) (fun _ _ _ h => h) (by kernel_rfl) hHeld ?_
              try simp only [Act.put, List.setIfInBounds_toArray, List.set_cons_zero, List.set_cons_succ]
              refine take_no (i := 23) rfl (by kernel_rfl) (by kernel_rfl) (by kernel_rfl) (fun _ _ _ h => h) (by kernel_rfl) hHeld ?_
              try simp only [Act.put, List.setIfInBounds_toArray, List.set_cons_zero, List.set_cons_succ]
              refine take_yes (i := 24) (v := ?_) rfl (by kernel_rfl) (by kernel_rfl) (by kernel_rfl) (fun _ _ _ h => h) (by kernel_rfl) hHeld ?_ ?_
              rotate_left
              · intro w hSw; go_split_ands; go_simp; try with_reducible rfl
              try simp only [Act.put, List.setIfInBounds_toArray, List.set_cons_zero, List.set_cons_succ]
              have HBX := Lib.hid hHeld.2.2.out.2
              refine wpAnyH_done (by kernel_rfl) ?_ _
              clear hHeld
              have HNO := Lib.hid (HFIN.out HNS.out)
              go_wp2
              go_ret2
              exact HNO.out _ _ (HDX.out) HBX.out
      · have hd4 : ((ws.length : Int) != 4) = true := by simp; omega
        have HNS : Hid (∀ m, ¬ StepTo L rest m) := Lib.hid (fun m hm => h4 (by rw [HWE.out]; exact (step_data hm HK.out).1))
        have HNO := Lib.hid (HFIN.out HNS.out)
        clear h4 HWS HWE HPL
        go_wp2
        go_ret2
        exact HNO.out _ _ HD2.out HB2.out
end Go.Proofs.YtannijeiecmjpaaGreatDoor
