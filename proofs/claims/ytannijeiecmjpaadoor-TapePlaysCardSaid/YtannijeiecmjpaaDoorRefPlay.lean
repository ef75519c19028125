/- foresightref.Play24: what becomes of each call, call by call, as the document tells. -/
import Derived.Test.YtannijeiecmjpaaDoorTapeC
import Derived.Test.YtannijeiecmjpaaDoorInBox
import Derived.Test.YtannijeiecmjpaaDoorTabN
import Derived.Test.YtannijeiecmjpaaDoorDelF
import Derived.BigQuiet
import Derived.Deep.QuietTactic
import Derived.Deep.RegionLaw
import Derived.Deep.DeepCutAuto
import Derived.Deep.CutBlock
namespace Go.Proofs.YtannijeiecmjpaaDoor
open Go.RowKit

abbrev encF (x : R2) : List Value := [.int .i64 x.1, .int .i64 x.2]
theorem encF_one (x : R2) : ∀ u ∈ encF x, u.oneCell' = true := by
  intro u hu; simp [encF] at hu; rcases hu with rfl | rfl <;> rfl
theorem rowRF : RowOf Tryd.prog 60 64 (.agg #[.int .i64 0, .int .i64 0]) 2 16 := rowOf Tryd.underlying60 (by kernel_rfl) rfl (by decide)
def atTo (free : List Int) (A : Int) (k : Nat) : Int := atR (free.take k) A
theorem atTo_succ (free : List Int) (A : Int) (k : Nat) (h : k < free.length) : atTo free A (k + 1) = if atTo free A k < 0 ∨ max free[k] A < atTo free A k then max free[k] A else atTo free A k := by
  unfold atTo atR
  rw [List.take_succ_eq_append_getElem h, List.foldl_append]
  rfl
theorem atTo_bound {free : List Int} {A : Int} (hA : 0 ≤ A ∧ A ≤ 1000000000) (hf : ∀ t ∈ free, 0 ≤ t ∧ t ≤ 3000000000) : ∀ k, k ≤ free.length → -1 ≤ atTo free A k ∧ atTo free A k ≤ 3000000000 := by
  intro k
  induction k with
  | zero => intro _; unfold atTo atR; simp
  | succ k ih =>
    intro h
    have h1 := ih (by omega)
    have h2 := hf _ (List.getElem_mem (show k < free.length by omega))
    rw [atTo_succ free A k (by omega)]
    split <;> omega
theorem frR_bound {xs : List R3} {m : Nat} (h : GoodC xs) : ∀ i, i ≤ xs.length → ∀ t ∈ frR m xs i, 0 ≤ t ∧ t ≤ 3000000000 := by
  intro i
  induction i with
  | zero => intro _ t ht; simp [frR] at ht; omega
  | succ i ih =>
    intro hi t ht
    obtain ⟨g1, g2, g3, g4, g5, g6⟩ := h.2.1 i (by omega)
    have ht2 : t ∈ (stepT (frR m xs i) (cA xs i) (cL xs i) (cD xs i)).1 := ht
    unfold stepT at ht2
    by_cases hc : atR (frR m xs i) (cA xs i) < 0 ∨ cD xs i < atR (frR m xs i) (cA xs i)
    · rw [if_pos hc] at ht2; exact ih (by omega) t ht2
    · rw [if_neg hc] at ht2
      rcases List.mem_or_eq_of_mem_set ht2 with h1 | rfl
      · exact ih (by omega) t h1
      · omega
theorem who_lt {free : List Int} {A : Int} (hA : 0 ≤ A) (h : ¬ atR free A < 0) : whoR free A (atR free A) < free.length := by
  rcases atR_spec free A hA with ⟨_, h1⟩ | ⟨_, _, ⟨u, hu, h4⟩, _⟩
  · omega
  · exact List.findIdx_lt_length_of_exists ⟨u, hu, by simp; omega⟩
theorem who_not {free : List Int} {A T : Int} {j : Nat} (h : j < whoR free A T) (hj : j < free.length) : T < max free[j] A := by
  have := List.not_of_lt_findIdx h
  simp at this
  omega
theorem who_is {free : List Int} {A T : Int} (hj : whoR free A T < free.length) : max free[whoR free A T] A ≤ T := by
  have := List.findIdx_getElem (w := hj)
  simp only [decide_eq_true_eq] at this
  exact this
def foTo (m : Nat) (xs : List R3) (k : Nat) : List R2 := (List.range k).map (foR m xs)
theorem foTo_succ (m : Nat) (xs : List R3) (k : Nat) : foTo m xs (k + 1) = foTo m xs k ++ [foR m xs k] := by unfold foTo; rw [List.range_succ, List.map_append]; rfl
theorem foTo_len (m : Nat) (xs : List R3) (k : Nat) : (foTo m xs k).length = k := by simp [foTo]

/-- The memory of the reference's Play24. -/
structure RefPAt (w : World) (m : Nat) (L : List Int) (ov : Value) (out : List R2) (wr : World) : Prop where
  row : wr.ownsRow w.heap.size 3 1 (.slice (some ⟨w.heap.size, 0, none⟩) m m) m (L.map (Value.int .i64))
  out : wr.ownsRow (w.heap.size + 1) 64 2 ov out.length (out.flatMap encF)
  fr : Below w.heap.size w wr
  hB : w.heap.size + 1 ≤ wr.heap.size
variable {w : World} {m : Nat} {L : List Int} {ov : Value} {out : List R2} {wr wr' : World}
theorem RefPAt.next (H : RefPAt w m L ov out wr) (h : Below wr.heap.size wr wr') : RefPAt w m L ov out wr' :=
  ⟨owns_at H.row h, owns_at H.out h, below_next H.fr h, Nat.le_trans H.hB h.size⟩
theorem RefPAt.set (H : RefPAt w m L ov out wr) (j : Nat) (v : Int) : RefPAt w m (L.set j v) ov out (wr.setCell ⟨w.heap.size, j, none⟩ (.int .i64 v)) :=
  ⟨owns_set H.row j v, ownsRow_setCell_below H.out (Nat.lt_succ_self _) _, H.fr.setCell (Nat.le_refl w.heap.size) _, by simpa [World.setCell] using H.hB⟩
theorem RefPAt.more (H : RefPAt w m L ov out wr) (hg : wr.grownBy wr' ov.ownBlock) {ov' : Value} {out' : List R2} (ho : wr'.ownsRow (w.heap.size + 1) 64 2 ov' out'.length (out'.flatMap encF)) : RefPAt w m L ov' out' wr' := by
  refine ⟨H.row.kept hg ?_, ho, H.fr.grown hg H.fr.size (fun k hk => by have := (H.out.lt k hk).1; omega), Nat.le_trans H.hB hg.size⟩
  right
  show some w.heap.size ≠ ov.ownBlock
  intro h
  have := (H.out.lt _ h.symm).1
  omega
theorem RefPAt.cell (H : RefPAt w m L ov out wr) {j : Nat} (hj : j < L.length) : wr.cell? ⟨w.heap.size, j, none⟩ = some (.int .i64 L[j]) ∧ wr.frozen? ⟨w.heap.size, j, none⟩ = false := by
  have hl := owns_len H.row
  exact ⟨owns_get H.row j (by omega) hj, H.row.frozenAt j⟩
set_option maxRecDepth 100000 in
set_option maxHeartbeats 16000000 in
theorem refPlay_any (a : Option Addr) (n cap m : Nat) (xs : List R3) (w : World) (hl : n = xs.length) (hm : m ≤ 20) (h : GoodC xs) (hx : Elems enc3 3 w a xs) :
    Calls Tryd.prog 21 #[.slice a n cap, .int .i64 (m : Int)] w fun e w' => Below w.heap.size w w' ∧ ∃ a' c', e = .returned (.slice a' xs.length c') ∧ Elems encF 2 w' a' (foTo m xs xs.length) := by
  have HG := Lib.hid h
  have HX := Lib.hid hx
  have HLL := Lib.hid hl
  have hn60 : n ≤ 60 := by have := h.1; omega
  obtain ⟨Z, hmk, hrow⟩ := made_row rowIn m (m : Int) rfl (by omega) (by unfold maxLen; omega)
  have H0 : Hid (RefPAt w m (frR m xs 0) (.slice none 0 0) (foTo m xs 0) (w.alloc (.cells Z 3))) := Lib.hid (by
    refine ⟨?_, World.ownsRow_nil _ _ _ _, (Below.refl _ _).alloc (Nat.le_refl _) _, by simp⟩
    have h1 := hrow w w.heap.size (Nat.le_refl _)
    rw [show (madeCells (Value.int IntKind.i64 0).cells (m * 1)).toList = (madeCells #[Value.int .i64 0] m).toList by simp [Value.cells], made_ints] at h1
    exact h1)
  have hm0 : (0 : Int) ≤ (m : Int) := by omega
  clear hrow hl hx h
  go_enter Tryd.func21, Tryd.ntmps21
  go_wp2
  go_loopw [6, 17] (fun ov iv wr => ∃ i : Nat, i ≤ n ∧ iv = .int .i64 i ∧ Hid (RefPAt w m (frR m xs i) ov (foTo m xs i) wr)) (fun _ iv _ => n - (intOf iv).toNat)
  case atStart => exact ⟨0, by omega, rfl, H0⟩
  case round =>
    clear H0 hmk
    obtain ⟨i, hi, rfl, H⟩ := hrel
    by_cases hlt : i < n
    · have hix : i < xs.length := by rw [← HLL.out]; exact hlt
      obtain ⟨b, o, rfl, hc⟩ := HX.out.some hix
      have q1 := hc i hix 0 _ rfl
      have q2 := hc i hix 1 _ rfl
      have q3 := hc i hix 2 _ rfl
      simp only [Nat.add_zero] at q1
      have c1 := (H.out.fr.cell (lt_of_cell q1)).trans q1
      have c2 := (H.out.fr.cell (lt_of_cell q2)).trans q2
      have c3 := (H.out.fr.cell (lt_of_cell q3)).trans q3
      obtain ⟨g1, g2, g3, g4, g5, g6⟩ := HG.out.2.1 i hix
      have hgd : xs.getD i (0, 0, 0) = xs[i] := by simp [List.getD_eq_getElem?_getD, hix]
      obtain ⟨A, hA⟩ : ∃ A, A = xs[i].1 := ⟨_, rfl⟩
      obtain ⟨Lg, hLg⟩ : ∃ Lg, Lg = xs[i].2.1 := ⟨_, rfl⟩
      obtain ⟨Pt, hPt⟩ : ∃ Pt, Pt = xs[i].2.2 := ⟨_, rfl⟩
      have eA : cA xs i = A := by unfold cA; rw [hgd, hA]
      have eL : cL xs i = Lg := by unfold cL; rw [hgd, hLg]
      have eD : cD xs i = A + Pt := by unfold cD; rw [hgd, hA, hPt]
      rw [eA] at g1 g2
      rw [eL] at g3 g4
      rw [eA, eD] at g5
      rw [eD] at g6
      rw [← hA] at c1
      rw [← hLg] at c2
      rw [← hPt] at c3
      have HST : Hid (frR m xs (i + 1) = (stepT (frR m xs i) A Lg (A + Pt)).1 ∧ foTo m xs (i + 1) = foTo m xs i ++ [(stepT (frR m xs i) A Lg (A + Pt)).2]) := Lib.hid ⟨by rw [← eA, ← eL]; rw [show cA xs i + Pt = cD xs i by rw [eA, eD]]; rfl, by rw [foTo_succ, ← eA, ← eL]; rw [show cA xs i + Pt = cD xs i by rw [eA, eD]]; rfl⟩
      have hfl := frR_len m xs i
      have hfb := frR_bound (m := m) HG.out i (by omega)
      have HOL0 := Lib.hid (foTo_len m xs i)
      clear hc q1 q2 q3 hgd hA hLg hPt eA eL eD
      generalize frR m xs i = F at *
      generalize foTo m xs i = O at *
      have HFB := Lib.hid hfb
      have HFL := Lib.hid hfl
      have HTB := Lib.hid (atTo_bound ⟨g1, g2⟩ hfb)
      have HTS := Lib.hid (atTo_succ F A)
      have hAP : IntKind.i64.wrap (A + Pt) = A + Pt := IntWalk.i64_in _ (by omega)
      obtain ⟨W, hW⟩ : ∃ W, W = wr.alloc (.cells #[.int .i64 A, .int .i64 Lg, .int .i64 Pt] 54) := ⟨_, rfl⟩
      obtain ⟨C, hC⟩ : ∃ C, C = wr.heap.size := ⟨_, rfl⟩
      have HW : Hid (RefPAt w m F u6 O W) := Lib.hid (by rw [hW]; exact H.out.next ((Below.refl _ _).alloc (Nat.le_refl _) _))
      have k1 : W.cell? ⟨C, 0, none⟩ = some (.int .i64 A) := by rw [hW, hC]; simp
      have k2 : W.cell? ⟨C, 1, none⟩ = some (.int .i64 Lg) := by rw [hW, hC]; simp
      have k3 : W.cell? ⟨C, 2, none⟩ = some (.int .i64 Pt) := by rw [hW, hC]; simp
      have HCL := Lib.hid (fun j (hj : j < F.length) => HW.out.cell hj)
      clear hfb hfl H
      go_wp2
      rw [← hW, ← hC]
      clear hW hC
      go_loopw [9, 23] (fun av qv w2 => ∃ q : Nat, q ≤ m ∧ qv = .int .i64 q ∧ av = .int .i64 (atTo F A q) ∧ W = w2) (fun _ qv _ => m - (intOf qv).toNat)
      case atStart => exact ⟨0, by omega, rfl, rfl, rfl⟩
      case round =>
        obtain ⟨q, hq, rfl, rfl, rfl⟩ := hrel
        by_cases hql : q < m
        · have hqF : q < F.length := by rw [HFL.out]; exact hql
          have d1 := (HCL.out q hqF).1
          have hts := HTS.out q hqF
          have htb := HTB.out q (by omega)
          have hfb := HFB.out _ (List.getElem_mem hqF)
          generalize F[q] = t at *
          obtain ⟨v, hv⟩ : ∃ v, v = atTo F A q := ⟨_, rfl⟩
          rw [← hv] at hts htb ⊢
          have HTS1 := Lib.hid hts
          clear hts hv
          by_cases h1 : t < A
          · have hmx : max t A = A := by omega
            by_cases h2 : v < 0
            · have HV : Hid (atTo F A (q + 1) = A) := Lib.hid (by rw [HTS1.out, if_pos (Or.inl h2), hmx])
              clear hmx
              go_wp2
              exact ⟨⟨q + 1, by omega, by go_num, by rw [HV.out], trivial⟩, by simp [intOf]; omega⟩
            · by_cases h3 : A < v
              · have HV : Hid (atTo F A (q + 1) = A) := Lib.hid (by rw [HTS1.out, if_pos (Or.inr (by omega)), hmx])
                clear hmx
                go_wp2
                exact ⟨⟨q + 1, by omega, by go_num, by rw [HV.out], trivial⟩, by simp [intOf]; omega⟩
              · have HV : Hid (atTo F A (q + 1) = v) := Lib.hid (by rw [HTS1.out, if_neg (by omega)])
                clear hmx
                go_wp2
                exact ⟨⟨q + 1, by omega, by go_num, by rw [HV.out], trivial⟩, by simp [intOf]; omega⟩
          · have hmx : max t A = t := by omega
            by_cases h2 : v < 0
            · have HV : Hid (atTo F A (q + 1) = t) := Lib.hid (by rw [HTS1.out, if_pos (Or.inl h2), hmx])
              clear hmx
              go_wp2
              exact ⟨⟨q + 1, by omega, by go_num, by rw [HV.out], trivial⟩, by simp [intOf]; omega⟩
            · by_cases h3 : t < v
              · have HV : Hid (atTo F A (q + 1) = t) := Lib.hid (by rw [HTS1.out, if_pos (Or.inr (by omega)), hmx])
                clear hmx
                go_wp2
                exact ⟨⟨q + 1, by omega, by go_num, by rw [HV.out], trivial⟩, by simp [intOf]; omega⟩
              · have HV : Hid (atTo F A (q + 1) = v) := Lib.hid (by rw [HTS1.out, if_neg (by omega)])
                clear hmx
                go_wp2
                exact ⟨⟨q + 1, by omega, by go_num, by rw [HV.out], trivial⟩, by simp [intOf]; omega⟩
        · obtain rfl : q = m := by omega
          have hat : atTo F A q = atR F A := by unfold atTo; rw [List.take_of_length_le (by rw [HFL.out]; exact Nat.le_refl _)]
          have htb := HTB.out q (by rw [HFL.out]; exact Nat.le_refl _)
          rw [hat] at htb ⊢
          have hO1 : O.length + 1 ≤ maxLen := by rw [HOL0.out]; unfold maxLen; omega
          have hO2 : (O.length + 1) * 16 ≤ 140737488355328 := by rw [HOL0.out]; omega
          have hbW := HW.out.hB
          by_cases hlost : atR F A < 0 ∨ A + Pt < atR F A
          · have HS : Hid (stepT F A Lg (A + Pt) = (F, (-1, A + Pt))) := Lib.hid (if_pos hlost)
            obtain ⟨v, hv⟩ : ∃ v, v = atR F A := ⟨_, rfl⟩
            rw [← hv] at hlost htb ⊢
            clear hv hat HTB HTS HCL HFB
            rcases hlost with h1 | h1
            · have h2 : True := trivial
              go_wp2_with (at_builtin; (refine app_at rowRF rfl _ _ rfl (w.heap.size + 1) rfl HW.out.out [.int .i64 (-1), .int .i64 (A + Pt)] rfl (by first | rfl | simp) rfl (by intro u hu; simp at hu; rcases hu with rfl | rfl <;> rfl) hO1 hO2 hbW ?_))
              intro ad2 cap2 w5 e1 e2 _
              have H5 : Hid (RefPAt w q F (.slice ad2 (O.length + 1) cap2) (O ++ [(-1, A + Pt)]) w5) := Lib.hid (HW.out.more e2 (by rw [List.length_append, List.flatMap_append]; exact e1))
              clear e1 e2
              go_wp2
              exact ⟨⟨i + 1, by omega, by go_num, by rw [HST.out.1, HST.out.2, HS.out]; exact H5⟩, by simp [intOf]; omega⟩
            · have h2 : ¬ v < 0 := by omega
              go_wp2_with (at_builtin; (refine app_at rowRF rfl _ _ rfl (w.heap.size + 1) rfl HW.out.out [.int .i64 (-1), .int .i64 (A + Pt)] rfl (by first | rfl | simp) rfl (by intro u hu; simp at hu; rcases hu with rfl | rfl <;> rfl) hO1 hO2 hbW ?_))
              intro ad2 cap2 w5 e1 e2 _
              have H5 : Hid (RefPAt w q F (.slice ad2 (O.length + 1) cap2) (O ++ [(-1, A + Pt)]) w5) := Lib.hid (HW.out.more e2 (by rw [List.length_append, List.flatMap_append]; exact e1))
              clear e1 e2
              go_wp2
              exact ⟨⟨i + 1, by omega, by go_num, by rw [HST.out.1, HST.out.2, HS.out]; exact H5⟩, by simp [intOf]; omega⟩
          · have hwl := who_lt (free := F) g1 (fun h => hlost (Or.inl h))
            have HS : Hid (stepT F A Lg (A + Pt) = (F.set (whoR F A (atR F A)) (atR F A + Lg), (((whoR F A (atR F A) : Nat) : Int), atR F A))) := Lib.hid (if_neg hlost)
            have hnot := fun j (h : j < whoR F A (atR F A)) (hj : j < F.length) => who_not h hj
            have his := fun (h : whoR F A (atR F A) < F.length) => who_is h
            have hv1 : ¬ atR F A < 0 := fun h => hlost (Or.inl h)
            have hv2 : ¬ A + Pt < atR F A := fun h => hlost (Or.inr h)
            have hQ : whoR F A (atR F A) < q := by rw [← HFL.out]; exact hwl
            have HNOT := Lib.hid hnot
            have HIS := Lib.hid his
            have HWL := Lib.hid hwl
            clear hlost hnot his hwl hat HTB HTS
            generalize whoR F A (atR F A) = Q at *
            generalize atR F A = v at *
            have hwv : IntKind.i64.wrap (v + Lg) = v + Lg := IntWalk.i64_in _ (by omega)
            go_wp2
            go_loopw [12] (fun jv w2 => ∃ j jd : Nat, j ≤ Q ∧ jv = .int .i64 j ∧ w2 = W.drewN jd) (fun jv _ => Q - (intOf jv).toNat)
            case atStart => exact ⟨0, 0, by omega, rfl, rfl⟩
            case round =>
              obtain ⟨j, jd, hj, rfl, rfl⟩ := hrel
              have hjF : j < F.length := Nat.lt_of_le_of_lt hj HWL.out
              have hjq : j < q := by omega
              have d1 := (HCL.out j hjF).1
              have hfb := HFB.out _ (List.getElem_mem hjF)
              by_cases hjQ : j < Q
              · have hno := HNOT.out j hjQ hjF
                generalize F[j] = t at *
                by_cases h1 : t < A
                · have h2 : v < A := by omega
                  clear hno
                  go_wp2
                  go_region
                  go_wp2
                  exact ⟨⟨j + 1, jd + 1, by omega, by go_num, rfl⟩, by simp [intOf]; omega⟩
                · have h2 : v < t := by omega
                  clear hno
                  go_wp2
                  go_region
                  go_wp2
                  exact ⟨⟨j + 1, jd + 1, by omega, by go_num, rfl⟩, by simp [intOf]; omega⟩
              · obtain rfl : j = Q := by omega
                have hyes := HIS.out hjF
                have d2 := (HCL.out j hjF).2
                have H4 : Hid (RefPAt w q (F.set j (v + Lg)) u6 O ((W.setCell ⟨w.heap.size, j, none⟩ (.int .i64 (v + Lg))).drewN (jd + 1))) := Lib.hid ((HW.out.set j (v + Lg)).next (below_drewN _ _ _))
                have hbW4 := H4.out.hB
                generalize F[j] = t at *
                by_cases h1 : t < A
                · have h2 : ¬ v < A := by omega
                  clear hyes
                  go_wp2
                  go_region
                  go_wp2_with (at_builtin; (refine app_at rowRF rfl _ _ rfl (w.heap.size + 1) rfl H4.out.out [.int .i64 j, .int .i64 v] rfl (by first | rfl | simp) rfl (by intro u hu; simp at hu; rcases hu with rfl | rfl <;> rfl) hO1 hO2 hbW4 ?_))
                  intro ad2 cap2 w5 e1 e2 _
                  have H5 : Hid (RefPAt w q (F.set j (v + Lg)) (.slice ad2 (O.length + 1) cap2) (O ++ [((j : Int), v)]) w5) := Lib.hid (H4.out.more e2 (by rw [List.length_append, List.flatMap_append]; exact e1))
                  clear e1 e2
                  go_wp2
                  exact ⟨⟨i + 1, by omega, by go_num, by rw [HST.out.1, HST.out.2, HS.out]; exact H5⟩, by simp [intOf]; omega⟩
                · have h2 : ¬ v < t := by omega
                  clear hyes
                  go_wp2
                  go_region
                  go_wp2_with (at_builtin; (refine app_at rowRF rfl _ _ rfl (w.heap.size + 1) rfl H4.out.out [.int .i64 j, .int .i64 v] rfl (by first | rfl | simp) rfl (by intro u hu; simp at hu; rcases hu with rfl | rfl <;> rfl) hO1 hO2 hbW4 ?_))
                  intro ad2 cap2 w5 e1 e2 _
                  have H5 : Hid (RefPAt w q (F.set j (v + Lg)) (.slice ad2 (O.length + 1) cap2) (O ++ [((j : Int), v)]) w5) := Lib.hid (H4.out.more e2 (by rw [List.length_append, List.flatMap_append]; exact e1))
                  clear e1 e2
                  go_wp2
                  exact ⟨⟨i + 1, by omega, by go_num, by rw [HST.out.1, HST.out.2, HS.out]; exact H5⟩, by simp [intOf]; omega⟩
    · obtain rfl : i = n := by omega
      obtain ⟨a2, c2, hov, he, _⟩ := elems_of_owns (enc := encF) (fun _ => rfl) rfl H.out.out
      have HF := Lib.hid H.out.fr
      have HEL := Lib.hid he
      have HLE := Lib.hid (foTo_len m xs i)
      subst hov
      clear H he
      go_wp2
      go_ret
      refine ⟨HF.out, a2, c2, ?_, ?_⟩
      · rw [HLE.out, ← HLL.out]; rfl
      · rw [← HLL.out]; exact HEL.out
end Go.Proofs.YtannijeiecmjpaaDoor
