/- foresightref.Listed: the list on several machines as the document tells. -/
import Derived.Test.YtannijeiecmjpaaDoorListM
import Derived.Test.YtannijeiecmjpaaDoorParts
import Derived.Test.YtannijeiecmjpaaDoorInBox
import Derived.Test.YtannijeiecmjpaaDoorTabN
import Derived.Test.YtannijeiecmjpaaDoorRunS
import Derived.BigQuiet
import Derived.Deep.QuietTactic
import Derived.Deep.DeepCutAuto
import Derived.Deep.CutBlock
namespace Go.Proofs.YtannijeiecmjpaaDoor
open Go.RowKit

theorem rowRp : RowOf Tryd.prog 41 92 (.agg #[.int .i64 0, .int .i64 0, .int .i64 0, .int .i64 0]) 4 32 := rowOf Tryd.underlying41 (by kernel_rfl) rfl (by decide)
/-- The memory of the reference's Listed: the row of the free times, of the parts. -/
structure RefLAt (w : World) (mn : Nat) (L : List Int) (ov : Value) (out : List R4) (wr : World) : Prop where
  row : wr.ownsRow w.heap.size 3 1 (.slice (some ⟨w.heap.size, 0, none⟩) mn mn) mn (L.map (Value.int .i64))
  out : wr.ownsRow (w.heap.size + 1) 92 4 ov out.length (out.flatMap enc4)
  fr : Below w.heap.size w wr
  hB : w.heap.size + 1 ≤ wr.heap.size
variable {w : World} {mn : Nat} {L : List Int} {ov : Value} {out : List R4} {wr wr' : World}
theorem RefLAt.next (H : RefLAt w mn L ov out wr) (h : Below wr.heap.size wr wr') : RefLAt w mn L ov out wr' :=
  ⟨owns_at H.row h, owns_at H.out h, below_next H.fr h, Nat.le_trans H.hB h.size⟩
theorem RefLAt.set (H : RefLAt w mn L ov out wr) (j : Nat) (v : Int) : RefLAt w mn (L.set j v) ov out (wr.setCell ⟨w.heap.size, j, none⟩ (.int .i64 v)) :=
  ⟨owns_set H.row j v, ownsRow_setCell_below H.out (Nat.lt_succ_self _) _, H.fr.setCell (Nat.le_refl w.heap.size) _, by simpa [World.setCell] using H.hB⟩
theorem RefLAt.more (H : RefLAt w mn L ov out wr) (hg : wr.grownBy wr' ov.ownBlock) {ov' : Value} {out' : List R4} (ho : wr'.ownsRow (w.heap.size + 1) 92 4 ov' out'.length (out'.flatMap enc4)) : RefLAt w mn L ov' out' wr' := by
  refine ⟨H.row.kept hg ?_, ho, H.fr.grown hg H.fr.size (fun k hk => by have := (H.out.lt k hk).1; omega), Nat.le_trans H.hB hg.size⟩
  right
  show some w.heap.size ≠ ov.ownBlock
  intro h
  have := (H.out.lt _ h.symm).1
  omega
theorem RefLAt.cell (H : RefLAt w mn L ov out wr) {j : Nat} (hj : j < mn) : wr.cell? ⟨w.heap.size, j, none⟩ = some (.int .i64 (lg L j)) ∧ wr.frozen? ⟨w.heap.size, j, none⟩ = false := by
  have hl := owns_len H.row
  rw [lg_get (by omega)]
  exact ⟨owns_get H.row j hj (by omega), H.row.frozenAt j⟩
set_option maxRecDepth 100000 in
set_option maxHeartbeats 16000000 in
theorem refListed_any (a ar : Option Addr) (n cap nr cr : Nat) (m : Int) (l row : List Int) (w : World) (hl : n = l.length) (hr : nr = row.length) (hm1 : 1 ≤ m) (hm2 : m ≤ 20) (hn : l.length ≤ 100) (hnr : row.length ≤ 100) (hlx : ∀ x ∈ l, 0 ≤ x ∧ x ≤ 1000000000)
    (hrx : ∀ j (h : j < row.length), 0 ≤ row[j] ∧ row[j] < l.length) (hx : Elems encI 1 w a l) (hxr : Elems encI 1 w ar row) :
    Calls Tryd.prog 14 #[.slice a n cap, .int .i64 m, .slice ar nr cr] w fun e w' => Below w.heap.size w w' ∧
      ∃ a' c', e = .returned (.tuple #[.int .i64 (listTo l row m.toNat row.length).2.1, .slice a' row.length c']) ∧ Elems enc4 4 w' a' (listTo l row m.toNat row.length).2.2 := by
  obtain ⟨mn, rfl⟩ : ∃ mn : Nat, m = (mn : Int) := ⟨m.toNat, by omega⟩
  have hmn : 1 ≤ mn ∧ mn ≤ 20 := by omega
  have HBD := Lib.hid (fun k hk => listTo_bound (l := l) (row := row) (m := mn) hmn.1 hlx hrx k hk)
  have HLN := Lib.hid (fun k hk => listTo_len l row mn k hk)
  have HST := Lib.hid (fun k hk => listTo_succ l row mn k hk)
  have HRW := Lib.hid hrx
  have HGL := Lib.hid hlx
  have HX := Lib.hid hx
  have HXR := Lib.hid hxr
  have HRL := Lib.hid hr
  have HLL := Lib.hid hl
  have hnr60 : nr ≤ 100 := by omega
  have hn100 : n ≤ 100 := by omega
  obtain ⟨Z, hmk, hrow⟩ := made_row rowIn mn (mn : Int) rfl (by omega) (by unfold maxLen; omega)
  have H0 : Hid (RefLAt w mn (List.replicate mn 0) (.slice none 0 0) [] (w.alloc (.cells Z 3))) := Lib.hid (by
    refine ⟨?_, World.ownsRow_nil _ _ _ _, (Below.refl _ _).alloc (Nat.le_refl _) _, by simp⟩
    have h1 := hrow w w.heap.size (Nat.le_refl _)
    rw [show (madeCells (Value.int IntKind.i64 0).cells (mn * 1)).toList = (madeCells #[Value.int .i64 0] mn).toList by simp [Value.cells], made_ints] at h1
    exact h1)
  clear hrow hl hr hx hxr hn hnr hlx hrx hm1 hm2
  go_enter Tryd.func14, Tryd.ntmps14
  go_wp2
  go_loopw [9, 10, 19] (fun ov ev iv wr => ∃ t : Nat, t ≤ nr ∧ iv = .int .i64 t ∧ ev = .int .i64 (listTo l row mn t).2.1 ∧ Hid (RefLAt w mn (listTo l row mn t).1 ov (listTo l row mn t).2.2 wr)) (fun _ _ iv _ => nr - (intOf iv).toNat)
  case atStart => exact ⟨0, by omega, rfl, by rw [listTo_zero], by rw [listTo_zero]; exact H0⟩
  case round =>
    clear H0 hmk
    obtain ⟨t, ht, rfl, rfl, H⟩ := hrel
    by_cases hlt : t < nr
    · have hltx : t < row.length := by rw [← HRL.out]; exact hlt
      obtain ⟨hr0, hr1⟩ := HRW.out t hltx
      obtain ⟨i, hi⟩ : ∃ i : Nat, row[t] = (i : Int) := ⟨row[t].toNat, by omega⟩
      have hil : i < l.length := by omega
      have hst := HST.out t hltx
      have hbd := HBD.out t (by omega)
      have hln := HLN.out t (by omega)
      obtain ⟨V, hV⟩ : ∃ V, V = l[i] := ⟨_, rfl⟩
      have hVb : 0 ≤ V ∧ V ≤ 1000000000 := by rw [hV]; exact HGL.out _ (List.getElem_mem hil)
      have hat : atI l row[t] = V := by rw [hi, atI_nat hil, hV]
      unfold stepL at hst
      rw [hat, hi, hln.1] at hst
      obtain ⟨b, o, rfl, hcl⟩ := HX.out.some hil
      have d1 := hcl i hil 0 _ rfl
      simp only [Nat.add_zero, Nat.mul_one] at d1
      rw [← hV] at d1
      obtain ⟨b2, o2, rfl, hcr⟩ := HXR.out.some hltx
      have d2 := hcr t hltx 0 _ rfl
      simp only [Nat.add_zero, Nat.mul_one] at d2
      rw [hi] at d2
      have e2 := (H.out.fr.cell (lt_of_cell d2)).trans d2
      have HD1 := Lib.hid d1
      have hA := fun j (hj : j < mn) => hbd.1 j hj
      have HST1 := Lib.hid hst
      have hlp := hln.2
      have HL1 := Lib.hid hln.1
      obtain ⟨hE0, hE1⟩ := hbd.2
      have hin : i < n := by have := HLL.out; omega
      clear hcl hcr hV hat hst hbd hln hr0 hr1 hi d1 d2
      generalize listTo l row mn t = st at *
      obtain ⟨L, E, P⟩ := st
      simp only at H HST1 hA hE0 hE1 hlp HL1
      have HA := Lib.hid hA
      have HLT := Lib.hid (fun q => leastTo_le L q)
      have HCL := Lib.hid (fun j (hj : j < mn) => H.out.cell hj)
      have hEb : 0 ≤ E ∧ E ≤ 100000000000 := by omega
      clear hA hE0 hE1
      go_wp2
      go_loopw [13, 25] (fun mv qv w2 => ∃ q jd : Nat, q ≤ mn ∧ qv = .int .i64 q ∧ mv = .int .i64 ((leastTo L q : Nat) : Int) ∧ w2 = wr.drewN jd) (fun _ qv _ => mn - (intOf qv).toNat)
      case atStart => exact ⟨0, 0, by omega, rfl, rfl, rfl⟩
      case round =>
        obtain ⟨q, jd, hq, rfl, rfl, rfl⟩ := hrel
        by_cases hql : q < mn
        · have c1 := (HCL.out q hql).1
          have hle : leastTo L q < mn := Nat.lt_of_le_of_lt (HLT.out q).1 hql
          have c2 := (HCL.out (leastTo L q) hle).1
          have hls : leastTo L (q + 1) = if lg L q < lg L (leastTo L q) then q else leastTo L q := rfl
          by_cases hcmp : lg L q < lg L (leastTo L q)
          · have HLS : Hid (leastTo L (q + 1) = q) := Lib.hid (by rw [hls, if_pos hcmp])
            have hd : decide (lg L q < lg L (leastTo L q)) = true := by simp [hcmp]
            clear hls hcmp
            generalize lg L q = x at *
            generalize lg L (leastTo L q) = y at *
            generalize leastTo L q = M at *
            go_wp2
            go_quiet (fail)
            go_wp2
            exact ⟨⟨q + 1, _, by omega, by go_num, by rw [HLS.out], rfl⟩, by simp [intOf]; omega⟩
          · have HLS : Hid (leastTo L (q + 1) = leastTo L q) := Lib.hid (by rw [hls, if_neg hcmp])
            have hd : decide (lg L q < lg L (leastTo L q)) = false := by simp; omega
            clear hls hcmp
            generalize lg L q = x at *
            generalize lg L (leastTo L q) = y at *
            generalize leastTo L q = M at *
            go_wp2
            go_quiet (fail)
            go_wp2
            exact ⟨⟨q + 1, _, by omega, by go_num, by rw [HLS.out], rfl⟩, by simp [intOf]; omega⟩
        · obtain rfl : q = mn := by omega
          obtain ⟨W, hW⟩ : ∃ W, W = wr.drewN jd := ⟨_, rfl⟩
          have HW : Hid (RefLAt w q L u9 P W) := Lib.hid (by rw [hW]; exact H.out.next (below_drewN _ _ _))
          have hM : leastTo L q < q := (HLT.out q).2 (by omega)
          obtain ⟨M, hMM⟩ : ∃ M, M = leastTo L q := ⟨_, rfl⟩
          rw [← hMM] at hM HST1
          obtain ⟨A, hAA⟩ : ∃ A, A = lg L M := ⟨_, rfl⟩
          have hA := HA.out M hM
          rw [← hAA] at hA HST1
          have hAb : 0 ≤ A ∧ A ≤ 100000000000 := by omega
          have hwA : IntKind.i64.wrap (A + V) = A + V := IntWalk.i64_in _ (by omega)
          obtain ⟨k1, k3⟩ := HW.out.cell hM
          rw [← hAA] at k1
          have k4 : W.cell? ⟨b, o + i, none⟩ = some (.int .i64 V) := (HW.out.fr.cell (lt_of_cell HD1.out)).trans HD1.out
          have hbw := lt_of_cell HD1.out
          simp only at hbw
          have hCo : some w.heap.size ≠ u9.ownBlock := fun h => by have := (HW.out.out.lt _ h.symm).1; omega
          have hbo : some b ≠ u9.ownBlock := fun h => by have := (HW.out.out.lt _ h.symm).1; omega
          have HNEW : Hid (∀ v' w5, w5.ownsRow (w.heap.size + 1) 92 4 v' (P.length + 1) (P.flatMap enc4 ++ [.int .i64 M, .int .i64 i, .int .i64 A, .int .i64 (A + V)]) → ((W.alloc (.cells #[.int .i64 M, .int .i64 i, .int .i64 A, .int .i64 (A + V)] 92)).drew).grownBy w5 u9.ownBlock →
              RefLAt w q L v' (P ++ [((M : Int), (i : Int), A, A + V)]) w5 ∧ w5.cell? ⟨w.heap.size, M, none⟩ = some (.int .i64 A) ∧ w5.frozen? ⟨w.heap.size, M, none⟩ = false ∧ w5.cell? ⟨b, o + i, none⟩ = some (.int .i64 V)) := Lib.hid (fun v' w5 h1 h2 => by
            have hg : W.grownBy w5 u9.ownBlock := grown_trans (grown_of_below (((Below.refl _ _).alloc (Nat.le_refl _) _).drew) _) h2
            exact ⟨HW.out.more hg (by rw [List.length_append, List.flatMap_append]; exact h1), grown_cell hg k1 hCo, grown_frozen hg k1 k3 hCo, grown_cell hg k4 hbo⟩)
          have hown := HW.out.out
          have hPl : P.length + 1 ≤ maxLen := by unfold maxLen; omega
          have hPb : (P.length + 1) * 32 ≤ 140737488355328 := by omega
          have hbW : w.heap.size + 1 ≤ W.heap.size := HW.out.hB
          have hin1 : (0 : Int) ≤ (i : Int) := by omega
          have hin2 : (i : Int) < (n : Int) := by omega
          have hn0 : 0 < n := by omega
          have hq0 : 0 < q := by omega
          have hM1 : (M : Int) < (q : Int) := by omega
          clear hCo hbo hlp HCL HLT HA H hA
          rw [← hMM]
          go_wp2
          rw [← hW]
          clear hW hMM hAA
          go_region_held3 (fun w' => w'.cell? ⟨w.heap.size, M, none⟩ = some (.int .i64 A) ∧ w'.cell? ⟨b, o + i, none⟩ = some (.int .i64 V))
            (first | go_keep | exact ⟨c1, c4⟩)
            ((refine step_row_at rowRp (by rfl) _ _ (by rfl) (w.heap.size + 1) (by rfl) ((hown.alloc _).drew) W.heap.size (enc4 ((M : Int), (i : Int), A, A + V)) (heap_alloc_new W _) (by rfl) rfl (enc4_one _) hPl hPb (by simp; omega) ?_; intro v' w5 h1 h2 h3; obtain ⟨h6, c1, c3, c4⟩ := HNEW.out v' w5 h1 h2))
          have H7 : Hid (RefLAt w q (L.set M (A + V)) v' (P ++ [((M : Int), (i : Int), A, A + V)]) ((w5.setCell ⟨w.heap.size, M, none⟩ (.int .i64 (A + V))).drew)) := Lib.hid (by
            exact (h6.set M (A + V)).next (Below.drew (Below.refl _ _)))
          clear h6 h1 h2 h3 hown HNEW k1 k3 k4 hPl hPb hbW
          by_cases hmx : E < A + V
          · have HMX : Hid (max E (A + V) = A + V) := Lib.hid (by omega)
            go_wp2
            go_region
            go_wp2
            exact ⟨⟨t + 1, by omega, by go_num, by rw [HST1.out, HMX.out], by rw [HST1.out]; exact H7.out⟩, by simp [intOf]; omega⟩
          · have HMX : Hid (max E (A + V) = E) := Lib.hid (by omega)
            go_wp2
            go_region
            go_wp2
            exact ⟨⟨t + 1, by omega, by go_num, by rw [HST1.out, HMX.out], by rw [HST1.out]; exact H7.out⟩, by simp [intOf]; omega⟩
    · obtain rfl : t = nr := by omega
      obtain ⟨a2, c2, hov, he, _⟩ := elems_of_owns (enc := enc4) (fun _ => rfl) rfl H.out.out
      have hlen := (HLN.out t (by rw [HRL.out]; exact Nat.le_refl _)).2
      have HF := Lib.hid H.out.fr
      have HEL := Lib.hid he
      have HLE := Lib.hid hlen
      subst hov
      clear H he hlen
      go_wp2
      go_ret2
      refine ⟨HF.out, a2, c2, ?_, ?_⟩
      · rw [HLE.out, ← HRL.out]; rfl
      · rw [← HRL.out]; exact HEL.out
end Go.Proofs.YtannijeiecmjpaaDoor
