/- The reference's Tree (19.2): the roads. -/
import Derived.Test.YtfaklhkdfpfjgaaDoorPrim
import Derived.Test.YtfaklhkdfpfjgaaDoorRoadM
import Derived.Test.YtfaklhkdfpfjgaaDoorRow2
import Derived.Test.YtfaklhkdfpfjgaaDoorInsertP
import Derived.Deep.AppendLies
import Derived.Deep.RegionHeld3
namespace Go.Proofs.YtfaklhkdfpfjgaaDoor
open Go.RowKit

theorem rowRd : RowOf Tryd.prog 163 165 (.agg #[.int .i64 0, .int .i64 0, .int .i64 0]) 3 24 := rowOf Tryd.underlying163 (by kernel_rfl) rfl (by decide)
/-- What lies there while the roads are built. -/
def Laid (w : World) (B : Nat) (vof vl : Value) (nf : Nat) (l : List R3) : Prop :=
  w.ownsRow (B + 1) 3 1 vof nf (rowV nf fun t => (t : Int)) ∧ w.ownsRow (B + 1) 165 3 vl l.length (l.flatMap enc3) ∧ Apart vl vof ∧
    w.ownsRow B 163 1 (.slice (some ⟨B, 0, none⟩) 1 1) 1 [vl]
theorem Laid.cell {w : World} {B : Nat} {vof vl : Value} {nf : Nat} {l : List R3} (h : Laid w B vof vl nf l) : w.cell? ⟨B, 0, none⟩ = some vl := by
  rw [h.2.2.2.cellAt 0 (by omega)]
  rfl
theorem grown_nx {w w' w'' : World} {row : Option Nat} (h : w.grownBy w' row) (k : w'.grownBy w'' row) : w.grownBy w'' row :=
  ⟨k.os.trans h.os, k.tape.trans h.tape, k.output.trans h.output, Nat.le_trans h.size k.size, fun j hj hne => (k.block j (Nat.lt_of_lt_of_le hj h.size) hne).trans (h.block j hj hne)⟩
theorem apart_symm {v u : Value} (h : Apart v u) : Apart u v := by
  unfold Apart at *
  cases hv : v.ownBlock with
  | none => exact Or.inl rfl
  | some g =>
    rcases h with h | h
    · exact Or.inr (by rw [h]; simp)
    · exact Or.inr (by rw [← hv]; exact fun h2 => h h2.symm)
theorem id_more (n : Nat) : rowV n (fun t => (t : Int)) ++ [Value.int .i64 (n : Int)] = rowV (n + 1) (fun t => (t : Int)) := by
  rw [row_app]
  refine row_same fun t _ => ?_
  by_cases h : t = n
  · subst h; simp
  · rw [if_neg h]
/-- One place more. -/
theorem Laid.place {w w' : World} {B : Nat} {vof vl v' : Value} {nf : Nat} {l : List R3} (h : Laid w B vof vl nf l) (h1 : w'.ownsRow (B + 1) 3 1 v' (nf + 1) (rowV nf (fun t => (t : Int)) ++ [Value.int .i64 (nf : Int)])) (h2 : w.grownBy w' vof.ownBlock) (h3 : v'.ownBlock = vof.ownBlock ∨ ∀ g, v'.ownBlock = some g → w.heap.size ≤ g) (hB : B + 1 ≤ w.heap.size) :
    Laid w' B v' vl (nf + 1) l ∧ B + 1 ≤ w'.heap.size := by
  obtain ⟨k1, k2⟩ := apart_kept h.2.1 (apart_symm h.2.2.1) h2 h3
  refine ⟨⟨by rw [← id_more]; exact h1, k1, apart_symm k2, ?_⟩, Nat.le_trans hB h2.size⟩
  exact h.2.2.2.kept h2 (Or.inr (fun hq => by have := (h.1.lt B hq.symm).1; omega))
/-- One road more. -/
theorem Laid.road {w w' : World} {B : Nat} {vof vl v' : Value} {nf : Nat} {l : List R3} {x : R3} (h : Laid w B vof vl nf l) (h1 : w'.ownsRow (B + 1) 165 3 v' (l.length + 1) (l.flatMap enc3 ++ enc3 x)) (h2 : w.grownBy w' vl.ownBlock) (h3 : v'.ownBlock = vl.ownBlock ∨ ∀ g, v'.ownBlock = some g → w.heap.size ≤ g) (hB : B + 1 ≤ w.heap.size) :
    Laid (w'.setCell ⟨B, 0, none⟩ v') B vof v' nf (l ++ [x]) ∧ B + 1 ≤ (w'.setCell ⟨B, 0, none⟩ v').heap.size := by
  obtain ⟨k1, k2⟩ := apart_kept h.1 h.2.2.1 h2 h3
  have hb := h.2.2.2.kept h2 (Or.inr (fun hq => by have := (h.2.1.lt B hq.symm).1; omega))
  obtain ⟨s1, s2⟩ := hb.stored 0 v'
  refine ⟨⟨k1.kept s2 (Or.inr (fun hq => by have := (k1.lt B hq).1; omega)), ?_, k2, s1⟩, by simpa using Nat.le_trans hB h2.size⟩
  have h5 : w'.ownsRow (B + 1) 165 3 v' (l ++ [x]).length ((l ++ [x]).flatMap enc3) := by
    rw [List.length_append, List.flatMap_append]
    simpa using h1
  exact h5.kept s2 (Or.inr (fun hq => by have := (h1.lt B hq).1; omega))
def RefTreePost (A : List (List Int)) (w : World) (e : Ending) (w' : World) : Prop := ∃ (sum : Int) (l : List RoadT), e = .returned (.int .i64 sum) ∧ RoadsOk A l ∧ sum = kruskal l (fun x => x) ∧ Below w.heap.size w w'
theorem road_laid {A : List (List Int)} {w wr w5 : World} {B i k g c' : Nat} {v' vl : Value} (HB : Hid (B = w.heap.size)) (HL : Hid (Laid wr B v' vl (i + 1) (roadsR A i ++ rowR A i k))) (HZ : Hid (B + 1 ≤ wr.heap.size))
    (HRS : Hid (rowR A i (k + 1) = rowR A i k ++ [((i : Int), (k : Int), dM A i k)])) (hb : Below w.heap.size w wr)
    (h5 : w5.ownsRow (B + 1) 165 3 (.slice (some ⟨g, 0, none⟩) ((roadsR A i ++ rowR A i k).length + 1) c') ((roadsR A i ++ rowR A i k).length + 1) ((roadsR A i ++ rowR A i k).flatMap enc3 ++ enc3 ((i : Int), (k : Int), dM A i k)))
    (h6 : (wr.alloc (.cells #[.int .i64 i, .int .i64 k, .int .i64 (dM A i k)] 165)).drew.grownBy w5 vl.ownBlock) (h7 : vl.ownBlock = some g ∨ g = wr.heap.size + 1) :
    Hid (Laid (w5.setCell ⟨B, 0, none⟩ (.slice (some ⟨g, 0, none⟩) ((roadsR A i ++ rowR A i k).length + 1) c')) B v' (.slice (some ⟨g, 0, none⟩) ((roadsR A i ++ rowR A i k).length + 1) c') (i + 1) (roadsR A i ++ rowR A i (k + 1))) ∧
    Hid (B + 1 ≤ (w5.setCell ⟨B, 0, none⟩ (.slice (some ⟨g, 0, none⟩) ((roadsR A i ++ rowR A i k).length + 1) c')).heap.size) ∧
    Hid (Below w.heap.size w (w5.setCell ⟨B, 0, none⟩ (.slice (some ⟨g, 0, none⟩) ((roadsR A i ++ rowR A i k).length + 1) c'))) := by
  have hol := HL.out.2.1
  have hsz := HZ.out
  have hgr : wr.grownBy w5 vl.ownBlock := by
    have g1 := World.grownBy_alloc wr (.cells (enc3 ((i : Int), (k : Int), dM A i k)).toArray 165) vl.ownBlock
    exact ⟨h6.os.trans g1.os, h6.tape.trans g1.tape, h6.output.trans g1.output, Nat.le_trans g1.size h6.size, fun j hj hne => (h6.block j (Nat.lt_of_lt_of_le hj g1.size) hne).trans (g1.block j hj hne)⟩
  obtain ⟨hroad, hzr⟩ := HL.out.road (x := ((i : Int), (k : Int), dM A i k)) h5 hgr (by
    rcases h7 with h7 | h7
    · exact Or.inl h7.symm
    · exact Or.inr (fun g' hg' => by
        have h9 : some g = some g' := hg'
        simp only [Option.some.injEq] at h9
        omega)) hsz
  rw [List.append_assoc, ← HRS.out] at hroad
  exact ⟨Lib.hid hroad, Lib.hid hzr, Lib.hid ((hb.trans ((grown_below hol hsz hgr).mono (by rw [HB.out]; omega))).setCell (p := ⟨B, 0, none⟩) (Nat.le_of_eq HB.out.symm) _)⟩
theorem road_below {A : List (List Int)} {w wr w5 : World} {B i k g c' : Nat} {v' vl : Value} (HB : Hid (B = w.heap.size)) (HL : Hid (Laid wr B v' vl (i + 1) (roadsR A i ++ rowR A i k))) (HZ : Hid (B + 1 ≤ wr.heap.size)) (hb : Below w.heap.size w wr)
    (_h5 : w5.ownsRow (B + 1) 165 3 (.slice (some ⟨g, 0, none⟩) ((roadsR A i ++ rowR A i k).length + 1) c') ((roadsR A i ++ rowR A i k).length + 1) ((roadsR A i ++ rowR A i k).flatMap enc3 ++ enc3 ((i : Int), (k : Int), dM A i k)))
    (h6 : (wr.alloc (.cells #[.int .i64 i, .int .i64 k, .int .i64 (dM A i k)] 165)).drew.grownBy w5 vl.ownBlock) (_h7 : vl.ownBlock = some g ∨ g = wr.heap.size + 1) :
    Below w.heap.size w w5 ∧ Below w.heap.size w (w5.setCell ⟨B, 0, none⟩ (.slice (some ⟨g, 0, none⟩) ((roadsR A i ++ rowR A i k).length + 1) c')) := by
  have hol := HL.out.2.1
  have hsz := HZ.out
  have hgr : wr.grownBy w5 vl.ownBlock := by
    have g1 := World.grownBy_alloc wr (.cells #[.int .i64 i, .int .i64 k, .int .i64 (dM A i k)] 165) vl.ownBlock
    exact ⟨h6.os.trans g1.os, h6.tape.trans g1.tape, h6.output.trans g1.output, Nat.le_trans g1.size h6.size, fun j hj hne => (h6.block j (Nat.lt_of_lt_of_le hj g1.size) hne).trans (g1.block j hj hne)⟩
  have h1 := hb.trans ((grown_below hol hsz hgr).mono (by rw [HB.out]; omega))
  exact ⟨h1, h1.setCell (p := ⟨B, 0, none⟩) (Nat.le_of_eq HB.out.symm) _⟩
/-- Two that may come up: each of them, and what follows. -/
theorem take_two {P : Program} {ops : Array Oper} {Q : Exit → Act → World → Prop} {md : Region.Mode} {S : World → Prop} {i j : Nat} {oi oj : Oper} {fuel : Nat} {listed : Array Bool} {a : Act} {w : World} (hi : ops.toList[i]? = some oi) (hj : ops.toList[j]? = some oj)
    (hr : Region.ready md ops listed = [i, j])
    (h : ∀ K' : Act → World → Prop, Shut (∀ a w, S w → (S w → wpAnyH P md ops Q S fuel (listed.setIfInBounds i true) a w) → K' a w) → if Region.wanted oi (yielded ops a.tmps) = true then Oper.wp P oi a w K' Q else K' (a.put oi.dst undef) w)
    (h2 : ∀ K' : Act → World → Prop, Shut (∀ a w, S w → (S w → wpAnyH P md ops Q S fuel (listed.setIfInBounds j true) a w) → K' a w) → if Region.wanted oj (yielded ops a.tmps) = true then Oper.wp P oj a w K' Q else K' (a.put oj.dst undef) w) :
    wpAnyH P md ops Q S (fuel + 1) listed a w :=
  wpAnyH_ready hr (by simp) (AllReadyH.cons (by rw [← Array.getElem?_toList]; exact hi) h (AllReadyH.cons (by rw [← Array.getElem?_toList]; exact hj) h2 AllReadyH.nil))
theorem cell3_new (w w0 : World) (x y z : Value) (t : TypeId) (hh : w0.heap = (w.alloc (.cells #[x, y, z] t)).heap) : ∀ j u, [x, y, z][j]? = some u → w0.cell? ((⟨w.heap.size, 0, none⟩ : Addr).add j) = some u := by
  intro j u hu
  have h : w0.heap[w.heap.size]? = some (.cells #[x, y, z] t) := by rw [hh]; exact Array.getElem?_push_size
  rcases j with _ | _ | _ | j <;> simp [Addr.add, World.cell?, h] at hu ⊢ <;> exact hu
theorem elems_grown {α : Type} {enc : α → List Value} {k : Nat} {w w' : World} {a : Option Addr} {xs : List α} {g : Nat} (h : Elems enc k w a xs) (hg : w.grownBy w' (some g)) (hne : ∀ p : Addr, a = some p → p.block ≠ g) : Elems enc k w' a xs := by
  rcases h with rfl | ⟨b, o, rfl, h⟩
  · exact Or.inl rfl
  · refine Or.inr ⟨b, o, rfl, fun j hj i u hu => ?_⟩
    have h1 := h j hj i u hu
    rw [hg.cell_far _ (lt_of_cell h1) (by simp; exact hne _ rfl)]
    exact h1
theorem sortedR_get (l : List R3) (r : RowF) {q : Nat} (h : q < (sortedR l r).length) : (sortedR l r)[q] = roadT l (r q) := by simp [sortedR]
theorem grown_dr {w w' : World} {row : Option Nat} (h : w.grownBy w' row) (n : Nat) : w.grownBy (w'.drewN n) row := ⟨h.os, h.tape, h.output, h.size, h.block⟩
theorem grown_rf (w : World) (row : Option Nat) : w.grownBy w row := ⟨rfl, rfl, rfl, Nat.le_refl _, fun _ _ _ => rfl⟩
theorem eg_tree1 : ∀ args w, (callFunc 92 args).run Tryd.prog w = .ok (.enter 92 args) w := enter_of Tryd.func92 (by kernel_rfl) rfl
set_option maxRecDepth 100000 in
set_option maxHeartbeats 4000000 in
theorem roadFn_any (a : Option Addr) (n cap b2 : Nat) (l : List R3) (x y : Int) (w : World)
    (hl : n = l.length) (hx : Elems enc3 3 w a l) (c2 : w.cell? ⟨b2, 0, none⟩ = some (.slice a n cap)) (x0 : 0 ≤ x) (x1 : x < n) (y0 : 0 ≤ y) (y1 : y < n) :
    Calls Tryd.prog 92 #[.int .i64 x, .int .i64 y, .pointer (some ⟨b2, 0, none⟩)] w fun e w' => e = .returned (.bool (ltf (fR l) y x)) ∧ Below w.heap.size w w' := by
  subst hl
  obtain ⟨i, rfl⟩ := Int.eq_ofNat_of_zero_le x0
  obtain ⟨k, rfl⟩ := Int.eq_ofNat_of_zero_le y0
  have hi : i < l.length := by omega
  have hk : k < l.length := by omega
  obtain ⟨b, o, rfl, hc⟩ := hx.some hi
  have p := hc i hi 2 _ rfl
  have q := hc k hk 2 _ rfl
  have HV : Hid (ltf (fR l) k i = decide (l[k].2.2 < l[i].2.2)) := Lib.hid (by
    unfold ltf fR keyR
    rw [Int.toNat_natCast, Int.toNat_natCast]
    have e1 : l.getD i (0, 0, 0) = l[i] := by simp [List.getD, hi]
    have e2 : l.getD k (0, 0, 0) = l[k] := by simp [List.getD, hk]
    rw [e1, e2]
    congr 1; simp; omega)
  clear hc hx
  generalize l[i].2.2 = pv at *
  generalize l[k].2.2 = qv at *
  have hi2 : (i : Int) < (l.length : Int) := by omega
  have hk2 : (k : Int) < (l.length : Int) := by omega
  go_enter Tryd.func92, Tryd.ntmps92
  go_wp2
  go_quiet (fail)
  go_wp2
  go_ret
  exact ⟨by rw [HV.out]; rfl, below_drewN _ _ _⟩
set_option maxRecDepth 100000 in
set_option maxHeartbeats 16000000 in
theorem refTree_ok (a : Option Addr) (n cap : Nat) (A : List (List Int)) (w : World) (hl : n = A.length) (hM : mapCheck A = 0) (hr : Rows2 w a A) :
    Calls Tryd.prog 50 #[.slice a n cap] w (RefTreePost A w) := by
  subst hl
  obtain ⟨hA9, hA⟩ := map_ok hM
  have HRR := Lib.hid hr
  have HA := Lib.hid hA
  clear hr hA hM
  have hlaid : Laid (w.alloc (.cells #[.slice none 0 0] 163)) w.heap.size (.slice none 0 0) (.slice none 0 0) 0 [] :=
    ⟨World.ownsRow_nil _ _ _ _, World.ownsRow_nil _ _ _ _, Or.inl rfl, World.ownsRow_lit w #[.slice none 0 0] 1 (Nat.le_refl _) (by unfold maxLen; omega) rfl⟩
  have hb0 : Below w.heap.size w (w.alloc (.cells #[.slice none 0 0] 163)) := (Below.refl _ _).alloc (Nat.le_refl _) _
  have HBB : Hid (w.heap.size + 1 ≤ (w.alloc (.cells #[.slice none 0 0] 163)).heap.size) := Lib.hid (by simp)
  obtain ⟨B, hB⟩ : ∃ B, B = w.heap.size := ⟨_, rfl⟩
  have HB := Lib.hid hB
  go_enter Tryd.func50, Tryd.ntmps50
  go_wp2
  rw [← hB] at hlaid HBB ⊢
  clear hB
  go_loopw [4, 15] (fun ov iv wr => ∃ (i : Nat) (vof vl : Value), ov = vof ∧ i ≤ A.length ∧ iv = .int .i64 i ∧ Hid (Laid wr B vof vl i (roadsR A i)) ∧ Hid (B + 1 ≤ wr.heap.size) ∧ Below w.heap.size w wr) (fun _ iv _ => A.length - (intOf iv).toNat)
  case atStart => exact ⟨0, _, _, rfl, by omega, rfl, Lib.hid hlaid, HBB, hb0⟩
  case round =>
    clear hlaid HBB hb0
    obtain ⟨i, vof, vl, rfl, hi, rfl, HL, HZ, hb⟩ := hrel
    by_cases hin : i < A.length
    · have hof := HL.out.1
      have hsz : B + 1 ≤ wr.heap.size := HZ.out
      go_wp2_with (at_builtin; (refine app_row2 rowW rfl _ _ rfl (B + 1) rfl hof [.int .i64 i] rfl (by first | rfl | simp) rfl (encI_one _) (by unfold maxLen; omega) (by omega) hsz ?_))
      intro v' w4 hown4 hg4 hv4
      obtain ⟨hL4, hZ4⟩ := HL.out.place hown4 hg4 hv4 hsz
      have HL4 := Lib.hid hL4
      have HZ4 := Lib.hid hZ4
      have hb4 := hb.trans ((grown_below hof hsz hg4).mono (by rw [HB.out]; omega))
      clear hown4 hg4 hv4 hL4 hZ4 hof hb
      go_wp2
      go_loopw [23] (fun kv wr => ∃ (k : Nat) (vl : Value), k ≤ i ∧ kv = .int .i64 k ∧ Hid (Laid wr B v' vl (i + 1) (roadsR A i ++ rowR A i k)) ∧ Hid (B + 1 ≤ wr.heap.size) ∧ Below w.heap.size w wr) (fun kv _ => i - (intOf kv).toNat)
      case atStart => exact ⟨0, vl, by omega, rfl, by simpa [rowR] using HL4, HZ4, hb4⟩
      case round =>
        clear HL4 HZ4 hb4
        obtain ⟨k, vl, hk, rfl, HL, HZ, hb⟩ := hrel
        by_cases hki : k < i
        · obtain ⟨b2, o2, rfl, R, hR⟩ := rows_at HA.out HRR.out (by omega)
          obtain ⟨ri0, di⟩ := hR i hin
          obtain ⟨rk0, dk⟩ := hR k (by omega)
          have dik0 := di k (by omega)
          have dki0 := dk i hin
          have hbox := HL.out.cell
          have hfz := HL.out.2.2.2.frozenAt 0
          have hol := HL.out.2.1
          have hsz := HZ.out
          have hll := roadsR_len A i
          have hrl := rowR_len A i k
          have hlen : (roadsR A i ++ rowR A i k).length ≤ 100 := by
            rw [List.length_append]
            have : i * i ≤ 9 * 9 := Nat.mul_le_mul (by omega) (by omega)
            omega
          have hmn : (if distM A (k : Int) (i : Int) < distM A (i : Int) (k : Int) then distM A (k : Int) (i : Int) else distM A (i : Int) (k : Int)) = dM A i k := by unfold dM; split <;> omega
          have HRS := Lib.hid (rowR_succ A i k)
          clear hR di dk hll hrl
          generalize distM A (i : Int) (k : Int) = v1 at *
          generalize distM A (k : Int) (i : Int) = v2 at *
          generalize (R i).1 = ba at *
          generalize (R i).2.1 = oa at *
          generalize (R i).2.2 = ca at *
          generalize (R k).1 = bb at *
          generalize (R k).2.1 = ob at *
          generalize (R k).2.2 = cb at *
          have ri := (hb.cell (lt_of_cell ri0)).trans ri0
          have rk := (hb.cell (lt_of_cell rk0)).trans rk0
          have dik := (hb.cell (lt_of_cell dik0)).trans dik0
          have dki := (hb.cell (lt_of_cell dki0)).trans dki0
          have HKEEP : Hid (∀ w', Below w.heap.size w w' → (w'.cell? ⟨b2, o2 + i, none⟩ = some (.slice (some ⟨ba, oa, none⟩) A.length ca) ∧ w'.cell? ⟨b2, o2 + k, none⟩ = some (.slice (some ⟨bb, ob, none⟩) A.length cb) ∧ w'.cell? ⟨ba, oa + k, none⟩ = some (.int .i64 v1) ∧ w'.cell? ⟨bb, ob + i, none⟩ = some (.int .i64 v2))) := Lib.hid (fun w' hq =>
            ⟨(hq.cell (lt_of_cell ri0)).trans ri0, (hq.cell (lt_of_cell rk0)).trans rk0, (hq.cell (lt_of_cell dik0)).trans dik0, (hq.cell (lt_of_cell dki0)).trans dki0⟩)
          have HBW := Lib.hid hb
          have HLD := Lib.hid (fun (w5 : World) (g c' : Nat) h5 h6 h7 => road_laid (i := i) (k := k) (g := g) (c' := c') (w5 := w5) HB HL HZ HRS hb h5 h6 h7)
          have HLB := Lib.hid (fun (w5 : World) (g c' : Nat) h5 h6 h7 => road_below (i := i) (k := k) (g := g) (c' := c') (w5 := w5) HB HL HZ hb h5 h6 h7)
          have HHL := Lib.hid HL.out
          have hbox2 := cell_a1 hbox (.cells #[.int .i64 i, .int .i64 k, .int .i64 (dM A i k)] 165)
          obtain ⟨ty, hty, hinf, hz0, hz1, hz2, hz3, hz4⟩ := rowRd
          have HS0 := Lib.hid (HKEEP.out _ (show Below w.heap.size w (wr.alloc (.cells #[.int .i64 i, .int .i64 k, .int .i64 (dM A i k)] 165)) from hb.alloc (by have := HB.out; omega) _))
          have hi1 : (0 : Int) ≤ (i : Int) := by omega
          have hi2 : (i : Int) < (A.length : Int) := by omega
          have hi3 : (0 : Int) ≤ (k : Int) := by omega
          have hi4 : (k : Int) < (A.length : Int) := by omega
          clear ri0 rk0 dik0 dki0
          go_wp2
          refine wp_region_held_drew (S := (fun w' => w'.cell? ⟨b2, o2 + i, none⟩ = some (.slice (some ⟨ba, oa, none⟩) A.length ca) ∧ w'.cell? ⟨b2, o2 + k, none⟩ = some (.slice (some ⟨bb, ob, none⟩) A.length cb) ∧ w'.cell? ⟨ba, oa + k, none⟩ = some (.int .i64 v1) ∧ w'.cell? ⟨bb, ob + i, none⟩ = some (.int .i64 v2))) (by kernel_rfl) ⟨ri, rk, dik, dki⟩ (fun hHeld => ?_)
          refine take_yes (i := 1) (v := ?_) rfl (by kernel_rfl) (by kernel_rfl) (by kernel_rfl) (fun _ _ _ h => h) (by kernel_rfl) hHeld ?_ ?_
          rotate_left
          · intro w hSw; go_split_ands; go_simp; try with_reducible rfl
          try simp only [Act.put, List.setIfInBounds_toArray, List.set_cons_zero, List.set_cons_succ]
          refine take_yes (i := 2) (v := ?_) rfl (by kernel_rfl) (by kernel_rfl) (by kernel_rfl) (fun _ _ _ h => h) (by kernel_rfl) hHeld ?_ ?_
          rotate_left
          · intro w hSw; go_split_ands; go_simp; try with_reducible rfl
          try simp only [Act.put, List.setIfInBounds_toArray, List.set_cons_zero, List.set_cons_succ]
          refine take_yes (i := 3) (v := ?_) rfl (by kernel_rfl) (by kernel_rfl) (by kernel_rfl) (fun _ _ _ h => h) (by kernel_rfl) hHeld ?_ ?_
          rotate_left
          · intro w hSw; go_split_ands; go_simp; try with_reducible rfl
          try simp only [Act.put, List.setIfInBounds_toArray, List.set_cons_zero, List.set_cons_succ]
          refine take_yes (i := 4) (v := ?_) rfl (by kernel_rfl) (by kernel_rfl) (by kernel_rfl) (fun _ _ _ h => h) (by kernel_rfl) hHeld ?_ ?_
          rotate_left
          · intro w hSw; go_split_ands; go_simp; try with_reducible rfl
          try simp only [Act.put, List.setIfInBounds_toArray, List.set_cons_zero, List.set_cons_succ]
          refine take_yes (i := 5) (v := ?_) rfl (by kernel_rfl) (by kernel_rfl) (by kernel_rfl) (fun _ _ _ h => h) (by kernel_rfl) hHeld ?_ ?_
          rotate_left
          · intro w hSw; go_split_ands; go_simp; try with_reducible rfl
          try simp only [Act.put, List.setIfInBounds_toArray, List.set_cons_zero, List.set_cons_succ]
          refine take_yes (i := 6) (v := ?_) rfl (by kernel_rfl) (by kernel_rfl) (by kernel_rfl) (fun _ _ _ h => h) (by kernel_rfl) hHeld ?_ ?_
          rotate_left
          · intro w hSw; go_split_ands; go_simp; try with_reducible rfl
          try simp only [Act.put, List.setIfInBounds_toArray, List.set_cons_zero, List.set_cons_succ]
          refine take_yes (i := 7) (v := ?_) rfl (by kernel_rfl) (by kernel_rfl) (by kernel_rfl) (fun _ _ _ h => h) (by kernel_rfl) hHeld ?_ ?_
          rotate_left
          · intro w hSw; go_split_ands; go_simp; try with_reducible rfl
          try simp only [Act.put, List.setIfInBounds_toArray, List.set_cons_zero, List.set_cons_succ]
          refine take_yes (i := 8) (v := ?_) rfl (by kernel_rfl) (by kernel_rfl) (by kernel_rfl) (fun _ _ _ h => h) (by kernel_rfl) hHeld ?_ ?_
          rotate_left
          · intro w hSw; go_split_ands; go_simp; try with_reducible rfl
          try simp only [Act.put, List.setIfInBounds_toArray, List.set_cons_zero, List.set_cons_succ]
          refine take_yes (i := 9) (v := ?_) rfl (by kernel_rfl) (by kernel_rfl) (by kernel_rfl) (fun _ _ _ h => h) (by kernel_rfl) hHeld ?_ ?_
          rotate_left
          · intro w hSw; go_split_ands; go_simp; try with_reducible rfl
          try simp only [Act.put, List.setIfInBounds_toArray, List.set_cons_zero, List.set_cons_succ]
          refine take_yes (i := 10) (v := ?_) rfl (by kernel_rfl) (by kernel_rfl) (by kernel_rfl) (fun _ _ _ h => h) (by kernel_rfl) hHeld ?_ ?_
          rotate_left
          · intro w hSw; go_split_ands; go_simp; try with_reducible rfl
          try simp only [Act.put, List.setIfInBounds_toArray, List.set_cons_zero, List.set_cons_succ]
          refine take_yes (i := 11) (v := ?_) rfl (by kernel_rfl) (by kernel_rfl) (by kernel_rfl) (fun _ _ _ h => h) (by kernel_rfl) hHeld ?_ ?_
          rotate_left
          · intro w hSw; go_split_ands; go_simp; try with_reducible rfl
          try simp only [Act.put, List.setIfInBounds_toArray, List.set_cons_zero, List.set_cons_succ]
          refine take_yes (i := 12) (v := ?_) rfl (by kernel_rfl) (by kernel_rfl) (by kernel_rfl) (fun _ _ _ h => h) (by kernel_rfl) hHeld ?_ ?_
          rotate_left
          · intro w hSw; go_split_ands; go_simp; try with_reducible rfl
          try simp only [Act.put, List.setIfInBounds_toArray, List.set_cons_zero, List.set_cons_succ]
          refine take_yes (i := 13) (v := ?_) rfl (by kernel_rfl) (by kernel_rfl) (by kernel_rfl) (fun _ _ _ h => h) (by kernel_rfl) hHeld ?_ ?_
          rotate_left
          · intro w hSw; go_split_ands; go_simp; try with_reducible rfl
          try simp only [Act.put, List.setIfInBounds_toArray, List.set_cons_zero, List.set_cons_succ]
          refine take_yes (i := 14) (v := ?_) rfl (by kernel_rfl) (by kernel_rfl) (by kernel_rfl) (fun _ _ _ h => h) (by kernel_rfl) hHeld ?_ ?_
          rotate_left
          · intro w hSw; go_split_ands; go_simp; try with_reducible rfl
          try simp only [Act.put, List.setIfInBounds_toArray, List.set_cons_zero, List.set_cons_succ]
          refine take_yes (i := 15) (v := ?_) rfl (by kernel_rfl) (by kernel_rfl) (by kernel_rfl) (fun _ _ _ h => h) (by kernel_rfl) hHeld ?_ ?_
          rotate_left
          · intro w hSw; go_split_ands; go_simp; try with_reducible rfl
          try simp only [Act.put, List.setIfInBounds_toArray, List.set_cons_zero, List.set_cons_succ]
          refine take_yes (i := 16) (v := ?_) rfl (by kernel_rfl) (by kernel_rfl) (by kernel_rfl) (fun _ _ _ h => h) (by kernel_rfl) hHeld ?_ ?_
          rotate_left
          · intro w hSw; go_split_ands; go_simp; try with_reducible rfl
          try simp only [Act.put, List.setIfInBounds_toArray, List.set_cons_zero, List.set_cons_succ]
          refine take_yes (i := 17) (v := ?_) rfl (by kernel_rfl) (by kernel_rfl) (by kernel_rfl) (fun _ _ _ h => h) (by kernel_rfl) hHeld ?_ ?_
          rotate_left
          · intro w hSw; go_split_ands; go_simp; try with_reducible rfl
          try simp only [Act.put, List.setIfInBounds_toArray, List.set_cons_zero, List.set_cons_succ]
          refine take_yes (i := 18) (v := ?_) rfl (by kernel_rfl) (by kernel_rfl) (by kernel_rfl) (fun _ _ _ h => h) (by kernel_rfl) hHeld ?_ ?_
          rotate_left
          · intro w hSw; go_split_ands; go_simp; try with_reducible rfl
          try simp only [Act.put, List.setIfInBounds_toArray, List.set_cons_zero, List.set_cons_succ]
          refine take_two (i := 0) (j := 19) rfl rfl (by kernel_rfl) (fun K hK => ?_) (fun K hK => ?_)
          · skip
            go_simp
            refine hK.out _ _ ⟨ri, rk, dik, dki⟩ (fun hHeld => ?_)
            clear hK K
            try simp only [Act.put, List.setIfInBounds_toArray, List.set_cons_zero, List.set_cons_succ]
            refine take_loud (i := 19) rfl (by kernel_rfl) (fun K hK => ?_)
            go_simp
            refine hK.out _ _ HS0.out (fun hHeld => ?_)
            clear hK K
            try simp only [Act.put, List.setIfInBounds_toArray, List.set_cons_zero, List.set_cons_succ]
            refine take_loud (i := 20) rfl (by kernel_rfl) (fun K hK => ?_)
            refine step_append_lies _ rfl _ _ 163 rfl (B + 1) 165 ty (.agg #[.int .i64 0, .int .i64 0, .int .i64 0]) 3 24 hty hinf hz0 hz1 hz2 hz3 hz4 vl _ _ rfl (by exact (hol.alloc _).drew) ⟨wr.heap.size, 0, none⟩ 1 1 (enc3 ((i : Int), (k : Int), dM A i k)) (by rfl) rfl (cell3_new wr _ _ _ _ _ rfl) (enc3_one _) (by omega) (by unfold maxLen; omega) (by omega) (by simp; omega) (wr.heap.size + 1) (by simp) ?_
            intro g c' w5 h5 h6 h7 h8
            have hbox5 := ((HHL.out.2.2.2.alloc (.cells (enc3 ((i : Int), (k : Int), dM A i k)).toArray 165)).drew).kept h6 (Or.inr (fun hq => by have := (HHL.out.2.1.lt B hq.symm).1; omega))
            have hbx5 : w5.cell? ⟨B, 0, none⟩ = some vl := (by rw [hbox5.cellAt 0 (by omega)]; rfl)
            have hfx5 := hbox5.frozenAt 0
            have HB5 := Lib.hid (HKEEP.out _ (HLB.out _ _ _ h5 h6 h7).1)
            have HB6 := Lib.hid (HKEEP.out _ (HLB.out _ _ _ h5 h6 h7).2)
            rw [List.length_append] at HB6
            refine hK.out _ _ HB5.out (fun hHeld => ?_)
            clear hK K
            try simp only [Act.put, List.setIfInBounds_toArray, List.set_cons_zero, List.set_cons_succ]
            refine take_loud (i := 21) rfl (by kernel_rfl) (fun K hK => ?_)
            go_simp
            refine hK.out _ _ HB6.out (fun hHeld => ?_)
            clear hK K
            try simp only [Act.put, List.setIfInBounds_toArray, List.set_cons_zero, List.set_cons_succ]
            refine wpAnyH_done (by kernel_rfl) ?_ _
            obtain ⟨HLR, HZR, HBR⟩ := HLD.out _ _ _ h5 h6 h7
            simp only [List.length_append] at HLR HZR HBR
            clear h5 h6 h7 h8 hbox5 hbx5 hfx5 hbox2 hbox hol hmn ri rk dik dki hfz HL HZ hb HLD HLB HHL hsz hlen HRS HS0 HB5 HB6
            go_wp2
            exact ⟨⟨k + 1, _, by omega, by go_num, HLR, HZR, HBR.out⟩, by simp [intOf]; omega⟩
          · skip
            go_simp
            refine hK.out _ _ HS0.out (fun hHeld => ?_)
            clear hK K
            try simp only [Act.put, List.setIfInBounds_toArray, List.set_cons_zero, List.set_cons_succ]
            refine take_loud (i := 0) rfl (by kernel_rfl) (fun K hK => ?_)
            go_simp
            refine hK.out _ _ HS0.out (fun hHeld => ?_)
            clear hK K
            try simp only [Act.put, List.setIfInBounds_toArray, List.set_cons_zero, List.set_cons_succ]
            refine take_loud (i := 20) rfl (by kernel_rfl) (fun K hK => ?_)
            refine step_append_lies _ rfl _ _ 163 rfl (B + 1) 165 ty (.agg #[.int .i64 0, .int .i64 0, .int .i64 0]) 3 24 hty hinf hz0 hz1 hz2 hz3 hz4 vl _ _ rfl (by exact (hol.alloc _).drew) ⟨wr.heap.size, 0, none⟩ 1 1 (enc3 ((i : Int), (k : Int), dM A i k)) (by rfl) rfl (cell3_new wr _ _ _ _ _ rfl) (enc3_one _) (by omega) (by unfold maxLen; omega) (by omega) (by simp; omega) (wr.heap.size + 1) (by simp) ?_
            intro g c' w5 h5 h6 h7 h8
            have hbox5 := ((HHL.out.2.2.2.alloc (.cells (enc3 ((i : Int), (k : Int), dM A i k)).toArray 165)).drew).kept h6 (Or.inr (fun hq => by have := (HHL.out.2.1.lt B hq.symm).1; omega))
            have hbx5 : w5.cell? ⟨B, 0, none⟩ = some vl := (by rw [hbox5.cellAt 0 (by omega)]; rfl)
            have hfx5 := hbox5.frozenAt 0
            have HB5 := Lib.hid (HKEEP.out _ (HLB.out _ _ _ h5 h6 h7).1)
            have HB6 := Lib.hid (HKEEP.out _ (HLB.out _ _ _ h5 h6 h7).2)
            rw [List.length_append] at HB6
            refine hK.out _ _ HB5.out (fun hHeld => ?_)
            clear hK K
            try simp only [Act.put, List.setIfInBounds_toArray, List.set_cons_zero, List.set_cons_succ]
            refine take_loud (i := 21) rfl (by kernel_rfl) (fun K hK => ?_)
            go_simp
            refine hK.out _ _ HB6.out (fun hHeld => ?_)
            clear hK K
            try simp only [Act.put, List.setIfInBounds_toArray, List.set_cons_zero, List.set_cons_succ]
            refine wpAnyH_done (by kernel_rfl) ?_ _
            obtain ⟨HLR, HZR, HBR⟩ := HLD.out _ _ _ h5 h6 h7
            simp only [List.length_append] at HLR HZR HBR
            clear h5 h6 h7 h8 hbox5 hbx5 hfx5 hbox2 hbox hol hmn ri rk dik dki hfz HL HZ hb HLD HLB HHL hsz hlen HRS HS0 HB5 HB6
            go_wp2
            exact ⟨⟨k + 1, _, by omega, by go_num, HLR, HZR, HBR.out⟩, by simp [intOf]; omega⟩
        · obtain rfl : k = i := by omega
          have HL2 : Hid (Laid wr B v' vl (k + 1) (roadsR A (k + 1))) := HL
          go_wp2
          exact ⟨⟨k + 1, v', vl, rfl, by omega, by go_num, HL2, HZ, hb⟩, by simp [intOf]; omega⟩
    · obtain rfl : i = A.length := by omega
      have hbox := HL.out.cell
      obtain ⟨al, cl, rfl, hel, _⟩ := elems_of_owns (enc := enc3) (fun _ => rfl) rfl HL.out.2.1
      have HSR : Hid (∀ r, SrtF (ltf (fR (roadsR A A.length))) 0 (roadsR A A.length).length r → OkF 0 (roadsR A A.length).length idF r → RoadsOk A (sortedR (roadsR A A.length) r)) := Lib.hid (fun r h1 h2 => sorted_roads h1 h2)
      have hll : (roadsR A A.length).length ≤ 100 := by
        have h1 := roadsR_len A A.length
        have h2 : A.length * A.length ≤ 9 * 9 := Nat.mul_le_mul (by omega) (by omega)
        omega
      have HRM : Hid (∀ x ∈ roadsR A A.length, ∃ i k : Nat, k < i ∧ i < A.length ∧ x = ((i : Int), (k : Int), dM A i k)) := Lib.hid (fun x h => (roadsR_mem A _ x).1 h)
      obtain ⟨l, hle⟩ : ∃ l, l = roadsR A A.length := ⟨_, rfl⟩
      rw [← hle] at HL hel HSR hll hbox HRM
      clear hle
      have habv : AbvOk 92 #[.pointer (some ⟨B, 0, none⟩)] (ltf (fR l)) l.length wr.heap.size wr := by
        intro w' hw' x y x0 x1 y0 y1
        exact roadFn_any al l.length cl B l x y w' rfl (hel.at hw') ((hw'.cell (lt_of_cell hbox)).trans hbox) x0 x1 y0 y1
      have HI := Lib.hid (insert_own 92 #[.pointer (some ⟨B, 0, none⟩)] (ltf (fR l)) l.length wr eg_tree1 habv (swkR l) (by omega))
      clear habv
      go_wp2_with fail
      refine HI.out.mono ?_
      rintro e w5 ⟨ar, cr, r, rfl, her, hsr, hor, hpr, hb5⟩
      have HRO := Lib.hid (HSR.out r hsr hor)
      have hb05 := below_next hb hb5
      have hof5 := owns_at HL.out.1 hb5
      have hbox5 := (hb5.cell (lt_of_cell hbox)).trans hbox
      have hel5 := hel.at hb5
      have HRV : Hid (∀ t, t < l.length → ∃ j : Nat, j < l.length ∧ r t = (j : Int)) := Lib.hid (fun t ht => by
        obtain ⟨s, _, h2, h3⟩ := hor.val (Nat.zero_le t) ht
        exact ⟨s, h2, h3⟩)
      have HAR : Hid (∀ p : Addr, ar = some p → wr.heap.size ≤ p.block) := Lib.hid hpr
      obtain ⟨ao, co, rfl, _, hco⟩ := ints_of_owns (tab_len _ _).symm hof5
      rw [tab_len]
      have HAP : Hid (Apart (.slice al l.length cl) (.slice ao A.length co)) := Lib.hid (by have := HL.out.2.2.1; rwa [tab_len] at this)
      have HOL : Hid (∀ p : Addr, ao = some p → p.block < wr.heap.size ∧ B + 1 ≤ p.block) := Lib.hid (fun p hp => by
        have := HL.out.1.lt p.block (by rw [hp]; rfl)
        exact ⟨this.2, this.1⟩)
      rw [tab_len] at hof5
      have HTB := Lib.hid hb05
      have HEL := Lib.hid hel5
      have HER := Lib.hid her
      have HBX := Lib.hid hbox5
      clear hsr hor hb HI hbox hel hb5 hpr HL hb05 hel5 her hbox5
      have hst0 : Hid (0 + kruskal ((sortedR l r).drop 0) (fun x => x) = kruskal (sortedR l r) (fun x => x)) := Lib.hid (by simp)
      go_wp2
      go_loopw [7, 54] (fun sv qv wr => ∃ (q : Nat) (F : Nat → Nat) (sum : Int), q ≤ l.length ∧ qv = .int .i64 q ∧ sv = .int .i64 sum ∧ wr.ownsRow (B + 1) 3 1 (.slice ao A.length co) A.length (rowV A.length fun t => (F t : Int)) ∧ Hid (sum + kruskal ((sortedR l r).drop q) F = kruskal (sortedR l r) (fun x => x)) ∧ 0 ≤ sum ∧ sum ≤ q * 1000000000 ∧ Hid (∀ p : Addr, ao = some p → w5.grownBy wr (some p.block)) ∧ Hid (Below w.heap.size w wr)) (fun _ qv _ => l.length - (intOf qv).toNat)
      case atStart => exact ⟨0, fun x => x, 0, by omega, rfl, rfl, hof5, hst0, by omega, by omega, Lib.hid (fun p _ => grown_rf _ _), HTB⟩
      case round =>
        clear hof5 hst0
        obtain ⟨q, F, sum, hq, rfl, rfl, hof, HK, hs0, hs1, HGR, HTW⟩ := hrel
        by_cases hql : q < l.length
        · obtain ⟨j, hj, hrj⟩ := HRV.out q hql
          obtain ⟨i, k, hki, hin2, hlx⟩ := HRM.out _ (List.getElem_mem hj)
          have hA0 : 0 < A.length := by omega
          obtain ⟨g, hga⟩ := own_place hof hA0
          have hgr := HGR.out _ hga
          simp only at hgr
          have hneL : ∀ p : Addr, al = some p → p.block ≠ g := fun p hp hpg => by
            rcases HAP.out with h1 | h1
            · rw [hga] at h1; cases h1
            · apply h1
              rw [hga, hp, ← hpg]; rfl
          have hneR : ∀ p : Addr, ar = some p → p.block ≠ g := fun p hp hpg => by
            have h1 := HAR.out p hp
            have h2 := (HOL.out _ hga).1
            simp only at h2
            omega
          have hBg : B ≠ g := by
            have h2 := (HOL.out _ hga).2
            simp only at h2
            omega
          have hbx := (hgr.cell_far ⟨B, 0, none⟩ (lt_of_cell HBX.out) (by simp; exact hBg)).trans HBX.out
          have hel := elems_grown HEL.out hgr hneL
          have her := elems_grown HER.out hgr hneR
          obtain ⟨b1, o1, rfl, hc1⟩ := her.some (j := q) (by rw [tab_len]; exact hql)
          have g1 := hc1 q (by rw [tab_len]; exact hql) 0 _ rfl
          rw [tab_get, hrj] at g1
          simp only [Nat.add_zero, Nat.mul_one] at g1
          obtain ⟨b2, o2, rfl, hc2⟩ := hel.some hj
          have x1 := hc2 j hj 0 _ rfl
          have x2 := hc2 j hj 1 _ rfl
          have x3 := hc2 j hj 2 _ rfl
          rw [hlx] at x1 x2 x3
          simp only [Nat.add_zero] at x1
          subst hga
          have y1 := owns_at_tab hof (j := i) hin2
          have y2 := owns_at_tab hof (j := k) (by omega)
          have hbd := dM_bd HA.out hin2 (show k < A.length by omega)
          have hkA : k < A.length := by omega
          have HST : Hid ((sortedR l r).drop q = (i, k, dM A i k) :: (sortedR l r).drop (q + 1)) := Lib.hid (by
            have hlen : q < (sortedR l r).length := by simp [sortedR]; exact hql
            rw [List.drop_eq_getElem_cons hlen]
            congr 1
            rw [sortedR_get]
            unfold roadT
            rw [hrj, Int.toNat_natCast]
            have : l.getD j (0, 0, 0) = ((i : Int), (k : Int), dM A i k) := by rw [← hlx]; simp [List.getD, hj]
            rw [this]
            simp)
          have HK2 : Hid (sum + (if F i = F k then kruskal ((sortedR l r).drop (q + 1)) F else dM A i k + kruskal ((sortedR l r).drop (q + 1)) (mergeF F i k)) = kruskal (sortedR l r) (fun x => x)) := Lib.hid (by
            have h := HK.out
            rw [HST.out] at h
            exact h)
          obtain ⟨hbd0, hbd1⟩ := hbd
          clear hc1 hc2 hlx hrj hel her hneL hneR HK
          generalize dM A i k = dv at *
          by_cases hF : F i = F k
          · have HK3 : Hid (sum + kruskal ((sortedR l r).drop (q + 1)) F = kruskal (sortedR l r) (fun x => x)) := Lib.hid (by have h := HK2.out; rwa [if_pos hF] at h)
            rw [hF] at y1
            have hdd : ((F k : Int) == (F k : Int)) = true := by simp
            clear hF HK2
            generalize F k = fk at *
            go_wp2
            go_quiet (fail)
            go_wp2
            exact ⟨⟨q + 1, F, sum, by omega, by go_num, rfl, hof, HK3, by omega, by push_cast; omega, Lib.hid (fun p hp => grown_dr (HGR.out p hp) _), Lib.hid (below_drewN' HTW.out _)⟩, by simp [intOf]; omega⟩
          · have hdd : ((F i : Int) == (F k : Int)) = false := beq_eq_false_iff_ne.2 (by omega)
            have HK3 : Hid (sum + dv + kruskal ((sortedR l r).drop (q + 1)) (mergeF F i k) = kruskal (sortedR l r) (fun x => x)) := Lib.hid (by have h := HK2.out; rw [if_neg hF] at h; omega)
            have HF := Lib.hid hF
            have HGG : Hid (w5.grownBy wr (some g)) := Lib.hid hgr
            have hof0 : wr.ownsRow (B + 1) 3 1 (.slice (some ⟨g, 0, none⟩) A.length co) A.length (rowV A.length fun t => ((if t < 0 then mergeF F i k t else F t : Nat) : Int)) := by
              rw [row_same (r' := fun t => (F t : Int)) (fun t _ => by simp)]
              exact hof
            obtain ⟨fi, hfi⟩ : ∃ fi, fi = F i := ⟨_, rfl⟩
            obtain ⟨fk, hfk⟩ : ∃ fk, fk = F k := ⟨_, rfl⟩
            rw [← hfi, ← hfk] at hdd
            rw [← hfi] at y1
            rw [← hfk] at y2
            have HFI := Lib.hid (And.intro hfi hfk)
            have hgB : w.heap.size ≤ g := by
              have h2 := (HOL.out _ rfl).2
              simp only at h2
              have h3 := HB.out
              omega
            have HGB := Lib.hid hgB
            have hsd : sum + dv ≤ 200000000000 := by omega
            clear hF HK2 hof hgr hfi hfk hgB
            obtain ⟨wo, hwo⟩ : ∃ wo : World, wo = wr := ⟨_, rfl⟩
            subst hwo
            go_wp2
            go_quiet (fail)
            have HOF0 := Lib.hid hof0
            clear hof0
            go_wp2
            go_loopw [86] (fun cv wr => ∃ c : Nat, c ≤ A.length ∧ cv = .int .i64 c ∧ wr.ownsRow (B + 1) 3 1 (.slice (some ⟨g, 0, none⟩) A.length co) A.length (rowV A.length fun t => ((if t < c then mergeF F i k t else F t : Nat) : Int)) ∧ Hid (w5.grownBy wr (some g)) ∧ Hid (Below w.heap.size w wr)) (fun cv _ => A.length - (intOf cv).toNat)
            case atStart => exact ⟨0, by omega, rfl, HOF0.out, Lib.hid (grown_dr HGG.out _), Lib.hid (below_drewN' HTW.out _)⟩
            case round =>
              clear HOF0 HGG HTW y1 y2 x1 x2 x3 hbx g1
              obtain ⟨c, hc, rfl, hof, HGG, HTW⟩ := hrel
              by_cases hcn : c < A.length
              · have z1 := owns_at_tab hof (j := c) hcn
                rw [if_neg (Nat.lt_irrefl c)] at z1
                have hfz := hof.frozenAt c
                by_cases hca : F c = fi
                · have hd2 : ((F c : Int) == (fi : Int)) = true := by simp [hca]
                  have hset := owns_set hof c (fk : Int)
                  rw [tab_set] at hset
                  have hset2 : (wr.setCell ⟨g, c, none⟩ (.int .i64 fk)).ownsRow (B + 1) 3 1 (.slice (some ⟨g, 0, none⟩) A.length co) A.length (rowV A.length fun t => ((if t < c + 1 then mergeF F i k t else F t : Nat) : Int)) := by
                    rw [row_same (r' := fun t => if t = c then (fk : Int) else ((if t < c then mergeF F i k t else F t : Nat) : Int)) (fun t _ => by
                      by_cases h1 : t = c
                      · subst h1
                        rw [if_pos (Nat.lt_succ_self _), if_pos rfl]
                        unfold mergeF
                        rw [if_pos (by rw [hca, HFI.out.1]), HFI.out.2]
                      · rw [if_neg h1]
                        by_cases h2 : t < c
                        · rw [if_pos h2, if_pos (by omega)]
                        · rw [if_neg h2, if_neg (by omega)])]
                    exact hset
                  have hgs := (hof.stored c (.int .i64 (fk : Int))).2
                  have HG2 : Hid (w5.grownBy (wr.setCell ⟨g, c, none⟩ (.int .i64 fk)) (some g)) := Lib.hid (grown_nx HGG.out hgs)
                  have HT2 : Hid (Below w.heap.size w (wr.setCell ⟨g, c, none⟩ (.int .i64 fk))) := Lib.hid (HTW.out.setCell (p := ⟨g, c, none⟩) HGB.out _)
                  have HS2 := Lib.hid hset2
                  rw [hca] at z1
                  clear hof hset hset2 hgs hca hd2
                  have hd3 : ((fi : Int) == (fi : Int)) = true := by simp
                  go_wp2
                  exact ⟨⟨c + 1, by omega, by go_num, HS2.out, HG2, HT2⟩, by simp [intOf]; omega⟩
                · have hd2 : ((F c : Int) == (fi : Int)) = false := beq_eq_false_iff_ne.2 (by omega)
                  have hset2 : wr.ownsRow (B + 1) 3 1 (.slice (some ⟨g, 0, none⟩) A.length co) A.length (rowV A.length fun t => ((if t < c + 1 then mergeF F i k t else F t : Nat) : Int)) := by
                    rw [row_same (r' := fun t => ((if t < c then mergeF F i k t else F t : Nat) : Int)) (fun t _ => by
                      by_cases h1 : t = c
                      · subst h1
                        rw [if_pos (Nat.lt_succ_self _), if_neg (Nat.lt_irrefl _)]
                        unfold mergeF
                        rw [if_neg (by rw [← HFI.out.1]; exact hca)]
                      · by_cases h2 : t < c
                        · rw [if_pos h2, if_pos (by omega)]
                        · rw [if_neg h2, if_neg (by omega)])]
                    exact hof
                  have HS2 := Lib.hid hset2
                  clear hof hset2 hca
                  generalize F c = fc at *
                  go_wp2
                  exact ⟨⟨c + 1, by omega, by go_num, HS2.out, HGG, HTW⟩, by simp [intOf]; omega⟩
              · obtain rfl : c = A.length := by omega
                have hfin : wr.ownsRow (B + 1) 3 1 (.slice (some ⟨g, 0, none⟩) A.length co) A.length (rowV A.length fun t => (mergeF F i k t : Int)) := by
                  rw [row_same (r' := fun t => ((if t < A.length then mergeF F i k t else F t : Nat) : Int)) (fun t ht => by rw [if_pos ht])]
                  exact hof
                have HFN := Lib.hid hfin
                clear hof hfin
                go_wp2
                exact ⟨⟨q + 1, mergeF F i k, sum + dv, by omega, by go_num, rfl, HFN.out, HK3, by omega, by push_cast; omega, Lib.hid (fun p hp => by cases hp; exact HGG.out), HTW⟩, by simp [intOf]; omega⟩
        · obtain rfl : q = l.length := by omega
          have HE : Hid (sum = kruskal (sortedR l r) (fun x => x)) := Lib.hid (by
            have h := HK.out
            rw [List.drop_of_length_le (by simp [sortedR])] at h
            simpa [kruskal] using h)
          go_wp2
          go_ret
          unfold RefTreePost
          exact ⟨sum, _, rfl, HRO.out, HE.out, HTW.out⟩
end Go.Proofs.YtfaklhkdfpfjgaaDoor
