/- depot.Do does what doneM says (printed by gen_do.py). -/
import Derived.Test.YtannijeiecmjpaaGreatDoorRows
import Derived.Test.YtannijeiecmjpaaGreatDoorStepD
import Derived.Test.YtannijeiecmjpaaGreatDoorMayD
import Derived.Deep.DeepCutAuto
namespace Go.Proofs.YtannijeiecmjpaaGreatDoor
open Go.RowKit Go.WideMaps Go.Maps

theorem mkMap (w : World) : (Instr.makeMap 24 none).run Tryz.prog w = .ok (.map (some w.heap.size)) (w.alloc (.map #[] 0)) := by kernel_rfl
def DepDoPost (base bd : Nat) (mv jv : Value) (L : List MoveD) (m : MoveD) (w : World) (e : Ending) (w' : World) : Prop :=
  e = .returned (errV (doErr L m)) ∧ ∃ mv' jv', DepAt base bd mv' jv' (doneM L m) w' ∧ FrS (depBlocks bd mv jv) w w'
theorem depDo_none {base bd : Nat} {mv jv : Value} {L : List MoveD} {m : MoveD} {w w' : World} (H : DepAt base bd mv jv L w) (hd : doErr L m ≠ 0) (hb : Below w.heap.size w w') : DepDoPost base bd mv jv L m w (.returned (errV (doErr L m))) w' := by
  refine ⟨rfl, mv, jv, ?_, FrS.of_below hb⟩
  unfold doneM
  rw [if_neg hd]
  exact H.at hb
theorem doErr_zero {L : List MoveD} {s : Byt} {mu : Int} (h : doErr L (s, mu) = 0) : s.length ≤ 12 ∧ -1000000 ≤ mu ∧ mu ≤ 1000000 ∧ 0 ≤ haveM L s + mu ∧ L.length < 500 ∧ (∀ M, MovesOk M → MovesOk (M ++ [(s, mu)])) := by
  unfold doErr at h
  by_cases h1 : nameOk s = false
  · rw [if_pos h1] at h; omega
  rw [if_neg h1] at h
  by_cases h2 : mu = 0 ∨ mu < -1000000 ∨ 1000000 < mu
  · rw [if_pos h2] at h; omega
  rw [if_neg h2] at h
  by_cases h3 : haveM L s + mu < 0
  · rw [if_pos h3] at h; omega
  rw [if_neg h3] at h
  by_cases h4 : 500 ≤ L.length
  · rw [if_pos h4] at h; omega
  have h5 : nameOk s = true := by simpa using h1
  have h6 := h5
  unfold nameOk at h6
  simp only [Bool.and_eq_true, decide_eq_true_eq] at h6
  refine ⟨h6.1.2, by omega, by omega, by omega, by omega, fun M hM x hx => ?_⟩
  rcases List.mem_append.1 hx with hx | hx
  · exact hM x hx
  · obtain rfl : x = (s, mu) := by simpa using hx
    exact ⟨h5, by omega, by omega, by omega⟩
theorem dep_fin {base bd bm : Nat} {mv jv v5 : Value} {L : List MoveD} {m : MoveD} {w wZ : World} (P : DepP base bd (.map (some bm)) v5 (L ++ [m]) (L ++ [m]) (L.length + 1) wZ) (hE : doErr L m = 0) (hok : MovesOk (L ++ [m])) (hF : FrS (fun k => depBlocks bd mv jv k ∨ w.heap.size ≤ k) w wZ) : DepDoPost base bd mv jv L m w (.returned .nilIface) wZ := by
  refine ⟨by rw [hE]; rfl, .map (some bm), v5, ?_, hF.mono (fun k hk h => h.elim (fun h => h) (fun h => absurd hk (by omega)))⟩
  unfold doneM
  rw [if_pos hE]
  have hl : (L ++ [m]).length = L.length + 1 := by simp
  rw [← hl] at P
  exact P.whole hok
theorem eqNil (q : Option Nat) (w : World) : (binOp .eql 24 (.map q) (.map none)).run Tryz.prog w = .ok (.bool (decide (q = none))) w := by
  cases q <;> kernel_rfl
set_option maxRecDepth 100000 in
set_option maxHeartbeats 16000000 in
theorem depDo_any {base bd lo : Nat} {mv jv : Value} {L : List MoveD} (m : MoveD) {w : World} (hL : L.length ≤ 500) (hm : m.1.length ≤ 9223372036854775807) (m0 : -9223372036854775808 ≤ m.2) (m1 : m.2 ≤ 9223372036854775807) (hp : ∀ w', Below lo w w' → PowAt w') (hlo : lo ≤ bd) (hbase : base ≤ w.heap.size) (hbd : bd < base) (H : DepAt base bd mv jv L w) :
    Calls Tryz.prog 5 #[.pointer (some ⟨bd, 0, none⟩), .agg #[strV m.1, .int .i64 m.2]] w (DepDoPost base bd mv jv L m w) := by
  obtain ⟨s, mu⟩ := m
  simp only at hm m0 m1
  have hb0 : Below w.heap.size w (w.alloc (.cells #[strV s, .int .i64 mu] 36)) := (Below.refl _ _).alloc (Nat.le_refl _) _
  have HM := Lib.hid (may_any (s, mu) (w := w.alloc (.cells #[strV s, .int .i64 mu] 36)) hL hm m0 m1 (H.at hb0))
  have a0 : (w.alloc (.cells #[strV s, .int .i64 mu] 36)).cell? ⟨w.heap.size, 0, none⟩ = some (strV s) := by simp
  have a1 : (w.alloc (.cells #[strV s, .int .i64 mu] 36)).cell? ⟨w.heap.size, 1, none⟩ = some (.int .i64 mu) := by simp
  obtain ⟨W, hW⟩ : ∃ W, W = w.alloc (.cells #[strV s, .int .i64 mu] 36) := ⟨_, rfl⟩
  obtain ⟨B, hB⟩ : ∃ B, B = w.heap.size := ⟨_, rfl⟩
  rw [← hW] at HM hb0 a0 a1
  rw [← hB] at a0 a1
  have HNO := Lib.hid (fun hd : doErr L (s, mu) ≠ 0 => fun w' (hb : Below w.heap.size w w') => depDo_none H hd hb)
  have HB0 := Lib.hid hb0
  have HW := Lib.hid hW
  have HB := Lib.hid hB
  have HH := Lib.hid H
  have HP := Lib.hid hp
  clear hb0 H hp
  by_cases hE : doErr L (s, mu) = 0
  case neg =>
    obtain ⟨E, hEE⟩ : ∃ E, E = doErr L (s, mu) := ⟨_, rfl⟩
    rw [← hEE] at HM HNO hE
    have hv : errV E = .iface 37 (.int .i64 E) := if_neg hE
    have HN := Lib.hid (HNO.out hE)
    have HE := Lib.hid hEE
    rw [hv] at HM HN
    clear hE hEE hv HNO
    go_enter Tryz.func5, Tryz.ntmps5
    go_wp2_with fail
    rw [← hW]
    clear hW hB
    refine HM.out.mono ?_
    rintro e w1 ⟨rfl, hb1⟩
    have HB1 := Lib.hid hb1
    clear hb1
    go_wp2
    go_ret
    exact HN.out _ (HB0.out.trans (HB1.out.mono HB0.out.size))
  have hv : errV (doErr L (s, mu)) = .nilIface := if_pos hE
  rw [hv] at HM
  obtain ⟨hs12, e1, e2, e3, e4, e5⟩ := doErr_zero hE
  have HOK := Lib.hid (e5 L HH.out.ok)
  have HE := Lib.hid hE
  clear hE hv e5 HNO
  obtain ⟨q, hq⟩ : ∃ q, q = haveM L s := ⟨_, rfl⟩
  have hbd2 := haveM_bound HH.out.ok s
  rw [← hq] at e3 hbd2
  have hwq : IntKind.i64.wrap (q + mu) = q + mu := IntWalk.i64_in _ (by omega)
  have hwn : IntKind.i64.wrap ((L.length : Int) + 1) = ((L.length + 1 : Nat) : Int) := by rw [IntWalk.i64_in _ (by omega)]; omega
  have HQ := Lib.hid hq
  clear hq
  rcases HH.out.have' with h2 | h2
  · obtain ⟨rfl, hLL⟩ := h2
    have HLL := Lib.hid hLL
    clear hLL
    go_enter Tryz.func5, Tryz.ntmps5
    go_wp2_with fail
    rw [← hW, ← hB]
    clear hW hB
    refine HM.out.mono ?_
    rintro e w1 ⟨rfl, hb1⟩
    have b0 := (hb1.cell (lt_of_cell a0)).trans a0
    have b1 := (hb1.cell (lt_of_cell a1)).trans a1
    have P1 := (HH.out.at (HB0.out.trans (hb1.mono HB0.out.size))).part
    have HB1 := Lib.hid (HB0.out.trans (hb1.mono HB0.out.size))
    have c0 := P1.c0
    have HP1 := Lib.hid P1
    clear P1 hb1 a0 a1
    have kb := eqNil none
    have kmk := mkMap w1
    have hbB : bd ≠ B := by have := HB.out; omega
    have c9 := (HP1.out.at ((Below.refl w1.heap.size w1).alloc (Nat.le_refl _) (.map #[] 0))).c0
    have f9 := (HP1.out.at ((Below.refl w1.heap.size w1).alloc (Nat.le_refl _) (.map #[] 0))).free 0
    go_wp2
    clear kb kmk c0 c9 f9
    obtain ⟨bm, hbm⟩ : ∃ bm, bm = w1.heap.size := ⟨_, rfl⟩
    obtain ⟨wX, hX⟩ : ∃ wX, wX = (w1.alloc (.map #[] 0)).setCell ⟨bd, 0, none⟩ (.map (some bm)) := ⟨_, rfl⟩
    have hPX : DepP base bd (.map (some bm)) jv L L L.length wX := by rw [hX, hbm]; exact HP1.out.made HLL.out (by have := HB1.out.size; omega)
    have hFX : FrS (fun k => depBlocks bd (.map none) jv k ∨ w.heap.size ≤ k) w wX := by
      rw [hX]
      refine ((FrS.of_below HB1.out).trans (FrS.of_below ((Below.refl _ _).alloc (Nat.le_refl _) (.map #[] 0)))).trans (FrS.of_grown (set_grown _ _ _) (fun k hk => ?_))
      rw [← Option.some.inj hk]
      exact Or.inl (Or.inl rfl)
    have hSbm : depBlocks bd (.map none) jv bm ∨ w.heap.size ≤ bm := Or.inr (by rw [hbm]; exact HB1.out.size)
    have x0 : wX.cell? ⟨B, 0, none⟩ = some (strV s) := by
      rw [hX, World.cell?_setCell_other _ _ _ _ (by simp)]
      exact (((Below.refl w1.heap.size w1).alloc (Nat.le_refl _) (.map #[] 0)).cell (lt_of_cell b0)).trans b0
    have x1 : wX.cell? ⟨B, 1, none⟩ = some (.int .i64 mu) := by
      rw [hX, World.cell?_setCell_other _ _ _ _ (by simp)]
      exact (((Below.refl w1.heap.size w1).alloc (Nat.le_refl _) (.map #[] 0)).cell (lt_of_cell b1)).trans b1
    rw [← hbm, ← hX]
    clear b0 b1 hbm hX
    have HPX := Lib.hid hPX
    clear hPX
    clear HP1
    have HFX := Lib.hid hFX
    have HSB := Lib.hid hSbm
    clear hSbm
    have x2 := HPX.out.c2
    have HBX : Hid (base ≤ wX.heap.size) := Lib.hid (by have := hFX.size; omega)
    have HPW : Hid (∀ w', FrS (fun k => depBlocks bd (.map none) jv k ∨ w.heap.size ≤ k) w w' → PowAt w') := Lib.hid (fun w' hf => HP.out w' (hf.below (by omega) (fun k hk => by
      rcases hk with (rfl | hk | hk) | hk
      · exact hlo
      · cases hk
      · have := (HH.out.jour.lt k hk).1; omega
      · omega)))
    have hjB : jv.ownBlock ≠ some B := fun e => by have := (HH.out.jour.lt B e).2; have := HB.out; omega
    have HKEY := Lib.hid (dep_key HPX.out hFX (Or.inl (Or.inl rfl)) (fun k hk => Or.inl (Or.inr (Or.inr hk))) hjB hbB x0 x1)
    have hjl : (journalM L).length ≤ 100 * L.length := by have h := journal_len HH.out.ok (by omega) L.length (Nat.le_refl _); rw [List.take_length] at h; exact h
    have hll := line_len L.length (s, mu) (by omega) hs12 e1 e2
    have hlz : (⟨(lineM L.length (s, mu)).toArray⟩ : ByteArray).size = (lineM L.length (s, mu)).length := by simp [ByteArray.size]
    have hsz : (⟨s.toArray⟩ : ByteArray).size = s.length := by simp [ByteArray.size]
    have c1 := HPX.out.c1
    go_cut [] (fun wx => ∃ v5, DepP base bd (.map (some bm)) v5 L (L ++ [(s, mu)]) L.length wx ∧ wx.cell? ⟨B, 0, none⟩ = some (strV s) ∧ wx.cell? ⟨B, 1, none⟩ = some (.int .i64 mu) ∧ FrS (fun k => depBlocks bd (.map none) jv k ∨ w.heap.size ≤ k) w wx)
    case first =>
      refine wp_region_held_drew (S := fun w' => w'.cell? ⟨B, 0, none⟩ = some (strV s) ∧ w'.cell? ⟨B, 1, none⟩ = some (.int .i64 mu) ∧ w'.cell? ⟨bd, 2, none⟩ = some (.int .i64 L.length) ∧ FrS (fun k => depBlocks bd (.map none) jv k ∨ w.heap.size ≤ k) w w') (by kernel_rfl) ⟨x0, x1, x2, hFX.trans (FrS.of_below (below_drewN wX 1 _))⟩ (fun hHeld => ?_)
      refine take_yes (i := 0) (v := ?_) rfl (by kernel_rfl) (by kernel_rfl) (by kernel_rfl) (fun _ _ _ h => h) (by kernel_rfl) hHeld ?_ ?_
      rotate_left
      · intro w hSw; go_split_ands; go_simp; try with_reducible rfl
      try simp only [Act.put, List.setIfInBounds_toArray, List.set_cons_zero, List.set_cons_succ]
      refine take_yes (i := 1) (v := ?_) rfl (by kernel_rfl) (by kernel_rfl) (by kernel_rfl) (fun _ _ _ h => h) (by kernel_rfl) hHeld ?_ ?_
      rotate_left
      · intro w hSw; go_split_ands; go_simp; try with_reducible rfl
      try simp only [Act.put, List.setIfInBounds_toArray, List.set_cons_zero, List.set_cons_succ]
      refine take_yes (i := 2) (v := ?_) rfl (by kernel_rfl) (by kernel_rfl) (by kernel_rfl) (fun _ _ _ h => h) (by kernel_rfl) hHeld ?_ ?_
      rotate_left
      · intro w hSw; go_split_ands; go_simp; try with_reducible rfl
      try simp only [Act.put, List.setIfInBounds_toArray, List.set_cons_zero, List.set_cons_succ]
      refine take_yes (i := 3) (v := ?_) rfl (by kernel_rfl) (by kernel_rfl) (by kernel_rfl) (fun _ _ _ h => h) (by kernel_rfl) hHeld ?_ ?_
      rotate_left
      · intro w hSw; go_split_ands; go_simp; try with_reducible rfl
      try simp only [Act.put, List.setIfInBounds_toArray, List.set_cons_zero, List.set_cons_succ]
      refine take_yes (i := 5) (v := ?_) rfl (by kernel_rfl) (by kernel_rfl) (by kernel_rfl) (fun _ _ _ h => h) (by kernel_rfl) hHeld ?_ ?_
      rotate_left
      · intro w hSw; go_split_ands; go_simp; try with_reducible rfl
      try simp only [Act.put, List.setIfInBounds_toArray, List.set_cons_zero, List.set_cons_succ]
      refine take_yes (i := 6) (v := ?_) rfl (by kernel_rfl) (by kernel_rfl) (by kernel_rfl) (fun _ _ _ h => h) (by kernel_rfl) hHeld ?_ ?_
      rotate_left
      · intro w hSw; go_split_ands; go_simp; try with_reducible rfl
      try simp only [Act.put, List.setIfInBounds_toArray, List.set_cons_zero, List.set_cons_succ]
      refine take_yes (i := 7) (v := ?_) rfl (by kernel_rfl) (by kernel_rfl) (by kernel_rfl) (fun _ _ _ h => h) (by kernel_rfl) hHeld ?_ ?_
      rotate_left
      · intro w hSw; go_split_ands; go_simp; try with_reducible rfl
      try simp only [Act.put, List.setIfInBounds_toArray, List.set_cons_zero, List.set_cons_succ]
      refine take_yes (i := 8) (v := ?_) rfl (by kernel_rfl) (by kernel_rfl) (by kernel_rfl) (fun _ _ _ h => h) (by kernel_rfl) hHeld ?_ ?_
      rotate_left
      · intro w hSw; go_split_ands; go_simp; try with_reducible rfl
      try simp only [Act.put, List.setIfInBounds_toArray, List.set_cons_zero, List.set_cons_succ]
      refine take_yes (i := 9) (v := ?_) rfl (by kernel_rfl) (by kernel_rfl) (by kernel_rfl) (fun _ _ _ h => h) (by kernel_rfl) hHeld ?_ ?_
      rotate_left
      · intro w hSw; go_split_ands; go_simp; try with_reducible rfl
      try simp only [Act.put, List.setIfInBounds_toArray, List.set_cons_zero, List.set_cons_succ]
      refine take_both (i := 4) (j := 10) rfl rfl (by kernel_rfl) (fun K hK => ?_) (fun K hK => ?_)
      · skip
        go_simp
        refine hK.out _ _ hHeld (fun hHeld => ?_)
        clear hK K
        try simp only [Act.put, List.setIfInBounds_toArray, List.set_cons_zero, List.set_cons_succ]
        refine take_loud (i := 10) rfl (by kernel_rfl) (fun K hK => ?_)
        go_wp2_with (go_at_call 21; refine (depLine_any L.length ⟨s.toArray⟩ mu _ (by omega) (by rw [hsz]; omega) m0 m1 (HPW.out _ hHeld.2.2.2)).mono ?_; rintro e wN ⟨rfl, hbN⟩)
        refine hK.out _ _ ⟨(hbN.cell (lt_of_cell hHeld.1)).trans hHeld.1, (hbN.cell (lt_of_cell hHeld.2.1)).trans hHeld.2.1, (hbN.cell (lt_of_cell hHeld.2.2.1)).trans hHeld.2.2.1, hHeld.2.2.2.trans (FrS.of_below hbN)⟩ (fun hHeld2 => ?_)
        replace hHeld := hHeld2
        have hB4 := below_next (Below.refl wX.drew.heap.size wX.drew) hbN
        have c1 := (HPX.out.at ((below_drewN wX 1 _).trans hB4)).c1
        clear hK K hHeld2 hbN
        try simp only [Act.put, List.setIfInBounds_toArray, List.set_cons_zero, List.set_cons_succ]
        refine take_loud (i := 11) rfl (by kernel_rfl) (fun K hK => ?_)
        refine step_str rowB Tryz.underlying9 rfl (.tmp 25) (.tmp 31) rfl base (by simp [Act.eval]) (HPX.out.at ((below_drewN wX 1 _).trans hB4)).jour ⟨(lineM L.length (s, mu)).toArray⟩ (by simp [Act.eval]) (by unfold maxLen; omega) (by omega) (by have := hB4.size; have := HBX.out; simp at *; omega) ?_
        intro v5 w5 h5 hg5
        obtain ⟨ar, cr, rfl⟩ := rowForm h5
        obtain ⟨⟨c15, f15, hHeld5⟩, hHeld6, P6⟩ := HKEY.out _ w5 _ ((below_drewN wX 1 _).trans hB4) h5 hg5
        have HP6 := Lib.hid P6
        refine hK.out _ _ hHeld5 (fun hHeld => ?_)
        clear hK K h5 hg5 P6 hHeld5
        try simp only [Act.put, List.setIfInBounds_toArray, List.set_cons_zero, List.set_cons_succ]
        refine take_yes (i := 12) (v := ?_) rfl (by kernel_rfl) (by kernel_rfl) (by kernel_rfl) (fun _ _ _ h => h) (by kernel_rfl) hHeld ?_ ?_
        rotate_left
        · intro w hSw; go_split_ands; go_simp; try with_reducible rfl
        try simp only [Act.put, List.setIfInBounds_toArray, List.set_cons_zero, List.set_cons_succ]
        refine take_yes (i := 13) (v := ?_) rfl (by kernel_rfl) (by kernel_rfl) (by kernel_rfl) (fun _ _ _ h => h) (by kernel_rfl) hHeld ?_ ?_
        rotate_left
        · intro w hSw; go_split_ands; go_simp; try with_reducible rfl
        try simp only [Act.put, List.setIfInBounds_toArray, List.set_cons_zero, List.set_cons_succ]
        refine take_loud (i := 14) rfl (by kernel_rfl) (fun K hK => ?_)
        go_simp
        refine hK.out _ _ hHeld6 (fun hHeld => ?_)
        clear hK K
        try simp only [Act.put, List.setIfInBounds_toArray, List.set_cons_zero, List.set_cons_succ]
        refine wpAnyH_done (by kernel_rfl) ?_ _
        go_wp2_with fail
        go_meet
        case rel => exact ⟨_, HP6.out, hHeld6.1, hHeld6.2.1, hHeld6.2.2.2⟩
      · skip
        go_wp2_with (go_at_call 21; refine (depLine_any L.length ⟨s.toArray⟩ mu _ (by omega) (by rw [hsz]; omega) m0 m1 (HPW.out _ hHeld.2.2.2)).mono ?_; rintro e wN ⟨rfl, hbN⟩)
        refine hK.out _ _ ⟨(hbN.cell (lt_of_cell hHeld.1)).trans hHeld.1, (hbN.cell (lt_of_cell hHeld.2.1)).trans hHeld.2.1, (hbN.cell (lt_of_cell hHeld.2.2.1)).trans hHeld.2.2.1, hHeld.2.2.2.trans (FrS.of_below hbN)⟩ (fun hHeld2 => ?_)
        replace hHeld := hHeld2
        have hB4 := below_next (Below.refl wX.drew.heap.size wX.drew) hbN
        have c1 := (HPX.out.at ((below_drewN wX 1 _).trans hB4)).c1
        clear hK K hHeld2 hbN
        try simp only [Act.put, List.setIfInBounds_toArray, List.set_cons_zero, List.set_cons_succ]
        refine take_loud (i := 4) rfl (by kernel_rfl) (fun K hK => ?_)
        go_simp
        refine hK.out _ _ hHeld (fun hHeld => ?_)
        clear hK K
        try simp only [Act.put, List.setIfInBounds_toArray, List.set_cons_zero, List.set_cons_succ]
        refine take_loud (i := 11) rfl (by kernel_rfl) (fun K hK => ?_)
        refine step_str rowB Tryz.underlying9 rfl (.tmp 25) (.tmp 31) rfl base (by simp [Act.eval]) (HPX.out.at ((below_drewN wX 1 _).trans hB4)).jour ⟨(lineM L.length (s, mu)).toArray⟩ (by simp [Act.eval]) (by unfold maxLen; omega) (by omega) (by have := hB4.size; have := HBX.out; simp at *; omega) ?_
        intro v5 w5 h5 hg5
        obtain ⟨ar, cr, rfl⟩ := rowForm h5
        obtain ⟨⟨c15, f15, hHeld5⟩, hHeld6, P6⟩ := HKEY.out _ w5 _ ((below_drewN wX 1 _).trans hB4) h5 hg5
        have HP6 := Lib.hid P6
        refine hK.out _ _ hHeld5 (fun hHeld => ?_)
        clear hK K h5 hg5 P6 hHeld5
        try simp only [Act.put, List.setIfInBounds_toArray, List.set_cons_zero, List.set_cons_succ]
        refine take_yes (i := 12) (v := ?_) rfl (by kernel_rfl) (by kernel_rfl) (by kernel_rfl) (fun _ _ _ h => h) (by kernel_rfl) hHeld ?_ ?_
        rotate_left
        · intro w hSw; go_split_ands; go_simp; try with_reducible rfl
        try simp only [Act.put, List.setIfInBounds_toArray, List.set_cons_zero, List.set_cons_succ]
        refine take_yes (i := 13) (v := ?_) rfl (by kernel_rfl) (by kernel_rfl) (by kernel_rfl) (fun _ _ _ h => h) (by kernel_rfl) hHeld ?_ ?_
        rotate_left
        · intro w hSw; go_split_ands; go_simp; try with_reducible rfl
        try simp only [Act.put, List.setIfInBounds_toArray, List.set_cons_zero, List.set_cons_succ]
        refine take_loud (i := 14) rfl (by kernel_rfl) (fun K hK => ?_)
        go_simp
        refine hK.out _ _ hHeld6 (fun hHeld => ?_)
        clear hK K
        try simp only [Act.put, List.setIfInBounds_toArray, List.set_cons_zero, List.set_cons_succ]
        refine wpAnyH_done (by kernel_rfl) ?_ _
        go_wp2_with fail
        go_meet
        case rel => exact ⟨_, HP6.out, hHeld6.1, hHeld6.2.1, hHeld6.2.2.2⟩
    case rest =>
      obtain ⟨v5, P6, y0, y1, hF6⟩ := hcut
      have c2 := P6.c2
      have f2 := P6.free 2
      have HP6 := Lib.hid P6
      have HF6 := Lib.hid hF6
      clear P6 hF6 x0 x1 x2 c1 hFX HKEY HPX HFX HPW HBX
      go_wp2
      obtain ⟨wY, hY⟩ : ∃ wY, wY = wc.setCell ⟨bd, 2, none⟩ (.int .i64 ((L.length : Int) + 1)) := ⟨_, rfl⟩
      have P7 : DepP base bd (.map (some bm)) v5 L (L ++ [(s, mu)]) (L.length + 1) wY := by rw [hY, show (L.length : Int) + 1 = ((L.length + 1 : Nat) : Int) by omega]; exact HP6.out.count _
      have z0 : wY.cell? ⟨B, 0, none⟩ = some (strV s) := by rw [hY, World.cell?_setCell_other _ _ _ _ (by simp)]; exact y0
      have z1 : wY.cell? ⟨B, 1, none⟩ = some (.int .i64 mu) := by rw [hY, World.cell?_setCell_other _ _ _ _ (by simp)]; exact y1
      have HF7 : Hid (FrS (fun k => depBlocks bd (.map none) jv k ∨ w.heap.size ≤ k) w wY) := by
        rw [hY]
        exact Lib.hid (HF6.out.trans (FrS.of_grown (set_grown _ _ _) (fun k hk => by rw [← Option.some.inj hk]; exact Or.inl (Or.inl rfl))))
      rw [← hY]
      clear hY c2 f2 HP6 HF6 y0 y1
      obtain ⟨N, D, h1, h2, h3, h4, h5⟩ := P7.map
      have c0 := P7.c0
      have hlk : (Instr.lookup 24 (.map (some bm)) (strV s) false).run Tryz.prog wY.drew = .ok (.int .i64 q) wY.drew := by
        rw [HQ.out]
        exact look_have (P7.at (below_drewN wY 1 _)).have' s hm
      have HP7 := Lib.hid P7
      have hbmB : ¬ B = bm := fun e => by
        obtain ⟨es, clock, h, _⟩ := h4
        rw [← e] at h
        have := z0
        simp [World.cell?, h] at this
      refine wp_region_held_drew (S := fun w' => w'.cell? ⟨bd, 0, none⟩ = some (.map (some bm)) ∧ w'.cell? ⟨B, 0, none⟩ = some (strV s) ∧ w'.cell? ⟨B, 1, none⟩ = some (.int .i64 mu)) (by kernel_rfl) ⟨c0, z0, z1⟩ (fun hHeld => ?_)
      refine take_yes (i := 0) (v := ?_) rfl (by kernel_rfl) (by kernel_rfl) (by kernel_rfl) (fun _ _ _ h => h) (by kernel_rfl) hHeld ?_ ?_
      rotate_left
      · intro w hSw; go_split_ands; go_simp; try with_reducible rfl
      try simp only [Act.put, List.setIfInBounds_toArray, List.set_cons_zero, List.set_cons_succ]
      refine take_yes (i := 1) (v := ?_) rfl (by kernel_rfl) (by kernel_rfl) (by kernel_rfl) (fun _ _ _ h => h) (by kernel_rfl) hHeld ?_ ?_
      rotate_left
      · intro w hSw; go_split_ands; go_simp; try with_reducible rfl
      try simp only [Act.put, List.setIfInBounds_toArray, List.set_cons_zero, List.set_cons_succ]
      refine take_yes (i := 2) (v := ?_) rfl (by kernel_rfl) (by kernel_rfl) (by kernel_rfl) (fun _ _ _ h => h) (by kernel_rfl) hHeld ?_ ?_
      rotate_left
      · intro w hSw; go_split_ands; go_simp; try with_reducible rfl
      try simp only [Act.put, List.setIfInBounds_toArray, List.set_cons_zero, List.set_cons_succ]
      refine take_yes (i := 3) (v := ?_) rfl (by kernel_rfl) (by kernel_rfl) (by kernel_rfl) (fun _ _ _ h => h) (by kernel_rfl) hHeld ?_ ?_
      rotate_left
      · intro w hSw; go_split_ands; go_simp; try with_reducible rfl
      try simp only [Act.put, List.setIfInBounds_toArray, List.set_cons_zero, List.set_cons_succ]
      refine take_yes (i := 4) (v := ?_) rfl (by kernel_rfl) (by kernel_rfl) (by kernel_rfl) (fun _ _ _ h => h) (by kernel_rfl) hHeld ?_ ?_
      rotate_left
      · intro w hSw; go_split_ands; go_simp; try with_reducible rfl
      try simp only [Act.put, List.setIfInBounds_toArray, List.set_cons_zero, List.set_cons_succ]
      refine take_yes (i := 5) (v := ?_) rfl (by kernel_rfl) (by kernel_rfl) (by kernel_rfl) (fun _ _ _ h => h) (by kernel_rfl) hHeld ?_ ?_
      rotate_left
      · intro w hSw; go_split_ands; go_simp; try with_reducible rfl
      try simp only [Act.put, List.setIfInBounds_toArray, List.set_cons_zero, List.set_cons_succ]
      refine take_yes (i := 7) (v := ?_) rfl (by kernel_rfl) (by kernel_rfl) (by kernel_rfl) (fun _ _ _ h => h) (by kernel_rfl) hHeld ?_ ?_
      rotate_left
      · intro w hSw; go_split_ands; go_simp; try with_reducible rfl
      try simp only [Act.put, List.setIfInBounds_toArray, List.set_cons_zero, List.set_cons_succ]
      refine take_yes (i := 8) (v := ?_) rfl (by kernel_rfl) (by kernel_rfl) (by kernel_rfl) (fun _ _ _ h => h) (by kernel_rfl) hHeld ?_ ?_
      rotate_left
      · intro w hSw; go_split_ands; go_simp; try with_reducible rfl
      try simp only [Act.put, List.setIfInBounds_toArray, List.set_cons_zero, List.set_cons_succ]
      refine take_loud (i := 6) rfl (by kernel_rfl) (fun K hK => ?_)
      go_simp
      refine hK.out _ _ hHeld (fun hHeld => ?_)
      clear hK K
      try simp only [Act.put, List.setIfInBounds_toArray, List.set_cons_zero, List.set_cons_succ]
      refine take_yes (i := 9) (v := ?_) rfl (by kernel_rfl) (by kernel_rfl) (by kernel_rfl) (fun _ _ _ h => h) (by kernel_rfl) hHeld ?_ ?_
      rotate_left
      · intro w hSw; go_split_ands; go_simp; try with_reducible rfl
      try simp only [Act.put, List.setIfInBounds_toArray, List.set_cons_zero, List.set_cons_succ]
      refine take_loud (i := 10) rfl (by kernel_rfl) (fun K hK => ?_)
      refine step_put rfl (.tmp 45) (.tmp 47) (.tmp 51) 24 rfl 9 3 keyS Tryz.underlying24 (plainElem Tryz.prog 3) bm N D (by simp [Act.eval]) (map_below h4 (below_drewN wY 1 _)) (by unfold maxLen; omega) (strV s) (.int .i64 (q + mu)) (.string s) (by simp [Act.eval]) (by simp [Act.eval]) (key_of s hm) (.lit (.int .i64 (q + mu))) [] (int_read _ (by omega)) ?_
      intro w8 r1 r2
      have hf8 : FrS (fun k => k = bm) wY w8 := (FrS.of_below (below_drewN wY 1 _)).trans (turned_frs r2 rfl)
      have z8 : w8.cell? ⟨bd, 0, none⟩ = some (.map (some bm)) ∧ w8.cell? ⟨B, 0, none⟩ = some (strV s) ∧ w8.cell? ⟨B, 1, none⟩ = some (.int .i64 mu) := ⟨cell_frs c0 hf8 (fun e => h2 e.symm), cell_frs z0 hf8 hbmB, cell_frs z1 hf8 hbmB⟩
      refine hK.out _ _ z8 (fun hHeld => ?_)
      clear hK K hlk r2
      refine wpAnyH_done (by kernel_rfl) ?_ _
      have hk : ∀ q', (Instr.lookup 24 (.map (some bm)) (strV s) false).run Tryz.prog (w8.drewN q') = .ok (.int .i64 (q + mu)) (w8.drewN q') := fun q' => look_put (map_below r1 (below_drewN w8 q' _)) h4.isMap hm
      have HD := Lib.hid h5
      have HF8 := Lib.hid hf8
      have HI := Lib.hid h4.isMap
      obtain ⟨z80, z81, z82⟩ := z8
      have R1 := Lib.hid r1
      clear h4 h5 hf8 c0 z0 z1 hHeld r1 P7
      go_wp2
      go_quiet (fail)
      obtain ⟨wV, hV⟩ : ∃ wV, wV = w8.drewN nq := ⟨_, rfl⟩
      have HV8 : Hid (Below w8.heap.size w8 wV) := Lib.hid (by rw [hV]; exact below_drewN w8 nq _)
      rw [← hV]
      have v80 := (HV8.out.cell (lt_of_cell z80)).trans z80
      have v81 := (HV8.out.cell (lt_of_cell z81)).trans z81
      clear hV hk z82
      by_cases hz : q + mu = 0
      · have hdz : (q + mu == 0) = true := by simp [hz]
        rw [hdz]
        have HZ := Lib.hid hz
        clear hz
        go_wp2
        refine wp_region_held_drew (S := fun w' => w'.cell? ⟨bd, 0, none⟩ = some (.map (some bm)) ∧ w'.cell? ⟨B, 0, none⟩ = some (strV s)) (by kernel_rfl) ⟨v80, v81⟩ (fun hHeld => ?_)
        refine take_yes (i := 0) (v := ?_) rfl (by kernel_rfl) (by kernel_rfl) (by kernel_rfl) (fun _ _ _ h => h) (by kernel_rfl) hHeld ?_ ?_
        rotate_left
        · intro w hSw; go_split_ands; go_simp; try with_reducible rfl
        try simp only [Act.put, List.setIfInBounds_toArray, List.set_cons_zero, List.set_cons_succ]
        refine take_yes (i := 1) (v := ?_) rfl (by kernel_rfl) (by kernel_rfl) (by kernel_rfl) (fun _ _ _ h => h) (by kernel_rfl) hHeld ?_ ?_
        rotate_left
        · intro w hSw; go_split_ands; go_simp; try with_reducible rfl
        try simp only [Act.put, List.setIfInBounds_toArray, List.set_cons_zero, List.set_cons_succ]
        refine take_yes (i := 2) (v := ?_) rfl (by kernel_rfl) (by kernel_rfl) (by kernel_rfl) (fun _ _ _ h => h) (by kernel_rfl) hHeld ?_ ?_
        rotate_left
        · intro w hSw; go_split_ands; go_simp; try with_reducible rfl
        try simp only [Act.put, List.setIfInBounds_toArray, List.set_cons_zero, List.set_cons_succ]
        refine take_yes (i := 3) (v := ?_) rfl (by kernel_rfl) (by kernel_rfl) (by kernel_rfl) (fun _ _ _ h => h) (by kernel_rfl) hHeld ?_ ?_
        rotate_left
        · intro w hSw; go_split_ands; go_simp; try with_reducible rfl
        try simp only [Act.put, List.setIfInBounds_toArray, List.set_cons_zero, List.set_cons_succ]
        refine take_yes (i := 4) (v := ?_) rfl (by kernel_rfl) (by kernel_rfl) (by kernel_rfl) (fun _ _ _ h => h) (by kernel_rfl) hHeld ?_ ?_
        rotate_left
        · intro w hSw; go_split_ands; go_simp; try with_reducible rfl
        try simp only [Act.put, List.setIfInBounds_toArray, List.set_cons_zero, List.set_cons_succ]
        refine take_yes (i := 5) (v := ?_) rfl (by kernel_rfl) (by kernel_rfl) (by kernel_rfl) (fun _ _ _ h => h) (by kernel_rfl) hHeld ?_ ?_
        rotate_left
        · intro w hSw; go_split_ands; go_simp; try with_reducible rfl
        try simp only [Act.put, List.setIfInBounds_toArray, List.set_cons_zero, List.set_cons_succ]
        refine take_loud (i := 6) rfl (by kernel_rfl) (fun K hK => ?_)
        refine step_del rfl (.tmp 63) (.tmp 65) 24 9 rfl 3 keyS Tryz.underlying24 (plainElem Tryz.prog 3) bm (N + 1) (D.put (.string s) (.lit (.int .i64 (q + mu)))) (by simp [Act.eval]) (map_below (map_below R1.out HV8.out) (below_drewN wV 1 _)) (strV s) (.string s) (by simp [Act.eval]) (key_of s hm) ?_
        intro w10 r3 r4
        have hfA : FrS (fun k => k = bm) wV w10 := (FrS.of_below (below_drewN wV 1 _)).trans (turned_frs r4 rfl)
        have hfE : FrS (fun k => k = bm) wY w10 := HF8.out.trans ((FrS.of_below HV8.out).trans hfA)
        have hP := HP7.out.turn (Lm' := L ++ [(s, mu)]) hfE h1 h2 (by simp; omega) r3 (have_del HD.out (by rw [← HQ.out]; exact HZ.out))
        have HPOST := Lib.hid (dep_fin hP HE.out HOK.out (HF7.out.trans (hfE.mono (fun k _ e => by rw [e]; exact HSB.out))))
        refine hK.out _ _ ⟨cell_frs v80 hfA (fun e => h2 e.symm), cell_frs v81 hfA hbmB⟩ (fun hHeld => ?_)
        clear hK K hfA hfE r3 r4 hP
        refine wpAnyH_done (by kernel_rfl) ?_ _
        go_wp2
        go_ret
        exact HPOST.out
      · have hdz : (q + mu == 0) = false := by simp [hz]
        rw [hdz]
        have hfE : FrS (fun k => k = bm) wY wV := HF8.out.trans (FrS.of_below HV8.out)
        have hP := HP7.out.turn (Lm' := L ++ [(s, mu)]) hfE h1 h2 (by simp; omega) (map_below R1.out HV8.out) (have_put HI.out HD.out (by rw [← HQ.out]) hz)
        have HPOST := Lib.hid (dep_fin hP HE.out HOK.out (HF7.out.trans (hfE.mono (fun k _ e => by rw [e]; exact HSB.out))))
        clear hfE hP hz
        go_wp2
        go_ret
        exact HPOST.out
  · obtain ⟨bm, N, D, rfl, g1, g2, g3, g4, g5⟩ := h2
    have HGM := Lib.hid g1
    clear g2 g3 g4 g5 D N g1
    go_enter Tryz.func5, Tryz.ntmps5
    go_wp2_with fail
    rw [← hW, ← hB]
    clear hW hB
    refine HM.out.mono ?_
    rintro e w1 ⟨rfl, hb1⟩
    have b0 := (hb1.cell (lt_of_cell a0)).trans a0
    have b1 := (hb1.cell (lt_of_cell a1)).trans a1
    have P1 := (HH.out.at (HB0.out.trans (hb1.mono HB0.out.size))).part
    have HB1 := Lib.hid (HB0.out.trans (hb1.mono HB0.out.size))
    have c0 := P1.c0
    have HP1 := Lib.hid P1
    clear P1 hb1 a0 a1
    have kb := eqNil (some bm)
    have kmk := mkMap w1
    have hbB : bd ≠ B := by have := HB.out; omega
    have c9 := (HP1.out.at ((Below.refl w1.heap.size w1).alloc (Nat.le_refl _) (.map #[] 0))).c0
    have f9 := (HP1.out.at ((Below.refl w1.heap.size w1).alloc (Nat.le_refl _) (.map #[] 0))).free 0
    go_wp2
    clear kb kmk c0 c9 f9
    have hFX : FrS (fun k => depBlocks bd (.map (some bm)) jv k ∨ w.heap.size ≤ k) w w1 := FrS.of_below HB1.out
    have hSbm : depBlocks bd (.map (some bm)) jv bm ∨ w.heap.size ≤ bm := Or.inl (Or.inr (Or.inl rfl))
    have HPX := HP1
    have x0 := b0
    have x1 := b1
    obtain ⟨wX, hX⟩ : ∃ wX, wX = w1 := ⟨_, rfl⟩
    subst hX
    clear b0 b1 HP1
    have HFX := Lib.hid hFX
    have HSB := Lib.hid hSbm
    clear hSbm
    have x2 := HPX.out.c2
    have HBX : Hid (base ≤ wX.heap.size) := Lib.hid (by have := hFX.size; omega)
    have HPW : Hid (∀ w', FrS (fun k => depBlocks bd (.map (some bm)) jv k ∨ w.heap.size ≤ k) w w' → PowAt w') := Lib.hid (fun w' hf => HP.out w' (hf.below (by omega) (fun k hk => by
      rcases hk with (rfl | hk | hk) | hk
      · exact hlo
      · have := Option.some.inj (Value.map.inj hk); have := HGM.out; omega
      · have := (HH.out.jour.lt k hk).1; omega
      · omega)))
    have hjB : jv.ownBlock ≠ some B := fun e => by have := (HH.out.jour.lt B e).2; have := HB.out; omega
    have HKEY := Lib.hid (dep_key HPX.out hFX (Or.inl (Or.inl rfl)) (fun k hk => Or.inl (Or.inr (Or.inr hk))) hjB hbB x0 x1)
    have hjl : (journalM L).length ≤ 100 * L.length := by have h := journal_len HH.out.ok (by omega) L.length (Nat.le_refl _); rw [List.take_length] at h; exact h
    have hll := line_len L.length (s, mu) (by omega) hs12 e1 e2
    have hlz : (⟨(lineM L.length (s, mu)).toArray⟩ : ByteArray).size = (lineM L.length (s, mu)).length := by simp [ByteArray.size]
    have hsz : (⟨s.toArray⟩ : ByteArray).size = s.length := by simp [ByteArray.size]
    have c1 := HPX.out.c1
    go_cut [] (fun wx => ∃ v5, DepP base bd (.map (some bm)) v5 L (L ++ [(s, mu)]) L.length wx ∧ wx.cell? ⟨B, 0, none⟩ = some (strV s) ∧ wx.cell? ⟨B, 1, none⟩ = some (.int .i64 mu) ∧ FrS (fun k => depBlocks bd (.map (some bm)) jv k ∨ w.heap.size ≤ k) w wx)
    case first =>
      refine wp_region_held_drew (S := fun w' => w'.cell? ⟨B, 0, none⟩ = some (strV s) ∧ w'.cell? ⟨B, 1, none⟩ = some (.int .i64 mu) ∧ w'.cell? ⟨bd, 2, none⟩ = some (.int .i64 L.length) ∧ FrS (fun k => depBlocks bd (.map (some bm)) jv k ∨ w.heap.size ≤ k) w w') (by kernel_rfl) ⟨x0, x1, x2, hFX.trans (FrS.of_below (below_drewN wX 1 _))⟩ (fun hHeld => ?_)
      refine take_yes (i := 0) (v := ?_) rfl (by kernel_rfl) (by kernel_rfl) (by kernel_rfl) (fun _ _ _ h => h) (by kernel_rfl) hHeld ?_ ?_
      rotate_left
      · intro w hSw; go_split_ands; go_simp; try with_reducible rfl
      try simp only [Act.put, List.setIfInBounds_toArray, List.set_cons_zero, List.set_cons_succ]
      refine take_yes (i := 1) (v := ?_) rfl (by kernel_rfl) (by kernel_rfl) (by kernel_rfl) (fun _ _ _ h => h) (by kernel_rfl) hHeld ?_ ?_
      rotate_left
      · intro w hSw; go_split_ands; go_simp; try with_reducible rfl
      try simp only [Act.put, List.setIfInBounds_toArray, List.set_cons_zero, List.set_cons_succ]
      refine take_yes (i := 2) (v := ?_) rfl (by kernel_rfl) (by kernel_rfl) (by kernel_rfl) (fun _ _ _ h => h) (by kernel_rfl) hHeld ?_ ?_
      rotate_left
      · intro w hSw; go_split_ands; go_simp; try with_reducible rfl
      try simp only [Act.put, List.setIfInBounds_toArray, List.set_cons_zero, List.set_cons_succ]
      refine take_yes (i := 3) (v := ?_) rfl (by kernel_rfl) (by kernel_rfl) (by kernel_rfl) (fun _ _ _ h => h) (by kernel_rfl) hHeld ?_ ?_
      rotate_left
      · intro w hSw; go_split_ands; go_simp; try with_reducible rfl
      try simp only [Act.put, List.setIfInBounds_toArray, List.set_cons_zero, List.set_cons_succ]
      refine take_yes (i := 5) (v := ?_) rfl (by kernel_rfl) (by kernel_rfl) (by kernel_rfl) (fun _ _ _ h => h) (by kernel_rfl) hHeld ?_ ?_
      rotate_left
      · intro w hSw; go_split_ands; go_simp; try with_reducible rfl
      try simp only [Act.put, List.setIfInBounds_toArray, List.set_cons_zero, List.set_cons_succ]
      refine take_yes (i := 6) (v := ?_) rfl (by kernel_rfl) (by kernel_rfl) (by kernel_rfl) (fun _ _ _ h => h) (by kernel_rfl) hHeld ?_ ?_
      rotate_left
      · intro w hSw; go_split_ands; go_simp; try with_reducible rfl
      try simp only [Act.put, List.setIfInBounds_toArray, List.set_cons_zero, List.set_cons_succ]
      refine take_yes (i := 7) (v := ?_) rfl (by kernel_rfl) (by kernel_rfl) (by kernel_rfl) (fun _ _ _ h => h) (by kernel_rfl) hHeld ?_ ?_
      rotate_left
      · intro w hSw; go_split_ands; go_simp; try with_reducible rfl
      try simp only [Act.put, List.setIfInBounds_toArray, List.set_cons_zero, List.set_cons_succ]
      refine take_yes (i := 8) (v := ?_) rfl (by kernel_rfl) (by kernel_rfl) (by kernel_rfl) (fun _ _ _ h => h) (by kernel_rfl) hHeld ?_ ?_
      rotate_left
      · intro w hSw; go_split_ands; go_simp; try with_reducible rfl
      try simp only [Act.put, List.setIfInBounds_toArray, List.set_cons_zero, List.set_cons_succ]
      refine take_yes (i := 9) (v := ?_) rfl (by kernel_rfl) (by kernel_rfl) (by kernel_rfl) (fun _ _ _ h => h) (by kernel_rfl) hHeld ?_ ?_
      rotate_left
      · intro w hSw; go_split_ands; go_simp; try with_reducible rfl
      try simp only [Act.put, List.setIfInBounds_toArray, List.set_cons_zero, List.set_cons_succ]
      refine take_both (i := 4) (j := 10) rfl rfl (by kernel_rfl) (fun K hK => ?_) (fun K hK => ?_)
      · skip
        go_simp
        refine hK.out _ _ hHeld (fun hHeld => ?_)
        clear hK K
        try simp only [Act.put, List.setIfInBounds_toArray, List.set_cons_zero, List.set_cons_succ]
        refine take_loud (i := 10) rfl (by kernel_rfl) (fun K hK => ?_)
        go_wp2_with (go_at_call 21; refine (depLine_any L.length ⟨s.toArray⟩ mu _ (by omega) (by rw [hsz]; omega) m0 m1 (HPW.out _ hHeld.2.2.2)).mono ?_; rintro e wN ⟨rfl, hbN⟩)
        refine hK.out _ _ ⟨(hbN.cell (lt_of_cell hHeld.1)).trans hHeld.1, (hbN.cell (lt_of_cell hHeld.2.1)).trans hHeld.2.1, (hbN.cell (lt_of_cell hHeld.2.2.1)).trans hHeld.2.2.1, hHeld.2.2.2.trans (FrS.of_below hbN)⟩ (fun hHeld2 => ?_)
        replace hHeld := hHeld2
        have hB4 := below_next (Below.refl wX.drew.heap.size wX.drew) hbN
        have c1 := (HPX.out.at ((below_drewN wX 1 _).trans hB4)).c1
        clear hK K hHeld2 hbN
        try simp only [Act.put, List.setIfInBounds_toArray, List.set_cons_zero, List.set_cons_succ]
        refine take_loud (i := 11) rfl (by kernel_rfl) (fun K hK => ?_)
        refine step_str rowB Tryz.underlying9 rfl (.tmp 25) (.tmp 31) rfl base (by simp [Act.eval]) (HPX.out.at ((below_drewN wX 1 _).trans hB4)).jour ⟨(lineM L.length (s, mu)).toArray⟩ (by simp [Act.eval]) (by unfold maxLen; omega) (by omega) (by have := hB4.size; have := HBX.out; simp at *; omega) ?_
        intro v5 w5 h5 hg5
        obtain ⟨ar, cr, rfl⟩ := rowForm h5
        obtain ⟨⟨c15, f15, hHeld5⟩, hHeld6, P6⟩ := HKEY.out _ w5 _ ((below_drewN wX 1 _).trans hB4) h5 hg5
        have HP6 := Lib.hid P6
        refine hK.out _ _ hHeld5 (fun hHeld => ?_)
        clear hK K h5 hg5 P6 hHeld5
        try simp only [Act.put, List.setIfInBounds_toArray, List.set_cons_zero, List.set_cons_succ]
        refine take_yes (i := 12) (v := ?_) rfl (by kernel_rfl) (by kernel_rfl) (by kernel_rfl) (fun _ _ _ h => h) (by kernel_rfl) hHeld ?_ ?_
        rotate_left
        · intro w hSw; go_split_ands; go_simp; try with_reducible rfl
        try simp only [Act.put, List.setIfInBounds_toArray, List.set_cons_zero, List.set_cons_succ]
        refine take_yes (i := 13) (v := ?_) rfl (by kernel_rfl) (by kernel_rfl) (by kernel_rfl) (fun _ _ _ h => h) (by kernel_rfl) hHeld ?_ ?_
        rotate_left
        · intro w hSw; go_split_ands; go_simp; try with_reducible rfl
        try simp only [Act.put, List.setIfInBounds_toArray, List.set_cons_zero, List.set_cons_succ]
        refine take_loud (i := 14) rfl (by kernel_rfl) (fun K hK => ?_)
        go_simp
        refine hK.out _ _ hHeld6 (fun hHeld => ?_)
        clear hK K
        try simp only [Act.put, List.setIfInBounds_toArray, List.set_cons_zero, List.set_cons_succ]
        refine wpAnyH_done (by kernel_rfl) ?_ _
        go_wp2_with fail
        go_meet
        case rel => exact ⟨_, HP6.out, hHeld6.1, hHeld6.2.1, hHeld6.2.2.2⟩
      · skip
        go_wp2_with (go_at_call 21; refine (depLine_any L.length ⟨s.toArray⟩ mu _ (by omega) (by rw [hsz]; omega) m0 m1 (HPW.out _ hHeld.2.2.2)).mono ?_; rintro e wN ⟨rfl, hbN⟩)
        refine hK.out _ _ ⟨(hbN.cell (lt_of_cell hHeld.1)).trans hHeld.1, (hbN.cell (lt_of_cell hHeld.2.1)).trans hHeld.2.1, (hbN.cell (lt_of_cell hHeld.2.2.1)).trans hHeld.2.2.1, hHeld.2.2.2.trans (FrS.of_below hbN)⟩ (fun hHeld2 => ?_)
        replace hHeld := hHeld2
        have hB4 := below_next (Below.refl wX.drew.heap.size wX.drew) hbN
        have c1 := (HPX.out.at ((below_drewN wX 1 _).trans hB4)).c1
        clear hK K hHeld2 hbN
        try simp only [Act.put, List.setIfInBounds_toArray, List.set_cons_zero, List.set_cons_succ]
        refine take_loud (i := 4) rfl (by kernel_rfl) (fun K hK => ?_)
        go_simp
        refine hK.out _ _ hHeld (fun hHeld => ?_)
        clear hK K
        try simp only [Act.put, List.setIfInBounds_toArray, List.set_cons_zero, List.set_cons_succ]
        refine take_loud (i := 11) rfl (by kernel_rfl) (fun K hK => ?_)
        refine step_str rowB Tryz.underlying9 rfl (.tmp 25) (.tmp 31) rfl base (by simp [Act.eval]) (HPX.out.at ((below_drewN wX 1 _).trans hB4)).jour ⟨(lineM L.length (s, mu)).toArray⟩ (by simp [Act.eval]) (by unfold maxLen; omega) (by omega) (by have := hB4.size; have := HBX.out; simp at *; omega) ?_
        intro v5 w5 h5 hg5
        obtain ⟨ar, cr, rfl⟩ := rowForm h5
        obtain ⟨⟨c15, f15, hHeld5⟩, hHeld6, P6⟩ := HKEY.out _ w5 _ ((below_drewN wX 1 _).trans hB4) h5 hg5
        have HP6 := Lib.hid P6
        refine hK.out _ _ hHeld5 (fun hHeld => ?_)
        clear hK K h5 hg5 P6 hHeld5
        try simp only [Act.put, List.setIfInBounds_toArray, List.set_cons_zero, List.set_cons_succ]
        refine take_yes (i := 12) (v := ?_) rfl (by kernel_rfl) (by kernel_rfl) (by kernel_rfl) (fun _ _ _ h => h) (by kernel_rfl) hHeld ?_ ?_
        rotate_left
        · intro w hSw; go_split_ands; go_simp; try with_reducible rfl
        try simp only [Act.put, List.setIfInBounds_toArray, List.set_cons_zero, List.set_cons_succ]
        refine take_yes (i := 13) (v := ?_) rfl (by kernel_rfl) (by kernel_rfl) (by kernel_rfl) (fun _ _ _ h => h) (by kernel_rfl) hHeld ?_ ?_
        rotate_left
        · intro w hSw; go_split_ands; go_simp; try with_reducible rfl
        try simp only [Act.put, List.setIfInBounds_toArray, List.set_cons_zero, List.set_cons_succ]
        refine take_loud (i := 14) rfl (by kernel_rfl) (fun K hK => ?_)
        go_simp
        refine hK.out _ _ hHeld6 (fun hHeld => ?_)
        clear hK K
        try simp only [Act.put, List.setIfInBounds_toArray, List.set_cons_zero, List.set_cons_succ]
        refine wpAnyH_done (by kernel_rfl) ?_ _
        go_wp2_with fail
        go_meet
        case rel => exact ⟨_, HP6.out, hHeld6.1, hHeld6.2.1, hHeld6.2.2.2⟩
    case rest =>
      obtain ⟨v5, P6, y0, y1, hF6⟩ := hcut
      have c2 := P6.c2
      have f2 := P6.free 2
      have HP6 := Lib.hid P6
      have HF6 := Lib.hid hF6
      clear P6 hF6 x0 x1 x2 c1 hFX HKEY HPX HFX HPW HBX
      go_wp2
      obtain ⟨wY, hY⟩ : ∃ wY, wY = wc.setCell ⟨bd, 2, none⟩ (.int .i64 ((L.length : Int) + 1)) := ⟨_, rfl⟩
      have P7 : DepP base bd (.map (some bm)) v5 L (L ++ [(s, mu)]) (L.length + 1) wY := by rw [hY, show (L.length : Int) + 1 = ((L.length + 1 : Nat) : Int) by omega]; exact HP6.out.count _
      have z0 : wY.cell? ⟨B, 0, none⟩ = some (strV s) := by rw [hY, World.cell?_setCell_other _ _ _ _ (by simp)]; exact y0
      have z1 : wY.cell? ⟨B, 1, none⟩ = some (.int .i64 mu) := by rw [hY, World.cell?_setCell_other _ _ _ _ (by simp)]; exact y1
      have HF7 : Hid (FrS (fun k => depBlocks bd (.map (some bm)) jv k ∨ w.heap.size ≤ k) w wY) := by
        rw [hY]
        exact Lib.hid (HF6.out.trans (FrS.of_grown (set_grown _ _ _) (fun k hk => by rw [← Option.some.inj hk]; exact Or.inl (Or.inl rfl))))
      rw [← hY]
      clear hY c2 f2 HP6 HF6 y0 y1
      obtain ⟨N, D, h1, h2, h3, h4, h5⟩ := P7.map
      have c0 := P7.c0
      have hlk : (Instr.lookup 24 (.map (some bm)) (strV s) false).run Tryz.prog wY.drew = .ok (.int .i64 q) wY.drew := by
        rw [HQ.out]
        exact look_have (P7.at (below_drewN wY 1 _)).have' s hm
      have HP7 := Lib.hid P7
      have hbmB : ¬ B = bm := fun e => by
        obtain ⟨es, clock, h, _⟩ := h4
        rw [← e] at h
        have := z0
        simp [World.cell?, h] at this
      refine wp_region_held_drew (S := fun w' => w'.cell? ⟨bd, 0, none⟩ = some (.map (some bm)) ∧ w'.cell? ⟨B, 0, none⟩ = some (strV s) ∧ w'.cell? ⟨B, 1, none⟩ = some (.int .i64 mu)) (by kernel_rfl) ⟨c0, z0, z1⟩ (fun hHeld => ?_)
      refine take_yes (i := 0) (v := ?_) rfl (by kernel_rfl) (by kernel_rfl) (by kernel_rfl) (fun _ _ _ h => h) (by kernel_rfl) hHeld ?_ ?_
      rotate_left
      · intro w hSw; go_split_ands; go_simp; try with_reducible rfl
      try simp only [Act.put, List.setIfInBounds_toArray, List.set_cons_zero, List.set_cons_succ]
      refine take_yes (i := 1) (v := ?_) rfl (by kernel_rfl) (by kernel_rfl) (by kernel_rfl) (fun _ _ _ h => h) (by kernel_rfl) hHeld ?_ ?_
      rotate_left
      · intro w hSw; go_split_ands; go_simp; try with_reducible rfl
      try simp only [Act.put, List.setIfInBounds_toArray, List.set_cons_zero, List.set_cons_succ]
      refine take_yes (i := 2) (v := ?_) rfl (by kernel_rfl) (by kernel_rfl) (by kernel_rfl) (fun _ _ _ h => h) (by kernel_rfl) hHeld ?_ ?_
      rotate_left
      · intro w hSw; go_split_ands; go_simp; try with_reducible rfl
      try simp only [Act.put, List.setIfInBounds_toArray, List.set_cons_zero, List.set_cons_succ]
      refine take_yes (i := 3) (v := ?_) rfl (by kernel_rfl) (by kernel_rfl) (by kernel_rfl) (fun _ _ _ h => h) (by kernel_rfl) hHeld ?_ ?_
      rotate_left
      · intro w hSw; go_split_ands; go_simp; try with_reducible rfl
      try simp only [Act.put, List.setIfInBounds_toArray, List.set_cons_zero, List.set_cons_succ]
      refine take_yes (i := 4) (v := ?_) rfl (by kernel_rfl) (by kernel_rfl) (by kernel_rfl) (fun _ _ _ h => h) (by kernel_rfl) hHeld ?_ ?_
      rotate_left
      · intro w hSw; go_split_ands; go_simp; try with_reducible rfl
      try simp only [Act.put, List.setIfInBounds_toArray, List.set_cons_zero, List.set_cons_succ]
      refine take_yes (i := 5) (v := ?_) rfl (by kernel_rfl) (by kernel_rfl) (by kernel_rfl) (fun _ _ _ h => h) (by kernel_rfl) hHeld ?_ ?_
      rotate_left
      · intro w hSw; go_split_ands; go_simp; try with_reducible rfl
      try simp only [Act.put, List.setIfInBounds_toArray, List.set_cons_zero, List.set_cons_succ]
      refine take_yes (i := 7) (v := ?_) rfl (by kernel_rfl) (by kernel_rfl) (by kernel_rfl) (fun _ _ _ h => h) (by kernel_rfl) hHeld ?_ ?_
      rotate_left
      · intro w hSw; go_split_ands; go_simp; try with_reducible rfl
      try simp only [Act.put, List.setIfInBounds_toArray, List.set_cons_zero, List.set_cons_succ]
      refine take_yes (i := 8) (v := ?_) rfl (by kernel_rfl) (by kernel_rfl) (by kernel_rfl) (fun _ _ _ h => h) (by kernel_rfl) hHeld ?_ ?_
      rotate_left
      · intro w hSw; go_split_ands; go_simp; try with_reducible rfl
      try simp only [Act.put, List.setIfInBounds_toArray, List.set_cons_zero, List.set_cons_succ]
      refine take_loud (i := 6) rfl (by kernel_rfl) (fun K hK => ?_)
      go_simp
      refine hK.out _ _ hHeld (fun hHeld => ?_)
      clear hK K
      try simp only [Act.put, List.setIfInBounds_toArray, List.set_cons_zero, List.set_cons_succ]
      refine take_yes (i := 9) (v := ?_) rfl (by kernel_rfl) (by kernel_rfl) (by kernel_rfl) (fun _ _ _ h => h) (by kernel_rfl) hHeld ?_ ?_
      rotate_left
      · intro w hSw; go_split_ands; go_simp; try with_reducible rfl
      try simp only [Act.put, List.setIfInBounds_toArray, List.set_cons_zero, List.set_cons_succ]
      refine take_loud (i := 10) rfl (by kernel_rfl) (fun K hK => ?_)
      refine step_put rfl (.tmp 45) (.tmp 47) (.tmp 51) 24 rfl 9 3 keyS Tryz.underlying24 (plainElem Tryz.prog 3) bm N D (by simp [Act.eval]) (map_below h4 (below_drewN wY 1 _)) (by unfold maxLen; omega) (strV s) (.int .i64 (q + mu)) (.string s) (by simp [Act.eval]) (by simp [Act.eval]) (key_of s hm) (.lit (.int .i64 (q + mu))) [] (int_read _ (by omega)) ?_
      intro w8 r1 r2
      have hf8 : FrS (fun k => k = bm) wY w8 := (FrS.of_below (below_drewN wY 1 _)).trans (turned_frs r2 rfl)
      have z8 : w8.cell? ⟨bd, 0, none⟩ = some (.map (some bm)) ∧ w8.cell? ⟨B, 0, none⟩ = some (strV s) ∧ w8.cell? ⟨B, 1, none⟩ = some (.int .i64 mu) := ⟨cell_frs c0 hf8 (fun e => h2 e.symm), cell_frs z0 hf8 hbmB, cell_frs z1 hf8 hbmB⟩
      refine hK.out _ _ z8 (fun hHeld => ?_)
      clear hK K hlk r2
      refine wpAnyH_done (by kernel_rfl) ?_ _
      have hk : ∀ q', (Instr.lookup 24 (.map (some bm)) (strV s) false).run Tryz.prog (w8.drewN q') = .ok (.int .i64 (q + mu)) (w8.drewN q') := fun q' => look_put (map_below r1 (below_drewN w8 q' _)) h4.isMap hm
      have HD := Lib.hid h5
      have HF8 := Lib.hid hf8
      have HI := Lib.hid h4.isMap
      obtain ⟨z80, z81, z82⟩ := z8
      have R1 := Lib.hid r1
      clear h4 h5 hf8 c0 z0 z1 hHeld r1 P7
      go_wp2
      go_quiet (fail)
      obtain ⟨wV, hV⟩ : ∃ wV, wV = w8.drewN nq := ⟨_, rfl⟩
      have HV8 : Hid (Below w8.heap.size w8 wV) := Lib.hid (by rw [hV]; exact below_drewN w8 nq _)
      rw [← hV]
      have v80 := (HV8.out.cell (lt_of_cell z80)).trans z80
      have v81 := (HV8.out.cell (lt_of_cell z81)).trans z81
      clear hV hk z82
      by_cases hz : q + mu = 0
      · have hdz : (q + mu == 0) = true := by simp [hz]
        rw [hdz]
        have HZ := Lib.hid hz
        clear hz
        go_wp2
        refine wp_region_held_drew (S := fun w' => w'.cell? ⟨bd, 0, none⟩ = some (.map (some bm)) ∧ w'.cell? ⟨B, 0, none⟩ = some (strV s)) (by kernel_rfl) ⟨v80, v81⟩ (fun hHeld => ?_)
        refine take_yes (i := 0) (v := ?_) rfl (by kernel_rfl) (by kernel_rfl) (by kernel_rfl) (fun _ _ _ h => h) (by kernel_rfl) hHeld ?_ ?_
        rotate_left
        · intro w hSw; go_split_ands; go_simp; try with_reducible rfl
        try simp only [Act.put, List.setIfInBounds_toArray, List.set_cons_zero, List.set_cons_succ]
        refine take_yes (i := 1) (v := ?_) rfl (by kernel_rfl) (by kernel_rfl) (by kernel_rfl) (fun _ _ _ h => h) (by kernel_rfl) hHeld ?_ ?_
        rotate_left
        · intro w hSw; go_split_ands; go_simp; try with_reducible rfl
        try simp only [Act.put, List.setIfInBounds_toArray, List.set_cons_zero, List.set_cons_succ]
        refine take_yes (i := 2) (v := ?_) rfl (by kernel_rfl) (by kernel_rfl) (by kernel_rfl) (fun _ _ _ h => h) (by kernel_rfl) hHeld ?_ ?_
        rotate_left
        · intro w hSw; go_split_ands; go_simp; try with_reducible rfl
        try simp only [Act.put, List.setIfInBounds_toArray, List.set_cons_zero, List.set_cons_succ]
        refine take_yes (i := 3) (v := ?_) rfl (by kernel_rfl) (by kernel_rfl) (by kernel_rfl) (fun _ _ _ h => h) (by kernel_rfl) hHeld ?_ ?_
        rotate_left
        · intro w hSw; go_split_ands; go_simp; try with_reducible rfl
        try simp only [Act.put, List.setIfInBounds_toArray, List.set_cons_zero, List.set_cons_succ]
        refine take_yes (i := 4) (v := ?_) rfl (by kernel_rfl) (by kernel_rfl) (by kernel_rfl) (fun _ _ _ h => h) (by kernel_rfl) hHeld ?_ ?_
        rotate_left
        · intro w hSw; go_split_ands; go_simp; try with_reducible rfl
        try simp only [Act.put, List.setIfInBounds_toArray, List.set_cons_zero, List.set_cons_succ]
        refine take_yes (i := 5) (v := ?_) rfl (by kernel_rfl) (by kernel_rfl) (by kernel_rfl) (fun _ _ _ h => h) (by kernel_rfl) hHeld ?_ ?_
        rotate_left
        · intro w hSw; go_split_ands; go_simp; try with_reducible rfl
        try simp only [Act.put, List.setIfInBounds_toArray, List.set_cons_zero, List.set_cons_succ]
        refine take_loud (i := 6) rfl (by kernel_rfl) (fun K hK => ?_)
        refine step_del rfl (.tmp 63) (.tmp 65) 24 9 rfl 3 keyS Tryz.underlying24 (plainElem Tryz.prog 3) bm (N + 1) (D.put (.string s) (.lit (.int .i64 (q + mu)))) (by simp [Act.eval]) (map_below (map_below R1.out HV8.out) (below_drewN wV 1 _)) (strV s) (.string s) (by simp [Act.eval]) (key_of s hm) ?_
        intro w10 r3 r4
        have hfA : FrS (fun k => k = bm) wV w10 := (FrS.of_below (below_drewN wV 1 _)).trans (turned_frs r4 rfl)
        have hfE : FrS (fun k => k = bm) wY w10 := HF8.out.trans ((FrS.of_below HV8.out).trans hfA)
        have hP := HP7.out.turn (Lm' := L ++ [(s, mu)]) hfE h1 h2 (by simp; omega) r3 (have_del HD.out (by rw [← HQ.out]; exact HZ.out))
        have HPOST := Lib.hid (dep_fin hP HE.out HOK.out (HF7.out.trans (hfE.mono (fun k _ e => by rw [e]; exact HSB.out))))
        refine hK.out _ _ ⟨cell_frs v80 hfA (fun e => h2 e.symm), cell_frs v81 hfA hbmB⟩ (fun hHeld => ?_)
        clear hK K hfA hfE r3 r4 hP
        refine wpAnyH_done (by kernel_rfl) ?_ _
        go_wp2
        go_ret
        exact HPOST.out
      · have hdz : (q + mu == 0) = false := by simp [hz]
        rw [hdz]
        have hfE : FrS (fun k => k = bm) wY wV := HF8.out.trans (FrS.of_below HV8.out)
        have hP := HP7.out.turn (Lm' := L ++ [(s, mu)]) hfE h1 h2 (by simp; omega) (map_below R1.out HV8.out) (have_put HI.out HD.out (by rw [← HQ.out]) hz)
        have HPOST := Lib.hid (dep_fin hP HE.out HOK.out (HF7.out.trans (hfE.mono (fun k _ e => by rw [e]; exact HSB.out))))
        clear hfE hP hz
        go_wp2
        go_ret
        exact HPOST.out
end Go.Proofs.YtannijeiecmjpaaGreatDoor
