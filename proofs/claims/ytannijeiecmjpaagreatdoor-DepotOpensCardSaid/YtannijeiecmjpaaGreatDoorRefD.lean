/- The reference's depot: what is there, what is done. -/
import Derived.Test.YtannijeiecmjpaaGreatDoorRows
import Derived.Test.YtannijeiecmjpaaGreatDoorNameD
import Derived.Test.YtannijeiecmjpaaGreatDoorLineD
import Derived.Test.YtannijeiecmjpaaGreatDoorStepA
namespace Go.Proofs.YtannijeiecmjpaaGreatDoor
open Go.RowKit

/-- A text in memory. -/
abbrev strV (s : Byt) : Value := .string ⟨s.toArray⟩
abbrev encM (m : MoveD) : List Value := [strV m.1, .int .i64 m.2]
theorem encM_one (m : MoveD) : ∀ u ∈ encM m, u.oneCell' = true := by
  intro u hu; simp [encM] at hu; rcases hu with rfl | rfl <;> rfl
theorem have_take (L : List MoveD) (s : Byt) (k : Nat) (h : k < L.length) : haveM (L.take (k + 1)) s = if L[k].1 = s then haveM (L.take k) s + L[k].2 else haveM (L.take k) s := by
  rw [List.take_succ_eq_append_getElem h, haveM_snoc]
theorem movesOk_take {L : List MoveD} (h : MovesOk L) (k : Nat) : MovesOk (L.take k) := fun m hm => h m (List.mem_of_mem_take hm)
theorem movesOk_len {L : List MoveD} (h : MovesOk L) : ∀ m ∈ L, m.1.length ≤ 12 := fun m hm => by
  have h1 := (h m hm).1
  unfold nameOk at h1
  simp only [Bool.and_eq_true, decide_eq_true_eq] at h1
  exact h1.1.2
/-- Of what was there nothing turned but the blocks of S. -/
structure FrS (S : Nat → Prop) (w w' : World) : Prop where
  os : w'.os = w.os
  tape : w'.tape = w.tape
  output : w'.output = w.output
  size : w.heap.size ≤ w'.heap.size
  block : ∀ k, k < w.heap.size → ¬ S k → w'.heap[k]? = w.heap[k]?
theorem FrS.refl (S : Nat → Prop) (w : World) : FrS S w w := ⟨rfl, rfl, rfl, Nat.le_refl _, fun _ _ _ => rfl⟩
theorem FrS.trans {S : Nat → Prop} {a b c : World} (h : FrS S a b) (k : FrS S b c) : FrS S a c :=
  ⟨k.os.trans h.os, k.tape.trans h.tape, k.output.trans h.output, Nat.le_trans h.size k.size, fun i hi hs => (k.block i (Nat.lt_of_lt_of_le hi h.size) hs).trans (h.block i hi hs)⟩
theorem FrS.mono {S S' : Nat → Prop} {a b : World} (h : FrS S a b) (hs : ∀ k, k < a.heap.size → S k → S' k) : FrS S' a b :=
  ⟨h.os, h.tape, h.output, h.size, fun k hk hk2 => h.block k hk (fun h3 => hk2 (hs k hk h3))⟩
theorem FrS.of_below {S : Nat → Prop} {a b : World} (h : Below a.heap.size a b) : FrS S a b := ⟨h.os, h.tape, h.output, h.size, fun k hk _ => h.block k hk⟩
theorem FrS.of_grown {S : Nat → Prop} {a b : World} {row : Option Nat} (h : a.grownBy b row) (hs : ∀ k, row = some k → S k) : FrS S a b :=
  ⟨h.os, h.tape, h.output, h.size, fun k hk hk2 => h.block k hk (fun e => hk2 (hs k e.symm))⟩
theorem FrS.below {S : Nat → Prop} {a b : World} {B : Nat} (h : FrS S a b) (hB : B ≤ a.heap.size) (hs : ∀ k, S k → B ≤ k) : Below B a b :=
  ⟨h.os, h.tape, h.output, h.size, fun k hk => h.block k (by omega) (fun h2 => by have := hs k h2; omega)⟩
theorem own_frs {S : Nat → Prop} {w w' : World} {base e size n : Nat} {v : Value} {xs : List Value} (h : w.ownsRow base e size v n xs) (hf : FrS S w w') (hv : ∀ b, v.ownBlock = some b → ¬ S b) : w'.ownsRow base e size v n xs := by
  refine ⟨h.1, ?_⟩
  rcases h.2 with hn | ⟨g, cap, cur, rfl, hg, hh, r⟩
  · exact Or.inl hn
  · exact Or.inr ⟨g, cap, cur, rfl, hg, by rw [hf.block g (h.lt g rfl).2 (hv g rfl)]; exact hh, r⟩
theorem cell_frs {S : Nat → Prop} {w w' : World} {a : Addr} {v : Value} (h : w.cell? a = some v) (hf : FrS S w w') (hv : ¬ S a.block) : w'.cell? a = some v := (World.cell?_of_block (hf.block a.block (lt_of_cell h) hv)).trans h
theorem frozen_frs {S : Nat → Prop} {w w' : World} {a : Addr} (h : w.frozen? a = false) (hl : a.block < w.heap.size) (hf : FrS S w w') (hv : ¬ S a.block) : w'.frozen? a = false := (World.frozen?_of_block (hf.block a.block hl hv)).trans h
/-- The reference's depot lies at bd; its row v is the call's own, from block base on. -/
structure RefDep (base bd : Nat) (v : Value) (L : List MoveD) (w : World) : Prop where
  cell : w.cell? ⟨bd, 0, none⟩ = some v
  free : w.frozen? ⟨bd, 0, none⟩ = false
  row : w.ownsRow base 39 2 v L.length (L.flatMap encM)
  ok : MovesOk L
  far : ∀ b, v.ownBlock = some b → b ≠ bd
/-- The blocks of it. -/
def refBlocks (bd : Nat) (v : Value) (k : Nat) : Prop := k = bd ∨ v.ownBlock = some k
theorem RefDep.frs {base bd : Nat} {v : Value} {L : List MoveD} {w w' : World} {S : Nat → Prop} (h : RefDep base bd v L w) (hf : FrS S w w') (hS : ∀ k, refBlocks bd v k → ¬ S k) : RefDep base bd v L w' :=
  ⟨cell_frs h.cell hf (hS bd (Or.inl rfl)), frozen_frs h.free (lt_of_cell h.cell) hf (hS bd (Or.inl rfl)), own_frs h.row hf (fun b hb => hS b (Or.inr hb)), h.ok, h.far⟩
theorem RefDep.at {base bd : Nat} {v : Value} {L : List MoveD} {w w' : World} (h : RefDep base bd v L w) (hb : Below w.heap.size w w') : RefDep base bd v L w' :=
  h.frs (S := fun _ => False) (FrS.of_below hb) (fun _ _ h => h)
theorem RefDep.elems {base bd : Nat} {v : Value} {L : List MoveD} {w : World} (h : RefDep base bd v L w) : ∃ a c, v = .slice a L.length c ∧ Elems encM 2 w a L := by
  obtain ⟨a, c, h1, h2, _⟩ := elems_of_owns (enc := encM) (fun _ => rfl) rfl h.row
  exact ⟨a, c, h1, h2⟩
set_option maxRecDepth 100000 in
set_option maxHeartbeats 4000000 in
theorem refHave_any (bd : Nat) (L : List MoveD) (s : Byt) (w : World) (hL : L.length ≤ 500) {base : Nat} {v : Value} (H : RefDep base bd v L w) :
    Calls Tryz.prog 10 #[.pointer (some ⟨bd, 0, none⟩), strV s] w fun e w' => e = .returned (.int .i64 (haveM L s)) ∧ Below w.heap.size w w' := by
  obtain ⟨a, c, rfl, h2⟩ := H.elems
  have h1 := H.cell
  have HX := Lib.hid h2
  have HM := Lib.hid H.ok
  clear h2 H
  go_enter Tryz.func10, Tryz.ntmps10
  go_wp2
  go_loopw [5, 13] (fun nv iv wr => ∃ k : Nat, k ≤ L.length ∧ iv = .int .i64 k ∧ nv = .int .i64 (haveM (L.take k) s) ∧ Below w.heap.size w wr) (fun _ iv _ => L.length - (intOf iv).toNat)
  case atStart => exact ⟨0, by omega, rfl, rfl, Below.refl _ _⟩
  case round =>
    obtain ⟨k, hk, rfl, rfl, hb⟩ := hrel
    by_cases hlt : k < L.length
    · obtain ⟨b, o, rfl, hc⟩ := HX.out.some hlt
      have c0 := hc k hlt 0 _ rfl
      have c1 := hc k hlt 1 _ rfl
      have d0 := (hb.cell (lt_of_cell c0)).trans c0
      have d1 := (hb.cell (lt_of_cell c1)).trans c1
      simp only [Nat.add_zero] at d0
      have hst := have_take L s k hlt
      have hbd := haveM_bound (movesOk_take HM.out k) s
      have hok := HM.out _ (List.getElem_mem hlt)
      have htl : (L.take k).length ≤ 500 := by rw [List.length_take]; omega
      have hbb := hb.size
      clear hc c0 c1
      generalize L[k] = m at *
      obtain ⟨t, mu⟩ := m
      simp only at d0 d1 hst hok
      generalize haveM (L.take k) s = q at *
      have hwq : IntKind.i64.wrap (q + mu) = q + mu := IntWalk.i64_in _ (by omega)
      by_cases hts : t = s
      · rw [if_pos hts] at hst
        have hd : (t == s) = true := beq_iff_eq.2 hts
        have HS := Lib.hid hst
        clear hts
        go_wp2
        exact ⟨⟨k + 1, by omega, by go_num, by rw [HS.out], hb.alloc hbb _⟩, by simp [intOf]; omega⟩
      · rw [if_neg hts] at hst
        have hd : (t == s) = false := beq_eq_false_iff_ne.2 hts
        have HS := Lib.hid hst
        clear hts
        go_wp2
        exact ⟨⟨k + 1, by omega, by go_num, by rw [HS.out], hb.alloc hbb _⟩, by simp [intOf]; omega⟩
    · have hall : L.take k = L := List.take_of_length_le (by omega)
      rw [hall]
      clear hall
      go_wp2
      go_ret
      exact ⟨rfl, hb⟩
theorem cell2_new (w : World) (x y : Value) (t : TypeId) : ∀ j u, [x, y][j]? = some u → (w.alloc (.cells #[x, y] t)).cell? ((⟨w.heap.size, 0, none⟩ : Addr).add j) = some u := by
  intro j u hu
  rcases j with _ | _ | j <;> simp [Addr.add] at hu ⊢ <;> exact hu
theorem rowMv : RowOf Tryz.prog 29 39 (.agg #[.string ⟨#[]⟩, .int .i64 0]) 2 24 := rowOf Tryz.underlying29 (by kernel_rfl) rfl (by decide)
/-- What the reference's Do answers. -/
def RefDoPost (base bd : Nat) (v : Value) (L : List MoveD) (m : MoveD) (w : World) (e : Ending) (w' : World) : Prop :=
  e = .returned (.int .i64 (doErr L m)) ∧ ∃ v', RefDep base bd v' (doneM L m) w' ∧ FrS (refBlocks bd v) w w' ∧ (v'.ownBlock = v.ownBlock ∨ ∀ g, v'.ownBlock = some g → w.heap.size ≤ g)
theorem refDo_none {base bd : Nat} {v : Value} {L : List MoveD} {m : MoveD} {w w' : World} (H : RefDep base bd v L w) (hd : doErr L m ≠ 0) (hb : Below w.heap.size w w') : RefDoPost base bd v L m w (.returned (.int .i64 (doErr L m))) w' := by
  refine ⟨rfl, v, ?_, FrS.of_below hb, Or.inl rfl⟩
  unfold doneM
  rw [if_neg hd]
  exact H.at hb
set_option maxRecDepth 100000 in
set_option maxHeartbeats 8000000 in
theorem refDo_any (base bd : Nat) (L : List MoveD) (m : MoveD) (v : Value) (w : World) (hL : L.length ≤ 500) (H : RefDep base bd v L w) (hbase : base ≤ w.heap.size) (hbd : bd < base) (hm : m.1.length ≤ 9223372036854775807) :
    Calls Tryz.prog 6 #[.pointer (some ⟨bd, 0, none⟩), .agg #[strV m.1, .int .i64 m.2]] w (RefDoPost base bd v L m w) := by
  obtain ⟨s, mu⟩ := m
  simp only at hm
  have hsz : (⟨s.toArray⟩ : ByteArray).size = s.length := by simp [ByteArray.size]
  have hb0 : Below w.heap.size w (w.alloc (.cells #[strV s, .int .i64 mu] 39)) := (Below.refl _ _).alloc (Nat.le_refl _) _
  have HN := Lib.hid (refName_any ⟨s.toArray⟩ (w.alloc (.cells #[strV s, .int .i64 mu] 39)) (by unfold maxLen; omega))
  have HB0 := Lib.hid hb0
  have HNO := Lib.hid (fun hd : doErr L (s, mu) ≠ 0 => fun w' (hb : Below w.heap.size w w') => refDo_none H hd hb)
  have HH := Lib.hid H
  clear hb0 H
  by_cases h1 : nameOk s = true
  case neg =>
    have h1 : nameOk s = false := by simpa using h1
    have HE : Hid (doErr L (s, mu) = 5) := Lib.hid (by unfold doErr; rw [if_pos h1])
    have HV : Hid (nameOk (⟨s.toArray⟩ : ByteArray).data.toList = false) := Lib.hid h1
    rw [HV.out] at HN
    clear h1
    go_enter Tryz.func6, Tryz.ntmps6
    go_wp2_with fail
    refine HN.out.mono ?_
    rintro e w1 ⟨rfl, rfl⟩
    go_wp2
    go_ret
    have h := HNO.out (by rw [HE.out]; decide) _ HB0.out
    rw [HE.out] at h
    exact h
  have HV : Hid (nameOk (⟨s.toArray⟩ : ByteArray).data.toList = true) := Lib.hid h1
  rw [HV.out] at HN
  have hcs : mu < -1000000 ∨ (¬ mu < -1000000 ∧ 1000000 < mu) ∨ (¬ mu < -1000000 ∧ ¬ 1000000 < mu ∧ mu = 0) ∨ (¬ mu < -1000000 ∧ ¬ 1000000 < mu ∧ mu ≠ 0) := by omega
  have HE2 := Lib.hid (fun h : mu = 0 ∨ mu < -1000000 ∨ 1000000 < mu => (show doErr L (s, mu) = 2 by unfold doErr; rw [if_neg (by simp [h1]), if_pos h]))
  have hE3 : ¬ (mu = 0 ∨ mu < -1000000 ∨ 1000000 < mu) → doErr L (s, mu) = if haveM L s + mu < 0 then 8 else if 500 ≤ L.length then 4 else 0 := fun h => by unfold doErr; rw [if_neg (by simp [h1]), if_neg h]
  rcases hcs with g1 | ⟨g1, g2⟩ | ⟨g1, g2, g3⟩ | ⟨g1, g2, g3⟩
  · have HE := Lib.hid (HE2.out (by omega))
    have d1 := decide_eq_true g1
    clear h1 hE3
    go_enter Tryz.func6, Tryz.ntmps6
    go_wp2_with fail
    refine HN.out.mono ?_
    rintro e w1 ⟨rfl, rfl⟩
    go_wp2
    go_ret
    have h := HNO.out (by rw [HE.out]; decide) _ HB0.out
    rw [HE.out] at h
    exact h
  · have HE := Lib.hid (HE2.out (by omega))
    have d1 := decide_eq_false g1
    have d2 := decide_eq_true g2
    clear h1 hE3
    go_enter Tryz.func6, Tryz.ntmps6
    go_wp2_with fail
    refine HN.out.mono ?_
    rintro e w1 ⟨rfl, rfl⟩
    go_wp2
    go_ret
    have h := HNO.out (by rw [HE.out]; decide) _ HB0.out
    rw [HE.out] at h
    exact h
  · have HE := Lib.hid (HE2.out (by omega))
    have d1 := decide_eq_false g1
    have d2 := decide_eq_false g2
    have d3 : (mu == 0) = true := by simp [g3]
    clear h1 hE3 g3
    go_enter Tryz.func6, Tryz.ntmps6
    go_wp2_with fail
    refine HN.out.mono ?_
    rintro e w1 ⟨rfl, rfl⟩
    go_wp2
    go_ret
    have h := HNO.out (by rw [HE.out]; decide) _ HB0.out
    rw [HE.out] at h
    exact h
  have HE3 := Lib.hid (hE3 (by omega))
  have d1 := decide_eq_false g1
  have d2 := decide_eq_false g2
  have d3 : (mu == 0) = false := by simp [g3]
  have hbd2 := haveM_bound HH.out.ok s
  obtain ⟨W, hW⟩ : ∃ W, W = w.alloc (.cells #[strV s, .int .i64 mu] 39) := ⟨_, rfl⟩
  obtain ⟨B, hB⟩ : ∃ B, B = w.heap.size := ⟨_, rfl⟩
  have a0 : W.cell? ⟨B, 0, none⟩ = some (strV s) := by rw [hW, hB]; simp
  have a1 : W.cell? ⟨B, 1, none⟩ = some (.int .i64 mu) := by rw [hW, hB]; simp
  have f0 : RefDep base bd v L W := by rw [hW]; exact HH.out.at HB0.out
  rw [← hW] at HN HB0
  have hWB : B < W.heap.size := by rw [hW, hB]; simp
  obtain ⟨q, hq⟩ : ∃ q, q = haveM L s := ⟨_, rfl⟩
  rw [← hq] at HE3 hbd2
  have hwq : IntKind.i64.wrap (q + mu) = q + mu := IntWalk.i64_in _ (by omega)
  have HQ := Lib.hid hq
  have HBW := Lib.hid hB
  clear h1 hE3 hq
  go_enter Tryz.func6, Tryz.ntmps6
  go_wp2_with fail
  rw [← hW, ← hB]
  clear hW hB
  refine HN.out.mono ?_
  rintro e w1 ⟨rfl, hw1⟩
  rw [hw1]
  clear hw1
  go_wp2
  refine wp_region_held_drew (S := fun w' => w'.cell? ⟨B, 0, none⟩ = some (strV s) ∧ w'.cell? ⟨B, 1, none⟩ = some (.int .i64 mu) ∧ RefDep base bd v L w') (by kernel_rfl) ⟨a0, a1, f0.at (below_drewN W 1 _)⟩ (fun hHeld => ?_)
  refine take_yes (i := 0) (v := ?_) rfl (by kernel_rfl) (by kernel_rfl) (by kernel_rfl) (fun _ _ _ h => h) (by kernel_rfl) hHeld ?_ ?_
  rotate_left
  · intro w hSw; go_split_ands; go_simp; try with_reducible rfl
  try simp only [Act.put, List.setIfInBounds_toArray, List.set_cons_zero, List.set_cons_succ]
  refine take_yes (i := 1) (v := ?_) rfl (by kernel_rfl) (by kernel_rfl) (by kernel_rfl) (fun _ _ _ h => h) (by kernel_rfl) hHeld ?_ ?_
  rotate_left
  · intro w hSw; go_split_ands; go_simp; try with_reducible rfl
  try simp only [Act.put, List.setIfInBounds_toArray, List.set_cons_zero, List.set_cons_succ]
  refine take_yes (i := 2) (v := ?_) rfl (by kernel_rfl) (by kernel_rfl) (by kernel_rfl) (fun _ _ _ h => h) (by kernel_rfl) hHeld ?_ ?_
  rotate_left
  · intro w hSw; go_split_ands; go_simp; try with_reducible rfl
  try simp only [Act.put, List.setIfInBounds_toArray, List.set_cons_zero, List.set_cons_succ]
  refine take_yes (i := 4) (v := ?_) rfl (by kernel_rfl) (by kernel_rfl) (by kernel_rfl) (fun _ _ _ h => h) (by kernel_rfl) hHeld ?_ ?_
  rotate_left
  · intro w hSw; go_split_ands; go_simp; try with_reducible rfl
  try simp only [Act.put, List.setIfInBounds_toArray, List.set_cons_zero, List.set_cons_succ]
  refine take_yes (i := 5) (v := ?_) rfl (by kernel_rfl) (by kernel_rfl) (by kernel_rfl) (fun _ _ _ h => h) (by kernel_rfl) hHeld ?_ ?_
  rotate_left
  · intro w hSw; go_split_ands; go_simp; try with_reducible rfl
  try simp only [Act.put, List.setIfInBounds_toArray, List.set_cons_zero, List.set_cons_succ]
  refine take_loud (i := 3) rfl (by kernel_rfl) (fun K hK => ?_)
  go_wp2_with (go_at_call 10; refine (refHave_any bd L s _ hL hHeld.2.2).mono ?_; rintro e wN ⟨rfl, hbN⟩)
  rw [← HQ.out]
  refine hK.out _ _ ⟨(hbN.cell (lt_of_cell hHeld.1)).trans hHeld.1, (hbN.cell (lt_of_cell hHeld.2.1)).trans hHeld.2.1, hHeld.2.2.at hbN⟩ (fun hHeld2 => ?_)
  have HBN := Lib.hid (show Below w.heap.size w wN from HB0.out.trans ((below_drewN W 1 _).trans (hbN.mono HB0.out.size)))
  obtain ⟨e0, e1, e2⟩ := hHeld2
  clear hK K hHeld hbN
  try simp only [Act.put, List.setIfInBounds_toArray, List.set_cons_zero, List.set_cons_succ]
  refine take_yes (i := 6) (v := ?_) rfl (by kernel_rfl) (by kernel_rfl) (by kernel_rfl) (fun _ _ _ h => h) (by kernel_rfl) ⟨e0, e1, e2⟩ ?_ ?_
  rotate_left
  · intro w hSw; go_split_ands; go_simp; try with_reducible rfl
  try simp only [Act.put, List.setIfInBounds_toArray, List.set_cons_zero, List.set_cons_succ]
  refine take_yes (i := 7) (v := ?_) rfl (by kernel_rfl) (by kernel_rfl) (by kernel_rfl) (fun _ _ _ h => h) (by kernel_rfl) ⟨e0, e1, e2⟩ ?_ ?_
  rotate_left
  · intro w hSw; go_split_ands; go_simp; try with_reducible rfl
  try simp only [Act.put, List.setIfInBounds_toArray, List.set_cons_zero, List.set_cons_succ]
  refine wpAnyH_done (by kernel_rfl) ?_ _
  have e3 := e2.cell
  obtain ⟨ad, cp, hv, _⟩ := e2.elems
  rw [hv] at e3
  by_cases hlow : q + mu < 0
  · have hdl := decide_eq_true hlow
    rw [hdl]
    have HE := Lib.hid (HE3.out.trans (if_pos hlow))
    clear hlow
    go_wp2
    go_ret
    have h := HNO.out (by rw [HE.out]; decide) _ HBN.out
    rw [HE.out] at h
    exact h
  have hdl := decide_eq_false hlow
  rw [hdl]
  have HE4 := Lib.hid (HE3.out.trans (if_neg hlow))
  clear hlow
  by_cases h500 : 500 ≤ L.length
  · have hd5 : decide ((500 : Int) ≤ (L.length : Int)) = true := decide_eq_true (by omega)
    have HE := Lib.hid (HE4.out.trans (if_pos h500))
    clear h500
    go_wp2
    go_ret
    have h := HNO.out (by rw [HE.out]; decide) _ HBN.out
    rw [HE.out] at h
    exact h
  have hd5 : decide ((500 : Int) ≤ (L.length : Int)) = false := decide_eq_false (by omega)
  have HE := Lib.hid (HE4.out.trans (if_neg h500))
  clear h500
  have hmok : MovesOk (L ++ [(s, mu)]) := by
    have h := movesOk_done (m := (s, mu)) e2.ok
    unfold doneM at h
    rw [if_pos HE.out] at h
    exact h
  have HMOK := Lib.hid hmok
  have hnB : bd ≠ B := by have := HBW.out; omega
  have hWN : w.heap.size ≤ wN.heap.size := HBN.out.size
  have hbN : base ≤ wN.heap.size := by omega
  have hvb : v.ownBlock ≠ some bd := fun e => e2.far bd e rfl
  -- what is left behind an append and the store
  have HKEY : Hid (∀ (w4 w5 : World) (ar : Option Addr) (cr : Nat), Below wN.heap.size wN w4 → w5.ownsRow base 39 2 (.slice ar (L.length + 1) cr) (L.length + 1) (L.flatMap encM ++ encM (s, mu)) → w4.grownBy w5 v.ownBlock → ((Value.slice ar (L.length + 1) cr).ownBlock = v.ownBlock ∨ ∀ g, (Value.slice ar (L.length + 1) cr).ownBlock = some g → w4.heap.size ≤ g) →
      (w5.cell? ⟨bd, 0, none⟩ = some v ∧ w5.frozen? ⟨bd, 0, none⟩ = false ∧ w5.cell? ⟨B, 0, none⟩ = some (strV s) ∧ w5.cell? ⟨B, 1, none⟩ = some (.int .i64 mu) ∧ bd < w5.heap.size) ∧ RefDoPost base bd v L (s, mu) w (.returned (.int .i64 0)) (w5.setCell ⟨bd, 0, none⟩ (.slice ar (L.length + 1) cr))) := Lib.hid (fun w4 w5 ar cr hb4 h1 h2 h3 => by
    have k0 := e2.at hb4
    have hBv : v.ownBlock ≠ some B := fun e => by
      have h := (HH.out.row.lt B e).2
      have := HBW.out
      omega
    have b0 := (hb4.cell (lt_of_cell e0)).trans e0
    have b1 := (hb4.cell (lt_of_cell e1)).trans e1
    have c5 := (World.cell?_of_block (a := ⟨bd, 0, none⟩) (h2.block bd (lt_of_cell k0.cell) (fun e => hvb e.symm))).trans k0.cell
    have f5 := (World.frozen?_of_block (a := ⟨bd, 0, none⟩) (h2.block bd (lt_of_cell k0.cell) (fun e => hvb e.symm))).trans k0.free
    refine ⟨⟨c5, f5, (World.cell?_of_block (a := ⟨B, 0, none⟩) (h2.block B (lt_of_cell b0) (fun e => hBv e.symm))).trans b0, (World.cell?_of_block (a := ⟨B, 1, none⟩) (h2.block B (lt_of_cell b1) (fun e => hBv e.symm))).trans b1, lt_of_cell c5⟩, ?_⟩
    have hfar : ∀ b, (Value.slice ar (L.length + 1) cr).ownBlock = some b → b ≠ bd := fun b hb e => by
      rcases h3 with h3 | h3
      · exact e2.far b (by rw [← h3]; exact hb) e
      · have h4 := h3 b hb
        have h5 := lt_of_cell k0.cell
        simp only at h5
        omega
    have hset : w5.grownBy (w5.setCell ⟨bd, 0, none⟩ (.slice ar (L.length + 1) cr)) (some bd) := ⟨rfl, rfl, rfl, by simp [World.setCell], fun i hi h4 => Below.heap_setCell _ _ _ _ (fun h5 => h4 (by rw [h5]))⟩
    have hl : (L ++ [(s, mu)]).length = L.length + 1 := by simp
    refine ⟨by rw [HE.out], .slice ar (L.length + 1) cr, ?_, ?_, ?_⟩
    · unfold doneM
      rw [if_pos HE.out]
      refine ⟨World.cell?_setCell_same _ _ _ c5, by rw [World.frozen?_setCell]; exact f5, ?_, HMOK.out, hfar⟩
      rw [hl, List.flatMap_append]
      have h6 : w5.ownsRow base 39 2 (.slice ar (L.length + 1) cr) (L.length + 1) (L.flatMap encM ++ [(s, mu)].flatMap encM) := by simpa using h1
      exact h6.kept hset (by
        cases hb : (Value.slice ar (L.length + 1) cr).ownBlock with
        | none => exact Or.inl rfl
        | some b => exact Or.inr (fun e => hfar b hb (Option.some.inj e)))
    · have g1 : FrS (refBlocks bd v) w w4 := FrS.of_below (HBN.out.trans (hb4.mono hWN))
      have g2 : FrS (refBlocks bd v) w4 w5 := FrS.of_grown h2 (fun k hk => Or.inr hk)
      have g3 : FrS (refBlocks bd v) w5 (w5.setCell ⟨bd, 0, none⟩ (.slice ar (L.length + 1) cr)) := FrS.of_grown hset (fun k hk => Or.inl (Option.some.inj hk).symm)
      exact (g1.trans g2).trans g3
    · rcases h3 with h3 | h3
      · exact Or.inl h3
      · exact Or.inr (fun g hg => Nat.le_trans (Nat.le_trans hWN hb4.size) (h3 g hg)))
  have hrow := e2.row
  clear hmok
  subst hv
  go_wp2
  refine wp_region_held_drew (S := fun w' => w'.cell? ⟨B, 0, none⟩ = some (strV s) ∧ w'.cell? ⟨B, 1, none⟩ = some (.int .i64 mu)) (by kernel_rfl) ⟨e0, e1⟩ (fun hHeld => ?_)
  refine take_yes (i := 0) (v := ?_) rfl (by kernel_rfl) (by kernel_rfl) (by kernel_rfl) (fun _ _ _ h => h) (by kernel_rfl) hHeld ?_ ?_
  rotate_left
  · intro w hSw; go_split_ands; go_simp; try with_reducible rfl
  try simp only [Act.put, List.setIfInBounds_toArray, List.set_cons_zero, List.set_cons_succ]
  refine take_yes (i := 1) (v := ?_) rfl (by kernel_rfl) (by kernel_rfl) (by kernel_rfl) (fun _ _ _ h => h) (by kernel_rfl) hHeld ?_ ?_
  rotate_left
  · intro w hSw; go_split_ands; go_simp; try with_reducible rfl
  try simp only [Act.put, List.setIfInBounds_toArray, List.set_cons_zero, List.set_cons_succ]
  refine take_yes (i := 2) (v := ?_) rfl (by kernel_rfl) (by kernel_rfl) (by kernel_rfl) (fun _ _ _ h => h) (by kernel_rfl) hHeld ?_ ?_
  rotate_left
  · intro w hSw; go_split_ands; go_simp; try with_reducible rfl
  try simp only [Act.put, List.setIfInBounds_toArray, List.set_cons_zero, List.set_cons_succ]
  refine take_yes (i := 3) (v := ?_) rfl (by kernel_rfl) (by kernel_rfl) (by kernel_rfl) (fun _ _ _ h => h) (by kernel_rfl) hHeld ?_ ?_
  rotate_left
  · intro w hSw; go_split_ands; go_simp; try with_reducible rfl
  try simp only [Act.put, List.setIfInBounds_toArray, List.set_cons_zero, List.set_cons_succ]
  refine take_yes (i := 5) (v := ?_) rfl (by kernel_rfl) (by kernel_rfl) (by kernel_rfl) (fun _ _ _ h => h) (by kernel_rfl) hHeld ?_ ?_
  rotate_left
  · intro w hSw; go_split_ands; go_simp; try with_reducible rfl
  try simp only [Act.put, List.setIfInBounds_toArray, List.set_cons_zero, List.set_cons_succ]
  have HROW := Lib.hid hrow
  clear hrow
  refine take_both (i := 4) (j := 6) rfl rfl (by kernel_rfl) (fun K hK => ?_) (fun K hK => ?_)
  · skip
    go_simp
    refine hK.out _ _ hHeld (fun hHeld => ?_)
    clear hK K
    try simp only [Act.put, List.setIfInBounds_toArray, List.set_cons_zero, List.set_cons_succ]
    refine take_loud (i := 6) rfl (by kernel_rfl) (fun K hK => ?_)
    go_simp
    refine hK.out _ _ ⟨cell_a1 hHeld.1 _, cell_a1 hHeld.2 _⟩ (fun hHeld => ?_)
    clear hK K
    try simp only [Act.put, List.setIfInBounds_toArray, List.set_cons_zero, List.set_cons_succ]
    refine take_loud (i := 7) rfl (by kernel_rfl) (fun K hK => ?_)
    refine step_app_at rowMv rfl (.tmp 40) (.tmp 42) rfl base (by simp [Act.eval]) (show (wN.drew.alloc (.cells #[strV s, .int .i64 mu] 39)).ownsRow base 39 2 (.slice ad L.length cp) L.length (L.flatMap encM) from HROW.out.alloc _) ⟨wN.heap.size, 0, none⟩ 1 1 (encM (s, mu)) (by simp [Act.eval]) rfl (cell2_new wN.drew _ _ _) (encM_one _) (by unfold maxLen; omega) (by omega) (by simp; omega) (by omega) ?_
    intro ar cr w5 h1 h2 h3
    obtain ⟨⟨c5, f5, b0, b1, _⟩, hpost⟩ := HKEY.out (wN.drew.alloc (.cells #[strV s, .int .i64 mu] 39)) w5 ar cr (((below_drewN wN 1 _)).alloc (Nat.le_refl _) _) h1 h2 h3
    have HPOST := Lib.hid hpost
    refine hK.out _ _ ⟨b0, b1⟩ (fun hHeld => ?_)
    clear hK K h1 h2 h3 hpost
    try simp only [Act.put, List.setIfInBounds_toArray, List.set_cons_zero, List.set_cons_succ]
    refine take_yes (i := 8) (v := ?_) rfl (by kernel_rfl) (by kernel_rfl) (by kernel_rfl) (fun _ _ _ h => h) (by kernel_rfl) hHeld ?_ ?_
    rotate_left
    · intro w hSw; go_split_ands; go_simp; try with_reducible rfl
    try simp only [Act.put, List.setIfInBounds_toArray, List.set_cons_zero, List.set_cons_succ]
    refine take_yes (i := 9) (v := ?_) rfl (by kernel_rfl) (by kernel_rfl) (by kernel_rfl) (fun _ _ _ h => h) (by kernel_rfl) hHeld ?_ ?_
    rotate_left
    · intro w hSw; go_split_ands; go_simp; try with_reducible rfl
    try simp only [Act.put, List.setIfInBounds_toArray, List.set_cons_zero, List.set_cons_succ]
    refine take_loud (i := 10) rfl (by kernel_rfl) (fun K hK => ?_)
    go_simp
    refine hK.out _ _ ⟨by rw [World.cell?_setCell_far _ _ _ _ (by simpa using hnB)]; exact hHeld.1, by rw [World.cell?_setCell_far _ _ _ _ (by simpa using hnB)]; exact hHeld.2⟩ (fun hHeld => ?_)
    clear hK K
    try simp only [Act.put, List.setIfInBounds_toArray, List.set_cons_zero, List.set_cons_succ]
    refine wpAnyH_done (by kernel_rfl) ?_ _
    clear c5 f5 b0 b1 hHeld
    go_wp2
    go_ret
    exact HPOST.out
  · skip
    go_simp
    refine hK.out _ _ ⟨cell_a1 hHeld.1 _, cell_a1 hHeld.2 _⟩ (fun hHeld => ?_)
    clear hK K
    try simp only [Act.put, List.setIfInBounds_toArray, List.set_cons_zero, List.set_cons_succ]
    have e4 := cell_a1 (w := wN) e3 (.cells #[strV s, .int .i64 mu] 39)
    refine take_loud (i := 4) rfl (by kernel_rfl) (fun K hK => ?_)
    go_simp
    refine hK.out _ _ hHeld (fun hHeld => ?_)
    clear hK K
    try simp only [Act.put, List.setIfInBounds_toArray, List.set_cons_zero, List.set_cons_succ]
    clear e4
    refine take_loud (i := 7) rfl (by kernel_rfl) (fun K hK => ?_)
    refine step_app_at rowMv rfl (.tmp 40) (.tmp 42) rfl base (by simp [Act.eval]) (show (wN.drew.alloc (.cells #[strV s, .int .i64 mu] 39)).ownsRow base 39 2 (.slice ad L.length cp) L.length (L.flatMap encM) from HROW.out.alloc _) ⟨wN.heap.size, 0, none⟩ 1 1 (encM (s, mu)) (by simp [Act.eval]) rfl (cell2_new wN.drew _ _ _) (encM_one _) (by unfold maxLen; omega) (by omega) (by simp; omega) (by omega) ?_
    intro ar cr w5 h1 h2 h3
    obtain ⟨⟨c5, f5, b0, b1, _⟩, hpost⟩ := HKEY.out (wN.drew.alloc (.cells #[strV s, .int .i64 mu] 39)) w5 ar cr (((below_drewN wN 1 _)).alloc (Nat.le_refl _) _) h1 h2 h3
    have HPOST := Lib.hid hpost
    refine hK.out _ _ ⟨b0, b1⟩ (fun hHeld => ?_)
    clear hK K h1 h2 h3 hpost
    try simp only [Act.put, List.setIfInBounds_toArray, List.set_cons_zero, List.set_cons_succ]
    refine take_yes (i := 8) (v := ?_) rfl (by kernel_rfl) (by kernel_rfl) (by kernel_rfl) (fun _ _ _ h => h) (by kernel_rfl) hHeld ?_ ?_
    rotate_left
    · intro w hSw; go_split_ands; go_simp; try with_reducible rfl
    try simp only [Act.put, List.setIfInBounds_toArray, List.set_cons_zero, List.set_cons_succ]
    refine take_yes (i := 9) (v := ?_) rfl (by kernel_rfl) (by kernel_rfl) (by kernel_rfl) (fun _ _ _ h => h) (by kernel_rfl) hHeld ?_ ?_
    rotate_left
    · intro w hSw; go_split_ands; go_simp; try with_reducible rfl
    try simp only [Act.put, List.setIfInBounds_toArray, List.set_cons_zero, List.set_cons_succ]
    refine take_loud (i := 10) rfl (by kernel_rfl) (fun K hK => ?_)
    go_simp
    refine hK.out _ _ ⟨by rw [World.cell?_setCell_far _ _ _ _ (by simpa using hnB)]; exact hHeld.1, by rw [World.cell?_setCell_far _ _ _ _ (by simpa using hnB)]; exact hHeld.2⟩ (fun hHeld => ?_)
    clear hK K
    try simp only [Act.put, List.setIfInBounds_toArray, List.set_cons_zero, List.set_cons_succ]
    refine wpAnyH_done (by kernel_rfl) ?_ _
    clear c5 f5 b0 b1 hHeld
    go_wp2
    go_ret
    exact HPOST.out
theorem journal_take (L : List MoveD) (k : Nat) (h : k < L.length) : journalM (L.take (k + 1)) = journalM (L.take k) ++ lineM k L[k] := by
  rw [List.take_succ_eq_append_getElem h, journal_snoc, List.length_take, Nat.min_eq_left (by omega)]
theorem line_len (n : Nat) (m : MoveD) (hn : n ≤ 1000000) (h12 : m.1.length ≤ 12) (m0 : -1000000 ≤ m.2) (m1 : m.2 ≤ 1000000) : (lineM n m).length ≤ 100 := by
  have h1 := body_len n m (by omega) (by omega) (by omega)
  have h2 := check_bound (bodyM n m)
  have h3 := Lib.itoa_length_le (checkM (bodyM n m)) (by omega) (by omega)
  unfold lineM
  simp only [List.length_append, List.length_singleton]
  omega
theorem journal_len {L : List MoveD} (h : MovesOk L) (hl : L.length ≤ 1000000) : ∀ k, k ≤ L.length → (journalM (L.take k)).length ≤ 100 * k := by
  intro k
  induction k with
  | zero => intro _; simp [journalM]
  | succ k ih =>
    intro hk
    have h1 := ih (by omega)
    have hm := h _ (List.getElem_mem (show k < L.length by omega))
    have h12 := movesOk_len h _ (List.getElem_mem (show k < L.length by omega))
    have h2 := line_len k L[k] (by omega) h12 (by omega) (by omega)
    rw [journal_take L k (by omega), List.length_append]
    omega
theorem str_app (a b : Byt) : ((⟨a.toArray⟩ : ByteArray) ++ ⟨b.toArray⟩) = ⟨(a ++ b).toArray⟩ := by
  apply ByteArray.ext
  simp [ByteArray.data_append]
set_option maxRecDepth 100000 in
set_option maxHeartbeats 8000000 in
theorem refJournal_any (base bd : Nat) (L : List MoveD) (v : Value) (w : World) (hL : L.length ≤ 500) (H : RefDep base bd v L w) (hp : PowAt w) :
    Calls Tryz.prog 17 #[.pointer (some ⟨bd, 0, none⟩)] w fun e w' => e = .returned (strV (journalM L)) ∧ Below w.heap.size w w' := by
  obtain ⟨a, c, rfl, h2⟩ := H.elems
  have h1 := H.cell
  have HX := Lib.hid h2
  have HM := Lib.hid H.ok
  have HP := Lib.hid hp
  clear h2 H hp
  go_enter Tryz.func17, Tryz.ntmps17
  go_wp2
  go_loopw [3, 11] (fun sv iv wr => ∃ k : Nat, k ≤ L.length ∧ iv = .int .i64 k ∧ sv = .string ⟨(journalM (L.take k)).toArray⟩ ∧ Below w.heap.size w wr) (fun _ iv _ => L.length - (intOf iv).toNat)
  case atStart => exact ⟨0, by omega, rfl, rfl, Below.refl _ _⟩
  case round =>
    obtain ⟨k, hk, rfl, rfl, hb⟩ := hrel
    by_cases hlt : k < L.length
    · obtain ⟨b, o, rfl, hc⟩ := HX.out.some hlt
      have c0 := hc k hlt 0 _ rfl
      have c1 := hc k hlt 1 _ rfl
      have d0 := (hb.cell (lt_of_cell c0)).trans c0
      have d1 := (hb.cell (lt_of_cell c1)).trans c1
      simp only [Nat.add_zero] at d0
      have hjt := journal_take L k hlt
      have hjl := journal_len HM.out (by omega) k hk
      have hok := HM.out _ (List.getElem_mem hlt)
      have h12 := movesOk_len HM.out _ (List.getElem_mem hlt)
      have hll := line_len k L[k] (by omega) h12 (by omega) (by omega)
      have hbb := hb.size
      clear hc c0 c1
      generalize L[k] = m at *
      obtain ⟨t, mu⟩ := m
      simp only at d0 d1 hjt hok h12 hll
      have hb2 : Below w.heap.size w (wr.alloc (.cells #[strV t, .int .i64 mu] 39)) := hb.alloc hbb _
      have hline := Lib.hid (refLine_any k ⟨t.toArray⟩ mu (wr.alloc (.cells #[strV t, .int .i64 mu] 39)) (by omega) (by simp [ByteArray.size]; omega) (by omega) (by omega) (HP.out.at hb2))
      have HJT := Lib.hid hjt
      have HB2 := Lib.hid hb2
      have hln : lineM k ((⟨t.toArray⟩ : ByteArray).data.toList, mu) = lineM k (t, mu) := rfl
      rw [hln] at hline
      clear hjt hok h12 hb2 hln
      generalize lineM k (t, mu) = ln at *
      generalize journalM (L.take k) = jn at *
      have k1 : ¬ 9223372036854775807 < jn.length + ln.length := by omega
      go_wp2_with fail
      refine hline.out.mono ?_
      rintro e w3 ⟨rfl, hb3⟩
      have hb4 := HB2.out.trans (hb3.mono HB2.out.size)
      clear hb3
      go_wp2
      exact ⟨⟨k + 1, by omega, by go_num, by rw [HJT.out, str_app], hb4⟩, by simp [intOf]; omega⟩
    · have hall : L.take k = L := List.take_of_length_le (by omega)
      rw [hall]
      clear hall
      go_wp2
      go_ret
      exact ⟨rfl, hb⟩
end Go.Proofs.YtannijeiecmjpaaGreatDoor
