/- depot.line and the reference's Line tell lineM. -/
import Derived.Test.YtannijeiecmjpaaGreatDoorRows
import Derived.Test.YtannijeiecmjpaaGreatDoorDepM
import Derived.Test.YtannijeiecmjpaaGreatDoorShelfD
import Derived.Lib.SmallJoins
import Derived.Lib.ItoaLen
import Derived.Laws.Concat
import Derived.Deep.DeepCutAuto
namespace Go.Proofs.YtannijeiecmjpaaGreatDoor
open Go.RowKit Go.Shelf

/-- The library's table of powers of ten is what it is. -/
abbrev PowAt (w : World) : Prop := Lib.TabIs Tryz.prog w "internal/strconv.uint64pow10" .u64 Lib.pow10Tab
theorem powG : Tryz.prog.globalNamed "internal/strconv.uint64pow10" = some 6 := by kernel_rfl
theorem PowAt.at {w w' : World} (h : PowAt w) (hb : Below w.heap.size w w') : PowAt w' := by
  have hg := powG
  exact Joins.var_stays hg h hb (Nat.le_refl _)
theorem itoa_any (n : Int) (w : World) (h0 : -9223372036854775808 ≤ n) (h1 : n ≤ 9223372036854775807) (hp : PowAt w) :
    Calls Tryz.prog 34 #[.int .i64 n] w fun e w' => e = .returned (.string ⟨(Lib.itoa n).toArray⟩) ∧ Below w.heap.size w w' := by
  refine Calls.mono (Any.strconv_Itoa itoaL n h0 h1 w hp) ?_
  rintro e w' ⟨rfl, k, os, rfl⟩
  refine ⟨rfl, ?_⟩
  exact ⟨rfl, rfl, rfl, by simp [Sort.grow], fun k hk => by show ((w.heap ++ os)[k]?) = w.heap[k]?; rw [Array.getElem?_append_left hk]⟩
theorem body_bytes (n : Nat) (th : ByteArray) (mu : Int) : ((⟨(Lib.itoa (n : Int)).toArray⟩ : ByteArray) ++ ⟨#[32]⟩ ++ th ++ ⟨#[32]⟩ ++ ⟨(Lib.itoa mu).toArray⟩) = ⟨(bodyM n (th.data.toList, mu)).toArray⟩ := by
  obtain ⟨⟨l⟩⟩ := th
  apply ByteArray.ext
  simp [bodyM, ByteArray.data_append]
theorem line_bytes (b : Byt) (c : Int) : (⟨(b ++ [32] ++ Lib.itoa c ++ [10]).toArray⟩ : ByteArray) = ⟨b.toArray⟩ ++ ⟨#[32]⟩ ++ ⟨(Lib.itoa c).toArray⟩ ++ ⟨#[10]⟩ := by
  apply ByteArray.ext
  simp [ByteArray.data_append]
theorem check_wrap {c : Int} {x : Nat} (h0 : 0 ≤ c) (h1 : c < 9973) (hx : x < 256) : (wrap64 (31 * c + wrap64 (x : Int))).tmod 9973 = (31 * c + (x : Int)) % 9973 := by
  rw [IntWalk.wrap64_in (x : Int) (by omega), IntWalk.wrap64_in _ (by omega), Int.tmod_eq_emod_of_nonneg (by omega)]
theorem body_len (n : Nat) (m : MoveD) (hn : (n : Int) ≤ 9223372036854775807) (m0 : -9223372036854775808 ≤ m.2) (m1 : m.2 ≤ 9223372036854775807) : (bodyM n m).length ≤ m.1.length + 44 := by
  have h1 := Lib.itoa_length_le (n : Int) (by omega) hn
  have h2 := Lib.itoa_length_le m.2 m0 m1
  unfold bodyM
  simp only [List.length_append, List.length_singleton]
  omega
set_option maxRecDepth 100000 in
set_option maxHeartbeats 4000000 in
theorem depLine_any (n : Nat) (th : ByteArray) (mu : Int) (w : World) (hn : n ≤ 1000000) (hth : th.size ≤ 1000000) (m0 : -9223372036854775808 ≤ mu) (m1 : mu ≤ 9223372036854775807) (hp : PowAt w) :
    Calls Tryz.prog 21 #[.int .i64 n, .agg #[.string th, .int .i64 mu]] w fun e w' => e = .returned (.string ⟨(lineM n (th.data.toList, mu)).toArray⟩) ∧ Below w.heap.size w w' := by
  have hb0 : Below w.heap.size w (w.alloc (.cells #[.string th, .int .i64 mu] 36)) := (Below.refl _ _).alloc (Nat.le_refl _) _
  have hp0 := hp.at hb0
  have a0 : (w.alloc (.cells #[.string th, .int .i64 mu] 36)).cell? ⟨w.heap.size, 0, none⟩ = some (.string th) := by simp
  have a1 : (w.alloc (.cells #[.string th, .int .i64 mu] 36)).cell? ⟨w.heap.size, 1, none⟩ = some (.int .i64 mu) := by simp
  obtain ⟨W, hW⟩ : ∃ W, W = w.alloc (.cells #[.string th, .int .i64 mu] 36) := ⟨_, rfl⟩
  obtain ⟨b, hbw⟩ : ∃ b, b = w.heap.size := ⟨_, rfl⟩
  rw [← hW] at hp0 a0 a1 hb0
  rw [← hbw] at a0 a1
  have HB0 := Lib.hid hb0
  go_enter Tryz.func21, Tryz.ntmps21
  go_upto_region 1 with (fail)
  rw [← hW, ← hbw]
  have HW := Lib.hid hW
  clear hW hbw hp hb0
  have hl1 := Lib.itoa_length_le (n : Int) (by omega) (by omega)
  have hl2 := Lib.itoa_length_le mu m0 m1
  have k1 : ¬ 9223372036854775807 < (Lib.itoa (n : Int)).length + 1 := by omega
  have k2 : ¬ 9223372036854775807 < (Lib.itoa (n : Int)).length + 1 + th.size := by omega
  have k3 : ¬ 9223372036854775807 < (Lib.itoa (n : Int)).length + 1 + th.size + 1 := by omega
  have k4 : ¬ 9223372036854775807 < (Lib.itoa (n : Int)).length + 1 + th.size + 1 + (Lib.itoa mu).length := by omega
  go_cut [5] (fun v wx => v = .string ⟨(bodyM n (th.data.toList, mu)).toArray⟩ ∧ Below W.heap.size W wx)
  case first =>
    have kB := Below.refl W.drew.heap.size W.drew
    refine wp_region_held_drew (S := fun w' => w'.cell? ⟨b, 0, none⟩ = some (.string th) ∧ w'.cell? ⟨b, 1, none⟩ = some (.int .i64 mu) ∧ PowAt w') (by kernel_rfl) ⟨a0, a1, hp0⟩ (fun hHeld => ?_)
    refine take_yes (i := 0) (v := ?_) rfl (by kernel_rfl) (by kernel_rfl) (by kernel_rfl) (fun _ _ _ h => h) (by kernel_rfl) hHeld ?_ ?_
    rotate_left
    · intro w hSw; go_split_ands; go_simp; try with_reducible rfl
    try simp only [Act.put, List.setIfInBounds_toArray, List.set_cons_zero, List.set_cons_succ]
    refine take_yes (i := 3) (v := ?_) rfl (by kernel_rfl) (by kernel_rfl) (by kernel_rfl) (fun _ _ _ h => h) (by kernel_rfl) hHeld ?_ ?_
    rotate_left
    · intro w hSw; go_split_ands; go_simp; try with_reducible rfl
    try simp only [Act.put, List.setIfInBounds_toArray, List.set_cons_zero, List.set_cons_succ]
    refine take_yes (i := 4) (v := ?_) rfl (by kernel_rfl) (by kernel_rfl) (by kernel_rfl) (fun _ _ _ h => h) (by kernel_rfl) hHeld ?_ ?_
    rotate_left
    · intro w hSw; go_split_ands; go_simp; try with_reducible rfl
    try simp only [Act.put, List.setIfInBounds_toArray, List.set_cons_zero, List.set_cons_succ]
    refine take_yes (i := 7) (v := ?_) rfl (by kernel_rfl) (by kernel_rfl) (by kernel_rfl) (fun _ _ _ h => h) (by kernel_rfl) hHeld ?_ ?_
    rotate_left
    · intro w hSw; go_split_ands; go_simp; try with_reducible rfl
    try simp only [Act.put, List.setIfInBounds_toArray, List.set_cons_zero, List.set_cons_succ]
    refine take_yes (i := 8) (v := ?_) rfl (by kernel_rfl) (by kernel_rfl) (by kernel_rfl) (fun _ _ _ h => h) (by kernel_rfl) hHeld ?_ ?_
    rotate_left
    · intro w hSw; go_split_ands; go_simp; try with_reducible rfl
    try simp only [Act.put, List.setIfInBounds_toArray, List.set_cons_zero, List.set_cons_succ]
    refine take_loud (i := 1) rfl (by kernel_rfl) (fun K hK => ?_)
    go_wp2_with (go_at_call 34; refine (itoa_any (n : Int) _ (by omega) (by omega) hHeld.2.2).mono ?_; rintro e wN ⟨rfl, hbN⟩)
    refine hK.out _ _ ⟨(hbN.cell (lt_of_cell hHeld.1)).trans hHeld.1, (hbN.cell (lt_of_cell hHeld.2.1)).trans hHeld.2.1, PowAt.at hHeld.2.2 hbN⟩ (fun hHeld2 => ?_)
    replace kB := below_next kB hbN
    replace hHeld := hHeld2
    clear hK K hHeld2
    try simp only [Act.put, List.setIfInBounds_toArray, List.set_cons_zero, List.set_cons_succ]
    refine take_yes (i := 2) (v := ?_) rfl (by kernel_rfl) (by kernel_rfl) (by kernel_rfl) (fun _ _ _ h => h) (by kernel_rfl) hHeld ?_ ?_
    rotate_left
    · intro w hSw; go_split_ands; go_simp; try with_reducible rfl
    try simp only [Act.put, List.setIfInBounds_toArray, List.set_cons_zero, List.set_cons_succ]
    refine take_yes (i := 5) (v := ?_) rfl (by kernel_rfl) (by kernel_rfl) (by kernel_rfl) (fun _ _ _ h => h) (by kernel_rfl) hHeld ?_ ?_
    rotate_left
    · intro w hSw; go_split_ands; go_simp; try with_reducible rfl
    try simp only [Act.put, List.setIfInBounds_toArray, List.set_cons_zero, List.set_cons_succ]
    refine take_yes (i := 6) (v := ?_) rfl (by kernel_rfl) (by kernel_rfl) (by kernel_rfl) (fun _ _ _ h => h) (by kernel_rfl) hHeld ?_ ?_
    rotate_left
    · intro w hSw; go_split_ands; go_simp; try with_reducible rfl
    try simp only [Act.put, List.setIfInBounds_toArray, List.set_cons_zero, List.set_cons_succ]
    refine take_loud (i := 9) rfl (by kernel_rfl) (fun K hK => ?_)
    go_wp2_with (go_at_call 34; refine (itoa_any mu _ (by omega) (by omega) hHeld.2.2).mono ?_; rintro e wN ⟨rfl, hbN⟩)
    refine hK.out _ _ ⟨(hbN.cell (lt_of_cell hHeld.1)).trans hHeld.1, (hbN.cell (lt_of_cell hHeld.2.1)).trans hHeld.2.1, PowAt.at hHeld.2.2 hbN⟩ (fun hHeld2 => ?_)
    replace kB := below_next kB hbN
    replace hHeld := hHeld2
    clear hK K hHeld2
    try simp only [Act.put, List.setIfInBounds_toArray, List.set_cons_zero, List.set_cons_succ]
    refine take_yes (i := 10) (v := ?_) rfl (by kernel_rfl) (by kernel_rfl) (by kernel_rfl) (fun _ _ _ h => h) (by kernel_rfl) hHeld ?_ ?_
    rotate_left
    · intro w hSw; go_split_ands; go_simp; try with_reducible rfl
    try simp only [Act.put, List.setIfInBounds_toArray, List.set_cons_zero, List.set_cons_succ]
    refine take_yes (i := 11) (v := ?_) rfl (by kernel_rfl) (by kernel_rfl) (by kernel_rfl) (fun _ _ _ h => h) (by kernel_rfl) hHeld ?_ ?_
    rotate_left
    · intro w hSw; go_split_ands; go_simp; try with_reducible rfl
    try simp only [Act.put, List.setIfInBounds_toArray, List.set_cons_zero, List.set_cons_succ]
    refine wpAnyH_done (by kernel_rfl) ?_ _
    go_wp2_with fail
    go_meet
    case rel => exact ⟨by rw [body_bytes], (below_drewN W 1 _).trans kB⟩
  case rest =>
    obtain ⟨rfl, hbx⟩ := hcut
    have hblen := body_len n (th.data.toList, mu) (by omega) m0 m1
    have hth2 : th.data.toList.length = th.size := by rw [Array.length_toList]; rfl
    have HLM : Hid (lineM n (th.data.toList, mu) = bodyM n (th.data.toList, mu) ++ [32] ++ Lib.itoa (checkM (bodyM n (th.data.toList, mu))) ++ [10]) := Lib.hid rfl
    have hpx := PowAt.at hp0 hbx
    have HBX := Lib.hid (HB0.out.trans (hbx.mono HB0.out.size))
    simp only at hblen
    rw [hth2] at hblen
    generalize bodyM n (th.data.toList, mu) = Bd at *
    have hBl : Bd.length ≤ 2000000 := by omega
    have hsz : (⟨Bd.toArray⟩ : ByteArray).size = Bd.length := by simp [ByteArray.size]
    clear hblen hth2 a0 a1 hp0 hbx hl1 hl2 k1 k2 k3 k4 HW
    go_wp2
    go_loopw [6, 21] (fun cv iv wr => ∃ k : Nat, k ≤ Bd.length ∧ iv = .int .i64 k ∧ cv = .int .i64 (checkM (Bd.take k)) ∧ Hid (Below w.heap.size w wr) ∧ Hid (PowAt wr)) (fun _ iv _ => Bd.length - (intOf iv).toNat)
    case atStart => exact ⟨0, by omega, rfl, rfl, HBX, Lib.hid hpx⟩
    case round =>
      clear HBX hpx
      obtain ⟨k, hk, rfl, rfl, HBX, HPX⟩ := hrel
      by_cases hlt : k < Bd.length
      · have hst := check_take Bd k hlt
        have hcb := check_bound (Bd.take k)
        have hxl : Bd[k].toNat < 256 := Bd[k].toNat_lt
        have HST : Hid ((wrap64 (31 * checkM (Bd.take k) + wrap64 ((Bd[k].toNat : Nat) : Int))).tmod 9973 = checkM (Bd.take (k + 1))) := Lib.hid (by
          rw [hst]; exact check_wrap hcb.1 hcb.2 hxl)
        clear hst hxl
        generalize checkM (Bd.take k) = c at *
        go_wp2
        exact ⟨⟨k + 1, by omega, by go_num, by rw [← HST.out]; rfl, HBX, HPX⟩, by simp [intOf]; omega⟩
      · have hall : Bd.take k = Bd := List.take_of_length_le (by omega)
        rw [hall] at *
        have hcb := check_bound Bd
        generalize checkM Bd = c at *
        have hl3 := Lib.itoa_length_le c (by omega) (by omega)
        have k1 : ¬ 9223372036854775807 < Bd.length + 1 := by omega
        have k2 : ¬ 9223372036854775807 < Bd.length + 1 + (Lib.itoa c).length := by omega
        have k3 : ¬ 9223372036854775807 < Bd.length + 1 + (Lib.itoa c).length + 1 := by omega
        clear hall
        go_wp2_with fail
        refine (itoa_any c _ (by omega) (by omega) HPX.out).mono ?_
        rintro e w3 ⟨rfl, hb3⟩
        go_wp2
        go_ret
        exact ⟨by rw [HLM.out, line_bytes]; rfl, HBX.out.trans (hb3.mono HBX.out.size)⟩
set_option maxRecDepth 100000 in
set_option maxHeartbeats 4000000 in
theorem refLine_any (n : Nat) (th : ByteArray) (mu : Int) (w : World) (hn : n ≤ 1000000) (hth : th.size ≤ 1000000) (m0 : -9223372036854775808 ≤ mu) (m1 : mu ≤ 9223372036854775807) (hp : PowAt w) :
    Calls Tryz.prog 28 #[.int .i64 n, .agg #[.string th, .int .i64 mu]] w fun e w' => e = .returned (.string ⟨(lineM n (th.data.toList, mu)).toArray⟩) ∧ Below w.heap.size w w' := by
  have hb0 : Below w.heap.size w (w.alloc (.cells #[.string th, .int .i64 mu] 39)) := (Below.refl _ _).alloc (Nat.le_refl _) _
  have hp0 := hp.at hb0
  have a0 : (w.alloc (.cells #[.string th, .int .i64 mu] 39)).cell? ⟨w.heap.size, 0, none⟩ = some (.string th) := by simp
  have a1 : (w.alloc (.cells #[.string th, .int .i64 mu] 39)).cell? ⟨w.heap.size, 1, none⟩ = some (.int .i64 mu) := by simp
  obtain ⟨W, hW⟩ : ∃ W, W = w.alloc (.cells #[.string th, .int .i64 mu] 39) := ⟨_, rfl⟩
  obtain ⟨b, hbw⟩ : ∃ b, b = w.heap.size := ⟨_, rfl⟩
  rw [← hW] at hp0 a0 a1 hb0
  rw [← hbw] at a0 a1
  have HB0 := Lib.hid hb0
  go_enter Tryz.func28, Tryz.ntmps28
  go_upto_region 1 with (fail)
  rw [← hW, ← hbw]
  have HW := Lib.hid hW
  clear hW hbw hp hb0
  have hl1 := Lib.itoa_length_le (n : Int) (by omega) (by omega)
  have hl2 := Lib.itoa_length_le mu m0 m1
  have k1 : ¬ 9223372036854775807 < (Lib.itoa (n : Int)).length + 1 := by omega
  have k2 : ¬ 9223372036854775807 < (Lib.itoa (n : Int)).length + 1 + th.size := by omega
  have k3 : ¬ 9223372036854775807 < (Lib.itoa (n : Int)).length + 1 + th.size + 1 := by omega
  have k4 : ¬ 9223372036854775807 < (Lib.itoa (n : Int)).length + 1 + th.size + 1 + (Lib.itoa mu).length := by omega
  go_cut [5] (fun v wx => v = .string ⟨(bodyM n (th.data.toList, mu)).toArray⟩ ∧ Below W.heap.size W wx)
  case first =>
    have kB := Below.refl W.drew.heap.size W.drew
    refine wp_region_held_drew (S := fun w' => w'.cell? ⟨b, 0, none⟩ = some (.string th) ∧ w'.cell? ⟨b, 1, none⟩ = some (.int .i64 mu) ∧ PowAt w') (by kernel_rfl) ⟨a0, a1, hp0⟩ (fun hHeld => ?_)
    refine take_yes (i := 0) (v := ?_) rfl (by kernel_rfl) (by kernel_rfl) (by kernel_rfl) (fun _ _ _ h => h) (by kernel_rfl) hHeld ?_ ?_
    rotate_left
    · intro w hSw; go_split_ands; go_simp; try with_reducible rfl
    try simp only [Act.put, List.setIfInBounds_toArray, List.set_cons_zero, List.set_cons_succ]
    refine take_yes (i := 3) (v := ?_) rfl (by kernel_rfl) (by kernel_rfl) (by kernel_rfl) (fun _ _ _ h => h) (by kernel_rfl) hHeld ?_ ?_
    rotate_left
    · intro w hSw; go_split_ands; go_simp; try with_reducible rfl
    try simp only [Act.put, List.setIfInBounds_toArray, List.set_cons_zero, List.set_cons_succ]
    refine take_yes (i := 4) (v := ?_) rfl (by kernel_rfl) (by kernel_rfl) (by kernel_rfl) (fun _ _ _ h => h) (by kernel_rfl) hHeld ?_ ?_
    rotate_left
    · intro w hSw; go_split_ands; go_simp; try with_reducible rfl
    try simp only [Act.put, List.setIfInBounds_toArray, List.set_cons_zero, List.set_cons_succ]
    refine take_yes (i := 7) (v := ?_) rfl (by kernel_rfl) (by kernel_rfl) (by kernel_rfl) (fun _ _ _ h => h) (by kernel_rfl) hHeld ?_ ?_
    rotate_left
    · intro w hSw; go_split_ands; go_simp; try with_reducible rfl
    try simp only [Act.put, List.setIfInBounds_toArray, List.set_cons_zero, List.set_cons_succ]
    refine take_yes (i := 8) (v := ?_) rfl (by kernel_rfl) (by kernel_rfl) (by kernel_rfl) (fun _ _ _ h => h) (by kernel_rfl) hHeld ?_ ?_
    rotate_left
    · intro w hSw; go_split_ands; go_simp; try with_reducible rfl
    try simp only [Act.put, List.setIfInBounds_toArray, List.set_cons_zero, List.set_cons_succ]
    refine take_loud (i := 1) rfl (by kernel_rfl) (fun K hK => ?_)
    go_wp2_with (go_at_call 34; refine (itoa_any (n : Int) _ (by omega) (by omega) hHeld.2.2).mono ?_; rintro e wN ⟨rfl, hbN⟩)
    refine hK.out _ _ ⟨(hbN.cell (lt_of_cell hHeld.1)).trans hHeld.1, (hbN.cell (lt_of_cell hHeld.2.1)).trans hHeld.2.1, PowAt.at hHeld.2.2 hbN⟩ (fun hHeld2 => ?_)
    replace kB := below_next kB hbN
    replace hHeld := hHeld2
    clear hK K hHeld2
    try simp only [Act.put, List.setIfInBounds_toArray, List.set_cons_zero, List.set_cons_succ]
    refine take_yes (i := 2) (v := ?_) rfl (by kernel_rfl) (by kernel_rfl) (by kernel_rfl) (fun _ _ _ h => h) (by kernel_rfl) hHeld ?_ ?_
    rotate_left
    · intro w hSw; go_split_ands; go_simp; try with_reducible rfl
    try simp only [Act.put, List.setIfInBounds_toArray, List.set_cons_zero, List.set_cons_succ]
    refine take_yes (i := 5) (v := ?_) rfl (by kernel_rfl) (by kernel_rfl) (by kernel_rfl) (fun _ _ _ h => h) (by kernel_rfl) hHeld ?_ ?_
    rotate_left
    · intro w hSw; go_split_ands; go_simp; try with_reducible rfl
    try simp only [Act.put, List.setIfInBounds_toArray, List.set_cons_zero, List.set_cons_succ]
    refine take_yes (i := 6) (v := ?_) rfl (by kernel_rfl) (by kernel_rfl) (by kernel_rfl) (fun _ _ _ h => h) (by kernel_rfl) hHeld ?_ ?_
    rotate_left
    · intro w hSw; go_split_ands; go_simp; try with_reducible rfl
    try simp only [Act.put, List.setIfInBounds_toArray, List.set_cons_zero, List.set_cons_succ]
    refine take_loud (i := 9) rfl (by kernel_rfl) (fun K hK => ?_)
    go_wp2_with (go_at_call 34; refine (itoa_any mu _ (by omega) (by omega) hHeld.2.2).mono ?_; rintro e wN ⟨rfl, hbN⟩)
    refine hK.out _ _ ⟨(hbN.cell (lt_of_cell hHeld.1)).trans hHeld.1, (hbN.cell (lt_of_cell hHeld.2.1)).trans hHeld.2.1, PowAt.at hHeld.2.2 hbN⟩ (fun hHeld2 => ?_)
    replace kB := below_next kB hbN
    replace hHeld := hHeld2
    clear hK K hHeld2
    try simp only [Act.put, List.setIfInBounds_toArray, List.set_cons_zero, List.set_cons_succ]
    refine take_yes (i := 10) (v := ?_) rfl (by kernel_rfl) (by kernel_rfl) (by kernel_rfl) (fun _ _ _ h => h) (by kernel_rfl) hHeld ?_ ?_
    rotate_left
    · intro w hSw; go_split_ands; go_simp; try with_reducible rfl
    try simp only [Act.put, List.setIfInBounds_toArray, List.set_cons_zero, List.set_cons_succ]
    refine take_yes (i := 11) (v := ?_) rfl (by kernel_rfl) (by kernel_rfl) (by kernel_rfl) (fun _ _ _ h => h) (by kernel_rfl) hHeld ?_ ?_
    rotate_left
    · intro w hSw; go_split_ands; go_simp; try with_reducible rfl
    try simp only [Act.put, List.setIfInBounds_toArray, List.set_cons_zero, List.set_cons_succ]
    refine wpAnyH_done (by kernel_rfl) ?_ _
    go_wp2_with fail
    go_meet
    case rel => exact ⟨by rw [body_bytes], (below_drewN W 1 _).trans kB⟩
  case rest =>
    obtain ⟨rfl, hbx⟩ := hcut
    have hblen := body_len n (th.data.toList, mu) (by omega) m0 m1
    have hth2 : th.data.toList.length = th.size := by rw [Array.length_toList]; rfl
    have HLM : Hid (lineM n (th.data.toList, mu) = bodyM n (th.data.toList, mu) ++ [32] ++ Lib.itoa (checkM (bodyM n (th.data.toList, mu))) ++ [10]) := Lib.hid rfl
    have hpx := PowAt.at hp0 hbx
    have HBX := Lib.hid (HB0.out.trans (hbx.mono HB0.out.size))
    simp only at hblen
    rw [hth2] at hblen
    generalize bodyM n (th.data.toList, mu) = Bd at *
    have hBl : Bd.length ≤ 2000000 := by omega
    have hsz : (⟨Bd.toArray⟩ : ByteArray).size = Bd.length := by simp [ByteArray.size]
    clear hblen hth2 a0 a1 hp0 hbx hl1 hl2 k1 k2 k3 k4 HW
    go_wp2
    go_loopw [6, 7] (fun cv iv wr => ∃ k : Nat, k ≤ Bd.length ∧ iv = .int .i64 k ∧ cv = .int .i64 (checkM (Bd.take k)) ∧ Hid (Below w.heap.size w wr) ∧ Hid (PowAt wr)) (fun _ iv _ => Bd.length - (intOf iv).toNat)
    case atStart => exact ⟨0, by omega, rfl, rfl, HBX, Lib.hid hpx⟩
    case round =>
      clear HBX hpx
      obtain ⟨k, hk, rfl, rfl, HBX, HPX⟩ := hrel
      by_cases hlt : k < Bd.length
      · have hst := check_take Bd k hlt
        have hcb := check_bound (Bd.take k)
        have hxl : Bd[k].toNat < 256 := Bd[k].toNat_lt
        have HST : Hid ((wrap64 (checkM (Bd.take k) * 31 + wrap64 ((Bd[k].toNat : Nat) : Int))).tmod 9973 = checkM (Bd.take (k + 1))) := Lib.hid (by
          rw [hst]; rw [Int.mul_comm]; exact check_wrap hcb.1 hcb.2 hxl)
        clear hst hxl
        generalize checkM (Bd.take k) = c at *
        go_wp2
        exact ⟨⟨k + 1, by omega, by go_num, by rw [← HST.out]; rfl, HBX, HPX⟩, by simp [intOf]; omega⟩
      · have hall : Bd.take k = Bd := List.take_of_length_le (by omega)
        rw [hall] at *
        have hcb := check_bound Bd
        generalize checkM Bd = c at *
        have hl3 := Lib.itoa_length_le c (by omega) (by omega)
        have k1 : ¬ 9223372036854775807 < Bd.length + 1 := by omega
        have k2 : ¬ 9223372036854775807 < Bd.length + 1 + (Lib.itoa c).length := by omega
        have k3 : ¬ 9223372036854775807 < Bd.length + 1 + (Lib.itoa c).length + 1 := by omega
        clear hall
        go_wp2_with fail
        refine (itoa_any c _ (by omega) (by omega) HPX.out).mono ?_
        rintro e w3 ⟨rfl, hb3⟩
        go_wp2
        go_ret
        exact ⟨by rw [HLM.out, line_bytes]; rfl, HBX.out.trans (hb3.mono HBX.out.size)⟩
end Go.Proofs.YtannijeiecmjpaaGreatDoor
