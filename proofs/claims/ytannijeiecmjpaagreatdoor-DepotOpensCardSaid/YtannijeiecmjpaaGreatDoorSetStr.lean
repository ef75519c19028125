/- foresightbig's SetString of decimal digits (printed by gen_setstr.py). -/
import Derived.Test.YtannijeiecmjpaaGreatDoorBigS
import Derived.Test.YtannijeiecmjpaaGreatDoorRefD
namespace Go.Proofs.YtannijeiecmjpaaGreatDoor
open Go.RowKit

theorem rowDig_zero : RowDig 0 [] := ⟨fun x hx => (by cases hx), fun h _ => absurd h (by simp), fun _ => rfl⟩
/-- A row of words does not lie where a number lies. -/
theorem elems_apart {w w' : World} {zb : Nat} {t : TypeId} {fz : Nat × Nat} {b0 : Bool} {a0 : Option Addr} {n0 c0 : Nat} {a : Option Addr} {xs : List Int} (hz : w.heap[zb]? = some (.cells #[.bool b0, .slice a0 n0 c0] t fz)) (h : Elems encU 1 w a xs) (hk : ∀ k, k ≠ zb → w'.heap[k]? = w.heap[k]?) : Elems encU 1 w' a xs := by
  rcases h with h | ⟨b, o, rfl, h⟩
  · exact Or.inl h
  · by_cases hx : xs = []
    · exact Or.inl hx
    · have h0 : 0 < xs.length := List.length_pos_iff.2 hx
      have hb : b ≠ zb := fun e => by
        subst e
        have h1 := h 0 h0 0 _ rfl
        simp only [World.cell?, hz] at h1
        simp only [Nat.zero_mul, Nat.add_zero] at h1
        rcases o with _ | _ | o <;> simp at h1
      exact Or.inr ⟨b, o, rfl, fun j hj i u hu => (World.cell?_of_block (hk b hb)).trans (h j hj i u hu)⟩
/-- A row times ten. -/
theorem mul_all (a a2 : Option Addr) (n c c2 : Nat) (xs : List Int) (w : World) (hl : n = xs.length) (hx : Elems encU 1 w a xs) (hy : Elems encU 1 w a2 [10]) (hW : Words xs) (hn : n ≤ 10000) :
    Calls Tryz.prog 82 #[.slice a n c, .slice a2 1 c2] w fun e w' => ∃ (P : List Int) (a' : Option Addr) (c' : Nat), ((xs = [] ∧ P = []) ∨ (xs ≠ [] ∧ ∃ k, TrimOf (mulRaw xs 10) k ∧ P = (mulRaw xs 10).take k)) ∧ e = .returned (.slice a' P.length c') ∧ Elems encU 1 w' a' P ∧ Words P ∧ P.length ≤ xs.length + 1 ∧ Below w.heap.size w w' := by
  subst hl
  by_cases h : xs = []
  · subst h
    refine (mul_nil a a2 c 1 c2 w).mono ?_
    rintro e w' ⟨rfl, rfl⟩
    exact ⟨[], none, 0, Or.inl ⟨rfl, rfl⟩, rfl, Or.inl rfl, fun y hy => (by cases hy), by simp, Below.refl _ _⟩
  · refine (mul_any a a2 xs.length c c2 xs 10 w rfl (List.length_pos_iff.2 h) hx hy hW (by omega) (by omega) hn).mono ?_
    rintro e w' ⟨m, ht, a', c', rfl, hE, hb, _, _⟩
    have hl := mulRaw_len xs 10
    have hml := ht.le
    refine ⟨_, a', c', Or.inr ⟨h, m, ht, rfl⟩, ?_, hE, words_take (words_mul hW (by omega) (by omega)) m, by rw [List.length_take]; omega, hb⟩
    rw [List.length_take, Nat.min_eq_left hml]
/-- What SetString leaves. -/
def SetPost (zb : Nat) (sg : Bool) (t : Byt) (w : World) (e : Ending) (w' : World) : Prop :=
  e = .returned (.tuple #[.pointer (some ⟨zb, 0, none⟩), .bool true]) ∧ ∃ (a : Option Addr) (c : Nat) (xs : List Int), w'.cell? ⟨zb, 0, none⟩ = some (.bool (sg && decide (0 < xs.length))) ∧ w'.cell? ⟨zb, 1, none⟩ = some (.slice a xs.length c) ∧ Elems encU 1 w' a xs ∧ RowDig (valD t) xs ∧ Below zb w w' ∧ xs.length ≤ 10000
set_option maxRecDepth 100000 in
set_option maxHeartbeats 16000000 in
theorem setStr_pos (zb : Nat) (t : Byt) (w : World) (hd : t.all digB = true) (ht : t ≠ []) (hn : t.length ≤ 3000) (hz : w.heap[zb]? = some (.cells #[.bool false, .slice none 0 0] 101 (0, 0))) :
    Calls Tryz.prog 55 #[.pointer (some ⟨zb, 0, none⟩), strV t, .int .i64 10] w (SetPost zb false t w) := by
  have hlen : 0 < t.length := List.length_pos_iff.2 ht
  have hdg : ∀ j (h : j < t.length), 48 ≤ t[j].toNat ∧ t[j].toNat ≤ 57 := fun j h => by
    have h2 := List.all_eq_true.1 hd _ (List.getElem_mem h)
    unfold digB at h2
    simp only [Bool.and_eq_true, decide_eq_true_eq] at h2
    exact h2
  have hzb : zb < w.heap.size := (Array.getElem?_eq_some_iff.1 hz).1
  obtain ⟨B, hB⟩ : ∃ B : ByteArray, B = ⟨t.toArray⟩ := ⟨_, rfl⟩
  have hBs : B.size = t.length := by rw [hB]; simp [ByteArray.size]
  have hBg : ∀ j (h : j < t.length), (B[j]'(by rw [hBs]; exact h)).toNat = t[j].toNat := fun j h => by subst hB; rfl
  have HZ := Lib.hid hz
  have HD := Lib.hid hd
  have HDG := Lib.hid hdg
  have HBG := Lib.hid hBg
  have hgt : decide ((0 : Int) < (t.length : Int)) = true := decide_eq_true (by omega)
  have hlB : 0 < B.size := by rw [hBs]; exact hlen
  have g0 := hdg 0 hlen
  rw [← hBg 0 hlen] at g0
  have hi45 : ((B[0].toNat : Int) == 45) = false := by simp; omega
  have hi43 : ((B[0].toNat : Int) == 43) = false := by simp; omega
  have hz0 : ((t.length : Int) == 0) = false := by simp; omega
  rw [show strV t = .string B by rw [hB]]
  clear hB
  clear hz hd hdg hBg
  go_enter Tryz.func55, Tryz.ntmps55
  go_wp2
  go_loopw [9, 10] (fun rv iv wr => ∃ (i : Nat) (a : Option Addr) (c : Nat) (xs : List Int), i ≤ t.length ∧ iv = .int .i64 i ∧ rv = .slice a xs.length c ∧ xs.length ≤ 2 * i ∧ Hid (Elems encU 1 wr a xs) ∧ Hid (RowDig (valD (t.take i)) xs) ∧ Hid (Below w.heap.size w wr)) (fun _ iv _ => t.length - (intOf iv).toNat)
  case atStart => exact ⟨0, none, 0, [], by omega, rfl, rfl, by simp, Lib.hid (Or.inl rfl), Lib.hid rowDig_zero, Lib.hid (Below.refl _ _)⟩
  case round =>
    obtain ⟨i, a, c, xs, hi, rfl, rfl, hxl, HE, HR, HB⟩ := hrel
    by_cases hlt : i < t.length
    · have hg := HDG.out i hlt
      have hv := (valD_le HD.out hlt).2
      have hv0 := valD_nonneg HD.out i
      obtain ⟨dN, hdN⟩ : ∃ dN : Nat, dN = t[i].toNat - 48 := ⟨_, rfl⟩
      have hb0 : t[i].toNat = dN + 48 := by omega
      have hltB : i < B.size := by rw [hBs]; exact hlt
      rw [hb0] at hv hg
      have hb1 : ((B[i].toNat : Nat) : Int) = (dN : Int) + 48 := by rw [HBG.out i hlt]; omega
      have hge : decide ((48 : Int) ≤ (B[i].toNat : Int)) = true := decide_eq_true (by omega)
      have hle : decide ((B[i].toNat : Int) ≤ 57) = true := decide_eq_true (by omega)
      have hsub : IntKind.u8.wrap ((B[i].toNat : Int) - 48) = (dN : Int) := by rw [hb1]; simp [IntKind.wrap, IntKind.signed, IntKind.bits]; omega
      have hDi : IntKind.i64.wrap (dN : Int) = (dN : Int) := IntWalk.i64_in _ (by omega)
      have hDu : IntKind.u64.wrap (dN : Int) = (dN : Int) := u64_in _ (by omega) (by omega)
      have hd10 : decide ((10 : Int) ≤ (dN : Int)) = false := decide_eq_false (by omega)
      have h10 : IntKind.u64.wrap 10 = 10 := u64_in 10 (by omega) (by omega)
      have HV : Hid (valD (t.take (i + 1)) = valD (t.take i) * 10 + (dN : Int)) := Lib.hid (by rw [hv]; omega)
      have HV0 := Lib.hid hv0
      clear hv hv0 hb0 hb1 hdN
      go_wp2_with fail
      refine (words_any 10 wr (by omega) (by omega)).mono ?_
      rintro e w1 ⟨a1, c1, rfl, hE1, hb1, _, _⟩
      have hr10 : rowOfN 10 = [10] := rfl
      rw [hr10] at hE1
      have hl1 : (rowOfN 10).length = 1 := rfl
      rw [hl1]
      have HE1 := Lib.hid hE1
      have HX1 := Lib.hid (HE.out.at hb1)
      have HB1 := Lib.hid (HB.out.trans (hb1.mono HB.out.size))
      clear hE1 hb1 hr10 hl1
      go_wp2_with fail
      refine (mul_all a a1 xs.length c c1 xs w1 rfl HX1.out HE1.out HR.out.words (by omega)).mono ?_
      rintro e w2 ⟨P, a3, c3, hP, rfl, hE3, hW3, hl3, hb2⟩
      have HP := Lib.hid hP
      have HE3 := Lib.hid hE3
      have HW3 := Lib.hid hW3
      have HB2 := Lib.hid (HB1.out.trans (hb2.mono HB1.out.size))
      clear hP hE3 hW3 hb2 HE1 HX1 HB1
      go_wp2_with fail
      refine (words_any (dN : Int) w2 (by omega) (by omega)).mono ?_
      rintro e w3 ⟨a4, c4, rfl, hE4, hb3, _, _⟩
      have HE4 := Lib.hid hE4
      have HX3 := Lib.hid (HE3.out.at hb3)
      have HB3 := Lib.hid (HB2.out.trans (hb3.mono HB2.out.size))
      have hlD := rowOfN_len (dN : Int)
      clear hE4 hb3 HE3 HB2
      go_wp2_with fail
      refine (add_all a3 a4 _ _ _ _ P (rowOfN (dN : Int)) w3 rfl rfl HX3.out HE4.out HW3.out (words_rowOfN (by omega) (by omega)) (by omega) (by omega)).mono ?_
      rintro e w4 ⟨m, htr, a5, c5, rfl, hE5, hb4, _, _⟩
      have hal := addM_len P (rowOfN (dN : Int))
      have hml := htr.le
      have HN := Lib.hid (dig_step HR.out HV0.out (by omega) (by omega) HP.out htr)
      rw [← HV.out] at HN
      have HE5 := Lib.hid hE5
      have HB4 := Lib.hid (HB3.out.trans (hb4.mono HB3.out.size))
      have hmt : m = ((addM P (rowOfN (dN : Int))).take m).length := by rw [List.length_take]; omega
      have HMT := Lib.hid hmt
      have hxs2 : ((addM P (rowOfN (dN : Int))).take m).length ≤ 2 * (i + 1) := by rw [← hmt]; omega
      clear hE5 hb4 HX3 HE4 HB3 hmt htr hal hml
      generalize (addM P (rowOfN (dN : Int))).take m = xs2 at *
      go_wp2
      exact ⟨⟨i + 1, a5, c5, xs2, by omega, by go_num, by rw [← HMT.out], hxs2, HE5, HN, HB4⟩, by simp [intOf]; omega⟩
    · obtain rfl : i = t.length := by omega
      have HRT : Hid (RowDig (valD t) xs) := Lib.hid (by have h := HR.out; rwa [List.take_length] at h)
      have hz2 : wr.heap[zb]? = some (.cells #[.bool false, .slice none 0 0] 101 (0, 0)) := (HB.out.block zb hzb).trans HZ.out
      have HZ2 := Lib.hid hz2
      have k0 : wr.cell? ⟨zb, 0, none⟩ = some (.bool false) := by simp [World.cell?, hz2]
      have k1 : wr.cell? ⟨zb, 1, none⟩ = some (.slice none 0 0) := by simp [World.cell?, hz2]
      have f0 : wr.frozen? ⟨zb, 0, none⟩ = false := by simp [World.frozen?, hz2]
      have f1 : wr.frozen? ⟨zb, 1, none⟩ = false := by simp [World.frozen?, hz2]
      have HGV := Lib.hid (give_any zb false a xs.length c _ _ wr k0 k1 f0 f1)
      clear k0 k1 f0 f1 hz2
      go_wp2_with fail
      refine HGV.out.mono ?_
      rintro e w' ⟨rfl, k0, k1, hb, hsz, hoth⟩
      have HFIN : Hid (SetPost zb false t w (.returned (.tuple #[.pointer (some ⟨zb, 0, none⟩), .bool true])) w') := Lib.hid ⟨rfl, a, c, xs, k0, k1, elems_apart HZ2.out HE.out hoth, HRT.out, (HB.out.mono (by omega)).trans hb, by omega⟩
      clear k0 k1 hb hsz hoth
      go_wp2
      go_ret2
      exact HFIN.out
set_option maxRecDepth 100000 in
set_option maxHeartbeats 16000000 in
theorem setStr_neg (zb : Nat) (t : Byt) (w : World) (hd : t.all digB = true) (ht : t ≠ []) (hn : t.length ≤ 3000) (hz : w.heap[zb]? = some (.cells #[.bool false, .slice none 0 0] 101 (0, 0))) :
    Calls Tryz.prog 55 #[.pointer (some ⟨zb, 0, none⟩), strV (45 :: t), .int .i64 10] w (SetPost zb true t w) := by
  have hlen : 0 < t.length := List.length_pos_iff.2 ht
  have hdg : ∀ j (h : j < t.length), 48 ≤ t[j].toNat ∧ t[j].toNat ≤ 57 := fun j h => by
    have h2 := List.all_eq_true.1 hd _ (List.getElem_mem h)
    unfold digB at h2
    simp only [Bool.and_eq_true, decide_eq_true_eq] at h2
    exact h2
  have hzb : zb < w.heap.size := (Array.getElem?_eq_some_iff.1 hz).1
  obtain ⟨B, hB⟩ : ∃ B : ByteArray, B = ⟨t.toArray⟩ := ⟨_, rfl⟩
  have hBs : B.size = t.length := by rw [hB]; simp [ByteArray.size]
  have hBg : ∀ j (h : j < t.length), (B[j]'(by rw [hBs]; exact h)).toNat = t[j].toNat := fun j h => by subst hB; rfl
  have HZ := Lib.hid hz
  have HD := Lib.hid hd
  have HDG := Lib.hid hdg
  have HBG := Lib.hid hBg
  obtain ⟨B0, hB0⟩ : ∃ B0 : ByteArray, B0 = ⟨(45 :: t).toArray⟩ := ⟨_, rfl⟩
  have hB0s : B0.size = t.length + 1 := by rw [hB0]; simp [ByteArray.size]
  have hlB0 : 0 < B0.size := by rw [hB0s]; omega
  have hi45 : ((B0[0].toNat : Int) == 45) = true := by subst hB0; rfl
  have hex : B0.extract 1 B0.size = B := by
    rw [hB0, hB]
    apply ByteArray.ext
    simp [ByteArray.size]
  have hex2 : B0.extract 1 (t.length + 1) = B := by rw [← hB0s]; exact hex
  have hgt : decide ((0 : Int) < ((t.length + 1 : Nat) : Int)) = true := decide_eq_true (by omega)
  have hgt2 : decide ((0 : Int) < (t.length : Int) + 1) = true := decide_eq_true (by omega)
  have hz0 : ((t.length : Int) == 0) = false := by simp; omega
  rw [show strV (45 :: t) = .string B0 by rw [hB0]]
  clear hB hB0
  clear hz hd hdg hBg
  go_enter Tryz.func55, Tryz.ntmps55
  go_wp2
  go_loopw [9, 10] (fun rv iv wr => ∃ (i : Nat) (a : Option Addr) (c : Nat) (xs : List Int), i ≤ t.length ∧ iv = .int .i64 i ∧ rv = .slice a xs.length c ∧ xs.length ≤ 2 * i ∧ Hid (Elems encU 1 wr a xs) ∧ Hid (RowDig (valD (t.take i)) xs) ∧ Hid (Below w.heap.size w wr)) (fun _ iv _ => t.length - (intOf iv).toNat)
  case atStart => exact ⟨0, none, 0, [], by omega, rfl, rfl, by simp, Lib.hid (Or.inl rfl), Lib.hid rowDig_zero, Lib.hid (Below.refl _ _)⟩
  case round =>
    obtain ⟨i, a, c, xs, hi, rfl, rfl, hxl, HE, HR, HB⟩ := hrel
    by_cases hlt : i < t.length
    · have hg := HDG.out i hlt
      have hv := (valD_le HD.out hlt).2
      have hv0 := valD_nonneg HD.out i
      obtain ⟨dN, hdN⟩ : ∃ dN : Nat, dN = t[i].toNat - 48 := ⟨_, rfl⟩
      have hb0 : t[i].toNat = dN + 48 := by omega
      have hltB : i < B.size := by rw [hBs]; exact hlt
      rw [hb0] at hv hg
      have hb1 : ((B[i].toNat : Nat) : Int) = (dN : Int) + 48 := by rw [HBG.out i hlt]; omega
      have hge : decide ((48 : Int) ≤ (B[i].toNat : Int)) = true := decide_eq_true (by omega)
      have hle : decide ((B[i].toNat : Int) ≤ 57) = true := decide_eq_true (by omega)
      have hsub : IntKind.u8.wrap ((B[i].toNat : Int) - 48) = (dN : Int) := by rw [hb1]; simp [IntKind.wrap, IntKind.signed, IntKind.bits]; omega
      have hDi : IntKind.i64.wrap (dN : Int) = (dN : Int) := IntWalk.i64_in _ (by omega)
      have hDu : IntKind.u64.wrap (dN : Int) = (dN : Int) := u64_in _ (by omega) (by omega)
      have hd10 : decide ((10 : Int) ≤ (dN : Int)) = false := decide_eq_false (by omega)
      have h10 : IntKind.u64.wrap 10 = 10 := u64_in 10 (by omega) (by omega)
      have HV : Hid (valD (t.take (i + 1)) = valD (t.take i) * 10 + (dN : Int)) := Lib.hid (by rw [hv]; omega)
      have HV0 := Lib.hid hv0
      clear hv hv0 hb0 hb1 hdN
      go_wp2_with fail
      refine (words_any 10 wr (by omega) (by omega)).mono ?_
      rintro e w1 ⟨a1, c1, rfl, hE1, hb1, _, _⟩
      have hr10 : rowOfN 10 = [10] := rfl
      rw [hr10] at hE1
      have hl1 : (rowOfN 10).length = 1 := rfl
      rw [hl1]
      have HE1 := Lib.hid hE1
      have HX1 := Lib.hid (HE.out.at hb1)
      have HB1 := Lib.hid (HB.out.trans (hb1.mono HB.out.size))
      clear hE1 hb1 hr10 hl1
      go_wp2_with fail
      refine (mul_all a a1 xs.length c c1 xs w1 rfl HX1.out HE1.out HR.out.words (by omega)).mono ?_
      rintro e w2 ⟨P, a3, c3, hP, rfl, hE3, hW3, hl3, hb2⟩
      have HP := Lib.hid hP
      have HE3 := Lib.hid hE3
      have HW3 := Lib.hid hW3
      have HB2 := Lib.hid (HB1.out.trans (hb2.mono HB1.out.size))
      clear hP hE3 hW3 hb2 HE1 HX1 HB1
      go_wp2_with fail
      refine (words_any (dN : Int) w2 (by omega) (by omega)).mono ?_
      rintro e w3 ⟨a4, c4, rfl, hE4, hb3, _, _⟩
      have HE4 := Lib.hid hE4
      have HX3 := Lib.hid (HE3.out.at hb3)
      have HB3 := Lib.hid (HB2.out.trans (hb3.mono HB2.out.size))
      have hlD := rowOfN_len (dN : Int)
      clear hE4 hb3 HE3 HB2
      go_wp2_with fail
      refine (add_all a3 a4 _ _ _ _ P (rowOfN (dN : Int)) w3 rfl rfl HX3.out HE4.out HW3.out (words_rowOfN (by omega) (by omega)) (by omega) (by omega)).mono ?_
      rintro e w4 ⟨m, htr, a5, c5, rfl, hE5, hb4, _, _⟩
      have hal := addM_len P (rowOfN (dN : Int))
      have hml := htr.le
      have HN := Lib.hid (dig_step HR.out HV0.out (by omega) (by omega) HP.out htr)
      rw [← HV.out] at HN
      have HE5 := Lib.hid hE5
      have HB4 := Lib.hid (HB3.out.trans (hb4.mono HB3.out.size))
      have hmt : m = ((addM P (rowOfN (dN : Int))).take m).length := by rw [List.length_take]; omega
      have HMT := Lib.hid hmt
      have hxs2 : ((addM P (rowOfN (dN : Int))).take m).length ≤ 2 * (i + 1) := by rw [← hmt]; omega
      clear hE5 hb4 HX3 HE4 HB3 hmt htr hal hml
      generalize (addM P (rowOfN (dN : Int))).take m = xs2 at *
      go_wp2
      exact ⟨⟨i + 1, a5, c5, xs2, by omega, by go_num, by rw [← HMT.out], hxs2, HE5, HN, HB4⟩, by simp [intOf]; omega⟩
    · obtain rfl : i = t.length := by omega
      have HRT : Hid (RowDig (valD t) xs) := Lib.hid (by have h := HR.out; rwa [List.take_length] at h)
      have hz2 : wr.heap[zb]? = some (.cells #[.bool false, .slice none 0 0] 101 (0, 0)) := (HB.out.block zb hzb).trans HZ.out
      have HZ2 := Lib.hid hz2
      have k0 : wr.cell? ⟨zb, 0, none⟩ = some (.bool false) := by simp [World.cell?, hz2]
      have k1 : wr.cell? ⟨zb, 1, none⟩ = some (.slice none 0 0) := by simp [World.cell?, hz2]
      have f0 : wr.frozen? ⟨zb, 0, none⟩ = false := by simp [World.frozen?, hz2]
      have f1 : wr.frozen? ⟨zb, 1, none⟩ = false := by simp [World.frozen?, hz2]
      have HGV := Lib.hid (give_any zb true a xs.length c _ _ wr k0 k1 f0 f1)
      clear k0 k1 f0 f1 hz2
      go_wp2_with fail
      refine HGV.out.mono ?_
      rintro e w' ⟨rfl, k0, k1, hb, hsz, hoth⟩
      have HFIN : Hid (SetPost zb true t w (.returned (.tuple #[.pointer (some ⟨zb, 0, none⟩), .bool true])) w') := Lib.hid ⟨rfl, a, c, xs, k0, k1, elems_apart HZ2.out HE.out hoth, HRT.out, (HB.out.mono (by omega)).trans hb, by omega⟩
      clear k0 k1 hb hsz hoth
      go_wp2
      go_ret2
      exact HFIN.out
end Go.Proofs.YtannijeiecmjpaaGreatDoor
