/- foresightbig: length, TrailingZeroBits, IsInt64, Uint64, Int64. -/
import Derived.Test.YtannijeiecmjpaaGreatDoorBigW
namespace Go.Proofs.YtannijeiecmjpaaGreatDoor
open Go.RowKit

theorem rowOfN_len1 (x : Int) : (rowOfN x).length ≤ 1 := by unfold rowOfN; split <;> simp
set_option maxRecDepth 100000 in
set_option maxHeartbeats 8000000 in
theorem length_nil (a : Option Addr) (c : Nat) (w : World) : Calls Tryz.prog 85 #[.slice a 0 c] w fun e w' => e = .returned (.int .i64 0) ∧ w' = w := by
  go_enter Tryz.func85, Tryz.ntmps85
  go_wp2
  go_ret
  exact ⟨rfl, rfl⟩
set_option maxRecDepth 100000 in
set_option maxHeartbeats 8000000 in
theorem length_any (a : Option Addr) (n c : Nat) (xs : List Int) (X : Int) (w : World) (hl : n + 1 = xs.length) (hx : Elems encU 1 w a xs) (hX : xs[n]? = some X) (h0 : 0 ≤ X) (h1 : X < 4294967296) (hn : n ≤ 10000) :
    Calls Tryz.prog 85 #[.slice a (n + 1) c] w fun e w' => ∃ j : Nat, e = .returned (.int .i64 ((n : Int) * 32 + j)) ∧ w' = w ∧ j ≤ 32 ∧ X < 2 ^ j ∧ (j = 0 ∨ (2 : Int) ^ (j - 1) ≤ X) := by
  obtain ⟨hlt, hXe⟩ := List.getElem?_eq_some_iff.1 hX
  obtain ⟨b, o, rfl, hc⟩ := hx.some hlt
  have c0 := hc n hlt 0 _ rfl
  simp only [Nat.add_zero, Nat.mul_one] at c0
  rw [hXe] at c0
  have hw1 : IntKind.i64.wrap (((n + 1 : Nat) : Int) - 1) = (n : Int) := (IntWalk.i64_in _ (by omega)).trans (by omega)
  have hw1b : IntKind.i64.wrap ((n : Int) + 1 - 1) = (n : Int) := (IntWalk.i64_in _ (by omega)).trans (by omega)
  have hw2 : IntKind.i64.wrap ((n : Int) * 32) = (n : Int) * 32 := IntWalk.i64_in _ (by omega)
  have hd0 : (((n + 1 : Nat) : Int) == 0) = false := by simp; omega
  have hd0b : ((n : Int) + 1 == 0) = false := by simp; omega
  clear hc hx hX hXe hl
  go_enter Tryz.func85, Tryz.ntmps85
  go_wp2
  go_loop [3, 4] (fun nv tv => ∃ (j : Nat) (T : Int), nv = .int .i64 j ∧ tv = .int .u32 T ∧ Hid (T = X / 2 ^ j) ∧ j ≤ 32 ∧ Hid (j = 0 ∨ (2 : Int) ^ (j - 1) ≤ X)) (fun nv _ => 33 - (intOf nv).toNat)
  case atStart => exact ⟨0, X, rfl, rfl, Lib.hid (by simp), by omega, Lib.hid (Or.inl rfl)⟩
  case round =>
    obtain ⟨j, T, rfl, rfl, HT, hj, HJ⟩ := hrel
    have hp : (0 : Int) < 2 ^ j := Int.pow_pos (by omega)
    by_cases hz : T = 0
    · subst hz
      have HXJ : Hid (X < 2 ^ j) := Lib.hid (by
        have h := HT.out
        rcases Int.lt_or_le X (2 ^ j) with h2 | h2
        · exact h2
        · have := (Int.le_ediv_iff_mul_le hp).2 (show 1 * 2 ^ j ≤ X by omega)
          omega)
      have hw3 : IntKind.i64.wrap ((n : Int) * 32 + (j : Int)) = (n : Int) * 32 + j := IntWalk.i64_in _ (by omega)
      clear hp
      go_wp2
      go_ret
      exact ⟨j, rfl, rfl, hj, HXJ.out, HJ.out⟩
    · have hge : (2 : Int) ^ j ≤ X := by
        have h := HT.out
        rcases Int.lt_or_le X (2 ^ j) with h2 | h2
        · exact absurd (h.trans (Int.ediv_eq_zero_of_lt h0 h2)) hz
        · exact h2
      have hj2 : j < 32 := by
        rcases Nat.lt_or_ge j 32 with h | h
        · exact h
        · have : j = 32 := by omega
          subst this
          have e : (2 : Int) ^ 32 = 4294967296 := by decide
          omega
      have hd : (T != 0) = true := by simpa using hz
      have HT2 : Hid (T / 2 = X / 2 ^ (j + 1)) := Lib.hid (by rw [HT.out, Int.pow_succ, Int.ediv_ediv_of_nonneg (Int.le_of_lt hp)])
      have HJ2 : Hid (j + 1 = 0 ∨ (2 : Int) ^ (j + 1 - 1) ≤ X) := Lib.hid (Or.inr (by simpa using hge))
      have hwj : IntKind.i64.wrap ((j : Int) + 1) = (j : Int) + 1 := IntWalk.i64_in _ (by omega)
      clear hge hp hz
      go_wp2
      exact ⟨⟨j + 1, T / 2, by go_num, rfl, HT2, by omega, HJ2⟩, by simp [intOf]; omega⟩
set_option maxRecDepth 100000 in
set_option maxHeartbeats 8000000 in
theorem bit_low (a : Option Addr) (c : Nat) (x0 x1 : Int) (i : Nat) (w : World) (hx : Elems encU 1 w a [x0, x1]) (hi : i ≤ 63) (hX0 : 0 ≤ x1) :
    Calls Tryz.prog 112 #[.slice a 2 c, .int .i64 i] w fun e w' => ∃ v, e = .returned (.int .u64 v) ∧ w' = w ∧ (i = 63 → 2147483648 ≤ x1 → x1 < 4294967296 → v ≠ 0) := by
  obtain ⟨b, o, rfl, hc⟩ := hx.some (show 0 < [x0, x1].length by simp)
  have c0 : w.cell? ⟨b, o, none⟩ = some (.int .u32 x0) := by have h := hc 0 (by simp) 0 _ rfl; simpa using h
  have c1 : w.cell? ⟨b, o + 1, none⟩ = some (.int .u32 x1) := by have h := hc 1 (by simp) 0 _ rfl; simpa using h
  clear hc hx
  obtain ⟨X, hcq, hX⟩ : ∃ X, w.cell? ⟨b, o + i / 32, none⟩ = some (.int .u32 X) ∧ (i = 63 → X = x1) := by
    by_cases h : i < 32
    · exact ⟨x0, by rw [Nat.div_eq_of_lt h]; exact c0, fun h2 => by omega⟩
    · exact ⟨x1, by rw [show i / 32 = 1 by omega]; exact c1, fun _ => rfl⟩
  have hiw : IntKind.u64.wrap (i : Int) = (i : Int) := u64_in _ (by omega) (by omega)
  clear c0 c1
  go_enter Tryz.func112, Tryz.ntmps112
  go_wp2
  go_ret
  refine ⟨_, rfl, rfl, fun h63 hge hlt => ?_⟩
  have hX1 := hX h63
  subst hX1
  subst h63
  have e1 : X / 2 ^ (63 % 32) = 1 := by
    show X / 2147483648 = 1
    omega
  rw [e1]
  decide
set_option maxRecDepth 100000 in
set_option maxHeartbeats 8000000 in
theorem tz_any (zb : Nat) (a : Option Addr) (c : Nat) (x0 x1 : Int) (w : World) (h1 : w.cell? ⟨zb, 1, none⟩ = some (.slice a 2 c)) (hx : Elems encU 1 w a [x0, x1]) (hX : 2147483648 ≤ x1) (hX2 : x1 < 4294967296) :
    Calls Tryz.prog 86 #[.pointer (some ⟨zb, 0, none⟩)] w fun e w' => ∃ k, e = .returned (.int .u64 k) ∧ w' = w := by
  have HB := Lib.hid (fun (i : Nat) (hi : i ≤ 63) => bit_low a c x0 x1 i w hx hi (by omega))
  clear hx
  go_enter Tryz.func86, Tryz.ntmps86
  go_wp2
  go_loop [3] (fun nv => ∃ i : Nat, i ≤ 63 ∧ nv = .int .u64 i) (fun nv => 64 - (intOf nv).toNat)
  case atStart => exact ⟨0, by omega, rfl⟩
  case round =>
    obtain ⟨i, hi, rfl⟩ := hrel
    have hiw : IntKind.i64.wrap (i : Int) = (i : Int) := IntWalk.i64_in _ (by omega)
    have hiw2 : IntKind.u64.wrap ((i : Int) + 1) = (i : Int) + 1 := u64_in _ (by omega) (by omega)
    have HBI := Lib.hid (HB.out i hi)
    go_wp2_with fail
    refine HBI.out.mono ?_
    rintro e w' ⟨v, rfl, rfl, hv⟩
    by_cases hz : v = 0
    · have hi2 : i ≠ 63 := fun e => hv e hX hX2 hz
      have hd : (v == 0) = true := by simpa using hz
      clear hv
      subst hz
      go_wp2
      exact ⟨⟨i + 1, by omega, by go_num⟩, by simp [intOf]; omega⟩
    · have hd : (v == 0) = false := by simpa using hz
      clear hv
      go_wp2
      go_ret
      exact ⟨_, rfl, rfl⟩
/-- A number: its sign and its words. -/
structure NumAt (zb : Nat) (ng : Bool) (xs : List Int) (w : World) : Prop where
  c0 : w.cell? ⟨zb, 0, none⟩ = some (.bool ng)
  c1 : ∃ a c, w.cell? ⟨zb, 1, none⟩ = some (.slice a xs.length c) ∧ Elems encU 1 w a xs
  words : Words xs
  last : ∀ (h : xs.length - 1 < xs.length), 0 < xs.length → xs[xs.length - 1] ≠ 0
  len : xs.length ≤ 10000
set_option maxRecDepth 100000 in
set_option maxHeartbeats 8000000 in
theorem isInt_any (zb : Nat) (ng : Bool) (xs : List Int) (w : World) (H : NumAt zb ng xs w) :
    Calls Tryz.prog 56 #[.pointer (some ⟨zb, 0, none⟩)] w fun e w' => ∃ ok, e = .returned (.bool ok) ∧ w' = w ∧ (xs.length ≤ 1 → ok = true) := by
  obtain ⟨a, c, h1, hx⟩ := H.c1
  have h0 := H.c0
  have hlen := H.len
  rcases hn : xs.length with _ | n
  · have HL := Lib.hid (length_nil a c w)
    rw [hn] at h1
    clear hn hx H
    go_enter Tryz.func56, Tryz.ntmps56
    go_wp2_with fail
    refine HL.out.mono ?_
    rintro e w' ⟨rfl, rfl⟩
    go_wp2
    go_ret
    exact ⟨true, rfl, rfl, fun _ => rfl⟩
  · have hlt : n < xs.length := by omega
    have hX := H.words xs[n] (List.getElem_mem hlt)
    have hlast := H.last (by omega) (by omega)
    have hi : xs[n]? = some xs[n] := List.getElem?_eq_getElem hlt
    have hl0 : xs[n] ≠ 0 := by
      have e : xs.length - 1 = n := by omega
      simpa only [e] using hlast
    have HL := Lib.hid (length_any a n c xs xs[n] w hn.symm hx hi hX.1 hX.2 (by omega))
    rw [hn] at h1
    have HTZ : Hid (n = 1 → 2147483648 ≤ xs[n] → Calls Tryz.prog 86 #[.pointer (some ⟨zb, 0, none⟩)] w fun e w' => ∃ k, e = .returned (.int .u64 k) ∧ w' = w) := Lib.hid (fun hn1 hge => by
      subst hn1
      obtain ⟨x0, x1, rfl⟩ : ∃ x0 x1, xs = [x0, x1] := by
        match xs, hn with
        | [x0, x1], _ => exact ⟨x0, x1, rfl⟩
      exact tz_any zb a c x0 x1 w h1 hx hge hX.2)
    clear hx H hlast hi
    generalize xs[n] = X at *
    go_enter Tryz.func56, Tryz.ntmps56
    go_wp2_with fail
    refine HL.out.mono ?_
    rintro e w' ⟨j, rfl, rfl, hj, hXj, hJ⟩
    by_cases h64 : (n : Int) * 32 + j < 64
    · have hd : decide ((n : Int) * 32 + (j : Int) < 64) = true := decide_eq_true h64
      clear hXj hJ
      go_wp2
      go_ret
      exact ⟨true, rfl, rfl, fun _ => rfl⟩
    · have hd : decide ((n : Int) * 32 + (j : Int) < 64) = false := decide_eq_false h64
      have hn2 : ¬ (n + 1 ≤ 1) := fun h => by omega
      by_cases he : (n : Int) * 32 + j = 64
      · have hd2 : ((n : Int) * 32 + (j : Int) == 64) = true := by simpa using he
        cases ng
        · clear hXj hJ
          go_wp2
          go_ret
          exact ⟨false, rfl, rfl, fun h => absurd h hn2⟩
        · have hj0 : j ≠ 0 := fun e => by subst e; simp at hXj; omega
          have hj32 : j = 32 := by omega
          have hn1 : n = 1 := by omega
          have hge : 2147483648 ≤ X := by
            rcases hJ with h | h
            · exact absurd h hj0
            · rw [hj32] at h
              exact h
          have HT := Lib.hid (HTZ.out hn1 hge)
          clear hXj hJ hj0 hge
          go_wp2_with fail
          refine HT.out.mono ?_
          rintro e w' ⟨k, rfl, rfl⟩
          go_wp2
          go_ret
          exact ⟨_, rfl, rfl, fun h => absurd h hn2⟩
      · have hd2 : ((n : Int) * 32 + (j : Int) == 64) = false := by simpa using he
        clear hXj hJ
        go_wp2
        go_ret
        exact ⟨false, rfl, rfl, fun h => absurd h hn2⟩
set_option maxRecDepth 100000 in
set_option maxHeartbeats 8000000 in
theorem uint_any (zb : Nat) (ng : Bool) (xs : List Int) (w : World) (H : NumAt zb ng xs w) :
    Calls Tryz.prog 87 #[.pointer (some ⟨zb, 0, none⟩)] w fun e w' => ∃ v, e = .returned (.int .u64 v) ∧ w' = w ∧ (∀ x, 0 ≤ x → x < 4294967296 → xs = rowOfN x → v = x) := by
  obtain ⟨a, c, h1, hx⟩ := H.c1
  have hlen := H.len
  have hW := H.words
  rcases xs with _ | ⟨x0, _ | ⟨x1, ys⟩⟩
  · clear hx H hW
    simp only [List.length_nil] at h1
    go_enter Tryz.func87, Tryz.ntmps87
    go_wp2
    go_ret
    refine ⟨0, rfl, rfl, fun x _ _ h => ?_⟩
    unfold rowOfN at h
    by_cases hx : x = 0
    · exact hx.symm
    · rw [if_neg hx] at h; cases h
  · obtain ⟨b, o, rfl, hc⟩ := hx.some (show 0 < [x0].length by simp)
    have k0 : w.cell? ⟨b, o, none⟩ = some (.int .u32 x0) := by have h := hc 0 (by simp) 0 _ rfl; simpa using h
    have hX := hW x0 (by simp)
    have hw : IntKind.u64.wrap x0 = x0 := u64_in _ hX.1 (by omega)
    simp only [List.length_cons, List.length_nil] at h1
    clear hc hx H hW hX
    go_enter Tryz.func87, Tryz.ntmps87
    go_wp2
    go_ret
    refine ⟨x0, rfl, rfl, fun x _ _ h => ?_⟩
    unfold rowOfN at h
    by_cases hx : x = 0
    · rw [if_pos hx] at h; cases h
    · rw [if_neg hx] at h; exact (List.cons.inj h).1
  · obtain ⟨b, o, rfl, hc⟩ := hx.some (show 0 < (x0 :: x1 :: ys).length by simp)
    have k0 : w.cell? ⟨b, o, none⟩ = some (.int .u32 x0) := by have h := hc 0 (by simp) 0 _ rfl; simpa using h
    have k1 : w.cell? ⟨b, o + 1, none⟩ = some (.int .u32 x1) := by have h := hc 1 (by simp) 0 _ rfl; simpa using h
    obtain ⟨N, hN⟩ : ∃ N, N = (x0 :: x1 :: ys).length := ⟨_, rfl⟩
    have hN2 : 2 ≤ N := by rw [hN]; simp
    have hg0 : decide ((0 : Int) < (N : Int)) = true := decide_eq_true (by omega)
    have hg1 : decide ((1 : Int) < (N : Int)) = true := decide_eq_true (by omega)
    rw [← hN] at h1 hlen
    have HNR : Hid (∀ x, x0 :: x1 :: ys ≠ rowOfN x) := Lib.hid (fun x h => by
      have h2 := congrArg List.length h
      have := rowOfN_len1 x
      simp at h2
      omega)
    clear hc hx H hW hN
    go_enter Tryz.func87, Tryz.ntmps87
    go_wp2
    go_ret
    exact ⟨_, rfl, rfl, fun x _ _ h => absurd h (HNR.out x)⟩
set_option maxRecDepth 100000 in
set_option maxHeartbeats 8000000 in
theorem int64_any (zb : Nat) (ng : Bool) (xs : List Int) (w : World) (H : NumAt zb ng xs w) :
    Calls Tryz.prog 57 #[.pointer (some ⟨zb, 0, none⟩)] w fun e w' => ∃ v, e = .returned (.int .i64 v) ∧ w' = w ∧ -9223372036854775808 ≤ v ∧ v ≤ 9223372036854775807 ∧ (∀ x, 0 ≤ x → x < 4294967296 → xs = rowOfN x → v = if ng then -x else x) := by
  have HU := Lib.hid (uint_any zb ng xs w H)
  have h0 := H.c0
  clear H
  have hbd : ∀ z : Int, -9223372036854775808 ≤ wrap64 z ∧ wrap64 z ≤ 9223372036854775807 := fun z => by unfold wrap64; omega
  have HBD := Lib.hid hbd
  clear hbd
  cases ng
  · go_enter Tryz.func57, Tryz.ntmps57
    go_wp2_with fail
    refine HU.out.mono ?_
    rintro e w' ⟨v, rfl, rfl, hv⟩
    have HV := Lib.hid hv
    clear hv
    go_wp2
    go_ret
    refine ⟨_, rfl, rfl, (HBD.out _).1, (HBD.out _).2, fun x x0 x1 h => ?_⟩
    rw [HV.out x x0 x1 h]
    exact IntWalk.wrap64_in _ (by omega)
  · go_enter Tryz.func57, Tryz.ntmps57
    go_wp2_with fail
    refine HU.out.mono ?_
    rintro e w' ⟨v, rfl, rfl, hv⟩
    have HV := Lib.hid hv
    clear hv
    go_wp2
    go_ret
    refine ⟨_, rfl, rfl, (HBD.out _).1, (HBD.out _).2, fun x x0 x1 h => ?_⟩
    rw [HV.out x x0 x1 h]
    rw [IntWalk.wrap64_in x (by omega)]
    exact IntWalk.wrap64_in _ (by omega)
end Go.Proofs.YtannijeiecmjpaaGreatDoor
