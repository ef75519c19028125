/- path.rank, cmp.Or, cmp.Compare, slices.MinFunc and the comparison that path.Run hands it. -/
import Derived.Test.YtannijeiecmjpaaDoorRows
import Derived.Test.YtannijeiecmjpaaDoorBase
import Derived.Test.YtannijeiecmjpaaDoorRunL
import Derived.IntWalk
namespace Go.Proofs.YtannijeiecmjpaaDoor
open Go.RowKit

/-! ### cmp -/
def orI : List Int → Int
  | [] => 0
  | x :: xs => if x = 0 then orI xs else x
theorem orI_at (xs : List Int) (k : Nat) (h : k < xs.length) : orI (xs.drop k) = if xs[k] = 0 then orI (xs.drop (k + 1)) else xs[k] := by
  rw [List.drop_eq_getElem_cons h]; rfl
set_option maxHeartbeats 400000 in
theorem or_any (a : Option Addr) (n cap : Nat) (xs : List Int) (w : World) (hl : n = xs.length) (hn : xs.length ≤ 1000) (hx : Elems encI 1 w a xs) :
    Calls Tryd.prog 30 #[.slice a n cap] w fun e w' => e = .returned (.int .i64 (orI xs)) ∧ Below w.heap.size w w' := by
  subst hl
  go_enter Tryd.func30, Tryd.ntmps30
  go_wp2
  go_loopw [8] (fun i wr => ∃ k : Nat, k ≤ xs.length ∧ i = .int .i64 k ∧ Hid (orI xs = orI (xs.drop k)) ∧ Below w.heap.size w wr) (fun i _ => xs.length - (intOf i).toNat)
  case atStart => exact ⟨0, by omega, rfl, Lib.hid rfl, Below.refl _ _⟩
  case round =>
    obtain ⟨k, hk, rfl, HQ, hb⟩ := hrel
    by_cases hlt : k < xs.length
    · obtain ⟨b, o, rfl, hc⟩ := hx.some hlt
      have h1 := (hb.cell (lt_of_cell (hc k hlt 0 _ rfl))).trans (hc k hlt 0 _ rfl)
      simp only [Nat.add_zero, Nat.mul_one] at h1
      have HS := Lib.hid (orI_at xs k hlt)
      clear hc hx
      by_cases hz : xs[k] = 0
      · have HR : Hid (orI xs = orI (xs.drop (k + 1))) := Lib.hid (by rw [HQ.out, HS.out, if_pos hz])
        have hd : (xs[k] != 0) = false := by simp [hz]
        clear hz
        go_wp2
        exact ⟨⟨k + 1, by omega, by go_num, HR, hb⟩, by simp [intOf]; omega⟩
      · have HR : Hid (orI xs = xs[k]) := Lib.hid (by rw [HQ.out, HS.out, if_neg hz])
        have hd : (xs[k] != 0) = true := by simp [hz]
        clear hz
        go_wp2
        go_ret
        exact ⟨by rw [HR.out]; rfl, hb⟩
    · obtain rfl : k = xs.length := by omega
      have HR : Hid (orI xs = 0) := Lib.hid (by rw [HQ.out, List.drop_length]; rfl)
      clear hx HQ
      go_wp2
      go_ret
      exact ⟨by rw [HR.out]; rfl, hb⟩
def cmpI (a b : Int) : Int := if a < b then -1 else if b < a then 1 else 0
theorem nan_any (x : Int) (w : World) : Calls Tryd.prog 53 #[.int .i64 x] w fun e w' => e = .returned (.bool false) ∧ Below w.heap.size w w' := by
  have h : (x != x) = false := by simp
  go_enter Tryd.func53, Tryd.ntmps53
  go_wp2
  go_ret
  exact ⟨rfl, Below.refl _ _⟩
theorem cmp_any (x y : Int) (w : World) : Calls Tryd.prog 31 #[.int .i64 x, .int .i64 y] w fun e w' => e = .returned (.int .i64 (cmpI x y)) ∧ Below w.heap.size w w' := by
  rcases Int.lt_trichotomy x y with h | h | h
  · have HV : Hid (cmpI x y = -1) := Lib.hid (if_pos h)
    go_enter Tryd.func31, Tryd.ntmps31
    go_wp2_with fail
    refine (nan_any x _).mono ?_
    rintro e w1 ⟨rfl, hb1⟩
    go_wp2_with fail
    refine (nan_any y _).mono ?_
    rintro e w2 ⟨rfl, hb2⟩
    go_wp2
    go_ret
    exact ⟨by rw [HV.out]; rfl, below_next hb1 hb2⟩
  · subst h
    have HV : Hid (cmpI x x = 0) := Lib.hid (by simp [cmpI])
    go_enter Tryd.func31, Tryd.ntmps31
    go_wp2_with fail
    refine (nan_any x _).mono ?_
    rintro e w1 ⟨rfl, hb1⟩
    go_wp2_with fail
    refine (nan_any x _).mono ?_
    rintro e w2 ⟨rfl, hb2⟩
    go_wp2
    go_ret
    exact ⟨by rw [HV.out]; rfl, below_next hb1 hb2⟩
  · have h' : ¬ x < y := by omega
    have HV : Hid (cmpI x y = 1) := Lib.hid ((if_neg h').trans (if_pos h))
    go_enter Tryd.func31, Tryd.ntmps31
    go_wp2_with fail
    refine (nan_any x _).mono ?_
    rintro e w1 ⟨rfl, hb1⟩
    go_wp2_with fail
    refine (nan_any y _).mono ?_
    rintro e w2 ⟨rfl, hb2⟩
    go_wp2
    go_ret
    exact ⟨by rw [HV.out]; rfl, below_next hb1 hb2⟩

/-! ### MinFunc -/
/-- What is asked of a comparison of numbers of a row. -/
def CmpsOk (gf : Nat) (cb : Array Value) (f : Int → Int → Int) (xs : List Int) (B : Nat) (w : World) : Prop :=
  ∀ w', Below B w w' → ∀ x ∈ xs, ∀ y ∈ xs, Calls Tryd.prog gf (#[.int .i64 x, .int .i64 y] ++ cb) w' fun e w'' => e = .returned (.int .i64 (f x y)) ∧ Below w'.heap.size w' w''
/-- The first of the least ones of the first k + 1. -/
def minAt (f : Int → Int → Int) (xs : List Int) : Nat → Int
  | 0 => xs.getD 0 0
  | k + 1 => if f (xs.getD (k + 1) 0) (minAt f xs k) < 0 then xs.getD (k + 1) 0 else minAt f xs k
theorem minAt_mem (f : Int → Int → Int) (xs : List Int) : ∀ k, k < xs.length → minAt f xs k ∈ xs := by
  intro k
  induction k with
  | zero => intro h; unfold minAt; rw [getD_lt h]; exact List.getElem_mem h
  | succ k ih =>
    intro h
    unfold minAt
    split
    · rw [getD_lt h]; exact List.getElem_mem h
    · exact ih (by omega)
set_option maxHeartbeats 1000000 in
theorem minF_any (gf : Nat) (cb : Array Value) (f : Int → Int → Int) (a : Option Addr) (n cap : Nat) (xs : List Int) (w : World) (eg : ∀ args w, (callFunc gf args).run Tryd.prog w = .ok (.enter gf args) w) (hp : CmpsOk gf cb f xs w.heap.size w)
    (hl : n = xs.length) (h0 : 0 < xs.length) (hn : xs.length ≤ 1000) (hx : Elems encI 1 w a xs) :
    Calls Tryd.prog 28 #[.slice a n cap, .func (.func gf) #[] cb] w fun e w' => e = .returned (.int .i64 (minAt f xs (xs.length - 1))) ∧ Below w.heap.size w w' := by
  subst hl
  have HP := Lib.hid hp
  have HX := Lib.hid hx
  have c0 : ∃ b o, a = some ⟨b, o, none⟩ ∧ w.cell? ⟨b, o, none⟩ = some (.int .i64 (xs.getD 0 0)) := by
    obtain ⟨b, o, rfl, hc⟩ := hx.some h0
    have h1 := hc 0 h0 0 _ rfl
    simp only [Nat.add_zero, Nat.zero_mul] at h1
    exact ⟨b, o, rfl, by rw [getD_lt h0]; exact h1⟩
  obtain ⟨b, o, rfl, c0⟩ := c0
  obtain ⟨m0, hm0⟩ : ∃ m0, m0 = xs.getD 0 0 := ⟨_, rfl⟩
  rw [← hm0] at c0
  have HM0 : Hid (m0 = minAt f xs 0) := Lib.hid hm0
  have hd : decide ((xs.length : Int) < 1) = false := by simp; omega
  clear hp hx hm0
  go_enter Tryd.func28, Tryd.ntmps28
  go_wp2
  go_loopw [5, 6] (fun m i wr => ∃ (k : Nat) (mv : Int), k + 1 ≤ xs.length ∧ m = .int .i64 mv ∧ i = .int .i64 ((k + 1 : Nat) : Int) ∧ Hid (mv = minAt f xs k) ∧ Below w.heap.size w wr) (fun _ i _ => xs.length - (intOf i).toNat)
  case atStart => exact ⟨0, m0, by omega, rfl, rfl, HM0, Below.refl _ _⟩
  case round =>
    clear HM0 c0
    obtain ⟨k, mv, hk, rfl, rfl, HM, hb⟩ := hrel
    obtain ⟨q, hq⟩ : ∃ q, q = k + 1 := ⟨_, rfl⟩
    have HK := Lib.hid hq
    rw [← hq]
    have hq0 : 0 < q := by omega
    by_cases hlt : q < xs.length
    · obtain ⟨b', o', hbo, hc⟩ := HX.out.some hlt
      obtain ⟨rfl, rfl⟩ : b = b' ∧ o = o' := by simpa using hbo
      have h1 := (hb.cell (lt_of_cell (hc q hlt 0 _ rfl))).trans (hc q hlt 0 _ rfl)
      simp only [Nat.add_zero, Nat.mul_one] at h1
      have HMm : Hid (mv ∈ xs) := Lib.hid (by rw [HM.out]; exact minAt_mem f xs k (by omega))
      have HXm := Lib.hid (List.getElem_mem hlt)
      have HS : Hid (minAt f xs q = if f xs[q] mv < 0 then xs[q] else mv) := Lib.hid (by
        subst hq; rw [HM.out]; show (if f (xs.getD (k + 1) 0) _ < 0 then xs.getD (k + 1) 0 else _) = _; rw [getD_lt hlt])
      clear hc hbo hq hk
      by_cases hcmp : f xs[q] mv < 0
      · have HR := Lib.hid (HS.out.trans (if_pos hcmp))
        have hdc : decide (f xs[q] mv < 0) = true := by simp [hcmp]
        clear hcmp
        go_wp2_with fail
        refine (HP.out _ hb _ HXm.out _ HMm.out).mono ?_
        rintro e w1 ⟨rfl, hb1⟩
        have h2 := (hb1.cell (lt_of_cell h1)).trans h1
        go_wp2
        refine ⟨⟨q, xs[q], by omega, rfl, by go_num, Lib.hid HR.out.symm, below_next hb hb1⟩, by simp [intOf]; omega⟩
      · have HR := Lib.hid (HS.out.trans (if_neg hcmp))
        have hdc : decide (f xs[q] mv < 0) = false := by simp; omega
        clear hcmp
        go_wp2_with fail
        refine (HP.out _ hb _ HXm.out _ HMm.out).mono ?_
        rintro e w1 ⟨rfl, hb1⟩
        go_wp2
        refine ⟨⟨q, mv, by omega, rfl, by go_num, Lib.hid HR.out.symm, below_next hb hb1⟩, by simp [intOf]; omega⟩
    · have HR : Hid (mv = minAt f xs (xs.length - 1)) := Lib.hid (by rw [HM.out]; congr 1; omega)
      clear hq
      go_wp2
      go_ret
      exact ⟨by rw [HR.out]; rfl, hb⟩

/-! ### rank -/
set_option maxHeartbeats 1000000 in
theorem rank_any (rule : Int) (a ae : Option Addr) (n m cap ce i : Nat) (xs : List R3) (E : List Int) (w : World) (hn : n = xs.length) (hm : m = E.length) (hi : i < n) (hi2 : i < m) (hx : Elems enc3 3 w a xs) (hE : Elems encI 1 w ae E) (h60 : n ≤ 60) (hr : 1 ≤ rule) (hr6 : rule ≤ 6) :
    Calls Tryd.prog 32 #[.int .i64 rule, .slice a n cap, .slice ae m ce, .int .i64 i] w fun e w' => e = .returned (.int .i64 (rkOf rule xs (lf E) i)) ∧ Below w.heap.size w w' := by
  subst hn
  subst hm
  obtain ⟨b, o, rfl, hc⟩ := hx.some hi
  obtain ⟨be, oe, rfl, he⟩ := hE.some hi2
  have c1 := hc i hi 1 _ rfl
  have c2 := hc i hi 2 _ rfl
  have c3 := he i hi2 0 _ rfl
  simp only [Nat.add_zero, Nat.mul_one] at c3
  have hg : xs.getD i (0, 0, 0) = xs[i] := by simp [List.getD_eq_getElem?_getD, hi]
  have hge : lf E i = E[i] := getD_lt hi2
  have hcase : rule = 1 ∨ rule = 2 ∨ rule = 3 ∨ rule = 4 ∨ rule = 5 ∨ rule = 6 := by omega
  have hw : IntKind.i64.wrap (-(i : Int)) = -(i : Int) := IntWalk.i64_in _ (by omega)
  clear hx hE hc he
  rcases hcase with rfl | rfl | rfl | rfl | rfl | rfl
  · have HV : Hid (rkOf 1 xs (lf E) i = (i : Int)) := Lib.hid (by simp [rkOf])
    clear hg hge
    go_enter Tryd.func32, Tryd.ntmps32
    go_wp2
    go_ret
    exact ⟨by rw [HV.out]; rfl, Below.refl _ _⟩
  · have HV : Hid (rkOf 2 xs (lf E) i = -(i : Int)) := Lib.hid (by simp [rkOf])
    clear hg hge
    go_enter Tryd.func32, Tryd.ntmps32
    go_wp2
    go_ret
    exact ⟨by rw [HV.out]; rfl, Below.refl _ _⟩
  · have HV : Hid (rkOf 3 xs (lf E) i = xs[i].2.1) := Lib.hid (by simp [rkOf, ← hg])
    clear hg hge
    go_enter Tryd.func32, Tryd.ntmps32
    go_wp2
    go_ret
    exact ⟨by rw [HV.out]; rfl, Below.refl _ _⟩
  · have HV : Hid (rkOf 4 xs (lf E) i = xs[i].2.2) := Lib.hid (by simp [rkOf, ← hg])
    clear hg hge
    go_enter Tryd.func32, Tryd.ntmps32
    go_wp2
    go_ret
    exact ⟨by rw [HV.out]; rfl, Below.refl _ _⟩
  · have HV : Hid (rkOf 5 xs (lf E) i = xs[i].2.2) := Lib.hid (by simp [rkOf, ← hg])
    clear hg hge
    go_enter Tryd.func32, Tryd.ntmps32
    go_wp2
    go_ret
    exact ⟨by rw [HV.out]; rfl, Below.refl _ _⟩
  · have HV : Hid (rkOf 6 xs (lf E) i = E[i]) := Lib.hid (by simp [rkOf, ← hge])
    clear hg hge
    go_enter Tryd.func32, Tryd.ntmps32
    go_wp2
    go_ret
    exact ⟨by rw [HV.out]; rfl, Below.refl _ _⟩
end Go.Proofs.YtannijeiecmjpaaDoor
