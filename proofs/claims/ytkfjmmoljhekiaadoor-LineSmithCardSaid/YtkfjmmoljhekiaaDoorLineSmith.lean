/- Smith's row: line.Smith and the reference's, by weight for length. -/
import Derived.Test.YtkfjmmoljhekiaaDoorLineJack
namespace Go.Proofs.YtkfjmmoljhekiaaDoor
open Go.RowKit

def cmpI (a b : Int) : Int := if a < b then -1 else if b < a then 1 else 0
def lessS (p q : R3) : Int := if p.1 = 0 ∨ q.1 = 0 then cmpI (min p.1 1) (min q.1 1) else q.2.1 * p.1 - p.2.1 * q.1
theorem smith_neg {xl xw yl yw zl zw : Int} (hx : 0 < xl) (hy : 0 < yl) (hz : 0 < zl) (h1 : xw * yl ≤ yw * xl) (h2 : yw * zl ≤ zw * yl) (h : zw * xl < xw * zl) : False := by
  have a1 := Int.mul_lt_mul_of_pos_right h hy
  have a2 := Int.mul_le_mul_of_nonneg_right h1 (Int.le_of_lt hz)
  have a3 := Int.mul_le_mul_of_nonneg_right h2 (Int.le_of_lt hx)
  rw [Int.mul_right_comm zw xl yl, Int.mul_right_comm xw zl yl] at a1
  rw [Int.mul_right_comm yw xl zl] at a2
  omega
theorem lessS_lt {p q : R3} (hp : 0 ≤ p.1) (hq : 0 ≤ q.1) : lessS p q < 0 ↔ (p.1 = 0 ∧ 0 < q.1) ∨ (0 < p.1 ∧ 0 < q.1 ∧ q.2.1 * p.1 < p.2.1 * q.1) := by
  unfold lessS cmpI
  by_cases h1 : p.1 = 0
  · rw [if_pos (Or.inl h1), h1]
    by_cases h2 : q.1 = 0
    · rw [h2]; simp
    · rw [show min q.1 1 = 1 by omega]; simp; omega
  · by_cases h2 : q.1 = 0
    · rw [if_pos (Or.inr h2), h2, show min p.1 1 = 1 by omega]; simp; omega
    · rw [if_neg (by omega)]; omega
theorem xget_nn {xs : List R3} (h : tasksCheck xs = 0) (x : Int) : 0 ≤ (xget xs x).1 ∧ 0 ≤ (xget xs x).2.1 := by
  unfold xget
  rcases Nat.lt_or_ge x.toNat xs.length with g | g
  · simp only [List.getD, List.getElem?_eq_getElem g, Option.getD_some]
    have := tasks_ok_task h _ g
    exact ⟨this.1, this.2.2.1⟩
  · simp [List.getD, List.getElem?_eq_none g]
theorem swkS (xs : List R3) (hC : tasksCheck xs = 0) : SWk (ltf (fOf lessS xs)) := by
  constructor
  · intro x y h
    have hx := (xget_nn hC x).1
    have hy := (xget_nn hC y).1
    rw [ltf_true] at h
    rw [ltf_false]
    unfold fOf at *
    rw [lessS_lt hx hy] at h
    by_cases hlt : lessS (xget xs y) (xget xs x) < 0
    · rw [lessS_lt hy hx] at hlt; omega
    · omega
  · intro x y z h
    have hx := (xget_nn hC x).1
    have hy := (xget_nn hC y).1
    have hz := (xget_nn hC z).1
    rw [ltf_true] at h
    rw [ltf_true, ltf_true]
    unfold fOf at *
    rw [lessS_lt hx hz] at h
    rw [lessS_lt hx hy, lessS_lt hy hz]
    have hn := @smith_neg (xget xs x).1 (xget xs x).2.1 (xget xs y).1 (xget xs y).2.1 (xget xs z).1 (xget xs z).2.1
    by_cases hy0 : (xget xs y).1 = 0
    · omega
    · rcases h with h | ⟨h1, h2, h3⟩
      · omega
      · by_cases g1 : (xget xs y).2.1 * (xget xs x).1 < (xget xs x).2.1 * (xget xs y).1
        · exact Or.inl (Or.inr ⟨h1, by omega, g1⟩)
        · by_cases g2 : (xget xs z).2.1 * (xget xs y).1 < (xget xs y).2.1 * (xget xs z).1
          · exact Or.inr (Or.inr ⟨by omega, h2, g2⟩)
          · exact (hn h1 (by omega) h2 (by omega) (by omega) h3).elim

theorem nan_any (x : Int) (w : World) : Calls Tryd.prog 70 #[.int .i64 x] w fun e w' => e = .returned (.bool false) ∧ Below w.heap.size w w' := by
  have h : (x != x) = false := by simp
  go_enter Tryd.func70, Tryd.ntmps70
  go_wp2
  go_ret
  exact ⟨rfl, Below.refl _ _⟩
theorem cmp_any (x y : Int) (w : World) : Calls Tryd.prog 53 #[.int .i64 x, .int .i64 y] w fun e w' => e = .returned (.int .i64 (cmpI x y)) ∧ Below w.heap.size w w' := by
  rcases Int.lt_trichotomy x y with h | h | h
  · have HV : Hid (cmpI x y = -1) := Lib.hid (if_pos h)
    go_enter Tryd.func53, Tryd.ntmps53
    go_wp2_with fail
    refine (nan_any x _).mono ?_
    rintro e w1 ⟨rfl, hb1⟩
    go_wp2_with fail
    refine (nan_any y _).mono ?_
    rintro e w2 ⟨rfl, hb2⟩
    go_wp2
    go_ret
    exact ⟨by rw [HV.out]; rfl, below_next hb1 hb2⟩
  · subst h
    have HV : Hid (cmpI x x = 0) := Lib.hid (by simp [cmpI])
    go_enter Tryd.func53, Tryd.ntmps53
    go_wp2_with fail
    refine (nan_any x _).mono ?_
    rintro e w1 ⟨rfl, hb1⟩
    go_wp2_with fail
    refine (nan_any x _).mono ?_
    rintro e w2 ⟨rfl, hb2⟩
    go_wp2
    go_ret
    exact ⟨by rw [HV.out]; rfl, below_next hb1 hb2⟩
  · have h' : ¬ x < y := by omega
    have HV : Hid (cmpI x y = 1) := Lib.hid ((if_neg h').trans (if_pos h))
    go_enter Tryd.func53, Tryd.ntmps53
    go_wp2_with fail
    refine (nan_any x _).mono ?_
    rintro e w1 ⟨rfl, hb1⟩
    go_wp2_with fail
    refine (nan_any y _).mono ?_
    rintro e w2 ⟨rfl, hb2⟩
    go_wp2
    go_ret
    exact ⟨by rw [HV.out]; rfl, below_next hb1 hb2⟩

theorem smithLess_any (xs : List R3) (hC : tasksCheck xs = 0) : LessOk 63 lessS xs := by
  rintro w ⟨pl, pw, pd⟩ ⟨ql, qw, qd⟩ hp hq
  obtain ⟨a1, a2, a3, a4, _, _⟩ := task_mem hC hp
  obtain ⟨b1, b2, b3, b4, _, _⟩ := task_mem hC hq
  have hba : Below w.heap.size w ((w.alloc (Obj.cells #[.int .i64 pl, .int .i64 pw, .int .i64 pd] 94)).alloc (Obj.cells #[.int .i64 ql, .int .i64 qw, .int .i64 qd] 94)) := ((Below.refl _ _).alloc (Nat.le_refl _) _).alloc (by simp) _
  have HB := Lib.hid hba
  clear hp hq hC hba
  simp only at a1 a2 a3 a4 b1 b2 b3 b4
  by_cases h1 : pl = 0 ∨ ql = 0
  · have HV : Hid (lessS (pl, pw, pd) (ql, qw, qd) = cmpI (min pl 1) (min ql 1)) := Lib.hid (if_pos h1)
    rcases h1 with h1 | h1
    · subst h1
      go_enter Tryd.func63, Tryd.ntmps63
      go_wp2_with fail
      all_goals
        refine (cmp_any _ _ _).mono ?_
        rintro e w1 ⟨rfl, hb1⟩
        go_wp2
        go_ret
        exact ⟨by rw [HV.out, show min (0 : Int) 1 = 0 by omega]; first | (rw [show min ql 1 = 1 by omega]; rfl) | (rw [show min ql 1 = ql by omega]; rfl), HB.out.trans (hb1.mono HB.out.size)⟩
    · subst h1
      have hp0 : 0 < pl ∨ pl = 0 := by omega
      rcases hp0 with hp0 | hp0
      · have hpd : (pl == 0) = false := by simp; omega
        go_enter Tryd.func63, Tryd.ntmps63
        go_wp2_with fail
        all_goals
          refine (cmp_any _ _ _).mono ?_
          rintro e w1 ⟨rfl, hb1⟩
          go_wp2
          go_ret
          exact ⟨by rw [HV.out, show min (0 : Int) 1 = 0 by omega]; first | (rw [show min pl 1 = 1 by omega]; rfl) | (rw [show min pl 1 = pl by omega]; rfl), HB.out.trans (hb1.mono HB.out.size)⟩
      · subst hp0
        go_enter Tryd.func63, Tryd.ntmps63
        go_wp2_with fail
        all_goals
          refine (cmp_any _ _ _).mono ?_
          rintro e w1 ⟨rfl, hb1⟩
          go_wp2
          go_ret
          exact ⟨by rw [HV.out, show min (0 : Int) 1 = 0 by omega]; rfl, HB.out.trans (hb1.mono HB.out.size)⟩
  · have hpd : (pl == 0) = false := by simp; omega
    have hqd : (ql == 0) = false := by simp; omega
    have HV : Hid (lessS (pl, pw, pd) (ql, qw, qd) = qw * pl - pw * ql) := Lib.hid (if_neg h1)
    have m1 := Int.mul_nonneg b3 a1
    have m2 : qw * pl ≤ 10000 * 1000000000 := Int.mul_le_mul b4 a2 a1 (by omega)
    have m3 := Int.mul_nonneg a3 b1
    have m4 : pw * ql ≤ 10000 * 1000000000 := Int.mul_le_mul a4 b2 b1 (by omega)
    clear h1
    go_enter Tryd.func63, Tryd.ntmps63
    go_wp2
    go_ret
    exact ⟨by rw [HV.out]; rfl, HB.out⟩

theorem eg_smith : ∀ args w, (callFunc 63 args).run Tryd.prog w = .ok (.enter 63 args) w := enter_of Tryd.func63 (by kernel_rfl) rfl
theorem eg_refSmith1 : ∀ args w, (callFunc 64 args).run Tryd.prog w = .ok (.enter 64 args) w := enter_of Tryd.func64 (by kernel_rfl) rfl
theorem eg_refSmith : ∀ args w, (callFunc 46 args).run Tryd.prog w = .ok (.enter 46 args) w := enter_of Tryd.func46 (by kernel_rfl) rfl

set_option maxRecDepth 100000 in
set_option maxHeartbeats 4000000 in
theorem smith_any (a : Option Addr) (n cap : Nat) (xs : List R3) (w : World) (hl : n = xs.length) (hn : xs.length ≤ 100) (hx : Elems enc3 3 w a xs) :
    Calls Tryd.prog 45 #[.slice a n cap] w fun e w' => ∃ a' n' cap' ys, e = .returned (.tuple #[.slice a' n' cap', errV (tasksCheck xs)]) ∧ n' = List.length ys ∧ Elems encI 1 w' a' ys ∧
      (tasksCheck xs = 0 → Sorted (ltf (fOf lessS xs)) xs.length ys) ∧ (tasksCheck xs ≠ 0 → ys = []) ∧ Below w.heap.size w w' := by
  subst hl
  have hs := sorted_any 63 lessS a _ cap xs w eg_smith (smithLess_any xs) (swkS xs) rfl hn hx
  have HS := Lib.hid hs
  clear hs
  go_enter Tryd.func45, Tryd.ntmps45
  go_wp2_with fail
  refine (HS.out).mono ?_
  rintro e w1 ⟨a', n', cap', ys, rfl, h1, h2, h3, h4, h5⟩
  have HH := Lib.hid (show n' = ys.length ∧ Elems encI 1 w1 a' ys ∧ (tasksCheck xs = 0 → Sorted (ltf (fOf lessS xs)) xs.length ys) ∧ (tasksCheck xs ≠ 0 → ys = []) from ⟨h1, h2, h3, h4⟩)
  clear h1 h2 h3 h4
  go_wp2
  go_ret2
  exact ⟨a', n', cap', ys, rfl, HH.out.1, HH.out.2.1, HH.out.2.2.1, HH.out.2.2.2, h5⟩

set_option maxRecDepth 100000 in
set_option maxHeartbeats 4000000 in
theorem refSmithFn_any (a : Option Addr) (n cap b2 : Nat) (xs : List R3) (x y : Int) (w : World) (hC : tasksCheck xs = 0)
    (hl : n = xs.length) (hx : Elems enc3 3 w a xs) (c2 : w.cell? ⟨b2, 0, none⟩ = some (.slice a n cap)) (x0 : 0 ≤ x) (x1 : x < n) (y0 : 0 ≤ y) (y1 : y < n) (hn : n ≤ 1000) :
    Calls Tryd.prog 64 #[.int .i64 x, .int .i64 y, .pointer (some ⟨b2, 0, none⟩)] w fun e w' => e = .returned (.bool (ltf (fOf lessS xs) y x)) ∧ Below w.heap.size w w' := by
  subst hl
  obtain ⟨i, rfl⟩ := Int.eq_ofNat_of_zero_le x0
  obtain ⟨k, rfl⟩ := Int.eq_ofNat_of_zero_le y0
  have hi : i < xs.length := by omega
  have hk : k < xs.length := by omega
  obtain ⟨b, o, rfl, hc⟩ := hx.some hi
  have p1 := hc i hi 0 _ rfl
  have q1 := hc k hk 0 _ rfl
  have p2 := hc i hi 1 _ rfl
  have q2 := hc k hk 1 _ rfl
  simp only [Nat.add_zero] at p1 q1
  obtain ⟨a1, a2, a3, a4, _, _⟩ := tasks_ok_task hC i hi
  obtain ⟨b1, b2', b3, b4, _, _⟩ := tasks_ok_task hC k hk
  have hv : ltf (fOf lessS xs) k i = true ↔ (xs[k].1 = 0 ∧ 0 < xs[i].1) ∨ (0 < xs[k].1 ∧ 0 < xs[i].1 ∧ xs[i].2.1 * xs[k].1 < xs[k].2.1 * xs[i].1) := by
    rw [ltf_true]; unfold fOf; rw [xget_nat hi, xget_nat hk]; exact lessS_lt b1 a1
  clear hc hx
  generalize xs[i].1 = pl at *
  generalize xs[k].1 = ql at *
  generalize xs[i].2.1 = pw at *
  generalize xs[k].2.1 = qw at *
  have hi2 : (i : Int) < (xs.length : Int) := by omega
  have hk2 : (k : Int) < (xs.length : Int) := by omega
  by_cases hq0 : ql = 0
  · have HV : Hid (ltf (fOf lessS xs) k i = decide (0 < pl)) := Lib.hid (by rw [Bool.eq_iff_iff, hv, decide_eq_true_iff]; omega)
    clear hv
    subst hq0
    by_cases hp0 : pl = 0
    · subst hp0
      go_enter Tryd.func64, Tryd.ntmps64
      go_wp2
      go_ret
      exact ⟨by rw [HV.out]; rfl, Below.refl _ _⟩
    · have hd : (pl == 0) = false := by simpa using hp0
      have hd2 : decide (0 < pl) = true := by simp; omega
      go_enter Tryd.func64, Tryd.ntmps64
      go_wp2
      go_ret
      exact ⟨by rw [HV.out, hd2]; rfl, Below.refl _ _⟩
  · have hd3 : (ql == 0) = false := by simpa using hq0
    by_cases hp0 : pl = 0
    · have HV : Hid (ltf (fOf lessS xs) k i = false) := Lib.hid (by cases h : ltf (fOf lessS xs) k i with | false => rfl | true => have := hv.1 h; omega)
      clear hv
      subst hp0
      go_enter Tryd.func64, Tryd.ntmps64
      go_wp2
      go_ret
      exact ⟨by rw [HV.out]; rfl, Below.refl _ _⟩
    · have hd : (pl == 0) = false := by simpa using hp0
      have HV : Hid (ltf (fOf lessS xs) k i = decide (pw * ql < qw * pl)) := Lib.hid (by rw [Bool.eq_iff_iff, hv, decide_eq_true_iff]; omega)
      have m1 := Int.mul_nonneg b3 a1
      have m2 : qw * pl ≤ 10000 * 1000000000 := Int.mul_le_mul b4 a2 a1 (by omega)
      have m3 := Int.mul_nonneg a3 b1
      have m4 : pw * ql ≤ 10000 * 1000000000 := Int.mul_le_mul a4 b2' b1 (by omega)
      clear hv
      go_enter Tryd.func64, Tryd.ntmps64
      go_wp2
      go_quiet (fail)
      go_wp2
      go_ret
      exact ⟨by rw [HV.out]; rfl, below_drewN _ _ _⟩

set_option maxRecDepth 100000 in
set_option maxHeartbeats 4000000 in
theorem refSmith_any (xs : List R3) (hC : tasksCheck xs = 0) (hn : xs.length ≤ 100) : RefOk 46 xs (Sorted (ltf (fOf lessS xs)) xs.length) := by
  intro w a cap hx
  have habv : AbvOk 64 #[.pointer (some ⟨w.heap.size, 0, none⟩)] (ltf (fOf lessS xs)) xs.length (w.heap.size + 1) (w.alloc (Obj.cells #[.slice a xs.length cap] 57)) := by
    intro w' hw' x y x0 x1 y0 y1
    have hba : Below w.heap.size w (w.alloc (Obj.cells #[.slice a xs.length cap] 57)) := (Below.refl _ _).alloc (Nat.le_refl _) _
    exact refSmithFn_any a xs.length cap w.heap.size xs x y w' hC rfl (hx.below (hba.trans (hw'.mono (by omega))) (Nat.le_refl _)) ((hw'.cell (p := ⟨w.heap.size, 0, none⟩) (show w.heap.size < w.heap.size + 1 by omega)).trans (by simp)) x0 x1 y0 y1 (by omega)
  have hi := insert_any 64 #[.pointer (some ⟨w.heap.size, 0, none⟩)] (ltf (fOf lessS xs)) xs.length (w.alloc (Obj.cells #[.slice a xs.length cap] 57)) eg_refSmith1 (by simpa using habv) (swkS xs hC) (by omega)
  have HI := Lib.hid hi
  clear hi habv hx
  go_enter Tryd.func46, Tryd.ntmps46
  go_wp2_with fail
  refine (HI.out).mono ?_
  rintro e w1 ⟨a', cap', r, rfl, h1, h2, h3, h4⟩
  have HZ := Lib.hid (show Elems encI 1 w1 a' (tab xs.length r) ∧ Sorted (ltf (fOf lessS xs)) xs.length (tab xs.length r) from ⟨h1, r, rfl, h2, h3⟩)
  clear h1 h2 h3
  go_wp2
  go_ret
  exact ⟨_, _, _, _, rfl, (tab_len _ _).symm, HZ.out.1, HZ.out.2, ((Below.refl _ _).alloc (Nat.le_refl _) _).trans (h4.mono (by simp))⟩

set_option maxRecDepth 100000 in
set_option maxHeartbeats 4000000 in
theorem lineSmith_law (a : Option Addr) (n cap : Nat) (xs : List R3) (w : World) (hg : Hnd w) (hl : n = xs.length) (hn : n ≤ maxLen) (hx : Elems enc3 3 w a xs) :
    Calls Tryd.prog 12 #[.slice a n cap] w fun e w' => e = .returned (.bool true) ∧ Below w.heap.size w w' := by
  subst hl
  unfold maxLen at hn
  by_cases hA : 100 < xs.length
  · have hd : decide ((100 : Int) < (xs.length : Int)) = true := by simp; omega
    go_enter Tryd.func12, Tryd.ntmps12
    go_wp2
    go_ret
    exact ⟨rfl, Below.refl _ _⟩
  have hd : decide ((100 : Int) < (xs.length : Int)) = false := by simp; omega
  go_enter Tryd.func12, Tryd.ntmps12
  go_wp2_with fail
  refine (smith_any _ _ _ xs _ rfl (by omega) hx).mono ?_
  rintro e w1 ⟨a1, n1, c1, zs, rfl, rfl, he1, hz0, hz1, hb1⟩
  have hlen : zs.length ≤ 1000 := by
    by_cases hC : tasksCheck xs = 0
    · rw [(hz0 hC).len]; omega
    · rw [hz1 hC]; simp
  have HZ := Lib.hid (show (tasksCheck xs = 0 → Sorted (ltf (fOf lessS xs)) xs.length zs) ∧ (tasksCheck xs ≠ 0 → zs = []) from ⟨hz0, hz1⟩)
  clear hz0 hz1
  go_wp2_with fail
  refine (lawSorted_any 46 _ _ _ _ _ _ xs zs (Sorted (ltf (fOf lessS xs)) xs.length) _ eg_refSmith (hg.at hb1) (fun hC => refSmith_any xs hC (by omega)) (fun ys h => by rw [h.len]; omega) (fun h ys hy => (HZ.out.1 h).one (swkS xs h) hy) HZ.out.2 hlen rfl rfl (by omega) (hx.at hb1) he1).mono ?_
  rintro e w2 ⟨rfl, hb2⟩
  go_wp2
  go_ret
  exact ⟨rfl, below_next hb1 hb2⟩
end Go.Proofs.YtkfjmmoljhekiaaDoor
