/- The two function values of trip.Savings: which of two savings comes first; how much a tour carries. -/
import Derived.Test.YtannijeiecmjpaaDoorRows
import Derived.Test.YtannijeiecmjpaaDoorSavL
import Derived.Test.YtannijeiecmjpaaDoorRunC
import Derived.BigQuiet
import Derived.Deep.QuietTactic
import Derived.Deep.RegionHeld3
namespace Go.Proofs.YtannijeiecmjpaaDoor
open Go.RowKit

theorem nanE_any (x : Int) (w : World) : Calls Tryd.prog 53 #[.int .i64 x] w fun e w' => e = .returned (.bool false) ∧ w' = w := by
  have h : (x != x) = false := by simp
  go_enter Tryd.func53, Tryd.ntmps53
  go_wp2
  go_ret
  exact ⟨rfl, rfl⟩
theorem cmpE_any (x y : Int) (w : World) : Calls Tryd.prog 31 #[.int .i64 x, .int .i64 y] w fun e w' => e = .returned (.int .i64 (cmpI x y)) ∧ w' = w := by
  have hc : (x < y ∧ cmpI x y = -1) ∨ (¬ x < y ∧ y < x ∧ cmpI x y = 1) ∨ (¬ x < y ∧ ¬ y < x ∧ cmpI x y = 0) := by
    unfold cmpI
    by_cases h : x < y
    · left; exact ⟨h, if_pos h⟩
    · by_cases h2 : y < x
      · right; left; exact ⟨h, h2, by rw [if_neg h, if_pos h2]⟩
      · right; right; exact ⟨h, h2, by rw [if_neg h, if_neg h2]⟩
  rcases hc with ⟨h, hv⟩ | ⟨h, h2, hv⟩ | ⟨h, h2, hv⟩
  all_goals
    have HV := Lib.hid hv
    clear hv
    go_enter Tryd.func31, Tryd.ntmps31
    go_wp2_with fail
    refine (nanE_any x _).mono ?_
    rintro e w1 ⟨rfl, rfl⟩
    go_wp2_with fail
    refine (nanE_any y _).mono ?_
    rintro e w2 ⟨rfl, rfl⟩
    go_wp2
    go_ret
    exact ⟨by rw [HV.out]; rfl, rfl⟩
set_option maxHeartbeats 400000 in
theorem orE_any (a : Option Addr) (n cap : Nat) (xs : List Int) (w : World) (hl : n = xs.length) (hn : xs.length ≤ 1000) (hx : Elems encI 1 w a xs) :
    Calls Tryd.prog 30 #[.slice a n cap] w fun e w' => e = .returned (.int .i64 (orI xs)) ∧ w' = w := by
  subst hl
  go_enter Tryd.func30, Tryd.ntmps30
  go_wp2
  go_loopw [8] (fun i wr => ∃ k : Nat, k ≤ xs.length ∧ i = .int .i64 k ∧ Hid (orI xs = orI (xs.drop k)) ∧ w = wr) (fun i _ => xs.length - (intOf i).toNat)
  case atStart => exact ⟨0, by omega, rfl, Lib.hid rfl, rfl⟩
  case round =>
    obtain ⟨k, hk, rfl, HQ, rfl⟩ := hrel
    by_cases hlt : k < xs.length
    · obtain ⟨b, o, rfl, hc⟩ := hx.some hlt
      have h1 := hc k hlt 0 _ rfl
      simp only [Nat.add_zero, Nat.mul_one] at h1
      have HS := Lib.hid (orI_at xs k hlt)
      clear hc hx
      by_cases hz : xs[k] = 0
      · have HR : Hid (orI xs = orI (xs.drop (k + 1))) := Lib.hid (by rw [HQ.out, HS.out, if_pos hz])
        have hd : (xs[k] != 0) = false := by simp [hz]
        clear hz
        go_wp2
        exact ⟨⟨k + 1, by omega, by go_num, HR, trivial⟩, by simp [intOf]; omega⟩
      · have HR : Hid (orI xs = xs[k]) := Lib.hid (by rw [HQ.out, HS.out, if_neg hz])
        have hd : (xs[k] != 0) = true := by simp [hz]
        clear hz
        go_wp2
        go_ret
        exact ⟨by rw [HR.out]; rfl, rfl⟩
    · obtain rfl : k = xs.length := by omega
      have HR : Hid (orI xs = 0) := Lib.hid (by rw [HQ.out, List.drop_length]; rfl)
      clear hx HQ
      go_wp2
      go_ret
      exact ⟨by rw [HR.out]; rfl, rfl⟩
/-- What trip.Savings' comparison tells. -/
def cfSv (x y : R3) : Int := orI [cmpI y.1 x.1, cmpI x.2.1 y.2.1, cmpI x.2.2 y.2.2]
theorem cfSv_lt (x y : R3) : decide (cfSv x y < 0) = ltSv x y := by
  cases h : ltSv x y with
  | true => rw [ltSv_iff] at h; simp only [decide_eq_true_eq]; unfold cfSv cmpI orI orI orI orI; repeat' split
            all_goals omega
  | false => rw [ltSv_not] at h; simp only [decide_eq_false_iff_not]; unfold cfSv cmpI orI orI orI orI; repeat' split
             all_goals omega
theorem elems_new3 (w : World) (x y z : Int) (t : TypeId) : Elems encI 1 (w.alloc (.cells #[.int .i64 x, .int .i64 y, .int .i64 z] t)) (some ⟨w.heap.size, 0, none⟩) [x, y, z] := by
  refine Or.inr ⟨_, _, rfl, fun j hj i u hu => ?_⟩
  have hi : i = 0 := by
    rcases i with _ | i
    · rfl
    · simp at hu
  subst hi
  show (match (w.heap.push (.cells #[.int .i64 x, .int .i64 y, .int .i64 z] t))[w.heap.size]? with | some (.cells c _ _) => if (none : Option Nat).isSome then none else c[0 + j * 1 + 0]? | _ => none) = some u
  rw [Array.getElem?_push_size]
  rcases j with _ | _ | _ | j
  · simpa using hu
  · simpa using hu
  · simpa using hu
  · simp at hj; omega
set_option maxRecDepth 100000 in
set_option maxHeartbeats 4000000 in
theorem sav1_any (x y : R3) (w : World) : Calls Tryd.prog 51 #[.agg #[.int .i64 x.1, .int .i64 x.2.1, .int .i64 x.2.2], .agg #[.int .i64 y.1, .int .i64 y.2.1, .int .i64 y.2.2]] w fun e w' => e = .returned (.int .i64 (cfSv x y)) ∧
    w' = ((((w.alloc (.cells #[.int .i64 x.1, .int .i64 x.2.1, .int .i64 x.2.2] 116)).alloc (.cells #[.int .i64 y.1, .int .i64 y.2.1, .int .i64 y.2.2] 116)).alloc (.cells #[.int .i64 (cmpI y.1 x.1), .int .i64 (cmpI x.2.1 y.2.1), .int .i64 (cmpI x.2.2 y.2.2)] 3)).drew) := by
  obtain ⟨x1, x2, x3⟩ := x
  obtain ⟨y1, y2, y3⟩ := y
  have HV : Hid (cfSv (x1, x2, x3) (y1, y2, y3) = orI [cmpI y1 x1, cmpI x2 y2, cmpI x3 y3]) := Lib.hid rfl
  simp only
  obtain ⟨b1, hb1⟩ : ∃ b1, b1 = w.heap.size := ⟨_, rfl⟩
  obtain ⟨W, hW⟩ : ∃ W, W = (w.alloc (.cells #[.int .i64 x1, .int .i64 x2, .int .i64 x3] 116)).alloc (.cells #[.int .i64 y1, .int .i64 y2, .int .i64 y3] 116) := ⟨_, rfl⟩
  have s1 : (w.alloc (.cells #[.int .i64 x1, .int .i64 x2, .int .i64 x3] 116)).heap.size = w.heap.size + 1 := by simp
  have c1 : W.cell? ⟨w.heap.size, 0, none⟩ = some (.int .i64 x1) := by rw [hW]; exact cell_a1 (by simp) _
  have c2 : W.cell? ⟨w.heap.size, 1, none⟩ = some (.int .i64 x2) := by rw [hW]; exact cell_a1 (by simp) _
  have c3 : W.cell? ⟨w.heap.size, 2, none⟩ = some (.int .i64 x3) := by rw [hW]; exact cell_a1 (by simp) _
  have d1 : W.cell? ⟨w.heap.size + 1, 0, none⟩ = some (.int .i64 y1) := by rw [hW, ← s1]; simp
  have d2 : W.cell? ⟨w.heap.size + 1, 1, none⟩ = some (.int .i64 y2) := by rw [hW, ← s1]; simp
  have d3 : W.cell? ⟨w.heap.size + 1, 2, none⟩ = some (.int .i64 y3) := by rw [hW, ← s1]; simp
  rw [← hW]
  clear s1
  go_enter Tryd.func51, Tryd.ntmps51
  go_wp2
  rw [← hW]
  clear hW hb1
  generalize w.heap.size = q at *
  have hE : Elems encI 1 ((W.alloc (.cells #[.int .i64 (cmpI y1 x1), .int .i64 (cmpI x2 y2), .int .i64 (cmpI x3 y3)] 3)).drew) (some ⟨W.heap.size, 0, none⟩) [cmpI y1 x1, cmpI x2 y2, cmpI x3 y3] := elems_new3 W _ _ _ _
  go_region_held3 (fun w' => w'.cell? ⟨q, 0, none⟩ = some (.int .i64 x1) ∧ w'.cell? ⟨q, 1, none⟩ = some (.int .i64 x2) ∧ w'.cell? ⟨q, 2, none⟩ = some (.int .i64 x3) ∧ w'.cell? ⟨q + 1, 0, none⟩ = some (.int .i64 y1) ∧ w'.cell? ⟨q + 1, 1, none⟩ = some (.int .i64 y2) ∧ w'.cell? ⟨q + 1, 2, none⟩ = some (.int .i64 y3))
    (first
      | exact ⟨c1, c2, c3, d1, d2, d3⟩
      | exact ⟨cell_a1 c1 _, cell_a1 c2 _, cell_a1 c3 _, cell_a1 d1 _, cell_a1 d2 _, cell_a1 d3 _⟩)
    (first
      | (go_at_call 31; refine (cmpE_any _ _ _).mono ?_; rintro e wN ⟨rfl, rfl⟩)
      | (go_at_call 30; refine (orE_any (some ⟨W.heap.size, 0, none⟩) 3 3 [cmpI y1 x1, cmpI x2 y2, cmpI x3 y3] _ rfl (by simp) hE).mono ?_; rintro e wN ⟨rfl, rfl⟩))
  go_wp2
  go_ret
  exact ⟨by rw [HV.out]; rfl, rfl⟩
/-- How much a tour carries. -/
theorem savLoad_any (bw : Nat) (aw at' : Option Addr) (nw cw n cap : Nat) (wants t : List Int) (w : World) (hw : nw = wants.length) (hwb : ∀ x ∈ wants, 0 ≤ x ∧ x ≤ 1000000000) (hl : n = t.length) (hn : t.length ≤ 60)
    (ht : ∀ x ∈ t, 0 ≤ x ∧ x < wants.length) (hx : Elems encI 1 w at' t) (hxw : Elems encI 1 w aw wants) (c1 : w.cell? ⟨bw, 0, none⟩ = some (.slice aw nw cw)) :
    Calls Tryd.prog 52 #[.slice at' n cap, .pointer (some ⟨bw, 0, none⟩)] w fun e w' => e = .returned (.int .i64 (loadS wants t)) ∧ w' = w := by
  subst hl
  subst hw
  have HB := Lib.hid (fun k => loadS_bound hwb (t.take k))
  have HXW := Lib.hid hxw
  have HT := Lib.hid ht
  have HWB := Lib.hid hwb
  clear hxw ht hwb
  go_enter Tryd.func52, Tryd.ntmps52
  go_wp2
  go_loopw [4, 9] (fun nv iv wr => ∃ k : Nat, k ≤ t.length ∧ iv = .int .i64 k ∧ nv = .int .i64 (loadS wants (t.take k)) ∧ w = wr) (fun _ iv _ => t.length - (intOf iv).toNat)
  case atStart => exact ⟨0, by omega, rfl, by simp [loadS], rfl⟩
  case round =>
    obtain ⟨k, hk, rfl, rfl, rfl⟩ := hrel
    by_cases hlt : k < t.length
    · obtain ⟨b, o, rfl, hc⟩ := hx.some hlt
      have h1 := hc k hlt 0 _ rfl
      simp only [Nat.add_zero, Nat.mul_one] at h1
      obtain ⟨g1, g2⟩ := HT.out _ (List.getElem_mem hlt)
      obtain ⟨p, hp⟩ : ∃ p : Nat, t[k] = (p : Int) := ⟨t[k].toNat, by omega⟩
      rw [hp] at h1 g1 g2
      have hpl : p < wants.length := by omega
      obtain ⟨b2, o2, rfl, hc2⟩ := HXW.out.some hpl
      have h2 := hc2 p hpl 0 _ rfl
      simp only [Nat.add_zero, Nat.mul_one] at h2
      have hq := HB.out k
      have hqk : (t.take k).length ≤ 60 := by rw [List.length_take]; omega
      have hv := HWB.out _ (List.getElem_mem hpl)
      have HS : Hid (loadS wants (t.take (k + 1)) = loadS wants (t.take k) + wants[p]) := Lib.hid (by
        rw [List.take_succ_eq_append_getElem hlt, loadS_app, hp]
        congr 1
        simp [loadS, List.getD_eq_getElem?_getD, hpl])
      clear hc hc2 hx hp
      generalize loadS wants (t.take k) = q at *
      generalize wants[p] = v at *
      have hw2 : IntKind.i64.wrap (q + v) = q + v := IntWalk.i64_in _ (by omega)
      go_wp2
      exact ⟨⟨k + 1, by omega, by go_num, by rw [HS.out], trivial⟩, by simp [intOf]; omega⟩
    · obtain rfl : k = t.length := by omega
      clear hx HXW
      go_wp2
      go_ret
      exact ⟨by rw [List.take_length]; rfl, rfl⟩
end Go.Proofs.YtannijeiecmjpaaDoor
