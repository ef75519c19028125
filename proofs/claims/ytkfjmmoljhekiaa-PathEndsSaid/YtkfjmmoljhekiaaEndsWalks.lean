/- The walks of what foresightlaw.PathEnds reaches: jobs, sameInts, Ends, Ends5, both Works, may, counts, each by its contract; then the law itself. -/
import Derived.Test.YtkfjmmoljhekiaaRows
import Derived.Test.YtkfjmmoljhekiaaBase
import Derived.BigRegion
namespace Go.Proofs.Ytkfjmmoljhekiaa
open Go.RowKit
theorem Try.info3 : (Try.prog.info? 3).map (fun i => (i.zero, i.size, i.bytes)) = some (some (.int .i64 0), 1, 8) := by kernel_rfl
theorem Try.info40 : (Try.prog.info? 40).map (fun i => (i.zero, i.size, i.bytes)) = some (some (.agg #[.int .i64 0, .int .i64 0, .int .i64 0]), 3, 24) := by kernel_rfl
theorem Try.info27 : (Try.prog.info? 27).map (fun i => (i.zero, i.size, i.bytes)) = some (some (.agg #[.int .i64 0, .int .i64 0, .int .i64 0]), 3, 24) := by kernel_rfl
set_option maxHeartbeats 1000000 in
theorem jobs_any (a : Option Addr) (n cap : Nat) (xs : List R3) (w : World) (hn : xs.length ≤ 1000) (hl : n = xs.length)
   (hx : Elems enc3 3 w a xs) :
  Calls Try.prog 7 #[.slice a n cap] w fun e w' => ∃ a' cap', e = .returned (.slice a' xs.length cap') ∧ Elems enc3 3 w' a' xs ∧ Below w.heap.size w w' := by
  subst hl
  obtain ⟨i0, hi, hz0, hz1, hz2⟩ := info_parts Try.info40
  go_enter Try.func7, Try.ntmps7
  go_wp2
  go_loopw [3, 4] (fun v i wr => ∃ k : Nat, k ≤ xs.length ∧ i = .int .i64 k ∧ wr.ownsRow w.heap.size 40 3 v k ((xs.take k).flatMap enc3) ∧ Below w.heap.size w wr) (fun _ i _ => xs.length - (intOf i).toNat)
  case atStart => exact ⟨0, by omega, rfl, World.ownsRow_nil _ _ _ _, Below.refl _ _⟩
  case round =>
    obtain ⟨k, hk, rfl, hown, hb⟩ := hrel
    by_cases hlt : k < xs.length
    · obtain ⟨b, o, rfl, hc⟩ := hx.some hlt
      have hbB := lt_of_cell (hc k hlt 0 _ rfl)
      simp only at hbB
      have h1 := (hb.cell hbB).trans (hc k hlt 0 _ rfl)
      have h2 := (hb.cell hbB).trans (hc k hlt 1 _ rfl)
      have h3 := (hb.cell hbB).trans (hc k hlt 2 _ rfl)
      simp only [Nat.add_zero] at h1
      clear hc hx
      have hsz := hb.size
      go_wp2_with fail
      go_region_held3 (fun w' => w'.cell? ⟨b, o + k * 3, none⟩ = some (.int .i64 xs[k].1) ∧ w'.cell? ⟨b, o + k * 3 + 1, none⟩ = some (.int .i64 xs[k].2.1) ∧ w'.cell? ⟨b, o + k * 3 + 2, none⟩ = some (.int .i64 xs[k].2.2))
        (first | go_keep | (refine ⟨?_, ?_, ?_⟩ <;> (rw [hb1.cell hbB]; simp [*])))
        ((refine step_append_rec (by rfl) _ _ 32 (by rfl) w.heap.size 40 i0 _ 3 24 Try.underlying32 hi hz0 hz1 hz2 rfl (by decide) _ _ _ (by rfl) ((hown.alloc _).drew) wr.heap.size (enc3 xs[k]) (heap_alloc_new wr _) (by rfl) rfl (enc3_one _) (by unfold maxLen; omega) (by omega) (by simp; omega) ?_; intro v' w1 hown1 hb1))
      rw [take_flat] at hown1
      clear hown hsz h1 h2 h3
      go_wp2
      go_roundw
      case rel => exact ⟨k + 1, by omega, by go_num, hown1, hb.trans (((((Below.refl _ _).alloc hb.size _).drew).trans hb1))⟩
      case measure => simp [intOf]; omega
    · go_wp2
      go_ret
      obtain rfl : k = xs.length := by omega
      rw [List.take_length] at hown
      obtain ⟨a', cap', rfl, he, _⟩ := elems_of_owns (enc := enc3) (fun _ => rfl) rfl hown
      exact ⟨a', cap', rfl, he, hb⟩
def mayB (p : R3) : Bool := decide (0 ≤ p.2.1) && (decide (p.2.1 ≤ p.2.2) && decide (p.2.2 ≤ 100000000000))
theorem may_any (a b c : Int) (w : World) : Calls Try.prog 10 #[.agg #[.int .i64 a, .int .i64 b, .int .i64 c]] w fun e w' => e = .returned (.bool (mayB (a,b,c))) ∧ w' = w.alloc (.cells #[.int .i64 a, .int .i64 b, .int .i64 c] 26) := by
  go_enter Try.func10, Try.ntmps10
  go_wp2
  all_goals (go_ret; refine ⟨ret_bool ?_, rfl⟩; first | (simp [mayB, *]; done) | (simp [mayB, *]; omega))
theorem counts_any (a b c : Int) (w : World) : Calls Try.prog 11 #[.agg #[.int .i64 a, .int .i64 b, .int .i64 c]] w fun e w' => e = .returned (.bool (mayB (a,b,c))) ∧ w' = w.alloc (.cells #[.int .i64 a, .int .i64 b, .int .i64 c] 27) := by
  go_enter Try.func11, Try.ntmps11
  go_wp2
  all_goals (go_ret; refine ⟨ret_bool ?_, rfl⟩; first | (simp [mayB, *]; done) | (simp [mayB, *]; omega))
def work1 (t : Int) (n : Int) (j : R3) : Int := if j.1 ≤ t then wrap64 (n + j.2.1) else n
def work2 (t : Int) (n : Int) (p : R3) : Int := if mayB (p.1, p.2.1, p.2.2) = true ∧ p.2.1 < (if t < p.2.2 then t else p.2.2) then wrap64 (n - wrap64 ((if t < p.2.2 then t else p.2.2) - p.2.1)) else n
theorem work2_yes {t n : Int} {p : R3} (h1 : mayB (p.1, p.2.1, p.2.2) = true) (h2 : p.2.1 < (if t < p.2.2 then t else p.2.2)) : work2 t n p = wrap64 (n - wrap64 ((if t < p.2.2 then t else p.2.2) - p.2.1)) := if_pos ⟨h1, h2⟩
theorem work2_no1 {t n : Int} {p : R3} (h1 : ¬ mayB (p.1, p.2.1, p.2.2) = true) : work2 t n p = n := if_neg (fun h => h1 h.1)
theorem work2_no2 {t n : Int} {p : R3} (h1 : (if t < p.2.2 then t else p.2.2) ≤ p.2.1) : work2 t n p = n := if_neg (fun h => absurd h.2 (Int.not_lt.mpr h1))

set_option maxHeartbeats 1000000 in
theorem work_any (a a2 : Option Addr) (n cap n2 cap2 : Nat) (xs ys : List R3) (t : Int) (w : World) (hn : xs.length ≤ 1000) (hl : n = xs.length) (hn2 : ys.length ≤ 1000) (hl2 : n2 = ys.length)
   (hx : Elems enc3 3 w a xs) (hy : Elems enc3 3 w a2 ys) :
  Calls Try.prog 8 #[.slice a n cap, .slice a2 n2 cap2, .int .i64 t] w fun e w' => e = .returned (.int .i64 (ys.foldl (work2 t) (xs.foldl (work1 t) 0))) ∧ Below w.heap.size w w' := by
  subst hl; subst hl2
  go_enter Try.func8, Try.ntmps8
  go_wp2
  go_loopw [7, 15] (fun v i wr => ∃ k : Nat, k ≤ xs.length ∧ i = .int .i64 k ∧ v = .int .i64 ((xs.take k).foldl (work1 t) 0) ∧ Below w.heap.size w wr) (fun _ i _ => xs.length - (intOf i).toNat)
  case atStart => exact ⟨0, by omega, rfl, rfl, Below.refl _ _⟩
  case round =>
    obtain ⟨k, hk, rfl, rfl, hb⟩ := hrel
    by_cases hlt : k < xs.length
    · obtain ⟨b, o, rfl, hc⟩ := hx.some hlt
      have hbB := lt_of_cell (hc k hlt 0 _ rfl)
      simp only at hbB
      have h1 := (hb.cell hbB).trans (hc k hlt 0 _ rfl)
      have h2 := (hb.cell hbB).trans (hc k hlt 1 _ rfl)
      have h3 := (hb.cell hbB).trans (hc k hlt 2 _ rfl)
      simp only [Nat.add_zero] at h1
      have HF := Lib.hid (foldl_take (work1 t) 0 xs k hlt)
      clear hc hx
      generalize List.foldl (work1 t) 0 (List.take k xs) = N at *
      go_wp2
      all_goals exact ⟨⟨k + 1, by omega, by go_num, by rw [HF.out]; simp [work1]; omega, hb.alloc hb.size _⟩, by simp [intOf]; omega⟩
    · clear hx
      obtain rfl : k = xs.length := by omega
      go_wp2
      rw [List.take_length]
      obtain ⟨N, hN⟩ : ∃ N, N = List.foldl (work1 t) 0 xs := ⟨_, rfl⟩
      rw [← hN]
      have HN := Lib.hid hN
      clear hN
      obtain ⟨w0, hw0⟩ : ∃ w0 : World, w0 = wr := ⟨_, rfl⟩
      go_loopw [7, 30] (fun v i wr => ∃ k : Nat, k ≤ ys.length ∧ i = .int .i64 k ∧ v = .int .i64 ((ys.take k).foldl (work2 t) N) ∧ Below w.heap.size w wr) (fun _ i _ => ys.length - (intOf i).toNat)
      case atStart => exact ⟨0, by omega, rfl, rfl, hb⟩
      case round =>
        clear hw0 w0 hb
        obtain ⟨k, hk, rfl, rfl, hb⟩ := hrel
        by_cases hlt : k < ys.length
        · obtain ⟨b, o, rfl, hc⟩ := hy.some hlt
          have hbB := lt_of_cell (hc k hlt 0 _ rfl)
          simp only at hbB
          have h1 := (hb.cell hbB).trans (hc k hlt 0 _ rfl)
          have h2 := (hb.cell hbB).trans (hc k hlt 1 _ rfl)
          have h3 := (hb.cell hbB).trans (hc k hlt 2 _ rfl)
          simp only [Nat.add_zero] at h1
          have HF := Lib.hid (foldl_take (work2 t) N ys k hlt)
          clear hc hy
          generalize List.foldl (work2 t) N (List.take k ys) = M at *
          by_cases hm : mayB (ys[k].1, ys[k].2.1, ys[k].2.2) = true
          all_goals
            go_wp2_with (go_at_call 10; refine (may_any _ _ _ _).mono ?_; rintro e w' ⟨rfl, rfl⟩)
          all_goals
            refine ⟨⟨k + 1, by omega, by go_num, ?_, (hb.alloc hb.size _).alloc (by have := hb.size; simp; omega) _⟩, by simp [intOf]; omega⟩
            rw [HF.out]
            first
              | rw [work2_yes hm (by assumption)]
              | rw [work2_no1 hm]
              | rw [work2_no2 (by assumption)]
        · clear hy
          obtain rfl : k = ys.length := by omega
          rw [List.take_length]
          go_wp2
          go_ret
          exact ⟨ret_int (by rw [HN.out]), hb⟩
set_option maxHeartbeats 1000000 in
theorem refWork_any (a a2 : Option Addr) (n cap n2 cap2 : Nat) (xs ys : List R3) (t : Int) (w : World) (hn : xs.length ≤ 1000) (hl : n = xs.length) (hn2 : ys.length ≤ 1000) (hl2 : n2 = ys.length)
   (hx : Elems enc3 3 w a xs) (hy : Elems enc3 3 w a2 ys) :
  Calls Try.prog 9 #[.slice a n cap, .slice a2 n2 cap2, .int .i64 t] w fun e w' => e = .returned (.int .i64 (ys.foldl (work2 t) (xs.foldl (work1 t) 0))) ∧ Below w.heap.size w w' := by
  subst hl; subst hl2
  go_enter Try.func9, Try.ntmps9
  go_wp2
  go_loopw [7, 15] (fun v i wr => ∃ k : Nat, k ≤ xs.length ∧ i = .int .i64 k ∧ v = .int .i64 ((xs.take k).foldl (work1 t) 0) ∧ Below w.heap.size w wr) (fun _ i _ => xs.length - (intOf i).toNat)
  case atStart => exact ⟨0, by omega, rfl, rfl, Below.refl _ _⟩
  case round =>
    obtain ⟨k, hk, rfl, rfl, hb⟩ := hrel
    by_cases hlt : k < xs.length
    · obtain ⟨b, o, rfl, hc⟩ := hx.some hlt
      have hbB := lt_of_cell (hc k hlt 0 _ rfl)
      simp only at hbB
      have h1 := (hb.cell hbB).trans (hc k hlt 0 _ rfl)
      have h2 := (hb.cell hbB).trans (hc k hlt 1 _ rfl)
      have h3 := (hb.cell hbB).trans (hc k hlt 2 _ rfl)
      simp only [Nat.add_zero] at h1
      have HF := Lib.hid (foldl_take (work1 t) 0 xs k hlt)
      clear hc hx
      generalize List.foldl (work1 t) 0 (List.take k xs) = N at *
      go_wp2
      all_goals exact ⟨⟨k + 1, by omega, by go_num, by rw [HF.out]; simp [work1]; omega, hb.alloc hb.size _⟩, by simp [intOf]; omega⟩
    · clear hx
      obtain rfl : k = xs.length := by omega
      go_wp2
      rw [List.take_length]
      obtain ⟨N, hN⟩ : ∃ N, N = List.foldl (work1 t) 0 xs := ⟨_, rfl⟩
      rw [← hN]
      have HN := Lib.hid hN
      clear hN
      obtain ⟨w0, hw0⟩ : ∃ w0 : World, w0 = wr := ⟨_, rfl⟩
      go_loopw [7, 30] (fun v i wr => ∃ k : Nat, k ≤ ys.length ∧ i = .int .i64 k ∧ v = .int .i64 ((ys.take k).foldl (work2 t) N) ∧ Below w.heap.size w wr) (fun _ i _ => ys.length - (intOf i).toNat)
      case atStart => exact ⟨0, by omega, rfl, rfl, hb⟩
      case round =>
        clear hw0 w0 hb
        obtain ⟨k, hk, rfl, rfl, hb⟩ := hrel
        by_cases hlt : k < ys.length
        · obtain ⟨b, o, rfl, hc⟩ := hy.some hlt
          have hbB := lt_of_cell (hc k hlt 0 _ rfl)
          simp only at hbB
          have h1 := (hb.cell hbB).trans (hc k hlt 0 _ rfl)
          have h2 := (hb.cell hbB).trans (hc k hlt 1 _ rfl)
          have h3 := (hb.cell hbB).trans (hc k hlt 2 _ rfl)
          simp only [Nat.add_zero] at h1
          have HF := Lib.hid (foldl_take (work2 t) N ys k hlt)
          clear hc hy
          generalize List.foldl (work2 t) N (List.take k ys) = M at *
          have hsz := hb.size
          by_cases ht : t < ys[k].2.2
          · have he : (if t < ys[k].2.2 then t else ys[k].2.2) = t := if_pos ht
            have HE := Lib.hid he
            clear he
            by_cases hm : mayB (ys[k].1, ys[k].2.1, ys[k].2.2) = true
            all_goals
              go_wp2_with (go_at_call 11; refine (counts_any _ _ _ _).mono ?_; rintro e w' ⟨rfl, rfl⟩)
            all_goals
              refine ⟨⟨k + 1, by omega, by go_num, ?_, (hb.alloc hb.size _).alloc (by simp; omega) _⟩, by simp [intOf]; omega⟩
              rw [HF.out]
              first
                | rw [work2_yes hm (by rw [HE.out]; assumption), HE.out]
                | rw [work2_no1 hm]
                | rw [work2_no2 (by rw [HE.out]; assumption)]
          · have he : (if t < ys[k].2.2 then t else ys[k].2.2) = ys[k].2.2 := if_neg ht
            have HE := Lib.hid he
            clear he
            by_cases hm : mayB (ys[k].1, ys[k].2.1, ys[k].2.2) = true
            all_goals
              go_wp2_with (go_at_call 11; refine (counts_any _ _ _ _).mono ?_; rintro e w' ⟨rfl, rfl⟩)
            all_goals
              refine ⟨⟨k + 1, by omega, by go_num, ?_, (hb.alloc hb.size _).alloc (by simp; omega) _⟩, by simp [intOf]; omega⟩
              rw [HF.out]
              first
                | rw [work2_yes hm (by rw [HE.out]; assumption), HE.out]
                | rw [work2_no1 hm]
                | rw [work2_no2 (by rw [HE.out]; assumption)]
        · clear hy
          obtain rfl : k = ys.length := by omega
          rw [List.take_length]
          go_wp2
          go_ret
          exact ⟨ret_int (by rw [HN.out]), hb⟩
set_option maxHeartbeats 400000 in
theorem sameInts_any (a a2 : Option Addr) (n n2 c1 c2 : Nat) (xs ys : List Int) (w : World) (hl : n = xs.length) (hl2 : n2 = ys.length) (hn : xs.length ≤ 1000) (hm : ys.length ≤ 1000)
   (hx : Elems encI 1 w a xs) (hy : Elems encI 1 w a2 ys) :
  Calls Try.prog 4 #[.slice a n c1, .slice a2 n2 c2] w fun e w' => e = .returned (.bool (decide (xs = ys))) ∧ Below w.heap.size w w' := by
  subst hl; subst hl2
  by_cases hl : xs.length = ys.length
  · have HL := Lib.hid hl
    have hb : ((xs.length : Int) != ys.length) = false := by simp; omega
    clear hl
    go_enter Try.func4, Try.ntmps4
    go_wp2
    go_loopw [5] (fun i wr => ∃ k : Nat, k ≤ xs.length ∧ i = .int .i64 k ∧ (xs.take k = ys.take k) ∧ ∃ n, wr = w.drewN n) (fun i _ => xs.length - (intOf i).toNat)
    case atStart => exact ⟨0, by omega, rfl, by simp, 0, rfl⟩
    case round =>
      obtain ⟨k, hk, rfl, he, n, rfl⟩ := hrel
      have HE := Lib.hid he
      clear he
      by_cases hlt : k < xs.length
      · have hlt2 : k < ys.length := by rw [← HL.out]; exact hlt
        obtain ⟨b1, o1, rfl, hxc⟩ := hx.some hlt
        obtain ⟨b2, o2, rfl, hyc⟩ := hy.some hlt2
        have hxk := hxc k hlt 0 _ rfl
        have hyk := hyc k hlt2 0 _ rfl
        simp only [Nat.add_zero, Nat.mul_one] at hxk hyk
        clear hx hy hxc hyc
        by_cases hek : xs[k] = ys[k]
        · have he2 : (xs[k] != ys[k]) = false := by simp [hek]
          have HK : Hid (xs.take (k + 1) = ys.take (k + 1)) := by
            show xs.take (k + 1) = ys.take (k + 1)
            rw [List.take_succ_eq_append_getElem hlt, List.take_succ_eq_append_getElem hlt2, HE.out, hek]
          clear hek
          go_wp2
          go_quiet (fail)
          go_wp2
          exact ⟨⟨k + 1, by omega, by go_num, HK.out, _, rfl⟩, by simp [intOf]; omega⟩
        · have he2 : (xs[k] != ys[k]) = true := by simp [hek]
          have hne : ¬ xs = ys := by intro h; subst h; exact hek rfl
          clear hek
          go_wp2
          go_quiet (fail)
          go_wp2
          go_ret
          exact ⟨ret_bool (by simp [hne]), (below_drewN _ _ _).trans (below_drewN _ _ _)⟩
      · clear hx hy
        obtain rfl : k = xs.length := by omega
        have hxy : xs = ys := by
          have h1 := HE.out
          rw [List.take_length, HL.out, List.take_length] at h1
          exact h1
        have HX := Lib.hid hxy
        clear hxy
        go_wp2
        go_ret
        exact ⟨ret_bool (by simp [HX.out]), below_drewN _ _ _⟩
  · have hb : ((xs.length : Int) != ys.length) = true := by simp; omega
    have hl' : ¬ xs = ys := by intro h; exact hl (by rw [h])
    go_enter Try.func4, Try.ntmps4
    go_wp2
    go_ret
    exact ⟨ret_bool (by simp [hl']), Below.refl _ _⟩
def endsStep (n : Nat) (E : List Int) (p : R3) : List Int :=
  if mayB (p.1, p.2.1, p.2.2) = true ∧ 0 ≤ p.1 ∧ p.1 < n then E.set p.1.toNat (if E.getD p.1.toNat 0 < p.2.2 then p.2.2 else E.getD p.1.toNat 0) else E
theorem ends_no1 {n : Nat} {E : List Int} {p : R3} (h : ¬ mayB (p.1, p.2.1, p.2.2) = true) : endsStep n E p = E := if_neg (fun x => h x.1)
theorem ends_no2 {n : Nat} {E : List Int} {p : R3} (h : ¬ (0 ≤ p.1 ∧ p.1 < (n : Int))) : endsStep n E p = E := if_neg (fun x => h x.2)
theorem ends_yes {n : Nat} {E : List Int} {p : R3} (h : mayB (p.1, p.2.1, p.2.2) = true) (h1 : 0 ≤ p.1) (h2 : p.1 < (n : Int)) (hl : p.1.toNat < E.length) : endsStep n E p = E.set p.1.toNat (if E[p.1.toNat] < p.2.2 then p.2.2 else E[p.1.toNat]) := by
  unfold endsStep; rw [if_pos ⟨h, h1, h2⟩, getD_lt hl]
theorem ends_less {n : Nat} {E : List Int} {p : R3} (h : mayB (p.1, p.2.1, p.2.2) = true) (h1 : 0 ≤ p.1) (h2 : p.1 < (n : Int)) (hl : p.1.toNat < E.length) (h3 : E[p.1.toNat] < p.2.2) : endsStep n E p = E.set p.1.toNat p.2.2 := by
  rw [ends_yes h h1 h2 hl, if_pos h3]
theorem ends_more {n : Nat} {E : List Int} {p : R3} (h : mayB (p.1, p.2.1, p.2.2) = true) (h1 : 0 ≤ p.1) (h2 : p.1 < (n : Int)) (hl : p.1.toNat < E.length) (h3 : ¬ E[p.1.toNat] < p.2.2) : endsStep n E p = E := by
  rw [ends_yes h h1 h2 hl, if_neg h3, List.set_getElem_self]
set_option maxHeartbeats 4000000 in
theorem ends5_any (a a2 : Option Addr) (n cap n2 cap2 : Nat) (ys : List R3) (w : World) (hn : n ≤ 1000) (hn2 : ys.length ≤ 1000) (hl2 : n2 = ys.length)
   (hy : Elems enc3 3 w a2 ys) :
  Calls Try.prog 6 #[.slice a n cap, .slice a2 n2 cap2] w fun e w' => ∃ a' cap', e = .returned (.slice a' n cap') ∧ Elems encI 1 w' a' (ys.foldl (endsStep n) (List.replicate n 0)) ∧ Below w.heap.size w w' := by
  subst hl2
  obtain ⟨i0, hi, hz0, hz1, hz2⟩ := info_parts Try.info3
  go_enter Try.func6, Try.ntmps6
  go_wp2_with (at_make; refine wpList_make_full _ rfl _ _ 29 rfl w.heap.size 3 i0 (.int .i64 0) 1 Try.underlying29 hi hz0 hz1 _ _ _ _ n rfl rfl (by omega) (by omega) (by rw [hz2]; omega) (by unfold maxLen; omega) (Nat.le_refl _) ?_)
  intro w1 hown hgr
  rw [made_ints] at hown
  have hb : Below w.heap.size w w1 := (Below.refl _ _).grown hgr (Nat.le_refl _) (by simp)
  go_wp2
  clear hgr
  go_loopw [13] (fun i wr => ∃ k : Nat, k ≤ ys.length ∧ i = .int .i64 k ∧ wr.ownsRow w.heap.size 3 1 (.slice (some ⟨w.heap.size, 0, none⟩) n n) n (((ys.take k).foldl (endsStep n) (List.replicate n 0)).map (Value.int .i64)) ∧ Below w.heap.size w wr) (fun i _ => ys.length - (intOf i).toNat)
  case atStart => exact ⟨0, by omega, rfl, hown, hb⟩
  case round =>
    clear hown hb
    obtain ⟨k, hk, rfl, hown, hb⟩ := hrel
    by_cases hlt : k < ys.length
    · obtain ⟨b, o, rfl, hc⟩ := hy.some hlt
      have hbB := lt_of_cell (hc k hlt 0 _ rfl)
      simp only at hbB
      have h1 := (hb.cell hbB).trans (hc k hlt 0 _ rfl)
      have h2 := (hb.cell hbB).trans (hc k hlt 1 _ rfl)
      have h3 := (hb.cell hbB).trans (hc k hlt 2 _ rfl)
      simp only [Nat.add_zero] at h1
      have HF := Lib.hid (foldl_take (endsStep n) (List.replicate n 0) ys k hlt)
      clear hc hy
      generalize List.foldl (endsStep n) (List.replicate n 0) (List.take k ys) = E at *
      have hE := Lib.hid (owns_len hown)
      have hsz := hb.size
      by_cases hm : mayB (ys[k].1, ys[k].2.1, ys[k].2.2) = true
      · by_cases hj : 0 ≤ ys[k].1 ∧ ys[k].1 < n
        · obtain ⟨hj1, hj2⟩ := hj
          have hjn : ys[k].1.toNat < n := by omega
          have hEl : ys[k].1.toNat < E.length := by rw [hE.out]; exact hjn
          have hg := owns_get hown ys[k].1.toNat hjn hEl
          have hg1 := cell_a1 hg
          have hg2 := cell_a2 hg
          have hf2 := frozen_a2 (owns_base hown).2 (hown.frozenAt ys[k].1.toNat)
          by_cases hlt2 : E[ys[k].1.toNat] < ys[k].2.2
          · go_wp2_with fail
            go_region_held3 (fun w' => w'.cell? ⟨wr.heap.size, 0, none⟩ = some (.int .i64 ys[k].1) ∧ w'.cell? ⟨wr.heap.size, 1, none⟩ = some (.int .i64 ys[k].2.1) ∧ w'.cell? ⟨wr.heap.size, 2, none⟩ = some (.int .i64 ys[k].2.2) ∧ w'.cell? ⟨w.heap.size, ys[k].1.toNat, none⟩ = some (.int .i64 E[ys[k].1.toNat]))
              (first | go_keep | (simp [*]; done))
              ((go_at_call 11; refine (counts_any _ _ _ _).mono ?_; rintro e w' ⟨rfl, rfl⟩))
            go_wp2
            refine ⟨⟨k + 1, by omega, by go_num, ?_, ?_⟩, by simp [intOf]; omega⟩
            · rw [HF.out, ends_less hm hj1 hj2 hEl hlt2]
              exact (owns_set ((hown.alloc _).alloc _) _ _).drew
            · exact (((hb.alloc hb.size _).alloc (by simp; omega) _).setCell (Nat.le_refl _) _).drew
          · go_wp2_with fail
            go_region_held3 (fun w' => w'.cell? ⟨wr.heap.size, 0, none⟩ = some (.int .i64 ys[k].1) ∧ w'.cell? ⟨wr.heap.size, 1, none⟩ = some (.int .i64 ys[k].2.1) ∧ w'.cell? ⟨wr.heap.size, 2, none⟩ = some (.int .i64 ys[k].2.2) ∧ w'.cell? ⟨w.heap.size, ys[k].1.toNat, none⟩ = some (.int .i64 E[ys[k].1.toNat]))
              (first | go_keep | (simp [*]; done))
              ((go_at_call 11; refine (counts_any _ _ _ _).mono ?_; rintro e w' ⟨rfl, rfl⟩))
            go_wp2
            refine ⟨⟨k + 1, by omega, by go_num, ?_, ?_⟩, by simp [intOf]; omega⟩
            · rw [HF.out, ends_more hm hj1 hj2 hEl (Int.not_lt.mpr hlt2)]
              exact ((hown.alloc _).alloc _).drew
            · exact ((hb.alloc hb.size _).alloc (by simp; omega) _).drew
        · by_cases hj1 : 0 ≤ ys[k].1
          · have hj2 : ¬ ys[k].1 < (n : Int) := fun h => hj ⟨hj1, h⟩
            have hd1 : decide (0 ≤ ys[k].1) = true := by simpa using hj1
            have hd2 : decide (ys[k].1 < (n : Int)) = false := by simpa using hj2
            go_wp2_with fail
            refine wp_region_held_drew (S := fun w' => w'.cell? ⟨wr.heap.size, 0, none⟩ = some (.int .i64 ys[k].1) ∧ w'.cell? ⟨wr.heap.size, 1, none⟩ = some (.int .i64 ys[k].2.1) ∧ w'.cell? ⟨wr.heap.size, 2, none⟩ = some (.int .i64 ys[k].2.2)) (by kernel_rfl) (by go_keep) (fun hHeld => ?_)
            refine take_yes (i := 0) (v := ?_) rfl (by kernel_rfl) (by kernel_rfl) (by kernel_rfl) (fun _ _ _ h => h) (by kernel_rfl) hHeld ?_ ?_
            rotate_left
            · intro w hSw; go_split_ands; go_simp; try with_reducible rfl
            try simp only [Act.put, List.setIfInBounds_toArray, List.set_cons_zero, List.set_cons_succ]
            refine take_loud (i := 1) rfl (by kernel_rfl) (fun K hK => ?_)
            go_simp
            go_at_call 11
            refine (counts_any _ _ _ _).mono ?_
            rintro e w' ⟨rfl, rfl⟩
            go_wp2_with fail
            refine hK.out _ _ (by go_keep) (fun hHeld => ?_)
            clear hK K
            try simp only [Act.put, List.setIfInBounds_toArray, List.set_cons_zero, List.set_cons_succ]
            refine take_yes (i := 2) (v := ?_) rfl (by kernel_rfl) (by kernel_rfl) (by kernel_rfl) (fun _ _ _ h => h) (by kernel_rfl) hHeld ?_ ?_
            rotate_left
            · intro w hSw; go_split_ands; go_simp; try with_reducible rfl
            try simp only [Act.put, List.setIfInBounds_toArray, List.set_cons_zero, List.set_cons_succ]
            refine take_yes (i := 3) (v := ?_) rfl (by kernel_rfl) (by kernel_rfl) (by kernel_rfl) (fun _ _ _ h => h) (by kernel_rfl) hHeld ?_ ?_
            rotate_left
            · intro w hSw; go_split_ands; go_simp; try with_reducible rfl
            try simp only [Act.put, List.setIfInBounds_toArray, List.set_cons_zero, List.set_cons_succ]
            refine take_yes (i := 4) (v := ?_) rfl (by kernel_rfl) (by kernel_rfl) (by kernel_rfl) (fun _ _ _ h => h) (by kernel_rfl) hHeld ?_ ?_
            rotate_left
            · intro w hSw; go_split_ands; go_simp; try with_reducible rfl
            try simp only [Act.put, List.setIfInBounds_toArray, List.set_cons_zero, List.set_cons_succ]
            refine take_yes (i := 5) (v := ?_) rfl (by kernel_rfl) (by kernel_rfl) (by kernel_rfl) (fun _ _ _ h => h) (by kernel_rfl) hHeld ?_ ?_
            rotate_left
            · intro w hSw; go_split_ands; go_simp; try with_reducible rfl
            try simp only [Act.put, List.setIfInBounds_toArray, List.set_cons_zero, List.set_cons_succ]
            refine take_yes (i := 6) (v := ?_) rfl (by kernel_rfl) (by kernel_rfl) (by kernel_rfl) (fun _ _ _ h => h) (by kernel_rfl) hHeld ?_ ?_
            rotate_left
            · intro w hSw; go_split_ands; go_simp; try with_reducible rfl
            try simp only [Act.put, List.setIfInBounds_toArray, List.set_cons_zero, List.set_cons_succ]
            refine take_yes (i := 7) (v := ?_) rfl (by kernel_rfl) (by kernel_rfl) (by kernel_rfl) (fun _ _ _ h => h) (by kernel_rfl) hHeld ?_ ?_
            rotate_left
            · intro w hSw; go_split_ands; go_simp; try with_reducible rfl
            try simp only [Act.put, List.setIfInBounds_toArray, List.set_cons_zero, List.set_cons_succ]
            refine take_yes (i := 8) (v := ?_) rfl (by kernel_rfl) (by kernel_rfl) (by kernel_rfl) (fun _ _ _ h => h) (by kernel_rfl) hHeld ?_ ?_
            rotate_left
            · intro w hSw; go_split_ands; go_simp; try with_reducible rfl
            try simp only [Act.put, List.setIfInBounds_toArray, List.set_cons_zero, List.set_cons_succ]
            refine take_yes (i := 9) (v := ?_) rfl (by kernel_rfl) (by kernel_rfl) (by kernel_rfl) (fun _ _ _ h => h) (by kernel_rfl) hHeld ?_ ?_
            rotate_left
            · intro w hSw; go_split_ands; go_simp; try with_reducible rfl
            try simp only [Act.put, List.setIfInBounds_toArray, List.set_cons_zero, List.set_cons_succ]
            refine take_yes (i := 10) (v := ?_) rfl (by kernel_rfl) (by kernel_rfl) (by kernel_rfl) (fun _ _ _ h => h) (by kernel_rfl) hHeld ?_ ?_
            rotate_left
            · intro w hSw; go_split_ands; go_simp; try with_reducible rfl
            try simp only [Act.put, List.setIfInBounds_toArray, List.set_cons_zero, List.set_cons_succ]
            refine take_yes (i := 11) (v := ?_) rfl (by kernel_rfl) (by kernel_rfl) (by kernel_rfl) (fun _ _ _ h => h) (by kernel_rfl) hHeld ?_ ?_
            rotate_left
            · intro w hSw; go_split_ands; go_simp; try with_reducible rfl
            try simp only [Act.put, List.setIfInBounds_toArray, List.set_cons_zero, List.set_cons_succ]
            refine take_yes (i := 12) (v := ?_) rfl (by kernel_rfl) (by kernel_rfl) (by kernel_rfl) (fun _ _ _ h => h) (by kernel_rfl) hHeld ?_ ?_
            rotate_left
            · intro w hSw; go_split_ands; go_simp; try with_reducible rfl
            try simp only [Act.put, List.setIfInBounds_toArray, List.set_cons_zero, List.set_cons_succ]
            refine take_yes (i := 13) (v := ?_) rfl (by kernel_rfl) (by kernel_rfl) (by kernel_rfl) (fun _ _ _ h => h) (by kernel_rfl) hHeld ?_ ?_
            rotate_left
            · intro w hSw; go_split_ands; go_simp; try with_reducible rfl
            try simp only [Act.put, List.setIfInBounds_toArray, List.set_cons_zero, List.set_cons_succ]
            refine take_yes (i := 14) (v := ?_) rfl (by kernel_rfl) (by kernel_rfl) (by kernel_rfl) (fun _ _ _ h => h) (by kernel_rfl) hHeld ?_ ?_
            rotate_left
            · intro w hSw; go_split_ands; go_simp; try with_reducible rfl
            try simp only [Act.put, List.setIfInBounds_toArray, List.set_cons_zero, List.set_cons_succ]
            refine take_no (i := 15) rfl (by kernel_rfl) (by kernel_rfl) (by kernel_rfl) (fun _ _ _ h => h) (by kernel_rfl) hHeld ?_
            try simp only [Act.put, List.setIfInBounds_toArray, List.set_cons_zero, List.set_cons_succ]
            refine take_no (i := 16) rfl (by kernel_rfl) (by kernel_rfl) (by kernel_rfl) (fun _ _ _ h => h) (by kernel_rfl) hHeld ?_
            try simp only [Act.put, List.setIfInBounds_toArray, List.set_cons_zero, List.set_cons_succ]
            refine take_no (i := 17) rfl (by kernel_rfl) (by kernel_rfl) (by kernel_rfl) (fun _ _ _ h => h) (by kernel_rfl) hHeld ?_
            try simp only [Act.put, List.setIfInBounds_toArray, List.set_cons_zero, List.set_cons_succ]
            refine take_no (i := 18) rfl (by kernel_rfl) (by kernel_rfl) (by kernel_rfl) (fun _ _ _ h => h) (by kernel_rfl) hHeld ?_
            try simp only [Act.put, List.setIfInBounds_toArray, List.set_cons_zero, List.set_cons_succ]
            refine take_no (i := 19) rfl (by kernel_rfl) (by kernel_rfl) (by kernel_rfl) (fun _ _ _ h => h) (by kernel_rfl) hHeld ?_
            try simp only [Act.put, List.setIfInBounds_toArray, List.set_cons_zero, List.set_cons_succ]
            refine take_no (i := 20) rfl (by kernel_rfl) (by kernel_rfl) (by kernel_rfl) (fun _ _ _ h => h) (by kernel_rfl) hHeld ?_
            try simp only [Act.put, List.setIfInBounds_toArray, List.set_cons_zero, List.set_cons_succ]
            refine take_no (i := 21) rfl (by kernel_rfl) (by kernel_rfl) (by kernel_rfl) (fun _ _ _ h => h) (by kernel_rfl) hHeld ?_
            try simp only [Act.put, List.setIfInBounds_toArray, List.set_cons_zero, List.set_cons_succ]
            refine take_no (i := 22) rfl (by kernel_rfl) (by kernel_rfl) (by kernel_rfl) (fun _ _ _ h => h) (by kernel_rfl) hHeld ?_
            try simp only [Act.put, List.setIfInBounds_toArray, List.set_cons_zero, List.set_cons_succ]
            refine take_yes (i := 23) (v := ?_) rfl (by kernel_rfl) (by kernel_rfl) (by kernel_rfl) (fun _ _ _ h => h) (by kernel_rfl) hHeld ?_ ?_
            rotate_left
            · intro w hSw; go_split_ands; go_simp; try with_reducible rfl
            try simp only [Act.put, List.setIfInBounds_toArray, List.set_cons_zero, List.set_cons_succ]
            refine wpAnyH_done (by kernel_rfl) ?_ _
            go_wp2
            exact ⟨⟨k + 1, by omega, by go_num, by rw [HF.out, ends_no2 hj]; exact ((hown.alloc _).alloc _).drew, ((hb.alloc hb.size _).alloc (by simp; omega) _).drew⟩, by simp [intOf]; omega⟩
          · have hd1 : decide (0 ≤ ys[k].1) = false := by simpa using hj1
            go_wp2_with fail
            refine wp_region_held_drew (S := fun w' => w'.cell? ⟨wr.heap.size, 0, none⟩ = some (.int .i64 ys[k].1) ∧ w'.cell? ⟨wr.heap.size, 1, none⟩ = some (.int .i64 ys[k].2.1) ∧ w'.cell? ⟨wr.heap.size, 2, none⟩ = some (.int .i64 ys[k].2.2)) (by kernel_rfl) (by go_keep) (fun hHeld => ?_)
            refine take_yes (i := 0) (v := ?_) rfl (by kernel_rfl) (by kernel_rfl) (by kernel_rfl) (fun _ _ _ h => h) (by kernel_rfl) hHeld ?_ ?_
            rotate_left
            · intro w hSw; go_split_ands; go_simp; try with_reducible rfl
            try simp only [Act.put, List.setIfInBounds_toArray, List.set_cons_zero, List.set_cons_succ]
            refine take_loud (i := 1) rfl (by kernel_rfl) (fun K hK => ?_)
            go_simp
            go_at_call 11
            refine (counts_any _ _ _ _).mono ?_
            rintro e w' ⟨rfl, rfl⟩
            go_wp2_with fail
            refine hK.out _ _ (by go_keep) (fun hHeld => ?_)
            clear hK K
            try simp only [Act.put, List.setIfInBounds_toArray, List.set_cons_zero, List.set_cons_succ]
            refine take_yes (i := 2) (v := ?_) rfl (by kernel_rfl) (by kernel_rfl) (by kernel_rfl) (fun _ _ _ h => h) (by kernel_rfl) hHeld ?_ ?_
            rotate_left
            · intro w hSw; go_split_ands; go_simp; try with_reducible rfl
            try simp only [Act.put, List.setIfInBounds_toArray, List.set_cons_zero, List.set_cons_succ]
            refine take_yes (i := 3) (v := ?_) rfl (by kernel_rfl) (by kernel_rfl) (by kernel_rfl) (fun _ _ _ h => h) (by kernel_rfl) hHeld ?_ ?_
            rotate_left
            · intro w hSw; go_split_ands; go_simp; try with_reducible rfl
            try simp only [Act.put, List.setIfInBounds_toArray, List.set_cons_zero, List.set_cons_succ]
            refine take_yes (i := 4) (v := ?_) rfl (by kernel_rfl) (by kernel_rfl) (by kernel_rfl) (fun _ _ _ h => h) (by kernel_rfl) hHeld ?_ ?_
            rotate_left
            · intro w hSw; go_split_ands; go_simp; try with_reducible rfl
            try simp only [Act.put, List.setIfInBounds_toArray, List.set_cons_zero, List.set_cons_succ]
            refine take_yes (i := 5) (v := ?_) rfl (by kernel_rfl) (by kernel_rfl) (by kernel_rfl) (fun _ _ _ h => h) (by kernel_rfl) hHeld ?_ ?_
            rotate_left
            · intro w hSw; go_split_ands; go_simp; try with_reducible rfl
            try simp only [Act.put, List.setIfInBounds_toArray, List.set_cons_zero, List.set_cons_succ]
            refine take_yes (i := 6) (v := ?_) rfl (by kernel_rfl) (by kernel_rfl) (by kernel_rfl) (fun _ _ _ h => h) (by kernel_rfl) hHeld ?_ ?_
            rotate_left
            · intro w hSw; go_split_ands; go_simp; try with_reducible rfl
            try simp only [Act.put, List.setIfInBounds_toArray, List.set_cons_zero, List.set_cons_succ]
            refine take_yes (i := 7) (v := ?_) rfl (by kernel_rfl) (by kernel_rfl) (by kernel_rfl) (fun _ _ _ h => h) (by kernel_rfl) hHeld ?_ ?_
            rotate_left
            · intro w hSw; go_split_ands; go_simp; try with_reducible rfl
            try simp only [Act.put, List.setIfInBounds_toArray, List.set_cons_zero, List.set_cons_succ]
            refine take_no (i := 8) rfl (by kernel_rfl) (by kernel_rfl) (by kernel_rfl) (fun _ _ _ h => h) (by kernel_rfl) hHeld ?_
            try simp only [Act.put, List.setIfInBounds_toArray, List.set_cons_zero, List.set_cons_succ]
            refine take_no (i := 9) rfl (by kernel_rfl) (by kernel_rfl) (by kernel_rfl) (fun _ _ _ h => h) (by kernel_rfl) hHeld ?_
            try simp only [Act.put, List.setIfInBounds_toArray, List.set_cons_zero, List.set_cons_succ]
            refine take_no (i := 10) rfl (by kernel_rfl) (by kernel_rfl) (by kernel_rfl) (fun _ _ _ h => h) (by kernel_rfl) hHeld ?_
            try simp only [Act.put, List.setIfInBounds_toArray, List.set_cons_zero, List.set_cons_succ]
            refine take_no (i := 11) rfl (by kernel_rfl) (by kernel_rfl) (by kernel_rfl) (fun _ _ _ h => h) (by kernel_rfl) hHeld ?_
            try simp only [Act.put, List.setIfInBounds_toArray, List.set_cons_zero, List.set_cons_succ]
            refine take_no (i := 12) rfl (by kernel_rfl) (by kernel_rfl) (by kernel_rfl) (fun _ _ _ h => h) (by kernel_rfl) hHeld ?_
            try simp only [Act.put, List.setIfInBounds_toArray, List.set_cons_zero, List.set_cons_succ]
            refine take_yes (i := 13) (v := ?_) rfl (by kernel_rfl) (by kernel_rfl) (by kernel_rfl) (fun _ _ _ h => h) (by kernel_rfl) hHeld ?_ ?_
            rotate_left
            · intro w hSw; go_split_ands; go_simp; try with_reducible rfl
            try simp only [Act.put, List.setIfInBounds_toArray, List.set_cons_zero, List.set_cons_succ]
            refine take_yes (i := 14) (v := ?_) rfl (by kernel_rfl) (by kernel_rfl) (by kernel_rfl) (fun _ _ _ h => h) (by kernel_rfl) hHeld ?_ ?_
            rotate_left
            · intro w hSw; go_split_ands; go_simp; try with_reducible rfl
            try simp only [Act.put, List.setIfInBounds_toArray, List.set_cons_zero, List.set_cons_succ]
            refine take_no (i := 15) rfl (by kernel_rfl) (by kernel_rfl) (by kernel_rfl) (fun _ _ _ h => h) (by kernel_rfl) hHeld ?_
            try simp only [Act.put, List.setIfInBounds_toArray, List.set_cons_zero, List.set_cons_succ]
            refine take_no (i := 16) rfl (by kernel_rfl) (by kernel_rfl) (by kernel_rfl) (fun _ _ _ h => h) (by kernel_rfl) hHeld ?_
            try simp only [Act.put, List.setIfInBounds_toArray, List.set_cons_zero, List.set_cons_succ]
            refine take_no (i := 17) rfl (by kernel_rfl) (by kernel_rfl) (by kernel_rfl) (fun _ _ _ h => h) (by kernel_rfl) hHeld ?_
            try simp only [Act.put, List.setIfInBounds_toArray, List.set_cons_zero, List.set_cons_succ]
            refine take_no (i := 18) rfl (by kernel_rfl) (by kernel_rfl) (by kernel_rfl) (fun _ _ _ h => h) (by kernel_rfl) hHeld ?_
            try simp only [Act.put, List.setIfInBounds_toArray, List.set_cons_zero, List.set_cons_succ]
            refine take_no (i := 19) rfl (by kernel_rfl) (by kernel_rfl) (by kernel_rfl) (fun _ _ _ h => h) (by kernel_rfl) hHeld ?_
            try simp only [Act.put, List.setIfInBounds_toArray, List.set_cons_zero, List.set_cons_succ]
            refine take_no (i := 20) rfl (by kernel_rfl) (by kernel_rfl) (by kernel_rfl) (fun _ _ _ h => h) (by kernel_rfl) hHeld ?_
            try simp only [Act.put, List.setIfInBounds_toArray, List.set_cons_zero, List.set_cons_succ]
            refine take_no (i := 21) rfl (by kernel_rfl) (by kernel_rfl) (by kernel_rfl) (fun _ _ _ h => h) (by kernel_rfl) hHeld ?_
            try simp only [Act.put, List.setIfInBounds_toArray, List.set_cons_zero, List.set_cons_succ]
            refine take_no (i := 22) rfl (by kernel_rfl) (by kernel_rfl) (by kernel_rfl) (fun _ _ _ h => h) (by kernel_rfl) hHeld ?_
            try simp only [Act.put, List.setIfInBounds_toArray, List.set_cons_zero, List.set_cons_succ]
            refine take_yes (i := 23) (v := ?_) rfl (by kernel_rfl) (by kernel_rfl) (by kernel_rfl) (fun _ _ _ h => h) (by kernel_rfl) hHeld ?_ ?_
            rotate_left
            · intro w hSw; go_split_ands; go_simp; try with_reducible rfl
            try simp only [Act.put, List.setIfInBounds_toArray, List.set_cons_zero, List.set_cons_succ]
            refine wpAnyH_done (by kernel_rfl) ?_ _
            go_wp2
            exact ⟨⟨k + 1, by omega, by go_num, by rw [HF.out, ends_no2 hj]; exact ((hown.alloc _).alloc _).drew, ((hb.alloc hb.size _).alloc (by simp; omega) _).drew⟩, by simp [intOf]; omega⟩
      · go_wp2_with fail
        refine wp_region_held_drew (S := fun w' => w'.cell? ⟨wr.heap.size, 0, none⟩ = some (.int .i64 ys[k].1) ∧ w'.cell? ⟨wr.heap.size, 1, none⟩ = some (.int .i64 ys[k].2.1) ∧ w'.cell? ⟨wr.heap.size, 2, none⟩ = some (.int .i64 ys[k].2.2)) (by kernel_rfl) (by go_keep) (fun hHeld => ?_)
        refine take_yes (i := 0) (v := ?_) rfl (by kernel_rfl) (by kernel_rfl) (by kernel_rfl) (fun _ _ _ h => h) (by kernel_rfl) hHeld ?_ ?_
        rotate_left
        · intro w hSw; go_split_ands; go_simp; try with_reducible rfl
        try simp only [Act.put, List.setIfInBounds_toArray, List.set_cons_zero, List.set_cons_succ]
        refine take_loud (i := 1) rfl (by kernel_rfl) (fun K hK => ?_)
        go_simp
        go_at_call 11
        refine (counts_any _ _ _ _).mono ?_
        rintro e w' ⟨rfl, rfl⟩
        go_wp2_with fail
        refine hK.out _ _ (by go_keep) (fun hHeld => ?_)
        clear hK K
        try simp only [Act.put, List.setIfInBounds_toArray, List.set_cons_zero, List.set_cons_succ]
        refine take_yes (i := 2) (v := ?_) rfl (by kernel_rfl) (by kernel_rfl) (by kernel_rfl) (fun _ _ _ h => h) (by kernel_rfl) hHeld ?_ ?_
        rotate_left
        · intro w hSw; go_split_ands; go_simp; try with_reducible rfl
        try simp only [Act.put, List.setIfInBounds_toArray, List.set_cons_zero, List.set_cons_succ]
        refine take_no (i := 3) rfl (by kernel_rfl) (by kernel_rfl) (by kernel_rfl) (fun _ _ _ h => h) (by kernel_rfl) hHeld ?_
        try simp only [Act.put, List.setIfInBounds_toArray, List.set_cons_zero, List.set_cons_succ]
        refine take_no (i := 4) rfl (by kernel_rfl) (by kernel_rfl) (by kernel_rfl) (fun _ _ _ h => h) (by kernel_rfl) hHeld ?_
        try simp only [Act.put, List.setIfInBounds_toArray, List.set_cons_zero, List.set_cons_succ]
        refine take_no (i := 5) rfl (by kernel_rfl) (by kernel_rfl) (by kernel_rfl) (fun _ _ _ h => h) (by kernel_rfl) hHeld ?_
        try simp only [Act.put, List.setIfInBounds_toArray, List.set_cons_zero, List.set_cons_succ]
        refine take_yes (i := 6) (v := ?_) rfl (by kernel_rfl) (by kernel_rfl) (by kernel_rfl) (fun _ _ _ h => h) (by kernel_rfl) hHeld ?_ ?_
        rotate_left
        · intro w hSw; go_split_ands; go_simp; try with_reducible rfl
        try simp only [Act.put, List.setIfInBounds_toArray, List.set_cons_zero, List.set_cons_succ]
        refine take_yes (i := 7) (v := ?_) rfl (by kernel_rfl) (by kernel_rfl) (by kernel_rfl) (fun _ _ _ h => h) (by kernel_rfl) hHeld ?_ ?_
        rotate_left
        · intro w hSw; go_split_ands; go_simp; try with_reducible rfl
        try simp only [Act.put, List.setIfInBounds_toArray, List.set_cons_zero, List.set_cons_succ]
        refine take_no (i := 8) rfl (by kernel_rfl) (by kernel_rfl) (by kernel_rfl) (fun _ _ _ h => h) (by kernel_rfl) hHeld ?_
        try simp only [Act.put, List.setIfInBounds_toArray, List.set_cons_zero, List.set_cons_succ]
        refine take_no (i := 9) rfl (by kernel_rfl) (by kernel_rfl) (by kernel_rfl) (fun _ _ _ h => h) (by kernel_rfl) hHeld ?_
        try simp only [Act.put, List.setIfInBounds_toArray, List.set_cons_zero, List.set_cons_succ]
        refine take_no (i := 10) rfl (by kernel_rfl) (by kernel_rfl) (by kernel_rfl) (fun _ _ _ h => h) (by kernel_rfl) hHeld ?_
        try simp only [Act.put, List.setIfInBounds_toArray, List.set_cons_zero, List.set_cons_succ]
        refine take_no (i := 11) rfl (by kernel_rfl) (by kernel_rfl) (by kernel_rfl) (fun _ _ _ h => h) (by kernel_rfl) hHeld ?_
        try simp only [Act.put, List.setIfInBounds_toArray, List.set_cons_zero, List.set_cons_succ]
        refine take_no (i := 12) rfl (by kernel_rfl) (by kernel_rfl) (by kernel_rfl) (fun _ _ _ h => h) (by kernel_rfl) hHeld ?_
        try simp only [Act.put, List.setIfInBounds_toArray, List.set_cons_zero, List.set_cons_succ]
        refine take_yes (i := 13) (v := ?_) rfl (by kernel_rfl) (by kernel_rfl) (by kernel_rfl) (fun _ _ _ h => h) (by kernel_rfl) hHeld ?_ ?_
        rotate_left
        · intro w hSw; go_split_ands; go_simp; try with_reducible rfl
        try simp only [Act.put, List.setIfInBounds_toArray, List.set_cons_zero, List.set_cons_succ]
        refine take_yes (i := 14) (v := ?_) rfl (by kernel_rfl) (by kernel_rfl) (by kernel_rfl) (fun _ _ _ h => h) (by kernel_rfl) hHeld ?_ ?_
        rotate_left
        · intro w hSw; go_split_ands; go_simp; try with_reducible rfl
        try simp only [Act.put, List.setIfInBounds_toArray, List.set_cons_zero, List.set_cons_succ]
        refine take_no (i := 15) rfl (by kernel_rfl) (by kernel_rfl) (by kernel_rfl) (fun _ _ _ h => h) (by kernel_rfl) hHeld ?_
        try simp only [Act.put, List.setIfInBounds_toArray, List.set_cons_zero, List.set_cons_succ]
        refine take_no (i := 16) rfl (by kernel_rfl) (by kernel_rfl) (by kernel_rfl) (fun _ _ _ h => h) (by kernel_rfl) hHeld ?_
        try simp only [Act.put, List.setIfInBounds_toArray, List.set_cons_zero, List.set_cons_succ]
        refine take_no (i := 17) rfl (by kernel_rfl) (by kernel_rfl) (by kernel_rfl) (fun _ _ _ h => h) (by kernel_rfl) hHeld ?_
        try simp only [Act.put, List.setIfInBounds_toArray, List.set_cons_zero, List.set_cons_succ]
        refine take_no (i := 18) rfl (by kernel_rfl) (by kernel_rfl) (by kernel_rfl) (fun _ _ _ h => h) (by kernel_rfl) hHeld ?_
        try simp only [Act.put, List.setIfInBounds_toArray, List.set_cons_zero, List.set_cons_succ]
        refine take_no (i := 19) rfl (by kernel_rfl) (by kernel_rfl) (by kernel_rfl) (fun _ _ _ h => h) (by kernel_rfl) hHeld ?_
        try simp only [Act.put, List.setIfInBounds_toArray, List.set_cons_zero, List.set_cons_succ]
        refine take_no (i := 20) rfl (by kernel_rfl) (by kernel_rfl) (by kernel_rfl) (fun _ _ _ h => h) (by kernel_rfl) hHeld ?_
        try simp only [Act.put, List.setIfInBounds_toArray, List.set_cons_zero, List.set_cons_succ]
        refine take_no (i := 21) rfl (by kernel_rfl) (by kernel_rfl) (by kernel_rfl) (fun _ _ _ h => h) (by kernel_rfl) hHeld ?_
        try simp only [Act.put, List.setIfInBounds_toArray, List.set_cons_zero, List.set_cons_succ]
        refine take_no (i := 22) rfl (by kernel_rfl) (by kernel_rfl) (by kernel_rfl) (fun _ _ _ h => h) (by kernel_rfl) hHeld ?_
        try simp only [Act.put, List.setIfInBounds_toArray, List.set_cons_zero, List.set_cons_succ]
        refine take_yes (i := 23) (v := ?_) rfl (by kernel_rfl) (by kernel_rfl) (by kernel_rfl) (fun _ _ _ h => h) (by kernel_rfl) hHeld ?_ ?_
        rotate_left
        · intro w hSw; go_split_ands; go_simp; try with_reducible rfl
        try simp only [Act.put, List.setIfInBounds_toArray, List.set_cons_zero, List.set_cons_succ]
        refine wpAnyH_done (by kernel_rfl) ?_ _
        go_wp2
        exact ⟨⟨k + 1, by omega, by go_num, by rw [HF.out, ends_no1 hm]; exact ((hown.alloc _).alloc _).drew, ((hb.alloc hb.size _).alloc (by simp; omega) _).drew⟩, by simp [intOf]; omega⟩
    · clear hy
      obtain rfl : k = ys.length := by omega
      rw [List.take_length] at hown
      go_wp2
      go_ret
      obtain ⟨a', cap', hv, he, _⟩ := ints_of_owns (owns_len hown).symm hown
      rw [owns_len hown] at hv
      exact ⟨_, _, rfl, by simp only [Value.slice.injEq] at hv; rw [hv.1]; exact he, hb⟩
set_option maxHeartbeats 1000000 in
theorem ends_any (a a2 : Option Addr) (n cap n2 cap2 : Nat) (ys : List R3) (w : World) (hn : n ≤ 1000) (hn2 : ys.length ≤ 1000) (hl2 : n2 = ys.length)
   (hy : Elems enc3 3 w a2 ys) :
  Calls Try.prog 5 #[.slice a n cap, .slice a2 n2 cap2] w fun e w' => ∃ a' cap', e = .returned (.slice a' n cap') ∧ Elems encI 1 w' a' (ys.foldl (endsStep n) (List.replicate n 0)) ∧ Below w.heap.size w w' := by
  subst hl2
  obtain ⟨i0, hi, hz0, hz1, hz2⟩ := info_parts Try.info3
  go_enter Try.func5, Try.ntmps5
  go_wp2_with (at_make; refine wpList_make_full _ rfl _ _ 29 rfl w.heap.size 3 i0 (.int .i64 0) 1 Try.underlying29 hi hz0 hz1 _ _ _ _ n rfl rfl (by omega) (by omega) (by rw [hz2]; omega) (by unfold maxLen; omega) (Nat.le_refl _) ?_)
  intro w1 hown hgr
  rw [made_ints] at hown
  have hb : Below w.heap.size w w1 := (Below.refl _ _).grown hgr (Nat.le_refl _) (by simp)
  go_wp2
  clear hgr
  go_loopw [13] (fun i wr => ∃ k : Nat, k ≤ ys.length ∧ i = .int .i64 k ∧ wr.ownsRow w.heap.size 3 1 (.slice (some ⟨w.heap.size, 0, none⟩) n n) n (((ys.take k).foldl (endsStep n) (List.replicate n 0)).map (Value.int .i64)) ∧ Below w.heap.size w wr) (fun i _ => ys.length - (intOf i).toNat)
  case atStart => exact ⟨0, by omega, rfl, hown, hb⟩
  case round =>
    clear hown hb
    obtain ⟨k, hk, rfl, hown, hb⟩ := hrel
    by_cases hlt : k < ys.length
    · obtain ⟨b, o, rfl, hc⟩ := hy.some hlt
      have hbB := lt_of_cell (hc k hlt 0 _ rfl)
      simp only at hbB
      have h1 := (hb.cell hbB).trans (hc k hlt 0 _ rfl)
      have h2 := (hb.cell hbB).trans (hc k hlt 1 _ rfl)
      have h3 := (hb.cell hbB).trans (hc k hlt 2 _ rfl)
      simp only [Nat.add_zero] at h1
      have HF := Lib.hid (foldl_take (endsStep n) (List.replicate n 0) ys k hlt)
      clear hc hy
      generalize List.foldl (endsStep n) (List.replicate n 0) (List.take k ys) = E at *
      have hE := Lib.hid (owns_len hown)
      by_cases hm : mayB (ys[k].1, ys[k].2.1, ys[k].2.2) = true
      · by_cases hj : 0 ≤ ys[k].1 ∧ ys[k].1 < n
        · obtain ⟨hj1, hj2⟩ := hj
          have hjn : ys[k].1.toNat < n := by omega
          have hg := cell_a2 (owns_get hown ys[k].1.toNat hjn (by rw [hE.out]; exact hjn))
          have hf := frozen_a2 (owns_base hown).2 (hown.frozenAt ys[k].1.toNat)
          go_wp2_with (go_at_call 10; refine (may_any _ _ _ _).mono ?_; rintro e w' ⟨rfl, rfl⟩)
          go_region
          go_wp2
          have hEl : ys[k].1.toNat < E.length := by rw [hE.out]; exact hjn
          refine ⟨⟨k + 1, by omega, by go_num, ?_, ?_⟩, by simp [intOf]; omega⟩
          · rw [HF.out, show endsStep n E ys[k] = E.set ys[k].1.toNat (if E[ys[k].1.toNat] < ys[k].2.2 then ys[k].2.2 else E[ys[k].1.toNat]) from by
              unfold endsStep; rw [if_pos ⟨hm, hj1, hj2⟩, getD_lt hEl]]
            exact (owns_set ((hown.alloc _).alloc _) _ _).drew
          · exact (((hb.alloc hb.size _).alloc (by have := hb.size; simp; omega) _).setCell (Nat.le_refl _) _).drew
        · have hns : endsStep n E ys[k] = E := by unfold endsStep; rw [if_neg (fun h => hj h.2)]
          by_cases hj1 : 0 ≤ ys[k].1
          all_goals
            have hj2 : ¬ (0 ≤ ys[k].1 ∧ ys[k].1 < (n : Int)) := hj
            clear hj
            go_wp2_with (go_at_call 10; refine (may_any _ _ _ _).mono ?_; rintro e w' ⟨rfl, rfl⟩)
            first
              | (exfalso; omega)
              | exact ⟨⟨k + 1, by omega, by go_num, by rw [HF.out, hns]; exact (hown.alloc _).alloc _, (hb.alloc hb.size _).alloc (by have := hb.size; simp; omega) _⟩, by simp [intOf]; omega⟩
      · have hns : endsStep n E ys[k] = E := by unfold endsStep; rw [if_neg (fun h => hm h.1)]
        go_wp2_with (go_at_call 10; refine (may_any _ _ _ _).mono ?_; rintro e w' ⟨rfl, rfl⟩)
        exact ⟨⟨k + 1, by omega, by go_num, by rw [HF.out, hns]; exact (hown.alloc _).alloc _, (hb.alloc hb.size _).alloc (by have := hb.size; simp; omega) _⟩, by simp [intOf]; omega⟩
    · clear hy
      obtain rfl : k = ys.length := by omega
      rw [List.take_length] at hown
      go_wp2
      go_ret
      obtain ⟨a', cap', hv, he, _⟩ := ints_of_owns (owns_len hown).symm hown
      rw [owns_len hown] at hv
      exact ⟨_, _, rfl, by simp only [Value.slice.injEq] at hv; rw [hv.1]; exact he, hb⟩
end Go.Proofs.Ytkfjmmoljhekiaa
