/- foresightlaw.sameInts and ints: what the program answers is what is wanted, or both tell the same error. -/
import Derived.Test.YtfaklhkdfpfjgaaDoorRows
import Derived.Test.YtfaklhkdfpfjgaaDoorBase
import Derived.Test.YtfaklhkdfpfjgaaDoorTell
namespace Go.Proofs.YtfaklhkdfpfjgaaDoor
open Go.RowKit
set_option maxHeartbeats 400000 in
theorem sameInts_any (a a2 : Option Addr) (n n2 c1 c2 : Nat) (xs ys : List Int) (w : World) (hl : n = xs.length) (hl2 : n2 = ys.length) (hn : xs.length ≤ 1000) (hm : ys.length ≤ 1000)
   (hx : Elems encI 1 w a xs) (hy : Elems encI 1 w a2 ys) :
  Calls Tryd.prog 57 #[.slice a n c1, .slice a2 n2 c2] w fun e w' => e = .returned (.bool (decide (xs = ys))) ∧ Below w.heap.size w w' := by
  subst hl; subst hl2
  by_cases hl : xs.length = ys.length
  · have HL := Lib.hid hl
    have hb : ((xs.length : Int) != ys.length) = false := by simp; omega
    clear hl
    go_enter Tryd.func57, Tryd.ntmps57
    go_wp2
    go_loopw [5] (fun i wr => ∃ k : Nat, k ≤ xs.length ∧ i = .int .i64 k ∧ (xs.take k = ys.take k) ∧ ∃ n, wr = w.drewN n) (fun i _ => xs.length - (intOf i).toNat)
    case atStart => exact ⟨0, by omega, rfl, by simp, 0, rfl⟩
    case round =>
      obtain ⟨k, hk, rfl, he, n, rfl⟩ := hrel
      have HE := Lib.hid he
      clear he
      by_cases hlt : k < xs.length
      · have hlt2 : k < ys.length := by rw [← HL.out]; exact hlt
        obtain ⟨b1, o1, rfl, hxc⟩ := hx.some hlt
        obtain ⟨b2, o2, rfl, hyc⟩ := hy.some hlt2
        have hxk := hxc k hlt 0 _ rfl
        have hyk := hyc k hlt2 0 _ rfl
        simp only [Nat.add_zero, Nat.mul_one] at hxk hyk
        clear hx hy hxc hyc
        by_cases hek : xs[k] = ys[k]
        · have he2 : (xs[k] != ys[k]) = false := by simp [hek]
          have HK : Hid (xs.take (k + 1) = ys.take (k + 1)) := by
            show xs.take (k + 1) = ys.take (k + 1)
            rw [List.take_succ_eq_append_getElem hlt, List.take_succ_eq_append_getElem hlt2, HE.out, hek]
          clear hek
          go_wp2
          go_quiet (fail)
          go_wp2
          exact ⟨⟨k + 1, by omega, by go_num, HK.out, _, rfl⟩, by simp [intOf]; omega⟩
        · have he2 : (xs[k] != ys[k]) = true := by simp [hek]
          have hne : ¬ xs = ys := by intro h; subst h; exact hek rfl
          clear hek
          go_wp2
          go_quiet (fail)
          go_wp2
          go_ret
          exact ⟨ret_bool (by simp [hne]), (below_drewN _ _ _).trans (below_drewN _ _ _)⟩
      · clear hx hy
        obtain rfl : k = xs.length := by omega
        have hxy : xs = ys := by
          have h1 := HE.out
          rw [List.take_length, HL.out, List.take_length] at h1
          exact h1
        have HX := Lib.hid hxy
        clear hxy
        go_wp2
        go_ret
        exact ⟨ret_bool (by simp [HX.out]), below_drewN _ _ _⟩
  · have hb : ((xs.length : Int) != ys.length) = true := by simp; omega
    have hl' : ¬ xs = ys := by intro h; exact hl (by rw [h])
    go_enter Tryd.func57, Tryd.ntmps57
    go_wp2
    go_ret
    exact ⟨ret_bool (by simp [hl']), Below.refl _ _⟩
set_option maxHeartbeats 400000 in
set_option maxRecDepth 100000 in
theorem ints_any (E : Int) (a a2 : Option Addr) (n n2 c1 c2 : Nat) (xs ys : List Int) (w : World) (hg : Hnd w) (hl : n = xs.length) (hl2 : n2 = ys.length) (hn : xs.length ≤ 1000) (hm : ys.length ≤ 1000)
   (hx : Elems encI 1 w a xs) (hy : Elems encI 1 w a2 ys) (h0 : E = 0 → xs = ys) (h1 : E ≠ 0 → n = 0) :
  Calls Tryd.prog 28 #[.slice a n c1, errV E, .slice a2 n2 c2, .int .i64 E] w fun e w' => e = .returned (.bool true) ∧ Below w.heap.size w w' := by
  subst hl; subst hl2
  by_cases hE : E = 0
  · have hxy := Lib.hid (h0 hE)
    subst hE
    clear h0 h1
    show Calls Tryd.prog 28 #[.slice a xs.length c1, .nilIface, .slice a2 ys.length c2, .int .i64 0] w _
    go_enter Tryd.func28, Tryd.ntmps28
    go_wp2_with fail
    refine (sameInts_any _ _ _ _ _ _ _ _ _ rfl rfl hn hm hx hy).mono ?_
    rintro e w1 ⟨rfl, hb1⟩
    have hd : decide (xs = ys) = true := by rw [hxy.out]; simp
    go_wp2
    go_ret
    exact ⟨rfl, hb1⟩
  · have hz : ((xs.length : Int) == 0) = true := by have := h1 hE; simp [this]
    clear h0 h1
    have hb1 : (E != 0) = true := by simpa using hE
    rw [errV, if_neg hE]
    clear hE
    go_enter Tryd.func28, Tryd.ntmps28
    go_wp2_with (go_at_call 17; refine (tell_hit _ _ hg).mono ?_; rintro e w1 ⟨rfl, hbw⟩)
    go_ret
    exact ⟨rfl, hbw⟩
end Go.Proofs.YtfaklhkdfpfjgaaDoor
