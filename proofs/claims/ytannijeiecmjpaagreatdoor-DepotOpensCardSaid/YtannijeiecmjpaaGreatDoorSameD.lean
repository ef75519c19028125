/- foresightlaw.same: two rows of texts are the same. And the names of what is there are one list. -/
import Derived.Test.YtannijeiecmjpaaGreatDoorJourD
namespace Go.Proofs.YtannijeiecmjpaaGreatDoor
open Go.RowKit
abbrev encT (s : Byt) : List Value := [strV s]
theorem sorted_eq {a b : List Byt} (ha : a.Pairwise (fun x y => x ≤ y)) (hb : b.Pairwise (fun x y => x ≤ y)) (h : a.Perm b) : a = b :=
  List.Perm.eq_of_pairwise (le := fun x y => x ≤ y) (fun _ _ _ _ h1 h2 => List.le_antisymm h1 h2) ha hb h
theorem names_eq {L : List MoveD} {a b : List Byt} (ha : NamesOf L a) (hb : NamesOf L b) : a = b :=
  sorted_eq ha.sorted hb.sorted ((List.perm_ext_iff_of_nodup ha.nodup hb.nodup).2 (fun x => (ha.mem x).trans (hb.mem x).symm))
set_option maxHeartbeats 400000 in
theorem same_any (a a2 : Option Addr) (n n2 c1 c2 : Nat) (xs ys : List Byt) (w : World) (hl : n = xs.length) (hl2 : n2 = ys.length) (hn : xs.length ≤ 1000) (hm : ys.length ≤ 1000)
   (hx : Elems encT 1 w a xs) (hy : Elems encT 1 w a2 ys) :
  Calls Tryz.prog 13 #[.slice a n c1, .slice a2 n2 c2] w fun e w' => e = .returned (.bool (decide (xs = ys))) ∧ Below w.heap.size w w' := by
  subst hl; subst hl2
  by_cases hl : xs.length = ys.length
  · have HL := Lib.hid hl
    have hb : ((xs.length : Int) != ys.length) = false := by simp; omega
    clear hl
    go_enter Tryz.func13, Tryz.ntmps13
    go_wp2
    go_loopw [5] (fun i wr => ∃ k : Nat, k ≤ xs.length ∧ i = .int .i64 k ∧ (xs.take k = ys.take k) ∧ ∃ n, wr = w.drewN n) (fun i _ => xs.length - (intOf i).toNat)
    case atStart => exact ⟨0, by omega, rfl, by simp, 0, rfl⟩
    case round =>
      obtain ⟨k, hk, rfl, he, n, rfl⟩ := hrel
      have HE := Lib.hid he
      clear he
      by_cases hlt : k < xs.length
      · have hlt2 : k < ys.length := by rw [← HL.out]; exact hlt
        obtain ⟨b1, o1, rfl, hxc⟩ := hx.some hlt
        obtain ⟨b2, o2, rfl, hyc⟩ := hy.some hlt2
        have hxk := hxc k hlt 0 _ rfl
        have hyk := hyc k hlt2 0 _ rfl
        simp only [Nat.add_zero, Nat.mul_one] at hxk hyk
        clear hx hy hxc hyc
        by_cases hek : xs[k] = ys[k]
        · have he2 : (xs[k] != ys[k]) = false := by simp [hek]
          have he3 : (xs[k] == ys[k]) = true := by simp [hek]
          have HK : Hid (xs.take (k + 1) = ys.take (k + 1)) := by
            show xs.take (k + 1) = ys.take (k + 1)
            rw [List.take_succ_eq_append_getElem hlt, List.take_succ_eq_append_getElem hlt2, HE.out, hek]
          clear hek
          go_wp2
          go_quiet (fail)
          go_wp2
          exact ⟨⟨k + 1, by omega, by go_num, HK.out, _, rfl⟩, by simp [intOf]; omega⟩
        · have he2 : (xs[k] != ys[k]) = true := by simp [hek]
          have he3 : (xs[k] == ys[k]) = false := by simp [hek]
          have hne : ¬ xs = ys := by intro h; subst h; exact hek rfl
          clear hek
          go_wp2
          go_quiet (fail)
          go_wp2
          go_ret
          exact ⟨ret_bool (by simp [hne]), (below_drewN _ _ _).trans (below_drewN _ _ _)⟩
      · clear hx hy
        obtain rfl : k = xs.length := by omega
        have hxy : xs = ys := by
          have h1 := HE.out
          rw [List.take_length, HL.out, List.take_length] at h1
          exact h1
        have HX := Lib.hid hxy
        clear hxy
        go_wp2
        go_ret
        exact ⟨ret_bool (by simp [HX.out]), below_drewN _ _ _⟩
  · have hb : ((xs.length : Int) != ys.length) = true := by simp; omega
    have hl' : ¬ xs = ys := by intro h; exact hl (by rw [h])
    go_enter Tryz.func13, Tryz.ntmps13
    go_wp2
    go_ret
    exact ⟨ret_bool (by simp [hl']), Below.refl _ _⟩
end Go.Proofs.YtannijeiecmjpaaGreatDoor
