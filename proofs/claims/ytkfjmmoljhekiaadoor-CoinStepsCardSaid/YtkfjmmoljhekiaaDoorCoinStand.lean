/- The reference's sameInts and Stands: how much of a word stands at the end of a text. -/
import Derived.Test.YtkfjmmoljhekiaaDoorCoinM
import Derived.Test.YtkfjmmoljhekiaaDoorRows
import Derived.WalkLawsBesides
namespace Go.Proofs.YtkfjmmoljhekiaaDoor
open Go.RowKit

set_option maxHeartbeats 400000 in
theorem refSame_any (a a2 : Option Addr) (n n2 c1 c2 : Nat) (xs ys : List Int) (w : World) (hl : n = xs.length) (hl2 : n2 = ys.length) (hn : xs.length ≤ 1000) (hm : ys.length ≤ 1000)
   (hx : Elems encI 1 w a xs) (hy : Elems encI 1 w a2 ys) :
  Calls Tryd.prog 72 #[.slice a n c1, .slice a2 n2 c2] w fun e w' => e = .returned (.bool (decide (xs = ys))) ∧ Below w.heap.size w w' := by
  subst hl; subst hl2
  by_cases hl : xs.length = ys.length
  · have HL := Lib.hid hl
    have hb : ((xs.length : Int) != ys.length) = false := by simp; omega
    clear hl
    go_enter Tryd.func72, Tryd.ntmps72
    go_wp2
    go_loopw [13] (fun i wr => ∃ k : Nat, k ≤ xs.length ∧ i = .int .i64 k ∧ (xs.take k = ys.take k) ∧ ∃ n, wr = w.drewN n) (fun i _ => xs.length - (intOf i).toNat)
    case atStart => exact ⟨0, by omega, rfl, by simp, 0, rfl⟩
    case round =>
      obtain ⟨k, hk, rfl, he, n, rfl⟩ := hrel
      have HE := Lib.hid he
      clear he
      by_cases hlt : k < xs.length
      · have hlt2 : k < ys.length := by rw [← HL.out]; exact hlt
        obtain ⟨b1, o1, rfl, hxc⟩ := hx.some hlt
        obtain ⟨b2, o2, rfl, hyc⟩ := hy.some hlt2
        have hxk := hxc k hlt 0 _ rfl
        have hyk := hyc k hlt2 0 _ rfl
        simp only [Nat.add_zero, Nat.mul_one] at hxk hyk
        clear hx hy hxc hyc
        by_cases hek : xs[k] = ys[k]
        · have he2 : (xs[k] != ys[k]) = false := by simp [hek]
          have HK : Hid (xs.take (k + 1) = ys.take (k + 1)) := by
            show xs.take (k + 1) = ys.take (k + 1)
            rw [List.take_succ_eq_append_getElem hlt, List.take_succ_eq_append_getElem hlt2, HE.out, hek]
          clear hek
          go_wp2
          go_quiet (fail)
          go_wp2
          exact ⟨⟨k + 1, by omega, by go_num, HK.out, _, rfl⟩, by simp [intOf]; omega⟩
        · have he2 : (xs[k] != ys[k]) = true := by simp [hek]
          have hne : ¬ xs = ys := by intro h; subst h; exact hek rfl
          clear hek
          go_wp2
          go_quiet (fail)
          go_wp2
          go_ret
          exact ⟨ret_bool (by simp [hne]), (below_drewN _ _ _).trans (below_drewN _ _ _)⟩
      · clear hx hy
        obtain rfl : k = xs.length := by omega
        have hxy : xs = ys := by
          have h1 := HE.out
          rw [List.take_length, HL.out, List.take_length] at h1
          exact h1
        have HX := Lib.hid hxy
        clear hxy
        go_wp2
        go_ret
        exact ⟨ret_bool (by simp [HX.out]), below_drewN _ _ _⟩
  · have hb : ((xs.length : Int) != ys.length) = true := by simp; omega
    have hl' : ¬ xs = ys := by intro h; exact hl (by rw [h])
    go_enter Tryd.func72, Tryd.ntmps72
    go_wp2
    go_ret
    exact ⟨ret_bool (by simp [hl']), Below.refl _ _⟩

theorem elemsI_take {w : World} {a : Option Addr} {xs : List Int} (h : Elems encI 1 w a xs) (k : Nat) : Elems encI 1 w a (xs.take k) := by
  by_cases hx : 0 < (xs.take k).length
  · have hx2 : 0 < xs.length := by rw [List.length_take] at hx; omega
    obtain ⟨b, o, ha, hc⟩ := h.some hx2
    refine Or.inr ⟨b, o, ha, fun j hj i u hu => ?_⟩
    have hj2 : j < xs.length := by rw [List.length_take] at hj; omega
    rw [List.getElem_take] at hu
    exact hc j hj2 i u hu
  · exact Or.inl (List.eq_nil_of_length_eq_zero (by omega))
theorem elemsI_drop {w : World} {b o : Nat} {xs : List Int} (h : ∀ j (h : j < xs.length) i u, (encI xs[j])[i]? = some u → w.cell? ⟨b, o + j * 1 + i, none⟩ = some u) (k : Nat) : Elems encI 1 w (some ⟨b, o + k, none⟩) (xs.drop k) := by
  refine Or.inr ⟨b, o + k, rfl, fun j hj i u hu => ?_⟩
  rw [List.length_drop] at hj
  rw [List.getElem_drop] at hu
  have := h (k + j) (by omega) i u hu
  rw [show o + (k + j) * 1 + i = o + k + j * 1 + i by omega] at this
  exact this

set_option maxRecDepth 100000 in
set_option maxHeartbeats 4000000 in
theorem stands_any (a a2 : Option Addr) (n n2 cap cap2 : Nat) (t word : List Int) (w : World) (hl : n = t.length) (hl2 : n2 = word.length) (hn : t.length ≤ 20) (hn2 : word.length ≤ 12) (hc1 : n ≤ cap) (hc2 : n2 ≤ cap2) (hm1 : cap ≤ maxLen) (hm2 : cap2 ≤ maxLen) (hx : Elems encI 1 w a t) (hy : Elems encI 1 w a2 word) :
    Calls Tryd.prog 58 #[.slice a n cap, .slice a2 n2 cap2, .int .i64 n2] w fun e w' => e = .returned (.int .i64 (stands word t : Nat)) ∧ Below w.heap.size w w' := by
  subst hl; subst hl2
  unfold maxLen at hm1 hm2
  have HX := Lib.hid hx
  have HY := Lib.hid hy
  obtain ⟨sv, hsv⟩ : ∃ s, s = stands word t := ⟨_, rfl⟩
  rw [← hsv]
  obtain ⟨m, hm⟩ : ∃ m, m = min word.length t.length := ⟨_, rfl⟩
  have hmw : m ≤ word.length := by omega
  have hmt : m ≤ t.length := by omega
  have HS0 : Hid (sv = stM word t m) := Lib.hid (by rw [hsv, hm]; rfl)
  have hcase : (word.length ≤ t.length ∧ m = word.length) ∨ (t.length < word.length ∧ m = t.length) := by omega
  clear hx hy hsv hm
  rcases hcase with ⟨hq1, hq2⟩ | ⟨hq1, hq2⟩
  all_goals
    have HQ2 := Lib.hid hq2
    clear hq2
    go_enter Tryd.func58, Tryd.ntmps58
    go_wp2
    go_loopw [7] (fun nv wr => ∃ k : Nat, k ≤ m ∧ nv = .int .i64 k ∧ Hid (sv = stM word t k) ∧ Below w.heap.size w wr) (fun nv _ => (intOf nv).toNat)
    case atStart => exact ⟨m, Nat.le_refl _, by rw [HQ2.out], HS0, Below.refl _ _⟩
    case round =>
      clear HS0
      obtain ⟨k, hk, rfl, HS, hb⟩ := hrel
      rcases Nat.eq_zero_or_pos k with hk0 | hk0
      · subst hk0
        have HZ := Lib.hid (show sv = 0 from HS.out)
        clear HS
        go_wp2
        go_ret
        exact ⟨by rw [HZ.out]; rfl, hb⟩
      · obtain ⟨b, o, rfl, hc⟩ := HX.out.some (show 0 < t.length by omega)
        have HCX := Lib.hid hc
        have hkp : (0 : Int) < (k : Int) := by omega
        have hw1 : IntKind.i64.wrap ((t.length : Int) - (k : Int)) = ((t.length - k : Nat) : Int) := by
          rw [show (t.length : Int) - (k : Int) = ((t.length - k : Nat) : Int) by omega]
          exact IntWalk.i64_in _ (by omega)
        have hi1 : ((t.length - k : Nat) : Int) ≤ (t.length : Int) := by omega
        have hi2 : ((t.length - k : Nat) : Int) ≤ (cap : Int) := by omega
        have hi3 : (k : Int) ≤ (cap2 : Int) := by omega
        have hne : ¬ cap = t.length - k := by omega
        have hadd : (⟨b, o, none⟩ : Addr).add (t.length - k) = ⟨b, o + (t.length - k), none⟩ := by
          unfold Addr.add
          split
          · rename_i h0; rw [h0]; rfl
          · rfl
        have hst : stM word t k = if t.drop (t.length - k) = word.take k then k else stM word t (k - 1) := by
          obtain ⟨j, rfl⟩ : ∃ j, k = j + 1 := ⟨k - 1, by omega⟩
          rfl
        have HW : Hid (∀ w', Below w.heap.size w w' → Elems encI 1 w' (some ⟨b, o + (t.length - k), none⟩) (t.drop (t.length - k)) ∧ Elems encI 1 w' a2 (word.take k)) := Lib.hid (fun w' h =>
          ⟨(elemsI_drop HCX.out (t.length - k)).below h (Nat.le_refl _), (elemsI_take HY.out k).below h (Nat.le_refl _)⟩)
        have hbd : Below w.heap.size w wr.drew := hb.drew
        have HBD := Lib.hid hbd
        by_cases heq : t.drop (t.length - k) = word.take k
        · have HR := Lib.hid (show sv = k from HS.out.trans (hst.trans (if_pos heq)))
          have HD := Lib.hid (decide_eq_true heq)
          clear hc hst heq HS hbd hb
          go_wp2_with fail
          go_region_held3 (fun _ => True) (trivial)
            ((go_at_call 72; refine (refSame_any (some ⟨b, o + (t.length - k), none⟩) a2 (t.length - (t.length - k)) k (cap - (t.length - k)) cap2 (t.drop (t.length - k)) (word.take k) _ (by rw [List.length_drop]) (by rw [List.length_take]; omega) (by rw [List.length_drop]; omega) (by rw [List.length_take]; omega) (HW.out _ HBD.out).1 (HW.out _ HBD.out).2).mono ?_; rintro e w5 ⟨rfl, hb5⟩; rw [HD.out]))
          have hb05 := HBD.out.trans (hb5.mono HBD.out.size)
          clear hw1 hi1 hi2 hi3 hne hadd
          go_wp2
          go_ret
          exact ⟨by rw [HR.out]; rfl, hb05⟩
        · have HR := Lib.hid (HS.out.trans (hst.trans (if_neg heq)))
          have HD := Lib.hid (decide_eq_false heq)
          clear hc hst heq HS hbd hb
          go_wp2_with fail
          go_region_held3 (fun _ => True) (trivial)
            ((go_at_call 72; refine (refSame_any (some ⟨b, o + (t.length - k), none⟩) a2 (t.length - (t.length - k)) k (cap - (t.length - k)) cap2 (t.drop (t.length - k)) (word.take k) _ (by rw [List.length_drop]) (by rw [List.length_take]; omega) (by rw [List.length_drop]; omega) (by rw [List.length_take]; omega) (HW.out _ HBD.out).1 (HW.out _ HBD.out).2).mono ?_; rintro e w5 ⟨rfl, hb5⟩; rw [HD.out]))
          have hb05 := HBD.out.trans (hb5.mono HBD.out.size)
          clear hw1 hi1 hi2 hi3 hne hadd
          obtain ⟨j, rfl⟩ : ∃ j, k = j + 1 := ⟨k - 1, by omega⟩
          rw [Nat.add_sub_cancel] at HR
          go_wp2
          exact ⟨⟨j, by omega, by go_num, HR, hb05⟩, by first | (simp [intOf]; done) | (simp [intOf]; omega)⟩
end Go.Proofs.YtkfjmmoljhekiaaDoor
