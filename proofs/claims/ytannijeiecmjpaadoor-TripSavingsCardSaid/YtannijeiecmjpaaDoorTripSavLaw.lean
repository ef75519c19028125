/- The law TripSavings: the program's tours are the reference's, or both tell the same error. -/
import Derived.Test.YtannijeiecmjpaaDoorSavW
import Derived.Test.YtannijeiecmjpaaDoorSavR
import Derived.Test.YtannijeiecmjpaaDoorSavRB
import Derived.Test.YtannijeiecmjpaaDoorTell
namespace Go.Proofs.YtannijeiecmjpaaDoor
open Go.RowKit

/-- There is an order of the savings. -/
theorem sav_exists (M : List (List Int)) (n : Nat) : ∃ D : List R3, D.Perm (savTo M n n) ∧ D.Pairwise (fun x y => ltSv x y = true) := by
  have hl := savTo_lex M n n
  generalize savTo M n n = l at *
  have hp : (l.mergeSort fun x y => !ltSv y x).Perm l := List.mergeSort_perm _ _
  have hpw := List.pairwise_mergeSort (le := fun x y => !ltSv y x) (fun x y z h1 h2 => by
    simp only [Bool.not_eq_true', ltSv_not] at h1 h2 ⊢; omega) (fun x y => by
    simp only [Bool.or_eq_true, Bool.not_eq_true', ltSv_not]; omega) l
  generalize (l.mergeSort fun x y => !ltSv y x) = D at *
  have hnd : D.Pairwise (fun x y => x ≠ y) := by
    have : l.Pairwise (fun x y => x ≠ y) := hl.imp (fun {x y} h1 h2 => by subst h2; unfold lexS at h1; omega)
    exact (hp.pairwise_iff (fun {x y} h1 => fun h2 => h1 h2.symm)).2 this
  refine ⟨D, hp, (hpw.and hnd).imp (fun {x y} h1 => ?_)⟩
  obtain ⟨h2, h3⟩ := h1
  cases h4 : ltSv x y with
  | true => rfl
  | false =>
    simp only [Bool.not_eq_true'] at h2
    exact absurd (ltSv_total h4 h2) h3
set_option maxHeartbeats 400000 in
theorem sameIntsQ_any (a a2 : Option Addr) (n n2 c1 c2 : Nat) (xs ys : List Int) (w : World) (hl : n = xs.length) (hl2 : n2 = ys.length) (hn : xs.length ≤ 1000) (hm : ys.length ≤ 1000)
   (hx : Elems encI 1 w a xs) (hy : Elems encI 1 w a2 ys) :
  Calls Tryd.prog 26 #[.slice a n c1, .slice a2 n2 c2] w fun e w' => e = .returned (.bool (decide (xs = ys))) ∧ ∃ q, w' = w.drewN q := by
  subst hl; subst hl2
  by_cases hl : xs.length = ys.length
  · have HL := Lib.hid hl
    have hb : ((xs.length : Int) != ys.length) = false := by simp; omega
    clear hl
    go_enter Tryd.func26, Tryd.ntmps26
    go_wp2
    go_loopw [5] (fun i wr => ∃ k : Nat, k ≤ xs.length ∧ i = .int .i64 k ∧ (xs.take k = ys.take k) ∧ ∃ n, wr = w.drewN n) (fun i _ => xs.length - (intOf i).toNat)
    case atStart => exact ⟨0, by omega, rfl, by simp, 0, rfl⟩
    case round =>
      obtain ⟨k, hk, rfl, he, n, rfl⟩ := hrel
      have HE := Lib.hid he
      clear he
      by_cases hlt : k < xs.length
      · have hlt2 : k < ys.length := by rw [← HL.out]; exact hlt
        obtain ⟨b1, o1, rfl, hxc⟩ := hx.some hlt
        obtain ⟨b2, o2, rfl, hyc⟩ := hy.some hlt2
        have hxk := hxc k hlt 0 _ rfl
        have hyk := hyc k hlt2 0 _ rfl
        simp only [Nat.add_zero, Nat.mul_one] at hxk hyk
        clear hx hy hxc hyc
        by_cases hek : xs[k] = ys[k]
        · have he2 : (xs[k] != ys[k]) = false := by simp [hek]
          have HK : Hid (xs.take (k + 1) = ys.take (k + 1)) := by
            show xs.take (k + 1) = ys.take (k + 1)
            rw [List.take_succ_eq_append_getElem hlt, List.take_succ_eq_append_getElem hlt2, HE.out, hek]
          clear hek
          go_wp2
          go_quiet (fail)
          go_wp2
          exact ⟨⟨k + 1, by omega, by go_num, HK.out, _, rfl⟩, by simp [intOf]; omega⟩
        · have he2 : (xs[k] != ys[k]) = true := by simp [hek]
          have hne : ¬ xs = ys := by intro h; subst h; exact hek rfl
          clear hek
          go_wp2
          go_quiet (fail)
          go_wp2
          go_ret
          exact ⟨ret_bool (by simp [hne]), _, World.drewN_drewN _ _ _⟩
      · clear hx hy
        obtain rfl : k = xs.length := by omega
        have hxy : xs = ys := by
          have h1 := HE.out
          rw [List.take_length, HL.out, List.take_length] at h1
          exact h1
        have HX := Lib.hid hxy
        clear hxy
        go_wp2
        go_ret
        exact ⟨ret_bool (by simp [HX.out]), _, rfl⟩
  · have hb : ((xs.length : Int) != ys.length) = true := by simp; omega
    have hl' : ¬ xs = ys := by intro h; exact hl (by rw [h])
    go_enter Tryd.func26, Tryd.ntmps26
    go_wp2
    go_ret
    exact ⟨ret_bool (by simp [hl']), 0, rfl⟩

set_option maxRecDepth 100000 in
set_option maxHeartbeats 8000000 in
theorem tripSavings_law (a aw : Option Addr) (n nw cap cw : Nat) (room : Int) (M : List (List Int)) (wants : List Int) (w : World) (hg : Hnd w) (hl : n = M.length) (hn : n ≤ maxLen) (hlw : nw = wants.length) (hr : Rows2 w a M) (hx : Elems encI 1 w aw wants) (hnw : nw ≤ maxLen) :
    Calls Tryd.prog 6 #[.slice a n cap, .slice aw nw cw, .int .i64 room] w fun e w' => e = .returned (.bool true) ∧ Below w.heap.size w w' := by
  have HBIG := Lib.hid (big_any a n cap M w hl hn hr)
  unfold maxLen at hnw
  by_cases h60 : 60 < nw
  · have hd : decide ((60 : Int) < (nw : Int)) = true := decide_eq_true (by omega)
    clear hr hx hl hlw
    go_enter Tryd.func6, Tryd.ntmps6
    go_wp2_with fail
    refine HBIG.out.mono ?_
    intro e w1 hw
    unfold BigPost at hw
    obtain ⟨b, rfl, rfl⟩ := hw
    cases b with
    | true =>
      go_wp2
      go_ret
      exact ⟨rfl, Below.refl _ _⟩
    | false =>
      go_wp2
      go_ret
      exact ⟨rfl, Below.refl _ _⟩
  have hd60 : decide ((60 : Int) < (nw : Int)) = false := decide_eq_false (by omega)
  have hnw60 : nw ≤ 60 := by omega
  by_cases hE : savErr M wants room = 0
  case neg =>
    have HRB := Lib.hid (refSav_bad a aw cap cw room M wants w (by rw [← hl]; exact hn) (by rw [← hlw]; exact hnw60) hr hx hE)
    have HPB := Lib.hid (fun w' (hb : Below w.heap.size w w') => savings_bad a aw cap cw room M wants w' (by rw [← hl]; exact hn) (by rw [← hlw]; exact hnw60) (hr.at hb) (hx.at hb) hE)
    rw [← hl, ← hlw] at HRB HPB
    obtain ⟨E, hEE⟩ : ∃ E, E = savErr M wants room := ⟨_, rfl⟩
    rw [← hEE] at HRB HPB
    clear hE hEE hr hx hl hlw
    go_enter Tryd.func6, Tryd.ntmps6
    go_wp2_with fail
    refine HBIG.out.mono ?_
    intro e w1 hw
    unfold BigPost at hw
    obtain ⟨b, rfl, rfl⟩ := hw
    cases b with
    | true =>
      go_wp2
      go_ret
      exact ⟨rfl, Below.refl _ _⟩
    | false =>
      go_wp2_with fail
      refine HRB.out.mono ?_
      rintro e w2 ⟨rfl, hb2⟩
      go_wp2_with fail
      refine (HPB.out _ hb2).mono ?_
      rintro e w3 ⟨rfl, hb3⟩
      have hb03 := below_next hb2 hb3
      go_wp2_with fail
      refine (tell_any E _ (hg.at hb03)).mono ?_
      rintro e w4 ⟨rfl, hb4⟩
      have hb04 := below_next hb03 hb4
      clear hb2 hb3 hb4 hb03
      go_wp2
      go_loopw [11] (fun iv wr => iv = .int .i64 0 ∧ w4 = wr) (fun _ _ => 0)
      case atStart => exact ⟨rfl, rfl⟩
      case round =>
        obtain ⟨rfl, rfl⟩ := hrel
        go_wp2
        go_ret
        exact ⟨rfl, hb04⟩
  obtain ⟨hC, hLE, _⟩ := sav_ok0 hE
  obtain ⟨hA9, _⟩ := map_ok hC
  obtain ⟨D, hp, hs⟩ := sav_exists M n
  have hnn : wants.length = n := by omega
  have hnn2 : nw = n := by omega
  subst hnn2
  have HRO := Lib.hid (refSav_ok a aw nw cap cw room M wants D w hl.symm hnn hr hx hE hp hs)
  have HPO := Lib.hid (fun w' (hb : Below w.heap.size w w') => savings_ok a aw nw cap cw room M wants w' hl.symm hnn (hr.at hb) (hx.at hb) hE)
  have HONE : Hid (∀ D' : List R3, D'.Perm (savTo M M.length M.length) → D'.Pairwise (fun x y => ltSv x y = true) → D' = D) := Lib.hid (fun D' h1 h2 => by
    rw [← hl] at h1
    exact strict_one ltSv_asym h2 hs (h1.trans hp.symm))
  have HTL : Hid ((toursS M wants room D).length ≤ 100 ∧ ∀ t ∈ toursS M wants room D, t.length ≤ 100) := Lib.hid (by
    unfold toursS
    rw [listS_eq]
    constructor
    · have := listTo_le (savS wants room M.length (D.map fun x => (x.2.1.toNat, x.2.2.toNat))) M.length
      unfold listTo at this
      omega
    · intro t ht
      have h1 := List.mem_filter.1 ht
      obtain ⟨f, _, rfl⟩ := List.mem_map.1 h1.1
      have := good_len (good_sav wants room M.length (D.map fun x => (x.2.1.toNat, x.2.2.toNat))) f
      omega)
  obtain ⟨TS, hTS⟩ : ∃ TS, TS = toursS M wants room D := ⟨_, rfl⟩
  rw [← hTS] at HTL
  have HTS := Lib.hid hTS
  clear hr hx hE hp hs hC hLE hA9 hnn hl hlw hTS
  go_enter Tryd.func6, Tryd.ntmps6
  go_wp2_with fail
  refine HBIG.out.mono ?_
  intro e w1 hw
  unfold BigPost at hw
  obtain ⟨b, rfl, rfl⟩ := hw
  cases b with
  | true =>
    go_wp2
    go_ret
    exact ⟨rfl, Below.refl _ _⟩
  | false =>
    go_wp2_with fail
    refine HRO.out.mono ?_
    intro e w2 hw
    unfold RefSavPost at hw
    obtain ⟨oa, oc, rfl, hR2, hb2⟩ := hw
    rw [← HTS.out] at hR2 ⊢
    go_wp2_with fail
    refine (HPO.out _ hb2).mono ?_
    intro e w3 hw
    unfold SavPost at hw
    obtain ⟨D', oa', oc', hp', hs', rfl, hR3, hb3⟩ := hw
    rw [HONE.out D' hp' hs', ← HTS.out] at hR3 ⊢
    have hR23 := hR2.at hb3
    have hb03 := below_next hb2 hb3
    have hE0 : errV 0 = .nilIface := rfl
    rw [← hE0]
    go_wp2_with fail
    refine (tell_any 0 _ (hg.at hb03)).mono ?_
    rintro e w4 ⟨rfl, hb4⟩
    have hb04 := below_next hb03 hb4
    have HR3 := Lib.hid (hR3.at hb4)
    have HR2 := Lib.hid (hR23.at hb4)
    obtain ⟨N, hN⟩ : ∃ N, N = TS.length := ⟨_, rfl⟩
    rw [← hN]
    have HNN := Lib.hid hN
    have hN100 : N ≤ 100 := by rw [hN]; exact HTL.out.1
    clear hp' hs' hR3 hR2 hR23 hb2 hb3 hb4 hb03 hN
    go_wp2
    go_loopw [11] (fun iv wr => ∃ k q : Nat, k ≤ N ∧ iv = .int .i64 k ∧ wr = w4.drewN q) (fun iv _ => N - (intOf iv).toNat)
    case atStart => exact ⟨0, 0, by omega, rfl, rfl⟩
    case round =>
      obtain ⟨k, q, hk, rfl, rfl⟩ := hrel
      by_cases hlt : k < N
      · have hkT : k < TS.length := by rw [← HNN.out]; exact hlt
        obtain ⟨b1, o1, rfl, h1⟩ := HR3.out.some hkT
        obtain ⟨b2, o2, rfl, h2⟩ := HR2.out.some hkT
        obtain ⟨a3, c3, e3, _, _, E3⟩ := h1 k hkT
        obtain ⟨a4, c4, e4, _, _, E4⟩ := h2 k hkT
        have hle := HTL.out.2 _ (List.getElem_mem hkT)
        generalize TS[k] = t at *
        have HC : Hid (∀ q', Calls Tryd.prog 26 #[.slice a3 t.length c3, .slice a4 t.length c4] (w4.drewN (q + q')) fun e w' => e = .returned (.bool true) ∧ ∃ n, w' = w4.drewN (q + n)) := Lib.hid (fun q' => by
          refine (sameIntsQ_any a3 a4 t.length t.length c3 c4 t t (w4.drewN (q + q')) rfl rfl (by omega) (by omega) E3 E4).mono ?_
          rintro e w' ⟨rfl, n', rfl⟩
          exact ⟨by simp, q' + n', by rw [World.drewN_drewN, Nat.add_assoc]⟩)
        clear h1 h2 E3 E4
        go_wp2
        go_quiet (exact HC.out _)
        go_wp2
        exact ⟨⟨k + 1, _, by omega, by go_num, rfl⟩, by simp [intOf]; omega⟩
      · go_wp2
        go_ret
        exact ⟨rfl, hb04.trans (below_drewN _ _ _)⟩
end Go.Proofs.YtannijeiecmjpaaDoor
