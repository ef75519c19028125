/- trip.Savings: the tours of Clarke and Wright. -/
import Derived.Test.YtannijeiecmjpaaDoorSavA
namespace Go.Proofs.YtannijeiecmjpaaDoor
open Go.RowKit Go.Maps

theorem sav_ok0 {M : List (List Int)} {wants : List Int} {room : Int} (h : savErr M wants room = 0) : mapCheck M = 0 ∧ wants.length = M.length ∧ wantsFrom room 0 wants = 0 := by
  unfold savErr at h
  by_cases h1 : mapCheck M = 0
  · rw [if_neg (by simpa using h1)] at h
    by_cases h2 : wants.length = M.length
    · rw [if_neg (by simpa using h2)] at h
      exact ⟨h1, h2, h⟩
    · rw [if_pos h2] at h; omega
  · rw [if_pos h1] at h; exact absurd h h1
theorem grown_drewN (w : World) (q : Nat) : w.grownBy (w.drewN q) none := ⟨rfl, rfl, rfl, Nat.le_refl _, fun _ _ _ => rfl⟩
theorem RMap.drewN {w : World} {b r N cnt : Nat} {T : ToursF} {V : Nat → Value} {P : Nat → Prop} (h : RMap w b r N T V P cnt) (q : Nat) : RMap (w.drewN q) b r N T V P cnt := h
theorem left_drewN (w : World) (q b r : Nat) : (w.drewN q).rangeLeft b r = w.rangeLeft b r := rfl
theorem TMap.below {w w' : World} {b N B : Nat} {T : ToursF} {V : Nat → Value} (h : TMap w b N T V) (hb : Below B w w') (hB : b < B) : TMap w' b N T V := by
  obtain ⟨D, ⟨es, clock, h1, r⟩, h2⟩ := h
  exact ⟨D, ⟨es, clock, (hb.block b hB).trans h1, r⟩, h2⟩
theorem eg_sav2 : ∀ args w, (callFunc 52 args).run Tryd.prog w = .ok (.enter 52 args) w := fun args w => by kernel_rfl
/-- What trip.Savings answers of right things. -/
def SavPost (M : List (List Int)) (wants : List Int) (room : Int) (w : World) (e : Ending) (w' : World) : Prop :=
  ∃ (D : List R3) (oa : Option Addr) (oc : Nat), D.Perm (savTo M M.length M.length) ∧ D.Pairwise (fun x y => ltSv x y = true) ∧ e = .returned (.tuple #[.slice oa (toursS M wants room D).length oc, .nilIface]) ∧ Rows2 w' oa (toursS M wants room D) ∧ Below w.heap.size w w'
set_option maxRecDepth 100000 in
set_option maxHeartbeats 16000000 in
theorem savings_ok (a aw : Option Addr) (n cap cw : Nat) (room : Int) (M : List (List Int)) (wants : List Int) (w : World) (hn : M.length = n) (hnw : wants.length = n) (hr : Rows2 w a M) (hx : Elems encI 1 w aw wants) (hE : savErr M wants room = 0) :
    Calls Tryd.prog 25 #[.slice a n cap, .slice aw n cw, .int .i64 room] w (SavPost M wants room w) := by
  obtain ⟨hC, _, hW⟩ := sav_ok0 hE
  obtain ⟨hA9, hA⟩ := map_ok hC
  have hn9 : n ≤ 9 := by omega
  have hb0 : Below w.heap.size w (w.alloc (.cells #[.slice aw n cw] 39)) := (Below.refl _ _).alloc (Nat.le_refl _) _
  have H0 := tripChk_any a n cap M (w.alloc (.cells #[.slice aw n cw] 39)) hn.symm (by unfold maxLen; omega) (hr.at hb0)
  rw [hC, show errV 0 = .nilIface from rfl] at H0
  have H0 := Lib.hid H0
  have hd1 : (w.alloc (.cells #[.slice aw n cw] 39)).cell? ⟨w.heap.size, 0, none⟩ = some (.slice aw n cw) := by simp
  have HR := Lib.hid hr
  have HX := Lib.hid hx
  have HB0 := Lib.hid hb0
  have HA := Lib.hid hA
  have HN := Lib.hid hn
  have HNW := Lib.hid hnw
  have HC := Lib.hid hC
  have HWB : Hid (∀ x ∈ wants, 0 ≤ x ∧ x ≤ 1000000000) := Lib.hid (wants_ok hW)
  have HW : Hid (wantsFrom room 0 (wants.drop 0) = 0) := Lib.hid hW
  have hmm := @run_makeMap Tryd.prog
  clear hb0 hr hx hE hA hA9 hn hnw hW hC
  go_enter Tryd.func25, Tryd.ntmps25
  go_wp2_with fail
  refine H0.out.mono ?_
  rintro e w1 ⟨rfl, hb1⟩
  have HBW := Lib.hid (HB0.out.trans (hb1.mono HB0.out.size))
  have d1 := (hb1.cell (lt_of_cell hd1)).trans hd1
  clear hb1 hd1 H0 HB0
  go_wp2
  obtain ⟨bx, hbx⟩ : ∃ bx, bx = w.heap.size := ⟨_, rfl⟩
  rw [← hbx] at d1 ⊢
  have HBX := Lib.hid hbx
  clear hbx
  go_loopw [38] (fun iv wr => ∃ k : Nat, k ≤ n ∧ iv = .int .i64 k ∧ Hid (wantsFrom room k (wants.drop k) = 0) ∧ w1 = wr) (fun iv _ => n - (intOf iv).toNat)
  case atStart => exact ⟨0, by omega, rfl, HW, rfl⟩
  case round =>
    clear HW
    obtain ⟨k, hk, rfl, HW, rfl⟩ := hrel
    by_cases hlt : k < n
    · skip
      --{
      have hltw : k < wants.length := by rw [HNW.out]; exact hlt
      obtain ⟨b, o, rfl, hc⟩ := HX.out.some hltw
      have c0 := hc k hltw 0 _ rfl
      simp only [Nat.add_zero, Nat.mul_one] at c0
      have c1 := (HBW.out.cell (lt_of_cell c0)).trans c0
      have hst := (wants_here room wants k hltw).symm.trans HW.out
      obtain ⟨x, hxx⟩ : ∃ x, x = wants[k] := ⟨_, rfl⟩
      rw [← hxx] at hst c1
      clear hc hxx c0
      have h1 : ¬ (x < 0 ∨ 1000000000 < x) := fun h => by rw [if_pos h] at hst; omega
      rw [if_neg h1] at hst
      have h2 : ¬ (0 < k ∧ room < x) := fun h => by rw [if_pos h] at hst; omega
      rw [if_neg h2] at hst
      have HST := Lib.hid hst
      have d3 : decide (x < 0) = false := by simp; omega
      have d4 : decide ((1000000000 : Int) < x) = false := by simp; omega
      clear hst h1 HW
      by_cases h3 : 0 < k
      · have e3 : decide ((0 : Int) < (k : Int)) = true := by simp; omega
        have e4 : decide (room < x) = false := by simp; omega
        clear h2
        go_wp2
        exact ⟨⟨k + 1, by omega, by go_num, HST, trivial⟩, by simp [intOf]; omega⟩
      · have e3 : decide ((0 : Int) < (k : Int)) = false := by simp; omega
        clear h2
        go_wp2
        exact ⟨⟨k + 1, by omega, by go_num, HST, trivial⟩, by simp [intOf]; omega⟩
      --}
    · obtain ⟨bm, hbm⟩ : ∃ bm, bm = w1.heap.size := ⟨_, rfl⟩
      have H0 := Lib.hid (SavAt.start bm w1 hbm)
      clear HW
      go_wp2
      rw [← hbm]
      go_loopw [11, 13] (fun lv iv wr => ∃ (i N : Nat) (V : Nat → Value), 1 ≤ i ∧ (i ≤ n ∨ i = 1) ∧ N ≤ i ∧ iv = .int .i64 i ∧ Hid (SavAt bm (startS i) V N lv (savTo M n i) w1 wr)) (fun _ iv _ => n - (intOf iv).toNat)
      case atStart => exact ⟨1, 0, _, by omega, Or.inr rfl, by omega, rfl, by rw [start_one, savTo_one]; exact H0⟩
      case round =>
        clear H0 hbm
        obtain ⟨i, N, V, hi1, hi2, hN, rfl, H⟩ := hrel
        by_cases hin : i < n
        · skip
          --{
          have hTM := H.out.map.kept (World.grownBy_alloc wr (.cells #[.int .i64 i] 3) none) (by simp)
          go_wp2_with (at_mapUpdate; refine put_tour hTM (by omega) rfl _ _ _ rfl rfl i (by omega) rfl (t := [(i : Int)]) (by simp) rfl ?_)
          intro w2 hm2 hg2
          have h2 := H.out.tour i hg2 hm2
          rw [start_succ hi1, ← List.append_nil (savTo M n i), ← rowTo_one M i] at h2
          generalize (fun g => if g = i then Value.slice (some ⟨wr.heap.size, 0, none⟩) 1 1 else V g) = V2 at h2
          have H2 := Lib.hid h2
          clear h2 hm2 hg2 hTM H
          go_wp2
          go_loopw [11, 14] (fun lv kv wr => ∃ k : Nat, 1 ≤ k ∧ k ≤ n ∧ kv = .int .i64 k ∧ Hid (SavAt bm (startS (i + 1)) V2 (N + 1) lv (savTo M n i ++ rowTo M i k) w1 wr)) (fun _ kv _ => n - (intOf kv).toNat)
          case atStart => exact ⟨1, by omega, by omega, rfl, H2⟩
          case round =>
            clear H2
            obtain ⟨k, hk1, hk2, rfl, H⟩ := hrel
            obtain ⟨LL, hLL⟩ : ∃ LL, LL = savTo M n i ++ rowTo M i k := ⟨_, rfl⟩
            rw [← hLL] at H
            obtain ⟨ad, cap2, hs⟩ := rowForm H.out.row
            subst hs
            by_cases hkn : k < n
            · have hRr := HR.out.at (below_next HBW.out H.out.fr)
              obtain ⟨b, o, bi, oi, ci, rfl, r1, _, r3⟩ := rows2_row hRr (i := i) (n := n) (by rw [HN.out]; exact hin) (by rw [(HA.out _ (List.getElem_mem _)).1, HN.out]) (by omega)
              obtain ⟨b', o', bz, oz, cz, hab, z1, _, z3⟩ := rows2_row hRr (i := 0) (n := n) (by rw [HN.out]; omega) (by rw [(HA.out _ (List.getElem_mem _)).1, HN.out]) (by omega)
              obtain ⟨rfl, rfl⟩ : b = b' ∧ o = o' := by simpa using hab
              have m1 := r3 0 (by omega)
              have m2 := z3 k hkn
              have m3 := r3 k hkn
              simp only [Nat.add_zero] at m1 z1
              have hbd := savAt_bound HC.out (i := i) (k := k) (by rw [HN.out]; exact hin) (by rw [HN.out]; exact hkn)
              have hsd : savAt M i k = mAt M i 0 + mAt M 0 k - mAt M i k := rfl
              have hrs := rowTo_succ M i k
              have his : isSav M i k = (decide (i ≠ k) && decide (0 < savAt M i k)) := by unfold isSav; simp [hk1]
              have hll : (savTo M n i ++ rowTo M i k).length ≤ 200 := by
                have h1 := savTo_len M n i
                have h2 := rowTo_len M i k
                have h3 : i * n ≤ 9 * 9 := Nat.mul_le_mul (by omega) (by omega)
                rw [List.length_append]
                omega
              rw [hsd] at hrs his
              rw [← hLL] at hll
              have hrs2 : savTo M n i ++ rowTo M i (k + 1) = LL ++ (if isSav M i k = true then [(mAt M i 0 + mAt M 0 k - mAt M i k, (i : Int), (k : Int))] else []) := by rw [hrs, ← List.append_assoc, ← hLL]
              clear hab r3 z3 hRr hsd hrs hLL
              generalize mAt M i 0 = p1 at *
              generalize mAt M 0 k = p2 at *
              generalize mAt M i k = p3 at *
              have hw1 : IntKind.i64.wrap (p1 + p2) = p1 + p2 := IntWalk.i64_in _ (by omega)
              have hw2 : IntKind.i64.wrap (p1 + p2 - p3) = p1 + p2 - p3 := IntWalk.i64_in _ (by omega)
              by_cases hik : i = k
              · have hdd : ((i : Int) != (k : Int)) = false := by simp; omega
                rw [if_neg (by rw [his]; simp [hik]), List.append_nil] at hrs2
                have HRS := Lib.hid hrs2
                clear hrs2 his hik hbd
                go_wp2
                go_quiet (fail)
                go_wp2
                exact ⟨⟨k + 1, by omega, by omega, by go_num, Lib.hid (by rw [HRS.out]; exact H.out.next (grown_drewN _ _))⟩, by simp [intOf]; omega⟩
              · have hdd : ((i : Int) != (k : Int)) = true := by simp; omega
                have HB := Lib.hid hbd
                clear hbd
                go_wp2
                go_quiet (fail)
                have hsv : (0 : Int) - 9000000000 ≤ p1 + p2 - p3 := by have := HB.out; omega
                clear HB hsv hw1 hw2
                generalize p1 + p2 - p3 = sv at *
                by_cases hpos : 0 < sv
                · have hd2 : decide (0 < sv) = true := decide_eq_true hpos
                  rw [if_pos (by rw [his, decide_eq_true hik, hd2]; rfl)] at hrs2
                  have HRS := Lib.hid hrs2
                  have hll1 : LL.length + 1 ≤ maxLen := by unfold maxLen; omega
                  have hll2 : (LL.length + 1) * 24 ≤ 140737488355328 := by omega
                  have hbs := H.out.sz
                  clear hrs2 his hik hpos
                  go_wp2_with (at_builtin; (refine app_at rowSv rfl _ _ rfl (bm + 1) rfl ((H.out.next (grown_drewN _ _)).row) (enc3 (sv, (i : Int), (k : Int))) rfl (by first | rfl | simp) rfl (enc3_one _) hll1 hll2 hbs ?_))
                  intro ad2 cap3 w3 h1 h2 h3
                  have hl2 : (LL ++ [(sv, (i : Int), (k : Int))]).length = LL.length + 1 := by simp
                  have H3 := Lib.hid ((H.out.next (grown_drewN _ _)).save (l' := LL ++ [(sv, (i : Int), (k : Int))]) (by rw [hl2, List.flatMap_append]; simpa using h1) h2 h3)
                  rw [← HRS.out] at H3
                  clear h1 h2 h3 hl2
                  go_wp2
                  exact ⟨⟨k + 1, by omega, by omega, by go_num, H3⟩, by simp [intOf]; omega⟩
                · have hd2 : decide (0 < sv) = false := decide_eq_false hpos
                  rw [if_neg (by rw [his, hd2]; simp), List.append_nil] at hrs2
                  have HRS := Lib.hid hrs2
                  clear hrs2 his hik hpos
                  go_wp2
                  exact ⟨⟨k + 1, by omega, by omega, by go_num, Lib.hid (by rw [HRS.out]; exact H.out.next (grown_drewN _ _))⟩, by simp [intOf]; omega⟩
            · have hkk : k = n := by omega
              rw [hkk, ← savTo_succ M n i hi1] at hLL
              have HLL := Lib.hid hLL
              clear hkk hLL
              go_wp2
              exact ⟨⟨i + 1, N + 1, V2, by omega, Or.inl (by omega), by omega, by go_num, by rw [← HLL.out]; exact H⟩, by simp [intOf]; omega⟩
          --}
        · have hend : startS i = startS n ∧ savTo M n i = savTo M n n := by
            by_cases h : i = n
            · rw [h]; exact ⟨rfl, rfl⟩
            · have h0 : n = 0 := by omega
              have h1 : i = 1 := by omega
              rw [h0, h1]
              exact ⟨by rw [start_one]; funext g; unfold startS; rw [if_neg (by omega)], by rw [savTo_one]; rfl⟩
          obtain ⟨l0, hl0⟩ : ∃ l0, l0 = savTo M n n := ⟨_, rfl⟩
          rw [hend.1, hend.2, ← hl0] at H
          have hlex : l0.Pairwise lexS := by rw [hl0]; exact savTo_lex M n n
          have hlen : l0.length ≤ 100 := by
            have h1 := savTo_len M n n
            have h3 : n * n ≤ 9 * 9 := Nat.mul_le_mul (by omega) (by omega)
            rw [hl0]; omega
          have HL0 := Lib.hid hl0
          obtain ⟨L, hL⟩ : ∃ L, L = l0.length := ⟨_, rfl⟩
          obtain ⟨ad, cap2, hs⟩ := rowForm H.out.row
          rw [← hL] at hs hlen
          subst hs
          have q0 := Lib.hid (savSort_all H.out.row hlex (by omega))
          have HLL := Lib.hid hL
          clear hend hl0 hlex hL
          go_wp2_with fail
          refine q0.out.mono ?_
          rintro e w2 ⟨rfl, D, hp, hsrt, hrow2, hg2⟩
          have HDL : Hid (D.length = L) := Lib.hid (by rw [hp.length_eq, HLL.out])
          have H2 := Lib.hid (H.out.save (l' := D) hrow2 hg2 (Or.inl rfl))
          have HDM : Hid (∀ x ∈ D, ∃ i k : Nat, i < n ∧ 1 ≤ i ∧ k < n ∧ 1 ≤ k ∧ x.2 = ((i : Int), (k : Int))) := Lib.hid (fun x hx => by
            have h1 := hp.mem_iff.1 hx
            rw [HL0.out] at h1
            obtain ⟨i, k, h2, h3, h4, h5, _, rfl⟩ := savTo_mem h1
            exact ⟨i, k, h2, h3, h4, h5, rfl⟩)
          have HPD := Lib.hid (show D.Perm (savTo M n n) by rw [← HL0.out]; exact hp)
          have HSD := Lib.hid hsrt
          have hN10 : N ≤ 10 := by omega
          clear hp hsrt hrow2 hg2 q0 H HLL hi1 hi2 hN hin HL0
          rw [← tourK_zero wants room n D] at H2
          go_wp2
          go_loopw [116] (fun jv wr => ∃ (j N : Nat) (V : Nat → Value), j ≤ L ∧ N ≤ 10 + j ∧ jv = .int .i64 j ∧ Hid (SavAt bm (tourK wants room n D j) V N (.slice ad L cap2) D w1 wr)) (fun jv _ => L - (intOf jv).toNat)
          case atStart => exact ⟨0, N, V, by omega, by omega, rfl, H2⟩
          case round =>
            clear H2 hN10
            obtain ⟨j, N, V, hj, hN, rfl, H⟩ := hrel
            by_cases hjl : j < L
            · have hjd : j < D.length := by rw [HDL.out]; exact hjl
              obtain ⟨i, k, hi1, hi2, hk1, hk2, hxd⟩ := HDM.out _ (List.getElem_mem hjd)
              obtain ⟨a5, c5, hq, hE5, _⟩ := elems_of_owns (enc := enc3) (fun _ => rfl) rfl H.out.row
              obtain ⟨rfl, hq2, rfl⟩ := Value.slice.inj hq
              clear hq2
              obtain ⟨b3, o3, rfl, hc3⟩ := hE5.some hjd
              have s0 := hc3 j hjd 0 _ rfl
              have s1 := hc3 j hjd 1 _ rfl
              have s2 := hc3 j hjd 2 _ rfl
              have hsuc := tourK_succ wants room n D j hjd
              obtain ⟨sv, hsv⟩ : ∃ sv, sv = D[j].1 := ⟨_, rfl⟩
              rw [← hsv] at s0
              rw [hxd] at s1 s2 hsuc
              simp only [Nat.add_zero, Int.toNat_natCast] at s0 s1 s2 hsuc
              have hgood := tourK_good wants room n D j
              have HSUC := Lib.hid hsuc
              have HG := Lib.hid hgood
              clear hc3 hE5 hq hsv hxd hsuc hgood
              obtain ⟨T, hT⟩ : ∃ T, T = tourK wants room n D j := ⟨_, rfl⟩
              rw [← hT] at HSUC HG H
              clear hT
              have hg3 : wr.grownBy (wr.alloc (.cells #[.int .i64 sv, .int .i64 i, .int .i64 k] 116)) none := World.grownBy_alloc wr _ none
              have hTM := H.out.map.kept hg3 (by simp)
              have u1 : (wr.alloc (.cells #[.int .i64 sv, .int .i64 i, .int .i64 k] 116)).cell? ⟨wr.heap.size, 1, none⟩ = some (.int .i64 i) := by simp
              have u2 : (wr.alloc (.cells #[.int .i64 sv, .int .i64 i, .int .i64 k] 116)).cell? ⟨wr.heap.size, 2, none⟩ = some (.int .i64 k) := by simp
              have H3 := Lib.hid (H.out.next hg3)
              go_wp2_with (at_range; (refine range_tours (fun f => endsAt T f i ∧ f ≠ k) hTM rfl _ rfl rfl ?_))
              intro rr w4 cnt hrr hrg hg4
              obtain ⟨W3, hW3⟩ : ∃ W3, W3 = wr.alloc (.cells #[.int .i64 sv, .int .i64 i, .int .i64 k] 116) := ⟨_, rfl⟩
              have hrr2 : rr = W3.heap.size := by rw [hW3]; simpa using hrr
              rw [← hW3] at hg4 u1 u2 H3
              obtain ⟨bs, hbs⟩ : ∃ bs, bs = wr.heap.size := ⟨_, rfl⟩
              rw [← hbs] at u1 u2 ⊢
              have HRR := Lib.hid hrr2
              have HLT := Lib.hid (fun f b (h : (V f).ownBlock = some b) => (show b < bs by rw [hbs]; exact (H.out.tours.lt h).2))
              have HBM := Lib.hid (show bm < bs by rw [hbs]; have := H.out.sz; omega)
              clear hW3 hbs hTM hg3 H s0 s1 s2 hrr hrr2
              go_wp2
              go_loopw [19] (fun _ wr2 => ∃ cnt, RMap wr2 bm rr N T V (fun f => endsAt T f i ∧ f ≠ k) cnt ∧ W3.grownBy wr2 none) (fun _ wr2 => wr2.rangeLeft bm rr)
              case atStart => exact ⟨_, hrg, hg4⟩
              case round =>
                clear hrg hg4
                obtain ⟨cnt, hrg, hgr⟩ := hrel
                have H4 := H3.out.next hgr
                go_wp2_with (at_next; (refine next_tour2 H4.tours hrg rfl _ rfl rfl ?_ ?_))
                · intro hno
                  have HN2 : Hid (tourK wants room n D (j + 1) = T) := Lib.hid (by rw [HSUC.out]; exact stepS_same HG.out (fun f h1 h2 => h2.2 (hno f h1 h2.1)))
                  clear hno hrg
                  have H4 := Lib.hid H4
                  go_wp2
                  exact ⟨⟨j + 1, N, V, by omega, by omega, by go_num, by rw [HN2.out]; exact H4⟩, by simp [intOf]; omega⟩
                · intro f g q c w5 cnt5 hTf hVf hTl hrg5 hlt5 hg5 hen5
                  have hgr5 : W3.grownBy w5 none := hgr.andThen hg5 (fun j hj => by cases hj; left; have := HRR.out; omega)
                  have H5 := H3.out.next hgr5
                  have hrf := H5.tours.row f
                  rw [hVf, hTl] at hrf
                  have hqT : q < (T f).length := by omega
                  have c6 := owns_get hrf q (by omega) hqT
                  have hq9 : q + 1 ≤ 9 := by have := good_len HG.out f; omega
                  obtain ⟨y, hyy⟩ : ∃ y, y = (T f)[q] := ⟨_, rfl⟩
                  rw [← hyy] at c6
                  have hie : endsAt T f i ↔ y = (i : Int) := by
                    rw [ends_at_iff hTf, hTl, hyy]
                    simp [List.getD_eq_getElem?_getD, hqT]
                  have v1 := (World.cell?_of_block (hgr5.block bs (lt_of_cell u1) (by simp))).trans u1
                  have v2 := (World.cell?_of_block (hgr5.block bs (lt_of_cell u2) (by simp))).trans u2
                  have hme := Nat.lt_of_lt_of_eq (Nat.lt_of_le_of_lt (Nat.le_of_eq hrg5.left_eq) hlt5) hrg.left_eq.symm
                  have HME := Lib.hid hme
                  have HGR5 := Lib.hid hgr5
                  have H5 := Lib.hid H5
                  have HVF := Lib.hid hVf
                  have HTL := Lib.hid hTl
                  have HTF := Lib.hid hTf
                  have HRG5 := Lib.hid hrg5
                  have hf9 : f < n := by
                    have h1 := HG.out.head f hTf
                    obtain ⟨p, h3, h4, h5⟩ := HG.out.inn f (f : Int) (List.mem_of_head? h1)
                    omega
                  clear hyy hme hgr5 hVf hTl hTf hrg5 hrg hgr H4 hg5 hlt5 hrf hqT u1 u2
                  by_cases hm : y = (i : Int) ∧ f ≠ k
                  case neg =>
                    --{
                    have HR2 : Hid (RMap w5 bm rr N T V (fun f => endsAt T f i ∧ ¬ f = k) cnt5) := Lib.hid (HRG5.out.imp (fun f' h => ⟨h, fun e => by subst e; exact hm ⟨hie.1 h.1, h.2⟩⟩))
                    clear HRG5 hie
                    by_cases hy : y = (i : Int)
                    · have hfk : f = k := by
                        by_cases e : f = k
                        · exact e
                        · exact absurd ⟨hy, e⟩ hm
                      have hd1 : (y != (i : Int)) = false := by simp [hy]
                      have hd2 : ((f : Int) == (k : Int)) = true := by simp [hfk]
                      clear hm hy hfk
                      go_wp2
                      go_quiet (fail)
                      go_wp2
                      exact ⟨⟨cnt5, HR2.out.drewN _, HGR5.out.andThen (grown_drewN _ _) (by simp)⟩, HME.out⟩
                    · have hd1 : (y != (i : Int)) = true := by simp [hy]
                      clear hm hy
                      go_wp2
                      go_quiet (fail)
                      go_wp2
                      exact ⟨⟨cnt5, HR2.out.drewN _, HGR5.out.andThen (grown_drewN _ _) (by simp)⟩, HME.out⟩
                    --}
                  obtain ⟨hy, hfk⟩ := hm
                  have HEA : Hid (endsAt T f i) := Lib.hid (hie.2 hy)
                  have HST := Lib.hid (stepS_at (wants := wants) (room := room) HG.out (k := k) HEA.out)
                  have hd1 : (y != (i : Int)) = false := by simp [hy]
                  have hd2 : ((f : Int) == (k : Int)) = false := by simp; omega
                  clear hie hy HRG5 HME
                  go_wp2
                  go_quiet (fail)
                  have H6 := Lib.hid (H5.out.next (grown_drewN w5 nq))
                  by_cases hTk : T k = []
                  · skip
                    --{
                    have hVk := H5.out.tours.none' k hTk
                    have HN2 : Hid (tourK wants room n D (j + 1) = T) := Lib.hid (HSUC.out.trans (HST.out.2 (fun h => h.2.1 hTk)))
                    have hnn : ∀ w : World, (binOp .neq 76 (.slice none 0 0) (.slice none 0 0)).run Tryd.prog w = .ok (.bool false) w := fun w => run_neq_slice_nil_any (P := Tryd.prog) w 76 3 none 0 0 0 0 Tryd.underlying76
                    have H6m := H6.out.map
                    have H6n := H6.out.tours.none'
                    clear hTk
                    go_wp2_with (at_lookup; (refine look_tour2 H6m H6n rfl _ _ rfl rfl k (by omega) rfl hVk ?_))
                    clear H6m H6n hVk
                    go_wp2
                    exact ⟨⟨j + 1, N, V, by omega, by omega, by go_num, by rw [HN2.out]; exact H6⟩, by simp [intOf]; omega⟩
                    --}
                  obtain ⟨g2, q2, c2, hVk, hTl2⟩ := H5.out.tours.form hTk
                  have hq29 : q2 + 1 ≤ 9 := by have := good_len HG.out k; omega
                  have hnn : ∀ w : World, (binOp .neq 76 (.slice (some ⟨g2, 0, none⟩) (q2 + 1) c2) (.slice none 0 0)).run Tryd.prog w = .ok (.bool true) w := fun w => run_neq_slice_nil_any (P := Tryd.prog) w 76 3 (some ⟨g2, 0, none⟩) (q2 + 1) c2 0 0 Tryd.underlying76
                  have hrow1 := H6.out.tours.row f
                  have hrow2 := H6.out.tours.row k
                  rw [HVF.out, HTL.out] at hrow1
                  rw [hVk, hTl2] at hrow2
                  have hin1 : ∀ x ∈ T f, 0 ≤ x ∧ x < wants.length := fun x hx => by obtain ⟨p, h3, h4, h5⟩ := HG.out.inn f x hx; rw [HNW.out]; omega
                  have hin2 : ∀ x ∈ T k, 0 ≤ x ∧ x < wants.length := fun x hx => by obtain ⟨p, h3, h4, h5⟩ := HG.out.inn k x hx; rw [HNW.out]; omega
                  obtain ⟨a7, c7, e7, E1, _⟩ := ints_of_owns HTL.out.symm hrow1
                  obtain ⟨rfl, e71, e72⟩ := Value.slice.inj e7
                  clear e71 e72
                  obtain ⟨a8, c8, e8, E2, _⟩ := ints_of_owns hTl2.symm hrow2
                  obtain ⟨rfl, e81, e82⟩ := Value.slice.inj e8
                  clear e81 e82
                  have hbr5 : Below w1.heap.size w1 (w5.drewN nq) := H6.out.fr
                  have hxw := (HX.out.at HBW.out).at hbr5
                  have d5 := (hbr5.cell (lt_of_cell d1)).trans d1
                  have q1 := Lib.hid (savLoad_any bx aw (some ⟨g, 0, none⟩) n cw (q + 1) c wants (T f) (w5.drewN nq) HNW.out.symm HWB.out HTL.out.symm (by rw [HTL.out]; omega) hin1 E1 hxw d5)
                  have q2' := Lib.hid (savLoad_any bx aw (some ⟨g2, 0, none⟩) n cw (q2 + 1) c2 wants (T k) (w5.drewN nq) HNW.out.symm HWB.out hTl2.symm (by rw [hTl2]; omega) hin2 E2 hxw d5)
                  have hb1 := loadS_bound HWB.out (T f)
                  have hb2 := loadS_bound HWB.out (T k)
                  rw [HTL.out] at hb1
                  rw [hTl2] at hb2
                  obtain ⟨A, hA⟩ : ∃ A, A = loadS wants (T f) := ⟨_, rfl⟩
                  obtain ⟨B, hB⟩ : ∃ B, B = loadS wants (T k) := ⟨_, rfl⟩
                  have HFT : Hid (fitsS wants room T f k ↔ A + B ≤ room) := Lib.hid ⟨fun h => by rw [hA, hB]; exact h.2.2, fun h => ⟨hfk, hTk, by rw [← hA, ← hB]; exact h⟩⟩
                  rw [← hA] at q1 hb1
                  rw [← hB] at q2' hb2
                  have hwAB : IntKind.i64.wrap (A + B) = A + B := IntWalk.i64_in _ (by omega)
                  have H6m := H6.out.map
                  have H6n := H6.out.tours.none'
                  have HTK := Lib.hid hTk
                  have HVK := Lib.hid hVk
                  have HR1 := Lib.hid hrow1
                  have HR2 := Lib.hid hrow2
                  have HL2 := Lib.hid hTl2
                  clear hA hB hb1 hb2 hin1 hin2 e7 e8 E1 E2 hbr5 hxw d5 hrow1 hrow2 hTk hTl2
                  go_wp2_with (at_lookup; (refine look_tour2 H6m H6n rfl _ _ rfl rfl k (by omega) rfl hVk ?_))
                  clear H6m H6n hVk
                  have eg := eg_sav2
                  by_cases hfit : A + B ≤ room
                  case neg =>
                    --{
                    have hdf : decide (A + B ≤ room) = false := decide_eq_false hfit
                    have HN2 : Hid (tourK wants room n D (j + 1) = T) := Lib.hid (HSUC.out.trans (HST.out.2 (fun h => hfit (HFT.out.1 h))))
                    clear hfit
                    go_wp2_with fail
                    refine q1.out.mono ?_
                    rintro e w6 ⟨rfl, rfl⟩
                    go_wp2_with fail
                    refine q2'.out.mono ?_
                    rintro e w6 ⟨rfl, rfl⟩
                    go_wp2
                    exact ⟨⟨j + 1, N, V, by omega, by omega, by go_num, by rw [HN2.out]; exact H6⟩, by simp [intOf]; omega⟩
                    --}
                  have hdf : decide (A + B ≤ room) = true := decide_eq_true hfit
                  have HN2 : Hid (tourK wants room n D (j + 1) = mergeS T f k) := Lib.hid (HSUC.out.trans (HST.out.1 (HFT.out.2 hfit)))
                  have hsz6 := H6.out.sz
                  clear hfit
                  go_wp2_with fail
                  refine q1.out.mono ?_
                  rintro e w6 ⟨rfl, rfl⟩
                  go_wp2_with fail
                  refine q2'.out.mono ?_
                  rintro e w6 ⟨rfl, rfl⟩
                  go_wp2_with (at_builtin; (refine app_tour rfl _ _ rfl (bm + 1) rfl HR1.out rfl HR2.out (by omega) hsz6 (by omega) ?_))
                  intro ad2 cap3 w6 h1 h2 h3
                  have hg1 : g < bs := HLT.out f g (by rw [HVF.out]; rfl)
                  have hgm := (HR1.out.lt g rfl).1
                  have hbm2 := HBM.out
                  have hv2 : (w5.drewN nq).cell? ⟨bs, 2, none⟩ = some (.int .i64 k) := v2
                  have v6 := (World.cell?_of_block (h2.block bs (lt_of_cell hv2) (by simp [Value.ownBlock]; omega))).trans hv2
                  have hm6 := H6.out.map.kept h2 (by simp [Value.ownBlock]; omega)
                  have hne6 : T f ++ T k ≠ [] := fun h => HTF.out (List.append_eq_nil_iff.1 h).1
                  have hf9' : f ≤ 1000000 := by omega
                  have hk9' : k ≤ 1000000 := by omega
                  have hN9 : N ≤ 1000000 := by omega
                  go_wp2_with (at_mapUpdate; (refine put_tour hm6 hN9 rfl _ _ _ rfl rfl f hf9' rfl hne6 rfl ?_))
                  intro w7 hm7 hg7
                  have v7 := (World.cell?_of_block (hg7.block bs (lt_of_cell v6) (by simp; omega))).trans v6
                  go_wp2_with (at_delete; (refine del_tour hm7 rfl _ _ rfl rfl k hk9' rfl ?_))
                  intro w8 hm8 hg8
                  have H8 := Lib.hid (H6.out.merge hfk HTF.out (by rw [HVF.out]; exact h2) (by rw [List.length_append, HTL.out, HL2.out, List.map_append]; exact h1) (by rw [HVF.out]; exact h3) hg7 hg8 hm8)
                  rw [← HN2.out] at H8
                  clear h1 h2 h3 hm6 hm7 hg7 hm8 hg8 v6 v7 hv2 hgm hg1 hbm2 hne6
                  go_wp2
                  exact ⟨⟨j + 1, N + 1, _, by omega, by omega, by go_num, H8⟩, by simp [intOf]; omega⟩
            · have hT8 : tourK wants room n D j = savS wants room n (D.map fun x => (x.2.1.toNat, x.2.2.toNat)) := by
                have : j = D.length := by rw [HDL.out]; omega
                rw [this, tourK_all]
              obtain ⟨T, hT⟩ : ∃ T, T = tourK wants room n D j := ⟨_, rfl⟩
              have HG : Hid (GoodS n T) := Lib.hid (by rw [hT]; exact tourK_good _ _ _ _ _)
              rw [← hT] at H hT8
              have HTE := Lib.hid hT8
              have HB5 := Lib.hid H.out.fr
              have HSZ := Lib.hid H.out.sz
              have htm := H.out.map
              have HTO := Lib.hid H.out.tours
              have HTM := Lib.hid htm
              have h5 := Below.refl wr.heap.size wr
              obtain ⟨w9, hw9⟩ : ∃ w9 : World, w9 = wr := ⟨_, rfl⟩
              subst hw9
              clear hT hT8 H htm
              go_wp2
              go_loopw [22, 23] (fun ov iv wr => ∃ i : Nat, 1 ≤ i ∧ (i ≤ n ∨ i = 1) ∧ iv = .int .i64 i ∧ wr.ownsRow w9.heap.size 76 1 ov (firsts T i).length ((firsts T i).map V) ∧ Below w9.heap.size w9 wr) (fun _ iv _ => n - (intOf iv).toNat)
              case atStart => exact ⟨1, by omega, Or.inr rfl, rfl, by rw [firsts_one HG.out]; exact World.ownsRow_nil _ _ _ _, h5⟩
              case round =>
                clear h5
                obtain ⟨i, hi1, hi2, rfl, hrow, hb⟩ := hrel
                obtain ⟨F, hF⟩ : ∃ F, F = firsts T i := ⟨_, rfl⟩
                rw [← hF] at hrow
                obtain ⟨ad9, cap9, hs⟩ := rowForm hrow
                subst hs
                have hFl : F.length ≤ 10 := by rw [hF]; have := firsts_le T i; omega
                have hbs := hb.size
                by_cases hin : i < n
                · have htm := HTM.out.below hb HTM.out.lt
                  have hnn := HTO.out.none'
                  have hsu := firsts_succ T i
                  rw [← hF] at hsu
                  by_cases hTi : T i = []
                  · have hVi := hnn i hTi
                    rw [if_pos hTi, List.append_nil] at hsu
                    have HSU := Lib.hid hsu
                    have hnq : ∀ w : World, (binOp .neq 76 (.slice none 0 0) (.slice none 0 0)).run Tryd.prog w = .ok (.bool false) w := fun w => run_neq_slice_nil_any (P := Tryd.prog) w 76 3 none 0 0 0 0 Tryd.underlying76
                    clear hTi hF hsu
                    go_wp2_with (at_lookup; (refine look_tour2 htm hnn rfl _ _ rfl rfl i (by omega) rfl hVi ?_))
                    clear htm hnn hVi
                    go_wp2
                    exact ⟨⟨i + 1, by omega, Or.inl (by omega), by go_num, by rw [HSU.out]; exact hrow, hb⟩, by simp [intOf]; omega⟩
                  · obtain ⟨g2, q2, c2, hVi, _⟩ := HTO.out.form hTi
                    rw [if_neg hTi] at hsu
                    have HSU := Lib.hid hsu
                    have HVI := Lib.hid hVi
                    have hnq : ∀ w : World, (binOp .neq 76 (.slice (some ⟨g2, 0, none⟩) (q2 + 1) c2) (.slice none 0 0)).run Tryd.prog w = .ok (.bool true) w := fun w => run_neq_slice_nil_any (P := Tryd.prog) w 76 3 (some ⟨g2, 0, none⟩) (q2 + 1) c2 0 0 Tryd.underlying76
                    have hk1 : F.length + 1 ≤ maxLen := by unfold maxLen; omega
                    have hk2 : (F.length + 1) * 24 ≤ 140737488355328 := by omega
                    have hone : ∀ u ∈ [Value.slice (some ⟨g2, 0, none⟩) (q2 + 1) c2], u.oneCell' = true := by
                      intro u hu
                      simp at hu
                      rw [hu]
                      rfl
                    clear hTi hF hsu
                    go_wp2_with (first
                      | (at_lookup; (refine look_tour2 htm hnn rfl _ _ rfl rfl i (by omega) rfl hVi ?_))
                      | (at_builtin; (refine app_row rowTs rfl _ _ rfl w9.heap.size rfl hrow [.slice (some ⟨g2, 0, none⟩) (q2 + 1) c2] rfl (by first | rfl | simp) rfl hone hk1 hk2 hbs ?_)))
                    intro v10 w10 h1 h2
                    have h3 := hb.trans h2
                    have H4 : Hid (w10.ownsRow w9.heap.size 76 1 v10 (firsts T (i + 1)).length ((firsts T (i + 1)).map V)) := Lib.hid (by rw [HSU.out, List.map_append, List.length_append]; simpa [HVI.out] using h1)
                    clear h1 h2 hrow htm hnn hVi
                    go_wp2
                    exact ⟨⟨i + 1, by omega, Or.inl (by omega), by go_num, H4.out, h3⟩, by simp [intOf]; omega⟩
                · have hFn : F = firsts T n := by
                    by_cases h : i = n
                    · rw [hF, h]
                    · have h0 : n = 0 := by omega
                      have h1 : i = 1 := by omega
                      rw [hF, h1, firsts_one HG.out, h0]
                      rfl
                  have hfin : F.map T = toursS M wants room D := by
                    rw [hFn, firsts_list]
                    unfold toursS
                    rw [HN.out, listS_eq, ← HTE.out]
                    rfl
                  have hto := HTO.out.next hb
                  obtain ⟨oa, oc, hq, hR2⟩ := rows2_of_owns hto hrow
                  obtain ⟨rfl, hq2, rfl⟩ := Value.slice.inj hq
                  rw [hfin] at hR2
                  have hlen9 : F.length = (toursS M wants room D).length := by rw [← hfin, List.length_map]
                  have HF : Hid (SavPost M wants room w (.returned (.tuple #[.slice ad9 F.length cap9, .nilIface])) wr) := Lib.hid
                    ⟨D, ad9, cap9, by rw [HN.out]; exact HPD.out, HSD.out, by rw [hlen9], hR2, below_next HBW.out (below_next HB5.out hb)⟩
                  clear hFn hfin hto hq hq2 hR2 hlen9 hF hrow
                  go_wp2
                  go_ret2
                  exact HF.out
end Go.Proofs.YtannijeiecmjpaaDoor
