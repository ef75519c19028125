/- The reference's Savings. -/
import Derived.Test.YtannijeiecmjpaaDoorSavRA
import Derived.Test.YtannijeiecmjpaaDoorSavW
namespace Go.Proofs.YtannijeiecmjpaaDoor
open Go.RowKit

/-- What the reference answers of right things; D: the savings in their order. -/
def RefSavPost (M : List (List Int)) (wants : List Int) (room : Int) (D : List R3) (w : World) (e : Ending) (w' : World) : Prop :=
  ∃ (oa : Option Addr) (oc : Nat), e = .returned (.tuple #[.slice oa (toursS M wants room D).length oc, .int .i64 0]) ∧ Rows2 w' oa (toursS M wants room D) ∧ Below w.heap.size w w'
set_option maxRecDepth 100000 in
set_option maxHeartbeats 16000000 in
theorem refSav_ok (a aw : Option Addr) (n cap cw : Nat) (room : Int) (M : List (List Int)) (wants : List Int) (D : List R3) (w : World) (hn : M.length = n) (hnw : wants.length = n) (hr : Rows2 w a M) (hx : Elems encI 1 w aw wants) (hE : savErr M wants room = 0)
    (hp : D.Perm (savTo M n n)) (hsrt : D.Pairwise (fun x y => ltSv x y = true)) :
    Calls Tryd.prog 24 #[.slice a n cap, .slice aw n cw, .int .i64 room] w (RefSavPost M wants room D w) := by
  obtain ⟨hC, _, hW⟩ := sav_ok0 hE
  obtain ⟨hA9, hA⟩ := map_ok hC
  have hn9 : n ≤ 9 := by omega
  have H0 := refMap_any a n cap M w hn.symm (by unfold maxLen; omega) hr
  rw [hC] at H0
  have H0 := Lib.hid H0
  have HR := Lib.hid hr
  have HX := Lib.hid hx
  have HA := Lib.hid hA
  have HN := Lib.hid hn
  have HNW := Lib.hid hnw
  have HC := Lib.hid hC
  have HPD := Lib.hid hp
  have HSD := Lib.hid hsrt
  have HWB : Hid (∀ x ∈ wants, 0 ≤ x ∧ x ≤ 1000000000) := Lib.hid (wants_ok hW)
  have HW : Hid (wantsFrom room 0 (wants.drop 0) = 0) := Lib.hid hW
  clear hr hx hE hA hA9 hn hnw hW hC hp hsrt
  go_enter Tryd.func24, Tryd.ntmps24
  go_wp2_with fail
  refine H0.out.mono ?_
  rintro e w1 ⟨rfl, hb1⟩
  have HBW := Lib.hid hb1
  clear hb1 H0
  go_wp2
  go_loopw [41] (fun iv wr => ∃ k : Nat, k ≤ n ∧ iv = .int .i64 k ∧ Hid (wantsFrom room k (wants.drop k) = 0) ∧ w1 = wr) (fun iv _ => n - (intOf iv).toNat)
  case atStart => exact ⟨0, by omega, rfl, HW, rfl⟩
  case round =>
    clear HW
    obtain ⟨k, hk, rfl, HW, rfl⟩ := hrel
    by_cases hlt : k < n
    · skip
      --{
      have hltw : k < wants.length := by rw [HNW.out]; exact hlt
      obtain ⟨b, o, rfl, hc⟩ := HX.out.some hltw
      have c0 := hc k hltw 0 _ rfl
      simp only [Nat.add_zero, Nat.mul_one] at c0
      have c1 := (HBW.out.cell (lt_of_cell c0)).trans c0
      have hst := (wants_here room wants k hltw).symm.trans HW.out
      obtain ⟨x, hxx⟩ : ∃ x, x = wants[k] := ⟨_, rfl⟩
      rw [← hxx] at hst c1
      clear hc hxx c0
      have h1 : ¬ (x < 0 ∨ 1000000000 < x) := fun h => by rw [if_pos h] at hst; omega
      rw [if_neg h1] at hst
      have h2 : ¬ (0 < k ∧ room < x) := fun h => by rw [if_pos h] at hst; omega
      rw [if_neg h2] at hst
      have HST := Lib.hid hst
      have d3 : decide (x < 0) = false := by simp; omega
      have d4 : decide ((1000000000 : Int) < x) = false := by simp; omega
      clear hst h1 HW
      by_cases h3 : 0 < k
      · have e3 : decide ((0 : Int) < (k : Int)) = true := by simp; omega
        have e4 : decide (room < x) = false := by simp; omega
        clear h2
        go_wp2
        exact ⟨⟨k + 1, by omega, by go_num, HST, trivial⟩, by simp [intOf]; omega⟩
      · have e3 : decide ((0 : Int) < (k : Int)) = false := by simp; omega
        clear h2
        go_wp2
        exact ⟨⟨k + 1, by omega, by go_num, HST, trivial⟩, by simp [intOf]; omega⟩
      --}
    · obtain ⟨bx, hbx⟩ : ∃ bx, bx = w1.heap.size := ⟨_, rfl⟩
      have H0 := Lib.hid (RefAt.start bx w1 hbx)
      clear HW
      go_wp2
      rw [← hbx]
      go_loopw [12, 13] (fun tv iv wr => ∃ (i m : Nat) (V : Nat → Value) (lv : Value), i = m + 1 ∧ (i ≤ n ∨ i = 1) ∧ iv = .int .i64 i ∧ Hid (RefAt bx (startS i) V m tv lv (savTo M n i) w1 wr)) (fun _ iv _ => n - (intOf iv).toNat)
      case atStart => exact ⟨1, 0, _, _, rfl, Or.inr rfl, rfl, by rw [ref_start_one, savTo_one]; exact H0⟩
      case round =>
        clear H0 hbx
        obtain ⟨i, m, V, lv, him, hi2, rfl, H⟩ := hrel
        have hi1 : 1 ≤ i := by omega
        have hm9 : m ≤ 9 := by omega
        have HIM := Lib.hid him
        clear him
        obtain ⟨adt, capt, hst⟩ := rowForm H.out.trow
        subst hst
        by_cases hin : i < n
        · skip
          --{
          have hgW := World.grownBy_alloc wr (.cells #[.int .i64 i] 3) none
          have hrow1 := (H.out.next hgW).trow
          have hone : ∀ u ∈ [Value.slice (some ⟨wr.heap.size, 0, none⟩) 1 1], u.oneCell' = true := by
            intro u hu
            simp at hu
            rw [hu]
            rfl
          have hk1 : m + 1 ≤ maxLen := by unfold maxLen; omega
          have hk2 : (m + 1) * 24 ≤ 140737488355328 := by omega
          have hbs1 := (H.out.next hgW).sz
          go_wp2_with (at_builtin; (refine app_at rowTT rfl _ _ rfl (bx + 1) rfl hrow1 [.slice (some ⟨wr.heap.size, 0, none⟩) 1 1] rfl (by first | rfl | simp) rfl hone hk1 hk2 hbs1 ?_))
          intro ad2 cap2 w2 h1 h2 h3
          have h4 := H.out.tour2 i HIM.out h1 h2 (by simpa using h3)
          rw [ref_start_succ hi1, ← List.append_nil (savTo M n i), ← ref_rowTo_one M i] at h4
          generalize (fun g => if g = i then Value.slice (some ⟨wr.heap.size, 0, none⟩) 1 1 else V g) = V2 at h4
          have H2 := Lib.hid h4
          clear h1 h2 h3 h4 hrow1 hgW H hone hbs1 hk1 hk2
          go_wp2
          go_loopw [14] (fun kv wr => ∃ (k : Nat) (lv : Value), 1 ≤ k ∧ k ≤ n ∧ kv = .int .i64 k ∧ Hid (RefAt bx (startS (i + 1)) V2 (m + 1) (.slice ad2 (m + 1) cap2) lv (savTo M n i ++ rowTo M i k) w1 wr)) (fun kv _ => n - (intOf kv).toNat)
          case atStart => exact ⟨1, _, by omega, by omega, rfl, H2⟩
          case round =>
            clear H2
            obtain ⟨k, lv2, hk1, hk2, rfl, H⟩ := hrel
            obtain ⟨LL, hLL⟩ : ∃ LL, LL = savTo M n i ++ rowTo M i k := ⟨_, rfl⟩
            rw [← hLL] at H
            obtain ⟨ad, cap3, hs⟩ := rowForm H.out.lrow
            subst hs
            by_cases hkn : k < n
            · have hRr := HR.out.at (below_next HBW.out H.out.fr)
              obtain ⟨b, o, bi, oi, ci, rfl, r1, _, r3⟩ := rows2_row hRr (i := i) (n := n) (by rw [HN.out]; exact hin) (by rw [(HA.out _ (List.getElem_mem _)).1, HN.out]) (by omega)
              obtain ⟨b', o', bz, oz, cz, hab, z1, _, z3⟩ := rows2_row hRr (i := 0) (n := n) (by rw [HN.out]; omega) (by rw [(HA.out _ (List.getElem_mem _)).1, HN.out]) (by omega)
              obtain ⟨rfl, rfl⟩ : b = b' ∧ o = o' := by simpa using hab
              have m1 := r3 0 (by omega)
              have m2 := z3 k hkn
              have m3 := r3 k hkn
              simp only [Nat.add_zero] at m1 z1
              have hbd := savAt_bound HC.out (i := i) (k := k) (by rw [HN.out]; exact hin) (by rw [HN.out]; exact hkn)
              have hsd : savAt M i k = mAt M i 0 + mAt M 0 k - mAt M i k := rfl
              have hrs := rowTo_succ M i k
              have his : isSav M i k = (decide (i ≠ k) && decide (0 < savAt M i k)) := by unfold isSav; simp [hk1]
              have hll : (savTo M n i ++ rowTo M i k).length ≤ 200 := by
                have h1 := savTo_len M n i
                have h2 := rowTo_len M i k
                have h3 : i * n ≤ 9 * 9 := Nat.mul_le_mul (by omega) (by omega)
                rw [List.length_append]
                omega
              rw [hsd] at hrs his
              rw [← hLL] at hll
              have hrs2 : savTo M n i ++ rowTo M i (k + 1) = LL ++ (if isSav M i k = true then [(mAt M i 0 + mAt M 0 k - mAt M i k, (i : Int), (k : Int))] else []) := by rw [hrs, ← List.append_assoc, ← hLL]
              clear hab r3 z3 hRr hsd hrs hLL
              generalize mAt M i 0 = p1 at *
              generalize mAt M 0 k = p2 at *
              generalize mAt M i k = p3 at *
              have hw1 : IntKind.i64.wrap (p1 + p2) = p1 + p2 := IntWalk.i64_in _ (by omega)
              have hw2 : IntKind.i64.wrap (p1 + p2 - p3) = p1 + p2 - p3 := IntWalk.i64_in _ (by omega)
              by_cases hik : i = k
              · have hdd : ((i : Int) != (k : Int)) = false := by simp; omega
                rw [if_neg (by rw [his]; simp [hik]), List.append_nil] at hrs2
                have HRS := Lib.hid hrs2
                clear hrs2 his hik hbd
                go_wp2
                go_quiet (fail)
                go_wp2
                exact ⟨⟨k + 1, _, by omega, by omega, by go_num, Lib.hid (by rw [HRS.out]; exact H.out.next (grown_drewN _ _))⟩, by simp [intOf]; omega⟩
              · have hdd : ((i : Int) != (k : Int)) = true := by simp; omega
                have HB := Lib.hid hbd
                clear hbd
                go_wp2
                go_quiet (fail)
                have hsv : (0 : Int) - 9000000000 ≤ p1 + p2 - p3 := by have := HB.out; omega
                clear HB hsv hw1 hw2
                generalize p1 + p2 - p3 = sv at *
                by_cases hpos : 0 < sv
                · have hd2 : decide (0 < sv) = true := decide_eq_true hpos
                  rw [if_pos (by rw [his, decide_eq_true hik, hd2]; rfl)] at hrs2
                  have HRS := Lib.hid hrs2
                  have hll1 : LL.length + 1 ≤ maxLen := by unfold maxLen; omega
                  have hll2 : (LL.length + 1) * 24 ≤ 140737488355328 := by omega
                  have hbs := H.out.sz
                  clear hrs2 his hik hpos
                  have HQ := H.out.next (grown_drewN wr nq)
                  have c0 := HQ.box
                  have f0 := HQ.free
                  have hrow2 := HQ.lrow
                  have hbl : (Value.slice ad LL.length cap3).ownBlock ≠ some bx := fun e => by have := (hrow2.lt bx e).1; omega
                  go_wp2_with (at_builtin; (refine app_at rowRs rfl _ _ rfl (bx + 1) rfl hrow2 (encL (sv, (i : Int), (k : Int))) rfl (by first | rfl | simp) rfl (encL_one _) hll1 hll2 hbs ?_))
                  intro ad3 cap4 w3 h1 h2 h3
                  have c1 := (World.cell?_of_block (h2.block bx (lt_of_cell c0) (fun e => hbl e.symm))).trans c0
                  have f1 := (World.frozen?_of_block (h2.block bx (lt_of_cell c0) (fun e => hbl e.symm))).trans f0
                  have hl2 : (LL ++ [(sv, (i : Int), (k : Int))]).length = LL.length + 1 := by simp
                  have H3 := Lib.hid (HQ.save (lv' := .slice ad3 (LL.length + 1) cap4) (l' := LL ++ [(sv, (i : Int), (k : Int))]) (by rw [hl2, List.flatMap_append]; simpa using h1) h2 h3)
                  rw [← HRS.out] at H3
                  clear h1 h2 h3 hl2 HQ hrow2 hbl c0 f0
                  go_wp2
                  exact ⟨⟨k + 1, _, by omega, by omega, by go_num, H3⟩, by simp [intOf]; omega⟩
                · have hd2 : decide (0 < sv) = false := decide_eq_false hpos
                  rw [if_neg (by rw [his, hd2]; simp), List.append_nil] at hrs2
                  have HRS := Lib.hid hrs2
                  clear hrs2 his hik hpos
                  go_wp2
                  exact ⟨⟨k + 1, _, by omega, by omega, by go_num, Lib.hid (by rw [HRS.out]; exact H.out.next (grown_drewN _ _))⟩, by simp [intOf]; omega⟩
            · have hkk : k = n := by omega
              rw [hkk, ← savTo_succ M n i hi1] at hLL
              have HLL := Lib.hid hLL
              clear hkk hLL
              go_wp2
              exact ⟨⟨i + 1, m + 1, V2, _, by rw [HIM.out], Or.inl (by omega), by go_num, by rw [← HLL.out]; exact H⟩, by simp [intOf]; omega⟩
          --}
        · have hend : startS i = startS n ∧ savTo M n i = savTo M n n := by
            by_cases h : i = n
            · rw [h]; exact ⟨rfl, rfl⟩
            · have h0 : n = 0 := by omega
              have h1 : i = 1 := by omega
              rw [h0, h1]
              exact ⟨by rw [ref_start_one]; funext g; unfold startS; rw [if_neg (by omega)], by rw [savTo_one]; rfl⟩
          have HMN : Hid (m = n - 1) := Lib.hid (by have := HIM.out; omega)
          obtain ⟨l0, hl0⟩ : ∃ l0, l0 = savTo M n n := ⟨_, rfl⟩
          rw [hend.1, hend.2, ← hl0] at H
          have hlex : l0.Pairwise lexS := by rw [hl0]; exact savTo_lex M n n
          have hlen : l0.length ≤ 100 := by
            have h1 := savTo_len M n n
            have h3 : n * n ≤ 9 * 9 := Nat.mul_le_mul (by omega) (by omega)
            rw [hl0]; omega
          have HPL : Hid (D.Perm l0) := Lib.hid (by rw [hl0]; exact HPD.out)
          have HLX := Lib.hid hlex
          obtain ⟨L, hL⟩ : ∃ L, L = l0.length := ⟨_, rfl⟩
          obtain ⟨ad, cap3, hs⟩ := rowForm H.out.lrow
          rw [← hL] at hs hlen
          subst hs
          have hDM : ∀ x ∈ D, ∃ i k : Nat, i < n ∧ 1 ≤ i ∧ k < n ∧ 1 ≤ k ∧ x.2 = ((i : Int), (k : Int)) := fun x hx => by
            have h1 := HPD.out.mem_iff.1 hx
            obtain ⟨i, k, h2, h3, h4, h5, _, rfl⟩ := savTo_mem h1
            exact ⟨i, k, h2, h3, h4, h5, rfl⟩
          have HDM := Lib.hid hDM
          have HLL := Lib.hid hL
          have hel : ∀ w', Below wr.heap.size wr w' → Elems encL 3 w' ad l0 := fun w' hw' => by
            obtain ⟨a', c', e1, e2, _⟩ := elems_of_owns (enc := encL) (fun _ => rfl) rfl (H.out.below hw').lrow
            obtain ⟨rfl, _, _⟩ := Value.slice.inj e1
            exact e2
          have habv : AbvOk 48 #[.pointer (some ⟨bx, 0, none⟩)] (ltIx l0) L wr.heap.size wr := fun w' hw' x y x0 x1 y0 y1 =>
            refAbv_any ad L cap3 bx l0 x y w' HLL.out (hel w' hw') (H.out.below hw').box x0 (by rw [← HLL.out]; exact x1) y0 (by rw [← HLL.out]; exact y1)
          have HI := Lib.hid (insert_own 48 #[.pointer (some ⟨bx, 0, none⟩)] (ltIx l0) L wr eg_refSav habv (swk_ix l0) (by omega))
          have c0 := H.out.box
          clear hend hl0 hlex hL hDM hel habv
          go_wp2_with fail
          refine HI.out.mono ?_
          rintro e w5 ⟨ar, cr, r, rfl, her, hsr, hor, hpr, hb5⟩
          have H5 := Lib.hid (H.out.below hb5)
          have hmap := sav_one HLX.out HPL.out HSD.out (by rw [← HLL.out]; exact hsr) (by rw [← HLL.out]; exact hor)
          have HDL : Hid (D.length = L) := Lib.hid (by rw [HPL.out.length_eq, HLL.out])
          have HXD : Hid (∀ t, t < L → ∃ x : Nat, ∃ (h : x < l0.length) (h2 : t < D.length), r t = (x : Int) ∧ l0[x] = D[t]) := Lib.hid (fun t ht => by
            obtain ⟨x, _, h2, h3⟩ := hor.val (Nat.zero_le t) ht
            have hx : x < l0.length := by rw [← HLL.out]; exact h2
            have htD : t < D.length := by rw [HDL.out]; exact ht
            have h3 : r t = (x : Int) := h3
            refine ⟨x, hx, htD, h3, ?_⟩
            have h4 := congrArg (fun l => l[t]?) hmap
            simp only [List.getElem?_map, List.getElem?_eq_getElem htD] at h4
            have ht0 : t < l0.length := by rw [← HLL.out]; exact ht
            have ht2 : t < (tab l0.length r).length := by rw [tab_len]; exact ht0
            rw [List.getElem?_eq_getElem ht2, tab_get ht2, h3] at h4
            simpa [List.getD_eq_getElem?_getD, hx] using h4)
          have HE5 := Lib.hid her
          have HAP : Hid (∀ f b, (V f).ownBlock = some b → b < wr.heap.size ∨ w5.heap.size ≤ b) := Lib.hid (fun f b h => Or.inl (H.out.tours.lt h).2)
          have HTP : Hid (∀ b, (Value.slice adt m capt).ownBlock = some b → b < wr.heap.size) := Lib.hid (fun b h => (H.out.trow.lt b h).2)
          have HPR := Lib.hid hpr
          have HS5 := Lib.hid hb5.size
          obtain ⟨S0, hS0⟩ : ∃ S0, S0 = wr.heap.size := ⟨_, rfl⟩
          rw [← hS0] at HAP HTP HPR HS5
          rw [← tourK_zero wants room n D] at H5
          clear her hsr hor hpr hb5 hmap HI H c0 hS0 hi2 hi1 hin HPL HLX HIM
          obtain ⟨S5, hS5⟩ : ∃ S5, S5 = w5.heap.size := ⟨_, rfl⟩
          rw [← hS5] at HAP HS5
          have HW5 := Lib.hid hS5
          clear hS5
          go_wp2
          go_loopw [117] (fun jv wr => ∃ (j : Nat) (V : Nat → Value), j ≤ L ∧ jv = .int .i64 j ∧ Hid (RefAt bx (tourK wants room n D j) V m (.slice adt m capt) (.slice ad L cap3) l0 w1 wr) ∧ Hid (Elems encI 1 wr ar (tab L r)) ∧ Hid (∀ f b, (V f).ownBlock = some b → b < S0 ∨ S5 ≤ b) ∧ Hid (S5 ≤ wr.heap.size)) (fun jv _ => L - (intOf jv).toNat)
          case atStart => exact ⟨0, V, by omega, rfl, H5, HE5, HAP, Lib.hid (Nat.le_of_eq HW5.out)⟩
          case round =>
            have HE0 := HE5
            clear H5 HE5 HAP
            obtain ⟨j, V, hj, rfl, H, HE, HAP, HSZ⟩ := hrel
            by_cases hjl : j < L
            · skip
              --{
              have hjd : j < D.length := by rw [HDL.out]; exact hjl
              obtain ⟨i, k, hi1, hi2, hk1, hk2, hxd⟩ := HDM.out _ (List.getElem_mem hjd)
              obtain ⟨x, hxl, _, hrx, hxD⟩ := HXD.out j hjl
              obtain ⟨br, obr, rfl, hcr⟩ := HE.out.some (show j < (tab L r).length by rw [tab_len]; exact hjl)
              have r0 := hcr j (by rw [tab_len]; exact hjl) 0 _ rfl
              rw [tab_get (by rw [tab_len]; exact hjl), hrx] at r0
              simp only [Nat.add_zero, Nat.mul_one] at r0
              obtain ⟨a5, c5, hq, hEl, _⟩ := elems_of_owns (enc := encL) (fun _ => rfl) rfl H.out.lrow
              obtain ⟨rfl, e52, e53⟩ := Value.slice.inj hq
              clear e52 e53
              obtain ⟨bl, ol, rfl, hcl⟩ := hEl.some hxl
              have s1 := hcl x hxl 0 _ rfl
              have s2 := hcl x hxl 1 _ rfl
              rw [hxD, hxd] at s1 s2
              have hsuc := tourK_succ wants room n D j hjd
              rw [hxd] at hsuc
              simp only [Nat.add_zero, Int.toNat_natCast] at s1 s2 hsuc
              have HG := Lib.hid (tourK_good wants room n D j)
              have HSUC := Lib.hid hsuc
              have hxL : x < L := by rw [HLL.out]; exact hxl
              clear hcr hEl hcl hq hxd hxD hsuc hrx hxl
              obtain ⟨T, hT⟩ : ∃ T, T = tourK wants room n D j := ⟨_, rfl⟩
              rw [← hT] at HSUC HG H
              have hm1 : 0 < m := by have := HMN.out; omega
              obtain ⟨gt, ct, hst2, _, _⟩ := rowSome H.out.trow hm1
              obtain ⟨rfl, _, rfl⟩ := Value.slice.inj hst2
              have HTC : Hid (∀ t, t < m → wr.cell? ⟨gt, t, none⟩ = some (V (t + 1))) := Lib.hid (fun t ht => by
                rw [H.out.trow.cellAt t (by omega), rowVs_get ht])
              have c0 := H.out.box
              clear hT hst2
              obtain ⟨wz, hwz⟩ : ∃ wz : World, wz = wr := ⟨_, rfl⟩
              subst hwz
              go_wp2
              go_loopw [18, 19, 123] (fun av bv tv wr => ∃ (t : Nat) (A B : Int) (q : Nat), t ≤ m ∧ tv = .int .i64 t ∧ av = .int .i64 A ∧ bv = .int .i64 B ∧ Hid (endF T i t A) ∧ Hid (begF T k t B) ∧ wr = wz.drewN q) (fun _ _ tv _ => m - (intOf tv).toNat)
              case atStart => exact ⟨0, -1, -1, 0, by omega, rfl, rfl, rfl, Lib.hid (endF_zero _ _), Lib.hid (begF_zero _ _), rfl⟩
              case round =>
                obtain ⟨t, A, B, q, ht, rfl, rfl, rfl, HA2, HB2, rfl⟩ := hrel
                by_cases htm : t < m
                · skip
                  --{
                  have c7 := HTC.out t htm
                  by_cases hTt : T (t + 1) = []
                  · have hV := H.out.tours.none' (t + 1) hTt
                    rw [hV] at c7
                    have HA3 := Lib.hid (endF_no HA2.out (fun e => by unfold endsAt at e; rw [hTt] at e; cases e))
                    have HB3 := Lib.hid (begF_no HB2.out (fun e => e.2 (by rw [← e.1]; exact hTt)))
                    clear hV hTt
                    go_wp2
                    go_quiet (fail)
                    go_wp2
                    go_quiet (fail)
                    go_wp2
                    exact ⟨⟨t + 1, A, B, _, by omega, by go_num, rfl, rfl, HA3, HB3, rfl⟩, by simp [intOf]; omega⟩
                  · obtain ⟨g, q1, c1, hV, hTl⟩ := H.out.tours.form hTt
                    rw [hV] at c7
                    have hrf := H.out.tours.row (t + 1)
                    rw [hV, hTl] at hrf
                    have hqT : q1 < (T (t + 1)).length := by omega
                    have h0T : 0 < (T (t + 1)).length := by omega
                    have hq9 : q1 + 1 ≤ 9 := by have := good_len HG.out (t + 1); omega
                    have cl := owns_get hrf q1 (by omega) hqT
                    have cf := owns_get hrf 0 (by omega) h0T
                    obtain ⟨y, hyy⟩ : ∃ y, y = (T (t + 1))[q1] := ⟨_, rfl⟩
                    rw [← hyy] at cl
                    have hie : endsAt T (t + 1) i ↔ y = (i : Int) := by
                      rw [ends_at_iff hTt, hTl, hyy]
                      simp [List.getD_eq_getElem?_getD, hqT]
                    have hcf : (T (t + 1))[0] = (t : Int) + 1 := by
                      have h1 := HG.out.head (t + 1) hTt
                      rw [List.head?_eq_getElem?, List.getElem?_eq_getElem h0T] at h1
                      have h2 := Option.some.inj h1
                      rw [h2]; simp
                    rw [hcf] at cf
                    have hg1 : decide ((0 : Int) < (q1 : Int) + 1) = true := decide_eq_true (by omega)
                    have hg2 : decide (0 < q1 + 1) = true := by simp
                    have HTT := Lib.hid hTt
                    clear hyy hcf hrf hqT h0T hV hTl hTt
                    by_cases hy : y = (i : Int)
                    · have hd1 : (y == (i : Int)) = true := by simp [hy]
                      have HA3 := Lib.hid (endF_yes (hie.2 hy))
                      clear hy hie
                      by_cases htk : t + 1 = k
                      · have hd2 : (((t : Int) + 1) == (k : Int)) = true := by simp; omega
                        have HB3 : Hid (begF T k (t + 1) t) := Lib.hid (begF_yes htk (by rw [← htk]; exact HTT.out))
                        clear htk
                        go_wp2
                        go_quiet (fail)
                        go_wp2
                        go_quiet (fail)
                        go_wp2
                        exact ⟨⟨t + 1, t, t, _, by omega, by go_num, rfl, rfl, HA3, HB3, rfl⟩, by simp [intOf]; omega⟩
                      · have hd2 : (((t : Int) + 1) == (k : Int)) = false := by simp; omega
                        have HB3 := Lib.hid (begF_no HB2.out (fun e => htk e.1))
                        clear htk
                        go_wp2
                        go_quiet (fail)
                        go_wp2
                        go_quiet (fail)
                        go_wp2
                        exact ⟨⟨t + 1, t, B, _, by omega, by go_num, rfl, rfl, HA3, HB3, rfl⟩, by simp [intOf]; omega⟩
                    · have hd1 : (y == (i : Int)) = false := by simp [hy]
                      have HA3 := Lib.hid (endF_no HA2.out (fun e => hy (hie.1 e)))
                      clear hy hie
                      by_cases htk : t + 1 = k
                      · have hd2 : (((t : Int) + 1) == (k : Int)) = true := by simp; omega
                        have HB3 : Hid (begF T k (t + 1) t) := Lib.hid (begF_yes htk (by rw [← htk]; exact HTT.out))
                        clear htk
                        go_wp2
                        go_quiet (fail)
                        go_wp2
                        go_quiet (fail)
                        go_wp2
                        exact ⟨⟨t + 1, A, t, _, by omega, by go_num, rfl, rfl, HA3, HB3, rfl⟩, by simp [intOf]; omega⟩
                      · have hd2 : (((t : Int) + 1) == (k : Int)) = false := by simp; omega
                        have HB3 := Lib.hid (begF_no HB2.out (fun e => htk e.1))
                        clear htk
                        go_wp2
                        go_quiet (fail)
                        go_wp2
                        go_quiet (fail)
                        go_wp2
                        exact ⟨⟨t + 1, A, B, _, by omega, by go_num, rfl, rfl, HA3, HB3, rfl⟩, by simp [intOf]; omega⟩
                  --}
                · have htm2 : t = m := by omega
                  rw [htm2] at HA2 HB2
                  clear htm2
                  rcases HA2.out with ⟨hA1, hA2⟩ | ⟨sa, hsa, hA1, hA2⟩
                  · skip
                    --{
                    subst hA1
                    have HN2 : Hid (tourK wants room n D (j + 1) = T) := Lib.hid (HSUC.out.trans (stepS_none (fun f hf => by
                      obtain ⟨h1, h2⟩ := ends_lt HG.out hf
                      have h3 := HMN.out
                      exact hA2 (f - 1) (by omega) (by rw [Nat.sub_add_cancel h1]; exact hf))))
                    clear hA2
                    go_wp2
                    exact ⟨⟨j + 1, V, by omega, by go_num, Lib.hid (by rw [HN2.out]; exact H.out.next (grown_drewN _ _)), Lib.hid (HE.out.drewN _), HAP, Lib.hid HSZ.out⟩, by simp [intOf]; omega⟩
                    --}
                  have HEA := Lib.hid hA2
                  have HST := Lib.hid (stepS_at (wants := wants) (room := room) HG.out (k := k) HEA.out)
                  subst hA1
                  clear hA2
                  rcases HB2.out with ⟨hB1, hB2⟩ | ⟨sb, hsb, hB1, hB2, hTk⟩
                  · skip
                    --{
                    subst hB1
                    have HN2 : Hid (tourK wants room n D (j + 1) = T) := Lib.hid (HSUC.out.trans (HST.out.2 (fun h => by
                      have h3 := HMN.out
                      exact hB2 (k - 1) (by omega) ⟨by omega, h.2.1⟩)))
                    have e1 : decide ((sa : Int) < 0) = false := decide_eq_false (by omega)
                    clear hB2
                    go_wp2
                    exact ⟨⟨j + 1, V, by omega, by go_num, Lib.hid (by rw [HN2.out]; exact H.out.next (grown_drewN _ _)), Lib.hid (HE.out.drewN _), HAP, Lib.hid HSZ.out⟩, by simp [intOf]; omega⟩
                    --}
                  subst hB1
                  have HBK := Lib.hid hB2
                  have e1 : decide ((sa : Int) < 0) = false := decide_eq_false (by omega)
                  have e2 : decide ((sb : Int) < 0) = false := decide_eq_false (by omega)
                  by_cases hab : sa = sb
                  · skip
                    --{
                    have HN2 : Hid (tourK wants room n D (j + 1) = T) := Lib.hid (HSUC.out.trans (HST.out.2 (fun h => h.1 (by rw [hab]; exact HBK.out))))
                    have e3 : ((sa : Int) == (sb : Int)) = true := by simp [hab]
                    clear hB2 hab hTk
                    go_wp2
                    exact ⟨⟨j + 1, V, by omega, by go_num, Lib.hid (by rw [HN2.out]; exact H.out.next (grown_drewN _ _)), Lib.hid (HE.out.drewN _), HAP, Lib.hid HSZ.out⟩, by simp [intOf]; omega⟩
                    --}
                  have e3 : ((sa : Int) == (sb : Int)) = false := by simp; omega
                  have HAK : Hid (sa + 1 ≠ k) := Lib.hid (by omega)
                  have hTa : T (sa + 1) ≠ [] := fun e => by have h := HEA.out; unfold endsAt at h; rw [e] at h; cases h
                  obtain ⟨g1, q1, c1, hV1, hTl1⟩ := H.out.tours.form hTa
                  obtain ⟨g2, q2, c2, hV2, hTl2⟩ := H.out.tours.form hTk
                  have c8 := HTC.out sa hsa
                  have c9 := HTC.out sb hsb
                  rw [hV1] at c8
                  rw [hB2, hV2] at c9
                  have HTA := Lib.hid hTa
                  have HTK := Lib.hid hTk
                  have HV1 := Lib.hid hV1
                  have HV2 := Lib.hid hV2
                  have HL1 := Lib.hid hTl1
                  have HL2 := Lib.hid hTl2
                  have hq1 : q1 + 1 ≤ 9 := by have := good_len HG.out (sa + 1); omega
                  have hq2 : q2 + 1 ≤ 9 := by have := good_len HG.out k; omega
                  clear hB2 hTa hTk hV1 hV2 hTl1 hTl2 HA2 HB2
                  go_wp2
                  have hsai : (sa : Int) < (m : Int) := by omega
                  have hsbi : (sb : Int) < (m : Int) := by omega
                  have hra := H.out.tours.row (sa + 1)
                  have hrk := H.out.tours.row k
                  rw [HV1.out, HL1.out] at hra
                  rw [HV2.out, HL2.out] at hrk
                  have HRA := Lib.hid hra
                  have HRK := Lib.hid hrk
                  have BE : Below wz.heap.size wz ((wz.drewN (q + 1)).alloc (.cells #[] 3)) := (below_drewN wz (q + 1) _).alloc (Nat.le_refl _) _
                  have HOE : Hid (((wz.drewN (q + 1)).alloc (.cells #[] 3)).ownsRow wz.heap.size 3 1 (.slice (some ⟨wz.heap.size, 0, none⟩) 0 0) 0 []) := Lib.hid (World.ownsRow_lit (wz.drewN (q + 1)) #[] 0 (Nat.le_refl _) (by unfold maxLen; omega) rfl)
                  have HBE := Lib.hid BE
                  have hsE : wz.heap.size ≤ ((wz.drewN (q + 1)).alloc (.cells #[] 3)).heap.size := BE.size
                  clear hra hrk BE
                  refine wp_region_held_drew (S := fun w' => w'.cell? ⟨gt, sa, none⟩ = some (.slice (some ⟨g1, 0, none⟩) (q1 + 1) c1) ∧ w'.cell? ⟨gt, sb, none⟩ = some (.slice (some ⟨g2, 0, none⟩) (q2 + 1) c2)) (by kernel_rfl) ⟨c8, c9⟩ (fun hHeld => ?_)
                  refine take_yes (i := 1) (v := ?_) rfl (by kernel_rfl) (by kernel_rfl) (by kernel_rfl) (fun _ _ _ h => h) (by kernel_rfl) hHeld ?_ ?_
                  rotate_left
                  · intro w hSw; go_split_ands; go_simp; try with_reducible rfl
                  try simp only [Act.put, List.setIfInBounds_toArray, List.set_cons_zero, List.set_cons_succ]
                  refine take_yes (i := 2) (v := ?_) rfl (by kernel_rfl) (by kernel_rfl) (by kernel_rfl) (fun _ _ _ h => h) (by kernel_rfl) hHeld ?_ ?_
                  rotate_left
                  · intro w hSw; go_split_ands; go_simp; try with_reducible rfl
                  try simp only [Act.put, List.setIfInBounds_toArray, List.set_cons_zero, List.set_cons_succ]
                  refine take_yes (i := 3) (v := ?_) rfl (by kernel_rfl) (by kernel_rfl) (by kernel_rfl) (fun _ _ _ h => h) (by kernel_rfl) hHeld ?_ ?_
                  rotate_left
                  · intro w hSw; go_split_ands; go_simp; try with_reducible rfl
                  try simp only [Act.put, List.setIfInBounds_toArray, List.set_cons_zero, List.set_cons_succ]
                  refine take_yes (i := 4) (v := ?_) rfl (by kernel_rfl) (by kernel_rfl) (by kernel_rfl) (fun _ _ _ h => h) (by kernel_rfl) hHeld ?_ ?_
                  rotate_left
                  · intro w hSw; go_split_ands; go_simp; try with_reducible rfl
                  try simp only [Act.put, List.setIfInBounds_toArray, List.set_cons_zero, List.set_cons_succ]
                  refine take_yes (i := 6) (v := ?_) rfl (by kernel_rfl) (by kernel_rfl) (by kernel_rfl) (fun _ _ _ h => h) (by kernel_rfl) hHeld ?_ ?_
                  rotate_left
                  · intro w hSw; go_split_ands; go_simp; try with_reducible rfl
                  try simp only [Act.put, List.setIfInBounds_toArray, List.set_cons_zero, List.set_cons_succ]
                  refine take_yes (i := 7) (v := ?_) rfl (by kernel_rfl) (by kernel_rfl) (by kernel_rfl) (fun _ _ _ h => h) (by kernel_rfl) hHeld ?_ ?_
                  rotate_left
                  · intro w hSw; go_split_ands; go_simp; try with_reducible rfl
                  try simp only [Act.put, List.setIfInBounds_toArray, List.set_cons_zero, List.set_cons_succ]
                  refine take_yes (i := 8) (v := ?_) rfl (by kernel_rfl) (by kernel_rfl) (by kernel_rfl) (fun _ _ _ h => h) (by kernel_rfl) hHeld ?_ ?_
                  rotate_left
                  · intro w hSw; go_split_ands; go_simp; try with_reducible rfl
                  try simp only [Act.put, List.setIfInBounds_toArray, List.set_cons_zero, List.set_cons_succ]
                  refine take_yes (i := 9) (v := ?_) rfl (by kernel_rfl) (by kernel_rfl) (by kernel_rfl) (fun _ _ _ h => h) (by kernel_rfl) hHeld ?_ ?_
                  rotate_left
                  · intro w hSw; go_split_ands; go_simp; try with_reducible rfl
                  try simp only [Act.put, List.setIfInBounds_toArray, List.set_cons_zero, List.set_cons_succ]
                  refine take_yes (i := 12) (v := ?_) rfl (by kernel_rfl) (by kernel_rfl) (by kernel_rfl) (fun _ _ _ h => h) (by kernel_rfl) hHeld ?_ ?_
                  rotate_left
                  · intro w hSw; go_split_ands; go_simp; try with_reducible rfl
                  try simp only [Act.put, List.setIfInBounds_toArray, List.set_cons_zero, List.set_cons_succ]
                  refine take_loud (i := 0) rfl (by kernel_rfl) (fun K hK => ?_)
                  go_simp
                  refine hK.out _ _ ⟨(HBE.out.cell (lt_of_cell c8)).trans c8, (HBE.out.cell (lt_of_cell c9)).trans c9⟩ (fun hHeld => ?_)
                  clear hK K
                  try simp only [Act.put, List.setIfInBounds_toArray, List.set_cons_zero, List.set_cons_succ]
                  refine take_loud (i := 5) rfl (by kernel_rfl) (fun K hK => ?_)
                  refine step_app_at rowII rfl (.tmp 173) (.tmp 177) rfl wz.heap.size (by simp [Act.eval]) HOE.out ⟨g1, 0, none⟩ (q1 + 1) c1 ((T (sa + 1)).map (Value.int .i64)) (by simp [Act.eval]) (by rw [List.length_map, HL1.out, Nat.mul_one]) ((owns_at HRA.out HBE.out).cells rfl) (fun u hu => by obtain ⟨z, _, rfl⟩ := List.mem_map.1 hu; rfl) (by unfold maxLen; omega) (by omega) hsE (by omega) ?_
                  intro arA cA wA hoA hgA hlA
                  simp only [Nat.zero_add, List.nil_append] at hoA hlA ⊢
                  have hBA : Below wz.heap.size wz wA := HBE.out.grown hgA hsE (fun j hj => by simp [Value.ownBlock] at hj; omega)
                  have HOA := Lib.hid hoA
                  have HBA := Lib.hid hBA
                  refine hK.out _ _ ⟨(HBA.out.cell (lt_of_cell c8)).trans c8, (HBA.out.cell (lt_of_cell c9)).trans c9⟩ (fun hHeld => ?_)
                  clear hK K hoA hgA hlA hBA
                  try simp only [Act.put, List.setIfInBounds_toArray, List.set_cons_zero, List.set_cons_succ]
                  refine take_loud (i := 10) rfl (by kernel_rfl) (fun K hK => ?_)
                  refine step_app_at rowII rfl (.tmp 178) (.tmp 182) rfl wz.heap.size (by simp [Act.eval]) HOA.out ⟨g2, 0, none⟩ (q2 + 1) c2 ((T k).map (Value.int .i64)) (by simp [Act.eval]) (by rw [List.length_map, HL2.out, Nat.mul_one]) ((owns_at HRK.out HBA.out).cells rfl) (fun u hu => by obtain ⟨z, _, rfl⟩ := List.mem_map.1 hu; rfl) (by unfold maxLen; omega) (by omega) HBA.out.size (by omega) ?_
                  intro arB cB wB hoB hgB hlB
                  rw [← List.map_append] at hoB
                  generalize hql : q1 + 1 + (q2 + 1) = ql at hoB hlB ⊢
                  have HQL := Lib.hid hql
                  have hBB : Below wz.heap.size wz wB := HBA.out.grown hgB HBA.out.size (fun j hj => (HOA.out.lt j hj).1)
                  have HOB := Lib.hid hoB
                  have HBB := Lib.hid hBB
                  refine hK.out _ _ ⟨(HBB.out.cell (lt_of_cell c8)).trans c8, (HBB.out.cell (lt_of_cell c9)).trans c9⟩ (fun hHeld => ?_)
                  clear hK K hoB hgB hlB hBB hql
                  try simp only [Act.put, List.setIfInBounds_toArray, List.set_cons_zero, List.set_cons_succ]
                  refine take_yes (i := 11) (v := ?_) rfl (by kernel_rfl) (by kernel_rfl) (by kernel_rfl) (fun _ _ _ h => h) (by kernel_rfl) hHeld ?_ ?_
                  rotate_left
                  · intro w hSw; go_split_ands; go_simp; try with_reducible rfl
                  try simp only [Act.put, List.setIfInBounds_toArray, List.set_cons_zero, List.set_cons_succ]
                  refine wpAnyH_done (by kernel_rfl) ?_ _
                  have HXB := Lib.hid (((HX.out.at HBW.out).at H.out.fr).at HBB.out)
                  have HFT : Hid (fitsS wants room T (sa + 1) k ↔ loadS wants (T (sa + 1) ++ T k) ≤ room) := Lib.hid ⟨fun h => by rw [loadS_app]; exact h.2.2, fun h => ⟨HAK.out, HTK.out, by rw [← loadS_app]; exact h⟩⟩
                  have hLl : (T (sa + 1) ++ T k).length = ql := by rw [List.length_append, HL1.out, HL2.out, HQL.out]
                  have hin1 : ∀ x ∈ T (sa + 1) ++ T k, 0 ≤ x ∧ x < wants.length := fun x hx => by
                    rcases List.mem_append.1 hx with hx | hx
                    · obtain ⟨p, h3, h4, h5⟩ := HG.out.inn (sa + 1) x hx; rw [HNW.out]; omega
                    · obtain ⟨p, h3, h4, h5⟩ := HG.out.inn k x hx; rw [HNW.out]; omega
                  have hql9 : ql ≤ 18 := by rw [← HQL.out]; omega
                  obtain ⟨LT, hLT⟩ : ∃ LT, LT = T (sa + 1) ++ T k := ⟨_, rfl⟩
                  rw [← hLT] at HOB hLl hin1 HFT
                  obtain ⟨a9, c19, e9, hEB, _⟩ := ints_of_owns hLl.symm HOB.out
                  obtain ⟨rfl, e91, e92⟩ := Value.slice.inj e9
                  clear e91 e92 e9
                  have HEB := Lib.hid hEB
                  have HIN := Lib.hid hin1
                  have HLT := Lib.hid hLT
                  have HLL2 := Lib.hid hLl
                  have HBD := Lib.hid (fun p => loadS_bound HWB.out (LT.take p))
                  clear hEB hin1 hLT hLl hHeld
                  go_wp2
                  go_loopw [22, 185] (fun sv iv wr => ∃ p : Nat, p ≤ ql ∧ iv = .int .i64 p ∧ sv = .int .i64 (loadS wants (LT.take p)) ∧ wB = wr) (fun _ iv _ => ql - (intOf iv).toNat)
                  case atStart => exact ⟨0, by omega, rfl, by simp [loadS], rfl⟩
                  case round =>
                    obtain ⟨p, hpl, rfl, rfl, rfl⟩ := hrel
                    by_cases hpq : p < ql
                    · have hlt : p < LT.length := by rw [HLL2.out]; exact hpq
                      obtain ⟨b6, o6, rfl, hc6⟩ := HEB.out.some hlt
                      have h1 := hc6 p hlt 0 _ rfl
                      simp only [Nat.add_zero, Nat.mul_one] at h1
                      obtain ⟨x1, x2⟩ := HIN.out _ (List.getElem_mem hlt)
                      obtain ⟨pl, hp⟩ : ∃ pl : Nat, LT[p] = (pl : Int) := ⟨LT[p].toNat, by omega⟩
                      rw [hp] at h1 x1 x2
                      have hpw : pl < wants.length := by omega
                      have hpn : pl < n := by rw [← HNW.out]; exact hpw
                      obtain ⟨b7, o7, rfl, hc7⟩ := HXB.out.some hpw
                      have h2 := hc7 pl hpw 0 _ rfl
                      simp only [Nat.add_zero, Nat.mul_one] at h2
                      have hq := HBD.out p
                      have hqk : (LT.take p).length ≤ 18 := by rw [List.length_take]; omega
                      have hv := HWB.out _ (List.getElem_mem hpw)
                      have HS : Hid (loadS wants (LT.take (p + 1)) = loadS wants (LT.take p) + wants[pl]) := Lib.hid (by
                        rw [List.take_succ_eq_append_getElem hlt, loadS_app, hp]
                        congr 1
                        simp [loadS, List.getD_eq_getElem?_getD, hpw])
                      clear hc6 hc7 hp x1 x2
                      generalize loadS wants (LT.take p) = qv at *
                      generalize wants[pl] = v at *
                      have hw2 : IntKind.i64.wrap (qv + v) = qv + v := IntWalk.i64_in _ (by omega)
                      go_wp2
                      exact ⟨⟨p + 1, by omega, by go_num, by rw [HS.out], trivial⟩, by simp [intOf]; omega⟩
                    · have hall : LT.take p = LT := List.take_of_length_le (by rw [HLL2.out]; omega)
                      rw [hall]
                      obtain ⟨al, hal⟩ : ∃ al, al = loadS wants LT := ⟨_, rfl⟩
                      rw [← hal] at HFT ⊢
                      by_cases hfit : al ≤ room
                      case neg =>
                        have hdf : decide (al ≤ room) = false := decide_eq_false hfit
                        have HN2 : Hid (tourK wants room n D (j + 1) = T) := Lib.hid (HSUC.out.trans (HST.out.2 (fun h => hfit (HFT.out.1 h))))
                        clear hfit hal hall
                        go_wp2
                        exact ⟨⟨j + 1, V, by omega, by go_num, Lib.hid (by rw [HN2.out]; exact H.out.below HBB.out), Lib.hid (HE.out.at HBB.out), HAP, Lib.hid (Nat.le_trans HSZ.out HBB.out.size)⟩, by simp [intOf]; omega⟩
                      have hdf : decide (al ≤ room) = true := decide_eq_true hfit
                      have HN2 : Hid (tourK wants room n D (j + 1) = mergeS T (sa + 1) k) := Lib.hid (HSUC.out.trans (HST.out.1 (HFT.out.2 hfit)))
                      clear hfit hal hall
                      have c8B := (HBB.out.cell (lt_of_cell c8)).trans c8
                      have c9B := (HBB.out.cell (lt_of_cell c9)).trans c9
                      have HM := Lib.hid (H.out.below HBB.out)
                      go_wp2
                      have hra2 := HM.out.tours.row (sa + 1)
                      have hrk2 := HM.out.tours.row k
                      rw [HV1.out, HL1.out] at hra2
                      rw [HV2.out, HL2.out] at hrk2
                      have HRA2 := Lib.hid hra2
                      have HRK2 := Lib.hid hrk2
                      have hsM := HM.out.sz
                      have hsab : sa ≠ sb := hab
                      have hg1t : gt ≠ g1 := fun e => (HM.out.ap1 (sa + 1) g1 (by rw [HV1.out]; rfl)).2 (by rw [e]; rfl)
                      have hbrl : S0 ≤ br ∧ br < S5 := by
                        refine ⟨HPR.out _ rfl, ?_⟩
                        obtain ⟨b8, o8, e8, hc8⟩ := HE0.out.some (show j < (tab L r).length by rw [tab_len]; exact hjl)
                        have h := lt_of_cell (hc8 j (by rw [tab_len]; exact hjl) 0 _ rfl)
                        have e9 : b8 = br := by have := Option.some.inj e8; simp at this; exact this.1.symm
                        rw [HW5.out, ← e9]
                        exact h
                      have hgtl : gt < S0 := HTP.out gt rfl
                      have hg1l : g1 < S0 ∨ S5 ≤ g1 := HAP.out (sa + 1) g1 (by rw [HV1.out]; rfl)
                      have HBR := Lib.hid hbrl
                      have HGT := Lib.hid hgtl
                      have HG1 := Lib.hid hg1l
                      have HGG := Lib.hid hg1t
                      clear hra2 hrk2 hbrl hgtl hg1l hg1t
                      have HKEY : Hid (∀ (ar2 : Option Addr) (cr2 : Nat) (w6 : World), w6.ownsRow (bx + 1) 3 1 (.slice ar2 ql cr2) ql ((T (sa + 1)).map (Value.int .i64) ++ (T k).map (Value.int .i64)) → wB.grownBy w6 (Value.slice (some ⟨g1, 0, none⟩) (q1 + 1) c1).ownBlock → ((Value.slice ar2 ql cr2).ownBlock = (Value.slice (some ⟨g1, 0, none⟩) (q1 + 1) c1).ownBlock ∨ ∀ g, (Value.slice ar2 ql cr2).ownBlock = some g → wB.heap.size ≤ g) →
          (w6.cell? ⟨gt, sa, none⟩ = some (.slice (some ⟨g1, 0, none⟩) (q1 + 1) c1) ∧ w6.frozen? ⟨gt, sa, none⟩ = false ∧ (w6.setCell ⟨gt, sa, none⟩ (.slice ar2 ql cr2)).cell? ⟨gt, sb, none⟩ = some (.slice (some ⟨g2, 0, none⟩) (q2 + 1) c2) ∧ (w6.setCell ⟨gt, sa, none⟩ (.slice ar2 ql cr2)).frozen? ⟨gt, sb, none⟩ = false) ∧
          ∃ V' : Nat → Value, RefAt bx (tourK wants room n D (j + 1)) V' m (.slice (some ⟨gt, 0, none⟩) m capt) (.slice (some ⟨bl, ol, none⟩) L cap3) l0 w1 ((w6.setCell ⟨gt, sa, none⟩ (.slice ar2 ql cr2)).setCell ⟨gt, sb, none⟩ (.slice none 0 0)) ∧ Elems encI 1 ((w6.setCell ⟨gt, sa, none⟩ (.slice ar2 ql cr2)).setCell ⟨gt, sb, none⟩ (.slice none 0 0)) (some ⟨br, obr, none⟩) (tab L r) ∧ (∀ f b, (V' f).ownBlock = some b → b < S0 ∨ S5 ≤ b) ∧ S5 ≤ ((w6.setCell ⟨gt, sa, none⟩ (.slice ar2 ql cr2)).setCell ⟨gt, sb, none⟩ (.slice none 0 0)).heap.size) := Lib.hid (fun ar2 cr2 w6 h1 h2 h3 => by
                        have hS5 : S5 ≤ wB.heap.size := Nat.le_trans HSZ.out HBB.out.size
                        have hbw : br < wB.heap.size := Nat.lt_of_lt_of_le HBR.out.2 hS5
                        have hgw := (HM.out.trow.lt gt rfl)
                        have b6 := h2.block gt hgw.2 (fun e => HGG.out (Option.some.inj e))
                        have c86 := (World.cell?_of_block (a := ⟨gt, sa, none⟩) b6).trans c8B
                        have f86 := (World.frozen?_of_block (a := ⟨gt, sa, none⟩) b6).trans (HM.out.trow.frozenAt sa)
                        have c96 := (World.cell?_of_block (a := ⟨gt, sb, none⟩) b6).trans c9B
                        have f96 := (World.frozen?_of_block (a := ⟨gt, sb, none⟩) b6).trans (HM.out.trow.frozenAt sb)
                        have hme := HM.out.merge (a := sa + 1) (k := k) (v' := .slice ar2 ql cr2) (w2 := w6) HAK.out (by omega) (by omega) HTA.out (by rw [HV1.out]; exact h2) (by rw [List.length_append, HL1.out, HL2.out, HQL.out, List.map_append]; exact h1) (by rw [HV1.out]; exact h3)
                        have e1 : sa + 1 - 1 = sa := by omega
                        have e2 : k - 1 = sb := by have := HBK.out; omega
                        rw [e1, e2, ← HN2.out] at hme
                        have hbr1 : br ≠ g1 := fun e => by have := HBR.out; have := HG1.out; omega
                        have hbrt : gt ≠ br := fun e => by have := HBR.out; have := HGT.out; omega
                        refine ⟨⟨c86, f86, by rw [World.cell?_setCell_other _ _ _ _ (fun e => hsab (by simpa using e.symm))]; exact c96, by rw [World.frozen?_setCell]; exact f96⟩, _, hme, ?_, ?_, ?_⟩
                        · refine elems_block (HE.out.at HBB.out) (fun p hp => ?_)
                          have hp2 : p.block = br := by rw [← Option.some.inj hp]
                          rw [hp2, Below.heap_setCell _ _ _ _ (by exact hbrt.symm), Below.heap_setCell _ _ _ _ (by exact hbrt.symm)]
                          exact h2.block br hbw (fun e => hbr1 (Option.some.inj e))
                        · intro f b hfb
                          by_cases ef : f = sa + 1
                          · rw [if_pos ef] at hfb
                            rcases h3 with h3 | h3
                            · exact HAP.out (sa + 1) b (by rw [HV1.out, ← h3]; exact hfb)
                            · exact Or.inr (Nat.le_trans hS5 (h3 b hfb))
                          · rw [if_neg ef] at hfb
                            by_cases ek : f = k
                            · rw [if_pos ek] at hfb; cases hfb
                            · rw [if_neg ek] at hfb
                              exact HAP.out f b hfb
                        · exact Nat.le_trans hS5 (Nat.le_trans h2.size (by simp [World.setCell])))
                      refine wp_region_held_drew (S := fun _ => True) (by kernel_rfl) trivial (fun hHeld => ?_)
                      refine take_yes (i := 0) (v := ?_) rfl (by kernel_rfl) (by kernel_rfl) (by kernel_rfl) (fun _ _ _ h => h) (by kernel_rfl) hHeld ?_ ?_
                      rotate_left
                      · intro w hSw; go_split_ands; go_simp; try with_reducible rfl
                      try simp only [Act.put, List.setIfInBounds_toArray, List.set_cons_zero, List.set_cons_succ]
                      refine take_yes (i := 1) (v := ?_) rfl (by kernel_rfl) (by kernel_rfl) (by kernel_rfl) (fun _ _ _ h => h) (by kernel_rfl) hHeld ?_ ?_
                      rotate_left
                      · intro w hSw; go_split_ands; go_simp; try with_reducible rfl
                      try simp only [Act.put, List.setIfInBounds_toArray, List.set_cons_zero, List.set_cons_succ]
                      refine take_yes (i := 2) (v := ?_) rfl (by kernel_rfl) (by kernel_rfl) (by kernel_rfl) (fun _ _ _ h => h) (by kernel_rfl) hHeld ?_ ?_
                      rotate_left
                      · intro w hSw; go_split_ands; go_simp; try with_reducible rfl
                      try simp only [Act.put, List.setIfInBounds_toArray, List.set_cons_zero, List.set_cons_succ]
                      refine take_yes (i := 3) (v := ?_) rfl (by kernel_rfl) (by kernel_rfl) (by kernel_rfl) (fun _ _ _ h => h) (by kernel_rfl) hHeld ?_ ?_
                      rotate_left
                      · intro w hSw; go_split_ands; go_simp; try with_reducible rfl
                      try simp only [Act.put, List.setIfInBounds_toArray, List.set_cons_zero, List.set_cons_succ]
                      refine take_yes (i := 4) (v := ?_) rfl (by kernel_rfl) (by kernel_rfl) (by kernel_rfl) (fun _ _ _ h => h) (by kernel_rfl) hHeld ?_ ?_
                      rotate_left
                      · intro w hSw; go_split_ands; go_simp; try with_reducible rfl
                      try simp only [Act.put, List.setIfInBounds_toArray, List.set_cons_zero, List.set_cons_succ]
                      refine take_yes (i := 5) (v := ?_) rfl (by kernel_rfl) (by kernel_rfl) (by kernel_rfl) (fun _ _ _ h => h) (by kernel_rfl) hHeld ?_ ?_
                      rotate_left
                      · intro w hSw; go_split_ands; go_simp; try with_reducible rfl
                      try simp only [Act.put, List.setIfInBounds_toArray, List.set_cons_zero, List.set_cons_succ]
                      refine take_yes (i := 6) (v := ?_) rfl (by kernel_rfl) (by kernel_rfl) (by kernel_rfl) (fun _ _ _ h => h) (by kernel_rfl) hHeld ?_ ?_
                      rotate_left
                      · intro w hSw; go_split_ands; go_simp; try with_reducible rfl
                      try simp only [Act.put, List.setIfInBounds_toArray, List.set_cons_zero, List.set_cons_succ]
                      refine take_yes (i := 8) (v := ?_) rfl (by kernel_rfl) (by kernel_rfl) (by kernel_rfl) (fun _ _ _ h => h) (by kernel_rfl) hHeld ?_ ?_
                      rotate_left
                      · intro w hSw; go_split_ands; go_simp; try with_reducible rfl
                      try simp only [Act.put, List.setIfInBounds_toArray, List.set_cons_zero, List.set_cons_succ]
                      refine take_yes (i := 9) (v := ?_) rfl (by kernel_rfl) (by kernel_rfl) (by kernel_rfl) (fun _ _ _ h => h) (by kernel_rfl) hHeld ?_ ?_
                      rotate_left
                      · intro w hSw; go_split_ands; go_simp; try with_reducible rfl
                      try simp only [Act.put, List.setIfInBounds_toArray, List.set_cons_zero, List.set_cons_succ]
                      refine take_yes (i := 10) (v := ?_) rfl (by kernel_rfl) (by kernel_rfl) (by kernel_rfl) (fun _ _ _ h => h) (by kernel_rfl) hHeld ?_ ?_
                      rotate_left
                      · intro w hSw; go_split_ands; go_simp; try with_reducible rfl
                      try simp only [Act.put, List.setIfInBounds_toArray, List.set_cons_zero, List.set_cons_succ]
                      refine take_both (i := 7) (j := 11) rfl rfl (by kernel_rfl) (fun K hK => ?_) (fun K hK => ?_)
                      · skip
                        go_simp
                        refine hK.out _ _ trivial (fun hHeld => ?_)
                        clear hK K
                        try simp only [Act.put, List.setIfInBounds_toArray, List.set_cons_zero, List.set_cons_succ]
                        refine take_loud (i := 11) rfl (by kernel_rfl) (fun K hK => ?_)
                        go_simp
                        refine hK.out _ _ trivial (fun hHeld => ?_)
                        clear hK K
                        try simp only [Act.put, List.setIfInBounds_toArray, List.set_cons_zero, List.set_cons_succ]
                        refine take_loud (i := 12) rfl (by kernel_rfl) (fun K hK => ?_)
                        refine step_app_at rowII rfl (.tmp 206) (.tmp 210) rfl (bx + 1) (by simp [Act.eval]) (show wB.drew.ownsRow (bx + 1) 3 1 (.slice (some ⟨g1, 0, none⟩) (q1 + 1) c1) (q1 + 1) ((T (sa + 1)).map (Value.int .i64)) from HRA2.out) ⟨g2, 0, none⟩ (q2 + 1) c2 ((T k).map (Value.int .i64)) (by simp [Act.eval]) (by rw [List.length_map, HL2.out, Nat.mul_one]) (HRK2.out.cells rfl) (fun u hu => by obtain ⟨z, _, rfl⟩ := List.mem_map.1 hu; rfl) (by unfold maxLen; omega) (by omega) hsM (by omega) ?_
                        intro ar2 cr2 w6 h1 h2 h3
                        rw [HQL.out] at h1 h3 ⊢
                        obtain ⟨⟨c86, f86, c96, f96⟩, V', H7, E7, A7, S7⟩ := HKEY.out ar2 cr2 w6 h1 ⟨h2.os, h2.tape, h2.output, h2.size, h2.block⟩ h3
                        have H7 := Lib.hid H7
                        have E7 := Lib.hid E7
                        have A7 := Lib.hid A7
                        have S7 := Lib.hid S7
                        refine hK.out _ _ trivial (fun hHeld => ?_)
                        clear hK K h1 h2 h3
                        try simp only [Act.put, List.setIfInBounds_toArray, List.set_cons_zero, List.set_cons_succ]
                        refine take_yes (i := 13) (v := ?_) rfl (by kernel_rfl) (by kernel_rfl) (by kernel_rfl) (fun _ _ _ h => h) (by kernel_rfl) hHeld ?_ ?_
                        rotate_left
                        · intro w hSw; go_split_ands; go_simp; try with_reducible rfl
                        try simp only [Act.put, List.setIfInBounds_toArray, List.set_cons_zero, List.set_cons_succ]
                        refine take_loud (i := 14) rfl (by kernel_rfl) (fun K hK => ?_)
                        go_simp
                        refine hK.out _ _ trivial (fun hHeld => ?_)
                        clear hK K
                        try simp only [Act.put, List.setIfInBounds_toArray, List.set_cons_zero, List.set_cons_succ]
                        refine take_yes (i := 15) (v := ?_) rfl (by kernel_rfl) (by kernel_rfl) (by kernel_rfl) (fun _ _ _ h => h) (by kernel_rfl) hHeld ?_ ?_
                        rotate_left
                        · intro w hSw; go_split_ands; go_simp; try with_reducible rfl
                        try simp only [Act.put, List.setIfInBounds_toArray, List.set_cons_zero, List.set_cons_succ]
                        refine take_loud (i := 16) rfl (by kernel_rfl) (fun K hK => ?_)
                        go_simp
                        refine hK.out _ _ trivial (fun hHeld => ?_)
                        clear hK K
                        try simp only [Act.put, List.setIfInBounds_toArray, List.set_cons_zero, List.set_cons_succ]
                        refine wpAnyH_done (by kernel_rfl) ?_ _
                        clear c86 f86 c96 f96 c8B c9B
                        go_wp2
                        exact ⟨⟨j + 1, V', by omega, by go_num, H7, E7, A7, S7⟩, by simp [intOf]; omega⟩
                      · skip
                        --{
                        go_simp
                        refine hK.out _ _ trivial (fun hHeld => ?_)
                        clear hK K
                        try simp only [Act.put, List.setIfInBounds_toArray, List.set_cons_zero, List.set_cons_succ]
                        refine take_loud (i := 7) rfl (by kernel_rfl) (fun K hK => ?_)
                        go_simp
                        refine hK.out _ _ trivial (fun hHeld => ?_)
                        clear hK K
                        try simp only [Act.put, List.setIfInBounds_toArray, List.set_cons_zero, List.set_cons_succ]
                        refine take_loud (i := 12) rfl (by kernel_rfl) (fun K hK => ?_)
                        refine step_app_at rowII rfl (.tmp 206) (.tmp 210) rfl (bx + 1) (by simp [Act.eval]) (show wB.drew.ownsRow (bx + 1) 3 1 (.slice (some ⟨g1, 0, none⟩) (q1 + 1) c1) (q1 + 1) ((T (sa + 1)).map (Value.int .i64)) from HRA2.out) ⟨g2, 0, none⟩ (q2 + 1) c2 ((T k).map (Value.int .i64)) (by simp [Act.eval]) (by rw [List.length_map, HL2.out, Nat.mul_one]) (HRK2.out.cells rfl) (fun u hu => by obtain ⟨z, _, rfl⟩ := List.mem_map.1 hu; rfl) (by unfold maxLen; omega) (by omega) hsM (by omega) ?_
                        intro ar2 cr2 w6 h1 h2 h3
                        rw [HQL.out] at h1 h3 ⊢
                        obtain ⟨⟨c86, f86, c96, f96⟩, V', H7, E7, A7, S7⟩ := HKEY.out ar2 cr2 w6 h1 ⟨h2.os, h2.tape, h2.output, h2.size, h2.block⟩ h3
                        have H7 := Lib.hid H7
                        have E7 := Lib.hid E7
                        have A7 := Lib.hid A7
                        have S7 := Lib.hid S7
                        refine hK.out _ _ trivial (fun hHeld => ?_)
                        clear hK K h1 h2 h3
                        try simp only [Act.put, List.setIfInBounds_toArray, List.set_cons_zero, List.set_cons_succ]
                        refine take_yes (i := 13) (v := ?_) rfl (by kernel_rfl) (by kernel_rfl) (by kernel_rfl) (fun _ _ _ h => h) (by kernel_rfl) hHeld ?_ ?_
                        rotate_left
                        · intro w hSw; go_split_ands; go_simp; try with_reducible rfl
                        try simp only [Act.put, List.setIfInBounds_toArray, List.set_cons_zero, List.set_cons_succ]
                        refine take_loud (i := 14) rfl (by kernel_rfl) (fun K hK => ?_)
                        go_simp
                        refine hK.out _ _ trivial (fun hHeld => ?_)
                        clear hK K
                        try simp only [Act.put, List.setIfInBounds_toArray, List.set_cons_zero, List.set_cons_succ]
                        refine take_yes (i := 15) (v := ?_) rfl (by kernel_rfl) (by kernel_rfl) (by kernel_rfl) (fun _ _ _ h => h) (by kernel_rfl) hHeld ?_ ?_
                        rotate_left
                        · intro w hSw; go_split_ands; go_simp; try with_reducible rfl
                        try simp only [Act.put, List.setIfInBounds_toArray, List.set_cons_zero, List.set_cons_succ]
                        refine take_loud (i := 16) rfl (by kernel_rfl) (fun K hK => ?_)
                        go_simp
                        refine hK.out _ _ trivial (fun hHeld => ?_)
                        clear hK K
                        try simp only [Act.put, List.setIfInBounds_toArray, List.set_cons_zero, List.set_cons_succ]
                        refine wpAnyH_done (by kernel_rfl) ?_ _
                        clear c86 f86 c96 f96 c8B c9B
                        go_wp2
                        exact ⟨⟨j + 1, V', by omega, by go_num, H7, E7, A7, S7⟩, by simp [intOf]; omega⟩
                        --}
              --}
            · have hT8 : tourK wants room n D j = savS wants room n (D.map fun x => (x.2.1.toNat, x.2.2.toNat)) := by
                have : j = D.length := by rw [HDL.out]; omega
                rw [this, tourK_all]
              obtain ⟨T, hT⟩ : ∃ T, T = tourK wants room n D j := ⟨_, rfl⟩
              have HG : Hid (GoodS n T) := Lib.hid (by rw [hT]; exact tourK_good _ _ _ _ _)
              rw [← hT] at H hT8
              have HTE := Lib.hid hT8
              have HB5 := Lib.hid H.out.fr
              have HTO := Lib.hid H.out.tours
              have HTC : Hid (∀ w', Below wr.heap.size wr w' → ∀ t, t < m → ∃ gt ct, Value.slice adt m capt = .slice (some ⟨gt, 0, none⟩) m ct ∧ w'.cell? ⟨gt, t, none⟩ = some (V (t + 1))) := Lib.hid (fun w' hw' t ht => by
                have h1 := (H.out.below hw').trow
                obtain ⟨gt, ct, e1, _, _⟩ := rowSome h1 (by omega)
                rw [e1] at h1
                exact ⟨gt, ct, e1, by rw [h1.cellAt t (by omega), rowVs_get ht]⟩)
              have h5 := Below.refl wr.heap.size wr
              obtain ⟨w9, hw9⟩ : ∃ w9 : World, w9 = wr := ⟨_, rfl⟩
              subst hw9
              clear hT hT8 H HE HE0
              go_wp2
              go_loopw [25, 26] (fun ov iv wr => ∃ i : Nat, 1 ≤ i ∧ (i ≤ n ∨ i = 1) ∧ iv = .int .i64 i ∧ wr.ownsRow w9.heap.size 39 1 ov (firsts T i).length ((firsts T i).map V) ∧ Below w9.heap.size w9 wr) (fun _ iv _ => n - (intOf iv).toNat)
              case atStart => exact ⟨1, by omega, Or.inr rfl, rfl, by rw [firsts_one HG.out]; exact World.ownsRow_nil _ _ _ _, h5⟩
              case round =>
                clear h5
                obtain ⟨i, hi1, hi2, rfl, hrow, hb⟩ := hrel
                by_cases hin : i < n
                · have hrow0 := hrow
                  rw [← outTo_zero hi1] at hrow0
                  have HROW := Lib.hid hrow0
                  have HB := Lib.hid hb
                  clear hrow hrow0 hb
                  go_wp2
                  go_loopw [25, 223] (fun ov tv wr => ∃ t : Nat, t ≤ m ∧ tv = .int .i64 t ∧ wr.ownsRow w9.heap.size 39 1 ov (outTo T i t).length ((outTo T i t).map V) ∧ Below w9.heap.size w9 wr) (fun _ tv _ => m - (intOf tv).toNat)
                  case atStart => exact ⟨0, by omega, rfl, HROW.out, HB.out⟩
                  case round =>
                    clear HROW HB
                    obtain ⟨t, ht, rfl, hrow, hb⟩ := hrel
                    obtain ⟨F, hF⟩ : ∃ F, F = outTo T i t := ⟨_, rfl⟩
                    rw [← hF] at hrow
                    obtain ⟨ad9, cap9, hs⟩ := rowForm hrow
                    subst hs
                    have hFl : F.length ≤ 11 := by rw [hF]; have := outTo_le T i t; omega
                    have hbs := hb.size
                    by_cases htm : t < m
                    · obtain ⟨gt, ct, e7, c7⟩ := HTC.out wr hb t htm
                      obtain ⟨rfl, _, rfl⟩ := Value.slice.inj e7
                      clear e7
                      by_cases hTt : T (t + 1) = []
                      · have hV := HTO.out.none' (t + 1) hTt
                        rw [hV] at c7
                        have HSU : Hid (outTo T i (t + 1) = F) := Lib.hid (by rw [hF]; exact outTo_same (fun e => by rw [← e]; exact hTt))
                        clear hV hTt hF
                        go_wp2
                        exact ⟨⟨t + 1, by omega, by go_num, by rw [HSU.out]; exact hrow, hb⟩, by simp [intOf]; omega⟩
                      · obtain ⟨g, q1, c1, hV, hTl⟩ := HTO.out.form hTt
                        rw [hV] at c7
                        have hrf := (HTO.out.next hb).row (t + 1)
                        rw [hV, hTl] at hrf
                        have h0T : 0 < (T (t + 1)).length := by omega
                        have cf := owns_get hrf 0 (by omega) h0T
                        have hcf : (T (t + 1))[0] = (t : Int) + 1 := by
                          have h1 := HG.out.head (t + 1) hTt
                          rw [List.head?_eq_getElem?, List.getElem?_eq_getElem h0T] at h1
                          have h2 := Option.some.inj h1
                          rw [h2]; simp
                        rw [hcf] at cf
                        have hg1 : decide ((0 : Int) < (q1 : Int) + 1) = true := decide_eq_true (by omega)
                        have hg2 : decide (0 < q1 + 1) = true := by simp
                        have HVT := Lib.hid hV
                        have HTT := Lib.hid hTt
                        clear hcf hrf h0T hV hTl hTt
                        by_cases hti : t + 1 = i
                        · have hd2 : (((t : Int) + 1) == (i : Int)) = true := by simp; omega
                          have HSU : Hid (outTo T i (t + 1) = F ++ [i]) := Lib.hid (by rw [hF]; exact outTo_hit hti (by rw [← hti]; exact HTT.out))
                          have HVI : Hid (V i = .slice (some ⟨g, 0, none⟩) (q1 + 1) c1) := Lib.hid (by rw [← hti]; exact HVT.out)
                          have hk1 : F.length + 1 ≤ maxLen := by unfold maxLen; omega
                          have hk2 : (F.length + 1) * 24 ≤ 140737488355328 := by omega
                          have hone : ∀ u ∈ [Value.slice (some ⟨g, 0, none⟩) (q1 + 1) c1], u.oneCell' = true := by
                            intro u hu
                            simp at hu
                            rw [hu]
                            rfl
                          clear hti hF
                          go_wp2_with (at_builtin; (refine app_row rowTT rfl _ _ rfl w9.heap.size rfl hrow [.slice (some ⟨g, 0, none⟩) (q1 + 1) c1] rfl (by first | rfl | simp) rfl hone hk1 hk2 hbs ?_))
                          intro v10 w10 h1 h2
                          have h3 := hb.trans h2
                          have H4 : Hid (w10.ownsRow w9.heap.size 39 1 v10 (outTo T i (t + 1)).length ((outTo T i (t + 1)).map V)) := Lib.hid (by rw [HSU.out, List.map_append, List.length_append]; simpa [HVI.out] using h1)
                          clear h1 h2 hrow hone
                          go_wp2
                          exact ⟨⟨t + 1, by omega, by go_num, H4.out, h3⟩, by simp [intOf]; omega⟩
                        · have hd2 : (((t : Int) + 1) == (i : Int)) = false := by simp; omega
                          have HSU : Hid (outTo T i (t + 1) = F) := Lib.hid (by rw [hF]; exact outTo_same (fun e => absurd e hti))
                          clear hti hF
                          go_wp2
                          exact ⟨⟨t + 1, by omega, by go_num, by rw [HSU.out]; exact hrow, hb⟩, by simp [intOf]; omega⟩
                    · have HSU : Hid (F = firsts T (i + 1)) := Lib.hid (by rw [hF]; exact outTo_end (by have := HMN.out; omega))
                      clear hF
                      go_wp2
                      exact ⟨⟨i + 1, by omega, Or.inl (by omega), by go_num, by rw [← HSU.out]; exact hrow, hb⟩, by simp [intOf]; omega⟩
                · have hFn : firsts T i = firsts T n := by
                    by_cases h : i = n
                    · rw [h]
                    · have h0 : n = 0 := by omega
                      have h1 : i = 1 := by omega
                      rw [h1, firsts_one HG.out, h0]
                      rfl
                  have hfin : (firsts T i).map T = toursS M wants room D := by
                    rw [hFn, firsts_list]
                    unfold toursS
                    rw [HN.out, listS_eq, ← HTE.out]
                    rfl
                  have hto := HTO.out.next hb
                  obtain ⟨F, hF⟩ : ∃ F, F = firsts T i := ⟨_, rfl⟩
                  rw [← hF] at hrow hfin
                  obtain ⟨oa, oc, hq, hR2⟩ := rows2_of_owns hto hrow
                  subst hq
                  rw [hfin] at hR2
                  have hlen9 : F.length = (toursS M wants room D).length := by rw [← hfin, List.length_map]
                  have HF : Hid (RefSavPost M wants room D w (.returned (.tuple #[.slice oa F.length oc, .int .i64 0])) wr) := Lib.hid
                    ⟨oa, oc, by rw [hlen9], hR2, below_next HBW.out (below_next HB5.out hb)⟩
                  clear hFn hfin hto hR2 hlen9 hF hrow
                  go_wp2
                  go_ret2
                  exact HF.out
end Go.Proofs.YtannijeiecmjpaaDoor
