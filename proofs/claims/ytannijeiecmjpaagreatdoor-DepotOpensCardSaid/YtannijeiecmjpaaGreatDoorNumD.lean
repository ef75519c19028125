/- The reference's number: a whole number's text read. -/
import Derived.Test.YtannijeiecmjpaaGreatDoorOpenC
import Derived.Test.YtannijeiecmjpaaGreatDoorNumB
import Derived.Test.YtannijeiecmjpaaGreatDoorSetStr
namespace Go.Proofs.YtannijeiecmjpaaGreatDoor
open Go.RowKit Go.Shelf

theorem digB_set : ∀ b : UInt8, ([48, 49, 50, 51, 52, 53, 54, 55, 56, 57] : Byt).contains b = digB b := by
  intro b
  have h : ∀ n : Fin 256, ([48, 49, 50, 51, 52, 53, 54, 55, 56, 57] : Byt).contains (UInt8.ofNat n.val) = digB (UInt8.ofNat n.val) := by decide +kernel
  have := h ⟨b.toNat, b.toNat_lt⟩
  simpa using this
theorem trim_dig {t : Byt} : Lib.trimS t [48, 49, 50, 51, 52, 53, 54, 55, 56, 57] = [] ↔ t.all digB = true := by
  rw [trim_nil]
  have : t.all (([48, 49, 50, 51, 52, 53, 54, 55, 56, 57] : Byt).contains ·) = t.all digB := by
    congr 1
    funext b
    exact digB_set b
  rw [this]
theorem dtrim_any (t : Byt) (w : World) (hs : t.length ≤ 100000) :
    Calls Tryz.prog 23 #[strV t, .string ⟨#[48, 49, 50, 51, 52, 53, 54, 55, 56, 57]⟩] w fun e w' => e = .returned (strV (Lib.trimS t [48, 49, 50, 51, 52, 53, 54, 55, 56, 57])) ∧ Below w.heap.size w w' :=
  Any.strings_Trim_laid trimL (by kernel_rfl) ⟨t.toArray⟩ ⟨#[48, 49, 50, 51, 52, 53, 54, 55, 56, 57]⟩ w (by simp [ByteArray.size]; omega) (by decide) (ascii_of_all (by decide))
theorem dec_dig (u : Nat) : (Lib.decDigits u).all digB = true := by
  induction u using Nat.strongRecOn with
  | _ u ih =>
    by_cases h : u < 10
    · rw [Lib.decDigits, dif_pos h, List.all_cons]
      unfold digB
      rw [(digitB u h).2]
      simp
      omega
    · rw [Lib.decDigits, dif_neg h, List.all_append, ih (u / 10) (by omega), List.all_cons]
      unfold digB
      rw [(digitB (u % 10) (by omega)).2]
      simp
      omega
theorem val_dec (u : Nat) : valD (Lib.decDigits u) = (u : Int) := by
  induction u using Nat.strongRecOn with
  | _ u ih =>
    by_cases h : u < 10
    · rw [Lib.decDigits, dif_pos h]
      have := (digitB u h).2
      simp only [valD, List.foldl_cons, List.foldl_nil]
      rw [this]
      omega
    · rw [Lib.decDigits, dif_neg h, valD_snoc, ih (u / 10) (by omega), (digitB (u % 10) (by omega)).2]
      omega
theorem dec_first (u : Nat) : ∃ c r, Lib.decDigits u = c :: r ∧ 48 ≤ c.toNat ∧ c.toNat ≤ 57 ∧ (c.toNat = 48 → u = 0) := by
  induction u using Nat.strongRecOn with
  | _ u ih =>
    by_cases h1 : u < 10
    · rw [Lib.decDigits, dif_pos h1]
      have := (digitB u h1).2
      exact ⟨_, _, rfl, by omega, by omega, fun h => by omega⟩
    · rw [Lib.decDigits, dif_neg h1]
      obtain ⟨c, r, e, h, h2, h3⟩ := ih (u / 10) (by omega)
      rw [e]
      exact ⟨c, _, rfl, h, h2, fun h4 => by have := h3 h4; omega⟩
theorem new_at (w : World) (o : Obj) : (w.alloc o).heap[w.heap.size]? = some o := by
  show (w.heap.push o)[w.heap.size]? = some o
  simp
/-- What number reads, behind the sign. -/
def magM (s : Byt) : Byt := Lib.trimPrefix s [45]
theorem mag_form (s : Byt) : s = magM s ∨ s = 45 :: magM s := by
  unfold magM Lib.trimPrefix Lib.hasPrefix
  cases s with
  | nil => left; rfl
  | cons c r =>
    by_cases h : c = 45
    · subst h; right; simp
    · left
      have h2 : ([45] : Byt).isPrefixOf (c :: r) = false := by rw [List.isPrefixOf, beq_eq_false_iff_ne.2 (Ne.symm h)]; rfl
      rw [h2]
      rfl
theorem mag_itoa (m : Int) : magM (Lib.itoa m) = Lib.decDigits m.natAbs ∧ Lib.itoa m = if m < 0 then 45 :: Lib.decDigits m.natAbs else Lib.decDigits m.natAbs := by
  unfold magM Lib.trimPrefix Lib.hasPrefix Lib.itoa
  by_cases h : m < 0
  · rw [if_pos h, if_pos h]
    exact ⟨by simp, rfl⟩
  · rw [if_neg h, if_neg h]
    have e : m.toNat = m.natAbs := by omega
    rw [e]
    obtain ⟨c, r, e2, h1, h2, _⟩ := dec_first m.natAbs
    rw [e2]
    have h3 : ([45] : Byt).isPrefixOf (c :: r) = false := by
      rw [List.isPrefixOf, beq_eq_false_iff_ne.2 (fun h => by subst h; exact absurd h1 (by decide))]
      rfl
    rw [h3]
    exact ⟨rfl, rfl⟩
/-- What is read of Itoa's text. -/
theorem read_itoa {s t : Byt} {m : Int} (ht : t = magM s) (hm : s = Lib.itoa m) : t = Lib.decDigits m.natAbs ∧ s = if m < 0 then 45 :: t else t := by
  have h := mag_itoa m
  rw [← hm] at h
  rw [← ht] at h
  refine ⟨h.1, ?_⟩
  rw [h.1]
  exact h.2
theorem setStr_all (s t : Byt) (hf : s = t ∨ s = 45 :: t) (hd : t.all digB = true) (ht : t ≠ []) (hn : t.length ≤ 3000) : ∃ sg : Bool, (s = if sg = true then 45 :: t else t) ∧ ∀ (zb : Nat) (w : World), w.heap[zb]? = some (.cells #[.bool false, .slice none 0 0] 101 (0, 0)) → Calls Tryz.prog 55 #[.pointer (some ⟨zb, 0, none⟩), strV s, .int .i64 10] w (SetPost zb sg t w) := by
  rcases hf with rfl | rfl
  · exact ⟨false, rfl, fun zb w h => setStr_pos zb s w hd ht hn h⟩
  · exact ⟨true, rfl, fun zb w h => setStr_neg zb t w hd ht hn h⟩
def NumPost (s : Byt) (w : World) (e : Ending) (w' : World) : Prop :=
  ∃ n ok, e = .returned (.tuple #[.int .i64 n, .bool ok]) ∧ -9223372036854775808 ≤ n ∧ n ≤ 9223372036854775807 ∧ Below w.heap.size w w' ∧ (∀ m : Int, -1000000 ≤ m → m ≤ 1000000 → s = Lib.itoa m → n = m ∧ ok = true)
theorem num_none {s : Byt} {w w' : World} (hb : Below w.heap.size w w') (h : ∀ m : Int, -1000000 ≤ m → m ≤ 1000000 → s ≠ Lib.itoa m) : NumPost s w (.returned (.tuple #[.int .i64 0, .bool false])) w' :=
  ⟨0, false, rfl, by omega, by omega, hb, fun m h0 h1 h2 => absurd h2 (h m h0 h1)⟩
set_option maxRecDepth 100000 in
set_option maxHeartbeats 8000000 in
theorem number_any (s : Byt) (w : World) (hs : s.length ≤ 3000) :
    Calls Tryz.prog 33 #[strV s] w (NumPost s w) := by
  have hf := mag_form s
  have HTP := Lib.hid (tpre_any s w)
  rw [show Lib.trimPrefix s [45] = magM s from rfl] at HTP
  obtain ⟨t, ht⟩ : ∃ t, t = magM s := ⟨_, rfl⟩
  rw [← ht] at HTP hf
  have htl : t.length ≤ 3000 := by
    rcases hf with h | h
    · rw [← h]; exact hs
    · have := congrArg List.length h
      simp at this
      omega
  have HRD : Hid (∀ m, s = Lib.itoa m → t = Lib.decDigits m.natAbs ∧ s = if m < 0 then 45 :: t else t) := Lib.hid (fun m hm => read_itoa ht hm)
  have HDT := Lib.hid (dtrim_any t w (by omega))
  clear ht
  rcases t with _ | ⟨c, r⟩
  · have HN : Hid (∀ w', Below w.heap.size w w' → NumPost s w (.returned (.tuple #[.int .i64 0, .bool false])) w') := Lib.hid (fun w' hb => num_none hb (fun m _ _ h => by
      have h1 := (HRD.out m h).1
      obtain ⟨c, r, e, _⟩ := dec_first m.natAbs
      rw [e] at h1
      cases h1))
    clear HRD hf
    go_enter Tryz.func33, Tryz.ntmps33
    go_wp2_with fail
    refine HTP.out.mono ?_
    rintro e w1 ⟨rfl, rfl⟩
    go_wp2
    go_ret2
    exact HN.out _ (Below.refl _ _)
  · by_cases hall : (c :: r).all digB = true
    · have hcd := List.all_eq_true.1 hall c (by simp)
      rw [trim_dig.2 hall] at HDT
      obtain ⟨sg, hsg, hset⟩ := setStr_all s (c :: r) hf hall (by simp) htl
      have HSG := Lib.hid hsg
      have HSET := Lib.hid hset
      clear hsg hset hf
      by_cases hbad : c.toNat = 48 ∧ s ≠ [48]
      · have HN : Hid (∀ w', Below w.heap.size w w' → NumPost s w (.returned (.tuple #[.int .i64 0, .bool false])) w') := Lib.hid (fun w' hb => num_none hb (fun m _ _ h => by
          obtain ⟨h1, h2⟩ := HRD.out m h
          obtain ⟨c2, r2, e, _, _, h3⟩ := dec_first m.natAbs
          rw [e] at h1
          have hc := (List.cons.inj h1).1
          have hm0 := h3 (by rw [← hc]; exact hbad.1)
          have hm : m = 0 := by omega
          subst hm
          refine hbad.2 (h.trans ?_)
          unfold Lib.itoa
          rw [if_neg (by omega), Lib.decDigits, dif_pos (by decide)]
          rfl))
        have hc48 : c = 48 := by
          have := hbad.1
          apply UInt8.toNat_inj.1
          exact this
        have hs48 : (s == [48]) = false := beq_eq_false_iff_ne.2 hbad.2
        clear HRD hbad hcd hall HSET HSG
        subst hc48
        go_enter Tryz.func33, Tryz.ntmps33
        go_wp2_with fail
        refine HTP.out.mono ?_
        rintro e w1 ⟨rfl, rfl⟩
        go_wp2_with fail
        refine HDT.out.mono ?_
        rintro e w2 ⟨rfl, hb⟩
        have HB := Lib.hid hb
        clear hb
        go_wp2
        go_ret2
        exact HN.out _ HB.out
      · have hk : ((((⟨(c :: r).toArray⟩ : ByteArray)[0]'(by simp [ByteArray.size])).toNat : Int) == 48) = false ∨ (c = 48 ∧ (s == [48]) = true) := by
          by_cases h1 : c.toNat = 48
          · right
            refine ⟨UInt8.toNat_inj.1 h1, ?_⟩
            have h2 : s = [48] := Classical.byContradiction fun h => hbad ⟨h1, h⟩
            rw [h2]
            rfl
          · left
            have h2 : ((c.toNat : Int) == 48) = false := by simp; omega
            exact h2
        have HVAL : Hid (∀ m : Int, -1000000 ≤ m → m ≤ 1000000 → s = Lib.itoa m → valD (c :: r) = (m.natAbs : Int) ∧ (sg = decide (m < 0))) := Lib.hid (fun m h0 h1 h => by
          obtain ⟨h2, h3⟩ := HRD.out m h
          refine ⟨by rw [h2]; exact val_dec _, ?_⟩
          have h4 := HSG.out
          rw [h3] at h4
          by_cases hm : m < 0
          · rw [if_pos hm] at h4
            cases sg
            · exfalso
              have := congrArg List.length h4
              simp at this
            · simp [hm]
          · rw [if_neg hm] at h4
            cases sg
            · simp [hm]
            · exfalso
              have := congrArg List.length h4
              simp at this)
        clear hbad hcd hall HRD HSG
        rcases hk with hk | ⟨rfl, hs48⟩
        all_goals
          go_enter Tryz.func33, Tryz.ntmps33
          go_wp2_with fail
          refine HTP.out.mono ?_
          rintro e w1 ⟨rfl, rfl⟩
          go_wp2_with fail
          refine HDT.out.mono ?_
          rintro e w2 ⟨rfl, hb⟩
          have HB := Lib.hid hb
          clear hb
          go_wp2_with fail
          refine (HSET.out w2.heap.size _ (new_at w2 _)).mono ?_
          rintro e w3 ⟨rfl, a, cc, xs, k0, k1, hE, hR, hb3, hl3⟩
          have HB3 : Hid (Below w1.heap.size w1 w3) := Lib.hid ((HB.out.trans ((Below.refl w2.heap.size w2).alloc (Nat.le_refl _) _ |>.mono HB.out.size)).trans (hb3.mono HB.out.size))
          have HNUM : Hid (NumAt w2.heap.size (sg && decide (0 < xs.length)) xs w3) := Lib.hid ⟨k0, ⟨a, cc, k1, hE⟩, hR.words, hR.last, hl3⟩
          have HSM := Lib.hid hR.small
          clear k0 k1 hE hR hb3 hl3 HB HSET
          go_wp2_with fail
          refine (isInt_any _ _ _ _ HNUM.out).mono ?_
          rintro e w4 ⟨ok, rfl, rfl, hok⟩
          cases ok
          · have HN : Hid (NumPost s w1 (.returned (.tuple #[.int .i64 0, .bool false])) w4) := Lib.hid (num_none HB3.out (fun m h0 h1 h => by
              have h2 := (HVAL.out m h0 h1 h).1
              have h3 := HSM.out (by omega)
              have h4 := hok (by rw [h3]; exact rowOfN_len1 _)
              cases h4))
            clear hok
            go_wp2
            go_ret2
            exact HN.out
          · clear hok
            go_wp2_with fail
            refine (int64_any _ _ _ _ HNUM.out).mono ?_
            rintro e w5 ⟨v, rfl, rfl, hv0, hv1, hv⟩
            have HN : Hid (NumPost s w1 (.returned (.tuple #[.int .i64 v, .bool true])) w5) := Lib.hid ⟨v, true, rfl, hv0, hv1, HB3.out, fun m h0 h1 h => by
              obtain ⟨h2, h3⟩ := HVAL.out m h0 h1 h
              have h4 := HSM.out (by omega)
              have h5 := hv _ (by omega) (by omega) h4
              refine ⟨?_, rfl⟩
              rw [h5, h3, h2]
              by_cases hm : m < 0
              · have hx : xs.length = 1 := by rw [h4]; unfold rowOfN; rw [if_neg (by omega)]; rfl
                simp [hm, hx]
                omega
              · simp [hm]
                omega⟩
            clear hv hv0 hv1
            go_wp2
            go_ret2
            exact HN.out
    · have HN : Hid (∀ w', Below w.heap.size w w' → NumPost s w (.returned (.tuple #[.int .i64 0, .bool false])) w') := Lib.hid (fun w' hb => num_none hb (fun m _ _ h => by
        have h1 := (HRD.out m h).1
        exact hall (by rw [h1]; exact dec_dig _)))
      obtain ⟨x, xs, hx⟩ := List.exists_cons_of_ne_nil (fun h => hall (trim_dig.1 h))
      rw [hx] at HDT
      clear HRD hall hf hx
      go_enter Tryz.func33, Tryz.ntmps33
      go_wp2_with fail
      refine HTP.out.mono ?_
      rintro e w1 ⟨rfl, rfl⟩
      go_wp2_with fail
      refine HDT.out.mono ?_
      rintro e w2 ⟨rfl, hb⟩
      have HB := Lib.hid hb
      clear hb
      go_wp2
      go_ret2
      exact HN.out _ HB.out
end Go.Proofs.YtannijeiecmjpaaGreatDoor
