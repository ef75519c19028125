/- Two sorted pieces of a row that lie side by side are merged in place (SymMerge): the first is one element. -/
import Derived.Test.YtfaklhkdfpfjgaaDoorSortI
namespace Go.Proofs.YtfaklhkdfpfjgaaDoor
open Go.RowKit

set_option maxRecDepth 100000 in
set_option maxHeartbeats 4000000 in
theorem symOne_go (gf : Nat) (cb : Array Value) (f : Int → Int → Int) (N : Int) (g n cap a mm b base : Nat) (hm0 : a < mm) (hm1 : mm ≤ a + 1) (r : RowF) (w : World) (eg : ∀ args w, (callFunc gf args).run Tryd.prog w = .ok (.enter gf args) w)
    (hcmp : CmpOk gf cb f N g w) (O : SWk (ltf f)) (hown : w.ownsRow base 3 1 (.slice (some ⟨g, 0, none⟩) n cap) n (rowV n r)) (hn : n ≤ 1000) (hab : a + 1 < b) (hb : b ≤ n)
    (hL : SrtF (ltf f) (a + 1) b r) (hC : CrsF a (a + 1) b r) (hrng : RngF N n r) :
    Calls Tryd.prog 119 #[.slice (some ⟨g, 0, none⟩) n cap, .int .i64 a, .int .i64 mm, .int .i64 b, .func (.func gf) #[] cb] w fun e w' => e = .returned (.tuple #[]) ∧
      ∃ r', OkF a b r r' ∧ SrtF (ltf f) a b r' ∧ w'.ownsRow base 3 1 (.slice (some ⟨g, 0, none⟩) n cap) n (rowV n r') ∧ Below g w w' := by
  have HC := Lib.hid hcmp
  have HF : Hid (∀ i, a + 1 ≤ i → i ≤ b → (i = a + 1 ∨ ltf f (r (i - 1)) (r a) = true) → (i = b ∨ ltf f (r i) (r a) = false) → OkF a b r (rotF r a (a + 1) i) ∧ SrtF (ltf f) a b (rotF r a (a + 1) i)) :=
    Lib.hid fun i h1 h2 k1 k2 => ⟨(rot_ok r (by omega) h1).widen (Nat.le_refl _) (by omega) h2, sym_one O h1 h2 hL hC k1 k2⟩
  have HR := Lib.hid hrng
  clear hcmp hL hC hrng O
  have hd1 : ((mm : Int) - (a : Int)) = 1 := by omega
  go_enter Tryd.func119, Tryd.ntmps119
  go_wp2
  go_loopw [10, 11] (fun iv jv wr => ∃ i j : Nat, a + 1 ≤ i ∧ i ≤ j ∧ j ≤ b ∧ iv = .int .i64 i ∧ jv = .int .i64 j ∧ Hid ((i = a + 1 ∨ ltf f (r (i - 1)) (r a) = true) ∧ (j = b ∨ ltf f (r j) (r a) = false)) ∧ wr.ownsRow base 3 1 (.slice (some ⟨g, 0, none⟩) n cap) n (rowV n r) ∧ Below g w wr) (fun iv jv _ => (intOf jv - intOf iv).toNat)
  case atStart => exact ⟨mm, b, by omega, by omega, by omega, rfl, rfl, Lib.hid ⟨Or.inl (by omega), Or.inl rfl⟩, hown, Below.refl _ _⟩
  case round =>
    clear hown
    obtain ⟨i, j, h1, h2, h3, rfl, rfl, HQ, hown, hbw⟩ := hrel
    by_cases hlt : i < j
    · obtain ⟨m, hm1, hm2, hm3⟩ : ∃ m : Nat, ((i : Int) + (j : Int)) / 2 = (m : Int) ∧ i ≤ m ∧ m < j := ⟨(i + j) / 2, by omega, by omega, by omega⟩
      have c1 := owns_at_tab hown (j := m) (by omega)
      have c2 := owns_at_tab hown (j := a) (by omega)
      have hgw := (owns_base hown).2
      have kD : Below g w wr.drew := hbw.drew
      have kB := Below.refl wr.drew.heap.size wr.drew
      have hv1 := HR.out m (by omega)
      have hv2 := HR.out a (by omega)
      have hcc : ∀ w', Below g w w' → Calls Tryd.prog gf (#[.int .i64 (r m), .int .i64 (r a)] ++ cb) w' fun e w'' => e = .returned (.int .i64 (f (r m) (r a))) ∧ Below w'.heap.size w' w'' := fun w' hw' => HC.out w' hw' _ _ hv1.1 hv1.2 hv2.1 hv2.2
      have HCC := Lib.hid hcc
      clear hcc hv1 hv2
      have z1 : (0 : Int) ≤ (m : Int) := by omega
      have z2 : (m : Int) < (n : Int) := by omega
      have z3 : (0 : Int) ≤ (a : Int) := by omega
      have z4 : (a : Int) < (n : Int) := by omega
      cases hlv : ltf f (r m) (r a) with
      | true =>
        have HZ : Hid (((m + 1) = a + 1 ∨ ltf f (r (m + 1 - 1)) (r a) = true) ∧ (j = b ∨ ltf f (r j) (r a) = false)) := Lib.hid ⟨Or.inr hlv, HQ.out.2⟩
        have hd : decide (f (r m) (r a) < 0) = true := hlv
        have hd2 : f (r m) (r a) < 0 := of_decide_eq_true hd
        clear hlv HQ
        generalize f (r m) (r a) = c at hd hd2 HCC
        generalize r m = x at c1 HCC
        generalize r a = y at c2 HCC HZ
        go_wp2
        go_region_held3 (fun w' => w'.cell? ⟨g, m, none⟩ = some (.int .i64 x) ∧ w'.cell? ⟨g, a, none⟩ = some (.int .i64 y))
          (first | exact ⟨c1, c2⟩ | exact ⟨(kB.cell (lt_of_cell c1)).trans c1, (kB.cell (lt_of_cell c2)).trans c2⟩)
          (first | (refine (HCC.out _ (kD.trans (kB.mono (Nat.le_of_lt hgw)))).mono ?_; rintro e wN ⟨rfl, hbN⟩; replace kB := below_next kB hbN))
        have hown2 := owns_at (w := wr.drew) hown kB
        have hb2 := kD.trans (kB.mono (Nat.le_of_lt hgw))
        clear kB kD c1 c2 hown HCC hbw hgw
        go_wp2
        go_roundw
        case rel => exact ⟨m + 1, j, by omega, by omega, by omega, by go_num, rfl, HZ, hown2, hb2⟩
        case measure => simp [intOf]; omega
      | false =>
        have HZ : Hid ((i = a + 1 ∨ ltf f (r (i - 1)) (r a) = true) ∧ (m = b ∨ ltf f (r m) (r a) = false)) := Lib.hid ⟨HQ.out.1, Or.inr hlv⟩
        have hd : decide (f (r m) (r a) < 0) = false := hlv
        have hd2 : ¬ f (r m) (r a) < 0 := of_decide_eq_false hd
        clear hlv HQ
        generalize f (r m) (r a) = c at hd hd2 HCC
        generalize r m = x at c1 HCC
        generalize r a = y at c2 HCC HZ
        go_wp2
        go_region_held3 (fun w' => w'.cell? ⟨g, m, none⟩ = some (.int .i64 x) ∧ w'.cell? ⟨g, a, none⟩ = some (.int .i64 y))
          (first | exact ⟨c1, c2⟩ | exact ⟨(kB.cell (lt_of_cell c1)).trans c1, (kB.cell (lt_of_cell c2)).trans c2⟩)
          (first | (refine (HCC.out _ (kD.trans (kB.mono (Nat.le_of_lt hgw)))).mono ?_; rintro e wN ⟨rfl, hbN⟩; replace kB := below_next kB hbN))
        have hown2 := owns_at (w := wr.drew) hown kB
        have hb2 := kD.trans (kB.mono (Nat.le_of_lt hgw))
        clear kB kD c1 c2 hown HCC hbw hgw
        go_wp2
        go_roundw
        case rel => exact ⟨i, m, by omega, by omega, by omega, rfl, rfl, HZ, hown2, hb2⟩
        case measure => simp [intOf]; omega
    · obtain rfl : j = i := by omega
      have HZ := Lib.hid (HF.out j h1 h3 HQ.out.1 HQ.out.2)
      clear HQ HF HC
      obtain ⟨wo, rfl⟩ : ∃ wo : World, wo = wr := ⟨_, rfl⟩
      obtain ⟨q, hq⟩ : ∃ q, j = q + 1 := ⟨j - 1, by omega⟩
      subst hq
      go_wp2
      go_loopw [13] (fun kv wr => ∃ k : Nat, a ≤ k ∧ k ≤ q ∧ kv = .int .i64 k ∧ wr.ownsRow base 3 1 (.slice (some ⟨g, 0, none⟩) n cap) n (rowV n (rotF r a (a + 1) (k + 1))) ∧ Below g w wr) (fun kv _ => q - (intOf kv).toNat)
      case atStart => exact ⟨a, by omega, by omega, rfl, by rw [rot_none]; exact hown, hbw⟩
      case round =>
        clear hown hbw
        obtain ⟨k, k1, k2, rfl, hown, hbw⟩ := hrel
        by_cases hkq : k < q
        · have hkq2 : (k : Int) < (q : Int) + 1 - 1 := by omega
          have c1 := owns_at_tab hown (j := k) (by omega)
          have c2 := owns_at_tab hown (j := k + 1) (by omega)
          have hf1 := hown.frozenAt k
          have hf2 := hown.frozenAt (k + 1)
          have hnew := owns_swp hown (i := k) (j := k + 1) (by omega)
          rw [← bub_up r k1] at hnew
          have HN := Lib.hid hnew
          clear hnew hown
          generalize rotF r a (a + 1) (k + 1) k = x at c1 HN
          generalize rotF r a (a + 1) (k + 1) (k + 1) = y at c2 HN
          have z1 : (0 : Int) ≤ (k : Int) + 1 := by omega
          have z2 : (k : Int) + 1 < (n : Int) := by omega
          have z3 : ((k : Int) + 1).toNat = k + 1 := by omega
          go_wp2
          go_region
          all_goals go_wp2
          all_goals exact ⟨⟨k + 1, by omega, by omega, by go_num, HN.out, ((hbw.setCell (p := ⟨g, k, none⟩) (Nat.le_refl g) _).setCell (p := ⟨g, k + 1, none⟩) (Nat.le_refl g) _).drew⟩, by simp [intOf]; omega⟩
        · obtain rfl : k = q := by omega
          have hkq2 : ¬ (k : Int) < (k : Int) + 1 - 1 := by omega
          go_wp2
          ((try simp only [Exit.inBlock, Exit.then]); refine bodyPost_ret (results_none rfl _ _ _) rfl ?_)
          exact ⟨rfl, _, HZ.out.1, HZ.out.2, hown, hbw⟩
end Go.Proofs.YtfaklhkdfpfjgaaDoor
