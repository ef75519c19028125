/- Two sorted pieces of a row that lie side by side are merged in place (SymMerge): the second is one element. -/
import Derived.Test.YtfaklhkdfpfjgaaDoorSortS
namespace Go.Proofs.YtfaklhkdfpfjgaaDoor
open Go.RowKit

set_option maxRecDepth 100000 in
set_option maxHeartbeats 4000000 in
theorem symLast_go (gf : Nat) (cb : Array Value) (f : Int → Int → Int) (N : Int) (g n cap a m bb base : Nat) (hb0 : m < bb) (hb1 : bb ≤ m + 1) (r : RowF) (w : World) (eg : ∀ args w, (callFunc gf args).run Tryd.prog w = .ok (.enter gf args) w)
    (hcmp : CmpOk gf cb f N g w) (O : SWk (ltf f)) (hown : w.ownsRow base 3 1 (.slice (some ⟨g, 0, none⟩) n cap) n (rowV n r)) (hn : n ≤ 1000) (hab : a + 1 < m) (hb : bb ≤ n)
    (hL : SrtF (ltf f) a m r) (hC : CrsF a m (m + 1) r) (hrng : RngF N n r) :
    Calls Tryd.prog 119 #[.slice (some ⟨g, 0, none⟩) n cap, .int .i64 a, .int .i64 m, .int .i64 bb, .func (.func gf) #[] cb] w fun e w' => e = .returned (.tuple #[]) ∧
      ∃ r', OkF a (m + 1) r r' ∧ SrtF (ltf f) a (m + 1) r' ∧ w'.ownsRow base 3 1 (.slice (some ⟨g, 0, none⟩) n cap) n (rowV n r') ∧ Below g w w' := by
  have HC := Lib.hid hcmp
  have HF : Hid (∀ i, a ≤ i → i ≤ m → (i = a ∨ ltf f (r m) (r (i - 1)) = false) → (i = m ∨ ltf f (r m) (r i) = true) → OkF a (m + 1) r (rotF r i m (m + 1)) ∧ SrtF (ltf f) a (m + 1) (rotF r i m (m + 1))) :=
    Lib.hid fun i h1 h2 k1 k2 => ⟨(rot_ok r h2 (by omega)).widen h1 (by omega) (Nat.le_refl _), sym_last O h1 h2 hL hC k1 k2⟩
  have HR := Lib.hid hrng
  clear hcmp hL hC hrng O
  have hd1 : ((bb : Int) - (m : Int)) = 1 := by omega
  have hd0 : (((m : Int) - (a : Int)) == 1) = false := by simp; omega
  go_enter Tryd.func119, Tryd.ntmps119
  go_wp2
  go_loopw [14, 15] (fun iv jv wr => ∃ i j : Nat, a ≤ i ∧ i ≤ j ∧ j ≤ m ∧ iv = .int .i64 i ∧ jv = .int .i64 j ∧ Hid ((i = a ∨ ltf f (r m) (r (i - 1)) = false) ∧ (j = m ∨ ltf f (r m) (r j) = true)) ∧ wr.ownsRow base 3 1 (.slice (some ⟨g, 0, none⟩) n cap) n (rowV n r) ∧ Below g w wr) (fun iv jv _ => (intOf jv - intOf iv).toNat)
  case atStart => exact ⟨a, m, by omega, by omega, by omega, rfl, rfl, Lib.hid ⟨Or.inl rfl, Or.inl rfl⟩, hown, Below.refl _ _⟩
  case round =>
    clear hown
    obtain ⟨i, j, h1, h2, h3, rfl, rfl, HQ, hown, hbw⟩ := hrel
    by_cases hlt : i < j
    · obtain ⟨q, hm1, hm2, hm3⟩ : ∃ q : Nat, ((i : Int) + (j : Int)) / 2 = (q : Int) ∧ i ≤ q ∧ q < j := ⟨(i + j) / 2, by omega, by omega, by omega⟩
      have c1 := owns_at_tab hown (j := m) (by omega)
      have c2 := owns_at_tab hown (j := q) (by omega)
      have hgw := (owns_base hown).2
      have kD : Below g w wr.drew := hbw.drew
      have kB := Below.refl wr.drew.heap.size wr.drew
      have hv1 := HR.out m (by omega)
      have hv2 := HR.out q (by omega)
      have hcc : ∀ w', Below g w w' → Calls Tryd.prog gf (#[.int .i64 (r m), .int .i64 (r q)] ++ cb) w' fun e w'' => e = .returned (.int .i64 (f (r m) (r q))) ∧ Below w'.heap.size w' w'' := fun w' hw' => HC.out w' hw' _ _ hv1.1 hv1.2 hv2.1 hv2.2
      have HCC := Lib.hid hcc
      clear hcc hv1 hv2
      have z1 : (0 : Int) ≤ (m : Int) := by omega
      have z2 : (m : Int) < (n : Int) := by omega
      have z3 : (0 : Int) ≤ (q : Int) := by omega
      have z4 : (q : Int) < (n : Int) := by omega
      cases hlv : ltf f (r m) (r q) with
      | true =>
        have HZ : Hid ((i = a ∨ ltf f (r m) (r (i - 1)) = false) ∧ (q = m ∨ ltf f (r m) (r q) = true)) := Lib.hid ⟨HQ.out.1, Or.inr hlv⟩
        have hd : decide (f (r m) (r q) < 0) = true := hlv
        have hd2 : f (r m) (r q) < 0 := of_decide_eq_true hd
        clear hlv HQ
        generalize f (r m) (r q) = c at hd hd2 HCC
        generalize r m = x at c1 HCC HZ
        generalize r q = y at c2 HCC
        go_wp2
        go_region_held3 (fun w' => w'.cell? ⟨g, m, none⟩ = some (.int .i64 x) ∧ w'.cell? ⟨g, q, none⟩ = some (.int .i64 y))
          (first | exact ⟨c1, c2⟩ | exact ⟨(kB.cell (lt_of_cell c1)).trans c1, (kB.cell (lt_of_cell c2)).trans c2⟩)
          (first | (refine (HCC.out _ (kD.trans (kB.mono (Nat.le_of_lt hgw)))).mono ?_; rintro e wN ⟨rfl, hbN⟩; replace kB := below_next kB hbN))
        have hown2 := owns_at (w := wr.drew) hown kB
        have hb2 := kD.trans (kB.mono (Nat.le_of_lt hgw))
        clear kB kD c1 c2 hown HCC hbw hgw
        go_wp2
        go_roundw
        case rel => exact ⟨i, q, by omega, by omega, by omega, rfl, rfl, HZ, hown2, hb2⟩
        case measure => simp [intOf]; omega
      | false =>
        have HZ : Hid ((q + 1 = a ∨ ltf f (r m) (r (q + 1 - 1)) = false) ∧ (j = m ∨ ltf f (r m) (r j) = true)) := Lib.hid ⟨Or.inr hlv, HQ.out.2⟩
        have hd : decide (f (r m) (r q) < 0) = false := hlv
        have hd2 : ¬ f (r m) (r q) < 0 := of_decide_eq_false hd
        clear hlv HQ
        generalize f (r m) (r q) = c at hd hd2 HCC
        generalize r m = x at c1 HCC HZ
        generalize r q = y at c2 HCC
        go_wp2
        go_region_held3 (fun w' => w'.cell? ⟨g, m, none⟩ = some (.int .i64 x) ∧ w'.cell? ⟨g, q, none⟩ = some (.int .i64 y))
          (first | exact ⟨c1, c2⟩ | exact ⟨(kB.cell (lt_of_cell c1)).trans c1, (kB.cell (lt_of_cell c2)).trans c2⟩)
          (first | (refine (HCC.out _ (kD.trans (kB.mono (Nat.le_of_lt hgw)))).mono ?_; rintro e wN ⟨rfl, hbN⟩; replace kB := below_next kB hbN))
        have hown2 := owns_at (w := wr.drew) hown kB
        have hb2 := kD.trans (kB.mono (Nat.le_of_lt hgw))
        clear kB kD c1 c2 hown HCC hbw hgw
        go_wp2
        go_roundw
        case rel => exact ⟨q + 1, j, by omega, by omega, by omega, by go_num, rfl, HZ, hown2, hb2⟩
        case measure => simp [intOf]; omega
    · obtain rfl : j = i := by omega
      have HZ := Lib.hid (HF.out j h1 h3 HQ.out.1 HQ.out.2)
      clear HQ HF HC
      obtain ⟨wo, rfl⟩ : ∃ wo : World, wo = wr := ⟨_, rfl⟩
      go_wp2
      go_loopw [17] (fun kv wr => ∃ k : Nat, j ≤ k ∧ k ≤ m ∧ kv = .int .i64 k ∧ wr.ownsRow base 3 1 (.slice (some ⟨g, 0, none⟩) n cap) n (rowV n (rotF r k m (m + 1))) ∧ Below g w wr) (fun kv _ => (intOf kv).toNat)
      case atStart => exact ⟨m, by omega, by omega, rfl, by rw [rot_none']; exact hown, hbw⟩
      case round =>
        clear hown hbw
        obtain ⟨k, k1, k2, rfl, hown, hbw⟩ := hrel
        by_cases hkq : j < k
        · obtain ⟨p, rfl⟩ : ∃ p, k = p + 1 := ⟨k - 1, by omega⟩
          have c1 := owns_at_tab hown (j := p + 1) (by omega)
          have c2 := owns_at_tab hown (j := p) (by omega)
          have hf1 := hown.frozenAt (p + 1)
          have hf2 := hown.frozenAt p
          have hnew := owns_swp hown (i := p + 1) (j := p) (by omega)
          rw [← bub_down r k2] at hnew
          have HN := Lib.hid hnew
          clear hnew hown
          generalize rotF r (p + 1) m (m + 1) (p + 1) = x at c1 HN
          generalize rotF r (p + 1) m (m + 1) p = y at c2 HN
          have z1 : (0 : Int) ≤ (p : Int) + 1 := by omega
          have z2 : (p : Int) + 1 < (n : Int) := by omega
          have z3 : ((p : Int) + 1).toNat = p + 1 := by omega
          have z4 : (0 : Int) ≤ (p : Int) := by omega
          have z5 : (p : Int) < (n : Int) := by omega
          have z6 : (j : Int) < (p : Int) + 1 := by omega
          go_wp2
          go_region
          all_goals go_wp2
          all_goals exact ⟨⟨p, by omega, by omega, by go_num, HN.out, ((hbw.setCell (p := ⟨g, p + 1, none⟩) (Nat.le_refl g) _).setCell (p := ⟨g, p, none⟩) (Nat.le_refl g) _).drew⟩, by simp [intOf]⟩
        · obtain rfl : k = j := by omega
          go_wp2
          ((try simp only [Exit.inBlock, Exit.then]); refine bodyPost_ret (results_none rfl _ _ _) rfl ?_)
          exact ⟨rfl, _, HZ.out.1, HZ.out.2, hown, hbw⟩
end Go.Proofs.YtfaklhkdfpfjgaaDoor
