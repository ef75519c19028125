/- The insertion sort of a piece of a row of integers, by a comparison that is a function value. -/
import Derived.Test.YtfaklhkdfpfjgaaDoorSortW
namespace Go.Proofs.YtfaklhkdfpfjgaaDoor
open Go.RowKit

/-- What is asked of the comparison: in every world that is as w below block B it tells f x y, and turns nothing that was there. -/
def CmpOk (gf : Nat) (cb : Array Value) (f : Int → Int → Int) (N : Int) (B : Nat) (w : World) : Prop :=
  ∀ w', Below B w w' → ∀ x y : Int, 0 ≤ x → x < N → 0 ≤ y → y < N → Calls Tryd.prog gf (#[.int .i64 x, .int .i64 y] ++ cb) w' fun e w'' => e = .returned (.int .i64 (f x y)) ∧ Below w'.heap.size w' w''
theorem CmpOk.at {gf : Nat} {cb : Array Value} {f : Int → Int → Int} {N : Int} {B : Nat} {w w' : World} (h : CmpOk gf cb f N B w) (hb : Below B w w') : CmpOk gf cb f N B w' :=
  fun w'' h2 => h w'' (hb.trans h2)
def ltf (f : Int → Int → Int) (x y : Int) : Bool := decide (f x y < 0)
def RngF (N : Int) (n : Nat) (r : RowF) : Prop := ∀ t, t < n → 0 ≤ r t ∧ r t < N
theorem RngF.ok {N : Int} {n a b : Nat} {r r' : RowF} (h : RngF N n r) (k : OkF a b r r') (hb : b ≤ n) : RngF N n r' := by
  intro t ht
  rcases Nat.lt_or_ge t a with g | g
  · rw [k.out t (Or.inl g)]; exact h t ht
  · rcases Nat.lt_or_ge t b with g2 | g2
    · obtain ⟨s, h1, h2, h3⟩ := k.val g g2
      rw [h3]; exact h s (by omega)
    · rw [k.out t (Or.inr g2)]; exact h t ht

set_option maxRecDepth 100000 in
set_option maxHeartbeats 4000000 in
theorem insSort_any (gf : Nat) (cb : Array Value) (f : Int → Int → Int) (N : Int) (g n cap a b base : Nat) (r : RowF) (w : World) (eg : ∀ args w, (callFunc gf args).run Tryd.prog w = .ok (.enter gf args) w)
    (hcmp : CmpOk gf cb f N g w) (O : SWk (ltf f)) (hown : w.ownsRow base 3 1 (.slice (some ⟨g, 0, none⟩) n cap) n (rowV n r)) (hn : n ≤ 1000) (hab : a ≤ b) (hb : b ≤ n)
    (hasc : ∀ s t, a ≤ s → s < t → t < b → r s < r t) (hrng : RngF N n r) :
    Calls Tryd.prog 118 #[.slice (some ⟨g, 0, none⟩) n cap, .int .i64 a, .int .i64 b, .func (.func gf) #[] cb] w fun e w' => e = .returned (.tuple #[]) ∧
      ∃ r', OkF a b r r' ∧ SrtF (ltf f) a b r' ∧ w'.ownsRow base 3 1 (.slice (some ⟨g, 0, none⟩) n cap) n (rowV n r') ∧ Below g w w' := by
  have HC := Lib.hid hcmp
  have HA := Lib.hid hasc
  have HR := Lib.hid hrng
  have HO := Lib.hid O
  clear hcmp hasc hrng O
  go_enter Tryd.func118, Tryd.ntmps118
  go_wp2
  go_loopw [8] (fun iv wr => ∃ (i : Nat) (q : RowF), a < i ∧ i ≤ b + 1 ∧ iv = .int .i64 i ∧ Hid ((i ≤ b → OkF a i r q ∧ SrtF (ltf f) a i q) ∧ (b < i → q = r ∧ a = b)) ∧ wr.ownsRow base 3 1 (.slice (some ⟨g, 0, none⟩) n cap) n (rowV n q) ∧ Below g w wr) (fun iv _ => b + 1 - (intOf iv).toNat)
  case atStart => exact ⟨a + 1, r, by omega, by omega, by go_num, Lib.hid ⟨fun _ => ⟨OkF.refl _ _ _, fun s t hs hst ht => by omega⟩, fun h => ⟨rfl, by omega⟩⟩, hown, Below.refl _ _⟩
  case round =>
    clear hown
    obtain ⟨i, q, hai, hib, rfl, HQ, hown, hbw⟩ := hrel
    by_cases hlt : i < b
    · obtain ⟨wo, rfl⟩ : ∃ wo : World, wo = wr := ⟨_, rfl⟩
      have HQ2 := Lib.hid (HQ.out.1 (by omega))
      clear HQ
      go_wp2
      go_loopw [9] (fun jv wr => ∃ j : Nat, a ≤ j ∧ j ≤ i ∧ jv = .int .i64 j ∧ Hid (∀ t, j ≤ t → t < i → ltf f (q i) (q t) = true) ∧ wr.ownsRow base 3 1 (.slice (some ⟨g, 0, none⟩) n cap) n (rowV n (rotF q j i (i + 1))) ∧ Below g w wr) (fun jv _ => (intOf jv).toNat)
      case atStart => exact ⟨i, by omega, by omega, rfl, Lib.hid (fun t h1 h2 => by omega), by rw [rot_none']; exact hown, hbw⟩
      case round =>
        clear hown hbw
        obtain ⟨j, haj, hji, rfl, HL, hown, hbw⟩ := hrel
        have hout : (a < j → ltf f (q i) (q (j - 1)) = false) → OkF a (i + 1) r (rotF q j i (i + 1)) ∧ SrtF (ltf f) a (i + 1) (rotF q j i (i + 1)) := fun h =>
          ⟨(HQ2.out.1.widen (Nat.le_refl _) (by omega) (by omega)).trans ((rot_ok q hji (by omega)).widen haj (by omega) (Nat.le_refl _)),
            ins_sorted HO.out haj hji HQ2.out.2 (fun t h1 h2 => by
              obtain ⟨s, s1, s2, s3⟩ := HQ2.out.1.val h1 h2
              rw [s3, HQ2.out.1.out i (Or.inr (Nat.le_refl _))]
              exact HA.out s i s1 s2 hlt) HL.out h⟩
        have HOUT := Lib.hid hout
        clear hout
        by_cases hja : a < j
        · obtain ⟨p, rfl⟩ : ∃ p, j = p + 1 := ⟨j - 1, by omega⟩
          have h1 := owns_at_tab hown (j := p + 1) (by omega)
          rw [bub_down_at q hji] at h1
          have h2 := owns_at_tab hown (j := p) (by omega)
          rw [bub_down_ahead q (by omega)] at h2
          have hqr : RngF N n q := HR.out.ok HQ2.out.1 (by omega)
          have hqi := hqr i (by omega)
          have hqp := hqr p (by omega)
          have HX := Lib.hid (show (0 ≤ q i ∧ q i < N) ∧ (0 ≤ q p ∧ q p < N) from ⟨hqi, hqp⟩)
          have hgw := (owns_base hown).2
          have kD : Below g w wr.drew := hbw.drew
          have kB := Below.refl wr.drew.heap.size wr.drew
          clear hqr hqi hqp
          have hcc : ∀ w', Below g w w' → Calls Tryd.prog gf (#[.int .i64 (q i), .int .i64 (q p)] ++ cb) w' fun e w'' => e = .returned (.int .i64 (f (q i) (q p))) ∧ Below w'.heap.size w' w'' := fun w' hw' => HC.out w' hw' _ _ HX.out.1.1 HX.out.1.2 HX.out.2.1 HX.out.2.2
          have HCC := Lib.hid hcc
          clear hcc
          have hjd : decide ((p : Int) + 1 > (a : Int)) = true := by simp; omega
          have hjd2 : (a : Int) < (p : Int) + 1 := by omega
          have z1 : (0 : Int) ≤ (p : Int) + 1 := by omega
          have z2 : (p : Int) + 1 < (n : Int) := by omega
          have z3 : ((p : Int) + 1).toNat = p + 1 := by omega
          have z4 : (0 : Int) ≤ (p : Int) := by omega
          have z5 : (p : Int) < (n : Int) := by omega
          have z6 : IntKind.i64.wrap ((p : Int) + 1) = (p : Int) + 1 := IntWalk.i64_in _ (by omega)
          have z7 : IntKind.i64.wrap ((p : Int)) = (p : Int) := IntWalk.i64_in _ (by omega)
          cases hlv : ltf f (q i) (q p) with
          | true =>
            have HZ : Hid (∀ t, p ≤ t → t < i → ltf f (q i) (q t) = true) := Lib.hid fun t t1 t2 => by
              rcases Nat.lt_or_ge p t with h | h
              · exact HL.out t h t2
              · obtain rfl : t = p := by omega
                exact hlv
            have hd : decide (f (q i) (q p) < 0) = true := hlv
            have hd2 : f (q i) (q p) < 0 := of_decide_eq_true hd
            clear hlv
            generalize f (q i) (q p) = c at *
            generalize hx : q i = x at *
            generalize hy : q p = y at *
            go_wp2
            go_region_held3 (fun w' => w'.cell? ⟨g, p + 1, none⟩ = some (.int .i64 x) ∧ w'.cell? ⟨g, p, none⟩ = some (.int .i64 y))
              (first | exact ⟨h1, h2⟩ | exact ⟨(kB.cell (lt_of_cell h1)).trans h1, (kB.cell (lt_of_cell h2)).trans h2⟩)
              (first | (refine (HCC.out _ (kD.trans (kB.mono (Nat.le_of_lt hgw)))).mono ?_; rintro e wN ⟨rfl, hbN⟩; replace kB := below_next kB hbN))
            have hown2 := owns_at (w := wr.drew) hown kB
            have hb2 := kD.trans (kB.mono (Nat.le_of_lt hgw))
            clear kB kD h1 h2 hown HCC hbw hgw
            have h1 := owns_at_tab hown2 (j := p + 1) (by omega)
            rw [bub_down_at q hji, hx] at h1
            have h2 := owns_at_tab hown2 (j := p) (by omega)
            rw [bub_down_ahead q (by omega), hy] at h2
            have hf1 := hown2.frozenAt (p + 1)
            have hf2 := hown2.frozenAt p
            have hnew := owns_swp hown2 (i := p + 1) (j := p) (by omega)
            rw [← bub_down q (by omega), bub_down_at q hji, bub_down_ahead q (by omega), hx, hy] at hnew
            have HN := Lib.hid hnew
            have HX2 := Lib.hid hx
            have HY2 := Lib.hid hy
            clear hnew hown2 hx hy hd hd2
            go_wp2
            go_region
            all_goals go_wp2
            all_goals exact ⟨⟨p, by omega, by omega, by go_num, HZ, HN.out, ((hb2.setCell (p := ⟨g, p + 1, none⟩) (Nat.le_refl g) _).setCell (p := ⟨g, p, none⟩) (Nat.le_refl g) _).drew⟩, by simp [intOf]⟩
          | false =>
            have HZ := Lib.hid (HOUT.out (fun _ => hlv))
            have hd : decide (f (q i) (q p) < 0) = false := hlv
            have hd2 : ¬ f (q i) (q p) < 0 := of_decide_eq_false hd
            clear hlv
            generalize f (q i) (q p) = c at *
            generalize hx : q i = x at *
            generalize hy : q p = y at *
            go_wp2
            go_region_held3 (fun w' => w'.cell? ⟨g, p + 1, none⟩ = some (.int .i64 x) ∧ w'.cell? ⟨g, p, none⟩ = some (.int .i64 y))
              (first | exact ⟨h1, h2⟩ | exact ⟨(kB.cell (lt_of_cell h1)).trans h1, (kB.cell (lt_of_cell h2)).trans h2⟩)
              (first | (refine (HCC.out _ (kD.trans (kB.mono (Nat.le_of_lt hgw)))).mono ?_; rintro e wN ⟨rfl, hbN⟩; replace kB := below_next kB hbN))
            have hown2 := owns_at (w := wr.drew) hown kB
            have hb2 := kD.trans (kB.mono (Nat.le_of_lt hgw))
            clear kB kD h1 h2 hown HCC hbw hgw
            clear hx hy
            go_wp2
            exact ⟨⟨i + 1, _, by omega, by omega, by go_num, Lib.hid ⟨fun _ => HZ.out, fun h => by omega⟩, hown2, hb2⟩, by simp [intOf]; omega⟩
        · have hjd : decide ((j : Int) > (a : Int)) = false := by simp; omega
          have hjd2 : ¬ (a : Int) < (j : Int) := by omega
          go_wp2
          go_quiet (fail)
          go_wp2
          exact ⟨⟨i + 1, _, by omega, by omega, by go_num, Lib.hid ⟨fun _ => HOUT.out (fun h => absurd h hja), fun h => by omega⟩, hown, hbw.trans (below_drewN _ _ _)⟩, by simp [intOf]; omega⟩
    · go_wp2
      go_end0
      rcases Nat.lt_or_ge b i with h | h
      · obtain ⟨h1, h2⟩ := HQ.out.2 h
        subst h1 h2
        exact ⟨rfl, _, OkF.refl _ _ _, fun s t hs hst ht => by omega, hown, hbw⟩
      · obtain rfl : i = b := by omega
        exact ⟨rfl, _, (HQ.out.1 h).1, (HQ.out.1 h).2, hown, hbw⟩
end Go.Proofs.YtfaklhkdfpfjgaaDoor
