/- Two sorted pieces of a row that lie side by side are merged in place (SymMerge): the whole, by halves. -/
import Derived.Test.YtfaklhkdfpfjgaaDoorSortL
import Derived.Deep.DeepCutAuto
namespace Go.Proofs.YtfaklhkdfpfjgaaDoor
open Go.RowKit

/-- What merging does, for pieces of fewer than k elements together. -/
def SymSpec (gf : Nat) (cb : Array Value) (f : Int → Int → Int) (N : Int) (g n cap base k : Nat) : Prop :=
  ∀ (a m b : Nat) (r : RowF) (w : World), b - a < k → a < m → m < b → b ≤ n → CmpOk gf cb f N g w → w.ownsRow base 3 1 (.slice (some ⟨g, 0, none⟩) n cap) n (rowV n r) → SrtF (ltf f) a m r → SrtF (ltf f) m b r → CrsF a m b r → RngF N n r →
    Calls Tryd.prog 119 #[.slice (some ⟨g, 0, none⟩) n cap, .int .i64 a, .int .i64 m, .int .i64 b, .func (.func gf) #[] cb] w fun e w' => e = .returned (.tuple #[]) ∧
      ∃ r', OkF a b r r' ∧ SrtF (ltf f) a b r' ∧ w'.ownsRow base 3 1 (.slice (some ⟨g, 0, none⟩) n cap) n (rowV n r') ∧ Below g w w'

set_option maxRecDepth 100000 in
set_option maxHeartbeats 8000000 in
theorem symGen_go (gf : Nat) (cb : Array Value) (f : Int → Int → Int) (N : Int) (g n cap base k : Nat) (ih : SymSpec gf cb f N g n cap base k) (a m b mid p : Nat) (r : RowF) (w : World) (eg : ∀ args w, (callFunc gf args).run Tryd.prog w = .ok (.enter gf args) w)
    (hk : b - a ≤ k) (ham : a + 1 < m) (hmb : m + 1 < b) (hb : b ≤ n) (hn : n ≤ 1000) (hmid : ((a : Int) + (b : Int)) / 2 = (mid : Int)) (hp : (mid : Int) + (m : Int) - 1 = (p : Int))
    (hcmp : CmpOk gf cb f N g w) (O : SWk (ltf f)) (hown : w.ownsRow base 3 1 (.slice (some ⟨g, 0, none⟩) n cap) n (rowV n r)) (hL : SrtF (ltf f) a m r) (hR : SrtF (ltf f) m b r) (hC : CrsF a m b r) (hrng : RngF N n r) :
    Calls Tryd.prog 119 #[.slice (some ⟨g, 0, none⟩) n cap, .int .i64 a, .int .i64 m, .int .i64 b, .func (.func gf) #[] cb] w fun e w' => e = .returned (.tuple #[]) ∧
      ∃ r', OkF a b r r' ∧ SrtF (ltf f) a b r' ∧ w'.ownsRow base 3 1 (.slice (some ⟨g, 0, none⟩) n cap) n (rowV n r') ∧ Below g w w' := by
  have HC := Lib.hid hcmp
  have HIH := Lib.hid ih
  have hm1 : a < mid ∧ mid < b := by omega
  have HM : Hid (∀ s e, a ≤ s → s ≤ m → m ≤ e → e ≤ b → s + e = mid + m → (s = a ∨ e = b ∨ ltf f (r e) (r (s - 1)) = false) → (s = m ∨ e = m ∨ ltf f (r (e - 1)) (r s) = true) → SymMid (ltf f) a s mid e b (rotF r s m e) ∧ OkF a b r (rotF r s m e)) :=
    Lib.hid fun s e h0 h1 h2 h3 h4 k1 k2 => ⟨sym_mid O h0 h1 h2 h3 h4 hL hR hC k1 k2, (rot_ok r h1 h2).widen h0 (by omega) h3⟩
  have HR := Lib.hid hrng
  clear hcmp hL hR hC hrng O ih
  have hd0 : (((m : Int) - (a : Int)) == 1) = false := by simp; omega
  have hd1 : (((b : Int) - (m : Int)) == 1) = false := by simp; omega
  go_enter Tryd.func119, Tryd.ntmps119
  go_upto_if 140 with (fail)
  go_cut [20, 21] (fun v1 v2 wx => ∃ lo hi : Nat, a ≤ lo ∧ lo ≤ hi ∧ hi ≤ m ∧ hi ≤ mid ∧ mid + m ≤ b + lo ∧ (lo = a ∨ lo + b = mid + m) ∧ (hi = m ∨ hi = mid) ∧ v1 = .int .i64 lo ∧ v2 = .int .i64 hi ∧ w = wx)
  case first =>
    by_cases hcs : mid < m
    · have hlo : (mid : Int) + (m : Int) - (b : Int) = ((mid + m - b : Nat) : Int) := by omega
      go_wp2
      go_meet
      case rel => exact ⟨mid + m - b, mid, by omega, by omega, by omega, by omega, by omega, by omega, by omega, rfl, rfl, rfl⟩
    · go_wp2
      go_meet
      case rel => exact ⟨a, m, by omega, by omega, by omega, by omega, by omega, by omega, by omega, rfl, rfl, rfl⟩
  case rest =>
  obtain ⟨lo, hi, l1, l2, l3, l4, l5, l6, l7, rfl, rfl, rfl⟩ := hcut
  go_wp2
  go_loopw [20, 21] (fun iv jv wr => ∃ s t : Nat, lo ≤ s ∧ s ≤ t ∧ t ≤ hi ∧ iv = .int .i64 s ∧ jv = .int .i64 t ∧ Hid ((s = lo ∨ ltf f (r (mid + m - s)) (r (s - 1)) = false) ∧ (t = hi ∨ ltf f (r (mid + m - 1 - t)) (r t) = true)) ∧ wr.ownsRow base 3 1 (.slice (some ⟨g, 0, none⟩) n cap) n (rowV n r) ∧ Below g w wr) (fun iv jv _ => (intOf jv - intOf iv).toNat)
  case atStart => exact ⟨lo, hi, by omega, by omega, by omega, rfl, rfl, Lib.hid ⟨Or.inl rfl, Or.inl rfl⟩, hown, Below.refl _ _⟩
  case round =>
    clear hown
    obtain ⟨s, t, h1, h2, h3, rfl, rfl, HQ, hown, hbw⟩ := hrel
    by_cases hlt : s < t
    · obtain ⟨q, hq1, hq2, hq3⟩ : ∃ q : Nat, ((s : Int) + (t : Int)) / 2 = (q : Int) ∧ s ≤ q ∧ q < t := ⟨(s + t) / 2, by omega, by omega, by omega⟩
      obtain ⟨u, hu1, hu2, hu3⟩ : ∃ u : Nat, (p : Int) - (q : Int) = (u : Int) ∧ m ≤ u ∧ u < b := ⟨p - q, by omega, by omega, by omega⟩
      have c1 := owns_at_tab hown (j := u) (by omega)
      have c2 := owns_at_tab hown (j := q) (by omega)
      have hgw := (owns_base hown).2
      have kD : Below g w wr.drew := hbw.drew
      have kB := Below.refl wr.drew.heap.size wr.drew
      have hv1 := HR.out u (by omega)
      have hv2 := HR.out q (by omega)
      have hcc : ∀ w', Below g w w' → Calls Tryd.prog gf (#[.int .i64 (r u), .int .i64 (r q)] ++ cb) w' fun e w'' => e = .returned (.int .i64 (f (r u) (r q))) ∧ Below w'.heap.size w' w'' := fun w' hw' => HC.out w' hw' _ _ hv1.1 hv1.2 hv2.1 hv2.2
      have HCC := Lib.hid hcc
      clear hcc hv1 hv2
      have z1 : (0 : Int) ≤ (u : Int) := by omega
      have z2 : (u : Int) < (n : Int) := by omega
      have z3 : (0 : Int) ≤ (q : Int) := by omega
      have z4 : (q : Int) < (n : Int) := by omega
      have z5 : IntKind.i64.wrap ((u : Int)) = (u : Int) := IntWalk.i64_in _ (by omega)
      have z6 : IntKind.i64.wrap ((p : Int) - (q : Int)) = (u : Int) := by rw [hu1]; exact z5
      cases hlv : ltf f (r u) (r q) with
      | true => as_aux_lemma =>
        have HZ : Hid ((s = lo ∨ ltf f (r (mid + m - s)) (r (s - 1)) = false) ∧ (q = hi ∨ ltf f (r (mid + m - 1 - q)) (r q) = true)) := Lib.hid ⟨HQ.out.1, Or.inr (by rw [show mid + m - 1 - q = u by omega]; exact hlv)⟩
        have hd : decide (f (r u) (r q) < 0) = true := hlv
        have hd2 : f (r u) (r q) < 0 := of_decide_eq_true hd
        clear hlv HQ HM HIH HC HR
        generalize f (r u) (r q) = c at hd hd2 HCC
        generalize r u = x at c1 HCC
        generalize r q = y at c2 HCC
        go_wp2
        go_region_held3 (fun w' => w'.cell? ⟨g, u, none⟩ = some (.int .i64 x) ∧ w'.cell? ⟨g, q, none⟩ = some (.int .i64 y))
          (first | exact ⟨c1, c2⟩ | exact ⟨(kB.cell (lt_of_cell c1)).trans c1, (kB.cell (lt_of_cell c2)).trans c2⟩)
          (first | (refine (HCC.out _ (kD.trans (kB.mono (Nat.le_of_lt hgw)))).mono ?_; rintro e wN ⟨rfl, hbN⟩; replace kB := below_next kB hbN))
        have hown2 := owns_at (w := wr.drew) hown kB
        have hb2 := kD.trans (kB.mono (Nat.le_of_lt hgw))
        clear kB kD c1 c2 hown HCC hbw hgw z5 z6
        go_wp2
        go_roundw
        case rel => exact ⟨s, q, by omega, by omega, by omega, rfl, rfl, HZ, hown2, hb2⟩
        case measure => simp [intOf]; omega
      | false => as_aux_lemma =>
        have HZ : Hid ((q + 1 = lo ∨ ltf f (r (mid + m - (q + 1))) (r (q + 1 - 1)) = false) ∧ (t = hi ∨ ltf f (r (mid + m - 1 - t)) (r t) = true)) := Lib.hid ⟨Or.inr (by rw [show mid + m - (q + 1) = u by omega, show q + 1 - 1 = q by omega]; exact hlv), HQ.out.2⟩
        have hd : decide (f (r u) (r q) < 0) = false := hlv
        have hd2 : ¬ f (r u) (r q) < 0 := of_decide_eq_false hd
        clear hlv HQ HM HIH HC HR
        generalize f (r u) (r q) = c at hd hd2 HCC
        generalize r u = x at c1 HCC
        generalize r q = y at c2 HCC
        go_wp2
        go_region_held3 (fun w' => w'.cell? ⟨g, u, none⟩ = some (.int .i64 x) ∧ w'.cell? ⟨g, q, none⟩ = some (.int .i64 y))
          (first | exact ⟨c1, c2⟩ | exact ⟨(kB.cell (lt_of_cell c1)).trans c1, (kB.cell (lt_of_cell c2)).trans c2⟩)
          (first | (refine (HCC.out _ (kD.trans (kB.mono (Nat.le_of_lt hgw)))).mono ?_; rintro e wN ⟨rfl, hbN⟩; replace kB := below_next kB hbN))
        have hown2 := owns_at (w := wr.drew) hown kB
        have hb2 := kD.trans (kB.mono (Nat.le_of_lt hgw))
        clear kB kD c1 c2 hown HCC hbw hgw z5 z6
        go_wp2
        go_roundw
        case rel => exact ⟨q + 1, t, by omega, by omega, by omega, by go_num, rfl, HZ, hown2, hb2⟩
        case measure => simp [intOf]; omega
    · obtain rfl : t = s := by omega
      obtain ⟨e, he, he1, he2, he3⟩ : ∃ e : Nat, ((mid : Int) + (m : Int)) - (t : Int) = (e : Int) ∧ m ≤ e ∧ e ≤ b ∧ t + e = mid + m := ⟨mid + m - t, by omega, by omega, by omega, by omega⟩
      obtain ⟨hmidd, hok1⟩ := HM.out t e (by omega) (by omega) he1 he2 he3 (by
        rcases HQ.out.1 with h | h
        · rcases l6 with l6 | l6
          · exact Or.inl (by omega)
          · exact Or.inr (Or.inl (by omega))
        · exact Or.inr (Or.inr (by rw [show e = mid + m - t by omega]; exact h))) (by
        rcases HQ.out.2 with h | h
        · rcases l7 with l7 | l7
          · exact Or.inl (by omega)
          · exact Or.inr (Or.inl (by omega))
        · exact Or.inr (Or.inr (by rw [show e - 1 = mid + m - 1 - t by omega]; exact h)))
      have HD := Lib.hid hmidd
      have HK := Lib.hid hok1
      have hrot : ¬ (t < m ∧ m < e) → rotF r t m e = r := fun h => by
        rcases Nat.lt_or_ge t m with h1 | h1
        · obtain rfl : m = e := by omega
          exact rot_none _ _ _
        · obtain rfl : t = m := by omega
          exact rot_none' _ _ _
      have HT := Lib.hid hrot
      have hRn := HR.out
      clear hmidd hok1 hrot HQ HM

      have hrot2 := HT.out
      go_upto_region 39 with (fail)
      go_cut [185] (fun v wx => v = .bool (decide (t < m ∧ m < e)) ∧ wx = wr)
      case first => as_aux_lemma =>
        rcases Nat.lt_or_ge t m with x1 | x1
        · rcases Nat.lt_or_ge m e with x2 | x2
          · go_wp2
            go_meet
            case rel => exact ⟨by simp [x1, x2], rfl⟩
          · have x3 : ¬ (m : Int) < (e : Int) := by omega
            go_wp2
            go_meet
            case rel => exact ⟨by simp; omega, rfl⟩
        · have x3 : ¬ (t : Int) < (m : Int) := by omega
          go_wp2
          go_meet
          case rel => exact ⟨by simp; omega, rfl⟩
      case rest => as_aux_lemma =>
        obtain ⟨rfl, rfl⟩ := hcut
        go_upto_if 185 with (fail)
        go_cut [] (fun wx => wx.ownsRow base 3 1 (.slice (some ⟨g, 0, none⟩) n cap) n (rowV n (rotF r t m e)) ∧ Below g w wx)
        case first => as_aux_lemma =>
          by_cases hc1 : t < m ∧ m < e
          · have hd2 : decide (t < m ∧ m < e) = true := by simp [hc1]
            go_wp2_with fail
            refine (rotate_any g n cap t m e base r _ _ hown hn hc1.1 hc1.2 (by omega)).mono ?_
            rintro e1 w1 ⟨rfl, hown1, hb1⟩
            go_wp2
            go_meet
            case rel => exact ⟨hown1, hbw.trans hb1⟩
          · have hd2 : decide (t < m ∧ m < e) = false := by simp only [decide_eq_false_iff_not]; exact hc1
            have hr1 := HT.out hc1
            go_wp2
            go_meet
            case rel => exact ⟨by rw [HT.out hc1]; exact hown, hbw⟩
        case rest => as_aux_lemma =>
          obtain ⟨hown1, hbw1⟩ := hcut
          clear hown hbw HT
          generalize hr1 : rotF r t m e = r1 at *
          clear hr1
          have hR1 : RngF N n r1 := RngF.ok hRn HK.out hb
          go_upto_region 41 with (fail)
          go_cut [199] (fun v wx => v = .bool (decide (a < t ∧ t < mid)) ∧ wx = wc)
          case first => as_aux_lemma =>
            rcases Nat.lt_or_ge a t with x1 | x1
            · rcases Nat.lt_or_ge t mid with x2 | x2
              · go_wp2
                go_meet
                case rel => exact ⟨by simp [x1, x2], rfl⟩
              · have x3 : ¬ (t : Int) < (mid : Int) := by omega
                go_wp2
                go_meet
                case rel => exact ⟨by simp; omega, rfl⟩
            · have x3 : ¬ (a : Int) < (t : Int) := by omega
              go_wp2
              go_meet
              case rel => exact ⟨by simp; omega, rfl⟩
          case rest => as_aux_lemma =>
            obtain ⟨rfl, rfl⟩ := hcut
            go_upto_if 199 with (fail)
            go_cut [] (fun wx => ∃ r2, Hid (OkF a mid r1 r2 ∧ SrtF (ltf f) a mid r2) ∧ wx.ownsRow base 3 1 (.slice (some ⟨g, 0, none⟩) n cap) n (rowV n r2) ∧ Below g w wx)
            case first => as_aux_lemma =>
              by_cases hc1 : a < t ∧ t < mid
              · have hd2 : decide (a < t ∧ t < mid) = true := by simp [hc1]
                go_wp2_with fail
                refine (HIH.out a t mid r1 _ (by omega) hc1.1 hc1.2 (by omega) (CmpOk.at HC.out hbw1) hown1 HD.out.sL HD.out.sM HD.out.cL hR1).mono ?_
                rintro e1 w1 ⟨rfl, r2, ho2, hs2, hown2, hb2⟩
                have HX := Lib.hid (show OkF a mid r1 r2 ∧ SrtF (ltf f) a mid r2 from ⟨ho2, hs2⟩)
                clear ho2 hs2
                go_wp2
                go_meet
                case rel => exact ⟨r2, HX, hown2, hbw1.trans hb2⟩
              · have hd2 : decide (a < t ∧ t < mid) = false := by simp only [decide_eq_false_iff_not]; exact hc1
                have HX := Lib.hid (show OkF a mid r1 r1 ∧ SrtF (ltf f) a mid r1 from ⟨OkF.refl _ _ _, srt_none (by omega) HD.out.sL HD.out.sM⟩)
                go_wp2
                go_meet
                case rel => exact ⟨r1, HX, hown1, hbw1⟩
            case rest => as_aux_lemma =>
              obtain ⟨r2, HX, hown2, hbw2⟩ := hcut
              clear hown1 hbw1
              have hR2 : RngF N n r2 := RngF.ok hR1 HX.out.1 (by omega)
              clear hR1
              have hsN := srt_out HD.out.sN HX.out.1 (Or.inr (Nat.le_refl _))
              have hsR := srt_out HD.out.sR HX.out.1 (Or.inr (by omega))
              have hcR := crs_out HD.out.cR HX.out.1 (Or.inr (Nat.le_refl _))
              have HS := Lib.hid (show SrtF (ltf f) mid e r2 ∧ SrtF (ltf f) e b r2 ∧ CrsF mid e b r2 from ⟨hsN, hsR, hcR⟩)
              clear hsN hsR hcR
              have hfin : ∀ r3, OkF mid b r2 r3 → SrtF (ltf f) mid b r3 → OkF a b r r3 ∧ SrtF (ltf f) a b r3 := fun r3 o3 s3 => by
                have := sym_join (Nat.le_of_lt hm1.1) (Nat.le_of_lt hm1.2) HD.out.halves HX.out.1 HX.out.2 o3 s3
                exact ⟨HK.out.trans this.2, this.1⟩
              have HFIN := Lib.hid hfin
              clear hfin
              by_cases hc1 : mid < e ∧ e < b
              · have x1 : (mid : Int) < (e : Int) := by omega
                have x2 : (e : Int) < (b : Int) := by omega
                go_wp2_with fail
                refine (HIH.out mid e b r2 _ (by omega) hc1.1 hc1.2 hb (CmpOk.at HC.out hbw2) hown2 HS.out.1 HS.out.2.1 HS.out.2.2 hR2).mono ?_
                rintro e1 w1 ⟨rfl, r3, ho3, hs3, hown3, hb3⟩
                have HX3 := Lib.hid (HFIN.out r3 ho3 hs3)
                clear ho3 hs3
                go_wp2
                go_end0
                exact ⟨rfl, r3, HX3.out.1, HX3.out.2, hown3, hbw2.trans hb3⟩
              · have HX3 := Lib.hid (HFIN.out r2 (OkF.refl _ _ _) (srt_none (by omega) HS.out.1 HS.out.2.1))
                rcases Nat.lt_or_ge mid e with x1 | x1
                · have x2 : ¬ (e : Int) < (b : Int) := by omega
                  go_wp2
                  go_end0
                  exact ⟨rfl, r2, HX3.out.1, HX3.out.2, hown2, hbw2⟩
                · have x2 : ¬ (mid : Int) < (e : Int) := by omega
                  go_wp2
                  go_end0
                  exact ⟨rfl, r2, HX3.out.1, HX3.out.2, hown2, hbw2⟩
end Go.Proofs.YtfaklhkdfpfjgaaDoor
