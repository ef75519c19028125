/- The stable sort of integers: slices.SortStableFunc orders an ascending row of numbers by the comparison, of like ones the smaller number first. -/
import Derived.Test.YtfaklhkdfpfjgaaDoorSortG
namespace Go.Proofs.YtfaklhkdfpfjgaaDoor
open Go.RowKit

theorem sym_any (gf : Nat) (cb : Array Value) (f : Int → Int → Int) (N : Int) (g n cap base : Nat) (eg : ∀ args w, (callFunc gf args).run Tryd.prog w = .ok (.enter gf args) w) (O : SWk (ltf f)) (hn : n ≤ 1000) : ∀ k, SymSpec gf cb f N g n cap base k := by
  intro k
  induction k with
  | zero => intro a m b r w hk; omega
  | succ k ih =>
    intro a m b r w hk ham hmb hb hcmp hown hL hR hC hrng
    by_cases h1 : m = a + 1
    · subst h1
      exact symOne_go gf cb f N g n cap a (a + 1) b base (by omega) (by omega) r w eg hcmp O hown hn hmb hb hR hC hrng
    · by_cases h2 : b = m + 1
      · subst h2
        exact symLast_go gf cb f N g n cap a m (m + 1) base (by omega) (by omega) r w eg hcmp O hown hn (by omega) hb hL hC hrng
      · exact symGen_go gf cb f N g n cap base k ih a m b ((a + b) / 2) ((a + b) / 2 + m - 1) r w eg (by omega) (by omega) (by omega) hb hn (by omega) (by omega) hcmp O hown hL hR hC hrng

set_option maxRecDepth 100000 in
set_option maxHeartbeats 4000000 in
theorem stable_go (gf : Nat) (cb : Array Value) (f : Int → Int → Int) (N : Int) (g n cap base : Nat) (r : RowF) (w : World) (eg : ∀ args w, (callFunc gf args).run Tryd.prog w = .ok (.enter gf args) w)
    (hcmp : CmpOk gf cb f N g w) (O : SWk (ltf f)) (hown : w.ownsRow base 3 1 (.slice (some ⟨g, 0, none⟩) n cap) n (rowV n r)) (hn : n ≤ 1000) (hrng : RngF N n r) (hasc : ∀ s t, s < t → t < n → r s < r t) :
    Calls Tryd.prog 108 #[.slice (some ⟨g, 0, none⟩) n cap, .int .i64 n, .func (.func gf) #[] cb] w fun e w' => e = .returned (.tuple #[]) ∧
      ∃ r', OkF 0 n r r' ∧ SrtF (ltf f) 0 n r' ∧ w'.ownsRow base 3 1 (.slice (some ⟨g, 0, none⟩) n cap) n (rowV n r') ∧ Below g w w' := by
  have HC := Lib.hid hcmp
  have HR := Lib.hid hrng
  have HO := Lib.hid O
  have HA := Lib.hid hasc
  clear hcmp hrng O hasc
  go_enter Tryd.func108, Tryd.ntmps108
  go_wp2_with fail
  go_loopw [7, 8] (fun av bv wr => ∃ (a b c : Nat) (q : RowF), a ≤ n ∧ b = a + 20 ∧ av = .int .i64 a ∧ bv = .int .i64 b ∧ Hid (a = c * 20 ∧ FstF (ltf f) n 20 a q ∧ OkF 0 n r q) ∧ wr.ownsRow base 3 1 (.slice (some ⟨g, 0, none⟩) n cap) n (rowV n q) ∧ Below g w wr) (fun av _ _ => n - (intOf av).toNat)
  case atStart => exact ⟨0, 20, 0, r, by omega, rfl, rfl, rfl, Lib.hid ⟨rfl, fst_start HA.out, OkF.refl _ _ _⟩, hown, Below.refl _ _⟩
  case round =>
    clear hown
    obtain ⟨a, b, c, q, hc, hbq, rfl, rfl, HQ, hown, hbw⟩ := hrel
    have hb1 : a + 20 ≤ b := by omega
    have hb2 : b ≤ a + 20 := by omega
    clear hbq
    have HRq : Hid (RngF N n q) := Lib.hid (RngF.ok HR.out HQ.out.2.2 (Nat.le_refl _))
    by_cases hlt : b ≤ n
    · go_wp2_with fail
      refine (insSort_any gf cb f N g n cap a b base q _ eg (CmpOk.at HC.out hbw) HO.out hown hn (by omega) hlt (fst_asc HQ.out.2.1 hlt) HRq.out).mono ?_
      rintro e w1 ⟨rfl, q1, ho1, hs1, hown1, hbw1⟩
      have HZ : Hid (b = (c + 1) * 20 ∧ FstF (ltf f) n 20 b q1 ∧ OkF 0 n r q1) := Lib.hid ⟨by have := HQ.out.1; omega, fst_step (by omega) HQ.out.1 hlt (by omega) hb2 (Or.inl (by omega)) HQ.out.2.1 ho1 hs1, HQ.out.2.2.trans (ho1.widen (Nat.zero_le _) (by omega) hlt)⟩
      clear ho1 hs1 hown HQ HRq
      have hbb := hbw.trans hbw1
      clear hbw hbw1
      go_wp2
      go_roundw
      case rel => exact ⟨b, b + 20, c + 1, q1, hlt, rfl, rfl, by go_num, HZ, hown1, hbb⟩
      case measure => simp [intOf]; omega
    · obtain ⟨wo, rfl⟩ : ∃ wo : World, wo = wr := ⟨_, rfl⟩
      go_wp2_with fail
      refine (insSort_any gf cb f N g n cap a n base q _ eg (CmpOk.at HC.out hbw) HO.out hown hn hc (Nat.le_refl _) (fst_asc HQ.out.2.1 (Nat.le_refl _)) HRq.out).mono ?_
      rintro e w1 ⟨rfl, q1, ho1, hs1, hown1, hbw1⟩
      have HZ : Hid (RunsF (ltf f) n 20 q1 ∧ OkF 0 n r q1) := Lib.hid ⟨fst_end (fst_step (by omega) HQ.out.1 (Nat.le_refl _) hc (by omega) (Or.inr rfl) HQ.out.2.1 ho1 hs1), HQ.out.2.2.trans (ho1.widen (Nat.zero_le _) hc (Nat.le_refl _))⟩
      clear ho1 hs1 hown HQ HRq
      have hbb := hbw.trans hbw1
      clear hbw hbw1
      go_wp2_with fail
      go_loopw [6] (fun sv wr => ∃ (bs : Nat) (q : RowF), 20 ≤ bs ∧ sv = .int .i64 bs ∧ Hid (RunsF (ltf f) n bs q ∧ OkF 0 n r q) ∧ wr.ownsRow base 3 1 (.slice (some ⟨g, 0, none⟩) n cap) n (rowV n q) ∧ Below g w wr) (fun sv _ => n - (intOf sv).toNat)
      case atStart => exact ⟨20, q1, by omega, rfl, HZ, hown1, hbb⟩
      case round =>
        clear hown1 hbb HZ
        obtain ⟨bs, q, hbs, rfl, HQ, hown, hbw⟩ := hrel
        by_cases hbn : bs < n
        · obtain ⟨d, hd⟩ : ∃ d : Nat, d = 2 * bs := ⟨_, rfl⟩
          have e1 : (2 : Int) * (bs : Int) = (d : Int) := by omega
          have e2 : (bs : Int) * 2 = (d : Int) := by omega
          have HD := Lib.hid hd
          have hd1 : 2 * bs ≤ d := by omega
          have hd2 : d ≤ 2 * bs := by omega
          clear hd
          have HH : Hid (HalfF (ltf f) n bs 0 q ∧ OkF 0 n r q) := Lib.hid ⟨half_start HQ.out.1, HQ.out.2⟩
          clear HQ
          obtain ⟨wo2, rfl⟩ : ∃ wo2 : World, wo2 = wr := ⟨_, rfl⟩
          go_wp2_with fail
          go_loopw [7, 8] (fun av bv wr => ∃ (a b c : Nat) (q : RowF), a ≤ n ∧ b = a + d ∧ av = .int .i64 a ∧ bv = .int .i64 b ∧ Hid (a = c * (2 * bs) ∧ HalfF (ltf f) n bs a q ∧ OkF 0 n r q) ∧ wr.ownsRow base 3 1 (.slice (some ⟨g, 0, none⟩) n cap) n (rowV n q) ∧ Below g w wr) (fun av _ _ => n - (intOf av).toNat)
          case atStart => exact ⟨0, d, 0, q, by omega, by omega, rfl, rfl, Lib.hid ⟨by omega, HH.out⟩, hown, hbw⟩
          case round =>
            clear hown hbw HH
            obtain ⟨a, b, c, q, hc, hbq, rfl, rfl, HQ, hown, hbw⟩ := hrel
            have hb1 : a + d ≤ b := by omega
            have hb2 : b ≤ a + d := by omega
            clear hbq
            have HRq : Hid (RngF N n q) := Lib.hid (RngF.ok HR.out HQ.out.2.2 (Nat.le_refl _))
            by_cases hlt : b ≤ n
            · obtain ⟨p1, p2, p3⟩ := half_pre (by omega) HQ.out.1 hlt (by omega) (by omega) HQ.out.2.1
              have HP := Lib.hid (show SrtF (ltf f) a (a + bs) q ∧ SrtF (ltf f) (a + bs) b q ∧ CrsF a (a + bs) b q from ⟨p1, p2, p3⟩)
              clear p1 p2 p3
              go_wp2_with fail
              refine (sym_any gf cb f N g n cap base eg HO.out hn (n + 1) a (a + bs) b q _ (by omega) (by omega) (by omega) hlt (CmpOk.at HC.out hbw) hown HP.out.1 HP.out.2.1 HP.out.2.2 HRq.out).mono ?_
              rintro e w2 ⟨rfl, q2, ho1, hs1, hown2, hbw2⟩
              have HZ : Hid (b = (c + 1) * (2 * bs) ∧ HalfF (ltf f) n bs b q2 ∧ OkF 0 n r q2) := Lib.hid ⟨by have := HQ.out.1; rw [Nat.add_mul, Nat.one_mul]; omega, half_step (by omega) HQ.out.1 hlt (by omega) (by omega) (Or.inl (by omega)) HQ.out.2.1 ho1 hs1, HQ.out.2.2.trans (ho1.widen (Nat.zero_le _) (by omega) hlt)⟩
              clear ho1 hs1 hown HQ HRq HP
              have hbb := hbw.trans hbw2
              clear hbw hbw2
              go_wp2
              go_roundw
              case rel => exact ⟨b, b + d, c + 1, q2, hlt, rfl, rfl, by go_num, HZ, hown2, hbb⟩
              case measure => simp [intOf]; omega
            · by_cases hm : a + bs < n
              · obtain ⟨p1, p2, p3⟩ := half_pre (by omega) HQ.out.1 (Nat.le_refl n) hm (by omega) HQ.out.2.1
                have HP := Lib.hid (show SrtF (ltf f) a (a + bs) q ∧ SrtF (ltf f) (a + bs) n q ∧ CrsF a (a + bs) n q from ⟨p1, p2, p3⟩)
                clear p1 p2 p3
                go_wp2_with fail
                refine (sym_any gf cb f N g n cap base eg HO.out hn (n + 1) a (a + bs) n q _ (by omega) (by omega) hm (Nat.le_refl _) (CmpOk.at HC.out hbw) hown HP.out.1 HP.out.2.1 HP.out.2.2 HRq.out).mono ?_
                rintro e w2 ⟨rfl, q2, ho1, hs1, hown2, hbw2⟩
                have HZ : Hid (RunsF (ltf f) n d q2 ∧ OkF 0 n r q2) := Lib.hid ⟨by rw [HD.out]; exact half_end (half_step (by omega) HQ.out.1 (Nat.le_refl _) hc (by omega) (Or.inr rfl) HQ.out.2.1 ho1 hs1), HQ.out.2.2.trans (ho1.widen (Nat.zero_le _) hc (Nat.le_refl _))⟩
                clear ho1 hs1 hown HQ HRq HP
                have hbb := hbw.trans hbw2
                clear hbw hbw2
                go_wp2
                go_roundw
                case rel => exact ⟨d, q2, by omega, rfl, HZ, hown2, hbb⟩
                case measure => simp [intOf]; omega
              · have HZ : Hid (RunsF (ltf f) n d q ∧ OkF 0 n r q) := Lib.hid ⟨by rw [HD.out]; exact half_rest (by omega) HQ.out.1 hc (by omega) HQ.out.2.1, HQ.out.2.2⟩
                clear HQ HRq
                go_wp2
                go_roundw
                case rel => exact ⟨d, q, by omega, rfl, HZ, hown, hbw⟩
                case measure => simp [intOf]; omega
        · have HZ := Lib.hid (runs_end (by omega) HQ.out.1)
          go_wp2
          go_end0
          exact ⟨rfl, q, HQ.out.2, HZ.out, hown, hbw⟩

/-- slices.SortStableFunc at an ascending row of numbers of the call's own. -/
theorem sortStable_any (gf : Nat) (cb : Array Value) (f : Int → Int → Int) (N : Int) (g n cap base : Nat) (r : RowF) (w : World) (eg : ∀ args w, (callFunc gf args).run Tryd.prog w = .ok (.enter gf args) w)
    (hcmp : CmpOk gf cb f N g w) (O : SWk (ltf f)) (hown : w.ownsRow base 3 1 (.slice (some ⟨g, 0, none⟩) n cap) n (rowV n r)) (hn : n ≤ 1000) (hrng : RngF N n r) (hasc : ∀ s t, s < t → t < n → r s < r t) :
    Calls Tryd.prog 78 #[.slice (some ⟨g, 0, none⟩) n cap, .func (.func gf) #[] cb] w fun e w' => e = .returned (.tuple #[]) ∧
      ∃ r', OkF 0 n r r' ∧ SrtF (ltf f) 0 n r' ∧ w'.ownsRow base 3 1 (.slice (some ⟨g, 0, none⟩) n cap) n (rowV n r') ∧ Below g w w' := by
  have HC := Lib.hid hcmp
  have HR := Lib.hid hrng
  have HO := Lib.hid O
  have HA := Lib.hid hasc
  clear hcmp hrng O hasc
  go_enter Tryd.func78, Tryd.ntmps78
  go_wp2_with fail
  refine (stable_go gf cb f N g n cap base r _ eg HC.out HO.out hown hn HR.out HA.out).mono ?_
  rintro e w1 ⟨rfl, q1, ho1, hs1, hown1, hbw1⟩
  have HZ := Lib.hid (show OkF 0 n r q1 ∧ SrtF (ltf f) 0 n q1 from ⟨ho1, hs1⟩)
  clear ho1 hs1
  go_wp2
  go_end0
  exact ⟨rfl, q1, HZ.out.1, HZ.out.2, hown1, hbw1⟩
end Go.Proofs.YtfaklhkdfpfjgaaDoor
