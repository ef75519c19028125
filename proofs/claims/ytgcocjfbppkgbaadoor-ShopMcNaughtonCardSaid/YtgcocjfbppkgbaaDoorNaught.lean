/- McNaughton's plan: shop.McNaughton. -/
import Derived.Test.YtgcocjfbppkgbaaDoorNaughtM
import Derived.Test.YtgcocjfbppkgbaaDoorRow
namespace Go.Proofs.YtgcocjfbppkgbaaDoor
open Go.RowKit
theorem rowP : RowOf Tryd.prog 56 121 (.agg #[.int .i64 0, .int .i64 0, .int .i64 0, .int .i64 0]) 4 32 := rowOf Tryd.underlying56 (by kernel_rfl) rfl (by decide)

theorem endM_bound {xs : List Int} {m : Int} (h : lenErr xs m = 0) : 0 ≤ endM xs m ∧ endM xs m ≤ 61000000000 ∧ ∀ j (hj : j < xs.length), xs[j] ≤ endM xs m := by
  obtain ⟨h1, h2, h3, h4⟩ := len_ok h
  obtain ⟨a1, a2, a3⟩ := mostTo_bound h4 xs.length (Nat.le_refl _)
  obtain ⟨b1, b2⟩ := sumTo_bound h4 xs.length (Nat.le_refl _)
  have b3 : (sumTo xs xs.length + m - 1) / m ≤ sumTo xs xs.length + m - 1 := Int.ediv_le_self _ (by omega)
  have b4 : 0 ≤ (sumTo xs xs.length + m - 1) / m := Int.ediv_nonneg (by omega) (by omega)
  unfold endM
  refine ⟨by omega, by omega, fun j hj => ?_⟩
  have := a3 j hj hj
  omega
theorem q_le {E q r p : Int} (hE : 1 ≤ E) (hq : 0 ≤ q) (hr : 0 ≤ r) (h : q * E + r = p) : q ≤ p := by
  have := Int.mul_le_mul_of_nonneg_left hE hq
  omega

def naughtE (xs : List Int) (m : Int) : Int := if lenErr xs m = 0 then endM xs m else 0

set_option maxRecDepth 100000 in
set_option maxHeartbeats 8000000 in
theorem naught_any (a : Option Addr) (n cap : Nat) (m : Int) (xs : List Int) (w : World) (hl : n = xs.length) (hn : xs.length ≤ 100) (hx : Elems encI 1 w a xs) :
    Calls Tryd.prog 33 #[.slice a n cap, .int .i64 m] w fun e w' => ∃ a' n' cap' ps, e = .returned (.tuple #[.int .i64 (naughtE xs m), .slice a' n' cap', errV (lenErr xs m)]) ∧ n' = List.length ps ∧ Elems enc4 4 w' a' ps ∧
      (lenErr xs m = 0 → ps = piecesTo xs (endM xs m) xs.length) ∧ (lenErr xs m ≠ 0 → ps = []) ∧ Below w.heap.size w w' := by
  subst hl
  by_cases hC : lenErr xs m = 0
  case neg =>
    have hV : errV (lenErr xs m) = .iface 27 (.int .i64 (lenErr xs m)) := if_neg hC
    have HN := Lib.hid hC
    have HZ : Hid (naughtE xs m = 0) := Lib.hid (if_neg hC)
    have HV := Lib.hid hV
    clear hC hV
    go_enter Tryd.func33, Tryd.ntmps33
    go_wp2_with fail
    refine (lengths_any _ _ _ m xs _ rfl (by omega) hx).mono ?_
    rintro e w1 ⟨rfl, hb1⟩
    rw [HV.out]
    go_wp2
    go_ret3
    exact ⟨none, 0, 0, [], by rw [HV.out, HZ.out]; rfl, rfl, Or.inl rfl, fun h => absurd h HN.out, fun _ => rfl, hb1⟩
  have hV : errV (lenErr xs m) = .nilIface := if_pos hC
  have HV := Lib.hid hV
  have HC := Lib.hid hC
  obtain ⟨hm1, hm2, hl60, hb⟩ := len_ok hC
  have HB := Lib.hid hb
  suffices h : Calls Tryd.prog 33 #[.slice a xs.length cap, .int .i64 m] w fun e w' => ∃ a' n' cap' ps, e = .returned (.tuple #[.int .i64 (endM xs m), .slice a' n' cap', .nilIface]) ∧ n' = List.length ps ∧ Elems enc4 4 w' a' ps ∧ ps = piecesTo xs (endM xs m) xs.length ∧ Below w.heap.size w w' by
    refine h.mono ?_
    rintro e w' ⟨a', n', cap', ys, h1, h2, h3, h4, h5⟩
    exact ⟨a', n', cap', ys, by rw [HV.out, show naughtE xs m = endM xs m from if_pos hC]; exact h1, h2, h3, fun _ => h4, fun h => absurd hC h, h5⟩
  clear hC hV hb
  go_enter Tryd.func33, Tryd.ntmps33
  go_wp2_with fail
  refine (lengths_any _ _ _ m xs _ rfl (by omega) hx).mono ?_
  rintro e w1 ⟨rfl, hb1⟩
  rw [HV.out]
  have hx1 := hx.at hb1
  clear hx
  go_wp2
  go_loop [8, 9, 26] (fun sv ev iv => ∃ k : Nat, k ≤ xs.length ∧ iv = .int .i64 k ∧ sv = .int .i64 (sumTo xs k) ∧ ev = .int .i64 (mostTo xs k)) (fun _ _ iv => xs.length - (intOf iv).toNat)
  case atStart => exact ⟨0, by omega, rfl, rfl, rfl⟩
  case round =>
    obtain ⟨k, hk, rfl, rfl, rfl⟩ := hrel
    have hsb := sumTo_bound HB.out k hk
    by_cases hlt : k < xs.length
    · obtain ⟨b, o, rfl, hc⟩ := hx1.some hlt
      have c1 := hc k hlt 0 _ rfl
      simp only [Nat.add_zero, Nat.mul_one] at c1
      have hs1 := sumTo_succ xs k hlt
      have hm3 := mostTo_succ xs k hlt
      have hbk := HB.out _ (List.getElem_mem hlt)
      have HS1 := Lib.hid hs1
      have HM3 := Lib.hid hm3
      obtain ⟨hbk1, hbk2⟩ := hbk
      obtain ⟨hsb1, hsb2⟩ := hsb
      have hsb3 : sumTo xs k ≤ 60 * 1000000000 := by omega
      clear hc hx1 hs1 hm3 hsb2
      generalize xs[k] = x at *
      generalize sumTo xs k = s at *
      generalize mostTo xs k = t at *
      by_cases hmx : t < x
      · have HM4 : Hid (mostTo xs (k + 1) = x) := Lib.hid (by rw [HM3.out]; omega)
        go_wp2
        all_goals first
          | (exfalso; omega)
          | (go_round
             case rel => exact ⟨k + 1, by omega, by go_num, by rw [HS1.out], by rw [HM4.out]⟩
             case measure => simp [intOf]; omega)
      · have HM4 : Hid (mostTo xs (k + 1) = t) := Lib.hid (by rw [HM3.out]; omega)
        go_wp2
        all_goals first
          | (exfalso; omega)
          | (go_round
             case rel => exact ⟨k + 1, by omega, by go_num, by rw [HS1.out], by rw [HM4.out]⟩
             case measure => simp [intOf]; omega)
    · obtain rfl : k = xs.length := by omega
      obtain ⟨hE0, hE1, hE2⟩ := endM_bound HC.out
      have HE2 := Lib.hid hE2
      obtain ⟨hsb1, hsb2⟩ := hsb
      have hsb3 : sumTo xs xs.length ≤ 60 * 1000000000 := by omega
      obtain ⟨hmb1, hmb2, _⟩ := mostTo_bound HB.out xs.length (Nat.le_refl _)
      have HEM : Hid (endM xs m = max (mostTo xs xs.length) ((sumTo xs xs.length + m - 1) / m)) := Lib.hid rfl
      have hq0 : 0 ≤ (sumTo xs xs.length + m - 1) / m := Int.ediv_nonneg (by omega) (by omega)
      obtain ⟨E, hE⟩ : ∃ E, E = endM xs m := ⟨_, rfl⟩
      rw [← hE] at hE0 hE1 HE2 HEM
      have HE := Lib.hid hE
      clear hE hE2 hsb2
      have hmain : ∀ wq, wq = w1 → True := fun _ _ => trivial
      clear hmain
      have hcase : (mostTo xs xs.length < E ∧ (sumTo xs xs.length + m - 1) / m = E) ∨ (mostTo xs xs.length = E ∧ (sumTo xs xs.length + m - 1) / m ≤ E) := by
        have := HEM.out
        omega
      have HSB := Lib.hid (sumTo_bound HB.out)
      clear hq0
      rcases hcase with ⟨hq1, hq2⟩ | ⟨hq1, hq2⟩
      all_goals
        go_wp2
        all_goals try (exfalso; omega)
        clear hq1 hq2 hsb1 hsb3 hmb1 hmb2
        go_loopw [12, 13, 14, 47] (fun v qv rv iv wr => ∃ (k : Nat) (q r : Int) (out : List R4), k ≤ xs.length ∧ iv = .int .i64 k ∧ qv = .int .i64 q ∧ rv = .int .i64 r ∧ wr.ownsRow w1.heap.size 121 4 v out.length (out.flatMap enc4) ∧ 0 ≤ q ∧ 0 ≤ r ∧ r ≤ E ∧ q ≤ 61000000000 ∧
            Hid (piecesTo xs E k = out ∧ q * E + r = sumTo xs k ∧ (0 < E → r < E) ∧ (out.length : Int) ≤ sumTo xs k ∧ (E = 0 → q = 0)) ∧ Below w1.heap.size w1 wr) (fun _ _ _ iv _ => xs.length - (intOf iv).toNat)
        case atStart => exact ⟨0, 0, 0, [], by omega, rfl, rfl, rfl, World.ownsRow_nil _ _ _ _, by omega, by omega, by omega, by omega, Lib.hid ⟨rfl, by simp [sumTo], fun h => h, by simp [sumTo], fun _ => rfl⟩, Below.refl _ _⟩
        case round =>
          obtain ⟨k, q, r, out, hk, rfl, rfl, rfl, hown, g1, g2, g3, g4, HQ, hbw⟩ := hrel
          by_cases hlt : k < xs.length
          · obtain ⟨b, o, rfl, hc⟩ := hx1.some hlt
            have c1 := (hbw.cell (lt_of_cell (hc k hlt 0 _ rfl))).trans (hc k hlt 0 _ rfl)
            simp only [Nat.add_zero, Nat.mul_one] at c1
            have hbk := HB.out _ (List.getElem_mem hlt)
            have hek := HE2.out k hlt
            have hs1 := sumTo_succ xs k hlt
            have hs2 := HSB.out (k + 1) (by omega)
            have HP : Hid (out ++ cutM E k (q * E + r) (q * E + r + xs[k]) = piecesTo xs E (k + 1) ∧ q * E + r + xs[k] = sumTo xs (k + 1) ∧ (out.length : Int) ≤ q * E + r ∧ (xs[k] = 0 ∨ r < E) ∧ (E = 0 → q = 0) ∧ sumTo xs (k + 1) ≤ 60000000000 ∧ (0 < E → r < E)) := Lib.hid (by
              obtain ⟨h1, h2, h3, h4, h5⟩ := HQ.out
              refine ⟨?_, by rw [h2, hs1], by omega, ?_, h5, by omega, h3⟩
              · rw [h2, ← hs1, ← h1]; rfl
              · by_cases hE0' : 0 < E
                · exact Or.inr (h3 hE0')
                · exact Or.inl (by omega))
            obtain ⟨hbk1, hbk2⟩ := hbk
            clear hc hs1 hs2 hek HQ
            generalize xs[k] = x at *
            obtain ⟨wo, hwo⟩ : ∃ wo : World, wo = wr := ⟨_, rfl⟩
            subst hwo
            go_wp2
            go_loopw [12, 13, 14, 16] (fun v qv rv nv wr => ∃ (q r n : Int) (out : List R4), qv = .int .i64 q ∧ rv = .int .i64 r ∧ nv = .int .i64 n ∧ wr.ownsRow w1.heap.size 121 4 v out.length (out.flatMap enc4) ∧ 0 ≤ q ∧ 0 ≤ r ∧ r ≤ E ∧ q ≤ 61000000000 ∧ 0 ≤ n ∧ n ≤ 1000000000 ∧
                Hid (out ++ cutM E k (q * E + r) (q * E + r + n) = piecesTo xs E (k + 1) ∧ q * E + r + n = sumTo xs (k + 1) ∧ (out.length : Int) ≤ q * E + r ∧ (n = 0 ∨ r < E) ∧ (E = 0 → q = 0) ∧ sumTo xs (k + 1) ≤ 60000000000 ∧ (0 < E → r < E)) ∧ Below w1.heap.size w1 wr) (fun _ _ _ nv _ => (intOf nv).toNat)
            case atStart => exact ⟨q, r, x, out, rfl, rfl, rfl, hown, g1, g2, g3, g4, hbk1, hbk2, HP, hbw⟩
            case round =>
              clear hown hbw g1 g2 g3 g4 HP c1 hbk1 hbk2
              obtain ⟨q, r, n, out, rfl, rfl, rfl, hown, g1, g2, g3, g4, n0, n1, HQ, hbw⟩ := hrel
              by_cases hn : 0 < n
              · have hrE : r < E := by
                  rcases HQ.out.2.2.2.1 with h | h
                  · omega
                  · exact h
                have hE0 : 0 < E := by omega
                have hqb : q ≤ 60000000000 := by
                  have h1 := q_le (show 1 ≤ E by omega) g1 g2 (rfl : q * E + r = q * E + r)
                  have := HQ.out
                  omega
                have hol : out.length ≤ 60000000000 := by have := HQ.out; omega
                rcases Int.lt_trichotomy n (E - r) with hc | hc | hc
                · have hap := HQ.out
                  have HZ : Hid ((out ++ [(q, (k : Int), r, r + n)]) ++ cutM E k (q * E + (r + n)) (q * E + (r + n) + 0) = piecesTo xs E (k + 1) ∧ q * E + (r + n) + 0 = sumTo xs (k + 1) ∧ ((out ++ [(q, (k : Int), r, r + n)]).length : Int) ≤ q * E + (r + n)) := Lib.hid (by
                    have hqq : q * E + (r + n) = q * E + r + min n (E - r) := by omega
                    refine ⟨next_piece hE0 g2 hrE hn hap.1 (by omega) hqq (by omega), by omega, ?_⟩
                    rw [List.length_append]
                    simp only [List.length_singleton]
                    omega)
                  have HW := Lib.hid hap.2.2.2.2
                  have hq60 : q ≤ 60000000000 := hqb
                  clear HQ hap
                  go_wp2_with (at_builtin; (refine app_row rowP rfl _ _ rfl w1.heap.size rfl hown (enc4 (q, (k : Int), r, r + n)) rfl (by first | rfl | simp) rfl (enc4_one _) (by unfold maxLen; omega) (by omega) hbw.size ?_))
                  intro v' w2 hown2 hb2
                  rw [flat_app] at hown2
                  have hlen : out.length + 1 = (out ++ [(q, (k : Int), r, r + n)]).length := by simp
                  rw [hlen] at hown2
                  have hbb := hbw.trans hb2
                  clear hown hb2 hbw hlen
                  have ht : (r + n == E) = false := by simp; omega
                  generalize (out ++ [(q, (k : Int), r, r + n)]) = out2 at *
                  go_wp2
                  go_roundw
                  case rel => exact ⟨q, (r + n), 0, out2, rfl, rfl, rfl, hown2, by omega, by omega, by omega, by omega, by omega, by omega, Lib.hid ⟨HZ.out.1, HZ.out.2.1, HZ.out.2.2, by omega, fun h => by omega, HW.out.2.1, fun h => by omega⟩, hbb⟩
                  case measure => simp [intOf]; omega
                · subst hc
                  have hap := HQ.out
                  have HZ : Hid ((out ++ [(q, (k : Int), r, r + (E - r))]) ++ cutM E k ((q + 1) * E + 0) ((q + 1) * E + 0 + 0) = piecesTo xs E (k + 1) ∧ (q + 1) * E + 0 + 0 = sumTo xs (k + 1) ∧ ((out ++ [(q, (k : Int), r, r + (E - r))]).length : Int) ≤ (q + 1) * E + 0) := Lib.hid (by
                    have hqq : (q + 1) * E + 0 = q * E + r + min (E - r) (E - r) := by rw [Int.add_mul]; omega
                    refine ⟨next_piece hE0 g2 hrE hn hap.1 (by omega) hqq (by omega), by omega, ?_⟩
                    rw [List.length_append]
                    simp only [List.length_singleton]
                    omega)
                  have HW := Lib.hid hap.2.2.2.2
                  have hq60 : q ≤ 60000000000 := hqb
                  clear HQ hap
                  go_wp2_with (at_builtin; (refine app_row rowP rfl _ _ rfl w1.heap.size rfl hown (enc4 (q, (k : Int), r, r + (E - r))) rfl (by first | rfl | simp) rfl (enc4_one _) (by unfold maxLen; omega) (by omega) hbw.size ?_))
                  intro v' w2 hown2 hb2
                  rw [flat_app] at hown2
                  have hlen : out.length + 1 = (out ++ [(q, (k : Int), r, r + (E - r))]).length := by simp
                  rw [hlen] at hown2
                  have hbb := hbw.trans hb2
                  clear hown hb2 hbw hlen
                  have ht : (r + (E - r) == E) = true := by simp; omega
                  generalize (out ++ [(q, (k : Int), r, r + (E - r))]) = out2 at *
                  go_wp2
                  go_roundw
                  case rel => exact ⟨(q + 1), 0, 0, out2, rfl, rfl, rfl, hown2, by omega, by omega, by omega, by omega, by omega, by omega, Lib.hid ⟨HZ.out.1, HZ.out.2.1, HZ.out.2.2, by omega, fun h => by omega, HW.out.2.1, fun h => by omega⟩, hbb⟩
                  case measure => simp [intOf]; omega
                · have hap := HQ.out
                  have HZ : Hid ((out ++ [(q, (k : Int), r, r + (E - r))]) ++ cutM E k ((q + 1) * E + 0) ((q + 1) * E + 0 + (n - (E - r))) = piecesTo xs E (k + 1) ∧ (q + 1) * E + 0 + (n - (E - r)) = sumTo xs (k + 1) ∧ ((out ++ [(q, (k : Int), r, r + (E - r))]).length : Int) ≤ (q + 1) * E + 0) := Lib.hid (by
                    have hqq : (q + 1) * E + 0 = q * E + r + min n (E - r) := by rw [Int.add_mul]; omega
                    refine ⟨next_piece hE0 g2 hrE hn hap.1 (by omega) hqq (by omega), by omega, ?_⟩
                    rw [List.length_append]
                    simp only [List.length_singleton]
                    omega)
                  have HW := Lib.hid hap.2.2.2.2
                  have hq60 : q ≤ 60000000000 := hqb
                  clear HQ hap
                  go_wp2_with (at_builtin; (refine app_row rowP rfl _ _ rfl w1.heap.size rfl hown (enc4 (q, (k : Int), r, r + (E - r))) rfl (by first | rfl | simp) rfl (enc4_one _) (by unfold maxLen; omega) (by omega) hbw.size ?_))
                  intro v' w2 hown2 hb2
                  rw [flat_app] at hown2
                  have hlen : out.length + 1 = (out ++ [(q, (k : Int), r, r + (E - r))]).length := by simp
                  rw [hlen] at hown2
                  have hbb := hbw.trans hb2
                  clear hown hb2 hbw hlen
                  have ht : (r + (E - r) == E) = true := by simp; omega
                  generalize (out ++ [(q, (k : Int), r, r + (E - r))]) = out2 at *
                  go_wp2
                  go_roundw
                  case rel => exact ⟨(q + 1), 0, (n - (E - r)), out2, rfl, rfl, rfl, hown2, by omega, by omega, by omega, by omega, by omega, by omega, Lib.hid ⟨HZ.out.1, HZ.out.2.1, HZ.out.2.2, by omega, fun h => by omega, HW.out.2.1, fun h => by omega⟩, hbb⟩
                  case measure => simp [intOf]; omega
              · obtain rfl : n = 0 := by omega
                have HZ : Hid (piecesTo xs E (k + 1) = out ∧ q * E + r = sumTo xs (k + 1) ∧ (0 < E → r < E) ∧ (out.length : Int) ≤ sumTo xs (k + 1) ∧ (E = 0 → q = 0)) := Lib.hid (by
                  obtain ⟨h1, h2, h3, h4, h5, h6, h7⟩ := HQ.out
                  refine ⟨?_, by omega, h7, by omega, h5⟩
                  rw [← h1, cutM_done (by omega), List.append_nil])
                clear HQ
                go_wp2
                go_roundw
                case rel => exact ⟨k + 1, q, r, out, by omega, by go_num, rfl, rfl, hown, g1, g2, g3, g4, HZ, hbw⟩
                case measure => simp [intOf]; omega
          · obtain rfl : k = xs.length := by omega
            obtain ⟨a', cap', he0, he, _⟩ := elems_of_owns (enc := enc4) (fun _ => rfl) rfl hown
            subst he0
            have HEL := Lib.hid he
            clear hown he
            go_wp2
            go_ret3
            exact ⟨a', _, cap', out, by rw [HE.out]; rfl, rfl, HEL.out, by rw [← HE.out]; exact HQ.out.1.symm, below_next hb1 hbw⟩
end Go.Proofs.YtgcocjfbppkgbaaDoor
