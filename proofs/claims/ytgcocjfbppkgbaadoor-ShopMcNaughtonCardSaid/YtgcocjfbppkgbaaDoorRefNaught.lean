/- McNaughton's plan: the reference's. -/
import Derived.Test.YtgcocjfbppkgbaaDoorNaught
namespace Go.Proofs.YtgcocjfbppkgbaaDoor
open Go.RowKit
theorem rowQ : RowOf Tryd.prog 53 120 (.agg #[.int .i64 0, .int .i64 0, .int .i64 0, .int .i64 0]) 4 32 := rowOf Tryd.underlying53 (by kernel_rfl) rfl (by decide)

set_option maxRecDepth 100000 in
set_option maxHeartbeats 8000000 in
theorem refNaught_any (a : Option Addr) (n cap : Nat) (m : Int) (xs : List Int) (w : World) (hC : lenErr xs m = 0) (hl : n = xs.length) (hx : Elems encI 1 w a xs) :
    Calls Tryd.prog 32 #[.slice a n cap, .int .i64 m] w fun e w' => ∃ a' n' cap' ps, e = .returned (.tuple #[.int .i64 (endM xs m), .slice a' n' cap']) ∧ n' = List.length ps ∧ Elems enc4 4 w' a' ps ∧ ps = piecesTo xs (endM xs m) xs.length ∧ ps.length ≤ 100000000000 ∧ Below w.heap.size w w' := by
  subst hl
  have HC := Lib.hid hC
  obtain ⟨hm1, hm2, hl60, hb⟩ := len_ok hC
  have HB := Lib.hid hb
  clear hC hb
  go_enter Tryd.func32, Tryd.ntmps32
  go_wp2
  go_loop [6, 7, 19] (fun sv ev iv => ∃ k : Nat, k ≤ xs.length ∧ iv = .int .i64 k ∧ sv = .int .i64 (sumTo xs k) ∧ ev = .int .i64 (mostTo xs k)) (fun _ _ iv => xs.length - (intOf iv).toNat)
  case atStart => exact ⟨0, by omega, rfl, rfl, rfl⟩
  case round =>
    obtain ⟨k, hk, rfl, rfl, rfl⟩ := hrel
    have hsb := sumTo_bound HB.out k hk
    by_cases hlt : k < xs.length
    · obtain ⟨b, o, rfl, hc⟩ := hx.some hlt
      have c1 := hc k hlt 0 _ rfl
      simp only [Nat.add_zero, Nat.mul_one] at c1
      have hs1 := sumTo_succ xs k hlt
      have hm3 := mostTo_succ xs k hlt
      have hbk := HB.out _ (List.getElem_mem hlt)
      have HS1 := Lib.hid hs1
      have HM3 := Lib.hid hm3
      obtain ⟨hbk1, hbk2⟩ := hbk
      obtain ⟨hsb1, hsb2⟩ := hsb
      have hsb3 : sumTo xs k ≤ 60 * 1000000000 := by omega
      clear hc hx hs1 hm3 hsb2
      generalize xs[k] = x at *
      generalize sumTo xs k = s at *
      generalize mostTo xs k = t at *
      by_cases hmx : t < x
      · have HM4 : Hid (mostTo xs (k + 1) = x) := Lib.hid (by rw [HM3.out]; omega)
        go_wp2
        all_goals first
          | (exfalso; omega)
          | (go_round
             case rel => exact ⟨k + 1, by omega, by go_num, by rw [HS1.out], by rw [HM4.out]⟩
             case measure => simp [intOf]; omega)
      · have HM4 : Hid (mostTo xs (k + 1) = t) := Lib.hid (by rw [HM3.out]; omega)
        go_wp2
        all_goals first
          | (exfalso; omega)
          | (go_round
             case rel => exact ⟨k + 1, by omega, by go_num, by rw [HS1.out], by rw [HM4.out]⟩
             case measure => simp [intOf]; omega)
    · obtain rfl : k = xs.length := by omega
      obtain ⟨hE0, hE1, hE2⟩ := endM_bound HC.out
      have HE2 := Lib.hid hE2
      obtain ⟨hsb1, hsb2⟩ := hsb
      have hsb3 : sumTo xs xs.length ≤ 60 * 1000000000 := by omega
      obtain ⟨hmb1, hmb2, _⟩ := mostTo_bound HB.out xs.length (Nat.le_refl _)
      have HEM : Hid (endM xs m = max (mostTo xs xs.length) ((sumTo xs xs.length + m - 1) / m)) := Lib.hid rfl
      have HSB := Lib.hid (sumTo_bound HB.out)
      obtain ⟨E, hE⟩ : ∃ E, E = endM xs m := ⟨_, rfl⟩
      rw [← hE] at hE0 hE1 HE2 HEM
      have HE := Lib.hid hE
      clear hE hE2 hsb2
      have hme : mostTo xs xs.length ≤ E := by have := HEM.out; omega
      go_wp2
      go_loop [7] (fun ev => ∃ e : Int, ev = .int .i64 e ∧ mostTo xs xs.length ≤ e ∧ e ≤ E) (fun ev => (E - intOf ev).toNat)
      case atStart => exact ⟨_, rfl, by omega, hme⟩
      case round =>
        obtain ⟨e, rfl, e1, e2⟩ := hrel
        have p1 : 0 ≤ e * m := Int.mul_nonneg (by omega) (by omega)
        have p2 : e * m ≤ 61000000000 * 20 := Int.mul_le_mul (by omega) hm2 (by omega) (by omega)
        by_cases ht : e * m < sumTo xs xs.length
        · have hst := end_step hm1 ht
          have hEE := HEM.out
          have hq0 : 0 ≤ (sumTo xs xs.length - e * m) / m := Int.ediv_nonneg (by omega) (by omega)
          have hq1 : (sumTo xs xs.length - e * m) / m ≤ sumTo xs xs.length - e * m := Int.ediv_le_self _ (by omega)
          have hle : e + max 1 ((sumTo xs xs.length - e * m) / m) ≤ E := by omega
          have hle1 : e + 1 ≤ E := by omega
          have hle2 : e + (sumTo xs xs.length - e * m) / m ≤ E := by omega
          clear hst hEE hle
          go_wp2
          all_goals
            go_round
            case rel => exact ⟨_, rfl, by omega, by omega⟩
            case measure => simp [intOf]; omega
        · have hst := end_stop hm1 ht
          obtain rfl : E = e := by have := HEM.out; omega
          clear hst e1 e2 hme hmb1 hmb2
          go_wp2
          go_loopw [10, 11, 47] (fun v pv iv wr => ∃ (k : Nat) (out : List R4), k ≤ xs.length ∧ iv = .int .i64 k ∧ pv = .int .i64 (sumTo xs k) ∧ wr.ownsRow w.heap.size 120 4 v out.length (out.flatMap enc4) ∧ Hid (piecesTo xs E k = out ∧ (out.length : Int) ≤ sumTo xs k) ∧ Below w.heap.size w wr) (fun _ _ iv _ => xs.length - (intOf iv).toNat)
          case atStart => exact ⟨0, [], by omega, rfl, rfl, World.ownsRow_nil _ _ _ _, Lib.hid ⟨rfl, by simp [sumTo]⟩, Below.refl _ _⟩
          case round =>
            obtain ⟨k, out, hk, rfl, rfl, hown, HQ, hbw⟩ := hrel
            by_cases hlt : k < xs.length
            · obtain ⟨b, o, rfl, hc⟩ := hx.some hlt
              have c1 := (hbw.cell (lt_of_cell (hc k hlt 0 _ rfl))).trans (hc k hlt 0 _ rfl)
              simp only [Nat.add_zero, Nat.mul_one] at c1
              have hbk := HB.out _ (List.getElem_mem hlt)
              have hek := HE2.out k hlt
              have hs1 := sumTo_succ xs k hlt
              have hs2 := HSB.out (k + 1) (by omega)
              have hs3 := HSB.out k (by omega)
              have hT : sumTo xs (k + 1) ≤ 60000000000 := by omega
              have HP : Hid (out ++ cutM E k (sumTo xs k) (sumTo xs (k + 1)) = piecesTo xs E (k + 1) ∧ (out.length : Int) ≤ sumTo xs k) := Lib.hid ⟨by rw [← HQ.out.1]; rfl, HQ.out.2⟩
              have hxE : sumTo xs k + xs[k] = sumTo xs (k + 1) := hs1.symm
              have hEp : sumTo xs k < sumTo xs (k + 1) → 0 < E := fun h => by omega
              have HEP := Lib.hid hEp
              obtain ⟨hbk1, hbk2⟩ := hbk
              obtain ⟨hs4, _⟩ := hs3
              clear hc hs1 hs2 hek HQ hEp
              generalize xs[k] = x at *
              generalize sumTo xs k = P at *
              generalize hPT : sumTo xs (k + 1) = T at *
              have HPT : Hid (T = sumTo xs (k + 1)) := Lib.hid hPT.symm
              clear hPT
              obtain ⟨wo, hwo⟩ : ∃ wo : World, wo = wr := ⟨_, rfl⟩
              subst hwo
              go_wp2
              go_loopw [10, 11] (fun v pv wr => ∃ (p : Int) (out : List R4), pv = .int .i64 p ∧ P ≤ p ∧ p ≤ T ∧ wr.ownsRow w.heap.size 120 4 v out.length (out.flatMap enc4) ∧ Hid (out ++ cutM E k p T = piecesTo xs E (k + 1) ∧ (out.length : Int) ≤ p) ∧ Below w.heap.size w wr) (fun _ pv _ => (T - intOf pv).toNat)
              case atStart => exact ⟨P, out, rfl, by omega, by omega, hown, HP, hbw⟩
              case round =>
                clear hown hbw HP
                obtain ⟨p, out, rfl, r1, r2, hown, HQ, hbw⟩ := hrel
                by_cases hp : p < T
                · have hE0' : 0 < E := HEP.out (by omega)
                  obtain ⟨Q, hQ⟩ : ∃ Q, Q = p / E := ⟨_, rfl⟩
                  have hQ0 : 0 ≤ Q := by rw [hQ]; exact Int.ediv_nonneg (by omega) (by omega)
                  have hQ1 : Q * E ≤ p := by rw [hQ]; exact Int.ediv_mul_le _ (by omega)
                  have hQ2 : p < (Q + 1) * E := Int.lt_mul_of_ediv_lt hE0' (by omega)
                  have hQ3 : (Q + 1) * E = Q * E + E := by rw [Int.add_mul]; omega
                  have hQ4 : 0 ≤ Q * E := Int.mul_nonneg hQ0 (by omega)
                  have hQ5 : Q ≤ p := by rw [hQ]; exact Int.ediv_le_self _ (by omega)
                  have hcs := cutM_step (i := (k : Int)) hE0' hp
                  rw [← hQ] at hcs
                  have hQ6 : p / E = Q := hQ.symm
                  obtain ⟨S, hS⟩ : ∃ S, (Q + 1) * E = S := ⟨_, rfl⟩
                  rw [hS] at hcs hQ2 hQ3
                  have hol : out.length ≤ 60000000000 := by have := HQ.out.2; omega
                  have z1 : 0 ≤ S := by omega
                  have z2 : S ≤ 200000000000 := by omega
                  have HCS := Lib.hid hcs
                  have HQ3 := Lib.hid hQ3
                  have HQ6 := Lib.hid hQ6
                  clear hcs hQ hQ3
                  rcases Int.lt_trichotomy T S with hmin | hmin | hmin
                  · skip
                    have HZ : Hid ((out ++ [(Q, (k : Int), p - Q * E, T - Q * E)]) ++ cutM E k T T = piecesTo xs E (k + 1) ∧ ((out ++ [(Q, (k : Int), p - Q * E, T - Q * E)]).length : Int) ≤ T) := Lib.hid (by
                      have h1 := HQ.out
                      rw [HCS.out, show min T S = T by omega] at h1
                      refine ⟨by rw [List.append_assoc]; exact h1.1, ?_⟩
                      rw [List.length_append]
                      simp only [List.length_singleton]
                      omega)
                    clear HQ HCS HQ6
                    go_wp2_with (at_builtin; (refine app_row rowQ rfl _ _ rfl w.heap.size rfl hown (enc4 (Q, (k : Int), p - Q * E, T - Q * E)) rfl (by first | rfl | simp) rfl (enc4_one _) (by unfold maxLen; omega) (by omega) hbw.size ?_))
                    intro v' w2 hown2 hb2
                    rw [flat_app] at hown2
                    have hlen : out.length + 1 = (out ++ [(Q, (k : Int), p - Q * E, T - Q * E)]).length := by simp
                    rw [hlen] at hown2
                    have hbb := hbw.trans hb2
                    clear hown hb2 hbw hlen
                    generalize (out ++ [(Q, (k : Int), p - Q * E, T - Q * E)]) = out2 at *
                    clear hQ6
                    go_wp2
                    go_roundw
                    case rel => exact ⟨T, out2, rfl, by omega, by omega, hown2, HZ, hbb⟩
                    case measure => simp [intOf]; omega
                  · subst hmin
                    have HZ : Hid ((out ++ [(Q, (k : Int), p - Q * E, T - Q * E)]) ++ cutM E k T T = piecesTo xs E (k + 1) ∧ ((out ++ [(Q, (k : Int), p - Q * E, T - Q * E)]).length : Int) ≤ T) := Lib.hid (by
                      have h1 := HQ.out
                      rw [HCS.out, show min T T = T by omega] at h1
                      refine ⟨by rw [List.append_assoc]; exact h1.1, ?_⟩
                      rw [List.length_append]
                      simp only [List.length_singleton]
                      omega)
                    clear HQ HCS HQ6
                    go_wp2_with (at_builtin; (refine app_row rowQ rfl _ _ rfl w.heap.size rfl hown (enc4 (Q, (k : Int), p - Q * E, T - Q * E)) rfl (by first | rfl | simp) rfl (enc4_one _) (by unfold maxLen; omega) (by omega) hbw.size ?_))
                    intro v' w2 hown2 hb2
                    rw [flat_app] at hown2
                    have hlen : out.length + 1 = (out ++ [(Q, (k : Int), p - Q * E, T - Q * E)]).length := by simp
                    rw [hlen] at hown2
                    have hbb := hbw.trans hb2
                    clear hown hb2 hbw hlen
                    generalize (out ++ [(Q, (k : Int), p - Q * E, T - Q * E)]) = out2 at *
                    clear hQ6
                    go_wp2
                    go_roundw
                    case rel => exact ⟨T, out2, rfl, by omega, by omega, hown2, HZ, hbb⟩
                    case measure => simp [intOf]; omega
                  · skip
                    have HZ : Hid ((out ++ [(Q, (k : Int), p - Q * E, S - Q * E)]) ++ cutM E k S T = piecesTo xs E (k + 1) ∧ ((out ++ [(Q, (k : Int), p - Q * E, S - Q * E)]).length : Int) ≤ S) := Lib.hid (by
                      have h1 := HQ.out
                      rw [HCS.out, show min T S = S by omega] at h1
                      refine ⟨by rw [List.append_assoc]; exact h1.1, ?_⟩
                      rw [List.length_append]
                      simp only [List.length_singleton]
                      omega)
                    clear HQ HCS HQ6
                    go_wp2_with (at_builtin; (refine app_row rowQ rfl _ _ rfl w.heap.size rfl hown (enc4 (Q, (k : Int), p - Q * E, S - Q * E)) rfl (by first | rfl | simp) rfl (enc4_one _) (by unfold maxLen; omega) (by omega) hbw.size ?_))
                    intro v' w2 hown2 hb2
                    rw [flat_app] at hown2
                    have hlen : out.length + 1 = (out ++ [(Q, (k : Int), p - Q * E, S - Q * E)]).length := by simp
                    rw [hlen] at hown2
                    have hbb := hbw.trans hb2
                    clear hown hb2 hbw hlen
                    generalize (out ++ [(Q, (k : Int), p - Q * E, S - Q * E)]) = out2 at *
                    clear hQ6
                    go_wp2
                    go_roundw
                    case rel => exact ⟨S, out2, rfl, by omega, by omega, hown2, HZ, hbb⟩
                    case measure => simp [intOf]; omega
                · obtain rfl : p = T := by omega
                  have HZ : Hid (piecesTo xs E (k + 1) = out ∧ (out.length : Int) ≤ p) := Lib.hid ⟨by rw [← HQ.out.1, cutM_done (by omega), List.append_nil], HQ.out.2⟩
                  clear HQ
                  go_wp2
                  go_roundw
                  case rel => exact ⟨k + 1, out, by omega, by go_num, by rw [HPT.out], hown, Lib.hid (by rw [← HPT.out]; exact HZ.out), hbw⟩
                  case measure => simp [intOf]; omega
            · obtain rfl : k = xs.length := by omega
              obtain ⟨a', cap', he0, he, _⟩ := elems_of_owns (enc := enc4) (fun _ => rfl) rfl hown
              subst he0
              have HEL := Lib.hid he
              clear hown he
              go_wp2
              go_ret2
              exact ⟨a', _, cap', out, by rw [HE.out]; rfl, rfl, HEL.out, by rw [← HE.out]; exact HQ.out.1.symm, by have := HQ.out.2; omega, hbw⟩
end Go.Proofs.YtgcocjfbppkgbaaDoor
