/- The reference's Better19: where it ends. -/
import Derived.Test.YtfaklhkdfpfjgaaDoorBet
import Derived.Test.YtfaklhkdfpfjgaaDoorRefLong
namespace Go.Proofs.YtfaklhkdfpfjgaaDoor
open Go.RowKit

/-- One look through all pieces: nothing found so far, or the first that helps is turned over. -/
def Look (A : List (List Int)) (W W' : List Int) (f : Bool) (P : Nat → Nat → Prop) : Prop :=
  (f = false → W' = W ∧ ∀ i' k', 1 ≤ i' → i' < k' → k' < W.length → P i' k' → ¬ Helps A W i' k') ∧ (f = true → ∃ i0 k0, FirstAt A W i0 k0 ∧ W' = revM W i0 k0)
theorem look_len {A : List (List Int)} {W W' : List Int} {f : Bool} {P : Nat → Nat → Prop} (h : Look A W W' f P) : W'.length = W.length := by
  cases f with
  | false => rw [(h.1 rfl).1]
  | true =>
    obtain ⟨i0, k0, h1, h2⟩ := h.2 rfl
    rw [h2, rev_len (by have := h1.2.1; omega) h1.2.2.1]
theorem look_found {A : List (List Int)} {W W' : List Int} {P Q : Nat → Nat → Prop} (h : Look A W W' true P) : Look A W W' true Q := ⟨fun h2 => Bool.noConfusion h2, h.2⟩
/-- What is built backward. -/
def backL (W : List Int) (k c : Nat) : List Int := (List.range c).map fun t => W.getD (k - t) 0
theorem back_len (W : List Int) (k c : Nat) : (backL W k c).length = c := by simp [backL]
theorem back_succ (W : List Int) (k c : Nat) : backL W k (c + 1) = backL W k c ++ [W.getD (k - c) 0] := by simp [backL, List.range_succ]
theorem back_all {W : List Int} {i k : Nat} (hik : i ≤ k) (hk : k < W.length) : W.take i ++ backL W k (k + 1 - i) ++ W.drop (k + 1) = revM W i k := by
  unfold revM
  congr 2
  refine List.ext_getElem (by rw [back_len, List.length_reverse, List.length_take, List.length_drop]; omega) fun t h1 h2 => ?_
  rw [back_len] at h1
  simp only [backL, List.getElem_map, List.getElem_range, List.getElem_reverse, List.getElem_take, List.getElem_drop]
  have e1 : i + (((W.drop i).take (k + 1 - i)).length - 1 - t) = k - t := by rw [List.length_take, List.length_drop]; omega
  simp only [e1]
  simp [List.getD, show k - t < W.length by omega]
def RefBetPost (A : List (List Int)) (way : List Int) (w : World) (e : Ending) (w' : World) : Prop :=
  ∃ a' cap' r, e = .returned (.slice a' way.length cap') ∧ Elems encI 1 w' a' r ∧ EndsAt A way r ∧ r.length = A.length ∧ Below w.heap.size w w'
theorem elems_take1 {w : World} {a : Option Addr} {xs : List Int} (h : Elems encI 1 w a xs) (k : Nat) : Elems encI 1 w a (xs.take k) := by
  rcases h with rfl | ⟨b, o, rfl, h⟩
  · left; simp
  · refine Or.inr ⟨b, o, rfl, fun j hj i u hu => ?_⟩
    have hj2 : j < xs.length := by rw [List.length_take] at hj; omega
    rw [List.getElem_take] at hu
    exact h j hj2 i u hu
theorem elems_drop1 {w : World} {b o : Nat} {xs : List Int} (h : Elems encI 1 w (some ⟨b, o, none⟩) xs) (k : Nat) : Elems encI 1 w (some ⟨b, o + k, none⟩) (xs.drop k) := by
  rcases h with rfl | ⟨b', o', h1, h⟩
  · left; simp
  · simp only [Option.some.injEq, Addr.mk.injEq, and_true] at h1
    obtain ⟨rfl, rfl⟩ := h1
    refine Or.inr ⟨_, _, rfl, fun j hj i u hu => ?_⟩
    rw [List.length_drop] at hj
    rw [List.getElem_drop] at hu
    have := h (k + j) (by omega) i u hu
    rw [show b = b from rfl, show o + k + j * 1 + i = o + (k + j) * 1 + i by omega]
    exact this

set_option maxRecDepth 100000 in
set_option maxHeartbeats 16000000 in
theorem refBetter_ok (a a2 : Option Addr) (n n2 cap cap2 : Nat) (A : List (List Int)) (way : List Int) (w : World) (hl : n = A.length) (hl2 : n2 = way.length) (hM : mapCheck A = 0) (hO : orderM way A.length = 0) (hS : symB A = true) (ha2 : a2 = none → cap2 = 0)
    (hr : Rows2 w a A) (hx : Elems encI 1 w a2 way) :
    Calls Tryd.prog 53 #[.slice a n cap, .slice a2 n2 cap2] w (RefBetPost A way w) := by
  subst hl; subst hl2
  obtain ⟨hA9, hA⟩ := map_ok hM
  obtain ⟨ho1, ho2⟩ := order_ok hO
  have hwl : way.length = A.length := by omega
  have hWay : WayOk A way := ⟨hwl, fun x hx => by
    obtain ⟨j, hj, rfl⟩ := List.getElem_of_mem hx
    obtain ⟨q1, q2, _⟩ := ho2 j hj
    exact ⟨q1, q2⟩⟩
  have HLONG : Hid (∀ (a3 : Option Addr) (cap3 : Nat) (W : List Int) (w' : World), WayOk A W → Rows2 w' a A → Elems encI 1 w' a3 W → Calls Tryd.prog 89 #[.slice a A.length cap, .slice a3 way.length cap3] w' fun e w'' => e = .returned (.int .i64 (longM A W)) ∧ Below w'.heap.size w' w'') :=
    Lib.hid (fun a3 cap3 W w' hW hr' hx' => refLong_any a a3 _ way.length cap cap3 A W w' rfl (hwl.trans hW.1.symm) hM (by have := hW.1; omega) hW.2 hr' hx')
  have HRR := Lib.hid hr
  have HS := Lib.hid hS
  have HM := Lib.hid hM
  have HWAY := Lib.hid hWay
  have HWL := Lib.hid hwl
  have hn9 : way.length ≤ 9 := by omega
  have hemp : (w.alloc (.cells #[] 3)).ownsRow w.heap.size 3 1 (.slice (some ⟨w.heap.size, 0, none⟩) 0 0) 0 [] := World.ownsRow_lit w #[] 0 (Nat.le_refl _) (by omega) rfl
  have hb0 : Below w.heap.size w (w.alloc (.cells #[] 3)) := (Below.refl _ _).alloc (Nat.le_refl _) _
  have he := hx.at hb0
  have hbase : w.heap.size ≤ (w.alloc (.cells #[] 3)).heap.size := by simp
  clear hr hx hA hS hM hO ho1 ho2 hWay hwl hA9
  go_enter Tryd.func53, Tryd.ntmps53
  go_wp2_with (at_builtin; refine app_all rowW rfl _ _ rfl w.heap.size rfl hemp a2 way.length cap2 way rfl rfl ha2 he (by unfold maxLen; omega) (by omega) hbase ?_)
  intro v1 w1 hown1 hb1
  have hb01 := hb0.trans hb1
  obtain ⟨a5, c5, rfl, he5, hc5⟩ := ints_of_owns rfl hown1
  have HE5 := Lib.hid he5
  clear hemp he hbase hb0 hb1 hown1 he5 ha2
  go_wp2
  go_loopw [5] (fun v wr => ∃ (W : List Int) (a5 : Option Addr) (c5 : Nat), v = .slice a5 way.length c5 ∧ Hid (BetInv A way W true) ∧ Elems encI 1 wr a5 W ∧ way.length ≤ c5 ∧ Below w.heap.size w wr) (fun v wr => match v with | .slice a n _ => (longM A (wayOf wr a n)).toNat | _ => 0)
  case atStart => exact ⟨way, a5, c5, rfl, Lib.hid ⟨HWAY.out, fun h => Bool.noConfusion h, fun r h => h⟩, HE5.out, hc5, hb01⟩
  case round =>
    clear hc5 hb01 HE5
    obtain ⟨W, a5, c5, rfl, HW, he5, hc5, hb⟩ := hrel
    have hWl : W.length = way.length := HW.out.1.1.trans HWL.out.symm
    have hwof : wayOf wr a5 way.length = W := by rw [← hWl]; exact wayOf_eq he5
    have HWOF := Lib.hid hwof
    have HWl := Lib.hid hWl
    have HE5 := Lib.hid he5
    clear hwof hWl he5
    obtain ⟨wo, hwo⟩ : ∃ wo : World, wo = wr := ⟨_, rfl⟩
    subst hwo
    go_wp2
    go_loopw [5, 6, 7] (fun v fv iv wr => ∃ (i : Nat) (f : Bool) (W' : List Int) (a' : Option Addr) (c' : Nat), v = .slice a' way.length c' ∧ fv = .bool f ∧ iv = .int .i64 i ∧ 1 ≤ i ∧ i ≤ way.length + 1 ∧ way.length ≤ c' ∧ Hid (Elems encI 1 wr a' W') ∧ Hid (Look A W W' f (fun i' _ => i' < i)) ∧ Hid (Below wo.heap.size wo wr)) (fun _ _ iv _ => way.length + 2 - (intOf iv).toNat)
    case atStart => exact ⟨1, false, W, a5, c5, rfl, rfl, rfl, by omega, by omega, hc5, HE5, Lib.hid ⟨fun _ => ⟨rfl, fun i' k' h1 _ _ h4 => by omega⟩, fun h => Bool.noConfusion h⟩, Lib.hid (Below.refl _ _)⟩
    case round =>
      clear hc5
      obtain ⟨i, f, W', a', c', rfl, rfl, rfl, hi1, hil, hc', HE, HL, HB⟩ := hrel
      cases f with
      | true =>
        obtain ⟨i0, k0, hF, rfl⟩ := HL.out.2 rfl
        have hb1 := below_next hb HB.out
        have hrl : (revM W i0 k0).length = way.length := (rev_len (by have := hF.2.1; omega) hF.2.2.1).trans HWl.out
        have hw6 : wayOf wr a' way.length = revM W i0 k0 := by rw [← hrl]; exact wayOf_eq HE.out
        have hlong : longM A (revM W i0 k0) < longM A W := (helps_less HS.out HW.out.1 hF.1 hF.2.1 hF.2.2.1).2 hF.2.2.2.1
        have hnn := long_nonneg HM.out (revM W i0 k0)
        have HINV : Hid (BetInv A way (revM W i0 k0) true) := Lib.hid ⟨wayOk_rev HW.out.1 (by have := hF.2.1; omega) hF.2.2.1, fun h => Bool.noConfusion h, fun r h => HW.out.2.2 r (EndsAt.next hF h)⟩
        have HMS : Hid ((longM A (wayOf wr a' way.length)).toNat < (longM A (wayOf wo a5 way.length)).toNat) := Lib.hid (by
          rw [HWOF.out, hw6]; omega)
        clear hrl hw6 hlong hnn hF
        go_wp2
        all_goals exact ⟨⟨revM W i0 k0, a', c', rfl, HINV.out, HE.out, hc', hb1⟩, HMS.out⟩
      | false =>
        obtain ⟨rfl, hno⟩ := HL.out.1 rfl
        have HNO := Lib.hid hno
        clear hno
        by_cases hin : i < way.length
        · go_wp2
          go_loopw [5, 6, 8] (fun v fv kv wr => ∃ (k : Nat) (f : Bool) (W2 : List Int) (a' : Option Addr) (c' : Nat), v = .slice a' way.length c' ∧ fv = .bool f ∧ kv = .int .i64 k ∧ i + 1 ≤ k ∧ k ≤ way.length ∧ way.length ≤ c' ∧ Hid (Elems encI 1 wr a' W2) ∧ Hid (Look A W' W2 f (fun i' k' => i' < i ∨ i' = i ∧ k' < k)) ∧ Hid (Below wo.heap.size wo wr)) (fun _ _ kv _ => way.length + 1 - (intOf kv).toNat)
          case atStart => exact ⟨i + 1, false, W', a', c', rfl, rfl, by go_num, by omega, by omega, hc', HE, Lib.hid ⟨fun _ => ⟨rfl, fun i' k' h1 h2 h3 h4 => by
            rcases h4 with h4 | ⟨rfl, h4⟩
            · exact HNO.out i' k' h1 h2 h3 h4
            · omega⟩, fun h => Bool.noConfusion h⟩, HB⟩
          case round =>
            clear hc' HE HL HB HNO
            obtain ⟨k, f, W2, a', c', rfl, rfl, rfl, hik, hkl, hc', HE, HL, HB⟩ := hrel
            cases f with
            | true =>
              have HL2 : Hid (Look A W' W2 true (fun i' _ => i' < i + 1)) := Lib.hid (look_found HL.out)
              by_cases hkn : k < way.length
              · go_wp2
                exact ⟨⟨i + 1, true, W2, a', c', rfl, rfl, by go_num, by omega, by omega, hc', HE, HL2, HB⟩, by simp [intOf]; omega⟩
              · go_wp2
                exact ⟨⟨i + 1, true, W2, a', c', rfl, rfl, by go_num, by omega, by omega, hc', HE, HL2, HB⟩, by simp [intOf]; omega⟩
            | false =>
              obtain ⟨rfl, hno⟩ := HL.out.1 rfl
              have HNO := Lib.hid hno
              clear hno
              by_cases hkn : k < way.length
              · have hWl : W2.length = way.length := HWl.out
                obtain ⟨b, o, rfl, hcE⟩ := HE.out.some (j := 0) (by omega)
                have hbs := Below.refl wr.heap.size wr
                obtain ⟨wk, hwk⟩ : ∃ wk : World, wk = wr := ⟨_, rfl⟩
                subst hwk
                have hE1 := elems_take1 HE.out i
                have hnil : wk.ownsRow wk.heap.size 3 1 (.slice none 0 0) 0 [] := World.ownsRow_nil _ _ _ _
                clear hcE hbs
                go_wp2_with (at_builtin; refine app_all rowW rfl _ _ rfl wk.heap.size rfl hnil (some ⟨b, o, none⟩) i c' (W2.take i) rfl (by rw [List.length_take]; omega) (fun h => by cases h) hE1 (by unfold maxLen; omega) (by omega) (Nat.le_refl _) ?_)
                intro v2 w2 hown2 hb2
                rw [← List.map_take] at hown2
                have HC2 : Hid (i ≤ k ∧ k < W2.length) := Lib.hid ⟨by omega, by omega⟩
                clear hE1 hnil hWl
                go_wp2
                go_loopw [9, 10] (fun uv jv wr => ∃ (c : Nat) (v : Value), v = uv ∧ i + c ≤ k + 1 ∧ jv = .int .i64 ((k : Int) - c) ∧ wr.ownsRow wk.heap.size 3 1 v (i + c) ((W2.take i ++ backL W2 k c).map (Value.int .i64)) ∧ Below wk.heap.size wk wr) (fun _ jv _ => (intOf jv - (i : Int) + 1).toNat)
                case atStart => exact ⟨0, v2, rfl, by omega, by simp, by simpa [backL] using hown2, hb2⟩
                case round =>
                  clear hown2 hb2
                  obtain ⟨c, v, rfl, hc, rfl, hown, hbw⟩ := hrel
                  have hbs := hbw.size
                  by_cases hcl : i + c < k + 1
                  · obtain ⟨j, hj⟩ : ∃ j : Nat, (k : Int) - (c : Int) = (j : Int) := ⟨k - c, by omega⟩
                    have hjW : j < W2.length := by have := HC2.out.2; omega
                    have hjn : j < way.length := by omega
                    obtain ⟨b', o', hbo, hcE⟩ := HE.out.some hjW
                    simp only [Option.some.injEq, Addr.mk.injEq, and_true] at hbo
                    obtain ⟨rfl, rfl⟩ := hbo
                    have h1 := (hbw.cell (lt_of_cell (hcE j hjW 0 _ rfl))).trans (hcE j hjW 0 _ rfl)
                    simp only [Nat.add_zero, Nat.mul_one] at h1
                    have HBK : Hid (backL W2 k (c + 1) = backL W2 k c ++ [W2[j]]) := Lib.hid (by
                      rw [back_succ, show k - c = j by omega]
                      simp [List.getD, hjW])
                    have HJ : Hid ((j : Int) - 1 = (k : Int) - ((c + 1 : Nat) : Int)) := Lib.hid (by omega)
                    have hji : (i : Int) ≤ (j : Int) := by omega
                    rw [hj]
                    clear hcE hj hc
                    generalize W2[j] = x at *
                    go_wp2_with (at_builtin; (refine app_row rowW rfl _ _ rfl wk.heap.size rfl hown [.int .i64 x] rfl (by first | rfl | simp) rfl (encI_one _) (by unfold maxLen; omega) (by omega) hbs ?_))
                    intro v' w4 hown4 hb4
                    have hown5 : w4.ownsRow wk.heap.size 3 1 v' (i + c + 1) ((W2.take i ++ backL W2 k (c + 1)).map (Value.int .i64)) := by
                      rw [HBK.out, List.map_append, List.map_append, List.map_take]
                      exact hown4
                    have hb5 := hbw.trans hb4
                    have HO4 := Lib.hid hown5
                    clear hown5
                    clear hown4 hown hb4 hbw h1
                    go_wp2
                    exact ⟨⟨c + 1, v', rfl, by have := HJ.out; push_cast at this; omega, congrArg (Value.int .i64) HJ.out, HO4.out, hb5⟩, by simp [intOf]; omega⟩
                  · obtain ⟨j, hj⟩ : ∃ j : Int, (k : Int) - (c : Int) = j := ⟨_, rfl⟩
                    have hji : ¬ (i : Int) ≤ j := by omega
                    have hce : c = k + 1 - i := by omega
                    have hlen : i + c = k + 1 := by omega
                    rw [hce] at hown
                    rw [hj]
                    rw [show i + (k + 1 - i) = k + 1 by omega] at hown
                    have hrv := back_all (W := W2) (i := i) (k := k) HC2.out.1 HC2.out.2
                    have hE2 : ∃ ad2 : Addr, (if c' = k + 1 then some (⟨b, o, none⟩ : Addr) else some ⟨b, o + (k + 1), none⟩) = some ad2 ∧ Elems encI 1 wr (some ad2) (W2.drop (k + 1)) := by
                      by_cases h : c' = k + 1
                      · exact ⟨⟨b, o, none⟩, if_pos h, Or.inl (List.drop_eq_nil_of_le (by have := HWl.out; omega))⟩
                      · exact ⟨_, if_neg h, elems_drop1 (HE.out.below hbw (Nat.le_refl _)) (k + 1)⟩
                    obtain ⟨ad2, had2, hed⟩ := hE2
                    have hw1 : IntKind.i64.wrap ((k : Int) + 1) = (k : Int) + 1 := IntWalk.i64_in _ (by omega)
                    have hj1 : (0 : Int) ≤ (k : Int) + 1 := by omega
                    have hj2 : (k : Int) + 1 ≤ (way.length : Int) := by omega
                    have hj3 : (k : Int) + 1 ≤ (c' : Int) := by omega
                    have hj4 : ((k : Int) + 1).toNat = k + 1 := by omega
                    have hj5 : way.length ≤ c' := hc'
                    have HRV := Lib.hid hrv
                    have HHL : Hid (way.length - (k + 1) = (W2.drop (k + 1)).length ∧ k + 1 + (way.length - (k + 1)) = way.length) := Lib.hid ⟨by rw [List.length_drop, HWl.out], by omega⟩
                    clear hrv hj hce hlen hcl hc
                    go_wp2_with (at_builtin; refine app_all rowW rfl _ _ rfl wk.heap.size rfl hown (some ad2) (way.length - (k + 1)) (c' - (k + 1)) (W2.drop (k + 1)) rfl HHL.out.1 (fun h => by cases h) hed (by unfold maxLen; omega) (by omega) hbs ?_)
                    intro v3 w3 hown3 hb3
                    have hown4 : w3.ownsRow wk.heap.size 3 1 v3 way.length ((revM W2 i k).map (Value.int .i64)) := by
                      rw [← HRV.out, List.map_append, List.map_append, List.map_take, List.map_drop, List.append_assoc]
                      rw [HHL.out.2] at hown3
                      exact hown3
                    have hrl : (revM W2 i k).length = way.length := (rev_len (by omega) HC2.out.2).trans HWl.out
                    obtain ⟨a6, c6, rfl, he6, hc6⟩ := ints_of_owns hrl.symm hown4
                    rw [hrl]
                    have hb03 := hbw.trans hb3
                    have HE6 := Lib.hid he6
                    have HB3 := Lib.hid hb03
                    have HE2 := Lib.hid (HE.out.below hb03 (Nat.le_refl _))
                    have HWR : Hid (WayOk A (revM W2 i k)) := Lib.hid (wayOk_rev HW.out.1 (by omega) HC2.out.2)
                    have hww := below_next hb (below_next HB.out hb03)
                    have HWW := Lib.hid hww
                    have HLESS := Lib.hid (helps_less HS.out HW.out.1 (A := A) (w := W2) (i := i) (k := k) hi1 (by omega) HC2.out.2)
                    have HLA := Lib.hid (HLONG.out (some ⟨b, o, none⟩) c' W2 · HW.out.1)
                    have HLB := Lib.hid (HLONG.out a6 c6 (revM W2 i k) w3 HWR.out (HRR.out.at hww) he6)
                    clear hown hown3 hown4 hb3 hbw hed had2 hw1 hj1 hj2 hj3 hj4 hj5 he6 hrl hb03 hww
                    go_wp2_with fail
                    refine HLB.out.mono ?_
                    rintro e w4 ⟨rfl, hb4⟩
                    have hb34 := below_next HB3.out hb4
                    have hww4 := below_next HWW.out hb4
                    have HLA4 := Lib.hid (HLA.out w4 (HRR.out.at hww4) (HE2.out.at hb4))
                    clear hww4
                    generalize hLu : longM A (revM W2 i k) = lu at *
                    generalize hLw : longM A W2 = lw at *
                    have HLE := Lib.hid HLESS.out
                    clear hLu hLw
                    go_wp2_with fail
                    refine HLA4.out.mono ?_
                    rintro e w5 ⟨rfl, hb5⟩
                    have HB5 := Lib.hid (below_next HB.out (below_next hb34 hb5))
                    have hb45 := below_next hb4 hb5
                    by_cases hll : lu < lw
                    · have HL5 : Hid (Look A W2 (revM W2 i k) true (fun i' k' => i' < i ∨ i' = i ∧ k' < k + 1)) := Lib.hid ⟨fun h => Bool.noConfusion h, fun _ => ⟨i, k, ⟨hi1, by omega, HC2.out.2, HLE.out.1 hll, fun i' k' h1 h2 h3 h4 => HNO.out i' k' h1 h2 h3 h4⟩, rfl⟩⟩
                      have HE7 := Lib.hid (HE6.out.at hb45)
                      clear hb4 hb34 hb5 hb45
                      go_wp2
                      exact ⟨⟨k + 1, true, revM W2 i k, a6, c6, rfl, rfl, by go_num, by omega, by omega, hc6, HE7, HL5, HB5⟩, by simp [intOf]; omega⟩
                    · have HL5 : Hid (Look A W2 W2 false (fun i' k' => i' < i ∨ i' = i ∧ k' < k + 1)) := Lib.hid ⟨fun _ => ⟨rfl, fun i' k' h1 h2 h3 h4 => by
                        rcases h4 with h4 | ⟨h4, h5⟩
                        · exact HNO.out i' k' h1 h2 h3 (Or.inl h4)
                        · rcases Nat.lt_or_ge k' k with h6 | h6
                          · exact HNO.out i' k' h1 h2 h3 (Or.inr ⟨h4, h6⟩)
                          · obtain rfl : k' = k := by omega
                            rw [h4]
                            exact fun h => hll (HLE.out.2 h)⟩, fun h => Bool.noConfusion h⟩
                      have HE7 := Lib.hid (HE2.out.at hb45)
                      clear hb4 hb34 hb5 hb45
                      go_wp2
                      exact ⟨⟨k + 1, false, W2, some ⟨b, o, none⟩, c', rfl, rfl, by go_num, by omega, by omega, hc', HE7, HL5, HB5⟩, by simp [intOf]; omega⟩
              · obtain rfl : k = way.length := by omega
                have HL2 : Hid (Look A W2 W2 false (fun i' _ => i' < i + 1)) := Lib.hid ⟨fun _ => ⟨rfl, fun i' k' h1 h2 h3 h4 => HNO.out i' k' h1 h2 h3 (by have := HWl.out; omega)⟩, fun h => Bool.noConfusion h⟩
                go_wp2
                exact ⟨⟨i + 1, false, W2, a', c', rfl, rfl, by go_num, by omega, by omega, hc', HE, HL2, HB⟩, by simp [intOf]; omega⟩
        · have hN : NoneAt A W' := fun i' k' h1 h2 h3 => HNO.out i' k' h1 h2 h3 (by have := HWl.out; omega)
          have HEND := Lib.hid (HW.out.2.2 _ (EndsAt.done hN))
          have hb1 := below_next hb HB.out
          clear hN
          go_wp2
          go_ret
          unfold RefBetPost
          exact ⟨a', c', W', rfl, HE.out, HEND.out, HW.out.1.1, hb1⟩
end Go.Proofs.YtfaklhkdfpfjgaaDoor
