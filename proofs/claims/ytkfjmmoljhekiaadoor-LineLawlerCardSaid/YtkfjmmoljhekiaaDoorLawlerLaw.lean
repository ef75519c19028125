/- The law LineLawler: the program's row and its greatest cost are the reference's. -/
import Derived.Test.YtkfjmmoljhekiaaDoorRefLawler
import Derived.Test.YtkfjmmoljhekiaaDoorSame
import Derived.Test.YtkfjmmoljhekiaaDoorWhole
namespace Go.Proofs.YtkfjmmoljhekiaaDoor
open Go.RowKit

theorem totL_le {A : List (List Int)} {B : Nat} (h : ∀ r ∈ A, r.length ≤ B) : ∀ k, totL A k ≤ k * B := by
  intro k
  induction k with
  | zero => simp [totL]
  | succ k ih =>
    have h1 : (A.getD k []).length ≤ B := by
      rcases Nat.lt_or_ge k A.length with g | g
      · rw [show A.getD k [] = A[k] by simp [List.getD, g]]; exact h _ (List.getElem_mem g)
      · simp [List.getD, List.getElem?_eq_none g]
    show totL A k + (A.getD k []).length ≤ (k + 1) * B
    rw [Nat.succ_mul]
    omega

set_option maxRecDepth 100000 in
set_option maxHeartbeats 8000000 in
theorem lineLawler_law (a a2 : Option Addr) (n n2 cap cap2 : Nat) (xs : List R3) (A : List (List Int)) (w : World) (hg : Hnd w) (hl : n = xs.length) (hl2 : n2 = A.length) (hn : n ≤ maxLen) (hn2 : n2 ≤ maxLen) (hz : ∀ r ∈ A, r.length ≤ 17592186044416) (hx : Elems enc3 3 w a xs) (hr : Rows2 w a2 A) :
    Calls Tryd.prog 10 #[.slice a n cap, .slice a2 n2 cap2] w fun e w' => e = .returned (.bool true) ∧ Below w.heap.size w w' := by
  subst hl; subst hl2
  unfold maxLen at hn hn2
  have HX := Lib.hid hx
  have HRR := Lib.hid hr
  have HTL := Lib.hid (totL_le hz)
  have HZ := Lib.hid hz
  clear hx hr hz
  go_enter Tryd.func10, Tryd.ntmps10
  go_wp2_with fail
  go_loop [5, 6] (fun nv iv => ∃ (k : Nat) (v : Int), k ≤ A.length ∧ iv = .int .i64 k ∧ nv = .int .i64 v ∧ Hid (A.length ≤ 200 → v = A.length + totL A k)) (fun _ iv => A.length - (intOf iv).toNat)
  case atStart => exact ⟨0, A.length, by omega, rfl, rfl, Lib.hid (fun _ => by simp [totL])⟩
  case round =>
    obtain ⟨k, v, hk, rfl, rfl, HV⟩ := hrel
    by_cases hlt : k < A.length
    · obtain ⟨b2, o2, rfl, hcA⟩ := HRR.out.some hlt
      obtain ⟨ar, cr, e1, e2, e3, e4⟩ := hcA k hlt
      have hAk : A[k] = A.getD k [] := by simp [List.getD, hlt]
      have hz1 := HZ.out _ (List.getElem_mem hlt)
      have hts : totL A (k + 1) = totL A k + A[k].length := by rw [hAk]; rfl
      have HTS := Lib.hid hts
      clear hcA e2 e3 e4 hAk hts
      generalize A[k].length = rl at *
      by_cases hA2 : A.length ≤ 200
      · have hv := HV.out hA2
        have htb := HTL.out k
        have hv1 : 0 ≤ v := by omega
        have hv2 : v ≤ 4000000000000000 := by
          have : totL A k ≤ 200 * 17592186044416 := Nat.le_trans htb (Nat.mul_le_mul_right _ (by omega))
          omega
        have HV2 : Hid (A.length ≤ 200 → v + rl = A.length + totL A (k + 1)) := Lib.hid (fun h => by rw [HV.out h, HTS.out]; omega)
        clear HV hv htb
        go_wp2_with fail
        exact ⟨⟨k + 1, v + rl, by omega, by go_num, by go_num, HV2⟩, by simp [intOf]; omega⟩
      · have HV2 : ∀ u : Int, Hid (A.length ≤ 200 → u = A.length + totL A (k + 1)) := fun u => Lib.hid (fun h => absurd h hA2)
        clear HV
        go_wp2_with fail
        exact ⟨⟨k + 1, _, by omega, by go_num, rfl, HV2 _⟩, by simp [intOf]; omega⟩
    · obtain rfl : k = A.length := by omega
      by_cases hA : 100 < xs.length
      · have hd : decide ((100 : Int) < (xs.length : Int)) = true := by simp; omega
        go_wp2
        go_ret
        exact ⟨rfl, Below.refl _ _⟩
      have hd : decide ((100 : Int) < (xs.length : Int)) = false := by simp; omega
      by_cases hB : 200 < v
      · have hd2 : decide ((200 : Int) < v) = true := by simpa using hB
        go_wp2
        go_ret
        exact ⟨rfl, Below.refl _ _⟩
      have hd2 : decide ((200 : Int) < v) = false := by simpa using hB
      have hT : A.length = xs.length → totL A A.length ≤ 200 := fun h => by
        have := HV.out (by omega)
        omega
      have H1 : ∀ (a : Option Addr) (c : Nat) w, Elems enc3 3 w a xs → Rows2 w a2 A → _ := fun a c w h1 h2 => refLawler_any a a2 _ _ c cap2 xs A w rfl rfl (by omega) hT h1 h2
      have H2 := fun w h1 h2 => lawler_any a a2 _ _ cap cap2 xs A w rfl rfl (by omega) hT h1 h2
      have hlen := lawler_len xs A (fun h => tasks_ok_len h)
      have herr := lawler_err xs A
      obtain ⟨er, ys, wo, hM⟩ : ∃ er ys wo, lawlerM xs A = (er, ys, wo) := ⟨_, _, _, rfl⟩
      rw [hM] at H1 H2 hlen herr
      simp only at H1 H2 hlen herr
      have hyl : ys.length ≤ 1000 := by omega
      have HE : Hid (er ≠ 0 → ys = [] ∧ wo = 0) := Lib.hid (fun h => by simpa using herr h)
      clear hM hT herr hB HV hlen
      go_wp2_with fail
      refine (tasks_any _ _ _ xs _ (by omega) rfl HX.out).mono ?_
      rintro e w1 ⟨a1, c1, rfl, he1, hb1⟩
      have H1' := H1 a1 c1 _ he1 (HRR.out.at hb1)
      clear H1
      go_wp2_with fail
      refine H1'.mono ?_
      rintro e w2 ⟨a3, c3, rfl, he2, hb2⟩
      have h02 := below_next hb1 hb2
      have H2' := H2 _ (HX.out.at h02) (HRR.out.at h02)
      clear H2 H1'
      go_wp2_with fail
      refine H2'.mono ?_
      rintro e w3 ⟨a4, c4, rfl, he3, hb3⟩
      have h03 := below_next h02 hb3
      clear H2'
      have hg3 := hg.at h03
      have he2' := he2.at hb3
      go_wp2_with fail
      refine (ints_any er _ _ _ _ _ _ ys ys _ hg3 rfl rfl hyl hyl he3 he2' (fun _ => rfl) (fun h => by rw [(HE.out h).1]; rfl)).mono ?_
      rintro e w4 ⟨rfl, hb4⟩
      have h04 := below_next h03 hb4
      go_wp2_with fail
      refine (whole_any er wo wo _ (hg.at h04) (fun _ => rfl) (fun h => (HE.out h).2)).mono ?_
      rintro e w5 ⟨rfl, hb5⟩
      go_wp2
      go_ret
      exact ⟨rfl, below_next h04 hb5⟩
end Go.Proofs.YtkfjmmoljhekiaaDoor
