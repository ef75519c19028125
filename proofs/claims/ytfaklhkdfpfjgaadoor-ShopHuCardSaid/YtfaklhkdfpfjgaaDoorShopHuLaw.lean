/- The law ShopHu: when each task of a forest is done by levels is the reference's, or both tell the same error. -/
import Derived.Test.YtfaklhkdfpfjgaaDoorHuW
import Derived.Test.YtfaklhkdfpfjgaaDoorRefHu
import Derived.Test.YtfaklhkdfpfjgaaDoorSame
namespace Go.Proofs.YtfaklhkdfpfjgaaDoor
open Go.RowKit

set_option maxRecDepth 100000 in
set_option maxHeartbeats 4000000 in
theorem shopHu_law (a : Option Addr) (n cap : Nat) (m : Int) (next : List Int) (w : World) (hg : Hnd w) (hl : n = next.length) (hn : n ≤ maxLen) (hx : Elems encI 1 w a next) :
    Calls Tryd.prog 7 #[.slice a n cap, .int .i64 m] w fun e w' => e = .returned (.bool true) ∧ Below w.heap.size w w' := by
  subst hl
  unfold maxLen at hn
  by_cases hb : 100 < next.length
  · go_enter Tryd.func7, Tryd.ntmps7
    go_wp2
    go_ret
    exact ⟨rfl, Below.refl _ _⟩
  have H1 := Lib.hid (fun w' h => refHu_any a _ cap m next w' rfl (by omega) h)
  have H2 := Lib.hid (fun w' h => hu_any a _ cap m next w' rfl (by omega) h)
  have HX := Lib.hid hx
  have hl0 : next.length ≤ 100 := by omega
  clear hx
  go_enter Tryd.func7, Tryd.ntmps7
  go_wp2_with fail
  refine (H1.out w HX.out).mono ?_
  intro e w1 hw
  unfold HuPost at hw
  obtain ⟨hb1, hcase⟩ := hw
  have HB1 := Lib.hid hb1
  rcases hcase with ⟨hne, rfl⟩ | ⟨he0, T, a3, c3, hT, rfl, he3⟩
  · have HNE := Lib.hid hne
    clear hb1 hne H1
    generalize hev : huErr next m = ev at *
    have HEV := Lib.hid hev
    clear hev
    go_wp2_with fail
    refine (H2.out w1 (HX.out.at HB1.out)).mono ?_
    intro e w2 hw
    unfold HuWPost at hw
    obtain ⟨hb2, hcase⟩ := hw
    rcases hcase with ⟨_, rfl⟩ | ⟨he0, _⟩
    · rw [HEV.out]
      have HB2 := Lib.hid (below_next HB1.out hb2)
      clear hb2
      go_wp2_with fail
      refine (ints_any ev none none 0 0 0 0 [] [] _ (hg.at HB2.out) rfl rfl (by simp) (by simp) (Or.inl rfl) (Or.inl rfl) (fun _ => rfl) (fun _ => rfl)).mono ?_
      rintro e w3 ⟨rfl, hb3⟩
      go_wp2
      go_ret
      exact ⟨rfl, below_next HB2.out hb3⟩
    · exact absurd (HEV.out.symm.trans he0) HNE.out
  · have HE0 := Lib.hid he0
    have HT := Lib.hid hT
    have HE3 := Lib.hid he3
    clear hb1 he0 hT he3 H1
    go_wp2_with fail
    refine (H2.out w1 (HX.out.at HB1.out)).mono ?_
    intro e w2 hw
    unfold HuWPost at hw
    obtain ⟨hb2, hcase⟩ := hw
    rcases hcase with ⟨hne, _⟩ | ⟨_, T2, a4, c4, hT2, rfl, he4⟩
    · exact absurd HE0.out hne
    · have hTT : T2 = T := ends_one hT2 HT.out
      have HB2 := Lib.hid (below_next HB1.out hb2)
      have HE4 : Hid (Elems encI 1 w2 a4 (seqM next m.toNat T)) := Lib.hid (by rw [← hTT]; exact he4)
      have HE34 := Lib.hid (HE3.out.at hb2)
      have HLN := Lib.hid (seq_len next m.toNat T)
      clear hb2 hT2 he4 hTT
      rw [show (Value.nilIface) = errV 0 from rfl]
      go_wp2_with fail
      refine (ints_any 0 a4 a3 _ _ _ _ (seqM next m.toNat T) (seqM next m.toNat T) _ (hg.at HB2.out) HLN.out.symm HLN.out.symm (by rw [HLN.out]; omega) (by rw [HLN.out]; omega) HE4.out HE34.out (fun _ => rfl) (fun h => absurd rfl h)).mono ?_
      rintro e w3 ⟨rfl, hb3⟩
      go_wp2
      go_ret
      exact ⟨rfl, below_next HB2.out hb3⟩
end Go.Proofs.YtfaklhkdfpfjgaaDoor
