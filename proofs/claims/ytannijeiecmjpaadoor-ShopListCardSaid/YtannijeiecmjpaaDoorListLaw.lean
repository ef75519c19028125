/- The law ShopList. -/
import Derived.Test.YtannijeiecmjpaaDoorListW
import Derived.Test.YtannijeiecmjpaaDoorRefList
import Derived.Test.YtannijeiecmjpaaDoorWhole
namespace Go.Proofs.YtannijeiecmjpaaDoor
open Go.RowKit

set_option maxRecDepth 100000 in
set_option maxHeartbeats 4000000 in
theorem list_law (a ar : Option Addr) (n nr cap cr : Nat) (m : Int) (l row : List Int) (w : World) (hg : Hnd w) (hl : n = l.length) (hr : nr = row.length) (hn : n ≤ maxLen) (hnr : nr ≤ maxLen) (hcap : nr ≤ cr) (hx : Elems encI 1 w a l) (hxr : Elems encI 1 w ar row) :
    Calls Tryd.prog 4 #[.slice a n cap, .int .i64 m, .slice ar nr cr] w fun e w' => e = .returned (.bool true) ∧ Below w.heap.size w w' := by
  subst hl
  subst hr
  unfold maxLen at hn hnr
  by_cases hA : 100 < l.length
  · have hd : decide ((100 : Int) < (l.length : Int)) = true := by simp; omega
    clear hx hxr
    go_enter Tryd.func4, Tryd.ntmps4
    go_wp2
    go_ret
    exact ⟨rfl, Below.refl _ _⟩
  have hd : decide ((100 : Int) < (l.length : Int)) = false := by simp; omega
  by_cases hB : 100 < row.length
  · have hd2 : decide ((100 : Int) < (row.length : Int)) = true := by simp; omega
    clear hx hxr
    go_enter Tryd.func4, Tryd.ntmps4
    go_wp2
    go_ret
    exact ⟨rfl, Below.refl _ _⟩
  have hd2 : decide ((100 : Int) < (row.length : Int)) = false := by simp; omega
  have H1 := Lib.hid (fun w' (hb : Below w.heap.size w w') => refLengths_any a l.length cap m l w' rfl (by omega) (hx.at hb))
  have H2 := Lib.hid (fun w' (hb : Below w.heap.size w w') => refOrder_any ar row.length cr (l.length : Int) row w' rfl (by omega) (hxr.at hb) hcap)
  have H4 := Lib.hid (fun w' (hb : Below w.heap.size w w') => list_any a ar l.length cap row.length cr m l row w' rfl rfl (by omega) (by omega) (hx.at hb) (hxr.at hb))
  by_cases hC : lenErr l m = 0
  case neg =>
    have hq : (lenErr l m == 0) = false := by simpa using hC
    have HC := Lib.hid hC
    have HE : Hid (listErr l m row = lenErr l m) := Lib.hid (if_pos hC)
    clear hC hx hxr
    go_enter Tryd.func4, Tryd.ntmps4
    go_wp2_with fail
    refine (H1.out w (Below.refl _ _)).mono ?_
    rintro e w1 ⟨rfl, hb1⟩
    go_wp2_with fail
    refine (H4.out w1 hb1).mono ?_
    rintro e w2 ⟨hb2, h4⟩
    have h02 := below_next hb1 hb2
    rw [HE.out] at h4
    rcases h4 with ⟨_, rfl⟩ | ⟨h4, _⟩
    case inr => exact absurd h4 HC.out
    go_wp2_with fail
    refine (whole_any (lenErr l m) 0 0 _ (hg.at h02) (fun _ => rfl) (fun _ => rfl)).mono ?_
    rintro e w3 ⟨rfl, hb3⟩
    have h03 := below_next h02 hb3
    go_wp2_with fail
    refine (parts_any none none 0 0 0 0 [] _ rfl rfl (by simp) (Or.inl rfl) (Or.inl rfl)).mono ?_
    rintro e w4 ⟨rfl, hb4⟩
    go_wp2
    go_ret
    exact ⟨rfl, below_next h03 hb4⟩
  have hq : (lenErr l m == 0) = true := by simpa using hC
  have hE : listErr l m row = orderM row l.length := if_neg (by simp [hC])
  by_cases hO : orderM row l.length = 0
  case neg =>
    have hq2 : (orderM row l.length == 0) = false := by simpa using hO
    have HO := Lib.hid hO
    have HE := Lib.hid hE
    clear hC hO hE hx hxr
    go_enter Tryd.func4, Tryd.ntmps4
    go_wp2_with fail
    refine (H1.out w (Below.refl _ _)).mono ?_
    rintro e w1 ⟨rfl, hb1⟩
    go_wp2_with fail
    refine (H2.out w1 hb1).mono ?_
    rintro e w1b ⟨rfl, hb1b⟩
    have h01 := below_next hb1 hb1b
    go_wp2_with fail
    refine (H4.out w1b h01).mono ?_
    rintro e w2 ⟨hb2, h4⟩
    have h02 := below_next h01 hb2
    rw [HE.out] at h4
    rcases h4 with ⟨_, rfl⟩ | ⟨h4, _⟩
    case inr => exact absurd h4 HO.out
    go_wp2_with fail
    refine (whole_any (orderM row l.length) 0 0 _ (hg.at h02) (fun _ => rfl) (fun _ => rfl)).mono ?_
    rintro e w3 ⟨rfl, hb3⟩
    have h03 := below_next h02 hb3
    go_wp2_with fail
    refine (parts_any none none 0 0 0 0 [] _ rfl rfl (by simp) (Or.inl rfl) (Or.inl rfl)).mono ?_
    rintro e w4 ⟨rfl, hb4⟩
    go_wp2
    go_ret
    exact ⟨rfl, below_next h03 hb4⟩
  have hq2 : (orderM row l.length == 0) = true := by simpa using hO
  obtain ⟨g1, g2, g3, g4⟩ := len_ok hC
  obtain ⟨q1, q2⟩ := order_ok hO
  have HO := Lib.hid hO
  have HE := Lib.hid hE
  have HLN : Hid ((listTo l row m.toNat row.length).2.2.length = row.length) := Lib.hid (listTo_len l row m.toNat row.length (Nat.le_refl _)).2
  have H3 := Lib.hid (fun w' (hb : Below w.heap.size w w') => refListed_any a ar l.length cap row.length cr m l row w' rfl rfl g1 g2 (by omega) (by omega) g4 (fun j hj => ⟨(q2 j hj).1, (q2 j hj).2.1⟩) (hx.at hb) (hxr.at hb))
  have hr100 : row.length ≤ 100 := by omega
  clear hC hO hE hx hxr g1 g2 g3 g4 q1 q2
  go_enter Tryd.func4, Tryd.ntmps4
  go_wp2_with fail
  refine (H1.out w (Below.refl _ _)).mono ?_
  rintro e w1 ⟨rfl, hb1⟩
  go_wp2_with fail
  refine (H2.out w1 hb1).mono ?_
  rintro e w1b ⟨rfl, hb1b⟩
  have h01 := below_next hb1 hb1b
  go_wp2_with fail
  refine (H3.out w1b h01).mono ?_
  rintro e w2 ⟨hb2, a2, c2, rfl, he2⟩
  have h02 := below_next h01 hb2
  have HE2 := Lib.hid he2
  clear he2
  go_wp2_with fail
  refine (H4.out w2 h02).mono ?_
  rintro e w3 ⟨hb3, h4⟩
  have h03 := below_next h02 hb3
  rw [HE.out] at h4
  rcases h4 with ⟨h4, _⟩ | ⟨_, a3, c3, rfl, he3⟩
  case inl => exact absurd HO.out h4
  have HE3 := Lib.hid he3
  have hwh := whole_any 0 (listTo l row m.toNat row.length).2.1 (listTo l row m.toNat row.length).2.1 w3 (hg.at h03) (fun _ => rfl) (fun h => absurd rfl h)
  rw [show errV 0 = .nilIface from rfl] at hwh
  have HWH := Lib.hid hwh
  clear hwh
  clear he3
  go_wp2_with fail
  refine HWH.out.mono ?_
  rintro e w4 ⟨rfl, hb4⟩
  have h04 := below_next h03 hb4
  go_wp2_with fail
  refine (parts_any _ _ _ _ _ _ (listTo l row m.toNat row.length).2.2 _ HLN.out.symm HLN.out.symm (by rw [HLN.out]; omega) (HE3.out.at hb4) (HE2.out.at (below_next hb3 hb4))).mono ?_
  rintro e w5 ⟨rfl, hb5⟩
  go_wp2
  go_ret
  exact ⟨rfl, below_next h04 hb5⟩
end Go.Proofs.YtannijeiecmjpaaDoor
