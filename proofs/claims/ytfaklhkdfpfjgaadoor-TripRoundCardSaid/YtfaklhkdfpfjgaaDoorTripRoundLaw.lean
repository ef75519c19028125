/- The law TripRound: a shortest round way and its length are the reference's, or both tell the same error. -/
import Derived.Test.YtfaklhkdfpfjgaaDoorRoundW
import Derived.Test.YtfaklhkdfpfjgaaDoorRefRound2
import Derived.Test.YtfaklhkdfpfjgaaDoorSame
import Derived.Test.YtfaklhkdfpfjgaaDoorWhole
namespace Go.Proofs.YtfaklhkdfpfjgaaDoor
open Go.RowKit

set_option maxRecDepth 100000 in
set_option maxHeartbeats 8000000 in
theorem round_bad (a : Option Addr) (n cap : Nat) (A : List (List Int)) (w : World) (hl : n = A.length) (hn : n ≤ maxLen) (hM : mapCheck A ≠ 0) (hr : Rows2 w a A) :
    Calls Tryd.prog 48 #[.slice a n cap] w fun e w' => e = .returned (.tuple #[.slice none 0 0, .int .i64 0, errV (mapCheck A)]) ∧ Below w.heap.size w w' := by
  subst hl
  have HC1 := tripChk_any a _ cap A w rfl hn hr
  have hV : errV (mapCheck A) = .iface 25 (.int .i64 (mapCheck A)) := if_neg hM
  rw [hV] at HC1 ⊢
  clear hV hM
  generalize mapCheck A = ev at *
  go_enter Tryd.func48, Tryd.ntmps48
  go_wp2_with fail
  refine HC1.mono ?_
  rintro e w1 ⟨rfl, hb1⟩
  go_wp2
  go_ret3
  exact ⟨rfl, hb1⟩
/-- What trip.Round answers. -/
def RoundAPost (A : List (List Int)) (w : World) (e : Ending) (w' : World) : Prop :=
  ∃ ar cr c row, topR A = some (c, row) ∧ e = .returned (.tuple #[.slice ar row.length cr, .int .i64 c, .nilIface]) ∧ Elems encI 1 w' ar row ∧ Below w.heap.size w w'
set_option maxRecDepth 100000 in
set_option maxHeartbeats 8000000 in
theorem round_small (a : Option Addr) (cap : Nat) (A : List (List Int)) (w : World) (hM : mapCheck A = 0) (hA2 : A.length < 2) (hr : Rows2 w a A) :
    Calls Tryd.prog 48 #[.slice a A.length cap] w (RoundAPost A w) := by
  have HC1 := tripChk_any a _ cap A w rfl (by unfold maxLen; omega) hr
  rw [hM, show errV 0 = .nilIface from rfl] at HC1
  have HTOP : Hid (topR A = some (0, tabN A.length (fun _ => 0))) := Lib.hid (by
    unfold topR
    by_cases h0 : A.length = 0
    · rw [if_pos h0, h0]; rfl
    · have h1 : A.length = 1 := by omega
      rw [if_neg h0, if_pos h1, h1]; rfl)
  unfold RoundAPost
  rw [HTOP.out]
  clear hM hr HTOP
  obtain ⟨n, hn⟩ : ∃ n, n = A.length := ⟨_, rfl⟩
  rw [← hn] at hA2 HC1 ⊢
  clear hn
  obtain ⟨Z, hmk, hrow⟩ := made_row rowAI n (n : Int) rfl (by omega) (by unfold maxLen; omega)
  have hrow2 : ∀ (w : World) (base : Nat), base ≤ w.heap.size → (w.alloc (.cells Z 3)).ownsRow base 3 1 (.slice (some ⟨w.heap.size, 0, none⟩) n n) n ((tabN n (fun _ => 0)).map (Value.int .i64)) := fun w base h => by
    have h1 := hrow w base h
    rw [show (madeCells (Value.int IntKind.i64 0).cells (n * 1)).toList = (madeCells #[Value.int .i64 0] n).toList by simp [Value.cells], made_ints, tabN_same] at h1
    exact h1
  have HROW := Lib.hid hrow2
  clear hrow hrow2
  go_enter Tryd.func48, Tryd.ntmps48
  go_wp2_with fail
  refine HC1.mono ?_
  rintro e w1 ⟨rfl, hb1⟩
  go_wp2
  go_ret3
  have hl : (tabN n (fun _ => 0)).length = n := by unfold tabN; simp
  obtain ⟨ar, cr, hq, he, _⟩ := ints_of_owns hl.symm (HROW.out w1 w.heap.size hb1.size)
  refine ⟨ar, cr, 0, _, rfl, ?_, he, hb1.alloc hb1.size _⟩
  simp only [hq]
  rfl
theorem round_any (a : Option Addr) (cap : Nat) (A : List (List Int)) (w : World) (hM : mapCheck A = 0) (hA6 : A.length ≤ 6) (hr : Rows2 w a A) :
    Calls Tryd.prog 48 #[.slice a A.length cap] w (RoundAPost A w) := by
  by_cases h2 : A.length < 2
  · exact round_small a cap A w hM h2 hr
  · refine (roundW_ok a cap A w hM (by omega) hA6 hr).mono ?_
    intro e w' hw
    unfold RoundWPost at hw
    obtain ⟨ar, cr, c, p, h1, h3, h4, h5⟩ := hw
    unfold RoundAPost
    refine ⟨ar, cr, c, 0 :: p.map (fun k : Nat => (k : Int)), ?_, ?_, h4, h5⟩
    · unfold topR
      rw [if_neg (by omega), if_neg (by omega), h1]
      rfl
    · rw [h3, List.length_cons, List.length_map]
theorem bestS_len {A : List (List Int)} (hA : ∀ r ∈ A, r.length = A.length ∧ ∀ x ∈ r, 0 ≤ x ∧ x ≤ 1000000000) {n : Nat} (hn : n ≤ 6) (hl : A.length = n) : ∀ (m s a : Nat) (c : Int) (p : List Nat), s ≤ m → s < 2 ^ n → a < n → bestS A n a s = some (c, p) → p.length ≤ s := by
  intro m
  have h64 : 2 ^ n ≤ 2 ^ 6 := Nat.pow_le_pow_right (by omega) hn
  induction m with
  | zero =>
    intro s a c p h1 h2 h3 h4
    obtain ⟨c2, p2, h5, _, _, h6, _⟩ := bestS_some hA hn hl s s a (Nat.le_refl _) h2 h3
    rw [h4] at h5
    simp only [Option.some.injEq, Prod.mk.injEq] at h5
    rw [h5.2, (h6 (by omega)).1]
    simp
  | succ m ih =>
    intro s a c p h1 h2 h3 h4
    obtain ⟨c2, p2, h5, _, _, h6, h7⟩ := bestS_some hA hn hl s s a (Nat.le_refl _) h2 h3
    rw [h4] at h5
    simp only [Option.some.injEq, Prod.mk.injEq] at h5
    by_cases hs : s = 0
    · rw [h5.2, (h6 hs).1]
      simp
    · obtain ⟨k, c', p', hk, hb, hp, hb2, _⟩ := h7 hs
      have hlt := bit_lt (show s < 64 by omega) (show k < 6 by omega) hb
      have := ih (s - 2 ^ k) k c' p' (by omega) (by omega) hk hb2
      rw [h5.2, hp, List.length_cons]
      omega
theorem topR_len {A : List (List Int)} (hM : mapCheck A = 0) (hA6 : A.length ≤ 6) {c : Int} {row : List Int} (h : topR A = some (c, row)) : row.length ≤ 1000 := by
  have h64 : 2 ^ A.length ≤ 2 ^ 6 := Nat.pow_le_pow_right (by omega) hA6
  unfold topR at h
  by_cases h0 : A.length = 0
  · rw [if_pos h0] at h
    simp only [Option.some.injEq, Prod.mk.injEq] at h
    rw [← h.2]; simp
  · rw [if_neg h0] at h
    by_cases h1 : A.length = 1
    · rw [if_pos h1] at h
      simp only [Option.some.injEq, Prod.mk.injEq] at h
      rw [← h.2]; simp
    · rw [if_neg h1] at h
      have hp : 0 < 2 ^ A.length := Nat.two_pow_pos _
      obtain ⟨c2, p2, h5, _⟩ := bestS_some (map_ok hM).2 hA6 rfl (2 ^ A.length - 2) (2 ^ A.length - 2) 0 (Nat.le_refl _) (by omega) (by omega)
      rw [h5] at h
      simp only [Option.map_some, Option.some.injEq, Prod.mk.injEq] at h
      have h6 := bestS_len (map_ok hM).2 hA6 rfl (2 ^ A.length - 2) (2 ^ A.length - 2) 0 c2 p2 (Nat.le_refl _) (by omega) (by omega) h5
      rw [← h.2, List.length_cons, List.length_map]
      omega

set_option maxRecDepth 100000 in
set_option maxHeartbeats 8000000 in
theorem tripRound_law (a : Option Addr) (n cap : Nat) (A : List (List Int)) (w : World) (hg : Hnd w) (hl : n = A.length) (hn : n ≤ maxLen) (hr : Rows2 w a A) :
    Calls Tryd.prog 10 #[.slice a n cap] w fun e w' => e = .returned (.bool true) ∧ Below w.heap.size w w' := by
  subst hl
  have HBIG := big_any a _ cap A w rfl hn hr
  by_cases hlim : 6 < A.length ∧ A.length ≤ 9
  · obtain ⟨hl1, hl2⟩ := hlim
    clear hr
    generalize A.length = L at *
    go_enter Tryd.func10, Tryd.ntmps10
    go_wp2_with fail
    refine HBIG.mono ?_
    intro e w1 hw
    unfold BigPost at hw
    obtain ⟨b, rfl, rfl⟩ := hw
    cases b with
    | true =>
      go_wp2
      go_ret
      exact ⟨rfl, Below.refl _ _⟩
    | false =>
      go_wp2
      go_ret
      exact ⟨rfl, Below.refl _ _⟩
  have HC1 := Lib.hid (fun w' h => refMap_any a _ cap A w' rfl hn h)
  by_cases hM : mapCheck A = 0
  case neg =>
    have HT := Lib.hid (fun w' h => round_bad a _ cap A w' rfl hn hM h)
    have hz0 : (mapCheck A == 0) = false := by simpa using hM
    have HNZ := Lib.hid hM
    clear hM
    generalize mapCheck A = ev at *
    go_enter Tryd.func10, Tryd.ntmps10
    go_wp2_with fail
    refine HBIG.mono ?_
    intro e w1 hw
    unfold BigPost at hw
    obtain ⟨b, rfl, rfl⟩ := hw
    cases b with
    | true =>
      go_wp2
      go_ret
      exact ⟨rfl, Below.refl _ _⟩
    | false =>
      have hcs : A.length ≤ 6 ∨ 9 < A.length := by omega
      rcases hcs with hcs | hcs
      all_goals
        go_wp2_with fail
        refine (HC1.out _ hr).mono ?_
        rintro e w2 ⟨rfl, hb2⟩
        go_wp2_with fail
        refine (HT.out _ (hr.at hb2)).mono ?_
        rintro e w3 ⟨rfl, hb3⟩
        have hb03 := below_next hb2 hb3
        go_wp2_with fail
        refine (ints_any ev none none 0 0 0 0 [] [] _ (hg.at hb03) rfl rfl (by simp) (by simp) (Or.inl rfl) (Or.inl rfl) (fun _ => rfl) (fun _ => rfl)).mono ?_
        rintro e w4 ⟨rfl, hb4⟩
        have hb04 := below_next hb03 hb4
        go_wp2_with fail
        refine (whole_any ev 0 0 _ (hg.at hb04) (fun _ => rfl) (fun _ => rfl)).mono ?_
        rintro e w5 ⟨rfl, hb5⟩
        go_wp2
        go_ret
        exact ⟨rfl, below_next hb04 hb5⟩
  obtain ⟨hA9, _⟩ := map_ok hM
  have hA6 : A.length ≤ 6 := by omega
  have HRR := Lib.hid (fun w' h => refRound_any a cap A w' hM hA6 h)
  have HPR := Lib.hid (fun w' h => round_any a cap A w' hM hA6 h)
  obtain ⟨c, row, htop⟩ := topR_some hM hA6
  have hrl := topR_len hM hA6 htop
  have HTOP := Lib.hid htop
  rw [hM] at HC1
  clear hM htop hA9 hlim
  go_enter Tryd.func10, Tryd.ntmps10
  go_wp2_with fail
  refine HBIG.mono ?_
  intro e w1 hw
  unfold BigPost at hw
  obtain ⟨b, rfl, rfl⟩ := hw
  cases b with
  | true =>
    go_wp2
    go_ret
    exact ⟨rfl, Below.refl _ _⟩
  | false =>
    go_wp2_with fail
    refine (HC1.out _ hr).mono ?_
    rintro e w2 ⟨rfl, hb2⟩
    go_wp2_with fail
    refine (HRR.out _ (hr.at hb2)).mono ?_
    intro e w3 hw
    unfold RefRoundPost at hw
    obtain ⟨a3, c3, q3, r3, ht3, rfl, he3, hb3⟩ := hw
    rw [HTOP.out] at ht3
    simp only [Option.some.injEq, Prod.mk.injEq] at ht3
    obtain ⟨rfl, rfl⟩ := ht3
    have hb03 := below_next hb2 hb3
    go_wp2_with fail
    refine (HPR.out _ (hr.at hb03)).mono ?_
    intro e w4 hw
    unfold RoundAPost at hw
    obtain ⟨a4, c4, q4, r4, ht4, rfl, he4, hb4⟩ := hw
    rw [HTOP.out] at ht4
    simp only [Option.some.injEq, Prod.mk.injEq] at ht4
    obtain ⟨rfl, rfl⟩ := ht4
    have hb04 := below_next hb03 hb4
    have he34 := he3.at hb4
    have hE0 : errV 0 = .nilIface := rfl
    rw [← hE0]
    go_wp2_with fail
    refine (ints_any 0 a4 a3 _ _ _ _ row row _ (hg.at hb04) rfl rfl hrl hrl he4 he34 (fun _ => rfl) (fun h => absurd rfl h)).mono ?_
    rintro e w5 ⟨rfl, hb5⟩
    have hb05 := below_next hb04 hb5
    go_wp2_with fail
    refine (whole_any 0 c c _ (hg.at hb05) (fun _ => rfl) (fun h => absurd rfl h)).mono ?_
    rintro e w6 ⟨rfl, hb6⟩
    go_wp2
    go_ret
    exact ⟨rfl, below_next hb05 hb6⟩
end Go.Proofs.YtfaklhkdfpfjgaaDoor
