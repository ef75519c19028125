/- The walks of the stable sort of integers: two pieces change places; two pieces of unlike length do. -/
import Derived.Test.YtfaklhkdfpfjgaaDoorRows
import Derived.Test.YtfaklhkdfpfjgaaDoorSortP
import Derived.BigRegion
namespace Go.Proofs.YtfaklhkdfpfjgaaDoor
open Go.RowKit

abbrev rowV (n : Nat) (r : RowF) : List Value := (tab n r).map (Value.int .i64)

theorem tab_swp {n : Nat} {r : RowF} {i j : Nat} (h : i ≠ j) : ((tab n r).set i (r j)).set j (r i) = tab n (swpF r i j) := by
  rw [tab_set, tab_set]
  congr 1
  funext t
  unfold swpF
  by_cases h1 : t = j
  · subst h1
    simp [Ne.symm h]
  · simp [h1]
theorem owns_swp {w : World} {base e g n cap i j : Nat} {r : RowF} (h : w.ownsRow base e 1 (.slice (some ⟨g, 0, none⟩) n cap) n (rowV n r)) (hij : i ≠ j) :
    ((w.setCell ⟨g, i, none⟩ (.int .i64 (r j))).setCell ⟨g, j, none⟩ (.int .i64 (r i))).ownsRow base e 1 (.slice (some ⟨g, 0, none⟩) n cap) n (rowV n (swpF r i j)) := by
  unfold rowV
  rw [← tab_swp hij]
  exact owns_set (owns_set h i (r j)) j (r i)
theorem owns_at_tab {w : World} {base e g n cap j : Nat} {r : RowF} (h : w.ownsRow base e 1 (.slice (some ⟨g, 0, none⟩) n cap) n (rowV n r)) (hj : j < n) : w.cell? ⟨g, j, none⟩ = some (.int .i64 (r j)) := by
  rw [owns_get h j hj (by rw [tab_len]; exact hj), tab_get]

set_option maxRecDepth 100000 in
set_option maxHeartbeats 2000000 in
theorem swapRange_any (g n cap a b k base : Nat) (r : RowF) (c : Value) (w : World) (hown : w.ownsRow base 3 1 (.slice (some ⟨g, 0, none⟩) n cap) n (rowV n r)) (hn : n ≤ 1000) (hab : a + k ≤ b) (hb : b + k ≤ n) :
    Calls Tryd.prog 136 #[.slice (some ⟨g, 0, none⟩) n cap, .int .i64 a, .int .i64 b, .int .i64 k, c] w fun e w' => e = .returned (.tuple #[]) ∧ w'.ownsRow base 3 1 (.slice (some ⟨g, 0, none⟩) n cap) n (rowV n (swrF r a b k)) ∧ Below g w w' := by
  go_enter Tryd.func136, Tryd.ntmps136
  go_wp2
  go_loopw [10] (fun iv wr => ∃ j : Nat, j ≤ k ∧ iv = .int .i64 j ∧ wr.ownsRow base 3 1 (.slice (some ⟨g, 0, none⟩) n cap) n (rowV n (swrF r a b j)) ∧ Below g w wr) (fun iv _ => k - (intOf iv).toNat)
  case atStart => exact ⟨0, by omega, rfl, by rw [swr_zero]; exact hown, Below.refl _ _⟩
  case round =>
    clear hown
    obtain ⟨j, hj, rfl, hown, hbw⟩ := hrel
    by_cases hlt : j < k
    · have h1 := owns_at_tab hown (j := a + j) (by omega)
      have h2 := owns_at_tab hown (j := b + j) (by omega)
      have hf1 := hown.frozenAt (a + j)
      have hf2 := hown.frozenAt (b + j)
      have hnew := owns_swp hown (i := a + j) (j := b + j) (by omega)
      rw [← swr_succ r (by omega)] at hnew
      have HN := Lib.hid hnew
      clear hnew hown
      generalize swrF r a b j (a + j) = x at *
      generalize swrF r a b j (b + j) = y at *
      go_wp2
      go_region
      all_goals go_wp2
      all_goals exact ⟨⟨j + 1, by omega, by go_num, HN.out, ((hbw.setCell (p := ⟨g, a + j, none⟩) (Nat.le_refl g) _).setCell (p := ⟨g, b + j, none⟩) (Nat.le_refl g) _).drew⟩, by simp [intOf]; omega⟩
    · obtain rfl : j = k := by omega
      go_wp2
      go_end0
      exact ⟨rfl, hown, hbw⟩

set_option maxRecDepth 100000 in
set_option maxHeartbeats 2000000 in
theorem rotate_any (g n cap a m b base : Nat) (r : RowF) (c : Value) (w : World) (hown : w.ownsRow base 3 1 (.slice (some ⟨g, 0, none⟩) n cap) n (rowV n r)) (hn : n ≤ 1000) (ham : a < m) (hmb : m < b) (hb : b ≤ n) :
    Calls Tryd.prog 130 #[.slice (some ⟨g, 0, none⟩) n cap, .int .i64 a, .int .i64 m, .int .i64 b, c] w fun e w' => e = .returned (.tuple #[]) ∧ w'.ownsRow base 3 1 (.slice (some ⟨g, 0, none⟩) n cap) n (rowV n (rotF r a m b)) ∧ Below g w w' := by
  have hi0 : ((m : Int) - (a : Int)) = ((m - a : Nat) : Int) := by omega
  have hj0 : ((b : Int) - (m : Int)) = ((b - m : Nat) : Int) := by omega
  have HI := Lib.hid hi0
  have HJ := Lib.hid hj0
  clear hi0 hj0
  go_enter Tryd.func130, Tryd.ntmps130
  go_wp2
  go_loopw [10, 11] (fun iv jv wr => ∃ (i j : Nat) (q : RowF), 1 ≤ i ∧ 1 ≤ j ∧ i ≤ m ∧ m + j ≤ n ∧ iv = .int .i64 i ∧ jv = .int .i64 j ∧ Hid (rotF r a m b = rotF q (m - i) m (m + j)) ∧ wr.ownsRow base 3 1 (.slice (some ⟨g, 0, none⟩) n cap) n (rowV n q) ∧ Below g w wr) (fun iv jv _ => (intOf iv + intOf jv).toNat)
  case atStart => exact ⟨m - a, b - m, r, by omega, by omega, by omega, by omega, by rw [HI.out], by rw [HJ.out], Lib.hid (by rw [show m - (m - a) = a by omega, show m + (b - m) = b by omega]), hown, Below.refl _ _⟩
  case round =>
    clear hown
    obtain ⟨i, j, q, hi1, hj1, him, hjn, rfl, rfl, HQ, hown, hbw⟩ := hrel
    rcases Nat.lt_trichotomy i j with h | h | h
    · have hd : ((i : Int) != (j : Int)) = true := by simp; omega
      have e1 : ((m : Int) - (i : Int)) = ((m - i : Nat) : Int) := by omega
      have e2 : ((m : Int) + (j : Int) - (i : Int)) = ((m + j - i : Nat) : Int) := by omega
      have HS := Lib.hid (HQ.out.trans (rot_step2 q h him))
      clear HQ
      go_wp2_with fail
      refine (swapRange_any g n cap (m - i) (m + j - i) i base q c _ hown hn (by omega) (by omega)).mono ?_
      rintro e w1 ⟨rfl, hown1, hb1⟩
      clear hown
      go_wp2
      exact ⟨⟨i, j - i, _, by omega, by omega, by omega, by omega, rfl, by go_num, HS, hown1, hbw.trans hb1⟩, by simp [intOf]; omega⟩
    · subst h
      have hd : ((i : Int) != (i : Int)) = false := by simp
      have e1 : ((m : Int) - (i : Int)) = ((m - i : Nat) : Int) := by omega
      have HS := Lib.hid (HQ.out.trans (rot_end q him))
      clear HQ
      go_wp2_with fail
      refine (swapRange_any g n cap (m - i) m i base q c _ hown hn (by omega) (by omega)).mono ?_
      rintro e w1 ⟨rfl, hown1, hb1⟩
      clear hown
      go_wp2
      go_end0
      exact ⟨rfl, by rw [HS.out]; exact hown1, hbw.trans hb1⟩
    · have hd : ((i : Int) != (j : Int)) = true := by simp; omega
      have e1 : ((m : Int) - (i : Int)) = ((m - i : Nat) : Int) := by omega
      have HS := Lib.hid (HQ.out.trans (rot_step1 q h him))
      clear HQ
      go_wp2_with fail
      refine (swapRange_any g n cap (m - i) m j base q c _ hown hn (by omega) (by omega)).mono ?_
      rintro e w1 ⟨rfl, hown1, hb1⟩
      clear hown
      go_wp2
      exact ⟨⟨i - j, j, _, by omega, by omega, by omega, by omega, by go_num, rfl, HS, hown1, hbw.trans hb1⟩, by simp [intOf]; omega⟩
end Go.Proofs.YtfaklhkdfpfjgaaDoor
