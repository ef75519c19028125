/- coin.Steps where letters or word may not be: nil and the error. -/
import Derived.Test.YtkfjmmoljhekiaaDoorCoinWalk
import Derived.Test.YtkfjmmoljhekiaaDoorTell
namespace Go.Proofs.YtkfjmmoljhekiaaDoor
open Go.RowKit

def CoinErr (n : Int) (w : World) (e : Ending) (w' : World) : Prop := e = .returned (.tuple #[.slice none 0 0, errV n]) ∧ Below w.heap.size w w'
set_option maxRecDepth 100000 in
set_option maxHeartbeats 8000000 in
theorem steps_lim (l : Int) (a : Option Addr) (n cap : Nat) (w : World) (h : l < 1 ∨ 100 < l ∨ (n : Int) < 1 ∨ (12 : Int) < (n : Int)) :
    Calls Tryd.prog 25 #[.int .i64 l, .slice a n cap] w (CoinErr 4 w) := by
  by_cases g1 : l < 1
  · have hd1 : decide (l < 1) = true := decide_eq_true g1
    clear h
    go_enter Tryd.func25, Tryd.ntmps25
    go_wp2
    go_ret2
    exact ⟨rfl, Below.refl _ _⟩
  have hd1 : decide (l < 1) = false := decide_eq_false g1
  by_cases g2 : 100 < l
  · have hd2 : decide (100 < l) = true := decide_eq_true g2
    clear h
    go_enter Tryd.func25, Tryd.ntmps25
    go_wp2
    go_ret2
    exact ⟨rfl, Below.refl _ _⟩
  have hd2 : decide (100 < l) = false := decide_eq_false g2
  by_cases g3 : (n : Int) < 1
  · have hd3 : decide ((n : Int) < 1) = true := decide_eq_true g3
    clear h
    go_enter Tryd.func25, Tryd.ntmps25
    go_wp2
    go_ret2
    exact ⟨rfl, Below.refl _ _⟩
  have hd3 : decide ((n : Int) < 1) = false := decide_eq_false g3
  have g4 : (12 : Int) < (n : Int) := by omega
  have hd4 : decide ((12 : Int) < (n : Int)) = true := decide_eq_true g4
  clear h
  go_enter Tryd.func25, Tryd.ntmps25
  go_wp2
  go_ret2
  exact ⟨rfl, Below.refl _ _⟩

set_option maxRecDepth 100000 in
set_option maxHeartbeats 8000000 in
theorem steps_rng (a : Option Addr) (n cap L : Nat) (word : List Int) (w : World) (hl : n = word.length) (h1 : 1 ≤ word.length) (h12 : word.length ≤ 12) (hL1 : 1 ≤ L) (hL2 : L ≤ 100) (hB : ∃ x ∈ word, x < 0 ∨ L ≤ x) (hx : Elems encI 1 w a word) :
    Calls Tryd.prog 25 #[.int .i64 L, .slice a n cap] w (CoinErr 2 w) := by
  subst hl
  have HX := Lib.hid hx
  have HB := Lib.hid hB
  have hd1 : decide ((L : Int) < 1) = false := decide_eq_false (by omega)
  have hd2 : decide ((100 : Int) < (L : Int)) = false := decide_eq_false (by omega)
  have hd3 : decide ((word.length : Int) < 1) = false := decide_eq_false (by omega)
  have hd4 : decide ((12 : Int) < (word.length : Int)) = false := decide_eq_false (by omega)
  have hne : word ≠ [] := by intro h; subst h; simp at h1
  clear hx hB
  go_enter Tryd.func25, Tryd.ntmps25
  go_wp2
  all_goals try (exfalso; omega)
  go_loop [31] (fun iv => ∃ k : Nat, k ≤ word.length ∧ iv = .int .i64 k ∧ Hid (∀ j (h : j < word.length), j < k → 0 ≤ word[j] ∧ word[j] < L)) (fun iv => word.length - (intOf iv).toNat)
  case atStart => exact ⟨0, by omega, rfl, Lib.hid (fun j _ h => by omega)⟩
  case round =>
    obtain ⟨k, hk, rfl, HG⟩ := hrel
    by_cases hlt : k < word.length
    · obtain ⟨b, o, rfl, hc⟩ := HX.out.some hlt
      have g1 := hc k hlt 0 _ rfl
      simp only [Nat.add_zero, Nat.mul_one] at g1
      have HG2 : Hid (0 ≤ word[k] ∧ word[k] < L → ∀ j (h : j < word.length), j < k + 1 → 0 ≤ word[j] ∧ word[j] < L) := Lib.hid (fun h j hj hk => by
        by_cases hjk : j = k
        · subst hjk; exact h
        · exact HG.out j hj (by omega))
      clear hc HG
      generalize word[k] = x at *
      by_cases q1 : x < 0
      · have hq1 : decide (x < 0) = true := decide_eq_true q1
        clear HG2
        go_wp2_with fail
        go_ret2
        exact ⟨rfl, Below.refl _ _⟩
      have hq1 : decide (x < 0) = false := decide_eq_false q1
      by_cases q2 : (L : Int) ≤ x
      · have hq2 : decide ((L : Int) ≤ x) = true := decide_eq_true q2
        clear HG2
        go_wp2_with fail
        go_ret2
        exact ⟨rfl, Below.refl _ _⟩
      have hq2 : decide ((L : Int) ≤ x) = false := decide_eq_false q2
      have HG3 := Lib.hid (HG2.out ⟨by omega, by omega⟩)
      clear HG2
      go_wp2_with fail
      exact ⟨⟨k + 1, by omega, by go_num, HG3⟩, by simp [intOf]; omega⟩
    · exfalso
      obtain rfl : k = word.length := by omega
      obtain ⟨x, hm, hx⟩ := HB.out
      obtain ⟨j, hj, rfl⟩ := List.getElem_of_mem hm
      have := HG.out j hj hj
      omega
end Go.Proofs.YtkfjmmoljhekiaaDoor
