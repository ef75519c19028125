/- foresightbig's rows of words: trim, words. -/
import Derived.Test.YtannijeiecmjpaaGreatDoorRows
import Derived.Test.YtannijeiecmjpaaGreatDoorRow
import Derived.Test.YtannijeiecmjpaaGreatDoorBigM
import Derived.Deep.DeepCutAuto
import Derived.BigQuiet
namespace Go.Proofs.YtannijeiecmjpaaGreatDoor
open Go.RowKit

abbrev encU (x : Int) : List Value := [.int .u32 x]
set_option maxRecDepth 100000 in
set_option maxHeartbeats 4000000 in
theorem trim_any (a : Option Addr) (n c : Nat) (xs : List Int) (w : World) (hl : n = xs.length) (hn : xs.length ≤ 100000) (hx : Elems encU 1 w a xs) (hc : n ≤ c) (hcm : c ≤ maxLen) :
    Calls Tryz.prog 111 #[.slice a n c] w fun e w' => ∃ m a' c', TrimOf xs m ∧ e = .returned (.slice a' m c') ∧ Elems encU 1 w a' (xs.take m) ∧ w' = w ∧ m ≤ c' ∧ c' ≤ maxLen := by
  have HX := Lib.hid hx
  have HL := Lib.hid hl
  have HC := Lib.hid hcm
  clear hx hl hcm
  have hnx : n ≤ 100000 := by rw [HL.out]; exact hn
  go_enter Tryz.func111, Tryz.ntmps111
  go_wp2
  go_loop [3] (fun iv => ∃ k : Nat, k ≤ n ∧ iv = .int .i64 k ∧ Hid (∀ j (h : j < xs.length), k ≤ j → xs[j] = 0)) (fun iv => (intOf iv).toNat)
  case atStart => exact ⟨n, Nat.le_refl _, rfl, Lib.hid (fun j h h2 => absurd h (by rw [HL.out] at h2; omega))⟩
  case round =>
    obtain ⟨k, hk, rfl, HZ⟩ := hrel
    have hend : ∀ (m : Nat), m ≤ n → Hid (∀ j (h : j < xs.length), m ≤ j → xs[j] = 0) → (∀ (h : m - 1 < xs.length), 0 < m → xs[m - 1] ≠ 0) → TrimOf xs m := fun m h1 h2 h3 => ⟨by rw [← HL.out]; exact h1, h2.out, h3⟩
    have hel : ∀ (a' : Option Addr) (m : Nat), m ≤ n → (m = 0 ∨ a' = a) → Elems encU 1 w a' (xs.take m) := fun a' m h1 h2 => by
      rcases h2 with h2 | h2
      · subst h2; exact Or.inl rfl
      · subst h2
        rcases HX.out with h3 | ⟨b, o, h3, h4⟩
        · rw [h3]; exact Or.inl (by simp)
        · refine Or.inr ⟨b, o, h3, fun j hj i u hu => ?_⟩
          rw [List.length_take] at hj
          rw [List.getElem_take] at hu
          exact h4 j (by omega) i u hu
    by_cases h0 : k = 0
    · subst h0
      have HE := Lib.hid (hend 0 (Nat.zero_le _) HZ (fun _ h => absurd h (by omega)))
      have HEL := Lib.hid (fun a' => hel a' 0 (Nat.zero_le _) (Or.inl rfl))
      clear hend hel HZ
      go_wp2
      go_ret
      exact ⟨0, HE.out, _, _, rfl, HEL.out _, rfl, by omega, HC.out⟩
    · obtain ⟨j, rfl⟩ : ∃ j, k = j + 1 := ⟨k - 1, by omega⟩
      have hjl : j < xs.length := by rw [← HL.out]; omega
      obtain ⟨b, o, rfl, hcc⟩ := HX.out.some hjl
      have c0 := hcc j hjl 0 _ rfl
      simp only [Nat.add_zero, Nat.mul_one] at c0
      clear hcc
      have hd : decide ((0 : Int) < ((j + 1 : Nat) : Int)) = true := decide_eq_true (by omega)
      have hw : IntKind.i64.wrap (((j + 1 : Nat) : Int) - 1) = (j : Int) := by rw [IntWalk.i64_in _ (by omega)]; omega
      have hw2 : IntKind.i64.wrap ((j : Int) + 1 - 1) = (j : Int) := (IntWalk.i64_in _ (by omega)).trans (by omega)
      by_cases hz : xs[j] = 0
      · have HZ2 : Hid (∀ i (h : i < xs.length), j ≤ i → xs[i] = 0) := Lib.hid (fun i h h2 => by
          by_cases e : i = j
          · subst e; exact hz
          · exact HZ.out i h (by omega))
        rw [hz] at c0
        clear hz hend hel HZ
        go_wp2
        exact ⟨⟨j, by omega, rfl, HZ2⟩, by simp [intOf]⟩
      · have HE := Lib.hid (hend (j + 1) hk HZ (fun _ _ => by simpa using hz))
        have HEL := Lib.hid (hel (some ⟨b, o, none⟩) (j + 1) hk (Or.inr rfl))
        have hzd : (xs[j] == 0) = false := by simpa using hz
        clear hz hend hel HZ
        generalize xs[j] = x at *
        go_wp2
        go_ret
        exact ⟨j + 1, HE.out, _, _, rfl, HEL.out, rfl, by omega, HC.out⟩
theorem u32_in (x : Int) (h0 : 0 ≤ x) (h1 : x < 4294967296) : IntKind.u32.wrap x = x := by simp [IntKind.wrap, IntKind.signed, IntKind.bits]; omega
theorem u64_in (x : Int) (h0 : 0 ≤ x) (h1 : x < 18446744073709551616) : IntKind.u64.wrap x = x := by simp [IntKind.wrap, IntKind.signed, IntKind.bits]; omega
theorem u32_mod (x : Int) : IntKind.u32.wrap x = x % 4294967296 := by simp [IntKind.wrap, IntKind.signed, IntKind.bits]
theorem elems_new (w : World) (cs : Array Value) (e : Nat) (xs : List Int) (h : cs.toList = xs.map (Value.int .u32)) : Elems encU 1 (w.alloc (.cells cs e)) (some ⟨w.heap.size, 0, none⟩) xs := by
  refine Or.inr ⟨w.heap.size, 0, rfl, fun j hj i u hu => ?_⟩
  rcases i with _ | i
  · simp [encU] at hu
    subst hu
    have h2 : cs[j]? = some (Value.int .u32 xs[j]) := by rw [← Array.getElem?_toList, h]; simp [hj]
    simpa using h2
  · simp [encU] at hu
set_option maxRecDepth 100000 in
set_option maxHeartbeats 4000000 in
theorem words_any (x : Int) (w : World) (h0 : 0 ≤ x) (h1 : x < 4294967296) :
    Calls Tryz.prog 83 #[.int .u64 x] w fun e w' => ∃ a c, e = .returned (.slice a (rowOfN x).length c) ∧ Elems encU 1 w' a (rowOfN x) ∧ Below w.heap.size w w' ∧ (rowOfN x).length ≤ c ∧ c ≤ maxLen := by
  have e1 : IntKind.u32.wrap x = x := u32_in x h0 h1
  have e2 : x / 4294967296 = 0 := Int.ediv_eq_zero_of_lt h0 h1
  have e3 : IntKind.u32.wrap 0 = 0 := u32_in 0 (by omega) (by omega)
  clear h0 h1
  go_enter Tryz.func83, Tryz.ntmps83
  go_wp2_with (go_at_call 111; refine (trim_any _ 2 2 [x, 0] _ rfl (by simp) (elems_new w _ _ [x, 0] rfl) (by omega) (by unfold maxLen; omega)).mono ?_; rintro e w' ⟨m, a', c', ht, rfl, he, rfl, hm, hc⟩)
  have hr := trimOf_two ht
  rw [hr] at he
  have hl : m = (rowOfN x).length := by rw [← hr, List.length_take]; have := ht.le; simp at this ⊢; omega
  go_ret
  exact ⟨_, _, by rw [hl]; rfl, he, (Below.refl _ _).alloc (Nat.le_refl _) _, by omega, hc⟩
end Go.Proofs.YtannijeiecmjpaaGreatDoor
