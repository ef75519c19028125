/- slices.ContainsFunc over integers by a function value that tells p of each. -/
import Derived.Test.YtannijeiecmjpaaDoorRows
import Derived.Test.YtannijeiecmjpaaDoorRow
namespace Go.Proofs.YtannijeiecmjpaaDoor
open Go.RowKit

/-- What is asked of a question about one number. -/
def PredOk (gf : Nat) (cb : Array Value) (p : Int → Bool) (xs : List Int) (B : Nat) (w : World) : Prop :=
  ∀ w', Below B w w' → ∀ x ∈ xs, Calls Tryd.prog gf (#[.int .i64 x] ++ cb) w' fun e w'' => e = .returned (.bool (p x)) ∧ Below w'.heap.size w' w''

set_option maxHeartbeats 400000 in
theorem containsF_any (gf : Nat) (cb : Array Value) (p : Int → Bool) (a : Option Addr) (n cap : Nat) (xs : List Int) (w : World) (eg : ∀ args w, (callFunc gf args).run Tryd.prog w = .ok (.enter gf args) w) (hp : PredOk gf cb p xs w.heap.size w)
    (hl : n = xs.length) (hn : xs.length ≤ 1000) (hx : Elems encI 1 w a xs) :
    Calls Tryd.prog 58 #[.slice a n cap, .func (.func gf) #[] cb] w fun e w' => e = .returned (.bool (xs.any p)) ∧ Below w.heap.size w w' := by
  subst hl
  have HP := Lib.hid hp
  clear hp
  go_enter Tryd.func58, Tryd.ntmps58
  go_wp2
  go_loopw [8] (fun i wr => ∃ k : Nat, k ≤ xs.length ∧ i = .int .i64 k ∧ Hid ((xs.take k).any p = false) ∧ Below w.heap.size w wr) (fun i _ => xs.length - (intOf i).toNat)
  case atStart => exact ⟨0, by omega, rfl, Lib.hid (by simp), Below.refl _ _⟩
  case round =>
    obtain ⟨k, hk, rfl, HQ, hb⟩ := hrel
    by_cases hlt : k < xs.length
    · obtain ⟨b, o, rfl, hc⟩ := hx.some hlt
      have h1 := (hb.cell (lt_of_cell (hc k hlt 0 _ rfl))).trans (hc k hlt 0 _ rfl)
      simp only [Nat.add_zero, Nat.mul_one] at h1
      have hcall := HP.out
      have HM := Lib.hid (List.getElem_mem hlt)
      clear hc hx hcall
      by_cases hbad : p xs[k] = true
      · have HR : Hid (xs.any p = true) := Lib.hid (List.any_eq_true.2 ⟨_, List.getElem_mem hlt, hbad⟩)
        have HB := Lib.hid hbad
        clear hbad
        go_wp2_with fail
        refine (HP.out _ hb _ HM.out).mono ?_
        rintro e w1 ⟨rfl, hb1⟩
        rw [HB.out]
        go_wp2
        go_ret
        exact ⟨by rw [HR.out]; rfl, below_next hb hb1⟩
      · have HB : Hid (p xs[k] = false) := Lib.hid (by simpa using hbad)
        have HK : Hid ((xs.take (k + 1)).any p = false) := Lib.hid (by rw [List.take_succ_eq_append_getElem hlt, List.any_append, HQ.out]; simp [HB.out])
        clear hbad
        go_wp2_with fail
        refine (HP.out _ hb _ HM.out).mono ?_
        rintro e w1 ⟨rfl, hb1⟩
        rw [HB.out]
        go_wp2
        exact ⟨⟨k + 1, by omega, by go_num, HK, below_next hb hb1⟩, by simp [intOf]; omega⟩
    · obtain rfl : k = xs.length := by omega
      have HR : Hid (xs.any p = false) := Lib.hid (by have := HQ.out; rwa [List.take_length] at this)
      clear hx HQ HP
      go_wp2
      go_ret
      exact ⟨by rw [HR.out]; rfl, hb⟩
end Go.Proofs.YtannijeiecmjpaaDoor
