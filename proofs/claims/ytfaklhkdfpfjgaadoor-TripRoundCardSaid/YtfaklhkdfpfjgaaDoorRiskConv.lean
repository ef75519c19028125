/- foresightlaw.gates: the gates in the reference's type, or that they are too many; sets of parts as numbers. -/
import Derived.Test.YtfaklhkdfpfjgaaDoorRiskM
import Derived.Test.YtfaklhkdfpfjgaaDoorRows
import Derived.Test.YtfaklhkdfpfjgaaDoorRow
namespace Go.Proofs.YtfaklhkdfpfjgaaDoor
open Go.RowKit

abbrev GT4 := Int × Option Addr × Nat × Nat
abbrev encG (x : GT4) : List Value := [.int .i64 x.1, .slice x.2.1 x.2.2.1 x.2.2.2]
theorem encG_one (x : GT4) : ∀ u ∈ encG x, u.oneCell' = true := by
  intro u hu; simp [encG] at hu; rcases hu with rfl | rfl <;> rfl
theorem gates_elems {w : World} {a : Option Addr} {L : List GateT} (h : Gates w a L) :
    ∃ gl : List GT4, gl.length = L.length ∧ Elems encG 2 w a gl ∧ ∀ j (h : j < L.length) (h' : j < gl.length), gl[j].1 = L[j].1 ∧ gl[j].2.2.1 = L[j].2.length ∧ L[j].2.length ≤ gl[j].2.2.2 ∧ gl[j].2.2.2 ≤ maxLen ∧ Elems encI 1 w gl[j].2.1 L[j].2 := by
  rcases h with rfl | ⟨b, o, rfl, h⟩
  · exact ⟨[], rfl, Or.inl rfl, fun j h => by simp at h⟩
  · have key : ∀ j, ∃ x : GT4, ∀ hj : j < L.length, x.1 = L[j].1 ∧ x.2.2.1 = L[j].2.length ∧ L[j].2.length ≤ x.2.2.2 ∧ x.2.2.2 ≤ maxLen ∧ Elems encI 1 w x.2.1 L[j].2 ∧ w.cell? ⟨b, o + j * 2, none⟩ = some (.int .i64 x.1) ∧ w.cell? ⟨b, o + j * 2 + 1, none⟩ = some (.slice x.2.1 x.2.2.1 x.2.2.2) := by
      intro j
      by_cases hj : j < L.length
      · obtain ⟨h0, a', c', h1, h2, h3, h4⟩ := h j hj
        exact ⟨(L[j].1, a', L[j].2.length, c'), fun _ => ⟨rfl, rfl, h2, h3, h4, h0, h1⟩⟩
      · exact ⟨(0, none, 0, 0), fun h => absurd h hj⟩
    obtain ⟨g, hg⟩ := Classical.axiomOfChoice key
    refine ⟨(List.range L.length).map g, by simp, Or.inr ⟨b, o, rfl, fun j hj i u hu => ?_⟩, fun j hj hj' => ?_⟩
    · have hjl : j < L.length := by simpa using hj
      obtain ⟨_, _, _, _, _, c0, c1⟩ := hg j hjl
      simp only [List.getElem_map, List.getElem_range] at hu
      match i, hu with
      | 0, hu => simp [encG] at hu; subst hu; exact c0
      | 1, hu => simp [encG] at hu; subst hu; exact c1
      | i + 2, hu => simp [encG] at hu
    · obtain ⟨q1, q2, q3, q4, q5, _⟩ := hg j hj
      simp only [List.getElem_map, List.getElem_range]
      exact ⟨q1, q2, q3, q4, q5⟩
theorem elems_gates {w w' : World} {a : Option Addr} {L : List GateT} {gl : List GT4} (hl : gl.length = L.length) (he : Elems encG 2 w' a gl) (hb : Below w.heap.size w w')
    (h : ∀ j (h : j < L.length) (h' : j < gl.length), gl[j].1 = L[j].1 ∧ gl[j].2.2.1 = L[j].2.length ∧ L[j].2.length ≤ gl[j].2.2.2 ∧ gl[j].2.2.2 ≤ maxLen ∧ Elems encI 1 w gl[j].2.1 L[j].2) : Gates w' a L := by
  rcases he with rfl | ⟨b, o, rfl, he⟩
  · left
    exact List.eq_nil_of_length_eq_zero hl.symm
  · refine Or.inr ⟨b, o, rfl, fun j hj => ?_⟩
    have hj' : j < gl.length := by omega
    obtain ⟨q1, q2, q3, q4, q5⟩ := h j hj hj'
    have c0 := he j hj' 0 _ rfl
    have c1 := he j hj' 1 _ rfl
    rw [q1] at c0
    rw [q2] at c1
    exact ⟨c0, _, _, c1, q3, q4, q5.at hb⟩
theorem rowG : RowOf Tryd.prog 41 134 (.agg #[.int .i64 0, .slice none 0 0]) 2 32 := rowOf Tryd.underlying41 (by kernel_rfl) rfl (by decide)

def ConvPost (L : List GateT) (w : World) (e : Ending) (w' : World) : Prop :=
  ∃ a' n' cap' b, e = .returned (.tuple #[.slice a' n' cap', .bool b]) ∧ (b = true → n' = L.length ∧ Gates w' a' L ∧ L.length ≤ 40) ∧ Below w.heap.size w w'
set_option maxRecDepth 100000 in
set_option maxHeartbeats 4000000 in
theorem gates_any (a : Option Addr) (n cap : Nat) (L : List GateT) (w : World) (hm : L.length ≤ maxLen) (hz : L.length * 32 ≤ 140737488351232) (hl : n = L.length) (hr : Gates w a L) :
    Calls Tryd.prog 19 #[.slice a n cap] w (ConvPost L w) := by
  subst hl
  unfold maxLen at hm
  obtain ⟨gl, hgl, hx, hrel0⟩ := gates_elems hr
  have HREL := Lib.hid hrel0
  have HGL := Lib.hid hgl
  obtain ⟨N, hN⟩ : ∃ N, N = L.length := ⟨_, rfl⟩
  rw [← hN] at hgl hm hz ⊢
  have HN := Lib.hid hN
  clear hr hrel0 hN
  go_enter Tryd.func19, Tryd.ntmps19
  go_wp2
  go_loopw [4, 5] (fun v i wr => ∃ k : Nat, k ≤ N ∧ i = .int .i64 k ∧ wr.ownsRow w.heap.size 134 2 v k ((gl.take k).flatMap encG) ∧ Below w.heap.size w wr) (fun _ i _ => N - (intOf i).toNat)
  case atStart => exact ⟨0, by omega, rfl, World.ownsRow_nil _ _ _ _, Below.refl _ _⟩
  case round =>
    obtain ⟨k, hk, rfl, hown, hb⟩ := hrel
    by_cases hlt : k < N
    · have hltg : k < gl.length := by omega
      obtain ⟨b, o, rfl, hc⟩ := hx.some hltg
      have hbB := lt_of_cell (hc k hltg 0 _ rfl)
      simp only at hbB
      have h1 := (hb.cell hbB).trans (hc k hltg 0 _ rfl)
      have h2 := (hb.cell hbB).trans (hc k hltg 1 _ rfl)
      simp only [Nat.add_zero] at h1
      have hsz := hb.size
      have htf := take_flat encG gl k hltg
      clear hc hx
      obtain ⟨R, hR⟩ : ∃ R, R = gl[k] := ⟨_, rfl⟩
      rw [← hR] at h1 h2 htf
      obtain ⟨z, ag, ng, cg⟩ := R
      clear hR
      simp only at h1 h2
      by_cases hbig : (40 : Int) < (ng : Int)
      · have hd := decide_eq_true hbig
        clear hown
        go_wp2_with fail
        go_ret2
        unfold ConvPost
        exact ⟨_, _, _, _, rfl, fun h => (Bool.false_ne_true h).elim, hb⟩
      · have hd := decide_eq_false hbig
        go_wp2_with fail
        go_region_held3 (fun w' => w'.cell? ⟨b, o + k * 2, none⟩ = some (.int .i64 z) ∧ w'.cell? ⟨b, o + k * 2 + 1, none⟩ = some (.slice ag ng cg))
          (first | go_keep | (refine ⟨?_, ?_⟩ <;> (rw [hb1.cell hbB]; simp [*])))
          ((refine step_row rowG (by rfl) _ _ (by rfl) w.heap.size (by rfl) ((hown.alloc _).drew) wr.heap.size (encG (z, ag, ng, cg)) (heap_alloc_new wr _) (by rfl) rfl (encG_one _) (by unfold maxLen; omega) (by omega) (by simp; omega) ?_; intro v' w1 hown1 hb1))
        rw [htf] at hown1
        clear hown hsz h1 h2
        go_wp2
        go_roundw
        case rel => exact ⟨k + 1, by omega, by go_num, hown1, hb.trans (((((Below.refl _ _).alloc hb.size _).drew).trans hb1))⟩
        case measure => simp [intOf]; omega
    · obtain rfl : k = N := by omega
      rw [List.take_of_length_le (by omega)] at hown
      obtain ⟨a', cap', rfl, he, _⟩ := elems_of_owns (enc := encG) (fun _ => rfl) hgl.symm hown
      have HF : Hid (decide ((k : Int) ≤ 40) = true → gl.length = L.length ∧ Gates wr a' L ∧ L.length ≤ 40) := Lib.hid (fun h => by
        have h2 := of_decide_eq_true h
        have h3 := HN.out
        exact ⟨HGL.out, elems_gates HGL.out he hb HREL.out, by omega⟩)
      clear he hown hx
      go_wp2
      go_ret2
      unfold ConvPost
      exact ⟨_, _, _, _, rfl, HF.out, hb⟩

/-- A set of parts as a number. -/
def setN (P : List Bool) : Nat → Nat
  | 0 => 0
  | k + 1 => setN P k + if P.getD k false = true then 2 ^ k else 0
theorem setN_lt (P : List Bool) : ∀ k, setN P k < 2 ^ k
  | 0 => by simp [setN]
  | k + 1 => by
    have := setN_lt P k
    unfold setN
    rw [Nat.pow_succ]
    split <;> omega
theorem setN_bit (P : List Bool) {p : Nat} : ∀ k, p < k → setN P k / 2 ^ p % 2 = if P.getD p false = true then 1 else 0
  | 0, h => by omega
  | k + 1, h => by
    unfold setN
    by_cases hk : p = k
    · subst hk
      have h1 := setN_lt P p
      by_cases hb : P.getD p false = true
      · rw [if_pos hb, if_pos hb, Nat.add_div_right _ (Nat.two_pow_pos p), Nat.div_eq_of_lt h1]
      · rw [if_neg hb, if_neg hb, Nat.add_zero, Nat.div_eq_of_lt h1]
    · have h2 := setN_bit P (p := p) k (by omega)
      rw [← h2]
      by_cases hb : P.getD k false = true
      · rw [if_pos hb]
        have h3 : 2 ^ k = 2 ^ p * (2 * 2 ^ (k - p - 1)) := by
          rw [← Nat.mul_assoc, ← Nat.pow_succ, ← Nat.pow_add]
          congr 1; omega
        rw [h3, Nat.add_mul_div_left _ _ (Nat.two_pow_pos p), Nat.add_mul_mod_self_left]
      · rw [if_neg hb, Nat.add_zero]
theorem i64_and1 (n : Int) : bits .and .i64 n 1 = n % 2 := by
  have h1 : (BitVec.ofInt 64 1).toNat = 2 ^ 1 - 1 := by decide
  have key : (BitVec.ofInt 64 n &&& BitVec.ofInt 64 1).toNat = (n % ((2 ^ 64 : Nat) : Int)).toNat % 2 ^ 1 := by
    rw [BitVec.toNat_and, BitVec.toNat_ofInt, h1, Nat.and_two_pow_sub_one_eq_mod]
  show IntKind.i64.wrap ((BitVec.ofInt 64 n &&& BitVec.ofInt 64 1).toNat : Nat) = n % 2
  rw [key, IntKind.wrap_i64]
  omega
theorem set_bits (P : List Bool) (n : Nat) : ∀ k : Nat, k < n → bits .and .i64 ((setN P n : Nat) / 2 ^ k) 1 = if P.getD k false = true then 1 else 0 := by
  intro k hk
  rw [i64_and1]
  have h := setN_bit P n hk
  have h2 : ((setN P n : Nat) : Int) / 2 ^ k % 2 = ((setN P n / 2 ^ k % 2 : Nat) : Int) := by
    push_cast
    rfl
  rw [h2, h]
  split <;> rfl
end Go.Proofs.YtfaklhkdfpfjgaaDoor
