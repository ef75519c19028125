/- The program's depot and the reference's, side by side: a move at both. -/
import Derived.Test.YtannijeiecmjpaaGreatDoorDoD
import Derived.Test.YtannijeiecmjpaaGreatDoorThingsR
namespace Go.Proofs.YtannijeiecmjpaaGreatDoor
open Go.RowKit Go.WideMaps Go.Maps

theorem dep_apart {base bd bw : Nat} {mv jv v : Value} {L L' : List MoveD} {w : World} (hd : bd < base) (hw : bw < base) (hne : bd ≠ bw) (H : DepAt base bd mv jv L w) (R : RefDep base bw v L' w) : ∀ k, depBlocks bd mv jv k → ¬ refBlocks bw v k := by
  intro k h1 h2
  rcases h1 with rfl | h1 | h1
  · rcases h2 with h2 | h2
    · exact hne h2
    · have := (R.row.lt k h2).1
      omega
  · rcases H.have' with ⟨e, _⟩ | ⟨bm, N, D, e, h3, h4, h5, h6, h7⟩
    · rw [e] at h1; cases h1
    · rw [e] at h1
      obtain rfl := Option.some.inj (Value.map.inj h1)
      rcases h2 with h2 | h2
      · omega
      · exact own_map R.row h6 h2
  · rcases h2 with h2 | h2
    · have := (H.jour.lt k h1).1
      omega
    · exact own_apart H.jour R.row (by decide) k h1 h2
/-- Both depots hold L. -/
structure Both (base bd bw : Nat) (L : List MoveD) (w : World) : Prop where
  dep : ∃ mv jv, DepAt base bd mv jv L w
  ref : ∃ v, RefDep base bw v L w
theorem Both.at {base bd bw : Nat} {L : List MoveD} {w w' : World} (h : Both base bd bw L w) (hb : Below w.heap.size w w') : Both base bd bw L w' :=
  ⟨by obtain ⟨mv, jv, h⟩ := h.dep; exact ⟨mv, jv, h.at hb⟩, by obtain ⟨v, h⟩ := h.ref; exact ⟨v, h.at hb⟩⟩
theorem dep_low {base bd lo : Nat} {mv jv : Value} {L : List MoveD} {w w' : World} (hd : lo ≤ bd) (hb : lo ≤ base) (hl : lo ≤ w.heap.size) (H : DepAt base bd mv jv L w) (hf : FrS (depBlocks bd mv jv) w w') : Below lo w w' :=
  hf.below hl (fun k hk => by
    rcases hk with rfl | hk | hk
    · exact hd
    · rcases H.have' with ⟨e, _⟩ | ⟨bm, N, D, e, h3, _⟩
      · rw [e] at hk; cases hk
      · rw [e] at hk
        obtain rfl := Option.some.inj (Value.map.inj hk)
        omega
    · have := (H.jour.lt k hk).1
      omega)
theorem ref_low {base bw lo : Nat} {v : Value} {L : List MoveD} {w w' : World} (hd : lo ≤ bw) (hb : lo ≤ base) (hl : lo ≤ w.heap.size) (H : RefDep base bw v L w) (hf : FrS (refBlocks bw v) w w') : Below lo w w' :=
  hf.below hl (fun k hk => by
    rcases hk with rfl | hk
    · exact hd
    · have := (H.row.lt k hk).1
      omega)
/-- Between the two: the program's depot has done the move, the reference's not yet. -/
structure Mid (base bd bw : Nat) (L : List MoveD) (m : MoveD) (w : World) : Prop where
  dep : ∃ mv jv, DepAt base bd mv jv (doneM L m) w
  ref : ∃ v, RefDep base bw v L w
theorem both_do {base bd bw lo : Nat} {L : List MoveD} (m : MoveD) {w : World} (hL : L.length ≤ 500) (hm : m.1.length ≤ 9223372036854775807) (m0 : -9223372036854775808 ≤ m.2) (m1 : m.2 ≤ 9223372036854775807) (hp : ∀ w', Below lo w w' → PowAt w') (hlo : lo ≤ bd) (hbase : base ≤ w.heap.size) (hbd : bd < base) (hbw : bw < base) (hne : bd ≠ bw) (H : Both base bd bw L w) :
    Calls Tryz.prog 5 #[.pointer (some ⟨bd, 0, none⟩), .agg #[strV m.1, .int .i64 m.2]] w fun e w' => e = .returned (errV (doErr L m)) ∧ Mid base bd bw L m w' ∧ Below lo w w' := by
  obtain ⟨mv, jv, hD⟩ := H.dep
  obtain ⟨v, hR⟩ := H.ref
  refine (depDo_any m hL hm m0 m1 hp hlo hbase hbd hD).mono ?_
  rintro e w' ⟨he, mv', jv', h1, h2⟩
  exact ⟨he, ⟨⟨mv', jv', h1⟩, v, hR.frs h2 (fun k hk hk2 => dep_apart hbd hbw hne hD hR k hk2 hk)⟩, dep_low hlo (by omega) (by omega) hD h2⟩
theorem mid_do {base bd bw lo : Nat} {L : List MoveD} (m : MoveD) {w : World} (hL : L.length ≤ 500) (hm : m.1.length ≤ 9223372036854775807) (hlo : lo ≤ bw) (hbase : base ≤ w.heap.size) (hbd : bd < base) (hbw : bw < base) (hne : bd ≠ bw) (H : Mid base bd bw L m w) :
    Calls Tryz.prog 6 #[.pointer (some ⟨bw, 0, none⟩), .agg #[strV m.1, .int .i64 m.2]] w fun e w' => e = .returned (.int .i64 (doErr L m)) ∧ Both base bd bw (doneM L m) w' ∧ Below lo w w' := by
  obtain ⟨mv, jv, hD⟩ := H.dep
  obtain ⟨v, hR⟩ := H.ref
  refine (refDo_any base bw L m v w hL hR hbase hbw hm).mono ?_
  rintro e w' ⟨he, v', h1, h2, _⟩
  exact ⟨he, ⟨⟨mv, jv, hD.frs h2 (fun k hk hk2 => dep_apart hbd hbw hne hD hR k hk hk2)⟩, v', h1⟩, ref_low hlo (by omega) (by omega) hR h2⟩
/-- What is done after k moves. -/
def playM (ms : List MoveD) (k : Nat) : List MoveD := (ms.take k).foldl doneM []
theorem playM_succ (ms : List MoveD) (k : Nat) (hk : k < ms.length) : playM ms (k + 1) = doneM (playM ms k) ms[k] := by
  unfold playM
  rw [List.take_succ_eq_append_getElem hk, List.foldl_append]
  rfl
theorem doneM_len (L : List MoveD) (m : MoveD) : (doneM L m).length ≤ L.length + 1 := by
  unfold doneM
  by_cases h : doErr L m = 0
  · rw [if_pos h]; simp
  · rw [if_neg h]; omega
theorem playM_len (ms : List MoveD) : ∀ k, k ≤ ms.length → (playM ms k).length ≤ k := by
  intro k
  induction k with
  | zero => intro _; simp [playM]
  | succ k ih =>
    intro hk
    rw [playM_succ ms k (by omega)]
    have h1 := doneM_len (playM ms k) ms[k]
    have h2 := ih (by omega)
    omega
end Go.Proofs.YtannijeiecmjpaaGreatDoor
