/- container/heap's down, up, Init, Push and Pop at whatever is a heap in memory: its methods are told by what they do. -/
import Derived.Test.YtannijeiecmjpaaDoorRows
import Derived.Test.YtannijeiecmjpaaDoorHeapM
import Derived.Deep.DeepCutAuto
import Derived.Deep.CutBlock
import Derived.Shelf.Abstract
namespace Go.Proofs.YtannijeiecmjpaaDoor
open Go.RowKit

variable {α : Type} [Inhabited α]
/-- A heap in memory: St s xs w: behind the interface value stands the slice value s, which holds xs. -/
structure HeapAt (T : TypeId) (rv : Value) (lt : α → α → Bool) (ev : α → Value) (St : Value → List α → World → Prop) (gn gl gs gp gq : FuncId) : Prop where
  next : ∀ {s xs w w'}, St s xs w → Below w.heap.size w w' → St s xs w'
  mN : ∀ {s xs w}, St s xs w → (method 308 T rv "Len").run Tryd.prog w = .ok (gn, s) w
  mL : ∀ {s xs w}, St s xs w → (method 308 T rv "Less").run Tryd.prog w = .ok (gl, s) w
  mS : ∀ {s xs w}, St s xs w → (method 308 T rv "Swap").run Tryd.prog w = .ok (gs, s) w
  mP : ∀ w, (method 308 T rv "Push").run Tryd.prog w = .ok (gp, rv) w
  mQ : ∀ w, (method 308 T rv "Pop").run Tryd.prog w = .ok (gq, rv) w
  eN : ∀ args w, (callFunc gn args).run Tryd.prog w = .ok (.enter gn args) w
  eL : ∀ args w, (callFunc gl args).run Tryd.prog w = .ok (.enter gl args) w
  eS : ∀ args w, (callFunc gs args).run Tryd.prog w = .ok (.enter gs args) w
  eP : ∀ args w, (callFunc gp args).run Tryd.prog w = .ok (.enter gp args) w
  eQ : ∀ args w, (callFunc gq args).run Tryd.prog w = .ok (.enter gq args) w
  len : ∀ {s xs w}, St s xs w → xs.length ≤ 1000 → Calls Tryd.prog gn #[s] w fun e w' => e = .returned (.int .i64 xs.length) ∧ Below w.heap.size w w'
  less : ∀ {s xs w}, St s xs w → xs.length ≤ 1000 → ∀ i j : Nat, i < xs.length → j < xs.length → Calls Tryd.prog gl #[s, .int .i64 i, .int .i64 j] w fun e w' => e = .returned (.bool (lt (lg xs i) (lg xs j))) ∧ Below w.heap.size w w'
  swap : ∀ {s xs w}, St s xs w → xs.length ≤ 1000 → ∀ i j : Nat, i < xs.length → j < xs.length → Calls Tryd.prog gs #[s, .int .i64 i, .int .i64 j] w fun e w' => e = .returned (.tuple #[]) ∧ St s (swp xs i j) w'
  push : ∀ {s xs w}, St s xs w → xs.length < 1000 → ∀ x, Calls Tryd.prog gp #[rv, ev x] w fun e w' => e = .returned (.tuple #[]) ∧ ∃ s', St s' (xs ++ [x]) w'
  pop : ∀ {s xs x w}, St s (xs ++ [x]) w → xs.length < 1000 → Calls Tryd.prog gq #[rv] w fun e w' => e = .returned (ev x) ∧ ∃ s', St s' xs w'

theorem swp_drop {xs : List α} {i j n : Nat} (hi : i < n) (hj : j < n) : (swp xs i j).drop n = xs.drop n := by
  unfold swp
  rw [List.drop_set_of_lt hj, List.drop_set_of_lt hi]

set_option maxRecDepth 100000 in
set_option maxHeartbeats 4000000 in
theorem down_any {T : TypeId} {rv : Value} {lt : α → α → Bool} {ev : α → Value} {St : Value → List α → World → Prop} {gn gl gs gp gq : FuncId} (O : WOrd lt) (L : HeapAt T rv lt ev St gn gl gs gp gq) (s : Value) (xs : List α) (i0 n : Nat) (w : World) (hS : St s xs w)
    (hn : n ≤ xs.length) (hl : xs.length ≤ 1000) (hi : i0 ≤ n) (hk : SinkF lt xs i0 n i0) :
    Calls Tryd.prog 60 #[.iface T rv, .int .i64 i0, .int .i64 n] w fun e w' => (∃ b, e = .returned (.bool b)) ∧ ∃ ys, St s ys w' ∧ ys.Perm xs ∧ ys.drop n = xs.drop n ∧ HeapF lt ys i0 n := by
  have eL := L.eL
  have eS := L.eS
  have HK := Lib.hid hk
  have HS := Lib.hid hS
  have HN := Lib.hid hn
  have hn1 : n ≤ 1000 := by omega
  clear hS hk hn
  go_enter Tryd.func60, Tryd.ntmps60
  go_wp2
  go_loopw [7] (fun iv wr => ∃ i : Nat, i ≤ n ∧ iv = .int .i64 i ∧ ∃ ys, Hid (St s ys wr) ∧ Hid (ys.Perm xs) ∧ Hid (ys.drop n = xs.drop n) ∧ Hid (SinkF lt ys i0 n i)) (fun iv _ => n - (intOf iv).toNat)
  case atStart => exact ⟨i0, hi, rfl, xs, HS, Lib.hid (List.Perm.refl _), Lib.hid rfl, HK⟩
  case round =>
    clear HS HK
    obtain ⟨i, hin, rfl, ys, HS, HP, HD, HK⟩ := hrel
    have hyl : ys.length = xs.length := HP.out.length_eq
    have HNy : Hid (n ≤ ys.length) := Lib.hid (by rw [hyl]; exact HN.out)
    have hl2 : ys.length ≤ 1000 := by omega
    have HL2 := Lib.hid hl2
    clear hyl hl2
    by_cases h0 : n ≤ 2 * i + 1
    · have h0z : (n : Int) ≤ 2 * (i : Int) + 1 := by omega
      have HF := Lib.hid (sink_none HK.out h0)
      clear h0
      go_wp2
      go_ret
      exact ⟨⟨_, rfl⟩, ys, HS.out, HP.out, HD.out, HF.out⟩
    · have h0z : ¬ ((n : Int) ≤ 2 * (i : Int) + 1) := by omega
      have h01 : ¬ (2 * (i : Int) + 1 < 0) := by omega
      have hc1 : 2 * i + 1 < ys.length := by have := HNy.out; omega
      have hci : i < ys.length := by omega
      by_cases h1 : 2 * i + 2 < n
      · have h1z : 2 * (i : Int) + 1 + 1 < (n : Int) := by omega
        have hc2 : 2 * i + 2 < ys.length := by have := HNy.out; omega
        have mL0 := L.mL HS.out
        have q1 := L.less HS.out HL2.out (2 * i + 2) (2 * i + 1) hc2 hc1
        rw [show ((2 * i + 2 : Nat) : Int) = 2 * (i : Int) + 1 + 1 by omega, show ((2 * i + 1 : Nat) : Int) = 2 * (i : Int) + 1 by omega] at q1
        cases hv : lt (lg ys (2 * i + 2)) (lg ys (2 * i + 1)) with
        | true =>
          rw [hv] at q1
          have HO : Hid (∀ k, k < n → k = 2 * i + 1 ∨ k = 2 * i + 2 → lt (lg ys k) (lg ys (2 * i + 2)) = false) := Lib.hid (fun k _ hk => by
            rcases hk with rfl | rfl
            · exact O.1 _ _ hv
            · cases hc : lt (lg ys (2 * i + 2)) (lg ys (2 * i + 2)) with
              | false => rfl
              | true => have := O.1 _ _ hc; rw [hc] at this; cases this)
          clear hv
          go_wp2_with fail
          refine q1.mono ?_
          rintro e w1 ⟨rfl, hb1⟩
          have HS1 := Lib.hid (L.next HS.out hb1)
          clear mL0 q1 HS hb1
          have mL1 := L.mL HS1.out
          have q2 := L.less HS1.out HL2.out (2 * i + 2) i hc2 hci
          rw [show ((2 * i + 2 : Nat) : Int) = 2 * (i : Int) + 1 + 1 by omega] at q2
          cases hv2 : lt (lg ys (2 * i + 2)) (lg ys i) with
          | false =>
            rw [hv2] at q2
            have HF := Lib.hid (sink_end O HK.out HO.out hv2)
            clear hv2
            go_wp2_with fail
            refine q2.mono ?_
            rintro e w2 ⟨rfl, hb2⟩
            go_wp2
            go_ret
            exact ⟨⟨_, rfl⟩, ys, L.next HS1.out hb2, HP.out, HD.out, HF.out⟩
          | true =>
            rw [hv2] at q2
            have HF := Lib.hid (sink_step O HK.out HNy.out h1 (Or.inr rfl) HO.out hv2)
            clear hv2
            go_wp2_with fail
            refine q2.mono ?_
            rintro e w2 ⟨rfl, hb2⟩
            have HS2 := Lib.hid (L.next HS1.out hb2)
            clear mL1 q2 HS1 hb2
            have mS2 := L.mS HS2.out
            have q3 := L.swap HS2.out HL2.out i (2 * i + 2) hci hc2
            rw [show ((2 * i + 2 : Nat) : Int) = 2 * (i : Int) + 1 + 1 by omega] at q3
            go_wp2_with fail
            refine q3.mono ?_
            rintro e w3 ⟨rfl, hS3⟩
            have HS3 := Lib.hid hS3
            clear mS2 q3 HS2 hS3
            go_wp2
            exact ⟨⟨2 * i + 2, by omega, by go_num, swp ys i (2 * i + 2), HS3, Lib.hid ((swp_perm hci hc2).trans HP.out), Lib.hid ((swp_drop (by omega) h1).trans HD.out), HF⟩, by simp [intOf]; omega⟩
        | false =>
          rw [hv] at q1
          have HO : Hid (∀ k, k < n → k = 2 * i + 1 ∨ k = 2 * i + 2 → lt (lg ys k) (lg ys (2 * i + 1)) = false) := Lib.hid (fun k _ hk => by
            rcases hk with rfl | rfl
            · cases hc : lt (lg ys (2 * i + 1)) (lg ys (2 * i + 1)) with
              | false => rfl
              | true => have := O.1 _ _ hc; rw [hc] at this; cases this
            · exact hv)
          clear hv
          go_wp2_with fail
          refine q1.mono ?_
          rintro e w1 ⟨rfl, hb1⟩
          have HS1 := Lib.hid (L.next HS.out hb1)
          clear mL0 q1 HS hb1
          have mL1 := L.mL HS1.out
          have q2 := L.less HS1.out HL2.out (2 * i + 1) i hc1 hci
          rw [show ((2 * i + 1 : Nat) : Int) = 2 * (i : Int) + 1 by omega] at q2
          cases hv2 : lt (lg ys (2 * i + 1)) (lg ys i) with
          | false =>
            rw [hv2] at q2
            have HF := Lib.hid (sink_end O HK.out HO.out hv2)
            clear hv2
            go_wp2_with fail
            refine q2.mono ?_
            rintro e w2 ⟨rfl, hb2⟩
            go_wp2
            go_ret
            exact ⟨⟨_, rfl⟩, ys, L.next HS1.out hb2, HP.out, HD.out, HF.out⟩
          | true =>
            rw [hv2] at q2
            have HF := Lib.hid (sink_step O HK.out HNy.out (show 2 * i + 1 < n by omega) (Or.inl rfl) HO.out hv2)
            clear hv2
            go_wp2_with fail
            refine q2.mono ?_
            rintro e w2 ⟨rfl, hb2⟩
            have HS2 := Lib.hid (L.next HS1.out hb2)
            clear mL1 q2 HS1 hb2
            have mS2 := L.mS HS2.out
            have q3 := L.swap HS2.out HL2.out i (2 * i + 1) hci hc1
            rw [show ((2 * i + 1 : Nat) : Int) = 2 * (i : Int) + 1 by omega] at q3
            go_wp2_with fail
            refine q3.mono ?_
            rintro e w3 ⟨rfl, hS3⟩
            have HS3 := Lib.hid hS3
            clear mS2 q3 HS2 hS3
            go_wp2
            exact ⟨⟨2 * i + 1, by omega, by go_num, swp ys i (2 * i + 1), HS3, Lib.hid ((swp_perm hci hc1).trans HP.out), Lib.hid ((swp_drop (by omega) (by omega)).trans HD.out), HF⟩, by simp [intOf]; omega⟩
      · have h1z : ¬ (2 * (i : Int) + 1 + 1 < (n : Int)) := by omega
        have HO : Hid (∀ k, k < n → k = 2 * i + 1 ∨ k = 2 * i + 2 → lt (lg ys k) (lg ys (2 * i + 1)) = false) := Lib.hid (fun k hkn hk => by
          rcases hk with rfl | rfl
          · cases hc : lt (lg ys (2 * i + 1)) (lg ys (2 * i + 1)) with
            | false => rfl
            | true => have := O.1 _ _ hc; rw [hc] at this; cases this
          · omega)
        have mL1 := L.mL HS.out
        have q2 := L.less HS.out HL2.out (2 * i + 1) i hc1 hci
        rw [show ((2 * i + 1 : Nat) : Int) = 2 * (i : Int) + 1 by omega] at q2
        cases hv2 : lt (lg ys (2 * i + 1)) (lg ys i) with
        | false =>
          rw [hv2] at q2
          have HF := Lib.hid (sink_end O HK.out HO.out hv2)
          clear hv2
          go_wp2_with fail
          refine q2.mono ?_
          rintro e w2 ⟨rfl, hb2⟩
          go_wp2
          go_ret
          exact ⟨⟨_, rfl⟩, ys, L.next HS.out hb2, HP.out, HD.out, HF.out⟩
        | true =>
          rw [hv2] at q2
          have HF := Lib.hid (sink_step O HK.out HNy.out (show 2 * i + 1 < n by omega) (Or.inl rfl) HO.out hv2)
          clear hv2
          go_wp2_with fail
          refine q2.mono ?_
          rintro e w2 ⟨rfl, hb2⟩
          have HS2 := Lib.hid (L.next HS.out hb2)
          clear mL1 q2 HS hb2
          have mS2 := L.mS HS2.out
          have q3 := L.swap HS2.out HL2.out i (2 * i + 1) hci hc1
          rw [show ((2 * i + 1 : Nat) : Int) = 2 * (i : Int) + 1 by omega] at q3
          go_wp2_with fail
          refine q3.mono ?_
          rintro e w3 ⟨rfl, hS3⟩
          have HS3 := Lib.hid hS3
          clear mS2 q3 HS2 hS3
          go_wp2
          exact ⟨⟨2 * i + 1, by omega, by go_num, swp ys i (2 * i + 1), HS3, Lib.hid ((swp_perm hci hc1).trans HP.out), Lib.hid ((swp_drop (by omega) (by omega)).trans HD.out), HF⟩, by simp [intOf]; omega⟩

set_option maxRecDepth 100000 in
set_option maxHeartbeats 4000000 in
theorem up_any {T : TypeId} {rv : Value} {lt : α → α → Bool} {ev : α → Value} {St : Value → List α → World → Prop} {gn gl gs gp gq : FuncId} (O : WOrd lt) (L : HeapAt T rv lt ev St gn gl gs gp gq) (s : Value) (xs : List α) (j0 : Nat) (w : World) (hS : St s xs w)
    (hn : j0 < xs.length) (hl : xs.length ≤ 1000) (hk : RiseF lt xs xs.length j0) :
    Calls Tryd.prog 61 #[.iface T rv, .int .i64 j0] w fun e w' => e = .returned (.tuple #[]) ∧ ∃ ys, St s ys w' ∧ ys.Perm xs ∧ HeapF lt ys 0 ys.length := by
  have eL := L.eL
  have eS := L.eS
  have HK := Lib.hid hk
  have HS := Lib.hid hS
  have HN := Lib.hid hn
  have HLX := Lib.hid hl
  have hn1 : j0 ≤ 1000 := by omega
  clear hS hk hn hl
  go_enter Tryd.func61, Tryd.ntmps61
  go_wp2
  go_loopw [1] (fun jv wr => ∃ j : Nat, j ≤ 1000 ∧ jv = .int .i64 j ∧ ∃ ys, Hid (j < ys.length) ∧ Hid (St s ys wr) ∧ Hid (ys.Perm xs) ∧ Hid (RiseF lt ys ys.length j)) (fun jv _ => (intOf jv).toNat)
  case atStart => exact ⟨j0, hn1, rfl, xs, HN, HS, Lib.hid (List.Perm.refl _), HK⟩
  case round =>
    clear HS HK
    obtain ⟨j, hj, rfl, ys, HJ, HS, HP, HK⟩ := hrel
    have HL2 : Hid (ys.length ≤ 1000) := Lib.hid (by rw [HP.out.length_eq]; exact HLX.out)
    by_cases h0 : j = 0
    · subst h0
      have HF := Lib.hid (rise_top HK.out)
      have hq : Int.tdiv (((0 : Nat) : Int) - 1) 2 = 0 := by decide
      go_wp2
      go_end0
      exact ⟨rfl, ys, HS.out, HP.out, HF.out⟩
    · obtain ⟨i, hi⟩ : ∃ i, i = (j - 1) / 2 := ⟨_, rfl⟩
      have hq : Int.tdiv ((j : Int) - 1) 2 = (i : Int) := by
        rw [hi, Int.tdiv_eq_ediv_of_nonneg (by omega)]; omega
      have hij : i < j := by omega
      have hd : ((i : Int) == (j : Int)) = false := by rw [beq_eq_false_iff_ne]; omega
      have hiy : i < ys.length := Nat.lt_trans hij HJ.out
      have mL0 := L.mL HS.out
      have q1 := L.less HS.out HL2.out j i HJ.out hiy
      have HI := Lib.hid hi
      clear hi
      cases hv : lt (lg ys j) (lg ys i) with
      | false =>
        rw [hv] at q1
        have HF := Lib.hid (rise_end HK.out (by rw [← HI.out]; exact hv))
        clear hv
        go_wp2_with fail
        refine q1.mono ?_
        rintro e w1 ⟨rfl, hb1⟩
        go_wp2
        go_end0
        exact ⟨rfl, ys, L.next HS.out hb1, HP.out, HF.out⟩
      | true =>
        rw [hv] at q1
        have HF : Hid (RiseF lt (swp ys i j) (swp ys i j).length i) := Lib.hid (by
          have := rise_step O HK.out (Nat.le_refl _) (by omega) HJ.out (by rw [← HI.out]; exact hv)
          rw [swp_len]; rw [← HI.out] at this; exact this)
        clear hv
        go_wp2_with fail
        refine q1.mono ?_
        rintro e w1 ⟨rfl, hb1⟩
        have HS1 := Lib.hid (L.next HS.out hb1)
        clear mL0 q1 HS hb1
        have mS1 := L.mS HS1.out
        have q2 := L.swap HS1.out HL2.out i j hiy HJ.out
        go_wp2_with fail
        refine q2.mono ?_
        rintro e w2 ⟨rfl, hS2⟩
        have HS2 := Lib.hid hS2
        clear mS1 q2 HS1 hS2
        go_wp2
        exact ⟨⟨i, by omega, by go_num, swp ys i j, Lib.hid (by rw [swp_len]; exact hiy), HS2, Lib.hid ((swp_perm hiy HJ.out).trans HP.out), HF⟩, by simp [intOf]; omega⟩

set_option maxRecDepth 100000 in
set_option maxHeartbeats 4000000 in
theorem init_any {T : TypeId} {rv : Value} {lt : α → α → Bool} {ev : α → Value} {St : Value → List α → World → Prop} {gn gl gs gp gq : FuncId} (O : WOrd lt) (L : HeapAt T rv lt ev St gn gl gs gp gq) (s : Value) (xs : List α) (w : World) (hS : St s xs w) (hl : xs.length ≤ 1000) :
    Calls Tryd.prog 39 #[.iface T rv] w fun e w' => e = .returned (.tuple #[]) ∧ ∃ ys, St s ys w' ∧ ys.Perm xs ∧ HeapF lt ys 0 ys.length := by
  have eN := L.eN
  have HS := Lib.hid hS
  have mN0 := L.mN hS
  have q0 := L.len hS hl
  obtain ⟨n, hn⟩ : ∃ n, n = xs.length := ⟨_, rfl⟩
  rw [← hn] at hl q0
  have HN := Lib.hid hn
  have hq : Int.tdiv (n : Int) 2 = ((n / 2 : Nat) : Int) := by rw [Int.tdiv_eq_ediv_of_nonneg (by omega)]; omega
  obtain ⟨m, hm⟩ : ∃ m, m = n / 2 := ⟨_, rfl⟩
  rw [← hm] at hq
  have hmn : 2 * m ≤ n := by omega
  have HM := Lib.hid hm
  clear hS hn hm
  go_enter Tryd.func39, Tryd.ntmps39
  go_wp2_with fail
  refine q0.mono ?_
  rintro e w1 ⟨rfl, hb1⟩
  have HS1 := Lib.hid (L.next HS.out hb1)
  clear mN0 q0 HS hb1
  go_wp2
  go_loopw [3] (fun iv wr => ∃ k : Nat, k ≤ m ∧ iv = .int .i64 ((k : Int) - 1) ∧ ∃ ys, Hid (St s ys wr) ∧ Hid (ys.Perm xs) ∧ Hid (HeapF lt ys k n)) (fun iv _ => (intOf iv + 1).toNat)
  case atStart => exact ⟨m, Nat.le_refl _, by go_num, xs, HS1, Lib.hid (List.Perm.refl _), Lib.hid (by rw [HM.out]; exact heap_half lt xs n)⟩
  case round =>
    clear HS1
    obtain ⟨k, hk, rfl, ys, HS, HP, HF⟩ := hrel
    rcases k with _ | k
    · have hz : ¬ (0 ≤ ((0 : Nat) : Int) - 1) := by omega
      go_wp2
      go_end0
      exact ⟨rfl, ys, HS.out, HP.out, by have := HF.out; rw [HN.out, ← HP.out.length_eq] at this; exact this⟩
    · have hz : 0 ≤ ((k + 1 : Nat) : Int) - 1 := by omega
      have e1 : ((k + 1 : Nat) : Int) - 1 = (k : Int) := by omega
      rw [e1] at hz ⊢
      have hyl : Hid (n ≤ ys.length) := Lib.hid (by rw [HP.out.length_eq, HN.out]; exact Nat.le_refl _)
      have hyl2 : Hid (ys.length ≤ 1000) := Lib.hid (by rw [HP.out.length_eq, ← HN.out]; exact hl)
      have q1 := down_any O L s ys k n wr HS.out hyl.out hyl2.out (by omega) (sink_start HF.out)
      clear e1
      go_wp2_with fail
      refine q1.mono ?_
      rintro e w2 ⟨⟨b, rfl⟩, zs, hz1, hz2, hz3, hz4⟩
      have HS2 := Lib.hid hz1
      have HP2 := Lib.hid (hz2.trans HP.out)
      have HF2 := Lib.hid hz4
      clear hz1 hz2 hz3 hz4 q1 HS HP HF
      go_wp2
      exact ⟨⟨k, by omega, by go_num, zs, HS2, HP2, HF2⟩, by simp [intOf]⟩

set_option maxRecDepth 100000 in
set_option maxHeartbeats 4000000 in
theorem push_any {T : TypeId} {rv : Value} {lt : α → α → Bool} {ev : α → Value} {St : Value → List α → World → Prop} {gn gl gs gp gq : FuncId} (O : WOrd lt) (L : HeapAt T rv lt ev St gn gl gs gp gq) (s : Value) (xs : List α) (x : α) (w : World) (hS : St s xs w) (hl : xs.length < 1000)
    (hk : HeapF lt xs 0 xs.length) :
    Calls Tryd.prog 41 #[.iface T rv, ev x] w fun e w' => e = .returned (.tuple #[]) ∧ ∃ s' ys, St s' ys w' ∧ ys.Perm (xs ++ [x]) ∧ HeapF lt ys 0 ys.length := by
  have eN := L.eN
  have eP := L.eP
  have mP0 := L.mP
  have q0 := L.push hS hl x
  have HK := Lib.hid hk
  generalize ev x = v at *
  obtain ⟨n, hn⟩ : ∃ n, n = xs.length := ⟨_, rfl⟩
  have HN := Lib.hid hn
  have hn1 : n < 1000 := by omega
  clear hS hk hl hn
  go_enter Tryd.func41, Tryd.ntmps41
  go_wp2_with fail
  refine q0.mono ?_
  rintro e w1 ⟨rfl, s', hS1⟩
  have HS1 := Lib.hid hS1
  have mN1 := L.mN hS1
  have HLn : Hid ((xs ++ [x]).length = n + 1) := Lib.hid (by simp [HN.out])
  have q1 := L.len hS1 (by rw [HLn.out]; omega)
  rw [HLn.out] at q1
  clear q0 hS1
  go_wp2_with fail
  refine q1.mono ?_
  rintro e w2 ⟨rfl, hb2⟩
  have HS2 := Lib.hid (L.next HS1.out hb2)
  clear mN1 q1 HS1 hb2
  have q2 := up_any O L s' (xs ++ [x]) n w2 HS2.out (by rw [HLn.out]; omega) (by rw [HLn.out]; omega) (by rw [HLn.out, HN.out]; exact rise_start (heap_app x HK.out))
  have hw : IntKind.i64.wrap (((n + 1 : Nat) : Int) - 1) = (n : Int) := by rw [IntWalk.i64_in _ (by omega)]; omega
  go_wp2_with fail
  refine q2.mono ?_
  rintro e w3 ⟨rfl, ys, h1, h2, h3⟩
  go_wp2
  go_end0
  exact ⟨rfl, s', ys, h1, h2, h3⟩

theorem last_split (ys xs : List α) (n : Nat) (h2 : xs.length = n + 1) (hd : ys.drop n = xs.drop n) : ys = ys.take n ++ [lg xs n] := by
  have e : xs.drop n = [lg xs n] := by
    rw [List.drop_eq_getElem_cons (by omega), List.drop_of_length_le (by omega), lg_get (by omega)]
  have := (List.take_append_drop n ys).symm
  rw [hd, e] at this
  exact this

set_option maxRecDepth 100000 in
set_option maxHeartbeats 4000000 in
theorem pop_any {T : TypeId} {rv : Value} {lt : α → α → Bool} {ev : α → Value} {St : Value → List α → World → Prop} {gn gl gs gp gq : FuncId} (O : WOrd lt) (L : HeapAt T rv lt ev St gn gl gs gp gq) (s : Value) (xs : List α) (w : World) (hS : St s xs w) (hl : xs.length ≤ 1000) (h0 : 0 < xs.length)
    (hk : HeapF lt xs 0 xs.length) :
    Calls Tryd.prog 40 #[.iface T rv] w fun e w' => e = .returned (ev (lg xs 0)) ∧ ∃ s' ys, St s' ys w' ∧ xs.Perm (ys ++ [lg xs 0]) ∧ HeapF lt ys 0 ys.length := by
  have eN := L.eN
  have eS := L.eS
  have eQ := L.eQ
  have mQ0 := L.mQ
  have mN0 := L.mN hS
  have q0 := L.len hS hl
  obtain ⟨n, hn⟩ : ∃ n, xs.length = n + 1 := ⟨xs.length - 1, by omega⟩
  rw [hn] at q0
  have HN := Lib.hid hn
  have HS := Lib.hid hS
  have HK := Lib.hid hk
  have hn1 : n < 1000 := by omega
  have hw : IntKind.i64.wrap (((n + 1 : Nat) : Int) - 1) = (n : Int) := by rw [IntWalk.i64_in _ (by omega)]; omega
  clear hS hk hl hn h0
  go_enter Tryd.func40, Tryd.ntmps40
  go_wp2_with fail
  refine q0.mono ?_
  rintro e w1 ⟨rfl, hb1⟩
  have HS1 := Lib.hid (L.next HS.out hb1)
  clear mN0 q0 HS hb1
  have mS1 := L.mS HS1.out
  have q1 := L.swap HS1.out (by rw [HN.out]; omega) 0 n (by rw [HN.out]; omega) (by rw [HN.out]; omega)
  go_wp2_with fail
  refine q1.mono ?_
  rintro e w2 ⟨rfl, hS2⟩
  have HS2 := Lib.hid hS2
  clear mS1 q1 HS1 hS2
  have HLs : Hid ((swp xs 0 n).length = n + 1) := Lib.hid (by rw [swp_len]; exact HN.out)
  have HF2 : Hid (HeapF lt (swp xs 0 n) 1 n) := Lib.hid (by have := heap_swap HK.out (by rw [HN.out]; omega); rw [HN.out] at this; exact this)
  have q2 := down_any O L s (swp xs 0 n) 0 n w2 HS2.out (by rw [HLs.out]; omega) (by rw [HLs.out]; omega) (by omega) (sink_start HF2.out)
  go_wp2_with fail
  refine q2.mono ?_
  rintro e w3 ⟨⟨b, rfl⟩, ys, h1, h2, h3, h4⟩
  have hyl : ys.length = n + 1 := h2.length_eq.trans HLs.out
  have hls : lg (swp xs 0 n) n = lg xs 0 := by rw [lg_swp (by rw [HN.out]; omega) (by rw [HN.out]; omega), if_pos rfl]
  have hsp := last_split ys (swp xs 0 n) n HLs.out h3
  rw [hls] at hsp
  have HP : Hid (xs.Perm (ys.take n ++ [lg xs 0])) := Lib.hid (by rw [← hsp]; exact (h2.trans (swp_perm (by rw [HN.out]; omega) (by rw [HN.out]; omega))).symm)
  have HF : Hid (HeapF lt (ys.take n) 0 (ys.take n).length) := Lib.hid (by
    have := heap_take h4
    rw [List.length_take, Nat.min_eq_left (by omega)]; exact this)
  rw [hsp] at h1
  have q3 := L.pop h1 (by rw [List.length_take]; omega)
  obtain ⟨v, hv⟩ : ∃ v, ev (lg xs 0) = v := ⟨_, rfl⟩
  rw [hv] at q3
  have HV := Lib.hid hv
  clear h1 h2 h3 h4 hsp hyl hls q2 hv
  go_wp2_with fail
  refine q3.mono ?_
  rintro e w4 ⟨rfl, s', h5⟩
  go_wp2
  go_ret
  exact ⟨by rw [HV.out]; rfl, s', ys.take n, h5, HP.out, HF.out⟩
end Go.Proofs.YtannijeiecmjpaaDoor
