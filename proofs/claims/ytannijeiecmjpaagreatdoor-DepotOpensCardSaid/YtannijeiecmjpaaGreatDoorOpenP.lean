/- depot.Open does what runM says (printed by gen_openp.py). -/
import Derived.Test.YtannijeiecmjpaaGreatDoorOpenC
import Derived.Test.YtannijeiecmjpaaGreatDoorDoD
import Derived.Test.YtannijeiecmjpaaGreatDoorBothD
import Derived.BigQuiet
import Derived.Deep.QuietTactic
import Derived.Deep.DeepCutAuto
import Derived.Laws.IdiomStrings
namespace Go.Proofs.YtannijeiecmjpaaGreatDoor
open Go.RowKit

/-- What the code reckons on a line that is right, and nothing else. -/
theorem step_data {L : List MoveD} {rest : Byt} {m : MoveD} {k : Nat} (h : StepTo L rest m) (hk : Lib.indexByte rest 10 = (k : Int)) :
    (Lib.split (rest.take k) [32]).length = 4 ∧ (Lib.split (rest.take k) [32])[1]? = some m.1 ∧ (Lib.split (rest.take k) [32])[2]? = some (Lib.itoa m.2) ∧ lineM L.length m = rest.take (k + 1) := by
  obtain ⟨h1, h2, h3, h4, h5⟩ := step_yes h
  have e : k = (headM L.length m).length := by rw [h1] at hk; omega
  rw [e, h2, h3, h4]
  exact ⟨rfl, rfl, rfl, rfl⟩
theorem next_none {b : Byt} {L : List MoveD} (h : ∀ m, ¬ StepTo L (b.drop (journalM L).length) m) : nextM b L = none := by
  unfold nextM
  rw [dif_neg (fun ⟨m, hm⟩ => h m hm)]
theorem next_some {b : Byt} {L : List MoveD} {m : MoveD} (h : StepTo L (b.drop (journalM L).length) m) (hu : ∀ m', StepTo L (b.drop (journalM L).length) m' → m' = m) : nextM b L = some m := by
  unfold nextM
  have h2 : ∃ m, StepTo L (b.drop (journalM L).length) m := ⟨m, h⟩
  rw [dif_pos h2]
  congr 1
  exact hu _ h2.choose_spec
/-- The move of a line is told by its words. -/
theorem step_one {L : List MoveD} {rest p1 p2 : Byt} {n : Int} {k : Nat} (hk : Lib.indexByte rest 10 = (k : Int)) (h1 : (Lib.split (rest.take k) [32])[1]? = some p1) (h2 : (Lib.split (rest.take k) [32])[2]? = some p2) (ha : Lib.atoiAll p2 = .ok n) : ∀ m, StepTo L rest m → m = (p1, n) := by
  intro m hm
  obtain ⟨_, k1, k2, _⟩ := step_data hm hk
  obtain ⟨_, b0, b1, _⟩ := doErr_ok hm.1
  rw [h1] at k1
  rw [h2] at k2
  have e1 := Option.some.inj k1
  have e2 := Option.some.inj k2
  rw [e2, atoi_itoa m.2 (by omega) (by omega)] at ha
  injection ha with ha
  exact Prod.ext e1.symm ha
theorem index_lt {rest : Byt} {k : Nat} (hk : Lib.indexByte rest 10 = (k : Int)) : k < rest.length := by
  have h := (Lib.indexByte_some hk).1
  exact (List.getElem?_eq_some_iff.1 h).1
theorem elems_drop {w : World} {B o : Nat} {b : Byt} (h : Elems encY 1 w (some ⟨B, o, none⟩) b) (j : Nat) : Elems encY 1 w (some ⟨B, o + j, none⟩) (b.drop j) := by
  rcases h with h | ⟨B2, o2, e, h⟩
  · left; rw [h]; simp
  · obtain ⟨rfl, rfl, _⟩ := Addr.mk.inj (Option.some.inj e)
    refine Or.inr ⟨B, o + j, rfl, fun i hi q u hu => ?_⟩
    rw [List.length_drop] at hi
    rw [List.getElem_drop] at hu
    have h2 := h (j + i) (by omega) q u hu
    rwa [show o + (j + i) * 1 + q = o + j + i * 1 + q by omega] at h2
theorem text_of {w : World} {B o c : Nat} {rest : Byt} (h : Elems encY 1 w (some ⟨B, o, none⟩) rest) (k : Nat) (hk : k ≤ rest.length) : (convert 25 9 (.slice (some ⟨B, o, none⟩) k c)).run Tryz.prog w = .ok (strV (rest.take k)) w := by
  have hl : (rest.take k).length = k := by rw [List.length_take]; omega
  have h2 := run_convert_bytes_back (P := Tryz.prog) w 25 9 5 ⟨B, o, none⟩ c (rest.take k) Tryz.underlying25 Tryz.underlying5 Tryz.underlying9 (fun j hj => by
    rw [hl] at hj
    obtain ⟨B2, o2, e, h3⟩ := h.some (show j < rest.length by omega)
    obtain ⟨rfl, rfl, _⟩ := Addr.mk.inj (Option.some.inj e)
    have h4 := h3 j (by omega) 0 _ rfl
    have hadd : (⟨B, o, none⟩ : Addr).add j = ⟨B, o + j, none⟩ := by unfold Addr.add; split <;> simp_all
    rw [hadd, List.getElem_take]
    simpa using h4)
  rwa [hl] at h2
theorem piece_len (sep : Byt) : ∀ (k : Nat) (s p : Byt), p ∈ Lib.splitK sep 0 k s → p.length ≤ s.length
  | 0, s, p, h => by
    obtain rfl := List.mem_singleton.1 h
    exact Nat.le_refl _
  | k + 1, s, p, h => by
    unfold Lib.splitK at h
    split at h
    · obtain rfl := List.mem_singleton.1 h
      exact Nat.le_refl _
    · rcases List.mem_cons.1 h with rfl | h
      · rw [List.length_take]; omega
      · have := piece_len sep k _ p h
        rw [List.length_drop] at this
        omega
theorem dep_out {base bd : Nat} {mv jv : Value} {L : List MoveD} {w : World} (H : DepAt base bd mv jv L w) {B2 : Nat} (h : w.heap.size ≤ B2) : ¬ depBlocks bd mv jv B2 := by
  rintro (h1 | h1 | h1)
  · have := lt_of_cell H.c0
    simp only at this
    omega
  · rcases H.have' with ⟨e, _⟩ | ⟨bm, N, D, e, h3, h4, h5, ⟨es, clock, h6, _⟩, _⟩
    · rw [e] at h1; cases h1
    · rw [e] at h1
      obtain rfl := Option.some.inj (Value.map.inj h1)
      have := (Array.getElem?_eq_some_iff.1 h6).1
      omega
  · have := (H.jour.lt B2 h1).2
    omega
def OpenPost (b : Byt) (w : World) (e : Ending) (w' : World) : Prop :=
  ∃ mv jv, e = .returned (.tuple #[.pointer (some ⟨w.heap.size, 0, none⟩), .int .i64 ((journalM (runM b 500 [])).length : Int)]) ∧ DepAt (w.heap.size + 1) w.heap.size mv jv (runM b 500 []) w' ∧ OnWay b (runM b 500 []) ∧ Below w.heap.size w w'
set_option maxRecDepth 100000 in
set_option maxHeartbeats 40000000 in
theorem depOpen_any (a : Option Addr) (n c : Nat) (b : Byt) (w : World) (hl : n = b.length) (hn : n ≤ 3000) (hx : Elems encY 1 w a b) (hnone : a = none → c = 0) (hcap : n ≤ c) (hcm : c ≤ maxLen) (H : OpW w) :
    Calls Tryz.prog 18 #[.slice a n c] w (OpenPost b w) := by
  unfold maxLen at hcm
  have HX := Lib.hid hx
  have HL := Lib.hid hl
  have HW := Lib.hid H
  have HNN := Lib.hid hnone
  have HS0 : Hid (DepAt (w.heap.size + 1) w.heap.size (.map none) (.slice none 0 0) [] (w.alloc (.cells #[.map none, .slice none 0 0, .int .i64 0] 27))) := Lib.hid ⟨by simp, by simp, by simp, fun i => by simp, Or.inl ⟨rfl, rfl⟩, ⟨rfl, Or.inl ⟨rfl, rfl⟩⟩, fun m hm => (by cases hm), fun b hb => (by cases hb)⟩
  have HB0 : Hid (Below w.heap.size w (w.alloc (.cells #[.map none, .slice none 0 0, .int .i64 0] 27))) := Lib.hid ((Below.refl _ _).alloc (Nat.le_refl _) _)
  clear hx hl H hnone
  go_enter Tryz.func18, Tryz.ntmps18
  go_wp2
  go_loopw [6] (fun kv wr => ∃ (L : List MoveD) (mv jv : Value), kv = kv ∧ Hid (OnWay b L) ∧ Hid (DepAt (w.heap.size + 1) w.heap.size mv jv L wr) ∧ Hid (Below w.heap.size w wr)) (fun _ wr => 500 - (intOf ((wr.cell? ⟨w.heap.size, 2, none⟩).getD (.int .i64 0))).toNat)
  case atStart => exact ⟨[], _, _, rfl, Lib.hid (onWay_nil b), HS0, HB0⟩
  case round =>
    obtain ⟨L, mv, jv, -, HO, HD, HB⟩ := hrel
    clear HS0 HB0
    obtain ⟨ja, jc, rfl⟩ := rowForm HD.out.jour
    have c1 := HD.out.c1
    have hjl := HO.out.le
    rw [← HL.out] at hjl
    obtain ⟨jl, hj⟩ : ∃ jl, jl = (journalM L).length := ⟨_, rfl⟩
    rw [← hj] at c1 hjl
    have HJ := Lib.hid hj
    clear hj
    have HC2a := Lib.hid HD.out.c2
    have HOW := Lib.hid (HW.out.at HB.out)
    have HFIN : Hid ((∀ m, ¬ StepTo L (b.drop jl) m) → ∀ w' mv jv, DepAt (w.heap.size + 1) w.heap.size mv jv L w' → Below w.heap.size w w' → OpenPost b w (.returned (.tuple #[.pointer (some ⟨w.heap.size, 0, none⟩), .int .i64 (jl : Int)])) w') := Lib.hid (fun h w' mv jv h1 h2 => by
      rw [HJ.out] at h
      have e := HO.out.stop (next_none h)
      have ho := HO.out
      rw [e] at h1 ho
      exact ⟨_, _, by rw [HJ.out, ← e], h1, ho, h2⟩)
    have hw1 : IntKind.i64.wrap (jl : Int) = (jl : Int) := IntWalk.i64_in _ (by omega)
    have z1 : (0 : Int) ≤ (jl : Int) := by omega
    have z2 : (jl : Int) ≤ (n : Int) := by omega
    by_cases hre : jl = n
    · have HNS : Hid (∀ m, ¬ StepTo L (b.drop jl) m) := Lib.hid (fun m hm => by
        have h5 := (step_yes hm).2.2.2.2
        rw [List.length_drop, ← HL.out, hre] at h5
        omega)
      have hin : Lib.indexByte [] 10 = -1 := rfl
      subst hre
      by_cases hcj : c = jl
      · go_wp2_with fail
        refine (idx_any _ _ _ [] wr rfl (Or.inl rfl) (fun _ => rfl)).mono ?_
        rintro e w1 ⟨rfl, rfl⟩
        rw [hin]
        have HNO := Lib.hid (HFIN.out (HNS.out))
        have c1 := HD.out.c1
        rw [← HJ.out] at c1
        go_wp2
        go_quiet (fail)
        go_wp2
        go_ret2
        exact HNO.out _ _ _ (HD.out.at (below_drewN _ _ _)) (HB.out.trans (below_drewN _ _ _))
      · have hnj : jl - jl = 0 := by omega
        go_wp2_with fail
        refine (idx_any _ _ _ [] wr rfl (Or.inl rfl) (fun h => by
          cases a with
          | none => have := HNN.out rfl; omega
          | some x => cases h)).mono ?_
        rintro e w1 ⟨rfl, rfl⟩
        rw [hin]
        have HNO := Lib.hid (HFIN.out (HNS.out))
        have c1 := HD.out.c1
        rw [← HJ.out] at c1
        go_wp2
        go_quiet (fail)
        go_wp2
        go_ret2
        exact HNO.out _ _ _ (HD.out.at (below_drewN _ _ _)) (HB.out.trans (below_drewN _ _ _))
    · --{main
      have hlt : jl < n := by omega
      have hbl : jl < b.length := by rw [← HL.out]; exact hlt
      obtain ⟨B, o, rfl, _⟩ := HX.out.some hbl
      have HR : Hid (Elems encY 1 w (some ⟨B, o + jl, none⟩) (b.drop jl)) := Lib.hid (elems_drop HX.out jl)
      obtain ⟨rest, hrest⟩ : ∃ rest, rest = b.drop jl := ⟨_, rfl⟩
      have hrl : n - jl = rest.length := by rw [hrest, List.length_drop, HL.out]
      rw [← hrest] at HFIN HR
      have HRE := Lib.hid hrest
      have hcj : ¬ c = jl := by omega
      have HIX := Lib.hid (idx_any (some ⟨B, o + jl, none⟩) (n - jl) (c - jl) rest wr hrl (HR.out.below HB.out (Nat.le_refl _)) (fun h => by cases h))
      have HRL := Lib.hid hrl
      clear hrest hbl hrl
      go_wp2_with fail
      refine HIX.out.mono ?_
      rintro e w1 ⟨rfl, rfl⟩
      rcases (show Lib.indexByte rest 10 = -1 ∨ ∃ k : Nat, Lib.indexByte rest 10 = (k : Int) from by
        have h1 := Lib.indexByte_ge rest 10
        rcases Int.lt_or_le (Lib.indexByte rest 10) 0 with h | h
        · exact Or.inl (by omega)
        · exact Or.inr ⟨(Lib.indexByte rest 10).toNat, by omega⟩) with hk | ⟨k, hk⟩
      · have HNS : Hid (∀ m, ¬ StepTo L rest m) := Lib.hid (fun m hm => by
          have h5 := (step_yes hm).1
          rw [hk] at h5
          omega)
        rw [hk]
        clear hk
        have HNO := Lib.hid (HFIN.out (HNS.out))
        have c1 := HD.out.c1
        rw [← HJ.out] at c1
        go_wp2
        go_quiet (fail)
        go_wp2
        go_ret2
        exact HNO.out _ _ _ (HD.out.at (below_drewN _ _ _)) (HB.out.trans (below_drewN _ _ _))
      · have hkl := index_lt hk
        have hrl := HRL.out
        have HK := Lib.hid hk
        have hcv := text_of (c := c - jl) (HR.out.below HB.out (Nat.le_refl _)) k (by omega)
        have z3 : (k : Int) ≤ ((c - jl : Nat) : Int) := by omega
        have HSP := Lib.hid (split_any (rest.take k) w1 HOW.out (by rw [List.length_take]; omega))
        rw [hk]
        have hkr : k ≤ 3000 := by omega
        clear hk hrl
        go_wp2_with fail
        refine HSP.out.mono ?_
        rintro e w2 ⟨aw, rfl, hWS, hb2⟩
        have HB2 := Lib.hid (HB.out.trans (hb2.mono HB.out.size))
        have HD2 := Lib.hid (HD.out.at hb2)
        have HOW2 := Lib.hid (HOW.out.at hb2)
        have HPL : Hid (∀ p ∈ Lib.split (rest.take k) [32], p.length ≤ 3000) := Lib.hid (fun p hp => by
          have h := piece_len [32] _ _ p hp
          rw [List.length_take] at h
          omega)
        obtain ⟨ws, hws⟩ : ∃ ws, ws = Lib.split (rest.take k) [32] := ⟨_, rfl⟩
        rw [← hws] at hWS HPL
        rw [← hws]
        have HWS := Lib.hid hWS
        have HWE := Lib.hid hws
        clear hWS hws hb2 hcv HSP HOW HD HB c1
        by_cases h4 : ws.length = 4
        · obtain ⟨p0, p1, p2, p3, rfl⟩ : ∃ p0 p1 p2 p3, ws = [p0, p1, p2, p3] := by
            match ws, h4 with
            | [p0, p1, p2, p3], _ => exact ⟨p0, p1, p2, p3, rfl⟩
          obtain ⟨Bw, ow, rfl, hcw⟩ := HWS.out.some (show 0 < [p0, p1, p2, p3].length by simp)
          have q1 : w2.cell? ⟨Bw, ow + 1, none⟩ = some (strV p1) := by have h := hcw 1 (by simp) 0 _ rfl; simpa using h
          have q2 : w2.cell? ⟨Bw, ow + 2, none⟩ = some (strV p2) := by have h := hcw 2 (by simp) 0 _ rfl; simpa using h
          have hp1 := HPL.out p1 (by simp)
          have hp2 := HPL.out p2 (by simp)
          have HAT := Lib.hid (atoi_any p2 w2 HOW2.out (by omega))
          have HW1 : Hid ((Lib.split (rest.take k) [32])[1]? = some p1) := Lib.hid (by rw [← HWE.out]; rfl)
          have HW2 : Hid ((Lib.split (rest.take k) [32])[2]? = some p2) := Lib.hid (by rw [← HWE.out]; rfl)
          clear hcw HWS HWE HPL h4
          go_wp2_with fail
          refine HAT.out.mono ?_
          rintro e w3 ⟨nv, ev, rfl, n0, n1, hev, hb3⟩
          have HB3 := Lib.hid (HB2.out.trans (hb3.mono HB2.out.size))
          have HD3 := Lib.hid (HD2.out.at hb3)
          have HOW3 := Lib.hid (HOW2.out.at hb3)
          replace q1 := (hb3.cell (lt_of_cell q1)).trans q1
          clear hb3 HAT HOW2 HD2 HB2 q2
          rcases hev with ⟨rfl, ha⟩ | ⟨⟨et, ep, rfl⟩, hna⟩
          · have hone := step_one (L := L) HK.out HW1.out HW2.out ha
            have HONE := Lib.hid hone
            clear hone ha
            obtain ⟨B2, hB2⟩ : ∃ B2, B2 = w3.heap.size := ⟨_, rfl⟩
            obtain ⟨W, hW⟩ : ∃ W, W = w3.alloc (.cells #[strV p1, .int .i64 nv] 36) := ⟨_, rfl⟩
            have hbW : Below w3.heap.size w3 W := by rw [hW]; exact (Below.refl _ _).alloc (Nat.le_refl _) _
            have x0 : W.cell? ⟨B2, 0, none⟩ = some (strV p1) := by rw [hW, hB2]; simp
            have x1 : W.cell? ⟨B2, 1, none⟩ = some (.int .i64 nv) := by rw [hW, hB2]; simp
            have HDW := Lib.hid (HD3.out.at hbW)
            have HOWW := Lib.hid (HOW3.out.at hbW)
            have HBW := Lib.hid (HB3.out.trans (hbW.mono HB3.out.size))
            have HOUT := Lib.hid (dep_out HD3.out (B2 := B2) (by omega))
            clear hbW
            go_wp2
            rw [← hW, ← hB2]
            clear hW hB2
            have HCV : Hid (∀ w', Below w.heap.size w w' → (convert 25 9 (.slice (some ⟨B, o + jl, none⟩) (k + 1) (c - jl))).run Tryz.prog w' = .ok (strV (rest.take (k + 1))) w') := Lib.hid (fun w' h => text_of (HR.out.below h (Nat.le_refl _)) (k + 1) (by omega))
            have hLn := HO.out.len
            have HLN : Hid (∀ w', OpW w' → Calls Tryz.prog 21 #[.int .i64 L.length, .agg #[strV p1, .int .i64 nv]] w' fun e w'' => e = .returned (strV (lineM L.length (p1, nv))) ∧ Below w'.heap.size w' w'') := Lib.hid (fun w' h => depLine_any L.length ⟨p1.toArray⟩ nv w' (by omega) (by simp [ByteArray.size]; omega) n0 n1 h.pow)
            have k2w : IntKind.i64.wrap ((k : Int) + 1) = (k : Int) + 1 := IntWalk.i64_in _ (by omega)
            have z4 : (k : Int) + 1 ≤ ((c - jl : Nat) : Int) := by have := HRL.out; omega
            have z5 : (0 : Int) ≤ (k : Int) + 1 := by omega
            have z6 : ((k : Int) + 1).toNat = k + 1 := by omega
            by_cases hls : lineM L.length (p1, nv) = rest.take (k + 1)
            · rw [hls] at HLN
              by_cases hE : doErr L (p1, nv) = 0
              · have hst : StepTo L rest (p1, nv) := step_no hls hE
                have hnx : nextM b L = some (p1, nv) := next_some (by rw [← HJ.out, ← HRE.out]; exact hst) (by rw [← HJ.out, ← HRE.out]; exact HONE.out)
                have hnn := HO.out.next hnx
                have hdn := hnn.2.2
                have hL5 := (doErr_ok hE).2.2.2
                have HON := Lib.hid hnn.1
                have HC2 := Lib.hid HC2a.out
                have HDO : Hid (∀ w', OpW w' → Below w.heap.size w w' → DepAt (w.heap.size + 1) w.heap.size mv (.slice ja (journalM L).length jc) L w' → Calls Tryz.prog 5 #[.pointer (some ⟨w.heap.size, 0, none⟩), .agg #[strV p1, .int .i64 nv]] w' fun e w'' => e = .returned .nilIface ∧ (∃ mv2 jv2, DepAt (w.heap.size + 1) w.heap.size mv2 jv2 (L ++ [(p1, nv)]) w'') ∧ Below w.heap.size w' w'' ∧ ∀ j v, w'.cell? ⟨B2, j, none⟩ = some v → w''.cell? ⟨B2, j, none⟩ = some v) := Lib.hid (fun w' h1 h2 h3 => by
                  refine (depDo_any (lo := w.heap.size) (p1, nv) hLn (by simp only; omega) n0 n1 (fun w'' h => HW.out.pow.at (h2.trans h)) (Nat.le_refl _) (by have := lt_of_cell h3.c0; simp only at this; omega) (by omega) h3).mono ?_
                  rintro e w'' ⟨he, mv2, jv2, hd2, hf⟩
                  rw [hE] at he
                  rw [hdn] at hd2
                  exact ⟨he, ⟨mv2, jv2, hd2⟩, dep_low (Nat.le_refl _) (by omega) h2.size h3 hf, fun j v h => cell_frs h hf HOUT.out⟩)
                clear hst hnx hnn hdn hE hls HONE
                have hseg : ((rest.take (k + 1)) != (rest.take (k + 1))) = false := by simp
                generalize rest.take (k + 1) = seg at *
                refine wp_region_held_drew (S := fun w' => w'.cell? ⟨B2, 0, none⟩ = some (strV p1) ∧ w'.cell? ⟨B2, 1, none⟩ = some (.int .i64 nv) ∧ Hid (OpW w' ∧ Below w.heap.size w w')) (by kernel_rfl) ⟨by simpa using x0, by simpa using x1, Lib.hid ⟨HOWW.out.at (below_drewN W 1 _), HBW.out.trans (below_drewN W 1 _)⟩⟩ (fun hHeld => ?_)
                have HDX := HDW
                refine take_yes (i := 0) (v := ?_) rfl (by kernel_rfl) (by kernel_rfl) (by kernel_rfl) (fun _ _ _ h => h) (by kernel_rfl) hHeld ?_ ?_
                rotate_left
                · intro w hSw; go_split_ands; go_simp; try with_reducible rfl
                try simp only [Act.put, List.setIfInBounds_toArray, List.set_cons_zero, List.set_cons_succ]
                refine take_yes (i := 1) (v := ?_) rfl (by kernel_rfl) (by kernel_rfl) (by kernel_rfl) (fun _ _ _ h => h) (by kernel_rfl) hHeld ?_ ?_
                rotate_left
                · intro w hSw; go_split_ands; go_simp; try with_reducible rfl
                try simp only [Act.put, List.setIfInBounds_toArray, List.set_cons_zero, List.set_cons_succ]
                refine take_yes (i := 2) (v := ?_) rfl (by kernel_rfl) (by kernel_rfl) (by kernel_rfl) (fun _ _ _ h => h) (by kernel_rfl) hHeld ?_ ?_
                rotate_left
                · intro w hSw; go_split_ands; go_simp; try with_reducible rfl
                try simp only [Act.put, List.setIfInBounds_toArray, List.set_cons_zero, List.set_cons_succ]
                refine take_yes (i := 3) (v := ?_) rfl (by kernel_rfl) (by kernel_rfl) (by kernel_rfl) (fun _ _ _ h => h) (by kernel_rfl) hHeld ?_ ?_
                rotate_left
                · intro w hSw; go_split_ands; go_simp; try with_reducible rfl
                try simp only [Act.put, List.setIfInBounds_toArray, List.set_cons_zero, List.set_cons_succ]
                refine take_yes (i := 4) (v := ?_) rfl (by kernel_rfl) (by kernel_rfl) (by kernel_rfl) (fun _ _ _ h => h) (by kernel_rfl) hHeld ?_ ?_
                rotate_left
                · intro w hSw; go_split_ands; go_simp; try with_reducible rfl
                try simp only [Act.put, List.setIfInBounds_toArray, List.set_cons_zero, List.set_cons_succ]
                refine take_yes (i := 5) (v := ?_) rfl (by kernel_rfl) (by kernel_rfl) (by kernel_rfl) (fun _ _ _ h => h) (by kernel_rfl) hHeld ?_ ?_
                rotate_left
                · intro w hSw; go_split_ands; go_simp; try with_reducible rfl
                try simp only [Act.put, List.setIfInBounds_toArray, List.set_cons_zero, List.set_cons_succ]
                refine take_yes (i := 7) (v := ?_) rfl (by kernel_rfl) (by kernel_rfl) (by kernel_rfl) (fun _ _ _ h => h) (by kernel_rfl) hHeld ?_ ?_
                rotate_left
                · intro w hSw; go_split_ands; go_simp; try with_reducible rfl
                try simp only [Act.put, List.setIfInBounds_toArray, List.set_cons_zero, List.set_cons_succ]
                refine take_yes (i := 9) (v := ?_) rfl (by kernel_rfl) (by kernel_rfl) (by kernel_rfl) (fun _ _ _ h => h) (by kernel_rfl) hHeld ?_ ?_
                rotate_left
                · intro w hSw; go_split_ands; go_simp; try with_reducible rfl
                try simp only [Act.put, List.setIfInBounds_toArray, List.set_cons_zero, List.set_cons_succ]
                refine take_yes (i := 10) (v := ?_) rfl (by kernel_rfl) (by kernel_rfl) (by kernel_rfl) (fun _ _ _ h => h) (by kernel_rfl) hHeld ?_ ?_
                rotate_left
                · intro w hSw; go_split_ands; go_simp; try with_reducible rfl
                try simp only [Act.put, List.setIfInBounds_toArray, List.set_cons_zero, List.set_cons_succ]
                refine take_yes (i := 11) (v := ?_) rfl (by kernel_rfl) (by kernel_rfl) (by kernel_rfl) (fun _ _ _ h => h) (by kernel_rfl) hHeld ?_ ?_
                rotate_left
                · intro w hSw; go_split_ands; go_simp; try with_reducible rfl
                try simp only [Act.put, List.setIfInBounds_toArray, List.set_cons_zero, List.set_cons_succ]
                refine take_yes (i := 12) (v := ?_) rfl (by kernel_rfl) (by kernel_rfl) (by kernel_rfl) (fun _ _ _ h => h) (by kernel_rfl) hHeld ?_ ?_
                rotate_left
                · intro w hSw; go_split_ands; go_simp; try with_reducible rfl
                try simp only [Act.put, List.setIfInBounds_toArray, List.set_cons_zero, List.set_cons_succ]
                refine take_both (i := 6) (j := 13) rfl rfl (by kernel_rfl) (fun K hK => ?_) (fun K hK => ?_)
                · skip
                  have c2 := HDX.out.c2
                  go_simp
                  refine hK.out _ _ hHeld (fun hHeld2 => ?_)
                  replace hHeld := hHeld2
                  clear hK K hHeld2 c2
                  try simp only [Act.put, List.setIfInBounds_toArray, List.set_cons_zero, List.set_cons_succ]
                  refine take_both (i := 8) (j := 13) rfl rfl (by kernel_rfl) (fun K hK => ?_) (fun K hK => ?_)
                  · skip
                    go_simp
                    go_wp2_with (go_at_call 21; refine (HLN.out _ hHeld.2.2.out.1).mono ?_; rintro e wN ⟨rfl, hbN⟩)
                    replace HDX := Lib.hid (HDX.out.at ((below_drewN W 1 _).trans hbN))
                    refine hK.out _ _ ⟨(hbN.cell (lt_of_cell hHeld.1)).trans hHeld.1, (hbN.cell (lt_of_cell hHeld.2.1)).trans hHeld.2.1, Lib.hid ⟨hHeld.2.2.out.1.at hbN, hHeld.2.2.out.2.trans (hbN.mono hHeld.2.2.out.2.size)⟩⟩ (fun hHeld2 => ?_)
                    replace hHeld := hHeld2
                    clear hK K hHeld2 hbN
                    try simp only [Act.put, List.setIfInBounds_toArray, List.set_cons_zero, List.set_cons_succ]
                    refine take_loud (i := 13) rfl (by kernel_rfl) (fun K hK => ?_)
                    have hcv := HCV.out _ hHeld.2.2.out.2
                    go_simp
                    refine hK.out _ _ hHeld (fun hHeld2 => ?_)
                    replace hHeld := hHeld2
                    clear hK K hHeld2 hcv
                    try simp only [Act.put, List.setIfInBounds_toArray, List.set_cons_zero, List.set_cons_succ]
                    refine take_yes (i := 14) (v := ?_) rfl (by kernel_rfl) (by kernel_rfl) (by kernel_rfl) (fun _ _ _ h => h) (by kernel_rfl) hHeld ?_ ?_
                    rotate_left
                    · intro w hSw; go_split_ands; go_simp; try with_reducible rfl
                    try simp only [Act.put, List.setIfInBounds_toArray, List.set_cons_zero, List.set_cons_succ]
                    refine take_yes (i := 15) (v := ?_) rfl (by kernel_rfl) (by kernel_rfl) (by kernel_rfl) (fun _ _ _ h => h) (by kernel_rfl) hHeld ?_ ?_
                    rotate_left
                    · intro w hSw; go_split_ands; go_simp; try with_reducible rfl
                    try simp only [Act.put, List.setIfInBounds_toArray, List.set_cons_zero, List.set_cons_succ]
                    refine take_yes (i := 16) (v := ?_) rfl (by kernel_rfl) (by kernel_rfl) (by kernel_rfl) (fun _ _ _ h => h) (by kernel_rfl) hHeld ?_ ?_
                    rotate_left
                    · intro w hSw; go_split_ands; go_simp; try with_reducible rfl
                    try simp only [Act.put, List.setIfInBounds_toArray, List.set_cons_zero, List.set_cons_succ]
                    refine take_yes (i := 17) (v := ?_) rfl (by kernel_rfl) (by kernel_rfl) (by kernel_rfl) (fun _ _ _ h => h) (by kernel_rfl) hHeld ?_ ?_
                    rotate_left
                    · intro w hSw; go_split_ands; go_simp; try with_reducible rfl
                    try simp only [Act.put, List.setIfInBounds_toArray, List.set_cons_zero, List.set_cons_succ]
                    refine take_yes (i := 18) (v := ?_) rfl (by kernel_rfl) (by kernel_rfl) (by kernel_rfl) (fun _ _ _ h => h) (by kernel_rfl) hHeld ?_ ?_
                    rotate_left
                    · intro w hSw; go_split_ands; go_simp; try with_reducible rfl
                    try simp only [Act.put, List.setIfInBounds_toArray, List.set_cons_zero, List.set_cons_succ]
                    refine take_loud (i := 19) rfl (by kernel_rfl) (fun K hK => ?_)
                    go_simp
                    go_wp2_with (go_at_call 5; refine (HDO.out _ hHeld.2.2.out.1 hHeld.2.2.out.2 HDX.out).mono ?_; rintro e wN ⟨rfl, ⟨mv2, jv2, hD2⟩, hbN, hcN⟩)
                    have HDN := Lib.hid hD2
                    refine hK.out _ _ ⟨hcN _ _ hHeld.1, hcN _ _ hHeld.2.1, Lib.hid ⟨HW.out.at (hHeld.2.2.out.2.trans hbN), hHeld.2.2.out.2.trans hbN⟩⟩ (fun hHeld2 => ?_)
                    replace hHeld := hHeld2
                    clear hK K hHeld2 hbN hcN hD2 HDX
                    try simp only [Act.put, List.setIfInBounds_toArray, List.set_cons_zero, List.set_cons_succ]
                    refine take_yes (i := 20) (v := ?_) rfl (by kernel_rfl) (by kernel_rfl) (by kernel_rfl) (fun _ _ _ h => h) (by kernel_rfl) hHeld ?_ ?_
                    rotate_left
                    · intro w hSw; go_split_ands; go_simp; try with_reducible rfl
                    try simp only [Act.put, List.setIfInBounds_toArray, List.set_cons_zero, List.set_cons_succ]
                    refine take_yes (i := 21) (v := ?_) rfl (by kernel_rfl) (by kernel_rfl) (by kernel_rfl) (fun _ _ _ h => h) (by kernel_rfl) hHeld ?_ ?_
                    rotate_left
                    · intro w hSw; go_split_ands; go_simp; try with_reducible rfl
                    try simp only [Act.put, List.setIfInBounds_toArray, List.set_cons_zero, List.set_cons_succ]
                    have HBX := Lib.hid hHeld.2.2.out.2
                    refine wpAnyH_done (by kernel_rfl) ?_ _
                    clear hHeld
                    go_wp2
                    exact ⟨⟨L ++ [(p1, nv)], mv2, jv2, trivial, HON, HDN, HBX⟩, by rw [HDN.out.c2, HC2.out]; simp [intOf]; omega⟩
                  · skip
                    have hcv := HCV.out _ hHeld.2.2.out.2
                    go_simp
                    refine hK.out _ _ hHeld (fun hHeld2 => ?_)
                    replace hHeld := hHeld2
                    clear hK K hHeld2 hcv
                    try simp only [Act.put, List.setIfInBounds_toArray, List.set_cons_zero, List.set_cons_succ]
                    refine take_loud (i := 8) rfl (by kernel_rfl) (fun K hK => ?_)
                    go_simp
                    go_wp2_with (go_at_call 21; refine (HLN.out _ hHeld.2.2.out.1).mono ?_; rintro e wN ⟨rfl, hbN⟩)
                    replace HDX := Lib.hid (HDX.out.at ((below_drewN W 1 _).trans hbN))
                    refine hK.out _ _ ⟨(hbN.cell (lt_of_cell hHeld.1)).trans hHeld.1, (hbN.cell (lt_of_cell hHeld.2.1)).trans hHeld.2.1, Lib.hid ⟨hHeld.2.2.out.1.at hbN, hHeld.2.2.out.2.trans (hbN.mono hHeld.2.2.out.2.size)⟩⟩ (fun hHeld2 => ?_)
                    replace hHeld := hHeld2
                    clear hK K hHeld2 hbN
                    try simp only [Act.put, List.setIfInBounds_toArray, List.set_cons_zero, List.set_cons_succ]
                    refine take_yes (i := 14) (v := ?_) rfl (by kernel_rfl) (by kernel_rfl) (by kernel_rfl) (fun _ _ _ h => h) (by kernel_rfl) hHeld ?_ ?_
                    rotate_left
                    · intro w hSw; go_split_ands; go_simp; try with_reducible rfl
                    try simp only [Act.put, List.setIfInBounds_toArray, List.set_cons_zero, List.set_cons_succ]
                    refine take_yes (i := 15) (v := ?_) rfl (by kernel_rfl) (by kernel_rfl) (by kernel_rfl) (fun _ _ _ h => h) (by kernel_rfl) hHeld ?_ ?_
                    rotate_left
                    · intro w hSw; go_split_ands; go_simp; try with_reducible rfl
                    try simp only [Act.put, List.setIfInBounds_toArray, List.set_cons_zero, List.set_cons_succ]
                    refine take_yes (i := 16) (v := ?_) rfl (by kernel_rfl) (by kernel_rfl) (by kernel_rfl) (fun _ _ _ h => h) (by kernel_rfl) hHeld ?_ ?_
                    rotate_left
                    · intro w hSw; go_split_ands; go_simp; try with_reducible rfl
                    try simp only [Act.put, List.setIfInBounds_toArray, List.set_cons_zero, List.set_cons_succ]
                    refine take_yes (i := 17) (v := ?_) rfl (by kernel_rfl) (by kernel_rfl) (by kernel_rfl) (fun _ _ _ h => h) (by kernel_rfl) hHeld ?_ ?_
                    rotate_left
                    · intro w hSw; go_split_ands; go_simp; try with_reducible rfl
                    try simp only [Act.put, List.setIfInBounds_toArray, List.set_cons_zero, List.set_cons_succ]
                    refine take_yes (i := 18) (v := ?_) rfl (by kernel_rfl) (by kernel_rfl) (by kernel_rfl) (fun _ _ _ h => h) (by kernel_rfl) hHeld ?_ ?_
                    rotate_left
                    · intro w hSw; go_split_ands; go_simp; try with_reducible rfl
                    try simp only [Act.put, List.setIfInBounds_toArray, List.set_cons_zero, List.set_cons_succ]
                    refine take_loud (i := 19) rfl (by kernel_rfl) (fun K hK => ?_)
                    go_simp
                    go_wp2_with (go_at_call 5; refine (HDO.out _ hHeld.2.2.out.1 hHeld.2.2.out.2 HDX.out).mono ?_; rintro e wN ⟨rfl, ⟨mv2, jv2, hD2⟩, hbN, hcN⟩)
                    have HDN := Lib.hid hD2
                    refine hK.out _ _ ⟨hcN _ _ hHeld.1, hcN _ _ hHeld.2.1, Lib.hid ⟨HW.out.at (hHeld.2.2.out.2.trans hbN), hHeld.2.2.out.2.trans hbN⟩⟩ (fun hHeld2 => ?_)
                    replace hHeld := hHeld2
                    clear hK K hHeld2 hbN hcN hD2 HDX
                    try simp only [Act.put, List.setIfInBounds_toArray, List.set_cons_zero, List.set_cons_succ]
                    refine take_yes (i := 20) (v := ?_) rfl (by kernel_rfl) (by kernel_rfl) (by kernel_rfl) (fun _ _ _ h => h) (by kernel_rfl) hHeld ?_ ?_
                    rotate_left
                    · intro w hSw; go_split_ands; go_simp; try with_reducible rfl
                    try simp only [Act.put, List.setIfInBounds_toArray, List.set_cons_zero, List.set_cons_succ]
                    refine take_yes (i := 21) (v := ?_) rfl (by kernel_rfl) (by kernel_rfl) (by kernel_rfl) (fun _ _ _ h => h) (by kernel_rfl) hHeld ?_ ?_
                    rotate_left
                    · intro w hSw; go_split_ands; go_simp; try with_reducible rfl
                    try simp only [Act.put, List.setIfInBounds_toArray, List.set_cons_zero, List.set_cons_succ]
                    have HBX := Lib.hid hHeld.2.2.out.2
                    refine wpAnyH_done (by kernel_rfl) ?_ _
                    clear hHeld
                    go_wp2
                    exact ⟨⟨L ++ [(p1, nv)], mv2, jv2, trivial, HON, HDN, HBX⟩, by rw [HDN.out.c2, HC2.out]; simp [intOf]; omega⟩
                · skip
                  have hcv := HCV.out _ hHeld.2.2.out.2
                  go_simp
                  refine hK.out _ _ hHeld (fun hHeld2 => ?_)
                  replace hHeld := hHeld2
                  clear hK K hHeld2 hcv
                  try simp only [Act.put, List.setIfInBounds_toArray, List.set_cons_zero, List.set_cons_succ]
                  refine take_loud (i := 6) rfl (by kernel_rfl) (fun K hK => ?_)
                  have c2 := HDX.out.c2
                  go_simp
                  refine hK.out _ _ hHeld (fun hHeld2 => ?_)
                  replace hHeld := hHeld2
                  clear hK K hHeld2 c2
                  try simp only [Act.put, List.setIfInBounds_toArray, List.set_cons_zero, List.set_cons_succ]
                  refine take_loud (i := 8) rfl (by kernel_rfl) (fun K hK => ?_)
                  go_simp
                  go_wp2_with (go_at_call 21; refine (HLN.out _ hHeld.2.2.out.1).mono ?_; rintro e wN ⟨rfl, hbN⟩)
                  replace HDX := Lib.hid (HDX.out.at ((below_drewN W 1 _).trans hbN))
                  refine hK.out _ _ ⟨(hbN.cell (lt_of_cell hHeld.1)).trans hHeld.1, (hbN.cell (lt_of_cell hHeld.2.1)).trans hHeld.2.1, Lib.hid ⟨hHeld.2.2.out.1.at hbN, hHeld.2.2.out.2.trans (hbN.mono hHeld.2.2.out.2.size)⟩⟩ (fun hHeld2 => ?_)
                  replace hHeld := hHeld2
                  clear hK K hHeld2 hbN
                  try simp only [Act.put, List.setIfInBounds_toArray, List.set_cons_zero, List.set_cons_succ]
                  refine take_yes (i := 14) (v := ?_) rfl (by kernel_rfl) (by kernel_rfl) (by kernel_rfl) (fun _ _ _ h => h) (by kernel_rfl) hHeld ?_ ?_
                  rotate_left
                  · intro w hSw; go_split_ands; go_simp; try with_reducible rfl
                  try simp only [Act.put, List.setIfInBounds_toArray, List.set_cons_zero, List.set_cons_succ]
                  refine take_yes (i := 15) (v := ?_) rfl (by kernel_rfl) (by kernel_rfl) (by kernel_rfl) (fun _ _ _ h => h) (by kernel_rfl) hHeld ?_ ?_
                  rotate_left
                  · intro w hSw; go_split_ands; go_simp; try with_reducible rfl
                  try simp only [Act.put, List.setIfInBounds_toArray, List.set_cons_zero, List.set_cons_succ]
                  refine take_yes (i := 16) (v := ?_) rfl (by kernel_rfl) (by kernel_rfl) (by kernel_rfl) (fun _ _ _ h => h) (by kernel_rfl) hHeld ?_ ?_
                  rotate_left
                  · intro w hSw; go_split_ands; go_simp; try with_reducible rfl
                  try simp only [Act.put, List.setIfInBounds_toArray, List.set_cons_zero, List.set_cons_succ]
                  refine take_yes (i := 17) (v := ?_) rfl (by kernel_rfl) (by kernel_rfl) (by kernel_rfl) (fun _ _ _ h => h) (by kernel_rfl) hHeld ?_ ?_
                  rotate_left
                  · intro w hSw; go_split_ands; go_simp; try with_reducible rfl
                  try simp only [Act.put, List.setIfInBounds_toArray, List.set_cons_zero, List.set_cons_succ]
                  refine take_yes (i := 18) (v := ?_) rfl (by kernel_rfl) (by kernel_rfl) (by kernel_rfl) (fun _ _ _ h => h) (by kernel_rfl) hHeld ?_ ?_
                  rotate_left
                  · intro w hSw; go_split_ands; go_simp; try with_reducible rfl
                  try simp only [Act.put, List.setIfInBounds_toArray, List.set_cons_zero, List.set_cons_succ]
                  refine take_loud (i := 19) rfl (by kernel_rfl) (fun K hK => ?_)
                  go_simp
                  go_wp2_with (go_at_call 5; refine (HDO.out _ hHeld.2.2.out.1 hHeld.2.2.out.2 HDX.out).mono ?_; rintro e wN ⟨rfl, ⟨mv2, jv2, hD2⟩, hbN, hcN⟩)
                  have HDN := Lib.hid hD2
                  refine hK.out _ _ ⟨hcN _ _ hHeld.1, hcN _ _ hHeld.2.1, Lib.hid ⟨HW.out.at (hHeld.2.2.out.2.trans hbN), hHeld.2.2.out.2.trans hbN⟩⟩ (fun hHeld2 => ?_)
                  replace hHeld := hHeld2
                  clear hK K hHeld2 hbN hcN hD2 HDX
                  try simp only [Act.put, List.setIfInBounds_toArray, List.set_cons_zero, List.set_cons_succ]
                  refine take_yes (i := 20) (v := ?_) rfl (by kernel_rfl) (by kernel_rfl) (by kernel_rfl) (fun _ _ _ h => h) (by kernel_rfl) hHeld ?_ ?_
                  rotate_left
                  · intro w hSw; go_split_ands; go_simp; try with_reducible rfl
                  try simp only [Act.put, List.setIfInBounds_toArray, List.set_cons_zero, List.set_cons_succ]
                  refine take_yes (i := 21) (v := ?_) rfl (by kernel_rfl) (by kernel_rfl) (by kernel_rfl) (fun _ _ _ h => h) (by kernel_rfl) hHeld ?_ ?_
                  rotate_left
                  · intro w hSw; go_split_ands; go_simp; try with_reducible rfl
                  try simp only [Act.put, List.setIfInBounds_toArray, List.set_cons_zero, List.set_cons_succ]
                  have HBX := Lib.hid hHeld.2.2.out.2
                  refine wpAnyH_done (by kernel_rfl) ?_ _
                  clear hHeld
                  go_wp2
                  exact ⟨⟨L ++ [(p1, nv)], mv2, jv2, trivial, HON, HDN, HBX⟩, by rw [HDN.out.c2, HC2.out]; simp [intOf]; omega⟩
              · have HNS : Hid (∀ m, ¬ StepTo L rest m) := Lib.hid (fun m hm => by
                  have e := HONE.out m hm
                  subst e
                  exact hE hm.1)
                have hdn : doneM L (p1, nv) = L := by unfold doneM; rw [if_neg hE]
                obtain ⟨E, hEE⟩ : ∃ E, E = doErr L (p1, nv) := ⟨_, rfl⟩
                have HDO : Hid (∀ w', OpW w' → Below w.heap.size w w' → DepAt (w.heap.size + 1) w.heap.size mv (.slice ja (journalM L).length jc) L w' → Calls Tryz.prog 5 #[.pointer (some ⟨w.heap.size, 0, none⟩), .agg #[strV p1, .int .i64 nv]] w' fun e w'' => e = .returned (.iface 37 (.int .i64 E)) ∧ (∃ mv2 jv2, DepAt (w.heap.size + 1) w.heap.size mv2 jv2 L w'') ∧ Below w.heap.size w' w'' ∧ ∀ j v, w'.cell? ⟨B2, j, none⟩ = some v → w''.cell? ⟨B2, j, none⟩ = some v) := Lib.hid (fun w' h1 h2 h3 => by
                  refine (depDo_any (lo := w.heap.size) (p1, nv) hLn (by simp only; omega) n0 n1 (fun w'' h => HW.out.pow.at (h2.trans h)) (Nat.le_refl _) (by have := lt_of_cell h3.c0; simp only at this; omega) (by omega) h3).mono ?_
                  rintro e w'' ⟨he, mv2, jv2, hd2, hf⟩
                  rw [errV, if_neg hE, ← hEE] at he
                  rw [hdn] at hd2
                  exact ⟨he, ⟨mv2, jv2, hd2⟩, dep_low (Nat.le_refl _) (by omega) h2.size h3 hf, fun j v h => cell_frs h hf HOUT.out⟩)
                clear hdn hE hEE hls HONE
                have hseg : ((rest.take (k + 1)) != (rest.take (k + 1))) = false := by simp
                obtain ⟨seg, hsg⟩ : ∃ seg, seg = rest.take (k + 1) := ⟨_, rfl⟩
                rw [← hsg] at HLN HCV hseg
                clear hsg
                refine wp_region_held_drew (S := fun w' => w'.cell? ⟨B2, 0, none⟩ = some (strV p1) ∧ w'.cell? ⟨B2, 1, none⟩ = some (.int .i64 nv) ∧ Hid (OpW w' ∧ Below w.heap.size w w')) (by kernel_rfl) ⟨by simpa using x0, by simpa using x1, Lib.hid ⟨HOWW.out.at (below_drewN W 1 _), HBW.out.trans (below_drewN W 1 _)⟩⟩ (fun hHeld => ?_)
                have HDX := HDW
                refine take_yes (i := 0) (v := ?_) rfl (by kernel_rfl) (by kernel_rfl) (by kernel_rfl) (fun _ _ _ h => h) (by kernel_rfl) hHeld ?_ ?_
                rotate_left
                · intro w hSw; go_split_ands; go_simp; try with_reducible rfl
                try simp only [Act.put, List.setIfInBounds_toArray, List.set_cons_zero, List.set_cons_succ]
                refine take_yes (i := 1) (v := ?_) rfl (by kernel_rfl) (by kernel_rfl) (by kernel_rfl) (fun _ _ _ h => h) (by kernel_rfl) hHeld ?_ ?_
                rotate_left
                · intro w hSw; go_split_ands; go_simp; try with_reducible rfl
                try simp only [Act.put, List.setIfInBounds_toArray, List.set_cons_zero, List.set_cons_succ]
                refine take_yes (i := 2) (v := ?_) rfl (by kernel_rfl) (by kernel_rfl) (by kernel_rfl) (fun _ _ _ h => h) (by kernel_rfl) hHeld ?_ ?_
                rotate_left
                · intro w hSw; go_split_ands; go_simp; try with_reducible rfl
                try simp only [Act.put, List.setIfInBounds_toArray, List.set_cons_zero, List.set_cons_succ]
                refine take_yes (i := 3) (v := ?_) rfl (by kernel_rfl) (by kernel_rfl) (by kernel_rfl) (fun _ _ _ h => h) (by kernel_rfl) hHeld ?_ ?_
                rotate_left
                · intro w hSw; go_split_ands; go_simp; try with_reducible rfl
                try simp only [Act.put, List.setIfInBounds_toArray, List.set_cons_zero, List.set_cons_succ]
                refine take_yes (i := 4) (v := ?_) rfl (by kernel_rfl) (by kernel_rfl) (by kernel_rfl) (fun _ _ _ h => h) (by kernel_rfl) hHeld ?_ ?_
                rotate_left
                · intro w hSw; go_split_ands; go_simp; try with_reducible rfl
                try simp only [Act.put, List.setIfInBounds_toArray, List.set_cons_zero, List.set_cons_succ]
                refine take_yes (i := 5) (v := ?_) rfl (by kernel_rfl) (by kernel_rfl) (by kernel_rfl) (fun _ _ _ h => h) (by kernel_rfl) hHeld ?_ ?_
                rotate_left
                · intro w hSw; go_split_ands; go_simp; try with_reducible rfl
                try simp only [Act.put, List.setIfInBounds_toArray, List.set_cons_zero, List.set_cons_succ]
                refine take_yes (i := 7) (v := ?_) rfl (by kernel_rfl) (by kernel_rfl) (by kernel_rfl) (fun _ _ _ h => h) (by kernel_rfl) hHeld ?_ ?_
                rotate_left
                · intro w hSw; go_split_ands; go_simp; try with_reducible rfl
                try simp only [Act.put, List.setIfInBounds_toArray, List.set_cons_zero, List.set_cons_succ]
                refine take_yes (i := 9) (v := ?_) rfl (by kernel_rfl) (by kernel_rfl) (by kernel_rfl) (fun _ _ _ h => h) (by kernel_rfl) hHeld ?_ ?_
                rotate_left
                · intro w hSw; go_split_ands; go_simp; try with_reducible rfl
                try simp only [Act.put, List.setIfInBounds_toArray, List.set_cons_zero, List.set_cons_succ]
                refine take_yes (i := 10) (v := ?_) rfl (by kernel_rfl) (by kernel_rfl) (by kernel_rfl) (fun _ _ _ h => h) (by kernel_rfl) hHeld ?_ ?_
                rotate_left
                · intro w hSw; go_split_ands; go_simp; try with_reducible rfl
                try simp only [Act.put, List.setIfInBounds_toArray, List.set_cons_zero, List.set_cons_succ]
                refine take_yes (i := 11) (v := ?_) rfl (by kernel_rfl) (by kernel_rfl) (by kernel_rfl) (fun _ _ _ h => h) (by kernel_rfl) hHeld ?_ ?_
                rotate_left
                · intro w hSw; go_split_ands; go_simp; try with_reducible rfl
                try simp only [Act.put, List.setIfInBounds_toArray, List.set_cons_zero, List.set_cons_succ]
                refine take_yes (i := 12) (v := ?_) rfl (by kernel_rfl) (by kernel_rfl) (by kernel_rfl) (fun _ _ _ h => h) (by kernel_rfl) hHeld ?_ ?_
                rotate_left
                · intro w hSw; go_split_ands; go_simp; try with_reducible rfl
                try simp only [Act.put, List.setIfInBounds_toArray, List.set_cons_zero, List.set_cons_succ]
                refine take_both (i := 6) (j := 13) rfl rfl (by kernel_rfl) (fun K hK => ?_) (fun K hK => ?_)
                · skip
                  have c2 := HDX.out.c2
                  go_simp
                  refine hK.out _ _ hHeld (fun hHeld2 => ?_)
                  replace hHeld := hHeld2
                  clear hK K hHeld2 c2
                  try simp only [Act.put, List.setIfInBounds_toArray, List.set_cons_zero, List.set_cons_succ]
                  refine take_both (i := 8) (j := 13) rfl rfl (by kernel_rfl) (fun K hK => ?_) (fun K hK => ?_)
                  · skip
                    go_simp
                    go_wp2_with (go_at_call 21; refine (HLN.out _ hHeld.2.2.out.1).mono ?_; rintro e wN ⟨rfl, hbN⟩)
                    replace HDX := Lib.hid (HDX.out.at ((below_drewN W 1 _).trans hbN))
                    refine hK.out _ _ ⟨(hbN.cell (lt_of_cell hHeld.1)).trans hHeld.1, (hbN.cell (lt_of_cell hHeld.2.1)).trans hHeld.2.1, Lib.hid ⟨hHeld.2.2.out.1.at hbN, hHeld.2.2.out.2.trans (hbN.mono hHeld.2.2.out.2.size)⟩⟩ (fun hHeld2 => ?_)
                    replace hHeld := hHeld2
                    clear hK K hHeld2 hbN
                    try simp only [Act.put, List.setIfInBounds_toArray, List.set_cons_zero, List.set_cons_succ]
                    refine take_loud (i := 13) rfl (by kernel_rfl) (fun K hK => ?_)
                    have hcv := HCV.out _ hHeld.2.2.out.2
                    go_simp
                    refine hK.out _ _ hHeld (fun hHeld2 => ?_)
                    replace hHeld := hHeld2
                    clear hK K hHeld2 hcv
                    try simp only [Act.put, List.setIfInBounds_toArray, List.set_cons_zero, List.set_cons_succ]
                    refine take_yes (i := 14) (v := ?_) rfl (by kernel_rfl) (by kernel_rfl) (by kernel_rfl) (fun _ _ _ h => h) (by kernel_rfl) hHeld ?_ ?_
                    rotate_left
                    · intro w hSw; go_split_ands; go_simp; try with_reducible rfl
                    try simp only [Act.put, List.setIfInBounds_toArray, List.set_cons_zero, List.set_cons_succ]
                    refine take_yes (i := 15) (v := ?_) rfl (by kernel_rfl) (by kernel_rfl) (by kernel_rfl) (fun _ _ _ h => h) (by kernel_rfl) hHeld ?_ ?_
                    rotate_left
                    · intro w hSw; go_split_ands; go_simp; try with_reducible rfl
                    try simp only [Act.put, List.setIfInBounds_toArray, List.set_cons_zero, List.set_cons_succ]
                    refine take_yes (i := 16) (v := ?_) rfl (by kernel_rfl) (by kernel_rfl) (by kernel_rfl) (fun _ _ _ h => h) (by kernel_rfl) hHeld ?_ ?_
                    rotate_left
                    · intro w hSw; go_split_ands; go_simp; try with_reducible rfl
                    try simp only [Act.put, List.setIfInBounds_toArray, List.set_cons_zero, List.set_cons_succ]
                    refine take_yes (i := 17) (v := ?_) rfl (by kernel_rfl) (by kernel_rfl) (by kernel_rfl) (fun _ _ _ h => h) (by kernel_rfl) hHeld ?_ ?_
                    rotate_left
                    · intro w hSw; go_split_ands; go_simp; try with_reducible rfl
                    try simp only [Act.put, List.setIfInBounds_toArray, List.set_cons_zero, List.set_cons_succ]
                    refine take_yes (i := 18) (v := ?_) rfl (by kernel_rfl) (by kernel_rfl) (by kernel_rfl) (fun _ _ _ h => h) (by kernel_rfl) hHeld ?_ ?_
                    rotate_left
                    · intro w hSw; go_split_ands; go_simp; try with_reducible rfl
                    try simp only [Act.put, List.setIfInBounds_toArray, List.set_cons_zero, List.set_cons_succ]
                    refine take_loud (i := 19) rfl (by kernel_rfl) (fun K hK => ?_)
                    go_simp
                    go_wp2_with (go_at_call 5; refine (HDO.out _ hHeld.2.2.out.1 hHeld.2.2.out.2 HDX.out).mono ?_; rintro e wN ⟨rfl, ⟨mv2, jv2, hD2⟩, hbN, hcN⟩)
                    have HDN := Lib.hid hD2
                    refine hK.out _ _ ⟨hcN _ _ hHeld.1, hcN _ _ hHeld.2.1, Lib.hid ⟨HW.out.at (hHeld.2.2.out.2.trans hbN), hHeld.2.2.out.2.trans hbN⟩⟩ (fun hHeld2 => ?_)
                    replace hHeld := hHeld2
                    clear hK K hHeld2 hbN hcN hD2 HDX
                    try simp only [Act.put, List.setIfInBounds_toArray, List.set_cons_zero, List.set_cons_succ]
                    refine take_yes (i := 20) (v := ?_) rfl (by kernel_rfl) (by kernel_rfl) (by kernel_rfl) (fun _ _ _ h => h) (by kernel_rfl) hHeld ?_ ?_
                    rotate_left
                    · intro w hSw; go_split_ands; go_simp; try with_reducible rfl
                    try simp only [Act.put, List.setIfInBounds_toArray, List.set_cons_zero, List.set_cons_succ]
                    refine take_yes (i := 21) (v := ?_) rfl (by kernel_rfl) (by kernel_rfl) (by kernel_rfl) (fun _ _ _ h => h) (by kernel_rfl) hHeld ?_ ?_
                    rotate_left
                    · intro w hSw; go_split_ands; go_simp; try with_reducible rfl
                    try simp only [Act.put, List.setIfInBounds_toArray, List.set_cons_zero, List.set_cons_succ]
                    obtain ⟨ja2, jc2, rfl⟩ := rowForm HDN.out.jour
                    have HDX := HDN
                    have HBX := Lib.hid hHeld.2.2.out.2
                    refine wpAnyH_done (by kernel_rfl) ?_ _
                    clear hHeld
                    have HNO := Lib.hid (HFIN.out (HNS.out))
                    have c1 := HDX.out.c1
                    rw [← HJ.out] at c1
                    go_wp2
                    go_quiet (fail)
                    go_wp2
                    go_ret2
                    exact HNO.out _ _ _ (HDX.out.at (below_drewN _ _ _)) (HBX.out.trans (below_drewN _ _ _))
                  · skip
                    have hcv := HCV.out _ hHeld.2.2.out.2
                    go_simp
                    refine hK.out _ _ hHeld (fun hHeld2 => ?_)
                    replace hHeld := hHeld2
                    clear hK K hHeld2 hcv
                    try simp only [Act.put, List.setIfInBounds_toArray, List.set_cons_zero, List.set_cons_succ]
                    refine take_loud (i := 8) rfl (by kernel_rfl) (fun K hK => ?_)
                    go_simp
                    go_wp2_with (go_at_call 21; refine (HLN.out _ hHeld.2.2.out.1).mono ?_; rintro e wN ⟨rfl, hbN⟩)
                    replace HDX := Lib.hid (HDX.out.at ((below_drewN W 1 _).trans hbN))
                    refine hK.out _ _ ⟨(hbN.cell (lt_of_cell hHeld.1)).trans hHeld.1, (hbN.cell (lt_of_cell hHeld.2.1)).trans hHeld.2.1, Lib.hid ⟨hHeld.2.2.out.1.at hbN, hHeld.2.2.out.2.trans (hbN.mono hHeld.2.2.out.2.size)⟩⟩ (fun hHeld2 => ?_)
                    replace hHeld := hHeld2
                    clear hK K hHeld2 hbN
                    try simp only [Act.put, List.setIfInBounds_toArray, List.set_cons_zero, List.set_cons_succ]
                    refine take_yes (i := 14) (v := ?_) rfl (by kernel_rfl) (by kernel_rfl) (by kernel_rfl) (fun _ _ _ h => h) (by kernel_rfl) hHeld ?_ ?_
                    rotate_left
                    · intro w hSw; go_split_ands; go_simp; try with_reducible rfl
                    try simp only [Act.put, List.setIfInBounds_toArray, List.set_cons_zero, List.set_cons_succ]
                    refine take_yes (i := 15) (v := ?_) rfl (by kernel_rfl) (by kernel_rfl) (by kernel_rfl) (fun _ _ _ h => h) (by kernel_rfl) hHeld ?_ ?_
                    rotate_left
                    · intro w hSw; go_split_ands; go_simp; try with_reducible rfl
                    try simp only [Act.put, List.setIfInBounds_toArray, List.set_cons_zero, List.set_cons_succ]
                    refine take_yes (i := 16) (v := ?_) rfl (by kernel_rfl) (by kernel_rfl) (by kernel_rfl) (fun _ _ _ h => h) (by kernel_rfl) hHeld ?_ ?_
                    rotate_left
                    · intro w hSw; go_split_ands; go_simp; try with_reducible rfl
                    try simp only [Act.put, List.setIfInBounds_toArray, List.set_cons_zero, List.set_cons_succ]
                    refine take_yes (i := 17) (v := ?_) rfl (by kernel_rfl) (by kernel_rfl) (by kernel_rfl) (fun _ _ _ h => h) (by kernel_rfl) hHeld ?_ ?_
                    rotate_left
                    · intro w hSw; go_split_ands; go_simp; try with_reducible rfl
                    try simp only [Act.put, List.setIfInBounds_toArray, List.set_cons_zero, List.set_cons_succ]
                    refine take_yes (i := 18) (v := ?_) rfl (by kernel_rfl) (by kernel_rfl) (by kernel_rfl) (fun _ _ _ h => h) (by kernel_rfl) hHeld ?_ ?_
                    rotate_left
                    · intro w hSw; go_split_ands; go_simp; try with_reducible rfl
                    try simp only [Act.put, List.setIfInBounds_toArray, List.set_cons_zero, List.set_cons_succ]
                    refine take_loud (i := 19) rfl (by kernel_rfl) (fun K hK => ?_)
                    go_simp
                    go_wp2_with (go_at_call 5; refine (HDO.out _ hHeld.2.2.out.1 hHeld.2.2.out.2 HDX.out).mono ?_; rintro e wN ⟨rfl, ⟨mv2, jv2, hD2⟩, hbN, hcN⟩)
                    have HDN := Lib.hid hD2
                    refine hK.out _ _ ⟨hcN _ _ hHeld.1, hcN _ _ hHeld.2.1, Lib.hid ⟨HW.out.at (hHeld.2.2.out.2.trans hbN), hHeld.2.2.out.2.trans hbN⟩⟩ (fun hHeld2 => ?_)
                    replace hHeld := hHeld2
                    clear hK K hHeld2 hbN hcN hD2 HDX
                    try simp only [Act.put, List.setIfInBounds_toArray, List.set_cons_zero, List.set_cons_succ]
                    refine take_yes (i := 20) (v := ?_) rfl (by kernel_rfl) (by kernel_rfl) (by kernel_rfl) (fun _ _ _ h => h) (by kernel_rfl) hHeld ?_ ?_
                    rotate_left
                    · intro w hSw; go_split_ands; go_simp; try with_reducible rfl
                    try simp only [Act.put, List.setIfInBounds_toArray, List.set_cons_zero, List.set_cons_succ]
                    refine take_yes (i := 21) (v := ?_) rfl (by kernel_rfl) (by kernel_rfl) (by kernel_rfl) (fun _ _ _ h => h) (by kernel_rfl) hHeld ?_ ?_
                    rotate_left
                    · intro w hSw; go_split_ands; go_simp; try with_reducible rfl
                    try simp only [Act.put, List.setIfInBounds_toArray, List.set_cons_zero, List.set_cons_succ]
                    obtain ⟨ja2, jc2, rfl⟩ := rowForm HDN.out.jour
                    have HDX := HDN
                    have HBX := Lib.hid hHeld.2.2.out.2
                    refine wpAnyH_done (by kernel_rfl) ?_ _
                    clear hHeld
                    have HNO := Lib.hid (HFIN.out (HNS.out))
                    have c1 := HDX.out.c1
                    rw [← HJ.out] at c1
                    go_wp2
                    go_quiet (fail)
                    go_wp2
                    go_ret2
                    exact HNO.out _ _ _ (HDX.out.at (below_drewN _ _ _)) (HBX.out.trans (below_drewN _ _ _))
                · skip
                  have hcv := HCV.out _ hHeld.2.2.out.2
                  go_simp
                  refine hK.out _ _ hHeld (fun hHeld2 => ?_)
                  replace hHeld := hHeld2
                  clear hK K hHeld2 hcv
                  try simp only [Act.put, List.setIfInBounds_toArray, List.set_cons_zero, List.set_cons_succ]
                  refine take_loud (i := 6) rfl (by kernel_rfl) (fun K hK => ?_)
                  have c2 := HDX.out.c2
                  go_simp
                  refine hK.out _ _ hHeld (fun hHeld2 => ?_)
                  replace hHeld := hHeld2
                  clear hK K hHeld2 c2
                  try simp only [Act.put, List.setIfInBounds_toArray, List.set_cons_zero, List.set_cons_succ]
                  refine take_loud (i := 8) rfl (by kernel_rfl) (fun K hK => ?_)
                  go_simp
                  go_wp2_with (go_at_call 21; refine (HLN.out _ hHeld.2.2.out.1).mono ?_; rintro e wN ⟨rfl, hbN⟩)
                  replace HDX := Lib.hid (HDX.out.at ((below_drewN W 1 _).trans hbN))
                  refine hK.out _ _ ⟨(hbN.cell (lt_of_cell hHeld.1)).trans hHeld.1, (hbN.cell (lt_of_cell hHeld.2.1)).trans hHeld.2.1, Lib.hid ⟨hHeld.2.2.out.1.at hbN, hHeld.2.2.out.2.trans (hbN.mono hHeld.2.2.out.2.size)⟩⟩ (fun hHeld2 => ?_)
                  replace hHeld := hHeld2
                  clear hK K hHeld2 hbN
                  try simp only [Act.put, List.setIfInBounds_toArray, List.set_cons_zero, List.set_cons_succ]
                  refine take_yes (i := 14) (v := ?_) rfl (by kernel_rfl) (by kernel_rfl) (by kernel_rfl) (fun _ _ _ h => h) (by kernel_rfl) hHeld ?_ ?_
                  rotate_left
                  · intro w hSw; go_split_ands; go_simp; try with_reducible rfl
                  try simp only [Act.put, List.setIfInBounds_toArray, List.set_cons_zero, List.set_cons_succ]
                  refine take_yes (i := 15) (v := ?_) rfl (by kernel_rfl) (by kernel_rfl) (by kernel_rfl) (fun _ _ _ h => h) (by kernel_rfl) hHeld ?_ ?_
                  rotate_left
                  · intro w hSw; go_split_ands; go_simp; try with_reducible rfl
                  try simp only [Act.put, List.setIfInBounds_toArray, List.set_cons_zero, List.set_cons_succ]
                  refine take_yes (i := 16) (v := ?_) rfl (by kernel_rfl) (by kernel_rfl) (by kernel_rfl) (fun _ _ _ h => h) (by kernel_rfl) hHeld ?_ ?_
                  rotate_left
                  · intro w hSw; go_split_ands; go_simp; try with_reducible rfl
                  try simp only [Act.put, List.setIfInBounds_toArray, List.set_cons_zero, List.set_cons_succ]
                  refine take_yes (i := 17) (v := ?_) rfl (by kernel_rfl) (by kernel_rfl) (by kernel_rfl) (fun _ _ _ h => h) (by kernel_rfl) hHeld ?_ ?_
                  rotate_left
                  · intro w hSw; go_split_ands; go_simp; try with_reducible rfl
                  try simp only [Act.put, List.setIfInBounds_toArray, List.set_cons_zero, List.set_cons_succ]
                  refine take_yes (i := 18) (v := ?_) rfl (by kernel_rfl) (by kernel_rfl) (by kernel_rfl) (fun _ _ _ h => h) (by kernel_rfl) hHeld ?_ ?_
                  rotate_left
                  · intro w hSw; go_split_ands; go_simp; try with_reducible rfl
                  try simp only [Act.put, List.setIfInBounds_toArray, List.set_cons_zero, List.set_cons_succ]
                  refine take_loud (i := 19) rfl (by kernel_rfl) (fun K hK => ?_)
                  go_simp
                  go_wp2_with (go_at_call 5; refine (HDO.out _ hHeld.2.2.out.1 hHeld.2.2.out.2 HDX.out).mono ?_; rintro e wN ⟨rfl, ⟨mv2, jv2, hD2⟩, hbN, hcN⟩)
                  have HDN := Lib.hid hD2
                  refine hK.out _ _ ⟨hcN _ _ hHeld.1, hcN _ _ hHeld.2.1, Lib.hid ⟨HW.out.at (hHeld.2.2.out.2.trans hbN), hHeld.2.2.out.2.trans hbN⟩⟩ (fun hHeld2 => ?_)
                  replace hHeld := hHeld2
                  clear hK K hHeld2 hbN hcN hD2 HDX
                  try simp only [Act.put, List.setIfInBounds_toArray, List.set_cons_zero, List.set_cons_succ]
                  refine take_yes (i := 20) (v := ?_) rfl (by kernel_rfl) (by kernel_rfl) (by kernel_rfl) (fun _ _ _ h => h) (by kernel_rfl) hHeld ?_ ?_
                  rotate_left
                  · intro w hSw; go_split_ands; go_simp; try with_reducible rfl
                  try simp only [Act.put, List.setIfInBounds_toArray, List.set_cons_zero, List.set_cons_succ]
                  refine take_yes (i := 21) (v := ?_) rfl (by kernel_rfl) (by kernel_rfl) (by kernel_rfl) (fun _ _ _ h => h) (by kernel_rfl) hHeld ?_ ?_
                  rotate_left
                  · intro w hSw; go_split_ands; go_simp; try with_reducible rfl
                  try simp only [Act.put, List.setIfInBounds_toArray, List.set_cons_zero, List.set_cons_succ]
                  obtain ⟨ja2, jc2, rfl⟩ := rowForm HDN.out.jour
                  have HDX := HDN
                  have HBX := Lib.hid hHeld.2.2.out.2
                  refine wpAnyH_done (by kernel_rfl) ?_ _
                  clear hHeld
                  have HNO := Lib.hid (HFIN.out (HNS.out))
                  have c1 := HDX.out.c1
                  rw [← HJ.out] at c1
                  go_wp2
                  go_quiet (fail)
                  go_wp2
                  go_ret2
                  exact HNO.out _ _ _ (HDX.out.at (below_drewN _ _ _)) (HBX.out.trans (below_drewN _ _ _))
            · have HNS : Hid (∀ m, ¬ StepTo L rest m) := Lib.hid (fun m hm => by
                have e := HONE.out m hm
                subst e
                exact hls (step_data hm HK.out).2.2.2)
              have hseg : (lineM L.length (p1, nv) == rest.take (k + 1)) = false := beq_eq_false_iff_ne.2 hls
              obtain ⟨seg, hsg⟩ : ∃ seg, seg = rest.take (k + 1) := ⟨_, rfl⟩
              rw [← hsg] at HCV hseg
              clear hls hsg HONE
              generalize lineM L.length (p1, nv) = ln at *
              refine wp_region_held_drew (S := fun w' => w'.cell? ⟨B2, 0, none⟩ = some (strV p1) ∧ w'.cell? ⟨B2, 1, none⟩ = some (.int .i64 nv) ∧ Hid (OpW w' ∧ Below w.heap.size w w')) (by kernel_rfl) ⟨by simpa using x0, by simpa using x1, Lib.hid ⟨HOWW.out.at (below_drewN W 1 _), HBW.out.trans (below_drewN W 1 _)⟩⟩ (fun hHeld => ?_)
              have HDX := HDW
              refine take_yes (i := 0) (v := ?_) rfl (by kernel_rfl) (by kernel_rfl) (by kernel_rfl) (fun _ _ _ h => h) (by kernel_rfl) hHeld ?_ ?_
              rotate_left
              · intro w hSw; go_split_ands; go_simp; try with_reducible rfl
              try simp only [Act.put, List.setIfInBounds_toArray, List.set_cons_zero, List.set_cons_succ]
              refine take_yes (i := 1) (v := ?_) rfl (by kernel_rfl) (by kernel_rfl) (by kernel_rfl) (fun _ _ _ h => h) (by kernel_rfl) hHeld ?_ ?_
              rotate_left
              · intro w hSw; go_split_ands; go_simp; try with_reducible rfl
              try simp only [Act.put, List.setIfInBounds_toArray, List.set_cons_zero, List.set_cons_succ]
              refine take_yes (i := 2) (v := ?_) rfl (by kernel_rfl) (by kernel_rfl) (by kernel_rfl) (fun _ _ _ h => h) (by kernel_rfl) hHeld ?_ ?_
              rotate_left
              · intro w hSw; go_split_ands; go_simp; try with_reducible rfl
              try simp only [Act.put, List.setIfInBounds_toArray, List.set_cons_zero, List.set_cons_succ]
              refine take_yes (i := 3) (v := ?_) rfl (by kernel_rfl) (by kernel_rfl) (by kernel_rfl) (fun _ _ _ h => h) (by kernel_rfl) hHeld ?_ ?_
              rotate_left
              · intro w hSw; go_split_ands; go_simp; try with_reducible rfl
              try simp only [Act.put, List.setIfInBounds_toArray, List.set_cons_zero, List.set_cons_succ]
              refine take_yes (i := 4) (v := ?_) rfl (by kernel_rfl) (by kernel_rfl) (by kernel_rfl) (fun _ _ _ h => h) (by kernel_rfl) hHeld ?_ ?_
              rotate_left
              · intro w hSw; go_split_ands; go_simp; try with_reducible rfl
              try simp only [Act.put, List.setIfInBounds_toArray, List.set_cons_zero, List.set_cons_succ]
              refine take_yes (i := 5) (v := ?_) rfl (by kernel_rfl) (by kernel_rfl) (by kernel_rfl) (fun _ _ _ h => h) (by kernel_rfl) hHeld ?_ ?_
              rotate_left
              · intro w hSw; go_split_ands; go_simp; try with_reducible rfl
              try simp only [Act.put, List.setIfInBounds_toArray, List.set_cons_zero, List.set_cons_succ]
              refine take_yes (i := 7) (v := ?_) rfl (by kernel_rfl) (by kernel_rfl) (by kernel_rfl) (fun _ _ _ h => h) (by kernel_rfl) hHeld ?_ ?_
              rotate_left
              · intro w hSw; go_split_ands; go_simp; try with_reducible rfl
              try simp only [Act.put, List.setIfInBounds_toArray, List.set_cons_zero, List.set_cons_succ]
              refine take_yes (i := 9) (v := ?_) rfl (by kernel_rfl) (by kernel_rfl) (by kernel_rfl) (fun _ _ _ h => h) (by kernel_rfl) hHeld ?_ ?_
              rotate_left
              · intro w hSw; go_split_ands; go_simp; try with_reducible rfl
              try simp only [Act.put, List.setIfInBounds_toArray, List.set_cons_zero, List.set_cons_succ]
              refine take_yes (i := 10) (v := ?_) rfl (by kernel_rfl) (by kernel_rfl) (by kernel_rfl) (fun _ _ _ h => h) (by kernel_rfl) hHeld ?_ ?_
              rotate_left
              · intro w hSw; go_split_ands; go_simp; try with_reducible rfl
              try simp only [Act.put, List.setIfInBounds_toArray, List.set_cons_zero, List.set_cons_succ]
              refine take_yes (i := 11) (v := ?_) rfl (by kernel_rfl) (by kernel_rfl) (by kernel_rfl) (fun _ _ _ h => h) (by kernel_rfl) hHeld ?_ ?_
              rotate_left
              · intro w hSw; go_split_ands; go_simp; try with_reducible rfl
              try simp only [Act.put, List.setIfInBounds_toArray, List.set_cons_zero, List.set_cons_succ]
              refine take_yes (i := 12) (v := ?_) rfl (by kernel_rfl) (by kernel_rfl) (by kernel_rfl) (fun _ _ _ h => h) (by kernel_rfl) hHeld ?_ ?_
              rotate_left
              · intro w hSw; go_split_ands; go_simp; try with_reducible rfl
              try simp only [Act.put, List.setIfInBounds_toArray, List.set_cons_zero, List.set_cons_succ]
              refine take_both (i := 6) (j := 13) rfl rfl (by kernel_rfl) (fun K hK => ?_) (fun K hK => ?_)
              · skip
                have c2 := HDX.out.c2
                go_simp
                refine hK.out _ _ hHeld (fun hHeld2 => ?_)
                replace hHeld := hHeld2
                clear hK K hHeld2 c2
                try simp only [Act.put, List.setIfInBounds_toArray, List.set_cons_zero, List.set_cons_succ]
                refine take_both (i := 8) (j := 13) rfl rfl (by kernel_rfl) (fun K hK => ?_) (fun K hK => ?_)
                · skip
                  go_simp
                  go_wp2_with (go_at_call 21; refine (HLN.out _ hHeld.2.2.out.1).mono ?_; rintro e wN ⟨rfl, hbN⟩)
                  replace HDX := Lib.hid (HDX.out.at ((below_drewN W 1 _).trans hbN))
                  refine hK.out _ _ ⟨(hbN.cell (lt_of_cell hHeld.1)).trans hHeld.1, (hbN.cell (lt_of_cell hHeld.2.1)).trans hHeld.2.1, Lib.hid ⟨hHeld.2.2.out.1.at hbN, hHeld.2.2.out.2.trans (hbN.mono hHeld.2.2.out.2.size)⟩⟩ (fun hHeld2 => ?_)
                  replace hHeld := hHeld2
                  clear hK K hHeld2 hbN
                  try simp only [Act.put, List.setIfInBounds_toArray, List.set_cons_zero, List.set_cons_succ]
                  refine take_loud (i := 13) rfl (by kernel_rfl) (fun K hK => ?_)
                  have hcv := HCV.out _ hHeld.2.2.out.2
                  go_simp
                  refine hK.out _ _ hHeld (fun hHeld2 => ?_)
                  replace hHeld := hHeld2
                  clear hK K hHeld2 hcv
                  try simp only [Act.put, List.setIfInBounds_toArray, List.set_cons_zero, List.set_cons_succ]
                  refine take_yes (i := 14) (v := ?_) rfl (by kernel_rfl) (by kernel_rfl) (by kernel_rfl) (fun _ _ _ h => h) (by kernel_rfl) hHeld ?_ ?_
                  rotate_left
                  · intro w hSw; go_split_ands; go_simp; try with_reducible rfl
                  try simp only [Act.put, List.setIfInBounds_toArray, List.set_cons_zero, List.set_cons_succ]
                  refine take_yes (i := 15) (v := ?_) rfl (by kernel_rfl) (by kernel_rfl) (by kernel_rfl) (fun _ _ _ h => h) (by kernel_rfl) hHeld ?_ ?_
                  rotate_left
                  · intro w hSw; go_split_ands; go_simp; try with_reducible rfl
                  try simp only [Act.put, List.setIfInBounds_toArray, List.set_cons_zero, List.set_cons_succ]
                  refine take_yes (i := 16) (v := ?_) rfl (by kernel_rfl) (by kernel_rfl) (by kernel_rfl) (fun _ _ _ h => h) (by kernel_rfl) hHeld ?_ ?_
                  rotate_left
                  · intro w hSw; go_split_ands; go_simp; try with_reducible rfl
                  try simp only [Act.put, List.setIfInBounds_toArray, List.set_cons_zero, List.set_cons_succ]
                  refine take_no (i := 17) rfl (by kernel_rfl) (by kernel_rfl) (by kernel_rfl) (fun _ _ _ h => h) (by kernel_rfl) hHeld ?_
                  try simp only [Act.put, List.setIfInBounds_toArray, List.set_cons_zero, List.set_cons_succ]
                  refine take_no (i := 18) rfl (by kernel_rfl) (by kernel_rfl) (by kernel_rfl) (fun _ _ _ h => h) (by kernel_rfl) hHeld ?_
                  try simp only [Act.put, List.setIfInBounds_toArray, List.set_cons_zero, List.set_cons_succ]
                  refine take_no (i := 19) rfl (by kernel_rfl) (by kernel_rfl) (by kernel_rfl) (fun _ _ _ h => h) (by kernel_rfl) hHeld ?_
                  try simp only [Act.put, List.setIfInBounds_toArray, List.set_cons_zero, List.set_cons_succ]
                  refine take_no (i := 20) rfl (by kernel_rfl) (by kernel_rfl) (by kernel_rfl) (fun _ _ _ h => h) (by kernel_rfl) hHeld ?_
                  try simp only [Act.put, List.setIfInBounds_toArray, List.set_cons_zero, List.set_cons_succ]
                  refine take_yes (i := 21) (v := ?_) rfl (by kernel_rfl) (by kernel_rfl) (by kernel_rfl) (fun _ _ _ h => h) (by kernel_rfl) hHeld ?_ ?_
                  rotate_left
                  · intro w hSw; go_split_ands; go_simp; try with_reducible rfl
                  try simp only [Act.put, List.setIfInBounds_toArray, List.set_cons_zero, List.set_cons_succ]
                  have HBX := Lib.hid hHeld.2.2.out.2
                  refine wpAnyH_done (by kernel_rfl) ?_ _
                  clear hHeld
                  have HNO := Lib.hid (HFIN.out (HNS.out))
                  have c1 := HDX.out.c1
                  rw [← HJ.out] at c1
                  go_wp2
                  go_quiet (fail)
                  go_wp2
                  go_ret2
                  exact HNO.out _ _ _ (HDX.out.at (below_drewN _ _ _)) (HBX.out.trans (below_drewN _ _ _))
                · skip
                  have hcv := HCV.out _ hHeld.2.2.out.2
                  go_simp
                  refine hK.out _ _ hHeld (fun hHeld2 => ?_)
                  replace hHeld := hHeld2
                  clear hK K hHeld2 hcv
                  try simp only [Act.put, List.setIfInBounds_toArray, List.set_cons_zero, List.set_cons_succ]
                  refine take_loud (i := 8) rfl (by kernel_rfl) (fun K hK => ?_)
                  go_simp
                  go_wp2_with (go_at_call 21; refine (HLN.out _ hHeld.2.2.out.1).mono ?_; rintro e wN ⟨rfl, hbN⟩)
                  replace HDX := Lib.hid (HDX.out.at ((below_drewN W 1 _).trans hbN))
                  refine hK.out _ _ ⟨(hbN.cell (lt_of_cell hHeld.1)).trans hHeld.1, (hbN.cell (lt_of_cell hHeld.2.1)).trans hHeld.2.1, Lib.hid ⟨hHeld.2.2.out.1.at hbN, hHeld.2.2.out.2.trans (hbN.mono hHeld.2.2.out.2.size)⟩⟩ (fun hHeld2 => ?_)
                  replace hHeld := hHeld2
                  clear hK K hHeld2 hbN
                  try simp only [Act.put, List.setIfInBounds_toArray, List.set_cons_zero, List.set_cons_succ]
                  refine take_yes (i := 14) (v := ?_) rfl (by kernel_rfl) (by kernel_rfl) (by kernel_rfl) (fun _ _ _ h => h) (by kernel_rfl) hHeld ?_ ?_
                  rotate_left
                  · intro w hSw; go_split_ands; go_simp; try with_reducible rfl
                  try simp only [Act.put, List.setIfInBounds_toArray, List.set_cons_zero, List.set_cons_succ]
                  refine take_yes (i := 15) (v := ?_) rfl (by kernel_rfl) (by kernel_rfl) (by kernel_rfl) (fun _ _ _ h => h) (by kernel_rfl) hHeld ?_ ?_
                  rotate_left
                  · intro w hSw; go_split_ands; go_simp; try with_reducible rfl
                  try simp only [Act.put, List.setIfInBounds_toArray, List.set_cons_zero, List.set_cons_succ]
                  refine take_yes (i := 16) (v := ?_) rfl (by kernel_rfl) (by kernel_rfl) (by kernel_rfl) (fun _ _ _ h => h) (by kernel_rfl) hHeld ?_ ?_
                  rotate_left
                  · intro w hSw; go_split_ands; go_simp; try with_reducible rfl
                  try simp only [Act.put, List.setIfInBounds_toArray, List.set_cons_zero, List.set_cons_succ]
                  refine take_no (i := 17) rfl (by kernel_rfl) (by kernel_rfl) (by kernel_rfl) (fun _ _ _ h => h) (by kernel_rfl) hHeld ?_
                  try simp only [Act.put, List.setIfInBounds_toArray, List.set_cons_zero, List.set_cons_succ]
                  refine take_no (i := 18) rfl (by kernel_rfl) (by kernel_rfl) (by kernel_rfl) (fun _ _ _ h => h) (by kernel_rfl) hHeld ?_
                  try simp only [Act.put, List.setIfInBounds_toArray, List.set_cons_zero, List.set_cons_succ]
                  refine take_no (i := 19) rfl (by kernel_rfl) (by kernel_rfl) (by kernel_rfl) (fun _ _ _ h => h) (by kernel_rfl) hHeld ?_
                  try simp only [Act.put, List.setIfInBounds_toArray, List.set_cons_zero, List.set_cons_succ]
                  refine take_no (i := 20) rfl (by kernel_rfl) (by kernel_rfl) (by kernel_rfl) (fun _ _ _ h => h) (by kernel_rfl) hHeld ?_
                  try simp only [Act.put, List.setIfInBounds_toArray, List.set_cons_zero, List.set_cons_succ]
                  refine take_yes (i := 21) (v := ?_) rfl (by kernel_rfl) (by kernel_rfl) (by kernel_rfl) (fun _ _ _ h => h) (by kernel_rfl) hHeld ?_ ?_
                  rotate_left
                  · intro w hSw; go_split_ands; go_simp; try with_reducible rfl
                  try simp only [Act.put, List.setIfInBounds_toArray, List.set_cons_zero, List.set_cons_succ]
                  have HBX := Lib.hid hHeld.2.2.out.2
                  refine wpAnyH_done (by kernel_rfl) ?_ _
                  clear hHeld
                  have HNO := Lib.hid (HFIN.out (HNS.out))
                  have c1 := HDX.out.c1
                  rw [← HJ.out] at c1
                  go_wp2
                  go_quiet (fail)
                  go_wp2
                  go_ret2
                  exact HNO.out _ _ _ (HDX.out.at (below_drewN _ _ _)) (HBX.out.trans (below_drewN _ _ _))
              · skip
                have hcv := HCV.out _ hHeld.2.2.out.2
                go_simp
                refine hK.out _ _ hHeld (fun hHeld2 => ?_)
                replace hHeld := hHeld2
                clear hK K hHeld2 hcv
                try simp only [Act.put, List.setIfInBounds_toArray, List.set_cons_zero, List.set_cons_succ]
                refine take_loud (i := 6) rfl (by kernel_rfl) (fun K hK => ?_)
                have c2 := HDX.out.c2
                go_simp
                refine hK.out _ _ hHeld (fun hHeld2 => ?_)
                replace hHeld := hHeld2
                clear hK K hHeld2 c2
                try simp only [Act.put, List.setIfInBounds_toArray, List.set_cons_zero, List.set_cons_succ]
                refine take_loud (i := 8) rfl (by kernel_rfl) (fun K hK => ?_)
                go_simp
                go_wp2_with (go_at_call 21; refine (HLN.out _ hHeld.2.2.out.1).mono ?_; rintro e wN ⟨rfl, hbN⟩)
                replace HDX := Lib.hid (HDX.out.at ((below_drewN W 1 _).trans hbN))
                refine hK.out _ _ ⟨(hbN.cell (lt_of_cell hHeld.1)).trans hHeld.1, (hbN.cell (lt_of_cell hHeld.2.1)).trans hHeld.2.1, Lib.hid ⟨hHeld.2.2.out.1.at hbN, hHeld.2.2.out.2.trans (hbN.mono hHeld.2.2.out.2.size)⟩⟩ (fun hHeld2 => ?_)
                replace hHeld := hHeld2
                clear hK K hHeld2 hbN
                try simp only [Act.put, List.setIfInBounds_toArray, List.set_cons_zero, List.set_cons_succ]
                refine take_yes (i := 14) (v := ?_) rfl (by kernel_rfl) (by kernel_rfl) (by kernel_rfl) (fun _ _ _ h => h) (by kernel_rfl) hHeld ?_ ?_
                rotate_left
                · intro w hSw; go_split_ands; go_simp; try with_reducible rfl
                try simp only [Act.put, List.setIfInBounds_toArray, List.set_cons_zero, List.set_cons_succ]
                refine take_yes (i := 15) (v := ?_) rfl (by kernel_rfl) (by kernel_rfl) (by kernel_rfl) (fun _ _ _ h => h) (by kernel_rfl) hHeld ?_ ?_
                rotate_left
                · intro w hSw; go_split_ands; go_simp; try with_reducible rfl
                try simp only [Act.put, List.setIfInBounds_toArray, List.set_cons_zero, List.set_cons_succ]
                refine take_yes (i := 16) (v := ?_) rfl (by kernel_rfl) (by kernel_rfl) (by kernel_rfl) (fun _ _ _ h => h) (by kernel_rfl) hHeld ?_ ?_
                rotate_left
                · intro w hSw; go_split_ands; go_simp; try with_reducible rfl
                try simp only [Act.put, List.setIfInBounds_toArray, List.set_cons_zero, List.set_cons_succ]
                refine take_no (i := 17) rfl (by kernel_rfl) (by kernel_rfl) (by kernel_rfl) (fun _ _ _ h => h) (by kernel_rfl) hHeld ?_
                try simp only [Act.put, List.setIfInBounds_toArray, List.set_cons_zero, List.set_cons_succ]
                refine take_no (i := 18) rfl (by kernel_rfl) (by kernel_rfl) (by kernel_rfl) (fun _ _ _ h => h) (by kernel_rfl) hHeld ?_
                try simp only [Act.put, List.setIfInBounds_toArray, List.set_cons_zero, List.set_cons_succ]
                refine take_no (i := 19) rfl (by kernel_rfl) (by kernel_rfl) (by kernel_rfl) (fun _ _ _ h => h) (by kernel_rfl) hHeld ?_
                try simp only [Act.put, List.setIfInBounds_toArray, List.set_cons_zero, List.set_cons_succ]
                refine take_no (i := 20) rfl (by kernel_rfl) (by kernel_rfl) (by kernel_rfl) (fun _ _ _ h => h) (by kernel_rfl) hHeld ?_
                try simp only [Act.put, List.setIfInBounds_toArray, List.set_cons_zero, List.set_cons_succ]
                refine take_yes (i := 21) (v := ?_) rfl (by kernel_rfl) (by kernel_rfl) (by kernel_rfl) (fun _ _ _ h => h) (by kernel_rfl) hHeld ?_ ?_
                rotate_left
                · intro w hSw; go_split_ands; go_simp; try with_reducible rfl
                try simp only [Act.put, List.setIfInBounds_toArray, List.set_cons_zero, List.set_cons_succ]
                have HBX := Lib.hid hHeld.2.2.out.2
                refine wpAnyH_done (by kernel_rfl) ?_ _
                clear hHeld
                have HNO := Lib.hid (HFIN.out (HNS.out))
                have c1 := HDX.out.c1
                rw [← HJ.out] at c1
                go_wp2
                go_quiet (fail)
                go_wp2
                go_ret2
                exact HNO.out _ _ _ (HDX.out.at (below_drewN _ _ _)) (HBX.out.trans (below_drewN _ _ _))
          · have HNS : Hid (∀ m, ¬ StepTo L rest m) := Lib.hid (fun m hm => by
              obtain ⟨_, _, k2, _⟩ := step_data hm HK.out
              obtain ⟨_, b0, b1, _⟩ := doErr_ok hm.1
              rw [HW2.out] at k2
              exact hna m.2 (by rw [Option.some.inj k2]; exact atoi_itoa m.2 (by omega) (by omega)))
            clear hna
            obtain ⟨B2, hB2⟩ : ∃ B2, B2 = w3.heap.size := ⟨_, rfl⟩
            obtain ⟨W, hW⟩ : ∃ W, W = w3.alloc (.cells #[strV p1, .int .i64 nv] 36) := ⟨_, rfl⟩
            have hbW : Below w3.heap.size w3 W := by rw [hW]; exact (Below.refl _ _).alloc (Nat.le_refl _) _
            have x0 : W.cell? ⟨B2, 0, none⟩ = some (strV p1) := by rw [hW, hB2]; simp
            have x1 : W.cell? ⟨B2, 1, none⟩ = some (.int .i64 nv) := by rw [hW, hB2]; simp
            have HDW := Lib.hid (HD3.out.at hbW)
            have HOWW := Lib.hid (HOW3.out.at hbW)
            have HBW := Lib.hid (HB3.out.trans (hbW.mono HB3.out.size))
            have HOUT := Lib.hid (dep_out HD3.out (B2 := B2) (by omega))
            clear hbW
            go_wp2
            rw [← hW, ← hB2]
            clear hW hB2
            refine wp_region_held_drew (S := fun w' => w'.cell? ⟨B2, 0, none⟩ = some (strV p1) ∧ w'.cell? ⟨B2, 1, none⟩ = some (.int .i64 nv) ∧ Hid (OpW w' ∧ Below w.heap.size w w')) (by kernel_rfl) ⟨by simpa using x0, by simpa using x1, Lib.hid ⟨HOWW.out.at (below_drewN W 1 _), HBW.out.trans (below_drewN W 1 _)⟩⟩ (fun hHeld => ?_)
            have HDX := HDW
            refine take_yes (i := 0) (v := ?_) rfl (by kernel_rfl) (by kernel_rfl) (by kernel_rfl) (fun _ _ _ h => h) (by kernel_rfl) hHeld ?_ ?_
            rotate_left
            · intro w hSw; go_split_ands; go_simp; try with_reducible rfl
            try simp only [Act.put, List.setIfInBounds_toArray, List.set_cons_zero, List.set_cons_succ]
            refine take_yes (i := 1) (v := ?_) rfl (by kernel_rfl) (by kernel_rfl) (by kernel_rfl) (fun _ _ _ h => h) (by kernel_rfl) hHeld ?_ ?_
            rotate_left
            · intro w hSw; go_split_ands; go_simp; try with_reducible rfl
            try simp only [Act.put, List.setIfInBounds_toArray, List.set_cons_zero, List.set_cons_succ]
            refine take_yes (i := 2) (v := ?_) rfl (by kernel_rfl) (by kernel_rfl) (by kernel_rfl) (fun _ _ _ h => h) (by kernel_rfl) hHeld ?_ ?_
            rotate_left
            · intro w hSw; go_split_ands; go_simp; try with_reducible rfl
            try simp only [Act.put, List.setIfInBounds_toArray, List.set_cons_zero, List.set_cons_succ]
            refine take_no (i := 3) rfl (by kernel_rfl) (by kernel_rfl) (by kernel_rfl) (fun _ _ _ h => h) (by kernel_rfl) hHeld ?_
            try simp only [Act.put, List.setIfInBounds_toArray, List.set_cons_zero, List.set_cons_succ]
            refine take_no (i := 4) rfl (by kernel_rfl) (by kernel_rfl) (by kernel_rfl) (fun _ _ _ h => h) (by kernel_rfl) hHeld ?_
            try simp only [Act.put, List.setIfInBounds_toArray, List.set_cons_zero, List.set_cons_succ]
            refine take_no (i := 5) rfl (by kernel_rfl) (by kernel_rfl) (by kernel_rfl) (fun _ _ _ h => h) (by kernel_rfl) hHeld ?_
            try simp only [Act.put, List.setIfInBounds_toArray, List.set_cons_zero, List.set_cons_succ]
            refine take_no (i := 6) rfl (by kernel_rfl) (by kernel_rfl) (by kernel_rfl) (fun _ _ _ h => h) (by kernel_rfl) hHeld ?_
            try simp only [Act.put, List.setIfInBounds_toArray, List.set_cons_zero, List.set_cons_succ]
            refine take_no (i := 7) rfl (by kernel_rfl) (by kernel_rfl) (by kernel_rfl) (fun _ _ _ h => h) (by kernel_rfl) hHeld ?_
            try simp only [Act.put, List.setIfInBounds_toArray, List.set_cons_zero, List.set_cons_succ]
            refine take_no (i := 8) rfl (by kernel_rfl) (by kernel_rfl) (by kernel_rfl) (fun _ _ _ h => h) (by kernel_rfl) hHeld ?_
            try simp only [Act.put, List.setIfInBounds_toArray, List.set_cons_zero, List.set_cons_succ]
            refine take_no (i := 9) rfl (by kernel_rfl) (by kernel_rfl) (by kernel_rfl) (fun _ _ _ h => h) (by kernel_rfl) hHeld ?_
            try simp only [Act.put, List.setIfInBounds_toArray, List.set_cons_zero, List.set_cons_succ]
            refine take_no (i := 10) rfl (by kernel_rfl) (by kernel_rfl) (by kernel_rfl) (fun _ _ _ h => h) (by kernel_rfl) hHeld ?_
            try simp only [Act.put, List.setIfInBounds_toArray, List.set_cons_zero, List.set_cons_succ]
            refine take_no (i := 11) rfl (by kernel_rfl) (by kernel_rfl) (by kernel_rfl) (fun _ _ _ h => h) (by kernel_rfl) hHeld ?_
            try simp only [Act.put, List.setIfInBounds_toArray, List.set_cons_zero, List.set_cons_succ]
            refine take_no (i := 12) rfl (by kernel_rfl) (by kernel_rfl) (by kernel_rfl) (fun _ _ _ h => h) (by kernel_rfl) hHeld ?_
            try simp only [Act.put, List.setIfInBounds_toArray, List.set_cons_zero, List.set_cons_succ]
            refine take_no (i := 13) rfl (by kernel_rfl) (by kernel_rfl) (by kernel_rfl) (fun _ _ _ h => h) (by kernel_rfl) hHeld ?_
            try simp only [Act.put, List.setIfInBounds_toArray, List.set_cons_zero, List.set_cons_succ]
            refine take_no (i := 14) rfl (by kernel_rfl) (by kernel_rfl) (by kernel_rfl) (fun _ _ _ h => h) (by kernel_rfl) hHeld ?_
            try simp only [Act.put, List.setIfInBounds_toArray, List.set_cons_zero, List.set_cons_succ]
            refine take_yes (i := 15) (v := ?_) rfl (by kernel_rfl) (by kernel_rfl) (by kernel_rfl) (fun _ _ _ h => h) (by kernel_rfl) hHeld ?_ ?_
            rotate_left
            · intro w hSw; go_split_ands; go_simp; try with_reducible rfl
            try simp only [Act.put, List.setIfInBounds_toArray, List.set_cons_zero, List.set_cons_succ]
            refine take_yes (i := 16) (v := ?_) rfl (by kernel_rfl) (by kernel_rfl) (by kernel_rfl) (fun _ _ _ h => h) (by kernel_rfl) hHeld ?_ ?_
            rotate_left
            · intro w hSw; go_split_ands; go_simp; try with_reducible rfl
            try simp only [Act.put, List.setIfInBounds_toArray, List.set_cons_zero, List.set_cons_succ]
            refine take_no (i := 17) rfl (by kernel_rfl) (by kernel_rfl) (by kernel_rfl) (fun _ _ _ h => h) (by kernel_rfl) hHeld ?_
            try simp only [Act.put, List.setIfInBounds_toArray, List.set_cons_zero, List.set_cons_succ]
            refine take_no (i := 18) rfl (by kernel_rfl) (by kernel_rfl) (by kernel_rfl) (fun _ _ _ h => h) (by kernel_rfl) hHeld ?_
            try simp only [Act.put, List.setIfInBounds_toArray, List.set_cons_zero, List.set_cons_succ]
            refine take_no (i := 19) rfl (by kernel_rfl) (by kernel_rfl) (by kernel_rfl) (fun _ _ _ h => h) (by kernel_rfl) hHeld ?_
            try simp only [Act.put, List.setIfInBounds_toArray, List.set_cons_zero, List.set_cons_succ]
            refine take_no (i := 20) rfl (by kernel_rfl) (by kernel_rfl) (by kernel_rfl) (fun _ _ _ h => h) (by kernel_rfl) hHeld ?_
            try simp only [Act.put, List.setIfInBounds_toArray, List.set_cons_zero, List.set_cons_succ]
            refine take_yes (i := 21) (v := ?_) rfl (by kernel_rfl) (by kernel_rfl) (by kernel_rfl) (fun _ _ _ h => h) (by kernel_rfl) hHeld ?_ ?_
            rotate_left
            · intro w hSw; go_split_ands; go_simp; try with_reducible rfl
            try simp only [Act.put, List.setIfInBounds_toArray, List.set_cons_zero, List.set_cons_succ]
            have HBX := Lib.hid hHeld.2.2.out.2
            refine wpAnyH_done (by kernel_rfl) ?_ _
            clear hHeld
            have HNO := Lib.hid (HFIN.out (HNS.out))
            have c1 := HDX.out.c1
            rw [← HJ.out] at c1
            go_wp2
            go_quiet (fail)
            go_wp2
            go_ret2
            exact HNO.out _ _ _ (HDX.out.at ((below_drewN W 1 _).trans (below_drewN _ _ _))) (HBX.out.trans (below_drewN _ _ _))
        · have hd4 : ((ws.length : Int) != 4) = true := by simp; omega
          have HNS : Hid (∀ m, ¬ StepTo L rest m) := Lib.hid (fun m hm => h4 (by rw [HWE.out]; exact (step_data hm HK.out).1))
          clear h4 HWS HWE HPL
          have HNO := Lib.hid (HFIN.out (HNS.out))
          have c1 := HD2.out.c1
          rw [← HJ.out] at c1
          go_wp2
          go_quiet (fail)
          go_wp2
          go_ret2
          exact HNO.out _ _ _ (HD2.out.at (below_drewN _ _ _)) (HB2.out.trans (below_drewN _ _ _))
      --main}
end Go.Proofs.YtannijeiecmjpaaGreatDoor
