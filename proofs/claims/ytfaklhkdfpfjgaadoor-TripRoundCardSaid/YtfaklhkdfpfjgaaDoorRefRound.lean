/- The reference's Round (19.2), whole. -/
import Derived.Test.YtfaklhkdfpfjgaaDoorWalks
namespace Go.Proofs.YtfaklhkdfpfjgaaDoor
open Go.RowKit

theorem bit_one_fin : ∀ n : Fin 7, ∀ k : Fin 6, 2 ≤ n.1 → bitB (2 ^ n.1 - 3) k.1 = (decide (k.1 ≠ 1) && decide (k.1 < n.1)) := by decide +kernel
theorem bit_one {n k : Nat} (hn : n < 7) (hk : k < 6) (h : 2 ≤ n) : bitB (2 ^ n - 3) k = (decide (k ≠ 1) && decide (k < n)) := bit_one_fin ⟨n, hn⟩ ⟨k, hk⟩ h
theorem cnt_one_fin : ∀ n : Fin 7, 2 ≤ n.1 → cntB (2 ^ n.1 - 3) = n.1 - 1 := by decide +kernel
theorem cnt_one {n : Nat} (hn : n < 7) (h : 2 ≤ n) : cntB (2 ^ n - 3) = n - 1 := cnt_one_fin ⟨n, hn⟩ h
/-- The shortest round way, and how long it is. -/
def topR (A : List (List Int)) : Option (Int × List Int) :=
  if A.length = 0 then some (0, []) else if A.length = 1 then some (0, [0]) else (bestS A A.length 0 (2 ^ A.length - 2)).map fun x => (x.1, 0 :: x.2.map (fun k : Nat => (k : Int)))
def WalkTPost (w0 : World) (n : Nat) (a : Option Addr) (cap : Nat) (st : Option (Int × List Int)) (e : Ending) (w' : World) : Prop :=
  Below w0.heap.size w0 w' ∧ ∃ b, e = .returned (.bool b) ∧ ∃ row U, WalksAt w' w0.heap.size n a cap row U st
set_option maxRecDepth 100000 in
set_option maxHeartbeats 8000000 in
theorem walkTop (w0 : World) (a : Option Addr) (cap : Nat) (A : List (List Int)) (hM : mapCheck A = 0) (hA6 : A.length ≤ 6) (hr : Rows2 w0 a A) (row : List Int) (U : Nat → Bool) (w : World) (hrow : row = []) (hU : ∀ y, U y = false)
    (hW : WalksAt w w0.heap.size A.length a cap row U none) (hb : Below w0.heap.size w0 w) :
    Calls Tryd.prog 110 (wkArgs w0.heap.size) w (WalkTPost w0 A.length a cap (topR A)) := by
  have h64 : 2 ^ A.length ≤ 2 ^ 6 := Nat.pow_le_pow_right (by omega) hA6
  by_cases hn0 : A.length = 0
  · have hlf := walkLeaf w0 a cap A row U none w hM hr (fun x hx => by rw [hrow] at hx; cases hx) (by rw [hrow, hn0]; rfl) (fun x hx => by cases hx) hW hb
    refine hlf.mono ?_
    intro e w' hp
    unfold LeafPost at hp
    obtain ⟨k1, k2⟩ := hp
    rw [if_neg (fun h => h.1 hrow)] at k2
    unfold WalkTPost
    refine ⟨k1, false, k2.1, row, U, ?_⟩
    have h : topR A = better none (some (longM A row, row)) := by
      unfold topR
      rw [if_pos hn0, hrow]
      rfl
    rw [h]
    exact k2.2
  have HROW := Lib.hid hrow
  have HU := Lib.hid hU
  have hrl : row.length < A.length := by rw [hrow]; simp; omega
  have hl9' : row.length + 1 ≤ 1 := by rw [hrow]; simp
  obtain ⟨RES, hRES⟩ : ∃ RES, RES = topR A := ⟨_, rfl⟩
  rw [← hRES]
  have HOK : OkR RES := by
    intro x hx
    rw [hRES] at hx
    unfold topR at hx
    rw [if_neg hn0] at hx
    by_cases h1 : A.length = 1
    · rw [if_pos h1] at hx
      simp only [Option.some.injEq] at hx
      rw [← hx]; exact Int.le_refl _
    · rw [if_neg h1] at hx
      obtain ⟨c, p, h6, h7, _⟩ := bestS_some (map_ok hM).2 hA6 rfl (2 ^ A.length - 2) (2 ^ A.length - 2) 0 (Nat.le_refl _) (by have : 0 < 2 ^ A.length := Nat.two_pow_pos _; omega) (by omega)
      rw [h6] at hx
      simp only [Option.map_some, Option.some.injEq] at hx
      rw [← hx]; exact h7
  -- what the two ways into the search do
  have HCA : Hid (∀ i : Nat, i = 0 → ∀ w', WalksAt w' w0.heap.size A.length a cap (row ++ [(i : Int)]) (updB U i true) none → Below w0.heap.size w0 w' → Calls Tryd.prog 110 (wkArgs w0.heap.size) w' (fun e w2 => Below w0.heap.size w0 w2 ∧ e = .returned (.bool false) ∧ WalksAt w2 w0.heap.size A.length a cap (row ++ [(i : Int)]) (updB U i true) RES)) := Lib.hid (fun i hi0 w' hW' hb' => by
    subst hi0
    have hrr : row ++ [((0 : Nat) : Int)] = [0] := by rw [hrow]; rfl
    rw [hrr] at hW' ⊢
    by_cases h1 : A.length = 1
    · refine (walkLeaf w0 a cap A [0] (updB U 0 true) none w' hM hr (fun x hx => by have h := List.mem_singleton.1 hx; omega) (by simp [h1]) (fun x hx => by cases hx) hW' hb').mono ?_
      intro e w2 hp
      unfold LeafPost at hp
      obtain ⟨k1, k2⟩ := hp
      rw [if_neg (fun h => by have := h.2; simp at this)] at k2
      refine ⟨k1, k2.1, ?_⟩
      have h : RES = better none (some (longM A [0], [0])) := by
        rw [hRES]
        unfold topR
        rw [if_neg hn0, if_pos h1]
        rfl
      rw [h]; exact k2.2
    · refine (walkA w0 a cap A hM (by omega) hA6 hr (A.length + 1) [0] (updB U 0 true) (2 ^ A.length - 2) none w' (by simp; omega) (by simp) rfl (fun x hx => by have h := List.mem_singleton.1 hx; omega) (by have : 0 < 2 ^ A.length := Nat.two_pow_pos _; omega) (fun k hk => by
        rw [bit_all (by omega) (by omega) (by omega)]
        unfold updB
        by_cases h : k = 0
        · rw [if_pos h, decide_eq_false (fun h2 => h2 h)]; rfl
        · rw [if_neg h, decide_eq_true h, hU k, decide_eq_true hk]; rfl) (by rw [cnt_all (by omega) (by omega)]; simp; omega) (fun x hx => by cases hx) hW' hb').mono ?_
      intro e w2 hp
      unfold WalkAPost at hp
      obtain ⟨k1, k2, k3⟩ := hp
      refine ⟨k1, k2, ?_⟩
      have h : RES = better none ((bestS A A.length (lastR [0]) (2 ^ A.length - 2)).map (extR A [0])) := by
        rw [hRES]
        unfold topR
        rw [if_neg hn0, if_neg h1]
        show _ = (bestS A A.length 0 (2 ^ A.length - 2)).map (extR A [0])
        congr 1
        funext x
        unfold extR openM
        simp [legM]
      rw [h]; exact k3)
  have HCB : Hid (∀ i : Nat, i = 1 → 2 ≤ A.length → ∀ w', WalksAt w' w0.heap.size A.length a cap (row ++ [(i : Int)]) (updB U i true) RES → Below w0.heap.size w0 w' → Calls Tryd.prog 110 (wkArgs w0.heap.size) w' (WalkBPost w0 A.length a cap RES)) := Lib.hid (fun i hi1 h2 w' hW' hb' => by
    subst hi1
    have hrr : row ++ [((1 : Nat) : Int)] = [1] := by rw [hrow]; rfl
    rw [hrr] at hW'
    exact walkB w0 a cap A hM hA6 hr RES HOK (A.length + 1) [1] (updB U 1 true) (2 ^ A.length - 3) w' (by simp; omega) (by simp) (by simp) (fun x hx => by have h := List.mem_singleton.1 hx; omega) (by have : 0 < 2 ^ A.length := Nat.two_pow_pos _; omega) (fun k hk => by
      rw [bit_one (by omega) (by omega) h2]
      unfold updB
      by_cases h : k = 1
      · rw [if_pos h, decide_eq_false (fun h2 => h2 h)]; rfl
      · rw [if_neg h, decide_eq_true h, hU k, decide_eq_true hk]; rfl) (by rw [cnt_one (by omega) h2]; simp; omega) hW' hb')
  have HB := Lib.hid hb
  have HW0 := Lib.hid hW
  obtain ⟨vr, vp, f1, f2, f3, f4, f5, f6, f7⟩ := hW
  obtain ⟨ar, cr, rfl, _, _, _⟩ := owns_slice rfl f4
  have c5 : w.cell? ⟨w0.heap.size + 5, 0, none⟩ = some (.slice ar row.length cr) := f3.cellAt 0 (by omega)
  have c3 := f1.2.1
  have hle : ((row.length : Int) == (A.length : Int)) = false := beq_eq_false_iff_ne.2 (by omega)
  obtain ⟨N, hN⟩ : ∃ N, N = w0.heap.size := ⟨_, rfl⟩
  have HN := Lib.hid hN
  unfold wkArgs at HCA HCB ⊢
  rw [← hN] at HW0 c5 c3 HCA HCB ⊢
  clear hU f1 f2 f3 f4 f5 f6 f7 hN hb hrow hr hM hRES HOK
  go_enter Tryd.func110, Tryd.ntmps110
  go_wp2
  go_loopw [15] (fun iv wr => ∃ i : Nat, i ≤ A.length ∧ i ≤ 1 ∧ iv = .int .i64 i ∧ Hid (WalksAt wr N A.length a cap row U (if i = 0 then none else RES)) ∧ Hid (Below w0.heap.size w0 wr)) (fun iv _ => A.length - (intOf iv).toNat)
  case atStart => exact ⟨0, by omega, by omega, rfl, HW0, HB⟩
  case round =>
    clear HW0 HB c5 c3
    obtain ⟨i, hi, hi1, rfl, HW, HB⟩ := hrel
    by_cases hin : i < A.length
    · by_cases hi0 : i = 0
      · rw [if_pos hi0] at HW
        have HI0 := Lib.hid hi0
        clear hi0
        obtain ⟨vr, vp, f1, f2, f3, f4, f5, f6, f7⟩ := HW.out
        have c7 := f1.2.2.2.1
        have hu := HU.out i
        have c6 : wr.cell? ⟨N + 6, i, none⟩ = some (.bool (U i)) := by
          rw [f6.cellAt i (by omega), List.getElem?_map, List.getElem?_eq_getElem (by rw [tabB_len]; exact hin)]
          simp [tabB]
        rw [hu] at c6
        have HUI := Lib.hid hu
        have ff6 := f6.frozenAt i
        have c5 : wr.cell? ⟨N + 5, 0, none⟩ = some vr := f3.cellAt 0 (by omega)
        have hM1 := HW.out.mark i true (U' := updB U i true) (fun y _ => rfl)
        obtain ⟨vr1, vp1, e1, e2, e3, e4, e5, e6, e7⟩ := hM1
        have hv1 : vr1 = vr := by
          have h1 : (wr.setCell ⟨N + 6, i, none⟩ (.bool true)).cell? ⟨N + 5, 0, none⟩ = some vr1 := e3.cellAt 0 (by omega)
          rw [(grownR_set wr (N + 6) i (.bool true)).cell_far ⟨N + 5, 0, none⟩ (lt_of_cell c5) (by simp), c5] at h1
          exact (Option.some.inj h1).symm
        subst hv1
        obtain ⟨ar, cr, rfl, _, _, _⟩ := owns_slice rfl e4
        have HE := Lib.hid (And.intro e1 (And.intro e2 (And.intro e3 (And.intro e5 e6))))
        have HBm : Hid (Below w0.heap.size w0 (wr.setCell ⟨N + 6, i, none⟩ (.bool true))) := Lib.hid (HB.out.setCell (p := ⟨N + 6, i, none⟩) (by have := HN.out; simp; omega) _)
        obtain ⟨wm, hwm⟩ : ∃ wm, wm = wr.setCell ⟨N + 6, i, none⟩ (.bool true) := ⟨_, rfl⟩
        have HWM := Lib.hid hwm
        have hl9 : row.length ≤ 6 := by omega
        clear f1 f2 f3 f4 f5 f6 f7 hu e1 e2 e3 e5 e6 HW hwm
        go_wp2_with (at_builtin; (refine app_row2 rowAI rfl _ _ rfl (N + 9) rfl e4 [.int .i64 i] rfl (by first | rfl | simp) rfl (encI_one _) (by unfold maxLen; omega) (by omega) e7 ?_))
        intro v' w4 hown4 hg4 hv4
        obtain ⟨e1, e2, e3, e5, e6⟩ := HE.out
        have hown5 : w4.ownsRow (N + 9) 3 1 v' (row ++ [(i : Int)]).length ((row ++ [(i : Int)]).map (Value.int .i64)) := by rw [List.length_append, List.map_append]; exact hown4
        have q3 := e3.kept hg4 (Or.inr (fun hq => by have := (e4.lt (N + 5) hq.symm).1; omega))
        have k1 := q3.cellAt 0 (by omega)
        have k2 := q3.frozenAt 0
        have hM2 := WalksAt.row (row' := row ++ [(i : Int)]) e1 e2 e3 e6 e7 (fun g hg => (e4.lt g hg).1) e5 hg4 hown5 (by simpa using hv4)
        obtain ⟨a5, cc5, rfl, _, _, _⟩ := owns_slice rfl hown5
        have hbw : Below w0.heap.size w0 (w4.setCell ⟨N + 5, 0, none⟩ (.slice a5 (row ++ [(i : Int)]).length cc5)) :=
          ((HBm.out.trans ((grown_below e4 e7 hg4).mono (by have := HN.out; omega))).setCell (p := ⟨N + 5, 0, none⟩) (by have := HN.out; simp; omega) _)
        have c8 := hM2.choose_spec.choose_spec.1.2.2.2.2
        unfold wkV at c8
        have eg := eg_walks1
        have HCALL := Lib.hid (HCA.out i HI0.out _ hM2 (by have h := hbw; rw [← HN.out] at h; exact h))
        unfold wkArgs at HCALL
        have hll : (row ++ [(i : Int)]).length = row.length + 1 := by simp
        rw [hll] at HCALL c8
        clear hown4 hown5 q3 hM2 hbw e1 e2 e3 e5 e6 e4 e7 hg4 hv4 HE HBm
        go_wp2_with fail
        refine HCALL.out.mono ?_
        intro e w6 hw
          
        obtain ⟨hb6, rfl, hW6⟩ := hw
        rw [HN.out] at hb6
        obtain ⟨vr6, vp6, g1, g2, g3, g4, g5, g6, g7⟩ := hW6
        rw [hll] at g4
        obtain ⟨gq, cq, rfl, hgq, _⟩ := g4.form (by omega)
        have c5 : w6.cell? ⟨N + 5, 0, none⟩ = some (.slice (some ⟨gq, 0, none⟩) (row.length + 1) cq) := g3.cellAt 0 (by omega)
        have k5 := g3.frozenAt 0
        have hcq : row.length + 1 ≤ cq := by
          rcases g4.2 with ⟨h1, _⟩ | ⟨g', cap', cur, h1, _, _, h2, _⟩
          · cases h1
          · obtain ⟨_, _, h3⟩ := Value.slice.inj h1
            omega
        have hM3 := WalksAt.row (row' := row) (v' := .slice (some ⟨gq, 0, none⟩) row.length cq) g1 g2 g3 g6 g7 (fun g hg => (g4.lt g hg).1) g5 (World.grownBy.refl w6 _) (owns_less g4) (Or.inl rfl)
        have HM4 := Lib.hid (hM3.mark i false (U' := U) (fun y _ => by
          unfold updB
          by_cases h : y = i
          · rw [if_pos h, h]; exact HUI.out
          · rw [if_neg h, if_neg h]))
        have c7 : (w6.setCell ⟨N + 5, 0, none⟩ (.slice (some ⟨gq, 0, none⟩) row.length cq)).cell? ⟨N + 7, 0, none⟩ = some (.slice (some ⟨N + 6, 0, none⟩) A.length A.length) := hM3.choose_spec.choose_spec.1.2.2.2.1
        have c7' := g1.2.2.2.1
        have c6' : w6.cell? ⟨N + 6, i, none⟩ = some (.bool true) := by
          rw [g6.cellAt i (by omega), List.getElem?_map, List.getElem?_eq_getElem (by rw [tabB_len]; exact hin)]
          simp [tabB, updB]
        have k6 := g6.frozenAt i
        have HB4 : Hid (Below w0.heap.size w0 ((w6.setCell ⟨N + 5, 0, none⟩ (.slice (some ⟨gq, 0, none⟩) row.length cq)).setCell ⟨N + 6, i, none⟩ (.bool false))) := Lib.hid ((hb6.setCell (p := ⟨N + 5, 0, none⟩) (by have := HN.out; simp; omega) _).setCell (p := ⟨N + 6, i, none⟩) (by have := HN.out; simp; omega) _)
        clear g1 g2 g3 g4 g5 g6 g7 hM3 hb6 HCALL
        go_wp2
        exact ⟨⟨i + 1, by omega, by have := HI0.out; omega, by go_num, by rw [if_neg (by omega)]; exact HM4, HB4⟩, by simp [intOf]; omega⟩
      · rw [if_neg hi0] at HW
        have HI0 := Lib.hid (show i = 1 by omega)
        clear hi0
        obtain ⟨vr, vp, f1, f2, f3, f4, f5, f6, f7⟩ := HW.out
        have c7 := f1.2.2.2.1
        have hu := HU.out i
        have c6 : wr.cell? ⟨N + 6, i, none⟩ = some (.bool (U i)) := by
          rw [f6.cellAt i (by omega), List.getElem?_map, List.getElem?_eq_getElem (by rw [tabB_len]; exact hin)]
          simp [tabB]
        rw [hu] at c6
        have HUI := Lib.hid hu
        have ff6 := f6.frozenAt i
        have c5 : wr.cell? ⟨N + 5, 0, none⟩ = some vr := f3.cellAt 0 (by omega)
        have hM1 := HW.out.mark i true (U' := updB U i true) (fun y _ => rfl)
        obtain ⟨vr1, vp1, e1, e2, e3, e4, e5, e6, e7⟩ := hM1
        have hv1 : vr1 = vr := by
          have h1 : (wr.setCell ⟨N + 6, i, none⟩ (.bool true)).cell? ⟨N + 5, 0, none⟩ = some vr1 := e3.cellAt 0 (by omega)
          rw [(grownR_set wr (N + 6) i (.bool true)).cell_far ⟨N + 5, 0, none⟩ (lt_of_cell c5) (by simp), c5] at h1
          exact (Option.some.inj h1).symm
        subst hv1
        obtain ⟨ar, cr, rfl, _, _, _⟩ := owns_slice rfl e4
        have HE := Lib.hid (And.intro e1 (And.intro e2 (And.intro e3 (And.intro e5 e6))))
        have HBm : Hid (Below w0.heap.size w0 (wr.setCell ⟨N + 6, i, none⟩ (.bool true))) := Lib.hid (HB.out.setCell (p := ⟨N + 6, i, none⟩) (by have := HN.out; simp; omega) _)
        obtain ⟨wm, hwm⟩ : ∃ wm, wm = wr.setCell ⟨N + 6, i, none⟩ (.bool true) := ⟨_, rfl⟩
        have HWM := Lib.hid hwm
        have hl9 : row.length ≤ 6 := by omega
        clear f1 f2 f3 f4 f5 f6 f7 hu e1 e2 e3 e5 e6 HW hwm
        go_wp2_with (at_builtin; (refine app_row2 rowAI rfl _ _ rfl (N + 9) rfl e4 [.int .i64 i] rfl (by first | rfl | simp) rfl (encI_one _) (by unfold maxLen; omega) (by omega) e7 ?_))
        intro v' w4 hown4 hg4 hv4
        obtain ⟨e1, e2, e3, e5, e6⟩ := HE.out
        have hown5 : w4.ownsRow (N + 9) 3 1 v' (row ++ [(i : Int)]).length ((row ++ [(i : Int)]).map (Value.int .i64)) := by rw [List.length_append, List.map_append]; exact hown4
        have q3 := e3.kept hg4 (Or.inr (fun hq => by have := (e4.lt (N + 5) hq.symm).1; omega))
        have k1 := q3.cellAt 0 (by omega)
        have k2 := q3.frozenAt 0
        have hM2 := WalksAt.row (row' := row ++ [(i : Int)]) e1 e2 e3 e6 e7 (fun g hg => (e4.lt g hg).1) e5 hg4 hown5 (by simpa using hv4)
        obtain ⟨a5, cc5, rfl, _, _, _⟩ := owns_slice rfl hown5
        have hbw : Below w0.heap.size w0 (w4.setCell ⟨N + 5, 0, none⟩ (.slice a5 (row ++ [(i : Int)]).length cc5)) :=
          ((HBm.out.trans ((grown_below e4 e7 hg4).mono (by have := HN.out; omega))).setCell (p := ⟨N + 5, 0, none⟩) (by have := HN.out; simp; omega) _)
        have c8 := hM2.choose_spec.choose_spec.1.2.2.2.2
        unfold wkV at c8
        have eg := eg_walks1
        have HCALL := Lib.hid (HCB.out i HI0.out (by have := HI0.out; omega) _ hM2 (by have h := hbw; rw [← HN.out] at h; exact h))
        unfold wkArgs at HCALL
        have hll : (row ++ [(i : Int)]).length = row.length + 1 := by simp
        rw [hll] at HCALL c8
        clear hown4 hown5 q3 hM2 hbw e1 e2 e3 e5 e6 e4 e7 hg4 hv4 HE HBm
        go_wp2_with fail
        refine HCALL.out.mono ?_
        intro e w6 hw
        unfold WalkBPost at hw
        obtain ⟨hb6, rfl, row6, U6, hW6⟩ := hw
        have H6 := Lib.hid (And.intro hb6 hW6)
        clear hb6 hW6 HCALL
        go_wp2
        go_ret
        unfold WalkTPost
        exact ⟨H6.out.1, true, rfl, row6, U6, H6.out.2⟩
    · have HW2 : Hid (WalksAt wr N A.length a cap row U RES) := Lib.hid (by
        have h := HW.out
        rw [if_neg (by omega)] at h
        exact h)
      go_wp2
      go_ret
      unfold WalkTPost
      rw [← HN.out]
      exact ⟨by rw [HN.out]; exact HB.out, false, rfl, row, U, HW2.out⟩
end Go.Proofs.YtfaklhkdfpfjgaaDoor
