/- The reference's Run: from one time at which something happens to the next one. -/
import Derived.Test.YtannijeiecmjpaaDoorRefRun
import Derived.Test.YtannijeiecmjpaaDoorRunW
namespace Go.Proofs.YtannijeiecmjpaaDoor
open Go.RowKit

theorem rowPr : RowOf Tryd.prog 33 37 (.agg #[.int .i64 0, .int .i64 0, .int .i64 0]) 3 24 := rowOf Tryd.underlying33 (by kernel_rfl) rfl (by decide)
/-- What the reference's Run answers. -/
def RefRunPost (xs : List R3) (rule : Int) (w : World) (e : Ending) (w' : World) : Prop :=
  Below w.heap.size w w' ∧ ∃ now on left out a cap, ReachR xs rule (now, on, left, out) ∧ stepR xs rule (now, on, left, out) = none ∧ e = .returned (.slice a out.length cap) ∧ Elems enc3 3 w' a out
/-- The memory in a step: the rows of what is left and of the pieces. -/
def RefAt (w : World) (n B : Nat) (wr : World) (left : List Int) (ov : Value) (out : List R3) : Prop :=
  wr.ownsRow w.heap.size 3 1 (.slice (some ⟨w.heap.size, 0, none⟩) n n) n (left.map (Value.int .i64)) ∧ wr.ownsRow B 37 3 ov out.length (out.flatMap enc3) ∧ Below w.heap.size w wr ∧ B ≤ wr.heap.size
theorem RefAt.next {w : World} {n B : Nat} {wr wr' : World} {left : List Int} {ov : Value} {out : List R3} (H : RefAt w n B wr left ov out) (h : Below wr.heap.size wr wr') : RefAt w n B wr' left ov out :=
  ⟨owns_at H.1 h, owns_at H.2.1 h, below_next H.2.2.1 h, Nat.le_trans H.2.2.2 h.size⟩
theorem RefAt.setLeft {w : World} {n B : Nat} {wr : World} {left : List Int} {ov : Value} {out : List R3} (hB : w.heap.size < B) (H : RefAt w n B wr left ov out) (i : Nat) (v : Int) : RefAt w n B (wr.setCell ⟨w.heap.size, i, none⟩ (.int .i64 v)) (left.set i v) ov out :=
  ⟨owns_set H.1 i v, ownsRow_setCell_below H.2.1 hB _, H.2.2.1.setCell (Nat.le_refl _) _, by rw [World.size_setCell]; exact H.2.2.2⟩
theorem RefAt.putOut {w : World} {n B : Nat} {wr wr' : World} {left : List Int} {ov ov' : Value} {out out' : List R3} (hB : w.heap.size < B) (H : RefAt w n B wr left ov out) (hg : wr.grownBy wr' ov.ownBlock) (ho : wr'.ownsRow B 37 3 ov' out'.length (out'.flatMap enc3)) : RefAt w n B wr' left ov' out' := by
  have h7 := H.2.1
  refine ⟨H.1.kept hg (Or.inr ?_), ho, H.2.2.1.grown hg H.2.2.1.size (fun k hk => ?_), Nat.le_trans H.2.2.2 hg.size⟩
  · intro h
    have h2 := (h7.lt _ h.symm).1
    simp only at h2
    omega
  · have := (h7.lt k hk).1
    omega
theorem RefAt.setTo {w : World} {n B bo m c : Nat} {wr : World} {left : List Int} {out : List R3} (hB : w.heap.size < B) (H : RefAt w n B wr left (.slice (some ⟨bo, 0, none⟩) m c) out) (k : Nat) (v : Int) (hk : k < out.length) : RefAt w n B (wr.setCell ⟨bo, k * 3 + 2, none⟩ (.int .i64 v)) left (.slice (some ⟨bo, 0, none⟩) m c) (out.set k (out[k].1, out[k].2.1, v)) := by
  refine H.putOut hB (grown_setCells bo [.int .i64 v] wr _) ?_
  rw [flat3_set out k out[k] v hk rfl, List.length_set]
  have h7 := H.2.1
  have hm : m = out.length := by
    rcases h7.2 with ⟨h, _⟩ | ⟨_, _, _, h, _⟩
    · cases h
    · exact (Value.slice.inj h).2.1
  subst hm
  exact (h7.stored (k * 3 + 2) (.int .i64 v)).1
def bI : Option Nat → Int
  | none => -1
  | some b => (b : Int)
theorem ahead_succ (rule : Int) (xs : List R3) (left : Nat → Int) (P : Nat → Bool) (m : Nat) (bb : Bool) (h : bb = true ↔ P m = true ∧ ∀ k, aheadOf rule xs left P m = some k → goesB rule xs left m k) : aheadOf rule xs left P (m + 1) = if bb = true then some m else aheadOf rule xs left P m := by
  conv => lhs; unfold aheadOf
  by_cases hP : P m = true
  · rw [if_pos hP]
    cases hA : aheadOf rule xs left P m with
    | none => rw [if_pos (h.2 ⟨hP, fun k hk => by rw [hA] at hk; cases hk⟩)]
    | some k =>
      dsimp only
      by_cases hg : goesB rule xs left m k
      · rw [if_pos hg, if_pos (h.2 ⟨hP, fun j hj => by rw [hA] at hj; injection hj with hj; rw [← hj]; exact hg⟩)]
      · rw [if_neg hg, if_neg (fun hb => hg ((h.1 hb).2 k hA))]
  · rw [if_neg hP, if_neg (fun hb => hP (h.1 hb).1)]
theorem nextOf_succ (xs : List R3) (now : Int) (m : Nat) : nextOf xs now (m + 1) = if now < atOf xs m ∧ (nextOf xs now m < 0 ∨ atOf xs m < nextOf xs now m) then atOf xs m else nextOf xs now m := rfl

set_option maxRecDepth 100000 in
set_option maxHeartbeats 16000000 in
theorem refRun_any (a : Option Addr) (n cap : Nat) (rule : Int) (xs : List R3) (w : World) (hl : n = xs.length) (hx : Elems enc3 3 w a xs) (hC : jobsCheck xs = 0) (hr : 1 ≤ rule) (hr6 : rule ≤ 6) :
    Calls Tryd.prog 11 #[.slice a n cap, .int .i64 rule] w (RefRunPost xs rule w) := by
  have hn60 : n ≤ 60 := by have := jobs_ok_len hC; omega
  have HC := Lib.hid hC
  have HX := Lib.hid hx
  have HL := Lib.hid hl
  have hr1 : ¬ rule < 1 := by omega
  have hr7 : ¬ 6 < rule := by omega
  clear hC hx hl
  obtain ⟨Z, hmk, hrow⟩ := made_row rowIn n (n : Int) rfl (by omega) (by unfold maxLen; omega)
  have hr0 : (w.alloc (.cells Z 3)).ownsRow w.heap.size 3 1 (.slice (some ⟨w.heap.size, 0, none⟩) n n) n ((leftTo xs 0).map (Value.int .i64)) := by
    have h1 := hrow w _ (Nat.le_refl _)
    rw [show (madeCells (Value.int IntKind.i64 0).cells (n * 1)).toList = (madeCells #[Value.int .i64 0] n).toList by simp [Value.cells], made_ints] at h1
    have e : leftTo xs 0 = List.replicate n 0 := by simp [leftTo, HL.out]
    rw [e]; exact h1
  have HR0 := Lib.hid hr0
  have HB0 : Hid (Below w.heap.size w (w.alloc (.cells Z 3))) := Lib.hid ((Below.refl _ _).alloc (Nat.le_refl _) _)
  clear hrow hr0
  go_enter Tryd.func11, Tryd.ntmps11
  go_wp2
  go_loopw [22] (fun iv wr => ∃ k : Nat, k ≤ n ∧ iv = .int .i64 k ∧ wr.ownsRow w.heap.size 3 1 (.slice (some ⟨w.heap.size, 0, none⟩) n n) n ((leftTo xs k).map (Value.int .i64)) ∧ Below w.heap.size w wr ∧ w.heap.size + 1 ≤ wr.heap.size) (fun iv _ => n - (intOf iv).toNat)
  case atStart => exact ⟨0, by omega, rfl, HR0.out, HB0.out, by simp⟩
  case round =>
    clear HR0 HB0 hmk
    obtain ⟨k, hk, rfl, hown, hb, hsz⟩ := hrel
    by_cases hlt : k < n
    · have hlx : k < xs.length := by rw [← HL.out]; exact hlt
      obtain ⟨b, o, rfl, hc⟩ := (HX.out.at hb).some hlx
      have q1 := hc k hlx 0 _ rfl
      have q2 := hc k hlx 1 _ rfl
      have q3 := hc k hlx 2 _ rfl
      simp only [Nat.add_zero] at q1
      have HS := Lib.hid (leftTo_set xs k hlx)
      have HLL := Lib.hid (leftTo_len xs k (by omega))
      have hkl : k < (leftTo xs k).length := by rw [HLL.out]; exact hlx
      generalize xs[k] = x at *
      have p1 := fun o => cell_a1 (owns_get hown k hlt hkl) o
      have p2 : ∀ o, (wr.alloc o).frozen? ⟨w.heap.size, k, none⟩ = false := fun o => frozen_a1 (owns_base hown).2 (hown.frozenAt k) o
      have HRo : Hid (∀ o, ((wr.alloc o).setCell ⟨w.heap.size, k, none⟩ (.int .i64 x.2.1)).ownsRow w.heap.size 3 1 (.slice (some ⟨w.heap.size, 0, none⟩) n n) n ((leftTo xs (k + 1)).map (Value.int .i64))) := Lib.hid (fun o => by rw [← HS.out]; exact owns_set (hown.alloc o) k _)
      have HB := Lib.hid hb
      clear hc hown hb
      go_wp2
      exact ⟨⟨k + 1, by omega, by go_num, HRo.out _, (HB.out.alloc HB.out.size _).setCell (Nat.le_refl _) _, by simp; omega⟩, by simp [intOf]; omega⟩
    · obtain rfl : k = n := by omega
      obtain ⟨ws, hws⟩ : ∃ ws, ws = wr := ⟨_, rfl⟩
      subst hws
      have HST : Hid (RefAt w k (w.heap.size + 1) ws (xs.map (·.2.1)) (.slice none 0 0) []) := Lib.hid ⟨by rw [HL.out, leftTo_all] at hown; rw [HL.out]; exact hown, World.ownsRow_nil _ _ _ _, hb, hsz⟩
      clear hown hb hsz
      go_wp2
      go_loopw [8, 9, 10] (fun ov nv xv wr => ∃ (now on : Int) (left : List Int) (out : List R3), nv = .int .i64 now ∧ xv = .int .i64 on ∧ RefAt w k (w.heap.size + 1) wr left ov out ∧ Hid (ReachR xs rule (now, on, left, out))) (fun _ nv _ _ => (61000000001 - intOf nv).toNat)
      case atStart => exact ⟨0, -1, _, [], rfl, rfl, HST.out, Lib.hid (reach_zero xs rule)⟩
      case round =>
        clear HST hlt hk
        obtain ⟨now, on, left, out, rfl, rfl, H, HH⟩ := hrel
        obtain ⟨g1, g2, g3, g4, g5, g6, g7⟩ := reach_good HC.out HH.out
        simp only at g1 g2 g3 g4 g5 g6
        obtain ⟨ao, co, hov⟩ := row_form H.2.1
        obtain ⟨mo, hmo⟩ : ∃ mo, mo = out.length := ⟨_, rfl⟩
        rw [← hmo] at hov
        subst hov
        have hs := sum_le left g3
        have hmo9 : mo ≤ 61000000000 := by omega
        have HMO := Lib.hid hmo
        have HF := Lib.hid (And.intro g1 (And.intro g2 (And.intro g3 (And.intro g4 g6))))
        have HR := Lib.hid H
        obtain ⟨wo, hwo⟩ : ∃ wo, wo = wr := ⟨_, rfl⟩
        subst hwo
        clear H hmo hs g1 g2 g3 g4 g5 g6 g7
        go_wp2
        go_loopw [11, 12, 35] (fun bv xv iv wr => ∃ i : Nat, i ≤ k ∧ iv = .int .i64 i ∧ bv = .int .i64 (bI (aheadOf rule xs (lf left) (hereB xs now left) i)) ∧ xv = .int .i64 (nextOf xs now i) ∧ Hid (Below wo.heap.size wo wr)) (fun _ _ iv _ => k - (intOf iv).toNat)
        case atStart => exact ⟨0, by omega, rfl, rfl, rfl, Lib.hid (Below.refl _ _)⟩
        case round =>
          obtain ⟨i, hi, rfl, rfl, rfl, HBW⟩ := hrel
          by_cases hlt : i < k
          · have hlx : i < xs.length := by rw [← HL.out]; exact hlt
            have HRi := Lib.hid (HR.out.next HBW.out)
            obtain ⟨b, o, haE, hc⟩ := (HX.out.at HRi.out.2.2.1).some hlx
            have q1 := hc i hlx 0 _ rfl
            have q2 := hc i hlx 1 _ rfl
            have q3 := hc i hlx 2 _ rfl
            simp only [Nat.add_zero] at q1
            have hat : atOf xs i = xs[i].1 := by simp [atOf, List.getD_eq_getElem?_getD, hlx]
            have HSX := Lib.hid (nextOf_succ xs now i)
            have hlf : Hid (hereB xs now left i = true ↔ atOf xs i ≤ now ∧ 0 < lf left i) := Lib.hid (by simp [hereB])
            have HAS := fun bb h => Lib.hid (ahead_succ rule xs (lf left) (hereB xs now left) i bb h)
            have HAL := Lib.hid (ahead_least rule xs (lf left) (hereB xs now left) i)
            have hil : i < left.length := by rw [HF.out.2.1]; exact hlx
            have cle := owns_get HRi.out.1 i hlt hil
            have HLE : Hid (lf left i = left[i]) := Lib.hid (getD_lt hil)
            rw [hat] at HSX hlf
            generalize xs[i].1 = t at *
            generalize xs[i].2.1 = sz at *
            generalize xs[i].2.2 = cs at *
            obtain ⟨li, hli⟩ : ∃ li, li = left[i] := ⟨_, rfl⟩
            rw [← hli] at cle HLE
            rw [HLE.out] at hlf
            have cle2 := fun o => cell_a1 cle o
            obtain ⟨nx, hnx⟩ : ∃ nx, nx = nextOf xs now i := ⟨_, rfl⟩
            obtain ⟨bm, hbm⟩ : ∃ bm, bm = aheadOf rule xs (lf left) (hereB xs now left) i := ⟨_, rfl⟩
            rw [← hnx] at HSX
            rw [← hnx, ← hbm]
            rw [← hbm] at HAS HAL
            have HXL := HX
            subst haE
            clear hc hat hli hnx hbm cle
            go_upto_region 13 with (fail)
            go_cut [53] (fun v wx => ∃ bb : Bool, v = .bool bb ∧ wr.alloc (Obj.cells #[.int .i64 t, .int .i64 sz, .int .i64 cs] 80) = wx ∧ Hid (bb = true ↔ now < t ∧ (nx < 0 ∨ t < nx)))
            case first =>
              --{
              clear HAS
              by_cases h1 : now < t
              · by_cases h2 : nx < 0
                · go_wp2
                  go_meet
                  case rel => exact ⟨true, rfl, rfl, Lib.hid ⟨fun _ => ⟨h1, Or.inl h2⟩, fun _ => rfl⟩⟩
                · by_cases h3 : t < nx
                  · go_wp2
                    go_meet
                    case rel => exact ⟨true, rfl, rfl, Lib.hid ⟨fun _ => ⟨h1, Or.inr h3⟩, fun _ => rfl⟩⟩
                  · go_wp2
                    go_meet
                    case rel => exact ⟨false, rfl, rfl, Lib.hid ⟨(fun h => nomatch h), fun h => by omega⟩⟩
              · go_wp2
                go_meet
                case rel => exact ⟨false, rfl, rfl, Lib.hid ⟨(fun h => nomatch h), fun h => by omega⟩⟩
              --}
            case rest =>
              obtain ⟨bb, rfl, rfl, HBB⟩ := hcut
              go_upto_if 53 with (fail)
              go_cut [12] (fun v wx => v = .int .i64 (nextOf xs now (i + 1)) ∧ wr.alloc (Obj.cells #[.int .i64 t, .int .i64 sz, .int .i64 cs] 80) = wx)
              case first =>
                --{
                clear HAS
                cases bb
                · have HV := Lib.hid (HSX.out.trans (if_neg (fun h => nomatch HBB.out.2 h)))
                  go_wp2
                  go_meet
                  case rel => exact ⟨by rw [HV.out], rfl⟩
                · have HV := Lib.hid (HSX.out.trans (if_pos (HBB.out.1 rfl)))
                  go_wp2
                  go_meet
                  case rel => exact ⟨by rw [HV.out], rfl⟩
                --}
              case rest =>
                obtain ⟨rfl, rfl⟩ := hcut
                clear HBB HSX
                have HBX : Hid (Below wr.heap.size wr (wr.alloc (Obj.cells #[.int .i64 t, .int .i64 sz, .int .i64 cs] 80))) := Lib.hid ((Below.refl _ _).alloc (Nat.le_refl _) _)
                go_upto_region 15 with (fail)
                go_cut [78] (fun v wx => ∃ bb : Bool, v = .bool bb ∧ Hid (Below wr.heap.size wr wx) ∧ Hid (bb = true ↔ hereB xs now left i = true ∧ ∀ j, bm = some j → goesB rule xs (lf left) i j))
                case first =>
                  --{
                  by_cases h1 : t ≤ now
                  · have d1 : decide (t ≤ now) = true := by simp [h1]
                    by_cases h2 : 0 < li
                    · have d2 : decide (0 < li) = true := by simp [h2]
                      have HHE := Lib.hid (hlf.out.2 ⟨h1, h2⟩)
                      cases hbm : bm with
                      | none =>
                        have hbi : bI none = -1 := rfl
                        subst hbm
                        clear HAS HAL
                        rw [hbi]
                        go_wp2
                        go_meet
                        case rel => exact ⟨true, rfl, HBX, Lib.hid ⟨fun _ => ⟨HHE.out, (fun j hj => nomatch hj)⟩, fun _ => rfl⟩⟩
                      | some j =>
                        have hbi : bI (some j) = (j : Int) := rfl
                        subst hbm
                        have hji : j < i := ((HAL.out).2 j rfl).1
                        have hjk : j < k := by omega
                        have HBT := Lib.hid (fun (w' : World) (hb : Below wr.heap.size wr w') => better_any rule (some ⟨b, o, none⟩) (some ⟨w.heap.size, 0, none⟩) k cap k i j xs left w' HL.out (by rw [HF.out.2.1]; exact HL.out) hlt hjk ((HXL.out.at HRi.out.2.2.1).at hb) ((elems_own HRi.out.1 (by rw [HF.out.2.1]; exact HL.out)).at hb) hn60 (by omega) (by omega))
                        have hj0 : ¬ (j : Int) < 0 := by omega
                        clear HAS HAL hji
                        rw [hbi]
                        go_wp2_with fail
                        refine (HBT.out _ HBX.out).mono ?_
                        rintro e w2 ⟨rfl, hb2⟩
                        have HB3 := Lib.hid (below_next HBX.out hb2)
                        clear HBT hb2
                        have HGO : Hid (decide (goesB rule xs (lf left) i j) = true ↔ goesB rule xs (lf left) i j) := Lib.hid (by simp)
                        generalize decide (goesB rule xs (lf left) i j) = gb at *
                        go_wp2
                        go_meet
                        case rel => exact ⟨gb, by simp, HB3, Lib.hid ⟨fun h => ⟨HHE.out, fun j' hj' => by injection hj' with hj'; rw [← hj']; exact HGO.out.1 h⟩, fun h => HGO.out.2 (h.2 j rfl)⟩⟩
                    · have d2 : decide (0 < li) = false := by simp; omega
                      have HHE : Hid (¬ hereB xs now left i = true) := Lib.hid (fun h => h2 (hlf.out.1 h).2)
                      clear HAS HAL
                      go_wp2
                      go_meet
                      case rel => exact ⟨false, rfl, HBX, Lib.hid ⟨(fun h => nomatch h), fun h => absurd h.1 HHE.out⟩⟩
                  · have d1 : decide (t ≤ now) = false := by simp; omega
                    have HHE : Hid (¬ hereB xs now left i = true) := Lib.hid (fun h => h1 (hlf.out.1 h).1)
                    clear HAS HAL
                    go_wp2
                    go_meet
                    case rel => exact ⟨false, rfl, HBX, Lib.hid ⟨(fun h => nomatch h), fun h => absurd h.1 HHE.out⟩⟩
                  --}
                case rest =>
                  obtain ⟨bb, rfl, HB2, HBB⟩ := hcut
                  have HV := HAS bb HBB.out
                  have HB4 := Lib.hid (below_next HBW.out HB2.out)
                  clear HAS HAL q1 q2 q3 cle2
                  cases bb
                  · have HV2 := Lib.hid (HV.out.trans (if_neg (by decide)))
                    go_wp2
                    exact ⟨⟨i + 1, by omega, by go_num, by rw [HV2.out], rfl, HB4⟩, by simp [intOf]; omega⟩
                  · have HV2 := Lib.hid (HV.out.trans (if_pos rfl))
                    go_wp2
                    exact ⟨⟨i + 1, by omega, by go_num, by rw [HV2.out]; rfl, rfl, HB4⟩, by simp [intOf]; omega⟩
          · obtain rfl : k = i := by omega
            have HRi := Lib.hid (HR.out.next HBW.out)
            clear HR HBW hlt hi
            obtain ⟨wz, hwz⟩ : ∃ wz, wz = wr := ⟨_, rfl⟩
            subst hwz
            obtain ⟨nx, hnx⟩ : ∃ nx, nx = nextOf xs now k := ⟨_, rfl⟩
            obtain ⟨bm, hbm⟩ : ∃ bm, bm = aheadOf rule xs (lf left) (hereB xs now left) k := ⟨_, rfl⟩
            have HNX : Hid (nx = nextOf xs now xs.length) := Lib.hid (by rw [hnx, HL.out])
            have HBM : Hid (bm = aheadOf rule xs (lf left) (hereB xs now left) xs.length) := Lib.hid (by rw [hbm, HL.out])
            rw [← hnx, ← hbm]
            clear hnx hbm
            go_upto_region 18 with (fail)
            go_cut [93] (fun v wx => ∃ bb : Bool, v = .bool bb ∧ wz = wx ∧ Hid (bb = true ↔ 0 ≤ on ∧ 0 < lf left on.toNat ∧ rule ≤ 4))
            case first =>
              --{
              have hon := HF.out.2.2.2.2
              by_cases h1 : 0 ≤ on
              · obtain ⟨q, rfl⟩ := Int.eq_ofNat_of_zero_le h1
                have hqk : q < k := by have := HL.out; omega
                have hql : q < left.length := by have := HF.out.2.1; have := HL.out; omega
                have cq := owns_get HRi.out.1 q hqk hql
                have HLQ : Hid (lf left q = left[q]) := Lib.hid (getD_lt hql)
                have HQN : Hid ((q : Int).toNat = q) := Lib.hid (Int.toNat_natCast q)
                generalize left[q] = lq at *
                clear hon hql
                by_cases h2 : 0 < lq
                · have d2 : decide (0 < lq) = true := by simp [h2]
                  have HP : Hid (0 < lf left (q : Int).toNat) := Lib.hid (by rw [HQN.out, HLQ.out]; exact h2)
                  by_cases h3 : rule ≤ 4
                  · have d3 : decide (rule ≤ 4) = true := by simp [h3]
                    go_wp2
                    go_meet
                    case rel => exact ⟨true, rfl, rfl, Lib.hid ⟨fun _ => ⟨h1, HP.out, h3⟩, fun _ => rfl⟩⟩
                  · have d3 : decide (rule ≤ 4) = false := by simp; omega
                    go_wp2
                    go_meet
                    case rel => exact ⟨false, rfl, rfl, Lib.hid ⟨(fun h => nomatch h), fun h => by omega⟩⟩
                · have d2 : decide (0 < lq) = false := by simp; omega
                  have HP : Hid (¬ 0 < lf left (q : Int).toNat) := Lib.hid (by rw [HQN.out, HLQ.out]; exact h2)
                  go_wp2
                  go_meet
                  case rel => exact ⟨false, rfl, rfl, Lib.hid ⟨(fun h => nomatch h), fun h => by have h3 := h.2.1; have h4 := HP.out; omega⟩⟩
              · clear hon
                go_wp2
                go_meet
                case rel => exact ⟨false, rfl, rfl, Lib.hid ⟨(fun h => nomatch h), fun h => by omega⟩⟩
              --}
            case rest =>
              obtain ⟨bb, rfl, rfl, HBB⟩ := hcut
              go_upto_if 93 with (fail)
              go_cut [11] (fun v wx => v = .int .i64 (bI (bestR xs rule (now, on, left, out))) ∧ wz = wx)
              case first =>
                --{
                cases bb
                · have HV : Hid (bestR xs rule (now, on, left, out) = bm) := Lib.hid (by
                    unfold bestR
                    rw [if_neg (fun h => nomatch HBB.out.2 h), HBM.out])
                  go_wp2
                  go_meet
                  case rel => exact ⟨by rw [HV.out], rfl⟩
                · have HV : Hid (bI (bestR xs rule (now, on, left, out)) = on) := Lib.hid (by
                    have h := HBB.out.1 rfl
                    unfold bestR
                    rw [if_pos h]
                    show ((on.toNat : Nat) : Int) = on
                    have := h.1
                    omega)
                  go_wp2
                  go_meet
                  case rel => exact ⟨by rw [HV.out], rfl⟩
                --}
              case rest =>
                obtain ⟨rfl, rfl⟩ := hcut
                clear HBB HBM
                have HSG : Hid (∀ s', stepR xs rule (now, on, left, out) = some s' → now < s'.1 ∧ s'.1 ≤ 61000000000 ∧ ReachR xs rule s') := Lib.hid (fun s' hs' => by
                  have h1 := step_good HC.out (reach_good HC.out HH.out) hs'
                  have h2 := h1.1.2.2.1
                  have h3 := sum_le _ h2
                  have h4 := h1.1.2.2.2.1
                  exact ⟨h1.2, by omega, reach_step HH.out hs'⟩)
                cases hB : bestR xs rule (now, on, left, out) with
                | none =>
                  have hbi : bI none = -1 := rfl
                  rw [hbi]
                  have hst : stepR xs rule (now, on, left, out) = if nx < 0 then none else some (nx, on, left, out) := by
                    unfold stepR
                    rw [hB, HNX.out]
                  clear hbi
                  by_cases hn0 : nx < 0
                  · have HST := Lib.hid (hst.trans (if_pos hn0))
                    have HEL : Hid (∃ a' c', (Value.slice ao mo co) = .slice a' out.length c' ∧ Elems enc3 3 wz a' out) := Lib.hid (by
                      obtain ⟨a', c', h1, h2, _⟩ := elems_of_owns (enc := enc3) (fun _ => rfl) rfl HRi.out.2.1
                      exact ⟨a', c', h1, h2⟩)
                    clear hst hB
                    go_wp2
                    go_ret
                    obtain ⟨a', c', h3, h4⟩ := HEL.out
                    exact ⟨HRi.out.2.2.1, now, on, left, out, a', c', HH.out, HST.out, by rw [← h3]; rfl, h4⟩
                  · have HST := Lib.hid (HSG.out _ (hst.trans (if_neg hn0)))
                    clear hst hB HSG
                    have hms : (61000000001 - intOf (.int .i64 nx)).toNat < (61000000001 - intOf (.int .i64 now)).toNat := by
                      have h1 := HST.out.1
                      have h2 := HST.out.2.1
                      simp only at h1 h2
                      simp [intOf]; omega
                    have HMS := Lib.hid hms
                    clear hms
                    go_wp2
                    exact ⟨⟨nx, on, left, out, rfl, rfl, HRi.out, HST.out.2.2⟩, HMS.out⟩
                | some b =>
                  have hbi : bI (some b) = (b : Int) := rfl
                  rw [hbi]
                  have hst : stepR xs rule (now, on, left, out) = some (serveR now (toR xs now left b) b left out) := by
                    unfold stepR
                    rw [hB]
                  have HST := Lib.hid (HSG.out _ hst)
                  obtain ⟨hbx, hbp⟩ := bestR_some (reach_good HC.out HH.out) hB
                  simp only at hbp
                  obtain ⟨sv1, sv2⟩ := toR_in (xs := xs) HF.out.1 hbp
                  have hbk : b < k := by have := HL.out; omega
                  have hble : b < left.length := by have := HF.out.2.1; omega
                  obtain ⟨lb, hlb⟩ : ∃ lb, lb = lf left b := ⟨_, rfl⟩
                  have g7 := (owns_get HRi.out.1 b hbk hble).trans (show some (Value.int .i64 left[b]) = some (Value.int .i64 lb) by rw [hlb, ← getD_lt hble]; rfl)
                  have hlbb := HF.out.2.2.1 b
                  have hnow := lf_le_sum left HF.out.2.2.1 b
                  have hns := HF.out.2.2.2.1
                  rw [← hlb] at hbp sv2 hlbb hnow
                  have hwr1 : IntKind.i64.wrap (now + lb) = now + lb := IntWalk.i64_in _ (by have := HF.out.1; omega)
                  have HSV := Lib.hid (And.intro sv1 (And.intro sv2 (And.intro hbp (And.intro hlbb (And.intro HF.out.1 (show now + lb ≤ 61000000000 + 1000000000 by omega))))))
                  have HLB := Lib.hid hlb
                  have hb0 : ¬ (b : Int) < 0 := by omega
                  clear hst hB HSG hlb hbx hbp sv1 sv2 hlbb hnow hns hbi
                  go_upto_region 25 with (fail)
                  go_cut [113] (fun v wx => ∃ bb : Bool, v = .bool bb ∧ wz = wx ∧ Hid (bb = true ↔ 0 ≤ nx ∧ nx < now + lb))
                  case first =>
                    --{
                    by_cases h1 : 0 ≤ nx
                    · by_cases h2 : nx < now + lb
                      · go_wp2
                        go_meet
                        case rel => exact ⟨true, rfl, rfl, Lib.hid ⟨fun _ => ⟨h1, h2⟩, fun _ => rfl⟩⟩
                      · go_wp2
                        go_meet
                        case rel => exact ⟨false, rfl, rfl, Lib.hid ⟨(fun h => nomatch h), fun h => by omega⟩⟩
                    · go_wp2
                      go_meet
                      case rel => exact ⟨false, rfl, rfl, Lib.hid ⟨(fun h => nomatch h), fun h => by omega⟩⟩
                    --}
                  case rest =>
                    obtain ⟨bb, rfl, rfl, HBB⟩ := hcut
                    clear hwr1
                    go_upto_if 113 with (fail)
                    go_cut [15] (fun v wx => v = .int .i64 (toR xs now left b) ∧ wz = wx)
                    case first =>
                      --{
                      cases bb
                      · have HV : Hid (toR xs now left b = now + lb) := Lib.hid (by
                          unfold toR
                          rw [← HNX.out, ← HLB.out, if_neg (fun h => nomatch HBB.out.2 h)])
                        go_wp2
                        go_meet
                        case rel => exact ⟨by rw [HV.out], rfl⟩
                      · have HV : Hid (toR xs now left b = nx) := Lib.hid (by
                          unfold toR
                          rw [← HNX.out, ← HLB.out, if_pos (HBB.out.1 rfl)])
                        go_wp2
                        go_meet
                        case rel => exact ⟨by rw [HV.out], rfl⟩
                      --}
                    case rest =>
                      obtain ⟨rfl, rfl⟩ := hcut
                      obtain ⟨tz, htz⟩ : ∃ tz, tz = toR xs now left b := ⟨_, rfl⟩
                      have hsv := HSV.out
                      rw [← htz] at hsv HST
                      obtain ⟨sv1, sv2, sv3, sv4, sv5, sv6⟩ := hsv
                      rw [← htz]
                      have hw2 : IntKind.i64.wrap (tz - now) = tz - now := IntWalk.i64_in _ (by omega)
                      have hw3 : wrap64 (lb - (tz - now)) = lb - (tz - now) := IntWalk.wrap64_in _ (by omega)
                      obtain ⟨nb, hnb⟩ : ∃ nb, nb = lb - (tz - now) := ⟨_, rfl⟩
                      obtain ⟨dt, hdt⟩ : ∃ dt, dt = tz - now := ⟨_, rfl⟩
                      rw [← hdt] at hw2 hw3 hnb
                      replace hw3 := hw3.trans hnb.symm
                      have HNB : Hid (nb = lf left b - (tz - now)) := Lib.hid (by rw [hnb, hdt, HLB.out])
                      have hdt2 : tz - now = dt := hdt.symm
                      have hms : (61000000001 - intOf (.int .i64 tz)).toNat < (61000000001 - intOf (.int .i64 now)).toNat := by
                        have h1 := HST.out.1
                        have h2 := HST.out.2.1
                        simp only [serveR] at h1 h2
                        simp [intOf]; omega
                      have HMS := Lib.hid hms
                      have HRE : Hid (ReachR xs rule (tz, (b : Int), left.set b nb, addPc out b now tz)) := Lib.hid (by have h := HST.out.2.2; unfold serveR at h; rw [← HNB.out] at h; exact h)
                      obtain ⟨kv, hkv⟩ : ∃ kv, IntKind.i64.wrap ((mo : Int) - 1) = kv := ⟨_, rfl⟩
                      have HW3 := Lib.hid hw3
                      have HW2 := Lib.hid (And.intro hw2 hdt2)
                      clear hms HST sv1 sv2 sv3 sv4 sv5 sv6 hnb hdt hw2 hw3 hdt2 HSV htz
                      go_upto_region 28 with (fail)
                      go_cut [138] (fun v wx => ∃ bb : Bool, v = .bool bb ∧ wz = wx ∧ Hid (bb = true ↔ 0 < out.length ∧ (out.getD (out.length - 1) (0, 0, 0)).1 = (b : Int) ∧ (out.getD (out.length - 1) (0, 0, 0)).2.2 = now))
                      case first =>
                        --{
                        by_cases hm0 : mo = 0
                        · have HN : Hid (¬ 0 < out.length) := Lib.hid (by rw [← HMO.out]; omega)
                          have hd : decide ((0 : Int) < (mo : Int)) = false := by simp [hm0]
                          have hdN : decide (0 < mo) = false := by simp [hm0]
                          clear hkv hm0
                          go_wp2
                          go_meet
                          case rel => exact ⟨false, rfl, rfl, Lib.hid ⟨(fun h => nomatch h), fun h => absurd h.1 HN.out⟩⟩
                        · obtain ⟨q, hq⟩ : ∃ q : Nat, kv = (q : Int) ∧ q + 1 = mo := ⟨mo - 1, by rw [← hkv, IntWalk.i64_in _ (by omega)]; omega, by omega⟩
                          obtain ⟨hq1, hq2⟩ := hq
                          have hql : q < out.length := by rw [← HMO.out]; omega
                          have hrow := HRi.out.2.1
                          rw [← HMO.out] at hrow
                          obtain ⟨gq, cq, hs, _, _⟩ := row_some hrow (by omega)
                          obtain ⟨rfl, _, rfl⟩ := Value.slice.inj hs
                          obtain ⟨r1, r2⟩ := row3_get hrow HMO.out q hql
                          have hge : out.getD (out.length - 1) (0, 0, 0) = out[q] := by
                            rw [← HMO.out, ← hq2]
                            simp [List.getD_eq_getElem?_getD, hql]
                          have HGE : Hid (0 < out.length ∧ (out.getD (out.length - 1) (0, 0, 0)).1 = out[q].1 ∧ (out.getD (out.length - 1) (0, 0, 0)).2.2 = out[q].2.2) := Lib.hid ⟨by omega, by rw [hge], by rw [hge]⟩
                          generalize out[q].1 = p1 at *
                          generalize out[q].2.2 = p2 at *
                          have hqm : q < mo := by omega
                          have hdm : decide ((0 : Int) < (mo : Int)) = true := by simp; omega
                          have hdN : decide (0 < mo) = true := by simp; omega
                          subst hq1
                          clear hm0 hq2 hge hs hrow
                          by_cases h1 : p1 = (b : Int)
                          · have hd1 : (p1 == (b : Int)) = true := by simp [h1]
                            by_cases h2 : p2 = now
                            · have hd2 : (p2 == now) = true := by simp [h2]
                              have HY : Hid (p1 = (b : Int) ∧ p2 = now) := Lib.hid ⟨h1, h2⟩
                              clear h1 h2
                              go_wp2
                              go_meet
                              case rel => exact ⟨true, rfl, rfl, Lib.hid ⟨fun _ => ⟨HGE.out.1, HGE.out.2.1.trans HY.out.1, HGE.out.2.2.trans HY.out.2⟩, fun _ => rfl⟩⟩
                            · have hd2 : (p2 == now) = false := by simp [h2]
                              have HY : Hid (¬ p2 = now) := Lib.hid h2
                              clear h1 h2
                              go_wp2
                              go_meet
                              case rel => exact ⟨false, rfl, rfl, Lib.hid ⟨(fun h => nomatch h), fun h => absurd (HGE.out.2.2.symm.trans h.2.2) HY.out⟩⟩
                          · have hd1 : (p1 == (b : Int)) = false := by simp [h1]
                            have HY : Hid (¬ p1 = (b : Int)) := Lib.hid h1
                            clear h1
                            go_wp2
                            go_meet
                            case rel => exact ⟨false, rfl, rfl, Lib.hid ⟨(fun h => nomatch h), fun h => absurd (HGE.out.2.1.symm.trans h.2.1) HY.out⟩⟩
                        --}
                      case rest =>
                        obtain ⟨bb, rfl, rfl, HCD⟩ := hcut
                        go_upto_if 138 with (fail)
                        go_cut [8] (fun v wx => RefAt w k (w.heap.size + 1) wx left v (addPc out b now tz))
                        case first =>
                          --{
                          cases bb
                          case true =>
                            obtain ⟨y1, y2, y3⟩ := HCD.out.1 rfl
                            have hrow := HRi.out.2.1
                            rw [← HMO.out] at hrow y1
                            obtain ⟨q, hq⟩ : ∃ q : Nat, kv = (q : Int) ∧ q + 1 = mo := ⟨mo - 1, by rw [← hkv, IntWalk.i64_in _ (by omega)]; omega, by omega⟩
                            obtain ⟨hq1, hq2⟩ := hq
                            have hql : q < out.length := by rw [← HMO.out]; omega
                            obtain ⟨gq, cq, hs, _, _⟩ := row_some hrow (by omega)
                            obtain ⟨rfl, _, rfl⟩ := Value.slice.inj hs
                            obtain ⟨r1, r2⟩ := row3_get hrow HMO.out q hql
                            have hfr := hrow.frozenAt (q * 3 + 2)
                            have hset : Hid (addPc out b now tz = out.set q (out[q].1, out[q].2.1, tz)) := Lib.hid (by
                              have hge : out.getD (out.length - 1) (0, 0, 0) = out[q] := by
                                rw [← HMO.out, ← hq2]
                                simp [List.getD_eq_getElem?_getD, hql]
                              unfold addPc
                              rw [if_pos ⟨by omega, y2, y3⟩, hge, ← HMO.out, ← hq2]
                              rfl)
                            have hqm : q < mo := by omega
                            have H6 := HRi.out.setTo (Nat.lt_succ_self _) q tz hql
                            rw [← hset.out] at H6
                            have HR6 := Lib.hid H6
                            subst hq1
                            clear y1 y2 y3 hq2 hs hrow H6
                            go_wp2
                            go_meet
                            case rel => exact HR6.out
                          case false =>
                            have hset : Hid (addPc out b now tz = out ++ [((b : Int), now, tz)]) := Lib.hid (by
                              unfold addPc
                              rw [if_neg (fun h => nomatch HCD.out.2 h)])
                            have hwr := HRi.out.2.1
                            rw [← HMO.out] at hwr
                            have hBw := HRi.out.2.2.2
                            have e1 : mo + 1 ≤ maxLen := by unfold maxLen; omega
                            have e2 : (mo + 1) * 24 ≤ 140737488355328 := by omega
                            go_wp2_with (at_builtin; (refine app_row2 rowPr rfl _ _ rfl (w.heap.size + 1) rfl hwr (enc3 ((b : Int), now, tz)) rfl (by first | rfl | simp) rfl (enc3_one _) e1 e2 hBw ?_))
                            intro v' w3 hown3 hg3 hv3
                            have H6 : RefAt w k (w.heap.size + 1) w3 left v' (addPc out b now tz) := HRi.out.putOut (Nat.lt_succ_self _) hg3 (by
                              rw [hset.out, List.length_append, ← HMO.out, List.flatMap_append]
                              simpa using hown3)
                            have HR6 := Lib.hid H6
                            clear hown3 hg3 hv3 H6 hwr
                            go_wp2
                            go_meet
                            case rel => exact HR6.out
                          --}
                        case rest =>
                          have HR6 := Lib.hid hcut
                          obtain ⟨wk, hwk⟩ : ∃ wk, wk = wc := ⟨_, rfl⟩
                          subst hwk
                          clear hcut HRi HCD g7 hkv
                          have g8 := (owns_get HR6.out.1 b hbk hble).trans (show some (Value.int .i64 left[b]) = some (Value.int .i64 lb) by rw [HLB.out, ← getD_lt hble]; rfl)
                          have hfz := HR6.out.1.frozenAt b
                          obtain ⟨hw2, hdt2⟩ := HW2.out
                          have hw3 := HW3.out
                          have HR7 := Lib.hid (HR6.out.setLeft (Nat.lt_succ_self _) b nb)
                          clear HR6
                          go_wp2
                          exact ⟨⟨tz, b, left.set b nb, addPc out b now tz, rfl, rfl, HR7.out, HRE⟩, HMS.out⟩
end Go.Proofs.YtannijeiecmjpaaDoor
