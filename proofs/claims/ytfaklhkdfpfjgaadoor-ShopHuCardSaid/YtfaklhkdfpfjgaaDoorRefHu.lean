/- The reference's Hu (10.3): levels, then time by time the best of those that may be taken. -/
import Derived.Test.YtfaklhkdfpfjgaaDoorHuM
import Derived.Test.YtfaklhkdfpfjgaaDoorAppI
import Derived.Test.YtfaklhkdfpfjgaaDoorTabN
import Derived.Test.YtfaklhkdfpfjgaaDoorTell
import Derived.BigQuiet
namespace Go.Proofs.YtfaklhkdfpfjgaaDoor
open Go.RowKit

def HuPost (next : List Int) (m : Int) (w : World) (e : Ending) (w' : World) : Prop :=
  Below w.heap.size w w' ∧ ((huErr next m ≠ 0 ∧ e = .returned (.tuple #[.slice none 0 0, .int .i64 (huErr next m)])) ∨
    (huErr next m = 0 ∧ ∃ T a cap, EndsAt next m.toNat T ∧ e = .returned (.tuple #[.slice a next.length cap, .int .i64 0]) ∧ Elems encI 1 w' a (seqM next m.toNat T)))
def lvl (next : List Int) (i : Nat) : Int := (levelM next (i : Int) : Int)
theorem tabN_snoc (f : Nat → Int) (k : Nat) : tabN k f ++ [f k] = tabN (k + 1) f := by simp [tabN, List.range_succ]
theorem huErr_bad {next : List Int} {m : Int} (h : ¬ (m < 1 ∨ 20 < m ∨ 60 < next.length)) {k : Nat} (hk : k < next.length) (hb : next[k] < -1 ∨ (next.length : Int) ≤ next[k]) : huErr next m = 2 := by
  unfold huErr
  rw [if_neg h, if_pos (List.any_eq_true.2 ⟨_, List.getElem_mem hk, by simp only [badH, Bool.or_eq_true, decide_eq_true_eq]; exact hb⟩)]
theorem huErr_round {next : List Int} {m : Int} (h : ¬ (m < 1 ∨ 20 < m ∨ 60 < next.length)) (hq : next.any (badH next.length) = false) {k : Nat} (hk : k < next.length) (hb : next.length < levelM next k) : huErr next m = 12 := by
  unfold huErr
  rw [if_neg h, if_neg (by rw [hq]; simp), if_pos (List.any_eq_true.2 ⟨k, List.mem_range.2 hk, by simpa using hb⟩)]
theorem huErr_none {next : List Int} {m : Int} (h : ¬ (m < 1 ∨ 20 < m ∨ 60 < next.length)) (hq : next.any (badH next.length) = false) (hl : ∀ k : Nat, k < next.length → levelM next k ≤ next.length) : huErr next m = 0 := by
  unfold huErr
  rw [if_neg h, if_neg (by rw [hq]; simp), if_neg]
  intro hx
  obtain ⟨k, hk, hv⟩ := List.any_eq_true.1 hx
  have := hl k (List.mem_range.1 hk)
  simp at hv
  omega
theorem nobad {next : List Int} (hq : next.any (badH next.length) = false) : ∀ x ∈ next, -1 ≤ x ∧ x < next.length := by
  intro x hx
  have h4 : badH next.length x = false := by
    cases h5 : badH next.length x with
    | false => rfl
    | true => rw [List.any_eq_true.2 ⟨x, hx, h5⟩] at hq; cases hq
  simp only [badH, Bool.or_eq_false_iff, decide_eq_false_iff_not] at h4
  omega
theorem any_takeH {next : List Int} {k : Nat} (h : k < next.length) (hq : (next.take k).any (badH next.length) = false) (hk : ¬ (next[k] < -1 ∨ (next.length : Int) ≤ next[k])) : (next.take (k + 1)).any (badH next.length) = false := by
  rw [List.take_succ_eq_append_getElem h, List.any_append, hq]
  simp [badH]
  omega
theorem elems_far {α : Type} {enc : α → List Value} {k : Nat} {w w' : World} {a : Option Addr} {xs : List α} {g : Nat} (h : Elems enc k w a xs) (hg : w.grownBy w' (some g)) (hne : ∀ p : Addr, a = some p → p.block ≠ g) : Elems enc k w' a xs := by
  rcases h with rfl | ⟨b, o, rfl, h⟩
  · exact Or.inl rfl
  · refine Or.inr ⟨b, o, rfl, fun j hj i u hu => ?_⟩
    have h1 := h j hj i u hu
    rw [hg.cell_far _ (lt_of_cell h1) (by simp; exact hne _ rfl)]
    exact h1
theorem grown_two {w w' w'' : World} {row : Option Nat} (h : w.grownBy w' row) (k : w'.grownBy w'' row) : w.grownBy w'' row :=
  ⟨k.os.trans h.os, k.tape.trans h.tape, k.output.trans h.output, Nat.le_trans h.size k.size, fun j hj hne => (k.block j (Nat.lt_of_lt_of_le hj h.size) hne).trans (h.block j hj hne)⟩
theorem grown_drewN {w w' : World} {row : Option Nat} (h : w.grownBy w' row) (n : Nat) : w.grownBy (w'.drewN n) row := ⟨h.os, h.tape, h.output, h.size, h.block⟩
theorem owned_ints {w : World} {base g n : Nat} {D : List Int} (hD : D.length = n) (h : w.ownsRow base 3 1 (.slice (some ⟨g, 0, none⟩) n n) n (D.map (Value.int .i64))) : Elems encI 1 w (some ⟨g, 0, none⟩) D := by
  obtain ⟨a, c, hv, he, _⟩ := ints_of_owns hD.symm h
  obtain ⟨h1, _, _⟩ := Value.slice.inj hv
  rw [h1]; exact he
theorem ends_bd {next : List Int} {m : Nat} (hm : 1 ≤ m) (hl : ∀ k : Nat, k < next.length → levelM next k ≤ next.length) {T : Nat} (h : EndsAt next m T) : T ≤ next.length := by
  have key : ∀ t, t ≤ T → leftM next.length (seqM next m t) + t ≤ next.length := by
    intro t
    induction t with
    | zero => intro _; have := left_le next.length (seqM next m 0); omega
    | succ t ih =>
      intro ht
      have h1 := ih (by omega)
      have h2 := round_less hm hl (h.2 t (by omega))
      omega
  have := key T (Nat.le_refl _)
  omega
theorem undone_at {D : List Int} {k : Nat} (h : k < D.length) : undone D (k : Int) = decide (D[k] < 0) := by
  unfold undone
  rw [Int.toNat_natCast, getD_lt h]
theorem seq_zero (next : List Int) (m : Nat) : seqM next m 0 = tabN next.length (fun _ => -1) := tabN_same _ _
theorem ends_at {next : List Int} {m T t : Nat} (h : EndsAt next m T) (ht : t ≤ T) (h0 : leftM next.length (seqM next m t) = 0) : t = T := by
  rcases Nat.lt_or_ge t T with g | g
  · exact absurd h0 (h.2 t g)
  · omega
theorem pick_one (lt : Int → Int → Bool) (now : Int) (M : List Int) (m : Nat) (D : List Int) (b : Int) (hb : bestF lt (undone D) (-1) M = b) : pickM lt now M (m + 1) D = pickM lt now M m (if b < 0 then D else D.set b.toNat now) := by
  rw [pickM, hb]
theorem best_drop {lt : Int → Int → Bool} {ok : Int → Bool} {M : List Int} {p : Nat} (h : p < M.length) (b : Int) : bestF lt ok b (M.drop p) = bestF lt ok (if ok M[p] = true ∧ (b < 0 ∨ lt M[p] b = true) then M[p] else b) (M.drop (p + 1)) := by
  rw [List.drop_eq_getElem_cons h, bestF]
set_option maxRecDepth 100000 in
set_option maxHeartbeats 16000000 in
theorem refHu_any (a : Option Addr) (n cap : Nat) (m : Int) (next : List Int) (w : World) (hl : n = next.length) (hn : next.length ≤ 100) (hx : Elems encI 1 w a next) :
    Calls Tryd.prog 35 #[.slice a n cap, .int .i64 m] w (HuPost next m w) := by
  subst hl
  by_cases h1 : m < 1 ∨ 20 < m ∨ 60 < next.length
  · have HR : Hid (huErr next m = 4) := Lib.hid (if_pos h1)
    by_cases g1 : m < 1
    · clear h1
      go_enter Tryd.func35, Tryd.ntmps35
      go_wp2
      go_ret2
      exact ⟨Below.refl _ _, Or.inl ⟨by rw [HR.out]; decide, by rw [HR.out]; rfl⟩⟩
    · by_cases g2 : 20 < m
      · clear h1
        go_enter Tryd.func35, Tryd.ntmps35
        go_wp2
        go_ret2
        exact ⟨Below.refl _ _, Or.inl ⟨by rw [HR.out]; decide, by rw [HR.out]; rfl⟩⟩
      · have g3 : (60 : Int) < (next.length : Int) := by omega
        have hd : decide ((60 : Int) < (next.length : Int)) = true := by simp; omega
        clear h1
        go_enter Tryd.func35, Tryd.ntmps35
        go_wp2
        go_ret2
        exact ⟨Below.refl _ _, Or.inl ⟨by rw [HR.out]; decide, by rw [HR.out]; rfl⟩⟩
  have H1 := Lib.hid h1
  have g1 : ¬ m < 1 := by omega
  have g2 : ¬ 20 < m := by omega
  have g3 : next.length ≤ 60 := by omega
  have hd : decide ((60 : Int) < (next.length : Int)) = false := by simp; omega
  have HX := Lib.hid hx
  clear h1 hx
  go_enter Tryd.func35, Tryd.ntmps35
  go_wp2
  clear hd
  go_loop [36] (fun i => ∃ k : Nat, k ≤ next.length ∧ i = .int .i64 k ∧ Hid ((next.take k).any (badH next.length) = false)) (fun i => next.length - (intOf i).toNat)
  case atStart => exact ⟨0, by omega, rfl, Lib.hid (by simp)⟩
  case round =>
    obtain ⟨k, hk, rfl, HQ⟩ := hrel
    by_cases hlt : k < next.length
    · obtain ⟨b, o, rfl, hc⟩ := HX.out.some hlt
      have c1 := hc k hlt 0 _ rfl
      simp only [Nat.add_zero, Nat.mul_one] at c1
      clear hc
      by_cases b1 : next[k] < -1 ∨ (next.length : Int) ≤ next[k]
      · have HE : Hid (huErr next m = 2) := Lib.hid (huErr_bad H1.out hlt b1)
        generalize next[k] = xv at *
        rcases b1 with b1 | b1
        · go_wp2
          go_ret2
          exact ⟨Below.refl _ _, Or.inl ⟨by rw [HE.out]; decide, by rw [HE.out]; rfl⟩⟩
        · have b2 : ¬ xv < -1 := by omega
          go_wp2
          go_ret2
          exact ⟨Below.refl _ _, Or.inl ⟨by rw [HE.out]; decide, by rw [HE.out]; rfl⟩⟩
      · have HT : Hid ((next.take (k + 1)).any (badH next.length) = false) := Lib.hid (any_takeH hlt HQ.out b1)
        generalize next[k] = xv at *
        have b2 : ¬ xv < -1 := by omega
        have b3 : ¬ (next.length : Int) ≤ xv := by omega
        clear b1
        go_wp2
        go_round
        case rel => exact ⟨k + 1, by omega, by go_num, HT⟩
        case measure => simp [intOf]; omega
    · obtain rfl : k = next.length := by omega
      have HNB : Hid (next.any (badH next.length) = false) := Lib.hid (by have h := HQ.out; rw [List.take_length] at h; exact h)
      have HNX := Lib.hid (nobad HNB.out)
      clear HQ
      go_wp2
      go_loopw [8, 51] (fun lv iv wr => ∃ (k : Nat) (v : Value), k ≤ next.length ∧ iv = .int .i64 k ∧ v = lv ∧ wr.ownsRow w.heap.size 3 1 v k ((tabN k (lvl next)).map (Value.int .i64)) ∧ Hid (∀ i, i < k → levelM next (i : Int) ≤ next.length) ∧ Hid (Below w.heap.size w wr)) (fun _ iv _ => next.length - (intOf iv).toNat)
      case atStart => exact ⟨0, _, by omega, rfl, rfl, World.ownsRow_nil _ _ _ _, Lib.hid (fun i hi => by omega), Lib.hid (Below.refl _ _)⟩
      case round =>
        obtain ⟨k, v, hk, rfl, rfl, hown, HLV, HB⟩ := hrel
        by_cases hlt : k < next.length
        · obtain ⟨b, o, rfl, hc⟩ := (HX.out.at HB.out).some hlt
          have HC := Lib.hid hc
          have hst : Hid (chainM next (next.length + 1 - 0) (k : Int) + 0 = levelM next (k : Int)) := Lib.hid (by simp [levelM])
          obtain ⟨wo, hwo⟩ : ∃ wo : World, wo = wr := ⟨_, rfl⟩
          have HWO := Lib.hid hwo
          have HOWN := Lib.hid hown
          rw [← hwo]
          clear hc hwo hown
          go_wp2
          go_loopw [10, 11] (fun cv jv wr => ∃ (c : Nat) (j : Int), cv = .int .i64 c ∧ jv = .int .i64 j ∧ c ≤ next.length ∧ j < next.length ∧ Hid (chainM next (next.length + 1 - c) j + c = levelM next (k : Int)) ∧ wr = wo) (fun cv _ _ => next.length + 1 - (intOf cv).toNat)
          case atStart => exact ⟨0, k, rfl, rfl, by omega, by omega, hst, rfl⟩
          case round =>
            clear hst
            obtain ⟨c, j, rfl, rfl, hc, hj, HS, rfl⟩ := hrel
            by_cases hj0 : 0 ≤ j
            · obtain ⟨q, rfl⟩ := Int.eq_ofNat_of_zero_le hj0
              have hq : q < next.length := by omega
              by_cases hcn : c = next.length
              · have HE : Hid (huErr next m = 12) := Lib.hid (huErr_round H1.out HNB.out hlt (by
                  have h := HS.out
                  rw [hcn, show next.length + 1 - next.length = 0 + 1 by omega, chain_go (by omega)] at h
                  omega))
                have hcd : (next.length : Int) < (c : Int) + 1 := by omega
                go_wp2
                go_ret2
                exact ⟨by rw [HWO.out]; exact HB.out, Or.inl ⟨by rw [HE.out]; decide, by rw [HE.out]; rfl⟩⟩
              · have c1 := HC.out q hq 0 _ rfl
                simp only [Nat.add_zero, Nat.mul_one] at c1
                rw [← HWO.out] at c1
                have hnb := HNX.out _ (List.getElem_mem hq)
                have HS2 : Hid (chainM next (next.length + 1 - (c + 1)) next[q] + (c + 1) = levelM next (k : Int)) := Lib.hid (by
                  have h := HS.out
                  rw [show next.length + 1 - c = (next.length + 1 - (c + 1)) + 1 by omega, chain_go (by omega), Int.toNat_natCast, getD_lt hq] at h
                  omega)
                have hcd : ¬ (next.length : Int) < (c : Int) + 1 := by omega
                clear HS
                generalize next[q] = xv at *
                obtain ⟨hn1, hn2⟩ := hnb
                go_wp2
                exact ⟨⟨c + 1, xv, by go_num, rfl, by omega, by omega, HS2, by first | rfl | trivial⟩, by simp [intOf]; omega⟩
            · have hlv : levelM next (k : Int) = c := by
                have h := HS.out
                rw [chain_end (by omega)] at h
                omega
              have HV : Hid (lvl next k = (c : Int)) := Lib.hid (by unfold lvl; rw [hlv])
              have HLV2 : Hid (∀ i, i < k + 1 → levelM next (i : Int) ≤ next.length) := Lib.hid (fun i hi => by
                by_cases h : i = k
                · rw [h, hlv]; exact hc
                · exact HLV.out i (by omega))
              have hown := HOWN.out
              rw [← HWO.out] at hown
              have hsz : w.heap.size ≤ wr.heap.size := by rw [HWO.out]; exact HB.out.size
              have HBW : Hid (Below w.heap.size w wr) := Lib.hid (by rw [HWO.out]; exact HB.out)
              clear HS HOWN HWO HB hlv
              go_wp2_with (at_builtin; (refine app_row rowAI rfl _ _ rfl w.heap.size rfl hown [.int .i64 c] rfl (by first | rfl | simp) rfl (encI_one _) (by unfold maxLen; omega) (by omega) hsz ?_))
              intro v3 w3 hown3 hb3
              rw [show (tabN k (lvl next)).map (Value.int .i64) ++ [.int .i64 (c : Int)] = (tabN (k + 1) (lvl next)).map (Value.int .i64) by rw [← tabN_snoc, List.map_append, HV.out]; rfl] at hown3
              have HB3 : Hid (Below w.heap.size w w3) := Lib.hid (HBW.out.trans hb3)
              clear hb3 hown HBW
              go_wp2
              exact ⟨⟨k + 1, v3, by omega, by go_num, rfl, hown3, HLV2, HB3⟩, by simp [intOf]; omega⟩
        · obtain rfl : k = next.length := by omega
          have HE : Hid (huErr next m = 0) := Lib.hid (huErr_none H1.out HNB.out HLV.out)
          obtain ⟨mN, hmN⟩ := Int.eq_ofNat_of_zero_le (show 0 ≤ m by omega)
          subst hmN
          obtain ⟨T, hT⟩ := ends_exists (next := next) (m := mN) (by omega) HLV.out
          have HT := Lib.hid hT
          have hT60 : T ≤ 60 := by have := ends_bd (by omega) HLV.out hT; omega
          obtain ⟨al, cl, rfl, hel, _⟩ := ints_of_owns (tabN_len _ _).symm hown
          rw [tabN_len]
          have HEL := Lib.hid hel
          have HBW := Lib.hid HB.out
          obtain ⟨g, hg⟩ : ∃ g, g = wr.heap.size := ⟨_, rfl⟩
          have HGG := Lib.hid hg
          have HWG : Hid (w.heap.size ≤ g) := Lib.hid (by rw [hg]; exact HB.out.size)
          clear hT hown hel hg HLV
          go_wp2_with (at_make; refine make_row _ rowAI rfl _ _ rfl g _ _ _ _ next.length rfl rfl rfl rfl (by omega) (by unfold maxLen; omega) (Nat.le_of_eq HGG.out) ?_)
          intro w4 hown4 hb4
          rw [made_ints, tabN_same, ← HGG.out] at hown4
          rw [← HGG.out]
          have HLV : Hid (∀ w', Below g w4 w' → Elems encI 1 w' al (tabN next.length (lvl next))) := Lib.hid (fun w' h => HEL.out.below (hb4.trans h) (Nat.le_of_eq HGG.out.symm))
          have HB4 : Hid (Below w.heap.size w w4) := Lib.hid (HBW.out.trans (hb4.mono HWG.out))
          have HO4 : Hid (w4.ownsRow g 3 1 (.slice (some ⟨g, 0, none⟩) next.length next.length) next.length ((tabN next.length (fun x => if x < 0 then -1 else 0)).map (Value.int .i64))) := Lib.hid (by simpa using hown4)
          have HX4 : Hid (∀ w', Below g w4 w' → Elems encI 1 w' a next) := Lib.hid (fun w' h => HX.out.at (HB4.out.trans (h.mono HWG.out)))
          clear hb4 hown4 HEL HBW HB
          go_wp2
          go_loopw [77] (fun iv wr2 => ∃ k : Nat, k ≤ next.length ∧ iv = .int .i64 k ∧ wr2.ownsRow g 3 1 (.slice (some ⟨g, 0, none⟩) next.length next.length) next.length ((tabN next.length (fun x => if x < k then -1 else 0)).map (Value.int .i64)) ∧ Hid (Below g w4 wr2)) (fun iv _ => next.length - (intOf iv).toNat)
          case atStart => exact ⟨0, by omega, rfl, HO4.out, Lib.hid (Below.refl _ _)⟩
          case round =>
            clear HO4
            obtain ⟨k, hk, rfl, hO, HB⟩ := hrel
            by_cases hlt : k < next.length
            · have c1 := tabN_at hO (j := k) hlt
              have f1 := hO.frozenAt k
              have HO2 := Lib.hid (tabN_put (f' := fun x => if x < k + 1 then -1 else 0) hO k (-1) (fun x _ => by
                by_cases hx : x = k
                · rw [if_pos hx, if_pos (by omega)]
                · rw [if_neg hx]
                  by_cases hx2 : x < k
                  · rw [if_pos hx2, if_pos (by omega)]
                  · rw [if_neg hx2, if_neg (by omega)]))
              have HB2 : Hid (Below g w4 (wr.setCell ⟨g, k, none⟩ (.int .i64 (-1)))) := Lib.hid (HB.out.setCell (p := ⟨g, k, none⟩) (Nat.le_refl _) _)
              clear hO HB
              go_wp2
              exact ⟨⟨k + 1, by omega, by go_num, HO2.out, HB2⟩, by simp [intOf]; omega⟩
            · obtain rfl : k = next.length := by omega
              have HO2 : Hid (wr.ownsRow g 3 1 (.slice (some ⟨g, 0, none⟩) next.length next.length) next.length ((seqM next mN 0).map (Value.int .i64))) := Lib.hid (by
                rw [seq_zero, tabN_congr (g := fun x => if x < next.length then -1 else 0) (fun x hx => by rw [if_pos hx])]
                exact hO)
              clear hO
              go_wp2
              go_loopw [14] (fun nv wr2 => ∃ t : Nat, t ≤ T ∧ nv = .int .i64 t ∧ wr2.ownsRow g 3 1 (.slice (some ⟨g, 0, none⟩) next.length next.length) next.length ((seqM next mN t).map (Value.int .i64)) ∧ Hid (Below g w4 wr2)) (fun nv _ => T - (intOf nv).toNat)
              case atStart => exact ⟨0, by omega, rfl, HO2.out, HB⟩
              case round =>
                clear HO2 HB
                obtain ⟨t, htT, rfl, hO, HB⟩ := hrel
                obtain ⟨D, hD⟩ : ∃ D, D = seqM next mN t := ⟨_, rfl⟩
                rw [← hD] at hO
                have lD : D.length = next.length := by rw [hD, seq_len]
                have HD := Lib.hid hD
                have HO := Lib.hid hO
                obtain ⟨wo, hwo⟩ : ∃ wo : World, wo = wr := ⟨_, rfl⟩
                have HWO := Lib.hid hwo
                obtain ⟨H, hH⟩ : ∃ H, H = wr.heap.size := ⟨_, rfl⟩
                have HH : Hid (H = wo.heap.size) := Lib.hid (by rw [hwo]; exact hH)
                have HGH : Hid (g < H) := Lib.hid (by rw [hH]; exact (owns_base hO).2)
                rw [← hwo] at HO HB ⊢
                clear hD hO hwo hH
                go_wp2
                go_loopw [15, 16, 88] (fun fv mv kv wr2 => ∃ (k : Nat) (b : Bool) (v : Value), k ≤ next.length ∧ kv = .int .i64 k ∧ fv = .bool b ∧ v = mv ∧ Hid (b = someK D k) ∧ wr2.ownsRow H 3 1 v (mayK next D k).length ((mayK next D k).map (Value.int .i64)) ∧ Hid (Below H wo wr2)) (fun _ _ kv _ => next.length - (intOf kv).toNat)
                case atStart => exact ⟨0, false, _, by omega, rfl, rfl, rfl, Lib.hid rfl, World.ownsRow_nil _ _ _ _, Lib.hid (Below.refl _ _)⟩
                case round =>
                  clear HWO
                  obtain ⟨k, b, v, hk, rfl, rfl, rfl, HBK, hown, HBH⟩ := hrel
                  have hO := owns_below HO.out HBH.out (fun q hq => by simp [Value.ownBlock] at hq; have := HGH.out; omega)
                  have HBG : Hid (Below g w4 wr) := Lib.hid (HB.out.trans (HBH.out.mono (Nat.le_of_lt HGH.out)))
                  by_cases hlt : k < next.length
                  · have c1 := owns_get hO k hlt (by omega)
                    have hud := undone_at (D := D) (k := k) (by omega)
                    by_cases hu : D[k] < 0
                    · have HU : Hid (undone D (k : Int) = true) := Lib.hid (by rw [hud]; simpa using hu)
                      have HSK : Hid (true = someK D (k + 1)) := Lib.hid (by rw [someK_succ, HU.out, Bool.or_true])
                      have hnn : ¬ 0 ≤ D[k] := by omega
                      have HOWN := Lib.hid hown
                      have HOO := Lib.hid hO
                      obtain ⟨wi, hwi⟩ : ∃ wi : World, wi = wr := ⟨_, rfl⟩
                      have HWI := Lib.hid hwi
                      rw [← hwi] at c1 ⊢
                      clear hwi hown hO hud hu
                      generalize D[k] = dk at *
                      go_wp2
                      go_loopw [18, 98] (fun ov qv wr3 => ∃ (q : Nat) (b2 : Bool), q ≤ next.length ∧ qv = .int .i64 q ∧ ov = .bool b2 ∧ Hid (b2 = aheadK next D k q) ∧ wr3 = wi) (fun _ qv _ => next.length - (intOf qv).toNat)
                      case atStart => exact ⟨0, true, by omega, rfl, rfl, Lib.hid rfl, rfl⟩
                      case round =>
                        obtain ⟨q, b2, hq, rfl, rfl, HA, rfl⟩ := hrel
                        by_cases hqn : q < next.length
                        · obtain ⟨bx, ox, rfl, hcx⟩ := (HX4.out _ HBG.out).some hqn
                          have c2 := hcx q hqn 0 _ rfl
                          simp only [Nat.add_zero, Nat.mul_one] at c2
                          rw [← HWI.out] at c2
                          have c3 := owns_get HOO.out q hqn (by omega)
                          rw [← HWI.out] at c3
                          have hsu := aheadK_succ next D k q
                          rw [getD_lt hqn, undone_at (D := D) (k := q) (by omega)] at hsu
                          clear hcx c1
                          cases b2 with
                          | false =>
                            have HA2 : Hid (false = aheadK next D k (q + 1)) := Lib.hid (by rw [hsu, ← HA.out]; rfl)
                            clear hsu
                            go_wp2
                            exact ⟨⟨q + 1, false, by omega, by go_num, rfl, HA2, by first | rfl | trivial⟩, by simp [intOf]; omega⟩
                          | true =>
                            by_cases hxk : next[q] = (k : Int)
                            · by_cases hdq : D[q] < 0
                              · have HA2 : Hid (false = aheadK next D k (q + 1)) := Lib.hid (by rw [hsu, ← HA.out, hxk]; simp [hdq])
                                have hne : (next[q] != (k : Int)) = false := by rw [hxk]; simp
                                have hdn : ¬ 0 ≤ D[q] := by omega
                                rw [hxk] at c2
                                clear hsu hxk hne
                                generalize D[q] = dq at *
                                go_wp2
                                exact ⟨⟨q + 1, false, by omega, by go_num, rfl, HA2, by first | rfl | trivial⟩, by simp [intOf]; omega⟩
                              · have HA2 : Hid (true = aheadK next D k (q + 1)) := Lib.hid (by rw [hsu, ← HA.out]; simp [hdq])
                                have hdn : 0 ≤ D[q] := by omega
                                rw [hxk] at c2
                                clear hsu hxk
                                generalize D[q] = dq at *
                                go_wp2
                                exact ⟨⟨q + 1, true, by omega, by go_num, rfl, HA2, by first | rfl | trivial⟩, by simp [intOf]; omega⟩
                            · have HA2 : Hid (true = aheadK next D k (q + 1)) := Lib.hid (by rw [hsu, ← HA.out]; simp [hxk])
                              have hne : (next[q] == (k : Int)) = false := beq_eq_false_iff_ne.2 hxk
                              clear hsu
                              generalize next[q] = nq at *
                              go_wp2
                              exact ⟨⟨q + 1, true, by omega, by go_num, rfl, HA2, by first | rfl | trivial⟩, by simp [intOf]; omega⟩
                        · obtain rfl : q = next.length := by omega
                          have hmo : mayOk next D k = b2 := by rw [may_ahead, HU.out, Bool.true_and]; exact HA.out.symm
                          have hms := mayK_succ next D k
                          have hml := mayK_len next D k
                          have hown := HOWN.out
                          rw [← HWI.out] at hown
                          have HBW : Hid (Below H wo wr) := Lib.hid (by rw [HWI.out]; exact HBH.out)
                          have hsz : H ≤ wr.heap.size := Nat.le_trans (Nat.le_of_eq HH.out) HBW.out.size
                          clear c1
                          cases b2 with
                          | false =>
                            have HOW : Hid (wr.ownsRow H 3 1 v (mayK next D (k + 1)).length ((mayK next D (k + 1)).map (Value.int .i64))) := Lib.hid (by
                              rw [hms, hmo]; simpa using hown)
                            clear hown hms hmo HA
                            go_wp2
                            exact ⟨⟨k + 1, true, v, by omega, by go_num, rfl, rfl, HSK, HOW.out, HBW⟩, by simp [intOf]; omega⟩
                          | true =>
                            go_wp2_with (at_builtin; (refine app_row rowAI rfl _ _ rfl H rfl hown [.int .i64 k] rfl (by first | rfl | simp) rfl (encI_one _) (by unfold maxLen; omega) (by omega) hsz ?_))
                            intro v3 w5 hown3 hb3
                            have HOW : Hid (w5.ownsRow H 3 1 v3 (mayK next D (k + 1)).length ((mayK next D (k + 1)).map (Value.int .i64))) := Lib.hid (by
                              rw [hms, hmo, if_pos rfl, List.length_append, List.map_append]; exact hown3)
                            have HBW2 : Hid (Below H wo w5) := Lib.hid (HBW.out.trans hb3)
                            clear hown hms hmo HA hown3 hb3
                            go_wp2
                            exact ⟨⟨k + 1, true, v3, by omega, by go_num, rfl, rfl, HSK, HOW.out, HBW2⟩, by simp [intOf]; omega⟩
                    · have HSK : Hid (b = someK D (k + 1)) := Lib.hid (by rw [someK_succ, hud, HBK.out]; simp [hu])
                      have HOW : Hid (wr.ownsRow H 3 1 v (mayK next D (k + 1)).length ((mayK next D (k + 1)).map (Value.int .i64))) := Lib.hid (by
                        rw [mayK_succ, may_ahead, hud]; simpa [hu] using hown)
                      have hnn : 0 ≤ D[k] := by omega
                      clear hown hO hud hu
                      generalize D[k] = dk at *
                      go_wp2
                      exact ⟨⟨k + 1, b, v, by omega, by go_num, rfl, rfl, HSK, HOW.out, HBH⟩, by simp [intOf]; omega⟩
                  · obtain rfl : k = next.length := by omega
                    have hbl : b = decide (leftM next.length D ≠ 0) := by rw [HBK.out, some_left]
                    obtain ⟨am, cm, rfl, hem, _⟩ := ints_of_owns rfl hown
                    by_cases hl0 : leftM next.length D = 0
                    · have hbf : b = false := by rw [hbl]; simp [hl0]
                      have htT' : t = T := ends_at HT.out htT (by rw [← HD.out]; exact hl0)
                      have HEX : Hid (Elems encI 1 wr (some ⟨g, 0, none⟩) (seqM next mN T)) := Lib.hid (by rw [← htT', ← HD.out]; exact owned_ints lD hO)
                      subst hbf
                      clear hO hown hem hbl HBK hl0 htT' lD
                      go_wp2
                      go_ret2
                      exact ⟨HB4.out.trans (HBG.out.mono HWG.out), Or.inr ⟨HE.out, T, _, _, by rw [Int.toNat_natCast]; exact HT.out, rfl, by rw [Int.toNat_natCast]; exact HEX.out⟩⟩
                    · have hbt : b = true := by rw [hbl]; simp [hl0]
                      have htl : t < T := by
                        rcases Nat.lt_or_ge t T with h | h
                        · exact h
                        · have : t = T := by omega
                          exact absurd (by rw [HD.out, this]; exact HT.out.1) hl0
                      subst hbt
                      obtain ⟨M, hM⟩ : ∃ M, M = mayK next D next.length := ⟨_, rfl⟩
                      rw [← hM] at hem hown ⊢
                      have hMl : M.length ≤ next.length := by rw [hM]; exact mayK_len next D next.length
                      have HMI : Hid (∀ x ∈ M, 0 ≤ x ∧ x < next.length) := Lib.hid (fun x hx => by
                        rw [hM] at hx
                        have := may_in next D x hx
                        omega)
                      have HPK : Hid (pickM (ltf (fH next)) t M (mN - 0) D = seqM next mN (t + 1)) := Lib.hid (by rw [Nat.sub_zero, hM, HD.out]; rfl)
                      obtain ⟨w8, hw8⟩ : ∃ w8 : World, w8 = wr := ⟨_, rfl⟩
                      have HEM : Hid (∀ w', w8.grownBy w' (some g) → Elems encI 1 w' am M) := Lib.hid (fun w' h => elems_far (by rw [hw8]; exact hem) h (fun p hp hq => by
                        have h1 := (hown.lt p.block (by rw [hp]; rfl)).1
                        have := HGH.out
                        omega))
                      have HG0 : Hid (w8.grownBy wr (some g)) := Lib.hid (by rw [hw8]; exact World.grownBy.refl _ _)
                      have HO8 := Lib.hid hO
                      clear hem hown hO hM hw8 hl0 hbl HBK HD
                      go_wp2
                      go_loopw [128] (fun qv wr3 => ∃ (q : Nat) (D2 : List Int), q ≤ mN ∧ qv = .int .i64 q ∧ D2.length = next.length ∧ wr3.ownsRow g 3 1 (.slice (some ⟨g, 0, none⟩) next.length next.length) next.length (D2.map (Value.int .i64)) ∧ Hid (pickM (ltf (fH next)) t M (mN - q) D2 = seqM next mN (t + 1)) ∧ Hid (w8.grownBy wr3 (some g)) ∧ Hid (Below g w4 wr3)) (fun qv _ => mN - (intOf qv).toNat)
                      case atStart => exact ⟨0, D, by omega, rfl, lD, HO8.out, HPK, HG0, HBG⟩
                      case round =>
                        clear HO8 HPK HG0 HBG
                        obtain ⟨q, D2, hq, rfl, lD2, hO, HPK, HGW, HBG⟩ := hrel
                        by_cases hqm : q < mN
                        · have HOO := Lib.hid hO
                          have hst : Hid (bestF (ltf (fH next)) (undone D2) (-1) (M.drop 0) = bestF (ltf (fH next)) (undone D2) (-1) M) := Lib.hid (by rw [List.drop_zero])
                          obtain ⟨w9, hw9⟩ : ∃ w9 : World, w9 = wr := ⟨_, rfl⟩
                          have HW9 := Lib.hid hw9
                          rw [← hw9] at HOO HGW HBG ⊢
                          clear hO hw9
                          go_wp2
                          go_loopw [20, 132] (fun bv pv wr4 => ∃ (p : Nat) (b : Int) (m' : Nat), p ≤ M.length ∧ pv = .int .i64 p ∧ bv = .int .i64 b ∧ -1 ≤ b ∧ b < next.length ∧ Hid (bestF (ltf (fH next)) (undone D2) b (M.drop p) = bestF (ltf (fH next)) (undone D2) (-1) M) ∧ wr4 = w9.drewN m') (fun _ pv _ => M.length - (intOf pv).toNat)
                          case atStart => exact ⟨0, -1, 0, by omega, rfl, rfl, by omega, by omega, hst, by rw [HW9.out]; rfl⟩
                          case round =>
                            clear hst
                            obtain ⟨p, b, m', hp, rfl, rfl, hb0, hb1, HBF, rfl⟩ := hrel
                            by_cases hpl : p < M.length
                            · obtain ⟨bm, om, ham, hcm⟩ := (HEM.out _ HGW.out).some hpl
                              have c0 := hcm p hpl 0 _ rfl
                              simp only [Nat.add_zero, Nat.mul_one] at c0
                              obtain ⟨i0, i1⟩ := HMI.out _ (List.getElem_mem hpl)
                              obtain ⟨i, hi⟩ := Int.eq_ofNat_of_zero_le i0
                              rw [hi] at c0 i1
                              have hin : i < next.length := by omega
                              have c1 := owns_get HOO.out i hin (by omega)
                              obtain ⟨bl, ol, hal, hcl⟩ := (HLV.out _ HBG.out).some (show i < (tabN next.length (lvl next)).length by rw [tabN_len]; exact hin)
                              have l1 := hcl i (by rw [tabN_len]; exact hin) 0 _ rfl
                              rw [tabN_get] at l1
                              simp only [Nat.add_zero, Nat.mul_one] at l1
                              have hud := undone_at (D := D2) (k := i) (by omega)
                              have hbd := best_drop (lt := ltf (fH next)) (ok := undone D2) hpl b
                              rw [hi] at hbd
                              have HL2 := Lib.hid hcl
                              subst ham
                              by_cases hu : D2[i] < 0
                              · have hu2 : undone D2 (i : Int) = true := by rw [hud]; simpa using hu
                                by_cases hbn : b < 0
                                · have HB2 : Hid (bestF (ltf (fH next)) (undone D2) (i : Int) (M.drop (p + 1)) = bestF (ltf (fH next)) (undone D2) (-1) M) := Lib.hid (by
                                    rw [← HBF.out, hbd, if_pos ⟨hu2, Or.inl hbn⟩])
                                  subst hal
                                  clear hcm hcl hbd hud hu2 HBF HL2
                                  generalize D2[i] = dk at *
                                  go_wp2
                                  go_quiet (fail)
                                  go_wp2
                                  exact ⟨⟨p + 1, i, _, by omega, by go_num, rfl, by omega, by omega, HB2, rfl⟩, by simp [intOf]; omega⟩
                                · obtain ⟨bn, rfl⟩ := Int.eq_ofNat_of_zero_le (show 0 ≤ b by omega)
                                  have hbN : bn < next.length := by omega
                                  have l2 := HL2.out bn (by rw [tabN_len]; exact hbN) 0 _ rfl
                                  rw [tabN_get] at l2
                                  simp only [Nat.add_zero, Nat.mul_one] at l2
                                  subst hal
                                  have hltf : ltf (fH next) (i : Int) (bn : Int) = decide (lvl next bn < lvl next i) := by
                                    unfold ltf fH lvl
                                    congr 1
                                    simp only [eq_iff_iff]
                                    omega
                                  by_cases hlt2 : lvl next bn < lvl next i
                                  · have HB2 : Hid (bestF (ltf (fH next)) (undone D2) (i : Int) (M.drop (p + 1)) = bestF (ltf (fH next)) (undone D2) (-1) M) := Lib.hid (by
                                      rw [← HBF.out, hbd, if_pos ⟨hu2, Or.inr (by rw [hltf]; simpa using hlt2)⟩])
                                    clear hcm hcl hbd hud hu2 HBF HL2 hltf
                                    generalize D2[i] = dk at *
                                    generalize lvl next i = li at *
                                    generalize lvl next bn = lb at *
                                    go_wp2
                                    go_quiet (fail)
                                    go_wp2
                                    exact ⟨⟨p + 1, i, _, by omega, by go_num, rfl, by omega, by omega, HB2, rfl⟩, by simp [intOf]; omega⟩
                                  · have HB2 : Hid (bestF (ltf (fH next)) (undone D2) (bn : Int) (M.drop (p + 1)) = bestF (ltf (fH next)) (undone D2) (-1) M) := Lib.hid (by
                                      rw [← HBF.out, hbd, if_neg (fun h => h.2.elim (fun h2 => hbn h2) (fun h2 => hlt2 (by rw [hltf] at h2; simpa using h2)))])
                                    clear hcm hcl hbd hud hu2 HBF HL2 hltf
                                    generalize D2[i] = dk at *
                                    generalize lvl next i = li at *
                                    generalize lvl next bn = lb at *
                                    go_wp2
                                    go_quiet (fail)
                                    go_wp2
                                    exact ⟨⟨p + 1, bn, _, by omega, by go_num, rfl, by omega, by omega, HB2, rfl⟩, by simp [intOf]; omega⟩
                              · have hu2 : undone D2 (i : Int) = false := by rw [hud]; simpa using hu
                                have HB2 : Hid (bestF (ltf (fH next)) (undone D2) b (M.drop (p + 1)) = bestF (ltf (fH next)) (undone D2) (-1) M) := Lib.hid (by
                                  rw [← HBF.out, hbd, if_neg (fun h => by rw [hu2] at h; exact Bool.noConfusion h.1)])
                                clear hcm hcl hbd hud hu2 HBF HL2 hal l1
                                generalize D2[i] = dk at *
                                have hde : decide (dk < 0) = false := by simpa using hu
                                have hdn : ¬ dk < 0 := hu
                                go_wp2
                                go_quiet (fail)
                                go_wp2
                                exact ⟨⟨p + 1, b, _, by omega, by go_num, rfl, by omega, by omega, HB2, rfl⟩, by simp [intOf]; omega⟩
                            · obtain rfl : p = M.length := by omega
                              have hbf : bestF (ltf (fH next)) (undone D2) (-1) M = b := by
                                have h := HBF.out
                                rw [List.drop_length] at h
                                exact h.symm
                              have hp1 := pick_one (ltf (fH next)) (t : Int) M (mN - (q + 1)) D2 b hbf
                              rw [show mN - (q + 1) + 1 = mN - q by omega, HPK.out] at hp1
                              by_cases hbn : b < 0
                              · have HPK2 : Hid (pickM (ltf (fH next)) t M (mN - (q + 1)) D2 = seqM next mN (t + 1)) := Lib.hid (by rw [if_pos hbn] at hp1; exact hp1.symm)
                                have HG2 : Hid (w8.grownBy (w9.drewN m') (some g)) := Lib.hid (grown_drewN HGW.out _)
                                have HB2 : Hid (Below g w4 (w9.drewN m')) := Lib.hid (below_drewN' HBG.out _)
                                have HO2 : Hid ((w9.drewN m').ownsRow g 3 1 (.slice (some ⟨g, 0, none⟩) next.length next.length) next.length (D2.map (Value.int .i64))) := HOO
                                have hb3 : ¬ 0 ≤ b := by omega
                                clear hp1 hbf HBF
                                go_wp2
                                exact ⟨⟨q + 1, D2, by omega, by go_num, lD2, HO2.out, HPK2, HG2, HB2⟩, by simp [intOf]; omega⟩
                              · obtain ⟨bn, rfl⟩ := Int.eq_ofNat_of_zero_le (show 0 ≤ b by omega)
                                have hbN : bn < next.length := by omega
                                have HPK2 : Hid (pickM (ltf (fH next)) t M (mN - (q + 1)) (D2.set bn t) = seqM next mN (t + 1)) := Lib.hid (by rw [if_neg hbn, Int.toNat_natCast] at hp1; exact hp1.symm)
                                have hO : (w9.drewN m').ownsRow g 3 1 (.slice (some ⟨g, 0, none⟩) next.length next.length) next.length (D2.map (Value.int .i64)) := HOO.out
                                have c1 := owns_get hO bn hbN (by omega)
                                have f1 := hO.frozenAt bn
                                have HO2 := Lib.hid (owns_set hO bn (t : Int))
                                have HG2 : Hid (w8.grownBy ((w9.drewN m').setCell ⟨g, bn, none⟩ (.int .i64 (t : Int))) (some g)) := Lib.hid (grown_two (grown_drewN HGW.out _) (hO.stored bn (.int .i64 (t : Int))).2)
                                have HB2 : Hid (Below g w4 ((w9.drewN m').setCell ⟨g, bn, none⟩ (.int .i64 (t : Int)))) := Lib.hid ((below_drewN' HBG.out _).setCell (p := ⟨g, bn, none⟩) (Nat.le_refl _) _)
                                have hl2 : (D2.set bn (t : Int)).length = next.length := by simp [lD2]
                                have hb3 : (0 : Int) ≤ (bn : Int) := by omega
                                generalize D2[bn] = dv at *
                                clear hp1 hbf HBF hO
                                go_wp2
                                exact ⟨⟨q + 1, D2.set bn t, by omega, by go_num, hl2, HO2.out, HPK2, HG2, HB2⟩, by simp [intOf]; omega⟩
                        · obtain rfl : q = mN := by omega
                          have HO2 : Hid (wr.ownsRow g 3 1 (.slice (some ⟨g, 0, none⟩) next.length next.length) next.length ((seqM next q (t + 1)).map (Value.int .i64))) := Lib.hid (by
                            have h := HPK.out
                            rw [Nat.sub_self, pickM] at h
                            rw [← h]; exact hO)
                          clear hO
                          go_wp2
                          exact ⟨⟨t + 1, by omega, by go_num, HO2.out, HBG⟩, by simp [intOf]; omega⟩
end Go.Proofs.YtfaklhkdfpfjgaaDoor
