/- trip.Round (19.2): the least of each place and set, from smaller sets. -/
import Derived.Test.YtfaklhkdfpfjgaaDoorRoundM
import Derived.Test.YtfaklhkdfpfjgaaDoorTabN
import Derived.Test.YtfaklhkdfpfjgaaDoorAppI
import Derived.Deep.RegionHeld3
namespace Go.Proofs.YtfaklhkdfpfjgaaDoor
open Go.RowKit

def numS (o : Option (Int × List Nat)) : Int := match o with | none => -1 | some x => x.1
def costS (A : List (List Int)) (n i j : Nat) : Int := numS (bestS A n i j)
/-- What stands in the table at a set and a place. -/
def leastV (A : List (List Int)) (n j i : Nat) : Int := if bitB j 0 = true ∨ bitB j i = true then 0 else costS A n i j
def rowVal (L0 n k j : Nat) : Value := if j < k then .slice (some ⟨L0 + 1 + j, 0, none⟩) n n else .slice none 0 0
/-- The table with its first k rows. -/
def TabAt (w : World) (L0 n K k : Nat) (f : Nat → Nat → Int) : Prop :=
  w.ownsRow L0 50 1 (.slice (some ⟨L0, 0, none⟩) K K) K ((List.range K).map (rowVal L0 n k)) ∧ (∀ j, j < k → w.ownsRow L0 3 1 (.slice (some ⟨L0 + 1 + j, 0, none⟩) n n) n ((tabN n (f j)).map (Value.int .i64))) ∧ w.heap.size = L0 + 1 + k
theorem TabAt.head {w : World} {L0 n K k : Nat} {f : Nat → Nat → Int} (h : TabAt w L0 n K k f) {j : Nat} (hj : j < k) (hK : j < K) : w.cell? ⟨L0, j, none⟩ = some (.slice (some ⟨L0 + 1 + j, 0, none⟩) n n) := by
  rw [h.1.cellAt j (by omega), List.getElem?_map, List.getElem?_eq_getElem (by simpa using hK)]
  simp [rowVal, hj]
theorem TabAt.val {w : World} {L0 n K k : Nat} {f : Nat → Nat → Int} (h : TabAt w L0 n K k f) {j i : Nat} (hj : j < k) (hi : i < n) : w.cell? ⟨L0 + 1 + j, i, none⟩ = some (.int .i64 (f j i)) := tabN_at (h.2.1 j hj) hi
theorem grownT_set (w : World) (b i : Nat) (v : Value) : w.grownBy (w.setCell ⟨b, i, none⟩ v) (some b) :=
  ⟨rfl, rfl, rfl, by simp [World.setCell], fun k _ hk => Below.heap_setCell _ _ _ _ (fun e => hk (by simp [e]))⟩
/-- One number of the table is written. -/
theorem TabAt.put {w : World} {L0 n K k : Nat} {f f' : Nat → Nat → Int} (h : TabAt w L0 n K k f) {j : Nat} (hj : j < k) (i : Nat) (v : Int) (hf : ∀ x y, x < k → y < n → f' x y = if x = j ∧ y = i then v else f x y) : TabAt (w.setCell ⟨L0 + 1 + j, i, none⟩ (.int .i64 v)) L0 n K k f' := by
  have hg := grownT_set w (L0 + 1 + j) i (.int .i64 v)
  refine ⟨h.1.kept hg (Or.inr (by simp [Value.ownBlock]; omega)), fun x hx => ?_, by simp [h.2.2]⟩
  by_cases hxj : x = j
  · subst hxj
    exact tabN_put (h.2.1 x hj) i v (fun y hy => by
      rw [hf x y hx hy]
      by_cases hy2 : y = i
      · rw [if_pos hy2, if_pos ⟨rfl, hy2⟩]
      · rw [if_neg hy2, if_neg (fun h => hy2 h.2)])
  · have h1 := (h.2.1 x hx).kept hg (Or.inr (by simp [Value.ownBlock]; omega))
    rw [tabN_congr (g := f x) (fun y hy => by rw [hf x y hx hy, if_neg (fun h => hxj h.1)])]
    exact h1
/-- One row more. -/
theorem TabAt.more {w : World} {L0 n K k : Nat} {f f' : Nat → Nat → Int} {Z : Array Value} (h : TabAt w L0 n K k f) (hk : k < K) (hZ : ∀ (w : World) (base : Nat), base ≤ w.heap.size → (w.alloc (.cells Z 3)).ownsRow base 3 1 (.slice (some ⟨w.heap.size, 0, none⟩) n n) n ((tabN n (fun _ => 0)).map (Value.int .i64)))
    (hf : ∀ x y, x < k + 1 → y < n → f' x y = if x = k then 0 else f x y) : TabAt ((w.alloc (.cells Z 3)).setCell ⟨L0, k, none⟩ (.slice (some ⟨L0 + 1 + k, 0, none⟩) n n)) L0 n K (k + 1) f' := by
  have hnew := hZ w L0 (by rw [h.2.2]; omega)
  rw [h.2.2] at hnew
  have h1 := h.1.alloc (.cells Z 3)
  obtain ⟨s1, hg⟩ := h1.stored k (.slice (some ⟨L0 + 1 + k, 0, none⟩) n n)
  refine ⟨?_, fun x hx => ?_, by simp [h.2.2]; omega⟩
  · have he : ((List.range K).map (rowVal L0 n k)).set k (.slice (some ⟨L0 + 1 + k, 0, none⟩) n n) = (List.range K).map (rowVal L0 n (k + 1)) := by
      refine List.ext_getElem (by simp) fun t h2 h3 => ?_
      rw [List.getElem_set]
      simp only [List.getElem_map, List.getElem_range]
      unfold rowVal
      by_cases ht : k = t
      · subst ht; rw [if_pos rfl, if_pos (by omega)]
      · rw [if_neg ht]
        by_cases h4 : t < k
        · rw [if_pos h4, if_pos (by omega)]
        · rw [if_neg h4, if_neg (by omega)]
    rw [he] at s1
    exact s1
  · by_cases hxk : x = k
    · subst hxk
      rw [tabN_congr (g := fun _ => 0) (fun y hy => by rw [hf x y hx hy, if_pos rfl])]
      exact hnew.kept hg (Or.inr (by simp [Value.ownBlock]; omega))
    · rw [tabN_congr (g := f x) (fun y hy => by rw [hf x y hx hy, if_neg hxk])]
      exact ((h.2.1 x (by omega)).alloc _).kept hg (Or.inr (by simp [Value.ownBlock]; omega))
theorem TabAt.congr {w : World} {L0 n K k : Nat} {f f' : Nat → Nat → Int} (h : TabAt w L0 n K k f) (he : ∀ x y, x < k → y < n → f' x y = f x y) : TabAt w L0 n K k f' :=
  ⟨h.1, fun x hx => by rw [tabN_congr (he x · hx)]; exact h.2.1 x hx, h.2.2⟩
theorem rows_atR {w : World} {a : Option Addr} {A : List (List Int)} (hA : ∀ r ∈ A, r.length = A.length ∧ ∀ x ∈ r, 0 ≤ x ∧ x ≤ 1000000000) (h : Rows2 w a A) (h0 : 0 < A.length) :
    ∃ b2 o2, a = some ⟨b2, o2, none⟩ ∧ ∃ R : Nat → Nat × Nat × Nat, ∀ p, p < A.length → w.cell? ⟨b2, o2 + p, none⟩ = some (.slice (some ⟨(R p).1, (R p).2.1, none⟩) A.length (R p).2.2) ∧
      ∀ q, q < A.length → w.cell? ⟨(R p).1, (R p).2.1 + q, none⟩ = some (.int .i64 (distM A (p : Int) (q : Int))) := by
  obtain ⟨b2, o2, rfl, hcA⟩ := h.some h0
  refine ⟨b2, o2, rfl, ?_⟩
  have key : ∀ p, ∃ R : Nat × Nat × Nat, p < A.length → w.cell? ⟨b2, o2 + p, none⟩ = some (.slice (some ⟨R.1, R.2.1, none⟩) A.length R.2.2) ∧
      ∀ q, q < A.length → w.cell? ⟨R.1, R.2.1 + q, none⟩ = some (.int .i64 (distM A (p : Int) (q : Int))) := by
    intro p
    by_cases hp : p < A.length
    · obtain ⟨ar, cr, e1, e2, e3, e4⟩ := hcA p hp
      have hR := (hA _ (List.getElem_mem hp)).1
      obtain ⟨b3, o3, rfl, hc3⟩ := e4.some (j := 0) (by omega)
      refine ⟨(b3, o3, cr), fun _ => ⟨by rw [← hR]; exact e1, fun q hq => ?_⟩⟩
      obtain ⟨hpq, d1, _, _⟩ := dist_at hA hp hq
      have g1 := hc3 q hpq 0 _ rfl
      simp only [Nat.add_zero, Nat.mul_one] at g1
      rw [d1]; exact g1
    · exact ⟨(0, 0, 0), fun h => absurd h hp⟩
  obtain ⟨R, hR⟩ := Classical.axiomOfChoice key
  exact ⟨R, hR⟩
theorem rowRR : RowOf Tryd.prog 96 50 (.slice none 0 0) 1 24 := rowOf Tryd.underlying96 (by kernel_rfl) rfl (by decide)
theorem bit_zero (k : Nat) : bits .and .i64 (k : Int) 1 = if bitB k 0 = true then 1 else 0 := by
  have h := bit_and k 0
  simpa using h
/-- A round of the table: nothing is written. -/
theorem TabAt.skip {A : List (List Int)} {w : World} {L0 n K k i : Nat} (h : TabAt w L0 n K (k + 1) (fun x y => if x = k then (if y < i then leastV A n k y else 0) else leastV A n x y)) (hv : leastV A n k i = 0) : TabAt w L0 n K (k + 1) (fun x y => if x = k then (if y < i + 1 then leastV A n k y else 0) else leastV A n x y) :=
  h.congr (fun x y _ _ => by
    by_cases hx : x = k
    · rw [if_pos hx, if_pos hx]
      by_cases hy : y = i
      · rw [if_pos (by omega), if_neg (by omega), hy, hv]
      · by_cases hy2 : y < i
        · rw [if_pos (by omega), if_pos hy2]
        · rw [if_neg (by omega), if_neg hy2]
    · rw [if_neg hx, if_neg hx])
theorem TabAt.fill {A : List (List Int)} {w : World} {L0 n K k i : Nat} (h : TabAt w L0 n K (k + 1) (fun x y => if x = k then (if y < i then leastV A n k y else 0) else leastV A n x y)) (v : Int) (hv : leastV A n k i = v) : TabAt (w.setCell ⟨L0 + 1 + k, i, none⟩ (.int .i64 v)) L0 n K (k + 1) (fun x y => if x = k then (if y < i + 1 then leastV A n k y else 0) else leastV A n x y) :=
  h.put (by omega) i v (fun x y _ _ => by
    by_cases hx : x = k
    · subst hx
      by_cases hy : y = i
      · subst hy; simp [hv]
      · have he : (y < i + 1) = (y < i) := propext ⟨fun h => by omega, fun h => by omega⟩
        simp [hy, he]
    · simp [hx])
theorem step_none {A : List (List Int)} {n i k d : Nat} (h : bitB k d = false) : joinB (stepS A n i k) (d + 1) = joinB (stepS A n i k) d := by
  have h1 : stepS A n i k d = none := by unfold stepS; rw [h]; rfl
  rw [joinB, h1, better_none]
def RoundWPost (A : List (List Int)) (w : World) (e : Ending) (w' : World) : Prop :=
  ∃ ar cr c p, bestS A A.length 0 (2 ^ A.length - 2) = some (c, p) ∧ e = .returned (.tuple #[.slice ar (p.length + 1) cr, .int .i64 c, .nilIface]) ∧ Elems encI 1 w' ar (0 :: p.map (fun k : Nat => (k : Int))) ∧ Below w.heap.size w w'
set_option maxRecDepth 100000 in
set_option maxHeartbeats 16000000 in
theorem roundW_ok (a : Option Addr) (cap : Nat) (A : List (List Int)) (w : World) (hM : mapCheck A = 0) (hA2 : 2 ≤ A.length) (hA6 : A.length ≤ 6) (hr : Rows2 w a A) :
    Calls Tryd.prog 48 #[.slice a A.length cap] w (RoundWPost A w) := by
  obtain ⟨hA9, hA⟩ := map_ok hM
  have HC1 := tripChk_any a _ cap A w rfl (by unfold maxLen; omega) hr
  rw [hM, show errV 0 = .nilIface from rfl] at HC1
  have HC1 := Lib.hid HC1
  obtain ⟨b2, o2, haE, R, hR⟩ := rows_atR hA hr (by omega)
  have HR := Lib.hid hR
  have HA := Lib.hid hA
  obtain ⟨n, hn⟩ : ∃ n, n = A.length := ⟨_, rfl⟩
  obtain ⟨K, hK⟩ : ∃ K, K = 2 ^ n := ⟨_, rfl⟩
  have hK64 : K ≤ 64 := by
    have : 2 ^ n ≤ 2 ^ 6 := Nat.pow_le_pow_right (by omega) (by omega)
    omega
  have hK4 : 4 ≤ K := by
    have : 2 ^ 2 ≤ 2 ^ n := Nat.pow_le_pow_right (by omega) (by omega)
    omega
  have hKn2 : (2 : Int) ^ n = (K : Int) := by rw [hK]; push_cast; rfl
  have hKw : IntKind.i64.wrap (2 ^ n) = (K : Int) := by rw [hKn2]; exact IntWalk.i64_in _ (by omega)
  have hKw2 : wrap64 (2 ^ n) = (K : Int) := by rw [hKn2]; exact IntWalk.wrap64_in _ (by omega)
  clear hKn2
  obtain ⟨ZK, hmkK, hrowK⟩ := made_row rowRR K (K : Int) rfl (by omega) (by unfold maxLen; omega)
  obtain ⟨Z, hmk, hrow⟩ := made_row rowAI n (n : Int) rfl (by omega) (by unfold maxLen; omega)
  have hrow2 : ∀ (w : World) (base : Nat), base ≤ w.heap.size → (w.alloc (.cells Z 3)).ownsRow base 3 1 (.slice (some ⟨w.heap.size, 0, none⟩) n n) n ((tabN n (fun _ => 0)).map (Value.int .i64)) := fun w base h => by
    have h1 := hrow w base h
    rw [show (madeCells (Value.int IntKind.i64 0).cells (n * 1)).toList = (madeCells #[Value.int .i64 0] n).toList by simp [Value.cells], made_ints, tabN_same] at h1
    exact h1
  have HROW := Lib.hid hrow2
  have HROWK := Lib.hid hrowK
  have HN := Lib.hid hn
  have HK := Lib.hid hK
  have HMM := Lib.hid hM
  rw [← hn] at hA2 hA6 HC1 ⊢
  subst haE
  have HRW : Hid (∀ w', Below w.heap.size w w' → ∀ p, p < n → w'.cell? ⟨b2, o2 + p, none⟩ = some (.slice (some ⟨(R p).1, (R p).2.1, none⟩) n (R p).2.2) ∧ ∀ q, q < n → w'.cell? ⟨(R p).1, (R p).2.1 + q, none⟩ = some (.int .i64 (distM A (p : Int) (q : Int)))) := Lib.hid (fun w' hb p hp => by
    rw [hn] at hp ⊢
    obtain ⟨q1, q2⟩ := hR p hp
    exact ⟨(hb.cell (lt_of_cell q1)).trans q1, fun q hq => (hb.cell (lt_of_cell (q2 q (by omega)))).trans (q2 q (by omega))⟩)
  clear hrow hrow2 hrowK hr hR hA hA9 hM hK hn
  go_enter Tryd.func48, Tryd.ntmps48
  go_wp2_with fail
  refine HC1.out.mono ?_
  rintro e w1 ⟨rfl, hb1⟩
  obtain ⟨L0, hL0⟩ : ∃ L0, L0 = w1.heap.size := ⟨_, rfl⟩
  have HLE := Lib.hid hL0
  have HLW : Hid (w.heap.size ≤ L0) := Lib.hid (by rw [hL0]; exact hb1.size)
  have HT0 : Hid (TabAt (w1.alloc (.cells ZK 50)) L0 n K 0 (leastV A n)) := Lib.hid (by
    refine ⟨?_, fun j hj => by omega, by simp [hL0]⟩
    have h := HROWK.out w1 L0 (Nat.le_of_eq hL0)
    rw [← hL0] at h
    rw [show (List.range K).map (rowVal L0 n 0) = (madeCells (Value.slice none 0 0).cells (K * 1)).toList by
      rw [show (madeCells (Value.slice none 0 0).cells (K * 1)).toList = (madeCells #[Value.slice none 0 0] K).toList by simp [Value.cells], toList_madeCells_one]
      refine List.ext_getElem (by simp) fun t h1 h2 => by simp [rowVal]]
    exact h)
  have HB0 : Hid (Below w.heap.size w (w1.alloc (.cells ZK 50))) := Lib.hid (hb1.alloc (by rw [← hL0]; exact HLW.out) _)
  clear hb1 HC1 hL0
  go_wp2
  rw [← HLE.out]
  go_loopw [34] (fun iv wr => ∃ k : Nat, k ≤ K ∧ iv = .int .i64 k ∧ Hid (TabAt wr L0 n K k (leastV A n)) ∧ Hid (Below w.heap.size w wr)) (fun iv _ => K - (intOf iv).toNat)
  case atStart => exact ⟨0, by omega, rfl, HT0, HB0⟩
  case round =>
    clear HT0 HB0 hmkK
    obtain ⟨k, hk, rfl, HT, HB⟩ := hrel
    by_cases hkK : k < K
    · have hsz := HT.out.2.2
      have hco : wr.cell? ⟨L0, k, none⟩ = some (.slice none 0 0) := by
        rw [HT.out.1.cellAt k (by omega), List.getElem?_map, List.getElem?_eq_getElem (by simpa using hkK)]
        simp [rowVal]
      have hfo := HT.out.1.frozenAt k
      have hca := cell_a1 hco (.cells Z 3)
      have hfa := (HT.out.1.alloc (.cells Z 3)).frozenAt k
      have HT1 := Lib.hid (HT.out.more hkK HROW.out (f' := fun x y => if x = k then (if y < 0 then leastV A n k y else 0) else leastV A n x y) (fun x y _ _ => by
        by_cases h : x = k
        · rw [if_pos h, if_pos h, if_neg (by omega)]
        · rw [if_neg h, if_neg h]))
      have HB1 : Hid (Below w.heap.size w ((wr.alloc (.cells Z 3)).setCell ⟨L0, k, none⟩ (.slice (some ⟨L0 + 1 + k, 0, none⟩) n n))) := Lib.hid ((HB.out.alloc (by have := HB.out.size; omega) _).setCell (p := ⟨L0, k, none⟩) HLW.out _)
      have HSZ := Lib.hid hsz
      have HBIT : Hid (∀ y : Nat, bits .and .i64 ((k : Int) / 2 ^ y) 1 = if bitB k y = true then 1 else 0) := Lib.hid (fun y => bit_and k y)
      have HBZ := Lib.hid (bit_zero k)
      clear hsz
      go_wp2
      rw [HSZ.out]
      clear hco hfo hca hfa
      go_loopw [43] (fun iv wr2 => ∃ i : Nat, i ≤ n ∧ iv = .int .i64 i ∧ Hid (TabAt wr2 L0 n K (k + 1) (fun x y => if x = k then (if y < i then leastV A n k y else 0) else leastV A n x y)) ∧ Hid (Below w.heap.size w wr2)) (fun iv _ => n - (intOf iv).toNat)
      case atStart => exact ⟨0, by omega, rfl, HT1, HB1⟩
      case round =>
        clear HT1 HB1 HT HB
        obtain ⟨i, hi, rfl, HT, HB⟩ := hrel
        by_cases hin : i < n
        · have hb0 := HBZ.out
          have hbi := HBIT.out i
          cases hz : bitB k 0 with
          | true =>
            rw [hz, if_pos rfl] at hb0
            have HT2 := Lib.hid (HT.out.skip (i := i) (by unfold leastV; rw [if_pos (Or.inl hz)]))
            clear hz hbi
            go_wp2
            exact ⟨⟨i + 1, by omega, by go_num, HT2, HB⟩, by simp [intOf]; omega⟩
          | false =>
            rw [hz, if_neg (by simp)] at hb0
            cases hzi : bitB k i with
            | true =>
              rw [hzi, if_pos rfl] at hbi
              have HT2 := Lib.hid (HT.out.skip (i := i) (by unfold leastV; rw [if_pos (Or.inr hzi)]))
              clear hz hzi
              go_wp2
              exact ⟨⟨i + 1, by omega, by go_num, HT2, HB⟩, by simp [intOf]; omega⟩
            | false =>
              rw [hzi, if_neg (by simp)] at hbi
              have HLV : Hid (leastV A n k i = costS A n i k) := Lib.hid (by unfold leastV; rw [if_neg (by rw [hz, hzi]; simp)])
              have ch := HT.out.head (j := k) (by omega) hkK
              have cv := HT.out.val (j := k) (i := i) (by omega) hin
              rw [if_pos rfl, if_neg (by omega)] at cv
              have fv := (HT.out.2.1 k (by omega)).frozenAt i
              have hi0 : (0 : Int) ≤ (i : Int) := by omega
              have hi1 : (i : Int) < (n : Int) := by omega
              have hk0 : (0 : Int) ≤ (k : Int) := by omega
              have hk1 : (k : Int) < (K : Int) := by omega
              have hLW := HLW.out
              by_cases hkz : k = 0
              · have hkd : ((k : Int) == 0) = true := by simp [hkz]
                obtain ⟨ri, di⟩ := HRW.out wr HB.out i hin
                have d0 := di 0 (by omega)
                have HV : Hid (leastV A n k i = distM A (i : Int) 0) := Lib.hid (by rw [HLV.out, hkz]; rfl)
                have HT2 := Lib.hid (HT.out.fill (distM A (i : Int) 0) HV.out)
                have HB2 : Hid (Below w.heap.size w (wr.setCell ⟨L0 + 1 + k, i, none⟩ (.int .i64 (distM A (i : Int) 0)))) := Lib.hid (HB.out.setCell (p := ⟨L0 + 1 + k, i, none⟩) (by simp; omega) _)
                obtain ⟨ri2, di2⟩ := HRW.out _ HB2.out i hin
                have HS2 := Lib.hid (And.intro (HT2.out.head (j := k) (by omega) hkK) (And.intro ri2 (di2 0 (by omega))))
                have hn0 : (0 : Int) < (n : Int) := by omega
                have hn00 : 0 < n := by omega
                have hn000 : ¬ n = 0 := by omega
                simp only [Nat.add_zero, show ((0 : Nat) : Int) = 0 from rfl] at d0 HS2
                clear di di2 ri2 hz hzi hkz
                generalize distM A (i : Int) 0 = dv at *
                generalize (R i).1 = ba at *
                generalize (R i).2.1 = oa at *
                generalize (R i).2.2 = ca at *
                go_wp2
                go_region_held3 (fun w' => w'.cell? ⟨L0, k, none⟩ = some (.slice (some ⟨L0 + 1 + k, 0, none⟩) n n) ∧ w'.cell? ⟨b2, o2 + i, none⟩ = some (.slice (some ⟨ba, oa, none⟩) n ca) ∧ w'.cell? ⟨ba, oa, none⟩ = some (.int .i64 dv))
                  (first | exact ⟨ch, ri, d0⟩ | exact HS2.out)
                  (fail)
                all_goals
                  clear ch cv fv ri d0
                  go_wp2
                  exact ⟨⟨i + 1, by omega, by go_num, HT2, Lib.hid HB2.out.drew⟩, by simp [intOf]; omega⟩
              · have hkd : ((k : Int) == 0) = false := beq_eq_false_iff_ne.2 (by omega)
                have hst : Hid (numS (joinB (stepS A n i k) 1) = -1) := Lib.hid (by rw [step_none hz]; rfl)
                have HJN : Hid (∀ d, d ≤ n → ∀ x, joinB (stepS A n i k) d = some x → 0 ≤ x.1) := Lib.hid (fun d hd x hx => by
                  obtain ⟨d', hd', hy⟩ := joinB_mem hx
                  unfold stepS at hy
                  by_cases hbd : bitB k d' = true
                  · rw [if_pos hbd] at hy
                    have h5 := bit_lt (s := k) (k := d') (by omega) (by omega) hbd
                    obtain ⟨c, p, h6, h7, _⟩ := bestS_some (A := A) HA.out hA6 HN.out.symm (k - 2 ^ d') (k - 2 ^ d') d' (Nat.le_refl _) (by rw [← HK.out]; omega) (by omega)
                    rw [h6] at hy
                    simp only [Option.map_some, Option.some.injEq] at hy
                    have h8 := (dist_bd (A := A) HA.out (i := i) (k := d') (by rw [← HN.out]; exact hin) (by rw [← HN.out]; omega)).1
                    rw [← hy]
                    show 0 ≤ c + _
                    omega
                  · rw [if_neg hbd] at hy; cases hy)
                have HKZ := Lib.hid hkz
                have HZ := Lib.hid hz
                obtain ⟨wo, hwo⟩ : ∃ wo : World, wo = wr := ⟨_, rfl⟩
                have HWO := Lib.hid hwo
                rw [← hwo] at ch cv fv ⊢
                clear hz hzi hkz hwo
                go_wp2
                go_loopw [10, 11] (fun bv kv wr2 => ∃ (d m : Nat) (b : Int), 1 ≤ d ∧ d ≤ n ∧ kv = .int .i64 d ∧ bv = .int .i64 b ∧ Hid (numS (joinB (stepS A n i k) d) = b) ∧ wr2 = wo.drewN m) (fun _ kv _ => n - (intOf kv).toNat)
                case atStart => exact ⟨1, 0, -1, by omega, by omega, rfl, rfl, hst, rfl⟩
                case round =>
                  clear hst
                  obtain ⟨d, m, b, hd1, hdn, rfl, rfl, HBV, rfl⟩ := hrel
                  have hbd := HBIT.out d
                  by_cases hdl : d < n
                  · obtain ⟨q, hq⟩ : ∃ q, q = 2 ^ d := ⟨_, rfl⟩
                    have hq6 : q ≤ 64 := by
                      have : 2 ^ d ≤ 2 ^ 6 := Nat.pow_le_pow_right (by omega) (by omega)
                      omega
                    have hq2 : (2 : Int) ^ d = (q : Int) := by rw [hq]; push_cast; rfl
                    have hq3 : IntKind.i64.wrap (2 ^ d) = (q : Int) := by rw [hq2]; exact IntWalk.i64_in _ (by omega)
                    clear hq2
                    cases hzd : bitB k d with
                    | false =>
                      rw [hzd, if_neg (by simp)] at hbd
                      have HBV2 : Hid (numS (joinB (stepS A n i k) (d + 1)) = b) := Lib.hid (by rw [step_none hzd]; exact HBV.out)
                      clear hzd hq hq3 HBV
                      go_wp2
                      exact ⟨⟨d + 1, m, b, by omega, by omega, by go_num, rfl, HBV2, rfl⟩, by simp [intOf]; omega⟩
                    | true =>
                      rw [hzd, if_pos rfl] at hbd
                      obtain ⟨hbo, hqk⟩ := bit_out (s := k) (k := d) (by omega) (by omega) hzd
                      have hlk := bit_lt (s := k) (k := d) (by omega) (by omega) hzd
                      rw [← hq] at hbo hqk hlk
                      obtain ⟨j, hj⟩ : ∃ j, j = k - q := ⟨_, rfl⟩
                      rw [← hj] at hbo hlk
                      have hjk : j < k := hlk
                      obtain ⟨ri, di⟩ := HRW.out wr HB.out i hin
                      have dd := di d hdl
                      have cj := HT.out.head (j := j) (by omega) (by omega)
                      have cd := HT.out.val (j := j) (i := d) (by omega) hdl
                      rw [if_neg (by omega)] at cd
                      obtain ⟨cc, pc, hcc, hcc0, hcc1, _⟩ := bestS_some (A := A) HA.out hA6 HN.out.symm j j d (Nat.le_refl _) (by rw [← HK.out]; omega) hdl
                      have hlv : leastV A n j d = cc := by
                        have e0 : bitB j 0 = false := by rw [hj, hq, bit_sub (by omega) (by omega) (by omega) hzd, HZ.out]; rfl
                        have e1 : bitB j d = false := by rw [hj, hq, bit_sub (by omega) (by omega) (by omega) hzd]; simp
                        unfold leastV costS
                        rw [e0, e1, if_neg (by simp), hcc]
                        rfl
                      rw [hlv] at cd
                      have hst2 : stepS A n i k d = some (cc + distM A (i : Int) (d : Int), d :: pc) := by
                        unfold stepS
                        rw [if_pos hzd, ← hq, ← hj, hcc]
                        rfl
                      have hdb := dist_bd (A := A) HA.out (i := i) (k := d) (by rw [← HN.out]; exact hin) (by rw [← HN.out]; exact hdl)
                      have hc7 : cc ≤ 7000000000 := by
                        have h1 : cntB j ≤ 6 := by
                          unfold cntB
                          have := List.countP_le_length (p := bitB j) (l := List.range 6)
                          simpa using this
                        omega
                      rw [← HWO.out] at ri dd cj cd
                      have hd0 : (0 : Int) ≤ (d : Int) := by omega
                      have hd2 : (d : Int) < (n : Int) := by omega
                      have hj0 : (0 : Int) ≤ (j : Int) := by omega
                      have hj1 : (j : Int) < (K : Int) := by omega
                      have HST := Lib.hid hst2
                      clear di hlv hcc hcc1 hst2 hzd hj hq hqk hlk
                      generalize distM A (i : Int) (d : Int) = dv at *
                      generalize (R i).1 = ba at *
                      generalize (R i).2.1 = oa at *
                      generalize (R i).2.2 = ca at *
                      obtain ⟨hdv0, hdv1⟩ := hdb
                      by_cases hlt : b < 0 ∨ dv + cc < b
                      · have HBV2 : Hid (numS (joinB (stepS A n i k) (d + 1)) = dv + cc) := Lib.hid (by
                          have h := HBV.out
                          rw [joinB, HST.out]
                          cases hjd : joinB (stepS A n i k) d with
                          | none => show cc + dv = _; omega
                          | some x =>
                            rw [hjd] at h
                            have h2 : x.1 = b := h
                            by_cases h3 : cc + dv < x.1
                            · simp only [better, if_pos h3]; show cc + dv = _; omega
                            · exfalso
                              have h4 := HJN.out d (by omega) x hjd
                              omega)
                        clear HBV HST
                        rcases hlt with hlt | hlt
                        · go_wp2
                          go_quiet (fail)
                          go_wp2
                          exact ⟨⟨d + 1, _, dv + cc, by omega, by omega, by go_num, rfl, HBV2, rfl⟩, by simp [intOf]; omega⟩
                        · have hbn : b < 0 ∨ ¬ b < 0 := by omega
                          rcases hbn with hbn | hbn
                          all_goals
                            go_wp2
                            go_quiet (fail)
                            go_wp2
                            exact ⟨⟨d + 1, _, dv + cc, by omega, by omega, by go_num, rfl, HBV2, rfl⟩, by simp [intOf]; omega⟩
                      · have hbn : ¬ b < 0 := by omega
                        have hln : ¬ dv + cc < b := by omega
                        have HBV2 : Hid (numS (joinB (stepS A n i k) (d + 1)) = b) := Lib.hid (by
                          have h := HBV.out
                          rw [joinB, HST.out]
                          cases hjd : joinB (stepS A n i k) d with
                          | none => rw [hjd] at h; exact absurd (show b = -1 from h.symm) (by omega)
                          | some x =>
                            rw [hjd] at h
                            have h2 : x.1 = b := h
                            simp only [better, if_neg (show ¬ cc + dv < x.1 by omega)]
                            exact h2)
                        clear HBV HST hlt
                        go_wp2
                        go_quiet (fail)
                        go_wp2
                        exact ⟨⟨d + 1, _, b, by omega, by omega, by go_num, rfl, HBV2, rfl⟩, by simp [intOf]; omega⟩
                  · obtain rfl : d = n := by omega
                    have HV : Hid (leastV A d k i = b) := Lib.hid (by
                      rw [HLV.out]
                      unfold costS
                      rw [bestS_step A hA6 i (by rw [← HK.out]; omega) HKZ.out]
                      exact HBV.out)
                    have HT2 : Hid (TabAt ((wo.drewN m).setCell ⟨L0 + 1 + k, i, none⟩ (.int .i64 b)) L0 d K (k + 1) (fun x y => if x = k then (if y < i + 1 then leastV A d k y else 0) else leastV A d x y)) := Lib.hid (TabAt.fill (w := wo.drewN m) (by rw [HWO.out]; exact HT.out) b HV.out)
                    have HB2 : Hid (Below w.heap.size w ((wo.drewN m).setCell ⟨L0 + 1 + k, i, none⟩ (.int .i64 b))) := Lib.hid ((below_drewN' (by rw [HWO.out]; exact HB.out) m).setCell (p := ⟨L0 + 1 + k, i, none⟩) (by simp; omega) _)
                    clear hbd hb0 hbi HBV
                    go_wp2
                    exact ⟨⟨i + 1, by omega, by go_num, HT2, HB2⟩, by simp [intOf]; omega⟩
        · obtain rfl : i = n := by omega
          have HT2 : Hid (TabAt wr L0 i K (k + 1) (leastV A i)) := Lib.hid (HT.out.congr (fun x y _ hy => by
            by_cases h : x = k
            · rw [if_pos h, if_pos hy, h]
            · rw [if_neg h]))
          go_wp2
          exact ⟨⟨k + 1, by omega, by go_num, HT2, HB⟩, by simp [intOf]; omega⟩
    · obtain rfl : k = K := by omega
      have hKe := HK.out
      have hs0 : (k : Int) - 2 = ((k - 2 : Nat) : Int) := by omega
      obtain ⟨s0, hs0e⟩ : ∃ s0, s0 = k - 2 := ⟨_, rfl⟩
      rw [← hs0e] at hs0
      have hb00 : bitB s0 0 = false := by rw [hs0e, hKe, bit_all (by omega) (by omega) (by omega)]; rfl
      obtain ⟨cs, ps, hbs, hcs0, hcs1, _⟩ := bestS_some (A := A) HA.out hA6 HN.out.symm s0 s0 0 (Nat.le_refl _) (by omega) (by omega)
      have ch := HT.out.head (j := s0) (by omega) (by omega)
      have cv := HT.out.val (j := s0) (i := 0) (by omega) (by omega)
      rw [show leastV A n s0 0 = cs by unfold leastV costS; rw [hb00, if_neg (by simp), hbs]; rfl] at cv
      obtain ⟨B1, hB1⟩ : ∃ B1, B1 = wr.heap.size := ⟨_, rfl⟩
      have HB1 := Lib.hid hB1
      have HWL : Hid (w.heap.size ≤ B1 ∧ L0 + 1 + k ≤ B1) := Lib.hid ⟨by rw [hB1]; exact HB.out.size, by rw [hB1, HT.out.2.2]; omega⟩
      have HTF : Hid (∀ w', Below B1 (wr.alloc (.cells #[.int .i64 0] 3)) w' → (∀ j, j < k → w'.cell? ⟨L0, j, none⟩ = some (.slice (some ⟨L0 + 1 + j, 0, none⟩) n n)) ∧ ∀ j i, j < k → i < n → w'.cell? ⟨L0 + 1 + j, i, none⟩ = some (.int .i64 (leastV A n j i))) := Lib.hid (fun w' hb => by
        refine ⟨fun j hj => ?_, fun j i hj hi => ?_⟩
        · have h1 := HT.out.head hj hj
          exact (hb.cell (p := ⟨L0, j, none⟩) (by rw [hB1]; exact lt_of_cell h1)).trans (cell_a1 h1 _)
        · have h1 := HT.out.val hj hi
          exact (hb.cell (p := ⟨L0 + 1 + j, i, none⟩) (by rw [hB1]; exact lt_of_cell h1)).trans (cell_a1 h1 _))
      have HBW : Hid (∀ w', Below B1 (wr.alloc (.cells #[.int .i64 0] 3)) w' → Below w.heap.size w w') := Lib.hid (fun w' hb => (HB.out.alloc (by rw [← hB1]; exact HWL.out.1) _).trans (hb.mono HWL.out.1))
      have hw0 : (wr.alloc (.cells #[.int .i64 0] 3)).ownsRow B1 3 1 (.slice (some ⟨B1, 0, none⟩) 1 1) ([0] : List Int).length (([0] : List Int).map (Value.int .i64)) := by
        have h := World.ownsRow_lit (e := 3) (base := B1) (size := 1) wr #[Value.int .i64 0] 1 (Nat.le_of_eq hB1) (by unfold maxLen; omega) rfl
        rw [← hB1] at h
        simpa using h
      have HW0 := Lib.hid hw0
      have HBS := Lib.hid hbs
      have HBSS := HBS
      have HB00 := Lib.hid hb00
      have hs0k : s0 < k := by omega
      have hs0k2 : (s0 : Int) < (k : Int) := by omega
      have hs00 : (0 : Int) ≤ (s0 : Int) := by omega
      have hn0 : (0 : Int) < (n : Int) := by omega
      have HS0 := Lib.hid hs0e
      have HKE := Lib.hid hKe
      clear hB1 HT HB hw0 hbs hb00 hs0e hmk HROW hcs1 hKe
      go_wp2
      rw [← HB1.out]
      go_loopw [13, 15, 16] (fun sv vv av wr2 => ∃ (s at' : Nat) (row : List Int) (v : Value) (c : Int) (p : List Nat), sv = .int .i64 s ∧ v = vv ∧ av = .int .i64 at' ∧ s < k ∧ at' < n ∧ row.length ≤ n ∧ row.length + cntB s ≤ n ∧ Hid (bitB s 0 = false ∧ bitB s at' = false) ∧ Hid (bestS A n at' s = some (c, p)) ∧ Hid (row ++ p.map (fun k : Nat => (k : Int)) = 0 :: ps.map (fun k : Nat => (k : Int))) ∧ wr2.ownsRow B1 3 1 v row.length (row.map (Value.int .i64)) ∧ Hid (Below B1 (wr.alloc (.cells #[.int .i64 0] 3)) wr2)) (fun sv _ _ _ => (intOf sv).toNat)
      case atStart => exact ⟨s0, 0, [0], _, cs, ps, by first | rfl | (rw [← hs0]; rfl) | go_num, rfl, rfl, hs0k, by omega, by simp; omega, by
        have h := cnt_all (n := n) (by omega) (by omega)
        rw [← HKE.out, ← HS0.out] at h
        simp
        omega, Lib.hid ⟨HB00.out, HB00.out⟩, HBS, Lib.hid rfl, HW0.out, Lib.hid (Below.refl _ _)⟩
      case round =>
        clear HW0 HBS HB00 ch cv hs0 hs0k hs0k2 hs00
        obtain ⟨s, at', row, v, c, p, rfl, rfl, rfl, hsk, hat, hrl, hrc, HBT, HBS, HRP, hown, HB⟩ := hrel
        by_cases hsz : s = 0
        · subst hsz
          have hp : p = [] := by
            have h := HBS.out
            rw [bestS_zero] at h
            simp only [Option.some.injEq, Prod.mk.injEq] at h
            exact h.2.symm
          subst hp
          have HRE : Hid (row = 0 :: ps.map (fun k : Nat => (k : Int))) := Lib.hid (by have h := HRP.out; simpa using h)
          obtain ⟨ar, cr, rfl, he, _⟩ := ints_of_owns rfl hown
          have HE := Lib.hid he
          have hrlen : row.length = ps.length + 1 := by rw [HRE.out]; simp
          have HLN := Lib.hid hrlen
          clear hown he hrlen HBS HRP hrl hrc
          go_wp2
          go_ret3
          unfold RoundWPost
          exact ⟨ar, cr, cs, ps, by rw [← HN.out, ← HKE.out, ← HS0.out]; exact HBSS.out, by rw [HLN.out]; rfl, by rw [← HRE.out]; exact HE.out, HBW.out _ HB.out⟩
        · obtain ⟨c2, p2, hbs2, hc0, hc1, _, hstep⟩ := bestS_some (A := A) HA.out hA6 HN.out.symm s s at' (Nat.le_refl _) (by rw [← HKE.out]; exact hsk) (by omega)
          rw [HBS.out] at hbs2
          simp only [Option.some.injEq, Prod.mk.injEq] at hbs2
          obtain ⟨rfl, rfl⟩ := hbs2
          obtain ⟨k0, ck, pk, hk0n, hk0b, hpk, hbk, hck, hfirst⟩ := hstep hsz
          have HK0 := Lib.hid (And.intro hk0n (And.intro hk0b (And.intro hpk (And.intro hbk (And.intro hck hfirst)))))
          obtain ⟨wo, hwo⟩ : ∃ wo : World, wo = wr := ⟨_, rfl⟩
          have HWO := Lib.hid hwo
          obtain ⟨ar, cr, rfl, _, _⟩ := ints_of_owns rfl hown
          have HOWN := Lib.hid hown
          have hsd : ((s : Int) == 0) = false := beq_eq_false_iff_ne.2 (by omega)
          have hcb : c ≤ 7000000000 := by
            have h1 : cntB s ≤ 6 := by
              unfold cntB
              have := List.countP_le_length (p := bitB s) (l := List.range 6)
              simpa using this
            omega
          rw [← hwo]
          clear hwo hown hk0n hk0b hpk hbk hck hfirst hstep hc1
          go_wp2
          go_loopw [13, 15, 16, 17] (fun sv vv av kv wr2 => ∃ (d m : Nat), 1 ≤ d ∧ d ≤ n ∧ sv = .int .i64 s ∧ Value.slice ar row.length cr = vv ∧ av = .int .i64 at' ∧ kv = .int .i64 d ∧ Hid (∀ j, j < d → bitB s j = true → ∀ c3 p3, bestS A n j (s - 2 ^ j) = some (c3, p3) → c3 + distM A (at' : Int) (j : Int) ≠ c) ∧ wr2 = wo.drewN m) (fun _ _ _ kv _ => n - (intOf kv).toNat)
          case atStart => exact ⟨1, 0, by omega, by omega, rfl, rfl, rfl, rfl, Lib.hid (fun j hj hb => by
            obtain rfl : j = 0 := by omega
            rw [HBT.out.1] at hb; cases hb), rfl⟩
          case round =>
            obtain ⟨d, m, hd1, hdn, rfl, rfl, rfl, rfl, HNO, rfl⟩ := hrel
            have hbd := bit_and s d
            by_cases hdl : d < n
            · obtain ⟨q, hq⟩ : ∃ q, q = 2 ^ d := ⟨_, rfl⟩
              have hq6 : q ≤ 64 := by
                have : 2 ^ d ≤ 2 ^ 6 := Nat.pow_le_pow_right (by omega) (by omega)
                omega
              have hq2 : (2 : Int) ^ d = (q : Int) := by rw [hq]; push_cast; rfl
              have hq3 : IntKind.i64.wrap (2 ^ d) = (q : Int) := by rw [hq2]; exact IntWalk.i64_in _ (by omega)
              clear hq2
              cases hzd : bitB s d with
              | false =>
                rw [hzd, if_neg (by simp)] at hbd
                have HNO2 : Hid (∀ j, j < d + 1 → bitB s j = true → ∀ c3 p3, bestS A n j (s - 2 ^ j) = some (c3, p3) → c3 + distM A (at' : Int) (j : Int) ≠ c) := Lib.hid (fun j hj hb => by
                  by_cases h : j = d
                  · rw [h, hzd] at hb; cases hb
                  · exact HNO.out j (by omega) hb)
                clear hzd hq hq3 HNO
                go_wp2
                go_quiet (fail)
                go_wp2
                exact ⟨⟨d + 1, _, by omega, by omega, rfl, rfl, rfl, by go_num, HNO2, rfl⟩, by simp [intOf]; omega⟩
              | true =>
                rw [hzd, if_pos rfl] at hbd
                obtain ⟨hbo, hqk⟩ := bit_out (s := s) (k := d) (by omega) (by omega) hzd
                have hlk := bit_lt (s := s) (k := d) (by omega) (by omega) hzd
                have hcn := cnt_sub (s := s) (k := d) (by omega) (by omega) hzd
                rw [← hq] at hbo hqk hlk hcn
                obtain ⟨j, hj⟩ : ∃ j, j = s - q := ⟨_, rfl⟩
                rw [← hj] at hbo hlk hcn
                obtain ⟨ri, di⟩ := HRW.out wo (by rw [HWO.out]; exact HBW.out _ HB.out) at' hat
                have dd := di d hdl
                obtain ⟨t1, t2⟩ := HTF.out wo (by rw [HWO.out]; exact HB.out)
                have cj := t1 j (by omega)
                have cd := t2 j d (by omega) hdl
                have csh := t1 s hsk
                have csv := t2 s at' hsk hat
                rw [show leastV A n s at' = c by unfold leastV costS; rw [HBT.out.1, HBT.out.2, if_neg (by simp), HBS.out]; rfl] at csv
                obtain ⟨cc, pc, hcc, hcc0, hcc1, _⟩ := bestS_some (A := A) HA.out hA6 HN.out.symm j j d (Nat.le_refl _) (by rw [← HKE.out]; omega) hdl
                have e0 : bitB j 0 = false := by rw [hj, hq, bit_sub (by omega) (by omega) (by omega) hzd, HBT.out.1]; rfl
                have e1 : bitB j d = false := by rw [hj, hq, bit_sub (by omega) (by omega) (by omega) hzd]; simp
                rw [show leastV A n j d = cc by unfold leastV costS; rw [e0, e1, if_neg (by simp), hcc]; rfl] at cd
                have hdb := dist_bd (A := A) HA.out (i := at') (k := d) (by rw [← HN.out]; exact hat) (by rw [← HN.out]; exact hdl)
                have hc7 : cc ≤ 7000000000 := by
                  have h1 : cntB j ≤ 6 := by
                    unfold cntB
                    have := List.countP_le_length (p := bitB j) (l := List.range 6)
                    simpa using this
                  omega
                have hd0 : (0 : Int) ≤ (d : Int) := by omega
                have hd2 : (d : Int) < (n : Int) := by omega
                have hj0 : (0 : Int) ≤ (j : Int) := by omega
                have hj1 : (j : Int) < (k : Int) := by omega
                have ha0 : (0 : Int) ≤ (at' : Int) := by omega
                have ha1 : (at' : Int) < (n : Int) := by omega
                have hs1 : (0 : Int) ≤ (s : Int) := by omega
                have hs2 : (s : Int) < (k : Int) := by omega
                have hJ := hj
                rw [hq] at hJ
                have HJ := Lib.hid (And.intro hJ (And.intro hcc (And.intro e0 e1)))
                have HZD := Lib.hid hzd
                have HDV : Hid (∀ x, x = distM A (at' : Int) (d : Int) → x = distM A (at' : Int) (d : Int)) := Lib.hid (fun x h => h)
                obtain ⟨dv, hdv⟩ : ∃ dv, dv = distM A (at' : Int) (d : Int) := ⟨_, rfl⟩
                rw [← hdv] at dd hdb
                have HDE := Lib.hid hdv
                obtain ⟨hdv0, hdv1⟩ := hdb
                clear di t1 t2 hcc hcc1 hzd hj hq hJ e0 e1 hdv HDV hqk
                generalize (R at').1 = ba at *
                generalize (R at').2.1 = oa at *
                generalize (R at').2.2 = ca at *
                by_cases heq : dv + cc = c
                · have hde : ((dv + cc : Int) == c) = true := by simpa using heq
                  have hfin : Hid (d = k0 ∧ cc = ck ∧ pc = pk ∧ p = k0 :: pk) := Lib.hid (by
                    obtain ⟨q1, q2, q3, q4, q5, q6⟩ := HK0.out
                    have hdk : ¬ d < k0 := fun h => by
                      have h9 := q6 d h HZD.out cc pc (by rw [← HJ.out.1]; exact HJ.out.2.1)
                      rw [← HDE.out] at h9
                      omega
                    have hkd : ¬ k0 < d := fun h => HNO.out k0 h q2 ck pk q4 q5.symm
                    obtain rfl : d = k0 := by omega
                    have h := HJ.out.2.1
                    rw [HJ.out.1, q4] at h
                    simp only [Option.some.injEq, Prod.mk.injEq] at h
                    exact ⟨rfl, h.1.symm, h.2.symm, q3⟩)
                  clear HNO heq
                  go_wp2
                  go_quiet (fail)
                  go_wp2
                  go_quiet (fail)
                  have hown3 : ∀ q, (wo.drewN q).ownsRow B1 3 1 (.slice ar row.length cr) row.length (row.map (Value.int .i64)) := fun q => by rw [HWO.out]; exact HOWN.out
                  have hbs : ∀ q, B1 ≤ (wo.drewN q).heap.size := fun q => by rw [HWO.out]; exact (by
                    have h := HB.out.size
                    have h9 := HB1.out
                    simp only [World.alloc, Array.size_push] at h
                    show B1 ≤ wr.heap.size
                    omega)
                  go_wp2_with (at_builtin; (refine app_row rowAI rfl _ _ rfl B1 rfl (hown3 _) [.int .i64 d] rfl (by first | rfl | simp) rfl (encI_one _) (by unfold maxLen; omega) (by omega) (hbs _) ?_))
                  intro v' w4 hown4 hb4
                  have hown5 : w4.ownsRow B1 3 1 v' (row ++ [(d : Int)]).length ((row ++ [(d : Int)]).map (Value.int .i64)) := by rw [List.length_append, List.map_append]; exact hown4
                  have HB6 := HB.out
                  rw [← HWO.out] at HB6
                  have hB5 := Lib.hid ((below_drewN' HB6 _).trans hb4)
                  clear HB6
                  obtain ⟨a5, c5, rfl, _, _⟩ := ints_of_owns rfl hown5
                  clear hown3 hbs hown4 hb4
                  go_wp2
                  have HRP2 : Hid ((row ++ [(d : Int)]) ++ pc.map (fun k : Nat => (k : Int)) = 0 :: ps.map (fun k : Nat => (k : Int))) := Lib.hid (by
                    have h := HRP.out
                    obtain ⟨w1, w2, w3, w4⟩ := hfin.out
                    rw [w4, ← w1, ← w3] at h
                    rw [← h]
                    simp)
                  exact ⟨⟨j, d, row ++ [(d : Int)], _, cc, pc, rfl, rfl, rfl, by omega, hdl, by simp; omega, by simp; omega, Lib.hid ⟨HJ.out.2.2.1, HJ.out.2.2.2⟩, Lib.hid HJ.out.2.1, HRP2, hown5, hB5⟩, by simp [intOf]; omega⟩
                · have hde : ((dv + cc : Int) == c) = false := beq_eq_false_iff_ne.2 heq
                  have HNO2 : Hid (∀ j, j < d + 1 → bitB s j = true → ∀ c3 p3, bestS A n j (s - 2 ^ j) = some (c3, p3) → c3 + distM A (at' : Int) (j : Int) ≠ c) := Lib.hid (fun j2 hj2 hb => by
                    by_cases h : j2 = d
                    · subst h
                      intro c3 p3 h3
                      rw [← HJ.out.1, HJ.out.2.1] at h3
                      simp only [Option.some.injEq, Prod.mk.injEq] at h3
                      rw [← HDE.out, ← h3.1]
                      omega
                    · exact HNO.out j2 (by omega) hb)
                  clear HNO heq
                  go_wp2
                  go_quiet (fail)
                  go_wp2
                  exact ⟨⟨d + 1, _, by omega, by omega, rfl, rfl, rfl, by go_num, HNO2, rfl⟩, by simp [intOf]; omega⟩
            · exfalso
              obtain ⟨q1, q2, q3, q4, q5, q6⟩ := HK0.out
              exact HNO.out k0 (by omega) q2 ck pk q4 q5.symm
end Go.Proofs.YtfaklhkdfpfjgaaDoor
