/- The reference's Insert for up to 100,000 numbers (SortW's and InsertP's plain words, Insert's walk: printed by sort/gen_insn.py). -/
import Derived.Test.YtannijeiecmjpaaDoorRows
import Derived.Test.YtannijeiecmjpaaDoorSortP
import Derived.Test.YtannijeiecmjpaaDoorRow
import Derived.Laws.CopyOwn
import Derived.BigRegion
import Derived.BigQuiet
import Derived.Deep.QuietTactic
import Derived.Deep.RegionLaw
namespace Go.Proofs.YtannijeiecmjpaaDoor
open Go.RowKit

abbrev rowV (n : Nat) (r : RowF) : List Value := (tab n r).map (Value.int .i64)

theorem tab_swp {n : Nat} {r : RowF} {i j : Nat} (h : i ≠ j) : ((tab n r).set i (r j)).set j (r i) = tab n (swpF r i j) := by
  rw [tab_set, tab_set]
  congr 1
  funext t
  unfold swpF
  by_cases h1 : t = j
  · subst h1
    simp [Ne.symm h]
  · simp [h1]
theorem owns_swp {w : World} {base e g n cap i j : Nat} {r : RowF} (h : w.ownsRow base e 1 (.slice (some ⟨g, 0, none⟩) n cap) n (rowV n r)) (hij : i ≠ j) :
    ((w.setCell ⟨g, i, none⟩ (.int .i64 (r j))).setCell ⟨g, j, none⟩ (.int .i64 (r i))).ownsRow base e 1 (.slice (some ⟨g, 0, none⟩) n cap) n (rowV n (swpF r i j)) := by
  unfold rowV
  rw [← tab_swp hij]
  exact owns_set (owns_set h i (r j)) j (r i)
theorem owns_at_tab {w : World} {base e g n cap j : Nat} {r : RowF} (h : w.ownsRow base e 1 (.slice (some ⟨g, 0, none⟩) n cap) n (rowV n r)) (hj : j < n) : w.cell? ⟨g, j, none⟩ = some (.int .i64 (r j)) := by
  rw [owns_get h j hj (by rw [tab_len]; exact hj), tab_get]

theorem row_get {n t : Nat} {r : RowF} (h : t < n) : (rowV n r)[t]? = some (.int .i64 (r t)) := by
  simp [rowV, tab, h]
theorem row_none {n t : Nat} {r : RowF} (h : n ≤ t) : (rowV n r)[t]? = none := by
  simp [rowV, tab, h]
theorem row_same {n : Nat} {r r' : RowF} (h : ∀ t, t < n → r t = r' t) : rowV n r = rowV n r' := by
  refine List.ext_getElem? fun t => ?_
  rcases Nat.lt_or_ge t n with g | g
  · rw [row_get g, row_get g, h t g]
  · rw [row_none g, row_none g]
def cellsOf (r : RowF) (j c : Nat) : List Value := (seg r j (j + c)).map (Value.int .i64)
theorem cellsOf_len (r : RowF) (j c : Nat) : (cellsOf r j c).length = c := by simp [cellsOf, seg]
theorem cellsOf_get {r : RowF} {j c t : Nat} (h : t < c) : (cellsOf r j c)[t]? = some (.int .i64 (r (j + t))) := by
  simp [cellsOf, seg, h]
theorem cellsOf_one (r : RowF) (j c : Nat) : ∀ v ∈ cellsOf r j c, v.oneCell' = true := by
  intro v hv
  simp only [cellsOf, List.mem_map] at hv
  obtain ⟨x, _, rfl⟩ := hv
  rfl
theorem copied_tab {cur : List Value} {n j c : Nat} {r : RowF} (h : cur.take n = rowV n r) (hn : n ≤ cur.length) (hjc : j + 1 + c ≤ n) :
    (splice cur (j + 1) (cellsOf r j c)).take n = rowV n (fun t => if j + 1 ≤ t ∧ t < j + 1 + c then r (t - 1) else r t) := by
  have hcur : ∀ t, t < n → cur[t]? = some (.int .i64 (r t)) := fun t ht => by
    have := congrArg (fun l => l[t]?) h
    simp only [List.getElem?_take, ht, if_true] at this
    rw [this, row_get ht]
  refine List.ext_getElem? fun t => ?_
  rcases Nat.lt_or_ge t n with g | g
  · rw [List.getElem?_take, if_pos g, row_get g]
    unfold splice
    rcases Nat.lt_or_ge t (j + 1) with g1 | g1
    · rw [List.getElem?_append_left (by simp; omega), List.getElem?_take, if_pos g1, hcur t g, if_neg (by omega)]
    · rw [List.getElem?_append_right (by simp; omega), List.length_take, Nat.min_eq_left (by omega)]
      rcases Nat.lt_or_ge t (j + 1 + c) with g2 | g2
      · rw [List.getElem?_append_left (by rw [cellsOf_len]; omega), cellsOf_get (by omega), if_pos ⟨g1, g2⟩]
        congr 3; omega
      · rw [List.getElem?_append_right (by rw [cellsOf_len]; omega), cellsOf_len, List.getElem?_drop, if_neg (by omega)]
        rw [show j + 1 + c + (t - (j + 1) - c) = t by omega]
        exact hcur t g
  · rw [List.getElem?_take, if_neg (by omega), row_none g]

/-- The block of an own row, whole. -/
theorem owns_block {w : World} {base e : Nat} {v : Value} {n : Nat} {r : RowF} (h : w.ownsRow base e 1 v n (rowV n r)) (hn : 0 < n) :
    ∃ g cap cur, v = .slice (some ⟨g, 0, none⟩) n cap ∧ base ≤ g ∧ g < w.heap.size ∧ w.heap[g]? = some (.cells (List.toArray cur) e (0, 0)) ∧ n ≤ cap ∧ cap ≤ maxLen ∧ cur.length = cap ∧ cur.take n = rowV n r := by
  have hlt := h.lt
  rcases h.2 with ⟨_, h0⟩ | ⟨g, cap, cur, rfl, hg, hh, hc, hm, hs, ht⟩
  · omega
  · exact ⟨g, cap, cur.toList, rfl, hg, (hlt g rfl).2, by simpa using hh, hc, hm, by simpa using hs, by simpa using ht⟩
theorem owns_of_block {w : World} {base e g cap n : Nat} {cur : List Value} {r : RowF} (hg : base ≤ g) (hh : w.heap[g]? = some (.cells (List.toArray cur) e (0, 0))) (hc : n ≤ cap) (hm : cap ≤ maxLen) (hl : cur.length = cap) (ht : cur.take n = rowV n r) :
    w.ownsRow base e 1 (.slice (some ⟨g, 0, none⟩) n cap) n (rowV n r) :=
  ⟨by simp [rowV, tab], .inr ⟨g, cap, cur.toArray, rfl, hg, hh, hc, hm, by simpa using hl, by simpa using ht⟩⟩
theorem row_app {n : Nat} (r : RowF) (x : Int) : rowV n r ++ [Value.int .i64 x] = rowV (n + 1) (fun t => if t = n then x else r t) := by
  refine List.ext_getElem? fun t => ?_
  have hl : (rowV n r).length = n := by simp [rowV, tab]
  rcases Nat.lt_or_ge t n with g | g
  · rw [List.getElem?_append_left (by omega), row_get g, row_get (by omega), if_neg (by omega)]
  · rw [List.getElem?_append_right (by omega), hl]
    rcases Nat.lt_or_ge t (n + 1) with g2 | g2
    · obtain rfl : t = n := by omega
      rw [row_get g2, if_pos rfl, Nat.sub_self]; rfl
    · rw [row_none g2]
      simp; omega
/-- What is asked of Insert's question: in every world that is as w below block B it tells whether y stands ahead of x. -/
def AbvOk (gf : Nat) (cb : Array Value) (lt : Int → Int → Bool) (N : Int) (B : Nat) (w : World) : Prop :=
  ∀ w', Below B w w' → ∀ x y : Int, 0 ≤ x → x < N → 0 ≤ y → y < N → Calls Tryd.prog gf (#[.int .i64 x, .int .i64 y] ++ cb) w' fun e w'' => e = .returned (.bool (lt y x)) ∧ Below w'.heap.size w' w''
def idF : RowF := fun t => (t : Int)
theorem rowI' : RowOf Tryd.prog 39 3 (.int .i64 0) 1 8 := rowOf Tryd.underlying39 (by kernel_rfl) rfl (by decide)

/-- One more is put in. -/
theorem insert_step {lt : Int → Int → Bool} (O : SWk lt) {k j : Nat} {r : RowF} (hj : j ≤ k) (hs : SrtF lt 0 k r) (ho : OkF 0 k idF r) (k1 : ∀ t, j ≤ t → t < k → lt k (r t) = true) (k2 : 0 < j → lt k (r (j - 1)) = false) :
    ∃ r', SrtF lt 0 (k + 1) r' ∧ OkF 0 (k + 1) idF r' ∧ (∀ t, t < k + 1 → r' t = if t = j then (k : Int) else if j + 1 ≤ t then r (t - 1) else r t) := by
  have hk : r k = k := ho.out k (Or.inr (Nat.le_refl _))
  refine ⟨rotF r j k (k + 1), ins_sorted O (Nat.zero_le _) hj hs ?_ (by rw [hk]; exact k1) (by rw [hk]; exact k2), (ho.widen (Nat.le_refl _) (Nat.zero_le _) (by omega)).trans ((rot_ok r hj (by omega)).widen (Nat.zero_le _) (by omega) (Nat.le_refl _)), ?_⟩
  · intro t _ ht
    obtain ⟨s, _, s2, s3⟩ := ho.val (Nat.zero_le t) ht
    rw [hk, s3]; unfold idF; omega
  · intro t ht
    unfold rotF
    rcases Nat.lt_trichotomy t j with h | h | h
    · rw [if_pos h, if_neg (by omega), if_neg (by omega)]
    · subst h
      rw [if_neg (by omega), if_pos (by omega), if_pos rfl, show t + (k - t) = k by omega, hk]
    · rw [if_neg (by omega), if_neg (by omega), if_pos ht, if_neg (by omega), if_pos (by omega)]
      congr 1; omega

set_option maxRecDepth 100000 in
set_option maxHeartbeats 4000000 in
theorem insert_own (gf : Nat) (cb : Array Value) (lt : Int → Int → Bool) (n : Nat) (w : World) (eg : ∀ args w, (callFunc gf args).run Tryd.prog w = .ok (.enter gf args) w)
    (habv : AbvOk gf cb lt n w.heap.size w) (O : SWk lt) (hn : n ≤ 100000) :
    Calls Tryd.prog 47 #[.int .i64 n, .func (.func gf) #[] cb] w fun e w' => ∃ a cap r, e = .returned (.slice a n cap) ∧ Elems encI 1 w' a (tab n r) ∧ SrtF lt 0 n r ∧ OkF 0 n idF r ∧ (∀ p : Addr, a = some p → w.heap.size ≤ p.block) ∧ Below w.heap.size w w' := by
  have HV := Lib.hid habv
  have HO := Lib.hid O
  clear habv O
  go_enter Tryd.func47, Tryd.ntmps47
  go_wp2_with fail
  go_loopw [5, 9] (fun v iv wr => ∃ (k : Nat) (r : RowF) (ad : Option Addr) (cap : Nat), k ≤ n ∧ iv = .int .i64 k ∧ v = .slice ad k cap ∧ wr.ownsRow w.heap.size 3 1 (.slice ad k cap) k (rowV k r) ∧ Hid (SrtF lt 0 k r ∧ OkF 0 k idF r) ∧ Below w.heap.size w wr) (fun _ iv _ => n - (intOf iv).toNat)
  case atStart => exact ⟨0, idF, none, 0, by omega, rfl, rfl, World.ownsRow_nil _ _ _ _, Lib.hid ⟨fun s t hs hst ht => by omega, OkF.refl _ _ _⟩, Below.refl _ _⟩
  case round =>
    obtain ⟨k, r, ad, cap, hk, rfl, rfl, hown, HQ, hbw⟩ := hrel
    by_cases hlt : k < n
    · obtain ⟨wo, hwo⟩ : ∃ wo : World, wo = wr := ⟨_, rfl⟩
      subst hwo
      go_wp2_with fail
      go_loopw [7] (fun jv wr => ∃ j : Nat, j ≤ k ∧ jv = .int .i64 j ∧ Hid (∀ t, j ≤ t → t < k → lt k (r t) = true) ∧ wr.ownsRow w.heap.size 3 1 (.slice ad k cap) k (rowV k r) ∧ Below w.heap.size w wr) (fun jv _ => (intOf jv).toNat)
      case atStart => exact ⟨k, by omega, rfl, Lib.hid (fun t h1 h2 => by omega), hown, hbw⟩
      case round =>
        clear hown hbw
        obtain ⟨j, hj, rfl, HL, hown, hbw⟩ := hrel
        have hrest : (0 < j → lt k (r (j - 1)) = false) → ∃ r', SrtF lt 0 (k + 1) r' ∧ OkF 0 (k + 1) idF r' ∧ (∀ t, t < k + 1 → r' t = if t = j then (k : Int) else if j + 1 ≤ t then r (t - 1) else r t) := fun h => insert_step HO.out hj HQ.out.1 HQ.out.2 HL.out h
        have HREST := Lib.hid hrest
        clear hrest
        by_cases hj0 : 0 < j
        · obtain ⟨p, hp1, hp2, hp3⟩ : ∃ p : Nat, (j : Int) - 1 = (p : Int) ∧ p + 1 ≤ j ∧ j ≤ p + 1 := ⟨j - 1, by omega, by omega, by omega⟩
          obtain ⟨g, cap', cur, hv, hg1, hg2, _, _, _, _, _⟩ := owns_block hown (by omega)
          obtain ⟨rfl, _, rfl⟩ := Value.slice.inj hv
          have c1 := owns_at_tab hown (j := p) (by omega)
          have hr : 0 ≤ r p ∧ r p < n := by
            obtain ⟨s, _, s2, s3⟩ := HQ.out.2.val (Nat.zero_le p) (show p < k by omega)
            rw [s3]; unfold idF; omega
          have HR := Lib.hid hr
          clear hr hv
          cases hlv : lt k (r p) with
          | true =>
            have HZ : Hid (∀ t, p ≤ t → t < k → lt k (r t) = true) := Lib.hid fun t t1 t2 => by
              rcases Nat.lt_or_ge p t with h | h
              · exact HL.out t (by omega) t2
              · obtain rfl : t = p := by omega
                exact hlv
            have HLV := Lib.hid hlv
            clear hlv HL HREST
            generalize hx : r p = x at c1
            have HX := Lib.hid hx
            clear hx
            go_wp2_with fail
            refine (HV.out _ hbw x k (by rw [← HX.out]; exact HR.out.1) (by rw [← HX.out]; exact HR.out.2) (by omega) (by omega)).mono ?_
            rintro e w1 ⟨rfl, hb1⟩
            have hlv2 : lt k x = true := by rw [← HX.out]; exact HLV.out
            have hown1 := owns_at hown hb1
            have hb2 := below_next hbw hb1
            clear hown hbw hb1 c1 hg2
            go_wp2
            exact ⟨⟨p, by omega, by go_num, HZ, hown1, hb2⟩, by simp [intOf]; omega⟩
          | false =>
            have HLV := Lib.hid hlv
            have HZ := Lib.hid (HREST.out (fun _ => by rw [show j - 1 = p by omega]; exact hlv))
            clear hlv HL HREST
            generalize hx : r p = x at c1
            have HX := Lib.hid hx
            clear hx
            go_wp2_with fail
            refine (HV.out _ hbw x k (by rw [← HX.out]; exact HR.out.1) (by rw [← HX.out]; exact HR.out.2) (by omega) (by omega)).mono ?_
            rintro e w1 ⟨rfl, hb1⟩
            have hlv2 : lt k x = false := by rw [← HX.out]; exact HLV.out
            have hown1 := owns_at hown hb1
            have hb2 := below_next hbw hb1
            clear hown hbw hb1 c1 hg2
            go_wp2_with (at_builtin; (refine app_row rowI' rfl _ _ rfl w.heap.size rfl hown1 [.int .i64 0] rfl (by first | rfl | simp) rfl (encI_one _) (by unfold maxLen; omega) (by omega) hb2.size ?_))
            intro v' w2 hown2 hb2'
            rw [row_app] at hown2
            generalize hq0 : (fun t => if t = k then (0 : Int) else r t) = q0 at hown2
            have hq : ∀ t, t < k → q0 t = r t := fun t ht => by rw [← hq0]; exact if_neg (by omega)
            clear hq0
            obtain ⟨g2, cap2, cur, hv', e1, e2, e3, e4, e5, e6, e7⟩ := owns_block hown2 (by omega)
            subst hv'
            obtain ⟨r', rs, ro, rv⟩ := HZ.out
            have hb3 := hb2.trans hb2'
            have hs2 : ∀ i v, (cellsOf q0 j (k - j))[i]? = some v → w2.drew.cell? ((⟨g2, j, none⟩ : Addr).add i) = some v := by
              intro i v hi
              rcases Nat.lt_or_ge i (k - j) with h | h
              · rw [cellsOf_get h] at hi
                have hadd : (⟨g2, j, none⟩ : Addr).add i = ⟨g2, j + i, none⟩ := by unfold Addr.add; split <;> simp_all
                rw [hadd, ← Option.some.inj hi]
                exact owns_at_tab hown2 (j := j + i) (by omega)
              · rw [List.getElem?_eq_none (by rw [cellsOf_len]; exact h)] at hi; cases hi
            have S1 : Hid ((cellsOf q0 j (k - j)).length = Nat.min (k + 1 - j) (k - j)) := Lib.hid (by rw [cellsOf_len]; exact (Nat.min_eq_right (by omega)).symm)
            have S2 : Hid (0 < (cellsOf q0 j (k - j)).length → (if cap2 = j + 1 then some (⟨g2, 0, none⟩ : Addr) else some ⟨g2, j + 1, none⟩) = some ⟨g2, j + 1, none⟩ ∧ ∃ ad, some (⟨g2, j, none⟩ : Addr) = some ad ∧ ∀ i v, (cellsOf q0 j (k - j))[i]? = some v → w2.drew.cell? (ad.add i) = some v) :=
              Lib.hid fun h => by
                rw [cellsOf_len] at h
                exact ⟨if_neg (by omega), _, rfl, hs2⟩
            have S3 : Hid (j + 1 + (cellsOf q0 j (k - j)).length ≤ cur.length) := Lib.hid (by rw [cellsOf_len]; omega)
            have HSP := Lib.hid (copied_tab e7 (by omega) (j := j) (c := k - j) (by omega))
            have HRR := Lib.hid (show SrtF lt 0 (k + 1) r' ∧ OkF 0 (k + 1) idF r' ∧ (∀ t, t < k + 1 → r' t = if t = j then (k : Int) else if j + 1 ≤ t then r (t - 1) else r t) from ⟨rs, ro, rv⟩)
            have HE := Lib.hid (show w2.heap[g2]? = some (.cells cur.toArray 3 (0, 0)) ∧ cur.length = cap2 from ⟨e3, e6⟩)
            have HQQ := Lib.hid hq
            clear rs ro rv e3 e6 e7 hown2 hown1 hb2 hb2' hs2 hq
            have z1 : IntKind.i64.wrap ((j : Int) + 1) = (j : Int) + 1 := IntWalk.i64_in _ (by omega)
            have z2 : (0 : Int) ≤ (j : Int) + 1 := by omega
            have z3 : ((j : Int) + 1).toNat = j + 1 := by omega
            have z4 : (j : Int) + 1 ≤ ((k : Int) + 1) := by omega
            have z5 : (0 : Int) ≤ (j : Int) := by omega
            have z6 : (j : Int) ≤ ((k : Int) + 1) := by omega
            have z7 : ¬ cap2 = j := by omega
            go_wp2
            go_region_law ((refine step_copy_splice rfl (.tmp 34) (.tmp 37) 39 39 rfl 3 Tryd.underlying39 (by kernel_rfl) (if cap2 = j + 1 then some (⟨g2, 0, none⟩ : Addr) else some ⟨g2, j + 1, none⟩) (some ⟨g2, j, none⟩) (k - j) (cap2 - (j + 1)) (k + 1 - j) (cap2 - j) (by simp [Act.eval, Act.put]) (by simp [Act.eval, Act.put]) g2 (j + 1) cur 3 HE.out.1 (cellsOf q0 j (k - j)) S1.out S2.out S3.out (cellsOf_one _ _ _) w.heap.size w (by exact hb3.drew) e1 ?_; intro w4 hg4 hb4))
            have hlen : (splice cur (j + 1) (cellsOf q0 j (k - j))).length = cap2 := by rw [length_splice _ _ _ S3.out]; exact HE.out.2
            have hown4 := owns_of_block e1 hg4.out e4 e5 hlen HSP.out
            have c4 := owns_at_tab hown4 (j := j) (by omega)
            have hf4 := hown4.frozenAt j
            have hnew := owns_set hown4 j (k : Int)
            have hrow : ((tab (k + 1) fun t => if j + 1 ≤ t ∧ t < j + 1 + (k - j) then q0 (t - 1) else q0 t).set j (k : Int)).map (Value.int .i64) = rowV (k + 1) r' := by
              rw [tab_set]
              refine row_same fun t ht => ?_
              rw [HRR.out.2.2 t ht]
              by_cases h1 : t = j
              · rw [if_pos h1, if_pos h1]
              · rw [if_neg h1, if_neg h1]
                by_cases h2 : j + 1 ≤ t
                · rw [if_pos ⟨h2, by omega⟩, if_pos h2, HQQ.out _ (by omega)]
                · rw [if_neg (by omega), if_neg h2, HQQ.out _ (by omega)]
            rw [hrow] at hnew
            have HN := Lib.hid hnew
            have hg4w := (owns_base hown4).2
            clear hnew hrow hown4 hg4 hlen S1 S2 S3 HSP HE HQQ hb3 e2
            generalize (if j + 1 ≤ j ∧ j < j + 1 + (k - j) then q0 (j - 1) else q0 j) = ov at c4
            go_wp2
            go_roundw
            case rel => exact ⟨k + 1, r', _, _, by omega, by go_num, rfl, HN.out, Lib.hid ⟨HRR.out.1, HRR.out.2.1⟩, hb4.setCell (p := ⟨g2, j, none⟩) e1 _⟩
            case measure => simp [intOf]; omega
        · have HZ := Lib.hid (HREST.out (fun h => absurd h hj0))
          clear HREST HL
          go_wp2_with (at_builtin; (refine app_row rowI' rfl _ _ rfl w.heap.size rfl hown [.int .i64 0] rfl (by first | rfl | simp) rfl (encI_one _) (by unfold maxLen; omega) (by omega) hbw.size ?_))
          intro v' w2 hown2 hb2'
          rw [row_app] at hown2
          generalize hq0 : (fun t => if t = k then (0 : Int) else r t) = q0 at hown2
          have hq : ∀ t, t < k → q0 t = r t := fun t ht => by rw [← hq0]; exact if_neg (by omega)
          clear hq0
          obtain ⟨g2, cap2, cur, hv', e1, e2, e3, e4, e5, e6, e7⟩ := owns_block hown2 (by omega)
          subst hv'
          obtain ⟨r', rs, ro, rv⟩ := HZ.out
          have hb3 := hbw.trans hb2'
          have hs2 : ∀ i v, (cellsOf q0 j (k - j))[i]? = some v → w2.drew.cell? ((⟨g2, j, none⟩ : Addr).add i) = some v := by
            intro i v hi
            rcases Nat.lt_or_ge i (k - j) with h | h
            · rw [cellsOf_get h] at hi
              have hadd : (⟨g2, j, none⟩ : Addr).add i = ⟨g2, j + i, none⟩ := by unfold Addr.add; split <;> simp_all
              rw [hadd, ← Option.some.inj hi]
              exact owns_at_tab hown2 (j := j + i) (by omega)
            · rw [List.getElem?_eq_none (by rw [cellsOf_len]; exact h)] at hi; cases hi
          have S1 : Hid ((cellsOf q0 j (k - j)).length = Nat.min (k + 1 - j) (k - j)) := Lib.hid (by rw [cellsOf_len]; exact (Nat.min_eq_right (by omega)).symm)
          have S2 : Hid (0 < (cellsOf q0 j (k - j)).length → (if cap2 = j + 1 then some (⟨g2, 0, none⟩ : Addr) else some ⟨g2, j + 1, none⟩) = some ⟨g2, j + 1, none⟩ ∧ ∃ ad, some (⟨g2, j, none⟩ : Addr) = some ad ∧ ∀ i v, (cellsOf q0 j (k - j))[i]? = some v → w2.drew.cell? (ad.add i) = some v) :=
            Lib.hid fun h => by
              rw [cellsOf_len] at h
              exact ⟨if_neg (by omega), _, rfl, hs2⟩
          have S3 : Hid (j + 1 + (cellsOf q0 j (k - j)).length ≤ cur.length) := Lib.hid (by rw [cellsOf_len]; omega)
          have HSP := Lib.hid (copied_tab e7 (by omega) (j := j) (c := k - j) (by omega))
          have HRR := Lib.hid (show SrtF lt 0 (k + 1) r' ∧ OkF 0 (k + 1) idF r' ∧ (∀ t, t < k + 1 → r' t = if t = j then (k : Int) else if j + 1 ≤ t then r (t - 1) else r t) from ⟨rs, ro, rv⟩)
          have HE := Lib.hid (show w2.heap[g2]? = some (.cells cur.toArray 3 (0, 0)) ∧ cur.length = cap2 from ⟨e3, e6⟩)
          have HQQ := Lib.hid hq
          clear rs ro rv e3 e6 e7 hown2 hown hbw hb2' hs2 hq
          have z1 : IntKind.i64.wrap ((j : Int) + 1) = (j : Int) + 1 := IntWalk.i64_in _ (by omega)
          have z2 : (0 : Int) ≤ (j : Int) + 1 := by omega
          have z3 : ((j : Int) + 1).toNat = j + 1 := by omega
          have z4 : (j : Int) + 1 ≤ ((k : Int) + 1) := by omega
          have z5 : (0 : Int) ≤ (j : Int) := by omega
          have z6 : (j : Int) ≤ ((k : Int) + 1) := by omega
          have z7 : ¬ cap2 = j := by omega
          go_wp2
          go_region_law ((refine step_copy_splice rfl (.tmp 34) (.tmp 37) 39 39 rfl 3 Tryd.underlying39 (by kernel_rfl) (if cap2 = j + 1 then some (⟨g2, 0, none⟩ : Addr) else some ⟨g2, j + 1, none⟩) (some ⟨g2, j, none⟩) (k - j) (cap2 - (j + 1)) (k + 1 - j) (cap2 - j) (by simp [Act.eval, Act.put]) (by simp [Act.eval, Act.put]) g2 (j + 1) cur 3 HE.out.1 (cellsOf q0 j (k - j)) S1.out S2.out S3.out (cellsOf_one _ _ _) w.heap.size w (by exact hb3.drew) e1 ?_; intro w4 hg4 hb4))
          have hlen : (splice cur (j + 1) (cellsOf q0 j (k - j))).length = cap2 := by rw [length_splice _ _ _ S3.out]; exact HE.out.2
          have hown4 := owns_of_block e1 hg4.out e4 e5 hlen HSP.out
          have c4 := owns_at_tab hown4 (j := j) (by omega)
          have hf4 := hown4.frozenAt j
          have hnew := owns_set hown4 j (k : Int)
          have hrow : ((tab (k + 1) fun t => if j + 1 ≤ t ∧ t < j + 1 + (k - j) then q0 (t - 1) else q0 t).set j (k : Int)).map (Value.int .i64) = rowV (k + 1) r' := by
            rw [tab_set]
            refine row_same fun t ht => ?_
            rw [HRR.out.2.2 t ht]
            by_cases h1 : t = j
            · rw [if_pos h1, if_pos h1]
            · rw [if_neg h1, if_neg h1]
              by_cases h2 : j + 1 ≤ t
              · rw [if_pos ⟨h2, by omega⟩, if_pos h2, HQQ.out _ (by omega)]
              · rw [if_neg (by omega), if_neg h2, HQQ.out _ (by omega)]
          rw [hrow] at hnew
          have HN := Lib.hid hnew
          have hg4w := (owns_base hown4).2
          clear hnew hrow hown4 hg4 hlen S1 S2 S3 HSP HE HQQ hb3 e2
          generalize (if j + 1 ≤ j ∧ j < j + 1 + (k - j) then q0 (j - 1) else q0 j) = ov at c4
          go_wp2
          go_roundw
          case rel => exact ⟨k + 1, r', _, _, by omega, by go_num, rfl, HN.out, Lib.hid ⟨HRR.out.1, HRR.out.2.1⟩, hb4.setCell (p := ⟨g2, j, none⟩) e1 _⟩
          case measure => simp [intOf]; omega
    · obtain rfl : k = n := by omega
      obtain ⟨a', cap', he0, he, _⟩ := ints_of_owns (tab_len _ _).symm hown
      obtain ⟨rfl, hq, rfl⟩ := Value.slice.inj he0
      clear hq
      have HE := Lib.hid he
      have HP : Hid (∀ p : Addr, ad = some p → w.heap.size ≤ p.block) := Lib.hid (fun p hp => (hown.lt p.block (by rw [hp]; rfl)).1)
      clear hown he he0
      go_wp2
      go_ret
      exact ⟨_, _, r, rfl, HE.out, HQ.out.1, HQ.out.2, HP.out, hbw⟩
theorem insert_any (gf : Nat) (cb : Array Value) (lt : Int → Int → Bool) (n : Nat) (w : World) (eg : ∀ args w, (callFunc gf args).run Tryd.prog w = .ok (.enter gf args) w)
    (habv : AbvOk gf cb lt n w.heap.size w) (O : SWk lt) (hn : n ≤ 100000) :
    Calls Tryd.prog 47 #[.int .i64 n, .func (.func gf) #[] cb] w fun e w' => ∃ a cap r, e = .returned (.slice a n cap) ∧ Elems encI 1 w' a (tab n r) ∧ SrtF lt 0 n r ∧ OkF 0 n idF r ∧ Below w.heap.size w w' :=
  (insert_own gf cb lt n w eg habv O hn).mono fun _ _ ⟨a, cap, r, h1, h2, h3, h4, _, h5⟩ => ⟨a, cap, r, h1, h2, h3, h4, h5⟩
end Go.Proofs.YtannijeiecmjpaaDoor
