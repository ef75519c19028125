/- tree.from: how far each place is from one: what a search finds, until nothing more is to be found. -/
import Derived.Test.YtogbmpnbbkcocaaDoorTreeM
import Derived.Test.YtogbmpnbbkcocaaDoorRows
import Derived.Deep.LoopGhost
import Derived.Deep.AppendLies
namespace Go.Proofs.YtogbmpnbbkcocaaDoor
open Go.RowKit
theorem rowN : RowOf Tryd.prog 31 3 (.int .i64 0) 1 8 := rowOf Tryd.underlying31 (by kernel_rfl) rfl (by decide)

/-- Where a sweep stands: what was found; while it found nothing, what is known of the edges so far. -/
def FrS (n : Nat) (xs : List R3) (r : Nat) (f0 f : Nat → Int) (ag : Bool) (P : Prop) : Prop := Grow xs r f ∧ (ag = false → f = f0 ∧ P) ∧ (ag = true → unr n f < unr n f0)
theorem frs_hit {n : Nat} {xs : List R3} {r : Nat} {f0 f : Nat → Int} {ag : Bool} {P Q : Prop} (h : FrS n xs r f0 f ag P) (hE : ∀ e ∈ xs, okEdge n e) {e : R3} (he : e ∈ xs) {p i : Nat} (hj : joins e p i) (hp : 0 ≤ f p) (hi : f i < 0) :
    FrS n xs r f0 (upd f i (f p + e.2.2)) true Q := by
  refine ⟨h.1.step he hj hp hi, fun h => by simp at h, fun _ => ?_⟩
  have hl := hE e he
  have hin := (joins_lt hl hj).2
  unfold okEdge at hl
  have hu := unr_set n f i (f p + e.2.2) hin hi (by omega)
  cases ag with
  | false => rw [← (h.2.1 rfl).1]; omega
  | true => have := h.2.2 rfl; omega
theorem frs_miss {n : Nat} {xs : List R3} {r : Nat} {f0 f : Nat → Int} {ag : Bool} {P : Prop} (h : FrS n xs r f0 f ag P) {p i : Nat} (hm : ¬ (0 ≤ f p ∧ f i < 0)) : FrS n xs r f0 f ag (P ∧ (0 ≤ f0 p → 0 ≤ f0 i)) := by
  refine ⟨h.1, fun ha => ⟨(h.2.1 ha).1, (h.2.1 ha).2, ?_⟩, h.2.2⟩
  rw [← (h.2.1 ha).1]
  intro h2; omega
theorem frs_imp {n : Nat} {xs : List R3} {r : Nat} {f0 f : Nat → Int} {ag : Bool} {P Q : Prop} (h : FrS n xs r f0 f ag P) (hi : P → Q) : FrS n xs r f0 f ag Q := ⟨h.1, fun ha => ⟨(h.2.1 ha).1, hi (h.2.1 ha).2⟩, h.2.2⟩
def closedTo (xs : List R3) (k : Nat) (f : Nat → Int) : Prop := ∀ j (h : j < xs.length), j < k → ∀ p i, joins xs[j] p i → 0 ≤ f p → 0 ≤ f i
theorem closedTo_next {xs : List R3} {k : Nat} (hk : k < xs.length) {f : Nat → Int} {p i : Nat} (h1 : xs[k].1 = (p : Int)) (h2 : xs[k].2.1 = (i : Int)) (h : (closedTo xs k f ∧ (0 ≤ f p → 0 ≤ f i)) ∧ (0 ≤ f i → 0 ≤ f p)) : closedTo xs (k + 1) f := by
  intro j hj hjk a b hab ha
  by_cases hjk2 : j < k
  · exact h.1.1 j hj hjk2 a b hab ha
  · obtain rfl : j = k := by omega
    rcases hab with ⟨g1, g2⟩ | ⟨g1, g2⟩
    · obtain rfl : a = p := by omega
      obtain rfl : b = i := by omega
      exact h.1.2 ha
    · obtain rfl : a = i := by omega
      obtain rfl : b = p := by omega
      exact h.2 ha
/-- The cells of an edge that is looked at, both ways. -/
def Pair (w : World) (G E : Nat) (A B L : Int) : Prop :=
  w.cell? ⟨G, 0, none⟩ = some (.int .i64 A) ∧ w.cell? ⟨G, 1, none⟩ = some (.int .i64 B) ∧ w.cell? ⟨G, 2, none⟩ = some (.int .i64 B) ∧ w.cell? ⟨G, 3, none⟩ = some (.int .i64 A) ∧ w.cell? ⟨E, 2, none⟩ = some (.int .i64 L)
theorem Pair.alloc {w : World} {G E : Nat} {A B L : Int} (h : Pair w G E A B L) (o : Obj) : Pair (w.alloc o) G E A B L :=
  ⟨cell_a1 h.1 o, cell_a1 h.2.1 o, cell_a1 h.2.2.1 o, cell_a1 h.2.2.2.1 o, cell_a1 h.2.2.2.2 o⟩
theorem cell_off {w : World} {base e g n c : Nat} {xs : List Value} (h : w.ownsRow base e 1 (.slice (some ⟨g, 0, none⟩) n c) n xs) (j : Nat) (u : Value) {b o : Nat} {v : Value} (hne : b ≠ g) (hc : w.cell? ⟨b, o, none⟩ = some v) : (w.setCell ⟨g, j, none⟩ u).cell? ⟨b, o, none⟩ = some v := by
  have hg := (h.stored j u).2
  rw [hg.cell_far _ (lt_of_cell hc) (by simp; exact hne)]
  exact hc
theorem Pair.set {w : World} {base e g n c : Nat} {xs : List Value} {G E : Nat} {A B L : Int} (hp : Pair w G E A B L) (h : w.ownsRow base e 1 (.slice (some ⟨g, 0, none⟩) n c) n xs) (j : Nat) (u : Value) (h1 : G ≠ g) (h2 : E ≠ g) : Pair (w.setCell ⟨g, j, none⟩ u) G E A B L :=
  ⟨cell_off h j u h1 hp.1, cell_off h j u h1 hp.2.1, cell_off h j u h1 hp.2.2.1, cell_off h j u h1 hp.2.2.2.1, cell_off h j u h2 hp.2.2.2.2⟩
theorem tabI_at {n j : Nat} (f : Nat → Int) {w : World} {base e g c : Nat} (h : w.ownsRow base e 1 (.slice (some ⟨g, 0, none⟩) n c) n ((tabI n f).map (Value.int .i64))) (hj : j < n) : w.cell? ⟨g, j, none⟩ = some (.int .i64 (f j)) := by
  have h1 := owns_get h j hj (by rw [tabI_len]; exact hj)
  rwa [tabI_get] at h1
theorem tabI_put {n : Nat} {f : Nat → Int} {w : World} {base e g c : Nat} (h : w.ownsRow base e 1 (.slice (some ⟨g, 0, none⟩) n c) n ((tabI n f).map (Value.int .i64))) (j : Nat) (v : Int) : (w.setCell ⟨g, j, none⟩ (.int .i64 v)).ownsRow base e 1 (.slice (some ⟨g, 0, none⟩) n c) n ((tabI n (upd f j v)).map (Value.int .i64)) := by
  have h1 := owns_set h j v
  rwa [tabI_upd] at h1

/-- What a search answers: a row of how far each place is. -/
def FromPost (places r : Nat) (xs : List R3) (w : World) (e : Ending) (w' : World) : Prop := ∃ a' cap' f, e = .returned (.slice a' places cap') ∧ Elems encI 1 w' a' (tabI places f) ∧ Grow xs r f ∧ Closed xs f ∧ Below w.heap.size w w'

set_option maxRecDepth 100000 in
set_option maxHeartbeats 8000000 in
theorem from_any (a : Option Addr) (n cap places r : Nat) (xs : List R3) (w : World) (hl : n = xs.length) (hn : xs.length ≤ 100) (hp : places ≤ 60) (hr : r < places) (hE : ∀ e ∈ xs, okEdge places e) (hx : Elems enc3 3 w a xs) :
    Calls Tryd.prog 48 #[.int .i64 places, .slice a n cap, .int .i64 r] w (FromPost places r xs w) := by
  subst hl
  have HE := Lib.hid hE
  have HX := Lib.hid hx
  clear hE hx
  go_enter Tryd.func48, Tryd.ntmps48
  go_wp2_with (at_make; refine make_row _ rowN rfl _ _ rfl w.heap.size _ _ _ _ places rfl rfl rfl rfl (by omega) (by unfold maxLen; omega) (Nat.le_refl _) ?_)
  intro w1 hown hb
  rw [made_ints places, tabI_rep, tabI_congr (g := fun y => if y < 0 then -1 else 0) (fun y _ => by simp)] at hown
  have hg2 := (owns_base hown).2
  generalize hgE : w.heap.size = g at *
  go_wp2
  go_loopw [18] (fun i wr => ∃ k : Nat, k ≤ places ∧ i = .int .i64 k ∧ wr.ownsRow g 3 1 (.slice (some ⟨g, 0, none⟩) places places) places ((tabI places (fun y => if y < k then -1 else 0)).map (Value.int .i64)) ∧ Below g w wr) (fun i _ => places - (intOf i).toNat)
  case atStart => exact ⟨0, by omega, rfl, hown, hb⟩
  case round =>
    clear hown hb
    obtain ⟨k, hk, rfl, hown, hb⟩ := hrel
    by_cases hlt : k < places
    · have h1 := tabI_at _ hown hlt
      have hset := tabI_put hown k (-1)
      rw [tabI_congr (g := fun y => if y < k + 1 then -1 else 0) (fun y _ => by
        unfold upd
        by_cases h : y = k
        · subst h; simp
        · rw [if_neg h]
          by_cases h2 : y < k
          · simp only [if_pos h2, if_pos (show y < k + 1 by omega)]
          · simp only [if_neg h2, if_neg (show ¬ y < k + 1 by omega)])] at hset
      have hfz := hown.frozenAt k
      clear hown
      generalize (if k < k then (-1 : Int) else 0) = v at *
      go_wp2
      go_roundw
      case rel => exact ⟨k + 1, by omega, by go_num, hset, hb.setCell (by simp) _⟩
      case measure => simp [intOf]; omega
    · obtain rfl : k = places := by omega
      rw [tabI_congr (g := fun _ => -1) (fun y hy => by rw [if_pos hy])] at hown
      have h1 := tabI_at _ hown hr
      have hset := tabI_put hown r 0
      have hfz := hown.frozenAt r
      have hbs := hb.setCell (p := ⟨g, r, none⟩) (by simp) (.int .i64 0)
      clear hown hb hlt
      go_wp2
      rw [show upd (fun _ => -1) r 0 = startF r from rfl] at hset
      go_loopg [9] (2 * unr k (startF r) + 1) (fun gh av wr => ∃ (f : Nat → Int) (ag : Bool), av = .bool ag ∧ wr.ownsRow g 3 1 (.slice (some ⟨g, 0, none⟩) k k) k ((tabI k f).map (Value.int .i64)) ∧ Hid (Grow xs r f ∧ (ag = false → Closed xs f) ∧ 2 * unr k f + (if ag = true then 1 else 0) = gh) ∧ Below g w wr)
      case atStart => exact ⟨startF r, true, rfl, hset, Lib.hid ⟨Grow.start, fun h => by simp at h, by simp⟩, hbs⟩
      case round =>
        clear hset hbs h1 hfz
        obtain ⟨f0, ag, rfl, hown, HG, hb⟩ := hrel
        cases ag with
        | false =>
          obtain ⟨a', cap', he0, he, _⟩ := ints_of_owns (tabI_len _ _).symm hown
          obtain ⟨rfl, hq0, rfl⟩ := Value.slice.inj he0
          clear hq0 he0
          go_wp2
          go_ret
          unfold FromPost
          exact ⟨_, _, f0, rfl, he, HG.out.1, HG.out.2.1 (by first | rfl | trivial), by rw [hgE]; exact hb⟩
        | true =>
          have hF0 : FrS k xs r f0 f0 false (closedTo xs 0 f0) := ⟨HG.out.1, fun _ => ⟨rfl, fun j hj hjk => by omega⟩, fun h => by simp at h⟩
          have HGM := Lib.hid HG.out.2.2
          have HF0 := Lib.hid hF0
          clear HG hF0
          go_wp2
          go_loopw [9, 31] (fun av i wi => ∃ (j : Nat) (f : Nat → Int) (ag : Bool), j ≤ xs.length ∧ i = .int .i64 j ∧ av = .bool ag ∧ wi.ownsRow g 3 1 (.slice (some ⟨g, 0, none⟩) k k) k ((tabI k f).map (Value.int .i64)) ∧ Hid (FrS k xs r f0 f ag (closedTo xs j f0)) ∧ Below g w wi) (fun _ i _ => xs.length - (intOf i).toNat)
          case atStart => exact ⟨0, f0, false, by omega, rfl, rfl, hown, HF0, hb⟩
          case round =>
            clear hown HF0 hb
            obtain ⟨j, f, ag, hj, rfl, rfl, hown, HF, hb⟩ := hrel
            by_cases hlt : j < xs.length
            · obtain ⟨b, o, rfl, hc⟩ := HX.out.some hlt
              have hbL := fun i u h => lt_of_cell (hc j hlt i u h)
              have c1 := (hb.cell (by rw [← hgE]; exact hbL 0 _ rfl)).trans (hc j hlt 0 _ rfl)
              have c2 := (hb.cell (by rw [← hgE]; exact hbL 1 _ rfl)).trans (hc j hlt 1 _ rfl)
              have c3 := (hb.cell (by rw [← hgE]; exact hbL 2 _ rfl)).trans (hc j hlt 2 _ rfl)
              simp only [Nat.add_zero] at c1
              have hok := HE.out _ (List.getElem_mem hlt)
              obtain ⟨p, hp0⟩ := Int.eq_ofNat_of_zero_le hok.1
              obtain ⟨i, hi0⟩ := Int.eq_ofNat_of_zero_le hok.2.2.1
              have hpk : p < k := by have := hok.2.1; omega
              have hik : i < k := by have := hok.2.2.2.1; omega
              have hL1 := hok.2.2.2.2.1
              have hL2 := hok.2.2.2.2.2
              have HP0 := Lib.hid (show xs[j].1 = (p : Int) ∧ xs[j].2.1 = (i : Int) from ⟨hp0, hi0⟩)
              have HLX : Hid (∃ e, e ∈ xs ∧ e.2.2 = xs[j].2.2 ∧ joins e p i) := Lib.hid ⟨_, List.getElem_mem hlt, rfl, Or.inl ⟨hp0, hi0⟩⟩
              rw [hp0] at c1
              rw [hi0] at c2
              have hgs := (owns_base hown).2
              clear hc hbL hok hp0 hi0
              generalize xs[j].2.2 = L at *
              have hbs : g ≤ wr.heap.size := by rw [← hgE]; exact hb.size
              have hgs := (owns_base hown).2
              have hba := (hb.alloc hbs (.cells #[.int .i64 p, .int .i64 i, .int .i64 L] 81)).alloc (by simp; omega) (.cells #[.int .i64 p, .int .i64 i, .int .i64 i, .int .i64 p] 130)
              have howna := (hown.alloc (.cells #[.int .i64 p, .int .i64 i, .int .i64 L] 81)).alloc (.cells #[.int .i64 p, .int .i64 i, .int .i64 i, .int .i64 p] 130)
              have hpr : Pair ((wr.alloc (.cells #[.int .i64 p, .int .i64 i, .int .i64 L] 81)).alloc (.cells #[.int .i64 p, .int .i64 i, .int .i64 i, .int .i64 p] 130)) (wr.heap.size + 1) wr.heap.size p i L := by
                unfold Pair; refine ⟨?_, ?_, ?_, ?_, ?_⟩ <;> simp
              have hE1 : wr.heap.size ≠ g := by omega
              have hE2 : wr.heap.size + 1 ≠ g := by omega
              clear hown hb hbs hgs
              obtain ⟨wo, hwo⟩ : ∃ wo : World, wo = wr := ⟨_, rfl⟩
              subst hwo
              go_wp2
              clear c1 c2 c3
              generalize wo.heap.size = Eb at *
              go_loopw [9, 47] (fun av iv wi => ∃ (f : Nat → Int) (ag : Bool), av = .bool ag ∧ wi.ownsRow g 3 1 (.slice (some ⟨g, 0, none⟩) k k) k ((tabI k f).map (Value.int .i64)) ∧ Pair wi (Eb + 1) Eb p i L ∧ Below g w wi ∧
                  ((iv = .int .i64 0 ∧ Hid (FrS k xs r f0 f ag (closedTo xs j f0))) ∨ (iv = .int .i64 1 ∧ Hid (FrS k xs r f0 f ag (closedTo xs j f0 ∧ (0 ≤ f0 p → 0 ≤ f0 i)))) ∨ (iv = .int .i64 2 ∧ Hid (FrS k xs r f0 f ag ((closedTo xs j f0 ∧ (0 ≤ f0 p → 0 ≤ f0 i)) ∧ (0 ≤ f0 i → 0 ≤ f0 p)))))) (fun _ iv _ => 2 - (intOf iv).toNat)
              case atStart => exact ⟨f, ag, rfl, howna, hpr, hba, Or.inl ⟨rfl, HF⟩⟩
              case round =>
                clear howna hpr hba HF
                obtain ⟨f, ag, rfl, hown, hpr, hb, hq⟩ := hrel
                have hgs := (owns_base hown).2
                have hbs : g ≤ wr.heap.size := by rw [← hgE]; exact hb.size
                rcases hq with ⟨rfl, HF⟩ | ⟨rfl, HF⟩ | ⟨rfl, HF⟩
                · obtain ⟨h0, h1, h2, h3, h4⟩ := hpr
                  have hpr := Lib.hid (show Pair wr (Eb + 1) Eb p i L from ⟨h0, h1, h2, h3, h4⟩)
                  have u1 := cell_a1 (tabI_at f hown hpk) (.cells #[.int .i64 p, .int .i64 i] 130)
                  have u2 := cell_a1 (tabI_at f hown hik) (.cells #[.int .i64 p, .int .i64 i] 130)
                  have u3 := cell_a1 h4 (.cells #[.int .i64 p, .int .i64 i] 130)
                  have u4 := frozen_a1 (by simp; omega) (hown.frozenAt i) (.cells #[.int .i64 p, .int .i64 i] 130)
                  have hgl := grow_le HF.out.1 HE.out p
                  have hgl1 := hgl.1
                  have hgl2 : f p ≤ 60000000000 := by omega
                  have howna := hown.alloc (.cells #[.int .i64 p, .int .i64 i] 130)
                  have hba := hb.alloc hbs (.cells #[.int .i64 p, .int .i64 i] 130)
                  have hpra := hpr.out.alloc (.cells #[.int .i64 p, .int .i64 i] 130)
                  by_cases hc1 : 0 ≤ f p ∧ f i < 0
                  · have HF2 : Hid (FrS k xs r f0 (upd f i (f p + L)) true (closedTo xs j f0 ∧ (0 ≤ f0 p → 0 ≤ f0 i))) := Lib.hid (by
                      obtain ⟨e, he, hel, hej⟩ := HLX.out
                      have h9 := frs_hit (Q := closedTo xs j f0 ∧ (0 ≤ f0 p → 0 ≤ f0 i)) HF.out HE.out he (id hej) hc1.1 hc1.2
                      rw [hel] at h9
                      exact h9)
                    have hset := tabI_put hown i (f p + L)
                    have hps := Lib.hid ((hpr.out.set hown i (.int .i64 (f p + L)) hE2 hE1).alloc (.cells #[.int .i64 p, .int .i64 i] 130))
                    have hbs2 := (hb.setCell (p := ⟨g, i, none⟩) (by simp) (.int .i64 (f p + L))).alloc (by simpa using hbs) (.cells #[.int .i64 p, .int .i64 i] 130)
                    obtain ⟨hc1a, hc1b⟩ := hc1
                    clear hown hb howna hba hpra HF hgl hpr
                    generalize hfp : f p = vp at *
                    generalize hfi : f i = vi at *
                    have HFP := Lib.hid hfp
                    clear hfp hfi
                    go_wp2
                    go_region
                    go_wp2
                    refine ⟨⟨upd f i (vp + L), true, rfl, ?_, ?_, ?_, Or.inr (Or.inl ⟨by go_num, HF2⟩)⟩, by simp [intOf]⟩
                    · exact hset.alloc _
                    · exact hps.out
                    · first
                        | exact hbs2
                        | exact below_drewN' hbs2 1
                  · have HF2 := Lib.hid (frs_miss HF.out (p := p) (i := i) hc1)
                    clear hown hb HF hgl hpr
                    generalize hfp : f p = vp at *
                    generalize hfi : f i = vi at *
                    clear hfp hfi
                    have hpa := Lib.hid hpra
                    clear hpra
                    by_cases hc2 : 0 ≤ vp
                    · have hc3 : ¬ vi < 0 := fun h => hc1 ⟨hc2, h⟩
                      clear hc1
                      go_wp2
                      exact ⟨⟨f, ag, rfl, howna, hpa.out, hba, Or.inr (Or.inl ⟨by go_num, HF2⟩)⟩, by simp [intOf]⟩
                    · clear hc1
                      go_wp2
                      exact ⟨⟨f, ag, rfl, howna, hpa.out, hba, Or.inr (Or.inl ⟨by go_num, HF2⟩)⟩, by simp [intOf]⟩
                · obtain ⟨h0, h1, h2, h3, h4⟩ := hpr
                  have hpr := Lib.hid (show Pair wr (Eb + 1) Eb p i L from ⟨h0, h1, h2, h3, h4⟩)
                  have u1 := cell_a1 (tabI_at f hown hik) (.cells #[.int .i64 i, .int .i64 p] 130)
                  have u2 := cell_a1 (tabI_at f hown hpk) (.cells #[.int .i64 i, .int .i64 p] 130)
                  have u3 := cell_a1 h4 (.cells #[.int .i64 i, .int .i64 p] 130)
                  have u4 := frozen_a1 (by simp; omega) (hown.frozenAt p) (.cells #[.int .i64 i, .int .i64 p] 130)
                  have hgl := grow_le HF.out.1 HE.out i
                  have hgl1 := hgl.1
                  have hgl2 : f i ≤ 60000000000 := by omega
                  have howna := hown.alloc (.cells #[.int .i64 i, .int .i64 p] 130)
                  have hba := hb.alloc hbs (.cells #[.int .i64 i, .int .i64 p] 130)
                  have hpra := hpr.out.alloc (.cells #[.int .i64 i, .int .i64 p] 130)
                  by_cases hc1 : 0 ≤ f i ∧ f p < 0
                  · have HF2 : Hid (FrS k xs r f0 (upd f p (f i + L)) true ((closedTo xs j f0 ∧ (0 ≤ f0 p → 0 ≤ f0 i)) ∧ (0 ≤ f0 i → 0 ≤ f0 p))) := Lib.hid (by
                      obtain ⟨e, he, hel, hej⟩ := HLX.out
                      have h9 := frs_hit (Q := (closedTo xs j f0 ∧ (0 ≤ f0 p → 0 ≤ f0 i)) ∧ (0 ≤ f0 i → 0 ≤ f0 p)) HF.out HE.out he (joins_sym hej) hc1.1 hc1.2
                      rw [hel] at h9
                      exact h9)
                    have hset := tabI_put hown p (f i + L)
                    have hps := Lib.hid ((hpr.out.set hown p (.int .i64 (f i + L)) hE2 hE1).alloc (.cells #[.int .i64 i, .int .i64 p] 130))
                    have hbs2 := (hb.setCell (p := ⟨g, p, none⟩) (by simp) (.int .i64 (f i + L))).alloc (by simpa using hbs) (.cells #[.int .i64 i, .int .i64 p] 130)
                    obtain ⟨hc1a, hc1b⟩ := hc1
                    clear hown hb howna hba hpra HF hgl hpr
                    generalize hfp : f i = vp at *
                    generalize hfi : f p = vi at *
                    have HFP := Lib.hid hfp
                    clear hfp hfi
                    go_wp2
                    go_region
                    go_wp2
                    refine ⟨⟨upd f p (vp + L), true, rfl, ?_, ?_, ?_, Or.inr (Or.inr ⟨by go_num, HF2⟩)⟩, by simp [intOf]⟩
                    · exact hset.alloc _
                    · exact hps.out
                    · first
                        | exact hbs2
                        | exact below_drewN' hbs2 1
                  · have HF2 := Lib.hid (frs_miss HF.out (p := i) (i := p) hc1)
                    clear hown hb HF hgl hpr
                    generalize hfp : f i = vp at *
                    generalize hfi : f p = vi at *
                    clear hfp hfi
                    have hpa := Lib.hid hpra
                    clear hpra
                    by_cases hc2 : 0 ≤ vp
                    · have hc3 : ¬ vi < 0 := fun h => hc1 ⟨hc2, h⟩
                      clear hc1
                      go_wp2
                      exact ⟨⟨f, ag, rfl, howna, hpa.out, hba, Or.inr (Or.inr ⟨by go_num, HF2⟩)⟩, by simp [intOf]⟩
                    · clear hc1
                      go_wp2
                      exact ⟨⟨f, ag, rfl, howna, hpa.out, hba, Or.inr (Or.inr ⟨by go_num, HF2⟩)⟩, by simp [intOf]⟩
                · have HF3 : Hid (FrS k xs r f0 f ag (closedTo xs (j + 1) f0)) := Lib.hid (frs_imp HF.out (fun h => closedTo_next hlt HP0.out.1 HP0.out.2 h))
                  clear HF hpr hgs
                  go_wp2
                  exact ⟨⟨j + 1, f, ag, by omega, by go_num, rfl, hown, HF3, hb⟩, by simp [intOf]; omega⟩
            · obtain rfl : j = xs.length := by omega
              go_wp2
              go_roundg (2 * unr k f + (if ag = true then 1 else 0))
              case measure =>
                have h1 := HF.out
                rw [← HGM.out]
                cases ag with
                | false => rw [(h1.2.1 rfl).1]; simp
                | true => have := h1.2.2 rfl; simp; omega
              case rel =>
                refine ⟨f, ag, rfl, hown, Lib.hid ⟨HF.out.1, fun ha => ?_, rfl⟩, hb⟩
                have h2 := HF.out.2.1 ha
                rw [h2.1]
                intro e he p i hj hp
                obtain ⟨j, hjl, rfl⟩ := List.mem_iff_getElem.1 he
                exact h2.2 j hjl hjl p i hj hp
end Go.Proofs.YtogbmpnbbkcocaaDoor
