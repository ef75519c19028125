/- The reference's far: a search that goes on from each place that it finds. -/
import Derived.Test.YtogbmpnbbkcocaaDoorTreeFrom
namespace Go.Proofs.YtogbmpnbbkcocaaDoor
open Go.RowKit

/-- What a search from place i on finds beside what was found. -/
def FarPost (es : List R3) (r : Nat) (f : Nat → Int) (i : Nat) (f' : Nat → Int) : Prop :=
  Grow es r f' ∧ (∀ y, 0 ≤ f y → f' y = f y) ∧ 0 ≤ f' i ∧ ∀ y, f y < 0 → 0 ≤ f' y → ∀ e ∈ es, ∀ z, joins e y z → 0 ≤ f' z
/-- Where it stands behind the first k edges. -/
def FarAt (es xs : List R3) (r : Nat) (wo : Int) (f1 : Nat → Int) (i : Nat) (f2 : Nat → Int) (k : Nat) : Prop :=
  Grow es r f2 ∧ (∀ y, 0 ≤ f1 y → f2 y = f1 y) ∧ (∀ y, f1 y < 0 → 0 ≤ f2 y → ∀ e ∈ es, ∀ z, joins e y z → 0 ≤ f2 z) ∧ ∀ j (h : j < xs.length), j < k → (j : Int) ≠ wo → ∀ z, joins xs[j] i z → 0 ≤ f2 z
theorem farAt_start {es xs : List R3} {r : Nat} {wo : Int} {f1 : Nat → Int} {i : Nat} (h : Grow es r f1) : FarAt es xs r wo f1 i f1 0 :=
  ⟨h, fun _ _ => rfl, fun y h1 h2 => by omega, fun j _ hj => by omega⟩
theorem farAt_skip {es xs : List R3} {r : Nat} {wo : Int} {f1 : Nat → Int} {i : Nat} {f2 : Nat → Int} {k : Nat} (h : FarAt es xs r wo f1 i f2 k) (hk : (k : Int) ≠ wo → ∀ (hk : k < xs.length) z, joins xs[k] i z → 0 ≤ f2 z) : FarAt es xs r wo f1 i f2 (k + 1) := by
  refine ⟨h.1, h.2.1, h.2.2.1, fun j hj hjk hw z hz => ?_⟩
  by_cases hjk2 : j < k
  · exact h.2.2.2 j hj hjk2 hw z hz
  · obtain rfl : j = k := by omega
    exact hk hw hj z hz
theorem farAt_call {es xs : List R3} {r : Nat} {wo : Int} {f1 : Nat → Int} {i : Nat} {f2 f3 : Nat → Int} {k q : Nat} (h : FarAt es xs r wo f1 i f2 k) (hp : FarPost es r f2 q f3) (hk : ∀ (hk : k < xs.length) z, joins xs[k] i z → z = q ∨ 0 ≤ f2 z) : FarAt es xs r wo f1 i f3 (k + 1) := by
  have hkeep : ∀ y, 0 ≤ f2 y → 0 ≤ f3 y := fun y hy => by rw [hp.2.1 y hy]; exact hy
  refine ⟨hp.1, fun y hy => ?_, fun y h1 h2 e he z hz => ?_, fun j hj hjk hw z hz => ?_⟩
  · rw [hp.2.1 y (by rw [h.2.1 y hy]; exact hy), h.2.1 y hy]
  · by_cases h3 : 0 ≤ f2 y
    · exact hkeep z (h.2.2.1 y h1 h3 e he z hz)
    · exact hp.2.2.2 y (by omega) h2 e he z hz
  · by_cases hjk2 : j < k
    · exact hkeep z (h.2.2.2 j hj hjk2 hw z hz)
    · obtain rfl : j = k := by omega
      rcases hk hj z hz with rfl | h4
      · exact hp.2.2.1
      · exact hkeep z h4
theorem farAt_done {es xs : List R3} {r : Nat} {wo : Int} {f : Nat → Int} {i : Nat} {d : Int} {f2 : Nat → Int} (hes : ∀ e ∈ es, ∃ k, ∃ h : k < xs.length, (k : Int) ≠ wo ∧ xs[k] = e) (hi : f i < 0) (hd : 0 ≤ d) (h : FarAt es xs r wo (upd f i d) i f2 xs.length) : FarPost es r f i f2 := by
  refine ⟨h.1, fun y hy => ?_, ?_, fun y h1 h2 e he z hz => ?_⟩
  · have hne : y ≠ i := fun h2 => by rw [h2] at hy; omega
    have := h.2.1 y (by rw [upd_ne _ _ hne]; exact hy)
    rwa [upd_ne _ _ hne] at this
  · rw [h.2.1 i (by rw [upd_at]; exact hd), upd_at]; exact hd
  · by_cases hyi : y = i
    · subst hyi
      obtain ⟨k, hk, hw, rfl⟩ := hes e he
      exact h.2.2.2 k hk hk hw z hz
    · exact h.2.2.1 y (by rw [upd_ne _ _ hyi]; exact h1) h2 e he z hz

theorem enter_of {P : Program} {f : FuncId} {fn : Func} {c : Code} (hf : P.funcs[f]? = some fn) (hname : (fn.name == "runtime.NumGoroutine") = false) (hb : fn.body = some c) : ∀ args w, (callFunc f args).run P w = .ok (.enter f args) w := by
  intro args w
  have h1 : fn.name ≠ "runtime.NumGoroutine" := by simpa using hname
  simp [callFunc, hf, h1, hb, mark]
theorem unr_mono {n : Nat} {f g : Nat → Int} (h : ∀ y, 0 ≤ f y → 0 ≤ g y) : unr n g ≤ unr n f := by
  induction n with
  | zero => simp [unr]
  | succ n ih =>
    unfold unr
    have := h n
    split <;> split <;> omega
theorem eg_far1 : ∀ args w, (callFunc 67 args).run Tryd.prog w = .ok (.enter 67 args) w := enter_of Tryd.func67 (by kernel_rfl) rfl

/-- The variables that the search goes by. -/
def FarVars (w : World) (B9 B5 B7 B11 g n : Nat) (a : Option Addr) (len cap : Nat) (wo : Int) : Prop :=
  w.cell? ⟨B9, 0, none⟩ = some (.slice (some ⟨g, 0, none⟩) n n) ∧ w.cell? ⟨B5, 0, none⟩ = some (.slice a len cap) ∧ w.cell? ⟨B7, 0, none⟩ = some (.int .i64 wo) ∧
    w.cell? ⟨B11, 0, none⟩ = some (.func (.func 67) #[] #[.pointer (some ⟨B9, 0, none⟩), .pointer (some ⟨B5, 0, none⟩), .pointer (some ⟨B7, 0, none⟩), .pointer (some ⟨B11, 0, none⟩)])
theorem FarVars.kept {w w' : World} {B9 B5 B7 B11 g n : Nat} {a : Option Addr} {len cap : Nat} {wo : Int} (h : FarVars w B9 B5 B7 B11 g n a len cap wo) (hg : w.grownBy w' (some g)) (hne : B9 ≠ g ∧ B5 ≠ g ∧ B7 ≠ g ∧ B11 ≠ g) : FarVars w' B9 B5 B7 B11 g n a len cap wo := by
  refine ⟨?_, ?_, ?_, ?_⟩
  · rw [hg.cell_far _ (lt_of_cell h.1) (by simp; exact hne.1)]; exact h.1
  · rw [hg.cell_far _ (lt_of_cell h.2.1) (by simp; exact hne.2.1)]; exact h.2.1
  · rw [hg.cell_far _ (lt_of_cell h.2.2.1) (by simp; exact hne.2.2.1)]; exact h.2.2.1
  · rw [hg.cell_far _ (lt_of_cell h.2.2.2) (by simp; exact hne.2.2.2)]; exact h.2.2.2
theorem grown_next {w w' w'' : World} {row : Option Nat} (h : w.grownBy w' row) (k : w'.grownBy w'' row) : w.grownBy w'' row :=
  ⟨k.os.trans h.os, k.tape.trans h.tape, k.output.trans h.output, Nat.le_trans h.size k.size, fun j hj hne => (k.block j (Nat.lt_of_lt_of_le hj h.size) hne).trans (h.block j hj hne)⟩
theorem grown_refl (w : World) (row : Option Nat) : w.grownBy w row := ⟨rfl, rfl, rfl, Nat.le_refl _, fun _ _ _ => rfl⟩
def WalkPost (es : List R3) (r base g n : Nat) (f : Nat → Int) (i : Nat) (w : World) (e : Ending) (w' : World) : Prop :=
  e = .returned (.tuple #[]) ∧ ∃ f', w.grownBy w' (some g) ∧ w'.ownsRow base 3 1 (.slice (some ⟨g, 0, none⟩) n n) n ((tabI n f').map (Value.int .i64)) ∧ FarPost es r f i f'

set_option maxRecDepth 100000 in
set_option maxHeartbeats 8000000 in
theorem farWalk_any (es xs : List R3) (r n : Nat) (wo : Int) (a : Option Addr) (cap : Nat) (w0 : World) (B9 B5 B7 B11 g base : Nat) (hn : xs.length ≤ 100) (hn60 : n ≤ 60) (hE : ∀ e ∈ xs, okEdge n e)
    (hes : ∀ e, e ∈ es ↔ ∃ k, ∃ h : k < xs.length, (k : Int) ≠ wo ∧ xs[k] = e) (hx : Elems enc3 3 w0 a xs) (hB0 : w0.heap.size ≤ g) (hne : B9 ≠ g ∧ B5 ≠ g ∧ B7 ≠ g ∧ B11 ≠ g) : ∀ (m : Nat) (f : Nat → Int) (i : Nat) (d : Int) (w : World), unr n f ≤ m → i < n → f i < 0 → 0 ≤ d → Grow es r (upd f i d) →
    FarVars w B9 B5 B7 B11 g n a xs.length cap wo → w.ownsRow base 3 1 (.slice (some ⟨g, 0, none⟩) n n) n ((tabI n f).map (Value.int .i64)) → Below w0.heap.size w0 w →
    Calls Tryd.prog 67 #[.int .i64 i, .int .i64 d, .pointer (some ⟨B9, 0, none⟩), .pointer (some ⟨B5, 0, none⟩), .pointer (some ⟨B7, 0, none⟩), .pointer (some ⟨B11, 0, none⟩)] w (WalkPost es r base g n f i w) := by
  intro m
  induction m with
  | zero =>
    intro f i d w hm hi hfi hd _ _ _ _
    have := unr_set n f i d hi hfi hd
    omega
  | succ m ih =>
    intro f i d w hm hi hfi hd hG hv hown hb
    have hdec := unr_set n f i d hi hfi hd
    have hEs : ∀ e ∈ es, okEdge n e := fun e he => by
      obtain ⟨k, hk, _, rfl⟩ := (hes e).1 he
      exact hE _ (List.getElem_mem hk)
    have hbd := (grow_le hG hEs i).2
    rw [upd_at] at hbd
    have hd2 : d ≤ 60000000000 := by omega
    have f1 := tabI_at f hown hi
    have f2 := hown.frozenAt i
    have hset := tabI_put hown i d
    have hgs := (hown.stored i (.int .i64 d)).2
    obtain ⟨v1, v2, v3, v4⟩ := hv
    have HV := Lib.hid (show FarVars w B9 B5 B7 B11 g n a xs.length cap wo from ⟨v1, v2, v3, v4⟩)
    have v2' := cell_off hown i (.int .i64 d) hne.2.1 v2
    have HNE := Lib.hid hne
    have HIH := Lib.hid ih
    have HES := Lib.hid hes
    have HEE := Lib.hid hE
    have HEs := Lib.hid hEs
    have HX := Lib.hid hx
    have HFI := Lib.hid (show f i < 0 ∧ 0 ≤ d from ⟨hfi, hd⟩)
    have HB := Lib.hid hb
    have HM := Lib.hid (show unr n (upd f i d) ≤ m by omega)
    have HF : Hid (FarAt es xs r wo (upd f i d) i (upd f i d) 0) := Lib.hid (farAt_start hG)
    clear hes hE hEs hx ih hown hb hG hm hdec hne hfi hbd
    go_enter Tryd.func67, Tryd.ntmps67
    go_wp2
    clear f1 f2 v1 v2 v3 v4 v2'
    go_loopw [16] (fun iv wr => ∃ (k : Nat) (f2 : Nat → Int), k ≤ xs.length ∧ iv = .int .i64 k ∧ w.grownBy wr (some g) ∧ wr.ownsRow base 3 1 (.slice (some ⟨g, 0, none⟩) n n) n ((tabI n f2).map (Value.int .i64)) ∧ Hid (FarAt es xs r wo (upd f i d) i f2 k)) (fun iv _ => xs.length - (intOf iv).toNat)
    case atStart => exact ⟨0, upd f i d, by omega, rfl, hgs, hset, HF⟩
    case round =>
      clear hgs hset HF
      obtain ⟨k, f2, hk, rfl, hgr, hown, HF⟩ := hrel
      by_cases hlt : k < xs.length
      · obtain ⟨b, o, rfl, hc⟩ := HX.out.some hlt
        have hb := Below.grown HB.out hgr HB.out.size (fun k hk => by cases hk; exact hB0)
        have c1 := (hb.cell (lt_of_cell (hc k hlt 0 _ rfl))).trans (hc k hlt 0 _ rfl)
        have c2 := (hb.cell (lt_of_cell (hc k hlt 1 _ rfl))).trans (hc k hlt 1 _ rfl)
        have c3 := (hb.cell (lt_of_cell (hc k hlt 2 _ rfl))).trans (hc k hlt 2 _ rfl)
        simp only [Nat.add_zero] at c1
        have hok := HEE.out _ (List.getElem_mem hlt)
        obtain ⟨p, hp0⟩ := Int.eq_ofNat_of_zero_le hok.1
        obtain ⟨q, hq0⟩ := Int.eq_ofNat_of_zero_le hok.2.2.1
        have hpn : p < n := by have := hok.2.1; omega
        have hqn : q < n := by have := hok.2.2.2.1; omega
        have hL1 := hok.2.2.2.2.1
        have hL2 := hok.2.2.2.2.2
        have HJ : Hid (∀ (hk : k < xs.length) x z, joins xs[k] x z → (x = p ∧ z = q) ∨ (x = q ∧ z = p)) := Lib.hid (fun _ x z hj => by
          unfold joins at hj
          omega)
        have HEM : Hid ((k : Int) ≠ wo → ∃ e ∈ es, e.2.2 = xs[k].2.2 ∧ joins e p q) := Lib.hid (fun h => ⟨_, (HES.out _).2 ⟨k, hlt, h, rfl⟩, rfl, Or.inl ⟨hp0, hq0⟩⟩)
        rw [hp0] at c1
        rw [hq0] at c2
        have hgs := (owns_base hown).2
        have hvk := HV.out.kept hgr HNE.out
        obtain ⟨v1, v2, v3, v4⟩ := hvk
        have hf2i : f2 i = d := by rw [HF.out.2.1 i (by rw [upd_at]; exact HFI.out.2), upd_at]
        have HFI2 := Lib.hid hf2i
        clear hc hok hp0 hq0 hf2i
        generalize xs[k].2.2 = L at *
        have w1 := cell_a1 v1 (.cells #[.int .i64 p, .int .i64 q, .int .i64 L] 82)
        have w3 := cell_a1 v3 (.cells #[.int .i64 p, .int .i64 q, .int .i64 L] 82)
        have w4 := cell_a1 v4 (.cells #[.int .i64 p, .int .i64 q, .int .i64 L] 82)
        have u1 := cell_a1 (tabI_at f2 hown hpn) (.cells #[.int .i64 p, .int .i64 q, .int .i64 L] 82)
        have u2 := cell_a1 (tabI_at f2 hown hqn) (.cells #[.int .i64 p, .int .i64 q, .int .i64 L] 82)
        have howna := hown.alloc (.cells #[.int .i64 p, .int .i64 q, .int .i64 L] 82)
        have hgra := grown_next hgr (World.grownBy_alloc wr (.cells #[.int .i64 p, .int .i64 q, .int .i64 L] 82) (some g))
        by_cases hwo : (k : Int) = wo
        · have hd : ((k : Int) == wo) = true := by simpa using hwo
          have HF2 := Lib.hid (farAt_skip HF.out (fun h => absurd hwo h))
          clear HF hgr hown hwo u1 u2
          go_wp2
          exact ⟨⟨k + 1, f2, by omega, by go_num, hgra, howna, HF2⟩, by simp [intOf]; omega⟩
        have hd : ((k : Int) == wo) = false := by simpa using hwo
        by_cases hpi : p = i
        · rw [hpi] at c1 w1 w3 w4 u1 u2 howna hgra
          by_cases hqi : q = i
          · have HF2 : Hid (FarAt es xs r wo (upd f i d) i f2 (k + 1)) := Lib.hid (farAt_skip HF.out (fun _ hk z hz => by
              have h := HJ.out hk i z hz
              have hzi : z = i := by omega
              rw [hzi, HFI2.out]; exact HFI.out.2))
            rw [hqi] at w1 w3 w4 u2 howna hgra
            rw [hqi] at c2
            have hnn : ¬ f2 i < 0 := by rw [HFI2.out]; have := HFI.out.2; omega
            clear HF hgr hown hwo u1 hpi hqi
            generalize f2 i = vi at *
            go_wp2
            exact ⟨⟨k + 1, f2, by omega, by go_num, hgra, howna, HF2⟩, by simp [intOf]; omega⟩
          · have hqd : ((q : Int) == (i : Int)) = false := by simp; omega
            by_cases hfq : f2 q < 0
            · have hcall : Grow es r (upd f2 q (d + L)) := by
                obtain ⟨e, he, hel, hej⟩ := HEM.out hwo
                have h := Grow.step HF.out.1 he (hpi ▸ hej) (by rw [HFI2.out]; exact HFI.out.2) hfq
                rw [HFI2.out, hel] at h
                exact h
              have hun : unr n f2 ≤ m := Nat.le_trans (unr_mono (fun y hy => by rw [HF.out.2.1 y hy]; exact hy)) HM.out
              have hva : FarVars (wr.alloc (.cells #[.int .i64 i, .int .i64 q, .int .i64 L] 82)) B9 B5 B7 B11 g n (some ⟨b, o, none⟩) xs.length cap wo := (HV.out.kept hgra HNE.out)
              have hba := Below.grown HB.out hgra HB.out.size (fun k hk => by cases hk; exact hB0)
              have HC := Lib.hid (HIH.out f2 q (d + L) _ hun hqn hfq (by omega) hcall hva howna hba)
              have HFC : Hid (∀ f3, FarPost es r f2 q f3 → FarAt es xs r wo (upd f i d) i f3 (k + 1)) := Lib.hid (fun f3 hp => farAt_call HF.out hp (fun hk z hz => by
                have h := HJ.out hk i z hz
                omega))
              have hE9 : wr.heap.size ≠ g := by omega
              clear HF hgr hown hwo u1 hpi hqi hcall hun hva hba
              generalize f2 q = vq at *
              go_wp2_with fail
              refine HC.out.mono ?_
              intro e w2 hw2
              unfold WalkPost at hw2
              obtain ⟨rfl, f3, hgr3, hown3, hp3⟩ := hw2
              have y1 := (hgr3.cell_far ⟨wr.heap.size, 1, none⟩ (by simp) (by simp; exact hE9)).trans (show (wr.alloc (.cells #[.int .i64 i, .int .i64 q, .int .i64 L] 82)).cell? ⟨wr.heap.size, 1, none⟩ = some (.int .i64 q) by simp)
              have HF2 := Lib.hid (HFC.out f3 hp3)
              have hgra := grown_next hgra hgr3
              have howna := hown3
              clear hp3 hgr3 hown3
              go_wp2
              exact ⟨⟨k + 1, f3, by omega, by go_num, hgra, howna, HF2⟩, by simp [intOf]; omega⟩
            · have HF2 : Hid (FarAt es xs r wo (upd f i d) i f2 (k + 1)) := Lib.hid (farAt_skip HF.out (fun _ hk z hz => by
                have h := HJ.out hk i z hz
                have hzq : z = q := by omega
                rw [hzq]; omega))
              clear HF hgr hown hwo u1 hpi hqi
              generalize f2 q = vq at *
              go_wp2
              exact ⟨⟨k + 1, f2, by omega, by go_num, hgra, howna, HF2⟩, by simp [intOf]; omega⟩
        · have hpd : ((p : Int) == (i : Int)) = false := by simp; omega
          by_cases hqi : q = i
          · rw [hqi] at c2
            by_cases hfp : f2 p < 0
            · have hcall : Grow es r (upd f2 p (d + L)) := by
                obtain ⟨e, he, hel, hej⟩ := HEM.out hwo
                have h := Grow.step HF.out.1 he (hqi ▸ joins_sym hej) (by rw [HFI2.out]; exact HFI.out.2) hfp
                rw [HFI2.out, hel] at h
                exact h
              have hun : unr n f2 ≤ m := Nat.le_trans (unr_mono (fun y hy => by rw [HF.out.2.1 y hy]; exact hy)) HM.out
              have hva : FarVars (wr.alloc (.cells #[.int .i64 p, .int .i64 i, .int .i64 L] 82)) B9 B5 B7 B11 g n (some ⟨b, o, none⟩) xs.length cap wo := HV.out.kept (grown_next hgr (World.grownBy_alloc wr _ (some g))) HNE.out
              have hba := Below.grown HB.out (grown_next hgr (World.grownBy_alloc wr (.cells #[.int .i64 p, .int .i64 i, .int .i64 L] 82) (some g))) HB.out.size (fun k hk => by cases hk; exact hB0)
              have HC := Lib.hid (HIH.out f2 p (d + L) _ hun hpn hfp (by omega) hcall hva (hown.alloc _) hba)
              have HFC : Hid (∀ f3, FarPost es r f2 p f3 → FarAt es xs r wo (upd f i d) i f3 (k + 1)) := Lib.hid (fun f3 hp => farAt_call HF.out hp (fun hk z hz => by
                have h := HJ.out hk i z hz
                omega))
              rw [hqi] at w1 w3 w4 u1 hgra
              clear HF hgr hown hwo u2 hpi hqi hcall hun hva hba howna
              generalize f2 p = vp at *
              go_wp2_with fail
              refine HC.out.mono ?_
              intro e w2 hw2
              unfold WalkPost at hw2
              obtain ⟨rfl, f3, hgr3, hown3, hp3⟩ := hw2
              have HF2 := Lib.hid (HFC.out f3 hp3)
              have hgra := grown_next hgra hgr3
              have howna := hown3
              clear hp3 hgr3 hown3
              go_wp2
              exact ⟨⟨k + 1, f3, by omega, by go_num, hgra, howna, HF2⟩, by simp [intOf]; omega⟩
            · have HF2 : Hid (FarAt es xs r wo (upd f i d) i f2 (k + 1)) := Lib.hid (farAt_skip HF.out (fun _ hk z hz => by
                have h := HJ.out hk i z hz
                have hzp : z = p := by omega
                rw [hzp]; omega))
              rw [hqi] at w1 w3 w4 u1 hgra howna
              clear HF hgr hown hwo u2 hpi hqi
              generalize f2 p = vp at *
              go_wp2
              exact ⟨⟨k + 1, f2, by omega, by go_num, hgra, howna, HF2⟩, by simp [intOf]; omega⟩
          · have hqd : ((q : Int) == (i : Int)) = false := by simp; omega
            have HF2 : Hid (FarAt es xs r wo (upd f i d) i f2 (k + 1)) := Lib.hid (farAt_skip HF.out (fun _ hk z hz => by
                have h := HJ.out hk i z hz
                omega))
            clear HF hgr hown hwo u1 u2 hpi hqi
            go_wp2
            exact ⟨⟨k + 1, f2, by omega, by go_num, hgra, howna, HF2⟩, by simp [intOf]; omega⟩
      · obtain rfl : k = xs.length := by omega
        go_wp2
        go_end0
        unfold WalkPost
        exact ⟨rfl, f2, hgr, hown, farAt_done (fun e he => (HES.out e).1 he) HFI.out.1 HFI.out.2 HF.out⟩
end Go.Proofs.YtogbmpnbbkcocaaDoor
