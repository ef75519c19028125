/- shop.Hu (10.3): levels and who waits, then time by time the first of a sorted row. -/
import Derived.Test.YtfaklhkdfpfjgaaDoorHuM
import Derived.Test.YtfaklhkdfpfjgaaDoorContF
import Derived.Test.YtfaklhkdfpfjgaaDoorAppI
import Derived.Test.YtfaklhkdfpfjgaaDoorTabN
import Derived.Test.YtfaklhkdfpfjgaaDoorTell
import Derived.BigQuiet
import Derived.Deep.DeepCutAuto
namespace Go.Proofs.YtfaklhkdfpfjgaaDoor
open Go.RowKit

theorem eg_hu1 : ∀ args w, (callFunc 77 args).run Tryd.prog w = .ok (.enter 77 args) w := enter_of Tryd.func77 (by kernel_rfl) rfl
theorem eg_hu2 : ∀ args w, (callFunc 79 args).run Tryd.prog w = .ok (.enter 79 args) w := enter_of Tryd.func79 (by kernel_rfl) rfl
theorem huFn1_any (N0 n : Nat) (x : Int) (w : World) (hc : w.cell? ⟨N0, 0, none⟩ = some (.int .i64 (n : Int))) : Calls Tryd.prog 77 #[.int .i64 x, .pointer (some ⟨N0, 0, none⟩)] w fun e w' => e = .returned (.bool (badH n x)) ∧ Below w.heap.size w w' := by
  by_cases h1 : x < -1
  · have HB : Hid (badH n x = true) := Lib.hid (by simp [badH, h1])
    go_enter Tryd.func77, Tryd.ntmps77
    go_wp2
    go_ret
    exact ⟨by rw [HB.out]; rfl, Below.refl _ _⟩
  · by_cases h2 : (n : Int) ≤ x
    · have HB : Hid (badH n x = true) := Lib.hid (by simp [badH, h2])
      go_enter Tryd.func77, Tryd.ntmps77
      go_wp2
      go_ret
      exact ⟨by rw [HB.out]; rfl, Below.refl _ _⟩
    · have HB : Hid (badH n x = false) := Lib.hid (by simp [badH]; omega)
      go_enter Tryd.func77, Tryd.ntmps77
      go_wp2
      go_ret
      exact ⟨by rw [HB.out]; rfl, Below.refl _ _⟩
def lvH (next : List Int) (i : Nat) : Int := (levelM next (i : Int) : Int)
set_option maxRecDepth 100000 in
set_option maxHeartbeats 4000000 in
theorem huFn2_any (gl bl n : Nat) (next : List Int) (x y : Int) (w : World) (hn : n = next.length) (hb : ∀ k : Nat, k < n → levelM next k ≤ 60)
    (c1 : w.cell? ⟨bl, 0, none⟩ = some (.slice (some ⟨gl, 0, none⟩) n n)) (c2 : ∀ j, j < n → w.cell? ⟨gl, j, none⟩ = some (.int .i64 (lvH next j))) (x0 : 0 ≤ x) (x1 : x < n) (y0 : 0 ≤ y) (y1 : y < n) :
    Calls Tryd.prog 79 #[.int .i64 x, .int .i64 y, .pointer (some ⟨bl, 0, none⟩)] w fun e w' => e = .returned (.int .i64 (fH next x y)) ∧ Below w.heap.size w w' := by
  subst hn
  obtain ⟨i, rfl⟩ := Int.eq_ofNat_of_zero_le x0
  obtain ⟨k, rfl⟩ := Int.eq_ofNat_of_zero_le y0
  have p := c2 i (by omega)
  have q := c2 k (by omega)
  have HV : Hid (fH next i k = lvH next k - lvH next i) := Lib.hid rfl
  have b1 := hb i (by omega)
  have b2 := hb k (by omega)
  have b3 : 0 ≤ lvH next i ∧ lvH next i ≤ 60 := by unfold lvH; omega
  have b4 : 0 ≤ lvH next k ∧ lvH next k ≤ 60 := by unfold lvH; omega
  clear c2 hb b1 b2
  generalize lvH next i = pv at *
  generalize lvH next k = qv at *
  obtain ⟨b5, b6⟩ := b3
  obtain ⟨b7, b8⟩ := b4
  have hwr : IntKind.i64.wrap (qv - pv) = qv - pv := IntWalk.i64_in _ (by omega)
  have hi2 : (i : Int) < (next.length : Int) := by omega
  have hk2 : (k : Int) < (next.length : Int) := by omega
  go_enter Tryd.func79, Tryd.ntmps79
  go_wp2
  go_quiet (fail)
  clear hwr
  go_wp2
  go_ret
  exact ⟨by rw [HV.out]; rfl, below_drewN _ _ _⟩
theorem grown_set (w : World) (b i : Nat) (v : Value) : w.grownBy (w.setCell ⟨b, i, none⟩ v) (some b) :=
  ⟨rfl, rfl, rfl, by simp [World.setCell], fun k _ hk => Below.heap_setCell _ _ _ _ (fun e => hk (by simp [e]))⟩
theorem owns_set0 {w : World} {base e size g n cap b i : Nat} {v : Value} {xs : List Value} (h : w.ownsRow base e size (.slice (some ⟨g, 0, none⟩) n cap) n xs) (hne : g ≠ b) : (w.setCell ⟨b, i, none⟩ v).ownsRow base e size (.slice (some ⟨g, 0, none⟩) n cap) n xs :=
  h.kept (grown_set w b i v) (Or.inr (by simp [Value.ownBlock]; exact hne))
/-- What stands at a place of a row, as a number. -/
def memI (w : World) (g k : Nat) : Nat := match w.cell? ⟨g, k, none⟩ with | some v => (intOf v).toNat | none => 0
theorem memI_eq {w : World} {g k c : Nat} (h : w.cell? ⟨g, k, none⟩ = some (.int .i64 (c : Int))) : memI w g k = c := by
  unfold memI
  rw [h]
  simp [intOf]
/-- How many of the first k stand ahead of a number. -/
def waitC (next : List Int) (k : Nat) (x : Nat) : Int := ((List.range k).countP (fun i => decide (next.getD i 0 = (x : Int))) : Nat)
theorem waitC_zero (next : List Int) (x : Nat) : waitC next 0 x = 0 := rfl
theorem waitC_succ (next : List Int) (k x : Nat) : waitC next (k + 1) x = waitC next k x + if next.getD k 0 = (x : Int) then 1 else 0 := by
  unfold waitC
  rw [List.range_succ, List.countP_append]
  simp only [List.countP_cons, List.countP_nil]
  by_cases h : next.getD k 0 = (x : Int)
  · rw [if_pos h, decide_eq_true h]; simp
  · rw [if_neg h, decide_eq_false h]; simp
theorem waitC_le (next : List Int) (k x : Nat) : 0 ≤ waitC next k x ∧ waitC next k x ≤ k := by
  unfold waitC
  have := List.countP_le_length (p := fun i => decide (next.getD i 0 = (x : Int))) (l := List.range k)
  rw [List.length_range] at this
  omega
theorem waitC_all (next : List Int) (m x : Nat) : waitC next next.length x = (waitM next (seqM next m 0) (x : Int) : Int) := by
  unfold waitC waitM
  congr 1
  refine count_same _ (fun j hj => ?_)
  have h : undone (seqM next m 0) (j : Int) = true := by
    unfold undone seqM
    rw [Int.toNat_natCast]
    simp [List.getD, hj]
  rw [h, Bool.and_true]
theorem waitM_le (next D : List Int) (x : Int) : waitM next D x ≤ next.length := by
  unfold waitM
  have := List.countP_le_length (p := fun k => decide (next.getD k 0 = x) && undone D (k : Int)) (l := List.range next.length)
  simpa using this
theorem tabH_of (M : List Int) : tab M.length (fun t => M.getD t 0) = M := by
  refine List.ext_getElem (by simp [tab]) fun t h1 h2 => ?_
  rw [tab_get]
  simp [List.getD, h2]
theorem nobadH {next : List Int} (hq : next.any (badH next.length) = false) : ∀ x ∈ next, -1 ≤ x ∧ x < next.length := by
  intro x hx
  have h4 : badH next.length x = false := by
    cases h5 : badH next.length x with
    | false => rfl
    | true => rw [List.any_eq_true.2 ⟨x, hx, h5⟩] at hq; cases hq
  simp only [badH, Bool.or_eq_false_iff, decide_eq_false_iff_not] at h4
  omega
theorem huE_bad {next : List Int} {m : Int} (h : ¬ (m < 1 ∨ 20 < m ∨ 60 < next.length)) (hb : next.any (badH next.length) = true) : huErr next m = 2 := by
  unfold huErr
  rw [if_neg h, if_pos hb]
theorem huE_round {next : List Int} {m : Int} (h : ¬ (m < 1 ∨ 20 < m ∨ 60 < next.length)) (hq : next.any (badH next.length) = false) {k : Nat} (hk : k < next.length) (hb : next.length < levelM next k) : huErr next m = 12 := by
  unfold huErr
  rw [if_neg h, if_neg (by rw [hq]; simp), if_pos (List.any_eq_true.2 ⟨k, List.mem_range.2 hk, by simpa using hb⟩)]
theorem huE_none {next : List Int} {m : Int} (h : ¬ (m < 1 ∨ 20 < m ∨ 60 < next.length)) (hq : next.any (badH next.length) = false) (hl : ∀ k : Nat, k < next.length → levelM next k ≤ next.length) : huErr next m = 0 := by
  unfold huErr
  rw [if_neg h, if_neg (by rw [hq]; simp), if_neg]
  intro hx
  obtain ⟨k, hk, hv⟩ := List.any_eq_true.1 hx
  have := hl k (List.mem_range.1 hk)
  simp at hv
  omega
theorem endsH_at {next : List Int} {m T t : Nat} (h : EndsAt next m T) (ht : t ≤ T) (h0 : leftM next.length (seqM next m t) = 0) : t = T := by
  rcases Nat.lt_or_ge t T with g | g
  · exact absurd h0 (h.2 t g)
  · omega
theorem endsH_bd {next : List Int} {m : Nat} (hm : 1 ≤ m) (hl : ∀ k : Nat, k < next.length → levelM next k ≤ next.length) {T : Nat} (h : EndsAt next m T) : T ≤ next.length := by
  have key : ∀ t, t ≤ T → leftM next.length (seqM next m t) + t ≤ next.length := by
    intro t
    induction t with
    | zero => intro _; have := left_le next.length (seqM next m 0); omega
    | succ t ih =>
      intro ht
      have h1 := ih (by omega)
      have h2 := round_less hm hl (h.2 t (by omega))
      omega
  have := key T (Nat.le_refl _)
  omega
theorem undoneH_at {D : List Int} {k : Nat} (h : k < D.length) : undone D (k : Int) = decide (D[k] < 0) := by
  unfold undone
  rw [Int.toNat_natCast, getD_lt h]
theorem left_all (next : List Int) (m : Nat) : leftM next.length (seqM next m 0) = next.length := by
  unfold leftM
  rw [List.countP_eq_length.2 (fun k hk => ?_), List.length_range]
  rw [List.mem_range] at hk
  unfold undone seqM
  rw [Int.toNat_natCast]
  simp [List.getD, hk]
theorem seqH_zero (next : List Int) (m : Nat) : seqM next m 0 = tabN next.length (fun _ => -1) := tabN_same _ _
theorem elemsH_far {α : Type} {enc : α → List Value} {k : Nat} {w w' : World} {a : Option Addr} {xs : List α} {g : Nat} (h : Elems enc k w a xs) (hg : w.grownBy w' (some g)) (hne : ∀ p : Addr, a = some p → p.block ≠ g) : Elems enc k w' a xs := by
  rcases h with rfl | ⟨b, o, rfl, h⟩
  · exact Or.inl rfl
  · refine Or.inr ⟨b, o, rfl, fun j hj i u hu => ?_⟩
    have h1 := h j hj i u hu
    rw [hg.cell_far _ (lt_of_cell h1) (by simp; exact hne _ rfl)]
    exact h1
theorem grownH_two {w w' w'' : World} {row : Option Nat} (h : w.grownBy w' row) (k : w'.grownBy w'' row) : w.grownBy w'' row :=
  ⟨k.os.trans h.os, k.tape.trans h.tape, k.output.trans h.output, Nat.le_trans h.size k.size, fun j hj hne => (k.block j (Nat.lt_of_lt_of_le hj h.size) hne).trans (h.block j hj hne)⟩
theorem owned_intsH {w : World} {base g n : Nat} {D : List Int} (hD : D.length = n) (h : w.ownsRow base 3 1 (.slice (some ⟨g, 0, none⟩) n n) n (D.map (Value.int .i64))) : Elems encI 1 w (some ⟨g, 0, none⟩) D := by
  obtain ⟨a, c, hv, he, _⟩ := ints_of_owns hD.symm h
  obtain ⟨h1, _, _⟩ := Value.slice.inj hv
  rw [h1]; exact he
/-- How two rows and a box may lie that were laid in some order. -/
theorem lay_three (X : World) (Z : Array Value) (n : Nat) (xs : List Value) (hrow : ∀ (w : World) (base : Nat), base ≤ w.heap.size → (w.alloc (.cells Z 3)).ownsRow base 3 1 (.slice (some ⟨w.heap.size, 0, none⟩) n n) n xs) (v : Value) (T : TypeId) :
    (((((X.alloc (.cells Z 3)).alloc (.cells Z 3)).alloc (.cells #[v] T)).drew.cell? ⟨X.heap.size + 1 + 1, 0, none⟩ = some v ∧ (((X.alloc (.cells Z 3)).alloc (.cells Z 3)).alloc (.cells #[v] T)).drew.ownsRow X.heap.size 3 1 (.slice (some ⟨X.heap.size, 0, none⟩) n n) n xs ∧
      (((X.alloc (.cells Z 3)).alloc (.cells Z 3)).alloc (.cells #[v] T)).drew.ownsRow X.heap.size 3 1 (.slice (some ⟨X.heap.size + 1, 0, none⟩) n n) n xs ∧ Below X.heap.size X (((X.alloc (.cells Z 3)).alloc (.cells Z 3)).alloc (.cells #[v] T)).drew) ∧
    ((((X.alloc (.cells Z 3)).alloc (.cells #[v] T)).alloc (.cells Z 3)).drew.cell? ⟨X.heap.size + 1, 0, none⟩ = some v ∧ (((X.alloc (.cells Z 3)).alloc (.cells #[v] T)).alloc (.cells Z 3)).drew.ownsRow X.heap.size 3 1 (.slice (some ⟨X.heap.size, 0, none⟩) n n) n xs ∧
      (((X.alloc (.cells Z 3)).alloc (.cells #[v] T)).alloc (.cells Z 3)).drew.ownsRow X.heap.size 3 1 (.slice (some ⟨X.heap.size + 1 + 1, 0, none⟩) n n) n xs ∧ Below X.heap.size X (((X.alloc (.cells Z 3)).alloc (.cells #[v] T)).alloc (.cells Z 3)).drew) ∧
    ((((X.alloc (.cells #[v] T)).alloc (.cells Z 3)).alloc (.cells Z 3)).drew.cell? ⟨X.heap.size, 0, none⟩ = some v ∧ (((X.alloc (.cells #[v] T)).alloc (.cells Z 3)).alloc (.cells Z 3)).drew.ownsRow X.heap.size 3 1 (.slice (some ⟨X.heap.size + 1, 0, none⟩) n n) n xs ∧
      (((X.alloc (.cells #[v] T)).alloc (.cells Z 3)).alloc (.cells Z 3)).drew.ownsRow X.heap.size 3 1 (.slice (some ⟨X.heap.size + 1 + 1, 0, none⟩) n n) n xs ∧ Below X.heap.size X (((X.alloc (.cells #[v] T)).alloc (.cells Z 3)).alloc (.cells Z 3)).drew)) := by
  have hE : ∀ (w : World) (g : Nat), g = w.heap.size → X.heap.size ≤ w.heap.size → (w.alloc (.cells Z 3)).ownsRow X.heap.size 3 1 (.slice (some ⟨g, 0, none⟩) n n) n xs := fun w g hg hb => by rw [hg]; exact hrow w _ hb
  have hcn : ∀ (w : World) (g : Nat), g = w.heap.size → (w.alloc (.cells #[v] T)).cell? ⟨g, 0, none⟩ = some v := fun w g hg => by rw [hg]; simp
  have hB : ∀ o1 o2 o3, Below X.heap.size X (((X.alloc o1).alloc o2).alloc o3).drew := fun o1 o2 o3 => ((((Below.refl _ _).alloc (Nat.le_refl _) _).alloc (by simp) _).alloc (by simp; omega) _).drew
  refine ⟨⟨hcn _ _ (by simp), ((hE X _ rfl (Nat.le_refl _)).alloc _).alloc _, (hE _ _ (by simp) (by simp)).alloc _, hB _ _ _⟩, ⟨cell_a1 (hcn _ _ (by simp)) _, ((hE X _ rfl (Nat.le_refl _)).alloc _).alloc _, hE _ _ (by simp) (by simp; omega), hB _ _ _⟩, ⟨cell_a2 (hcn X _ rfl) _ _, (hE _ _ (by simp) (by simp)).alloc _, hE _ _ (by simp) (by simp; omega), hB _ _ _⟩⟩
def HuWPost (next : List Int) (m : Int) (w : World) (e : Ending) (w' : World) : Prop :=
  Below w.heap.size w w' ∧ ((huErr next m ≠ 0 ∧ e = .returned (.tuple #[.slice none 0 0, errV (huErr next m)])) ∨
    (huErr next m = 0 ∧ ∃ T a cap, EndsAt next m.toNat T ∧ e = .returned (.tuple #[.slice a next.length cap, .nilIface]) ∧ Elems encI 1 w' a (seqM next m.toNat T)))
set_option maxRecDepth 100000 in
set_option maxHeartbeats 16000000 in
theorem hu_any (a : Option Addr) (n cap : Nat) (m : Int) (next : List Int) (w : World) (hl : n = next.length) (hn : next.length ≤ 100) (hx : Elems encI 1 w a next) :
    Calls Tryd.prog 36 #[.slice a n cap, .int .i64 m] w (HuWPost next m w) := by
  subst hl
  by_cases h1 : m < 1 ∨ 20 < m ∨ 60 < next.length
  · have HR : Hid (huErr next m = 4) := Lib.hid (if_pos h1)
    by_cases g1 : m < 1
    · clear h1
      go_enter Tryd.func36, Tryd.ntmps36
      go_wp2
      go_ret2
      exact ⟨Below.refl _ _, Or.inl ⟨by rw [HR.out]; decide, by rw [HR.out]; rfl⟩⟩
    · by_cases g2 : 20 < m
      · clear h1
        go_enter Tryd.func36, Tryd.ntmps36
        go_wp2
        go_ret2
        exact ⟨Below.refl _ _, Or.inl ⟨by rw [HR.out]; decide, by rw [HR.out]; rfl⟩⟩
      · have g3 : (60 : Int) < (next.length : Int) := by omega
        have hd : decide ((60 : Int) < (next.length : Int)) = true := by simp; omega
        clear h1
        go_enter Tryd.func36, Tryd.ntmps36
        go_wp2
        go_ret2
        exact ⟨Below.refl _ _, Or.inl ⟨by rw [HR.out]; decide, by rw [HR.out]; rfl⟩⟩
  have H1 := Lib.hid h1
  have g1 : ¬ m < 1 := by omega
  have g2 : ¬ 20 < m := by omega
  have g3 : next.length ≤ 60 := by omega
  have hd : decide ((60 : Int) < (next.length : Int)) = false := by simp; omega
  have HX := Lib.hid hx
  obtain ⟨Z, hmk, hrow⟩ := made_row rowAI next.length (next.length : Int) rfl (by omega) (by unfold maxLen; omega)
  have hrow2 : ∀ (w : World) (base : Nat), base ≤ w.heap.size → (w.alloc (.cells Z 3)).ownsRow base 3 1 (.slice (some ⟨w.heap.size, 0, none⟩) next.length next.length) next.length ((tabN next.length (fun _ => 0)).map (Value.int .i64)) := fun w base h => by
    have h1 := hrow w base h
    rw [show (madeCells (Value.int IntKind.i64 0).cells (next.length * 1)).toList = (madeCells #[Value.int .i64 0] next.length).toList by simp [Value.cells], made_ints, tabN_same] at h1
    exact h1
  have HROW := Lib.hid hrow2
  obtain ⟨X, hX⟩ : ∃ X, X = w.alloc (.cells #[.int .i64 (next.length : Int)] 3) := ⟨_, rfl⟩
  have hcn : X.cell? ⟨w.heap.size, 0, none⟩ = some (.int .i64 (next.length : Int)) := by rw [hX]; simp
  have hXs : X.heap.size = w.heap.size + 1 := by rw [hX]; simp
  have HBX : Hid (Below w.heap.size w X) := Lib.hid (by rw [hX]; exact (Below.refl _ _).alloc (Nat.le_refl _) _)
  have HX1 := Lib.hid hX
  have HXS := Lib.hid hXs
  clear h1 hx hrow hrow2 hX hXs
  go_enter Tryd.func36, Tryd.ntmps36
  go_upto_region 4 with (fail)
  rw [← HX1.out]
  go_cut [7, 8] (fun v7 v8 wx => ∃ gl gw bl : Nat, v7 = .pointer (some ⟨bl, 0, none⟩) ∧ v8 = .slice (some ⟨gw, 0, none⟩) next.length next.length ∧ gl ≠ gw ∧ bl ≠ gl ∧ bl ≠ gw ∧ wx.cell? ⟨bl, 0, none⟩ = some (.slice (some ⟨gl, 0, none⟩) next.length next.length) ∧
    wx.ownsRow X.heap.size 3 1 (.slice (some ⟨gl, 0, none⟩) next.length next.length) next.length ((tabN next.length (fun _ => 0)).map (Value.int .i64)) ∧ wx.ownsRow X.heap.size 3 1 (.slice (some ⟨gw, 0, none⟩) next.length next.length) next.length ((tabN next.length (fun _ => 0)).map (Value.int .i64)) ∧ Below X.heap.size X wx ∧ X.heap.size ≤ bl)
  case first =>
    go_wp2
    go_region_held3 (fun w' => w'.cell? ⟨w.heap.size, 0, none⟩ = some (.int .i64 (next.length : Int)))
      (first | exact hcn | (refine (show Below X.heap.size X _ → _ from fun hB => (hB.cell (lt_of_cell hcn)).trans hcn) ?_; (repeat (first | exact Below.refl _ _ | refine Below.drew ?_ | refine Below.setCell ?_ (by first | (simp; done) | (simp; omega)) _ | refine Below.alloc ?_ (by first | (simp; done) | (simp; omega)) _))))
      (fail)
    all_goals
      go_wp2_with fail
      go_meet
      have hlay := fun v => lay_three X Z next.length _ HROW.out v 50
      case rel =>
        first
        | refine ⟨X.heap.size, _, _, rfl, rfl, by omega, by omega, by omega, ?_⟩
        | refine ⟨(X.heap.size + 1), _, _, rfl, rfl, by omega, by omega, by omega, ?_⟩
        | refine ⟨(X.heap.size + 1 + 1), _, _, rfl, rfl, by omega, by omega, by omega, ?_⟩
        with_reducible first
        | exact ⟨(hlay _).1.1, (hlay _).1.2.1, (hlay _).1.2.2.1, (hlay _).1.2.2.2, by omega⟩
        | exact ⟨(hlay _).1.1, (hlay _).1.2.2.1, (hlay _).1.2.1, (hlay _).1.2.2.2, by omega⟩
        | exact ⟨(hlay _).2.1.1, (hlay _).2.1.2.1, (hlay _).2.1.2.2.1, (hlay _).2.1.2.2.2, by omega⟩
        | exact ⟨(hlay _).2.1.1, (hlay _).2.1.2.2.1, (hlay _).2.1.2.1, (hlay _).2.1.2.2.2, by omega⟩
        | exact ⟨(hlay _).2.2.1, (hlay _).2.2.2.1, (hlay _).2.2.2.2.1, (hlay _).2.2.2.2.2, by omega⟩
        | exact ⟨(hlay _).2.2.1, (hlay _).2.2.2.2.1, (hlay _).2.2.2.1, (hlay _).2.2.2.2.2, by omega⟩
  case rest =>
    obtain ⟨gl, gw, bl, rfl, rfl, hne, hb1, hb2, cbl, hL, hW, hbx, hbl⟩ := hcut
    have hcn1 := (hbx.cell (lt_of_cell hcn)).trans hcn
    have hXw : Below w.heap.size w wc := HBX.out.trans (hbx.mono (by have := HXS.out; omega))
    have HCF := Lib.hid (containsF_any 77 #[.pointer (some ⟨w.heap.size, 0, none⟩)] (badH next.length) a next.length cap next wc eg_hu1 (fun w' hw' x _ => huFn1_any w.heap.size next.length x w' ((hw'.cell (lt_of_cell hcn1)).trans hcn1)) rfl (by omega) (HX.out.at hXw))
    have HXW := Lib.hid hXw
    have HLW := Lib.hid (And.intro hL (And.intro hW (And.intro cbl (And.intro hbx hcn1))))
    clear hL hW cbl hbx hcn1 hXw hcn
    cases hq : next.any (badH next.length) with
    | true =>
      have HE : Hid (huErr next m = 2) := Lib.hid (huE_bad H1.out hq)
      have HQ := Lib.hid hq
      clear hq
      go_wp2_with fail
      refine HCF.out.mono ?_
      rintro e w1 ⟨rfl, hbc⟩
      rw [HQ.out]
      have HBC : Hid (Below w.heap.size w w1) := Lib.hid (below_next HXW.out hbc)
      clear hbc HCF
      go_wp2
      go_ret2
      exact ⟨HBC.out, Or.inl ⟨by rw [HE.out]; decide, by rw [HE.out]; rfl⟩⟩
    | false =>
      have HNX := Lib.hid (nobadH hq)
      have HQ := Lib.hid hq
      clear hq
      go_wp2_with fail
      refine HCF.out.mono ?_
      rintro e w1 ⟨rfl, hbc⟩
      rw [HQ.out]
      obtain ⟨N1, hN1⟩ : ∃ N1, N1 = X.heap.size := ⟨_, rfl⟩
      have HN1 : Hid (w.heap.size < N1) := Lib.hid (by rw [hN1, HXS.out]; omega)
      have HBC : Hid (Below w.heap.size w w1) := Lib.hid (below_next HXW.out hbc)
      obtain ⟨hL0, hW0, cbl0, hbx0, hcn0⟩ := HLW.out
      have hL := owns_at hL0 hbc
      have hW := owns_at hW0 hbc
      have cbl := (hbc.cell (lt_of_cell cbl0)).trans cbl0
      have HCN := Lib.hid ((hbc.cell (lt_of_cell hcn0)).trans hcn0)
      rw [← hN1] at hL hW hbl
      have hgl := (owns_base hL).1
      have hgw := (owns_base hW).1
      have HX1w : Hid (∀ w', Below N1 w1 w' → Elems encI 1 w' a next ∧ w'.cell? ⟨w.heap.size, 0, none⟩ = some (.int .i64 (next.length : Int))) := Lib.hid (fun w' h => ⟨HX.out.at (HBC.out.trans (h.mono (Nat.le_of_lt HN1.out))), (h.cell (p := ⟨w.heap.size, 0, none⟩) HN1.out).trans HCN.out⟩)
      have HL1 : Hid (w1.ownsRow N1 3 1 (.slice (some ⟨gl, 0, none⟩) next.length next.length) next.length ((tabN next.length (fun x => if x < 0 then lvH next x else 0)).map (Value.int .i64))) := Lib.hid (by simpa using hL)
      have HW1 : Hid (w1.ownsRow N1 3 1 (.slice (some ⟨gw, 0, none⟩) next.length next.length) next.length ((tabN next.length (waitC next 0)).map (Value.int .i64))) := Lib.hid (by
        rw [tabN_congr (g := fun _ => 0) (fun x _ => waitC_zero next x)]; exact hW)
      have HCBL := Lib.hid cbl
      clear hbc HCF hL0 hW0 cbl0 hbx0 hcn0 hL hW hN1 HLW cbl
      go_wp2
      go_loopw [46] (fun iv wr => ∃ k : Nat, k ≤ next.length ∧ iv = .int .i64 k ∧ wr.ownsRow N1 3 1 (.slice (some ⟨gl, 0, none⟩) next.length next.length) next.length ((tabN next.length (fun x => if x < k then lvH next x else 0)).map (Value.int .i64)) ∧ wr.ownsRow N1 3 1 (.slice (some ⟨gw, 0, none⟩) next.length next.length) next.length ((tabN next.length (waitC next k)).map (Value.int .i64)) ∧ Hid (wr.cell? ⟨bl, 0, none⟩ = some (.slice (some ⟨gl, 0, none⟩) next.length next.length)) ∧ Hid (∀ i, i < k → levelM next (i : Int) ≤ next.length) ∧ Hid (Below N1 w1 wr)) (fun iv _ => next.length - (intOf iv).toNat)
      case atStart => exact ⟨0, by omega, rfl, HL1.out, HW1.out, HCBL, Lib.hid (fun i hi => by omega), Lib.hid (Below.refl _ _)⟩
      case round =>
        clear HL1 HW1 HCBL
        obtain ⟨k, hk, rfl, hL, hW, HCBL, HLV, HB⟩ := hrel
        by_cases hlt : k < next.length
        · obtain ⟨b, o, haE, hc⟩ := (HX1w.out _ HB.out).1.some hlt
          have c1 := hc k hlt 0 _ rfl
          simp only [Nat.add_zero, Nat.mul_one] at c1
          have hnb := HNX.out _ (List.getElem_mem hlt)
          have hst : Hid (chainM next (next.length + 1 - 0) (k : Int) + 0 = levelM next (k : Int)) := Lib.hid (by simp [levelM])
          obtain ⟨xv, hxv⟩ : ∃ xv, xv = next[k] := ⟨_, rfl⟩
          rw [← hxv] at c1 hnb
          have HXV := Lib.hid hxv
          obtain ⟨hnb0, hnb1⟩ := hnb
          have HL0 := Lib.hid hL
          have HW0 := Lib.hid hW
          subst haE
          clear hc hxv hL hW
          go_upto_if 52 with (fail)
          go_cut [] (fun wx => wx.ownsRow N1 3 1 (.slice (some ⟨gw, 0, none⟩) next.length next.length) next.length ((tabN next.length (waitC next (k + 1))).map (Value.int .i64)) ∧ wx.ownsRow N1 3 1 (.slice (some ⟨gl, 0, none⟩) next.length next.length) next.length ((tabN next.length (fun x => if x < k then lvH next x else 0)).map (Value.int .i64)) ∧ Hid (wx.cell? ⟨bl, 0, none⟩ = some (.slice (some ⟨gl, 0, none⟩) next.length next.length)) ∧ Hid (Below N1 w1 wx))
          case first =>
            by_cases hx0 : 0 ≤ xv
            · obtain ⟨x, rfl⟩ := Int.eq_ofNat_of_zero_le hx0
              have hxn : x < next.length := by omega
              have c2 := tabN_at HW0.out (j := x) hxn
              have f2 := HW0.out.frozenAt x
              have hwl := waitC_le next k x
              have HW2 := Lib.hid (tabN_put (f' := waitC next (k + 1)) HW0.out x (waitC next k x + 1) (fun y _ => by
                rw [waitC_succ, getD_lt hlt, ← HXV.out]
                by_cases hy : y = x
                · subst hy; rw [if_pos rfl, if_pos rfl]
                · rw [if_neg hy, if_neg (by omega), Int.add_zero]))
              have HL2 : Hid ((wr.setCell ⟨gw, x, none⟩ (.int .i64 (waitC next k x + 1))).ownsRow N1 3 1 (.slice (some ⟨gl, 0, none⟩) next.length next.length) next.length ((tabN next.length (fun x => if x < k then lvH next x else 0)).map (Value.int .i64))) := Lib.hid (owns_set0 HL0.out hne)
              have HCB2 : Hid ((wr.setCell ⟨gw, x, none⟩ (.int .i64 (waitC next k x + 1))).cell? ⟨bl, 0, none⟩ = some (.slice (some ⟨gl, 0, none⟩) next.length next.length)) := Lib.hid (by
                rw [(grown_set wr gw x _).cell_far ⟨bl, 0, none⟩ (lt_of_cell HCBL.out) (by simp; exact hb2)]; exact HCBL.out)
              have HB2 : Hid (Below N1 w1 (wr.setCell ⟨gw, x, none⟩ (.int .i64 (waitC next k x + 1)))) := Lib.hid (HB.out.setCell (p := ⟨gw, x, none⟩) hgw _)
              obtain ⟨hwl0, hwl1⟩ := hwl
              clear HW0 HL0
              generalize waitC next k x = wv at *
              go_wp2
              go_meet
              case rel => exact ⟨HW2.out, HL2.out, HCB2, HB2⟩
            · have HW2 : Hid (wr.ownsRow N1 3 1 (.slice (some ⟨gw, 0, none⟩) next.length next.length) next.length ((tabN next.length (waitC next (k + 1))).map (Value.int .i64))) := Lib.hid (by
                rw [tabN_congr (g := waitC next k) (fun y _ => by rw [waitC_succ, getD_lt hlt, ← HXV.out, if_neg (by omega), Int.add_zero])]
                exact HW0.out)
              go_wp2
              go_meet
              case rel => exact ⟨HW2.out, HL0.out, HCBL, HB⟩
          case rest =>
            obtain ⟨hW, hL, HCB, HBB⟩ := hcut
            have HL2 : Hid (wc.ownsRow N1 3 1 (.slice (some ⟨gl, 0, none⟩) next.length next.length) next.length ((tabN next.length (fun x => if x < k then lvH next x else if x = k then ((0 : Nat) : Int) else 0)).map (Value.int .i64))) := Lib.hid (by
              rw [tabN_congr (g := fun x => if x < k then lvH next x else 0) (fun y _ => by by_cases h : y < k <;> simp [h])]
              exact hL)
            have HW2 := Lib.hid hW
            clear hW hL HW0 HL0 HCBL HB c1
            go_wp2
            go_loopw [11] (fun jv wr => ∃ (c : Nat) (j : Int), jv = .int .i64 j ∧ j < next.length ∧ c ≤ next.length ∧ Hid (chainM next (next.length + 1 - c) j + c = levelM next (k : Int)) ∧ wr.ownsRow N1 3 1 (.slice (some ⟨gl, 0, none⟩) next.length next.length) next.length ((tabN next.length (fun x => if x < k then lvH next x else if x = k then (c : Int) else 0)).map (Value.int .i64)) ∧
              wr.ownsRow N1 3 1 (.slice (some ⟨gw, 0, none⟩) next.length next.length) next.length ((tabN next.length (waitC next (k + 1))).map (Value.int .i64)) ∧ Hid (wr.cell? ⟨bl, 0, none⟩ = some (.slice (some ⟨gl, 0, none⟩) next.length next.length)) ∧ Hid (Below N1 w1 wr)) (fun _ wr => next.length + 1 - memI wr gl k)
            case atStart => exact ⟨0, k, rfl, by omega, by omega, hst, HL2.out, HW2.out, HCB, HBB⟩
            case round =>
              clear HL2 HW2 HCB HBB hst
              obtain ⟨c, j, rfl, hj, hc, HS, hL, hW, HCB, HB⟩ := hrel
              have cl := tabN_at hL (j := k) hlt
              rw [if_neg (Nat.lt_irrefl k), if_pos rfl] at cl
              have hme : memI wr gl k = c := memI_eq cl
              have HME := Lib.hid hme
              clear hme
              by_cases hj0 : 0 ≤ j
              · obtain ⟨q, rfl⟩ := Int.eq_ofNat_of_zero_le hj0
                have hq : q < next.length := by omega
                have fl := hL.frozenAt k
                have cb := HCB.out
                have HL2 := Lib.hid (tabN_put (f' := fun x => if x < k then lvH next x else if x = k then ((c + 1 : Nat) : Int) else 0) hL k ((c : Int) + 1) (fun y _ => by
                  by_cases hy : y = k
                  · subst hy; rw [if_pos rfl, if_neg (Nat.lt_irrefl y), if_pos rfl]; push_cast; rfl
                  · rw [if_neg hy, if_neg hy, if_neg hy]))
                have HW2 : Hid ((wr.setCell ⟨gl, k, none⟩ (.int .i64 ((c : Int) + 1))).ownsRow N1 3 1 (.slice (some ⟨gw, 0, none⟩) next.length next.length) next.length ((tabN next.length (waitC next (k + 1))).map (Value.int .i64))) := Lib.hid (owns_set0 hW (fun h => hne h.symm))
                have d1 : (wr.setCell ⟨gl, k, none⟩ (.int .i64 ((c : Int) + 1))).cell? ⟨bl, 0, none⟩ = some (.slice (some ⟨gl, 0, none⟩) next.length next.length) := by
                  rw [(grown_set wr gl k _).cell_far ⟨bl, 0, none⟩ (lt_of_cell cb) (by simp; exact hb1)]; exact cb
                have HB2 : Hid (Below N1 w1 (wr.setCell ⟨gl, k, none⟩ (.int .i64 ((c : Int) + 1)))) := Lib.hid (HB.out.setCell (p := ⟨gl, k, none⟩) hgl _)
                have d2 := tabN_at HL2.out (j := k) hlt
                rw [if_neg (Nat.lt_irrefl k), if_pos rfl, show ((c + 1 : Nat) : Int) = (c : Int) + 1 by push_cast; rfl] at d2
                have hx2 := HX1w.out _ HB2.out
                have d3 := hx2.2
                have d4 := (HX1w.out _ HB.out).2
                have hgln : ¬ gl = w.heap.size := by have := HN1.out; omega
                have hgln2 : ¬ w.heap.size = gl := fun h => hgln h.symm
                obtain ⟨b2, o2, haE, hc2⟩ := hx2.1.some hq
                have c1 := hc2 q hq 0 _ rfl
                simp only [Nat.add_zero, Nat.mul_one] at c1
                have HD1 := Lib.hid d1
                have hkn : (k : Int) < (next.length : Int) := by omega
                have hk0 : (0 : Int) ≤ (k : Int) := by omega
                simp only [Option.some.injEq, Addr.mk.injEq, and_true] at haE
                obtain ⟨hae1, hae2⟩ := haE
                rw [← hae1, ← hae2] at c1
                clear hL hW hc2 hx2 HCB hae1 hae2
                by_cases hcn : c = next.length
                · have HE : Hid (huErr next m = 12) := Lib.hid (huE_round H1.out HQ.out hlt (by
                    have h := HS.out
                    rw [hcn, show next.length + 1 - next.length = 0 + 1 by omega, chain_go (by omega)] at h
                    omega))
                  have hcd : (next.length : Int) < (c : Int) + 1 := by omega
                  have HBN : Hid (Below N1 w1 (wr.setCell ⟨gl, k, none⟩ (.int .i64 ((next.length : Int) + 1)))) := Lib.hid (by rw [← hcn]; exact HB2.out)
                  go_wp2
                  go_quiet (fail)
                  go_wp2
                  go_ret2
                  exact ⟨HBC.out.trans ((below_drewN' HBN.out _).mono (Nat.le_of_lt HN1.out)), Or.inl ⟨by rw [HE.out]; decide, by rw [HE.out]; rfl⟩⟩
                · have hnb2 := HNX.out _ (List.getElem_mem hq)
                  have HS2 : Hid (chainM next (next.length + 1 - (c + 1)) next[q] + ((c + 1 : Nat)) = levelM next (k : Int)) := Lib.hid (by
                    have h := HS.out
                    rw [show next.length + 1 - c = (next.length + 1 - (c + 1)) + 1 by omega, chain_go (by omega), Int.toNat_natCast, getD_lt hq] at h
                    omega)
                  have hcd : ¬ (next.length : Int) < (c : Int) + 1 := by omega
                  have HM2 : Hid (∀ q', memI ((wr.setCell ⟨gl, k, none⟩ (.int .i64 ((c : Int) + 1))).drewN q') gl k = c + 1) := Lib.hid (fun q' => memI_eq (by
                    have h := tabN_at HL2.out (j := k) hlt
                    rw [if_neg (Nat.lt_irrefl k), if_pos rfl] at h
                    exact h))
                  clear HS
                  generalize next[q] = yv at *
                  obtain ⟨hn1, hn2⟩ := hnb2
                  go_wp2
                  go_quiet (fail)
                  go_wp2
                  exact ⟨⟨c + 1, yv, rfl, by omega, by omega, HS2, HL2.out, HW2.out, HD1, Lib.hid (below_drewN' HB2.out _)⟩, by rw [HM2.out, HME.out]; omega⟩
              · have hlv : levelM next (k : Int) = c := by
                  have h := HS.out
                  rw [chain_end (by omega)] at h
                  omega
                have HLV2 : Hid (∀ i, i < k + 1 → levelM next (i : Int) ≤ next.length) := Lib.hid (fun i hi => by
                  by_cases h : i = k
                  · rw [h, hlv]; exact hc
                  · exact HLV.out i (by omega))
                have HL2 : Hid (wr.ownsRow N1 3 1 (.slice (some ⟨gl, 0, none⟩) next.length next.length) next.length ((tabN next.length (fun x => if x < k + 1 then lvH next x else 0)).map (Value.int .i64))) := Lib.hid (by
                  rw [tabN_congr (g := fun x => if x < k then lvH next x else if x = k then (c : Int) else 0) (fun y _ => by
                    by_cases h1 : y < k
                    · rw [if_pos h1, if_pos (by omega)]
                    · by_cases h2 : y = k
                      · rw [if_pos (by omega), if_neg h1, if_pos h2, h2]; unfold lvH; rw [hlv]
                      · rw [if_neg (by omega), if_neg h1, if_neg h2])]
                  exact hL)
                have HW2 := Lib.hid hW
                clear hL hW cl HS hlv
                go_wp2
                exact ⟨⟨k + 1, by omega, by go_num, HL2.out, HW2.out, HCB, HLV2, HB⟩, by simp [intOf]; omega⟩
        · obtain rfl : k = next.length := by omega
          have HE : Hid (huErr next m = 0) := Lib.hid (huE_none H1.out HQ.out HLV.out)
          obtain ⟨mN, hmN⟩ := Int.eq_ofNat_of_zero_le (show 0 ≤ m by omega)
          subst hmN
          obtain ⟨T, hT⟩ := ends_exists (next := next) (m := mN) (by omega) HLV.out
          have HT := Lib.hid hT
          have hT60 : T ≤ 60 := by have := endsH_bd (by omega) HLV.out hT; omega
          obtain ⟨wz, hwz⟩ : ∃ wz, wz = wr.alloc (.cells Z 3) := ⟨_, rfl⟩
          obtain ⟨g3, hg3⟩ : ∃ g3, g3 = wr.heap.size := ⟨_, rfl⟩
          have hO0 : wz.ownsRow g3 3 1 (.slice (some ⟨g3, 0, none⟩) next.length next.length) next.length ((tabN next.length (fun x => if x < 0 then -1 else 0)).map (Value.int .i64)) := by
            have h := HROW.out wr g3 (Nat.le_of_eq hg3)
            rw [← hwz, ← hg3] at h
            simpa using h
          have HLz : Hid (wz.ownsRow N1 3 1 (.slice (some ⟨gl, 0, none⟩) next.length next.length) next.length ((tabN next.length (lvH next)).map (Value.int .i64))) := Lib.hid (by
            rw [tabN_congr (g := fun x => if x < next.length then lvH next x else 0) (fun y hy => by rw [if_pos hy]), hwz]
            exact hL.alloc _)
          have HWz : Hid (wz.ownsRow N1 3 1 (.slice (some ⟨gw, 0, none⟩) next.length next.length) next.length ((tabN next.length (fun x => (waitM next (seqM next mN 0) (x : Int) : Int))).map (Value.int .i64))) := Lib.hid (by
            rw [tabN_congr (g := waitC next next.length) (fun y _ => (waitC_all next mN y).symm), hwz]
            exact hW.alloc _)
          have hgl3 : gl < g3 := by rw [hg3]; exact (owns_base hL).2
          have hgw3 : gw < g3 := by rw [hg3]; exact (owns_base hW).2
          have hbl3 : bl < g3 := by rw [hg3]; exact lt_of_cell HCBL.out
          have HCz : Hid (wz.cell? ⟨bl, 0, none⟩ = some (.slice (some ⟨gl, 0, none⟩) next.length next.length)) := Lib.hid (by rw [hwz]; exact cell_a1 HCBL.out _)
          have hN3 : N1 ≤ g3 := by omega
          have HBz : Hid (Below N1 w1 wz) := Lib.hid (by rw [hwz]; exact HB.out.alloc (by rw [← hg3]; exact hN3) _)
          have hcn := (HX1w.out _ HB.out).2
          have HWZ := Lib.hid hwz
          have HG3 := Lib.hid hg3
          have HO0 := Lib.hid hO0
          clear hL hW hT hwz hg3 hO0 HCBL HB
          go_wp2
          rw [← HG3.out, ← HWZ.out]
          go_loopw [84] (fun iv wr2 => ∃ k : Nat, k ≤ next.length ∧ iv = .int .i64 k ∧ wr2.ownsRow g3 3 1 (.slice (some ⟨g3, 0, none⟩) next.length next.length) next.length ((tabN next.length (fun x => if x < k then -1 else 0)).map (Value.int .i64)) ∧ Hid (Below g3 wz wr2)) (fun iv _ => next.length - (intOf iv).toNat)
          case atStart => exact ⟨0, by omega, rfl, HO0.out, Lib.hid (Below.refl _ _)⟩
          case round =>
            clear HO0 hcn
            obtain ⟨k, hk, rfl, hO, HB⟩ := hrel
            by_cases hlt : k < next.length
            · have c1 := tabN_at hO (j := k) hlt
              have f1 := hO.frozenAt k
              have HO2 := Lib.hid (tabN_put (f' := fun x => if x < k + 1 then -1 else 0) hO k (-1) (fun x _ => by
                by_cases hx : x = k
                · rw [if_pos hx, if_pos (by omega)]
                · rw [if_neg hx]
                  by_cases hx2 : x < k
                  · rw [if_pos hx2, if_pos (by omega)]
                  · rw [if_neg hx2, if_neg (by omega)]))
              have HB2 : Hid (Below g3 wz (wr.setCell ⟨g3, k, none⟩ (.int .i64 (-1)))) := Lib.hid (HB.out.setCell (p := ⟨g3, k, none⟩) (Nat.le_refl _) _)
              clear hO HB
              go_wp2
              exact ⟨⟨k + 1, by omega, by go_num, HO2.out, HB2⟩, by simp [intOf]; omega⟩
            · obtain rfl : k = next.length := by omega
              have HO2 : Hid (wr.ownsRow g3 3 1 (.slice (some ⟨g3, 0, none⟩) next.length next.length) next.length ((seqM next mN 0).map (Value.int .i64))) := Lib.hid (by
                rw [seqH_zero, tabN_congr (g := fun x => if x < next.length then -1 else 0) (fun x hx => by rw [if_pos hx])]
                exact hO)
              have HL0 := Lib.hid (owns_below HLz.out HB.out (fun q hq => by simp [Value.ownBlock] at hq; omega))
              have HW0 := Lib.hid (owns_below HWz.out HB.out (fun q hq => by simp [Value.ownBlock] at hq; omega))
              have HC0 := Lib.hid ((HB.out.cell (p := ⟨bl, 0, none⟩) hbl3).trans HCz.out)
              have HBB : Hid (Below N1 w1 wr) := Lib.hid (HBz.out.trans (HB.out.mono hN3))
              have HLF : Hid ((next.length : Int) = (leftM next.length (seqM next mN 0) : Int)) := Lib.hid (by rw [left_all])
              have hcn := (HX1w.out _ HBB.out).2
              clear hO HLz HWz HCz HBz HB
              go_wp2
              go_loopw [14, 15] (fun lv nv wr2 => ∃ (t : Nat) (l : Int), t ≤ T ∧ nv = .int .i64 t ∧ lv = .int .i64 l ∧ Hid (l = (leftM next.length (seqM next mN t) : Int)) ∧ Hid (wr2.ownsRow g3 3 1 (.slice (some ⟨g3, 0, none⟩) next.length next.length) next.length ((seqM next mN t).map (Value.int .i64))) ∧
                Hid (wr2.ownsRow N1 3 1 (.slice (some ⟨gw, 0, none⟩) next.length next.length) next.length ((tabN next.length (fun x => (waitM next (seqM next mN t) (x : Int) : Int))).map (Value.int .i64))) ∧ Hid (wr2.ownsRow N1 3 1 (.slice (some ⟨gl, 0, none⟩) next.length next.length) next.length ((tabN next.length (lvH next)).map (Value.int .i64))) ∧ Hid (wr2.cell? ⟨bl, 0, none⟩ = some (.slice (some ⟨gl, 0, none⟩) next.length next.length)) ∧ Hid (Below N1 w1 wr2)) (fun lv _ _ => (intOf lv).toNat)
              case atStart => exact ⟨0, _, by omega, rfl, rfl, HLF, HO2, HW0, HL0, HC0, HBB⟩
              case round =>
                clear HO2 HW0 HL0 HC0 HBB HLF hcn
                obtain ⟨t, l, htT, rfl, rfl, HLF, HO, HW, HL, HCB, HB⟩ := hrel
                obtain ⟨D, hD⟩ : ∃ D, D = seqM next mN t := ⟨_, rfl⟩
                rw [← hD] at HLF HO HW
                have lD : D.length = next.length := by rw [hD, seq_len]
                have HD := Lib.hid hD
                clear hD
                by_cases hl0 : leftM next.length D = 0
                · have hlz : l = 0 := by rw [HLF.out, hl0]; rfl
                  have htT' : t = T := endsH_at HT.out htT (by rw [← HD.out]; exact hl0)
                  have HEX : Hid (Elems encI 1 wr (some ⟨g3, 0, none⟩) (seqM next mN T)) := Lib.hid (by rw [← htT', ← HD.out]; exact owned_intsH lD HO.out)
                  subst hlz
                  clear hl0 htT' lD
                  go_wp2
                  go_ret2
                  exact ⟨HBC.out.trans (HB.out.mono (Nat.le_of_lt HN1.out)), Or.inr ⟨HE.out, T, _, _, by rw [Int.toNat_natCast]; exact HT.out, rfl, by rw [Int.toNat_natCast]; exact HEX.out⟩⟩
                · have hlp : 0 < l := by rw [HLF.out]; omega
                  have hln : l ≤ 60 := by rw [HLF.out]; have := left_le next.length D; omega
                  have HNE := Lib.hid hl0
                  obtain ⟨wo, hwo⟩ : ∃ wo : World, wo = wr := ⟨_, rfl⟩
                  obtain ⟨H, hH⟩ : ∃ H, H = wr.heap.size := ⟨_, rfl⟩
                  have HH : Hid (H = wo.heap.size) := Lib.hid (by rw [hwo]; exact hH)
                  have hg3H : g3 < H := by rw [hH]; exact (owns_base HO.out).2
                  have hcn := (HX1w.out _ HB.out).2
                  rw [← hwo] at HO HW HL HCB HB hcn ⊢
                  clear hl0 hwo hH
                  go_wp2
                  go_loopw [16, 97] (fun mv kv wr2 => ∃ (k : Nat) (v : Value), k ≤ next.length ∧ kv = .int .i64 k ∧ v = mv ∧ wr2.ownsRow H 3 1 v (mayK next D k).length ((mayK next D k).map (Value.int .i64)) ∧ Hid (Below H wo wr2)) (fun _ kv _ => next.length - (intOf kv).toNat)
                  case atStart => exact ⟨0, _, by omega, rfl, rfl, World.ownsRow_nil _ _ _ _, Lib.hid (Below.refl _ _)⟩
                  case round =>
                    clear hcn
                    obtain ⟨k, v, hk, rfl, rfl, hown, HBH⟩ := hrel
                    have hO := owns_below HO.out HBH.out (fun q hq => by simp [Value.ownBlock] at hq; omega)
                    have hW := owns_below HW.out HBH.out (fun q hq => by simp [Value.ownBlock] at hq; omega)
                    have hsz : H ≤ wr.heap.size := Nat.le_trans (Nat.le_of_eq HH.out) HBH.out.size
                    by_cases hlt : k < next.length
                    · have c1 := owns_get hO k hlt (by omega)
                      have c2 := tabN_at hW (j := k) hlt
                      have hud := undoneH_at (D := D) (k := k) (by omega)
                      have hmw := may_wait next D k
                      have hms := mayK_succ next D k
                      have hml := mayK_len next D k
                      rw [hud] at hmw
                      by_cases hu : D[k] < 0
                      · by_cases hw0 : waitM next D (k : Int) = 0
                        · have hmo : mayOk next D k = true := by rw [hmw]; simp [hu, hw0]
                          have hwz : ((waitM next D (k : Int) : Nat) : Int) = 0 := by rw [hw0]; rfl
                          rw [hwz] at c2
                          rw [hmo, if_pos rfl] at hms
                          have HMS := Lib.hid hms
                          clear hud hmw hms hO hW hw0 hwz hmo
                          generalize D[k] = dk at *
                          go_wp2_with (at_builtin; (refine app_row rowAI rfl _ _ rfl H rfl hown [.int .i64 k] rfl (by first | rfl | simp) rfl (encI_one _) (by unfold maxLen; omega) (by omega) hsz ?_))
                          intro v3 w5 hown3 hb3
                          have HOW : Hid (w5.ownsRow H 3 1 v3 (mayK next D (k + 1)).length ((mayK next D (k + 1)).map (Value.int .i64))) := Lib.hid (by
                            rw [HMS.out, List.length_append, List.map_append]; exact hown3)
                          have HBW2 : Hid (Below H wo w5) := Lib.hid (HBH.out.trans hb3)
                          clear hown hown3 hb3
                          go_wp2
                          exact ⟨⟨k + 1, v3, by omega, by go_num, rfl, HOW.out, HBW2⟩, by simp [intOf]; omega⟩
                        · have hmo : mayOk next D k = false := by rw [hmw]; simp [hw0]
                          have HOW : Hid (wr.ownsRow H 3 1 v (mayK next D (k + 1)).length ((mayK next D (k + 1)).map (Value.int .i64))) := Lib.hid (by rw [hms, hmo]; simpa using hown)
                          have hwn : (((waitM next D (k : Int) : Nat) : Int) == 0) = false := beq_eq_false_iff_ne.2 (by omega)
                          clear hud hmw hms hO hW hmo hown hw0
                          generalize D[k] = dk at *
                          generalize ((waitM next D (k : Int) : Nat) : Int) = wv at *
                          go_wp2
                          exact ⟨⟨k + 1, v, by omega, by go_num, rfl, HOW.out, HBH⟩, by simp [intOf]; omega⟩
                      · have hmo : mayOk next D k = false := by rw [hmw]; simp [hu]
                        have HOW : Hid (wr.ownsRow H 3 1 v (mayK next D (k + 1)).length ((mayK next D (k + 1)).map (Value.int .i64))) := Lib.hid (by rw [hms, hmo]; simpa using hown)
                        clear hud hmw hms hO hW hmo hown c2
                        generalize D[k] = dk at *
                        go_wp2
                        exact ⟨⟨k + 1, v, by omega, by go_num, rfl, HOW.out, HBH⟩, by simp [intOf]; omega⟩
                    · obtain rfl : k = next.length := by omega
                      obtain ⟨M, hM⟩ : ∃ M, M = mayK next D next.length := ⟨_, rfl⟩
                      have hMM : M = mayM next D := hM
                      have hMl : M.length ≤ next.length := by rw [hM]; exact mayK_len next D next.length
                      have hM0 : 0 < M.length := by
                        obtain ⟨j, hj, hu⟩ := left_pos HNE.out
                        have h1 := may_some HLV.out hj hu
                        rw [← hMM] at h1
                        exact List.length_pos_iff.2 h1
                      rw [← hM] at hown
                      obtain ⟨gm, cm, rfl, hgmH, hgms⟩ := hown.form hM0
                      have hrow : wr.ownsRow H 3 1 (.slice (some ⟨gm, 0, none⟩) M.length cm) M.length (rowV M.length (fun t => M.getD t 0)) := by
                        unfold rowV
                        rw [tabH_of]; exact hown
                      have hMI : ∀ x ∈ M, 0 ≤ x ∧ x < next.length := fun x hx => by
                        rw [hMM] at hx
                        have := may_in next D x hx
                        omega
                      have hrng : RngF next.length M.length (fun t => M.getD t 0) := fun t ht => by
                        show 0 ≤ M.getD t 0 ∧ M.getD t 0 < _
                        rw [getD_lt ht]; exact hMI _ (List.getElem_mem ht)
                      have hasc : ∀ s t, s < t → t < M.length → (fun t => M.getD t 0) s < (fun t => M.getD t 0) t := fun s t hst ht => by
                        show M.getD s 0 < M.getD t 0
                        rw [getD_lt (show s < M.length by omega), getD_lt ht]
                        have hp := may_up next D
                        rw [← hMM] at hp
                        exact List.pairwise_iff_getElem.1 hp s t (by omega) ht hst
                      have hblH : bl < H := by have := hbl3; omega
                      have hglH : gl < H := by omega
                      have hcmp : CmpOk 79 #[.pointer (some ⟨bl, 0, none⟩)] (fH next) next.length gm wr := fun w' hw' x y x0 x1 y0 y1 => by
                        have hB' : Below H wo w' := HBH.out.trans (hw'.mono hgmH)
                        have hL' := owns_below HL.out hB' (fun q hq => by simp [Value.ownBlock] at hq; omega)
                        exact huFn2_any gl bl next.length next x y w' rfl (fun k hk => by have := HLV.out k hk; omega) ((hB'.cell (p := ⟨bl, 0, none⟩) hblH).trans HCB.out) (fun j hj => tabN_at hL' hj) x0 x1 y0 y1
                      have HSRT := Lib.hid (sortStable_any 79 #[.pointer (some ⟨bl, 0, none⟩)] (fH next) next.length gm M.length cm H (fun t => M.getD t 0) wr eg_hu2 hcmp (swkH next) hrow (by omega) hrng hasc)
                      have HMM := Lib.hid hMM
                      have HMI := Lib.hid hMI
                      clear hrow hcmp hrng hasc hown hMM hMI hM hO hW
                      go_wp2_with fail
                      refine HSRT.out.mono ?_
                      rintro e w3 ⟨rfl, r, hor, hsr, hown3, hb3⟩
                      obtain ⟨S, hS⟩ : ∃ S, S = tab M.length r := ⟨_, rfl⟩
                      have hSl : S.length = M.length := by rw [hS, tab_len]
                      have hsort : SortH next D S := ⟨by
                        rw [hS, ← HMM.out]
                        have h := ok_perm hor
                        rw [tabH_of] at h
                        exact h, by rw [hS]; exact srt_pairwise hsr⟩
                      have HST := Lib.hid hsort
                      have hown4 : w3.ownsRow H 3 1 (.slice (some ⟨gm, 0, none⟩) M.length cm) M.length (S.map (Value.int .i64)) := by rw [hS]; exact hown3
                      have hcl : M.length ≤ cm := by
                        rcases hown3.2 with ⟨h1, _⟩ | ⟨g', cap', cur, h1, _, _, h2, _⟩
                        · cases h1
                        · obtain ⟨_, _, h3⟩ := Value.slice.inj h1
                          omega
                      have HB3 : Hid (Below H wo w3) := Lib.hid (HBH.out.trans (hb3.mono hgmH))
                      have HES : Hid (∀ w' gx, w3.grownBy w' (some gx) → gx < H → Elems encI 1 w' (some ⟨gm, 0, none⟩) S) := Lib.hid (fun w' gx h hx => elemsH_far (by
                        obtain ⟨a', c', hv, he, _⟩ := ints_of_owns hSl.symm hown4
                        obtain ⟨q1, _, _⟩ := Value.slice.inj hv
                        rw [q1]; exact he) h (fun p hp => by cases hp; show gm ≠ gx; omega))
                      obtain ⟨K, hKe⟩ : ∃ K : Nat, (if (M.length : Int) < (mN : Int) then (M.length : Int) else (mN : Int)) = (K : Int) := by
                        split
                        · exact ⟨M.length, rfl⟩
                        · exact ⟨mN, rfl⟩
                      have hKM : K ≤ M.length := by split at hKe <;> omega
                      have hKm : S.take K = S.take mN := by
                        split at hKe
                        · rw [List.take_of_length_le (by omega), List.take_of_length_le (by omega)]
                        · rw [show K = mN by omega]
                      have HKM := Lib.hid hKm
                      have hKc : (K : Int) ≤ (cm : Int) := by omega
                      have HO3 := Lib.hid (owns_below HO.out HB3.out (fun q hq => by simp [Value.ownBlock] at hq; omega))
                      have HW3 := Lib.hid (owns_below HW.out HB3.out (fun q hq => by simp [Value.ownBlock] at hq; omega))
                      have HL3 := Lib.hid (owns_below HL.out HB3.out (fun q hq => by simp [Value.ownBlock] at hq; omega))
                      have HC3 := Lib.hid ((HB3.out.cell (p := ⟨bl, 0, none⟩) hblH).trans HCB.out)
                      have HBB : Hid (Below N1 w1 w3) := Lib.hid (HB.out.trans (HB3.out.mono (by omega)))
                      have HG0 : Hid (w3.grownBy w3 (some g3)) := Lib.hid (World.grownBy.refl _ _)
                      have HO3' : Hid (w3.ownsRow g3 3 1 (.slice (some ⟨g3, 0, none⟩) next.length next.length) next.length ((putM t (S.take 0) D).map (Value.int .i64))) := HO3
                      have HLF0 : Hid (l = (leftM next.length (putM t (S.take 0) D) : Int)) := HLF
                      have HSL := Lib.hid hSl
                      have HLD : Hid (l = (leftM next.length D : Int)) := HLF
                      have HS3 : Hid (N1 ≤ w3.heap.size) := Lib.hid (by have h1 := HB3.out.size; have h2 := HH.out; omega)
                      have hgm3 : gm ≠ gw := by omega
                      clear hor hsr hown3 hown4 hb3 hS hsort hSl hKm HSRT HO HW HL HCB HB HO3 HLF HBH
                      have hcase : ((M.length : Int) < (mN : Int) ∧ K = M.length) ∨ (¬ (M.length : Int) < (mN : Int) ∧ K = mN) := by
                        split at hKe
                        · rename_i h; exact Or.inl ⟨h, by omega⟩
                        · rename_i h; exact Or.inr ⟨h, by omega⟩
                      clear hKe
                      rcases hcase with ⟨hm1, hKq⟩ | ⟨hm1, hKq⟩
                      all_goals
                        go_wp2
                        go_loopw [14, 127] (fun lv qv wr2 => ∃ (q : Nat) (l2 : Int), q ≤ K ∧ qv = .int .i64 q ∧ lv = .int .i64 l2 ∧ Hid (l2 = (leftM next.length (putM t (S.take q) D) : Int)) ∧ Hid (wr2.ownsRow g3 3 1 (.slice (some ⟨g3, 0, none⟩) next.length next.length) next.length ((putM t (S.take q) D).map (Value.int .i64))) ∧ Hid (w3.grownBy wr2 (some g3))) (fun _ qv _ => K - (intOf qv).toNat)
                        case atStart => exact ⟨0, l, by omega, rfl, rfl, HLF0, HO3', HG0⟩
                        case round =>
                          clear HLF0 HO3' HG0
                          obtain ⟨q, l2, hq, rfl, rfl, HLF, HO, HG⟩ := hrel
                          by_cases hqK : q < K
                          · have hqS : q < S.length := by rw [HSL.out]; omega
                            obtain ⟨bs, os, hbs, hcs⟩ := (HES.out _ _ HG.out (by omega)).some hqS
                            simp only [Option.some.injEq, Addr.mk.injEq, and_true] at hbs
                            have c0 := hcs q hqS 0 _ rfl
                            rw [← hbs.1, ← hbs.2] at c0
                            simp only [Nat.add_zero, Nat.mul_one, Nat.zero_add] at c0
                            obtain ⟨i0, i1, _⟩ := sortH_in HST.out _ (List.getElem_mem hqS)
                            have hlf := put_left1 (Int.natCast_nonneg t) lD HST.out hqS
                            have hpt := put_take (now := (t : Int)) (D := D) hqS
                            obtain ⟨i, hi⟩ := Int.eq_ofNat_of_zero_le i0
                            rw [hi] at c0 i1 hpt
                            rw [Int.toNat_natCast] at hpt
                            have hin : i < next.length := by omega
                            have hO := HO.out
                            have hpl : (putM t (S.take q) D).length = next.length := by rw [put_len, lD]
                            have c1 := owns_get hO i hin (by omega)
                            have f1 := hO.frozenAt i
                            have HO2 : Hid ((wr.setCell ⟨g3, i, none⟩ (.int .i64 (t : Int))).ownsRow g3 3 1 (.slice (some ⟨g3, 0, none⟩) next.length next.length) next.length ((putM t (S.take (q + 1)) D).map (Value.int .i64))) := Lib.hid (by
                              rw [hpt]; exact owns_set hO i (t : Int))
                            have HG2 : Hid (w3.grownBy (wr.setCell ⟨g3, i, none⟩ (.int .i64 (t : Int))) (some g3)) := Lib.hid (grownH_two HG.out (hO.stored i (.int .i64 (t : Int))).2)
                            have HLF2 : Hid (l2 - 1 = (leftM next.length (putM t (S.take (q + 1)) D) : Int)) := Lib.hid (by rw [HLF.out]; omega)
                            have hl2 : 0 ≤ l2 ∧ l2 ≤ 60 := by
                              have h := left_le next.length (putM t (S.take q) D)
                              have h2 := HLF.out
                              omega
                            obtain ⟨hl20, hl21⟩ := hl2
                            clear hcs hbs hlf hpt hO HO HLF HG
                            generalize (putM t (S.take q) D)[i] = dv at *
                            go_wp2
                            exact ⟨⟨q + 1, l2 - 1, by omega, by go_num, by go_num, HLF2, HO2, HG2⟩, by simp [intOf]; omega⟩
                          · obtain rfl : q = K := by omega
                            have HE1 : Hid (putM t (S.take q) D = seqM next mN (t + 1)) := Lib.hid (by
                              rw [HKM.out]
                              have h := seq_put (m := mN) (t := t) (S := S) (next := next) (by rw [← HD.out]; exact HST.out)
                              rw [h, ← HD.out])
                            obtain ⟨w6, hw6⟩ : ∃ w6 : World, w6 = wr := ⟨_, rfl⟩
                            have HO6 : Hid (w6.ownsRow g3 3 1 (.slice (some ⟨g3, 0, none⟩) next.length next.length) next.length ((seqM next mN (t + 1)).map (Value.int .i64))) := Lib.hid (by rw [hw6, ← HE1.out]; exact HO.out)
                            have HW6 : Hid (w6.ownsRow N1 3 1 (.slice (some ⟨gw, 0, none⟩) next.length next.length) next.length ((tabN next.length (fun x => (waitM next (putM t (S.take 0) D) (x : Int) : Int))).map (Value.int .i64))) := Lib.hid (by
                              rw [hw6]; exact HW3.out.kept HG.out (Or.inr (by simp [Value.ownBlock]; omega)))
                            have HL6 : Hid (w6.ownsRow N1 3 1 (.slice (some ⟨gl, 0, none⟩) next.length next.length) next.length ((tabN next.length (lvH next)).map (Value.int .i64))) := Lib.hid (by
                              rw [hw6]; exact HL3.out.kept HG.out (Or.inr (by simp [Value.ownBlock]; omega)))
                            have HC6 : Hid (w6.cell? ⟨bl, 0, none⟩ = some (.slice (some ⟨gl, 0, none⟩) next.length next.length)) := Lib.hid (by
                              rw [hw6, HG.out.cell_far ⟨bl, 0, none⟩ (lt_of_cell HC3.out) (by simp; omega)]; exact HC3.out)
                            have HB6 : Hid (Below N1 w1 w6) := Lib.hid (by rw [hw6]; exact Below.grown HBB.out HG.out HS3.out (fun k hk => by cases hk; exact hN3))
                            have HS6 : Hid (N1 ≤ w6.heap.size) := Lib.hid (by rw [hw6]; exact Nat.le_trans HS3.out HG.out.size)
                            have HE6 : Hid (Elems encI 1 w6 (some ⟨gm, 0, none⟩) S) := Lib.hid (by rw [hw6]; exact HES.out _ _ HG.out (by omega))
                            have HG7 : Hid (w6.grownBy w6 (some gw)) := Lib.hid (World.grownBy.refl _ _)
                            have hl2 : 0 ≤ l2 ∧ l2 < l := by
                              have h1 := HLF.out
                              rw [HE1.out] at h1
                              have h2 := HLD.out
                              have h3 := seq_less (m := mN) (t := t) (S := S) (by omega) HLV.out (by rw [← HD.out]; exact HST.out) (by rw [← HD.out]; exact HNE.out)
                              rw [← HD.out] at h3
                              omega
                            have HLF7 : Hid (l2 = (leftM next.length (seqM next mN (t + 1)) : Int)) := Lib.hid (by rw [← HE1.out]; exact HLF.out)
                            have htT2 : t < T := by
                              rcases Nat.lt_or_ge t T with h | h
                              · exact h
                              · exfalso
                                have h1 : t = T := by omega
                                exact HNE.out (by rw [HD.out, h1]; exact HT.out.1)
                            rw [← hw6]
                            clear hw6 HO HG HLF
                            go_wp2
                            go_loopw [145] (fun qv wr2 => ∃ p : Nat, p ≤ q ∧ qv = .int .i64 p ∧ Hid (wr2.ownsRow N1 3 1 (.slice (some ⟨gw, 0, none⟩) next.length next.length) next.length ((tabN next.length (fun x => (waitM next (putM t (S.take p) D) (x : Int) : Int))).map (Value.int .i64))) ∧ Hid (w6.grownBy wr2 (some gw))) (fun qv _ => q - (intOf qv).toNat)
                            case atStart => exact ⟨0, by omega, rfl, HW6, HG7⟩
                            case round =>
                              clear HW6 HG7
                              obtain ⟨p, hp, rfl, HW, HG⟩ := hrel
                              by_cases hpK : p < q
                              · have hpS : p < S.length := by rw [HSL.out]; omega
                                obtain ⟨bs, os, hbs, hcs⟩ := (elemsH_far HE6.out HG.out (fun p hp => by cases hp; exact hgm3)).some hpS
                                simp only [Option.some.injEq, Addr.mk.injEq, and_true] at hbs
                                have c0 := hcs p hpS 0 _ rfl
                                rw [← hbs.1, ← hbs.2] at c0
                                simp only [Nat.add_zero, Nat.mul_one, Nat.zero_add] at c0
                                obtain ⟨i0, i1, _⟩ := sortH_in HST.out _ (List.getElem_mem hpS)
                                have hpw := put_wait (now := (t : Int)) (Int.natCast_nonneg t) lD HST.out hpS
                                obtain ⟨i, hi⟩ := Int.eq_ofNat_of_zero_le i0
                                rw [hi] at c0 i1
                                have hin : i < next.length := by omega
                                rw [hi, Int.toNat_natCast, getD_lt hin] at hpw
                                have HBR : Hid (Below N1 w1 wr) := Lib.hid (Below.grown HB6.out HG.out HS6.out (fun k hk => by cases hk; exact hgw))
                                obtain ⟨b5, o5, hb5, hc5⟩ := (HX1w.out _ HBR.out).1.some hin
                                have c1 := hc5 i hin 0 _ rfl
                                simp only [Nat.add_zero, Nat.mul_one] at c1
                                have hnb2 := HNX.out _ (List.getElem_mem hin)
                                have HPW := Lib.hid hpw
                                first
                                  | subst hb5
                                  | (simp only [Option.some.injEq, Addr.mk.injEq, and_true] at hb5; rw [← hb5.1, ← hb5.2] at c1; clear hb5)
                                clear hcs hbs hc5 hpw
                                generalize hxv : next[i] = xv at *
                                clear hxv
                                obtain ⟨hn1, hn2⟩ := hnb2
                                by_cases hx0 : 0 ≤ xv
                                · obtain ⟨x, rfl⟩ := Int.eq_ofNat_of_zero_le hx0
                                  have hxn : x < next.length := by omega
                                  have c2 := tabN_at HW.out (j := x) hxn
                                  have f2 := HW.out.frozenAt x
                                  have hwb := waitM_le next (putM t (S.take p) D) (x : Int)
                                  have HW2 := Lib.hid (tabN_put (f' := fun y => (waitM next (putM t (S.take (p + 1)) D) (y : Int) : Int)) HW.out x ((waitM next (putM t (S.take p) D) (x : Int) : Int) - 1) (fun y _ => by
                                    have h := HPW.out (y : Int)
                                    by_cases hy : y = x
                                    · subst hy; rw [if_pos rfl]; rw [if_pos rfl] at h; omega
                                    · rw [if_neg hy]; rw [if_neg (by omega)] at h; omega))
                                  have HG2 : Hid (w6.grownBy (wr.setCell ⟨gw, x, none⟩ (.int .i64 ((waitM next (putM t (S.take p) D) (x : Int) : Int) - 1))) (some gw)) := Lib.hid (grownH_two HG.out (HW.out.stored x _).2)
                                  clear HPW HW HG
                                  generalize waitM next (putM t (S.take p) D) (x : Int) = wv at *
                                  go_wp2
                                  exact ⟨⟨p + 1, by omega, by go_num, HW2, HG2⟩, by simp [intOf]; omega⟩
                                · have HW2 : Hid (wr.ownsRow N1 3 1 (.slice (some ⟨gw, 0, none⟩) next.length next.length) next.length ((tabN next.length (fun x => (waitM next (putM t (S.take (p + 1)) D) (x : Int) : Int))).map (Value.int .i64))) := Lib.hid (by
                                    rw [tabN_congr (g := fun x => (waitM next (putM t (S.take p) D) (x : Int) : Int)) (fun y _ => by
                                      have h := HPW.out (y : Int)
                                      rw [if_neg (by omega)] at h
                                      omega)]
                                    exact HW.out)
                                  clear HPW HW
                                  go_wp2
                                  exact ⟨⟨p + 1, by omega, by go_num, HW2, HG⟩, by simp [intOf]; omega⟩
                              · obtain rfl : p = q := by omega
                                have HO7 : Hid (wr.ownsRow g3 3 1 (.slice (some ⟨g3, 0, none⟩) next.length next.length) next.length ((seqM next mN (t + 1)).map (Value.int .i64))) := Lib.hid (HO6.out.kept HG.out (Or.inr (by simp [Value.ownBlock]; omega)))
                                have HW7 : Hid (wr.ownsRow N1 3 1 (.slice (some ⟨gw, 0, none⟩) next.length next.length) next.length ((tabN next.length (fun x => (waitM next (seqM next mN (t + 1)) (x : Int) : Int))).map (Value.int .i64))) := Lib.hid (by rw [← HE1.out]; exact HW.out)
                                have HL7 : Hid (wr.ownsRow N1 3 1 (.slice (some ⟨gl, 0, none⟩) next.length next.length) next.length ((tabN next.length (lvH next)).map (Value.int .i64))) := Lib.hid (HL6.out.kept HG.out (Or.inr (by simp [Value.ownBlock]; exact hne)))
                                have HC7 : Hid (wr.cell? ⟨bl, 0, none⟩ = some (.slice (some ⟨gl, 0, none⟩) next.length next.length)) := Lib.hid (by
                                  rw [HG.out.cell_far ⟨bl, 0, none⟩ (lt_of_cell HC6.out) (by simp; exact hb2)]; exact HC6.out)
                                have HB7 : Hid (Below N1 w1 wr) := Lib.hid (Below.grown HB6.out HG.out HS6.out (fun k hk => by cases hk; exact hgw))
                                clear HW HG
                                go_wp2
                                exact ⟨⟨t + 1, l2, by omega, by go_num, rfl, HLF7, HO7, HW7, HL7, HC7, HB7⟩, by simp [intOf]; omega⟩
end Go.Proofs.YtfaklhkdfpfjgaaDoor
