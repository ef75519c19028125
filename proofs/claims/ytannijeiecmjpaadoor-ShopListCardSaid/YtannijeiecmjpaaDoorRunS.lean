/- The memory of path.Run: its boxes, its rows, and how each step leaves them; the two function values that it hands to slices. -/
import Derived.Test.YtannijeiecmjpaaDoorRunC
import Derived.Test.YtannijeiecmjpaaDoorDelF
namespace Go.Proofs.YtannijeiecmjpaaDoor
open Go.RowKit

theorem grown_cell {w w' : World} {row : Option Nat} (hg : w.grownBy w' row) {p : Addr} {v : Value} (h : w.cell? p = some v) (hne : some p.block ≠ row) : w'.cell? p = some v :=
  (World.cell?_of_block (hg.block p.block (lt_of_cell h) hne)).trans h
theorem grown_frozen {w w' : World} {row : Option Nat} (hg : w.grownBy w' row) {p : Addr} {v : Value} (h : w.cell? p = some v) (hf : w.frozen? p = false) (hne : some p.block ≠ row) : w'.frozen? p = false :=
  (World.frozen?_of_block (hg.block p.block (lt_of_cell h) hne)).trans hf
/-- Where the boxes and the rows lie. -/
def BoxesAt (A g Bf Bo B : Nat) : Prop := A + 2 ≤ g ∧ g < Bf ∧ Bf < Bo ∧ Bo < B
def natsI (l : List Nat) : List Int := l.map (fun i : Nat => (i : Int))
/-- The memory in a round: the boxes of the jobs, the rule, what is left and who is served; the rows of what is left, of the pieces, of those who wait. -/
def RunAt (w : World) (a : Option Addr) (n cap : Nat) (rule : Int) (g Bf Bo B : Nat) (wr : World) (on : Int) (left : List Int) (ov : Value) (out : List R3) (wv : Value) (wait : List Nat) : Prop :=
  (wr.cell? ⟨w.heap.size, 0, none⟩ = some (.slice a n cap) ∧ wr.cell? ⟨w.heap.size + 1, 0, none⟩ = some (.int .i64 rule) ∧ wr.cell? ⟨Bf, 0, none⟩ = some (.slice (some ⟨g, 0, none⟩) n n)) ∧
  (wr.cell? ⟨Bo, 0, none⟩ = some (.int .i64 on) ∧ wr.frozen? ⟨Bo, 0, none⟩ = false) ∧
  wr.ownsRow (w.heap.size + 2) 3 1 (.slice (some ⟨g, 0, none⟩) n n) n (left.map (Value.int .i64)) ∧
  wr.ownsRow B 36 3 ov out.length (out.flatMap enc3) ∧
  wr.ownsRow B 3 1 wv wait.length ((natsI wait).map (Value.int .i64)) ∧
  (∀ b, ov.ownBlock = some b → wv.ownBlock ≠ some b) ∧ Below w.heap.size w wr ∧ B ≤ wr.heap.size
variable {w : World} {a : Option Addr} {n cap : Nat} {rule : Int} {g Bf Bo B : Nat} {wr wr' : World} {on : Int} {left : List Int} {ov : Value} {out : List R3} {wv : Value} {wait : List Nat}
theorem RunAt.next (H : RunAt w a n cap rule g Bf Bo B wr on left ov out wv wait) (h : Below wr.heap.size wr wr') : RunAt w a n cap rule g Bf Bo B wr' on left ov out wv wait := by
  obtain ⟨⟨h1, h2, h3⟩, ⟨h4, h5⟩, h6, h7, h8, h9, h10, h11⟩ := H
  refine ⟨⟨(h.cell (lt_of_cell h1)).trans h1, (h.cell (lt_of_cell h2)).trans h2, (h.cell (lt_of_cell h3)).trans h3⟩, ⟨(h.cell (lt_of_cell h4)).trans h4, (h.frozen (lt_of_cell h4)).trans h5⟩, owns_at h6 h, owns_at h7 h, owns_at h8 h, h9, below_next h10 h, Nat.le_trans h11 h.size⟩
theorem RunAt.setOn (L : BoxesAt w.heap.size g Bf Bo B) (H : RunAt w a n cap rule g Bf Bo B wr on left ov out wv wait) (v : Int) : RunAt w a n cap rule g Bf Bo B (wr.setCell ⟨Bo, 0, none⟩ (.int .i64 v)) v left ov out wv wait := by
  obtain ⟨l1, l2, l3, l4⟩ := L
  obtain ⟨⟨h1, h2, h3⟩, ⟨h4, h5⟩, h6, h7, h8, h9, h10, h11⟩ := H
  have hg : wr.grownBy (wr.setCell ⟨Bo, 0, none⟩ (.int .i64 v)) (some Bo) := grown_setCells Bo [.int .i64 v] wr 0
  refine ⟨⟨grown_cell hg h1 (by simp; omega), grown_cell hg h2 (by simp; omega), grown_cell hg h3 (by simp; omega)⟩, ⟨World.cell?_setCell_same _ _ _ h4, ?_⟩, ?_, ?_, ?_, h9, ?_, ?_⟩
  · rw [World.frozen?_setCell]; exact h5
  · exact h6.kept hg (Or.inr (by show some g ≠ some Bo; simp; omega))
  · exact ownsRow_setCell_below h7 l4 _
  · exact ownsRow_setCell_below h8 l4 _
  · exact h10.setCell (by show w.heap.size ≤ Bo; omega) _
  · exact Nat.le_trans h11 hg.size
theorem RunAt.setLeft (L : BoxesAt w.heap.size g Bf Bo B) (H : RunAt w a n cap rule g Bf Bo B wr on left ov out wv wait) (i : Nat) (v : Int) : RunAt w a n cap rule g Bf Bo B (wr.setCell ⟨g, i, none⟩ (.int .i64 v)) on (left.set i v) ov out wv wait := by
  obtain ⟨l1, l2, l3, l4⟩ := L
  obtain ⟨⟨h1, h2, h3⟩, ⟨h4, h5⟩, h6, h7, h8, h9, h10, h11⟩ := H
  have hg : wr.grownBy (wr.setCell ⟨g, i, none⟩ (.int .i64 v)) (some g) := grown_setCells g [.int .i64 v] wr i
  refine ⟨⟨grown_cell hg h1 (by simp; omega), grown_cell hg h2 (by simp; omega), grown_cell hg h3 (by simp; omega)⟩, ⟨grown_cell hg h4 (by simp; omega), ?_⟩, owns_set h6 i v, ?_, ?_, h9, ?_, ?_⟩
  · rw [World.frozen?_setCell]; exact h5
  · exact ownsRow_setCell_below h7 (by show g < B; omega) _
  · exact ownsRow_setCell_below h8 (by show g < B; omega) _
  · exact h10.setCell (by show w.heap.size ≤ g; omega) _
  · exact Nat.le_trans h11 hg.size
theorem RunAt.put (L : BoxesAt w.heap.size g Bf Bo B) (H : RunAt w a n cap rule g Bf Bo B wr on left ov out wv wait) {row : Option Nat} (hg : wr.grownBy wr' row) (hB : ∀ b, row = some b → B ≤ b)
    {ov' wv' : Value} {out' : List R3} {wait' : List Nat} (ho : wr'.ownsRow B 36 3 ov' out'.length (out'.flatMap enc3)) (hw : wr'.ownsRow B 3 1 wv' wait'.length ((natsI wait').map (Value.int .i64))) (ha : ∀ b, ov'.ownBlock = some b → wv'.ownBlock ≠ some b) :
    RunAt w a n cap rule g Bf Bo B wr' on left ov' out' wv' wait' := by
  obtain ⟨l1, l2, l3, l4⟩ := L
  obtain ⟨⟨h1, h2, h3⟩, ⟨h4, h5⟩, h6, h7, h8, h9, h10, h11⟩ := H
  have hne : ∀ k, k < B → some k ≠ row := fun k hk h => by have := hB k h.symm; omega
  refine ⟨⟨grown_cell hg h1 (hne _ (by show w.heap.size < B; omega)), grown_cell hg h2 (hne _ (by show w.heap.size + 1 < B; omega)), grown_cell hg h3 (hne _ (by show Bf < B; omega))⟩, ⟨grown_cell hg h4 (hne _ l4), grown_frozen hg h4 h5 (hne _ l4)⟩, h6.kept hg (Or.inr (hne g (by omega))), ho, hw, ha, ?_, Nat.le_trans h11 hg.size⟩
  exact h10.grown hg h10.size (fun k hk => by have := hB k hk; omega)
/-- The row of those who wait is another one. -/
theorem RunAt.putWait (L : BoxesAt w.heap.size g Bf Bo B) (H : RunAt w a n cap rule g Bf Bo B wr on left ov out wv wait) (hg : wr.grownBy wr' wv.ownBlock) {wv' : Value} {wait' : List Nat} (hw : wr'.ownsRow B 3 1 wv' wait'.length ((natsI wait').map (Value.int .i64)))
    (hv : wv'.ownBlock = wv.ownBlock ∨ ∀ g, wv'.ownBlock = some g → wr.heap.size ≤ g) : RunAt w a n cap rule g Bf Bo B wr' on left ov out wv' wait' := by
  have h7 := H.2.2.2.1
  have h8 := H.2.2.2.2.1
  have h9 := H.2.2.2.2.2.1
  have hap : ov.ownBlock = none ∨ ov.ownBlock ≠ wv.ownBlock := by
    cases hb : ov.ownBlock with
    | none => exact Or.inl rfl
    | some b => exact Or.inr (fun h => h9 b hb h.symm)
  refine H.put L hg (fun b hb => (h8.lt b hb).1) (h7.kept hg hap) hw (fun b hb h => ?_)
  rcases hv with hv | hv
  · exact h9 b hb (by rw [← hv]; exact h)
  · have h1 := hv b h
    have h2 := (h7.lt b hb).2
    omega
/-- The row of pieces is another one. -/
theorem RunAt.putOut (L : BoxesAt w.heap.size g Bf Bo B) (H : RunAt w a n cap rule g Bf Bo B wr on left ov out wv wait) (hg : wr.grownBy wr' ov.ownBlock) {ov' : Value} {out' : List R3} (ho : wr'.ownsRow B 36 3 ov' out'.length (out'.flatMap enc3))
    (hv : ov'.ownBlock = ov.ownBlock ∨ ∀ g, ov'.ownBlock = some g → wr.heap.size ≤ g) : RunAt w a n cap rule g Bf Bo B wr' on left ov' out' wv wait := by
  have h7 := H.2.2.2.1
  have h8 := H.2.2.2.2.1
  have h9 := H.2.2.2.2.2.1
  have hap : wv.ownBlock = none ∨ wv.ownBlock ≠ ov.ownBlock := by
    cases hb : wv.ownBlock with
    | none => exact Or.inl rfl
    | some b => exact Or.inr (fun h => h9 b h.symm hb)
  refine H.put L hg (fun b hb => (h7.lt b hb).1) ho (h8.kept hg hap) (fun b hb h => ?_)
  rcases hv with hv | hv
  · exact h9 b (by rw [← hv]; exact hb) h
  · have h1 := hv b hb
    have h2 := (h8.lt b h).2
    omega
theorem flat3_set (out : List R3) (k : Nat) (p : R3) (v : Int) (h : k < out.length) (hp : out[k] = p) : (out.set k (p.1, p.2.1, v)).flatMap enc3 = (out.flatMap enc3).set (k * 3 + 2) (.int .i64 v) := by
  subst hp
  induction out generalizing k with
  | nil => simp at h
  | cons x xs ih =>
    rcases k with _ | k
    · simp [enc3]
    · have := ih k (by simpa using h)
      simp only [List.set_cons_succ, List.flatMap_cons, List.getElem_cons_succ]
      rw [this, show (k + 1) * 3 + 2 = (enc3 x).length + (k * 3 + 2) by simp [enc3]; omega, List.set_append_right _ _ (by omega)]
      simp
/-- The last piece is made longer. -/
theorem RunAt.setTo {bo m c : Nat} (L : BoxesAt w.heap.size g Bf Bo B) (H : RunAt w a n cap rule g Bf Bo B wr on left (.slice (some ⟨bo, 0, none⟩) m c) out wv wait) (k : Nat) (v : Int) (hk : k < out.length) : RunAt w a n cap rule g Bf Bo B (wr.setCell ⟨bo, k * 3 + 2, none⟩ (.int .i64 v)) on left (.slice (some ⟨bo, 0, none⟩) m c) (out.set k (out[k].1, out[k].2.1, v)) wv wait := by
  refine H.putOut L (grown_setCells bo [.int .i64 v] wr _) ?_ (Or.inl rfl)
  rw [flat3_set out k out[k] v hk rfl, List.length_set]
  have h7 := H.2.2.2.1
  have hm : m = out.length := by
    rcases h7.2 with ⟨h, _⟩ | ⟨_, _, _, h, _⟩
    · cases h
    · exact (Value.slice.inj h).2.1
  subst hm
  exact (h7.stored (k * 3 + 2) (.int .i64 v)).1

/-! ### the function values -/
/-- The comparison that path.Run hands to MinFunc. -/
def fRun (rule : Int) (xs : List R3) (E : List Int) (x y : Int) : Int := orI [cmpI (rkOf rule xs (lf E) x.toNat) (rkOf rule xs (lf E) y.toNat), x - y]
theorem fRun_goes (rule : Int) (xs : List R3) (E : List Int) (i j : Nat) : fRun rule xs E i j < 0 ↔ goesB rule xs (lf E) i j := by
  unfold fRun goesB cmpI orI orI orI
  simp only [Int.toNat_natCast]
  split <;> (try split) <;> omega
theorem elems_new2 (w : World) (x y : Int) (t : TypeId) : Elems encI 1 (w.alloc (.cells #[.int .i64 x, .int .i64 y] t)) (some ⟨w.heap.size, 0, none⟩) [x, y] := by
  refine Or.inr ⟨_, _, rfl, fun j hj i u hu => ?_⟩
  have hi : i = 0 := by
    rcases i with _ | i
    · rfl
    · simp at hu
  subst hi
  show (match (w.heap.push (.cells #[.int .i64 x, .int .i64 y] t))[w.heap.size]? with | some (.cells c _ _) => if (none : Option Nat).isSome then none else c[0 + j * 1 + 0]? | _ => none) = some u
  rw [Array.getElem?_push_size]
  rcases j with _ | _ | j
  · simpa using hu
  · simpa using hu
  · simp at hj; omega
set_option maxRecDepth 100000 in
set_option maxHeartbeats 4000000 in
theorem runLess_any (rule : Int) (a ae : Option Addr) (n cap ce Br Bl Bf i j : Nat) (xs : List R3) (E : List Int) (w : World) (hn : n = xs.length) (hm : n = E.length) (hi : i < n) (hj : j < n) (h60 : n ≤ 60) (hr : 1 ≤ rule) (hr6 : rule ≤ 6) (hx : Elems enc3 3 w a xs) (hE : Elems encI 1 w ae E)
    (c1 : w.cell? ⟨Br, 0, none⟩ = some (.int .i64 rule)) (c2 : w.cell? ⟨Bl, 0, none⟩ = some (.slice a n cap)) (c3 : w.cell? ⟨Bf, 0, none⟩ = some (.slice ae n ce)) :
    Calls Tryd.prog 29 #[.int .i64 i, .int .i64 j, .pointer (some ⟨Br, 0, none⟩), .pointer (some ⟨Bl, 0, none⟩), .pointer (some ⟨Bf, 0, none⟩)] w fun e w' => e = .returned (.int .i64 (fRun rule xs E i j)) ∧ Below w.heap.size w w' := by
  have hw : IntKind.i64.wrap ((i : Int) - (j : Int)) = (i : Int) - j := IntWalk.i64_in _ (by omega)
  have HV : Hid (fRun rule xs E i j = orI [cmpI (rkOf rule xs (lf E) i) (rkOf rule xs (lf E) j), IntKind.i64.wrap ((i : Int) - (j : Int))]) := Lib.hid (by rw [hw]; simp [fRun])
  have R1 : ∀ k, k < n → ∀ w', Below w.heap.size w w' → Calls Tryd.prog 32 #[.int .i64 rule, .slice a n cap, .slice ae n ce, .int .i64 k] w' fun e w'' => e = .returned (.int .i64 (rkOf rule xs (lf E) k)) ∧ Below w'.heap.size w' w'' := fun k hk w' hb => rank_any rule a ae n n cap ce k xs E w' hn hm hk hk (hx.at hb) (hE.at hb) h60 hr hr6
  generalize rkOf rule xs (lf E) = rk at *
  have H1 := Lib.hid R1
  clear hx hE R1 hw hn hm
  go_enter Tryd.func29, Tryd.ntmps29
  have kB := Below.refl w.drew.heap.size w.drew
  have kD : Below w.heap.size w w.drew := (Below.refl _ _).drew
  go_wp2
  go_region_held3 (fun w' => w'.cell? ⟨Br, 0, none⟩ = some (.int .i64 rule) ∧ w'.cell? ⟨Bl, 0, none⟩ = some (.slice a n cap) ∧ w'.cell? ⟨Bf, 0, none⟩ = some (.slice ae n ce))
    (first
      | exact ⟨c1, c2, c3⟩
      | exact ⟨(kB.cell (lt_of_cell c1)).trans c1, (kB.cell (lt_of_cell c2)).trans c2, (kB.cell (lt_of_cell c3)).trans c3⟩
      | exact ⟨((kB.alloc kB.size _).cell (lt_of_cell c1)).trans c1, ((kB.alloc kB.size _).cell (lt_of_cell c2)).trans c2, ((kB.alloc kB.size _).cell (lt_of_cell c3)).trans c3⟩)
    (first
      | (go_at_call 32; refine (H1.out _ (by assumption) _ (below_next kD kB)).mono ?_; rintro e wN ⟨rfl, hbN⟩; replace kB := below_next kB hbN)
      | (go_at_call 31; refine (cmp_any (rk i) (rk j) _).mono ?_; rintro e wN ⟨rfl, hbN⟩; replace kB := below_next kB hbN)
      | (go_at_call 30; refine (or_any _ _ _ [cmpI (rk i) (rk j), IntKind.i64.wrap ((i : Int) - (j : Int))] _ rfl (by simp) (elems_new2 _ _ _ _)).mono ?_; rintro e wN ⟨rfl, hbN⟩; replace kB := below_next (kB.alloc kB.size _) hbN))
  go_wp2
  go_ret
  exact ⟨by rw [HV.out]; rfl, below_next kD kB⟩
theorem runIs_any (Bo : Nat) (x on : Int) (w : World) (c1 : w.cell? ⟨Bo, 0, none⟩ = some (.int .i64 on)) :
    Calls Tryd.prog 34 #[.int .i64 x, .pointer (some ⟨Bo, 0, none⟩)] w fun e w' => e = .returned (.bool (x == on)) ∧ Below w.heap.size w w' := by
  go_enter Tryd.func34, Tryd.ntmps34
  go_wp2
  go_ret
  exact ⟨rfl, Below.refl _ _⟩
theorem eg_run1 : ∀ args w, (callFunc 29 args).run Tryd.prog w = .ok (.enter 29 args) w := fun args w => by kernel_rfl
theorem eg_run2 : ∀ args w, (callFunc 34 args).run Tryd.prog w = .ok (.enter 34 args) w := fun args w => by kernel_rfl
/-- Who goes ahead of all that wait. -/
theorem min_goes (rule : Int) (xs : List R3) (E : List Int) (wait : List Nat) (h : wait ≠ []) : ∃ b, b ∈ wait ∧ minAt (fRun rule xs E) (natsI wait) ((natsI wait).length - 1) = (b : Int) ∧ ∀ i ∈ wait, i ≠ b → goesB rule xs (lf E) b i := by
  have key : ∀ k, k < wait.length → ∃ b, b ∈ wait ∧ minAt (fRun rule xs E) (natsI wait) k = (b : Int) ∧ ∀ t, t ≤ k → ∀ ht : t < wait.length, wait[t] ≠ b → goesB rule xs (lf E) b wait[t] := by
    intro k
    induction k with
    | zero =>
      intro hk
      refine ⟨wait[0], List.getElem_mem hk, ?_, fun t ht h2 hne => ?_⟩
      · unfold minAt natsI; simp [List.getD_eq_getElem?_getD, hk]
      · obtain rfl : t = 0 := by omega
        exact absurd rfl hne
    | succ k ih =>
      intro hk
      obtain ⟨b, hb, hm, hall⟩ := ih (by omega)
      have hx : (natsI wait).getD (k + 1) 0 = ((wait[k + 1] : Nat) : Int) := by unfold natsI; simp [List.getD_eq_getElem?_getD, hk]
      unfold minAt
      rw [hx, hm]
      by_cases hc : fRun rule xs E ((wait[k + 1] : Nat) : Int) (b : Int) < 0
      · rw [if_pos hc]
        have hgo := (fRun_goes rule xs E _ _).1 hc
        refine ⟨wait[k + 1], List.getElem_mem hk, rfl, fun t ht h2 hne => ?_⟩
        rcases Nat.lt_or_ge t (k + 1) with h3 | h3
        · by_cases h4 : wait[t] = b
          · rw [h4]; exact hgo
          · exact goes_trans hgo (hall t (by omega) h2 h4)
        · obtain rfl : t = k + 1 := by omega
          exact absurd rfl hne
      · rw [if_neg hc]
        have hgo := mt (fRun_goes rule xs E _ _).2 hc
        refine ⟨b, hb, rfl, fun t ht h2 hne => ?_⟩
        rcases Nat.lt_or_ge t (k + 1) with h3 | h3
        · exact hall t (by omega) h2 hne
        · obtain rfl : t = k + 1 := by omega
          rcases goes_total (rule := rule) (xs := xs) (left := lf E) hne with h | h
          · exact absurd h hgo
          · exact h
  have hl : 0 < wait.length := List.length_pos_iff.2 h
  obtain ⟨b, h1, h2, h3⟩ := key (wait.length - 1) (by omega)
  refine ⟨b, h1, by unfold natsI at h2 ⊢; simpa using h2, fun i hi hne => ?_⟩
  obtain ⟨t, ht, rfl⟩ := List.mem_iff_getElem.1 hi
  exact h3 t (by omega) ht hne
end Go.Proofs.YtannijeiecmjpaaDoor
