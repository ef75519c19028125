/- The machines by when they are free (package shop's spare) are a heap in memory. -/
import Derived.Test.YtannijeiecmjpaaDoorHeapW
import Derived.Test.YtannijeiecmjpaaDoorInBox
import Derived.Test.YtannijeiecmjpaaDoorListM
import Derived.Test.YtannijeiecmjpaaDoorRunC
import Derived.Test.YtannijeiecmjpaaDoorRunS
import Derived.BigQuiet
import Derived.Deep.RegionLaw
import Derived.Deep.QuietTactic
namespace Go.Proofs.YtannijeiecmjpaaDoor
open Go.RowKit

abbrev encP (x : P2) : List Value := [.int .i64 x.1, .int .i64 x.2]
abbrev StS (bp B : Nat) (w0 : World) (s0 : Value) := InBox 96 2 encP bp B w0 s0
/-- A machine as an interface value. -/
abbrev evS (x : P2) : Value := .iface 96 (.agg #[.int .i64 x.1, .int .i64 x.2])
def fS (x y : P2) : Int := orI [cmpI x.1 y.1, cmpI x.2 y.2]
theorem fS_lt (x y : P2) : decide (fS x y < 0) = ltP x y := by
  cases h : ltP x y with
  | true => rw [ltP_iff] at h; simp only [decide_eq_true_eq]; unfold fS cmpI orI orI orI; split <;> (try split) <;> omega
  | false => rw [ltP_not] at h; simp only [decide_eq_false_iff_not]; unfold fS cmpI orI orI orI; split <;> (try split) <;> omega
theorem spare_mLen (bp : Nat) (s : Value) (w : World) (h : w.cell? ⟨bp, 0, none⟩ = some s) : (method 308 98 (.pointer (some ⟨bp, 0, none⟩)) "Len").run Tryd.prog w = .ok (105, s) w := by
  have e : (method 308 98 (.pointer (some ⟨bp, 0, none⟩)) "Len").run Tryd.prog w = (load ⟨bp, 0, none⟩ >>= fun s => pure (105, s)).run Tryd.prog w := by kernel_rfl
  rw [e]
  simp [go_sem, h]
theorem spare_mLess (bp : Nat) (s : Value) (w : World) (h : w.cell? ⟨bp, 0, none⟩ = some s) : (method 308 98 (.pointer (some ⟨bp, 0, none⟩)) "Less").run Tryd.prog w = .ok (106, s) w := by
  have e : (method 308 98 (.pointer (some ⟨bp, 0, none⟩)) "Less").run Tryd.prog w = (load ⟨bp, 0, none⟩ >>= fun s => pure (106, s)).run Tryd.prog w := by kernel_rfl
  rw [e]
  simp [go_sem, h]
theorem spare_mSwap (bp : Nat) (s : Value) (w : World) (h : w.cell? ⟨bp, 0, none⟩ = some s) : (method 308 98 (.pointer (some ⟨bp, 0, none⟩)) "Swap").run Tryd.prog w = .ok (107, s) w := by
  have e : (method 308 98 (.pointer (some ⟨bp, 0, none⟩)) "Swap").run Tryd.prog w = (load ⟨bp, 0, none⟩ >>= fun s => pure (107, s)).run Tryd.prog w := by kernel_rfl
  rw [e]
  simp [go_sem, h]
theorem spare_mPush (bp : Nat) (w : World) : (method 308 98 (.pointer (some ⟨bp, 0, none⟩)) "Push").run Tryd.prog w = .ok (109, .pointer (some ⟨bp, 0, none⟩)) w := by kernel_rfl
theorem spare_mPop (bp : Nat) (w : World) : (method 308 98 (.pointer (some ⟨bp, 0, none⟩)) "Pop").run Tryd.prog w = .ok (108, .pointer (some ⟨bp, 0, none⟩)) w := by kernel_rfl
theorem spare_eLen : ∀ args w, (callFunc 105 args).run Tryd.prog w = .ok (.enter 105 args) w := fun args w => by kernel_rfl
theorem spare_eLess : ∀ args w, (callFunc 106 args).run Tryd.prog w = .ok (.enter 106 args) w := fun args w => by kernel_rfl
theorem spare_eSwap : ∀ args w, (callFunc 107 args).run Tryd.prog w = .ok (.enter 107 args) w := fun args w => by kernel_rfl
theorem spare_ePush : ∀ args w, (callFunc 109 args).run Tryd.prog w = .ok (.enter 109 args) w := fun args w => by kernel_rfl
theorem spare_ePop : ∀ args w, (callFunc 108 args).run Tryd.prog w = .ok (.enter 108 args) w := fun args w => by kernel_rfl

variable {bp B : Nat} {w0 : World} {s0 s : Value} {xs : List P2} {w : World}
theorem spare_len (H : StS bp B w0 s0 s xs w) : Calls Tryd.prog 105 #[s] w fun e w' => e = .returned (.int .i64 xs.length) ∧ Below w.heap.size w w' := by
  obtain ⟨ad, cap, rfl⟩ := rowForm H.row
  clear H
  generalize xs.length = n at *
  go_enter Tryd.func105, Tryd.ntmps105
  go_wp2
  go_ret
  exact ⟨rfl, Below.refl _ _⟩
theorem spare_cells (H : StS bp B w0 s0 s xs w) {i : Nat} (hi : i < xs.length) : ∃ g cap, s = .slice (some ⟨g, 0, none⟩) xs.length cap ∧ ∀ k, k < xs.length → (w.cell? ⟨g, k * 2, none⟩ = some (.int .i64 (lg xs k).1) ∧ w.frozen? ⟨g, k * 2, none⟩ = false) ∧ (w.cell? ⟨g, k * 2 + 1, none⟩ = some (.int .i64 (lg xs k).2) ∧ w.frozen? ⟨g, k * 2 + 1, none⟩ = false) := by
  obtain ⟨g, cap, rfl, _, _⟩ := rowSome H.row (by omega)
  refine ⟨g, cap, rfl, fun k hk => ?_⟩
  have h := H.row
  obtain ⟨a, c, h1, h2, _⟩ := elems_of_owns (enc := encP) (fun _ => rfl) rfl h
  obtain ⟨rfl, _, _⟩ := Value.slice.inj h1
  obtain ⟨b, o, hbo, hc⟩ := h2.some hk
  obtain ⟨rfl, rfl⟩ : g = b ∧ 0 = o := by simpa using hbo
  have c1 := hc k hk 0 _ rfl
  have c2 := hc k hk 1 _ rfl
  simp only [Nat.zero_add, Nat.add_zero] at c1 c2
  rw [lg_get hk]
  exact ⟨⟨c1, h.frozenAt _⟩, ⟨c2, h.frozenAt _⟩⟩
theorem flatP_set (xs : List P2) (k : Nat) (v : P2) (h : k < xs.length) : (xs.set k v).flatMap encP = ((xs.flatMap encP).set (k * 2) (.int .i64 v.1)).set (k * 2 + 1) (.int .i64 v.2) := by
  induction xs generalizing k with
  | nil => simp at h
  | cons x xs ih =>
    rcases k with _ | k
    · simp [encP]
    · have := ih k (by simpa using h)
      simp only [List.set_cons_succ, List.flatMap_cons]
      rw [this, show (k + 1) * 2 + 1 = (encP x).length + (k * 2 + 1) by simp [encP]; omega, show (k + 1) * 2 = (encP x).length + k * 2 by simp [encP]; omega,
        List.set_append_right _ _ (by omega), List.set_append_right _ _ (by omega)]
      simp
theorem spare_put (H : StS bp B w0 s0 s xs w) {g n cap : Nat} (hs : s = .slice (some ⟨g, 0, none⟩) n cap) (hn : n = xs.length) (i : Nat) (hi : i < xs.length) (v : P2) : StS bp B w0 s0 s (xs.set i v) ((w.setCell ⟨g, i * 2, none⟩ (.int .i64 v.1)).setCell ⟨g, i * 2 + 1, none⟩ (.int .i64 v.2)) := by
  subst hn
  have h := H.row
  rw [hs] at h
  have h1 := h.stored (i * 2) (.int .i64 v.1)
  have h2 := h1.1.stored (i * 2 + 1) (.int .i64 v.2)
  refine H.put ?_ (by rw [flatP_set xs i v hi, List.length_set, hs]; exact h2.1)
  rw [hs]
  exact grown_trans h1.2 h2.2
set_option maxRecDepth 100000 in
set_option maxHeartbeats 4000000 in
theorem spare_less (H : StS bp B w0 s0 s xs w) (i j : Nat) (hi : i < xs.length) (hj : j < xs.length) : Calls Tryd.prog 106 #[s, .int .i64 i, .int .i64 j] w fun e w' => e = .returned (.bool (ltP (lg xs i) (lg xs j))) ∧ Below w.heap.size w w' := by
  obtain ⟨g, cap, rfl, hc⟩ := spare_cells H hi
  have c1 := (hc i hi).1.1
  have c2 := (hc j hj).1.1
  have c3 := (hc i hi).2.1
  have c4 := (hc j hj).2.1
  clear hc H
  generalize lg xs i = x at *
  generalize lg xs j = y at *
  generalize xs.length = n at *
  have HV := Lib.hid (fS_lt x y)
  obtain ⟨x1, x2⟩ := x
  obtain ⟨y1, y2⟩ := y
  simp only at c1 c2 c3 c4
  go_enter Tryd.func106, Tryd.ntmps106
  have kB := Below.refl w.drew.heap.size w.drew
  have kD : Below w.heap.size w w.drew := (Below.refl _ _).drew
  go_wp2
  go_region_held3 (fun w' => w'.cell? ⟨g, i * 2, none⟩ = some (.int .i64 x1) ∧ w'.cell? ⟨g, j * 2, none⟩ = some (.int .i64 y1) ∧ w'.cell? ⟨g, i * 2 + 1, none⟩ = some (.int .i64 x2) ∧ w'.cell? ⟨g, j * 2 + 1, none⟩ = some (.int .i64 y2))
    (first
      | exact ⟨c1, c2, c3, c4⟩
      | exact ⟨(kB.cell (lt_of_cell c1)).trans c1, (kB.cell (lt_of_cell c2)).trans c2, (kB.cell (lt_of_cell c3)).trans c3, (kB.cell (lt_of_cell c4)).trans c4⟩
      | exact ⟨((kB.alloc kB.size _).cell (lt_of_cell c1)).trans c1, ((kB.alloc kB.size _).cell (lt_of_cell c2)).trans c2, ((kB.alloc kB.size _).cell (lt_of_cell c3)).trans c3, ((kB.alloc kB.size _).cell (lt_of_cell c4)).trans c4⟩)
    (first
      | (go_at_call 31; refine (cmp_any _ _ _).mono ?_; rintro e wN ⟨rfl, hbN⟩; replace kB := below_next kB hbN)
      | (go_at_call 30; refine (or_any _ _ _ [cmpI x1 y1, cmpI x2 y2] _ rfl (by simp) (elems_new2 _ _ _ _)).mono ?_; rintro e wN ⟨rfl, hbN⟩; replace kB := below_next (kB.alloc kB.size _) hbN))
  go_wp2
  go_ret
  exact ⟨by rw [← HV.out]; rfl, below_next kD kB⟩
set_option maxRecDepth 100000 in
set_option maxHeartbeats 4000000 in
theorem spare_swap (H : StS bp B w0 s0 s xs w) (i j : Nat) (hi : i < xs.length) (hj : j < xs.length) : Calls Tryd.prog 107 #[s, .int .i64 i, .int .i64 j] w fun e w' => e = .returned (.tuple #[]) ∧ StS bp B w0 s0 s (swp xs i j) w' := by
  obtain ⟨g, cap, hs, hc⟩ := spare_cells H hi
  obtain ⟨⟨c1, f1⟩, ⟨c3, f3⟩⟩ := hc i hi
  obtain ⟨⟨c2, f2⟩, ⟨c4, f4⟩⟩ := hc j hj
  have HN : Hid (StS bp B w0 s0 s (swp xs i j) (((((w.setCell ⟨g, i * 2, none⟩ (.int .i64 (lg xs j).1)).setCell ⟨g, i * 2 + 1, none⟩ (.int .i64 (lg xs j).2)).setCell ⟨g, j * 2, none⟩ (.int .i64 (lg xs i).1)).setCell ⟨g, j * 2 + 1, none⟩ (.int .i64 (lg xs i).2)).drew)) := Lib.hid
    ((spare_put (spare_put H hs rfl i hi (lg xs j)) hs (by simp) j (by simpa using hj) (lg xs i)).next (Below.drew (Below.refl _ _)))
  subst hs
  clear hc H
  generalize hx : lg xs i = x at *
  generalize hy : lg xs j = y at *
  generalize swp xs i j = ys at *
  generalize xs.length = n at *
  by_cases hij : i = j
  · subst hij
    obtain rfl : x = y := hx.symm.trans hy
    clear hx hy
    obtain ⟨x1, x2⟩ := x
    simp only at c1 c2 c3 c4 HN
    go_enter Tryd.func107, Tryd.ntmps107
    go_wp2
    go_region
    all_goals go_wp2
    all_goals go_end0
    all_goals exact ⟨rfl, HN.out⟩
  · clear hx hy
    obtain ⟨x1, x2⟩ := x
    obtain ⟨y1, y2⟩ := y
    simp only at c1 c2 c3 c4 HN
    have d1 : i * 2 ≠ j * 2 := by omega
    have d2 : i * 2 + 1 ≠ j * 2 + 1 := by omega
    have d3 : i * 2 ≠ j * 2 + 1 := by omega
    have d4 : i * 2 + 1 ≠ j * 2 := by omega
    go_enter Tryd.func107, Tryd.ntmps107
    go_wp2
    go_region
    all_goals go_wp2
    all_goals go_end0
    all_goals exact ⟨rfl, HN.out⟩
theorem assert_spare (x : P2) (w : World) : (Instr.typeAssert (evS x) 20 96 false).run Tryd.prog w = .ok (.agg #[.int .i64 x.1, .int .i64 x.2]) w := by kernel_rfl
theorem rowSp : RowOf Tryd.prog 95 96 (.agg #[.int .i64 0, .int .i64 0]) 2 16 := rowOf Tryd.underlying95 (by kernel_rfl) rfl (by decide)
set_option maxRecDepth 100000 in
set_option maxHeartbeats 4000000 in
theorem spare_push (H : StS bp B w0 s0 s xs w) (hl : xs.length < 1000) (x : P2) : Calls Tryd.prog 109 #[.pointer (some ⟨bp, 0, none⟩), evS x] w fun e w' => e = .returned (.tuple #[]) ∧ ∃ s', StS bp B w0 s0 s' (xs ++ [x]) w' := by
  have c0 := H.box
  have HA : Hid (StS bp B w0 s0 s xs ((w.alloc (.cells #[.int .i64 x.1, .int .i64 x.2] 96)).drew)) := Lib.hid (H.next (((Below.refl _ _).alloc (Nat.le_refl _) _).drew))
  have hbs : B ≤ w.heap.size := Nat.le_trans H.hB.2 H.fr.size
  have hw0 : w0.heap.size ≤ w.heap.size := H.fr.size
  have c2 : (w.alloc (.cells #[.int .i64 x.1, .int .i64 x.2] 96)).cell? ⟨bp, 0, none⟩ = some s := HA.out.box
  have hm1 : xs.length + 1 ≤ maxLen := by unfold maxLen; omega
  have hm2 : (xs.length + 1) * 16 ≤ 140737488355328 := by omega
  have hta := assert_spare x
  have hnew : ∀ v' w', w'.ownsRow B 96 2 v' (xs.length + 1) (xs.flatMap encP ++ [.int .i64 x.1, .int .i64 x.2]) → ((w.alloc (.cells #[.int .i64 x.1, .int .i64 x.2] 96)).drew).grownBy w' s.ownBlock → (v'.ownBlock = s.ownBlock ∨ ∀ g, v'.ownBlock = some g → ((w.alloc (.cells #[.int .i64 x.1, .int .i64 x.2] 96)).drew).heap.size ≤ g) →
      w'.cell? ⟨bp, 0, none⟩ = some s ∧ w'.frozen? ⟨bp, 0, none⟩ = false ∧ StS bp B w0 s0 v' (xs ++ [x]) (w'.setCell ⟨bp, 0, none⟩ v') := fun v' w' h2 h3 h5 => by
    refine ⟨(HA.out.grown h3).1, (HA.out.grown h3).2.1, HA.out.box' h3 (by rw [List.flatMap_append, List.length_append]; exact h2) ?_⟩
    rcases h5 with h5 | h5
    · exact Or.inl h5
    · exact Or.inr (fun g hg2 => by have := h5 g hg2; simp at this; omega)
  have HNW := Lib.hid hnew
  have hBk : ((w.alloc (.cells #[.int .i64 x.1, .int .i64 x.2] 96)).drew).heap[w.heap.size]? = some (.cells [Value.int .i64 x.1, .int .i64 x.2].toArray 96 (0, 0)) := Array.getElem?_push_size
  clear hnew
  clear H
  go_enter Tryd.func109, Tryd.ntmps109
  go_wp2
  go_region_law (refine step_row_at rowSp rfl (.tmp 7) (.tmp 10) rfl B (by simp [Act.eval]) HA.out.row w.heap.size [.int .i64 x.1, .int .i64 x.2] hBk (by simp [Act.eval]) rfl (by intro u hu; simp at hu; rcases hu with rfl | rfl <;> rfl) hm1 hm2 (by simp; omega) ?_; intro v' w' h2 h3 h5; obtain ⟨c1, f1, hn⟩ := HNW.out v' w' h2 h3 h5; obtain ⟨ad, cap, hv⟩ := rowForm h2; have HN := Lib.hid hn; clear hn h2 h3 h5; subst hv)
  all_goals go_wp2
  all_goals go_end0
  all_goals exact ⟨rfl, _, HN.out⟩
set_option maxRecDepth 100000 in
set_option maxHeartbeats 4000000 in
theorem spare_pop {x : P2} (H : StS bp B w0 s0 s (xs ++ [x]) w) (hl : xs.length < 1000) : Calls Tryd.prog 108 #[.pointer (some ⟨bp, 0, none⟩)] w fun e w' => e = .returned (evS x) ∧ ∃ s', StS bp B w0 s0 s' xs w' := by
  have c0 := H.box
  have f0 := H.free
  have hflen : ∀ l : List P2, (l.flatMap encP).length = l.length * 2 := fun l => by induction l with | nil => rfl | cons a l ih => simp [encP] at ih ⊢; omega
  obtain ⟨g, cap, hs, hc⟩ := spare_cells H (i := 0) (by simp)
  have c1 := (hc xs.length (by simp)).1.1
  have c2 := (hc xs.length (by simp)).2.1
  have hx : lg (xs ++ [x]) xs.length = x := by rw [lg_get (by simp)]; simp
  rw [hx] at c1 c2
  have hle : (xs ++ [x]).length ≤ cap := by
    obtain ⟨g', cap', e1, e2, _⟩ := rowSome H.row (by simp)
    rw [hs] at e1
    obtain ⟨_, _, rfl⟩ := Value.slice.inj e1
    exact e2
  have HN : Hid (∀ o, StS bp B w0 s0 (.slice (some ⟨g, 0, none⟩) xs.length cap) xs ((w.setCell ⟨bp, 0, none⟩ (.slice (some ⟨g, 0, none⟩) xs.length cap)).alloc o)) := Lib.hid (fun o => by
    have hr := H.row
    rw [hs] at hr
    have h2 := shrink_k hr (m := xs.length) (by simp)
    rw [List.flatMap_append, List.take_append_of_le_length (by rw [hflen]; omega), List.take_of_length_le (by rw [hflen]; omega)] at h2
    exact (H.box' (World.grownBy.refl _ _) h2 (by rw [hs]; exact Or.inl rfl)).next ((Below.refl _ _).alloc (Nat.le_refl _) o))
  subst hs
  have hln : (xs ++ [x]).length = xs.length + 1 := by simp
  rw [hln] at c0 hle
  obtain ⟨n, hn⟩ : ∃ n, n = xs.length := ⟨_, rfl⟩
  rw [← hn] at c0 c1 c2 hle HN hl
  have hbw : bp < w.heap.size := lt_of_cell H.box
  clear hc hx H hln hn hflen
  obtain ⟨x1, x2⟩ := x
  simp only at c1 c2
  have k0 := fun o => cell_a1 c0 o
  have k1 := fun o => frozen_a1 hbw f0 o
  have hw : IntKind.i64.wrap (((n + 1 : Nat) : Int) - 1) = (n : Int) := by rw [IntWalk.i64_in _ (by omega)]; omega
  go_enter Tryd.func108, Tryd.ntmps108
  go_wp2
  go_ret
  exact ⟨rfl, _, HN.out _⟩
/-- The machines are a heap. -/
theorem spare_heap (bp B : Nat) (w0 : World) (s0 : Value) : HeapAt 98 (.pointer (some ⟨bp, 0, none⟩)) ltP evS (StS bp B w0 s0) 105 106 107 109 108 where
  next := fun H h => H.next h
  mN := fun H => spare_mLen _ _ _ H.box
  mL := fun H => spare_mLess _ _ _ H.box
  mS := fun H => spare_mSwap _ _ _ H.box
  mP := fun w => spare_mPush _ w
  mQ := fun w => spare_mPop _ w
  eN := spare_eLen
  eL := spare_eLess
  eS := spare_eSwap
  eP := spare_ePush
  eQ := spare_ePop
  len := fun H _ => spare_len H
  less := fun H _ i j hi hj => spare_less H i j hi hj
  swap := fun H _ i j hi hj => spare_swap H i j hi hj
  push := fun H hl x => spare_push H hl x
  pop := fun H hl => spare_pop H hl
end Go.Proofs.YtannijeiecmjpaaDoor
