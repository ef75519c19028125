/- The clock of package tape is a heap in memory. -/
import Derived.Test.YtannijeiecmjpaaDoorHeapW
import Derived.Test.YtannijeiecmjpaaDoorInBox
import Derived.BigQuiet
import Derived.Deep.RegionLaw
import Derived.Deep.QuietTactic
namespace Go.Proofs.YtannijeiecmjpaaDoor
open Go.RowKit

def ltI (x y : Int) : Bool := decide (x < y)
theorem ordI : WOrd ltI := by
  refine ⟨fun x y h => ?_, fun x y z h => ?_⟩
  · simp only [ltI, decide_eq_true_eq, decide_eq_false_iff_not] at h ⊢; omega
  · simp only [ltI, decide_eq_true_eq] at h ⊢; omega
abbrev StC (bp B : Nat) (w0 : World) (s0 : Value) := InBox 3 1 encI bp B w0 s0
theorem clock_mLen (bp : Nat) (s : Value) (w : World) (h : w.cell? ⟨bp, 0, none⟩ = some s) : (method 308 103 (.pointer (some ⟨bp, 0, none⟩)) "Len").run Tryd.prog w = .ok (42, s) w := by
  have e : (method 308 103 (.pointer (some ⟨bp, 0, none⟩)) "Len").run Tryd.prog w = (load ⟨bp, 0, none⟩ >>= fun s => pure (42, s)).run Tryd.prog w := by kernel_rfl
  rw [e]
  simp [go_sem, h]
theorem clock_mLess (bp : Nat) (s : Value) (w : World) (h : w.cell? ⟨bp, 0, none⟩ = some s) : (method 308 103 (.pointer (some ⟨bp, 0, none⟩)) "Less").run Tryd.prog w = .ok (110, s) w := by
  have e : (method 308 103 (.pointer (some ⟨bp, 0, none⟩)) "Less").run Tryd.prog w = (load ⟨bp, 0, none⟩ >>= fun s => pure (110, s)).run Tryd.prog w := by kernel_rfl
  rw [e]
  simp [go_sem, h]
theorem clock_mSwap (bp : Nat) (s : Value) (w : World) (h : w.cell? ⟨bp, 0, none⟩ = some s) : (method 308 103 (.pointer (some ⟨bp, 0, none⟩)) "Swap").run Tryd.prog w = .ok (111, s) w := by
  have e : (method 308 103 (.pointer (some ⟨bp, 0, none⟩)) "Swap").run Tryd.prog w = (load ⟨bp, 0, none⟩ >>= fun s => pure (111, s)).run Tryd.prog w := by kernel_rfl
  rw [e]
  simp [go_sem, h]

variable {bp B : Nat} {w0 : World} {s0 s : Value} {xs : List Int} {w : World}
theorem clock_len (H : StC bp B w0 s0 s xs w) : Calls Tryd.prog 42 #[s] w fun e w' => e = .returned (.int .i64 xs.length) ∧ Below w.heap.size w w' := by
  obtain ⟨ad, cap, rfl⟩ := rowForm H.row
  clear H
  generalize xs.length = n at *
  go_enter Tryd.func42, Tryd.ntmps42
  go_wp2
  go_ret
  exact ⟨rfl, Below.refl _ _⟩
theorem clock_cells (H : StC bp B w0 s0 s xs w) {i : Nat} (hi : i < xs.length) : ∃ g cap, s = .slice (some ⟨g, 0, none⟩) xs.length cap ∧ ∀ k, k < xs.length → w.cell? ⟨g, k, none⟩ = some (.int .i64 (lg xs k)) ∧ w.frozen? ⟨g, k, none⟩ = false := by
  obtain ⟨g, cap, rfl, _, _⟩ := rowSome H.row (by omega)
  refine ⟨g, cap, rfl, fun k hk => ?_⟩
  have h := H.row
  rw [flatMap_encI] at h
  rw [lg_get hk]
  exact ⟨owns_get h k hk hk, h.frozenAt k⟩
theorem clock_less (H : StC bp B w0 s0 s xs w) (i j : Nat) (hi : i < xs.length) (hj : j < xs.length) : Calls Tryd.prog 110 #[s, .int .i64 i, .int .i64 j] w fun e w' => e = .returned (.bool (ltI (lg xs i) (lg xs j))) ∧ Below w.heap.size w w' := by
  obtain ⟨g, cap, rfl, hc⟩ := clock_cells H hi
  have c1 := (hc i hi).1
  have c2 := (hc j hj).1
  clear hc H
  generalize lg xs i = x at *
  generalize lg xs j = y at *
  generalize xs.length = n at *
  go_enter Tryd.func110, Tryd.ntmps110
  go_wp2
  go_quiet (fail)
  go_wp2
  go_ret
  exact ⟨rfl, below_drewN _ _ _⟩
theorem clock_put (H : StC bp B w0 s0 s xs w) {g n cap : Nat} (hs : s = .slice (some ⟨g, 0, none⟩) n cap) (hn : n = xs.length) (i : Nat) (v : Int) : StC bp B w0 s0 s (xs.set i v) (w.setCell ⟨g, i, none⟩ (.int .i64 v)) := by
  subst hn
  have h := H.row
  rw [flatMap_encI, hs] at h
  have h2 := owns_set h i v
  refine H.put ?_ (by rw [flatMap_encI, List.length_set, hs]; exact h2)
  rw [hs]
  exact (h.stored i (.int .i64 v)).2
set_option maxRecDepth 100000 in
set_option maxHeartbeats 2000000 in
theorem clock_swap (H : StC bp B w0 s0 s xs w) (i j : Nat) (hi : i < xs.length) (hj : j < xs.length) : Calls Tryd.prog 111 #[s, .int .i64 i, .int .i64 j] w fun e w' => e = .returned (.tuple #[]) ∧ StC bp B w0 s0 s (swp xs i j) w' := by
  obtain ⟨g, cap, hs, hc⟩ := clock_cells H hi
  obtain ⟨c1, f1⟩ := hc i hi
  obtain ⟨c2, f2⟩ := hc j hj
  have HN : Hid (StC bp B w0 s0 s (swp xs i j) (((w.setCell ⟨g, i, none⟩ (.int .i64 (lg xs j))).setCell ⟨g, j, none⟩ (.int .i64 (lg xs i))).drew)) := Lib.hid
    ((clock_put (clock_put H hs rfl i (lg xs j)) hs (by simp) j (lg xs i)).next (Below.drew (Below.refl _ _)))
  subst hs
  clear hc H
  generalize lg xs i = x at *
  generalize lg xs j = y at *
  generalize swp xs i j = ys at *
  generalize xs.length = n at *
  by_cases hij : i = j
  · subst hij
    obtain rfl : x = y := by rw [c1] at c2; simpa using c2
    go_enter Tryd.func111, Tryd.ntmps111
    go_wp2
    go_region
    all_goals go_wp2
    all_goals go_end0
    all_goals exact ⟨rfl, HN.out⟩
  · go_enter Tryd.func111, Tryd.ntmps111
    go_wp2
    go_region
    all_goals go_wp2
    all_goals go_end0
    all_goals exact ⟨rfl, HN.out⟩
theorem clock_mPush (bp : Nat) (w : World) : (method 308 103 (.pointer (some ⟨bp, 0, none⟩)) "Push").run Tryd.prog w = .ok (113, .pointer (some ⟨bp, 0, none⟩)) w := by kernel_rfl
theorem clock_mPop (bp : Nat) (w : World) : (method 308 103 (.pointer (some ⟨bp, 0, none⟩)) "Pop").run Tryd.prog w = .ok (112, .pointer (some ⟨bp, 0, none⟩)) w := by kernel_rfl
theorem assert_int (x : Int) (w : World) : (Instr.typeAssert (.iface 3 (.int .i64 x)) 20 3 false).run Tryd.prog w = .ok (.int .i64 x) w := by kernel_rfl
theorem rowClk : RowOf Tryd.prog 102 3 (.int .i64 0) 1 8 := rowOf Tryd.underlying102 (by kernel_rfl) rfl (by decide)
theorem news_one (w : World) (v : Value) (e : TypeId) (j : Nat) (u : Value) (h : [v][j]? = some u) : (w.alloc (.cells #[v] e)).cell? ((⟨w.heap.size, 0, none⟩ : Addr).add j) = some u := by
  rcases j with _ | j
  · simp only [List.getElem?_cons_zero, Option.some.injEq] at h
    subst h
    show (w.alloc (.cells #[v] e)).cell? ⟨w.heap.size, 0, none⟩ = some v
    simp
  · simp at h
set_option maxRecDepth 100000 in
set_option maxHeartbeats 2000000 in
theorem clock_push (H : StC bp B w0 s0 s xs w) (hl : xs.length < 1000) (x : Int) : Calls Tryd.prog 113 #[.pointer (some ⟨bp, 0, none⟩), .iface 3 (.int .i64 x)] w fun e w' => e = .returned (.tuple #[]) ∧ ∃ s', StC bp B w0 s0 s' (xs ++ [x]) w' := by
  have c0 := H.box
  have HA : Hid (StC bp B w0 s0 s xs ((w.alloc (.cells #[.int .i64 x] 3)).drew)) := Lib.hid (H.next (((Below.refl _ _).alloc (Nat.le_refl _) _).drew))
  have hbs : B ≤ w.heap.size := Nat.le_trans H.hB.2 H.fr.size
  have hw0 : w0.heap.size ≤ w.heap.size := H.fr.size
  have c2 : (w.alloc (.cells #[.int .i64 x] 3)).cell? ⟨bp, 0, none⟩ = some s := HA.out.box
  have hm1 : xs.length + 1 ≤ maxLen := by unfold maxLen; omega
  have hm2 : (xs.length + 1) * 8 ≤ 140737488355328 := by omega
  have hta := assert_int x
  clear H
  have hnew : ∀ v' w', w'.ownsRow B 3 1 v' (xs.length + 1) (xs.flatMap encI ++ [.int .i64 x]) → ((w.alloc (.cells #[.int .i64 x] 3)).drew).grownBy w' s.ownBlock → (v'.ownBlock = s.ownBlock ∨ ∀ g, v'.ownBlock = some g → ((w.alloc (.cells #[.int .i64 x] 3)).drew).heap.size ≤ g) →
      w'.cell? ⟨bp, 0, none⟩ = some s ∧ w'.frozen? ⟨bp, 0, none⟩ = false ∧ StC bp B w0 s0 v' (xs ++ [x]) (w'.setCell ⟨bp, 0, none⟩ v') := fun v' w' h2 h3 h5 => by
    refine ⟨(HA.out.grown h3).1, (HA.out.grown h3).2.1, HA.out.box' h3 (by rw [List.flatMap_append, List.length_append]; exact h2) ?_⟩
    rcases h5 with h5 | h5
    · exact Or.inl h5
    · exact Or.inr (fun g hg2 => by have := h5 g hg2; simp at this; omega)
  have HNW := Lib.hid hnew
  have hBk : ((w.alloc (.cells #[.int .i64 x] 3)).drew).heap[w.heap.size]? = some (.cells [Value.int .i64 x].toArray 3 (0, 0)) := Array.getElem?_push_size
  clear hnew
  go_enter Tryd.func113, Tryd.ntmps113
  go_wp2
  go_region_law (refine step_row_at rowClk rfl (.tmp 7) (.tmp 10) rfl B (by simp [Act.eval]) HA.out.row w.heap.size [.int .i64 x] hBk (by simp [Act.eval]) rfl (by intro u hu; simp at hu; subst hu; rfl) hm1 hm2 (by simp; omega) ?_; intro v' w' h2 h3 h5; obtain ⟨c1, f1, hn⟩ := HNW.out v' w' h2 h3 h5; obtain ⟨ad, cap, hv⟩ := rowForm h2; have HN := Lib.hid hn; clear hn h2 h3 h5; subst hv)
  all_goals go_wp2
  all_goals go_end0
  all_goals exact ⟨rfl, _, HN.out⟩
set_option maxRecDepth 100000 in
set_option maxHeartbeats 2000000 in
theorem clock_pop {x : Int} (H : StC bp B w0 s0 s (xs ++ [x]) w) (hl : xs.length < 1000) : Calls Tryd.prog 112 #[.pointer (some ⟨bp, 0, none⟩)] w fun e w' => e = .returned (.iface 3 (.int .i64 x)) ∧ ∃ s', StC bp B w0 s0 s' xs w' := by
  have c0 := H.box
  have f0 := H.free
  obtain ⟨g, cap, hs, hc⟩ := clock_cells H (i := 0) (by simp)
  have c1 := (hc xs.length (by simp)).1
  have hx : lg (xs ++ [x]) xs.length = x := by rw [lg_get (by simp)]; simp
  rw [hx] at c1
  have hr := H.row
  rw [hs] at hr
  have h2 := shrink_k hr (m := xs.length) (by simp)
  have hle : (xs ++ [x]).length ≤ cap := by
    obtain ⟨g', cap', e1, e2, _⟩ := rowSome H.row (by simp)
    rw [hs] at e1
    obtain ⟨_, _, rfl⟩ := Value.slice.inj e1
    exact e2
  rw [List.flatMap_append, List.take_append_of_le_length (by rw [flatMap_encI]; simp), List.take_of_length_le (by rw [flatMap_encI]; simp)] at h2
  have HN : Hid (StC bp B w0 s0 (.slice (some ⟨g, 0, none⟩) xs.length cap) xs (w.setCell ⟨bp, 0, none⟩ (.slice (some ⟨g, 0, none⟩) xs.length cap))) := Lib.hid (H.box' (World.grownBy.refl _ _) h2 (by rw [hs]; exact Or.inl rfl))
  subst hs
  have hln : (xs ++ [x]).length = xs.length + 1 := by simp
  rw [hln] at c0 hle
  obtain ⟨n, hn⟩ : ∃ n, n = xs.length := ⟨_, rfl⟩
  rw [← hn] at c0 c1 hle HN hl
  clear hc hx hr h2 H hln hn
  have hw : IntKind.i64.wrap (((n + 1 : Nat) : Int) - 1) = (n : Int) := by rw [IntWalk.i64_in _ (by omega)]; omega
  go_enter Tryd.func112, Tryd.ntmps112
  go_wp2
  go_ret
  exact ⟨rfl, _, HN.out⟩
theorem clock_eLen : ∀ args w, (callFunc 42 args).run Tryd.prog w = .ok (.enter 42 args) w := fun args w => by kernel_rfl
theorem clock_eLess : ∀ args w, (callFunc 110 args).run Tryd.prog w = .ok (.enter 110 args) w := fun args w => by kernel_rfl
theorem clock_eSwap : ∀ args w, (callFunc 111 args).run Tryd.prog w = .ok (.enter 111 args) w := fun args w => by kernel_rfl
theorem clock_ePush : ∀ args w, (callFunc 113 args).run Tryd.prog w = .ok (.enter 113 args) w := fun args w => by kernel_rfl
theorem clock_ePop : ∀ args w, (callFunc 112 args).run Tryd.prog w = .ok (.enter 112 args) w := fun args w => by kernel_rfl
/-- The clock is a heap. -/
theorem clock_heap (bp B : Nat) (w0 : World) (s0 : Value) : HeapAt 103 (.pointer (some ⟨bp, 0, none⟩)) ltI (fun x : Int => .iface 3 (.int .i64 x)) (StC bp B w0 s0) 42 110 111 113 112 where
  next := fun H h => H.next h
  mN := fun H => clock_mLen _ _ _ H.box
  mL := fun H => clock_mLess _ _ _ H.box
  mS := fun H => clock_mSwap _ _ _ H.box
  mP := fun w => clock_mPush _ w
  mQ := fun w => clock_mPop _ w
  eN := clock_eLen
  eL := clock_eLess
  eS := clock_eSwap
  eP := clock_ePush
  eQ := clock_ePop
  len := fun H _ => clock_len H
  less := fun H _ i j hi hj => clock_less H i j hi hj
  swap := fun H _ i j hi hj => clock_swap H i j hi hj
  push := fun H hl x => clock_push H hl x
  pop := fun H hl => clock_pop H hl
end Go.Proofs.YtannijeiecmjpaaDoor
