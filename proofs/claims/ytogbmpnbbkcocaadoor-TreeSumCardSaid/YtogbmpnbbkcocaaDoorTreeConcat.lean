/- slices.Concat of two slices of edges, and slices.Grow of nothing. -/
import Derived.Test.YtogbmpnbbkcocaaDoorTreeFarLaw
import Derived.Lib.AppendZerosOnto
import Derived.Lib.AppendZeros
namespace Go.Proofs.YtogbmpnbbkcocaaDoor
open Go.RowKit
theorem rowE2 : RowOf Tryd.prog 22 81 (.agg #[.int .i64 0, .int .i64 0, .int .i64 0]) 3 24 := rowOf Tryd.underlying22 (by kernel_rfl) rfl (by decide)

theorem flat_idx {α : Type} (enc : α → List Value) (k : Nat) (hk : ∀ x, (enc x).length = k) : ∀ (xs : List α) (j : Nat) (u : Value), (xs.flatMap enc)[j]? = some u → ∃ q, ∃ h : q < xs.length, ∃ i, j = q * k + i ∧ (enc xs[q])[i]? = some u := by
  intro xs
  induction xs with
  | nil => intro j u h; simp at h
  | cons x xs ih =>
    intro j u h
    rw [List.flatMap_cons] at h
    rcases Nat.lt_or_ge j (enc x).length with g | g
    · rw [List.getElem?_append_left g] at h
      exact ⟨0, by simp, j, by omega, by simpa using h⟩
    · rw [List.getElem?_append_right g] at h
      obtain ⟨q, hq, i, h1, h2⟩ := ih _ _ h
      rw [hk x] at g h1
      exact ⟨q + 1, by simpa using hq, i, by rw [Nat.succ_mul]; omega, by simpa using h2⟩
/-- The cells of a slice in a row. -/
theorem elems_news {w : World} {a : Addr} {xs : List R3} (h : Elems enc3 3 w (some a) xs) : ∀ j u, (xs.flatMap enc3)[j]? = some u → w.cell? (a.add j) = some u := by
  intro j u hj
  obtain ⟨q, hq, i, rfl, h2⟩ := flat_idx enc3 3 (fun _ => rfl) xs j u hj
  obtain ⟨b, o, ha, hc⟩ := h.some hq
  simp only [Option.some.injEq] at ha
  subst ha
  have h3 := hc q hq i u h2
  unfold Addr.add
  split
  · rename_i h0
    rw [show q * 3 = 0 by omega, show i = 0 by omega] at h3
    exact h3
  · rw [show o + (q * 3 + i) = o + q * 3 + i by omega]; exact h3
theorem flat3_len (xs : List R3) : (xs.flatMap enc3).length = xs.length * 3 := by
  induction xs with
  | nil => rfl
  | cons x xs ih =>
    rw [List.flatMap_cons, List.length_append, ih]
    show 3 + _ = (xs.length + 1) * 3
    omega
theorem flat3_one (xs : List R3) : ∀ u ∈ xs.flatMap enc3, u.oneCell' = true := by
  intro u hu
  obtain ⟨x, _, h⟩ := List.mem_flatMap.1 hu
  exact enc3_one x u h
theorem zero_size (cs : Array Value) (n : Nat) : (Builtin.zeroCells cs n).size = n * cs.size := by
  unfold Builtin.zeroCells
  exact size_madeCells _ _

/-- Any number more are appended. -/
theorem app_many {P : Program} {w : World} {ops : Array Oper} {rest : List Oper} {o : Oper} {a : Act} {Q : Exit → Act → World → Prop} {t e : TypeId} {z : Value} {size bytes : Nat} (R : RowOf P t e z size bytes) (hgd : o.guard = none) (s x : Operand)
    (ho : o.op = .call { callee := .builtin .append, args := #[s, x], argTypes := #[t, t] }) (base : Nat)
    {v : Value} {n : Nat} {xs : List Value} (hs : a.eval s = v) (hown : w.ownsRow base e size v n xs)
    (ad : Addr) (m c : Nat) (news : List Value) (hx : a.eval x = .slice (some ad) m c) (hl : news.length = m * size) (hnews : ∀ j u, news[j]? = some u → w.cell? (ad.add j) = some u) (h1 : ∀ u ∈ news, u.oneCell' = true)
    (h63 : n + m ≤ maxLen) (hbytes : (n + m) * bytes ≤ 140737488355328) (hbase : base ≤ w.heap.size)
    (h : ∀ v' w', w'.ownsRow base e size v' (n + m) (xs ++ news) → Below base w w' → wpList P ops Q rest (a.put o.dst v') w') :
    wpList P ops Q (o :: rest) a w := by
  obtain ⟨i, ht, hi, hz, hsize, hby, hzs, hsz⟩ := R
  exact wpList_append_own w hgd s x t ho base e i z size bytes ht hi hz hsize hby hzs hsz v n xs hs hown ad m c news hx hl hnews h1 h63 hbytes hbase fun v' w' h2 h3 _ =>
    h v' w' h2 (Below.grown (Below.refl _ _) h3 hbase (fun k hk => (hown.lt k hk).1))
def GrowPost (w : World) (e : Ending) (w' : World) : Prop := ∃ v, e = .returned v ∧ w'.ownsRow w.heap.size 81 3 v 0 [] ∧ Below w.heap.size w w'
set_option maxRecDepth 100000 in
set_option maxHeartbeats 4000000 in
theorem growNil_any (n : Nat) (w : World) (hn : n ≤ 200) : Calls Tryd.prog 74 #[.slice none 0 0, .int .i64 n] w (GrowPost w) := by
  by_cases h0 : n = 0
  · subst h0
    go_enter Tryd.func74, Tryd.ntmps74
    go_wp2
    go_ret
    unfold GrowPost
    exact ⟨_, rfl, World.ownsRow_nil _ _ _ _, Below.refl _ _⟩
  · obtain ⟨i, ht, hi, hz, hsize, hby, hzs, hsz⟩ := rowE2
    have hrz : ∀ ty, (Builtin.append_ #[22, 3] ty #[.slice none 0 0, .int .i64 n]).run Tryd.prog w = _ := fun ty =>
      Lib.run_append_grow_zeros w 22 3 ty 81 i _ .i64 .i64 ht Tryd.underlying3 hi hz none 0 0 [] (run_firstCells_none w.drew i.size 0 0 0) n (by omega) (by omega) (by omega) (by omega) (by rw [hby]; omega) (by rw [hby]; exact growslice_fits (by omega) (by omega))
    have hG1 : 0 + n ≤ grownCap w (0 + n) 0 81 := grownCap_ge w _ _ _
    have hG2 := grownCap_le_maxLen w (0 + n) 0 81 (by unfold maxLen; omega)
    have hcs : (([] : List Value).toArray ++ Builtin.zeroCells (Value.agg #[.int .i64 0, .int .i64 0, .int .i64 0]).cells n ++ Builtin.zeroCells (Value.agg #[.int .i64 0, .int .i64 0, .int .i64 0]).cells (grownCap w (0 + n) 0 81 - (0 + n))).size = grownCap w (0 + n) 0 81 * 3 := by
      rw [Array.size_append, Array.size_append, zero_size, zero_size]
      rw [show (Value.agg #[.int .i64 0, .int .i64 0, .int .i64 0]).cells.size = 3 by rfl]
      simp only [List.size_toArray, List.length_nil]
      omega
    generalize ([] : List Value).toArray ++ Builtin.zeroCells (Value.agg #[.int .i64 0, .int .i64 0, .int .i64 0]).cells n ++ Builtin.zeroCells (Value.agg #[.int .i64 0, .int .i64 0, .int .i64 0]).cells (grownCap w (0 + n) 0 81 - (0 + n)) = cs at *
    generalize grownCap w (0 + n) 0 81 = G at *
    rw [Nat.zero_add] at hrz hG1
    have hpos : (0 : Int) < (n : Int) := by omega
    have HC := Lib.hid hcs
    have HRZ := Lib.hid hrz
    have hG3 : G ≤ 9223372036854775807 := by unfold maxLen at hG2; omega
    have HG2 := Lib.hid hG2
    clear ht hi hz hsize hby hzs hsz hcs hrz hG2
    go_enter Tryd.func74, Tryd.ntmps74
    go_wp2_with (at_builtin; refine Lib.wpList_append_run _ rfl _ _ _ _ rfl _ _ rfl rfl _ _ (HRZ.out _) ?_)
    go_ret
    unfold GrowPost
    refine ⟨_, rfl, ⟨by simp, Or.inr ⟨w.heap.size, G, cs, rfl, Nat.le_refl _, ?_, by omega, HG2.out, HC.out, by simp⟩⟩, ?_⟩
    · exact heap_alloc_new w _
    · exact ((Below.refl _ _).drew).alloc (Nat.le_refl _) _

def ConcatPost (w : World) (l1 l2 : List R3) (e : Ending) (w' : World) : Prop := ∃ a' cap', e = .returned (.slice a' (l1 ++ l2).length cap') ∧ Elems enc3 3 w' a' (l1 ++ l2) ∧ Below w.heap.size w w'
set_option maxRecDepth 100000 in
set_option maxHeartbeats 8000000 in
theorem concat_any (G n1 c1 n2 c2 : Nat) (a1 a2 : Addr) (l1 l2 : List R3) (w : World) (hl1 : n1 = l1.length) (hl2 : n2 = l2.length) (hn : l1.length + l2.length ≤ 200) (h0 : w.cell? ⟨G, 0, none⟩ = some (.slice (some a1) n1 c1)) (h1 : w.cell? ⟨G, 1, none⟩ = some (.slice (some a2) n2 c2)) (e1 : Elems enc3 3 w (some a1) l1) (e2 : Elems enc3 3 w (some a2) l2) :
    Calls Tryd.prog 51 #[.slice (some ⟨G, 0, none⟩) 2 2] w (ConcatPost w l1 l2) := by
  subst hl1; subst hl2
  have HE := Lib.hid (show Elems enc3 3 w (some a1) l1 ∧ Elems enc3 3 w (some a2) l2 from ⟨e1, e2⟩)
  clear e1 e2
  go_enter Tryd.func51, Tryd.ntmps51
  go_wp2
  go_loop [3, 11] (fun nv iv => (iv = .int .i64 0 ∧ nv = .int .i64 0) ∨ (iv = .int .i64 1 ∧ nv = .int .i64 l1.length) ∨ (iv = .int .i64 2 ∧ ∃ t : Nat, t ≤ 200 ∧ nv = .int .i64 t)) (fun _ iv => 2 - (intOf iv).toNat)
  case atStart => exact Or.inl ⟨rfl, rfl⟩
  case round =>
    rcases hrel with ⟨rfl, rfl⟩ | ⟨rfl, rfl⟩ | ⟨rfl, t, ht, rfl⟩
    · go_wp2
      exact ⟨Or.inr (Or.inl ⟨by go_num, by go_num⟩), by simp [intOf]⟩
    · go_wp2
      exact ⟨Or.inr (Or.inr ⟨by go_num, l1.length + l2.length, hn, by go_num⟩), by simp [intOf]⟩
    · have HC := Lib.hid (growNil_any t w ht)
      go_wp2_with fail
      refine HC.out.mono ?_
      intro e w1 hw1
      unfold GrowPost at hw1
      obtain ⟨v, rfl, hown, hb⟩ := hw1
      have k0 := (hb.cell (lt_of_cell h0)).trans h0
      have k1 := (hb.cell (lt_of_cell h1)).trans h1
      have HB := Lib.hid hb
      have HK := Lib.hid (show w1.cell? ⟨G, 0, none⟩ = some (.slice (some a1) l1.length c1) ∧ w1.cell? ⟨G, 1, none⟩ = some (.slice (some a2) l2.length c2) from ⟨k0, k1⟩)
      have hbs := hb.size
      clear HC h0 k0 k1 hb
      go_wp2
      go_loopw [6, 27] (fun v iv wr => (iv = .int .i64 0 ∧ wr.ownsRow w.heap.size 81 3 v 0 [] ∧ Below w1.heap.size w1 wr ∧ w1 = wr) ∨ (iv = .int .i64 1 ∧ wr.ownsRow w.heap.size 81 3 v l1.length (l1.flatMap enc3) ∧ Below w.heap.size w wr) ∨
          (iv = .int .i64 2 ∧ wr.ownsRow w.heap.size 81 3 v (l1 ++ l2).length ((l1 ++ l2).flatMap enc3) ∧ Below w.heap.size w wr)) (fun _ iv _ => 2 - (intOf iv).toNat)
      case atStart => exact Or.inl ⟨rfl, hown, Below.refl _ _, rfl⟩
      case round =>
        clear hown
        rcases hrel with ⟨rfl, hown, _, rfl⟩ | ⟨rfl, hown, hb⟩ | ⟨rfl, hown, hb⟩
        · have k0 := HK.out.1
          have hw := elems_news (HE.out.1.at HB.out)
          go_wp2_with (at_builtin; refine app_many rowE2 rfl _ _ rfl w.heap.size rfl hown a1 l1.length c1 (l1.flatMap enc3) rfl (flat3_len _) hw (flat3_one _) (by unfold maxLen; omega) (by omega) hbs ?_)
          intro v2 w2 hown2 hb2
          have hb3 := HB.out.trans hb2
          clear hw hown hb2 k0
          go_wp2
          exact ⟨Or.inr (Or.inl ⟨by go_num, hown2, hb3⟩), by simp [intOf]⟩
        · have k1 := (hb.cell (lt_of_cell h1)).trans h1
          have hw := elems_news (HE.out.2.at hb)
          have hbs2 := hb.size
          go_wp2_with (at_builtin; refine app_many rowE2 rfl _ _ rfl w.heap.size rfl hown a2 l2.length c2 (l2.flatMap enc3) rfl (flat3_len _) hw (flat3_one _) (by unfold maxLen; omega) (by omega) hbs2 ?_)
          intro v2 w2 hown2 hb2
          rw [← List.flatMap_append, ← List.length_append] at hown2
          have hb3 := hb.trans hb2
          have HO := Lib.hid hown2
          clear hw hown hb2 k1 hown2 hb
          go_wp2
          exact ⟨Or.inr (Or.inr ⟨by go_num, HO.out, hb3⟩), by simp [intOf]⟩
        · obtain ⟨a', cap', rfl, he, _⟩ := elems_of_owns (enc := enc3) (fun _ => rfl) rfl hown
          clear hown
          go_wp2
          go_ret
          unfold ConcatPost
          exact ⟨a', cap', rfl, he, hb⟩
end Go.Proofs.YtogbmpnbbkcocaaDoor
