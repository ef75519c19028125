/- slices.Clone, slices.Reverse over integers; whole slices appended to a row of the call's own. -/
import Derived.Test.YtfaklhkdfpfjgaaDoorBetM
import Derived.Test.YtfaklhkdfpfjgaaDoorSortW
import Derived.Test.YtfaklhkdfpfjgaaDoorRow
import Derived.Laws.AppendOwnNone
import Derived.Lib.SliceRun
namespace Go.Proofs.YtfaklhkdfpfjgaaDoor
open Go.RowKit

theorem rowW : RowOf Tryd.prog 50 3 (.int .i64 0) 1 8 := rowOf Tryd.underlying50 (by kernel_rfl) rfl (by decide)
theorem news_of {w : World} {a : Addr} {xs : List Int} (h : Elems encI 1 w (some a) xs) : ∀ j u, (xs.map (Value.int .i64))[j]? = some u → w.cell? (a.add j) = some u := by
  intro j u hj
  rw [List.getElem?_map] at hj
  rcases Nat.lt_or_ge j xs.length with hl | hl
  · rw [List.getElem?_eq_getElem hl] at hj
    simp only [Option.map_some, Option.some.injEq] at hj
    obtain ⟨b, o, ha, hc⟩ := h.some hl
    simp only [Option.some.injEq] at ha
    subst ha
    have h3 := hc j hl 0 u (by rw [← hj]; rfl)
    simp only [Nat.add_zero, Nat.mul_one] at h3
    unfold Addr.add
    split
    · rename_i h0; rw [h0] at h3; exact h3
    · exact h3
  · rw [List.getElem?_eq_none hl] at hj; cases hj
theorem ints_ones (xs : List Int) : ∀ u ∈ xs.map (Value.int .i64), u.oneCell' = true := by
  intro u hu
  obtain ⟨z, _, rfl⟩ := List.mem_map.1 hu
  rfl
/-- A whole slice is appended, a nil one too. -/
theorem app_all {P : Program} {w : World} {ops : Array Oper} {rest : List Oper} {o : Oper} {a : Act} {Q : Exit → Act → World → Prop} {t e : TypeId} {z : Value} {bytes : Nat} (R : RowOf P t e z 1 bytes) (hgd : o.guard = none) (s x : Operand)
    (ho : o.op = .call { callee := .builtin .append, args := #[s, x], argTypes := #[t, t] }) (base : Nat)
    {v : Value} {n : Nat} {xs : List Value} (hs : a.eval s = v) (hown : w.ownsRow base e 1 v n xs)
    (a2 : Option Addr) (m c : Nat) (ys : List Int) (hx : a.eval x = .slice a2 m c) (hm : m = ys.length) (hn : a2 = none → c = 0) (he : Elems encI 1 w a2 ys)
    (h63 : n + m ≤ maxLen) (hbytes : (n + m) * bytes ≤ 140737488355328) (hbase : base ≤ w.heap.size)
    (h : ∀ v' w', w'.ownsRow base e 1 v' (n + m) (xs ++ ys.map (Value.int .i64)) → Below base w w' → wpList P ops Q rest (a.put o.dst v') w') :
    wpList P ops Q (o :: rest) a w := by
  obtain ⟨i, ht, hi, hz, hsize, hby, hzs, hsz⟩ := R
  subst hm
  cases a2 with
  | none =>
    have hc := hn rfl
    subst hc
    have hy : ys = [] := by
      rcases he with h1 | ⟨b, o', h1, _⟩
      · exact h1
      · cases h1
    subst hy
    refine wpList_append_own_none hgd s x t ho base e i 1 ht hi v n xs hs hown hx ?_
    have := h v w (by simpa using hown) (Below.refl _ _)
    exact this
  | some ad =>
    exact wpList_append_own w hgd s x t ho base e i z 1 bytes ht hi hz hsize hby hzs hsz v n xs hs hown ad ys.length c (ys.map (Value.int .i64)) hx (by simp) (news_of he) (ints_ones ys) h63 hbytes hbase fun v' w' h2 h3 _ =>
      h v' w' h2 (Below.grown (Below.refl _ _) h3 hbase (fun k hk => (hown.lt k hk).1))
set_option maxRecDepth 100000 in
set_option maxHeartbeats 4000000 in
theorem clone_any (a : Option Addr) (n cap : Nat) (xs : List Int) (w : World) (hl : n = xs.length) (hn : xs.length ≤ 1000) (ha : a = none → cap = 0) (hx : Elems encI 1 w a xs) :
    Calls Tryd.prog 94 #[.slice a n cap] w fun e w' => ∃ v, e = .returned v ∧ w'.ownsRow w.heap.size 3 1 v n (xs.map (Value.int .i64)) ∧ Below w.heap.size w w' := by
  subst hl
  cases a with
  | none =>
    have hc := ha rfl
    subst hc
    have hy : xs = [] := by
      rcases hx with h1 | ⟨b, o', h1, _⟩
      · exact h1
      · cases h1
    subst hy
    clear ha hx
    have hq : ∀ w : World, (binOp .eql 50 (.slice none 0 0) (.slice none 0 0)).run Tryd.prog w = .ok (.bool true) w := fun w => Lib.run_eql_slice_nil (P := Tryd.prog) w 50 3 none 0 0 0 0 Tryd.underlying50
    go_enter Tryd.func94, Tryd.ntmps94
    go_wp2
    go_ret
    exact ⟨_, rfl, World.ownsRow_nil _ _ _ _, Below.refl _ _⟩
  | some ad =>
    have hemp : (w.alloc (.cells #[] 3)).ownsRow w.heap.size 3 1 (.slice (some ⟨w.heap.size, 0, none⟩) 0 0) 0 [] := World.ownsRow_lit w #[] 0 (Nat.le_refl _) (by omega) rfl
    have hb0 : Below w.heap.size w (w.alloc (.cells #[] 3)) := (Below.refl _ _).alloc (Nat.le_refl _) _
    have he := hx.at hb0
    have hbase : w.heap.size ≤ (w.alloc (.cells #[] 3)).heap.size := by simp
    clear hx ha
    have hq : ∀ w : World, (binOp .eql 50 (.slice (some ad) xs.length cap) (.slice none 0 0)).run Tryd.prog w = .ok (.bool false) w := fun w => Lib.run_eql_slice_nil (P := Tryd.prog) w 50 3 (some ad) xs.length cap 0 0 Tryd.underlying50
    go_enter Tryd.func94, Tryd.ntmps94
    go_wp2_with (at_builtin; refine app_all rowW rfl _ _ rfl w.heap.size rfl hemp (some ad) xs.length cap xs rfl rfl (fun h => by cases h) he (by unfold maxLen; omega) (by omega) hbase ?_)
    intro v' w' h1 h2
    have hb2 := hb0.trans h2
    clear h2 hb0 hemp he
    go_wp2
    go_ret
    exact ⟨v', rfl, h1, hb2⟩

/-- A piece turned over, in a row; so far from both ends. -/
def revF (r : RowF) (i k : Nat) : RowF := fun t => if i ≤ t ∧ t ≤ k then r (i + k - t) else r t
def prvF (r : RowF) (i k c : Nat) : RowF := fun t => if (i ≤ t ∧ t < i + c) ∨ (k < t + c ∧ t ≤ k) then r (i + k - t) else r t
theorem prv_zero (r : RowF) (i k : Nat) : prvF r i k 0 = r := by
  funext t
  unfold prvF
  rw [if_neg (by omega)]
theorem prv_succ (r : RowF) {i k c : Nat} (h : i + c < k - c) (hc : c ≤ k) : prvF r i k (c + 1) = swpF (prvF r i k c) (i + c) (k - c) := by
  funext t
  unfold swpF prvF
  by_cases h1 : t = i + c
  · subst h1
    rw [if_pos (by omega), if_pos rfl, if_neg (by omega)]
    congr 1; omega
  · rw [if_neg h1]
    by_cases h2 : t = k - c
    · subst h2
      rw [if_pos (by omega), if_pos rfl, if_neg (by omega)]
      congr 1; omega
    · rw [if_neg h2]
      by_cases h3 : (i ≤ t ∧ t < i + c) ∨ (k < t + c ∧ t ≤ k)
      · rw [if_pos h3, if_pos (by omega)]
      · rw [if_neg h3, if_neg (by omega)]
theorem prv_end (r : RowF) {i k c : Nat} (h1 : k ≤ i + c + c) (h2 : i + c + c ≤ k + 1) : prvF r i k c = revF r i k := by
  funext t
  unfold prvF revF
  by_cases h3 : i ≤ t ∧ t ≤ k
  · rw [if_pos h3]
    by_cases h4 : (i ≤ t ∧ t < i + c) ∨ (k < t + c ∧ t ≤ k)
    · rw [if_pos h4]
    · rw [if_neg h4]
      congr 1; omega
  · rw [if_neg h3, if_neg (by omega)]

set_option maxRecDepth 100000 in
set_option maxHeartbeats 4000000 in
theorem reverse_any (g n cap i k m cap2 base : Nat) (r : RowF) (w : World) (hown : w.ownsRow base 3 1 (.slice (some ⟨g, 0, none⟩) n cap) n (rowV n r)) (hn : n ≤ 1000) (hik : i < k) (hk : k < n) (hm : m = k + 1 - i) :
    Calls Tryd.prog 95 #[.slice (some ⟨g, i, none⟩) m cap2] w fun e w' => e = .returned (.tuple #[]) ∧ w'.ownsRow base 3 1 (.slice (some ⟨g, 0, none⟩) n cap) n (rowV n (revF r i k)) ∧ Below g w w' := by
  have HM := Lib.hid hm
  have hmn : i + m ≤ n := by omega
  have hm2 : 2 ≤ m := by omega
  clear hm
  go_enter Tryd.func95, Tryd.ntmps95
  go_wp2
  go_loopw [2, 3] (fun iv jv wr => ∃ c : Nat, c + c ≤ m ∧ iv = .int .i64 c ∧ jv = .int .i64 ((m : Int) - 1 - c) ∧ wr.ownsRow base 3 1 (.slice (some ⟨g, 0, none⟩) n cap) n (rowV n (prvF r i k c)) ∧ Below g w wr) (fun iv _ _ => m - (intOf iv).toNat)
  case atStart => exact ⟨0, by omega, rfl, by congr 1; omega, by rw [prv_zero]; exact hown, Below.refl _ _⟩
  case round =>
    clear hown
    obtain ⟨c, hc, rfl, rfl, hown, hbw⟩ := hrel
    by_cases hlt : (c : Int) < (m : Int) - 1 - c
    · obtain ⟨d, hd⟩ : ∃ d : Nat, (m : Int) - 1 - c = (d : Int) := ⟨m - 1 - c, by omega⟩
      have hdm : d < m := by omega
      have hcm : c < m := by omega
      have h1 := owns_at_tab hown (j := i + c) (by omega)
      have h2 := owns_at_tab hown (j := i + d) (by omega)
      have hf1 := hown.frozenAt (i + c)
      have hf2 := hown.frozenAt (i + d)
      have hnew := owns_swp hown (i := i + c) (j := i + d) (by omega)
      have hkd : i + d = k - c := by have := HM.out; omega
      rw [hkd, ← prv_succ r (by have := HM.out; omega) (by have := HM.out; omega), ← hkd] at hnew
      have HN := Lib.hid hnew
      have HD : Hid ((m : Int) - 1 - ((c : Int) + 1) = (d : Int) - 1) := Lib.hid (by omega)
      have HC2 : Hid (c + 1 + (c + 1) ≤ m) := Lib.hid (by omega)
      rw [hd] at hlt ⊢
      clear hnew hown hd hkd hc
      generalize prvF r i k c (i + c) = x at *
      generalize prvF r i k c (i + d) = y at *
      go_wp2
      go_region
      all_goals go_wp2
      all_goals exact ⟨⟨c + 1, HC2.out, by go_num, by congr 1; have := HD.out; push_cast; omega, HN.out, ((hbw.setCell (p := ⟨g, i + c, none⟩) (Nat.le_refl g) _).setCell (p := ⟨g, i + d, none⟩) (Nat.le_refl g) _).drew⟩, by simp [intOf]; omega⟩
    · have hown2 := hown
      rw [prv_end r (by have := HM.out; omega) (by have := HM.out; omega)] at hown2
      have HO := Lib.hid hown2
      clear hown hown2
      go_wp2
      go_end0
      exact ⟨rfl, HO.out, hbw⟩
end Go.Proofs.YtfaklhkdfpfjgaaDoor
