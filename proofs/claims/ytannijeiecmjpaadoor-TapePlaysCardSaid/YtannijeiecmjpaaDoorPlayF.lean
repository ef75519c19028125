/- The two function values of tape.Play: who is free; whose patience has ended. -/
import Derived.Test.YtannijeiecmjpaaDoorPlayS
namespace Go.Proofs.YtannijeiecmjpaaDoor
open Go.RowKit

theorem play1_any (bn : Nat) (x T : Int) (w : World) (c1 : w.cell? ⟨bn, 0, none⟩ = some (.int .i64 T)) : Calls Tryd.prog 44 #[.int .i64 x, .pointer (some ⟨bn, 0, none⟩)] w fun e w' => e = .returned (.bool (decide (x ≤ T))) ∧ Below w.heap.size w w' := by
  go_enter Tryd.func44, Tryd.ntmps44
  go_wp2
  go_ret
  exact ⟨rfl, Below.refl _ _⟩
theorem eg_play1 : ∀ args w, (callFunc 44 args).run Tryd.prog w = .ok (.enter 44 args) w := fun args w => by kernel_rfl
theorem eg_play2 : ∀ args w, (callFunc 45 args).run Tryd.prog w = .ok (.enter 45 args) w := fun args w => by kernel_rfl
/-- Those of l whose patience has ended have gone. -/
def outJ (xs : List R3) (T : Int) (O : List R2) (l : List Nat) : List R2 := l.foldl (fun o i => if cD xs i ≤ T then o.set i (-1, T) else o) O
theorem outJ_len (xs : List R3) (T : Int) : ∀ (l : List Nat) (O : List R2), (outJ xs T O l).length = O.length := by
  intro l
  induction l with
  | nil => intro O; rfl
  | cons i l ih => intro O; unfold outJ at ih ⊢; rw [List.foldl_cons, ih]; split <;> simp
theorem outJ_get (xs : List R3) (T : Int) : ∀ (l : List Nat) (O : List R2), (∀ i ∈ l, i < O.length) → ∀ i, (outJ xs T O l).getD i (0, 0) = if i ∈ l ∧ cD xs i ≤ T then (-1, T) else O.getD i (0, 0) := by
  intro l
  induction l with
  | nil => intro O _ i; simp [outJ]
  | cons k l ih =>
    intro O hl i
    have e : outJ xs T O (k :: l) = outJ xs T (if cD xs k ≤ T then O.set k (-1, T) else O) l := rfl
    rw [e, ih _ (fun j hj => by have := hl j (List.mem_cons_of_mem _ hj); split <;> simpa using this)]
    by_cases h1 : i ∈ l ∧ cD xs i ≤ T
    · rw [if_pos h1, if_pos ⟨List.mem_cons_of_mem _ h1.1, h1.2⟩]
    · rw [if_neg h1]
      by_cases h2 : i = k
      · subst h2
        by_cases h3 : cD xs i ≤ T
        · rw [if_pos h3, if_pos (show i ∈ i :: l ∧ cD xs i ≤ T from ⟨List.mem_cons_self, h3⟩), List.getD_eq_getElem?_getD, List.getElem?_set, if_pos rfl, if_pos (hl i List.mem_cons_self)]
          rfl
        · rw [if_neg h3, if_neg (show ¬ (i ∈ i :: l ∧ cD xs i ≤ T) from fun h => h3 h.2)]
      · have h5 : ¬ (i ∈ k :: l ∧ cD xs i ≤ T) := fun h => by
          rcases List.mem_cons.1 h.1 with h4 | h4
          · exact h2 h4
          · exact h1 ⟨h4, h.2⟩
        rw [if_neg h5]
        split
        · rw [List.getD_eq_getElem?_getD, List.getElem?_set, if_neg (fun h => h2 h.symm), ← List.getD_eq_getElem?_getD]
        · rfl
theorem outJ_succ (xs : List R3) (T : Int) (O : List R2) (l : List Nat) (j : Nat) (h : j < l.length) : outJ xs T O (l.take (j + 1)) = if cD xs l[j] ≤ T then (outJ xs T O (l.take j)).set l[j] (-1, T) else outJ xs T O (l.take j) := by
  unfold outJ
  rw [List.take_succ_eq_append_getElem h, List.foldl_append]
  rfl
def goneP (xs : List R3) (T : Int) (x : Int) : Bool := decide (cD xs x.toNat ≤ T)
set_option maxRecDepth 100000 in
set_option maxHeartbeats 4000000 in
theorem play2_any {w : World} {a : Option Addr} {n cap m G : Nat} {cs : Value} {ys F : List Int} {O : List R2} (xs : List R3) (hl : n = xs.length) (hg : GoodC xs) (hx : Elems enc3 3 w a xs) (bn i : Nat) (T : Int) (wr : World) (hi : i < n) (H : PlayR w a n cap m G cs ys F O wr) (cN : wr.cell? ⟨bn, 0, none⟩ = some (.int .i64 T)) :
    Calls Tryd.prog 45 #[.int .i64 i, .pointer (some ⟨w.heap.size, 0, none⟩), .pointer (some ⟨bn, 0, none⟩), .pointer (some ⟨G + 1, 0, none⟩)] wr fun e w' => e = .returned (.bool (goneP xs T i)) ∧
      ∃ q, w' = if cD xs i ≤ T then ((wr.drewN q).setCell ⟨G, i * 2, none⟩ (.int .i64 (-1))).setCell ⟨G, i * 2 + 1, none⟩ (.int .i64 T) else wr.drewN q := by
  have hix : i < xs.length := by omega
  obtain ⟨b, o, rfl, hc⟩ := hx.some hix
  have q1 := hc i hix 0 _ rfl
  have q3 := hc i hix 2 _ rfl
  simp only [Nat.add_zero] at q1
  have c1 := (H.fr.cell (lt_of_cell q1)).trans q1
  have c3 := (H.fr.cell (lt_of_cell q3)).trans q3
  obtain ⟨g1, g2, g3, g4, g5, g6⟩ := hg.2.1 i hix
  have hgd : xs.getD i (0, 0, 0) = xs[i] := by simp [List.getD_eq_getElem?_getD, hix]
  have eD : cD xs i = xs[i].1 + xs[i].2.2 := by unfold cD; rw [hgd]
  have eP : goneP xs T i = decide (xs[i].1 + xs[i].2.2 ≤ T) := by unfold goneP; rw [Int.toNat_natCast, eD]
  rw [eP, eD]
  rw [eD] at g5 g6
  have g0 : 0 ≤ xs[i].1 := by have := g1; unfold cA at this; rw [hgd] at this; exact this
  have g7 : xs[i].1 ≤ xs[i].1 + xs[i].2.2 := by have := g5; unfold cA at this; rw [hgd] at this; exact this
  generalize xs[i].1 = A at *
  generalize xs[i].2.2 = Pt at *
  have hw : IntKind.i64.wrap (A + Pt) = A + Pt := IntWalk.i64_in _ (by omega)
  have cL := H.boxL
  have cO := H.boxO
  obtain ⟨⟨⟨v1, d1⟩, f1⟩, ⟨v2, d2⟩, f2⟩ := H.cellO hi
  clear H hx hc q1 q3 hgd eD eP g1 g2 g3 g4 g5
  generalize w.heap.size = B0 at *
  by_cases hd : A + Pt ≤ T
  · have hd2 : decide (T < A + Pt) = false := by simp; omega
    have hd3 : ¬ T < A + Pt := by omega
    have HD : Hid (decide (A + Pt ≤ T) = true) := Lib.hid (by simp [hd])
    simp only [if_pos hd]
    clear hd
    go_enter Tryd.func45, Tryd.ntmps45
    go_wp2
    go_quiet (fail)
    go_wp2
    go_ret
    exact ⟨by rw [HD.out]; rfl, _, rfl⟩
  · have hd2 : decide (T < A + Pt) = true := by simp; omega
    have hd3 : T < A + Pt := by omega
    have HD : Hid (decide (A + Pt ≤ T) = false) := Lib.hid (by simp; omega)
    simp only [if_neg hd]
    clear hd
    go_enter Tryd.func45, Tryd.ntmps45
    go_wp2
    go_quiet (fail)
    go_wp2
    go_ret
    exact ⟨by rw [HD.out]; rfl, _, rfl⟩
/-- What DeleteFunc asks for. -/
theorem play2_ask {w : World} {a : Option Addr} {n cap m G g : Nat} {cs : Value} {ys F : List Int} {O : List R2} (xs : List R3) (hl : n = xs.length) (hgd : GoodC xs) (hx : Elems enc3 3 w a xs) (bn : Nat) (T : Int) (wait : List Nat) (hw : ∀ i ∈ wait, i < n) (hg : G + 4 ≤ g) (hcs : cs.ownBlock ≠ some g) (hbn : bn ≠ g) (hbG : bn ≠ G) :
    AskI 45 #[.pointer (some ⟨w.heap.size, 0, none⟩), .pointer (some ⟨bn, 0, none⟩), .pointer (some ⟨G + 1, 0, none⟩)] (goneP xs T) (nI wait) g
      (fun j w' => PlayR w a n cap m G cs ys F (outJ xs T O (wait.take j)) w' ∧ w'.cell? ⟨bn, 0, none⟩ = some (.int .i64 T)) := by
  constructor
  · intro j hj w' ⟨H, cN⟩
    have hjw : j < wait.length := by simpa [nI] using hj
    have e : (nI wait)[j] = ((wait[j] : Nat) : Int) := by simp [nI]
    rw [e]
    refine (play2_any xs hl hgd hx bn wait[j] T w' (hw _ (List.getElem_mem hjw)) H cN).mono ?_
    rintro e w'' ⟨rfl, q, rfl⟩
    refine ⟨rfl, ⟨?_, ?_⟩, ?_⟩
    · rw [outJ_succ xs T O wait j hjw]
      split
      · exact (H.next (below_drewN _ _ _)).setO _ (hw _ (List.getElem_mem hjw)) (-1, T)
      · exact H.next (below_drewN _ _ _)
    · split
      · rw [World.cell?_setCell_far _ _ _ _ (by show G ≠ bn; omega), World.cell?_setCell_far _ _ _ _ (by show G ≠ bn; omega)]
        exact cN
      · exact cN
    · split
      · rw [Below.heap_setCell _ _ _ _ (by show g ≠ G; omega), Below.heap_setCell _ _ _ _ (by show g ≠ G; omega)]
        rfl
      · rfl
  · intro j w' w'' ⟨H, cN⟩ hgr
    refine ⟨H.grown hgr (fun b hb => ?_), gcell hgr cN (by show some bn ≠ some g; simpa using hbn)⟩
    obtain rfl : g = b := Option.some.inj hb
    exact ⟨hg, hcs⟩
end Go.Proofs.YtannijeiecmjpaaDoor
