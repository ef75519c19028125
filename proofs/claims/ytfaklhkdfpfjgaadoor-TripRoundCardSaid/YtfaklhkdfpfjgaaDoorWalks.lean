/- The reference's Walks (19.2): all rows of places, by a search that takes back what it has put. -/
import Derived.Test.YtfaklhkdfpfjgaaDoorRoundF
import Derived.Test.YtfaklhkdfpfjgaaDoorTabN
import Derived.Laws.EntriesVeiled
namespace Go.Proofs.YtfaklhkdfpfjgaaDoor
open Go.RowKit

theorem enterR {P : Program} {f : FuncId} {fn : Func} {c : Code} (hf : P.funcs[f]? = some fn) (hname : (fn.name == "runtime.NumGoroutine") = false) (hb : fn.body = some c) : ∀ args w, (callFunc f args).run P w = .ok (.enter f args) w := by
  intro args w
  have h1 : fn.name ≠ "runtime.NumGoroutine" := by simpa using hname
  simp [callFunc, hf, h1, hb, mark]
theorem eg_walks1 : ∀ args w, (callFunc 110 args).run Tryd.prog w = .ok (.enter 110 args) w := enterR Tryd.func110 (by kernel_rfl) rfl
theorem eg_round1 : ∀ args w, (callFunc 88 args).run Tryd.prog w = .ok (.enter 88 args) w := enterR Tryd.func88 (by kernel_rfl) rfl
def fnV (N : Nat) : Value := .func (.func 88) #[] #[.pointer (some ⟨N, 0, none⟩), .pointer (some ⟨N + 1, 0, none⟩), .pointer (some ⟨N + 2, 0, none⟩)]
def wkV (N : Nat) : Value := .func (.func 110) #[] #[.pointer (some ⟨N + 5, 0, none⟩), .pointer (some ⟨N + 3, 0, none⟩), .pointer (some ⟨N + 4, 0, none⟩), .pointer (some ⟨N + 7, 0, none⟩), .pointer (some ⟨N + 8, 0, none⟩)]
/-- What stands fast. -/
def FastW (w : World) (N n : Nat) (a : Option Addr) (cap : Nat) : Prop :=
  w.cell? ⟨N, 0, none⟩ = some (.slice a n cap) ∧ w.cell? ⟨N + 3, 0, none⟩ = some (.int .i64 (n : Int)) ∧ w.cell? ⟨N + 4, 0, none⟩ = some (fnV N) ∧ w.cell? ⟨N + 7, 0, none⟩ = some (.slice (some ⟨N + 6, 0, none⟩) n n) ∧ w.cell? ⟨N + 8, 0, none⟩ = some (wkV N)
theorem FastW.keep {w w' : World} {N n : Nat} {a : Option Addr} {cap : Nat} (h : FastW w N n a cap) (hk : ∀ (p : Addr) v, (p.block = N ∨ p.block = N + 3 ∨ p.block = N + 4 ∨ p.block = N + 7 ∨ p.block = N + 8) → w.cell? p = some v → w'.cell? p = some v) : FastW w' N n a cap :=
  ⟨hk _ _ (Or.inl rfl) h.1, hk _ _ (Or.inr (Or.inl rfl)) h.2.1, hk _ _ (Or.inr (Or.inr (Or.inl rfl))) h.2.2.1, hk _ _ (Or.inr (Or.inr (Or.inr (Or.inl rfl)))) h.2.2.2.1, hk _ _ (Or.inr (Or.inr (Or.inr (Or.inr rfl)))) h.2.2.2.2⟩
/-- What lies there while the rows are gone through. -/
def WalksAt (w : World) (N n : Nat) (a : Option Addr) (cap : Nat) (row : List Int) (U : Nat → Bool) (st : Option (Int × List Int)) : Prop :=
  ∃ vr vp, FastW w N n a cap ∧ OutBox w N (N + 9) st vp ∧ w.ownsRow (N + 5) 50 1 (.slice (some ⟨N + 5, 0, none⟩) 1 1) 1 [vr] ∧ w.ownsRow (N + 9) 3 1 vr row.length (row.map (Value.int .i64)) ∧ Apart vr vp ∧
    w.ownsRow (N + 6) 4 1 (.slice (some ⟨N + 6, 0, none⟩) n n) n ((tabB n U).map Value.bool) ∧ N + 9 ≤ w.heap.size
theorem OutBox.at {w w' : World} {N Q : Nat} {st : Option (Int × List Int)} {vp : Value} (h : OutBox w N Q st vp) (hb : Below w.heap.size w w') : OutBox w' N Q st vp := ⟨owns_at h.1 hb, owns_at h.2.1 hb, owns_at h.2.2 hb⟩
theorem WalksAt.at {w w' : World} {N n : Nat} {a : Option Addr} {cap : Nat} {row : List Int} {U : Nat → Bool} {st : Option (Int × List Int)} (h : WalksAt w N n a cap row U st) (hb : Below w.heap.size w w') : WalksAt w' N n a cap row U st := by
  obtain ⟨vr, vp, h1, h2, h3, h4, h5, h6, h7⟩ := h
  exact ⟨vr, vp, h1.keep (fun p v _ hc => (hb.cell (lt_of_cell hc)).trans hc), h2.at hb, owns_at h3 hb, owns_at h4 hb, h5, owns_at h6 hb, Nat.le_trans h7 hb.size⟩
theorem OutBox.keep {w w' : World} {N Q g : Nat} {st : Option (Int × List Int)} {vp : Value} (h : OutBox w N Q st vp) (hg : w.grownBy w' (some g)) (h1 : N + 2 < g) (h2 : vp.ownBlock ≠ some g) : OutBox w' N Q st vp :=
  ⟨h.1.kept hg (Or.inr (by simp [Value.ownBlock]; omega)), h.2.1.kept hg (Or.inr (by simp [Value.ownBlock]; omega)), h.2.2.kept hg (Or.inr h2)⟩
/-- A place is marked, or the mark is taken back. -/
theorem WalksAt.mark {w : World} {N n : Nat} {a : Option Addr} {cap : Nat} {row : List Int} {U U' : Nat → Bool} {st : Option (Int × List Int)} (h : WalksAt w N n a cap row U st) (i : Nat) (b : Bool) (hU : ∀ y, y < n → U' y = if y = i then b else U y) : WalksAt (w.setCell ⟨N + 6, i, none⟩ (.bool b)) N n a cap row U' st := by
  obtain ⟨vr, vp, h1, h2, h3, h4, h5, h6, h7⟩ := h
  have hg := (h6.stored i (.bool b)).2
  have h6' : (w.setCell ⟨N + 6, i, none⟩ (.bool b)).ownsRow (N + 6) 4 1 (.slice (some ⟨N + 6, 0, none⟩) n n) n ((tabB n U').map Value.bool) := by
    have h := (h6.stored i (.bool b)).1
    rw [← List.map_set, tabB_set n U U' i b hU] at h
    exact h
  refine ⟨vr, vp, h1.keep (fun p v hp hc => ?_), h2.keep hg (by omega) (fun hq => by have := (h2.2.2.lt _ hq).1; omega), h3.kept hg (Or.inr (by simp [Value.ownBlock])), h4.kept hg (Or.inr (fun hq => by have := (h4.lt _ hq).1; omega)), h5, h6', by simpa using h7⟩
  rw [hg.cell_far p (lt_of_cell hc) (by simp; omega)]; exact hc
/-- The row is put anew. -/
theorem WalksAt.row {w w1 : World} {N n : Nat} {a : Option Addr} {cap : Nat} {row' : List Int} {U : Nat → Bool} {st : Option (Int × List Int)} {vr vp v' : Value} (h1 : FastW w N n a cap) (h2 : OutBox w N (N + 9) st vp) (h3 : w.ownsRow (N + 5) 50 1 (.slice (some ⟨N + 5, 0, none⟩) 1 1) 1 [vr]) (h6 : w.ownsRow (N + 6) 4 1 (.slice (some ⟨N + 6, 0, none⟩) n n) n ((tabB n U).map Value.bool)) (h7 : N + 9 ≤ w.heap.size) (hvb : ∀ g, vr.ownBlock = some g → N + 9 ≤ g)
    (h5 : Apart vr vp) (hg : w.grownBy w1 vr.ownBlock) (h4 : w1.ownsRow (N + 9) 3 1 v' row'.length (row'.map (Value.int .i64))) (hv : v'.ownBlock = vr.ownBlock ∨ ∀ g, v'.ownBlock = some g → w.heap.size ≤ g) : WalksAt (w1.setCell ⟨N + 5, 0, none⟩ v') N n a cap row' U st := by
  have key : ∀ {base e size m c g : Nat} {xs : List Value}, g < N + 9 → w.ownsRow base e size (.slice (some ⟨g, 0, none⟩) m c) m xs → w1.ownsRow base e size (.slice (some ⟨g, 0, none⟩) m c) m xs := fun {base e size m c g xs} hlt hx => hx.kept hg (Or.inr (fun hq => by
    have := hvb g hq.symm
    omega))
  obtain ⟨p1, p2⟩ := apart_kept h2.2.2 h5 hg hv
  have q3 := key (show N + 5 < N + 9 by omega) h3
  obtain ⟨s1, g1⟩ := q3.stored 0 v'
  have hvN : ∀ g, v'.ownBlock = some g → N + 9 ≤ g := fun g hq => (h4.lt g hq).1
  refine ⟨v', vp, h1.keep (fun p v hp hc => ?_), ⟨(key (show N + 1 < N + 9 by omega) h2.1).kept g1 (Or.inr (by simp [Value.ownBlock])), (key (show N + 2 < N + 9 by omega) h2.2.1).kept g1 (Or.inr (by simp [Value.ownBlock])), p1.kept g1 (Or.inr (fun hq => by have := (p1.lt _ hq).1; omega))⟩, s1, h4.kept g1 (Or.inr (fun hq => by have := hvN _ hq; omega)), p2, (key (show N + 6 < N + 9 by omega) h6).kept g1 (Or.inr (by simp [Value.ownBlock])), by simpa using Nat.le_trans h7 hg.size⟩
  have hfar : w1.cell? p = some v := by
    have := hg.block p.block (lt_of_cell hc) (fun hq => by have := hvb _ hq.symm; omega)
    unfold World.cell? at hc ⊢
    rw [this]; exact hc
  rw [g1.cell_far p (lt_of_cell hfar) (by simp; omega)]; exact hfar
theorem owns_slice {w : World} {base e n : Nat} {v : Value} {xs : List Int} (hn : n = xs.length) (h : w.ownsRow base e 1 v n (xs.map (Value.int .i64))) : ∃ ar cr, v = .slice ar xs.length cr ∧ (ar = none → cr = 0) ∧ Elems encI 1 w ar xs ∧ xs.length ≤ cr := by
  obtain ⟨a, c, rfl, he, hc⟩ := ints_of_owns hn h
  refine ⟨a, c, rfl, fun ha => ?_, he, by omega⟩
  rcases h.2 with ⟨h1, _⟩ | ⟨g, cap, cur, h1, _⟩
  · exact (Value.slice.inj h1).2.2
  · rw [ha] at h1; cases h1
/-- One place less. -/
theorem owns_less {w : World} {base e g n cap : Nat} {xs : List Int} {x : Int} (h : w.ownsRow base e 1 (.slice (some ⟨g, 0, none⟩) (n + 1) cap) (n + 1) ((xs ++ [x]).map (Value.int .i64))) : w.ownsRow base e 1 (.slice (some ⟨g, 0, none⟩) n cap) n (xs.map (Value.int .i64)) := by
  have hl : xs.length = n := by have := h.1; simp at this; omega
  rcases h.2 with ⟨h1, _⟩ | ⟨g', cap', cur, h1, h2, h3, h4, h5, h6, h7⟩
  · cases h1
  · obtain ⟨q1, _, q3⟩ := Value.slice.inj h1
    simp only [Option.some.injEq, Addr.mk.injEq, and_true] at q1
    subst q1; subst q3
    refine ⟨by simp [hl], Or.inr ⟨g, cap, cur, rfl, h2, h3, by omega, h5, h6, ?_⟩⟩
    have h8 := congrArg (List.take (n * 1)) h7
    rw [List.take_take, Nat.min_eq_left (by omega)] at h8
    rw [h8, List.map_append, List.take_append_of_le_length (by simp [hl]), List.take_of_length_le (by simp [hl])]
/-- What a row becomes in the boxes where it is the best so far. -/
theorem WalksAt.leaf {w w' : World} {N n : Nat} {a : Option Addr} {cap : Nat} {row : List Int} {U : Nat → Bool} {st : Option (Int × List Int)} {c : Int} {r2 : List Int} (h : WalksAt w N n a cap row U st) (hp : Put2 N w c r2 w') : WalksAt w' N n a cap row U (some (c, r2)) := by
  obtain ⟨vr, vp, h1, h2, h3, h4, h5, h6, h7⟩ := h
  obtain ⟨v, hO, hv⟩ := h2.put (by omega) h7 hp
  obtain ⟨w1, v1, hb, hv1, rfl⟩ := hp
  have g1 := grownR_set w1 (N + 1) 0 (.int .i64 c)
  have g2 := grownR_set (w1.setCell ⟨N + 1, 0, none⟩ (.int .i64 c)) (N + 2) 0 v1
  have key : ∀ {base e size m : Nat} {u : Value} {xs : List Value}, (∀ g, u.ownBlock = some g → N + 3 ≤ g) → w.ownsRow base e size u m xs → ((w1.setCell ⟨N + 1, 0, none⟩ (.int .i64 c)).setCell ⟨N + 2, 0, none⟩ v1).ownsRow base e size u m xs := fun {base e size m u xs} hlt hx =>
    (((owns_at hx hb).kept g1 (Or.inr (fun hq => by have := hlt _ hq; omega))).kept g2 (Or.inr (fun hq => by have := hlt _ hq; omega)))
  refine ⟨vr, v, h1.keep (fun p u hp2 hc => ?_), hO, key (fun g hg => by simp [Value.ownBlock] at hg; omega) h3, key (fun g hg => by have := (h4.lt g hg).1; omega) h4, ?_, key (fun g hg => by simp [Value.ownBlock] at hg; omega) h6, by
    have := hb.size
    simp
    omega⟩
  · have hc1 := (hb.cell (lt_of_cell hc)).trans hc
    have hc2 : (w1.setCell ⟨N + 1, 0, none⟩ (.int .i64 c)).cell? p = some u := by rw [g1.cell_far p (lt_of_cell hc1) (by simp; omega)]; exact hc1
    rw [g2.cell_far p (lt_of_cell hc2) (by simp; omega)]; exact hc2
  · cases hvb : v.ownBlock with
    | none => exact Or.inl hvb
    | some g =>
      refine Or.inr (fun hq => ?_)
      have h8 := hv g hvb
      have h9 := (h4.lt g (by rw [← hq]; exact hvb)).2
      omega
theorem below_next' {a b c : World} (h : Below a.heap.size a b) (k : Below b.heap.size b c) : Below a.heap.size a c := h.trans (k.mono h.size)
def wkArgs (N : Nat) : Array Value := #[.pointer (some ⟨N + 5, 0, none⟩), .pointer (some ⟨N + 3, 0, none⟩), .pointer (some ⟨N + 4, 0, none⟩), .pointer (some ⟨N + 7, 0, none⟩), .pointer (some ⟨N + 8, 0, none⟩)]
def LeafPost (w0 : World) (n : Nat) (a : Option Addr) (cap : Nat) (A : List (List Int)) (row : List Int) (U : Nat → Bool) (st : Option (Int × List Int)) (e : Ending) (w' : World) : Prop :=
  Below w0.heap.size w0 w' ∧ if row ≠ [] ∧ 0 < row.getD 0 0 then e = .returned (.bool true) ∧ WalksAt w' w0.heap.size n a cap row U st
  else e = .returned (.bool false) ∧ WalksAt w' w0.heap.size n a cap row U (better st (some (longM A row, row)))
/-- No cost is below 0. -/
def OkR (st : Option (Int × List Int)) : Prop := ∀ x, st = some x → 0 ≤ x.1
set_option maxRecDepth 100000 in
set_option maxHeartbeats 8000000 in
theorem walkLeaf (w0 : World) (a : Option Addr) (cap : Nat) (A : List (List Int)) (row : List Int) (U : Nat → Bool) (st : Option (Int × List Int)) (w : World) (hM : mapCheck A = 0) (hr : Rows2 w0 a A) (hB : ∀ x ∈ row, 0 ≤ x ∧ x < A.length) (hl : row.length = A.length) (hok : OkR st)
    (hW : WalksAt w w0.heap.size A.length a cap row U st) (hb : Below w0.heap.size w0 w) :
    Calls Tryd.prog 110 (wkArgs w0.heap.size) w (LeafPost w0 A.length a cap A row U st) := by
  have HW := Lib.hid hW
  obtain ⟨vr, vp, h1, h2, h3, h4, h5, h6, h7⟩ := hW
  obtain ⟨ar, cr, rfl, hn, hel, hcr⟩ := owns_slice rfl h4
  have hA9 := (map_ok hM).1
  have HF := Lib.hid (roundFn_any a ar cap cr w0.heap.size (w0.heap.size + 9) A row st vp w hM (hr.at hb) hB (by omega) hel hn h1.1 h2 hok)
  have HB := Lib.hid hb
  have c5 := h3.cellAt 0 (by omega)
  replace c5 : w.cell? ⟨w0.heap.size + 5, 0, none⟩ = some (.slice ar row.length cr) := c5
  have c3 := h1.2.1
  have c4 := h1.2.2.1
  unfold fnV at c4
  have eg := eg_round1
  have hle : ((row.length : Int) == (A.length : Int)) = true := by rw [hl]; simp
  obtain ⟨N, hN⟩ : ∃ N, N = w0.heap.size := ⟨_, rfl⟩
  have HN := Lib.hid hN
  unfold wkArgs
  rw [← hN] at HF c5 c3 c4 HW ⊢
  have hll : A.length = row.length := hl.symm
  rw [hll] at c3 HW ⊢
  have HLL := Lib.hid hll
  clear h1 h2 h3 h4 h5 h6 h7 hel hn hcr hr hB hok hM hN hl hll hb hle hA9
  go_enter Tryd.func110, Tryd.ntmps110
  go_wp2_with fail
  refine HF.out.mono ?_
  intro e w1 hw1
  unfold RoundFPost at hw1
  by_cases hbad : row ≠ [] ∧ 0 < row.getD 0 0
  · rw [if_pos hbad] at hw1
    obtain ⟨rfl, hb1⟩ := hw1
    have HBD := Lib.hid hbad
    clear hbad
    go_wp2
    go_ret
    unfold LeafPost
    rw [← HN.out, if_pos HBD.out]
    exact ⟨by rw [HN.out]; exact below_next' HB.out hb1, rfl, HW.out.at hb1⟩
  · rw [if_neg hbad] at hw1
    obtain ⟨rfl, hw2⟩ := hw1
    have HBD := Lib.hid hbad
    have HW2 := Lib.hid hw2
    clear hbad hw2
    go_wp2
    go_ret
    unfold LeafPost
    rw [← HN.out, if_neg HBD.out]
    rcases HW2.out with ⟨k1, k2⟩ | ⟨k1, k2⟩
    · rw [k1]
      exact ⟨by rw [HN.out]; exact below_next' HB.out k2, rfl, HW.out.at k2⟩
    · rw [k1]
      refine ⟨?_, rfl, HW.out.leaf k2⟩
      obtain ⟨w2, v, j1, j2, rfl⟩ := k2
      rw [HN.out]
      exact ((below_next' HB.out j1).setCell (p := ⟨w0.heap.size + 1, 0, none⟩) (by simp) _).setCell (p := ⟨w0.heap.size + 2, 0, none⟩) (by simp) _
/-- A way from a row's end on, put behind the row. -/
def extR (A : List (List Int)) (row : List Int) (x : Int × List Nat) : Int × List Int := (x.1 + openM A row, row ++ x.2.map (fun k : Nat => (k : Int)))
def lastR (row : List Int) : Nat := (row.getD (row.length - 1) 0).toNat
def updB (U : Nat → Bool) (i : Nat) (b : Bool) (y : Nat) : Bool := if y = i then b else U y
theorem ext_step (A : List (List Int)) {n i s : Nat} {row : List Int} (hl : 1 ≤ row.length) (h0 : 0 ≤ row.getD (row.length - 1) 0) (st : Option (Int × List Int)) (hb : bitB s i = true) :
    better (better st ((joinB (stepS A n (lastR row) s) i).map (extR A row))) ((bestS A n i (s - 2 ^ i)).map (extR A (row ++ [(i : Int)]))) = better st ((joinB (stepS A n (lastR row) s) (i + 1)).map (extR A row)) := by
  have h1 : (stepS A n (lastR row) s i).map (extR A row) = (bestS A n i (s - 2 ^ i)).map (extR A (row ++ [(i : Int)])) := by
    unfold stepS
    rw [if_pos hb, Option.map_map]
    congr 1
    funext x
    unfold extR
    simp only [Function.comp_apply, List.map_cons, List.append_assoc, List.cons_append, List.nil_append, Prod.mk.injEq, and_true]
    rw [open_snoc A row (i : Int) hl]
    unfold lastR
    rw [show (((row.getD (row.length - 1) 0).toNat : Nat) : Int) = row.getD (row.length - 1) 0 by omega]
    omega
  rw [better_assoc, joinB, ← h1]
  congr 1
  exact (better_map (openM A row) (fun p : List Nat => row ++ p.map (fun k : Nat => (k : Int))) _ _).symm
theorem ext_skip (A : List (List Int)) {n i s : Nat} {row : List Int} (st : Option (Int × List Int)) (hb : bitB s i = false) :
    better st ((joinB (stepS A n (lastR row) s) (i + 1)).map (extR A row)) = better st ((joinB (stepS A n (lastR row) s) i).map (extR A row)) := by
  have h : stepS A n (lastR row) s i = none := by unfold stepS; rw [hb]; rfl
  rw [joinB, h, better_none]
theorem better_okR {x y : Option (Int × List Int)} (h : OkR x) (k : OkR y) : OkR (better x y) := by
  intro z hz
  cases x with
  | none => exact k z hz
  | some x =>
    cases y with
    | none => rw [better_none] at hz; exact h z hz
    | some y =>
      by_cases hc : y.1 < x.1
      · simp only [better, if_pos hc] at hz; exact k z hz
      · simp only [better, if_neg hc] at hz; exact h z hz
def WalkAPost (w0 : World) (n : Nat) (a : Option Addr) (cap : Nat) (row : List Int) (U : Nat → Bool) (st : Option (Int × List Int)) (e : Ending) (w' : World) : Prop :=
  Below w0.heap.size w0 w' ∧ e = .returned (.bool false) ∧ WalksAt w' w0.heap.size n a cap row U st
set_option maxRecDepth 100000 in
set_option maxHeartbeats 8000000 in
theorem walkA (w0 : World) (a : Option Addr) (cap : Nat) (A : List (List Int)) (hM : mapCheck A = 0) (hA2 : 2 ≤ A.length) (hA6 : A.length ≤ 6) (hr : Rows2 w0 a A) :
    ∀ (m : Nat) (row : List Int) (U : Nat → Bool) (s : Nat) (st : Option (Int × List Int)) (w : World), A.length < row.length + m → row ≠ [] → row.getD 0 0 = 0 → (∀ x ∈ row, 0 ≤ x ∧ x < A.length) → s < 2 ^ A.length → (∀ k, k < A.length → bitB s k = !U k) → cntB s + row.length = A.length → OkR st →
    WalksAt w w0.heap.size A.length a cap row U st → Below w0.heap.size w0 w →
    Calls Tryd.prog 110 (wkArgs w0.heap.size) w (WalkAPost w0 A.length a cap row U (better st ((bestS A A.length (lastR row) s).map (extR A row)))) := by
  obtain ⟨hA9, hA⟩ := map_ok hM
  have h64 : 2 ^ A.length ≤ 2 ^ 6 := Nat.pow_le_pow_right (by omega) hA6
  intro m
  induction m with
  | zero =>
    intro row U s st w h1 _ _ _ _ _ h2
    omega
  | succ m ih =>
    intro row U s st w hm hne h0 hB hs hU hcnt hok hW hb
    have hl1 : 1 ≤ row.length := List.length_pos_iff.2 hne
    by_cases hs0 : s = 0
    · subst hs0
      have hcz : cntB 0 = 0 := by decide
      have hlf := walkLeaf w0 a cap A row U st w hM hr hB (by omega) hok hW hb
      refine hlf.mono ?_
      intro e w' hp
      unfold LeafPost at hp
      obtain ⟨k1, k2⟩ := hp
      rw [if_neg (fun h => by rw [h0] at h; omega)] at k2
      unfold WalkAPost
      refine ⟨k1, k2.1, ?_⟩
      have hlo := long_open A row (by omega)
      have hnn : 0 ≤ row.getD (row.length - 1) 0 := by
        rw [getD_lt (show row.length - 1 < row.length by omega)]
        exact (hB _ (List.getElem_mem _)).1
      have he : (bestS A A.length (lastR row) 0).map (extR A row) = some (longM A row, row) := by
        rw [bestS_zero]
        simp only [Option.map_some, extR, List.map_nil, List.append_nil, Option.some.injEq, Prod.mk.injEq, and_true]
        unfold lastR
        rw [hlo, h0, show (((row.getD (row.length - 1) 0).toNat : Nat) : Int) = row.getD (row.length - 1) 0 by omega]
        omega
      rw [he]
      exact k2.2
    · have hcp : 0 < cntB s := by
        rcases Nat.eq_zero_or_pos (cntB s) with h | h
        · exact absurd (cnt_zero (by omega) h) hs0
        · exact h
      have HIH := Lib.hid ih
      have HBD := Lib.hid hB
      have HU := Lib.hid hU
      have HS := Lib.hid hs
      have HC := Lib.hid hcnt
      have hrl : row.length < A.length := by omega
      have HOK : Hid (∀ i, i ≤ A.length → OkR (better st ((joinB (stepS A A.length (lastR row) s) i).map (extR A row)))) := Lib.hid (fun i hi => better_okR hok (fun x hx => by
        cases hj : joinB (stepS A A.length (lastR row) s) i with
        | none => rw [hj] at hx; cases hx
        | some y =>
          rw [hj] at hx
          obtain ⟨d, hd, hy⟩ := joinB_mem hj
          unfold stepS at hy
          by_cases hbd : bitB s d = true
          · rw [if_pos hbd] at hy
            have h5 := bit_lt (by omega) (by omega) hbd
            obtain ⟨c, p, h6, h7, _⟩ := bestS_some hA hA6 rfl (s - 2 ^ d) (s - 2 ^ d) d (Nat.le_refl _) (by omega) (by omega)
            rw [h6] at hy
            simp only [Option.map_some, Option.some.injEq] at hy hx
            have h8 : 0 ≤ distM A (lastR row) d := by
              have hlr : lastR row < A.length := by
                unfold lastR
                rw [getD_lt (show row.length - 1 < row.length by omega)]
                have := hB _ (List.getElem_mem (show row.length - 1 < row.length by omega))
                omega
              exact (dist_bd hA hlr (by omega)).1
            have h9 : 0 ≤ openM A row := (leg_bd hA row _).1
            rw [← hx, ← hy]
            show 0 ≤ (c + _) + openM A row
            omega
          · rw [if_neg hbd] at hy; cases hy))
      have HST : Hid (∀ i, i < A.length → bitB s i = true → better (better st ((joinB (stepS A A.length (lastR row) s) i).map (extR A row))) ((bestS A A.length (lastR (row ++ [(i : Int)])) (s - 2 ^ i)).map (extR A (row ++ [(i : Int)]))) = better st ((joinB (stepS A A.length (lastR row) s) (i + 1)).map (extR A row))) := Lib.hid (fun i hi hbi => by
        have hnn : 0 ≤ row.getD (row.length - 1) 0 := by
          rw [getD_lt (show row.length - 1 < row.length by omega)]
          exact (hB _ (List.getElem_mem _)).1
        rw [show lastR (row ++ [(i : Int)]) = i by simp [lastR, List.getD]]
        exact ext_step A hl1 hnn st hbi)
      have HSK : Hid (∀ i, bitB s i = false → better st ((joinB (stepS A A.length (lastR row) s) (i + 1)).map (extR A row)) = better st ((joinB (stepS A A.length (lastR row) s) i).map (extR A row))) := Lib.hid (fun i hbi => ext_skip A st hbi)
      have HEN : Hid (joinB (stepS A A.length (lastR row) s) A.length = bestS A A.length (lastR row) s) := Lib.hid (bestS_step A hA6 (lastR row) hs hs0).symm
      have HR0 := Lib.hid (And.intro hne h0)
      have HB := Lib.hid hb
      obtain ⟨RES, hRES⟩ : ∃ RES, RES = better st ((bestS A A.length (lastR row) s).map (extR A row)) := ⟨_, rfl⟩
      rw [← hRES]
      have HRES := Lib.hid hRES
      have HW0 : Hid (WalksAt w w0.heap.size A.length a cap row U (better st ((joinB (stepS A A.length (lastR row) s) 0).map (extR A row)))) := Lib.hid (by
        rw [show joinB (stepS A A.length (lastR row) s) 0 = none from rfl, Option.map_none, better_none]; exact hW)
      obtain ⟨F, hF⟩ : ∃ F : Nat → Option (Int × List Int), F = fun i => better st ((joinB (stepS A A.length (lastR row) s) i).map (extR A row)) := ⟨_, rfl⟩
      have HFE := Lib.hid hF
      have HF0 : Hid (WalksAt w w0.heap.size A.length a cap row U (F 0)) := Lib.hid (by rw [hF]; exact HW0.out)
      obtain ⟨vr, vp, f1, f2, f3, f4, f5, f6, f7⟩ := hW
      obtain ⟨ar, cr, rfl, _, _, _⟩ := owns_slice rfl f4
      have c5 : w.cell? ⟨w0.heap.size + 5, 0, none⟩ = some (.slice ar row.length cr) := f3.cellAt 0 (by omega)
      have c3 := f1.2.1
      have hle : ((row.length : Int) == (A.length : Int)) = false := beq_eq_false_iff_ne.2 (by omega)
      obtain ⟨N, hN⟩ : ∃ N, N = w0.heap.size := ⟨_, rfl⟩
      have HN := Lib.hid hN
      unfold wkArgs
      rw [← hN] at HF0 c5 c3 ⊢
      clear ih hB hU hs hcnt hok f1 f2 f3 f4 f5 f6 f7 hN hb hF HW0 hRES hne h0 hr hM hA
      go_enter Tryd.func110, Tryd.ntmps110
      go_wp2
      go_loopw [15] (fun iv wr => ∃ i : Nat, i ≤ A.length ∧ iv = .int .i64 i ∧ Hid (WalksAt wr N A.length a cap row U (F i)) ∧ Hid (Below w0.heap.size w0 wr)) (fun iv _ => A.length - (intOf iv).toNat)
      case atStart => exact ⟨0, by omega, rfl, HF0, HB⟩
      case round =>
        clear HF0 HB c5 c3
        obtain ⟨i, hi, rfl, HW, HB⟩ := hrel
        by_cases hin : i < A.length
        · obtain ⟨vr, vp, f1, f2, f3, f4, f5, f6, f7⟩ := HW.out
          have c7 := f1.2.2.2.1
          have c6 : wr.cell? ⟨N + 6, i, none⟩ = some (.bool (U i)) := by
            rw [f6.cellAt i (by omega), List.getElem?_map, List.getElem?_eq_getElem (by rw [tabB_len]; exact hin)]
            simp [tabB]
          have hui := HU.out i hin
          cases hu : U i with
          | true =>
            rw [hu] at hui c6
            have HW2 : Hid (WalksAt wr N A.length a cap row U (F (i + 1))) := Lib.hid (by
              have h := HW.out
              rw [HFE.out] at h ⊢
              show WalksAt wr N A.length a cap row U (better st _)
              rw [HSK.out i (by simpa using hui)]
              exact h)
            clear f1 f2 f3 f4 f5 f6 f7 hui hu HW
            go_wp2
            exact ⟨⟨i + 1, by omega, by go_num, HW2, HB⟩, by simp [intOf]; omega⟩
          | false =>
            rw [hu] at hui c6
            have hbi : bitB s i = true := by simpa using hui
            have HUI := Lib.hid hu
            have ff6 := f6.frozenAt i
            have c5 : wr.cell? ⟨N + 5, 0, none⟩ = some vr := f3.cellAt 0 (by omega)
            have hM1 := HW.out.mark i true (U' := updB U i true) (fun y _ => rfl)
            obtain ⟨vr1, vp1, e1, e2, e3, e4, e5, e6, e7⟩ := hM1
            have hv1 : vr1 = vr := by
              have h1 : (wr.setCell ⟨N + 6, i, none⟩ (.bool true)).cell? ⟨N + 5, 0, none⟩ = some vr1 := e3.cellAt 0 (by omega)
              rw [(grownR_set wr (N + 6) i (.bool true)).cell_far ⟨N + 5, 0, none⟩ (lt_of_cell c5) (by simp), c5] at h1
              exact (Option.some.inj h1).symm
            subst hv1
            obtain ⟨ar, cr, rfl, _, _, _⟩ := owns_slice rfl e4
            have HE := Lib.hid (And.intro e1 (And.intro e2 (And.intro e3 (And.intro e5 e6))))
            have HBm : Hid (Below w0.heap.size w0 (wr.setCell ⟨N + 6, i, none⟩ (.bool true))) := Lib.hid (HB.out.setCell (p := ⟨N + 6, i, none⟩) (by have := HN.out; simp; omega) _)
            obtain ⟨wm, hwm⟩ : ∃ wm, wm = wr.setCell ⟨N + 6, i, none⟩ (.bool true) := ⟨_, rfl⟩
            have HWM := Lib.hid hwm
            have hl9 : row.length ≤ 6 := by omega
            clear f1 f2 f3 f4 f5 f6 f7 hui hu e1 e2 e3 e5 e6 HW hwm
            go_wp2_with (at_builtin; (refine app_row2 rowAI rfl _ _ rfl (N + 9) rfl e4 [.int .i64 i] rfl (by first | rfl | simp) rfl (encI_one _) (by unfold maxLen; omega) (by omega) e7 ?_))
            intro v' w4 hown4 hg4 hv4
            obtain ⟨e1, e2, e3, e5, e6⟩ := HE.out
            have hown5 : w4.ownsRow (N + 9) 3 1 v' (row ++ [(i : Int)]).length ((row ++ [(i : Int)]).map (Value.int .i64)) := by rw [List.length_append, List.map_append]; exact hown4
            have q3 := e3.kept hg4 (Or.inr (fun hq => by have := (e4.lt (N + 5) hq.symm).1; omega))
            have k1 := q3.cellAt 0 (by omega)
            have k2 := q3.frozenAt 0
            have hM2 := WalksAt.row (row' := row ++ [(i : Int)]) e1 e2 e3 e6 e7 (fun g hg => (e4.lt g hg).1) e5 hg4 hown5 (by simpa using hv4)
            obtain ⟨a5, cc5, rfl, _, _, _⟩ := owns_slice rfl hown5
            have hbw : Below w0.heap.size w0 (w4.setCell ⟨N + 5, 0, none⟩ (.slice a5 (row ++ [(i : Int)]).length cc5)) :=
              ((HBm.out.trans ((grown_below e4 e7 hg4).mono (by have := HN.out; omega))).setCell (p := ⟨N + 5, 0, none⟩) (by have := HN.out; simp; omega) _)
            have c8 := hM2.choose_spec.choose_spec.1.2.2.2.2
            unfold wkV at c8
            have eg := eg_walks1
            have HCALL : Hid (Calls Tryd.prog 110 (wkArgs N) (w4.setCell ⟨N + 5, 0, none⟩ (.slice a5 (row ++ [(i : Int)]).length cc5)) (WalkAPost w0 A.length a cap (row ++ [(i : Int)]) (updB U i true) (F (i + 1)))) := Lib.hid (by
              have h5 := bit_lt (show s < 64 by have := HS.out; omega) (by omega) hbi
              have h6 := cnt_sub (show s < 64 by have := HS.out; omega) (by omega) hbi
              have hx := HIH.out (row ++ [(i : Int)]) (updB U i true) (s - 2 ^ i) (F i) _ (by rw [List.length_append]; simp; omega) (by simp) (by
                have h7 := HR0.out.2
                simp only [List.getD, List.getElem?_append_left (show 0 < row.length by omega)] at h7 ⊢
                exact h7) (fun x hx => by
                rcases List.mem_append.1 hx with h | h
                · exact HBD.out x h
                · obtain rfl : x = (i : Int) := by simpa using h
                  omega) (by have := HS.out; omega) (fun k hk => by
                rw [bit_sub (show s < 64 by have := HS.out; omega) (by omega) (by omega) hbi, HU.out k hk]
                unfold updB
                by_cases h : k = i
                · rw [if_pos h, decide_eq_false (fun h2 => h2 h)]; simp
                · rw [if_neg h, decide_eq_true h]; simp) (by rw [List.length_append]; have := HC.out; simp; omega) (by rw [HFE.out]; exact HOK.out i (by omega)) (by rw [← HN.out]; exact hM2) hbw
              rw [HFE.out] at hx
              show Calls _ _ _ _ (WalkAPost w0 A.length a cap (row ++ [(i : Int)]) (updB U i true) (F (i + 1)))
              rw [HFE.out]
              show Calls _ _ _ _ (WalkAPost w0 A.length a cap (row ++ [(i : Int)]) (updB U i true) (better st ((joinB (stepS A A.length (lastR row) s) (i + 1)).map (extR A row))))
              rw [← HST.out i hin hbi]
              rw [← HN.out] at hx
              exact hx)
            unfold wkArgs at HCALL
            have hll : (row ++ [(i : Int)]).length = row.length + 1 := by simp
            rw [hll] at HCALL c8
            clear hown4 hown5 q3 hM2 hbw e1 e2 e3 e5 e6 e4 e7 hg4 hv4 HE HBm
            go_wp2_with fail
            refine HCALL.out.mono ?_
            intro e w6 hw
            unfold WalkAPost at hw
            obtain ⟨hb6, rfl, hW6⟩ := hw
            rw [← HN.out] at hW6
            obtain ⟨vr6, vp6, g1, g2, g3, g4, g5, g6, g7⟩ := hW6
            rw [hll] at g4
            obtain ⟨gq, cq, rfl, hgq, _⟩ := g4.form (by omega)
            have c5 : w6.cell? ⟨N + 5, 0, none⟩ = some (.slice (some ⟨gq, 0, none⟩) (row.length + 1) cq) := g3.cellAt 0 (by omega)
            have k5 := g3.frozenAt 0
            have hcq : row.length + 1 ≤ cq := by
              rcases g4.2 with ⟨h1, _⟩ | ⟨g', cap', cur, h1, _, _, h2, _⟩
              · cases h1
              · obtain ⟨_, _, h3⟩ := Value.slice.inj h1
                omega
            have hM3 := WalksAt.row (row' := row) (v' := .slice (some ⟨gq, 0, none⟩) row.length cq) g1 g2 g3 g6 g7 (fun g hg => (g4.lt g hg).1) g5 (World.grownBy.refl w6 _) (owns_less g4) (Or.inl rfl)
            have HM4 := Lib.hid (hM3.mark i false (U' := U) (fun y _ => by
              unfold updB
              by_cases h : y = i
              · rw [if_pos h, h]; exact HUI.out
              · rw [if_neg h, if_neg h]))
            have c7 : (w6.setCell ⟨N + 5, 0, none⟩ (.slice (some ⟨gq, 0, none⟩) row.length cq)).cell? ⟨N + 7, 0, none⟩ = some (.slice (some ⟨N + 6, 0, none⟩) A.length A.length) := hM3.choose_spec.choose_spec.1.2.2.2.1
            have c7' := g1.2.2.2.1
            have c6' : w6.cell? ⟨N + 6, i, none⟩ = some (.bool true) := by
              rw [g6.cellAt i (by omega), List.getElem?_map, List.getElem?_eq_getElem (by rw [tabB_len]; exact hin)]
              simp [tabB, updB]
            have k6 := g6.frozenAt i
            have HB4 : Hid (Below w0.heap.size w0 ((w6.setCell ⟨N + 5, 0, none⟩ (.slice (some ⟨gq, 0, none⟩) row.length cq)).setCell ⟨N + 6, i, none⟩ (.bool false))) := Lib.hid ((hb6.setCell (p := ⟨N + 5, 0, none⟩) (by have := HN.out; simp; omega) _).setCell (p := ⟨N + 6, i, none⟩) (by have := HN.out; simp; omega) _)
            clear g1 g2 g3 g4 g5 g6 g7 hM3 hb6 HCALL
            go_wp2
            exact ⟨⟨i + 1, by omega, by go_num, HM4, HB4⟩, by simp [intOf]; omega⟩
        · obtain rfl : i = A.length := by omega
          have HR2 : Hid (RES = F A.length) := Lib.hid (by rw [HRES.out, HFE.out]; show _ = better st _; rw [HEN.out])
          go_wp2
          go_ret
          unfold WalkAPost
          rw [← HN.out, HR2.out]
          exact ⟨by rw [HN.out]; exact HB.out, rfl, HW.out⟩
def WalkBPost (w0 : World) (n : Nat) (a : Option Addr) (cap : Nat) (st : Option (Int × List Int)) (e : Ending) (w' : World) : Prop :=
  Below w0.heap.size w0 w' ∧ e = .returned (.bool true) ∧ ∃ row U, WalksAt w' w0.heap.size n a cap row U st
set_option maxRecDepth 100000 in
set_option maxHeartbeats 8000000 in
theorem walkB (w0 : World) (a : Option Addr) (cap : Nat) (A : List (List Int)) (hM : mapCheck A = 0) (hA6 : A.length ≤ 6) (hr : Rows2 w0 a A) (st : Option (Int × List Int)) (hok : OkR st) :
    ∀ (m : Nat) (row : List Int) (U : Nat → Bool) (s : Nat) (w : World), A.length < row.length + m → row ≠ [] → 0 < row.getD 0 0 → (∀ x ∈ row, 0 ≤ x ∧ x < A.length) → s < 2 ^ A.length → (∀ k, k < A.length → bitB s k = !U k) → cntB s + row.length = A.length →
    WalksAt w w0.heap.size A.length a cap row U st → Below w0.heap.size w0 w →
    Calls Tryd.prog 110 (wkArgs w0.heap.size) w (WalkBPost w0 A.length a cap st) := by
  have h64 : 2 ^ A.length ≤ 2 ^ 6 := Nat.pow_le_pow_right (by omega) hA6
  intro m
  induction m with
  | zero =>
    intro row U s w h1 _ _ _ _ _ h2
    omega
  | succ m ih =>
    intro row U s w hm hne h0 hB hs hU hcnt hW hb
    have hl1 : 1 ≤ row.length := List.length_pos_iff.2 hne
    by_cases hs0 : s = 0
    · subst hs0
      have hcz : cntB 0 = 0 := by decide
      have hlf := walkLeaf w0 a cap A row U st w hM hr hB (by omega) hok hW hb
      refine hlf.mono ?_
      intro e w' hp
      unfold LeafPost at hp
      obtain ⟨k1, k2⟩ := hp
      rw [if_pos ⟨hne, h0⟩] at k2
      unfold WalkBPost
      exact ⟨k1, k2.1, row, U, k2.2⟩
    · have hcp : 0 < cntB s := by
        rcases Nat.eq_zero_or_pos (cntB s) with h | h
        · exact absurd (cnt_zero (by omega) h) hs0
        · exact h
      have HIH := Lib.hid ih
      have HBD := Lib.hid hB
      have HU := Lib.hid hU
      have HS := Lib.hid hs
      have HC := Lib.hid hcnt
      have hrl : row.length < A.length := by omega
      have HR0 := Lib.hid (And.intro hne h0)
      have HAN : Hid (¬ ∀ y, y < A.length → U y = true) := Lib.hid (fun h => by
        obtain ⟨k, hk, hbk⟩ := bit_any (by omega) hs0
        have hkn := bit_below hs hbk
        rw [hU k hkn, h k hkn] at hbk
        cases hbk)
      have HB := Lib.hid hb
      have HW0 := Lib.hid hW
      have HY0 : Hid (∀ y, y < 0 → U y = true) := Lib.hid (fun y hy => by omega)
      obtain ⟨vr, vp, f1, f2, f3, f4, f5, f6, f7⟩ := hW
      obtain ⟨ar, cr, rfl, _, _, _⟩ := owns_slice rfl f4
      have c5 : w.cell? ⟨w0.heap.size + 5, 0, none⟩ = some (.slice ar row.length cr) := f3.cellAt 0 (by omega)
      have c3 := f1.2.1
      have hle : ((row.length : Int) == (A.length : Int)) = false := beq_eq_false_iff_ne.2 (by omega)
      obtain ⟨N, hN⟩ : ∃ N, N = w0.heap.size := ⟨_, rfl⟩
      have HN := Lib.hid hN
      unfold wkArgs
      rw [← hN] at HW0 c5 c3 ⊢
      clear ih hB hU hs hcnt hok f1 f2 f3 f4 f5 f6 f7 hN hb hne h0 hr hM
      go_enter Tryd.func110, Tryd.ntmps110
      go_wp2
      go_loopw [15] (fun iv wr => ∃ i : Nat, i ≤ A.length ∧ iv = .int .i64 i ∧ Hid (∀ y, y < i → U y = true) ∧ Hid (WalksAt wr N A.length a cap row U st) ∧ Hid (Below w0.heap.size w0 wr)) (fun iv _ => A.length - (intOf iv).toNat)
      case atStart => exact ⟨0, by omega, rfl, HY0, HW0, HB⟩
      case round =>
        clear HW0 HB HY0 c5 c3
        obtain ⟨i, hi, rfl, HY, HW, HB⟩ := hrel
        by_cases hin : i < A.length
        · obtain ⟨vr, vp, f1, f2, f3, f4, f5, f6, f7⟩ := HW.out
          have c7 := f1.2.2.2.1
          have c6 : wr.cell? ⟨N + 6, i, none⟩ = some (.bool (U i)) := by
            rw [f6.cellAt i (by omega), List.getElem?_map, List.getElem?_eq_getElem (by rw [tabB_len]; exact hin)]
            simp [tabB]
          have hui := HU.out i hin
          cases hu : U i with
          | true =>
            rw [hu] at hui c6
            have HY2 : Hid (∀ y, y < i + 1 → U y = true) := Lib.hid (fun y hy => by
              by_cases h : y = i
              · rw [h]; exact hu
              · exact HY.out y (by omega))
            clear f1 f2 f3 f4 f5 f6 f7 hui hu
            go_wp2
            exact ⟨⟨i + 1, by omega, by go_num, HY2, HW, HB⟩, by simp [intOf]; omega⟩
          | false =>
            rw [hu] at hui c6
            have hbi : bitB s i = true := by simpa using hui
            have ff6 := f6.frozenAt i
            have c5 : wr.cell? ⟨N + 5, 0, none⟩ = some vr := f3.cellAt 0 (by omega)
            have hM1 := HW.out.mark i true (U' := updB U i true) (fun y _ => rfl)
            obtain ⟨vr1, vp1, e1, e2, e3, e4, e5, e6, e7⟩ := hM1
            have hv1 : vr1 = vr := by
              have h1 : (wr.setCell ⟨N + 6, i, none⟩ (.bool true)).cell? ⟨N + 5, 0, none⟩ = some vr1 := e3.cellAt 0 (by omega)
              rw [(grownR_set wr (N + 6) i (.bool true)).cell_far ⟨N + 5, 0, none⟩ (lt_of_cell c5) (by simp), c5] at h1
              exact (Option.some.inj h1).symm
            subst hv1
            obtain ⟨ar, cr, rfl, _, _, _⟩ := owns_slice rfl e4
            have HE := Lib.hid (And.intro e1 (And.intro e2 (And.intro e3 (And.intro e5 e6))))
            have HBm : Hid (Below w0.heap.size w0 (wr.setCell ⟨N + 6, i, none⟩ (.bool true))) := Lib.hid (HB.out.setCell (p := ⟨N + 6, i, none⟩) (by have := HN.out; simp; omega) _)
            obtain ⟨wm, hwm⟩ : ∃ wm, wm = wr.setCell ⟨N + 6, i, none⟩ (.bool true) := ⟨_, rfl⟩
            have HWM := Lib.hid hwm
            have hl9 : row.length ≤ 6 := by omega
            clear f1 f2 f3 f4 f5 f6 f7 hui hu e1 e2 e3 e5 e6 HW hwm
            go_wp2_with (at_builtin; (refine app_row2 rowAI rfl _ _ rfl (N + 9) rfl e4 [.int .i64 i] rfl (by first | rfl | simp) rfl (encI_one _) (by unfold maxLen; omega) (by omega) e7 ?_))
            intro v' w4 hown4 hg4 hv4
            obtain ⟨e1, e2, e3, e5, e6⟩ := HE.out
            have hown5 : w4.ownsRow (N + 9) 3 1 v' (row ++ [(i : Int)]).length ((row ++ [(i : Int)]).map (Value.int .i64)) := by rw [List.length_append, List.map_append]; exact hown4
            have q3 := e3.kept hg4 (Or.inr (fun hq => by have := (e4.lt (N + 5) hq.symm).1; omega))
            have k1 := q3.cellAt 0 (by omega)
            have k2 := q3.frozenAt 0
            have hM2 := WalksAt.row (row' := row ++ [(i : Int)]) e1 e2 e3 e6 e7 (fun g hg => (e4.lt g hg).1) e5 hg4 hown5 (by simpa using hv4)
            obtain ⟨a5, cc5, rfl, _, _, _⟩ := owns_slice rfl hown5
            have hbw : Below w0.heap.size w0 (w4.setCell ⟨N + 5, 0, none⟩ (.slice a5 (row ++ [(i : Int)]).length cc5)) :=
              ((HBm.out.trans ((grown_below e4 e7 hg4).mono (by have := HN.out; omega))).setCell (p := ⟨N + 5, 0, none⟩) (by have := HN.out; simp; omega) _)
            have c8 := hM2.choose_spec.choose_spec.1.2.2.2.2
            unfold wkV at c8
            have eg := eg_walks1
            have HCALL : Hid (Calls Tryd.prog 110 (wkArgs N) (w4.setCell ⟨N + 5, 0, none⟩ (.slice a5 (row ++ [(i : Int)]).length cc5)) (WalkBPost w0 A.length a cap st)) := Lib.hid (by
              have h5 := bit_lt (show s < 64 by have := HS.out; omega) (by omega) hbi
              have h6 := cnt_sub (show s < 64 by have := HS.out; omega) (by omega) hbi
              have hx := HIH.out (row ++ [(i : Int)]) (updB U i true) (s - 2 ^ i) _ (by rw [List.length_append]; simp; omega) (by simp) (by
                have h7 := HR0.out.2
                simp only [List.getD, List.getElem?_append_left (show 0 < row.length by omega)] at h7 ⊢
                exact h7) (fun x hx => by
                rcases List.mem_append.1 hx with h | h
                · exact HBD.out x h
                · obtain rfl : x = (i : Int) := by simpa using h
                  omega) (by have := HS.out; omega) (fun k hk => by
                rw [bit_sub (show s < 64 by have := HS.out; omega) (by omega) (by omega) hbi, HU.out k hk]
                unfold updB
                by_cases h : k = i
                · rw [if_pos h, decide_eq_false (fun h2 => h2 h)]; simp
                · rw [if_neg h, decide_eq_true h]; simp) (by rw [List.length_append]; have := HC.out; simp; omega) (by rw [← HN.out]; exact hM2) hbw
              rw [← HN.out] at hx
              exact hx)
            unfold wkArgs at HCALL
            have hll : (row ++ [(i : Int)]).length = row.length + 1 := by simp
            rw [hll] at HCALL c8
            clear hown4 hown5 q3 hM2 hbw e1 e2 e3 e5 e6 e4 e7 hg4 hv4 HE HBm
            go_wp2_with fail
            refine HCALL.out.mono ?_
            intro e w6 hw
            unfold WalkBPost at hw
            obtain ⟨hb6, rfl, row6, U6, hW6⟩ := hw
            have H6 := Lib.hid (And.intro hb6 hW6)
            clear hb6 hW6 HCALL
            go_wp2
            go_ret
            unfold WalkBPost
            exact ⟨H6.out.1, rfl, row6, U6, H6.out.2⟩
        · exact absurd (fun y hy => HY.out y (by omega)) HAN.out
end Go.Proofs.YtfaklhkdfpfjgaaDoor
