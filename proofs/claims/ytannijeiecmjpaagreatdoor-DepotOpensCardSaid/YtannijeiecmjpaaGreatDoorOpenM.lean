/- Which moves a journal tells, in plain words: what comes next of a text, and where it ends. No program in sight. -/
import Derived.Test.YtannijeiecmjpaaGreatDoorDepM
import Derived.Lib.Split
import Derived.Lib.AtoiAll
import Derived.Lib.IndexLaws
namespace Go.Proofs.YtannijeiecmjpaaGreatDoor
open Go.RowKit

/-- A byte of a line's words: no blank, no line's end. -/
def plainB (b : UInt8) : Bool := decide (b ≠ 32) && decide (b ≠ 10)
theorem digitB (i : Nat) (h : i < 10) : plainB (UInt8.ofNat (48 + i)) = true ∧ (UInt8.ofNat (48 + i)).toNat = 48 + i := by
  have key : ∀ i : Fin 10, plainB (UInt8.ofNat (48 + i.val)) = true ∧ (UInt8.ofNat (48 + i.val)).toNat = 48 + i.val := by decide +kernel
  exact key ⟨i, h⟩
theorem dec_plain (u : Nat) : (Lib.decDigits u).all plainB = true := by
  induction u using Nat.strongRecOn with
  | _ u ih =>
    by_cases h : u < 10
    · rw [Lib.decDigits, dif_pos h, List.all_cons, (digitB u h).1]
      rfl
    · rw [Lib.decDigits, dif_neg h, List.all_append, ih (u / 10) (by omega), List.all_cons, (digitB (u % 10) (by omega)).1]
      rfl
theorem itoa_plain (n : Int) : (Lib.itoa n).all plainB = true := by
  unfold Lib.itoa
  split
  · rw [List.all_cons, dec_plain]; rfl
  · exact dec_plain _
theorem chOk_plain : ∀ b : UInt8, chOk b = true → plainB b = true := by
  intro b
  have h : ∀ n : Fin 256, chOk (UInt8.ofNat n.val) = true → plainB (UInt8.ofNat n.val) = true := by decide +kernel
  have := h ⟨b.toNat, b.toNat_lt⟩
  simpa using this
theorem name_plain {s : Byt} (h : nameOk s = true) : s.all plainB = true := by
  unfold nameOk at h
  simp only [Bool.and_eq_true] at h
  rw [List.all_eq_true]
  intro b hb
  exact chOk_plain b (List.all_eq_true.1 h.2 b hb)
/-- The first line's end. -/
theorem index_body (c : UInt8) : ∀ (a r : Byt), (∀ b ∈ a, b ≠ c) → Lib.indexByte (a ++ c :: r) c = (a.length : Int)
  | [], r, _ => by simp [Lib.indexByte]
  | x :: a, r, h => by
    have ih := index_body c a r (fun b hb => h b (List.mem_cons_of_mem _ hb))
    have hx : (x == c) = false := by simpa using h x List.mem_cons_self
    have h1 : ((a.length : Int) == -1) = false := by simp
    rw [List.cons_append, Lib.indexByte, ih, hx, h1]
    simp
theorem index_sub (c : UInt8) : ∀ s : Byt, Lib.index s [c] = Lib.indexByte s c
  | [] => by simp [Lib.index, Lib.indexByte]
  | b :: l => by
    rw [Lib.index, Lib.indexByte, index_sub c l]
    by_cases h : b = c
    · subst h; simp
    · have h2 : ([c].isPrefixOf (b :: l)) = false := by rw [List.isPrefixOf, beq_eq_false_iff_ne.2 (Ne.symm h)]; rfl
      have h3 : (b == c) = false := beq_eq_false_iff_ne.2 h
      rw [h2, h3]
theorem index_none (c : UInt8) : ∀ (a : Byt), (∀ b ∈ a, b ≠ c) → Lib.indexByte a c = -1
  | [], _ => rfl
  | x :: a, h => by
    have ih := index_none c a (fun b hb => h b (List.mem_cons_of_mem _ hb))
    have hx : (x == c) = false := by simpa using h x List.mem_cons_self
    rw [Lib.indexByte, ih, if_neg (by rw [hx]; simp), if_pos (by rfl)]
theorem split_one {a : Byt} (h : ∀ b ∈ a, b ≠ 32) : Lib.split a [32] = [a] := by
  unfold Lib.split
  rw [Lib.count_miss (by rw [index_sub]; exact index_none 32 a h)]
  rfl
theorem split_more {a r : Byt} (h : ∀ b ∈ a, b ≠ 32) : Lib.split (a ++ 32 :: r) [32] = a :: Lib.split r [32] := by
  have hi : Lib.index (a ++ 32 :: r) [32] = (a.length : Int) := by rw [index_sub]; exact index_body 32 a r h
  have hd : (a ++ 32 :: r).drop (a.length + [(32 : UInt8)].length) = r := by
    rw [List.length_singleton, List.drop_append]
    simp
  unfold Lib.split
  have h1 : (Lib.index (a ++ 32 :: r) [32] == -1) = false := by rw [hi]; simp
  rw [Lib.count_hit (by simp) hi, hd, Nat.add_comm, Lib.splitK, h1, hi, if_neg (by simp)]
  congr 1
  · simp
  · rw [Int.toNat_natCast, hd]
/-- A line is four words. -/
theorem plain_ne {s : Byt} (h : s.all plainB = true) : (∀ b ∈ s, b ≠ 32) ∧ ∀ b ∈ s, b ≠ 10 := by
  rw [List.all_eq_true] at h
  constructor <;> intro b hb <;> have := h b hb <;> unfold plainB at this <;> simp only [Bool.and_eq_true, decide_eq_true_eq] at this
  · exact this.1
  · exact this.2
theorem split_line {n : Nat} {m : MoveD} (h : nameOk m.1 = true) : Lib.split (bodyM n m ++ [32] ++ Lib.itoa (checkM (bodyM n m))) [32] = [Lib.itoa (n : Int), m.1, Lib.itoa m.2, Lib.itoa (checkM (bodyM n m))] := by
  generalize checkM (bodyM n m) = c
  have e : bodyM n m ++ [32] ++ Lib.itoa c = Lib.itoa (n : Int) ++ 32 :: (m.1 ++ 32 :: (Lib.itoa m.2 ++ 32 :: Lib.itoa c)) := by
    unfold bodyM; simp
  rw [e, split_more (plain_ne (itoa_plain _)).1, split_more (plain_ne (name_plain h)).1, split_more (plain_ne (itoa_plain _)).1, split_one (plain_ne (itoa_plain _)).1]
theorem line_end {n : Nat} {m : MoveD} (h : nameOk m.1 = true) : ∀ b ∈ bodyM n m ++ [32] ++ Lib.itoa (checkM (bodyM n m)), b ≠ 10 := by
  generalize checkM (bodyM n m) = c
  intro b hb
  unfold bodyM at hb
  simp only [List.append_assoc, List.mem_append, List.mem_singleton] at hb
  have h1 := (plain_ne (itoa_plain (n : Int))).2 b
  have h2 := (plain_ne (name_plain h)).2 b
  have h3 := (plain_ne (itoa_plain m.2)).2 b
  have h4 := (plain_ne (itoa_plain c)).2 b
  rcases hb with hb | hb | hb | hb | hb | hb | hb
  · exact h1 hb
  · subst hb; decide
  · exact h2 hb
  · subst hb; decide
  · exact h3 hb
  · subst hb; decide
  · exact h4 hb
/-- Atoi of what Itoa tells. -/
theorem parse_snoc (c : UInt8) : ∀ (l : Byt) (acc u : Nat), Lib.parseUint10 acc l = .ok u → Lib.parseUint10 acc (l ++ [c]) = Lib.parseUint10 u [c]
  | [], acc, u, h => by
    simp only [Lib.parseUint10, Lib.NumEnd.ok.injEq] at h
    subst h
    rfl
  | b :: l, acc, u, h => by
    rw [List.cons_append]
    simp only [Lib.parseUint10] at h
    split at h
    · rename_i h1
      split at h
      · cases h
      · rename_i h2
        split at h
        · cases h
        · rename_i h3
          have := parse_snoc c l _ u h
          rw [Lib.parseUint10, if_pos h1, if_neg h2, if_neg h3]
          exact this
    · cases h
theorem parse_dec (u : Nat) (h : u < 18446744073709551616) : Lib.parseUint10 0 (Lib.decDigits u) = .ok u := by
  induction u using Nat.strongRecOn with
  | _ u ih =>
    by_cases h1 : u < 10
    · rw [Lib.decDigits, dif_pos h1]
      have := (digitB u h1).2
      simp only [Lib.parseUint10]
      rw [this, if_pos (by omega), if_neg (by omega), if_neg (by omega)]
      congr 1
      omega
    · rw [Lib.decDigits, dif_neg h1, parse_snoc _ _ 0 (u / 10) (ih (u / 10) (by omega) (by omega))]
      have := (digitB (u % 10) (by omega)).2
      simp only [Lib.parseUint10]
      rw [this, if_pos (by omega), if_neg (by omega), if_neg (by omega)]
      congr 1
      omega
theorem dec_head (u : Nat) : ∃ c r, Lib.decDigits u = c :: r ∧ 48 ≤ c.toNat ∧ c.toNat ≤ 57 := by
  induction u using Nat.strongRecOn with
  | _ u ih =>
    by_cases h1 : u < 10
    · rw [Lib.decDigits, dif_pos h1]
      exact ⟨_, _, rfl, by rw [(digitB u h1).2]; omega, by rw [(digitB u h1).2]; omega⟩
    · rw [Lib.decDigits, dif_neg h1]
      obtain ⟨c, r, e, h⟩ := ih (u / 10) (by omega)
      rw [e]
      exact ⟨c, _, rfl, h⟩
theorem atoi_itoa (n : Int) (h0 : -9223372036854775808 ≤ n) (h1 : n ≤ 9223372036854775807) : Lib.atoiAll (Lib.itoa n) = .ok n := by
  unfold Lib.itoa
  by_cases hn : n < 0
  · rw [if_pos hn]
    have h2 : (45 : UInt8).toNat = 45 := rfl
    have hp := parse_dec n.natAbs (by omega)
    obtain ⟨c, r, e, _⟩ := dec_head n.natAbs
    have hm : Lib.parseMag (Lib.decDigits n.natAbs) = .ok n.natAbs := by
      unfold Lib.parseMag
      rw [if_neg (by rw [e]; simp), hp]
    have h3 : ¬ (9223372036854775808 < n.natAbs) := by omega
    simp [Lib.atoiAll, h2, hm, h3]
    omega
  · rw [if_neg hn]
    have hp := parse_dec n.toNat (by omega)
    obtain ⟨c, r, e, hc⟩ := dec_head n.toNat
    have hm : Lib.parseMag (Lib.decDigits n.toNat) = .ok n.toNat := by
      unfold Lib.parseMag
      rw [if_neg (by rw [e]; simp), hp]
    rw [e] at hm ⊢
    have h3 : ¬ (9223372036854775808 ≤ n.toNat) := by omega
    have h4 : ¬ c.toNat = 43 := by omega
    have h5 : ¬ c.toNat = 45 := by omega
    simp [Lib.atoiAll, h4, h5, hm, h3]
    omega
/-- What a journal's next line may do. -/
def StepTo (L : List MoveD) (rest : Byt) (m : MoveD) : Prop := doErr L m = 0 ∧ ∃ r, rest = lineM L.length m ++ r
theorem doErr_ok {L : List MoveD} {m : MoveD} (h : doErr L m = 0) : nameOk m.1 = true ∧ -1000000 ≤ m.2 ∧ m.2 ≤ 1000000 ∧ L.length < 500 := by
  unfold doErr at h
  by_cases h1 : nameOk m.1 = false
  · rw [if_pos h1] at h; omega
  · rw [if_neg h1] at h
    by_cases h2 : m.2 = 0 ∨ m.2 < -1000000 ∨ 1000000 < m.2
    · rw [if_pos h2] at h; omega
    · rw [if_neg h2] at h
      by_cases h3 : haveM L m.1 + m.2 < 0
      · rw [if_pos h3] at h; omega
      · rw [if_neg h3] at h
        by_cases h4 : 500 ≤ L.length
        · rw [if_pos h4] at h; omega
        · exact ⟨by simpa using h1, by omega, by omega, by omega⟩
/-- The line ahead of its end. -/
def headM (n : Nat) (m : MoveD) : Byt := bodyM n m ++ [32] ++ Lib.itoa (checkM (bodyM n m))
theorem line_head (n : Nat) (m : MoveD) : lineM n m = headM n m ++ [10] := rfl
/-- All that the code reckons on a line that is right. -/
theorem step_yes {L : List MoveD} {rest : Byt} {m : MoveD} (h : StepTo L rest m) :
    Lib.indexByte rest 10 = ((headM L.length m).length : Int) ∧ rest.take (headM L.length m).length = headM L.length m ∧ rest.take ((headM L.length m).length + 1) = lineM L.length m ∧
    Lib.split (headM L.length m) [32] = [Lib.itoa (L.length : Int), m.1, Lib.itoa m.2, Lib.itoa (checkM (bodyM L.length m))] ∧ (headM L.length m).length + 1 ≤ rest.length := by
  obtain ⟨h0, r, rfl⟩ := h
  obtain ⟨hn, _⟩ := doErr_ok h0
  rw [line_head, List.append_assoc, List.singleton_append]
  refine ⟨index_body 10 _ r (line_end hn), by simp, ?_, split_line hn, by simp⟩
  rw [show headM L.length m ++ 10 :: r = (headM L.length m ++ [10]) ++ r by simp]
  rw [List.take_append_of_le_length (by simp)]
  rw [List.take_of_length_le (by simp)]
/-- What the code takes for a line is one. -/
theorem step_no {L : List MoveD} {rest : Byt} {m : MoveD} {k : Nat} (hl : lineM L.length m = rest.take k) (h0 : doErr L m = 0) : StepTo L rest m :=
  ⟨h0, rest.drop k, by rw [hl, List.take_append_drop]⟩
/-- What comes next. -/
noncomputable def nextM (b : Byt) (L : List MoveD) : Option MoveD :=
  open Classical in if h : ∃ m, StepTo L (b.drop (journalM L).length) m then some h.choose else none
theorem nextM_some {b : Byt} {L : List MoveD} {m : MoveD} (h : nextM b L = some m) : StepTo L (b.drop (journalM L).length) m := by
  unfold nextM at h
  split at h
  · rename_i h2
    obtain rfl := Option.some.inj h
    exact h2.choose_spec
  · cases h
theorem nextM_none {b : Byt} {L : List MoveD} (h : nextM b L = none) (m : MoveD) : ¬ StepTo L (b.drop (journalM L).length) m := by
  unfold nextM at h
  split at h
  · cases h
  · rename_i h2
    exact fun h3 => h2 ⟨m, h3⟩
/-- What is done in the end, at most so many more. -/
noncomputable def runM (b : Byt) : Nat → List MoveD → List MoveD
  | 0, L => L
  | f + 1, L => match nextM b L with
    | some m => runM b f (L ++ [m])
    | none => L
/-- A state on the way. -/
structure OnWay (b : Byt) (L : List MoveD) : Prop where
  len : L.length ≤ 500
  run : runM b (500 - L.length) L = runM b 500 []
  pre : ∃ r, b = journalM L ++ r
  ok : MovesOk L
theorem onWay_nil (b : Byt) : OnWay b [] := ⟨by simp, rfl, ⟨b, rfl⟩, fun m hm => (by cases hm)⟩
theorem OnWay.next {b : Byt} {L : List MoveD} {m : MoveD} (h : OnWay b L) (hm : nextM b L = some m) : OnWay b (L ++ [m]) ∧ doErr L m = 0 ∧ doneM L m = L ++ [m] := by
  have hs := nextM_some hm
  obtain ⟨h1, h2, h3, h4⟩ := doErr_ok hs.1
  have hd : doneM L m = L ++ [m] := by unfold doneM; rw [if_pos hs.1]
  refine ⟨⟨by simp; omega, ?_, ?_, hd ▸ movesOk_done h.ok⟩, hs.1, hd⟩
  · rw [← h.run, show 500 - L.length = (500 - (L ++ [m]).length) + 1 by simp; omega, runM, hm]
  · obtain ⟨r, hr⟩ := h.pre
    obtain ⟨_, r2, hr2⟩ := hs
    refine ⟨r2, ?_⟩
    rw [hr, List.drop_append_of_le_length (Nat.le_refl _), List.drop_length, List.nil_append] at hr2
    rw [journal_snoc, List.append_assoc, ← hr2]
    exact hr
theorem OnWay.stop {b : Byt} {L : List MoveD} (h : OnWay b L) (hm : nextM b L = none) : L = runM b 500 [] := by
  rw [← h.run]
  cases 500 - L.length with
  | zero => rfl
  | succ f => rw [runM, hm]
theorem OnWay.le {b : Byt} {L : List MoveD} (h : OnWay b L) : (journalM L).length ≤ b.length := by
  obtain ⟨r, hr⟩ := h.pre
  rw [hr]
  simp
end Go.Proofs.YtannijeiecmjpaaGreatDoor
