/- The depot in plain words: names, what is there, lines, the journal. No program in sight. -/
import Derived.Test.YtannijeiecmjpaaGreatDoorBase
import Derived.Lib.ItoaNum
import Derived.Lib.SlTrimSet
namespace Go.Proofs.YtannijeiecmjpaaGreatDoor
open Go.RowKit

/-- A text, byte by byte. -/
abbrev Byt := List UInt8
abbrev MoveD := Byt × Int
def nameSet : Byt := [97, 98, 99, 100, 101, 102, 103, 104, 105, 106, 107, 108, 109, 110, 111, 112, 113, 114, 115, 116, 117, 118, 119, 120, 121, 122, 48, 49, 50, 51, 52, 53, 54, 55, 56, 57]
/-- A byte that may stand in a name. -/
def chOk (b : UInt8) : Bool := (decide (97 ≤ b.toNat) && decide (b.toNat ≤ 122)) || (decide (48 ≤ b.toNat) && decide (b.toNat ≤ 57))
theorem chOk_set : ∀ b : UInt8, nameSet.contains b = chOk b := by
  intro b
  have h : ∀ n : Fin 256, nameSet.contains (UInt8.ofNat n.val) = chOk (UInt8.ofNat n.val) := by decide +kernel
  have := h ⟨b.toNat, b.toNat_lt⟩
  simpa using this
def nameOk (s : Byt) : Bool := (decide (s ≠ []) && decide (s.length ≤ 12)) && s.all chOk
theorem dropWhile_nil {α : Type} {p : α → Bool} {l : List α} : l.dropWhile p = [] ↔ l.all p = true := by
  induction l with
  | nil => simp
  | cons x l ih =>
    rw [List.dropWhile_cons]
    by_cases h : p x = true
    · rw [if_pos h, ih]; simp [h]
    · rw [if_neg h]; simp [h]
theorem trim_nil {l cs : Byt} : Lib.trimS l cs = [] ↔ l.all (cs.contains ·) = true := by
  unfold Lib.trimS Lib.trimLeftS
  rw [dropWhile_nil]
  constructor
  · intro h
    by_cases h2 : Lib.trimRightS l cs = []
    · unfold Lib.trimRightS at h2
      rw [List.reverse_eq_nil_iff, dropWhile_nil, List.all_reverse] at h2
      exact h2
    · exfalso
      unfold Lib.trimRightS at h h2
      rw [List.all_reverse] at h
      have h3 : l.reverse.dropWhile (cs.contains ·) ≠ [] := fun e => h2 (by rw [e]; rfl)
      obtain ⟨x, xs, hx⟩ := List.exists_cons_of_ne_nil h3
      have h4 := List.head?_dropWhile_not (cs.contains ·) l.reverse
      rw [hx] at h h4
      simp only [List.all_cons, Bool.and_eq_true] at h
      simp only [List.head?_cons] at h4
      rw [h.1] at h4
      cases h4
  · intro h
    unfold Lib.trimRightS
    rw [List.all_reverse]
    have : l.reverse.dropWhile (cs.contains ·) = [] := dropWhile_nil.2 (by rw [List.all_reverse]; exact h)
    rw [this]
    rfl
theorem name_trim (s : Byt) : decide (Lib.trimS s nameSet = []) = s.all chOk := by
  have h : s.all (nameSet.contains ·) = s.all chOk := by
    congr 1
    funext b
    exact chOk_set b
  by_cases h2 : s.all chOk = true
  · rw [h2]; exact decide_eq_true (trim_nil.2 (h.trans h2))
  · rw [show s.all chOk = false by simpa using h2]
    exact decide_eq_false (fun e => h2 (h.symm.trans (trim_nil.1 e)))
/-- How much of a thing is there. -/
def haveM (L : List MoveD) (s : Byt) : Int := L.foldl (fun n m => if m.1 = s then n + m.2 else n) 0
theorem haveM_snoc (L : List MoveD) (m : MoveD) (s : Byt) : haveM (L ++ [m]) s = if m.1 = s then haveM L s + m.2 else haveM L s := by
  unfold haveM
  rw [List.foldl_append]
  rfl
/-- What is wrong with a move. -/
def doErr (L : List MoveD) (m : MoveD) : Int :=
  if nameOk m.1 = false then 5 else if m.2 = 0 ∨ m.2 < -1000000 ∨ 1000000 < m.2 then 2 else if haveM L m.1 + m.2 < 0 then 8 else if 500 ≤ L.length then 4 else 0
/-- What is done of a row of moves. -/
def doneM (L : List MoveD) (m : MoveD) : List MoveD := if doErr L m = 0 then L ++ [m] else L
/-- Each move that was done may be. -/
def MovesOk (L : List MoveD) : Prop := ∀ m ∈ L, nameOk m.1 = true ∧ m.2 ≠ 0 ∧ -1000000 ≤ m.2 ∧ m.2 ≤ 1000000
theorem movesOk_done {L : List MoveD} {m : MoveD} (h : MovesOk L) : MovesOk (doneM L m) := by
  unfold doneM
  by_cases e : doErr L m = 0
  · rw [if_pos e]
    intro x hx
    rcases List.mem_append.1 hx with hx | hx
    · exact h x hx
    · obtain rfl : x = m := by simpa using hx
      unfold doErr at e
      by_cases h1 : nameOk x.1 = false
      · rw [if_pos h1] at e; omega
      · rw [if_neg h1] at e
        by_cases h2 : x.2 = 0 ∨ x.2 < -1000000 ∨ 1000000 < x.2
        · rw [if_pos h2] at e; omega
        · exact ⟨by simpa using h1, by omega, by omega, by omega⟩
  · rw [if_neg e]; exact h
theorem haveM_bound {L : List MoveD} (h : MovesOk L) (s : Byt) : -(L.length : Int) * 1000000 ≤ haveM L s ∧ haveM L s ≤ (L.length : Int) * 1000000 := by
  have key : ∀ (L : List MoveD), MovesOk L → ∀ a : Int, a - (L.length : Int) * 1000000 ≤ L.foldl (fun n m => if m.1 = s then n + m.2 else n) a ∧ L.foldl (fun n m => if m.1 = s then n + m.2 else n) a ≤ a + (L.length : Int) * 1000000 := by
    intro L
    induction L with
    | nil => intro _ a; simp
    | cons m L ih =>
      intro hL a
      have hm := hL m List.mem_cons_self
      have h2 := ih (fun x hx => hL x (List.mem_cons_of_mem _ hx)) (if m.1 = s then a + m.2 else a)
      simp only [List.foldl_cons, List.length_cons]
      split at h2 <;> rename_i hs <;> simp only [hs, if_true, if_false] at h2 ⊢ <;> push_cast <;> omega
  have := key L h 0
  unfold haveM
  omega
/-- The check of a line. -/
def checkM (b : Byt) : Int := b.foldl (fun c x => (31 * c + (x.toNat : Int)) % 9973) 7
def bodyM (n : Nat) (m : MoveD) : Byt := Lib.itoa (n : Int) ++ [32] ++ m.1 ++ [32] ++ Lib.itoa m.2
def lineM (n : Nat) (m : MoveD) : Byt := bodyM n m ++ [32] ++ Lib.itoa (checkM (bodyM n m)) ++ [10]
theorem check_take (b : Byt) (k : Nat) (h : k < b.length) : checkM (b.take (k + 1)) = (31 * checkM (b.take k) + (b[k].toNat : Int)) % 9973 := by
  unfold checkM
  rw [List.take_succ_eq_append_getElem h, List.foldl_append]
  rfl
theorem check_bound (b : Byt) : 0 ≤ checkM b ∧ checkM b < 9973 := by
  have key : ∀ (b : Byt) (a : Int), 0 ≤ a → a < 9973 → 0 ≤ b.foldl (fun c x => (31 * c + (x.toNat : Int)) % 9973) a ∧ b.foldl (fun c x => (31 * c + (x.toNat : Int)) % 9973) a < 9973 := by
    intro b
    induction b with
    | nil => intro a h1 h2; exact ⟨h1, h2⟩
    | cons x b ih =>
      intro a h1 h2
      exact ih _ (Int.emod_nonneg _ (by omega)) (Int.emod_lt_of_pos _ (by omega))
  exact key b 7 (by omega) (by omega)
/-- The journal. -/
def journalM : List MoveD → Byt
  | [] => []
  | L => (List.range L.length).flatMap fun i => lineM i (L.getD i ([], 0))
theorem journal_eq (L : List MoveD) : journalM L = (List.range L.length).flatMap fun i => lineM i (L.getD i ([], 0)) := by
  cases L with
  | nil => rfl
  | cons m L => rfl
theorem journal_snoc (L : List MoveD) (m : MoveD) : journalM (L ++ [m]) = journalM L ++ lineM L.length m := by
  rw [journal_eq, journal_eq, List.length_append, List.length_singleton, List.range_succ, List.flatMap_append]
  congr 1
  · rw [List.flatMap_def, List.flatMap_def]
    congr 1
    refine List.map_congr_left (fun i hi => ?_)
    have : i < L.length := by simpa using hi
    simp [List.getD_eq_getElem?_getD, List.getElem?_append_left this]
  · simp [List.getD_eq_getElem?_getD]
end Go.Proofs.YtannijeiecmjpaaGreatDoor
