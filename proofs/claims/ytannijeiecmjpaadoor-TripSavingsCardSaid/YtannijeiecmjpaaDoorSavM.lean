/- Clarke's and Wright's tours in plain words: a tour for each place that begins one; two are made one. No program in sight. -/
import Derived.Test.YtannijeiecmjpaaDoorBase
namespace Go.Proofs.YtannijeiecmjpaaDoor
open Go.RowKit

/-- The tour that begins with each place ([]: none does). -/
abbrev ToursF := Nat → List Int
def loadS (wants : List Int) (t : List Int) : Int := (t.map (fun p => wants.getD p.toNat 0)).foldl (· + ·) 0
theorem loadS_go (wants : List Int) (t : List Int) : ∀ b : Int, (t.map (fun p => wants.getD p.toNat 0)).foldl (· + ·) b = b + loadS wants t := by
  induction t with
  | nil => intro b; simp [loadS]
  | cons x t ih =>
    intro b
    have h1 := ih (b + wants.getD x.toNat 0)
    have h2 := ih (0 + wants.getD x.toNat 0)
    simp only [List.map_cons, List.foldl_cons] at h1 h2 ⊢
    unfold loadS
    simp only [List.map_cons, List.foldl_cons]
    rw [h1, h2]
    omega
theorem loadS_app (wants t u : List Int) : loadS wants (t ++ u) = loadS wants t + loadS wants u := by
  show ((t ++ u).map (fun p => wants.getD p.toNat 0)).foldl (· + ·) 0 = _
  rw [List.map_append, List.foldl_append, loadS_go]
  rfl
theorem loadS_bound {wants : List Int} (h : ∀ x ∈ wants, 0 ≤ x ∧ x ≤ 1000000000) (t : List Int) : 0 ≤ loadS wants t ∧ loadS wants t ≤ t.length * 1000000000 := by
  induction t with
  | nil => simp [loadS]
  | cons x t ih =>
    have e : loadS wants (x :: t) = wants.getD x.toNat 0 + loadS wants t := by
      have := loadS_app wants [x] t
      have e1 : loadS wants [x] = wants.getD x.toNat 0 := by simp [loadS]
      rw [e1] at this
      exact this
    have hx : 0 ≤ wants.getD x.toNat 0 ∧ wants.getD x.toNat 0 ≤ 1000000000 := by
      rw [List.getD_eq_getElem?_getD]
      cases h2 : wants[x.toNat]? with
      | none => simp
      | some y => exact h y (List.mem_of_getElem? h2)
    rw [e, List.length_cons]
    omega
/-- The tours are what tours are: each begins with its place, no place lies in two. -/
structure GoodS (n : Nat) (T : ToursF) : Prop where
  head : ∀ f, T f ≠ [] → (T f).head? = some (f : Int)
  inn : ∀ f x, x ∈ T f → ∃ p : Nat, x = (p : Int) ∧ 1 ≤ p ∧ p < n
  apart : ∀ f g x, x ∈ T f → x ∈ T g → f = g
  once : ∀ f, (T f).Nodup
/-- Who ends with place i. -/
def endsAt (T : ToursF) (a i : Nat) : Prop := (T a).getLast? = some (i : Int)
theorem ends_one {n : Nat} {T : ToursF} (h : GoodS n T) {a b i : Nat} (h1 : endsAt T a i) (h2 : endsAt T b i) : a = b :=
  h.apart a b (i : Int) (List.mem_of_getLast? h1) (List.mem_of_getLast? h2)
theorem ends_lt {n : Nat} {T : ToursF} (h : GoodS n T) {a i : Nat} (h1 : endsAt T a i) : 1 ≤ a ∧ a < n := by
  have hne : T a ≠ [] := fun e => by unfold endsAt at h1; rw [e] at h1; cases h1
  have h2 := h.head a hne
  obtain ⟨p, h3, h4, h5⟩ := h.inn a (a : Int) (List.mem_of_head? h2)
  omega
/-- Two are made one. -/
def mergeS (T : ToursF) (a k : Nat) : ToursF := fun f => if f = a then T a ++ T k else if f = k then [] else T f
/-- Where the two fit. -/
def fitsS (wants : List Int) (room : Int) (T : ToursF) (a k : Nat) : Prop := a ≠ k ∧ T k ≠ [] ∧ loadS wants (T a) + loadS wants (T k) ≤ room
open Classical in
noncomputable def stepS (wants : List Int) (room : Int) (T : ToursF) (i k : Nat) : ToursF :=
  if h : ∃ a, endsAt T a i then (if fitsS wants room T h.choose k then mergeS T h.choose k else T) else T
theorem stepS_at {n : Nat} {wants : List Int} {room : Int} {T : ToursF} (h : GoodS n T) {a i k : Nat} (h1 : endsAt T a i) : (fitsS wants room T a k → stepS wants room T i k = mergeS T a k) ∧ (¬ fitsS wants room T a k → stepS wants room T i k = T) := by
  have hex : ∃ a, endsAt T a i := ⟨a, h1⟩
  have e : hex.choose = a := ends_one h hex.choose_spec h1
  unfold stepS
  rw [dif_pos hex, e]
  exact ⟨fun h2 => if_pos h2, fun h2 => if_neg h2⟩
theorem stepS_none {wants : List Int} {room : Int} {T : ToursF} {i k : Nat} (h : ∀ a, ¬ endsAt T a i) : stepS wants room T i k = T := by
  unfold stepS
  rw [dif_neg (fun ⟨a, h1⟩ => h a h1)]
theorem good_merge {n : Nat} {T : ToursF} (h : GoodS n T) {a k : Nat} (hak : a ≠ k) (ha : T a ≠ []) : GoodS n (mergeS T a k) := by
  have mem : ∀ f x, x ∈ mergeS T a k f → (f = a ∧ (x ∈ T a ∨ x ∈ T k)) ∨ (f ≠ a ∧ f ≠ k ∧ x ∈ T f) := fun f x hx => by
    unfold mergeS at hx
    by_cases h1 : f = a
    · rw [if_pos h1] at hx; exact Or.inl ⟨h1, List.mem_append.1 hx⟩
    · rw [if_neg h1] at hx
      by_cases h2 : f = k
      · rw [if_pos h2] at hx; cases hx
      · rw [if_neg h2] at hx; exact Or.inr ⟨h1, h2, hx⟩
  refine ⟨fun f hf => ?_, fun f x hx => ?_, fun f g x hx hy => ?_, fun f => ?_⟩
  · unfold mergeS at hf ⊢
    by_cases h1 : f = a
    · rw [if_pos h1, List.head?_append, h.head a ha, h1]; rfl
    · rw [if_neg h1] at hf ⊢
      by_cases h2 : f = k
      · rw [if_pos h2] at hf; exact absurd rfl hf
      · rw [if_neg h2] at hf ⊢; exact h.head f hf
  · rcases mem f x hx with ⟨_, h1 | h1⟩ | ⟨_, _, h1⟩
    · exact h.inn a x h1
    · exact h.inn k x h1
    · exact h.inn f x h1
  · rcases mem f x hx with ⟨h1, h2⟩ | ⟨h1, h2, h3⟩
    · rcases mem g x hy with ⟨k1, _⟩ | ⟨k1, k2, k3⟩
      · rw [h1, k1]
      · rcases h2 with h2 | h2
        · exact absurd (h.apart a g x h2 k3).symm k1
        · exact absurd (h.apart k g x h2 k3).symm k2
    · rcases mem g x hy with ⟨k1, k2⟩ | ⟨k1, k2, k3⟩
      · rcases k2 with k2 | k2
        · exact absurd (h.apart a f x k2 h3).symm h1
        · exact absurd (h.apart k f x k2 h3).symm h2
      · exact h.apart f g x h3 k3
  · unfold mergeS
    split
    · rw [List.nodup_append]
      exact ⟨h.once a, h.once k, fun x hx y hy e => hak (h.apart a k x hx (by rw [e]; exact hy))⟩
    · split
      · exact List.nodup_nil
      · exact h.once f
theorem good_step {n : Nat} {wants : List Int} {room : Int} {T : ToursF} (h : GoodS n T) (i k : Nat) : GoodS n (stepS wants room T i k) := by
  by_cases hex : ∃ a, endsAt T a i
  · obtain ⟨a, h1⟩ := hex
    by_cases h2 : fitsS wants room T a k
    · rw [(stepS_at h h1).1 h2]
      exact good_merge h h2.1 (fun e => by unfold endsAt at h1; rw [e] at h1; cases h1)
    · rw [(stepS_at h h1).2 h2]; exact h
  · rw [stepS_none (fun a ha => hex ⟨a, ha⟩)]; exact h
def startS (n : Nat) : ToursF := fun f => if 1 ≤ f ∧ f < n then [(f : Int)] else []
theorem good_start (n : Nat) : GoodS n (startS n) := by
  refine ⟨fun f hf => ?_, fun f x hx => ?_, fun f g x hx hy => ?_, fun f => ?_⟩
  · unfold startS at hf ⊢; split at hf
    · rename_i h; rw [if_pos h]; rfl
    · exact absurd rfl hf
  · unfold startS at hx; split at hx
    · rename_i h; exact ⟨f, by simpa using hx, h⟩
    · cases hx
  · unfold startS at hx hy
    split at hx
    · split at hy
      · simp at hx hy; omega
      · cases hy
    · cases hx
  · unfold startS; split
    · simp
    · exact List.nodup_nil
theorem nodup_leS : ∀ (m : Nat) (L : List Nat), L.Nodup → (∀ x ∈ L, x < m) → L.length ≤ m := by
  intro m
  induction m with
  | zero =>
    intro L _ h
    cases L with
    | nil => simp
    | cons x xs => have := h x (by simp); omega
  | succ m ih =>
    intro L hn h
    by_cases hm : m ∈ L
    · have h1 := ih (L.erase m) (hn.erase m) (fun x hx => by
        have h2 := (hn.mem_erase_iff).1 hx
        have h3 := h x h2.2
        have h4 := h2.1
        omega)
      rw [List.length_erase_of_mem hm] at h1
      omega
    · have := ih L hn (fun x hx => by
        have h3 := h x hx
        have : x ≠ m := fun h4 => hm (h4 ▸ hx)
        omega)
      omega
theorem map_nodup {l : List Int} (h : l.Nodup) (hp : ∀ x ∈ l, 0 ≤ x) : (l.map Int.toNat).Nodup := by
  induction l with
  | nil => exact List.nodup_nil
  | cons x l ih =>
    rw [List.nodup_cons] at h
    rw [List.map_cons, List.nodup_cons]
    refine ⟨fun hx => ?_, ih h.2 (fun y hy => hp y (List.mem_cons_of_mem _ hy))⟩
    obtain ⟨y, hy, e⟩ := List.mem_map.1 hx
    have h1 := hp y (List.mem_cons_of_mem _ hy)
    have h2 := hp x List.mem_cons_self
    have e2 : y = x := by omega
    exact h.1 (by rw [← e2]; exact hy)
/-- A tour has fewer places than there are. -/
theorem good_len {n : Nat} {T : ToursF} (h : GoodS n T) (f : Nat) : (T f).length ≤ n := by
  have h2 := map_nodup (h.once f) (fun x hx => by obtain ⟨p, rfl, _, _⟩ := h.inn f x hx; omega)
  have := nodup_leS n _ h2 (fun x hx => by
    obtain ⟨y, hy, rfl⟩ := List.mem_map.1 hx
    obtain ⟨p, rfl, _, h4⟩ := h.inn f y hy
    simpa using h4)
  simpa using this
/-- The tours in the order of their first places. -/
def listS (n : Nat) (T : ToursF) : List (List Int) := ((List.range n).map T).filter (fun t => !t.isEmpty)
/-- All savings, one by one. -/
noncomputable def savS (wants : List Int) (room : Int) (n : Nat) (l : List (Nat × Nat)) : ToursF := l.foldl (fun T x => stepS wants room T x.1 x.2) (startS n)
theorem good_sav (wants : List Int) (room : Int) (n : Nat) (l : List (Nat × Nat)) : GoodS n (savS wants room n l) := by
  unfold savS
  have : ∀ (l : List (Nat × Nat)) (T : ToursF), GoodS n T → GoodS n (l.foldl (fun T x => stepS wants room T x.1 x.2) T) := by
    intro l
    induction l with
    | nil => intro T h; exact h
    | cons x l ih => intro T h; exact ih _ (good_step h x.1 x.2)
  exact this l _ (good_start n)
end Go.Proofs.YtannijeiecmjpaaDoor
