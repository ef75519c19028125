/- What depot.Things and depot.Journal hand back. -/
import Derived.Test.YtannijeiecmjpaaGreatDoorDepD
import Derived.Test.YtannijeiecmjpaaGreatDoorShelfD
import Derived.Test.YtannijeiecmjpaaGreatDoorIterD
import Derived.Sort.KeysCollected
namespace Go.Proofs.YtannijeiecmjpaaGreatDoor
open Go.RowKit Go.WideMaps Go.Maps Go.Sort Go.Shelf

theorem have_has {D : DataW Unit} {L : List MoveD} (hm : IsMap D) (h : HaveOf D L) (s : Byt) : has D (.string s) = true ↔ haveM L s ≠ 0 := by
  obtain ⟨es, rfl⟩ := hm
  have h1 := h s (.map [])
  have h2 := h s (.lit (.bool true))
  have e : ∀ z : DataW Unit, (DataW.map es).atKey (.string s) z = match es.find? (fun p => p.1.sameKey (.string s)) with | some p => p.2 | none => z := fun z => by
    show DataW.atKey _ _ _ = _
    unfold DataW.atKey
    cases hf : es.find? (fun p => p.1.sameKey (.string s)) <;> simp [hf]
  rw [e] at h1 h2
  rw [has_eq, List.any_eq_true]
  cases hf : es.find? (fun p => p.1.sameKey (.string s)) with
  | none =>
    rw [hf] at h1
    simp only at h1
    constructor
    · rintro ⟨p, hp, hk⟩
      exact absurd hk (List.find?_eq_none.1 hf p hp)
    · intro h3
      rw [if_pos h3] at h1
      cases h1
  | some p =>
    rw [hf] at h1 h2
    simp only at h1 h2
    constructor
    · intro _ h3
      rw [if_neg (by simpa using h3)] at h1 h2
      rw [h1] at h2
      cases h2
    · intro _
      exact ⟨p, List.mem_of_find?_eq_some hf, by have h9 := List.find?_some hf; exact h9⟩
theorem keys_mem {w : World} {bm N : Nat} {D : DataW Unit} (hown : w.ownsMap Tryz.prog 9 (plainElem Tryz.prog 3) bm N D) : (strKeys D).Nodup ∧ ∀ x, x ∈ strKeys D ↔ has D (.string x) = true := by
  obtain ⟨es, hD, hpw, _⟩ := hown.entries keyS
  obtain ⟨es', hD', hko⟩ := hown.keysOf
  obtain rfl : es = es' := by rw [hD] at hD'; simpa using hD'
  subst hD
  have hk : ∀ p ∈ es, ∃ x, p.1 = .string x := fun p hp => by obtain ⟨v, hv⟩ := hko p hp; obtain ⟨x, _, hx, _⟩ := Maps.keyOf_str Tryz.underlying9 hv; exact ⟨x, hx⟩
  refine ⟨?_, fun x => ?_⟩
  · show (es.map fun p => strOf p.1).Nodup
    refine List.pairwise_map.2 (hpw.imp_of_mem fun {p q} hp' hq' hne e => hne ?_)
    obtain ⟨a, ha⟩ := hk p hp'
    obtain ⟨b, hb⟩ := hk q hq'
    rw [ha, hb] at e ⊢
    exact congrArg _ e
  · rw [has_eq, List.any_eq_true]
    show x ∈ (es.map fun p => strOf p.1) ↔ _
    rw [List.mem_map]
    constructor
    · rintro ⟨p, hp, rfl⟩
      obtain ⟨y, hy⟩ := hk p hp
      exact ⟨p, hp, by rw [hy]; exact WideAt.sameKey_self (show WideAt.IsKeyLit (.string y) from trivial)⟩
    · rintro ⟨p, hp, h⟩
      exact ⟨p, hp, by rw [(WideAt.sameKey_iff (show WideAt.IsKeyLit (.string x) from trivial)).1 h]; rfl⟩
/-- The names of what is there, in order. -/
structure NamesOf (L : List MoveD) (ss : List Byt) : Prop where
  nodup : ss.Nodup
  mem : ∀ x, x ∈ ss ↔ haveM L x ≠ 0
  sorted : ss.Pairwise (fun a b => a ≤ b)
theorem names_of {L : List MoveD} {ss ks : List Byt} (hp : ss.Perm ks) (hn : ks.Nodup) (hm : ∀ x, x ∈ ks ↔ haveM L x ≠ 0) : NamesOf L (ss.mergeSort (fun x y => decide (x ≤ y))) := by
  have p1 := (List.mergeSort_perm ss (fun x y => decide (x ≤ y))).trans hp
  refine ⟨p1.nodup_iff.2 hn, fun x => (p1.mem_iff).trans (hm x), ?_⟩
  have h := List.pairwise_mergeSort (le := fun (x y : Byt) => decide (x ≤ y)) (fun a b c h1 h2 => by simp only [decide_eq_true_eq] at *; exact List.le_trans h1 h2) (fun a b => by simp only [Bool.or_eq_true, decide_eq_true_eq]; exact List.le_total a b) ss
  exact h.imp (fun h => by simpa using h)
set_option maxRecDepth 100000 in
set_option maxHeartbeats 2000000 in
theorem depThings_any {base bd : Nat} {mv jv : Value} {L : List MoveD} {w : World} (hL : L.length ≤ 500) (H : DepAt base bd mv jv L w) :
    Calls Tryz.prog 14 #[.pointer (some ⟨bd, 0, none⟩)] w fun e w' => ∃ v ss, e = .returned v ∧ NamesOf L ss ∧ w'.ownsRow w.heap.size 9 1 v ss.length (ss.map strV) ∧ Below w.heap.size w w' := by
  have h0 := H.c0
  rcases H.have' with ⟨rfl, hLL⟩ | ⟨bm, N, D, rfl, h1, h2, h3, h4, h5⟩
  · have HL := Lib.hid hLL
    clear H hL hLL
    refine (callsIn_wide (n := 6)).1 ?_
    have hfK : Fence.wide.fn 26 := trivial
    have hfS : Fence.wide.fn 25 := trivial
    refine callsIn_of_wp Tryz.func14 rfl trivial ?_ rfl
    simp only [Tryz.ntmps14, List.size_toArray, List.length_cons, List.length_nil, Nat.reduceAdd, Nat.reduceSub, Array.replicate_succ, Array.replicate_zero, List.push_toArray, List.append_toArray, List.nil_append, List.cons_append]
    gi_wp2_with (first
      | (gi_at_call 26; refine (maps_Keys_26 _ _).mono ?_; rintro e w' ⟨rfl, rfl⟩)
      | (gi_at_call 25; refine (slices_Sorted_keys_nil_25_26 w).mono ?_; rintro e w' ⟨v, ss, rfl, hS, hrow, hnil, hb⟩))
    go_ret
    subst hS
    refine ⟨v, [], rfl, ⟨List.nodup_nil, fun x => by rw [HL.out]; simp [haveM], List.Pairwise.nil⟩, ?_, ((Below.refl _ w).alloc (Nat.le_refl _) _).trans (hb.mono (by simp))⟩
    rw [hnil.2 rfl]
    exact ⟨rfl, Or.inl ⟨rfl, rfl⟩⟩
  · obtain ⟨hk1, hk2⟩ := keys_mem h4
    have hmem : ∀ x, x ∈ strKeys D ↔ haveM L x ≠ 0 := fun x => (hk2 x).trans (have_has h4.isMap h5 x)
    have hsz := h4.size_le
    have HX := Lib.hid hmem
    clear H h5 hmem hk2
    refine (callsIn_wide (n := 6)).1 ?_
    have hfK : Fence.wide.fn 26 := trivial
    have hfS : Fence.wide.fn 25 := trivial
    refine callsIn_of_wp Tryz.func14 rfl trivial ?_ rfl
    simp only [Tryz.ntmps14, List.size_toArray, List.length_cons, List.length_nil, Nat.reduceAdd, Nat.reduceSub, Array.replicate_succ, Array.replicate_zero, List.push_toArray, List.append_toArray, List.nil_append, List.cons_append]
    gi_wp2_with (first
      | (gi_at_call 26; refine (maps_Keys_26 _ _).mono ?_; rintro e w' ⟨rfl, rfl⟩)
      | (gi_at_call 25; refine (slices_Sorted_keys_25_26 bm N D _ w h4 (by unfold maxLen; omega) (by omega)).mono ?_; rintro e w' ⟨v, ss, rfl, hS, hrow, hnil, hb⟩))
    go_ret
    have hl : (ss.mergeSort (fun x y => decide (x ≤ y))).length = ss.length := List.length_mergeSort ss
    exact ⟨v, _, rfl, names_of hS hk1 HX.out, by rw [hl]; exact ownsRow_base_a hrow (by simp), ((Below.refl _ w).alloc (Nat.le_refl _) _).trans (hb.mono (by simp))⟩
set_option maxRecDepth 100000 in
set_option maxHeartbeats 2000000 in
theorem depJournal_any {base bd : Nat} {mv jv : Value} {L : List MoveD} {w : World} (hL : L.length ≤ 500) (H : DepAt base bd mv jv L w) :
    Calls Tryz.prog 16 #[.pointer (some ⟨bd, 0, none⟩)] w fun e w' => ∃ v, e = .returned v ∧ w'.ownsRow w.heap.size 5 1 v (journalM L).length ((journalM L).map fun b => Value.int .u8 (b.toNat : Int)) ∧ Below w.heap.size w w' := by
  have h1 := H.c1
  have hjl : (journalM L).length ≤ 100 * L.length := by have h := journal_len H.ok (by omega) L.length (Nat.le_refl _); rw [List.take_length] at h; exact h
  have hrow := H.jour
  rcases hrow.2 with ⟨rfl, hn⟩ | ⟨g, cap, cur, rfl, hg, hh, r1, r2, r3, r4⟩
  · have hj : journalM L = [] := List.length_eq_zero_iff.1 hn
    rw [hj]
    have HC := Lib.hid (Any.bytes_Clone_nil cloneL 0 0 w)
    clear H hrow hj hn
    go_enter Tryz.func16, Tryz.ntmps16
    go_wp2_with (refine HC.out.mono ?_; rintro e w1 ⟨rfl, rfl⟩)
    go_ret
    exact ⟨_, rfl, ⟨rfl, Or.inl ⟨rfl, rfl⟩⟩, Below.refl _ _⟩
  · have HC := Lib.hid (Any.bytes_Clone_at cloneL ⟨g, 0, none⟩ (journalM L).length cap ((journalM L).map fun b => (b.toNat : Int)) w (by simp) (by omega) (fun i hi => by
      have hc2 : w.cell? ((⟨g, 0, none⟩ : Addr).add i) = cur[i]? := by rcases i with _ | i <;> simp [World.cell?, hh, Addr.add]
      rw [hc2, ← Array.getElem?_toList]
      have e : cur.toList[i]? = (cur.toList.take ((journalM L).length * 1))[i]? := by rw [List.getElem?_take, if_pos (by omega)]
      rw [e, r4]
      simp [List.getD, hi]))
    clear H hrow hh r1 r2 r3 r4
    go_enter Tryz.func16, Tryz.ntmps16
    go_wp2_with (refine HC.out.mono ?_; rintro e w1 ⟨v, rfl, hv, _, hb⟩)
    go_ret
    have hv2 : w1.ownsRow w.heap.size 5 1 v (journalM L).length (((journalM L).map fun b => (b.toNat : Int)).map (Value.int .u8)) := hv
    exact ⟨v, rfl, by simpa [List.map_map, Function.comp_def] using hv2, hb⟩
end Go.Proofs.YtannijeiecmjpaaGreatDoor
