/- The library's functions that the two Opens call, in this house's words. -/
import Derived.Test.YtannijeiecmjpaaGreatDoorShelfO
import Derived.Test.YtannijeiecmjpaaGreatDoorOpenM
import Derived.Test.YtannijeiecmjpaaGreatDoorRefD
import Derived.Test.YtannijeiecmjpaaGreatDoorSameD
namespace Go.Proofs.YtannijeiecmjpaaGreatDoor
open Go.RowKit Go.Shelf

/-- What the library's functions ask of the world. -/
structure OpW (w : World) : Prop where
  pow : PowAt w
  max : ∃ m, w.cell? ⟨1, 0, none⟩ = some (.int .i64 m)
  syn : ∃ ev, w.cell? ⟨2, 0, none⟩ = some ev ∧ (ev = .nilIface ∨ ∃ te pe, ev = .iface te pe)
  rng : ∃ ev, w.cell? ⟨3, 0, none⟩ = some ev ∧ (ev = .nilIface ∨ ∃ te pe, ev = .iface te pe)
theorem OpW.at {w w' : World} (h : OpW w) (hb : Below w.heap.size w w') : OpW w' := by
  obtain ⟨m, hm⟩ := h.max
  obtain ⟨e2, h2, k2⟩ := h.syn
  obtain ⟨e3, h3, k3⟩ := h.rng
  exact ⟨h.pow.at hb, ⟨m, (hb.cell (lt_of_cell hm)).trans hm⟩, ⟨e2, (hb.cell (lt_of_cell h2)).trans h2, k2⟩, ⟨e3, (hb.cell (lt_of_cell h3)).trans h3, k3⟩⟩
theorem bytesWorld_below (w : World) (t : TypeId) (s : ByteArray) : Below w.heap.size w (Lib.bytesWorld w t s) := by
  unfold Lib.bytesWorld
  have h1 : Below w.heap.size w (w.drew.alloc (.cells (Lib.bytesCells w t s) t)) := (below_drewN w 1 _).alloc (Nat.le_refl _) _
  refine ⟨h1.os, h1.tape, h1.output, by simp [World.freeze], fun k hk => ?_⟩
  rw [← h1.block k hk]
  unfold World.freeze
  rw [if_neg (by omega)]
  exact (Array.getElem?_modify ..).trans (if_neg (by simp only; omega))
theorem atoi_bound {s : Byt} {v : Int} (h : Lib.atoiAll s = .ok v) : -9223372036854775808 ≤ v ∧ v ≤ 9223372036854775807 := by
  cases s with
  | nil => simp [Lib.atoiAll] at h
  | cons c r =>
    simp only [Lib.atoiAll] at h
    split at h
    · cases h
    · cases h
    · rename_i u hu
      split at h
      · cases h
      · rename_i h1
        split at h
        · cases h
        · rename_i h2
          injection h with h
          subst h
          by_cases hn : c.toNat = 45
          · rw [if_pos hn]
            have : ¬ 9223372036854775808 < u := fun h => h2 ⟨hn, h⟩
            omega
          · rw [if_neg hn]
            have : ¬ 9223372036854775808 ≤ u := fun h => h1 ⟨hn, h⟩
            omega
theorem atoi_any (s : Byt) (w : World) (H : OpW w) (hs : s.length ≤ 100000) :
    Calls Tryz.prog 31 #[strV s] w fun e w' => ∃ n ev, e = .returned (.tuple #[.int .i64 n, ev]) ∧ -9223372036854775808 ≤ n ∧ n ≤ 9223372036854775807 ∧ ((ev = .nilIface ∧ Lib.atoiAll s = .ok n) ∨ ((∃ t p, ev = .iface t p) ∧ ∀ v, Lib.atoiAll s ≠ .ok v)) ∧ Below w.heap.size w w' := by
  have hsz : (⟨s.toArray⟩ : ByteArray).size = s.length := by simp [ByteArray.size]
  have hd : (⟨s.toArray⟩ : ByteArray).data.toList = s := rfl
  obtain ⟨e2, h2, k2⟩ := H.syn
  obtain ⟨e3, h3, k3⟩ := H.rng
  cases h : Lib.atoiAll s with
  | ok v =>
    refine (Any.strconv_Atoi_ok atoiL ⟨s.toArray⟩ (by omega) v h w).mono ?_
    rintro e w' ⟨rfl, hw⟩
    refine ⟨v, .nilIface, rfl, (atoi_bound h).1, (atoi_bound h).2, Or.inl ⟨rfl, rfl⟩, ?_⟩
    rcases hw with rfl | ⟨t, rfl⟩
    · exact Below.refl _ _
    · exact bytesWorld_below _ _ _
  | «syntax» =>
    refine (Any.strconv_Atoi_syntax atoiL ⟨s.toArray⟩ (by omega) h e2 w h2 k2).mono ?_
    rintro e w' ⟨N, rfl, _, _, hb⟩
    exact ⟨0, _, rfl, by omega, by omega, Or.inr ⟨⟨_, _, rfl⟩, fun v h => by cases h⟩, hb⟩
  | range =>
    refine (Any.strconv_Atoi_range atoiL ⟨s.toArray⟩ (by omega) h e3 w h3 k3).mono ?_
    rintro e w' ⟨N, rfl, _, _, hb⟩
    have hsat : -9223372036854775808 ≤ Lib.atoiSat s ∧ Lib.atoiSat s ≤ 9223372036854775807 := by unfold Lib.atoiSat; split <;> omega
    exact ⟨_, _, rfl, hsat.1, hsat.2, Or.inr ⟨⟨_, _, rfl⟩, fun v h => by cases h⟩, hb⟩
theorem split_len (sep : Byt) (hsep : sep ≠ []) : ∀ (n : Nat) (s : Byt), s.length < n → (Lib.split s sep).length = Lib.count s sep + 1
  | 0, _, h => absurd h (Nat.not_lt_zero _)
  | n + 1, s, h => by
    by_cases hm : Lib.index s sep = -1
    · unfold Lib.split
      rw [Lib.count_miss hm]
      rfl
    · obtain ⟨i, hi⟩ : ∃ i : Nat, Lib.index s sep = i := ⟨(Lib.index s sep).toNat, by have := Lib.index_ge s sep; omega⟩
      have hd := Lib.drop_shorter hsep (fun e => hm (beq_iff_eq.1 e))
      have hin : (Lib.index s sep).toNat = i := by omega
      rw [hin] at hd
      have ih := split_len sep hsep n (s.drop (i + sep.length)) (by omega)
      unfold Lib.split at ih ⊢
      have h1 : (Lib.index s sep == -1) = false := by rw [hi]; simp
      rw [Lib.count_hit hsep hi, Nat.add_comm 1, Lib.splitK, h1, hi, if_neg (by simp), List.length_cons, Int.toNat_natCast, ih]
theorem split_any (s : Byt) (w : World) (H : OpW w) (hs : s.length ≤ 100000) :
    Calls Tryz.prog 30 #[strV s, .string ⟨#[32]⟩] w fun e w' => ∃ a, e = .returned (.slice a (Lib.split s [32]).length (Lib.split s [32]).length) ∧ Elems encT 1 w' a (Lib.split s [32]) ∧ Below w.heap.size w w' := by
  have hsz : (⟨s.toArray⟩ : ByteArray).size = s.length := by simp [ByteArray.size]
  obtain ⟨m, hm⟩ := H.max
  refine (Any.strings_Split splitL (by kernel_rfl) ⟨s.toArray⟩ ⟨#[32]⟩ m w (by omega) hm (by decide)).mono ?_
  rintro e w' ⟨rfl, rfl⟩
  have hc : Lib.countB ⟨s.toArray⟩ ⟨#[32]⟩ = Lib.count s [32] := rfl
  have hl := split_len [32] (by simp) (s.length + 1) s (by omega)
  have hd := Lib.splitB_data ⟨#[32]⟩ 0 (Lib.count s [32]) ⟨s.toArray⟩
  have hd2 : (Lib.splitB ⟨#[32]⟩ 0 (Lib.count s [32]) ⟨s.toArray⟩).map (·.data.toList) = Lib.split s [32] := hd
  have hv : (Lib.splitB ⟨#[32]⟩ 0 (Lib.count s [32]) ⟨s.toArray⟩).map Value.string = (Lib.split s [32]).map strV := by
    rw [← hd2, List.map_map]
    exact List.map_congr_left (fun x _ => rfl)
  refine ⟨some ⟨w.heap.size, 0, none⟩, by rw [hl, hc], ?_, (Below.refl _ _).alloc (Nat.le_refl _) _⟩
  refine Or.inr ⟨w.heap.size, 0, rfl, fun j hj i u hu => ?_⟩
  rcases i with _ | i
  · simp [encT] at hu
    subst hu
    have h2 : ((Lib.splitB ⟨#[32]⟩ 0 (Lib.countB ⟨s.toArray⟩ ⟨#[32]⟩) ⟨s.toArray⟩).map Value.string)[j]? = some (strV (Lib.split s [32])[j]) := by
      rw [hc, hv]
      simp [hj]
    simpa using h2
  · simp [encT] at hu
theorem sidx_any (s : Byt) (w : World) : Calls Tryz.prog 32 #[strV s, .string ⟨#[10]⟩] w fun e w' => e = .returned (.int .i64 (Lib.indexByte s 10)) ∧ w' = w :=
  Any.strings_Index_one indexL ⟨s.toArray⟩ 10 w
theorem tpre_any (s : Byt) (w : World) : Calls Tryz.prog 54 #[strV s, .string ⟨#[45]⟩] w fun e w' => e = .returned (strV (Lib.trimPrefix s [45])) ∧ w' = w :=
  Any.strings_TrimPrefix prefixL ⟨s.toArray⟩ ⟨#[45]⟩ w
abbrev encY (b : UInt8) : List Value := [.int .u8 (b.toNat : Int)]
theorem idx_any (a : Option Addr) (n c : Nat) (xs : Byt) (w : World) (hl : n = xs.length) (hx : Elems encY 1 w a xs) (h0 : a = none → c = 0) :
    Calls Tryz.prog 29 #[.slice a n c, .int .u8 10] w fun e w' => e = .returned (.int .i64 (Lib.indexByte xs 10)) ∧ w' = w := by
  subst hl
  cases a with
  | none =>
    have hn : xs = [] := by
      rcases hx with h | ⟨b, o, h, _⟩
      · exact h
      · cases h
    rw [hn, h0 rfl]
    exact Any.bytes_IndexByte_nil ibyteL 10 w
  | some ad =>
    have h := Any.bytes_IndexByte_at ibyteL ad xs.length c (xs.map fun b => (b.toNat : Int)) 10 w (by simp) (fun i hi => by
      obtain ⟨b, o, h1, h2⟩ := hx.some hi
      obtain rfl := Option.some.inj h1
      have h3 := h2 i hi 0 _ rfl
      have hadd : (⟨b, o, none⟩ : Addr).add i = ⟨b, o + i, none⟩ := by unfold Addr.add; split <;> simp_all
      rw [hadd]
      simp only [Nat.mul_one, Nat.add_zero] at h3
      rw [h3]
      simp [List.getD, hi])
    have hb : Lib.bytesOf (xs.map fun b => (b.toNat : Int)) = xs := by
      unfold Lib.bytesOf
      rw [List.map_map]
      conv => rhs; rw [← List.map_id xs]
      exact List.map_congr_left (fun b _ => by simp)
    rw [hb] at h
    exact h
end Go.Proofs.YtannijeiecmjpaaGreatDoor
