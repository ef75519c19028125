/- The program's depot in memory: the map of what is there, the journal, the number of moves. -/
import Derived.Test.YtannijeiecmjpaaGreatDoorRows
import Derived.Test.YtannijeiecmjpaaGreatDoorRefD
import Derived.Maps.OwnSet
import Derived.Lib.AppendStr
namespace Go.Proofs.YtannijeiecmjpaaGreatDoor
open Go.RowKit Go.WideMaps Go.Maps

theorem keyS : Keyed Tryz.prog 9 := string_keyed Tryz.underlying9
theorem zeroN (w : World) : (zeroValue 3).run Tryz.prog w = .ok (.int .i64 0) w := by kernel_rfl
theorem key_of (s : Byt) (h : s.length ≤ 9223372036854775807) : keyOf Tryz.prog 9 (strV s) = some (.string s) :=
  keyOf_string_mk (s := ⟨s.toArray⟩) Tryz.underlying9 (by unfold maxLen; simp [ByteArray.size]; omega)
/-- The map holds what is there. -/
def HaveOf (D : DataW Unit) (L : List MoveD) : Prop := ∀ (s : Byt) (zd : DataW Unit), D.atKey (.string s) zd = if haveM L s ≠ 0 then .lit (.int .i64 (haveM L s)) else zd
/-- The map value mv holds what is there of L. -/
def HaveAt (w : World) (base bd : Nat) (mv : Value) (L : List MoveD) : Prop :=
  (mv = .map none ∧ L = []) ∨ ∃ (bm N : Nat) (D : DataW Unit), mv = .map (some bm) ∧ base ≤ bm ∧ bm ≠ bd ∧ N ≤ L.length ∧ w.ownsMap Tryz.prog 9 (plainElem Tryz.prog 3) bm N D ∧ HaveOf D L
theorem look_have {w : World} {base bd : Nat} {mv : Value} {L : List MoveD} (h : HaveAt w base bd mv L) (s : Byt) (hs : s.length ≤ 9223372036854775807) : (Instr.lookup 24 mv (strV s) false).run Tryz.prog w = .ok (.int .i64 (haveM L s)) w := by
  rcases h with ⟨rfl, rfl⟩ | ⟨bm, N, D, rfl, _, _, _, h1, h2⟩
  · exact look_nil (P := Tryz.prog) (w := w) false keyS Tryz.underlying24 (zeroN w) (key_of s hs)
  · obtain ⟨c, hrun, hat, _⟩ := h1.lookup_int keyS Tryz.underlying24 Tryz.underlying3 (zeroN w) (key_of s hs)
    rw [hrun]
    have e := h2 s (.lit (.int .i64 0))
    rw [hat] at e
    by_cases hz : haveM L s = 0
    · rw [if_neg (by simpa using hz)] at e
      have e2 : c = 0 := (Lit.int.inj (DataW.lit.inj e)).2
      rw [e2, hz]
    · rw [if_pos hz] at e
      have e2 : c = haveM L s := (Lit.int.inj (DataW.lit.inj e)).2
      rw [e2]
/-- The program's depot lies at bd. -/
structure DepAt (base bd : Nat) (mv jv : Value) (L : List MoveD) (w : World) : Prop where
  c0 : w.cell? ⟨bd, 0, none⟩ = some mv
  c1 : w.cell? ⟨bd, 1, none⟩ = some jv
  c2 : w.cell? ⟨bd, 2, none⟩ = some (.int .i64 L.length)
  free : ∀ i, w.frozen? ⟨bd, i, none⟩ = false
  have' : HaveAt w base bd mv L
  jour : w.ownsRow base 5 1 jv (journalM L).length ((journalM L).map fun b => Value.int .u8 (b.toNat : Int))
  ok : MovesOk L
  far : ∀ b, jv.ownBlock = some b → b ≠ bd ∧ mv ≠ .map (some b)
/-- The blocks of it. -/
def depBlocks (bd : Nat) (mv jv : Value) (k : Nat) : Prop := k = bd ∨ mv = .map (some k) ∨ jv.ownBlock = some k
theorem HaveAt.frs {w w' : World} {base bd : Nat} {mv : Value} {L : List MoveD} {S : Nat → Prop} (h : HaveAt w base bd mv L) (hf : FrS S w w') (hS : ∀ k, mv = .map (some k) → ¬ S k) : HaveAt w' base bd mv L := by
  rcases h with h | ⟨bm, N, D, rfl, h1, h2, h3, ⟨es, clock, h4, r⟩, h5⟩
  · exact Or.inl h
  · exact Or.inr ⟨bm, N, D, rfl, h1, h2, h3, ⟨es, clock, (hf.block bm (Array.getElem?_eq_some_iff.1 h4).1 (hS bm rfl)).trans h4, r⟩, h5⟩
theorem DepAt.frs {base bd : Nat} {mv jv : Value} {L : List MoveD} {w w' : World} {S : Nat → Prop} (h : DepAt base bd mv jv L w) (hf : FrS S w w') (hS : ∀ k, depBlocks bd mv jv k → ¬ S k) : DepAt base bd mv jv L w' :=
  ⟨cell_frs h.c0 hf (hS bd (Or.inl rfl)), cell_frs h.c1 hf (hS bd (Or.inl rfl)), cell_frs h.c2 hf (hS bd (Or.inl rfl)), fun i => frozen_frs (h.free i) (show bd < w.heap.size from lt_of_cell h.c0) hf (hS bd (Or.inl rfl)), h.have'.frs hf (fun k hk => hS k (Or.inr (Or.inl hk))), own_frs h.jour hf (fun b hb => hS b (Or.inr (Or.inr hb))), h.ok, h.far⟩
theorem DepAt.at {base bd : Nat} {mv jv : Value} {L : List MoveD} {w w' : World} (h : DepAt base bd mv jv L w) (hb : Below w.heap.size w w') : DepAt base bd mv jv L w' :=
  h.frs (S := fun _ => False) (FrS.of_below hb) (fun _ _ h => h)
theorem depMoves_any {base bd : Nat} {mv jv : Value} {L : List MoveD} {w : World} (H : DepAt base bd mv jv L w) :
    Calls Tryz.prog 8 #[.pointer (some ⟨bd, 0, none⟩)] w fun e w' => e = .returned (.int .i64 L.length) ∧ w' = w := by
  have h2 := H.c2
  clear H
  go_enter Tryz.func8, Tryz.ntmps8
  go_wp2
  go_ret
  exact ⟨rfl, rfl⟩
theorem depHave_any {base bd : Nat} {mv jv : Value} {L : List MoveD} (s : Byt) {w : World} (hs : s.length ≤ 9223372036854775807) (H : DepAt base bd mv jv L w) :
    Calls Tryz.prog 9 #[.pointer (some ⟨bd, 0, none⟩), strV s] w fun e w' => e = .returned (.int .i64 (haveM L s)) ∧ w' = w := by
  have h0 := H.c0
  have hk := look_have H.have' s hs
  clear H
  generalize haveM L s = q at *
  go_enter Tryz.func9, Tryz.ntmps9
  go_wp2
  go_ret
  exact ⟨rfl, rfl⟩
end Go.Proofs.YtannijeiecmjpaaGreatDoor
