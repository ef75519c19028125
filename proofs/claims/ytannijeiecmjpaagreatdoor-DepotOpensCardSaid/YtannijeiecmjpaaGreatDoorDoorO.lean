/- The door of DepotOpens: bytes that came in; from the condition on the seven listed variables, and the world's shape, to what the library's functions ask; a world that meets the condition. -/
import Derived.Test.YtannijeiecmjpaaGreatDoorDoorZ
import Derived.Test.YtannijeiecmjpaaGreatDoorOpenC
import Derived.HandedShaped
import Derived.MakeChecks
import Derived.Lib.LaidU8
import Derived.Shelf.Vars
namespace Go.Proofs.YtannijeiecmjpaaGreatDoor
open Go.ChangeShapes Go.WideShapes Go.Deep Go.RowKit

section
variable {H : Type} {enc : TypeId × Value → H} {P : Program}
/-- A slice of bytes that came in. -/
theorem open_bytes {w : World} {base : Nat} {spare : Nat → Bool} {held : Bool} {r : Reach} {b0 : Nat} {t e : TypeId} {v : Value} {d : DataW H} {p : List MemPlace}
    (ht : P.underlying t = some (.slice e)) (he : P.underlying e = some (.int .u8)) (hC : P.cellsOf e = 1)
    (hval : Value.okWide P w r b0 t v) (hd : DataW.Trod enc P w base spare held t v d p) :
    ∃ (a : Option Addr) (cap : Nat) (xs : Byt), v = .slice a xs.length cap ∧ xs.length ≤ cap ∧ cap ≤ maxLen ∧ Elems encY 1 w a xs ∧ (a = none → cap = 0) := by
  obtain ⟨a0, len, cap, rfl⟩ := okWide_slice ht hval
  obtain ⟨fuel, hf⟩ := hd
  rcases open_slice1 ht hC hf with ⟨hcs, hx⟩ | ⟨a, len', cap', m, n, V, D, Pl, hcs, hb, hl, hm, hmm, hx, hi⟩
  · simp [Value.cells] at hcs
    obtain ⟨rfl, rfl, rfl⟩ := hcs
    exact ⟨none, 0, [], rfl, by simp, by simp [maxLen], Or.inl rfl, fun _ => rfl⟩
  · simp [Value.cells] at hcs
    obtain ⟨rfl, rfl, rfl⟩ := hcs
    have hlm : len ≤ m := by rw [hmm]; split <;> omega
    have key : ∀ i, ∃ x : UInt8, i < len → w.cell? (a.add i) = some (.int .u8 (x.toNat : Int)) := by
      intro i
      by_cases hil : i < len
      · obtain ⟨hc, ht'⟩ := hi i (by omega)
        obtain ⟨z, hz, _, hw⟩ := DataW.trod_int he ht'
        simp only [List.cons.injEq, and_true] at hz
        have hz2 : 0 ≤ z ∧ z ≤ 255 := by simpa [Lit.wf, IntKind.min, IntKind.max, IntKind.signed, IntKind.bits] using hw
        refine ⟨UInt8.ofNat z.toNat, fun _ => ?_⟩
        rw [hc, hz]
        have h3 : (UInt8.ofNat z.toNat).toNat = z.toNat := by simp; omega
        rw [h3]
        congr 2
        omega
      · exact ⟨0, fun h => absurd h hil⟩
    obtain ⟨g, hg⟩ := Classical.axiomOfChoice key
    refine ⟨some a, cap, (List.range len).map g, by simp, by simp; omega, hm, ?_, fun h => by cases h⟩
    by_cases hl0 : len = 0
    · subst hl0; exact Or.inl rfl
    · have hsp : a.spot = none := by
        have h := hg 0 (by omega)
        simp only [Addr.add, if_true] at h
        unfold World.cell? at h
        split at h
        · split at h
          · cases h
          · rename_i h'; simpa using h'
        · cases h
      refine Or.inr ⟨a.block, a.off, by cases a; simp at hsp; simp [hsp], fun j hj i u hu => ?_⟩
      have hjl : j < len := by simpa using hj
      have hadd : ∀ q, a.add q = ⟨a.block, a.off + q, none⟩ := by
        intro q
        unfold Addr.add
        split
        · rename_i hq; subst hq; cases a; simp at hsp; simp [hsp]
        · simp
      have c0 := hg j hjl
      simp only [List.getElem_map, List.getElem_range] at hu
      rw [hadd] at c0
      match i, hu with
      | 0, hu => simp [encY] at hu; subst hu; simpa using c0
      | i + 1, hu => simp [encY] at hu
/-- A listed error's cell. -/
theorem sentinel_cell {W : World} {n name : String} {g : Nat} {ti : TypeId} {ms : Array (String × TypeId)} {d : DataW Unit} (hg : P.globalNamed n = some g) (hty : (P.globals[g]?).map (·.type) = some ti) (hi : P.underlying ti = some (.interface ms)) (h : Lib.VarReads P W n (.iface name d)) : ∃ u v, W.cell? ⟨g, 0, none⟩ = some (.iface u v) := by
  obtain ⟨g', t', cs, fuel, p, h1, h2, h3, h4⟩ := h
  obtain rfl := Option.some.inj (hg.symm.trans h1)
  obtain rfl := Option.some.inj (hty.symm.trans h2)
  obtain ⟨_, u, v, e, _, _⟩ := iface_of_trod hi h4
  have h5 := World.var?_cell hg h3 0
  have h6 : cs[0]? = some (.iface u v) := by rw [← Array.getElem?_toList, e]; rfl
  exact ⟨u, v, by simpa [h6] using h5⟩
end
/-- The listed variables of DepotOpens. -/
def laidO : List (String × DataW Unit) := [("math/bits.deBruijn32tab", Rows.laid_math_bits_deBruijn32tab), ("math/bits.deBruijn64tab", Rows.laid_math_bits_deBruijn64tab), ("internal/strconv.uint64pow10", Rows.laid_internal_strconv_uint64pow10), ("unicode/utf8.acceptRanges", Rows.laid_unicode_utf8_acceptRanges), ("strconv.ErrRange", Rows.laid_strconv_ErrRange), ("strconv.ErrSyntax", Rows.laid_strconv_ErrSyntax), ("unicode/utf8.first", Rows.laid_unicode_utf8_first)]
theorem opW_of_laid {W : World} (h : laidMetH Tryz.prog laidO W) (hsh : W.ShapedOpen Tryz.prog) : OpW W := by
  rw [MakeChecks.laidMetH_plain _ _ _ (by kernel_rfl)] at h
  have h1 := laidMet.tail (laidMet.tail h)
  rw [pow_data] at h1
  obtain ⟨u3, v3, k3⟩ := sentinel_cell (P := Tryz.prog) (n := "strconv.ErrRange") (g := 3) (ti := 33) (by kernel_rfl) (by kernel_rfl) Tryz.underlying33 (Lib.laidMet.reads h (n := "strconv.ErrRange") (d := Rows.laid_strconv_ErrRange) (by simp [laidO]))
  obtain ⟨u2, v2, k2⟩ := sentinel_cell (P := Tryz.prog) (n := "strconv.ErrSyntax") (g := 2) (ti := 33) (by kernel_rfl) (by kernel_rfl) Tryz.underlying33 (Lib.laidMet.reads h (n := "strconv.ErrSyntax") (d := Rows.laid_strconv_ErrSyntax) (by simp [laidO]))
  exact ⟨Lib.tabIs_of_head powG (t := 184) (by kernel_rfl) Tryz.underlying184 Tryz.underlying136 (by kernel_rfl) (by kernel_rfl) h1,
    cell_of_shapedOpen_int (P := Tryz.prog) (g := 1) (t := 3) (zero := #[.int .i64 0]) hsh (of_decide_eq_true (by kernel_rfl)) (by kernel_rfl) rfl (by kernel_rfl) (by kernel_rfl) Tryz.underlying3,
    ⟨_, k2, Or.inr ⟨_, _, rfl⟩⟩, ⟨_, k3, Or.inr ⟨_, _, rfl⟩⟩⟩
noncomputable def laidWorldO (os : Os) : World := World.laidAll Tryz.prog os laidO
theorem laidWorldO_os (os : Os) : (laidWorldO os).os = os := World.laidAll_os _ _ _
theorem laidWorldO_met (os : Os) (args : Array Value) : laidMetH Tryz.prog laidO ((laidWorldO os).forCall (fun _ _ => 0) ⟨#[], args, []⟩).memory := by
  rw [MakeChecks.laidMetH_plain _ _ _ (by kernel_rfl)]
  exact laidMet_laidAll _ (by kernel_rfl) (by kernel_rfl)
end Go.Proofs.YtannijeiecmjpaaGreatDoor
