/- Rows of numbers by a function; a row is made at a step of a region that draws its order. -/
import Derived.Test.YtannijeiecmjpaaGreatDoorRow
namespace Go.Proofs.YtannijeiecmjpaaGreatDoor
open Go.RowKit

def tabN (n : Nat) (f : Nat → Int) : List Int := (List.range n).map f
theorem tabN_len (n : Nat) (f : Nat → Int) : (tabN n f).length = n := by simp [tabN]
theorem tabN_get {n : Nat} {f : Nat → Int} {j : Nat} (h : j < (tabN n f).length) : (tabN n f)[j] = f j := by simp [tabN]
theorem tabN_congr {n : Nat} {f g : Nat → Int} (h : ∀ t, t < n → f t = g t) : tabN n f = tabN n g := by
  unfold tabN
  exact List.map_congr_left fun t ht => h t (List.mem_range.1 ht)
theorem tabN_set (n : Nat) (f : Nat → Int) (j : Nat) (v : Int) : (tabN n f).set j v = tabN n (fun t => if t = j then v else f t) := by
  refine List.ext_getElem (by simp [tabN]) fun t h1 h2 => ?_
  rw [List.getElem_set]
  simp only [tabN, List.getElem_map, List.getElem_range]
  by_cases h : j = t
  · rw [if_pos h, if_pos h.symm]
  · rw [if_neg h, if_neg (fun h2 => h h2.symm)]
theorem tabN_same (n : Nat) (v : Int) : List.replicate n v = tabN n (fun _ => v) := by
  refine List.ext_getElem (by simp [tabN]) fun t h1 h2 => by simp [tabN]
theorem tabN_at {w : World} {base e g n cap : Nat} {f : Nat → Int} (h : w.ownsRow base e 1 (.slice (some ⟨g, 0, none⟩) n cap) n ((tabN n f).map (Value.int .i64))) {j : Nat} (hj : j < n) : w.cell? ⟨g, j, none⟩ = some (.int .i64 (f j)) := by
  rw [owns_get h j hj (by rw [tabN_len]; exact hj), tabN_get]
theorem tabN_put {w : World} {base e g n cap : Nat} {f f' : Nat → Int} (h : w.ownsRow base e 1 (.slice (some ⟨g, 0, none⟩) n cap) n ((tabN n f).map (Value.int .i64))) (j : Nat) (v : Int) (he : ∀ t, t < n → (if t = j then v else f t) = f' t) :
    (w.setCell ⟨g, j, none⟩ (.int .i64 v)).ownsRow base e 1 (.slice (some ⟨g, 0, none⟩) n cap) n ((tabN n f').map (Value.int .i64)) := by
  have h1 := owns_set h j v
  rw [tabN_set, tabN_congr he] at h1
  exact h1
/-- 'make([]T, n)' at a step of a region that draws its order. -/
theorem step_make {P : Program} {w : World} {ops : Array Oper} {o : Oper} {a : Act} {K : Act → World → Prop} {Q : Exit → Act → World → Prop} {E : Prop} {t e : TypeId} {z : Value} {size bytes : Nat} (R : RowOf P t e z size bytes) (hgd : o.guard = none) (l c : Operand)
    (hop : o.op = Op.makeSlice t l c) (base : Nat) (kl kc : IntKind) (L C : Int) (n : Nat) (hl : a.eval l = .int kl L) (hc : a.eval c = .int kc C) (hL : L = (n : Int)) (hC : C = (n : Int))
    (b2 : bytes * n ≤ 281474976710656) (b3 : n ≤ maxLen) (b4 : base ≤ w.heap.size)
    (h : ∀ w', w'.ownsRow base e size (.slice (some ⟨w.heap.size, 0, none⟩) n n) n (madeCells z.cells (n * size)).toList → w.grownBy w' none → K (a.put o.dst (.slice (some ⟨w.heap.size, 0, none⟩) n n)) w') :
    if Region.wanted o (yielded ops a.tmps) = true then Oper.wp P o a w K Q else E := by
  have hw : Region.wanted o (yielded ops a.tmps) = true := by simp [Region.wanted, hgd]
  rw [if_pos hw]
  obtain ⟨i, ht, hi, hz, hsize, hby, hzs, hsz⟩ := R
  obtain ⟨w', hrun, r1, r2⟩ := run_make_full (P := P) w base t e i z size ht hi hz hsize kl kc n (by rw [hby]; exact b2) b3 b4
  subst hL
  subst hC
  unfold Oper.wp
  simp [execOp, hop, hl, hc, hrun, Result.andThen]
  exact h w' r1 r2
/-- 'make([]T, n)' as an equation: what is laid has a name. To be laid ahead of a region that draws its order. -/
theorem made_row {P : Program} {t e : TypeId} {z : Value} {bytes : Nat} (R : RowOf P t e z 1 bytes) (n : Nat) (L : Int) (hL : L = (n : Int)) (b2 : bytes * n ≤ 281474976710656) (b3 : n ≤ maxLen) :
    ∃ Z : Array Value, (∀ w, (Instr.makeSlice t (.int .i64 L) (.int .i64 L)).run P w = .ok (.slice (some ⟨w.heap.size, 0, none⟩) n n) (w.alloc (.cells Z e))) ∧
      ∀ (w : World) (base : Nat), base ≤ w.heap.size → (w.alloc (.cells Z e)).ownsRow base e 1 (.slice (some ⟨w.heap.size, 0, none⟩) n n) n (madeCells z.cells (n * 1)).toList := by
  obtain ⟨i, ht, hi, hz, hsize, hby, hzs, hsz⟩ := R
  subst hL
  have h63 : (n : Int) ≤ 9223372036854775807 := by
    have h := b3
    simp [maxLen] at h
    omega
  have hb : (i.bytes : Int) * (n : Int) ≤ 281474976710656 := by
    have h : ((i.bytes * n : Nat) : Int) ≤ 281474976710656 := by rw [hby]; omega
    rwa [Int.natCast_mul] at h
  refine ⟨madeCells z.cells (n * 1), fun w => ?_, fun w base hbase => ?_⟩
  · have hr := run_make (P := P) w t e i z ht hi hz .i64 .i64 n n (by omega) (Int.le_refl _) hb h63
    simp only [Int.toNat_natCast, hsize] at hr
    exact hr
  · exact World.ownsRow_lit w _ n hbase b3 (by rw [size_madeCells])
end Go.Proofs.YtannijeiecmjpaaGreatDoor
