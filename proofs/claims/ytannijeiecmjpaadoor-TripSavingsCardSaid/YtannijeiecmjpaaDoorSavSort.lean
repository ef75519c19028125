/- slices.SortFunc on a row of savings of the call's own: the row holds them in their order. -/
import Derived.Test.YtannijeiecmjpaaDoorSortLay
import Derived.Test.YtannijeiecmjpaaDoorSavC
namespace Go.Proofs.YtannijeiecmjpaaDoor
open Go.RowKit Go.Sort Go.Lib Go.Shelf

theorem flat3_at (D : List R3) (t : Nat) (h : t < D.length * 3) : (D.flatMap enc3)[t]? = some ((flatK enc3 3 D.toArray)[t]!) := by
  have h1 : t / 3 < D.length := by omega
  have h2 : t % 3 < 3 := by omega
  rw [get_flatK enc3 3 D.toArray t (by simpa using h)]
  have e : D.toArray[t / 3]! = D[t / 3] := by simp [h1]
  rw [e]
  have hu : ∃ u, (enc3 D[t / 3])[t % 3]? = some u := by
    rcases (by omega : t % 3 = 0 ∨ t % 3 = 1 ∨ t % 3 = 2) with e | e | e <;> (rw [e]; exact ⟨_, rfl⟩)
  obtain ⟨u, hu⟩ := hu
  have h3 := flat_get enc3 3 (fun _ => rfl) D (t / 3) h1 (t % 3) u hu
  rw [show t / 3 * 3 + t % 3 = t by omega] at h3
  rw [h3]
  congr 1
  rw [List.getElem!_eq_getElem?_getD, hu]
  rfl
theorem sorted_own {w : World} {base g cap n : Nat} {l D : List R3} {e : TypeId} (h : w.ownsRow base e 3 (.slice (some ⟨g, 0, none⟩) n cap) n (l.flatMap enc3)) (hD : D.length = n) (m : Nat) (os : Array Obj) :
    (sortWorldK enc3 3 w g 0 m D.toArray os).ownsRow base e 3 (.slice (some ⟨g, 0, none⟩) n cap) n (D.flatMap enc3) ∧ w.grownBy (sortWorldK enc3 3 w g 0 m D.toArray os) (some g) := by
  have hgl := (h.lt g rfl).2
  have hfl : (D.flatMap enc3).length = D.length * 3 := by
    clear h hD
    induction D with
    | nil => rfl
    | cons a l ih => simp [enc3] at ih ⊢; omega
  constructor
  · refine ⟨by rw [hfl, hD], ?_⟩
    rcases h.2 with ⟨h1, _⟩ | ⟨g', cap', cur, h1, h2, h3, h4, h5, h6, h7⟩
    · cases h1
    · obtain ⟨e1, _, e3⟩ := Value.slice.inj h1
      have hgg : g = g' := by simpa using e1
      subst hgg
      subst e3
      refine Or.inr ⟨g, cap, putCells id 0 (flatK enc3 3 D.toArray) cur, rfl, h2, ?_, h4, h5, by simp [putCells, h6], ?_⟩
      · show ((w.heap.modify g (onCells (putCells id 0 (flatK enc3 3 D.toArray)))) ++ os)[g]? = _
        rw [Array.getElem?_append_left (by simpa using hgl), Array.getElem?_modify, if_pos rfl, h3]
        rfl
      · refine List.ext_getElem? fun t => ?_
        rw [List.getElem?_take]
        by_cases ht : t < n * 3
        · rw [if_pos ht, flat3_at D t (by omega)]
          have htc : t < cur.size := by have := Nat.mul_le_mul_right 3 h4; omega
          have : t < (flatK enc3 3 D.toArray).size := by simp; omega
          simp [putCells, htc]
          omega
        · rw [if_neg ht, List.getElem?_eq_none (by omega)]
  · refine ⟨rfl, rfl, rfl, by simp [sortWorldK, grow, putRowK, putRow, mapBlock], fun k hk hne => ?_⟩
    show ((w.heap.modify g (onCells (putCells id 0 (flatK enc3 3 D.toArray)))) ++ os)[k]? = _
    rw [Array.getElem?_append_left (by simpa using hk), Array.getElem?_modify, if_neg (fun h => hne (by rw [h]))]
theorem ltOf_sv (x y : R3) : ltOf cfSv x y = ltSv x y := cfSv_lt x y
theorem swo_sv : SWO (ltOf cfSv) where
  irrefl x := by rw [ltOf_sv, ltSv_not]; omega
  trans x y z h1 h2 := by rw [ltOf_sv, ltSv_iff] at *; omega
  ntrans x y z h1 h2 := by rw [ltOf_sv, ltSv_not] at *; omega
theorem eg_sav1 : ∀ args w, (callFunc 51 args).run Tryd.prog w = .ok (.enter 51 args) w := fun args w => by kernel_rfl
theorem alloc3_grow (W : World) (a b c : Obj) : ∃ os', ((((W.alloc a).alloc b).alloc c).drew) = grow (W.drewN 1) os' := by
  refine ⟨#[a] ++ #[b] ++ #[c], ?_⟩
  rw [alloc_eq_grow, alloc_eq_grow, alloc_eq_grow, grow_grow, grow_grow]
  rfl
theorem lays_sv (blk off size : Nat) (w : World) : CmpLays Tryd.prog 51 #[] enc3 3 cfSv blk off size w := fun m os dk _ x y =>
  (sav1_any x y _).mono fun e w' ⟨he, hw⟩ => by
    obtain ⟨os', h⟩ := alloc3_grow (sortWorldK enc3 3 w blk off m dk os) (.cells #[.int .i64 x.1, .int .i64 x.2.1, .int .i64 x.2.2] 116) (.cells #[.int .i64 y.1, .int .i64 y.2.1, .int .i64 y.2.2] 116) (.cells #[.int .i64 (cmpI y.1 x.1), .int .i64 (cmpI x.2.1 y.2.1), .int .i64 (cmpI x.2.2 y.2.2)] 3)
    exact ⟨he, 1, os', hw.trans h⟩
set_option maxHeartbeats 1000000 in
theorem savSort_any {w : World} {base g cap : Nat} {l : List R3} (h : w.ownsRow base 116 3 (.slice (some ⟨g, 0, none⟩) l.length cap) l.length (l.flatMap enc3)) (hl : l.Pairwise lexS) (hn : l.length ≤ 1000) :
    Calls Tryd.prog 50 #[.slice (some ⟨g, 0, none⟩) l.length cap, .func (.func 51) #[] #[]] w fun e w' => e = .returned (.tuple #[]) ∧
      ∃ D : List R3, D.Perm l ∧ D.Pairwise (fun x y => ltSv x y = true) ∧ w'.ownsRow base 116 3 (.slice (some ⟨g, 0, none⟩) l.length cap) l.length (D.flatMap enc3) ∧ w.grownBy w' (some g) := by
  have hH : HoldsK enc3 3 w g 0 l.toArray := fun j hj => by
    rw [size_flatK] at hj
    have h1 := h.cellAt j (by simpa using hj)
    rw [flat3_at l j (by simpa using hj)] at h1
    rw [Nat.zero_add]
    exact ⟨h1, h.frozenAt j⟩
  have hcon := AnyQ.slices_SortFunc_total sortSv 3 Tryd.isAgg116 Tryd.sizeOf116 enc3 (fun _ => rfl) enc3_one cfSv swo_sv 51 #[] g 0 cap l.toArray w eg_sav1 (lays_sv g 0 _ w) hH (h.lt g rfl).2 (by simp; omega) (fun x y h1 h2 => by rw [ltOf_sv] at h1 h2; exact ltSv_total h1 h2)
  have hs : l.toArray.size = l.length := by simp
  rw [hs] at hcon
  refine Calls.mono hcon ?_
  rintro e w' ⟨rfl, m, os, rfl⟩
  have hp : (l.toArray.toList.mergeSort fun x y => !(ltOf cfSv) y x).Perm l := List.mergeSort_perm _ _
  have hpw := List.pairwise_mergeSort (le := fun x y => !(ltOf cfSv) y x) (fun x y z h1 h2 => by
    simp only [ltOf_sv, Bool.not_eq_true', ltSv_not] at h1 h2 ⊢; omega) (fun x y => by
    simp only [ltOf_sv, Bool.or_eq_true, Bool.not_eq_true', ltSv_not]; omega) l.toArray.toList
  generalize hD : (l.toArray.toList.mergeSort fun x y => !(ltOf cfSv) y x) = D at *
  have hnd : D.Pairwise (fun x y => x ≠ y) := by
    have : l.Pairwise (fun x y => x ≠ y) := hl.imp (fun {x y} h1 h2 => by subst h2; unfold lexS at h1; omega)
    exact (hp.pairwise_iff (fun {x y} h1 => fun h2 => h1 h2.symm)).2 this
  refine ⟨rfl, D, hp, ?_, sorted_own h hp.length_eq m os⟩
  refine (hpw.and hnd).imp (fun {x y} h1 => ?_)
  obtain ⟨h2, h3⟩ := h1
  cases h4 : ltSv x y with
  | true => rfl
  | false =>
    simp only [ltOf_sv, Bool.not_eq_true'] at h2
    exact absurd (ltSv_total h4 h2) h3
end Go.Proofs.YtannijeiecmjpaaDoor
