/- slices.Delete of one element of a row of the call's own. -/
import Derived.Test.YtkfjmmoljhekiaaDoorMooreM
import Derived.Test.YtkfjmmoljhekiaaDoorRow2
import Derived.Deep.RegionLaw
import Derived.Lib.SliceRun
namespace Go.Proofs.YtkfjmmoljhekiaaDoor
open Go.RowKit

theorem zeroInt : ∀ w, (zeroValue 3).run Tryd.prog w = .ok (.int .i64 0) w := fun w => by kernel_rfl
theorem infoInt : (Tryd.prog.info? 3).map (fun i => (i.zero, i.size, i.bytes)) = some (some (.int .i64 0), 1, 8) := by kernel_rfl

set_option maxRecDepth 100000 in
set_option maxHeartbeats 4000000 in
theorem delete_any (g n cap i base : Nat) (E : List Int) (w : World) (hown : w.ownsRow base 3 1 (.slice (some ⟨g, 0, none⟩) n cap) n (E.map (Value.int .i64))) (hi : i < n) (hn : n ≤ 1000) (hcap : n ≤ cap) (hcm : cap ≤ maxLen) :
    Calls Tryd.prog 65 #[.slice (some ⟨g, 0, none⟩) n cap, .int .i64 i, .int .i64 ((i : Int) + 1)] w fun e w' => e = .returned (.slice (some ⟨g, 0, none⟩) (n - 1) cap) ∧ w'.ownsRow base 3 1 (.slice (some ⟨g, 0, none⟩) (n - 1) cap) (n - 1) ((E.eraseIdx i).map (Value.int .i64)) ∧ w.grownBy w' (some g) := by
  unfold maxLen at hcm
  obtain ⟨i0, hi0, hz0, hz1, hz2⟩ := info_parts infoInt
  have hlen := owns_len hown
  have hownd : w.drew.ownsRow base 3 1 (.slice (some ⟨g, 0, none⟩) n cap) n (E.map (Value.int .i64)) := hown
  obtain ⟨news, hnews⟩ : ∃ news, news = (E.drop (i + 1)).map (Value.int .i64) := ⟨_, rfl⟩
  have hnl : news.length = n - (i + 1) := by rw [hnews]; simp [hlen]
  have hcell : ∀ t, t < n → w.drew.cell? ⟨g, t, none⟩ = some (.int .i64 (E.getD t 0)) := fun t ht => by
    rw [owns_get hownd t ht (by omega)]; simp [List.getD, show t < E.length by omega]
  have hfz : ∀ t, t < n → w.drew.frozen? ⟨g, t, none⟩ = false := fun t _ => hownd.frozenAt t
  obtain ⟨A, hA, hsrc⟩ : ∃ A : Addr, (if cap = i + 1 then some (⟨g, 0, none⟩ : Addr) else some ⟨g, i + 1, none⟩) = some A ∧ Hid (∀ t u, news[t]? = some u → w.drew.cell? (A.add t) = some u) := by
    by_cases h : cap = i + 1
    · refine ⟨⟨g, 0, none⟩, by simp [h], fun t u hu => ?_⟩
      have h0 : news.length = 0 := by rw [hnl]; omega
      rw [List.length_eq_zero_iff.1 h0] at hu
      simp at hu
    · refine ⟨⟨g, i + 1, none⟩, by simp [h], fun t u hu => ?_⟩
      have ht : t < n - (i + 1) := by
        have := (List.getElem?_eq_some_iff.1 hu).1
        rwa [hnl] at this
      have hadd : (⟨g, i + 1, none⟩ : Addr).add t = ⟨g, i + 1 + t, none⟩ := by unfold Addr.add; split <;> simp_all
      rw [hadd, hcell _ (by omega), ← hu, hnews, List.getElem?_map, List.getElem?_drop]
      simp [List.getD, show i + 1 + t < E.length by omega]
  have s1 : Hid (news.length = (n - (i + 1)) * 1) := by rw [Nat.mul_one]; exact hnl
  have s2 : Hid (∀ u ∈ news, u.oneCell' = true) := by
    intro u hu
    rw [hnews] at hu
    obtain ⟨x, _, rfl⟩ := List.mem_map.1 hu
    rfl
  have s3 : Hid (∀ t, t < news.length → (w.drew.cell? ⟨g, 0 + i * 1 + t, none⟩).isSome = true ∧ w.drew.frozen? ⟨g, 0 + i * 1 + t, none⟩ = false) := by
    intro t ht
    rw [hnl] at ht
    rw [Nat.mul_one, Nat.zero_add]
    exact ⟨by rw [hcell _ (by omega)]; rfl, hfz _ (by omega)⟩
  obtain ⟨W1, hW1⟩ : ∃ W1, W1 = w.drew.setCells g (0 + i * 1) news := ⟨_, rfl⟩
  have hown1 : W1.ownsRow base 3 1 (.slice (some ⟨g, 0, none⟩) n cap) n ((setAll E i (E.drop (i + 1))).map (Value.int .i64)) := by
    rw [hW1, hnews, Nat.mul_one, Nat.zero_add]
    exact owns_setAll _ _ hownd
  have hcl : ∀ ty, (Builtin.clear_ #[27] ty #[.slice (some ⟨g, i + (n - (i + 1)), none⟩) (n - (i + (n - (i + 1)))) (cap - (i + (n - (i + 1))))]).run Tryd.prog W1 = .ok (.tuple #[]) (W1.setCells g (i + (n - (i + 1))) (List.replicate (n - (i + (n - (i + 1)))) (.int .i64 0))) :=
    fun ty => Lib.run_clear_slice W1 _ _ ty _ Tryd.underlying27 zeroInt rfl rfl g (i + (n - (i + 1))) _ _ (by omega)
      (fun t ht => by rw [owns_get hown1 (i + (n - (i + 1)) + t) (by omega) (by rw [setAll_len]; omega)]; rfl) (fun t _ => hown1.frozenAt _)
  have HW := Lib.hid (show W1 = w.drew.setCells g (0 + i * 1) news ∧ W1.ownsRow base 3 1 (.slice (some ⟨g, 0, none⟩) n cap) n ((setAll E i (E.drop (i + 1))).map (Value.int .i64)) from ⟨hW1, hown1⟩)
  have HE := Lib.hid hlen
  have hic : i ≤ cap := by omega
  have hd : ((i : Int) == (i : Int) + 1) = false := by simp; omega
  have z1 : (0 : Int) ≤ (i : Int) + 1 := by omega
  have z2 : ((i : Int) + 1).toNat = i + 1 := by omega
  have z3 : (i : Int) + 1 ≤ (n : Int) := by omega
  have z4 : i + 1 ≤ cap := by omega
  clear hW1 hown1 hown hownd hnl hnews hcell hfz hlen
  go_enter Tryd.func65, Tryd.ntmps65
  go_wp2_with fail
  go_region_law (refine step_append_room rfl (.tmp 22) (.tmp 25) 27 rfl 3 i0 1 Tryd.underlying27 hi0 hz1 g 0 i cap (by simp [Act.eval, Act.put]) A (n - (i + 1)) (cap - (i + 1)) news (by simp [Act.eval, Act.put]) s1.out hsrc.out s2.out (by omega) s3.out ?_; rw [← HW.out.1])
  go_wp2
  go_ret
  have e1 : i + (n - (i + 1)) = n - 1 := by omega
  have e2 : n - (n - 1) = 1 := by omega
  rw [e1, e2]
  refine ⟨rfl, ?_, ?_⟩
  · have h2 := owns_shrink (owns_setAll [0] (n - 1) HW.out.2) (m := n - 1) (by omega)
    rw [← List.map_take] at h2
    rw [show n - 1 = E.length - 1 by rw [HE.out]] at h2 ⊢
    rw [erase_setAll E i (by rw [HE.out]; exact hi) 0] at h2
    exact h2
  · refine grown_trans (b := W1) ?_ (grown_setCells g _ _ _)
    rw [HW.out.1]
    exact grown_trans (b := w.drew) ⟨rfl, rfl, rfl, Nat.le_refl _, fun _ _ _ => rfl⟩ (grown_setCells g _ _ _)
end Go.Proofs.YtkfjmmoljhekiaaDoor
