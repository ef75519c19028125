/- Jackson's row: line.Jackson and the reference's, by due times; foresightlaw.sorted. -/
import Derived.Test.YtkfjmmoljhekiaaDoorLineSort
import Derived.Test.YtkfjmmoljhekiaaDoorLineTasks
import Derived.Test.YtkfjmmoljhekiaaDoorSame
import Derived.BigQuiet
import Derived.Deep.QuietTactic
namespace Go.Proofs.YtkfjmmoljhekiaaDoor
open Go.RowKit

def lessD (p q : R3) : Int := p.2.2 - q.2.2
theorem ltf_true {f : Int → Int → Int} {x y : Int} : ltf f x y = true ↔ f x y < 0 := by unfold ltf; exact decide_eq_true_iff
theorem ltf_false {f : Int → Int → Int} {x y : Int} : ltf f x y = false ↔ 0 ≤ f x y := by unfold ltf; rw [decide_eq_false_iff_not]; omega
theorem swkD (xs : List R3) : SWk (ltf (fOf lessD xs)) := by
  constructor
  · intro x y h
    rw [ltf_true] at h
    rw [ltf_false]
    unfold fOf lessD at *
    omega
  · intro x y z h
    rw [ltf_true] at h
    rw [ltf_true, ltf_true]
    unfold fOf lessD at *
    omega
theorem task_mem {xs : List R3} (h : tasksCheck xs = 0) {p : R3} (hp : p ∈ xs) : 0 ≤ p.1 ∧ p.1 ≤ 1000000000 ∧ 0 ≤ p.2.1 ∧ p.2.1 ≤ 10000 ∧ 0 ≤ p.2.2 ∧ p.2.2 ≤ 1000000000 := by
  obtain ⟨j, hj, rfl⟩ := List.mem_iff_getElem.1 hp
  exact tasks_ok_task h j hj

theorem jackLess_any (xs : List R3) (hC : tasksCheck xs = 0) : LessOk 60 lessD xs := by
  intro w p q hp hq
  obtain ⟨_, _, _, _, a1, a2⟩ := task_mem hC hp
  obtain ⟨_, _, _, _, b1, b2⟩ := task_mem hC hq
  clear hp hq hC
  go_enter Tryd.func60, Tryd.ntmps60
  go_wp2
  go_ret
  exact ⟨rfl, ((Below.refl _ _).alloc (Nat.le_refl _) _).alloc (by simp) _⟩

theorem eg_jack : ∀ args w, (callFunc 60 args).run Tryd.prog w = .ok (.enter 60 args) w := enter_of Tryd.func60 (by kernel_rfl) rfl
theorem eg_refJack : ∀ args w, (callFunc 62 args).run Tryd.prog w = .ok (.enter 62 args) w := enter_of Tryd.func62 (by kernel_rfl) rfl
theorem eg_refJackson : ∀ args w, (callFunc 44 args).run Tryd.prog w = .ok (.enter 44 args) w := enter_of Tryd.func44 (by kernel_rfl) rfl

set_option maxRecDepth 100000 in
set_option maxHeartbeats 4000000 in
theorem jackson_any (a : Option Addr) (n cap : Nat) (xs : List R3) (w : World) (hl : n = xs.length) (hn : xs.length ≤ 100) (hx : Elems enc3 3 w a xs) :
    Calls Tryd.prog 42 #[.slice a n cap] w fun e w' => ∃ a' n' cap' ys, e = .returned (.tuple #[.slice a' n' cap', errV (tasksCheck xs)]) ∧ n' = List.length ys ∧ Elems encI 1 w' a' ys ∧
      (tasksCheck xs = 0 → Sorted (ltf (fOf lessD xs)) xs.length ys) ∧ (tasksCheck xs ≠ 0 → ys = []) ∧ Below w.heap.size w w' := by
  subst hl
  have hs := sorted_any 60 lessD a _ cap xs w eg_jack (jackLess_any xs) (fun _ => swkD xs) rfl hn hx
  have HS := Lib.hid hs
  clear hs
  go_enter Tryd.func42, Tryd.ntmps42
  go_wp2_with fail
  refine (HS.out).mono ?_
  rintro e w1 ⟨a', n', cap', ys, rfl, h1, h2, h3, h4, h5⟩
  have HH := Lib.hid (show n' = ys.length ∧ Elems encI 1 w1 a' ys ∧ (tasksCheck xs = 0 → Sorted (ltf (fOf lessD xs)) xs.length ys) ∧ (tasksCheck xs ≠ 0 → ys = []) from ⟨h1, h2, h3, h4⟩)
  clear h1 h2 h3 h4
  go_wp2
  go_ret2
  exact ⟨a', n', cap', ys, rfl, HH.out.1, HH.out.2.1, HH.out.2.2.1, HH.out.2.2.2, h5⟩

set_option maxRecDepth 100000 in
set_option maxHeartbeats 4000000 in
theorem refJackFn_any (a : Option Addr) (n cap b2 : Nat) (xs : List R3) (x y : Int) (w : World)
    (hl : n = xs.length) (hx : Elems enc3 3 w a xs) (c2 : w.cell? ⟨b2, 0, none⟩ = some (.slice a n cap)) (x0 : 0 ≤ x) (x1 : x < n) (y0 : 0 ≤ y) (y1 : y < n) (hn : n ≤ 1000) :
    Calls Tryd.prog 62 #[.int .i64 x, .int .i64 y, .pointer (some ⟨b2, 0, none⟩)] w fun e w' => e = .returned (.bool (ltf (fOf lessD xs) y x)) ∧ Below w.heap.size w w' := by
  subst hl
  obtain ⟨i, rfl⟩ := Int.eq_ofNat_of_zero_le x0
  obtain ⟨k, rfl⟩ := Int.eq_ofNat_of_zero_le y0
  have hi : i < xs.length := by omega
  have hk : k < xs.length := by omega
  obtain ⟨b, o, rfl, hc⟩ := hx.some hi
  have p3 := hc i hi 2 _ rfl
  have q3 := hc k hk 2 _ rfl
  have HV : Hid (ltf (fOf lessD xs) k i = decide (xs[k].2.2 < xs[i].2.2)) := Lib.hid (by unfold ltf fOf lessD; rw [xget_nat hi, xget_nat hk]; congr 1; simp; omega)
  clear hc hx
  generalize xs[i].2.2 = p at *
  generalize xs[k].2.2 = q at *
  have hi2 : (i : Int) < (xs.length : Int) := by omega
  have hk2 : (k : Int) < (xs.length : Int) := by omega
  go_enter Tryd.func62, Tryd.ntmps62
  go_wp2
  go_quiet (fail)
  go_wp2
  go_ret
  exact ⟨by rw [HV.out]; rfl, below_drewN _ _ _⟩

/-- What a row of the reference is. -/
def RefOk (gf : Nat) (xs : List R3) (R : List Int → Prop) : Prop := ∀ (w : World) (a : Option Addr) (cap : Nat), Elems enc3 3 w a xs →
  Calls Tryd.prog gf #[.slice a xs.length cap] w fun e w' => ∃ a' n' cap' ys, e = .returned (.slice a' n' cap') ∧ n' = List.length ys ∧ Elems encI 1 w' a' ys ∧ R ys ∧ Below w.heap.size w w'

set_option maxRecDepth 100000 in
set_option maxHeartbeats 4000000 in
theorem refJack_any (xs : List R3) (hn : xs.length ≤ 100) : RefOk 44 xs (Sorted (ltf (fOf lessD xs)) xs.length) := by
  intro w a cap hx
  have habv : AbvOk 62 #[.pointer (some ⟨w.heap.size, 0, none⟩)] (ltf (fOf lessD xs)) xs.length (w.heap.size + 1) (w.alloc (Obj.cells #[.slice a xs.length cap] 57)) := by
    intro w' hw' x y x0 x1 y0 y1
    have hba : Below w.heap.size w (w.alloc (Obj.cells #[.slice a xs.length cap] 57)) := (Below.refl _ _).alloc (Nat.le_refl _) _
    exact refJackFn_any a xs.length cap w.heap.size xs x y w' rfl (hx.below (hba.trans (hw'.mono (by omega))) (Nat.le_refl _)) ((hw'.cell (p := ⟨w.heap.size, 0, none⟩) (show w.heap.size < w.heap.size + 1 by omega)).trans (by simp)) x0 x1 y0 y1 (by omega)
  have hi := insert_any 62 #[.pointer (some ⟨w.heap.size, 0, none⟩)] (ltf (fOf lessD xs)) xs.length (w.alloc (Obj.cells #[.slice a xs.length cap] 57)) eg_refJack (by simpa using habv) (swkD xs) (by omega)
  have HI := Lib.hid hi
  clear hi habv hx
  go_enter Tryd.func44, Tryd.ntmps44
  go_wp2_with fail
  refine (HI.out).mono ?_
  rintro e w1 ⟨a', cap', r, rfl, h1, h2, h3, h4⟩
  have HZ := Lib.hid (show Elems encI 1 w1 a' (tab xs.length r) ∧ Sorted (ltf (fOf lessD xs)) xs.length (tab xs.length r) from ⟨h1, r, rfl, h2, h3⟩)
  clear h1 h2 h3
  go_wp2
  go_ret
  exact ⟨_, _, _, _, rfl, (tab_len _ _).symm, HZ.out.1, HZ.out.2, ((Below.refl _ _).alloc (Nat.le_refl _) _).trans (h4.mono (by simp))⟩

set_option maxRecDepth 100000 in
set_option maxHeartbeats 4000000 in
theorem lawSorted_any (gf : Nat) (a a2 : Option Addr) (n n2 cap cap2 : Nat) (xs : List R3) (zs : List Int) (R : List Int → Prop) (w : World) (eg : ∀ args w, (callFunc gf args).run Tryd.prog w = .ok (.enter gf args) w) (hg : Hnd w)
    (hR : tasksCheck xs = 0 → RefOk gf xs R) (hRl : ∀ ys, R ys → ys.length ≤ 1000) (h0 : tasksCheck xs = 0 → ∀ ys, R ys → zs = ys) (h1 : tasksCheck xs ≠ 0 → zs = []) (hz : zs.length ≤ 1000)
    (hl : n = xs.length) (hl2 : n2 = zs.length) (hn : xs.length ≤ 100) (hx : Elems enc3 3 w a xs) (hr : Elems encI 1 w a2 zs) :
    Calls Tryd.prog 43 #[.slice a n cap, .slice a2 n2 cap2, errV (tasksCheck xs), .func (.func gf) #[] #[]] w fun e w' => e = .returned (.bool true) ∧ Below w.heap.size w w' := by
  subst hl; subst hl2
  by_cases hC : tasksCheck xs = 0
  case neg =>
    have hd : (tasksCheck xs == 0) = false := by simpa using hC
    have HZ := Lib.hid (h1 hC)
    have HC := Lib.hid hC
    clear hR hRl h0 h1 hC
    generalize hE : errV (tasksCheck xs) = ev
    have HE := Lib.hid hE
    clear hE
    go_enter Tryd.func43, Tryd.ntmps43
    go_wp2_with fail
    refine (tasks_any _ _ _ xs _ (by omega) rfl hx).mono ?_
    rintro e w1 ⟨a1, c1, rfl, he1, hb1⟩
    go_wp2_with fail
    refine (lrefCheck_any _ _ _ xs _ rfl (by unfold maxLen; omega) he1).mono ?_
    rintro e w2 ⟨rfl, hb2⟩
    have h02 := below_next hb1 hb2
    go_wp2_with fail
    rw [← HE.out]
    refine (ints_any (tasksCheck xs) _ _ _ _ _ _ zs [] _ (hg.at h02) rfl rfl hz (by simp) (hr.at h02) (Or.inl rfl) (fun h => absurd h HC.out) (fun _ => by rw [HZ.out]; rfl)).mono ?_
    rintro e w4 ⟨rfl, hb4⟩
    go_wp2
    go_ret
    exact ⟨rfl, below_next h02 hb4⟩
  have hd : (tasksCheck xs == 0) = true := by simpa using hC
  have HR := Lib.hid (hR hC)
  have H0 := Lib.hid (h0 hC)
  have HL := Lib.hid hRl
  have HC := Lib.hid hC
  clear hR hRl h0 h1 hC
  generalize hE : errV (tasksCheck xs) = ev
  have HE := Lib.hid hE
  clear hE
  go_enter Tryd.func43, Tryd.ntmps43
  go_wp2_with fail
  refine (tasks_any _ _ _ xs _ (by omega) rfl hx).mono ?_
  rintro e w1 ⟨a1, c1, rfl, he1, hb1⟩
  go_wp2_with fail
  refine (lrefCheck_any _ _ _ xs _ rfl (by unfold maxLen; omega) he1).mono ?_
  rintro e w2 ⟨rfl, hb2⟩
  have h02 := below_next hb1 hb2
  go_wp2_with fail
  refine (HR.out _ _ _ (he1.at hb2)).mono ?_
  rintro e w3 ⟨a3, n3, c3, ys, rfl, hq, he3, hRy, hb3⟩
  have h03 := below_next h02 hb3
  have HRY := Lib.hid hRy
  subst hq
  clear hRy
  go_wp2_with fail
  rw [← HE.out]
  refine (ints_any (tasksCheck xs) _ _ _ _ _ _ zs ys _ (hg.at h03) rfl rfl hz (HL.out _ HRY.out) (hr.at h03) he3 (fun _ => H0.out _ HRY.out) (fun h => absurd HC.out h)).mono ?_
  rintro e w4 ⟨rfl, hb4⟩
  go_wp2
  go_ret
  exact ⟨rfl, below_next h03 hb4⟩

set_option maxRecDepth 100000 in
set_option maxHeartbeats 4000000 in
theorem lineJackson_law (a : Option Addr) (n cap : Nat) (xs : List R3) (w : World) (hg : Hnd w) (hl : n = xs.length) (hn : n ≤ maxLen) (hx : Elems enc3 3 w a xs) :
    Calls Tryd.prog 11 #[.slice a n cap] w fun e w' => e = .returned (.bool true) ∧ Below w.heap.size w w' := by
  subst hl
  unfold maxLen at hn
  by_cases hA : 100 < xs.length
  · have hd : decide ((100 : Int) < (xs.length : Int)) = true := by simp; omega
    go_enter Tryd.func11, Tryd.ntmps11
    go_wp2
    go_ret
    exact ⟨rfl, Below.refl _ _⟩
  have hd : decide ((100 : Int) < (xs.length : Int)) = false := by simp; omega
  go_enter Tryd.func11, Tryd.ntmps11
  go_wp2_with fail
  refine (jackson_any _ _ _ xs _ rfl (by omega) hx).mono ?_
  rintro e w1 ⟨a1, n1, c1, zs, rfl, rfl, he1, hz0, hz1, hb1⟩
  have hlen : zs.length ≤ 1000 := by
    by_cases hC : tasksCheck xs = 0
    · rw [(hz0 hC).len]; omega
    · rw [hz1 hC]; simp
  have HZ := Lib.hid (show (tasksCheck xs = 0 → Sorted (ltf (fOf lessD xs)) xs.length zs) ∧ (tasksCheck xs ≠ 0 → zs = []) from ⟨hz0, hz1⟩)
  clear hz0 hz1
  go_wp2_with fail
  refine (lawSorted_any 44 _ _ _ _ _ _ xs zs (Sorted (ltf (fOf lessD xs)) xs.length) _ eg_refJackson (hg.at hb1) (fun _ => refJack_any xs (by omega)) (fun ys h => by rw [h.len]; omega) (fun h ys hy => (HZ.out.1 h).one (swkD xs) hy) HZ.out.2 hlen rfl rfl (by omega) (hx.at hb1) he1).mono ?_
  rintro e w2 ⟨rfl, hb2⟩
  go_wp2
  go_ret
  exact ⟨rfl, below_next hb1 hb2⟩
end Go.Proofs.YtkfjmmoljhekiaaDoor
