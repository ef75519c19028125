/- line.sorted: tasks in an order that a function value tells; of like ones the first first. -/
import Derived.Test.YtkfjmmoljhekiaaDoorLineChk
import Derived.Test.YtkfjmmoljhekiaaDoorSortT
import Derived.Test.YtkfjmmoljhekiaaDoorInsert
import Derived.Deep.RegionHeld3
namespace Go.Proofs.YtkfjmmoljhekiaaDoor
open Go.RowKit

theorem enter_of {P : Program} {f : FuncId} {fn : Func} {c : Code} (hf : P.funcs[f]? = some fn) (hname : (fn.name == "runtime.NumGoroutine") = false) (hb : fn.body = some c) : ∀ args w, (callFunc f args).run P w = .ok (.enter f args) w := by
  intro args w
  have h1 : fn.name ≠ "runtime.NumGoroutine" := by simpa using hname
  simp [callFunc, hf, h1, hb, mark]
theorem eg_sorted : ∀ args w, (callFunc 74 args).run Tryd.prog w = .ok (.enter 74 args) w := enter_of Tryd.func74 (by kernel_rfl) rfl

def xget (xs : List R3) (x : Int) : R3 := xs.getD x.toNat (0, 0, 0)
theorem xget_nat {xs : List R3} {k : Nat} (h : k < xs.length) : xget xs k = xs[k] := by simp [xget, List.getD, h]
def fOf (L : R3 → R3 → Int) (xs : List R3) (x y : Int) : Int := L (xget xs x) (xget xs y)
/-- What is asked of a comparison of two tasks. -/
def LessOk (gl : Nat) (L : R3 → R3 → Int) (xs : List R3) : Prop :=
  ∀ (w : World) (p q : R3), p ∈ xs → q ∈ xs → Calls Tryd.prog gl #[.agg #[.int .i64 p.1, .int .i64 p.2.1, .int .i64 p.2.2], .agg #[.int .i64 q.1, .int .i64 q.2.1, .int .i64 q.2.2]] w fun e w' => e = .returned (.int .i64 (L p q)) ∧ Below w.heap.size w w'

set_option maxRecDepth 100000 in
set_option maxHeartbeats 4000000 in
theorem sortedFn_any (gl : Nat) (L : R3 → R3 → Int) (a : Option Addr) (n cap b1 b2 : Nat) (xs : List R3) (x y : Int) (w : World) (eg : ∀ args w, (callFunc gl args).run Tryd.prog w = .ok (.enter gl args) w) (hL : LessOk gl L xs)
    (hl : n = xs.length) (hx : Elems enc3 3 w a xs) (c1 : w.cell? ⟨b1, 0, none⟩ = some (.func (.func gl) #[] #[])) (c2 : w.cell? ⟨b2, 0, none⟩ = some (.slice a n cap)) (x0 : 0 ≤ x) (x1 : x < n) (y0 : 0 ≤ y) (y1 : y < n) :
    Calls Tryd.prog 74 #[.int .i64 x, .int .i64 y, .pointer (some ⟨b1, 0, none⟩), .pointer (some ⟨b2, 0, none⟩)] w fun e w' => e = .returned (.int .i64 (fOf L xs x y)) ∧ Below w.heap.size w w' := by
  subst hl
  obtain ⟨i, rfl⟩ := Int.eq_ofNat_of_zero_le x0
  obtain ⟨k, rfl⟩ := Int.eq_ofNat_of_zero_le y0
  have hi : i < xs.length := by omega
  have hk : k < xs.length := by omega
  obtain ⟨b, o, rfl, hc⟩ := hx.some hi
  have p1 := hc i hi 0 _ rfl
  have p2 := hc i hi 1 _ rfl
  have p3 := hc i hi 2 _ rfl
  have q1 := hc k hk 0 _ rfl
  have q2 := hc k hk 1 _ rfl
  have q3 := hc k hk 2 _ rfl
  have HV : Hid (fOf L xs i k = L xs[i] xs[k]) := Lib.hid (by unfold fOf; rw [xget_nat hi, xget_nat hk])
  have HM := Lib.hid (show xs[i] ∈ xs ∧ xs[k] ∈ xs from ⟨List.getElem_mem hi, List.getElem_mem hk⟩)
  have HL := Lib.hid hL
  simp only [Nat.add_zero] at p1 q1
  clear hc hx hL
  generalize xs[i] = p at *
  generalize xs[k] = q at *
  go_enter Tryd.func74, Tryd.ntmps74
  have kB := Below.refl w.drew.heap.size w.drew
  have kD : Below w.heap.size w w.drew := (Below.refl _ _).drew
  go_wp2
  go_region_held3 (fun w' => w'.cell? ⟨b1, 0, none⟩ = some (.func (.func gl) #[] #[]) ∧ w'.cell? ⟨b2, 0, none⟩ = some (.slice (some ⟨b, o, none⟩) xs.length cap) ∧ w'.cell? ⟨b, o + i * 3, none⟩ = some (.int .i64 p.1) ∧ w'.cell? ⟨b, o + i * 3 + 1, none⟩ = some (.int .i64 p.2.1) ∧ w'.cell? ⟨b, o + i * 3 + 2, none⟩ = some (.int .i64 p.2.2) ∧ w'.cell? ⟨b, o + k * 3, none⟩ = some (.int .i64 q.1) ∧ w'.cell? ⟨b, o + k * 3 + 1, none⟩ = some (.int .i64 q.2.1) ∧ w'.cell? ⟨b, o + k * 3 + 2, none⟩ = some (.int .i64 q.2.2))
    (first | exact ⟨c1, c2, p1, p2, p3, q1, q2, q3⟩ | exact ⟨(kB.cell (lt_of_cell c1)).trans c1, (kB.cell (lt_of_cell c2)).trans c2, (kB.cell (lt_of_cell p1)).trans p1, (kB.cell (lt_of_cell p2)).trans p2, (kB.cell (lt_of_cell p3)).trans p3, (kB.cell (lt_of_cell q1)).trans q1, (kB.cell (lt_of_cell q2)).trans q2, (kB.cell (lt_of_cell q3)).trans q3⟩)
    (first | (refine (HL.out _ p q HM.out.1 HM.out.2).mono ?_; rintro e wN ⟨rfl, hbN⟩; replace kB := below_next kB hbN))
  go_wp2
  go_ret
  exact ⟨by rw [HV.out]; rfl, below_next kD kB⟩

/-- The row of a sort: of like ones the smaller number first. -/
def Sorted (lt : Int → Int → Bool) (n : Nat) (ys : List Int) : Prop := ∃ r, ys = tab n r ∧ SrtF lt 0 n r ∧ OkF 0 n idF r
theorem Sorted.one {lt : Int → Int → Bool} (O : SWk lt) {n : Nat} {ys zs : List Int} (h : Sorted lt n ys) (k : Sorted lt n zs) : ys = zs := by
  obtain ⟨r, rfl, h1, h2⟩ := h
  obtain ⟨q, rfl, k1, k2⟩ := k
  exact sorted_one O (srt_pairwise h1) (srt_pairwise k1) ((ok_perm h2).trans (ok_perm k2).symm)
theorem Sorted.len {lt : Int → Int → Bool} {n : Nat} {ys : List Int} (h : Sorted lt n ys) : ys.length = n := by
  obtain ⟨r, rfl, _, _⟩ := h
  exact tab_len _ _
def fillF (k : Nat) : RowF := fun t => if t < k then (t : Int) else 0
theorem fill_zero (n : Nat) : (List.replicate n (0 : Int)).map (Value.int .i64) = rowV n (fillF 0) := by
  refine List.ext_getElem? fun t => ?_
  rcases Nat.lt_or_ge t n with g | g
  · rw [row_get g]; simp [g, fillF]
  · rw [row_none g]; simp [g]
theorem fill_succ (n k : Nat) : (tab n (fillF k)).set k (k : Int) = tab n (fillF (k + 1)) := by
  rw [tab_set]
  congr 1
  funext t
  unfold fillF
  by_cases h : t = k
  · subst h; simp
  · by_cases h2 : t < k
    · rw [if_neg h, if_pos h2, if_pos (by omega)]
    · rw [if_neg h, if_neg h2, if_neg (by omega)]
theorem fill_done (n : Nat) : rowV n (fillF n) = rowV n idF := row_same fun _ ht => if_pos ht

set_option maxRecDepth 100000 in
set_option maxHeartbeats 4000000 in
theorem sorted_any (gl : Nat) (L : R3 → R3 → Int) (a : Option Addr) (n cap : Nat) (xs : List R3) (w : World) (eg : ∀ args w, (callFunc gl args).run Tryd.prog w = .ok (.enter gl args) w)
    (hL : tasksCheck xs = 0 → LessOk gl L xs) (hO : tasksCheck xs = 0 → SWk (ltf (fOf L xs))) (hl : n = xs.length) (hn : xs.length ≤ 100) (hx : Elems enc3 3 w a xs) :
    Calls Tryd.prog 59 #[.slice a n cap, .func (.func gl) #[] #[]] w fun e w' => ∃ a' n' cap' ys, e = .returned (.tuple #[.slice a' n' cap', errV (tasksCheck xs)]) ∧ n' = List.length ys ∧ Elems encI 1 w' a' ys ∧
      (tasksCheck xs = 0 → Sorted (ltf (fOf L xs)) xs.length ys) ∧ (tasksCheck xs ≠ 0 → ys = []) ∧ Below w.heap.size w w' := by
  subst hl
  have hba : Below w.heap.size w ((w.alloc (Obj.cells #[.slice a xs.length cap] 54)).alloc (Obj.cells #[.func (.func gl) #[] #[]] 98)) := ((Below.refl _ _).alloc (Nat.le_refl _) _).alloc (by simp) _
  by_cases hC : tasksCheck xs = 0
  case neg =>
    have hV : errV (tasksCheck xs) = .iface 25 (.int .i64 (tasksCheck xs)) := if_neg hC
    have HN := Lib.hid hC
    have HV := Lib.hid hV
    clear hC hV hL hO
    go_enter Tryd.func59, Tryd.ntmps59
    go_wp2_with (go_at_call 28; refine (lcheck_any _ _ _ xs _ rfl (by unfold maxLen; omega) (hx.at hba)).mono ?_; rintro e w1 ⟨rfl, hb1⟩; rw [HV.out])
    go_ret2
    exact ⟨none, 0, 0, [], by rw [HV.out]; rfl, rfl, Or.inl rfl, fun h => absurd h HN.out, fun _ => rfl, hba.trans (hb1.mono hba.size)⟩
  have hV : errV (tasksCheck xs) = .nilIface := if_pos hC
  have HV := Lib.hid hV
  have HL := Lib.hid (hL hC)
  have HO := Lib.hid (hO hC)
  suffices h : Calls Tryd.prog 59 #[.slice a xs.length cap, .func (.func gl) #[] #[]] w fun e w' => ∃ a' n' cap' ys, e = .returned (.tuple #[.slice a' n' cap', .nilIface]) ∧ n' = List.length ys ∧ Elems encI 1 w' a' ys ∧ Sorted (ltf (fOf L xs)) xs.length ys ∧ Below w.heap.size w w' by
    refine h.mono ?_
    rintro e w' ⟨a', n', cap', ys, h1, h2, h3, h4, h5⟩
    exact ⟨a', n', cap', ys, by rw [HV.out]; exact h1, h2, h3, fun _ => h4, fun h => absurd hC h, h5⟩
  clear hC hV hL hO
  go_enter Tryd.func59, Tryd.ntmps59
  go_wp2_with fail
  refine (lcheck_any _ _ _ xs _ rfl (by unfold maxLen; omega) (hx.at hba)).mono ?_
  rintro e w1 ⟨rfl, hb1⟩
  rw [HV.out]
  have d1 := (hb1.cell (p := ⟨w.heap.size, 0, none⟩) (by simp; omega)).trans (show ((w.alloc (Obj.cells #[.slice a xs.length cap] 54)).alloc (Obj.cells #[.func (.func gl) #[] #[]] 98)).cell? ⟨w.heap.size, 0, none⟩ = some (.slice a xs.length cap) by simp)
  have d2 := (hb1.cell (p := ⟨w.heap.size + 1, 0, none⟩) (by simp)).trans (show ((w.alloc (Obj.cells #[.slice a xs.length cap] 54)).alloc (Obj.cells #[.func (.func gl) #[] #[]] 98)).cell? ⟨w.heap.size + 1, 0, none⟩ = some (.func (.func gl) #[] #[]) by simp)
  have hb := hba.trans (hb1.mono hba.size)
  have hs1 := hb1.size
  have hg1 : w.heap.size + 2 ≤ w1.heap.size := by simp at hs1; omega
  clear hb1 hba hs1
  go_wp2_with (at_make; refine make_row _ rowI' rfl _ _ rfl w1.heap.size _ _ _ _ xs.length rfl rfl rfl rfl (by omega) (by unfold maxLen; omega) (Nat.le_refl _) ?_)
  intro w3 hown hb3
  rw [made_ints xs.length, fill_zero] at hown
  have hg3 := (owns_base hown).2
  have e1 := (hb3.cell (lt_of_cell d1)).trans d1
  have e2 := (hb3.cell (lt_of_cell d2)).trans d2
  have hbb := hb.trans (hb3.mono hb.size)
  have HXX := Lib.hid (show Elems enc3 3 w1 a xs ∧ Below w1.heap.size w1 w3 from ⟨hx.at hb, hb3⟩)
  clear d1 d2 hb3 hb hx
  generalize hgq : w1.heap.size = g at *
  have HGQ := Lib.hid hgq
  clear hgq
  go_wp2
  go_loopw [19] (fun iv wr => ∃ k : Nat, k ≤ xs.length ∧ iv = .int .i64 k ∧ wr.ownsRow g 3 1 (.slice (some ⟨g, 0, none⟩) xs.length xs.length) xs.length (rowV xs.length (fillF k)) ∧ Below g w3 wr) (fun iv _ => xs.length - (intOf iv).toNat)
  case atStart => exact ⟨0, by omega, rfl, hown, Below.refl _ _⟩
  case round =>
    clear hown
    obtain ⟨k, hk, rfl, hown, hbw⟩ := hrel
    by_cases hlt : k < xs.length
    · have c1 := owns_at_tab hown (j := k) hlt
      have hf := hown.frozenAt k
      have hnew := owns_set hown k (k : Int)
      rw [fill_succ] at hnew
      have HN := Lib.hid hnew
      clear hnew hown
      generalize fillF k k = ov at c1
      go_wp2
      go_roundw
      case rel => exact ⟨k + 1, by omega, by go_num, HN.out, hbw.setCell (p := ⟨g, k, none⟩) (Nat.le_refl g) _⟩
      case measure => simp [intOf]; omega
    · obtain rfl : k = xs.length := by omega
      rw [fill_done] at hown
      have hcmp : CmpOk 74 #[.pointer (some ⟨w.heap.size + 1, 0, none⟩), .pointer (some ⟨w.heap.size, 0, none⟩)] (fOf L xs) xs.length g wr := by
        intro w' hw' x y x0 x1 y0 y1
        have h2 := hbw.trans hw'
        exact sortedFn_any gl L a xs.length cap (w.heap.size + 1) w.heap.size xs x y w' eg HL.out rfl (HXX.out.1.below (HXX.out.2.trans h2) (Nat.le_of_eq HGQ.out)) ((h2.cell (p := ⟨w.heap.size + 1, 0, none⟩) (show w.heap.size + 1 < g by omega)).trans e2) ((h2.cell (p := ⟨w.heap.size, 0, none⟩) (show w.heap.size < g by omega)).trans e1) x0 x1 y0 y1
      have hrng : RngF xs.length xs.length idF := fun t ht => ⟨by unfold idF; omega, by unfold idF; omega⟩
      have hsort := sortStable_any 74 _ (fOf L xs) xs.length g xs.length xs.length g idF wr eg_sorted hcmp HO.out hown (by omega) hrng (fun s t hs _ => by unfold idF; omega)
      have HS := Lib.hid hsort
      clear hcmp hrng hsort hown
      go_wp2_with fail
      refine (HS.out).mono ?_
      rintro e w4 ⟨rfl, r', ho, hs, hown4, hb4⟩
      obtain ⟨a', cap', he0, he, _⟩ := ints_of_owns (tab_len _ _).symm hown4
      obtain ⟨rfl, hq, rfl⟩ := Value.slice.inj he0
      have HE := Lib.hid he
      have HZ := Lib.hid (show Sorted (ltf (fOf L xs)) xs.length (tab xs.length r') from ⟨r', rfl, hs, ho⟩)
      clear hq he he0 hs ho hown4
      go_wp2
      go_ret2
      exact ⟨_, _, _, _, rfl, (tab_len _ _).symm, HE.out, HZ.out, hbb.trans ((hbw.trans hb4).mono (by omega))⟩
end Go.Proofs.YtkfjmmoljhekiaaDoor
