/- Maps (19.1): what is wrong with one; trip.Check and the reference's MapCheck tell the same. -/
import Derived.Test.YtannijeiecmjpaaDoorRows2
import Derived.Test.YtannijeiecmjpaaDoorContG
import Derived.Test.YtannijeiecmjpaaDoorTell
namespace Go.Proofs.YtannijeiecmjpaaDoor
open Go.RowKit

def outOf (lim x : Int) : Bool := decide (x < 0) || decide (lim < x)
def mapFrom (n : Nat) : List (List Int) → Int
  | [] => 0
  | r :: rs => if r.length ≠ n then 3 else if r.any (outOf 1000000000) = true then 2 else mapFrom n rs
def mapCheck (A : List (List Int)) : Int := if 9 < A.length then 4 else mapFrom A.length A
theorem map_here (n : Nat) (A : List (List Int)) (k : Nat) (h : k < A.length) : mapFrom n (A.drop k) = if A[k].length ≠ n then 3 else if A[k].any (outOf 1000000000) = true then 2 else mapFrom n (A.drop (k + 1)) := by
  rw [List.drop_eq_getElem_cons h]
  rfl
theorem map_done (n : Nat) (A : List (List Int)) : mapFrom n (A.drop A.length) = 0 := by simp [mapFrom]
theorem mapFrom_ok {n : Nat} : ∀ {A : List (List Int)}, mapFrom n A = 0 → ∀ r ∈ A, r.length = n ∧ ∀ x ∈ r, 0 ≤ x ∧ x ≤ 1000000000
  | [], _, r, hr => by simp at hr
  | q :: qs, h, r, hr => by
    unfold mapFrom at h
    by_cases h1 : q.length ≠ n
    · rw [if_pos h1] at h; omega
    rw [if_neg h1] at h
    by_cases h2 : q.any (outOf 1000000000) = true
    · rw [if_pos h2] at h; omega
    rw [if_neg h2] at h
    rcases List.mem_cons.1 hr with rfl | hr
    · refine ⟨by omega, fun x hx => ?_⟩
      have h4 : outOf 1000000000 x = false := by
        cases hq : outOf 1000000000 x with
        | false => rfl
        | true => exact absurd (List.any_eq_true.2 ⟨x, hx, hq⟩) h2
      simp only [outOf, Bool.or_eq_false_iff, decide_eq_false_iff_not] at h4
      omega
    · exact mapFrom_ok h r hr
theorem map_ok {A : List (List Int)} (h : mapCheck A = 0) : A.length ≤ 9 ∧ ∀ r ∈ A, r.length = A.length ∧ ∀ x ∈ r, 0 ≤ x ∧ x ≤ 1000000000 := by
  unfold mapCheck at h
  by_cases h1 : 9 < A.length
  · rw [if_pos h1] at h; omega
  rw [if_neg h1] at h
  exact ⟨by omega, mapFrom_ok h⟩
theorem tq_any (x : Int) (w : World) : Calls Tryd.prog 62 #[.int .i64 x] w fun e w' => e = .returned (.bool (outOf 1000000000 x)) ∧ Below w.heap.size w w' := by
  by_cases h1 : x < 0
  · have HB : Hid (outOf 1000000000 x = true) := Lib.hid (by simp [outOf, h1])
    go_enter Tryd.func62, Tryd.ntmps62
    go_wp2
    go_ret
    exact ⟨by rw [HB.out]; rfl, Below.refl _ _⟩
  · by_cases h2 : 1000000000 < x
    · have HB : Hid (outOf 1000000000 x = true) := Lib.hid (by simp [outOf, h2])
      go_enter Tryd.func62, Tryd.ntmps62
      go_wp2
      go_ret
      exact ⟨by rw [HB.out]; rfl, Below.refl _ _⟩
    · have HB : Hid (outOf 1000000000 x = false) := Lib.hid (by simp [outOf]; omega)
      go_enter Tryd.func62, Tryd.ntmps62
      go_wp2
      go_ret
      exact ⟨by rw [HB.out]; rfl, Below.refl _ _⟩
theorem enter_tq {P : Program} {f : FuncId} {fn : Func} {c : Code} (hf : P.funcs[f]? = some fn) (hname : (fn.name == "runtime.NumGoroutine") = false) (hb : fn.body = some c) : ∀ args w, (callFunc f args).run P w = .ok (.enter f args) w := by
  intro args w
  have h1 : fn.name ≠ "runtime.NumGoroutine" := by simpa using hname
  simp [callFunc, hf, h1, hb, mark]
theorem eg_tq : ∀ args w, (callFunc 62 args).run Tryd.prog w = .ok (.enter 62 args) w := enter_tq Tryd.func62 (by kernel_rfl) rfl

set_option maxRecDepth 100000 in
set_option maxHeartbeats 8000000 in
theorem tripChk_any (a : Option Addr) (n cap : Nat) (A : List (List Int)) (w : World) (hl : n = A.length) (hn : n ≤ maxLen) (hr : Rows2 w a A) :
    Calls Tryd.prog 49 #[.slice a n cap] w fun e w' => e = .returned (errV (mapCheck A)) ∧ Below w.heap.size w w' := by
  subst hl
  unfold maxLen at hn
  obtain ⟨er, her⟩ : ∃ er, er = mapCheck A := ⟨_, rfl⟩
  rw [← her]
  by_cases hA : 9 < A.length
  · have HR := Lib.hid (show er = 4 from her.trans (if_pos hA))
    have hd : decide ((9 : Int) < (A.length : Int)) = true := by simp; omega
    clear her hA hr
    go_enter Tryd.func49, Tryd.ntmps49
    go_wp2
    go_ret
    exact ⟨by rw [HR.out]; rfl, Below.refl _ _⟩
  have hd : decide ((9 : Int) < (A.length : Int)) = false := by simp; omega
  have HM : Hid (er = mapFrom A.length (A.drop 0)) := Lib.hid (her.trans (if_neg hA))
  have hA9 : A.length ≤ 9 := by omega
  have HRR := Lib.hid hr
  clear her hA hr
  go_enter Tryd.func49, Tryd.ntmps49
  go_wp2
  go_loopw [11] (fun i wr => ∃ k : Nat, k ≤ A.length ∧ i = .int .i64 k ∧ Hid (er = mapFrom A.length (A.drop k)) ∧ Below w.heap.size w wr) (fun i _ => A.length - (intOf i).toNat)
  case atStart => exact ⟨0, by omega, rfl, HM, Below.refl _ _⟩
  case round =>
    clear HM
    obtain ⟨k, hk, rfl, HM, hb⟩ := hrel
    by_cases hlt : k < A.length
    · obtain ⟨b2, o2, rfl, hcA⟩ := HRR.out.some hlt
      obtain ⟨ar, cr, e1, e2, e3, e4⟩ := hcA k hlt
      have h4 := (hb.cell (lt_of_cell e1)).trans e1
      have hst := map_here A.length A k hlt
      obtain ⟨R, hR⟩ : ∃ R, R = A[k] := ⟨_, rfl⟩
      rw [← hR] at hst h4 e4
      clear hcA e1 e2 e3 hR
      by_cases hlen : R.length ≠ A.length
      · have HR := Lib.hid (show er = 3 from HM.out.trans (hst.trans (if_pos hlen)))
        have hd2 : ((R.length : Int) != (A.length : Int)) = true := by simp; omega
        clear hst HM hlen e4
        go_wp2
        go_ret
        exact ⟨by rw [HR.out]; rfl, hb⟩
      have hd2 : ((R.length : Int) != (A.length : Int)) = false := by simp; omega
      have hR9 : R.length ≤ 9 := by omega
      have HQ : ∀ w', PredOk 62 #[] (outOf 1000000000) R w'.heap.size w' := fun w' w'' _ x _ => tq_any x w''
      have HC2 := Lib.hid (fun w' h => containsF_any 62 #[] (outOf 1000000000) ar _ cr R w' eg_tq (HQ w') rfl (by omega) h)
      have HE4 := Lib.hid (e4.at hb)
      clear HQ e4
      by_cases hany : R.any (outOf 1000000000) = true
      · have HR := Lib.hid (show er = 2 from HM.out.trans (hst.trans ((if_neg hlen).trans (if_pos hany))))
        rw [hany] at HC2
        clear hst HM hany hlen
        go_wp2_with fail
        refine (HC2.out _ HE4.out).mono ?_
        rintro e w2 ⟨rfl, hb2⟩
        have hb3 := below_next hb hb2
        go_wp2
        go_ret
        exact ⟨by rw [HR.out]; rfl, hb3⟩
      · have HR := Lib.hid (HM.out.trans (hst.trans ((if_neg hlen).trans (if_neg hany))))
        rw [show R.any (outOf 1000000000) = false by simpa using hany] at HC2
        clear hst HM hany hlen
        go_wp2_with fail
        refine (HC2.out _ HE4.out).mono ?_
        rintro e w2 ⟨rfl, hb2⟩
        have hb3 := below_next hb hb2
        go_wp2
        exact ⟨⟨k + 1, by omega, by go_num, HR, hb3⟩, by simp [intOf]; omega⟩
    · obtain rfl : k = A.length := by omega
      have HR := Lib.hid (show er = 0 by rw [HM.out, map_done])
      clear HM
      go_wp2
      go_ret
      exact ⟨by rw [HR.out]; rfl, hb⟩

set_option maxRecDepth 100000 in
set_option maxHeartbeats 8000000 in
theorem refMap_any (a : Option Addr) (n cap : Nat) (A : List (List Int)) (w : World) (hl : n = A.length) (hn : n ≤ maxLen) (hr : Rows2 w a A) :
    Calls Tryd.prog 46 #[.slice a n cap] w fun e w' => e = .returned (.int .i64 (mapCheck A)) ∧ Below w.heap.size w w' := by
  subst hl
  unfold maxLen at hn
  obtain ⟨er, her⟩ : ∃ er, er = mapCheck A := ⟨_, rfl⟩
  rw [← her]
  by_cases hA : 9 < A.length
  · have HR := Lib.hid (show er = 4 from her.trans (if_pos hA))
    have hd : decide ((9 : Int) < (A.length : Int)) = true := by simp; omega
    clear her hA hr
    go_enter Tryd.func46, Tryd.ntmps46
    go_wp2
    go_ret
    exact ⟨by rw [HR.out]; rfl, Below.refl _ _⟩
  have hd : decide ((9 : Int) < (A.length : Int)) = false := by simp; omega
  have HM : Hid (er = mapFrom A.length (A.drop 0)) := Lib.hid (her.trans (if_neg hA))
  have hA9 : A.length ≤ 9 := by omega
  have HRR := Lib.hid hr
  clear her hA hr
  go_enter Tryd.func46, Tryd.ntmps46
  go_wp2
  go_loopw [12] (fun i wr => ∃ k : Nat, k ≤ A.length ∧ i = .int .i64 k ∧ Hid (er = mapFrom A.length (A.drop k)) ∧ Below w.heap.size w wr) (fun i _ => A.length - (intOf i).toNat)
  case atStart => exact ⟨0, by omega, rfl, HM, Below.refl _ _⟩
  case round =>
    clear HM
    obtain ⟨k, hk, rfl, HM, hb⟩ := hrel
    by_cases hlt : k < A.length
    · obtain ⟨b2, o2, rfl, hcA⟩ := HRR.out.some hlt
      obtain ⟨ar, cr, e1, e2, e3, e4⟩ := hcA k hlt
      have h4 := (hb.cell (lt_of_cell e1)).trans e1
      have hst := map_here A.length A k hlt
      obtain ⟨R, hR⟩ : ∃ R, R = A[k] := ⟨_, rfl⟩
      rw [← hR] at hst h4 e4
      clear hcA e1 e2 e3 hR
      by_cases hlen : R.length ≠ A.length
      · have HR := Lib.hid (show er = 3 from HM.out.trans (hst.trans (if_pos hlen)))
        have hd2 : ((R.length : Int) != (A.length : Int)) = true := by simp; omega
        clear hst HM hlen e4
        go_wp2
        go_ret
        exact ⟨by rw [HR.out]; rfl, hb⟩
      have hd2 : ((R.length : Int) != (A.length : Int)) = false := by simp; omega
      have hR9 : R.length ≤ 9 := by omega
      have HE4 := Lib.hid (e4.at hb)
      have HQ0 : Hid ((R.take 0).any (outOf 1000000000) = false) := Lib.hid (by simp)
      have HST := Lib.hid (HM.out.trans (hst.trans (if_neg hlen)))
      clear e4 hst HM hlen
      obtain ⟨wo, hwo⟩ : ∃ wo : World, wo = wr := ⟨_, rfl⟩
      subst hwo
      go_wp2
      go_loop [23] (fun i => ∃ q : Nat, q ≤ R.length ∧ i = .int .i64 q ∧ Hid ((R.take q).any (outOf 1000000000) = false)) (fun i => R.length - (intOf i).toNat)
      case atStart => exact ⟨0, by omega, rfl, HQ0⟩
      case round =>
        clear HQ0
        obtain ⟨q, hq, rfl, HQ⟩ := hrel
        by_cases hql : q < R.length
        · obtain ⟨b3, o3, rfl, hc3⟩ := HE4.out.some hql
          have h5 := hc3 q hql 0 _ rfl
          simp only [Nat.add_zero, Nat.mul_one] at h5
          by_cases hbad : outOf 1000000000 R[q] = true
          · have HR := Lib.hid (show er = 2 from HST.out.trans (if_pos (List.any_eq_true.2 ⟨_, List.getElem_mem hql, hbad⟩)))
            simp only [outOf, Bool.or_eq_true, decide_eq_true_eq] at hbad
            clear hc3 HQ HST
            generalize R[q] = x at *
            go_wp2_with fail
            all_goals first
              | (exfalso; omega)
              | (go_ret; exact ⟨by rw [HR.out]; rfl, hb⟩)
          · have hgood : outOf 1000000000 R[q] = false := by simpa using hbad
            have HQ2 : Hid ((R.take (q + 1)).any (outOf 1000000000) = false) := Lib.hid (by rw [List.take_succ_eq_append_getElem hql, List.any_append, HQ.out]; simp [hgood])
            simp only [outOf, Bool.or_eq_false_iff, decide_eq_false_iff_not] at hgood
            obtain ⟨q1, q2⟩ := hgood
            clear hc3 HQ hbad
            generalize R[q] = x at *
            go_wp2_with fail
            all_goals first
              | (exfalso; omega)
              | exact ⟨⟨q + 1, by omega, by go_num, HQ2⟩, by simp [intOf]; omega⟩
        · obtain rfl : q = R.length := by omega
          have HR := Lib.hid (HST.out.trans (if_neg (by have h := HQ.out; rw [List.take_length] at h; simp [h])))
          clear HQ HST
          go_wp2
          exact ⟨⟨k + 1, by omega, by go_num, HR, hb⟩, by simp [intOf]; omega⟩
    · obtain rfl : k = A.length := by omega
      have HR := Lib.hid (show er = 0 by rw [HM.out, map_done])
      clear HM
      go_wp2
      go_ret
      exact ⟨by rw [HR.out]; rfl, hb⟩

/-- big: whatever it tells of many rows; of few, whether there are more numbers than so many. -/
def totR (A : List (List Int)) : Nat → Nat
  | 0 => 0
  | k + 1 => totR A k + (A.getD k []).length
def BigPost (w : World) (e : Ending) (w' : World) : Prop := ∃ b, e = .returned (.bool b) ∧ w = w'
set_option maxHeartbeats 4000000 in
theorem big_any (a : Option Addr) (n cap : Nat) (A : List (List Int)) (w : World) (hl : n = A.length) (hn : n ≤ maxLen) (hr : Rows2 w a A) :
    Calls Tryd.prog 23 #[.slice a n cap, .int .i64 300] w (BigPost w) := by
  subst hl
  unfold maxLen at hn
  have HRR := Lib.hid hr
  clear hr
  go_enter Tryd.func23, Tryd.ntmps23
  go_wp2
  go_loop [5, 6] (fun nv iv => ∃ (k : Nat) (v : Int), k ≤ A.length ∧ iv = .int .i64 k ∧ nv = .int .i64 v) (fun _ iv => A.length - (intOf iv).toNat)
  case atStart => exact ⟨0, A.length, by omega, rfl, rfl⟩
  case round =>
    obtain ⟨k, v, hk, rfl, rfl⟩ := hrel
    by_cases hlt : k < A.length
    · obtain ⟨b2, o2, rfl, hcA⟩ := HRR.out.some hlt
      obtain ⟨ar, cr, e1, e2, e3, e4⟩ := hcA k hlt
      clear hcA e2 e3 e4
      go_wp2_with fail
      exact ⟨⟨k + 1, _, by omega, by go_num, rfl⟩, by simp [intOf]; omega⟩
    · obtain rfl : k = A.length := by omega
      by_cases hv : (300 : Int) < v
      · have hd : decide ((300 : Int) < v) = true := by simpa using hv
        go_wp2
        go_ret
        unfold BigPost
        exact ⟨_, rfl, rfl⟩
      · have hd : decide ((300 : Int) < v) = false := by simpa using hv
        go_wp2
        go_ret
        unfold BigPost
        exact ⟨_, rfl, rfl⟩
end Go.Proofs.YtannijeiecmjpaaDoor
