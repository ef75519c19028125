/- line.Order and the reference's Order: both tell orderM. -/
import Derived.Test.YtannijeiecmjpaaDoorRows
import Derived.Test.YtannijeiecmjpaaDoorTell
import Derived.Test.YtannijeiecmjpaaDoorLineM
namespace Go.Proofs.YtannijeiecmjpaaDoor
open Go.RowKit
theorem rowB : RowOf Tryd.prog 134 4 (.bool false) 1 1 := rowOf Tryd.underlying134 (by kernel_rfl) rfl (by decide)
theorem made_bools (n : Nat) : (madeCells #[Value.bool false] n).toList = (List.replicate n false).map Value.bool := by
  rw [List.map_replicate]
  exact toList_madeCells_one _ _
theorem ownsB_get {w : World} {base e g n cap : Nat} {E : List Bool} (h : w.ownsRow base e 1 (.slice (some ⟨g, 0, none⟩) n cap) n (E.map Value.bool)) (j : Nat) (hj : j < n) (hE : j < E.length) :
    w.cell? ⟨g, j, none⟩ = some (.bool E[j]) := by
  rw [h.cellAt j (by omega), List.getElem?_map, List.getElem?_eq_getElem hE]
  rfl
theorem ownsB_set {w : World} {base e g n cap : Nat} {E : List Bool} (h : w.ownsRow base e 1 (.slice (some ⟨g, 0, none⟩) n cap) n (E.map Value.bool)) (j : Nat) (u : Bool) :
    (w.setCell ⟨g, j, none⟩ (.bool u)).ownsRow base e 1 (.slice (some ⟨g, 0, none⟩) n cap) n ((E.set j u).map Value.bool) := by
  rw [List.map_set]
  exact (h.stored j (.bool u)).1

set_option maxHeartbeats 4000000 in
theorem order_any (a : Option Addr) (n cap : Nat) (ni : Int) (row : List Int) (w : World) (hl : n = row.length) (hn : row.length ≤ 100) (hx : Elems encI 1 w a row) :
    Calls Tryd.prog 38 #[.slice a n cap, .int .i64 ni] w fun e w' => e = .returned (errV (orderM row ni)) ∧ Below w.heap.size w w' := by
  subst hl
  by_cases hA : (row.length : Int) = ni
  case neg =>
    have hd : ((row.length : Int) != ni) = true := by simpa using hA
    have HR := Lib.hid (show orderM row ni = 3 from if_neg hA)
    clear hA
    go_enter Tryd.func38, Tryd.ntmps38
    go_wp2
    go_ret
    exact ⟨by rw [HR.out]; rfl, Below.refl _ _⟩
  subst hA
  have hd : ((row.length : Int) != (row.length : Int)) = false := by simp
  have HR : Hid (orderM row row.length = orderFrom row.length (row.take 0) (row.drop 0)) := if_pos rfl
  go_enter Tryd.func38, Tryd.ntmps38
  go_wp2_with (at_make; refine make_row _ rowB rfl _ _ rfl w.heap.size _ _ _ _ row.length rfl rfl rfl rfl (by omega) (by unfold maxLen; omega) (Nat.le_refl _) ?_)
  intro w1 hown hb1
  rw [made_bools, ← seenM_zero row.length row] at hown
  generalize hgE : w.heap.size = g at *
  go_wp2
  go_loopw [17] (fun i wr => ∃ k : Nat, k ≤ row.length ∧ i = .int .i64 k ∧ Hid (orderM row row.length = orderFrom row.length (row.take k) (row.drop k)) ∧ wr.ownsRow g 4 1 (.slice (some ⟨g, 0, none⟩) row.length row.length) row.length ((seenM row.length row k).map Value.bool) ∧ Below g w wr) (fun i _ => row.length - (intOf i).toNat)
  case atStart => exact ⟨0, by omega, rfl, HR, hown, hb1⟩
  case round =>
    clear HR hown hb1
    obtain ⟨k, hk, rfl, HR, hown, hb⟩ := hrel
    have hbW : Below w.heap.size w wr := by rw [hgE]; exact hb
    by_cases hlt : k < row.length
    · obtain ⟨b, o, rfl, hc⟩ := hx.some hlt
      have hbB := lt_of_cell (hc k hlt 0 _ rfl)
      simp only at hbB
      have h1 := (hb.cell (p := ⟨b, o + k * 1 + 0, none⟩) (by simp only; omega)).trans (hc k hlt 0 _ rfl)
      simp only [Nat.add_zero, Nat.mul_one] at h1
      have hH := Lib.hid (order_here row.length row k hlt)
      clear hc hx
      by_cases hbad : row[k] < 0 ∨ (row.length : Int) ≤ row[k]
      · have HB := Lib.hid (HR.out.trans (hH.out.trans (if_pos hbad)))
        clear HR hH hd
        go_wp2_with fail
        all_goals first
          | (go_ret; exact ⟨by rw [HB.out]; rfl, by first | exact hbW | exact hb⟩)
          | (exfalso; omega)
      · obtain ⟨x, hxv⟩ := Int.eq_ofNat_of_zero_le (show 0 ≤ row[k] by omega)
        have hxs : x < (seenM row.length row k).length := by rw [seenM_len]; omega
        have h2 := ownsB_get hown x (by rw [seenM_len] at hxs; exact hxs) hxs
        have hfz := hown.frozenAt x
        have hset := ownsB_set hown x true
        rw [seenM_get] at h2
        rw [← seenM_succ row.length row k x hlt hxv] at hset
        rw [seenM_len] at hxs
        have hq1 : ¬ ((x : Int) < 0) := by omega
        have hq2 : ¬ ((row.length : Int) ≤ (x : Int)) := by omega
        by_cases hm : row[k] ∈ row.take k
        · have HB := Lib.hid (HR.out.trans (hH.out.trans ((if_neg hbad).trans (if_pos hm))))
          have hd2 : decide ((x : Int) ∈ row.take k) = true := by rw [← hxv]; simpa using hm
          rw [hd2] at h2
          rw [hxv] at h1
          clear HR hH hd hown hbad hm hd2 hset hfz hxv
          go_wp2_with fail
          go_ret
          exact ⟨by rw [HB.out]; rfl, by first | exact hbW | exact hb⟩
        · have HB := Lib.hid (HR.out.trans (hH.out.trans ((if_neg hbad).trans (if_neg hm))))
          have hd2 : decide ((x : Int) ∈ row.take k) = false := by rw [← hxv]; simpa using hm
          rw [hd2] at h2
          rw [hxv] at h1
          clear HR hH hd hown hbad hm hd2 hxv
          go_wp2_with fail
          exact ⟨⟨k + 1, by omega, by go_num, HB, hset, hb.setCell (by simp) _⟩, by simp [intOf]; omega⟩
    · clear hx
      obtain rfl : k = row.length := by omega
      have HB := Lib.hid (HR.out.trans (order_done _ row))
      clear HR hd
      go_wp2
      go_ret
      exact ⟨by rw [HB.out]; rfl, by first | exact hbW | exact hb⟩

set_option maxHeartbeats 4000000 in
theorem refOrder_any (a : Option Addr) (n cap : Nat) (ni : Int) (row : List Int) (w : World) (hl : n = row.length) (hn : row.length ≤ 100) (hx : Elems encI 1 w a row) (hcap : n ≤ cap) :
    Calls Tryd.prog 13 #[.slice a n cap, .int .i64 ni] w fun e w' => e = .returned (.int .i64 (orderM row ni)) ∧ Below w.heap.size w w' := by
  subst hl
  by_cases hA : (row.length : Int) = ni
  case neg =>
    have hd : ((row.length : Int) != ni) = true := by simpa using hA
    have HR := Lib.hid (show orderM row ni = 3 from if_neg hA)
    clear hA
    go_enter Tryd.func13, Tryd.ntmps13
    go_wp2
    go_ret
    exact ⟨by rw [HR.out]; rfl, Below.refl _ _⟩
  subst hA
  have hd : ((row.length : Int) != (row.length : Int)) = false := by simp
  have HR : Hid (orderM row row.length = orderFrom row.length (row.take 0) (row.drop 0)) := if_pos rfl
  go_enter Tryd.func13, Tryd.ntmps13
  go_wp2
  go_loopw [15] (fun i wr => ∃ k : Nat, k ≤ row.length ∧ i = .int .i64 k ∧ Hid (orderM row row.length = orderFrom row.length (row.take k) (row.drop k)) ∧ ∃ m, wr = w.drewN m) (fun i _ => row.length - (intOf i).toNat)
  case atStart => exact ⟨0, by omega, rfl, HR, 0, rfl⟩
  case round =>
    clear HR
    obtain ⟨k, hk, rfl, HR, m, rfl⟩ := hrel
    by_cases hlt : k < row.length
    · obtain ⟨b, o, rfl, hc⟩ := hx.some hlt
      have h1 := hc k hlt 0 _ rfl
      simp only [Nat.add_zero, Nat.mul_one] at h1
      have hH := Lib.hid (order_here row.length row k hlt)
      by_cases hbad : row[k] < 0 ∨ (row.length : Int) ≤ row[k]
      · have HB := Lib.hid (HR.out.trans (hH.out.trans (if_pos hbad)))
        clear HR hH hd hc hx
        go_wp2_with fail
        all_goals first
          | (go_ret; exact ⟨by rw [HB.out]; rfl, below_drewN _ _ _⟩)
          | (exfalso; omega)
      · have hq1 : ¬ (row[k] < 0) := by omega
        have hq2 : ¬ ((row.length : Int) ≤ row[k]) := by omega
        have hkc : k ≤ cap := by omega
        have HQ := Lib.hid (show row[k] ∉ row.take 0 by simp)
        go_wp2_with fail
        go_loopw [31] (fun i wi => ∃ q : Nat, q ≤ k ∧ i = .int .i64 q ∧ Hid (row[k] ∉ row.take q) ∧ ∃ m, wi = w.drewN m) (fun i _ => k - (intOf i).toNat)
        case atStart => exact ⟨0, by omega, rfl, HQ, _, rfl⟩
        case round =>
          clear HQ
          obtain ⟨q, hq, rfl, HQ, m, rfl⟩ := hrel
          by_cases hqk : q < k
          · have hqr : q < row.length := by omega
            have h2 := hc q hqr 0 _ rfl
            simp only [Nat.add_zero, Nat.mul_one] at h2
            by_cases he : row[k] = row[q]
            · have hm : row[k] ∈ row.take k := by rw [he]; exact List.mem_take_iff_getElem.2 ⟨q, by omega, rfl⟩
              have HB := Lib.hid (HR.out.trans (hH.out.trans ((if_neg hbad).trans (if_pos hm))))
              have hd3 : (row[k] == row[q]) = true := by simpa using he
              clear HR hH hd hc hx hm hbad he HQ
              go_wp2_with fail
              go_ret
              exact ⟨by rw [HB.out]; rfl, below_drewN _ _ _⟩
            · have HQ2 : Hid (row[k] ∉ row.take (q + 1)) := by
                show _
                rw [List.take_succ_eq_append_getElem hqr]
                simp only [List.mem_append, List.mem_singleton, not_or]
                exact ⟨HQ.out, he⟩
              have hd3 : (row[k] == row[q]) = false := by simpa using he
              clear HR hH hd hc hx hbad he HQ
              go_wp2_with fail
              exact ⟨⟨q + 1, by omega, by go_num, HQ2, _, rfl⟩, by simp [intOf]; omega⟩
          · obtain rfl : q = k := by omega
            have HB := Lib.hid (HR.out.trans (hH.out.trans ((if_neg hbad).trans (if_neg HQ.out))))
            clear HR hH hd hc hx hbad HQ
            go_wp2_with fail
            exact ⟨⟨q + 1, by omega, by go_num, HB, _, rfl⟩, by simp [intOf]; omega⟩
    · clear hx
      obtain rfl : k = row.length := by omega
      have HB := Lib.hid (HR.out.trans (order_done _ row))
      clear HR hd
      go_wp2
      go_ret
      exact ⟨by rw [HB.out]; rfl, below_drewN _ _ _⟩
end Go.Proofs.YtannijeiecmjpaaDoor
