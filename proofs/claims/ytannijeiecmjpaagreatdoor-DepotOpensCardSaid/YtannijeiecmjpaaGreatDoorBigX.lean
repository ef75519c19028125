/- foresightbig: a row of words times one word; the sum of two rows (printed by gen_bigx.py). -/
import Derived.Test.YtannijeiecmjpaaGreatDoorBigW
import Derived.Test.YtannijeiecmjpaaGreatDoorTabN
namespace Go.Proofs.YtannijeiecmjpaaGreatDoor
open Go.RowKit

theorem rowU : RowOf Tryz.prog 99 152 (.int .u32 0) 1 4 := rowOf Tryz.underlying99 (by kernel_rfl) rfl (by decide)
theorem made_words (n : Nat) : (madeCells #[Value.int .u32 0] (n * 1)).toList = (List.replicate n (0 : Int)).map (Value.int .u32) := by
  rw [Nat.mul_one]
  apply List.ext_getElem?
  intro i
  simp only [List.getElem?_map, List.getElem?_replicate]
  by_cases h : i < n
  · simp [madeCells, h, Nat.mod_one]
  · simp [madeCells, h]
abbrev Own (w : World) (base g n : Nat) (xs : List Int) : Prop := w.ownsRow base 152 1 (.slice (some ⟨g, 0, none⟩) n n) n (xs.map (Value.int .u32))
theorem Own.at {w w' : World} {base g n : Nat} {xs : List Int} (h : Own w base g n xs) (hb : Below w.heap.size w w') : Own w' base g n xs := World.ownsRow.kept (row := none) h ⟨hb.os, hb.tape, hb.output, hb.size, fun k hk _ => hb.block k hk⟩ (Or.inr (by simp [Value.ownBlock]))
theorem Own.get {w : World} {base g n : Nat} {xs : List Int} (h : Own w base g n xs) {j : Nat} {x : Int} (hj : xs[j]? = some x) : w.cell? ⟨g, j, none⟩ = some (.int .u32 x) := by
  have h1 := World.ownsRow.cells h (g := g) rfl j (.int .u32 x) (by simp [hj])
  have h2 : (⟨g, 0, none⟩ : Addr).add j = ⟨g, j, none⟩ := by unfold Addr.add; split <;> simp_all
  rwa [h2] at h1
theorem Own.put {w : World} {base g n : Nat} {xs : List Int} (h : Own w base g n xs) (j : Nat) (x : Int) : Own (w.setCell ⟨g, j, none⟩ (.int .u32 x)) base g n (xs.set j x) := by
  have h1 := (World.ownsRow.stored h j (.int .u32 x)).1
  rwa [← List.map_set] at h1
theorem Own.elems {w : World} {base g n : Nat} {xs : List Int} (h : Own w base g n xs) : n = xs.length ∧ Elems encU 1 w (some ⟨g, 0, none⟩) xs := by
  have hl : n = xs.length := by have := h.1; simp at this; omega
  obtain ⟨a, c, h1, h2, _⟩ := elems_of_owns (enc := encU) (xs := xs) (fun _ => rfl) hl (show w.ownsRow base 152 1 (.slice (some ⟨g, 0, none⟩) n n) n (xs.flatMap encU) by have h2 : w.ownsRow base 152 1 (.slice (some ⟨g, 0, none⟩) n n) n (xs.map (Value.int .u32)) := h; rwa [show xs.flatMap encU = xs.map (Value.int .u32) by rw [← List.map_eq_flatMap]])
  obtain ⟨rfl, _, _⟩ := Value.slice.inj h1
  exact ⟨hl, h2⟩
theorem below_put {w w' : World} {base g j : Nat} (h : Below base w w') (hg : base ≤ g) (v : Value) : Below base w (w'.setCell ⟨g, j, none⟩ v) := h.setCell (p := ⟨g, j, none⟩) hg v
/-- The row on the way. -/
def mulSt (t : Nat → Int → Int) (n i : Nat) : List Int := lowT t i ++ carT t i :: List.replicate (n - i) 0
theorem mulSt_zero (t : Nat → Int → Int) (n : Nat) : mulSt t n 0 = List.replicate (n + 1) 0 := by
  simp [mulSt, lowT, carT, List.replicate_succ]
theorem mulSt_at (t : Nat → Int → Int) (n i : Nat) : (mulSt t n i)[i]? = some (carT t i) := by
  unfold mulSt
  rw [List.getElem?_append_right (by rw [lowT_len]; omega), lowT_len, Nat.sub_self]
  rfl
theorem mulSt_next (t : Nat → Int → Int) (n i : Nat) (x : Int) (h : i < n) : ((mulSt t n i).set i x)[i + 1]? = some 0 := by
  unfold mulSt
  rw [List.getElem?_set_ne (by omega), List.getElem?_append_right (by rw [lowT_len]; omega), lowT_len, show i + 1 - i = 0 + 1 by omega, List.getElem?_cons_succ, List.getElem?_replicate, if_pos (by omega)]
theorem mulSt_step (t : Nat → Int → Int) (n i : Nat) (h : i < n) : ((mulSt t n i).set i (t i (carT t i) % 4294967296)).set (i + 1) (t i (carT t i) / 4294967296) = mulSt t n (i + 1) := by
  unfold mulSt
  obtain ⟨m, rfl⟩ : ∃ m, n = i + 1 + m := ⟨n - (i + 1), by omega⟩
  rw [show i + 1 + m - i = m + 1 by omega, show i + 1 + m - (i + 1) = m by omega, List.replicate_succ, lowT, carT]
  rw [List.set_append, if_neg (by rw [lowT_len]; omega), lowT_len, Nat.sub_self, List.set_cons_zero, List.set_append, if_neg (by rw [lowT_len]; omega), lowT_len, show i + 1 - i = 0 + 1 by omega, List.set_cons_succ, List.set_cons_zero]
  simp
theorem mulSt_end (a : List Int) (y : Int) : mulSt (mulT a y) a.length a.length = mulRaw a y := by simp [mulSt, mulRaw]
def addSt (t : Nat → Int → Int) (n i : Nat) : List Int := lowT t i ++ List.replicate (n - i) 0
theorem addSt_zero (t : Nat → Int → Int) (n : Nat) : addSt t n 0 = List.replicate n 0 := by simp [addSt, lowT]
theorem addSt_at (t : Nat → Int → Int) (n i : Nat) (h : i < n) : (addSt t n i)[i]? = some 0 := by
  unfold addSt
  rw [List.getElem?_append_right (by rw [lowT_len]; omega), lowT_len, List.getElem?_replicate, if_pos (by omega)]
theorem addSt_set (t : Nat → Int → Int) (n i : Nat) (x : Int) (h : i < n) : (addSt t n i).set i x = lowT t i ++ x :: List.replicate (n - (i + 1)) 0 := by
  unfold addSt
  obtain ⟨m, rfl⟩ : ∃ m, n = i + 1 + m := ⟨n - (i + 1), by omega⟩
  rw [show i + 1 + m - i = m + 1 by omega, show i + 1 + m - (i + 1) = m by omega, List.replicate_succ, List.set_append, if_neg (by rw [lowT_len]; omega), lowT_len, Nat.sub_self, List.set_cons_zero]
theorem addSt_step (t : Nat → Int → Int) (n i : Nat) (h : i < n) : (addSt t n i).set i (t i (carT t i) % 4294967296) = addSt t n (i + 1) := by
  rw [addSt_set t n i _ h]
  simp [addSt, lowT]
set_option maxRecDepth 100000 in
set_option maxHeartbeats 4000000 in
theorem mul_nil (a a2 : Option Addr) (c n2 c2 : Nat) (w : World) : Calls Tryz.prog 82 #[.slice a 0 c, .slice a2 n2 c2] w fun e w' => e = .returned (.slice none 0 0) ∧ w' = w := by
  go_enter Tryz.func82, Tryz.ntmps82
  go_wp2
  go_ret
  exact ⟨rfl, rfl⟩
set_option maxRecDepth 100000 in
set_option maxHeartbeats 8000000 in
theorem mul_any (a a2 : Option Addr) (n c c2 : Nat) (xs : List Int) (y : Int) (w : World) (hl : n = xs.length) (h0 : 0 < n) (hx : Elems encU 1 w a xs) (hy : Elems encU 1 w a2 [y]) (hW : Words xs) (y0 : 0 ≤ y) (y1 : y < 4294967296) (hn : n ≤ 10000) :
    Calls Tryz.prog 82 #[.slice a n c, .slice a2 1 c2] w fun e w' => ∃ m, TrimOf (mulRaw xs y) m ∧ ∃ a' c', e = .returned (.slice a' m c') ∧ Elems encU 1 w' a' ((mulRaw xs y).take m) ∧ Below w.heap.size w w' ∧ m ≤ c' ∧ c' ≤ maxLen := by
  obtain ⟨b2, o2, rfl, hc2⟩ := hy.some (show 0 < [y].length by simp)
  have cy : w.cell? ⟨b2, o2, none⟩ = some (.int .u32 y) := by have h := hc2 0 (by simp) 0 _ rfl; simpa using h
  clear hc2 hy
  obtain ⟨Z, hmk, hrow⟩ := made_row rowU (n + 1) ((n : Int) + 1) (by omega) (by omega) (by unfold maxLen; omega)
  have hk1 : IntKind.i64.wrap ((n : Int) + 1) = (n : Int) + 1 := IntWalk.i64_in _ (by omega)
  have hd0 : ((n : Int) == 0) = false := by simp; omega
  have HX := Lib.hid hx
  have HL := Lib.hid hl
  have HW := Lib.hid hW
  have HR0 : Hid (Own (w.alloc (.cells Z 152)) w.heap.size w.heap.size (n + 1) (mulSt (mulT xs y) n 0)) := Lib.hid (by
    have h : (w.alloc (.cells Z 152)).ownsRow w.heap.size 152 1 (.slice (some ⟨w.heap.size, 0, none⟩) (n + 1) (n + 1)) (n + 1) (madeCells #[Value.int .u32 0] ((n + 1) * 1)).toList := hrow w w.heap.size (Nat.le_refl _)
    rw [made_words] at h
    rw [mulSt_zero]
    exact h)
  have HB0 : Hid (Below w.heap.size w (w.alloc (.cells Z 152))) := Lib.hid ((Below.refl _ _).alloc (Nat.le_refl _) _)
  obtain ⟨g, hg⟩ : ∃ g, g = w.heap.size := ⟨_, rfl⟩
  have HG := Lib.hid hg
  have HMS := Lib.hid (fun i => mul_step HW.out y0 y1 i)
  have HMC := Lib.hid (fun i => mul_carry HW.out y0 y1 i)
  have hyw : IntKind.u64.wrap y = y := u64_in y y0 (by omega)
  clear hx hl hW hrow y0 y1 hg
  go_enter Tryz.func82, Tryz.ntmps82
  go_wp2
  go_loopw [6] (fun iv wr => ∃ i : Nat, i ≤ n ∧ iv = .int .i64 i ∧ Hid (Own wr w.heap.size w.heap.size (n + 1) (mulSt (mulT xs y) n i)) ∧ Hid (Below w.heap.size w wr)) (fun iv _ => n - (intOf iv).toNat)
  case atStart => exact ⟨0, by omega, rfl, HR0, HB0⟩
  case round =>
    obtain ⟨i, hi, rfl, HR, HB⟩ := hrel
    clear HR0 HB0
    by_cases hlt : i < n
    · have hltx : i < xs.length := by rw [← HL.out]; exact hlt
      obtain ⟨b, o, rfl, hcx⟩ := HX.out.some hltx
      have cx := hcx i hltx 0 _ rfl
      simp only [Nat.add_zero, Nat.mul_one] at cx
      clear hcx
      have hT := HMS.out i
      have hC := HMC.out i
      have hX := HW.out xs[i] (List.getElem_mem hltx)
      have HST := Lib.hid (mulSt_step (mulT xs y) n i hlt)
      have HNX := Lib.hid (fun x => mulSt_next (mulT xs y) n i x hlt)
      have HAT := Lib.hid (mulSt_at (mulT xs y) n i)
      have hTe : mulT xs y i (carT (mulT xs y) i) = xs[i] * y + carT (mulT xs y) i := by
        unfold mulT
        rw [List.getD_eq_getElem?_getD, List.getElem?_eq_getElem hltx]
        rfl
      generalize mulSt (mulT xs y) n i = st at *
      rw [hTe] at hT HST
      generalize carT (mulT xs y) i = C at *
      generalize xs[i] = X at *
      have hXw : IntKind.u64.wrap X = X := u64_in X hX.1 (by omega)
      have hCw : IntKind.u64.wrap C = C := u64_in C hC.1 (by omega)
      have hXy : 0 ≤ X * y ∧ X * y < 18446744073709551616 := by
        have h1 : 0 ≤ X * y ∨ X * y < 0 := by omega
        refine ⟨?_, by omega⟩
        rcases h1 with h1 | h1
        · exact h1
        · have := hT.1; have := hT.2; have h9 := HMS.out; have hyy : 0 ≤ y := by
            rcases Int.lt_or_le y 0 with h | h
            · exfalso
              have : IntKind.u64.wrap y = y := hyw
              simp [IntKind.wrap, IntKind.signed, IntKind.bits] at this
              omega
            · exact h
          exact Int.mul_nonneg hX.1 hyy
      have hmw : IntKind.u64.wrap (X * y) = X * y := u64_in _ hXy.1 hXy.2
      have htw : IntKind.u64.wrap (X * y + C) = X * y + C := u64_in _ hT.1 hT.2
      obtain ⟨T, hTT⟩ : ∃ T, T = X * y + C := ⟨_, rfl⟩
      have htw2 : IntKind.u64.wrap (X * y + C) = T := htw.trans hTT.symm
      rw [← hTT] at hT HST
      have hTw : IntKind.u64.wrap T = T := u64_in _ hT.1 hT.2
      obtain ⟨Lo, hLo⟩ : ∃ Lo, Lo = T % 4294967296 := ⟨_, rfl⟩
      obtain ⟨Q, hQ⟩ : ∃ Q, Q = T / 4294967296 := ⟨_, rfl⟩
      rw [← hLo, ← hQ] at HST
      have hLw : IntKind.u32.wrap T = Lo := by rw [u32_mod, hLo]
      have hQw : IntKind.u32.wrap Q = Q := u32_in Q (by omega) (by omega)
      have hQd : T / 4294967296 = Q := hQ.symm
      have hiw : IntKind.i64.wrap (i : Int) = (i : Int) := IntWalk.i64_in _ (by omega)
      have hiw2 : IntKind.i64.wrap ((i : Int) + 1) = (i : Int) + 1 := IntWalk.i64_in _ (by omega)
      have hbw : b < w.heap.size := lt_of_cell cx
      have hbw2 : b2 < w.heap.size := lt_of_cell cy
      clear hTe hXy hT hX hC hTT hLo hQ htw
      go_wp2
      go_loopw [7, 8] (fun cv jv wi => (cv = .int .u64 0 ∧ jv = .int .i64 0 ∧ Hid (Own wi w.heap.size w.heap.size (n + 1) st) ∧ Hid (Below w.heap.size w wi)) ∨ (cv = .int .u64 Q ∧ jv = .int .i64 1 ∧ Hid (Own wi w.heap.size w.heap.size (n + 1) (st.set i Lo)) ∧ Hid (Below w.heap.size w wi))) (fun _ jv _ => 1 - (intOf jv).toNat)
      case atStart => exact Or.inl ⟨rfl, rfl, HR, HB⟩
      case round =>
        rcases hrel with ⟨rfl, rfl, HR1, HB1⟩ | ⟨rfl, rfl, HR1, HB1⟩
        · have d0 := (HB1.out.cell (p := ⟨b, o + i, none⟩) hbw).trans cx
          have d2 := (HB1.out.cell (p := ⟨b2, o2, none⟩) hbw2).trans cy
          have dr := HR1.out.get HAT.out
          go_wp2
          go_quiet (fail)
          obtain ⟨wV, hV⟩ : ∃ wV, wV = wr.drewN nq := ⟨_, rfl⟩
          have HRV : Hid (Own wV w.heap.size w.heap.size (n + 1) st) := Lib.hid (by rw [hV]; exact HR1.out.at (below_drewN wr nq _))
          have HBV : Hid (Below w.heap.size w wV) := Lib.hid (by rw [hV]; exact HB1.out.trans (below_drewN wr nq _))
          rw [← hV]
          clear hV HR1 HB1 d0 d2 dr
          have e2 := HRV.out.get HAT.out
          have hf : wV.frozen? ⟨w.heap.size, i, none⟩ = false := World.ownsRow.frozenAt HRV.out i
          have HRW := Lib.hid (HRV.out.put i Lo)
          have HBW := Lib.hid (below_put (j := i) HBV.out (Nat.le_refl _) (.int .u32 Lo))
          clear HRV HBV
          go_wp2
          exact ⟨Or.inr ⟨rfl, rfl, HRW, HBW⟩, by simp [intOf]⟩
        · have e2 := HR1.out.get (HNX.out Lo)
          have hf : wr.frozen? ⟨w.heap.size, i + 1, none⟩ = false := World.ownsRow.frozenAt HR1.out (i + 1)
          have HRW := Lib.hid (HST.out ▸ HR1.out.put (i + 1) Q)
          have HBW := Lib.hid (below_put (j := i + 1) HB1.out (Nat.le_refl _) (.int .u32 Q))
          clear HR1 HB1
          go_wp2
          exact ⟨⟨i + 1, by omega, by go_num, HRW, HBW⟩, by simp [intOf]; omega⟩
    · obtain rfl : i = n := by omega
      have hr : Own wr w.heap.size w.heap.size (i + 1) (mulRaw xs y) := by
        have h := HR.out
        have h2 := mulSt_end xs y
        rw [← HL.out] at h2
        rwa [h2] at h
      have HE := Lib.hid hr.elems
      clear hr HR
      go_wp2_with (go_at_call 111; refine (trim_any _ _ _ (mulRaw xs y) _ HE.out.1 (by rw [← HE.out.1]; omega) HE.out.2 (Nat.le_refl _) (by unfold maxLen; omega)).mono ?_; rintro e w' ⟨m, a', c', ht, rfl, hel, rfl, hm, hc⟩)
      go_ret
      exact ⟨m, ht, _, _, rfl, hel, HB.out, hm, hc⟩
set_option maxRecDepth 100000 in
set_option maxHeartbeats 8000000 in
theorem add_any (a a2 : Option Addr) (n n2 c c2 : Nat) (xs ys : List Int) (w : World) (hl : n = xs.length) (hl2 : n2 = ys.length) (hle : n2 ≤ n) (hx : Elems encU 1 w a xs) (hy : Elems encU 1 w a2 ys) (hW : Words xs) (hW2 : Words ys) (hn : n ≤ 10000) (hn2 : n2 ≤ 10000) :
    Calls Tryz.prog 81 #[.slice a n c, .slice a2 n2 c2] w fun e w' => ∃ m, TrimOf (addRaw xs ys) m ∧ ∃ a' c', e = .returned (.slice a' m c') ∧ Elems encU 1 w' a' ((addRaw xs ys).take m) ∧ Below w.heap.size w w' ∧ m ≤ c' ∧ c' ≤ maxLen := by
  obtain ⟨Z, hmk, hrow⟩ := made_row rowU (n + 1) ((n : Int) + 1) (by omega) (by omega) (by unfold maxLen; omega)
  have hk1 : IntKind.i64.wrap ((n : Int) + 1) = (n : Int) + 1 := IntWalk.i64_in _ (by omega)
  have hd0 : decide ((n : Int) < (n2 : Int)) = false := decide_eq_false (by omega)
  have HM := Lib.hid hx
  have HS := Lib.hid hy
  have HL := Lib.hid hl
  have HL2 := Lib.hid hl2
  have HWM := Lib.hid hW
  have HWS := Lib.hid hW2
  have HR0 : Hid (Own (w.alloc (.cells Z 152)) w.heap.size w.heap.size (n + 1) (addSt (addT xs ys) (n + 1) 0)) := Lib.hid (by
    have h : (w.alloc (.cells Z 152)).ownsRow w.heap.size 152 1 (.slice (some ⟨w.heap.size, 0, none⟩) (n + 1) (n + 1)) (n + 1) (madeCells #[.int .u32 0] ((n + 1) * 1)).toList := hrow w w.heap.size (Nat.le_refl _)
    rw [made_words] at h
    rw [addSt_zero]
    exact h)
  have HB0 : Hid (Below w.heap.size w (w.alloc (.cells Z 152))) := Lib.hid ((Below.refl _ _).alloc (Nat.le_refl _) _)
  have HMC := Lib.hid (fun i => add_carry HWM.out HWS.out i)
  clear hl hl2 hx hy hW hW2 hrow
  go_enter Tryz.func81, Tryz.ntmps81
  go_wp2
  go_loopw [6, 7] (fun cv iv wr => ∃ i : Nat, i ≤ n ∧ cv = .int .u64 (carT (addT xs ys) i) ∧ iv = .int .i64 i ∧ Hid (Own wr w.heap.size w.heap.size (n + 1) (addSt (addT xs ys) (n + 1) i)) ∧ Hid (Below w.heap.size w wr)) (fun _ iv _ => n - (intOf iv).toNat)
  case atStart => exact ⟨0, by omega, rfl, rfl, HR0, HB0⟩
  case round =>
    obtain ⟨i, hi, rfl, rfl, HR, HB⟩ := hrel
    clear HR0 HB0
    by_cases hlt : i < n
    · have hltx : i < xs.length := by rw [← HL.out]; exact hlt
      obtain ⟨b, o, rfl, hcx⟩ := HM.out.some hltx
      have cx := hcx i hltx 0 _ rfl
      simp only [Nat.add_zero, Nat.mul_one] at cx
      clear hcx
      have hC := HMC.out i
      have hX := HWM.out xs[i] (List.getElem_mem hltx)
      have HST := Lib.hid (addSt_step (addT xs ys) (n + 1) i (by omega))
      have HAT := Lib.hid (addSt_at (addT xs ys) (n + 1) i (by omega))
      have hbw : b < w.heap.size := lt_of_cell cx
      have d0 := (HB.out.cell (p := ⟨b, o + i, none⟩) hbw).trans cx
      have e2 := HR.out.get HAT.out
      have hf : wr.frozen? ⟨w.heap.size, i, none⟩ = false := World.ownsRow.frozenAt HR.out i
      have hiw2 : IntKind.i64.wrap ((i : Int) + 1) = (i : Int) + 1 := IntWalk.i64_in _ (by omega)
      have HCN : Hid (carT (addT xs ys) (i + 1) = addT xs ys i (carT (addT xs ys) i) / 4294967296) := Lib.hid rfl
      by_cases hs : i < n2
      · have hlts : i < ys.length := by rw [← HL2.out]; exact hs
        obtain ⟨b2, o2, rfl, hcy⟩ := HS.out.some hlts
        have cy := hcy i hlts 0 _ rfl
        simp only [Nat.add_zero, Nat.mul_one] at cy
        clear hcy
        have hbw2 : b2 < w.heap.size := lt_of_cell cy
        have d2 := (HB.out.cell (p := ⟨b2, o2 + i, none⟩) hbw2).trans cy
        have hY := HWS.out ys[i] (List.getElem_mem hlts)
        have hTe : addT xs ys i (carT (addT xs ys) i) = carT (addT xs ys) i + xs[i] + ys[i] := by
          unfold addT
          rw [List.getD_eq_getElem?_getD, List.getElem?_eq_getElem hltx, List.getD_eq_getElem?_getD, List.getElem?_eq_getElem hlts]
          rfl
        rw [hTe] at HST HCN
        generalize addSt (addT xs ys) (n + 1) i = st at *
        obtain ⟨C2, hC2⟩ : ∃ C2, C2 = carT (addT xs ys) (i + 1) := ⟨_, rfl⟩
        rw [← hC2] at HCN
        have HC2 := Lib.hid hC2
        clear hC2
        generalize carT (addT xs ys) i = C at *
        generalize xs[i] = X at *
        generalize ys[i] = Y at *
        have hXw : IntKind.u64.wrap X = X := u64_in X hX.1 (by omega)
        have hYw : IntKind.u64.wrap Y = Y := u64_in Y hY.1 (by omega)
        have h1w : IntKind.u64.wrap (C + X) = C + X := u64_in _ (by omega) (by omega)
        obtain ⟨T, hTT⟩ : ∃ T, T = C + X + Y := ⟨_, rfl⟩
        have h2w : IntKind.u64.wrap (C + X + Y) = T := (u64_in _ (by omega) (by omega)).trans hTT.symm
        rw [← hTT] at HST HCN
        have hLw : IntKind.u32.wrap T = T % 4294967296 := u32_mod T
        have hQd : T / 4294967296 = C2 := HCN.out.symm
        have HRW := Lib.hid (HST.out ▸ HR.out.put i (T % 4294967296))
        have HBW := Lib.hid (below_put (j := i) HB.out (Nat.le_refl _) (.int .u32 (T % 4294967296)))
        clear hTe hX hY hC hTT HST HR HB cx cy HCN
        go_wp2
        exact ⟨⟨i + 1, by omega, by rw [← HC2.out], by go_num, HRW, HBW⟩, by simp [intOf]; omega⟩
      · have hTe : addT xs ys i (carT (addT xs ys) i) = carT (addT xs ys) i + xs[i] := by
          unfold addT
          rw [List.getD_eq_getElem?_getD, List.getElem?_eq_getElem hltx, List.getD_eq_getElem?_getD, List.getElem?_eq_none (by rw [← HL2.out]; omega)]
          simp
        rw [hTe] at HST HCN
        generalize addSt (addT xs ys) (n + 1) i = st at *
        obtain ⟨C2, hC2⟩ : ∃ C2, C2 = carT (addT xs ys) (i + 1) := ⟨_, rfl⟩
        rw [← hC2] at HCN
        have HC2 := Lib.hid hC2
        clear hC2
        generalize carT (addT xs ys) i = C at *
        generalize xs[i] = X at *
        have hXw : IntKind.u64.wrap X = X := u64_in X hX.1 (by omega)
        obtain ⟨T, hTT⟩ : ∃ T, T = C + X := ⟨_, rfl⟩
        have h2w : IntKind.u64.wrap (C + X) = T := (u64_in _ (by omega) (by omega)).trans hTT.symm
        rw [← hTT] at HST HCN
        have hLw : IntKind.u32.wrap T = T % 4294967296 := u32_mod T
        have hQd : T / 4294967296 = C2 := HCN.out.symm
        have HRW := Lib.hid (HST.out ▸ HR.out.put i (T % 4294967296))
        have HBW := Lib.hid (below_put (j := i) HB.out (Nat.le_refl _) (.int .u32 (T % 4294967296)))
        clear hTe hX hC hTT HST HR HB cx HCN
        go_wp2
        exact ⟨⟨i + 1, by omega, by rw [← HC2.out], by go_num, HRW, HBW⟩, by simp [intOf]; omega⟩
    · obtain rfl : i = n := by omega
      have hC := HMC.out i
      have HSE := Lib.hid (addSt_set (addT xs ys) (i + 1) i (carT (addT xs ys) i) (by omega))
      have e2 := HR.out.get (addSt_at (addT xs ys) (i + 1) i (by omega))
      have hf : wr.frozen? ⟨w.heap.size, i, none⟩ = false := World.ownsRow.frozenAt HR.out i
      have hCw : IntKind.u32.wrap (carT (addT xs ys) i) = carT (addT xs ys) i := u32_in _ hC.1 (by omega)
      have hr : Own (wr.setCell ⟨w.heap.size, i, none⟩ (.int .u32 (carT (addT xs ys) i))) w.heap.size w.heap.size (i + 1) (addRaw xs ys) := by
        have h := HR.out.put i (carT (addT xs ys) i)
        rw [HSE.out] at h
        unfold addRaw
        rw [← HL.out]
        simpa using h
      have HE := Lib.hid hr.elems
      have HBW := Lib.hid (below_put (j := i) HB.out (Nat.le_refl _) (.int .u32 (carT (addT xs ys) i)))
      clear hr HR HSE hC HB
      generalize carT (addT xs ys) i = C at *
      go_wp2_with (go_at_call 111; refine (trim_any _ _ _ (addRaw xs ys) _ HE.out.1 (by rw [← HE.out.1]; omega) HE.out.2 (Nat.le_refl _) (by unfold maxLen; omega)).mono ?_; rintro e w' ⟨m, a', c', ht, rfl, hel, rfl, hm, hc⟩)
      go_ret
      exact ⟨m, ht, _, _, rfl, hel, HBW.out, hm, hc⟩
set_option maxRecDepth 100000 in
set_option maxHeartbeats 8000000 in
theorem add_swap (a a2 : Option Addr) (n n2 c c2 : Nat) (xs ys : List Int) (w : World) (hl : n = xs.length) (hl2 : n2 = ys.length) (hle : n < n2) (hx : Elems encU 1 w a xs) (hy : Elems encU 1 w a2 ys) (hW : Words xs) (hW2 : Words ys) (hn : n ≤ 10000) (hn2 : n2 ≤ 10000) :
    Calls Tryz.prog 81 #[.slice a n c, .slice a2 n2 c2] w fun e w' => ∃ m, TrimOf (addRaw ys xs) m ∧ ∃ a' c', e = .returned (.slice a' m c') ∧ Elems encU 1 w' a' ((addRaw ys xs).take m) ∧ Below w.heap.size w w' ∧ m ≤ c' ∧ c' ≤ maxLen := by
  obtain ⟨Z, hmk, hrow⟩ := made_row rowU (n2 + 1) ((n2 : Int) + 1) (by omega) (by omega) (by unfold maxLen; omega)
  have hk1 : IntKind.i64.wrap ((n2 : Int) + 1) = (n2 : Int) + 1 := IntWalk.i64_in _ (by omega)
  have hd0 : decide ((n : Int) < (n2 : Int)) = true := decide_eq_true (by omega)
  have HM := Lib.hid hy
  have HS := Lib.hid hx
  have HL := Lib.hid hl2
  have HL2 := Lib.hid hl
  have HWM := Lib.hid hW2
  have HWS := Lib.hid hW
  have HR0 : Hid (Own (w.alloc (.cells Z 152)) w.heap.size w.heap.size (n2 + 1) (addSt (addT ys xs) (n2 + 1) 0)) := Lib.hid (by
    have h : (w.alloc (.cells Z 152)).ownsRow w.heap.size 152 1 (.slice (some ⟨w.heap.size, 0, none⟩) (n2 + 1) (n2 + 1)) (n2 + 1) (madeCells #[.int .u32 0] ((n2 + 1) * 1)).toList := hrow w w.heap.size (Nat.le_refl _)
    rw [made_words] at h
    rw [addSt_zero]
    exact h)
  have HB0 : Hid (Below w.heap.size w (w.alloc (.cells Z 152))) := Lib.hid ((Below.refl _ _).alloc (Nat.le_refl _) _)
  have HMC := Lib.hid (fun i => add_carry HWM.out HWS.out i)
  clear hl hl2 hx hy hW hW2 hrow
  go_enter Tryz.func81, Tryz.ntmps81
  go_wp2
  go_loopw [6, 7] (fun cv iv wr => ∃ i : Nat, i ≤ n2 ∧ cv = .int .u64 (carT (addT ys xs) i) ∧ iv = .int .i64 i ∧ Hid (Own wr w.heap.size w.heap.size (n2 + 1) (addSt (addT ys xs) (n2 + 1) i)) ∧ Hid (Below w.heap.size w wr)) (fun _ iv _ => n2 - (intOf iv).toNat)
  case atStart => exact ⟨0, by omega, rfl, rfl, HR0, HB0⟩
  case round =>
    obtain ⟨i, hi, rfl, rfl, HR, HB⟩ := hrel
    clear HR0 HB0
    by_cases hlt : i < n2
    · have hltx : i < ys.length := by rw [← HL.out]; exact hlt
      obtain ⟨b, o, rfl, hcx⟩ := HM.out.some hltx
      have cx := hcx i hltx 0 _ rfl
      simp only [Nat.add_zero, Nat.mul_one] at cx
      clear hcx
      have hC := HMC.out i
      have hX := HWM.out ys[i] (List.getElem_mem hltx)
      have HST := Lib.hid (addSt_step (addT ys xs) (n2 + 1) i (by omega))
      have HAT := Lib.hid (addSt_at (addT ys xs) (n2 + 1) i (by omega))
      have hbw : b < w.heap.size := lt_of_cell cx
      have d0 := (HB.out.cell (p := ⟨b, o + i, none⟩) hbw).trans cx
      have e2 := HR.out.get HAT.out
      have hf : wr.frozen? ⟨w.heap.size, i, none⟩ = false := World.ownsRow.frozenAt HR.out i
      have hiw2 : IntKind.i64.wrap ((i : Int) + 1) = (i : Int) + 1 := IntWalk.i64_in _ (by omega)
      have HCN : Hid (carT (addT ys xs) (i + 1) = addT ys xs i (carT (addT ys xs) i) / 4294967296) := Lib.hid rfl
      by_cases hs : i < n
      · have hlts : i < xs.length := by rw [← HL2.out]; exact hs
        obtain ⟨b2, o2, rfl, hcy⟩ := HS.out.some hlts
        have cy := hcy i hlts 0 _ rfl
        simp only [Nat.add_zero, Nat.mul_one] at cy
        clear hcy
        have hbw2 : b2 < w.heap.size := lt_of_cell cy
        have d2 := (HB.out.cell (p := ⟨b2, o2 + i, none⟩) hbw2).trans cy
        have hY := HWS.out xs[i] (List.getElem_mem hlts)
        have hTe : addT ys xs i (carT (addT ys xs) i) = carT (addT ys xs) i + ys[i] + xs[i] := by
          unfold addT
          rw [List.getD_eq_getElem?_getD, List.getElem?_eq_getElem hltx, List.getD_eq_getElem?_getD, List.getElem?_eq_getElem hlts]
          rfl
        rw [hTe] at HST HCN
        generalize addSt (addT ys xs) (n2 + 1) i = st at *
        obtain ⟨C2, hC2⟩ : ∃ C2, C2 = carT (addT ys xs) (i + 1) := ⟨_, rfl⟩
        rw [← hC2] at HCN
        have HC2 := Lib.hid hC2
        clear hC2
        generalize carT (addT ys xs) i = C at *
        generalize ys[i] = X at *
        generalize xs[i] = Y at *
        have hXw : IntKind.u64.wrap X = X := u64_in X hX.1 (by omega)
        have hYw : IntKind.u64.wrap Y = Y := u64_in Y hY.1 (by omega)
        have h1w : IntKind.u64.wrap (C + X) = C + X := u64_in _ (by omega) (by omega)
        obtain ⟨T, hTT⟩ : ∃ T, T = C + X + Y := ⟨_, rfl⟩
        have h2w : IntKind.u64.wrap (C + X + Y) = T := (u64_in _ (by omega) (by omega)).trans hTT.symm
        rw [← hTT] at HST HCN
        have hLw : IntKind.u32.wrap T = T % 4294967296 := u32_mod T
        have hQd : T / 4294967296 = C2 := HCN.out.symm
        have HRW := Lib.hid (HST.out ▸ HR.out.put i (T % 4294967296))
        have HBW := Lib.hid (below_put (j := i) HB.out (Nat.le_refl _) (.int .u32 (T % 4294967296)))
        clear hTe hX hY hC hTT HST HR HB cx cy HCN
        go_wp2
        exact ⟨⟨i + 1, by omega, by rw [← HC2.out], by go_num, HRW, HBW⟩, by simp [intOf]; omega⟩
      · have hTe : addT ys xs i (carT (addT ys xs) i) = carT (addT ys xs) i + ys[i] := by
          unfold addT
          rw [List.getD_eq_getElem?_getD, List.getElem?_eq_getElem hltx, List.getD_eq_getElem?_getD, List.getElem?_eq_none (by rw [← HL2.out]; omega)]
          simp
        rw [hTe] at HST HCN
        generalize addSt (addT ys xs) (n2 + 1) i = st at *
        obtain ⟨C2, hC2⟩ : ∃ C2, C2 = carT (addT ys xs) (i + 1) := ⟨_, rfl⟩
        rw [← hC2] at HCN
        have HC2 := Lib.hid hC2
        clear hC2
        generalize carT (addT ys xs) i = C at *
        generalize ys[i] = X at *
        have hXw : IntKind.u64.wrap X = X := u64_in X hX.1 (by omega)
        obtain ⟨T, hTT⟩ : ∃ T, T = C + X := ⟨_, rfl⟩
        have h2w : IntKind.u64.wrap (C + X) = T := (u64_in _ (by omega) (by omega)).trans hTT.symm
        rw [← hTT] at HST HCN
        have hLw : IntKind.u32.wrap T = T % 4294967296 := u32_mod T
        have hQd : T / 4294967296 = C2 := HCN.out.symm
        have HRW := Lib.hid (HST.out ▸ HR.out.put i (T % 4294967296))
        have HBW := Lib.hid (below_put (j := i) HB.out (Nat.le_refl _) (.int .u32 (T % 4294967296)))
        clear hTe hX hC hTT HST HR HB cx HCN
        go_wp2
        exact ⟨⟨i + 1, by omega, by rw [← HC2.out], by go_num, HRW, HBW⟩, by simp [intOf]; omega⟩
    · obtain rfl : i = n2 := by omega
      have hC := HMC.out i
      have HSE := Lib.hid (addSt_set (addT ys xs) (i + 1) i (carT (addT ys xs) i) (by omega))
      have e2 := HR.out.get (addSt_at (addT ys xs) (i + 1) i (by omega))
      have hf : wr.frozen? ⟨w.heap.size, i, none⟩ = false := World.ownsRow.frozenAt HR.out i
      have hCw : IntKind.u32.wrap (carT (addT ys xs) i) = carT (addT ys xs) i := u32_in _ hC.1 (by omega)
      have hr : Own (wr.setCell ⟨w.heap.size, i, none⟩ (.int .u32 (carT (addT ys xs) i))) w.heap.size w.heap.size (i + 1) (addRaw ys xs) := by
        have h := HR.out.put i (carT (addT ys xs) i)
        rw [HSE.out] at h
        unfold addRaw
        rw [← HL.out]
        simpa using h
      have HE := Lib.hid hr.elems
      have HBW := Lib.hid (below_put (j := i) HB.out (Nat.le_refl _) (.int .u32 (carT (addT ys xs) i)))
      clear hr HR HSE hC HB
      generalize carT (addT ys xs) i = C at *
      go_wp2_with (go_at_call 111; refine (trim_any _ _ _ (addRaw ys xs) _ HE.out.1 (by rw [← HE.out.1]; omega) HE.out.2 (Nat.le_refl _) (by unfold maxLen; omega)).mono ?_; rintro e w' ⟨m, a', c', ht, rfl, hel, rfl, hm, hc⟩)
      go_ret
      exact ⟨m, ht, _, _, rfl, hel, HBW.out, hm, hc⟩
end Go.Proofs.YtannijeiecmjpaaGreatDoor
