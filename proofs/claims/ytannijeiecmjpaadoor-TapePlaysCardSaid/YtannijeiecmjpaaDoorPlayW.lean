/- tape.Play: what becomes of each call, event by event. -/
import Derived.Test.YtannijeiecmjpaaDoorPlayF
import Derived.Test.YtannijeiecmjpaaDoorTapeChk
import Derived.Deep.DeepCutAuto
import Derived.Deep.CutBlock
namespace Go.Proofs.YtannijeiecmjpaaDoor
open Go.RowKit

theorem rowFt : RowOf Tryd.prog 57 63 (.agg #[.int .i64 0, .int .i64 0]) 2 16 := rowOf Tryd.underlying57 (by kernel_rfl) rfl (by decide)
def playErr (xs : List R3) (ag : Int) : Int := if callsCheck xs ≠ 0 then callsCheck xs else if ag < 0 ∨ 20 < ag then 4 else 0
/-- What tape.Play answers. -/
def PlayPost (xs : List R3) (ag : Int) (w : World) (e : Ending) (w' : World) : Prop :=
  Below w.heap.size w w' ∧ ((playErr xs ag ≠ 0 ∧ e = .returned (.tuple #[.slice none 0 0, errV (playErr xs ag)])) ∨
    (playErr xs ag = 0 ∧ ∃ a c, e = .returned (.tuple #[.slice a xs.length c, .nilIface]) ∧ Elems encF 2 w' a (foTo ag.toNat xs xs.length)))
/-- The events of the first k calls. -/
def evsT (xs : List R3) (k : Nat) : List Int := (List.range k).flatMap fun i => [cA xs i, cD xs i]
theorem evs_succ (xs : List R3) (k : Nat) : evsT xs (k + 1) = evsT xs k ++ [cA xs k] ++ [cD xs k] := by
  unfold evsT
  rw [List.range_succ, List.flatMap_append]
  simp
theorem evs_len (xs : List R3) : ∀ k, (evsT xs k).length = 2 * k := by
  intro k
  induction k with
  | zero => rfl
  | succ k ih => rw [evs_succ]; simp [ih]; omega
theorem evs_mem {xs : List R3} {k i : Nat} (h : i < k) : cA xs i ∈ evsT xs k ∧ cD xs i ∈ evsT xs k := by
  unfold evsT
  simp only [List.mem_flatMap, List.mem_range]
  exact ⟨⟨i, h, by simp⟩, ⟨i, h, by simp⟩⟩
theorem evs_bound {xs : List R3} (h : GoodC xs) {k : Nat} (hk : k ≤ xs.length) : ∀ y ∈ evsT xs k, 0 ≤ y ∧ y ≤ 3000000000 := by
  intro y hy
  unfold evsT at hy
  simp only [List.mem_flatMap, List.mem_range] at hy
  obtain ⟨i, hi, hy⟩ := hy
  obtain ⟨g1, g2, g3, g4, g5, g6⟩ := h.2.1 i (by omega)
  simp at hy
  rcases hy with rfl | rfl <;> omega
theorem cell_new1 (w : World) (v : Value) (t : TypeId) : (w.alloc (.cells #[v] t)).cell? ⟨w.heap.size, 0, none⟩ = some v := by simp
theorem start_play {w w1 : World} {a : Option Addr} {n cap m : Nat} {Z Z2 : Array Value} (hb1 : Below w.heap.size w w1) (hs1 : w.heap.size + 1 ≤ w1.heap.size) (cL : w1.cell? ⟨w.heap.size, 0, none⟩ = some (.slice a n cap))
    (h1 : ∀ (w : World) (base : Nat), base ≤ w.heap.size → (w.alloc (.cells Z 63)).ownsRow base 63 2 (.slice (some ⟨w.heap.size, 0, none⟩) n n) n ((List.replicate n ((0 : Int), (0 : Int))).flatMap encF))
    (h2 : ∀ (w : World) (base : Nat), base ≤ w.heap.size → (w.alloc (.cells Z2 3)).ownsRow base 3 1 (.slice (some ⟨w.heap.size, 0, none⟩) m m) m ((List.replicate m (0 : Int)).map (Value.int .i64))) (t1 t2 : TypeId) :
    PlayAt w a n cap m w1.heap.size (.slice none 0 0) [] (List.replicate m 0) (List.replicate n (0, 0)) (.slice none 0 0) [] ((((w1.alloc (.cells Z 63)).alloc (.cells #[.slice (some ⟨w1.heap.size, 0, none⟩) n n] t1)).alloc (.cells Z2 3)).alloc (.cells #[.slice none 0 0] t2)) := by
  have s1 : (w1.alloc (.cells Z 63)).heap.size = w1.heap.size + 1 := by simp
  have s2 : ((w1.alloc (.cells Z 63)).alloc (.cells #[.slice (some ⟨w1.heap.size, 0, none⟩) n n] t1)).heap.size = w1.heap.size + 2 := by simp
  have s3 : (((w1.alloc (.cells Z 63)).alloc (.cells #[.slice (some ⟨w1.heap.size, 0, none⟩) n n] t1)).alloc (.cells Z2 3)).heap.size = w1.heap.size + 3 := by simp
  have r2 := h2 ((w1.alloc (.cells Z 63)).alloc (.cells #[.slice (some ⟨w1.heap.size, 0, none⟩) n n] t1)) (w.heap.size + 1) (by omega)
  rw [s2] at r2
  refine ⟨⟨cell_a1 (cell_a3 cL _ _ _) _, cell_a2 ?_ _ _, (((h1 w1 (w.heap.size + 1) hs1).alloc _).alloc _).alloc _, r2.alloc _, ?_, ?_, World.ownsRow_nil _ _ _ _, ?_, hs1, by simp⟩, Or.inl ⟨rfl, rfl⟩, fun b hb => by cases hb⟩
  · have q := cell_new1 (w1.alloc (.cells Z 63)) (.slice (some ⟨w1.heap.size, 0, none⟩) n n) t1
    rw [s1] at q; exact q
  · have q := cell_new1 (((w1.alloc (.cells Z 63)).alloc (.cells #[.slice (some ⟨w1.heap.size, 0, none⟩) n n] t1)).alloc (.cells Z2 3)) (.slice none 0 0) t2
    rw [s3] at q; exact q
  · rw [← s3]; unfold World.frozen? World.alloc; simp only [Array.getElem?_push_size]; rfl
  · exact (((hb1.alloc hb1.size _).alloc (by omega) _).alloc (by omega) _).alloc (by omega) _
theorem nI_filter (xs : List R3) (T : Int) (l : List Nat) : (nI l).filter (fun x => !goneP xs T x) = nI (l.filter (fun i => decide (T < cD xs i))) := by
  unfold nI
  rw [List.filter_map]
  congr 1
  apply List.filter_congr
  intro i _
  simp only [Function.comp, goneP, Int.toNat_natCast]
  by_cases h : cD xs i ≤ T
  · have h2 : ¬ T < cD xs i := by omega
    simp [h, h2]
  · have h2 : T < cD xs i := by omega
    simp [h, h2]
def vLen : Value → Nat
  | .slice _ n _ => n
  | _ => 0
/-- The box of the time. -/
structure NowAt (G bn : Nat) (T : Int) (cs wv : Value) (wx : World) : Prop where
  cell : wx.cell? ⟨bn, 0, none⟩ = some (.int .i64 T)
  cs : cs.ownBlock ≠ some bn
  wt : wv.ownBlock ≠ some bn
  ge : G + 4 ≤ bn
theorem NowAt.next {G bn : Nat} {T : Int} {cs wv : Value} {wx wx' : World} (H : NowAt G bn T cs wv wx) (h : Below wx.heap.size wx wx') : NowAt G bn T cs wv wx' := ⟨(h.cell (lt_of_cell H.cell)).trans H.cell, H.cs, H.wt, H.ge⟩
theorem NowAt.await {G bn : Nat} {T : Int} {cs wv wv' : Value} {wx wx' : World} (H : NowAt G bn T cs wv wx) (hg : wx.grownBy wx' wv.ownBlock) (hv : wv'.ownBlock = wv.ownBlock ∨ ∀ g, wv'.ownBlock = some g → wx.heap.size ≤ g) : NowAt G bn T cs wv' wx' := by
  refine ⟨gcell hg H.cell (fun h => H.wt h.symm), H.cs, fun h => ?_, H.ge⟩
  rcases hv with hv | hv
  · exact H.wt (by rw [← hv]; exact h)
  · have h1 := hv bn h
    have h2 := lt_of_cell H.cell
    simp only at h2
    omega
theorem NowAt.far {G bn : Nat} {T : Int} {cs wv : Value} {wx wx' : World} (H : NowAt G bn T cs wv wx) {q : Nat} (hg : wx.grownBy wx' (some q)) (hq : q < G + 4) : NowAt G bn T cs wv wx' :=
  ⟨gcell hg H.cell (by have := H.ge; simp; omega), H.cs, H.wt, H.ge⟩
theorem NowAt.heap {G bn : Nat} {T : Int} {cs cs' wv : Value} {zs : List Int} {wx wx' : World} (H : NowAt G bn T cs wv wx) (h : StC (G + 3) (G + 4) wx cs cs' zs wx') : NowAt G bn T cs' wv wx' := by
  have hge := H.ge
  refine ⟨h.fr.cell H.cell (by show bn ≠ _; omega) (fun e => H.cs e.symm), fun e => ?_, H.wt, hge⟩
  rcases h.own with h2 | h2
  · exact H.cs (by rw [← h2]; exact e)
  · have h3 := h2 bn e
    have h4 := lt_of_cell H.cell
    simp only at h4
    omega
set_option maxRecDepth 100000 in
set_option maxHeartbeats 16000000 in
theorem play_any (a : Option Addr) (n cap : Nat) (ag : Int) (xs : List R3) (w : World) (hl : n = xs.length) (hn : xs.length ≤ 100) (hx : Elems enc3 3 w a xs) :
    Calls Tryd.prog 20 #[.slice a n cap, .int .i64 ag] w (PlayPost xs ag w) := by
  have hb0 : Below w.heap.size w (w.alloc (.cells #[.slice a n cap] 50)) := (Below.refl _ _).alloc (Nat.le_refl _) _
  have d1 : (w.alloc (.cells #[.slice a n cap] 50)).cell? ⟨w.heap.size, 0, none⟩ = some (.slice a n cap) := by simp
  have H0 := Lib.hid (callCheck_any a n cap xs (w.alloc (.cells #[.slice a n cap] 50)) hl (by unfold maxLen; omega) (hx.at hb0))
  have HD1 := Lib.hid d1
  by_cases hC : callsCheck xs = 0
  case neg =>
    have hE : playErr xs ag = callsCheck xs := if_pos hC
    have HE := Lib.hid hE
    have HN := Lib.hid hC
    have HV := Lib.hid (show errV (callsCheck xs) = .iface 25 (.int .i64 (callsCheck xs)) from if_neg hC)
    clear hC hE hl d1 hx
    go_enter Tryd.func20, Tryd.ntmps20
    go_wp2_with fail
    refine H0.out.mono ?_
    rintro e w1 ⟨rfl, hb1⟩
    rw [HV.out]
    go_wp2
    go_ret2
    exact ⟨hb0.trans (hb1.mono hb0.size), Or.inl ⟨by rw [HE.out]; exact HN.out, by rw [HE.out, HV.out]; rfl⟩⟩
  have hV : errV (callsCheck xs) = .nilIface := if_pos hC
  by_cases hS : ag < 0 ∨ 20 < ag
  case pos =>
    have hE : playErr xs ag = 4 := by unfold playErr; rw [if_neg (by simp [hC]), if_pos hS]
    have HV := Lib.hid hV
    have HE := Lib.hid hE
    clear hC hV hE hl d1 hx
    have hS2 : ag < 0 ∨ ¬ ag < 0 ∧ 20 < ag := by omega
    clear hS
    rcases hS2 with hS | ⟨hS, hS2⟩
    all_goals
      go_enter Tryd.func20, Tryd.ntmps20
      go_wp2_with fail
      refine H0.out.mono ?_
      rintro e w1 ⟨rfl, hb1⟩
      rw [HV.out]
      go_wp2
      go_ret2
      exact ⟨hb0.trans (hb1.mono hb0.size), Or.inl ⟨by rw [HE.out]; decide, by rw [HE.out]; rfl⟩⟩
  have hE : playErr xs ag = 0 := by unfold playErr; rw [if_neg (by simp [hC]), if_neg hS]
  obtain ⟨m, rfl⟩ : ∃ m : Nat, ag = (m : Int) := ⟨ag.toNat, by omega⟩
  have hm20 : m ≤ 20 := by omega
  have hr1 : ¬ (m : Int) < 0 := by omega
  have hr2 : ¬ 20 < (m : Int) := by omega
  have HG := Lib.hid (calls_good_all hC)
  have HX := Lib.hid hx
  have HV := Lib.hid hV
  have HE := Lib.hid hE
  have HL := Lib.hid hl
  have hn60 : n ≤ 60 := by have := HG.out.1; omega
  clear hC hV hE hS hl hn hx d1
  go_enter Tryd.func20, Tryd.ntmps20
  go_wp2_with fail
  refine H0.out.mono ?_
  rintro e w1 ⟨rfl, hb1⟩
  rw [HV.out]
  have c1 := (hb1.cell (lt_of_cell HD1.out)).trans HD1.out
  have HB1 : Hid (Below w.heap.size w w1) := Lib.hid (hb0.trans (hb1.mono hb0.size))
  have hs1 : w.heap.size + 1 ≤ w1.heap.size := by have := hb1.size; simp at this; exact this
  clear H0 HV HD1 hb0 hb1
  obtain ⟨Z, hmk, hrow⟩ := made_rowk rowFt n (n : Int) rfl (by omega) (by unfold maxLen; omega)
  obtain ⟨Z2, hmk2, hrow2⟩ := made_rowk rowIn m (m : Int) rfl (by omega) (by unfold maxLen; omega)
  have HST := fun t1 t2 => Lib.hid (start_play (a := a) (cap := cap) HB1.out hs1 c1 (Z := Z) (Z2 := Z2) (fun w' base hb => by
    have := hrow w' base hb
    rw [show (madeCells (Value.agg #[Value.int IntKind.i64 0, Value.int IntKind.i64 0]).cells (n * 2)).toList = (madeCells #[Value.int .i64 0, Value.int .i64 0] (n * 2)).toList by simp [Value.cells], madeP] at this
    exact this) (fun w' base hb => by
    have := hrow2 w' base hb
    rw [show (madeCells (Value.int IntKind.i64 0).cells (m * 1)).toList = (madeCells #[Value.int .i64 0] m).toList by simp [Value.cells], made_ints] at this
    exact this) t1 t2)
  have hm0 : (0 : Int) ≤ (m : Int) := by omega
  clear hrow hrow2
  have k1 := fun o => cell_a1 c1 o
  have k2 := fun o o2 => cell_a2 c1 o o2
  have k3 := fun o o2 o3 => cell_a3 c1 o o2 o3
  have k4 := fun o o2 o3 o4 => cell_a1 (cell_a3 c1 o o2 o3) o4
  have H1 : Hid (PlayAt w a n cap m w1.heap.size (.slice none 0 0) [] (List.replicate m 0) (List.replicate n (0, 0)) (.slice none 0 0) [] ((((w1.alloc (.cells Z 63)).alloc (.cells #[.slice (some ⟨w1.heap.size, 0, none⟩) n n] 57)).alloc (.cells Z2 3)).alloc (.cells #[.slice none 0 0] 102))) := HST _ _
  obtain ⟨G, hGG⟩ : ∃ G, w1.heap.size = G := ⟨_, rfl⟩
  rw [hGG] at H1
  clear HST
  go_wp2
  go_loopw [36] (fun iv wr => ∃ k : Nat, k ≤ n ∧ iv = .int .i64 k ∧ ∃ cs ys, Hid (PlayAt w a n cap m G cs ys (List.replicate m 0) (List.replicate n (0, 0)) (.slice none 0 0) [] wr) ∧ Hid (ys.Perm (evsT xs k)) ∧ Hid (HeapF ltI ys 0 ys.length)) (fun iv _ => n - (intOf iv).toNat)
  case atStart => exact ⟨0, by omega, rfl, _, [], H1, Lib.hid (List.Perm.refl _), Lib.hid (fun k h1 h2 _ => absurd h2 (Nat.not_lt_zero _))⟩
  case round =>
    clear H1 k1 k2 k3 k4 hmk hmk2 c1 hGG
    obtain ⟨k, hk, rfl, cs, ys, H, HP, HF⟩ := hrel
    by_cases hlt : k < n
    · have hkx : k < xs.length := by rw [← HL.out]; exact hlt
      obtain ⟨b, o, rfl, hc⟩ := HX.out.some hkx
      have q1 := hc k hkx 0 _ rfl
      have q2 := hc k hkx 1 _ rfl
      have q3 := hc k hkx 2 _ rfl
      simp only [Nat.add_zero] at q1
      have c1 := (H.out.rest.fr.cell (lt_of_cell q1)).trans q1
      have c2 := (H.out.rest.fr.cell (lt_of_cell q2)).trans q2
      have c3 := (H.out.rest.fr.cell (lt_of_cell q3)).trans q3
      obtain ⟨g1, g2, g3, g4, g5, g6⟩ := HG.out.2.1 k hkx
      have hgd : xs.getD k (0, 0, 0) = xs[k] := by simp [List.getD_eq_getElem?_getD, hkx]
      have hev := evs_succ xs k
      have eA : cA xs k = xs[k].1 := by unfold cA; rw [hgd]
      have eD : cD xs k = xs[k].1 + xs[k].2.2 := by unfold cD; rw [hgd]
      rw [eA, eD] at hev
      rw [eA] at g1 g2 g5
      rw [eD] at g5 g6
      have HEV := Lib.hid hev
      clear hc q1 q2 q3 hgd hev eA eD g3 g4
      generalize xs[k].1 = A at *
      generalize xs[k].2.1 = Lg at *
      generalize xs[k].2.2 = Pt at *
      have hw : IntKind.i64.wrap (A + Pt) = A + Pt := IntWalk.i64_in _ (by omega)
      have hyl : Hid (ys.length = 2 * k) := Lib.hid (by rw [HP.out.length_eq, evs_len])
      obtain ⟨W, hW⟩ : ∃ W, W = wr.alloc (.cells #[.int .i64 A, .int .i64 Lg, .int .i64 Pt] 53) := ⟨_, rfl⟩
      obtain ⟨C, hC⟩ : ∃ C, C = wr.heap.size := ⟨_, rfl⟩
      have HW : Hid (PlayAt w (some ⟨b, o, none⟩) n cap m G cs ys (List.replicate m 0) (List.replicate n (0, 0)) (.slice none 0 0) [] W) := Lib.hid (by rw [hW]; exact H.out.next ((Below.refl _ _).alloc (Nat.le_refl _) _))
      have k1 : W.cell? ⟨C, 0, none⟩ = some (.int .i64 A) := by rw [hW, hC]; simp
      have k3 : W.cell? ⟨C, 2, none⟩ = some (.int .i64 Pt) := by rw [hW, hC]; simp
      have hCG : C ≠ G + 3 ∧ some C ≠ cs.ownBlock := by
        have := H.out.rest.hB.2
        exact ⟨by omega, fun h => by have := (H.out.rest.rowC.lt C h.symm).2; omega⟩
      have p1 := push_any ordI (clock_heap (G + 3) (G + 4) W cs) cs ys A W HW.out.rest.toBox (by rw [hyl.out]; omega) HF.out
      have HCG := Lib.hid hCG
      clear hCG H
      go_wp2_with fail
      rw [← hW, ← hC]
      clear hW hC
      refine p1.mono ?_
      rintro e w2 ⟨rfl, cs2, ys2, hS2, hp2, hh2⟩
      have H2 := Lib.hid (HW.out.heap hS2)
      have k12 := hS2.fr.cell k1 HCG.out.1 HCG.out.2
      have k32 := hS2.fr.cell k3 HCG.out.1 HCG.out.2
      have hyl2 : Hid (ys2.length = 2 * k + 1) := Lib.hid (by rw [hp2.length_eq]; simp [hyl.out])
      have p2 := push_any ordI (clock_heap (G + 3) (G + 4) w2 cs2) cs2 ys2 (A + Pt) w2 H2.out.rest.toBox (by rw [hyl2.out]; omega) hh2
      have HP2 := Lib.hid hp2
      clear p1 hS2 hp2 hh2 k1 k3
      go_wp2_with fail
      refine p2.mono ?_
      rintro e w3 ⟨rfl, cs3, ys3, hS3, hp3, hh3⟩
      have H3 := Lib.hid (H2.out.heap hS3)
      have HP3 : Hid (ys3.Perm (evsT xs (k + 1))) := Lib.hid (by
        rw [HEV.out]
        exact hp3.trans ((HP2.out.trans (HP.out.append_right _)).append_right _))
      have HF3 := Lib.hid hh3
      clear p2 hS3 hp3 hh3
      go_wp2
      exact ⟨⟨k + 1, by omega, by go_num, cs3, ys3, H3, HP3, HF3⟩, by simp [intOf]; omega⟩
    · obtain rfl : k = n := by omega
      have hyl : ys.length = 2 * k := by rw [HP.out.length_eq, evs_len]
      have HDN : Hid (DoneBy xs m (-1) 0 0 ys (List.replicate m 0) (List.replicate k (0, 0))) := Lib.hid (by
        rw [HL.out]
        refine done_start HG.out (by rw [hyl, HL.out]) (fun i hi => ?_) (fun y hy => ?_)
        · have := evs_mem (xs := xs) (k := k) (i := i) (by rw [HL.out]; exact hi)
          exact ⟨HP.out.mem_iff.2 this.1, HP.out.mem_iff.2 this.2⟩
        · exact evs_bound HG.out (by rw [HL.out]; exact Nat.le_refl _) y (HP.out.mem_iff.1 hy))
      have hyb : ys.length ≤ 2 * k := by omega
      clear HP hyl
      go_wp2
      go_loopg [12, 13] (3 * k + 1) (fun kx wv nv wr => ∃ (T : Int) (f next : Nat) (ys F : List Int) (O : List R2) (cs : Value), nv = .int .i64 next ∧ next ≤ k ∧ ys.length + (waitR xs f next T).length + (k - next) ≤ kx ∧ Hid (PlayAt w a k cap m G cs ys F O wv (nI (waitR xs f next T)) wr) ∧ Hid (DoneBy xs m T f next ys F O) ∧ Hid (HeapF ltI ys 0 ys.length))
      case atStart => exact ⟨-1, 0, 0, ys, _, _, cs, rfl, Nat.zero_le _, by simp [waitR]; omega, H, HDN, HF⟩
      case round =>
        clear HDN HF H hyb
        obtain ⟨T0, f, next, ys, F, O, cs, rfl, hnk, hkx, H, HDN, HF⟩ := hrel
        have cL := H.out.rest.boxL
        have cO := H.out.rest.boxO
        have cC := H.out.rest.boxC
        by_cases h0 : ys.length = 0
        · obtain rfl : ys = [] := List.eq_nil_of_length_eq_zero h0
          have HO : Hid (O = foTo m xs xs.length) := Lib.hid (done_end HDN.out)
          have p0 := clock_len H.out.rest.toBox
          have HH := Lib.hid H
          clear H HDN HF h0 hkx
          go_wp2_with fail
          refine p0.mono ?_
          rintro e w2 ⟨rfl, hb2⟩
          have H2 := HH.out.out.next hb2
          have cO2 := H2.rest.boxO
          have hd : decide ((0 : Int) < ((([] : List Int).length : Nat) : Int)) = false := by decide
          obtain ⟨a2, c2, hov, he, _⟩ := elems_of_owns (enc := encF) (fun _ => rfl) H2.rest.olen.symm H2.rest.rowO
          have HFR := Lib.hid H2.rest.fr
          have HEL := Lib.hid he
          have HLE := Lib.hid H2.rest.olen
          have HOV := Lib.hid hov
          clear H2 he hov cL cO cC p0
          go_wp2
          go_ret2
          refine ⟨HFR.out, Or.inr ⟨HE.out, some ⟨G, 0, none⟩, k, ?_, ?_⟩⟩
          · rw [← HL.out]; rfl
          · have e1 : a2 = some ⟨G, 0, none⟩ := by have := HOV.out; injection this with e1 _ _; exact e1.symm
            have e2 := HEL.out
            rw [e1, HO.out] at e2
            exact e2
        · have p0 := clock_len H.out.rest.toBox
          have hd : decide ((0 : Int) < ((ys.length : Nat) : Int)) = true := by simp; omega
          have hroom := HDN.out.room
          have hxl := HL.out
          have hy1 : ys.length ≤ 1000 := by omega
          have hy0 : 0 < ys.length := by omega
          obtain ⟨T, hT⟩ : ∃ T, T = lg ys 0 := ⟨_, rfl⟩
          have hmin : ∀ y ∈ ys, T ≤ y := fun y hy => by
            obtain ⟨q, hq, rfl⟩ := List.mem_iff_getElem.1 hy
            have := heap_top ordI HF.out q hq
            rw [lg_get hq, ← hT] at this
            simp only [ltI, decide_eq_false_iff_not] at this
            omega
          have HMIN := Lib.hid hmin
          have HT := Lib.hid hT
          have hta := assert_int T
          have HH := Lib.hid H
          clear H hmin hT hroom hxl h0
          go_wp2_with fail
          refine p0.mono ?_
          rintro e w2 ⟨rfl, hb2⟩
          have H2 := Lib.hid (HH.out.out.next hb2)
          have p1 := pop_any ordI (clock_heap (G + 3) (G + 4) w2 cs) cs ys w2 H2.out.rest.toBox hy1 hy0 HF.out
          rw [← HT.out] at p1
          clear p0 HH hb2 cL cO cC
          go_wp2_with fail
          refine p1.mono ?_
          rintro e w3 ⟨rfl, cs3, zs, hS3, hp3, hh3⟩
          have H3 := Lib.hid (H2.out.heap hS3)
          have HF3 := Lib.hid hh3
          have HM3 := Lib.hid (mid_start HG.out HDN.out hp3 HMIN.out)
          have hzl : zs.length + 1 = ys.length := by rw [hp3.length_eq]; simp
          obtain ⟨S, hS⟩ : ∃ S, S = zs.length + (waitR xs f next T0).length + (k - next) := ⟨_, rfl⟩
          have hkS := Nat.le_trans (show S + 1 ≤ ys.length + (waitR xs f next T0).length + (k - next) by omega) hkx
          clear p1 hS3 hp3 hh3 H2 HDN HF HMIN HT hy1 hy0 hkx hzl hd
          obtain ⟨W, hW⟩ : ∃ W, W = w3.alloc (.cells #[.int .i64 T] 3) := ⟨_, rfl⟩
          obtain ⟨bn, hbn⟩ : ∃ bn, bn = w3.heap.size := ⟨_, rfl⟩
          have H4 := Lib.hid (H3.out.next ((Below.refl w3.heap.size w3).alloc (Nat.le_refl _) (.cells #[.int .i64 T] 3)))
          rw [← hW] at H4
          have kN : W.cell? ⟨bn, 0, none⟩ = some (.int .i64 T) := by rw [hW, hbn]; simp
          have HNA := Lib.hid (show NowAt G bn T cs3 u12 W from ⟨kN, fun h => by have := (H3.out.rest.rowC.lt bn h).2; omega, fun h => by have := (H3.out.tail.lt bn h).2; omega, by rw [hbn]; exact H3.out.rest.hB.2⟩)
          clear H3
          have hS2 : zs.length + (waitR xs f next T0).length + (k - next) ≤ S := by omega
          clear hS
          go_upto_block 4 with (fail)
          rw [← hW, ← hbn]
          clear hW hbn
          go_cut [12, 13] (fun wv nv wx => ∃ nx : Nat, nx ≤ k ∧ nv = .int .i64 nx ∧ zs.length + (waitR xs f nx T0).length + (k - nx) ≤ S ∧ Hid (PlayAt w a k cap m G cs3 zs F O wv (nI (waitR xs f nx T0)) wx) ∧ Hid (MidBy xs m T0 T f nx zs F O) ∧ Hid (NowAt G bn T cs3 wv wx) ∧ Hid (∀ i, nx ≤ i → i < xs.length → T < cA xs i))
          case first =>
            go_wp2
            go_loopw [12, 13] (fun wv nv wx => ∃ nx : Nat, nx ≤ k ∧ nv = .int .i64 nx ∧ zs.length + (waitR xs f nx T0).length + (k - nx) ≤ S ∧ Hid (PlayAt w a k cap m G cs3 zs F O wv (nI (waitR xs f nx T0)) wx) ∧ Hid (MidBy xs m T0 T f nx zs F O) ∧ Hid (NowAt G bn T cs3 wv wx)) (fun _ nv _ => k - (intOf nv).toNat)
            case atStart => exact ⟨next, hnk, rfl, hS2, H4, HM3, HNA⟩
            case round =>
              clear H4 HM3 kN HNA hS2 hkS
              obtain ⟨nx, hnx, rfl, hS2, H, HM, HN⟩ := hrel
              have cL := H.out.rest.boxL
              have cN := HN.out.cell
              go_upto_region 19 with (fail)
              go_cut [72] (fun v wx => ∃ (bb : Bool) (z : Nat), v = .bool bb ∧ wr.drewN z = wx ∧ Hid (bb = true ↔ nx < k ∧ cA xs nx ≤ T))
              case first =>
                by_cases x1 : nx < k
                · have hlx : nx < xs.length := by rw [← HL.out]; exact x1
                  obtain ⟨b, o, haE, hc⟩ := (HX.out.at H.out.rest.fr).some hlx
                  have q1 := hc nx hlx 0 _ rfl
                  simp only [Nat.add_zero] at q1
                  have hat : cA xs nx = xs[nx].1 := by simp [cA, List.getD_eq_getElem?_getD, hlx]
                  rw [← hat] at q1
                  obtain ⟨t, ht⟩ : ∃ t, t = cA xs nx := ⟨_, rfl⟩
                  have HA := Lib.hid ht
                  rw [← ht] at q1
                  subst haE
                  have x1z : (nx : Int) < (k : Int) := by omega
                  have x1d : decide ((nx : Int) < (k : Int)) = true := by simp [x1]
                  have x0 : (0 : Int) ≤ (nx : Int) := by omega
                  clear hc hat ht H HM HN
                  by_cases x2 : t ≤ T
                  · have hd : decide (t ≤ T) = true := by simp [x2]
                    go_quiet (fail)
                    go_wp2
                    go_meet
                    case rel => exact ⟨true, _, rfl, rfl, Lib.hid ⟨fun _ => ⟨x1, by rw [← HA.out]; exact x2⟩, fun _ => rfl⟩⟩
                  · have hd : decide (t ≤ T) = false := by simp; omega
                    go_quiet (fail)
                    go_wp2
                    go_meet
                    case rel => exact ⟨false, _, rfl, rfl, Lib.hid ⟨(fun h => nomatch h), fun h => by have h3 := h.2; rw [← HA.out] at h3; omega⟩⟩
                · have x2 : ¬ (nx : Int) < (k : Int) := by omega
                  have x1d : decide ((nx : Int) < (k : Int)) = false := by simp; omega
                  clear H HM HN
                  go_quiet (fail)
                  go_wp2
                  go_meet
                  case rel => exact ⟨false, _, rfl, rfl, Lib.hid ⟨(fun h => nomatch h), fun h => absurd h.1 x1⟩⟩
              case rest =>
                obtain ⟨bb, z, rfl, rfl, HBB⟩ := hcut
                cases bb
                case true =>
                  have hco := HBB.out.1 rfl
                  obtain ⟨hm1, hw1⟩ := mid_come HG.out HM.out (by rw [← HL.out]; exact hco.1) hco.2
                  have HM1 := Lib.hid hm1
                  have HW1 := Lib.hid hw1
                  have H1 := Lib.hid (H.out.next (below_drewN wr z wr.heap.size))
                  have hwl := wait_le xs f nx T0
                  have hnil : (nI (waitR xs f nx T0)).length ≤ 1000 := by simp [nI]; omega
                  have hbG := H1.out.rest.hB.2
                  have hlen1 : (waitR xs f (nx + 1) T0).length = (waitR xs f nx T0).length + 1 := by rw [hw1]; simp
                  have hn1 := hco.1
                  clear hm1 hw1 hco H HM
                  go_wp2_with (at_builtin; (refine app_tail rfl rfl _ _ rfl (G + 4) rfl H1.out.tail (nx : Int) rfl (by first | rfl | simp) hnil hbG ?_))
                  intro ad c w5 e1 e2 e3
                  have H5 : Hid (PlayAt w a k cap m G cs3 zs F O (.slice ad ((nI (waitR xs f nx T0)).length + 1) c) (nI (waitR xs f (nx + 1) T0)) w5) := Lib.hid (H1.out.await e2 (by rw [HW1.out]; unfold nI at e1 ⊢; rw [List.map_append]; exact e1) e3)
                  have HN5 : Hid (NowAt G bn T cs3 (.slice ad ((nI (waitR xs f nx T0)).length + 1) c) w5) := Lib.hid ((HN.out.next (below_drewN wr z wr.heap.size)).await e2 e3)
                  clear e1 e2 e3 H1 HN cN cL
                  go_wp2
                  exact ⟨⟨nx + 1, by omega, by go_num, by omega, H5, HM1, HN5⟩, by simp [intOf]; omega⟩
                case false =>
                  have hco : ¬ (nx < k ∧ cA xs nx ≤ T) := fun h => nomatch HBB.out.2 h
                  have HLT : Hid (∀ i, nx ≤ i → i < xs.length → T < cA xs i) := Lib.hid (fun i h1 h2 => by
                    have h3 := cA_mono HG.out h1 h2
                    have h4 : nx < k := by rw [HL.out]; omega
                    have h5 : ¬ cA xs nx ≤ T := fun h => hco ⟨h4, h⟩
                    omega)
                  have H1 := Lib.hid (H.out.next (below_drewN wr z wr.heap.size))
                  have HN1 := Lib.hid (HN.out.next (below_drewN wr z wr.heap.size))
                  clear hco H HN cL cN
                  go_wp2
                  go_meet
                  case rel => exact ⟨nx, hnx, rfl, hS2, H1, HM, HN1, HLT⟩
          case rest =>
            clear H4 HM3 kN HNA hS2 hnk
            obtain ⟨nx, hnx, rfl, hS2, H, HM, HN, HLT⟩ := hcut
            go_upto_block 6 with (fail)
            go_cut [12] (fun wv wx => ∃ (f' : Nat) (us F' : List Int) (O' : List R2) (cs' : Value), us.length + (waitR xs f' nx T0).length + (k - nx) ≤ S ∧ Hid (PlayAt w a k cap m G cs' us F' O' wv (nI (waitR xs f' nx T0)) wx) ∧ Hid (MidBy xs m T0 T f' nx us F' O') ∧ Hid (HeapF ltI us 0 us.length) ∧ Hid (NowAt G bn T cs' wv wx) ∧ Hid (∀ j, f' ≤ j → j < xs.length → ¬ canBy (frR m xs j) (cA xs j) T))
            case first =>
              go_wp2
              go_loopw [12] (fun wv wx => ∃ (f' : Nat) (us F' : List Int) (O' : List R2) (cs' : Value), us.length + (waitR xs f' nx T0).length + (k - nx) ≤ S ∧ Hid (PlayAt w a k cap m G cs' us F' O' wv (nI (waitR xs f' nx T0)) wx) ∧ Hid (MidBy xs m T0 T f' nx us F' O') ∧ Hid (HeapF ltI us 0 us.length) ∧ Hid (NowAt G bn T cs' wv wx)) (fun wv _ => vLen wv)
              case atStart => exact ⟨f, zs, F, O, cs3, hS2, H, HM, HF3, HN⟩
              case round =>
                clear H HM HF3 HN hS2
                obtain ⟨f1, us, F1, O1, cs1, hS2, H, HM, HF, HN⟩ := hrel
                cases hwt : waitR xs f1 nx T0 with
                | nil =>
                  obtain ⟨ad, c, hv⟩ := H.out.tail.form
                  rw [hwt] at hv
                  obtain ⟨f2, hm2, hw2, hc2⟩ := mid_none HG.out HM.out HLT.out (Or.inl hwt)
                  have HM2 := Lib.hid hm2
                  have HC2 := Lib.hid hc2
                  have hS3 : us.length + (waitR xs f2 nx T0).length + (k - nx) ≤ S := by rw [hw2]; exact hS2
                  have H2 : Hid (PlayAt w a k cap m G cs1 us F1 O1 u12 (nI (waitR xs f2 nx T0)) wr) := Lib.hid (by rw [hw2]; exact H.out)
                  clear hm2 hc2 hw2 hwt hS2 H HM
                  subst hv
                  have hd0 : decide ((0 : Int) < (((nI []).length : Nat) : Int)) = false := by decide
                  go_wp2
                  go_meet
                  case rel => exact ⟨f2, us, F1, O1, cs1, hS3, H2, HM2, HF, HN, HC2⟩
                | cons i rest =>
                  have ht := H.out.tail
                  rw [hwt] at ht
                  obtain ⟨g, kk, c, hv, hcl, ccell, htl⟩ := (show TailR wr (G + 4) u12 ((i : Int) :: nI rest) from ht).cons
                  subst hv
                  have hrl : (nI rest).length = rest.length := by simp [nI]
                  have hflen := H.out.rest.flen
                  have hask : AsksOk 44 #[.pointer (some ⟨bn, 0, none⟩)] (fun t => decide (t ≤ T)) F1 wr.heap.size wr := fun w' hb x _ => play1_any bn x T w' ((hb.cell (lt_of_cell HN.out.cell)).trans HN.out.cell)
                  have hix := indexF_any 44 #[.pointer (some ⟨bn, 0, none⟩)] (fun t => decide (t ≤ T)) (some ⟨G + 2, 0, none⟩) m m wr.heap.size F1 wr eg_play1 hask hflen.symm (by omega) (Nat.le_refl _) (elems_own H.out.rest.rowF hflen.symm)
                  have HIX := Lib.hid hix
                  have hd0 : decide ((0 : Int) < (((nI rest).length + 1 : Nat) : Int)) = true := by rw [decide_eq_true_eq]; omega
                  have HRL := Lib.hid hrl
                  have HW := Lib.hid hwt
                  have HFL := Lib.hid hflen
                  have HTL := Lib.hid htl
                  have HS2 := Lib.hid hS2
                  clear ht hask hix hwt hflen htl hS2
                  by_cases hfi : F1.findIdx (fun t => decide (t ≤ T)) < F1.length
                  case neg =>
                    have hno : ∀ t ∈ F1, T < t := fun t ht => by
                      by_cases h1 : t ≤ T
                      · exact absurd (List.findIdx_lt_length_of_exists ⟨t, ht, by simp [h1]⟩) hfi
                      · omega
                    obtain ⟨f2, hm2, hw2, hc2⟩ := mid_none HG.out HM.out HLT.out (Or.inr hno)
                    have HM2 := Lib.hid hm2
                    have HC2 := Lib.hid hc2
                    have HFS : Hid (fstI (fun t => decide (t ≤ T)) F1 = -1) := Lib.hid (if_neg hfi)
                    have hS3 : us.length + (waitR xs f2 nx T0).length + (k - nx) ≤ S := by rw [hw2]; exact HS2.out
                    have H2 : Hid (PlayAt w a k cap m G cs1 us F1 O1 (.slice (some ⟨g, kk, none⟩) ((nI rest).length + 1) c) (nI (waitR xs f2 nx T0)) wr) := Lib.hid (by rw [hw2]; exact H.out)
                    clear hm2 hc2 hw2 hno hfi HW HTL ccell H HM hrl
                    go_wp2_with fail
                    refine HIX.out.mono ?_
                    rintro e wi ⟨rfl, hbi⟩
                    rw [HFS.out]
                    have H3 := Lib.hid (H2.out.next hbi)
                    have HN3 := Lib.hid (HN.out.next hbi)
                    clear H2 HN hbi
                    go_wp2
                    go_meet
                    case rel => exact ⟨f2, us, F1, O1, cs1, hS3, H3, HM2, HF, HN3, HC2⟩
                  case pos =>
                    have HFI := Lib.hid hfi
                    have HFS : Hid (fstI (fun t => decide (t ≤ T)) F1 = ((F1.findIdx (fun t => decide (t ≤ T)) : Nat) : Int)) := Lib.hid (if_pos hfi)
                    obtain ⟨_, hin, hT2, _⟩ := mid_take HG.out HM.out HW.out hfi (List.Perm.refl _)
                    obtain ⟨w1', w2', w3', w4', w5'⟩ := wait_cons HW.out
                    subst w5'
                    obtain ⟨q1, q2, q3, q4, q5, q6⟩ := HG.out.2.1 i hin
                    have hT0 : 0 ≤ T := by have := HM.out.come i w2'; omega
                    have hik : i < k := by rw [HL.out]; exact hin
                    obtain ⟨b, o, rfl, hc⟩ := HX.out.some hin
                    have HLC := Lib.hid (hc i hin 1 _ rfl)
                    have hgd : xs.getD i (0, 0, 0) = xs[i] := by simp [List.getD_eq_getElem?_getD, hin]
                    have eL : cL xs i = xs[i].2.1 := by unfold cL; rw [hgd]
                    rw [eL] at q3 q4
                    have HEL := Lib.hid eL
                    have hTK := Lib.hid (fun vs hu => mid_take (us := vs) HG.out HM.out HW.out hfi hu)
                    rw [eL] at hTK
                    have hus : us.length < 1000 := by have := HM.out.room; have := HG.out.1; omega
                    have haF : F1.findIdx (fun t => decide (t ≤ T)) < m := by rw [← HFL.out]; exact hfi
                    have hSS := HS2.out
                    rw [HW.out] at hSS
                    clear hrl w1' w2' w3' w4' q1 q2 q5 q6 hc hgd eL hfi HW HS2
                    generalize xs[i].2.1 = Lg at *
                    clear hin
                    generalize F1.findIdx (fun t => decide (t ≤ T)) = aI at *
                    have hwK : IntKind.i64.wrap (T + Lg) = T + Lg := IntWalk.i64_in _ (by omega)
                    obtain ⟨adr, hadr⟩ : ∃ adr, (if c = 1 then some (⟨g, kk, none⟩ : Addr) else some ⟨g, kk + 1, none⟩) = adr := ⟨_, rfl⟩
                    have hob : (Value.slice adr (nI (waitR xs (i + 1) nx T0)).length (c - 1)).ownBlock = some g := by rw [← hadr]; split <;> rfl
                    have htl2 := HTL.out
                    rw [hadr] at htl2
                    have HH := Lib.hid H
                    have HT2 := Lib.hid htl2
                    clear HTL htl2 H HM
                    go_wp2_with fail
                    refine HIX.out.mono ?_
                    rintro e wi ⟨rfl, hbi⟩
                    rw [HFS.out]
                    have ccell2 := (hbi.cell (lt_of_cell ccell)).trans ccell
                    have H2 := Lib.hid ((HH.out.out.next hbi).await (World.grownBy.refl _ _) (HT2.out.kept (fun g' hg' => by
                      rw [hob] at hg'
                      obtain rfl : g = g' := Option.some.inj hg'
                      exact hbi.block g (HH.out.out.tail.lt g rfl).2)) (Or.inl hob))
                    have HN2 := Lib.hid ((HN.out.next hbi).await (wv' := .slice adr (nI (waitR xs (i + 1) nx T0)).length (c - 1)) (World.grownBy.refl _ _) (Or.inl hob))
                    clear HIX HFS HH HN hbi ccell HT2
                    have cO := H2.out.rest.boxO
                    have cN := HN2.out.cell
                    obtain ⟨⟨⟨v1, d1⟩, f1'⟩, ⟨v2, d2⟩, f2'⟩ := H2.out.rest.cellO hik
                    go_wp2
                    obtain ⟨X, hX⟩ : ∃ X, X = (wi.setCell ⟨G, i * 2, none⟩ (.int .i64 aI)).setCell ⟨G, i * 2 + 1, none⟩ (.int .i64 T) := ⟨_, rfl⟩
                    have H3 := Lib.hid (H2.out.with (H2.out.rest.setO i hik ((aI : Int), T)) (fun g' h1 _ => by rw [Below.heap_setCell _ _ _ _ (by show g' ≠ G; omega), Below.heap_setCell _ _ _ _ (by show g' ≠ G; omega)]))
                    have HN3 := Lib.hid ((HN2.out.far (grown_setCells G [.int .i64 (aI : Int)] wi (i * 2)) (by omega)).far (grown_setCells G [.int .i64 T] _ (i * 2 + 1)) (by omega))
                    simp only [] at H3
                    rw [← hX]
                    change Hid (PlayAt w (some ⟨b, o, none⟩) k cap m G cs1 us F1 (O1.set i ((aI : Int), T)) _ _ ((wi.setCell ⟨G, i * 2, none⟩ (.int .i64 aI)).setCell ⟨G, i * 2 + 1, none⟩ (.int .i64 T))) at H3
                    change Hid (NowAt G bn T cs1 _ ((wi.setCell ⟨G, i * 2, none⟩ (.int .i64 aI)).setCell ⟨G, i * 2 + 1, none⟩ (.int .i64 T))) at HN3
                    rw [← hX] at H3 HN3
                    clear hX H2 HN2 cO cN d1 d2 f1' f2' ccell2
                    have cL := H3.out.rest.boxL
                    have cN := HN3.out.cell
                    have cE := (H3.out.rest.fr.cell (lt_of_cell HLC.out)).trans HLC.out
                    have hcf := H3.out.rest.cellF HFI.out
                    generalize F1[aI]'(HFI.out) = old at hcf
                    have d1 : X.cell? ⟨G + 1 + 1, aI, none⟩ = some (.int .i64 old) := hcf.1
                    have d2 : X.frozen? ⟨G + 1 + 1, aI, none⟩ = false := hcf.2
                    have H4 : Hid (PlayAt w (some ⟨b, o, none⟩) k cap m G cs1 us (F1.set aI (T + Lg)) (O1.set i ((aI : Int), T)) (.slice adr (nI (waitR xs (i + 1) nx T0)).length (c - 1)) (nI (waitR xs (i + 1) nx T0)) ((X.setCell ⟨G + 1 + 1, aI, none⟩ (.int .i64 (T + Lg))).drew)) := Lib.hid ((H3.out.with (H3.out.rest.setF aI (T + Lg)) (fun g' h1 _ => by rw [Below.heap_setCell _ _ _ _ (by show g' ≠ G + 2; omega)])).next (Below.drew (Below.refl _ _)))
                    have HN4 : Hid (NowAt G bn T cs1 (.slice adr (nI (waitR xs (i + 1) nx T0)).length (c - 1)) ((X.setCell ⟨G + 1 + 1, aI, none⟩ (.int .i64 (T + Lg))).drew)) := Lib.hid ((HN3.out.far (grown_setCells (G + 2) [.int .i64 (T + Lg)] X aI) (by omega)).next (Below.drew (Below.refl _ _)))
                    have p4 := push_any ordI (clock_heap (G + 3) (G + 4) _ cs1) cs1 us (T + Lg) _ H4.out.rest.toBox hus HF.out
                    have ha0 : (0 : Int) ≤ (aI : Int) := by omega
                    have ha1 : (aI : Int) < (m : Int) := by omega
                    have hi0 : (0 : Int) ≤ (i : Int) := by omega
                    have hi1 : (i : Int) < (k : Int) := by omega
                    clear hcf H3 HN3
                    go_region
                    go_wp2_with fail
                    refine p4.mono ?_
                    rintro e w5 ⟨rfl, cs5, vs, hS5, hp5, hh5⟩
                    have H5 := Lib.hid (H4.out.heap hS5)
                    have HN5 := Lib.hid (HN4.out.heap hS5)
                    have HM5 := Lib.hid (hTK.out vs hp5).2.2.2
                    have HF5 := Lib.hid hh5
                    have hvl : vs.length = us.length + 1 := by rw [hp5.length_eq]; simp
                    have hS5b : vs.length + (waitR xs (i + 1) nx T0).length + (k - nx) ≤ S := by simp only [List.length_cons] at hSS; omega
                    clear p4 hS5 hp5 hh5 H4 HN4 hSS hvl cL cN cE d1 d2
                    go_wp2
                    exact ⟨⟨i + 1, vs, _, _, cs5, hS5b, H5, HM5, HF5, HN5⟩, by simp [vLen]⟩
            case rest =>
              clear H HM HF3 HN hS2
              obtain ⟨f2, us, F2, O2, cs2, hS3, H, HM, HF, HN, HC⟩ := hcut
              have hol := H.out.rest.olen
              have hlt2 : ∀ i ∈ waitR xs f2 nx T0, i < O2.length := fun i hi => by have := (wait_mem.1 hi).1; omega
              have HDN : Hid (DoneBy xs m T f2 nx us F2 (outJ xs T O2 (waitR xs f2 nx T0))) := Lib.hid (mid_end HG.out HM.out HLT.out HC.out (outJ_len _ _ _ _) (outJ_get xs T _ O2 hlt2))
              have HWL := Lib.hid (wait_later (xs := xs) (f := f2) (next := nx) HM.out.le)
              have hwle : (waitR xs f2 nx T).length ≤ (waitR xs f2 nx T0).length := by rw [HWL.out]; exact List.length_filter_le _ _
              have hS4 : us.length + (waitR xs f2 nx T).length + (k - nx) ≤ S := by omega
              have hw60 : (nI (waitR xs f2 nx T0)).length ≤ 1000 := by have := wait_le xs f2 nx T0; simp [nI]; omega
              have hltk : ∀ i ∈ waitR xs f2 nx T0, i < k := fun i hi => by have := hlt2 i hi; omega
              rcases H.out.tail with ⟨hv, hnil⟩ | ⟨g, kk, c, cp, dead, hv, hd, hc1, hc2, hown⟩
              · have hwn : waitR xs f2 nx T0 = [] := by
                  cases hq : waitR xs f2 nx T0 with
                  | nil => rfl
                  | cons i r => rw [hq] at hnil; cases hnil
                have hwn2 : waitR xs f2 nx T = [] := by rw [HWL.out, hwn]; rfl
                have H2 : Hid (PlayAt w a k cap m G cs2 us F2 (outJ xs T O2 (waitR xs f2 nx T0)) (.slice none 0 0) (nI (waitR xs f2 nx T)) wc) := Lib.hid (by rw [hwn, hwn2]; have := H.out; rw [hwn, hv] at this; exact this)
                subst hv
                have p0 := deleteT_nil 45 #[.pointer (some ⟨w.heap.size, 0, none⟩), .pointer (some ⟨bn, 0, none⟩), .pointer (some ⟨G + 1, 0, none⟩)] none 0 wc
                clear hnil hwn hwn2 H HM HN HC hol hlt2 hltk hw60 hwle hS3
                go_wp2_with fail
                refine p0.mono ?_
                rintro e w9 ⟨rfl, rfl⟩
                go_wp2
                go_roundg (us.length + (waitR xs f2 nx T).length + (k - nx))
                case measure => omega
                case rel => exact ⟨T, f2, nx, us, F2, _, cs2, rfl, hnx, Nat.le_refl _, H2, HDN, HF⟩
              · subst hv
                have hgt := H.out.tail.lt g rfl
                have hcm : c ≤ maxLen := by
                  rcases hown.2 with ⟨q, _⟩ | ⟨g', cap', cur, q, _, _, _, q2, _⟩
                  · cases q
                  · obtain ⟨_, _, q3⟩ := Value.slice.inj q
                    omega
                have hcsg : cs2.ownBlock ≠ some g := fun h => H.out.apart g h rfl
                have hbng : bn ≠ g := fun h => HN.out.wt (by rw [h]; rfl)
                have hbG : bn ≠ G := by have := HN.out.ge; omega
                have p0 := deleteT_any 45 #[.pointer (some ⟨w.heap.size, 0, none⟩), .pointer (some ⟨bn, 0, none⟩), .pointer (some ⟨G + 1, 0, none⟩)] (goneP xs T) g kk (nI (waitR xs f2 nx T0)).length c cp (G + 4)
                  (fun j w' => PlayR w a k cap m G cs2 us F2 (outJ xs T O2 ((waitR xs f2 nx T0).take j)) w' ∧ w'.cell? ⟨bn, 0, none⟩ = some (.int .i64 T)) dead (nI (waitR xs f2 nx T0)) wc eg_play2
                  (play2_ask xs HL.out HG.out HX.out bn T (waitR xs f2 nx T0) hltk hgt.1 hcsg hbng hbG) rfl hw60 hc1 hcm ⟨H.out.rest, HN.out.cell⟩ hd hown
                have HP0 := Lib.hid p0
                have HCS := Lib.hid hcsg
                clear p0 hcsg hbng hbG hcm hown H HM HN HC hol hlt2 hltk hw60 hwle hS3 hgt
                go_wp2_with fail
                refine HP0.out.mono ?_
                rintro e w9 hp
                unfold DelTPost at hp
                rw [nI_filter, ← HWL.out] at hp
                obtain ⟨rfl, e2, e3, _⟩ := hp
                have hfull : (waitR xs f2 nx T0).take (nI (waitR xs f2 nx T0)).length = waitR xs f2 nx T0 := by simp [nI]
                rw [hfull] at e3
                have hlle : (nI (waitR xs f2 nx T)).length ≤ (nI (waitR xs f2 nx T0)).length := by rw [HWL.out]; simp only [nI, List.length_map]; exact List.length_filter_le _ _
                have H2 : Hid (PlayAt w a k cap m G cs2 us F2 (outJ xs T O2 (waitR xs f2 nx T0)) (.slice (some ⟨g, kk, none⟩) (nI (waitR xs f2 nx T)).length c) (nI (waitR xs f2 nx T)) w9) := Lib.hid ⟨e3, Or.inr ⟨g, kk, c, cp, dead, rfl, hd, by omega, hc2, e2⟩, fun b hb hw => by
                  have hbg : g = b := Option.some.inj hw
                  exact HCS.out (by rw [hbg]; exact hb)⟩
                clear e2 e3 hfull hlle hc1 hc2 hd HP0
                go_wp2
                go_roundg (us.length + (waitR xs f2 nx T).length + (k - nx))
                case measure => omega
                case rel => exact ⟨T, f2, nx, us, F2, _, cs2, rfl, hnx, Nat.le_refl _, H2, HDN, HF⟩
end Go.Proofs.YtannijeiecmjpaaDoor
