/- shop.List: the end and the parts of a list on several machines. -/
import Derived.Test.YtannijeiecmjpaaDoorSpareH
import Derived.Test.YtannijeiecmjpaaDoorLenChk
import Derived.Test.YtannijeiecmjpaaDoorLineOrd
import Derived.Test.YtannijeiecmjpaaDoorParts
import Derived.Deep.DeepCutAuto
import Derived.Deep.CutBlock
namespace Go.Proofs.YtannijeiecmjpaaDoor
open Go.RowKit

theorem rowPt : RowOf Tryd.prog 44 100 (.agg #[.int .i64 0, .int .i64 0, .int .i64 0, .int .i64 0]) 4 32 := rowOf Tryd.underlying44 (by kernel_rfl) rfl (by decide)
/-- The memory of shop.List: the box of the machines, their row, the row of the parts. -/
structure ListAt (w : World) (bp : Nat) (s : Value) (ys : List P2) (ov : Value) (out : List R4) (wr : World) : Prop where
  box : wr.cell? ⟨bp, 0, none⟩ = some s
  free : wr.frozen? ⟨bp, 0, none⟩ = false
  row : wr.ownsRow (bp + 1) 96 2 s ys.length (ys.flatMap encP)
  out : wr.ownsRow (bp + 1) 100 4 ov out.length (out.flatMap enc4)
  apart : ∀ b, s.ownBlock = some b → ov.ownBlock ≠ some b
  fr : Below w.heap.size w wr
  hB : w.heap.size ≤ bp ∧ bp + 1 ≤ wr.heap.size
variable {w : World} {bp : Nat} {s : Value} {ys : List P2} {ov : Value} {out : List R4} {wr wr' : World}
theorem ListAt.next (H : ListAt w bp s ys ov out wr) (h : Below wr.heap.size wr wr') : ListAt w bp s ys ov out wr' :=
  ⟨(h.cell (lt_of_cell H.box)).trans H.box, (h.frozen (lt_of_cell H.box)).trans H.free, owns_at H.row h, owns_at H.out h, H.apart, below_next H.fr h, H.hB.1, Nat.le_trans H.hB.2 h.size⟩
theorem ListAt.toBox (H : ListAt w bp s ys ov out wr) : StS bp (bp + 1) wr s s ys wr := InBox.start H.box H.free H.row (Nat.lt_succ_self _) H.hB.2
/-- The machines' row is another one. -/
theorem ListAt.heap (H : ListAt w bp s ys ov out wr) {s' : Value} {zs : List P2} (h : StS bp (bp + 1) wr s s' zs wr') : ListAt w bp s' zs ov out wr' := by
  refine ⟨h.box, h.free, h.row, h.fr.owns H.out ?_ ?_, ?_, ?_, H.hB.1, Nat.le_trans H.hB.2 h.fr.size⟩
  · intro hb; have := (H.out.lt bp hb).1; omega
  · intro g hg hs; exact H.apart g hs.symm hg
  · intro b hb ho
    rcases h.own with h2 | h2
    · exact H.apart b (by rw [← h2]; exact hb) ho
    · have h3 := h2 b hb
      have h4 := (H.out.lt b ho).2
      omega
  · have h2 := H.hB.1
    have h3 := H.fr.size
    exact H.fr.trans (h.fr.below (by omega) (fun g hg => by have := (H.row.lt g hg).1; omega) (by omega))
/-- The row of the parts is another one. -/
theorem ListAt.more (H : ListAt w bp s ys ov out wr) (hg : wr.grownBy wr' ov.ownBlock) {ov' : Value} {out' : List R4} (ho : wr'.ownsRow (bp + 1) 100 4 ov' out'.length (out'.flatMap enc4)) (hv : ov'.ownBlock = ov.ownBlock ∨ ∀ g, ov'.ownBlock = some g → wr.heap.size ≤ g) : ListAt w bp s ys ov' out' wr' := by
  have hne : some bp ≠ ov.ownBlock := fun h => by have := (H.out.lt bp h.symm).1; omega
  have hap : s.ownBlock = none ∨ s.ownBlock ≠ ov.ownBlock := by
    cases hb : s.ownBlock with
    | none => exact Or.inl rfl
    | some b => exact Or.inr (fun h => H.apart b hb h.symm)
  refine ⟨(World.cell?_of_block (hg.block bp (lt_of_cell H.box) hne)).trans H.box, (World.frozen?_of_block (hg.block bp (lt_of_cell H.box) hne)).trans H.free, H.row.kept hg hap, ho, ?_, ?_, H.hB.1, Nat.le_trans H.hB.2 hg.size⟩
  · intro b hb ho2
    rcases hv with hv | hv
    · exact H.apart b hb (by rw [← hv]; exact ho2)
    · have h3 := hv b ho2
      have h4 := (H.row.lt b hb).2
      omega
  · have h2 := H.hB.1
    exact H.fr.grown hg H.fr.size (fun k hk => by have := (H.out.lt k hk).1; omega)
/-- A block that is neither's is written. -/
theorem ListAt.far (H : ListAt w bp s ys ov out wr) {C : Nat} (h1 : bp < C) (h2 : some C ≠ s.ownBlock) (h3 : some C ≠ ov.ownBlock) (hg : wr.grownBy wr' (some C)) : ListAt w bp s ys ov out wr' := by
  have hne : some bp ≠ some C := by simp; omega
  have h4 := H.hB.1
  have ap : ∀ v : Value, some C ≠ v.ownBlock → v.ownBlock = none ∨ v.ownBlock ≠ some C := fun v hv => by
    cases hb : v.ownBlock with
    | none => exact Or.inl rfl
    | some b => exact Or.inr (fun h => hv (by rw [hb]; exact h.symm))
  refine ⟨(World.cell?_of_block (hg.block bp (lt_of_cell H.box) hne)).trans H.box, (World.frozen?_of_block (hg.block bp (lt_of_cell H.box) hne)).trans H.free, H.row.kept hg (ap _ h2), H.out.kept hg (ap _ h3), H.apart, ?_, H.hB.1, Nat.le_trans H.hB.2 hg.size⟩
  exact H.fr.grown hg H.fr.size (fun k hk => by have := Option.some.inj hk; omega)
/-- The machines at first. -/
def freshP (k : Nat) : List P2 := (List.range k).map (fun i : Nat => ((0 : Int), (i : Int)))
theorem freshP_len (k : Nat) : (freshP k).length = k := by simp [freshP]
theorem freshP_succ (k : Nat) : freshP (k + 1) = freshP k ++ [((0 : Int), (k : Int))] := by simp [freshP, List.range_succ]
theorem freshP_all (m : Nat) : freshP m = pairsF 0 (List.replicate m 0) := by
  induction m with
  | zero => rfl
  | succ m ih =>
    rw [freshP_succ, List.replicate_succ', pairsF_app, ← ih]
    simp [pairsF]
def listErr (l : List Int) (m : Int) (row : List Int) : Int := if lenErr l m ≠ 0 then lenErr l m else orderM row l.length
/-- What shop.List answers. -/
def ListPost (l : List Int) (m : Int) (row : List Int) (w : World) (e : Ending) (w' : World) : Prop :=
  Below w.heap.size w w' ∧ ((listErr l m row ≠ 0 ∧ e = .returned (.tuple #[.int .i64 0, .slice none 0 0, errV (listErr l m row)])) ∨
    (listErr l m row = 0 ∧ ∃ a cap, e = .returned (.tuple #[.int .i64 (listTo l row m.toNat row.length).2.1, .slice a row.length cap, .nilIface]) ∧ Elems enc4 4 w' a (listTo l row m.toNat row.length).2.2))
set_option maxRecDepth 100000 in
set_option maxHeartbeats 16000000 in
theorem list_any (a ar : Option Addr) (n cap nr cr : Nat) (m : Int) (l row : List Int) (w : World) (hl : n = l.length) (hr : nr = row.length) (hn : l.length ≤ 100) (hnr : row.length ≤ 100) (hx : Elems encI 1 w a l) (hxr : Elems encI 1 w ar row) :
    Calls Tryd.prog 15 #[.slice a n cap, .int .i64 m, .slice ar nr cr] w (ListPost l m row w) := by
  have HCK := Lib.hid (lengths_any a n cap m l w hl (by omega) hx)
  by_cases hC : lenErr l m = 0
  case neg =>
    have HE : Hid (listErr l m row = lenErr l m) := Lib.hid (if_pos hC)
    have HN := Lib.hid hC
    have HV := Lib.hid (show errV (lenErr l m) = .iface 25 (.int .i64 (lenErr l m)) from if_neg hC)
    clear hC hl hr hx hxr
    go_enter Tryd.func15, Tryd.ntmps15
    go_wp2_with fail
    refine HCK.out.mono ?_
    rintro e w1 ⟨rfl, hb1⟩
    rw [HV.out]
    go_wp2
    go_ret3
    exact ⟨hb1, Or.inl ⟨by rw [HE.out]; exact HN.out, by rw [HE.out, HV.out]; rfl⟩⟩
  have HOK := fun w1 (hb1 : Below w.heap.size w w1) => Lib.hid (order_any ar nr cr (n : Int) row w1 hr hnr (hxr.at hb1))
  have hE : listErr l m row = orderM row n := by unfold listErr; rw [if_neg (by simp [hC]), hl]
  have HV := Lib.hid (show errV (lenErr l m) = .nilIface from if_pos hC)
  by_cases hO : orderM row n = 0
  case neg =>
    have HE := Lib.hid hE
    have HN := Lib.hid hO
    have HV2 := Lib.hid (show errV (orderM row n) = .iface 25 (.int .i64 (orderM row n)) from if_neg hO)
    clear hE hO hC hl hr hx hxr
    go_enter Tryd.func15, Tryd.ntmps15
    go_wp2_with fail
    refine HCK.out.mono ?_
    rintro e w1 ⟨rfl, hb1⟩
    rw [HV.out]
    go_wp2_with fail
    refine (HOK w1 hb1).out.mono ?_
    rintro e w2 ⟨rfl, hb2⟩
    rw [HV2.out]
    go_wp2
    go_ret3
    exact ⟨below_next hb1 hb2, Or.inl ⟨by rw [HE.out]; exact HN.out, by rw [HE.out, HV2.out]; rfl⟩⟩
  obtain ⟨g1, g2, g3, g4⟩ := len_ok hC
  obtain ⟨q1, q2⟩ := order_ok hO
  obtain ⟨mn, rfl⟩ : ∃ mn : Nat, m = (mn : Int) := ⟨m.toNat, by omega⟩
  have hmn : 1 ≤ mn ∧ mn ≤ 20 := by omega
  have HE : Hid (listErr l mn row = 0) := Lib.hid (by rw [hE]; exact hO)
  have HV2 := Lib.hid (show errV (orderM row n) = .nilIface from if_pos hO)
  have HBD := Lib.hid (fun k hk => listTo_bound (l := l) (row := row) (m := mn) hmn.1 g4 (fun j hj => ⟨(q2 j hj).1, by have := (q2 j hj).2.1; omega⟩) k hk)
  have HLN := Lib.hid (fun k hk => listTo_len l row mn k hk)
  have HST := Lib.hid (fun k hk => listTo_succ l row mn k hk)
  have HRW : Hid (∀ j (h : j < row.length), 0 ≤ row[j] ∧ row[j] < l.length) := Lib.hid (fun j hj => ⟨(q2 j hj).1, by have := (q2 j hj).2.1; omega⟩)
  have HGL := Lib.hid g4
  have HX := Lib.hid hx
  have HXR := Lib.hid hxr
  have HRL := Lib.hid hr
  have HLL := Lib.hid hl
  have hnr60 : nr ≤ 100 := by omega
  clear hE hO hC g1 g2 g3 g4 q1 q2 hl hr hx hxr hn hnr
  go_enter Tryd.func15, Tryd.ntmps15
  go_wp2_with fail
  refine HCK.out.mono ?_
  rintro e w1 ⟨rfl, hb1⟩
  rw [HV.out]
  go_wp2_with fail
  refine (HOK w1 hb1).out.mono ?_
  rintro e w2 ⟨rfl, hb2⟩
  rw [HV2.out]
  have HB2 := Lib.hid (below_next hb1 hb2)
  clear HCK HOK HV HV2 hb1 hb2
  have H0 : Hid (ListAt w w2.heap.size (.slice none 0 0) (freshP 0) (.slice none 0 0) [] (w2.alloc (.cells #[.slice none 0 0] 95))) := Lib.hid
    ⟨by simp, by unfold World.frozen? World.alloc; simp only [Array.getElem?_push_size]; rfl, World.ownsRow_nil _ _ _ _, World.ownsRow_nil _ _ _ _, fun b h => by simp [Value.ownBlock] at h, HB2.out.alloc HB2.out.size _, HB2.out.size, by simp⟩
  obtain ⟨bp, hbp⟩ : ∃ bp, w2.heap.size = bp := ⟨_, rfl⟩
  go_wp2
  rw [hbp] at H0
  go_loopw [32] (fun iv wr => ∃ k : Nat, k ≤ mn ∧ iv = .int .i64 k ∧ ∃ s, Hid (ListAt w bp s (freshP k) (.slice none 0 0) [] wr)) (fun iv _ => mn - (intOf iv).toNat)
  case atStart => exact ⟨0, by omega, rfl, _, H0⟩
  case round =>
    clear H0 hbp HB2
    obtain ⟨k, hk, rfl, s, H⟩ := hrel
    by_cases hlt : k < mn
    · obtain ⟨ad, cap, hs⟩ := rowForm H.out.row
      rw [freshP_len] at hs
      subst hs
      have c0 := H.out.box
      have f0 := H.out.free
      have hlt2 := lt_of_cell c0
      simp only at hlt2
      have hrow := H.out.row
      rw [freshP_len] at hrow
      have hbs := H.out.hB.2
      have hk1 : k + 1 ≤ maxLen := by unfold maxLen; omega
      have hk2 : (k + 1) * 16 ≤ 140737488355328 := by omega
      go_wp2_with (at_builtin; (refine app_at rowSp rfl _ _ rfl (bp + 1) rfl hrow [.int .i64 0, .int .i64 k] rfl (by first | rfl | simp) rfl (by intro u hu; simp at hu; rcases hu with rfl | rfl <;> rfl) hk1 hk2 hbs ?_))
      intro ad2 cap2 w3 h1 h2 h3
      have hne : some bp ≠ (Value.slice ad k cap).ownBlock := fun h => by have := (H.out.row.lt bp h.symm).1; omega
      have c1 := (World.cell?_of_block (h2.block bp hlt2 hne)).trans c0
      have f1 := (World.frozen?_of_block (h2.block bp hlt2 hne)).trans f0
      have HN : Hid (ListAt w bp (.slice ad2 (k + 1) cap2) (freshP (k + 1)) (.slice none 0 0) [] (w3.setCell ⟨bp, 0, none⟩ (.slice ad2 (k + 1) cap2))) := Lib.hid
        (H.out.heap (H.out.toBox.box' h2 (ys := freshP (k + 1)) (by rw [freshP_len, freshP_succ, List.flatMap_append]; exact h1) h3))
      clear h1 h2 h3 hne hrow c0 f0
      go_wp2
      exact ⟨⟨k + 1, by omega, by go_num, _, HN⟩, by simp [intOf]; omega⟩
    · obtain rfl : k = mn := by omega
      have q0 := init_any ordP (spare_heap bp (bp + 1) wr s) s (freshP k) wr H.out.toBox (by rw [freshP_len]; omega)
      go_wp2_with fail
      refine q0.mono ?_
      rintro e w3 ⟨rfl, ys, hS, hp, hh⟩
      have H3 := Lib.hid (H.out.heap hS)
      have HP : Hid (ys.Perm (pairsF 0 (listTo l row k 0).1)) := Lib.hid (by rw [listTo_zero, ← freshP_all]; exact hp)
      have HH := Lib.hid hh
      clear q0 hS hp hh H
      go_wp2
      go_loopw [13, 14, 45] (fun ev ov iv wr => ∃ t : Nat, t ≤ nr ∧ iv = .int .i64 t ∧ ev = .int .i64 (listTo l row k t).2.1 ∧ ∃ s ys, Hid (ListAt w bp s ys ov (listTo l row k t).2.2 wr) ∧ Hid (ys.Perm (pairsF 0 (listTo l row k t).1)) ∧ Hid (HeapF ltP ys 0 ys.length)) (fun _ _ iv _ => nr - (intOf iv).toNat)
      case atStart => exact ⟨0, by omega, rfl, by rw [listTo_zero], s, ys, by rw [listTo_zero]; exact H3, HP, HH⟩
      case round =>
        clear H3 HP HH
        obtain ⟨t, ht, rfl, rfl, s, ys, H, HP, HH⟩ := hrel
        by_cases hlt2 : t < nr
        · have hltx : t < row.length := by rw [← HRL.out]; exact hlt2
          obtain ⟨hr0, hr1⟩ := HRW.out t hltx
          obtain ⟨i, hi⟩ : ∃ i : Nat, row[t] = (i : Int) := ⟨row[t].toNat, by omega⟩
          have hil : i < l.length := by omega
          have hst := HST.out t hltx
          have hbd := HBD.out t (by omega)
          have hln := HLN.out t (by omega)
          obtain ⟨V, hV⟩ : ∃ V, V = l[i] := ⟨_, rfl⟩
          have hVb : 0 ≤ V ∧ V ≤ 1000000000 := by rw [hV]; exact HGL.out _ (List.getElem_mem hil)
          have hat : atI l row[t] = V := by rw [hi, atI_nat hil, hV]
          unfold stepL at hst
          rw [hat, hi] at hst
          obtain ⟨hx, hM⟩ := heap_least HP.out HH.out (by rw [hln.1]; omega)
          obtain ⟨b, o, rfl, hcl⟩ := HX.out.some hil
          have d1 := hcl i hil 0 _ rfl
          simp only [Nat.add_zero, Nat.mul_one] at d1
          rw [← hV] at d1
          obtain ⟨b2, o2, rfl, hcr⟩ := HXR.out.some hltx
          have d2 := hcr t hltx 0 _ rfl
          simp only [Nat.add_zero, Nat.mul_one] at d2
          rw [hi] at d2
          have e2 := (H.out.fr.cell (lt_of_cell d2)).trans d2
          have HD1 := Lib.hid d1
          have hA := hbd.1 (leastTo (listTo l row k t).1 (listTo l row k t).1.length) (Nat.lt_of_lt_of_eq hM hln.1)
          have HST1 := Lib.hid hst
          have hlp := hln.2
          have hyl : ys.length = k := by rw [HP.out.length_eq, pairsF_len]; exact hln.1
          obtain ⟨hE0, hE1⟩ := hbd.2
          clear hcl hcr hV hat hst hbd hln hr0 hr1 hi d1 d2
          generalize listTo l row k t = st at *
          obtain ⟨L, E, P⟩ := st
          simp only at H HP hx hM HST1 hA hE0 hE1 hlp
          generalize leastTo L L.length = M at *
          generalize hAA : lg L M = A at *
          have HM := Lib.hid hM
          have HAA := Lib.hid hAA
          have HX0 := Lib.hid hx
          have hAb : 0 ≤ A ∧ A ≤ 100000000000 := by omega
          have hEb : 0 ≤ E ∧ E ≤ 100000000000 := by omega
          have hwA : IntKind.i64.wrap (A + V) = A + V := IntWalk.i64_in _ (by omega)
          have q1 := pop_any ordP (spare_heap bp (bp + 1) wr s) s ys wr H.out.toBox (by omega) (by omega) HH.out
          rw [hx] at q1
          have hta := assert_spare (A, (M : Int))
          have HYL := Lib.hid hyl
          clear hM hAA hx hA hE0 hE1 hyl
          go_wp2_with fail
          refine q1.mono ?_
          rintro e w4 ⟨rfl, s2, zs, hS, hp, hh⟩
          have H4 := Lib.hid (H.out.heap hS)
          have HH4 := Lib.hid hh
          have HP4 : Hid ((zs ++ [(A + V, (M : Int))]).Perm (pairsF 0 (L.set M (A + V)))) := Lib.hid (by
            have := pairs_next HM.out (A + V) HP.out (ys := zs) (by rw [HAA.out]; exact hp)
            exact this)
          have hzl : zs.length + 1 = k := by rw [← HYL.out, hp.length_eq]; simp
          clear q1 hS hp hh H HP HH e2
          obtain ⟨W, hW⟩ : ∃ W, W = w4.alloc (.cells #[.int .i64 A, .int .i64 (M : Int)] 96) := ⟨_, rfl⟩
          obtain ⟨C, hC⟩ : ∃ C, C = w4.heap.size := ⟨_, rfl⟩
          have HW : Hid (ListAt w bp s2 zs u14 P W) := Lib.hid (by rw [hW]; exact H4.out.next ((Below.refl _ _).alloc (Nat.le_refl _) _))
          have k1 : W.cell? ⟨C, 0, none⟩ = some (.int .i64 A) := by rw [hW, hC]; simp
          have k2 : W.cell? ⟨C, 1, none⟩ = some (.int .i64 (M : Int)) := by rw [hW, hC]; simp
          have k3 : W.frozen? ⟨C, 0, none⟩ = false := by rw [hW, hC]; unfold World.frozen? World.alloc; simp only [Array.getElem?_push_size]; rfl
          have k4 : W.cell? ⟨b, o + i, none⟩ = some (.int .i64 V) := (HW.out.fr.cell (lt_of_cell HD1.out)).trans HD1.out
          have hCo : some C ≠ u14.ownBlock := fun h => by have := (H4.out.out.lt C h.symm).2; omega
          have hbo : some b ≠ u14.ownBlock := fun h => by
            have h1 := (H4.out.out.lt b h.symm).1
            have h2 := H4.out.hB.1
            have h3 := lt_of_cell HD1.out
            simp only at h3
            omega
          have hCW : C < W.heap.size := by rw [hW, hC]; simp
          have HCB : Hid (bp < C ∧ some C ≠ s2.ownBlock) := Lib.hid ⟨by rw [hC]; have := H4.out.hB.2; omega, fun h => by have := (H4.out.row.lt C h.symm).2; omega⟩
          have HNEW : Hid (∀ v' w5, w5.ownsRow (bp + 1) 100 4 v' (P.length + 1) (P.flatMap enc4 ++ [.int .i64 M, .int .i64 i, .int .i64 A, .int .i64 (A + V)]) → ((W.alloc (.cells #[.int .i64 M, .int .i64 i, .int .i64 A, .int .i64 (A + V)] 100)).drew).grownBy w5 u14.ownBlock →
              (v'.ownBlock = u14.ownBlock ∨ ∀ g, v'.ownBlock = some g → ((W.alloc (.cells #[.int .i64 M, .int .i64 i, .int .i64 A, .int .i64 (A + V)] 100)).drew).heap.size ≤ g) →
              ListAt w bp s2 zs v' (P ++ [((M : Int), (i : Int), A, A + V)]) w5 ∧ w5.cell? ⟨C, 0, none⟩ = some (.int .i64 A) ∧ w5.cell? ⟨C, 1, none⟩ = some (.int .i64 (M : Int)) ∧ w5.frozen? ⟨C, 0, none⟩ = false ∧ w5.cell? ⟨b, o + i, none⟩ = some (.int .i64 V) ∧ some C ≠ v'.ownBlock) := Lib.hid (fun v' w5 h1 h2 h3 => by
            have hg : W.grownBy w5 u14.ownBlock := grown_trans (grown_of_below (((Below.refl _ _).alloc (Nat.le_refl _) _).drew) _) h2
            have h4 : v'.ownBlock = u14.ownBlock ∨ ∀ g, v'.ownBlock = some g → W.heap.size ≤ g := by
              rcases h3 with h3 | h3
              · exact Or.inl h3
              · exact Or.inr (fun g hg2 => Nat.le_trans (by simp) (h3 g hg2))
            refine ⟨HW.out.more hg (by rw [List.length_append, List.flatMap_append]; exact h1) h4, grown_cell hg k1 hCo, grown_cell hg k2 hCo, grown_frozen hg k1 k3 hCo, grown_cell hg k4 hbo, fun h5 => ?_⟩
            rcases h4 with h4 | h4
            · exact hCo (by rw [h5, h4])
            · have := h4 C h5.symm; omega)
          have hown := HW.out.out
          have hPl : P.length + 1 ≤ maxLen := by unfold maxLen; omega
          have hPb : (P.length + 1) * 32 ≤ 140737488355328 := by omega
          have hbW : bp + 1 ≤ W.heap.size := HW.out.hB.2
          clear hCo hbo hlp
          go_wp2
          rw [← hW, ← hC]
          have hin : i < n := by have := HLL.out; omega
          have hin1 : (0 : Int) ≤ (i : Int) := by omega
          have hin2 : (i : Int) < (n : Int) := by omega
          have hn0 : 0 < n := by omega
          clear hW hC
          go_region_held3 (fun w' => w'.cell? ⟨C, 0, none⟩ = some (.int .i64 A) ∧ w'.cell? ⟨C, 1, none⟩ = some (.int .i64 (M : Int)) ∧ w'.cell? ⟨b, o + i, none⟩ = some (.int .i64 V))
            (first | go_keep | exact ⟨c1, c2, c4⟩)
            ((refine step_row_at rowPt (by rfl) _ _ (by rfl) (bp + 1) (by rfl) ((hown.alloc _).drew) W.heap.size (enc4 ((M : Int), (i : Int), A, A + V)) (heap_alloc_new W _) (by rfl) rfl (enc4_one _) hPl hPb (by simp; omega) ?_; intro v' w5 h1 h2 h3; obtain ⟨h6, c1, c2, c3, c4, c5⟩ := HNEW.out v' w5 h1 h2 h3))
          have H7 : Hid (ListAt w bp s2 zs v' (P ++ [((M : Int), (i : Int), A, A + V)]) ((w5.setCell ⟨C, 0, none⟩ (.int .i64 (A + V))).drew)) := Lib.hid ((h6.far HCB.out.1 HCB.out.2 c5 (grown_setCells C [.int .i64 (A + V)] w5 0)).next (Below.drew (Below.refl _ _)))
          have q2 := push_any ordP (spare_heap bp (bp + 1) _ s2) s2 zs (A + V, (M : Int)) _ H7.out.toBox (by omega) HH4.out
          clear h6 c5 h1 h2 h3 hown HNEW k1 k2 k3 k4 hPl hPb hbW
          have HLt : Hid (listTo l row k (t + 1) = (L.set M (A + V), max E (A + V), P ++ [((M : Int), (i : Int), A, A + V)])) := HST1
          by_cases hmx : E < A + V
          · have HMX : Hid (max E (A + V) = A + V) := Lib.hid (by omega)
            go_wp2
            go_region
            go_wp2_with fail
            refine q2.mono ?_
            rintro e w8 ⟨rfl, s3, ws, hS8, hp8, hh8⟩
            have H8 := Lib.hid (H7.out.heap hS8)
            have HP8 := Lib.hid (hp8.trans HP4.out)
            have HH8 := Lib.hid hh8
            clear q2 hS8 hp8 hh8 hmx
            go_wp2
            exact ⟨⟨t + 1, by omega, by go_num, by rw [HLt.out, HMX.out], s3, ws, by rw [HLt.out]; exact H8, by rw [HLt.out]; exact HP8, HH8⟩, by simp [intOf]; omega⟩
          · have HMX : Hid (max E (A + V) = E) := Lib.hid (by omega)
            go_wp2
            go_region
            go_wp2_with fail
            refine q2.mono ?_
            rintro e w8 ⟨rfl, s3, ws, hS8, hp8, hh8⟩
            have H8 := Lib.hid (H7.out.heap hS8)
            have HP8 := Lib.hid (hp8.trans HP4.out)
            have HH8 := Lib.hid hh8
            clear q2 hS8 hp8 hh8 hmx
            go_wp2
            exact ⟨⟨t + 1, by omega, by go_num, by rw [HLt.out, HMX.out], s3, ws, by rw [HLt.out]; exact H8, by rw [HLt.out]; exact HP8, HH8⟩, by simp [intOf]; omega⟩
        · obtain rfl : t = nr := by omega
          obtain ⟨a2, c2, hov, he, _⟩ := elems_of_owns (enc := enc4) (fun _ => rfl) rfl H.out.out
          have hlen := (HLN.out t (by rw [HRL.out]; exact Nat.le_refl _)).2
          have HF := Lib.hid H.out.fr
          have HEL := Lib.hid he
          have HLE := Lib.hid hlen
          subst hov
          clear H HP HH he hlen
          go_wp2
          go_ret3
          refine ⟨HF.out, Or.inr ⟨HE.out, a2, c2, ?_, ?_⟩⟩
          · rw [HLE.out, ← HRL.out]; rfl
          · rw [← HRL.out]; exact HEL.out
end Go.Proofs.YtannijeiecmjpaaDoor
