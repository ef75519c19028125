/- The law DepotOpens: of any bytes both Opens make the same depot, and read as many bytes (printed by gen_opens.py). -/
import Derived.Test.YtannijeiecmjpaaGreatDoorOpenR
import Derived.Test.YtannijeiecmjpaaGreatDoorPlaysD
namespace Go.Proofs.YtannijeiecmjpaaGreatDoor
open Go.RowKit

/-- What stays while both depots are only asked. -/
structure AskO (bd bw lo : Nat) (mv jv v : Value) (L : List MoveD) (w0 w : World) : Prop where
  dep : DepAt (bd + 1) bd mv jv L w
  ref : RefDep (bw + 1) bw v L w
  pow : PowAt w
  low : Below lo w0 w
theorem AskO.at {bd bw lo : Nat} {mv jv v : Value} {L : List MoveD} {w0 w w' : World} (h : AskO bd bw lo mv jv v L w0 w) (hlo : lo ≤ w0.heap.size) (hb : Below w.heap.size w w') : AskO bd bw lo mv jv v L w0 w' :=
  ⟨h.dep.at hb, h.ref.at hb, h.pow.at hb, h.low.trans (hb.mono (Nat.le_trans hlo h.low.size))⟩
set_option maxRecDepth 100000 in
set_option maxHeartbeats 40000000 in
theorem opens_big (a : Option Addr) (n c : Nat) (w : World) (h : 3000 < n) :
    Calls Tryz.prog 4 #[.slice a n c] w fun e w' => e = .returned (.bool true) ∧ Below w.heap.size w w' := by
  have d1 : decide ((3000 : Int) < (n : Int)) = true := decide_eq_true (by omega)
  go_enter Tryz.func4, Tryz.ntmps4
  go_wp2
  go_ret
  exact ⟨rfl, Below.refl _ _⟩
set_option maxRecDepth 100000 in
set_option maxHeartbeats 40000000 in
theorem opens_law (a : Option Addr) (n c : Nat) (b : Byt) (w : World) (hl : n = b.length) (hx : Elems encY 1 w a b) (hnone : a = none → c = 0) (hcap : n ≤ c) (hcm : c ≤ maxLen) (H : OpW w) :
    Calls Tryz.prog 4 #[.slice a n c] w fun e w' => e = .returned (.bool true) ∧ Below w.heap.size w w' := by
  by_cases hbig : 3000 < n
  · exact opens_big a n c w hbig
  have d1 : decide ((3000 : Int) < (n : Int)) = false := decide_eq_false (by omega)
  have HP := Lib.hid (depOpen_any a n c b w hl (by omega) hx hnone hcap hcm H)
  have HX := Lib.hid hx
  have HL := Lib.hid hl
  have HW := Lib.hid H
  have HNN := Lib.hid hnone
  have hbl : b.length ≤ 3000 := by omega
  clear hx hl H hnone hcap hcm
  go_enter Tryz.func4, Tryz.ntmps4
  go_wp2_with fail
  refine HP.out.mono ?_
  rintro e w1 ⟨mv, jv, rfl, hD, hO, hb1⟩
  have hcv : (convert 25 9 (.slice a n c)).run Tryz.prog w1 = .ok (strV b) w1 := by
    cases a with
    | none =>
      have hc := HNN.out rfl
      have hb : b = [] := by
        rcases HX.out with h | ⟨B, o, h, _⟩
        · exact h
        · cases h
      have hn : n = 0 := by rw [HL.out, hb]; rfl
      rw [hc, hn, hb]
      exact Lib.run_convert_nil_bytes w1 25 9 5 0 Tryz.underlying25 Tryz.underlying5 Tryz.underlying9
    | some ad =>
      have h2 := run_convert_bytes_back (P := Tryz.prog) w1 25 9 5 ad c b Tryz.underlying25 Tryz.underlying5 Tryz.underlying9 (fun j hj => by
        obtain ⟨B, o, e, h3⟩ := (HX.out.below hb1 (Nat.le_refl _)).some hj
        obtain rfl := Option.some.inj e
        have h4 := h3 j hj 0 _ rfl
        have hadd : (⟨B, o, none⟩ : Addr).add j = ⟨B, o + j, none⟩ := by unfold Addr.add; split <;> simp_all
        rw [hadd]
        simpa using h4)
      rwa [← HL.out] at h2
  have HB1 := Lib.hid hb1
  have HD1 := Lib.hid hD
  have HO1 := Lib.hid hO
  have HR := Lib.hid (refOpen_any b w1 hbl (HW.out.at hb1))
  have hlen := hO.len
  clear hD hO hb1 HP
  go_wp2_with fail
  refine HR.out.mono ?_
  rintro e w2 ⟨v, rfl, hR, _, hb2⟩
  obtain ⟨L, hL⟩ : ∃ L, L = runM b 500 [] := ⟨_, rfl⟩
  rw [← hL] at hR hlen HD1 HO1
  rw [← hL]
  obtain ⟨ra, rc, rfl, _⟩ := hR.elems
  have rc0 := hR.cell
  obtain ⟨bd, hbd⟩ : ∃ bd, bd = w.heap.size := ⟨_, rfl⟩
  obtain ⟨bw, hbw⟩ : ∃ bw, bw = w1.heap.size := ⟨_, rfl⟩
  rw [← hbw] at rc0 hR
  rw [← hbd] at HD1
  have HA : Hid (AskO bd bw w.heap.size mv jv (.slice ra L.length rc) L w w2) := Lib.hid ⟨HD1.out.at hb2, hR, HW.out.pow.at (HB1.out.trans (hb2.mono HB1.out.size)), HB1.out.trans (hb2.mono HB1.out.size)⟩
  rw [← hbd, ← hbw]
  have HMV : Hid (∀ w', AskO bd bw w.heap.size mv jv (.slice ra L.length rc) L w w' → Calls Tryz.prog 8 #[.pointer (some ⟨bd, 0, none⟩)] w' fun e w'' => e = .returned (.int .i64 L.length) ∧ Below w'.heap.size w' w'') := Lib.hid (fun w' h => (depMoves_any h.dep).mono (fun e w'' h => ⟨h.1, by rw [h.2]; exact Below.refl _ _⟩))
  have HTH : Hid (∀ w', AskO bd bw w.heap.size mv jv (.slice ra L.length rc) L w w' → Calls Tryz.prog 14 #[.pointer (some ⟨bd, 0, none⟩)] w' fun e w'' => ∃ a c ss, e = .returned (.slice a ss.length c) ∧ NamesOf L ss ∧ Elems encT 1 w'' a ss ∧ Below w'.heap.size w' w'') := Lib.hid (fun w' h => (depThings_any hlen h.dep).mono (fun e w'' ⟨v, ss, h1, h2, h3, h4⟩ => by
    obtain ⟨a, c, rfl, h5⟩ := names_row h3
    exact ⟨a, c, ss, h1, h2, h5, h4⟩))
  have HRT : Hid (∀ w', AskO bd bw w.heap.size mv jv (.slice ra L.length rc) L w w' → Calls Tryz.prog 15 #[.pointer (some ⟨bw, 0, none⟩)] w' fun e w'' => ∃ a c ss, e = .returned (.slice a ss.length c) ∧ NamesOf L ss ∧ Elems encT 1 w'' a ss ∧ Below w'.heap.size w' w'') := Lib.hid (fun w' h => (refThings_any hlen h.ref).mono (fun e w'' ⟨v, ss, h1, h2, h3, h4⟩ => by
    obtain ⟨a, c, rfl, h5⟩ := names_row h3
    exact ⟨a, c, ss, h1, h2, h5, h4⟩))
  have HJ : Hid (∀ w', AskO bd bw w.heap.size mv jv (.slice ra L.length rc) L w w' → Calls Tryz.prog 16 #[.pointer (some ⟨bd, 0, none⟩)] w' fun e w'' => ∃ v, e = .returned v ∧ w''.ownsRow w'.heap.size 5 1 v (journalM L).length ((journalM L).map fun b => Value.int .u8 (b.toNat : Int)) ∧ Below w'.heap.size w' w'') := Lib.hid (fun w' h => depJournal_any hlen h.dep)
  have HRJO : Hid (∀ w', AskO bd bw w.heap.size mv jv (.slice ra L.length rc) L w w' → Calls Tryz.prog 17 #[.pointer (some ⟨bw, 0, none⟩)] w' fun e w'' => e = .returned (strV (journalM L)) ∧ Below w'.heap.size w' w'') := Lib.hid (fun w' h => refJournal_any _ _ L _ w' hlen h.ref h.pow)
  have HX2 := Lib.hid hbd
  have HX3 := Lib.hid hbw
  clear hL hR hb2 hbd hbw hcv HR HD1 HO1 HB1
  generalize journalM L = jn at *
  go_wp2
  refine wp_region_held_drew (S := fun w' => w'.cell? ⟨bw, 0, none⟩ = some (.slice ra L.length rc) ∧ Hid (AskO bd bw w.heap.size mv jv (.slice ra L.length rc) L w w')) (by kernel_rfl) ⟨by simpa using rc0, Lib.hid (HA.out.at (Nat.le_refl _) (below_drewN w2 1 _))⟩ (fun hHeld => ?_)
  refine take_yes (i := 0) (v := ?_) rfl (by kernel_rfl) (by kernel_rfl) (by kernel_rfl) (fun _ _ _ h => h) (by kernel_rfl) hHeld ?_ ?_
  rotate_left
  · intro w hSw; go_split_ands; go_simp; try with_reducible rfl
  try simp only [Act.put, List.setIfInBounds_toArray, List.set_cons_zero, List.set_cons_succ]
  refine take_yes (i := 1) (v := ?_) rfl (by kernel_rfl) (by kernel_rfl) (by kernel_rfl) (fun _ _ _ h => h) (by kernel_rfl) hHeld ?_ ?_
  rotate_left
  · intro w hSw; go_split_ands; go_simp; try with_reducible rfl
  try simp only [Act.put, List.setIfInBounds_toArray, List.set_cons_zero, List.set_cons_succ]
  refine take_yes (i := 2) (v := ?_) rfl (by kernel_rfl) (by kernel_rfl) (by kernel_rfl) (fun _ _ _ h => h) (by kernel_rfl) hHeld ?_ ?_
  rotate_left
  · intro w hSw; go_split_ands; go_simp; try with_reducible rfl
  try simp only [Act.put, List.setIfInBounds_toArray, List.set_cons_zero, List.set_cons_succ]
  refine take_yes (i := 3) (v := ?_) rfl (by kernel_rfl) (by kernel_rfl) (by kernel_rfl) (fun _ _ _ h => h) (by kernel_rfl) hHeld ?_ ?_
  rotate_left
  · intro w hSw; go_split_ands; go_simp; try with_reducible rfl
  try simp only [Act.put, List.setIfInBounds_toArray, List.set_cons_zero, List.set_cons_succ]
  refine take_yes (i := 4) (v := ?_) rfl (by kernel_rfl) (by kernel_rfl) (by kernel_rfl) (fun _ _ _ h => h) (by kernel_rfl) hHeld ?_ ?_
  rotate_left
  · intro w hSw; go_split_ands; go_simp; try with_reducible rfl
  try simp only [Act.put, List.setIfInBounds_toArray, List.set_cons_zero, List.set_cons_succ]
  refine take_yes (i := 5) (v := ?_) rfl (by kernel_rfl) (by kernel_rfl) (by kernel_rfl) (fun _ _ _ h => h) (by kernel_rfl) hHeld ?_ ?_
  rotate_left
  · intro w hSw; go_split_ands; go_simp; try with_reducible rfl
  try simp only [Act.put, List.setIfInBounds_toArray, List.set_cons_zero, List.set_cons_succ]
  refine take_yes (i := 6) (v := ?_) rfl (by kernel_rfl) (by kernel_rfl) (by kernel_rfl) (fun _ _ _ h => h) (by kernel_rfl) hHeld ?_ ?_
  rotate_left
  · intro w hSw; go_split_ands; go_simp; try with_reducible rfl
  try simp only [Act.put, List.setIfInBounds_toArray, List.set_cons_zero, List.set_cons_succ]
  refine take_yes (i := 7) (v := ?_) rfl (by kernel_rfl) (by kernel_rfl) (by kernel_rfl) (fun _ _ _ h => h) (by kernel_rfl) hHeld ?_ ?_
  rotate_left
  · intro w hSw; go_split_ands; go_simp; try with_reducible rfl
  try simp only [Act.put, List.setIfInBounds_toArray, List.set_cons_zero, List.set_cons_succ]
  refine take_yes (i := 8) (v := ?_) rfl (by kernel_rfl) (by kernel_rfl) (by kernel_rfl) (fun _ _ _ h => h) (by kernel_rfl) hHeld ?_ ?_
  rotate_left
  · intro w hSw; go_split_ands; go_simp; try with_reducible rfl
  try simp only [Act.put, List.setIfInBounds_toArray, List.set_cons_zero, List.set_cons_succ]
  refine take_yes (i := 10) (v := ?_) rfl (by kernel_rfl) (by kernel_rfl) (by kernel_rfl) (fun _ _ _ h => h) (by kernel_rfl) hHeld ?_ ?_
  rotate_left
  · intro w hSw; go_split_ands; go_simp; try with_reducible rfl
  try simp only [Act.put, List.setIfInBounds_toArray, List.set_cons_zero, List.set_cons_succ]
  refine take_yes (i := 11) (v := ?_) rfl (by kernel_rfl) (by kernel_rfl) (by kernel_rfl) (fun _ _ _ h => h) (by kernel_rfl) hHeld ?_ ?_
  rotate_left
  · intro w hSw; go_split_ands; go_simp; try with_reducible rfl
  try simp only [Act.put, List.setIfInBounds_toArray, List.set_cons_zero, List.set_cons_succ]
  refine take_yes (i := 12) (v := ?_) rfl (by kernel_rfl) (by kernel_rfl) (by kernel_rfl) (fun _ _ _ h => h) (by kernel_rfl) hHeld ?_ ?_
  rotate_left
  · intro w hSw; go_split_ands; go_simp; try with_reducible rfl
  try simp only [Act.put, List.setIfInBounds_toArray, List.set_cons_zero, List.set_cons_succ]
  refine take_yes (i := 13) (v := ?_) rfl (by kernel_rfl) (by kernel_rfl) (by kernel_rfl) (fun _ _ _ h => h) (by kernel_rfl) hHeld ?_ ?_
  rotate_left
  · intro w hSw; go_split_ands; go_simp; try with_reducible rfl
  try simp only [Act.put, List.setIfInBounds_toArray, List.set_cons_zero, List.set_cons_succ]
  refine take_yes (i := 14) (v := ?_) rfl (by kernel_rfl) (by kernel_rfl) (by kernel_rfl) (fun _ _ _ h => h) (by kernel_rfl) hHeld ?_ ?_
  rotate_left
  · intro w hSw; go_split_ands; go_simp; try with_reducible rfl
  try simp only [Act.put, List.setIfInBounds_toArray, List.set_cons_zero, List.set_cons_succ]
  refine take_loud (i := 9) rfl (by kernel_rfl) (fun K hK => ?_)
  go_simp
  go_wp2_with (go_at_call 8; refine (HMV.out _ hHeld.2.out).mono ?_; rintro e wN ⟨rfl, hbN⟩)
  refine hK.out _ _ ⟨(hbN.cell (lt_of_cell hHeld.1)).trans hHeld.1, Lib.hid (hHeld.2.out.at (Nat.le_refl _) hbN)⟩ (fun hHeld2 => ?_)
  replace hHeld := hHeld2
  clear hK K hHeld2 hbN
  try simp only [Act.put, List.setIfInBounds_toArray, List.set_cons_zero, List.set_cons_succ]
  refine take_yes (i := 15) (v := ?_) rfl (by kernel_rfl) (by kernel_rfl) (by kernel_rfl) (fun _ _ _ h => h) (by kernel_rfl) hHeld ?_ ?_
  rotate_left
  · intro w hSw; go_split_ands; go_simp; try with_reducible rfl
  try simp only [Act.put, List.setIfInBounds_toArray, List.set_cons_zero, List.set_cons_succ]
  refine take_yes (i := 16) (v := ?_) rfl (by kernel_rfl) (by kernel_rfl) (by kernel_rfl) (fun _ _ _ h => h) (by kernel_rfl) hHeld ?_ ?_
  rotate_left
  · intro w hSw; go_split_ands; go_simp; try with_reducible rfl
  try simp only [Act.put, List.setIfInBounds_toArray, List.set_cons_zero, List.set_cons_succ]
  refine take_yes (i := 17) (v := ?_) rfl (by kernel_rfl) (by kernel_rfl) (by kernel_rfl) (fun _ _ _ h => h) (by kernel_rfl) hHeld ?_ ?_
  rotate_left
  · intro w hSw; go_split_ands; go_simp; try with_reducible rfl
  try simp only [Act.put, List.setIfInBounds_toArray, List.set_cons_zero, List.set_cons_succ]
  refine take_yes (i := 18) (v := ?_) rfl (by kernel_rfl) (by kernel_rfl) (by kernel_rfl) (fun _ _ _ h => h) (by kernel_rfl) hHeld ?_ ?_
  rotate_left
  · intro w hSw; go_split_ands; go_simp; try with_reducible rfl
  try simp only [Act.put, List.setIfInBounds_toArray, List.set_cons_zero, List.set_cons_succ]
  refine take_yes (i := 21) (v := ?_) rfl (by kernel_rfl) (by kernel_rfl) (by kernel_rfl) (fun _ _ _ h => h) (by kernel_rfl) hHeld ?_ ?_
  rotate_left
  · intro w hSw; go_split_ands; go_simp; try with_reducible rfl
  try simp only [Act.put, List.setIfInBounds_toArray, List.set_cons_zero, List.set_cons_succ]
  refine take_loud (i := 19) rfl (by kernel_rfl) (fun K hK => ?_)
  go_simp
  go_wp2_with (go_at_call 16; refine (HJ.out _ hHeld.2.out).mono ?_; rintro e wN ⟨vj, rfl, hrj, hbN⟩)
  refine hK.out _ _ ⟨(hbN.cell (lt_of_cell hHeld.1)).trans hHeld.1, Lib.hid (hHeld.2.out.at (Nat.le_refl _) hbN)⟩ (fun hHeld2 => ?_)
  have HRJ := Lib.hid hrj
  clear hrj
  replace hHeld := hHeld2
  clear hK K hHeld2 hbN
  try simp only [Act.put, List.setIfInBounds_toArray, List.set_cons_zero, List.set_cons_succ]
  refine take_both (i := 20) (j := 22) rfl rfl (by kernel_rfl) (fun K hK => ?_) (fun K hK => ?_)
  · skip
    have hcv := jour_text HRJ.out
    try go_simp
    refine hK.out _ _ hHeld (fun hHeld2 => ?_)
    replace hHeld := hHeld2
    clear hK K hHeld2 hcv HRJ
    try simp only [Act.put, List.setIfInBounds_toArray, List.set_cons_zero, List.set_cons_succ]
    refine take_loud (i := 22) rfl (by kernel_rfl) (fun K hK => ?_)
    go_simp
    go_wp2_with (go_at_call 17; refine (HRJO.out _ hHeld.2.out).mono ?_; rintro e wN ⟨rfl, hbN⟩)
    refine hK.out _ _ ⟨(hbN.cell (lt_of_cell hHeld.1)).trans hHeld.1, Lib.hid (hHeld.2.out.at (Nat.le_refl _) hbN)⟩ (fun hHeld2 => ?_)
    replace hHeld := hHeld2
    clear hK K hHeld2 hbN
    try simp only [Act.put, List.setIfInBounds_toArray, List.set_cons_zero, List.set_cons_succ]
    refine take_yes (i := 23) (v := ?_) rfl (by kernel_rfl) (by kernel_rfl) (by kernel_rfl) (fun _ _ _ h => h) (by kernel_rfl) hHeld ?_ ?_
    rotate_left
    · intro w hSw; go_split_ands; go_simp; try with_reducible rfl
    try simp only [Act.put, List.setIfInBounds_toArray, List.set_cons_zero, List.set_cons_succ]
    refine take_yes (i := 24) (v := ?_) rfl (by kernel_rfl) (by kernel_rfl) (by kernel_rfl) (fun _ _ _ h => h) (by kernel_rfl) hHeld ?_ ?_
    rotate_left
    · intro w hSw; go_split_ands; go_simp; try with_reducible rfl
    try simp only [Act.put, List.setIfInBounds_toArray, List.set_cons_zero, List.set_cons_succ]
    refine take_yes (i := 25) (v := ?_) rfl (by kernel_rfl) (by kernel_rfl) (by kernel_rfl) (fun _ _ _ h => h) (by kernel_rfl) hHeld ?_ ?_
    rotate_left
    · intro w hSw; go_split_ands; go_simp; try with_reducible rfl
    try simp only [Act.put, List.setIfInBounds_toArray, List.set_cons_zero, List.set_cons_succ]
    refine take_yes (i := 26) (v := ?_) rfl (by kernel_rfl) (by kernel_rfl) (by kernel_rfl) (fun _ _ _ h => h) (by kernel_rfl) hHeld ?_ ?_
    rotate_left
    · intro w hSw; go_split_ands; go_simp; try with_reducible rfl
    try simp only [Act.put, List.setIfInBounds_toArray, List.set_cons_zero, List.set_cons_succ]
    refine take_yes (i := 28) (v := ?_) rfl (by kernel_rfl) (by kernel_rfl) (by kernel_rfl) (fun _ _ _ h => h) (by kernel_rfl) hHeld ?_ ?_
    rotate_left
    · intro w hSw; go_split_ands; go_simp; try with_reducible rfl
    try simp only [Act.put, List.setIfInBounds_toArray, List.set_cons_zero, List.set_cons_succ]
    refine take_loud (i := 27) rfl (by kernel_rfl) (fun K hK => ?_)
    go_simp
    go_wp2_with (go_at_call 14; refine (HTH.out _ hHeld.2.out).mono ?_; rintro e wN ⟨a1, c1, s1, rfl, hn1, hE1, hbN⟩)
    refine hK.out _ _ ⟨(hbN.cell (lt_of_cell hHeld.1)).trans hHeld.1, Lib.hid (hHeld.2.out.at (Nat.le_refl _) hbN)⟩ (fun hHeld2 => ?_)
    have HE1 := Lib.hid hE1
    have HN1 := Lib.hid hn1
    clear hE1 hn1
    replace hHeld := hHeld2
    clear hK K hHeld2 hbN
    try simp only [Act.put, List.setIfInBounds_toArray, List.set_cons_zero, List.set_cons_succ]
    refine take_loud (i := 29) rfl (by kernel_rfl) (fun K hK => ?_)
    go_simp
    go_wp2_with (go_at_call 15; refine (HRT.out _ hHeld.2.out).mono ?_; rintro e wN ⟨a2, c2, s2, rfl, hn2, hE2, hbN⟩)
    refine hK.out _ _ ⟨(hbN.cell (lt_of_cell hHeld.1)).trans hHeld.1, Lib.hid (hHeld.2.out.at (Nat.le_refl _) hbN)⟩ (fun hHeld2 => ?_)
    have HE2 := Lib.hid hE2
    have HN2 := Lib.hid hn2
    replace HE1 := Lib.hid (HE1.out.at hbN)
    clear hE2 hn2
    replace hHeld := hHeld2
    clear hK K hHeld2 hbN
    try simp only [Act.put, List.setIfInBounds_toArray, List.set_cons_zero, List.set_cons_succ]
    obtain rfl : s1 = s2 := names_eq HN1.out HN2.out
    have hsl := names_len HN1.out
    refine take_loud (i := 30) rfl (by kernel_rfl) (fun K hK => ?_)
    go_simp
    go_wp2_with (go_at_call 13; refine (same_any _ _ _ _ _ _ s1 s1 _ rfl rfl (by omega) (by omega) HE1.out HE2.out).mono ?_; rintro e wN ⟨rfl, hbN⟩)
    refine hK.out _ _ ⟨(hbN.cell (lt_of_cell hHeld.1)).trans hHeld.1, Lib.hid (hHeld.2.out.at (Nat.le_refl _) hbN)⟩ (fun hHeld2 => ?_)
    clear HE1 HE2
    replace hHeld := hHeld2
    clear hK K hHeld2 hbN
    try simp only [Act.put, List.setIfInBounds_toArray, List.set_cons_zero, List.set_cons_succ]
    refine take_yes (i := 31) (v := ?_) rfl (by kernel_rfl) (by kernel_rfl) (by kernel_rfl) (fun _ _ _ h => h) (by kernel_rfl) hHeld ?_ ?_
    rotate_left
    · intro w hSw; go_split_ands; go_simp; try with_reducible rfl
    try simp only [Act.put, List.setIfInBounds_toArray, List.set_cons_zero, List.set_cons_succ]
    refine take_yes (i := 32) (v := ?_) rfl (by kernel_rfl) (by kernel_rfl) (by kernel_rfl) (fun _ _ _ h => h) (by kernel_rfl) hHeld ?_ ?_
    rotate_left
    · intro w hSw; go_split_ands; go_simp; try with_reducible rfl
    try simp only [Act.put, List.setIfInBounds_toArray, List.set_cons_zero, List.set_cons_succ]
    refine wpAnyH_done (by kernel_rfl) ?_ _
    have HAE := Lib.hid hHeld.2.out
    go_wp2
    go_ret
    exact ⟨rfl, HAE.out.low⟩
  · skip
    go_simp
    go_wp2_with (go_at_call 17; refine (HRJO.out _ hHeld.2.out).mono ?_; rintro e wN ⟨rfl, hbN⟩)
    refine hK.out _ _ ⟨(hbN.cell (lt_of_cell hHeld.1)).trans hHeld.1, Lib.hid (hHeld.2.out.at (Nat.le_refl _) hbN)⟩ (fun hHeld2 => ?_)
    replace HRJ := Lib.hid (own_frs (S := fun _ => False) HRJ.out (FrS.of_below hbN) (fun _ _ h => h))
    replace hHeld := hHeld2
    clear hK K hHeld2 hbN
    try simp only [Act.put, List.setIfInBounds_toArray, List.set_cons_zero, List.set_cons_succ]
    refine take_loud (i := 20) rfl (by kernel_rfl) (fun K hK => ?_)
    have hcv := jour_text HRJ.out
    try go_simp
    refine hK.out _ _ hHeld (fun hHeld2 => ?_)
    replace hHeld := hHeld2
    clear hK K hHeld2 hcv HRJ
    try simp only [Act.put, List.setIfInBounds_toArray, List.set_cons_zero, List.set_cons_succ]
    refine take_yes (i := 23) (v := ?_) rfl (by kernel_rfl) (by kernel_rfl) (by kernel_rfl) (fun _ _ _ h => h) (by kernel_rfl) hHeld ?_ ?_
    rotate_left
    · intro w hSw; go_split_ands; go_simp; try with_reducible rfl
    try simp only [Act.put, List.setIfInBounds_toArray, List.set_cons_zero, List.set_cons_succ]
    refine take_yes (i := 24) (v := ?_) rfl (by kernel_rfl) (by kernel_rfl) (by kernel_rfl) (fun _ _ _ h => h) (by kernel_rfl) hHeld ?_ ?_
    rotate_left
    · intro w hSw; go_split_ands; go_simp; try with_reducible rfl
    try simp only [Act.put, List.setIfInBounds_toArray, List.set_cons_zero, List.set_cons_succ]
    refine take_yes (i := 25) (v := ?_) rfl (by kernel_rfl) (by kernel_rfl) (by kernel_rfl) (fun _ _ _ h => h) (by kernel_rfl) hHeld ?_ ?_
    rotate_left
    · intro w hSw; go_split_ands; go_simp; try with_reducible rfl
    try simp only [Act.put, List.setIfInBounds_toArray, List.set_cons_zero, List.set_cons_succ]
    refine take_yes (i := 26) (v := ?_) rfl (by kernel_rfl) (by kernel_rfl) (by kernel_rfl) (fun _ _ _ h => h) (by kernel_rfl) hHeld ?_ ?_
    rotate_left
    · intro w hSw; go_split_ands; go_simp; try with_reducible rfl
    try simp only [Act.put, List.setIfInBounds_toArray, List.set_cons_zero, List.set_cons_succ]
    refine take_yes (i := 28) (v := ?_) rfl (by kernel_rfl) (by kernel_rfl) (by kernel_rfl) (fun _ _ _ h => h) (by kernel_rfl) hHeld ?_ ?_
    rotate_left
    · intro w hSw; go_split_ands; go_simp; try with_reducible rfl
    try simp only [Act.put, List.setIfInBounds_toArray, List.set_cons_zero, List.set_cons_succ]
    refine take_loud (i := 27) rfl (by kernel_rfl) (fun K hK => ?_)
    go_simp
    go_wp2_with (go_at_call 14; refine (HTH.out _ hHeld.2.out).mono ?_; rintro e wN ⟨a1, c1, s1, rfl, hn1, hE1, hbN⟩)
    refine hK.out _ _ ⟨(hbN.cell (lt_of_cell hHeld.1)).trans hHeld.1, Lib.hid (hHeld.2.out.at (Nat.le_refl _) hbN)⟩ (fun hHeld2 => ?_)
    have HE1 := Lib.hid hE1
    have HN1 := Lib.hid hn1
    clear hE1 hn1
    replace hHeld := hHeld2
    clear hK K hHeld2 hbN
    try simp only [Act.put, List.setIfInBounds_toArray, List.set_cons_zero, List.set_cons_succ]
    refine take_loud (i := 29) rfl (by kernel_rfl) (fun K hK => ?_)
    go_simp
    go_wp2_with (go_at_call 15; refine (HRT.out _ hHeld.2.out).mono ?_; rintro e wN ⟨a2, c2, s2, rfl, hn2, hE2, hbN⟩)
    refine hK.out _ _ ⟨(hbN.cell (lt_of_cell hHeld.1)).trans hHeld.1, Lib.hid (hHeld.2.out.at (Nat.le_refl _) hbN)⟩ (fun hHeld2 => ?_)
    have HE2 := Lib.hid hE2
    have HN2 := Lib.hid hn2
    replace HE1 := Lib.hid (HE1.out.at hbN)
    clear hE2 hn2
    replace hHeld := hHeld2
    clear hK K hHeld2 hbN
    try simp only [Act.put, List.setIfInBounds_toArray, List.set_cons_zero, List.set_cons_succ]
    obtain rfl : s1 = s2 := names_eq HN1.out HN2.out
    have hsl := names_len HN1.out
    refine take_loud (i := 30) rfl (by kernel_rfl) (fun K hK => ?_)
    go_simp
    go_wp2_with (go_at_call 13; refine (same_any _ _ _ _ _ _ s1 s1 _ rfl rfl (by omega) (by omega) HE1.out HE2.out).mono ?_; rintro e wN ⟨rfl, hbN⟩)
    refine hK.out _ _ ⟨(hbN.cell (lt_of_cell hHeld.1)).trans hHeld.1, Lib.hid (hHeld.2.out.at (Nat.le_refl _) hbN)⟩ (fun hHeld2 => ?_)
    clear HE1 HE2
    replace hHeld := hHeld2
    clear hK K hHeld2 hbN
    try simp only [Act.put, List.setIfInBounds_toArray, List.set_cons_zero, List.set_cons_succ]
    refine take_yes (i := 31) (v := ?_) rfl (by kernel_rfl) (by kernel_rfl) (by kernel_rfl) (fun _ _ _ h => h) (by kernel_rfl) hHeld ?_ ?_
    rotate_left
    · intro w hSw; go_split_ands; go_simp; try with_reducible rfl
    try simp only [Act.put, List.setIfInBounds_toArray, List.set_cons_zero, List.set_cons_succ]
    refine take_yes (i := 32) (v := ?_) rfl (by kernel_rfl) (by kernel_rfl) (by kernel_rfl) (fun _ _ _ h => h) (by kernel_rfl) hHeld ?_ ?_
    rotate_left
    · intro w hSw; go_split_ands; go_simp; try with_reducible rfl
    try simp only [Act.put, List.setIfInBounds_toArray, List.set_cons_zero, List.set_cons_succ]
    refine wpAnyH_done (by kernel_rfl) ?_ _
    have HAE := Lib.hid hHeld.2.out
    go_wp2
    go_ret
    exact ⟨rfl, HAE.out.low⟩
end Go.Proofs.YtannijeiecmjpaaGreatDoor
