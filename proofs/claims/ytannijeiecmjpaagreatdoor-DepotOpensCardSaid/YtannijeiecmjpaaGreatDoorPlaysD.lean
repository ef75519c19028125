/- The law DepotPlays: of any moves and names both depots tell the same, at each move and in the end (printed by gen_plays.py). -/
import Derived.Test.YtannijeiecmjpaaGreatDoorBothD
import Derived.Test.YtannijeiecmjpaaGreatDoorTell
import Derived.Test.YtannijeiecmjpaaGreatDoorSameD
import Derived.Test.YtannijeiecmjpaaGreatDoorJourD
import Derived.Deep.DeepCutAuto
import Derived.Lib.BufferRead
import Derived.Laws.IdiomStrings
namespace Go.Proofs.YtannijeiecmjpaaGreatDoor
open Go.RowKit

theorem Mid.at {base bd bw : Nat} {L : List MoveD} {m : MoveD} {w w' : World} (h : Mid base bd bw L m w) (hb : Below w.heap.size w w') : Mid base bd bw L m w' :=
  ⟨by obtain ⟨mv, jv, h⟩ := h.dep; exact ⟨mv, jv, h.at hb⟩, by obtain ⟨v, h⟩ := h.ref; exact ⟨v, h.at hb⟩⟩
/-- What stays while both depots are only asked. -/
structure Asked (base bd bw lo : Nat) (mv jv v : Value) (L : List MoveD) (w0 w : World) : Prop where
  dep : DepAt base bd mv jv L w
  ref : RefDep base bw v L w
  hnd : Hnd w
  pow : PowAt w
  low : Below lo w0 w
theorem Asked.at {base bd bw lo : Nat} {mv jv v : Value} {L : List MoveD} {w0 w w' : World} (h : Asked base bd bw lo mv jv v L w0 w) (hlo : lo ≤ w0.heap.size) (hb : Below w.heap.size w w') : Asked base bd bw lo mv jv v L w0 w' :=
  ⟨h.dep.at hb, h.ref.at hb, h.hnd.at hb, h.pow.at hb, h.low.trans (hb.mono (Nat.le_trans hlo h.low.size))⟩
/-- Both depots as they are made. -/
theorem both_start (w : World) : Both (w.heap.size + 2) w.heap.size (w.heap.size + 1) [] ((w.alloc (.cells #[.map none, .slice none 0 0, .int .i64 0] 27)).alloc (.cells #[.slice none 0 0] 31)) := by
  refine ⟨⟨.map none, .slice none 0 0, ?_⟩, ⟨.slice none 0 0, ?_⟩⟩
  · have h : DepAt (w.heap.size + 2) w.heap.size (.map none) (.slice none 0 0) [] (w.alloc (.cells #[.map none, .slice none 0 0, .int .i64 0] 27)) := ⟨by simp, by simp, by simp, fun i => by simp, Or.inl ⟨rfl, rfl⟩, ⟨rfl, Or.inl ⟨rfl, rfl⟩⟩, fun m hm => (by cases hm), fun b hb => (by cases hb)⟩
    exact h.at ((Below.refl _ _).alloc (Nat.le_refl _) _)
  · exact ⟨by simp, by simp, ⟨rfl, Or.inl ⟨rfl, rfl⟩⟩, fun m hm => (by cases hm), fun b hb => (by cases hb)⟩
theorem below_start (w : World) (a b : Obj) : Below w.heap.size w ((w.alloc a).alloc b) := ((Below.refl _ _).alloc (Nat.le_refl _) _).alloc (by simp) _
theorem sub_len : ∀ (a b : List Byt), a.Nodup → (∀ x ∈ a, x ∈ b) → a.length ≤ b.length
  | [], _, _, _ => Nat.zero_le _
  | x :: a, b, hn, hs => by
    have h1 := List.nodup_cons.1 hn
    have hx := hs x List.mem_cons_self
    have ih := sub_len a (b.erase x) h1.2 (fun y hy => (List.mem_erase_of_ne (fun e => h1.1 (by rw [← e]; exact hy))).2 (hs y (List.mem_cons_of_mem _ hy)))
    rw [List.length_erase_of_mem hx] at ih
    have := List.length_pos_of_mem hx
    rw [List.length_cons]
    omega
theorem names_len {L : List MoveD} {ss : List Byt} (h : NamesOf L ss) : ss.length ≤ L.length := by
  have h1 := sub_len ss (L.map (·.1)) h.nodup (fun x hx => Classical.byContradiction fun h2 => (h.mem x).1 hx (have_some (fun ⟨m, hm, e⟩ => h2 (List.mem_map.2 ⟨m, hm, e⟩))))
  simpa using h1
theorem names_row {w : World} {base : Nat} {v : Value} {ss : List Byt} (h : w.ownsRow base 9 1 v ss.length (ss.map strV)) : ∃ a c, v = .slice a ss.length c ∧ Elems encT 1 w a ss := by
  obtain ⟨a, c, h1, h2, _⟩ := elems_of_owns (enc := encT) (xs := ss) (fun _ => rfl) rfl (show w.ownsRow base 9 1 v ss.length (ss.flatMap encT) by rwa [show ss.flatMap encT = ss.map strV by rw [← List.map_eq_flatMap]])
  exact ⟨a, c, h1, h2⟩
/-- The journal's bytes as a text. -/
theorem jour_text {w : World} {base : Nat} {v : Value} {xs : Byt} (h : w.ownsRow base 5 1 v xs.length (xs.map fun b => Value.int .u8 (b.toNat : Int))) :
    (convert 25 9 v).run Tryz.prog w = .ok (strV xs) w := by
  rcases h.2 with ⟨rfl, h0⟩ | ⟨g, cap, cur, rfl, hg, hh, hc, hm, hs, ht⟩
  · obtain rfl := List.eq_nil_of_length_eq_zero h0
    exact Lib.run_convert_nil_bytes w 25 9 5 0 Tryz.underlying25 Tryz.underlying5 Tryz.underlying9
  · refine run_convert_bytes_back w 25 9 5 ⟨g, 0, none⟩ cap xs Tryz.underlying25 Tryz.underlying5 Tryz.underlying9 (fun j hj => ?_)
    exact h.cells (g := g) rfl j _ (by simp [hj])
set_option maxRecDepth 100000 in
set_option maxHeartbeats 40000000 in
theorem plays_big (a a2 : Option Addr) (n n2 c c2 : Nat) (w : World) (h : 60 < n ∨ 20 < n2) :
    Calls Tryz.prog 3 #[.slice a n c, .slice a2 n2 c2] w fun e w' => e = .returned (.bool true) ∧ Below w.heap.size w w' := by
  by_cases h1 : 60 < n
  · have d1 : decide ((60 : Int) < (n : Int)) = true := decide_eq_true (by omega)
    go_enter Tryz.func3, Tryz.ntmps3
    go_wp2
    go_ret
    exact ⟨rfl, Below.refl _ _⟩
  · have d1 : decide ((60 : Int) < (n : Int)) = false := decide_eq_false (by omega)
    have d2 : decide ((20 : Int) < (n2 : Int)) = true := decide_eq_true (by omega)
    go_enter Tryz.func3, Tryz.ntmps3
    go_wp2
    go_ret
    exact ⟨rfl, Below.refl _ _⟩
set_option maxRecDepth 100000 in
set_option maxHeartbeats 40000000 in
theorem plays_law (a a2 : Option Addr) (n n2 c c2 : Nat) (ms : List MoveD) (ns : List Byt) (w : World) (hg : Hnd w) (hp : PowAt w) (hl : n = ms.length) (hl2 : n2 = ns.length) (hms : ∀ m ∈ ms, m.1.length ≤ 9223372036854775807 ∧ -9223372036854775808 ≤ m.2 ∧ m.2 ≤ 9223372036854775807) (hns : ∀ s ∈ ns, s.length ≤ 9223372036854775807) (hx : Elems encM 2 w a ms) (hy : Elems encT 1 w a2 ns) :
    Calls Tryz.prog 3 #[.slice a n c, .slice a2 n2 c2] w fun e w' => e = .returned (.bool true) ∧ Below w.heap.size w w' := by
  by_cases hbig : 60 < n ∨ 20 < n2
  · exact plays_big a a2 n n2 c c2 w hbig
  have d1 : decide ((60 : Int) < (n : Int)) = false := decide_eq_false (by omega)
  have d2 : decide ((20 : Int) < (n2 : Int)) = false := decide_eq_false (by omega)
  subst hl
  subst hl2
  have h60 : ms.length ≤ 60 := by omega
  have h20 : ns.length ≤ 20 := by omega
  have HX := Lib.hid hx
  have HY := Lib.hid hy
  have HMS := Lib.hid hms
  have HNS := Lib.hid hns
  have HG := Lib.hid hg
  have HP := Lib.hid hp
  have HS0 := Lib.hid (both_start w)
  have HB0 := Lib.hid (below_start w)
  clear hx hy hms hns hg hp hbig
  go_enter Tryz.func3, Tryz.ntmps3
  go_wp2
  go_loopw [7] (fun iv wr => ∃ k : Nat, k ≤ ms.length ∧ iv = .int .i64 k ∧ Hid (Both (w.heap.size + 2) w.heap.size (w.heap.size + 1) (playM ms k) wr) ∧ Hid (Below w.heap.size w wr)) (fun iv _ => ms.length - (intOf iv).toNat)
  case atStart => exact ⟨0, by omega, rfl, HS0, Lib.hid (HB0.out _ _)⟩
  case round =>
    obtain ⟨k, hk, rfl, HB, HBW⟩ := hrel
    by_cases hlt : k < ms.length
    · --{loop1
      obtain ⟨b, o, rfl, hc⟩ := HX.out.some hlt
      have c0 := hc k hlt 0 _ rfl
      have c1 := hc k hlt 1 _ rfl
      have hbw : b < w.heap.size := lt_of_cell c0
      have e0 := (HBW.out.cell (p := ⟨b, o + k * 2 + 0, none⟩) hbw).trans c0
      have e1 := (HBW.out.cell (p := ⟨b, o + k * 2 + 1, none⟩) hbw).trans c1
      simp only [Nat.add_zero] at e0
      have hmm := HMS.out _ (List.getElem_mem hlt)
      have hps := playM_succ ms k hlt
      have hln := playM_len ms k hk
      have HSZ : Hid (w.heap.size + 2 ≤ wr.heap.size) := Lib.hid (by
        obtain ⟨v, hv⟩ := HB.out.ref
        have := lt_of_cell hv.cell
        simp only at this
        omega)
      clear hc c0 c1
      generalize playM ms k = L0 at *
      generalize ms[k] = m at *
      obtain ⟨t, mu⟩ := m
      simp only at e0 e1 hmm
      obtain ⟨ht63, mu0, mu1⟩ := hmm
      have hsz := HSZ.out
      obtain ⟨E, hE⟩ : ∃ E, E = doErr L0 (t, mu) := ⟨_, rfl⟩
      have HPP : Hid (∀ w', Below w.heap.size wr w' → PowAt w') := Lib.hid (fun w' h => HP.out.at (HBW.out.trans h))
      have HDO := Lib.hid (both_do (lo := w.heap.size) (t, mu) (w := wr) (by omega) ht63 mu0 mu1 HPP.out (Nat.le_refl _) hsz (by omega) (by omega) (by omega) HB.out)
      rw [← hE] at HDO
      have HPS := Lib.hid hps
      have HE := Lib.hid hE
      have hnE : (E != E) = false := by simp
      clear hps hE
      go_wp2_with (go_at_call 5; refine HDO.out.mono ?_; rintro e w1 ⟨rfl, hM, hb1⟩)
      have HM := Lib.hid hM
      replace e0 := (hb1.cell (p := ⟨b, o + k * 2, none⟩) hbw).trans e0
      replace e1 := (hb1.cell (p := ⟨b, o + k * 2 + 1, none⟩) hbw).trans e1
      have HB1 := Lib.hid (HBW.out.trans hb1)
      have hsz1 := hb1.size
      clear hM hb1 HDO
      refine wp_region_held_drew (S := fun w' => w'.cell? ⟨b, o + k * 2, none⟩ = some (strV t) ∧ w'.cell? ⟨b, o + k * 2 + 1, none⟩ = some (.int .i64 mu) ∧ Below w.heap.size w w') (by kernel_rfl) ⟨by simpa using e0, by simpa using e1, HB1.out.trans (below_drewN w1 1 _)⟩ (fun hHeld => ?_)
      refine take_yes (i := 0) (v := ?_) rfl (by kernel_rfl) (by kernel_rfl) (by kernel_rfl) (fun _ _ _ h => h) (by kernel_rfl) hHeld ?_ ?_
      rotate_left
      · intro w hSw; go_split_ands; go_simp; try with_reducible rfl
      try simp only [Act.put, List.setIfInBounds_toArray, List.set_cons_zero, List.set_cons_succ]
      refine take_yes (i := 1) (v := ?_) rfl (by kernel_rfl) (by kernel_rfl) (by kernel_rfl) (fun _ _ _ h => h) (by kernel_rfl) hHeld ?_ ?_
      rotate_left
      · intro w hSw; go_split_ands; go_simp; try with_reducible rfl
      try simp only [Act.put, List.setIfInBounds_toArray, List.set_cons_zero, List.set_cons_succ]
      refine take_yes (i := 2) (v := ?_) rfl (by kernel_rfl) (by kernel_rfl) (by kernel_rfl) (fun _ _ _ h => h) (by kernel_rfl) hHeld ?_ ?_
      rotate_left
      · intro w hSw; go_split_ands; go_simp; try with_reducible rfl
      try simp only [Act.put, List.setIfInBounds_toArray, List.set_cons_zero, List.set_cons_succ]
      refine take_yes (i := 3) (v := ?_) rfl (by kernel_rfl) (by kernel_rfl) (by kernel_rfl) (fun _ _ _ h => h) (by kernel_rfl) hHeld ?_ ?_
      rotate_left
      · intro w hSw; go_split_ands; go_simp; try with_reducible rfl
      try simp only [Act.put, List.setIfInBounds_toArray, List.set_cons_zero, List.set_cons_succ]
      refine take_yes (i := 4) (v := ?_) rfl (by kernel_rfl) (by kernel_rfl) (by kernel_rfl) (fun _ _ _ h => h) (by kernel_rfl) hHeld ?_ ?_
      rotate_left
      · intro w hSw; go_split_ands; go_simp; try with_reducible rfl
      try simp only [Act.put, List.setIfInBounds_toArray, List.set_cons_zero, List.set_cons_succ]
      refine take_yes (i := 5) (v := ?_) rfl (by kernel_rfl) (by kernel_rfl) (by kernel_rfl) (fun _ _ _ h => h) (by kernel_rfl) hHeld ?_ ?_
      rotate_left
      · intro w hSw; go_split_ands; go_simp; try with_reducible rfl
      try simp only [Act.put, List.setIfInBounds_toArray, List.set_cons_zero, List.set_cons_succ]
      refine take_yes (i := 6) (v := ?_) rfl (by kernel_rfl) (by kernel_rfl) (by kernel_rfl) (fun _ _ _ h => h) (by kernel_rfl) hHeld ?_ ?_
      rotate_left
      · intro w hSw; go_split_ands; go_simp; try with_reducible rfl
      try simp only [Act.put, List.setIfInBounds_toArray, List.set_cons_zero, List.set_cons_succ]
      refine take_yes (i := 7) (v := ?_) rfl (by kernel_rfl) (by kernel_rfl) (by kernel_rfl) (fun _ _ _ h => h) (by kernel_rfl) hHeld ?_ ?_
      rotate_left
      · intro w hSw; go_split_ands; go_simp; try with_reducible rfl
      try simp only [Act.put, List.setIfInBounds_toArray, List.set_cons_zero, List.set_cons_succ]
      refine take_yes (i := 8) (v := ?_) rfl (by kernel_rfl) (by kernel_rfl) (by kernel_rfl) (fun _ _ _ h => h) (by kernel_rfl) hHeld ?_ ?_
      rotate_left
      · intro w hSw; go_split_ands; go_simp; try with_reducible rfl
      try simp only [Act.put, List.setIfInBounds_toArray, List.set_cons_zero, List.set_cons_succ]
      refine take_yes (i := 9) (v := ?_) rfl (by kernel_rfl) (by kernel_rfl) (by kernel_rfl) (fun _ _ _ h => h) (by kernel_rfl) hHeld ?_ ?_
      rotate_left
      · intro w hSw; go_split_ands; go_simp; try with_reducible rfl
      try simp only [Act.put, List.setIfInBounds_toArray, List.set_cons_zero, List.set_cons_succ]
      refine take_yes (i := 10) (v := ?_) rfl (by kernel_rfl) (by kernel_rfl) (by kernel_rfl) (fun _ _ _ h => h) (by kernel_rfl) hHeld ?_ ?_
      rotate_left
      · intro w hSw; go_split_ands; go_simp; try with_reducible rfl
      try simp only [Act.put, List.setIfInBounds_toArray, List.set_cons_zero, List.set_cons_succ]
      refine take_yes (i := 11) (v := ?_) rfl (by kernel_rfl) (by kernel_rfl) (by kernel_rfl) (fun _ _ _ h => h) (by kernel_rfl) hHeld ?_ ?_
      rotate_left
      · intro w hSw; go_split_ands; go_simp; try with_reducible rfl
      try simp only [Act.put, List.setIfInBounds_toArray, List.set_cons_zero, List.set_cons_succ]
      refine take_loud (i := 12) rfl (by kernel_rfl) (fun K hK => ?_)
      go_simp
      go_wp2_with (go_at_call 6; refine (mid_do (lo := w.heap.size) (t, mu) (w := w1.drew) (by omega) ht63 (by omega) (by simp; omega) (by omega) (by omega) (by omega) (HM.out.at (below_drewN w1 1 _))).mono ?_; rintro e w2 ⟨he, hB2, hbN⟩; rw [← HE.out] at he; subst he)
      refine hK.out _ _ ⟨(hbN.cell hbw).trans hHeld.1, (hbN.cell hbw).trans hHeld.2.1, hHeld.2.2.trans hbN⟩ (fun hHeld2 => ?_)
      replace hHeld := hHeld2
      replace e0 := hHeld.1
      have HB2 := Lib.hid hB2
      have HBW2 := Lib.hid hHeld.2.2
      clear hK K hHeld2 hbN hB2 HM HB e1 HB1
      try simp only [Act.put, List.setIfInBounds_toArray, List.set_cons_zero, List.set_cons_succ]
      refine take_yes (i := 13) (v := ?_) rfl (by kernel_rfl) (by kernel_rfl) (by kernel_rfl) (fun _ _ _ h => h) (by kernel_rfl) hHeld ?_ ?_
      rotate_left
      · intro w hSw; go_split_ands; go_simp; try with_reducible rfl
      try simp only [Act.put, List.setIfInBounds_toArray, List.set_cons_zero, List.set_cons_succ]
      refine wpAnyH_done (by kernel_rfl) ?_ _
      clear hHeld
      obtain ⟨L, hL⟩ : ∃ L, L = doneM L0 (t, mu) := ⟨_, rfl⟩
      have hLn : L.length ≤ 61 := by rw [hL]; have := doneM_len L0 (t, mu); omega
      have HLL := Lib.hid hL
      rw [← hL] at HB2
      clear hL
      obtain ⟨⟨mv, jv, hD⟩, ⟨v, hR⟩⟩ := HB2.out
      obtain ⟨ra, rc, rfl, _⟩ := hR.elems
      have rc0 := hR.cell
      have HA : Hid (Asked (w.heap.size + 2) w.heap.size (w.heap.size + 1) w.heap.size mv jv (.slice ra L.length rc) L w w2) := Lib.hid ⟨hD, hR, HG.out.at HBW2.out, HP.out.at HBW2.out, HBW2.out⟩
      clear hD hR HB2 HBW2
      obtain ⟨q, hq⟩ : ∃ q, q = haveM L t := ⟨_, rfl⟩
      obtain ⟨nb, hnb⟩ : ∃ nb, nb = nameOk t := ⟨_, rfl⟩
      have HQ := Lib.hid hq
      have HNB := Lib.hid hnb
      clear hq hnb
      have hnq : (q != q) = false := by simp
      have hnn : (nb != nb) = false := by simp
      have hnl : ((L.length : Int) != (L.length : Int)) = false := by simp
      have HT : Hid (∀ w', Asked (w.heap.size + 2) w.heap.size (w.heap.size + 1) w.heap.size mv jv (.slice ra L.length rc) L w w' → Calls Tryz.prog 7 #[errV E] w' fun e w'' => e = .returned (.int .i64 E) ∧ Below w'.heap.size w' w'') := Lib.hid (fun w' h => tell_any E w' h.hnd)
      have HMV : Hid (∀ w', Asked (w.heap.size + 2) w.heap.size (w.heap.size + 1) w.heap.size mv jv (.slice ra L.length rc) L w w' → Calls Tryz.prog 8 #[.pointer (some ⟨w.heap.size, 0, none⟩)] w' fun e w'' => e = .returned (.int .i64 L.length) ∧ Below w'.heap.size w' w'') := Lib.hid (fun w' h => (depMoves_any h.dep).mono (fun e w'' h => ⟨h.1, by rw [h.2]; exact Below.refl _ _⟩))
      have HHV : Hid (∀ w', Asked (w.heap.size + 2) w.heap.size (w.heap.size + 1) w.heap.size mv jv (.slice ra L.length rc) L w w' → Calls Tryz.prog 9 #[.pointer (some ⟨w.heap.size, 0, none⟩), strV t] w' fun e w'' => e = .returned (.int .i64 q) ∧ Below w'.heap.size w' w'') := Lib.hid (fun w' h => (depHave_any t (by omega) h.dep).mono (fun e w'' h => ⟨by rw [HQ.out]; exact h.1, by rw [h.2]; exact Below.refl _ _⟩))
      have HRH : Hid (∀ w', Asked (w.heap.size + 2) w.heap.size (w.heap.size + 1) w.heap.size mv jv (.slice ra L.length rc) L w w' → Calls Tryz.prog 10 #[.pointer (some ⟨w.heap.size + 1, 0, none⟩), strV t] w' fun e w'' => e = .returned (.int .i64 q) ∧ Below w'.heap.size w' w'') := Lib.hid (fun w' h => by rw [HQ.out]; exact refHave_any (w.heap.size + 1) L t w' (by omega) h.ref)
      have HNM : Hid (∀ w', Asked (w.heap.size + 2) w.heap.size (w.heap.size + 1) w.heap.size mv jv (.slice ra L.length rc) L w w' → Calls Tryz.prog 11 #[strV t] w' fun e w'' => e = .returned (.bool nb) ∧ Below w'.heap.size w' w'') := Lib.hid (fun w' _ => by rw [HNB.out]; exact depName_any ⟨t.toArray⟩ w' (by unfold maxLen; simp [ByteArray.size]; omega))
      have HRN : Hid (∀ w', Asked (w.heap.size + 2) w.heap.size (w.heap.size + 1) w.heap.size mv jv (.slice ra L.length rc) L w w' → Calls Tryz.prog 12 #[strV t] w' fun e w'' => e = .returned (.bool nb) ∧ Below w'.heap.size w' w'') := Lib.hid (fun w' _ => by rw [HNB.out]; exact (refName_any ⟨t.toArray⟩ w' (by unfold maxLen; simp [ByteArray.size]; omega)).mono (fun e w'' h => ⟨h.1, by rw [h.2]; exact Below.refl _ _⟩))
      clear HQ HNB HPP
      go_wp2
      refine wp_region_held_drew (S := fun w' => w'.cell? ⟨b, o + k * 2, none⟩ = some (strV t) ∧ w'.cell? ⟨w.heap.size + 1, 0, none⟩ = some (.slice ra L.length rc) ∧ Hid (Asked (w.heap.size + 2) w.heap.size (w.heap.size + 1) w.heap.size mv jv (.slice ra L.length rc) L w w')) (by kernel_rfl) ⟨by simpa using e0, by simpa using rc0, Lib.hid (HA.out.at (Nat.le_refl _) (below_drewN w2 1 _))⟩ (fun hHeld => ?_)
      refine take_yes (i := 0) (v := ?_) rfl (by kernel_rfl) (by kernel_rfl) (by kernel_rfl) (fun _ _ _ h => h) (by kernel_rfl) hHeld ?_ ?_
      rotate_left
      · intro w hSw; go_split_ands; go_simp; try with_reducible rfl
      try simp only [Act.put, List.setIfInBounds_toArray, List.set_cons_zero, List.set_cons_succ]
      refine take_yes (i := 2) (v := ?_) rfl (by kernel_rfl) (by kernel_rfl) (by kernel_rfl) (fun _ _ _ h => h) (by kernel_rfl) hHeld ?_ ?_
      rotate_left
      · intro w hSw; go_split_ands; go_simp; try with_reducible rfl
      try simp only [Act.put, List.setIfInBounds_toArray, List.set_cons_zero, List.set_cons_succ]
      refine take_loud (i := 1) rfl (by kernel_rfl) (fun K hK => ?_)
      go_simp
      go_wp2_with (go_at_call 7; refine (HT.out _ hHeld.2.2.out).mono ?_; rintro e wN ⟨rfl, hbN⟩)
      refine hK.out _ _ ⟨(hbN.cell (lt_of_cell hHeld.1)).trans hHeld.1, (hbN.cell (lt_of_cell hHeld.2.1)).trans hHeld.2.1, Lib.hid (hHeld.2.2.out.at (Nat.le_refl _) hbN)⟩ (fun hHeld2 => ?_)
      replace hHeld := hHeld2
      clear hK K hHeld2 hbN
      try simp only [Act.put, List.setIfInBounds_toArray, List.set_cons_zero, List.set_cons_succ]
      refine take_yes (i := 3) (v := ?_) rfl (by kernel_rfl) (by kernel_rfl) (by kernel_rfl) (fun _ _ _ h => h) (by kernel_rfl) hHeld ?_ ?_
      rotate_left
      · intro w hSw; go_split_ands; go_simp; try with_reducible rfl
      try simp only [Act.put, List.setIfInBounds_toArray, List.set_cons_zero, List.set_cons_succ]
      refine take_yes (i := 4) (v := ?_) rfl (by kernel_rfl) (by kernel_rfl) (by kernel_rfl) (fun _ _ _ h => h) (by kernel_rfl) hHeld ?_ ?_
      rotate_left
      · intro w hSw; go_split_ands; go_simp; try with_reducible rfl
      try simp only [Act.put, List.setIfInBounds_toArray, List.set_cons_zero, List.set_cons_succ]
      refine take_yes (i := 6) (v := ?_) rfl (by kernel_rfl) (by kernel_rfl) (by kernel_rfl) (fun _ _ _ h => h) (by kernel_rfl) hHeld ?_ ?_
      rotate_left
      · intro w hSw; go_split_ands; go_simp; try with_reducible rfl
      try simp only [Act.put, List.setIfInBounds_toArray, List.set_cons_zero, List.set_cons_succ]
      refine take_yes (i := 7) (v := ?_) rfl (by kernel_rfl) (by kernel_rfl) (by kernel_rfl) (fun _ _ _ h => h) (by kernel_rfl) hHeld ?_ ?_
      rotate_left
      · intro w hSw; go_split_ands; go_simp; try with_reducible rfl
      try simp only [Act.put, List.setIfInBounds_toArray, List.set_cons_zero, List.set_cons_succ]
      refine take_yes (i := 8) (v := ?_) rfl (by kernel_rfl) (by kernel_rfl) (by kernel_rfl) (fun _ _ _ h => h) (by kernel_rfl) hHeld ?_ ?_
      rotate_left
      · intro w hSw; go_split_ands; go_simp; try with_reducible rfl
      try simp only [Act.put, List.setIfInBounds_toArray, List.set_cons_zero, List.set_cons_succ]
      refine take_yes (i := 9) (v := ?_) rfl (by kernel_rfl) (by kernel_rfl) (by kernel_rfl) (fun _ _ _ h => h) (by kernel_rfl) hHeld ?_ ?_
      rotate_left
      · intro w hSw; go_split_ands; go_simp; try with_reducible rfl
      try simp only [Act.put, List.setIfInBounds_toArray, List.set_cons_zero, List.set_cons_succ]
      refine take_yes (i := 10) (v := ?_) rfl (by kernel_rfl) (by kernel_rfl) (by kernel_rfl) (fun _ _ _ h => h) (by kernel_rfl) hHeld ?_ ?_
      rotate_left
      · intro w hSw; go_split_ands; go_simp; try with_reducible rfl
      try simp only [Act.put, List.setIfInBounds_toArray, List.set_cons_zero, List.set_cons_succ]
      refine take_loud (i := 5) rfl (by kernel_rfl) (fun K hK => ?_)
      go_simp
      go_wp2_with (go_at_call 8; refine (HMV.out _ hHeld.2.2.out).mono ?_; rintro e wN ⟨rfl, hbN⟩)
      refine hK.out _ _ ⟨(hbN.cell (lt_of_cell hHeld.1)).trans hHeld.1, (hbN.cell (lt_of_cell hHeld.2.1)).trans hHeld.2.1, Lib.hid (hHeld.2.2.out.at (Nat.le_refl _) hbN)⟩ (fun hHeld2 => ?_)
      replace hHeld := hHeld2
      clear hK K hHeld2 hbN
      try simp only [Act.put, List.setIfInBounds_toArray, List.set_cons_zero, List.set_cons_succ]
      refine take_yes (i := 11) (v := ?_) rfl (by kernel_rfl) (by kernel_rfl) (by kernel_rfl) (fun _ _ _ h => h) (by kernel_rfl) hHeld ?_ ?_
      rotate_left
      · intro w hSw; go_split_ands; go_simp; try with_reducible rfl
      try simp only [Act.put, List.setIfInBounds_toArray, List.set_cons_zero, List.set_cons_succ]
      refine take_yes (i := 12) (v := ?_) rfl (by kernel_rfl) (by kernel_rfl) (by kernel_rfl) (fun _ _ _ h => h) (by kernel_rfl) hHeld ?_ ?_
      rotate_left
      · intro w hSw; go_split_ands; go_simp; try with_reducible rfl
      try simp only [Act.put, List.setIfInBounds_toArray, List.set_cons_zero, List.set_cons_succ]
      refine take_yes (i := 13) (v := ?_) rfl (by kernel_rfl) (by kernel_rfl) (by kernel_rfl) (fun _ _ _ h => h) (by kernel_rfl) hHeld ?_ ?_
      rotate_left
      · intro w hSw; go_split_ands; go_simp; try with_reducible rfl
      try simp only [Act.put, List.setIfInBounds_toArray, List.set_cons_zero, List.set_cons_succ]
      refine take_yes (i := 14) (v := ?_) rfl (by kernel_rfl) (by kernel_rfl) (by kernel_rfl) (fun _ _ _ h => h) (by kernel_rfl) hHeld ?_ ?_
      rotate_left
      · intro w hSw; go_split_ands; go_simp; try with_reducible rfl
      try simp only [Act.put, List.setIfInBounds_toArray, List.set_cons_zero, List.set_cons_succ]
      refine take_yes (i := 15) (v := ?_) rfl (by kernel_rfl) (by kernel_rfl) (by kernel_rfl) (fun _ _ _ h => h) (by kernel_rfl) hHeld ?_ ?_
      rotate_left
      · intro w hSw; go_split_ands; go_simp; try with_reducible rfl
      try simp only [Act.put, List.setIfInBounds_toArray, List.set_cons_zero, List.set_cons_succ]
      refine take_yes (i := 16) (v := ?_) rfl (by kernel_rfl) (by kernel_rfl) (by kernel_rfl) (fun _ _ _ h => h) (by kernel_rfl) hHeld ?_ ?_
      rotate_left
      · intro w hSw; go_split_ands; go_simp; try with_reducible rfl
      try simp only [Act.put, List.setIfInBounds_toArray, List.set_cons_zero, List.set_cons_succ]
      refine take_yes (i := 17) (v := ?_) rfl (by kernel_rfl) (by kernel_rfl) (by kernel_rfl) (fun _ _ _ h => h) (by kernel_rfl) hHeld ?_ ?_
      rotate_left
      · intro w hSw; go_split_ands; go_simp; try with_reducible rfl
      try simp only [Act.put, List.setIfInBounds_toArray, List.set_cons_zero, List.set_cons_succ]
      refine take_yes (i := 18) (v := ?_) rfl (by kernel_rfl) (by kernel_rfl) (by kernel_rfl) (fun _ _ _ h => h) (by kernel_rfl) hHeld ?_ ?_
      rotate_left
      · intro w hSw; go_split_ands; go_simp; try with_reducible rfl
      try simp only [Act.put, List.setIfInBounds_toArray, List.set_cons_zero, List.set_cons_succ]
      refine take_yes (i := 20) (v := ?_) rfl (by kernel_rfl) (by kernel_rfl) (by kernel_rfl) (fun _ _ _ h => h) (by kernel_rfl) hHeld ?_ ?_
      rotate_left
      · intro w hSw; go_split_ands; go_simp; try with_reducible rfl
      try simp only [Act.put, List.setIfInBounds_toArray, List.set_cons_zero, List.set_cons_succ]
      refine take_yes (i := 21) (v := ?_) rfl (by kernel_rfl) (by kernel_rfl) (by kernel_rfl) (fun _ _ _ h => h) (by kernel_rfl) hHeld ?_ ?_
      rotate_left
      · intro w hSw; go_split_ands; go_simp; try with_reducible rfl
      try simp only [Act.put, List.setIfInBounds_toArray, List.set_cons_zero, List.set_cons_succ]
      refine take_yes (i := 22) (v := ?_) rfl (by kernel_rfl) (by kernel_rfl) (by kernel_rfl) (fun _ _ _ h => h) (by kernel_rfl) hHeld ?_ ?_
      rotate_left
      · intro w hSw; go_split_ands; go_simp; try with_reducible rfl
      try simp only [Act.put, List.setIfInBounds_toArray, List.set_cons_zero, List.set_cons_succ]
      refine take_yes (i := 23) (v := ?_) rfl (by kernel_rfl) (by kernel_rfl) (by kernel_rfl) (fun _ _ _ h => h) (by kernel_rfl) hHeld ?_ ?_
      rotate_left
      · intro w hSw; go_split_ands; go_simp; try with_reducible rfl
      try simp only [Act.put, List.setIfInBounds_toArray, List.set_cons_zero, List.set_cons_succ]
      refine take_yes (i := 24) (v := ?_) rfl (by kernel_rfl) (by kernel_rfl) (by kernel_rfl) (fun _ _ _ h => h) (by kernel_rfl) hHeld ?_ ?_
      rotate_left
      · intro w hSw; go_split_ands; go_simp; try with_reducible rfl
      try simp only [Act.put, List.setIfInBounds_toArray, List.set_cons_zero, List.set_cons_succ]
      refine take_yes (i := 25) (v := ?_) rfl (by kernel_rfl) (by kernel_rfl) (by kernel_rfl) (fun _ _ _ h => h) (by kernel_rfl) hHeld ?_ ?_
      rotate_left
      · intro w hSw; go_split_ands; go_simp; try with_reducible rfl
      try simp only [Act.put, List.setIfInBounds_toArray, List.set_cons_zero, List.set_cons_succ]
      refine take_loud (i := 19) rfl (by kernel_rfl) (fun K hK => ?_)
      go_simp
      go_wp2_with (go_at_call 9; refine (HHV.out _ hHeld.2.2.out).mono ?_; rintro e wN ⟨rfl, hbN⟩)
      refine hK.out _ _ ⟨(hbN.cell (lt_of_cell hHeld.1)).trans hHeld.1, (hbN.cell (lt_of_cell hHeld.2.1)).trans hHeld.2.1, Lib.hid (hHeld.2.2.out.at (Nat.le_refl _) hbN)⟩ (fun hHeld2 => ?_)
      replace hHeld := hHeld2
      clear hK K hHeld2 hbN
      try simp only [Act.put, List.setIfInBounds_toArray, List.set_cons_zero, List.set_cons_succ]
      refine take_loud (i := 26) rfl (by kernel_rfl) (fun K hK => ?_)
      go_simp
      go_wp2_with (go_at_call 10; refine (HRH.out _ hHeld.2.2.out).mono ?_; rintro e wN ⟨rfl, hbN⟩)
      refine hK.out _ _ ⟨(hbN.cell (lt_of_cell hHeld.1)).trans hHeld.1, (hbN.cell (lt_of_cell hHeld.2.1)).trans hHeld.2.1, Lib.hid (hHeld.2.2.out.at (Nat.le_refl _) hbN)⟩ (fun hHeld2 => ?_)
      replace hHeld := hHeld2
      clear hK K hHeld2 hbN
      try simp only [Act.put, List.setIfInBounds_toArray, List.set_cons_zero, List.set_cons_succ]
      refine take_yes (i := 27) (v := ?_) rfl (by kernel_rfl) (by kernel_rfl) (by kernel_rfl) (fun _ _ _ h => h) (by kernel_rfl) hHeld ?_ ?_
      rotate_left
      · intro w hSw; go_split_ands; go_simp; try with_reducible rfl
      try simp only [Act.put, List.setIfInBounds_toArray, List.set_cons_zero, List.set_cons_succ]
      refine take_yes (i := 28) (v := ?_) rfl (by kernel_rfl) (by kernel_rfl) (by kernel_rfl) (fun _ _ _ h => h) (by kernel_rfl) hHeld ?_ ?_
      rotate_left
      · intro w hSw; go_split_ands; go_simp; try with_reducible rfl
      try simp only [Act.put, List.setIfInBounds_toArray, List.set_cons_zero, List.set_cons_succ]
      refine take_yes (i := 29) (v := ?_) rfl (by kernel_rfl) (by kernel_rfl) (by kernel_rfl) (fun _ _ _ h => h) (by kernel_rfl) hHeld ?_ ?_
      rotate_left
      · intro w hSw; go_split_ands; go_simp; try with_reducible rfl
      try simp only [Act.put, List.setIfInBounds_toArray, List.set_cons_zero, List.set_cons_succ]
      refine take_yes (i := 30) (v := ?_) rfl (by kernel_rfl) (by kernel_rfl) (by kernel_rfl) (fun _ _ _ h => h) (by kernel_rfl) hHeld ?_ ?_
      rotate_left
      · intro w hSw; go_split_ands; go_simp; try with_reducible rfl
      try simp only [Act.put, List.setIfInBounds_toArray, List.set_cons_zero, List.set_cons_succ]
      refine take_yes (i := 31) (v := ?_) rfl (by kernel_rfl) (by kernel_rfl) (by kernel_rfl) (fun _ _ _ h => h) (by kernel_rfl) hHeld ?_ ?_
      rotate_left
      · intro w hSw; go_split_ands; go_simp; try with_reducible rfl
      try simp only [Act.put, List.setIfInBounds_toArray, List.set_cons_zero, List.set_cons_succ]
      refine take_yes (i := 32) (v := ?_) rfl (by kernel_rfl) (by kernel_rfl) (by kernel_rfl) (fun _ _ _ h => h) (by kernel_rfl) hHeld ?_ ?_
      rotate_left
      · intro w hSw; go_split_ands; go_simp; try with_reducible rfl
      try simp only [Act.put, List.setIfInBounds_toArray, List.set_cons_zero, List.set_cons_succ]
      refine take_yes (i := 33) (v := ?_) rfl (by kernel_rfl) (by kernel_rfl) (by kernel_rfl) (fun _ _ _ h => h) (by kernel_rfl) hHeld ?_ ?_
      rotate_left
      · intro w hSw; go_split_ands; go_simp; try with_reducible rfl
      try simp only [Act.put, List.setIfInBounds_toArray, List.set_cons_zero, List.set_cons_succ]
      refine take_yes (i := 34) (v := ?_) rfl (by kernel_rfl) (by kernel_rfl) (by kernel_rfl) (fun _ _ _ h => h) (by kernel_rfl) hHeld ?_ ?_
      rotate_left
      · intro w hSw; go_split_ands; go_simp; try with_reducible rfl
      try simp only [Act.put, List.setIfInBounds_toArray, List.set_cons_zero, List.set_cons_succ]
      refine take_yes (i := 36) (v := ?_) rfl (by kernel_rfl) (by kernel_rfl) (by kernel_rfl) (fun _ _ _ h => h) (by kernel_rfl) hHeld ?_ ?_
      rotate_left
      · intro w hSw; go_split_ands; go_simp; try with_reducible rfl
      try simp only [Act.put, List.setIfInBounds_toArray, List.set_cons_zero, List.set_cons_succ]
      refine take_yes (i := 37) (v := ?_) rfl (by kernel_rfl) (by kernel_rfl) (by kernel_rfl) (fun _ _ _ h => h) (by kernel_rfl) hHeld ?_ ?_
      rotate_left
      · intro w hSw; go_split_ands; go_simp; try with_reducible rfl
      try simp only [Act.put, List.setIfInBounds_toArray, List.set_cons_zero, List.set_cons_succ]
      refine take_yes (i := 38) (v := ?_) rfl (by kernel_rfl) (by kernel_rfl) (by kernel_rfl) (fun _ _ _ h => h) (by kernel_rfl) hHeld ?_ ?_
      rotate_left
      · intro w hSw; go_split_ands; go_simp; try with_reducible rfl
      try simp only [Act.put, List.setIfInBounds_toArray, List.set_cons_zero, List.set_cons_succ]
      refine take_yes (i := 39) (v := ?_) rfl (by kernel_rfl) (by kernel_rfl) (by kernel_rfl) (fun _ _ _ h => h) (by kernel_rfl) hHeld ?_ ?_
      rotate_left
      · intro w hSw; go_split_ands; go_simp; try with_reducible rfl
      try simp only [Act.put, List.setIfInBounds_toArray, List.set_cons_zero, List.set_cons_succ]
      refine take_yes (i := 40) (v := ?_) rfl (by kernel_rfl) (by kernel_rfl) (by kernel_rfl) (fun _ _ _ h => h) (by kernel_rfl) hHeld ?_ ?_
      rotate_left
      · intro w hSw; go_split_ands; go_simp; try with_reducible rfl
      try simp only [Act.put, List.setIfInBounds_toArray, List.set_cons_zero, List.set_cons_succ]
      refine take_loud (i := 35) rfl (by kernel_rfl) (fun K hK => ?_)
      go_simp
      go_wp2_with (go_at_call 11; refine (HNM.out _ hHeld.2.2.out).mono ?_; rintro e wN ⟨rfl, hbN⟩)
      refine hK.out _ _ ⟨(hbN.cell (lt_of_cell hHeld.1)).trans hHeld.1, (hbN.cell (lt_of_cell hHeld.2.1)).trans hHeld.2.1, Lib.hid (hHeld.2.2.out.at (Nat.le_refl _) hbN)⟩ (fun hHeld2 => ?_)
      replace hHeld := hHeld2
      clear hK K hHeld2 hbN
      try simp only [Act.put, List.setIfInBounds_toArray, List.set_cons_zero, List.set_cons_succ]
      refine take_loud (i := 41) rfl (by kernel_rfl) (fun K hK => ?_)
      go_simp
      go_wp2_with (go_at_call 12; refine (HRN.out _ hHeld.2.2.out).mono ?_; rintro e wN ⟨rfl, hbN⟩)
      refine hK.out _ _ ⟨(hbN.cell (lt_of_cell hHeld.1)).trans hHeld.1, (hbN.cell (lt_of_cell hHeld.2.1)).trans hHeld.2.1, Lib.hid (hHeld.2.2.out.at (Nat.le_refl _) hbN)⟩ (fun hHeld2 => ?_)
      replace hHeld := hHeld2
      clear hK K hHeld2 hbN
      try simp only [Act.put, List.setIfInBounds_toArray, List.set_cons_zero, List.set_cons_succ]
      refine take_yes (i := 42) (v := ?_) rfl (by kernel_rfl) (by kernel_rfl) (by kernel_rfl) (fun _ _ _ h => h) (by kernel_rfl) hHeld ?_ ?_
      rotate_left
      · intro w hSw; go_split_ands; go_simp; try with_reducible rfl
      try simp only [Act.put, List.setIfInBounds_toArray, List.set_cons_zero, List.set_cons_succ]
      refine take_yes (i := 43) (v := ?_) rfl (by kernel_rfl) (by kernel_rfl) (by kernel_rfl) (fun _ _ _ h => h) (by kernel_rfl) hHeld ?_ ?_
      rotate_left
      · intro w hSw; go_split_ands; go_simp; try with_reducible rfl
      try simp only [Act.put, List.setIfInBounds_toArray, List.set_cons_zero, List.set_cons_succ]
      refine wpAnyH_done (by kernel_rfl) ?_ _
      have HAE := Lib.hid hHeld.2.2.out
      go_wp2
      exact ⟨⟨k + 1, by omega, by go_num, Lib.hid (by rw [HPS.out, ← HLL.out]; exact ⟨⟨_, _, HAE.out.dep⟩, ⟨_, HAE.out.ref⟩⟩), Lib.hid HAE.out.low⟩, by simp [intOf]; omega⟩
      --loop1}
    · have hall : k = ms.length := by omega
      subst hall
      obtain ⟨L, hL⟩ : ∃ L, L = playM ms ms.length := ⟨_, rfl⟩
      have hLn : L.length ≤ 60 := by rw [hL]; have := playM_len ms ms.length (Nat.le_refl _); omega
      rw [← hL] at HB
      clear hL hk hlt
      have HB9 := HB
      have HBW9 := HBW
      clear HB HBW
      go_wp2
      go_loopw [10] (fun iv wr => ∃ k : Nat, k ≤ ns.length ∧ iv = .int .i64 k ∧ Hid (Both (w.heap.size + 2) w.heap.size (w.heap.size + 1) L wr) ∧ Hid (Below w.heap.size w wr)) (fun iv _ => ns.length - (intOf iv).toNat)
      case atStart => exact ⟨0, by omega, rfl, HB9, HBW9⟩
      case round =>
        obtain ⟨k, hk, rfl, HB, HBW⟩ := hrel
        obtain ⟨⟨mv, jv, hD⟩, ⟨v, hR⟩⟩ := HB.out
        obtain ⟨ra, rc, rfl, _⟩ := hR.elems
        have HA : Hid (Asked (w.heap.size + 2) w.heap.size (w.heap.size + 1) w.heap.size mv jv (.slice ra L.length rc) L w wr) := Lib.hid ⟨hD, hR, HG.out.at HBW.out, HP.out.at HBW.out, HBW.out⟩
        clear hD hR HB
        by_cases hlt : k < ns.length
        · --{loop2
          obtain ⟨b, o, rfl, hc⟩ := HY.out.some hlt
          have c0 := hc k hlt 0 _ rfl
          have hbw : b < w.heap.size := lt_of_cell c0
          have e0 := (HBW.out.cell (p := ⟨b, o + k * 1 + 0, none⟩) hbw).trans c0
          simp only [Nat.add_zero, Nat.mul_one] at e0
          have ht63 := HNS.out _ (List.getElem_mem hlt)
          clear hc c0
          generalize ns[k] = t at *
          obtain ⟨q, hq⟩ : ∃ q, q = haveM L t := ⟨_, rfl⟩
          obtain ⟨nb, hnb⟩ : ∃ nb, nb = nameOk t := ⟨_, rfl⟩
          have HQ := Lib.hid hq
          have HNB := Lib.hid hnb
          clear hq hnb
          have hnq : (q != q) = false := by simp
          have hnn : (nb != nb) = false := by simp
          have HHV : Hid (∀ w', Asked (w.heap.size + 2) w.heap.size (w.heap.size + 1) w.heap.size mv jv (.slice ra L.length rc) L w w' → Calls Tryz.prog 9 #[.pointer (some ⟨w.heap.size, 0, none⟩), strV t] w' fun e w'' => e = .returned (.int .i64 q) ∧ Below w'.heap.size w' w'') := Lib.hid (fun w' h => (depHave_any t (by omega) h.dep).mono (fun e w'' h => ⟨by rw [HQ.out]; exact h.1, by rw [h.2]; exact Below.refl _ _⟩))
          have HRH : Hid (∀ w', Asked (w.heap.size + 2) w.heap.size (w.heap.size + 1) w.heap.size mv jv (.slice ra L.length rc) L w w' → Calls Tryz.prog 10 #[.pointer (some ⟨w.heap.size + 1, 0, none⟩), strV t] w' fun e w'' => e = .returned (.int .i64 q) ∧ Below w'.heap.size w' w'') := Lib.hid (fun w' h => by rw [HQ.out]; exact refHave_any (w.heap.size + 1) L t w' (by omega) h.ref)
          have HNM : Hid (∀ w', Asked (w.heap.size + 2) w.heap.size (w.heap.size + 1) w.heap.size mv jv (.slice ra L.length rc) L w w' → Calls Tryz.prog 11 #[strV t] w' fun e w'' => e = .returned (.bool nb) ∧ Below w'.heap.size w' w'') := Lib.hid (fun w' _ => by rw [HNB.out]; exact depName_any ⟨t.toArray⟩ w' (by unfold maxLen; simp [ByteArray.size]; omega))
          have HRN : Hid (∀ w', Asked (w.heap.size + 2) w.heap.size (w.heap.size + 1) w.heap.size mv jv (.slice ra L.length rc) L w w' → Calls Tryz.prog 12 #[strV t] w' fun e w'' => e = .returned (.bool nb) ∧ Below w'.heap.size w' w'') := Lib.hid (fun w' _ => by rw [HNB.out]; exact (refName_any ⟨t.toArray⟩ w' (by unfold maxLen; simp [ByteArray.size]; omega)).mono (fun e w'' h => ⟨h.1, by rw [h.2]; exact Below.refl _ _⟩))
          clear HQ HNB
          go_wp2
          refine wp_region_held_drew (S := fun w' => w'.cell? ⟨b, o + k, none⟩ = some (strV t) ∧ Hid (Asked (w.heap.size + 2) w.heap.size (w.heap.size + 1) w.heap.size mv jv (.slice ra L.length rc) L w w')) (by kernel_rfl) ⟨by simpa using e0, Lib.hid (HA.out.at (Nat.le_refl _) (below_drewN wr 1 _))⟩ (fun hHeld => ?_)
          refine take_yes (i := 0) (v := ?_) rfl (by kernel_rfl) (by kernel_rfl) (by kernel_rfl) (fun _ _ _ h => h) (by kernel_rfl) hHeld ?_ ?_
          rotate_left
          · intro w hSw; go_split_ands; go_simp; try with_reducible rfl
          try simp only [Act.put, List.setIfInBounds_toArray, List.set_cons_zero, List.set_cons_succ]
          refine take_yes (i := 1) (v := ?_) rfl (by kernel_rfl) (by kernel_rfl) (by kernel_rfl) (fun _ _ _ h => h) (by kernel_rfl) hHeld ?_ ?_
          rotate_left
          · intro w hSw; go_split_ands; go_simp; try with_reducible rfl
          try simp only [Act.put, List.setIfInBounds_toArray, List.set_cons_zero, List.set_cons_succ]
          refine take_yes (i := 2) (v := ?_) rfl (by kernel_rfl) (by kernel_rfl) (by kernel_rfl) (fun _ _ _ h => h) (by kernel_rfl) hHeld ?_ ?_
          rotate_left
          · intro w hSw; go_split_ands; go_simp; try with_reducible rfl
          try simp only [Act.put, List.setIfInBounds_toArray, List.set_cons_zero, List.set_cons_succ]
          refine take_yes (i := 3) (v := ?_) rfl (by kernel_rfl) (by kernel_rfl) (by kernel_rfl) (fun _ _ _ h => h) (by kernel_rfl) hHeld ?_ ?_
          rotate_left
          · intro w hSw; go_split_ands; go_simp; try with_reducible rfl
          try simp only [Act.put, List.setIfInBounds_toArray, List.set_cons_zero, List.set_cons_succ]
          refine take_yes (i := 5) (v := ?_) rfl (by kernel_rfl) (by kernel_rfl) (by kernel_rfl) (fun _ _ _ h => h) (by kernel_rfl) hHeld ?_ ?_
          rotate_left
          · intro w hSw; go_split_ands; go_simp; try with_reducible rfl
          try simp only [Act.put, List.setIfInBounds_toArray, List.set_cons_zero, List.set_cons_succ]
          refine take_yes (i := 6) (v := ?_) rfl (by kernel_rfl) (by kernel_rfl) (by kernel_rfl) (fun _ _ _ h => h) (by kernel_rfl) hHeld ?_ ?_
          rotate_left
          · intro w hSw; go_split_ands; go_simp; try with_reducible rfl
          try simp only [Act.put, List.setIfInBounds_toArray, List.set_cons_zero, List.set_cons_succ]
          refine take_yes (i := 7) (v := ?_) rfl (by kernel_rfl) (by kernel_rfl) (by kernel_rfl) (fun _ _ _ h => h) (by kernel_rfl) hHeld ?_ ?_
          rotate_left
          · intro w hSw; go_split_ands; go_simp; try with_reducible rfl
          try simp only [Act.put, List.setIfInBounds_toArray, List.set_cons_zero, List.set_cons_succ]
          refine take_yes (i := 8) (v := ?_) rfl (by kernel_rfl) (by kernel_rfl) (by kernel_rfl) (fun _ _ _ h => h) (by kernel_rfl) hHeld ?_ ?_
          rotate_left
          · intro w hSw; go_split_ands; go_simp; try with_reducible rfl
          try simp only [Act.put, List.setIfInBounds_toArray, List.set_cons_zero, List.set_cons_succ]
          refine take_yes (i := 9) (v := ?_) rfl (by kernel_rfl) (by kernel_rfl) (by kernel_rfl) (fun _ _ _ h => h) (by kernel_rfl) hHeld ?_ ?_
          rotate_left
          · intro w hSw; go_split_ands; go_simp; try with_reducible rfl
          try simp only [Act.put, List.setIfInBounds_toArray, List.set_cons_zero, List.set_cons_succ]
          refine take_loud (i := 4) rfl (by kernel_rfl) (fun K hK => ?_)
          go_simp
          go_wp2_with (go_at_call 9; refine (HHV.out _ hHeld.2.out).mono ?_; rintro e wN ⟨rfl, hbN⟩)
          refine hK.out _ _ ⟨(hbN.cell (lt_of_cell hHeld.1)).trans hHeld.1, Lib.hid (hHeld.2.out.at (Nat.le_refl _) hbN)⟩ (fun hHeld2 => ?_)
          replace hHeld := hHeld2
          clear hK K hHeld2 hbN
          try simp only [Act.put, List.setIfInBounds_toArray, List.set_cons_zero, List.set_cons_succ]
          refine take_loud (i := 10) rfl (by kernel_rfl) (fun K hK => ?_)
          go_simp
          go_wp2_with (go_at_call 10; refine (HRH.out _ hHeld.2.out).mono ?_; rintro e wN ⟨rfl, hbN⟩)
          refine hK.out _ _ ⟨(hbN.cell (lt_of_cell hHeld.1)).trans hHeld.1, Lib.hid (hHeld.2.out.at (Nat.le_refl _) hbN)⟩ (fun hHeld2 => ?_)
          replace hHeld := hHeld2
          clear hK K hHeld2 hbN
          try simp only [Act.put, List.setIfInBounds_toArray, List.set_cons_zero, List.set_cons_succ]
          refine take_yes (i := 11) (v := ?_) rfl (by kernel_rfl) (by kernel_rfl) (by kernel_rfl) (fun _ _ _ h => h) (by kernel_rfl) hHeld ?_ ?_
          rotate_left
          · intro w hSw; go_split_ands; go_simp; try with_reducible rfl
          try simp only [Act.put, List.setIfInBounds_toArray, List.set_cons_zero, List.set_cons_succ]
          refine take_yes (i := 12) (v := ?_) rfl (by kernel_rfl) (by kernel_rfl) (by kernel_rfl) (fun _ _ _ h => h) (by kernel_rfl) hHeld ?_ ?_
          rotate_left
          · intro w hSw; go_split_ands; go_simp; try with_reducible rfl
          try simp only [Act.put, List.setIfInBounds_toArray, List.set_cons_zero, List.set_cons_succ]
          refine take_yes (i := 13) (v := ?_) rfl (by kernel_rfl) (by kernel_rfl) (by kernel_rfl) (fun _ _ _ h => h) (by kernel_rfl) hHeld ?_ ?_
          rotate_left
          · intro w hSw; go_split_ands; go_simp; try with_reducible rfl
          try simp only [Act.put, List.setIfInBounds_toArray, List.set_cons_zero, List.set_cons_succ]
          refine take_yes (i := 14) (v := ?_) rfl (by kernel_rfl) (by kernel_rfl) (by kernel_rfl) (fun _ _ _ h => h) (by kernel_rfl) hHeld ?_ ?_
          rotate_left
          · intro w hSw; go_split_ands; go_simp; try with_reducible rfl
          try simp only [Act.put, List.setIfInBounds_toArray, List.set_cons_zero, List.set_cons_succ]
          refine take_yes (i := 15) (v := ?_) rfl (by kernel_rfl) (by kernel_rfl) (by kernel_rfl) (fun _ _ _ h => h) (by kernel_rfl) hHeld ?_ ?_
          rotate_left
          · intro w hSw; go_split_ands; go_simp; try with_reducible rfl
          try simp only [Act.put, List.setIfInBounds_toArray, List.set_cons_zero, List.set_cons_succ]
          refine take_yes (i := 16) (v := ?_) rfl (by kernel_rfl) (by kernel_rfl) (by kernel_rfl) (fun _ _ _ h => h) (by kernel_rfl) hHeld ?_ ?_
          rotate_left
          · intro w hSw; go_split_ands; go_simp; try with_reducible rfl
          try simp only [Act.put, List.setIfInBounds_toArray, List.set_cons_zero, List.set_cons_succ]
          refine take_yes (i := 18) (v := ?_) rfl (by kernel_rfl) (by kernel_rfl) (by kernel_rfl) (fun _ _ _ h => h) (by kernel_rfl) hHeld ?_ ?_
          rotate_left
          · intro w hSw; go_split_ands; go_simp; try with_reducible rfl
          try simp only [Act.put, List.setIfInBounds_toArray, List.set_cons_zero, List.set_cons_succ]
          refine take_yes (i := 19) (v := ?_) rfl (by kernel_rfl) (by kernel_rfl) (by kernel_rfl) (fun _ _ _ h => h) (by kernel_rfl) hHeld ?_ ?_
          rotate_left
          · intro w hSw; go_split_ands; go_simp; try with_reducible rfl
          try simp only [Act.put, List.setIfInBounds_toArray, List.set_cons_zero, List.set_cons_succ]
          refine take_yes (i := 20) (v := ?_) rfl (by kernel_rfl) (by kernel_rfl) (by kernel_rfl) (fun _ _ _ h => h) (by kernel_rfl) hHeld ?_ ?_
          rotate_left
          · intro w hSw; go_split_ands; go_simp; try with_reducible rfl
          try simp only [Act.put, List.setIfInBounds_toArray, List.set_cons_zero, List.set_cons_succ]
          refine take_yes (i := 21) (v := ?_) rfl (by kernel_rfl) (by kernel_rfl) (by kernel_rfl) (fun _ _ _ h => h) (by kernel_rfl) hHeld ?_ ?_
          rotate_left
          · intro w hSw; go_split_ands; go_simp; try with_reducible rfl
          try simp only [Act.put, List.setIfInBounds_toArray, List.set_cons_zero, List.set_cons_succ]
          refine take_loud (i := 17) rfl (by kernel_rfl) (fun K hK => ?_)
          go_simp
          go_wp2_with (go_at_call 11; refine (HNM.out _ hHeld.2.out).mono ?_; rintro e wN ⟨rfl, hbN⟩)
          refine hK.out _ _ ⟨(hbN.cell (lt_of_cell hHeld.1)).trans hHeld.1, Lib.hid (hHeld.2.out.at (Nat.le_refl _) hbN)⟩ (fun hHeld2 => ?_)
          replace hHeld := hHeld2
          clear hK K hHeld2 hbN
          try simp only [Act.put, List.setIfInBounds_toArray, List.set_cons_zero, List.set_cons_succ]
          refine take_loud (i := 22) rfl (by kernel_rfl) (fun K hK => ?_)
          go_simp
          go_wp2_with (go_at_call 12; refine (HRN.out _ hHeld.2.out).mono ?_; rintro e wN ⟨rfl, hbN⟩)
          refine hK.out _ _ ⟨(hbN.cell (lt_of_cell hHeld.1)).trans hHeld.1, Lib.hid (hHeld.2.out.at (Nat.le_refl _) hbN)⟩ (fun hHeld2 => ?_)
          replace hHeld := hHeld2
          clear hK K hHeld2 hbN
          try simp only [Act.put, List.setIfInBounds_toArray, List.set_cons_zero, List.set_cons_succ]
          refine take_yes (i := 23) (v := ?_) rfl (by kernel_rfl) (by kernel_rfl) (by kernel_rfl) (fun _ _ _ h => h) (by kernel_rfl) hHeld ?_ ?_
          rotate_left
          · intro w hSw; go_split_ands; go_simp; try with_reducible rfl
          try simp only [Act.put, List.setIfInBounds_toArray, List.set_cons_zero, List.set_cons_succ]
          refine take_yes (i := 24) (v := ?_) rfl (by kernel_rfl) (by kernel_rfl) (by kernel_rfl) (fun _ _ _ h => h) (by kernel_rfl) hHeld ?_ ?_
          rotate_left
          · intro w hSw; go_split_ands; go_simp; try with_reducible rfl
          try simp only [Act.put, List.setIfInBounds_toArray, List.set_cons_zero, List.set_cons_succ]
          refine wpAnyH_done (by kernel_rfl) ?_ _
          have HAE := Lib.hid hHeld.2.out
          go_wp2
          exact ⟨⟨k + 1, by omega, by go_num, Lib.hid ⟨⟨_, _, HAE.out.dep⟩, ⟨_, HAE.out.ref⟩⟩, Lib.hid HAE.out.low⟩, by simp [intOf]; omega⟩
          --loop2}
        · --{last
          have HTH : Hid (∀ w', Asked (w.heap.size + 2) w.heap.size (w.heap.size + 1) w.heap.size mv jv (.slice ra L.length rc) L w w' → Calls Tryz.prog 14 #[.pointer (some ⟨w.heap.size, 0, none⟩)] w' fun e w'' => ∃ a c ss, e = .returned (.slice a ss.length c) ∧ NamesOf L ss ∧ Elems encT 1 w'' a ss ∧ Below w'.heap.size w' w'') := Lib.hid (fun w' h => (depThings_any (by omega) h.dep).mono (fun e w'' ⟨v, ss, h1, h2, h3, h4⟩ => by
            obtain ⟨a, c, rfl, h5⟩ := names_row h3
            exact ⟨a, c, ss, h1, h2, h5, h4⟩))
          have HRT : Hid (∀ w', Asked (w.heap.size + 2) w.heap.size (w.heap.size + 1) w.heap.size mv jv (.slice ra L.length rc) L w w' → Calls Tryz.prog 15 #[.pointer (some ⟨w.heap.size + 1, 0, none⟩)] w' fun e w'' => ∃ a c ss, e = .returned (.slice a ss.length c) ∧ NamesOf L ss ∧ Elems encT 1 w'' a ss ∧ Below w'.heap.size w' w'') := Lib.hid (fun w' h => (refThings_any (by omega) h.ref).mono (fun e w'' ⟨v, ss, h1, h2, h3, h4⟩ => by
            obtain ⟨a, c, rfl, h5⟩ := names_row h3
            exact ⟨a, c, ss, h1, h2, h5, h4⟩))
          have HJ : Hid (∀ w', Asked (w.heap.size + 2) w.heap.size (w.heap.size + 1) w.heap.size mv jv (.slice ra L.length rc) L w w' → Calls Tryz.prog 16 #[.pointer (some ⟨w.heap.size, 0, none⟩)] w' fun e w'' => ∃ v, e = .returned v ∧ w''.ownsRow w'.heap.size 5 1 v (journalM L).length ((journalM L).map fun b => Value.int .u8 (b.toNat : Int)) ∧ Below w'.heap.size w' w'') := Lib.hid (fun w' h => depJournal_any (by omega) h.dep)
          have HRJO : Hid (∀ w', Asked (w.heap.size + 2) w.heap.size (w.heap.size + 1) w.heap.size mv jv (.slice ra L.length rc) L w w' → Calls Tryz.prog 17 #[.pointer (some ⟨w.heap.size + 1, 0, none⟩)] w' fun e w'' => e = .returned (strV (journalM L)) ∧ Below w'.heap.size w' w'') := Lib.hid (fun w' h => refJournal_any _ _ L _ w' (by omega) h.ref h.pow)
          generalize journalM L = jn at *
          go_wp2
          refine wp_region_held_drew (S := fun w' => Hid (Asked (w.heap.size + 2) w.heap.size (w.heap.size + 1) w.heap.size mv jv (.slice ra L.length rc) L w w')) (by kernel_rfl) (Lib.hid (HA.out.at (Nat.le_refl _) (below_drewN wr 1 _))) (fun hHeld => ?_)
          refine take_yes (i := 1) (v := ?_) rfl (by kernel_rfl) (by kernel_rfl) (by kernel_rfl) (fun _ _ _ h => h) (by kernel_rfl) hHeld ?_ ?_
          rotate_left
          · intro w hSw; go_split_ands; go_simp; try with_reducible rfl
          try simp only [Act.put, List.setIfInBounds_toArray, List.set_cons_zero, List.set_cons_succ]
          refine take_loud (i := 0) rfl (by kernel_rfl) (fun K hK => ?_)
          go_simp
          go_wp2_with (go_at_call 14; refine (HTH.out _ hHeld.out).mono ?_; rintro e wN ⟨a1, c1, s1, rfl, hn1, hE1, hbN⟩)
          refine hK.out _ _ (Lib.hid (hHeld.out.at (Nat.le_refl _) hbN)) (fun hHeld2 => ?_)
          have HE1 := Lib.hid hE1
          have HN1 := Lib.hid hn1
          clear hE1 hn1
          replace hHeld := hHeld2
          clear hK K hHeld2 hbN
          try simp only [Act.put, List.setIfInBounds_toArray, List.set_cons_zero, List.set_cons_succ]
          refine take_loud (i := 2) rfl (by kernel_rfl) (fun K hK => ?_)
          go_simp
          go_wp2_with (go_at_call 15; refine (HRT.out _ hHeld.out).mono ?_; rintro e wN ⟨a2, c2, s2, rfl, hn2, hE2, hbN⟩)
          refine hK.out _ _ (Lib.hid (hHeld.out.at (Nat.le_refl _) hbN)) (fun hHeld2 => ?_)
          have HE2 := Lib.hid hE2
          have HN2 := Lib.hid hn2
          replace HE1 := Lib.hid (HE1.out.at hbN)
          clear hE2 hn2
          replace hHeld := hHeld2
          clear hK K hHeld2 hbN
          try simp only [Act.put, List.setIfInBounds_toArray, List.set_cons_zero, List.set_cons_succ]
          obtain rfl : s1 = s2 := names_eq HN1.out HN2.out
          have hsl := names_len HN1.out
          refine take_loud (i := 3) rfl (by kernel_rfl) (fun K hK => ?_)
          go_simp
          go_wp2_with (go_at_call 13; refine (same_any _ _ _ _ _ _ s1 s1 _ rfl rfl (by omega) (by omega) HE1.out HE2.out).mono ?_; rintro e wN ⟨rfl, hbN⟩)
          refine hK.out _ _ (Lib.hid (hHeld.out.at (Nat.le_refl _) hbN)) (fun hHeld2 => ?_)
          clear HE1 HE2
          replace hHeld := hHeld2
          clear hK K hHeld2 hbN
          try simp only [Act.put, List.setIfInBounds_toArray, List.set_cons_zero, List.set_cons_succ]
          refine take_yes (i := 4) (v := ?_) rfl (by kernel_rfl) (by kernel_rfl) (by kernel_rfl) (fun _ _ _ h => h) (by kernel_rfl) hHeld ?_ ?_
          rotate_left
          · intro w hSw; go_split_ands; go_simp; try with_reducible rfl
          try simp only [Act.put, List.setIfInBounds_toArray, List.set_cons_zero, List.set_cons_succ]
          refine take_yes (i := 7) (v := ?_) rfl (by kernel_rfl) (by kernel_rfl) (by kernel_rfl) (fun _ _ _ h => h) (by kernel_rfl) hHeld ?_ ?_
          rotate_left
          · intro w hSw; go_split_ands; go_simp; try with_reducible rfl
          try simp only [Act.put, List.setIfInBounds_toArray, List.set_cons_zero, List.set_cons_succ]
          refine take_loud (i := 5) rfl (by kernel_rfl) (fun K hK => ?_)
          go_simp
          go_wp2_with (go_at_call 16; refine (HJ.out _ hHeld.out).mono ?_; rintro e wN ⟨vj, rfl, hrj, hbN⟩)
          refine hK.out _ _ (Lib.hid (hHeld.out.at (Nat.le_refl _) hbN)) (fun hHeld2 => ?_)
          have HRJ := Lib.hid hrj
          clear hrj
          replace hHeld := hHeld2
          clear hK K hHeld2 hbN
          try simp only [Act.put, List.setIfInBounds_toArray, List.set_cons_zero, List.set_cons_succ]
          refine take_both (i := 6) (j := 8) rfl rfl (by kernel_rfl) (fun K hK => ?_) (fun K hK => ?_)
          · skip
            have hcv := jour_text HRJ.out
            try go_simp
            refine hK.out _ _ hHeld (fun hHeld2 => ?_)
            replace hHeld := hHeld2
            clear hK K hHeld2 hcv HRJ
            try simp only [Act.put, List.setIfInBounds_toArray, List.set_cons_zero, List.set_cons_succ]
            refine take_loud (i := 8) rfl (by kernel_rfl) (fun K hK => ?_)
            go_simp
            go_wp2_with (go_at_call 17; refine (HRJO.out _ hHeld.out).mono ?_; rintro e wN ⟨rfl, hbN⟩)
            refine hK.out _ _ (Lib.hid (hHeld.out.at (Nat.le_refl _) hbN)) (fun hHeld2 => ?_)
            replace hHeld := hHeld2
            clear hK K hHeld2 hbN
            try simp only [Act.put, List.setIfInBounds_toArray, List.set_cons_zero, List.set_cons_succ]
            refine take_yes (i := 9) (v := ?_) rfl (by kernel_rfl) (by kernel_rfl) (by kernel_rfl) (fun _ _ _ h => h) (by kernel_rfl) hHeld ?_ ?_
            rotate_left
            · intro w hSw; go_split_ands; go_simp; try with_reducible rfl
            try simp only [Act.put, List.setIfInBounds_toArray, List.set_cons_zero, List.set_cons_succ]
            refine take_yes (i := 10) (v := ?_) rfl (by kernel_rfl) (by kernel_rfl) (by kernel_rfl) (fun _ _ _ h => h) (by kernel_rfl) hHeld ?_ ?_
            rotate_left
            · intro w hSw; go_split_ands; go_simp; try with_reducible rfl
            try simp only [Act.put, List.setIfInBounds_toArray, List.set_cons_zero, List.set_cons_succ]
            refine take_yes (i := 11) (v := ?_) rfl (by kernel_rfl) (by kernel_rfl) (by kernel_rfl) (fun _ _ _ h => h) (by kernel_rfl) hHeld ?_ ?_
            rotate_left
            · intro w hSw; go_split_ands; go_simp; try with_reducible rfl
            try simp only [Act.put, List.setIfInBounds_toArray, List.set_cons_zero, List.set_cons_succ]
            refine wpAnyH_done (by kernel_rfl) ?_ _
            have HAE := Lib.hid hHeld.out
            go_wp2
            go_ret
            exact ⟨rfl, HAE.out.low⟩
          · skip
            go_simp
            go_wp2_with (go_at_call 17; refine (HRJO.out _ hHeld.out).mono ?_; rintro e wN ⟨rfl, hbN⟩)
            refine hK.out _ _ (Lib.hid (hHeld.out.at (Nat.le_refl _) hbN)) (fun hHeld2 => ?_)
            replace HRJ := Lib.hid (own_frs (S := fun _ => False) HRJ.out (FrS.of_below hbN) (fun _ _ h => h))
            replace hHeld := hHeld2
            clear hK K hHeld2 hbN
            try simp only [Act.put, List.setIfInBounds_toArray, List.set_cons_zero, List.set_cons_succ]
            refine take_loud (i := 6) rfl (by kernel_rfl) (fun K hK => ?_)
            have hcv := jour_text HRJ.out
            try go_simp
            refine hK.out _ _ hHeld (fun hHeld2 => ?_)
            replace hHeld := hHeld2
            clear hK K hHeld2 hcv HRJ
            try simp only [Act.put, List.setIfInBounds_toArray, List.set_cons_zero, List.set_cons_succ]
            refine take_yes (i := 9) (v := ?_) rfl (by kernel_rfl) (by kernel_rfl) (by kernel_rfl) (fun _ _ _ h => h) (by kernel_rfl) hHeld ?_ ?_
            rotate_left
            · intro w hSw; go_split_ands; go_simp; try with_reducible rfl
            try simp only [Act.put, List.setIfInBounds_toArray, List.set_cons_zero, List.set_cons_succ]
            refine take_yes (i := 10) (v := ?_) rfl (by kernel_rfl) (by kernel_rfl) (by kernel_rfl) (fun _ _ _ h => h) (by kernel_rfl) hHeld ?_ ?_
            rotate_left
            · intro w hSw; go_split_ands; go_simp; try with_reducible rfl
            try simp only [Act.put, List.setIfInBounds_toArray, List.set_cons_zero, List.set_cons_succ]
            refine take_yes (i := 11) (v := ?_) rfl (by kernel_rfl) (by kernel_rfl) (by kernel_rfl) (fun _ _ _ h => h) (by kernel_rfl) hHeld ?_ ?_
            rotate_left
            · intro w hSw; go_split_ands; go_simp; try with_reducible rfl
            try simp only [Act.put, List.setIfInBounds_toArray, List.set_cons_zero, List.set_cons_succ]
            refine wpAnyH_done (by kernel_rfl) ?_ _
            have HAE := Lib.hid hHeld.out
            go_wp2
            go_ret
            exact ⟨rfl, HAE.out.low⟩
          --last}
end Go.Proofs.YtannijeiecmjpaaGreatDoor
