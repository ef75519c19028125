/- slices.IndexFunc and slices.DeleteFunc over integers that lie in a row of the call's own from some place on, by a function value that tells p of each, and may write elsewhere. -/
import Derived.Test.YtannijeiecmjpaaDoorDelF
import Derived.Test.YtannijeiecmjpaaDoorInBox
namespace Go.Proofs.YtannijeiecmjpaaDoor
open Go.RowKit

/-- The first j have been asked: what holds then; the row's block g is nobody's business. -/
structure AskI (gf : Nat) (cb : Array Value) (p : Int → Bool) (xs : List Int) (g : Nat) (I : Nat → World → Prop) : Prop where
  ask : ∀ j (h : j < xs.length) w', I j w' → Calls Tryd.prog gf (#[.int .i64 xs[j]] ++ cb) w' fun e w'' => e = .returned (.bool (p xs[j])) ∧ I (j + 1) w'' ∧ w''.heap[g]? = w'.heap[g]?
  keep : ∀ j w' w'', I j w' → w'.grownBy w'' (some g) → I j w''
def asked (p : Int → Bool) (xs : List Int) : Nat := min (xs.findIdx p + 1) xs.length
theorem fst_idx {p : Int → Bool} {xs : List Int} {k : Nat} (h : k < xs.length) (hn : ∀ j, j < k → p (xs.getD j 0) = false) (hp : p xs[k] = true) : fstI p xs = (k : Int) ∧ asked p xs = k + 1 := by
  have := fst_here h hn hp
  unfold fstI asked
  rw [this, if_pos h]
  exact ⟨rfl, by omega⟩
theorem idx_none {p : Int → Bool} {xs : List Int} (hn : ∀ j, j < xs.length → p (xs.getD j 0) = false) : fstI p xs = -1 ∧ asked p xs = xs.length := by
  refine ⟨fst_none hn, ?_⟩
  unfold asked
  have : ¬ xs.findIdx p < xs.length := fun h => by
    have h1 := List.findIdx_getElem (w := h)
    have h2 := hn _ h
    rw [getD_lt h] at h2
    rw [h2] at h1; cases h1
  omega
set_option maxHeartbeats 1000000 in
theorem indexT_any (gf : Nat) (cb : Array Value) (p : Int → Bool) (g k n c : Nat) (I : Nat → World → Prop) (xs : List Int) (w : World) (eg : ∀ args w, (callFunc gf args).run Tryd.prog w = .ok (.enter gf args) w) (hp : AskI gf cb p xs g I)
    (hl : n = xs.length) (hn : xs.length ≤ 1000) (hI : I 0 w) (hc : ∀ j (h : j < xs.length), w.cell? ⟨g, k + j, none⟩ = some (.int .i64 xs[j])) :
    Calls Tryd.prog 43 #[.slice (some ⟨g, k, none⟩) n c, .func (.func gf) #[] cb] w fun e w' => e = .returned (.int .i64 (fstI p xs)) ∧ I (asked p xs) w' ∧ w'.heap[g]? = w.heap[g]? := by
  subst hl
  have HP := Lib.hid hp
  have HC := Lib.hid hc
  have HI := Lib.hid hI
  clear hp hc hI
  go_enter Tryd.func43, Tryd.ntmps43
  go_wp2
  go_loopw [8] (fun i wr => ∃ q : Nat, q ≤ xs.length ∧ i = .int .i64 q ∧ Hid (∀ j, j < q → p (xs.getD j 0) = false) ∧ Hid (I q wr) ∧ Hid (wr.heap[g]? = w.heap[g]?)) (fun i _ => xs.length - (intOf i).toNat)
  case atStart => exact ⟨0, by omega, rfl, Lib.hid (fun j hj => absurd hj (Nat.not_lt_zero _)), HI, Lib.hid rfl⟩
  case round =>
    clear HI
    obtain ⟨q, hq, rfl, HQ, HI, HB⟩ := hrel
    by_cases hlt : q < xs.length
    · have h1 : wr.cell? ⟨g, k + q, none⟩ = some (.int .i64 xs[q]) := (World.cell?_of_block HB.out).trans (HC.out q hlt)
      have HG := Lib.hid (getD_lt hlt)
      have HA := Lib.hid (HP.out.ask q hlt wr HI.out)
      by_cases hbad : p xs[q] = true
      · have HR := Lib.hid (fst_idx hlt HQ.out hbad)
        have HT := Lib.hid hbad
        clear hbad
        go_wp2_with fail
        refine HA.out.mono ?_
        rintro e w1 ⟨rfl, hi1, hb1⟩
        rw [HT.out]
        have HE := Lib.hid (And.intro hi1 hb1)
        clear hi1 hb1
        go_wp2
        go_ret
        exact ⟨by rw [HR.out.1]; rfl, by rw [HR.out.2]; exact HE.out.1, HE.out.2.trans HB.out⟩
      · have HT : Hid (p xs[q] = false) := Lib.hid (by simpa using hbad)
        have HK : Hid (∀ j, j < q + 1 → p (xs.getD j 0) = false) := Lib.hid (fun j hj => by
          rcases Nat.lt_or_ge j q with h | h
          · exact HQ.out j h
          · obtain rfl : j = q := by omega
            rw [HG.out]; exact HT.out)
        clear hbad
        go_wp2_with fail
        refine HA.out.mono ?_
        rintro e w1 ⟨rfl, hi1, hb1⟩
        rw [HT.out]
        have HE := Lib.hid (And.intro hi1 hb1)
        clear hi1 hb1
        go_wp2
        exact ⟨⟨q + 1, by omega, by go_num, HK, Lib.hid HE.out.1, Lib.hid (HE.out.2.trans HB.out)⟩, by simp [intOf]; omega⟩
    · obtain rfl : q = xs.length := by omega
      have HR := Lib.hid (idx_none HQ.out)
      clear HQ HP
      go_wp2
      go_ret
      exact ⟨by rw [HR.out.1]; rfl, by rw [HR.out.2]; exact HI.out, HB.out⟩
/-! ### DeleteFunc -/
theorem tail_get {w : World} {base e g k n cap : Nat} {dead xs : List Int} (h : w.ownsRow base e 1 (.slice (some ⟨g, 0, none⟩) (k + n) cap) (k + n) ((dead ++ xs).map (Value.int .i64))) (hd : dead.length = k) (hn : n = xs.length) (j : Nat) (hj : j < xs.length) :
    w.cell? ⟨g, k + j, none⟩ = some (.int .i64 xs[j]) ∧ w.frozen? ⟨g, k + j, none⟩ = false := by
  subst hd
  have h1 := owns_get h (dead.length + j) (by omega) (by simp; omega)
  rw [List.getElem_append_right (by omega)] at h1
  simp only [Nat.add_sub_cancel_left] at h1
  exact ⟨h1, h.frozenAt _⟩
theorem tail_set {w : World} {base e g k n cap : Nat} {dead xs : List Int} (h : w.ownsRow base e 1 (.slice (some ⟨g, 0, none⟩) (k + n) cap) (k + n) ((dead ++ xs).map (Value.int .i64))) (hd : dead.length = k) (j : Nat) (u : Int) :
    (w.setCell ⟨g, k + j, none⟩ (.int .i64 u)).ownsRow base e 1 (.slice (some ⟨g, 0, none⟩) (k + n) cap) (k + n) ((dead ++ xs.set j u).map (Value.int .i64)) := by
  subst hd
  have h1 := owns_set h (dead.length + j) u
  rw [List.set_append_right _ _ (by omega), Nat.add_sub_cancel_left] at h1
  exact h1
theorem own_block {w w' : World} {base e g n cap size : Nat} {xs : List Value} (h : w.ownsRow base e size (.slice (some ⟨g, 0, none⟩) n cap) n xs) (hb : w'.heap[g]? = w.heap[g]?) : w'.ownsRow base e size (.slice (some ⟨g, 0, none⟩) n cap) n xs := by
  refine ⟨h.1, ?_⟩
  rcases h.2 with h1 | ⟨g', cap', cur, h1, h2, h3, r⟩
  · cases h1.1
  · have hg : g = g' := by have := (Value.slice.inj h1).1; simpa using this
    subst hg
    exact Or.inr ⟨g, cap', cur, h1, h2, by rw [hb]; exact h3, r⟩
/-- What DeleteFunc leaves. -/
def DelTPost (p : Int → Bool) (xs dead : List Int) (g k c cap base : Nat) (I : Nat → World → Prop) (e : Ending) (w' : World) : Prop :=
  e = .returned (.slice (some ⟨g, k, none⟩) (xs.filter (fun x => !p x)).length c) ∧
    w'.ownsRow base 3 1 (.slice (some ⟨g, 0, none⟩) (k + (xs.filter (fun x => !p x)).length) cap) (k + (xs.filter (fun x => !p x)).length) ((dead ++ xs.filter (fun x => !p x)).map (Value.int .i64)) ∧ I xs.length w'
set_option maxRecDepth 100000 in
set_option maxHeartbeats 4000000 in
theorem deleteT_any (gf : Nat) (cb : Array Value) (p : Int → Bool) (g k n c cap base : Nat) (I : Nat → World → Prop) (dead xs : List Int) (w : World) (eg : ∀ args w, (callFunc gf args).run Tryd.prog w = .ok (.enter gf args) w) (hp : AskI gf cb p xs g I)
    (hl : n = xs.length) (hn : xs.length ≤ 1000) (hnc : n ≤ c) (hcm : c ≤ maxLen) (hI : I 0 w) (hd : dead.length = k) (hown : w.ownsRow base 3 1 (.slice (some ⟨g, 0, none⟩) (k + n) cap) (k + n) ((dead ++ xs).map (Value.int .i64))) :
    Calls Tryd.prog 33 #[.slice (some ⟨g, k, none⟩) n c, .func (.func gf) #[] cb] w (DelTPost p xs dead g k c cap base I) := by
  subst hl
  unfold maxLen at hcm
  have hix := indexT_any gf cb p g k xs.length c I xs w eg hp rfl hn hI (fun j hj => (tail_get hown hd rfl j hj).1)
  have HI := Lib.hid hix
  have HP := Lib.hid hp
  have HO := Lib.hid hown
  have HD := Lib.hid hd
  clear hix hp hown hI hd
  have ownAt := fun (w' : World) (hb : w'.heap[g]? = w.heap[g]?) => own_block HO.out hb
  have HAT := Lib.hid ownAt
  clear ownAt
  by_cases hex : ∃ i, ∃ h : i < xs.length, p xs[i] = true ∧ ∀ j, j < i → p (xs.getD j 0) = false
  · obtain ⟨i0, hi0, hpi, hpj⟩ := hex
    have HF := Lib.hid (fst_idx hi0 hpj hpi)
    have HK := Lib.hid (kept_start hi0 hpj hpi)
    have hdd : ((i0 : Int) == -1) = false := by simp
    clear hpi hpj
    go_enter Tryd.func33, Tryd.ntmps33
    go_wp2_with fail
    refine HI.out.mono ?_
    rintro e w1 ⟨rfl, hi1, hb1⟩
    rw [HF.out.1]
    rw [HF.out.2] at hi1
    have HI1 := Lib.hid hi1
    have HW1 := Lib.hid (HAT.out w1 hb1)
    clear HI HF HO HAT hi1 hb1
    go_wp2
    go_loopw [5, 6] (fun iv jv wr => ∃ i j : Nat, j ≤ xs.length ∧ iv = .int .i64 i ∧ jv = .int .i64 j ∧ ∃ R, Hid (KeptI p xs R i j) ∧ Hid (wr.ownsRow base 3 1 (.slice (some ⟨g, 0, none⟩) (k + xs.length) cap) (k + xs.length) ((dead ++ R).map (Value.int .i64))) ∧ Hid (I j wr)) (fun _ jv _ => xs.length - (intOf jv).toNat)
    case atStart => exact ⟨i0, i0 + 1, by omega, rfl, by go_num, xs, HK, HW1, HI1⟩
    case round =>
      clear HW1 HI1 HK hi0 hdd
      obtain ⟨i, j, hj, rfl, rfl, R, HK, HR, HI⟩ := hrel
      have hij := HK.out.2.2.2
      have hRl := HK.out.1
      by_cases hlt : j < xs.length
      · obtain ⟨hr, hrj⟩ := kept_get HK.out hlt
        have c1 := (tail_get HR.out HD.out hRl.symm j hr).1
        rw [hrj] at c1
        have hri : i < R.length := by omega
        obtain ⟨c2, f2⟩ := tail_get HR.out HD.out hRl.symm i hri
        have HA := Lib.hid (HP.out.ask j hlt wr HI.out)
        have HRL := Lib.hid hRl
        have HAT := Lib.hid (fun (w' : World) (hb : w'.heap[g]? = wr.heap[g]?) => own_block HR.out hb)
        clear hrj hRl
        cases hpx : p xs[j] with
        | true =>
          have HN := Lib.hid (kept_skip HK.out hlt hpx)
          have HT := Lib.hid hpx
          clear hpx
          go_wp2_with fail
          refine HA.out.mono ?_
          rintro e w2 ⟨rfl, hi2, hb2⟩
          rw [HT.out]
          have HE := Lib.hid (And.intro hi2 hb2)
          clear hi2 hb2
          go_wp2
          exact ⟨⟨i, j + 1, by omega, rfl, by go_num, R, HN, Lib.hid (HAT.out _ HE.out.2), Lib.hid HE.out.1⟩, by simp [intOf]; omega⟩
        | false =>
          have HN := Lib.hid (kept_put HK.out hlt hpx)
          have HT := Lib.hid hpx
          clear hpx
          go_wp2_with fail
          refine HA.out.mono ?_
          rintro e w2 ⟨rfl, hi2, hb2⟩
          rw [HT.out]
          have c3 := (World.cell?_of_block (a := ⟨g, k + i, none⟩) hb2).trans c2
          have f3 := (World.frozen?_of_block (a := ⟨g, k + i, none⟩) hb2).trans f2
          have HR3 := Lib.hid (tail_set (HAT.out w2 hb2) HD.out i xs[j])
          have HI3 := Lib.hid (HP.out.keep _ _ _ hi2 (grown_setCells g [.int .i64 xs[j]] w2 (k + i)))
          clear hi2 hb2 f2 c2
          go_wp2
          exact ⟨⟨i + 1, j + 1, by omega, by go_num, by go_num, R.set i xs[j], HN, HR3, HI3⟩, by simp [intOf]; omega⟩
      · obtain rfl : j = xs.length := by omega
        have HRL := Lib.hid hRl
        have HFR : Hid (R.take i = xs.filter (fun x => !p x)) := Lib.hid (by have := HK.out.2.1; rwa [List.take_length] at this)
        have hic : i ≤ c := by omega
        have hcl : ∀ ty, (Builtin.clear_ #[39] ty #[.slice (some ⟨g, k + i, none⟩) (xs.length - i) (c - i)]).run Tryd.prog wr = .ok (.tuple #[]) (wr.setCells g (k + i) (List.replicate (xs.length - i) (.int .i64 0))) :=
          fun ty => Lib.run_clear_slice wr _ _ ty _ Tryd.underlying39 zeroInt rfl rfl g (k + i) _ _ (by omega)
            (fun t ht => by rw [Nat.add_assoc, (tail_get HR.out HD.out hRl.symm (i + t) (by omega)).1]; rfl) (fun t _ => HR.out.frozenAt _)
        have hz : ¬ c = i := by omega
        clear hRl
        go_wp2
        go_ret
        have hfl : (xs.filter (fun x => !p x)).length = i := by rw [← HFR.out, List.length_take, HRL.out]; omega
        have hdl := HD.out
        have h2 := shrink_k (owns_setAll (List.replicate (xs.length - i) 0) (k + i) HR.out) (m := k + i) (by omega)
        rw [Nat.mul_one, ← List.map_take, setAll_take _ _ _ (by rw [List.length_replicate, List.length_append, HRL.out]; omega), ← hdl, List.take_append, List.take_of_length_le (by omega), Nat.add_sub_cancel_left, HFR.out, List.map_replicate] at h2
        unfold DelTPost
        rw [hfl]
        refine ⟨rfl, ?_, HP.out.keep _ _ _ HI.out (grown_setCells g _ _ _)⟩
        rw [hdl] at h2
        exact h2
  · have hno : ∀ j, j < xs.length → p (xs.getD j 0) = false := by
      intro j
      induction j using Nat.strongRecOn with
      | ind j ih =>
        intro hj
        cases hc : p (xs.getD j 0) with
        | false => rfl
        | true => exact absurd ⟨j, hj, by rw [getD_lt hj] at hc; exact hc, fun t ht => ih t ht (by omega)⟩ hex
    have HF := Lib.hid (idx_none hno)
    have HE : Hid (xs.filter (fun x => !p x) = xs) := Lib.hid (by
      rw [List.filter_eq_self]
      intro x hx
      obtain ⟨k, hk, rfl⟩ := List.mem_iff_getElem.1 hx
      have := hno k hk
      rw [getD_lt hk] at this
      simp [this])
    clear hex hno
    go_enter Tryd.func33, Tryd.ntmps33
    go_wp2_with fail
    refine HI.out.mono ?_
    rintro e w1 ⟨rfl, hi1, hb1⟩
    rw [HF.out.1]
    rw [HF.out.2] at hi1
    have HI1 := Lib.hid hi1
    have HW1 := Lib.hid (HAT.out w1 hb1)
    clear HI hi1 hb1
    go_wp2
    go_ret
    unfold DelTPost
    rw [HE.out]
    exact ⟨rfl, HW1.out, HI1.out⟩
set_option maxHeartbeats 1000000 in
theorem indexT_nil (gf : Nat) (cb : Array Value) (ad : Option Addr) (c : Nat) (w : World) :
    Calls Tryd.prog 43 #[.slice ad 0 c, .func (.func gf) #[] cb] w fun e w' => e = .returned (.int .i64 (-1)) ∧ w' = w := by
  go_enter Tryd.func43, Tryd.ntmps43
  go_wp2
  go_loopw [8] (fun i wr => i = .int .i64 0 ∧ wr = w) (fun _ _ => 0)
  case atStart => exact ⟨rfl, rfl⟩
  case round =>
    obtain ⟨rfl, rfl⟩ := hrel
    go_wp2
    go_ret
    exact ⟨rfl, rfl⟩
theorem deleteT_nil (gf : Nat) (cb : Array Value) (ad : Option Addr) (c : Nat) (w : World) :
    Calls Tryd.prog 33 #[.slice ad 0 c, .func (.func gf) #[] cb] w fun e w' => e = .returned (.slice ad 0 c) ∧ w' = w := by
  go_enter Tryd.func33, Tryd.ntmps33
  go_wp2_with fail
  refine (indexT_nil gf cb ad c _).mono ?_
  rintro e w1 ⟨rfl, rfl⟩
  go_wp2
  go_ret
  exact ⟨rfl, rfl⟩
end Go.Proofs.YtannijeiecmjpaaDoor
