/- slices.IndexFunc and slices.DeleteFunc over integers, by a function value that tells p of each; the row is the call's own. -/
import Derived.Test.YtannijeiecmjpaaDoorRows
import Derived.Test.YtannijeiecmjpaaDoorOwnSet
import Derived.Deep.RegionLaw
import Derived.Lib.SliceRun
namespace Go.Proofs.YtannijeiecmjpaaDoor
open Go.RowKit

theorem zeroInt : ∀ w, (zeroValue 3).run Tryd.prog w = .ok (.int .i64 0) w := fun w => by kernel_rfl
theorem rowIn : RowOf Tryd.prog 39 3 (.int .i64 0) 1 8 := rowOf Tryd.underlying39 (by kernel_rfl) rfl (by decide)
/-- What is asked of a question about one number of a row. -/
def AsksOk (gf : Nat) (cb : Array Value) (p : Int → Bool) (xs : List Int) (B : Nat) (w : World) : Prop :=
  ∀ w', Below B w w' → ∀ x ∈ xs, Calls Tryd.prog gf (#[.int .i64 x] ++ cb) w' fun e w'' => e = .returned (.bool (p x)) ∧ Below w'.heap.size w' w''
theorem AsksOk.at {gf : Nat} {cb : Array Value} {p : Int → Bool} {xs : List Int} {B : Nat} {w w' : World} (h : AsksOk gf cb p xs B w) (hb : Below B w w') : AsksOk gf cb p xs B w' :=
  fun w'' h2 => h w'' (hb.trans h2)
/-- The first one of whom p is told; -1. -/
def fstI (p : Int → Bool) (xs : List Int) : Int := if xs.findIdx p < xs.length then (xs.findIdx p : Int) else -1
theorem fst_here {p : Int → Bool} {xs : List Int} {k : Nat} (h : k < xs.length) (hn : ∀ j, j < k → p (xs.getD j 0) = false) (hp : p xs[k] = true) : xs.findIdx p = k := by
  refine (List.findIdx_eq h).2 ⟨hp, fun j hj => ?_⟩
  have := hn j hj
  rw [getD_lt (by omega)] at this
  exact this
theorem fst_none {p : Int → Bool} {xs : List Int} (hn : ∀ j, j < xs.length → p (xs.getD j 0) = false) : fstI p xs = -1 := by
  unfold fstI
  rw [if_neg]
  intro h
  have h1 := List.findIdx_getElem (w := h)
  have h2 := hn _ h
  rw [getD_lt h] at h2
  rw [h2] at h1; cases h1

set_option maxHeartbeats 1000000 in
theorem indexF_any (gf : Nat) (cb : Array Value) (p : Int → Bool) (a : Option Addr) (n cap B : Nat) (xs : List Int) (w : World) (eg : ∀ args w, (callFunc gf args).run Tryd.prog w = .ok (.enter gf args) w) (hp : AsksOk gf cb p xs B w)
    (hl : n = xs.length) (hn : xs.length ≤ 1000) (hB : B ≤ w.heap.size) (hx : Elems encI 1 w a xs) :
    Calls Tryd.prog 43 #[.slice a n cap, .func (.func gf) #[] cb] w fun e w' => e = .returned (.int .i64 (fstI p xs)) ∧ Below w.heap.size w w' := by
  subst hl
  have HP := Lib.hid hp
  have HB := Lib.hid hB
  clear hp hB
  go_enter Tryd.func43, Tryd.ntmps43
  go_wp2
  go_loopw [8] (fun i wr => ∃ k : Nat, k ≤ xs.length ∧ i = .int .i64 k ∧ Hid (∀ j, j < k → p (xs.getD j 0) = false) ∧ Below w.heap.size w wr) (fun i _ => xs.length - (intOf i).toNat)
  case atStart => exact ⟨0, by omega, rfl, Lib.hid (fun j hj => absurd hj (Nat.not_lt_zero _)), Below.refl _ _⟩
  case round =>
    obtain ⟨k, hk, rfl, HQ, hb⟩ := hrel
    by_cases hlt : k < xs.length
    · obtain ⟨b, o, rfl, hc⟩ := hx.some hlt
      have h1 := (hb.cell (lt_of_cell (hc k hlt 0 _ rfl))).trans (hc k hlt 0 _ rfl)
      simp only [Nat.add_zero, Nat.mul_one] at h1
      have HM := Lib.hid (List.getElem_mem hlt)
      have HG := Lib.hid (getD_lt hlt)
      clear hc hx
      by_cases hbad : p xs[k] = true
      · have HR : Hid (fstI p xs = (k : Int)) := Lib.hid (by have := fst_here hlt HQ.out hbad; unfold fstI; rw [this, if_pos hlt])
        have HT := Lib.hid hbad
        clear hbad
        go_wp2_with fail
        refine (HP.out _ (hb.mono HB.out) _ HM.out).mono ?_
        rintro e w1 ⟨rfl, hb1⟩
        rw [HT.out]
        go_wp2
        go_ret
        exact ⟨by rw [HR.out]; rfl, below_next hb hb1⟩
      · have HT : Hid (p xs[k] = false) := Lib.hid (by simpa using hbad)
        have HK : Hid (∀ j, j < k + 1 → p (xs.getD j 0) = false) := Lib.hid (fun j hj => by
          rcases Nat.lt_or_ge j k with h | h
          · exact HQ.out j h
          · obtain rfl : j = k := by omega
            rw [HG.out]; exact HT.out)
        clear hbad
        go_wp2_with fail
        refine (HP.out _ (hb.mono HB.out) _ HM.out).mono ?_
        rintro e w1 ⟨rfl, hb1⟩
        rw [HT.out]
        go_wp2
        exact ⟨⟨k + 1, by omega, by go_num, HK, below_next hb hb1⟩, by simp [intOf]; omega⟩
    · obtain rfl : k = xs.length := by omega
      have HR : Hid (fstI p xs = -1) := Lib.hid (fst_none HQ.out)
      clear hx HQ HP
      go_wp2
      go_ret
      exact ⟨by rw [HR.out]; rfl, hb⟩
/-! ### DeleteFunc -/
theorem elems_own {w : World} {base e g n cap : Nat} {xs : List Int} (h : w.ownsRow base e 1 (.slice (some ⟨g, 0, none⟩) n cap) n (xs.map (Value.int .i64))) (hn : n = xs.length) : Elems encI 1 w (some ⟨g, 0, none⟩) xs := by
  obtain ⟨a, c, h1, h2, _⟩ := ints_of_owns hn h
  obtain ⟨rfl, _, _⟩ := Value.slice.inj h1
  exact h2
theorem grown_of_below {w w' : World} (h : Below w.heap.size w w') (row : Option Nat) : w.grownBy w' row := by
  obtain ⟨h1, h2, h3, h4, h5⟩ := h
  exact ⟨h1, h2, h3, h4, fun i hi _ => h5 i hi⟩
/-- Of the first j those of whom p is not told lie ahead; from j on all is as it was. -/
def KeptI (p : Int → Bool) (xs R : List Int) (i j : Nat) : Prop := R.length = xs.length ∧ R.take i = (xs.take j).filter (fun x => !p x) ∧ (∀ t, j ≤ t → R[t]? = xs[t]?) ∧ i < j
theorem kept_start {p : Int → Bool} {xs : List Int} {i : Nat} (h : i < xs.length) (hn : ∀ j, j < i → p (xs.getD j 0) = false) (hp : p xs[i] = true) : KeptI p xs xs i (i + 1) := by
  refine ⟨rfl, ?_, fun _ _ => rfl, by omega⟩
  rw [List.take_succ_eq_append_getElem h, List.filter_append]
  simp only [List.filter_cons, hp]
  simp only [Bool.not_true, Bool.false_eq_true, if_false, List.filter_nil, List.append_nil]
  symm
  rw [List.filter_eq_self]
  intro x hx
  obtain ⟨k, hk, rfl⟩ := List.mem_iff_getElem.1 hx
  have hk2 : k < i := by simp at hk; omega
  have := hn k hk2
  rw [getD_lt (by omega)] at this
  simp [this]
theorem kept_get {p : Int → Bool} {xs R : List Int} {i j : Nat} (h : KeptI p xs R i j) (hj : j < xs.length) : ∃ hr : j < R.length, R[j] = xs[j] := by
  have hr : j < R.length := by rw [h.1]; exact hj
  refine ⟨hr, ?_⟩
  have := h.2.2.1 j (Nat.le_refl _)
  rw [List.getElem?_eq_getElem hr, List.getElem?_eq_getElem hj] at this
  exact Option.some.inj this
theorem kept_skip {p : Int → Bool} {xs R : List Int} {i j : Nat} (h : KeptI p xs R i j) (hj : j < xs.length) (hp : p xs[j] = true) : KeptI p xs R i (j + 1) := by
  refine ⟨h.1, ?_, fun t ht => h.2.2.1 t (by omega), by have := h.2.2.2; omega⟩
  rw [List.take_succ_eq_append_getElem hj, List.filter_append, h.2.1]
  simp [hp]
theorem kept_put {p : Int → Bool} {xs R : List Int} {i j : Nat} (h : KeptI p xs R i j) (hj : j < xs.length) (hp : p xs[j] = false) : KeptI p xs (R.set i xs[j]) (i + 1) (j + 1) := by
  have hi := h.2.2.2
  have hl := h.1
  refine ⟨by simp [hl], ?_, fun t ht => ?_, by omega⟩
  · rw [List.take_succ_eq_append_getElem hj, List.filter_append, ← h.2.1]
    have hir : i < (R.set i xs[j]).length := by simp; omega
    rw [List.take_succ_eq_append_getElem hir, List.take_set_of_le (Nat.le_refl _)]
    simp [hp]
  · rw [List.getElem?_set, if_neg (by omega)]
    exact h.2.2.1 t (by omega)
theorem setAll_take (r E : List Int) (i : Nat) (h : i + r.length ≤ E.length) : (setAll E i r).take i = E.take i := by
  refine List.ext_getElem? fun t => ?_
  rw [List.getElem?_take, List.getElem?_take]
  by_cases ht : t < i
  · rw [if_pos ht, if_pos ht, setAll_get _ _ _ _ h, if_neg (by omega)]
  · rw [if_neg ht, if_neg ht]

/-- What DeleteFunc leaves. -/
def DelPost (p : Int → Bool) (xs : List Int) (g cap base : Nat) (w : World) (e : Ending) (w' : World) : Prop :=
  e = .returned (.slice (some ⟨g, 0, none⟩) (xs.filter (fun x => !p x)).length cap) ∧ w'.ownsRow base 3 1 (.slice (some ⟨g, 0, none⟩) (xs.filter (fun x => !p x)).length cap) (xs.filter (fun x => !p x)).length ((xs.filter (fun x => !p x)).map (Value.int .i64)) ∧ w.grownBy w' (some g)
set_option maxRecDepth 100000 in
set_option maxHeartbeats 4000000 in
theorem deleteF_any (gf : Nat) (cb : Array Value) (p : Int → Bool) (g n cap base : Nat) (xs : List Int) (w : World) (eg : ∀ args w, (callFunc gf args).run Tryd.prog w = .ok (.enter gf args) w) (hp : AsksOk gf cb p xs base w)
    (hl : n = xs.length) (hn : xs.length ≤ 1000) (hcap : n ≤ cap) (hcm : cap ≤ maxLen) (hown : w.ownsRow base 3 1 (.slice (some ⟨g, 0, none⟩) n cap) n (xs.map (Value.int .i64))) :
    Calls Tryd.prog 33 #[.slice (some ⟨g, 0, none⟩) n cap, .func (.func gf) #[] cb] w (DelPost p xs g cap base w) := by
  subst hl
  unfold maxLen at hcm
  have hbg := owns_base hown
  have HI := Lib.hid (indexF_any gf cb p (some ⟨g, 0, none⟩) xs.length cap base xs w eg hp rfl hn (by omega) (elems_own hown rfl))
  have HP := Lib.hid hp
  have HO := Lib.hid hown
  by_cases hex : ∃ i, ∃ h : i < xs.length, p xs[i] = true ∧ ∀ j, j < i → p (xs.getD j 0) = false
  · obtain ⟨i0, hi0, hpi, hpj⟩ := hex
    have HF : Hid (fstI p xs = (i0 : Int)) := Lib.hid (by have := fst_here hi0 hpj hpi; unfold fstI; rw [this, if_pos hi0])
    have HK := Lib.hid (kept_start hi0 hpj hpi)
    have hd : ((i0 : Int) == -1) = false := by simp
    clear hpi hpj hown hp
    go_enter Tryd.func33, Tryd.ntmps33
    go_wp2_with fail
    refine HI.out.mono ?_
    rintro e w1 ⟨rfl, hb1⟩
    rw [HF.out]
    have hown1 := owns_at HO.out hb1
    have hg1 := grown_of_below hb1 (some g)
    clear HI HF
    go_wp2
    go_loopw [5, 6] (fun iv jv wr => ∃ i j : Nat, j ≤ xs.length ∧ iv = .int .i64 i ∧ jv = .int .i64 j ∧ ∃ R, Hid (KeptI p xs R i j) ∧ wr.ownsRow base 3 1 (.slice (some ⟨g, 0, none⟩) xs.length cap) xs.length (R.map (Value.int .i64)) ∧ w.grownBy wr (some g)) (fun _ jv _ => xs.length - (intOf jv).toNat)
    case atStart => exact ⟨i0, i0 + 1, by omega, rfl, by go_num, xs, HK, hown1, hg1⟩
    case round =>
      clear hown1 hg1 HK hi0 hd
      obtain ⟨i, j, hj, rfl, rfl, R, HK, hR, hg⟩ := hrel
      have hij := HK.out.2.2.2
      by_cases hlt : j < xs.length
      · obtain ⟨hr, hrj⟩ := kept_get HK.out hlt
        have c1 := owns_get hR j hlt hr
        rw [hrj] at c1
        have HM := Lib.hid (List.getElem_mem hlt)
        have hbw : Below base w wr := grown_below HO.out (by omega) hg
        have hri : i < R.length := by omega
        have c2 := owns_get hR i (by omega) hri
        have f2 := hR.frozenAt i
        have hbW := hbg.2
        have HG := Lib.hid hg
        have HR0 := Lib.hid hR
        clear hrj hg hR
        cases hpx : p xs[j] with
        | true =>
          have HN := Lib.hid (kept_skip HK.out hlt hpx)
          have HT := Lib.hid hpx
          clear hpx
          go_wp2_with fail
          refine (HP.out _ hbw _ HM.out).mono ?_
          rintro e w2 ⟨rfl, hb2⟩
          rw [HT.out]
          go_wp2
          exact ⟨⟨i, j + 1, by omega, rfl, by go_num, R, HN, owns_at HR0.out hb2, grown_trans HG.out (grown_of_below hb2 _)⟩, by simp [intOf]; omega⟩
        | false =>
          have HN := Lib.hid (kept_put HK.out hlt hpx)
          have HT := Lib.hid hpx
          clear hpx
          go_wp2_with fail
          refine (HP.out _ hbw _ HM.out).mono ?_
          rintro e w2 ⟨rfl, hb2⟩
          rw [HT.out]
          have c3 := (hb2.cell (lt_of_cell c2)).trans c2
          have hR2 := owns_at HR0.out hb2
          have f3 := hR2.frozenAt i
          have hR3 := owns_set hR2 i xs[j]
          have hg3 : Hid (w.grownBy (w2.setCell ⟨g, i, none⟩ (.int .i64 xs[j])) (some g)) := Lib.hid (grown_trans (grown_trans HG.out (grown_of_below hb2 _)) (grown_setCells g [.int .i64 xs[j]] w2 i))
          clear hR2 f2 c2 hbw
          go_wp2
          exact ⟨⟨i + 1, j + 1, by omega, by go_num, by go_num, R.set i xs[j], HN, hR3, hg3.out⟩, by simp [intOf]; omega⟩
      · obtain rfl : j = xs.length := by omega
        have HRL := Lib.hid HK.out.1
        have HFR : Hid (R.take i = xs.filter (fun x => !p x)) := Lib.hid (by have := HK.out.2.1; rwa [List.take_length] at this)
        have hic : i ≤ cap := by omega
        have hcl : ∀ ty, (Builtin.clear_ #[39] ty #[.slice (some ⟨g, i, none⟩) (xs.length - i) (cap - i)]).run Tryd.prog wr = .ok (.tuple #[]) (wr.setCells g i (List.replicate (xs.length - i) (.int .i64 0))) :=
          fun ty => Lib.run_clear_slice wr _ _ ty _ Tryd.underlying39 zeroInt rfl rfl g i _ _ (by omega)
            (fun t ht => by rw [owns_get hR (i + t) (by omega) (by rw [HRL.out]; omega)]; rfl) (fun t _ => hR.frozenAt _)
        have HR0 := Lib.hid hR
        have HG := Lib.hid hg
        have hz : ¬ cap = i := by omega
        clear hR hg
        go_wp2
        go_ret
        have hfl : (xs.filter (fun x => !p x)).length = i := by rw [← HFR.out, List.length_take, HRL.out]; omega
        have h2 := owns_shrink (owns_setAll (List.replicate (xs.length - i) 0) i HR0.out) (m := i) (by omega)
        rw [← List.map_take, setAll_take _ _ _ (by rw [List.length_replicate, HRL.out]; omega), HFR.out, List.map_replicate] at h2
        unfold DelPost
        rw [hfl]
        exact ⟨rfl, h2, grown_trans HG.out (grown_setCells g _ _ _)⟩
  · have hno : ∀ j, j < xs.length → p (xs.getD j 0) = false := by
      intro j
      induction j using Nat.strongRecOn with
      | ind j ih =>
        intro hj
        cases hc : p (xs.getD j 0) with
        | false => rfl
        | true => exact absurd ⟨j, hj, by rw [getD_lt hj] at hc; exact hc, fun t ht => ih t ht (by omega)⟩ hex
    have HF : Hid (fstI p xs = -1) := Lib.hid (fst_none hno)
    have HE : Hid (xs.filter (fun x => !p x) = xs) := Lib.hid (by
      rw [List.filter_eq_self]
      intro x hx
      obtain ⟨k, hk, rfl⟩ := List.mem_iff_getElem.1 hx
      have := hno k hk
      rw [getD_lt hk] at this
      simp [this])
    clear hex hno hown hp
    go_enter Tryd.func33, Tryd.ntmps33
    go_wp2_with fail
    refine HI.out.mono ?_
    rintro e w1 ⟨rfl, hb1⟩
    rw [HF.out]
    have hown1 := owns_at HO.out hb1
    clear HI
    go_wp2
    go_ret
    unfold DelPost
    rw [HE.out]
    exact ⟨rfl, hown1, grown_of_below hb1 _⟩
end Go.Proofs.YtannijeiecmjpaaDoor
