/- path.Run: what one server does, piece by piece. -/
import Derived.Test.YtannijeiecmjpaaDoorRunS
import Derived.Test.YtannijeiecmjpaaDoorPathChk
import Derived.Test.YtannijeiecmjpaaDoorTabN
import Derived.Deep.DeepCutAuto
import Derived.Deep.CutBlock
namespace Go.Proofs.YtannijeiecmjpaaDoor
open Go.RowKit

theorem rowPc : RowOf Tryd.prog 27 36 (.agg #[.int .i64 0, .int .i64 0, .int .i64 0]) 3 24 := rowOf Tryd.underlying27 (by kernel_rfl) rfl (by decide)
def runErr (xs : List R3) (rule : Int) : Int := if jobsCheck xs ≠ 0 then jobsCheck xs else if rule < 1 ∨ 6 < rule then 1 else 0
/-- What path.Run answers. -/
def RunPost (xs : List R3) (rule : Int) (w : World) (e : Ending) (w' : World) : Prop :=
  Below w.heap.size w w' ∧ ((runErr xs rule ≠ 0 ∧ e = .returned (.tuple #[.slice none 0 0, errV (runErr xs rule)])) ∨
    (runErr xs rule = 0 ∧ ∃ now on left out a cap, ReachR xs rule (now, on, left, out) ∧ stepR xs rule (now, on, left, out) = none ∧ e = .returned (.tuple #[.slice a out.length cap, .nilIface]) ∧ Elems enc3 3 w' a out))
theorem two_boxes (w : World) (u v : Value) (t s : TypeId) : Below w.heap.size w ((w.alloc (.cells #[u] t)).alloc (.cells #[v] s)) ∧ ((w.alloc (.cells #[u] t)).alloc (.cells #[v] s)).cell? ⟨w.heap.size, 0, none⟩ = some u ∧ ((w.alloc (.cells #[u] t)).alloc (.cells #[v] s)).cell? ⟨w.heap.size + 1, 0, none⟩ = some v ∧ ((w.alloc (.cells #[u] t)).alloc (.cells #[v] s)).heap.size = w.heap.size + 2 := by
  refine ⟨((Below.refl _ _).alloc (Nat.le_refl _) _).alloc (by simp) _, cell_a1 (by simp) _, ?_, by simp⟩
  have h : (w.alloc (.cells #[u] t)).heap.size = w.heap.size + 1 := by simp
  rw [← h]
  simp

/-- The memory when the rounds begin. -/
theorem run_start {w wr : World} {a : Option Addr} {n cap g Bf : Nat} {rule : Int} {left : List Int} {t : TypeId} (c1 : wr.cell? ⟨w.heap.size, 0, none⟩ = some (.slice a n cap)) (c2 : wr.cell? ⟨w.heap.size + 1, 0, none⟩ = some (.int .i64 rule)) (c3 : wr.cell? ⟨Bf, 0, none⟩ = some (.slice (some ⟨g, 0, none⟩) n n))
    (hown : wr.ownsRow (w.heap.size + 2) 3 1 (.slice (some ⟨g, 0, none⟩) n n) n (left.map (Value.int .i64))) (hb : Below w.heap.size w wr) (v : Int) :
    RunAt w a n cap rule g Bf wr.heap.size (wr.heap.size + 1) (wr.alloc (.cells #[.int .i64 v] t)) v left (.slice none 0 0) [] (.slice none 0 0) [] := by
  refine ⟨⟨cell_a1 c1 _, cell_a1 c2 _, cell_a1 c3 _⟩, ⟨by simp, ?_⟩, hown.alloc _, World.ownsRow_nil _ _ _ _, World.ownsRow_nil _ _ _ _, fun b h => by simp [Value.ownBlock] at h, hb.alloc hb.size _, by simp⟩
  unfold World.frozen? World.alloc
  simp only [Array.getElem?_push_size]
  rfl
theorem row_form {w : World} {base e size n : Nat} {v : Value} {xs : List Value} (h : w.ownsRow base e size v n xs) : ∃ ad cap, v = .slice ad n cap := by
  rcases h.2 with ⟨h1, h2⟩ | ⟨g, cap, cur, h1, _⟩
  · exact ⟨none, 0, by rw [h1, h2]⟩
  · exact ⟨_, _, h1⟩
theorem row_some {w : World} {base e size n : Nat} {v : Value} {xs : List Value} (h : w.ownsRow base e size v n xs) (h0 : 0 < n) : ∃ g cap, v = .slice (some ⟨g, 0, none⟩) n cap ∧ n ≤ cap ∧ cap ≤ maxLen := by
  rcases h.2 with ⟨h1, h2⟩ | ⟨g, cap, cur, h1, _, _, h2, h3, _⟩
  · omega
  · exact ⟨g, cap, h1, h2, h3⟩
theorem head_facts {xs : List R3} {rule now : Int} {next : Nat} {wait : List Nat} {left : List Int} {out : List R3} (hx : jobsCheck xs = 0) (h : HeadR xs rule now next wait left out) :
    0 ≤ now ∧ now ≤ 61000000000 ∧ left.length = xs.length ∧ (∀ i, 0 ≤ lf left i ∧ lf left i ≤ 1000000000 ∧ now + lf left i ≤ 61000000000) ∧ (out.length : Int) ≤ now ∧ wait.length ≤ next ∧ next ≤ xs.length ∧ (∀ i ∈ wait, i < next) := by
  obtain ⟨on, h1, h2, h3, h4, h5, h6⟩ := h
  obtain ⟨g1, g2, g3, g4, g5, _⟩ := reach_good hx h1
  have hs := sum_le left g3
  refine ⟨g1, by simp only at g4; omega, g2, fun i => ⟨(g3 i).1, (g3 i).2, ?_⟩, g5, ?_, h3, fun i hi => ?_⟩
  · have := lf_le_sum left g3 i
    simp only at g4; omega
  · rw [h4]
    have := List.length_filter_le (fun i => decide (0 < lf left i)) (List.range next)
    simpa using this
  · rw [h4] at hi
    have := (List.mem_filter.1 hi).1
    simpa using this
theorem row3_get {w : World} {base e g n cap : Nat} {out : List R3} (h : w.ownsRow base e 3 (.slice (some ⟨g, 0, none⟩) n cap) n (out.flatMap enc3)) (hn : n = out.length) (q : Nat) (hq : q < out.length) :
    w.cell? ⟨g, q * 3, none⟩ = some (.int .i64 out[q].1) ∧ w.cell? ⟨g, q * 3 + 2, none⟩ = some (.int .i64 out[q].2.2) := by
  obtain ⟨a, c, h1, h2, _⟩ := elems_of_owns (enc := enc3) (fun _ => rfl) hn h
  obtain ⟨rfl, _, _⟩ := Value.slice.inj h1
  obtain ⟨b, o, hbo, hc⟩ := h2.some hq
  obtain ⟨rfl, rfl⟩ : g = b ∧ 0 = o := by simpa using hbo
  have c1 := hc q hq 0 _ rfl
  have c2 := hc q hq 2 _ rfl
  simp only [Nat.zero_add, Nat.add_zero] at c1 c2
  exact ⟨c1, c2⟩
theorem nats_mem {wait : List Nat} {x : Int} (h : x ∈ natsI wait) : ∃ i ∈ wait, x = (i : Int) := by
  obtain ⟨i, hi, rfl⟩ := List.mem_map.1 h
  exact ⟨i, hi, rfl⟩
theorem nats_del (wait : List Nat) (b : Nat) : (natsI wait).filter (fun x => !(x == (b : Int))) = natsI (wait.filter (fun i => decide (i ≠ b))) := by
  unfold natsI
  rw [List.filter_map]
  congr 1
  apply List.filter_congr
  intro i _
  simp [Function.comp]
  by_cases h : i = b <;> simp [h]
  omega
/-- What is left at first, of the first k. -/
def leftTo (xs : List R3) (k : Nat) : List Int := (xs.take k).map (·.2.1) ++ List.replicate (xs.length - k) 0
theorem leftTo_set (xs : List R3) (k : Nat) (h : k < xs.length) : (leftTo xs k).set k xs[k].2.1 = leftTo xs (k + 1) := by
  unfold leftTo
  rw [List.set_append_right _ _ (by simp; omega), List.take_succ_eq_append_getElem h, List.map_append, List.append_assoc]
  congr 1
  have e : xs.length - k = (xs.length - (k + 1)) + 1 := by omega
  rw [e, List.replicate_succ]
  simp [show min k xs.length = k by omega]
theorem leftTo_all (xs : List R3) : leftTo xs xs.length = xs.map (·.2.1) := by simp [leftTo]
theorem leftTo_len (xs : List R3) (k : Nat) (h : k ≤ xs.length) : (leftTo xs k).length = xs.length := by simp [leftTo]; omega
set_option maxRecDepth 100000 in
set_option maxHeartbeats 16000000 in
theorem run_any (a : Option Addr) (n cap : Nat) (rule : Int) (xs : List R3) (w : World) (hl : n = xs.length) (hn : xs.length ≤ 100) (hx : Elems enc3 3 w a xs) :
    Calls Tryd.prog 9 #[.slice a n cap, .int .i64 rule] w (RunPost xs rule w) := by
  have HCK : ∀ w', Below w.heap.size w w' → Calls Tryd.prog 27 #[.slice a n cap] w' fun e w'' => e = .returned (errV (jobsCheck xs)) ∧ Below w'.heap.size w' w'' := fun w' hb => check_any a n cap xs w' hl (by unfold maxLen; omega) (hx.at hb)
  obtain ⟨hb0, d1, d2, d3⟩ := two_boxes w (.slice a n cap) (.int .i64 rule) 22 3
  have HD := Lib.hid (And.intro d1 d2)
  have H0 := Lib.hid (HCK _ hb0)
  by_cases hC : jobsCheck xs = 0
  case neg =>
    have hE : runErr xs rule = jobsCheck xs := if_pos hC
    have HE := Lib.hid hE
    have HN := Lib.hid hC
    have HV := Lib.hid (show errV (jobsCheck xs) = .iface 25 (.int .i64 (jobsCheck xs)) from if_neg hC)
    clear hC hE HCK hl d1 d2
    go_enter Tryd.func9, Tryd.ntmps9
    go_wp2_with fail
    refine H0.out.mono ?_
    rintro e w1 ⟨rfl, hb1⟩
    rw [HV.out]
    go_wp2
    go_ret2
    exact ⟨hb0.trans (hb1.mono hb0.size), Or.inl ⟨by rw [HE.out]; exact HN.out, by rw [HE.out, HV.out]; rfl⟩⟩
  have hV : errV (jobsCheck xs) = .nilIface := if_pos hC
  by_cases hS : rule < 1 ∨ 6 < rule
  case pos =>
    have hE : runErr xs rule = 1 := by unfold runErr; rw [if_neg (by simp [hC]), if_pos hS]
    have HV := Lib.hid hV
    have HE := Lib.hid hE
    clear hC hV hE HCK hl d1 d2
    have hS2 : rule < 1 ∨ ¬ rule < 1 ∧ 6 < rule := by omega
    clear hS
    rcases hS2 with hS | ⟨hS, hS2⟩
    all_goals
      go_enter Tryd.func9, Tryd.ntmps9
      go_wp2_with fail
      refine H0.out.mono ?_
      rintro e w1 ⟨rfl, hb1⟩
      rw [HV.out]
      have c2 := (hb1.cell (lt_of_cell HD.out.2)).trans HD.out.2
      go_wp2
      go_ret2
      exact ⟨hb0.trans (hb1.mono hb0.size), Or.inl ⟨by rw [HE.out]; decide, by rw [HE.out]; rfl⟩⟩
  have hE : runErr xs rule = 0 := by unfold runErr; rw [if_neg (by simp [hC]), if_neg hS]
  have hr1 : ¬ rule < 1 := by omega
  have hr6 : ¬ 6 < rule := by omega
  have hlen := jobs_ok_len hC
  have HC := Lib.hid hC
  have HX := Lib.hid hx
  have HV := Lib.hid hV
  have HE := Lib.hid hE
  have HL := Lib.hid hl
  have hn60 : n ≤ 60 := by omega
  clear hC hV hE HCK hS hl hlen hn hx d1 d2
  go_enter Tryd.func9, Tryd.ntmps9
  go_wp2_with fail
  refine H0.out.mono ?_
  rintro e w1 ⟨rfl, hb1⟩
  rw [HV.out]
  have c1 := (hb1.cell (lt_of_cell HD.out.1)).trans HD.out.1
  have c2 := (hb1.cell (lt_of_cell HD.out.2)).trans HD.out.2
  have HB1 : Hid (Below w.heap.size w w1) := Lib.hid (hb0.trans (hb1.mono hb0.size))
  have hs1 : w.heap.size + 2 ≤ w1.heap.size := by rw [← d3]; exact hb1.size
  clear H0 HV HD hb0 hb1 d3
  obtain ⟨Z, hmk, hrow⟩ := made_row rowIn n (n : Int) rfl (by omega) (by unfold maxLen; omega)
  have k1 := fun o o2 => cell_a2 c1 o o2
  have k2 := fun o o2 => cell_a2 c2 o o2
  have hr0 : ∀ o, ((w1.alloc (.cells Z 3)).alloc o).ownsRow (w.heap.size + 2) 3 1 (.slice (some ⟨w1.heap.size, 0, none⟩) n n) n ((leftTo xs 0).map (Value.int .i64)) := fun o => by
    have h1 := hrow w1 _ hs1
    rw [show (madeCells (Value.int IntKind.i64 0).cells (n * 1)).toList = (madeCells #[Value.int .i64 0] n).toList by simp [Value.cells], made_ints] at h1
    have e : leftTo xs 0 = List.replicate n 0 := by simp [leftTo, HL.out]
    rw [e]; exact h1.alloc o
  have HR0 := Lib.hid hr0
  have HB2 : ∀ o, Hid (Below w.heap.size w ((w1.alloc (.cells Z 3)).alloc o)) := fun o => Lib.hid ((HB1.out.alloc HB1.out.size _).alloc (Nat.le_trans HB1.out.size (by simp)) _)
  have hz : w1.heap.size + 2 ≤ w1.heap.size + 2 := Nat.le_refl _
  have hcf : ∀ v, ((w1.alloc (.cells Z 3)).alloc (.cells #[v] 39)).cell? ⟨w1.heap.size + 1, 0, none⟩ = some v := fun v => by
    have h : (w1.alloc (.cells Z 3)).heap.size = w1.heap.size + 1 := by simp
    rw [← h]
    simp
  clear hrow hr0
  go_wp2
  go_loopw [34] (fun iv wr => ∃ k : Nat, k ≤ n ∧ iv = .int .i64 k ∧ wr.cell? ⟨w.heap.size, 0, none⟩ = some (.slice a n cap) ∧ wr.cell? ⟨w.heap.size + 1, 0, none⟩ = some (.int .i64 rule) ∧ wr.cell? ⟨w1.heap.size + 1, 0, none⟩ = some (.slice (some ⟨w1.heap.size, 0, none⟩) n n) ∧
    wr.ownsRow (w.heap.size + 2) 3 1 (.slice (some ⟨w1.heap.size, 0, none⟩) n n) n ((leftTo xs k).map (Value.int .i64)) ∧ Below w.heap.size w wr ∧ w1.heap.size + 2 ≤ wr.heap.size) (fun iv _ => n - (intOf iv).toNat)
  case atStart => exact ⟨0, by omega, rfl, k1 _ _, k2 _ _, hcf _, HR0.out _, (HB2 _).out, by simp⟩
  case round =>
    clear k1 k2 hcf HR0 HB2 hmk c1 c2
    obtain ⟨k, hk, rfl, c1, c2, c3, hown, hb, hsz⟩ := hrel
    by_cases hlt : k < n
    · have hlx : k < xs.length := by rw [← HL.out]; exact hlt
      obtain ⟨b, o, rfl, hc⟩ := (HX.out.at hb).some hlx
      have q1 := hc k hlx 0 _ rfl
      have q2 := hc k hlx 1 _ rfl
      have q3 := hc k hlx 2 _ rfl
      simp only [Nat.add_zero] at q1
      have HS := Lib.hid (leftTo_set xs k hlx)
      have HLL := Lib.hid (leftTo_len xs k (by omega))
      have hkl : k < (leftTo xs k).length := by rw [HLL.out]; exact hlx
      generalize xs[k] = x at *
      have p1 := fun o => cell_a1 (owns_get hown k hlt hkl) o
      have p2 : ∀ o, (wr.alloc o).frozen? ⟨w1.heap.size, k, none⟩ = false := fun o => frozen_a1 (owns_base hown).2 (hown.frozenAt k) o
      have p3 := fun o => cell_a1 c3 o
      have HRo : Hid (∀ o, ((wr.alloc o).setCell ⟨w1.heap.size, k, none⟩ (.int .i64 x.2.1)).ownsRow (w.heap.size + 2) 3 1 (.slice (some ⟨w1.heap.size, 0, none⟩) n n) n ((leftTo xs (k + 1)).map (Value.int .i64))) := Lib.hid (fun o => by rw [← HS.out]; exact owns_set (hown.alloc o) k _)
      have HG : Hid (∀ o, (wr.alloc o).grownBy ((wr.alloc o).setCell ⟨w1.heap.size, k, none⟩ (.int .i64 x.2.1)) (some w1.heap.size)) := Lib.hid (fun o => grown_setCells _ [.int .i64 x.2.1] _ _)
      have HB := Lib.hid hb
      have HC3 := Lib.hid (And.intro c1 (And.intro c2 c3))
      have hw1b : w.heap.size ≤ w1.heap.size := by omega
      clear hc hown hb c3
      have hgg : ∀ o, Hid (wr.grownBy ((wr.alloc o).setCell ⟨w1.heap.size, k, none⟩ (.int .i64 x.2.1)) (some w1.heap.size)) := fun o => Lib.hid (grown_trans (World.grownBy_alloc wr _ _) (HG.out o))
      go_wp2
      exact ⟨⟨k + 1, by omega, by go_num, grown_cell (hgg _).out HC3.out.1 (by simp; omega), grown_cell (hgg _).out HC3.out.2.1 (by simp; omega), grown_cell (hgg _).out HC3.out.2.2 (by simp), HRo.out _, (HB.out.alloc HB.out.size _).setCell hw1b _, by simp; omega⟩, by simp [intOf]; omega⟩
    · obtain rfl : k = n := by omega
      have HOW : Hid (wr.ownsRow (w.heap.size + 2) 3 1 (.slice (some ⟨w1.heap.size, 0, none⟩) k k) k ((xs.map (·.2.1)).map (Value.int .i64))) := Lib.hid (by rw [HL.out, leftTo_all] at hown; rw [HL.out]; exact hown)
      have HST := fun v t => Lib.hid (run_start (w := w) (wr := wr) (t := t) c1 c2 c3 HOW.out hb v)
      have HLY : Hid (BoxesAt w.heap.size w1.heap.size (w1.heap.size + 1) wr.heap.size (wr.heap.size + 1)) := Lib.hid ⟨hs1, by omega, by omega, by omega⟩
      clear hown HOW c1 c2 c3 hb
      obtain ⟨ws, hws⟩ : ∃ ws, ws = wr := ⟨_, rfl⟩
      subst hws
      go_wp2
      have HZ := (HST (-1) 3)
      clear HST
      go_loopw [10, 11, 12, 14] (fun ov nv xv wv wr => ∃ (now : Int) (next : Nat) (on : Int) (left : List Int) (out : List R3) (wait : List Nat), nv = .int .i64 now ∧ xv = .int .i64 next ∧ RunAt w a k cap rule w1.heap.size (w1.heap.size + 1) ws.heap.size (ws.heap.size + 1) wr on left ov out wv wait ∧
        Hid (HeadR xs rule now next wait left out) ∧ (on = -1 ∨ 5 ≤ rule)) (fun _ nv _ _ _ => (61000000001 - intOf nv).toNat)
      case atStart => exact ⟨0, 0, -1, _, [], [], rfl, rfl, HZ.out, Lib.hid (head_zero HC.out), Or.inl rfl⟩
      case round =>
        clear HZ hlt hk
        obtain ⟨now, next, on, left, out, wait, rfl, rfl, H, HH, hon⟩ := hrel
        obtain ⟨f1, f2, f3, f4, f5, f6, f7, f8⟩ := head_facts HC.out HH.out
        obtain ⟨ao, co, hov⟩ := row_form H.2.2.2.1
        obtain ⟨aw, cw, hwv⟩ := row_form H.2.2.2.2.1
        obtain ⟨m, hm⟩ : ∃ m, m = wait.length := ⟨_, rfl⟩
        obtain ⟨mo, hmo⟩ : ∃ mo, mo = out.length := ⟨_, rfl⟩
        rw [← hm] at hwv
        rw [← hmo] at hov
        subst hov
        subst hwv
        have hnk : next ≤ k := by rw [HL.out]; exact f7
        have hmn : m ≤ next := by rw [hm]; exact f6
        have hmo9 : (mo : Int) ≤ 61000000000 := by rw [hmo]; omega
        have HF := Lib.hid (And.intro f3 f4)
        have HM := Lib.hid hm
        have HMO := Lib.hid hmo
        have cl := H.1.1
        have HR := Lib.hid H
        clear H f3 f4 f5 f6 f7 f8 hm hmo
        go_upto_region 15 with (fail)
        go_cut [53] (fun v wx => v = .bool (decide (next < k ∨ 0 < m)) ∧ wr = wx)
        case first =>
          by_cases x1 : next < k
          · go_wp2
            go_meet
            case rel => exact ⟨by simp [x1], rfl⟩
          · have x2 : ¬ (next : Int) < (k : Int) := by omega
            go_wp2
            go_meet
            case rel => exact ⟨by simp [x1], rfl⟩
        case rest =>
          obtain ⟨rfl, rfl⟩ := hcut
          by_cases hgo : next < k ∨ 0 < m
          case neg =>
            have hm0 : wait = [] := List.length_eq_zero_iff.1 (by rw [← HM.out]; omega)
            have hend : ∃ on', ReachR xs rule (now, on', left, out) ∧ stepR xs rule (now, on', left, out) = none := by
              have h := HH.out
              rw [hm0, show next = xs.length by rw [← HL.out]; omega] at h
              exact head_none HC.out h
            have HEN := Lib.hid hend
            have HEL : Hid (∃ a' c', (Value.slice ao mo co) = .slice a' out.length c' ∧ Elems enc3 3 wr a' out) := Lib.hid (by
              obtain ⟨a', c', h1, h2, _⟩ := elems_of_owns (enc := enc3) (fun _ => rfl) rfl HR.out.2.2.2.1
              exact ⟨a', c', h1, h2⟩)
            have HBW := Lib.hid HR.out.2.2.2.2.2.2.1
            have hd : decide (next < k ∨ 0 < m) = false := by simp; omega
            clear hm0 hend HR
            go_wp2
            go_ret2
            obtain ⟨on', h1, h2⟩ := HEN.out
            obtain ⟨a', c', h3, h4⟩ := HEL.out
            exact ⟨HBW.out, Or.inr ⟨HE.out, now, on', left, out, a', c', h1, h2, by rw [← h3]; rfl, h4⟩⟩
          case pos =>
            have hd : decide (next < k ∨ 0 < m) = true := by simp; omega
            go_upto_if 56 with (fail)
            go_cut [11] (fun nv wx => ∃ now', nv = .int .i64 now' ∧ wr = wx ∧ Hid (HeadR xs rule now' next wait left out) ∧ now ≤ now' ∧ (m = 0 → next < k ∧ atOf xs next ≤ now'))
            case first =>
              by_cases hm0 : m = 0
              · have hnx : next < k := by omega
                have hlx : next < xs.length := by rw [← HL.out]; exact hnx
                obtain ⟨b, o, haE, hc⟩ := (HX.out.at HR.out.2.2.2.2.2.2.1).some hlx
                have q1 := hc next hlx 0 _ rfl
                simp only [Nat.add_zero] at q1
                have hat : atOf xs next = xs[next].1 := by simp [atOf, List.getD_eq_getElem?_getD, hlx]
                have HID : Hid (HeadR xs rule (if now < atOf xs next then atOf xs next else now) next wait left out) := Lib.hid (by
                  have h := HH.out
                  have hw0 : wait = [] := List.length_eq_zero_iff.1 (by rw [← HM.out]; exact hm0)
                  subst hw0
                  exact head_idle HC.out h hlx)
                rw [← hat] at q1
                generalize atOf xs next = t at *
                have hd0 : ((m : Int) == 0) = true := by simp [hm0]
                subst haE
                clear hc hat hm0
                rcases Int.lt_trichotomy now t with h1 | h1 | h1
                · rw [if_pos h1] at HID
                  go_wp2
                  go_meet
                  case rel => exact ⟨t, rfl, rfl, HID, by omega, fun _ => ⟨hnx, by omega⟩⟩
                · rw [if_neg (by omega)] at HID
                  have g1 : ¬ now < t := by omega
                  have g2 : ¬ t < now := by omega
                  have HT := Lib.hid h1
                  clear h1
                  go_wp2
                  go_meet
                  case rel => first | exact ⟨now, rfl, rfl, HID, by omega, fun _ => ⟨hnx, by omega⟩⟩ | exact ⟨now, by rw [HT.out], rfl, HID, by omega, fun _ => ⟨hnx, by omega⟩⟩
                · rw [if_neg (by omega)] at HID
                  have g1 : ¬ now < t := by omega
                  go_wp2
                  go_meet
                  case rel => exact ⟨now, rfl, rfl, HID, by omega, fun _ => ⟨hnx, by omega⟩⟩
              · have hd0 : ((m : Int) == 0) = false := beq_eq_false_iff_ne.2 (by omega)
                go_wp2
                go_meet
                case rel => exact ⟨now, rfl, rfl, HH, by omega, fun h => absurd h hm0⟩
            case rest =>
              obtain ⟨now', rfl, rfl, HH1, hnn, hm0⟩ := hcut
              clear hd hgo cl
              go_upto_block 4 with (fail)
              go_cut [12, 14] (fun xv wv wx => ∃ (nx : Nat) (wt : List Nat), nx ≤ k ∧ xv = .int .i64 nx ∧ RunAt w a k cap rule w1.heap.size (w1.heap.size + 1) ws.heap.size (ws.heap.size + 1) wx on left (.slice ao mo co) out wv wt ∧ Hid (HeadR xs rule now' nx wt left out) ∧ Hid (wt ≠ []) ∧ Hid (nx < xs.length → now' < atOf xs nx))
              case first =>
                go_wp2
                go_loopw [12, 14] (fun xv wv wr => ∃ (nx : Nat) (wt : List Nat), nx ≤ k ∧ xv = .int .i64 nx ∧ RunAt w a k cap rule w1.heap.size (w1.heap.size + 1) ws.heap.size (ws.heap.size + 1) wr on left (.slice ao mo co) out wv wt ∧ Hid (HeadR xs rule now' nx wt left out) ∧ Hid (wt ≠ [] ∨ nx < k ∧ atOf xs nx ≤ now')) (fun xv _ _ => k - (intOf xv).toNat)
                case atStart => exact ⟨next, wait, hnk, rfl, HR.out, HH1, Lib.hid (by
                  by_cases h0 : m = 0
                  · exact Or.inr (hm0 h0)
                  · exact Or.inl (fun h => h0 (by rw [HM.out, h]; rfl)))⟩
                case round =>
                  clear HR HH1 HH HM hm0
                  obtain ⟨nx, wt, hnx, rfl, H, HH, HW⟩ := hrel
                  obtain ⟨f1, f2, f3, f4, f5, f6, f7, f8⟩ := head_facts HC.out HH.out
                  obtain ⟨aw2, cw2, hwv⟩ := row_form H.2.2.2.2.1
                  obtain ⟨m2, hm2⟩ : ∃ m2, m2 = wt.length := ⟨_, rfl⟩
                  rw [← hm2] at hwv
                  subst hwv
                  have hm2n : m2 ≤ nx := by rw [hm2]; exact f6
                  have HM2 := Lib.hid hm2
                  have cl := H.1.1
                  have HF2 := Lib.hid (And.intro f3 (And.intro f4 f8))
                  have HR := Lib.hid H
                  clear H hm2 f3 f4 f5 f6 f7 f8 HF hnn f1 f2
                  go_upto_region 18 with (fail)
                  go_cut [76] (fun v wx => ∃ bb : Bool, v = .bool bb ∧ wr = wx ∧ Hid (bb = true ↔ nx < k ∧ atOf xs nx ≤ now'))
                  case first =>
                    by_cases x1 : nx < k
                    · have hlx : nx < xs.length := by rw [← HL.out]; exact x1
                      obtain ⟨b, o, haE, hc⟩ := (HX.out.at HR.out.2.2.2.2.2.2.1).some hlx
                      have q1 := hc nx hlx 0 _ rfl
                      simp only [Nat.add_zero] at q1
                      have hat : atOf xs nx = xs[nx].1 := by simp [atOf, List.getD_eq_getElem?_getD, hlx]
                      rw [← hat] at q1
                      obtain ⟨t, ht⟩ : ∃ t, t = atOf xs nx := ⟨_, rfl⟩
                      have HA := Lib.hid ht
                      rw [← ht] at q1
                      subst haE
                      clear hc hat ht
                      by_cases x2 : t ≤ now'
                      · have hd : decide (t ≤ now') = true := by simp [x2]
                        go_wp2
                        go_meet
                        case rel => exact ⟨true, rfl, rfl, Lib.hid ⟨fun _ => ⟨x1, by rw [← HA.out]; exact x2⟩, fun _ => rfl⟩⟩
                      · have hd : decide (t ≤ now') = false := by simp; omega
                        go_wp2
                        go_meet
                        case rel => exact ⟨false, rfl, rfl, Lib.hid ⟨(fun h => nomatch h), fun h => by have h3 := h.2; rw [← HA.out] at h3; omega⟩⟩
                    · have x2 : ¬ (nx : Int) < (k : Int) := by omega
                      go_wp2
                      go_meet
                      case rel => exact ⟨false, rfl, rfl, Lib.hid ⟨(fun h => nomatch h), fun h => absurd h.1 x1⟩⟩
                  case rest =>
                    obtain ⟨bb, rfl, rfl, HBB⟩ := hcut
                    cases bb
                    case true =>
                      have hco := HBB.out.1 rfl
                      have HN : Hid (HeadR xs rule now' (nx + 1) (wt ++ [nx]) left out) := Lib.hid (head_come HH.out (by rw [← HL.out]; exact hco.1) hco.2)
                      have hx1 := hco.1
                      have hwr := HR.out.2.2.2.2.1
                      rw [← HM2.out] at hwr
                      have hBw := HR.out.2.2.2.2.2.2.2
                      have e1 : m2 + 1 ≤ maxLen := by unfold maxLen; omega
                      have e2 : (m2 + 1) * 8 ≤ 140737488355328 := by omega
                      clear hco
                      go_wp2_with (at_builtin; (refine app_row2 rowIn rfl _ _ rfl (ws.heap.size + 1) rfl hwr [.int .i64 nx] rfl (by first | rfl | simp) rfl (encI_one _) e1 e2 hBw ?_))
                      intro v' w2 hown2 hg2 hv2
                      have H2 : RunAt w a k cap rule w1.heap.size (w1.heap.size + 1) ws.heap.size (ws.heap.size + 1) w2 on left (.slice ao mo co) out v' (wt ++ [nx]) := HR.out.putWait HLY.out hg2 (by
                        rw [List.length_append, ← HM2.out]
                        unfold natsI
                        rw [List.map_append, List.map_append]
                        exact hown2) hv2
                      have HR2 := Lib.hid H2
                      clear hown2 hg2 hv2 H2 hwr HR
                      go_wp2
                      exact ⟨⟨nx + 1, wt ++ [nx], by omega, by go_num, HR2.out, HN, Lib.hid (Or.inl (by simp))⟩, by simp [intOf]; omega⟩
                    case false =>
                      have hco : ¬ (nx < k ∧ atOf xs nx ≤ now') := fun h => nomatch HBB.out.2 h
                      have HW2 : Hid (wt ≠ []) := Lib.hid (by rcases HW.out with h | h; exact h; exact absurd h hco)
                      have HN : Hid (nx < xs.length → now' < atOf xs nx) := Lib.hid (fun h => by rw [← HL.out] at h; omega)
                      clear hco HW
                      go_wp2
                      go_meet
                      case rel => exact ⟨nx, wt, hnx, rfl, HR.out, HH, HW2, HN⟩
              case rest =>
                clear HR HH1 HH HM hm0 HF hnk hmn
                obtain ⟨nx, wt, hnx, rfl, H, HH, HW, HNX⟩ := hcut
                obtain ⟨wi, hwi⟩ : ∃ wi, wi = wc := ⟨_, rfl⟩
                subst hwi
                obtain ⟨f1, f2, f3, f4, f5, f6, f7, f8⟩ := head_facts HC.out HH.out
                obtain ⟨aw2, cw2, hwv⟩ := row_form H.2.2.2.2.1
                obtain ⟨m2, hm2⟩ : ∃ m2, m2 = wt.length := ⟨_, rfl⟩
                rw [← hm2] at hwv
                subst hwv
                have hm2n : m2 ≤ nx := by rw [hm2]; exact f6
                have HM2 := Lib.hid hm2
                have HM60 : Hid (m2 ≤ 60) := Lib.hid (by omega)
                have cO := H.2.1.1
                have cR := H.1.2.1
                have HF2 := Lib.hid (And.intro f3 (And.intro f4 f8))
                have HR := Lib.hid H
                clear H hm2 f3 f4 f5 f6 f7 f8
                go_upto_region 21 with (fail)
                go_cut [88] (fun v wx => v = .bool true ∧ wi = wx)
                case first =>
                  rcases hon with hon | hon
                  · subst hon
                    go_wp2
                    go_meet
                    case rel => exact ⟨rfl, rfl⟩
                  · have hd5 : decide (5 ≤ rule) = true := by simp [hon]
                    by_cases hn0 : on < 0
                    · go_wp2
                      go_meet
                      case rel => exact ⟨rfl, rfl⟩
                    · go_wp2
                      go_meet
                      case rel => exact ⟨rfl, rfl⟩
                case rest =>
                  obtain ⟨rfl, rfl⟩ := hcut
                  obtain ⟨b, hbw, hbm, hbg⟩ := min_goes rule xs left wt HW.out
                  obtain ⟨sv1, sv2, sv3, sv4, sv5⟩ := head_serve HC.out HH.out HNX.out hbw hbg
                  have hbk : b < k := by omega
                  have HMIN : Hid (Calls Tryd.prog 28 #[.slice aw2 m2 cw2, .func (.func 29) #[] #[.pointer (some ⟨w.heap.size + 1, 0, none⟩), .pointer (some ⟨w.heap.size, 0, none⟩), .pointer (some ⟨w1.heap.size + 1, 0, none⟩)]] wi fun e w' => e = .returned (.int .i64 b) ∧ Below wi.heap.size wi w') := Lib.hid (by
                    refine (minF_any 29 _ (fRun rule xs left) aw2 m2 cw2 (natsI wt) wi eg_run1 ?_ (by unfold natsI; rw [List.length_map]; exact HM2.out) ?_ ?_ ?_).mono ?_
                    · intro w' hw' x hx y hy
                      obtain ⟨i, hi, rfl⟩ := nats_mem hx
                      obtain ⟨j, hj, rfl⟩ := nats_mem hy
                      have hi2 := HF2.out.2.2 i hi
                      have hj2 := HF2.out.2.2 j hj
                      have H2 := HR.out.next hw'
                      refine runLess_any rule a (some ⟨w1.heap.size, 0, none⟩) k cap k (w.heap.size + 1) w.heap.size (w1.heap.size + 1) i j xs left w' HL.out (by rw [HF2.out.1]; exact HL.out) (by omega) (by omega) hn60 (by omega) (by omega) (HX.out.at H2.2.2.2.2.2.2.1) (elems_own H2.2.2.1 (by rw [HF2.out.1]; exact HL.out)) H2.1.2.1 H2.1.1 H2.1.2.2
                    · unfold natsI; rw [List.length_map]
                      exact List.length_pos_iff.2 HW.out
                    · unfold natsI; rw [List.length_map, ← HM2.out]; omega
                    · have := HR.out.2.2.2.2.1
                      rw [← HM2.out] at this
                      obtain ⟨a', c', h1, h2, _⟩ := ints_of_owns (by unfold natsI; rw [List.length_map]; exact HM2.out) this
                      obtain ⟨rfl, _, _⟩ := Value.slice.inj h1
                      exact h2
                    · rintro e w' ⟨rfl, hb⟩
                      exact ⟨by rw [hbm], hb⟩)
                  have HS5 := Lib.hid sv5
                  have HBW := Lib.hid hbw
                  clear hbm hbg sv5 hbw cO cR
                  have hbl := HF2.out.2.1 b
                  have hble : b < left.length := by rw [HF2.out.1, ← HL.out]; exact hbk
                  obtain ⟨lb, hlb⟩ : ∃ lb, lb = lf left b := ⟨_, rfl⟩
                  have HLB := Lib.hid hlb
                  rw [← hlb] at hbl sv4 sv2
                  clear hlb
                  go_wp2_with fail
                  refine HMIN.out.mono ?_
                  rintro e w2 ⟨rfl, hb2⟩
                  have H2 := HR.out.next hb2
                  have g1 := H2.2.1.1
                  have g2 := H2.2.1.2
                  have H3 := H2.setOn HLY.out (b : Int)
                  have g3 := H3.1.2.1
                  have g4 := H3.1.2.2
                  have g5 := H3.1.1
                  have g6 := H3.2.1.1
                  have g7 := (owns_get H3.2.2.1 b hbk hble).trans (show some (Value.int .i64 left[b]) = some (Value.int .i64 lb) by rw [HLB.out, ← getD_lt hble]; rfl)
                  have hwr1 : IntKind.i64.wrap (now' + lb) = now' + lb := IntWalk.i64_in _ (by omega)
                  have HR3 := Lib.hid H3
                  have HSV := Lib.hid (And.intro sv1 (And.intro sv2 (And.intro sv4 (And.intro hbl (And.intro f1 f2)))))
                  clear hb2 H2 H3 HMIN HR sv1 sv2 sv4 hbl f1 f2 hon hm2n
                  go_upto_region 24 with (fail)
                  generalize w2.setCell ⟨ws.heap.size, 0, none⟩ (.int .i64 (b : Int)) = X3 at *
                  clear g1 g2
                  go_cut [105] (fun v wx => ∃ bb : Bool, v = .bool bb ∧ X3 = wx ∧ Hid (bb = true ↔ 5 ≤ rule ∧ nx < k))
                  case first =>
                    by_cases h5 : 5 ≤ rule
                    · by_cases x1 : nx < k
                      · go_wp2
                        go_meet
                        case rel => exact ⟨true, rfl, rfl, Lib.hid ⟨fun _ => ⟨h5, x1⟩, fun _ => rfl⟩⟩
                      · have x2 : ¬ (nx : Int) < (k : Int) := by omega
                        go_wp2
                        go_meet
                        case rel => exact ⟨false, rfl, rfl, Lib.hid ⟨(fun h => nomatch h), fun h => absurd h.2 x1⟩⟩
                    · go_wp2
                      go_meet
                      case rel => exact ⟨false, rfl, rfl, Lib.hid ⟨(fun h => nomatch h), fun h => by omega⟩⟩
                  case rest =>
                    obtain ⟨bb, rfl, rfl, HBB⟩ := hcut
                    go_upto_if 105 with (fail)
                    go_cut [15] (fun v wx => v = .int .i64 (toP xs rule now' nx left b) ∧ X3 = wx)
                    case first =>
                      have HT : Hid (toP xs rule now' nx left b = if 5 ≤ rule ∧ nx < xs.length ∧ atOf xs nx < now' + lb then atOf xs nx else now' + lb) := Lib.hid (by rw [HLB.out]; rfl)
                      cases bb
                      case false =>
                        have hnot : ¬ (5 ≤ rule ∧ nx < xs.length ∧ atOf xs nx < now' + lb) := fun h => nomatch HBB.out.2 ⟨h.1, by rw [HL.out]; exact h.2.1⟩
                        have HT2 := Lib.hid (HT.out.trans (if_neg hnot))
                        clear hnot
                        go_wp2
                        go_meet
                        case rel => exact ⟨by rw [HT2.out], rfl⟩
                      case true =>
                        have x1 := HBB.out.1 rfl
                        have hlx : nx < xs.length := by rw [← HL.out]; exact x1.2
                        obtain ⟨bq, o, haE, hc⟩ := (HX.out.at HR3.out.2.2.2.2.2.2.1).some hlx
                        have q1 := hc nx hlx 0 _ rfl
                        simp only [Nat.add_zero] at q1
                        have hat : atOf xs nx = xs[nx].1 := by simp [atOf, List.getD_eq_getElem?_getD, hlx]
                        have HT1 : Hid (toP xs rule now' nx left b = if atOf xs nx < now' + lb then atOf xs nx else now' + lb) := Lib.hid (by
                          rw [HT.out]
                          by_cases hcc : atOf xs nx < now' + lb
                          · rw [if_pos hcc, if_pos ⟨x1.1, hlx, hcc⟩]
                          · rw [if_neg hcc, if_neg (fun h => hcc h.2.2)])
                        rw [← hat] at q1
                        generalize atOf xs nx = t at *
                        have hnx2 := x1.2
                        subst haE
                        clear hc hat x1
                        obtain ⟨tb, htb⟩ : ∃ tb, tb = now' + lb := ⟨_, rfl⟩
                        rw [← htb] at hwr1 HT1
                        have HTB := Lib.hid htb
                        rcases Int.lt_trichotomy tb t with h1 | h1 | h1
                        · have HT2 := Lib.hid (HT1.out.trans (if_neg (by omega)))
                          have h2 : ¬ t < tb := by omega
                          rw [htb] at h1 h2
                          clear htb hwr1
                          go_wp2
                          go_meet
                          case rel => exact ⟨by rw [HT2.out, HTB.out], rfl⟩
                        · have HT2 := Lib.hid (HT1.out.trans (if_neg (by omega)))
                          have h2 : ¬ t < tb := by omega
                          have h3 : ¬ tb < t := by omega
                          have h4 := Lib.hid h1
                          rw [htb] at h2 h3
                          clear htb hwr1 h1
                          go_wp2
                          go_meet
                          case rel => exact ⟨by rw [HT2.out]; first | rw [HTB.out] | rw [h4.out], rfl⟩
                        · have HT2 := Lib.hid (HT1.out.trans (if_pos (by omega)))
                          have h2 : ¬ tb < t := by omega
                          rw [htb] at h1 h2
                          clear htb hwr1
                          go_wp2
                          go_meet
                          case rel => exact ⟨by rw [HT2.out], rfl⟩
                    case rest =>
                      obtain ⟨rfl, rfl⟩ := hcut
                      obtain ⟨tz, hto⟩ : ∃ tz, tz = toP xs rule now' nx left b := ⟨_, rfl⟩
                      obtain ⟨sv1, sv2, sv4, hbl, f1, f2⟩ := HSV.out
                      rw [← hto] at sv1 sv2 HS5
                      simp only [← hto]
                      have hw2 : IntKind.i64.wrap (tz - now') = tz - now' := IntWalk.i64_in _ (by omega)
                      have hw3 : wrap64 (lb - (tz - now')) = lb - (tz - now') := IntWalk.wrap64_in _ (by omega)
                      obtain ⟨nb, hnb⟩ : ∃ nb, nb = lb - (tz - now') := ⟨_, rfl⟩
                      obtain ⟨dt, hdt⟩ : ∃ dt, dt = tz - now' := ⟨_, rfl⟩
                      have HNB := Lib.hid hnb
                      rw [← hdt] at hw2 hw3 hnb
                      replace hw3 := hw3.trans hnb.symm
                      have hfz := HR3.out.2.2.1.frozenAt b
                      have H4 := HR3.out.setLeft HLY.out b nb
                      obtain ⟨X4, hX4⟩ : ∃ X4, X4 = X3.setCell ⟨w1.heap.size, b, none⟩ (.int .i64 nb) := ⟨_, rfl⟩
                      rw [← hX4] at H4
                      have HX4 := Lib.hid hX4
                      have HR4 := Lib.hid H4
                      obtain ⟨kv, hkv⟩ : ∃ kv, IntKind.i64.wrap ((mo : Int) - 1) = kv := ⟨_, rfl⟩
                      have HTO := Lib.hid hto
                      have HDT := Lib.hid hdt
                      have HNB2 := Lib.hid hnb
                      have hdt2 : tz - now' = dt := hdt.symm
                      have hwd : IntKind.i64.wrap dt = dt := hw2
                      have HW3 := Lib.hid hw3
                      clear hto H4 hX4 sv1 sv2 sv4 hbl f1 f2 hnb hdt hw2 g3 hwr1 hw3
                      go_upto_region 27 with (fail)
                      rw [HW3.out, ← HX4.out]
                      clear hwd hdt2 hfz
                      have cO := HR4.out.2.1.1
                      go_upto_region 28 with (fail)
                      go_cut [144] (fun v wx => ∃ (bb : Bool) (z : Nat), v = .bool bb ∧ X4.drewN z = wx ∧ Hid (bb = true ↔ 0 < out.length ∧ (out.getD (out.length - 1) (0, 0, 0)).1 = (b : Int) ∧ (out.getD (out.length - 1) (0, 0, 0)).2.2 = now'))
                      case first =>
                        by_cases hm0 : mo = 0
                        · have hk0 : kv = -1 := by rw [← hkv, hm0]; decide
                          have HN : Hid (¬ 0 < out.length) := Lib.hid (by rw [← HMO.out]; omega)
                          have hd : decide (0 ≤ kv) = false := by simp [hk0]
                          clear hkv hm0 hk0
                          go_wp2_with fail
                          go_quiet (fail)
                          go_wp2
                          go_meet
                          case rel => exact ⟨false, _, rfl, rfl, Lib.hid ⟨(fun h => nomatch h), fun h => absurd h.1 HN.out⟩⟩
                        · obtain ⟨q, hq⟩ : ∃ q : Nat, kv = (q : Int) ∧ q + 1 = mo := ⟨mo - 1, by rw [← hkv, IntWalk.i64_in _ (by omega)]; omega, by omega⟩
                          obtain ⟨hq1, hq2⟩ := hq
                          have hql : q < out.length := by rw [← HMO.out]; omega
                          have hrow := HR4.out.2.2.2.1
                          rw [← HMO.out] at hrow
                          obtain ⟨gq, cq, hs, _, _⟩ := row_some hrow (by omega)
                          obtain ⟨rfl, _, rfl⟩ := Value.slice.inj hs
                          obtain ⟨r1, r2⟩ := row3_get hrow HMO.out q hql
                          have hge : out.getD (out.length - 1) (0, 0, 0) = out[q] := by
                            rw [← HMO.out, ← hq2]
                            simp [List.getD_eq_getElem?_getD, hql]
                          have HGE : Hid (0 < out.length ∧ (out.getD (out.length - 1) (0, 0, 0)).1 = out[q].1 ∧ (out.getD (out.length - 1) (0, 0, 0)).2.2 = out[q].2.2) := Lib.hid ⟨by omega, by rw [hge], by rw [hge]⟩
                          generalize out[q].1 = p1 at *
                          generalize out[q].2.2 = p2 at *
                          have hqm : q < mo := by omega
                          subst hq1
                          clear hkv hm0 hq2 hge hs hrow
                          by_cases h1 : p1 = (b : Int)
                          · have hd1 : (p1 == (b : Int)) = true := by simp [h1]
                            by_cases h2 : p2 = now'
                            · have hd2 : (p2 == now') = true := by simp [h2]
                              have HY : Hid (p1 = (b : Int) ∧ p2 = now') := Lib.hid ⟨h1, h2⟩
                              clear h1 h2
                              go_wp2_with fail
                              go_quiet (fail)
                              go_wp2
                              go_meet
                              case rel => exact ⟨true, _, rfl, rfl, Lib.hid ⟨fun _ => ⟨HGE.out.1, HGE.out.2.1.trans HY.out.1, HGE.out.2.2.trans HY.out.2⟩, fun _ => rfl⟩⟩
                            · have hd2 : (p2 == now') = false := by simp [h2]
                              have HY : Hid (¬ p2 = now') := Lib.hid h2
                              clear h1 h2
                              go_wp2_with fail
                              go_quiet (fail)
                              go_wp2
                              go_meet
                              case rel => exact ⟨false, _, rfl, rfl, Lib.hid ⟨(fun h => nomatch h), fun h => absurd (HGE.out.2.2.symm.trans h.2.2) HY.out⟩⟩
                          · have hd1 : (p1 == (b : Int)) = false := by simp [h1]
                            have HY : Hid (¬ p1 = (b : Int)) := Lib.hid h1
                            clear h1
                            go_wp2_with fail
                            go_quiet (fail)
                            go_wp2
                            go_meet
                            case rel => exact ⟨false, _, rfl, rfl, Lib.hid ⟨(fun h => nomatch h), fun h => absurd (HGE.out.2.1.symm.trans h.2.1) HY.out⟩⟩
                      case rest =>
                        obtain ⟨bb, z, rfl, rfl, HCD⟩ := hcut
                        have HR5 := Lib.hid (HR4.out.next (below_drewN X4 z _))
                        have cO5 := HR5.out.2.1.1
                        clear cO
                        generalize X4.drewN z = X5 at *
                        have hmo0 : mo ≤ 61000000000 := by omega
                        go_upto_if 144 with (fail)
                        go_cut [10] (fun v wx => RunAt w a k cap rule w1.heap.size (w1.heap.size + 1) ws.heap.size (ws.heap.size + 1) wx (b : Int) (left.set b nb) v (addPc out b now' tz) (.slice aw2 m2 cw2) wt)
                        case first =>
                          cases bb
                          case true =>
                            obtain ⟨y1, y2, y3⟩ := HCD.out.1 rfl
                            have hrow := HR5.out.2.2.2.1
                            rw [← HMO.out] at hrow y1
                            obtain ⟨q, hq⟩ : ∃ q : Nat, kv = (q : Int) ∧ q + 1 = mo := ⟨mo - 1, by rw [← hkv, IntWalk.i64_in _ (by omega)]; omega, by omega⟩
                            obtain ⟨hq1, hq2⟩ := hq
                            have hql : q < out.length := by rw [← HMO.out]; omega
                            obtain ⟨gq, cq, hs, _, _⟩ := row_some hrow (by omega)
                            obtain ⟨rfl, _, rfl⟩ := Value.slice.inj hs
                            obtain ⟨r1, r2⟩ := row3_get hrow HMO.out q hql
                            have hfr := hrow.frozenAt (q * 3 + 2)
                            have hset : Hid (addPc out b now' tz = out.set q (out[q].1, out[q].2.1, tz)) := Lib.hid (by
                              have hge : out.getD (out.length - 1) (0, 0, 0) = out[q] := by
                                rw [← HMO.out, ← hq2]
                                simp [List.getD_eq_getElem?_getD, hql]
                              unfold addPc
                              rw [if_pos ⟨by omega, y2, y3⟩, hge, ← HMO.out, ← hq2]
                              rfl)
                            have hqm : q < mo := by omega
                            have H6 := HR5.out.setTo HLY.out q tz hql
                            rw [← hset.out] at H6
                            have HR6 := Lib.hid H6
                            subst hq1
                            clear hkv y1 y2 y3 hq2 hs hrow H6
                            go_wp2
                            go_meet
                            case rel => exact HR6.out
                          case false =>
                            have hset : Hid (addPc out b now' tz = out ++ [((b : Int), now', tz)]) := Lib.hid (by
                              unfold addPc
                              rw [if_neg (fun h => nomatch HCD.out.2 h)])
                            have hwr := HR5.out.2.2.2.1
                            rw [← HMO.out] at hwr
                            have hBw := HR5.out.2.2.2.2.2.2.2
                            have e1 : mo + 1 ≤ maxLen := by unfold maxLen; omega
                            have e2 : (mo + 1) * 24 ≤ 140737488355328 := by omega
                            go_wp2_with (at_builtin; (refine app_row2 rowPc rfl _ _ rfl (ws.heap.size + 1) rfl hwr (enc3 ((b : Int), now', tz)) rfl (by first | rfl | simp) rfl (enc3_one _) e1 e2 hBw ?_))
                            intro v' w3 hown3 hg3 hv3
                            have H6 : RunAt w a k cap rule w1.heap.size (w1.heap.size + 1) ws.heap.size (ws.heap.size + 1) w3 (b : Int) (left.set b nb) v' (addPc out b now' tz) (.slice aw2 m2 cw2) wt := HR5.out.putOut HLY.out hg3 (by
                              rw [hset.out, List.length_append, ← HMO.out, List.flatMap_append]
                              simpa using hown3) hv3
                            have HR6 := Lib.hid H6
                            clear hown3 hg3 hv3 H6 hwr
                            go_wp2
                            go_meet
                            case rel => exact HR6.out
                        case rest =>
                          have HR6 := Lib.hid hcut
                          obtain ⟨wk, hwk⟩ : ∃ wk, wk = wc := ⟨_, rfl⟩
                          subst hwk
                          clear hcut HR4 HR5 cO5 HCD
                          have cO := HR6.out.2.1.1
                          have fO := HR6.out.2.1.2
                          have cL := HR6.out.1.2.2
                          have hbl2 : b < (left.set b nb).length := by simp; exact hble
                          have cb := owns_get HR6.out.2.2.1 b hbk hbl2
                          rw [show (left.set b nb)[b] = nb by simp] at cb
                          clear hbl2
                          have hnb9 : nb = lf left b - (tz - now') := by rw [HNB.out, HLB.out]
                          have H5 := HS5.out
                          rw [← hnb9] at H5
                          have HH9 := Lib.hid H5
                          obtain ⟨sv1, sv2, sv4, hbl, f1, f2⟩ := HSV.out
                          rw [← HTO.out] at sv1 sv2
                          have hmeas : (61000000001 - intOf (.int .i64 tz)).toNat < (61000000001 - intOf (.int .i64 now)).toNat := by simp [intOf]; omega
                          have hon' : nb = 0 ∨ 5 ≤ rule := by
                            by_cases h5 : 5 ≤ rule
                            · exact Or.inr h5
                            · have h6 : tz = now' + lb := by
                                rw [HTO.out, HLB.out]
                                unfold toP
                                rw [if_neg (fun h => h5 h.1)]
                              exact Or.inl (by rw [HNB.out]; omega)
                          have HMS := Lib.hid hmeas
                          have HON := Lib.hid hon'
                          clear H5 HS5 hnb9 HSV sv1 sv2 sv4 hbl f1 f2 hmeas hon'
                          by_cases hz : nb = 0
                          · have hd : (nb == 0) = true := by simp [hz]
                            have HZ := Lib.hid hz
                            have hrow := HR6.out.2.2.2.2.1
                            rw [← HM2.out] at hrow
                            have hwp := List.length_pos_iff.2 HW.out
                            obtain ⟨gw, cq, hs, hc1, hc2⟩ := row_some hrow (by rw [HM2.out]; exact hwp)
                            obtain ⟨rfl, _, rfl⟩ := Value.slice.inj hs
                            have HDL := Lib.hid (deleteF_any 34 #[.pointer (some ⟨ws.heap.size, 0, none⟩)] (fun x => x == (b : Int)) gw m2 cw2 (ws.heap.size + 1) (natsI wt) wk eg_run2
                              (fun w' hw' x _ => runIs_any ws.heap.size x b w' ((hw'.cell (p := ⟨ws.heap.size, 0, none⟩) (by show ws.heap.size < ws.heap.size + 1; omega)).trans cO)) (by unfold natsI; rw [List.length_map]; exact HM2.out) (by unfold natsI; rw [List.length_map, ← HM2.out]; have := HM60.out; omega) hc1 hc2 hrow)
                            clear hz hs hc1 hc2 hrow hwp
                            go_wp2_with fail
                            refine HDL.out.mono ?_
                            rintro e w4 ⟨rfl, hown4, hg4⟩
                            have H7 := HR6.out.putWait HLY.out (wv' := .slice (some ⟨gw, 0, none⟩) ((natsI wt).filter (fun x => !(x == (b : Int)))).length cw2) (wait' := wt.filter (fun i => decide (i ≠ b))) hg4 (by
                              rw [nats_del] at hown4 ⊢
                              have e : (natsI (wt.filter (fun i => decide (i ≠ b)))).length = (wt.filter (fun i => decide (i ≠ b))).length := by unfold natsI; rw [List.length_map]
                              rw [e] at hown4 ⊢
                              exact hown4) (Or.inl rfl)
                            have p1 := H7.2.1.1
                            have p2 := H7.2.1.2
                            have HR8 := Lib.hid (H7.setOn HLY.out (-1))
                            have HH8 : Hid (HeadR xs rule tz nx (wt.filter (fun i => decide (i ≠ b))) (left.set b nb) (addPc out b now' tz)) := Lib.hid (by have h := HH9.out; rw [if_pos HZ.out] at h; exact h)
                            clear hown4 hg4 H7 cO fO cL cb HDL HH9
                            go_wp2
                            exact ⟨⟨tz, nx, -1, left.set b nb, addPc out b now' tz, _, rfl, rfl, HR8.out, HH8, Or.inl rfl⟩, HMS.out⟩
                          · have hd : (nb == 0) = false := by simp [hz]
                            have HZ := Lib.hid hz
                            have HH8 : Hid (HeadR xs rule tz nx wt (left.set b nb) (addPc out b now' tz)) := Lib.hid (by have h := HH9.out; rw [if_neg HZ.out] at h; exact h)
                            have h5 : 5 ≤ rule := by rcases HON.out with h | h; exact absurd h hz; exact h
                            clear hz HH9
                            go_wp2
                            exact ⟨⟨tz, nx, b, left.set b nb, addPc out b now' tz, _, rfl, rfl, HR6.out, HH8, Or.inr h5⟩, HMS.out⟩
end Go.Proofs.YtannijeiecmjpaaDoor
