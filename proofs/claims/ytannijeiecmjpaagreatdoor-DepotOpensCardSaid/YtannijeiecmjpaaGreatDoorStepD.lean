/- Steps of regions that draw their order: a text appended to a row of bytes, a map's entry stored, a map's entry deleted. And the depot's map as a move turns it. -/
import Derived.Test.YtannijeiecmjpaaGreatDoorDepD
namespace Go.Proofs.YtannijeiecmjpaaGreatDoor
open Go.RowKit Go.WideMaps Go.Maps

theorem step_str {P : Program} {w : World} {ops : Array Oper} {o : Oper} {a : Act} {K : Act → World → Prop} {Q : Exit → Act → World → Prop} {E : Prop} {t u e : TypeId} (R : RowOf P t e (.int .u8 0) 1 1) (hu : P.underlying u = some .string) (hgd : o.guard = none) (s x : Operand)
    (ho : o.op = .call { callee := .builtin .append, args := #[s, x], argTypes := #[t, u] }) (base : Nat)
    {v : Value} {n : Nat} {xs : List Value} (hs : a.eval s = v) (hown : w.ownsRow base e 1 v n xs) (b : ByteArray) (hx : a.eval x = .string b)
    (h63 : n + b.size ≤ maxLen) (hbytes : n + b.size ≤ 140737488355328) (hbase : base ≤ w.heap.size)
    (h : ∀ v' w', w'.ownsRow base e 1 v' (n + b.size) (xs ++ Lib.strCells b) → w.grownBy w' v.ownBlock → K (a.put o.dst v') w') :
    if Region.wanted o (yielded ops a.tmps) = true then Oper.wp P o a w K Q else E := by
  have hw : Region.wanted o (yielded ops a.tmps) = true := by simp [Region.wanted, hgd]
  rw [if_pos hw]
  obtain ⟨i, ht, hi, hz, hsize, hby, _, _⟩ := R
  obtain ⟨v', w', hr, h2, h3, _⟩ := Lib.run_append_own_string (P := P) w base t u o.type e i ht hu hi hz hsize hby v n xs hown b h63 hbytes hbase
  unfold Oper.wp execOp
  simp only [ho, resolve, invoke, builtin, Sem.run_bind, Sem.run_pure, Result.andThen_ok, List.map_toArray, List.map_cons, List.map_nil, hs, hx, hr]
  exact h v' w' h2 h3
theorem step_put {P : Program} {w : World} {ops : Array Oper} {o : Oper} {a : Act} {K : Act → World → Prop} {Q : Exit → Act → World → Prop} {E : Prop} (hgd : o.guard = none) (m x v : Operand) (t : TypeId) (hop : o.op = Op.mapUpdate t m x v)
    (k e : TypeId) (Kd : Keyed P k) (ht : P.underlying t = some (.map k e)) (R : Value → Option (DataW Unit × List MemPlace)) (b n : Nat) (D : DataW Unit)
    (hm : a.eval m = .map (some b)) (hown : w.ownsMap P k R b n D) (hn : n < maxLen) (key val : Value) (kl : Lit) (hx : a.eval x = key) (hv : a.eval v = val) (hkey : keyOf P k key = some kl)
    (d : DataW Unit) (ps : List MemPlace) (hval : R val = some (d, ps))
    (h : ∀ w', w'.ownsMap P k R b (n + 1) (D.put kl d) → w.mapTurned w' b → K (a.put o.dst undef) w') :
    if Region.wanted o (yielded ops a.tmps) = true then Oper.wp P o a w K Q else E := by
  have hw : Region.wanted o (yielded ops a.tmps) = true := by simp [Region.wanted, hgd]
  rw [if_pos hw]
  obtain ⟨w', hrun, r1, r2⟩ := hown.store Kd ht hn hkey hval
  unfold Oper.wp
  simp [execOp, hop, hm, hx, hv, hrun, Result.andThen]
  exact h w' r1 r2
theorem step_del {P : Program} {w : World} {ops : Array Oper} {o : Oper} {a : Act} {K : Act → World → Prop} {Q : Exit → Act → World → Prop} {E : Prop} (hgd : o.guard = none) (m x : Operand) (t k : TypeId) (hop : o.op = Op.call { callee := Callee.builtin Builtin.delete, args := #[m, x], argTypes := #[t, k] })
    (e : TypeId) (Kd : Keyed P k) (ht : P.underlying t = some (.map k e)) (R : Value → Option (DataW Unit × List MemPlace)) (b n : Nat) (D : DataW Unit)
    (hm : a.eval m = .map (some b)) (hown : w.ownsMap P k R b n D) (key : Value) (kl : Lit) (hx : a.eval x = key) (hkey : keyOf P k key = some kl)
    (h : ∀ w', w'.ownsMap P k R b n (D.del kl) → w.mapTurned w' b → K (a.put o.dst (.tuple #[])) w') :
    if Region.wanted o (yielded ops a.tmps) = true then Oper.wp P o a w K Q else E := by
  have hw : Region.wanted o (yielded ops a.tmps) = true := by simp [Region.wanted, hgd]
  rw [if_pos hw]
  obtain ⟨w', hrun, r1, r2⟩ := hown.drop Kd ht hkey o.type
  unfold Oper.wp
  simp [execOp, hop, resolve, invoke, builtin, hm, hx, hrun, Result.andThen]
  exact h w' r1 r2
theorem lit_ne {s t : Byt} (h : s ≠ t) : Lit.string s ≠ Lit.string t := fun e => h (Lit.string.inj e)
theorem have_put {D : DataW Unit} {L : List MoveD} {s : Byt} {mu r : Int} (hm : IsMap D) (h : HaveOf D L) (hr : r = haveM L s + mu) (h0 : r ≠ 0) : HaveOf (D.put (.string s) (.lit (.int .i64 r))) (L ++ [(s, mu)]) := by
  intro s' zd
  rw [haveM_snoc]
  by_cases e : s = s'
  · subst e
    rw [atKey_put_same hm (show WideAt.IsKeyLit (.string s) from trivial), if_pos rfl, if_pos (show haveM L s + mu ≠ 0 by rw [← hr]; exact h0), ← hr]
  · rw [atKey_put_other (lit_ne (fun h => e h.symm)), if_neg (show ¬ (s, mu).1 = s' from e), h s' zd]
theorem have_del {D : DataW Unit} {L : List MoveD} {s : Byt} {mu : Int} {d : DataW Unit} (h : HaveOf D L) (hr : haveM L s + mu = 0) : HaveOf ((D.put (.string s) d).del (.string s)) (L ++ [(s, mu)]) := by
  intro s' zd
  rw [haveM_snoc]
  by_cases e : s = s'
  · subst e
    rw [atKey_del_same, if_pos rfl, if_neg (show ¬ haveM L s + mu ≠ 0 by omega)]
  · rw [atKey_del_other (lit_ne (fun h => e h.symm)), atKey_put_other (lit_ne (fun h => e h.symm)), if_neg (show ¬ (s, mu).1 = s' from e), h s' zd]
theorem turned_frs {w w' : World} {b : Nat} {S : Nat → Prop} (h : w.mapTurned w' b) (hS : S b) : FrS S w w' := FrS.of_grown h.grown (fun k hk => by rw [← Option.some.inj hk]; exact hS)
/-- Rows of different elements lie apart. -/
theorem own_apart {w : World} {base base' e e' size size' n n' : Nat} {v v' : Value} {xs xs' : List Value} (h : w.ownsRow base e size v n xs) (h' : w.ownsRow base' e' size' v' n' xs') (he : e ≠ e') : ∀ b, v.ownBlock = some b → v'.ownBlock ≠ some b := by
  intro b hb hb'
  rcases h.2 with ⟨rfl, _⟩ | ⟨g, cap, cur, rfl, _, hh, _⟩
  · simp [Value.ownBlock] at hb
  rcases h'.2 with ⟨rfl, _⟩ | ⟨g', cap', cur', rfl, _, hh', _⟩
  · simp [Value.ownBlock] at hb'
  simp only [Value.ownBlock, Option.some.injEq] at hb hb'
  subst hb
  subst hb'
  rw [hh] at hh'
  have h2 := Obj.cells.inj (Option.some.inj hh')
  exact he h2.2.1
/-- A row and a map lie apart. -/
theorem own_map {w : World} {P : Program} {k : TypeId} {R : Value → Option (DataW Unit × List MemPlace)} {base e size n m N : Nat} {D : DataW Unit} {v : Value} {xs : List Value} (h : w.ownsRow base e size v n xs) (h' : w.ownsMap P k R m N D) : v.ownBlock ≠ some m := by
  intro hb
  obtain ⟨es, clock, hh', _⟩ := h'
  rcases h.2 with ⟨rfl, _⟩ | ⟨g, cap, cur, rfl, _, hh, _⟩
  · simp [Value.ownBlock] at hb
  simp only [Value.ownBlock, Option.some.injEq] at hb
  subst hb
  rw [hh] at hh'
  cases Option.some.inj hh'
/-- A row of bytes does not lie where a cell is no byte. -/
theorem own_cell {w : World} {base e n c : Nat} {v u : Value} {xs : List Value} (h : w.ownsRow base e 1 v n xs) (hc : w.cell? ⟨c, 0, none⟩ = some u) (hx : xs[0]? ≠ some u) (h0 : xs ≠ []) : v.ownBlock ≠ some c := by
  intro hb
  rcases h.2 with ⟨rfl, _⟩ | ⟨g, cap, cur, rfl, _, hh, h1, h2, h3, h4⟩
  · simp [Value.ownBlock] at hb
  simp only [Value.ownBlock, Option.some.injEq] at hb
  subst hb
  have hn : 0 < n := by
    have hl := h.1
    rcases xs with _ | ⟨y, ys⟩
    · exact absurd rfl h0
    · simp at hl; omega
  have hc2 : w.cell? ⟨g, 0, none⟩ = cur[0]? := by
    simp [World.cell?, hh]
  rw [hc2] at hc
  apply hx
  rw [← h4, List.getElem?_take, if_pos (by omega), Array.getElem?_toList]
  exact hc
/-- The program's depot on the way: the map of Lm, the journal of Lj, n moves counted. -/
structure DepP (base bd : Nat) (mv jv : Value) (Lm Lj : List MoveD) (n : Nat) (w : World) : Prop where
  c0 : w.cell? ⟨bd, 0, none⟩ = some mv
  c1 : w.cell? ⟨bd, 1, none⟩ = some jv
  c2 : w.cell? ⟨bd, 2, none⟩ = some (.int .i64 n)
  free : ∀ i, w.frozen? ⟨bd, i, none⟩ = false
  have' : HaveAt w base bd mv Lm
  jour : w.ownsRow base 5 1 jv (journalM Lj).length ((journalM Lj).map fun b => Value.int .u8 (b.toNat : Int))
  far : ∀ b, jv.ownBlock = some b → b ≠ bd ∧ mv ≠ .map (some b)
theorem DepAt.part {base bd : Nat} {mv jv : Value} {L : List MoveD} {w : World} (h : DepAt base bd mv jv L w) : DepP base bd mv jv L L L.length w := ⟨h.c0, h.c1, h.c2, h.free, h.have', h.jour, h.far⟩
theorem DepP.whole {base bd : Nat} {mv jv : Value} {L : List MoveD} {w : World} (h : DepP base bd mv jv L L L.length w) (hok : MovesOk L) : DepAt base bd mv jv L w := ⟨h.c0, h.c1, h.c2, h.free, h.have', h.jour, hok, h.far⟩
theorem DepP.frs {base bd : Nat} {mv jv : Value} {Lm Lj : List MoveD} {n : Nat} {w w' : World} {S : Nat → Prop} (h : DepP base bd mv jv Lm Lj n w) (hf : FrS S w w') (hS : ∀ k, depBlocks bd mv jv k → ¬ S k) : DepP base bd mv jv Lm Lj n w' :=
  ⟨cell_frs h.c0 hf (hS bd (Or.inl rfl)), cell_frs h.c1 hf (hS bd (Or.inl rfl)), cell_frs h.c2 hf (hS bd (Or.inl rfl)), fun i => frozen_frs (h.free i) (show bd < w.heap.size from lt_of_cell h.c0) hf (hS bd (Or.inl rfl)), h.have'.frs hf (fun k hk => hS k (Or.inr (Or.inl hk))), own_frs h.jour hf (fun b hb => hS b (Or.inr (Or.inr hb))), h.far⟩
theorem DepP.at {base bd : Nat} {mv jv : Value} {Lm Lj : List MoveD} {n : Nat} {w w' : World} (h : DepP base bd mv jv Lm Lj n w) (hb : Below w.heap.size w w') : DepP base bd mv jv Lm Lj n w' :=
  h.frs (S := fun _ => False) (FrS.of_below hb) (fun _ _ h => h)
theorem set_grown (w : World) (a : Addr) (u : Value) : w.grownBy (w.setCell a u) (some a.block) := ⟨rfl, rfl, rfl, by simp [World.setCell], fun i _ h4 => Below.heap_setCell _ _ _ _ (fun h5 => h4 (by rw [h5]))⟩
theorem HaveAt.set {w : World} {base bd : Nat} {mv : Value} {L : List MoveD} (h : HaveAt w base bd mv L) (j : Nat) (u : Value) : HaveAt (w.setCell ⟨bd, j, none⟩ u) base bd mv L := by
  rcases h with h | ⟨bm, N, D, rfl, h1, h2, h3, h4, h5⟩
  · exact Or.inl h
  · exact Or.inr ⟨bm, N, D, rfl, h1, h2, h3, h4.setCell (a := ⟨bd, j, none⟩) h2 u, h5⟩
theorem jour_set {w : World} {base bd n : Nat} {v : Value} {xs : List Value} (h : w.ownsRow base 5 1 v n xs) (hf : ∀ b, v.ownBlock = some b → b ≠ bd) (j : Nat) (u : Value) : (w.setCell ⟨bd, j, none⟩ u).ownsRow base 5 1 v n xs :=
  h.kept (set_grown w _ _) (by
    cases hb : v.ownBlock with
    | none => exact Or.inl rfl
    | some b => exact Or.inr (fun e => hf b hb (Option.some.inj e)))
/-- A move is counted. -/
theorem DepP.count {base bd : Nat} {mv jv : Value} {Lm Lj : List MoveD} {n : Nat} {w : World} (h : DepP base bd mv jv Lm Lj n w) (n' : Nat) : DepP base bd mv jv Lm Lj n' (w.setCell ⟨bd, 2, none⟩ (.int .i64 n')) :=
  ⟨by rw [World.cell?_setCell_other _ _ _ _ (by simp)]; exact h.c0, by rw [World.cell?_setCell_other _ _ _ _ (by simp)]; exact h.c1, World.cell?_setCell_same _ _ _ h.c2, fun i => by rw [World.frozen?_setCell]; exact h.free i, h.have'.set 2 _, jour_set h.jour (fun b hb => (h.far b hb).1) 2 _, h.far⟩
/-- The first map is made. -/
theorem DepP.made {base bd : Nat} {jv : Value} {Lm Lj : List MoveD} {n : Nat} {w : World} (h : DepP base bd (.map none) jv Lm Lj n w) (hLm : Lm = []) (hb : base ≤ w.heap.size) : DepP base bd (.map (some w.heap.size)) jv Lm Lj n ((w.alloc (.map #[] 0)).setCell ⟨bd, 0, none⟩ (.map (some w.heap.size))) := by
  subst hLm
  have h1 := h.at ((Below.refl w.heap.size w).alloc (Nat.le_refl _) (.map #[] 0))
  have hbd : bd < w.heap.size := lt_of_cell h.c0
  refine ⟨World.cell?_setCell_same _ _ _ h1.c0, by rw [World.cell?_setCell_other _ _ _ _ (by simp)]; exact h1.c1, by rw [World.cell?_setCell_other _ _ _ _ (by simp)]; exact h1.c2, fun i => by rw [World.frozen?_setCell]; exact h1.free i, ?_, jour_set h1.jour (fun b hb => (h.far b hb).1) 0 _, fun b hb => ⟨(h.far b hb).1, fun e => ?_⟩⟩
  · refine Or.inr ⟨w.heap.size, 0, .map [], rfl, hb, by omega, Nat.le_refl _, (World.ownsMap_made w _ _ _).setCell (a := ⟨bd, 0, none⟩) (by simp only; omega) _, ?_⟩
    intro s zd
    simp [haveM, DataW.atKey]
  · have h2 := (h.jour.lt b hb).2
    have := Option.some.inj (Value.map.inj e)
    omega
/-- The map is turned. -/
theorem DepP.turn {base bd bm N : Nat} {jv : Value} {Lm Lm' Lj : List MoveD} {n : Nat} {w w' : World} {D : DataW Unit} (h : DepP base bd (.map (some bm)) jv Lm Lj n w) (hf : FrS (fun k => k = bm) w w') (h1 : base ≤ bm) (h2 : bm ≠ bd) (hN : N ≤ Lm'.length) (hown : w'.ownsMap Tryz.prog 9 (plainElem Tryz.prog 3) bm N D) (hD : HaveOf D Lm') : DepP base bd (.map (some bm)) jv Lm' Lj n w' := by
  have hn : ¬ bd = bm := fun e => h2 e.symm
  exact ⟨cell_frs h.c0 hf hn, cell_frs h.c1 hf hn, cell_frs h.c2 hf hn, fun i => frozen_frs (h.free i) (show bd < w.heap.size from lt_of_cell h.c0) hf hn, Or.inr ⟨bm, N, D, rfl, h1, h2, hN, hown, hD⟩, own_frs h.jour hf (fun b hb e => (h.far b hb).2 (by rw [e])), h.far⟩
/-- A line is written. -/
theorem DepP.wrote {base bd : Nat} {mv jv jv' : Value} {Lm Lj Lj' : List MoveD} {n : Nat} {w w' : World} (h : DepP base bd mv jv Lm Lj n w) (ho : w'.ownsRow base 5 1 jv' (journalM Lj').length ((journalM Lj').map fun b => Value.int .u8 (b.toNat : Int))) (hne : journalM Lj' ≠ []) (hg : w.grownBy w' jv.ownBlock) (hmv : ∃ q, mv = .map q) : DepP base bd mv jv' Lm Lj' n (w'.setCell ⟨bd, 1, none⟩ jv') := by
  have hf : FrS (fun k => jv.ownBlock = some k) w w' := FrS.of_grown hg (fun k hk => hk)
  have hn : ¬ jv.ownBlock = some bd := fun e => (h.far bd e).1 rfl
  have k0 := cell_frs h.c0 hf hn
  have k1 := cell_frs h.c1 hf hn
  have k2 := cell_frs h.c2 hf hn
  have k3 : HaveAt w' base bd mv Lm := h.have'.frs hf (fun k hk e => (h.far k e).2 hk)
  have hfar : ∀ b, jv'.ownBlock = some b → b ≠ bd ∧ mv ≠ .map (some b) := fun b hb => by
    obtain ⟨q, rfl⟩ := hmv
    refine ⟨fun e => ?_, fun e => ?_⟩
    · subst e
      refine own_cell ho k0 ?_ (by simpa using hne) hb
      rw [List.getElem?_map]
      intro e2
      cases h4 : (journalM Lj')[0]? with
      | none => rw [h4] at e2; cases e2
      | some x => rw [h4] at e2; cases e2
    · rcases k3 with ⟨h5, _⟩ | ⟨bm, N, D, h5, _, _, _, h6, _⟩
      · rw [h5] at e; cases e
      · rw [h5] at e
        have h7 := Option.some.inj (Value.map.inj e)
        subst h7
        exact own_map ho h6 hb
  exact ⟨by rw [World.cell?_setCell_other _ _ _ _ (by simp)]; exact k0, World.cell?_setCell_same _ _ _ k1, by rw [World.cell?_setCell_other _ _ _ _ (by simp)]; exact k2, fun i => by rw [World.frozen?_setCell]; exact frozen_frs (h.free i) (show bd < w.heap.size from lt_of_cell h.c0) hf hn, k3.set 1 _, jour_set ho (fun b hb => (hfar b hb).1) 1 _, hfar⟩
theorem jour_snoc (L : List MoveD) (m : MoveD) : (journalM (L ++ [m])).length = (journalM L).length + (⟨(lineM L.length m).toArray⟩ : ByteArray).size ∧ ((journalM (L ++ [m])).map fun b => Value.int .u8 (b.toNat : Int)) = ((journalM L).map fun b => Value.int .u8 (b.toNat : Int)) ++ Lib.strCells ⟨(lineM L.length m).toArray⟩ := by
  rw [journal_snoc]
  exact ⟨by simp [ByteArray.size], by simp [Lib.strCells]⟩
theorem jour_ne (L : List MoveD) (m : MoveD) : journalM (L ++ [m]) ≠ [] := by
  rw [journal_snoc]
  unfold lineM
  simp
theorem look_put {w : World} {bm N : Nat} {D : DataW Unit} {s : Byt} {r : Int} (h : w.ownsMap Tryz.prog 9 (plainElem Tryz.prog 3) bm N (D.put (.string s) (.lit (.int .i64 r)))) (hm : IsMap D) (hs : s.length ≤ 9223372036854775807) : (Instr.lookup 24 (.map (some bm)) (strV s) false).run Tryz.prog w = .ok (.int .i64 r) w := by
  obtain ⟨c, hrun, hat, _⟩ := h.lookup_int keyS Tryz.underlying24 Tryz.underlying3 (zeroN w) (key_of s hs)
  rw [hrun]
  rw [atKey_put_same hm (show WideAt.IsKeyLit (.string s) from trivial)] at hat
  have e2 : r = c := (Lit.int.inj (DataW.lit.inj hat)).2
  rw [e2]
/-- What an append of a line and its store leave behind. -/
theorem dep_key {base bd bm : Nat} {jv : Value} {L : List MoveD} {s : Byt} {mu : Int} {SS : Nat → Prop} {w wX : World} (P : DepP base bd (.map (some bm)) jv L L L.length wX) (hF : FrS SS w wX) (hSbd : SS bd) (hSj : ∀ k, jv.ownBlock = some k → SS k) {B : Nat} (hB : jv.ownBlock ≠ some B) (hBb : bd ≠ B) (b0 : wX.cell? ⟨B, 0, none⟩ = some (strV s)) (b1 : wX.cell? ⟨B, 1, none⟩ = some (.int .i64 mu)) (w4 w5 : World) (v5 : Value) (h4 : Below wX.heap.size wX w4)
    (h5 : w5.ownsRow base 5 1 v5 ((journalM L).length + (⟨(lineM L.length (s, mu)).toArray⟩ : ByteArray).size) (((journalM L).map fun b => Value.int .u8 (b.toNat : Int)) ++ Lib.strCells ⟨(lineM L.length (s, mu)).toArray⟩)) (hg : w4.grownBy w5 jv.ownBlock) :
    (w5.cell? ⟨bd, 1, none⟩ = some jv ∧ w5.frozen? ⟨bd, 1, none⟩ = false ∧ w5.cell? ⟨B, 0, none⟩ = some (strV s) ∧ w5.cell? ⟨B, 1, none⟩ = some (.int .i64 mu) ∧ w5.cell? ⟨bd, 2, none⟩ = some (.int .i64 L.length) ∧ FrS SS w w5) ∧
    ((w5.setCell ⟨bd, 1, none⟩ v5).cell? ⟨B, 0, none⟩ = some (strV s) ∧ (w5.setCell ⟨bd, 1, none⟩ v5).cell? ⟨B, 1, none⟩ = some (.int .i64 mu) ∧ (w5.setCell ⟨bd, 1, none⟩ v5).cell? ⟨bd, 2, none⟩ = some (.int .i64 L.length) ∧ FrS SS w (w5.setCell ⟨bd, 1, none⟩ v5)) ∧
    DepP base bd (.map (some bm)) v5 L (L ++ [(s, mu)]) L.length (w5.setCell ⟨bd, 1, none⟩ v5) := by
  have P4 := P.at h4
  have hf : FrS (fun k => jv.ownBlock = some k) w4 w5 := FrS.of_grown hg (fun k hk => hk)
  have hn : ¬ jv.ownBlock = some bd := fun e => (P.far bd e).1 rfl
  have k0 := cell_frs ((h4.cell (lt_of_cell b0)).trans b0) hf hB
  have k1 := cell_frs ((h4.cell (lt_of_cell b1)).trans b1) hf hB
  have k2 := cell_frs P4.c2 hf hn
  have hF5 : FrS SS w w5 := (hF.trans (FrS.of_below h4)).trans (hf.mono (fun k _ hk => hSj k hk))
  have hset : FrS SS w5 (w5.setCell ⟨bd, 1, none⟩ v5) := FrS.of_grown (set_grown _ _ _) (fun k hk => by rw [← Option.some.inj hk]; exact hSbd)
  obtain ⟨hl, hc⟩ := jour_snoc L (s, mu)
  refine ⟨⟨cell_frs P4.c1 hf hn, frozen_frs (P4.free 1) (show bd < w4.heap.size from lt_of_cell P4.c0) hf hn, k0, k1, k2, hF5⟩, ⟨?_, ?_, ?_, hF5.trans hset⟩, P4.wrote (by rw [hl, hc]; exact h5) (jour_ne L (s, mu)) hg ⟨_, rfl⟩⟩
  · rw [World.cell?_setCell_other _ _ _ _ (by simp)]; exact k0
  · rw [World.cell?_setCell_other _ _ _ _ (by simp)]; exact k1
  · rw [World.cell?_setCell_other _ _ _ _ (by simp)]; exact k2
theorem rowB : RowOf Tryz.prog 25 5 (.int .u8 0) 1 1 := rowOf Tryz.underlying25 (by kernel_rfl) rfl (by decide)
theorem DepP.map {base bd bm : Nat} {jv : Value} {Lm Lj : List MoveD} {n : Nat} {w : World} (h : DepP base bd (.map (some bm)) jv Lm Lj n w) : ∃ (N : Nat) (D : DataW Unit), base ≤ bm ∧ bm ≠ bd ∧ N ≤ Lm.length ∧ w.ownsMap Tryz.prog 9 (plainElem Tryz.prog 3) bm N D ∧ HaveOf D Lm := by
  rcases h.have' with ⟨e, _⟩ | ⟨bm', N, D, e, r⟩
  · cases e
  · obtain rfl := Option.some.inj (Value.map.inj e)
    exact ⟨N, D, r⟩
theorem owns_frs {P : Program} {k : TypeId} {R : Value → Option (DataW Unit × List MemPlace)} {w w' : World} {b N : Nat} {D : DataW Unit} {S : Nat → Prop} (h : w.ownsMap P k R b N D) (hf : FrS S w w') (hS : ¬ S b) : w'.ownsMap P k R b N D := by
  obtain ⟨es, clock, h4, r⟩ := h
  exact ⟨es, clock, (hf.block b (Array.getElem?_eq_some_iff.1 h4).1 hS).trans h4, r⟩
theorem map_below {P : Program} {k : TypeId} {R : Value → Option (DataW Unit × List MemPlace)} {w w' : World} {b N : Nat} {D : DataW Unit} (h : w.ownsMap P k R b N D) (hb : Below w.heap.size w w') : w'.ownsMap P k R b N D := owns_frs (S := fun _ => False) h (FrS.of_below hb) (fun h => h)
theorem int_read (r : Int) (h : -9223372036854775808 ≤ r ∧ r ≤ 9223372036854775807) : plainElem (H := Unit) Tryz.prog 3 (.int .i64 r) = some (.lit (.int .i64 r), []) := by
  exact plainElem_int Tryz.underlying3 (WalkArith.wf_i64 h)
end Go.Proofs.YtannijeiecmjpaaGreatDoor
