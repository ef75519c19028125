/- The tours of trip.Savings in its map: what a map of slices in memory tells of them. -/
import Derived.Test.YtannijeiecmjpaaDoorRows
import Derived.Test.YtannijeiecmjpaaDoorTourS
import Derived.Maps.RangeWalk
namespace Go.Proofs.YtannijeiecmjpaaDoor
open Go.RowKit Go.Maps

/-- An element tells itself. -/
def encV (v : Value) : Option (DataW Value × List MemPlace) := some (.held v, [])
theorem keyT : Keyed Tryd.prog 3 := int_keyed Tryd.underlying3
theorem zeroT (w : World) : (zeroValue 76).run Tryd.prog w = .ok (.slice none 0 0) w := by kernel_rfl
/-- The map holds the tours that there are, by their first places. -/
def MapOf (D : DataW Value) (T : ToursF) (V : Nat → Value) : Prop := ∀ (x : Int) (zd : DataW Value), D.atKey (.int .i64 x) zd = if 0 ≤ x ∧ T x.toNat ≠ [] then .held (V x.toNat) else zd
theorem mapOf_none (V : Nat → Value) : MapOf (.map []) (fun _ => []) V := fun x zd => by
  rw [if_neg (fun h => h.2 rfl)]
  rfl
theorem mapOf_put {D : DataW Value} {T : ToursF} {V : Nat → Value} (hm : IsMap D) (h : MapOf D T V) (f : Nat) {t : List Int} (ht : t ≠ []) (v : Value) : MapOf (D.put (.int .i64 f) (.held v)) (fun g => if g = f then t else T g) (fun g => if g = f then v else V g) := by
  intro x zd
  by_cases e : x = (f : Int)
  · subst e
    have e1 : ((f : Int).toNat : Nat) = f := by simp
    simp only [e1, if_true]
    rw [atKey_put_same hm (show WideAt.IsKeyLit (.int .i64 (f : Int)) from trivial), if_pos ⟨by omega, ht⟩]
  · rw [atKey_put_other (by intro h; cases h; exact e rfl), h x zd]
    by_cases h0 : 0 ≤ x
    · have h1 : x.toNat ≠ f := by omega
      simp only [if_neg h1]
    · rw [if_neg (fun h => h0 h.1), if_neg (fun h => h0 h.1)]
theorem mapOf_del {D : DataW Value} {T : ToursF} {V : Nat → Value} (h : MapOf D T V) (k : Nat) : MapOf (D.del (.int .i64 k)) (fun g => if g = k then [] else T g) (fun g => if g = k then .slice none 0 0 else V g) := by
  intro x zd
  by_cases ek : x = (k : Int)
  · subst ek
    rw [atKey_del_same, if_neg]
    rintro ⟨_, h2⟩
    exact h2 (if_pos (by simp))
  · rw [atKey_del_other (by intro h; cases h; exact ek rfl), h x zd]
    by_cases h0 : 0 ≤ x
    · have h2 : x.toNat ≠ k := by omega
      simp only [if_neg h2]
    · rw [if_neg (fun h => h0 h.1), if_neg (fun h => h0 h.1)]
/-- The map lies in block b. -/
def TMap (w : World) (b N : Nat) (T : ToursF) (V : Nat → Value) : Prop := ∃ D, w.ownsMap Tryd.prog 3 encV b N D ∧ MapOf D T V
theorem TMap.kept {w w' : World} {b N : Nat} {T : ToursF} {V : Nat → Value} {row : Option Nat} (h : TMap w b N T V) (hg : w.grownBy w' row) (hne : some b ≠ row) : TMap w' b N T V := by
  obtain ⟨D, h1, h2⟩ := h
  exact ⟨D, h1.kept hg hne, h2⟩
theorem TMap.lt {w : World} {b N : Nat} {T : ToursF} {V : Nat → Value} (h : TMap w b N T V) : b < w.heap.size := by
  obtain ⟨D, h1, _⟩ := h
  exact h1.lt
theorem wf_nat {f : Nat} (h : f ≤ 1000000) : (Lit.int .i64 (f : Int)).wf = true := WalkArith.wf_i64 (by omega)
section
variable {w : World} {ops : Array Oper} {rest : List Oper} {o : Oper} {a : Act} {Q : Exit → Act → World → Prop}
/-- The tour that begins with a place. -/
theorem look_tour {b N : Nat} {T : ToursF} {V : Nat → Value} (h : TMap w b N T V) (hn : ∀ f, T f = [] → V f = .slice none 0 0) (hg : o.guard = none) (m x : Operand) (hop : o.op = Op.lookup 114 m x false) (hm : a.eval m = .map (some b)) (f : Nat) (hf : f ≤ 1000000) (hx : a.eval x = .int .i64 f)
    (hK : wpList Tryd.prog ops Q rest (a.put o.dst (V f)) w) : wpList Tryd.prog ops Q (o :: rest) a w := by
  refine wpList_plain hg fun K' hK' => ?_
  obtain ⟨D, h1, h2⟩ := h
  obtain ⟨v, ps, hrun, hv⟩ := h1.lookup keyT Tryd.underlying114 (zeroT w) (zd := .held (.slice none 0 0)) (zp := []) rfl (keyOf_int_mk Tryd.underlying3 (wf_nat hf))
  have e : v = V f := by
    rw [h2] at hv
    unfold encV at hv
    simp only [Option.some.injEq, Prod.mk.injEq] at hv
    by_cases hT : T f = []
    · rw [if_neg (by simp [hT])] at hv
      rw [hn f hT]
      simpa using hv.1
    · rw [if_pos ⟨by omega, by simpa using hT⟩] at hv
      simpa using hv.1
  subst e
  unfold Oper.wp
  simp [execOp, hop, hm, hx, hrun, Result.andThen]
  exact hK' _ _ hK
/-- A tour is laid at a place. -/
theorem put_tour {b N : Nat} {T : ToursF} {V : Nat → Value} (h : TMap w b N T V) (hN : N ≤ 1000000) (hg : o.guard = none) (m x v : Operand) (hop : o.op = Op.mapUpdate 114 m x v) (hm : a.eval m = .map (some b)) (f : Nat) (hf : f ≤ 1000000) (hx : a.eval x = .int .i64 f) {t : List Int} (ht : t ≠ []) {u : Value} (hv : a.eval v = u)
    (hK : ∀ w', TMap w' b (N + 1) (fun g => if g = f then t else T g) (fun g => if g = f then u else V g) → w.grownBy w' (some b) → wpList Tryd.prog ops Q rest (a.put o.dst undef) w') : wpList Tryd.prog ops Q (o :: rest) a w := by
  obtain ⟨D, h1, h2⟩ := h
  refine wpList_mapUpdate_own w hg m x v 114 hop 3 76 keyT Tryd.underlying114 encV b N D hm h1 (by unfold maxLen; omega) _ _ _ hx hv (keyOf_int_mk Tryd.underlying3 (wf_nat hf)) (.held u) [] rfl ?_
  intro w' h3 h4
  exact hK w' ⟨_, h3, mapOf_put h1.isMap h2 f ht u⟩ h4
/-- A tour is struck. -/
theorem del_tour {b N : Nat} {T : ToursF} {V : Nat → Value} (h : TMap w b N T V) (hg : o.guard = none) (m x : Operand) (hop : o.op = Op.call { callee := Callee.builtin Builtin.delete, args := #[m, x], argTypes := #[114, 3] }) (hm : a.eval m = .map (some b)) (k : Nat) (hk : k ≤ 1000000) (hx : a.eval x = .int .i64 k)
    (hK : ∀ w', TMap w' b N (fun g => if g = k then [] else T g) (fun g => if g = k then .slice none 0 0 else V g) → w.grownBy w' (some b) → wpList Tryd.prog ops Q rest (a.put o.dst (.tuple #[])) w') : wpList Tryd.prog ops Q (o :: rest) a w := by
  refine wpList_plain hg fun K' hK' => ?_
  obtain ⟨D, h1, h2⟩ := h
  obtain ⟨w', hrun, h3, h4⟩ := h1.drop keyT Tryd.underlying114 (keyOf_int_mk Tryd.underlying3 (wf_nat hk)) o.type
  unfold Oper.wp
  simp [execOp, hop, resolve, invoke, builtin, hm, hx, hrun, Result.andThen]
  exact hK' _ _ (hK w' ⟨_, h3, mapOf_del h2 k⟩ h4.grown)
/-- Under way through the map: those of which P tells are still to come. -/
def RMap (w : World) (b r N : Nat) (T : ToursF) (V : Nat → Value) (P : Nat → Prop) (cnt : Nat) : Prop :=
  ∃ D left, w.ranges Tryd.prog 3 encV b r N D left cnt ∧ MapOf D T V ∧ ∀ f : Nat, T f ≠ [] → P f → left (.int .i64 f) = true
theorem RMap.owns {b r N cnt : Nat} {T : ToursF} {V : Nat → Value} {P : Nat → Prop} (h : RMap w b r N T V P cnt) : TMap w b N T V := by
  obtain ⟨D, left, h1, h2, _⟩ := h
  exact ⟨D, h1.owns, h2⟩
theorem RMap.left_eq {b r N cnt : Nat} {T : ToursF} {V : Nat → Value} {P : Nat → Prop} (h : RMap w b r N T V P cnt) : w.rangeLeft b r = cnt := by
  obtain ⟨D, left, h1, h2, _⟩ := h
  exact h1.left_eq
theorem RMap.imp {b r N cnt : Nat} {T : ToursF} {V : Nat → Value} {P P' : Nat → Prop} (h : RMap w b r N T V P cnt) (hp : ∀ f, P' f → P f) : RMap w b r N T V P' cnt := by
  obtain ⟨D, left, h1, h2, h3⟩ := h
  exact ⟨D, left, h1, h2, fun f k1 k2 => h3 f k1 (hp f k2)⟩
/-- The range begins. -/
theorem range_tours {b N : Nat} {T : ToursF} {V : Nat → Value} (P : Nat → Prop) (h : TMap w b N T V) (hg : o.guard = none) (m : Operand) (hop : o.op = Op.range 114 m) (hm : a.eval m = .map (some b))
    (hK : ∀ r w' cnt, r = w.heap.size → RMap w' b r N T V P cnt → w.grownBy w' none → wpList Tryd.prog ops Q rest (a.put o.dst (.pointer (some ⟨r, 0, none⟩))) w') : wpList Tryd.prog ops Q (o :: rest) a w := by
  obtain ⟨D, h1, h2⟩ := h
  refine wpList_range_own w hg m 114 hop 3 76 keyT Tryd.underlying114 encV b N D hm h1 ?_
  intro w' h3 h4 h5
  refine hK _ w' _ rfl ⟨D, _, h3, h2, fun f hf _ => ?_⟩ h4
  exact has_true_of_atKey (y := .held (V f)) (fun z => by rw [h2, if_pos ⟨by omega, by simpa using hf⟩]; simp)
/-- The next one. -/
theorem next_tour {b r N cnt : Nat} {T : ToursF} {V : Nat → Value} {P : Nat → Prop} (h : RMap w b r N T V P cnt) (hg : o.guard = none) (it : Operand) (hop : o.op = Op.next it false) (hit : a.eval it = .pointer (some ⟨r, 0, none⟩))
    (hDone : (∀ f, T f ≠ [] → ¬ P f) → wpList Tryd.prog ops Q rest (a.put o.dst (.tuple #[.bool false])) w)
    (hMore : ∀ (f : Nat) (w' : World) (cnt' : Nat), T f ≠ [] → RMap w' b r N T V (fun g => P g ∧ g ≠ f) cnt' → cnt' < cnt → w.grownBy w' (some r) → w'.heap.size = w.heap.size → (Instr.entry (.pointer (some ⟨r, 0, none⟩))).run Tryd.prog w' = .ok (.tuple #[.int .i64 f, V f]) w' → wpList Tryd.prog ops Q rest (a.put o.dst (.tuple #[.bool true, .int .i64 f, V f])) w') : wpList Tryd.prog ops Q (o :: rest) a w := by
  obtain ⟨D, left, h1, h2, h3⟩ := h
  refine wpList_next_ranges w hg it hop 3 keyT encV (Value.int .i64) id (fun key kl hkey => by obtain ⟨x, rfl, _⟩ := keyOf_int_inv Tryd.underlying3 hkey; exact ⟨x, rfl⟩) (fun v y hv => ⟨v, rfl⟩) b r N D left cnt hit h1 ?_ ?_
  · intro _ h4
    refine hDone fun f k1 k2 => ?_
    have := h3 f k1 k2
    rw [h4] at this
    cases this
  · intro x c kl y w' cnt' hkey hlx hR hat hrg hlt hgr hsz hen
    obtain ⟨x', ex, rfl, hwx⟩ := keyOf_int_inv Tryd.underlying3 hkey
    cases ex
    have hy : y.1 = .held c := by
      unfold encV at hR
      simp only [id, Option.some.injEq] at hR
      rw [← hR]
    have hxc : 0 ≤ x ∧ T x.toNat ≠ [] ∧ c = V x.toNat := by
      by_cases hc : 0 ≤ x ∧ T x.toNat ≠ []
      · have h5 := hat .nil
        rw [h2, if_pos hc, hy] at h5
        exact ⟨hc.1, hc.2, (DataW.held.inj h5).symm⟩
      · have h5 := hat .nil
        rw [h2, if_neg hc, hy] at h5
        cases h5
    obtain ⟨f, rfl⟩ : ∃ f : Nat, x = (f : Int) := ⟨x.toNat, by omega⟩
    have e1 : ((f : Int).toNat : Nat) = f := by simp
    rw [e1] at hxc
    obtain ⟨_, hT, rfl⟩ := hxc
    refine hMore f w' cnt' hT ⟨D, _, hrg, h2, fun g k1 k2 => ?_⟩ hlt hgr hsz hen
    have h5 := h3 g k1 k2.1
    have h6 : (Lit.int .i64 (g : Int)).sameKey (.int .i64 (f : Int)) = false := sameKey_ne (by intro h; cases h; exact k2.2 rfl)
    rw [h5, h6]
    rfl
/-- The next one, its slice written out. -/
theorem next_tour2 {b r N cnt base : Nat} {T : ToursF} {V : Nat → Value} {P : Nat → Prop} (H : ToursAt w base T V) (h : RMap w b r N T V P cnt) (hg : o.guard = none) (it : Operand) (hop : o.op = Op.next it false) (hit : a.eval it = .pointer (some ⟨r, 0, none⟩))
    (hDone : (∀ f, T f ≠ [] → ¬ P f) → wpList Tryd.prog ops Q rest (a.put o.dst (.tuple #[.bool false])) w)
    (hMore : ∀ (f g q c : Nat) (w' : World) (cnt' : Nat), T f ≠ [] → V f = .slice (some ⟨g, 0, none⟩) (q + 1) c → (T f).length = q + 1 → RMap w' b r N T V (fun g => P g ∧ g ≠ f) cnt' → cnt' < cnt → w.grownBy w' (some r) → (Instr.entry (.pointer (some ⟨r, 0, none⟩))).run Tryd.prog w' = .ok (.tuple #[.int .i64 f, .slice (some ⟨g, 0, none⟩) (q + 1) c]) w' → wpList Tryd.prog ops Q rest (a.put o.dst (.tuple #[.bool true, .int .i64 f, .slice (some ⟨g, 0, none⟩) (q + 1) c])) w') : wpList Tryd.prog ops Q (o :: rest) a w := by
  refine next_tour h hg it hop hit hDone ?_
  intro f w' cnt' hT h1 h2 h3 _ h5
  obtain ⟨g, q, c, e1, e2⟩ := H.form hT
  rw [e1] at h5 ⊢
  exact hMore f g q c w' cnt' hT e1 e2 h1 h2 h3 h5
/-- The tour that begins with a place, its slice known. -/
theorem look_tour2 {b N : Nat} {T : ToursF} {V : Nat → Value} (h : TMap w b N T V) (hn : ∀ f, T f = [] → V f = .slice none 0 0) (hg : o.guard = none) (m x : Operand) (hop : o.op = Op.lookup 114 m x false) (hm : a.eval m = .map (some b)) (f : Nat) (hf : f ≤ 1000000) (hx : a.eval x = .int .i64 f) {u : Value} (hu : V f = u)
    (hK : wpList Tryd.prog ops Q rest (a.put o.dst u) w) : wpList Tryd.prog ops Q (o :: rest) a w := by
  subst hu
  exact look_tour h hn hg m x hop hm f hf hx hK
end
theorem merged_eq {T : ToursF} {V : Nat → Value} {f k : Nat} (h : f ≠ k) (v : Value) : (fun g => if g = k then [] else (fun g => if g = f then T f ++ T k else T g) g) = mergeS T f k ∧ (fun g => if g = k then (.slice none 0 0 : Value) else (fun g => if g = f then v else V g) g) = fun g => if g = f then v else if g = k then .slice none 0 0 else V g := by
  constructor
  · funext g
    unfold mergeS
    by_cases e : g = k
    · have e2 : g ≠ f := fun h2 => h (by rw [← h2, e])
      rw [if_pos e, if_neg e2, if_pos e]
    · rw [if_neg e]
      simp only
      by_cases e2 : g = f
      · rw [if_pos e2, if_pos e2]
      · rw [if_neg e2, if_neg e2, if_neg e]
  · funext g
    by_cases e : g = k
    · have e2 : g ≠ f := fun h2 => h (by rw [← h2, e])
      rw [if_pos e, if_neg e2, if_pos e]
    · rw [if_neg e]
      simp only
      by_cases e2 : g = f
      · rw [if_pos e2, if_pos e2]
      · rw [if_neg e2, if_neg e2, if_neg e]
end Go.Proofs.YtannijeiecmjpaaDoor
