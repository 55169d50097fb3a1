/- Regions op by op, and each operation that only yields a value; the conditions stand in each theorem. -/
import Derived.Test.YtiaigcdckmpepaaB4
import Derived.Deep.Quiet
/-! Regions, op by op. -/
set_option linter.unusedVariables false
set_option linter.unusedSimpArgs false
namespace Go.Bb

def ValOk (P : Program) (c : Cx) (o : Oper) (σ : St) (K : St → Prop) : Prop :=
  ∀ F N a w, Rel c F N σ a w → ∃ av v, dok o.dst σ.nt = true ∧ K (σ.put o.dst av) ∧ RelV N w av v ∧ ∀ w', Same w w' → (execOp a.eval o).run P w' = .ok (.value v) w'
def OpOk (P : Program) (c : Cx) (o : Oper) (σ : St) (K : St → Prop) : Prop :=
  ∀ F N a w, Rel c F N σ a w → ∀ (next : Act → World → Prop) (Q : Exit → Act → World → Prop), (∀ σ' F' N' a' w', K σ' → Rel c F' N' σ' a' w' → next a' w') → o.wp P a w next Q

/-- Operations in the order of the text. -/
def GOps (P : Program) (c : Cx) (all r : List Oper) (σ : St) (K : St → Prop) : Prop :=
  ∀ k, (∀ j, r[j]? = all[k + j]?) → ∀ F N a w, Rel c F N σ a w → ∀ Q : Exit → Act → World → Prop, (∀ σ' F' N' a' w', K σ' → Rel c F' N' σ' a' w' → Q .normal a' w') → wpOps P all.toArray Q (List.range' k r.length) a w

/-- The worlds in which the operations of a region that only reads may find themselves. -/
def CW (N : Nat → Prop) (w w' : World) : Prop := ∃ N' : Nat → Prop, (∀ k, N k → N' k) ∧ (∀ k, k < w.heap.size → N' k → N k) ∧ Unch (fun _ => False) w w'

/-- Operations of a region that draws its order and only reads. -/
def GQ (P : Program) (c : Cx) (all r : List Oper) (σ : St) (K : St → Prop) : Prop :=
  ∀ F N a w, Rel c F N σ a w → ∀ Q' : Act → Prop, (∀ σ' a', K σ' → Rel c F N σ' a' w → Q' a') → wpQuiet P all.toArray (CW N w) Q' r a

def guardA (all : List Oper) (σ : St) (j : Nat) : Option AV := ((all[j]?).bind (·.dst)).bind fun d => getk d σ.slots

section
variable {P : Program} {T : Tab} {c : Cx} {F : Nat → Nat → Prop} {o : Oper} {σ : St} {K : St → Prop} {N : Nat → Prop} {a : Act} {w : World} {all r : List Oper}

theorem CW.rel (hr : Rel c F N σ a w) {w' : World} (h : CW N w w') : ∃ N', Rel c F N' σ a w' := by
  obtain ⟨N', h1, h2, h3⟩ := h
  exact ⟨N', hr.step h3 h2 h1⟩
theorem CW.same {w' : World} (h : CW N w w') : Same w w' := by
  obtain ⟨N', h1, h2, h3⟩ := h
  exact ⟨h3.size, fun k hk => h3.block k hk (fun h => h)⟩

theorem ValOk.op (h : ValOk P c o σ K) : OpOk P c o σ K := by
  intro F N a w hr next Q hn
  obtain ⟨av, v, h1, h2, h3, h4⟩ := h F N a w hr
  unfold Oper.wp; rw [h4 w (.refl w)]
  exact hn _ F N _ _ h2 (hr.put (dok_ok h1) h3)

theorem guard_rel (hr : Rel c F N σ a w) {j : Nat} {t : Bool} (h : guardA all σ j = some (.bool t)) : yielded all.toArray a.tmps j = some t := by
  unfold guardA at h
  unfold yielded
  obtain ⟨d, h1, h2⟩ := Option.bind_eq_some_iff.1 h
  obtain ⟨v, h3, h4⟩ := hr.slots d _ h2
  cases h4
  rw [show all.toArray[j]? = all[j]? by simp, h1]
  simp [h3]
theorem guard_und (hr : Rel c F N σ a w) {j : Nat} (h : guardA all σ j = some .und) : yielded all.toArray a.tmps j = none := by
  unfold guardA at h
  unfold yielded
  obtain ⟨d, h1, h2⟩ := Option.bind_eq_some_iff.1 h
  obtain ⟨v, h3, h4⟩ := hr.slots d _ h2
  cases h4
  rw [show all.toArray[j]? = all[j]? by simp, h1]
  simp [h3]
theorem wanted_none {o : Oper} (h : o.guard = none) (y : Nat → Option Bool) : Region.wanted o y = true := by unfold Region.wanted; rw [h]

theorem g_nil (h : K σ) : GOps P c all [] σ K := fun k _ F N a w hr Q hK => hK σ F N a w h hr
theorem q_nil (h : K σ) : GQ P c all [] σ K := fun F N a w hr Q hK => hK σ a h hr

theorem g_at {k : Nat} (hl : ∀ j, (o :: r)[j]? = all[k + j]?) : all.toArray[k]? = some o ∧ ∀ j, r[j]? = all[k + 1 + j]? :=
  ⟨by have := (hl 0).symm; simpa using this, fun j => by have := hl (j + 1); simpa [Nat.add_assoc, Nat.add_comm 1 j] using this⟩

theorem g_do (hw : ∀ F N a w, Rel c F N σ a w → Region.wanted o (yielded all.toArray a.tmps) = true) (h : OpOk P c o σ fun σ' => GOps P c all r σ' K) : GOps P c all (o :: r) σ K := by
  intro k hl F N a w hr Q hK
  obtain ⟨h0, hl'⟩ := g_at hl
  simp only [List.length_cons, List.range'_succ, wpOps, h0]
  rw [if_pos (hw F N a w hr)]
  exact .inl (h F N a w hr _ _ fun σ' F' N' a' w' h1 h2 => h1 (k + 1) hl' F' N' a' w' h2 Q hK)
theorem g_dont (hw : ∀ F N a w, Rel c F N σ a w → Region.wanted o (yielded all.toArray a.tmps) = false) (hd : dok o.dst σ.nt = true) (h : GOps P c all r (σ.put o.dst .und) K) : GOps P c all (o :: r) σ K := by
  intro k hl F N a w hr Q hK
  obtain ⟨h0, hl'⟩ := g_at hl
  simp only [List.length_cons, List.range'_succ, wpOps, h0]
  rw [if_neg (by rw [hw F N a w hr]; simp)]
  exact h (k + 1) hl' F N _ w (hr.put (dok_ok hd) .und) Q hK

theorem g_op (hg : o.guard = none) (h : OpOk P c o σ fun σ' => GOps P c all r σ' K) : GOps P c all (o :: r) σ K := g_do (fun _ _ _ _ _ => wanted_none hg _) h
theorem g_yes {j : Nat} {want t : Bool} (hg : o.guard = some (j, want)) (hs : guardA all σ j = some (.bool t)) (ht : t = want) (h : OpOk P c o σ fun σ' => GOps P c all r σ' K) : GOps P c all (o :: r) σ K :=
  g_do (fun _ _ _ _ hr => by unfold Region.wanted; rw [hg]; simp [guard_rel hr hs, ht]) h
theorem g_no {j : Nat} {want t : Bool} (hg : o.guard = some (j, want)) (hs : guardA all σ j = some (.bool t)) (ht : t = !want) (hd : dok o.dst σ.nt = true) (h : GOps P c all r (σ.put o.dst .und) K) : GOps P c all (o :: r) σ K :=
  g_dont (fun _ _ _ _ hr => by unfold Region.wanted; rw [hg]; simp [guard_rel hr hs, ht]) hd h
theorem g_und {j : Nat} {want : Bool} (hg : o.guard = some (j, want)) (hs : guardA all σ j = some .und) (hd : dok o.dst σ.nt = true) (h : GOps P c all r (σ.put o.dst .und) K) : GOps P c all (o :: r) σ K :=
  g_dont (fun _ _ _ _ hr => by unfold Region.wanted; rw [hg]; simp [guard_und hr hs]) hd h
/-- In the midst of a region a state may be made to say less. -/
theorem g_le {σ1 : St} (hw : Le σ σ1) (h : GOps P c all r σ1 K) : GOps P c all r σ K := fun k hl F N a w hr Q hK => let ⟨F', N', hr'⟩ := hw c F N a w hr; h k hl F' N' a w hr' Q hK

theorem good_region {id : Nat} {l : List Oper} {Q : Exit → St → Prop} (h : GOps P c l l σ (Q .normal)) : Good P c (.region id l.toArray false) σ Q := by
  intro F N a w hr
  refine wp_region ?_
  rw [List.range_eq_range']
  have := h 0 (fun j => by simp) F N a w hr (fun e a' w' => ∃ σ' F' N', Q e σ' ∧ Rel c F' N' σ' a' w') (fun σ' F' N' a' w' h1 h2 => ⟨σ', F', N', h1, h2⟩)
  simpa using this

/-! ### Regions that draw their order, and only read -/

theorem q_do (hw : ∀ F N a w, Rel c F N σ a w → Region.wanted o (yielded all.toArray a.tmps) = true) (h : ValOk P c o σ fun σ' => GQ P c all r σ' K) : GQ P c all (o :: r) σ K := by
  intro F N a w hr Q hK
  unfold wpQuiet
  rw [if_pos (hw F N a w hr)]
  obtain ⟨av, v, h1, h2, h3, h4⟩ := h F N a w hr
  exact ⟨v, fun w' hc => by unfold Oper.quietAt; rw [h4 w' hc.same]; exact ⟨rfl, rfl⟩, h2 F N _ w (hr.put (dok_ok h1) h3) Q hK⟩
theorem q_dont (hw : ∀ F N a w, Rel c F N σ a w → Region.wanted o (yielded all.toArray a.tmps) = false) (hd : dok o.dst σ.nt = true) (h : GQ P c all r (σ.put o.dst .und) K) : GQ P c all (o :: r) σ K := by
  intro F N a w hr Q hK
  unfold wpQuiet
  rw [if_neg (by rw [hw F N a w hr]; simp)]
  exact h F N _ w (hr.put (dok_ok hd) .und) Q hK
theorem q_op (hg : o.guard = none) (h : ValOk P c o σ fun σ' => GQ P c all r σ' K) : GQ P c all (o :: r) σ K := q_do (fun _ _ _ _ _ => wanted_none hg _) h
theorem q_yes {j : Nat} {want t : Bool} (hg : o.guard = some (j, want)) (hs : guardA all σ j = some (.bool t)) (ht : t = want) (h : ValOk P c o σ fun σ' => GQ P c all r σ' K) : GQ P c all (o :: r) σ K :=
  q_do (fun _ _ _ _ hr => by unfold Region.wanted; rw [hg]; simp [guard_rel hr hs, ht]) h
theorem q_no {j : Nat} {want t : Bool} (hg : o.guard = some (j, want)) (hs : guardA all σ j = some (.bool t)) (ht : t = !want) (hd : dok o.dst σ.nt = true) (h : GQ P c all r (σ.put o.dst .und) K) : GQ P c all (o :: r) σ K :=
  q_dont (fun _ _ _ _ hr => by unfold Region.wanted; rw [hg]; simp [guard_rel hr hs, ht]) hd h
theorem q_und {j : Nat} {want : Bool} (hg : o.guard = some (j, want)) (hs : guardA all σ j = some .und) (hd : dok o.dst σ.nt = true) (h : GQ P c all r (σ.put o.dst .und) K) : GQ P c all (o :: r) σ K :=
  q_dont (fun _ _ _ _ hr => by unfold Region.wanted; rw [hg]; simp [guard_und hr hs]) hd h

theorem good_draw (hm : P.follows .mixedOrders = true) {id : Nat} {l : List Oper} {Q : Exit → St → Prop} (hB : Region.lexB .any l.toArray = true) (h : GQ P c l l σ (Q .normal)) : Good P c (.region id l.toArray true) σ Q := by
  intro F N a w hr
  have hU0 : Unch (fun _ => False) w { w with drawn := w.drawn + 1 } := ⟨rfl, rfl, rfl, Nat.le_refl _, fun _ _ _ => rfl⟩
  refine wp_region_quiet (C := CW N w) hm hB ⟨N, fun _ h => h, fun _ _ h => h, hU0⟩ ?_
  exact h F N a w hr _ (fun σ' a' h1 h2 w' hw => let ⟨N', h3⟩ := hw.rel h2; ⟨σ', F, N', h1, h3⟩)

/-! ### Operations that only yield a value -/

variable {d : Option Tmp} {ty : TypeId} {pos : String} {af : Array Edge} {g : Option (Nat × Bool)}

theorem mkV {av : AV} (hd : dok o.dst σ.nt = true) (hK : K (σ.put o.dst av)) (hrun : ∀ F N a w, Rel c F N σ a w → ∃ v, RelV N w av v ∧ ∀ w', Same w w' → (execOp a.eval o).run P w' = .ok (.value v) w') : ValOk P c o σ K :=
  fun F N a w hr => let ⟨v, h1, h2⟩ := hrun F N a w hr; ⟨av, v, hd, hK, h1, h2⟩

theorem v_move {x : Operand} {av : AV} (hx : evA σ x = some av) (hd : dok d σ.nt = true) (hK : K (σ.put d av)) : ValOk P c ⟨d, .move x, ty, pos, af, g⟩ σ K :=
  mkV hd hK fun F N a w hr => ⟨_, evA_rel hr hx, fun w' _ => by simp [execOp]⟩
theorem v_assign {x : Operand} {av : AV} (hx : evA σ x = some av) (hd : dok d σ.nt = true) (hK : K (σ.put d av)) : ValOk P c ⟨d, .assign x, ty, pos, af, g⟩ σ K :=
  mkV hd hK fun F N a w hr => ⟨_, evA_rel hr hx, fun w' _ => by simp [execOp]⟩
theorem v_pickT {x y z : Operand} {t : Bool} {u : AV} (hx : evA σ x = some (.bool t)) (ht : t = true) (hy : evA σ y = some u) (hd : dok d σ.nt = true) (hK : K (σ.put d u)) : ValOk P c ⟨d, .pick x y z, ty, pos, af, g⟩ σ K :=
  mkV hd hK fun F N a w hr => by
    have h1 := evA_rel hr hx
    generalize hv : a.eval x = vx at h1
    cases h1
    exact ⟨_, evA_rel hr hy, fun w' _ => by simp [execOp, hv, asBool, ht]⟩
theorem v_pickF {x y z : Operand} {t : Bool} {u : AV} (hx : evA σ x = some (.bool t)) (ht : t = false) (hy : evA σ z = some u) (hd : dok d σ.nt = true) (hK : K (σ.put d u)) : ValOk P c ⟨d, .pick x y z, ty, pos, af, g⟩ σ K :=
  mkV hd hK fun F N a w hr => by
    have h1 := evA_rel hr hx
    generalize hv : a.eval x = vx at h1
    cases h1
    exact ⟨_, evA_rel hr hy, fun w' _ => by simp [execOp, hv, asBool, ht]⟩

theorem v_bin {op : BinOp} {t ty' : TypeId} {x y : Operand} {u v r : AV} (hx : evA σ x = some u) (hy : evA σ y = some v) (hb : binA op u v = some r) (hd : dok d σ.nt = true) (hK : K (σ.put d r)) : ValOk P c ⟨d, .binOp op t x y ty', ty, pos, af, g⟩ σ K :=
  mkV hd hK fun F N a w hr => by
    obtain ⟨z, h1, h2⟩ := binA_run (P := P) (evA_rel hr hx) (evA_rel hr hy) hb t x y
    exact ⟨z, h1, fun w' _ => by simp only [execOp]; rw [Sem.run_bind, h2]; rfl⟩
theorem v_cat {t ty' : TypeId} {x y : Operand} {i j : List UInt8} (hx : evA σ x = some (.str i)) (hy : evA σ y = some (.str j)) (hl : (i ++ j).length ≤ maxLen) (hd : dok d σ.nt = true) (hK : K (σ.put d (.str (i ++ j)))) : ValOk P c ⟨d, .binOp .add t x y ty', ty, pos, af, g⟩ σ K :=
  mkV hd hK fun F N a w hr => by
    obtain ⟨z, h1, h2⟩ := cat_run (P := P) (evA_rel hr hx) (evA_rel hr hy) hl t x y
    exact ⟨z, h1, fun w' _ => by simp only [execOp]; rw [Sem.run_bind, h2]; rfl⟩
theorem v_binT (hT : TabOk P T) {op : BinOp} {t ty' : TypeId} {x y : Operand} {u v r : AV} (hx : evA σ x = some u) (hy : evA σ y = some v) (hb : binT T t op (isConstO y) u v = some r) (hd : dok d σ.nt = true) (hK : K (σ.put d r)) : ValOk P c ⟨d, .binOp op t x y ty', ty, pos, af, g⟩ σ K :=
  mkV hd hK fun F N a w hr => by
    obtain ⟨z, h1, h2⟩ := binT_run (P := P) hT (p := x) (evA_rel hr hx) (evA_rel hr hy) hb
    exact ⟨z, h1, fun w' _ => by simp only [execOp]; rw [Sem.run_bind, h2]; rfl⟩
theorem v_quo {t ty' : TypeId} {x y : Operand} {k : IntKind} {i j : Int} (hx : evA σ x = some (.int k i)) (hy : evA σ y = some (.int k j)) (hj : j ≠ 0) (hd : dok d σ.nt = true) (hK : K (σ.put d (.int k (k.wrap (i.tdiv j))))) : ValOk P c ⟨d, .binOp .quo t x y ty', ty, pos, af, g⟩ σ K :=
  mkV hd hK fun F N a w hr => by
    have h1 := evA_rel hr hx
    have h2 := evA_rel hr hy
    generalize hv : a.eval x = vx at h1
    generalize hv' : a.eval y = vy at h2
    cases h1; cases h2
    have hg : ∀ w, (eqGuard .quo t x y (.int k i) (.int k j)).run P w = .ok () w := by
      intro w; unfold eqGuard; split <;> rfl
    exact ⟨_, .int _ _, fun w' _ => by simp [execOp, hv, hv', Sem.run_bind, hg, binOp, Op.intDiv, hj]⟩
theorem v_rem {t ty' : TypeId} {x y : Operand} {k : IntKind} {i j : Int} (hx : evA σ x = some (.int k i)) (hy : evA σ y = some (.int k j)) (hj : j ≠ 0) (hd : dok d σ.nt = true) (hK : K (σ.put d (.int k (i.tmod j)))) : ValOk P c ⟨d, .binOp .rem t x y ty', ty, pos, af, g⟩ σ K :=
  mkV hd hK fun F N a w hr => by
    have h1 := evA_rel hr hx
    have h2 := evA_rel hr hy
    generalize hv : a.eval x = vx at h1
    generalize hv' : a.eval y = vy at h2
    cases h1; cases h2
    have hg : ∀ w, (eqGuard .rem t x y (.int k i) (.int k j)).run P w = .ok () w := by
      intro w; unfold eqGuard; split <;> rfl
    exact ⟨_, .int _ _, fun w' _ => by simp [execOp, hv, hv', Sem.run_bind, hg, binOp, Op.intDiv, hj]⟩
theorem v_shl {t ty' : TypeId} {x y : Operand} {k k' : IntKind} {i j : Int} (hx : evA σ x = some (.int k i)) (hy : evA σ y = some (.int k' j)) (hj : 0 ≤ j) (hd : dok d σ.nt = true) (hK : K (σ.put d (.int k (k.wrap (i * 2 ^ (min j.toNat k.bits)))))) : ValOk P c ⟨d, .binOp .shl t x y ty', ty, pos, af, g⟩ σ K :=
  mkV hd hK fun F N a w hr => by
    have h1 := evA_rel hr hx
    have h2 := evA_rel hr hy
    generalize hv : a.eval x = vx at h1
    generalize hv' : a.eval y = vy at h2
    cases h1; cases h2
    have hg : ∀ w, (eqGuard .shl t x y (.int k i) (.int k' j)).run P w = .ok () w := by
      intro w; unfold eqGuard; split <;> rfl
    have hn : ¬ j < 0 := by omega
    exact ⟨_, .int _ _, fun w' _ => by simp [execOp, hv, hv', Sem.run_bind, hg, binOp, Op.shift, hn]⟩
theorem v_shr {t ty' : TypeId} {x y : Operand} {k k' : IntKind} {i j : Int} (hx : evA σ x = some (.int k i)) (hy : evA σ y = some (.int k' j)) (hj : 0 ≤ j) (hd : dok d σ.nt = true) (hK : K (σ.put d (.int k (i.fdiv (2 ^ (min j.toNat k.bits)))))) : ValOk P c ⟨d, .binOp .shr t x y ty', ty, pos, af, g⟩ σ K :=
  mkV hd hK fun F N a w hr => by
    have h1 := evA_rel hr hx
    have h2 := evA_rel hr hy
    generalize hv : a.eval x = vx at h1
    generalize hv' : a.eval y = vy at h2
    cases h1; cases h2
    have hg : ∀ w, (eqGuard .shr t x y (.int k i) (.int k' j)).run P w = .ok () w := by
      intro w; unfold eqGuard; split <;> rfl
    have hn : ¬ j < 0 := by omega
    exact ⟨_, .int _ _, fun w' _ => by simp [execOp, hv, hv', Sem.run_bind, hg, binOp, Op.shift, hn]⟩
theorem v_not {t : TypeId} {x : Operand} {b : Bool} (hx : evA σ x = some (.bool b)) (hd : dok d σ.nt = true) (hK : K (σ.put d (.bool !b))) : ValOk P c ⟨d, .unOp .not t x, ty, pos, af, g⟩ σ K :=
  mkV hd hK fun F N a w hr => by
    have h1 := evA_rel hr hx
    generalize hv : a.eval x = vx at h1
    cases h1
    exact ⟨_, .bool _, fun w' _ => by simp [execOp, hv, Op.unary]⟩
theorem v_neg {t : TypeId} {x : Operand} {k : IntKind} {n : Int} (hx : evA σ x = some (.int k n)) (hd : dok d σ.nt = true) (hK : K (σ.put d (.int k (k.wrap (0 - n))))) : ValOk P c ⟨d, .unOp .neg t x, ty, pos, af, g⟩ σ K :=
  mkV hd hK fun F N a w hr => by
    have h1 := evA_rel hr hx
    generalize hv : a.eval x = vx at h1
    cases h1
    exact ⟨.int k (k.wrap (0 - n)), .int _ _, fun w' _ => by simp [execOp, hv, Op.unary, Op.intArith]⟩
theorem v_extract {x : Operand} {i : Nat} {vs : List AV} {av : AV} (hx : evA σ x = some (.tup vs)) (hi : vs[i]? = some av) (hd : dok d σ.nt = true) (hK : K (σ.put d av)) : ValOk P c ⟨d, .extract x i, ty, pos, af, g⟩ σ K :=
  mkV hd hK fun F N a w hr => by
    have h1 := evA_rel hr hx
    generalize hv : a.eval x = vx at h1
    cases h1 with
    | tup _ us hl hh =>
      have hi' : i < us.size := by
        rw [hl]
        rcases Nat.lt_or_ge i vs.length with h' | h'
        · exact h'
        · rw [List.getElem?_eq_none h'] at hi; cases hi
      have hu : us[i]? = some us[i] := by simp [hi']
      exact ⟨us[i], hh i av _ hi hu, fun w' _ => by simp [execOp, hv, Instr.extract, hu]⟩

/-! Addresses -/
theorem ptr_addr {x b off n : Nat} : RelV N w (.ptr x b (off + n)) (.pointer (some ((⟨b, off, none⟩ : Addr).add n))) := by rw [add_none _ _ rfl]; exact .ptr _ _ _
theorem v_fieldP (hT : TabOk P T) {t f n m k b off : Nat} {x : Operand} (hx : evA σ x = some (.ptr k b off)) (hf : T.foff t f = some (n, m)) (hd : dok d σ.nt = true) (hK : K (σ.put d (.ptr k b (off + n)))) : ValOk P c ⟨d, .fieldAddr t x f, ty, pos, af, g⟩ σ K :=
  mkV hd hK fun F N a w hr => by
    have h1 := evA_rel hr hx
    generalize hv : a.eval x = vx at h1
    cases h1
    exact ⟨_, ptr_addr, fun w' _ => by simp [execOp, hv, run_fieldAddr hT hf]⟩
theorem v_fieldR (hT : TabOk P T) {t f n m k sz i off : Nat} {v : Value} {x : Operand} (hx : evA σ x = some (.rptr k v sz i off)) (hf : T.foff t f = some (n, m)) (hd : dok d σ.nt = true) (hK : K (σ.put d (.rptr k v sz i (off + n)))) : ValOk P c ⟨d, .fieldAddr t x f, ty, pos, af, g⟩ σ K :=
  mkV hd hK fun F N a w hr => by
    have h1 := evA_rel hr hx
    generalize hv : a.eval x = vx at h1
    cases h1 with
    | rptr _ _ _ _ b len cap =>
      refine ⟨.pointer (some ((⟨b, i * sz + off, none⟩ : Addr).add n)), ?_, fun w' _ => by simp [execOp, hv, run_fieldAddr hT hf]⟩
      rw [add_none _ _ rfl]
      show RelV N w _ (.pointer (some ⟨b, i * sz + off + n, none⟩))
      rw [Nat.add_assoc]; exact .rptr _ _ _ _ _ _ _
theorem v_fieldE (hT : TabOk P T) {t f n m : Nat} {x : Operand} {cs cs' : List AV} (hx : evA σ x = some (.eptr cs)) (hf : T.foff t f = some (n, m)) (hc : cs.drop n = cs') (hd : dok d σ.nt = true) (hK : K (σ.put d (.eptr cs'))) : ValOk P c ⟨d, .fieldAddr t x f, ty, pos, af, g⟩ σ K :=
  mkV hd hK fun F N a w hr => by
    have h1 := evA_rel hr hx
    generalize hv : a.eval x = vx at h1
    cases h1 with
    | eptr _ ad u hs h2 h3 =>
      refine ⟨.pointer (some (ad.add n)), ?_, fun w' _ => by simp [execOp, hv, run_fieldAddr hT hf]⟩
      subst hc
      rw [add_none _ _ hs]
      refine .eptr _ _ (fun j => u (n + j)) rfl (fun j av hj => ?_) (fun j av hj => ?_)
      · rw [List.getElem?_drop] at hj
        have := h2 _ av hj
        simpa [Nat.add_assoc] using this
      · rw [List.getElem?_drop] at hj
        exact h3 _ av hj

/-! Loads -/
def plainC (cs : List AV) : Bool := cs.all fun | .osl .. | .optr .. => false | _ => true
theorem own_plain {S : Nat → Prop} {av : AV} {v : Value} (h : OwnV N w S av v) (hp : plainC [av] = true) : RelV N w av v := by
  cases h with
  | frz _ _ _ h => exact h
  | osl0 | osl | optr => simp [plainC] at hp

theorem plain_get {l : List AV} {j : Nat} {av : AV} (h : plainC l = true) (hj : l[j]? = some av) : plainC [av] = true := by
  unfold plainC at *
  simpa using List.all_eq_true.1 h av (List.mem_of_getElem? hj)

/-- The cells at a place of what is owned. -/
theorem at_ptr (hr : Rel c F N σ a w) {k b off n : Nat} {t : TypeId} {cs l : List AV} (hh : getk k σ.heap = some (.pointer (some ⟨b, 0, none⟩), .optr t cs)) (hw : win cs off n = some l) (hp : plainC l = true) : l.length = n ∧ AtCells N w ⟨b, off, none⟩ l := by
  obtain ⟨hl, hj⟩ := win_get hw
  have hin : off + n ≤ cs.length := by unfold win at hw; split at hw <;> simp_all
  have ho := hr.heap.own k _ _ hh
  cases ho with
  | frz _ _ _ h => cases h
  | optr _ _ _ _ arr G u hb hh' hsz hG hd hc ho =>
    refine ⟨hl, rfl, (List.range n).map fun j => u (off + j), by simp [hl], ?_, ?_⟩
    · intro j v hv
      simp only [List.getElem?_map, Option.map_eq_some_iff] at hv
      obtain ⟨i, hi, rfl⟩ := hv
      have hjn : j < n ∧ i = j := by
        by_cases hjn : j < n
        · simp [hjn] at hi; exact ⟨hjn, hi.symm⟩
        · simp [hjn] at hi
      obtain ⟨hjn, rfl⟩ := hjn
      rw [add_none _ _ rfl]
      simp only [World.cell?, hh']
      have := hc (off + i) _ (List.getElem?_eq_getElem (by omega))
      simpa using this
    · intro j av v h5 h6
      simp only [List.getElem?_map, Option.map_eq_some_iff] at h6
      obtain ⟨i, hi, rfl⟩ := h6
      have hjn : j < n ∧ i = j := by
        by_cases hjn : j < n
        · simp [hjn] at hi; exact ⟨hjn, hi.symm⟩
        · simp [hjn] at hi
      obtain ⟨hjn, rfl⟩ := hjn
      have h5' := h5
      rw [hj i hjn] at h5
      exact own_plain (ho _ _ h5) (plain_get hp h5')

theorem v_loadP (hT : TabOk P T) {t t' k b off n : Nat} {g' : Bool} {x : Operand} {cs l : List AV} {av : AV} (hx : evA σ x = some (.ptr k b off)) (hh : getk k σ.heap = some (.pointer (some ⟨b, 0, none⟩), .optr t' cs)) (hs : T.size t = some n) (hg : T.agg t = some g')
    (hw : win cs off n = some l) (hp : plainC l = true) (hm : mkA g' l = some av) (hd : dok d σ.nt = true) (hK : K (σ.put d av)) : ValOk P c ⟨d, .load t x, ty, pos, af, g⟩ σ K :=
  mkV hd hK fun F N a w hr => by
    have h1 := evA_rel hr hx
    generalize hv : a.eval x = vx at h1
    cases h1
    obtain ⟨h2, h3⟩ := at_ptr hr hh hw hp
    obtain ⟨v, h6, h7⟩ := run_loadVar_at hT hs hg h2 h3 hm
    exact ⟨v, h6, fun w' hw => by simp [execOp, hv, Instr.loadAt, Instr.sureAddr, h7 w' hw]⟩

theorem v_loadE (hT : TabOk P T) {t n : Nat} {g' : Bool} {x : Operand} {cs l : List AV} {av : AV} (hx : evA σ x = some (.eptr cs)) (hs : T.size t = some n) (hg : T.agg t = some g')
    (hw : win cs 0 n = some l) (hm : mkA g' l = some av) (hd : dok d σ.nt = true) (hK : K (σ.put d av)) : ValOk P c ⟨d, .load t x, ty, pos, af, g⟩ σ K :=
  mkV hd hK fun F N a w hr => by
    have h1 := evA_rel hr hx
    generalize hv : a.eval x = vx at h1
    cases h1 with
    | eptr _ ad u hsp h2 h3 =>
      obtain ⟨hl, hj⟩ := win_get hw
      have hin : 0 + n ≤ cs.length := by unfold win at hw; split at hw <;> simp_all
      have hat : AtCells N w ad l := by
        refine ⟨hsp, (List.range n).map u, by simp [hl], ?_, ?_⟩
        · intro j v hv
          simp only [List.getElem?_map, Option.map_eq_some_iff] at hv
          obtain ⟨i, hi, rfl⟩ := hv
          have hjn : j < n ∧ i = j := by
            by_cases hjn : j < n
            · simp [hjn] at hi; exact ⟨hjn, hi.symm⟩
            · simp [hjn] at hi
          obtain ⟨hjn, rfl⟩ := hjn
          rw [add_none _ _ hsp]
          exact (h2 i _ (List.getElem?_eq_getElem (by omega))).2
        · intro j av v h5 h6
          simp only [List.getElem?_map, Option.map_eq_some_iff] at h6
          obtain ⟨i, hi, rfl⟩ := h6
          have hjn : j < n ∧ i = j := by
            by_cases hjn : j < n
            · simp [hjn] at hi; exact ⟨hjn, hi.symm⟩
            · simp [hjn] at hi
          obtain ⟨hjn, rfl⟩ := hjn
          rw [hj i hjn] at h5
          simp only [Nat.zero_add] at h5
          exact h3 i _ h5
      obtain ⟨v, h6, h7⟩ := run_loadVar_at hT hs hg hl hat hm
      exact ⟨v, h6, fun w' hw => by simp [execOp, hv, Instr.loadAt, Instr.sureAddr, h7 w' hw]⟩

theorem v_loadR (hT : TabOk P T) {t t' k sz i off n : Nat} {v : Value} {g' : Bool} {x : Operand} {rows : List (List AV)} {row l : List AV} {av : AV} (hx : evA σ x = some (.rptr k v sz i off)) (hh : getk k σ.heap = some (v, .osl t' sz rows)) (hrow : rows[i]? = some row)
    (hs : T.size t = some n) (hg : T.agg t = some g') (hw : win row off n = some l) (hp : plainC l = true) (hm : mkA g' l = some av) (hd : dok d σ.nt = true) (hK : K (σ.put d av)) : ValOk P c ⟨d, .load t x, ty, pos, af, g⟩ σ K :=
  mkV hd hK fun F N a w hr => by
    have h1 := evA_rel hr hx
    generalize hv : a.eval x = vx at h1
    cases h1 with
    | rptr _ _ _ _ b len cap =>
      have ho := hr.heap.own k _ _ hh
      cases ho with
      | frz _ _ _ h => cases h
      | osl _ _ _ _ _ _ arr G u hb hh' hsz hlc hmx hrl hG hdj hc ho =>
        obtain ⟨hl, hj⟩ := win_get hw
        have hin : off + n ≤ row.length := by unfold win at hw; split at hw <;> simp_all
        have hat : AtCells N w ⟨b, i * sz + off, none⟩ l := by
          refine ⟨rfl, (List.range n).map fun j => u i (off + j), by simp [hl], ?_, ?_⟩
          · intro j v hv
            simp only [List.getElem?_map, Option.map_eq_some_iff] at hv
            obtain ⟨q, hq, rfl⟩ := hv
            have hjn : j < n ∧ q = j := by
              by_cases hjn : j < n
              · simp [hjn] at hq; exact ⟨hjn, hq.symm⟩
              · simp [hjn] at hq
            obtain ⟨hjn, rfl⟩ := hjn
            rw [add_none _ _ rfl]
            simp only [World.cell?, hh']
            have := hc i row (off + q) _ hrow (List.getElem?_eq_getElem (by omega))
            rw [← Nat.add_assoc] at this
            simpa using this
          · intro j av v h5 h6
            simp only [List.getElem?_map, Option.map_eq_some_iff] at h6
            obtain ⟨q, hq, rfl⟩ := h6
            have hjn : j < n ∧ q = j := by
              by_cases hjn : j < n
              · simp [hjn] at hq; exact ⟨hjn, hq.symm⟩
              · simp [hjn] at hq
            obtain ⟨hjn, rfl⟩ := hjn
            have h5' := h5
            rw [hj q hjn] at h5
            exact own_plain (ho i row _ _ hrow h5) (plain_get hp h5')
        obtain ⟨v, h6, h7⟩ := run_loadVar_at hT hs hg hl hat hm
        exact ⟨v, h6, fun w' hw => by simp [execOp, hv, Instr.loadAt, Instr.sureAddr, h7 w' hw]⟩

/-- The address of an element. -/
theorem v_idxS {z : Bool} (hT : TabOk P T) {t e sz : Nat} {x i : Operand} {k : IntKind} {n : Int} {rows : List (List AV)} {row : List AV} (hx : evA σ x = some (.sl z rows)) (hi : evA σ i = some (.int k n)) (he : T.elem t = some e) (hs : T.size e = some sz)
    (h0 : 0 ≤ n) (h1 : n < rows.length) (hrow : rows.getD n.toNat [] = row) (hlen : row.length = sz) (hd : dok d σ.nt = true) (hK : K (σ.put d (.eptr row))) : ValOk P c ⟨d, .indexAddr t x i, ty, pos, af, g⟩ σ K :=
  mkV hd hK fun F N a w hr => by
    have hp := evA_rel hr hx
    have hq := evA_rel hr hi
    generalize hv : a.eval x = vx at hp
    generalize hv' : a.eval i = vi at hq
    cases hq
    have hlt : n.toNat < rows.length := by omega
    have hrow' : rows[n.toNat]? = some row := by rw [← hrow]; simp [List.getD, hlt]
    cases hp with
    | slNil => simp at hlt
    | sl _ rows ad cap sz' u hsp hc hm h5 h6 h7 h8z =>
      have h8 := h5 _ _ hrow'
      rw [hlen] at h8
      subst h8
      have hz := fun w => run_size hT hs w
      refine ⟨.pointer (some (ad.add (n.toNat * sz))), ?_, fun w' _ => ?_⟩
      rotate_left
      · simp only [execOp, hv, hv', Instr.indexAt]
        simp [Sem.run_bind, asIntOf, run_underlying (hT.elem he), hz, h0, h1]
      · rw [add_none _ _ (hsp (by omega))]
        refine .eptr _ _ (fun j => u n.toNat j) rfl (fun j av hj => ?_) (fun j av hj => h7 _ _ j av hrow' hj)
        have := h6 _ _ j av hrow' hj
        simpa [Nat.add_assoc] using this
theorem v_idxH (hT : TabOk P T) {t e sz q : Nat} {t' : TypeId} {v : Value} {x i : Operand} {k : IntKind} {n : Int} {rows : List (List AV)} (hx : ∃ y, evA σ x = some (.hd y v)) (hh : getk q σ.heap = some (v, .osl t' sz rows)) (hi : evA σ i = some (.int k n)) (he : T.elem t = some e) (hs : T.size e = some sz)
    (h0 : 0 ≤ n) (h1 : n < rows.length) (hd : dok d σ.nt = true) (hK : K (σ.put d (.rptr q v sz n.toNat 0))) : ValOk P c ⟨d, .indexAddr t x i, ty, pos, af, g⟩ σ K :=
  mkV hd hK fun F N a w hr => by
    obtain ⟨y, hx⟩ := hx
    have hp := evA_rel hr hx
    have hq := evA_rel hr hi
    generalize hv : a.eval x = vx at hp
    generalize hv' : a.eval i = vi at hq
    cases hq
    cases hp
    have hlt : n.toNat < rows.length := by omega
    have ho := hr.heap.own _ _ _ hh
    cases ho with
    | frz _ _ _ h => cases h
    | osl0 => simp at hlt
    | osl _ _ _ _ b cap arr G u hb hh' hsz hlc hmx hrl hG hdj hc ho =>
      have hz := fun w => run_size hT hs w
      refine ⟨.pointer (some ((⟨b, 0, none⟩ : Addr).add (n.toNat * sz))), ?_, fun w' _ => ?_⟩
      rotate_left
      · simp only [execOp, hv, hv', Instr.indexAt]
        simp [Sem.run_bind, asIntOf, run_underlying (hT.elem he), hz, h0, h1]
      · rw [add_none _ _ rfl]
        simp only [Nat.zero_add]
        exact .rptr _ sz n.toNat 0 b _ cap
theorem v_index (hT : TabOk P T) {t : TypeId} {x i : Operand} {k : IntKind} {n : Int} {l : List UInt8} (hx : evA σ x = some (.str l)) (hi : evA σ i = some (.int k n)) (hk : T.kind t = some .string) (h0 : 0 ≤ n) (h1 : n < l.length)
    (hd : dok d σ.nt = true) (hK : K (σ.put d (.int .u8 (l.getD n.toNat 0).toNat))) : ValOk P c ⟨d, .index t x i, ty, pos, af, g⟩ σ K :=
  mkV hd hK fun F N a w hr => by
    obtain ⟨dd, hd', hd''⟩ := hT.kind hk
    have hd2 : dd = .string := by cases dd <;> simp [shOf] at hd'' <;> rfl
    subst hd2
    have hp := evA_rel hr hx
    have hq := evA_rel hr hi
    generalize hv : a.eval x = vx at hp
    generalize hv' : a.eval i = vi at hq
    cases hq
    cases hp
    have hlt : n.toNat < l.length := by omega
    have hb : (⟨l.toArray⟩ : ByteArray)[n.toNat]? = some (l.getD n.toNat 0) := by
      rw [getElem?_pos _ _ (by simpa [ByteArray.size] using hlt)]
      simp [List.getD, hlt]
      rfl
    refine ⟨_, .int _ _, fun w' _ => ?_⟩
    simp only [execOp, hv, hv', Instr.index]
    simp [Sem.run_bind, asIntOf, run_underlying hd', h0, hb]
theorem v_build (hT : TabOk P T) {t : TypeId} {parts : Array (Nat × Operand)} {z cs : List AV} {ps : List (Nat × AV)} (hz : T.zero t = some z) (hs : structOk T t = true) (hps : evParts σ parts.toList = some ps) (hf : fillA (T.foff t) z ps = some cs)
    (hd : dok d σ.nt = true) (hK : K (σ.put d (.agg cs))) : ValOk P c ⟨d, .build t parts, ty, pos, af, g⟩ σ K :=
  mkV hd hK fun F N a w hr => by
    obtain ⟨cells, h4, h5, h6⟩ := run_build hT hr hz hs hps hf
    exact ⟨.agg cells, .agg _ _ h5 (fun i av v h7 h8 => by obtain ⟨u, h9, h10⟩ := h6 i av h7; rw [h8] at h9; cases h9; exact h10), fun w' _ => by simp [execOp, h4 w']⟩
theorem v_sliceS (hT : TabOk P T) {t : TypeId} {x : Operand} {lo hi : Option Operand} {l m : List UInt8} {i : Int} {j : Option Int} (hx : evA σ x = some (.str l)) (hlo : loA σ lo = some i) (hhi : hiA σ hi = some j) (hk : T.kind t = some .string)
    (h2 : 0 ≤ i) (h3 : i ≤ j.getD l.length) (h4 : j.getD l.length ≤ l.length) (hm : m = (l.take (j.getD l.length).toNat).drop i.toNat) (hd : dok d σ.nt = true) (hK : K (σ.put d (.str m))) : ValOk P c ⟨d, .slice t x lo hi none, ty, pos, af, g⟩ σ K :=
  mkV hd hK fun F N a w hr => by
    have hm' : sliceA l i (j.getD l.length) = some m := by unfold sliceA; rw [if_pos ⟨h2, h3, h4⟩, hm]
    obtain ⟨dd, hd', hd''⟩ := hT.kind hk
    have hd2 : dd = .string := by cases dd <;> simp [shOf] at hd'' <;> rfl
    subst hd2
    have hp := evA_rel hr hx
    generalize hv : a.eval x = vx at hp
    cases hp with
    | str _ hl =>
      refine ⟨.string ⟨m.toArray⟩, .str _ (by rw [hm]; simp; omega), fun w' _ => ?_⟩
      have hb := run_bounds (P := P) hr hlo hhi (Nat.le_refl l.length) (b := false) h2 h3 h4 w'
      have hs : (⟨l.toArray⟩ : ByteArray).size = l.length := rfl
      simp only [execOp, hv, Instr.sliceAt]
      simp only [Sem.run_bind, run_underlying hd', Result.andThen_ok, Instr.slice, hs, Option.map_none, Option.isSome_none, Bool.false_eq_true, if_false, hb, Sem.run_pure, slice_str hm']
theorem v_sliceL {z : Bool} (hT : TabOk P T) {t e sz : TypeId} {x : Operand} {lo hi : Option Operand} {rows rows' : List (List AV)} {i : Int} {j : Option Int} (hx : evA σ x = some (.sl z rows)) (hlo : loA σ lo = some i) (hhi : hiA σ hi = some j) (he : T.elem t = some e) (hs : T.size e = some sz)
    (hrl : ∀ r ∈ rows, r.length = sz) (h2 : 0 ≤ i) (h3 : i ≤ j.getD rows.length) (h4 : j.getD rows.length ≤ rows.length) (hm : rows' = (rows.take (j.getD rows.length).toNat).drop i.toNat) (hd : dok d σ.nt = true) (hK : K (σ.put d (.sl z rows'))) : ValOk P c ⟨d, .slice t x lo hi none, ty, pos, af, g⟩ σ K :=
  mkV hd hK fun F N a w hr => by
    have hm' : sliceA rows i (j.getD rows.length) = some rows' := by unfold sliceA; rw [if_pos ⟨h2, h3, h4⟩, hm]
    have hall : rows.all (fun r => decide (r.length = sz)) = true := List.all_eq_true.2 fun r hr => by simpa using hrl r hr
    have hp := evA_rel hr hx
    generalize hv : a.eval x = vx at hp
    cases hp with
    | slNil =>
      have h0 : i = 0 := by simp at h3 h4; omega
      have hj0 : j.getD 0 = 0 := by simp at h3 h4; omega
      have hb := run_bounds (P := P) hr hlo hhi (len := 0) (Nat.le_refl 0) (b := true) h2 h3 h4
      have : rows' = [] := by rw [hm]; simp
      subst this
      refine ⟨_, .slNil _, fun w' _ => ?_⟩
      simp [execOp, hv, Instr.sliceAt, Instr.slice, run_underlying (hT.elem he), hb w', h0, hj0, run_size hT hs]
    | sl _ _ ad cap sz' u hsp hc hmx h5 h6 h7 h8z =>
      refine ⟨_, slice_rows hm' (.sl z rows ad cap sz' u hsp hc hmx h5 h6 h7 h8z) hall, fun w' _ => ?_⟩
      have hb := run_bounds (P := P) hr hlo hhi (len := rows.length) hc (b := true) h2 h3 h4 w'
      simp only [execOp, hv, Instr.sliceAt]
      simp only [Sem.run_bind, run_underlying (hT.elem he), Result.andThen_ok, Instr.slice, Option.map_none, hb, run_size hT hs, Sem.run_pure]
      split <;> rfl
theorem v_lenS (hT : TabOk P T) {x : Operand} {at_ : Array TypeId} {t : TypeId} {l : List UInt8} (hx : evA σ x = some (.str l)) (ht : at_[0]? = some t) (hk : T.kind t = some .string) (hd : dok d σ.nt = true) (hK : K (σ.put d (.int .i64 l.length))) : ValOk P c ⟨d, .call ⟨.builtin .len, #[x], at_⟩, ty, pos, af, g⟩ σ K :=
  mkV hd hK fun F N a w hr => by
    obtain ⟨dd, hd', hd''⟩ := hT.kind hk
    have hd2 : dd = .string := by cases dd <;> simp [shOf] at hd'' <;> rfl
    subst hd2
    have hp := evA_rel hr hx
    generalize hv : a.eval x = vx at hp
    cases hp
    refine ⟨_, .int _ _, fun w' _ => ?_⟩
    simp only [execOp, resolve]
    simp [invoke, builtin, Builtin.len_, ht, run_underlying hd', goInt, hv]
    rfl
theorem v_lenL {z : Bool} (hT : TabOk P T) {x : Operand} {at_ : Array TypeId} {t e : TypeId} {rows : List (List AV)} (hx : evA σ x = some (.sl z rows)) (ht : at_[0]? = some t) (he : T.elem t = some e) (hd : dok d σ.nt = true) (hK : K (σ.put d (.int .i64 rows.length))) : ValOk P c ⟨d, .call ⟨.builtin .len, #[x], at_⟩, ty, pos, af, g⟩ σ K :=
  mkV hd hK fun F N a w hr => by
    have hp := evA_rel hr hx
    generalize hv : a.eval x = vx at hp
    refine ⟨.int .i64 rows.length, .int _ _, fun w' _ => ?_⟩
    simp only [execOp, resolve]
    cases hp <;> simp [invoke, builtin, Builtin.len_, ht, run_underlying (hT.elem he), goInt, hv]
theorem v_lenN (hT : TabOk P T) {x : Operand} {at_ : Array TypeId} {t e : TypeId} (hx : evA σ x = some .nil) (ht : at_[0]? = some t) (he : T.elem t = some e) (hd : dok d σ.nt = true) (hK : K (σ.put d (.int .i64 0))) : ValOk P c ⟨d, .call ⟨.builtin .len, #[x], at_⟩, ty, pos, af, g⟩ σ K :=
  mkV hd hK fun F N a w hr => by
    have hp := evA_rel hr hx
    generalize hv : a.eval x = vx at hp
    refine ⟨.int .i64 0, .int _ _, fun w' _ => ?_⟩
    simp only [execOp, resolve]
    cases hp <;> simp [invoke, builtin, Builtin.len_, ht, run_underlying (hT.elem he), goInt, hv]
theorem v_lenH (hT : TabOk P T) {x : Operand} {at_ : Array TypeId} {t e q t' sz : Nat} {v : Value} {rows : List (List AV)} (hx : ∃ y, evA σ x = some (.hd y v)) (hh : getk q σ.heap = some (v, .osl t' sz rows)) (ht : at_[0]? = some t) (he : T.elem t = some e) (hd : dok d σ.nt = true) (hK : K (σ.put d (.int .i64 rows.length))) : ValOk P c ⟨d, .call ⟨.builtin .len, #[x], at_⟩, ty, pos, af, g⟩ σ K :=
  mkV hd hK fun F N a w hr => by
    obtain ⟨y, hx⟩ := hx
    have hp := evA_rel hr hx
    generalize hv : a.eval x = vx at hp
    refine ⟨.int .i64 rows.length, .int _ _, fun w' _ => ?_⟩
    simp only [execOp, resolve]
    have ho := hr.heap.own _ _ _ hh
    cases hp
    cases ho with
    | frz _ _ _ h => cases h
    | osl0 => simp [invoke, builtin, Builtin.len_, ht, run_underlying (hT.elem he), goInt, hv]
    | osl => simp [invoke, builtin, Builtin.len_, ht, run_underlying (hT.elem he), goInt, hv]
theorem v_nilP {x : Operand} {k b off : Nat} (hx : evA σ x = some (.ptr k b off)) (hd : dok d σ.nt = true) (hK : K (σ.put d (.ptr k b off))) : ValOk P c ⟨d, .nilCheck x, ty, pos, af, g⟩ σ K :=
  mkV hd hK fun F N a w hr => by
    have hp := evA_rel hr hx
    generalize hv : a.eval x = vx at hp
    cases hp
    exact ⟨_, .ptr _ _ _, fun w' _ => by simp [execOp, hv]⟩
theorem v_nilR {x : Operand} {k sz i off : Nat} {v : Value} (hx : evA σ x = some (.rptr k v sz i off)) (hd : dok d σ.nt = true) (hK : K (σ.put d (.rptr k v sz i off))) : ValOk P c ⟨d, .nilCheck x, ty, pos, af, g⟩ σ K :=
  mkV hd hK fun F N a w hr => by
    have hp := evA_rel hr hx
    generalize hv : a.eval x = vx at hp
    cases hp
    exact ⟨_, .rptr _ _ _ _ _ _ _, fun w' _ => by simp [execOp, hv]⟩
theorem v_nilE {x : Operand} {cs : List AV} (hx : evA σ x = some (.eptr cs)) (hd : dok d σ.nt = true) (hK : K (σ.put d (.eptr cs))) : ValOk P c ⟨d, .nilCheck x, ty, pos, af, g⟩ σ K :=
  mkV hd hK fun F N a w hr => by
    have hp := evA_rel hr hx
    generalize hv : a.eval x = vx at hp
    cases hp with
    | eptr _ ad u h1 h2 h3 => exact ⟨_, .eptr _ ad u h1 h2 h3, fun w' _ => by simp [execOp, hv]⟩
theorem v_iface (hT : TabOk P T) {t : TypeId} {x : Operand} {av : AV} {sh : Sh} (hx : evA σ x = some av) (hk : T.kind t = some sh) (hn : (match sh with | .iface | .other => false | _ => true) = true) (hd : dok d σ.nt = true) (hK : K (σ.put d (.ifc t av))) : ValOk P c ⟨d, .makeInterface t x, ty, pos, af, g⟩ σ K :=
  mkV hd hK fun F N a w hr => by
    obtain ⟨dd, hd', hd''⟩ := hT.kind hk
    refine ⟨.iface t (a.eval x), .ifc _ _ _ (evA_rel hr hx), fun w' _ => ?_⟩
    have : (Instr.makeInterface t (a.eval x)).run P w' = .ok (.iface t (a.eval x)) w' := by
      unfold Instr.makeInterface
      rw [Sem.run_bind, run_underlying hd']
      cases dd <;> first | rfl | (simp [shOf] at hd''; subst hd''; simp at hn)
    simp [execOp, this]
theorem tup2 {p q : AV} {p' q' : Value} (hp : RelV N w p p') (hq : RelV N w q q') : RelV N w (.tup [p, q]) (.tuple #[p', q']) := by
  refine .tup _ _ rfl (fun i av v h3 h4 => ?_)
  match i with
  | 0 => cases h3; cases h4; exact hp
  | 1 => cases h3; cases h4; exact hq
  | n + 2 => simp at h3
theorem v_assertY (hT : TabOk P T) {t xt : TypeId} {x : Operand} {av : AV} {sh : Sh} (hx : evA σ x = some (.ifc t av)) (hk : T.kind t = some sh) (hn : (match sh with | .iface | .other => false | _ => true) = true) (hd : dok d σ.nt = true) (hK : K (σ.put d (.tup [av, .bool true]))) : ValOk P c ⟨d, .typeAssert x xt t true, ty, pos, af, g⟩ σ K :=
  mkV hd hK fun F N a w hr => by
    have hv := evA_rel hr hx
    generalize hval : a.eval x = val at hv
    obtain ⟨dd, hd', hd''⟩ := hT.kind hk
    cases hv with
    | ifc _ _ v' hv' =>
      refine ⟨.tuple #[v', .bool true], tup2 hv' (.bool _), fun w' _ => ?_⟩
      have : (Instr.typeAssert (.iface t v') xt t true).run P w' = .ok (.tuple #[v', .bool true]) w' := by
        unfold Instr.typeAssert
        rw [Sem.run_bind, run_underlying hd']
        cases dd <;> first | (simp [shOf] at hd''; subst hd''; simp at hn; done) | simp
      simp [execOp, hval, this]
theorem v_assertN (hT : TabOk P T) {t u xt : TypeId} {x : Operand} {av zr : AV} {sh : Sh} {z : List AV} {g' : Bool} (hx : evA σ x = some (.ifc u av)) (hu : (u == t) = false) (hk : T.kind t = some sh) (hn : (match sh with | .iface | .other => false | _ => true) = true) (hz : T.zero t = some z) (hg : T.agg t = some g') (hm : mkA g' z = some zr)
    (hd : dok d σ.nt = true) (hK : K (σ.put d (.tup [zr, .bool false]))) : ValOk P c ⟨d, .typeAssert x xt t true, ty, pos, af, g⟩ σ K :=
  mkV hd hK fun F N a w hr => by
    have hv := evA_rel hr hx
    generalize hval : a.eval x = val at hv
    obtain ⟨dd, hd', hd''⟩ := hT.kind hk
    have hu : ¬ u = t := by simpa using hu
    cases hv with
    | ifc _ _ v' hv' =>
      obtain ⟨i, z', h5, h6, h7⟩ := hT.whole hz hg hm
      refine ⟨.tuple #[z', .bool false], tup2 (h7 N w) (.bool _), fun w' _ => ?_⟩
      have : (Instr.typeAssert (.iface u v') xt t true).run P w' = .ok (.tuple #[z', .bool false]) w' := by
        unfold Instr.typeAssert
        rw [Sem.run_bind, run_underlying hd']
        cases dd <;> first | (simp [shOf] at hd''; subst hd''; simp at hn; done) | simp [hu, zeroValue, typeInfo, h5, h6]
      simp [execOp, hval, this]
theorem v_assert0 (hT : TabOk P T) {t xt : TypeId} {x : Operand} {zr : AV} {sh : Sh} {z : List AV} {g' : Bool} (hx : evA σ x = some (.raw .nilIface)) (hk : T.kind t = some sh) (hn : (match sh with | .iface | .other => false | _ => true) = true) (hz : T.zero t = some z) (hg : T.agg t = some g') (hm : mkA g' z = some zr)
    (hd : dok d σ.nt = true) (hK : K (σ.put d (.tup [zr, .bool false]))) : ValOk P c ⟨d, .typeAssert x xt t true, ty, pos, af, g⟩ σ K :=
  mkV hd hK fun F N a w hr => by
    have hv := evA_rel hr hx
    generalize hval : a.eval x = val at hv
    obtain ⟨dd, hd', hd''⟩ := hT.kind hk
    cases hv
    obtain ⟨i, z', h5, h6, h7⟩ := hT.whole hz hg hm
    refine ⟨.tuple #[z', .bool false], tup2 (h7 N w) (.bool _), fun w' _ => ?_⟩
    have : (Instr.typeAssert .nilIface xt t true).run P w' = .ok (.tuple #[z', .bool false]) w' := by
      unfold Instr.typeAssert
      rw [Sem.run_bind, run_underlying hd']
      cases dd <;> first | (simp [shOf] at hd''; subst hd''; simp at hn; done) | simp [zeroValue, typeInfo, h5, h6]
    simp [execOp, hval, this]
/-- Whole numbers of another kind. -/
theorem v_convI (hT : TabOk P T) {s t : TypeId} {x : Operand} {k k' : IntKind} {n : Int} {sh : Sh} (hx : evA σ x = some (.int k n)) (hs : T.kind s = some sh) (ht : T.kind t = some (.int k')) (hd : dok d σ.nt = true) (hK : K (σ.put d (.int k' (k'.wrap n)))) : ValOk P c ⟨d, .convert s t x, ty, pos, af, g⟩ σ K :=
  mkV hd hK fun F N a w hr => by
    have hp := evA_rel hr hx
    generalize hv : a.eval x = vx at hp
    cases hp
    obtain ⟨ds, hs', _⟩ := hT.kind hs
    obtain ⟨dt, ht', ht''⟩ := hT.kind ht
    have hd2 : dt = .int k' := by cases dt <;> simp [shOf] at ht'' <;> rw [ht'']
    subst hd2
    refine ⟨.int k' (k'.wrap n), .int _ _, fun w' _ => ?_⟩
    simp [execOp, convert, hv, run_underlying hs', run_underlying ht', Conv.intToInt]
theorem v_convS (hT : TabOk P T) {s t : TypeId} {x : Operand} {l : List UInt8} {sh : Sh} (hx : evA σ x = some (.str l)) (hs : T.kind s = some sh) (ht : T.kind t = some .string) (hd : dok d σ.nt = true) (hK : K (σ.put d (.str l))) : ValOk P c ⟨d, .convert s t x, ty, pos, af, g⟩ σ K :=
  mkV hd hK fun F N a w hr => by
    have hp := evA_rel hr hx
    generalize hv : a.eval x = vx at hp
    cases hp with
    | str _ hl =>
      obtain ⟨ds, hs', _⟩ := hT.kind hs
      obtain ⟨dt, ht', ht''⟩ := hT.kind ht
      have hd2 : dt = .string := by cases dt <;> simp [shOf] at ht'' <;> rfl
      subst hd2
      refine ⟨_, .str _ hl, fun w' _ => ?_⟩
      simp [execOp, convert, hv, run_underlying hs', run_underlying ht']
end
end Go.Bb
