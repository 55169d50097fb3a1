/- What operators and literals yield; the conditions stand in each theorem. -/
import Derived.Test.YthokajebopeomaaAb4
import Derived.Laws.Strings
import Derived.Great.BuildSlice
set_option linter.unusedVariables false
set_option linter.unusedSimpArgs false
namespace Go.Ab

section
variable {P : Program} {T : Tab} {c : Cx} {o : Oper} {σ : St} {K : St → Prop} {N : Nat → Prop} {a : Act} {w : World} {next : Act → World → Prop} {Q : Exit → Act → World → Prop}

theorem binA_run {op : BinOp} {u v av : AV} {x y : Value} (hu : RelV N w u x) (hv : RelV N w v y) (h : binA op u v = some av) (t : TypeId) (p q : Operand) :
    ∃ z, RelV N w av z ∧ ∀ w', (do eqGuard op t p q x y; binOp op t x y : Sem Value).run P w' = .ok z w' := by
  unfold binA at h
  split at h
  · rename_i k i k' j
    cases hu; cases hv
    split at h
    · rename_i e; subst e
      have hg : ∀ w, (eqGuard op t p q (.int k i) (.int k j)).run P w = .ok () w := by
        intro w; unfold eqGuard; split <;> rfl
      cases op <;> simp only [] at h <;> try (cases h; done)
      case quo =>
        split at h
        · cases h
        · rename_i e; cases h
          exact ⟨_, .int _ _, fun w' => by simp [Sem.run_bind, hg, binOp, Op.intDiv, e]⟩
      case rem =>
        split at h
        · cases h
        · rename_i e; cases h
          exact ⟨_, .int _ _, fun w' => by simp [Sem.run_bind, hg, binOp, Op.intDiv, e]⟩
      all_goals
        cases h
        first
        | (refine ⟨.int k _, .int _ _, fun w' => ?_⟩; simp [Sem.run_bind, hg, binOp, Op.intArith]; done)
        | (refine ⟨.bool _, .bool _, fun w' => ?_⟩; simp [Sem.run_bind, hg, binOp, Op.intCmp]; done)
        | (refine ⟨.bool _, .bool _, fun w' => ?_⟩; simp only [Sem.run_bind, hg, Result.andThen_ok, binOp, Op.intCmp]; by_cases e : i = j <;> simp [e])
    · cases h
  · rename_i i j
    cases hu with | str _ hi =>
    cases hv with | str _ hj =>
    have hg : ∀ w, (eqGuard op t p q (.string ⟨i.toArray⟩) (.string ⟨j.toArray⟩)).run P w = .ok () w := by
      intro w; unfold eqGuard; split <;> rfl
    have e1 : ∀ l : List UInt8, (⟨l.toArray⟩ : ByteArray).toList = l := by
      intro l; simp
    have e2 : (i == j) = decide (i = j) := by
      by_cases e : i = j <;> simp [e]
    cases op <;> simp only [] at h <;> try (cases h; done)
    case add =>
      split at h
      · rename_i hl; cases h
        refine ⟨.string ⟨(i ++ j).toArray⟩, .str _ hl, fun w' => ?_⟩
        have h1 : ¬ (((⟨i.toArray⟩ : ByteArray).size + (⟨j.toArray⟩ : ByteArray).size : Nat) : Int) > IntKind.i64.max := by
          simp only [ByteArray.size, List.size_toArray]
          simp only [List.length_append, maxLen] at hl
          simp [IntKind.max, IntKind.signed, IntKind.bits]; omega
        have h2 : (⟨i.toArray⟩ ++ ⟨j.toArray⟩ : ByteArray) = ⟨(i ++ j).toArray⟩ := by
          apply ByteArray.ext
          simp
        simp only [Sem.run_bind, hg, Result.andThen_ok, binOp, Op.stringOp, if_neg h1, h2]; rfl
      · cases h
    all_goals
      cases h
      refine ⟨_, .bool _, fun w' => by simp only [Sem.run_bind, hg, Result.andThen_ok, binOp, Op.stringOp, e1, e2]; rfl⟩
  · cases h

theorem binT_run {T : Tab} (hT : TabOk P T) {op : BinOp} {u v av : AV} {x y : Value} {t : TypeId} {p q : Operand} (hu : RelV N w u x) (hv : RelV N w v y) (h : binT T t op (isConstO q) u v = some av) :
    ∃ z, RelV N w av z ∧ ∀ w', (do eqGuard op t p q x y; binOp op t x y : Sem Value).run P w' = .ok z w' := by
  have fin : ∀ (b : Bool), eqr op b = some av → (∀ w', (eqGuard op t p q x y).run P w' = .ok () w') → (∀ w', (Op.equal t x y).run P w' = .ok b w') → (op = .eql → binOp op t x y = (do pure (.bool (← Op.equal t x y)))) → (op = .neq → binOp op t x y = (do pure (.bool (!(← Op.equal t x y))))) →
      ∃ z, RelV N w av z ∧ ∀ w', (do eqGuard op t p q x y; binOp op t x y : Sem Value).run P w' = .ok z w' := by
    intro b hb hg he h1 h2
    cases op <;> simp only [eqr] at hb <;> try (cases hb; done)
    · cases hb
      exact ⟨_, .bool _, fun w' => by rw [h1 rfl]; simp [hg, he]⟩
    · cases hb
      exact ⟨_, .bool _, fun w' => by rw [h2 rfl]; simp [hg, he]⟩
  unfold binT at h
  split at h <;> try (cases h; done)
  · rename_i a b
    split at h
    · rename_i hk
      obtain ⟨d, hd, hd'⟩ := hT.kind hk
      have hd2 : d = .bool := by cases d <;> simp [shOf] at hd' <;> rfl
      subst hd2
      cases hu; cases hv
      refine fin _ h (fun w' => by unfold eqGuard; split <;> rfl) (fun w' => ?_) (fun e => by subst e; rfl) (fun e => by subst e; rfl)
      show (Op.equalIn (9999 + 1) t (.bool a) (.bool b)).run P w' = _
      unfold Op.equalIn
      rw [Sem.run_bind, run_underlying hd]
      cases a <;> cases b <;> rfl
    · cases h
  · rename_i t' v'
    split at h
    · rename_i hk
      obtain ⟨d, hd, hd'⟩ := hT.kind hk
      obtain ⟨ms, rfl⟩ : ∃ ms, d = .interface ms := by cases d <;> simp [shOf] at hd'; exact ⟨_, rfl⟩
      cases hu; cases hv
      refine fin _ h (fun w' => by unfold eqGuard; split <;> rfl) (fun w' => ?_) (fun e => by subst e; rfl) (fun e => by subst e; rfl)
      show (Op.equalIn (9999 + 1) t _ _).run P w' = _
      unfold Op.equalIn
      rw [Sem.run_bind, run_underlying hd]
      rfl
    · cases h
  · split at h
    · rename_i hk
      obtain ⟨hk, hc⟩ := hk
      obtain ⟨d, hd, hd'⟩ := hT.kind hk
      obtain ⟨ms, rfl⟩ : ∃ ms, d = .interface ms := by cases d <;> simp [shOf] at hd'; exact ⟨_, rfl⟩
      cases hu; cases hv
      obtain ⟨v, rfl⟩ : ∃ v, q = .const v := by cases q <;> simp [isConstO] at hc; exact ⟨_, rfl⟩
      refine fin _ h (fun w' => by unfold eqGuard; split <;> first | rfl | simp) (fun w' => ?_) (fun e => by subst e; rfl) (fun e => by subst e; rfl)
      show (Op.equalIn (9999 + 1) t _ _).run P w' = _
      unfold Op.equalIn
      rw [Sem.run_bind, run_underlying hd]
      rfl
    · cases h

theorem cl_set_get {l : List Value} {off : Nat} : ∀ (k : Nat) (cells : Array Value), off + k + l.length ≤ cells.size →
    ((l.zipIdx k).foldl (fun cs (c, j) => cs.setIfInBounds (off + j) c) cells).toList = splice cells.toList (off + k) l := by
  induction l with
  | nil => intro k cells h; simp [splice]
  | cons v l ih =>
    intro k cells h
    simp only [List.length_cons] at h
    simp only [List.zipIdx_cons, List.foldl_cons]
    rw [ih (k + 1) _ (by simp; omega)]
    have e := list_seg_step cells.toList (off + k) v l (by simp; omega)
    simpa [splice, Array.toList_setIfInBounds, Nat.add_assoc] using e

theorem cl_fold {l : Array Value} {off : Nat} {cells : Array Value} (h : off + l.size ≤ cells.size) :
    (l.zipIdx.foldl (fun cs (c, j) => cs.setIfInBounds (off + j) c) cells).toList = splice cells.toList off l.toList := by
  have := cl_set_get (l := l.toList) (off := off) 0 cells (by simpa using h)
  rw [← Array.foldl_toList]
  simpa using this

/-- Parts laid into cells. -/
theorem fill_rel {pl : Nat → Option (Nat × Nat)} {places : Nat → Option (Nat × Nat)} (hp : ∀ f o n, pl f = some (o, n) → places f = some (o, n)) :
    ∀ (ps : List (Nat × AV)) (vs : List (Nat × Value)) (cs : List AV) (cells : Array Value) (cs' : List AV), fillA pl cs ps = some cs' → ps.length = vs.length →
      (∀ (i : Nat) p x, ps[i]? = some p → vs[i]? = some x → p.1 = x.1 ∧ RelV N w p.2 x.2) →
      cells.size = cs.length → (∀ (j : Nat) av, cs[j]? = some av → ∃ u, cells[j]? = some u ∧ RelV N w av u) →
      ∃ cells', Instr.fill places cells vs = some cells' ∧ cells'.size = cs'.length ∧ ∀ (j : Nat) av, cs'[j]? = some av → ∃ u, cells'[j]? = some u ∧ RelV N w av u
  | [], [], cs, cells, cs', h, _, _, hs, hc => by
    cases h; exact ⟨cells, rfl, hs, hc⟩
  | (f, v) :: ps, (g, x) :: vs, cs, cells, cs', h, hl, hpv, hs, hc => by
    obtain ⟨e, hv⟩ := hpv 0 _ _ rfl rfl
    simp only at e hv
    subst e
    simp only [fillA] at h
    split at h
    · rename_i o n hf
      split at h
      · rename_i hlen
        obtain ⟨hl1, hl2, hcell⟩ := hlen
        obtain ⟨hz, hr, _⟩ := hv.cells hcell
        have hsz : (x.cells.zipIdx.foldl (fun cs (c, j) => cs.setIfInBounds (o + j) c) cells).toList = splice cells.toList o x.cells.toList := cl_fold (by omega)
        obtain ⟨cells', h1, h2, h3⟩ := fill_rel hp ps vs (splice cs o (cellsA v)) (x.cells.zipIdx.foldl (fun cs (c, j) => cs.setIfInBounds (o + j) c) cells) cs' h (by simpa using hl) (fun i p y h4 h5 => hpv (i + 1) p y h4 h5)
          (by have := congrArg List.length hsz; simp only [Array.length_toList] at this; rw [this]; simp [splice]; omega)
          (by
            intro j av hj
            rw [← Array.getElem?_toList, hsz]
            have hcl : cells.toList.length = cs.length := by simpa using hs
            simp only [splice, List.append_assoc] at hj ⊢
            by_cases h1 : j < o
            · rw [List.getElem?_append_left (by simp; omega), List.getElem?_take, if_pos h1] at hj ⊢
              simpa using hc j av hj
            · rw [List.getElem?_append_right (by simp; omega)] at hj ⊢
              simp only [List.length_take] at hj ⊢
              rw [show min o cs.length = o by omega] at hj
              rw [show min o cells.toList.length = o by omega]
              by_cases h2 : j - o < n
              · rw [List.getElem?_append_left (by omega)] at hj
                rw [List.getElem?_append_left (by simp; omega)]
                simpa using hr _ av hj
              · rw [List.getElem?_append_right (by omega)] at hj
                rw [List.getElem?_append_right (by simp; omega)]
                simp only [List.getElem?_drop, Array.length_toList] at hj ⊢
                rw [hz]
                simpa using hc _ av hj)
        refine ⟨cells', ?_, h2, h3⟩
        have h0 : ¬ ((decide (x.cells.size ≠ n) || decide (o + x.cells.size > cells.size)) = true) := by simp; omega
        simp only [Instr.fill, hp f o n hf]
        rw [if_neg h0]
        exact h1
      · cases h
    · cases h

theorem rowsLit_fill {n : Nat} : ∀ (k : Nat) (ps : List (Nat × AV)) (cs init : List AV), rowsLit n k ps = some cs → (k + ps.length) * n ≤ init.length → cs.all AV.cell = true →
    cs.length = ps.length * n ∧ fillA (fun i => some (i * n, n)) init ps = some (init.take (k * n) ++ cs ++ init.drop (k * n + cs.length))
  | k, [], cs, init, h, _, _ => by
    cases h
    simp [fillA]
  | k, (i, v) :: ps, cs, init, h, hl, hc => by
    simp only [rowsLit] at h
    split at h
    · rename_i hi
      obtain ⟨hi1, hi2⟩ := hi
      subst hi1
      obtain ⟨cs', h1, rfl⟩ := Option.map_eq_some_iff.1 h
      simp only [List.all_append, Bool.and_eq_true] at hc
      have e1 : (i + (ps.length + 1)) * n = i * n + n + ps.length * n := by rw [Nat.add_mul, Nat.add_mul, Nat.one_mul]; omega
      have e2 : (i + 1) * n = i * n + n := by rw [Nat.add_mul, Nat.one_mul]
      have e3 : (ps.length + 1) * n = ps.length * n + n := by rw [Nat.add_mul, Nat.one_mul]
      have e4 : (i + 1 + ps.length) * n = i * n + n + ps.length * n := by rw [← e1]; congr 1; omega
      simp only [List.length_cons] at hl
      rw [e1] at hl
      have hsl : (splice init (i * n) (cellsA v)).length = init.length := by simp [splice]; omega
      obtain ⟨h2, h3⟩ := rowsLit_fill (i + 1) ps cs' (splice init (i * n) (cellsA v)) h1 (by rw [e4, hsl]; omega) hc.2
      refine ⟨by simp [e3]; omega, ?_⟩
      simp only [fillA]
      rw [if_pos ⟨hi2, by omega, hc.1⟩, h3]
      congr 1
      rw [e2]
      have t1 : (splice init (i * n) (cellsA v)).take (i * n + n) = init.take (i * n) ++ cellsA v := by
        unfold splice
        rw [List.take_append_of_le_length (by simp; omega), List.take_of_length_le (by simp; omega)]
      have t2 : (splice init (i * n) (cellsA v)).drop (i * n + n + cs'.length) = init.drop (i * n + (cellsA v ++ cs').length) := by
        unfold splice
        rw [List.drop_append, List.drop_of_length_le (by simp; omega), List.nil_append, List.drop_drop]
        congr 1
        simp; omega
      rw [t1, t2]
      simp
    · cases h

end
end Go.Ab
