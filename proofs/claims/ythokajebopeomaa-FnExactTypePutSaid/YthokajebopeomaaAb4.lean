/- What operations that write leave; the conditions stand in each theorem. -/
import Derived.Test.YthokajebopeomaaAb3
/-! What 'aop' says is what the machine does. -/
set_option linter.unusedVariables false
set_option linter.unusedSimpArgs false
namespace Go.Ab

section
variable {P : Program} {T : Tab} {c : Cx} {o : Oper} {σ : St} {K : St → Prop} {N : Nat → Prop} {a : Act} {w : World} {next : Act → World → Prop} {Q : Exit → Act → World → Prop}

theorem wp_val {v : Value} {w' : World} (h : (execOp a.eval o).run P w = .ok (.value v) w') (hn : next (a.put o.dst v) w') : o.wp P a w next Q := by
  unfold Oper.wp; rw [h]; exact hn

theorem k1_ok (hr : Rel c N σ a w) (hn : ∀ σ' N' a' w', K σ' → Rel c N' σ' a' w' → next a' w') {x : Option AV} (h : kont o σ K x)
    (hrun : ∀ av, x = some av → ∃ v, (execOp a.eval o).run P w = .ok (.value v) w ∧ RelV N w av v) : o.wp P a w next Q := by
  cases x with
  | none => exact h.elim
  | some av =>
    obtain ⟨v, h1, h2⟩ := hrun av rfl
    exact wp_val h1 (hn _ N _ _ h.2 (hr.put (dok_ok h.1) h2))

/-- What an operation that only yields a value comes to. -/
theorem k1_val {x : Option AV} (h : kont o σ K x) (hrun : ∀ av, x = some av → ∃ v, RelV N w av v ∧ ∀ w', Same w w' → (execOp a.eval o).run P w' = .ok (.value v) w') :
    ∃ av v, dok o.dst σ.nt = true ∧ K (σ.put o.dst av) ∧ RelV N w av v ∧ ∀ w', Same w w' → (execOp a.eval o).run P w' = .ok (.value v) w' := by
  cases x with
  | none => exact h.elim
  | some av => obtain ⟨v, h1, h2⟩ := hrun av rfl; exact ⟨av, v, h.1, h.2, h1, h2⟩

theorem run_size' (hT : TabOk P T) {t n : Nat} (h : T.size t = some n) (w : World) : (sizeOf t).run P w = .ok n w := run_size hT h w

/-- Room for a new block. -/
theorem Rel.alloc (hr : Rel c N σ a w) {arr : Array Value} {t : TypeId} {cs : List AV} {size : Nat} (hs : arr.size = size) (hl : cs.length ≤ size) (hc : ∀ (j : Nat) av, cs[j]? = some av → ∃ u, arr[j]? = some u ∧ RelV N w av u) :
    fresh w.heap.size σ.heap ∧ Rel c (fun k => N k ∨ k = w.heap.size) { σ with heap := (w.heap.size, .row t size cs) :: σ.heap } a (w.alloc (.cells arr t)) := by
  have hf : fresh w.heap.size σ.heap := by
    intro hk
    have hk' : ∃ o, getk w.heap.size σ.heap = some o := by
      generalize w.heap.size = b at *
      generalize σ.heap = l at *
      clear hc hr
      induction l with
      | nil => simp [keys] at hk
      | cons p l ih =>
        obtain ⟨i, y⟩ := p
        simp only [getk]
        by_cases hi : i = b
        · exact ⟨y, by simp [hi]⟩
        · simp only [hi, if_false]
          exact ih (by simp only [keys, List.map_cons, List.mem_cons] at hk; exact hk.resolve_left (fun h => hi h.symm))
    obtain ⟨o, ho⟩ := hk'
    have := (hr.heap _ _ ho).2.2.lt
    omega
  have hL : Later (fun _ => False) w (w.alloc (.cells arr t)) := ⟨by simp, fun k hk _ => by
    show (w.heap.push _)[k]? = _
    rw [Array.getElem?_push, if_neg (by omega)]⟩
  have hU : Unch (fun _ => False) w (w.alloc (.cells arr t)) := ⟨rfl, rfl, rfl, by simp, hL.2⟩
  have hstep := hr.step (N' := fun k => N k ∨ k = w.heap.size) hU (fun i hi h => h.resolve_right (by omega)) (fun i h => .inl h)
  refine ⟨hf, hstep.defers, hstep.size, hstep.slots, ?_, hstep.n0, hstep.unch⟩
  intro b o hb
  simp only [getk] at hb
  split at hb
  · rename_i hbb
    subst hbb
    cases hb
    refine ⟨.inr rfl, .inr hr.unch.size, arr, ?_, hs, hl, fun j av hj => ?_⟩
    · show (w.heap.push _)[w.heap.size]? = _
      simp
    · obtain ⟨u, h1, h2⟩ := hc j av hj
      exact ⟨u, h1, h2.mono ⟨hL.1, fun k hk _ => hL.2 k hk (fun h => h)⟩ (fun i hi h => h.resolve_right (by omega))⟩
  · exact hstep.heap b o hb

/-- A store into the call's own. -/
theorem Rel.store (hr : Rel c N σ a w) {b size : Nat} {t : TypeId} {cs cs' : List AV} (hg : getk b σ.heap = some (.row t size cs)) {arr : Array Value} (hs : arr.size = size) (hl : cs'.length ≤ size)
    (hc : ∀ (j : Nat) av, cs'[j]? = some av → ∃ u, arr[j]? = some u ∧ RelV N w av u) :
    Rel c N { σ with heap := upd b (.row t size cs') σ.heap } a (w.setRow b arr) := by
  obtain ⟨hNb, hMb, old, h1, h2, h3, h4⟩ := hr.heap b _ hg
  have hL : Later N w (w.setRow b arr) := ⟨by simp, fun k hk hN => setRow_other w b k arr (fun e => hN (e ▸ hNb))⟩
  refine ⟨hr.defers, hr.size, fun k av hk => ?_, ?_, hr.n0, ?_⟩
  · obtain ⟨v, h5, h6⟩ := hr.slots k av hk
    exact ⟨v, h5, h6.mono hL (fun _ _ h => h)⟩
  · intro k o hk
    rw [get_upd] at hk
    split at hk
    · rename_i e; subst e
      rw [hg] at hk; cases hk
      exact ⟨hNb, hMb, arr, setRow_heap w k old arr t (0, 0) h1, hs, hl, fun j av hj => let ⟨u, h5, h6⟩ := hc j av hj; ⟨u, h5, h6.mono hL (fun _ _ h => h)⟩⟩
    · rename_i e
      obtain ⟨h5, h6, h7⟩ := hr.heap k o hk
      exact ⟨h5, h6, h7.mono hL (fun _ _ h => h) (setRow_other w b k arr e)⟩
  · refine hr.unch.trans (M' := fun k => k = b) ⟨rfl, rfl, rfl, by simp, fun k hk hM => setRow_other w b k arr hM⟩ ?_
    rintro i hi rfl
    exact hMb.resolve_right (by omega)

theorem evAs_rel (hr : Rel c N σ a w) : ∀ (xs : List Operand) {avs : List AV}, evAs σ xs = some avs → avs.length = xs.length ∧ ∀ (i : Nat) av x, avs[i]? = some av → xs[i]? = some x → RelV N w av (a.eval x)
  | [], _, h => by cases h; exact ⟨rfl, fun i av x h => by simp at h⟩
  | x :: xs, avs, h => by
    simp only [evAs] at h
    split at h
    · rename_i v vs h1 h2
      cases h
      obtain ⟨hl, hx⟩ := evAs_rel hr xs h2
      refine ⟨by simp [hl], fun i av y h3 h4 => ?_⟩
      cases i with
      | zero => cases h3; cases h4; exact evA_rel hr h1
      | succ i => exact hx i av y h3 h4
    · cases h

theorem evParts_rel (hr : Rel c N σ a w) : ∀ (xs : List (Nat × Operand)) {ps : List (Nat × AV)}, evParts σ xs = some ps → ps.length = xs.length ∧ ∀ (i : Nat) p x, ps[i]? = some p → xs[i]? = some x → p.1 = x.1 ∧ RelV N w p.2 (a.eval x.2)
  | [], _, h => by cases h; exact ⟨rfl, fun i av x h => by simp at h⟩
  | (k, x) :: xs, ps, h => by
    simp only [evParts] at h
    split at h
    · rename_i v vs h1 h2
      cases h
      obtain ⟨hl, hx⟩ := evParts_rel hr xs h2
      refine ⟨by simp [hl], fun i av y h3 h4 => ?_⟩
      cases i with
      | zero => cases h3; cases h4; exact ⟨rfl, evA_rel hr h1⟩
      | succ i => exact hx i av y h3 h4
    · cases h

end
end Go.Ab
