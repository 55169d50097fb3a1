/- Operations that make memory or write what is owned; the conditions stand in each theorem. -/
import Derived.Test.YtiaigcdckmpepaaB5
import Derived.Laws.AppendOwn
/-! Operations that make memory or write. -/
set_option linter.unusedVariables false
set_option linter.unusedSimpArgs false
namespace Go.Bb

def minus {α : Type} (h : List (Nat × α)) (ks : List Nat) : List (Nat × α) := h.filter fun p => !ks.contains p.1

theorem get_minus {α : Type} {h : List (Nat × α)} {ks : List Nat} {k : Nat} {x : α} (e : getk k (minus h ks) = some x) : k ∉ ks ∧ getk k h = some x := by
  induction h with
  | nil => cases e
  | cons p h ih =>
    obtain ⟨i, y⟩ := p
    simp only [minus, List.filter_cons] at e ih
    by_cases hi : i ∈ ks
    · simp [hi] at e
      obtain ⟨h1, h2⟩ := ih (by simpa using e)
      refine ⟨h1, ?_⟩
      simp only [getk]
      rw [if_neg (by rintro rfl; exact h1 hi)]; exact h2
    · simp [hi] at e
      simp only [getk] at e ⊢
      split at e
      · rename_i hk; subst hk; cases e; exact ⟨hi, by simp⟩
      · rename_i hk; rw [if_neg hk]; exact ih (by simpa using e)

theorem mem_minus {α : Type} {h : List (Nat × α)} {ks : List Nat} {k : Nat} (e : k ∈ keys (minus h ks)) : k ∉ ks ∧ k ∈ keys h := by
  obtain ⟨x, hx⟩ := mem_keys_get e
  obtain ⟨h1, h2⟩ := get_minus hx
  exact ⟨h1, get_mem_keys h2⟩

def has (k : Nat) (h : HP) : Bool := (keys h).contains k
theorem has_no {k : Nat} {h : HP} (e : has k h = false) : k ∉ keys h := by unfold has at e; simpa using e

section
variable {P : Program} {T : Tab} {c : Cx} {F : Nat → Nat → Prop} {o : Oper} {σ : St} {K : St → Prop} {N : Nat → Prop} {a : Act} {w : World} {all r : List Oper}

/-- What is owned under some names is owned under another one, perhaps written, perhaps anew. -/
theorem Rel.repl (hr : Rel c F N σ a w) (ks : List Nat) (k : Nat) {v : Value} {av : AV} {w' : World} {S : Nat → Prop} (hk : has k (minus σ.heap ks) = false)
    (hos : w'.os = w.os) (htape : w'.tape = w.tape) (hout : w'.output = w.output) (hsize : w.heap.size ≤ w'.heap.size)
    (hU : ∀ j, j < w.heap.size → (∀ y, y ∈ ks → y ∈ keys σ.heap → ¬ F y j) → w'.heap[j]? = w.heap[j]?)
    (hS : ∀ b, S b → (∃ y, y ∈ ks ∧ y ∈ keys σ.heap ∧ F y b) ∨ (w.heap.size ≤ b ∧ b < w'.heap.size)) (hone : v.oneCell' = true)
    (hown : ∀ N', (∀ i, i < w.heap.size → N' i → N i) → OwnV N' w' S av v) :
    Rel c (fun x => if x = k then S else F x) (fun j => N j ∨ (w.heap.size ≤ j ∧ S j)) { σ with heap := (k, (v, av)) :: minus σ.heap ks } a w' := by
  have hNn : ∀ i, i < w.heap.size → (N i ∨ (w.heap.size ≤ i ∧ S i)) → N i := fun i hi h => h.resolve_right (fun h => by omega)
  have hFN : ∀ y, y ∈ keys σ.heap → ∀ j, F y j → N j := fun y hy j hj => (hr.heap.foot y hy j hj).1
  have hL : Later N w w' := ⟨hsize, fun j hj hN => hU j hj (fun y _ hy hF => hN (hFN y hy j hF))⟩
  have hk' := has_no hk
  refine ⟨hr.defers, hr.size, fun q av' hq => ?_, ⟨fun x u o hx => ?_, fun x hx b hb => ?_, fun x y hx hy hne b hb hb' => ?_, fun x u o hx => ?_⟩, fun x hx b hb => ?_, fun j hj h0 => (hr.n0 j hj h0).imp .inl id, ?_⟩
  · obtain ⟨u, h1, h2⟩ := hr.slots q av' hq
    exact ⟨u, h1, h2.mono hL hNn⟩
  · simp only [getk] at hx
    by_cases e : x = k
    · subst e
      rw [if_pos rfl] at hx ⊢
      cases hx
      exact hown _ hNn
    · rw [if_neg (fun h => e h.symm)] at hx
      rw [if_neg e]
      obtain ⟨h1, h2⟩ := get_minus hx
      refine (hr.heap.own x u o h2).mono hL hNn (fun j hj hF => hU j hj (fun y hy hyk hF' => ?_))
      have hne : x ≠ y := by rintro rfl; exact h1 hy
      exact hr.heap.disj x y (get_mem_keys h2) hyk hne j hF hF'
  · simp only [keys, List.map_cons, List.mem_cons] at hx
    by_cases e : x = k
    · subst e
      rw [if_pos rfl] at hb
      rcases hS b hb with ⟨y, hy, hyk, hF⟩ | ⟨h1, h2⟩
      · obtain ⟨h1, h2⟩ := hr.heap.foot y hyk b hF
        exact ⟨.inl h1, Nat.lt_of_lt_of_le h2 hsize⟩
      · exact ⟨.inr ⟨h1, hb⟩, h2⟩
    · rw [if_neg e] at hb
      obtain ⟨h1, h2⟩ := mem_minus (hx.resolve_left e)
      obtain ⟨h3, h4⟩ := hr.heap.foot x h2 b hb
      exact ⟨.inl h3, Nat.lt_of_lt_of_le h4 hsize⟩
  · simp only [keys, List.map_cons, List.mem_cons] at hx hy
    have key : ∀ z, z ∈ keys (minus σ.heap ks) → z ≠ k → F z b → S b → False := by
      intro z hz hzk hF hSb
      obtain ⟨h1, h2⟩ := mem_minus hz
      rcases hS b hSb with ⟨y', hy', hyk, hF'⟩ | ⟨h3, h4⟩
      · exact hr.heap.disj z y' h2 hyk (by rintro rfl; exact h1 hy') b hF hF'
      · have := (hr.heap.foot z h2 b hF).2; omega
    by_cases e1 : x = k <;> by_cases e2 : y = k
    · exact hne (e1.trans e2.symm)
    · rw [if_pos e1] at hb; rw [if_neg e2] at hb'
      exact key y (hy.resolve_left e2) e2 hb' hb
    · rw [if_neg e1] at hb; rw [if_pos e2] at hb'
      exact key x (hx.resolve_left e1) e1 hb hb'
    · rw [if_neg e1] at hb; rw [if_neg e2] at hb'
      exact hr.heap.disj x y (mem_minus (hx.resolve_left e1)).2 (mem_minus (hy.resolve_left e2)).2 hne b hb hb'
  · simp only [getk] at hx
    split at hx
    · cases hx; exact hone
    · exact hr.heap.one x u o (get_minus hx).2
  · simp only [keys, List.map_cons, List.mem_cons] at hx
    by_cases e : x = k
    · subst e
      rw [if_pos rfl] at hb
      rcases hS b hb with ⟨y, hy, hyk, hF⟩ | ⟨h1, h2⟩
      · exact hr.may y hyk b hF
      · exact .inr (Nat.le_trans hr.unch.size h1)
    · rw [if_neg e] at hb
      exact hr.may x (mem_minus (hx.resolve_left e)).2 b hb
  · refine ⟨hos.trans hr.unch.os, htape.trans hr.unch.tape, hout.trans hr.unch.output, Nat.le_trans hr.unch.size hsize, fun j hj hM => ?_⟩
    rw [hU j (Nat.lt_of_lt_of_le hj hr.unch.size) (fun y _ hyk hF => ?_), hr.unch.block j hj hM]
    rcases hr.may y hyk j hF with h | h
    · exact hM h
    · omega

variable {d : Option Tmp} {ty : TypeId} {pos : String} {af : Array Edge} {g : Option (Nat × Bool)}

/-- A new block. -/
theorem Rel.alloc (hr : Rel c F N σ a w) (k : Nat) {v : Value} {av : AV} {ob : Obj} (hk : has k σ.heap = false) (hone : v.oneCell' = true)
    (hown : ∀ N', (∀ i, i < w.heap.size → N' i → N i) → OwnV N' (w.alloc ob) (fun b => b = w.heap.size) av v) :
    ∃ F' N', Rel c F' N' { σ with heap := (k, (v, av)) :: σ.heap } a (w.alloc ob) := by
  have h0 : minus σ.heap [] = σ.heap := by unfold minus; simp
  have := hr.repl [] k (v := v) (av := av) (w' := w.alloc ob) (S := fun b => b = w.heap.size) (by rw [h0]; exact hk) rfl rfl rfl (by simp) (fun j hj _ => by
    show (w.heap.push _)[j]? = _
    rw [Array.getElem?_push, if_neg (by omega)]) (fun b hb => .inr (by subst hb; exact ⟨Nat.le_refl _, by simp⟩)) hone hown
  rw [h0] at this
  exact ⟨_, _, this⟩

theorem heap_new (w : World) (ob : Obj) : (w.alloc ob).heap[w.heap.size]? = some ob := by
  show (w.heap.push _)[w.heap.size]? = _
  simp
theorem later_alloc {N N' : Nat → Prop} (w : World) (ob : Obj) : Later N w (w.alloc ob) := ⟨by simp, fun j hj _ => by
    show (w.heap.push _)[j]? = _
    rw [Array.getElem?_push, if_neg (by omega)]⟩

/-- A variable of its own, of such cells. -/
theorem own_cells {S : Nat → Prop} {N' : Nat → Prop} {w' : World} {b : Nat} {arr : Array Value} {t : TypeId} {cs : List AV} (hb : S b) (hh : w'.heap[b]? = some (.cells arr t (0, 0))) (hs : arr.size = cs.length)
    (hc : ∀ (j : Nat) av, cs[j]? = some av → ∃ u, arr[j]? = some u ∧ RelV N' w' av u) : OwnV N' w' S (.optr t cs) (.pointer (some ⟨b, 0, none⟩)) := by
  refine .optr S t cs b arr (fun _ _ => False) (fun j => (arr[j]?).getD undef) hb hh hs (fun j k h => h.elim) (fun j j' k h => h.elim) (fun j av hj => ?_) (fun j av hj => ?_)
  · obtain ⟨u, h1, h2⟩ := hc j av hj
    rw [h1]; rfl
  · obtain ⟨u, h1, h2⟩ := hc j av hj
    rw [h1]; exact .frz _ _ _ h2

theorem o_box {t k : Nat} {x : Operand} {v : AV} {cs : List AV} (hT : TabOk P T) (hx : evA σ x = some v) (hcs : cellsA v = cs) (hc : cellsOk cs = true) (hk : has k σ.heap = false) (hd : dok d σ.nt = true)
    (hK : ∀ b, K ({ σ with heap := (k, (.pointer (some ⟨b, 0, none⟩), .optr t cs)) :: σ.heap }.put d (.ptr k b 0))) : OpOk P c ⟨d, .box t x, ty, pos, af, g⟩ σ K := by
  intro F N a w hr next Q hn
  subst hcs
  obtain ⟨h5, h6, h7⟩ := (evA_rel hr hx).cells hc
  obtain ⟨F', N', hra⟩ := hr.alloc k (v := .pointer (some ⟨w.heap.size, 0, none⟩)) (av := .optr t (cellsA v)) (ob := .cells (a.eval x).cells t) hk rfl (fun N' hN => own_cells rfl (heap_new w _) h5 (fun j av hj => let ⟨u, h1, h2⟩ := h6 j av hj; ⟨u, h1, h2.mono (later_alloc (N' := N) w _) hN⟩))
  unfold Oper.wp
  have hrun : (execOp a.eval ⟨d, .box t x, ty, pos, af, g⟩).run P w = .ok (.value (.pointer (some ⟨w.heap.size, 0, none⟩))) (w.alloc (.cells (a.eval x).cells t)) := by
    simp only [execOp, Instr.box, newVar, newRow]; simp [Sem.run_bind]
  rw [hrun]
  exact hn _ F' N' _ _ (hK _) (hra.put (dok_ok hd) (.ptr _ _ _))

theorem o_alloc {t k : Nat} {cs : List AV} (hT : TabOk P T) (hz : T.zero t = some cs) (hk : has k σ.heap = false) (hd : dok d σ.nt = true)
    (hK : ∀ b, K ({ σ with heap := (k, (.pointer (some ⟨b, 0, none⟩), .optr t cs)) :: σ.heap }.put d (.ptr k b 0))) : OpOk P c ⟨d, .alloc t, ty, pos, af, g⟩ σ K := by
  intro F N a w hr next Q hn
  obtain ⟨i, z, h5, h6, h7, h8⟩ := hT.zero hz
  obtain ⟨F', N', hra⟩ := hr.alloc k (v := .pointer (some ⟨w.heap.size, 0, none⟩)) (av := .optr t cs) (ob := .cells z.cells t) hk rfl (fun N' hN => own_cells rfl (heap_new w _) h7 (fun j av hj => h8 N' _ j av hj))
  unfold Oper.wp
  have hrun : (execOp a.eval ⟨d, .alloc t, ty, pos, af, g⟩).run P w = .ok (.value (.pointer (some ⟨w.heap.size, 0, none⟩))) (w.alloc (.cells z.cells t)) := by
    simp only [execOp, Instr.alloc, newVar, newRow]; simp [Sem.run_bind, zeroValue, typeInfo, h5, h6]
  rw [hrun]
  exact hn _ F' N' _ _ (hK _) (hra.put (dok_ok hd) (.ptr _ _ _))

/-! Stores -/
theorem store_run (hT : TabOk P T) {t n b i : Nat} {u : TypeId} {x y : Operand} {v : AV} (hr : Rel c F N σ a w) (hx : a.eval x = .pointer (some ⟨b, i, none⟩)) (hs : T.size t = some n) (hy : evA σ y = some v) (hl : (cellsA v).length = n) (hc : cellsOk (cellsA v) = true)
    {arr : Array Value} (hh : w.heap[b]? = some (.cells arr u (0, 0))) (hin : i + n ≤ arr.size) :
    (execOp a.eval ⟨d, .store t x y, ty, pos, af, g⟩).run P w = .ok .skip (w.setRow b (splice arr.toList i (a.eval y).cells.toList).toArray) := by
  obtain ⟨h6, h7, h8⟩ := (evA_rel hr hy).cells hc
  have hst := run_storeCells_at P b i u (a.eval y).cells.toList 0 arr w hh (by simp; omega) h8
  have e1 : ¬ ((a.eval y).cells.size ≠ n) := by omega
  simp only [execOp, hx, Instr.storeAt, Instr.sureAddr, storeVar]
  simp [Sem.run_bind, run_size hT hs, hst, splice]
  omega

theorem splice_get {α : Type} {l m : List α} {i : Nat} (h : i + m.length ≤ l.length) (j : Nat) : (splice l i m)[j]? = if i ≤ j ∧ j < i + m.length then m[j - i]? else l[j]? := by
  unfold splice
  rw [List.append_assoc]
  by_cases h1 : j < i
  · rw [List.getElem?_append_left (by simp; omega), List.getElem?_take, if_pos h1, if_neg (by omega)]
  · rw [List.getElem?_append_right (by simp; omega)]
    simp only [List.length_take, show min i l.length = i by omega]
    by_cases h2 : j < i + m.length
    · rw [List.getElem?_append_left (by omega), if_pos (by omega)]
    · rw [List.getElem?_append_right (by omega), if_neg (by omega), List.getElem?_drop]
      congr 1; omega

theorem o_storeP (hT : TabOk P T) {t n q b off : Nat} {u : TypeId} {x y : Operand} {v : AV} {cs vs cs' : List AV} (hx : evA σ x = some (.ptr q b off)) (hh : getk q σ.heap = some (.pointer (some ⟨b, 0, none⟩), .optr u cs)) (hs : T.size t = some n) (hy : evA σ y = some v)
    (hvs : cellsA v = vs) (hl : vs.length = n) (hin : off + n ≤ cs.length) (hc : cellsOk vs = true) (hcs : splice cs off vs = cs') (hd : dok d σ.nt = true)
    (hK : K ({ σ with heap := (q, (.pointer (some ⟨b, 0, none⟩), .optr u cs')) :: minus σ.heap [q] }.put d .und)) : OpOk P c ⟨d, .store t x y, ty, pos, af, g⟩ σ K := by
  intro F N a w hr next Q hn
  subst hvs hcs
  have hp := evA_rel hr hx
  generalize hv : a.eval x = vx at hp
  cases hp
  obtain ⟨h6, h7, h8⟩ := (evA_rel hr hy).cells hc
  have hqk := get_mem_keys hh
  have ho := hr.heap.own q _ _ hh
  cases ho with
  | frz _ _ _ h => cases h
  | optr _ _ _ _ arr G uu hb hhb hsz hG hdj hcc ho =>
    have hrun := store_run (d := d) (ty := ty) (pos := pos) (af := af) (g := g) hT hr hv hs hy hl hc hhb (by omega)
    unfold Oper.wp
    rw [hrun]
    have hother : ∀ j, j ≠ b → (w.setRow b (splice arr.toList off (a.eval y).cells.toList).toArray).heap[j]? = w.heap[j]? := fun j hj => setRow_other w b j _ hj
    refine hn _ _ _ _ _ hK ((hr.repl [q] q (v := .pointer (some ⟨b, 0, none⟩)) (av := .optr u (splice cs off (cellsA v))) (w' := w.setRow b (splice arr.toList off (a.eval y).cells.toList).toArray) (S := F q) ?_ rfl rfl rfl (by simp) (fun j hj hF => hother j (fun e => hF q (by simp) hqk (e ▸ hb))) (fun j hj => .inl ⟨q, by simp, hqk, hj⟩) rfl (fun N' hN => ?_)).put (dok_ok hd) .und)
    · unfold has; rw [List.contains_eq_mem]; simp only [decide_eq_false_iff_not]
      intro h; exact (mem_minus h).1 (by simp)
    · have hL : Later N w (w.setRow b (splice arr.toList off (a.eval y).cells.toList).toArray) := ⟨by simp, fun j hj hNj => hother j (fun e => hNj (e ▸ (hr.heap.foot q hqk b hb).1))⟩
      have hcl : (a.eval y).cells.toList.length = (cellsA v).length := by simpa using h6
      have hal : (splice arr.toList off (a.eval y).cells.toList).length = arr.size := by simp [splice]; omega
      refine .optr _ _ _ b (splice arr.toList off (a.eval y).cells.toList).toArray (fun j k => ¬ (off ≤ j ∧ j < off + (cellsA v).length) ∧ G j k) (fun j => if off ≤ j ∧ j < off + (cellsA v).length then ((a.eval y).cells[j - off]?).getD undef else uu j) hb (setRow_heap w b arr _ u (0, 0) hhb) ?_
        (fun j k h => hG j k h.2) (fun j j' k h h' => hdj j j' k h.2 h'.2) (fun j av hj => ?_) (fun j av hj => ?_)
      · rw [List.size_toArray, hal, hsz]; simp [splice]; omega
      · rw [splice_get (by omega)] at hj
        simp only [List.getElem?_toArray]
        rw [splice_get (by simp; omega), hcl]
        by_cases hjj : off ≤ j ∧ j < off + (cellsA v).length
        · rw [if_pos hjj] at hj ⊢
          obtain ⟨z, h9, h10⟩ := h7 _ av hj
          have : (a.eval y).cells.toList[j - off]? = some z := by simpa using h9
          rw [this]
          simp [hjj, h9]
        · rw [if_neg hjj] at hj ⊢
          simp only [hjj, if_false]
          simpa using hcc j av hj
      · rw [splice_get (by omega)] at hj
        by_cases hjj : off ≤ j ∧ j < off + (cellsA v).length
        · rw [if_pos hjj] at hj
          obtain ⟨z, h9, h10⟩ := h7 _ av hj
          simp only [hjj, and_self, if_true, h9, Option.getD_some]
          exact .frz _ _ _ (h10.mono hL hN)
        · rw [if_neg hjj] at hj
          simp only [hjj, if_false]
          refine ((ho j av hj).mono hL hN (fun k hk hGk => hother k (hG j k hGk).2)).sub (fun k hGk => ⟨fun h => h, hGk⟩)

theorem o_storeR (hT : TabOk P T) {t n q sz i off : Nat} {u : TypeId} {pv : Value} {x y : Operand} {v : AV} {rows : List (List AV)} {row vs row' : List AV} (hx : evA σ x = some (.rptr q pv sz i off)) (hh : getk q σ.heap = some (pv, .osl u sz rows)) (hs : T.size t = some n) (hy : evA σ y = some v)
    (hrow : rows[i]? = some row) (hvs : cellsA v = vs) (hl : vs.length = n) (hin : off + n ≤ sz) (hc : cellsOk vs = true) (hcs : splice row off vs = row') (hd : dok d σ.nt = true)
    (hK : K ({ σ with heap := (q, (pv, .osl u sz (rows.set i row'))) :: minus σ.heap [q] }.put d .und)) : OpOk P c ⟨d, .store t x y, ty, pos, af, g⟩ σ K := by
  intro F N a w hr next Q hn
  subst hvs hcs
  have hp := evA_rel hr hx
  generalize hv : a.eval x = vx at hp
  obtain ⟨h6, h7, h8⟩ := (evA_rel hr hy).cells hc
  have hqk := get_mem_keys hh
  have ho := hr.heap.own q _ _ hh
  have hone := hr.heap.one q _ _ hh
  cases hp with
  | rptr _ _ _ _ b len cap =>
    cases ho with
    | frz _ _ _ h => cases h
    | osl _ _ _ _ _ _ arr G uu hb hhb hsz hlc hmx hrl hG hdj hcc ho =>
      have hrl' : row.length = sz := hrl i row hrow
      have hilt : i < rows.length := by
        rcases Nat.lt_or_ge i rows.length with h | h
        · exact h
        · rw [List.getElem?_eq_none h] at hrow; cases hrow
      have hbound : i * sz + sz ≤ arr.size := by
        rw [hsz]
        have : (i + 1) * sz ≤ cap * sz := Nat.mul_le_mul_right _ (by omega)
        rw [Nat.add_mul, Nat.one_mul] at this; exact this
      have hrun := store_run (d := d) (ty := ty) (pos := pos) (af := af) (g := g) hT hr hv hs hy hl hc hhb (by omega)
      unfold Oper.wp
      rw [hrun]
      have hother : ∀ j, j ≠ b → (w.setRow b (splice arr.toList (i * sz + off) (a.eval y).cells.toList).toArray).heap[j]? = w.heap[j]? := fun j hj => setRow_other w b j _ hj
      refine hn _ _ _ _ _ hK ((hr.repl [q] q (v := .slice (some ⟨b, 0, none⟩) rows.length cap) (av := .osl u sz (rows.set i (splice row off (cellsA v)))) (w' := w.setRow b (splice arr.toList (i * sz + off) (a.eval y).cells.toList).toArray) (S := F q) ?_ rfl rfl rfl (by simp) (fun j hj hF => hother j (fun e => hF q (by simp) hqk (e ▸ hb))) (fun j hj => .inl ⟨q, by simp, hqk, hj⟩) rfl (fun N' hN => ?_)).put (dok_ok hd) .und)
      · unfold has; rw [List.contains_eq_mem]; simp only [decide_eq_false_iff_not]
        intro h; exact (mem_minus h).1 (by simp)
      · have hL : Later N w (w.setRow b (splice arr.toList (i * sz + off) (a.eval y).cells.toList).toArray) := ⟨by simp, fun j hj hNj => hother j (fun e => hNj (e ▸ (hr.heap.foot q hqk b hb).1))⟩
        have hcl : (a.eval y).cells.toList.length = (cellsA v).length := by simpa using h6
        have hal : (splice arr.toList (i * sz + off) (a.eval y).cells.toList).length = arr.size := by simp [splice]; omega
        have hset : (rows.set i (splice row off (cellsA v))).length = rows.length := by simp
        let hit : Nat → Nat → Prop := fun p j => p = i ∧ off ≤ j ∧ j < off + (cellsA v).length
        have hsl : (splice row off (cellsA v)).length = sz := by simp [splice]; omega
        have hget : ∀ (p : Nat) (rw_ : List AV) (j : Nat) av, (rows.set i (splice row off (cellsA v)))[p]? = some rw_ → rw_[j]? = some av →
            (hit p j ∧ (cellsA v)[j - off]? = some av) ∨ (¬ hit p j ∧ ∃ row0, rows[p]? = some row0 ∧ row0[j]? = some av) := by
          intro p rw_ j av hp hj
          rw [List.getElem?_set] at hp
          by_cases e : i = p
          · subst e
            simp [hilt] at hp
            subst hp
            rw [splice_get (by omega)] at hj
            by_cases hjj : off ≤ j ∧ j < off + (cellsA v).length
            · rw [if_pos hjj] at hj; exact .inl ⟨⟨rfl, hjj⟩, hj⟩
            · rw [if_neg hjj] at hj; exact .inr ⟨fun h => hjj h.2, row, hrow, hj⟩
          · rw [if_neg e] at hp
            exact .inr ⟨fun h => e h.1.symm, rw_, hp, hj⟩
        have hidx : ∀ (p j : Nat), p < rows.length → j < sz → ((i * sz + off ≤ p * sz + j ∧ p * sz + j < i * sz + off + (cellsA v).length) ↔ hit p j) := by
          intro p j hp hj
          constructor
          · rintro ⟨h1, h2⟩
            have hpi : p = i := by
              rcases Nat.lt_trichotomy p i with h | h | h
              · have : (p + 1) * sz ≤ i * sz := Nat.mul_le_mul_right _ h
                rw [Nat.add_mul, Nat.one_mul] at this; omega
              · exact h
              · have : (i + 1) * sz ≤ p * sz := Nat.mul_le_mul_right _ h
                rw [Nat.add_mul, Nat.one_mul] at this; omega
            subst hpi
            exact ⟨rfl, by omega, by omega⟩
          · rintro ⟨rfl, h1, h2⟩; omega
        rw [← hset]
        refine .osl _ _ _ _ b cap (splice arr.toList (i * sz + off) (a.eval y).cells.toList).toArray (fun p j k => ¬ hit p j ∧ G p j k) (fun p j => @ite _ (hit p j) (Classical.propDecidable _) (((a.eval y).cells[j - off]?).getD undef) (uu p j)) hb (setRow_heap w b arr _ u (0, 0) hhb) ?_ (by rw [hset]; exact hlc) hmx ?_
          (fun p j k h => hG p j k h.2) (fun p j p' j' k h h' => hdj p j p' j' k h.2 h'.2) (fun p rw_ j av hp hj => ?_) (fun p rw_ j av hp hj => ?_)
        · rw [List.size_toArray, hal, hsz]
        · intro p rw_ hp
          rw [List.getElem?_set] at hp
          by_cases e : i = p
          · subst e; simp [hilt] at hp; subst hp; exact hsl
          · rw [if_neg e] at hp; exact hrl p rw_ hp
        · have hplt : p < rows.length := by
            rcases Nat.lt_or_ge p rows.length with h | h
            · exact h
            · rw [List.getElem?_eq_none (by omega)] at hp; cases hp
          simp only [List.getElem?_toArray]
          rw [splice_get (by simp; omega), hcl]
          rcases hget p rw_ j av hp hj with ⟨h1, h2⟩ | ⟨h1, row0, h2, h3⟩
          · have hj' : j < sz := by have := h1.2.2; omega
            rw [if_pos ((hidx p j hplt hj').2 h1)]
            simp only [h1, if_true]
            obtain ⟨z, h9, h10⟩ := h7 _ av h2
            obtain ⟨rfl, h11, h12⟩ := h1
            have e : p * sz + j - (p * sz + off) = j - off := by omega
            rw [e]
            simp [h9]
          · have hj' : j < sz := by
              rw [← hrl p row0 h2]
              rcases Nat.lt_or_ge j row0.length with h | h
              · exact h
              · rw [List.getElem?_eq_none h] at h3; cases h3
            rw [if_neg (fun h => h1 ((hidx p j hplt hj').1 h))]
            simp only [h1, if_false]
            simpa using hcc p row0 j av h2 h3
        · rcases hget p rw_ j av hp hj with ⟨h1, h2⟩ | ⟨h1, row0, h2, h3⟩
          · simp only [h1, if_true]
            obtain ⟨z, h9, h10⟩ := h7 _ av h2
            rw [h9]
            exact .frz _ _ _ (h10.mono hL hN)
          · simp only [h1, if_false]
            exact ((ho p row0 j av h2 h3).mono hL hN (fun k hk hGk => hother k (hG p j k hGk).2)).sub (fun k hGk => ⟨fun h => h, hGk⟩)
end
end Go.Bb
