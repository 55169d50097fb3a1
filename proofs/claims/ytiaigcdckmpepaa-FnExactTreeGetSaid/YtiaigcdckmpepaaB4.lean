/- What operations that only yield a value yield; the conditions stand in each theorem. -/
import Derived.Test.YtiaigcdckmpepaaB3
import Derived.Laws.Strings
import Derived.Great.BuildSlice
import Derived.IntWalk
/-! Operations that only yield a value. -/
set_option linter.unusedVariables false
set_option linter.unusedSimpArgs false
namespace Go.Bb

def cellsOk (cs : List AV) : Bool := cs.all AV.cell
def dok (d : Option Tmp) (nt : Nat) : Bool := match d with | some d => d < nt | none => true
theorem dok_ok {d : Option Tmp} {nt : Nat} (h : dok d nt = true) : ∀ k, d = some k → k < nt := by rintro k rfl; simpa [dok] using h

/-- Bits of whole numbers. -/
def bitsI (op : BinOp) (k : IntKind) (x y : Int) : Int :=
  k.wrap (match op with
    | .and => (BitVec.ofInt k.bits x &&& BitVec.ofInt k.bits y).toNat
    | .or => (BitVec.ofInt k.bits x ||| BitVec.ofInt k.bits y).toNat
    | .xor => (BitVec.ofInt k.bits x ^^^ BitVec.ofInt k.bits y).toNat
    | _ => (BitVec.ofInt k.bits x &&& ~~~ BitVec.ofInt k.bits y).toNat)

def binA (op : BinOp) : AV → AV → Option AV
  | .int k a, .int k' b =>
    if k = k' then
      match op with
      | .add => some (.int k (k.wrap (a + b)))
      | .sub => some (.int k (k.wrap (a - b)))
      | .mul => some (.int k (k.wrap (a * b)))
      | .eql => some (.bool (decide (a = b)))
      | .neq => some (.bool (!decide (a = b)))
      | .lss => some (.bool (decide (a < b)))
      | .leq => some (.bool (decide (a ≤ b)))
      | .gtr => some (.bool (decide (b < a)))
      | .geq => some (.bool (decide (b ≤ a)))
      | .and => some (.int k (bitsI .and k a b))
      | .or => some (.int k (bitsI .or k a b))
      | .xor => some (.int k (bitsI .xor k a b))
      | _ => none
    else none
  | .str a, .str b =>
    match op with
    | .eql => some (.bool (decide (a = b)))
    | .neq => some (.bool (!decide (a = b)))
    | .lss => some (.bool (Op.bytesLess a b))
    | .leq => some (.bool (Op.bytesLess a b || decide (a = b)))
    | .gtr => some (.bool (!(Op.bytesLess a b || decide (a = b))))
    | .geq => some (.bool (!Op.bytesLess a b))
    | _ => none
  | _, _ => none

def eqr (op : BinOp) (b : Bool) : Option AV := match op with | .eql => some (.bool b) | .neq => some (.bool !b) | _ => none

/-- Comparisons that ask for the type. -/
def binT (T : Tab) (t : TypeId) (op : BinOp) (cst : Bool) : AV → AV → Option AV
  | .bool a, .bool b => if T.kind t = some .bool then eqr op (decide (a = b)) else none
  | .ifc _ _, .raw .nilIface => if T.kind t = some .iface then eqr op false else none
  | .raw .nilIface, .raw .nilIface => if T.kind t = some .iface ∧ cst = true then eqr op true else none
  | .eptr _, .raw (.pointer none) => match T.kind t with | some (.ptr _) => eqr op false | _ => none
  | .ptr _ _ _, .raw (.pointer none) => match T.kind t with | some (.ptr _) => eqr op false | _ => none
  | .rptr _ _ _ _ _, .raw (.pointer none) => match T.kind t with | some (.ptr _) => eqr op false | _ => none
  | .raw (.pointer none), .raw (.pointer none) => match T.kind t with | some (.ptr _) => eqr op true | _ => none
  | _, _ => none

def isConstO : Operand → Bool | .const _ => true | _ => false

def evAs (σ : St) : List Operand → Option (List AV)
  | [] => some []
  | x :: xs => match evA σ x, evAs σ xs with | some v, some vs => some (v :: vs) | _, _ => none

/-- Cells with parts laid in. -/
def fillA (pl : Nat → Option (Nat × Nat)) : List AV → List (Nat × AV) → Option (List AV)
  | cs, [] => some cs
  | cs, (f, v) :: r =>
    match pl f with
    | some (o, n) => if (cellsA v).length = n ∧ o + n ≤ cs.length ∧ cellsOk (cellsA v) = true then fillA pl (splice cs o (cellsA v)) r else none
    | none => none

def structOk (T : Tab) (t : TypeId) : Bool := match T.kind t with | some (.struct fs) => fs.all fun f => (T.size f.2).isSome | _ => false

def evParts (σ : St) : List (Nat × Operand) → Option (List (Nat × AV))
  | [] => some []
  | (i, x) :: r => match evA σ x, evParts σ r with | some v, some l => some ((i, v) :: l) | _, _ => none

/-- Rows of one slice literal: each element given, in order. -/
def rowsLit (n : Nat) : Nat → List (Nat × AV) → Option (List AV)
  | _, [] => some []
  | k, (i, v) :: r => if i = k ∧ (cellsA v).length = n then (rowsLit n (k + 1) r).map (cellsA v ++ ·) else none

/-- The cells of rows, one behind the other. -/
def rowsC {α : Type} (rows : List (List α)) : List α := rows.flatten

def loA (σ : St) : Option Operand → Option Int
  | none => some 0
  | some x => match evA σ x with | some (.int _ n) => some n | _ => none
def hiA (σ : St) : Option Operand → Option (Option Int)
  | none => some none
  | some x => match evA σ x with | some (.int _ n) => some (some n) | _ => none

section
variable {P : Program} {T : Tab} {c : Cx} {F : Nat → Nat → Prop} {o : Oper} {σ : St} {K : St → Prop} {N : Nat → Prop} {a : Act} {w : World}

theorem evAs_rel (hr : Rel c F N σ a w) : ∀ (xs : List Operand) {avs : List AV}, evAs σ xs = some avs → avs.length = xs.length ∧ ∀ (i : Nat) av x, avs[i]? = some av → xs[i]? = some x → RelV N w av (a.eval x)
  | [], _, h => by cases h; exact ⟨rfl, fun i av x h => by simp at h⟩
  | x :: xs, avs, h => by
    simp only [evAs] at h
    split at h
    · rename_i v vs h1 h2
      cases h
      obtain ⟨hl, hx⟩ := evAs_rel hr xs h2
      refine ⟨by simp [hl], fun i av y h3 h4 => ?_⟩
      cases i with
      | zero => cases h3; cases h4; exact evA_rel hr h1
      | succ i => exact hx i av y h3 h4
    · cases h

theorem evParts_rel (hr : Rel c F N σ a w) : ∀ (xs : List (Nat × Operand)) {ps : List (Nat × AV)}, evParts σ xs = some ps → ps.length = xs.length ∧ ∀ (i : Nat) p x, ps[i]? = some p → xs[i]? = some x → p.1 = x.1 ∧ RelV N w p.2 (a.eval x.2)
  | [], _, h => by cases h; exact ⟨rfl, fun i av x h => by simp at h⟩
  | (k, x) :: xs, ps, h => by
    simp only [evParts] at h
    split at h
    · rename_i v vs h1 h2
      cases h
      obtain ⟨hl, hx⟩ := evParts_rel hr xs h2
      refine ⟨by simp [hl], fun i av y h3 h4 => ?_⟩
      cases i with
      | zero => cases h3; cases h4; exact ⟨rfl, evA_rel hr h1⟩
      | succ i => exact hx i av y h3 h4
    · cases h

theorem binA_run {op : BinOp} {u v av : AV} {x y : Value} (hu : RelV N w u x) (hv : RelV N w v y) (h : binA op u v = some av) (t : TypeId) (p q : Operand) :
    ∃ z, RelV N w av z ∧ ∀ w', (do eqGuard op t p q x y; binOp op t x y : Sem Value).run P w' = .ok z w' := by
  unfold binA at h
  split at h
  · rename_i k i k' j
    cases hu; cases hv
    split at h
    · rename_i e; subst e
      have hg : ∀ w, (eqGuard op t p q (.int k i) (.int k j)).run P w = .ok () w := by
        intro w; unfold eqGuard; split <;> rfl
      cases op <;> simp only [] at h <;> try (cases h; done)
      all_goals
        cases h
        first
        | (refine ⟨.int k _, .int _ _, fun w' => ?_⟩; simp [Sem.run_bind, hg, binOp, Op.intBits, bitsI]; done)
        | (refine ⟨.int k _, .int _ _, fun w' => ?_⟩; simp [Sem.run_bind, hg, binOp, Op.intArith]; done)
        | (refine ⟨.bool _, .bool _, fun w' => ?_⟩; simp [Sem.run_bind, hg, binOp, Op.intCmp]; done)
        | (refine ⟨.bool _, .bool _, fun w' => ?_⟩; simp only [Sem.run_bind, hg, Result.andThen_ok, binOp, Op.intCmp]; by_cases e : i = j <;> simp [e])
    · cases h
  · rename_i i j
    cases hu with | str _ hi =>
    cases hv with | str _ hj =>
    have hg : ∀ w, (eqGuard op t p q (.string ⟨i.toArray⟩) (.string ⟨j.toArray⟩)).run P w = .ok () w := by
      intro w; unfold eqGuard; split <;> rfl
    have e1 : ∀ l : List UInt8, (⟨l.toArray⟩ : ByteArray).toList = l := by
      intro l; simp
    have e2 : (i == j) = decide (i = j) := by
      by_cases e : i = j <;> simp [e]
    cases op <;> simp only [] at h <;> try (cases h; done)
    all_goals
      cases h
      refine ⟨_, .bool _, fun w' => by simp only [Sem.run_bind, hg, Result.andThen_ok, binOp, Op.stringOp, e1, e2]; rfl⟩
  · cases h

theorem binT_run {T : Tab} (hT : TabOk P T) {op : BinOp} {u v av : AV} {x y : Value} {t : TypeId} {p q : Operand} (hu : RelV N w u x) (hv : RelV N w v y) (h : binT T t op (isConstO q) u v = some av) :
    ∃ z, RelV N w av z ∧ ∀ w', (do eqGuard op t p q x y; binOp op t x y : Sem Value).run P w' = .ok z w' := by
  have fin : ∀ (b : Bool), eqr op b = some av → (∀ w', (eqGuard op t p q x y).run P w' = .ok () w') → (∀ w', (Op.equal t x y).run P w' = .ok b w') → (op = .eql → binOp op t x y = (do pure (.bool (← Op.equal t x y)))) → (op = .neq → binOp op t x y = (do pure (.bool (!(← Op.equal t x y))))) →
      ∃ z, RelV N w av z ∧ ∀ w', (do eqGuard op t p q x y; binOp op t x y : Sem Value).run P w' = .ok z w' := by
    intro b hb hg he h1 h2
    cases op <;> simp only [eqr] at hb <;> try (cases hb; done)
    · cases hb
      exact ⟨_, .bool _, fun w' => by rw [h1 rfl]; simp [hg, he]⟩
    · cases hb
      exact ⟨_, .bool _, fun w' => by rw [h2 rfl]; simp [hg, he]⟩
  unfold binT at h
  split at h <;> try (cases h; done)
  · rename_i a b
    split at h
    · rename_i hk
      obtain ⟨d, hd, hd'⟩ := hT.kind hk
      have hd2 : d = .bool := by cases d <;> simp [shOf] at hd' <;> rfl
      subst hd2
      cases hu; cases hv
      refine fin _ h (fun w' => by unfold eqGuard; split <;> rfl) (fun w' => ?_) (fun e => by subst e; rfl) (fun e => by subst e; rfl)
      show (Op.equalIn (9999 + 1) t (.bool a) (.bool b)).run P w' = _
      unfold Op.equalIn
      rw [Sem.run_bind, run_underlying hd]
      cases a <;> cases b <;> rfl
    · cases h
  · rename_i t' v'
    split at h
    · rename_i hk
      obtain ⟨d, hd, hd'⟩ := hT.kind hk
      obtain ⟨ms, rfl⟩ : ∃ ms, d = .interface ms := by cases d <;> simp [shOf] at hd'; exact ⟨_, rfl⟩
      cases hu; cases hv
      refine fin _ h (fun w' => by unfold eqGuard; split <;> rfl) (fun w' => ?_) (fun e => by subst e; rfl) (fun e => by subst e; rfl)
      show (Op.equalIn (9999 + 1) t _ _).run P w' = _
      unfold Op.equalIn
      rw [Sem.run_bind, run_underlying hd]
      rfl
    · cases h
  · split at h
    · rename_i hk
      obtain ⟨hk, hc⟩ := hk
      obtain ⟨d, hd, hd'⟩ := hT.kind hk
      obtain ⟨ms, rfl⟩ : ∃ ms, d = .interface ms := by cases d <;> simp [shOf] at hd'; exact ⟨_, rfl⟩
      cases hu; cases hv
      obtain ⟨v, rfl⟩ : ∃ v, q = .const v := by cases q <;> simp [isConstO] at hc; exact ⟨_, rfl⟩
      refine fin _ h (fun w' => by unfold eqGuard; split <;> first | rfl | simp) (fun w' => ?_) (fun e => by subst e; rfl) (fun e => by subst e; rfl)
      show (Op.equalIn (9999 + 1) t _ _).run P w' = _
      unfold Op.equalIn
      rw [Sem.run_bind, run_underlying hd]
      rfl
    · cases h
  · -- pointer and nil
    split at h
    · rename_i e hk
      obtain ⟨d, hd, hd'⟩ := hT.kind hk
      have hd2 : d = .pointer e := by cases d <;> simp [shOf] at hd' <;> rw [hd']
      subst hd2
      cases hv
      cases hu
      all_goals
        refine fin _ h (fun w' => by unfold eqGuard; split <;> rfl) (fun w' => ?_) (fun e => by subst e; rfl) (fun e => by subst e; rfl)
        show (Op.equalIn (9999 + 1) t _ _).run P w' = _
        unfold Op.equalIn
        rw [Sem.run_bind, run_underlying hd]
        rfl
    · cases h
  · -- pointer and nil
    split at h
    · rename_i e hk
      obtain ⟨d, hd, hd'⟩ := hT.kind hk
      have hd2 : d = .pointer e := by cases d <;> simp [shOf] at hd' <;> rw [hd']
      subst hd2
      cases hv
      cases hu
      all_goals
        refine fin _ h (fun w' => by unfold eqGuard; split <;> rfl) (fun w' => ?_) (fun e => by subst e; rfl) (fun e => by subst e; rfl)
        show (Op.equalIn (9999 + 1) t _ _).run P w' = _
        unfold Op.equalIn
        rw [Sem.run_bind, run_underlying hd]
        rfl
    · cases h
  · -- pointer and nil
    split at h
    · rename_i e hk
      obtain ⟨d, hd, hd'⟩ := hT.kind hk
      have hd2 : d = .pointer e := by cases d <;> simp [shOf] at hd' <;> rw [hd']
      subst hd2
      cases hv
      cases hu
      all_goals
        refine fin _ h (fun w' => by unfold eqGuard; split <;> rfl) (fun w' => ?_) (fun e => by subst e; rfl) (fun e => by subst e; rfl)
        show (Op.equalIn (9999 + 1) t _ _).run P w' = _
        unfold Op.equalIn
        rw [Sem.run_bind, run_underlying hd]
        rfl
    · cases h
  · -- pointer and nil
    split at h
    · rename_i e hk
      obtain ⟨d, hd, hd'⟩ := hT.kind hk
      have hd2 : d = .pointer e := by cases d <;> simp [shOf] at hd' <;> rw [hd']
      subst hd2
      cases hv
      cases hu
      all_goals
        refine fin _ h (fun w' => by unfold eqGuard; split <;> rfl) (fun w' => ?_) (fun e => by subst e; rfl) (fun e => by subst e; rfl)
        show (Op.equalIn (9999 + 1) t _ _).run P w' = _
        unfold Op.equalIn
        rw [Sem.run_bind, run_underlying hd]
        rfl
    · cases h


/-- Texts one behind the other. -/
theorem cat_run {x y : Value} {i j : List UInt8} (hu : RelV N w (.str i) x) (hv : RelV N w (.str j) y) (hl : (i ++ j).length ≤ maxLen) (t : TypeId) (p q : Operand) :
    ∃ z, RelV N w (.str (i ++ j)) z ∧ ∀ w', (do eqGuard .add t p q x y; binOp .add t x y : Sem Value).run P w' = .ok z w' := by
  cases hu with | str _ hi =>
  cases hv with | str _ hj =>
  have hg : ∀ w, (eqGuard .add t p q (.string ⟨i.toArray⟩) (.string ⟨j.toArray⟩)).run P w = .ok () w := by
    intro w; unfold eqGuard; split <;> rfl
  refine ⟨.string ⟨(i ++ j).toArray⟩, .str _ hl, fun w' => ?_⟩
  have h1 : ¬ (((⟨i.toArray⟩ : ByteArray).size + (⟨j.toArray⟩ : ByteArray).size : Nat) : Int) > IntKind.i64.max := by
    simp only [ByteArray.size, List.size_toArray]
    simp only [List.length_append, maxLen] at hl
    simp [IntKind.max, IntKind.signed, IntKind.bits]; omega
  have h2 : (⟨i.toArray⟩ ++ ⟨j.toArray⟩ : ByteArray) = ⟨(i ++ j).toArray⟩ := by
    apply ByteArray.ext
    simp
  simp only [Sem.run_bind, hg, Result.andThen_ok, binOp, Op.stringOp, if_neg h1, h2]; rfl

theorem cl_set_get {l : List Value} {off : Nat} : ∀ (k : Nat) (cells : Array Value), off + k + l.length ≤ cells.size →
    ((l.zipIdx k).foldl (fun cs (c, j) => cs.setIfInBounds (off + j) c) cells).toList = splice cells.toList (off + k) l := by
  induction l with
  | nil => intro k cells h; simp [splice]
  | cons v l ih =>
    intro k cells h
    simp only [List.length_cons] at h
    simp only [List.zipIdx_cons, List.foldl_cons]
    rw [ih (k + 1) _ (by simp; omega)]
    have e := list_seg_step cells.toList (off + k) v l (by simp; omega)
    simpa [splice, Array.toList_setIfInBounds, Nat.add_assoc] using e

theorem cl_fold {l : Array Value} {off : Nat} {cells : Array Value} (h : off + l.size ≤ cells.size) :
    (l.zipIdx.foldl (fun cs (c, j) => cs.setIfInBounds (off + j) c) cells).toList = splice cells.toList off l.toList := by
  have := cl_set_get (l := l.toList) (off := off) 0 cells (by simpa using h)
  rw [← Array.foldl_toList]
  simpa using this

/-- Parts laid into cells. -/
theorem fill_rel {pl : Nat → Option (Nat × Nat)} {places : Nat → Option (Nat × Nat)} (hp : ∀ f o n, pl f = some (o, n) → places f = some (o, n)) :
    ∀ (ps : List (Nat × AV)) (vs : List (Nat × Value)) (cs : List AV) (cells : Array Value) (cs' : List AV), fillA pl cs ps = some cs' → ps.length = vs.length →
      (∀ (i : Nat) p x, ps[i]? = some p → vs[i]? = some x → p.1 = x.1 ∧ RelV N w p.2 x.2) →
      cells.size = cs.length → (∀ (j : Nat) av, cs[j]? = some av → ∃ u, cells[j]? = some u ∧ RelV N w av u) →
      ∃ cells', Instr.fill places cells vs = some cells' ∧ cells'.size = cs'.length ∧ ∀ (j : Nat) av, cs'[j]? = some av → ∃ u, cells'[j]? = some u ∧ RelV N w av u
  | [], [], cs, cells, cs', h, _, _, hs, hc => by
    cases h; exact ⟨cells, rfl, hs, hc⟩
  | (f, v) :: ps, (g, x) :: vs, cs, cells, cs', h, hl, hpv, hs, hc => by
    obtain ⟨e, hv⟩ := hpv 0 _ _ rfl rfl
    simp only at e hv
    subst e
    simp only [fillA] at h
    split at h
    · rename_i o n hf
      split at h
      · rename_i hlen
        obtain ⟨hl1, hl2, hcell⟩ := hlen
        obtain ⟨hz, hr, _⟩ := hv.cells hcell
        have hsz : (x.cells.zipIdx.foldl (fun cs (c, j) => cs.setIfInBounds (o + j) c) cells).toList = splice cells.toList o x.cells.toList := cl_fold (by omega)
        obtain ⟨cells', h1, h2, h3⟩ := fill_rel hp ps vs (splice cs o (cellsA v)) (x.cells.zipIdx.foldl (fun cs (c, j) => cs.setIfInBounds (o + j) c) cells) cs' h (by simpa using hl) (fun i p y h4 h5 => hpv (i + 1) p y h4 h5)
          (by have := congrArg List.length hsz; simp only [Array.length_toList] at this; rw [this]; simp [splice]; omega)
          (by
            intro j av hj
            rw [← Array.getElem?_toList, hsz]
            have hcl : cells.toList.length = cs.length := by simpa using hs
            simp only [splice, List.append_assoc] at hj ⊢
            by_cases h1 : j < o
            · rw [List.getElem?_append_left (by simp; omega), List.getElem?_take, if_pos h1] at hj ⊢
              simpa using hc j av hj
            · rw [List.getElem?_append_right (by simp; omega)] at hj ⊢
              simp only [List.length_take] at hj ⊢
              rw [show min o cs.length = o by omega] at hj
              rw [show min o cells.toList.length = o by omega]
              by_cases h2 : j - o < n
              · rw [List.getElem?_append_left (by omega)] at hj
                rw [List.getElem?_append_left (by simp; omega)]
                simpa using hr _ av hj
              · rw [List.getElem?_append_right (by omega)] at hj
                rw [List.getElem?_append_right (by simp; omega)]
                simp only [List.getElem?_drop, Array.length_toList] at hj ⊢
                rw [hz]
                simpa using hc _ av hj)
        refine ⟨cells', ?_, h2, h3⟩
        have h0 : ¬ ((decide (x.cells.size ≠ n) || decide (o + x.cells.size > cells.size)) = true) := by simp; omega
        simp only [Instr.fill, hp f o n hf]
        rw [if_neg h0]
        exact h1
      · cases h
    · cases h

theorem rowsLit_fill {n : Nat} : ∀ (k : Nat) (ps : List (Nat × AV)) (cs init : List AV), rowsLit n k ps = some cs → (k + ps.length) * n ≤ init.length → cs.all AV.cell = true →
    cs.length = ps.length * n ∧ fillA (fun i => some (i * n, n)) init ps = some (init.take (k * n) ++ cs ++ init.drop (k * n + cs.length))
  | k, [], cs, init, h, _, _ => by
    cases h
    simp [fillA]
  | k, (i, v) :: ps, cs, init, h, hl, hc => by
    simp only [rowsLit] at h
    split at h
    · rename_i hi
      obtain ⟨hi1, hi2⟩ := hi
      subst hi1
      obtain ⟨cs', h1, rfl⟩ := Option.map_eq_some_iff.1 h
      simp only [List.all_append, Bool.and_eq_true] at hc
      have e1 : (i + (ps.length + 1)) * n = i * n + n + ps.length * n := by rw [Nat.add_mul, Nat.add_mul, Nat.one_mul]; omega
      have e2 : (i + 1) * n = i * n + n := by rw [Nat.add_mul, Nat.one_mul]
      have e3 : (ps.length + 1) * n = ps.length * n + n := by rw [Nat.add_mul, Nat.one_mul]
      have e4 : (i + 1 + ps.length) * n = i * n + n + ps.length * n := by rw [← e1]; congr 1; omega
      simp only [List.length_cons] at hl
      rw [e1] at hl
      have hsl : (splice init (i * n) (cellsA v)).length = init.length := by simp [splice]; omega
      obtain ⟨h2, h3⟩ := rowsLit_fill (i + 1) ps cs' (splice init (i * n) (cellsA v)) h1 (by rw [e4, hsl]; omega) hc.2
      refine ⟨by simp [e3]; omega, ?_⟩
      simp only [fillA]
      rw [if_pos ⟨hi2, by omega, hc.1⟩, h3]
      congr 1
      rw [e2]
      have t1 : (splice init (i * n) (cellsA v)).take (i * n + n) = init.take (i * n) ++ cellsA v := by
        unfold splice
        rw [List.take_append_of_le_length (by simp; omega), List.take_of_length_le (by simp; omega)]
      have t2 : (splice init (i * n) (cellsA v)).drop (i * n + n + cs'.length) = init.drop (i * n + (cellsA v ++ cs').length) := by
        unfold splice
        rw [List.drop_append, List.drop_of_length_le (by simp; omega), List.nil_append, List.drop_drop]
        congr 1
        simp; omega
      rw [t1, t2]
      simp
    · cases h

theorem run_fieldAddr (hT : TabOk P T) {t f n m : Nat} (h : T.foff t f = some (n, m)) (ad : Addr) (w : World) : (Instr.fieldAt t (.pointer (some ad)) f).run P w = .ok (.pointer (some (ad.add n))) w := by
  obtain ⟨fs, fd, i, h1, h2, h3, h4, h5, h6⟩ := hT.foff h
  have hs : (sizeOf fd.type).run P w = .ok m w := by simp [sizeOf, typeInfo, h4, h5]
  subst h3
  simp [Instr.fieldAt, Sem.run_bind, run_underlying h1, h2, Instr.sureAddr, fieldPlace, hs, h6]

theorem cur_rel {arr : Array Value} {cs vs : List AV} {us : List Value} {i : Nat} (h1 : cs.length ≤ arr.size) (hi : i + vs.length ≤ cs.length) (hl : us.length = vs.length) (hc : ∀ (j : Nat) av, cs[j]? = some av → ∃ u, arr[j]? = some u ∧ RelV N w av u)
    (hv : ∀ (j : Nat) x, vs[j]? = some x → ∃ u, us[j]? = some u ∧ RelV N w x u) :
    ∀ (j : Nat) av, (splice cs i vs)[j]? = some av → ∃ u, (splice arr.toList i us)[j]? = some u ∧ RelV N w av u := by
  intro j av hj
  simp only [splice, List.append_assoc] at hj ⊢
  by_cases h2 : j < i
  · rw [List.getElem?_append_left (by simp; omega), List.getElem?_take, if_pos h2] at hj ⊢
    simpa using hc j av hj
  · rw [List.getElem?_append_right (by simp; omega)] at hj ⊢
    simp only [List.length_take] at hj ⊢
    rw [show min i cs.length = i by omega] at hj
    rw [show min i arr.toList.length = i by simp; omega]
    by_cases h3 : j - i < vs.length
    · rw [List.getElem?_append_left h3] at hj
      rw [List.getElem?_append_left (by omega)]
      exact hv _ av hj
    · rw [List.getElem?_append_right (by omega)] at hj
      rw [List.getElem?_append_right (by omega)]
      simp only [List.getElem?_drop] at hj ⊢
      rw [hl]
      simpa using hc _ av hj

theorem splice_length {α : Type} {l m : List α} {i : Nat} (h : i + m.length ≤ l.length) : (splice l i m).length = l.length := by
  simp [splice]; omega

theorem run_build (hT : TabOk P T) (hr : Rel c F N σ a w) {t : TypeId} {z cs : List AV} {parts : Array (Nat × Operand)} {ps : List (Nat × AV)} (hz : T.zero t = some z) (hs : structOk T t = true) (hps : evParts σ parts.toList = some ps)
    (hf : fillA (T.foff t) z ps = some cs) : ∃ cells, (∀ w', (Instr.build t (parts.map fun (i, x) => (i, a.eval x))).run P w' = .ok (.agg cells) w') ∧ cells.size = cs.length ∧ ∀ (j : Nat) av, cs[j]? = some av → ∃ u, cells[j]? = some u ∧ RelV N w av u := by
  obtain ⟨i, zv, h5, h6, h7, h8⟩ := hT.zero hz
  unfold structOk at hs
  split at hs
  · rename_i l hk
    obtain ⟨d, hd, hd'⟩ := hT.kind hk
    cases d <;> simp [shOf] at hd'
    rename_i fs
    subst hd'
    have hall : ∀ (l : List Field), (∀ f ∈ l, (T.size f.type).isSome = true) → ∃ places, l.mapM (fun f => (P.info? f.type).map fun i => (f.offset, i.size)) = some places ∧ ∀ (f o n : Nat), (l[f]?).bind (fun fd => (T.size fd.type).map fun n => (fd.offset, n)) = some (o, n) → places[f]? = some (o, n) := by
      intro l
      induction l with
      | nil => intro _; exact ⟨[], rfl, fun f o n h => by simp at h⟩
      | cons f l ih =>
        intro hl
        obtain ⟨places, h1, h2⟩ := ih (fun f hf => hl f (List.mem_cons_of_mem _ hf))
        obtain ⟨m, hm⟩ := Option.isSome_iff_exists.1 (hl f (by simp))
        obtain ⟨i, h3, h4⟩ := hT.size hm
        refine ⟨(f.offset, i.size) :: places, by simp [h3, h1], fun k o n h => ?_⟩
        cases k with
        | zero => simp [hm] at h; simp [h4, h]
        | succ k => exact h2 k o n (by simpa using h)
    obtain ⟨places, h1, h2⟩ := hall fs.toList (fun f hf => by
      have := List.all_eq_true.1 hs (f.offset, f.type) (List.mem_map.2 ⟨f, hf, rfl⟩)
      simpa using this)
    obtain ⟨hl, hpv⟩ := evParts_rel hr _ hps
    have hp : ∀ f o n, T.foff t f = some (o, n) → (places.toArray[·]?) f = some (o, n) := by
      intro f o n hfo
      unfold Tab.foff at hfo
      rw [hk] at hfo
      simp only at hfo
      split at hfo
      · rename_i o' u hfu
        split at hfo
        · rename_i m hm
          split at hfo
          · cases hfo
          · cases hfo
            simp only [List.getElem?_map, Option.map_eq_some_iff] at hfu
            obtain ⟨fd, h9, h10⟩ := hfu
            cases h10
            simpa using h2 f _ _ (by simp [h9, hm])
        · cases hfo
      · cases hfo
    obtain ⟨cells, h9, h10, h11⟩ := fill_rel (N := N) (w := w) hp ps (parts.map fun (i, x) => (i, a.eval x)).toList z zv.cells cs hf (by simpa using hl)
      (by
        intro i p x h3 h4
        simp only [Array.toList_map, List.getElem?_map, Option.map_eq_some_iff] at h4
        obtain ⟨y, h4, rfl⟩ := h4
        exact hpv i p y h3 h4) h7 (fun j av hj => h8 N w j av hj)
    refine ⟨cells, fun w' => ?_, h10, h11⟩
    simp only [Instr.build]
    simp [run_underlying hd, typeInfo, zeroValue, h5, h6, Array.mapM_eq_mapM_toList, run_places w' _ _ h1]
    have h9' : Instr.fill (fun x => places[x]?) zv.cells (parts.toList.map fun x => (x.1, a.eval x.2)) = some cells := by simpa using h9
    simp [h9']
  · cases hs

theorem run_buildSlice (hT : TabOk P T) (hr : Rel c F N σ a w) {t e len n : Nat} {cs : List AV} {parts : Array (Nat × Operand)} {ps : List (Nat × AV)} (he : T.elem t = some e) (hn : T.size e = some n) (hps : evParts σ parts.toList = some ps)
    (hcs : rowsLit n 0 ps = some cs) (h1 : ps.length = len) (h2 : cs.all AV.cell = true) (h3 : 0 < n) (h4 : len * n ≤ 2 ^ 24) (h5 : (T.zero e).map List.length = some n) :
    ∃ cells, (Instr.buildSlice t len (parts.map fun (i, x) => (i, a.eval x))).run P w = .ok (.slice (some ⟨w.heap.size, 0, none⟩) len len) (w.alloc (.cells cells e)) ∧ (cells.size = len * n ∧ cs.length = len * n) ∧ ∀ (j : Nat) av, cs[j]? = some av → ∃ u, cells[j]? = some u ∧ RelV N w av u := by
  obtain ⟨zl, hz, hzl⟩ := Option.map_eq_some_iff.1 h5
  obtain ⟨i, z, h6, h7, h8, h9⟩ := hT.zero hz
  obtain ⟨i', h6', h10⟩ := hT.size hn
  rw [h6] at h6'; cases h6'
  have hzs : z.cells.size = n := by omega
  let init : List AV := (List.range (len * n)).map fun j => zl.getD (j % n) .und
  have hil : init.length = len * n := by simp [init]
  obtain ⟨hcl, hfill⟩ := rowsLit_fill 0 ps cs init hcs (by rw [hil, Nat.zero_add, h1]; exact Nat.le_refl _) h2
  rw [h1] at hcl
  have hfill' : fillA (fun i => some (i * n, n)) init ps = some cs := by
    rw [hfill, hcl]
    simp [List.drop_of_length_le (show init.length ≤ len * n by omega)]
  obtain ⟨hl, hpv⟩ := evParts_rel hr _ hps
  obtain ⟨cells, h11, h12, h13⟩ := fill_rel (N := N) (w := w) (pl := fun i => some (i * n, n)) (places := fun i => some (i * n, n)) (fun _ _ _ h => h) ps (parts.map fun (i, x) => (i, a.eval x)).toList init
    ((Array.range (len * n)).map (z.cells[· % z.cells.size]!)) cs hfill' (by simpa using hl)
    (by
      intro i p x h3 h4
      simp only [Array.toList_map, List.getElem?_map, Option.map_eq_some_iff] at h4
      obtain ⟨y, h4, rfl⟩ := h4
      exact hpv i p y h3 h4) (by simp [hil])
    (by
      intro j av hj
      simp only [init, List.getElem?_map, Option.map_eq_some_iff] at hj
      obtain ⟨k, hk, rfl⟩ := hj
      have hjl : j < len * n ∧ k = j := by
        by_cases hjn : j < len * n
        · simp [hjn] at hk; exact ⟨hjn, hk.symm⟩
        · simp [hjn] at hk
      obtain ⟨hjl, rfl⟩ := hjl
      have hm : k % n < zl.length := by rw [hzl]; exact Nat.mod_lt _ h3
      obtain ⟨v, h14, h15⟩ := h9 N w (k % n) zl[k % n] (by simp [hm])
      refine ⟨v, ?_, by simpa [List.getD, hm] using h15⟩
      simp only [Array.getElem?_map, Array.getElem?_range, hjl, if_true, Option.map_some, hzs]
      simp only [getElem!_def, h14])
  refine ⟨cells, ?_, ⟨by rw [h12, hcl], hcl⟩, h13⟩
  by_cases h0 : len * n = 0
  · have e1 : len * i.size = 0 := by rw [h10]; exact h0
    have h11' : Instr.fill (fun k => some (k * i.size, i.size)) ((Array.range 0).map fun x => (#[] : Array Value)[x % 0]!) (parts.map fun (i, x) => (i, a.eval x)).toList = some cells := by
      rw [h10, show (Array.range 0).map (fun x => (#[] : Array Value)[x % 0]!) = (Array.range (len * n)).map (z.cells[· % z.cells.size]!) by rw [h0, show Array.range 0 = #[] from rfl, Array.map_empty, Array.map_empty]]; exact h11
    have hrun : (Instr.buildSlice t len (parts.map fun (i, x) => (i, a.eval x))).run P w = .ok (.slice (some ⟨w.heap.size, 0, none⟩) len len) (w.alloc (.cells cells e)) := by
      unfold Instr.buildSlice
      simp only [Sem.run_bind, run_underlying (hT.elem he), Result.andThen_ok, sizeOf, typeInfo, run_program, h6, Sem.run_pure, e1]
      simp only [Nat.not_lt_zero, if_false, gt_iff_lt, if_true, Sem.run_pure, Result.andThen_ok, Sem.run_bind]
      have : (#[] : Array Value).size = 0 := rfl
      simp only [this, h11']
      simp [newRow]
    exact hrun
  · exact Go.run_buildSlice w t e len _ cells i z (hT.elem he) h6 h7 (by rw [h10]; omega) (by rw [h10]; omega) (by rw [h10]; exact h11)


def sliceA {α : Type} (l : List α) (i j : Int) : Option (List α) := if 0 ≤ i ∧ i ≤ j ∧ j ≤ l.length then some ((l.take j.toNat).drop i.toNat) else none
theorem sliceA_spec {α : Type} {l m : List α} {i j : Int} (h : sliceA l i j = some m) : 0 ≤ i ∧ i ≤ j ∧ j ≤ l.length ∧ m = (l.take j.toNat).drop i.toNat := by
  unfold sliceA at h
  split at h
  · rename_i hh; cases h; exact ⟨hh.1, hh.2.1, hh.2.2, rfl⟩
  · cases h

theorem run_bound {k : IntKind} {n : Int} {y : Nat} {code : BoundsCode} (h0 : 0 ≤ n) (h1 : n ≤ y) (w : World) : (Instr.sliceBound (.int k n) y code).run P w = .ok n.toNat w := by
  simp [Instr.sliceBound, asIntOf, h0, h1]

theorem run_bounds (hr : Rel c F N σ a w) {lo hi : Option Operand} {i : Int} {j : Option Int} (hlo : loA σ lo = some i) (hhi : hiA σ hi = some j) {len cap : Nat} (hc : len ≤ cap) {b : Bool} (h0 : 0 ≤ i) (h1 : i ≤ j.getD len) (h2 : j.getD len ≤ len) (w' : World) :
    (Instr.sliceBounds b len cap (lo.map a.eval) (hi.map a.eval) none).run P w' = .ok (i.toNat, (j.getD len).toNat, cap) w' := by
  have hL : (lo = none ∧ i = 0) ∨ ∃ x k, lo = some x ∧ a.eval x = .int k i := by
    cases lo with
    | none => cases hlo; exact .inl ⟨rfl, rfl⟩
    | some x =>
      simp only [loA] at hlo
      split at hlo
      · rename_i k n hx
        cases hlo
        have hv := evA_rel hr hx
        generalize hv' : a.eval x = v at hv
        cases hv
        exact .inr ⟨x, k, rfl, hv'⟩
      · cases hlo
  have hH : (hi = none ∧ j = none) ∨ ∃ x k n, hi = some x ∧ a.eval x = .int k n ∧ j = some n := by
    cases hi with
    | none => cases hhi; exact .inl ⟨rfl, rfl⟩
    | some x =>
      simp only [hiA] at hhi
      split at hhi
      · rename_i k n hx
        cases hhi
        have hv := evA_rel hr hx
        generalize hv' : a.eval x = v at hv
        cases hv
        exact .inr ⟨x, k, n, rfl, hv', rfl⟩
      · cases hhi
  rcases hL with ⟨rfl, rfl⟩ | ⟨x, k, rfl, hx⟩ <;> rcases hH with ⟨rfl, rfl⟩ | ⟨y, k2, n, rfl, hy, rfl⟩
  · simp [Instr.sliceBounds]
  · simp only [Option.getD_some] at h1 h2
    have e1 := fun code => run_bound (P := P) (k := k2) (n := n) (y := cap) (code := code) (by omega) (by omega) w'
    simp [Instr.sliceBounds, hy, e1]
  · simp only [Option.getD_none] at h1 h2
    have e1 := fun code => run_bound (P := P) (k := k) (n := i) (y := len) (code := code) h0 h1 w'
    simp [Instr.sliceBounds, hx, e1]
  · simp only [Option.getD_some] at h1 h2
    have e1 := fun code => run_bound (P := P) (k := k2) (n := n) (y := cap) (code := code) (by omega) (by omega) w'
    have e2 := fun code => run_bound (P := P) (k := k) (n := i) (y := n.toNat) (code := code) h0 (by omega) w'
    simp [Instr.sliceBounds, hx, hy, e1, e2]

theorem slice_str {l m : List UInt8} {i j : Int} (h : sliceA l i j = some m) : (⟨l.toArray⟩ : ByteArray).extract i.toNat j.toNat = ⟨m.toArray⟩ := by
  obtain ⟨h1, h2, h3, rfl⟩ := sliceA_spec h
  apply ByteArray.ext
  simp only [ByteArray.data_extract]
  apply Array.ext'
  simp [List.extract_eq_take_drop, List.drop_take]

theorem slice_rows {z : Bool} {rows rows' : List (List AV)} {i j : Int} {ad : Addr} {cap sz : Nat} (h : sliceA rows i j = some rows') (hv : RelV N w (.sl z rows) (.slice (some ad) rows.length cap)) (hsz : rows.all (fun r => decide (r.length = sz)) = true) :
    RelV N w (.sl z rows') (.slice (some (if cap = i.toNat then ad else ad.add (i.toNat * sz))) (j.toNat - i.toNat) (cap - i.toNat)) := by
  obtain ⟨h1, h2, h3, rfl⟩ := sliceA_spec h
  cases hv with
  | sl _ _ _ _ sz' u hs hc hm h4 h5 h6 h7z =>
    have hl : ((rows.take j.toNat).drop i.toNat).length = j.toNat - i.toNat := by simp; omega
    have hget : ∀ (k : Nat) row, ((rows.take j.toNat).drop i.toNat)[k]? = some row → rows[i.toNat + k]? = some row ∧ i.toNat + k < j.toNat := by
      intro k row hk
      rw [List.getElem?_drop, List.getElem?_take] at hk
      split at hk
      · exact ⟨hk, by omega⟩
      · cases hk
    have hsz' : ∀ (k : Nat) row, rows[k]? = some row → row.length = sz := fun k row hk => by simpa using List.all_eq_true.1 hsz row (List.mem_of_getElem? hk)
    rw [← hl]
    by_cases hcap : cap = i.toNat
    · have he : (rows.take j.toNat).drop i.toNat = [] := List.eq_nil_of_length_eq_zero (by rw [hl]; omega)
      rw [he, if_pos hcap]
      exact .sl z [] ad (cap - i.toNat) sz u (fun h => by simp at h) (by simp) (by omega) (fun i row h => by simp at h) (fun i row j av h => by simp at h) (fun i row j av h => by simp at h) (fun _ i row j av h => by simp at h)
    · by_cases hempty : (rows.take j.toNat).drop i.toNat = []
      · rw [hempty]
        exact .sl z [] _ (cap - i.toNat) sz u (fun h => by simp at h) (by simp) (by omega) (fun i row h => by simp at h) (fun i row j av h => by simp at h) (fun i row j av h => by simp at h) (fun _ i row j av h => by simp at h)
      have hpos : 0 < rows.length := by cases rows with | nil => simp at hempty | cons x r => simp
      rw [if_neg hcap, add_none _ _ (hs hpos)]
      refine .sl z _ _ _ sz (fun k => u (i.toNat + k)) (fun _ => rfl) (by omega) (by omega) (fun k row hk => hsz' _ row (hget k row hk).1) (fun k row q av hk hq => ?_) (fun k row q av hk hq => h6 _ row q av (hget k row hk).1 hq) (fun hz k row q av hk hq => h7z hz _ row q av (hget k row hk).1 hq)
      obtain ⟨h7, h8⟩ := h5 _ row q av (hget k row hk).1 hq
      have e : sz' = sz := by rw [← h4 _ row (hget k row hk).1, hsz' _ row (hget k row hk).1]
      subst e
      refine ⟨h7, ?_⟩
      rw [← h8]
      congr 2
      show ad.off + i.toNat * sz' + (k * sz' + q) = ad.off + ((i.toNat + k) * sz' + q)
      rw [Nat.add_mul]; omega


end
end Go.Bb
