/- What each operation does to an abstract state, and what a contract of a function says; definitions and small facts. -/
import Derived.Test.YthokajebopeomaaAb2
/-! What each operation does to an abstract state. -/
set_option linter.unusedVariables false
set_option linter.unusedSimpArgs false
namespace Go.Ab

/-- Values that a cell may hold. -/
def cellsOk (cs : List AV) : Bool := cs.all AV.cell
@[simp] theorem cellsOk_nil : cellsOk [] = true := rfl
@[simp] theorem cellsOk_cons (v : AV) (l : List AV) : cellsOk (v :: l) = (v.cell && cellsOk l) := rfl
@[simp] theorem cellsOk_append (l m : List AV) : cellsOk (l ++ m) = (cellsOk l && cellsOk m) := by simp [cellsOk]

def Dj {α : Type} (h h' : List (Nat × α)) : Prop := ∀ k ∈ keys h, k ∉ keys h'
def minus {α : Type} (h : List (Nat × α)) (ks : List Nat) : List (Nat × α) := h.filter fun p => !ks.contains p.1
def fresh {α : Type} (b : Nat) (h : List (Nat × α)) : Prop := b ∉ keys h
theorem fresh_nil {α : Type} (b : Nat) : fresh b ([] : List (Nat × α)) ↔ True := by simp [fresh, keys]
theorem fresh_cons {α : Type} (b k : Nat) (x : α) (h : List (Nat × α)) : fresh b ((k, x) :: h) ↔ (k ≠ b ∧ b ≠ k) ∧ fresh b h := by
  unfold fresh keys
  simp only [List.map_cons, List.mem_cons, not_or]
  exact ⟨fun ⟨h1, h2⟩ => ⟨⟨fun h => h1 h.symm, h1⟩, h2⟩, fun ⟨⟨_, h1⟩, h2⟩ => ⟨h1, h2⟩⟩

theorem get_minus {α : Type} {h : List (Nat × α)} {ks : List Nat} {k : Nat} {x : α} (e : getk k (minus h ks) = some x) : k ∉ ks ∧ getk k h = some x := by
  induction h with
  | nil => cases e
  | cons p h ih =>
    obtain ⟨i, y⟩ := p
    simp only [minus, List.filter_cons] at e ih
    by_cases hi : i ∈ ks
    · simp [hi] at e
      obtain ⟨h1, h2⟩ := ih (by simpa using e)
      refine ⟨h1, ?_⟩
      simp only [getk]
      rw [if_neg (by rintro rfl; exact h1 hi)]; exact h2
    · simp [hi] at e
      simp only [getk] at e ⊢
      split at e
      · rename_i hk; subst hk; cases e; exact ⟨hi, by simp⟩
      · rename_i hk; rw [if_neg hk]; exact ih (by simpa using e)

theorem get_append {α : Type} {h h' : List (Nat × α)} {k : Nat} {x : α} (e : getk k (h ++ h') = some x) : getk k h = some x ∨ (k ∉ keys h ∧ getk k h' = some x) := by
  induction h with
  | nil => exact .inr ⟨by simp [keys], e⟩
  | cons p h ih =>
    obtain ⟨i, y⟩ := p
    simp only [List.cons_append, getk] at e ⊢
    split at e
    · rename_i hk; exact .inl (by rw [if_pos hk]; exact e)
    · rename_i hk
      rcases ih e with h1 | ⟨h1, h2⟩
      · exact .inl (by rw [if_neg hk]; exact h1)
      · refine .inr ⟨?_, h2⟩
        simp only [keys, List.map_cons, List.mem_cons, not_or]
        exact ⟨fun h => hk h.symm, h1⟩

theorem get_mem {α : Type} {k : Nat} {x : α} : ∀ {l : List (Nat × α)}, getk k l = some x → (k, x) ∈ l
  | [], h => by cases h
  | (i, y) :: l, h => by
    simp only [getk] at h
    split at h
    · rename_i e; subst e; cases h; exact List.mem_cons_self
    · exact List.mem_cons_of_mem _ (get_mem h)

/-- A function that may be entered. -/
def Ent (P : Program) (f : FuncId) : Prop := ∃ fn, P.funcs[f]? = some fn ∧ fn.body.isNone = false ∧ (fn.name == "runtime.NumGoroutine") = false

def RelVs (N : Nat → Prop) (w : World) (avs : List AV) (vs : Array Value) : Prop := vs.size = avs.length ∧ ∀ (i : Nat) av v, avs[i]? = some av → vs[i]? = some v → RelV N w av v

/-- What a call comes to: of arguments 'avs', with what it is handed to write on, 'h': a result and what it hands back to write on, as R says; all else is as it was. -/
def Does (P : Program) (f : FuncId) (avs : List AV) (h : List (Nat × HO)) (R : AV → List (Nat × HO) → Prop) : Prop :=
  Ent P f ∧ ∀ N w vs, RelVs N w avs vs → (∀ b o, getk b h = some o → N b ∧ RelO N w b o) →
    Calls P f vs w fun e w' => ∃ v r h' N', e = .returned v ∧ R r h' ∧ RelV N' w' r v ∧ (∀ b o, getk b h' = some o → N' b ∧ (b ∈ keys h ∨ w.heap.size ≤ b) ∧ RelO N' w' b o) ∧
      (∀ k, k < w.heap.size → (N k ↔ N' k)) ∧ Unch (fun k => k ∈ keys h) w w'

/-- It looks into no memory. -/
def scal : AV → Bool
  | .int .. | .bool _ | .str _ | .raw _ | .und | .nil | .ptr .. | .ref .. | .mp _ => true
  | .sl rows => rows.isEmpty
  | .tup vs => vs.attach.all fun ⟨v, _⟩ => scal v
  | _ => false

theorem scal_rel {N N' : Nat → Prop} {w : World} {av : AV} {v : Value} (h : RelV N w av v) (hs : scal av = true) : RelV N' w av v := by
  induction h with
  | int k n => exact .int k n
  | bool b => exact .bool b
  | str l h => exact .str l h
  | raw v h => exact .raw v h
  | nil => exact .nil
  | slNil => exact .slNil
  | sl rows a cap sz u hs' hc hm h1 h2 h3 ih =>
    simp only [scal, List.isEmpty_iff] at hs
    subst hs
    exact .sl [] a cap sz u hs' hc hm (fun i row h => by simp at h) (fun i row j av h => by simp at h) (fun i row j av h => by simp at h)
  | ref b n cap hc hm => exact .ref b n cap hc hm
  | ptr b off => exact .ptr b off
  | tup cs vs hl h ih =>
    refine .tup cs vs hl (fun i av v h1 h2 => ih i av v h1 h2 ?_)
    simp only [scal, List.all_eq_true] at hs
    have := hs ⟨av, List.mem_of_getElem? h1⟩ (by simp)
    simpa using this
  | mp b => exact .mp b
  | und => exact .und
  | eptr | agg | ifc | clo => simp [scal] at hs

def dok (d : Option Tmp) (nt : Nat) : Bool := match d with | some d => d < nt | none => true
theorem dok_ok {d : Option Tmp} {nt : Nat} (h : dok d nt = true) : ∀ k, d = some k → k < nt := by rintro k rfl; simpa [dok] using h

def kont (o : Oper) (σ : St) (K : St → Prop) : Option AV → Prop
  | some v => dok o.dst σ.nt = true ∧ K (σ.put o.dst v)
  | none => False

def pickA (t : Bool) (x y : AV) : AV := match x, y with
  | .bool a, .bool b => .bool (if t then a else b)
  | _, _ => if t then x else y

theorem pickA_rel {N : Nat → Prop} {w : World} {t : Bool} {x y : AV} {u v : Value} (hx : RelV N w x u) (hy : RelV N w y v) : RelV N w (pickA t x y) (if t then u else v) := by
  unfold pickA
  split
  · cases hx; cases hy; cases t <;> exact .bool _
  · cases t <;> simpa

def binA (op : BinOp) : AV → AV → Option AV
  | .int k a, .int k' b =>
    if k = k' then
      match op with
      | .add => some (.int k (k.wrap (a + b)))
      | .sub => some (.int k (k.wrap (a - b)))
      | .mul => some (.int k (k.wrap (a * b)))
      | .quo => if b = 0 then none else some (.int k (k.wrap (a.tdiv b)))
      | .rem => if b = 0 then none else some (.int k (a.tmod b))
      | .eql => some (.bool (decide (a = b)))
      | .neq => some (.bool (!decide (a = b)))
      | .lss => some (.bool (decide (a < b)))
      | .leq => some (.bool (decide (a ≤ b)))
      | .gtr => some (.bool (decide (b < a)))
      | .geq => some (.bool (decide (b ≤ a)))
      | _ => none
    else none
  | .str a, .str b =>
    match op with
    | .add => if (a ++ b).length ≤ maxLen then some (.str (a ++ b)) else none
    | .eql => some (.bool (decide (a = b)))
    | .neq => some (.bool (!decide (a = b)))
    | .lss => some (.bool (Op.bytesLess a b))
    | .leq => some (.bool (Op.bytesLess a b || decide (a = b)))
    | .gtr => some (.bool (!(Op.bytesLess a b || decide (a = b))))
    | .geq => some (.bool (!Op.bytesLess a b))
    | _ => none
  | _, _ => none

def eqr (op : BinOp) (b : Bool) : Option AV := match op with | .eql => some (.bool b) | .neq => some (.bool !b) | _ => none

/-- Comparisons that ask for the type. -/
def binT (T : Tab) (t : TypeId) (op : BinOp) (cst : Bool) : AV → AV → Option AV
  | .bool a, .bool b => if T.kind t = some .bool then eqr op (decide (a = b)) else none
  | .ifc _ _, .raw .nilIface => if T.kind t = some .iface then eqr op false else none
  | .raw .nilIface, .raw .nilIface => if T.kind t = some .iface ∧ cst = true then eqr op true else none
  | _, _ => none

def isConstO : Operand → Bool | .const _ => true | _ => false

def evAs (σ : St) : List Operand → Option (List AV)
  | [] => some []
  | x :: xs => match evA σ x, evAs σ xs with | some v, some vs => some (v :: vs) | _, _ => none

def lenA : AV → Option Int
  | .str l => some l.length
  | .sl rows => some rows.length
  | .ref _ n _ => some n
  | .nil => some 0
  | _ => none

/-- Cells with parts laid in. -/
def fillA (pl : Nat → Option (Nat × Nat)) : List AV → List (Nat × AV) → Option (List AV)
  | cs, [] => some cs
  | cs, (f, v) :: r =>
    match pl f with
    | some (o, n) => if (cellsA v).length = n ∧ o + n ≤ cs.length ∧ cellsOk (cellsA v) = true then fillA pl (splice cs o (cellsA v)) r else none
    | none => none

def structOk (T : Tab) (t : TypeId) : Bool := match T.kind t with | some (.struct fs) => fs.all fun f => (T.size f.2).isSome | _ => false

def evParts (σ : St) : List (Nat × Operand) → Option (List (Nat × AV))
  | [] => some []
  | (i, x) :: r => match evA σ x, evParts σ r with | some v, some l => some ((i, v) :: l) | _, _ => none

/-- Rows of one slice literal: each element given, in order. -/
def rowsLit (n : Nat) : Nat → List (Nat × AV) → Option (List AV)
  | _, [] => some []
  | k, (i, v) :: r => if i = k ∧ (cellsA v).length = n then (rowsLit n (k + 1) r).map (cellsA v ++ ·) else none

/-- The cells of rows, one behind the other. -/
def rowsC {α : Type} (rows : List (List α)) : List α := rows.flatten

def chunk {α : Type} (n : Nat) : Nat → List α → List (List α)
  | 0, _ => []
  | m + 1, l => l.take n :: chunk n m (l.drop n)

/-- A slice of the call's own, seen as a slice that is only read. -/
def viewA (T : Tab) (σ : St) : AV → AV
  | .ref b n cap => match getk b σ.heap with
    | some (.row t _ cs) => match T.size t with | some sz => if cs.length = n * sz then .sl (chunk sz n cs) else .ref b n cap | none => .ref b n cap
    | none => .ref b n cap
  | v => v

/-- A nil slice, where it is only read. -/
def nil0 : AV → AV | .nil => .sl [] | v => v
def nilA : AV → AV | .nil => .sl [] | .agg cs => .agg (cs.map nil0) | v => v

/-- The call's own slice that is appended to: its length, its cells, its block. -/
def ownA (σ : St) (e : TypeId) (sz : Nat) : AV → Option (Nat × List AV × List Nat)
  | .nil => some (0, [], [])
  | .ref b n cap => match getk b σ.heap with
    | some (.row u size cs) => if u = e ∧ size = cap * sz ∧ cs.length = n * sz then some (n, cs, [b]) else none
    | none => none
  | _ => none

/-- What is appended: so many elements, their cells. -/
def addA (σ : St) (sz : Nat) : AV → Option (Nat × List AV)
  | .ref b m _ => match getk b σ.heap with
    | some (.row _ _ cs) => if cs.length = m * sz then some (m, cs) else none
    | none => none
  | .sl rows => if rows.all fun r => decide (r.length = sz) then some (rows.length, rowsC rows) else none
  | _ => none

def CallN (P : Program) (o : Oper) (σ : St) (K : St → Prop) (g : FuncId) (avs : List AV) : Prop :=
  ∃ hs R, Does P g avs hs R ∧ subs σ.heap hs ∧ ∀ r h', R r h' → Dj h' (minus σ.heap (keys hs)) → dok o.dst σ.nt = true ∧ K ({ σ with heap := h' ++ minus σ.heap (keys hs) }.put o.dst r)

def CallV (P : Program) (o : Oper) (σ : St) (K : St → Prop) (g : FuncId) (avs : List AV) : Prop :=
  ∃ R, Does P g avs [] R ∧ ∀ r h', R r h' → scal r = true ∧ dok o.dst σ.nt = true ∧ K (σ.put o.dst r)

def loA (σ : St) : Option Operand → Option Int
  | none => some 0
  | some x => match evA σ x with | some (.int _ n) => some n | _ => none
def hiA (σ : St) : Option Operand → Option (Option Int)
  | none => some none
  | some x => match evA σ x with | some (.int _ n) => some (some n) | _ => none
def sliceA {α : Type} (l : List α) (i j : Int) : Option (List α) := if 0 ≤ i ∧ i ≤ j ∧ j ≤ l.length then some ((l.take j.toNat).drop i.toNat) else none

def aop (P : Program) (T : Tab) (o : Oper) (σ : St) (K : St → Prop) : Prop :=
  match o.op with
  | .move x | .assign x => kont o σ K (evA σ x)
  | .pick x y z => match evA σ x, evA σ y, evA σ z with
    | some (.bool t), some u, some v => kont o σ K (some (pickA t u v))
    | _, _, _ => False
  | .fieldAddr t x f => match evA σ x, T.foff t f with
    | some p, some (n, _) => kont o σ K (addOff p n)
    | _, _ => False
  | .load t x => match evA σ x, T.size t, T.agg t with
    | some p, some n, some g => kont o σ K ((readA σ p n).bind (mkA g))
    | _, _, _ => False
  | .store t x y => match evA σ x, T.size t, evA σ y with
    | some (.ptr b i), some n, some v => match getk b σ.heap with
      | some (.row u size cs) => ((cellsA v).length = n ∧ i + n ≤ cs.length ∧ cellsOk (cellsA v) = true) ∧ dok o.dst σ.nt = true ∧ K ({ σ with heap := upd b (.row u size (splice cs i (cellsA v))) σ.heap }.put o.dst .und)
      | none => False
    | _, _, _ => False
  | .indexAddr t x i => match evA σ x, T.elem t, evA σ i with
    | some (.sl rows), some e, some (.int _ n) => (0 ≤ n ∧ n < rows.length) ∧ some (rows.getD n.toNat []).length = T.size e ∧ kont o σ K (some (.eptr (rows.getD n.toNat [])))
    | some (.ref b len _), some e, some (.int _ n) => (0 ≤ n ∧ n < len) ∧ kont o σ K ((T.size e).map fun sz => .ptr b (n.toNat * sz))
    | _, _, _ => False
  | .index t x i => match evA σ x, evA σ i with
    | some (.str l), some (.int _ n) => T.kind t = some .string ∧ (0 ≤ n ∧ n < l.length) ∧ kont o σ K (some (.int .u8 (l.getD n.toNat 0).toNat))
    | _, _ => False
  | .binOp op t x y _ => match evA σ x, evA σ y with
    | some u, some v => kont o σ K (match binA op u v with | some r => some r | none => binT T t op (isConstO y) u v)
    | _, _ => False
  | .unOp .not _ x => match evA σ x with
    | some (.bool b) => kont o σ K (some (.bool !b))
    | _ => False
  | .extract x i => match evA σ x with
    | some (.tup vs) => kont o σ K vs[i]?
    | _ => False
  | .box t x => match evA σ x, T.size t with
    | some v, some n => ((cellsA v).length = n ∧ cellsOk (cellsA v) = true) ∧ dok o.dst σ.nt = true ∧ ∀ b, fresh b σ.heap → K ({ σ with heap := (b, .row t n (cellsA v)) :: σ.heap }.put o.dst (.ptr b 0))
    | _, _ => False
  | .alloc t => match T.zero t with
    | some l => dok o.dst σ.nt = true ∧ ∀ b, fresh b σ.heap → K ({ σ with heap := (b, .row t l.length l) :: σ.heap }.put o.dst (.ptr b 0))
    | none => False
  | .build t parts => match T.zero t, evParts σ parts.toList with
    | some z, some ps => structOk T t = true ∧ kont o σ K ((fillA (T.foff t) z ps).map .agg)
    | _, _ => False
  | .buildSlice t len parts => match T.elem t, evParts σ parts.toList with
    | some e, some ps => match T.size e with
      | some n => match rowsLit n 0 ps with
        | some cs => (ps.length = len ∧ cellsOk cs = true ∧ 0 < n ∧ len * n ≤ 2 ^ 24 ∧ (T.zero e).map List.length = some n) ∧ dok o.dst σ.nt = true ∧ ∀ b, fresh b σ.heap → K ({ σ with heap := (b, .row e (len * n) cs) :: σ.heap }.put o.dst (.ref b len len))
        | none => False
      | none => False
    | _, _ => False
  | .makeSlice t x y => match T.elem t, evA σ x, evA σ y with
    | some e, some (.int _ n), some (.int _ n') => match T.size e, T.bytes e, T.zero e with
      | some sz, some by_, some z => (n' = n ∧ 0 ≤ n ∧ by_ * n ≤ 281474976710656 ∧ n < 9223372036854775808 ∧ z.length = sz ∧ 0 < sz) ∧ dok o.dst σ.nt = true ∧
          ∀ b, fresh b σ.heap → K ({ σ with heap := (b, .row e (n.toNat * sz) (rowsC (List.replicate n.toNat z))) :: σ.heap }.put o.dst (.ref b n.toNat n.toNat))
      | _, _, _ => False
    | _, _, _ => False
  | .slice t x lo hi none => match evA σ x, loA σ lo, hiA σ hi with
    | some (.str l), some i, some j => T.kind t = some .string ∧ kont o σ K (sliceA l i (j.getD l.length) |>.map .str)
    | some (.sl rows), some i, some j => (∃ e sz, T.elem t = some e ∧ T.size e = some sz ∧ rows.all (fun r => decide (r.length = sz)) = true) ∧ kont o σ K (sliceA rows i (j.getD rows.length) |>.map .sl)
    | _, _, _ => False
  | .nilCheck x => match evA σ x with
    | some (.ptr b i) => kont o σ K (some (.ptr b i))
    | some (.eptr cs) => kont o σ K (some (.eptr cs))
    | _ => False
  | .makeInterface t x => match evA σ x with
    | some v => (match T.kind t with | some .iface | some .other | none => false | _ => true) = true ∧ kont o σ K (some (.ifc t v))
    | none => False
  | .call cl => match cl.callee with
    | .builtin .len => match cl.argTypes[0]?, evAs σ cl.args.toList with
      | some t, some [v] => (match T.kind t, v with | some .string, .str _ => true | some (.slice _), .sl _ => true | some (.slice _), .ref .. => true | some (.slice _), .nil => true | _, _ => false) = true ∧ kont o σ K ((lenA v).map (AV.int .i64))
      | _, _ => False
    | .builtin .append => match cl.argTypes.toList, evAs σ cl.args.toList with
      | [t, t2], some [s, x] => match T.elem t with
        | some e => match T.size e, T.bytes e, (T.zero e).map List.length with
          | some sz, some by_, some zl => match ownA σ e sz s, addA σ sz x with
            | some (n, cs, ks), some (m, xs) => (t2 = t ∧ zl = sz ∧ 0 < sz ∧ 0 < by_ ∧ (n + m) * by_ ≤ 140737488355328 ∧ cellsOk xs = true ∧ (ks = [] → 0 < m)) ∧ dok o.dst σ.nt = true ∧
              ∀ b cap, fresh b (minus σ.heap ks) → n + m ≤ cap → K ({ σ with heap := (b, .row e (cap * sz) (cs ++ xs)) :: minus σ.heap ks }.put o.dst (.ref b (n + m) cap))
            | _, _ => False
          | _, _, _ => False
        | none => False
      | _, _ => False
    | .value x => match evA σ x, evAs σ cl.args.toList with
      | some (.clo (.func g) caps), some avs => CallN P o σ K g ((avs ++ caps).map nilA) ∨ CallV P o σ K g ((avs ++ caps).map fun v => nilA (viewA T σ v))
      | _, _ => False
    | _ => False
  | _ => False

def guardA (all : List Oper) (σ : St) (j : Nat) : Option AV := ((all[j]?).bind (·.dst)).bind fun d => getk d σ.slots

def aops (P : Program) (T : Tab) (all : List Oper) : List Oper → St → (St → Prop) → Prop
  | [], σ, K => K σ
  | o :: r, σ, K =>
    match o.guard with
    | none => aop P T o σ fun σ' => aops P T all r σ' K
    | some (j, want) => match guardA all σ j with
      | some (.bool t) => (t = want → aop P T o (σ.put ((all[j]?).bind (·.dst)) (.bool want)) fun σ' => aops P T all r σ' K) ∧ (t = !want → dok o.dst σ.nt = true ∧ aops P T all r ((σ.put ((all[j]?).bind (·.dst)) (.bool !want)).put o.dst .und) K)
      | some .und => dok o.dst σ.nt = true ∧ aops P T all r (σ.put o.dst .und) K
      | _ => False

end Go.Ab
