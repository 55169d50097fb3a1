/- Parts of a proof, put together; the conditions stand in each theorem. -/
import Derived.Calls
import Derived.LoopN
import Derived.Laws.Sem
import Derived.Laws.World
import GoSem.ClaimData
import Derived.Laws.Cells
import Derived.Laws.CopyRow
import Derived.Laws.Rows
import Derived.Laws.Strings
import Derived.Great.BuildSlice
import Derived.IntWalk
import Derived.Deep.Quiet
import Derived.Laws.AppendOwn
import Derived.Laws.BytesArg
section
/-! Abstract values: a slice that is only read is its elements' cells, a string its bytes; what is the call's own is named by a number. -/
set_option linter.unusedVariables false
set_option linter.unusedSimpArgs false
namespace Go.Bb

inductive AV where
  | int (k : IntKind) (n : Int)
  | bool (b : Bool)
  | str (l : List UInt8)
  | raw (v : Value)
  | sl (z : Bool) (rows : List (List AV))
  | osl (t : TypeId) (sz : Nat) (rows : List (List AV))
  | hd (x : Nat) (v : Value)
  | ptr (x b off : Nat)
  | eptr (cells : List AV)
  | optr (t : TypeId) (cells : List AV)
  | rptr (x : Nat) (v : Value) (sz i off : Nat)
  | agg (cs : List AV)
  | tup (vs : List AV)
  | ifc (t : TypeId) (v : AV)
  | clo (fn : Fn) (caps : List AV)
  | adr (b : Nat)
  | one
  | spt (rows : List (List AV))
  | omp (t : TypeId) (ks : List AV)
  | nil
  | und
  deriving Inhabited

abbrev nilV : Value := .slice none 0 0

/-- The block is cells, none of them frozen. -/
def Fz (w : World) (b : Nat) : Prop := ∃ arr t, w.heap[b]? = some (.cells arr t (0, 0))

/-- The abstract value 'av' and the machine's value 'v', in the world w; no block of N is looked into. -/
inductive RelV (N : Nat → Prop) (w : World) : AV → Value → Prop
  | int (k : IntKind) (n : Int) : RelV N w (.int k n) (.int k n)
  | bool (b : Bool) : RelV N w (.bool b) (.bool b)
  | str (l : List UInt8) (h : l.length ≤ maxLen) : RelV N w (.str l) (.string ⟨l.toArray⟩)
  | raw (v : Value) (h : v.oneCell' = true) : RelV N w (.raw v) v
  | nil : RelV N w .nil (.slice none 0 0)
  | slNil (z : Bool) : RelV N w (.sl z []) (.slice none 0 0)
  | sl (z : Bool) (rows : List (List AV)) (a : Addr) (cap sz : Nat) (u : Nat → Nat → Value) (hs : 0 < rows.length → a.spot = none) (hc : rows.length ≤ cap) (hm : cap ≤ maxLen)
      (h1 : ∀ (i : Nat) (row : List AV), rows[i]? = some row → row.length = sz)
      (h2 : ∀ (i : Nat) (row : List AV) (j : Nat) av, rows[i]? = some row → row[j]? = some av → ¬ N a.block ∧ w.cell? ⟨a.block, a.off + (i * sz + j), none⟩ = some (u i j))
      (h3 : ∀ (i : Nat) (row : List AV) (j : Nat) av, rows[i]? = some row → row[j]? = some av → RelV N w av (u i j))
      (h4 : z = true → ∀ (i : Nat) (row : List AV) (j : Nat) av, rows[i]? = some row → row[j]? = some av → Fz w a.block) :
      RelV N w (.sl z rows) (.slice (some a) rows.length cap)
  | hd (x : Nat) (v : Value) (h : v.oneCell' = true) : RelV N w (.hd x v) v
  | ptr (x b off : Nat) : RelV N w (.ptr x b off) (.pointer (some ⟨b, off, none⟩))
  | rptr (x : Nat) (sz i off b n cap : Nat) : RelV N w (.rptr x (.slice (some ⟨b, 0, none⟩) n cap) sz i off) (.pointer (some ⟨b, i * sz + off, none⟩))
  | eptr (cells : List AV) (a : Addr) (u : Nat → Value) (hs : a.spot = none)
      (h2 : ∀ (j : Nat) av, cells[j]? = some av → ¬ N a.block ∧ w.cell? ⟨a.block, a.off + j, none⟩ = some (u j))
      (h3 : ∀ (j : Nat) av, cells[j]? = some av → RelV N w av (u j)) : RelV N w (.eptr cells) (.pointer (some a))
  | agg (cs : List AV) (vs : Array Value) (hl : vs.size = cs.length) (h : ∀ (i : Nat) av v, cs[i]? = some av → vs[i]? = some v → RelV N w av v) : RelV N w (.agg cs) (.agg vs)
  | tup (cs : List AV) (vs : Array Value) (hl : vs.size = cs.length) (h : ∀ (i : Nat) av v, cs[i]? = some av → vs[i]? = some v → RelV N w av v) : RelV N w (.tup cs) (.tuple vs)
  | ifc (t : TypeId) (av : AV) (v : Value) (h : RelV N w av v) : RelV N w (.ifc t av) (.iface t v)
  | clo (fn : Fn) (caps : List AV) (vs : Array Value) (hl : vs.size = caps.length) (h : ∀ (i : Nat) av v, caps[i]? = some av → vs[i]? = some v → RelV N w av v) : RelV N w (.clo fn caps) (.func fn #[] vs)
  | adr0 (b : Nat) : RelV N w (.adr b) (.pointer none)
  | adr (b : Nat) : RelV N w (.adr b) (.pointer (some ⟨b, 0, none⟩))
  | any (v : Value) (h : v.oneCell' = true) : RelV N w .one v
  | spt0 : RelV N w (.spt []) (.pointer none)
  | spt (rows : List (List AV)) (a : Addr) (cap : Nat) (hne : rows ≠ []) (h : RelV N w (.sl true rows) (.slice (some a) rows.length cap)) : RelV N w (.spt rows) (.pointer (some a))
  | und : RelV N w .und (.tuple #[])

/-- w' has what w had, but for the blocks of N. -/
def Later (N : Nat → Prop) (w w' : World) : Prop := w.heap.size ≤ w'.heap.size ∧ ∀ k, k < w.heap.size → ¬ N k → w'.heap[k]? = w.heap[k]?

theorem Later.refl (N : Nat → Prop) (w : World) : Later N w w := ⟨Nat.le_refl _, fun _ _ _ => rfl⟩
theorem Later.trans {N N' : Nat → Prop} {a b c : World} (h : Later N a b) (k : Later N' b c) (hn : ∀ i, i < a.heap.size → N' i → N i) : Later N a c :=
  ⟨Nat.le_trans h.1 k.1, fun i hi hN => by rw [k.2 i (Nat.lt_of_lt_of_le hi h.1) (fun h' => hN (hn i hi h')), h.2 i hi hN]⟩

theorem cell_lt {w : World} {a : Addr} {v : Value} (h : w.cell? a = some v) : a.block < w.heap.size := by
  unfold World.cell? at h
  split at h
  · rename_i c e f hb
    exact (Array.getElem?_eq_some_iff.1 hb).1
  · cases h

theorem Later.cell {N : Nat → Prop} {w w' : World} (h : Later N w w') {a : Addr} {v : Value} (hN : ¬ N a.block) (hc : w.cell? a = some v) : w'.cell? a = some v := by
  have := h.2 a.block (cell_lt hc) hN
  unfold World.cell? at *
  rw [this]; exact hc

/-- What was read is read later, where what may be written is not looked into. -/
theorem RelV.mono {N N' : Nat → Prop} {w w' : World} {av : AV} {v : Value} (h : RelV N w av v) (hl : Later N w w') (hn : ∀ i, i < w.heap.size → N' i → N i) : RelV N' w' av v := by
  induction h with
  | int k n => exact .int k n
  | bool b => exact .bool b
  | str l h => exact .str l h
  | raw v h => exact .raw v h
  | nil => exact .nil
  | slNil z => exact .slNil z
  | any v h => exact .any v h
  | spt0 => exact .spt0
  | spt rows a cap hne h ih => exact .spt rows a cap hne ih
  | sl z rows a cap sz u hs hc hm h1 h2 h3 h4 ih =>
    refine .sl z rows a cap sz u hs hc hm h1 (fun i row j av hi hj => ?_) ih (fun hz i row j av hi hj => ?_)
    case refine_2 =>
      obtain ⟨hN, hcell⟩ := h2 i row j av hi hj
      obtain ⟨arr, t, hh⟩ := h4 hz i row j av hi hj
      exact ⟨arr, t, (hl.2 _ (cell_lt (a := ⟨a.block, _, none⟩) hcell) hN).trans hh⟩
    obtain ⟨hN, hcell⟩ := h2 i row j av hi hj
    exact ⟨fun h' => hN (hn _ (cell_lt (a := ⟨a.block, _, none⟩) hcell) h'), hl.cell (a := ⟨a.block, _, none⟩) hN hcell⟩
  | hd x v h => exact .hd x v h
  | ptr x b off => exact .ptr x b off
  | rptr x sz i off b n cap => exact .rptr x sz i off b n cap
  | eptr cells a u hs h2 h3 ih =>
    refine .eptr cells a u hs (fun j av hj => ?_) ih
    obtain ⟨hN, hcell⟩ := h2 j av hj
    exact ⟨fun h' => hN (hn _ (cell_lt (a := ⟨a.block, _, none⟩) hcell) h'), hl.cell (a := ⟨a.block, _, none⟩) hN hcell⟩
  | agg cs vs hl' h ih => exact .agg cs vs hl' ih
  | tup cs vs hl' h ih => exact .tup cs vs hl' ih
  | ifc t av v h ih => exact .ifc t av v ih
  | clo fn caps vs hl' h ih => exact .clo fn caps vs hl' ih
  | adr0 b => exact .adr0 b
  | adr b => exact .adr b
  | und => exact .und

/-- 'av' is 'v', with all the memory that it owns in S. -/
inductive OwnV (N : Nat → Prop) (w : World) : (Nat → Prop) → AV → Value → Prop
  | frz (S : Nat → Prop) (av : AV) (v : Value) (h : RelV N w av v) : OwnV N w S av v
  | osl0 (S : Nat → Prop) (t : TypeId) (sz : Nat) : OwnV N w S (.osl t sz []) (.slice none 0 0)
  | osl (S : Nat → Prop) (t : TypeId) (sz : Nat) (rows : List (List AV)) (b cap : Nat) (arr : Array Value) (G : Nat → Nat → Nat → Prop) (u : Nat → Nat → Value)
      (hb : S b) (hh : w.heap[b]? = some (.cells arr t (0, 0))) (hsz : arr.size = cap * sz) (hl : rows.length ≤ cap) (hm : cap ≤ maxLen)
      (hr : ∀ (i : Nat) (row : List AV), rows[i]? = some row → row.length = sz)
      (hG : ∀ i j k, G i j k → S k ∧ k ≠ b) (hd : ∀ i j i' j' k, G i j k → G i' j' k → i = i' ∧ j = j')
      (hc : ∀ (i : Nat) (row : List AV) (j : Nat) av, rows[i]? = some row → row[j]? = some av → arr[i * sz + j]? = some (u i j))
      (ho : ∀ (i : Nat) (row : List AV) (j : Nat) av, rows[i]? = some row → row[j]? = some av → OwnV N w (G i j) av (u i j)) :
      OwnV N w S (.osl t sz rows) (.slice (some ⟨b, 0, none⟩) rows.length cap)
  | optr (S : Nat → Prop) (t : TypeId) (cs : List AV) (b : Nat) (arr : Array Value) (G : Nat → Nat → Prop) (u : Nat → Value)
      (hb : S b) (hh : w.heap[b]? = some (.cells arr t (0, 0))) (hsz : arr.size = cs.length)
      (hG : ∀ j k, G j k → S k ∧ k ≠ b) (hd : ∀ j j' k, G j k → G j' k → j = j')
      (hc : ∀ (j : Nat) av, cs[j]? = some av → arr[j]? = some (u j))
      (ho : ∀ (j : Nat) av, cs[j]? = some av → OwnV N w (G j) av (u j)) :
      OwnV N w S (.optr t cs) (.pointer (some ⟨b, 0, none⟩))
  | omp (S : Nat → Prop) (t : TypeId) (ks : List AV) (b : Nat) (es : Array MapEntry) (clock : Nat)
      (hb : S b) (hh : w.heap[b]? = some (.map es clock)) (hsz : es.size = ks.length) (hv : ∀ (i : Nat) e, es[i]? = some e → e.val = .agg #[])
      (hk : ∀ (i : Nat) av e, ks[i]? = some av → es[i]? = some e → RelV N w av e.key) :
      OwnV N w S (.omp t ks) (.map (some b))

theorem OwnV.mono {N N' : Nat → Prop} {w w' : World} {S : Nat → Prop} {av : AV} {v : Value} (h : OwnV N w S av v) (hl : Later N w w') (hn : ∀ i, i < w.heap.size → N' i → N i)
    (hS : ∀ k, k < w.heap.size → S k → w'.heap[k]? = w.heap[k]?) : OwnV N' w' S av v := by
  induction h with
  | frz S av v h => exact .frz S av v (h.mono hl hn)
  | osl0 S t sz => exact .osl0 S t sz
  | osl S t sz rows b cap arr G u hb hh hsz hl' hm hr hG hd hc ho ih =>
    exact .osl S t sz rows b cap arr G u hb ((hS b (Array.getElem?_eq_some_iff.1 hh).1 hb).trans hh) hsz hl' hm hr hG hd hc (fun i row j av h1 h2 => ih i row j av h1 h2 (fun k hk hg => hS k hk (hG i j k hg).1))
  | optr S t cs b arr G u hb hh hsz hG hd hc ho ih =>
    exact .optr S t cs b arr G u hb ((hS b (Array.getElem?_eq_some_iff.1 hh).1 hb).trans hh) hsz hG hd hc (fun j av h1 => ih j av h1 (fun k hk hg => hS k hk (hG j k hg).1))
  | omp S t ks b es clock hb hh hsz hv hk =>
    exact .omp S t ks b es clock hb ((hS b (Array.getElem?_eq_some_iff.1 hh).1 hb).trans hh) hsz hv (fun i av e h1 h2 => (hk i av e h1 h2).mono hl hn)

theorem OwnV.sub {N : Nat → Prop} {w : World} {S S' : Nat → Prop} {av : AV} {v : Value} (h : OwnV N w S av v) (hS : ∀ k, S k → S' k) : OwnV N w S' av v := by
  cases h with
  | frz _ _ _ h => exact .frz _ _ _ h
  | osl0 _ t sz => exact .osl0 _ t sz
  | osl _ t sz rows b cap arr G u hb hh hsz hl' hm hr hG hd hc ho => exact .osl _ t sz rows b cap arr G u (hS b hb) hh hsz hl' hm hr (fun i j k h => ⟨hS k (hG i j k h).1, (hG i j k h).2⟩) hd hc ho
  | optr _ t cs b arr G u hb hh hsz hG hd hc ho => exact .optr _ t cs b arr G u (hS b hb) hh hsz (fun j k h => ⟨hS k (hG j k h).1, (hG j k h).2⟩) hd hc ho
  | omp _ t ks b es clock hb hh hsz hv hk => exact .omp _ t ks b es clock (hS b hb) hh hsz hv hk

/-! ### States -/

def getk {α : Type} (k : Nat) : List (Nat × α) → Option α
  | [] => none
  | (i, x) :: l => if i = k then some x else getk k l
def keys {α : Type} (l : List (Nat × α)) : List Nat := l.map (·.1)

theorem get_mem_keys {α : Type} {k : Nat} {l : List (Nat × α)} {x : α} (h : getk k l = some x) : k ∈ keys l := by
  induction l with
  | nil => cases h
  | cons p l ih =>
    obtain ⟨i, y⟩ := p
    simp only [getk] at h
    split at h
    · rename_i e; simp [keys, e]
    · have := ih h; simp [keys] at this ⊢; exact .inr this
theorem mem_keys_get {α : Type} {k : Nat} : ∀ {l : List (Nat × α)}, k ∈ keys l → ∃ x, getk k l = some x
  | [], h => by simp [keys] at h
  | (i, y) :: l, h => by
    simp only [getk]
    by_cases hi : i = k
    · exact ⟨y, by simp [hi]⟩
    · simp only [hi, if_false]
      exact mem_keys_get (by simp only [keys, List.map_cons, List.mem_cons] at h; exact h.resolve_left (fun h => hi h.symm))
theorem get_mem {α : Type} {k : Nat} {x : α} : ∀ {l : List (Nat × α)}, getk k l = some x → (k, x) ∈ l
  | [], h => by cases h
  | (i, y) :: l, h => by
    simp only [getk] at h
    split at h
    · rename_i e; subst e; cases h; exact List.mem_cons_self
    · exact List.mem_cons_of_mem _ (get_mem h)

abbrev HP := List (Nat × (Value × AV))

structure St where
  nt : Nat
  slots : List (Nat × AV)
  heap : HP

def St.put (σ : St) (d : Option Tmp) (v : AV) : St := match d with | some d => { σ with slots := (d, v) :: σ.slots } | none => σ
theorem St.put_nt (σ : St) (d : Option Tmp) (v : AV) : (σ.put d v).nt = σ.nt := by cases d <;> rfl
theorem St.put_heap (σ : St) (d : Option Tmp) (v : AV) : (σ.put d v).heap = σ.heap := by cases d <;> rfl

/-- What is owned, each in a part of memory of its own. -/
structure HOk (N : Nat → Prop) (F : Nat → Nat → Prop) (w : World) (h : HP) : Prop where
  own : ∀ x v o, getk x h = some (v, o) → OwnV N w (F x) o v
  foot : ∀ x, x ∈ keys h → ∀ b, F x b → N b ∧ b < w.heap.size
  disj : ∀ x y, x ∈ keys h → y ∈ keys h → x ≠ y → ∀ b, F x b → ¬ F y b
  one : ∀ x v o, getk x h = some (v, o) → v.oneCell' = true

/-- What stays the same through a call: the world in which it began; which of its blocks may be written; what is not to be looked into. -/
structure Cx where
  w0 : World
  M : Nat → Prop
  N0 : Nat → Prop

structure Unch (M : Nat → Prop) (w w' : World) : Prop where
  os : w'.os = w.os
  tape : w'.tape = w.tape
  output : w'.output = w.output
  size : w.heap.size ≤ w'.heap.size
  block : ∀ k, k < w.heap.size → ¬ M k → w'.heap[k]? = w.heap[k]?

theorem Unch.refl (M : Nat → Prop) (w : World) : Unch M w w := ⟨rfl, rfl, rfl, Nat.le_refl _, fun _ _ _ => rfl⟩
theorem Unch.trans {M M' : Nat → Prop} {a b c : World} (h : Unch M a b) (k : Unch M' b c) (hm : ∀ i, i < a.heap.size → M' i → M i) : Unch M a c :=
  ⟨k.os.trans h.os, k.tape.trans h.tape, k.output.trans h.output, Nat.le_trans h.size k.size, fun i hi hM => by
    rw [k.block i (Nat.lt_of_lt_of_le hi h.size) (fun h' => hM (hm i hi h')), h.block i hi hM]⟩
theorem Unch.later {M : Nat → Prop} {w w' : World} (h : Unch M w w') : Later M w w' := ⟨h.size, h.block⟩

structure Rel (c : Cx) (F : Nat → Nat → Prop) (N : Nat → Prop) (σ : St) (a : Act) (w : World) : Prop where
  defers : a.defers = []
  size : a.tmps.size = σ.nt
  slots : ∀ k av, getk k σ.slots = some av → ∃ v, a.tmps[k]? = some v ∧ RelV N w av v
  heap : HOk N F w σ.heap
  may : ∀ x, x ∈ keys σ.heap → ∀ b, F x b → c.M b ∨ c.w0.heap.size ≤ b
  n0 : ∀ k, k < c.w0.heap.size → c.N0 k → N k ∨ c.M k
  unch : Unch c.M c.w0 w

/-- The world went on, and nothing of the call's own was written. -/
theorem HOk.step {N N' : Nat → Prop} {F : Nat → Nat → Prop} {w w' : World} {h : HP} (hh : HOk N F w h) (hu : Unch (fun k => False) w w') (hn : ∀ i, i < w.heap.size → N' i → N i) (hn' : ∀ i, N i → N' i) : HOk N' F w' h where
  own := fun x v o hx => (hh.own x v o hx).mono ⟨hu.size, fun k hk _ => hu.block k hk (fun h => h)⟩ hn (fun k hk _ => hu.block k hk (fun h => h))
  foot := fun x hx b hb => ⟨hn' b (hh.foot x hx b hb).1, Nat.lt_of_lt_of_le (hh.foot x hx b hb).2 hu.size⟩
  disj := hh.disj
  one := hh.one

theorem Rel.step {c : Cx} {F : Nat → Nat → Prop} {N N' : Nat → Prop} {σ : St} {a : Act} {w w' : World} (h : Rel c F N σ a w) (hu : Unch (fun k => False) w w') (hn : ∀ i, i < w.heap.size → N' i → N i) (hn' : ∀ i, N i → N' i) : Rel c F N' σ a w' where
  defers := h.defers
  size := h.size
  slots := fun k av hk => let ⟨v, h1, h2⟩ := h.slots k av hk; ⟨v, h1, h2.mono ⟨hu.size, fun i hi _ => hu.block i hi (fun h => h)⟩ hn⟩
  heap := h.heap.step hu hn hn'
  may := h.may
  n0 := fun k hk hN => (h.n0 k hk hN).imp (hn' _) id
  unch := h.unch.trans hu (fun _ _ h => h.elim)

theorem Rel.put {c : Cx} {F : Nat → Nat → Prop} {N : Nat → Prop} {σ : St} {a : Act} {w : World} (h : Rel c F N σ a w) {d : Option Tmp} {av : AV} {v : Value} (hd : ∀ k, d = some k → k < σ.nt) (hv : RelV N w av v) : Rel c F N (σ.put d av) (a.put d v) w := by
  cases d with
  | none => exact h
  | some d =>
    have hd := hd d rfl
    refine ⟨h.defers, by simp [Act.put, St.put, h.size], fun k av' hk => ?_, h.heap, h.may, h.n0, h.unch⟩
    simp only [St.put, getk] at hk
    simp only [Act.put]
    split at hk
    · rename_i e; subst e; cases hk; exact ⟨v, by simp [h.size, hd], hv⟩
    · rename_i e
      obtain ⟨u, h1, h2⟩ := h.slots k av' hk
      exact ⟨u, by simpa [Array.getElem?_setIfInBounds, e] using h1, h2⟩

/-! ### Freezing: what is owned, read only -/

mutual
inductive Frz : AV → AV → Prop
  | refl (av : AV) (h : (match av with | .osl .. | .optr .. | .omp .. => false | _ => true) = true) : Frz av av
  | osl {t : TypeId} {sz : Nat} {rows rows' : List (List AV)} {z : Bool} (h : FrzLL rows' rows) : Frz (.sl z rows') (.osl t sz rows)
  | optr {t : TypeId} {cs cs' : List AV} (h : FrzL cs' cs) : Frz (.eptr cs') (.optr t cs)
inductive FrzL : List AV → List AV → Prop
  | nil : FrzL [] []
  | cons {a b : AV} {l m : List AV} (h : Frz a b) (t : FrzL l m) : FrzL (a :: l) (b :: m)
inductive FrzLL : List (List AV) → List (List AV) → Prop
  | nil : FrzLL [] []
  | cons {a b : List AV} {l m : List (List AV)} (h : FrzL a b) (t : FrzLL l m) : FrzLL (a :: l) (b :: m)
end

theorem FrzL.get : ∀ {l m : List AV}, FrzL l m → l.length = m.length ∧ ∀ (i : Nat) a, l[i]? = some a → ∃ b, m[i]? = some b ∧ Frz a b
  | _, _, .nil => ⟨rfl, fun i a h => by simp at h⟩
  | _, _, .cons h t => by
    obtain ⟨h1, h2⟩ := FrzL.get t
    refine ⟨by simp [h1], fun i a ha => ?_⟩
    cases i with
    | zero => simp at ha; subst ha; exact ⟨_, rfl, h⟩
    | succ i => simpa using h2 i a (by simpa using ha)
theorem FrzLL.get : ∀ {l m : List (List AV)}, FrzLL l m → l.length = m.length ∧ ∀ (i : Nat) a, l[i]? = some a → ∃ b, m[i]? = some b ∧ FrzL a b
  | _, _, .nil => ⟨rfl, fun i a h => by simp at h⟩
  | _, _, .cons h t => by
    obtain ⟨h1, h2⟩ := FrzLL.get t
    refine ⟨by simp [h1], fun i a ha => ?_⟩
    cases i with
    | zero => simp at ha; subst ha; exact ⟨_, rfl, h⟩
    | succ i => simpa using h2 i a (by simpa using ha)
theorem FrzLL.map {α : Type} {f g : α → List AV} : ∀ {l : List α}, (∀ x ∈ l, FrzL (f x) (g x)) → FrzLL (l.map f) (l.map g)
  | [], _ => .nil
  | x :: l, h => .cons (h x List.mem_cons_self) (FrzLL.map fun y hy => h y (List.mem_cons_of_mem _ hy))

/-- What is owned may be given away to be read. -/
theorem OwnV.freeze {N : Nat → Prop} {w : World} {S : Nat → Prop} {av : AV} {v : Value} (h : OwnV N w S av v) : ∀ {av' : AV} {N1 : Nat → Prop}, Frz av' av → (∀ k, N1 k → N k ∧ ¬ S k) → RelV N1 w av' v := by
  induction h with
  | frz S av v h =>
    intro av' N1 hf hn
    have h' := h.mono (.refl N w) (fun i _ hi => (hn i hi).1)
    cases hf with
    | refl => exact h'
    | osl => cases h
    | optr => cases h
  | osl0 S t sz =>
    intro av' N1 hf hn
    cases hf with
    | refl _ h => cases h
    | osl h => cases h; exact .slNil _
  | osl S t sz rows b cap arr G u hb hh hsz hl' hm hr hG hd hc ho ih =>
    intro av' N1 hf hn
    cases hf with
    | refl _ h => cases h
    | osl h =>
      rename_i rows' zz
      obtain ⟨h1, h2⟩ := h.get
      have key : ∀ (i : Nat) (row : List AV) (j : Nat) av, rows'[i]? = some row → row[j]? = some av → ∃ row0 av0, rows[i]? = some row0 ∧ row0[j]? = some av0 ∧ Frz av av0 := by
        intro i row j av hi hj
        obtain ⟨row0, h3, h4⟩ := h2 i row hi
        obtain ⟨av0, h5, h6⟩ := h4.get.2 j av hj
        exact ⟨row0, av0, h3, h5, h6⟩
      rw [← h1]
      refine .sl _ rows' ⟨b, 0, none⟩ cap sz u (fun _ => rfl) (by omega) hm (fun i row hi => ?_) (fun i row j av hi hj => ?_) (fun i row j av hi hj => ?_) (fun _ _ _ _ _ _ _ => ⟨arr, _, hh⟩)
      · obtain ⟨row0, h3, h4⟩ := h2 i row hi
        rw [h4.get.1]; exact hr i row0 h3
      · obtain ⟨row0, av0, h3, h4, h5⟩ := key i row j av hi hj
        refine ⟨fun hk => (hn b hk).2 hb, ?_⟩
        simp only [World.cell?, hh]
        simpa using hc i row0 j av0 h3 h4
      · obtain ⟨row0, av0, h3, h4, h5⟩ := key i row j av hi hj
        exact ih i row0 j av0 h3 h4 h5 (fun k hk => ⟨(hn k hk).1, fun hg => (hn k hk).2 (hG i j k hg).1⟩)
  | optr S t cs b arr G u hb hh hsz hG hd hc ho ih =>
    intro av' N1 hf hn
    cases hf with
    | refl _ h => cases h
    | optr h =>
      rename_i cs'
      obtain ⟨h1, h2⟩ := h.get
      refine .eptr cs' ⟨b, 0, none⟩ u rfl (fun j av hj => ?_) (fun j av hj => ?_)
      · obtain ⟨av0, h3, h4⟩ := h2 j av hj
        refine ⟨fun hk => (hn b hk).2 hb, ?_⟩
        simp only [World.cell?, hh]
        simpa using hc j av0 h3
      · obtain ⟨av0, h3, h4⟩ := h2 j av hj
        exact ih j av0 h3 h4 (fun k hk => ⟨(hn k hk).1, fun hg => (hn k hk).2 (hG j k hg).1⟩)
  | omp S t ks b es clock hb hh hsz hv hk =>
    intro av' N1 hf hn
    cases hf with
    | refl _ h => cases h

/-! ### Weaker states -/

mutual
/-- What fits the second fits the first; Z: what was frozen. -/
inductive Wk (Z : List (Value × AV)) : AV → AV → Prop
  | refl (av : AV) : Wk Z av av
  | hd (x y : Nat) (v : Value) : Wk Z (.hd x v) (.hd y v)
  | nilhd (x : Nat) : Wk Z (.hd x nilV) .nil
  | hdnil (x : Nat) : Wk Z .nil (.hd x nilV)
  | nilsl {z : Bool} : Wk Z (.sl z []) .nil
  | onehd (x : Nat) (v : Value) : Wk Z .one (.hd x v)
  | onenil : Wk Z .one .nil
  | sptnil : Wk Z (.spt []) (.raw (.pointer none))
  | onesl {z : Bool} {rows : List (List AV)} : Wk Z .one (.sl z rows)
  | ptr (x y b off : Nat) : Wk Z (.ptr x b off) (.ptr y b off)
  | rptr (x y : Nat) (v : Value) (sz i off : Nat) : Wk Z (.rptr x v sz i off) (.rptr y v sz i off)
  | adr0 (b : Nat) : Wk Z (.adr b) (.raw (.pointer none))
  | adr (x b : Nat) : Wk Z (.adr b) (.ptr x b 0)
  | frz (x : Nat) (v : Value) (av : AV) (h : (v, av) ∈ Z) : Wk Z av (.hd x v)
  | frzp (x b off : Nat) (cs cs' : List AV) (h : (Value.pointer (some ⟨b, 0, none⟩), AV.eptr cs) ∈ Z) (hd : cs' = cs.drop off) (ho : off ≤ cs.length) : Wk Z (.eptr cs') (.ptr x b off)
  | agg {cs cs' : List AV} (h : WkL Z cs cs') : Wk Z (.agg cs) (.agg cs')
  | tup {cs cs' : List AV} (h : WkL Z cs cs') : Wk Z (.tup cs) (.tup cs')
  | ifc {t : TypeId} {av av' : AV} (h : Wk Z av av') : Wk Z (.ifc t av) (.ifc t av')
  | clo {fn : Fn} {cs cs' : List AV} (h : WkL Z cs cs') : Wk Z (.clo fn cs) (.clo fn cs')
  | optr {t : TypeId} {cs cs' : List AV} (h : WkL Z cs cs') : Wk Z (.optr t cs) (.optr t cs')
inductive WkL (Z : List (Value × AV)) : List AV → List AV → Prop
  | nil : WkL Z [] []
  | cons {a b : AV} {l m : List AV} (h : Wk Z a b) (t : WkL Z l m) : WkL Z (a :: l) (b :: m)
end

theorem WkL.refl {Z : List (Value × AV)} : ∀ (l : List AV), WkL Z l l
  | [] => .nil
  | a :: l => .cons (.refl a) (WkL.refl l)
theorem WkL.get {Z : List (Value × AV)} : ∀ {l m : List AV}, WkL Z l m → l.length = m.length ∧ ∀ (i : Nat) a, l[i]? = some a → ∃ b, m[i]? = some b ∧ Wk Z a b
  | _, _, .nil => ⟨rfl, fun i a h => by simp at h⟩
  | _, _, .cons h t => by
    obtain ⟨h1, h2⟩ := WkL.get t
    refine ⟨by simp [h1], fun i a ha => ?_⟩
    cases i with
    | zero => simp at ha; subst ha; exact ⟨_, rfl, h⟩
    | succ i => simpa using h2 i a (by simpa using ha)

mutual
theorem Wk.rel {Z : List (Value × AV)} {N : Nat → Prop} {w : World} (hZ : ∀ v av, (v, av) ∈ Z → RelV N w av v) : ∀ {av1 av : AV}, Wk Z av1 av → ∀ {u : Value}, RelV N w av u → RelV N w av1 u
  | _, _, .refl av, u, h => h
  | _, _, .hd x y v, u, h => by cases h; exact .hd _ _ (by assumption)
  | _, _, .nilhd x, u, h => by cases h; exact .hd _ _ rfl
  | _, _, .hdnil x, u, h => by cases h; exact .nil
  | _, _, .nilsl, u, h => by cases h; exact .slNil _
  | _, _, .onehd x v, u, h => by cases h; exact .any _ (by assumption)
  | _, _, .onenil, u, h => by cases h; exact .any _ rfl
  | _, _, .sptnil, u, h => by cases h; exact .spt0
  | _, _, .onesl, u, h => by cases h <;> exact .any _ rfl
  | _, _, .ptr x y b off, u, h => by cases h; exact .ptr _ _ _
  | _, _, .rptr x y v sz i off, u, h => by cases h; exact .rptr _ _ _ _ _ _ _
  | _, _, .adr0 b, u, h => by cases h; exact .adr0 _
  | _, _, .adr x b, u, h => by cases h; exact .adr _
  | _, _, .frz x v av hz, u, h => by cases h; exact hZ _ _ hz
  | _, _, .frzp x b off cs cs' hz hd ho, u, h => by
    cases h
    have := hZ _ _ hz
    cases this with
    | eptr _ a u' hs h2 h3 =>
      subst hd
      refine .eptr _ _ (fun j => u' (off + j)) rfl (fun j av hj => ?_) (fun j av hj => ?_)
      · rw [List.getElem?_drop] at hj
        have := h2 _ av hj
        simpa using this
      · rw [List.getElem?_drop] at hj
        exact h3 _ av hj
  | _, _, .agg hl, u, h => by
    cases h with
    | agg _ vs hs hr => exact .agg _ _ (by rw [hl.get.1]; exact hs) (fun i av v h1 h2 => WkL.rel hZ hl (vs := vs) (k := 0) (fun j b x h3 h4 => hr j b x h3 (by simpa using h4)) i av v h1 (by simpa using h2))
  | _, _, .tup hl, u, h => by
    cases h with
    | tup _ vs hs hr => exact .tup _ _ (by rw [hl.get.1]; exact hs) (fun i av v h1 h2 => WkL.rel hZ hl (vs := vs) (k := 0) (fun j b x h3 h4 => hr j b x h3 (by simpa using h4)) i av v h1 (by simpa using h2))
  | _, _, .ifc hk, u, h => by
    cases h with
    | ifc _ _ v hr => exact .ifc _ _ _ (Wk.rel hZ hk hr)
  | _, _, .clo hl, u, h => by
    cases h with
    | clo _ _ vs hs hr => exact .clo _ _ _ (by rw [hl.get.1]; exact hs) (fun i av v h1 h2 => WkL.rel hZ hl (vs := vs) (k := 0) (fun j b x h3 h4 => hr j b x h3 (by simpa using h4)) i av v h1 (by simpa using h2))
  | _, _, .optr hl, u, h => by cases h
theorem WkL.rel {Z : List (Value × AV)} {N : Nat → Prop} {w : World} (hZ : ∀ v av, (v, av) ∈ Z → RelV N w av v) : ∀ {l m : List AV}, WkL Z l m → ∀ {vs : Array Value} {k : Nat}, (∀ (j : Nat) b x, m[j]? = some b → vs[k + j]? = some x → RelV N w b x) →
    ∀ (i : Nat) av v, l[i]? = some av → vs[k + i]? = some v → RelV N w av v
  | _, _, .nil, vs, k, hr, i, av, v, h1, h2 => by simp at h1
  | _, _, .cons h t, vs, k, hr, i, av, v, h1, h2 => by
    cases i with
    | zero => simp at h1; subst h1; exact Wk.rel hZ h (hr 0 _ v rfl h2)
    | succ i => exact WkL.rel hZ t (k := k + 1) (fun j b x h3 h4 => hr (j + 1) b x (by simpa using h3) (by simpa [Nat.add_assoc, Nat.add_comm 1 j] using h4)) i av v (by simpa using h1) (by simpa [Nat.add_assoc, Nat.add_comm 1 i] using h2)
end
end Go.Bb
end
section
/-! States that say less; code. -/
set_option linter.unusedVariables false
set_option linter.unusedSimpArgs false
namespace Go.Bb

/-- Whatever fits σ fits σ1. -/
def Le (σ σ1 : St) : Prop := ∀ (c : Cx) (F : Nat → Nat → Prop) (N : Nat → Prop) (a : Act) (w : World), Rel c F N σ a w → ∃ F' N', Rel c F' N' σ1 a w

theorem Le.refl (σ : St) : Le σ σ := fun _ F N _ _ h => ⟨F, N, h⟩
theorem Le.trans {a b d : St} (h : Le a b) (k : Le b d) : Le a d := fun c F N x w hr => let ⟨F', N', h'⟩ := h c F N x w hr; k c F' N' x w h'

def wslots (Z : List (Value × AV)) (s : List (Nat × AV)) : List (Nat × AV) → Prop
  | [] => True
  | (k, av1) :: r => (∃ av, getk k s = some av ∧ Wk Z av1 av) ∧ wslots Z s r
def wheap (Z : List (Value × AV)) (s : HP) : List (Option Nat) → HP → Prop
  | [], [] => True
  | none :: ms, (x, (v, o1)) :: r => (v = nilV ∧ ∃ t sz, o1 = .osl t sz []) ∧ wheap Z s ms r
  | some y :: ms, (x, (v, o1)) :: r => (∃ o, getk y s = some (v, o) ∧ Wk Z o1 o) ∧ wheap Z s ms r
  | _, _ => False
def wfrz (s : HP) : List Nat → List (Value × AV) → Prop
  | [], [] => True
  | y :: ys, (v, av) :: r => (∃ o, getk y s = some (v, o) ∧ Frz av o) ∧ wfrz s ys r
  | _, _ => False

theorem wslots_get {Z : List (Value × AV)} {s : List (Nat × AV)} : ∀ {l : List (Nat × AV)}, wslots Z s l → ∀ k av1, getk k l = some av1 → ∃ av, getk k s = some av ∧ Wk Z av1 av
  | [], _, k, av1, h => by cases h
  | (i, x) :: l, h, k, av1, hk => by
    simp only [getk] at hk
    split at hk
    · rename_i e; subst e; cases hk; exact h.1
    · exact wslots_get h.2 k av1 hk

/-- From where each comes. -/
def srcs : List (Option Nat) → HP → Nat → Option Nat
  | m :: ms, (x, _) :: r, k => if x = k then m else srcs ms r k
  | _, _, _ => none

theorem wheap_get {Z : List (Value × AV)} {s : HP} : ∀ {ms : List (Option Nat)} {l : HP}, wheap Z s ms l → ∀ k v o1, getk k l = some (v, o1) →
    (srcs ms l k = none ∧ v = nilV ∧ ∃ t sz, o1 = .osl t sz []) ∨ ∃ y o, srcs ms l k = some y ∧ y ∈ ms.filterMap id ∧ getk y s = some (v, o) ∧ Wk Z o1 o
  | [], [], _, k, v, o1, h => by cases h
  | m :: ms, (x, (v0, o0)) :: r, h, k, v, o1, hk => by
    simp only [getk] at hk
    simp only [srcs]
    by_cases e : x = k
    · rw [if_pos e] at hk ⊢
      cases hk
      cases m with
      | none => exact .inl ⟨rfl, h.1⟩
      | some y => obtain ⟨o, h1, h2⟩ := h.1; exact .inr ⟨y, o, rfl, by simp, h1, h2⟩
    · rw [if_neg e] at hk ⊢
      have hr : wheap Z s ms r := by cases m <;> exact h.2
      rcases wheap_get hr k v o1 hk with h1 | ⟨y, o, h1, h2, h3⟩
      · exact .inl h1
      · exact .inr ⟨y, o, h1, by cases m <;> simp at h2 ⊢ <;> first | exact h2 | exact .inr h2, h3⟩
  | [], _ :: _, h, _, _, _, _ => by cases h
  | _ :: _, [], h, _, _, _, hk => by cases hk

theorem srcs_inj {Z : List (Value × AV)} {s : HP} : ∀ {ms : List (Option Nat)} {l : HP}, wheap Z s ms l → (ms.filterMap id).Nodup → ∀ x x' y, srcs ms l x = some y → srcs ms l x' = some y → x = x'
  | [], [], _, _, x, x', y, h1, _ => by cases h1
  | m :: ms, (k, (v0, o0)) :: r, h, hn, x, x', y, h1, h2 => by
    have hr : wheap Z s ms r := by cases m <;> exact h.2
    have hmem : ∀ z, srcs ms r z = some y → y ∈ ms.filterMap id := by
      intro z hz
      clear h1 h2 hn h
      induction ms generalizing r with
      | nil => cases hz
      | cons m' ms ih =>
        cases r with
        | nil => cases hz
        | cons p r =>
          obtain ⟨k', v', o'⟩ := p
          simp only [srcs] at hz
          split at hz
          · subst hz; simp
          · have hr' : wheap Z s ms r := by cases m' <;> exact hr.2
            have := ih r hr' hz
            cases m' with
            | none => simpa using this
            | some q => simp only [List.filterMap_cons, id]; exact List.mem_cons_of_mem _ this
    simp only [srcs] at h1 h2
    by_cases e1 : k = x <;> by_cases e2 : k = x'
    · omega
    · rw [if_pos e1] at h1; rw [if_neg e2] at h2
      subst h1
      simp only [List.filterMap_cons, id, List.nodup_cons] at hn
      exact absurd (hmem _ h2) hn.1
    · rw [if_neg e1] at h1; rw [if_pos e2] at h2
      subst h2
      simp only [List.filterMap_cons, id, List.nodup_cons] at hn
      exact absurd (hmem _ h1) hn.1
    · rw [if_neg e1] at h1; rw [if_neg e2] at h2
      have hn' : (ms.filterMap id).Nodup := by
        cases m with
        | none => simpa using hn
        | some q => simp only [List.filterMap_cons, id, List.nodup_cons] at hn; exact hn.2
      exact srcs_inj hr hn' x x' y h1 h2
  | [], _ :: _, h, _, _, _, _, _, _ => by cases h
  | _ :: _, [], h, _, _, _, _, h1, _ => by cases h1

theorem wfrz_mem {s : HP} : ∀ {ys : List Nat} {Z : List (Value × AV)}, wfrz s ys Z → ∀ v av, (v, av) ∈ Z → ∃ y o, y ∈ ys ∧ getk y s = some (v, o) ∧ Frz av o
  | [], [], _, v, av, h => by cases h
  | y :: ys, (v0, av0) :: r, h, v, av, hm => by
    rcases List.mem_cons.1 hm with e | hm
    · cases e; obtain ⟨o, h1, h2⟩ := h.1; exact ⟨y, o, List.mem_cons_self, h1, h2⟩
    · obtain ⟨y', o, h1, h2⟩ := wfrz_mem h.2 v av hm
      exact ⟨y', o, List.mem_cons_of_mem _ h1, h2⟩
  | [], _ :: _, h, _, _, _ => by cases h
  | _ :: _, [], h, _, _, hm => by cases hm

theorem Wk.own {Z : List (Value × AV)} {N : Nat → Prop} {w : World} (hZ : ∀ v av, (v, av) ∈ Z → RelV N w av v) {S : Nat → Prop} {av : AV} {u : Value} (h : OwnV N w S av u) : ∀ {av1 : AV}, Wk Z av1 av → OwnV N w S av1 u := by
  induction h with
  | frz S av u h => intro av1 hk; exact .frz S _ _ (hk.rel hZ h)
  | osl0 S t sz => intro av1 hk; cases hk; exact .osl0 S t sz
  | osl S t sz rows b cap arr G u hb hh hsz hl hm hr hG hd hc ho ih => intro av1 hk; cases hk; exact .osl S t sz rows b cap arr G u hb hh hsz hl hm hr hG hd hc ho
  | optr S t cs b arr G u hb hh hsz hG hd hc ho ih =>
    intro av1 hk
    cases hk with
    | refl => exact .optr S t cs b arr G u hb hh hsz hG hd hc ho
    | optr hl =>
      obtain ⟨h1, h2⟩ := hl.get
      refine .optr S t _ b arr G u hb hh (by rw [h1]; exact hsz) hG hd (fun j a ha => ?_) (fun j a ha => ?_)
      · obtain ⟨x, h3, h4⟩ := h2 j a ha; exact hc j x h3
      · obtain ⟨x, h3, h4⟩ := h2 j a ha; exact ih j x h3 h4
  | omp S t ks b es clock hb hh hsz hv hk => intro av1 h; cases h; exact .omp S t ks b es clock hb hh hsz hv hk

/-- The general way to say less: slots forgotten, names changed, what is owned given away to be read. -/
theorem le_of (ys : List Nat) (Z : List (Value × AV)) (ms : List (Option Nat)) {σ : St} {nt : Nat} {s : List (Nat × AV)} {h : HP} (hnt : σ.nt = nt) (hz : wfrz σ.heap ys Z) (hs : wslots Z σ.slots s) (hh : wheap Z σ.heap ms h)
    (hn : (ms.filterMap id).Nodup) (hy : ∀ y ∈ ys, y ∉ ms.filterMap id) : Le σ ⟨nt, s, h⟩ := by
  intro c F N a w hr
  let N' : Nat → Prop := fun k => N k ∧ ¬ ∃ y, y ∈ ys ∧ y ∈ keys σ.heap ∧ F y k
  let F' : Nat → Nat → Prop := fun x => match srcs ms h x with | some y => F y | none => fun _ => False
  have hZ : ∀ v av, (v, av) ∈ Z → RelV N' w av v := by
    intro v av hm
    obtain ⟨y, o, h1, h2, h3⟩ := wfrz_mem hz v av hm
    exact (hr.heap.own y v o h2).freeze h3 (fun k hk => ⟨hk.1, fun hF => hk.2 ⟨y, h1, get_mem_keys h2, hF⟩⟩)
  have hNN : ∀ i, i < w.heap.size → N' i → N i := fun _ _ h => h.1
  have hFk : ∀ x, x ∈ keys h → ∀ b, F' x b → ∃ y, srcs ms h x = some y ∧ y ∈ ms.filterMap id ∧ y ∈ keys σ.heap ∧ F y b := by
    intro x hx b hb
    obtain ⟨⟨v, o1⟩, ho⟩ := mem_keys_get hx
    rcases wheap_get hh x v o1 ho with ⟨h1, _⟩ | ⟨y, o, h1, h2, h3, _⟩
    · simp only [F', h1] at hb
    · simp only [F', h1] at hb
      exact ⟨y, h1, h2, get_mem_keys h3, hb⟩
  refine ⟨F', N', hr.defers, hr.size.trans hnt, fun k av1 hk => ?_, ⟨fun x v o1 hx => ?_, fun x hx b hb => ?_, fun x x' hx hx' hne b hb hb' => ?_, fun x v o1 hx => ?_⟩, fun x hx b hb => ?_, fun k hk h0 => ?_, hr.unch⟩
  · obtain ⟨av, h1, h2⟩ := wslots_get hs k av1 hk
    obtain ⟨v, h3, h4⟩ := hr.slots k av h1
    exact ⟨v, h3, h2.rel hZ (h4.mono (.refl N w) hNN)⟩
  · rcases wheap_get hh x v o1 hx with ⟨h1, rfl, t, sz, rfl⟩ | ⟨y, o, h1, h2, h3, h4⟩
    · exact .osl0 _ t sz
    · have := ((hr.heap.own y v o h3).mono (.refl N w) hNN (fun _ _ _ => rfl))
      have e : F' x = F y := by simp only [F', h1]
      rw [e]
      exact h4.own hZ this
  · obtain ⟨y, h1, h2, h3, h4⟩ := hFk x hx b hb
    obtain ⟨h5, h6⟩ := hr.heap.foot y h3 b h4
    refine ⟨⟨h5, ?_⟩, h6⟩
    rintro ⟨y', h7, h8, h9⟩
    have hne : y ≠ y' := by rintro rfl; exact hy y h7 h2
    exact hr.heap.disj y y' h3 h8 hne b h4 h9
  · obtain ⟨y, h1, h2, h3, h4⟩ := hFk x hx b hb
    obtain ⟨y', h5, h6, h7, h8⟩ := hFk x' hx' b hb'
    have hyy : y ≠ y' := by rintro rfl; exact hne (srcs_inj hh hn x x' y h1 h5)
    exact hr.heap.disj y y' h3 h7 hyy b h4 h8
  · rcases wheap_get hh x v o1 hx with ⟨h1, rfl, t, sz, rfl⟩ | ⟨y, o, h1, h2, h3, h4⟩
    · rfl
    · exact hr.heap.one y v o h3
  · obtain ⟨y, h1, h2, h3, h4⟩ := hFk x hx b hb
    exact hr.may y h3 b h4
  · rcases hr.n0 k hk h0 with h1 | h1
    · by_cases h2 : ∃ y, y ∈ ys ∧ y ∈ keys σ.heap ∧ F y k
      · obtain ⟨y, _, h3, h4⟩ := h2
        rcases hr.may y h3 k h4 with h5 | h5
        · exact .inr h5
        · omega
      · exact .inl ⟨h1, h2⟩
    · exact .inr h1

/-- Nothing frozen. -/
theorem le_w (ms : List (Option Nat)) {σ : St} {nt : Nat} {s : List (Nat × AV)} {h : HP} (hnt : σ.nt = nt) (hs : wslots [] σ.slots s) (hh : wheap [] σ.heap ms h) (hn : (ms.filterMap id).Nodup) : Le σ ⟨nt, s, h⟩ :=
  le_of [] [] ms hnt trivial hs hh hn (fun y hy => by cases hy)

/-! ### Code over abstract states -/

variable (P : Program) (c : Cx)

def Good (x : Code) (σ : St) (Q : Exit → St → Prop) : Prop :=
  ∀ F N a w, Rel c F N σ a w → x.wp P (fun e a' w' => ∃ σ' F' N', Q e σ' ∧ Rel c F' N' σ' a' w') a w

def thenQ (K : St → Prop) (Q : Exit → St → Prop) : Exit → St → Prop
  | .normal, σ => K σ
  | e, σ => Q e σ

def blockQ (id : Nat) (Q : Exit → St → Prop) : Exit → St → Prop
  | .exit i, σ => if i = id then Q .normal σ else Q (.exit i) σ
  | e, σ => Q e σ

variable {P c}

theorem Good.mono {x : Code} {σ : St} {Q Q' : Exit → St → Prop} (h : Good P c x σ Q) (hq : ∀ e σ', Q e σ' → Q' e σ') : Good P c x σ Q' :=
  fun F N a w hr => wp_mono (h F N a w hr) fun _ _ _ ⟨σ', F', N', h1, h2⟩ => ⟨σ', F', N', hq _ _ h1, h2⟩

theorem Good.le {x : Code} {σ σ' : St} {Q : Exit → St → Prop} (hw : Le σ σ') (h : Good P c x σ' Q) : Good P c x σ Q :=
  fun F N a w hr => let ⟨F', N', hr'⟩ := hw c F N a w hr; h F' N' a w hr'

theorem good_skip {σ : St} {Q : Exit → St → Prop} (h : Q .normal σ) : Good P c .skip σ Q := fun F N _ _ hr => wp_skip ⟨σ, F, N, h, hr⟩
theorem good_exit {id : Nat} {σ : St} {Q : Exit → St → Prop} (h : Q (.exit id) σ) : Good P c (.exit id) σ Q := fun F N _ _ hr => wp_exit ⟨σ, F, N, h, hr⟩
theorem good_ret {σ : St} {Q : Exit → St → Prop} (h : Q .ret σ) : Good P c .ret σ Q := fun F N _ _ hr => wp_ret ⟨σ, F, N, h, hr⟩

theorem good_seq' {x y : Code} {σ : St} {Q : Exit → St → Prop} (h : Good P c x σ (thenQ (fun σ' => Good P c y σ' Q) Q)) : Good P c (.seq x y) σ Q := by
  intro F N a w hr
  refine wp_seq (wp_mono (h F N a w hr) ?_)
  rintro e a' w' ⟨σ', F', N', hq, hr'⟩
  cases e <;> first | exact ⟨σ', F', N', hq, hr'⟩ | exact hq F' N' a' w' hr'

/-- What follows stands behind a name. -/
theorem good_seq {x y : Code} {σ : St} {Q : Exit → St → Prop} (h : ∀ K : St → Prop, (∀ σ', Good P c y σ' Q → K σ') → Good P c x σ (thenQ K Q)) : Good P c (.seq x y) σ Q :=
  good_seq' (h _ fun _ h => h)

theorem good_block {id : Nat} {x : Code} {σ : St} {Q : Exit → St → Prop} (h : Good P c x σ (blockQ id Q)) : Good P c (.block id x) σ Q := by
  intro F N a w hr
  refine wp_block (wp_mono (h F N a w hr) ?_)
  rintro e a' w' ⟨σ', F', N', hq, hr'⟩
  cases e <;> try exact ⟨σ', F', N', hq, hr'⟩
  rename_i i
  simp only [blockQ] at hq
  simp only [Exit.inBlock]
  split at hq <;> rename_i hi <;> simp only [hi, if_true, if_false] <;> exact ⟨σ', F', N', hq, hr'⟩

theorem blockQ_here {id : Nat} {Q : Exit → St → Prop} {σ : St} (h : Q .normal σ) : blockQ id Q (.exit id) σ := by simp only [blockQ, if_true]; exact h
theorem blockQ_else {id i : Nat} {Q : Exit → St → Prop} {σ : St} (hi : (i == id) = false) (h : Q (.exit i) σ) : blockQ id Q (.exit i) σ := by
  simp only [blockQ]; rw [if_neg (by simpa using hi)]; exact h

/-! Operands -/

def constA : Value → Option AV
  | .int k n => some (.int k n)
  | .bool b => some (.bool b)
  | .string s => if s.data.toList.length ≤ 1000000 then some (.str s.data.toList) else none
  | .slice none 0 0 => some .nil
  | .pointer none => some (.raw (.pointer none))
  | .nilIface => some (.raw .nilIface)
  | .nilFunc => some (.raw .nilFunc)
  | .map none => some (.raw (.map none))
  | _ => none

theorem constA_rel (N : Nat → Prop) (w : World) (v : Value) (av : AV) (h : constA v = some av) : RelV N w av v := by
  unfold constA at h
  split at h <;> try (cases h; done)
  · cases h; exact .int _ _
  · cases h; exact .bool _
  · rename_i s
    split at h
    · cases h
      have := RelV.str (N := N) (w := w) s.data.toList (by unfold maxLen; omega)
      simpa using this
    · cases h
  · cases h; exact .nil
  all_goals (cases h; exact .raw _ rfl)

def evA (σ : St) : Operand → Option AV
  | .tmp t => getk t σ.slots
  | .const v => constA v
  | .func f => some (.clo (.func f) [])
  | .global g => some (.raw (.pointer (some ⟨g, 0, none⟩)))

theorem evA_rel {F : Nat → Nat → Prop} {N : Nat → Prop} {σ : St} {a : Act} {w : World} (hr : Rel c F N σ a w) {x : Operand} {av : AV} (h : evA σ x = some av) : RelV N w av (a.eval x) := by
  cases x with
  | tmp t =>
    obtain ⟨v, h1, h2⟩ := hr.slots t av h
    simp only [Act.eval, Array.getD_eq_getD_getElem?, h1, Option.getD_some]; exact h2
  | const v => exact constA_rel N w v av h
  | func f => cases h; exact .clo _ _ #[] rfl (fun i av v h _ => by simp at h)
  | global g => cases h; exact .raw _ rfl

theorem good_cond {x : Operand} {p q : Code} {σ : St} {Q : Exit → St → Prop} {b : Bool} (hx : evA σ x = some (.bool b)) (ht : b = true → Good P c p σ Q) (hf : b = false → Good P c q σ Q) : Good P c (.cond x p q) σ Q := by
  intro F N a w hr
  have := evA_rel hr hx
  generalize hv : a.eval x = v at this
  cases this
  exact wp_cond_split hv (fun h => ht h F N a w hr) (fun h => hf h F N a w hr)

/-- A loop: what holds at each round's head (with a number that each round lowers). -/
theorem good_loop {body : Code} {σ : St} {Q : Exit → St → Prop} (I : Nat → St → Prop) (m : Nat) (h0 : ∃ σ1, Le σ σ1 ∧ I m σ1)
    (hb : ∀ m σ, I m σ → Good P c body σ (thenQ (fun σ' => ∃ σ1 m', Le σ' σ1 ∧ m' < m ∧ I m' σ1) Q)) : Good P c (.loop body) σ Q := by
  have key : ∀ n m σ F N a w, m < n → I m σ → Rel c F N σ a w → Code.rounds P body (fun e a' w' => ∃ σ' F' N', Q e σ' ∧ Rel c F' N' σ' a' w') n a w := by
    intro n
    induction n with
    | zero => intro m σ F N a w h; omega
    | succ n ih =>
      intro m σ F N a w h hI hr
      rw [rounds_succ]
      refine wp_mono (hb m σ hI F N a w hr) ?_
      rintro e a' w' ⟨σ', F', N', hq, hr'⟩
      cases e <;> try exact ⟨σ', F', N', hq, hr'⟩
      obtain ⟨σ1, m', hw, hm, hI'⟩ := hq
      obtain ⟨F1, N1, hr1⟩ := hw c F' N' a' w' hr'
      exact ih m' σ1 F1 N1 a' w' (by omega) hI' hr1
  intro F N a w hr
  obtain ⟨σ1, hw, hI⟩ := h0
  obtain ⟨F1, N1, hr1⟩ := hw c F N a w hr
  exact wp_loop_rounds (m + 1) (key (m + 1) m σ1 F1 N1 a w (by omega) hI hr1)

/-- What a round must end in. -/
def RoundQ {α : Type} (F : α → St) (J : Nat → α → Prop) (m : Nat) (σ' : St) : Prop := ∃ m' x', m' < m ∧ J m' x' ∧ Le σ' (F x')
theorem round_mk {α : Type} {F : α → St} {J : Nat → α → Prop} {m : Nat} {σ' : St} (m' : Nat) (x' : α) (h1 : m' < m) (h2 : J m' x') (h3 : Le σ' (F x')) : RoundQ F J m σ' := ⟨m', x', h1, h2, h3⟩

/-- The same, the states at a round's head given by a function. -/
theorem good_loopf {α : Type} {body : Code} {σ : St} {Q : Exit → St → Prop} (F : α → St) (J : Nat → α → Prop) (m : Nat) (x0 : α) (h0 : Le σ (F x0)) (hJ : J m x0)
    (hb : ∀ m x, J m x → Good P c body (F x) (thenQ (RoundQ F J m) Q)) : Good P c (.loop body) σ Q :=
  good_loop (fun m σ => ∃ x, J m x ∧ σ = F x) m ⟨F x0, h0, x0, hJ, rfl⟩ (by
    rintro m _ ⟨x, hx, rfl⟩
    refine (hb m x hx).mono fun e σ' h => ?_
    cases e <;> try exact h
    obtain ⟨m', x', h1, h2, h3⟩ := h
    exact ⟨F x', m', h3, h1, x', h2, rfl⟩)

/-- What follows is shown once, from a state that says less. -/
theorem good_via {K : St → Prop} {y : Code} {Q : Exit → St → Prop} (σ1 : St) (hK : ∀ σ', Good P c y σ' Q → K σ') (h : Good P c y σ1 Q) : ∀ σ', Le σ' σ1 → K σ' :=
  fun σ' hw => hK σ' (h.le hw)

/-- How long a slice, a text may be. -/
theorem RelV.len {N : Nat → Prop} {w : World} {z : Bool} {rows : List (List AV)} {v : Value} (h : RelV N w (.sl z rows) v) : rows.length ≤ maxLen := by
  cases h with
  | slNil => simp
  | sl z rows a cap sz u hs hc hm h1 h2 h3 h4 => omega
theorem RelV.lenS {N : Nat → Prop} {w : World} {l : List UInt8} {v : Value} (h : RelV N w (.str l) v) : l.length ≤ maxLen := by
  cases h with
  | str l h => exact h
theorem good_len {x : Code} {σ : St} {Q : Exit → St → Prop} (k : Nat) {z : Bool} {rows : List (List AV)} (h : getk k σ.slots = some (.sl z rows)) (hg : rows.length ≤ maxLen → Good P c x σ Q) : Good P c x σ Q :=
  fun F N a w hr => let ⟨v, h1, h2⟩ := hr.slots k _ h; hg h2.len F N a w hr
theorem good_lenS {x : Code} {σ : St} {Q : Exit → St → Prop} (k : Nat) {l : List UInt8} (h : getk k σ.slots = some (.str l)) (hg : l.length ≤ maxLen → Good P c x σ Q) : Good P c x σ Q :=
  fun F N a w hr => let ⟨v, h1, h2⟩ := hr.slots k _ h; hg h2.lenS F N a w hr
end Go.Bb
end
section
/-! The operations, on abstract states. -/
set_option linter.unusedVariables false
set_option linter.unusedSimpArgs false
namespace Go.Bb

/-- What a type is, as far as it is needed. -/
inductive Sh where
  | bool | int (k : IntKind) | string | slice (e : TypeId) | struct (fs : List (Nat × TypeId)) | ptr (e : TypeId) | map (k e : TypeId) | iface | func | tuple | other
  deriving DecidableEq

def shOf : TypeDesc → Sh
  | .bool => .bool | .int k => .int k | .string => .string | .slice e => .slice e | .struct fs => .struct (fs.toList.map fun f => (f.offset, f.type)) | .pointer e => .ptr e
  | .map k e => .map k e | .interface _ => .iface | .func .. => .func | .tuple _ => .tuple | _ => .other

structure TI where
  size : Nat
  bytes : Nat
  sh : Sh
  zero : List AV
  meths : List (String × FuncId) := []

/-- A table of types. -/
structure Tab where
  row : TypeId → Option TI

def Tab.size (T : Tab) (t : TypeId) : Option Nat := (T.row t).map (·.size)
def Tab.bytes (T : Tab) (t : TypeId) : Option Nat := (T.row t).map (·.bytes)
def Tab.kind (T : Tab) (t : TypeId) : Option Sh := (T.row t).map (·.sh)
def Tab.zero (T : Tab) (t : TypeId) : Option (List AV) := (T.row t).map (·.zero)
def Tab.agg (T : Tab) (t : TypeId) : Option Bool := match T.kind t with | some .other => none | some (.struct _) => some true | some _ => some false | none => none
def Tab.meth (T : Tab) (t : TypeId) (name : String) : Option FuncId := (T.row t).bind fun i => (i.meths.find? (·.1 == name)).map (·.2)
def Tab.elem (T : Tab) (t : TypeId) : Option TypeId := match T.kind t with | some (.slice e) => some e | _ => none
def Tab.foff (T : Tab) (t : TypeId) (f : Nat) : Option (Nat × Nat) := match T.kind t with
  | some (.struct fs) => match fs[f]? with
    | some (o, u) => match T.size u with | some n => if n = 0 then none else some (o, n) | none => none
    | none => none
  | _ => none

def zeq : Value → AV → Bool
  | .int k n, .int k' m => k == k' && n == m
  | .bool b, .bool b' => b == b'
  | .string s, .str l => s.data.toList == l && l.length ≤ 1000
  | .slice none 0 0, .nil => true
  | .pointer none, .raw (.pointer none) => true
  | .nilIface, .raw .nilIface => true
  | .nilFunc, .raw .nilFunc => true
  | .map none, .raw (.map none) => true
  | _, _ => false

def zeqs : List Value → List AV → Bool
  | [], [] => true
  | v :: vs, a :: as => zeq v a && zeqs vs as
  | _, _ => false

def wholeOk : Sh → Value → Bool
  | .struct _, .agg _ => true
  | .struct _, _ => false
  | _, .agg _ => false
  | _, _ => true

def methsOk (n : TypeInfo) (ms : List (String × FuncId)) : Bool := ms.all fun p => match n.methods.find? (·.name == p.1) with
  | some m => m.path.isEmpty && decide (m.func = some (p.2, false))
  | none => false

def rowOk (P : Program) (t : TypeId) (i : TI) : Bool :=
  match P.info? t, P.underlying t with
  | some n, some d => n.size == i.size && n.bytes == i.bytes && shOf d == i.sh && (match n.zero with | some z => zeqs z.cells.toList i.zero && wholeOk i.sh z | none => false) && methsOk n i.meths
  | _, _ => false

def TabOk (P : Program) (T : Tab) : Prop := ∀ t i, T.row t = some i → rowOk P t i = true

theorem zeq_rel {v : Value} {av : AV} (h : zeq v av = true) (N : Nat → Prop) (w : World) : RelV N w av v := by
  unfold zeq at h
  split at h <;> try (cases h; done)
  · simp at h; obtain ⟨rfl, rfl⟩ := h; exact .int _ _
  · simp at h; subst h; exact .bool _
  · rename_i s l
    simp at h; obtain ⟨h1, h2⟩ := h
    have := RelV.str (N := N) (w := w) l (by unfold maxLen; omega)
    rw [← h1] at this ⊢
    simpa using this
  · exact .nil
  all_goals exact .raw _ rfl

theorem zeqs_rel : ∀ {vs : List Value} {as : List AV}, zeqs vs as = true → vs.length = as.length ∧ ∀ (N : Nat → Prop) (w : World) (j : Nat) (av : AV), as[j]? = some av → ∃ v, vs[j]? = some v ∧ RelV N w av v
  | [], [], _ => ⟨rfl, fun N w j av h => by simp at h⟩
  | v :: vs, a :: as, h => by
    simp only [zeqs, Bool.and_eq_true] at h
    obtain ⟨hl, hr⟩ := zeqs_rel h.2
    refine ⟨by simp [hl], fun N w j av hj => ?_⟩
    cases j with
    | zero => cases hj; exact ⟨v, rfl, zeq_rel h.1 N w⟩
    | succ j => exact hr N w j av hj
  | [], _ :: _, h => by cases h
  | _ :: _, [], h => by cases h

section
variable {P : Program} {T : Tab} (hT : TabOk P T)
include hT

theorem TabOk.getk {t : TypeId} {i : TI} (h : T.row t = some i) : ∃ n d z, P.info? t = some n ∧ P.underlying t = some d ∧ n.size = i.size ∧ n.bytes = i.bytes ∧ shOf d = i.sh ∧ n.zero = some z ∧ zeqs z.cells.toList i.zero = true ∧ wholeOk i.sh z = true ∧ methsOk n i.meths = true := by
  have := hT t i h
  unfold rowOk at this
  split at this
  · rename_i n d h1 h2
    simp only [Bool.and_eq_true, beq_iff_eq, decide_eq_true_eq] at this
    obtain ⟨⟨⟨⟨h3, h4⟩, h5⟩, h6⟩, h7⟩ := this
    split at h6
    · rename_i z hz
      simp only [Bool.and_eq_true] at h6
      exact ⟨n, d, z, h1, h2, h3, h4, h5, hz, h6.1, h6.2, h7⟩
    · cases h6
  · cases this

theorem TabOk.size {t n : Nat} (h : T.size t = some n) : ∃ i, P.info? t = some i ∧ i.size = n := by
  unfold Tab.size at h
  obtain ⟨i, h1, rfl⟩ := Option.map_eq_some_iff.1 h
  obtain ⟨m, d, z, h2, _, h3, _⟩ := hT.getk h1
  exact ⟨m, h2, h3⟩
theorem TabOk.bytes {t n : Nat} (h : T.bytes t = some n) : ∃ i, P.info? t = some i ∧ i.bytes = n := by
  unfold Tab.bytes at h
  obtain ⟨i, h1, rfl⟩ := Option.map_eq_some_iff.1 h
  obtain ⟨m, d, z, h2, _, _, h3, _⟩ := hT.getk h1
  exact ⟨m, h2, h3⟩
theorem TabOk.kind {t : Nat} {s : Sh} (h : T.kind t = some s) : ∃ d, P.underlying t = some d ∧ shOf d = s := by
  unfold Tab.kind at h
  obtain ⟨i, h1, rfl⟩ := Option.map_eq_some_iff.1 h
  obtain ⟨m, d, z, _, h2, _, _, h3, _⟩ := hT.getk h1
  exact ⟨d, h2, h3⟩
theorem TabOk.zero {t : Nat} {l : List AV} (h : T.zero t = some l) : ∃ i z, P.info? t = some i ∧ i.zero = some z ∧ z.cells.size = l.length ∧ ∀ (N : Nat → Prop) (w : World) (j : Nat) av, l[j]? = some av → ∃ v, z.cells[j]? = some v ∧ RelV N w av v := by
  unfold Tab.zero at h
  obtain ⟨i, h1, rfl⟩ := Option.map_eq_some_iff.1 h
  obtain ⟨m, d, z, h2, _, _, _, _, h3, h4, _⟩ := hT.getk h1
  obtain ⟨h5, h6⟩ := zeqs_rel h4
  exact ⟨m, z, h2, h3, by simpa using h5, fun N w j av hj => by simpa using h6 N w j av hj⟩
theorem TabOk.elem {t e : Nat} (h : T.elem t = some e) : P.underlying t = some (.slice e) := by
  unfold Tab.elem at h
  split at h
  · rename_i e' hk
    cases h
    obtain ⟨d, h1, h2⟩ := hT.kind hk
    cases d <;> simp [shOf] at h2
    subst h2; exact h1
  · cases h
theorem TabOk.foff {t f o n : Nat} (h : T.foff t f = some (o, n)) : ∃ fs fd i, P.underlying t = some (.struct fs) ∧ fs[f]? = some fd ∧ fd.offset = o ∧ P.info? fd.type = some i ∧ i.size = n ∧ n ≠ 0 := by
  unfold Tab.foff at h
  split at h
  · rename_i l hk
    split at h
    · rename_i o' u hf
      split at h
      · rename_i m hm
        split at h
        · cases h
        · rename_i h0
          cases h
          obtain ⟨d, h1, h2⟩ := hT.kind hk
          cases d <;> simp [shOf] at h2
          rename_i fs
          subst h2
          simp only [List.getElem?_map, Option.map_eq_some_iff] at hf
          obtain ⟨fd, h3, h4⟩ := hf
          cases h4
          obtain ⟨i, h5, h6⟩ := hT.size hm
          exact ⟨fs, fd, i, h1, by simpa using h3, rfl, h5, h6, h0⟩
      · cases h
    · cases h
  · cases h
theorem TabOk.agg {t : Nat} {b : Bool} (h : T.agg t = some b) : ∃ d, P.underlying t = some d ∧ (match d with | .struct _ | .array _ _ => true | _ => false) = b := by
  unfold Tab.agg at h
  split at h <;> try (cases h; done)
  · rename_i fs hk
    cases h
    obtain ⟨d, h1, h2⟩ := hT.kind hk
    refine ⟨d, h1, ?_⟩
    cases d <;> simp [shOf] at h2 <;> rfl
  · rename_i s h0 h3 hk
    cases h
    obtain ⟨d, h1, h2⟩ := hT.kind hk
    refine ⟨d, h1, ?_⟩
    cases d <;> simp [shOf] at h2 <;> first | rfl | (subst h2; simp at h0 h3)
end

/-! Lists -/
def win {α : Type} (l : List α) (o n : Nat) : Option (List α) := if o + n ≤ l.length then some ((l.drop o).take n) else none
@[simp] theorem win_succ {α : Type} (a : α) (l : List α) (o n : Nat) : win (a :: l) (o + 1) n = win l o n := by
  unfold win
  simp only [List.length_cons, List.drop_succ_cons]
  by_cases h : o + n ≤ l.length
  · rw [if_pos h, if_pos (by omega)]
  · rw [if_neg h, if_neg (by omega)]
@[simp] theorem win_zero {α : Type} (a : α) (l : List α) (n : Nat) : win (a :: l) 0 (n + 1) = (win l 0 n).map (a :: ·) := by
  unfold win
  simp only [List.length_cons, List.drop_zero, List.take_succ_cons]
  by_cases h : 0 + n ≤ l.length
  · rw [if_pos h, if_pos (by omega)]; rfl
  · rw [if_neg h, if_neg (by omega)]; rfl
@[simp] theorem win_nil {α : Type} (l : List α) : win l 0 0 = some [] := by unfold win; simp
def splice {α : Type} (l : List α) (o : Nat) (m : List α) : List α := l.take o ++ m ++ l.drop (o + m.length)

def mkA (g : Bool) (cs : List AV) : Option AV := if g then some (.agg cs) else match cs with | [v] => some v | _ => none
theorem TabOk.meth {P : Program} {T : Tab} (hT : TabOk P T) {t : TypeId} {name : String} {f : FuncId} (h : T.meth t name = some f) : ∃ n m, P.info? t = some n ∧ n.methods.find? (·.name == name) = some m ∧ m.path = #[] ∧ m.func = some (f, false) := by
  unfold Tab.meth at h
  obtain ⟨i, h1, h2⟩ := Option.bind_eq_some_iff.1 h
  obtain ⟨p, h3, rfl⟩ := Option.map_eq_some_iff.1 h2
  obtain ⟨n, d, z, h4, _, _, _, _, _, _, _, h5⟩ := hT.getk h1
  have hm := List.all_eq_true.1 h5 p (List.mem_of_find?_eq_some h3)
  have hn := List.find?_some h3
  have hn : p.1 = name := by simpa using hn
  rw [hn] at hm
  split at hm
  · rename_i m hm1
    simp only [Bool.and_eq_true, decide_eq_true_eq, Array.isEmpty_iff] at hm
    exact ⟨n, m, h4, hm1, hm.1, hm.2⟩
  · cases hm
theorem TabOk.whole {P : Program} {T : Tab} (hT : TabOk P T) {t : TypeId} {l : List AV} {g : Bool} {av : AV} (hz : T.zero t = some l) (hg : T.agg t = some g) (hm : mkA g l = some av) : ∃ i z, P.info? t = some i ∧ i.zero = some z ∧ ∀ (N : Nat → Prop) (w : World), RelV N w av z := by
  unfold Tab.zero at hz
  obtain ⟨i, h1, rfl⟩ := Option.map_eq_some_iff.1 hz
  obtain ⟨n, d, z, h2, _, _, _, _, h3, h4, h5, _⟩ := hT.getk h1
  obtain ⟨h6, h7⟩ := zeqs_rel h4
  refine ⟨n, z, h2, h3, fun N w => ?_⟩
  unfold Tab.agg Tab.kind at hg
  rw [h1] at hg
  simp only [Option.map_some] at hg
  cases hs : i.sh with
  | struct fs =>
    rw [hs] at h5 hg
    cases hg
    simp only [mkA, if_true] at hm
    cases hm
    cases z <;> try (cases h5; done)
    rename_i cs
    refine .agg _ _ (by simpa [Value.cells] using h6) (fun j av v hj hv => ?_)
    obtain ⟨v', h8, h9⟩ := h7 N w j av hj
    simp only [Value.cells, Array.getElem?_toList] at h8
    rw [hv] at h8; cases h8; exact h9
  | other => rw [hs] at hg; cases hg
  | _ =>
    rw [hs] at h5 hg
    cases hg
    simp only [mkA, Bool.false_eq_true, if_false] at hm
    split at hm <;> try (cases hm; done)
    rename_i v hl
    cases hm
    obtain ⟨v', h8, h9⟩ := h7 N w 0 av (by rw [hl]; rfl)
    cases z <;> simp only [wholeOk, Bool.false_eq_true] at h5 <;> simp only [Value.cells, List.getElem?_cons_zero, Option.some.injEq] at h8 <;> (subst h8; exact h9)
def cellsA : AV → List AV | .agg cs => cs | v => [v]
def AV.cell : AV → Bool | .agg _ | .tup _ | .und => false | .raw v => v.oneCell' | _ => true

theorem add_none (a : Addr) (n : Nat) (h : a.spot = none) : a.add n = ⟨a.block, a.off + n, none⟩ := by
  obtain ⟨b, o, s⟩ := a
  simp only at h; subst h
  unfold Addr.add; split <;> simp_all

section
variable {P : Program} {T : Tab} {c : Cx}

theorem run_size (hT : TabOk P T) {t n : Nat} (h : T.size t = some n) (w : World) : (sizeOf t).run P w = .ok n w := by
  obtain ⟨i, h1, h2⟩ := hT.size h
  simp [sizeOf, typeInfo, h1, h2]
theorem run_agg (hT : TabOk P T) {t : Nat} {b : Bool} (h : T.agg t = some b) (w : World) : (isAgg t).run P w = .ok b w := by
  obtain ⟨d, h1, h2⟩ := hT.agg h
  unfold isAgg
  rw [Sem.run_bind, run_underlying h1 w]
  cases d <;> simp at h2 <;> simp [h2]

/-- The cells that lie at an address. -/
def AtCells (N : Nat → Prop) (w : World) (a : Addr) (cs : List AV) : Prop := a.spot = none ∧ ∃ us : List Value, us.length = cs.length ∧ (∀ j v, us[j]? = some v → w.cell? (a.add j) = some v) ∧ ∀ (j : Nat) av v, cs[j]? = some av → us[j]? = some v → RelV N w av v

theorem win_get {α : Type} {l m : List α} {o n : Nat} (h : win l o n = some m) : m.length = n ∧ ∀ j, j < n → m[j]? = l[o + j]? := by
  unfold win at h
  split at h
  · cases h
    refine ⟨by simp; omega, fun j hj => ?_⟩
    rw [List.getElem?_take, if_pos hj, List.getElem?_drop]
  · cases h

/-- w' has all that w had. -/
def Same (w w' : World) : Prop := w.heap.size ≤ w'.heap.size ∧ ∀ k, k < w.heap.size → w'.heap[k]? = w.heap[k]?
theorem Same.refl (w : World) : Same w w := ⟨Nat.le_refl _, fun _ _ => rfl⟩
theorem Same.cell {w w' : World} (h : Same w w') {a : Addr} {v : Value} (hc : w.cell? a = some v) : w'.cell? a = some v :=
  Later.cell (N := fun _ => False) ⟨h.1, fun k hk _ => h.2 k hk⟩ (fun h => h) hc

theorem run_loadVar_at (hT : TabOk P T) {N : Nat → Prop} {w : World} {t n : Nat} {g : Bool} {ad : Addr} {cs : List AV} {av : AV} (hs : T.size t = some n) (hg : T.agg t = some g) (hn : cs.length = n) (h : AtCells N w ad cs) (hm : mkA g cs = some av) :
    ∃ v, RelV N w av v ∧ ∀ w', Same w w' → (loadVar t ad).run P w' = .ok v w' := by
  obtain ⟨hsp, us, hl, hc, hr⟩ := h
  unfold mkA at hm
  cases g with
  | true =>
    cases hm
    refine ⟨.agg us.toArray, ?_, fun w' hw => ?_⟩
    · exact .agg _ _ (by simp [hl]) (fun i av v h1 h2 => hr i av v h1 (by simpa using h2))
    · have := run_loadCells_list (P := P) w' ad us (fun j v hj => hw.cell (hc j v hj))
      rw [hl, hn] at this
      simp [loadVar, Sem.run_bind, run_agg hT hg, run_size hT hs, this]
  | false =>
    match cs, hm with
    | [x], hm =>
      cases hm
      match us, hl with
      | [v], _ =>
        refine ⟨v, hr 0 _ v rfl rfl, fun w' hw => ?_⟩
        have := hw.cell (hc 0 v rfl)
        rw [add_none _ _ hsp] at this
        have e : (⟨ad.block, ad.off + 0, none⟩ : Addr) = ad := by cases ad; simp_all
        rw [e] at this
        simp [loadVar, Sem.run_bind, run_agg hT hg, this]

theorem RelV.one {N : Nat → Prop} {w : World} {x : AV} {u : Value} (hx : RelV N w x u) (hc : x.cell = true) : u.oneCell' = true := by
  cases hx <;> first | rfl | assumption | (simp [AV.cell] at hc; done) | (simpa [AV.cell] using hc)

theorem cells_of_one {u : Value} (h : u.oneCell' = true) : u.cells = #[u] := by
  cases u <;> first | rfl | (simp [Value.oneCell'] at h; done)

theorem RelV.cells {N : Nat → Prop} {w : World} {av : AV} {v : Value} (h : RelV N w av v) (hc : (cellsA av).all AV.cell = true) :
    v.cells.size = (cellsA av).length ∧ (∀ (j : Nat) x, (cellsA av)[j]? = some x → ∃ u, v.cells[j]? = some u ∧ RelV N w x u) ∧ ∀ u ∈ v.cells.toList, u.oneCell' = true := by
  have single : cellsA av = [av] → v.cells.size = (cellsA av).length ∧ (∀ (j : Nat) x, (cellsA av)[j]? = some x → ∃ u, v.cells[j]? = some u ∧ RelV N w x u) ∧ ∀ u ∈ v.cells.toList, u.oneCell' = true := by
    intro e
    rw [e] at hc ⊢
    have h1 := h.one (by simpa using hc)
    rw [cells_of_one h1]
    refine ⟨rfl, fun j x hj => ?_, fun u hu => by simp at hu; rw [hu]; exact h1⟩
    match j, hj with
    | 0, hj => cases hj; exact ⟨v, rfl, h⟩
  cases av with
  | agg cs =>
    cases h with
    | agg cs vs hl h =>
      refine ⟨hl, fun j x hj => ?_, fun u hu => ?_⟩
      · simp only [cellsA] at hj
        have hj' : j < vs.size := by
          rw [hl]
          rcases Nat.lt_or_ge j cs.length with h' | h'
          · exact h'
          · rw [List.getElem?_eq_none h'] at hj; cases hj
        exact ⟨vs[j], by simp [Value.cells, hj'], h j x _ hj (by simp [hj'])⟩
      · simp only [Value.cells, Array.mem_toList_iff] at hu
        obtain ⟨j, hj, rfl⟩ := Array.mem_iff_getElem.1 hu
        have hj' : j < cs.length := by omega
        have h1 : cs[j].cell = true := List.all_eq_true.1 hc _ (by simp [cellsA])
        exact (h j _ _ (List.getElem?_eq_getElem hj') (by simp [hj])).one h1
  | _ => exact single rfl

end
end Go.Bb
end
section
/-! Operations that only yield a value. -/
set_option linter.unusedVariables false
set_option linter.unusedSimpArgs false
namespace Go.Bb

def cellsOk (cs : List AV) : Bool := cs.all AV.cell
def dok (d : Option Tmp) (nt : Nat) : Bool := match d with | some d => d < nt | none => true
theorem dok_ok {d : Option Tmp} {nt : Nat} (h : dok d nt = true) : ∀ k, d = some k → k < nt := by rintro k rfl; simpa [dok] using h

/-- Bits of whole numbers. -/
def bitsI (op : BinOp) (k : IntKind) (x y : Int) : Int :=
  k.wrap (match op with
    | .and => (BitVec.ofInt k.bits x &&& BitVec.ofInt k.bits y).toNat
    | .or => (BitVec.ofInt k.bits x ||| BitVec.ofInt k.bits y).toNat
    | .xor => (BitVec.ofInt k.bits x ^^^ BitVec.ofInt k.bits y).toNat
    | _ => (BitVec.ofInt k.bits x &&& ~~~ BitVec.ofInt k.bits y).toNat)

def binA (op : BinOp) : AV → AV → Option AV
  | .int k a, .int k' b =>
    if k = k' then
      match op with
      | .add => some (.int k (k.wrap (a + b)))
      | .sub => some (.int k (k.wrap (a - b)))
      | .mul => some (.int k (k.wrap (a * b)))
      | .eql => some (.bool (decide (a = b)))
      | .neq => some (.bool (!decide (a = b)))
      | .lss => some (.bool (decide (a < b)))
      | .leq => some (.bool (decide (a ≤ b)))
      | .gtr => some (.bool (decide (b < a)))
      | .geq => some (.bool (decide (b ≤ a)))
      | .and => some (.int k (bitsI .and k a b))
      | .or => some (.int k (bitsI .or k a b))
      | .xor => some (.int k (bitsI .xor k a b))
      | _ => none
    else none
  | .str a, .str b =>
    match op with
    | .eql => some (.bool (decide (a = b)))
    | .neq => some (.bool (!decide (a = b)))
    | .lss => some (.bool (Op.bytesLess a b))
    | .leq => some (.bool (Op.bytesLess a b || decide (a = b)))
    | .gtr => some (.bool (!(Op.bytesLess a b || decide (a = b))))
    | .geq => some (.bool (!Op.bytesLess a b))
    | _ => none
  | _, _ => none

def eqr (op : BinOp) (b : Bool) : Option AV := match op with | .eql => some (.bool b) | .neq => some (.bool !b) | _ => none

/-- Comparisons that ask for the type. -/
def binT (T : Tab) (t : TypeId) (op : BinOp) (cst : Bool) : AV → AV → Option AV
  | .bool a, .bool b => if T.kind t = some .bool then eqr op (decide (a = b)) else none
  | .ifc _ _, .raw .nilIface => if T.kind t = some .iface then eqr op false else none
  | .raw .nilIface, .raw .nilIface => if T.kind t = some .iface ∧ cst = true then eqr op true else none
  | .eptr _, .raw (.pointer none) => match T.kind t with | some (.ptr _) => eqr op false | _ => none
  | .ptr _ _ _, .raw (.pointer none) => match T.kind t with | some (.ptr _) => eqr op false | _ => none
  | .rptr _ _ _ _ _, .raw (.pointer none) => match T.kind t with | some (.ptr _) => eqr op false | _ => none
  | .raw (.pointer none), .raw (.pointer none) => match T.kind t with | some (.ptr _) => eqr op true | _ => none
  | _, _ => none

def isConstO : Operand → Bool | .const _ => true | _ => false

def evAs (σ : St) : List Operand → Option (List AV)
  | [] => some []
  | x :: xs => match evA σ x, evAs σ xs with | some v, some vs => some (v :: vs) | _, _ => none

/-- Cells with parts laid in. -/
def fillA (pl : Nat → Option (Nat × Nat)) : List AV → List (Nat × AV) → Option (List AV)
  | cs, [] => some cs
  | cs, (f, v) :: r =>
    match pl f with
    | some (o, n) => if (cellsA v).length = n ∧ o + n ≤ cs.length ∧ cellsOk (cellsA v) = true then fillA pl (splice cs o (cellsA v)) r else none
    | none => none

def structOk (T : Tab) (t : TypeId) : Bool := match T.kind t with | some (.struct fs) => fs.all fun f => (T.size f.2).isSome | _ => false

def evParts (σ : St) : List (Nat × Operand) → Option (List (Nat × AV))
  | [] => some []
  | (i, x) :: r => match evA σ x, evParts σ r with | some v, some l => some ((i, v) :: l) | _, _ => none

/-- Rows of one slice literal: each element given, in order. -/
def rowsLit (n : Nat) : Nat → List (Nat × AV) → Option (List AV)
  | _, [] => some []
  | k, (i, v) :: r => if i = k ∧ (cellsA v).length = n then (rowsLit n (k + 1) r).map (cellsA v ++ ·) else none

/-- The cells of rows, one behind the other. -/
def rowsC {α : Type} (rows : List (List α)) : List α := rows.flatten

def loA (σ : St) : Option Operand → Option Int
  | none => some 0
  | some x => match evA σ x with | some (.int _ n) => some n | _ => none
def hiA (σ : St) : Option Operand → Option (Option Int)
  | none => some none
  | some x => match evA σ x with | some (.int _ n) => some (some n) | _ => none

section
variable {P : Program} {T : Tab} {c : Cx} {F : Nat → Nat → Prop} {o : Oper} {σ : St} {K : St → Prop} {N : Nat → Prop} {a : Act} {w : World}

theorem evAs_rel (hr : Rel c F N σ a w) : ∀ (xs : List Operand) {avs : List AV}, evAs σ xs = some avs → avs.length = xs.length ∧ ∀ (i : Nat) av x, avs[i]? = some av → xs[i]? = some x → RelV N w av (a.eval x)
  | [], _, h => by cases h; exact ⟨rfl, fun i av x h => by simp at h⟩
  | x :: xs, avs, h => by
    simp only [evAs] at h
    split at h
    · rename_i v vs h1 h2
      cases h
      obtain ⟨hl, hx⟩ := evAs_rel hr xs h2
      refine ⟨by simp [hl], fun i av y h3 h4 => ?_⟩
      cases i with
      | zero => cases h3; cases h4; exact evA_rel hr h1
      | succ i => exact hx i av y h3 h4
    · cases h

theorem evParts_rel (hr : Rel c F N σ a w) : ∀ (xs : List (Nat × Operand)) {ps : List (Nat × AV)}, evParts σ xs = some ps → ps.length = xs.length ∧ ∀ (i : Nat) p x, ps[i]? = some p → xs[i]? = some x → p.1 = x.1 ∧ RelV N w p.2 (a.eval x.2)
  | [], _, h => by cases h; exact ⟨rfl, fun i av x h => by simp at h⟩
  | (k, x) :: xs, ps, h => by
    simp only [evParts] at h
    split at h
    · rename_i v vs h1 h2
      cases h
      obtain ⟨hl, hx⟩ := evParts_rel hr xs h2
      refine ⟨by simp [hl], fun i av y h3 h4 => ?_⟩
      cases i with
      | zero => cases h3; cases h4; exact ⟨rfl, evA_rel hr h1⟩
      | succ i => exact hx i av y h3 h4
    · cases h

theorem binA_run {op : BinOp} {u v av : AV} {x y : Value} (hu : RelV N w u x) (hv : RelV N w v y) (h : binA op u v = some av) (t : TypeId) (p q : Operand) :
    ∃ z, RelV N w av z ∧ ∀ w', (do eqGuard op t p q x y; binOp op t x y : Sem Value).run P w' = .ok z w' := by
  unfold binA at h
  split at h
  · rename_i k i k' j
    cases hu; cases hv
    split at h
    · rename_i e; subst e
      have hg : ∀ w, (eqGuard op t p q (.int k i) (.int k j)).run P w = .ok () w := by
        intro w; unfold eqGuard; split <;> rfl
      cases op <;> simp only [] at h <;> try (cases h; done)
      all_goals
        cases h
        first
        | (refine ⟨.int k _, .int _ _, fun w' => ?_⟩; simp [Sem.run_bind, hg, binOp, Op.intBits, bitsI]; done)
        | (refine ⟨.int k _, .int _ _, fun w' => ?_⟩; simp [Sem.run_bind, hg, binOp, Op.intArith]; done)
        | (refine ⟨.bool _, .bool _, fun w' => ?_⟩; simp [Sem.run_bind, hg, binOp, Op.intCmp]; done)
        | (refine ⟨.bool _, .bool _, fun w' => ?_⟩; simp only [Sem.run_bind, hg, Result.andThen_ok, binOp, Op.intCmp]; by_cases e : i = j <;> simp [e])
    · cases h
  · rename_i i j
    cases hu with | str _ hi =>
    cases hv with | str _ hj =>
    have hg : ∀ w, (eqGuard op t p q (.string ⟨i.toArray⟩) (.string ⟨j.toArray⟩)).run P w = .ok () w := by
      intro w; unfold eqGuard; split <;> rfl
    have e1 : ∀ l : List UInt8, (⟨l.toArray⟩ : ByteArray).toList = l := by
      intro l; simp
    have e2 : (i == j) = decide (i = j) := by
      by_cases e : i = j <;> simp [e]
    cases op <;> simp only [] at h <;> try (cases h; done)
    all_goals
      cases h
      refine ⟨_, .bool _, fun w' => by simp only [Sem.run_bind, hg, Result.andThen_ok, binOp, Op.stringOp, e1, e2]; rfl⟩
  · cases h

theorem binT_run {T : Tab} (hT : TabOk P T) {op : BinOp} {u v av : AV} {x y : Value} {t : TypeId} {p q : Operand} (hu : RelV N w u x) (hv : RelV N w v y) (h : binT T t op (isConstO q) u v = some av) :
    ∃ z, RelV N w av z ∧ ∀ w', (do eqGuard op t p q x y; binOp op t x y : Sem Value).run P w' = .ok z w' := by
  have fin : ∀ (b : Bool), eqr op b = some av → (∀ w', (eqGuard op t p q x y).run P w' = .ok () w') → (∀ w', (Op.equal t x y).run P w' = .ok b w') → (op = .eql → binOp op t x y = (do pure (.bool (← Op.equal t x y)))) → (op = .neq → binOp op t x y = (do pure (.bool (!(← Op.equal t x y))))) →
      ∃ z, RelV N w av z ∧ ∀ w', (do eqGuard op t p q x y; binOp op t x y : Sem Value).run P w' = .ok z w' := by
    intro b hb hg he h1 h2
    cases op <;> simp only [eqr] at hb <;> try (cases hb; done)
    · cases hb
      exact ⟨_, .bool _, fun w' => by rw [h1 rfl]; simp [hg, he]⟩
    · cases hb
      exact ⟨_, .bool _, fun w' => by rw [h2 rfl]; simp [hg, he]⟩
  unfold binT at h
  split at h <;> try (cases h; done)
  · rename_i a b
    split at h
    · rename_i hk
      obtain ⟨d, hd, hd'⟩ := hT.kind hk
      have hd2 : d = .bool := by cases d <;> simp [shOf] at hd' <;> rfl
      subst hd2
      cases hu; cases hv
      refine fin _ h (fun w' => by unfold eqGuard; split <;> rfl) (fun w' => ?_) (fun e => by subst e; rfl) (fun e => by subst e; rfl)
      show (Op.equalIn (9999 + 1) t (.bool a) (.bool b)).run P w' = _
      unfold Op.equalIn
      rw [Sem.run_bind, run_underlying hd]
      cases a <;> cases b <;> rfl
    · cases h
  · rename_i t' v'
    split at h
    · rename_i hk
      obtain ⟨d, hd, hd'⟩ := hT.kind hk
      obtain ⟨ms, rfl⟩ : ∃ ms, d = .interface ms := by cases d <;> simp [shOf] at hd'; exact ⟨_, rfl⟩
      cases hu; cases hv
      refine fin _ h (fun w' => by unfold eqGuard; split <;> rfl) (fun w' => ?_) (fun e => by subst e; rfl) (fun e => by subst e; rfl)
      show (Op.equalIn (9999 + 1) t _ _).run P w' = _
      unfold Op.equalIn
      rw [Sem.run_bind, run_underlying hd]
      rfl
    · cases h
  · split at h
    · rename_i hk
      obtain ⟨hk, hc⟩ := hk
      obtain ⟨d, hd, hd'⟩ := hT.kind hk
      obtain ⟨ms, rfl⟩ : ∃ ms, d = .interface ms := by cases d <;> simp [shOf] at hd'; exact ⟨_, rfl⟩
      cases hu; cases hv
      obtain ⟨v, rfl⟩ : ∃ v, q = .const v := by cases q <;> simp [isConstO] at hc; exact ⟨_, rfl⟩
      refine fin _ h (fun w' => by unfold eqGuard; split <;> first | rfl | simp) (fun w' => ?_) (fun e => by subst e; rfl) (fun e => by subst e; rfl)
      show (Op.equalIn (9999 + 1) t _ _).run P w' = _
      unfold Op.equalIn
      rw [Sem.run_bind, run_underlying hd]
      rfl
    · cases h
  · -- pointer and nil
    split at h
    · rename_i e hk
      obtain ⟨d, hd, hd'⟩ := hT.kind hk
      have hd2 : d = .pointer e := by cases d <;> simp [shOf] at hd' <;> rw [hd']
      subst hd2
      cases hv
      cases hu
      all_goals
        refine fin _ h (fun w' => by unfold eqGuard; split <;> rfl) (fun w' => ?_) (fun e => by subst e; rfl) (fun e => by subst e; rfl)
        show (Op.equalIn (9999 + 1) t _ _).run P w' = _
        unfold Op.equalIn
        rw [Sem.run_bind, run_underlying hd]
        rfl
    · cases h
  · -- pointer and nil
    split at h
    · rename_i e hk
      obtain ⟨d, hd, hd'⟩ := hT.kind hk
      have hd2 : d = .pointer e := by cases d <;> simp [shOf] at hd' <;> rw [hd']
      subst hd2
      cases hv
      cases hu
      all_goals
        refine fin _ h (fun w' => by unfold eqGuard; split <;> rfl) (fun w' => ?_) (fun e => by subst e; rfl) (fun e => by subst e; rfl)
        show (Op.equalIn (9999 + 1) t _ _).run P w' = _
        unfold Op.equalIn
        rw [Sem.run_bind, run_underlying hd]
        rfl
    · cases h
  · -- pointer and nil
    split at h
    · rename_i e hk
      obtain ⟨d, hd, hd'⟩ := hT.kind hk
      have hd2 : d = .pointer e := by cases d <;> simp [shOf] at hd' <;> rw [hd']
      subst hd2
      cases hv
      cases hu
      all_goals
        refine fin _ h (fun w' => by unfold eqGuard; split <;> rfl) (fun w' => ?_) (fun e => by subst e; rfl) (fun e => by subst e; rfl)
        show (Op.equalIn (9999 + 1) t _ _).run P w' = _
        unfold Op.equalIn
        rw [Sem.run_bind, run_underlying hd]
        rfl
    · cases h
  · -- pointer and nil
    split at h
    · rename_i e hk
      obtain ⟨d, hd, hd'⟩ := hT.kind hk
      have hd2 : d = .pointer e := by cases d <;> simp [shOf] at hd' <;> rw [hd']
      subst hd2
      cases hv
      cases hu
      all_goals
        refine fin _ h (fun w' => by unfold eqGuard; split <;> rfl) (fun w' => ?_) (fun e => by subst e; rfl) (fun e => by subst e; rfl)
        show (Op.equalIn (9999 + 1) t _ _).run P w' = _
        unfold Op.equalIn
        rw [Sem.run_bind, run_underlying hd]
        rfl
    · cases h


/-- Texts one behind the other. -/
theorem cat_run {x y : Value} {i j : List UInt8} (hu : RelV N w (.str i) x) (hv : RelV N w (.str j) y) (hl : (i ++ j).length ≤ maxLen) (t : TypeId) (p q : Operand) :
    ∃ z, RelV N w (.str (i ++ j)) z ∧ ∀ w', (do eqGuard .add t p q x y; binOp .add t x y : Sem Value).run P w' = .ok z w' := by
  cases hu with | str _ hi =>
  cases hv with | str _ hj =>
  have hg : ∀ w, (eqGuard .add t p q (.string ⟨i.toArray⟩) (.string ⟨j.toArray⟩)).run P w = .ok () w := by
    intro w; unfold eqGuard; split <;> rfl
  refine ⟨.string ⟨(i ++ j).toArray⟩, .str _ hl, fun w' => ?_⟩
  have h1 : ¬ (((⟨i.toArray⟩ : ByteArray).size + (⟨j.toArray⟩ : ByteArray).size : Nat) : Int) > IntKind.i64.max := by
    simp only [ByteArray.size, List.size_toArray]
    simp only [List.length_append, maxLen] at hl
    simp [IntKind.max, IntKind.signed, IntKind.bits]; omega
  have h2 : (⟨i.toArray⟩ ++ ⟨j.toArray⟩ : ByteArray) = ⟨(i ++ j).toArray⟩ := by
    apply ByteArray.ext
    simp
  simp only [Sem.run_bind, hg, Result.andThen_ok, binOp, Op.stringOp, if_neg h1, h2]; rfl

theorem cl_set_get {l : List Value} {off : Nat} : ∀ (k : Nat) (cells : Array Value), off + k + l.length ≤ cells.size →
    ((l.zipIdx k).foldl (fun cs (c, j) => cs.setIfInBounds (off + j) c) cells).toList = splice cells.toList (off + k) l := by
  induction l with
  | nil => intro k cells h; simp [splice]
  | cons v l ih =>
    intro k cells h
    simp only [List.length_cons] at h
    simp only [List.zipIdx_cons, List.foldl_cons]
    rw [ih (k + 1) _ (by simp; omega)]
    have e := list_seg_step cells.toList (off + k) v l (by simp; omega)
    simpa [splice, Array.toList_setIfInBounds, Nat.add_assoc] using e

theorem cl_fold {l : Array Value} {off : Nat} {cells : Array Value} (h : off + l.size ≤ cells.size) :
    (l.zipIdx.foldl (fun cs (c, j) => cs.setIfInBounds (off + j) c) cells).toList = splice cells.toList off l.toList := by
  have := cl_set_get (l := l.toList) (off := off) 0 cells (by simpa using h)
  rw [← Array.foldl_toList]
  simpa using this

/-- Parts laid into cells. -/
theorem fill_rel {pl : Nat → Option (Nat × Nat)} {places : Nat → Option (Nat × Nat)} (hp : ∀ f o n, pl f = some (o, n) → places f = some (o, n)) :
    ∀ (ps : List (Nat × AV)) (vs : List (Nat × Value)) (cs : List AV) (cells : Array Value) (cs' : List AV), fillA pl cs ps = some cs' → ps.length = vs.length →
      (∀ (i : Nat) p x, ps[i]? = some p → vs[i]? = some x → p.1 = x.1 ∧ RelV N w p.2 x.2) →
      cells.size = cs.length → (∀ (j : Nat) av, cs[j]? = some av → ∃ u, cells[j]? = some u ∧ RelV N w av u) →
      ∃ cells', Instr.fill places cells vs = some cells' ∧ cells'.size = cs'.length ∧ ∀ (j : Nat) av, cs'[j]? = some av → ∃ u, cells'[j]? = some u ∧ RelV N w av u
  | [], [], cs, cells, cs', h, _, _, hs, hc => by
    cases h; exact ⟨cells, rfl, hs, hc⟩
  | (f, v) :: ps, (g, x) :: vs, cs, cells, cs', h, hl, hpv, hs, hc => by
    obtain ⟨e, hv⟩ := hpv 0 _ _ rfl rfl
    simp only at e hv
    subst e
    simp only [fillA] at h
    split at h
    · rename_i o n hf
      split at h
      · rename_i hlen
        obtain ⟨hl1, hl2, hcell⟩ := hlen
        obtain ⟨hz, hr, _⟩ := hv.cells hcell
        have hsz : (x.cells.zipIdx.foldl (fun cs (c, j) => cs.setIfInBounds (o + j) c) cells).toList = splice cells.toList o x.cells.toList := cl_fold (by omega)
        obtain ⟨cells', h1, h2, h3⟩ := fill_rel hp ps vs (splice cs o (cellsA v)) (x.cells.zipIdx.foldl (fun cs (c, j) => cs.setIfInBounds (o + j) c) cells) cs' h (by simpa using hl) (fun i p y h4 h5 => hpv (i + 1) p y h4 h5)
          (by have := congrArg List.length hsz; simp only [Array.length_toList] at this; rw [this]; simp [splice]; omega)
          (by
            intro j av hj
            rw [← Array.getElem?_toList, hsz]
            have hcl : cells.toList.length = cs.length := by simpa using hs
            simp only [splice, List.append_assoc] at hj ⊢
            by_cases h1 : j < o
            · rw [List.getElem?_append_left (by simp; omega), List.getElem?_take, if_pos h1] at hj ⊢
              simpa using hc j av hj
            · rw [List.getElem?_append_right (by simp; omega)] at hj ⊢
              simp only [List.length_take] at hj ⊢
              rw [show min o cs.length = o by omega] at hj
              rw [show min o cells.toList.length = o by omega]
              by_cases h2 : j - o < n
              · rw [List.getElem?_append_left (by omega)] at hj
                rw [List.getElem?_append_left (by simp; omega)]
                simpa using hr _ av hj
              · rw [List.getElem?_append_right (by omega)] at hj
                rw [List.getElem?_append_right (by simp; omega)]
                simp only [List.getElem?_drop, Array.length_toList] at hj ⊢
                rw [hz]
                simpa using hc _ av hj)
        refine ⟨cells', ?_, h2, h3⟩
        have h0 : ¬ ((decide (x.cells.size ≠ n) || decide (o + x.cells.size > cells.size)) = true) := by simp; omega
        simp only [Instr.fill, hp f o n hf]
        rw [if_neg h0]
        exact h1
      · cases h
    · cases h

theorem rowsLit_fill {n : Nat} : ∀ (k : Nat) (ps : List (Nat × AV)) (cs init : List AV), rowsLit n k ps = some cs → (k + ps.length) * n ≤ init.length → cs.all AV.cell = true →
    cs.length = ps.length * n ∧ fillA (fun i => some (i * n, n)) init ps = some (init.take (k * n) ++ cs ++ init.drop (k * n + cs.length))
  | k, [], cs, init, h, _, _ => by
    cases h
    simp [fillA]
  | k, (i, v) :: ps, cs, init, h, hl, hc => by
    simp only [rowsLit] at h
    split at h
    · rename_i hi
      obtain ⟨hi1, hi2⟩ := hi
      subst hi1
      obtain ⟨cs', h1, rfl⟩ := Option.map_eq_some_iff.1 h
      simp only [List.all_append, Bool.and_eq_true] at hc
      have e1 : (i + (ps.length + 1)) * n = i * n + n + ps.length * n := by rw [Nat.add_mul, Nat.add_mul, Nat.one_mul]; omega
      have e2 : (i + 1) * n = i * n + n := by rw [Nat.add_mul, Nat.one_mul]
      have e3 : (ps.length + 1) * n = ps.length * n + n := by rw [Nat.add_mul, Nat.one_mul]
      have e4 : (i + 1 + ps.length) * n = i * n + n + ps.length * n := by rw [← e1]; congr 1; omega
      simp only [List.length_cons] at hl
      rw [e1] at hl
      have hsl : (splice init (i * n) (cellsA v)).length = init.length := by simp [splice]; omega
      obtain ⟨h2, h3⟩ := rowsLit_fill (i + 1) ps cs' (splice init (i * n) (cellsA v)) h1 (by rw [e4, hsl]; omega) hc.2
      refine ⟨by simp [e3]; omega, ?_⟩
      simp only [fillA]
      rw [if_pos ⟨hi2, by omega, hc.1⟩, h3]
      congr 1
      rw [e2]
      have t1 : (splice init (i * n) (cellsA v)).take (i * n + n) = init.take (i * n) ++ cellsA v := by
        unfold splice
        rw [List.take_append_of_le_length (by simp; omega), List.take_of_length_le (by simp; omega)]
      have t2 : (splice init (i * n) (cellsA v)).drop (i * n + n + cs'.length) = init.drop (i * n + (cellsA v ++ cs').length) := by
        unfold splice
        rw [List.drop_append, List.drop_of_length_le (by simp; omega), List.nil_append, List.drop_drop]
        congr 1
        simp; omega
      rw [t1, t2]
      simp
    · cases h

theorem run_fieldAddr (hT : TabOk P T) {t f n m : Nat} (h : T.foff t f = some (n, m)) (ad : Addr) (w : World) : (Instr.fieldAt t (.pointer (some ad)) f).run P w = .ok (.pointer (some (ad.add n))) w := by
  obtain ⟨fs, fd, i, h1, h2, h3, h4, h5, h6⟩ := hT.foff h
  have hs : (sizeOf fd.type).run P w = .ok m w := by simp [sizeOf, typeInfo, h4, h5]
  subst h3
  simp [Instr.fieldAt, Sem.run_bind, run_underlying h1, h2, Instr.sureAddr, fieldPlace, hs, h6]

theorem cur_rel {arr : Array Value} {cs vs : List AV} {us : List Value} {i : Nat} (h1 : cs.length ≤ arr.size) (hi : i + vs.length ≤ cs.length) (hl : us.length = vs.length) (hc : ∀ (j : Nat) av, cs[j]? = some av → ∃ u, arr[j]? = some u ∧ RelV N w av u)
    (hv : ∀ (j : Nat) x, vs[j]? = some x → ∃ u, us[j]? = some u ∧ RelV N w x u) :
    ∀ (j : Nat) av, (splice cs i vs)[j]? = some av → ∃ u, (splice arr.toList i us)[j]? = some u ∧ RelV N w av u := by
  intro j av hj
  simp only [splice, List.append_assoc] at hj ⊢
  by_cases h2 : j < i
  · rw [List.getElem?_append_left (by simp; omega), List.getElem?_take, if_pos h2] at hj ⊢
    simpa using hc j av hj
  · rw [List.getElem?_append_right (by simp; omega)] at hj ⊢
    simp only [List.length_take] at hj ⊢
    rw [show min i cs.length = i by omega] at hj
    rw [show min i arr.toList.length = i by simp; omega]
    by_cases h3 : j - i < vs.length
    · rw [List.getElem?_append_left h3] at hj
      rw [List.getElem?_append_left (by omega)]
      exact hv _ av hj
    · rw [List.getElem?_append_right (by omega)] at hj
      rw [List.getElem?_append_right (by omega)]
      simp only [List.getElem?_drop] at hj ⊢
      rw [hl]
      simpa using hc _ av hj

theorem splice_length {α : Type} {l m : List α} {i : Nat} (h : i + m.length ≤ l.length) : (splice l i m).length = l.length := by
  simp [splice]; omega

theorem run_build (hT : TabOk P T) (hr : Rel c F N σ a w) {t : TypeId} {z cs : List AV} {parts : Array (Nat × Operand)} {ps : List (Nat × AV)} (hz : T.zero t = some z) (hs : structOk T t = true) (hps : evParts σ parts.toList = some ps)
    (hf : fillA (T.foff t) z ps = some cs) : ∃ cells, (∀ w', (Instr.build t (parts.map fun (i, x) => (i, a.eval x))).run P w' = .ok (.agg cells) w') ∧ cells.size = cs.length ∧ ∀ (j : Nat) av, cs[j]? = some av → ∃ u, cells[j]? = some u ∧ RelV N w av u := by
  obtain ⟨i, zv, h5, h6, h7, h8⟩ := hT.zero hz
  unfold structOk at hs
  split at hs
  · rename_i l hk
    obtain ⟨d, hd, hd'⟩ := hT.kind hk
    cases d <;> simp [shOf] at hd'
    rename_i fs
    subst hd'
    have hall : ∀ (l : List Field), (∀ f ∈ l, (T.size f.type).isSome = true) → ∃ places, l.mapM (fun f => (P.info? f.type).map fun i => (f.offset, i.size)) = some places ∧ ∀ (f o n : Nat), (l[f]?).bind (fun fd => (T.size fd.type).map fun n => (fd.offset, n)) = some (o, n) → places[f]? = some (o, n) := by
      intro l
      induction l with
      | nil => intro _; exact ⟨[], rfl, fun f o n h => by simp at h⟩
      | cons f l ih =>
        intro hl
        obtain ⟨places, h1, h2⟩ := ih (fun f hf => hl f (List.mem_cons_of_mem _ hf))
        obtain ⟨m, hm⟩ := Option.isSome_iff_exists.1 (hl f (by simp))
        obtain ⟨i, h3, h4⟩ := hT.size hm
        refine ⟨(f.offset, i.size) :: places, by simp [h3, h1], fun k o n h => ?_⟩
        cases k with
        | zero => simp [hm] at h; simp [h4, h]
        | succ k => exact h2 k o n (by simpa using h)
    obtain ⟨places, h1, h2⟩ := hall fs.toList (fun f hf => by
      have := List.all_eq_true.1 hs (f.offset, f.type) (List.mem_map.2 ⟨f, hf, rfl⟩)
      simpa using this)
    obtain ⟨hl, hpv⟩ := evParts_rel hr _ hps
    have hp : ∀ f o n, T.foff t f = some (o, n) → (places.toArray[·]?) f = some (o, n) := by
      intro f o n hfo
      unfold Tab.foff at hfo
      rw [hk] at hfo
      simp only at hfo
      split at hfo
      · rename_i o' u hfu
        split at hfo
        · rename_i m hm
          split at hfo
          · cases hfo
          · cases hfo
            simp only [List.getElem?_map, Option.map_eq_some_iff] at hfu
            obtain ⟨fd, h9, h10⟩ := hfu
            cases h10
            simpa using h2 f _ _ (by simp [h9, hm])
        · cases hfo
      · cases hfo
    obtain ⟨cells, h9, h10, h11⟩ := fill_rel (N := N) (w := w) hp ps (parts.map fun (i, x) => (i, a.eval x)).toList z zv.cells cs hf (by simpa using hl)
      (by
        intro i p x h3 h4
        simp only [Array.toList_map, List.getElem?_map, Option.map_eq_some_iff] at h4
        obtain ⟨y, h4, rfl⟩ := h4
        exact hpv i p y h3 h4) h7 (fun j av hj => h8 N w j av hj)
    refine ⟨cells, fun w' => ?_, h10, h11⟩
    simp only [Instr.build]
    simp [run_underlying hd, typeInfo, zeroValue, h5, h6, Array.mapM_eq_mapM_toList, run_places w' _ _ h1]
    have h9' : Instr.fill (fun x => places[x]?) zv.cells (parts.toList.map fun x => (x.1, a.eval x.2)) = some cells := by simpa using h9
    simp [h9']
  · cases hs

theorem run_buildSlice (hT : TabOk P T) (hr : Rel c F N σ a w) {t e len n : Nat} {cs : List AV} {parts : Array (Nat × Operand)} {ps : List (Nat × AV)} (he : T.elem t = some e) (hn : T.size e = some n) (hps : evParts σ parts.toList = some ps)
    (hcs : rowsLit n 0 ps = some cs) (h1 : ps.length = len) (h2 : cs.all AV.cell = true) (h3 : 0 < n) (h4 : len * n ≤ 2 ^ 24) (h5 : (T.zero e).map List.length = some n) :
    ∃ cells, (Instr.buildSlice t len (parts.map fun (i, x) => (i, a.eval x))).run P w = .ok (.slice (some ⟨w.heap.size, 0, none⟩) len len) (w.alloc (.cells cells e)) ∧ (cells.size = len * n ∧ cs.length = len * n) ∧ ∀ (j : Nat) av, cs[j]? = some av → ∃ u, cells[j]? = some u ∧ RelV N w av u := by
  obtain ⟨zl, hz, hzl⟩ := Option.map_eq_some_iff.1 h5
  obtain ⟨i, z, h6, h7, h8, h9⟩ := hT.zero hz
  obtain ⟨i', h6', h10⟩ := hT.size hn
  rw [h6] at h6'; cases h6'
  have hzs : z.cells.size = n := by omega
  let init : List AV := (List.range (len * n)).map fun j => zl.getD (j % n) .und
  have hil : init.length = len * n := by simp [init]
  obtain ⟨hcl, hfill⟩ := rowsLit_fill 0 ps cs init hcs (by rw [hil, Nat.zero_add, h1]; exact Nat.le_refl _) h2
  rw [h1] at hcl
  have hfill' : fillA (fun i => some (i * n, n)) init ps = some cs := by
    rw [hfill, hcl]
    simp [List.drop_of_length_le (show init.length ≤ len * n by omega)]
  obtain ⟨hl, hpv⟩ := evParts_rel hr _ hps
  obtain ⟨cells, h11, h12, h13⟩ := fill_rel (N := N) (w := w) (pl := fun i => some (i * n, n)) (places := fun i => some (i * n, n)) (fun _ _ _ h => h) ps (parts.map fun (i, x) => (i, a.eval x)).toList init
    ((Array.range (len * n)).map (z.cells[· % z.cells.size]!)) cs hfill' (by simpa using hl)
    (by
      intro i p x h3 h4
      simp only [Array.toList_map, List.getElem?_map, Option.map_eq_some_iff] at h4
      obtain ⟨y, h4, rfl⟩ := h4
      exact hpv i p y h3 h4) (by simp [hil])
    (by
      intro j av hj
      simp only [init, List.getElem?_map, Option.map_eq_some_iff] at hj
      obtain ⟨k, hk, rfl⟩ := hj
      have hjl : j < len * n ∧ k = j := by
        by_cases hjn : j < len * n
        · simp [hjn] at hk; exact ⟨hjn, hk.symm⟩
        · simp [hjn] at hk
      obtain ⟨hjl, rfl⟩ := hjl
      have hm : k % n < zl.length := by rw [hzl]; exact Nat.mod_lt _ h3
      obtain ⟨v, h14, h15⟩ := h9 N w (k % n) zl[k % n] (by simp [hm])
      refine ⟨v, ?_, by simpa [List.getD, hm] using h15⟩
      simp only [Array.getElem?_map, Array.getElem?_range, hjl, if_true, Option.map_some, hzs]
      simp only [getElem!_def, h14])
  refine ⟨cells, ?_, ⟨by rw [h12, hcl], hcl⟩, h13⟩
  by_cases h0 : len * n = 0
  · have e1 : len * i.size = 0 := by rw [h10]; exact h0
    have h11' : Instr.fill (fun k => some (k * i.size, i.size)) ((Array.range 0).map fun x => (#[] : Array Value)[x % 0]!) (parts.map fun (i, x) => (i, a.eval x)).toList = some cells := by
      rw [h10, show (Array.range 0).map (fun x => (#[] : Array Value)[x % 0]!) = (Array.range (len * n)).map (z.cells[· % z.cells.size]!) by rw [h0, show Array.range 0 = #[] from rfl, Array.map_empty, Array.map_empty]]; exact h11
    have hrun : (Instr.buildSlice t len (parts.map fun (i, x) => (i, a.eval x))).run P w = .ok (.slice (some ⟨w.heap.size, 0, none⟩) len len) (w.alloc (.cells cells e)) := by
      unfold Instr.buildSlice
      simp only [Sem.run_bind, run_underlying (hT.elem he), Result.andThen_ok, sizeOf, typeInfo, run_program, h6, Sem.run_pure, e1]
      simp only [Nat.not_lt_zero, if_false, gt_iff_lt, if_true, Sem.run_pure, Result.andThen_ok, Sem.run_bind]
      have : (#[] : Array Value).size = 0 := rfl
      simp only [this, h11']
      simp [newRow]
    exact hrun
  · exact Go.run_buildSlice w t e len _ cells i z (hT.elem he) h6 h7 (by rw [h10]; omega) (by rw [h10]; omega) (by rw [h10]; exact h11)


def sliceA {α : Type} (l : List α) (i j : Int) : Option (List α) := if 0 ≤ i ∧ i ≤ j ∧ j ≤ l.length then some ((l.take j.toNat).drop i.toNat) else none
theorem sliceA_spec {α : Type} {l m : List α} {i j : Int} (h : sliceA l i j = some m) : 0 ≤ i ∧ i ≤ j ∧ j ≤ l.length ∧ m = (l.take j.toNat).drop i.toNat := by
  unfold sliceA at h
  split at h
  · rename_i hh; cases h; exact ⟨hh.1, hh.2.1, hh.2.2, rfl⟩
  · cases h

theorem run_bound {k : IntKind} {n : Int} {y : Nat} {code : BoundsCode} (h0 : 0 ≤ n) (h1 : n ≤ y) (w : World) : (Instr.sliceBound (.int k n) y code).run P w = .ok n.toNat w := by
  simp [Instr.sliceBound, asIntOf, h0, h1]

theorem run_bounds (hr : Rel c F N σ a w) {lo hi : Option Operand} {i : Int} {j : Option Int} (hlo : loA σ lo = some i) (hhi : hiA σ hi = some j) {len cap : Nat} (hc : len ≤ cap) {b : Bool} (h0 : 0 ≤ i) (h1 : i ≤ j.getD len) (h2 : j.getD len ≤ len) (w' : World) :
    (Instr.sliceBounds b len cap (lo.map a.eval) (hi.map a.eval) none).run P w' = .ok (i.toNat, (j.getD len).toNat, cap) w' := by
  have hL : (lo = none ∧ i = 0) ∨ ∃ x k, lo = some x ∧ a.eval x = .int k i := by
    cases lo with
    | none => cases hlo; exact .inl ⟨rfl, rfl⟩
    | some x =>
      simp only [loA] at hlo
      split at hlo
      · rename_i k n hx
        cases hlo
        have hv := evA_rel hr hx
        generalize hv' : a.eval x = v at hv
        cases hv
        exact .inr ⟨x, k, rfl, hv'⟩
      · cases hlo
  have hH : (hi = none ∧ j = none) ∨ ∃ x k n, hi = some x ∧ a.eval x = .int k n ∧ j = some n := by
    cases hi with
    | none => cases hhi; exact .inl ⟨rfl, rfl⟩
    | some x =>
      simp only [hiA] at hhi
      split at hhi
      · rename_i k n hx
        cases hhi
        have hv := evA_rel hr hx
        generalize hv' : a.eval x = v at hv
        cases hv
        exact .inr ⟨x, k, n, rfl, hv', rfl⟩
      · cases hhi
  rcases hL with ⟨rfl, rfl⟩ | ⟨x, k, rfl, hx⟩ <;> rcases hH with ⟨rfl, rfl⟩ | ⟨y, k2, n, rfl, hy, rfl⟩
  · simp [Instr.sliceBounds]
  · simp only [Option.getD_some] at h1 h2
    have e1 := fun code => run_bound (P := P) (k := k2) (n := n) (y := cap) (code := code) (by omega) (by omega) w'
    simp [Instr.sliceBounds, hy, e1]
  · simp only [Option.getD_none] at h1 h2
    have e1 := fun code => run_bound (P := P) (k := k) (n := i) (y := len) (code := code) h0 h1 w'
    simp [Instr.sliceBounds, hx, e1]
  · simp only [Option.getD_some] at h1 h2
    have e1 := fun code => run_bound (P := P) (k := k2) (n := n) (y := cap) (code := code) (by omega) (by omega) w'
    have e2 := fun code => run_bound (P := P) (k := k) (n := i) (y := n.toNat) (code := code) h0 (by omega) w'
    simp [Instr.sliceBounds, hx, hy, e1, e2]

theorem slice_str {l m : List UInt8} {i j : Int} (h : sliceA l i j = some m) : (⟨l.toArray⟩ : ByteArray).extract i.toNat j.toNat = ⟨m.toArray⟩ := by
  obtain ⟨h1, h2, h3, rfl⟩ := sliceA_spec h
  apply ByteArray.ext
  simp only [ByteArray.data_extract]
  apply Array.ext'
  simp [List.extract_eq_take_drop, List.drop_take]

theorem slice_rows {z : Bool} {rows rows' : List (List AV)} {i j : Int} {ad : Addr} {cap sz : Nat} (h : sliceA rows i j = some rows') (hv : RelV N w (.sl z rows) (.slice (some ad) rows.length cap)) (hsz : rows.all (fun r => decide (r.length = sz)) = true) :
    RelV N w (.sl z rows') (.slice (some (if cap = i.toNat then ad else ad.add (i.toNat * sz))) (j.toNat - i.toNat) (cap - i.toNat)) := by
  obtain ⟨h1, h2, h3, rfl⟩ := sliceA_spec h
  cases hv with
  | sl _ _ _ _ sz' u hs hc hm h4 h5 h6 h7z =>
    have hl : ((rows.take j.toNat).drop i.toNat).length = j.toNat - i.toNat := by simp; omega
    have hget : ∀ (k : Nat) row, ((rows.take j.toNat).drop i.toNat)[k]? = some row → rows[i.toNat + k]? = some row ∧ i.toNat + k < j.toNat := by
      intro k row hk
      rw [List.getElem?_drop, List.getElem?_take] at hk
      split at hk
      · exact ⟨hk, by omega⟩
      · cases hk
    have hsz' : ∀ (k : Nat) row, rows[k]? = some row → row.length = sz := fun k row hk => by simpa using List.all_eq_true.1 hsz row (List.mem_of_getElem? hk)
    rw [← hl]
    by_cases hcap : cap = i.toNat
    · have he : (rows.take j.toNat).drop i.toNat = [] := List.eq_nil_of_length_eq_zero (by rw [hl]; omega)
      rw [he, if_pos hcap]
      exact .sl z [] ad (cap - i.toNat) sz u (fun h => by simp at h) (by simp) (by omega) (fun i row h => by simp at h) (fun i row j av h => by simp at h) (fun i row j av h => by simp at h) (fun _ i row j av h => by simp at h)
    · by_cases hempty : (rows.take j.toNat).drop i.toNat = []
      · rw [hempty]
        exact .sl z [] _ (cap - i.toNat) sz u (fun h => by simp at h) (by simp) (by omega) (fun i row h => by simp at h) (fun i row j av h => by simp at h) (fun i row j av h => by simp at h) (fun _ i row j av h => by simp at h)
      have hpos : 0 < rows.length := by cases rows with | nil => simp at hempty | cons x r => simp
      rw [if_neg hcap, add_none _ _ (hs hpos)]
      refine .sl z _ _ _ sz (fun k => u (i.toNat + k)) (fun _ => rfl) (by omega) (by omega) (fun k row hk => hsz' _ row (hget k row hk).1) (fun k row q av hk hq => ?_) (fun k row q av hk hq => h6 _ row q av (hget k row hk).1 hq) (fun hz k row q av hk hq => h7z hz _ row q av (hget k row hk).1 hq)
      obtain ⟨h7, h8⟩ := h5 _ row q av (hget k row hk).1 hq
      have e : sz' = sz := by rw [← h4 _ row (hget k row hk).1, hsz' _ row (hget k row hk).1]
      subst e
      refine ⟨h7, ?_⟩
      rw [← h8]
      congr 2
      show ad.off + i.toNat * sz' + (k * sz' + q) = ad.off + ((i.toNat + k) * sz' + q)
      rw [Nat.add_mul]; omega


end
end Go.Bb
end
section
/-! Regions, op by op. -/
set_option linter.unusedVariables false
set_option linter.unusedSimpArgs false
namespace Go.Bb

def ValOk (P : Program) (c : Cx) (o : Oper) (σ : St) (K : St → Prop) : Prop :=
  ∀ F N a w, Rel c F N σ a w → ∃ av v, dok o.dst σ.nt = true ∧ K (σ.put o.dst av) ∧ RelV N w av v ∧ ∀ w', Same w w' → (execOp a.eval o).run P w' = .ok (.value v) w'
def OpOk (P : Program) (c : Cx) (o : Oper) (σ : St) (K : St → Prop) : Prop :=
  ∀ F N a w, Rel c F N σ a w → ∀ (next : Act → World → Prop) (Q : Exit → Act → World → Prop), (∀ σ' F' N' a' w', K σ' → Rel c F' N' σ' a' w' → next a' w') → o.wp P a w next Q

/-- Operations in the order of the text. -/
def GOps (P : Program) (c : Cx) (all r : List Oper) (σ : St) (K : St → Prop) : Prop :=
  ∀ k, (∀ j, r[j]? = all[k + j]?) → ∀ F N a w, Rel c F N σ a w → ∀ Q : Exit → Act → World → Prop, (∀ σ' F' N' a' w', K σ' → Rel c F' N' σ' a' w' → Q .normal a' w') → wpOps P all.toArray Q (List.range' k r.length) a w

/-- The worlds in which the operations of a region that only reads may find themselves. -/
def CW (N : Nat → Prop) (w w' : World) : Prop := ∃ N' : Nat → Prop, (∀ k, N k → N' k) ∧ (∀ k, k < w.heap.size → N' k → N k) ∧ Unch (fun _ => False) w w'

/-- Operations of a region that draws its order and only reads. -/
def GQ (P : Program) (c : Cx) (all r : List Oper) (σ : St) (K : St → Prop) : Prop :=
  ∀ F N a w, Rel c F N σ a w → ∀ Q' : Act → Prop, (∀ σ' a', K σ' → Rel c F N σ' a' w → Q' a') → wpQuiet P all.toArray (CW N w) Q' r a

def guardA (all : List Oper) (σ : St) (j : Nat) : Option AV := ((all[j]?).bind (·.dst)).bind fun d => getk d σ.slots

section
variable {P : Program} {T : Tab} {c : Cx} {F : Nat → Nat → Prop} {o : Oper} {σ : St} {K : St → Prop} {N : Nat → Prop} {a : Act} {w : World} {all r : List Oper}

theorem CW.rel (hr : Rel c F N σ a w) {w' : World} (h : CW N w w') : ∃ N', Rel c F N' σ a w' := by
  obtain ⟨N', h1, h2, h3⟩ := h
  exact ⟨N', hr.step h3 h2 h1⟩
theorem CW.same {w' : World} (h : CW N w w') : Same w w' := by
  obtain ⟨N', h1, h2, h3⟩ := h
  exact ⟨h3.size, fun k hk => h3.block k hk (fun h => h)⟩

theorem ValOk.op (h : ValOk P c o σ K) : OpOk P c o σ K := by
  intro F N a w hr next Q hn
  obtain ⟨av, v, h1, h2, h3, h4⟩ := h F N a w hr
  unfold Oper.wp; rw [h4 w (.refl w)]
  exact hn _ F N _ _ h2 (hr.put (dok_ok h1) h3)

theorem guard_rel (hr : Rel c F N σ a w) {j : Nat} {t : Bool} (h : guardA all σ j = some (.bool t)) : yielded all.toArray a.tmps j = some t := by
  unfold guardA at h
  unfold yielded
  obtain ⟨d, h1, h2⟩ := Option.bind_eq_some_iff.1 h
  obtain ⟨v, h3, h4⟩ := hr.slots d _ h2
  cases h4
  rw [show all.toArray[j]? = all[j]? by simp, h1]
  simp [h3]
theorem guard_und (hr : Rel c F N σ a w) {j : Nat} (h : guardA all σ j = some .und) : yielded all.toArray a.tmps j = none := by
  unfold guardA at h
  unfold yielded
  obtain ⟨d, h1, h2⟩ := Option.bind_eq_some_iff.1 h
  obtain ⟨v, h3, h4⟩ := hr.slots d _ h2
  cases h4
  rw [show all.toArray[j]? = all[j]? by simp, h1]
  simp [h3]
theorem wanted_none {o : Oper} (h : o.guard = none) (y : Nat → Option Bool) : Region.wanted o y = true := by unfold Region.wanted; rw [h]

theorem g_nil (h : K σ) : GOps P c all [] σ K := fun k _ F N a w hr Q hK => hK σ F N a w h hr
theorem q_nil (h : K σ) : GQ P c all [] σ K := fun F N a w hr Q hK => hK σ a h hr

theorem g_at {k : Nat} (hl : ∀ j, (o :: r)[j]? = all[k + j]?) : all.toArray[k]? = some o ∧ ∀ j, r[j]? = all[k + 1 + j]? :=
  ⟨by have := (hl 0).symm; simpa using this, fun j => by have := hl (j + 1); simpa [Nat.add_assoc, Nat.add_comm 1 j] using this⟩

theorem g_do (hw : ∀ F N a w, Rel c F N σ a w → Region.wanted o (yielded all.toArray a.tmps) = true) (h : OpOk P c o σ fun σ' => GOps P c all r σ' K) : GOps P c all (o :: r) σ K := by
  intro k hl F N a w hr Q hK
  obtain ⟨h0, hl'⟩ := g_at hl
  simp only [List.length_cons, List.range'_succ, wpOps, h0]
  rw [if_pos (hw F N a w hr)]
  exact .inl (h F N a w hr _ _ fun σ' F' N' a' w' h1 h2 => h1 (k + 1) hl' F' N' a' w' h2 Q hK)
theorem g_dont (hw : ∀ F N a w, Rel c F N σ a w → Region.wanted o (yielded all.toArray a.tmps) = false) (hd : dok o.dst σ.nt = true) (h : GOps P c all r (σ.put o.dst .und) K) : GOps P c all (o :: r) σ K := by
  intro k hl F N a w hr Q hK
  obtain ⟨h0, hl'⟩ := g_at hl
  simp only [List.length_cons, List.range'_succ, wpOps, h0]
  rw [if_neg (by rw [hw F N a w hr]; simp)]
  exact h (k + 1) hl' F N _ w (hr.put (dok_ok hd) .und) Q hK

theorem g_op (hg : o.guard = none) (h : OpOk P c o σ fun σ' => GOps P c all r σ' K) : GOps P c all (o :: r) σ K := g_do (fun _ _ _ _ _ => wanted_none hg _) h
theorem g_yes {j : Nat} {want t : Bool} (hg : o.guard = some (j, want)) (hs : guardA all σ j = some (.bool t)) (ht : t = want) (h : OpOk P c o σ fun σ' => GOps P c all r σ' K) : GOps P c all (o :: r) σ K :=
  g_do (fun _ _ _ _ hr => by unfold Region.wanted; rw [hg]; simp [guard_rel hr hs, ht]) h
theorem g_no {j : Nat} {want t : Bool} (hg : o.guard = some (j, want)) (hs : guardA all σ j = some (.bool t)) (ht : t = !want) (hd : dok o.dst σ.nt = true) (h : GOps P c all r (σ.put o.dst .und) K) : GOps P c all (o :: r) σ K :=
  g_dont (fun _ _ _ _ hr => by unfold Region.wanted; rw [hg]; simp [guard_rel hr hs, ht]) hd h
theorem g_und {j : Nat} {want : Bool} (hg : o.guard = some (j, want)) (hs : guardA all σ j = some .und) (hd : dok o.dst σ.nt = true) (h : GOps P c all r (σ.put o.dst .und) K) : GOps P c all (o :: r) σ K :=
  g_dont (fun _ _ _ _ hr => by unfold Region.wanted; rw [hg]; simp [guard_und hr hs]) hd h
/-- In the midst of a region a state may be made to say less. -/
theorem g_le {σ1 : St} (hw : Le σ σ1) (h : GOps P c all r σ1 K) : GOps P c all r σ K := fun k hl F N a w hr Q hK => let ⟨F', N', hr'⟩ := hw c F N a w hr; h k hl F' N' a w hr' Q hK

theorem good_region {id : Nat} {l : List Oper} {Q : Exit → St → Prop} (h : GOps P c l l σ (Q .normal)) : Good P c (.region id l.toArray false) σ Q := by
  intro F N a w hr
  refine wp_region ?_
  rw [List.range_eq_range']
  have := h 0 (fun j => by simp) F N a w hr (fun e a' w' => ∃ σ' F' N', Q e σ' ∧ Rel c F' N' σ' a' w') (fun σ' F' N' a' w' h1 h2 => ⟨σ', F', N', h1, h2⟩)
  simpa using this

/-! ### Regions that draw their order, and only read -/

theorem q_do (hw : ∀ F N a w, Rel c F N σ a w → Region.wanted o (yielded all.toArray a.tmps) = true) (h : ValOk P c o σ fun σ' => GQ P c all r σ' K) : GQ P c all (o :: r) σ K := by
  intro F N a w hr Q hK
  unfold wpQuiet
  rw [if_pos (hw F N a w hr)]
  obtain ⟨av, v, h1, h2, h3, h4⟩ := h F N a w hr
  exact ⟨v, fun w' hc => by unfold Oper.quietAt; rw [h4 w' hc.same]; exact ⟨rfl, rfl⟩, h2 F N _ w (hr.put (dok_ok h1) h3) Q hK⟩
theorem q_dont (hw : ∀ F N a w, Rel c F N σ a w → Region.wanted o (yielded all.toArray a.tmps) = false) (hd : dok o.dst σ.nt = true) (h : GQ P c all r (σ.put o.dst .und) K) : GQ P c all (o :: r) σ K := by
  intro F N a w hr Q hK
  unfold wpQuiet
  rw [if_neg (by rw [hw F N a w hr]; simp)]
  exact h F N _ w (hr.put (dok_ok hd) .und) Q hK
theorem q_op (hg : o.guard = none) (h : ValOk P c o σ fun σ' => GQ P c all r σ' K) : GQ P c all (o :: r) σ K := q_do (fun _ _ _ _ _ => wanted_none hg _) h
theorem q_yes {j : Nat} {want t : Bool} (hg : o.guard = some (j, want)) (hs : guardA all σ j = some (.bool t)) (ht : t = want) (h : ValOk P c o σ fun σ' => GQ P c all r σ' K) : GQ P c all (o :: r) σ K :=
  q_do (fun _ _ _ _ hr => by unfold Region.wanted; rw [hg]; simp [guard_rel hr hs, ht]) h
theorem q_no {j : Nat} {want t : Bool} (hg : o.guard = some (j, want)) (hs : guardA all σ j = some (.bool t)) (ht : t = !want) (hd : dok o.dst σ.nt = true) (h : GQ P c all r (σ.put o.dst .und) K) : GQ P c all (o :: r) σ K :=
  q_dont (fun _ _ _ _ hr => by unfold Region.wanted; rw [hg]; simp [guard_rel hr hs, ht]) hd h
theorem q_und {j : Nat} {want : Bool} (hg : o.guard = some (j, want)) (hs : guardA all σ j = some .und) (hd : dok o.dst σ.nt = true) (h : GQ P c all r (σ.put o.dst .und) K) : GQ P c all (o :: r) σ K :=
  q_dont (fun _ _ _ _ hr => by unfold Region.wanted; rw [hg]; simp [guard_und hr hs]) hd h

theorem good_draw (hm : P.follows .mixedOrders = true) {id : Nat} {l : List Oper} {Q : Exit → St → Prop} (hB : Region.lexB .any l.toArray = true) (h : GQ P c l l σ (Q .normal)) : Good P c (.region id l.toArray true) σ Q := by
  intro F N a w hr
  have hU0 : Unch (fun _ => False) w { w with drawn := w.drawn + 1 } := ⟨rfl, rfl, rfl, Nat.le_refl _, fun _ _ _ => rfl⟩
  refine wp_region_quiet (C := CW N w) hm hB ⟨N, fun _ h => h, fun _ _ h => h, hU0⟩ ?_
  exact h F N a w hr _ (fun σ' a' h1 h2 w' hw => let ⟨N', h3⟩ := hw.rel h2; ⟨σ', F, N', h1, h3⟩)

/-! ### Operations that only yield a value -/

variable {d : Option Tmp} {ty : TypeId} {pos : String} {af : Array Edge} {g : Option (Nat × Bool)}

theorem mkV {av : AV} (hd : dok o.dst σ.nt = true) (hK : K (σ.put o.dst av)) (hrun : ∀ F N a w, Rel c F N σ a w → ∃ v, RelV N w av v ∧ ∀ w', Same w w' → (execOp a.eval o).run P w' = .ok (.value v) w') : ValOk P c o σ K :=
  fun F N a w hr => let ⟨v, h1, h2⟩ := hrun F N a w hr; ⟨av, v, hd, hK, h1, h2⟩

theorem v_move {x : Operand} {av : AV} (hx : evA σ x = some av) (hd : dok d σ.nt = true) (hK : K (σ.put d av)) : ValOk P c ⟨d, .move x, ty, pos, af, g⟩ σ K :=
  mkV hd hK fun F N a w hr => ⟨_, evA_rel hr hx, fun w' _ => by simp [execOp]⟩
theorem v_assign {x : Operand} {av : AV} (hx : evA σ x = some av) (hd : dok d σ.nt = true) (hK : K (σ.put d av)) : ValOk P c ⟨d, .assign x, ty, pos, af, g⟩ σ K :=
  mkV hd hK fun F N a w hr => ⟨_, evA_rel hr hx, fun w' _ => by simp [execOp]⟩
theorem v_pickT {x y z : Operand} {t : Bool} {u : AV} (hx : evA σ x = some (.bool t)) (ht : t = true) (hy : evA σ y = some u) (hd : dok d σ.nt = true) (hK : K (σ.put d u)) : ValOk P c ⟨d, .pick x y z, ty, pos, af, g⟩ σ K :=
  mkV hd hK fun F N a w hr => by
    have h1 := evA_rel hr hx
    generalize hv : a.eval x = vx at h1
    cases h1
    exact ⟨_, evA_rel hr hy, fun w' _ => by simp [execOp, hv, asBool, ht]⟩
theorem v_pickF {x y z : Operand} {t : Bool} {u : AV} (hx : evA σ x = some (.bool t)) (ht : t = false) (hy : evA σ z = some u) (hd : dok d σ.nt = true) (hK : K (σ.put d u)) : ValOk P c ⟨d, .pick x y z, ty, pos, af, g⟩ σ K :=
  mkV hd hK fun F N a w hr => by
    have h1 := evA_rel hr hx
    generalize hv : a.eval x = vx at h1
    cases h1
    exact ⟨_, evA_rel hr hy, fun w' _ => by simp [execOp, hv, asBool, ht]⟩

theorem v_bin {op : BinOp} {t ty' : TypeId} {x y : Operand} {u v r : AV} (hx : evA σ x = some u) (hy : evA σ y = some v) (hb : binA op u v = some r) (hd : dok d σ.nt = true) (hK : K (σ.put d r)) : ValOk P c ⟨d, .binOp op t x y ty', ty, pos, af, g⟩ σ K :=
  mkV hd hK fun F N a w hr => by
    obtain ⟨z, h1, h2⟩ := binA_run (P := P) (evA_rel hr hx) (evA_rel hr hy) hb t x y
    exact ⟨z, h1, fun w' _ => by simp only [execOp]; rw [Sem.run_bind, h2]; rfl⟩
theorem v_cat {t ty' : TypeId} {x y : Operand} {i j : List UInt8} (hx : evA σ x = some (.str i)) (hy : evA σ y = some (.str j)) (hl : (i ++ j).length ≤ maxLen) (hd : dok d σ.nt = true) (hK : K (σ.put d (.str (i ++ j)))) : ValOk P c ⟨d, .binOp .add t x y ty', ty, pos, af, g⟩ σ K :=
  mkV hd hK fun F N a w hr => by
    obtain ⟨z, h1, h2⟩ := cat_run (P := P) (evA_rel hr hx) (evA_rel hr hy) hl t x y
    exact ⟨z, h1, fun w' _ => by simp only [execOp]; rw [Sem.run_bind, h2]; rfl⟩
theorem v_binT (hT : TabOk P T) {op : BinOp} {t ty' : TypeId} {x y : Operand} {u v r : AV} (hx : evA σ x = some u) (hy : evA σ y = some v) (hb : binT T t op (isConstO y) u v = some r) (hd : dok d σ.nt = true) (hK : K (σ.put d r)) : ValOk P c ⟨d, .binOp op t x y ty', ty, pos, af, g⟩ σ K :=
  mkV hd hK fun F N a w hr => by
    obtain ⟨z, h1, h2⟩ := binT_run (P := P) hT (p := x) (evA_rel hr hx) (evA_rel hr hy) hb
    exact ⟨z, h1, fun w' _ => by simp only [execOp]; rw [Sem.run_bind, h2]; rfl⟩
theorem v_quo {t ty' : TypeId} {x y : Operand} {k : IntKind} {i j : Int} (hx : evA σ x = some (.int k i)) (hy : evA σ y = some (.int k j)) (hj : j ≠ 0) (hd : dok d σ.nt = true) (hK : K (σ.put d (.int k (k.wrap (i.tdiv j))))) : ValOk P c ⟨d, .binOp .quo t x y ty', ty, pos, af, g⟩ σ K :=
  mkV hd hK fun F N a w hr => by
    have h1 := evA_rel hr hx
    have h2 := evA_rel hr hy
    generalize hv : a.eval x = vx at h1
    generalize hv' : a.eval y = vy at h2
    cases h1; cases h2
    have hg : ∀ w, (eqGuard .quo t x y (.int k i) (.int k j)).run P w = .ok () w := by
      intro w; unfold eqGuard; split <;> rfl
    exact ⟨_, .int _ _, fun w' _ => by simp [execOp, hv, hv', Sem.run_bind, hg, binOp, Op.intDiv, hj]⟩
theorem v_rem {t ty' : TypeId} {x y : Operand} {k : IntKind} {i j : Int} (hx : evA σ x = some (.int k i)) (hy : evA σ y = some (.int k j)) (hj : j ≠ 0) (hd : dok d σ.nt = true) (hK : K (σ.put d (.int k (i.tmod j)))) : ValOk P c ⟨d, .binOp .rem t x y ty', ty, pos, af, g⟩ σ K :=
  mkV hd hK fun F N a w hr => by
    have h1 := evA_rel hr hx
    have h2 := evA_rel hr hy
    generalize hv : a.eval x = vx at h1
    generalize hv' : a.eval y = vy at h2
    cases h1; cases h2
    have hg : ∀ w, (eqGuard .rem t x y (.int k i) (.int k j)).run P w = .ok () w := by
      intro w; unfold eqGuard; split <;> rfl
    exact ⟨_, .int _ _, fun w' _ => by simp [execOp, hv, hv', Sem.run_bind, hg, binOp, Op.intDiv, hj]⟩
theorem v_shl {t ty' : TypeId} {x y : Operand} {k k' : IntKind} {i j : Int} (hx : evA σ x = some (.int k i)) (hy : evA σ y = some (.int k' j)) (hj : 0 ≤ j) (hd : dok d σ.nt = true) (hK : K (σ.put d (.int k (k.wrap (i * 2 ^ (min j.toNat k.bits)))))) : ValOk P c ⟨d, .binOp .shl t x y ty', ty, pos, af, g⟩ σ K :=
  mkV hd hK fun F N a w hr => by
    have h1 := evA_rel hr hx
    have h2 := evA_rel hr hy
    generalize hv : a.eval x = vx at h1
    generalize hv' : a.eval y = vy at h2
    cases h1; cases h2
    have hg : ∀ w, (eqGuard .shl t x y (.int k i) (.int k' j)).run P w = .ok () w := by
      intro w; unfold eqGuard; split <;> rfl
    have hn : ¬ j < 0 := by omega
    exact ⟨_, .int _ _, fun w' _ => by simp [execOp, hv, hv', Sem.run_bind, hg, binOp, Op.shift, hn]⟩
theorem v_shr {t ty' : TypeId} {x y : Operand} {k k' : IntKind} {i j : Int} (hx : evA σ x = some (.int k i)) (hy : evA σ y = some (.int k' j)) (hj : 0 ≤ j) (hd : dok d σ.nt = true) (hK : K (σ.put d (.int k (i.fdiv (2 ^ (min j.toNat k.bits)))))) : ValOk P c ⟨d, .binOp .shr t x y ty', ty, pos, af, g⟩ σ K :=
  mkV hd hK fun F N a w hr => by
    have h1 := evA_rel hr hx
    have h2 := evA_rel hr hy
    generalize hv : a.eval x = vx at h1
    generalize hv' : a.eval y = vy at h2
    cases h1; cases h2
    have hg : ∀ w, (eqGuard .shr t x y (.int k i) (.int k' j)).run P w = .ok () w := by
      intro w; unfold eqGuard; split <;> rfl
    have hn : ¬ j < 0 := by omega
    exact ⟨_, .int _ _, fun w' _ => by simp [execOp, hv, hv', Sem.run_bind, hg, binOp, Op.shift, hn]⟩
theorem v_not {t : TypeId} {x : Operand} {b : Bool} (hx : evA σ x = some (.bool b)) (hd : dok d σ.nt = true) (hK : K (σ.put d (.bool !b))) : ValOk P c ⟨d, .unOp .not t x, ty, pos, af, g⟩ σ K :=
  mkV hd hK fun F N a w hr => by
    have h1 := evA_rel hr hx
    generalize hv : a.eval x = vx at h1
    cases h1
    exact ⟨_, .bool _, fun w' _ => by simp [execOp, hv, Op.unary]⟩
theorem v_neg {t : TypeId} {x : Operand} {k : IntKind} {n : Int} (hx : evA σ x = some (.int k n)) (hd : dok d σ.nt = true) (hK : K (σ.put d (.int k (k.wrap (0 - n))))) : ValOk P c ⟨d, .unOp .neg t x, ty, pos, af, g⟩ σ K :=
  mkV hd hK fun F N a w hr => by
    have h1 := evA_rel hr hx
    generalize hv : a.eval x = vx at h1
    cases h1
    exact ⟨.int k (k.wrap (0 - n)), .int _ _, fun w' _ => by simp [execOp, hv, Op.unary, Op.intArith]⟩
theorem v_extract {x : Operand} {i : Nat} {vs : List AV} {av : AV} (hx : evA σ x = some (.tup vs)) (hi : vs[i]? = some av) (hd : dok d σ.nt = true) (hK : K (σ.put d av)) : ValOk P c ⟨d, .extract x i, ty, pos, af, g⟩ σ K :=
  mkV hd hK fun F N a w hr => by
    have h1 := evA_rel hr hx
    generalize hv : a.eval x = vx at h1
    cases h1 with
    | tup _ us hl hh =>
      have hi' : i < us.size := by
        rw [hl]
        rcases Nat.lt_or_ge i vs.length with h' | h'
        · exact h'
        · rw [List.getElem?_eq_none h'] at hi; cases hi
      have hu : us[i]? = some us[i] := by simp [hi']
      exact ⟨us[i], hh i av _ hi hu, fun w' _ => by simp [execOp, hv, Instr.extract, hu]⟩

/-! Addresses -/
theorem ptr_addr {x b off n : Nat} : RelV N w (.ptr x b (off + n)) (.pointer (some ((⟨b, off, none⟩ : Addr).add n))) := by rw [add_none _ _ rfl]; exact .ptr _ _ _
theorem v_fieldP (hT : TabOk P T) {t f n m k b off : Nat} {x : Operand} (hx : evA σ x = some (.ptr k b off)) (hf : T.foff t f = some (n, m)) (hd : dok d σ.nt = true) (hK : K (σ.put d (.ptr k b (off + n)))) : ValOk P c ⟨d, .fieldAddr t x f, ty, pos, af, g⟩ σ K :=
  mkV hd hK fun F N a w hr => by
    have h1 := evA_rel hr hx
    generalize hv : a.eval x = vx at h1
    cases h1
    exact ⟨_, ptr_addr, fun w' _ => by simp [execOp, hv, run_fieldAddr hT hf]⟩
theorem v_fieldR (hT : TabOk P T) {t f n m k sz i off : Nat} {v : Value} {x : Operand} (hx : evA σ x = some (.rptr k v sz i off)) (hf : T.foff t f = some (n, m)) (hd : dok d σ.nt = true) (hK : K (σ.put d (.rptr k v sz i (off + n)))) : ValOk P c ⟨d, .fieldAddr t x f, ty, pos, af, g⟩ σ K :=
  mkV hd hK fun F N a w hr => by
    have h1 := evA_rel hr hx
    generalize hv : a.eval x = vx at h1
    cases h1 with
    | rptr _ _ _ _ b len cap =>
      refine ⟨.pointer (some ((⟨b, i * sz + off, none⟩ : Addr).add n)), ?_, fun w' _ => by simp [execOp, hv, run_fieldAddr hT hf]⟩
      rw [add_none _ _ rfl]
      show RelV N w _ (.pointer (some ⟨b, i * sz + off + n, none⟩))
      rw [Nat.add_assoc]; exact .rptr _ _ _ _ _ _ _
theorem v_fieldE (hT : TabOk P T) {t f n m : Nat} {x : Operand} {cs cs' : List AV} (hx : evA σ x = some (.eptr cs)) (hf : T.foff t f = some (n, m)) (hc : cs.drop n = cs') (hd : dok d σ.nt = true) (hK : K (σ.put d (.eptr cs'))) : ValOk P c ⟨d, .fieldAddr t x f, ty, pos, af, g⟩ σ K :=
  mkV hd hK fun F N a w hr => by
    have h1 := evA_rel hr hx
    generalize hv : a.eval x = vx at h1
    cases h1 with
    | eptr _ ad u hs h2 h3 =>
      refine ⟨.pointer (some (ad.add n)), ?_, fun w' _ => by simp [execOp, hv, run_fieldAddr hT hf]⟩
      subst hc
      rw [add_none _ _ hs]
      refine .eptr _ _ (fun j => u (n + j)) rfl (fun j av hj => ?_) (fun j av hj => ?_)
      · rw [List.getElem?_drop] at hj
        have := h2 _ av hj
        simpa [Nat.add_assoc] using this
      · rw [List.getElem?_drop] at hj
        exact h3 _ av hj

/-! Loads -/
def plainC (cs : List AV) : Bool := cs.all fun | .osl .. | .optr .. | .omp .. => false | _ => true
theorem own_plain {S : Nat → Prop} {av : AV} {v : Value} (h : OwnV N w S av v) (hp : plainC [av] = true) : RelV N w av v := by
  cases h with
  | frz _ _ _ h => exact h
  | osl0 | osl | optr | omp => simp [plainC] at hp

theorem plain_get {l : List AV} {j : Nat} {av : AV} (h : plainC l = true) (hj : l[j]? = some av) : plainC [av] = true := by
  unfold plainC at *
  simpa using List.all_eq_true.1 h av (List.mem_of_getElem? hj)

/-- The cells at a place of what is owned. -/
theorem at_ptr (hr : Rel c F N σ a w) {k b off n : Nat} {t : TypeId} {cs l : List AV} (hh : getk k σ.heap = some (.pointer (some ⟨b, 0, none⟩), .optr t cs)) (hw : win cs off n = some l) (hp : plainC l = true) : l.length = n ∧ AtCells N w ⟨b, off, none⟩ l := by
  obtain ⟨hl, hj⟩ := win_get hw
  have hin : off + n ≤ cs.length := by unfold win at hw; split at hw <;> simp_all
  have ho := hr.heap.own k _ _ hh
  cases ho with
  | frz _ _ _ h => cases h
  | optr _ _ _ _ arr G u hb hh' hsz hG hd hc ho =>
    refine ⟨hl, rfl, (List.range n).map fun j => u (off + j), by simp [hl], ?_, ?_⟩
    · intro j v hv
      simp only [List.getElem?_map, Option.map_eq_some_iff] at hv
      obtain ⟨i, hi, rfl⟩ := hv
      have hjn : j < n ∧ i = j := by
        by_cases hjn : j < n
        · simp [hjn] at hi; exact ⟨hjn, hi.symm⟩
        · simp [hjn] at hi
      obtain ⟨hjn, rfl⟩ := hjn
      rw [add_none _ _ rfl]
      simp only [World.cell?, hh']
      have := hc (off + i) _ (List.getElem?_eq_getElem (by omega))
      simpa using this
    · intro j av v h5 h6
      simp only [List.getElem?_map, Option.map_eq_some_iff] at h6
      obtain ⟨i, hi, rfl⟩ := h6
      have hjn : j < n ∧ i = j := by
        by_cases hjn : j < n
        · simp [hjn] at hi; exact ⟨hjn, hi.symm⟩
        · simp [hjn] at hi
      obtain ⟨hjn, rfl⟩ := hjn
      have h5' := h5
      rw [hj i hjn] at h5
      exact own_plain (ho _ _ h5) (plain_get hp h5')

theorem v_loadP (hT : TabOk P T) {t t' k b off n : Nat} {g' : Bool} {x : Operand} {cs l : List AV} {av : AV} (hx : evA σ x = some (.ptr k b off)) (hh : getk k σ.heap = some (.pointer (some ⟨b, 0, none⟩), .optr t' cs)) (hs : T.size t = some n) (hg : T.agg t = some g')
    (hw : win cs off n = some l) (hp : plainC l = true) (hm : mkA g' l = some av) (hd : dok d σ.nt = true) (hK : K (σ.put d av)) : ValOk P c ⟨d, .load t x, ty, pos, af, g⟩ σ K :=
  mkV hd hK fun F N a w hr => by
    have h1 := evA_rel hr hx
    generalize hv : a.eval x = vx at h1
    cases h1
    obtain ⟨h2, h3⟩ := at_ptr hr hh hw hp
    obtain ⟨v, h6, h7⟩ := run_loadVar_at hT hs hg h2 h3 hm
    exact ⟨v, h6, fun w' hw => by simp [execOp, hv, Instr.loadAt, Instr.sureAddr, h7 w' hw]⟩

theorem v_loadE (hT : TabOk P T) {t n : Nat} {g' : Bool} {x : Operand} {cs l : List AV} {av : AV} (hx : evA σ x = some (.eptr cs)) (hs : T.size t = some n) (hg : T.agg t = some g')
    (hw : win cs 0 n = some l) (hm : mkA g' l = some av) (hd : dok d σ.nt = true) (hK : K (σ.put d av)) : ValOk P c ⟨d, .load t x, ty, pos, af, g⟩ σ K :=
  mkV hd hK fun F N a w hr => by
    have h1 := evA_rel hr hx
    generalize hv : a.eval x = vx at h1
    cases h1 with
    | eptr _ ad u hsp h2 h3 =>
      obtain ⟨hl, hj⟩ := win_get hw
      have hin : 0 + n ≤ cs.length := by unfold win at hw; split at hw <;> simp_all
      have hat : AtCells N w ad l := by
        refine ⟨hsp, (List.range n).map u, by simp [hl], ?_, ?_⟩
        · intro j v hv
          simp only [List.getElem?_map, Option.map_eq_some_iff] at hv
          obtain ⟨i, hi, rfl⟩ := hv
          have hjn : j < n ∧ i = j := by
            by_cases hjn : j < n
            · simp [hjn] at hi; exact ⟨hjn, hi.symm⟩
            · simp [hjn] at hi
          obtain ⟨hjn, rfl⟩ := hjn
          rw [add_none _ _ hsp]
          exact (h2 i _ (List.getElem?_eq_getElem (by omega))).2
        · intro j av v h5 h6
          simp only [List.getElem?_map, Option.map_eq_some_iff] at h6
          obtain ⟨i, hi, rfl⟩ := h6
          have hjn : j < n ∧ i = j := by
            by_cases hjn : j < n
            · simp [hjn] at hi; exact ⟨hjn, hi.symm⟩
            · simp [hjn] at hi
          obtain ⟨hjn, rfl⟩ := hjn
          rw [hj i hjn] at h5
          simp only [Nat.zero_add] at h5
          exact h3 i _ h5
      obtain ⟨v, h6, h7⟩ := run_loadVar_at hT hs hg hl hat hm
      exact ⟨v, h6, fun w' hw => by simp [execOp, hv, Instr.loadAt, Instr.sureAddr, h7 w' hw]⟩

theorem v_loadR (hT : TabOk P T) {t t' k sz i off n : Nat} {v : Value} {g' : Bool} {x : Operand} {rows : List (List AV)} {row l : List AV} {av : AV} (hx : evA σ x = some (.rptr k v sz i off)) (hh : getk k σ.heap = some (v, .osl t' sz rows)) (hrow : rows[i]? = some row)
    (hs : T.size t = some n) (hg : T.agg t = some g') (hw : win row off n = some l) (hp : plainC l = true) (hm : mkA g' l = some av) (hd : dok d σ.nt = true) (hK : K (σ.put d av)) : ValOk P c ⟨d, .load t x, ty, pos, af, g⟩ σ K :=
  mkV hd hK fun F N a w hr => by
    have h1 := evA_rel hr hx
    generalize hv : a.eval x = vx at h1
    cases h1 with
    | rptr _ _ _ _ b len cap =>
      have ho := hr.heap.own k _ _ hh
      cases ho with
      | frz _ _ _ h => cases h
      | osl _ _ _ _ _ _ arr G u hb hh' hsz hlc hmx hrl hG hdj hc ho =>
        obtain ⟨hl, hj⟩ := win_get hw
        have hin : off + n ≤ row.length := by unfold win at hw; split at hw <;> simp_all
        have hat : AtCells N w ⟨b, i * sz + off, none⟩ l := by
          refine ⟨rfl, (List.range n).map fun j => u i (off + j), by simp [hl], ?_, ?_⟩
          · intro j v hv
            simp only [List.getElem?_map, Option.map_eq_some_iff] at hv
            obtain ⟨q, hq, rfl⟩ := hv
            have hjn : j < n ∧ q = j := by
              by_cases hjn : j < n
              · simp [hjn] at hq; exact ⟨hjn, hq.symm⟩
              · simp [hjn] at hq
            obtain ⟨hjn, rfl⟩ := hjn
            rw [add_none _ _ rfl]
            simp only [World.cell?, hh']
            have := hc i row (off + q) _ hrow (List.getElem?_eq_getElem (by omega))
            rw [← Nat.add_assoc] at this
            simpa using this
          · intro j av v h5 h6
            simp only [List.getElem?_map, Option.map_eq_some_iff] at h6
            obtain ⟨q, hq, rfl⟩ := h6
            have hjn : j < n ∧ q = j := by
              by_cases hjn : j < n
              · simp [hjn] at hq; exact ⟨hjn, hq.symm⟩
              · simp [hjn] at hq
            obtain ⟨hjn, rfl⟩ := hjn
            have h5' := h5
            rw [hj q hjn] at h5
            exact own_plain (ho i row _ _ hrow h5) (plain_get hp h5')
        obtain ⟨v, h6, h7⟩ := run_loadVar_at hT hs hg hl hat hm
        exact ⟨v, h6, fun w' hw => by simp [execOp, hv, Instr.loadAt, Instr.sureAddr, h7 w' hw]⟩

/-- The address of an element. -/
theorem v_idxS {z : Bool} (hT : TabOk P T) {t e sz : Nat} {x i : Operand} {k : IntKind} {n : Int} {rows : List (List AV)} {row : List AV} (hx : evA σ x = some (.sl z rows)) (hi : evA σ i = some (.int k n)) (he : T.elem t = some e) (hs : T.size e = some sz)
    (h0 : 0 ≤ n) (h1 : n < rows.length) (hrow : rows.getD n.toNat [] = row) (hlen : row.length = sz) (hd : dok d σ.nt = true) (hK : K (σ.put d (.eptr row))) : ValOk P c ⟨d, .indexAddr t x i, ty, pos, af, g⟩ σ K :=
  mkV hd hK fun F N a w hr => by
    have hp := evA_rel hr hx
    have hq := evA_rel hr hi
    generalize hv : a.eval x = vx at hp
    generalize hv' : a.eval i = vi at hq
    cases hq
    have hlt : n.toNat < rows.length := by omega
    have hrow' : rows[n.toNat]? = some row := by rw [← hrow]; simp [List.getD, hlt]
    cases hp with
    | slNil => simp at hlt
    | sl _ rows ad cap sz' u hsp hc hm h5 h6 h7 h8z =>
      have h8 := h5 _ _ hrow'
      rw [hlen] at h8
      subst h8
      have hz := fun w => run_size hT hs w
      refine ⟨.pointer (some (ad.add (n.toNat * sz))), ?_, fun w' _ => ?_⟩
      rotate_left
      · simp only [execOp, hv, hv', Instr.indexAt]
        simp [Sem.run_bind, asIntOf, run_underlying (hT.elem he), hz, h0, h1]
      · rw [add_none _ _ (hsp (by omega))]
        refine .eptr _ _ (fun j => u n.toNat j) rfl (fun j av hj => ?_) (fun j av hj => h7 _ _ j av hrow' hj)
        have := h6 _ _ j av hrow' hj
        simpa [Nat.add_assoc] using this
theorem v_idxH (hT : TabOk P T) {t e sz q : Nat} {t' : TypeId} {v : Value} {x i : Operand} {k : IntKind} {n : Int} {rows : List (List AV)} (hx : ∃ y, evA σ x = some (.hd y v)) (hh : getk q σ.heap = some (v, .osl t' sz rows)) (hi : evA σ i = some (.int k n)) (he : T.elem t = some e) (hs : T.size e = some sz)
    (h0 : 0 ≤ n) (h1 : n < rows.length) (hd : dok d σ.nt = true) (hK : K (σ.put d (.rptr q v sz n.toNat 0))) : ValOk P c ⟨d, .indexAddr t x i, ty, pos, af, g⟩ σ K :=
  mkV hd hK fun F N a w hr => by
    obtain ⟨y, hx⟩ := hx
    have hp := evA_rel hr hx
    have hq := evA_rel hr hi
    generalize hv : a.eval x = vx at hp
    generalize hv' : a.eval i = vi at hq
    cases hq
    cases hp
    have hlt : n.toNat < rows.length := by omega
    have ho := hr.heap.own _ _ _ hh
    cases ho with
    | frz _ _ _ h => cases h
    | osl0 => simp at hlt
    | osl _ _ _ _ b cap arr G u hb hh' hsz hlc hmx hrl hG hdj hc ho =>
      have hz := fun w => run_size hT hs w
      refine ⟨.pointer (some ((⟨b, 0, none⟩ : Addr).add (n.toNat * sz))), ?_, fun w' _ => ?_⟩
      rotate_left
      · simp only [execOp, hv, hv', Instr.indexAt]
        simp [Sem.run_bind, asIntOf, run_underlying (hT.elem he), hz, h0, h1]
      · rw [add_none _ _ rfl]
        simp only [Nat.zero_add]
        exact .rptr _ sz n.toNat 0 b _ cap
theorem v_index (hT : TabOk P T) {t : TypeId} {x i : Operand} {k : IntKind} {n : Int} {l : List UInt8} (hx : evA σ x = some (.str l)) (hi : evA σ i = some (.int k n)) (hk : T.kind t = some .string) (h0 : 0 ≤ n) (h1 : n < l.length)
    (hd : dok d σ.nt = true) (hK : K (σ.put d (.int .u8 (l.getD n.toNat 0).toNat))) : ValOk P c ⟨d, .index t x i, ty, pos, af, g⟩ σ K :=
  mkV hd hK fun F N a w hr => by
    obtain ⟨dd, hd', hd''⟩ := hT.kind hk
    have hd2 : dd = .string := by cases dd <;> simp [shOf] at hd'' <;> rfl
    subst hd2
    have hp := evA_rel hr hx
    have hq := evA_rel hr hi
    generalize hv : a.eval x = vx at hp
    generalize hv' : a.eval i = vi at hq
    cases hq
    cases hp
    have hlt : n.toNat < l.length := by omega
    have hb : (⟨l.toArray⟩ : ByteArray)[n.toNat]? = some (l.getD n.toNat 0) := by
      rw [getElem?_pos _ _ (by simpa [ByteArray.size] using hlt)]
      simp [List.getD, hlt]
      rfl
    refine ⟨_, .int _ _, fun w' _ => ?_⟩
    simp only [execOp, hv, hv', Instr.index]
    simp [Sem.run_bind, asIntOf, run_underlying hd', h0, hb]
theorem v_build (hT : TabOk P T) {t : TypeId} {parts : Array (Nat × Operand)} {z cs : List AV} {ps : List (Nat × AV)} (hz : T.zero t = some z) (hs : structOk T t = true) (hps : evParts σ parts.toList = some ps) (hf : fillA (T.foff t) z ps = some cs)
    (hd : dok d σ.nt = true) (hK : K (σ.put d (.agg cs))) : ValOk P c ⟨d, .build t parts, ty, pos, af, g⟩ σ K :=
  mkV hd hK fun F N a w hr => by
    obtain ⟨cells, h4, h5, h6⟩ := run_build hT hr hz hs hps hf
    exact ⟨.agg cells, .agg _ _ h5 (fun i av v h7 h8 => by obtain ⟨u, h9, h10⟩ := h6 i av h7; rw [h8] at h9; cases h9; exact h10), fun w' _ => by simp [execOp, h4 w']⟩
theorem v_sliceS (hT : TabOk P T) {t : TypeId} {x : Operand} {lo hi : Option Operand} {l m : List UInt8} {i : Int} {j : Option Int} (hx : evA σ x = some (.str l)) (hlo : loA σ lo = some i) (hhi : hiA σ hi = some j) (hk : T.kind t = some .string)
    (h2 : 0 ≤ i) (h3 : i ≤ j.getD l.length) (h4 : j.getD l.length ≤ l.length) (hm : m = (l.take (j.getD l.length).toNat).drop i.toNat) (hd : dok d σ.nt = true) (hK : K (σ.put d (.str m))) : ValOk P c ⟨d, .slice t x lo hi none, ty, pos, af, g⟩ σ K :=
  mkV hd hK fun F N a w hr => by
    have hm' : sliceA l i (j.getD l.length) = some m := by unfold sliceA; rw [if_pos ⟨h2, h3, h4⟩, hm]
    obtain ⟨dd, hd', hd''⟩ := hT.kind hk
    have hd2 : dd = .string := by cases dd <;> simp [shOf] at hd'' <;> rfl
    subst hd2
    have hp := evA_rel hr hx
    generalize hv : a.eval x = vx at hp
    cases hp with
    | str _ hl =>
      refine ⟨.string ⟨m.toArray⟩, .str _ (by rw [hm]; simp; omega), fun w' _ => ?_⟩
      have hb := run_bounds (P := P) hr hlo hhi (Nat.le_refl l.length) (b := false) h2 h3 h4 w'
      have hs : (⟨l.toArray⟩ : ByteArray).size = l.length := rfl
      simp only [execOp, hv, Instr.sliceAt]
      simp only [Sem.run_bind, run_underlying hd', Result.andThen_ok, Instr.slice, hs, Option.map_none, Option.isSome_none, Bool.false_eq_true, if_false, hb, Sem.run_pure, slice_str hm']
theorem v_sliceL {z : Bool} (hT : TabOk P T) {t e sz : TypeId} {x : Operand} {lo hi : Option Operand} {rows rows' : List (List AV)} {i : Int} {j : Option Int} (hx : evA σ x = some (.sl z rows)) (hlo : loA σ lo = some i) (hhi : hiA σ hi = some j) (he : T.elem t = some e) (hs : T.size e = some sz)
    (hrl : ∀ r ∈ rows, r.length = sz) (h2 : 0 ≤ i) (h3 : i ≤ j.getD rows.length) (h4 : j.getD rows.length ≤ rows.length) (hm : rows' = (rows.take (j.getD rows.length).toNat).drop i.toNat) (hd : dok d σ.nt = true) (hK : K (σ.put d (.sl z rows'))) : ValOk P c ⟨d, .slice t x lo hi none, ty, pos, af, g⟩ σ K :=
  mkV hd hK fun F N a w hr => by
    have hm' : sliceA rows i (j.getD rows.length) = some rows' := by unfold sliceA; rw [if_pos ⟨h2, h3, h4⟩, hm]
    have hall : rows.all (fun r => decide (r.length = sz)) = true := List.all_eq_true.2 fun r hr => by simpa using hrl r hr
    have hp := evA_rel hr hx
    generalize hv : a.eval x = vx at hp
    cases hp with
    | slNil =>
      have h0 : i = 0 := by simp at h3 h4; omega
      have hj0 : j.getD 0 = 0 := by simp at h3 h4; omega
      have hb := run_bounds (P := P) hr hlo hhi (len := 0) (Nat.le_refl 0) (b := true) h2 h3 h4
      have : rows' = [] := by rw [hm]; simp
      subst this
      refine ⟨_, .slNil _, fun w' _ => ?_⟩
      simp [execOp, hv, Instr.sliceAt, Instr.slice, run_underlying (hT.elem he), hb w', h0, hj0, run_size hT hs]
    | sl _ _ ad cap sz' u hsp hc hmx h5 h6 h7 h8z =>
      refine ⟨_, slice_rows hm' (.sl z rows ad cap sz' u hsp hc hmx h5 h6 h7 h8z) hall, fun w' _ => ?_⟩
      have hb := run_bounds (P := P) hr hlo hhi (len := rows.length) hc (b := true) h2 h3 h4 w'
      simp only [execOp, hv, Instr.sliceAt]
      simp only [Sem.run_bind, run_underlying (hT.elem he), Result.andThen_ok, Instr.slice, Option.map_none, hb, run_size hT hs, Sem.run_pure]
      split <;> rfl
theorem v_lenS (hT : TabOk P T) {x : Operand} {at_ : Array TypeId} {t : TypeId} {l : List UInt8} (hx : evA σ x = some (.str l)) (ht : at_[0]? = some t) (hk : T.kind t = some .string) (hd : dok d σ.nt = true) (hK : K (σ.put d (.int .i64 l.length))) : ValOk P c ⟨d, .call ⟨.builtin .len, #[x], at_⟩, ty, pos, af, g⟩ σ K :=
  mkV hd hK fun F N a w hr => by
    obtain ⟨dd, hd', hd''⟩ := hT.kind hk
    have hd2 : dd = .string := by cases dd <;> simp [shOf] at hd'' <;> rfl
    subst hd2
    have hp := evA_rel hr hx
    generalize hv : a.eval x = vx at hp
    cases hp
    refine ⟨_, .int _ _, fun w' _ => ?_⟩
    simp only [execOp, resolve]
    simp [invoke, builtin, Builtin.len_, ht, run_underlying hd', goInt, hv]
    rfl
theorem v_lenL {z : Bool} (hT : TabOk P T) {x : Operand} {at_ : Array TypeId} {t e : TypeId} {rows : List (List AV)} (hx : evA σ x = some (.sl z rows)) (ht : at_[0]? = some t) (he : T.elem t = some e) (hd : dok d σ.nt = true) (hK : K (σ.put d (.int .i64 rows.length))) : ValOk P c ⟨d, .call ⟨.builtin .len, #[x], at_⟩, ty, pos, af, g⟩ σ K :=
  mkV hd hK fun F N a w hr => by
    have hp := evA_rel hr hx
    generalize hv : a.eval x = vx at hp
    refine ⟨.int .i64 rows.length, .int _ _, fun w' _ => ?_⟩
    simp only [execOp, resolve]
    cases hp <;> simp [invoke, builtin, Builtin.len_, ht, run_underlying (hT.elem he), goInt, hv]
theorem v_lenN (hT : TabOk P T) {x : Operand} {at_ : Array TypeId} {t e : TypeId} (hx : evA σ x = some .nil) (ht : at_[0]? = some t) (he : T.elem t = some e) (hd : dok d σ.nt = true) (hK : K (σ.put d (.int .i64 0))) : ValOk P c ⟨d, .call ⟨.builtin .len, #[x], at_⟩, ty, pos, af, g⟩ σ K :=
  mkV hd hK fun F N a w hr => by
    have hp := evA_rel hr hx
    generalize hv : a.eval x = vx at hp
    refine ⟨.int .i64 0, .int _ _, fun w' _ => ?_⟩
    simp only [execOp, resolve]
    cases hp <;> simp [invoke, builtin, Builtin.len_, ht, run_underlying (hT.elem he), goInt, hv]
theorem v_lenH (hT : TabOk P T) {x : Operand} {at_ : Array TypeId} {t e q t' sz : Nat} {v : Value} {rows : List (List AV)} (hx : ∃ y, evA σ x = some (.hd y v)) (hh : getk q σ.heap = some (v, .osl t' sz rows)) (ht : at_[0]? = some t) (he : T.elem t = some e) (hd : dok d σ.nt = true) (hK : K (σ.put d (.int .i64 rows.length))) : ValOk P c ⟨d, .call ⟨.builtin .len, #[x], at_⟩, ty, pos, af, g⟩ σ K :=
  mkV hd hK fun F N a w hr => by
    obtain ⟨y, hx⟩ := hx
    have hp := evA_rel hr hx
    generalize hv : a.eval x = vx at hp
    refine ⟨.int .i64 rows.length, .int _ _, fun w' _ => ?_⟩
    simp only [execOp, resolve]
    have ho := hr.heap.own _ _ _ hh
    cases hp
    cases ho with
    | frz _ _ _ h => cases h
    | osl0 => simp [invoke, builtin, Builtin.len_, ht, run_underlying (hT.elem he), goInt, hv]
    | osl => simp [invoke, builtin, Builtin.len_, ht, run_underlying (hT.elem he), goInt, hv]
theorem v_nilP {x : Operand} {k b off : Nat} (hx : evA σ x = some (.ptr k b off)) (hd : dok d σ.nt = true) (hK : K (σ.put d (.ptr k b off))) : ValOk P c ⟨d, .nilCheck x, ty, pos, af, g⟩ σ K :=
  mkV hd hK fun F N a w hr => by
    have hp := evA_rel hr hx
    generalize hv : a.eval x = vx at hp
    cases hp
    exact ⟨_, .ptr _ _ _, fun w' _ => by simp [execOp, hv]⟩
theorem v_nilR {x : Operand} {k sz i off : Nat} {v : Value} (hx : evA σ x = some (.rptr k v sz i off)) (hd : dok d σ.nt = true) (hK : K (σ.put d (.rptr k v sz i off))) : ValOk P c ⟨d, .nilCheck x, ty, pos, af, g⟩ σ K :=
  mkV hd hK fun F N a w hr => by
    have hp := evA_rel hr hx
    generalize hv : a.eval x = vx at hp
    cases hp
    exact ⟨_, .rptr _ _ _ _ _ _ _, fun w' _ => by simp [execOp, hv]⟩
theorem v_nilE {x : Operand} {cs : List AV} (hx : evA σ x = some (.eptr cs)) (hd : dok d σ.nt = true) (hK : K (σ.put d (.eptr cs))) : ValOk P c ⟨d, .nilCheck x, ty, pos, af, g⟩ σ K :=
  mkV hd hK fun F N a w hr => by
    have hp := evA_rel hr hx
    generalize hv : a.eval x = vx at hp
    cases hp with
    | eptr _ ad u h1 h2 h3 => exact ⟨_, .eptr _ ad u h1 h2 h3, fun w' _ => by simp [execOp, hv]⟩
theorem v_iface (hT : TabOk P T) {t : TypeId} {x : Operand} {av : AV} {sh : Sh} (hx : evA σ x = some av) (hk : T.kind t = some sh) (hn : (match sh with | .iface | .other => false | _ => true) = true) (hd : dok d σ.nt = true) (hK : K (σ.put d (.ifc t av))) : ValOk P c ⟨d, .makeInterface t x, ty, pos, af, g⟩ σ K :=
  mkV hd hK fun F N a w hr => by
    obtain ⟨dd, hd', hd''⟩ := hT.kind hk
    refine ⟨.iface t (a.eval x), .ifc _ _ _ (evA_rel hr hx), fun w' _ => ?_⟩
    have : (Instr.makeInterface t (a.eval x)).run P w' = .ok (.iface t (a.eval x)) w' := by
      unfold Instr.makeInterface
      rw [Sem.run_bind, run_underlying hd']
      cases dd <;> first | rfl | (simp [shOf] at hd''; subst hd''; simp at hn)
    simp [execOp, this]
theorem tup2 {p q : AV} {p' q' : Value} (hp : RelV N w p p') (hq : RelV N w q q') : RelV N w (.tup [p, q]) (.tuple #[p', q']) := by
  refine .tup _ _ rfl (fun i av v h3 h4 => ?_)
  match i with
  | 0 => cases h3; cases h4; exact hp
  | 1 => cases h3; cases h4; exact hq
  | n + 2 => simp at h3
theorem v_assertY (hT : TabOk P T) {t xt : TypeId} {x : Operand} {av : AV} {sh : Sh} (hx : evA σ x = some (.ifc t av)) (hk : T.kind t = some sh) (hn : (match sh with | .iface | .other => false | _ => true) = true) (hd : dok d σ.nt = true) (hK : K (σ.put d (.tup [av, .bool true]))) : ValOk P c ⟨d, .typeAssert x xt t true, ty, pos, af, g⟩ σ K :=
  mkV hd hK fun F N a w hr => by
    have hv := evA_rel hr hx
    generalize hval : a.eval x = val at hv
    obtain ⟨dd, hd', hd''⟩ := hT.kind hk
    cases hv with
    | ifc _ _ v' hv' =>
      refine ⟨.tuple #[v', .bool true], tup2 hv' (.bool _), fun w' _ => ?_⟩
      have : (Instr.typeAssert (.iface t v') xt t true).run P w' = .ok (.tuple #[v', .bool true]) w' := by
        unfold Instr.typeAssert
        rw [Sem.run_bind, run_underlying hd']
        cases dd <;> first | (simp [shOf] at hd''; subst hd''; simp at hn; done) | simp
      simp [execOp, hval, this]
theorem v_assertN (hT : TabOk P T) {t u xt : TypeId} {x : Operand} {av zr : AV} {sh : Sh} {z : List AV} {g' : Bool} (hx : evA σ x = some (.ifc u av)) (hu : (u == t) = false) (hk : T.kind t = some sh) (hn : (match sh with | .iface | .other => false | _ => true) = true) (hz : T.zero t = some z) (hg : T.agg t = some g') (hm : mkA g' z = some zr)
    (hd : dok d σ.nt = true) (hK : K (σ.put d (.tup [zr, .bool false]))) : ValOk P c ⟨d, .typeAssert x xt t true, ty, pos, af, g⟩ σ K :=
  mkV hd hK fun F N a w hr => by
    have hv := evA_rel hr hx
    generalize hval : a.eval x = val at hv
    obtain ⟨dd, hd', hd''⟩ := hT.kind hk
    have hu : ¬ u = t := by simpa using hu
    cases hv with
    | ifc _ _ v' hv' =>
      obtain ⟨i, z', h5, h6, h7⟩ := hT.whole hz hg hm
      refine ⟨.tuple #[z', .bool false], tup2 (h7 N w) (.bool _), fun w' _ => ?_⟩
      have : (Instr.typeAssert (.iface u v') xt t true).run P w' = .ok (.tuple #[z', .bool false]) w' := by
        unfold Instr.typeAssert
        rw [Sem.run_bind, run_underlying hd']
        cases dd <;> first | (simp [shOf] at hd''; subst hd''; simp at hn; done) | simp [hu, zeroValue, typeInfo, h5, h6]
      simp [execOp, hval, this]
theorem v_assert0 (hT : TabOk P T) {t xt : TypeId} {x : Operand} {zr : AV} {sh : Sh} {z : List AV} {g' : Bool} (hx : evA σ x = some (.raw .nilIface)) (hk : T.kind t = some sh) (hn : (match sh with | .iface | .other => false | _ => true) = true) (hz : T.zero t = some z) (hg : T.agg t = some g') (hm : mkA g' z = some zr)
    (hd : dok d σ.nt = true) (hK : K (σ.put d (.tup [zr, .bool false]))) : ValOk P c ⟨d, .typeAssert x xt t true, ty, pos, af, g⟩ σ K :=
  mkV hd hK fun F N a w hr => by
    have hv := evA_rel hr hx
    generalize hval : a.eval x = val at hv
    obtain ⟨dd, hd', hd''⟩ := hT.kind hk
    cases hv
    obtain ⟨i, z', h5, h6, h7⟩ := hT.whole hz hg hm
    refine ⟨.tuple #[z', .bool false], tup2 (h7 N w) (.bool _), fun w' _ => ?_⟩
    have : (Instr.typeAssert .nilIface xt t true).run P w' = .ok (.tuple #[z', .bool false]) w' := by
      unfold Instr.typeAssert
      rw [Sem.run_bind, run_underlying hd']
      cases dd <;> first | (simp [shOf] at hd''; subst hd''; simp at hn; done) | simp [zeroValue, typeInfo, h5, h6]
    simp [execOp, hval, this]
/-- Whole numbers of another kind. -/
theorem v_convI (hT : TabOk P T) {s t : TypeId} {x : Operand} {k k' : IntKind} {n : Int} {sh : Sh} (hx : evA σ x = some (.int k n)) (hs : T.kind s = some sh) (ht : T.kind t = some (.int k')) (hd : dok d σ.nt = true) (hK : K (σ.put d (.int k' (k'.wrap n)))) : ValOk P c ⟨d, .convert s t x, ty, pos, af, g⟩ σ K :=
  mkV hd hK fun F N a w hr => by
    have hp := evA_rel hr hx
    generalize hv : a.eval x = vx at hp
    cases hp
    obtain ⟨ds, hs', _⟩ := hT.kind hs
    obtain ⟨dt, ht', ht''⟩ := hT.kind ht
    have hd2 : dt = .int k' := by cases dt <;> simp [shOf] at ht'' <;> rw [ht'']
    subst hd2
    refine ⟨.int k' (k'.wrap n), .int _ _, fun w' _ => ?_⟩
    simp [execOp, convert, hv, run_underlying hs', run_underlying ht', Conv.intToInt]
theorem v_convS (hT : TabOk P T) {s t : TypeId} {x : Operand} {l : List UInt8} {sh : Sh} (hx : evA σ x = some (.str l)) (hs : T.kind s = some sh) (ht : T.kind t = some .string) (hd : dok d σ.nt = true) (hK : K (σ.put d (.str l))) : ValOk P c ⟨d, .convert s t x, ty, pos, af, g⟩ σ K :=
  mkV hd hK fun F N a w hr => by
    have hp := evA_rel hr hx
    generalize hv : a.eval x = vx at hp
    cases hp with
    | str _ hl =>
      obtain ⟨ds, hs', _⟩ := hT.kind hs
      obtain ⟨dt, ht', ht''⟩ := hT.kind ht
      have hd2 : dt = .string := by cases dt <;> simp [shOf] at ht'' <;> rfl
      subst hd2
      refine ⟨_, .str _ hl, fun w' _ => ?_⟩
      simp [execOp, convert, hv, run_underlying hs', run_underlying ht']
end
end Go.Bb
end
section
/-! Operations that make memory or write. -/
set_option linter.unusedVariables false
set_option linter.unusedSimpArgs false
namespace Go.Bb

def minus {α : Type} (h : List (Nat × α)) (ks : List Nat) : List (Nat × α) := h.filter fun p => !ks.contains p.1

theorem get_minus {α : Type} {h : List (Nat × α)} {ks : List Nat} {k : Nat} {x : α} (e : getk k (minus h ks) = some x) : k ∉ ks ∧ getk k h = some x := by
  induction h with
  | nil => cases e
  | cons p h ih =>
    obtain ⟨i, y⟩ := p
    simp only [minus, List.filter_cons] at e ih
    by_cases hi : i ∈ ks
    · simp [hi] at e
      obtain ⟨h1, h2⟩ := ih (by simpa using e)
      refine ⟨h1, ?_⟩
      simp only [getk]
      rw [if_neg (by rintro rfl; exact h1 hi)]; exact h2
    · simp [hi] at e
      simp only [getk] at e ⊢
      split at e
      · rename_i hk; subst hk; cases e; exact ⟨hi, by simp⟩
      · rename_i hk; rw [if_neg hk]; exact ih (by simpa using e)

theorem mem_minus {α : Type} {h : List (Nat × α)} {ks : List Nat} {k : Nat} (e : k ∈ keys (minus h ks)) : k ∉ ks ∧ k ∈ keys h := by
  obtain ⟨x, hx⟩ := mem_keys_get e
  obtain ⟨h1, h2⟩ := get_minus hx
  exact ⟨h1, get_mem_keys h2⟩

def has (k : Nat) (h : HP) : Bool := (keys h).contains k
theorem has_no {k : Nat} {h : HP} (e : has k h = false) : k ∉ keys h := by unfold has at e; simpa using e

section
variable {P : Program} {T : Tab} {c : Cx} {F : Nat → Nat → Prop} {o : Oper} {σ : St} {K : St → Prop} {N : Nat → Prop} {a : Act} {w : World} {all r : List Oper}

/-- What is owned under some names is owned under another one, perhaps written, perhaps anew. -/
theorem Rel.repl (hr : Rel c F N σ a w) (ks : List Nat) (k : Nat) {v : Value} {av : AV} {w' : World} {S : Nat → Prop} (hk : has k (minus σ.heap ks) = false)
    (hos : w'.os = w.os) (htape : w'.tape = w.tape) (hout : w'.output = w.output) (hsize : w.heap.size ≤ w'.heap.size)
    (hU : ∀ j, j < w.heap.size → (∀ y, y ∈ ks → y ∈ keys σ.heap → ¬ F y j) → w'.heap[j]? = w.heap[j]?)
    (hS : ∀ b, S b → (∃ y, y ∈ ks ∧ y ∈ keys σ.heap ∧ F y b) ∨ (w.heap.size ≤ b ∧ b < w'.heap.size)) (hone : v.oneCell' = true)
    (hown : ∀ N', (∀ i, i < w.heap.size → N' i → N i) → OwnV N' w' S av v) :
    Rel c (fun x => if x = k then S else F x) (fun j => N j ∨ (w.heap.size ≤ j ∧ S j)) { σ with heap := (k, (v, av)) :: minus σ.heap ks } a w' := by
  have hNn : ∀ i, i < w.heap.size → (N i ∨ (w.heap.size ≤ i ∧ S i)) → N i := fun i hi h => h.resolve_right (fun h => by omega)
  have hFN : ∀ y, y ∈ keys σ.heap → ∀ j, F y j → N j := fun y hy j hj => (hr.heap.foot y hy j hj).1
  have hL : Later N w w' := ⟨hsize, fun j hj hN => hU j hj (fun y _ hy hF => hN (hFN y hy j hF))⟩
  have hk' := has_no hk
  refine ⟨hr.defers, hr.size, fun q av' hq => ?_, ⟨fun x u o hx => ?_, fun x hx b hb => ?_, fun x y hx hy hne b hb hb' => ?_, fun x u o hx => ?_⟩, fun x hx b hb => ?_, fun j hj h0 => (hr.n0 j hj h0).imp .inl id, ?_⟩
  · obtain ⟨u, h1, h2⟩ := hr.slots q av' hq
    exact ⟨u, h1, h2.mono hL hNn⟩
  · simp only [getk] at hx
    by_cases e : x = k
    · subst e
      rw [if_pos rfl] at hx ⊢
      cases hx
      exact hown _ hNn
    · rw [if_neg (fun h => e h.symm)] at hx
      rw [if_neg e]
      obtain ⟨h1, h2⟩ := get_minus hx
      refine (hr.heap.own x u o h2).mono hL hNn (fun j hj hF => hU j hj (fun y hy hyk hF' => ?_))
      have hne : x ≠ y := by rintro rfl; exact h1 hy
      exact hr.heap.disj x y (get_mem_keys h2) hyk hne j hF hF'
  · simp only [keys, List.map_cons, List.mem_cons] at hx
    by_cases e : x = k
    · subst e
      rw [if_pos rfl] at hb
      rcases hS b hb with ⟨y, hy, hyk, hF⟩ | ⟨h1, h2⟩
      · obtain ⟨h1, h2⟩ := hr.heap.foot y hyk b hF
        exact ⟨.inl h1, Nat.lt_of_lt_of_le h2 hsize⟩
      · exact ⟨.inr ⟨h1, hb⟩, h2⟩
    · rw [if_neg e] at hb
      obtain ⟨h1, h2⟩ := mem_minus (hx.resolve_left e)
      obtain ⟨h3, h4⟩ := hr.heap.foot x h2 b hb
      exact ⟨.inl h3, Nat.lt_of_lt_of_le h4 hsize⟩
  · simp only [keys, List.map_cons, List.mem_cons] at hx hy
    have key : ∀ z, z ∈ keys (minus σ.heap ks) → z ≠ k → F z b → S b → False := by
      intro z hz hzk hF hSb
      obtain ⟨h1, h2⟩ := mem_minus hz
      rcases hS b hSb with ⟨y', hy', hyk, hF'⟩ | ⟨h3, h4⟩
      · exact hr.heap.disj z y' h2 hyk (by rintro rfl; exact h1 hy') b hF hF'
      · have := (hr.heap.foot z h2 b hF).2; omega
    by_cases e1 : x = k <;> by_cases e2 : y = k
    · exact hne (e1.trans e2.symm)
    · rw [if_pos e1] at hb; rw [if_neg e2] at hb'
      exact key y (hy.resolve_left e2) e2 hb' hb
    · rw [if_neg e1] at hb; rw [if_pos e2] at hb'
      exact key x (hx.resolve_left e1) e1 hb hb'
    · rw [if_neg e1] at hb; rw [if_neg e2] at hb'
      exact hr.heap.disj x y (mem_minus (hx.resolve_left e1)).2 (mem_minus (hy.resolve_left e2)).2 hne b hb hb'
  · simp only [getk] at hx
    split at hx
    · cases hx; exact hone
    · exact hr.heap.one x u o (get_minus hx).2
  · simp only [keys, List.map_cons, List.mem_cons] at hx
    by_cases e : x = k
    · subst e
      rw [if_pos rfl] at hb
      rcases hS b hb with ⟨y, hy, hyk, hF⟩ | ⟨h1, h2⟩
      · exact hr.may y hyk b hF
      · exact .inr (Nat.le_trans hr.unch.size h1)
    · rw [if_neg e] at hb
      exact hr.may x (mem_minus (hx.resolve_left e)).2 b hb
  · refine ⟨hos.trans hr.unch.os, htape.trans hr.unch.tape, hout.trans hr.unch.output, Nat.le_trans hr.unch.size hsize, fun j hj hM => ?_⟩
    rw [hU j (Nat.lt_of_lt_of_le hj hr.unch.size) (fun y _ hyk hF => ?_), hr.unch.block j hj hM]
    rcases hr.may y hyk j hF with h | h
    · exact hM h
    · omega

variable {d : Option Tmp} {ty : TypeId} {pos : String} {af : Array Edge} {g : Option (Nat × Bool)}

/-- A new block. -/
theorem Rel.alloc (hr : Rel c F N σ a w) (k : Nat) {v : Value} {av : AV} {ob : Obj} (hk : has k σ.heap = false) (hone : v.oneCell' = true)
    (hown : ∀ N', (∀ i, i < w.heap.size → N' i → N i) → OwnV N' (w.alloc ob) (fun b => b = w.heap.size) av v) :
    ∃ F' N', Rel c F' N' { σ with heap := (k, (v, av)) :: σ.heap } a (w.alloc ob) := by
  have h0 : minus σ.heap [] = σ.heap := by unfold minus; simp
  have := hr.repl [] k (v := v) (av := av) (w' := w.alloc ob) (S := fun b => b = w.heap.size) (by rw [h0]; exact hk) rfl rfl rfl (by simp) (fun j hj _ => by
    show (w.heap.push _)[j]? = _
    rw [Array.getElem?_push, if_neg (by omega)]) (fun b hb => .inr (by subst hb; exact ⟨Nat.le_refl _, by simp⟩)) hone hown
  rw [h0] at this
  exact ⟨_, _, this⟩

theorem heap_new (w : World) (ob : Obj) : (w.alloc ob).heap[w.heap.size]? = some ob := by
  show (w.heap.push _)[w.heap.size]? = _
  simp
theorem later_alloc {N N' : Nat → Prop} (w : World) (ob : Obj) : Later N w (w.alloc ob) := ⟨by simp, fun j hj _ => by
    show (w.heap.push _)[j]? = _
    rw [Array.getElem?_push, if_neg (by omega)]⟩

/-- A variable of its own, of such cells. -/
theorem own_cells {S : Nat → Prop} {N' : Nat → Prop} {w' : World} {b : Nat} {arr : Array Value} {t : TypeId} {cs : List AV} (hb : S b) (hh : w'.heap[b]? = some (.cells arr t (0, 0))) (hs : arr.size = cs.length)
    (hc : ∀ (j : Nat) av, cs[j]? = some av → ∃ u, arr[j]? = some u ∧ RelV N' w' av u) : OwnV N' w' S (.optr t cs) (.pointer (some ⟨b, 0, none⟩)) := by
  refine .optr S t cs b arr (fun _ _ => False) (fun j => (arr[j]?).getD undef) hb hh hs (fun j k h => h.elim) (fun j j' k h => h.elim) (fun j av hj => ?_) (fun j av hj => ?_)
  · obtain ⟨u, h1, h2⟩ := hc j av hj
    rw [h1]; rfl
  · obtain ⟨u, h1, h2⟩ := hc j av hj
    rw [h1]; exact .frz _ _ _ h2

theorem o_box {t k : Nat} {x : Operand} {v : AV} {cs : List AV} (hT : TabOk P T) (hx : evA σ x = some v) (hcs : cellsA v = cs) (hc : cellsOk cs = true) (hk : has k σ.heap = false) (hd : dok d σ.nt = true)
    (hK : ∀ b, K ({ σ with heap := (k, (.pointer (some ⟨b, 0, none⟩), .optr t cs)) :: σ.heap }.put d (.ptr k b 0))) : OpOk P c ⟨d, .box t x, ty, pos, af, g⟩ σ K := by
  intro F N a w hr next Q hn
  subst hcs
  obtain ⟨h5, h6, h7⟩ := (evA_rel hr hx).cells hc
  obtain ⟨F', N', hra⟩ := hr.alloc k (v := .pointer (some ⟨w.heap.size, 0, none⟩)) (av := .optr t (cellsA v)) (ob := .cells (a.eval x).cells t) hk rfl (fun N' hN => own_cells rfl (heap_new w _) h5 (fun j av hj => let ⟨u, h1, h2⟩ := h6 j av hj; ⟨u, h1, h2.mono (later_alloc (N' := N) w _) hN⟩))
  unfold Oper.wp
  have hrun : (execOp a.eval ⟨d, .box t x, ty, pos, af, g⟩).run P w = .ok (.value (.pointer (some ⟨w.heap.size, 0, none⟩))) (w.alloc (.cells (a.eval x).cells t)) := by
    simp only [execOp, Instr.box, newVar, newRow]; simp [Sem.run_bind]
  rw [hrun]
  exact hn _ F' N' _ _ (hK _) (hra.put (dok_ok hd) (.ptr _ _ _))

theorem o_alloc {t k : Nat} {cs : List AV} (hT : TabOk P T) (hz : T.zero t = some cs) (hk : has k σ.heap = false) (hd : dok d σ.nt = true)
    (hK : ∀ b, K ({ σ with heap := (k, (.pointer (some ⟨b, 0, none⟩), .optr t cs)) :: σ.heap }.put d (.ptr k b 0))) : OpOk P c ⟨d, .alloc t, ty, pos, af, g⟩ σ K := by
  intro F N a w hr next Q hn
  obtain ⟨i, z, h5, h6, h7, h8⟩ := hT.zero hz
  obtain ⟨F', N', hra⟩ := hr.alloc k (v := .pointer (some ⟨w.heap.size, 0, none⟩)) (av := .optr t cs) (ob := .cells z.cells t) hk rfl (fun N' hN => own_cells rfl (heap_new w _) h7 (fun j av hj => h8 N' _ j av hj))
  unfold Oper.wp
  have hrun : (execOp a.eval ⟨d, .alloc t, ty, pos, af, g⟩).run P w = .ok (.value (.pointer (some ⟨w.heap.size, 0, none⟩))) (w.alloc (.cells z.cells t)) := by
    simp only [execOp, Instr.alloc, newVar, newRow]; simp [Sem.run_bind, zeroValue, typeInfo, h5, h6]
  rw [hrun]
  exact hn _ F' N' _ _ (hK _) (hra.put (dok_ok hd) (.ptr _ _ _))

/-! Stores -/
theorem store_run (hT : TabOk P T) {t n b i : Nat} {u : TypeId} {x y : Operand} {v : AV} (hr : Rel c F N σ a w) (hx : a.eval x = .pointer (some ⟨b, i, none⟩)) (hs : T.size t = some n) (hy : evA σ y = some v) (hl : (cellsA v).length = n) (hc : cellsOk (cellsA v) = true)
    {arr : Array Value} (hh : w.heap[b]? = some (.cells arr u (0, 0))) (hin : i + n ≤ arr.size) :
    (execOp a.eval ⟨d, .store t x y, ty, pos, af, g⟩).run P w = .ok .skip (w.setRow b (splice arr.toList i (a.eval y).cells.toList).toArray) := by
  obtain ⟨h6, h7, h8⟩ := (evA_rel hr hy).cells hc
  have hst := run_storeCells_at P b i u (a.eval y).cells.toList 0 arr w hh (by simp; omega) h8
  have e1 : ¬ ((a.eval y).cells.size ≠ n) := by omega
  simp only [execOp, hx, Instr.storeAt, Instr.sureAddr, storeVar]
  simp [Sem.run_bind, run_size hT hs, hst, splice]
  omega

theorem splice_get {α : Type} {l m : List α} {i : Nat} (h : i + m.length ≤ l.length) (j : Nat) : (splice l i m)[j]? = if i ≤ j ∧ j < i + m.length then m[j - i]? else l[j]? := by
  unfold splice
  rw [List.append_assoc]
  by_cases h1 : j < i
  · rw [List.getElem?_append_left (by simp; omega), List.getElem?_take, if_pos h1, if_neg (by omega)]
  · rw [List.getElem?_append_right (by simp; omega)]
    simp only [List.length_take, show min i l.length = i by omega]
    by_cases h2 : j < i + m.length
    · rw [List.getElem?_append_left (by omega), if_pos (by omega)]
    · rw [List.getElem?_append_right (by omega), if_neg (by omega), List.getElem?_drop]
      congr 1; omega

theorem o_storeP (hT : TabOk P T) {t n q b off : Nat} {u : TypeId} {x y : Operand} {v : AV} {cs vs cs' : List AV} (hx : evA σ x = some (.ptr q b off)) (hh : getk q σ.heap = some (.pointer (some ⟨b, 0, none⟩), .optr u cs)) (hs : T.size t = some n) (hy : evA σ y = some v)
    (hvs : cellsA v = vs) (hl : vs.length = n) (hin : off + n ≤ cs.length) (hc : cellsOk vs = true) (hcs : splice cs off vs = cs') (hd : dok d σ.nt = true)
    (hK : K ({ σ with heap := (q, (.pointer (some ⟨b, 0, none⟩), .optr u cs')) :: minus σ.heap [q] }.put d .und)) : OpOk P c ⟨d, .store t x y, ty, pos, af, g⟩ σ K := by
  intro F N a w hr next Q hn
  subst hvs hcs
  have hp := evA_rel hr hx
  generalize hv : a.eval x = vx at hp
  cases hp
  obtain ⟨h6, h7, h8⟩ := (evA_rel hr hy).cells hc
  have hqk := get_mem_keys hh
  have ho := hr.heap.own q _ _ hh
  cases ho with
  | frz _ _ _ h => cases h
  | optr _ _ _ _ arr G uu hb hhb hsz hG hdj hcc ho =>
    have hrun := store_run (d := d) (ty := ty) (pos := pos) (af := af) (g := g) hT hr hv hs hy hl hc hhb (by omega)
    unfold Oper.wp
    rw [hrun]
    have hother : ∀ j, j ≠ b → (w.setRow b (splice arr.toList off (a.eval y).cells.toList).toArray).heap[j]? = w.heap[j]? := fun j hj => setRow_other w b j _ hj
    refine hn _ _ _ _ _ hK ((hr.repl [q] q (v := .pointer (some ⟨b, 0, none⟩)) (av := .optr u (splice cs off (cellsA v))) (w' := w.setRow b (splice arr.toList off (a.eval y).cells.toList).toArray) (S := F q) ?_ rfl rfl rfl (by simp) (fun j hj hF => hother j (fun e => hF q (by simp) hqk (e ▸ hb))) (fun j hj => .inl ⟨q, by simp, hqk, hj⟩) rfl (fun N' hN => ?_)).put (dok_ok hd) .und)
    · unfold has; rw [List.contains_eq_mem]; simp only [decide_eq_false_iff_not]
      intro h; exact (mem_minus h).1 (by simp)
    · have hL : Later N w (w.setRow b (splice arr.toList off (a.eval y).cells.toList).toArray) := ⟨by simp, fun j hj hNj => hother j (fun e => hNj (e ▸ (hr.heap.foot q hqk b hb).1))⟩
      have hcl : (a.eval y).cells.toList.length = (cellsA v).length := by simpa using h6
      have hal : (splice arr.toList off (a.eval y).cells.toList).length = arr.size := by simp [splice]; omega
      refine .optr _ _ _ b (splice arr.toList off (a.eval y).cells.toList).toArray (fun j k => ¬ (off ≤ j ∧ j < off + (cellsA v).length) ∧ G j k) (fun j => if off ≤ j ∧ j < off + (cellsA v).length then ((a.eval y).cells[j - off]?).getD undef else uu j) hb (setRow_heap w b arr _ u (0, 0) hhb) ?_
        (fun j k h => hG j k h.2) (fun j j' k h h' => hdj j j' k h.2 h'.2) (fun j av hj => ?_) (fun j av hj => ?_)
      · rw [List.size_toArray, hal, hsz]; simp [splice]; omega
      · rw [splice_get (by omega)] at hj
        simp only [List.getElem?_toArray]
        rw [splice_get (by simp; omega), hcl]
        by_cases hjj : off ≤ j ∧ j < off + (cellsA v).length
        · rw [if_pos hjj] at hj ⊢
          obtain ⟨z, h9, h10⟩ := h7 _ av hj
          have : (a.eval y).cells.toList[j - off]? = some z := by simpa using h9
          rw [this]
          simp [hjj, h9]
        · rw [if_neg hjj] at hj ⊢
          simp only [hjj, if_false]
          simpa using hcc j av hj
      · rw [splice_get (by omega)] at hj
        by_cases hjj : off ≤ j ∧ j < off + (cellsA v).length
        · rw [if_pos hjj] at hj
          obtain ⟨z, h9, h10⟩ := h7 _ av hj
          simp only [hjj, and_self, if_true, h9, Option.getD_some]
          exact .frz _ _ _ (h10.mono hL hN)
        · rw [if_neg hjj] at hj
          simp only [hjj, if_false]
          refine ((ho j av hj).mono hL hN (fun k hk hGk => hother k (hG j k hGk).2)).sub (fun k hGk => ⟨fun h => h, hGk⟩)

theorem o_storeR (hT : TabOk P T) {t n q sz i off : Nat} {u : TypeId} {pv : Value} {x y : Operand} {v : AV} {rows : List (List AV)} {row vs row' : List AV} (hx : evA σ x = some (.rptr q pv sz i off)) (hh : getk q σ.heap = some (pv, .osl u sz rows)) (hs : T.size t = some n) (hy : evA σ y = some v)
    (hrow : rows[i]? = some row) (hvs : cellsA v = vs) (hl : vs.length = n) (hin : off + n ≤ sz) (hc : cellsOk vs = true) (hcs : splice row off vs = row') (hd : dok d σ.nt = true)
    (hK : K ({ σ with heap := (q, (pv, .osl u sz (rows.set i row'))) :: minus σ.heap [q] }.put d .und)) : OpOk P c ⟨d, .store t x y, ty, pos, af, g⟩ σ K := by
  intro F N a w hr next Q hn
  subst hvs hcs
  have hp := evA_rel hr hx
  generalize hv : a.eval x = vx at hp
  obtain ⟨h6, h7, h8⟩ := (evA_rel hr hy).cells hc
  have hqk := get_mem_keys hh
  have ho := hr.heap.own q _ _ hh
  have hone := hr.heap.one q _ _ hh
  cases hp with
  | rptr _ _ _ _ b len cap =>
    cases ho with
    | frz _ _ _ h => cases h
    | osl _ _ _ _ _ _ arr G uu hb hhb hsz hlc hmx hrl hG hdj hcc ho =>
      have hrl' : row.length = sz := hrl i row hrow
      have hilt : i < rows.length := by
        rcases Nat.lt_or_ge i rows.length with h | h
        · exact h
        · rw [List.getElem?_eq_none h] at hrow; cases hrow
      have hbound : i * sz + sz ≤ arr.size := by
        rw [hsz]
        have : (i + 1) * sz ≤ cap * sz := Nat.mul_le_mul_right _ (by omega)
        rw [Nat.add_mul, Nat.one_mul] at this; exact this
      have hrun := store_run (d := d) (ty := ty) (pos := pos) (af := af) (g := g) hT hr hv hs hy hl hc hhb (by omega)
      unfold Oper.wp
      rw [hrun]
      have hother : ∀ j, j ≠ b → (w.setRow b (splice arr.toList (i * sz + off) (a.eval y).cells.toList).toArray).heap[j]? = w.heap[j]? := fun j hj => setRow_other w b j _ hj
      refine hn _ _ _ _ _ hK ((hr.repl [q] q (v := .slice (some ⟨b, 0, none⟩) rows.length cap) (av := .osl u sz (rows.set i (splice row off (cellsA v)))) (w' := w.setRow b (splice arr.toList (i * sz + off) (a.eval y).cells.toList).toArray) (S := F q) ?_ rfl rfl rfl (by simp) (fun j hj hF => hother j (fun e => hF q (by simp) hqk (e ▸ hb))) (fun j hj => .inl ⟨q, by simp, hqk, hj⟩) rfl (fun N' hN => ?_)).put (dok_ok hd) .und)
      · unfold has; rw [List.contains_eq_mem]; simp only [decide_eq_false_iff_not]
        intro h; exact (mem_minus h).1 (by simp)
      · have hL : Later N w (w.setRow b (splice arr.toList (i * sz + off) (a.eval y).cells.toList).toArray) := ⟨by simp, fun j hj hNj => hother j (fun e => hNj (e ▸ (hr.heap.foot q hqk b hb).1))⟩
        have hcl : (a.eval y).cells.toList.length = (cellsA v).length := by simpa using h6
        have hal : (splice arr.toList (i * sz + off) (a.eval y).cells.toList).length = arr.size := by simp [splice]; omega
        have hset : (rows.set i (splice row off (cellsA v))).length = rows.length := by simp
        let hit : Nat → Nat → Prop := fun p j => p = i ∧ off ≤ j ∧ j < off + (cellsA v).length
        have hsl : (splice row off (cellsA v)).length = sz := by simp [splice]; omega
        have hget : ∀ (p : Nat) (rw_ : List AV) (j : Nat) av, (rows.set i (splice row off (cellsA v)))[p]? = some rw_ → rw_[j]? = some av →
            (hit p j ∧ (cellsA v)[j - off]? = some av) ∨ (¬ hit p j ∧ ∃ row0, rows[p]? = some row0 ∧ row0[j]? = some av) := by
          intro p rw_ j av hp hj
          rw [List.getElem?_set] at hp
          by_cases e : i = p
          · subst e
            simp [hilt] at hp
            subst hp
            rw [splice_get (by omega)] at hj
            by_cases hjj : off ≤ j ∧ j < off + (cellsA v).length
            · rw [if_pos hjj] at hj; exact .inl ⟨⟨rfl, hjj⟩, hj⟩
            · rw [if_neg hjj] at hj; exact .inr ⟨fun h => hjj h.2, row, hrow, hj⟩
          · rw [if_neg e] at hp
            exact .inr ⟨fun h => e h.1.symm, rw_, hp, hj⟩
        have hidx : ∀ (p j : Nat), p < rows.length → j < sz → ((i * sz + off ≤ p * sz + j ∧ p * sz + j < i * sz + off + (cellsA v).length) ↔ hit p j) := by
          intro p j hp hj
          constructor
          · rintro ⟨h1, h2⟩
            have hpi : p = i := by
              rcases Nat.lt_trichotomy p i with h | h | h
              · have : (p + 1) * sz ≤ i * sz := Nat.mul_le_mul_right _ h
                rw [Nat.add_mul, Nat.one_mul] at this; omega
              · exact h
              · have : (i + 1) * sz ≤ p * sz := Nat.mul_le_mul_right _ h
                rw [Nat.add_mul, Nat.one_mul] at this; omega
            subst hpi
            exact ⟨rfl, by omega, by omega⟩
          · rintro ⟨rfl, h1, h2⟩; omega
        rw [← hset]
        refine .osl _ _ _ _ b cap (splice arr.toList (i * sz + off) (a.eval y).cells.toList).toArray (fun p j k => ¬ hit p j ∧ G p j k) (fun p j => @ite _ (hit p j) (Classical.propDecidable _) (((a.eval y).cells[j - off]?).getD undef) (uu p j)) hb (setRow_heap w b arr _ u (0, 0) hhb) ?_ (by rw [hset]; exact hlc) hmx ?_
          (fun p j k h => hG p j k h.2) (fun p j p' j' k h h' => hdj p j p' j' k h.2 h'.2) (fun p rw_ j av hp hj => ?_) (fun p rw_ j av hp hj => ?_)
        · rw [List.size_toArray, hal, hsz]
        · intro p rw_ hp
          rw [List.getElem?_set] at hp
          by_cases e : i = p
          · subst e; simp [hilt] at hp; subst hp; exact hsl
          · rw [if_neg e] at hp; exact hrl p rw_ hp
        · have hplt : p < rows.length := by
            rcases Nat.lt_or_ge p rows.length with h | h
            · exact h
            · rw [List.getElem?_eq_none (by omega)] at hp; cases hp
          simp only [List.getElem?_toArray]
          rw [splice_get (by simp; omega), hcl]
          rcases hget p rw_ j av hp hj with ⟨h1, h2⟩ | ⟨h1, row0, h2, h3⟩
          · have hj' : j < sz := by have := h1.2.2; omega
            rw [if_pos ((hidx p j hplt hj').2 h1)]
            simp only [h1, if_true]
            obtain ⟨z, h9, h10⟩ := h7 _ av h2
            obtain ⟨rfl, h11, h12⟩ := h1
            have e : p * sz + j - (p * sz + off) = j - off := by omega
            rw [e]
            simp [h9]
          · have hj' : j < sz := by
              rw [← hrl p row0 h2]
              rcases Nat.lt_or_ge j row0.length with h | h
              · exact h
              · rw [List.getElem?_eq_none h] at h3; cases h3
            rw [if_neg (fun h => h1 ((hidx p j hplt hj').1 h))]
            simp only [h1, if_false]
            simpa using hcc p row0 j av h2 h3
        · rcases hget p rw_ j av hp hj with ⟨h1, h2⟩ | ⟨h1, row0, h2, h3⟩
          · simp only [h1, if_true]
            obtain ⟨z, h9, h10⟩ := h7 _ av h2
            rw [h9]
            exact .frz _ _ _ (h10.mono hL hN)
          · simp only [h1, if_false]
            exact ((ho p row0 j av h2 h3).mono hL hN (fun k hk hGk => hother k (hG p j k hGk).2)).sub (fun k hGk => ⟨fun h => h, hGk⟩)
end
end Go.Bb
end
section
/-! Slices of the call's own. -/
set_option linter.unusedVariables false
set_option linter.unusedSimpArgs false
namespace Go.Bb

theorem rowsC_get {α : Type} {sz : Nat} : ∀ (rows : List (List α)), (∀ r ∈ rows, r.length = sz) → (rowsC rows).length = rows.length * sz ∧ ∀ (i : Nat) row (j : Nat), rows[i]? = some row → j < sz → (rowsC rows)[i * sz + j]? = row[j]?
  | [], _ => ⟨by simp [rowsC], fun i row j h => by simp at h⟩
  | r :: rows, h => by
    obtain ⟨h1, h2⟩ := rowsC_get rows (fun r hr => h r (List.mem_cons_of_mem _ hr))
    have hr := h r List.mem_cons_self
    refine ⟨by show (r ++ rowsC rows).length = _; simp [h1, hr, Nat.add_mul]; omega, fun i row j hi hj => ?_⟩
    show (r ++ rowsC rows)[i * sz + j]? = _
    cases i with
    | zero =>
      simp at hi; subst hi
      rw [List.getElem?_append_left (by omega)]; simp
    | succ i =>
      rw [Nat.add_mul, Nat.one_mul, List.getElem?_append_right (by omega), hr]
      rw [show i * sz + sz + j - sz = i * sz + j by omega]
      exact h2 i row j (by simpa using hi) hj

/-- The values of rows, one behind the other. -/
def flat (u : Nat → Nat → Value) (n sz : Nat) : List Value := (List.range (n * sz)).map fun k => u (k / sz) (k % sz)
theorem flat_length (u : Nat → Nat → Value) (n sz : Nat) : (flat u n sz).length = n * sz := by simp [flat]
theorem flat_get {u : Nat → Nat → Value} {n sz i j : Nat} (hi : i < n) (hj : j < sz) : (flat u n sz)[i * sz + j]? = some (u i j) := by
  have h1 : i * sz + j < n * sz := by
    have : (i + 1) * sz ≤ n * sz := Nat.mul_le_mul_right _ hi
    rw [Nat.add_mul, Nat.one_mul] at this; omega
  have h2 : (i * sz + j) / sz = i := by rw [Nat.mul_comm, Nat.mul_add_div (by omega), Nat.div_eq_of_lt hj]; omega
  have h3 : (i * sz + j) % sz = j := by rw [Nat.mul_comm, Nat.mul_add_mod, Nat.mod_eq_of_lt hj]
  simp [flat, h1, h2, h3]
theorem flat_idx {u : Nat → Nat → Value} {n sz k : Nat} {v : Value} (h : (flat u n sz)[k]? = some v) : ∃ i j, i < n ∧ j < sz ∧ k = i * sz + j ∧ v = u i j := by
  have hk : k < n * sz := by
    rw [← flat_length u n sz]
    rcases Nat.lt_or_ge k (flat u n sz).length with h' | h'
    · exact h'
    · rw [List.getElem?_eq_none h'] at h; cases h
  have hs : 0 < sz := by
    rcases Nat.eq_zero_or_pos sz with h0 | h0
    · subst h0; simp at hk
    · exact h0
  have h1 : k / sz < n := (Nat.div_lt_iff_lt_mul hs).2 hk
  have h2 : k % sz < sz := Nat.mod_lt _ hs
  have h3 : k = k / sz * sz + k % sz := by rw [Nat.mul_comm]; exact (Nat.div_add_mod k sz).symm
  refine ⟨k / sz, k % sz, h1, h2, h3, ?_⟩
  have h4 := flat_get (u := u) h1 h2
  rw [← h3] at h4
  rw [h4] at h; exact (Option.some.inj h).symm

section
variable {P : Program} {T : Tab} {c : Cx} {F : Nat → Nat → Prop} {o : Oper} {σ : St} {K : St → Prop} {N : Nat → Prop} {a : Act} {w : World} {all r : List Oper}

/-- What there is to be appended. -/
def AddOk (N : Nat → Prop) (w : World) (sz : Nat) (rows : List (List AV)) (v : Value) (G : Nat → Nat → Nat → Prop) : Prop :=
  (v = nilV ∧ rows = []) ∨ ∃ (ad : Addr) (cap : Nat) (u : Nat → Nat → Value), v = .slice (some ad) rows.length cap ∧ (0 < rows.length → ad.spot = none) ∧ (∀ (i : Nat) row, rows[i]? = some row → row.length = sz) ∧
    ∀ (i : Nat) row (j : Nat) av, rows[i]? = some row → row[j]? = some av → w.cell? ⟨ad.block, ad.off + (i * sz + j), none⟩ = some (u i j) ∧ OwnV N w (G i j) av (u i j)

theorem addOk_sl {z : Bool} {sz : Nat} {rows : List (List AV)} {v : Value} (h : RelV N w (.sl z rows) v) (hs : ∀ (i : Nat) row, rows[i]? = some row → row.length = sz) : AddOk N w sz rows v fun _ _ _ => False := by
  cases h with
  | slNil => exact .inl ⟨rfl, rfl⟩
  | sl _ _ ad cap sz' u hsp hc hm h1 h2 h3 h4 =>
    refine .inr ⟨ad, cap, u, rfl, hsp, hs, fun i row j av hi hj => ?_⟩
    have e : sz' = sz := by rw [← h1 i row hi, hs i row hi]
    subst e
    exact ⟨(h2 i row j av hi hj).2, .frz _ _ _ (h3 i row j av hi hj)⟩

theorem addOk_own {sz : Nat} {t : TypeId} {S : Nat → Prop} {rows : List (List AV)} {v : Value} (h : OwnV N w S (.osl t sz rows) v) : ∃ G : Nat → Nat → Nat → Prop, AddOk N w sz rows v G ∧ (∀ i j k, G i j k → S k) ∧ ∀ i j i' j' k, G i j k → G i' j' k → i = i' ∧ j = j' := by
  cases h with
  | frz _ _ _ h => cases h
  | osl0 => exact ⟨fun _ _ _ => False, .inl ⟨rfl, rfl⟩, fun _ _ _ h => h.elim, fun _ _ _ _ _ h => h.elim⟩
  | osl _ _ _ _ b cap arr G u hb hh hsz hl hm hr hG hd hc ho =>
    refine ⟨G, .inr ⟨⟨b, 0, none⟩, cap, u, rfl, fun _ => rfl, hr, fun i row j av hi hj => ⟨?_, ho i row j av hi hj⟩⟩, fun i j k h => (hG i j k h).1, hd⟩
    simp only [World.cell?, hh]
    simpa using hc i row j av hi hj

theorem addOk_nil {sz : Nat} : AddOk N w sz [] nilV fun _ _ _ => False := .inl ⟨rfl, rfl⟩

theorem AddOk.one {sz : Nat} {rows : List (List AV)} {ad : Addr} {u : Nat → Nat → Value} {G : Nat → Nat → Nat → Prop} (h2 : ∀ (i : Nat) row (j : Nat) av, rows[i]? = some row → row[j]? = some av → w.cell? ⟨ad.block, ad.off + (i * sz + j), none⟩ = some (u i j) ∧ OwnV N w (G i j) av (u i j))
    (h1 : ∀ (i : Nat) row, rows[i]? = some row → row.length = sz) (hc : ∀ row ∈ rows, cellsOk row = true) : ∀ x ∈ flat u rows.length sz, x.oneCell' = true := by
  intro x hx
  obtain ⟨k, hk, rfl⟩ := List.mem_iff_getElem.1 hx
  obtain ⟨i, j, hi, hj, _, e⟩ := flat_idx (List.getElem?_eq_getElem hk)
  rw [e]
  have hrow : rows[i]? = some rows[i] := List.getElem?_eq_getElem hi
  have hlen := h1 i _ hrow
  have hav : rows[i][j]? = some rows[i][j] := List.getElem?_eq_getElem (by omega)
  have h3 := (h2 i _ j _ hrow hav).2
  have h4 : (rows[i][j]).cell = true := List.all_eq_true.1 (hc _ (List.getElem_mem hi)) _ (List.getElem_mem _)
  generalize rows[i][j] = av at h3 h4
  generalize u i j = x at h3
  cases h3 with
  | frz _ _ _ h => exact h.one h4
  | osl0 => rfl
  | osl => rfl
  | optr => rfl
  | omp => rfl

/-- What is owned, as the kit says it. -/
theorem own_row {sz : Nat} {t : TypeId} {S : Nat → Prop} {rows : List (List AV)} {v : Value} (h : OwnV N w S (.osl t sz rows) v) : ∃ (G : Nat → Nat → Nat → Prop) (u : Nat → Nat → Value), w.ownsRow 0 t sz v rows.length (flat u rows.length sz) ∧ (∀ g, v.ownBlock = some g → S g) ∧
    (∀ (i : Nat) row, rows[i]? = some row → row.length = sz) ∧ (∀ i j k, G i j k → S k ∧ some k ≠ v.ownBlock) ∧ (∀ i j i' j' k, G i j k → G i' j' k → i = i' ∧ j = j') ∧
    ∀ (i : Nat) row (j : Nat) av, rows[i]? = some row → row[j]? = some av → OwnV N w (G i j) av (u i j) := by
  cases h with
  | frz _ _ _ h => cases h
  | osl0 => exact ⟨fun _ _ _ => False, fun _ _ => undef, by have := World.ownsRow_nil w 0 t sz; simpa [flat] using this, fun g h => by simp [Value.ownBlock] at h, fun i row h => by simp at h, fun _ _ _ h => h.elim, fun _ _ _ _ _ h => h.elim, fun i row j av h => by simp at h⟩
  | osl _ _ _ _ b cap arr G u hb hh hsz hl hm hr hG hd hc ho =>
    refine ⟨G, u, ⟨flat_length _ _ _, .inr ⟨b, cap, arr, rfl, Nat.zero_le _, hh, hl, hm, hsz, ?_⟩⟩, fun g h => by simp [Value.ownBlock] at h; subst h; exact hb, hr, fun i j k h => ⟨(hG i j k h).1, by simp [Value.ownBlock]; exact (hG i j k h).2⟩, hd, ho⟩
    apply List.ext_getElem?
    intro k
    by_cases hk : k < rows.length * sz
    · rw [List.getElem?_take, if_pos hk]
      have hkl : k < (flat u rows.length sz).length := by rw [flat_length]; exact hk
      obtain ⟨i, j, hi, hj, e, e2⟩ := flat_idx (List.getElem?_eq_getElem hkl)
      have hrow : rows[i]? = some rows[i] := List.getElem?_eq_getElem hi
      have hlen := hr i _ hrow
      have := hc i _ j _ hrow (List.getElem?_eq_getElem (by omega))
      rw [List.getElem?_eq_getElem hkl, e2, e]
      simpa using this
    · rw [List.getElem?_eq_none (by simp; omega), List.getElem?_eq_none (by rw [flat_length]; omega)]

theorem own_mk {sz : Nat} {t : TypeId} {S : Nat → Prop} {rows : List (List AV)} {v : Value} {G : Nat → Nat → Nat → Prop} {u : Nat → Nat → Value} (h : w.ownsRow 0 t sz v rows.length (flat u rows.length sz)) (hb : ∀ g, v.ownBlock = some g → S g)
    (hr : ∀ (i : Nat) row, rows[i]? = some row → row.length = sz) (hG : ∀ i j k, G i j k → S k ∧ some k ≠ v.ownBlock) (hd : ∀ i j i' j' k, G i j k → G i' j' k → i = i' ∧ j = j')
    (ho : ∀ (i : Nat) row (j : Nat) av, rows[i]? = some row → row[j]? = some av → OwnV N w (G i j) av (u i j)) : OwnV N w S (.osl t sz rows) v := by
  rcases h.2 with ⟨rfl, h0⟩ | ⟨g, cap, cur, rfl, _, hh, hn, hm, hs, ht⟩
  · have : rows = [] := List.eq_nil_of_length_eq_zero h0
    subst this
    exact .osl0 _ _ _
  · refine .osl _ _ _ _ g cap cur G u (hb g rfl) hh hs hn hm hr (fun i j k h => ⟨(hG i j k h).1, fun e => (hG i j k h).2 (by simp [Value.ownBlock, e])⟩) hd (fun i row j av hi hj => ?_) ho
    have hil : i < rows.length := by
      rcases Nat.lt_or_ge i rows.length with h' | h'
      · exact h'
      · rw [List.getElem?_eq_none h'] at hi; cases hi
    have hjl : j < sz := by
      rw [← hr i row hi]
      rcases Nat.lt_or_ge j row.length with h' | h'
      · exact h'
      · rw [List.getElem?_eq_none h'] at hj; cases hj
    have h2 := flat_get (u := u) hil hjl
    rw [← ht, List.getElem?_take] at h2
    split at h2
    · simpa using h2
    · cases h2

theorem flat_append {u u2 : Nat → Nat → Value} {n m sz : Nat} : flat u n sz ++ flat u2 m sz = flat (fun i j => if i < n then u i j else u2 (i - n) j) (n + m) sz := by
  apply List.ext_getElem?
  intro k
  by_cases hk : k < (n + m) * sz
  · have hkl : k < (flat (fun i j => if i < n then u i j else u2 (i - n) j) (n + m) sz).length := by rw [flat_length]; exact hk
    obtain ⟨i, j, hi, hj, e, e2⟩ := flat_idx (List.getElem?_eq_getElem hkl)
    rw [List.getElem?_eq_getElem hkl, e2, e]
    by_cases hin : i < n
    · have h1 : i * sz + j < n * sz := by
        have : (i + 1) * sz ≤ n * sz := Nat.mul_le_mul_right _ hin
        rw [Nat.add_mul, Nat.one_mul] at this; omega
      rw [List.getElem?_append_left (by rw [flat_length]; exact h1), flat_get hin hj, if_pos hin]
    · have h1 : n * sz ≤ i * sz := Nat.mul_le_mul_right _ (by omega)
      rw [List.getElem?_append_right (by rw [flat_length]; omega), flat_length, if_neg hin]
      have : i * sz + j - n * sz = (i - n) * sz + j := by rw [Nat.sub_mul]; omega
      rw [this, flat_get (by omega) hj]
  · have hk' : n * sz + m * sz ≤ k := by rw [← Nat.add_mul]; omega
    rw [List.getElem?_eq_none (by rw [List.length_append, flat_length, flat_length]; exact hk'), List.getElem?_eq_none (by rw [flat_length]; omega)]

/-- append, whatever the base is. -/
theorem append_run (hT : TabOk P T) {t e sz by_ ty : Nat} {rows rows2 : List (List AV)} {v vx : Value} {S S2 : Nat → Prop} {G2 : Nat → Nat → Nat → Prop} (he : T.elem t = some e) (hsz : T.size e = some sz) (hby : T.bytes e = some by_) (hz : (T.zero e).map List.length = some sz)
    (hs : OwnV N w S (.osl e sz rows) v) (hx : AddOk N w sz rows2 vx G2) (hG2 : ∀ i j k, G2 i j k → S2 k ∧ k < w.heap.size) (hd2 : ∀ i j i' j' k, G2 i j k → G2 i' j' k → i = i' ∧ j = j') (hdj : ∀ k, S k → ¬ S2 k) (hSN : ∀ k, S k → N k ∧ k < w.heap.size) (h2N : ∀ k, S2 k → N k)
    (h0 : 0 < sz) (hb0 : 0 < by_) (hfit : (rows.length + rows2.length) * by_ ≤ 140737488355328) (hcell : ∀ row ∈ rows2, cellsOk row = true) :
    ∃ v' w', (Builtin.append_ #[t, t] ty #[v, vx]).run P w = .ok v' w' ∧ v'.oneCell' = true ∧ w'.os = w.os ∧ w'.tape = w.tape ∧ w'.output = w.output ∧ w.heap.size ≤ w'.heap.size ∧ (∀ k, k < w.heap.size → ¬ S k → w'.heap[k]? = w.heap[k]?) ∧
      ∃ S' : Nat → Prop, (∀ k, S' k → S k ∨ S2 k ∨ (w.heap.size ≤ k ∧ k < w'.heap.size)) ∧ ∀ N', (∀ i, i < w.heap.size → N' i → N i) → OwnV N' w' S' (.osl e sz (rows ++ rows2)) v' := by
  obtain ⟨zl, hz1, hz2⟩ := Option.map_eq_some_iff.1 hz
  obtain ⟨i, z, hi, hiz, hzs, _⟩ := hT.zero hz1
  obtain ⟨i', hi', his⟩ := hT.size hsz
  rw [hi] at hi'; cases hi'
  obtain ⟨i', hi', hib⟩ := hT.bytes hby
  rw [hi] at hi'; cases hi'
  have hu := hT.elem he
  have hnm : rows.length + rows2.length ≤ 140737488355328 := Nat.le_trans (Nat.le_mul_of_pos_right _ hb0) hfit
  obtain ⟨G, u, hown, hSb, hrl, hG, hdG, hoG⟩ := own_row hs
  rcases hx with ⟨rfl, rfl⟩ | ⟨ad, cap2, u2, rfl, hsp, hrl2, hc2⟩
  · -- nothing to append
    have hone : v.oneCell' = true := by
      rcases hown.2 with ⟨rfl, _⟩ | ⟨g, cap, cur, rfl, _⟩ <;> rfl
    refine ⟨v, w, ?_, hone, rfl, rfl, rfl, Nat.le_refl _, fun _ _ _ => rfl, S, fun k h => .inl h, fun N' hN => ?_⟩
    · rcases hown.2 with ⟨rfl, h⟩ | ⟨g, cap, cur, rfl, _, _, hc, _⟩
      · simp [Builtin.append_, run_underlying hu, sizeOf, typeInfo, hi, Builtin.lenOf, run_firstCells_none, storeCells]
      · simp [Builtin.append_, run_underlying hu, sizeOf, typeInfo, hi, Builtin.lenOf, hc, run_firstCells_none, storeCells]
    · rw [List.append_nil]
      exact hs.mono (.refl N w) hN (fun _ _ _ => rfl)
  · have hnews : ∀ (j : Nat) x, (flat u2 rows2.length sz)[j]? = some x → w.cell? (ad.add j) = some x := by
      intro k x hk
      obtain ⟨i, j, h1, h2, rfl, rfl⟩ := flat_idx hk
      have hrow : rows2[i]? = some rows2[i] := List.getElem?_eq_getElem h1
      have hlen := hrl2 i _ hrow
      rw [add_none _ _ (hsp (by omega))]
      exact (hc2 i _ j _ hrow (List.getElem?_eq_getElem (by omega))).1
    obtain ⟨v', w', hrun, hown', hgrow, hnil⟩ := run_append_own (P := P) w 0 t ty e i z sz by_ hu hi hiz his hib (by omega) h0 v rows.length _ hown ad rows2.length cap2 (flat u2 rows2.length sz) (flat_length _ _ _) hnews (AddOk.one hc2 hrl2 hcell)
      (by unfold maxLen; omega) hfit (Nat.zero_le _)
    rw [flat_append] at hown'
    have hone : v'.oneCell' = true := by
      rcases hown'.2 with ⟨rfl, _⟩ | ⟨g, cap, cur, rfl, _⟩ <;> rfl
    refine ⟨v', w', hrun, hone, hgrow.os, hgrow.tape, hgrow.output, hgrow.size, fun k hk hS => hgrow.block k hk (fun e => hS (hSb k e.symm)), ?_⟩
    have hnew : ∀ g, v'.ownBlock = some g → g < w'.heap.size := fun g hg => (hown'.lt g hg).2
    let S' : Nat → Prop := fun k => (S k ∧ some k ≠ v.ownBlock ∧ some k ≠ v'.ownBlock) ∨ (S2 k ∧ k < w.heap.size ∧ some k ≠ v'.ownBlock) ∨ some k = v'.ownBlock
    -- where the new block may lie
    by_cases hwhere : ∀ g, v'.ownBlock = some g → v.ownBlock = some g ∨ w.heap.size ≤ g
    · refine ⟨S', fun k hk => ?_, fun N' hN => ?_⟩
      · rcases hk with ⟨h, _, _⟩ | ⟨h, _, _⟩ | h
        · exact .inl h
        · exact .inr (.inl h)
        · rcases hwhere k h.symm with h1 | h1
          · exact .inl (hSb k h1)
          · exact .inr (.inr ⟨h1, hnew k h.symm⟩)
      · have hL : Later N w w' := ⟨hgrow.size, fun k hk hNk => hgrow.block k hk (fun e => hNk (hSN k (hSb k e.symm)).1)⟩
        have hkeepS : ∀ i j k, G i j k → k < w.heap.size → w'.heap[k]? = w.heap[k]? := fun i j k hg hk => hgrow.block k hk (hG i j k hg).2
        have hkeep2 : ∀ i j k, G2 i j k → k < w.heap.size → w'.heap[k]? = w.heap[k]? := fun i j k hg hk => hgrow.block k hk (fun e => hdj k (hSb k e.symm) (hG2 i j k hg).1)
        have hGb : ∀ i j k, G i j k → some k ≠ v'.ownBlock := fun i j k hg e => by
          rcases hwhere k e.symm with h1 | h1
          · exact (hG i j k hg).2 h1.symm
          · have := (hSN k (hG i j k hg).1).2; omega
        have hG2b : ∀ i j k, G2 i j k → some k ≠ v'.ownBlock := fun i j k hg e => by
          rcases hwhere k e.symm with h1 | h1
          · exact hdj k (hSb k h1) (hG2 i j k hg).1
          · have := (hG2 i j k hg).2; omega
        have hlen : (rows ++ rows2).length = rows.length + rows2.length := by simp
        refine own_mk (G := fun i j k => if i < rows.length then G i j k else G2 (i - rows.length) j k) (u := fun i j => if i < rows.length then u i j else u2 (i - rows.length) j) (by rw [hlen]; exact hown') (fun g hg => .inr (.inr hg.symm)) (fun i row hi => ?_) (fun i j k h => ?_) (fun i j i' j' k h h' => ?_) (fun i row j av hi hj => ?_)
        · rw [List.getElem?_append] at hi
          split at hi
          · exact hrl i row hi
          · exact hrl2 _ row hi
        · split at h
          · exact ⟨.inl ⟨(hG i j k h).1, (hG i j k h).2, hGb i j k h⟩, hGb i j k h⟩
          · exact ⟨.inr (.inl ⟨(hG2 _ j k h).1, (hG2 _ j k h).2, hG2b _ j k h⟩), hG2b _ j k h⟩
        · split at h <;> split at h'
          · exact hdG i j i' j' k h h'
          · exact absurd (hG2 _ j' k h').1 (hdj k (hG i j k h).1)
          · exact absurd (hG2 _ j k h).1 (hdj k (hG i' j' k h').1)
          · have := hd2 _ j _ j' k h h'; omega
        · rw [List.getElem?_append] at hi
          split at hi
          · rename_i hlt
            simp only [hlt, if_true]
            exact (hoG i row j av hi hj).mono hL hN (fun k hk hg => hkeepS i j k hg hk)
          · rename_i hlt
            simp only [hlt, if_false]
            exact (hc2 _ row j av hi hj).2.mono hL hN (fun k hk hg => hkeep2 _ j k hg hk)
    · -- it cannot lie elsewhere
      exfalso
      apply hwhere
      intro g hg
      rcases Nat.lt_or_ge g w.heap.size with hlt | hge
      · left
        rcases hown.2 with ⟨rfl, hn0⟩ | ⟨gb, cap, cur, rfl, _, hhb, hn, hm, hs', ht⟩
        · -- nil base: the block is new
          exfalso
          by_cases h00 : rows2.length = 0
          · have := hnil.2 ⟨rfl, h00⟩
            subst this
            simp [Value.ownBlock] at hg
          · have hr2 := run_append_nil (P := P) w t ty e i z hu hi hiz ad rows2.length cap2 (flat u2 rows2.length sz) (by rw [flat_length, his]) hnews (by omega) (by omega) (by rw [hib]; have : rows2.length * by_ ≤ (rows.length + rows2.length) * by_ := Nat.mul_le_mul_right _ (by omega); omega)
            rw [hrun] at hr2
            cases hr2
            simp [Value.ownBlock] at hg
            omega
        · by_cases hroom : rows.length + rows2.length ≤ cap
          · have hle : (rows.length + rows2.length) * sz ≤ cap * sz := Nat.mul_le_mul_right _ hroom
            rw [Nat.add_mul] at hle
            have hr2 := run_append_room (P := P) w t ty e i hu hi gb rows.length cap cur hhb ad rows2.length cap2 (flat u2 rows2.length sz) (by rw [flat_length, his]) hnews (AddOk.one hc2 hrl2 hcell) hroom (by rw [his, flat_length]; omega)
            rw [hrun] at hr2
            cases hr2
            exact hg
          · exfalso
            have hr2 := run_append_grow (P := P) w t ty e i z hu hi hiz ⟨gb, 0, none⟩ rows.length cap (flat u rows.length sz) (by rw [flat_length, his]) (fun j x hj => by
              rw [← ht, List.getElem?_take] at hj
              split at hj
              · rw [add_none _ _ rfl]; simp only [World.cell?, hhb]; simpa using hj
              · cases hj) ad rows2.length cap2 (flat u2 rows2.length sz) (by rw [flat_length, his]) hnews (by omega) (by omega) (growslice_fits (by omega) (by rw [hib]; exact hfit))
            rw [hrun] at hr2
            cases hr2
            simp [Value.ownBlock] at hg
            omega
      · exact .inr hge
end
end Go.Bb
end
section
/-! Slices of the call's own: operations. -/
set_option linter.unusedVariables false
set_option linter.unusedSimpArgs false
namespace Go.Bb

section
variable {P : Program} {T : Tab} {c : Cx} {F : Nat → Nat → Prop} {o : Oper} {σ : St} {K : St → Prop} {N : Nat → Prop} {a : Act} {w : World} {all r : List Oper}
variable {d : Option Tmp} {ty : TypeId} {pos : String} {af : Array Edge} {g : Option (Nat × Bool)}

theorem append_exec {t : TypeId} {x y : Operand} {v : Value} {w' : World} (h : (Builtin.append_ #[t, t] ty #[a.eval x, a.eval y]).run P w = .ok v w') :
    (execOp a.eval ⟨d, .call ⟨.builtin .append, #[x, y], #[t, t]⟩, ty, pos, af, g⟩).run P w = .ok (.value v) w' := by
  simp only [execOp, resolve]
  simp [invoke, builtin, h]

theorem o_appendH (hT : TabOk P T) {t e sz by_ q r k e2 : Nat} {x y : Operand} {v vz : Value} {rows rows2 rows' : List (List AV)} (hx : ∃ n, evA σ x = some (.hd n v)) (hh : getk q σ.heap = some (v, .osl e sz rows)) (hy : ∃ n, evA σ y = some (.hd n vz)) (hh2 : getk r σ.heap = some (vz, .osl e2 sz rows2)) (hqr : (q == r) = false)
    (he : T.elem t = some e) (hsz : T.size e = some sz) (hby : T.bytes e = some by_) (hz : (T.zero e).map List.length = some sz) (h0 : 0 < sz) (hb0 : 0 < by_) (hcell : ∀ row ∈ rows2, cellsOk row = true) (hrows : rows ++ rows2 = rows') (hk : has k (minus σ.heap [q, r]) = false) (hd : dok d σ.nt = true)
    (hfit : (rows.length + rows2.length) * by_ ≤ 140737488355328)
    (hK : ∀ v', K ({ σ with heap := (k, (v', .osl e sz rows')) :: minus σ.heap [q, r] }.put d (.hd k v'))) : OpOk P c ⟨d, .call ⟨.builtin .append, #[x, y], #[t, t]⟩, ty, pos, af, g⟩ σ K := by
  intro F N a w hr next Q hn
  subst hrows
  obtain ⟨n1, hx⟩ := hx
  obtain ⟨n2, hy⟩ := hy
  have h1 := evA_rel hr hx
  have h2 := evA_rel hr hy
  have e1 : a.eval x = v := by generalize a.eval x = z at h1; cases h1; rfl
  have e2 : a.eval y = vz := by generalize a.eval y = z at h2; cases h2; rfl
  have hqk := get_mem_keys hh
  have hrk := get_mem_keys hh2
  have hne : q ≠ r := by simpa using hqr
  obtain ⟨G2, hadd, hGS, hGd⟩ := addOk_own (hr.heap.own r _ _ hh2)
  obtain ⟨v', w', hrun, hone, hos, htp, hout, hsize, hkeep, S', hS', hown⟩ := append_run (ty := ty) hT he hsz hby hz (hr.heap.own q _ _ hh) hadd (S2 := F r) (fun i j k h => ⟨hGS i j k h, (hr.heap.foot r hrk k (hGS i j k h)).2⟩) hGd (fun k hk => hr.heap.disj q r hqk hrk hne k hk) (fun k hk => hr.heap.foot q hqk k hk) (fun k hk => (hr.heap.foot r hrk k hk).1) h0 hb0 hfit hcell
  have := hr.repl [q, r] k (v := v') (av := .osl e sz (rows ++ rows2)) (w' := w') (S := S') hk hos htp hout hsize (fun j hj hF => hkeep j hj (hF q (by simp) hqk)) (fun b hb => by
    rcases hS' b hb with h | h | h
    · exact .inl ⟨q, by simp, hqk, h⟩
    · exact .inl ⟨r, by simp, hrk, h⟩
    · exact .inr h) hone hown
  unfold Oper.wp
  rw [append_exec (by rw [e1, e2]; exact hrun)]
  exact hn _ _ _ _ _ (hK v') (this.put (dok_ok hd) (.hd _ _ hone))

theorem o_appendS {z : Bool} (hT : TabOk P T) {t e sz by_ q k : Nat} {x y : Operand} {v : Value} {rows rows2 rows' : List (List AV)} (hx : ∃ n, evA σ x = some (.hd n v)) (hh : getk q σ.heap = some (v, .osl e sz rows)) (hy : evA σ y = some (.sl z rows2))
    (he : T.elem t = some e) (hsz : T.size e = some sz) (hby : T.bytes e = some by_) (hz : (T.zero e).map List.length = some sz) (h0 : 0 < sz) (hb0 : 0 < by_) (hlen : ∀ row ∈ rows2, row.length = sz) (hcell : ∀ row ∈ rows2, cellsOk row = true) (hrows : rows ++ rows2 = rows') (hk : has k (minus σ.heap [q]) = false) (hd : dok d σ.nt = true)
    (hfit : (rows.length + rows2.length) * by_ ≤ 140737488355328)
    (hK : ∀ v', K ({ σ with heap := (k, (v', .osl e sz rows')) :: minus σ.heap [q] }.put d (.hd k v'))) : OpOk P c ⟨d, .call ⟨.builtin .append, #[x, y], #[t, t]⟩, ty, pos, af, g⟩ σ K := by
  intro F N a w hr next Q hn
  subst hrows
  obtain ⟨n1, hx⟩ := hx
  have h1 := evA_rel hr hx
  have h2 := evA_rel hr hy
  have e1 : a.eval x = v := by generalize a.eval x = z at h1; cases h1; rfl
  have hqk := get_mem_keys hh
  obtain ⟨v', w', hrun, hone, hos, htp, hout, hsize, hkeep, S', hS', hown⟩ := append_run (ty := ty) hT he hsz hby hz (hr.heap.own q _ _ hh) (addOk_sl h2 (fun i row hi => hlen row (List.mem_of_getElem? hi))) (S2 := fun _ => False) (fun i j k h => h.elim) (fun _ _ _ _ _ h => h.elim) (fun k hk h => h) (fun k hk => hr.heap.foot q hqk k hk) (fun k hk => hk.elim) h0 hb0 hfit hcell
  have := hr.repl [q] k (v := v') (av := .osl e sz (rows ++ rows2)) (w' := w') (S := S') hk hos htp hout hsize (fun j hj hF => hkeep j hj (hF q (by simp) hqk)) (fun b hb => by
    rcases hS' b hb with h | h | h
    · exact .inl ⟨q, by simp, hqk, h⟩
    · exact h.elim
    · exact .inr h) hone hown
  unfold Oper.wp
  rw [append_exec (by rw [e1]; exact hrun)]
  exact hn _ _ _ _ _ (hK v') (this.put (dok_ok hd) (.hd _ _ hone))

/-- A slice of the call's own in a new block. -/
theorem own_new {N' : Nat → Prop} {w' : World} {b cap : Nat} {t sz : Nat} {arr : Array Value} {rows : List (List AV)} (hh : w'.heap[b]? = some (.cells arr t (0, 0))) (hs : arr.size = cap * sz) (hl : rows.length ≤ cap) (hm : cap ≤ maxLen) (hr : ∀ (i : Nat) row, rows[i]? = some row → row.length = sz)
    (hc : ∀ (i : Nat) row (j : Nat) av, rows[i]? = some row → row[j]? = some av → ∃ u, arr[i * sz + j]? = some u ∧ RelV N' w' av u) : OwnV N' w' (fun k => k = b) (.osl t sz rows) (.slice (some ⟨b, 0, none⟩) rows.length cap) := by
  refine .osl _ t sz rows b cap arr (fun _ _ _ => False) (fun i j => (arr[i * sz + j]?).getD undef) rfl hh hs hl hm hr (fun _ _ _ h => h.elim) (fun _ _ _ _ _ h => h.elim) (fun i row j av hi hj => ?_) (fun i row j av hi hj => ?_)
  · obtain ⟨u, h1, h2⟩ := hc i row j av hi hj
    rw [h1]; rfl
  · obtain ⟨u, h1, h2⟩ := hc i row j av hi hj
    rw [h1]; exact .frz _ _ _ h2

theorem o_buildSlice (hT : TabOk P T) {t e n len k : Nat} {parts : Array (Nat × Operand)} {ps : List (Nat × AV)} {cs : List AV} {rows : List (List AV)} (he : T.elem t = some e) (hn : T.size e = some n) (hps : evParts σ parts.toList = some ps) (hcs : rowsLit n 0 ps = some cs) (h1 : ps.length = len) (h2 : cellsOk cs = true) (h3 : 0 < n) (h4 : len * n ≤ 2 ^ 24)
    (h5 : (T.zero e).map List.length = some n) (hrows : rowsC rows = cs) (hrl : rows.all (fun r => r.length == n) = true) (hlen : rows.length = len) (hk : has k σ.heap = false) (hd : dok d σ.nt = true)
    (hK : ∀ v', K ({ σ with heap := (k, (v', .osl e n rows)) :: σ.heap }.put d (.hd k v'))) : OpOk P c ⟨d, .buildSlice t len parts, ty, pos, af, g⟩ σ K := by
  intro F N a w hr next Q hnx
  obtain ⟨cells, h8, h9, h10⟩ := run_buildSlice hT hr he hn hps hcs h1 h2 h3 h4 h5
  have hrl' : ∀ r ∈ rows, r.length = n := fun r hr => by simpa using List.all_eq_true.1 hrl r hr
  obtain ⟨_, hfl⟩ := rowsC_get rows hrl'
  have hle : len ≤ maxLen := by
    have : len ≤ len * n := Nat.le_mul_of_pos_right _ h3
    unfold maxLen; omega
  subst hlen
  obtain ⟨F', N', hra⟩ := hr.alloc k (v := .slice (some ⟨w.heap.size, 0, none⟩) rows.length rows.length) (av := .osl e n rows) (ob := .cells cells e) hk rfl (fun N' hN => own_new (heap_new w _) h9.1 (Nat.le_refl _) hle (fun i row hi => hrl' row (List.mem_of_getElem? hi)) (fun i row j av hi hj => by
    have hj' : j < n := by
      rw [← hrl' row (List.mem_of_getElem? hi)]
      rcases Nat.lt_or_ge j row.length with h' | h'
      · exact h'
      · rw [List.getElem?_eq_none h'] at hj; cases hj
    have := hfl i row j hi hj'
    rw [hrows, hj] at this
    obtain ⟨u, h11, h12⟩ := h10 _ av this
    exact ⟨u, h11, h12.mono (later_alloc (N' := N) w _) hN⟩))
  unfold Oper.wp
  have hrun : (execOp a.eval ⟨d, .buildSlice t rows.length parts, ty, pos, af, g⟩).run P w = .ok (.value (.slice (some ⟨w.heap.size, 0, none⟩) rows.length rows.length)) (w.alloc (.cells cells e)) := by
    simp [execOp, h8]
  rw [hrun]
  exact hnx _ F' N' _ _ (hK _) (hra.put (dok_ok hd) (.hd _ _ rfl))

theorem o_makeSlice (hT : TabOk P T) {t e sz by_ k : Nat} {x y : Operand} {k1 k2 : IntKind} {n : Int} {z z' : List AV} (he : T.elem t = some e) (hsz : T.size e = some sz) (hby : T.bytes e = some by_) (hz : T.zero e = some z) (hx : evA σ x = some (.int k1 n)) (hy : evA σ y = some (.int k2 n)) (h4 : z.length = sz) (h5 : 0 < sz)
    (hk : has k σ.heap = false) (hd : dok d σ.nt = true) (h1 : 0 ≤ n) (h2 : by_ * n ≤ 281474976710656) (h3 : n ≤ 9223372036854775807) (hzw : WkL [] z' z)
    (hK : ∀ v', K ({ σ with heap := (k, (v', .osl e sz (List.replicate n.toNat z'))) :: σ.heap }.put d (.hd k v'))) : OpOk P c ⟨d, .makeSlice t x y, ty, pos, af, g⟩ σ K := by
  intro F N a w hr next Q hnx
  have hp := evA_rel hr hx
  have hp' := evA_rel hr hy
  generalize hv : a.eval x = vx at hp
  generalize hv' : a.eval y = vy at hp'
  cases hp; cases hp'
  obtain ⟨i, zv, hi, hiz, hzs, hzr⟩ := hT.zero hz
  obtain ⟨i', hi', hib⟩ := hT.bytes hby
  rw [hi] at hi'; cases hi'
  obtain ⟨i', hi', his⟩ := hT.size hsz
  rw [hi] at hi'; cases hi'
  let arr : Array Value := (Array.range (n.toNat * sz)).map (fun j => zv.cells[j % zv.cells.size]!)
  have hzsz : zv.cells.size = sz := by omega
  obtain ⟨F', N', hra⟩ := hr.alloc k (v := .slice (some ⟨w.heap.size, 0, none⟩) n.toNat n.toNat) (av := .osl e sz (List.replicate n.toNat z')) (ob := .cells arr e) hk rfl (fun N' hN => by
    have := own_new (N' := N') (rows := List.replicate n.toNat z') (sz := sz) (cap := n.toNat) (heap_new w (.cells arr e)) (by simp [arr]) (by simp) (by unfold maxLen; omega) (fun i row hi => by rw [(List.mem_replicate.1 (List.mem_of_getElem? hi)).2, hzw.get.1]; exact h4) (fun i row j av hi hj => by
      have hrow : row = z' := (List.mem_replicate.1 (List.mem_of_getElem? hi)).2
      subst hrow
      have hj' : j < sz := by
        rw [← h4, ← hzw.get.1]
        rcases Nat.lt_or_ge j row.length with h' | h'
        · exact h'
        · rw [List.getElem?_eq_none h'] at hj; cases hj
      have hi' : i < n.toNat := by
        rcases Nat.lt_or_ge i (List.replicate n.toNat row).length with h' | h'
        · simpa using h'
        · rw [List.getElem?_eq_none h'] at hi; cases hi
      obtain ⟨av0, hj0, hwk⟩ := hzw.get.2 j av hj
      obtain ⟨v, h10, h11⟩ := hzr N' (w.alloc (.cells arr e)) j av0 hj0
      refine ⟨v, ?_, hwk.rel (fun _ _ h => by cases h) h11⟩
      have h6 : i * sz + j < n.toNat * sz := by
        have : (i + 1) * sz ≤ n.toNat * sz := Nat.mul_le_mul_right _ hi'
        rw [Nat.add_mul, Nat.one_mul] at this; omega
      have h7 : (i * sz + j) % sz = j := by rw [Nat.mul_comm, Nat.mul_add_mod, Nat.mod_eq_of_lt hj']
      simp only [arr, Array.getElem?_map, Array.getElem?_range, h6, if_true, Option.map_some, hzsz, h7]
      simp only [getElem!_def, h10])
    simpa using this)
  have hw : IntKind.i64.wrap n = n := IntWalk.i64_in n ⟨by omega, by omega⟩
  have hb : ¬ (281474976710656 < (i.bytes : Int) * n) := by rw [hib]; omega
  have hrun : (Instr.makeSlice t (.int k1 n) (.int k2 n)).run P w = .ok (.slice (some ⟨w.heap.size, 0, none⟩) n.toNat n.toNat) (w.alloc (.cells arr e)) := by
    have hn0 : ¬ (n < 0) := by omega
    by_cases h0 : n.toNat * sz = 0
    · have hr0 : Array.range 0 = #[] := rfl
      have harr : arr = #[] := by simp only [arr, h0, hr0, Array.map_empty]
      rw [harr]
      simp [Instr.makeSlice, run_underlying (hT.elem he), asInt, asIntOf, typeInfo, sizeOf, hi, hw, hn0, hb, his, h0, newRow, zeroValue, hr0]
    · simp [Instr.makeSlice, run_underlying (hT.elem he), asInt, asIntOf, typeInfo, sizeOf, hi, hw, hn0, hb, his, h0, newRow, zeroValue, hiz, arr]
  unfold Oper.wp
  have hrun' : (execOp a.eval ⟨d, .makeSlice t x y, ty, pos, af, g⟩).run P w = .ok (.value (.slice (some ⟨w.heap.size, 0, none⟩) n.toNat n.toNat)) (w.alloc (.cells arr e)) := by
    simp only [execOp, hv, hv']
    simp [hrun]
  rw [hrun']
  exact hnx _ F' N' _ _ (hK _) (hra.put (dok_ok hd) (.hd _ _ rfl))

/-- The first elements of what is owned. -/
theorem o_sliceH (hT : TabOk P T) {t e sz q k : Nat} {x : Operand} {lo hi : Option Operand} {v : Value} {rows rows' : List (List AV)} {j : Int} {jj : Option Int} (hx : ∃ n, evA σ x = some (.hd n v)) (hh : getk q σ.heap = some (v, .osl e sz rows)) (he : T.elem t = some e) (hsz : T.size e = some sz) (hlo : loA σ lo = some 0) (hhi : hiA σ hi = some jj) (hjj : jj.getD rows.length = j)
    (hm : rows.take j.toNat = rows') (hk : has k (minus σ.heap [q]) = false) (hd : dok d σ.nt = true) (h0 : 0 ≤ j) (h1 : j ≤ rows.length)
    (hK : ∀ v', K ({ σ with heap := (k, (v', .osl e sz rows')) :: minus σ.heap [q] }.put d (.hd k v'))) : OpOk P c ⟨d, .slice t x lo hi none, ty, pos, af, g⟩ σ K := by
  intro F N a w hr next Q hnx
  obtain ⟨n1, hx⟩ := hx
  have hv := evA_rel hr hx
  have e1 : a.eval x = v := by generalize a.eval x = z at hv; cases hv; rfl
  have hqk := get_mem_keys hh
  have ho := hr.heap.own q _ _ hh
  have step : ∀ v', v'.oneCell' = true → (execOp a.eval ⟨d, .slice t x lo hi none, ty, pos, af, g⟩).run P w = .ok (.value v') w → (∀ N', (∀ i, i < w.heap.size → N' i → N i) → OwnV N' w (F q) (.osl e sz rows') v') → Oper.wp P ⟨d, .slice t x lo hi none, ty, pos, af, g⟩ a w next Q := by
    intro v' hone hrun hown
    have := hr.repl [q] k (v := v') (av := .osl e sz rows') (w' := w) (S := F q) hk rfl rfl rfl (Nat.le_refl _) (fun _ _ _ => rfl) (fun b hb => .inl ⟨q, by simp, hqk, hb⟩) hone hown
    unfold Oper.wp
    rw [hrun]
    exact hnx _ _ _ _ _ (hK v') (this.put (dok_ok hd) (.hd _ _ hone))
  cases ho with
  | frz _ _ _ h => cases h
  | osl0 =>
    have hj0 : j = 0 := by simp at h1; omega
    subst hj0
    simp only [List.length_nil] at hjj
    have hb := fun w' => run_bounds (P := P) hr hlo hhi (len := 0) (Nat.le_refl 0) (b := true) (Int.le_refl 0) (by rw [hjj]; omega) (by rw [hjj]; omega) w'
    rw [hjj] at hb
    refine step nilV rfl ?_ (fun N' hN => by subst hm; exact .osl0 _ _ _)
    simp only [execOp, e1, Instr.sliceAt]
    simp only [Sem.run_bind, run_underlying (hT.elem he), Result.andThen_ok, Instr.slice, Option.map_none, hb, run_size hT hsz, Sem.run_pure]
    rfl
  | osl _ _ _ _ b cap arr G u hb hhb hsz' hl hm' hrl hG hdj hc ho =>
    have hbd := fun w' => run_bounds (P := P) hr hlo hhi (len := rows.length) hl (b := true) (Int.le_refl 0) (by rw [hjj]; exact h0) (by rw [hjj]; exact h1) w'
    rw [hjj] at hbd
    have hlen : (rows.take j.toNat).length = j.toNat := by simp; omega
    have hrun : (execOp a.eval ⟨d, .slice t x lo hi none, ty, pos, af, g⟩).run P w = .ok (.value (.slice (some ⟨b, 0, none⟩) j.toNat cap)) w := by
      simp only [execOp, e1, Instr.sliceAt]
      simp only [Sem.run_bind, run_underlying (hT.elem he), Result.andThen_ok, Instr.slice, Option.map_none, hbd, run_size hT hsz, Sem.run_pure]
      simp
      intro _
      rw [add_none _ _ rfl]
    refine step _ rfl hrun (fun N' hN => ?_)
    subst hm
    have := OwnV.osl (N := N') (w := w) (F q) e sz (rows.take j.toNat) b cap arr G u hb hhb hsz' (by rw [hlen]; omega) hm' (fun i row hi => by rw [List.getElem?_take] at hi; split at hi; exact hrl i row hi; cases hi) hG hdj (fun i row p av hi hp => by rw [List.getElem?_take] at hi; split at hi; exact hc i row p av hi hp; cases hi)
      (fun i row p av hi hp => by rw [List.getElem?_take] at hi; split at hi; exact (ho i row p av hi hp).mono (.refl N w) hN (fun _ _ _ => rfl); cases hi)
    rw [hlen] at this
    exact this

/-- A byte, as an element. -/
def encB (b : UInt8) : List AV := [.int .u8 b.toNat]
theorem strOfNums_map (l : List UInt8) : strOfNums (l.map fun b => (b.toNat : Int)) = ⟨l.toArray⟩ := by
  apply ByteArray.ext
  apply Array.ext'
  simp [strOfNums]
  rw [List.map_congr_left (g := id) (fun b _ => by simp)]; simp
theorem bytes_run (hT : TabOk P T) {s t e : TypeId} (he : T.elem s = some e) (hk : T.kind e = some (.int .u8)) (ht : T.kind t = some .string) {l : List UInt8} {v : Value} {w : World}
    (hv : (v = nilV ∧ l = []) ∨ (∃ ad cap, v = .slice (some ad) 0 cap ∧ l = []) ∨ ∃ b off cap, v = .slice (some ⟨b, off, none⟩) l.length cap ∧ ∀ (i : Nat) x, l[i]? = some x → w.cell? ⟨b, off + i, none⟩ = some (.int .u8 x.toNat)) : (convert s t v).run P w = .ok (.string ⟨l.toArray⟩) w := by
  obtain ⟨d1, h1, h1'⟩ := hT.kind hk
  have hd1 : d1 = .int .u8 := by cases d1 <;> simp [shOf] at h1' <;> rw [h1']
  subst hd1
  obtain ⟨d2, h2, h2'⟩ := hT.kind ht
  have hd2 : d2 = .string := by cases d2 <;> simp [shOf] at h2' <;> rfl
  subst hd2
  rcases hv with ⟨rfl, rfl⟩ | ⟨ad, cap, rfl, rfl⟩ | ⟨b, off, cap, rfl, hc⟩
  · rw [run_convert_bytes_nil w s e (hT.elem he) h1 0 0 t h2]
    rfl
  · rw [run_convert_bytes_string w s t e _ 0 cap (hT.elem he) h1 h2, run_bytesToString w ad 0 cap [] (by simpa using run_loadCells_list (P := P) w ad [] (fun j v h => by simp at h))]
    rfl
  · rw [run_convert_bytes_arg w s e (hT.elem he) h1 b off l.length cap (l.map fun b => (b.toNat : Int)) (by simp) (fun i hi => by rw [hc i l[i] (List.getElem?_eq_getElem hi)]; simp [List.getD, hi]) t h2, strOfNums_map]
theorem v_bytesL {z : Bool} (hT : TabOk P T) {s t e : TypeId} {x : Operand} {l : List UInt8} (hx : evA σ x = some (.sl z (l.map encB))) (he : T.elem s = some e) (hk : T.kind e = some (.int .u8)) (ht : T.kind t = some .string) (hd : dok d σ.nt = true) (hK : K (σ.put d (.str l))) : ValOk P c ⟨d, .convert s t x, ty, pos, af, g⟩ σ K :=
  mkV hd hK fun F N a w hr => by
    have hp := evA_rel hr hx
    have hlen := hp.len
    generalize hv : a.eval x = vx at hp
    refine ⟨.string ⟨l.toArray⟩, .str _ (by simpa using hlen), fun w' hw => ?_⟩
    have : (convert s t vx).run P w' = .ok (.string ⟨l.toArray⟩) w' := bytes_run hT he hk ht (by
      generalize hrows : l.map encB = rows at hp
      cases hp with
      | slNil => exact .inl ⟨rfl, by simpa using hrows⟩
      | sl _ _ ad cap sz u hs hc hm h1 h2 h3 h4 =>
        rcases Nat.eq_zero_or_pos rows.length with h0 | h0
        · have hl0 : l = [] := by
            have : rows = [] := List.eq_nil_of_length_eq_zero h0
            rw [this] at hrows; simpa using hrows
          subst hl0
          simp at hrows
          subst hrows
          exact .inr (.inl ⟨ad, cap, rfl, rfl⟩)
        · obtain ⟨b, off, sp⟩ := ad
          have hsp := hs h0
          simp only at hsp; subst hsp
          refine .inr (.inr ⟨b, off, cap, by rw [← hrows]; simp, fun i x hi => ?_⟩)
          have hrow : rows[i]? = some (encB x) := by rw [← hrows, List.getElem?_map, hi]; rfl
          have hsz := h1 i _ hrow
          have h4 := h2 i _ 0 _ hrow rfl
          have h5 := h3 i _ 0 _ hrow rfl
          have e1 : sz = 1 := by rw [← hsz]; rfl
          subst e1
          cases h5u : u i 0 with
          | int k n =>
            rw [h5u] at h5
            cases h5
            have := hw.cell h4.2
            rw [h5u] at this
            simpa using this
          | _ => rw [h5u] at h5; cases h5)
    simp [execOp, hv, this]
theorem v_bytesH (hT : TabOk P T) {s t e q e' sz : TypeId} {x : Operand} {v : Value} {l : List UInt8} (hx : ∃ n, evA σ x = some (.hd n v)) (hh : getk q σ.heap = some (v, .osl e' sz (l.map encB))) (he : T.elem s = some e) (hk : T.kind e = some (.int .u8)) (ht : T.kind t = some .string) (hd : dok d σ.nt = true) (hK : K (σ.put d (.str l))) : ValOk P c ⟨d, .convert s t x, ty, pos, af, g⟩ σ K :=
  mkV hd hK fun F N a w hr => by
    obtain ⟨n, hx⟩ := hx
    have hv := evA_rel hr hx
    have e1 : a.eval x = v := by generalize a.eval x = z at hv; cases hv; rfl
    have ho := hr.heap.own q _ _ hh
    have hlen : l.length ≤ maxLen := by
      generalize hrows : l.map encB = rows at ho
      have hll : rows.length = l.length := by rw [← hrows]; simp
      cases ho with
      | frz _ _ _ h => cases h
      | osl0 => simp at hll; omega
      | osl _ _ _ _ b cap arr G u hb hhb hsz hl hm => omega
    refine ⟨.string ⟨l.toArray⟩, .str _ hlen, fun w' hw => ?_⟩
    have : (convert s t v).run P w' = .ok (.string ⟨l.toArray⟩) w' := bytes_run hT he hk ht (by
      generalize hrows : l.map encB = rows at ho
      cases ho with
      | frz _ _ _ h => cases h
      | osl0 => exact .inl ⟨rfl, by simpa using hrows⟩
      | osl _ _ _ _ b cap arr G u hb hhb hsz hl hm h1 hG hdj hcc hoo =>
        refine .inr (.inr ⟨b, 0, cap, by rw [← hrows]; simp, fun i x hi => ?_⟩)
        have hrow : rows[i]? = some (encB x) := by rw [← hrows, List.getElem?_map, hi]; rfl
        have hsz' := h1 i _ hrow
        have h4 := hcc i _ 0 _ hrow rfl
        have h5 := hoo i _ 0 _ hrow rfl
        have e1 : sz = 1 := by rw [← hsz']; rfl
        subst e1
        have hcell : w.cell? ⟨b, 0 + i, none⟩ = some (u i 0) := by simp only [World.cell?, hhb]; simpa using h4
        generalize u i 0 = ui at h5 hcell
        cases h5 with
        | frz _ _ _ h5 => cases h5; exact hw.cell hcell)
    simp [execOp, e1, this]
end
end Go.Bb
end
section
/-! Calls, functions. -/
set_option linter.unusedVariables false
set_option linter.unusedSimpArgs false
namespace Go.Bb

/-- It looks into no memory. -/
inductive Scal : AV → Prop
  | int (k : IntKind) (n : Int) : Scal (.int k n)
  | bool (b : Bool) : Scal (.bool b)
  | str (l : List UInt8) : Scal (.str l)
  | raw (v : Value) : Scal (.raw v)
  | hd (x : Nat) (v : Value) : Scal (.hd x v)
  | ptr (x b off : Nat) : Scal (.ptr x b off)
  | rptr (x : Nat) (v : Value) (sz i off : Nat) : Scal (.rptr x v sz i off)
  | nil : Scal .nil
  | und : Scal .und
  | sl0 (z : Bool) : Scal (.sl z [])
  | agg (cs : List AV) (h : ∀ av ∈ cs, Scal av) : Scal (.agg cs)
  | tup (cs : List AV) (h : ∀ av ∈ cs, Scal av) : Scal (.tup cs)
  | ifc (t : TypeId) (av : AV) (h : Scal av) : Scal (.ifc t av)

theorem Scal.rel {N N' : Nat → Prop} {w w' : World} {av : AV} (hs : Scal av) : ∀ {v : Value}, RelV N w av v → RelV N' w' av v := by
  induction hs with
  | int k n => intro v h; cases h; exact .int _ _
  | bool b => intro v h; cases h; exact .bool _
  | str l => intro v h; cases h; exact .str _ (by assumption)
  | raw v => intro v h; cases h; exact .raw _ (by assumption)
  | hd x v => intro v h; cases h; exact .hd _ _ (by assumption)
  | ptr x b off => intro v h; cases h; exact .ptr _ _ _
  | rptr x v sz i off => intro v h; cases h; exact .rptr _ _ _ _ _ _ _
  | nil => intro v h; cases h; exact .nil
  | und => intro v h; cases h; exact .und
  | sl0 z =>
    intro v h
    generalize hr : ([] : List (List AV)) = rows at h
    cases h with
    | slNil => exact .slNil _
    | sl _ _ a cap sz u hs hc hm h1 h2 h3 h4 => subst hr; exact .sl _ [] a cap sz u hs hc hm (fun i row h => by simp at h) (fun i row j av h => by simp at h) (fun i row j av h => by simp at h) (fun _ i row j av h => by simp at h)
  | agg cs h ih =>
    intro v hv
    cases hv with
    | agg _ vs hl hh => exact .agg _ _ hl (fun i av v h1 h2 => ih av (List.mem_of_getElem? h1) (hh i av v h1 h2))
  | tup cs h ih =>
    intro v hv
    cases hv with
    | tup _ vs hl hh => exact .tup _ _ hl (fun i av v h1 h2 => ih av (List.mem_of_getElem? h1) (hh i av v h1 h2))
  | ifc t av h ih => intro v hv; cases hv with | ifc _ _ _ hh => exact .ifc _ _ _ (ih hh)

/-- It looks into no memory but its own. -/
inductive Cln : AV → Prop
  | scal (av : AV) (h : Scal av) : Cln av
  | osl (t : TypeId) (sz : Nat) (rows : List (List AV)) (h : ∀ row ∈ rows, ∀ av ∈ row, Cln av) : Cln (.osl t sz rows)
  | optr (t : TypeId) (cs : List AV) (h : ∀ av ∈ cs, Cln av) : Cln (.optr t cs)

theorem Cln.own {N N' : Nat → Prop} {w : World} {av : AV} (hs : Cln av) : ∀ {S : Nat → Prop} {v : Value}, OwnV N w S av v → OwnV N' w S av v := by
  induction hs with
  | scal av h =>
    intro S v hv
    cases hv with
    | frz _ _ _ hh => exact .frz _ _ _ (h.rel hh)
    | osl0 => cases h
    | osl => cases h
    | optr => cases h
    | omp => cases h
  | osl t sz rows h ih =>
    intro S v hv
    cases hv with
    | frz _ _ _ hh => cases hh
    | osl0 => exact .osl0 _ _ _
    | osl _ _ _ _ b cap arr G u hb hh hsz hl hm hr hG hd hc ho => exact .osl _ _ _ _ b cap arr G u hb hh hsz hl hm hr hG hd hc (fun i row j av h1 h2 => ih row (List.mem_of_getElem? h1) av (List.mem_of_getElem? h2) (ho i row j av h1 h2))
  | optr t cs h ih =>
    intro S v hv
    cases hv with
    | frz _ _ _ hh => cases hh
    | optr _ _ _ b arr G u hb hh hsz hG hd hc ho => exact .optr _ _ _ b arr G u hb hh hsz hG hd hc (fun j av h1 => ih av (List.mem_of_getElem? h1) (ho j av h1))

/-- A function that may be entered. -/
def Ent (P : Program) (f : FuncId) : Prop := ∃ fn, P.funcs[f]? = some fn ∧ fn.body.isNone = false ∧ (fn.name == "runtime.NumGoroutine") = false

def RelVs (N : Nat → Prop) (w : World) (avs : List AV) (vs : Array Value) : Prop := vs.size = avs.length ∧ ∀ (i : Nat) av v, avs[i]? = some av → vs[i]? = some v → RelV N w av v

/-- What a call comes to: of arguments 'avs', with what it is handed to write on, 'hs': a result and what it hands back to write on, as R says; all else is as it was. -/
def Does (P : Program) (f : FuncId) (avs : List AV) (hs : HP) (R : AV → HP → Prop) : Prop :=
  Ent P f ∧ ∀ F N w vs, RelVs N w avs vs → HOk N F w hs →
    Calls P f vs w fun e w' => ∃ v r h' F' N', e = .returned v ∧ R r h' ∧ RelV N' w' r v ∧ HOk N' F' w' h' ∧
      (∀ x, x ∈ keys h' → ∀ b, F' x b → (∃ y, y ∈ keys hs ∧ F y b) ∨ w.heap.size ≤ b) ∧
      (∀ k, k < w.heap.size → N' k → N k) ∧ (∀ k, k < w.heap.size → N k → N' k ∨ ∃ y, y ∈ keys hs ∧ F y k) ∧ Unch (fun k => ∃ y, y ∈ keys hs ∧ F y k) w w'

section
variable {P : Program} {T : Tab} {c : Cx} {F : Nat → Nat → Prop} {o : Oper} {σ : St} {K : St → Prop} {N : Nat → Prop} {a : Act} {w : World} {all r : List Oper}
variable {d : Option Tmp} {ty : TypeId} {pos : String} {af : Array Edge} {g : Option (Nat × Bool)}

theorem Does.mono {f : FuncId} {avs : List AV} {hs : HP} {R R' : AV → HP → Prop} (h : Does P f avs hs R) (hR : ∀ r h', R r h' → R' r h') : Does P f avs hs R' :=
  ⟨h.1, fun F N w vs h1 h2 => (h.2 F N w vs h1 h2).mono fun e w' ⟨v, r, h', F', N', h3, h4, h5⟩ => ⟨v, r, h', F', N', h3, hR _ _ h4, h5⟩⟩

theorem run_call {f : FuncId} (he : Ent P f) (args : Array Value) (w : World) : (callFunc f args).run P w = .ok (.enter f args) w := by
  obtain ⟨fn, h1, h2, h3⟩ := he
  unfold callFunc
  have h4 : ¬ ((fn.name == "runtime.NumGoroutine") = true) := by rw [h3]; simp
  have h5 : ¬ (fn.body.isNone = true) := by rw [h2]; simp
  simp only [Sem.run_bind, run_program, Result.andThen_ok, h1, if_neg h4, if_neg h5]
  rfl

/-- What a call comes to: it enters this function with these arguments. -/
def Core (P : Program) (c : Cx) (σ : St) (o : Oper) (f : FuncId) (avs : List AV) : Prop :=
  Ent P f → ∀ F N a w, Rel c F N σ a w → ∃ args, (∀ w', (execOp a.eval o).run P w' = .ok (.enter f args) w') ∧ ∀ F' N' w', Rel c F' N' σ a w' → RelVs N' w' avs args

theorem core_value {f : FuncId} {avs caps : List AV} {x : Operand} {args : Array Operand} {at_ : Array TypeId} (hx : evA σ x = some (.clo (.func f) caps)) (ha : evAs σ args.toList = some avs) : Core P c σ ⟨d, .call ⟨.value x, args, at_⟩, ty, pos, af, g⟩ f (avs ++ caps) := by
  intro he F N a w hr
  have hv := evA_rel hr hx
  generalize hav : a.eval x = v at hv
  cases hv with
  | clo fn caps' vs hl hc =>
    refine ⟨args.map a.eval ++ vs, fun w' => ?_, fun F' N' w' hr' => ?_⟩
    · simp [execOp, resolve, Deferred.ofValue, hav, invoke, run_call he]
    · have hv' := evA_rel hr' hx
      rw [hav] at hv'
      cases hv' with
      | clo fn caps' vs hl hc =>
        obtain ⟨hl2, hargs⟩ := evAs_rel hr' _ ha
        refine ⟨by simp [hl, hl2], fun i av v h1 h2 => ?_⟩
        rcases Nat.lt_or_ge i avs.length with h3 | h3
        · rw [List.getElem?_append_left h3] at h1
          have h4 : i < args.size := by simpa using (by omega : i < args.toList.length)
          rw [Array.getElem?_append_left (by simpa using h4)] at h2
          have h5 : args.toList[i]? = some args[i] := by simp [h4]
          have h6 : v = a.eval args[i] := by simp [h4] at h2; exact h2.symm
          rw [h6]; exact hargs i av _ h1 h5
        · rw [List.getElem?_append_right h3] at h1
          have h4 : args.size ≤ i := by simpa using (by omega : args.toList.length ≤ i)
          rw [Array.getElem?_append_right (by simpa using h4)] at h2
          have h5 : args.size = avs.length := by simpa using hl2.symm
          simp only [Array.size_map, h5] at h2
          exact hc _ av v h1 h2

theorem core_invoke (hT : TabOk P T) {f : FuncId} {avs : List AV} {args : Array Operand} {at_ : Array TypeId} {x : Operand} {name : String} {u : TypeId} {v : AV} {sh : Sh} (hx : evA σ x = some (.ifc u v)) (ha : evAs σ args.toList = some avs)
    (hm : T.meth u name = some f) (hkd : T.kind u = some sh) (hk0 : (match sh with | .ptr _ | .other => false | _ => true) = true) : Core P c σ ⟨d, .call ⟨.invoke x name, args, at_⟩, ty, pos, af, g⟩ f (v :: avs) := by
  intro he F N a w hr
  obtain ⟨n, m, h1, h2, h3, h4⟩ := hT.meth hm
  obtain ⟨dd, hd, hd'⟩ := hT.kind hkd
  have hv := evA_rel hr hx
  generalize hav : a.eval x = y at hv
  cases hv with
  | ifc _ _ v' hv' =>
    refine ⟨#[v'] ++ args.map a.eval, fun w' => ?_, fun F' N' w' hr' => ?_⟩
    · have e0 : (#[Value.iface u v'] ++ Array.map a.eval args)[0]? = some (.iface u v') := by rw [Array.getElem?_append_left (by simp)]; rfl
      have hpos : 0 < Made.depth := by decide
      obtain ⟨k, hk⟩ : ∃ k, P.types.size + Made.depth = k + 1 := ⟨P.types.size + (Made.depth - 1), by omega⟩
      have hmeth : ∀ w, (method (k + 1) u v' name).run P w = .ok (f, v') w := by
        intro w
        simp [method, typeInfo, h1, h2, h3, h4, follow, receiverAt, Sem.run_bind, run_underlying hd]
        cases dd <;> first | (simp [shOf] at hd'; subst hd'; simp at hk0; done) | simp [Place.get]
      simp [execOp, resolve, hav, invoke, callMethod, e0]
      simp [Sem.run_bind, hk, hmeth, run_call he]
      have e1 : args.size = (Array.map a.eval args).size := by simp
      rw [e1, Array.extract_size]
    · have hv2 := evA_rel hr' hx
      rw [hav] at hv2
      cases hv2 with
      | ifc _ _ _ hv2 =>
        obtain ⟨hl2, hargs⟩ := evAs_rel hr' _ ha
        have hl3 : args.size = avs.length := by simpa using hl2.symm
        refine ⟨by simp [hl3]; omega, fun i av v h1 h2 => ?_⟩
        cases i with
        | zero =>
          rw [Array.getElem?_append_left (by simp)] at h2
          cases h1; cases h2; exact hv2
        | succ i =>
          simp only [List.getElem?_cons_succ] at h1
          rw [Array.getElem?_append_right (by simp)] at h2
          simp only [List.size_toArray, List.length_cons, List.length_nil, Nat.zero_add, Nat.add_sub_cancel, Array.getElem?_map, Option.map_eq_some_iff] at h2
          obtain ⟨x, h3, rfl⟩ := h2
          exact hargs i av x h1 (by simpa using h3)

/-! What is handed over -/
def wsrc (s : HP) : List Nat → HP → Prop
  | [], [] => True
  | y :: ys, (_, (v, o)) :: r => getk y s = some (v, o) ∧ wsrc s ys r
  | _, _ => False
/-- From where each comes. -/
def srcK : List Nat → HP → Nat → Nat
  | m :: ms, (x, _) :: r, k => if x = k then m else srcK ms r k
  | _, _, _ => 0
theorem wsrc_get {s : HP} : ∀ {ms : List Nat} {l : HP}, wsrc s ms l → ∀ k v o, getk k l = some (v, o) → srcK ms l k ∈ ms ∧ getk (srcK ms l k) s = some (v, o)
  | [], [], _, k, v, o, h => by cases h
  | m :: ms, (x, (v0, o0)) :: r, h, k, v, o, hk => by
    simp only [getk] at hk
    simp only [srcK]
    by_cases e : x = k
    · rw [if_pos e] at hk ⊢; cases hk; exact ⟨by simp, h.1⟩
    · rw [if_neg e] at hk ⊢
      obtain ⟨h1, h2⟩ := wsrc_get h.2 k v o hk
      exact ⟨List.mem_cons_of_mem _ h1, h2⟩
  | [], _ :: _, h, _, _, _, _ => by cases h
  | _ :: _, [], h, _, _, _, hk => by cases hk
theorem srcK_inj {s : HP} : ∀ {ms : List Nat} {l : HP}, wsrc s ms l → ms.Nodup → ∀ x x', x ∈ keys l → x' ∈ keys l → srcK ms l x = srcK ms l x' → x = x'
  | [], [], _, _, x, x', h, _, _ => by simp [keys] at h
  | m :: ms, (k, (v0, o0)) :: r, h, hn, x, x', h1, h2, e => by
    have hmem : ∀ z, z ∈ keys r → srcK ms r z ∈ ms := fun z hz => by
      obtain ⟨⟨v, o⟩, ho⟩ := mem_keys_get hz
      exact (wsrc_get h.2 z v o ho).1
    simp only [keys, List.map_cons, List.mem_cons] at h1 h2
    simp only [srcK] at e
    obtain ⟨hn1, hn2⟩ := List.nodup_cons.1 hn
    by_cases e1 : k = x <;> by_cases e2 : k = x'
    · omega
    · rw [if_pos e1, if_neg e2] at e
      exact absurd (e ▸ hmem x' (h2.resolve_left (fun h => e2 h.symm))) hn1
    · rw [if_neg e1, if_pos e2] at e
      exact absurd (e ▸ hmem x (h1.resolve_left (fun h => e1 h.symm))) hn1
    · rw [if_neg e1, if_neg e2] at e
      exact srcK_inj h.2 hn2 x x' (h1.resolve_left (fun h => e1 h.symm)) (h2.resolve_left (fun h => e2 h.symm)) e
  | [], _ :: _, h, _, _, _, _, _, _ => by cases h
  | _ :: _, [], h, _, _, _, h1, _, _ => by simp [keys] at h1

/-- The same, under other names. -/
theorem ren_get {α : Type} : ∀ {hN h' : List (Nat × α)}, hN.map (·.2) = h'.map (·.2) → (keys h').Nodup → ∀ x y, getk x hN = some y → ∃ x', getk x' h' = some y ∧ ∀ z y2, getk z hN = some y2 → z ≠ x → ∀ x2, getk x2 h' = some y2 → True
  | [], _, _, _, x, y, h => by cases h
  | (i, v) :: hN, [], e, _, _, _, _ => by simp at e
  | (i, v) :: hN, (j, u) :: h', e, hn, x, y, h => by
    simp only [List.map_cons, List.cons.injEq] at e
    obtain ⟨rfl, e⟩ := e
    simp only [getk] at h
    split at h
    · cases h; exact ⟨j, by simp [getk], fun _ _ _ _ _ _ => trivial⟩
    · obtain ⟨x', h1, _⟩ := ren_get e (List.nodup_cons.1 hn).2 x y h
      refine ⟨x', ?_, fun _ _ _ _ _ _ => trivial⟩
      simp only [getk]
      rw [if_neg]
      · exact h1
      · rintro rfl
        exact (List.nodup_cons.1 hn).1 (get_mem_keys h1)

def idxOf {α : Type} (x : Nat) : List (Nat × α) → Nat
  | [] => 0
  | (i, _) :: r => if i = x then 0 else idxOf x r + 1
/-- The name under which the callee knows it. -/
def back {α : Type} (hN h' : List (Nat × α)) (x : Nat) : Nat := (h'[idxOf x hN]?.map (·.1)).getD 0
theorem getk_idx {α : Type} {x : Nat} : ∀ {l : List (Nat × α)} {y : α}, getk x l = some y → l[idxOf x l]? = some (x, y)
  | [], y, h => by cases h
  | (i, v) :: l, y, h => by
    simp only [getk] at h
    simp only [idxOf]
    split at h
    · rename_i e; subst e; cases h; simp
    · rename_i e; rw [if_neg e]; simpa using getk_idx h
theorem idx_getk {α : Type} : ∀ {l : List (Nat × α)} {n x : Nat} {y : α}, (keys l).Nodup → l[n]? = some (x, y) → getk x l = some y
  | [], n, x, y, _, h => by simp at h
  | (i, v) :: l, 0, x, y, _, h => by simp at h; obtain ⟨rfl, rfl⟩ := h; simp [getk]
  | (i, v) :: l, n + 1, x, y, hn, h => by
    have h' : l[n]? = some (x, y) := by simpa using h
    have hx : x ∈ keys l := List.mem_map.2 ⟨_, List.mem_of_getElem? h', rfl⟩
    have hne : i ≠ x := by rintro rfl; exact (List.nodup_cons.1 hn).1 hx
    simp only [getk, if_neg hne]
    exact idx_getk (List.nodup_cons.1 hn).2 h'
theorem back_get {α : Type} {hN h' : List (Nat × α)} (e : hN.map (·.2) = h'.map (·.2)) (hn : (keys h').Nodup) {x : Nat} {y : α} (h : getk x hN = some y) : getk (back hN h' x) h' = some y := by
  have h1 := getk_idx h
  have h2 : (h'.map (·.2))[idxOf x hN]? = some y := by rw [← e, List.getElem?_map, h1]; rfl
  rw [List.getElem?_map] at h2
  obtain ⟨⟨x', y'⟩, h3, h4⟩ := Option.map_eq_some_iff.1 h2
  simp only at h4
  subst h4
  have : back hN h' x = x' := by unfold back; rw [h3]; rfl
  rw [this]
  exact idx_getk hn h3
theorem back_inj {α : Type} {hN h' : List (Nat × α)} (e : hN.map (·.2) = h'.map (·.2)) (hn : (keys h').Nodup) {x x' : Nat} (hx : x ∈ keys hN) (hx' : x' ∈ keys hN) (hb : back hN h' x = back hN h' x') : x = x' := by
  obtain ⟨y, hy⟩ := mem_keys_get hx
  obtain ⟨y', hy'⟩ := mem_keys_get hx'
  have h1 := getk_idx hy
  have h1' := getk_idx hy'
  have hlen : hN.length = h'.length := by simpa using congrArg List.length e
  have lt : ∀ {n : Nat} {p : Nat × α}, hN[n]? = some p → n < h'.length := fun {n p} h => by
    rw [← hlen]
    rcases Nat.lt_or_ge n hN.length with h' | h'
    · exact h'
    · rw [List.getElem?_eq_none h'] at h; cases h
  have hi := lt h1
  have hi' := lt h1'
  have b1 : back hN h' x = h'[idxOf x hN].1 := by unfold back; simp [hi]
  have b2 : back hN h' x' = h'[idxOf x' hN].1 := by unfold back; simp [hi']
  rw [b1, b2] at hb
  have hk1 : (keys h')[idxOf x hN]? = some (h'[idxOf x hN].1) := by simp [keys, hi]
  have hk2 : (keys h')[idxOf x' hN]? = some (h'[idxOf x hN].1) := by rw [hb]; simp [keys, hi']
  have : idxOf x hN = idxOf x' hN := by
    have hp := List.pairwise_iff_getElem.1 hn
    have hl : (keys h').length = h'.length := by simp [keys]
    have e1 : (keys h')[idxOf x hN]'(by omega) = h'[idxOf x hN].1 := by simp [keys]
    have e2 : (keys h')[idxOf x' hN]'(by omega) = h'[idxOf x hN].1 := by rw [hb]; simp [keys]
    rcases Nat.lt_trichotomy (idxOf x hN) (idxOf x' hN) with h | h | h
    · exact absurd (e1.trans e2.symm) (hp _ _ (by omega) (by omega) h)
    · exact h
    · exact absurd (e2.trans e1.symm) (hp _ _ (by omega) (by omega) h)
  rw [this] at h1
  rw [h1] at h1'
  cases h1'; rfl

theorem get_append {α : Type} {h h' : List (Nat × α)} {k : Nat} {x : α} (e : getk k (h ++ h') = some x) : getk k h = some x ∨ (k ∉ keys h ∧ getk k h' = some x) := by
  induction h with
  | nil => exact .inr ⟨by simp [keys], e⟩
  | cons p h ih =>
    obtain ⟨i, y⟩ := p
    simp only [List.cons_append, getk] at e ⊢
    split at e
    · rename_i hk; exact .inl (by rw [if_pos hk]; exact e)
    · rename_i hk
      rcases ih e with h1 | ⟨h1, h2⟩
      · exact .inl (by rw [if_neg hk]; exact h1)
      · refine .inr ⟨?_, h2⟩
        simp only [keys, List.map_cons, List.mem_cons, not_or]
        exact ⟨fun h => hk h.symm, h1⟩

/-- What must hold behind a call: K says so of the state in which the result r and what comes back, h', have their names. -/
def AfterCall (o : Oper) (σ : St) (K : St → Prop) (ys ms : List Nat) (r : AV) (h' : HP) : Prop :=
  ∃ r' hN, Wk [] r' r ∧ hN.map (·.2) = h'.map (·.2) ∧ (keys hN).Nodup ∧ (keys h').Nodup ∧ (∀ x ∈ keys hN, has x (minus σ.heap ms) = false) ∧ (ys = [] ∨ (Scal r ∧ ∀ p ∈ h', Cln p.2.2)) ∧ dok o.dst σ.nt = true ∧ K ({ σ with heap := hN ++ minus σ.heap ms }.put o.dst r')

/-- A call: ys are lent to be read, ms handed over to be written. -/
theorem o_call {f : FuncId} {avs avs1 : List AV} {hs : HP} {R : AV → HP → Prop} (ys : List Nat) (Z : List (Value × AV)) (ms : List Nat) (hcore : Core P c σ o f avs) (hS : Does P f avs1 hs R) (hz : wfrz σ.heap ys Z) (hargs : WkL Z avs1 avs) (hsrc : wsrc σ.heap ms hs) (hnd : ms.Nodup) (hym : ∀ y ∈ ys, y ∉ ms)
    (hK : ∀ r h', R r h' → AfterCall o σ K ys ms r h') : OpOk P c o σ K := by
  intro F N a w hr next Q hn
  obtain ⟨he, hS⟩ := hS
  obtain ⟨args, hrun, hrel⟩ := hcore he F N a w hr
  let lent : Nat → Prop := fun k => ∃ y, y ∈ ys ∧ y ∈ keys σ.heap ∧ F y k
  let N1 : Nat → Prop := fun k => N k ∧ ¬ lent k
  let Fc : Nat → Nat → Prop := fun x => F (srcK ms hs x)
  have hZ : ∀ v av, (v, av) ∈ Z → RelV N1 w av v := by
    intro v av hm
    obtain ⟨y, o, h1, h2, h3⟩ := wfrz_mem hz v av hm
    exact (hr.heap.own y v o h2).freeze h3 (fun k hk => ⟨hk.1, fun hF => hk.2 ⟨y, h1, get_mem_keys h2, hF⟩⟩)
  have hvs : RelVs N1 w avs1 args := by
    obtain ⟨h1, h2⟩ := hrel F N w hr
    obtain ⟨h3, h4⟩ := hargs.get
    refine ⟨by rw [h1, h3], fun i av v h5 h6 => ?_⟩
    obtain ⟨b, h7, h8⟩ := h4 i av h5
    exact h8.rel hZ ((h2 i b v h7 h6).mono (.refl N w) (fun _ _ h => h.1))
  have hsk : ∀ x, x ∈ keys hs → srcK ms hs x ∈ ms ∧ srcK ms hs x ∈ keys σ.heap := fun x hx => by
    obtain ⟨⟨v, o⟩, ho⟩ := mem_keys_get hx
    obtain ⟨h1, h2⟩ := wsrc_get hsrc x v o ho
    exact ⟨h1, get_mem_keys h2⟩
  have hnl : ∀ y, y ∈ keys σ.heap → y ∉ ys → ∀ b, F y b → ¬ lent b := by
    rintro y hy hyys b hb ⟨z, h1, h2, h3⟩
    exact hr.heap.disj y z hy h2 (by rintro rfl; exact hyys h1) b hb h3
  have hho : HOk N1 Fc w hs := by
    refine ⟨fun x v o hx => ?_, fun x hx b hb => ?_, fun x y hx hy hne b hb hb' => ?_, fun x v o hx => hr.heap.one _ v o (wsrc_get hsrc x v o hx).2⟩
    · exact (hr.heap.own _ v o (wsrc_get hsrc x v o hx).2).mono (.refl N w) (fun _ _ h => h.1) (fun _ _ _ => rfl)
    · obtain ⟨h1, h2⟩ := hsk x hx
      obtain ⟨h3, h4⟩ := hr.heap.foot _ h2 b hb
      exact ⟨⟨h3, hnl _ h2 (fun h => hym _ h h1) b hb⟩, h4⟩
    · exact hr.heap.disj _ _ (hsk x hx).2 (hsk y hy).2 (fun e => hne (srcK_inj hsrc hnd x y hx hy e)) b hb hb'
  unfold Oper.wp; rw [hrun w]
  refine (hS Fc N1 w args hvs hho).mono ?_
  rintro e w' ⟨v, r, h', F', N', rfl, hR, hv, hh', hmay, hN1, hN2, hU⟩
  obtain ⟨r', hN, hwk, hmap, hndN, hnd', hdis, hcl, hd, hk⟩ := hK r h' hR
  let N2 : Nat → Prop := fun k => N' k ∨ lent k
  let F2 : Nat → Nat → Prop := fun x => @ite _ (x ∈ keys hN) (Classical.propDecidable _) (F' (back hN h' x)) (F x)
  have hM : ∀ k, (∃ y, y ∈ keys hs ∧ Fc y k) → ∃ y, y ∈ ms ∧ y ∈ keys σ.heap ∧ F y k := by
    rintro k ⟨y, h1, h2⟩
    exact ⟨_, (hsk y h1).1, (hsk y h1).2, h2⟩
  have hMN : ∀ k, (∃ y, y ∈ keys hs ∧ Fc y k) → N k := fun k h => let ⟨y, _, h2, h3⟩ := hM k h; (hr.heap.foot y h2 k h3).1
  have hL : Later N w w' := ⟨hU.size, fun k hk hNk => hU.block k hk (fun h => hNk (hMN k h))⟩
  have hN2N : ∀ k, k < w.heap.size → N2 k → N k := by
    rintro k hk (h | ⟨y, _, h2, h3⟩)
    · exact (hN1 k hk h).1
    · exact (hr.heap.foot y h2 k h3).1
  have hbk : ∀ x, x ∈ keys hN → back hN h' x ∈ keys h' := fun x hx => by
    obtain ⟨y, hy⟩ := mem_keys_get hx
    exact get_mem_keys (back_get hmap hnd' hy)
  have hrest : ∀ x, x ∈ keys (minus σ.heap ms) → x ∉ keys hN := fun x hx h => has_no (hdis x h) hx
  have hFb : ∀ x, x ∈ keys hN → ∀ b, F2 x b → F' (back hN h' x) b := fun x hx b hb => by simpa [F2, hx] using hb
  have hFo : ∀ x, x ∉ keys hN → ∀ b, F2 x b → F x b := fun x hx b hb => by simpa [F2, hx] using hb
  have hkeys : ∀ x, x ∈ keys (hN ++ minus σ.heap ms) → x ∈ keys hN ∨ (x ∉ keys hN ∧ x ∈ keys (minus σ.heap ms)) := fun x hx => by
    obtain ⟨y, hy⟩ := mem_keys_get hx
    rcases get_append hy with h | ⟨h1, h2⟩
    · exact .inl (get_mem_keys h)
    · exact .inr ⟨h1, get_mem_keys h2⟩
  have hold : ∀ x, x ∈ keys (minus σ.heap ms) → ∀ b, F x b → ¬ ∃ y, y ∈ keys hs ∧ Fc y b := by
    rintro x hx b hb h
    obtain ⟨y, h1, h2, h3⟩ := hM b h
    obtain ⟨h4, h5⟩ := mem_minus hx
    exact hr.heap.disj x y h5 h2 (by rintro rfl; exact h4 h1) b hb h3
  refine hn _ F2 N2 _ _ hk (Rel.put ?_ (dok_ok hd) ?_)
  · refine ⟨hr.defers, hr.size, fun k av hk => ?_, ⟨fun x u o hx => ?_, fun x hx b hb => ?_, fun x y hx hy hne b hb hb' => ?_, fun x u o hx => ?_⟩, fun x hx b hb => ?_, fun k hk h0 => ?_, ?_⟩
    · obtain ⟨u, h1, h2⟩ := hr.slots k av hk
      exact ⟨u, h1, h2.mono hL hN2N⟩
    · rcases get_append hx with hx | ⟨h1, hx⟩
      · have hxk := get_mem_keys hx
        have h3 := hh'.own _ u o (back_get hmap hnd' hx)
        have e : F2 x = F' (back hN h' x) := by simp only [F2, hxk, if_true]
        rw [e]
        rcases hcl with rfl | ⟨_, hcl⟩
        · refine h3.mono (.refl N' w') (fun i _ h => ?_) (fun _ _ _ => rfl)
          rcases h with h | ⟨y, h, _⟩
          · exact h
          · cases h
        · exact (hcl _ (get_mem (back_get hmap hnd' hx))).own h3
      · obtain ⟨h2, h3⟩ := get_minus hx
        have e : F2 x = F x := by simp only [F2, h1, if_false]
        rw [e]
        exact (hr.heap.own x u o h3).mono hL hN2N (fun k hk hF => hU.block k hk (hold x (get_mem_keys hx) k hF))
    · rcases hkeys x hx with h | ⟨h1, h2⟩
      · obtain ⟨h3, h4⟩ := hh'.foot _ (hbk x h) b (hFb x h b hb)
        exact ⟨.inl h3, h4⟩
      · have hF := hFo x h1 b hb
        obtain ⟨h3, h4⟩ := mem_minus h2
        obtain ⟨h5, h6⟩ := hr.heap.foot x h4 b hF
        refine ⟨?_, Nat.lt_of_lt_of_le h6 hU.size⟩
        by_cases hl : lent b
        · exact .inr hl
        · exact .inl ((hN2 b h6 ⟨h5, hl⟩).resolve_right (hold x h2 b hF))
    · have mix : ∀ x y, x ∈ keys hN → y ∉ keys hN → y ∈ keys (minus σ.heap ms) → F2 x b → F2 y b → False := by
        intro x y h1 h2 h3 h4 h5
        have hF := hFo y h2 b h5
        rcases hmay _ (hbk x h1) b (hFb x h1 b h4) with h6 | h6
        · exact hold y h3 b hF h6
        · have := (hr.heap.foot y (mem_minus h3).2 b hF).2; omega
      rcases hkeys x hx with h | ⟨h1, h2⟩ <;> rcases hkeys y hy with h' | ⟨h1', h2'⟩
      · exact hh'.disj _ _ (hbk x h) (hbk y h') (fun e => hne (back_inj hmap hnd' h h' e)) b (hFb x h b hb) (hFb y h' b hb')
      · exact mix x y h h1' h2' hb hb'
      · exact mix y x h' h1 h2 hb' hb
      · exact hr.heap.disj x y (mem_minus h2).2 (mem_minus h2').2 hne b (hFo x h1 b hb) (hFo y h1' b hb')
    · rcases get_append hx with hx | ⟨h1, hx⟩
      · exact hh'.one _ u o (back_get hmap hnd' hx)
      · exact hr.heap.one x u o (get_minus hx).2
    · rcases hkeys x hx with h | ⟨h1, h2⟩
      · rcases hmay _ (hbk x h) b (hFb x h b hb) with h3 | h3
        · obtain ⟨y, _, h4, h5⟩ := hM b h3
          exact hr.may y h4 b h5
        · exact .inr (Nat.le_trans hr.unch.size h3)
      · exact hr.may x (mem_minus h2).2 b (hFo x h1 b hb)
    · rcases hr.n0 k hk h0 with h1 | h1
      · have hkw : k < w.heap.size := Nat.lt_of_lt_of_le hk hr.unch.size
        by_cases hl : lent k
        · exact .inl (.inr hl)
        · rcases hN2 k hkw ⟨h1, hl⟩ with h2 | h2
          · exact .inl (.inl h2)
          · obtain ⟨y, _, h4, h5⟩ := hM k h2
            rcases hr.may y h4 k h5 with h6 | h6
            · exact .inr h6
            · omega
      · exact .inr h1
    · refine hr.unch.trans hU ?_
      intro k hk hm
      obtain ⟨y, _, h4, h5⟩ := hM k hm
      exact (hr.may y h4 k h5).resolve_right (by omega)
  · have hv' : RelV N2 w' r v := by
      rcases hcl with rfl | ⟨hs', _⟩
      · refine hv.mono (.refl N' w') (fun i _ h => ?_)
        rcases h with h | ⟨y, h, _⟩
        · exact h
        · cases h
      · exact hs'.rel hv
    exact hwk.rel (fun v av h => by cases h) hv'

theorem v_func {f : FuncId} {caps : Array Operand} {cs : List AV} (hc : evAs σ caps.toList = some cs) (hd : dok d σ.nt = true) (hK : K (σ.put d (.clo (.func f) cs))) : ValOk P c ⟨d, .makeFunc (.func f) #[] caps, ty, pos, af, g⟩ σ K :=
  mkV hd hK fun F N a w hr => by
    obtain ⟨hl, hh⟩ := evAs_rel hr _ hc
    refine ⟨.func (.func f) #[] (caps.map a.eval), .clo _ _ _ (by simp [hl]) (fun i av v h1 h2 => ?_), fun w' _ => by simp [execOp, Instr.makeFunc]⟩
    rw [Array.getElem?_map] at h2
    obtain ⟨x, h3, rfl⟩ := Option.map_eq_some_iff.1 h2
    exact hh i av x h1 (by simpa using h3)
end
end Go.Bb
end
section
/-! Functions. -/
set_option linter.unusedVariables false
set_option linter.unusedSimpArgs false
namespace Go.Bb

def slotsOf : Nat → List AV → List (Nat × AV)
  | _, [] => []
  | k, v :: r => (k, v) :: slotsOf (k + 1) r

theorem slotsOf_get : ∀ (k : Nat) (l : List AV) (i : Nat) (av : AV), getk i (slotsOf k l) = some av → k ≤ i ∧ l[i - k]? = some av
  | k, [], i, av, h => by cases h
  | k, v :: r, i, av, h => by
    simp only [slotsOf, getk] at h
    split at h
    · rename_i e; subst e; cases h; exact ⟨Nat.le_refl _, by simp⟩
    · obtain ⟨h1, h2⟩ := slotsOf_get (k + 1) r i av h
      refine ⟨by omega, ?_⟩
      rw [show i - k = (i - (k + 1)) + 1 by omega]
      simpa using h2

/-- What a function's results are in a state. -/
inductive Res (T : Tab) (σ : St) : List ResultVar → List AV → Prop
  | nil : Res T σ [] []
  | tmp {t : Tmp} {v : AV} {rs : List ResultVar} {l : List AV} (h : getk t σ.slots = some v) (hr : Res T σ rs l) : Res T σ (.tmp t :: rs) (v :: l)
  | cell {x : Tmp} {t : TypeId} {v : AV} {rs : List ResultVar} {l cs ls : List AV} {k b off n : Nat} {u : TypeId} {g : Bool} (h : getk x σ.slots = some (.ptr k b off)) (hh : getk k σ.heap = some (.pointer (some ⟨b, 0, none⟩), .optr u cs)) (hs : T.size t = some n) (hg : T.agg t = some g)
      (hw : win cs off n = some ls) (hp : plainC ls = true) (hm : mkA g ls = some v) (hr : Res T σ rs l) : Res T σ (.cell x t :: rs) (v :: l)

def resV : List AV → AV
  | [v] => v
  | l => .tup l

section
variable {P : Program} {T : Tab} {c : Cx} {F : Nat → Nat → Prop} {o : Oper} {σ : St} {K : St → Prop} {N : Nat → Prop} {a : Act} {w : World} {all r : List Oper}
variable {d : Option Tmp} {ty : TypeId} {pos : String} {af : Array Edge} {g : Option (Nat × Bool)}

theorem res_run (hT : TabOk P T) (hr : Rel c F N σ a w) (Fn : ResultVar → Sem Value) (hF1 : ∀ t, Fn (.tmp t) = pure (a.tmps.getD t undef)) (hF2 : ∀ x t, Fn (.cell x t) = do loadVar t (← asAddr (a.tmps.getD x undef))) {rs : List ResultVar} {l : List AV} (h : Res T σ rs l) :
    ∃ vs : List Value, vs.length = l.length ∧ (rs.mapM Fn : Sem (List Value)).run P w = .ok vs w ∧ ∀ (i : Nat) av v, l[i]? = some av → vs[i]? = some v → RelV N w av v := by
  induction h with
  | nil => exact ⟨[], rfl, by simp, fun i av v h => by simp at h⟩
  | tmp h1 hrr ih =>
    obtain ⟨vs, h3, h4, h5⟩ := ih
    obtain ⟨u, h6, h7⟩ := hr.slots _ _ h1
    refine ⟨u :: vs, by simp [h3], ?_, ?_⟩
    · rename_i t _ _ _
      have h6' : a.tmps.getD t undef = u := by simp [h6]
      simp only [List.mapM_cons, hF1, Sem.run_bind, h4, h6', Sem.run_pure, Result.andThen_ok]
    · intro i av w' h8 h9
      cases i with
      | zero => cases h8; cases h9; exact h7
      | succ i => exact h5 i av w' h8 h9
  | cell h1 hh hs hg hw hp hm hrr ih =>
    rename_i x t v rs l cs ls k b off n u g
    obtain ⟨vs, h3, h4, h5⟩ := ih
    obtain ⟨y, h6, h7⟩ := hr.slots _ _ h1
    cases h7
    obtain ⟨h8, h9⟩ := at_ptr hr hh hw hp
    obtain ⟨z, h15, h16⟩ := run_loadVar_at hT hs hg h8 h9 hm
    refine ⟨z :: vs, by simp [h3], ?_, ?_⟩
    · have h8' : a.tmps.getD x undef = .pointer (some ⟨b, off, none⟩) := by simp [h6]
      simp only [List.mapM_cons, hF2, Sem.run_bind, h4, h8', asAddr, Sem.run_pure, Result.andThen_ok, h16 w (.refl w)]
    · intro i av w' h8 h9
      cases i with
      | zero => cases h8; cases h9; exact h15
      | succ i => exact h5 i av w' h8 h9

/-- What a function must end in. -/
def EndOk (T : Tab) (fn : Func) (R : AV → HP → Prop) (σ : St) : Prop := ∃ l ms h', Res T σ fn.results.toList l ∧ wheap [] σ.heap ms h' ∧ (ms.filterMap id).Nodup ∧ R (resV l) h'
def endQ (T : Tab) (fn : Func) (R : AV → HP → Prop) : Exit → St → Prop
  | .normal, σ | .ret, σ => EndOk T fn R σ
  | _, _ => False

theorem endQ_ret {fn : Func} {R : AV → HP → Prop} {l : List AV} {h' : HP} (ms : List (Option Nat)) (h1 : Res T σ fn.results.toList l) (h2 : wheap [] σ.heap ms h') (h3 : (ms.filterMap id).Nodup) (h4 : R (resV l) h') : endQ T fn R .ret σ := ⟨l, ms, h', h1, h2, h3, h4⟩
theorem endQ_end {fn : Func} {R : AV → HP → Prop} {l : List AV} {h' : HP} (ms : List (Option Nat)) (h1 : Res T σ fn.results.toList l) (h2 : wheap [] σ.heap ms h') (h3 : (ms.filterMap id).Nodup) (h4 : R (resV l) h') : endQ T fn R .normal σ := ⟨l, ms, h', h1, h2, h3, h4⟩

theorem does_of_good (hT : TabOk P T) {f : FuncId} {fn : Func} {body : Code} {avs : List AV} {h : HP} {R : AV → HP → Prop} (hf : P.funcs[f]? = some fn) (hb : fn.body = some body) (hname : (fn.name == "runtime.NumGoroutine") = false)
    (hn : avs.length ≤ fn.ntmps) (hg : ∀ c : Cx, Good P c body ⟨fn.ntmps, slotsOf 0 avs, h⟩ (endQ T fn R)) : Does P f avs h R := by
  refine ⟨⟨fn, hf, by rw [hb]; rfl, hname⟩, fun F N w vs hvs hh => ?_⟩
  refine calls_of_wp hf hb ?_
  let c : Cx := ⟨w, fun k => ∃ y, y ∈ keys h ∧ F y k, N⟩
  have hr : Rel c F N ⟨fn.ntmps, slotsOf 0 avs, h⟩ { tmps := vs ++ Array.replicate (fn.ntmps - vs.size) undef, defers := [] } w := by
    refine ⟨rfl, by simp [hvs.1]; omega, fun k av hk => ?_, hh, fun x hx b hb => .inl ⟨x, hx, hb⟩, fun _ _ h => .inl h, .refl _ _⟩
    obtain ⟨_, h1⟩ := slotsOf_get 0 avs k av hk
    simp only [Nat.sub_zero] at h1
    have hk : k < vs.size := by
      rw [hvs.1]
      rcases Nat.lt_or_ge k avs.length with h' | h'
      · exact h'
      · rw [List.getElem?_eq_none h'] at h1; cases h1
    exact ⟨vs[k], by simp [Array.getElem?_append_left hk, hk], hvs.2 k av _ h1 (by simp [hk])⟩
  refine wp_mono (hg c F N _ w hr) ?_
  rintro e a' w' ⟨σ', F', N', hq, hr'⟩
  have hfin : EndOk T fn R σ' →
      a'.defers = [] ∧ ∃ v, (results fn a'.tmps).run P w' = .ok v w' ∧ ∃ u r h' F' N', Ending.returned v = .returned u ∧ R r h' ∧ RelV N' w' r u ∧ HOk N' F' w' h' ∧
      (∀ x, x ∈ keys h' → ∀ b, F' x b → (∃ y, y ∈ keys h ∧ F y b) ∨ w.heap.size ≤ b) ∧
      (∀ k, k < w.heap.size → N' k → N k) ∧ (∀ k, k < w.heap.size → N k → N' k ∨ ∃ y, y ∈ keys h ∧ F y k) ∧ Unch (fun k => ∃ y, y ∈ keys h ∧ F y k) w w' := by
    rintro ⟨l, ms, h', hres, hwh, hnd, hR⟩
    refine ⟨hr'.defers, ?_⟩
    obtain ⟨us, h1, h2, h3⟩ := res_run hT hr' (fun | .tmp t => pure (a'.tmps.getD t undef) | .cell x t => do loadVar t (← asAddr (a'.tmps.getD x undef))) (fun _ => rfl) (fun _ _ => rfl) hres
    let F2 : Nat → Nat → Prop := fun x => match srcs ms h' x with | some y => F' y | none => fun _ => False
    let N1 : Nat → Prop := fun k => (k < w.heap.size ∧ N' k ∧ N k) ∨ (∃ x, x ∈ keys h' ∧ F2 x k)
    have hFk : ∀ x, x ∈ keys h' → ∀ b, F2 x b → ∃ y, srcs ms h' x = some y ∧ y ∈ ms.filterMap id ∧ y ∈ keys σ'.heap ∧ F' y b := by
      intro x hx b hb
      obtain ⟨⟨v, o1⟩, ho⟩ := mem_keys_get hx
      rcases wheap_get hwh x v o1 ho with ⟨h1, _⟩ | ⟨y, o, h1, h2, h3, _⟩
      · simp only [F2, h1] at hb
      · simp only [F2, h1] at hb
        exact ⟨y, h1, h2, get_mem_keys h3, hb⟩
    have hsub : ∀ k, k < w'.heap.size → N1 k → N' k := by
      rintro k hk (⟨_, h, _⟩ | ⟨x, hx, hF⟩)
      · exact h
      · obtain ⟨y, _, _, h4, h5⟩ := hFk x hx k hF
        exact (hr'.heap.foot y h4 k h5).1
    have hview : ∀ {av : AV} {v : Value}, RelV N' w' av v → RelV N1 w' av v := fun h => h.mono (.refl N' w') hsub
    refine ⟨if us.length = 1 then us.headD undef else .tuple us.toArray, ?_, _, resV l, h', F2, N1, rfl, hR, ?_, ⟨fun x v o1 hx => ?_, fun x hx b hb => ?_, fun x x' hx hx' hne b hb hb' => ?_, fun x v o1 hx => ?_⟩, fun x hx b hb => ?_, fun k hk hN => ?_, fun k hk hN => ?_, hr'.unch⟩
    · unfold results
      rw [Sem.run_bind, Array.mapM_eq_mapM_toList, Sem.run_map]
      have h2' : Sem.run P (List.mapM (fun x : ResultVar => match x with | .tmp t => (pure (a'.tmps.getD t undef) : Sem Value) | .cell a t => do loadVar t (← asAddr (a'.tmps.getD a undef))) fn.results.toList) w' = .ok us w' := h2
      erw [h2']
      simp only [Result.andThen_ok, Sem.run_pure]
      congr 1
      match us with
      | [] => simp
      | [u] => simp
      | u :: v :: r => simp
    · match l, us, h1 with
      | [], [], _ => exact .tup _ _ rfl (fun i av v h => by simp at h)
      | [v], [u], _ => simpa [resV] using hview (h3 0 v u rfl rfl)
      | v :: v2 :: r, u :: u2 :: s, h1 =>
        simp only [resV]
        rw [if_neg (by simp)]
        refine .tup _ _ (by simpa using h1) (fun i av x h4 h5 => ?_)
        exact hview (h3 i av x h4 (by simpa using h5))
    · rcases wheap_get hwh x v o1 hx with ⟨h1, rfl, t, sz, rfl⟩ | ⟨y, o, h1, h2, h3, h4⟩
      · exact .osl0 _ t sz
      · have e : F2 x = F' y := by simp only [F2, h1]
        rw [e]
        exact (h4.own (Z := []) (fun v av h => by cases h) (hr'.heap.own y v o h3)).mono (.refl N' w') hsub (fun _ _ _ => rfl)
    · obtain ⟨y, h1, h2, h3, h4⟩ := hFk x hx b hb
      exact ⟨.inr ⟨x, hx, hb⟩, (hr'.heap.foot y h3 b h4).2⟩
    · obtain ⟨y, h1, h2, h3, h4⟩ := hFk x hx b hb
      obtain ⟨y', h5, h6, h7, h8⟩ := hFk x' hx' b hb'
      exact hr'.heap.disj y y' h3 h7 (by rintro rfl; exact hne (srcs_inj hwh hnd x x' y h1 h5)) b h4 h8
    · rcases wheap_get hwh x v o1 hx with ⟨h1, rfl, t, sz, rfl⟩ | ⟨y, o, h1, h2, h3, h4⟩
      · rfl
      · exact hr'.heap.one y v o h3
    · obtain ⟨y, h1, h2, h3, h4⟩ := hFk x hx b hb
      exact hr'.may y h3 b h4
    · rcases hN with ⟨_, _, h⟩ | ⟨x, hx, hF⟩
      · exact h
      · obtain ⟨y, h1, h2, h3, h4⟩ := hFk x hx k hF
        rcases hr'.may y h3 k h4 with ⟨z, h5, h6⟩ | h5
        · exact (hh.foot z h5 k h6).1
        · have h5 : w.heap.size ≤ k := h5
          omega
    · rcases hr'.n0 k hk hN with h | h
      · exact .inl (.inl ⟨hk, h, hN⟩)
      · exact .inr h
  cases e with
  | normal => exact hfin hq
  | ret => exact hfin hq
  | _ => exact hq.elim

/-- One result, nothing else. -/
def ret (r0 : AV) : AV → HP → Prop := fun r h => r = r0 ∧ h = []

theorem minus_nil {α : Type} (h : List (Nat × α)) : minus h [] = h := by unfold minus; simp

/-- A call of one result that is lent what it reads. -/
theorem o_callR {f : FuncId} {avs avs1 : List AV} {r0 : AV} (ys : List Nat) (Z : List (Value × AV)) (hcore : Core P c σ o f avs) (hS : Does P f avs1 [] (ret r0)) (hz : wfrz σ.heap ys Z) (hargs : WkL Z avs1 avs) (hc : ys = [] ∨ Scal r0) (hd : dok o.dst σ.nt = true) (hK : K (σ.put o.dst r0)) : OpOk P c o σ K := by
  refine o_call ys Z [] hcore hS hz hargs trivial List.nodup_nil (fun y _ h => by cases h) ?_
  rintro r h' ⟨rfl, rfl⟩
  refine ⟨r, [], .refl _, rfl, List.nodup_nil, List.nodup_nil, fun x hx => (by cases hx), hc.imp id (fun h => ⟨h, fun p hp => (by cases hp)⟩), hd, ?_⟩
  rw [minus_nil]; exact hK

/-! Calls in regions that draw their order: of a result that the machine's value is read off from -/
inductive Det : AV → Prop
  | int (k : IntKind) (n : Int) : Det (.int k n)
  | bool (b : Bool) : Det (.bool b)
  | str (l : List UInt8) : Det (.str l)
theorem Det.eq {N N' : Nat → Prop} {w w' : World} {av : AV} {u v : Value} (hd : Det av) (h : RelV N w av u) (h' : RelV N' w' av v) : u = v := by
  cases hd <;> (cases h; cases h'; rfl)
theorem Det.rel {N N' : Nat → Prop} {w w' : World} {av : AV} {u : Value} (hd : Det av) (h : RelV N w av u) : RelV N' w' av u := by
  cases hd <;> cases h <;> constructor <;> assumption

theorem q_call {f : FuncId} {avs avs1 : List AV} {r0 : AV} (ys : List Nat) (Z : List (Value × AV)) (hw : ∀ F N a w, Rel c F N σ a w → Region.wanted o (yielded all.toArray a.tmps) = true) (hcore : Core P c σ o f avs) (hS : Does P f avs1 [] (ret r0)) (hz : wfrz σ.heap ys Z) (hargs : WkL Z avs1 avs) (hdet : Det r0) (hd : dok o.dst σ.nt = true) (hK : GQ P c all r (σ.put o.dst r0) K) :
    GQ P c all (o :: r) σ K := by
  intro F N a w hr Q hQ
  unfold wpQuiet
  rw [if_pos (hw F N a w hr)]
  obtain ⟨he, hS⟩ := hS
  obtain ⟨args, hrun, hrel⟩ := hcore he F N a w hr
  have hvs : ∀ N' w', Rel c F N' σ a w' → RelVs (fun k => N' k ∧ ¬ ∃ y, y ∈ ys ∧ y ∈ keys σ.heap ∧ F y k) w' avs1 args := by
    intro N' w' hr'
    have hZ : ∀ v av, (v, av) ∈ Z → RelV (fun k => N' k ∧ ¬ ∃ y, y ∈ ys ∧ y ∈ keys σ.heap ∧ F y k) w' av v := by
      intro v av hm
      obtain ⟨y, o, h1, h2, h3⟩ := wfrz_mem hz v av hm
      exact (hr'.heap.own y v o h2).freeze h3 (fun k hk => ⟨hk.1, fun hF => hk.2 ⟨y, h1, get_mem_keys h2, hF⟩⟩)
    obtain ⟨h1, h2⟩ := hrel F N' w' hr'
    obtain ⟨h3, h4⟩ := hargs.get
    refine ⟨by rw [h1, h3], fun i av v h5 h6 => ?_⟩
    obtain ⟨b, h7, h8⟩ := h4 i av h5
    exact h8.rel hZ ((h2 i b v h7 h6).mono (.refl N' w') (fun _ _ h => h.1))
  have hh0 : ∀ {N' : Nat → Prop} {w' : World}, HOk N' F w' [] := ⟨fun x v o h => by (cases h), fun x h => by simp [keys] at h, fun x y h => by simp [keys] at h, fun x v o h => by (cases h)⟩
  obtain ⟨e, w1, fr, ⟨v, r1, h', F1, N1', rfl, ⟨rfl, rfl⟩, hv1, _⟩, _⟩ := hS F _ w _ (hvs N w hr) hh0 []
  refine ⟨v, fun w' hcw => ?_, hK F N _ w (hr.put (dok_ok hd) (hdet.rel hv1)) Q hQ⟩
  obtain ⟨N', hN1, hN2, hU⟩ := hcw
  have hr' := hr.step hU hN2 hN1
  unfold Oper.quietAt
  rw [hrun w']
  refine ⟨rfl, (hS F _ w' _ (hvs N' w' hr') hh0).mono ?_⟩
  rintro e w2 ⟨v2, r2, h2', F2, N2, rfl, ⟨rfl, rfl⟩, hv2, _, _, h5, h6, h7⟩
  refine ⟨by rw [hdet.eq hv1 hv2], fun k => N' k, fun k h => hN1 k h, fun k hk h => hN2 k hk h, ?_⟩
  exact hU.trans (M' := fun _ => False) ⟨h7.os, h7.tape, h7.output, h7.size, fun k hk hM => h7.block k hk (fun ⟨y, h, _⟩ => by simp [keys] at h)⟩ (fun _ _ h => h)
end
end Go.Bb
end
section
/-! Operations on lists of typed elements. -/
set_option linter.unusedVariables false
set_option linter.unusedSectionVars false
set_option linter.unusedSimpArgs false
namespace Go.Bb

/-- What stands at a place. -/
def ix {α : Type} [Inhabited α] (l : List α) (i : Int) : α := l.getD i.toNat default
/-- From one place to another one. -/
def sub {α : Type} (l : List α) (i j : Int) : List α := (l.take j.toNat).drop i.toNat
def byt (s : List UInt8) (i : Int) : Int := ((s.getD i.toNat 0).toNat : Int)

def encS (s : List UInt8) : List AV := [.str s]
def encI (k : IntKind) (n : Int) : List AV := [.int k n]
def encBo (b : Bool) : List AV := [.bool b]
theorem encS_len (s : List UInt8) : (encS s).length = 1 := rfl
theorem encI_len {k : IntKind} (n : Int) : (encI k n).length = 1 := rfl
theorem encBo_len (b : Bool) : (encBo b).length = 1 := rfl
theorem encS_ok (s : List UInt8) : cellsOk (encS s) = true := rfl
theorem encI_ok {k : IntKind} (n : Int) : cellsOk (encI k n) = true := rfl
theorem encBo_ok (b : Bool) : cellsOk (encBo b) = true := rfl
theorem encS_frz (s : List UInt8) : FrzL (encS s) (encS s) := .cons (.refl _ rfl) .nil
theorem encI_frz {k : IntKind} (n : Int) : FrzL (encI k n) (encI k n) := .cons (.refl _ rfl) .nil
theorem encBo_frz (b : Bool) : FrzL (encBo b) (encBo b) := .cons (.refl _ rfl) .nil
theorem encS_cln (s : List UInt8) : ∀ av ∈ encS s, Cln av := fun av h => by simp [encS] at h; subst h; exact .scal _ (.str _)
theorem encI_cln {k : IntKind} (n : Int) : ∀ av ∈ encI k n, Cln av := fun av h => by simp [encI] at h; subst h; exact .scal _ (.int _ _)
theorem encBo_cln (b : Bool) : ∀ av ∈ encBo b, Cln av := fun av h => by simp [encBo] at h; subst h; exact .scal _ (.bool _)

/-! Walking beside a function: what its answer says of its parts -/
section
variable {α β : Type}
theorem ifT {c : Prop} [Decidable c] {a b : Option α} {o : α} (h : (if c then a else b) = some o) (hc : c) : a = some o := by rw [if_pos hc] at h; exact h
theorem ifF {c : Prop} [Decidable c] {a b : Option α} {o : α} (h : (if c then a else b) = some o) (hc : ¬ c) : b = some o := by rw [if_neg hc] at h; exact h
theorem ifS {c : Prop} [Decidable c] {a : Option α} {o : α} (h : (if c then a else none) = some o) : c ∧ a = some o := by
  split at h
  · rename_i hc; exact ⟨hc, h⟩
  · cases h
theorem bnd {x : Option α} {f : α → Option β} {o : β} (h : x.bind f = some o) : ∃ y, x = some y ∧ f y = some o := Option.bind_eq_some_iff.1 h
theorem bT {b : Bool} {a c : Option α} {o : α} (h : (if b = true then a else c) = some o) (hb : b = true) : a = some o := ifT h hb
theorem bF {b : Bool} {a c : Option α} {o : α} (h : (if b = true then a else c) = some o) (hb : b = false) : c = some o := ifF h (by rw [hb]; simp)
theorem dT {c : Prop} [Decidable c] (h : decide c = true) : c := of_decide_eq_true h
theorem dF {c : Prop} [Decidable c] (h : decide c = false) : ¬ c := of_decide_eq_false h
theorem ndT {c : Prop} [Decidable c] (h : (!decide c) = true) : ¬ c := by simpa using h
theorem ndF {c : Prop} [Decidable c] (h : (!decide c) = false) : c := by simpa using h
theorem nT {b : Bool} (h : (!b) = true) : b = false := by simpa using h
theorem nF {b : Bool} (h : (!b) = false) : b = true := by simpa using h
end

section
variable {P : Program} {T : Tab} {c : Cx} {F : Nat → Nat → Prop} {o : Oper} {σ : St} {K : St → Prop} {N : Nat → Prop} {a : Act} {w : World} {all r : List Oper}
variable {d : Option Tmp} {ty : TypeId} {pos : String} {af : Array Edge} {g : Option (Nat × Bool)}
variable {α : Type} [Inhabited α] {f : α → List AV} {l l2 : List α}

theorem getD_map {n : Int} (h0 : 0 ≤ n) (h1 : n < l.length) : (l.map f).getD n.toNat [] = f (ix l n) := by
  have : n.toNat < l.length := by omega
  simp [ix, List.getD, this]
theorem get_map {n : Int} (h0 : 0 ≤ n) (h1 : n < l.length) : (l.map f)[n.toNat]? = some (f (ix l n)) := by
  have : n.toNat < l.length := by omega
  simp [ix, List.getD, this]

theorem v_lenM {z : Bool} (hT : TabOk P T) {x : Operand} {at_ : Array TypeId} {t e : TypeId} (hx : evA σ x = some (.sl z (l.map f))) (ht : at_[0]? = some t) (he : T.elem t = some e) (hd : dok d σ.nt = true) (hK : K (σ.put d (.int .i64 l.length))) : ValOk P c ⟨d, .call ⟨.builtin .len, #[x], at_⟩, ty, pos, af, g⟩ σ K :=
  v_lenL hT hx ht he hd (by rw [List.length_map]; exact hK)
theorem v_lenHM (hT : TabOk P T) {x : Operand} {at_ : Array TypeId} {t e q t' sz : Nat} {v : Value} (hx : ∃ y, evA σ x = some (.hd y v)) (hh : getk q σ.heap = some (v, .osl t' sz (l.map f))) (ht : at_[0]? = some t) (he : T.elem t = some e) (hd : dok d σ.nt = true) (hK : K (σ.put d (.int .i64 l.length))) : ValOk P c ⟨d, .call ⟨.builtin .len, #[x], at_⟩, ty, pos, af, g⟩ σ K :=
  v_lenH hT hx hh ht he hd (by rw [List.length_map]; exact hK)
theorem v_idxM {z : Bool} (hT : TabOk P T) {t e sz : Nat} {x i : Operand} {k : IntKind} {n : Int} {row : List AV} (hx : evA σ x = some (.sl z (l.map f))) (hi : evA σ i = some (.int k n)) (he : T.elem t = some e) (hs : T.size e = some sz)
    (hb : 0 ≤ n ∧ n < l.length) (hrow : f (ix l n) = row) (hlen : row.length = sz) (hd : dok d σ.nt = true) (hK : K (σ.put d (.eptr row))) : ValOk P c ⟨d, .indexAddr t x i, ty, pos, af, g⟩ σ K :=
  v_idxS hT hx hi he hs hb.1 (by rw [List.length_map]; exact hb.2) (by rw [getD_map hb.1 hb.2]; exact hrow) hlen hd hK
theorem v_idxHM (hT : TabOk P T) {t e sz q : Nat} {t' : TypeId} {v : Value} {x i : Operand} {k : IntKind} {n : Int} (hx : ∃ y, evA σ x = some (.hd y v)) (hh : getk q σ.heap = some (v, .osl t' sz (l.map f))) (hi : evA σ i = some (.int k n)) (he : T.elem t = some e) (hs : T.size e = some sz)
    (hb : 0 ≤ n ∧ n < l.length) (hd : dok d σ.nt = true) (hK : K (σ.put d (.rptr q v sz n.toNat 0))) : ValOk P c ⟨d, .indexAddr t x i, ty, pos, af, g⟩ σ K :=
  v_idxH hT hx hh hi he hs hb.1 (by rw [List.length_map]; exact hb.2) hd hK
theorem v_loadRM (hT : TabOk P T) {t t' k sz off n : Nat} {i : Int} {v : Value} {g' : Bool} {x : Operand} {row ls : List AV} {av : AV} (hx : evA σ x = some (.rptr k v sz i.toNat off)) (hh : getk k σ.heap = some (v, .osl t' sz (l.map f))) (hb : 0 ≤ i ∧ i < l.length) (hrow : f (ix l i) = row)
    (hs : T.size t = some n) (hg : T.agg t = some g') (hw : win row off n = some ls) (hp : plainC ls = true) (hm : mkA g' ls = some av) (hd : dok d σ.nt = true) (hK : K (σ.put d av)) : ValOk P c ⟨d, .load t x, ty, pos, af, g⟩ σ K :=
  v_loadR hT hx hh (by rw [get_map hb.1 hb.2, hrow]) hs hg hw hp hm hd hK
theorem v_indexM (hT : TabOk P T) {t : TypeId} {x i : Operand} {k : IntKind} {n : Int} {s : List UInt8} (hx : evA σ x = some (.str s)) (hi : evA σ i = some (.int k n)) (hk : T.kind t = some .string) (hb : 0 ≤ n ∧ n < s.length)
    (hd : dok d σ.nt = true) (hK : K (σ.put d (.int .u8 (byt s n)))) : ValOk P c ⟨d, .index t x i, ty, pos, af, g⟩ σ K := v_index hT hx hi hk hb.1 hb.2 hd hK
theorem v_sliceSM (hT : TabOk P T) {t : TypeId} {x : Operand} {lo hi : Option Operand} {s : List UInt8} {i j : Int} {jj : Option Int} (hx : evA σ x = some (.str s)) (hlo : loA σ lo = some i) (hhi : hiA σ hi = some jj) (hjj : jj.getD s.length = j) (hk : T.kind t = some .string)
    (hb : 0 ≤ i ∧ i ≤ j ∧ j ≤ s.length) (hd : dok d σ.nt = true) (hK : K (σ.put d (.str (sub s i j)))) : ValOk P c ⟨d, .slice t x lo hi none, ty, pos, af, g⟩ σ K :=
  v_sliceS hT hx hlo hhi hk hb.1 (by rw [hjj]; exact hb.2.1) (by rw [hjj]; exact hb.2.2) (by rw [hjj]; rfl) hd hK
theorem v_sliceM {z : Bool} (hT : TabOk P T) {t e sz : TypeId} {x : Operand} {lo hi : Option Operand} {i j : Int} {jj : Option Int} (hx : evA σ x = some (.sl z (l.map f))) (hlo : loA σ lo = some i) (hhi : hiA σ hi = some jj) (hjj : jj.getD l.length = j) (he : T.elem t = some e) (hs : T.size e = some sz)
    (hf : ∀ x, (f x).length = sz) (hb : 0 ≤ i ∧ i ≤ j ∧ j ≤ l.length) (hd : dok d σ.nt = true) (hK : K (σ.put d (.sl z ((sub l i j).map f)))) : ValOk P c ⟨d, .slice t x lo hi none, ty, pos, af, g⟩ σ K :=
  v_sliceL hT hx hlo hhi he hs (fun r hr => by obtain ⟨y, _, rfl⟩ := List.mem_map.1 hr; exact hf y) hb.1 (by rw [List.length_map, hjj]; exact hb.2.1) (by rw [List.length_map, hjj]; exact hb.2.2) (by rw [List.length_map, hjj]; unfold sub; rw [List.map_drop, List.map_take]) hd hK
theorem o_appendHM (hT : TabOk P T) {t e sz by_ q r k e2 : Nat} {x y : Operand} {v vz : Value} {l3 : List α} (hx : ∃ n, evA σ x = some (.hd n v)) (hh : getk q σ.heap = some (v, .osl e sz (l.map f))) (hy : ∃ n, evA σ y = some (.hd n vz)) (hh2 : getk r σ.heap = some (vz, .osl e2 sz (l2.map f))) (hqr : (q == r) = false)
    (he : T.elem t = some e) (hsz : T.size e = some sz) (hby : T.bytes e = some by_) {zl : List AV} (hz : T.zero e = some zl) (hzl : zl.length = sz) (h0 : 0 < sz) (hb0 : 0 < by_) (hc : ∀ x, cellsOk (f x) = true) (hl : l ++ l2 = l3) (hk : has k (minus σ.heap [q, r]) = false) (hd : dok d σ.nt = true)
    (hfit : l3.length * by_ ≤ 140737488355328)
    (hK : ∀ v', K ({ σ with heap := (k, (v', .osl e sz (l3.map f))) :: minus σ.heap [q, r] }.put d (.hd k v'))) : OpOk P c ⟨d, .call ⟨.builtin .append, #[x, y], #[t, t]⟩, ty, pos, af, g⟩ σ K :=
  o_appendH hT hx hh hy hh2 hqr he hsz hby (by rw [hz]; simp [hzl]) h0 hb0 (fun r hr => by obtain ⟨y, _, rfl⟩ := List.mem_map.1 hr; exact hc y) (by rw [← List.map_append, hl]) hk hd (by subst hl; simpa using hfit) hK
theorem o_appendSM {z : Bool} (hT : TabOk P T) {t e sz by_ q k : Nat} {x y : Operand} {v : Value} {l3 : List α} (hx : ∃ n, evA σ x = some (.hd n v)) (hh : getk q σ.heap = some (v, .osl e sz (l.map f))) (hy : evA σ y = some (.sl z (l2.map f)))
    (he : T.elem t = some e) (hsz : T.size e = some sz) (hby : T.bytes e = some by_) {zl : List AV} (hz : T.zero e = some zl) (hzl : zl.length = sz) (h0 : 0 < sz) (hb0 : 0 < by_) (hf : ∀ x, (f x).length = sz) (hc : ∀ x, cellsOk (f x) = true) (hl : l ++ l2 = l3) (hk : has k (minus σ.heap [q]) = false) (hd : dok d σ.nt = true)
    (hfit : l3.length * by_ ≤ 140737488355328)
    (hK : ∀ v', K ({ σ with heap := (k, (v', .osl e sz (l3.map f))) :: minus σ.heap [q] }.put d (.hd k v'))) : OpOk P c ⟨d, .call ⟨.builtin .append, #[x, y], #[t, t]⟩, ty, pos, af, g⟩ σ K :=
  o_appendS hT hx hh hy he hsz hby (by rw [hz]; simp [hzl]) h0 hb0 (fun r hr => by obtain ⟨y, _, rfl⟩ := List.mem_map.1 hr; exact hf y) (fun r hr => by obtain ⟨y, _, rfl⟩ := List.mem_map.1 hr; exact hc y) (by rw [← List.map_append, hl]) hk hd (by subst hl; simpa using hfit) hK
theorem o_sliceHM (hT : TabOk P T) {t e sz q k : Nat} {x : Operand} {lo hi : Option Operand} {v : Value} {j : Int} {jj : Option Int} (hx : ∃ n, evA σ x = some (.hd n v)) (hh : getk q σ.heap = some (v, .osl e sz (l.map f))) (he : T.elem t = some e) (hsz : T.size e = some sz) (hlo : loA σ lo = some 0) (hhi : hiA σ hi = some jj) (hjj : jj.getD l.length = j)
    (hk : has k (minus σ.heap [q]) = false) (hd : dok d σ.nt = true) (hb : 0 ≤ j ∧ j ≤ l.length)
    (hK : ∀ v', K ({ σ with heap := (k, (v', .osl e sz ((l.take j.toNat).map f))) :: minus σ.heap [q] }.put d (.hd k v'))) : OpOk P c ⟨d, .slice t x lo hi none, ty, pos, af, g⟩ σ K :=
  o_sliceH hT hx hh he hsz hlo hhi (by rw [List.length_map]; exact hjj) (by rw [List.map_take]) hk hd hb.1 (by rw [List.length_map]; exact hb.2) hK
theorem o_storeRM (hT : TabOk P T) {t n q sz off : Nat} {i : Int} {u : TypeId} {pv : Value} {x y : Operand} {v : AV} {row vs row' : List AV} {z : α} (hx : evA σ x = some (.rptr q pv sz i.toNat off)) (hh : getk q σ.heap = some (pv, .osl u sz (l.map f))) (hs : T.size t = some n) (hy : evA σ y = some v)
    (hb : 0 ≤ i ∧ i < l.length) (hrow : f (ix l i) = row) (hvs : cellsA v = vs) (hl : vs.length = n) (hin : off + n ≤ sz) (hc : cellsOk vs = true) (hcs : splice row off vs = row') (hz : f z = row') (hd : dok d σ.nt = true)
    (hK : K ({ σ with heap := (q, (pv, .osl u sz ((l.set i.toNat z).map f))) :: minus σ.heap [q] }.put d .und)) : OpOk P c ⟨d, .store t x y, ty, pos, af, g⟩ σ K :=
  o_storeR hT hx hh hs hy (by rw [get_map hb.1 hb.2, hrow]) hvs hl hin hc hcs hd (by rw [← hz, ← List.map_set]; exact hK)
theorem o_makeM (hT : TabOk P T) {t e sz by_ k : Nat} {x y : Operand} {k1 k2 : IntKind} {n : Int} {z : List AV} {zz : α} (he : T.elem t = some e) (hsz : T.size e = some sz) (hby : T.bytes e = some by_) (hz : T.zero e = some z) (hx : evA σ x = some (.int k1 n)) (hy : evA σ y = some (.int k2 n)) (h4 : z.length = sz) (h5 : 0 < sz) (hzz : WkL [] (f zz) z)
    (hk : has k σ.heap = false) (hd : dok d σ.nt = true) (hb : 0 ≤ n ∧ by_ * n ≤ 281474976710656)
    (h3 : n ≤ 9223372036854775807)
    (hK : ∀ v', K ({ σ with heap := (k, (v', .osl e sz ((List.replicate n.toNat zz).map f))) :: σ.heap }.put d (.hd k v'))) : OpOk P c ⟨d, .makeSlice t x y, ty, pos, af, g⟩ σ K :=
  o_makeSlice hT he hsz hby hz hx hy h4 h5 hk hd hb.1 hb.2 h3 hzz (by rw [List.map_replicate] at hK; exact hK)

/-- A call that is handed one variable to write on. -/
theorem o_callP {fn : FuncId} {avs avs1 : List AV} {r0 : AV} {q b : Nat} {t : TypeId} {cs cs' : List AV} (hcore : Core P c σ o fn avs) (hS : Does P fn avs1 [(0, (.pointer (some ⟨b, 0, none⟩), .optr t cs))] (fun r h' => r = r0 ∧ h' = [(0, (.pointer (some ⟨b, 0, none⟩), .optr t cs'))]))
    (hargs : WkL [] avs1 avs) (hh : getk q σ.heap = some (.pointer (some ⟨b, 0, none⟩), .optr t cs)) (hd : dok o.dst σ.nt = true)
    (hK : K ({ σ with heap := (q, (.pointer (some ⟨b, 0, none⟩), .optr t cs')) :: minus σ.heap [q] }.put o.dst r0)) : OpOk P c o σ K := by
  refine o_call [] [] [q] hcore hS trivial hargs ⟨hh, trivial⟩ (by simp) (fun y h => by cases h) ?_
  rintro r h' ⟨rfl, rfl⟩
  refine ⟨r, [(q, _)], .refl _, rfl, by simp [keys], by simp [keys], fun x hx => ?_, .inl rfl, hd, hK⟩
  simp [keys] at hx
  subst hx
  unfold has
  rw [List.contains_eq_mem]
  simp only [decide_eq_false_iff_not]
  intro h
  exact (mem_minus h).1 (by simp)

/-- A text of bytes, each a whole number. -/
def ofI (l : List Int) : List UInt8 := l.map fun n => UInt8.ofNat n.toNat
theorem strOfNums_eq (l : List Int) : strOfNums l = ⟨(ofI l).toArray⟩ := rfl
theorem bytesI_run (hT : TabOk P T) {s t e : TypeId} (he : T.elem s = some e) (hk : T.kind e = some (.int .u8)) (ht : T.kind t = some .string) {l : List Int} {v : Value} {w : World}
    (hv : (v = nilV ∧ l = []) ∨ (∃ ad cap, v = .slice (some ad) 0 cap ∧ l = []) ∨ ∃ b off cap, v = .slice (some ⟨b, off, none⟩) l.length cap ∧ ∀ (i : Nat) x, l[i]? = some x → w.cell? ⟨b, off + i, none⟩ = some (.int .u8 x)) : (convert s t v).run P w = .ok (.string ⟨(ofI l).toArray⟩) w := by
  obtain ⟨d1, h1, h1'⟩ := hT.kind hk
  have hd1 : d1 = .int .u8 := by cases d1 <;> simp [shOf] at h1' <;> rw [h1']
  subst hd1
  obtain ⟨d2, h2, h2'⟩ := hT.kind ht
  have hd2 : d2 = .string := by cases d2 <;> simp [shOf] at h2' <;> rfl
  subst hd2
  rcases hv with ⟨rfl, rfl⟩ | ⟨ad, cap, rfl, rfl⟩ | ⟨b, off, cap, rfl, hc⟩
  · rw [run_convert_bytes_nil w s e (hT.elem he) h1 0 0 t h2]; rfl
  · rw [run_convert_bytes_string w s t e _ 0 cap (hT.elem he) h1 h2, run_bytesToString w ad 0 cap [] (by simpa using run_loadCells_list (P := P) w ad [] (fun j v h => by simp at h))]; rfl
  · rw [run_convert_bytes_arg w s e (hT.elem he) h1 b off l.length cap l rfl (fun i hi => by rw [hc i l[i] (List.getElem?_eq_getElem hi)]; simp [List.getD, hi]) t h2, strOfNums_eq]
theorem v_bytesLI {z : Bool} (hT : TabOk P T) {s t e : TypeId} {x : Operand} {l : List Int} (hx : evA σ x = some (.sl z (l.map (encI .u8)))) (he : T.elem s = some e) (hk : T.kind e = some (.int .u8)) (ht : T.kind t = some .string) (hd : dok d σ.nt = true) (hK : K (σ.put d (.str (ofI l)))) : ValOk P c ⟨d, .convert s t x, ty, pos, af, g⟩ σ K :=
  mkV hd hK fun F N a w hr => by
    have hp := evA_rel hr hx
    have hlen := hp.len
    generalize hv : a.eval x = vx at hp
    refine ⟨.string ⟨(ofI l).toArray⟩, .str _ (by simpa [ofI] using hlen), fun w' hw => ?_⟩
    have : (convert s t vx).run P w' = .ok (.string ⟨(ofI l).toArray⟩) w' := bytesI_run hT he hk ht (by
      generalize hrows : l.map (encI .u8) = rows at hp
      cases hp with
      | slNil => exact .inl ⟨rfl, by simpa using hrows⟩
      | sl _ _ ad cap sz u hs hc hm h1 h2 h3 h4 =>
        rcases Nat.eq_zero_or_pos rows.length with h0 | h0
        · have hl0 : l = [] := by
            have : rows = [] := List.eq_nil_of_length_eq_zero h0
            rw [this] at hrows; simpa using hrows
          subst hl0
          simp at hrows
          subst hrows
          exact .inr (.inl ⟨ad, cap, rfl, rfl⟩)
        · obtain ⟨b, off, sp⟩ := ad
          have hsp := hs h0
          simp only at hsp; subst hsp
          refine .inr (.inr ⟨b, off, cap, by rw [← hrows]; simp, fun i x hi => ?_⟩)
          have hrow : rows[i]? = some (encI .u8 x) := by rw [← hrows, List.getElem?_map, hi]; rfl
          have hsz := h1 i _ hrow
          have h4 := h2 i _ 0 _ hrow rfl
          have h5 := h3 i _ 0 _ hrow rfl
          have e1 : sz = 1 := by rw [← hsz]; rfl
          subst e1
          cases h5u : u i 0 with
          | int k n =>
            rw [h5u] at h5
            cases h5
            have := hw.cell h4.2
            rw [h5u] at this
            simpa using this
          | _ => rw [h5u] at h5; cases h5)
    simp [execOp, hv, this]
theorem v_bytesHI (hT : TabOk P T) {s t e q e' sz : TypeId} {x : Operand} {v : Value} {l : List Int} (hx : ∃ n, evA σ x = some (.hd n v)) (hh : getk q σ.heap = some (v, .osl e' sz (l.map (encI .u8)))) (he : T.elem s = some e) (hk : T.kind e = some (.int .u8)) (ht : T.kind t = some .string) (hd : dok d σ.nt = true) (hK : K (σ.put d (.str (ofI l)))) : ValOk P c ⟨d, .convert s t x, ty, pos, af, g⟩ σ K :=
  mkV hd hK fun F N a w hr => by
    obtain ⟨n, hx⟩ := hx
    have hv := evA_rel hr hx
    have e1 : a.eval x = v := by generalize a.eval x = z at hv; cases hv; rfl
    have ho := hr.heap.own q _ _ hh
    have hlen : l.length ≤ maxLen := by
      generalize hrows : l.map (encI .u8) = rows at ho
      have hll : rows.length = l.length := by rw [← hrows]; simp
      cases ho with
      | frz _ _ _ h => cases h
      | osl0 => simp at hll; omega
      | osl _ _ _ _ b cap arr G u hb hhb hsz hl hm => omega
    refine ⟨.string ⟨(ofI l).toArray⟩, .str _ (by simpa [ofI] using hlen), fun w' hw => ?_⟩
    have : (convert s t v).run P w' = .ok (.string ⟨(ofI l).toArray⟩) w' := bytesI_run hT he hk ht (by
      generalize hrows : l.map (encI .u8) = rows at ho
      cases ho with
      | frz _ _ _ h => cases h
      | osl0 => exact .inl ⟨rfl, by simpa using hrows⟩
      | osl _ _ _ _ b cap arr G u hb hhb hsz hl hm h1 hG hdj hcc hoo =>
        refine .inr (.inr ⟨b, 0, cap, by rw [← hrows]; simp, fun i x hi => ?_⟩)
        have hrow : rows[i]? = some (encI .u8 x) := by rw [← hrows, List.getElem?_map, hi]; rfl
        have hsz' := h1 i _ hrow
        have h4 := hcc i _ 0 _ hrow rfl
        have h5 := hoo i _ 0 _ hrow rfl
        have e1 : sz = 1 := by rw [← hsz']; rfl
        subst e1
        have hcell : w.cell? ⟨b, 0 + i, none⟩ = some (u i 0) := by simp only [World.cell?, hhb]; simpa using h4
        generalize u i 0 = ui at h5 hcell
        cases h5 with
        | frz _ _ _ h5 => cases h5; exact hw.cell hcell)
    simp [execOp, e1, this]
end

/-- How a round, or a part, ends: it goes on, or it returns. -/
inductive Lp (α β : Type) where
  | go (a : α)
  | ret (b : β)
def Lp.then {α β : Type} (o : Lp α β) (f : α → Option β) : Option β := match o with | .go a => f a | .ret b => some b
theorem unret {α β : Type} {m : Option β} {oj : Lp α β} {f : α → Option β} {o : β} (h : (m.bind fun z => some (Lp.ret z)) = some oj) (hJ : oj.then f = some o) : m = some o := by
  obtain ⟨z, hz, h⟩ := bnd h
  cases h
  exact hz.trans hJ
theorem bsplit (b : Bool) : b = true ∨ b = false := by cases b <;> simp
theorem thenQ_ret {K : St → Prop} {Q : Exit → St → Prop} {σ : St} (h : Q .ret σ) : thenQ K Q .ret σ := h
theorem blockQ_ret {id : Nat} {Q : Exit → St → Prop} {σ : St} (h : Q .ret σ) : blockQ id Q .ret σ := h
theorem blockQ_norm {id : Nat} {Q : Exit → St → Prop} {σ : St} (h : Q .normal σ) : blockQ id Q .normal σ := h
/-- What follows gets a name. -/
theorem good_named {P : Program} {c : Cx} {x : Code} {σ : St} {Q : Exit → St → Prop} (h : ∀ K : St → Prop, (∀ σ', Q .normal σ' → K σ') → Good P c x σ (thenQ K Q)) : Good P c x σ Q :=
  (h (Q .normal) fun _ h => h).mono (by intro e σ' h; cases e <;> exact h)
end Go.Bb
end
