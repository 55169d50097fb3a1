/- What an abstract value says of a machine value, what is owned, and the rules by which code is walked over abstract states; the conditions stand in each theorem. -/
import Derived.Calls
import Derived.LoopN
import Derived.Laws.Sem
import Derived.Laws.World
import GoSem.ClaimData
/-! Abstract values: a slice that is only read is its elements' cells, a string its bytes; what is the call's own is named by a number. -/
set_option linter.unusedVariables false
set_option linter.unusedSimpArgs false
namespace Go.Bb

inductive AV where
  | int (k : IntKind) (n : Int)
  | bool (b : Bool)
  | str (l : List UInt8)
  | raw (v : Value)
  | sl (z : Bool) (rows : List (List AV))
  | osl (t : TypeId) (sz : Nat) (rows : List (List AV))
  | hd (x : Nat) (v : Value)
  | ptr (x b off : Nat)
  | eptr (cells : List AV)
  | optr (t : TypeId) (cells : List AV)
  | rptr (x : Nat) (v : Value) (sz i off : Nat)
  | agg (cs : List AV)
  | tup (vs : List AV)
  | ifc (t : TypeId) (v : AV)
  | clo (fn : Fn) (caps : List AV)
  | adr (b : Nat)
  | one
  | spt (rows : List (List AV))
  | nil
  | und
  deriving Inhabited

abbrev nilV : Value := .slice none 0 0

/-- The block is cells, none of them frozen. -/
def Fz (w : World) (b : Nat) : Prop := ∃ arr t, w.heap[b]? = some (.cells arr t (0, 0))

/-- The abstract value 'av' and the machine's value 'v', in the world w; no block of N is looked into. -/
inductive RelV (N : Nat → Prop) (w : World) : AV → Value → Prop
  | int (k : IntKind) (n : Int) : RelV N w (.int k n) (.int k n)
  | bool (b : Bool) : RelV N w (.bool b) (.bool b)
  | str (l : List UInt8) (h : l.length ≤ maxLen) : RelV N w (.str l) (.string ⟨l.toArray⟩)
  | raw (v : Value) (h : v.oneCell' = true) : RelV N w (.raw v) v
  | nil : RelV N w .nil (.slice none 0 0)
  | slNil (z : Bool) : RelV N w (.sl z []) (.slice none 0 0)
  | sl (z : Bool) (rows : List (List AV)) (a : Addr) (cap sz : Nat) (u : Nat → Nat → Value) (hs : 0 < rows.length → a.spot = none) (hc : rows.length ≤ cap) (hm : cap ≤ maxLen)
      (h1 : ∀ (i : Nat) (row : List AV), rows[i]? = some row → row.length = sz)
      (h2 : ∀ (i : Nat) (row : List AV) (j : Nat) av, rows[i]? = some row → row[j]? = some av → ¬ N a.block ∧ w.cell? ⟨a.block, a.off + (i * sz + j), none⟩ = some (u i j))
      (h3 : ∀ (i : Nat) (row : List AV) (j : Nat) av, rows[i]? = some row → row[j]? = some av → RelV N w av (u i j))
      (h4 : z = true → ∀ (i : Nat) (row : List AV) (j : Nat) av, rows[i]? = some row → row[j]? = some av → Fz w a.block) :
      RelV N w (.sl z rows) (.slice (some a) rows.length cap)
  | hd (x : Nat) (v : Value) (h : v.oneCell' = true) : RelV N w (.hd x v) v
  | ptr (x b off : Nat) : RelV N w (.ptr x b off) (.pointer (some ⟨b, off, none⟩))
  | rptr (x : Nat) (sz i off b n cap : Nat) : RelV N w (.rptr x (.slice (some ⟨b, 0, none⟩) n cap) sz i off) (.pointer (some ⟨b, i * sz + off, none⟩))
  | eptr (cells : List AV) (a : Addr) (u : Nat → Value) (hs : a.spot = none)
      (h2 : ∀ (j : Nat) av, cells[j]? = some av → ¬ N a.block ∧ w.cell? ⟨a.block, a.off + j, none⟩ = some (u j))
      (h3 : ∀ (j : Nat) av, cells[j]? = some av → RelV N w av (u j)) : RelV N w (.eptr cells) (.pointer (some a))
  | agg (cs : List AV) (vs : Array Value) (hl : vs.size = cs.length) (h : ∀ (i : Nat) av v, cs[i]? = some av → vs[i]? = some v → RelV N w av v) : RelV N w (.agg cs) (.agg vs)
  | tup (cs : List AV) (vs : Array Value) (hl : vs.size = cs.length) (h : ∀ (i : Nat) av v, cs[i]? = some av → vs[i]? = some v → RelV N w av v) : RelV N w (.tup cs) (.tuple vs)
  | ifc (t : TypeId) (av : AV) (v : Value) (h : RelV N w av v) : RelV N w (.ifc t av) (.iface t v)
  | clo (fn : Fn) (caps : List AV) (vs : Array Value) (hl : vs.size = caps.length) (h : ∀ (i : Nat) av v, caps[i]? = some av → vs[i]? = some v → RelV N w av v) : RelV N w (.clo fn caps) (.func fn #[] vs)
  | adr0 (b : Nat) : RelV N w (.adr b) (.pointer none)
  | adr (b : Nat) : RelV N w (.adr b) (.pointer (some ⟨b, 0, none⟩))
  | any (v : Value) (h : v.oneCell' = true) : RelV N w .one v
  | spt0 : RelV N w (.spt []) (.pointer none)
  | spt (rows : List (List AV)) (a : Addr) (cap : Nat) (hne : rows ≠ []) (h : RelV N w (.sl true rows) (.slice (some a) rows.length cap)) : RelV N w (.spt rows) (.pointer (some a))
  | und : RelV N w .und (.tuple #[])

/-- w' has what w had, but for the blocks of N. -/
def Later (N : Nat → Prop) (w w' : World) : Prop := w.heap.size ≤ w'.heap.size ∧ ∀ k, k < w.heap.size → ¬ N k → w'.heap[k]? = w.heap[k]?

theorem Later.refl (N : Nat → Prop) (w : World) : Later N w w := ⟨Nat.le_refl _, fun _ _ _ => rfl⟩
theorem Later.trans {N N' : Nat → Prop} {a b c : World} (h : Later N a b) (k : Later N' b c) (hn : ∀ i, i < a.heap.size → N' i → N i) : Later N a c :=
  ⟨Nat.le_trans h.1 k.1, fun i hi hN => by rw [k.2 i (Nat.lt_of_lt_of_le hi h.1) (fun h' => hN (hn i hi h')), h.2 i hi hN]⟩

theorem cell_lt {w : World} {a : Addr} {v : Value} (h : w.cell? a = some v) : a.block < w.heap.size := by
  unfold World.cell? at h
  split at h
  · rename_i c e f hb
    exact (Array.getElem?_eq_some_iff.1 hb).1
  · cases h

theorem Later.cell {N : Nat → Prop} {w w' : World} (h : Later N w w') {a : Addr} {v : Value} (hN : ¬ N a.block) (hc : w.cell? a = some v) : w'.cell? a = some v := by
  have := h.2 a.block (cell_lt hc) hN
  unfold World.cell? at *
  rw [this]; exact hc

/-- What was read is read later, where what may be written is not looked into. -/
theorem RelV.mono {N N' : Nat → Prop} {w w' : World} {av : AV} {v : Value} (h : RelV N w av v) (hl : Later N w w') (hn : ∀ i, i < w.heap.size → N' i → N i) : RelV N' w' av v := by
  induction h with
  | int k n => exact .int k n
  | bool b => exact .bool b
  | str l h => exact .str l h
  | raw v h => exact .raw v h
  | nil => exact .nil
  | slNil z => exact .slNil z
  | any v h => exact .any v h
  | spt0 => exact .spt0
  | spt rows a cap hne h ih => exact .spt rows a cap hne ih
  | sl z rows a cap sz u hs hc hm h1 h2 h3 h4 ih =>
    refine .sl z rows a cap sz u hs hc hm h1 (fun i row j av hi hj => ?_) ih (fun hz i row j av hi hj => ?_)
    case refine_2 =>
      obtain ⟨hN, hcell⟩ := h2 i row j av hi hj
      obtain ⟨arr, t, hh⟩ := h4 hz i row j av hi hj
      exact ⟨arr, t, (hl.2 _ (cell_lt (a := ⟨a.block, _, none⟩) hcell) hN).trans hh⟩
    obtain ⟨hN, hcell⟩ := h2 i row j av hi hj
    exact ⟨fun h' => hN (hn _ (cell_lt (a := ⟨a.block, _, none⟩) hcell) h'), hl.cell (a := ⟨a.block, _, none⟩) hN hcell⟩
  | hd x v h => exact .hd x v h
  | ptr x b off => exact .ptr x b off
  | rptr x sz i off b n cap => exact .rptr x sz i off b n cap
  | eptr cells a u hs h2 h3 ih =>
    refine .eptr cells a u hs (fun j av hj => ?_) ih
    obtain ⟨hN, hcell⟩ := h2 j av hj
    exact ⟨fun h' => hN (hn _ (cell_lt (a := ⟨a.block, _, none⟩) hcell) h'), hl.cell (a := ⟨a.block, _, none⟩) hN hcell⟩
  | agg cs vs hl' h ih => exact .agg cs vs hl' ih
  | tup cs vs hl' h ih => exact .tup cs vs hl' ih
  | ifc t av v h ih => exact .ifc t av v ih
  | clo fn caps vs hl' h ih => exact .clo fn caps vs hl' ih
  | adr0 b => exact .adr0 b
  | adr b => exact .adr b
  | und => exact .und

/-- 'av' is 'v', with all the memory that it owns in S. -/
inductive OwnV (N : Nat → Prop) (w : World) : (Nat → Prop) → AV → Value → Prop
  | frz (S : Nat → Prop) (av : AV) (v : Value) (h : RelV N w av v) : OwnV N w S av v
  | osl0 (S : Nat → Prop) (t : TypeId) (sz : Nat) : OwnV N w S (.osl t sz []) (.slice none 0 0)
  | osl (S : Nat → Prop) (t : TypeId) (sz : Nat) (rows : List (List AV)) (b cap : Nat) (arr : Array Value) (G : Nat → Nat → Nat → Prop) (u : Nat → Nat → Value)
      (hb : S b) (hh : w.heap[b]? = some (.cells arr t (0, 0))) (hsz : arr.size = cap * sz) (hl : rows.length ≤ cap) (hm : cap ≤ maxLen)
      (hr : ∀ (i : Nat) (row : List AV), rows[i]? = some row → row.length = sz)
      (hG : ∀ i j k, G i j k → S k ∧ k ≠ b) (hd : ∀ i j i' j' k, G i j k → G i' j' k → i = i' ∧ j = j')
      (hc : ∀ (i : Nat) (row : List AV) (j : Nat) av, rows[i]? = some row → row[j]? = some av → arr[i * sz + j]? = some (u i j))
      (ho : ∀ (i : Nat) (row : List AV) (j : Nat) av, rows[i]? = some row → row[j]? = some av → OwnV N w (G i j) av (u i j)) :
      OwnV N w S (.osl t sz rows) (.slice (some ⟨b, 0, none⟩) rows.length cap)
  | optr (S : Nat → Prop) (t : TypeId) (cs : List AV) (b : Nat) (arr : Array Value) (G : Nat → Nat → Prop) (u : Nat → Value)
      (hb : S b) (hh : w.heap[b]? = some (.cells arr t (0, 0))) (hsz : arr.size = cs.length)
      (hG : ∀ j k, G j k → S k ∧ k ≠ b) (hd : ∀ j j' k, G j k → G j' k → j = j')
      (hc : ∀ (j : Nat) av, cs[j]? = some av → arr[j]? = some (u j))
      (ho : ∀ (j : Nat) av, cs[j]? = some av → OwnV N w (G j) av (u j)) :
      OwnV N w S (.optr t cs) (.pointer (some ⟨b, 0, none⟩))

theorem OwnV.mono {N N' : Nat → Prop} {w w' : World} {S : Nat → Prop} {av : AV} {v : Value} (h : OwnV N w S av v) (hl : Later N w w') (hn : ∀ i, i < w.heap.size → N' i → N i)
    (hS : ∀ k, k < w.heap.size → S k → w'.heap[k]? = w.heap[k]?) : OwnV N' w' S av v := by
  induction h with
  | frz S av v h => exact .frz S av v (h.mono hl hn)
  | osl0 S t sz => exact .osl0 S t sz
  | osl S t sz rows b cap arr G u hb hh hsz hl' hm hr hG hd hc ho ih =>
    exact .osl S t sz rows b cap arr G u hb ((hS b (Array.getElem?_eq_some_iff.1 hh).1 hb).trans hh) hsz hl' hm hr hG hd hc (fun i row j av h1 h2 => ih i row j av h1 h2 (fun k hk hg => hS k hk (hG i j k hg).1))
  | optr S t cs b arr G u hb hh hsz hG hd hc ho ih =>
    exact .optr S t cs b arr G u hb ((hS b (Array.getElem?_eq_some_iff.1 hh).1 hb).trans hh) hsz hG hd hc (fun j av h1 => ih j av h1 (fun k hk hg => hS k hk (hG j k hg).1))

theorem OwnV.sub {N : Nat → Prop} {w : World} {S S' : Nat → Prop} {av : AV} {v : Value} (h : OwnV N w S av v) (hS : ∀ k, S k → S' k) : OwnV N w S' av v := by
  cases h with
  | frz _ _ _ h => exact .frz _ _ _ h
  | osl0 _ t sz => exact .osl0 _ t sz
  | osl _ t sz rows b cap arr G u hb hh hsz hl' hm hr hG hd hc ho => exact .osl _ t sz rows b cap arr G u (hS b hb) hh hsz hl' hm hr (fun i j k h => ⟨hS k (hG i j k h).1, (hG i j k h).2⟩) hd hc ho
  | optr _ t cs b arr G u hb hh hsz hG hd hc ho => exact .optr _ t cs b arr G u (hS b hb) hh hsz (fun j k h => ⟨hS k (hG j k h).1, (hG j k h).2⟩) hd hc ho

/-! ### States -/

def getk {α : Type} (k : Nat) : List (Nat × α) → Option α
  | [] => none
  | (i, x) :: l => if i = k then some x else getk k l
def keys {α : Type} (l : List (Nat × α)) : List Nat := l.map (·.1)

theorem get_mem_keys {α : Type} {k : Nat} {l : List (Nat × α)} {x : α} (h : getk k l = some x) : k ∈ keys l := by
  induction l with
  | nil => cases h
  | cons p l ih =>
    obtain ⟨i, y⟩ := p
    simp only [getk] at h
    split at h
    · rename_i e; simp [keys, e]
    · have := ih h; simp [keys] at this ⊢; exact .inr this
theorem mem_keys_get {α : Type} {k : Nat} : ∀ {l : List (Nat × α)}, k ∈ keys l → ∃ x, getk k l = some x
  | [], h => by simp [keys] at h
  | (i, y) :: l, h => by
    simp only [getk]
    by_cases hi : i = k
    · exact ⟨y, by simp [hi]⟩
    · simp only [hi, if_false]
      exact mem_keys_get (by simp only [keys, List.map_cons, List.mem_cons] at h; exact h.resolve_left (fun h => hi h.symm))
theorem get_mem {α : Type} {k : Nat} {x : α} : ∀ {l : List (Nat × α)}, getk k l = some x → (k, x) ∈ l
  | [], h => by cases h
  | (i, y) :: l, h => by
    simp only [getk] at h
    split at h
    · rename_i e; subst e; cases h; exact List.mem_cons_self
    · exact List.mem_cons_of_mem _ (get_mem h)

abbrev HP := List (Nat × (Value × AV))

structure St where
  nt : Nat
  slots : List (Nat × AV)
  heap : HP

def St.put (σ : St) (d : Option Tmp) (v : AV) : St := match d with | some d => { σ with slots := (d, v) :: σ.slots } | none => σ
theorem St.put_nt (σ : St) (d : Option Tmp) (v : AV) : (σ.put d v).nt = σ.nt := by cases d <;> rfl
theorem St.put_heap (σ : St) (d : Option Tmp) (v : AV) : (σ.put d v).heap = σ.heap := by cases d <;> rfl

/-- What is owned, each in a part of memory of its own. -/
structure HOk (N : Nat → Prop) (F : Nat → Nat → Prop) (w : World) (h : HP) : Prop where
  own : ∀ x v o, getk x h = some (v, o) → OwnV N w (F x) o v
  foot : ∀ x, x ∈ keys h → ∀ b, F x b → N b ∧ b < w.heap.size
  disj : ∀ x y, x ∈ keys h → y ∈ keys h → x ≠ y → ∀ b, F x b → ¬ F y b
  one : ∀ x v o, getk x h = some (v, o) → v.oneCell' = true

/-- What stays the same through a call: the world in which it began; which of its blocks may be written; what is not to be looked into. -/
structure Cx where
  w0 : World
  M : Nat → Prop
  N0 : Nat → Prop

structure Unch (M : Nat → Prop) (w w' : World) : Prop where
  os : w'.os = w.os
  tape : w'.tape = w.tape
  output : w'.output = w.output
  size : w.heap.size ≤ w'.heap.size
  block : ∀ k, k < w.heap.size → ¬ M k → w'.heap[k]? = w.heap[k]?

theorem Unch.refl (M : Nat → Prop) (w : World) : Unch M w w := ⟨rfl, rfl, rfl, Nat.le_refl _, fun _ _ _ => rfl⟩
theorem Unch.trans {M M' : Nat → Prop} {a b c : World} (h : Unch M a b) (k : Unch M' b c) (hm : ∀ i, i < a.heap.size → M' i → M i) : Unch M a c :=
  ⟨k.os.trans h.os, k.tape.trans h.tape, k.output.trans h.output, Nat.le_trans h.size k.size, fun i hi hM => by
    rw [k.block i (Nat.lt_of_lt_of_le hi h.size) (fun h' => hM (hm i hi h')), h.block i hi hM]⟩
theorem Unch.later {M : Nat → Prop} {w w' : World} (h : Unch M w w') : Later M w w' := ⟨h.size, h.block⟩

structure Rel (c : Cx) (F : Nat → Nat → Prop) (N : Nat → Prop) (σ : St) (a : Act) (w : World) : Prop where
  defers : a.defers = []
  size : a.tmps.size = σ.nt
  slots : ∀ k av, getk k σ.slots = some av → ∃ v, a.tmps[k]? = some v ∧ RelV N w av v
  heap : HOk N F w σ.heap
  may : ∀ x, x ∈ keys σ.heap → ∀ b, F x b → c.M b ∨ c.w0.heap.size ≤ b
  n0 : ∀ k, k < c.w0.heap.size → c.N0 k → N k ∨ c.M k
  unch : Unch c.M c.w0 w

/-- The world went on, and nothing of the call's own was written. -/
theorem HOk.step {N N' : Nat → Prop} {F : Nat → Nat → Prop} {w w' : World} {h : HP} (hh : HOk N F w h) (hu : Unch (fun k => False) w w') (hn : ∀ i, i < w.heap.size → N' i → N i) (hn' : ∀ i, N i → N' i) : HOk N' F w' h where
  own := fun x v o hx => (hh.own x v o hx).mono ⟨hu.size, fun k hk _ => hu.block k hk (fun h => h)⟩ hn (fun k hk _ => hu.block k hk (fun h => h))
  foot := fun x hx b hb => ⟨hn' b (hh.foot x hx b hb).1, Nat.lt_of_lt_of_le (hh.foot x hx b hb).2 hu.size⟩
  disj := hh.disj
  one := hh.one

theorem Rel.step {c : Cx} {F : Nat → Nat → Prop} {N N' : Nat → Prop} {σ : St} {a : Act} {w w' : World} (h : Rel c F N σ a w) (hu : Unch (fun k => False) w w') (hn : ∀ i, i < w.heap.size → N' i → N i) (hn' : ∀ i, N i → N' i) : Rel c F N' σ a w' where
  defers := h.defers
  size := h.size
  slots := fun k av hk => let ⟨v, h1, h2⟩ := h.slots k av hk; ⟨v, h1, h2.mono ⟨hu.size, fun i hi _ => hu.block i hi (fun h => h)⟩ hn⟩
  heap := h.heap.step hu hn hn'
  may := h.may
  n0 := fun k hk hN => (h.n0 k hk hN).imp (hn' _) id
  unch := h.unch.trans hu (fun _ _ h => h.elim)

theorem Rel.put {c : Cx} {F : Nat → Nat → Prop} {N : Nat → Prop} {σ : St} {a : Act} {w : World} (h : Rel c F N σ a w) {d : Option Tmp} {av : AV} {v : Value} (hd : ∀ k, d = some k → k < σ.nt) (hv : RelV N w av v) : Rel c F N (σ.put d av) (a.put d v) w := by
  cases d with
  | none => exact h
  | some d =>
    have hd := hd d rfl
    refine ⟨h.defers, by simp [Act.put, St.put, h.size], fun k av' hk => ?_, h.heap, h.may, h.n0, h.unch⟩
    simp only [St.put, getk] at hk
    simp only [Act.put]
    split at hk
    · rename_i e; subst e; cases hk; exact ⟨v, by simp [h.size, hd], hv⟩
    · rename_i e
      obtain ⟨u, h1, h2⟩ := h.slots k av' hk
      exact ⟨u, by simpa [Array.getElem?_setIfInBounds, e] using h1, h2⟩

/-! ### Freezing: what is owned, read only -/

mutual
inductive Frz : AV → AV → Prop
  | refl (av : AV) (h : (match av with | .osl .. | .optr .. => false | _ => true) = true) : Frz av av
  | osl {t : TypeId} {sz : Nat} {rows rows' : List (List AV)} {z : Bool} (h : FrzLL rows' rows) : Frz (.sl z rows') (.osl t sz rows)
  | optr {t : TypeId} {cs cs' : List AV} (h : FrzL cs' cs) : Frz (.eptr cs') (.optr t cs)
inductive FrzL : List AV → List AV → Prop
  | nil : FrzL [] []
  | cons {a b : AV} {l m : List AV} (h : Frz a b) (t : FrzL l m) : FrzL (a :: l) (b :: m)
inductive FrzLL : List (List AV) → List (List AV) → Prop
  | nil : FrzLL [] []
  | cons {a b : List AV} {l m : List (List AV)} (h : FrzL a b) (t : FrzLL l m) : FrzLL (a :: l) (b :: m)
end

theorem FrzL.get : ∀ {l m : List AV}, FrzL l m → l.length = m.length ∧ ∀ (i : Nat) a, l[i]? = some a → ∃ b, m[i]? = some b ∧ Frz a b
  | _, _, .nil => ⟨rfl, fun i a h => by simp at h⟩
  | _, _, .cons h t => by
    obtain ⟨h1, h2⟩ := FrzL.get t
    refine ⟨by simp [h1], fun i a ha => ?_⟩
    cases i with
    | zero => simp at ha; subst ha; exact ⟨_, rfl, h⟩
    | succ i => simpa using h2 i a (by simpa using ha)
theorem FrzLL.get : ∀ {l m : List (List AV)}, FrzLL l m → l.length = m.length ∧ ∀ (i : Nat) a, l[i]? = some a → ∃ b, m[i]? = some b ∧ FrzL a b
  | _, _, .nil => ⟨rfl, fun i a h => by simp at h⟩
  | _, _, .cons h t => by
    obtain ⟨h1, h2⟩ := FrzLL.get t
    refine ⟨by simp [h1], fun i a ha => ?_⟩
    cases i with
    | zero => simp at ha; subst ha; exact ⟨_, rfl, h⟩
    | succ i => simpa using h2 i a (by simpa using ha)
theorem FrzLL.map {α : Type} {f g : α → List AV} : ∀ {l : List α}, (∀ x ∈ l, FrzL (f x) (g x)) → FrzLL (l.map f) (l.map g)
  | [], _ => .nil
  | x :: l, h => .cons (h x List.mem_cons_self) (FrzLL.map fun y hy => h y (List.mem_cons_of_mem _ hy))

/-- What is owned may be given away to be read. -/
theorem OwnV.freeze {N : Nat → Prop} {w : World} {S : Nat → Prop} {av : AV} {v : Value} (h : OwnV N w S av v) : ∀ {av' : AV} {N1 : Nat → Prop}, Frz av' av → (∀ k, N1 k → N k ∧ ¬ S k) → RelV N1 w av' v := by
  induction h with
  | frz S av v h =>
    intro av' N1 hf hn
    have h' := h.mono (.refl N w) (fun i _ hi => (hn i hi).1)
    cases hf with
    | refl => exact h'
    | osl => cases h
    | optr => cases h
  | osl0 S t sz =>
    intro av' N1 hf hn
    cases hf with
    | refl _ h => cases h
    | osl h => cases h; exact .slNil _
  | osl S t sz rows b cap arr G u hb hh hsz hl' hm hr hG hd hc ho ih =>
    intro av' N1 hf hn
    cases hf with
    | refl _ h => cases h
    | osl h =>
      rename_i rows' zz
      obtain ⟨h1, h2⟩ := h.get
      have key : ∀ (i : Nat) (row : List AV) (j : Nat) av, rows'[i]? = some row → row[j]? = some av → ∃ row0 av0, rows[i]? = some row0 ∧ row0[j]? = some av0 ∧ Frz av av0 := by
        intro i row j av hi hj
        obtain ⟨row0, h3, h4⟩ := h2 i row hi
        obtain ⟨av0, h5, h6⟩ := h4.get.2 j av hj
        exact ⟨row0, av0, h3, h5, h6⟩
      rw [← h1]
      refine .sl _ rows' ⟨b, 0, none⟩ cap sz u (fun _ => rfl) (by omega) hm (fun i row hi => ?_) (fun i row j av hi hj => ?_) (fun i row j av hi hj => ?_) (fun _ _ _ _ _ _ _ => ⟨arr, _, hh⟩)
      · obtain ⟨row0, h3, h4⟩ := h2 i row hi
        rw [h4.get.1]; exact hr i row0 h3
      · obtain ⟨row0, av0, h3, h4, h5⟩ := key i row j av hi hj
        refine ⟨fun hk => (hn b hk).2 hb, ?_⟩
        simp only [World.cell?, hh]
        simpa using hc i row0 j av0 h3 h4
      · obtain ⟨row0, av0, h3, h4, h5⟩ := key i row j av hi hj
        exact ih i row0 j av0 h3 h4 h5 (fun k hk => ⟨(hn k hk).1, fun hg => (hn k hk).2 (hG i j k hg).1⟩)
  | optr S t cs b arr G u hb hh hsz hG hd hc ho ih =>
    intro av' N1 hf hn
    cases hf with
    | refl _ h => cases h
    | optr h =>
      rename_i cs'
      obtain ⟨h1, h2⟩ := h.get
      refine .eptr cs' ⟨b, 0, none⟩ u rfl (fun j av hj => ?_) (fun j av hj => ?_)
      · obtain ⟨av0, h3, h4⟩ := h2 j av hj
        refine ⟨fun hk => (hn b hk).2 hb, ?_⟩
        simp only [World.cell?, hh]
        simpa using hc j av0 h3
      · obtain ⟨av0, h3, h4⟩ := h2 j av hj
        exact ih j av0 h3 h4 (fun k hk => ⟨(hn k hk).1, fun hg => (hn k hk).2 (hG j k hg).1⟩)

/-! ### Weaker states -/

mutual
/-- What fits the second fits the first; Z: what was frozen. -/
inductive Wk (Z : List (Value × AV)) : AV → AV → Prop
  | refl (av : AV) : Wk Z av av
  | hd (x y : Nat) (v : Value) : Wk Z (.hd x v) (.hd y v)
  | nilhd (x : Nat) : Wk Z (.hd x nilV) .nil
  | hdnil (x : Nat) : Wk Z .nil (.hd x nilV)
  | nilsl {z : Bool} : Wk Z (.sl z []) .nil
  | onehd (x : Nat) (v : Value) : Wk Z .one (.hd x v)
  | onenil : Wk Z .one .nil
  | sptnil : Wk Z (.spt []) (.raw (.pointer none))
  | onesl {z : Bool} {rows : List (List AV)} : Wk Z .one (.sl z rows)
  | ptr (x y b off : Nat) : Wk Z (.ptr x b off) (.ptr y b off)
  | rptr (x y : Nat) (v : Value) (sz i off : Nat) : Wk Z (.rptr x v sz i off) (.rptr y v sz i off)
  | adr0 (b : Nat) : Wk Z (.adr b) (.raw (.pointer none))
  | adr (x b : Nat) : Wk Z (.adr b) (.ptr x b 0)
  | frz (x : Nat) (v : Value) (av : AV) (h : (v, av) ∈ Z) : Wk Z av (.hd x v)
  | frzp (x b off : Nat) (cs cs' : List AV) (h : (Value.pointer (some ⟨b, 0, none⟩), AV.eptr cs) ∈ Z) (hd : cs' = cs.drop off) (ho : off ≤ cs.length) : Wk Z (.eptr cs') (.ptr x b off)
  | agg {cs cs' : List AV} (h : WkL Z cs cs') : Wk Z (.agg cs) (.agg cs')
  | tup {cs cs' : List AV} (h : WkL Z cs cs') : Wk Z (.tup cs) (.tup cs')
  | ifc {t : TypeId} {av av' : AV} (h : Wk Z av av') : Wk Z (.ifc t av) (.ifc t av')
  | clo {fn : Fn} {cs cs' : List AV} (h : WkL Z cs cs') : Wk Z (.clo fn cs) (.clo fn cs')
  | optr {t : TypeId} {cs cs' : List AV} (h : WkL Z cs cs') : Wk Z (.optr t cs) (.optr t cs')
inductive WkL (Z : List (Value × AV)) : List AV → List AV → Prop
  | nil : WkL Z [] []
  | cons {a b : AV} {l m : List AV} (h : Wk Z a b) (t : WkL Z l m) : WkL Z (a :: l) (b :: m)
end

theorem WkL.refl {Z : List (Value × AV)} : ∀ (l : List AV), WkL Z l l
  | [] => .nil
  | a :: l => .cons (.refl a) (WkL.refl l)
theorem WkL.get {Z : List (Value × AV)} : ∀ {l m : List AV}, WkL Z l m → l.length = m.length ∧ ∀ (i : Nat) a, l[i]? = some a → ∃ b, m[i]? = some b ∧ Wk Z a b
  | _, _, .nil => ⟨rfl, fun i a h => by simp at h⟩
  | _, _, .cons h t => by
    obtain ⟨h1, h2⟩ := WkL.get t
    refine ⟨by simp [h1], fun i a ha => ?_⟩
    cases i with
    | zero => simp at ha; subst ha; exact ⟨_, rfl, h⟩
    | succ i => simpa using h2 i a (by simpa using ha)

mutual
theorem Wk.rel {Z : List (Value × AV)} {N : Nat → Prop} {w : World} (hZ : ∀ v av, (v, av) ∈ Z → RelV N w av v) : ∀ {av1 av : AV}, Wk Z av1 av → ∀ {u : Value}, RelV N w av u → RelV N w av1 u
  | _, _, .refl av, u, h => h
  | _, _, .hd x y v, u, h => by cases h; exact .hd _ _ (by assumption)
  | _, _, .nilhd x, u, h => by cases h; exact .hd _ _ rfl
  | _, _, .hdnil x, u, h => by cases h; exact .nil
  | _, _, .nilsl, u, h => by cases h; exact .slNil _
  | _, _, .onehd x v, u, h => by cases h; exact .any _ (by assumption)
  | _, _, .onenil, u, h => by cases h; exact .any _ rfl
  | _, _, .sptnil, u, h => by cases h; exact .spt0
  | _, _, .onesl, u, h => by cases h <;> exact .any _ rfl
  | _, _, .ptr x y b off, u, h => by cases h; exact .ptr _ _ _
  | _, _, .rptr x y v sz i off, u, h => by cases h; exact .rptr _ _ _ _ _ _ _
  | _, _, .adr0 b, u, h => by cases h; exact .adr0 _
  | _, _, .adr x b, u, h => by cases h; exact .adr _
  | _, _, .frz x v av hz, u, h => by cases h; exact hZ _ _ hz
  | _, _, .frzp x b off cs cs' hz hd ho, u, h => by
    cases h
    have := hZ _ _ hz
    cases this with
    | eptr _ a u' hs h2 h3 =>
      subst hd
      refine .eptr _ _ (fun j => u' (off + j)) rfl (fun j av hj => ?_) (fun j av hj => ?_)
      · rw [List.getElem?_drop] at hj
        have := h2 _ av hj
        simpa using this
      · rw [List.getElem?_drop] at hj
        exact h3 _ av hj
  | _, _, .agg hl, u, h => by
    cases h with
    | agg _ vs hs hr => exact .agg _ _ (by rw [hl.get.1]; exact hs) (fun i av v h1 h2 => WkL.rel hZ hl (vs := vs) (k := 0) (fun j b x h3 h4 => hr j b x h3 (by simpa using h4)) i av v h1 (by simpa using h2))
  | _, _, .tup hl, u, h => by
    cases h with
    | tup _ vs hs hr => exact .tup _ _ (by rw [hl.get.1]; exact hs) (fun i av v h1 h2 => WkL.rel hZ hl (vs := vs) (k := 0) (fun j b x h3 h4 => hr j b x h3 (by simpa using h4)) i av v h1 (by simpa using h2))
  | _, _, .ifc hk, u, h => by
    cases h with
    | ifc _ _ v hr => exact .ifc _ _ _ (Wk.rel hZ hk hr)
  | _, _, .clo hl, u, h => by
    cases h with
    | clo _ _ vs hs hr => exact .clo _ _ _ (by rw [hl.get.1]; exact hs) (fun i av v h1 h2 => WkL.rel hZ hl (vs := vs) (k := 0) (fun j b x h3 h4 => hr j b x h3 (by simpa using h4)) i av v h1 (by simpa using h2))
  | _, _, .optr hl, u, h => by cases h
theorem WkL.rel {Z : List (Value × AV)} {N : Nat → Prop} {w : World} (hZ : ∀ v av, (v, av) ∈ Z → RelV N w av v) : ∀ {l m : List AV}, WkL Z l m → ∀ {vs : Array Value} {k : Nat}, (∀ (j : Nat) b x, m[j]? = some b → vs[k + j]? = some x → RelV N w b x) →
    ∀ (i : Nat) av v, l[i]? = some av → vs[k + i]? = some v → RelV N w av v
  | _, _, .nil, vs, k, hr, i, av, v, h1, h2 => by simp at h1
  | _, _, .cons h t, vs, k, hr, i, av, v, h1, h2 => by
    cases i with
    | zero => simp at h1; subst h1; exact Wk.rel hZ h (hr 0 _ v rfl h2)
    | succ i => exact WkL.rel hZ t (k := k + 1) (fun j b x h3 h4 => hr (j + 1) b x (by simpa using h3) (by simpa [Nat.add_assoc, Nat.add_comm 1 j] using h4)) i av v (by simpa using h1) (by simpa [Nat.add_assoc, Nat.add_comm 1 i] using h2)
end
end Go.Bb
