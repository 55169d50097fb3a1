/- What an abstract value says of a machine value, and the rules by which code is walked over abstract states; the conditions stand in each theorem. -/
import Derived.Calls
import Derived.LoopN
import Derived.Laws.Sem
import Derived.Laws.World
import GoSem.ClaimData
/-! Abstract values: a slice is its elements' cells, a string its bytes; what is the call's own is named by its block. -/
set_option linter.unusedVariables false
set_option linter.unusedSimpArgs false
namespace Go.Ab

inductive AV where
  | int (k : IntKind) (n : Int)
  | bool (b : Bool)
  | str (l : List UInt8)
  | raw (v : Value)
  | sl (rows : List (List AV))
  | ref (b n cap : Nat)
  | ptr (b off : Nat)
  | eptr (cells : List AV)
  | agg (cs : List AV)
  | tup (vs : List AV)
  | ifc (t : TypeId) (v : AV)
  | clo (fn : Fn) (caps : List AV)
  | mp (b : Nat)
  | nil
  | und
  deriving Inhabited

/-- The abstract value 'av' and the machine's value 'v', in the world w; no block of N is looked into. -/
inductive RelV (N : Nat → Prop) (w : World) : AV → Value → Prop
  | int (k : IntKind) (n : Int) : RelV N w (.int k n) (.int k n)
  | bool (b : Bool) : RelV N w (.bool b) (.bool b)
  | str (l : List UInt8) (h : l.length ≤ maxLen) : RelV N w (.str l) (.string ⟨l.toArray⟩)
  | raw (v : Value) (h : v.oneCell' = true) : RelV N w (.raw v) v
  | nil : RelV N w .nil (.slice none 0 0)
  | slNil : RelV N w (.sl []) (.slice none 0 0)
  | sl (rows : List (List AV)) (a : Addr) (cap sz : Nat) (u : Nat → Nat → Value) (hs : 0 < rows.length → a.spot = none) (hc : rows.length ≤ cap) (hm : cap ≤ maxLen)
      (h1 : ∀ (i : Nat) (row : List AV), rows[i]? = some row → row.length = sz)
      (h2 : ∀ (i : Nat) (row : List AV) (j : Nat) av, rows[i]? = some row → row[j]? = some av → ¬ N a.block ∧ w.cell? ⟨a.block, a.off + (i * sz + j), none⟩ = some (u i j))
      (h3 : ∀ (i : Nat) (row : List AV) (j : Nat) av, rows[i]? = some row → row[j]? = some av → RelV N w av (u i j)) :
      RelV N w (.sl rows) (.slice (some a) rows.length cap)
  | ref (b n cap : Nat) (hc : n ≤ cap) (hm : cap ≤ maxLen) : RelV N w (.ref b n cap) (.slice (some ⟨b, 0, none⟩) n cap)
  | ptr (b off : Nat) : RelV N w (.ptr b off) (.pointer (some ⟨b, off, none⟩))
  | eptr (cells : List AV) (a : Addr) (u : Nat → Value) (hs : a.spot = none)
      (h2 : ∀ (j : Nat) av, cells[j]? = some av → ¬ N a.block ∧ w.cell? ⟨a.block, a.off + j, none⟩ = some (u j))
      (h3 : ∀ (j : Nat) av, cells[j]? = some av → RelV N w av (u j)) : RelV N w (.eptr cells) (.pointer (some a))
  | agg (cs : List AV) (vs : Array Value) (hl : vs.size = cs.length) (h : ∀ (i : Nat) av v, cs[i]? = some av → vs[i]? = some v → RelV N w av v) : RelV N w (.agg cs) (.agg vs)
  | tup (cs : List AV) (vs : Array Value) (hl : vs.size = cs.length) (h : ∀ (i : Nat) av v, cs[i]? = some av → vs[i]? = some v → RelV N w av v) : RelV N w (.tup cs) (.tuple vs)
  | ifc (t : TypeId) (av : AV) (v : Value) (h : RelV N w av v) : RelV N w (.ifc t av) (.iface t v)
  | clo (fn : Fn) (caps : List AV) (vs : Array Value) (hl : vs.size = caps.length) (h : ∀ (i : Nat) av v, caps[i]? = some av → vs[i]? = some v → RelV N w av v) : RelV N w (.clo fn caps) (.func fn #[] vs)
  | mp (b : Nat) : RelV N w (.mp b) (.map (some b))
  | und : RelV N w .und (.tuple #[])

/-- w' has what w had, but for the blocks of N. -/
def Later (N : Nat → Prop) (w w' : World) : Prop := w.heap.size ≤ w'.heap.size ∧ ∀ k, k < w.heap.size → ¬ N k → w'.heap[k]? = w.heap[k]?

theorem Later.refl (N : Nat → Prop) (w : World) : Later N w w := ⟨Nat.le_refl _, fun _ _ _ => rfl⟩
theorem Later.trans {N N' : Nat → Prop} {a b c : World} (h : Later N a b) (k : Later N' b c) (hn : ∀ i, i < a.heap.size → N' i → N i) : Later N a c :=
  ⟨Nat.le_trans h.1 k.1, fun i hi hN => by rw [k.2 i (Nat.lt_of_lt_of_le hi h.1) (fun h' => hN (hn i hi h')), h.2 i hi hN]⟩

theorem cell_lt {w : World} {a : Addr} {v : Value} (h : w.cell? a = some v) : a.block < w.heap.size := by
  unfold World.cell? at h
  split at h
  · rename_i c e f hb
    exact (Array.getElem?_eq_some_iff.1 hb).1
  · cases h

theorem Later.cell {N : Nat → Prop} {w w' : World} (h : Later N w w') {a : Addr} {v : Value} (hN : ¬ N a.block) (hc : w.cell? a = some v) : w'.cell? a = some v := by
  have := h.2 a.block (cell_lt hc) hN
  unfold World.cell? at *
  rw [this]; exact hc

/-- What was read is read later, where what may be written is not looked into. -/
theorem RelV.mono {N N' : Nat → Prop} {w w' : World} {av : AV} {v : Value} (h : RelV N w av v) (hl : Later N w w') (hn : ∀ i, i < w.heap.size → N' i → N i) : RelV N' w' av v := by
  induction h with
  | int k n => exact .int k n
  | bool b => exact .bool b
  | str l h => exact .str l h
  | raw v h => exact .raw v h
  | nil => exact .nil
  | slNil => exact .slNil
  | sl rows a cap sz u hs hc hm h1 h2 h3 ih =>
    refine .sl rows a cap sz u hs hc hm h1 (fun i row j av hi hj => ?_) ih
    obtain ⟨hN, hcell⟩ := h2 i row j av hi hj
    exact ⟨fun h' => hN (hn _ (cell_lt (a := ⟨a.block, _, none⟩) hcell) h'), hl.cell (a := ⟨a.block, _, none⟩) hN hcell⟩
  | ref b n cap hc hm => exact .ref b n cap hc hm
  | ptr b off => exact .ptr b off
  | eptr cells a u hs h2 h3 ih =>
    refine .eptr cells a u hs (fun j av hj => ?_) ih
    obtain ⟨hN, hcell⟩ := h2 j av hj
    exact ⟨fun h' => hN (hn _ (cell_lt (a := ⟨a.block, _, none⟩) hcell) h'), hl.cell (a := ⟨a.block, _, none⟩) hN hcell⟩
  | agg cs vs hl' h ih => exact .agg cs vs hl' ih
  | tup cs vs hl' h ih => exact .tup cs vs hl' ih
  | ifc t av v h ih => exact .ifc t av v ih
  | clo fn caps vs hl' h ih => exact .clo fn caps vs hl' ih
  | mp b => exact .mp b
  | und => exact .und

/-! ### What is the call's own -/

inductive HO where
  /-- a block of so many cells of elements of this type; its first cells -/
  | row (t : TypeId) (size : Nat) (cs : List AV)
  deriving Inhabited

def RelO (N : Nat → Prop) (w : World) (b : Nat) : HO → Prop
  | .row t size cs => ∃ arr, w.heap[b]? = some (.cells arr t (0, 0)) ∧ arr.size = size ∧ cs.length ≤ size ∧ ∀ (j : Nat) av, cs[j]? = some av → ∃ u, arr[j]? = some u ∧ RelV N w av u

def getk {α : Type} (k : Nat) : List (Nat × α) → Option α
  | [] => none
  | (i, x) :: l => if i = k then some x else getk k l

def del {α : Type} (k : Nat) (l : List (Nat × α)) : List (Nat × α) := l.filter fun p => p.1 ≠ k
def keys {α : Type} (l : List (Nat × α)) : List Nat := l.map (·.1)

theorem get_mem_keys {α : Type} {k : Nat} {l : List (Nat × α)} {x : α} (h : getk k l = some x) : k ∈ keys l := by
  induction l with
  | nil => cases h
  | cons p l ih =>
    obtain ⟨i, y⟩ := p
    simp only [getk] at h
    split at h
    · rename_i e; simp [keys, e]
    · have := ih h; simp [keys] at this ⊢; exact .inr this

structure St where
  nt : Nat
  slots : List (Nat × AV)
  heap : List (Nat × HO)

def St.put (σ : St) (d : Option Tmp) (v : AV) : St := match d with | some d => { σ with slots := (d, v) :: σ.slots } | none => σ

theorem St.put_nt (σ : St) (d : Option Tmp) (v : AV) : (σ.put d v).nt = σ.nt := by cases d <;> rfl

/-- What stays the same through a call: the world in which it began; which of its blocks may be written; what is not to be looked into. -/
structure Cx where
  w0 : World
  M : Nat → Prop
  N0 : Nat → Prop

structure Unch (M : Nat → Prop) (w w' : World) : Prop where
  os : w'.os = w.os
  tape : w'.tape = w.tape
  output : w'.output = w.output
  size : w.heap.size ≤ w'.heap.size
  block : ∀ k, k < w.heap.size → ¬ M k → w'.heap[k]? = w.heap[k]?

theorem Unch.refl (M : Nat → Prop) (w : World) : Unch M w w := ⟨rfl, rfl, rfl, Nat.le_refl _, fun _ _ _ => rfl⟩
theorem Unch.trans {M M' : Nat → Prop} {a b c : World} (h : Unch M a b) (k : Unch M' b c) (hm : ∀ i, i < a.heap.size → M' i → M i) : Unch M a c :=
  ⟨k.os.trans h.os, k.tape.trans h.tape, k.output.trans h.output, Nat.le_trans h.size k.size, fun i hi hM => by
    rw [k.block i (Nat.lt_of_lt_of_le hi h.size) (fun h' => hM (hm i hi h')), h.block i hi hM]⟩
theorem Unch.later {M : Nat → Prop} {w w' : World} (h : Unch M w w') : Later M w w' := ⟨h.size, h.block⟩

structure Rel (c : Cx) (N : Nat → Prop) (σ : St) (a : Act) (w : World) : Prop where
  defers : a.defers = []
  size : a.tmps.size = σ.nt
  slots : ∀ k av, getk k σ.slots = some av → ∃ v, a.tmps[k]? = some v ∧ RelV N w av v
  heap : ∀ b o, getk b σ.heap = some o → N b ∧ (c.M b ∨ c.w0.heap.size ≤ b) ∧ RelO N w b o
  n0 : ∀ k, k < c.w0.heap.size → c.N0 k → N k
  unch : Unch c.M c.w0 w

theorem RelO.lt {N : Nat → Prop} {w : World} {b : Nat} {o : HO} (h : RelO N w b o) : b < w.heap.size := by
  cases o with
  | row t size cs => obtain ⟨arr, h, _⟩ := h; exact (Array.getElem?_eq_some_iff.1 h).1

/-- An object that was not written. -/
theorem RelO.mono {N N' : Nat → Prop} {w w' : World} {b : Nat} {o : HO} (h : RelO N w b o) (hl : Later N w w') (hn : ∀ i, i < w.heap.size → N' i → N i) (hb : w'.heap[b]? = w.heap[b]?) : RelO N' w' b o := by
  cases o with
  | row t size cs =>
    obtain ⟨arr, h1, h2, h3, h4⟩ := h
    exact ⟨arr, hb.trans h1, h2, h3, fun j av hj => let ⟨u, hu, hr⟩ := h4 j av hj; ⟨u, hu, hr.mono hl hn⟩⟩

/-- The world went on, and nothing of the call's own was written. -/
theorem Rel.step {c : Cx} {N N' : Nat → Prop} {σ : St} {a : Act} {w w' : World} (h : Rel c N σ a w) (hu : Unch (fun k => False) w w') (hn : ∀ i, i < w.heap.size → N' i → N i) (hn' : ∀ i, N i → N' i) : Rel c N' σ a w' where
  defers := h.defers
  size := h.size
  slots := fun k av hk => let ⟨v, h1, h2⟩ := h.slots k av hk; ⟨v, h1, h2.mono ⟨hu.size, fun i hi _ => hu.block i hi (fun h => h)⟩ hn⟩
  heap := fun b o hb => let ⟨h1, h2, h3⟩ := h.heap b o hb; ⟨hn' _ h1, h2, h3.mono ⟨hu.size, fun i hi _ => hu.block i hi (fun h => h)⟩ hn (hu.block b h3.lt (fun h => h))⟩
  n0 := fun k hk hN => hn' _ (h.n0 k hk hN)
  unch := h.unch.trans hu (fun _ _ h => h.elim)

theorem Rel.put {c : Cx} {N : Nat → Prop} {σ : St} {a : Act} {w : World} (h : Rel c N σ a w) {d : Option Tmp} {av : AV} {v : Value} (hd : ∀ k, d = some k → k < σ.nt) (hv : RelV N w av v) : Rel c N (σ.put d av) (a.put d v) w := by
  cases d with
  | none => exact h
  | some d =>
    have hd := hd d rfl
    refine ⟨h.defers, by simp [Act.put, St.put, h.size], fun k av' hk => ?_, h.heap, h.n0, h.unch⟩
    simp only [St.put, getk] at hk
    simp only [Act.put]
    split at hk
    · rename_i e; subst e; cases hk; exact ⟨v, by simp [h.size, hd], hv⟩
    · rename_i e
      obtain ⟨u, h1, h2⟩ := h.slots k av' hk
      exact ⟨u, by simpa [Array.getElem?_setIfInBounds, e] using h1, h2⟩

/-! ### Weaker states -/

/-- Whatever fits σ fits σ'. -/
def Weak (σ σ' : St) : Prop := σ.nt = σ'.nt ∧ (∀ k av, getk k σ'.slots = some av → getk k σ.slots = some av) ∧ (∀ b o, getk b σ'.heap = some o → getk b σ.heap = some o)

theorem Weak.refl (σ : St) : Weak σ σ := ⟨rfl, fun _ _ h => h, fun _ _ h => h⟩
theorem Rel.weak {c : Cx} {N : Nat → Prop} {σ σ' : St} {a : Act} {w : World} (h : Rel c N σ a w) (hw : Weak σ σ') : Rel c N σ' a w :=
  ⟨h.defers, h.size.trans hw.1, fun k av hk => h.slots k av (hw.2.1 k av hk), fun b o hb => h.heap b o (hw.2.2 b o hb), h.n0, h.unch⟩

def subs {α : Type} (l : List (Nat × α)) : List (Nat × α) → Prop
  | [] => True
  | (k, x) :: r => getk k l = some x ∧ subs l r

theorem subs_get {α : Type} {l l' : List (Nat × α)} (h : subs l l') : ∀ k x, getk k l' = some x → getk k l = some x := by
  induction l' with
  | nil => intro k x hk; cases hk
  | cons p r ih =>
    obtain ⟨i, y⟩ := p
    intro k x hk
    simp only [getk] at hk
    split at hk
    · rename_i e; subst e; cases hk; exact h.1
    · exact ih h.2 k x hk

theorem weak_of {σ : St} {nt : Nat} {s : List (Nat × AV)} {h : List (Nat × HO)} (e : σ.nt = nt) (hs : subs σ.slots s) (hh : subs σ.heap h) : Weak σ ⟨nt, s, h⟩ :=
  ⟨e, subs_get hs, subs_get hh⟩

/-! ### Code over abstract states -/

variable (P : Program) (c : Cx)

def Good (x : Code) (σ : St) (Q : Exit → St → Prop) : Prop :=
  ∀ N a w, Rel c N σ a w → x.wp P (fun e a' w' => ∃ σ' N', Q e σ' ∧ Rel c N' σ' a' w') a w

def thenQ (K : St → Prop) (Q : Exit → St → Prop) : Exit → St → Prop
  | .normal, σ => K σ
  | e, σ => Q e σ

def blockQ (id : Nat) (Q : Exit → St → Prop) : Exit → St → Prop
  | .exit i, σ => if i = id then Q .normal σ else Q (.exit i) σ
  | e, σ => Q e σ

variable {P c}

theorem Good.mono {x : Code} {σ : St} {Q Q' : Exit → St → Prop} (h : Good P c x σ Q) (hq : ∀ e σ', Q e σ' → Q' e σ') : Good P c x σ Q' :=
  fun N a w hr => wp_mono (h N a w hr) fun _ _ _ ⟨σ', N', h1, h2⟩ => ⟨σ', N', hq _ _ h1, h2⟩

theorem Good.weak {x : Code} {σ σ' : St} {Q : Exit → St → Prop} (hw : Weak σ σ') (h : Good P c x σ' Q) : Good P c x σ Q :=
  fun N a w hr => h N a w (hr.weak hw)

theorem good_skip {σ : St} {Q : Exit → St → Prop} (h : Q .normal σ) : Good P c .skip σ Q := fun N _ _ hr => wp_skip ⟨σ, N, h, hr⟩
theorem good_exit {id : Nat} {σ : St} {Q : Exit → St → Prop} (h : Q (.exit id) σ) : Good P c (.exit id) σ Q := fun N _ _ hr => wp_exit ⟨σ, N, h, hr⟩
theorem good_ret {σ : St} {Q : Exit → St → Prop} (h : Q .ret σ) : Good P c .ret σ Q := fun N _ _ hr => wp_ret ⟨σ, N, h, hr⟩

theorem good_seq' {x y : Code} {σ : St} {Q : Exit → St → Prop} (h : Good P c x σ (thenQ (fun σ' => Good P c y σ' Q) Q)) : Good P c (.seq x y) σ Q := by
  intro N a w hr
  refine wp_seq (wp_mono (h N a w hr) ?_)
  rintro e a' w' ⟨σ', N', hq, hr'⟩
  cases e <;> first | exact ⟨σ', N', hq, hr'⟩ | exact hq N' a' w' hr'

/-- What follows stands behind a name. -/
theorem good_seq {x y : Code} {σ : St} {Q : Exit → St → Prop} (h : ∀ K : St → Prop, (∀ σ', Good P c y σ' Q → K σ') → Good P c x σ (thenQ K Q)) : Good P c (.seq x y) σ Q :=
  good_seq' (h _ fun _ h => h)

theorem good_block {id : Nat} {x : Code} {σ : St} {Q : Exit → St → Prop} (h : Good P c x σ (blockQ id Q)) : Good P c (.block id x) σ Q := by
  intro N a w hr
  refine wp_block (wp_mono (h N a w hr) ?_)
  rintro e a' w' ⟨σ', N', hq, hr'⟩
  cases e <;> try exact ⟨σ', N', hq, hr'⟩
  rename_i i
  simp only [blockQ] at hq
  simp only [Exit.inBlock]
  split at hq <;> rename_i hi <;> simp only [hi, if_true, if_false] <;> exact ⟨σ', N', hq, hr'⟩

/-! Operands -/

def constA : Value → Option AV
  | .int k n => some (.int k n)
  | .bool b => some (.bool b)
  | .string s => if s.data.toList.length ≤ 1000000 then some (.str s.data.toList) else none
  | .slice none 0 0 => some .nil
  | .pointer none => some (.raw (.pointer none))
  | .nilIface => some (.raw .nilIface)
  | .nilFunc => some (.raw .nilFunc)
  | .map none => some (.raw (.map none))
  | _ => none

theorem constA_rel (N : Nat → Prop) (w : World) (v : Value) (av : AV) (h : constA v = some av) : RelV N w av v := by
  unfold constA at h
  split at h <;> try (cases h; done)
  · cases h; exact .int _ _
  · cases h; exact .bool _
  · rename_i s
    split at h
    · cases h
      have := RelV.str (N := N) (w := w) s.data.toList (by unfold maxLen; omega)
      simpa using this
    · cases h
  · cases h; exact .nil
  all_goals (cases h; exact .raw _ rfl)

def evA (σ : St) : Operand → Option AV
  | .tmp t => getk t σ.slots
  | .const v => constA v
  | .func f => some (.clo (.func f) [])
  | .global g => some (.raw (.pointer (some ⟨g, 0, none⟩)))

theorem evA_rel {N : Nat → Prop} {σ : St} {a : Act} {w : World} (hr : Rel c N σ a w) {x : Operand} {av : AV} (h : evA σ x = some av) : RelV N w av (a.eval x) := by
  cases x with
  | tmp t =>
    obtain ⟨v, h1, h2⟩ := hr.slots t av h
    simp only [Act.eval, Array.getD_eq_getD_getElem?, h1, Option.getD_some]; exact h2
  | const v => exact constA_rel N w v av h
  | func f => cases h; exact .clo _ _ #[] rfl (fun i av v h _ => by simp at h)
  | global g => cases h; exact .raw _ rfl

theorem good_cond {x : Operand} {p q : Code} {σ : St} {Q : Exit → St → Prop} {b : Bool} (hx : evA σ x = some (.bool b)) (ht : b = true → Good P c p σ Q) (hf : b = false → Good P c q σ Q) : Good P c (.cond x p q) σ Q := by
  intro N a w hr
  have := evA_rel hr hx
  generalize hv : a.eval x = v at this
  cases this
  exact wp_cond_split hv (fun h => ht h N a w hr) (fun h => hf h N a w hr)

/-- A loop: what holds at each round's head (with a number that each round lowers). -/
theorem good_loop {body : Code} {σ : St} {Q : Exit → St → Prop} (I : Nat → St → Prop) (m : Nat) (h0 : ∃ σ1, Weak σ σ1 ∧ I m σ1)
    (hb : ∀ m σ, I m σ → Good P c body σ (thenQ (fun σ' => ∃ σ1 m', Weak σ' σ1 ∧ m' < m ∧ I m' σ1) Q)) : Good P c (.loop body) σ Q := by
  have key : ∀ n m σ N a w, m < n → I m σ → Rel c N σ a w → Code.rounds P body (fun e a' w' => ∃ σ' N', Q e σ' ∧ Rel c N' σ' a' w') n a w := by
    intro n
    induction n with
    | zero => intro m σ N a w h; omega
    | succ n ih =>
      intro m σ N a w h hI hr
      rw [rounds_succ]
      refine wp_mono (hb m σ hI N a w hr) ?_
      rintro e a' w' ⟨σ', N', hq, hr'⟩
      cases e <;> try exact ⟨σ', N', hq, hr'⟩
      obtain ⟨σ1, m', hw, hm, hI'⟩ := hq
      exact ih m' σ1 N' a' w' (by omega) hI' (hr'.weak hw)
  intro N a w hr
  obtain ⟨σ1, hw, hI⟩ := h0
  exact wp_loop_rounds (m + 1) (key (m + 1) m σ1 N a w (by omega) hI (hr.weak hw))

/-- What a round must end in. -/
def RoundQ {α : Type} (F : α → St) (J : Nat → α → Prop) (m : Nat) (σ' : St) : Prop := ∃ m' x', m' < m ∧ J m' x' ∧ Weak σ' (F x')

theorem round_mk {α : Type} {F : α → St} {J : Nat → α → Prop} {m : Nat} {σ' : St} (m' : Nat) (x' : α) (h1 : m' < m) (h2 : J m' x') (h3 : Weak σ' (F x')) : RoundQ F J m σ' := ⟨m', x', h1, h2, h3⟩

/-- The same, the states at a round's head given by a function. -/
theorem good_loopf {α : Type} {body : Code} {σ : St} {Q : Exit → St → Prop} (F : α → St) (J : Nat → α → Prop) (m : Nat) (x0 : α) (h0 : Weak σ (F x0)) (hJ : J m x0)
    (hb : ∀ m x, J m x → Good P c body (F x) (thenQ (RoundQ F J m) Q)) : Good P c (.loop body) σ Q :=
  good_loop (fun m σ => ∃ x, J m x ∧ σ = F x) m ⟨F x0, h0, x0, hJ, rfl⟩ (by
    rintro m _ ⟨x, hx, rfl⟩
    refine (hb m x hx).mono fun e σ' h => ?_
    cases e <;> try exact h
    obtain ⟨m', x', h1, h2, h3⟩ := h
    exact ⟨F x', m', h3, h1, x', h2, rfl⟩)

/-- What follows is shown once, from a weaker state. -/
theorem good_via {K : St → Prop} {y : Code} {Q : Exit → St → Prop} (σ1 : St) (hK : ∀ σ', Good P c y σ' Q → K σ') (h : Good P c y σ1 Q) : ∀ σ', Weak σ' σ1 → K σ' :=
  fun σ' hw => hK σ' (h.weak hw)

/-- How long a slice, a text may be. -/
theorem RelV.len {N : Nat → Prop} {w : World} {rows : List (List AV)} {v : Value} (h : RelV N w (.sl rows) v) : rows.length < 9223372036854775808 := by
  cases h with
  | slNil => simp
  | sl rows a cap sz u hs hc hm h1 h2 h3 => unfold maxLen at hm; omega
theorem RelV.lenS {N : Nat → Prop} {w : World} {l : List UInt8} {v : Value} (h : RelV N w (.str l) v) : l.length < 9223372036854775808 := by
  cases h with
  | str l h => unfold maxLen at h; omega

/-- All the lengths in a value, as far as it is laid open. -/
def lens : AV → List Nat
  | .sl rows => [rows.length]
  | .str l => [l.length]
  | .agg cs => cs.flatMap fun | .sl rows => [rows.length] | .str l => [l.length] | _ => []
  | _ => []

theorem RelV.lens {N : Nat → Prop} {w : World} {av : AV} {v : Value} (h : RelV N w av v) : ∀ n ∈ lens av, n < 9223372036854775808 := by
  intro n hn
  cases av <;> simp only [Ab.lens] at hn <;> try (cases hn; done)
  · simp at hn; subst hn; exact h.lenS
  · simp at hn; subst hn; exact h.len
  · rename_i cs
    obtain ⟨x, hx, hn⟩ := List.mem_flatMap.1 hn
    cases h with
    | agg cs vs hl h =>
      obtain ⟨i, hi, rfl⟩ := List.mem_iff_getElem.1 hx
      have := h i _ vs[i] (List.getElem?_eq_getElem hi) (by simp [hl, hi])
      generalize cs[i] = x at *
      cases x <;> simp at hn
      · subst hn; exact this.lenS
      · subst hn; exact this.len

theorem good_lens {x : Code} {σ : St} {Q : Exit → St → Prop} (k : Nat) {av : AV} (h : getk k σ.slots = some av) (hg : (∀ n ∈ lens av, n < 9223372036854775808) → Good P c x σ Q) : Good P c x σ Q :=
  fun N a w hr => let ⟨v, h1, h2⟩ := hr.slots k av h; hg h2.lens N a w hr

end Go.Ab
