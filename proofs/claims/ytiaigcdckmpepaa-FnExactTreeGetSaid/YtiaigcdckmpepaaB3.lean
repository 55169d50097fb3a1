/- The table of types, and reading cells; the conditions stand in each theorem. -/
import Derived.Test.YtiaigcdckmpepaaB2
import Derived.Laws.Cells
import Derived.Laws.CopyRow
import Derived.Laws.Rows
/-! The operations, on abstract states. -/
set_option linter.unusedVariables false
set_option linter.unusedSimpArgs false
namespace Go.Bb

/-- What a type is, as far as it is needed. -/
inductive Sh where
  | bool | int (k : IntKind) | string | slice (e : TypeId) | struct (fs : List (Nat × TypeId)) | ptr (e : TypeId) | map (k e : TypeId) | iface | func | tuple | other
  deriving DecidableEq

def shOf : TypeDesc → Sh
  | .bool => .bool | .int k => .int k | .string => .string | .slice e => .slice e | .struct fs => .struct (fs.toList.map fun f => (f.offset, f.type)) | .pointer e => .ptr e
  | .map k e => .map k e | .interface _ => .iface | .func .. => .func | .tuple _ => .tuple | _ => .other

structure TI where
  size : Nat
  bytes : Nat
  sh : Sh
  zero : List AV
  meths : List (String × FuncId) := []

/-- A table of types. -/
structure Tab where
  row : TypeId → Option TI

def Tab.size (T : Tab) (t : TypeId) : Option Nat := (T.row t).map (·.size)
def Tab.bytes (T : Tab) (t : TypeId) : Option Nat := (T.row t).map (·.bytes)
def Tab.kind (T : Tab) (t : TypeId) : Option Sh := (T.row t).map (·.sh)
def Tab.zero (T : Tab) (t : TypeId) : Option (List AV) := (T.row t).map (·.zero)
def Tab.agg (T : Tab) (t : TypeId) : Option Bool := match T.kind t with | some .other => none | some (.struct _) => some true | some _ => some false | none => none
def Tab.meth (T : Tab) (t : TypeId) (name : String) : Option FuncId := (T.row t).bind fun i => (i.meths.find? (·.1 == name)).map (·.2)
def Tab.elem (T : Tab) (t : TypeId) : Option TypeId := match T.kind t with | some (.slice e) => some e | _ => none
def Tab.foff (T : Tab) (t : TypeId) (f : Nat) : Option (Nat × Nat) := match T.kind t with
  | some (.struct fs) => match fs[f]? with
    | some (o, u) => match T.size u with | some n => if n = 0 then none else some (o, n) | none => none
    | none => none
  | _ => none

def zeq : Value → AV → Bool
  | .int k n, .int k' m => k == k' && n == m
  | .bool b, .bool b' => b == b'
  | .string s, .str l => s.data.toList == l && l.length ≤ 1000
  | .slice none 0 0, .nil => true
  | .pointer none, .raw (.pointer none) => true
  | .nilIface, .raw .nilIface => true
  | .nilFunc, .raw .nilFunc => true
  | .map none, .raw (.map none) => true
  | _, _ => false

def zeqs : List Value → List AV → Bool
  | [], [] => true
  | v :: vs, a :: as => zeq v a && zeqs vs as
  | _, _ => false

def wholeOk : Sh → Value → Bool
  | .struct _, .agg _ => true
  | .struct _, _ => false
  | _, .agg _ => false
  | _, _ => true

def methsOk (n : TypeInfo) (ms : List (String × FuncId)) : Bool := ms.all fun p => match n.methods.find? (·.name == p.1) with
  | some m => m.path.isEmpty && decide (m.func = some (p.2, false))
  | none => false

def rowOk (P : Program) (t : TypeId) (i : TI) : Bool :=
  match P.info? t, P.underlying t with
  | some n, some d => n.size == i.size && n.bytes == i.bytes && shOf d == i.sh && (match n.zero with | some z => zeqs z.cells.toList i.zero && wholeOk i.sh z | none => false) && methsOk n i.meths
  | _, _ => false

def TabOk (P : Program) (T : Tab) : Prop := ∀ t i, T.row t = some i → rowOk P t i = true

theorem zeq_rel {v : Value} {av : AV} (h : zeq v av = true) (N : Nat → Prop) (w : World) : RelV N w av v := by
  unfold zeq at h
  split at h <;> try (cases h; done)
  · simp at h; obtain ⟨rfl, rfl⟩ := h; exact .int _ _
  · simp at h; subst h; exact .bool _
  · rename_i s l
    simp at h; obtain ⟨h1, h2⟩ := h
    have := RelV.str (N := N) (w := w) l (by unfold maxLen; omega)
    rw [← h1] at this ⊢
    simpa using this
  · exact .nil
  all_goals exact .raw _ rfl

theorem zeqs_rel : ∀ {vs : List Value} {as : List AV}, zeqs vs as = true → vs.length = as.length ∧ ∀ (N : Nat → Prop) (w : World) (j : Nat) (av : AV), as[j]? = some av → ∃ v, vs[j]? = some v ∧ RelV N w av v
  | [], [], _ => ⟨rfl, fun N w j av h => by simp at h⟩
  | v :: vs, a :: as, h => by
    simp only [zeqs, Bool.and_eq_true] at h
    obtain ⟨hl, hr⟩ := zeqs_rel h.2
    refine ⟨by simp [hl], fun N w j av hj => ?_⟩
    cases j with
    | zero => cases hj; exact ⟨v, rfl, zeq_rel h.1 N w⟩
    | succ j => exact hr N w j av hj
  | [], _ :: _, h => by cases h
  | _ :: _, [], h => by cases h

section
variable {P : Program} {T : Tab} (hT : TabOk P T)
include hT

theorem TabOk.getk {t : TypeId} {i : TI} (h : T.row t = some i) : ∃ n d z, P.info? t = some n ∧ P.underlying t = some d ∧ n.size = i.size ∧ n.bytes = i.bytes ∧ shOf d = i.sh ∧ n.zero = some z ∧ zeqs z.cells.toList i.zero = true ∧ wholeOk i.sh z = true ∧ methsOk n i.meths = true := by
  have := hT t i h
  unfold rowOk at this
  split at this
  · rename_i n d h1 h2
    simp only [Bool.and_eq_true, beq_iff_eq, decide_eq_true_eq] at this
    obtain ⟨⟨⟨⟨h3, h4⟩, h5⟩, h6⟩, h7⟩ := this
    split at h6
    · rename_i z hz
      simp only [Bool.and_eq_true] at h6
      exact ⟨n, d, z, h1, h2, h3, h4, h5, hz, h6.1, h6.2, h7⟩
    · cases h6
  · cases this

theorem TabOk.size {t n : Nat} (h : T.size t = some n) : ∃ i, P.info? t = some i ∧ i.size = n := by
  unfold Tab.size at h
  obtain ⟨i, h1, rfl⟩ := Option.map_eq_some_iff.1 h
  obtain ⟨m, d, z, h2, _, h3, _⟩ := hT.getk h1
  exact ⟨m, h2, h3⟩
theorem TabOk.bytes {t n : Nat} (h : T.bytes t = some n) : ∃ i, P.info? t = some i ∧ i.bytes = n := by
  unfold Tab.bytes at h
  obtain ⟨i, h1, rfl⟩ := Option.map_eq_some_iff.1 h
  obtain ⟨m, d, z, h2, _, _, h3, _⟩ := hT.getk h1
  exact ⟨m, h2, h3⟩
theorem TabOk.kind {t : Nat} {s : Sh} (h : T.kind t = some s) : ∃ d, P.underlying t = some d ∧ shOf d = s := by
  unfold Tab.kind at h
  obtain ⟨i, h1, rfl⟩ := Option.map_eq_some_iff.1 h
  obtain ⟨m, d, z, _, h2, _, _, h3, _⟩ := hT.getk h1
  exact ⟨d, h2, h3⟩
theorem TabOk.zero {t : Nat} {l : List AV} (h : T.zero t = some l) : ∃ i z, P.info? t = some i ∧ i.zero = some z ∧ z.cells.size = l.length ∧ ∀ (N : Nat → Prop) (w : World) (j : Nat) av, l[j]? = some av → ∃ v, z.cells[j]? = some v ∧ RelV N w av v := by
  unfold Tab.zero at h
  obtain ⟨i, h1, rfl⟩ := Option.map_eq_some_iff.1 h
  obtain ⟨m, d, z, h2, _, _, _, _, h3, h4, _⟩ := hT.getk h1
  obtain ⟨h5, h6⟩ := zeqs_rel h4
  exact ⟨m, z, h2, h3, by simpa using h5, fun N w j av hj => by simpa using h6 N w j av hj⟩
theorem TabOk.elem {t e : Nat} (h : T.elem t = some e) : P.underlying t = some (.slice e) := by
  unfold Tab.elem at h
  split at h
  · rename_i e' hk
    cases h
    obtain ⟨d, h1, h2⟩ := hT.kind hk
    cases d <;> simp [shOf] at h2
    subst h2; exact h1
  · cases h
theorem TabOk.foff {t f o n : Nat} (h : T.foff t f = some (o, n)) : ∃ fs fd i, P.underlying t = some (.struct fs) ∧ fs[f]? = some fd ∧ fd.offset = o ∧ P.info? fd.type = some i ∧ i.size = n ∧ n ≠ 0 := by
  unfold Tab.foff at h
  split at h
  · rename_i l hk
    split at h
    · rename_i o' u hf
      split at h
      · rename_i m hm
        split at h
        · cases h
        · rename_i h0
          cases h
          obtain ⟨d, h1, h2⟩ := hT.kind hk
          cases d <;> simp [shOf] at h2
          rename_i fs
          subst h2
          simp only [List.getElem?_map, Option.map_eq_some_iff] at hf
          obtain ⟨fd, h3, h4⟩ := hf
          cases h4
          obtain ⟨i, h5, h6⟩ := hT.size hm
          exact ⟨fs, fd, i, h1, by simpa using h3, rfl, h5, h6, h0⟩
      · cases h
    · cases h
  · cases h
theorem TabOk.agg {t : Nat} {b : Bool} (h : T.agg t = some b) : ∃ d, P.underlying t = some d ∧ (match d with | .struct _ | .array _ _ => true | _ => false) = b := by
  unfold Tab.agg at h
  split at h <;> try (cases h; done)
  · rename_i fs hk
    cases h
    obtain ⟨d, h1, h2⟩ := hT.kind hk
    refine ⟨d, h1, ?_⟩
    cases d <;> simp [shOf] at h2 <;> rfl
  · rename_i s h0 h3 hk
    cases h
    obtain ⟨d, h1, h2⟩ := hT.kind hk
    refine ⟨d, h1, ?_⟩
    cases d <;> simp [shOf] at h2 <;> first | rfl | (subst h2; simp at h0 h3)
end

/-! Lists -/
def win {α : Type} (l : List α) (o n : Nat) : Option (List α) := if o + n ≤ l.length then some ((l.drop o).take n) else none
@[simp] theorem win_succ {α : Type} (a : α) (l : List α) (o n : Nat) : win (a :: l) (o + 1) n = win l o n := by
  unfold win
  simp only [List.length_cons, List.drop_succ_cons]
  by_cases h : o + n ≤ l.length
  · rw [if_pos h, if_pos (by omega)]
  · rw [if_neg h, if_neg (by omega)]
@[simp] theorem win_zero {α : Type} (a : α) (l : List α) (n : Nat) : win (a :: l) 0 (n + 1) = (win l 0 n).map (a :: ·) := by
  unfold win
  simp only [List.length_cons, List.drop_zero, List.take_succ_cons]
  by_cases h : 0 + n ≤ l.length
  · rw [if_pos h, if_pos (by omega)]; rfl
  · rw [if_neg h, if_neg (by omega)]; rfl
@[simp] theorem win_nil {α : Type} (l : List α) : win l 0 0 = some [] := by unfold win; simp
def splice {α : Type} (l : List α) (o : Nat) (m : List α) : List α := l.take o ++ m ++ l.drop (o + m.length)

def mkA (g : Bool) (cs : List AV) : Option AV := if g then some (.agg cs) else match cs with | [v] => some v | _ => none
theorem TabOk.meth {P : Program} {T : Tab} (hT : TabOk P T) {t : TypeId} {name : String} {f : FuncId} (h : T.meth t name = some f) : ∃ n m, P.info? t = some n ∧ n.methods.find? (·.name == name) = some m ∧ m.path = #[] ∧ m.func = some (f, false) := by
  unfold Tab.meth at h
  obtain ⟨i, h1, h2⟩ := Option.bind_eq_some_iff.1 h
  obtain ⟨p, h3, rfl⟩ := Option.map_eq_some_iff.1 h2
  obtain ⟨n, d, z, h4, _, _, _, _, _, _, _, h5⟩ := hT.getk h1
  have hm := List.all_eq_true.1 h5 p (List.mem_of_find?_eq_some h3)
  have hn := List.find?_some h3
  have hn : p.1 = name := by simpa using hn
  rw [hn] at hm
  split at hm
  · rename_i m hm1
    simp only [Bool.and_eq_true, decide_eq_true_eq, Array.isEmpty_iff] at hm
    exact ⟨n, m, h4, hm1, hm.1, hm.2⟩
  · cases hm
theorem TabOk.whole {P : Program} {T : Tab} (hT : TabOk P T) {t : TypeId} {l : List AV} {g : Bool} {av : AV} (hz : T.zero t = some l) (hg : T.agg t = some g) (hm : mkA g l = some av) : ∃ i z, P.info? t = some i ∧ i.zero = some z ∧ ∀ (N : Nat → Prop) (w : World), RelV N w av z := by
  unfold Tab.zero at hz
  obtain ⟨i, h1, rfl⟩ := Option.map_eq_some_iff.1 hz
  obtain ⟨n, d, z, h2, _, _, _, _, h3, h4, h5, _⟩ := hT.getk h1
  obtain ⟨h6, h7⟩ := zeqs_rel h4
  refine ⟨n, z, h2, h3, fun N w => ?_⟩
  unfold Tab.agg Tab.kind at hg
  rw [h1] at hg
  simp only [Option.map_some] at hg
  cases hs : i.sh with
  | struct fs =>
    rw [hs] at h5 hg
    cases hg
    simp only [mkA, if_true] at hm
    cases hm
    cases z <;> try (cases h5; done)
    rename_i cs
    refine .agg _ _ (by simpa [Value.cells] using h6) (fun j av v hj hv => ?_)
    obtain ⟨v', h8, h9⟩ := h7 N w j av hj
    simp only [Value.cells, Array.getElem?_toList] at h8
    rw [hv] at h8; cases h8; exact h9
  | other => rw [hs] at hg; cases hg
  | _ =>
    rw [hs] at h5 hg
    cases hg
    simp only [mkA, Bool.false_eq_true, if_false] at hm
    split at hm <;> try (cases hm; done)
    rename_i v hl
    cases hm
    obtain ⟨v', h8, h9⟩ := h7 N w 0 av (by rw [hl]; rfl)
    cases z <;> simp only [wholeOk, Bool.false_eq_true] at h5 <;> simp only [Value.cells, List.getElem?_cons_zero, Option.some.injEq] at h8 <;> (subst h8; exact h9)
def cellsA : AV → List AV | .agg cs => cs | v => [v]
def AV.cell : AV → Bool | .agg _ | .tup _ | .und => false | .raw v => v.oneCell' | _ => true

theorem add_none (a : Addr) (n : Nat) (h : a.spot = none) : a.add n = ⟨a.block, a.off + n, none⟩ := by
  obtain ⟨b, o, s⟩ := a
  simp only at h; subst h
  unfold Addr.add; split <;> simp_all

section
variable {P : Program} {T : Tab} {c : Cx}

theorem run_size (hT : TabOk P T) {t n : Nat} (h : T.size t = some n) (w : World) : (sizeOf t).run P w = .ok n w := by
  obtain ⟨i, h1, h2⟩ := hT.size h
  simp [sizeOf, typeInfo, h1, h2]
theorem run_agg (hT : TabOk P T) {t : Nat} {b : Bool} (h : T.agg t = some b) (w : World) : (isAgg t).run P w = .ok b w := by
  obtain ⟨d, h1, h2⟩ := hT.agg h
  unfold isAgg
  rw [Sem.run_bind, run_underlying h1 w]
  cases d <;> simp at h2 <;> simp [h2]

/-- The cells that lie at an address. -/
def AtCells (N : Nat → Prop) (w : World) (a : Addr) (cs : List AV) : Prop := a.spot = none ∧ ∃ us : List Value, us.length = cs.length ∧ (∀ j v, us[j]? = some v → w.cell? (a.add j) = some v) ∧ ∀ (j : Nat) av v, cs[j]? = some av → us[j]? = some v → RelV N w av v

theorem win_get {α : Type} {l m : List α} {o n : Nat} (h : win l o n = some m) : m.length = n ∧ ∀ j, j < n → m[j]? = l[o + j]? := by
  unfold win at h
  split at h
  · cases h
    refine ⟨by simp; omega, fun j hj => ?_⟩
    rw [List.getElem?_take, if_pos hj, List.getElem?_drop]
  · cases h

/-- w' has all that w had. -/
def Same (w w' : World) : Prop := w.heap.size ≤ w'.heap.size ∧ ∀ k, k < w.heap.size → w'.heap[k]? = w.heap[k]?
theorem Same.refl (w : World) : Same w w := ⟨Nat.le_refl _, fun _ _ => rfl⟩
theorem Same.cell {w w' : World} (h : Same w w') {a : Addr} {v : Value} (hc : w.cell? a = some v) : w'.cell? a = some v :=
  Later.cell (N := fun _ => False) ⟨h.1, fun k hk _ => h.2 k hk⟩ (fun h => h) hc

theorem run_loadVar_at (hT : TabOk P T) {N : Nat → Prop} {w : World} {t n : Nat} {g : Bool} {ad : Addr} {cs : List AV} {av : AV} (hs : T.size t = some n) (hg : T.agg t = some g) (hn : cs.length = n) (h : AtCells N w ad cs) (hm : mkA g cs = some av) :
    ∃ v, RelV N w av v ∧ ∀ w', Same w w' → (loadVar t ad).run P w' = .ok v w' := by
  obtain ⟨hsp, us, hl, hc, hr⟩ := h
  unfold mkA at hm
  cases g with
  | true =>
    cases hm
    refine ⟨.agg us.toArray, ?_, fun w' hw => ?_⟩
    · exact .agg _ _ (by simp [hl]) (fun i av v h1 h2 => hr i av v h1 (by simpa using h2))
    · have := run_loadCells_list (P := P) w' ad us (fun j v hj => hw.cell (hc j v hj))
      rw [hl, hn] at this
      simp [loadVar, Sem.run_bind, run_agg hT hg, run_size hT hs, this]
  | false =>
    match cs, hm with
    | [x], hm =>
      cases hm
      match us, hl with
      | [v], _ =>
        refine ⟨v, hr 0 _ v rfl rfl, fun w' hw => ?_⟩
        have := hw.cell (hc 0 v rfl)
        rw [add_none _ _ hsp] at this
        have e : (⟨ad.block, ad.off + 0, none⟩ : Addr) = ad := by cases ad; simp_all
        rw [e] at this
        simp [loadVar, Sem.run_bind, run_agg hT hg, this]

theorem RelV.one {N : Nat → Prop} {w : World} {x : AV} {u : Value} (hx : RelV N w x u) (hc : x.cell = true) : u.oneCell' = true := by
  cases hx <;> first | rfl | assumption | (simp [AV.cell] at hc; done) | (simpa [AV.cell] using hc)

theorem cells_of_one {u : Value} (h : u.oneCell' = true) : u.cells = #[u] := by
  cases u <;> first | rfl | (simp [Value.oneCell'] at h; done)

theorem RelV.cells {N : Nat → Prop} {w : World} {av : AV} {v : Value} (h : RelV N w av v) (hc : (cellsA av).all AV.cell = true) :
    v.cells.size = (cellsA av).length ∧ (∀ (j : Nat) x, (cellsA av)[j]? = some x → ∃ u, v.cells[j]? = some u ∧ RelV N w x u) ∧ ∀ u ∈ v.cells.toList, u.oneCell' = true := by
  have single : cellsA av = [av] → v.cells.size = (cellsA av).length ∧ (∀ (j : Nat) x, (cellsA av)[j]? = some x → ∃ u, v.cells[j]? = some u ∧ RelV N w x u) ∧ ∀ u ∈ v.cells.toList, u.oneCell' = true := by
    intro e
    rw [e] at hc ⊢
    have h1 := h.one (by simpa using hc)
    rw [cells_of_one h1]
    refine ⟨rfl, fun j x hj => ?_, fun u hu => by simp at hu; rw [hu]; exact h1⟩
    match j, hj with
    | 0, hj => cases hj; exact ⟨v, rfl, h⟩
  cases av with
  | agg cs =>
    cases h with
    | agg cs vs hl h =>
      refine ⟨hl, fun j x hj => ?_, fun u hu => ?_⟩
      · simp only [cellsA] at hj
        have hj' : j < vs.size := by
          rw [hl]
          rcases Nat.lt_or_ge j cs.length with h' | h'
          · exact h'
          · rw [List.getElem?_eq_none h'] at hj; cases hj
        exact ⟨vs[j], by simp [Value.cells, hj'], h j x _ hj (by simp [hj'])⟩
      · simp only [Value.cells, Array.mem_toList_iff] at hu
        obtain ⟨j, hj, rfl⟩ := Array.mem_iff_getElem.1 hu
        have hj' : j < cs.length := by omega
        have h1 : cs[j].cell = true := List.all_eq_true.1 hc _ (by simp [cellsA])
        exact (h j _ _ (List.getElem?_eq_getElem hj') (by simp [hj])).one h1
  | _ => exact single rfl

end
end Go.Bb
