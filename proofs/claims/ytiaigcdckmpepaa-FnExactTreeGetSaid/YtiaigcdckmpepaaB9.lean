/- Calls and functions; the conditions stand in each theorem. -/
import Derived.Test.YtiaigcdckmpepaaB8
/-! Calls, functions. -/
set_option linter.unusedVariables false
set_option linter.unusedSimpArgs false
namespace Go.Bb

/-- It looks into no memory. -/
inductive Scal : AV → Prop
  | int (k : IntKind) (n : Int) : Scal (.int k n)
  | bool (b : Bool) : Scal (.bool b)
  | str (l : List UInt8) : Scal (.str l)
  | raw (v : Value) : Scal (.raw v)
  | hd (x : Nat) (v : Value) : Scal (.hd x v)
  | ptr (x b off : Nat) : Scal (.ptr x b off)
  | rptr (x : Nat) (v : Value) (sz i off : Nat) : Scal (.rptr x v sz i off)
  | nil : Scal .nil
  | und : Scal .und
  | sl0 (z : Bool) : Scal (.sl z [])
  | agg (cs : List AV) (h : ∀ av ∈ cs, Scal av) : Scal (.agg cs)
  | tup (cs : List AV) (h : ∀ av ∈ cs, Scal av) : Scal (.tup cs)
  | ifc (t : TypeId) (av : AV) (h : Scal av) : Scal (.ifc t av)

theorem Scal.rel {N N' : Nat → Prop} {w w' : World} {av : AV} (hs : Scal av) : ∀ {v : Value}, RelV N w av v → RelV N' w' av v := by
  induction hs with
  | int k n => intro v h; cases h; exact .int _ _
  | bool b => intro v h; cases h; exact .bool _
  | str l => intro v h; cases h; exact .str _ (by assumption)
  | raw v => intro v h; cases h; exact .raw _ (by assumption)
  | hd x v => intro v h; cases h; exact .hd _ _ (by assumption)
  | ptr x b off => intro v h; cases h; exact .ptr _ _ _
  | rptr x v sz i off => intro v h; cases h; exact .rptr _ _ _ _ _ _ _
  | nil => intro v h; cases h; exact .nil
  | und => intro v h; cases h; exact .und
  | sl0 z =>
    intro v h
    generalize hr : ([] : List (List AV)) = rows at h
    cases h with
    | slNil => exact .slNil _
    | sl _ _ a cap sz u hs hc hm h1 h2 h3 h4 => subst hr; exact .sl _ [] a cap sz u hs hc hm (fun i row h => by simp at h) (fun i row j av h => by simp at h) (fun i row j av h => by simp at h) (fun _ i row j av h => by simp at h)
  | agg cs h ih =>
    intro v hv
    cases hv with
    | agg _ vs hl hh => exact .agg _ _ hl (fun i av v h1 h2 => ih av (List.mem_of_getElem? h1) (hh i av v h1 h2))
  | tup cs h ih =>
    intro v hv
    cases hv with
    | tup _ vs hl hh => exact .tup _ _ hl (fun i av v h1 h2 => ih av (List.mem_of_getElem? h1) (hh i av v h1 h2))
  | ifc t av h ih => intro v hv; cases hv with | ifc _ _ _ hh => exact .ifc _ _ _ (ih hh)

/-- It looks into no memory but its own. -/
inductive Cln : AV → Prop
  | scal (av : AV) (h : Scal av) : Cln av
  | osl (t : TypeId) (sz : Nat) (rows : List (List AV)) (h : ∀ row ∈ rows, ∀ av ∈ row, Cln av) : Cln (.osl t sz rows)
  | optr (t : TypeId) (cs : List AV) (h : ∀ av ∈ cs, Cln av) : Cln (.optr t cs)

theorem Cln.own {N N' : Nat → Prop} {w : World} {av : AV} (hs : Cln av) : ∀ {S : Nat → Prop} {v : Value}, OwnV N w S av v → OwnV N' w S av v := by
  induction hs with
  | scal av h =>
    intro S v hv
    cases hv with
    | frz _ _ _ hh => exact .frz _ _ _ (h.rel hh)
    | osl0 => cases h
    | osl => cases h
    | optr => cases h
  | osl t sz rows h ih =>
    intro S v hv
    cases hv with
    | frz _ _ _ hh => cases hh
    | osl0 => exact .osl0 _ _ _
    | osl _ _ _ _ b cap arr G u hb hh hsz hl hm hr hG hd hc ho => exact .osl _ _ _ _ b cap arr G u hb hh hsz hl hm hr hG hd hc (fun i row j av h1 h2 => ih row (List.mem_of_getElem? h1) av (List.mem_of_getElem? h2) (ho i row j av h1 h2))
  | optr t cs h ih =>
    intro S v hv
    cases hv with
    | frz _ _ _ hh => cases hh
    | optr _ _ _ b arr G u hb hh hsz hG hd hc ho => exact .optr _ _ _ b arr G u hb hh hsz hG hd hc (fun j av h1 => ih av (List.mem_of_getElem? h1) (ho j av h1))

/-- A function that may be entered. -/
def Ent (P : Program) (f : FuncId) : Prop := ∃ fn, P.funcs[f]? = some fn ∧ fn.body.isNone = false ∧ (fn.name == "runtime.NumGoroutine") = false

def RelVs (N : Nat → Prop) (w : World) (avs : List AV) (vs : Array Value) : Prop := vs.size = avs.length ∧ ∀ (i : Nat) av v, avs[i]? = some av → vs[i]? = some v → RelV N w av v

/-- What a call comes to: of arguments 'avs', with what it is handed to write on, 'hs': a result and what it hands back to write on, as R says; all else is as it was. -/
def Does (P : Program) (f : FuncId) (avs : List AV) (hs : HP) (R : AV → HP → Prop) : Prop :=
  Ent P f ∧ ∀ F N w vs, RelVs N w avs vs → HOk N F w hs →
    Calls P f vs w fun e w' => ∃ v r h' F' N', e = .returned v ∧ R r h' ∧ RelV N' w' r v ∧ HOk N' F' w' h' ∧
      (∀ x, x ∈ keys h' → ∀ b, F' x b → (∃ y, y ∈ keys hs ∧ F y b) ∨ w.heap.size ≤ b) ∧
      (∀ k, k < w.heap.size → N' k → N k) ∧ (∀ k, k < w.heap.size → N k → N' k ∨ ∃ y, y ∈ keys hs ∧ F y k) ∧ Unch (fun k => ∃ y, y ∈ keys hs ∧ F y k) w w'

section
variable {P : Program} {T : Tab} {c : Cx} {F : Nat → Nat → Prop} {o : Oper} {σ : St} {K : St → Prop} {N : Nat → Prop} {a : Act} {w : World} {all r : List Oper}
variable {d : Option Tmp} {ty : TypeId} {pos : String} {af : Array Edge} {g : Option (Nat × Bool)}

theorem Does.mono {f : FuncId} {avs : List AV} {hs : HP} {R R' : AV → HP → Prop} (h : Does P f avs hs R) (hR : ∀ r h', R r h' → R' r h') : Does P f avs hs R' :=
  ⟨h.1, fun F N w vs h1 h2 => (h.2 F N w vs h1 h2).mono fun e w' ⟨v, r, h', F', N', h3, h4, h5⟩ => ⟨v, r, h', F', N', h3, hR _ _ h4, h5⟩⟩

theorem run_call {f : FuncId} (he : Ent P f) (args : Array Value) (w : World) : (callFunc f args).run P w = .ok (.enter f args) w := by
  obtain ⟨fn, h1, h2, h3⟩ := he
  unfold callFunc
  have h4 : ¬ ((fn.name == "runtime.NumGoroutine") = true) := by rw [h3]; simp
  have h5 : ¬ (fn.body.isNone = true) := by rw [h2]; simp
  simp only [Sem.run_bind, run_program, Result.andThen_ok, h1, if_neg h4, if_neg h5]
  rfl

/-- What a call comes to: it enters this function with these arguments. -/
def Core (P : Program) (c : Cx) (σ : St) (o : Oper) (f : FuncId) (avs : List AV) : Prop :=
  Ent P f → ∀ F N a w, Rel c F N σ a w → ∃ args, (∀ w', (execOp a.eval o).run P w' = .ok (.enter f args) w') ∧ ∀ F' N' w', Rel c F' N' σ a w' → RelVs N' w' avs args

theorem core_value {f : FuncId} {avs caps : List AV} {x : Operand} {args : Array Operand} {at_ : Array TypeId} (hx : evA σ x = some (.clo (.func f) caps)) (ha : evAs σ args.toList = some avs) : Core P c σ ⟨d, .call ⟨.value x, args, at_⟩, ty, pos, af, g⟩ f (avs ++ caps) := by
  intro he F N a w hr
  have hv := evA_rel hr hx
  generalize hav : a.eval x = v at hv
  cases hv with
  | clo fn caps' vs hl hc =>
    refine ⟨args.map a.eval ++ vs, fun w' => ?_, fun F' N' w' hr' => ?_⟩
    · simp [execOp, resolve, Deferred.ofValue, hav, invoke, run_call he]
    · have hv' := evA_rel hr' hx
      rw [hav] at hv'
      cases hv' with
      | clo fn caps' vs hl hc =>
        obtain ⟨hl2, hargs⟩ := evAs_rel hr' _ ha
        refine ⟨by simp [hl, hl2], fun i av v h1 h2 => ?_⟩
        rcases Nat.lt_or_ge i avs.length with h3 | h3
        · rw [List.getElem?_append_left h3] at h1
          have h4 : i < args.size := by simpa using (by omega : i < args.toList.length)
          rw [Array.getElem?_append_left (by simpa using h4)] at h2
          have h5 : args.toList[i]? = some args[i] := by simp [h4]
          have h6 : v = a.eval args[i] := by simp [h4] at h2; exact h2.symm
          rw [h6]; exact hargs i av _ h1 h5
        · rw [List.getElem?_append_right h3] at h1
          have h4 : args.size ≤ i := by simpa using (by omega : args.toList.length ≤ i)
          rw [Array.getElem?_append_right (by simpa using h4)] at h2
          have h5 : args.size = avs.length := by simpa using hl2.symm
          simp only [Array.size_map, h5] at h2
          exact hc _ av v h1 h2

theorem core_invoke (hT : TabOk P T) {f : FuncId} {avs : List AV} {args : Array Operand} {at_ : Array TypeId} {x : Operand} {name : String} {u : TypeId} {v : AV} {sh : Sh} (hx : evA σ x = some (.ifc u v)) (ha : evAs σ args.toList = some avs)
    (hm : T.meth u name = some f) (hkd : T.kind u = some sh) (hk0 : (match sh with | .ptr _ | .other => false | _ => true) = true) : Core P c σ ⟨d, .call ⟨.invoke x name, args, at_⟩, ty, pos, af, g⟩ f (v :: avs) := by
  intro he F N a w hr
  obtain ⟨n, m, h1, h2, h3, h4⟩ := hT.meth hm
  obtain ⟨dd, hd, hd'⟩ := hT.kind hkd
  have hv := evA_rel hr hx
  generalize hav : a.eval x = y at hv
  cases hv with
  | ifc _ _ v' hv' =>
    refine ⟨#[v'] ++ args.map a.eval, fun w' => ?_, fun F' N' w' hr' => ?_⟩
    · have e0 : (#[Value.iface u v'] ++ Array.map a.eval args)[0]? = some (.iface u v') := by rw [Array.getElem?_append_left (by simp)]; rfl
      have hpos : 0 < Made.depth := by decide
      obtain ⟨k, hk⟩ : ∃ k, P.types.size + Made.depth = k + 1 := ⟨P.types.size + (Made.depth - 1), by omega⟩
      have hmeth : ∀ w, (method (k + 1) u v' name).run P w = .ok (f, v') w := by
        intro w
        simp [method, typeInfo, h1, h2, h3, h4, follow, receiverAt, Sem.run_bind, run_underlying hd]
        cases dd <;> first | (simp [shOf] at hd'; subst hd'; simp at hk0; done) | simp [Place.get]
      simp [execOp, resolve, hav, invoke, callMethod, e0]
      simp [Sem.run_bind, hk, hmeth, run_call he]
      have e1 : args.size = (Array.map a.eval args).size := by simp
      rw [e1, Array.extract_size]
    · have hv2 := evA_rel hr' hx
      rw [hav] at hv2
      cases hv2 with
      | ifc _ _ _ hv2 =>
        obtain ⟨hl2, hargs⟩ := evAs_rel hr' _ ha
        have hl3 : args.size = avs.length := by simpa using hl2.symm
        refine ⟨by simp [hl3]; omega, fun i av v h1 h2 => ?_⟩
        cases i with
        | zero =>
          rw [Array.getElem?_append_left (by simp)] at h2
          cases h1; cases h2; exact hv2
        | succ i =>
          simp only [List.getElem?_cons_succ] at h1
          rw [Array.getElem?_append_right (by simp)] at h2
          simp only [List.size_toArray, List.length_cons, List.length_nil, Nat.zero_add, Nat.add_sub_cancel, Array.getElem?_map, Option.map_eq_some_iff] at h2
          obtain ⟨x, h3, rfl⟩ := h2
          exact hargs i av x h1 (by simpa using h3)

/-! What is handed over -/
def wsrc (s : HP) : List Nat → HP → Prop
  | [], [] => True
  | y :: ys, (_, (v, o)) :: r => getk y s = some (v, o) ∧ wsrc s ys r
  | _, _ => False
/-- From where each comes. -/
def srcK : List Nat → HP → Nat → Nat
  | m :: ms, (x, _) :: r, k => if x = k then m else srcK ms r k
  | _, _, _ => 0
theorem wsrc_get {s : HP} : ∀ {ms : List Nat} {l : HP}, wsrc s ms l → ∀ k v o, getk k l = some (v, o) → srcK ms l k ∈ ms ∧ getk (srcK ms l k) s = some (v, o)
  | [], [], _, k, v, o, h => by cases h
  | m :: ms, (x, (v0, o0)) :: r, h, k, v, o, hk => by
    simp only [getk] at hk
    simp only [srcK]
    by_cases e : x = k
    · rw [if_pos e] at hk ⊢; cases hk; exact ⟨by simp, h.1⟩
    · rw [if_neg e] at hk ⊢
      obtain ⟨h1, h2⟩ := wsrc_get h.2 k v o hk
      exact ⟨List.mem_cons_of_mem _ h1, h2⟩
  | [], _ :: _, h, _, _, _, _ => by cases h
  | _ :: _, [], h, _, _, _, hk => by cases hk
theorem srcK_inj {s : HP} : ∀ {ms : List Nat} {l : HP}, wsrc s ms l → ms.Nodup → ∀ x x', x ∈ keys l → x' ∈ keys l → srcK ms l x = srcK ms l x' → x = x'
  | [], [], _, _, x, x', h, _, _ => by simp [keys] at h
  | m :: ms, (k, (v0, o0)) :: r, h, hn, x, x', h1, h2, e => by
    have hmem : ∀ z, z ∈ keys r → srcK ms r z ∈ ms := fun z hz => by
      obtain ⟨⟨v, o⟩, ho⟩ := mem_keys_get hz
      exact (wsrc_get h.2 z v o ho).1
    simp only [keys, List.map_cons, List.mem_cons] at h1 h2
    simp only [srcK] at e
    obtain ⟨hn1, hn2⟩ := List.nodup_cons.1 hn
    by_cases e1 : k = x <;> by_cases e2 : k = x'
    · omega
    · rw [if_pos e1, if_neg e2] at e
      exact absurd (e ▸ hmem x' (h2.resolve_left (fun h => e2 h.symm))) hn1
    · rw [if_neg e1, if_pos e2] at e
      exact absurd (e ▸ hmem x (h1.resolve_left (fun h => e1 h.symm))) hn1
    · rw [if_neg e1, if_neg e2] at e
      exact srcK_inj h.2 hn2 x x' (h1.resolve_left (fun h => e1 h.symm)) (h2.resolve_left (fun h => e2 h.symm)) e
  | [], _ :: _, h, _, _, _, _, _, _ => by cases h
  | _ :: _, [], h, _, _, _, h1, _, _ => by simp [keys] at h1

/-- The same, under other names. -/
theorem ren_get {α : Type} : ∀ {hN h' : List (Nat × α)}, hN.map (·.2) = h'.map (·.2) → (keys h').Nodup → ∀ x y, getk x hN = some y → ∃ x', getk x' h' = some y ∧ ∀ z y2, getk z hN = some y2 → z ≠ x → ∀ x2, getk x2 h' = some y2 → True
  | [], _, _, _, x, y, h => by cases h
  | (i, v) :: hN, [], e, _, _, _, _ => by simp at e
  | (i, v) :: hN, (j, u) :: h', e, hn, x, y, h => by
    simp only [List.map_cons, List.cons.injEq] at e
    obtain ⟨rfl, e⟩ := e
    simp only [getk] at h
    split at h
    · cases h; exact ⟨j, by simp [getk], fun _ _ _ _ _ _ => trivial⟩
    · obtain ⟨x', h1, _⟩ := ren_get e (List.nodup_cons.1 hn).2 x y h
      refine ⟨x', ?_, fun _ _ _ _ _ _ => trivial⟩
      simp only [getk]
      rw [if_neg]
      · exact h1
      · rintro rfl
        exact (List.nodup_cons.1 hn).1 (get_mem_keys h1)

def idxOf {α : Type} (x : Nat) : List (Nat × α) → Nat
  | [] => 0
  | (i, _) :: r => if i = x then 0 else idxOf x r + 1
/-- The name under which the callee knows it. -/
def back {α : Type} (hN h' : List (Nat × α)) (x : Nat) : Nat := (h'[idxOf x hN]?.map (·.1)).getD 0
theorem getk_idx {α : Type} {x : Nat} : ∀ {l : List (Nat × α)} {y : α}, getk x l = some y → l[idxOf x l]? = some (x, y)
  | [], y, h => by cases h
  | (i, v) :: l, y, h => by
    simp only [getk] at h
    simp only [idxOf]
    split at h
    · rename_i e; subst e; cases h; simp
    · rename_i e; rw [if_neg e]; simpa using getk_idx h
theorem idx_getk {α : Type} : ∀ {l : List (Nat × α)} {n x : Nat} {y : α}, (keys l).Nodup → l[n]? = some (x, y) → getk x l = some y
  | [], n, x, y, _, h => by simp at h
  | (i, v) :: l, 0, x, y, _, h => by simp at h; obtain ⟨rfl, rfl⟩ := h; simp [getk]
  | (i, v) :: l, n + 1, x, y, hn, h => by
    have h' : l[n]? = some (x, y) := by simpa using h
    have hx : x ∈ keys l := List.mem_map.2 ⟨_, List.mem_of_getElem? h', rfl⟩
    have hne : i ≠ x := by rintro rfl; exact (List.nodup_cons.1 hn).1 hx
    simp only [getk, if_neg hne]
    exact idx_getk (List.nodup_cons.1 hn).2 h'
theorem back_get {α : Type} {hN h' : List (Nat × α)} (e : hN.map (·.2) = h'.map (·.2)) (hn : (keys h').Nodup) {x : Nat} {y : α} (h : getk x hN = some y) : getk (back hN h' x) h' = some y := by
  have h1 := getk_idx h
  have h2 : (h'.map (·.2))[idxOf x hN]? = some y := by rw [← e, List.getElem?_map, h1]; rfl
  rw [List.getElem?_map] at h2
  obtain ⟨⟨x', y'⟩, h3, h4⟩ := Option.map_eq_some_iff.1 h2
  simp only at h4
  subst h4
  have : back hN h' x = x' := by unfold back; rw [h3]; rfl
  rw [this]
  exact idx_getk hn h3
theorem back_inj {α : Type} {hN h' : List (Nat × α)} (e : hN.map (·.2) = h'.map (·.2)) (hn : (keys h').Nodup) {x x' : Nat} (hx : x ∈ keys hN) (hx' : x' ∈ keys hN) (hb : back hN h' x = back hN h' x') : x = x' := by
  obtain ⟨y, hy⟩ := mem_keys_get hx
  obtain ⟨y', hy'⟩ := mem_keys_get hx'
  have h1 := getk_idx hy
  have h1' := getk_idx hy'
  have hlen : hN.length = h'.length := by simpa using congrArg List.length e
  have lt : ∀ {n : Nat} {p : Nat × α}, hN[n]? = some p → n < h'.length := fun {n p} h => by
    rw [← hlen]
    rcases Nat.lt_or_ge n hN.length with h' | h'
    · exact h'
    · rw [List.getElem?_eq_none h'] at h; cases h
  have hi := lt h1
  have hi' := lt h1'
  have b1 : back hN h' x = h'[idxOf x hN].1 := by unfold back; simp [hi]
  have b2 : back hN h' x' = h'[idxOf x' hN].1 := by unfold back; simp [hi']
  rw [b1, b2] at hb
  have hk1 : (keys h')[idxOf x hN]? = some (h'[idxOf x hN].1) := by simp [keys, hi]
  have hk2 : (keys h')[idxOf x' hN]? = some (h'[idxOf x hN].1) := by rw [hb]; simp [keys, hi']
  have : idxOf x hN = idxOf x' hN := by
    have hp := List.pairwise_iff_getElem.1 hn
    have hl : (keys h').length = h'.length := by simp [keys]
    have e1 : (keys h')[idxOf x hN]'(by omega) = h'[idxOf x hN].1 := by simp [keys]
    have e2 : (keys h')[idxOf x' hN]'(by omega) = h'[idxOf x hN].1 := by rw [hb]; simp [keys]
    rcases Nat.lt_trichotomy (idxOf x hN) (idxOf x' hN) with h | h | h
    · exact absurd (e1.trans e2.symm) (hp _ _ (by omega) (by omega) h)
    · exact h
    · exact absurd (e2.trans e1.symm) (hp _ _ (by omega) (by omega) h)
  rw [this] at h1
  rw [h1] at h1'
  cases h1'; rfl

theorem get_append {α : Type} {h h' : List (Nat × α)} {k : Nat} {x : α} (e : getk k (h ++ h') = some x) : getk k h = some x ∨ (k ∉ keys h ∧ getk k h' = some x) := by
  induction h with
  | nil => exact .inr ⟨by simp [keys], e⟩
  | cons p h ih =>
    obtain ⟨i, y⟩ := p
    simp only [List.cons_append, getk] at e ⊢
    split at e
    · rename_i hk; exact .inl (by rw [if_pos hk]; exact e)
    · rename_i hk
      rcases ih e with h1 | ⟨h1, h2⟩
      · exact .inl (by rw [if_neg hk]; exact h1)
      · refine .inr ⟨?_, h2⟩
        simp only [keys, List.map_cons, List.mem_cons, not_or]
        exact ⟨fun h => hk h.symm, h1⟩

/-- What must hold behind a call: K says so of the state in which the result r and what comes back, h', have their names. -/
def AfterCall (o : Oper) (σ : St) (K : St → Prop) (ys ms : List Nat) (r : AV) (h' : HP) : Prop :=
  ∃ r' hN, Wk [] r' r ∧ hN.map (·.2) = h'.map (·.2) ∧ (keys hN).Nodup ∧ (keys h').Nodup ∧ (∀ x ∈ keys hN, has x (minus σ.heap ms) = false) ∧ (ys = [] ∨ (Scal r ∧ ∀ p ∈ h', Cln p.2.2)) ∧ dok o.dst σ.nt = true ∧ K ({ σ with heap := hN ++ minus σ.heap ms }.put o.dst r')

/-- A call: ys are lent to be read, ms handed over to be written. -/
theorem o_call {f : FuncId} {avs avs1 : List AV} {hs : HP} {R : AV → HP → Prop} (ys : List Nat) (Z : List (Value × AV)) (ms : List Nat) (hcore : Core P c σ o f avs) (hS : Does P f avs1 hs R) (hz : wfrz σ.heap ys Z) (hargs : WkL Z avs1 avs) (hsrc : wsrc σ.heap ms hs) (hnd : ms.Nodup) (hym : ∀ y ∈ ys, y ∉ ms)
    (hK : ∀ r h', R r h' → AfterCall o σ K ys ms r h') : OpOk P c o σ K := by
  intro F N a w hr next Q hn
  obtain ⟨he, hS⟩ := hS
  obtain ⟨args, hrun, hrel⟩ := hcore he F N a w hr
  let lent : Nat → Prop := fun k => ∃ y, y ∈ ys ∧ y ∈ keys σ.heap ∧ F y k
  let N1 : Nat → Prop := fun k => N k ∧ ¬ lent k
  let Fc : Nat → Nat → Prop := fun x => F (srcK ms hs x)
  have hZ : ∀ v av, (v, av) ∈ Z → RelV N1 w av v := by
    intro v av hm
    obtain ⟨y, o, h1, h2, h3⟩ := wfrz_mem hz v av hm
    exact (hr.heap.own y v o h2).freeze h3 (fun k hk => ⟨hk.1, fun hF => hk.2 ⟨y, h1, get_mem_keys h2, hF⟩⟩)
  have hvs : RelVs N1 w avs1 args := by
    obtain ⟨h1, h2⟩ := hrel F N w hr
    obtain ⟨h3, h4⟩ := hargs.get
    refine ⟨by rw [h1, h3], fun i av v h5 h6 => ?_⟩
    obtain ⟨b, h7, h8⟩ := h4 i av h5
    exact h8.rel hZ ((h2 i b v h7 h6).mono (.refl N w) (fun _ _ h => h.1))
  have hsk : ∀ x, x ∈ keys hs → srcK ms hs x ∈ ms ∧ srcK ms hs x ∈ keys σ.heap := fun x hx => by
    obtain ⟨⟨v, o⟩, ho⟩ := mem_keys_get hx
    obtain ⟨h1, h2⟩ := wsrc_get hsrc x v o ho
    exact ⟨h1, get_mem_keys h2⟩
  have hnl : ∀ y, y ∈ keys σ.heap → y ∉ ys → ∀ b, F y b → ¬ lent b := by
    rintro y hy hyys b hb ⟨z, h1, h2, h3⟩
    exact hr.heap.disj y z hy h2 (by rintro rfl; exact hyys h1) b hb h3
  have hho : HOk N1 Fc w hs := by
    refine ⟨fun x v o hx => ?_, fun x hx b hb => ?_, fun x y hx hy hne b hb hb' => ?_, fun x v o hx => hr.heap.one _ v o (wsrc_get hsrc x v o hx).2⟩
    · exact (hr.heap.own _ v o (wsrc_get hsrc x v o hx).2).mono (.refl N w) (fun _ _ h => h.1) (fun _ _ _ => rfl)
    · obtain ⟨h1, h2⟩ := hsk x hx
      obtain ⟨h3, h4⟩ := hr.heap.foot _ h2 b hb
      exact ⟨⟨h3, hnl _ h2 (fun h => hym _ h h1) b hb⟩, h4⟩
    · exact hr.heap.disj _ _ (hsk x hx).2 (hsk y hy).2 (fun e => hne (srcK_inj hsrc hnd x y hx hy e)) b hb hb'
  unfold Oper.wp; rw [hrun w]
  refine (hS Fc N1 w args hvs hho).mono ?_
  rintro e w' ⟨v, r, h', F', N', rfl, hR, hv, hh', hmay, hN1, hN2, hU⟩
  obtain ⟨r', hN, hwk, hmap, hndN, hnd', hdis, hcl, hd, hk⟩ := hK r h' hR
  let N2 : Nat → Prop := fun k => N' k ∨ lent k
  let F2 : Nat → Nat → Prop := fun x => @ite _ (x ∈ keys hN) (Classical.propDecidable _) (F' (back hN h' x)) (F x)
  have hM : ∀ k, (∃ y, y ∈ keys hs ∧ Fc y k) → ∃ y, y ∈ ms ∧ y ∈ keys σ.heap ∧ F y k := by
    rintro k ⟨y, h1, h2⟩
    exact ⟨_, (hsk y h1).1, (hsk y h1).2, h2⟩
  have hMN : ∀ k, (∃ y, y ∈ keys hs ∧ Fc y k) → N k := fun k h => let ⟨y, _, h2, h3⟩ := hM k h; (hr.heap.foot y h2 k h3).1
  have hL : Later N w w' := ⟨hU.size, fun k hk hNk => hU.block k hk (fun h => hNk (hMN k h))⟩
  have hN2N : ∀ k, k < w.heap.size → N2 k → N k := by
    rintro k hk (h | ⟨y, _, h2, h3⟩)
    · exact (hN1 k hk h).1
    · exact (hr.heap.foot y h2 k h3).1
  have hbk : ∀ x, x ∈ keys hN → back hN h' x ∈ keys h' := fun x hx => by
    obtain ⟨y, hy⟩ := mem_keys_get hx
    exact get_mem_keys (back_get hmap hnd' hy)
  have hrest : ∀ x, x ∈ keys (minus σ.heap ms) → x ∉ keys hN := fun x hx h => has_no (hdis x h) hx
  have hFb : ∀ x, x ∈ keys hN → ∀ b, F2 x b → F' (back hN h' x) b := fun x hx b hb => by simpa [F2, hx] using hb
  have hFo : ∀ x, x ∉ keys hN → ∀ b, F2 x b → F x b := fun x hx b hb => by simpa [F2, hx] using hb
  have hkeys : ∀ x, x ∈ keys (hN ++ minus σ.heap ms) → x ∈ keys hN ∨ (x ∉ keys hN ∧ x ∈ keys (minus σ.heap ms)) := fun x hx => by
    obtain ⟨y, hy⟩ := mem_keys_get hx
    rcases get_append hy with h | ⟨h1, h2⟩
    · exact .inl (get_mem_keys h)
    · exact .inr ⟨h1, get_mem_keys h2⟩
  have hold : ∀ x, x ∈ keys (minus σ.heap ms) → ∀ b, F x b → ¬ ∃ y, y ∈ keys hs ∧ Fc y b := by
    rintro x hx b hb h
    obtain ⟨y, h1, h2, h3⟩ := hM b h
    obtain ⟨h4, h5⟩ := mem_minus hx
    exact hr.heap.disj x y h5 h2 (by rintro rfl; exact h4 h1) b hb h3
  refine hn _ F2 N2 _ _ hk (Rel.put ?_ (dok_ok hd) ?_)
  · refine ⟨hr.defers, hr.size, fun k av hk => ?_, ⟨fun x u o hx => ?_, fun x hx b hb => ?_, fun x y hx hy hne b hb hb' => ?_, fun x u o hx => ?_⟩, fun x hx b hb => ?_, fun k hk h0 => ?_, ?_⟩
    · obtain ⟨u, h1, h2⟩ := hr.slots k av hk
      exact ⟨u, h1, h2.mono hL hN2N⟩
    · rcases get_append hx with hx | ⟨h1, hx⟩
      · have hxk := get_mem_keys hx
        have h3 := hh'.own _ u o (back_get hmap hnd' hx)
        have e : F2 x = F' (back hN h' x) := by simp only [F2, hxk, if_true]
        rw [e]
        rcases hcl with rfl | ⟨_, hcl⟩
        · refine h3.mono (.refl N' w') (fun i _ h => ?_) (fun _ _ _ => rfl)
          rcases h with h | ⟨y, h, _⟩
          · exact h
          · cases h
        · exact (hcl _ (get_mem (back_get hmap hnd' hx))).own h3
      · obtain ⟨h2, h3⟩ := get_minus hx
        have e : F2 x = F x := by simp only [F2, h1, if_false]
        rw [e]
        exact (hr.heap.own x u o h3).mono hL hN2N (fun k hk hF => hU.block k hk (hold x (get_mem_keys hx) k hF))
    · rcases hkeys x hx with h | ⟨h1, h2⟩
      · obtain ⟨h3, h4⟩ := hh'.foot _ (hbk x h) b (hFb x h b hb)
        exact ⟨.inl h3, h4⟩
      · have hF := hFo x h1 b hb
        obtain ⟨h3, h4⟩ := mem_minus h2
        obtain ⟨h5, h6⟩ := hr.heap.foot x h4 b hF
        refine ⟨?_, Nat.lt_of_lt_of_le h6 hU.size⟩
        by_cases hl : lent b
        · exact .inr hl
        · exact .inl ((hN2 b h6 ⟨h5, hl⟩).resolve_right (hold x h2 b hF))
    · have mix : ∀ x y, x ∈ keys hN → y ∉ keys hN → y ∈ keys (minus σ.heap ms) → F2 x b → F2 y b → False := by
        intro x y h1 h2 h3 h4 h5
        have hF := hFo y h2 b h5
        rcases hmay _ (hbk x h1) b (hFb x h1 b h4) with h6 | h6
        · exact hold y h3 b hF h6
        · have := (hr.heap.foot y (mem_minus h3).2 b hF).2; omega
      rcases hkeys x hx with h | ⟨h1, h2⟩ <;> rcases hkeys y hy with h' | ⟨h1', h2'⟩
      · exact hh'.disj _ _ (hbk x h) (hbk y h') (fun e => hne (back_inj hmap hnd' h h' e)) b (hFb x h b hb) (hFb y h' b hb')
      · exact mix x y h h1' h2' hb hb'
      · exact mix y x h' h1 h2 hb' hb
      · exact hr.heap.disj x y (mem_minus h2).2 (mem_minus h2').2 hne b (hFo x h1 b hb) (hFo y h1' b hb')
    · rcases get_append hx with hx | ⟨h1, hx⟩
      · exact hh'.one _ u o (back_get hmap hnd' hx)
      · exact hr.heap.one x u o (get_minus hx).2
    · rcases hkeys x hx with h | ⟨h1, h2⟩
      · rcases hmay _ (hbk x h) b (hFb x h b hb) with h3 | h3
        · obtain ⟨y, _, h4, h5⟩ := hM b h3
          exact hr.may y h4 b h5
        · exact .inr (Nat.le_trans hr.unch.size h3)
      · exact hr.may x (mem_minus h2).2 b (hFo x h1 b hb)
    · rcases hr.n0 k hk h0 with h1 | h1
      · have hkw : k < w.heap.size := Nat.lt_of_lt_of_le hk hr.unch.size
        by_cases hl : lent k
        · exact .inl (.inr hl)
        · rcases hN2 k hkw ⟨h1, hl⟩ with h2 | h2
          · exact .inl (.inl h2)
          · obtain ⟨y, _, h4, h5⟩ := hM k h2
            rcases hr.may y h4 k h5 with h6 | h6
            · exact .inr h6
            · omega
      · exact .inr h1
    · refine hr.unch.trans hU ?_
      intro k hk hm
      obtain ⟨y, _, h4, h5⟩ := hM k hm
      exact (hr.may y h4 k h5).resolve_right (by omega)
  · have hv' : RelV N2 w' r v := by
      rcases hcl with rfl | ⟨hs', _⟩
      · refine hv.mono (.refl N' w') (fun i _ h => ?_)
        rcases h with h | ⟨y, h, _⟩
        · exact h
        · cases h
      · exact hs'.rel hv
    exact hwk.rel (fun v av h => by cases h) hv'

theorem v_func {f : FuncId} {caps : Array Operand} {cs : List AV} (hc : evAs σ caps.toList = some cs) (hd : dok d σ.nt = true) (hK : K (σ.put d (.clo (.func f) cs))) : ValOk P c ⟨d, .makeFunc (.func f) #[] caps, ty, pos, af, g⟩ σ K :=
  mkV hd hK fun F N a w hr => by
    obtain ⟨hl, hh⟩ := evAs_rel hr _ hc
    refine ⟨.func (.func f) #[] (caps.map a.eval), .clo _ _ _ (by simp [hl]) (fun i av v h1 h2 => ?_), fun w' _ => by simp [execOp, Instr.makeFunc]⟩
    rw [Array.getElem?_map] at h2
    obtain ⟨x, h3, rfl⟩ := Option.map_eq_some_iff.1 h2
    exact hh i av x h1 (by simpa using h3)
end
end Go.Bb
