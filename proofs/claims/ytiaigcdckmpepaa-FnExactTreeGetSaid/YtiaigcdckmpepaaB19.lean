/- Nested slices of the call's own: made, stored, handed over; the conditions stand in each theorem. -/
import Derived.Test.YtiaigcdckmpepaaB16
/-! Nested slices of the call's own. -/
set_option linter.unusedVariables false
set_option linter.unusedSimpArgs false
namespace Go.Bb
theorem cong2 {α β γ : Type} (f : α → β → γ) {a a' : α} {b b' : β} (h1 : a = a') (h2 : b = b') : f a b = f a' b' := by rw [h1, h2]
theorem cong3 {α β γ δ : Type} (f : α → β → γ → δ) {a a' : α} {b b' : β} {c c' : γ} (h1 : a = a') (h2 : b = b') (h3 : c = c') : f a b c = f a' b' c' := by rw [h1, h2, h3]

inductive NilTo : AV → AV → Prop
  | refl (a : AV) : NilTo a a
  | nil (t sz : Nat) : NilTo .nil (.osl t sz [])
inductive RowTo : List AV → List AV → Prop
  | nil : RowTo [] []
  | cons {a b : AV} {l m : List AV} (h : NilTo a b) (t : RowTo l m) : RowTo (a :: l) (b :: m)
theorem RowTo.refl : ∀ l : List AV, RowTo l l
  | [] => .nil
  | a :: l => .cons (.refl a) (RowTo.refl l)
theorem RowTo.get {l m : List AV} (h : RowTo l m) : l.length = m.length ∧ ∀ (j : Nat) b, m[j]? = some b → ∃ a, l[j]? = some a ∧ NilTo a b := by
  induction h with
  | nil => exact ⟨rfl, fun j b h => by simp at h⟩
  | cons h t ih =>
    refine ⟨by simp [ih.1], fun j b hj => ?_⟩
    cases j with
    | zero => simp at hj; subst hj; exact ⟨_, rfl, h⟩
    | succ j => simpa using ih.2 j b (by simpa using hj)
inductive RowsTo : List (List AV) → List (List AV) → Prop
  | nil : RowsTo [] []
  | cons {a b : List AV} {l m : List (List AV)} (h : RowTo a b) (t : RowsTo l m) : RowsTo (a :: l) (b :: m)
theorem RowsTo.get {l m : List (List AV)} (h : RowsTo l m) : l.length = m.length ∧ ∀ (j : Nat) b, m[j]? = some b → ∃ a, l[j]? = some a ∧ RowTo a b := by
  induction h with
  | nil => exact ⟨rfl, fun j b h => by simp at h⟩
  | cons h t ih =>
    refine ⟨by simp [ih.1], fun j b hj => ?_⟩
    cases j with
    | zero => simp at hj; subst hj; exact ⟨_, rfl, h⟩
    | succ j => simpa using ih.2 j b (by simpa using hj)
theorem RowsTo.map {α : Type} {f g : α → List AV} : ∀ {l : List α}, (∀ x ∈ l, RowTo (f x) (g x)) → RowsTo (l.map f) (l.map g)
  | [], _ => .nil
  | x :: l, h => .cons (h x List.mem_cons_self) (RowsTo.map fun y hy => h y (List.mem_cons_of_mem _ hy))
theorem RowsTo.repl {α : Type} {f g : α → List AV} {n : Nat} {z : α} (h : RowTo (f z) (g z)) : RowsTo ((List.replicate n z).map f) ((List.replicate n z).map g) :=
  RowsTo.map fun x hx => by rw [List.eq_of_mem_replicate hx]; exact h

/-- A slice that is nil, in a cell, owns nothing. -/
theorem OwnV.nils {N : Nat → Prop} {w : World} {S : Nat → Prop} {v : Value} {t sz : Nat} {rows rows' : List (List AV)} (h : OwnV N w S (.osl t sz rows) v) (hr : RowsTo rows rows') : OwnV N w S (.osl t sz rows') v := by
  obtain ⟨e, hg⟩ := hr.get
  cases h with
  | frz _ _ _ h => cases h
  | osl0 => cases hr; exact .osl0 _ _ _
  | osl _ _ _ _ b cap arr G uu hb hh hsz hl hm hrr hG hd hc ho =>
    rw [e] at hl ⊢
    refine .osl _ _ _ _ b cap arr G uu hb hh hsz hl hm (fun i row hi => ?_) hG hd (fun i row j av hi hj => ?_) (fun i row j av hi hj => ?_)
    · obtain ⟨r0, h1, h2⟩ := hg i row hi
      rw [← h2.get.1]; exact hrr i r0 h1
    · obtain ⟨r0, h1, h2⟩ := hg i row hi
      obtain ⟨a, h3, h4⟩ := h2.get.2 j av hj
      exact hc i r0 j a h1 h3
    · obtain ⟨r0, h1, h2⟩ := hg i row hi
      obtain ⟨a, h3, h4⟩ := h2.get.2 j av hj
      have h5 := ho i r0 j a h1 h3
      cases h4 with
      | refl => exact h5
      | nil t2 sz2 =>
        generalize uu i j = z at h5
        cases h5 with
        | frz _ _ _ h => cases h; exact .osl0 _ _ _

theorem le_nils {σ : St} {k : Nat} {v : Value} {t sz : Nat} {rows rows' : List (List AV)} (hk : getk k σ.heap = some (v, .osl t sz rows)) (hr : RowsTo rows rows') : Le σ ⟨σ.nt, σ.slots, (k, (v, .osl t sz rows')) :: minus σ.heap [k]⟩ := by
  intro c F N a w hr'
  have m1 := get_mem_keys hk
  have hF : ∀ z, z ∈ keys ((k, (v, AV.osl t sz rows')) :: minus σ.heap [k]) → z ∈ keys σ.heap := fun z hz => by
    simp only [keys, List.map_cons, List.mem_cons] at hz
    rcases hz with rfl | hz
    · exact m1
    · exact (mem_minus hz).2
  refine ⟨F, N, hr'.reheap _ _ (fun y v' o' hy => ?_) (fun y hy b hb => ⟨y, hF y hy, hb⟩) (fun y z hy hz hne b hb => hr'.heap.disj y z (hF y hy) (hF z hz) hne b hb)⟩
  simp only [getk] at hy
  by_cases e : y = k
  · subst e
    rw [if_pos rfl] at hy; cases hy
    exact ⟨(hr'.heap.own _ _ _ hk).nils hr, hr'.heap.one _ _ _ hk⟩
  · rw [if_neg (fun h => e h.symm)] at hy
    obtain ⟨_, h2⟩ := get_minus hy
    exact ⟨hr'.heap.own _ _ _ h2, hr'.heap.one _ _ _ h2⟩

section
variable {P : Program} {T : Tab} {c : Cx} {o : Oper} {σ : St} {K : St → Prop}

theorem OpOk.le (h : OpOk P c o σ fun σ' => ∃ σ1, Le σ' σ1 ∧ K σ1) : OpOk P c o σ K := fun F N a w hr next Q hn =>
  h F N a w hr next Q fun σ' F' N' a' w' ⟨σ1, h1, h2⟩ hr' => let ⟨F1, N1, hr1⟩ := h1 c F' N' a' w' hr'; hn σ1 F1 N1 a' w' h2 hr1

def nodupB : List Nat → Bool
  | [] => true
  | x :: l => !l.contains x && nodupB l
theorem nodupB_ok : ∀ {l : List Nat}, nodupB l = true → l.Nodup
  | [], _ => List.nodup_nil
  | x :: l, h => by
    simp only [nodupB, Bool.and_eq_true, Bool.not_eq_true', List.contains_eq_mem, decide_eq_false_iff_not] at h
    exact List.nodup_cons.2 ⟨h.1, nodupB_ok h.2⟩
def clearB (hN H : HP) : Bool := (keys hN).all fun x => !(keys H).contains x
theorem clearB_ok {hN H : HP} (h : clearB hN H = true) : ∀ x ∈ keys hN, has x H = false := fun x hx => by
  have := List.all_eq_true.1 h x hx
  simpa [has] using this

/-- A call that hands back what it made. -/
theorem o_callD {f : FuncId} {avs avs1 : List AV} {hs : HP} {R : AV → HP → Prop} (ys : List Nat) (Z : List (Value × AV)) (ms : List Nat) (hcore : Core P c σ o f avs) (hS : Does P f avs1 hs R) (hz : wfrz σ.heap ys Z) (hargs : WkL Z avs1 avs) (hsrc : wsrc σ.heap ms hs) (hnd : nodupB ms = true) (hym : (ys.all fun y => !ms.contains y) = true) (hd : dok o.dst σ.nt = true)
    (hK : ∀ r h', R r h' → ∃ r' hN, Wk [] r' r ∧ hN.map (·.2) = h'.map (·.2) ∧ nodupB (keys hN) = true ∧ nodupB (keys h') = true ∧ clearB hN (minus σ.heap ms) = true ∧ (ys = [] ∨ (Scal r ∧ ∀ p ∈ h', Cln p.2.2)) ∧ K ({ σ with heap := hN ++ minus σ.heap ms }.put o.dst r')) : OpOk P c o σ K := by
  refine o_call ys Z ms hcore hS hz hargs hsrc (nodupB_ok hnd) (fun y hy => by have := List.all_eq_true.1 hym y hy; simpa using this) fun r h' hR => ?_
  obtain ⟨r', hN, h1, h2, h3, h4, h5, h6, h7⟩ := hK r h' hR
  exact ⟨r', hN, h1, h2, nodupB_ok h3, nodupB_ok h4, clearB_ok h5, h6, hd, h7⟩
end

theorem cln_rows {α : Type} {f : α → List AV} {t sz : Nat} {l : List α} (h : ∀ x, ∀ av ∈ f x, Cln av) : Cln (.osl t sz (l.map f)) :=
  .osl _ _ _ fun row hr => by obtain ⟨x, _, rfl⟩ := List.mem_map.1 hr; exact h x

theorem rows_set_get {rows : List (List AV)} {i : Nat} {r : List AV} (h : i < rows.length) : (rows.set i r)[i]? = some r := by simp [h]
theorem rows_set_set {rows : List (List AV)} {i : Nat} {a b : List AV} : (rows.set i a).set i b = rows.set i b := List.set_set ..
theorem rows_set_done {α : Type} {l : List α} {f : α → List AV} {z : α} {i : Nat} {a b : List AV} (h : f z = b) : ((l.map f).set i a).set i b = (l.set i z).map f := by rw [List.set_set, List.map_set, h]

/-- What is handed back may be given away to be read. -/
theorem does_frz {P : Program} {f : FuncId} {avs : List AV} {R : AV → HP → Prop} {r0 : AV} (h : Does P f avs [] R) (hR : ∀ r h', R r h' → ∃ ys Z, wfrz h' ys Z ∧ Wk Z r0 r) : Does P f avs [] (ret r0) := by
  refine ⟨h.1, fun F N w vs h1 h2 => (h.2 F N w vs h1 h2).mono ?_⟩
  rintro e w' ⟨v, r, h', F', N', rfl, hr, hv, hh', hmay, hN1, hN2, hU⟩
  obtain ⟨ys, Z, hz, hk⟩ := hR r h' hr
  have hZ : ∀ v av, (v, av) ∈ Z → RelV (fun k => N' k ∧ ¬ ∃ y, y ∈ ys ∧ y ∈ keys h' ∧ F' y k) w' av v := by
    intro v av hm
    obtain ⟨y, o, h3, h4, h5⟩ := wfrz_mem hz v av hm
    exact (hh'.own y v o h4).freeze h5 (fun k hk => ⟨hk.1, fun hF => hk.2 ⟨y, h3, get_mem_keys h4, hF⟩⟩)
  refine ⟨v, r0, [], F', fun k => N' k ∧ ¬ ∃ y, y ∈ ys ∧ y ∈ keys h' ∧ F' y k, rfl, ⟨rfl, rfl⟩, hk.rel hZ (hv.mono (.refl _ _) (fun _ _ h => h.1)), ⟨(fun x v o h => by cases h), (fun x h => by cases h), (fun x y h => by cases h), (fun x v o h => by cases h)⟩, (fun x h => by cases h), fun k hk h => hN1 k hk h.1, fun k hk hn => ?_, hU⟩
  rcases hN2 k hk hn with h3 | ⟨y, hy, _⟩
  · refine .inl ⟨h3, ?_⟩
    rintro ⟨y, _, h4, h5⟩
    rcases hmay y h4 k h5 with ⟨z, hz, _⟩ | h6
    · simp [keys] at hz
    · omega
  · simp [keys] at hy
theorem len_setI {α : Type} {l : List α} {n : Int} {i : Nat} {z : α} (h : 0 ≤ n ∧ n < l.length) : 0 ≤ n ∧ n < (l.set i z).length := by rw [List.length_set]; exact h
theorem ix_setI {α : Type} [Inhabited α] {l : List α} {n : Int} {z : α} (h : 0 ≤ n ∧ n < l.length) : ix (l.set n.toNat z) n = z := by
  unfold ix
  have : n.toNat < l.length := by omega
  simp [List.getD, this]
theorem rows_set_done2 {α : Type} {l : List α} {f : α → List AV} {z z0 : α} {i : Nat} {a b : List AV} (h : f z = b) : (((l.set i z0).map f).set i a).set i b = (l.set i z).map f := by rw [List.set_set, List.map_set, List.set_set, List.map_set, h]
theorem o_storeRU {P : Program} {T : Tab} {c : Cx} {σ : St} {K : St → Prop} {d : Option Tmp} {ty : TypeId} {pos : String} {af : Array Edge} {g : Option (Nat × Bool)} {α : Type} [Inhabited α] {l : List α} {f : α → List AV}
    (hT : TabOk P T) {t n q sz off : Nat} {i : Int} {u : TypeId} {pv : Value} {x y : Operand} {v : AV} {row vs row' : List AV} {z z0 : α} (hx : evA σ x = some (.rptr q pv sz i.toNat off)) (hh : getk q σ.heap = some (pv, .osl u sz ((l.set i.toNat z0).map f))) (hs : T.size t = some n) (hy : evA σ y = some v)
    (hb : 0 ≤ i ∧ i < (l.set i.toNat z0).length) (hrow : f (ix (l.set i.toNat z0) i) = row) (hvs : cellsA v = vs) (hl : vs.length = n) (hin : off + n ≤ sz) (hc : cellsOk vs = true) (hcs : splice row off vs = row') (hz : f z = row') (hd : dok d σ.nt = true)
    (hK : K ({ σ with heap := (q, (pv, .osl u sz ((l.set i.toNat z).map f))) :: minus σ.heap [q] }.put d .und)) : OpOk P c ⟨d, .store t x y, ty, pos, af, g⟩ σ K :=
  o_storeRM (z := z) hT hx hh hs hy hb hrow hvs hl hin hc hcs hz hd (by rw [List.set_set]; exact hK)

/-- The same, where what else is owned is not known by name. -/
theorem o_callDa {P : Program} {c : Cx} {o : Oper} {σ : St} {K : St → Prop} {f : FuncId} {avs avs1 : List AV} {hs : HP} {R : AV → HP → Prop} (ys : List Nat) (Z : List (Value × AV)) (ms : List Nat) (hcore : Core P c σ o f avs) (hS : Does P f avs1 hs R) (hz : wfrz σ.heap ys Z) (hargs : WkL Z avs1 avs) (hsrc : wsrc σ.heap ms hs) (hnd : nodupB ms = true) (hym : (ys.all fun y => !ms.contains y) = true) (hd : dok o.dst σ.nt = true)
    (hK : ∀ r h', R r h' → ∃ r' hN, Wk [] r' r ∧ hN.map (·.2) = h'.map (·.2) ∧ nodupB (keys hN) = true ∧ nodupB (keys h') = true ∧ (∀ x ∈ keys hN, has x (minus σ.heap ms) = false) ∧ (ys = [] ∨ (Scal r ∧ ∀ p ∈ h', Cln p.2.2)) ∧ K ({ σ with heap := hN ++ minus σ.heap ms }.put o.dst r')) : OpOk P c o σ K := by
  refine o_call ys Z ms hcore hS hz hargs hsrc (nodupB_ok hnd) (fun y hy => by have := List.all_eq_true.1 hym y hy; simpa using this) fun r h' hR => ?_
  obtain ⟨r', hN, h1, h2, h3, h4, h5, h6, h7⟩ := hK r h' hR
  exact ⟨r', hN, h1, h2, nodupB_ok h3, nodupB_ok h4, h5, h6, hd, h7⟩

def updH (ν : Nat → Value) (hN : HP) : Nat → Value := fun j => match getk j hN with | some y => y.1 | none => ν j
theorem getk_none {α : Type} {k : Nat} : ∀ {l : List (Nat × α)}, k ∉ keys l → getk k l = none
  | [], _ => rfl
  | (i, y) :: l, h => by
    simp only [keys, List.map_cons, List.mem_cons, not_or] at h
    simp only [getk]
    rw [if_neg (fun e => h.1 e.symm)]
    exact getk_none h.2
/-- Several things are made at once. -/
theorem lp_mm {o : Oper} {x : LO} {av : (Nat → Value) → List AV} {hv : (Nat → Value) → HP} {i nt : Nat} {ν : Nat → Value} {S S' : List (Nat × AV)} {H : HP} {v : AV} {rs : List Nat} {hN : HP} (hS : ∀ t a, getk t S = some a → ∃ b, getk t S' = some b ∧ Wk [] a b) (ha : x.add = keys hN) (hr : x.rem = rs) (hv' : o.dst ≠ none → (av (updH ν hN))[i]? = some v) (hh : wsubH (hv (updH ν hN)) hN) :
    LPost av hv i o x nt ν S H (St.put ⟨nt, S', hN ++ minus H rs⟩ o.dst v) := by
  subst hr
  refine ⟨updH ν hN, v, hN, fun j hj => by unfold updH; rw [getk_none (by rw [← ha]; exact hj)], hv', ha.symm, fun k y h => wsubH_get hh k y h, ?_⟩
  refine le_sem [] [] id (by rw [St.put_nt, St.put_nt]) trivial (put_slots [] (.refl _) hS) (fun k u o1 h => ⟨o1, ?_, .refl _⟩) (fun x y _ _ h => h) (fun y h => by cases h)
  rw [St.put_heap] at h ⊢
  exact h

theorem cons_eq {a b : List AV} {l m : List (List AV)} (h : b = a) (t : l = m) : a :: l = b :: m := by rw [h, t]
theorem getk_cons_ne {α : Type} {k j : Nat} {x : α} {M : List (Nat × α)} (h : j ≠ k) : getk j ((k, x) :: M) = getk j M := by
  simp only [getk]; rw [if_neg (fun e => h e.symm)]
theorem le_absorb1 {nt : Nat} {S : List (Nat × AV)} {M : HP} {k k2 : Nat} {v u : Value} {t sz : Nat} {rows rows' : List (List AV)} {row : List AV} {o2 : AV} (i j x : Nat) (hk2 : getk k2 M = some (u, o2)) (hne : k ≠ k2)
    (hrow : rows[i]? = some row) (hj : row[j]? = some (.hd x u)) (he : rows.set i (row.set j o2) = rows') : Le ⟨nt, S, (k, (v, .osl t sz rows)) :: M⟩ ⟨nt, S, (k, (v, .osl t sz rows')) :: minus M [k2]⟩ := by
  have hk : getk k ((k, (v, AV.osl t sz rows)) :: M) = some (v, .osl t sz rows) := by simp [getk]
  refine (le_absorb (σ := ⟨nt, S, (k, (v, .osl t sz rows)) :: M⟩) (k := k) (k2 := k2) i j x hk (by rw [getk_cons_ne hne.symm]; exact hk2) hne hrow hj he).trans ?_
  refine le_get rfl (fun _ _ h => h) fun j y hy => ?_
  by_cases e : j = k
  · subst e; simpa [getk] using hy
  · rw [getk_cons_ne e] at hy ⊢
    obtain ⟨h1, h2⟩ := get_minus hy
    exact getk_minus (by simp at h1 ⊢; exact ⟨e, h1⟩) (by rw [getk_cons_ne e]; exact h2)
theorem le_nils1 {nt : Nat} {S : List (Nat × AV)} {M : HP} {k : Nat} {v : Value} {t sz : Nat} {rows rows1 rows' : List (List AV)} (hr : RowsTo rows rows1) (he : rows1 = rows') : Le ⟨nt, S, (k, (v, .osl t sz rows)) :: M⟩ ⟨nt, S, (k, (v, .osl t sz rows')) :: M⟩ := by
  subst he
  have hk : getk k ((k, (v, AV.osl t sz rows)) :: M) = some (v, .osl t sz rows) := by simp [getk]
  refine (le_nils (σ := ⟨nt, S, (k, (v, .osl t sz rows)) :: M⟩) (k := k) hk hr).trans ?_
  refine le_get rfl (fun _ _ h => h) fun j y hy => ?_
  by_cases e : j = k
  · subst e; simpa [getk] using hy
  · rw [getk_cons_ne e] at hy ⊢
    exact getk_minus (by simpa using e) (by rw [getk_cons_ne e]; exact hy)
theorem le_nilsR {nt : Nat} {S : List (Nat × AV)} {M : HP} {k : Nat} {v : Value} {t sz : Nat} {rows rows' : List (List AV)} (hr : RowsTo rows rows') : Le ⟨nt, S, (k, (v, .osl t sz rows)) :: M⟩ ⟨nt, S, (k, (v, .osl t sz rows')) :: M⟩ := le_nils1 hr rfl
theorem le_mm {nt : Nat} {S : List (Nat × AV)} {p : Nat × (Value × AV)} {M : HP} {a b rs : List Nat} (h : a ++ b = rs) : Le ⟨nt, S, p :: minus (minus M a) b⟩ ⟨nt, S, p :: minus M rs⟩ := by
  subst h
  refine le_get rfl (fun _ _ h => h) fun j y hy => ?_
  by_cases e : j = p.1
  · obtain ⟨k, x⟩ := p
    subst e; simpa [getk] using hy
  · obtain ⟨k, x⟩ := p
    rw [getk_cons_ne e] at hy ⊢
    obtain ⟨h1, h2⟩ := get_minus hy
    simp at h1
    exact getk_minus h1.2 (getk_minus h1.1 h2)
theorem le_mm0 {nt : Nat} {S : List (Nat × AV)} {p : Nat × (Value × AV)} {M : HP} {a rs : List Nat} (h : (a.all fun x => rs.contains x) = true) : Le ⟨nt, S, p :: minus M a⟩ ⟨nt, S, p :: minus M rs⟩ := by
  refine le_get rfl (fun _ _ h => h) fun j y hy => ?_
  by_cases e : j = p.1
  · obtain ⟨k, x⟩ := p
    subst e; simpa [getk] using hy
  · obtain ⟨k, x⟩ := p
    rw [getk_cons_ne e] at hy ⊢
    obtain ⟨h1, h2⟩ := get_minus hy
    refine getk_minus (fun hm => h1 ?_) h2
    have := List.all_eq_true.1 h j hm
    simpa using this
end Go.Bb
