/- A region that draws its order, in whatever order: what its operations need and leave is told for each of them alone; the conditions stand in each theorem. -/
import Derived.Test.YtiaigcdckmpepaaB11
import Derived.Orders
/-! Regions that draw their order. -/
set_option linter.unusedVariables false
set_option linter.unusedSimpArgs false
namespace Go.Bb

/-- Of an operation: those that come before it; the slots and the names of what is owned that it needs; which of these it uses up; which it makes; which names its value mentions. -/
structure LO where
  bef : List Nat
  ts : List Nat
  ks : List Nat
  rem : List Nat
  add : List Nat
  dep : List Nat

def dsl (D : Nat → Bool) : Nat → List (Option Tmp) → List AV → List (Nat × AV)
  | i, some d :: ds, v :: vs => if D i = true then (d, v) :: dsl D (i + 1) ds vs else dsl D (i + 1) ds vs
  | i, none :: ds, _ :: vs => dsl D (i + 1) ds vs
  | _, _, _ => []

theorem dsl_get {D : Nat → Bool} : ∀ {i : Nat} {ds : List (Option Tmp)} {vs : List AV} {t : Nat} {v : AV}, getk t (dsl D i ds vs) = some v → ∃ j, D (i + j) = true ∧ ds[j]? = some (some t) ∧ vs[j]? = some v
  | i, some d :: ds, u :: vs, t, v, h => by
    simp only [dsl] at h
    split at h
    · rename_i hD
      simp only [getk] at h
      split at h
      · rename_i e; subst e; cases h; exact ⟨0, hD, rfl, rfl⟩
      · obtain ⟨j, h1, h2, h3⟩ := dsl_get h
        exact ⟨j + 1, by rw [show i + (j + 1) = i + 1 + j by omega]; exact h1, by simpa using h2, by simpa using h3⟩
    · obtain ⟨j, h1, h2, h3⟩ := dsl_get h
      exact ⟨j + 1, by rw [show i + (j + 1) = i + 1 + j by omega]; exact h1, by simpa using h2, by simpa using h3⟩
  | i, none :: ds, u :: vs, t, v, h => by
    simp only [dsl] at h
    obtain ⟨j, h1, h2, h3⟩ := dsl_get h
    exact ⟨j + 1, by rw [show i + (j + 1) = i + 1 + j by omega]; exact h1, by simpa using h2, by simpa using h3⟩
  | _, [], _, _, _, h => by simp [dsl, getk] at h
  | _, some _ :: _, [], _, _, h => by simp [dsl, getk] at h
  | _, none :: _, [], _, _, h => by simp [dsl, getk] at h

theorem dsl_of {D : Nat → Bool} : ∀ {i : Nat} {ds : List (Option Tmp)} {vs : List AV} {t j : Nat} {v : AV}, D (i + j) = true → ds[j]? = some (some t) → vs[j]? = some v → (∀ j', ds[j']? = some (some t) → j' = j) → getk t (dsl D i ds vs) = some v
  | i, d :: ds, u :: vs, t, 0, v, hD, h1, h2, _ => by
    simp at h1 h2; subst h1; subst h2
    simp only [dsl, Nat.add_zero] at hD ⊢
    rw [if_pos hD]; simp [getk]
  | i, d :: ds, u :: vs, t, j + 1, v, hD, h1, h2, hu => by
    have ih := dsl_of (D := D) (i := i + 1) (ds := ds) (vs := vs) (t := t) (j := j) (v := v) (by rw [show i + 1 + j = i + (j + 1) by omega]; exact hD) (by simpa using h1) (by simpa using h2) (fun j' hj' => by have := hu (j' + 1) (by simpa using hj'); omega)
    cases d with
    | none => simpa only [dsl] using ih
    | some d =>
      simp only [dsl]
      split
      · simp only [getk]
        rw [if_neg]
        · exact ih
        · rintro rfl
          have := hu 0 (by simp)
          omega
      · exact ih
  | _, [], _, _, _, _, _, h, _, _ => by simp at h
  | _, _ :: _, [], _, _, _, _, _, h, _ => by simp at h

theorem dsl_congr {D D' : Nat → Bool} : ∀ {i : Nat} {ds : List (Option Tmp)} {vs : List AV}, (∀ j, j < ds.length → D (i + j) = D' (i + j)) → dsl D i ds vs = dsl D' i ds vs
  | i, some d :: ds, u :: vs, h => by
    simp only [dsl]
    rw [show D i = D' i by simpa using h 0 (by simp), dsl_congr (i := i + 1) (ds := ds) (vs := vs) (D := D) (D' := D') (fun j hj => by have := h (j + 1) (by simp; omega); rw [show i + 1 + j = i + (j + 1) by omega]; exact this)]
  | i, none :: ds, u :: vs, h => by
    simp only [dsl]
    exact dsl_congr (fun j hj => by have := h (j + 1) (by simp; omega); rw [show i + 1 + j = i + (j + 1) by omega]; exact this)
  | _, [], _, _ => by simp [dsl]
  | _, some _ :: _, [], _ => by simp [dsl]
  | _, none :: _, [], _ => by simp [dsl]

def lv (los : List LO) (D : Nat → Bool) (k : Nat) : Bool := los.zipIdx.all fun p => (!p.1.add.contains k || D p.2) && (!p.1.rem.contains k || !D p.2)

theorem mem_zip {α : Type} {l : List α} {p : α × Nat} : p ∈ l.zipIdx ↔ l[p.2]? = some p.1 := by
  obtain ⟨x, i⟩ := p
  simp [List.mem_zipIdx_iff_getElem?]

theorem lv_iff {los : List LO} {D : Nat → Bool} {k : Nat} : lv los D k = true ↔ ∀ i x, los[i]? = some x → (k ∈ x.add → D i = true) ∧ (k ∈ x.rem → D i = false) := by
  unfold lv
  rw [List.all_eq_true]
  constructor
  · intro h i x hx
    have := h (x, i) (mem_zip.2 hx)
    simp only [Bool.and_eq_true, Bool.or_eq_true, Bool.not_eq_true', List.contains_eq_mem, decide_eq_false_iff_not] at this
    exact ⟨fun hk => this.1.resolve_left (fun h => h hk), fun hk => this.2.resolve_left (fun h => h hk)⟩
  · rintro h ⟨x, i⟩ hx
    obtain ⟨h1, h2⟩ := h i x (mem_zip.1 hx)
    simp only [Bool.and_eq_true, Bool.or_eq_true, Bool.not_eq_true', List.contains_eq_mem, decide_eq_false_iff_not]
    exact ⟨Decidable.or_iff_not_imp_left.2 fun h => h1 (Decidable.not_not.1 h), Decidable.or_iff_not_imp_left.2 fun h => h2 (Decidable.not_not.1 h)⟩

theorem getk_filter {α : Type} {f : Nat → Bool} {k : Nat} : ∀ {l : List (Nat × α)}, getk k (l.filter fun p => f p.1) = if f k = true then getk k l else none
  | [] => by simp [getk]
  | (i, x) :: l => by
    simp only [List.filter_cons]
    by_cases hi : f i = true
    · rw [if_pos hi]
      simp only [getk]
      by_cases e : i = k
      · subst e; simp [hi]
      · rw [if_neg e, if_neg e]; exact getk_filter
    · rw [if_neg hi]
      simp only [getk]
      by_cases e : i = k
      · subst e
        rw [getk_filter, if_neg hi, if_neg hi]
      · rw [if_neg e]; exact getk_filter

theorem getk_minus {α : Type} {l : List (Nat × α)} {ks : List Nat} {k : Nat} {x : α} (h : k ∉ ks) (hx : getk k l = some x) : getk k (minus l ks) = some x := by
  have := getk_filter (f := fun i => !ks.contains i) (k := k) (l := l)
  unfold minus
  rw [this, if_pos (by simpa using h), hx]

theorem getk_right {α : Type} {l m : List (Nat × α)} {k : Nat} (h : k ∉ keys l) : getk k (l ++ m) = getk k m := by
  induction l with
  | nil => rfl
  | cons p l ih =>
    obtain ⟨i, x⟩ := p
    simp only [keys, List.map_cons, List.mem_cons, not_or] at h
    simp only [List.cons_append, getk]
    rw [if_neg (fun e => h.1 e.symm)]
    exact ih h.2
theorem getk_left {α : Type} {l m : List (Nat × α)} {k : Nat} {x : α} (h : getk k l = some x) : getk k (l ++ m) = some x := by
  induction l with
  | nil => cases h
  | cons p l ih =>
    obtain ⟨i, y⟩ := p
    simp only [List.cons_append, getk] at h ⊢
    split at h
    · rename_i e; rw [if_pos e]; exact h
    · rename_i e; rw [if_neg e]; exact ih h

/-- What has fewer slots, and less of what is owned. -/
theorem le_get {σ σ1 : St} (hnt : σ.nt = σ1.nt) (hs : ∀ k av, getk k σ1.slots = some av → getk k σ.slots = some av) (hh : ∀ k x, getk k σ1.heap = some x → getk k σ.heap = some x) : Le σ σ1 := by
  intro c F N a w hr
  have hk : ∀ x, x ∈ keys σ1.heap → x ∈ keys σ.heap := fun x hx => let ⟨y, hy⟩ := mem_keys_get hx; get_mem_keys (hh x y hy)
  exact ⟨F, N, hr.defers, hr.size.trans hnt, fun k av h => hr.slots k av (hs k av h), ⟨fun x v o h => hr.heap.own x v o (hh x _ h), fun x hx => hr.heap.foot x (hk x hx), fun x y hx hy => hr.heap.disj x y (hk x hx) (hk y hy), fun x v o h => hr.heap.one x v o (hh x _ h)⟩, fun x hx => hr.may x (hk x hx), hr.n0, hr.unch⟩

/-- An operation, or its absence. -/
def StepOk (P : Program) (c : Cx) (all : List Oper) (o : Oper) (σ : St) (K : St → Prop) : Prop :=
  ∀ F N a w, Rel c F N σ a w → ∀ (next : Act → World → Prop) (Q : Exit → Act → World → Prop), (∀ σ' F' N' a' w', K σ' → Rel c F' N' σ' a' w' → next a' w') →
    if Region.wanted o (yielded all.toArray a.tmps) = true then o.wp P a w next Q else next (a.put o.dst undef) w

section
variable {P : Program} {T : Tab} {c : Cx} {o : Oper} {σ : St} {K : St → Prop} {all : List Oper}
theorem st_op (hg : o.guard = none) (h : OpOk P c o σ K) : StepOk P c all o σ K := fun F N a w hr next Q hn => by rw [if_pos (wanted_none hg _)]; exact h F N a w hr next Q hn
theorem st_yes {j : Nat} {want t : Bool} (hg : o.guard = some (j, want)) (hs : guardA all σ j = some (.bool t)) (ht : t = want) (h : OpOk P c o σ K) : StepOk P c all o σ K := fun F N a w hr next Q hn => by
  rw [if_pos (by unfold Region.wanted; rw [hg]; simp [guard_rel hr hs, ht])]; exact h F N a w hr next Q hn
theorem st_no {j : Nat} {want t : Bool} (hg : o.guard = some (j, want)) (hs : guardA all σ j = some (.bool t)) (ht : t = !want) (hd : dok o.dst σ.nt = true) (h : K (σ.put o.dst .und)) : StepOk P c all o σ K := fun F N a w hr next Q hn => by
  rw [if_neg (by unfold Region.wanted; rw [hg]; simp [guard_rel hr hs, ht])]; exact hn _ F N _ w h (hr.put (dok_ok hd) .und)
theorem st_und {j : Nat} {want : Bool} (hg : o.guard = some (j, want)) (hs : guardA all σ j = some .und) (hd : dok o.dst σ.nt = true) (h : K (σ.put o.dst .und)) : StepOk P c all o σ K := fun F N a w hr next Q hn => by
  rw [if_neg (by unfold Region.wanted; rw [hg]; simp [guard_und hr hs])]; exact hn _ F N _ w h (hr.put (dok_ok hd) .und)
end

def befB (l : List Oper) (los : List LO) : Bool := los.zipIdx.all fun p => match l[p.2]? with
  | some o => p.1.bef.all fun q => o.after.any fun e => Region.binds .any e && (e.on == q || ((los[e.on]?).map (·.bef.contains q)).getD false)
  | none => false
def lowB (l : List Oper) : Bool := l.zipIdx.all fun p => p.1.after.all fun e => !Region.binds .any e || decide (e.on < p.2)
def tsB (los : List LO) (ds : List (Option Tmp)) : Bool := los.zipIdx.all fun p => p.1.ts.all fun t => (p.1.bef.any fun q => ds[q]? == some (some t)) || ds.zipIdx.all fun d => d.1 != some t || (((los[d.2]?).map (·.bef.contains p.2)).getD false && !p.1.bef.contains d.2)
def dstB (ds : List (Option Tmp)) : Bool := ds.zipIdx.all fun p => ds.zipIdx.all fun q => p.2 == q.2 || p.1.isNone || p.1 != q.1
def ksB (los : List LO) : Bool := los.zipIdx.all fun p => p.1.ks.all fun k => los.zipIdx.all fun q => (!q.1.add.contains k || p.1.bef.contains q.2) && (!q.1.rem.contains k || q.2 == p.2 || q.1.bef.contains p.2)
def depB (los : List LO) : Bool := los.zipIdx.all fun p => p.1.dep.all fun k => los.zipIdx.all fun q => !q.1.add.contains k || q.2 == p.2 || p.1.bef.contains q.2
def hdepB (los : List LO) (hd : List (Nat × List Nat)) : Bool := hd.all fun p => p.2.all fun k' => los.zipIdx.all fun q => !q.1.add.contains k' || los.zipIdx.any fun x => x.1.add.contains p.1 && (q.2 == x.2 || x.1.bef.contains q.2)
def chkB (l : List Oper) (los : List LO) (ds : List (Option Tmp)) (hd : List (Nat × List Nat)) : Bool :=
  (l.map (·.dst) == ds) && (los.length == l.length) && befB l los && lowB l && tsB los ds && dstB ds && ksB los && depB los && hdepB los hd
def upd (ν : Nat → Value) (k : Nat) (v : Value) : Nat → Value := fun j => if j = k then v else ν j
def bse : Value → Nat
  | .pointer (some p) => p.block
  | _ => 0

section
variable {P : Program} {T : Tab} {c : Cx} (l : List Oper) (los : List LO) (ds : List (Option Tmp)) (nt : Nat) (s0 : List (Nat × AV)) (av : (Nat → Value) → List AV) (hv : (Nat → Value) → HP)

def Sig (D : Nat → Bool) (ν : Nat → Value) : St := ⟨nt, dsl D 0 ds (av ν) ++ s0, (hv ν).filter fun p => lv los D p.1⟩

/-- What an operation does, told by what it needs. -/
def Local (P : Program) (c : Cx) (i : Nat) (o : Oper) (x : LO) : Prop :=
  ∀ (σ : St) (ν : Nat → Value), σ.nt = nt → (∀ t ∈ x.ts, getk t σ.slots = getk t (dsl (fun j => x.bef.contains j) 0 ds (av ν) ++ s0)) → (∀ k ∈ x.ks, getk k σ.heap = getk k (hv ν)) → (∀ k ∈ x.add, has k σ.heap = false) →
    StepOk P c l o σ fun σ' => ∃ ν' v h', (∀ k, k ∉ x.add → ν' k = ν k) ∧ (o.dst ≠ none → (av ν')[i]? = some v) ∧ keys h' = x.add ∧ (∀ k y, getk k h' = some y → getk k (hv ν') = some y) ∧ Le σ' (St.put ⟨σ.nt, σ.slots, h' ++ minus σ.heap x.rem⟩ o.dst v)

def LocalAll (P : Program) (c : Cx) : Nat → List Oper → List LO → Prop
  | i, o :: os, x :: xs => Local l ds nt s0 av hv P c i o x ∧ LocalAll P c (i + 1) os xs
  | _, _, _ => True
def DepAll : Nat → List LO → Prop
  | i, x :: xs => (∀ ν ν' : Nat → Value, (∀ k ∈ x.dep, ν k = ν' k) → (av ν)[i]? = (av ν')[i]?) ∧ DepAll (i + 1) xs
  | _, [] => True
def HdepAll : List (Nat × List Nat) → Prop
  | p :: r => (∀ ν ν' : Nat → Value, (∀ k ∈ p.2, ν k = ν' k) → getk p.1 (hv ν) = getk p.1 (hv ν')) ∧ HdepAll r
  | [] => True

variable {l los ds nt s0 av hv}
theorem localAll_get : ∀ {i : Nat} {os : List Oper} {xs : List LO}, LocalAll l ds nt s0 av hv P c i os xs → ∀ j o x, os[j]? = some o → xs[j]? = some x → Local l ds nt s0 av hv P c (i + j) o x
  | i, o :: os, x :: xs, h, 0, o', x', h1, h2 => by simp at h1 h2; subst h1; subst h2; exact h.1
  | i, o :: os, x :: xs, h, j + 1, o', x', h1, h2 => by
    have := localAll_get h.2 j o' x' (by simpa using h1) (by simpa using h2)
    rwa [show i + 1 + j = i + (j + 1) by omega] at this
  | _, [], _, _, _, _, _, h, _ => by simp at h
  | _, _ :: _, [], _, _, _, _, _, h => by simp at h
theorem depAll_get : ∀ {i : Nat} {xs : List LO}, DepAll av i xs → ∀ j x, xs[j]? = some x → ∀ ν ν' : Nat → Value, (∀ k ∈ x.dep, ν k = ν' k) → (av ν)[i + j]? = (av ν')[i + j]?
  | i, x :: xs, h, 0, x', h2 => by simp at h2; subst h2; exact h.1
  | i, x :: xs, h, j + 1, x', h2 => by
    have := depAll_get h.2 j x' (by simpa using h2)
    rwa [show i + 1 + j = i + (j + 1) by omega] at this
  | _, [], _, _, _, h => by simp at h
theorem hdepAll_get : ∀ {hd : List (Nat × List Nat)}, HdepAll hv hd → ∀ p ∈ hd, ∀ ν ν' : Nat → Value, (∀ k ∈ p.2, ν k = ν' k) → getk p.1 (hv ν) = getk p.1 (hv ν')
  | q :: r, h, p, hp => by
    rcases List.mem_cons.1 hp with rfl | hp
    · exact h.1
    · exact hdepAll_get h.2 p hp
  | [], _, p, hp => by cases hp

theorem filter_ne_lt {i : Nat} : ∀ {L : List Nat}, i ∈ L → (L.filter fun j => j != i).length < L.length
  | b :: L, hm => by
    simp only [List.filter_cons]
    by_cases hb : b = i
    · subst hb
      simp
      exact Nat.lt_succ_of_le (List.length_filter_le _ _)
    · have : (b != i) = true := by simpa using hb
      rw [if_pos this]
      simp only [List.length_cons]
      exact Nat.succ_lt_succ (filter_ne_lt ((List.mem_cons.1 hm).resolve_left (fun h => hb h.symm)))
  | [], hm => by cases hm

/-- Closed: with each operation all before it. -/
def Cls (l : List Oper) (D : Nat → Bool) : Prop := ∀ i o, l[i]? = some o → D i = true → ∀ e ∈ o.after, Region.binds .any e = true → D e.on = true

theorem cls_bef {D : Nat → Bool} (hb : befB l los = true) (hl : lowB l = true) (hc : Cls l D) : ∀ (i : Nat) x, los[i]? = some x → D i = true → ∀ q ∈ x.bef, D q = true := by
  intro i
  induction i using Nat.strongRecOn with
  | _ i ih =>
    intro x hx hD q hq
    unfold befB at hb
    have h1 := List.all_eq_true.1 hb (x, i) (mem_zip.2 hx)
    simp only at h1
    split at h1
    · rename_i o ho
      have h2 := List.all_eq_true.1 h1 q hq
      obtain ⟨e, he, h3⟩ := Array.any_eq_true'.1 h2
      simp only [Bool.and_eq_true, Bool.or_eq_true, beq_iff_eq] at h3
      have hDe := hc i o ho hD e he h3.1
      rcases h3.2 with h4 | h4
      · rw [← h4]; exact hDe
      · cases hle : los[e.on]? with
        | none => rw [hle] at h4; simp at h4
        | some y =>
          rw [hle] at h4
          have hlow := List.all_eq_true.1 hl (o, i) (mem_zip.2 ho)
          have hlow2 := Array.all_eq_true'.1 hlow e he
          simp only [h3.1, Bool.not_true, Bool.false_or, decide_eq_true_eq] at hlow2
          exact ih e.on hlow2 y hle hDe q (by simpa using h4)
    · cases h1

theorem any_step {hd : List (Nat × List Nat)} (hchk : chkB l los ds hd = true) (hloc : LocalAll l ds nt s0 av hv P c 0 l los) (hdep : DepAll av 0 los) (hhd : HdepAll hv hd) (hkeys : ∀ ν k, k ∈ keys (hv ν) → k ∈ keys hd)
    {D : Nat → Bool} {ν : Nat → Value} {i : Nat} {o : Oper} (hc : Cls l D) (ho : l[i]? = some o) (hDi : D i = false) (hpre : ∀ e ∈ o.after, Region.binds .any e = true → D e.on = true) :
    StepOk P c l o (Sig los ds nt s0 av hv D ν) fun σ' => ∃ ν', Le σ' (Sig los ds nt s0 av hv (fun j => D j || j == i) ν') := by
  simp only [chkB, Bool.and_eq_true, beq_iff_eq] at hchk
  obtain ⟨⟨⟨⟨⟨⟨⟨⟨h1, h2⟩, h3⟩, h4⟩, h5⟩, h6⟩, h7⟩, h8⟩, h9⟩ := hchk
  have hil : i < l.length := by
    rcases Nat.lt_or_ge i l.length with h | h
    · exact h
    · rw [List.getElem?_eq_none h] at ho; cases ho
  obtain ⟨x, hx⟩ : ∃ x, los[i]? = some x := ⟨los[i]'(by omega), List.getElem?_eq_getElem (by omega)⟩
  have hL := localAll_get hloc i o x ho hx
  simp only [Nat.zero_add] at hL
  -- those before it are done
  have hbef : ∀ q ∈ x.bef, D q = true := by
    intro q hq
    have hb1 := List.all_eq_true.1 h3 (x, i) (mem_zip.2 hx)
    simp only [ho] at hb1
    have hb2 := List.all_eq_true.1 hb1 q hq
    obtain ⟨e, he, hb3⟩ := Array.any_eq_true'.1 hb2
    simp only [Bool.and_eq_true, Bool.or_eq_true, beq_iff_eq] at hb3
    have hDe := hpre e he hb3.1
    rcases hb3.2 with h' | h'
    · rw [← h']; exact hDe
    · cases hle : los[e.on]? with
      | none => rw [hle] at h'; simp at h'
      | some y => rw [hle] at h'; exact cls_bef h3 h4 hc e.on y hle hDe q (by simpa using h')
  have hdst : ∀ j, ds[j]? = (l[j]?).map (fun o : Oper => o.dst) := fun j => by rw [← h1, List.getElem?_map]
  have huniq : ∀ (j j' : Nat) (t : Tmp), ds[j]? = some (some t) → ds[j']? = some (some t) → j = j' := by
    intro j j' t hj hj'
    have := List.all_eq_true.1 (List.all_eq_true.1 h6 (some t, j) (mem_zip.2 hj)) (some t, j') (mem_zip.2 hj')
    simpa using this
  have hks : ∀ k ∈ x.ks, ∀ j y, los[j]? = some y → (k ∈ y.add → j ∈ x.bef) ∧ (k ∈ y.rem → j = i ∨ i ∈ y.bef) := by
    intro k hk j y hy
    have := List.all_eq_true.1 (List.all_eq_true.1 (List.all_eq_true.1 h7 (x, i) (mem_zip.2 hx)) k hk) (y, j) (mem_zip.2 hy)
    simp only [Bool.and_eq_true, Bool.or_eq_true, Bool.not_eq_true', List.contains_eq_mem, decide_eq_false_iff_not, beq_iff_eq, decide_eq_true_eq] at this
    exact ⟨fun h => this.1.resolve_left (fun h' => h' h), fun h => by
      rcases this.2 with (h' | h') | h'
      · exact absurd h h'
      · exact .inl h'
      · exact .inr h'⟩
  have hnlen : ∀ ν : Nat → Value, ∀ t v, getk t (dsl (fun _ => true) 0 ds (av ν) ++ s0) = some v → True := fun _ _ _ _ => trivial
  intro F N a w hr next Q hn
  refine hL (Sig los ds nt s0 av hv D ν) ν rfl ?_ ?_ ?_ F N a w hr next Q ?_
  · -- slots
    intro t ht
    have ht' := List.all_eq_true.1 (List.all_eq_true.1 h5 (x, i) (mem_zip.2 hx)) t ht
    simp only [Bool.or_eq_true] at ht'
    simp only [Sig]
    rcases ht' with ht' | ht'
    · obtain ⟨q, hq, hq2⟩ := List.any_eq_true.1 ht'
      have hq2 : ds[q]? = some (some t) := by simpa using hq2
      cases hv' : (av ν)[q]? with
      | some v =>
        rw [getk_left (dsl_of (D := D) (i := 0) (j := q) (v := v) (by simpa using hbef q hq) hq2 hv' (fun j' hj' => huniq j' q t hj' hq2)), getk_left (dsl_of (D := fun j => x.bef.contains j) (i := 0) (j := q) (v := v) (by simpa using hq) hq2 hv' (fun j' hj' => huniq j' q t hj' hq2))]
      | none =>
        have no : ∀ D' : Nat → Bool, t ∉ keys (dsl D' 0 ds (av ν)) := by
          intro D' hk
          obtain ⟨v, hv2⟩ := mem_keys_get hk
          obtain ⟨j, _, hj1, hj2⟩ := dsl_get hv2
          have := huniq j q t hj1 hq2
          subst this
          rw [hv'] at hj2; cases hj2
        rw [getk_right (no D), getk_right (no _)]
    · have both : ∀ j, ds[j]? = some (some t) → D j = false ∧ x.bef.contains j = false := by
        intro j hj
        have h' := List.all_eq_true.1 ht' (some t, j) (mem_zip.2 hj)
        simp only [bne_self_eq_false, Bool.false_or, Bool.and_eq_true, Bool.not_eq_true'] at h'
        refine ⟨?_, h'.2⟩
        cases hDj : D j with
        | false => rfl
        | true =>
          cases hy : los[j]? with
          | none => rw [hy] at h'; simp at h'
          | some y =>
            rw [hy] at h'
            rw [cls_bef h3 h4 hc j y hy hDj i (by simpa using h'.1)] at hDi; cases hDi
      have no : ∀ D' : Nat → Bool, (∀ j, ds[j]? = some (some t) → D' j = false) → t ∉ keys (dsl D' 0 ds (av ν)) := by
        intro D' hf hk
        obtain ⟨v, hv2⟩ := mem_keys_get hk
        obtain ⟨j, hj0, hj1, _⟩ := dsl_get hv2
        rw [Nat.zero_add] at hj0
        rw [hf j hj1] at hj0; cases hj0
      rw [getk_right (no D fun j hj => (both j hj).1), getk_right (no _ fun j hj => (both j hj).2)]
  · -- what is owned
    intro k hk
    simp only [Sig]
    have hlv : lv los D k = true := lv_iff.2 fun j y hy => by
      obtain ⟨h', h''⟩ := hks k hk j y hy
      refine ⟨fun h => hbef j (h' h), fun h => ?_⟩
      rcases h'' h with rfl | h3'
      · exact hDi
      · cases hDj : D j with
        | false => rfl
        | true => rw [cls_bef h3 h4 hc j y hy hDj i h3'] at hDi; cases hDi
    rw [getk_filter, if_pos hlv]
  · -- what is made is new
    intro k hk
    unfold has
    rw [List.contains_eq_mem]
    simp only [decide_eq_false_iff_not]
    intro hkk
    obtain ⟨y, hy⟩ := mem_keys_get hkk
    simp only [Sig] at hy
    rw [getk_filter] at hy
    split at hy
    · rename_i hlv
      have := (lv_iff.1 hlv i x hx).1 hk
      rw [hDi] at this; cases this
    · cases hy
  · rintro σ' F' N' a' w' ⟨ν', v, h', hν, hvi, hk', hh', hle⟩ hr'
    refine hn _ F' N' a' w' ⟨ν', hle.trans ?_⟩ hr'
    -- what does not hang on what was made is the same
    have hsameS : ∀ j y, los[j]? = some y → D j = true → (av ν)[j]? = (av ν')[j]? := by
      intro j y hy hDj
      have := depAll_get hdep j y hy ν ν' (fun k hk => by
        symm
        refine hν k (fun hka => ?_)
        have hd1 := List.all_eq_true.1 (List.all_eq_true.1 (List.all_eq_true.1 h8 (y, j) (mem_zip.2 hy)) k hk) (x, i) (mem_zip.2 hx)
        simp only [Bool.or_eq_true, Bool.not_eq_true', List.contains_eq_mem, decide_eq_false_iff_not, beq_iff_eq, decide_eq_true_eq] at hd1
        rcases hd1 with (h'' | h'') | h''
        · exact h'' hka
        · subst h''; rw [hDi] at hDj; cases hDj
        · rw [cls_bef h3 h4 hc j y hy hDj i h''] at hDi; cases hDi)
      simpa using this
    have hsameH : ∀ k, k ∉ x.add → (∀ j y, los[j]? = some y → k ∈ y.add → D j = true) → getk k (hv ν) = getk k (hv ν') := by
      intro k hka hdone
      by_cases hkh : k ∈ keys hd
      · obtain ⟨dl, hdl⟩ := mem_keys_get hkh
        have hm := get_mem hdl
        have := hdepAll_get hhd (k, dl) hm ν ν' (fun k' hk'' => by
          symm
          refine hν k' (fun hka' => ?_)
          have hd1 := List.all_eq_true.1 (List.all_eq_true.1 (List.all_eq_true.1 h9 (k, dl) hm) k' hk'') (x, i) (mem_zip.2 hx)
          simp only [Bool.or_eq_true, Bool.not_eq_true', List.contains_eq_mem, decide_eq_false_iff_not] at hd1
          rcases hd1 with h'' | h''
          · exact h'' hka'
          · obtain ⟨⟨y, j⟩, hy, hj⟩ := List.any_eq_true.1 h''
            simp only [Bool.and_eq_true, Bool.or_eq_true, beq_iff_eq, List.contains_eq_mem, decide_eq_true_eq] at hj
            have hyj := mem_zip.1 hy
            have hDj := hdone j y hyj hj.1
            rcases hj.2 with rfl | hj2
            · rw [hDi] at hDj; cases hDj
            · rw [cls_bef h3 h4 hc j y hyj hDj i hj2] at hDi; cases hDi)
        exact this
      · have n1 : ∀ ν'' : Nat → Value, getk k (hv ν'') = none := fun ν'' => by
          cases hg : getk k (hv ν'') with
          | none => rfl
          | some y => exact absurd (hkeys ν'' k (get_mem_keys hg)) hkh
        rw [n1, n1]
    have hdi : ds[i]? = some o.dst := by rw [hdst, ho]; rfl
    refine le_get (by rw [St.put_nt]; rfl) (fun t a ha => ?_) (fun k y hy => ?_)
    · -- slots
      have hcl : ∀ t, o.dst = some t → getk t (St.put ⟨(Sig los ds nt s0 av hv D ν).nt, (Sig los ds nt s0 av hv D ν).slots, h' ++ minus (Sig los ds nt s0 av hv D ν).heap x.rem⟩ o.dst v).slots = some v := fun t ht => by
        rw [ht]; simp [St.put, getk]
      have hno : ∀ t, o.dst ≠ some t → getk t (St.put ⟨(Sig los ds nt s0 av hv D ν).nt, (Sig los ds nt s0 av hv D ν).slots, h' ++ minus (Sig los ds nt s0 av hv D ν).heap x.rem⟩ o.dst v).slots = getk t (dsl D 0 ds (av ν) ++ s0) := fun t ht => by
        cases hod : o.dst with
        | none => rfl
        | some d => rw [hod] at ht; simp only [St.put, getk]; rw [if_neg (fun e => ht (by rw [e]))]; rfl
      simp only [Sig] at ha
      rcases get_append ha with ha | ⟨hnk, ha⟩
      · obtain ⟨j, hj1, hj2, hj3⟩ := dsl_get ha
        simp only [Nat.zero_add, Bool.or_eq_true, beq_iff_eq] at hj1
        by_cases hji : j = i
        · subst hji
          rw [hdi] at hj2
          have hot : o.dst = some t := by simpa using hj2
          rw [hcl t hot]
          rw [hvi (by rw [hot]; simp)] at hj3
          exact hj3
        · have hDj : D j = true := hj1.resolve_right hji
          have hot : o.dst ≠ some t := fun e => hji (huniq j i t hj2 (by rw [hdi, e]))
          rw [hno t hot]
          have hjl : j < los.length := by
            rcases Nat.lt_or_ge j los.length with h | h
            · exact h
            · exfalso
              have : ds[j]? = none := by rw [hdst, List.getElem?_eq_none (by omega)]; rfl
              rw [this] at hj2; cases hj2
          have hsm := hsameS j _ (List.getElem?_eq_getElem hjl) hDj
          exact getk_left (dsl_of (by simpa using hDj) hj2 (by rw [hsm]; exact hj3) (fun j' hj' => huniq j' j t hj' hj2))
      · have hot : o.dst ≠ some t := fun e => hnk (get_mem_keys (dsl_of (D := fun j => D j || j == i) (i := 0) (j := i) (v := v) (by simp) (by rw [hdi, e]) (hvi (by rw [e]; simp)) (fun j' hj' => huniq j' i t hj' (by rw [hdi, e]))))
        rw [hno t hot, getk_right]
        · exact ha
        · intro hk
          obtain ⟨u, hu⟩ := mem_keys_get hk
          obtain ⟨j, hj1, hj2, hj3⟩ := dsl_get hu
          simp only [Nat.zero_add] at hj1
          have hjl : j < los.length := by
            rcases Nat.lt_or_ge j los.length with h | h
            · exact h
            · exfalso
              have : ds[j]? = none := by rw [hdst, List.getElem?_eq_none (by omega)]; rfl
              rw [this] at hj2; cases hj2
          have hsm := hsameS j _ (List.getElem?_eq_getElem hjl) hj1
          exact hnk (get_mem_keys (dsl_of (D := fun j => D j || j == i) (i := 0) (j := j) (v := u) (by simp [hj1]) hj2 (by rw [← hsm]; exact hj3) (fun j' hj' => huniq j' j t hj' hj2)))
    · -- what is owned
      rw [St.put_heap]
      simp only [Sig] at hy ⊢
      rw [getk_filter] at hy
      split at hy
      · rename_i hlv
        have hlv' := lv_iff.1 hlv
        by_cases hka : k ∈ x.add
        · have hkh : k ∈ keys h' := by rw [hk']; exact hka
          obtain ⟨y2, hy2⟩ := mem_keys_get hkh
          have := hh' k y2 hy2
          rw [hy] at this
          cases this
          exact getk_left hy2
        · have hnr : k ∉ x.rem := fun h => by have := (hlv' i x hx).2 h; simp at this
          have hlvD : lv los D k = true := lv_iff.2 fun j z hz => by
            obtain ⟨q1, q2⟩ := hlv' j z hz
            refine ⟨fun h => ?_, fun h => ?_⟩
            · have := q1 h
              simp only [Bool.or_eq_true, beq_iff_eq] at this
              rcases this with h'' | h''
              · exact h''
              · subst h''; rw [hx] at hz; cases hz; exact absurd h hka
            · have := q2 h
              simp only [Bool.or_eq_false_iff] at this
              exact this.1
          have hsm := hsameH k hka (fun j z hz h => (lv_iff.1 hlvD j z hz).1 h)
          rw [getk_right (by rw [hk']; exact hka)]
          exact getk_minus hnr (by rw [getk_filter, if_pos hlvD, hsm]; exact hy)
      · cases hy

theorem any_run {hd : List (Nat × List Nat)} (hchk : chkB l los ds hd = true) (hloc : LocalAll l ds nt s0 av hv P c 0 l los) (hdep : DepAll av 0 los) (hhd : HdepAll hv hd) (hkeys : ∀ ν k, k ∈ keys (hv ν) → k ∈ keys hd) {Q : Exit → Act → World → Prop}
    (hK : ∀ ν F N a w, Rel c F N (Sig los ds nt s0 av hv (fun _ => true) ν) a w → Q .normal a w) : ∀ (n : Nat) (listed : Array Bool) (ν : Nat → Value) F N a w, listed.size = l.length → Cls l (fun i => listed.getD i false) →
      ((List.range l.length).filter fun i => !listed.getD i false).length ≤ n → Rel c F N (Sig los ds nt s0 av hv (fun i => listed.getD i false) ν) a w → wpAny P .any l.toArray Q n listed a w := by
  have hlos : los.length = l.length := by
    simp only [chkB, Bool.and_eq_true, beq_iff_eq] at hchk
    exact hchk.1.1.1.1.1.1.1.2
  have hdsl : ds.length = l.length := by
    simp only [chkB, Bool.and_eq_true, beq_iff_eq] at hchk
    rw [← hchk.1.1.1.1.1.1.1.1]; simp
  have hlow : lowB l = true := by
    simp only [chkB, Bool.and_eq_true, beq_iff_eq] at hchk
    exact hchk.1.1.1.1.1.2
  have hend : ∀ (listed : Array Bool) (ν : Nat → Value) F N a w, listed.size = l.length → Region.ready .any l.toArray listed = [] → Rel c F N (Sig los ds nt s0 av hv (fun i => listed.getD i false) ν) a w → Q .normal a w := by
    intro listed ν F N a w hsz hready hr
    have hall : ∀ i, i < l.length → listed.getD i false = true := by
      intro i
      induction i using Nat.strongRecOn with
      | _ i ih =>
        intro hi
        cases hDi : listed.getD i false with
        | true => rfl
        | false =>
          have : i ∈ Region.ready .any l.toArray listed := mem_ready.2 ⟨by
            have : listed.getD i true = listed.getD i false := by simp [hsz, hi]
            rw [this]; exact hDi, l[i], by simp [hi], fun e he hb => ?_⟩
          · rw [hready] at this; cases this
          · have h1 := List.all_eq_true.1 hlow (l[i], i) (mem_zip.2 (List.getElem?_eq_getElem hi))
            have h2 := Array.all_eq_true'.1 h1 e he
            simp only [hb, Bool.not_true, Bool.false_or, decide_eq_true_eq] at h2
            exact ih e.on h2 (by omega)
    have e : Sig los ds nt s0 av hv (fun i => listed.getD i false) ν = Sig los ds nt s0 av hv (fun _ => true) ν := by
      unfold Sig
      have e1 : dsl (fun i => listed.getD i false) 0 ds (av ν) = dsl (fun _ => true) 0 ds (av ν) := dsl_congr (fun j hj => by simp only [Nat.zero_add]; exact hall j (by omega))
      have e2 : (fun p : Nat × (Value × AV) => lv los (fun i => listed.getD i false) p.1) = fun p => lv los (fun _ => true) p.1 := by
        funext p
        rw [Bool.eq_iff_iff, lv_iff, lv_iff]
        constructor <;> intro h i x hx
        · have hi : i < l.length := by
            rw [← hlos]
            rcases Nat.lt_or_ge i los.length with h' | h'
            · exact h'
            · rw [List.getElem?_eq_none h'] at hx; cases hx
          obtain ⟨q1, q2⟩ := h i x hx
          exact ⟨fun _ => rfl, fun hk => by have := q2 hk; rw [hall i hi] at this; cases this⟩
        · have hi : i < l.length := by
            rw [← hlos]
            rcases Nat.lt_or_ge i los.length with h' | h'
            · exact h'
            · rw [List.getElem?_eq_none h'] at hx; cases hx
          obtain ⟨q1, q2⟩ := h i x hx
          exact ⟨fun _ => hall i hi, fun hk => by have := q2 hk; cases this⟩
      rw [e1, e2]
    rw [e] at hr
    exact hK ν F N a w hr
  intro n
  induction n with
  | zero =>
    intro listed ν F N a w hsz hc hcnt hr
    have hready : Region.ready .any l.toArray listed = [] := by
      rw [List.eq_nil_iff_forall_not_mem]
      intro i hi
      obtain ⟨h1, o, h2, _⟩ := mem_ready.1 hi
      have hil : i < l.length := by
        rcases Nat.lt_or_ge i l.length with h | h
        · exact h
        · simp [List.getElem?_eq_none h] at h2
      have hnil : (List.range l.length).filter (fun i => !listed.getD i false) = [] := List.eq_nil_of_length_eq_zero (by omega)
      have hm : i ∈ (List.range l.length).filter (fun i => !listed.getD i false) := List.mem_filter.2 ⟨List.mem_range.2 hil, by
        have : listed.getD i true = listed.getD i false := by simp [hsz, hil]
        rw [← this, h1]; rfl⟩
      rw [hnil] at hm; cases hm
    exact ⟨hready, hend listed ν F N a w hsz hready hr⟩
  | succ n ih =>
    intro listed ν F N a w hsz hc hcnt hr
    refine ⟨fun hready => hend listed ν F N a w hsz hready hr, fun i hi => ?_⟩
    obtain ⟨h1, o, h2, h3⟩ := mem_ready.1 hi
    have hil : i < l.length := by
      rcases Nat.lt_or_ge i l.length with h | h
      · exact h
      · simp [List.getElem?_eq_none h] at h2
    have ho : l[i]? = some o := by simpa using h2
    have hDi : listed.getD i false = false := by
      have : listed.getD i true = listed.getD i false := by simp [hsz, hil]
      rw [← this]; exact h1
    have hD' : (fun j => (listed.setIfInBounds i true).getD j false) = fun j => listed.getD j false || j == i := by
      funext j
      by_cases hj : i = j
      · subst hj
        simp [Array.getElem?_setIfInBounds, hsz, hil]
      · rw [getD_set_ne false hj]
        simp [show (j == i) = false by simpa using fun h => hj h.symm]
    have hstep := any_step hchk hloc hdep hhd hkeys (D := fun i => listed.getD i false) (ν := ν) hc ho hDi h3
    have hrun := hstep F N a w hr (wpAny P .any l.toArray Q n (listed.setIfInBounds i true)) Q (by
      rintro σ' F' N' a' w' ⟨ν', hle⟩ hr'
      obtain ⟨F2, N2, hr2⟩ := hle c F' N' a' w' hr'
      refine ih (listed.setIfInBounds i true) ν' F2 N2 a' w' (by simpa using hsz) ?_ ?_ (by rw [hD']; exact hr2)
      · rw [hD']
        intro j oj hj hDj e he hb
        simp only [Bool.or_eq_true, beq_iff_eq] at hDj ⊢
        rcases hDj with h | h
        · exact .inl (hc j oj hj h e he hb)
        · subst h
          rw [ho] at hj; cases hj
          exact .inl (h3 e he hb)
      · have hlt : ((List.range l.length).filter fun j => !(listed.setIfInBounds i true).getD j false).length < ((List.range l.length).filter fun j => !listed.getD j false).length := by
          have e1 : (fun j => !(listed.setIfInBounds i true).getD j false) = fun j => (!listed.getD j false) && (j != i) := by
            funext j
            have := congrFun hD' j
            rw [this]
            cases listed.getD j false <;> simp [bne]
          rw [e1]
          have e2 : (List.range l.length).filter (fun j => (!listed.getD j false) && (j != i)) = ((List.range l.length).filter (fun j => !listed.getD j false)).filter (fun j => j != i) := by
            rw [List.filter_filter]
            congr 1
            funext j
            rw [Bool.and_comm]
          rw [e2]
          have hm : i ∈ (List.range l.length).filter (fun j => !listed.getD j false) := List.mem_filter.2 ⟨List.mem_range.2 hil, by rw [hDi]; rfl⟩
          exact filter_ne_lt hm
        exact Nat.le_of_lt_succ (Nat.lt_of_lt_of_le hlt hcnt))
    unfold wpOp
    rw [h2]
    simp only
    split at hrun
    · rename_i hw; rw [if_pos hw]; exact .inl hrun
    · rename_i hw; rw [if_neg hw]; exact hrun

theorem good_any (hm : P.follows .mixedOrders = true) {id : Nat} {σ : St} {Q : Exit → St → Prop} (los : List LO) (ds : List (Option Tmp)) (nt : Nat) (s0 : List (Nat × AV)) (av : (Nat → Value) → List AV) (hv : (Nat → Value) → HP) (hd : List (Nat × List Nat)) (ν0 : Nat → Value)
    (h0 : Le σ (Sig los ds nt s0 av hv (fun _ => false) ν0)) (hchk : chkB l los ds hd = true) (hloc : LocalAll l ds nt s0 av hv P c 0 l los) (hdep : DepAll av 0 los) (hhd : HdepAll hv hd) (hkeys : ∀ ν k, k ∈ keys (hv ν) → k ∈ keys hd)
    (σf : (Nat → Value) → St) (hf : ∀ ν, Le (Sig los ds nt s0 av hv (fun _ => true) ν) (σf ν)) (hK : ∀ ν, Q .normal (σf ν)) : Good P c (.region id l.toArray true) σ Q := by
  intro F N a w hr
  have hU0 : Unch (fun _ => False) w { w with drawn := w.drawn + 1 } := ⟨rfl, rfl, rfl, Nat.le_refl _, fun _ _ _ => rfl⟩
  have hr0 := hr.step hU0 (N' := N) (fun _ _ h => h) (fun _ h => h)
  obtain ⟨F1, N1, hr1⟩ := h0 c F N a _ hr0
  refine wp_region_any hm ?_
  have hfal : (fun i => (Array.replicate l.length false).getD i false) = fun _ => false := by
    funext i
    by_cases hi : i < l.length <;> simp [Array.getElem?_replicate, hi]
  have := any_run (Q := fun e a' w' => ∃ σ' F' N', Q e σ' ∧ Rel c F' N' σ' a' w') hchk hloc hdep hhd hkeys (fun ν F N a w h => let ⟨F', N', h'⟩ := hf ν c F N a w h; ⟨_, F', N', hK ν, h'⟩) l.length (Array.replicate l.length false) ν0 F1 N1 a _ (by simp) (by
    rw [hfal]; intro i o _ h; cases h) (by exact Nat.le_trans (List.length_filter_le _ _) (by simp)) (by rw [hfal]; exact hr1)
  simpa using this
end

def wsubS (s : List (Nat × AV)) : List (Nat × AV) → Prop
  | [] => True
  | (k, a) :: r => (∃ b, getk k s = some b ∧ Wk [] a b ∧ Wk [] b a) ∧ wsubS s r
def wsubH (s : HP) : HP → Prop
  | [] => True
  | (k, a) :: r => getk k s = some a ∧ wsubH s r
theorem wsubS_get {s : List (Nat × AV)} : ∀ {l : List (Nat × AV)}, wsubS s l → ∀ k a, getk k l = some a → ∃ b, getk k s = some b ∧ Wk [] a b ∧ Wk [] b a
  | [], _, k, a, h => by cases h
  | (i, x) :: l, h, k, a, hk => by
    simp only [getk] at hk
    split at hk
    · rename_i e; subst e; cases hk; exact h.1
    · exact wsubS_get h.2 k a hk
theorem wsubH_get {s : HP} : ∀ {l : HP}, wsubH s l → ∀ k a, getk k l = some a → getk k s = some a
  | [], _, k, a, h => by cases h
  | (i, x) :: l, h, k, a, hk => by
    simp only [getk] at hk
    split at hk
    · rename_i e; subst e; cases hk; exact h.1
    · exact wsubH_get h.2 k a hk
theorem get_app {α : Type} {k : Nat} {l m : List (Nat × α)} {x : α} (h : getk k (l ++ m) = some x) : getk k l = some x ∨ (k ∉ keys l ∧ getk k m = some x) := by
  by_cases hk : k ∈ keys l
  · obtain ⟨y, hy⟩ := mem_keys_get hk
    rw [getk_left hy] at h; cases h; exact .inl hy
  · rw [getk_right hk] at h; exact .inr ⟨hk, h⟩
theorem has_minus {k : Nat} {h : HP} {rs : List Nat} (hk : has k h = false) : has k (minus h rs) = false := by
  unfold has at hk ⊢
  rw [List.contains_eq_mem] at hk ⊢
  simp only [decide_eq_false_iff_not] at hk ⊢
  exact fun h' => hk (mem_minus h').2
theorem exists_fresh (h : HP) : ∃ k, has k h = false := by
  refine ⟨(keys h).foldr (fun a b => max (a + 1) b) 0, ?_⟩
  unfold has
  rw [List.contains_eq_mem]
  simp only [decide_eq_false_iff_not]
  have : ∀ l : List Nat, ∀ x ∈ l, x < l.foldr (fun a b => max (a + 1) b) 0 := by
    intro l
    induction l with
    | nil => intro x hx; cases hx
    | cons a l ih =>
      intro x hx
      simp only [List.foldr_cons]
      rcases List.mem_cons.1 hx with rfl | hx
      · omega
      · have := ih x hx; omega
  exact fun hk => Nat.lt_irrefl _ (this _ _ hk)

mutual
theorem Wk.more {Z : List (Value × AV)} : ∀ {a b : AV}, Wk [] a b → Wk Z a b
  | _, _, .refl av => .refl av
  | _, _, .hd x y v => .hd x y v
  | _, _, .nilhd x => .nilhd x
  | _, _, .hdnil x => .hdnil x
  | _, _, .nilsl => .nilsl
  | _, _, .onehd x v => .onehd x v
  | _, _, .onenil => .onenil
  | _, _, .sptnil => .sptnil
  | _, _, .onesl => .onesl
  | _, _, .ptr x y b off => .ptr x y b off
  | _, _, .rptr x y v sz i off => .rptr x y v sz i off
  | _, _, .adr0 b => .adr0 b
  | _, _, .adr x b => .adr x b
  | _, _, .frz x v av h => by cases h
  | _, _, .frzp x b off cs cs' h hd ho => by cases h
  | _, _, .agg h => .agg h.more
  | _, _, .tup h => .tup h.more
  | _, _, .ifc h => .ifc h.more
  | _, _, .clo h => .clo h.more
  | _, _, .optr h => .optr h.more
theorem WkL.more {Z : List (Value × AV)} : ∀ {a b : List AV}, WkL [] a b → WkL Z a b
  | _, _, .nil => .nil
  | _, _, .cons h t => .cons h.more t.more
end

/-- Less is said: told key for key. -/
theorem le_sem (ys : List Nat) (Z : List (Value × AV)) (m : Nat → Nat) {σ σ1 : St} (hnt : σ.nt = σ1.nt) (hz : wfrz σ.heap ys Z) (hs : ∀ k av1, getk k σ1.slots = some av1 → ∃ av, getk k σ.slots = some av ∧ Wk Z av1 av)
    (hh : ∀ k v o1, getk k σ1.heap = some (v, o1) → ∃ o, getk (m k) σ.heap = some (v, o) ∧ Wk Z o1 o) (hi : ∀ x y, x ∈ keys σ1.heap → y ∈ keys σ1.heap → m x = m y → x = y) (hy : ∀ y ∈ ys, ∀ x ∈ keys σ1.heap, m x ≠ y) : Le σ σ1 := by
  intro c F N a w hr
  let N' : Nat → Prop := fun k => N k ∧ ¬ ∃ y, y ∈ ys ∧ y ∈ keys σ.heap ∧ F y k
  let F' : Nat → Nat → Prop := fun x => F (m x)
  have hZ : ∀ v av, (v, av) ∈ Z → RelV N' w av v := by
    intro v av hm
    obtain ⟨y, o, h1, h2, h3⟩ := wfrz_mem hz v av hm
    exact (hr.heap.own y v o h2).freeze h3 (fun k hk => ⟨hk.1, fun hF => hk.2 ⟨y, h1, get_mem_keys h2, hF⟩⟩)
  have hNN : ∀ i, i < w.heap.size → N' i → N i := fun _ _ h => h.1
  have hk : ∀ x, x ∈ keys σ1.heap → m x ∈ keys σ.heap := fun x hx => by
    obtain ⟨⟨v, o1⟩, ho⟩ := mem_keys_get hx
    obtain ⟨o, h1, _⟩ := hh x v o1 ho
    exact get_mem_keys h1
  refine ⟨F', N', hr.defers, hr.size.trans hnt, fun k av1 hk => ?_, ⟨fun x v o1 hx => ?_, fun x hx b hb => ?_, fun x x' hx hx' hne b hb hb' => ?_, fun x v o1 hx => ?_⟩, fun x hx b hb => ?_, fun k hk h0 => ?_, hr.unch⟩
  · obtain ⟨av, h1, h2⟩ := hs k av1 hk
    obtain ⟨v, h3, h4⟩ := hr.slots k av h1
    exact ⟨v, h3, h2.rel hZ (h4.mono (.refl N w) hNN)⟩
  · obtain ⟨o, h3, h4⟩ := hh x v o1 hx
    exact h4.own hZ ((hr.heap.own _ v o h3).mono (.refl N w) hNN (fun _ _ _ => rfl))
  · obtain ⟨h5, h6⟩ := hr.heap.foot _ (hk x hx) b hb
    refine ⟨⟨h5, ?_⟩, h6⟩
    rintro ⟨y', h7, h8, h9⟩
    exact hr.heap.disj _ y' (hk x hx) h8 (hy y' h7 x hx) b hb h9
  · exact hr.heap.disj _ _ (hk x hx) (hk x' hx') (fun e => hne (hi x x' hx hx' e)) b hb hb'
  · obtain ⟨o, h3, h4⟩ := hh x v o1 hx
    exact hr.heap.one _ v o h3
  · exact hr.may _ (hk x hx) b hb
  · rcases hr.n0 k hk h0 with h1 | h1
    · by_cases h2 : ∃ y, y ∈ ys ∧ y ∈ keys σ.heap ∧ F y k
      · obtain ⟨y, _, h3, h4⟩ := h2
        rcases hr.may y h3 k h4 with h5 | h5
        · exact .inr h5
        · omega
      · exact .inl ⟨h1, h2⟩
    · exact .inr h1

section
variable {P : Program} {c : Cx} {l : List Oper} {los : List LO} {ds : List (Option Tmp)} {nt : Nat} {s0 : List (Nat × AV)} {av : (Nat → Value) → List AV} {hv : (Nat → Value) → HP} {i : Nat} {o : Oper} {x : LO}

/-- What an operation leaves, told by what it needs. -/
def LPost (av : (Nat → Value) → List AV) (hv : (Nat → Value) → HP) (i : Nat) (o : Oper) (x : LO) (nt : Nat) (ν : Nat → Value) (S : List (Nat × AV)) (H : HP) (σ' : St) : Prop :=
  ∃ ν' v h', (∀ k, k ∉ x.add → ν' k = ν k) ∧ (o.dst ≠ none → (av ν')[i]? = some v) ∧ keys h' = x.add ∧ (∀ k y, getk k h' = some y → getk k (hv ν') = some y) ∧ Le σ' (St.put ⟨nt, S, h' ++ minus H x.rem⟩ o.dst v)

theorem local_mk (sl : (Nat → Value) → List (Nat × AV)) (hp : (Nat → Value) → HP) (k1 : ∀ ν, keys (sl ν) = x.ts) (h1 : ∀ ν, wsubS (dsl (fun j => x.bef.contains j) 0 ds (av ν) ++ s0) (sl ν)) (k2 : ∀ ν, keys (hp ν) = x.ks) (h2 : ∀ ν, wsubH (hv ν) (hp ν))
    (hst : ∀ ν S H, (∀ t a, getk t S = some a → ∃ b, getk t (sl ν ++ S) = some b ∧ Wk [] a b) → (∀ k ∈ x.add, has k (hp ν ++ H) = false) → StepOk P c l o ⟨nt, sl ν ++ S, hp ν ++ H⟩ (LPost av hv i o x nt ν S (hp ν ++ H))) : Local l ds nt s0 av hv P c i o x := by
  intro σ ν hnt hts hks hadd F N a w hr next Q hn
  have hsl : ∀ t a, getk t (sl ν) = some a → ∃ b, getk t σ.slots = some b ∧ Wk [] a b ∧ Wk [] b a := fun t a h => by
    rw [hts t (by rw [← k1 ν]; exact get_mem_keys h)]
    exact wsubS_get (h1 ν) t a h
  have hhp : ∀ k a, getk k (hp ν) = some a → getk k σ.heap = some a := fun k a h => by
    rw [hks k (by rw [← k2 ν]; exact get_mem_keys h)]
    exact wsubH_get (h2 ν) k a h
  have hS : ∀ t a, getk t σ.slots = some a → ∃ b, getk t (sl ν ++ σ.slots) = some b ∧ Wk [] a b := fun t a h => by
    by_cases hk : t ∈ keys (sl ν)
    · obtain ⟨y, hy⟩ := mem_keys_get hk
      rw [getk_left hy]
      obtain ⟨b, h3, h4, h5⟩ := hsl t y hy
      rw [h3] at h; cases h
      exact ⟨y, rfl, h5⟩
    · rw [getk_right hk]; exact ⟨a, h, .refl _⟩
  have hS' : ∀ t a, getk t (sl ν ++ σ.slots) = some a → ∃ b, getk t σ.slots = some b ∧ Wk [] a b := fun t a h => by
    rcases get_app h with h | ⟨_, h⟩
    · obtain ⟨b, h3, h4, h5⟩ := hsl t a h
      exact ⟨b, h3, h4⟩
    · exact ⟨a, h, .refl _⟩
  have hH : ∀ k a, getk k (hp ν ++ minus σ.heap x.ks) = some a → getk k σ.heap = some a := fun k a h => by
    rcases get_app h with h | ⟨_, h⟩
    · exact hhp k a h
    · exact (get_minus h).2
  have hH' : ∀ k a, getk k σ.heap = some a → getk k (hp ν ++ minus σ.heap x.ks) = some a := fun k a h => by
    by_cases hk : k ∈ keys (hp ν)
    · obtain ⟨y, hy⟩ := mem_keys_get hk
      rw [getk_left hy]
      rw [hhp k y hy] at h; exact h
    · rw [getk_right hk]; exact getk_minus (by rw [← k2 ν]; exact hk) h
  have hno : ∀ k, k ∈ x.add → has k (hp ν ++ minus σ.heap x.ks) = false := fun k hk => by
    have := hadd k hk
    unfold has at this ⊢
    rw [List.contains_eq_mem] at this ⊢
    simp only [decide_eq_false_iff_not] at this ⊢
    intro h'
    obtain ⟨y, hy⟩ := mem_keys_get h'
    exact this (get_mem_keys (hH k y hy))
  obtain ⟨F1, N1, hr1⟩ := le_sem [] [] id (σ1 := ⟨nt, sl ν ++ σ.slots, hp ν ++ minus σ.heap x.ks⟩) hnt trivial hS' (fun k v o1 h => ⟨o1, hH k _ h, .refl _⟩) (fun _ _ _ _ h => h) (fun y h => by cases h) c F N a w hr
  refine hst ν σ.slots (minus σ.heap x.ks) hS hno F1 N1 a w hr1 next Q ?_
  rintro σ' F' N' a' w' ⟨ν', v, h', q1, q2, q3, q4, q5⟩ hr'
  refine hn σ' F' N' a' w' ⟨ν', v, h', q1, q2, q3, q4, q5.trans ?_⟩ hr'
  refine le_get (by rw [St.put_nt, St.put_nt]; exact hnt.symm) (fun k a ha => ?_) (fun k y hy => ?_)
  · cases hd : o.dst with
    | none => rw [hd] at ha; exact ha
    | some d => rw [hd] at ha; exact ha
  · rw [St.put_heap] at hy ⊢
    rcases get_app hy with h3 | ⟨h3, h4⟩
    · exact getk_left h3
    · rw [getk_right h3]
      obtain ⟨h5, h6⟩ := get_minus h4
      exact getk_minus h5 (hH' k y h6)

variable {ν : Nat → Value} {S S' : List (Nat × AV)} {H : HP} {v : AV}

theorem put_slots {σ σ1 : St} {d : Option Tmp} {v v1 : AV} (Z : List (Value × AV)) (hd : Wk Z v1 v) (h : ∀ t a, getk t σ1.slots = some a → ∃ b, getk t σ.slots = some b ∧ Wk Z a b) : ∀ t a, getk t (σ1.put d v1).slots = some a → ∃ b, getk t (σ.put d v).slots = some b ∧ Wk Z a b := by
  intro t a ha
  cases d with
  | none => exact h t a ha
  | some d =>
    simp only [St.put, getk] at ha ⊢
    split at ha
    · cases ha; rename_i e; rw [if_pos e]; exact ⟨v, rfl, hd⟩
    · rename_i e; rw [if_neg e]; exact h t a ha

/-- Nothing made, nothing used up. -/
theorem lp_v (hS : ∀ t a, getk t S = some a → ∃ b, getk t S' = some b ∧ Wk [] a b) (ha : x.add = []) (hr : x.rem = []) (hv' : o.dst ≠ none → (av ν)[i]? = some v) : LPost av hv i o x nt ν S H (St.put ⟨nt, S', H⟩ o.dst v) := by
  refine ⟨ν, v, [], fun _ _ => rfl, hv', by rw [ha]; rfl, (fun k y h => by cases h), ?_⟩
  refine le_sem [] [] id (by rw [St.put_nt, St.put_nt]) trivial (put_slots [] (.refl _) hS) (fun k u o1 h => ⟨o1, ?_, .refl _⟩) (fun x y _ _ h => h) (fun y h => by cases h)
  rw [St.put_heap] at h ⊢
  rw [hr] at h
  exact (get_minus h).2

/-- One thing is made (of what is used up, or anew). -/
theorem lp_m {k k' : Nat} {u : Value} {ob : AV} {rs : List Nat} (hS : ∀ t a, getk t S = some a → ∃ b, getk t S' = some b ∧ Wk [] a b) (ha : x.add = [k]) (hr : x.rem = rs) (hk : k' = k ∨ k' ∈ rs) (hv' : o.dst ≠ none → (av (upd ν k u))[i]? = some v) (hh : getk k (hv (upd ν k u)) = some (u, ob)) : LPost av hv i o x nt ν S H (St.put ⟨nt, S', (k', (u, ob)) :: minus H rs⟩ o.dst v) := by
  subst hr
  refine ⟨upd ν k u, v, [(k, (u, ob))], fun j hj => by unfold upd; rw [if_neg]; rintro rfl; exact hj (by rw [ha]; simp), hv', by rw [ha]; rfl, fun j y h => ?_, ?_⟩
  · simp only [getk] at h
    split at h
    · rename_i e; subst e; rw [← h]; exact hh
    · cases h
  · refine le_sem [] [] (fun j => if j = k then k' else j) (by rw [St.put_nt, St.put_nt]) trivial (put_slots [] (.refl _) hS) (fun j u' o1 h => ⟨o1, ?_, .refl _⟩) (fun a b ha hb h => ?_) (fun y h => by cases h)
    · rw [St.put_heap] at h ⊢
      simp only [List.cons_append, List.nil_append, getk] at h
      split at h
      · rename_i e; subst e; simp only [if_pos, getk]; exact h
      · rename_i e
        have e' : ¬ j = k := fun e' => e e'.symm
        simp only [if_neg e', getk]
        rw [if_neg]
        · exact h
        · rintro rfl
          rcases hk with h1 | h1
          · exact e' h1
          · exact (get_minus h).1 h1
    · rw [St.put_heap] at ha hb
      have hmem : ∀ j, j ∈ keys ([(k, (u, ob))] ++ minus H x.rem) → j = k ∨ (j ≠ k ∧ j ∉ x.rem) := fun j hj => by
        simp only [List.cons_append, List.nil_append, keys, List.map_cons, List.mem_cons] at hj
        by_cases e : j = k
        · exact .inl e
        · exact .inr ⟨e, (mem_minus (hj.resolve_left e)).1⟩
      rcases hmem a ha with rfl | ⟨a1, a2⟩ <;> rcases hmem b hb with rfl | ⟨b1, b2⟩
      · rfl
      · simp only [if_pos, if_neg b1] at h
        subst h
        rcases hk with h1 | h1
        · exact h1.symm
        · exact absurd h1 b2
      · simp only [if_pos, if_neg a1] at h
        subst h
        rcases hk with h1 | h1
        · exact h1
        · exact absurd h1 a2
      · simpa only [if_neg a1, if_neg b1] using h
theorem lp_n {k : Nat} {u : Value} {ob : AV} (hS : ∀ t a, getk t S = some a → ∃ b, getk t S' = some b ∧ Wk [] a b) (ha : x.add = [k]) (hr : x.rem = []) (hv' : o.dst ≠ none → (av (upd ν k u))[i]? = some v) (hh : getk k (hv (upd ν k u)) = some (u, ob)) : LPost av hv i o x nt ν S H (St.put ⟨nt, S', (k, (u, ob)) :: H⟩ o.dst v) := by
  have := lp_m (hv := hv) (i := i) (k' := k) (rs := []) (nt := nt) (H := H) hS ha hr (.inl rfl) hv' hh
  rwa [minus_nil] at this

/-- What is made is only to be read. -/
theorem lp_f {z : Bool} {k : Nat} {u : Value} {rs : List Nat} {t : TypeId} {sz : Nat} {rows rows' : List (List AV)} (hS : ∀ t a, getk t S = some a → ∃ b, getk t S' = some b ∧ Wk [] a b) (ha : x.add = []) (hr : x.rem = rs) (hk : has k (minus H rs) = false) (hf : FrzLL rows' rows) (hv' : o.dst ≠ none → (av ν)[i]? = some (.sl z rows')) : LPost av hv i o x nt ν S H (St.put ⟨nt, S', (k, (u, .osl t sz rows)) :: minus H rs⟩ o.dst (.hd k u)) := by
  subst hr
  refine ⟨ν, .sl z rows', [], fun _ _ => rfl, hv', by rw [ha]; rfl, (fun k y h => by cases h), ?_⟩
  have hne : ∀ j, j ∈ keys (minus H x.rem) → j ≠ k := fun j hj e => by
    subst e
    exact has_no hk hj
  refine le_sem [k] [(u, .sl z rows')] id (by rw [St.put_nt, St.put_nt]) ⟨⟨.osl t sz rows, by rw [St.put_heap]; simp [getk], .osl hf⟩, trivial⟩ (put_slots _ (.frz _ _ _ (.head _)) (fun t a h => let ⟨b, h1, h2⟩ := hS t a h; ⟨b, h1, h2.more⟩)) (fun j u' o1 h => ⟨o1, ?_, .refl _⟩) (fun x y _ _ h => h) (fun y h j hj e => ?_)
  · rw [St.put_heap] at h ⊢
    simp only [List.nil_append, id, getk] at h ⊢
    rw [if_neg (fun e => hne j (get_mem_keys h) e.symm)]; exact h
  · rw [St.put_heap] at hj
    simp only [List.nil_append] at hj
    rcases List.mem_cons.1 h with rfl | h
    · exact hne j hj e
    · cases h
theorem lp_fn {z : Bool} {k : Nat} {u : Value} {t : TypeId} {sz : Nat} {rows rows' : List (List AV)} (hS : ∀ t a, getk t S = some a → ∃ b, getk t S' = some b ∧ Wk [] a b) (ha : x.add = []) (hr : x.rem = []) (hk : has k H = false) (hf : FrzLL rows' rows) (hv' : o.dst ≠ none → (av ν)[i]? = some (.sl z rows')) : LPost av hv i o x nt ν S H (St.put ⟨nt, S', (k, (u, .osl t sz rows)) :: H⟩ o.dst (.hd k u)) := by
  have := lp_f (hv := hv) (i := i) (rs := []) (nt := nt) (H := H) (u := u) (t := t) (sz := sz) hS ha hr (by rw [minus_nil]; exact hk) hf hv'
  rwa [minus_nil] at this
end

theorem wheap_live {H : HP} {los : List LO} : ∀ {ms : List (Option Nat)} {h : HP}, wheap [] H ms h → (ms.filterMap id).all (lv los fun _ => true) = true → wheap [] (H.filter fun p => lv los (fun _ => true) p.1) ms h
  | [], [], _, _ => trivial
  | none :: ms, (x, (v, o1)) :: r, h, hl => ⟨h.1, wheap_live h.2 (by simpa using hl)⟩
  | some y :: ms, (x, (v, o1)) :: r, h, hl => by
    obtain ⟨⟨o, h1, h2⟩, h3⟩ := h
    simp only [List.filterMap_cons, id, List.all_cons, Bool.and_eq_true] at hl
    exact ⟨⟨o, by rw [getk_filter, if_pos hl.1]; exact h1, h2⟩, wheap_live h3 hl.2⟩
  | [], _ :: _, h, _ => h.elim
  | m :: _, [], h, _ => by cases m <;> exact h.elim

theorem good_anyM {P : Program} {c : Cx} {l : List Oper} (hm : P.follows .mixedOrders = true) {id : Nat} {σ : St} {Q : Exit → St → Prop} (los : List LO) (ds : List (Option Tmp)) (nt : Nat) (s0 : List (Nat × AV)) (hp0 : HP) (av : (Nat → Value) → List AV) (hv1 : (Nat → Value) → HP) (hd : List (Nat × List Nat)) (k1 : List Nat) (ms : List (Option Nat)) (sf : (Nat → Value) → List (Nat × AV)) (hf : (Nat → Value) → HP)
    (h0 : Le σ ⟨nt, s0, hp0⟩) (hchk : chkB l los ds hd = true) (hloc : LocalAll l ds nt s0 av (fun ν => hv1 ν ++ hp0) P c 0 l los) (hdep : DepAll av 0 los) (hhd : HdepAll (fun ν => hv1 ν ++ hp0) hd) (hkk : ∀ ν, keys (hv1 ν ++ hp0) = keys hd) (hk1 : ∀ ν, keys (hv1 ν) = k1) (hk2 : k1.all (fun k => los.any fun x => x.add.contains k) = true)
    (hfs : ∀ ν, wslots [] (dsl (fun _ => true) 0 ds (av ν) ++ s0) (sf ν)) (hfh : ∀ ν, wheap [] (hv1 ν ++ hp0) ms (hf ν)) (hl : (ms.filterMap _root_.id).all (lv los fun _ => true) = true) (hn : (ms.filterMap _root_.id).Nodup)
    (hK : ∀ ν, Q .normal ⟨nt, sf ν, hf ν⟩) : Good P c (.region id l.toArray true) σ Q := by
  refine good_any hm los ds nt s0 av (fun ν => hv1 ν ++ hp0) hd (fun _ => nilV) (h0.trans ?_) hchk hloc hdep hhd (fun ν k hk => by rw [← hkk ν]; exact hk) (fun ν => ⟨nt, sf ν, hf ν⟩) (fun ν => ?_) hK
  · refine le_get rfl (fun k a ha => ?_) (fun k y hy => ?_)
    · simp only [Sig] at ha
      rcases get_app ha with ha | ⟨_, ha⟩
      · obtain ⟨j, hj, _⟩ := dsl_get ha; cases hj
      · exact ha
    · simp only [Sig] at hy
      rw [getk_filter] at hy
      split at hy
      · rename_i hlv
        rcases get_app hy with hy | ⟨_, hy⟩
        · have := List.all_eq_true.1 hk2 k (by rw [← hk1 (fun _ => nilV)]; exact get_mem_keys hy)
          obtain ⟨x, hx, hx2⟩ := List.any_eq_true.1 this
          obtain ⟨j, hj⟩ := List.getElem?_of_mem hx
          have := (lv_iff.1 hlv j x hj).1 (by simpa using hx2)
          cases this
        · exact hy
      · cases hy
  · exact le_w ms rfl (hfs ν) (wheap_live (hfh ν) hl) hn
end Go.Bb
