/- Parts of a proof, put together; the conditions stand in each theorem. -/
import Derived.Orders
import Derived.Lib.AppendStr
import Derived.Laws.CopyRow
import Derived.Test.YtiaigcdckmpepaaProg
import Derived.KernelRfl
import Derived.LaidEql
import Derived.Laws.StructEq
import Derived.Test.YtiaigcdckmpepaaXO1
section
/-! Regions that draw their order. -/
set_option linter.unusedVariables false
set_option linter.unusedSimpArgs false
namespace Go.Bb

/-- Of an operation: those that come before it; the slots and the names of what is owned that it needs; which of these it uses up; which it makes; which names its value mentions. -/
structure LO where
  bef : List Nat
  ts : List Nat
  ks : List Nat
  rem : List Nat
  add : List Nat
  dep : List Nat

def dsl (D : Nat → Bool) : Nat → List (Option Tmp) → List AV → List (Nat × AV)
  | i, some d :: ds, v :: vs => if D i = true then (d, v) :: dsl D (i + 1) ds vs else dsl D (i + 1) ds vs
  | i, none :: ds, _ :: vs => dsl D (i + 1) ds vs
  | _, _, _ => []

theorem dsl_get {D : Nat → Bool} : ∀ {i : Nat} {ds : List (Option Tmp)} {vs : List AV} {t : Nat} {v : AV}, getk t (dsl D i ds vs) = some v → ∃ j, D (i + j) = true ∧ ds[j]? = some (some t) ∧ vs[j]? = some v
  | i, some d :: ds, u :: vs, t, v, h => by
    simp only [dsl] at h
    split at h
    · rename_i hD
      simp only [getk] at h
      split at h
      · rename_i e; subst e; cases h; exact ⟨0, hD, rfl, rfl⟩
      · obtain ⟨j, h1, h2, h3⟩ := dsl_get h
        exact ⟨j + 1, by rw [show i + (j + 1) = i + 1 + j by omega]; exact h1, by simpa using h2, by simpa using h3⟩
    · obtain ⟨j, h1, h2, h3⟩ := dsl_get h
      exact ⟨j + 1, by rw [show i + (j + 1) = i + 1 + j by omega]; exact h1, by simpa using h2, by simpa using h3⟩
  | i, none :: ds, u :: vs, t, v, h => by
    simp only [dsl] at h
    obtain ⟨j, h1, h2, h3⟩ := dsl_get h
    exact ⟨j + 1, by rw [show i + (j + 1) = i + 1 + j by omega]; exact h1, by simpa using h2, by simpa using h3⟩
  | _, [], _, _, _, h => by simp [dsl, getk] at h
  | _, some _ :: _, [], _, _, h => by simp [dsl, getk] at h
  | _, none :: _, [], _, _, h => by simp [dsl, getk] at h

theorem dsl_of {D : Nat → Bool} : ∀ {i : Nat} {ds : List (Option Tmp)} {vs : List AV} {t j : Nat} {v : AV}, D (i + j) = true → ds[j]? = some (some t) → vs[j]? = some v → (∀ j', ds[j']? = some (some t) → j' = j) → getk t (dsl D i ds vs) = some v
  | i, d :: ds, u :: vs, t, 0, v, hD, h1, h2, _ => by
    simp at h1 h2; subst h1; subst h2
    simp only [dsl, Nat.add_zero] at hD ⊢
    rw [if_pos hD]; simp [getk]
  | i, d :: ds, u :: vs, t, j + 1, v, hD, h1, h2, hu => by
    have ih := dsl_of (D := D) (i := i + 1) (ds := ds) (vs := vs) (t := t) (j := j) (v := v) (by rw [show i + 1 + j = i + (j + 1) by omega]; exact hD) (by simpa using h1) (by simpa using h2) (fun j' hj' => by have := hu (j' + 1) (by simpa using hj'); omega)
    cases d with
    | none => simpa only [dsl] using ih
    | some d =>
      simp only [dsl]
      split
      · simp only [getk]
        rw [if_neg]
        · exact ih
        · rintro rfl
          have := hu 0 (by simp)
          omega
      · exact ih
  | _, [], _, _, _, _, _, h, _, _ => by simp at h
  | _, _ :: _, [], _, _, _, _, _, h, _ => by simp at h

theorem dsl_congr {D D' : Nat → Bool} : ∀ {i : Nat} {ds : List (Option Tmp)} {vs : List AV}, (∀ j, j < ds.length → D (i + j) = D' (i + j)) → dsl D i ds vs = dsl D' i ds vs
  | i, some d :: ds, u :: vs, h => by
    simp only [dsl]
    rw [show D i = D' i by simpa using h 0 (by simp), dsl_congr (i := i + 1) (ds := ds) (vs := vs) (D := D) (D' := D') (fun j hj => by have := h (j + 1) (by simp; omega); rw [show i + 1 + j = i + (j + 1) by omega]; exact this)]
  | i, none :: ds, u :: vs, h => by
    simp only [dsl]
    exact dsl_congr (fun j hj => by have := h (j + 1) (by simp; omega); rw [show i + 1 + j = i + (j + 1) by omega]; exact this)
  | _, [], _, _ => by simp [dsl]
  | _, some _ :: _, [], _ => by simp [dsl]
  | _, none :: _, [], _ => by simp [dsl]

def lv (los : List LO) (D : Nat → Bool) (k : Nat) : Bool := los.zipIdx.all fun p => (!p.1.add.contains k || D p.2) && (!p.1.rem.contains k || !D p.2)

theorem mem_zip {α : Type} {l : List α} {p : α × Nat} : p ∈ l.zipIdx ↔ l[p.2]? = some p.1 := by
  obtain ⟨x, i⟩ := p
  simp [List.mem_zipIdx_iff_getElem?]

theorem lv_iff {los : List LO} {D : Nat → Bool} {k : Nat} : lv los D k = true ↔ ∀ i x, los[i]? = some x → (k ∈ x.add → D i = true) ∧ (k ∈ x.rem → D i = false) := by
  unfold lv
  rw [List.all_eq_true]
  constructor
  · intro h i x hx
    have := h (x, i) (mem_zip.2 hx)
    simp only [Bool.and_eq_true, Bool.or_eq_true, Bool.not_eq_true', List.contains_eq_mem, decide_eq_false_iff_not] at this
    exact ⟨fun hk => this.1.resolve_left (fun h => h hk), fun hk => this.2.resolve_left (fun h => h hk)⟩
  · rintro h ⟨x, i⟩ hx
    obtain ⟨h1, h2⟩ := h i x (mem_zip.1 hx)
    simp only [Bool.and_eq_true, Bool.or_eq_true, Bool.not_eq_true', List.contains_eq_mem, decide_eq_false_iff_not]
    exact ⟨Decidable.or_iff_not_imp_left.2 fun h => h1 (Decidable.not_not.1 h), Decidable.or_iff_not_imp_left.2 fun h => h2 (Decidable.not_not.1 h)⟩

theorem getk_filter {α : Type} {f : Nat → Bool} {k : Nat} : ∀ {l : List (Nat × α)}, getk k (l.filter fun p => f p.1) = if f k = true then getk k l else none
  | [] => by simp [getk]
  | (i, x) :: l => by
    simp only [List.filter_cons]
    by_cases hi : f i = true
    · rw [if_pos hi]
      simp only [getk]
      by_cases e : i = k
      · subst e; simp [hi]
      · rw [if_neg e, if_neg e]; exact getk_filter
    · rw [if_neg hi]
      simp only [getk]
      by_cases e : i = k
      · subst e
        rw [getk_filter, if_neg hi, if_neg hi]
      · rw [if_neg e]; exact getk_filter

theorem getk_minus {α : Type} {l : List (Nat × α)} {ks : List Nat} {k : Nat} {x : α} (h : k ∉ ks) (hx : getk k l = some x) : getk k (minus l ks) = some x := by
  have := getk_filter (f := fun i => !ks.contains i) (k := k) (l := l)
  unfold minus
  rw [this, if_pos (by simpa using h), hx]

theorem getk_right {α : Type} {l m : List (Nat × α)} {k : Nat} (h : k ∉ keys l) : getk k (l ++ m) = getk k m := by
  induction l with
  | nil => rfl
  | cons p l ih =>
    obtain ⟨i, x⟩ := p
    simp only [keys, List.map_cons, List.mem_cons, not_or] at h
    simp only [List.cons_append, getk]
    rw [if_neg (fun e => h.1 e.symm)]
    exact ih h.2
theorem getk_left {α : Type} {l m : List (Nat × α)} {k : Nat} {x : α} (h : getk k l = some x) : getk k (l ++ m) = some x := by
  induction l with
  | nil => cases h
  | cons p l ih =>
    obtain ⟨i, y⟩ := p
    simp only [List.cons_append, getk] at h ⊢
    split at h
    · rename_i e; rw [if_pos e]; exact h
    · rename_i e; rw [if_neg e]; exact ih h

/-- What has fewer slots, and less of what is owned. -/
theorem le_get {σ σ1 : St} (hnt : σ.nt = σ1.nt) (hs : ∀ k av, getk k σ1.slots = some av → getk k σ.slots = some av) (hh : ∀ k x, getk k σ1.heap = some x → getk k σ.heap = some x) : Le σ σ1 := by
  intro c F N a w hr
  have hk : ∀ x, x ∈ keys σ1.heap → x ∈ keys σ.heap := fun x hx => let ⟨y, hy⟩ := mem_keys_get hx; get_mem_keys (hh x y hy)
  exact ⟨F, N, hr.defers, hr.size.trans hnt, fun k av h => hr.slots k av (hs k av h), ⟨fun x v o h => hr.heap.own x v o (hh x _ h), fun x hx => hr.heap.foot x (hk x hx), fun x y hx hy => hr.heap.disj x y (hk x hx) (hk y hy), fun x v o h => hr.heap.one x v o (hh x _ h)⟩, fun x hx => hr.may x (hk x hx), hr.n0, hr.unch⟩

/-- An operation, or its absence. -/
def StepOk (P : Program) (c : Cx) (all : List Oper) (o : Oper) (σ : St) (K : St → Prop) : Prop :=
  ∀ F N a w, Rel c F N σ a w → ∀ (next : Act → World → Prop) (Q : Exit → Act → World → Prop), (∀ σ' F' N' a' w', K σ' → Rel c F' N' σ' a' w' → next a' w') →
    if Region.wanted o (yielded all.toArray a.tmps) = true then o.wp P a w next Q else next (a.put o.dst undef) w

section
variable {P : Program} {T : Tab} {c : Cx} {o : Oper} {σ : St} {K : St → Prop} {all : List Oper}
theorem st_op (hg : o.guard = none) (h : OpOk P c o σ K) : StepOk P c all o σ K := fun F N a w hr next Q hn => by rw [if_pos (wanted_none hg _)]; exact h F N a w hr next Q hn
theorem st_yes {j : Nat} {want t : Bool} (hg : o.guard = some (j, want)) (hs : guardA all σ j = some (.bool t)) (ht : t = want) (h : OpOk P c o σ K) : StepOk P c all o σ K := fun F N a w hr next Q hn => by
  rw [if_pos (by unfold Region.wanted; rw [hg]; simp [guard_rel hr hs, ht])]; exact h F N a w hr next Q hn
theorem st_no {j : Nat} {want t : Bool} (hg : o.guard = some (j, want)) (hs : guardA all σ j = some (.bool t)) (ht : t = !want) (hd : dok o.dst σ.nt = true) (h : K (σ.put o.dst .und)) : StepOk P c all o σ K := fun F N a w hr next Q hn => by
  rw [if_neg (by unfold Region.wanted; rw [hg]; simp [guard_rel hr hs, ht])]; exact hn _ F N _ w h (hr.put (dok_ok hd) .und)
theorem st_und {j : Nat} {want : Bool} (hg : o.guard = some (j, want)) (hs : guardA all σ j = some .und) (hd : dok o.dst σ.nt = true) (h : K (σ.put o.dst .und)) : StepOk P c all o σ K := fun F N a w hr next Q hn => by
  rw [if_neg (by unfold Region.wanted; rw [hg]; simp [guard_und hr hs])]; exact hn _ F N _ w h (hr.put (dok_ok hd) .und)
end

def befB (l : List Oper) (los : List LO) : Bool := los.zipIdx.all fun p => match l[p.2]? with
  | some o => p.1.bef.all fun q => o.after.any fun e => Region.binds .any e && (e.on == q || ((los[e.on]?).map (·.bef.contains q)).getD false)
  | none => false
def lowB (l : List Oper) : Bool := l.zipIdx.all fun p => p.1.after.all fun e => !Region.binds .any e || decide (e.on < p.2)
def tsB (los : List LO) (ds : List (Option Tmp)) : Bool := los.zipIdx.all fun p => p.1.ts.all fun t => (p.1.bef.any fun q => ds[q]? == some (some t)) || ds.zipIdx.all fun d => d.1 != some t || (((los[d.2]?).map (·.bef.contains p.2)).getD false && !p.1.bef.contains d.2)
def dstB (ds : List (Option Tmp)) : Bool := ds.zipIdx.all fun p => ds.zipIdx.all fun q => p.2 == q.2 || p.1.isNone || p.1 != q.1
def ksB (los : List LO) : Bool := los.zipIdx.all fun p => p.1.ks.all fun k => los.zipIdx.all fun q => (!q.1.add.contains k || p.1.bef.contains q.2) && (!q.1.rem.contains k || q.2 == p.2 || q.1.bef.contains p.2)
def depB (los : List LO) : Bool := los.zipIdx.all fun p => p.1.dep.all fun k => los.zipIdx.all fun q => !q.1.add.contains k || q.2 == p.2 || p.1.bef.contains q.2
def hdepB (los : List LO) (hd : List (Nat × List Nat)) : Bool := hd.all fun p => p.2.all fun k' => los.zipIdx.all fun q => !q.1.add.contains k' || los.zipIdx.any fun x => x.1.add.contains p.1 && (q.2 == x.2 || x.1.bef.contains q.2)
def chkB (l : List Oper) (los : List LO) (ds : List (Option Tmp)) (hd : List (Nat × List Nat)) : Bool :=
  (l.map (·.dst) == ds) && (los.length == l.length) && befB l los && lowB l && tsB los ds && dstB ds && ksB los && depB los && hdepB los hd
def upd (ν : Nat → Value) (k : Nat) (v : Value) : Nat → Value := fun j => if j = k then v else ν j
def bse : Value → Nat
  | .pointer (some p) => p.block
  | _ => 0

section
variable {P : Program} {T : Tab} {c : Cx} (l : List Oper) (los : List LO) (ds : List (Option Tmp)) (nt : Nat) (s0 : List (Nat × AV)) (av : (Nat → Value) → List AV) (hv : (Nat → Value) → HP)

def Sig (D : Nat → Bool) (ν : Nat → Value) : St := ⟨nt, dsl D 0 ds (av ν) ++ s0, (hv ν).filter fun p => lv los D p.1⟩

/-- What an operation does, told by what it needs. -/
def Local (P : Program) (c : Cx) (i : Nat) (o : Oper) (x : LO) : Prop :=
  ∀ (σ : St) (ν : Nat → Value), σ.nt = nt → (∀ t ∈ x.ts, getk t σ.slots = getk t (dsl (fun j => x.bef.contains j) 0 ds (av ν) ++ s0)) → (∀ k ∈ x.ks, getk k σ.heap = getk k (hv ν)) → (∀ k ∈ x.add, has k σ.heap = false) →
    StepOk P c l o σ fun σ' => ∃ ν' v h', (∀ k, k ∉ x.add → ν' k = ν k) ∧ (o.dst ≠ none → (av ν')[i]? = some v) ∧ keys h' = x.add ∧ (∀ k y, getk k h' = some y → getk k (hv ν') = some y) ∧ Le σ' (St.put ⟨σ.nt, σ.slots, h' ++ minus σ.heap x.rem⟩ o.dst v)

def LocalAll (P : Program) (c : Cx) : Nat → List Oper → List LO → Prop
  | i, o :: os, x :: xs => Local l ds nt s0 av hv P c i o x ∧ LocalAll P c (i + 1) os xs
  | _, _, _ => True
def DepAll : Nat → List LO → Prop
  | i, x :: xs => (∀ ν ν' : Nat → Value, (∀ k ∈ x.dep, ν k = ν' k) → (av ν)[i]? = (av ν')[i]?) ∧ DepAll (i + 1) xs
  | _, [] => True
def HdepAll : List (Nat × List Nat) → Prop
  | p :: r => (∀ ν ν' : Nat → Value, (∀ k ∈ p.2, ν k = ν' k) → getk p.1 (hv ν) = getk p.1 (hv ν')) ∧ HdepAll r
  | [] => True

variable {l los ds nt s0 av hv}
theorem localAll_get : ∀ {i : Nat} {os : List Oper} {xs : List LO}, LocalAll l ds nt s0 av hv P c i os xs → ∀ j o x, os[j]? = some o → xs[j]? = some x → Local l ds nt s0 av hv P c (i + j) o x
  | i, o :: os, x :: xs, h, 0, o', x', h1, h2 => by simp at h1 h2; subst h1; subst h2; exact h.1
  | i, o :: os, x :: xs, h, j + 1, o', x', h1, h2 => by
    have := localAll_get h.2 j o' x' (by simpa using h1) (by simpa using h2)
    rwa [show i + 1 + j = i + (j + 1) by omega] at this
  | _, [], _, _, _, _, _, h, _ => by simp at h
  | _, _ :: _, [], _, _, _, _, _, h => by simp at h
theorem depAll_get : ∀ {i : Nat} {xs : List LO}, DepAll av i xs → ∀ j x, xs[j]? = some x → ∀ ν ν' : Nat → Value, (∀ k ∈ x.dep, ν k = ν' k) → (av ν)[i + j]? = (av ν')[i + j]?
  | i, x :: xs, h, 0, x', h2 => by simp at h2; subst h2; exact h.1
  | i, x :: xs, h, j + 1, x', h2 => by
    have := depAll_get h.2 j x' (by simpa using h2)
    rwa [show i + 1 + j = i + (j + 1) by omega] at this
  | _, [], _, _, _, h => by simp at h
theorem hdepAll_get : ∀ {hd : List (Nat × List Nat)}, HdepAll hv hd → ∀ p ∈ hd, ∀ ν ν' : Nat → Value, (∀ k ∈ p.2, ν k = ν' k) → getk p.1 (hv ν) = getk p.1 (hv ν')
  | q :: r, h, p, hp => by
    rcases List.mem_cons.1 hp with rfl | hp
    · exact h.1
    · exact hdepAll_get h.2 p hp
  | [], _, p, hp => by cases hp

theorem filter_ne_lt {i : Nat} : ∀ {L : List Nat}, i ∈ L → (L.filter fun j => j != i).length < L.length
  | b :: L, hm => by
    simp only [List.filter_cons]
    by_cases hb : b = i
    · subst hb
      simp
      exact Nat.lt_succ_of_le (List.length_filter_le _ _)
    · have : (b != i) = true := by simpa using hb
      rw [if_pos this]
      simp only [List.length_cons]
      exact Nat.succ_lt_succ (filter_ne_lt ((List.mem_cons.1 hm).resolve_left (fun h => hb h.symm)))
  | [], hm => by cases hm

/-- Closed: with each operation all before it. -/
def Cls (l : List Oper) (D : Nat → Bool) : Prop := ∀ i o, l[i]? = some o → D i = true → ∀ e ∈ o.after, Region.binds .any e = true → D e.on = true

theorem cls_bef {D : Nat → Bool} (hb : befB l los = true) (hl : lowB l = true) (hc : Cls l D) : ∀ (i : Nat) x, los[i]? = some x → D i = true → ∀ q ∈ x.bef, D q = true := by
  intro i
  induction i using Nat.strongRecOn with
  | _ i ih =>
    intro x hx hD q hq
    unfold befB at hb
    have h1 := List.all_eq_true.1 hb (x, i) (mem_zip.2 hx)
    simp only at h1
    split at h1
    · rename_i o ho
      have h2 := List.all_eq_true.1 h1 q hq
      obtain ⟨e, he, h3⟩ := Array.any_eq_true'.1 h2
      simp only [Bool.and_eq_true, Bool.or_eq_true, beq_iff_eq] at h3
      have hDe := hc i o ho hD e he h3.1
      rcases h3.2 with h4 | h4
      · rw [← h4]; exact hDe
      · cases hle : los[e.on]? with
        | none => rw [hle] at h4; simp at h4
        | some y =>
          rw [hle] at h4
          have hlow := List.all_eq_true.1 hl (o, i) (mem_zip.2 ho)
          have hlow2 := Array.all_eq_true'.1 hlow e he
          simp only [h3.1, Bool.not_true, Bool.false_or, decide_eq_true_eq] at hlow2
          exact ih e.on hlow2 y hle hDe q (by simpa using h4)
    · cases h1

theorem any_step {hd : List (Nat × List Nat)} (hchk : chkB l los ds hd = true) (hloc : LocalAll l ds nt s0 av hv P c 0 l los) (hdep : DepAll av 0 los) (hhd : HdepAll hv hd) (hkeys : ∀ ν k, k ∈ keys (hv ν) → k ∈ keys hd)
    {D : Nat → Bool} {ν : Nat → Value} {i : Nat} {o : Oper} (hc : Cls l D) (ho : l[i]? = some o) (hDi : D i = false) (hpre : ∀ e ∈ o.after, Region.binds .any e = true → D e.on = true) :
    StepOk P c l o (Sig los ds nt s0 av hv D ν) fun σ' => ∃ ν', Le σ' (Sig los ds nt s0 av hv (fun j => D j || j == i) ν') := by
  simp only [chkB, Bool.and_eq_true, beq_iff_eq] at hchk
  obtain ⟨⟨⟨⟨⟨⟨⟨⟨h1, h2⟩, h3⟩, h4⟩, h5⟩, h6⟩, h7⟩, h8⟩, h9⟩ := hchk
  have hil : i < l.length := by
    rcases Nat.lt_or_ge i l.length with h | h
    · exact h
    · rw [List.getElem?_eq_none h] at ho; cases ho
  obtain ⟨x, hx⟩ : ∃ x, los[i]? = some x := ⟨los[i]'(by omega), List.getElem?_eq_getElem (by omega)⟩
  have hL := localAll_get hloc i o x ho hx
  simp only [Nat.zero_add] at hL
  -- those before it are done
  have hbef : ∀ q ∈ x.bef, D q = true := by
    intro q hq
    have hb1 := List.all_eq_true.1 h3 (x, i) (mem_zip.2 hx)
    simp only [ho] at hb1
    have hb2 := List.all_eq_true.1 hb1 q hq
    obtain ⟨e, he, hb3⟩ := Array.any_eq_true'.1 hb2
    simp only [Bool.and_eq_true, Bool.or_eq_true, beq_iff_eq] at hb3
    have hDe := hpre e he hb3.1
    rcases hb3.2 with h' | h'
    · rw [← h']; exact hDe
    · cases hle : los[e.on]? with
      | none => rw [hle] at h'; simp at h'
      | some y => rw [hle] at h'; exact cls_bef h3 h4 hc e.on y hle hDe q (by simpa using h')
  have hdst : ∀ j, ds[j]? = (l[j]?).map (fun o : Oper => o.dst) := fun j => by rw [← h1, List.getElem?_map]
  have huniq : ∀ (j j' : Nat) (t : Tmp), ds[j]? = some (some t) → ds[j']? = some (some t) → j = j' := by
    intro j j' t hj hj'
    have := List.all_eq_true.1 (List.all_eq_true.1 h6 (some t, j) (mem_zip.2 hj)) (some t, j') (mem_zip.2 hj')
    simpa using this
  have hks : ∀ k ∈ x.ks, ∀ j y, los[j]? = some y → (k ∈ y.add → j ∈ x.bef) ∧ (k ∈ y.rem → j = i ∨ i ∈ y.bef) := by
    intro k hk j y hy
    have := List.all_eq_true.1 (List.all_eq_true.1 (List.all_eq_true.1 h7 (x, i) (mem_zip.2 hx)) k hk) (y, j) (mem_zip.2 hy)
    simp only [Bool.and_eq_true, Bool.or_eq_true, Bool.not_eq_true', List.contains_eq_mem, decide_eq_false_iff_not, beq_iff_eq, decide_eq_true_eq] at this
    exact ⟨fun h => this.1.resolve_left (fun h' => h' h), fun h => by
      rcases this.2 with (h' | h') | h'
      · exact absurd h h'
      · exact .inl h'
      · exact .inr h'⟩
  have hnlen : ∀ ν : Nat → Value, ∀ t v, getk t (dsl (fun _ => true) 0 ds (av ν) ++ s0) = some v → True := fun _ _ _ _ => trivial
  intro F N a w hr next Q hn
  refine hL (Sig los ds nt s0 av hv D ν) ν rfl ?_ ?_ ?_ F N a w hr next Q ?_
  · -- slots
    intro t ht
    have ht' := List.all_eq_true.1 (List.all_eq_true.1 h5 (x, i) (mem_zip.2 hx)) t ht
    simp only [Bool.or_eq_true] at ht'
    simp only [Sig]
    rcases ht' with ht' | ht'
    · obtain ⟨q, hq, hq2⟩ := List.any_eq_true.1 ht'
      have hq2 : ds[q]? = some (some t) := by simpa using hq2
      cases hv' : (av ν)[q]? with
      | some v =>
        rw [getk_left (dsl_of (D := D) (i := 0) (j := q) (v := v) (by simpa using hbef q hq) hq2 hv' (fun j' hj' => huniq j' q t hj' hq2)), getk_left (dsl_of (D := fun j => x.bef.contains j) (i := 0) (j := q) (v := v) (by simpa using hq) hq2 hv' (fun j' hj' => huniq j' q t hj' hq2))]
      | none =>
        have no : ∀ D' : Nat → Bool, t ∉ keys (dsl D' 0 ds (av ν)) := by
          intro D' hk
          obtain ⟨v, hv2⟩ := mem_keys_get hk
          obtain ⟨j, _, hj1, hj2⟩ := dsl_get hv2
          have := huniq j q t hj1 hq2
          subst this
          rw [hv'] at hj2; cases hj2
        rw [getk_right (no D), getk_right (no _)]
    · have both : ∀ j, ds[j]? = some (some t) → D j = false ∧ x.bef.contains j = false := by
        intro j hj
        have h' := List.all_eq_true.1 ht' (some t, j) (mem_zip.2 hj)
        simp only [bne_self_eq_false, Bool.false_or, Bool.and_eq_true, Bool.not_eq_true'] at h'
        refine ⟨?_, h'.2⟩
        cases hDj : D j with
        | false => rfl
        | true =>
          cases hy : los[j]? with
          | none => rw [hy] at h'; simp at h'
          | some y =>
            rw [hy] at h'
            rw [cls_bef h3 h4 hc j y hy hDj i (by simpa using h'.1)] at hDi; cases hDi
      have no : ∀ D' : Nat → Bool, (∀ j, ds[j]? = some (some t) → D' j = false) → t ∉ keys (dsl D' 0 ds (av ν)) := by
        intro D' hf hk
        obtain ⟨v, hv2⟩ := mem_keys_get hk
        obtain ⟨j, hj0, hj1, _⟩ := dsl_get hv2
        rw [Nat.zero_add] at hj0
        rw [hf j hj1] at hj0; cases hj0
      rw [getk_right (no D fun j hj => (both j hj).1), getk_right (no _ fun j hj => (both j hj).2)]
  · -- what is owned
    intro k hk
    simp only [Sig]
    have hlv : lv los D k = true := lv_iff.2 fun j y hy => by
      obtain ⟨h', h''⟩ := hks k hk j y hy
      refine ⟨fun h => hbef j (h' h), fun h => ?_⟩
      rcases h'' h with rfl | h3'
      · exact hDi
      · cases hDj : D j with
        | false => rfl
        | true => rw [cls_bef h3 h4 hc j y hy hDj i h3'] at hDi; cases hDi
    rw [getk_filter, if_pos hlv]
  · -- what is made is new
    intro k hk
    unfold has
    rw [List.contains_eq_mem]
    simp only [decide_eq_false_iff_not]
    intro hkk
    obtain ⟨y, hy⟩ := mem_keys_get hkk
    simp only [Sig] at hy
    rw [getk_filter] at hy
    split at hy
    · rename_i hlv
      have := (lv_iff.1 hlv i x hx).1 hk
      rw [hDi] at this; cases this
    · cases hy
  · rintro σ' F' N' a' w' ⟨ν', v, h', hν, hvi, hk', hh', hle⟩ hr'
    refine hn _ F' N' a' w' ⟨ν', hle.trans ?_⟩ hr'
    -- what does not hang on what was made is the same
    have hsameS : ∀ j y, los[j]? = some y → D j = true → (av ν)[j]? = (av ν')[j]? := by
      intro j y hy hDj
      have := depAll_get hdep j y hy ν ν' (fun k hk => by
        symm
        refine hν k (fun hka => ?_)
        have hd1 := List.all_eq_true.1 (List.all_eq_true.1 (List.all_eq_true.1 h8 (y, j) (mem_zip.2 hy)) k hk) (x, i) (mem_zip.2 hx)
        simp only [Bool.or_eq_true, Bool.not_eq_true', List.contains_eq_mem, decide_eq_false_iff_not, beq_iff_eq, decide_eq_true_eq] at hd1
        rcases hd1 with (h'' | h'') | h''
        · exact h'' hka
        · subst h''; rw [hDi] at hDj; cases hDj
        · rw [cls_bef h3 h4 hc j y hy hDj i h''] at hDi; cases hDi)
      simpa using this
    have hsameH : ∀ k, k ∉ x.add → (∀ j y, los[j]? = some y → k ∈ y.add → D j = true) → getk k (hv ν) = getk k (hv ν') := by
      intro k hka hdone
      by_cases hkh : k ∈ keys hd
      · obtain ⟨dl, hdl⟩ := mem_keys_get hkh
        have hm := get_mem hdl
        have := hdepAll_get hhd (k, dl) hm ν ν' (fun k' hk'' => by
          symm
          refine hν k' (fun hka' => ?_)
          have hd1 := List.all_eq_true.1 (List.all_eq_true.1 (List.all_eq_true.1 h9 (k, dl) hm) k' hk'') (x, i) (mem_zip.2 hx)
          simp only [Bool.or_eq_true, Bool.not_eq_true', List.contains_eq_mem, decide_eq_false_iff_not] at hd1
          rcases hd1 with h'' | h''
          · exact h'' hka'
          · obtain ⟨⟨y, j⟩, hy, hj⟩ := List.any_eq_true.1 h''
            simp only [Bool.and_eq_true, Bool.or_eq_true, beq_iff_eq, List.contains_eq_mem, decide_eq_true_eq] at hj
            have hyj := mem_zip.1 hy
            have hDj := hdone j y hyj hj.1
            rcases hj.2 with rfl | hj2
            · rw [hDi] at hDj; cases hDj
            · rw [cls_bef h3 h4 hc j y hyj hDj i hj2] at hDi; cases hDi)
        exact this
      · have n1 : ∀ ν'' : Nat → Value, getk k (hv ν'') = none := fun ν'' => by
          cases hg : getk k (hv ν'') with
          | none => rfl
          | some y => exact absurd (hkeys ν'' k (get_mem_keys hg)) hkh
        rw [n1, n1]
    have hdi : ds[i]? = some o.dst := by rw [hdst, ho]; rfl
    refine le_get (by rw [St.put_nt]; rfl) (fun t a ha => ?_) (fun k y hy => ?_)
    · -- slots
      have hcl : ∀ t, o.dst = some t → getk t (St.put ⟨(Sig los ds nt s0 av hv D ν).nt, (Sig los ds nt s0 av hv D ν).slots, h' ++ minus (Sig los ds nt s0 av hv D ν).heap x.rem⟩ o.dst v).slots = some v := fun t ht => by
        rw [ht]; simp [St.put, getk]
      have hno : ∀ t, o.dst ≠ some t → getk t (St.put ⟨(Sig los ds nt s0 av hv D ν).nt, (Sig los ds nt s0 av hv D ν).slots, h' ++ minus (Sig los ds nt s0 av hv D ν).heap x.rem⟩ o.dst v).slots = getk t (dsl D 0 ds (av ν) ++ s0) := fun t ht => by
        cases hod : o.dst with
        | none => rfl
        | some d => rw [hod] at ht; simp only [St.put, getk]; rw [if_neg (fun e => ht (by rw [e]))]; rfl
      simp only [Sig] at ha
      rcases get_append ha with ha | ⟨hnk, ha⟩
      · obtain ⟨j, hj1, hj2, hj3⟩ := dsl_get ha
        simp only [Nat.zero_add, Bool.or_eq_true, beq_iff_eq] at hj1
        by_cases hji : j = i
        · subst hji
          rw [hdi] at hj2
          have hot : o.dst = some t := by simpa using hj2
          rw [hcl t hot]
          rw [hvi (by rw [hot]; simp)] at hj3
          exact hj3
        · have hDj : D j = true := hj1.resolve_right hji
          have hot : o.dst ≠ some t := fun e => hji (huniq j i t hj2 (by rw [hdi, e]))
          rw [hno t hot]
          have hjl : j < los.length := by
            rcases Nat.lt_or_ge j los.length with h | h
            · exact h
            · exfalso
              have : ds[j]? = none := by rw [hdst, List.getElem?_eq_none (by omega)]; rfl
              rw [this] at hj2; cases hj2
          have hsm := hsameS j _ (List.getElem?_eq_getElem hjl) hDj
          exact getk_left (dsl_of (by simpa using hDj) hj2 (by rw [hsm]; exact hj3) (fun j' hj' => huniq j' j t hj' hj2))
      · have hot : o.dst ≠ some t := fun e => hnk (get_mem_keys (dsl_of (D := fun j => D j || j == i) (i := 0) (j := i) (v := v) (by simp) (by rw [hdi, e]) (hvi (by rw [e]; simp)) (fun j' hj' => huniq j' i t hj' (by rw [hdi, e]))))
        rw [hno t hot, getk_right]
        · exact ha
        · intro hk
          obtain ⟨u, hu⟩ := mem_keys_get hk
          obtain ⟨j, hj1, hj2, hj3⟩ := dsl_get hu
          simp only [Nat.zero_add] at hj1
          have hjl : j < los.length := by
            rcases Nat.lt_or_ge j los.length with h | h
            · exact h
            · exfalso
              have : ds[j]? = none := by rw [hdst, List.getElem?_eq_none (by omega)]; rfl
              rw [this] at hj2; cases hj2
          have hsm := hsameS j _ (List.getElem?_eq_getElem hjl) hj1
          exact hnk (get_mem_keys (dsl_of (D := fun j => D j || j == i) (i := 0) (j := j) (v := u) (by simp [hj1]) hj2 (by rw [← hsm]; exact hj3) (fun j' hj' => huniq j' j t hj' hj2)))
    · -- what is owned
      rw [St.put_heap]
      simp only [Sig] at hy ⊢
      rw [getk_filter] at hy
      split at hy
      · rename_i hlv
        have hlv' := lv_iff.1 hlv
        by_cases hka : k ∈ x.add
        · have hkh : k ∈ keys h' := by rw [hk']; exact hka
          obtain ⟨y2, hy2⟩ := mem_keys_get hkh
          have := hh' k y2 hy2
          rw [hy] at this
          cases this
          exact getk_left hy2
        · have hnr : k ∉ x.rem := fun h => by have := (hlv' i x hx).2 h; simp at this
          have hlvD : lv los D k = true := lv_iff.2 fun j z hz => by
            obtain ⟨q1, q2⟩ := hlv' j z hz
            refine ⟨fun h => ?_, fun h => ?_⟩
            · have := q1 h
              simp only [Bool.or_eq_true, beq_iff_eq] at this
              rcases this with h'' | h''
              · exact h''
              · subst h''; rw [hx] at hz; cases hz; exact absurd h hka
            · have := q2 h
              simp only [Bool.or_eq_false_iff] at this
              exact this.1
          have hsm := hsameH k hka (fun j z hz h => (lv_iff.1 hlvD j z hz).1 h)
          rw [getk_right (by rw [hk']; exact hka)]
          exact getk_minus hnr (by rw [getk_filter, if_pos hlvD, hsm]; exact hy)
      · cases hy

theorem any_run {hd : List (Nat × List Nat)} (hchk : chkB l los ds hd = true) (hloc : LocalAll l ds nt s0 av hv P c 0 l los) (hdep : DepAll av 0 los) (hhd : HdepAll hv hd) (hkeys : ∀ ν k, k ∈ keys (hv ν) → k ∈ keys hd) {Q : Exit → Act → World → Prop}
    (hK : ∀ ν F N a w, Rel c F N (Sig los ds nt s0 av hv (fun _ => true) ν) a w → Q .normal a w) : ∀ (n : Nat) (listed : Array Bool) (ν : Nat → Value) F N a w, listed.size = l.length → Cls l (fun i => listed.getD i false) →
      ((List.range l.length).filter fun i => !listed.getD i false).length ≤ n → Rel c F N (Sig los ds nt s0 av hv (fun i => listed.getD i false) ν) a w → wpAny P .any l.toArray Q n listed a w := by
  have hlos : los.length = l.length := by
    simp only [chkB, Bool.and_eq_true, beq_iff_eq] at hchk
    exact hchk.1.1.1.1.1.1.1.2
  have hdsl : ds.length = l.length := by
    simp only [chkB, Bool.and_eq_true, beq_iff_eq] at hchk
    rw [← hchk.1.1.1.1.1.1.1.1]; simp
  have hlow : lowB l = true := by
    simp only [chkB, Bool.and_eq_true, beq_iff_eq] at hchk
    exact hchk.1.1.1.1.1.2
  have hend : ∀ (listed : Array Bool) (ν : Nat → Value) F N a w, listed.size = l.length → Region.ready .any l.toArray listed = [] → Rel c F N (Sig los ds nt s0 av hv (fun i => listed.getD i false) ν) a w → Q .normal a w := by
    intro listed ν F N a w hsz hready hr
    have hall : ∀ i, i < l.length → listed.getD i false = true := by
      intro i
      induction i using Nat.strongRecOn with
      | _ i ih =>
        intro hi
        cases hDi : listed.getD i false with
        | true => rfl
        | false =>
          have : i ∈ Region.ready .any l.toArray listed := mem_ready.2 ⟨by
            have : listed.getD i true = listed.getD i false := by simp [hsz, hi]
            rw [this]; exact hDi, l[i], by simp [hi], fun e he hb => ?_⟩
          · rw [hready] at this; cases this
          · have h1 := List.all_eq_true.1 hlow (l[i], i) (mem_zip.2 (List.getElem?_eq_getElem hi))
            have h2 := Array.all_eq_true'.1 h1 e he
            simp only [hb, Bool.not_true, Bool.false_or, decide_eq_true_eq] at h2
            exact ih e.on h2 (by omega)
    have e : Sig los ds nt s0 av hv (fun i => listed.getD i false) ν = Sig los ds nt s0 av hv (fun _ => true) ν := by
      unfold Sig
      have e1 : dsl (fun i => listed.getD i false) 0 ds (av ν) = dsl (fun _ => true) 0 ds (av ν) := dsl_congr (fun j hj => by simp only [Nat.zero_add]; exact hall j (by omega))
      have e2 : (fun p : Nat × (Value × AV) => lv los (fun i => listed.getD i false) p.1) = fun p => lv los (fun _ => true) p.1 := by
        funext p
        rw [Bool.eq_iff_iff, lv_iff, lv_iff]
        constructor <;> intro h i x hx
        · have hi : i < l.length := by
            rw [← hlos]
            rcases Nat.lt_or_ge i los.length with h' | h'
            · exact h'
            · rw [List.getElem?_eq_none h'] at hx; cases hx
          obtain ⟨q1, q2⟩ := h i x hx
          exact ⟨fun _ => rfl, fun hk => by have := q2 hk; rw [hall i hi] at this; cases this⟩
        · have hi : i < l.length := by
            rw [← hlos]
            rcases Nat.lt_or_ge i los.length with h' | h'
            · exact h'
            · rw [List.getElem?_eq_none h'] at hx; cases hx
          obtain ⟨q1, q2⟩ := h i x hx
          exact ⟨fun _ => hall i hi, fun hk => by have := q2 hk; cases this⟩
      rw [e1, e2]
    rw [e] at hr
    exact hK ν F N a w hr
  intro n
  induction n with
  | zero =>
    intro listed ν F N a w hsz hc hcnt hr
    have hready : Region.ready .any l.toArray listed = [] := by
      rw [List.eq_nil_iff_forall_not_mem]
      intro i hi
      obtain ⟨h1, o, h2, _⟩ := mem_ready.1 hi
      have hil : i < l.length := by
        rcases Nat.lt_or_ge i l.length with h | h
        · exact h
        · simp [List.getElem?_eq_none h] at h2
      have hnil : (List.range l.length).filter (fun i => !listed.getD i false) = [] := List.eq_nil_of_length_eq_zero (by omega)
      have hm : i ∈ (List.range l.length).filter (fun i => !listed.getD i false) := List.mem_filter.2 ⟨List.mem_range.2 hil, by
        have : listed.getD i true = listed.getD i false := by simp [hsz, hil]
        rw [← this, h1]; rfl⟩
      rw [hnil] at hm; cases hm
    exact ⟨hready, hend listed ν F N a w hsz hready hr⟩
  | succ n ih =>
    intro listed ν F N a w hsz hc hcnt hr
    refine ⟨fun hready => hend listed ν F N a w hsz hready hr, fun i hi => ?_⟩
    obtain ⟨h1, o, h2, h3⟩ := mem_ready.1 hi
    have hil : i < l.length := by
      rcases Nat.lt_or_ge i l.length with h | h
      · exact h
      · simp [List.getElem?_eq_none h] at h2
    have ho : l[i]? = some o := by simpa using h2
    have hDi : listed.getD i false = false := by
      have : listed.getD i true = listed.getD i false := by simp [hsz, hil]
      rw [← this]; exact h1
    have hD' : (fun j => (listed.setIfInBounds i true).getD j false) = fun j => listed.getD j false || j == i := by
      funext j
      by_cases hj : i = j
      · subst hj
        simp [Array.getElem?_setIfInBounds, hsz, hil]
      · rw [getD_set_ne false hj]
        simp [show (j == i) = false by simpa using fun h => hj h.symm]
    have hstep := any_step hchk hloc hdep hhd hkeys (D := fun i => listed.getD i false) (ν := ν) hc ho hDi h3
    have hrun := hstep F N a w hr (wpAny P .any l.toArray Q n (listed.setIfInBounds i true)) Q (by
      rintro σ' F' N' a' w' ⟨ν', hle⟩ hr'
      obtain ⟨F2, N2, hr2⟩ := hle c F' N' a' w' hr'
      refine ih (listed.setIfInBounds i true) ν' F2 N2 a' w' (by simpa using hsz) ?_ ?_ (by rw [hD']; exact hr2)
      · rw [hD']
        intro j oj hj hDj e he hb
        simp only [Bool.or_eq_true, beq_iff_eq] at hDj ⊢
        rcases hDj with h | h
        · exact .inl (hc j oj hj h e he hb)
        · subst h
          rw [ho] at hj; cases hj
          exact .inl (h3 e he hb)
      · have hlt : ((List.range l.length).filter fun j => !(listed.setIfInBounds i true).getD j false).length < ((List.range l.length).filter fun j => !listed.getD j false).length := by
          have e1 : (fun j => !(listed.setIfInBounds i true).getD j false) = fun j => (!listed.getD j false) && (j != i) := by
            funext j
            have := congrFun hD' j
            rw [this]
            cases listed.getD j false <;> simp [bne]
          rw [e1]
          have e2 : (List.range l.length).filter (fun j => (!listed.getD j false) && (j != i)) = ((List.range l.length).filter (fun j => !listed.getD j false)).filter (fun j => j != i) := by
            rw [List.filter_filter]
            congr 1
            funext j
            rw [Bool.and_comm]
          rw [e2]
          have hm : i ∈ (List.range l.length).filter (fun j => !listed.getD j false) := List.mem_filter.2 ⟨List.mem_range.2 hil, by rw [hDi]; rfl⟩
          exact filter_ne_lt hm
        exact Nat.le_of_lt_succ (Nat.lt_of_lt_of_le hlt hcnt))
    unfold wpOp
    rw [h2]
    simp only
    split at hrun
    · rename_i hw; rw [if_pos hw]; exact .inl hrun
    · rename_i hw; rw [if_neg hw]; exact hrun

theorem good_any (hm : P.follows .mixedOrders = true) {id : Nat} {σ : St} {Q : Exit → St → Prop} (los : List LO) (ds : List (Option Tmp)) (nt : Nat) (s0 : List (Nat × AV)) (av : (Nat → Value) → List AV) (hv : (Nat → Value) → HP) (hd : List (Nat × List Nat)) (ν0 : Nat → Value)
    (h0 : Le σ (Sig los ds nt s0 av hv (fun _ => false) ν0)) (hchk : chkB l los ds hd = true) (hloc : LocalAll l ds nt s0 av hv P c 0 l los) (hdep : DepAll av 0 los) (hhd : HdepAll hv hd) (hkeys : ∀ ν k, k ∈ keys (hv ν) → k ∈ keys hd)
    (σf : (Nat → Value) → St) (hf : ∀ ν, Le (Sig los ds nt s0 av hv (fun _ => true) ν) (σf ν)) (hK : ∀ ν, Q .normal (σf ν)) : Good P c (.region id l.toArray true) σ Q := by
  intro F N a w hr
  have hU0 : Unch (fun _ => False) w { w with drawn := w.drawn + 1 } := ⟨rfl, rfl, rfl, Nat.le_refl _, fun _ _ _ => rfl⟩
  have hr0 := hr.step hU0 (N' := N) (fun _ _ h => h) (fun _ h => h)
  obtain ⟨F1, N1, hr1⟩ := h0 c F N a _ hr0
  refine wp_region_any hm ?_
  have hfal : (fun i => (Array.replicate l.length false).getD i false) = fun _ => false := by
    funext i
    by_cases hi : i < l.length <;> simp [Array.getElem?_replicate, hi]
  have := any_run (Q := fun e a' w' => ∃ σ' F' N', Q e σ' ∧ Rel c F' N' σ' a' w') hchk hloc hdep hhd hkeys (fun ν F N a w h => let ⟨F', N', h'⟩ := hf ν c F N a w h; ⟨_, F', N', hK ν, h'⟩) l.length (Array.replicate l.length false) ν0 F1 N1 a _ (by simp) (by
    rw [hfal]; intro i o _ h; cases h) (by exact Nat.le_trans (List.length_filter_le _ _) (by simp)) (by rw [hfal]; exact hr1)
  simpa using this
end

def wsubS (s : List (Nat × AV)) : List (Nat × AV) → Prop
  | [] => True
  | (k, a) :: r => (∃ b, getk k s = some b ∧ Wk [] a b ∧ Wk [] b a) ∧ wsubS s r
def wsubH (s : HP) : HP → Prop
  | [] => True
  | (k, a) :: r => getk k s = some a ∧ wsubH s r
theorem wsubS_get {s : List (Nat × AV)} : ∀ {l : List (Nat × AV)}, wsubS s l → ∀ k a, getk k l = some a → ∃ b, getk k s = some b ∧ Wk [] a b ∧ Wk [] b a
  | [], _, k, a, h => by cases h
  | (i, x) :: l, h, k, a, hk => by
    simp only [getk] at hk
    split at hk
    · rename_i e; subst e; cases hk; exact h.1
    · exact wsubS_get h.2 k a hk
theorem wsubH_get {s : HP} : ∀ {l : HP}, wsubH s l → ∀ k a, getk k l = some a → getk k s = some a
  | [], _, k, a, h => by cases h
  | (i, x) :: l, h, k, a, hk => by
    simp only [getk] at hk
    split at hk
    · rename_i e; subst e; cases hk; exact h.1
    · exact wsubH_get h.2 k a hk
theorem get_app {α : Type} {k : Nat} {l m : List (Nat × α)} {x : α} (h : getk k (l ++ m) = some x) : getk k l = some x ∨ (k ∉ keys l ∧ getk k m = some x) := by
  by_cases hk : k ∈ keys l
  · obtain ⟨y, hy⟩ := mem_keys_get hk
    rw [getk_left hy] at h; cases h; exact .inl hy
  · rw [getk_right hk] at h; exact .inr ⟨hk, h⟩
theorem has_minus {k : Nat} {h : HP} {rs : List Nat} (hk : has k h = false) : has k (minus h rs) = false := by
  unfold has at hk ⊢
  rw [List.contains_eq_mem] at hk ⊢
  simp only [decide_eq_false_iff_not] at hk ⊢
  exact fun h' => hk (mem_minus h').2
theorem exists_fresh (h : HP) : ∃ k, has k h = false := by
  refine ⟨(keys h).foldr (fun a b => max (a + 1) b) 0, ?_⟩
  unfold has
  rw [List.contains_eq_mem]
  simp only [decide_eq_false_iff_not]
  have : ∀ l : List Nat, ∀ x ∈ l, x < l.foldr (fun a b => max (a + 1) b) 0 := by
    intro l
    induction l with
    | nil => intro x hx; cases hx
    | cons a l ih =>
      intro x hx
      simp only [List.foldr_cons]
      rcases List.mem_cons.1 hx with rfl | hx
      · omega
      · have := ih x hx; omega
  exact fun hk => Nat.lt_irrefl _ (this _ _ hk)

mutual
theorem Wk.more {Z : List (Value × AV)} : ∀ {a b : AV}, Wk [] a b → Wk Z a b
  | _, _, .refl av => .refl av
  | _, _, .hd x y v => .hd x y v
  | _, _, .nilhd x => .nilhd x
  | _, _, .hdnil x => .hdnil x
  | _, _, .nilsl => .nilsl
  | _, _, .onehd x v => .onehd x v
  | _, _, .onenil => .onenil
  | _, _, .sptnil => .sptnil
  | _, _, .onesl => .onesl
  | _, _, .ptr x y b off => .ptr x y b off
  | _, _, .rptr x y v sz i off => .rptr x y v sz i off
  | _, _, .adr0 b => .adr0 b
  | _, _, .adr x b => .adr x b
  | _, _, .frz x v av h => by cases h
  | _, _, .frzp x b off cs cs' h hd ho => by cases h
  | _, _, .agg h => .agg h.more
  | _, _, .tup h => .tup h.more
  | _, _, .ifc h => .ifc h.more
  | _, _, .clo h => .clo h.more
  | _, _, .optr h => .optr h.more
theorem WkL.more {Z : List (Value × AV)} : ∀ {a b : List AV}, WkL [] a b → WkL Z a b
  | _, _, .nil => .nil
  | _, _, .cons h t => .cons h.more t.more
end

/-- Less is said: told key for key. -/
theorem le_sem (ys : List Nat) (Z : List (Value × AV)) (m : Nat → Nat) {σ σ1 : St} (hnt : σ.nt = σ1.nt) (hz : wfrz σ.heap ys Z) (hs : ∀ k av1, getk k σ1.slots = some av1 → ∃ av, getk k σ.slots = some av ∧ Wk Z av1 av)
    (hh : ∀ k v o1, getk k σ1.heap = some (v, o1) → ∃ o, getk (m k) σ.heap = some (v, o) ∧ Wk Z o1 o) (hi : ∀ x y, x ∈ keys σ1.heap → y ∈ keys σ1.heap → m x = m y → x = y) (hy : ∀ y ∈ ys, ∀ x ∈ keys σ1.heap, m x ≠ y) : Le σ σ1 := by
  intro c F N a w hr
  let N' : Nat → Prop := fun k => N k ∧ ¬ ∃ y, y ∈ ys ∧ y ∈ keys σ.heap ∧ F y k
  let F' : Nat → Nat → Prop := fun x => F (m x)
  have hZ : ∀ v av, (v, av) ∈ Z → RelV N' w av v := by
    intro v av hm
    obtain ⟨y, o, h1, h2, h3⟩ := wfrz_mem hz v av hm
    exact (hr.heap.own y v o h2).freeze h3 (fun k hk => ⟨hk.1, fun hF => hk.2 ⟨y, h1, get_mem_keys h2, hF⟩⟩)
  have hNN : ∀ i, i < w.heap.size → N' i → N i := fun _ _ h => h.1
  have hk : ∀ x, x ∈ keys σ1.heap → m x ∈ keys σ.heap := fun x hx => by
    obtain ⟨⟨v, o1⟩, ho⟩ := mem_keys_get hx
    obtain ⟨o, h1, _⟩ := hh x v o1 ho
    exact get_mem_keys h1
  refine ⟨F', N', hr.defers, hr.size.trans hnt, fun k av1 hk => ?_, ⟨fun x v o1 hx => ?_, fun x hx b hb => ?_, fun x x' hx hx' hne b hb hb' => ?_, fun x v o1 hx => ?_⟩, fun x hx b hb => ?_, fun k hk h0 => ?_, hr.unch⟩
  · obtain ⟨av, h1, h2⟩ := hs k av1 hk
    obtain ⟨v, h3, h4⟩ := hr.slots k av h1
    exact ⟨v, h3, h2.rel hZ (h4.mono (.refl N w) hNN)⟩
  · obtain ⟨o, h3, h4⟩ := hh x v o1 hx
    exact h4.own hZ ((hr.heap.own _ v o h3).mono (.refl N w) hNN (fun _ _ _ => rfl))
  · obtain ⟨h5, h6⟩ := hr.heap.foot _ (hk x hx) b hb
    refine ⟨⟨h5, ?_⟩, h6⟩
    rintro ⟨y', h7, h8, h9⟩
    exact hr.heap.disj _ y' (hk x hx) h8 (hy y' h7 x hx) b hb h9
  · exact hr.heap.disj _ _ (hk x hx) (hk x' hx') (fun e => hne (hi x x' hx hx' e)) b hb hb'
  · obtain ⟨o, h3, h4⟩ := hh x v o1 hx
    exact hr.heap.one _ v o h3
  · exact hr.may _ (hk x hx) b hb
  · rcases hr.n0 k hk h0 with h1 | h1
    · by_cases h2 : ∃ y, y ∈ ys ∧ y ∈ keys σ.heap ∧ F y k
      · obtain ⟨y, _, h3, h4⟩ := h2
        rcases hr.may y h3 k h4 with h5 | h5
        · exact .inr h5
        · omega
      · exact .inl ⟨h1, h2⟩
    · exact .inr h1

section
variable {P : Program} {c : Cx} {l : List Oper} {los : List LO} {ds : List (Option Tmp)} {nt : Nat} {s0 : List (Nat × AV)} {av : (Nat → Value) → List AV} {hv : (Nat → Value) → HP} {i : Nat} {o : Oper} {x : LO}

/-- What an operation leaves, told by what it needs. -/
def LPost (av : (Nat → Value) → List AV) (hv : (Nat → Value) → HP) (i : Nat) (o : Oper) (x : LO) (nt : Nat) (ν : Nat → Value) (S : List (Nat × AV)) (H : HP) (σ' : St) : Prop :=
  ∃ ν' v h', (∀ k, k ∉ x.add → ν' k = ν k) ∧ (o.dst ≠ none → (av ν')[i]? = some v) ∧ keys h' = x.add ∧ (∀ k y, getk k h' = some y → getk k (hv ν') = some y) ∧ Le σ' (St.put ⟨nt, S, h' ++ minus H x.rem⟩ o.dst v)

theorem local_mk (sl : (Nat → Value) → List (Nat × AV)) (hp : (Nat → Value) → HP) (k1 : ∀ ν, keys (sl ν) = x.ts) (h1 : ∀ ν, wsubS (dsl (fun j => x.bef.contains j) 0 ds (av ν) ++ s0) (sl ν)) (k2 : ∀ ν, keys (hp ν) = x.ks) (h2 : ∀ ν, wsubH (hv ν) (hp ν))
    (hst : ∀ ν S H, (∀ t a, getk t S = some a → ∃ b, getk t (sl ν ++ S) = some b ∧ Wk [] a b) → (∀ k ∈ x.add, has k (hp ν ++ H) = false) → StepOk P c l o ⟨nt, sl ν ++ S, hp ν ++ H⟩ (LPost av hv i o x nt ν S (hp ν ++ H))) : Local l ds nt s0 av hv P c i o x := by
  intro σ ν hnt hts hks hadd F N a w hr next Q hn
  have hsl : ∀ t a, getk t (sl ν) = some a → ∃ b, getk t σ.slots = some b ∧ Wk [] a b ∧ Wk [] b a := fun t a h => by
    rw [hts t (by rw [← k1 ν]; exact get_mem_keys h)]
    exact wsubS_get (h1 ν) t a h
  have hhp : ∀ k a, getk k (hp ν) = some a → getk k σ.heap = some a := fun k a h => by
    rw [hks k (by rw [← k2 ν]; exact get_mem_keys h)]
    exact wsubH_get (h2 ν) k a h
  have hS : ∀ t a, getk t σ.slots = some a → ∃ b, getk t (sl ν ++ σ.slots) = some b ∧ Wk [] a b := fun t a h => by
    by_cases hk : t ∈ keys (sl ν)
    · obtain ⟨y, hy⟩ := mem_keys_get hk
      rw [getk_left hy]
      obtain ⟨b, h3, h4, h5⟩ := hsl t y hy
      rw [h3] at h; cases h
      exact ⟨y, rfl, h5⟩
    · rw [getk_right hk]; exact ⟨a, h, .refl _⟩
  have hS' : ∀ t a, getk t (sl ν ++ σ.slots) = some a → ∃ b, getk t σ.slots = some b ∧ Wk [] a b := fun t a h => by
    rcases get_app h with h | ⟨_, h⟩
    · obtain ⟨b, h3, h4, h5⟩ := hsl t a h
      exact ⟨b, h3, h4⟩
    · exact ⟨a, h, .refl _⟩
  have hH : ∀ k a, getk k (hp ν ++ minus σ.heap x.ks) = some a → getk k σ.heap = some a := fun k a h => by
    rcases get_app h with h | ⟨_, h⟩
    · exact hhp k a h
    · exact (get_minus h).2
  have hH' : ∀ k a, getk k σ.heap = some a → getk k (hp ν ++ minus σ.heap x.ks) = some a := fun k a h => by
    by_cases hk : k ∈ keys (hp ν)
    · obtain ⟨y, hy⟩ := mem_keys_get hk
      rw [getk_left hy]
      rw [hhp k y hy] at h; exact h
    · rw [getk_right hk]; exact getk_minus (by rw [← k2 ν]; exact hk) h
  have hno : ∀ k, k ∈ x.add → has k (hp ν ++ minus σ.heap x.ks) = false := fun k hk => by
    have := hadd k hk
    unfold has at this ⊢
    rw [List.contains_eq_mem] at this ⊢
    simp only [decide_eq_false_iff_not] at this ⊢
    intro h'
    obtain ⟨y, hy⟩ := mem_keys_get h'
    exact this (get_mem_keys (hH k y hy))
  obtain ⟨F1, N1, hr1⟩ := le_sem [] [] id (σ1 := ⟨nt, sl ν ++ σ.slots, hp ν ++ minus σ.heap x.ks⟩) hnt trivial hS' (fun k v o1 h => ⟨o1, hH k _ h, .refl _⟩) (fun _ _ _ _ h => h) (fun y h => by cases h) c F N a w hr
  refine hst ν σ.slots (minus σ.heap x.ks) hS hno F1 N1 a w hr1 next Q ?_
  rintro σ' F' N' a' w' ⟨ν', v, h', q1, q2, q3, q4, q5⟩ hr'
  refine hn σ' F' N' a' w' ⟨ν', v, h', q1, q2, q3, q4, q5.trans ?_⟩ hr'
  refine le_get (by rw [St.put_nt, St.put_nt]; exact hnt.symm) (fun k a ha => ?_) (fun k y hy => ?_)
  · cases hd : o.dst with
    | none => rw [hd] at ha; exact ha
    | some d => rw [hd] at ha; exact ha
  · rw [St.put_heap] at hy ⊢
    rcases get_app hy with h3 | ⟨h3, h4⟩
    · exact getk_left h3
    · rw [getk_right h3]
      obtain ⟨h5, h6⟩ := get_minus h4
      exact getk_minus h5 (hH' k y h6)

variable {ν : Nat → Value} {S S' : List (Nat × AV)} {H : HP} {v : AV}

theorem put_slots {σ σ1 : St} {d : Option Tmp} {v v1 : AV} (Z : List (Value × AV)) (hd : Wk Z v1 v) (h : ∀ t a, getk t σ1.slots = some a → ∃ b, getk t σ.slots = some b ∧ Wk Z a b) : ∀ t a, getk t (σ1.put d v1).slots = some a → ∃ b, getk t (σ.put d v).slots = some b ∧ Wk Z a b := by
  intro t a ha
  cases d with
  | none => exact h t a ha
  | some d =>
    simp only [St.put, getk] at ha ⊢
    split at ha
    · cases ha; rename_i e; rw [if_pos e]; exact ⟨v, rfl, hd⟩
    · rename_i e; rw [if_neg e]; exact h t a ha

/-- Nothing made, nothing used up. -/
theorem lp_v (hS : ∀ t a, getk t S = some a → ∃ b, getk t S' = some b ∧ Wk [] a b) (ha : x.add = []) (hr : x.rem = []) (hv' : o.dst ≠ none → (av ν)[i]? = some v) : LPost av hv i o x nt ν S H (St.put ⟨nt, S', H⟩ o.dst v) := by
  refine ⟨ν, v, [], fun _ _ => rfl, hv', by rw [ha]; rfl, (fun k y h => by cases h), ?_⟩
  refine le_sem [] [] id (by rw [St.put_nt, St.put_nt]) trivial (put_slots [] (.refl _) hS) (fun k u o1 h => ⟨o1, ?_, .refl _⟩) (fun x y _ _ h => h) (fun y h => by cases h)
  rw [St.put_heap] at h ⊢
  rw [hr] at h
  exact (get_minus h).2

/-- One thing is made (of what is used up, or anew). -/
theorem lp_m {k k' : Nat} {u : Value} {ob : AV} {rs : List Nat} (hS : ∀ t a, getk t S = some a → ∃ b, getk t S' = some b ∧ Wk [] a b) (ha : x.add = [k]) (hr : x.rem = rs) (hk : k' = k ∨ k' ∈ rs) (hv' : o.dst ≠ none → (av (upd ν k u))[i]? = some v) (hh : getk k (hv (upd ν k u)) = some (u, ob)) : LPost av hv i o x nt ν S H (St.put ⟨nt, S', (k', (u, ob)) :: minus H rs⟩ o.dst v) := by
  subst hr
  refine ⟨upd ν k u, v, [(k, (u, ob))], fun j hj => by unfold upd; rw [if_neg]; rintro rfl; exact hj (by rw [ha]; simp), hv', by rw [ha]; rfl, fun j y h => ?_, ?_⟩
  · simp only [getk] at h
    split at h
    · rename_i e; subst e; rw [← h]; exact hh
    · cases h
  · refine le_sem [] [] (fun j => if j = k then k' else j) (by rw [St.put_nt, St.put_nt]) trivial (put_slots [] (.refl _) hS) (fun j u' o1 h => ⟨o1, ?_, .refl _⟩) (fun a b ha hb h => ?_) (fun y h => by cases h)
    · rw [St.put_heap] at h ⊢
      simp only [List.cons_append, List.nil_append, getk] at h
      split at h
      · rename_i e; subst e; simp only [if_pos, getk]; exact h
      · rename_i e
        have e' : ¬ j = k := fun e' => e e'.symm
        simp only [if_neg e', getk]
        rw [if_neg]
        · exact h
        · rintro rfl
          rcases hk with h1 | h1
          · exact e' h1
          · exact (get_minus h).1 h1
    · rw [St.put_heap] at ha hb
      have hmem : ∀ j, j ∈ keys ([(k, (u, ob))] ++ minus H x.rem) → j = k ∨ (j ≠ k ∧ j ∉ x.rem) := fun j hj => by
        simp only [List.cons_append, List.nil_append, keys, List.map_cons, List.mem_cons] at hj
        by_cases e : j = k
        · exact .inl e
        · exact .inr ⟨e, (mem_minus (hj.resolve_left e)).1⟩
      rcases hmem a ha with rfl | ⟨a1, a2⟩ <;> rcases hmem b hb with rfl | ⟨b1, b2⟩
      · rfl
      · simp only [if_pos, if_neg b1] at h
        subst h
        rcases hk with h1 | h1
        · exact h1.symm
        · exact absurd h1 b2
      · simp only [if_pos, if_neg a1] at h
        subst h
        rcases hk with h1 | h1
        · exact h1
        · exact absurd h1 a2
      · simpa only [if_neg a1, if_neg b1] using h
theorem lp_n {k : Nat} {u : Value} {ob : AV} (hS : ∀ t a, getk t S = some a → ∃ b, getk t S' = some b ∧ Wk [] a b) (ha : x.add = [k]) (hr : x.rem = []) (hv' : o.dst ≠ none → (av (upd ν k u))[i]? = some v) (hh : getk k (hv (upd ν k u)) = some (u, ob)) : LPost av hv i o x nt ν S H (St.put ⟨nt, S', (k, (u, ob)) :: H⟩ o.dst v) := by
  have := lp_m (hv := hv) (i := i) (k' := k) (rs := []) (nt := nt) (H := H) hS ha hr (.inl rfl) hv' hh
  rwa [minus_nil] at this

/-- What is made is only to be read. -/
theorem lp_f {z : Bool} {k : Nat} {u : Value} {rs : List Nat} {t : TypeId} {sz : Nat} {rows rows' : List (List AV)} (hS : ∀ t a, getk t S = some a → ∃ b, getk t S' = some b ∧ Wk [] a b) (ha : x.add = []) (hr : x.rem = rs) (hk : has k (minus H rs) = false) (hf : FrzLL rows' rows) (hv' : o.dst ≠ none → (av ν)[i]? = some (.sl z rows')) : LPost av hv i o x nt ν S H (St.put ⟨nt, S', (k, (u, .osl t sz rows)) :: minus H rs⟩ o.dst (.hd k u)) := by
  subst hr
  refine ⟨ν, .sl z rows', [], fun _ _ => rfl, hv', by rw [ha]; rfl, (fun k y h => by cases h), ?_⟩
  have hne : ∀ j, j ∈ keys (minus H x.rem) → j ≠ k := fun j hj e => by
    subst e
    exact has_no hk hj
  refine le_sem [k] [(u, .sl z rows')] id (by rw [St.put_nt, St.put_nt]) ⟨⟨.osl t sz rows, by rw [St.put_heap]; simp [getk], .osl hf⟩, trivial⟩ (put_slots _ (.frz _ _ _ (.head _)) (fun t a h => let ⟨b, h1, h2⟩ := hS t a h; ⟨b, h1, h2.more⟩)) (fun j u' o1 h => ⟨o1, ?_, .refl _⟩) (fun x y _ _ h => h) (fun y h j hj e => ?_)
  · rw [St.put_heap] at h ⊢
    simp only [List.nil_append, id, getk] at h ⊢
    rw [if_neg (fun e => hne j (get_mem_keys h) e.symm)]; exact h
  · rw [St.put_heap] at hj
    simp only [List.nil_append] at hj
    rcases List.mem_cons.1 h with rfl | h
    · exact hne j hj e
    · cases h
theorem lp_fn {z : Bool} {k : Nat} {u : Value} {t : TypeId} {sz : Nat} {rows rows' : List (List AV)} (hS : ∀ t a, getk t S = some a → ∃ b, getk t S' = some b ∧ Wk [] a b) (ha : x.add = []) (hr : x.rem = []) (hk : has k H = false) (hf : FrzLL rows' rows) (hv' : o.dst ≠ none → (av ν)[i]? = some (.sl z rows')) : LPost av hv i o x nt ν S H (St.put ⟨nt, S', (k, (u, .osl t sz rows)) :: H⟩ o.dst (.hd k u)) := by
  have := lp_f (hv := hv) (i := i) (rs := []) (nt := nt) (H := H) (u := u) (t := t) (sz := sz) hS ha hr (by rw [minus_nil]; exact hk) hf hv'
  rwa [minus_nil] at this
end

theorem wheap_live {H : HP} {los : List LO} : ∀ {ms : List (Option Nat)} {h : HP}, wheap [] H ms h → (ms.filterMap id).all (lv los fun _ => true) = true → wheap [] (H.filter fun p => lv los (fun _ => true) p.1) ms h
  | [], [], _, _ => trivial
  | none :: ms, (x, (v, o1)) :: r, h, hl => ⟨h.1, wheap_live h.2 (by simpa using hl)⟩
  | some y :: ms, (x, (v, o1)) :: r, h, hl => by
    obtain ⟨⟨o, h1, h2⟩, h3⟩ := h
    simp only [List.filterMap_cons, id, List.all_cons, Bool.and_eq_true] at hl
    exact ⟨⟨o, by rw [getk_filter, if_pos hl.1]; exact h1, h2⟩, wheap_live h3 hl.2⟩
  | [], _ :: _, h, _ => h.elim
  | m :: _, [], h, _ => by cases m <;> exact h.elim

theorem good_anyM {P : Program} {c : Cx} {l : List Oper} (hm : P.follows .mixedOrders = true) {id : Nat} {σ : St} {Q : Exit → St → Prop} (los : List LO) (ds : List (Option Tmp)) (nt : Nat) (s0 : List (Nat × AV)) (hp0 : HP) (av : (Nat → Value) → List AV) (hv1 : (Nat → Value) → HP) (hd : List (Nat × List Nat)) (k1 : List Nat) (ms : List (Option Nat)) (sf : (Nat → Value) → List (Nat × AV)) (hf : (Nat → Value) → HP)
    (h0 : Le σ ⟨nt, s0, hp0⟩) (hchk : chkB l los ds hd = true) (hloc : LocalAll l ds nt s0 av (fun ν => hv1 ν ++ hp0) P c 0 l los) (hdep : DepAll av 0 los) (hhd : HdepAll (fun ν => hv1 ν ++ hp0) hd) (hkk : ∀ ν, keys (hv1 ν ++ hp0) = keys hd) (hk1 : ∀ ν, keys (hv1 ν) = k1) (hk2 : k1.all (fun k => los.any fun x => x.add.contains k) = true)
    (hfs : ∀ ν, wslots [] (dsl (fun _ => true) 0 ds (av ν) ++ s0) (sf ν)) (hfh : ∀ ν, wheap [] (hv1 ν ++ hp0) ms (hf ν)) (hl : (ms.filterMap _root_.id).all (lv los fun _ => true) = true) (hn : (ms.filterMap _root_.id).Nodup)
    (hK : ∀ ν, Q .normal ⟨nt, sf ν, hf ν⟩) : Good P c (.region id l.toArray true) σ Q := by
  refine good_any hm los ds nt s0 av (fun ν => hv1 ν ++ hp0) hd (fun _ => nilV) (h0.trans ?_) hchk hloc hdep hhd (fun ν k hk => by rw [← hkk ν]; exact hk) (fun ν => ⟨nt, sf ν, hf ν⟩) (fun ν => ?_) hK
  · refine le_get rfl (fun k a ha => ?_) (fun k y hy => ?_)
    · simp only [Sig] at ha
      rcases get_app ha with ha | ⟨_, ha⟩
      · obtain ⟨j, hj, _⟩ := dsl_get ha; cases hj
      · exact ha
    · simp only [Sig] at hy
      rw [getk_filter] at hy
      split at hy
      · rename_i hlv
        rcases get_app hy with hy | ⟨_, hy⟩
        · have := List.all_eq_true.1 hk2 k (by rw [← hk1 (fun _ => nilV)]; exact get_mem_keys hy)
          obtain ⟨x, hx, hx2⟩ := List.any_eq_true.1 this
          obtain ⟨j, hj⟩ := List.getElem?_of_mem hx
          have := (lv_iff.1 hlv j x hj).1 (by simpa using hx2)
          cases this
        · exact hy
      · cases hy
  · exact le_w ms rfl (hfs ν) (wheap_live (hfh ν) hl) hn
end Go.Bb
end
section
/-! More for printed walks. -/
set_option linter.unusedVariables false
namespace Go.Bb

theorem v_splitI {P : Program} {c : Cx} {o : Oper} {σ : St} {K : St → Prop} {r : AV} (h : K (σ.put o.dst r) → ValOk P c o σ K) (hK : K (σ.put o.dst r)) : ValOk P c o σ K := h hK
theorem o_splitI {P : Program} {c : Cx} {o : Oper} {σ : St} {K : St → Prop} {r : AV} (h : K (σ.put o.dst r) → OpOk P c o σ K) (hK : K (σ.put o.dst r)) : OpOk P c o σ K := h hK

end Go.Bb
end
section
/-! Trees of the call's own. -/
set_option linter.unusedVariables false
set_option linter.unusedSimpArgs false
namespace Go.Bb

/-- The same memory, otherwise named. -/
theorem Rel.reheap {c : Cx} {F : Nat → Nat → Prop} {N : Nat → Prop} {σ : St} {a : Act} {w : World} (hr : Rel c F N σ a w) (h' : HP) (F' : Nat → Nat → Prop)
    (hown : ∀ x v o, getk x h' = some (v, o) → OwnV N w (F' x) o v ∧ v.oneCell' = true)
    (hfoot : ∀ x, x ∈ keys h' → ∀ b, F' x b → ∃ y, y ∈ keys σ.heap ∧ F y b)
    (hdisj : ∀ x y, x ∈ keys h' → y ∈ keys h' → x ≠ y → ∀ b, F' x b → ¬ F' y b) : Rel c F' N ⟨σ.nt, σ.slots, h'⟩ a w :=
  ⟨hr.defers, hr.size, hr.slots, ⟨fun x v o hx => (hown x v o hx).1, fun x hx b hb => let ⟨y, h1, h2⟩ := hfoot x hx b hb; hr.heap.foot y h1 b h2, hdisj, fun x v o hx => (hown x v o hx).2⟩,
    fun x hx b hb => let ⟨y, h1, h2⟩ := hfoot x hx b hb; hr.may y h1 b h2, hr.n0, hr.unch⟩

/-- Whatever fits σ fits one of the states f. -/
def LeE {α : Type} (σ : St) (f : α → St) : Prop := ∀ (c : Cx) (F : Nat → Nat → Prop) (N : Nat → Prop) (a : Act) (w : World), Rel c F N σ a w → ∃ x F' N', Rel c F' N' (f x) a w
theorem Good.leE {P : Program} {c : Cx} {x : Code} {σ : St} {Q : Exit → St → Prop} {α : Type} {f : α → St} (hw : LeE σ f) (h : ∀ y, Good P c x (f y) Q) : Good P c x σ Q :=
  fun F N a w hr => let ⟨y, F', N', hr'⟩ := hw c F N a w hr; h y F' N' a w hr'
theorem g_leE {P : Program} {c : Cx} {all r : List Oper} {σ : St} {K : St → Prop} {α : Type} {f : α → St} (hw : LeE σ f) (h : ∀ y, GOps P c all r (f y) K) : GOps P c all r σ K :=
  fun k hl F N a w hr Q hK => let ⟨y, F', N', hr'⟩ := hw c F N a w hr; h y k hl F' N' a w hr' Q hK

theorem set_get {rows : List (List AV)} {row : List AV} {i j : Nat} {x : AV} (hrow : rows[i]? = some row) {p : Nat} {r : List AV} {q : Nat} {av : AV} (hp : (rows.set i (row.set j x))[p]? = some r) (hq : r[q]? = some av) :
    (p = i ∧ q = j ∧ av = x) ∨ (¬ (p = i ∧ q = j) ∧ ∃ r0, rows[p]? = some r0 ∧ r0[q]? = some av) := by
  rw [List.getElem?_set] at hp
  by_cases e : i = p
  · subst e
    rw [if_pos rfl] at hp
    split at hp
    · cases hp
      rw [List.getElem?_set] at hq
      by_cases e2 : j = q
      · subst e2
        rw [if_pos rfl] at hq
        split at hq
        · cases hq; exact .inl ⟨rfl, rfl, rfl⟩
        · cases hq
      · rw [if_neg e2] at hq
        exact .inr ⟨fun h => e2 h.2.symm, row, hrow, hq⟩
    · cases hp
  · rw [if_neg e] at hp
    exact .inr ⟨fun h => e h.1.symm, r, hp, hq⟩

theorem set_row {rows : List (List AV)} {row : List AV} {i j sz : Nat} {x : AV} (hrow : rows[i]? = some row) (h : ∀ (i : Nat) (row : List AV), rows[i]? = some row → row.length = sz) (p : Nat) (r : List AV) (hp : (rows.set i (row.set j x))[p]? = some r) : r.length = sz := by
  rw [List.getElem?_set] at hp
  split at hp
  · split at hp
    · cases hp; rw [List.length_set]; exact h i row hrow
    · cases hp
  · exact h p r hp

/-- What is owned besides is put into the cell that leads to it. -/
theorem OwnV.absorb {N : Nat → Prop} {w : World} {S S2 : Nat → Prop} {v u : Value} {t sz : Nat} {rows : List (List AV)} {row : List AV} {i j x : Nat} {o2 : AV} (h : OwnV N w S (.osl t sz rows) v) (h2 : OwnV N w S2 o2 u)
    (hrow : rows[i]? = some row) (hj : row[j]? = some (.hd x u)) (hdj : ∀ k, S k → ¬ S2 k) : OwnV N w (fun k => S k ∨ S2 k) (.osl t sz (rows.set i (row.set j o2))) v := by
  cases h with
  | frz _ _ _ h => cases h
  | osl0 => simp at hrow
  | osl _ _ _ _ b cap arr G uu hb hh hsz hl hm hr hG hd hc ho =>
    have e : rows.length = (rows.set i (row.set j o2)).length := by simp
    have hui : uu i j = u := by
      have := ho i row j _ hrow hj
      generalize uu i j = z at this
      cases this with
      | frz _ _ _ h => cases h; rfl
    rw [e]
    refine .osl _ _ _ _ b cap arr (fun p q k => if p = i ∧ q = j then S2 k else G p q k) uu (.inl hb) hh hsz (by rw [← e]; exact hl) hm (set_row hrow hr) (fun p q k hk => ?_) (fun p q p' q' k hk hk' => ?_) (fun p r q av hp hq => ?_) (fun p r q av hp hq => ?_)
    · by_cases hpq : p = i ∧ q = j
      · rw [if_pos hpq] at hk; exact ⟨.inr hk, fun h => hdj k (h ▸ hb) hk⟩
      · rw [if_neg hpq] at hk; exact ⟨.inl (hG p q k hk).1, (hG p q k hk).2⟩
    · by_cases hpq : p = i ∧ q = j <;> by_cases hpq' : p' = i ∧ q' = j
      · exact ⟨hpq.1.trans hpq'.1.symm, hpq.2.trans hpq'.2.symm⟩
      · rw [if_pos hpq] at hk; rw [if_neg hpq'] at hk'; exact absurd hk (hdj k (hG p' q' k hk').1)
      · rw [if_neg hpq] at hk; rw [if_pos hpq'] at hk'; exact absurd hk' (hdj k (hG p q k hk).1)
      · rw [if_neg hpq] at hk; rw [if_neg hpq'] at hk'; exact hd p q p' q' k hk hk'
    · rcases set_get hrow hp hq with ⟨rfl, rfl, _⟩ | ⟨_, r0, h3, h4⟩
      · exact hc p row q _ hrow hj
      · exact hc p r0 q av h3 h4
    · rcases set_get hrow hp hq with ⟨rfl, rfl, rfl⟩ | ⟨hpq, r0, h3, h4⟩
      · rw [hui]; simp only [and_self, if_true]; exact h2
      · simp only [hpq, if_false]; exact ho p r0 q av h3 h4

/-- What a cell owns is taken out of it. -/
theorem OwnV.focus {N : Nat → Prop} {w : World} {S : Nat → Prop} {v : Value} {t sz t2 sz2 : Nat} {rows rows2 : List (List AV)} {row : List AV} {i j : Nat} (x : Nat) (h : OwnV N w S (.osl t sz rows) v)
    (hrow : rows[i]? = some row) (hj : row[j]? = some (.osl t2 sz2 rows2)) : ∃ u S2, u.oneCell' = true ∧ OwnV N w (fun k => S k ∧ ¬ S2 k) (.osl t sz (rows.set i (row.set j (.hd x u)))) v ∧ OwnV N w S2 (.osl t2 sz2 rows2) u ∧ ∀ k, S2 k → S k := by
  cases h with
  | frz _ _ _ h => cases h
  | osl0 => simp at hrow
  | osl _ _ _ _ b cap arr G uu hb hh hsz hl hm hr hG hd hc ho =>
    have h2 := ho i row j _ hrow hj
    have hone : (uu i j).oneCell' = true := by
      generalize uu i j = z at h2
      cases h2 with
      | frz _ _ _ h => cases h
      | osl0 => rfl
      | osl => rfl
    refine ⟨uu i j, G i j, hone, ?_, h2, fun k hk => (hG i j k hk).1⟩
    have e : rows.length = (rows.set i (row.set j (.hd x (uu i j)))).length := by simp
    rw [e]
    refine .osl _ _ _ _ b cap arr (fun p q k => ¬ (p = i ∧ q = j) ∧ G p q k) uu ⟨hb, fun hk => (hG i j b hk).2 rfl⟩ hh hsz (by rw [← e]; exact hl) hm (set_row hrow hr) (fun p q k hk => ⟨⟨(hG p q k hk.2).1, fun hk2 => hk.1 (hd p q i j k hk.2 hk2)⟩, (hG p q k hk.2).2⟩) (fun p q p' q' k hk hk' => hd p q p' q' k hk.2 hk'.2) (fun p r q av hp hq => ?_) (fun p r q av hp hq => ?_)
    · rcases set_get hrow hp hq with ⟨rfl, rfl, _⟩ | ⟨_, r0, h3, h4⟩
      · exact hc p row q _ hrow hj
      · exact hc p r0 q av h3 h4
    · rcases set_get hrow hp hq with ⟨rfl, rfl, rfl⟩ | ⟨hpq, r0, h3, h4⟩
      · exact .frz _ _ _ (.hd _ _ hone)
      · exact (ho p r0 q av h3 h4).sub fun k hk => ⟨hpq, hk⟩

theorem le_absorb {σ : St} {k k2 : Nat} {v u : Value} {t sz : Nat} {rows rows' : List (List AV)} {row : List AV} {o2 : AV} (i j x : Nat) (hk : getk k σ.heap = some (v, .osl t sz rows)) (hk2 : getk k2 σ.heap = some (u, o2)) (hne : k ≠ k2)
    (hrow : rows[i]? = some row) (hj : row[j]? = some (.hd x u)) (he : rows.set i (row.set j o2) = rows') : Le σ ⟨σ.nt, σ.slots, (k, (v, .osl t sz rows')) :: minus σ.heap [k, k2]⟩ := by
  intro c F N a w hr
  subst he
  have m1 := get_mem_keys hk
  have m2 := get_mem_keys hk2
  have hdj := hr.heap.disj k k2 m1 m2 hne
  refine ⟨fun y => if y = k then (fun b => F k b ∨ F k2 b) else F y, N, hr.reheap _ _ (fun y v' o' hy => ?_) (fun y hy b hb => ?_) (fun y z hy hz hne' b hb hb' => ?_)⟩
  · simp only [getk] at hy
    by_cases e : y = k
    · subst e
      rw [if_pos rfl] at hy; cases hy
      simp only [if_true]
      exact ⟨(hr.heap.own _ _ _ hk).absorb (hr.heap.own _ _ _ hk2) hrow hj hdj, hr.heap.one _ _ _ hk⟩
    · rw [if_neg (fun h => e h.symm)] at hy
      obtain ⟨_, h2⟩ := get_minus hy
      simp only [e, if_false]
      exact ⟨hr.heap.own _ _ _ h2, hr.heap.one _ _ _ h2⟩
  · by_cases e : y = k
    · simp only [e, if_true] at hb
      rcases hb with hb | hb
      · exact ⟨k, m1, hb⟩
      · exact ⟨k2, m2, hb⟩
    · simp only [e, if_false] at hb
      simp only [keys, List.map_cons, List.mem_cons] at hy
      exact ⟨y, (mem_minus (hy.resolve_left e)).2, hb⟩
  · have key : ∀ z, z ∈ keys (minus σ.heap [k, k2]) → (F k b ∨ F k2 b) → F z b → False := by
      intro z hz h1 h2
      obtain ⟨h3, h4⟩ := mem_minus hz
      simp only [List.mem_cons, List.not_mem_nil, or_false, not_or] at h3
      rcases h1 with h1 | h1
      · exact hr.heap.disj k z m1 h4 (fun h => h3.1 h.symm) b h1 h2
      · exact hr.heap.disj k2 z m2 h4 (fun h => h3.2 h.symm) b h1 h2
    simp only [keys, List.map_cons, List.mem_cons] at hy hz
    by_cases e : y = k <;> by_cases e' : z = k
    · exact hne' (e.trans e'.symm)
    · simp only [e, if_true] at hb; simp only [e', if_false] at hb'
      exact key z (hz.resolve_left e') hb hb'
    · simp only [e', if_true] at hb'; simp only [e, if_false] at hb
      exact key y (hy.resolve_left e) hb' hb
    · simp only [e, if_false] at hb; simp only [e', if_false] at hb'
      exact hr.heap.disj y z (mem_minus (hy.resolve_left e)).2 (mem_minus (hz.resolve_left e')).2 hne' b hb hb'

theorem le_focus {σ : St} {k : Nat} {v : Value} {t sz t2 sz2 : Nat} {rows rows2 : List (List AV)} {row : List AV} (i j k2 : Nat) (hk : getk k σ.heap = some (v, .osl t sz rows)) (hk2 : has k2 σ.heap = false)
    (hrow : rows[i]? = some row) (hj : row[j]? = some (.osl t2 sz2 rows2)) :
    LeE σ fun u => ⟨σ.nt, σ.slots, (k2, (u, .osl t2 sz2 rows2)) :: (k, (v, .osl t sz (rows.set i (row.set j (.hd k2 u))))) :: minus σ.heap [k]⟩ := by
  intro c F N a w hr
  have m1 := get_mem_keys hk
  have hn2 := has_no hk2
  have hne : k ≠ k2 := by rintro rfl; exact hn2 m1
  obtain ⟨u, S2, hone, h1, h2, h3⟩ := (hr.heap.own _ _ _ hk).focus k2 hrow hj
  refine ⟨u, fun y => if y = k2 then S2 else if y = k then (fun b => F k b ∧ ¬ S2 b) else F y, N, hr.reheap _ _ (fun y v' o' hy => ?_) (fun y hy b hb => ?_) (fun y z hy hz hne' b hb hb' => ?_)⟩
  · simp only [getk] at hy
    by_cases e2 : y = k2
    · rw [if_pos e2.symm] at hy; cases hy
      simp only [e2, if_true]; exact ⟨h2, hone⟩
    · rw [if_neg (fun h => e2 h.symm)] at hy
      by_cases e : y = k
      · rw [if_pos e.symm] at hy; cases hy
        simp only [e, hne, if_false, if_true]; exact ⟨h1, hr.heap.one _ _ _ hk⟩
      · rw [if_neg (fun h => e h.symm)] at hy
        obtain ⟨_, h4⟩ := get_minus hy
        simp only [e, e2, if_false]
        exact ⟨hr.heap.own _ _ _ h4, hr.heap.one _ _ _ h4⟩
  · by_cases e2 : y = k2
    · simp only [e2, if_true] at hb; exact ⟨k, m1, h3 b hb⟩
    · by_cases e : y = k
      · simp only [e, hne, if_false, if_true] at hb; exact ⟨k, m1, hb.1⟩
      · simp only [e, e2, if_false] at hb
        simp only [keys, List.map_cons, List.mem_cons] at hy
        exact ⟨y, (mem_minus ((hy.resolve_left e2).resolve_left e)).2, hb⟩
  · simp only [keys, List.map_cons, List.mem_cons] at hy hz
    have key : ∀ z, z ∈ keys (minus σ.heap [k]) → F k b → F z b → False := by
      intro z hz h1 h2
      obtain ⟨h3, h4⟩ := mem_minus hz
      exact hr.heap.disj k z m1 h4 (fun h => h3 (by simp [h])) b h1 h2
    have h5 : ∀ y, (y = k2 ∨ y = k ∨ y ∈ keys (minus σ.heap [k])) → (if y = k2 then S2 else if y = k then (fun b => F k b ∧ ¬ S2 b) else F y) b → (y = k2 ∧ S2 b) ∨ (y = k ∧ F k b ∧ ¬ S2 b) ∨ (y ≠ k2 ∧ y ≠ k ∧ y ∈ keys (minus σ.heap [k]) ∧ F y b) := by
      intro y hy hb
      by_cases e2 : y = k2
      · simp only [e2, if_true] at hb; exact .inl ⟨e2, hb⟩
      · by_cases e : y = k
        · simp only [e, hne, if_false, if_true] at hb; exact .inr (.inl ⟨e, hb⟩)
        · simp only [e, e2, if_false] at hb; exact .inr (.inr ⟨e2, e, (hy.resolve_left e2).resolve_left e, hb⟩)
    rcases h5 y hy hb with ⟨a1, a2⟩ | ⟨a1, a2, a3⟩ | ⟨a1, a2, a3, a4⟩ <;> rcases h5 z hz hb' with ⟨b1, b2⟩ | ⟨b1, b2, b3⟩ | ⟨b1, b2, b3, b4⟩
    · exact hne' (a1.trans b1.symm)
    · exact b3 a2
    · exact key z b3 (h3 b a2) b4
    · exact a3 b2
    · exact hne' (a1.trans b1.symm)
    · exact key z b3 a2 b4
    · exact key y a3 (h3 b b2) a4
    · exact key y a3 b2 a4
    · exact hr.heap.disj y z (mem_minus a3).2 (mem_minus b3).2 hne' b a4 b4

/-! Whole trees, read only -/
theorem FrzL.append : ∀ {a b c d : List AV}, FrzL a b → FrzL c d → FrzL (a ++ c) (b ++ d)
  | _, _, _, _, .nil, h => h
  | _, _, _, _, .cons h t, h' => .cons h (t.append h')
end Go.Bb
end
section
/-! Texts appended; two things handed over. -/
set_option linter.unusedVariables false
set_option linter.unusedSimpArgs false
namespace Go.Bb

/-- The bytes of a text, as whole numbers. -/
def toI (s : List UInt8) : List Int := s.map fun b => (b.toNat : Int)

section
variable {P : Program} {T : Tab} {c : Cx} {F : Nat → Nat → Prop} {o : Oper} {σ : St} {K : St → Prop} {N : Nat → Prop} {a : Act} {w : World} {all r : List Oper}
variable {d : Option Tmp} {ty : TypeId} {pos : String} {af : Array Edge} {g : Option (Nat × Bool)}

theorem strCells_flat (s : List UInt8) : Lib.strCells ⟨s.toArray⟩ = flat (fun i _ => ((toI s)[i]?.map (Value.int .u8)).getD undef) s.length 1 := by
  apply List.ext_getElem?
  intro k
  by_cases hk : k < s.length
  · have h := flat_get (u := fun i _ => ((toI s)[i]?.map (Value.int .u8)).getD undef) (n := s.length) (sz := 1) hk Nat.zero_lt_one
    rw [Nat.mul_one, Nat.add_zero] at h
    rw [h]
    simp [Lib.strCells, toI, hk]
  · rw [List.getElem?_eq_none (by rw [Lib.strCells_length]; simp [ByteArray.size]; omega), List.getElem?_eq_none (by rw [flat_length]; omega)]

theorem appendStr_run (hT : TabOk P T) {t u e ty : Nat} {l : List Int} {v : Value} {S : Nat → Prop} (he : T.elem t = some e) (hsz : T.size e = some 1) (hby : T.bytes e = some 1) (hz : T.zero e = some [.int .u8 0]) (hg : T.agg e = some false) (hu : T.kind u = some .string)
    (hs : OwnV N w S (.osl e 1 (l.map (encI .u8))) v) (s : List UInt8) (hfit : l.length + s.length ≤ 140737488355328) :
    ∃ v' w', (Builtin.append_ #[t, u] ty #[v, .string ⟨s.toArray⟩]).run P w = .ok v' w' ∧ v'.oneCell' = true ∧ w'.os = w.os ∧ w'.tape = w.tape ∧ w'.output = w.output ∧ w.heap.size ≤ w'.heap.size ∧ (∀ k, k < w.heap.size → ¬ S k → w'.heap[k]? = w.heap[k]?) ∧
      ∃ S' : Nat → Prop, (∀ k, S' k → S k ∨ (w.heap.size ≤ k ∧ k < w'.heap.size)) ∧ ∀ N', OwnV N' w' S' (.osl e 1 ((l ++ toI s).map (encI .u8))) v' := by
  obtain ⟨i, z, hi, hiz, hzv⟩ := hT.whole (av := .int .u8 0) hz hg rfl
  have hz0 : z = .int .u8 0 := by have := hzv N w; cases this; rfl
  subst hz0
  obtain ⟨i', hi', his⟩ := hT.size hsz
  rw [hi] at hi'; cases hi'
  obtain ⟨i', hi', hib⟩ := hT.bytes hby
  rw [hi] at hi'; cases hi'
  have ht := hT.elem he
  obtain ⟨d2, hu2, hu2'⟩ := hT.kind hu
  have hd2 : d2 = .string := by cases d2 <;> simp [shOf] at hu2' <;> rfl
  subst hd2
  obtain ⟨G, uu, hown, hSb, hrl, hG, hdG, hoG⟩ := own_row hs
  have hlen : (l.map (encI .u8)).length = l.length := by simp
  rw [hlen] at hown
  have hss : (⟨s.toArray⟩ : ByteArray).size = s.length := by simp [ByteArray.size]
  obtain ⟨v', w', hrun, hown', hgrow, hnil⟩ := Lib.run_append_own_string (P := P) w 0 t u ty e i ht hu2 hi hiz his hib v l.length _ hown ⟨s.toArray⟩ (by rw [hss]; unfold maxLen; omega) (by rw [hss]; exact hfit) (Nat.zero_le _)
  rw [strCells_flat, hss, flat_append] at hown'
  have hone : v'.oneCell' = true := by
    rcases hown'.2 with ⟨rfl, _⟩ | ⟨g, cap, cur, rfl, _⟩ <;> rfl
  have hwhere : ∀ g, v'.ownBlock = some g → v.ownBlock = some g ∨ w.heap.size ≤ g := by
    intro g hg
    rcases hown.2 with ⟨rfl, hn0⟩ | ⟨gb, cap, cur, rfl, _, hhb, hn, hm, hs', ht'⟩
    · by_cases h00 : s.length = 0
      · have := hnil.2 ⟨rfl, by rw [hss]; exact h00⟩
        subst this
        simp [Value.ownBlock] at hg
      · have hr2 := run_append_nil_string (P := P) w t u ty e i (.int .u8 0) ht hu2 hi hiz ⟨s.toArray⟩ (by rw [hss]; omega) (by rw [hss]; omega) (by rw [hss, hib]; omega)
        rw [hrun] at hr2
        cases hr2
        simp [Value.ownBlock] at hg
        omega
    · by_cases hroom : l.length + s.length ≤ cap
      · have hr2 := Lib.run_append_room_string (P := P) w t u ty e i ht hu2 hi his gb l.length cap cur hhb ⟨s.toArray⟩ (by rw [hss]; exact hroom) (by rw [hss]; omega)
        rw [hrun] at hr2
        cases hr2
        exact .inl hg
      · have hr2 := Lib.run_append_grow_string (P := P) w t u ty e i (.int .u8 0) ht hu2 hi hiz ⟨gb, 0, none⟩ l.length cap (flat uu l.length 1) (by rw [flat_length, his]) (fun j x hj => by
          rw [← ht', List.getElem?_take] at hj
          split at hj
          · rw [add_none _ _ rfl]; simp only [World.cell?, hhb]; simpa using hj
          · cases hj) ⟨s.toArray⟩ (by rw [hss]; omega) (by rw [hss]; omega) (by rw [hss, hib]; exact growslice_fits (by omega) (by omega))
        rw [hrun] at hr2
        cases hr2
        simp [Value.ownBlock] at hg
        omega
  refine ⟨v', w', hrun, hone, hgrow.os, hgrow.tape, hgrow.output, hgrow.size, fun k hk hS => hgrow.block k hk (fun e => hS (hSb k e.symm)), fun k => some k = v'.ownBlock, fun k hk => ?_, fun N' => ?_⟩
  · rcases hwhere k hk.symm with h1 | h1
    · exact .inl (hSb k h1)
    · exact .inr ⟨h1, (hown'.lt k hk.symm).2⟩
  · have e2 : ((l ++ toI s).map (encI .u8)).length = l.length + s.length := by simp [toI]
    refine own_mk (G := fun _ _ _ => False) (u := fun i j => if i < l.length then uu i j else ((toI s)[i - l.length]?.map (Value.int .u8)).getD undef) (by rw [e2]; exact hown') (fun g hg => hg.symm) (fun i row hi => ?_) (fun _ _ _ h => h.elim) (fun _ _ _ _ _ h => h.elim) (fun i row j av hi hj => ?_)
    · rw [List.getElem?_map] at hi
      obtain ⟨x, _, rfl⟩ := Option.map_eq_some_iff.1 hi
      rfl
    · rw [List.getElem?_map] at hi
      obtain ⟨x, hx, rfl⟩ := Option.map_eq_some_iff.1 hi
      have hj0 : j = 0 := by
        rcases Nat.eq_zero_or_pos j with h | h
        · exact h
        · rw [List.getElem?_eq_none (by simp [encI]; omega)] at hj; cases hj
      subst hj0
      simp [encI] at hj
      subst hj
      rw [List.getElem?_append] at hx
      split at hx
      · rename_i hlt
        simp only [hlt, if_true]
        have h1 := hoG i (encI .u8 x) 0 (.int .u8 x) (by rw [List.getElem?_map, hx]; rfl) rfl
        generalize uu i 0 = y at h1
        cases h1 with
        | frz _ _ _ h => cases h; exact .frz _ _ _ (.int _ _)
      · rename_i hlt
        simp only [hlt, if_false, hx, Option.map_some, Option.getD_some]
        exact .frz _ _ _ (.int _ _)

theorem append_execS {t u : TypeId} {x y : Operand} {v : Value} {w' : World} (h : (Builtin.append_ #[t, u] ty #[a.eval x, a.eval y]).run P w = .ok v w') :
    (execOp a.eval ⟨d, .call ⟨.builtin .append, #[x, y], #[t, u]⟩, ty, pos, af, g⟩).run P w = .ok (.value v) w' := by
  simp only [execOp, resolve]
  simp [invoke, builtin, h]

theorem o_appendStr (hT : TabOk P T) {t u e q k : Nat} {x y : Operand} {v : Value} {l l3 : List Int} {s : List UInt8} (hx : ∃ n, evA σ x = some (.hd n v)) (hh : getk q σ.heap = some (v, .osl e 1 (l.map (encI .u8)))) (hy : evA σ y = some (.str s))
    (he : T.elem t = some e) (hsz : T.size e = some 1) (hby : T.bytes e = some 1) (hz : T.zero e = some [.int .u8 0]) (hg : T.agg e = some false) (hu : T.kind u = some .string) (hl : l ++ toI s = l3) (hk : has k (minus σ.heap [q]) = false) (hd : dok d σ.nt = true)
    (hfit : l3.length * 1 ≤ 140737488355328)
    (hK : ∀ v', K ({ σ with heap := (k, (v', .osl e 1 (l3.map (encI .u8)))) :: minus σ.heap [q] }.put d (.hd k v'))) : OpOk P c ⟨d, .call ⟨.builtin .append, #[x, y], #[t, u]⟩, ty, pos, af, g⟩ σ K := by
  intro F N a w hr next Q hn
  subst hl
  obtain ⟨n1, hx⟩ := hx
  have h1 := evA_rel hr hx
  have h2 := evA_rel hr hy
  have e1 : a.eval x = v := by generalize a.eval x = z at h1; cases h1; rfl
  have e2 : a.eval y = .string ⟨s.toArray⟩ := by generalize a.eval y = z at h2; cases h2; rfl
  have hqk := get_mem_keys hh
  obtain ⟨v', w', hrun, hone, hos, htp, hout, hsize, hkeep, S', hS', hown⟩ := appendStr_run (ty := ty) hT he hsz hby hz hg hu (hr.heap.own q _ _ hh) s (by simp [toI] at hfit; omega)
  have := hr.repl [q] k (v := v') (av := .osl e 1 ((l ++ toI s).map (encI .u8))) (w' := w') (S := S') hk hos htp hout hsize (fun j hj hF => hkeep j hj (hF q (by simp) hqk)) (fun b hb => by
    rcases hS' b hb with h | h
    · exact .inl ⟨q, by simp, hqk, h⟩
    · exact .inr h) hone (fun N' _ => hown N')
  unfold Oper.wp
  rw [append_execS (by rw [e1, e2]; exact hrun)]
  exact hn _ _ _ _ _ (hK v') (this.put (dok_ok hd) (.hd _ _ hone))

/-- A call that is handed a variable and the slice in it, and hands both back. -/
theorem o_callB {fn : FuncId} {avs avs1 : List AV} {r0 ad ad' : AV} {q y b tB t sz : Nat} {v : Value} {rows rows' : List (List AV)} (hcore : Core P c σ o fn avs)
    (hS : Does P fn avs1 [(0, (.pointer (some ⟨b, 0, none⟩), .optr tB [ad, .hd y v])), (1, (v, .osl t sz rows))] (fun r h' => r = r0 ∧ ∃ v', h' = [(0, (.pointer (some ⟨b, 0, none⟩), .optr tB [ad', .hd y v'])), (1, (v', .osl t sz rows'))]))
    (hargs : WkL [] avs1 avs) (hq : getk q σ.heap = some (.pointer (some ⟨b, 0, none⟩), .optr tB [ad, .hd y v])) (hy : getk y σ.heap = some (v, .osl t sz rows)) (hqy : (q == y) = false) (hd : dok o.dst σ.nt = true)
    (hK : ∀ v', K ({ σ with heap := (q, (.pointer (some ⟨b, 0, none⟩), .optr tB [ad', .hd y v'])) :: (y, (v', .osl t sz rows')) :: minus σ.heap [q, y] }.put o.dst r0)) : OpOk P c o σ K := by
  have hne : q ≠ y := by simpa using hqy
  refine o_call [] [] [q, y] hcore hS trivial hargs ⟨hq, hy, trivial⟩ (by simp [hne]) (fun y h => by cases h) ?_
  rintro r h' ⟨rfl, v', rfl⟩
  refine ⟨r, [(q, _), (y, _)], .refl _, rfl, by simp [keys, hne], by simp [keys], fun x hx => ?_, .inl rfl, hd, hK v'⟩
  unfold has
  rw [List.contains_eq_mem]
  simp only [decide_eq_false_iff_not]
  intro h
  have := (mem_minus h).1
  simp [keys] at hx
  rcases hx with rfl | rfl <;> simp at this

/-- A call that is handed a variable and the slice in it, and keeps both. -/
theorem o_callE {fn : FuncId} {avs avs1 : List AV} {r0 ad : AV} {q y b tB t sz : Nat} {v : Value} {rows : List (List AV)} (hcore : Core P c σ o fn avs)
    (hS : Does P fn avs1 [(0, (.pointer (some ⟨b, 0, none⟩), .optr tB [ad, .hd y v])), (1, (v, .osl t sz rows))] (ret r0))
    (hargs : WkL [] avs1 avs) (hq : getk q σ.heap = some (.pointer (some ⟨b, 0, none⟩), .optr tB [ad, .hd y v])) (hy : getk y σ.heap = some (v, .osl t sz rows)) (hqy : (q == y) = false) (hd : dok o.dst σ.nt = true)
    (hK : K ({ σ with heap := minus σ.heap [q, y] }.put o.dst r0)) : OpOk P c o σ K := by
  have hne : q ≠ y := by simpa using hqy
  refine o_call [] [] [q, y] hcore hS trivial hargs ⟨hq, hy, trivial⟩ (by simp [hne]) (fun y h => by cases h) ?_
  rintro r h' ⟨rfl, rfl⟩
  exact ⟨r, [], .refl _, rfl, List.nodup_nil, List.nodup_nil, (fun x hx => by simp [keys] at hx), .inl rfl, hd, hK⟩
end
end Go.Bb
end
section
/-! Nested slices of the call's own. -/
set_option linter.unusedVariables false
set_option linter.unusedSimpArgs false
namespace Go.Bb
theorem q_callY {P : Program} {c : Cx} {all r : List Oper} {σ : St} {K : St → Prop} {o : Oper} {f : FuncId} {avs avs1 : List AV} {r0 : AV} (ys : List Nat) (Z : List (Value × AV)) {j : Nat} {want t : Bool} (hg : o.guard = some (j, want)) (hs : guardA all σ j = some (.bool t)) (ht : t = want) (hcore : Core P c σ o f avs) (hS : Does P f avs1 [] (ret r0)) (hz : wfrz σ.heap ys Z) (hargs : WkL Z avs1 avs) (hdet : Det r0) (hd : dok o.dst σ.nt = true) (hK : GQ P c all r (σ.put o.dst r0) K) :
    GQ P c all (o :: r) σ K :=
  q_call ys Z (fun _ _ _ _ hr => by unfold Region.wanted; rw [hg]; simp [guard_rel hr hs, ht]) hcore hS hz hargs hdet hd hK
theorem good_unle {P : Program} {c : Cx} {x : Code} {σ : St} {Q : Exit → St → Prop} (h : Good P c x σ fun e σ' => ∃ σ1, Le σ' σ1 ∧ Q e σ1) : Good P c x σ Q := by
  intro F N a w hr
  refine wp_mono (h F N a w hr) ?_
  rintro e a' w' ⟨σ', F', N', ⟨σ1, hle, hq⟩, hr'⟩
  obtain ⟨F2, N2, hr2⟩ := hle c F' N' a' w' hr'
  exact ⟨σ1, F2, N2, hq, hr2⟩
theorem good_namedL {P : Program} {c : Cx} {x : Code} {σ : St} {Q : Exit → St → Prop} (h : ∀ K : St → Prop, (∀ σ' σ1, Le σ' σ1 → Q .normal σ1 → K σ') → Good P c x σ (thenQ K Q)) : Good P c x σ Q := by
  refine good_unle ((h (fun σ' => ∃ σ1, Le σ' σ1 ∧ Q .normal σ1) fun σ' σ1 h1 h2 => ⟨σ1, h1, h2⟩).mono ?_)
  intro e σ' h'
  cases e with
  | normal => exact h'
  | _ => exact ⟨σ', Le.refl _, h'⟩
theorem cong2 {α β γ : Type} (f : α → β → γ) {a a' : α} {b b' : β} (h1 : a = a') (h2 : b = b') : f a b = f a' b' := by rw [h1, h2]
theorem cong3 {α β γ δ : Type} (f : α → β → γ → δ) {a a' : α} {b b' : β} {c c' : γ} (h1 : a = a') (h2 : b = b') (h3 : c = c') : f a b c = f a' b' c' := by rw [h1, h2, h3]

inductive NilTo : AV → AV → Prop
  | refl (a : AV) : NilTo a a
  | nil (t sz : Nat) : NilTo .nil (.osl t sz [])
inductive RowTo : List AV → List AV → Prop
  | nil : RowTo [] []
  | cons {a b : AV} {l m : List AV} (h : NilTo a b) (t : RowTo l m) : RowTo (a :: l) (b :: m)
theorem RowTo.refl : ∀ l : List AV, RowTo l l
  | [] => .nil
  | a :: l => .cons (.refl a) (RowTo.refl l)
theorem RowTo.get {l m : List AV} (h : RowTo l m) : l.length = m.length ∧ ∀ (j : Nat) b, m[j]? = some b → ∃ a, l[j]? = some a ∧ NilTo a b := by
  induction h with
  | nil => exact ⟨rfl, fun j b h => by simp at h⟩
  | cons h t ih =>
    refine ⟨by simp [ih.1], fun j b hj => ?_⟩
    cases j with
    | zero => simp at hj; subst hj; exact ⟨_, rfl, h⟩
    | succ j => simpa using ih.2 j b (by simpa using hj)
inductive RowsTo : List (List AV) → List (List AV) → Prop
  | nil : RowsTo [] []
  | cons {a b : List AV} {l m : List (List AV)} (h : RowTo a b) (t : RowsTo l m) : RowsTo (a :: l) (b :: m)
theorem RowsTo.get {l m : List (List AV)} (h : RowsTo l m) : l.length = m.length ∧ ∀ (j : Nat) b, m[j]? = some b → ∃ a, l[j]? = some a ∧ RowTo a b := by
  induction h with
  | nil => exact ⟨rfl, fun j b h => by simp at h⟩
  | cons h t ih =>
    refine ⟨by simp [ih.1], fun j b hj => ?_⟩
    cases j with
    | zero => simp at hj; subst hj; exact ⟨_, rfl, h⟩
    | succ j => simpa using ih.2 j b (by simpa using hj)
theorem RowsTo.map {α : Type} {f g : α → List AV} : ∀ {l : List α}, (∀ x ∈ l, RowTo (f x) (g x)) → RowsTo (l.map f) (l.map g)
  | [], _ => .nil
  | x :: l, h => .cons (h x List.mem_cons_self) (RowsTo.map fun y hy => h y (List.mem_cons_of_mem _ hy))
theorem RowsTo.repl {α : Type} {f g : α → List AV} {n : Nat} {z : α} (h : RowTo (f z) (g z)) : RowsTo ((List.replicate n z).map f) ((List.replicate n z).map g) :=
  RowsTo.map fun x hx => by rw [List.eq_of_mem_replicate hx]; exact h

/-- A slice that is nil, in a cell, owns nothing. -/
theorem OwnV.nils {N : Nat → Prop} {w : World} {S : Nat → Prop} {v : Value} {t sz : Nat} {rows rows' : List (List AV)} (h : OwnV N w S (.osl t sz rows) v) (hr : RowsTo rows rows') : OwnV N w S (.osl t sz rows') v := by
  obtain ⟨e, hg⟩ := hr.get
  cases h with
  | frz _ _ _ h => cases h
  | osl0 => cases hr; exact .osl0 _ _ _
  | osl _ _ _ _ b cap arr G uu hb hh hsz hl hm hrr hG hd hc ho =>
    rw [e] at hl ⊢
    refine .osl _ _ _ _ b cap arr G uu hb hh hsz hl hm (fun i row hi => ?_) hG hd (fun i row j av hi hj => ?_) (fun i row j av hi hj => ?_)
    · obtain ⟨r0, h1, h2⟩ := hg i row hi
      rw [← h2.get.1]; exact hrr i r0 h1
    · obtain ⟨r0, h1, h2⟩ := hg i row hi
      obtain ⟨a, h3, h4⟩ := h2.get.2 j av hj
      exact hc i r0 j a h1 h3
    · obtain ⟨r0, h1, h2⟩ := hg i row hi
      obtain ⟨a, h3, h4⟩ := h2.get.2 j av hj
      have h5 := ho i r0 j a h1 h3
      cases h4 with
      | refl => exact h5
      | nil t2 sz2 =>
        generalize uu i j = z at h5
        cases h5 with
        | frz _ _ _ h => cases h; exact .osl0 _ _ _

theorem le_nils {σ : St} {k : Nat} {v : Value} {t sz : Nat} {rows rows' : List (List AV)} (hk : getk k σ.heap = some (v, .osl t sz rows)) (hr : RowsTo rows rows') : Le σ ⟨σ.nt, σ.slots, (k, (v, .osl t sz rows')) :: minus σ.heap [k]⟩ := by
  intro c F N a w hr'
  have m1 := get_mem_keys hk
  have hF : ∀ z, z ∈ keys ((k, (v, AV.osl t sz rows')) :: minus σ.heap [k]) → z ∈ keys σ.heap := fun z hz => by
    simp only [keys, List.map_cons, List.mem_cons] at hz
    rcases hz with rfl | hz
    · exact m1
    · exact (mem_minus hz).2
  refine ⟨F, N, hr'.reheap _ _ (fun y v' o' hy => ?_) (fun y hy b hb => ⟨y, hF y hy, hb⟩) (fun y z hy hz hne b hb => hr'.heap.disj y z (hF y hy) (hF z hz) hne b hb)⟩
  simp only [getk] at hy
  by_cases e : y = k
  · subst e
    rw [if_pos rfl] at hy; cases hy
    exact ⟨(hr'.heap.own _ _ _ hk).nils hr, hr'.heap.one _ _ _ hk⟩
  · rw [if_neg (fun h => e h.symm)] at hy
    obtain ⟨_, h2⟩ := get_minus hy
    exact ⟨hr'.heap.own _ _ _ h2, hr'.heap.one _ _ _ h2⟩

section
variable {P : Program} {T : Tab} {c : Cx} {o : Oper} {σ : St} {K : St → Prop}

theorem OpOk.le (h : OpOk P c o σ fun σ' => ∃ σ1, Le σ' σ1 ∧ K σ1) : OpOk P c o σ K := fun F N a w hr next Q hn =>
  h F N a w hr next Q fun σ' F' N' a' w' ⟨σ1, h1, h2⟩ hr' => let ⟨F1, N1, hr1⟩ := h1 c F' N' a' w' hr'; hn σ1 F1 N1 a' w' h2 hr1

def nodupB : List Nat → Bool
  | [] => true
  | x :: l => !l.contains x && nodupB l
theorem nodupB_ok : ∀ {l : List Nat}, nodupB l = true → l.Nodup
  | [], _ => List.nodup_nil
  | x :: l, h => by
    simp only [nodupB, Bool.and_eq_true, Bool.not_eq_true', List.contains_eq_mem, decide_eq_false_iff_not] at h
    exact List.nodup_cons.2 ⟨h.1, nodupB_ok h.2⟩
def clearB (hN H : HP) : Bool := (keys hN).all fun x => !(keys H).contains x
theorem clearB_ok {hN H : HP} (h : clearB hN H = true) : ∀ x ∈ keys hN, has x H = false := fun x hx => by
  have := List.all_eq_true.1 h x hx
  simpa [has] using this

/-- A call that hands back what it made. -/
theorem o_callD {f : FuncId} {avs avs1 : List AV} {hs : HP} {R : AV → HP → Prop} (ys : List Nat) (Z : List (Value × AV)) (ms : List Nat) (hcore : Core P c σ o f avs) (hS : Does P f avs1 hs R) (hz : wfrz σ.heap ys Z) (hargs : WkL Z avs1 avs) (hsrc : wsrc σ.heap ms hs) (hnd : nodupB ms = true) (hym : (ys.all fun y => !ms.contains y) = true) (hd : dok o.dst σ.nt = true)
    (hK : ∀ r h', R r h' → ∃ r' hN, Wk [] r' r ∧ hN.map (·.2) = h'.map (·.2) ∧ nodupB (keys hN) = true ∧ nodupB (keys h') = true ∧ clearB hN (minus σ.heap ms) = true ∧ (ys = [] ∨ (Scal r ∧ ∀ p ∈ h', Cln p.2.2)) ∧ K ({ σ with heap := hN ++ minus σ.heap ms }.put o.dst r')) : OpOk P c o σ K := by
  refine o_call ys Z ms hcore hS hz hargs hsrc (nodupB_ok hnd) (fun y hy => by have := List.all_eq_true.1 hym y hy; simpa using this) fun r h' hR => ?_
  obtain ⟨r', hN, h1, h2, h3, h4, h5, h6, h7⟩ := hK r h' hR
  exact ⟨r', hN, h1, h2, nodupB_ok h3, nodupB_ok h4, clearB_ok h5, h6, hd, h7⟩
end

theorem cln_rows {α : Type} {f : α → List AV} {t sz : Nat} {l : List α} (h : ∀ x, ∀ av ∈ f x, Cln av) : Cln (.osl t sz (l.map f)) :=
  .osl _ _ _ fun row hr => by obtain ⟨x, _, rfl⟩ := List.mem_map.1 hr; exact h x

theorem rows_set_get {rows : List (List AV)} {i : Nat} {r : List AV} (h : i < rows.length) : (rows.set i r)[i]? = some r := by simp [h]
theorem rows_set_set {rows : List (List AV)} {i : Nat} {a b : List AV} : (rows.set i a).set i b = rows.set i b := List.set_set ..
theorem rows_set_done {α : Type} {l : List α} {f : α → List AV} {z : α} {i : Nat} {a b : List AV} (h : f z = b) : ((l.map f).set i a).set i b = (l.set i z).map f := by rw [List.set_set, List.map_set, h]

/-- What is handed back may be given away to be read. -/
theorem does_frz {P : Program} {f : FuncId} {avs : List AV} {R : AV → HP → Prop} {r0 : AV} (h : Does P f avs [] R) (hR : ∀ r h', R r h' → ∃ ys Z, wfrz h' ys Z ∧ Wk Z r0 r) : Does P f avs [] (ret r0) := by
  refine ⟨h.1, fun F N w vs h1 h2 => (h.2 F N w vs h1 h2).mono ?_⟩
  rintro e w' ⟨v, r, h', F', N', rfl, hr, hv, hh', hmay, hN1, hN2, hU⟩
  obtain ⟨ys, Z, hz, hk⟩ := hR r h' hr
  have hZ : ∀ v av, (v, av) ∈ Z → RelV (fun k => N' k ∧ ¬ ∃ y, y ∈ ys ∧ y ∈ keys h' ∧ F' y k) w' av v := by
    intro v av hm
    obtain ⟨y, o, h3, h4, h5⟩ := wfrz_mem hz v av hm
    exact (hh'.own y v o h4).freeze h5 (fun k hk => ⟨hk.1, fun hF => hk.2 ⟨y, h3, get_mem_keys h4, hF⟩⟩)
  refine ⟨v, r0, [], F', fun k => N' k ∧ ¬ ∃ y, y ∈ ys ∧ y ∈ keys h' ∧ F' y k, rfl, ⟨rfl, rfl⟩, hk.rel hZ (hv.mono (.refl _ _) (fun _ _ h => h.1)), ⟨(fun x v o h => by cases h), (fun x h => by cases h), (fun x y h => by cases h), (fun x v o h => by cases h)⟩, (fun x h => by cases h), fun k hk h => hN1 k hk h.1, fun k hk hn => ?_, hU⟩
  rcases hN2 k hk hn with h3 | ⟨y, hy, _⟩
  · refine .inl ⟨h3, ?_⟩
    rintro ⟨y, _, h4, h5⟩
    rcases hmay y h4 k h5 with ⟨z, hz, _⟩ | h6
    · simp [keys] at hz
    · omega
  · simp [keys] at hy
theorem len_setI {α : Type} {l : List α} {n : Int} {i : Nat} {z : α} (h : 0 ≤ n ∧ n < l.length) : 0 ≤ n ∧ n < (l.set i z).length := by rw [List.length_set]; exact h
theorem ix_setI {α : Type} [Inhabited α] {l : List α} {n : Int} {z : α} (h : 0 ≤ n ∧ n < l.length) : ix (l.set n.toNat z) n = z := by
  unfold ix
  have : n.toNat < l.length := by omega
  simp [List.getD, this]
theorem rows_set_done2 {α : Type} {l : List α} {f : α → List AV} {z z0 : α} {i : Nat} {a b : List AV} (h : f z = b) : (((l.set i z0).map f).set i a).set i b = (l.set i z).map f := by rw [List.set_set, List.map_set, List.set_set, List.map_set, h]
theorem o_storeRU {P : Program} {T : Tab} {c : Cx} {σ : St} {K : St → Prop} {d : Option Tmp} {ty : TypeId} {pos : String} {af : Array Edge} {g : Option (Nat × Bool)} {α : Type} [Inhabited α] {l : List α} {f : α → List AV}
    (hT : TabOk P T) {t n q sz off : Nat} {i : Int} {u : TypeId} {pv : Value} {x y : Operand} {v : AV} {row vs row' : List AV} {z z0 : α} (hx : evA σ x = some (.rptr q pv sz i.toNat off)) (hh : getk q σ.heap = some (pv, .osl u sz ((l.set i.toNat z0).map f))) (hs : T.size t = some n) (hy : evA σ y = some v)
    (hb : 0 ≤ i ∧ i < (l.set i.toNat z0).length) (hrow : f (ix (l.set i.toNat z0) i) = row) (hvs : cellsA v = vs) (hl : vs.length = n) (hin : off + n ≤ sz) (hc : cellsOk vs = true) (hcs : splice row off vs = row') (hz : f z = row') (hd : dok d σ.nt = true)
    (hK : K ({ σ with heap := (q, (pv, .osl u sz ((l.set i.toNat z).map f))) :: minus σ.heap [q] }.put d .und)) : OpOk P c ⟨d, .store t x y, ty, pos, af, g⟩ σ K :=
  o_storeRM (z := z) hT hx hh hs hy hb hrow hvs hl hin hc hcs hz hd (by rw [List.set_set]; exact hK)

/-- The same, where what else is owned is not known by name. -/
theorem o_callDa {P : Program} {c : Cx} {o : Oper} {σ : St} {K : St → Prop} {f : FuncId} {avs avs1 : List AV} {hs : HP} {R : AV → HP → Prop} (ys : List Nat) (Z : List (Value × AV)) (ms : List Nat) (hcore : Core P c σ o f avs) (hS : Does P f avs1 hs R) (hz : wfrz σ.heap ys Z) (hargs : WkL Z avs1 avs) (hsrc : wsrc σ.heap ms hs) (hnd : nodupB ms = true) (hym : (ys.all fun y => !ms.contains y) = true) (hd : dok o.dst σ.nt = true)
    (hK : ∀ r h', R r h' → ∃ r' hN, Wk [] r' r ∧ hN.map (·.2) = h'.map (·.2) ∧ nodupB (keys hN) = true ∧ nodupB (keys h') = true ∧ (∀ x ∈ keys hN, has x (minus σ.heap ms) = false) ∧ (ys = [] ∨ (Scal r ∧ ∀ p ∈ h', Cln p.2.2)) ∧ K ({ σ with heap := hN ++ minus σ.heap ms }.put o.dst r')) : OpOk P c o σ K := by
  refine o_call ys Z ms hcore hS hz hargs hsrc (nodupB_ok hnd) (fun y hy => by have := List.all_eq_true.1 hym y hy; simpa using this) fun r h' hR => ?_
  obtain ⟨r', hN, h1, h2, h3, h4, h5, h6, h7⟩ := hK r h' hR
  exact ⟨r', hN, h1, h2, nodupB_ok h3, nodupB_ok h4, h5, h6, hd, h7⟩

def updH (ν : Nat → Value) (hN : HP) : Nat → Value := fun j => match getk j hN with | some y => y.1 | none => ν j
theorem getk_none {α : Type} {k : Nat} : ∀ {l : List (Nat × α)}, k ∉ keys l → getk k l = none
  | [], _ => rfl
  | (i, y) :: l, h => by
    simp only [keys, List.map_cons, List.mem_cons, not_or] at h
    simp only [getk]
    rw [if_neg (fun e => h.1 e.symm)]
    exact getk_none h.2
/-- Several things are made at once. -/
theorem lp_mm {o : Oper} {x : LO} {av : (Nat → Value) → List AV} {hv : (Nat → Value) → HP} {i nt : Nat} {ν : Nat → Value} {S S' : List (Nat × AV)} {H : HP} {v : AV} {rs : List Nat} {hN : HP} (hS : ∀ t a, getk t S = some a → ∃ b, getk t S' = some b ∧ Wk [] a b) (ha : x.add = keys hN) (hr : x.rem = rs) (hv' : o.dst ≠ none → (av (updH ν hN))[i]? = some v) (hh : wsubH (hv (updH ν hN)) hN) :
    LPost av hv i o x nt ν S H (St.put ⟨nt, S', hN ++ minus H rs⟩ o.dst v) := by
  subst hr
  refine ⟨updH ν hN, v, hN, fun j hj => by unfold updH; rw [getk_none (by rw [← ha]; exact hj)], hv', ha.symm, fun k y h => wsubH_get hh k y h, ?_⟩
  refine le_sem [] [] id (by rw [St.put_nt, St.put_nt]) trivial (put_slots [] (.refl _) hS) (fun k u o1 h => ⟨o1, ?_, .refl _⟩) (fun x y _ _ h => h) (fun y h => by cases h)
  rw [St.put_heap] at h ⊢
  exact h

theorem cons_eq {a b : List AV} {l m : List (List AV)} (h : b = a) (t : l = m) : a :: l = b :: m := by rw [h, t]
theorem getk_cons_ne {α : Type} {k j : Nat} {x : α} {M : List (Nat × α)} (h : j ≠ k) : getk j ((k, x) :: M) = getk j M := by
  simp only [getk]; rw [if_neg (fun e => h e.symm)]
theorem le_absorb1 {nt : Nat} {S : List (Nat × AV)} {M : HP} {k k2 : Nat} {v u : Value} {t sz : Nat} {rows rows' : List (List AV)} {row : List AV} {o2 : AV} (i j x : Nat) (hk2 : getk k2 M = some (u, o2)) (hne : k ≠ k2)
    (hrow : rows[i]? = some row) (hj : row[j]? = some (.hd x u)) (he : rows.set i (row.set j o2) = rows') : Le ⟨nt, S, (k, (v, .osl t sz rows)) :: M⟩ ⟨nt, S, (k, (v, .osl t sz rows')) :: minus M [k2]⟩ := by
  have hk : getk k ((k, (v, AV.osl t sz rows)) :: M) = some (v, .osl t sz rows) := by simp [getk]
  refine (le_absorb (σ := ⟨nt, S, (k, (v, .osl t sz rows)) :: M⟩) (k := k) (k2 := k2) i j x hk (by rw [getk_cons_ne hne.symm]; exact hk2) hne hrow hj he).trans ?_
  refine le_get rfl (fun _ _ h => h) fun j y hy => ?_
  by_cases e : j = k
  · subst e; simpa [getk] using hy
  · rw [getk_cons_ne e] at hy ⊢
    obtain ⟨h1, h2⟩ := get_minus hy
    exact getk_minus (by simp at h1 ⊢; exact ⟨e, h1⟩) (by rw [getk_cons_ne e]; exact h2)
theorem le_nils1 {nt : Nat} {S : List (Nat × AV)} {M : HP} {k : Nat} {v : Value} {t sz : Nat} {rows rows1 rows' : List (List AV)} (hr : RowsTo rows rows1) (he : rows1 = rows') : Le ⟨nt, S, (k, (v, .osl t sz rows)) :: M⟩ ⟨nt, S, (k, (v, .osl t sz rows')) :: M⟩ := by
  subst he
  have hk : getk k ((k, (v, AV.osl t sz rows)) :: M) = some (v, .osl t sz rows) := by simp [getk]
  refine (le_nils (σ := ⟨nt, S, (k, (v, .osl t sz rows)) :: M⟩) (k := k) hk hr).trans ?_
  refine le_get rfl (fun _ _ h => h) fun j y hy => ?_
  by_cases e : j = k
  · subst e; simpa [getk] using hy
  · rw [getk_cons_ne e] at hy ⊢
    exact getk_minus (by simpa using e) (by rw [getk_cons_ne e]; exact hy)
theorem le_nilsR {nt : Nat} {S : List (Nat × AV)} {M : HP} {k : Nat} {v : Value} {t sz : Nat} {rows rows' : List (List AV)} (hr : RowsTo rows rows') : Le ⟨nt, S, (k, (v, .osl t sz rows)) :: M⟩ ⟨nt, S, (k, (v, .osl t sz rows')) :: M⟩ := le_nils1 hr rfl
theorem le_mm {nt : Nat} {S : List (Nat × AV)} {p : Nat × (Value × AV)} {M : HP} {a b rs : List Nat} (h : a ++ b = rs) : Le ⟨nt, S, p :: minus (minus M a) b⟩ ⟨nt, S, p :: minus M rs⟩ := by
  subst h
  refine le_get rfl (fun _ _ h => h) fun j y hy => ?_
  by_cases e : j = p.1
  · obtain ⟨k, x⟩ := p
    subst e; simpa [getk] using hy
  · obtain ⟨k, x⟩ := p
    rw [getk_cons_ne e] at hy ⊢
    obtain ⟨h1, h2⟩ := get_minus hy
    simp at h1
    exact getk_minus h1.2 (getk_minus h1.1 h2)
theorem le_mm0 {nt : Nat} {S : List (Nat × AV)} {p : Nat × (Value × AV)} {M : HP} {a rs : List Nat} (h : (a.all fun x => rs.contains x) = true) : Le ⟨nt, S, p :: minus M a⟩ ⟨nt, S, p :: minus M rs⟩ := by
  refine le_get rfl (fun _ _ h => h) fun j y hy => ?_
  by_cases e : j = p.1
  · obtain ⟨k, x⟩ := p
    subst e; simpa [getk] using hy
  · obtain ⟨k, x⟩ := p
    rw [getk_cons_ne e] at hy ⊢
    obtain ⟨h1, h2⟩ := get_minus hy
    refine getk_minus (fun hm => h1 ?_) h2
    have := List.all_eq_true.1 h j hm
    simpa using this
end Go.Bb
end
section
/-! Copies. -/
set_option linter.unusedVariables false
set_option linter.unusedSimpArgs false
set_option maxRecDepth 100000
namespace Go.Bb
section
variable {P : Program} {T : Tab} {c : Cx} {F : Nat → Nat → Prop} {o : Oper} {σ : St} {K : St → Prop} {N : Nat → Prop} {a : Act} {w : World} {all r : List Oper}
variable {d : Option Tmp} {ty : TypeId} {pos : String} {af : Array Edge} {g : Option (Nat × Bool)}

theorem o_copyS (hT : TabOk P T) {dT sT e q : Nat} {u : TypeId} {pv : Value} {x y : Operand} {z : Bool} {rows : List (List AV)} {l : List (List UInt8)} (hx : ∃ k, evA σ x = some (.hd k pv)) (hh : getk q σ.heap = some (pv, .osl u 1 rows)) (hy : evA σ y = some (.sl z (l.map encS)))
    (he : T.elem dT = some e) (hs : T.size e = some 1) (hl : rows.length = l.length) (hne : l ≠ []) (hd : dok d σ.nt = true)
    (hK : K ({ σ with heap := (q, (pv, .osl u 1 (l.map encS))) :: minus σ.heap [q] }.put d (.int .i64 l.length))) : OpOk P c ⟨d, .call ⟨.builtin .copy, #[x, y], #[dT, sT]⟩, ty, pos, af, g⟩ σ K := by
  intro F N a w hr next Q hn
  obtain ⟨k, hx⟩ := hx
  have hp := evA_rel hr hx
  have hp2 := evA_rel hr hy
  generalize hv : a.eval x = vx at hp
  generalize hv2 : a.eval y = vy at hp2
  have hqk := get_mem_keys hh
  have ho := hr.heap.own q _ _ hh
  have hone := hr.heap.one q _ _ hh
  have hpos : 0 < l.length := List.length_pos_iff.2 hne
  cases hp with
  | hd _ _ _ =>
    generalize hrs : List.map encS l = rs at hp2
    have hrl0 : rs.length = l.length := by rw [← hrs]; simp
    cases hp2 with
    | slNil => simp at hrl0; omega
    | sl _ _ ad scap sz uu hsp hcc hmx2 g1 g2 g3 g4 =>
      subst hrs
      have hsz1 : sz = 1 := by
        have := g1 0 (encS l[0]) (by simp [hpos])
        simpa [encS] using this.symm
      subst hsz1
      cases ho with
      | frz _ _ _ h => cases h
      | osl0 => simp at hl; omega
      | osl _ _ _ _ b cap arr G uo hb hhb hsz hlc hmx hrl hG hdj hcc2 ho =>
        have hcellv : ∀ (j : Nat) (h : j < l.length), w.cell? (ad.add j) = some (uu j 0) ∧ RelV N w (.str l[j]) (uu j 0) := by
          intro j hj
          have hrow : (l.map encS)[j]? = some (encS l[j]) := by simp [hj]
          have c1 := (g2 j _ 0 (.str l[j]) hrow rfl).2
          have c2 := g3 j _ 0 (.str l[j]) hrow rfl
          refine ⟨?_, c2⟩
          have hs0 := hsp (by rw [hrl0]; exact hpos)
          obtain ⟨bk, off, spot⟩ := ad
          simp only at hs0
          subst hs0
          rw [add_none _ _ rfl]
          simpa using c1
        have hcslen : ((List.range l.length).map fun j => uu j 0).length = l.length := by simp
        have hrun := run_copy_row (P := P) w dT sT ty e b 0 rows.length cap ad (l.map encS).length scap arr u ((List.range l.length).map fun j => uu j 0)
          (hT.elem he) (by obtain ⟨i, h1, h2⟩ := hT.size hs; rw [h1]; simp [h2]) hhb (by rw [hcslen, hrl0, hl]; simp) (fun j v hj => by
            rw [List.getElem?_map] at hj
            obtain ⟨i, hi, rfl⟩ := Option.map_eq_some_iff.1 hj
            have hlt : j < l.length := by
              rcases Nat.lt_or_ge j l.length with h | h
              · exact h
              · rw [List.getElem?_eq_none (by simpa using h)] at hi; cases hi
            rw [List.getElem?_range hlt] at hi
            cases hi
            exact (hcellv j hlt).1) (by rw [hcslen]; omega) (fun v hv => by
            obtain ⟨j, hj, rfl⟩ := List.mem_map.1 hv
            have := (hcellv j (List.mem_range.1 hj)).2
            generalize uu j 0 = q0 at this
            cases this; rfl)
        rw [hcslen] at hrun
        generalize hcs : ((List.range l.length).map fun j => uu j 0) = cs at hrun hcslen
        have hcsget : ∀ j, j < l.length → cs[j]? = some (uu j 0) := fun j hj => by
          rw [← hcs, List.getElem?_map, List.getElem?_range hj]; rfl
        unfold Oper.wp
        have hex : (execOp a.eval ⟨d, .call ⟨.builtin .copy, #[x, y], #[dT, sT]⟩, ty, pos, af, g⟩).run P w = .ok (.value (goInt l.length)) (w.setRow b (arr.toList.take 0 ++ cs ++ arr.toList.drop (0 + l.length)).toArray) := by
          simp only [execOp, resolve]
          simp [invoke, builtin, hv, hv2]
          simp at hrun
          rw [hrun]
          rfl
        rw [hex]
        have hother : ∀ j, j ≠ b → (w.setRow b (arr.toList.take 0 ++ cs ++ arr.toList.drop (0 + l.length)).toArray).heap[j]? = w.heap[j]? := fun j hj => setRow_other w b j _ hj
        refine hn _ _ _ _ _ hK ((hr.repl [q] q (v := .slice (some ⟨b, 0, none⟩) rows.length cap) (av := .osl u 1 (l.map encS)) (w' := w.setRow b (arr.toList.take 0 ++ cs ++ arr.toList.drop (0 + l.length)).toArray) (S := F q) ?_ rfl rfl rfl (by simp) (fun j hj hF => hother j (fun e => hF q (by simp) hqk (e ▸ hb))) (fun j hj => .inl ⟨q, by simp, hqk, hj⟩) rfl (fun N' hN => ?_)).put (dok_ok hd) (.int _ _))
        · unfold has; rw [List.contains_eq_mem]; simp only [decide_eq_false_iff_not]
          intro h; exact (mem_minus h).1 (by simp)
        · have hL : Later N w (w.setRow b (arr.toList.take 0 ++ cs ++ arr.toList.drop (0 + l.length)).toArray) := ⟨by simp, fun j hj hNj => hother j (fun e => hNj (e ▸ (hr.heap.foot q hqk b hb).1))⟩
          have hrow1 : ∀ (p : Nat) (row : List AV) (j : Nat) av, (l.map encS)[p]? = some row → row[j]? = some av → ∃ h : p < l.length, j = 0 ∧ av = .str l[p] := by
            intro p row j av hp hj
            rw [List.getElem?_map] at hp
            obtain ⟨t, ht, rfl⟩ := Option.map_eq_some_iff.1 hp
            obtain ⟨hlt, rfl⟩ := List.getElem?_eq_some_iff.1 ht
            refine ⟨hlt, ?_⟩
            match j, hj with
            | 0, hj => cases hj; exact ⟨rfl, rfl⟩
          have hlen2 : rows.length = (l.map encS).length := by rw [hl]; simp
          rw [hlen2]
          refine .osl _ _ _ _ b cap (arr.toList.take 0 ++ cs ++ arr.toList.drop (0 + l.length)).toArray (fun _ _ _ => False) (fun p j => uu p 0) hb (setRow_heap w b arr _ u (0, 0) hhb) ?_ (by simp; omega) hmx ?_ (fun p j k h => h.elim) (fun p j p' j' k h _ => h.elim) (fun p row j av hp hj => ?_) (fun p row j av hp hj => ?_)
          · simp only [List.size_toArray, List.length_append, List.length_take, List.length_drop, hcslen, Array.length_toList, hsz]
            omega
          · intro p row hp
            rw [List.getElem?_map] at hp
            obtain ⟨t, ht, rfl⟩ := Option.map_eq_some_iff.1 hp
            rfl
          · obtain ⟨hlt, rfl, rfl⟩ := hrow1 p row j av hp hj
            simp only [List.getElem?_toArray, List.take_zero, List.nil_append, Nat.mul_one, Nat.add_zero]
            rw [List.getElem?_append_left (by rw [hcslen]; exact hlt)]
            exact hcsget p hlt
          · obtain ⟨hlt, rfl, rfl⟩ := hrow1 p row j av hp hj
            exact .frz _ _ _ ((hcellv p hlt).2.mono hL hN)
end
end Go.Bb
end
section
/-! Enough fuel. -/
set_option linter.unusedVariables false
set_option linter.unusedSimpArgs false
namespace Go.Bb

/-- With enough fuel. -/
def Ev {α : Type} (m : Nat → Option α) (r : α) : Prop := ∃ K, ∀ k, K ≤ k → m k = some r

section
variable {α β γ S : Type}
theorem Ev.get {m : Nat → Option α} {r : α} (h : Ev m r) : ∃ k, m k = some r := let ⟨K, h⟩ := h; ⟨K, h K (Nat.le_refl _)⟩
theorem ev_some (r : α) : Ev (fun _ => some r) r := ⟨0, fun _ _ => rfl⟩
theorem ev_eq {m : Nat → Option α} {r r' : α} (h : Ev m r) (e : r = r') : Ev m r' := e ▸ h
theorem ev_shift {m : Nat → Option α} {r : α} : Ev m r ↔ Ev (fun k => m (k + 1)) r :=
  ⟨fun ⟨K, h⟩ => ⟨K, fun k hk => h (k + 1) (by omega)⟩, fun ⟨K, h⟩ => ⟨K + 1, fun k hk => by obtain ⟨j, rfl⟩ : ∃ j, k = j + 1 := ⟨k - 1, by omega⟩; exact h j (by omega)⟩⟩
theorem Ev.bind {m : Nat → Option α} {g : Nat → α → Option β} {a : α} {r : β} (h : Ev m a) (h2 : Ev (fun k => g k a) r) : Ev (fun k => (m k).bind (g k)) r := by
  obtain ⟨K, h⟩ := h
  obtain ⟨K2, h2⟩ := h2
  refine ⟨max K K2, fun k hk => ?_⟩
  simp only
  rw [h k (by omega)]
  exact h2 k (by omega)
theorem ev_bindS {g : Nat → α → Option β} {a : α} {r : β} (h2 : Ev (fun k => g k a) r) : Ev (fun k => (some a).bind (g k)) r := h2
theorem ev_ifT {c : Prop} [Decidable c] {f g : Nat → Option α} {r : α} (hc : c) (h : Ev f r) : Ev (fun k => if c then f k else g k) r := by
  simpa only [if_pos hc] using h
theorem ev_ifF {c : Prop} [Decidable c] {f g : Nat → Option α} {r : α} (hc : ¬ c) (h : Ev g r) : Ev (fun k => if c then f k else g k) r := by
  simpa only [if_neg hc] using h
theorem ev_ite {c : Prop} [Decidable c] {f g : Nat → Option α} {r : α} (h1 : c → Ev f r) (h2 : ¬ c → Ev g r) : Ev (fun k => if c then f k else g k) r := by
  by_cases hc : c
  · exact ev_ifT hc (h1 hc)
  · exact ev_ifF hc (h2 hc)
theorem Ev.go {m : Nat → Option (Lp S β)} {f : Nat → S → Option β} {s : S} {r : β} (h : Ev m (.go s)) (h2 : Ev (fun k => f k s) r) : Ev (fun k => (m k).bind fun o => o.then (f k)) r :=
  Ev.bind (g := fun k o => o.then (f k)) h h2
theorem Ev.ret {m : Nat → Option (Lp S β)} {f : Nat → S → Option β} {r : β} (h : Ev m (.ret r)) : Ev (fun k => (m k).bind fun o => o.then (f k)) r :=
  Ev.bind (g := fun k o => o.then (f k)) h (ev_some r)

/-- A loop that goes on while all is well. -/
theorem ev_all_go {L : Nat → Int → Option (Lp Unit β)} {n : Nat} {g : Nat → Bool} (hs : ∀ (i : Nat) r, i < n → g i = true → Ev (fun k => L k ((i : Int) + 1)) r → Ev (fun k => L k i) r) (he : Ev (fun k => L k n) (.go ())) :
    ∀ (d j : Nat), j + d = n → (∀ i, j ≤ i → i < n → g i = true) → Ev (fun k => L k j) (.go ())
  | 0, j, hj, _ => by rw [show j = n by omega]; exact he
  | d + 1, j, hj, h => hs j _ (by omega) (h j (by omega) (by omega)) (by
      have := ev_all_go hs he d (j + 1) (by omega) (fun i hi => h i (by omega))
      simpa using this)
theorem ev_all_ret {L : Nat → Int → Option (Lp Unit β)} {n : Nat} {g : Nat → Bool} {rv : β} (hs : ∀ (i : Nat) r, i < n → g i = true → Ev (fun k => L k ((i : Int) + 1)) r → Ev (fun k => L k i) r) (hr : ∀ i : Nat, i < n → g i = false → Ev (fun k => L k i) (.ret rv)) :
    ∀ (d j : Nat), j + d = n → (∃ i, j ≤ i ∧ i < n ∧ g i = false) → Ev (fun k => L k j) (.ret rv)
  | 0, j, hj, ⟨i, h1, h2, _⟩ => by omega
  | d + 1, j, hj, ⟨i, h1, h2, h3⟩ => by
    cases hg : g j with
    | false => exact hr j (by omega) hg
    | true =>
      refine hs j _ (by omega) hg ?_
      have := ev_all_ret hs hr d (j + 1) (by omega) ⟨i, (by rcases Nat.lt_or_ge j i with h | h; exact h; rw [show i = j by omega, hg] at h3; cases h3), h2, h3⟩
      simpa using this
/-- Whether all is well. -/
theorem ev_all {L : Nat → Int → Option (Lp Unit Bool)} {n : Nat} (g : Nat → Bool) (hs : ∀ (i : Nat) r, i < n → g i = true → Ev (fun k => L k ((i : Int) + 1)) r → Ev (fun k => L k i) r) (hr : ∀ i : Nat, i < n → g i = false → Ev (fun k => L k i) (.ret false)) (he : Ev (fun k => L k n) (.go ())) {f : Nat → Unit → Option Bool} {b : Bool} (hf : Ev (fun k => f k ()) b) :
    Ev (fun k => (L k 0).bind fun o => o.then (f k)) ((List.range n).all g && b) := by
  by_cases h : ∀ i, 0 ≤ i → i < n → g i = true
  · have h1 : (List.range n).all g = true := List.all_eq_true.2 fun i hi => h i (by omega) (List.mem_range.1 hi)
    rw [h1, Bool.true_and]
    exact Ev.go (by simpa using ev_all_go hs he n 0 (by omega) h) hf
  · have h' : ∃ i, 0 ≤ i ∧ i < n ∧ g i = false := by
      false_or_by_contra
      rename_i hn
      exact h fun i h1 h2 => by
        cases hg : g i with
        | true => rfl
        | false => exact absurd ⟨i, h1, h2, hg⟩ hn
    obtain ⟨i, _, h2, h3⟩ := h'
    have h1 : (List.range n).all g = false := by
      rw [List.all_eq_false]
      exact ⟨i, List.mem_range.2 h2, by simp [h3]⟩
    rw [h1, Bool.false_and]
    exact Ev.ret (by simpa using ev_all_ret (rv := false) hs hr n 0 (by omega) ⟨i, by omega, h2, h3⟩)
/-- A loop that gathers. -/
theorem ev_fold {L : Nat → S → Int → Option (Lp S β)} {n : Nat} (st : Nat → S) (hs : ∀ (i : Nat) r, i < n → Ev (fun k => L k (st (i + 1)) ((i : Int) + 1)) r → Ev (fun k => L k (st i) i) r) (he : Ev (fun k => L k (st n) n) (.go (st n))) :
    ∀ (d j : Nat), j + d = n → Ev (fun k => L k (st j) j) (.go (st n))
  | 0, j, hj => by rw [show j = n by omega]; exact he
  | d + 1, j, hj => hs j _ (by omega) (by
      have := ev_fold st hs he d (j + 1) (by omega)
      simpa using this)
end

theorem wrap_id {n : Int} (h : -9223372036854775808 ≤ n ∧ n ≤ 9223372036854775807) : IntKind.wrap .i64 n = n := IntWalk.i64_in n h
theorem ix_nat {α : Type} [Inhabited α] {l : List α} {i : Nat} (h : i < l.length) : ix l (i : Int) = l[i] := by
  unfold ix
  simp [List.getD, h]
theorem range_all {α : Type} [Inhabited α] (l : List α) (p : α → Bool) : ((List.range l.length).all fun i => p (ix l (i : Int))) = l.all p := by
  rw [Bool.eq_iff_iff, List.all_eq_true, List.all_eq_true]
  constructor
  · intro h x hx
    obtain ⟨i, hi, rfl⟩ := List.mem_iff_getElem.1 hx
    have := h i (List.mem_range.2 hi)
    rwa [ix_nat hi] at this
  · intro h i hi
    have hi := List.mem_range.1 hi
    rw [ix_nat hi]
    exact h _ (List.getElem_mem hi)
end Go.Bb
end
section
/-! Running by simp. -/
set_option linter.unusedVariables false
set_option linter.unusedSimpArgs false
namespace Go.Bb

section
variable {α β γ S : Type}
theorem Ev.det {m : Nat → Option α} {a b : α} (h1 : Ev m a) (h2 : Ev m b) : a = b := by
  obtain ⟨K, h1⟩ := h1
  obtain ⟨K2, h2⟩ := h2
  have := h1 (max K K2) (by omega)
  rw [h2 (max K K2) (by omega)] at this
  exact (Option.some.inj this).symm
/-- A guard that holds, one that fails. -/
theorem evT {c : Prop} [Decidable c] {f g : Nat → Option α} {r : α} (hc : c) : Ev (fun k => if c then f k else g k) r ↔ Ev f r := by
  simp only [if_pos hc]
theorem evF {c : Prop} [Decidable c] {f g : Nat → Option α} {r : α} (hc : ¬ c) : Ev (fun k => if c then f k else g k) r ↔ Ev g r := by
  simp only [if_neg hc]
theorem evbT {c : Prop} [Decidable c] {f g : Nat → Option α} {h : Nat → α → Option β} {r : β} (hc : c) : Ev (fun k => (if c then f k else g k).bind (h k)) r ↔ Ev (fun k => (f k).bind (h k)) r := by
  simp only [if_pos hc]
theorem evbF {c : Prop} [Decidable c] {f g : Nat → Option α} {h : Nat → α → Option β} {r : β} (hc : ¬ c) : Ev (fun k => (if c then f k else g k).bind (h k)) r ↔ Ev (fun k => (g k).bind (h k)) r := by
  simp only [if_neg hc]
/-- A guard that is not decided: both ways. -/
theorem evI {c : Prop} [Decidable c] {f g : Nat → Option α} {r : α} : Ev (fun k => if c then f k else g k) r ↔ (c → Ev f r) ∧ (¬ c → Ev g r) := by
  by_cases hc : c
  · rw [evT hc]; simp [hc]
  · rw [evF hc]; simp [hc]
theorem evbI {c : Prop} [Decidable c] {f g : Nat → Option α} {h : Nat → α → Option β} {r : β} : Ev (fun k => (if c then f k else g k).bind (h k)) r ↔ (c → Ev (fun k => (f k).bind (h k)) r) ∧ (¬ c → Ev (fun k => (g k).bind (h k)) r) := by
  by_cases hc : c
  · rw [evbT hc]; simp [hc]
  · rw [evbF hc]; simp [hc]
theorem evS {x r : α} : Ev (fun _ => some x) r ↔ x = r := by
  constructor
  · exact fun h => Ev.det (ev_some x) h
  · rintro rfl; exact ev_some _
theorem evbS {x : α} {g : Nat → α → Option β} {r : β} : Ev (fun k => (some x).bind (g k)) r ↔ Ev (fun k => g k x) r := Iff.rfl
theorem evJ {m : Nat → Option α} {f : Nat → α → Option β} {g : Nat → β → Option γ} {r : γ} : Ev (fun k => ((m k).bind (f k)).bind (g k)) r ↔ Ev (fun k => (m k).bind fun x => (f k x).bind (g k)) r := by
  simp only [Option.bind_assoc]
/-- A call whose answer is known. -/
theorem evC {m : Nat → Option α} {a : α} (h : Ev m a) {g : Nat → α → Option β} {r : β} : Ev (fun k => (m k).bind (g k)) r ↔ Ev (fun k => g k a) r := by
  constructor
  · rintro ⟨K, h2⟩
    obtain ⟨K1, h1⟩ := h
    refine ⟨max K K1, fun k hk => ?_⟩
    have := h2 k (by omega)
    simp only [h1 k (by omega)] at this
    exact this
  · exact fun h2 => Ev.bind h h2
theorem thenG {s : S} {f : S → Option β} : (Lp.go s).then f = f s := rfl
theorem thenR {b : β} {f : S → Option β} : (Lp.ret b : Lp S β).then f = some b := rfl
end
end Go.Bb
end
section
set_option maxRecDepth 100000
namespace Go.Proofs.Ytiaigcdckmpepaa
open Go.Bb
def tabList : List (Nat × TI) := [
  (1, ⟨1, 8, .func, [.raw .nilFunc], []⟩),
  (2, ⟨1, 8, .int .i64, [.int .i64 0], []⟩),
  (3, ⟨1, 8, .int .i64, [.int .i64 0], []⟩),
  (4, ⟨1, 1, .bool, [.bool false], []⟩),
  (5, ⟨1, 1, .int .u8, [.int .u8 0], []⟩),
  (6, ⟨1, 1, .int .u8, [.int .u8 0], []⟩),
  (7, ⟨4, 24, .struct [(0, 2), (1, 3), (2, 4), (3, 6)], [.int .i64 0, .int .i64 0, .bool false, .int .u8 0], []⟩),
  (8, ⟨4, 24, .struct [(0, 2), (1, 3), (2, 4), (3, 6)], [.int .i64 0, .int .i64 0, .bool false, .int .u8 0], [("Error", 152), ("RuntimeError", 153)]⟩),
  (9, ⟨1, 16, .string, [.str []], []⟩),
  (10, ⟨1, 16, .string, [.str []], [("Error", 154), ("RuntimeError", 155)]⟩),
  (11, ⟨1, 16, .string, [.str []], [("Error", 156), ("RuntimeError", 157)]⟩),
  (12, ⟨1, 8, .int .u64, [.int .u64 0], []⟩),
  (13, ⟨2, 24, .struct [(0, 9), (1, 12)], [.str [], .int .u64 0], []⟩),
  (14, ⟨2, 24, .struct [(0, 9), (1, 12)], [.str [], .int .u64 0], [("Error", 158), ("RuntimeError", 159)]⟩),
  (15, ⟨1, 8, .ptr 167, [.raw (.pointer none)], []⟩),
  (16, ⟨1, 8, .ptr 170, [.raw (.pointer none)], []⟩),
  (17, ⟨1, 8, .ptr 179, [.raw (.pointer none)], []⟩),
  (18, ⟨1, 8, .struct [(0, 17)], [.raw (.pointer none)], []⟩),
  (19, ⟨1, 8, .struct [(0, 17)], [.raw (.pointer none)], [("Error", 165), ("RuntimeError", 166)]⟩),
  (20, ⟨1, 16, .iface, [.raw .nilIface], []⟩),
  (21, ⟨1, 4, .int .i32, [.int .i32 0], []⟩),
  (22, ⟨1, 24, .slice 25, [.nil], []⟩),
  (23, ⟨1, 24, .slice 9, [.nil], []⟩),
  (24, ⟨5, 80, .struct [(0, 3), (1, 3), (2, 9), (3, 22), (4, 23)], [.int .i64 0, .int .i64 0, .str [], .nil, .nil], []⟩),
  (25, ⟨5, 80, .struct [(0, 3), (1, 3), (2, 9), (3, 22), (4, 23)], [.int .i64 0, .int .i64 0, .str [], .nil, .nil], []⟩),
  (26, ⟨1, 8, .func, [.raw .nilFunc], []⟩),
  (27, ⟨1, 8, .func, [.raw .nilFunc], []⟩),
  (28, ⟨1, 24, .slice 30, [.nil], []⟩),
  (29, ⟨5, 80, .struct [(0, 3), (1, 3), (2, 9), (3, 28), (4, 23)], [.int .i64 0, .int .i64 0, .str [], .nil, .nil], []⟩),
  (30, ⟨5, 80, .struct [(0, 3), (1, 3), (2, 9), (3, 28), (4, 23)], [.int .i64 0, .int .i64 0, .str [], .nil, .nil], []⟩),
  (31, ⟨1, 8, .func, [.raw .nilFunc], []⟩),
  (32, ⟨1, 8, .func, [.raw .nilFunc], []⟩),
  (33, ⟨1, 8, .func, [.raw .nilFunc], []⟩),
  (34, ⟨1, 8, .func, [.raw .nilFunc], []⟩),
  (36, ⟨1, 8, .func, [.raw .nilFunc], []⟩),
  (37, ⟨1, 8, .func, [.raw .nilFunc], []⟩),
  (38, ⟨1, 8, .func, [.raw .nilFunc], []⟩),
  (39, ⟨1, 8, .func, [.raw .nilFunc], []⟩),
  (40, ⟨1, 8, .func, [.raw .nilFunc], []⟩),
  (41, ⟨1, 8, .func, [.raw .nilFunc], []⟩),
  (42, ⟨1, 24, .slice 5, [.nil], []⟩),
  (44, ⟨1, 8, .func, [.raw .nilFunc], []⟩),
  (45, ⟨1, 8, .func, [.raw .nilFunc], []⟩),
  (46, ⟨1, 8, .func, [.raw .nilFunc], []⟩),
  (47, ⟨1, 8, .func, [.raw .nilFunc], []⟩),
  (48, ⟨1, 8, .func, [.raw .nilFunc], []⟩),
  (49, ⟨1, 8, .func, [.raw .nilFunc], []⟩),
  (51, ⟨1, 8, .func, [.raw .nilFunc], []⟩),
  (52, ⟨1, 8, .func, [.raw .nilFunc], []⟩),
  (53, ⟨1, 8, .func, [.raw .nilFunc], []⟩),
  (54, ⟨1, 8, .func, [.raw .nilFunc], []⟩),
  (55, ⟨1, 8, .func, [.raw .nilFunc], []⟩),
  (56, ⟨1, 8, .map 65 66, [.raw (.map none)], []⟩),
  (57, ⟨10, 160, .struct [(0, 30), (5, 30)], [.int .i64 0, .int .i64 0, .str [], .nil, .nil, .int .i64 0, .int .i64 0, .str [], .nil, .nil], []⟩),
  (58, ⟨10, 160, .struct [(0, 30), (5, 30)], [.int .i64 0, .int .i64 0, .str [], .nil, .nil, .int .i64 0, .int .i64 0, .str [], .nil, .nil], []⟩),
  (59, ⟨1, 24, .slice 58, [.nil], []⟩),
  (60, ⟨1, 8, .ptr 30, [.raw (.pointer none)], []⟩),
  (61, ⟨2, 16, .struct [(0, 60), (1, 3)], [.raw (.pointer none), .int .i64 0], []⟩),
  (62, ⟨2, 16, .struct [(0, 60), (1, 3)], [.raw (.pointer none), .int .i64 0], []⟩),
  (63, ⟨1, 8, .func, [.raw .nilFunc], []⟩),
  (64, ⟨4, 32, .struct [(0, 62), (2, 62)], [.raw (.pointer none), .int .i64 0, .raw (.pointer none), .int .i64 0], []⟩),
  (65, ⟨4, 32, .struct [(0, 62), (2, 62)], [.raw (.pointer none), .int .i64 0, .raw (.pointer none), .int .i64 0], []⟩),
  (66, ⟨0, 0, .struct [], [], []⟩),
  (68, ⟨1, 8, .func, [.raw .nilFunc], []⟩),
  (69, ⟨1, 8, .func, [.raw .nilFunc], []⟩),
  (70, ⟨1, 8, .map 62 66, [.raw (.map none)], []⟩),
  (71, ⟨1, 24, .slice 28, [.nil], []⟩),
  (72, ⟨1, 8, .func, [.raw .nilFunc], []⟩),
  (73, ⟨1, 8, .func, [.raw .nilFunc], []⟩),
  (75, ⟨1, 8, .func, [.raw .nilFunc], []⟩),
  (76, ⟨1, 8, .func, [.raw .nilFunc], []⟩),
  (77, ⟨2, 24, .struct [(0, 9), (1, 3)], [.str [], .int .i64 0], []⟩),
  (78, ⟨2, 24, .struct [(0, 9), (1, 3)], [.str [], .int .i64 0], []⟩),
  (79, ⟨1, 8, .func, [.raw .nilFunc], []⟩),
  (80, ⟨1, 8, .ptr 104, [.raw (.pointer none)], []⟩),
  (81, ⟨1, 8, .func, [.raw .nilFunc], []⟩),
  (82, ⟨1, 8, .func, [.raw .nilFunc], []⟩),
  (83, ⟨1, 8, .func, [.raw .nilFunc], []⟩),
  (84, ⟨1, 8, .func, [.raw .nilFunc], []⟩),
  (85, ⟨1, 8, .func, [.raw .nilFunc], []⟩),
  (86, ⟨1, 8, .func, [.raw .nilFunc], []⟩),
  (87, ⟨1, 8, .func, [.raw .nilFunc], []⟩),
  (88, ⟨1, 8, .func, [.raw .nilFunc], []⟩),
  (89, ⟨1, 8, .func, [.raw .nilFunc], []⟩),
  (90, ⟨1, 8, .func, [.raw .nilFunc], []⟩),
  (92, ⟨1, 8, .func, [.raw .nilFunc], []⟩),
  (93, ⟨1, 8, .func, [.raw .nilFunc], []⟩),
  (94, ⟨1, 8, .func, [.raw .nilFunc], []⟩),
  (96, ⟨1, 8, .func, [.raw .nilFunc], []⟩),
  (97, ⟨1, 8, .ptr 78, [.raw (.pointer none)], []⟩),
  (99, ⟨1, 8, .func, [.raw .nilFunc], []⟩),
  (101, ⟨1, 8, .func, [.raw .nilFunc], []⟩),
  (102, ⟨1, 8, .func, [.raw .nilFunc], []⟩),
  (103, ⟨2, 32, .struct [(0, 42), (1, 3)], [.nil, .int .i64 0], []⟩),
  (104, ⟨2, 32, .struct [(0, 42), (1, 3)], [.nil, .int .i64 0], []⟩),
  (105, ⟨1, 8, .func, [.raw .nilFunc], []⟩),
  (106, ⟨1, 24, .slice 3, [.nil], []⟩),
  (107, ⟨1, 8, .func, [.raw .nilFunc], []⟩),
  (108, ⟨1, 8, .func, [.raw .nilFunc], []⟩),
  (109, ⟨1, 16, .iface, [.raw .nilIface], []⟩),
  (110, ⟨1, 16, .iface, [.raw .nilIface], []⟩),
  (111, ⟨1, 8, .func, [.raw .nilFunc], []⟩),
  (112, ⟨1, 16, .string, [.str []], [("loop.example/pergola/impl.within", 167)]⟩),
  (113, ⟨1, 16, .string, [.str []], [("loop.example/pergola/impl.within", 168)]⟩),
  (114, ⟨1, 8, .func, [.raw .nilFunc], []⟩),
  (115, ⟨1, 8, .func, [.raw .nilFunc], []⟩),
  (116, ⟨1, 8, .func, [.raw .nilFunc], []⟩),
  (117, ⟨1, 8, .func, [.raw .nilFunc], []⟩),
  (118, ⟨1, 8, .func, [.raw .nilFunc], []⟩),
  (119, ⟨1, 8, .func, [.raw .nilFunc], []⟩),
  (120, ⟨1, 8, .func, [.raw .nilFunc], []⟩),
  (121, ⟨1, 8, .ptr 123, [.raw (.pointer none)], []⟩),
  (122, ⟨4, 48, .struct [(0, 62), (2, 28), (3, 121)], [.raw (.pointer none), .int .i64 0, .nil, .raw (.pointer none)], []⟩),
  (123, ⟨4, 48, .struct [(0, 62), (2, 28), (3, 121)], [.raw (.pointer none), .int .i64 0, .nil, .raw (.pointer none)], []⟩),
  (125, ⟨1, 8, .func, [.raw .nilFunc], []⟩),
  (126, ⟨1, 8, .func, [.raw .nilFunc], []⟩),
  (128, ⟨1, 8, .func, [.raw .nilFunc], []⟩),
  (129, ⟨1, 8, .func, [.raw .nilFunc], []⟩),
  (130, ⟨1, 8, .func, [.raw .nilFunc], []⟩),
  (131, ⟨1, 8, .func, [.raw .nilFunc], []⟩),
  (132, ⟨1, 8, .int .u64, [.int .u64 0], []⟩),
  (133, ⟨1, 8, .func, [.raw .nilFunc], []⟩),
  (134, ⟨0, 0, .struct [], [], [("loop.example/pergola/impl.within", 169)]⟩),
  (135, ⟨1, 1, .bool, [.bool false], [("loop.example/pergola/impl.within", 170)]⟩),
  (136, ⟨1, 8, .int .i64, [.int .i64 0], [("loop.example/pergola/impl.within", 171)]⟩),
  (137, ⟨1, 16, .string, [.str []], [("loop.example/pergola/impl.within", 172)]⟩),
  (138, ⟨1, 24, .slice 30, [.nil], [("loop.example/pergola/impl.within", 173)]⟩),
  (139, ⟨2, 48, .struct [(0, 23), (1, 28)], [.nil, .nil], []⟩),
  (140, ⟨2, 48, .struct [(0, 23), (1, 28)], [.nil, .nil], [("loop.example/pergola/impl.within", 174)]⟩),
  (141, ⟨1, 8, .func, [.raw .nilFunc], []⟩),
  (142, ⟨1, 8, .func, [.raw .nilFunc], []⟩),
  (143, ⟨1, 8, .func, [.raw .nilFunc], []⟩),
  (144, ⟨1, 8, .func, [.raw .nilFunc], []⟩),
  (145, ⟨1, 8, .int .i64, [.int .i64 0], []⟩),
  (147, ⟨1, 8, .func, [.raw .nilFunc], []⟩),
  (148, ⟨1, 8, .func, [.raw .nilFunc], []⟩),
  (149, ⟨1, 8, .func, [.raw .nilFunc], []⟩),
  (151, ⟨1, 8, .func, [.raw .nilFunc], []⟩),
  (152, ⟨1, 8, .func, [.raw .nilFunc], []⟩),
  (153, ⟨1, 4, .int .u32, [.int .u32 0], []⟩),
  (154, ⟨1, 8, .func, [.raw .nilFunc], []⟩),
  (155, ⟨1, 8, .int .u64, [.int .u64 0], []⟩),
  (156, ⟨1, 8, .int .u64, [.int .u64 0], []⟩),
  (157, ⟨1, 8, .func, [.raw .nilFunc], []⟩),
  (158, ⟨1, 8, .func, [.raw .nilFunc], []⟩),
  (159, ⟨1, 8, .func, [.raw .nilFunc], []⟩),
  (160, ⟨1, 8, .ptr 3, [.raw (.pointer none)], []⟩),
  (161, ⟨1, 8, .func, [.raw .nilFunc], []⟩),
  (162, ⟨1, 8, .ptr 156, [.raw (.pointer none)], []⟩),
  (164, ⟨1, 8, .func, [.raw .nilFunc], []⟩),
  (165, ⟨1, 8, .func, [.raw .nilFunc], []⟩),
  (166, ⟨4, 40, .struct [(0, 17), (1, 17), (2, 17), (3, 9)], [.raw (.pointer none), .raw (.pointer none), .raw (.pointer none), .str []], []⟩),
  (167, ⟨4, 40, .struct [(0, 17), (1, 17), (2, 17), (3, 9)], [.raw (.pointer none), .raw (.pointer none), .raw (.pointer none), .str []], []⟩),
  (169, ⟨0, 0, .struct [(0, 168)], [], []⟩),
  (170, ⟨0, 0, .struct [(0, 168)], [], []⟩),
  (171, ⟨1, 8, .func, [.raw .nilFunc], []⟩),
  (172, ⟨1, 1, .int .u8, [.int .u8 0], []⟩),
  (173, ⟨1, 1, .int .u8, [.int .u8 0], [("String", 175)]⟩),
  (174, ⟨1, 8, .func, [.raw .nilFunc], []⟩),
  (175, ⟨1, 8, .ptr 5, [.raw (.pointer none)], []⟩),
  (176, ⟨1, 4, .int .i32, [.int .i32 0], []⟩),
  (177, ⟨1, 4, .int .i32, [.int .i32 0], []⟩),
  (178, ⟨11, 48, .struct [(0, 12), (1, 12), (2, 153), (3, 172), (4, 5), (5, 5), (6, 173), (7, 174), (8, 175), (9, 176), (10, 177)], [.int .u64 0, .int .u64 0, .int .u32 0, .int .u8 0, .int .u8 0, .int .u8 0, .int .u8 0, .raw .nilFunc, .raw (.pointer none), .int .i32 0, .int .i32 0], []⟩),
  (179, ⟨11, 48, .struct [(0, 12), (1, 12), (2, 153), (3, 172), (4, 5), (5, 5), (6, 173), (7, 174), (8, 175), (9, 176), (10, 177)], [.int .u64 0, .int .u64 0, .int .u32 0, .int .u8 0, .int .u8 0, .int .u8 0, .int .u8 0, .raw .nilFunc, .raw (.pointer none), .int .i32 0, .int .i32 0], []⟩)]
def tab : Tab := ⟨fun t => getk t tabList⟩
theorem tabAll : (tabList.all fun p => rowOk Try.prog p.1 p.2) = true := by kernel_rfl
theorem tabOk : TabOk Try.prog tab := by
  intro t i h
  have : (t, i) ∈ tabList := get_mem h
  exact List.all_eq_true.1 tabAll _ this
@[simp] theorem tsize1 : tab.size 1 = some 1 := rfl
@[simp] theorem tbytes1 : tab.bytes 1 = some 8 := rfl
@[simp] theorem tagg1 : tab.agg 1 = some false := rfl
@[simp] theorem tkind1 : tab.kind 1 = some (.func) := rfl
@[simp] theorem tzero1 : tab.zero 1 = some [.raw .nilFunc] := rfl
@[simp] theorem tsize2 : tab.size 2 = some 1 := rfl
@[simp] theorem tbytes2 : tab.bytes 2 = some 8 := rfl
@[simp] theorem tagg2 : tab.agg 2 = some false := rfl
@[simp] theorem tkind2 : tab.kind 2 = some (.int .i64) := rfl
@[simp] theorem tzero2 : tab.zero 2 = some [.int .i64 0] := rfl
@[simp] theorem tsize3 : tab.size 3 = some 1 := rfl
@[simp] theorem tbytes3 : tab.bytes 3 = some 8 := rfl
@[simp] theorem tagg3 : tab.agg 3 = some false := rfl
@[simp] theorem tkind3 : tab.kind 3 = some (.int .i64) := rfl
@[simp] theorem tzero3 : tab.zero 3 = some [.int .i64 0] := rfl
@[simp] theorem tsize4 : tab.size 4 = some 1 := rfl
@[simp] theorem tbytes4 : tab.bytes 4 = some 1 := rfl
@[simp] theorem tagg4 : tab.agg 4 = some false := rfl
@[simp] theorem tkind4 : tab.kind 4 = some (.bool) := rfl
@[simp] theorem tzero4 : tab.zero 4 = some [.bool false] := rfl
@[simp] theorem tsize5 : tab.size 5 = some 1 := rfl
@[simp] theorem tbytes5 : tab.bytes 5 = some 1 := rfl
@[simp] theorem tagg5 : tab.agg 5 = some false := rfl
@[simp] theorem tkind5 : tab.kind 5 = some (.int .u8) := rfl
@[simp] theorem tzero5 : tab.zero 5 = some [.int .u8 0] := rfl
@[simp] theorem tsize6 : tab.size 6 = some 1 := rfl
@[simp] theorem tbytes6 : tab.bytes 6 = some 1 := rfl
@[simp] theorem tagg6 : tab.agg 6 = some false := rfl
@[simp] theorem tkind6 : tab.kind 6 = some (.int .u8) := rfl
@[simp] theorem tzero6 : tab.zero 6 = some [.int .u8 0] := rfl
@[simp] theorem tsize7 : tab.size 7 = some 4 := rfl
@[simp] theorem tbytes7 : tab.bytes 7 = some 24 := rfl
@[simp] theorem tagg7 : tab.agg 7 = some true := rfl
@[simp] theorem tkind7 : tab.kind 7 = some (.struct [(0, 2), (1, 3), (2, 4), (3, 6)]) := rfl
@[simp] theorem tzero7 : tab.zero 7 = some [.int .i64 0, .int .i64 0, .bool false, .int .u8 0] := rfl
@[simp] theorem tfoff7_0 : tab.foff 7 0 = some (0, 1) := rfl
@[simp] theorem tfoff7_1 : tab.foff 7 1 = some (1, 1) := rfl
@[simp] theorem tfoff7_2 : tab.foff 7 2 = some (2, 1) := rfl
@[simp] theorem tfoff7_3 : tab.foff 7 3 = some (3, 1) := rfl
@[simp] theorem tsok7 : structOk tab 7 = true := rfl
@[simp] theorem tmeth8_152 : tab.meth 8 "Error" = some 152 := rfl
@[simp] theorem tmeth8_153 : tab.meth 8 "RuntimeError" = some 153 := rfl
@[simp] theorem tsize8 : tab.size 8 = some 4 := rfl
@[simp] theorem tbytes8 : tab.bytes 8 = some 24 := rfl
@[simp] theorem tagg8 : tab.agg 8 = some true := rfl
@[simp] theorem tkind8 : tab.kind 8 = some (.struct [(0, 2), (1, 3), (2, 4), (3, 6)]) := rfl
@[simp] theorem tzero8 : tab.zero 8 = some [.int .i64 0, .int .i64 0, .bool false, .int .u8 0] := rfl
@[simp] theorem tfoff8_0 : tab.foff 8 0 = some (0, 1) := rfl
@[simp] theorem tfoff8_1 : tab.foff 8 1 = some (1, 1) := rfl
@[simp] theorem tfoff8_2 : tab.foff 8 2 = some (2, 1) := rfl
@[simp] theorem tfoff8_3 : tab.foff 8 3 = some (3, 1) := rfl
@[simp] theorem tsok8 : structOk tab 8 = true := rfl
@[simp] theorem tsize9 : tab.size 9 = some 1 := rfl
@[simp] theorem tbytes9 : tab.bytes 9 = some 16 := rfl
@[simp] theorem tagg9 : tab.agg 9 = some false := rfl
@[simp] theorem tkind9 : tab.kind 9 = some (.string) := rfl
@[simp] theorem tzero9 : tab.zero 9 = some [.str []] := rfl
@[simp] theorem tmeth10_154 : tab.meth 10 "Error" = some 154 := rfl
@[simp] theorem tmeth10_155 : tab.meth 10 "RuntimeError" = some 155 := rfl
@[simp] theorem tsize10 : tab.size 10 = some 1 := rfl
@[simp] theorem tbytes10 : tab.bytes 10 = some 16 := rfl
@[simp] theorem tagg10 : tab.agg 10 = some false := rfl
@[simp] theorem tkind10 : tab.kind 10 = some (.string) := rfl
@[simp] theorem tzero10 : tab.zero 10 = some [.str []] := rfl
@[simp] theorem tmeth11_156 : tab.meth 11 "Error" = some 156 := rfl
@[simp] theorem tmeth11_157 : tab.meth 11 "RuntimeError" = some 157 := rfl
@[simp] theorem tsize11 : tab.size 11 = some 1 := rfl
@[simp] theorem tbytes11 : tab.bytes 11 = some 16 := rfl
@[simp] theorem tagg11 : tab.agg 11 = some false := rfl
@[simp] theorem tkind11 : tab.kind 11 = some (.string) := rfl
@[simp] theorem tzero11 : tab.zero 11 = some [.str []] := rfl
@[simp] theorem tsize12 : tab.size 12 = some 1 := rfl
@[simp] theorem tbytes12 : tab.bytes 12 = some 8 := rfl
@[simp] theorem tagg12 : tab.agg 12 = some false := rfl
@[simp] theorem tkind12 : tab.kind 12 = some (.int .u64) := rfl
@[simp] theorem tzero12 : tab.zero 12 = some [.int .u64 0] := rfl
@[simp] theorem tsize13 : tab.size 13 = some 2 := rfl
@[simp] theorem tbytes13 : tab.bytes 13 = some 24 := rfl
@[simp] theorem tagg13 : tab.agg 13 = some true := rfl
@[simp] theorem tkind13 : tab.kind 13 = some (.struct [(0, 9), (1, 12)]) := rfl
@[simp] theorem tzero13 : tab.zero 13 = some [.str [], .int .u64 0] := rfl
@[simp] theorem tfoff13_0 : tab.foff 13 0 = some (0, 1) := rfl
@[simp] theorem tfoff13_1 : tab.foff 13 1 = some (1, 1) := rfl
@[simp] theorem tsok13 : structOk tab 13 = true := rfl
@[simp] theorem tmeth14_158 : tab.meth 14 "Error" = some 158 := rfl
@[simp] theorem tmeth14_159 : tab.meth 14 "RuntimeError" = some 159 := rfl
@[simp] theorem tsize14 : tab.size 14 = some 2 := rfl
@[simp] theorem tbytes14 : tab.bytes 14 = some 24 := rfl
@[simp] theorem tagg14 : tab.agg 14 = some true := rfl
@[simp] theorem tkind14 : tab.kind 14 = some (.struct [(0, 9), (1, 12)]) := rfl
@[simp] theorem tzero14 : tab.zero 14 = some [.str [], .int .u64 0] := rfl
@[simp] theorem tfoff14_0 : tab.foff 14 0 = some (0, 1) := rfl
@[simp] theorem tfoff14_1 : tab.foff 14 1 = some (1, 1) := rfl
@[simp] theorem tsok14 : structOk tab 14 = true := rfl
@[simp] theorem tsize15 : tab.size 15 = some 1 := rfl
@[simp] theorem tbytes15 : tab.bytes 15 = some 8 := rfl
@[simp] theorem tagg15 : tab.agg 15 = some false := rfl
@[simp] theorem tkind15 : tab.kind 15 = some (.ptr 167) := rfl
@[simp] theorem tzero15 : tab.zero 15 = some [.raw (.pointer none)] := rfl
@[simp] theorem tsize16 : tab.size 16 = some 1 := rfl
@[simp] theorem tbytes16 : tab.bytes 16 = some 8 := rfl
@[simp] theorem tagg16 : tab.agg 16 = some false := rfl
@[simp] theorem tkind16 : tab.kind 16 = some (.ptr 170) := rfl
@[simp] theorem tzero16 : tab.zero 16 = some [.raw (.pointer none)] := rfl
@[simp] theorem tsize17 : tab.size 17 = some 1 := rfl
@[simp] theorem tbytes17 : tab.bytes 17 = some 8 := rfl
@[simp] theorem tagg17 : tab.agg 17 = some false := rfl
@[simp] theorem tkind17 : tab.kind 17 = some (.ptr 179) := rfl
@[simp] theorem tzero17 : tab.zero 17 = some [.raw (.pointer none)] := rfl
@[simp] theorem tsize18 : tab.size 18 = some 1 := rfl
@[simp] theorem tbytes18 : tab.bytes 18 = some 8 := rfl
@[simp] theorem tagg18 : tab.agg 18 = some true := rfl
@[simp] theorem tkind18 : tab.kind 18 = some (.struct [(0, 17)]) := rfl
@[simp] theorem tzero18 : tab.zero 18 = some [.raw (.pointer none)] := rfl
@[simp] theorem tfoff18_0 : tab.foff 18 0 = some (0, 1) := rfl
@[simp] theorem tsok18 : structOk tab 18 = true := rfl
@[simp] theorem tmeth19_165 : tab.meth 19 "Error" = some 165 := rfl
@[simp] theorem tmeth19_166 : tab.meth 19 "RuntimeError" = some 166 := rfl
@[simp] theorem tsize19 : tab.size 19 = some 1 := rfl
@[simp] theorem tbytes19 : tab.bytes 19 = some 8 := rfl
@[simp] theorem tagg19 : tab.agg 19 = some true := rfl
@[simp] theorem tkind19 : tab.kind 19 = some (.struct [(0, 17)]) := rfl
@[simp] theorem tzero19 : tab.zero 19 = some [.raw (.pointer none)] := rfl
@[simp] theorem tfoff19_0 : tab.foff 19 0 = some (0, 1) := rfl
@[simp] theorem tsok19 : structOk tab 19 = true := rfl
@[simp] theorem tsize20 : tab.size 20 = some 1 := rfl
@[simp] theorem tbytes20 : tab.bytes 20 = some 16 := rfl
@[simp] theorem tagg20 : tab.agg 20 = some false := rfl
@[simp] theorem tkind20 : tab.kind 20 = some (.iface) := rfl
@[simp] theorem tzero20 : tab.zero 20 = some [.raw .nilIface] := rfl
@[simp] theorem tsize21 : tab.size 21 = some 1 := rfl
@[simp] theorem tbytes21 : tab.bytes 21 = some 4 := rfl
@[simp] theorem tagg21 : tab.agg 21 = some false := rfl
@[simp] theorem tkind21 : tab.kind 21 = some (.int .i32) := rfl
@[simp] theorem tzero21 : tab.zero 21 = some [.int .i32 0] := rfl
@[simp] theorem tsize22 : tab.size 22 = some 1 := rfl
@[simp] theorem tbytes22 : tab.bytes 22 = some 24 := rfl
@[simp] theorem tagg22 : tab.agg 22 = some false := rfl
@[simp] theorem tkind22 : tab.kind 22 = some (.slice 25) := rfl
@[simp] theorem tzero22 : tab.zero 22 = some [.nil] := rfl
@[simp] theorem telem22 : tab.elem 22 = some 25 := rfl
@[simp] theorem tsize23 : tab.size 23 = some 1 := rfl
@[simp] theorem tbytes23 : tab.bytes 23 = some 24 := rfl
@[simp] theorem tagg23 : tab.agg 23 = some false := rfl
@[simp] theorem tkind23 : tab.kind 23 = some (.slice 9) := rfl
@[simp] theorem tzero23 : tab.zero 23 = some [.nil] := rfl
@[simp] theorem telem23 : tab.elem 23 = some 9 := rfl
@[simp] theorem tsize24 : tab.size 24 = some 5 := rfl
@[simp] theorem tbytes24 : tab.bytes 24 = some 80 := rfl
@[simp] theorem tagg24 : tab.agg 24 = some true := rfl
@[simp] theorem tkind24 : tab.kind 24 = some (.struct [(0, 3), (1, 3), (2, 9), (3, 22), (4, 23)]) := rfl
@[simp] theorem tzero24 : tab.zero 24 = some [.int .i64 0, .int .i64 0, .str [], .nil, .nil] := rfl
@[simp] theorem tfoff24_0 : tab.foff 24 0 = some (0, 1) := rfl
@[simp] theorem tfoff24_1 : tab.foff 24 1 = some (1, 1) := rfl
@[simp] theorem tfoff24_2 : tab.foff 24 2 = some (2, 1) := rfl
@[simp] theorem tfoff24_3 : tab.foff 24 3 = some (3, 1) := rfl
@[simp] theorem tfoff24_4 : tab.foff 24 4 = some (4, 1) := rfl
@[simp] theorem tsok24 : structOk tab 24 = true := rfl
@[simp] theorem tsize25 : tab.size 25 = some 5 := rfl
@[simp] theorem tbytes25 : tab.bytes 25 = some 80 := rfl
@[simp] theorem tagg25 : tab.agg 25 = some true := rfl
@[simp] theorem tkind25 : tab.kind 25 = some (.struct [(0, 3), (1, 3), (2, 9), (3, 22), (4, 23)]) := rfl
@[simp] theorem tzero25 : tab.zero 25 = some [.int .i64 0, .int .i64 0, .str [], .nil, .nil] := rfl
@[simp] theorem tfoff25_0 : tab.foff 25 0 = some (0, 1) := rfl
@[simp] theorem tfoff25_1 : tab.foff 25 1 = some (1, 1) := rfl
@[simp] theorem tfoff25_2 : tab.foff 25 2 = some (2, 1) := rfl
@[simp] theorem tfoff25_3 : tab.foff 25 3 = some (3, 1) := rfl
@[simp] theorem tfoff25_4 : tab.foff 25 4 = some (4, 1) := rfl
@[simp] theorem tsok25 : structOk tab 25 = true := rfl
@[simp] theorem tsize26 : tab.size 26 = some 1 := rfl
@[simp] theorem tbytes26 : tab.bytes 26 = some 8 := rfl
@[simp] theorem tagg26 : tab.agg 26 = some false := rfl
@[simp] theorem tkind26 : tab.kind 26 = some (.func) := rfl
@[simp] theorem tzero26 : tab.zero 26 = some [.raw .nilFunc] := rfl
@[simp] theorem tsize27 : tab.size 27 = some 1 := rfl
@[simp] theorem tbytes27 : tab.bytes 27 = some 8 := rfl
@[simp] theorem tagg27 : tab.agg 27 = some false := rfl
@[simp] theorem tkind27 : tab.kind 27 = some (.func) := rfl
@[simp] theorem tzero27 : tab.zero 27 = some [.raw .nilFunc] := rfl
@[simp] theorem tsize28 : tab.size 28 = some 1 := rfl
@[simp] theorem tbytes28 : tab.bytes 28 = some 24 := rfl
@[simp] theorem tagg28 : tab.agg 28 = some false := rfl
@[simp] theorem tkind28 : tab.kind 28 = some (.slice 30) := rfl
@[simp] theorem tzero28 : tab.zero 28 = some [.nil] := rfl
@[simp] theorem telem28 : tab.elem 28 = some 30 := rfl
@[simp] theorem tsize29 : tab.size 29 = some 5 := rfl
@[simp] theorem tbytes29 : tab.bytes 29 = some 80 := rfl
@[simp] theorem tagg29 : tab.agg 29 = some true := rfl
@[simp] theorem tkind29 : tab.kind 29 = some (.struct [(0, 3), (1, 3), (2, 9), (3, 28), (4, 23)]) := rfl
@[simp] theorem tzero29 : tab.zero 29 = some [.int .i64 0, .int .i64 0, .str [], .nil, .nil] := rfl
@[simp] theorem tfoff29_0 : tab.foff 29 0 = some (0, 1) := rfl
@[simp] theorem tfoff29_1 : tab.foff 29 1 = some (1, 1) := rfl
@[simp] theorem tfoff29_2 : tab.foff 29 2 = some (2, 1) := rfl
@[simp] theorem tfoff29_3 : tab.foff 29 3 = some (3, 1) := rfl
@[simp] theorem tfoff29_4 : tab.foff 29 4 = some (4, 1) := rfl
@[simp] theorem tsok29 : structOk tab 29 = true := rfl
@[simp] theorem tsize30 : tab.size 30 = some 5 := rfl
@[simp] theorem tbytes30 : tab.bytes 30 = some 80 := rfl
@[simp] theorem tagg30 : tab.agg 30 = some true := rfl
@[simp] theorem tkind30 : tab.kind 30 = some (.struct [(0, 3), (1, 3), (2, 9), (3, 28), (4, 23)]) := rfl
@[simp] theorem tzero30 : tab.zero 30 = some [.int .i64 0, .int .i64 0, .str [], .nil, .nil] := rfl
@[simp] theorem tfoff30_0 : tab.foff 30 0 = some (0, 1) := rfl
@[simp] theorem tfoff30_1 : tab.foff 30 1 = some (1, 1) := rfl
@[simp] theorem tfoff30_2 : tab.foff 30 2 = some (2, 1) := rfl
@[simp] theorem tfoff30_3 : tab.foff 30 3 = some (3, 1) := rfl
@[simp] theorem tfoff30_4 : tab.foff 30 4 = some (4, 1) := rfl
@[simp] theorem tsok30 : structOk tab 30 = true := rfl
@[simp] theorem tsize31 : tab.size 31 = some 1 := rfl
@[simp] theorem tbytes31 : tab.bytes 31 = some 8 := rfl
@[simp] theorem tagg31 : tab.agg 31 = some false := rfl
@[simp] theorem tkind31 : tab.kind 31 = some (.func) := rfl
@[simp] theorem tzero31 : tab.zero 31 = some [.raw .nilFunc] := rfl
@[simp] theorem tsize32 : tab.size 32 = some 1 := rfl
@[simp] theorem tbytes32 : tab.bytes 32 = some 8 := rfl
@[simp] theorem tagg32 : tab.agg 32 = some false := rfl
@[simp] theorem tkind32 : tab.kind 32 = some (.func) := rfl
@[simp] theorem tzero32 : tab.zero 32 = some [.raw .nilFunc] := rfl
@[simp] theorem tsize33 : tab.size 33 = some 1 := rfl
@[simp] theorem tbytes33 : tab.bytes 33 = some 8 := rfl
@[simp] theorem tagg33 : tab.agg 33 = some false := rfl
@[simp] theorem tkind33 : tab.kind 33 = some (.func) := rfl
@[simp] theorem tzero33 : tab.zero 33 = some [.raw .nilFunc] := rfl
@[simp] theorem tsize34 : tab.size 34 = some 1 := rfl
@[simp] theorem tbytes34 : tab.bytes 34 = some 8 := rfl
@[simp] theorem tagg34 : tab.agg 34 = some false := rfl
@[simp] theorem tkind34 : tab.kind 34 = some (.func) := rfl
@[simp] theorem tzero34 : tab.zero 34 = some [.raw .nilFunc] := rfl
@[simp] theorem tsize36 : tab.size 36 = some 1 := rfl
@[simp] theorem tbytes36 : tab.bytes 36 = some 8 := rfl
@[simp] theorem tagg36 : tab.agg 36 = some false := rfl
@[simp] theorem tkind36 : tab.kind 36 = some (.func) := rfl
@[simp] theorem tzero36 : tab.zero 36 = some [.raw .nilFunc] := rfl
@[simp] theorem tsize37 : tab.size 37 = some 1 := rfl
@[simp] theorem tbytes37 : tab.bytes 37 = some 8 := rfl
@[simp] theorem tagg37 : tab.agg 37 = some false := rfl
@[simp] theorem tkind37 : tab.kind 37 = some (.func) := rfl
@[simp] theorem tzero37 : tab.zero 37 = some [.raw .nilFunc] := rfl
@[simp] theorem tsize38 : tab.size 38 = some 1 := rfl
@[simp] theorem tbytes38 : tab.bytes 38 = some 8 := rfl
@[simp] theorem tagg38 : tab.agg 38 = some false := rfl
@[simp] theorem tkind38 : tab.kind 38 = some (.func) := rfl
@[simp] theorem tzero38 : tab.zero 38 = some [.raw .nilFunc] := rfl
@[simp] theorem tsize39 : tab.size 39 = some 1 := rfl
@[simp] theorem tbytes39 : tab.bytes 39 = some 8 := rfl
@[simp] theorem tagg39 : tab.agg 39 = some false := rfl
@[simp] theorem tkind39 : tab.kind 39 = some (.func) := rfl
@[simp] theorem tzero39 : tab.zero 39 = some [.raw .nilFunc] := rfl
@[simp] theorem tsize40 : tab.size 40 = some 1 := rfl
@[simp] theorem tbytes40 : tab.bytes 40 = some 8 := rfl
@[simp] theorem tagg40 : tab.agg 40 = some false := rfl
@[simp] theorem tkind40 : tab.kind 40 = some (.func) := rfl
@[simp] theorem tzero40 : tab.zero 40 = some [.raw .nilFunc] := rfl
@[simp] theorem tsize41 : tab.size 41 = some 1 := rfl
@[simp] theorem tbytes41 : tab.bytes 41 = some 8 := rfl
@[simp] theorem tagg41 : tab.agg 41 = some false := rfl
@[simp] theorem tkind41 : tab.kind 41 = some (.func) := rfl
@[simp] theorem tzero41 : tab.zero 41 = some [.raw .nilFunc] := rfl
@[simp] theorem tsize42 : tab.size 42 = some 1 := rfl
@[simp] theorem tbytes42 : tab.bytes 42 = some 24 := rfl
@[simp] theorem tagg42 : tab.agg 42 = some false := rfl
@[simp] theorem tkind42 : tab.kind 42 = some (.slice 5) := rfl
@[simp] theorem tzero42 : tab.zero 42 = some [.nil] := rfl
@[simp] theorem telem42 : tab.elem 42 = some 5 := rfl
@[simp] theorem tsize44 : tab.size 44 = some 1 := rfl
@[simp] theorem tbytes44 : tab.bytes 44 = some 8 := rfl
@[simp] theorem tagg44 : tab.agg 44 = some false := rfl
@[simp] theorem tkind44 : tab.kind 44 = some (.func) := rfl
@[simp] theorem tzero44 : tab.zero 44 = some [.raw .nilFunc] := rfl
@[simp] theorem tsize45 : tab.size 45 = some 1 := rfl
@[simp] theorem tbytes45 : tab.bytes 45 = some 8 := rfl
@[simp] theorem tagg45 : tab.agg 45 = some false := rfl
@[simp] theorem tkind45 : tab.kind 45 = some (.func) := rfl
@[simp] theorem tzero45 : tab.zero 45 = some [.raw .nilFunc] := rfl
@[simp] theorem tsize46 : tab.size 46 = some 1 := rfl
@[simp] theorem tbytes46 : tab.bytes 46 = some 8 := rfl
@[simp] theorem tagg46 : tab.agg 46 = some false := rfl
@[simp] theorem tkind46 : tab.kind 46 = some (.func) := rfl
@[simp] theorem tzero46 : tab.zero 46 = some [.raw .nilFunc] := rfl
@[simp] theorem tsize47 : tab.size 47 = some 1 := rfl
@[simp] theorem tbytes47 : tab.bytes 47 = some 8 := rfl
@[simp] theorem tagg47 : tab.agg 47 = some false := rfl
@[simp] theorem tkind47 : tab.kind 47 = some (.func) := rfl
@[simp] theorem tzero47 : tab.zero 47 = some [.raw .nilFunc] := rfl
@[simp] theorem tsize48 : tab.size 48 = some 1 := rfl
@[simp] theorem tbytes48 : tab.bytes 48 = some 8 := rfl
@[simp] theorem tagg48 : tab.agg 48 = some false := rfl
@[simp] theorem tkind48 : tab.kind 48 = some (.func) := rfl
@[simp] theorem tzero48 : tab.zero 48 = some [.raw .nilFunc] := rfl
@[simp] theorem tsize49 : tab.size 49 = some 1 := rfl
@[simp] theorem tbytes49 : tab.bytes 49 = some 8 := rfl
@[simp] theorem tagg49 : tab.agg 49 = some false := rfl
@[simp] theorem tkind49 : tab.kind 49 = some (.func) := rfl
@[simp] theorem tzero49 : tab.zero 49 = some [.raw .nilFunc] := rfl
@[simp] theorem tsize51 : tab.size 51 = some 1 := rfl
@[simp] theorem tbytes51 : tab.bytes 51 = some 8 := rfl
@[simp] theorem tagg51 : tab.agg 51 = some false := rfl
@[simp] theorem tkind51 : tab.kind 51 = some (.func) := rfl
@[simp] theorem tzero51 : tab.zero 51 = some [.raw .nilFunc] := rfl
@[simp] theorem tsize52 : tab.size 52 = some 1 := rfl
@[simp] theorem tbytes52 : tab.bytes 52 = some 8 := rfl
@[simp] theorem tagg52 : tab.agg 52 = some false := rfl
@[simp] theorem tkind52 : tab.kind 52 = some (.func) := rfl
@[simp] theorem tzero52 : tab.zero 52 = some [.raw .nilFunc] := rfl
@[simp] theorem tsize53 : tab.size 53 = some 1 := rfl
@[simp] theorem tbytes53 : tab.bytes 53 = some 8 := rfl
@[simp] theorem tagg53 : tab.agg 53 = some false := rfl
@[simp] theorem tkind53 : tab.kind 53 = some (.func) := rfl
@[simp] theorem tzero53 : tab.zero 53 = some [.raw .nilFunc] := rfl
@[simp] theorem tsize54 : tab.size 54 = some 1 := rfl
@[simp] theorem tbytes54 : tab.bytes 54 = some 8 := rfl
@[simp] theorem tagg54 : tab.agg 54 = some false := rfl
@[simp] theorem tkind54 : tab.kind 54 = some (.func) := rfl
@[simp] theorem tzero54 : tab.zero 54 = some [.raw .nilFunc] := rfl
@[simp] theorem tsize55 : tab.size 55 = some 1 := rfl
@[simp] theorem tbytes55 : tab.bytes 55 = some 8 := rfl
@[simp] theorem tagg55 : tab.agg 55 = some false := rfl
@[simp] theorem tkind55 : tab.kind 55 = some (.func) := rfl
@[simp] theorem tzero55 : tab.zero 55 = some [.raw .nilFunc] := rfl
@[simp] theorem tsize56 : tab.size 56 = some 1 := rfl
@[simp] theorem tbytes56 : tab.bytes 56 = some 8 := rfl
@[simp] theorem tagg56 : tab.agg 56 = some false := rfl
@[simp] theorem tkind56 : tab.kind 56 = some (.map 65 66) := rfl
@[simp] theorem tzero56 : tab.zero 56 = some [.raw (.map none)] := rfl
@[simp] theorem tsize57 : tab.size 57 = some 10 := rfl
@[simp] theorem tbytes57 : tab.bytes 57 = some 160 := rfl
@[simp] theorem tagg57 : tab.agg 57 = some true := rfl
@[simp] theorem tkind57 : tab.kind 57 = some (.struct [(0, 30), (5, 30)]) := rfl
@[simp] theorem tzero57 : tab.zero 57 = some [.int .i64 0, .int .i64 0, .str [], .nil, .nil, .int .i64 0, .int .i64 0, .str [], .nil, .nil] := rfl
@[simp] theorem tfoff57_0 : tab.foff 57 0 = some (0, 5) := rfl
@[simp] theorem tfoff57_1 : tab.foff 57 1 = some (5, 5) := rfl
@[simp] theorem tsok57 : structOk tab 57 = true := rfl
@[simp] theorem tsize58 : tab.size 58 = some 10 := rfl
@[simp] theorem tbytes58 : tab.bytes 58 = some 160 := rfl
@[simp] theorem tagg58 : tab.agg 58 = some true := rfl
@[simp] theorem tkind58 : tab.kind 58 = some (.struct [(0, 30), (5, 30)]) := rfl
@[simp] theorem tzero58 : tab.zero 58 = some [.int .i64 0, .int .i64 0, .str [], .nil, .nil, .int .i64 0, .int .i64 0, .str [], .nil, .nil] := rfl
@[simp] theorem tfoff58_0 : tab.foff 58 0 = some (0, 5) := rfl
@[simp] theorem tfoff58_1 : tab.foff 58 1 = some (5, 5) := rfl
@[simp] theorem tsok58 : structOk tab 58 = true := rfl
@[simp] theorem tsize59 : tab.size 59 = some 1 := rfl
@[simp] theorem tbytes59 : tab.bytes 59 = some 24 := rfl
@[simp] theorem tagg59 : tab.agg 59 = some false := rfl
@[simp] theorem tkind59 : tab.kind 59 = some (.slice 58) := rfl
@[simp] theorem tzero59 : tab.zero 59 = some [.nil] := rfl
@[simp] theorem telem59 : tab.elem 59 = some 58 := rfl
@[simp] theorem tsize60 : tab.size 60 = some 1 := rfl
@[simp] theorem tbytes60 : tab.bytes 60 = some 8 := rfl
@[simp] theorem tagg60 : tab.agg 60 = some false := rfl
@[simp] theorem tkind60 : tab.kind 60 = some (.ptr 30) := rfl
@[simp] theorem tzero60 : tab.zero 60 = some [.raw (.pointer none)] := rfl
@[simp] theorem tsize61 : tab.size 61 = some 2 := rfl
@[simp] theorem tbytes61 : tab.bytes 61 = some 16 := rfl
@[simp] theorem tagg61 : tab.agg 61 = some true := rfl
@[simp] theorem tkind61 : tab.kind 61 = some (.struct [(0, 60), (1, 3)]) := rfl
@[simp] theorem tzero61 : tab.zero 61 = some [.raw (.pointer none), .int .i64 0] := rfl
@[simp] theorem tfoff61_0 : tab.foff 61 0 = some (0, 1) := rfl
@[simp] theorem tfoff61_1 : tab.foff 61 1 = some (1, 1) := rfl
@[simp] theorem tsok61 : structOk tab 61 = true := rfl
@[simp] theorem tsize62 : tab.size 62 = some 2 := rfl
@[simp] theorem tbytes62 : tab.bytes 62 = some 16 := rfl
@[simp] theorem tagg62 : tab.agg 62 = some true := rfl
@[simp] theorem tkind62 : tab.kind 62 = some (.struct [(0, 60), (1, 3)]) := rfl
@[simp] theorem tzero62 : tab.zero 62 = some [.raw (.pointer none), .int .i64 0] := rfl
@[simp] theorem tfoff62_0 : tab.foff 62 0 = some (0, 1) := rfl
@[simp] theorem tfoff62_1 : tab.foff 62 1 = some (1, 1) := rfl
@[simp] theorem tsok62 : structOk tab 62 = true := rfl
@[simp] theorem tsize63 : tab.size 63 = some 1 := rfl
@[simp] theorem tbytes63 : tab.bytes 63 = some 8 := rfl
@[simp] theorem tagg63 : tab.agg 63 = some false := rfl
@[simp] theorem tkind63 : tab.kind 63 = some (.func) := rfl
@[simp] theorem tzero63 : tab.zero 63 = some [.raw .nilFunc] := rfl
@[simp] theorem tsize64 : tab.size 64 = some 4 := rfl
@[simp] theorem tbytes64 : tab.bytes 64 = some 32 := rfl
@[simp] theorem tagg64 : tab.agg 64 = some true := rfl
@[simp] theorem tkind64 : tab.kind 64 = some (.struct [(0, 62), (2, 62)]) := rfl
@[simp] theorem tzero64 : tab.zero 64 = some [.raw (.pointer none), .int .i64 0, .raw (.pointer none), .int .i64 0] := rfl
@[simp] theorem tfoff64_0 : tab.foff 64 0 = some (0, 2) := rfl
@[simp] theorem tfoff64_1 : tab.foff 64 1 = some (2, 2) := rfl
@[simp] theorem tsok64 : structOk tab 64 = true := rfl
@[simp] theorem tsize65 : tab.size 65 = some 4 := rfl
@[simp] theorem tbytes65 : tab.bytes 65 = some 32 := rfl
@[simp] theorem tagg65 : tab.agg 65 = some true := rfl
@[simp] theorem tkind65 : tab.kind 65 = some (.struct [(0, 62), (2, 62)]) := rfl
@[simp] theorem tzero65 : tab.zero 65 = some [.raw (.pointer none), .int .i64 0, .raw (.pointer none), .int .i64 0] := rfl
@[simp] theorem tfoff65_0 : tab.foff 65 0 = some (0, 2) := rfl
@[simp] theorem tfoff65_1 : tab.foff 65 1 = some (2, 2) := rfl
@[simp] theorem tsok65 : structOk tab 65 = true := rfl
@[simp] theorem tsize66 : tab.size 66 = some 0 := rfl
@[simp] theorem tbytes66 : tab.bytes 66 = some 0 := rfl
@[simp] theorem tagg66 : tab.agg 66 = some true := rfl
@[simp] theorem tkind66 : tab.kind 66 = some (.struct []) := rfl
@[simp] theorem tzero66 : tab.zero 66 = some [] := rfl
@[simp] theorem tsok66 : structOk tab 66 = true := rfl
@[simp] theorem tsize68 : tab.size 68 = some 1 := rfl
@[simp] theorem tbytes68 : tab.bytes 68 = some 8 := rfl
@[simp] theorem tagg68 : tab.agg 68 = some false := rfl
@[simp] theorem tkind68 : tab.kind 68 = some (.func) := rfl
@[simp] theorem tzero68 : tab.zero 68 = some [.raw .nilFunc] := rfl
@[simp] theorem tsize69 : tab.size 69 = some 1 := rfl
@[simp] theorem tbytes69 : tab.bytes 69 = some 8 := rfl
@[simp] theorem tagg69 : tab.agg 69 = some false := rfl
@[simp] theorem tkind69 : tab.kind 69 = some (.func) := rfl
@[simp] theorem tzero69 : tab.zero 69 = some [.raw .nilFunc] := rfl
@[simp] theorem tsize70 : tab.size 70 = some 1 := rfl
@[simp] theorem tbytes70 : tab.bytes 70 = some 8 := rfl
@[simp] theorem tagg70 : tab.agg 70 = some false := rfl
@[simp] theorem tkind70 : tab.kind 70 = some (.map 62 66) := rfl
@[simp] theorem tzero70 : tab.zero 70 = some [.raw (.map none)] := rfl
@[simp] theorem tsize71 : tab.size 71 = some 1 := rfl
@[simp] theorem tbytes71 : tab.bytes 71 = some 24 := rfl
@[simp] theorem tagg71 : tab.agg 71 = some false := rfl
@[simp] theorem tkind71 : tab.kind 71 = some (.slice 28) := rfl
@[simp] theorem tzero71 : tab.zero 71 = some [.nil] := rfl
@[simp] theorem telem71 : tab.elem 71 = some 28 := rfl
@[simp] theorem tsize72 : tab.size 72 = some 1 := rfl
@[simp] theorem tbytes72 : tab.bytes 72 = some 8 := rfl
@[simp] theorem tagg72 : tab.agg 72 = some false := rfl
@[simp] theorem tkind72 : tab.kind 72 = some (.func) := rfl
@[simp] theorem tzero72 : tab.zero 72 = some [.raw .nilFunc] := rfl
@[simp] theorem tsize73 : tab.size 73 = some 1 := rfl
@[simp] theorem tbytes73 : tab.bytes 73 = some 8 := rfl
@[simp] theorem tagg73 : tab.agg 73 = some false := rfl
@[simp] theorem tkind73 : tab.kind 73 = some (.func) := rfl
@[simp] theorem tzero73 : tab.zero 73 = some [.raw .nilFunc] := rfl
@[simp] theorem tsize75 : tab.size 75 = some 1 := rfl
@[simp] theorem tbytes75 : tab.bytes 75 = some 8 := rfl
@[simp] theorem tagg75 : tab.agg 75 = some false := rfl
@[simp] theorem tkind75 : tab.kind 75 = some (.func) := rfl
@[simp] theorem tzero75 : tab.zero 75 = some [.raw .nilFunc] := rfl
@[simp] theorem tsize76 : tab.size 76 = some 1 := rfl
@[simp] theorem tbytes76 : tab.bytes 76 = some 8 := rfl
@[simp] theorem tagg76 : tab.agg 76 = some false := rfl
@[simp] theorem tkind76 : tab.kind 76 = some (.func) := rfl
@[simp] theorem tzero76 : tab.zero 76 = some [.raw .nilFunc] := rfl
@[simp] theorem tsize77 : tab.size 77 = some 2 := rfl
@[simp] theorem tbytes77 : tab.bytes 77 = some 24 := rfl
@[simp] theorem tagg77 : tab.agg 77 = some true := rfl
@[simp] theorem tkind77 : tab.kind 77 = some (.struct [(0, 9), (1, 3)]) := rfl
@[simp] theorem tzero77 : tab.zero 77 = some [.str [], .int .i64 0] := rfl
@[simp] theorem tfoff77_0 : tab.foff 77 0 = some (0, 1) := rfl
@[simp] theorem tfoff77_1 : tab.foff 77 1 = some (1, 1) := rfl
@[simp] theorem tsok77 : structOk tab 77 = true := rfl
@[simp] theorem tsize78 : tab.size 78 = some 2 := rfl
@[simp] theorem tbytes78 : tab.bytes 78 = some 24 := rfl
@[simp] theorem tagg78 : tab.agg 78 = some true := rfl
@[simp] theorem tkind78 : tab.kind 78 = some (.struct [(0, 9), (1, 3)]) := rfl
@[simp] theorem tzero78 : tab.zero 78 = some [.str [], .int .i64 0] := rfl
@[simp] theorem tfoff78_0 : tab.foff 78 0 = some (0, 1) := rfl
@[simp] theorem tfoff78_1 : tab.foff 78 1 = some (1, 1) := rfl
@[simp] theorem tsok78 : structOk tab 78 = true := rfl
@[simp] theorem tsize79 : tab.size 79 = some 1 := rfl
@[simp] theorem tbytes79 : tab.bytes 79 = some 8 := rfl
@[simp] theorem tagg79 : tab.agg 79 = some false := rfl
@[simp] theorem tkind79 : tab.kind 79 = some (.func) := rfl
@[simp] theorem tzero79 : tab.zero 79 = some [.raw .nilFunc] := rfl
@[simp] theorem tsize80 : tab.size 80 = some 1 := rfl
@[simp] theorem tbytes80 : tab.bytes 80 = some 8 := rfl
@[simp] theorem tagg80 : tab.agg 80 = some false := rfl
@[simp] theorem tkind80 : tab.kind 80 = some (.ptr 104) := rfl
@[simp] theorem tzero80 : tab.zero 80 = some [.raw (.pointer none)] := rfl
@[simp] theorem tsize81 : tab.size 81 = some 1 := rfl
@[simp] theorem tbytes81 : tab.bytes 81 = some 8 := rfl
@[simp] theorem tagg81 : tab.agg 81 = some false := rfl
@[simp] theorem tkind81 : tab.kind 81 = some (.func) := rfl
@[simp] theorem tzero81 : tab.zero 81 = some [.raw .nilFunc] := rfl
@[simp] theorem tsize82 : tab.size 82 = some 1 := rfl
@[simp] theorem tbytes82 : tab.bytes 82 = some 8 := rfl
@[simp] theorem tagg82 : tab.agg 82 = some false := rfl
@[simp] theorem tkind82 : tab.kind 82 = some (.func) := rfl
@[simp] theorem tzero82 : tab.zero 82 = some [.raw .nilFunc] := rfl
@[simp] theorem tsize83 : tab.size 83 = some 1 := rfl
@[simp] theorem tbytes83 : tab.bytes 83 = some 8 := rfl
@[simp] theorem tagg83 : tab.agg 83 = some false := rfl
@[simp] theorem tkind83 : tab.kind 83 = some (.func) := rfl
@[simp] theorem tzero83 : tab.zero 83 = some [.raw .nilFunc] := rfl
@[simp] theorem tsize84 : tab.size 84 = some 1 := rfl
@[simp] theorem tbytes84 : tab.bytes 84 = some 8 := rfl
@[simp] theorem tagg84 : tab.agg 84 = some false := rfl
@[simp] theorem tkind84 : tab.kind 84 = some (.func) := rfl
@[simp] theorem tzero84 : tab.zero 84 = some [.raw .nilFunc] := rfl
@[simp] theorem tsize85 : tab.size 85 = some 1 := rfl
@[simp] theorem tbytes85 : tab.bytes 85 = some 8 := rfl
@[simp] theorem tagg85 : tab.agg 85 = some false := rfl
@[simp] theorem tkind85 : tab.kind 85 = some (.func) := rfl
@[simp] theorem tzero85 : tab.zero 85 = some [.raw .nilFunc] := rfl
@[simp] theorem tsize86 : tab.size 86 = some 1 := rfl
@[simp] theorem tbytes86 : tab.bytes 86 = some 8 := rfl
@[simp] theorem tagg86 : tab.agg 86 = some false := rfl
@[simp] theorem tkind86 : tab.kind 86 = some (.func) := rfl
@[simp] theorem tzero86 : tab.zero 86 = some [.raw .nilFunc] := rfl
@[simp] theorem tsize87 : tab.size 87 = some 1 := rfl
@[simp] theorem tbytes87 : tab.bytes 87 = some 8 := rfl
@[simp] theorem tagg87 : tab.agg 87 = some false := rfl
@[simp] theorem tkind87 : tab.kind 87 = some (.func) := rfl
@[simp] theorem tzero87 : tab.zero 87 = some [.raw .nilFunc] := rfl
@[simp] theorem tsize88 : tab.size 88 = some 1 := rfl
@[simp] theorem tbytes88 : tab.bytes 88 = some 8 := rfl
@[simp] theorem tagg88 : tab.agg 88 = some false := rfl
@[simp] theorem tkind88 : tab.kind 88 = some (.func) := rfl
@[simp] theorem tzero88 : tab.zero 88 = some [.raw .nilFunc] := rfl
@[simp] theorem tsize89 : tab.size 89 = some 1 := rfl
@[simp] theorem tbytes89 : tab.bytes 89 = some 8 := rfl
@[simp] theorem tagg89 : tab.agg 89 = some false := rfl
@[simp] theorem tkind89 : tab.kind 89 = some (.func) := rfl
@[simp] theorem tzero89 : tab.zero 89 = some [.raw .nilFunc] := rfl
@[simp] theorem tsize90 : tab.size 90 = some 1 := rfl
@[simp] theorem tbytes90 : tab.bytes 90 = some 8 := rfl
@[simp] theorem tagg90 : tab.agg 90 = some false := rfl
@[simp] theorem tkind90 : tab.kind 90 = some (.func) := rfl
@[simp] theorem tzero90 : tab.zero 90 = some [.raw .nilFunc] := rfl
@[simp] theorem tsize92 : tab.size 92 = some 1 := rfl
@[simp] theorem tbytes92 : tab.bytes 92 = some 8 := rfl
@[simp] theorem tagg92 : tab.agg 92 = some false := rfl
@[simp] theorem tkind92 : tab.kind 92 = some (.func) := rfl
@[simp] theorem tzero92 : tab.zero 92 = some [.raw .nilFunc] := rfl
@[simp] theorem tsize93 : tab.size 93 = some 1 := rfl
@[simp] theorem tbytes93 : tab.bytes 93 = some 8 := rfl
@[simp] theorem tagg93 : tab.agg 93 = some false := rfl
@[simp] theorem tkind93 : tab.kind 93 = some (.func) := rfl
@[simp] theorem tzero93 : tab.zero 93 = some [.raw .nilFunc] := rfl
@[simp] theorem tsize94 : tab.size 94 = some 1 := rfl
@[simp] theorem tbytes94 : tab.bytes 94 = some 8 := rfl
@[simp] theorem tagg94 : tab.agg 94 = some false := rfl
@[simp] theorem tkind94 : tab.kind 94 = some (.func) := rfl
@[simp] theorem tzero94 : tab.zero 94 = some [.raw .nilFunc] := rfl
@[simp] theorem tsize96 : tab.size 96 = some 1 := rfl
@[simp] theorem tbytes96 : tab.bytes 96 = some 8 := rfl
@[simp] theorem tagg96 : tab.agg 96 = some false := rfl
@[simp] theorem tkind96 : tab.kind 96 = some (.func) := rfl
@[simp] theorem tzero96 : tab.zero 96 = some [.raw .nilFunc] := rfl
@[simp] theorem tsize97 : tab.size 97 = some 1 := rfl
@[simp] theorem tbytes97 : tab.bytes 97 = some 8 := rfl
@[simp] theorem tagg97 : tab.agg 97 = some false := rfl
@[simp] theorem tkind97 : tab.kind 97 = some (.ptr 78) := rfl
@[simp] theorem tzero97 : tab.zero 97 = some [.raw (.pointer none)] := rfl
@[simp] theorem tsize99 : tab.size 99 = some 1 := rfl
@[simp] theorem tbytes99 : tab.bytes 99 = some 8 := rfl
@[simp] theorem tagg99 : tab.agg 99 = some false := rfl
@[simp] theorem tkind99 : tab.kind 99 = some (.func) := rfl
@[simp] theorem tzero99 : tab.zero 99 = some [.raw .nilFunc] := rfl
@[simp] theorem tsize101 : tab.size 101 = some 1 := rfl
@[simp] theorem tbytes101 : tab.bytes 101 = some 8 := rfl
@[simp] theorem tagg101 : tab.agg 101 = some false := rfl
@[simp] theorem tkind101 : tab.kind 101 = some (.func) := rfl
@[simp] theorem tzero101 : tab.zero 101 = some [.raw .nilFunc] := rfl
@[simp] theorem tsize102 : tab.size 102 = some 1 := rfl
@[simp] theorem tbytes102 : tab.bytes 102 = some 8 := rfl
@[simp] theorem tagg102 : tab.agg 102 = some false := rfl
@[simp] theorem tkind102 : tab.kind 102 = some (.func) := rfl
@[simp] theorem tzero102 : tab.zero 102 = some [.raw .nilFunc] := rfl
@[simp] theorem tsize103 : tab.size 103 = some 2 := rfl
@[simp] theorem tbytes103 : tab.bytes 103 = some 32 := rfl
@[simp] theorem tagg103 : tab.agg 103 = some true := rfl
@[simp] theorem tkind103 : tab.kind 103 = some (.struct [(0, 42), (1, 3)]) := rfl
@[simp] theorem tzero103 : tab.zero 103 = some [.nil, .int .i64 0] := rfl
@[simp] theorem tfoff103_0 : tab.foff 103 0 = some (0, 1) := rfl
@[simp] theorem tfoff103_1 : tab.foff 103 1 = some (1, 1) := rfl
@[simp] theorem tsok103 : structOk tab 103 = true := rfl
@[simp] theorem tsize104 : tab.size 104 = some 2 := rfl
@[simp] theorem tbytes104 : tab.bytes 104 = some 32 := rfl
@[simp] theorem tagg104 : tab.agg 104 = some true := rfl
@[simp] theorem tkind104 : tab.kind 104 = some (.struct [(0, 42), (1, 3)]) := rfl
@[simp] theorem tzero104 : tab.zero 104 = some [.nil, .int .i64 0] := rfl
@[simp] theorem tfoff104_0 : tab.foff 104 0 = some (0, 1) := rfl
@[simp] theorem tfoff104_1 : tab.foff 104 1 = some (1, 1) := rfl
@[simp] theorem tsok104 : structOk tab 104 = true := rfl
@[simp] theorem tsize105 : tab.size 105 = some 1 := rfl
@[simp] theorem tbytes105 : tab.bytes 105 = some 8 := rfl
@[simp] theorem tagg105 : tab.agg 105 = some false := rfl
@[simp] theorem tkind105 : tab.kind 105 = some (.func) := rfl
@[simp] theorem tzero105 : tab.zero 105 = some [.raw .nilFunc] := rfl
@[simp] theorem tsize106 : tab.size 106 = some 1 := rfl
@[simp] theorem tbytes106 : tab.bytes 106 = some 24 := rfl
@[simp] theorem tagg106 : tab.agg 106 = some false := rfl
@[simp] theorem tkind106 : tab.kind 106 = some (.slice 3) := rfl
@[simp] theorem tzero106 : tab.zero 106 = some [.nil] := rfl
@[simp] theorem telem106 : tab.elem 106 = some 3 := rfl
@[simp] theorem tsize107 : tab.size 107 = some 1 := rfl
@[simp] theorem tbytes107 : tab.bytes 107 = some 8 := rfl
@[simp] theorem tagg107 : tab.agg 107 = some false := rfl
@[simp] theorem tkind107 : tab.kind 107 = some (.func) := rfl
@[simp] theorem tzero107 : tab.zero 107 = some [.raw .nilFunc] := rfl
@[simp] theorem tsize108 : tab.size 108 = some 1 := rfl
@[simp] theorem tbytes108 : tab.bytes 108 = some 8 := rfl
@[simp] theorem tagg108 : tab.agg 108 = some false := rfl
@[simp] theorem tkind108 : tab.kind 108 = some (.func) := rfl
@[simp] theorem tzero108 : tab.zero 108 = some [.raw .nilFunc] := rfl
@[simp] theorem tsize109 : tab.size 109 = some 1 := rfl
@[simp] theorem tbytes109 : tab.bytes 109 = some 16 := rfl
@[simp] theorem tagg109 : tab.agg 109 = some false := rfl
@[simp] theorem tkind109 : tab.kind 109 = some (.iface) := rfl
@[simp] theorem tzero109 : tab.zero 109 = some [.raw .nilIface] := rfl
@[simp] theorem tsize110 : tab.size 110 = some 1 := rfl
@[simp] theorem tbytes110 : tab.bytes 110 = some 16 := rfl
@[simp] theorem tagg110 : tab.agg 110 = some false := rfl
@[simp] theorem tkind110 : tab.kind 110 = some (.iface) := rfl
@[simp] theorem tzero110 : tab.zero 110 = some [.raw .nilIface] := rfl
@[simp] theorem tsize111 : tab.size 111 = some 1 := rfl
@[simp] theorem tbytes111 : tab.bytes 111 = some 8 := rfl
@[simp] theorem tagg111 : tab.agg 111 = some false := rfl
@[simp] theorem tkind111 : tab.kind 111 = some (.func) := rfl
@[simp] theorem tzero111 : tab.zero 111 = some [.raw .nilFunc] := rfl
@[simp] theorem tmeth112_167 : tab.meth 112 "loop.example/pergola/impl.within" = some 167 := rfl
@[simp] theorem tsize112 : tab.size 112 = some 1 := rfl
@[simp] theorem tbytes112 : tab.bytes 112 = some 16 := rfl
@[simp] theorem tagg112 : tab.agg 112 = some false := rfl
@[simp] theorem tkind112 : tab.kind 112 = some (.string) := rfl
@[simp] theorem tzero112 : tab.zero 112 = some [.str []] := rfl
@[simp] theorem tmeth113_168 : tab.meth 113 "loop.example/pergola/impl.within" = some 168 := rfl
@[simp] theorem tsize113 : tab.size 113 = some 1 := rfl
@[simp] theorem tbytes113 : tab.bytes 113 = some 16 := rfl
@[simp] theorem tagg113 : tab.agg 113 = some false := rfl
@[simp] theorem tkind113 : tab.kind 113 = some (.string) := rfl
@[simp] theorem tzero113 : tab.zero 113 = some [.str []] := rfl
@[simp] theorem tsize114 : tab.size 114 = some 1 := rfl
@[simp] theorem tbytes114 : tab.bytes 114 = some 8 := rfl
@[simp] theorem tagg114 : tab.agg 114 = some false := rfl
@[simp] theorem tkind114 : tab.kind 114 = some (.func) := rfl
@[simp] theorem tzero114 : tab.zero 114 = some [.raw .nilFunc] := rfl
@[simp] theorem tsize115 : tab.size 115 = some 1 := rfl
@[simp] theorem tbytes115 : tab.bytes 115 = some 8 := rfl
@[simp] theorem tagg115 : tab.agg 115 = some false := rfl
@[simp] theorem tkind115 : tab.kind 115 = some (.func) := rfl
@[simp] theorem tzero115 : tab.zero 115 = some [.raw .nilFunc] := rfl
@[simp] theorem tsize116 : tab.size 116 = some 1 := rfl
@[simp] theorem tbytes116 : tab.bytes 116 = some 8 := rfl
@[simp] theorem tagg116 : tab.agg 116 = some false := rfl
@[simp] theorem tkind116 : tab.kind 116 = some (.func) := rfl
@[simp] theorem tzero116 : tab.zero 116 = some [.raw .nilFunc] := rfl
@[simp] theorem tsize117 : tab.size 117 = some 1 := rfl
@[simp] theorem tbytes117 : tab.bytes 117 = some 8 := rfl
@[simp] theorem tagg117 : tab.agg 117 = some false := rfl
@[simp] theorem tkind117 : tab.kind 117 = some (.func) := rfl
@[simp] theorem tzero117 : tab.zero 117 = some [.raw .nilFunc] := rfl
@[simp] theorem tsize118 : tab.size 118 = some 1 := rfl
@[simp] theorem tbytes118 : tab.bytes 118 = some 8 := rfl
@[simp] theorem tagg118 : tab.agg 118 = some false := rfl
@[simp] theorem tkind118 : tab.kind 118 = some (.func) := rfl
@[simp] theorem tzero118 : tab.zero 118 = some [.raw .nilFunc] := rfl
@[simp] theorem tsize119 : tab.size 119 = some 1 := rfl
@[simp] theorem tbytes119 : tab.bytes 119 = some 8 := rfl
@[simp] theorem tagg119 : tab.agg 119 = some false := rfl
@[simp] theorem tkind119 : tab.kind 119 = some (.func) := rfl
@[simp] theorem tzero119 : tab.zero 119 = some [.raw .nilFunc] := rfl
@[simp] theorem tsize120 : tab.size 120 = some 1 := rfl
@[simp] theorem tbytes120 : tab.bytes 120 = some 8 := rfl
@[simp] theorem tagg120 : tab.agg 120 = some false := rfl
@[simp] theorem tkind120 : tab.kind 120 = some (.func) := rfl
@[simp] theorem tzero120 : tab.zero 120 = some [.raw .nilFunc] := rfl
@[simp] theorem tsize121 : tab.size 121 = some 1 := rfl
@[simp] theorem tbytes121 : tab.bytes 121 = some 8 := rfl
@[simp] theorem tagg121 : tab.agg 121 = some false := rfl
@[simp] theorem tkind121 : tab.kind 121 = some (.ptr 123) := rfl
@[simp] theorem tzero121 : tab.zero 121 = some [.raw (.pointer none)] := rfl
@[simp] theorem tsize122 : tab.size 122 = some 4 := rfl
@[simp] theorem tbytes122 : tab.bytes 122 = some 48 := rfl
@[simp] theorem tagg122 : tab.agg 122 = some true := rfl
@[simp] theorem tkind122 : tab.kind 122 = some (.struct [(0, 62), (2, 28), (3, 121)]) := rfl
@[simp] theorem tzero122 : tab.zero 122 = some [.raw (.pointer none), .int .i64 0, .nil, .raw (.pointer none)] := rfl
@[simp] theorem tfoff122_0 : tab.foff 122 0 = some (0, 2) := rfl
@[simp] theorem tfoff122_1 : tab.foff 122 1 = some (2, 1) := rfl
@[simp] theorem tfoff122_2 : tab.foff 122 2 = some (3, 1) := rfl
@[simp] theorem tsok122 : structOk tab 122 = true := rfl
@[simp] theorem tsize123 : tab.size 123 = some 4 := rfl
@[simp] theorem tbytes123 : tab.bytes 123 = some 48 := rfl
@[simp] theorem tagg123 : tab.agg 123 = some true := rfl
@[simp] theorem tkind123 : tab.kind 123 = some (.struct [(0, 62), (2, 28), (3, 121)]) := rfl
@[simp] theorem tzero123 : tab.zero 123 = some [.raw (.pointer none), .int .i64 0, .nil, .raw (.pointer none)] := rfl
@[simp] theorem tfoff123_0 : tab.foff 123 0 = some (0, 2) := rfl
@[simp] theorem tfoff123_1 : tab.foff 123 1 = some (2, 1) := rfl
@[simp] theorem tfoff123_2 : tab.foff 123 2 = some (3, 1) := rfl
@[simp] theorem tsok123 : structOk tab 123 = true := rfl
@[simp] theorem tsize125 : tab.size 125 = some 1 := rfl
@[simp] theorem tbytes125 : tab.bytes 125 = some 8 := rfl
@[simp] theorem tagg125 : tab.agg 125 = some false := rfl
@[simp] theorem tkind125 : tab.kind 125 = some (.func) := rfl
@[simp] theorem tzero125 : tab.zero 125 = some [.raw .nilFunc] := rfl
@[simp] theorem tsize126 : tab.size 126 = some 1 := rfl
@[simp] theorem tbytes126 : tab.bytes 126 = some 8 := rfl
@[simp] theorem tagg126 : tab.agg 126 = some false := rfl
@[simp] theorem tkind126 : tab.kind 126 = some (.func) := rfl
@[simp] theorem tzero126 : tab.zero 126 = some [.raw .nilFunc] := rfl
@[simp] theorem tsize128 : tab.size 128 = some 1 := rfl
@[simp] theorem tbytes128 : tab.bytes 128 = some 8 := rfl
@[simp] theorem tagg128 : tab.agg 128 = some false := rfl
@[simp] theorem tkind128 : tab.kind 128 = some (.func) := rfl
@[simp] theorem tzero128 : tab.zero 128 = some [.raw .nilFunc] := rfl
@[simp] theorem tsize129 : tab.size 129 = some 1 := rfl
@[simp] theorem tbytes129 : tab.bytes 129 = some 8 := rfl
@[simp] theorem tagg129 : tab.agg 129 = some false := rfl
@[simp] theorem tkind129 : tab.kind 129 = some (.func) := rfl
@[simp] theorem tzero129 : tab.zero 129 = some [.raw .nilFunc] := rfl
@[simp] theorem tsize130 : tab.size 130 = some 1 := rfl
@[simp] theorem tbytes130 : tab.bytes 130 = some 8 := rfl
@[simp] theorem tagg130 : tab.agg 130 = some false := rfl
@[simp] theorem tkind130 : tab.kind 130 = some (.func) := rfl
@[simp] theorem tzero130 : tab.zero 130 = some [.raw .nilFunc] := rfl
@[simp] theorem tsize131 : tab.size 131 = some 1 := rfl
@[simp] theorem tbytes131 : tab.bytes 131 = some 8 := rfl
@[simp] theorem tagg131 : tab.agg 131 = some false := rfl
@[simp] theorem tkind131 : tab.kind 131 = some (.func) := rfl
@[simp] theorem tzero131 : tab.zero 131 = some [.raw .nilFunc] := rfl
@[simp] theorem tsize132 : tab.size 132 = some 1 := rfl
@[simp] theorem tbytes132 : tab.bytes 132 = some 8 := rfl
@[simp] theorem tagg132 : tab.agg 132 = some false := rfl
@[simp] theorem tkind132 : tab.kind 132 = some (.int .u64) := rfl
@[simp] theorem tzero132 : tab.zero 132 = some [.int .u64 0] := rfl
@[simp] theorem tsize133 : tab.size 133 = some 1 := rfl
@[simp] theorem tbytes133 : tab.bytes 133 = some 8 := rfl
@[simp] theorem tagg133 : tab.agg 133 = some false := rfl
@[simp] theorem tkind133 : tab.kind 133 = some (.func) := rfl
@[simp] theorem tzero133 : tab.zero 133 = some [.raw .nilFunc] := rfl
@[simp] theorem tmeth134_169 : tab.meth 134 "loop.example/pergola/impl.within" = some 169 := rfl
@[simp] theorem tsize134 : tab.size 134 = some 0 := rfl
@[simp] theorem tbytes134 : tab.bytes 134 = some 0 := rfl
@[simp] theorem tagg134 : tab.agg 134 = some true := rfl
@[simp] theorem tkind134 : tab.kind 134 = some (.struct []) := rfl
@[simp] theorem tzero134 : tab.zero 134 = some [] := rfl
@[simp] theorem tsok134 : structOk tab 134 = true := rfl
@[simp] theorem tmeth135_170 : tab.meth 135 "loop.example/pergola/impl.within" = some 170 := rfl
@[simp] theorem tsize135 : tab.size 135 = some 1 := rfl
@[simp] theorem tbytes135 : tab.bytes 135 = some 1 := rfl
@[simp] theorem tagg135 : tab.agg 135 = some false := rfl
@[simp] theorem tkind135 : tab.kind 135 = some (.bool) := rfl
@[simp] theorem tzero135 : tab.zero 135 = some [.bool false] := rfl
@[simp] theorem tmeth136_171 : tab.meth 136 "loop.example/pergola/impl.within" = some 171 := rfl
@[simp] theorem tsize136 : tab.size 136 = some 1 := rfl
@[simp] theorem tbytes136 : tab.bytes 136 = some 8 := rfl
@[simp] theorem tagg136 : tab.agg 136 = some false := rfl
@[simp] theorem tkind136 : tab.kind 136 = some (.int .i64) := rfl
@[simp] theorem tzero136 : tab.zero 136 = some [.int .i64 0] := rfl
@[simp] theorem tmeth137_172 : tab.meth 137 "loop.example/pergola/impl.within" = some 172 := rfl
@[simp] theorem tsize137 : tab.size 137 = some 1 := rfl
@[simp] theorem tbytes137 : tab.bytes 137 = some 16 := rfl
@[simp] theorem tagg137 : tab.agg 137 = some false := rfl
@[simp] theorem tkind137 : tab.kind 137 = some (.string) := rfl
@[simp] theorem tzero137 : tab.zero 137 = some [.str []] := rfl
@[simp] theorem tmeth138_173 : tab.meth 138 "loop.example/pergola/impl.within" = some 173 := rfl
@[simp] theorem tsize138 : tab.size 138 = some 1 := rfl
@[simp] theorem tbytes138 : tab.bytes 138 = some 24 := rfl
@[simp] theorem tagg138 : tab.agg 138 = some false := rfl
@[simp] theorem tkind138 : tab.kind 138 = some (.slice 30) := rfl
@[simp] theorem tzero138 : tab.zero 138 = some [.nil] := rfl
@[simp] theorem telem138 : tab.elem 138 = some 30 := rfl
@[simp] theorem tsize139 : tab.size 139 = some 2 := rfl
@[simp] theorem tbytes139 : tab.bytes 139 = some 48 := rfl
@[simp] theorem tagg139 : tab.agg 139 = some true := rfl
@[simp] theorem tkind139 : tab.kind 139 = some (.struct [(0, 23), (1, 28)]) := rfl
@[simp] theorem tzero139 : tab.zero 139 = some [.nil, .nil] := rfl
@[simp] theorem tfoff139_0 : tab.foff 139 0 = some (0, 1) := rfl
@[simp] theorem tfoff139_1 : tab.foff 139 1 = some (1, 1) := rfl
@[simp] theorem tsok139 : structOk tab 139 = true := rfl
@[simp] theorem tmeth140_174 : tab.meth 140 "loop.example/pergola/impl.within" = some 174 := rfl
@[simp] theorem tsize140 : tab.size 140 = some 2 := rfl
@[simp] theorem tbytes140 : tab.bytes 140 = some 48 := rfl
@[simp] theorem tagg140 : tab.agg 140 = some true := rfl
@[simp] theorem tkind140 : tab.kind 140 = some (.struct [(0, 23), (1, 28)]) := rfl
@[simp] theorem tzero140 : tab.zero 140 = some [.nil, .nil] := rfl
@[simp] theorem tfoff140_0 : tab.foff 140 0 = some (0, 1) := rfl
@[simp] theorem tfoff140_1 : tab.foff 140 1 = some (1, 1) := rfl
@[simp] theorem tsok140 : structOk tab 140 = true := rfl
@[simp] theorem tsize141 : tab.size 141 = some 1 := rfl
@[simp] theorem tbytes141 : tab.bytes 141 = some 8 := rfl
@[simp] theorem tagg141 : tab.agg 141 = some false := rfl
@[simp] theorem tkind141 : tab.kind 141 = some (.func) := rfl
@[simp] theorem tzero141 : tab.zero 141 = some [.raw .nilFunc] := rfl
@[simp] theorem tsize142 : tab.size 142 = some 1 := rfl
@[simp] theorem tbytes142 : tab.bytes 142 = some 8 := rfl
@[simp] theorem tagg142 : tab.agg 142 = some false := rfl
@[simp] theorem tkind142 : tab.kind 142 = some (.func) := rfl
@[simp] theorem tzero142 : tab.zero 142 = some [.raw .nilFunc] := rfl
@[simp] theorem tsize143 : tab.size 143 = some 1 := rfl
@[simp] theorem tbytes143 : tab.bytes 143 = some 8 := rfl
@[simp] theorem tagg143 : tab.agg 143 = some false := rfl
@[simp] theorem tkind143 : tab.kind 143 = some (.func) := rfl
@[simp] theorem tzero143 : tab.zero 143 = some [.raw .nilFunc] := rfl
@[simp] theorem tsize144 : tab.size 144 = some 1 := rfl
@[simp] theorem tbytes144 : tab.bytes 144 = some 8 := rfl
@[simp] theorem tagg144 : tab.agg 144 = some false := rfl
@[simp] theorem tkind144 : tab.kind 144 = some (.func) := rfl
@[simp] theorem tzero144 : tab.zero 144 = some [.raw .nilFunc] := rfl
@[simp] theorem tsize145 : tab.size 145 = some 1 := rfl
@[simp] theorem tbytes145 : tab.bytes 145 = some 8 := rfl
@[simp] theorem tagg145 : tab.agg 145 = some false := rfl
@[simp] theorem tkind145 : tab.kind 145 = some (.int .i64) := rfl
@[simp] theorem tzero145 : tab.zero 145 = some [.int .i64 0] := rfl
@[simp] theorem tsize147 : tab.size 147 = some 1 := rfl
@[simp] theorem tbytes147 : tab.bytes 147 = some 8 := rfl
@[simp] theorem tagg147 : tab.agg 147 = some false := rfl
@[simp] theorem tkind147 : tab.kind 147 = some (.func) := rfl
@[simp] theorem tzero147 : tab.zero 147 = some [.raw .nilFunc] := rfl
@[simp] theorem tsize148 : tab.size 148 = some 1 := rfl
@[simp] theorem tbytes148 : tab.bytes 148 = some 8 := rfl
@[simp] theorem tagg148 : tab.agg 148 = some false := rfl
@[simp] theorem tkind148 : tab.kind 148 = some (.func) := rfl
@[simp] theorem tzero148 : tab.zero 148 = some [.raw .nilFunc] := rfl
@[simp] theorem tsize149 : tab.size 149 = some 1 := rfl
@[simp] theorem tbytes149 : tab.bytes 149 = some 8 := rfl
@[simp] theorem tagg149 : tab.agg 149 = some false := rfl
@[simp] theorem tkind149 : tab.kind 149 = some (.func) := rfl
@[simp] theorem tzero149 : tab.zero 149 = some [.raw .nilFunc] := rfl
@[simp] theorem tsize151 : tab.size 151 = some 1 := rfl
@[simp] theorem tbytes151 : tab.bytes 151 = some 8 := rfl
@[simp] theorem tagg151 : tab.agg 151 = some false := rfl
@[simp] theorem tkind151 : tab.kind 151 = some (.func) := rfl
@[simp] theorem tzero151 : tab.zero 151 = some [.raw .nilFunc] := rfl
@[simp] theorem tsize152 : tab.size 152 = some 1 := rfl
@[simp] theorem tbytes152 : tab.bytes 152 = some 8 := rfl
@[simp] theorem tagg152 : tab.agg 152 = some false := rfl
@[simp] theorem tkind152 : tab.kind 152 = some (.func) := rfl
@[simp] theorem tzero152 : tab.zero 152 = some [.raw .nilFunc] := rfl
@[simp] theorem tsize153 : tab.size 153 = some 1 := rfl
@[simp] theorem tbytes153 : tab.bytes 153 = some 4 := rfl
@[simp] theorem tagg153 : tab.agg 153 = some false := rfl
@[simp] theorem tkind153 : tab.kind 153 = some (.int .u32) := rfl
@[simp] theorem tzero153 : tab.zero 153 = some [.int .u32 0] := rfl
@[simp] theorem tsize154 : tab.size 154 = some 1 := rfl
@[simp] theorem tbytes154 : tab.bytes 154 = some 8 := rfl
@[simp] theorem tagg154 : tab.agg 154 = some false := rfl
@[simp] theorem tkind154 : tab.kind 154 = some (.func) := rfl
@[simp] theorem tzero154 : tab.zero 154 = some [.raw .nilFunc] := rfl
@[simp] theorem tsize155 : tab.size 155 = some 1 := rfl
@[simp] theorem tbytes155 : tab.bytes 155 = some 8 := rfl
@[simp] theorem tagg155 : tab.agg 155 = some false := rfl
@[simp] theorem tkind155 : tab.kind 155 = some (.int .u64) := rfl
@[simp] theorem tzero155 : tab.zero 155 = some [.int .u64 0] := rfl
@[simp] theorem tsize156 : tab.size 156 = some 1 := rfl
@[simp] theorem tbytes156 : tab.bytes 156 = some 8 := rfl
@[simp] theorem tagg156 : tab.agg 156 = some false := rfl
@[simp] theorem tkind156 : tab.kind 156 = some (.int .u64) := rfl
@[simp] theorem tzero156 : tab.zero 156 = some [.int .u64 0] := rfl
@[simp] theorem tsize157 : tab.size 157 = some 1 := rfl
@[simp] theorem tbytes157 : tab.bytes 157 = some 8 := rfl
@[simp] theorem tagg157 : tab.agg 157 = some false := rfl
@[simp] theorem tkind157 : tab.kind 157 = some (.func) := rfl
@[simp] theorem tzero157 : tab.zero 157 = some [.raw .nilFunc] := rfl
@[simp] theorem tsize158 : tab.size 158 = some 1 := rfl
@[simp] theorem tbytes158 : tab.bytes 158 = some 8 := rfl
@[simp] theorem tagg158 : tab.agg 158 = some false := rfl
@[simp] theorem tkind158 : tab.kind 158 = some (.func) := rfl
@[simp] theorem tzero158 : tab.zero 158 = some [.raw .nilFunc] := rfl
@[simp] theorem tsize159 : tab.size 159 = some 1 := rfl
@[simp] theorem tbytes159 : tab.bytes 159 = some 8 := rfl
@[simp] theorem tagg159 : tab.agg 159 = some false := rfl
@[simp] theorem tkind159 : tab.kind 159 = some (.func) := rfl
@[simp] theorem tzero159 : tab.zero 159 = some [.raw .nilFunc] := rfl
@[simp] theorem tsize160 : tab.size 160 = some 1 := rfl
@[simp] theorem tbytes160 : tab.bytes 160 = some 8 := rfl
@[simp] theorem tagg160 : tab.agg 160 = some false := rfl
@[simp] theorem tkind160 : tab.kind 160 = some (.ptr 3) := rfl
@[simp] theorem tzero160 : tab.zero 160 = some [.raw (.pointer none)] := rfl
@[simp] theorem tsize161 : tab.size 161 = some 1 := rfl
@[simp] theorem tbytes161 : tab.bytes 161 = some 8 := rfl
@[simp] theorem tagg161 : tab.agg 161 = some false := rfl
@[simp] theorem tkind161 : tab.kind 161 = some (.func) := rfl
@[simp] theorem tzero161 : tab.zero 161 = some [.raw .nilFunc] := rfl
@[simp] theorem tsize162 : tab.size 162 = some 1 := rfl
@[simp] theorem tbytes162 : tab.bytes 162 = some 8 := rfl
@[simp] theorem tagg162 : tab.agg 162 = some false := rfl
@[simp] theorem tkind162 : tab.kind 162 = some (.ptr 156) := rfl
@[simp] theorem tzero162 : tab.zero 162 = some [.raw (.pointer none)] := rfl
@[simp] theorem tsize164 : tab.size 164 = some 1 := rfl
@[simp] theorem tbytes164 : tab.bytes 164 = some 8 := rfl
@[simp] theorem tagg164 : tab.agg 164 = some false := rfl
@[simp] theorem tkind164 : tab.kind 164 = some (.func) := rfl
@[simp] theorem tzero164 : tab.zero 164 = some [.raw .nilFunc] := rfl
@[simp] theorem tsize165 : tab.size 165 = some 1 := rfl
@[simp] theorem tbytes165 : tab.bytes 165 = some 8 := rfl
@[simp] theorem tagg165 : tab.agg 165 = some false := rfl
@[simp] theorem tkind165 : tab.kind 165 = some (.func) := rfl
@[simp] theorem tzero165 : tab.zero 165 = some [.raw .nilFunc] := rfl
@[simp] theorem tsize166 : tab.size 166 = some 4 := rfl
@[simp] theorem tbytes166 : tab.bytes 166 = some 40 := rfl
@[simp] theorem tagg166 : tab.agg 166 = some true := rfl
@[simp] theorem tkind166 : tab.kind 166 = some (.struct [(0, 17), (1, 17), (2, 17), (3, 9)]) := rfl
@[simp] theorem tzero166 : tab.zero 166 = some [.raw (.pointer none), .raw (.pointer none), .raw (.pointer none), .str []] := rfl
@[simp] theorem tfoff166_0 : tab.foff 166 0 = some (0, 1) := rfl
@[simp] theorem tfoff166_1 : tab.foff 166 1 = some (1, 1) := rfl
@[simp] theorem tfoff166_2 : tab.foff 166 2 = some (2, 1) := rfl
@[simp] theorem tfoff166_3 : tab.foff 166 3 = some (3, 1) := rfl
@[simp] theorem tsok166 : structOk tab 166 = true := rfl
@[simp] theorem tsize167 : tab.size 167 = some 4 := rfl
@[simp] theorem tbytes167 : tab.bytes 167 = some 40 := rfl
@[simp] theorem tagg167 : tab.agg 167 = some true := rfl
@[simp] theorem tkind167 : tab.kind 167 = some (.struct [(0, 17), (1, 17), (2, 17), (3, 9)]) := rfl
@[simp] theorem tzero167 : tab.zero 167 = some [.raw (.pointer none), .raw (.pointer none), .raw (.pointer none), .str []] := rfl
@[simp] theorem tfoff167_0 : tab.foff 167 0 = some (0, 1) := rfl
@[simp] theorem tfoff167_1 : tab.foff 167 1 = some (1, 1) := rfl
@[simp] theorem tfoff167_2 : tab.foff 167 2 = some (2, 1) := rfl
@[simp] theorem tfoff167_3 : tab.foff 167 3 = some (3, 1) := rfl
@[simp] theorem tsok167 : structOk tab 167 = true := rfl
@[simp] theorem tsize169 : tab.size 169 = some 0 := rfl
@[simp] theorem tbytes169 : tab.bytes 169 = some 0 := rfl
@[simp] theorem tagg169 : tab.agg 169 = some true := rfl
@[simp] theorem tkind169 : tab.kind 169 = some (.struct [(0, 168)]) := rfl
@[simp] theorem tzero169 : tab.zero 169 = some [] := rfl
@[simp] theorem tsize170 : tab.size 170 = some 0 := rfl
@[simp] theorem tbytes170 : tab.bytes 170 = some 0 := rfl
@[simp] theorem tagg170 : tab.agg 170 = some true := rfl
@[simp] theorem tkind170 : tab.kind 170 = some (.struct [(0, 168)]) := rfl
@[simp] theorem tzero170 : tab.zero 170 = some [] := rfl
@[simp] theorem tsize171 : tab.size 171 = some 1 := rfl
@[simp] theorem tbytes171 : tab.bytes 171 = some 8 := rfl
@[simp] theorem tagg171 : tab.agg 171 = some false := rfl
@[simp] theorem tkind171 : tab.kind 171 = some (.func) := rfl
@[simp] theorem tzero171 : tab.zero 171 = some [.raw .nilFunc] := rfl
@[simp] theorem tsize172 : tab.size 172 = some 1 := rfl
@[simp] theorem tbytes172 : tab.bytes 172 = some 1 := rfl
@[simp] theorem tagg172 : tab.agg 172 = some false := rfl
@[simp] theorem tkind172 : tab.kind 172 = some (.int .u8) := rfl
@[simp] theorem tzero172 : tab.zero 172 = some [.int .u8 0] := rfl
@[simp] theorem tmeth173_175 : tab.meth 173 "String" = some 175 := rfl
@[simp] theorem tsize173 : tab.size 173 = some 1 := rfl
@[simp] theorem tbytes173 : tab.bytes 173 = some 1 := rfl
@[simp] theorem tagg173 : tab.agg 173 = some false := rfl
@[simp] theorem tkind173 : tab.kind 173 = some (.int .u8) := rfl
@[simp] theorem tzero173 : tab.zero 173 = some [.int .u8 0] := rfl
@[simp] theorem tsize174 : tab.size 174 = some 1 := rfl
@[simp] theorem tbytes174 : tab.bytes 174 = some 8 := rfl
@[simp] theorem tagg174 : tab.agg 174 = some false := rfl
@[simp] theorem tkind174 : tab.kind 174 = some (.func) := rfl
@[simp] theorem tzero174 : tab.zero 174 = some [.raw .nilFunc] := rfl
@[simp] theorem tsize175 : tab.size 175 = some 1 := rfl
@[simp] theorem tbytes175 : tab.bytes 175 = some 8 := rfl
@[simp] theorem tagg175 : tab.agg 175 = some false := rfl
@[simp] theorem tkind175 : tab.kind 175 = some (.ptr 5) := rfl
@[simp] theorem tzero175 : tab.zero 175 = some [.raw (.pointer none)] := rfl
@[simp] theorem tsize176 : tab.size 176 = some 1 := rfl
@[simp] theorem tbytes176 : tab.bytes 176 = some 4 := rfl
@[simp] theorem tagg176 : tab.agg 176 = some false := rfl
@[simp] theorem tkind176 : tab.kind 176 = some (.int .i32) := rfl
@[simp] theorem tzero176 : tab.zero 176 = some [.int .i32 0] := rfl
@[simp] theorem tsize177 : tab.size 177 = some 1 := rfl
@[simp] theorem tbytes177 : tab.bytes 177 = some 4 := rfl
@[simp] theorem tagg177 : tab.agg 177 = some false := rfl
@[simp] theorem tkind177 : tab.kind 177 = some (.int .i32) := rfl
@[simp] theorem tzero177 : tab.zero 177 = some [.int .i32 0] := rfl
@[simp] theorem tsize178 : tab.size 178 = some 11 := rfl
@[simp] theorem tbytes178 : tab.bytes 178 = some 48 := rfl
@[simp] theorem tagg178 : tab.agg 178 = some true := rfl
@[simp] theorem tkind178 : tab.kind 178 = some (.struct [(0, 12), (1, 12), (2, 153), (3, 172), (4, 5), (5, 5), (6, 173), (7, 174), (8, 175), (9, 176), (10, 177)]) := rfl
@[simp] theorem tzero178 : tab.zero 178 = some [.int .u64 0, .int .u64 0, .int .u32 0, .int .u8 0, .int .u8 0, .int .u8 0, .int .u8 0, .raw .nilFunc, .raw (.pointer none), .int .i32 0, .int .i32 0] := rfl
@[simp] theorem tfoff178_0 : tab.foff 178 0 = some (0, 1) := rfl
@[simp] theorem tfoff178_1 : tab.foff 178 1 = some (1, 1) := rfl
@[simp] theorem tfoff178_2 : tab.foff 178 2 = some (2, 1) := rfl
@[simp] theorem tfoff178_3 : tab.foff 178 3 = some (3, 1) := rfl
@[simp] theorem tfoff178_4 : tab.foff 178 4 = some (4, 1) := rfl
@[simp] theorem tfoff178_5 : tab.foff 178 5 = some (5, 1) := rfl
@[simp] theorem tfoff178_6 : tab.foff 178 6 = some (6, 1) := rfl
@[simp] theorem tfoff178_7 : tab.foff 178 7 = some (7, 1) := rfl
@[simp] theorem tfoff178_8 : tab.foff 178 8 = some (8, 1) := rfl
@[simp] theorem tfoff178_9 : tab.foff 178 9 = some (9, 1) := rfl
@[simp] theorem tfoff178_10 : tab.foff 178 10 = some (10, 1) := rfl
@[simp] theorem tsok178 : structOk tab 178 = true := rfl
@[simp] theorem tsize179 : tab.size 179 = some 11 := rfl
@[simp] theorem tbytes179 : tab.bytes 179 = some 48 := rfl
@[simp] theorem tagg179 : tab.agg 179 = some true := rfl
@[simp] theorem tkind179 : tab.kind 179 = some (.struct [(0, 12), (1, 12), (2, 153), (3, 172), (4, 5), (5, 5), (6, 173), (7, 174), (8, 175), (9, 176), (10, 177)]) := rfl
@[simp] theorem tzero179 : tab.zero 179 = some [.int .u64 0, .int .u64 0, .int .u32 0, .int .u8 0, .int .u8 0, .int .u8 0, .int .u8 0, .raw .nilFunc, .raw (.pointer none), .int .i32 0, .int .i32 0] := rfl
@[simp] theorem tfoff179_0 : tab.foff 179 0 = some (0, 1) := rfl
@[simp] theorem tfoff179_1 : tab.foff 179 1 = some (1, 1) := rfl
@[simp] theorem tfoff179_2 : tab.foff 179 2 = some (2, 1) := rfl
@[simp] theorem tfoff179_3 : tab.foff 179 3 = some (3, 1) := rfl
@[simp] theorem tfoff179_4 : tab.foff 179 4 = some (4, 1) := rfl
@[simp] theorem tfoff179_5 : tab.foff 179 5 = some (5, 1) := rfl
@[simp] theorem tfoff179_6 : tab.foff 179 6 = some (6, 1) := rfl
@[simp] theorem tfoff179_7 : tab.foff 179 7 = some (7, 1) := rfl
@[simp] theorem tfoff179_8 : tab.foff 179 8 = some (8, 1) := rfl
@[simp] theorem tfoff179_9 : tab.foff 179 9 = some (9, 1) := rfl
@[simp] theorem tfoff179_10 : tab.foff 179 10 = some (10, 1) := rfl
@[simp] theorem tsok179 : structOk tab 179 = true := rfl
end Go.Proofs.Ytiaigcdckmpepaa
end
section
/-! Plain data. -/
set_option linter.unusedVariables false
namespace Go.Proofs.Ytiaigcdckmpepaa
open Go.Bb
abbrev Bs := List UInt8
@[ext] structure XBoundsError where
  x : Int
  y : Int
  signed : Bool
  code : Int
  deriving Inhabited
def encXBoundsError (v : XBoundsError) : List AV := [.int .i64 v.x, .int .i64 v.y, .bool v.signed, .int .u8 v.code]
theorem encXBoundsError_eq (v : XBoundsError) : encXBoundsError v = [.int .i64 v.x, .int .i64 v.y, .bool v.signed, .int .u8 v.code] := rfl
theorem encXBoundsError_len (v : XBoundsError) : (encXBoundsError v).length = 4 := by rw [encXBoundsError_eq]; rfl
theorem encXBoundsError_ok (v : XBoundsError) : cellsOk (encXBoundsError v) = true := by rw [encXBoundsError_eq]; rfl
theorem encXBoundsError_frz (v : XBoundsError) : FrzL (encXBoundsError v) (encXBoundsError v) := by rw [encXBoundsError_eq]; exact .cons (.refl _ rfl) (.cons (.refl _ rfl) (.cons (.refl _ rfl) (.cons (.refl _ rfl) (.nil))))
@[ext] structure XErrorAddressString where
  msg : Bs
  addr : Int
  deriving Inhabited
def encXErrorAddressString (v : XErrorAddressString) : List AV := [.str v.msg, .int .u64 v.addr]
theorem encXErrorAddressString_eq (v : XErrorAddressString) : encXErrorAddressString v = [.str v.msg, .int .u64 v.addr] := rfl
theorem encXErrorAddressString_len (v : XErrorAddressString) : (encXErrorAddressString v).length = 2 := by rw [encXErrorAddressString_eq]; rfl
theorem encXErrorAddressString_ok (v : XErrorAddressString) : cellsOk (encXErrorAddressString v) = true := by rw [encXErrorAddressString_eq]; rfl
theorem encXErrorAddressString_frz (v : XErrorAddressString) : FrzL (encXErrorAddressString v) (encXErrorAddressString v) := by rw [encXErrorAddressString_eq]; exact .cons (.refl _ rfl) (.cons (.refl _ rfl) (.nil))
inductive Val where
  | mk (kind : Int) (num : Int) (text : Bs) (list : (List Val)) (names : (List Bs))
  deriving Inhabited
def Val.kind : Val → Int | .mk x _ _ _ _ => x
def Val.num : Val → Int | .mk _ x _ _ _ => x
def Val.text : Val → Bs | .mk _ _ x _ _ => x
def Val.list : Val → (List Val) | .mk _ _ _ x _ => x
def Val.names : Val → (List Bs) | .mk _ _ _ _ x => x
theorem Val.ext_ : ∀ {a b : Val}, a.kind = b.kind → a.num = b.num → a.text = b.text → a.list = b.list → a.names = b.names → a = b
  | .mk _ _ _ _ _, .mk _ _ _ _ _, h0, h1, h2, h3, h4 => by subst h0 h1 h2 h3 h4; rfl
@[simp] theorem Val.kind_mk {kind : Int} {num : Int} {text : Bs} {list : (List Val)} {names : (List Bs)} : (Val.mk kind num text list names).kind = kind := rfl
@[simp] theorem Val.num_mk {kind : Int} {num : Int} {text : Bs} {list : (List Val)} {names : (List Bs)} : (Val.mk kind num text list names).num = num := rfl
@[simp] theorem Val.text_mk {kind : Int} {num : Int} {text : Bs} {list : (List Val)} {names : (List Bs)} : (Val.mk kind num text list names).text = text := rfl
@[simp] theorem Val.list_mk {kind : Int} {num : Int} {text : Bs} {list : (List Val)} {names : (List Bs)} : (Val.mk kind num text list names).list = list := rfl
@[simp] theorem Val.names_mk {kind : Int} {num : Int} {text : Bs} {list : (List Val)} {names : (List Bs)} : (Val.mk kind num text list names).names = names := rfl
@[simp] theorem Val.eta (v : Val) : Val.mk v.kind v.num v.text v.list v.names = v := by cases v; rfl
mutual
def encLVal : Val → List AV
  | .mk kind num text list names => [.int .i64 kind, .int .i64 num, .str text, .sl false (encLVals list), .sl false (names.map encS)]
def encLVals : List Val → List (List AV)
  | [] => []
  | v :: l => encLVal v :: encLVals l
end
theorem encLVals_eq (l : List Val) : encLVals l = l.map encLVal := by induction l <;> simp_all [encLVals]
theorem encLVal_eq (v : Val) : encLVal v = [.int .i64 v.kind, .int .i64 v.num, .str v.text, .sl false (v.list.map encLVal), .sl false (v.names.map encS)] := by
  cases v; simp [encLVal, encLVals_eq, Val.kind, Val.num, Val.text, Val.list, Val.names]
theorem encLVal_len (v : Val) : (encLVal v).length = 5 := by rw [encLVal_eq]; rfl
theorem encLVal_ok (v : Val) : cellsOk (encLVal v) = true := by rw [encLVal_eq]; rfl
theorem encLVal_frz (v : Val) : FrzL (encLVal v) (encLVal v) := by rw [encLVal_eq]; exact .cons (.refl _ rfl) (.cons (.refl _ rfl) (.cons (.refl _ rfl) (.cons (.refl _ rfl) (.cons (.refl _ rfl) (.nil)))))
mutual
def encVal : Val → List AV
  | .mk kind num text list names => [.int .i64 kind, .int .i64 num, .str text, .sl true (encVals list), .sl false (names.map encS)]
def encVals : List Val → List (List AV)
  | [] => []
  | v :: l => encVal v :: encVals l
end
theorem encVals_eq (l : List Val) : encVals l = l.map encVal := by induction l <;> simp_all [encVals]
theorem encVal_eq (v : Val) : encVal v = [.int .i64 v.kind, .int .i64 v.num, .str v.text, .sl true (v.list.map encVal), .sl false (v.names.map encS)] := by
  cases v; simp [encVal, encVals_eq, Val.kind, Val.num, Val.text, Val.list, Val.names]
theorem encVal_len (v : Val) : (encVal v).length = 5 := by rw [encVal_eq]; rfl
theorem encVal_ok (v : Val) : cellsOk (encVal v) = true := by rw [encVal_eq]; rfl
theorem encVal_frz (v : Val) : FrzL (encVal v) (encVal v) := by rw [encVal_eq]; exact .cons (.refl _ rfl) (.cons (.refl _ rfl) (.cons (.refl _ rfl) (.cons (.refl _ rfl) (.cons (.refl _ rfl) (.nil)))))
@[ext] structure GPair where
  one : Val
  other : Val
  deriving Inhabited
def encGPair (v : GPair) : List AV := [.int .i64 v.one.kind, .int .i64 v.one.num, .str v.one.text, .sl true (v.one.list.map encVal), .sl false (v.one.names.map encS), .int .i64 v.other.kind, .int .i64 v.other.num, .str v.other.text, .sl true (v.other.list.map encVal), .sl false (v.other.names.map encS)]
theorem encGPair_eq (v : GPair) : encGPair v = [.int .i64 v.one.kind, .int .i64 v.one.num, .str v.one.text, .sl true (v.one.list.map encVal), .sl false (v.one.names.map encS), .int .i64 v.other.kind, .int .i64 v.other.num, .str v.other.text, .sl true (v.other.list.map encVal), .sl false (v.other.names.map encS)] := rfl
theorem encGPair_len (v : GPair) : (encGPair v).length = 10 := by rw [encGPair_eq]; rfl
theorem encGPair_ok (v : GPair) : cellsOk (encGPair v) = true := by rw [encGPair_eq]; rfl
theorem encGPair_frz (v : GPair) : FrzL (encGPair v) (encGPair v) := by rw [encGPair_eq]; exact .cons (.refl _ rfl) (.cons (.refl _ rfl) (.cons (.refl _ rfl) (.cons (.refl _ rfl) (.cons (.refl _ rfl) (.cons (.refl _ rfl) (.cons (.refl _ rfl) (.cons (.refl _ rfl) (.cons (.refl _ rfl) (.cons (.refl _ rfl) (.nil))))))))))
@[ext] structure GJsonReader where
  text : Bs
  at_ : Int
  deriving Inhabited
def encGJsonReader (v : GJsonReader) : List AV := [.str v.text, .int .i64 v.at_]
theorem encGJsonReader_eq (v : GJsonReader) : encGJsonReader v = [.str v.text, .int .i64 v.at_] := rfl
theorem encGJsonReader_len (v : GJsonReader) : (encGJsonReader v).length = 2 := by rw [encGJsonReader_eq]; rfl
theorem encGJsonReader_ok (v : GJsonReader) : cellsOk (encGJsonReader v) = true := by rw [encGJsonReader_eq]; rfl
theorem encGJsonReader_frz (v : GJsonReader) : FrzL (encGJsonReader v) (encGJsonReader v) := by rw [encGJsonReader_eq]; exact .cons (.refl _ rfl) (.cons (.refl _ rfl) (.nil))
@[ext] structure GL1Rd where
  b : (List Int)
  p : Int
  deriving Inhabited
def encGL1Rd (v : GL1Rd) : List AV := [.sl false (v.b.map (encI .u8)), .int .i64 v.p]
theorem encGL1Rd_eq (v : GL1Rd) : encGL1Rd v = [.sl false (v.b.map (encI .u8)), .int .i64 v.p] := rfl
theorem encGL1Rd_len (v : GL1Rd) : (encGL1Rd v).length = 2 := by rw [encGL1Rd_eq]; rfl
theorem encGL1Rd_ok (v : GL1Rd) : cellsOk (encGL1Rd v) = true := by rw [encGL1Rd_eq]; rfl
theorem encGL1Rd_frz (v : GL1Rd) : FrzL (encGL1Rd v) (encGL1Rd v) := by rw [encGL1Rd_eq]; exact .cons (.refl _ rfl) (.cons (.refl _ rfl) (.nil))
@[ext] structure GTreeItem where
  names : (List Bs)
  list : (List Val)
  deriving Inhabited
def encGTreeItem (v : GTreeItem) : List AV := [.sl false (v.names.map encS), .sl true (v.list.map encVal)]
theorem encGTreeItem_eq (v : GTreeItem) : encGTreeItem v = [.sl false (v.names.map encS), .sl true (v.list.map encVal)] := rfl
theorem encGTreeItem_len (v : GTreeItem) : (encGTreeItem v).length = 2 := by rw [encGTreeItem_eq]; rfl
theorem encGTreeItem_ok (v : GTreeItem) : cellsOk (encGTreeItem v) = true := by rw [encGTreeItem_eq]; rfl
theorem encGTreeItem_frz (v : GTreeItem) : FrzL (encGTreeItem v) (encGTreeItem v) := by rw [encGTreeItem_eq]; exact .cons (.refl _ rfl) (.cons (.refl _ rfl) (.nil))
inductive GI110 where
  | nil
  | c112 (v : Bs)
  | c113 (v : Bs)
  | c134
  | c135 (v : Bool)
  | c136 (v : Int)
  | c137 (v : Bs)
  | c138 (v : (List Val))
  | c140 (v : GTreeItem)
  deriving Inhabited
def encGI110 : GI110 → AV
  | .nil => .raw .nilIface
  | .c112 v => .ifc 112 (.str v)
  | .c113 v => .ifc 113 (.str v)
  | .c134 => .ifc 134 (.agg [])
  | .c135 v => .ifc 135 (.bool v)
  | .c136 v => .ifc 136 (.int .i64 v)
  | .c137 v => .ifc 137 (.str v)
  | .c138 v => .ifc 138 (.sl true (v.map encVal))
  | .c140 v => .ifc 140 (.agg (encGTreeItem v))
def GI110.isNil : GI110 → Bool | .nil => true | _ => false
def GI110.is112 : GI110 → Bool | .c112 _ => true | _ => false
def GI110.as112 : GI110 → Bs | .c112 v => v | _ => []
def GI110.is113 : GI110 → Bool | .c113 _ => true | _ => false
def GI110.as113 : GI110 → Bs | .c113 v => v | _ => []
def GI110.is135 : GI110 → Bool | .c135 _ => true | _ => false
def GI110.is136 : GI110 → Bool | .c136 _ => true | _ => false
def GI110.is137 : GI110 → Bool | .c137 _ => true | _ => false
def GI110.as137 : GI110 → Bs | .c137 v => v | _ => []
def GI110.is138 : GI110 → Bool | .c138 _ => true | _ => false
def GI110.is140 : GI110 → Bool | .c140 _ => true | _ => false
end Go.Proofs.Ytiaigcdckmpepaa
end
section
/-! Plain data, owned. -/
set_option linter.unusedVariables false
namespace Go.Proofs.Ytiaigcdckmpepaa
open Go.Bb
theorem encS_cln (v : Bs) : ∀ av ∈ encS v, Cln av := fun av hav => by
  rcases List.mem_cons.1 hav with rfl | hav
  · exact .scal _ (.str _)
  cases hav
theorem encI_cln {k : IntKind} (v : Int) : ∀ av ∈ encI k v, Cln av := fun av hav => by
  rcases List.mem_cons.1 hav with rfl | hav
  · exact .scal _ (.int _ _)
  cases hav
theorem encBo_cln (v : Bool) : ∀ av ∈ encBo v, Cln av := fun av hav => by
  rcases List.mem_cons.1 hav with rfl | hav
  · exact .scal _ (.bool _)
  cases hav
mutual
def encOVal : Val → List AV
  | .mk kind num text list names => [.int .i64 kind, .int .i64 num, .str text, .osl 30 5 (encOVals list), .osl 9 1 (names.map encS)]
def encOVals : List Val → List (List AV)
  | [] => []
  | v :: l => encOVal v :: encOVals l
end
theorem encOVals_eq (l : List Val) : encOVals l = l.map encOVal := by induction l <;> simp_all [encOVals]
theorem encOVal_eq (v : Val) : encOVal v = [.int .i64 v.kind, .int .i64 v.num, .str v.text, .osl 30 5 (v.list.map encOVal), .osl 9 1 (v.names.map encS)] := by
  cases v; simp [encOVal, encOVals_eq, Val.kind, Val.num, Val.text, Val.list, Val.names]
mutual
theorem encOVal_frz : ∀ v : Val, FrzL (encVal v) (encOVal v)
  | .mk kind num text list names => by
    simp only [encVal, encOVal]
    exact .cons (.refl _ rfl) (.cons (.refl _ rfl) (.cons (.refl _ rfl) (.cons (.osl (encOVals_frz list)) (.cons (.osl (FrzLL.map fun _ _ => encS_frz _)) (.nil)))))
theorem encOVals_frz : ∀ l : List Val, FrzLL (encVals l) (encOVals l)
  | [] => .nil
  | v :: l => .cons (encOVal_frz v) (encOVals_frz l)
end
mutual
theorem encOVal_cln : ∀ (v : Val), ∀ av ∈ encOVal v, Cln av
  | .mk kind num text list names, av, hav => by
    simp only [encOVal] at hav
    rcases List.mem_cons.1 hav with rfl | hav
    · exact .scal _ (.int _ _)
    rcases List.mem_cons.1 hav with rfl | hav
    · exact .scal _ (.int _ _)
    rcases List.mem_cons.1 hav with rfl | hav
    · exact .scal _ (.str _)
    rcases List.mem_cons.1 hav with rfl | hav
    · exact .osl _ _ _ (encOVals_cln list)
    rcases List.mem_cons.1 hav with rfl | hav
    · exact cln_rows fun _ => encS_cln _
    cases hav
theorem encOVals_cln : ∀ (l : List Val), ∀ row ∈ encOVals l, ∀ av ∈ row, Cln av
  | [], row, hr, _, _ => nomatch hr
  | v :: l, row, hr, av, hav => by
    rcases List.mem_cons.1 hr with rfl | hr
    · exact encOVal_cln v av hav
    · exact encOVals_cln l row hr av hav
end
theorem encOVal_len (v : Val) : (encOVal v).length = 5 := by rw [encOVal_eq]; rfl
theorem encOVal_ok (v : Val) : cellsOk (encOVal v) = true := by rw [encOVal_eq]; rfl
def encOGPair (v : GPair) : List AV := [.int .i64 v.one.kind, .int .i64 v.one.num, .str v.one.text, .osl 30 5 (v.one.list.map encOVal), .osl 9 1 (v.one.names.map encS), .int .i64 v.other.kind, .int .i64 v.other.num, .str v.other.text, .osl 30 5 (v.other.list.map encOVal), .osl 9 1 (v.other.names.map encS)]
theorem encOGPair_eq (v : GPair) : encOGPair v = [.int .i64 v.one.kind, .int .i64 v.one.num, .str v.one.text, .osl 30 5 (v.one.list.map encOVal), .osl 9 1 (v.one.names.map encS), .int .i64 v.other.kind, .int .i64 v.other.num, .str v.other.text, .osl 30 5 (v.other.list.map encOVal), .osl 9 1 (v.other.names.map encS)] := rfl
theorem encOGPair_frz (v : GPair) : FrzL (encGPair v) (encOGPair v) := .cons (.refl _ rfl) (.cons (.refl _ rfl) (.cons (.refl _ rfl) (.cons (.osl (FrzLL.map fun _ _ => encOVal_frz _)) (.cons (.osl (FrzLL.map fun _ _ => encS_frz _)) (.cons (.refl _ rfl) (.cons (.refl _ rfl) (.cons (.refl _ rfl) (.cons (.osl (FrzLL.map fun _ _ => encOVal_frz _)) (.cons (.osl (FrzLL.map fun _ _ => encS_frz _)) (.nil))))))))))
theorem encOGPair_cln (v : GPair) : ∀ av ∈ encOGPair v, Cln av := fun av hav => by
  rw [encOGPair_eq] at hav
  rcases List.mem_cons.1 hav with rfl | hav
  · exact .scal _ (.int _ _)
  rcases List.mem_cons.1 hav with rfl | hav
  · exact .scal _ (.int _ _)
  rcases List.mem_cons.1 hav with rfl | hav
  · exact .scal _ (.str _)
  rcases List.mem_cons.1 hav with rfl | hav
  · exact cln_rows fun _ => encOVal_cln _
  rcases List.mem_cons.1 hav with rfl | hav
  · exact cln_rows fun _ => encS_cln _
  rcases List.mem_cons.1 hav with rfl | hav
  · exact .scal _ (.int _ _)
  rcases List.mem_cons.1 hav with rfl | hav
  · exact .scal _ (.int _ _)
  rcases List.mem_cons.1 hav with rfl | hav
  · exact .scal _ (.str _)
  rcases List.mem_cons.1 hav with rfl | hav
  · exact cln_rows fun _ => encOVal_cln _
  rcases List.mem_cons.1 hav with rfl | hav
  · exact cln_rows fun _ => encS_cln _
  cases hav
theorem encOGPair_len (v : GPair) : (encOGPair v).length = 10 := by rw [encOGPair_eq]; rfl
theorem encOGPair_ok (v : GPair) : cellsOk (encOGPair v) = true := by rw [encOGPair_eq]; rfl
def encOGL1Rd (v : GL1Rd) : List AV := [.osl 5 1 (v.b.map (encI .u8)), .int .i64 v.p]
theorem encOGL1Rd_eq (v : GL1Rd) : encOGL1Rd v = [.osl 5 1 (v.b.map (encI .u8)), .int .i64 v.p] := rfl
theorem encOGL1Rd_frz (v : GL1Rd) : FrzL (encGL1Rd v) (encOGL1Rd v) := .cons (.osl (FrzLL.map fun _ _ => encI_frz _)) (.cons (.refl _ rfl) (.nil))
theorem encOGL1Rd_cln (v : GL1Rd) : ∀ av ∈ encOGL1Rd v, Cln av := fun av hav => by
  rw [encOGL1Rd_eq] at hav
  rcases List.mem_cons.1 hav with rfl | hav
  · exact cln_rows fun _ => encI_cln _
  rcases List.mem_cons.1 hav with rfl | hav
  · exact .scal _ (.int _ _)
  cases hav
theorem encOGL1Rd_len (v : GL1Rd) : (encOGL1Rd v).length = 2 := by rw [encOGL1Rd_eq]; rfl
theorem encOGL1Rd_ok (v : GL1Rd) : cellsOk (encOGL1Rd v) = true := by rw [encOGL1Rd_eq]; rfl
def encOGTreeItem (v : GTreeItem) : List AV := [.osl 9 1 (v.names.map encS), .osl 30 5 (v.list.map encOVal)]
theorem encOGTreeItem_eq (v : GTreeItem) : encOGTreeItem v = [.osl 9 1 (v.names.map encS), .osl 30 5 (v.list.map encOVal)] := rfl
theorem encOGTreeItem_frz (v : GTreeItem) : FrzL (encGTreeItem v) (encOGTreeItem v) := .cons (.osl (FrzLL.map fun _ _ => encS_frz _)) (.cons (.osl (FrzLL.map fun _ _ => encOVal_frz _)) (.nil))
theorem encOGTreeItem_cln (v : GTreeItem) : ∀ av ∈ encOGTreeItem v, Cln av := fun av hav => by
  rw [encOGTreeItem_eq] at hav
  rcases List.mem_cons.1 hav with rfl | hav
  · exact cln_rows fun _ => encS_cln _
  rcases List.mem_cons.1 hav with rfl | hav
  · exact cln_rows fun _ => encOVal_cln _
  cases hav
theorem encOGTreeItem_len (v : GTreeItem) : (encOGTreeItem v).length = 2 := by rw [encOGTreeItem_eq]; rfl
theorem encOGTreeItem_ok (v : GTreeItem) : cellsOk (encOGTreeItem v) = true := by rw [encOGTreeItem_eq]; rfl
end Go.Proofs.Ytiaigcdckmpepaa
end
section
/-! Short forms. -/
set_option linter.unusedVariables false
set_option maxRecDepth 100000
namespace Go.Proofs.Ytiaigcdckmpepaa
open Go.Bb
section
variable {c : Cx} {σ σ1 σ2 : St} {K : St → Prop} {all r r2 : List Oper} {o : Oper} {n : Nat} {d : Option Tmp} {ty : TypeId} {pos : String} {af : Array Edge} {g : Option (Nat × Bool)} {Q : Exit → St → Prop} {x y : Code}
/-- n operations of a region, done. -/
structure Stp (c : Cx) (all : List Oper) (n : Nat) (r : List Oper) (σ : St) (r2 : List Oper) (σ2 : St) : Prop where
  run : ∀ K, GOps Try.prog c all r2 σ2 K → GOps Try.prog c all r σ K
structure OpS (c : Cx) (o : Oper) (σ σ1 : St) : Prop where
  run : ∀ K : St → Prop, K σ1 → OpOk Try.prog c o σ K
theorem sp0 : Stp c all 0 r σ r σ := ⟨fun _ h => h⟩
theorem sp_op (hg : o.guard = none) (h : OpS c o σ σ1) (t : Stp c all n r σ1 r2 σ2) : Stp c all (n + 1) (o :: r) σ r2 σ2 := ⟨fun K hk => g_op hg (h.run _ (t.run K hk))⟩
theorem sp_yes {j : Nat} {want b : Bool} (hg : o.guard = some (j, want)) (hs : guardA all σ j = some (.bool b)) (ht : b = want) (h : OpS c o σ σ1) (t : Stp c all n r σ1 r2 σ2) : Stp c all (n + 1) (o :: r) σ r2 σ2 := ⟨fun K hk => g_yes hg hs ht (h.run _ (t.run K hk))⟩
theorem sp_no {j : Nat} {want b : Bool} (hg : o.guard = some (j, want)) (hs : guardA all σ j = some (.bool b)) (ht : b = !want) (hd : dok o.dst σ.nt = true) (t : Stp c all n r (σ.put o.dst .und) r2 σ2) : Stp c all (n + 1) (o :: r) σ r2 σ2 := ⟨fun K hk => g_no hg hs ht hd (t.run K hk)⟩
theorem sp_und {j : Nat} {want : Bool} (hg : o.guard = some (j, want)) (hs : guardA all σ j = some .und) (hd : dok o.dst σ.nt = true) (t : Stp c all n r (σ.put o.dst .und) r2 σ2) : Stp c all (n + 1) (o :: r) σ r2 σ2 := ⟨fun K hk => g_und hg hs hd (t.run K hk)⟩
theorem os_mv {x : Operand} {av : AV} (hx : evA σ x = some av) (hd : dok d σ.nt = true) : OpS c ⟨d, .move x, ty, pos, af, g⟩ σ (σ.put d av) := ⟨fun K hk => (v_move hx hd hk).op⟩
theorem os_as {x : Operand} {av : AV} (hx : evA σ x = some av) (hd : dok d σ.nt = true) : OpS c ⟨d, .assign x, ty, pos, af, g⟩ σ (σ.put d av) := ⟨fun K hk => (v_assign hx hd hk).op⟩
theorem os_pT {x y z : Operand} {t : Bool} {u : AV} (hx : evA σ x = some (.bool t)) (ht : t = true) (hy : evA σ y = some u) (hd : dok d σ.nt = true) : OpS c ⟨d, .pick x y z, ty, pos, af, g⟩ σ (σ.put d u) := ⟨fun K hk => (v_pickT hx ht hy hd hk).op⟩
theorem os_pF {x y z : Operand} {t : Bool} {u : AV} (hx : evA σ x = some (.bool t)) (ht : t = false) (hy : evA σ z = some u) (hd : dok d σ.nt = true) : OpS c ⟨d, .pick x y z, ty, pos, af, g⟩ σ (σ.put d u) := ⟨fun K hk => (v_pickF hx ht hy hd hk).op⟩
theorem os_bin {op : BinOp} {t ty' : TypeId} {x y : Operand} {u v r : AV} (hx : evA σ x = some u) (hy : evA σ y = some v) (hb : binA op u v = some r) (hd : dok d σ.nt = true) : OpS c ⟨d, .binOp op t x y ty', ty, pos, af, g⟩ σ (σ.put d r) := ⟨fun K hk => (v_bin hx hy hb hd hk).op⟩
theorem os_not {t : TypeId} {x : Operand} {b : Bool} (hx : evA σ x = some (.bool b)) (hd : dok d σ.nt = true) : OpS c ⟨d, .unOp .not t x, ty, pos, af, g⟩ σ (σ.put d (.bool !b)) := ⟨fun K hk => (v_not hx hd hk).op⟩
theorem os_ext {x : Operand} {i : Nat} {vs : List AV} {av : AV} (hx : evA σ x = some (.tup vs)) (hi : vs[i]? = some av) (hd : dok d σ.nt = true) : OpS c ⟨d, .extract x i, ty, pos, af, g⟩ σ (σ.put d av) := ⟨fun K hk => (v_extract hx hi hd hk).op⟩
theorem os_fP {t f n m k b off : Nat} {x : Operand} (hx : evA σ x = some (.ptr k b off)) (hf : tab.foff t f = some (n, m)) (hd : dok d σ.nt = true) : OpS c ⟨d, .fieldAddr t x f, ty, pos, af, g⟩ σ (σ.put d (.ptr k b (off + n))) := ⟨fun K hk => (v_fieldP tabOk hx hf hd hk).op⟩
theorem os_fE {t f n m : Nat} {x : Operand} {cs cs' : List AV} (hx : evA σ x = some (.eptr cs)) (hf : tab.foff t f = some (n, m)) (hc : cs.drop n = cs') (hd : dok d σ.nt = true) : OpS c ⟨d, .fieldAddr t x f, ty, pos, af, g⟩ σ (σ.put d (.eptr cs')) := ⟨fun K hk => (v_fieldE tabOk hx hf hc hd hk).op⟩
theorem os_lP {t t' k b off n : Nat} {g' : Bool} {x : Operand} {cs l : List AV} {av : AV} (hx : evA σ x = some (.ptr k b off)) (hh : getk k σ.heap = some (.pointer (some ⟨b, 0, none⟩), .optr t' cs)) (hs : tab.size t = some n) (hg : tab.agg t = some g')
    (hw : win cs off n = some l) (hp : plainC l = true) (hm : mkA g' l = some av) (hd : dok d σ.nt = true) : OpS c ⟨d, .load t x, ty, pos, af, g⟩ σ (σ.put d av) := ⟨fun K hk => (v_loadP tabOk hx hh hs hg hw hp hm hd hk).op⟩
theorem os_lE {t n : Nat} {g' : Bool} {x : Operand} {cs l : List AV} {av : AV} (hx : evA σ x = some (.eptr cs)) (hs : tab.size t = some n) (hg : tab.agg t = some g')
    (hw : win cs 0 n = some l) (hm : mkA g' l = some av) (hd : dok d σ.nt = true) : OpS c ⟨d, .load t x, ty, pos, af, g⟩ σ (σ.put d av) := ⟨fun K hk => (v_loadE tabOk hx hs hg hw hm hd hk).op⟩
theorem os_lS {x : Operand} {at_ : Array TypeId} {t : TypeId} {l : List UInt8} (hx : evA σ x = some (.str l)) (ht : at_[0]? = some t) (hk' : tab.kind t = some .string) (hd : dok d σ.nt = true) : OpS c ⟨d, .call ⟨.builtin .len, #[x], at_⟩, ty, pos, af, g⟩ σ (σ.put d (.int .i64 l.length)) := ⟨fun K hk => (v_lenS tabOk hx ht hk' hd hk).op⟩
theorem os_ix {t : TypeId} {x i : Operand} {k : IntKind} {n : Int} {s : List UInt8} (hx : evA σ x = some (.str s)) (hi : evA σ i = some (.int k n)) (hk' : tab.kind t = some .string) (hb : 0 ≤ n ∧ n < s.length) (hd : dok d σ.nt = true) : OpS c ⟨d, .index t x i, ty, pos, af, g⟩ σ (σ.put d (.int .u8 (byt s n))) := ⟨fun K hk => (v_indexM tabOk hx hi hk' hb hd hk).op⟩
theorem os_build {t : TypeId} {parts : Array (Nat × Operand)} {z cs : List AV} {ps : List (Nat × AV)} (hz : tab.zero t = some z) (hs : structOk tab t = true) (hps : evParts σ parts.toList = some ps) (hf : fillA (tab.foff t) z ps = some cs) (hd : dok d σ.nt = true) : OpS c ⟨d, .build t parts, ty, pos, af, g⟩ σ (σ.put d (.agg cs)) := ⟨fun K hk => (v_build tabOk hz hs hps hf hd hk).op⟩
/-- n plain operations of a region. -/
theorem gs (n : Nat) (hK : GOps Try.prog c all r2 σ2 K) (h : Stp c all n r σ r2 σ2 := by
  repeat (first
    | exact sp0
    | apply sp_op rfl (by first | (apply os_mv; exact rfl; exact rfl) | (apply os_as; exact rfl; exact rfl) | (apply os_bin; exact rfl; exact rfl; exact rfl; exact rfl) | (apply os_ext; exact rfl; exact rfl; exact rfl) | (apply os_not; exact rfl; exact rfl) | (apply os_lP; exact rfl; exact rfl; exact rfl; exact rfl; exact rfl; exact rfl; exact rfl; exact rfl) | (apply os_fP; exact rfl; exact rfl; exact rfl) | (apply os_pT; exact rfl; exact (by first | exact rfl | assumption); exact rfl; exact rfl) | (apply os_pF; exact rfl; exact (by first | exact rfl | assumption); exact rfl; exact rfl) | (apply os_ix; exact rfl; exact rfl; exact rfl; exact (by assumption); exact rfl) | (apply os_lS; exact rfl; exact rfl; exact rfl; exact rfl) | (apply os_lE; exact rfl; exact rfl; exact rfl; exact rfl; exact rfl; exact rfl) | (apply os_fE; exact rfl; exact rfl; exact rfl; exact rfl))
    | apply sp_no rfl rfl (by first | exact rfl | assumption) rfl
    | apply sp_und rfl rfl rfl
    | apply sp_yes rfl rfl (by first | exact rfl | assumption) (by first | (apply os_mv; exact rfl; exact rfl) | (apply os_as; exact rfl; exact rfl) | (apply os_bin; exact rfl; exact rfl; exact rfl; exact rfl) | (apply os_ext; exact rfl; exact rfl; exact rfl) | (apply os_not; exact rfl; exact rfl) | (apply os_lP; exact rfl; exact rfl; exact rfl; exact rfl; exact rfl; exact rfl; exact rfl; exact rfl) | (apply os_fP; exact rfl; exact rfl; exact rfl) | (apply os_pT; exact rfl; exact (by first | exact rfl | assumption); exact rfl; exact rfl) | (apply os_pF; exact rfl; exact (by first | exact rfl | assumption); exact rfl; exact rfl) | (apply os_ix; exact rfl; exact rfl; exact rfl; exact (by assumption); exact rfl) | (apply os_lS; exact rfl; exact rfl; exact rfl; exact rfl) | (apply os_lE; exact rfl; exact rfl; exact rfl; exact rfl; exact rfl; exact rfl) | (apply os_fE; exact rfl; exact rfl; exact rfl; exact rfl)))) : GOps Try.prog c all r σ K := h.run K hK
/-- A region, its first operations plain. -/
theorem rg {id : Nat} (n : Nat) (hK : GOps Try.prog c all r2 σ2 (Q .normal)) (h : Stp c all n all σ r2 σ2 := by
  repeat (first
    | exact sp0
    | apply sp_op rfl (by first | (apply os_mv; exact rfl; exact rfl) | (apply os_as; exact rfl; exact rfl) | (apply os_bin; exact rfl; exact rfl; exact rfl; exact rfl) | (apply os_ext; exact rfl; exact rfl; exact rfl) | (apply os_not; exact rfl; exact rfl) | (apply os_lP; exact rfl; exact rfl; exact rfl; exact rfl; exact rfl; exact rfl; exact rfl; exact rfl) | (apply os_fP; exact rfl; exact rfl; exact rfl) | (apply os_pT; exact rfl; exact (by first | exact rfl | assumption); exact rfl; exact rfl) | (apply os_pF; exact rfl; exact (by first | exact rfl | assumption); exact rfl; exact rfl) | (apply os_ix; exact rfl; exact rfl; exact rfl; exact (by assumption); exact rfl) | (apply os_lS; exact rfl; exact rfl; exact rfl; exact rfl) | (apply os_lE; exact rfl; exact rfl; exact rfl; exact rfl; exact rfl; exact rfl) | (apply os_fE; exact rfl; exact rfl; exact rfl; exact rfl))
    | apply sp_no rfl rfl (by first | exact rfl | assumption) rfl
    | apply sp_und rfl rfl rfl
    | apply sp_yes rfl rfl (by first | exact rfl | assumption) (by first | (apply os_mv; exact rfl; exact rfl) | (apply os_as; exact rfl; exact rfl) | (apply os_bin; exact rfl; exact rfl; exact rfl; exact rfl) | (apply os_ext; exact rfl; exact rfl; exact rfl) | (apply os_not; exact rfl; exact rfl) | (apply os_lP; exact rfl; exact rfl; exact rfl; exact rfl; exact rfl; exact rfl; exact rfl; exact rfl) | (apply os_fP; exact rfl; exact rfl; exact rfl) | (apply os_pT; exact rfl; exact (by first | exact rfl | assumption); exact rfl; exact rfl) | (apply os_pF; exact rfl; exact (by first | exact rfl | assumption); exact rfl; exact rfl) | (apply os_ix; exact rfl; exact rfl; exact rfl; exact (by assumption); exact rfl) | (apply os_lS; exact rfl; exact rfl; exact rfl; exact rfl) | (apply os_lE; exact rfl; exact rfl; exact rfl; exact rfl; exact rfl; exact rfl) | (apply os_fE; exact rfl; exact rfl; exact rfl; exact rfl)))) : Bb.Good Try.prog c (.region id all.toArray false) σ Q := good_region (h.run _ hK)
/-- What is kept of a state. -/
inductive KeepS {α : Type} (s : List (Nat × α)) : List Nat → List (Nat × α) → Prop
  | n : KeepS s [] []
  | c {k : Nat} {ks : List Nat} {v : α} {l : List (Nat × α)} (h : getk k s = some v) (t : KeepS s ks l) : KeepS s (k :: ks) ((k, v) :: l)
theorem keep_slots {s l : List (Nat × AV)} {ks : List Nat} (h : KeepS s ks l) : wslots [] s l := by
  induction h with
  | n => trivial
  | c h _ ih => exact ⟨⟨_, h, .refl _⟩, ih⟩
theorem keep_heap {s l : HP} {ks : List Nat} (h : KeepS s ks l) : wheap [] s (ks.map some) l := by
  induction h with
  | n => trivial
  | c h _ ih => rename_i v _ _; obtain ⟨v, o⟩ := v; exact ⟨⟨_, h, .refl _⟩, ih⟩
theorem keep_le {nt : Nat} {ks hs : List Nat} {s : List (Nat × AV)} {h : HP} (h0 : σ.nt = nt) (h1 : KeepS σ.slots ks s) (h2 : KeepS σ.heap hs h) (h3 : hs.Nodup) : Le σ ⟨nt, s, h⟩ :=
  le_w (hs.map some) h0 (keep_slots h1) (keep_heap h2) (by simpa [List.filterMap_map] using h3)
theorem kp (nt : Nat) (ks hs : List Nat) {s : List (Nat × AV)} {h : HP} (hg : Bb.Good Try.prog c x ⟨nt, s, h⟩ Q) (h0 : σ.nt = nt := by exact rfl) (h1 : KeepS σ.slots ks s := by repeat (first | exact KeepS.n | apply KeepS.c rfl)) (h2 : KeepS σ.heap hs h := by repeat (first | exact KeepS.n | apply KeepS.c rfl)) (h3 : hs.Nodup := by decide) : Bb.Good Try.prog c x σ Q :=
  Bb.Good.le (keep_le h0 h1 h2 h3) hg
/-- A region's end; what goes on keeps so much. -/
theorem gk {K' : St → Prop} (hK : ∀ σ', Bb.Good Try.prog c x σ' Q → K' σ') (nt : Nat) (ks hs : List Nat) {s : List (Nat × AV)} {h : HP} (hg : Bb.Good Try.prog c x ⟨nt, s, h⟩ Q) (h0 : σ.nt = nt := by exact rfl) (h1 : KeepS σ.slots ks s := by repeat (first | exact KeepS.n | apply KeepS.c rfl)) (h2 : KeepS σ.heap hs h := by repeat (first | exact KeepS.n | apply KeepS.c rfl)) (h3 : hs.Nodup := by decide) : GOps Try.prog c all [] σ K' :=
  g_nil (hK _ (kp nt ks hs hg h0 h1 h2 h3))
theorem lw (ms : List (Option Nat)) {nt : Nat} {s : List (Nat × AV)} {h : HP} (h0 : σ.nt = nt := by exact rfl) (hs : wslots [] σ.slots s := by
    repeat' (first | exact trivial | exact .refl _ | exact .nilhd _ | exact .hd _ _ _ | exact .hdnil _ | exact .ptr _ _ _ _ | exact .rptr _ _ _ _ _ _ | exact .adr0 _ | exact .adr _ _ | exact .nilsl | exact .sptnil | exact .nil | refine .agg ?_ | refine .tup ?_ | refine .ifc ?_ | refine .clo ?_ | refine .optr ?_ | refine .cons ?_ ?_ | refine ⟨⟨_, rfl, ?_⟩, ?_⟩)) (hh : wheap [] σ.heap ms h := by
    repeat' (first | exact trivial | exact .refl _ | exact .nilhd _ | exact .hd _ _ _ | exact .hdnil _ | exact .ptr _ _ _ _ | exact .rptr _ _ _ _ _ _ | exact .adr0 _ | exact .adr _ _ | exact .nilsl | exact .sptnil | exact .nil | refine .agg ?_ | refine .tup ?_ | refine .ifc ?_ | refine .clo ?_ | refine .optr ?_ | refine .cons ?_ ?_ | refine ⟨⟨rfl, _, _, rfl⟩, ?_⟩ | refine ⟨⟨_, rfl, ?_⟩, ?_⟩)) (hn : (ms.filterMap id).Nodup := by decide) : Le σ ⟨nt, s, h⟩ := le_w ms h0 hs hh hn
theorem rt (h : Q .ret σ := by
    repeat (first | refine thenQ_ret ?_ | refine blockQ_ret ?_)
    exact endQ_ret (h' := []) [] (by repeat (first | exact .nil | apply Res.tmp rfl | apply Res.cell rfl rfl rfl rfl rfl rfl rfl)) trivial (by decide) ⟨rfl, rfl⟩) : Bb.Good Try.prog c .ret σ Q := good_ret h
end
end Go.Proofs.Ytiaigcdckmpepaa
end
section
/-! Plain values. -/
set_option linter.unusedVariables false
set_option linter.unusedSimpArgs false
namespace Go.Proofs.Ytiaigcdckmpepaa
open Go.Bb

mutual
theorem Val.ind {p : Val → Prop} (h : ∀ v, (∀ x ∈ v.list, p x) → p v) : ∀ v, p v
  | .mk a b c l ns => h _ (Val.indS h l)
theorem Val.indS {p : Val → Prop} (h : ∀ v, (∀ x ∈ v.list, p x) → p v) : ∀ (l : List Val), ∀ x ∈ l, p x
  | [] => fun _ hx => nomatch hx
  | v :: l => fun x hx => (List.mem_cons.1 hx).elim (fun e => e ▸ Val.ind h v) (Val.indS h l x)
end

/-- No text, no list of it is longer. -/
inductive Bd (M : Nat) : Val → Prop
  | mk (v : Val) (h1 : v.text.length ≤ M) (h2 : v.list.length ≤ M) (h3 : v.names.length ≤ M) (h4 : ∀ s ∈ v.names, s.length ≤ M) (h5 : ∀ x ∈ v.list, Bd M x) : Bd M v

theorem Bd.text {M : Nat} {v : Val} (h : Bd M v) : v.text.length ≤ M := by cases h; assumption
theorem Bd.list {M : Nat} {v : Val} (h : Bd M v) : v.list.length ≤ M := by cases h; assumption
theorem Bd.names {M : Nat} {v : Val} (h : Bd M v) : v.names.length ≤ M := by cases h; assumption
theorem Bd.name {M : Nat} {v : Val} (h : Bd M v) : ∀ s ∈ v.names, s.length ≤ M := by cases h; assumption
theorem Bd.within {M : Nat} {v : Val} (h : Bd M v) : ∀ x ∈ v.list, Bd M x := by cases h; assumption

def RelRow (N : Nat → Prop) (w : World) (row : List AV) : Prop := ∀ (j : Nat) av, row[j]? = some av → ∃ u, RelV N w av u

theorem rel_str {N : Nat → Prop} {w : World} {s : Bs} {u : Value} (h : RelV N w (.str s) u) : s.length ≤ maxLen := by
  cases h; assumption
theorem rel_sl {N : Nat → Prop} {w : World} {z : Bool} {rows : List (List AV)} {u : Value} (h : RelV N w (.sl z rows) u) : rows.length ≤ maxLen ∧ ∀ r ∈ rows, RelRow N w r := by
  cases h with
  | slNil => exact ⟨by simp, fun r hr => by cases hr⟩
  | sl z rows a cap sz u hs hc hm h1 h2 h3 h4 =>
    refine ⟨by omega, fun r hr j av hj => ?_⟩
    obtain ⟨i, hi⟩ := List.getElem?_of_mem hr
    exact ⟨_, h3 i r j av hi hj⟩
theorem rel_agg {N : Nat → Prop} {w : World} {cs : List AV} {u : Value} (h : RelV N w (.agg cs) u) : RelRow N w cs := by
  cases h with
  | agg _ vs hl h =>
    intro j av hj
    have hlt : j < vs.size := by
      rw [hl]
      rcases Nat.lt_or_ge j cs.length with h' | h'
      · exact h'
      · rw [List.getElem?_eq_none h'] at hj; cases hj
    exact ⟨vs[j], h j av _ hj (by simp [hlt])⟩
theorem rel_strs {N : Nat → Prop} {w : World} {l : List Bs} (h : ∀ r ∈ l.map encS, RelRow N w r) : ∀ s ∈ l, s.length ≤ maxLen := by
  intro s hs
  obtain ⟨u, hu⟩ := h _ (List.mem_map_of_mem hs) 0 (.str s) rfl
  exact rel_str hu
theorem rel_val {N : Nat → Prop} {w : World} : ∀ v : Val, RelRow N w (encLVal v) → Bd maxLen v := by
  apply Val.ind
  intro v ih h
  rw [encLVal_eq] at h
  obtain ⟨u1, h1⟩ := h 2 _ rfl
  obtain ⟨u2, h2⟩ := h 3 _ rfl
  obtain ⟨u3, h3⟩ := h 4 _ rfl
  obtain ⟨h4, h5⟩ := rel_sl h2
  obtain ⟨h6, h7⟩ := rel_sl h3
  exact .mk v (rel_str h1) (by simpa using h4) (by simpa using h6) (rel_strs h7) fun x hx => ih x hx (h5 _ (List.mem_map_of_mem hx))
end Go.Proofs.Ytiaigcdckmpepaa
end
section
/-! Spans. -/
set_option linter.unusedVariables false
set_option linter.unusedSimpArgs false
set_option maxRecDepth 100000
namespace Go.Proofs.Ytiaigcdckmpepaa
open Go.Bb

theorem det_int {N : Nat → Prop} {w : World} {k : IntKind} {a b : Int} {y : Value} (h : RelV N w (.int k a) y) (h' : RelV N w (.int k b) y) : a = b := by
  cases h; cases h'; rfl
theorem det_str {N : Nat → Prop} {w : World} {a b : Bs} {y : Value} (h : RelV N w (.str a) y) (h' : RelV N w (.str b) y) : a = b := by
  cases h
  generalize hz : (Value.string ⟨a.toArray⟩) = yy at h'
  cases h'
  injection hz with hz1
  injection hz1 with hz2
  simpa using hz2
/-- Whatever lies there lies there once: the same machine's value stands for one value alone. -/
theorem det_strs {N : Nat → Prop} {w : World} {z z' : Bool} {l l' : List Bs} {u : Value} (h : RelV N w (.sl z (l.map encS)) u) (h' : RelV N w (.sl z' (l'.map encS)) u) : l = l' := by
  generalize hr : l.map encS = rs at h
  generalize hr' : l'.map encS = rs' at h'
  have e1 : rs.length = l.length := by rw [← hr]; simp
  have e2 : rs'.length = l'.length := by rw [← hr']; simp
  cases h with
  | slNil =>
    cases h' with
    | slNil =>
      have h1 : l.length = 0 := by simpa using e1.symm
      have h2 : l'.length = 0 := by simpa using e2.symm
      rw [List.eq_nil_of_length_eq_zero h1, List.eq_nil_of_length_eq_zero h2]
  | sl _ _ a cap sz f hs hc hm g1 g2 g3 g4 =>
    generalize hq : (Value.slice (some a) rs.length cap) = q at h'
    cases h' with
    | slNil => cases hq
    | sl _ _ a' cap' sz' f' hs' hc' hm' k1 k2 k3 k4 =>
      injection hq with q1 q2 q3
      obtain rfl := Option.some.inj q1
      have hll : l.length = l'.length := by omega
      apply List.ext_getElem hll
      intro i hi hi'
      have r1 : rs[i]? = some (encS l[i]) := by rw [← hr]; simp [hi]
      have r2 : rs'[i]? = some (encS l'[i]) := by rw [← hr']; simp [hi']
      have s1 := g1 i _ r1
      have s2 := k1 i _ r2
      have hsz : sz = sz' := by rw [← s1, ← s2]; rfl
      subst hsz
      have c1 := (g2 i _ 0 (.str l[i]) r1 rfl).2
      have c2 := (k2 i _ 0 (.str l'[i]) r2 rfl).2
      have d1 := g3 i _ 0 (.str l[i]) r1 rfl
      have d2 := k3 i _ 0 (.str l'[i]) r2 rfl
      rw [c1] at c2
      have e := Option.some.inj c2
      rw [← e] at d2
      exact det_str d1 d2

def DetV (v : Val) : Prop := ∀ (N : Nat → Prop) (w : World) (v' : Val) (us : Nat → Value), (∀ (j : Nat) av, (encVal v)[j]? = some av → RelV N w av (us j)) → (∀ (j : Nat) av, (encVal v')[j]? = some av → RelV N w av (us j)) → v = v'
theorem det_list {l : List Val} (ih : ∀ x ∈ l, DetV x) {N : Nat → Prop} {w : World} {z z' : Bool} {l' : List Val} {u : Value} (h : RelV N w (.sl z (l.map encVal)) u) (h' : RelV N w (.sl z' (l'.map encVal)) u) : l = l' := by
  generalize hr : l.map encVal = rs at h
  generalize hr' : l'.map encVal = rs' at h'
  have e1 : rs.length = l.length := by rw [← hr]; simp
  have e2 : rs'.length = l'.length := by rw [← hr']; simp
  cases h with
  | slNil =>
    cases h' with
    | slNil =>
      have h1 : l.length = 0 := by simpa using e1.symm
      have h2 : l'.length = 0 := by simpa using e2.symm
      rw [List.eq_nil_of_length_eq_zero h1, List.eq_nil_of_length_eq_zero h2]
  | sl _ _ a cap sz f hs hc hm g1 g2 g3 g4 =>
    generalize hq : (Value.slice (some a) rs.length cap) = q at h'
    cases h' with
    | slNil => cases hq
    | sl _ _ a' cap' sz' f' hs' hc' hm' k1 k2 k3 k4 =>
      injection hq with q1 q2 q3
      obtain rfl := Option.some.inj q1
      have hll : l.length = l'.length := by omega
      apply List.ext_getElem hll
      intro i hi hi'
      have r1 : rs[i]? = some (encVal l[i]) := by rw [← hr]; simp [hi]
      have r2 : rs'[i]? = some (encVal l'[i]) := by rw [← hr']; simp [hi']
      have s1 := g1 i _ r1
      have s2 := k1 i _ r2
      have hsz : sz = sz' := by rw [← s1, ← s2, encVal_len, encVal_len]
      subst hsz
      refine ih _ (List.getElem_mem hi) N w l'[i] (fun j => f i j) (fun j av hj => g3 i _ j av r1 hj) (fun j av hj => ?_)
      have hjl : j < (encVal l[i]).length := by
        rw [encVal_len, ← encVal_len l'[i]]
        rcases Nat.lt_or_ge j (encVal l'[i]).length with h | h
        · exact h
        · rw [List.getElem?_eq_none h] at hj; cases hj
      have c1 := (g2 i _ j _ r1 (List.getElem?_eq_getElem hjl)).2
      have c2 := (k2 i _ j av r2 hj).2
      rw [c1] at c2
      have e := Option.some.inj c2
      show RelV N w av (f i j)
      rw [e]; exact k3 i _ j av r2 hj
theorem det_val : ∀ v : Val, DetV v := by
  apply Val.ind
  intro v ih N w v' us h h'
  rw [encVal_eq] at h h'
  have a0 := h 0 _ rfl
  have b0 := h' 0 _ rfl
  have a1 := h 1 _ rfl
  have b1 := h' 1 _ rfl
  have a2 := h 2 _ rfl
  have b2 := h' 2 _ rfl
  have a3 := h 3 _ rfl
  have b3 := h' 3 _ rfl
  have a4 := h 4 _ rfl
  have b4 := h' 4 _ rfl
  have e3 := det_list ih a3 b3
  have e4 := det_strs a4 b4
  have e0 := det_int a0 b0
  have e1 := det_int a1 b1
  have e2 := det_str a2 b2
  obtain ⟨k, n, t, l, ns⟩ := v
  obtain ⟨k', n', t', l', ns'⟩ := v'
  simp only [Val.kind_mk, Val.num_mk, Val.text_mk, Val.list_mk, Val.names_mk] at e0 e1 e2 e3 e4
  subst e0 e1 e2 e3 e4
  rfl

theorem spt_cap {N : Nat → Prop} {w : World} {rows : List (List AV)} {a : Addr} {n cap cap' : Nat} (h : RelV N w (.sl true rows) (.slice (some a) n cap)) (hc : n ≤ cap') (hm : cap' ≤ maxLen) : RelV N w (.sl true rows) (.slice (some a) n cap') := by
  cases h with
  | sl _ _ _ _ sz f hs hc1 hm1 g1 g2 g3 g4 => exact .sl true rows a cap' sz f hs hc hm g1 g2 g3 g4
theorem spt_fz {N : Nat → Prop} {w : World} {rows : List (List AV)} {a : Addr} {n cap : Nat} (h : RelV N w (.sl true rows) (.slice (some a) n cap)) (hne : ∃ row ∈ rows, row ≠ []) : Fz w a.block := by
  cases h with
  | sl _ _ _ _ sz f hs hc1 hm1 g1 g2 g3 g4 =>
    obtain ⟨row, hr, hn⟩ := hne
    obtain ⟨i, hi⟩ := List.getElem?_of_mem hr
    cases row with
    | nil => exact absurd rfl hn
    | cons av row => exact g4 rfl i _ 0 av hi rfl
theorem spt_caps {N : Nat → Prop} {w : World} {rows : List (List AV)} {a : Addr} {n cap : Nat} (h : RelV N w (.sl true rows) (.slice (some a) n cap)) : n ≤ cap ∧ cap ≤ maxLen ∧ n = rows.length := by
  cases h with
  | sl _ _ _ _ sz f hs hc1 hm1 g1 g2 g3 g4 => exact ⟨hc1, hm1, rfl⟩

/-- The machine's equality of two spans of lists that differ. -/
theorem span_ne {N : Nat → Prop} {w w' : World} {l l' : List Val} {p p' : Value} (h : RelV N w (.spt (l.map encVal)) p) (h' : RelV N w (.spt (l'.map encVal)) p') (hne : l ≠ l') (hw : ∀ k, k < w.heap.size → w'.heap[k]? = w.heap[k]?) :
    (Op.equalIn 10000 62 (.agg #[p, .int .i64 l.length]) (.agg #[p', .int .i64 l'.length])).run Try.prog w' = .ok false w' := by
  have key : ∀ b : Bool, (Op.equalIn 9999 60 p p').run Try.prog w' = .ok b w' → (b = true → l.length ≠ l'.length) → (Op.equalIn 10000 62 (.agg #[p, .int .i64 l.length]) (.agg #[p', .int .i64 l'.length])).run Try.prog w' = .ok false w' := by
    intro b hb hbl
    rw [run_equalIn_struct (P := Try.prog) w' 9999 62 _ _ (by kernel_rfl) (by kernel_rfl)]
    have hf : (Try.prog.fieldsOf 62).toList = [(Try.prog.fieldsOf 62)[0]!, (Try.prog.fieldsOf 62)[1]!] := by kernel_rfl
    have n0 : (((Try.prog.fieldsOf 62)[0]!).name == "_") = false := by kernel_rfl
    have t0 : ((Try.prog.fieldsOf 62)[0]!).type = 60 := by kernel_rfl
    have o0 : ((Try.prog.fieldsOf 62)[0]!).offset = 0 := by kernel_rfl
    have n1 : (((Try.prog.fieldsOf 62)[1]!).name == "_") = false := by kernel_rfl
    have t1 : ((Try.prog.fieldsOf 62)[1]!).type = 3 := by kernel_rfl
    have o1 : ((Try.prog.fieldsOf 62)[1]!).offset = 1 := by kernel_rfl
    rw [hf]
    generalize (Try.prog.fieldsOf 62)[0]! = f0 at n0 t0 o0
    generalize (Try.prog.fieldsOf 62)[1]! = f1 at n1 t1 o1
    have n0' : f0.name ≠ "_" := by simpa using n0
    have n1' : f1.name ≠ "_" := by simpa using n1
    have p0 : ∀ (q r : Value), (part 60 #[q, r] 0).run Try.prog w' = .ok q w' := fun q r => by
      simp [part, run_agg tabOk (T := tab) (t := 60) (b := false) rfl]
    have p1 : ∀ (q r : Value), (part 3 #[q, r] 1).run Try.prog w' = .ok r w' := fun q r => by
      simp [part, run_agg tabOk (T := tab) (t := 3) (b := false) rfl]
    simp only [Op.eqFields, t0, t1, o0, o1]
    rw [if_pos n0', if_pos n1']
    simp only [Sem.run_bind, p0, p1, Result.andThen_ok, hb]
    cases b with
    | false => simp
    | true =>
      have hi : (Op.equalIn 9999 3 (.int .i64 (l.length : Int)) (.int .i64 (l'.length : Int))).run Try.prog w' = .ok ((l.length : Int) == (l'.length : Int)) w' := run_equalIn_int w' 9998 3 .i64 .i64 _ _ Try.underlying3
      have : ((l.length : Int) == (l'.length : Int)) = false := by
        have := hbl rfl
        simp; omega
      rw [this] at hi
      simp [hi, p1]
  generalize hr : l.map encVal = rs at h
  generalize hr' : l'.map encVal = rs' at h'
  have e1 : rs.length = l.length := by rw [← hr]; simp
  have e2 : rs'.length = l'.length := by rw [← hr']; simp
  have pt := Try.underlying60
  cases h with
  | spt0 =>
    cases h' with
    | spt0 =>
      have h1 : l.length = 0 := by simpa using e1.symm
      have h2 : l'.length = 0 := by simpa using e2.symm
      exact absurd ((List.eq_nil_of_length_eq_zero h1).trans (List.eq_nil_of_length_eq_zero h2).symm) hne
    | spt rows a cap hn hh =>
      refine key false ?_ (fun h => by cases h)
      show (Op.equalIn (9998 + 1) _ _ _).run Try.prog w' = _
      unfold Op.equalIn
      rw [Sem.run_bind, run_underlying pt]
      rfl
  | spt rows a cap hn hh =>
    cases h' with
    | spt0 =>
      refine key false ?_ (fun h => by cases h)
      show (Op.equalIn (9998 + 1) _ _ _).run Try.prog w' = _
      unfold Op.equalIn
      rw [Sem.run_bind, run_underlying pt]
      rfl
    | spt rows' a' cap' hn' hh' =>
      have hsz := fun w => run_size tabOk (T := tab) (t := 30) (n := 5) rfl w
      by_cases ha : a = a'
      · subst ha
        refine key true ?_ (fun _ hll => hne ?_)
        · show (Op.equalIn (9998 + 1) _ _ _).run Try.prog w' = _
          unfold Op.equalIn
          rw [Sem.run_bind, run_underlying pt]
          simp [hsz, run_sameAddr_same]
        · obtain ⟨c1, c2, c3⟩ := spt_caps hh'
          have hlen : rs.length = rs'.length := by omega
          have hh2 : RelV N w (.sl true rs) (.slice (some a) rs.length cap') := spt_cap hh (by omega) c2
          rw [hlen] at hh2
          rw [← hr] at hh2
          rw [← hr'] at hh'
          rw [← hr'] at hh2
          exact det_list (fun x _ => det_val x) hh2 hh'
      · refine key false ?_ (fun h => by cases h)
        have fz : ∀ (rows : List (List AV)) (m : List Val), m.map encVal = rows → rows ≠ [] → ∃ row ∈ rows, row ≠ [] := by
          intro rows m hm hne'
          subst hm
          cases m with
          | nil => exact absurd rfl hne'
          | cons v m => exact ⟨encVal v, by simp, fun e => by have := encVal_len v; rw [e] at this; cases this⟩
        obtain ⟨arr, t, f1⟩ := spt_fz hh (fz _ _ hr hn)
        obtain ⟨arr', t', f2⟩ := spt_fz hh' (fz _ _ hr' hn')
        show (Op.equalIn (9998 + 1) _ _ _).run Try.prog w' = _
        unfold Op.equalIn
        rw [Sem.run_bind, run_underlying pt]
        simp [hsz, run_sameAddr_other w' ha (by rw [hw _ (Array.getElem?_eq_some_iff.1 f1).1]; exact f1) (by rw [hw _ (Array.getElem?_eq_some_iff.1 f2).1]; exact f2)]
end Go.Proofs.Ytiaigcdckmpepaa
end
section
/-! Chains of spans. -/
set_option linter.unusedVariables false
set_option linter.unusedSimpArgs false
set_option maxRecDepth 100000
namespace Go.Bb
section
variable {P : Program} {T : Tab} {c : Cx} {F : Nat → Nat → Prop} {o : Oper} {σ : St} {K : St → Prop} {N : Nat → Prop} {a : Act} {w : World} {all r : List Oper}
variable {d : Option Tmp} {ty : TypeId} {pos : String} {af : Array Edge} {g : Option (Nat × Bool)}
/-- A value may be taken for less. -/
theorem ValOk.weak {av av' : AV} (h : ValOk P c o σ fun σ' => σ' = σ.put o.dst av) (hw : Wk [] av' av) (hinj : ∀ x, σ.put o.dst x = σ.put o.dst av → x = av) (hK : K (σ.put o.dst av')) : ValOk P c o σ K := by
  intro F N a w hr
  obtain ⟨x, v, h1, h2, h3, h4⟩ := h F N a w hr
  have := hinj x h2
  subst this
  exact ⟨av', v, h1, hK, hw.rel (fun _ _ h => by cases h) h3, h4⟩
theorem put_inj {t : Tmp} {x y : AV} (h : σ.put (some t) x = σ.put (some t) y) : x = y := by
  have := congrArg (fun s => getk t s.slots) h
  simpa [St.put, getk] using this
theorem v_buildW (hT : TabOk P T) {d : Tmp} {t : TypeId} {parts : Array (Nat × Operand)} {z cs : List AV} {ps : List (Nat × AV)} {av' : AV} (hz : T.zero t = some z) (hs : structOk T t = true) (hps : evParts σ parts.toList = some ps) (hf : fillA (T.foff t) z ps = some cs)
    (hw : Wk [] av' (.agg cs)) (hd : dok (some d) σ.nt = true) (hK : K (σ.put (some d) av')) : ValOk P c ⟨some d, .build t parts, ty, pos, af, g⟩ σ K :=
  ValOk.weak (o := ⟨some d, .build t parts, ty, pos, af, g⟩) (v_build hT hz hs hps hf hd rfl) hw (fun x h => put_inj h) hK
/-- The address of a list's first element. -/
theorem v_idx0 (hT : TabOk P T) {t e sz : Nat} {x i : Operand} {k : IntKind} {rows : List (List AV)} (hx : evA σ x = some (.sl true rows)) (hi : evA σ i = some (.int k 0)) (he : T.elem t = some e) (hs : T.size e = some sz)
    (hne : rows ≠ []) (hd : dok d σ.nt = true) (hK : K (σ.put d (.spt rows))) : ValOk P c ⟨d, .indexAddr t x i, ty, pos, af, g⟩ σ K :=
  mkV hd hK fun F N a w hr => by
    have hp := evA_rel hr hx
    have hq := evA_rel hr hi
    generalize hv : a.eval x = vx at hp
    generalize hv' : a.eval i = vi at hq
    cases hq
    have hlt : 0 < rows.length := List.length_pos_iff.2 hne
    have hp' := hp
    cases hp with
    | slNil => simp at hlt
    | sl _ rows ad cap sz' u hsp hc hm h5 h6 h7 h8z =>
      have hz := fun w => run_size hT hs w
      refine ⟨.pointer (some ad), .spt _ _ cap hne hp', fun w' _ => ?_⟩
      simp only [execOp, hv, hv', Instr.indexAt]
      have hadd : ad.add 0 = ad := by
        rw [add_none _ _ (hsp hlt)]
        have := hsp hlt
        obtain ⟨b1, o1, s1⟩ := ad
        simp only at this
        subst this; rfl
      simp [Sem.run_bind, asIntOf, run_underlying (hT.elem he), hz, hlt, hadd]
end
end Go.Bb
namespace Go.Proofs.Ytiaigcdckmpepaa
open Go.Bb
section
variable {c : Cx} {σ : St} {K : St → Prop} {d : Option Tmp} {ty : TypeId} {pos : String} {af : Array Edge} {g : Option (Nat × Bool)}
def encChain : List (List Val) → AV
  | [] => .raw (.pointer none)
  | l :: r => .eptr [.spt (l.map encVal), .int .i64 (l.length : Int), .one, encChain r]
theorem fill_made (r : List (List AV)) (kk : IntKind) (n : Int) (k : Nat) (v : Value) (ch : List (List Val)) : fillA (tab.foff 123) [AV.raw (Value.pointer none), AV.int IntKind.i64 0, AV.nil, AV.raw (Value.pointer none)] [(0, AV.agg (List.take 2 (List.drop 0 [.spt r, .int kk n]))), (1, AV.hd k v), (2, encChain ch)] = some [.spt r, .int kk n, AV.hd k v, encChain ch] := by
  cases ch <;> rfl
theorem cells_made (r : List (List AV)) (k : IntKind) (n : Int) (ch : List (List Val)) : cellsOk [.spt r, .int k n, .one, encChain ch] = true := by
  cases ch <;> rfl
theorem frz_chain (ch : List (List Val)) : Frz (encChain ch) (encChain ch) := by
  cases ch <;> exact .refl _ rfl
noncomputable instance : DecidableEq Val := fun _ _ => Classical.propDecidable _
theorem v_chainNe {x y : Operand} {t ty' : TypeId} {e : Nat} {ch : List (List Val)} (hx : evA σ x = some (encChain ch)) (hy : evA σ y = some (.raw (.pointer none))) (hk : tab.kind t = some (.ptr e)) (hd : dok d σ.nt = true) (hK : K (σ.put d (.bool (!(decide (ch = [])))))) : ValOk Try.prog c ⟨d, .binOp .neq t x y ty', ty, pos, af, g⟩ σ K := by
  cases ch with
  | nil => exact v_binT tabOk hx hy (by simp [binT, encChain, hk, eqr]) hd hK
  | cons l r => exact v_binT tabOk hx hy (by simp [binT, encChain, hk, eqr]) hd hK
theorem v_chainNil {x : Operand} {ch : List (List Val)} (hx : evA σ x = some (encChain ch)) (hne : ch ≠ []) (hd : dok d σ.nt = true) (hK : K (σ.put d (.eptr [.spt ((ch.headD []).map encVal), .int .i64 ((ch.headD []).length : Int), .one, encChain ch.tail]))) : ValOk Try.prog c ⟨d, .nilCheck x, ty, pos, af, g⟩ σ K := by
  cases ch with
  | nil => exact absurd rfl hne
  | cons l r => exact v_nilE hx hd hK
theorem v_spanNe {x y : Operand} {ty' : TypeId} {l l' : List Val} (hx : evA σ x = some (.agg [.spt (l.map encVal), .int .i64 (l.length : Int)])) (hy : evA σ y = some (.agg [.spt (l'.map encVal), .int .i64 (l'.length : Int)])) (hne : l ≠ l') (hd : dok d σ.nt = true) (hK : K (σ.put d (.bool false))) : ValOk Try.prog c ⟨d, .binOp .eql 62 x y ty', ty, pos, af, g⟩ σ K :=
  mkV hd hK fun F N a w hr => by
    have hp := evA_rel hr hx
    have hq := evA_rel hr hy
    generalize hv : a.eval x = vx at hp
    generalize hu : a.eval y = vy at hq
    have two : ∀ {l : List Val} {v : Value}, RelV N w (.agg [.spt (l.map encVal), .int .i64 (l.length : Int)]) v → ∃ p, v = .agg #[p, .int .i64 (l.length : Int)] ∧ RelV N w (.spt (l.map encVal)) p := by
      intro l v h
      cases h with
      | agg _ vs hl h =>
        have hl : vs.size = 2 := hl
        have h0 := h 0 _ vs[0] rfl (by simp [hl])
        have h1 := h 1 _ vs[1] rfl (by simp [hl])
        refine ⟨vs[0], ?_, h0⟩
        have e1 : vs[1] = .int .i64 (l.length : Int) := by
          generalize vs[1] = q at h1
          cases h1; rfl
        congr 1
        apply Array.ext
        · simpa using hl
        · intro i hi hi'
          have : i = 0 ∨ i = 1 := by simp at hi'; omega
          rcases this with rfl | rfl
          · rfl
          · exact e1
    obtain ⟨p, rfl, hp1⟩ := two hp
    obtain ⟨p', rfl, hq1⟩ := two hq
    refine ⟨_, .bool _, fun w' hw => ?_⟩
    have hs := span_ne hp1 hq1 hne (w' := w') hw.2
    simp only [execOp, hv, hu]
    rw [Sem.run_bind, Sem.run_bind, run_eqGuard_agg (P := Try.prog) w' .eql 62 x y _ _ (by kernel_rfl)]
    simp only [Result.andThen_ok]
    rw [run_eql_struct, hs]
    rfl
end
end Go.Proofs.Ytiaigcdckmpepaa
end
