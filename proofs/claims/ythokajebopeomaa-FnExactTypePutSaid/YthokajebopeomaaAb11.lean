/- A region that draws its order, values first and calls behind; the conditions stand in each theorem. -/
import Derived.Test.YthokajebopeomaaAb9
import Derived.StillTail
import Derived.OrdersHeld
/-! Regions that draw their order: values first, then calls one behind the other, which may leave new memory. -/
set_option linter.unusedVariables false
namespace Go.Ab

def CallT (P : Program) (o : Oper) (σ : St) (K : St → Prop) (g : FuncId) (avs : List AV) : Prop :=
  ∃ r0, Does P g avs [] (ret r0) ∧ dok o.dst σ.nt = true ∧ K (σ.put o.dst r0)

def aopt (P : Program) (T : Tab) (o : Oper) (σ : St) (K : St → Prop) : Prop :=
  if valOp o.op = true then aop P T o σ K else
  match o.op with
  | .call cl => match cl.callee with
    | .value x => match evA σ x, evAs σ cl.args.toList with
      | some (.clo (.func g) caps), some avs => CallT P o σ K g ((avs ++ caps).map nilA)
      | _, _ => False
    | _ => False
  | _ => False

def aopst (P : Program) (T : Tab) : List Oper → St → (St → Prop) → Prop
  | [], σ, K => K σ
  | o :: r, σ, K => o.guard = none ∧ aopt P T o σ fun σ' => aopst P T r σ' K

def RestT (P : Program) (T : Tab) (r : List Oper) (K : St → Prop) : St → Prop := fun σ => aopst P T r σ K

section
variable {P : Program} {c : Cx} {T : Tab} {N : Nat → Prop} {σ : St} {a : Act} {w : World} {K : St → Prop} {o : Oper}

theorem restT_mk {r : List Oper} {n : Nat} {s : List (Nat × AV)} {h : List (Nat × HO)} : RestT P T r K ⟨n, s, h⟩ = aopst P T r ⟨n, s, h⟩ K := rfl
theorem aopst_nil : aopst P T [] σ K = K σ := rfl
theorem aopst_go {r : List Oper} {d : Option Tmp} {op : Op} {ty : TypeId} {pos : String} {after : Array Edge} : aopst P T (⟨d, op, ty, pos, after, none⟩ :: r) σ K = aopt P T ⟨d, op, ty, pos, after, none⟩ σ (RestT P T r K) := by
  simp only [aopst, true_and]; rfl
theorem callT {g : FuncId} {avs : List AV} {r0 : AV} (hS : Does P g avs [] (ret r0)) (hd : dok o.dst σ.nt = true) (hK : K (σ.put o.dst r0)) : CallT P o σ K g avs := ⟨r0, hS, hd, hK⟩

theorem aopt_ok (hT : TabOk P T) (h : aopt P T o σ K) (hr : Rel c N σ a w) {Kt : Act → World → Prop} {Q : Exit → Act → World → Prop} (hK : ∀ σ' N' a' w', K σ' → Rel c N' σ' a' w' → Same w w' → Kt a' w') : o.wp P a w Kt Q := by
  unfold aopt at h
  split at h
  · rename_i hq
    obtain ⟨av, v, h1, h2, h3, h4⟩ := aop_val hT hq h hr
    unfold Oper.wp
    rw [h4 w (Same.refl w)]
    exact hK _ N _ _ h2 (hr.put (dok_ok h1) h3) (Same.refl w)
  · split at h
    · rename_i cl ho
      split at h
      · rename_i x hcl
        split at h <;> try exact h.elim
        rename_i g caps avs hx ha
        obtain ⟨r0, hS, h1, h2⟩ := h
        refine call_ok ho hcl hx ha hr hS N (fun vs h => nilAs_rel h) (fun b o hb => by cases hb) ?_
        rintro v r h' N' w' ⟨rfl, rfl⟩ hv hh hN hU
        have hU' : Unch (fun _ => False) w w' := ⟨hU.os, hU.tape, hU.output, hU.size, fun k hk hM => hU.block k hk (by simp [keys])⟩
        have hr' : Rel c N' σ a w' := ⟨hr.defers, hr.size, fun k av hk => let ⟨v, h1, h2⟩ := hr.slots k av hk; ⟨v, h1, h2.mono ⟨hU.size, fun i hi _ => hU'.block i hi (fun h => h)⟩ (fun i hi h => (hN i hi).2 h)⟩,
          fun b o hb => let ⟨h1, h2, h3⟩ := hr.heap b o hb; ⟨(hN b h3.lt).1 h1, h2, h3.mono ⟨hU.size, fun i hi _ => hU'.block i hi (fun h => h)⟩ (fun i hi h => (hN i hi).2 h) (hU'.block b h3.lt (fun h => h))⟩,
          fun k hk h0 => (hN k (Nat.lt_of_lt_of_le hk hr.unch.size)).1 (hr.n0 k hk h0), hr.unch.trans hU' (fun _ _ h => h.elim)⟩
        exact hK _ _ _ _ h2 (hr'.put (dok_ok h1) hv) ⟨hU.size, fun k hk => hU'.block k hk (fun h => h)⟩
      · exact h.elim
    · exact h.elim
theorem Same.trans {w w' w'' : World} (h : Same w w') (h' : Same w' w'') : Same w w'' := ⟨Nat.le_trans h.1 h'.1, fun k hk => by rw [h'.2 k (Nat.lt_of_lt_of_le hk h.1), h.2 k hk]⟩

theorem held_seq (hT : TabOk P T) {ops : Array Oper} {Q : Exit → Act → World → Prop} {w0 : World} : ∀ (l : List Oper) (k : Nat) (listed : Array Bool) (σ : St) (N : Nat → Prop) (a : Act) (w : World), (∀ j, l[j]? = ops[k + j]?) →
    Region.seqB .any ops l.length k listed = true → aopst P T l σ K → Rel c N σ a w → Same w0 w → (∀ σ' N' a' w', K σ' → Rel c N' σ' a' w' → Q .normal a' w') → wpAnyH P .any ops Q (Same w0) l.length listed a w
  | [], k, listed, σ, N, a, w, _, hB, h, hr, _, hK => ⟨by simpa [Region.seqB] using hB, hK σ N a w h hr⟩
  | o :: l, k, listed, σ, N, a, w, hl, hB, h, hr, hs, hK => by
    have h0 : ops[k]? = some o := by simpa using (hl 0).symm
    have hl' : ∀ j, l[j]? = ops[k + 1 + j]? := fun j => by have := hl (j + 1); simpa [Nat.add_assoc, Nat.add_comm 1 j] using this
    simp only [List.length_cons, Region.seqB, Bool.and_eq_true, decide_eq_true_eq] at hB
    obtain ⟨hg, h⟩ := h
    refine ⟨fun h1 => (by rw [hB.1] at h1; cases h1), fun i hi => ?_⟩
    rw [hB.1] at hi
    have hi : i = k := by simpa using hi
    subst hi
    unfold wpOp
    simp only [h0]
    rw [if_pos (wanted_none hg _)]
    refine .inl (aopt_ok hT h hr fun σ' N' a' w' h1 h2 h3 => ?_)
    exact ⟨hs.trans h3, held_seq hT l (i + 1) _ σ' N' a' w' hl' hB.2 h1 h2 (hs.trans h3) hK⟩

theorem held_lex (hT : TabOk P T) {ops : Array Oper} {Q : Exit → Act → World → Prop} (hsel : Region.noSelect ops = true) {g : Nat} {tail : List Oper} (hg : tail.length = g) :
    ∀ (l : List Oper) (k : Nat) (listed : Array Bool) (σ : St) (a : Act), l.all (fun o => valOp o.op) = true → (∀ j, (l ++ tail)[j]? = ops[k + j]?) → Region.lexHead .any ops g l.length k listed = true →
    aopsd P T ops.toList l σ (fun σ' => aopst P T tail σ' K) → Rel c N σ a w → (hQ : ∀ d v e a w, Q (.panic e) (Act.put a d v) w → Q (.panic e) a w) → (∀ σ' N' a' w', K σ' → Rel c N' σ' a' w' → Q .normal a' w') → wpAnyH P .any ops Q (Same w) (l.length + g) listed a w
  | [], k, listed, σ, a, _, hl, hB, h, hr, _, hK => by
    subst hg
    simp only [List.length_nil, Nat.zero_add]
    exact held_seq hT tail k listed σ N a w (by simpa using hl) (by simpa [Region.lexHead] using hB) h hr (Same.refl w) hK
  | o :: l, k, listed, σ, a, hv, hl, hB, h, hr, hQ, hK => by
    have h0 : ops[k]? = some o := by simpa using (hl 0).symm
    have hl' : ∀ j, (l ++ tail)[j]? = ops[k + 1 + j]? := fun j => by have := hl (j + 1); simpa [Nat.add_assoc, Nat.add_comm 1 j] using this
    simp only [List.all_cons, Bool.and_eq_true] at hv
    simp only [List.length_cons, Region.lexHead, Bool.and_eq_true] at hB
    obtain ⟨⟨hB1, hB2⟩, hB3⟩ := hB
    have fin : ∀ v, YieldsIf P ops (Same w) o v a → wpAnyH P .any ops Q (Same w) (l.length + g) (listed.setIfInBounds k true) (a.put o.dst v) w → wpAnyH P .any ops Q (Same w) (l.length + 1 + g) listed a w := by
      intro v hy hh
      have e : l.length + 1 + g = (l.length + g) + 1 := by omega
      rw [e]
      exact wpAnyH_take h0 hsel hB2 hB1 (fun e a w h => hQ _ _ e a w h) hy (Same.refl w) hh
    simp only [aopsd] at h
    have step : ∀ (σ : St), aopd P T o σ (fun σ' => aopsd P T ops.toList l σ' (fun σ' => aopst P T tail σ' K)) → Rel c N σ a w → Region.wanted o (yielded ops a.tmps) = true → wpAnyH P .any ops Q (Same w) (l.length + 1 + g) listed a w := by
      intro σ h hr hw
      unfold aopd at h
      rw [if_pos hv.1] at h
      obtain ⟨av, v, h1, h2, h3, h4⟩ := aop_val hT hv.1 h hr
      exact fin v (.inl ⟨hw, h4⟩) (held_lex hT hsel hg l (k + 1) _ _ _ hv.2 hl' hB3 h2 (hr.put (dok_ok h1) h3) hQ hK)
    split at h
    · rename_i hgd
      exact step _ h hr (wanted_none hgd _)
    · rename_i j want hgd
      split at h
      · rename_i t ht
        have hy := guard_rel hr ht
        by_cases htw : t = want
        · subst htw
          exact step _ (h.1 rfl) (guard_put hr ht) (by unfold Region.wanted; rw [hgd]; simp [hy])
        · have hnt : t = !want := by cases t <;> cases want <;> simp_all
          subst hnt
          obtain ⟨h1, h2⟩ := h.2 rfl
          exact fin undef (.inr ⟨by unfold Region.wanted; rw [hgd]; simp [hy], rfl⟩) (held_lex hT hsel hg l (k + 1) _ _ _ hv.2 hl' hB3 h2 ((guard_put hr ht).put (dok_ok (by rw [St.put_nt]; exact h1)) .und) hQ hK)
      · rename_i ht
        have hy := guard_und hr ht
        exact fin undef (.inr ⟨by unfold Region.wanted; rw [hgd]; simp [hy], rfl⟩) (held_lex hT hsel hg l (k + 1) _ _ _ hv.2 hl' hB3 h.2 (hr.put (dok_ok h.1) .und) hQ hK)
      · exact h.elim

def heldB (l : List Oper) (n : Nat) : Bool := Region.noSelect l.toArray && (l.take n).all (fun o => valOp o.op) && Region.lexHead .any l.toArray (l.drop n).length (l.take n).length 0 (Array.replicate l.length false)

theorem good_held (hT : TabOk P T) (n : Nat) (hm : P.follows .mixedOrders = true) {id : Nat} {l : List Oper} {σ : St} {Q : Exit → St → Prop} (hB : heldB l n = true)
    (h : aopsd P T l (l.take n) σ fun σ' => aopst P T (l.drop n) σ' (Q .normal)) : Good P c (.region id l.toArray true) σ Q := by
  simp only [heldB, Bool.and_eq_true] at hB
  obtain ⟨⟨hB1, hB2⟩, hB3⟩ := hB
  intro N a w hr
  refine wp_mono (Q := fun e a' w' => e = .normal ∧ ∃ σ' N', Q e σ' ∧ Rel c N' σ' a' w') ?_ (fun e a w h => h.2)
  refine wp_region_held (S := Same { w with drawn := w.drawn + 1 }) hm ?_
  have hU0 : Unch (fun _ => False) w { w with drawn := w.drawn + 1 } := ⟨rfl, rfl, rfl, Nat.le_refl _, fun _ _ _ => rfl⟩
  have hr0 : Rel c N σ a { w with drawn := w.drawn + 1 } := hr.step hU0 (fun _ _ h => h) (fun _ h => h)
  have := held_lex (Q := fun e a' w' => e = .normal ∧ ∃ σ' N', Q e σ' ∧ Rel c N' σ' a' w') (K := Q .normal) hT (ops := l.toArray) hB1 (tail := l.drop n) rfl (l.take n) 0 (Array.replicate l.length false) σ a hB2 (fun j => by simp) hB3 h hr0 ?_ (fun σ' N' a' w' h1 h2 => ⟨rfl, σ', N', h1, h2⟩)
  · have e : (l.take n).length + (l.drop n).length = l.toArray.size := by simp; omega
    rw [e] at this
    simpa using this
  · rintro d v e a w ⟨h, _⟩
    cases h
end
end Go.Ab
