/- A region, and a function, does what its operations do to abstract states; the conditions stand in each theorem. -/
import Derived.Test.YthokajebopeomaaAb7
import Derived.Deep.Quiet
/-! Regions, functions. -/
set_option linter.unusedVariables false
set_option linter.unusedSimpArgs false
namespace Go.Ab

section
variable {P : Program} {T : Tab} {c : Cx} {o : Oper} {σ : St} {K : St → Prop} {N : Nat → Prop} {a : Act} {w : World} {Q : Exit → Act → World → Prop}

theorem guard_rel (hr : Rel c N σ a w) {ops : Array Oper} {j : Nat} {t : Bool} (h : guardA ops.toList σ j = some (.bool t)) : yielded ops a.tmps j = some t := by
  unfold guardA at h
  unfold yielded
  rw [Array.getElem?_toList] at h
  obtain ⟨d, h1, h2⟩ := Option.bind_eq_some_iff.1 h
  obtain ⟨v, h3, h4⟩ := hr.slots d _ h2
  cases h4
  rw [h1]
  simp [h3]
theorem guard_und (hr : Rel c N σ a w) {ops : Array Oper} {j : Nat} (h : guardA ops.toList σ j = some .und) : yielded ops a.tmps j = none := by
  unfold guardA at h
  unfold yielded
  rw [Array.getElem?_toList] at h
  obtain ⟨d, h1, h2⟩ := Option.bind_eq_some_iff.1 h
  obtain ⟨v, h3, h4⟩ := hr.slots d _ h2
  cases h4
  rw [h1]
  simp [h3]

/-- What a guard read as is what it is. -/
theorem guard_put (hr : Rel c N σ a w) {all : List Oper} {j : Nat} {t : Bool} (h : guardA all σ j = some (.bool t)) : Rel c N (σ.put ((all[j]?).bind (·.dst)) (.bool t)) a w := by
  unfold guardA at h
  obtain ⟨d, h1, h2⟩ := Option.bind_eq_some_iff.1 h
  rw [h1]
  refine hr.weak ⟨rfl, fun k av hk => ?_, fun _ _ h => h⟩
  simp only [St.put, getk] at hk
  split at hk
  · rename_i e; subst e; cases hk; exact h2
  · exact hk

theorem wanted_none {o : Oper} (h : o.guard = none) (y : Nat → Option Bool) : Region.wanted o y = true := by unfold Region.wanted; rw [h]

theorem aops_ok (hT : TabOk P T) {ops : Array Oper} : ∀ (l : List Oper) (k : Nat), (∀ j, l[j]? = ops[k + j]?) → ∀ (σ : St) (N : Nat → Prop) (a : Act) (w : World), aops P T ops.toList l σ K → Rel c N σ a w →
    (∀ σ' N' a' w', K σ' → Rel c N' σ' a' w' → Q .normal a' w') → wpOps P ops Q (List.range' k l.length) a w
  | [], k, _, σ, N, a, w, h, hr, hK => hK σ N a w h hr
  | o :: l, k, hl, σ, N, a, w, h, hr, hK => by
    have h0 : ops[k]? = some o := by simpa using (hl 0).symm
    have hl' : ∀ j, l[j]? = ops[k + 1 + j]? := fun j => by have := hl (j + 1); simpa [Nat.add_assoc, Nat.add_comm 1 j] using this
    have ih := aops_ok hT l (k + 1) hl'
    simp only [List.length_cons, List.range'_succ, wpOps, h0]
    simp only [aops] at h
    split at h
    · rename_i hg
      rw [if_pos (wanted_none hg _)]
      exact .inl (aop_ok hT h hr fun σ' N' a' w' h1 h2 => ih σ' N' a' w' h1 h2 hK)
    · rename_i j want hg
      split at h
      · rename_i t ht
        have hy := guard_rel hr ht
        by_cases htw : t = want
        · rw [if_pos (by unfold Region.wanted; rw [hg]; simp [hy, htw])]
          subst htw
          exact .inl (aop_ok hT (h.1 rfl) (guard_put hr ht) fun σ' N' a' w' h1 h2 => ih σ' N' a' w' h1 h2 hK)
        · rw [if_neg (by unfold Region.wanted; rw [hg]; simp [hy, htw])]
          have hnt : t = !want := by cases t <;> cases want <;> simp_all
          subst hnt
          obtain ⟨h1, h2⟩ := h.2 rfl
          exact ih _ N _ w h2 ((guard_put hr ht).put (dok_ok (by rw [St.put_nt]; exact h1)) .und) hK
      · rename_i ht
        have hy := guard_und hr ht
        rw [if_neg (by unfold Region.wanted; rw [hg]; simp [hy])]
        exact ih _ N _ w h.2 (hr.put (dok_ok h.1) .und) hK
      · exact h.elim

theorem good_region (hT : TabOk P T) {id : Nat} {ops : Array Oper} {σ : St} {Q : Exit → St → Prop} (h : aops P T ops.toList ops.toList σ (Q .normal)) : Good P c (.region id ops false) σ Q := by
  intro N a w hr
  refine wp_region ?_
  rw [List.range_eq_range']
  have := aops_ok (Q := fun e a' w' => ∃ σ' N', Q e σ' ∧ Rel c N' σ' a' w') hT (ops := ops) ops.toList 0 (fun j => by simp) σ N a w h hr (fun σ' N' a' w' h1 h2 => ⟨σ', N', h1, h2⟩)
  simpa using this

/-! ### Regions that draw their order -/

/-- A value that the machine's value is read off from. -/
def det : AV → Bool
  | .int .. | .bool _ | .str _ => true
  | _ => false
theorem det_eq {N N' : Nat → Prop} {w w' : World} {av : AV} {u v : Value} (h : RelV N w av u) (h' : RelV N' w' av v) (hd : det av = true) : u = v := by
  cases h <;> first | (simp [det] at hd; done) | (cases h'; rfl)

/-- A call in such a region: of one result. -/
def CallD (P : Program) (o : Oper) (σ : St) (K : St → Prop) (g : FuncId) (avs : List AV) : Prop :=
  ∃ R r0, Does P g avs [] R ∧ (∀ r h', R r h' → r = r0) ∧ det r0 = true ∧ dok o.dst σ.nt = true ∧ K (σ.put o.dst r0)

def aopd (P : Program) (T : Tab) (o : Oper) (σ : St) (K : St → Prop) : Prop :=
  if valOp o.op = true then aop P T o σ K else
  match o.op with
  | .call cl => match cl.callee with
    | .value x => match evA σ x, evAs σ cl.args.toList with
      | some (.clo (.func g) caps), some avs => CallD P o σ K g ((avs ++ caps).map fun v => nilA (viewA T σ v))
      | _, _ => False
    | _ => False
  | _ => False

def aopsd (P : Program) (T : Tab) (all : List Oper) : List Oper → St → (St → Prop) → Prop
  | [], σ, K => K σ
  | o :: r, σ, K =>
    match o.guard with
    | none => aopd P T o σ fun σ' => aopsd P T all r σ' K
    | some (j, want) => match guardA all σ j with
      | some (.bool t) => (t = want → aopd P T o (σ.put ((all[j]?).bind (·.dst)) (.bool want)) fun σ' => aopsd P T all r σ' K) ∧ (t = !want → dok o.dst σ.nt = true ∧ aopsd P T all r ((σ.put ((all[j]?).bind (·.dst)) (.bool !want)).put o.dst .und) K)
      | some .und => dok o.dst σ.nt = true ∧ aopsd P T all r (σ.put o.dst .und) K
      | _ => False

/-- The worlds in which such a region's operations may find themselves. -/
def CW (N : Nat → Prop) (w w' : World) : Prop := ∃ N' : Nat → Prop, (∀ k, N k → N' k) ∧ (∀ k, k < w.heap.size → N' k → N k) ∧ Unch (fun _ => False) w w'

theorem CW.rel (hr : Rel c N σ a w) {w' : World} (h : CW N w w') : ∃ N', Rel c N' σ a w' := by
  obtain ⟨N', h1, h2, h3⟩ := h
  exact ⟨N', hr.step h3 h2 h1⟩
theorem CW.same {w' : World} (h : CW N w w') : Same w w' := by
  obtain ⟨N', h1, h2, h3⟩ := h
  exact ⟨h3.size, fun k hk => h3.block k hk (fun h => h)⟩

theorem aopd_ok (hT : TabOk P T) (h : aopd P T o σ K) (hr : Rel c N σ a w) : ∃ av v, dok o.dst σ.nt = true ∧ K (σ.put o.dst av) ∧ RelV N w av v ∧ ∀ w', CW N w w' → o.quietAt P a (CW N w) w' v := by
  unfold aopd at h
  split at h
  · rename_i hq
    obtain ⟨av, v, h1, h2, h3, h4⟩ := aop_val hT hq h hr
    exact ⟨av, v, h1, h2, h3, fun w' hw => by unfold Oper.quietAt; rw [h4 w' hw.same]; exact ⟨rfl, rfl⟩⟩
  · split at h
    · rename_i cl ho
      split at h
      · rename_i x hcl
        split at h <;> try exact h.elim
        rename_i g caps avs hx ha
        obtain ⟨R, r0, hS, hR, hd, h1, h2⟩ := h
        obtain ⟨he, hS⟩ := hS
        obtain ⟨args, h3, h4⟩ := call_core ho hcl hx ha hr he
        have hvs : ∀ N' w', Rel c N' σ a w' → RelVs (fun k => N' k ∧ k ∉ keys σ.heap) w' ((avs ++ caps).map fun v => nilA (viewA T σ v)) args := by
          intro N' w' hr'
          have h := h4 N' w' hr'
          refine ⟨by simp [h.1], fun i av v h1 h2 => ?_⟩
          rw [List.getElem?_map] at h1
          obtain ⟨x, h3, rfl⟩ := Option.map_eq_some_iff.1 h1
          exact nilA_rel (view_rel hr' (h.2 i x v h3 h2) T)
        have hdet : ∀ {N' : Nat → Prop} {w' : World} {v : Value}, RelV N' w' r0 v → RelV N w r0 v := by
          intro N' w' v hv
          cases hv <;> first | (simp [det] at hd; done) | exact .int _ _ | exact .bool _ | (rename_i h; exact .str _ h)
        obtain ⟨e, w1, fr, ⟨v, r, h', N1, rfl, hR1, hv1, _⟩, _⟩ := hS _ w _ (hvs N w hr) (fun b o hb => by cases hb) []
        have hr1 := hR r h' hR1
        subst hr1
        refine ⟨r, v, h1, h2, hdet hv1, fun w' hw => ?_⟩
        obtain ⟨N', hN1, hN2, hU⟩ := hw
        have hr' := hr.step hU hN2 hN1
        unfold Oper.quietAt
        rw [h3 w']
        refine ⟨rfl, (hS _ w' _ (hvs N' w' hr') (fun b o hb => by cases hb)).mono ?_⟩
        rintro e w2 ⟨v2, r2, h2', N2, rfl, hR2, hv2, _, h6, h7⟩
        have hr2 := hR r2 h2' hR2
        subst hr2
        refine ⟨by rw [det_eq hv1 hv2 hd], fun k => N' k ∨ N2 k, fun k h => .inl (hN1 k h), fun k hk h => ?_, ?_⟩
        · rcases h with h | h
          · exact hN2 k hk h
          · exact hN2 k hk ((h6 k (Nat.lt_of_lt_of_le hk hU.size)).2 h).1
        · exact hU.trans (M' := fun _ => False) ⟨h7.os, h7.tape, h7.output, h7.size, fun k hk hM => h7.block k hk (by simp [keys])⟩ (fun _ _ h => h)
      · exact h.elim
    · exact h.elim

theorem aopsd_ok (hT : TabOk P T) {ops : Array Oper} {Q' : Act → Prop} : ∀ (l : List Oper) (σ : St) (a : Act), aopsd P T ops.toList l σ K → Rel c N σ a w → (∀ σ' a', K σ' → Rel c N σ' a' w → Q' a') → wpQuiet P ops (CW N w) Q' l a
  | [], σ, a, h, hr, hK => hK σ a h hr
  | o :: l, σ, a, h, hr, hK => by
    simp only [aopsd] at h
    unfold wpQuiet
    split at h
    · rename_i hg
      rw [if_pos (wanted_none hg _)]
      obtain ⟨av, v, h1, h2, h3, h4⟩ := aopd_ok hT h hr
      exact ⟨v, h4, aopsd_ok hT l _ _ h2 (hr.put (dok_ok h1) h3) hK⟩
    · rename_i j want hg
      split at h
      · rename_i t ht
        have hy := guard_rel hr ht
        by_cases htw : t = want
        · rw [if_pos (by unfold Region.wanted; rw [hg]; simp [hy, htw])]
          subst htw
          obtain ⟨av, v, h1, h2, h3, h4⟩ := aopd_ok hT (h.1 rfl) (guard_put hr ht)
          exact ⟨v, h4, aopsd_ok hT l _ _ h2 ((guard_put hr ht).put (dok_ok h1) h3) hK⟩
        · rw [if_neg (by unfold Region.wanted; rw [hg]; simp [hy, htw])]
          have hnt : t = !want := by cases t <;> cases want <;> simp_all
          subst hnt
          obtain ⟨h1, h2⟩ := h.2 rfl
          exact aopsd_ok hT l _ _ h2 ((guard_put hr ht).put (dok_ok (by rw [St.put_nt]; exact h1)) .und) hK
      · rename_i ht
        have hy := guard_und hr ht
        rw [if_neg (by unfold Region.wanted; rw [hg]; simp [hy])]
        exact aopsd_ok hT l _ _ h.2 (hr.put (dok_ok h.1) .und) hK
      · exact h.elim

theorem good_draw (hT : TabOk P T) (hm : P.follows .mixedOrders = true) {id : Nat} {ops : Array Oper} {σ : St} {Q : Exit → St → Prop} (hB : Region.lexB .any ops = true) (h : aopsd P T ops.toList ops.toList σ (Q .normal)) : Good P c (.region id ops true) σ Q := by
  intro N a w hr
  have hU0 : Unch (fun _ => False) w { w with drawn := w.drawn + 1 } := ⟨rfl, rfl, rfl, Nat.le_refl _, fun _ _ _ => rfl⟩
  refine wp_region_quiet (C := CW N w) hm hB ⟨N, fun _ h => h, fun _ _ h => h, hU0⟩ ?_
  refine aopsd_ok hT ops.toList σ a h hr (fun σ' a' h1 h2 w' hw => ?_)
  obtain ⟨N', h3⟩ := hw.rel h2
  exact ⟨σ', N', h1, h3⟩

/-! ### Functions -/

def slotsOf : Nat → List AV → List (Nat × AV)
  | _, [] => []
  | k, v :: r => (k, v) :: slotsOf (k + 1) r

theorem slotsOf_get : ∀ (k : Nat) (l : List AV) (i : Nat) (av : AV), getk i (slotsOf k l) = some av → k ≤ i ∧ l[i - k]? = some av
  | k, [], i, av, h => by cases h
  | k, v :: r, i, av, h => by
    simp only [slotsOf, getk] at h
    split at h
    · rename_i e; subst e; cases h; exact ⟨Nat.le_refl _, by simp⟩
    · obtain ⟨h1, h2⟩ := slotsOf_get (k + 1) r i av h
      refine ⟨by omega, ?_⟩
      rw [show i - k = (i - (k + 1)) + 1 by omega]
      simpa using h2

/-- What a function's results are in a state. -/
def resA (T : Tab) (σ : St) : List ResultVar → Option (List AV)
  | [] => some []
  | .tmp t :: r => match getk t σ.slots, resA T σ r with | some v, some l => some (v :: l) | _, _ => none
  | .cell x t :: r => match getk x σ.slots, T.size t, T.agg t, resA T σ r with
    | some p, some n, some g, some l => match (readA σ p n).bind (mkA g) with | some v => some (v :: l) | none => none
    | _, _, _, _ => none

def resV : List AV → AV
  | [v] => v
  | l => .tup l

theorem resA_run (hT : TabOk P T) (hr : Rel c N σ a w) (F : ResultVar → Sem Value) (hF1 : ∀ t, F (.tmp t) = pure (a.tmps.getD t undef)) (hF2 : ∀ x t, F (.cell x t) = do loadVar t (← asAddr (a.tmps.getD x undef))) : ∀ (rs : List ResultVar) (l : List AV), resA T σ rs = some l → ∃ vs : List Value, vs.length = l.length ∧ (rs.mapM F : Sem (List Value)).run P w = .ok vs w ∧
    ∀ (i : Nat) av v, l[i]? = some av → vs[i]? = some v → RelV N w av v
  | [], l, h => by cases h; exact ⟨[], rfl, by simp, fun i av v h => by simp at h⟩
  | .tmp t :: rs, l, h => by
    simp only [resA] at h
    split at h
    · rename_i v l' h1 h2
      cases h
      obtain ⟨vs, h3, h4, h5⟩ := resA_run hT hr F hF1 hF2 rs l' h2
      obtain ⟨u, h6, h7⟩ := hr.slots t v h1
      refine ⟨u :: vs, by simp [h3], ?_, ?_⟩
      · have h6' : a.tmps.getD t undef = u := by simp [h6]
        simp only [List.mapM_cons, hF1, Sem.run_bind, h4, h6', Sem.run_pure, Result.andThen_ok]
      · intro i av w' h8 h9
        cases i with
        | zero => cases h8; cases h9; exact h7
        | succ i => exact h5 i av w' h8 h9
    · cases h
  | .cell x t :: rs, l, h => by
    simp only [resA] at h
    split at h
    · rename_i p n g l' h1 h2 h3 h4
      split at h
      · rename_i v hv
        cases h
        obtain ⟨vs, h5, h6, h7⟩ := resA_run hT hr F hF1 hF2 rs l' h4
        obtain ⟨u, h8, h9⟩ := hr.slots x p h1
        obtain ⟨cs, h10, h11⟩ := Option.bind_eq_some_iff.1 hv
        obtain ⟨h12, ad, h13, h14⟩ := readA_at hr h9 h10
        obtain ⟨z, h15, h16⟩ := run_loadVar_at hT h2 h3 h12 h14 h11
        refine ⟨z :: vs, by simp [h5], ?_, ?_⟩
        · have h8' : a.tmps.getD x undef = .pointer (some ad) := by simp [h8, h13]
          simp only [List.mapM_cons, hF2, Sem.run_bind, h6, h8', asAddr, Sem.run_pure, Result.andThen_ok, h16 w (.refl w)]
        · intro i av w' h8 h9
          cases i with
          | zero => cases h8; cases h9; exact h15
          | succ i => exact h7 i av w' h8 h9
      · cases h
    · cases h

/-- What is handed back, all that is the call's own being given away to be read (but what is named in ks). -/
def viewD (T : Tab) (ks : List Nat) (h : List (Nat × HO)) : Nat → AV → AV
  | 0, v => v
  | _ + 1, .nil => .sl []
  | k + 1, .ref b n cap =>
    if b ∈ ks then .ref b n cap else
    match getk b h with
    | some (.row t _ cs) => match T.size t with
      | some sz => if cs.length = n * sz then .sl (chunk sz n (cs.map (viewD T ks h k))) else .ref b n cap
      | none => .ref b n cap
    | none => .ref b n cap
  | k + 1, .agg cs => .agg (cs.map (viewD T ks h k))
  | k + 1, .tup cs => .tup (cs.map (viewD T ks h k))
  | _ + 1, v => v

def endQ (T : Tab) (fn : Func) (ks : List Nat) (R : AV → List (Nat × HO) → Prop) : Exit → St → Prop
  | .normal, σ | .ret, σ => match resA T σ fn.results.toList with | some l => ∃ h', subs σ.heap h' ∧ R (resV (l.map (viewD T (ks ++ keys h') σ.heap 4))) h' | none => False
  | _, _ => False

theorem viewD_rel (hr : Rel c N σ a w) {ks : List Nat} (hk : ∀ k, c.M k → k ∈ ks) {N1 : Nat → Prop} (h1 : ∀ k, k < w.heap.size → N1 k → N k) (h2 : ∀ k, c.w0.heap.size ≤ k → k < w.heap.size → N1 k → k ∈ ks) (T : Tab) :
    ∀ (n : Nat) (av : AV) (v : Value), RelV N w av v → RelV N1 w (viewD T ks σ.heap n av) v
  | 0, av, v, h => h.mono (.refl N w) h1
  | n + 1, av, v, h => by
    have ih := viewD_rel hr hk h1 h2 T n
    have hm : ∀ {x : AV} {u : Value}, RelV N w x u → RelV N1 w x u := fun h => h.mono (.refl N w) h1
    have hmap : ∀ {cs : List AV} {vs : Array Value}, (∀ (i : Nat) av v, cs[i]? = some av → vs[i]? = some v → RelV N w av v) → ∀ (i : Nat) av v, (cs.map (viewD T ks σ.heap n))[i]? = some av → vs[i]? = some v → RelV N1 w av v := by
      intro cs vs h i av v h3 h4
      rw [List.getElem?_map] at h3
      obtain ⟨x, h5, rfl⟩ := Option.map_eq_some_iff.1 h3
      exact ih x v (h i x v h5 h4)
    cases h with
    | nil => exact .slNil
    | agg cs vs hl h => exact .agg _ _ (by simp [hl]) (hmap h)
    | tup cs vs hl h => exact .tup _ _ (by simp [hl]) (hmap h)
    | ref b m cap hc hmx =>
      simp only [viewD]
      split
      · exact .ref b m cap hc hmx
      · rename_i hbk
        split
        · rename_i t size cs hg
          split
          · rename_i sz hsz
            split
            · rename_i hlen
              obtain ⟨_, hM, arr, h5, h6, h7, h8⟩ := hr.heap b _ hg
              have hb1 : ¬ N1 b := fun h => hbk (h2 b (hM.resolve_left (fun h => hbk (hk b h))) (RelO.lt (o := .row t size cs) ⟨arr, h5, h6, h7, h8⟩) h)
              have hl : (chunk sz m (cs.map (viewD T ks σ.heap n))).length = m := chunk_length sz m _
              have := RelV.sl (N := N1) (w := w) (chunk sz m (cs.map (viewD T ks σ.heap n))) ⟨b, 0, none⟩ cap sz (fun i j => arr.getD (i * sz + j) undef) (fun _ => rfl) (by omega) hmx ?_ ?_ ?_
              · rw [hl] at this; exact this
              · intro i row hi
                have hin : i < m := by
                  rcases Nat.lt_or_ge i m with h' | h'
                  · exact h'
                  · rw [List.getElem?_eq_none (by omega)] at hi; cases hi
                rw [chunk_get sz m _ i hin] at hi
                cases hi
                have : (i + 1) * sz ≤ m * sz := Nat.mul_le_mul_right _ hin
                rw [Nat.add_mul, Nat.one_mul] at this
                simp; omega
              · intro i row j av hi hj
                have hin : i < m := by
                  rcases Nat.lt_or_ge i m with h' | h'
                  · exact h'
                  · rw [List.getElem?_eq_none (by omega)] at hi; cases hi
                rw [chunk_get sz m _ i hin] at hi
                cases hi
                rw [List.getElem?_take] at hj
                split at hj
                · rw [List.getElem?_drop, List.getElem?_map] at hj
                  obtain ⟨x, h9, rfl⟩ := Option.map_eq_some_iff.1 hj
                  obtain ⟨u, h10, h11⟩ := h8 _ x h9
                  refine ⟨hb1, ?_⟩
                  simp only [World.cell?, h5]
                  simp [h10]
                · cases hj
              · intro i row j av hi hj
                have hin : i < m := by
                  rcases Nat.lt_or_ge i m with h' | h'
                  · exact h'
                  · rw [List.getElem?_eq_none (by omega)] at hi; cases hi
                rw [chunk_get sz m _ i hin] at hi
                cases hi
                rw [List.getElem?_take] at hj
                split at hj
                · rw [List.getElem?_drop, List.getElem?_map] at hj
                  obtain ⟨x, h9, rfl⟩ := Option.map_eq_some_iff.1 hj
                  obtain ⟨u, h10, h11⟩ := h8 _ x h9
                  simp only [Array.getD_eq_getD_getElem?, h10, Option.getD_some]
                  exact ih x u h11
                · cases hj
            · exact .ref b m cap hc hmx
          · exact .ref b m cap hc hmx
        · exact .ref b m cap hc hmx
    | int k i => exact .int k i
    | bool b => exact .bool b
    | str l h => exact .str l h
    | raw v h => exact .raw v h
    | slNil => exact .slNil
    | sl rows a cap sz u hs hc hmx h3 h4 h5 => exact hm (.sl rows a cap sz u hs hc hmx h3 h4 h5)
    | ptr b off => exact .ptr b off
    | eptr cells a u hs h3 h4 => exact hm (.eptr cells a u hs h3 h4)
    | ifc t av v h => exact hm (.ifc t av v h)
    | clo fn caps vs hl h => exact hm (.clo fn caps vs hl h)
    | mp b => exact .mp b
    | und => exact .und

/-- A function does what its code does. -/
theorem does_of_good (hT : TabOk P T) {f : FuncId} {fn : Func} {body : Code} {avs : List AV} {h : List (Nat × HO)} {R : AV → List (Nat × HO) → Prop} (hf : P.funcs[f]? = some fn) (hb : fn.body = some body) (hname : (fn.name == "runtime.NumGoroutine") = false)
    (hn : avs.length ≤ fn.ntmps) (hg : ∀ c : Cx, (∀ k, c.M k ↔ k ∈ keys h) → Good P c body ⟨fn.ntmps, slotsOf 0 avs, h⟩ (endQ T fn (keys h) R)) : Does P f avs h R := by
  refine ⟨⟨fn, hf, by rw [hb]; rfl, hname⟩, fun N w vs hvs hh => ?_⟩
  refine calls_of_wp hf hb ?_
  let c : Cx := ⟨w, fun k => k ∈ keys h, N⟩
  have hr : Rel c N ⟨fn.ntmps, slotsOf 0 avs, h⟩ { tmps := vs ++ Array.replicate (fn.ntmps - vs.size) undef, defers := [] } w := by
    refine ⟨rfl, by simp [hvs.1]; omega, fun k av hk => ?_, fun b o hb => ?_, fun _ _ h => h, .refl _ _⟩
    · obtain ⟨_, h1⟩ := slotsOf_get 0 avs k av hk
      simp only [Nat.sub_zero] at h1
      have hk : k < vs.size := by
        rw [hvs.1]
        rcases Nat.lt_or_ge k avs.length with h' | h'
        · exact h'
        · rw [List.getElem?_eq_none h'] at h1; cases h1
      exact ⟨vs[k], by simp [Array.getElem?_append_left hk, hk], hvs.2 k av _ h1 (by simp [hk])⟩
    · obtain ⟨h1, h2⟩ := hh b o hb
      exact ⟨h1, .inl (get_mem_keys hb), h2⟩
  refine wp_mono (hg c (fun _ => Iff.rfl) N _ w hr) ?_
  rintro e a' w' ⟨σ', N', hq, hr'⟩
  have hfin : (match resA T σ' fn.results.toList with | some l => ∃ h', subs σ'.heap h' ∧ R (resV (l.map (viewD T (keys h ++ keys h') σ'.heap 4))) h' | none => False) →
      a'.defers = [] ∧ ∃ v, (results fn a'.tmps).run P w' = .ok v w' ∧ ∃ u r h' N', Ending.returned v = .returned u ∧ R r h' ∧ RelV N' w' r u ∧ (∀ b o, getk b h' = some o → N' b ∧ (b ∈ keys h ∨ w.heap.size ≤ b) ∧ RelO N' w' b o) ∧
      (∀ k, k < w.heap.size → (N k ↔ N' k)) ∧ Unch (fun k => k ∈ keys h) w w' := by
    intro hq
    refine ⟨hr'.defers, ?_⟩
    split at hq
    · rename_i l hl
      obtain ⟨h', hh', hR⟩ := hq
      have hh' : ∀ b o, getk b h' = some o → getk b σ'.heap = some o := subs_get hh'
      obtain ⟨us, h1, h2, h3⟩ := resA_run hT hr' (fun | .tmp t => pure (a'.tmps.getD t undef) | .cell x t => do loadVar t (← asAddr (a'.tmps.getD x undef))) (fun _ => rfl) (fun _ _ => rfl) _ l hl
      let N1 : Nat → Prop := fun k => (k < w.heap.size ∧ N k) ∨ (w.heap.size ≤ k ∧ k ∈ keys h')
      have hsub : ∀ k, k < w'.heap.size → N1 k → N' k := by
        rintro k hk (⟨h, hN⟩ | ⟨h, hk'⟩)
        · exact hr'.n0 k h hN
        · obtain ⟨o, ho⟩ := mem_keys_get hk'
          exact (hr'.heap k o (hh' k o ho)).1
      have hview := fun n av v => viewD_rel hr' (ks := keys h ++ keys h') (fun k hk => List.mem_append_left _ hk) (N1 := N1) hsub
        (fun k hk _ hN => by rcases hN with ⟨h4, _⟩ | ⟨_, h4⟩; (have hk' : w.heap.size ≤ k := hk; omega); exact List.mem_append_right _ h4) T n av v
      refine ⟨if us.length = 1 then us.headD undef else .tuple us.toArray, ?_, _, _, h', N1, rfl, hR, ?_, ?_, ?_, hr'.unch⟩
      · unfold results
        rw [Sem.run_bind, Array.mapM_eq_mapM_toList, Sem.run_map]
        have h2' : Sem.run P (List.mapM (fun x : ResultVar => match x with | .tmp t => (pure (a'.tmps.getD t undef) : Sem Value) | .cell a t => do loadVar t (← asAddr (a'.tmps.getD a undef))) fn.results.toList) w' = .ok us w' := h2
        erw [h2']
        simp only [Result.andThen_ok, Sem.run_pure]
        congr 1
        match us with
        | [] => simp
        | [u] => simp
        | u :: v :: r => simp
      · match l, us, h1 with
        | [], [], _ => exact .tup _ _ rfl (fun i av v h => by simp at h)
        | [v], [u], _ => simpa [resV] using hview 4 v u (h3 0 v u rfl rfl)
        | v :: v2 :: r, u :: u2 :: s, h1 =>
          simp only [resV, List.map_cons]
          rw [if_neg (by simp)]
          refine .tup _ _ (by simpa using h1) (fun i av x h4 h5 => ?_)
          rw [← List.map_cons, ← List.map_cons, List.getElem?_map] at h4
          obtain ⟨y, h6, rfl⟩ := Option.map_eq_some_iff.1 h4
          exact hview 4 y x (h3 i y x h6 (by simpa using h5))
      · intro b o hb
        obtain ⟨h4, h5, h6⟩ := hr'.heap b o (hh' b o hb)
        refine ⟨?_, h5, h6.mono (.refl N' w') hsub rfl⟩
        rcases h5 with h5 | h5
        · obtain ⟨o', ho'⟩ := mem_keys_get h5
          have := hh b o' ho'
          exact .inl ⟨this.2.lt, this.1⟩
        · exact .inr ⟨h5, get_mem_keys hb⟩
      · intro k hk
        constructor
        · intro hN; exact .inl ⟨hk, hN⟩
        · rintro (⟨_, hN⟩ | ⟨h4, _⟩)
          · exact hN
          · omega
    · exact hq.elim
  cases e with
  | normal => exact hfin hq
  | ret => exact hfin hq
  | _ => exact hq.elim

/-- One result, nothing else. -/
def ret (r0 : AV) : AV → List (Nat × HO) → Prop := fun r h => r = r0 ∧ h = []

theorem minus_nil {α : Type} (h : List (Nat × α)) : minus h [] = h := by unfold minus; simp

/-- A call of one result. -/
theorem callP {o : Oper} {σ : St} {K : St → Prop} {g : FuncId} {avs : List AV} {r0 : AV} {B : Prop} (hS : Does P g avs [] (ret r0)) (hd : dok o.dst σ.nt = true) (hK : K (σ.put o.dst r0)) : CallN P o σ K g avs ∨ B := by
  refine .inl ⟨[], ret r0, hS, trivial, ?_⟩
  rintro r h' ⟨rfl, rfl⟩ _
  refine ⟨hd, ?_⟩
  have : minus σ.heap (keys ([] : List (Nat × HO))) = σ.heap := minus_nil _
  rw [this]; exact hK

/-- The same, what is the call's own being looked at. -/
theorem callW {o : Oper} {σ : St} {K : St → Prop} {g : FuncId} {avs : List AV} {r0 : AV} {B : Prop} (hS : Does P g avs [] (ret r0)) (hs : scal r0 = true) (hd : dok o.dst σ.nt = true) (hK : K (σ.put o.dst r0)) : B ∨ CallV P o σ K g avs := by
  refine .inr ⟨ret r0, hS, ?_⟩
  rintro r h' ⟨rfl, rfl⟩
  exact ⟨hs, hd, hK⟩

theorem callD {o : Oper} {σ : St} {K : St → Prop} {g : FuncId} {avs : List AV} {r0 : AV} (hS : Does P g avs [] (ret r0)) (hs : det r0 = true) (hd : dok o.dst σ.nt = true) (hK : K (σ.put o.dst r0)) : CallD P o σ K g avs := by
  exact ⟨ret r0, r0, hS, fun r h' h => h.1, hs, hd, hK⟩

end
end Go.Ab
