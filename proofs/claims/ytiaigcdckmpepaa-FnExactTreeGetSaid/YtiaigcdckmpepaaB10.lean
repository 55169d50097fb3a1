/- A function does what its code does; the conditions stand in each theorem. -/
import Derived.Test.YtiaigcdckmpepaaB9
/-! Functions. -/
set_option linter.unusedVariables false
set_option linter.unusedSimpArgs false
namespace Go.Bb

def slotsOf : Nat → List AV → List (Nat × AV)
  | _, [] => []
  | k, v :: r => (k, v) :: slotsOf (k + 1) r

theorem slotsOf_get : ∀ (k : Nat) (l : List AV) (i : Nat) (av : AV), getk i (slotsOf k l) = some av → k ≤ i ∧ l[i - k]? = some av
  | k, [], i, av, h => by cases h
  | k, v :: r, i, av, h => by
    simp only [slotsOf, getk] at h
    split at h
    · rename_i e; subst e; cases h; exact ⟨Nat.le_refl _, by simp⟩
    · obtain ⟨h1, h2⟩ := slotsOf_get (k + 1) r i av h
      refine ⟨by omega, ?_⟩
      rw [show i - k = (i - (k + 1)) + 1 by omega]
      simpa using h2

/-- What a function's results are in a state. -/
inductive Res (T : Tab) (σ : St) : List ResultVar → List AV → Prop
  | nil : Res T σ [] []
  | tmp {t : Tmp} {v : AV} {rs : List ResultVar} {l : List AV} (h : getk t σ.slots = some v) (hr : Res T σ rs l) : Res T σ (.tmp t :: rs) (v :: l)
  | cell {x : Tmp} {t : TypeId} {v : AV} {rs : List ResultVar} {l cs ls : List AV} {k b off n : Nat} {u : TypeId} {g : Bool} (h : getk x σ.slots = some (.ptr k b off)) (hh : getk k σ.heap = some (.pointer (some ⟨b, 0, none⟩), .optr u cs)) (hs : T.size t = some n) (hg : T.agg t = some g)
      (hw : win cs off n = some ls) (hp : plainC ls = true) (hm : mkA g ls = some v) (hr : Res T σ rs l) : Res T σ (.cell x t :: rs) (v :: l)

def resV : List AV → AV
  | [v] => v
  | l => .tup l

section
variable {P : Program} {T : Tab} {c : Cx} {F : Nat → Nat → Prop} {o : Oper} {σ : St} {K : St → Prop} {N : Nat → Prop} {a : Act} {w : World} {all r : List Oper}
variable {d : Option Tmp} {ty : TypeId} {pos : String} {af : Array Edge} {g : Option (Nat × Bool)}

theorem res_run (hT : TabOk P T) (hr : Rel c F N σ a w) (Fn : ResultVar → Sem Value) (hF1 : ∀ t, Fn (.tmp t) = pure (a.tmps.getD t undef)) (hF2 : ∀ x t, Fn (.cell x t) = do loadVar t (← asAddr (a.tmps.getD x undef))) {rs : List ResultVar} {l : List AV} (h : Res T σ rs l) :
    ∃ vs : List Value, vs.length = l.length ∧ (rs.mapM Fn : Sem (List Value)).run P w = .ok vs w ∧ ∀ (i : Nat) av v, l[i]? = some av → vs[i]? = some v → RelV N w av v := by
  induction h with
  | nil => exact ⟨[], rfl, by simp, fun i av v h => by simp at h⟩
  | tmp h1 hrr ih =>
    obtain ⟨vs, h3, h4, h5⟩ := ih
    obtain ⟨u, h6, h7⟩ := hr.slots _ _ h1
    refine ⟨u :: vs, by simp [h3], ?_, ?_⟩
    · rename_i t _ _ _
      have h6' : a.tmps.getD t undef = u := by simp [h6]
      simp only [List.mapM_cons, hF1, Sem.run_bind, h4, h6', Sem.run_pure, Result.andThen_ok]
    · intro i av w' h8 h9
      cases i with
      | zero => cases h8; cases h9; exact h7
      | succ i => exact h5 i av w' h8 h9
  | cell h1 hh hs hg hw hp hm hrr ih =>
    rename_i x t v rs l cs ls k b off n u g
    obtain ⟨vs, h3, h4, h5⟩ := ih
    obtain ⟨y, h6, h7⟩ := hr.slots _ _ h1
    cases h7
    obtain ⟨h8, h9⟩ := at_ptr hr hh hw hp
    obtain ⟨z, h15, h16⟩ := run_loadVar_at hT hs hg h8 h9 hm
    refine ⟨z :: vs, by simp [h3], ?_, ?_⟩
    · have h8' : a.tmps.getD x undef = .pointer (some ⟨b, off, none⟩) := by simp [h6]
      simp only [List.mapM_cons, hF2, Sem.run_bind, h4, h8', asAddr, Sem.run_pure, Result.andThen_ok, h16 w (.refl w)]
    · intro i av w' h8 h9
      cases i with
      | zero => cases h8; cases h9; exact h15
      | succ i => exact h5 i av w' h8 h9

/-- What a function must end in. -/
def EndOk (T : Tab) (fn : Func) (R : AV → HP → Prop) (σ : St) : Prop := ∃ l ms h', Res T σ fn.results.toList l ∧ wheap [] σ.heap ms h' ∧ (ms.filterMap id).Nodup ∧ R (resV l) h'
def endQ (T : Tab) (fn : Func) (R : AV → HP → Prop) : Exit → St → Prop
  | .normal, σ | .ret, σ => EndOk T fn R σ
  | _, _ => False

theorem endQ_ret {fn : Func} {R : AV → HP → Prop} {l : List AV} {h' : HP} (ms : List (Option Nat)) (h1 : Res T σ fn.results.toList l) (h2 : wheap [] σ.heap ms h') (h3 : (ms.filterMap id).Nodup) (h4 : R (resV l) h') : endQ T fn R .ret σ := ⟨l, ms, h', h1, h2, h3, h4⟩
theorem endQ_end {fn : Func} {R : AV → HP → Prop} {l : List AV} {h' : HP} (ms : List (Option Nat)) (h1 : Res T σ fn.results.toList l) (h2 : wheap [] σ.heap ms h') (h3 : (ms.filterMap id).Nodup) (h4 : R (resV l) h') : endQ T fn R .normal σ := ⟨l, ms, h', h1, h2, h3, h4⟩

theorem does_of_good (hT : TabOk P T) {f : FuncId} {fn : Func} {body : Code} {avs : List AV} {h : HP} {R : AV → HP → Prop} (hf : P.funcs[f]? = some fn) (hb : fn.body = some body) (hname : (fn.name == "runtime.NumGoroutine") = false)
    (hn : avs.length ≤ fn.ntmps) (hg : ∀ c : Cx, Good P c body ⟨fn.ntmps, slotsOf 0 avs, h⟩ (endQ T fn R)) : Does P f avs h R := by
  refine ⟨⟨fn, hf, by rw [hb]; rfl, hname⟩, fun F N w vs hvs hh => ?_⟩
  refine calls_of_wp hf hb ?_
  let c : Cx := ⟨w, fun k => ∃ y, y ∈ keys h ∧ F y k, N⟩
  have hr : Rel c F N ⟨fn.ntmps, slotsOf 0 avs, h⟩ { tmps := vs ++ Array.replicate (fn.ntmps - vs.size) undef, defers := [] } w := by
    refine ⟨rfl, by simp [hvs.1]; omega, fun k av hk => ?_, hh, fun x hx b hb => .inl ⟨x, hx, hb⟩, fun _ _ h => .inl h, .refl _ _⟩
    obtain ⟨_, h1⟩ := slotsOf_get 0 avs k av hk
    simp only [Nat.sub_zero] at h1
    have hk : k < vs.size := by
      rw [hvs.1]
      rcases Nat.lt_or_ge k avs.length with h' | h'
      · exact h'
      · rw [List.getElem?_eq_none h'] at h1; cases h1
    exact ⟨vs[k], by simp [Array.getElem?_append_left hk, hk], hvs.2 k av _ h1 (by simp [hk])⟩
  refine wp_mono (hg c F N _ w hr) ?_
  rintro e a' w' ⟨σ', F', N', hq, hr'⟩
  have hfin : EndOk T fn R σ' →
      a'.defers = [] ∧ ∃ v, (results fn a'.tmps).run P w' = .ok v w' ∧ ∃ u r h' F' N', Ending.returned v = .returned u ∧ R r h' ∧ RelV N' w' r u ∧ HOk N' F' w' h' ∧
      (∀ x, x ∈ keys h' → ∀ b, F' x b → (∃ y, y ∈ keys h ∧ F y b) ∨ w.heap.size ≤ b) ∧
      (∀ k, k < w.heap.size → N' k → N k) ∧ (∀ k, k < w.heap.size → N k → N' k ∨ ∃ y, y ∈ keys h ∧ F y k) ∧ Unch (fun k => ∃ y, y ∈ keys h ∧ F y k) w w' := by
    rintro ⟨l, ms, h', hres, hwh, hnd, hR⟩
    refine ⟨hr'.defers, ?_⟩
    obtain ⟨us, h1, h2, h3⟩ := res_run hT hr' (fun | .tmp t => pure (a'.tmps.getD t undef) | .cell x t => do loadVar t (← asAddr (a'.tmps.getD x undef))) (fun _ => rfl) (fun _ _ => rfl) hres
    let F2 : Nat → Nat → Prop := fun x => match srcs ms h' x with | some y => F' y | none => fun _ => False
    let N1 : Nat → Prop := fun k => (k < w.heap.size ∧ N' k ∧ N k) ∨ (∃ x, x ∈ keys h' ∧ F2 x k)
    have hFk : ∀ x, x ∈ keys h' → ∀ b, F2 x b → ∃ y, srcs ms h' x = some y ∧ y ∈ ms.filterMap id ∧ y ∈ keys σ'.heap ∧ F' y b := by
      intro x hx b hb
      obtain ⟨⟨v, o1⟩, ho⟩ := mem_keys_get hx
      rcases wheap_get hwh x v o1 ho with ⟨h1, _⟩ | ⟨y, o, h1, h2, h3, _⟩
      · simp only [F2, h1] at hb
      · simp only [F2, h1] at hb
        exact ⟨y, h1, h2, get_mem_keys h3, hb⟩
    have hsub : ∀ k, k < w'.heap.size → N1 k → N' k := by
      rintro k hk (⟨_, h, _⟩ | ⟨x, hx, hF⟩)
      · exact h
      · obtain ⟨y, _, _, h4, h5⟩ := hFk x hx k hF
        exact (hr'.heap.foot y h4 k h5).1
    have hview : ∀ {av : AV} {v : Value}, RelV N' w' av v → RelV N1 w' av v := fun h => h.mono (.refl N' w') hsub
    refine ⟨if us.length = 1 then us.headD undef else .tuple us.toArray, ?_, _, resV l, h', F2, N1, rfl, hR, ?_, ⟨fun x v o1 hx => ?_, fun x hx b hb => ?_, fun x x' hx hx' hne b hb hb' => ?_, fun x v o1 hx => ?_⟩, fun x hx b hb => ?_, fun k hk hN => ?_, fun k hk hN => ?_, hr'.unch⟩
    · unfold results
      rw [Sem.run_bind, Array.mapM_eq_mapM_toList, Sem.run_map]
      have h2' : Sem.run P (List.mapM (fun x : ResultVar => match x with | .tmp t => (pure (a'.tmps.getD t undef) : Sem Value) | .cell a t => do loadVar t (← asAddr (a'.tmps.getD a undef))) fn.results.toList) w' = .ok us w' := h2
      erw [h2']
      simp only [Result.andThen_ok, Sem.run_pure]
      congr 1
      match us with
      | [] => simp
      | [u] => simp
      | u :: v :: r => simp
    · match l, us, h1 with
      | [], [], _ => exact .tup _ _ rfl (fun i av v h => by simp at h)
      | [v], [u], _ => simpa [resV] using hview (h3 0 v u rfl rfl)
      | v :: v2 :: r, u :: u2 :: s, h1 =>
        simp only [resV]
        rw [if_neg (by simp)]
        refine .tup _ _ (by simpa using h1) (fun i av x h4 h5 => ?_)
        exact hview (h3 i av x h4 (by simpa using h5))
    · rcases wheap_get hwh x v o1 hx with ⟨h1, rfl, t, sz, rfl⟩ | ⟨y, o, h1, h2, h3, h4⟩
      · exact .osl0 _ t sz
      · have e : F2 x = F' y := by simp only [F2, h1]
        rw [e]
        exact (h4.own (Z := []) (fun v av h => by cases h) (hr'.heap.own y v o h3)).mono (.refl N' w') hsub (fun _ _ _ => rfl)
    · obtain ⟨y, h1, h2, h3, h4⟩ := hFk x hx b hb
      exact ⟨.inr ⟨x, hx, hb⟩, (hr'.heap.foot y h3 b h4).2⟩
    · obtain ⟨y, h1, h2, h3, h4⟩ := hFk x hx b hb
      obtain ⟨y', h5, h6, h7, h8⟩ := hFk x' hx' b hb'
      exact hr'.heap.disj y y' h3 h7 (by rintro rfl; exact hne (srcs_inj hwh hnd x x' y h1 h5)) b h4 h8
    · rcases wheap_get hwh x v o1 hx with ⟨h1, rfl, t, sz, rfl⟩ | ⟨y, o, h1, h2, h3, h4⟩
      · rfl
      · exact hr'.heap.one y v o h3
    · obtain ⟨y, h1, h2, h3, h4⟩ := hFk x hx b hb
      exact hr'.may y h3 b h4
    · rcases hN with ⟨_, _, h⟩ | ⟨x, hx, hF⟩
      · exact h
      · obtain ⟨y, h1, h2, h3, h4⟩ := hFk x hx k hF
        rcases hr'.may y h3 k h4 with ⟨z, h5, h6⟩ | h5
        · exact (hh.foot z h5 k h6).1
        · have h5 : w.heap.size ≤ k := h5
          omega
    · rcases hr'.n0 k hk hN with h | h
      · exact .inl (.inl ⟨hk, h, hN⟩)
      · exact .inr h
  cases e with
  | normal => exact hfin hq
  | ret => exact hfin hq
  | _ => exact hq.elim

/-- One result, nothing else. -/
def ret (r0 : AV) : AV → HP → Prop := fun r h => r = r0 ∧ h = []

theorem minus_nil {α : Type} (h : List (Nat × α)) : minus h [] = h := by unfold minus; simp

/-- A call of one result that is lent what it reads. -/
theorem o_callR {f : FuncId} {avs avs1 : List AV} {r0 : AV} (ys : List Nat) (Z : List (Value × AV)) (hcore : Core P c σ o f avs) (hS : Does P f avs1 [] (ret r0)) (hz : wfrz σ.heap ys Z) (hargs : WkL Z avs1 avs) (hc : ys = [] ∨ Scal r0) (hd : dok o.dst σ.nt = true) (hK : K (σ.put o.dst r0)) : OpOk P c o σ K := by
  refine o_call ys Z [] hcore hS hz hargs trivial List.nodup_nil (fun y _ h => by cases h) ?_
  rintro r h' ⟨rfl, rfl⟩
  refine ⟨r, [], .refl _, rfl, List.nodup_nil, List.nodup_nil, fun x hx => (by cases hx), hc.imp id (fun h => ⟨h, fun p hp => (by cases hp)⟩), hd, ?_⟩
  rw [minus_nil]; exact hK

/-! Calls in regions that draw their order: of a result that the machine's value is read off from -/
inductive Det : AV → Prop
  | int (k : IntKind) (n : Int) : Det (.int k n)
  | bool (b : Bool) : Det (.bool b)
  | str (l : List UInt8) : Det (.str l)
theorem Det.eq {N N' : Nat → Prop} {w w' : World} {av : AV} {u v : Value} (hd : Det av) (h : RelV N w av u) (h' : RelV N' w' av v) : u = v := by
  cases hd <;> (cases h; cases h'; rfl)
theorem Det.rel {N N' : Nat → Prop} {w w' : World} {av : AV} {u : Value} (hd : Det av) (h : RelV N w av u) : RelV N' w' av u := by
  cases hd <;> cases h <;> constructor <;> assumption

theorem q_call {f : FuncId} {avs avs1 : List AV} {r0 : AV} (ys : List Nat) (Z : List (Value × AV)) (hw : ∀ F N a w, Rel c F N σ a w → Region.wanted o (yielded all.toArray a.tmps) = true) (hcore : Core P c σ o f avs) (hS : Does P f avs1 [] (ret r0)) (hz : wfrz σ.heap ys Z) (hargs : WkL Z avs1 avs) (hdet : Det r0) (hd : dok o.dst σ.nt = true) (hK : GQ P c all r (σ.put o.dst r0) K) :
    GQ P c all (o :: r) σ K := by
  intro F N a w hr Q hQ
  unfold wpQuiet
  rw [if_pos (hw F N a w hr)]
  obtain ⟨he, hS⟩ := hS
  obtain ⟨args, hrun, hrel⟩ := hcore he F N a w hr
  have hvs : ∀ N' w', Rel c F N' σ a w' → RelVs (fun k => N' k ∧ ¬ ∃ y, y ∈ ys ∧ y ∈ keys σ.heap ∧ F y k) w' avs1 args := by
    intro N' w' hr'
    have hZ : ∀ v av, (v, av) ∈ Z → RelV (fun k => N' k ∧ ¬ ∃ y, y ∈ ys ∧ y ∈ keys σ.heap ∧ F y k) w' av v := by
      intro v av hm
      obtain ⟨y, o, h1, h2, h3⟩ := wfrz_mem hz v av hm
      exact (hr'.heap.own y v o h2).freeze h3 (fun k hk => ⟨hk.1, fun hF => hk.2 ⟨y, h1, get_mem_keys h2, hF⟩⟩)
    obtain ⟨h1, h2⟩ := hrel F N' w' hr'
    obtain ⟨h3, h4⟩ := hargs.get
    refine ⟨by rw [h1, h3], fun i av v h5 h6 => ?_⟩
    obtain ⟨b, h7, h8⟩ := h4 i av h5
    exact h8.rel hZ ((h2 i b v h7 h6).mono (.refl N' w') (fun _ _ h => h.1))
  have hh0 : ∀ {N' : Nat → Prop} {w' : World}, HOk N' F w' [] := ⟨fun x v o h => by (cases h), fun x h => by simp [keys] at h, fun x y h => by simp [keys] at h, fun x v o h => by (cases h)⟩
  obtain ⟨e, w1, fr, ⟨v, r1, h', F1, N1', rfl, ⟨rfl, rfl⟩, hv1, _⟩, _⟩ := hS F _ w _ (hvs N w hr) hh0 []
  refine ⟨v, fun w' hcw => ?_, hK F N _ w (hr.put (dok_ok hd) (hdet.rel hv1)) Q hQ⟩
  obtain ⟨N', hN1, hN2, hU⟩ := hcw
  have hr' := hr.step hU hN2 hN1
  unfold Oper.quietAt
  rw [hrun w']
  refine ⟨rfl, (hS F _ w' _ (hvs N' w' hr') hh0).mono ?_⟩
  rintro e w2 ⟨v2, r2, h2', F2, N2, rfl, ⟨rfl, rfl⟩, hv2, _, _, h5, h6, h7⟩
  refine ⟨by rw [hdet.eq hv1 hv2], fun k => N' k, fun k h => hN1 k h, fun k hk h => hN2 k hk h, ?_⟩
  exact hU.trans (M' := fun _ => False) ⟨h7.os, h7.tape, h7.output, h7.size, fun k hk hM => h7.block k hk (fun ⟨y, h, _⟩ => by simp [keys] at h)⟩ (fun _ _ h => h)
end
end Go.Bb
