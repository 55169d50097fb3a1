/- What functions do in worlds where a table of the library's reads as it is laid; the conditions stand in each theorem. -/
import Derived.Test.YtopbbjoflopjbaaDoorB14
import Derived.Test.YtopbbjoflopjbaaDoorR1
import Derived.Test.YtopbbjoflopjbaaDoorTabb
import Derived.Test.YtopbbjoflopjbaaDoorDat
import Derived.Test.YtopbbjoflopjbaaDoorB21
/-! Where a table is laid. -/
set_option linter.unusedVariables false
set_option linter.unusedSimpArgs false
set_option maxRecDepth 100000
namespace Go.Bb

/-- The library's table of powers reads as it is laid. -/
def TabW (P : Program) (w : World) : Prop := Lib.TabIs P w "internal/strconv.uint64pow10" .u64 Lib.pow10Tab
/-- It does so when the call begins, and the call may not write. -/
def TabC (P : Program) (c : Cx) : Prop := TabW P c.w0 ∧ ∀ k, ¬ c.M k
theorem tab_step {P : Program} {w w' : World} (h : TabW P w) (hs : ∀ k, k < w.heap.size → w'.heap[k]? = w.heap[k]?) : TabW P w' := by
  unfold TabW Lib.TabIs World.var? at h ⊢
  cases hg : P.globalNamed "internal/strconv.uint64pow10" with
  | none => rw [hg] at h; cases h
  | some g =>
    rw [hg] at h
    simp only [Option.bind_some] at h ⊢
    have hlt : g < w.heap.size := by
      rcases Nat.lt_or_ge g w.heap.size with h' | h'
      · exact h'
      · rw [Array.getElem?_eq_none h'] at h; cases h
    rw [hs g hlt]; exact h
theorem tab_at {P : Program} {c : Cx} {w : World} (h : TabC P c) (hu : Unch c.M c.w0 w) : TabW P w := tab_step h.1 fun k hk => hu.block k hk (h.2 k)

/-- What a call comes to, where the table is laid. -/
def DoesT (P : Program) (f : FuncId) (avs : List AV) (hs : HP) (R : AV → HP → Prop) : Prop :=
  Ent P f ∧ ∀ F N w vs, TabW P w → RelVs N w avs vs → HOk N F w hs →
    Calls P f vs w fun e w' => ∃ v r h' F' N', e = .returned v ∧ R r h' ∧ RelV N' w' r v ∧ HOk N' F' w' h' ∧
      (∀ x, x ∈ keys h' → ∀ b, F' x b → (∃ y, y ∈ keys hs ∧ F y b) ∨ w.heap.size ≤ b) ∧
      (∀ k, k < w.heap.size → N' k → N k) ∧ (∀ k, k < w.heap.size → N k → N' k ∨ ∃ y, y ∈ keys hs ∧ F y k) ∧ Unch (fun k => ∃ y, y ∈ keys hs ∧ F y k) w w'

section
variable {P : Program} {T : Tab} {c : Cx} {F : Nat → Nat → Prop} {o : Oper} {σ : St} {K : St → Prop} {N : Nat → Prop} {a : Act} {w : World} {all r : List Oper}
variable {d : Option Tmp} {ty : TypeId} {pos : String} {af : Array Edge} {g : Option (Nat × Bool)}

theorem o_callT {f : FuncId} {avs avs1 : List AV} {hs : HP} {R : AV → HP → Prop} (ys : List Nat) (Z : List (Value × AV)) (ms : List Nat) (hcore : Core P c σ o f avs) (hct : TabC P c) (hS : DoesT P f avs1 hs R) (hz : wfrz σ.heap ys Z) (hargs : WkL Z avs1 avs) (hsrc : wsrc σ.heap ms hs) (hnd : ms.Nodup) (hym : ∀ y ∈ ys, y ∉ ms)
    (hK : ∀ r h', R r h' → AfterCall o σ K ys ms r h') : OpOk P c o σ K := by
  intro F N a w hr next Q hn
  obtain ⟨he, hS⟩ := hS
  obtain ⟨args, hrun, hrel⟩ := hcore he F N a w hr
  let lent : Nat → Prop := fun k => ∃ y, y ∈ ys ∧ y ∈ keys σ.heap ∧ F y k
  let N1 : Nat → Prop := fun k => N k ∧ ¬ lent k
  let Fc : Nat → Nat → Prop := fun x => F (srcK ms hs x)
  have hZ : ∀ v av, (v, av) ∈ Z → RelV N1 w av v := by
    intro v av hm
    obtain ⟨y, o, h1, h2, h3⟩ := wfrz_mem hz v av hm
    exact (hr.heap.own y v o h2).freeze h3 (fun k hk => ⟨hk.1, fun hF => hk.2 ⟨y, h1, get_mem_keys h2, hF⟩⟩)
  have hvs : RelVs N1 w avs1 args := by
    obtain ⟨h1, h2⟩ := hrel F N w hr
    obtain ⟨h3, h4⟩ := hargs.get
    refine ⟨by rw [h1, h3], fun i av v h5 h6 => ?_⟩
    obtain ⟨b, h7, h8⟩ := h4 i av h5
    exact h8.rel hZ ((h2 i b v h7 h6).mono (.refl N w) (fun _ _ h => h.1))
  have hsk : ∀ x, x ∈ keys hs → srcK ms hs x ∈ ms ∧ srcK ms hs x ∈ keys σ.heap := fun x hx => by
    obtain ⟨⟨v, o⟩, ho⟩ := mem_keys_get hx
    obtain ⟨h1, h2⟩ := wsrc_get hsrc x v o ho
    exact ⟨h1, get_mem_keys h2⟩
  have hnl : ∀ y, y ∈ keys σ.heap → y ∉ ys → ∀ b, F y b → ¬ lent b := by
    rintro y hy hyys b hb ⟨z, h1, h2, h3⟩
    exact hr.heap.disj y z hy h2 (by rintro rfl; exact hyys h1) b hb h3
  have hho : HOk N1 Fc w hs := by
    refine ⟨fun x v o hx => ?_, fun x hx b hb => ?_, fun x y hx hy hne b hb hb' => ?_, fun x v o hx => hr.heap.one _ v o (wsrc_get hsrc x v o hx).2⟩
    · exact (hr.heap.own _ v o (wsrc_get hsrc x v o hx).2).mono (.refl N w) (fun _ _ h => h.1) (fun _ _ _ => rfl)
    · obtain ⟨h1, h2⟩ := hsk x hx
      obtain ⟨h3, h4⟩ := hr.heap.foot _ h2 b hb
      exact ⟨⟨h3, hnl _ h2 (fun h => hym _ h h1) b hb⟩, h4⟩
    · exact hr.heap.disj _ _ (hsk x hx).2 (hsk y hy).2 (fun e => hne (srcK_inj hsrc hnd x y hx hy e)) b hb hb'
  unfold Oper.wp; rw [hrun w]
  refine (hS Fc N1 w args (tab_at hct hr.unch) hvs hho).mono ?_
  rintro e w' ⟨v, r, h', F', N', rfl, hR, hv, hh', hmay, hN1, hN2, hU⟩
  obtain ⟨r', hN, hwk, hmap, hndN, hnd', hdis, hcl, hd, hk⟩ := hK r h' hR
  let N2 : Nat → Prop := fun k => N' k ∨ lent k
  let F2 : Nat → Nat → Prop := fun x => @ite _ (x ∈ keys hN) (Classical.propDecidable _) (F' (back hN h' x)) (F x)
  have hM : ∀ k, (∃ y, y ∈ keys hs ∧ Fc y k) → ∃ y, y ∈ ms ∧ y ∈ keys σ.heap ∧ F y k := by
    rintro k ⟨y, h1, h2⟩
    exact ⟨_, (hsk y h1).1, (hsk y h1).2, h2⟩
  have hMN : ∀ k, (∃ y, y ∈ keys hs ∧ Fc y k) → N k := fun k h => let ⟨y, _, h2, h3⟩ := hM k h; (hr.heap.foot y h2 k h3).1
  have hL : Later N w w' := ⟨hU.size, fun k hk hNk => hU.block k hk (fun h => hNk (hMN k h))⟩
  have hN2N : ∀ k, k < w.heap.size → N2 k → N k := by
    rintro k hk (h | ⟨y, _, h2, h3⟩)
    · exact (hN1 k hk h).1
    · exact (hr.heap.foot y h2 k h3).1
  have hbk : ∀ x, x ∈ keys hN → back hN h' x ∈ keys h' := fun x hx => by
    obtain ⟨y, hy⟩ := mem_keys_get hx
    exact get_mem_keys (back_get hmap hnd' hy)
  have hrest : ∀ x, x ∈ keys (minus σ.heap ms) → x ∉ keys hN := fun x hx h => has_no (hdis x h) hx
  have hFb : ∀ x, x ∈ keys hN → ∀ b, F2 x b → F' (back hN h' x) b := fun x hx b hb => by simpa [F2, hx] using hb
  have hFo : ∀ x, x ∉ keys hN → ∀ b, F2 x b → F x b := fun x hx b hb => by simpa [F2, hx] using hb
  have hkeys : ∀ x, x ∈ keys (hN ++ minus σ.heap ms) → x ∈ keys hN ∨ (x ∉ keys hN ∧ x ∈ keys (minus σ.heap ms)) := fun x hx => by
    obtain ⟨y, hy⟩ := mem_keys_get hx
    rcases get_append hy with h | ⟨h1, h2⟩
    · exact .inl (get_mem_keys h)
    · exact .inr ⟨h1, get_mem_keys h2⟩
  have hold : ∀ x, x ∈ keys (minus σ.heap ms) → ∀ b, F x b → ¬ ∃ y, y ∈ keys hs ∧ Fc y b := by
    rintro x hx b hb h
    obtain ⟨y, h1, h2, h3⟩ := hM b h
    obtain ⟨h4, h5⟩ := mem_minus hx
    exact hr.heap.disj x y h5 h2 (by rintro rfl; exact h4 h1) b hb h3
  refine hn _ F2 N2 _ _ hk (Rel.put ?_ (dok_ok hd) ?_)
  · refine ⟨hr.defers, hr.size, fun k av hk => ?_, ⟨fun x u o hx => ?_, fun x hx b hb => ?_, fun x y hx hy hne b hb hb' => ?_, fun x u o hx => ?_⟩, fun x hx b hb => ?_, fun k hk h0 => ?_, ?_⟩
    · obtain ⟨u, h1, h2⟩ := hr.slots k av hk
      exact ⟨u, h1, h2.mono hL hN2N⟩
    · rcases get_append hx with hx | ⟨h1, hx⟩
      · have hxk := get_mem_keys hx
        have h3 := hh'.own _ u o (back_get hmap hnd' hx)
        have e : F2 x = F' (back hN h' x) := by simp only [F2, hxk, if_true]
        rw [e]
        rcases hcl with rfl | ⟨_, hcl⟩
        · refine h3.mono (.refl N' w') (fun i _ h => ?_) (fun _ _ _ => rfl)
          rcases h with h | ⟨y, h, _⟩
          · exact h
          · cases h
        · exact (hcl _ (get_mem (back_get hmap hnd' hx))).own h3
      · obtain ⟨h2, h3⟩ := get_minus hx
        have e : F2 x = F x := by simp only [F2, h1, if_false]
        rw [e]
        exact (hr.heap.own x u o h3).mono hL hN2N (fun k hk hF => hU.block k hk (hold x (get_mem_keys hx) k hF))
    · rcases hkeys x hx with h | ⟨h1, h2⟩
      · obtain ⟨h3, h4⟩ := hh'.foot _ (hbk x h) b (hFb x h b hb)
        exact ⟨.inl h3, h4⟩
      · have hF := hFo x h1 b hb
        obtain ⟨h3, h4⟩ := mem_minus h2
        obtain ⟨h5, h6⟩ := hr.heap.foot x h4 b hF
        refine ⟨?_, Nat.lt_of_lt_of_le h6 hU.size⟩
        by_cases hl : lent b
        · exact .inr hl
        · exact .inl ((hN2 b h6 ⟨h5, hl⟩).resolve_right (hold x h2 b hF))
    · have mix : ∀ x y, x ∈ keys hN → y ∉ keys hN → y ∈ keys (minus σ.heap ms) → F2 x b → F2 y b → False := by
        intro x y h1 h2 h3 h4 h5
        have hF := hFo y h2 b h5
        rcases hmay _ (hbk x h1) b (hFb x h1 b h4) with h6 | h6
        · exact hold y h3 b hF h6
        · have := (hr.heap.foot y (mem_minus h3).2 b hF).2; omega
      rcases hkeys x hx with h | ⟨h1, h2⟩ <;> rcases hkeys y hy with h' | ⟨h1', h2'⟩
      · exact hh'.disj _ _ (hbk x h) (hbk y h') (fun e => hne (back_inj hmap hnd' h h' e)) b (hFb x h b hb) (hFb y h' b hb')
      · exact mix x y h h1' h2' hb hb'
      · exact mix y x h' h1 h2 hb' hb
      · exact hr.heap.disj x y (mem_minus h2).2 (mem_minus h2').2 hne b (hFo x h1 b hb) (hFo y h1' b hb')
    · rcases get_append hx with hx | ⟨h1, hx⟩
      · exact hh'.one _ u o (back_get hmap hnd' hx)
      · exact hr.heap.one x u o (get_minus hx).2
    · rcases hkeys x hx with h | ⟨h1, h2⟩
      · rcases hmay _ (hbk x h) b (hFb x h b hb) with h3 | h3
        · obtain ⟨y, _, h4, h5⟩ := hM b h3
          exact hr.may y h4 b h5
        · exact .inr (Nat.le_trans hr.unch.size h3)
      · exact hr.may x (mem_minus h2).2 b (hFo x h1 b hb)
    · rcases hr.n0 k hk h0 with h1 | h1
      · have hkw : k < w.heap.size := Nat.lt_of_lt_of_le hk hr.unch.size
        by_cases hl : lent k
        · exact .inl (.inr hl)
        · rcases hN2 k hkw ⟨h1, hl⟩ with h2 | h2
          · exact .inl (.inl h2)
          · obtain ⟨y, _, h4, h5⟩ := hM k h2
            rcases hr.may y h4 k h5 with h6 | h6
            · exact .inr h6
            · omega
      · exact .inr h1
    · refine hr.unch.trans hU ?_
      intro k hk hm
      obtain ⟨y, _, h4, h5⟩ := hM k hm
      exact (hr.may y h4 k h5).resolve_right (by omega)
  · have hv' : RelV N2 w' r v := by
      rcases hcl with rfl | ⟨hs', _⟩
      · refine hv.mono (.refl N' w') (fun i _ h => ?_)
        rcases h with h | ⟨y, h, _⟩
        · exact h
        · cases h
      · exact hs'.rel hv
    exact hwk.rel (fun v av h => by cases h) hv'

theorem o_callTR {f : FuncId} {avs avs1 : List AV} {r0 : AV} (ys : List Nat) (Z : List (Value × AV)) (hcore : Core P c σ o f avs) (hct : TabC P c) (hS : DoesT P f avs1 [] (ret r0)) (hz : wfrz σ.heap ys Z) (hargs : WkL Z avs1 avs) (hc : ys = [] ∨ Scal r0) (hd : dok o.dst σ.nt = true) (hK : K (σ.put o.dst r0)) : OpOk P c o σ K := by
  refine o_callT ys Z [] hcore hct hS hz hargs trivial List.nodup_nil (fun y _ h => by cases h) ?_
  rintro r h' ⟨rfl, rfl⟩
  refine ⟨r, [], .refl _, rfl, List.nodup_nil, List.nodup_nil, fun x hx => (by cases hx), hc.imp id (fun h => ⟨h, fun p hp => (by cases hp)⟩), hd, ?_⟩
  rw [minus_nil]; exact hK

theorem doesT_of_good (hT : TabOk P T) {f : FuncId} {fn : Func} {body : Code} {avs : List AV} {R : AV → HP → Prop} (hf : P.funcs[f]? = some fn) (hb : fn.body = some body) (hname : (fn.name == "runtime.NumGoroutine") = false)
    (hn : avs.length ≤ fn.ntmps) (hg : ∀ c : Cx, TabC P c → Good P c body ⟨fn.ntmps, slotsOf 0 avs, []⟩ (endQ T fn R))   : DoesT P f avs [] R := by
  refine ⟨⟨fn, hf, by rw [hb]; rfl, hname⟩, fun F N w vs htab hvs hh => ?_⟩
  refine calls_of_wp hf hb ?_
  let c : Cx := ⟨w, fun k => ∃ y, y ∈ keys ([] : HP) ∧ F y k, N⟩
  have hr : Rel c F N ⟨fn.ntmps, slotsOf 0 avs, []⟩ { tmps := vs ++ Array.replicate (fn.ntmps - vs.size) undef, defers := [] } w := by
    refine ⟨rfl, by simp [hvs.1]; omega, fun k av hk => ?_, hh, fun x hx b hb => .inl ⟨x, hx, hb⟩, fun _ _ h => .inl h, .refl _ _⟩
    obtain ⟨_, h1⟩ := slotsOf_get 0 avs k av hk
    simp only [Nat.sub_zero] at h1
    have hk : k < vs.size := by
      rw [hvs.1]
      rcases Nat.lt_or_ge k avs.length with h' | h'
      · exact h'
      · rw [List.getElem?_eq_none h'] at h1; cases h1
    exact ⟨vs[k], by simp [Array.getElem?_append_left hk, hk], hvs.2 k av _ h1 (by simp [hk])⟩
  refine wp_mono (hg c ⟨htab, fun k ⟨y, hy, _⟩ => by cases hy⟩ F N _ w hr) ?_
  rintro e a' w' ⟨σ', F', N', hq, hr'⟩
  have hfin : EndOk T fn R σ' →
      a'.defers = [] ∧ ∃ v, (results fn a'.tmps).run P w' = .ok v w' ∧ ∃ u r h' F' N', Ending.returned v = .returned u ∧ R r h' ∧ RelV N' w' r u ∧ HOk N' F' w' h' ∧
      (∀ x, x ∈ keys h' → ∀ b, F' x b → (∃ y, y ∈ keys ([] : HP) ∧ F y b) ∨ w.heap.size ≤ b) ∧
      (∀ k, k < w.heap.size → N' k → N k) ∧ (∀ k, k < w.heap.size → N k → N' k ∨ ∃ y, y ∈ keys ([] : HP) ∧ F y k) ∧ Unch (fun k => ∃ y, y ∈ keys ([] : HP) ∧ F y k) w w' := by
    rintro ⟨l, ms, h', hres, hwh, hnd, hR⟩
    refine ⟨hr'.defers, ?_⟩
    obtain ⟨us, h1, h2, h3⟩ := res_run hT hr' (fun | .tmp t => pure (a'.tmps.getD t undef) | .cell x t => do loadVar t (← asAddr (a'.tmps.getD x undef))) (fun _ => rfl) (fun _ _ => rfl) hres
    let F2 : Nat → Nat → Prop := fun x => match srcs ms h' x with | some y => F' y | none => fun _ => False
    let N1 : Nat → Prop := fun k => (k < w.heap.size ∧ N' k ∧ N k) ∨ (∃ x, x ∈ keys h' ∧ F2 x k)
    have hFk : ∀ x, x ∈ keys h' → ∀ b, F2 x b → ∃ y, srcs ms h' x = some y ∧ y ∈ ms.filterMap id ∧ y ∈ keys σ'.heap ∧ F' y b := by
      intro x hx b hb
      obtain ⟨⟨v, o1⟩, ho⟩ := mem_keys_get hx
      rcases wheap_get hwh x v o1 ho with ⟨h1, _⟩ | ⟨y, o, h1, h2, h3, _⟩
      · simp only [F2, h1] at hb
      · simp only [F2, h1] at hb
        exact ⟨y, h1, h2, get_mem_keys h3, hb⟩
    have hsub : ∀ k, k < w'.heap.size → N1 k → N' k := by
      rintro k hk (⟨_, h, _⟩ | ⟨x, hx, hF⟩)
      · exact h
      · obtain ⟨y, _, _, h4, h5⟩ := hFk x hx k hF
        exact (hr'.heap.foot y h4 k h5).1
    have hview : ∀ {av : AV} {v : Value}, RelV N' w' av v → RelV N1 w' av v := fun h => h.mono (.refl N' w') hsub
    refine ⟨if us.length = 1 then us.headD undef else .tuple us.toArray, ?_, _, resV l, h', F2, N1, rfl, hR, ?_, ⟨fun x v o1 hx => ?_, fun x hx b hb => ?_, fun x x' hx hx' hne b hb hb' => ?_, fun x v o1 hx => ?_⟩, fun x hx b hb => ?_, fun k hk hN => ?_, fun k hk hN => ?_, hr'.unch⟩
    · unfold results
      rw [Sem.run_bind, Array.mapM_eq_mapM_toList, Sem.run_map]
      have h2' : Sem.run P (List.mapM (fun x : ResultVar => match x with | .tmp t => (pure (a'.tmps.getD t undef) : Sem Value) | .cell a t => do loadVar t (← asAddr (a'.tmps.getD a undef))) fn.results.toList) w' = .ok us w' := h2
      erw [h2']
      simp only [Result.andThen_ok, Sem.run_pure]
      congr 1
      match us with
      | [] => simp
      | [u] => simp
      | u :: v :: r => simp
    · match l, us, h1 with
      | [], [], _ => exact .tup _ _ rfl (fun i av v h => by simp at h)
      | [v], [u], _ => simpa [resV] using hview (h3 0 v u rfl rfl)
      | v :: v2 :: r, u :: u2 :: s, h1 =>
        simp only [resV]
        rw [if_neg (by simp)]
        refine .tup _ _ (by simpa using h1) (fun i av x h4 h5 => ?_)
        exact hview (h3 i av x h4 (by simpa using h5))
    · rcases wheap_get hwh x v o1 hx with ⟨h1, rfl, t, sz, rfl⟩ | ⟨y, o, h1, h2, h3, h4⟩
      · exact .osl0 _ t sz
      · have e : F2 x = F' y := by simp only [F2, h1]
        rw [e]
        exact (h4.own (Z := []) (fun v av h => by cases h) (hr'.heap.own y v o h3)).mono (.refl N' w') hsub (fun _ _ _ => rfl)
    · obtain ⟨y, h1, h2, h3, h4⟩ := hFk x hx b hb
      exact ⟨.inr ⟨x, hx, hb⟩, (hr'.heap.foot y h3 b h4).2⟩
    · obtain ⟨y, h1, h2, h3, h4⟩ := hFk x hx b hb
      obtain ⟨y', h5, h6, h7, h8⟩ := hFk x' hx' b hb'
      exact hr'.heap.disj y y' h3 h7 (by rintro rfl; exact hne (srcs_inj hwh hnd x x' y h1 h5)) b h4 h8
    · rcases wheap_get hwh x v o1 hx with ⟨h1, rfl, t, sz, rfl⟩ | ⟨y, o, h1, h2, h3, h4⟩
      · rfl
      · exact hr'.heap.one y v o h3
    · obtain ⟨y, h1, h2, h3, h4⟩ := hFk x hx b hb
      exact hr'.may y h3 b h4
    · rcases hN with ⟨_, _, h⟩ | ⟨x, hx, hF⟩
      · exact h
      · obtain ⟨y, h1, h2, h3, h4⟩ := hFk x hx k hF
        rcases hr'.may y h3 k h4 with ⟨z, h5, h6⟩ | h5
        · exact (hh.foot z h5 k h6).1
        · have h5 : w.heap.size ≤ k := h5
          omega
    · rcases hr'.n0 k hk hN with h | h
      · exact .inl (.inl ⟨hk, h, hN⟩)
      · exact .inr h
  cases e with
  | normal => exact hfin hq
  | ret => exact hfin hq
  | _ => exact hq.elim

theorem law_walkT {f : FuncId} {avs : List AV} {args : Array Value} {W : World} (hT : TabW P W) (hD : DoesT P f avs [] (ret (.bool true))) (hr : RelVs (fun _ => False) W avs args) :
    Calls P f args W fun e W' => e = .returned (.bool true) ∧ RowKit.Below W.heap.size W W' := by
  refine (hD.2 (fun _ _ => False) (fun _ => False) W args hT hr ⟨(fun x v o h => by cases h), (fun x h => by cases h), (fun x y h => by cases h), (fun x v o h => by cases h)⟩).mono ?_
  rintro e w' ⟨v, r, h', F', N', rfl, ⟨rfl, rfl⟩, hv, _, _, _, _, hu⟩
  cases hv
  exact ⟨rfl, hu.os, hu.tape, hu.output, hu.size, fun k hk => hu.block k hk (by simp [keys])⟩
end
end Go.Bb

namespace Go.Proofs.YtopbbjoflopjbaaDoor
open Go.Bb
theorem itoa_len (n : Int) (h0 : -9223372036854775808 ≤ n) (h1 : n ≤ 9223372036854775807) : (Lib.itoa n).length ≤ maxLen := by
  have hd : ∀ m u : Nat, u < 10 ^ (m + 1) → (Lib.decDigits u).length ≤ m + 1 := by
    intro m
    induction m with
    | zero => intro u hu; rw [Lib.decDigits, dif_pos (by omega)]; simp
    | succ m ih =>
      intro u hu
      rw [Lib.decDigits]
      split
      · simp
      · have := ih (u / 10) (by rw [Nat.pow_succ] at hu; omega)
        simp; omega
  have hm : maxLen = 9223372036854775807 := rfl
  unfold Lib.itoa
  split
  · have := hd 19 n.natAbs (by omega)
    simp only [List.length_cons]; omega
  · have := hd 19 n.toNat (by omega)
    omega
def m_strconv_Itoa (a0 : Int) : Option Bs := if -9223372036854775808 ≤ a0 ∧ a0 ≤ 9223372036854775807 then some (Lib.itoa a0) else none
theorem m_strconv_Itoa_ok : ∀ (a0 : Int) (r : Bs), m_strconv_Itoa a0 = some r → DoesT Tryd.prog 27 [.int .i64 a0] [] (ret (.str r)) := by
  intro a0 r h
  unfold m_strconv_Itoa at h
  split at h
  · rename_i hb
    obtain rfl := Option.some.inj h
    refine ⟨⟨_, Tryd.func27, by kernel_rfl, by kernel_rfl⟩, fun F N w vs htab hvs hh => ?_⟩
    obtain rfl : vs = #[.int .i64 a0] := by
      obtain ⟨h1, h2⟩ := hvs
      have hl : vs.size = 1 := h1
      have := h2 0 _ vs[0] rfl (by simp [hl])
      cases hv : vs[0]'(by omega) with
      | int k n =>
        rw [hv] at this
        cases this
        apply Array.ext
        · simpa using hl
        · intro i hi hi'
          have : i = 0 := by simp at hi'; omega
          subst this
          simpa using hv
      | _ => rw [hv] at this; cases this
    refine (Any.strconv_Itoa Tryd.laysItoa a0 hb.1 hb.2 w htab).mono ?_
    rintro e w' ⟨rfl, k, os, rfl⟩
    have hu : Unch (fun _ => False) w (Go.Sort.grow (w.drewN k) os) := ⟨rfl, rfl, rfl, by simp [Go.Sort.grow, World.drewN], fun k hk _ => by
      simp only [Go.Sort.grow, World.drewN]
      rw [Array.getElem?_append_left hk]⟩
    refine ⟨_, _, [], F, N, rfl, ⟨rfl, rfl⟩, .str _ (itoa_len a0 hb.1 hb.2), ⟨(fun x v o h => by cases h), (fun x h => by cases h), (fun x y h => by cases h), (fun x v o h => by cases h)⟩, (fun x h => by cases h), fun _ _ h => h, fun _ _ h => .inl h, hu.os, hu.tape, hu.output, hu.size, fun k hk _ => hu.block k hk (fun h => h)⟩
  · cases h
end Go.Proofs.YtopbbjoflopjbaaDoor
