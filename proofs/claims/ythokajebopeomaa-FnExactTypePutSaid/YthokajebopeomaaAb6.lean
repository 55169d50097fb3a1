/- What calls leave; the conditions stand in each theorem. -/
import Derived.Test.YthokajebopeomaaAb5
set_option linter.unusedVariables false
set_option linter.unusedSimpArgs false
namespace Go.Ab

section
variable {P : Program} {T : Tab} {c : Cx} {o : Oper} {σ : St} {K : St → Prop} {N : Nat → Prop} {a : Act} {w : World} {next : Act → World → Prop} {Q : Exit → Act → World → Prop}

theorem upon_enter_ok {f : FuncId} {args : Array Value} {w' : World} (h : (execOp a.eval o).run P w = .ok (.enter f args) w')
    (hc : Calls P f args w' fun e w'' => ∃ v, e = .returned v ∧ next (a.put o.dst v) w'') : o.wp P a w next Q := by
  unfold Oper.wp; rw [h]
  refine hc.mono ?_
  rintro e w'' ⟨v, rfl, hn⟩
  exact hn

theorem run_call {f : FuncId} (he : Ent P f) (args : Array Value) (w : World) : (callFunc f args).run P w = .ok (.enter f args) w := by
  obtain ⟨fn, h1, h2, h3⟩ := he
  unfold callFunc
  have h4 : ¬ ((fn.name == "runtime.NumGoroutine") = true) := by rw [h3]; simp
  have h5 : ¬ (fn.body.isNone = true) := by rw [h2]; simp
  simp only [Sem.run_bind, run_program, Result.andThen_ok, h1, if_neg h4, if_neg h5]
  rfl

theorem Ent_simp {f : FuncId} (he : Ent P f) (cl : Call) (x : Operand) (hcl : cl.callee = .value x) (ρ : Operand → Value) (caps : Array Value) (hx : ρ x = .func (.func f) #[] caps) (t : TypeId) (w : World) :
    (do let d ← resolve ρ cl t; invoke d.target d.args : Sem Next).run P w = .ok (.enter f (cl.args.map ρ ++ caps)) w := by
  simp [resolve, hcl, Deferred.ofValue, hx, invoke, run_call he]

/-- What a call is handed. -/
theorem call_core {f : FuncId} {avs : List AV} {cl : Call} {x : Operand} {caps : List AV} (ho : o.op = .call cl) (hcl : cl.callee = .value x) (hx : evA σ x = some (.clo (.func f) caps)) (ha : evAs σ cl.args.toList = some avs)
    (hr : Rel c N σ a w) (he : Ent P f) : ∃ args, (∀ w', (execOp a.eval o).run P w' = .ok (.enter f args) w') ∧ ∀ N' w', Rel c N' σ a w' → RelVs N' w' (avs ++ caps) args := by
  have hv := evA_rel hr hx
  generalize hav : a.eval x = v at hv
  cases hv with
  | clo fn caps' vs hl hc =>
    refine ⟨cl.args.map a.eval ++ vs, fun w' => ?_, fun N' w' hr' => ?_⟩
    · have := Ent_simp he cl x hcl a.eval vs hav o.type w'
      simp only [execOp, ho]
      exact this
    · have hv' := evA_rel hr' hx
      rw [hav] at hv'
      cases hv' with
      | clo fn caps' vs hl hc =>
        obtain ⟨hl2, hargs⟩ := evAs_rel hr' _ ha
        refine ⟨by simp [hl, hl2], fun i av v h1 h2 => ?_⟩
        rcases Nat.lt_or_ge i avs.length with h3 | h3
        · rw [List.getElem?_append_left h3] at h1
          have h4 : i < cl.args.size := by simpa using (by omega : i < cl.args.toList.length)
          rw [Array.getElem?_append_left (by simpa using h4)] at h2
          have h5 : cl.args.toList[i]? = some cl.args[i] := by simp [h4]
          have h6 : v = a.eval cl.args[i] := by simp [h4] at h2; exact h2.symm
          rw [h6]; exact hargs i av _ h1 h5
        · rw [List.getElem?_append_right h3] at h1
          have h4 : cl.args.size ≤ i := by simpa using (by omega : cl.args.toList.length ≤ i)
          rw [Array.getElem?_append_right (by simpa using h4)] at h2
          have h5 : cl.args.size = avs.length := by simpa using hl2.symm
          simp only [Array.size_map, h5] at h2
          exact hc _ av v h1 h2

theorem call_ok {f : FuncId} {avs : List AV} {cl : Call} {x : Operand} {caps : List AV} (ho : o.op = .call cl) (hcl : cl.callee = .value x) (hx : evA σ x = some (.clo (.func f) caps)) (ha : evAs σ cl.args.toList = some avs)
    (hr : Rel c N σ a w) {hs : List (Nat × HO)} {R : AV → List (Nat × HO) → Prop} {avs' : List AV} (hS : Does P f avs' hs R)
    (N1 : Nat → Prop) (hvs : ∀ vs, RelVs N w (avs ++ caps) vs → RelVs N1 w avs' vs) (hh : ∀ b o, getk b hs = some o → N1 b ∧ RelO N1 w b o)
    (hn : ∀ v r h' N' w', R r h' → RelV N' w' r v → (∀ b o, getk b h' = some o → N' b ∧ (b ∈ keys hs ∨ w.heap.size ≤ b) ∧ RelO N' w' b o) → (∀ k, k < w.heap.size → (N1 k ↔ N' k)) → Unch (fun k => k ∈ keys hs) w w' → next (a.put o.dst v) w') :
    o.wp P a w next Q := by
  obtain ⟨he, hS⟩ := hS
  obtain ⟨args, h1, h2⟩ := call_core ho hcl hx ha hr he
  refine upon_enter_ok (w' := w) (h1 w) ?_
  refine (hS N1 w _ (hvs _ (h2 N w hr)) hh).mono ?_
  rintro e w' ⟨v, r, h', N', rfl, h1, h2, h3, h4, h5⟩
  exact ⟨v, rfl, hn v r h' N' w' h1 h2 h3 h4 h5⟩

theorem mem_keys_get {α : Type} {k : Nat} : ∀ {l : List (Nat × α)}, k ∈ keys l → ∃ x, getk k l = some x
  | [], h => by simp [keys] at h
  | (i, y) :: l, h => by
    simp only [getk]
    by_cases hi : i = k
    · exact ⟨y, by simp [hi]⟩
    · simp only [hi, if_false]
      exact mem_keys_get (by simp only [keys, List.map_cons, List.mem_cons] at h; exact h.resolve_left (fun h => hi h.symm))

theorem nil0_rel {av : AV} {v : Value} (h : RelV N w av v) : RelV N w (nil0 av) v := by
  cases h <;> first | exact .slNil | (unfold nil0; constructor <;> assumption) | (unfold nil0; constructor)
theorem nilA_rel {av : AV} {v : Value} (h : RelV N w av v) : RelV N w (nilA av) v := by
  unfold nilA
  split
  · exact nil0_rel h
  · rename_i cs
    cases h with
    | agg cs vs hl h =>
      refine .agg _ _ (by simp [hl]) (fun i av v h1 h2 => ?_)
      rw [List.getElem?_map] at h1
      obtain ⟨x, h3, rfl⟩ := Option.map_eq_some_iff.1 h1
      exact nil0_rel (h i x v h3 h2)
  · exact h
theorem nilAs_rel {avs : List AV} {vs : Array Value} (h : RelVs N w avs vs) : RelVs N w (avs.map nilA) vs := by
  refine ⟨by simp [h.1], fun i av v h1 h2 => ?_⟩
  rw [List.getElem?_map] at h1
  obtain ⟨x, h3, rfl⟩ := Option.map_eq_some_iff.1 h1
  exact nilA_rel (h.2 i x v h3 h2)

theorem callN_ok {f : FuncId} {avs : List AV} {cl : Call} {x : Operand} {caps : List AV} (ho : o.op = .call cl) (hcl : cl.callee = .value x) (hx : evA σ x = some (.clo (.func f) caps)) (ha : evAs σ cl.args.toList = some avs)
    (hr : Rel c N σ a w) (h : CallN P o σ K f ((avs ++ caps).map nilA)) (hn : ∀ σ' N' a' w', K σ' → Rel c N' σ' a' w' → next a' w') : o.wp P a w next Q := by
  obtain ⟨hs, R, hS, hsub, hK⟩ := h
  have hg : ∀ b o, getk b hs = some o → getk b σ.heap = some o := subs_get hsub
  refine call_ok ho hcl hx ha hr hS N (fun vs h => nilAs_rel h) (fun b o hb => let ⟨h1, _, h3⟩ := hr.heap b o (hg b o hb); ⟨h1, h3⟩) ?_
  intro v r h' N' w' hR hv hh hN hU
  have hN2 : ∀ k, k < w.heap.size → N' k → N k := fun k hk h => (hN k hk).2 h
  have hkeys : ∀ k, k ∈ keys hs → k < w.heap.size ∧ N k := by
    intro k hk
    obtain ⟨o, ho⟩ := mem_keys_get hk
    obtain ⟨h1, _, h3⟩ := hr.heap k o (hg k o ho)
    exact ⟨h3.lt, h1⟩
  have hdj : Dj h' (minus σ.heap (keys hs)) := by
    intro k hk hk'
    obtain ⟨o, ho⟩ := mem_keys_get hk
    obtain ⟨o', ho'⟩ := mem_keys_get hk'
    obtain ⟨h1, h2⟩ := get_minus ho'
    obtain ⟨_, h4, _⟩ := hh k o ho
    rcases h4 with h4 | h4
    · exact h1 h4
    · have := (hr.heap k o' h2).2.2.lt; omega
  obtain ⟨hd, hk⟩ := hK r h' hR hdj
  have hL : Later N w w' := ⟨hU.size, fun k hk hN' => hU.block k hk (fun h => hN' (hkeys k h).2)⟩
  refine hn _ N' _ _ hk (Rel.put ?_ (dok_ok hd) hv)
  refine ⟨hr.defers, hr.size, fun k av hk => ?_, ?_, fun k hk h0 => (hN k (Nat.lt_of_lt_of_le hk hr.unch.size)).1 (hr.n0 k hk h0), ?_⟩
  · obtain ⟨v, h1, h2⟩ := hr.slots k av hk
    exact ⟨v, h1, h2.mono hL hN2⟩
  · intro b o hb
    rcases get_append hb with hb | ⟨_, hb⟩
    · obtain ⟨h1, h2, h3⟩ := hh b o hb
      refine ⟨h1, ?_, h3⟩
      rcases h2 with h2 | h2
      · obtain ⟨o', ho'⟩ := mem_keys_get h2
        exact (hr.heap b o' (hg b o' ho')).2.1
      · exact .inr (Nat.le_trans hr.unch.size h2)
    · obtain ⟨h1, h2⟩ := get_minus hb
      obtain ⟨h3, h4, h5⟩ := hr.heap b o h2
      exact ⟨(hN b h5.lt).1 h3, h4, h5.mono hL hN2 (hU.block b h5.lt h1)⟩
  · refine hr.unch.trans hU ?_
    intro i hi hk
    obtain ⟨o, ho⟩ := mem_keys_get hk
    exact (hr.heap i o (hg i o ho)).2.1.resolve_right (by omega)

theorem chunk_length {α : Type} (n : Nat) : ∀ (m : Nat) (l : List α), (chunk n m l).length = m
  | 0, _ => rfl
  | m + 1, l => by simp [chunk, chunk_length n m]

theorem chunk_get {α : Type} (n : Nat) : ∀ (m : Nat) (l : List α) (i : Nat), i < m → (chunk n m l)[i]? = some ((l.drop (i * n)).take n)
  | 0, _, i, h => by omega
  | m + 1, l, 0, _ => by simp [chunk]
  | m + 1, l, i + 1, h => by
    simp only [chunk, List.getElem?_cons_succ]
    rw [chunk_get n m _ i (by omega), List.drop_drop, Nat.add_mul, Nat.one_mul, Nat.add_comm]

theorem view_rel (hr : Rel c N σ a w) {av : AV} {v : Value} (h : RelV N w av v) (T : Tab) : RelV (fun k => N k ∧ k ∉ keys σ.heap) w (viewA T σ av) v := by
  have hm : ∀ {x : AV} {u : Value}, RelV N w x u → RelV (fun k => N k ∧ k ∉ keys σ.heap) w x u := fun h => h.mono (.refl N w) (fun i _ h => h.1)
  unfold viewA
  split
  · rename_i b n cap
    split
    · rename_i t size cs hg
      split
      · rename_i sz hsz
        split
        · rename_i hlen
          cases h with
          | ref b n cap hc hm' =>
            obtain ⟨_, _, arr, h1, h2, h3, h4⟩ := hr.heap b _ hg
            have hl : (chunk sz n cs).length = n := chunk_length sz n cs
            have := RelV.sl (N := fun k => N k ∧ k ∉ keys σ.heap) (w := w) (chunk sz n cs) ⟨b, 0, none⟩ cap sz (fun i j => arr.getD (i * sz + j) undef) (fun _ => rfl) (by omega) hm' ?_ ?_ ?_
            · rw [hl] at this; exact this
            · intro i row hi
              have hin : i < n := by
                rcases Nat.lt_or_ge i n with h' | h'
                · exact h'
                · rw [List.getElem?_eq_none (by omega)] at hi; cases hi
              rw [chunk_get sz n cs i hin] at hi
              cases hi
              have : (i + 1) * sz ≤ n * sz := Nat.mul_le_mul_right _ hin
              rw [Nat.add_mul, Nat.one_mul] at this
              simp; omega
            · intro i row j av hi hj
              have hin : i < n := by
                rcases Nat.lt_or_ge i n with h' | h'
                · exact h'
                · rw [List.getElem?_eq_none (by omega)] at hi; cases hi
              rw [chunk_get sz n cs i hin] at hi
              cases hi
              rw [List.getElem?_take] at hj
              split at hj
              · rw [List.getElem?_drop] at hj
                obtain ⟨u, h5, h6⟩ := h4 _ av hj
                refine ⟨fun h => h.2 (get_mem_keys hg), ?_⟩
                simp only [World.cell?, h1]
                simp [h5]
              · cases hj
            · intro i row j av hi hj
              have hin : i < n := by
                rcases Nat.lt_or_ge i n with h' | h'
                · exact h'
                · rw [List.getElem?_eq_none (by omega)] at hi; cases hi
              rw [chunk_get sz n cs i hin] at hi
              cases hi
              rw [List.getElem?_take] at hj
              split at hj
              · rw [List.getElem?_drop] at hj
                obtain ⟨u, h5, h6⟩ := h4 _ av hj
                simp only [Array.getD_eq_getD_getElem?, h5, Option.getD_some]
                exact hm h6
              · cases hj
        · exact hm h
      · exact hm h
    · exact hm h
  · exact hm h

theorem callV_ok {f : FuncId} {avs : List AV} {cl : Call} {x : Operand} {caps : List AV} (ho : o.op = .call cl) (hcl : cl.callee = .value x) (hx : evA σ x = some (.clo (.func f) caps)) (ha : evAs σ cl.args.toList = some avs)
    (hr : Rel c N σ a w) (h : CallV P o σ K f ((avs ++ caps).map fun v => nilA (viewA T σ v))) (hn : ∀ σ' N' a' w', K σ' → Rel c N' σ' a' w' → next a' w') : o.wp P a w next Q := by
  obtain ⟨R, hS, hK⟩ := h
  refine call_ok ho hcl hx ha hr hS (fun k => N k ∧ k ∉ keys σ.heap) (fun vs h => ⟨by simp [h.1], fun i av v h1 h2 => ?_⟩) (fun b o hb => by cases hb) ?_
  · rw [List.getElem?_map] at h1
    obtain ⟨x, h3, rfl⟩ := Option.map_eq_some_iff.1 h1
    exact nilA_rel (view_rel hr (h.2 i x v h3 h2) T)
  · intro v r h' N' w' hR hv hh hN hU
    obtain ⟨hs, hd, hk⟩ := hK r h' hR
    have hU' : Unch (fun _ => False) w w' := ⟨hU.os, hU.tape, hU.output, hU.size, fun k hk hM => hU.block k hk (by simp [keys])⟩
    have := hr.step (N' := fun k => N k ∨ N' k) hU' (fun i hi h => h.elim id (fun h => ((hN i hi).2 h).1)) (fun i h => .inl h)
    exact hn _ _ _ _ hk (this.put (dok_ok hd) (scal_rel hv hs))

end
end Go.Ab
