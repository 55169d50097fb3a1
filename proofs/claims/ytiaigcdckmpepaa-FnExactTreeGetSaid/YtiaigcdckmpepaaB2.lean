/- What a state says less than another one, and the rules by which code is walked; the conditions stand in each theorem. -/
import Derived.Test.YtiaigcdckmpepaaB1
/-! States that say less; code. -/
set_option linter.unusedVariables false
set_option linter.unusedSimpArgs false
namespace Go.Bb

/-- Whatever fits σ fits σ1. -/
def Le (σ σ1 : St) : Prop := ∀ (c : Cx) (F : Nat → Nat → Prop) (N : Nat → Prop) (a : Act) (w : World), Rel c F N σ a w → ∃ F' N', Rel c F' N' σ1 a w

theorem Le.refl (σ : St) : Le σ σ := fun _ F N _ _ h => ⟨F, N, h⟩
theorem Le.trans {a b d : St} (h : Le a b) (k : Le b d) : Le a d := fun c F N x w hr => let ⟨F', N', h'⟩ := h c F N x w hr; k c F' N' x w h'

def wslots (Z : List (Value × AV)) (s : List (Nat × AV)) : List (Nat × AV) → Prop
  | [] => True
  | (k, av1) :: r => (∃ av, getk k s = some av ∧ Wk Z av1 av) ∧ wslots Z s r
def wheap (Z : List (Value × AV)) (s : HP) : List (Option Nat) → HP → Prop
  | [], [] => True
  | none :: ms, (x, (v, o1)) :: r => (v = nilV ∧ ∃ t sz, o1 = .osl t sz []) ∧ wheap Z s ms r
  | some y :: ms, (x, (v, o1)) :: r => (∃ o, getk y s = some (v, o) ∧ Wk Z o1 o) ∧ wheap Z s ms r
  | _, _ => False
def wfrz (s : HP) : List Nat → List (Value × AV) → Prop
  | [], [] => True
  | y :: ys, (v, av) :: r => (∃ o, getk y s = some (v, o) ∧ Frz av o) ∧ wfrz s ys r
  | _, _ => False

theorem wslots_get {Z : List (Value × AV)} {s : List (Nat × AV)} : ∀ {l : List (Nat × AV)}, wslots Z s l → ∀ k av1, getk k l = some av1 → ∃ av, getk k s = some av ∧ Wk Z av1 av
  | [], _, k, av1, h => by cases h
  | (i, x) :: l, h, k, av1, hk => by
    simp only [getk] at hk
    split at hk
    · rename_i e; subst e; cases hk; exact h.1
    · exact wslots_get h.2 k av1 hk

/-- From where each comes. -/
def srcs : List (Option Nat) → HP → Nat → Option Nat
  | m :: ms, (x, _) :: r, k => if x = k then m else srcs ms r k
  | _, _, _ => none

theorem wheap_get {Z : List (Value × AV)} {s : HP} : ∀ {ms : List (Option Nat)} {l : HP}, wheap Z s ms l → ∀ k v o1, getk k l = some (v, o1) →
    (srcs ms l k = none ∧ v = nilV ∧ ∃ t sz, o1 = .osl t sz []) ∨ ∃ y o, srcs ms l k = some y ∧ y ∈ ms.filterMap id ∧ getk y s = some (v, o) ∧ Wk Z o1 o
  | [], [], _, k, v, o1, h => by cases h
  | m :: ms, (x, (v0, o0)) :: r, h, k, v, o1, hk => by
    simp only [getk] at hk
    simp only [srcs]
    by_cases e : x = k
    · rw [if_pos e] at hk ⊢
      cases hk
      cases m with
      | none => exact .inl ⟨rfl, h.1⟩
      | some y => obtain ⟨o, h1, h2⟩ := h.1; exact .inr ⟨y, o, rfl, by simp, h1, h2⟩
    · rw [if_neg e] at hk ⊢
      have hr : wheap Z s ms r := by cases m <;> exact h.2
      rcases wheap_get hr k v o1 hk with h1 | ⟨y, o, h1, h2, h3⟩
      · exact .inl h1
      · exact .inr ⟨y, o, h1, by cases m <;> simp at h2 ⊢ <;> first | exact h2 | exact .inr h2, h3⟩
  | [], _ :: _, h, _, _, _, _ => by cases h
  | _ :: _, [], h, _, _, _, hk => by cases hk

theorem srcs_inj {Z : List (Value × AV)} {s : HP} : ∀ {ms : List (Option Nat)} {l : HP}, wheap Z s ms l → (ms.filterMap id).Nodup → ∀ x x' y, srcs ms l x = some y → srcs ms l x' = some y → x = x'
  | [], [], _, _, x, x', y, h1, _ => by cases h1
  | m :: ms, (k, (v0, o0)) :: r, h, hn, x, x', y, h1, h2 => by
    have hr : wheap Z s ms r := by cases m <;> exact h.2
    have hmem : ∀ z, srcs ms r z = some y → y ∈ ms.filterMap id := by
      intro z hz
      clear h1 h2 hn h
      induction ms generalizing r with
      | nil => cases hz
      | cons m' ms ih =>
        cases r with
        | nil => cases hz
        | cons p r =>
          obtain ⟨k', v', o'⟩ := p
          simp only [srcs] at hz
          split at hz
          · subst hz; simp
          · have hr' : wheap Z s ms r := by cases m' <;> exact hr.2
            have := ih r hr' hz
            cases m' with
            | none => simpa using this
            | some q => simp only [List.filterMap_cons, id]; exact List.mem_cons_of_mem _ this
    simp only [srcs] at h1 h2
    by_cases e1 : k = x <;> by_cases e2 : k = x'
    · omega
    · rw [if_pos e1] at h1; rw [if_neg e2] at h2
      subst h1
      simp only [List.filterMap_cons, id, List.nodup_cons] at hn
      exact absurd (hmem _ h2) hn.1
    · rw [if_neg e1] at h1; rw [if_pos e2] at h2
      subst h2
      simp only [List.filterMap_cons, id, List.nodup_cons] at hn
      exact absurd (hmem _ h1) hn.1
    · rw [if_neg e1] at h1; rw [if_neg e2] at h2
      have hn' : (ms.filterMap id).Nodup := by
        cases m with
        | none => simpa using hn
        | some q => simp only [List.filterMap_cons, id, List.nodup_cons] at hn; exact hn.2
      exact srcs_inj hr hn' x x' y h1 h2
  | [], _ :: _, h, _, _, _, _, _, _ => by cases h
  | _ :: _, [], h, _, _, _, _, h1, _ => by cases h1

theorem wfrz_mem {s : HP} : ∀ {ys : List Nat} {Z : List (Value × AV)}, wfrz s ys Z → ∀ v av, (v, av) ∈ Z → ∃ y o, y ∈ ys ∧ getk y s = some (v, o) ∧ Frz av o
  | [], [], _, v, av, h => by cases h
  | y :: ys, (v0, av0) :: r, h, v, av, hm => by
    rcases List.mem_cons.1 hm with e | hm
    · cases e; obtain ⟨o, h1, h2⟩ := h.1; exact ⟨y, o, List.mem_cons_self, h1, h2⟩
    · obtain ⟨y', o, h1, h2⟩ := wfrz_mem h.2 v av hm
      exact ⟨y', o, List.mem_cons_of_mem _ h1, h2⟩
  | [], _ :: _, h, _, _, _ => by cases h
  | _ :: _, [], h, _, _, hm => by cases hm

theorem Wk.own {Z : List (Value × AV)} {N : Nat → Prop} {w : World} (hZ : ∀ v av, (v, av) ∈ Z → RelV N w av v) {S : Nat → Prop} {av : AV} {u : Value} (h : OwnV N w S av u) : ∀ {av1 : AV}, Wk Z av1 av → OwnV N w S av1 u := by
  induction h with
  | frz S av u h => intro av1 hk; exact .frz S _ _ (hk.rel hZ h)
  | osl0 S t sz => intro av1 hk; cases hk; exact .osl0 S t sz
  | osl S t sz rows b cap arr G u hb hh hsz hl hm hr hG hd hc ho ih => intro av1 hk; cases hk; exact .osl S t sz rows b cap arr G u hb hh hsz hl hm hr hG hd hc ho
  | optr S t cs b arr G u hb hh hsz hG hd hc ho ih =>
    intro av1 hk
    cases hk with
    | refl => exact .optr S t cs b arr G u hb hh hsz hG hd hc ho
    | optr hl =>
      obtain ⟨h1, h2⟩ := hl.get
      refine .optr S t _ b arr G u hb hh (by rw [h1]; exact hsz) hG hd (fun j a ha => ?_) (fun j a ha => ?_)
      · obtain ⟨x, h3, h4⟩ := h2 j a ha; exact hc j x h3
      · obtain ⟨x, h3, h4⟩ := h2 j a ha; exact ih j x h3 h4

/-- The general way to say less: slots forgotten, names changed, what is owned given away to be read. -/
theorem le_of (ys : List Nat) (Z : List (Value × AV)) (ms : List (Option Nat)) {σ : St} {nt : Nat} {s : List (Nat × AV)} {h : HP} (hnt : σ.nt = nt) (hz : wfrz σ.heap ys Z) (hs : wslots Z σ.slots s) (hh : wheap Z σ.heap ms h)
    (hn : (ms.filterMap id).Nodup) (hy : ∀ y ∈ ys, y ∉ ms.filterMap id) : Le σ ⟨nt, s, h⟩ := by
  intro c F N a w hr
  let N' : Nat → Prop := fun k => N k ∧ ¬ ∃ y, y ∈ ys ∧ y ∈ keys σ.heap ∧ F y k
  let F' : Nat → Nat → Prop := fun x => match srcs ms h x with | some y => F y | none => fun _ => False
  have hZ : ∀ v av, (v, av) ∈ Z → RelV N' w av v := by
    intro v av hm
    obtain ⟨y, o, h1, h2, h3⟩ := wfrz_mem hz v av hm
    exact (hr.heap.own y v o h2).freeze h3 (fun k hk => ⟨hk.1, fun hF => hk.2 ⟨y, h1, get_mem_keys h2, hF⟩⟩)
  have hNN : ∀ i, i < w.heap.size → N' i → N i := fun _ _ h => h.1
  have hFk : ∀ x, x ∈ keys h → ∀ b, F' x b → ∃ y, srcs ms h x = some y ∧ y ∈ ms.filterMap id ∧ y ∈ keys σ.heap ∧ F y b := by
    intro x hx b hb
    obtain ⟨⟨v, o1⟩, ho⟩ := mem_keys_get hx
    rcases wheap_get hh x v o1 ho with ⟨h1, _⟩ | ⟨y, o, h1, h2, h3, _⟩
    · simp only [F', h1] at hb
    · simp only [F', h1] at hb
      exact ⟨y, h1, h2, get_mem_keys h3, hb⟩
  refine ⟨F', N', hr.defers, hr.size.trans hnt, fun k av1 hk => ?_, ⟨fun x v o1 hx => ?_, fun x hx b hb => ?_, fun x x' hx hx' hne b hb hb' => ?_, fun x v o1 hx => ?_⟩, fun x hx b hb => ?_, fun k hk h0 => ?_, hr.unch⟩
  · obtain ⟨av, h1, h2⟩ := wslots_get hs k av1 hk
    obtain ⟨v, h3, h4⟩ := hr.slots k av h1
    exact ⟨v, h3, h2.rel hZ (h4.mono (.refl N w) hNN)⟩
  · rcases wheap_get hh x v o1 hx with ⟨h1, rfl, t, sz, rfl⟩ | ⟨y, o, h1, h2, h3, h4⟩
    · exact .osl0 _ t sz
    · have := ((hr.heap.own y v o h3).mono (.refl N w) hNN (fun _ _ _ => rfl))
      have e : F' x = F y := by simp only [F', h1]
      rw [e]
      exact h4.own hZ this
  · obtain ⟨y, h1, h2, h3, h4⟩ := hFk x hx b hb
    obtain ⟨h5, h6⟩ := hr.heap.foot y h3 b h4
    refine ⟨⟨h5, ?_⟩, h6⟩
    rintro ⟨y', h7, h8, h9⟩
    have hne : y ≠ y' := by rintro rfl; exact hy y h7 h2
    exact hr.heap.disj y y' h3 h8 hne b h4 h9
  · obtain ⟨y, h1, h2, h3, h4⟩ := hFk x hx b hb
    obtain ⟨y', h5, h6, h7, h8⟩ := hFk x' hx' b hb'
    have hyy : y ≠ y' := by rintro rfl; exact hne (srcs_inj hh hn x x' y h1 h5)
    exact hr.heap.disj y y' h3 h7 hyy b h4 h8
  · rcases wheap_get hh x v o1 hx with ⟨h1, rfl, t, sz, rfl⟩ | ⟨y, o, h1, h2, h3, h4⟩
    · rfl
    · exact hr.heap.one y v o h3
  · obtain ⟨y, h1, h2, h3, h4⟩ := hFk x hx b hb
    exact hr.may y h3 b h4
  · rcases hr.n0 k hk h0 with h1 | h1
    · by_cases h2 : ∃ y, y ∈ ys ∧ y ∈ keys σ.heap ∧ F y k
      · obtain ⟨y, _, h3, h4⟩ := h2
        rcases hr.may y h3 k h4 with h5 | h5
        · exact .inr h5
        · omega
      · exact .inl ⟨h1, h2⟩
    · exact .inr h1

/-- Nothing frozen. -/
theorem le_w (ms : List (Option Nat)) {σ : St} {nt : Nat} {s : List (Nat × AV)} {h : HP} (hnt : σ.nt = nt) (hs : wslots [] σ.slots s) (hh : wheap [] σ.heap ms h) (hn : (ms.filterMap id).Nodup) : Le σ ⟨nt, s, h⟩ :=
  le_of [] [] ms hnt trivial hs hh hn (fun y hy => by cases hy)

/-! ### Code over abstract states -/

variable (P : Program) (c : Cx)

def Good (x : Code) (σ : St) (Q : Exit → St → Prop) : Prop :=
  ∀ F N a w, Rel c F N σ a w → x.wp P (fun e a' w' => ∃ σ' F' N', Q e σ' ∧ Rel c F' N' σ' a' w') a w

def thenQ (K : St → Prop) (Q : Exit → St → Prop) : Exit → St → Prop
  | .normal, σ => K σ
  | e, σ => Q e σ

def blockQ (id : Nat) (Q : Exit → St → Prop) : Exit → St → Prop
  | .exit i, σ => if i = id then Q .normal σ else Q (.exit i) σ
  | e, σ => Q e σ

variable {P c}

theorem Good.mono {x : Code} {σ : St} {Q Q' : Exit → St → Prop} (h : Good P c x σ Q) (hq : ∀ e σ', Q e σ' → Q' e σ') : Good P c x σ Q' :=
  fun F N a w hr => wp_mono (h F N a w hr) fun _ _ _ ⟨σ', F', N', h1, h2⟩ => ⟨σ', F', N', hq _ _ h1, h2⟩

theorem Good.le {x : Code} {σ σ' : St} {Q : Exit → St → Prop} (hw : Le σ σ') (h : Good P c x σ' Q) : Good P c x σ Q :=
  fun F N a w hr => let ⟨F', N', hr'⟩ := hw c F N a w hr; h F' N' a w hr'

theorem good_skip {σ : St} {Q : Exit → St → Prop} (h : Q .normal σ) : Good P c .skip σ Q := fun F N _ _ hr => wp_skip ⟨σ, F, N, h, hr⟩
theorem good_exit {id : Nat} {σ : St} {Q : Exit → St → Prop} (h : Q (.exit id) σ) : Good P c (.exit id) σ Q := fun F N _ _ hr => wp_exit ⟨σ, F, N, h, hr⟩
theorem good_ret {σ : St} {Q : Exit → St → Prop} (h : Q .ret σ) : Good P c .ret σ Q := fun F N _ _ hr => wp_ret ⟨σ, F, N, h, hr⟩

theorem good_seq' {x y : Code} {σ : St} {Q : Exit → St → Prop} (h : Good P c x σ (thenQ (fun σ' => Good P c y σ' Q) Q)) : Good P c (.seq x y) σ Q := by
  intro F N a w hr
  refine wp_seq (wp_mono (h F N a w hr) ?_)
  rintro e a' w' ⟨σ', F', N', hq, hr'⟩
  cases e <;> first | exact ⟨σ', F', N', hq, hr'⟩ | exact hq F' N' a' w' hr'

/-- What follows stands behind a name. -/
theorem good_seq {x y : Code} {σ : St} {Q : Exit → St → Prop} (h : ∀ K : St → Prop, (∀ σ', Good P c y σ' Q → K σ') → Good P c x σ (thenQ K Q)) : Good P c (.seq x y) σ Q :=
  good_seq' (h _ fun _ h => h)

theorem good_block {id : Nat} {x : Code} {σ : St} {Q : Exit → St → Prop} (h : Good P c x σ (blockQ id Q)) : Good P c (.block id x) σ Q := by
  intro F N a w hr
  refine wp_block (wp_mono (h F N a w hr) ?_)
  rintro e a' w' ⟨σ', F', N', hq, hr'⟩
  cases e <;> try exact ⟨σ', F', N', hq, hr'⟩
  rename_i i
  simp only [blockQ] at hq
  simp only [Exit.inBlock]
  split at hq <;> rename_i hi <;> simp only [hi, if_true, if_false] <;> exact ⟨σ', F', N', hq, hr'⟩

theorem blockQ_here {id : Nat} {Q : Exit → St → Prop} {σ : St} (h : Q .normal σ) : blockQ id Q (.exit id) σ := by simp only [blockQ, if_true]; exact h
theorem blockQ_else {id i : Nat} {Q : Exit → St → Prop} {σ : St} (hi : (i == id) = false) (h : Q (.exit i) σ) : blockQ id Q (.exit i) σ := by
  simp only [blockQ]; rw [if_neg (by simpa using hi)]; exact h

/-! Operands -/

def constA : Value → Option AV
  | .int k n => some (.int k n)
  | .bool b => some (.bool b)
  | .string s => if s.data.toList.length ≤ 1000000 then some (.str s.data.toList) else none
  | .slice none 0 0 => some .nil
  | .pointer none => some (.raw (.pointer none))
  | .nilIface => some (.raw .nilIface)
  | .nilFunc => some (.raw .nilFunc)
  | .map none => some (.raw (.map none))
  | _ => none

theorem constA_rel (N : Nat → Prop) (w : World) (v : Value) (av : AV) (h : constA v = some av) : RelV N w av v := by
  unfold constA at h
  split at h <;> try (cases h; done)
  · cases h; exact .int _ _
  · cases h; exact .bool _
  · rename_i s
    split at h
    · cases h
      have := RelV.str (N := N) (w := w) s.data.toList (by unfold maxLen; omega)
      simpa using this
    · cases h
  · cases h; exact .nil
  all_goals (cases h; exact .raw _ rfl)

def evA (σ : St) : Operand → Option AV
  | .tmp t => getk t σ.slots
  | .const v => constA v
  | .func f => some (.clo (.func f) [])
  | .global g => some (.raw (.pointer (some ⟨g, 0, none⟩)))

theorem evA_rel {F : Nat → Nat → Prop} {N : Nat → Prop} {σ : St} {a : Act} {w : World} (hr : Rel c F N σ a w) {x : Operand} {av : AV} (h : evA σ x = some av) : RelV N w av (a.eval x) := by
  cases x with
  | tmp t =>
    obtain ⟨v, h1, h2⟩ := hr.slots t av h
    simp only [Act.eval, Array.getD_eq_getD_getElem?, h1, Option.getD_some]; exact h2
  | const v => exact constA_rel N w v av h
  | func f => cases h; exact .clo _ _ #[] rfl (fun i av v h _ => by simp at h)
  | global g => cases h; exact .raw _ rfl

theorem good_cond {x : Operand} {p q : Code} {σ : St} {Q : Exit → St → Prop} {b : Bool} (hx : evA σ x = some (.bool b)) (ht : b = true → Good P c p σ Q) (hf : b = false → Good P c q σ Q) : Good P c (.cond x p q) σ Q := by
  intro F N a w hr
  have := evA_rel hr hx
  generalize hv : a.eval x = v at this
  cases this
  exact wp_cond_split hv (fun h => ht h F N a w hr) (fun h => hf h F N a w hr)

/-- A loop: what holds at each round's head (with a number that each round lowers). -/
theorem good_loop {body : Code} {σ : St} {Q : Exit → St → Prop} (I : Nat → St → Prop) (m : Nat) (h0 : ∃ σ1, Le σ σ1 ∧ I m σ1)
    (hb : ∀ m σ, I m σ → Good P c body σ (thenQ (fun σ' => ∃ σ1 m', Le σ' σ1 ∧ m' < m ∧ I m' σ1) Q)) : Good P c (.loop body) σ Q := by
  have key : ∀ n m σ F N a w, m < n → I m σ → Rel c F N σ a w → Code.rounds P body (fun e a' w' => ∃ σ' F' N', Q e σ' ∧ Rel c F' N' σ' a' w') n a w := by
    intro n
    induction n with
    | zero => intro m σ F N a w h; omega
    | succ n ih =>
      intro m σ F N a w h hI hr
      rw [rounds_succ]
      refine wp_mono (hb m σ hI F N a w hr) ?_
      rintro e a' w' ⟨σ', F', N', hq, hr'⟩
      cases e <;> try exact ⟨σ', F', N', hq, hr'⟩
      obtain ⟨σ1, m', hw, hm, hI'⟩ := hq
      obtain ⟨F1, N1, hr1⟩ := hw c F' N' a' w' hr'
      exact ih m' σ1 F1 N1 a' w' (by omega) hI' hr1
  intro F N a w hr
  obtain ⟨σ1, hw, hI⟩ := h0
  obtain ⟨F1, N1, hr1⟩ := hw c F N a w hr
  exact wp_loop_rounds (m + 1) (key (m + 1) m σ1 F1 N1 a w (by omega) hI hr1)

/-- What a round must end in. -/
def RoundQ {α : Type} (F : α → St) (J : Nat → α → Prop) (m : Nat) (σ' : St) : Prop := ∃ m' x', m' < m ∧ J m' x' ∧ Le σ' (F x')
theorem round_mk {α : Type} {F : α → St} {J : Nat → α → Prop} {m : Nat} {σ' : St} (m' : Nat) (x' : α) (h1 : m' < m) (h2 : J m' x') (h3 : Le σ' (F x')) : RoundQ F J m σ' := ⟨m', x', h1, h2, h3⟩

/-- The same, the states at a round's head given by a function. -/
theorem good_loopf {α : Type} {body : Code} {σ : St} {Q : Exit → St → Prop} (F : α → St) (J : Nat → α → Prop) (m : Nat) (x0 : α) (h0 : Le σ (F x0)) (hJ : J m x0)
    (hb : ∀ m x, J m x → Good P c body (F x) (thenQ (RoundQ F J m) Q)) : Good P c (.loop body) σ Q :=
  good_loop (fun m σ => ∃ x, J m x ∧ σ = F x) m ⟨F x0, h0, x0, hJ, rfl⟩ (by
    rintro m _ ⟨x, hx, rfl⟩
    refine (hb m x hx).mono fun e σ' h => ?_
    cases e <;> try exact h
    obtain ⟨m', x', h1, h2, h3⟩ := h
    exact ⟨F x', m', h3, h1, x', h2, rfl⟩)

/-- What follows is shown once, from a state that says less. -/
theorem good_via {K : St → Prop} {y : Code} {Q : Exit → St → Prop} (σ1 : St) (hK : ∀ σ', Good P c y σ' Q → K σ') (h : Good P c y σ1 Q) : ∀ σ', Le σ' σ1 → K σ' :=
  fun σ' hw => hK σ' (h.le hw)

/-- How long a slice, a text may be. -/
theorem RelV.len {N : Nat → Prop} {w : World} {z : Bool} {rows : List (List AV)} {v : Value} (h : RelV N w (.sl z rows) v) : rows.length ≤ maxLen := by
  cases h with
  | slNil => simp
  | sl z rows a cap sz u hs hc hm h1 h2 h3 h4 => omega
theorem RelV.lenS {N : Nat → Prop} {w : World} {l : List UInt8} {v : Value} (h : RelV N w (.str l) v) : l.length ≤ maxLen := by
  cases h with
  | str l h => exact h
theorem good_len {x : Code} {σ : St} {Q : Exit → St → Prop} (k : Nat) {z : Bool} {rows : List (List AV)} (h : getk k σ.slots = some (.sl z rows)) (hg : rows.length ≤ maxLen → Good P c x σ Q) : Good P c x σ Q :=
  fun F N a w hr => let ⟨v, h1, h2⟩ := hr.slots k _ h; hg h2.len F N a w hr
theorem good_lenS {x : Code} {σ : St} {Q : Exit → St → Prop} (k : Nat) {l : List UInt8} (h : getk k σ.slots = some (.str l)) (hg : l.length ≤ maxLen → Good P c x σ Q) : Good P c x σ Q :=
  fun F N a w hr => let ⟨v, h1, h2⟩ := hr.slots k _ h; hg h2.lenS F N a w hr
end Go.Bb
