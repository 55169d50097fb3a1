/- The law of TypeGet, as a plain function, answers that all is well; the conditions stand in each theorem. -/
import Derived.Test.YtopbbjoflopjbaaE9
import Derived.Test.YtopbbjoflopjbaaE12
import Derived.Test.YtopbbjoflopjbaaGLty
/-! The law of TypeGet. -/
set_option linter.unusedVariables false
set_option linter.unusedSimpArgs false
namespace Go.Proofs.Ytopbbjoflopjbaa
open Go.Bb

mutual
theorem Typ.ind {p : Typ → Prop} (h : ∀ v, (∀ x ∈ v.of_, p x) → p v) : ∀ v, p v
  | .mk a l c => h _ (Typ.indS h l)
theorem Typ.indS {p : Typ → Prop} (h : ∀ v, (∀ x ∈ v.of_, p x) → p v) : ∀ (l : List Typ), ∀ x ∈ l, p x
  | [] => fun _ hx => nomatch hx
  | v :: l => fun x hx => (List.mem_cons.1 hx).elim (fun e => e ▸ Typ.ind h v) (Typ.indS h l x)
end
/-- No text, no list of it is longer. -/
inductive BdT (M : Nat) : Typ → Prop
  | mk (v : Typ) (h1 : v.name.length ≤ M) (h2 : v.of_.length ≤ M) (h3 : ∀ x ∈ v.of_, BdT M x) : BdT M v
theorem BdT.name {M : Nat} {v : Typ} (h : BdT M v) : v.name.length ≤ M := by cases h; assumption
theorem BdT.of {M : Nat} {v : Typ} (h : BdT M v) : v.of_.length ≤ M := by cases h; assumption
theorem BdT.within {M : Nat} {v : Typ} (h : BdT M v) : ∀ x ∈ v.of_, BdT M x := by cases h; assumption

theorem ev_sType : ∀ (t : Typ), BdT 1048576 t → ∀ d : Nat, d ≤ 1000 → Ev (fun k => m_spec_l2Type k t (d : Int)) (okT d t) := by
  apply Typ.ind
  intro t ih hb d hd
  rw [ev_shift]; simp only [m_spec_l2Type]
  obtain ⟨n, of, m⟩ := t
  simp only [Typ.name_mk, Typ.of__mk] at ih ⊢
  have hn := hb.name
  have hw := hb.within
  cases of with
  | nil =>
    rw [okT_nil]
    exact ev_ifT rfl (Ev.bind (ev_sName n hn) (ev_some _))
  | cons t r =>
    rw [okT_cons]
    refine ev_ifF (by simp only [List.length_cons]; omega) (ev_ite (fun h1 => ?_) (fun h1 => ev_eq (ev_some _) (by simp [h1])))
    refine ev_ite (fun h2 => ?_) (fun h2 => ev_eq (ev_some _) ?_)
    · have hr : r = [] := List.eq_nil_of_length_eq_zero (by simp only [List.length_cons] at h2; omega)
      subst hr
      refine ev_ite (fun h3 => ev_ifT (by simp) ?_) (fun h3 => ev_eq (ev_some _) ?_)
      · obtain ⟨d, rfl⟩ : ∃ d', d = d' + 2 := ⟨d - 2, by omega⟩
        have hw2 : IntKind.wrap .i64 (((d + 2 : Nat) : Int) - 1) = ((d + 1 : Nat) : Int) := by rw [wrap_id (by omega)]; omega
        rw [hw2]
        have e : (Typ.mk (ix [t] 0).name (ix [t] 0).of_ (ix [t] 0).must) = t := by simp [ix]
        rw [e]
        exact Ev.bind (ih t List.mem_cons_self (hw t List.mem_cons_self) (d + 1) (by omega)) (ev_eq (ev_some _) (by simp [h1]))
      · have : d = 0 ∨ d = 1 := by omega
        rcases this with rfl | rfl <;> simp
    · have hr : r ≠ [] := by rintro rfl; exact h2 rfl
      simp [hr]

theorem get_bd : ∀ (d : Nat) (s : Bs), s.length ≤ 1048576 → BdT 1048576 (getT d s).1 ∧ (getT d s).2.1.length ≤ s.length
  | d, s, hs => by
    have htail : ∀ (nm : Bs) (of : List Typ) (q : Bs), (tailT nm of q).1.name = nm ∧ (tailT nm of q).1.of_ = of ∧ (tailT nm of q).2.1.length ≤ q.length := fun nm of q => by
      unfold tailT; split <;> simp
    by_cases hc : s.head? ≠ some 91 ∨ d ≤ 1
    · rw [get_name d s hc]
      obtain ⟨h1, h2, h3⟩ := htail (wd s) [] (s.drop (wd s).length)
      have := wd_len s
      refine ⟨.mk _ (by rw [h1]; omega) (by rw [h2]; simp) (by rw [h2]; simp), ?_⟩
      rw [List.length_drop] at h3; omega
    · have h1 : s.head? = some 91 := by
        false_or_by_contra; rename_i hn; exact hc (.inl hn)
      obtain ⟨d, rfl⟩ : ∃ d', d = d' + 2 := ⟨d - 2, by have : ¬ d ≤ 1 := fun h => hc (.inr h); omega⟩
      cases s with
      | nil => cases h1
      | cons b r =>
        simp at h1; subst h1
        simp only [List.length_cons] at hs ⊢
        obtain ⟨h2, h3⟩ := get_bd (d + 1) r (by omega)
        rw [get_list]
        unfold contT
        split
        · obtain ⟨h4, h5, h6⟩ := htail [] [(getT (d + 1) r).1] (getT (d + 1) r).2.1.tail
          refine ⟨.mk _ (by rw [h4]; simp) (by rw [h5]; simp) (by rw [h5]; simpa using h2), ?_⟩
          rw [List.length_tail] at h6; omega
        · exact ⟨.mk _ (by simp [zT]) (by simp [zT]) (by simp [zT]), by simp⟩
termination_by d => d

theorem ev_sTypeGet (s : Bs) (hs : s.length ≤ 1048576) : Ev (fun k => m_spec_TypeGet k s) (readT s) := by
  simp only [m_spec_TypeGet]
  rw [read_spec]
  have hg := ev_sGet 3 s (by omega) hs
  have hb := get_bd 3 s hs
  generalize getT 3 s = g at hg hb
  obtain ⟨t, rest, ok⟩ := g
  refine Ev.bind hg (Ev.go (s := !(ok && decide (rest = []) && okT 3 t)) (ev_ite (fun h1 => ev_ite (fun h2 => Ev.bind (ev_sType t hb.1 3 (by omega)) (ev_eq (ev_some _) ?_)) (fun h2 => ev_eq (ev_some _) ?_)) (fun h1 => ev_eq (ev_some _) ?_)) ?_)
  · simp only at h1 h2; simp [h1, h2]
  · simp only at h1 h2; simp [h1, h2]
  · simp only at h1; simp [h1]
  · cases h : (ok && decide (rest = []) && okT 3 t) with
    | true => exact ev_ifF (by simp) (ev_eq (ev_some _) (by simp))
    | false => exact ev_ifT rfl (ev_eq (ev_some _) (by simp [zT]))
theorem ev_iTypeGet (s : Bs) (hs : s.length ≤ 1048576) : Ev (fun k => m_impl_TypeGet k s) (readT s) := by
  simp only [m_impl_TypeGet]
  refine Ev.bind (ev_iWin 3 s (by omega) hs) ?_
  unfold readT
  exact ev_ite (fun h => ev_eq (ev_some _) (by rw [if_pos h])) (fun h => ev_eq (ev_some _) (by rw [if_neg h]; rfl))
theorem read_bd (s : Bs) (hs : s.length ≤ 1048576) : BdT 1048576 (readT s).1 := by
  rw [read_spec]
  split
  · exact (get_bd 3 s hs).1
  · exact .mk _ (by simp [zT]) (by simp [zT]) (by simp [zT])

/-! Sameness -/
theorem ev_eqTypeS (a : List Typ) (ha : a.length ≤ 1048576) (ih : ∀ x ∈ a, Ev (fun k => m_laws_eqType k x x) true) : Ev (fun k => m_laws_eqTypeS k a a) true := by
  rw [ev_shift]; simp only [m_laws_eqTypeS]
  refine ev_ifT trivial (Ev.go (s := ()) ?_ (ev_some _))
  have := ev_all_go (L := fun k i => m_laws_eqTypeS_l1 k a a i) (n := a.length) (g := fun _ => true) (fun i r hi hg h => by
    rw [ev_shift]; simp only [m_laws_eqTypeS_l1]
    refine ev_ifT (by omega) (ev_ifT (by omega) (ev_ifT (by omega) ?_))
    rw [ix_nat hi]
    simp only [Typ.eta]
    refine Ev.bind (ih _ (List.getElem_mem hi)) (ev_ifT rfl ?_)
    rw [wrap_id (by omega)]; exact h) (by
    rw [ev_shift]; simp only [m_laws_eqTypeS_l1]
    exact ev_ifF (by omega) (ev_some _)) a.length 0 (by omega) (fun _ _ _ => rfl)
  simpa using this
theorem ev_eqType : ∀ a : Typ, BdT 1048576 a → Ev (fun k => m_laws_eqType k a a) true := by
  apply Typ.ind
  intro a ih h
  rw [ev_shift]; simp only [m_laws_eqType]
  exact ev_ifT trivial (Ev.bind (ev_eqTypeS _ h.of fun x hx => ih x hx (h.within x hx)) (ev_ifT rfl (ev_ifT trivial (ev_some _))))

/-! Marks -/
mutual
/-- How many marks a type takes. -/
def wtT : Typ → Nat
  | .mk _ l _ => 2 + wtTs l
def wtTs : List Typ → Nat
  | [] => 0
  | v :: l => wtT v + wtTs l
end
theorem wtT_eq (v : Typ) : wtT v = 2 + wtTs v.of_ := by cases v; rfl
def MkT (l : List Typ) : Prop := ∀ n : Int, 0 ≤ n → n + wtTs l ≤ 2305843009213693952 → ∃ l' m, Ev (fun k => m_laws_markTypeS k l n) (m, l') ∧ Ev (fun k => m_laws_heldTypeS k l' n) m ∧ n ≤ m ∧ m ≤ n + wtTs l
theorem ev_markTyps : ∀ (post pre pre' : List Typ) (n : Int), (∀ v ∈ post, MkT v.of_) → pre.length = pre'.length → 0 ≤ n → n + wtTs post ≤ 2305843009213693952 → pre.length + post.length ≤ 4611686018427387904 →
    ∃ post' m, Ev (fun k => m_laws_markTypeS_l1 k (pre ++ post) n pre.length) (.go (pre ++ post', m)) ∧ Ev (fun k => m_laws_heldTypeS_l1 k (pre' ++ post') n pre'.length) (.go m) ∧ n ≤ m ∧ m ≤ n + wtTs post
  | [], pre, pre', n, hi, hp, hn, hb, hl => by
    refine ⟨[], n, ?_, ?_, by omega, by simp [wtTs]⟩
    · rw [ev_shift]; simp only [m_laws_markTypeS_l1]
      exact ev_ifF (by simp) (ev_some _)
    · rw [ev_shift]; simp only [m_laws_heldTypeS_l1]
      exact ev_ifF (by simp) (ev_some _)
  | t :: post, pre, pre', n, hi, hp, hn, hb, hl => by
    simp only [List.length_cons, wtTs, wtT_eq] at hb hl ⊢
    obtain ⟨s, hs⟩ := ev_markText n (by omega)
    obtain ⟨of', n2, g1, g2, g3, g4⟩ := hi t List.mem_cons_self (n + 1) (by omega) (by omega)
    obtain ⟨post', m, h1, h2, h4, h5⟩ := ev_markTyps post (pre ++ [Typ.mk s of' (decide (Int.tmod n2 3 = 0))]) (pre' ++ [Typ.mk s of' (decide (Int.tmod n2 3 = 0))]) (n2 + 1) (fun v hv => hi v (List.mem_cons_of_mem _ hv)) (by simp [hp]) (by omega) (by omega) (by simp; omega)
    refine ⟨Typ.mk s of' (decide (Int.tmod n2 3 = 0)) :: post', m, ?_, ?_, by omega, by omega⟩
    · rw [ev_shift]; simp only [m_laws_markTypeS_l1]
      rw [wrap_id (n := n + 1) (by omega), wrap_id (n := (pre.length : Int) + 1) (by omega), ix_mid]
      refine ev_ifT (by simp; omega) (Ev.bind hs (ev_ifT (by simp; omega) (Ev.bind g1 ?_)))
      rw [wrap_id (n := n2 + 1) (by omega), Int.toNat_natCast, set_mid]
      simpa using h1
    · rw [ev_shift]; simp only [m_laws_heldTypeS_l1]
      rw [wrap_id (n := n + 1) (by omega), wrap_id (n := (pre'.length : Int) + 1) (by omega), ix_mid]
      have hb2 : (0 : Int) ≤ (pre'.length : Int) ∧ (pre'.length : Int) < ((pre' ++ Typ.mk s of' (decide (Int.tmod n2 3 = 0)) :: post').length : Int) := by simp; omega
      refine ev_ifT hb2.2 (ev_ifT hb2 (Ev.bind hs (ev_ifT rfl (ev_ifT hb2 (Ev.bind g2 (ev_ifF (by omega) (ev_ifT hb2 (ev_ifT rfl ?_))))))))
      rw [wrap_id (n := n2 + 1) (by omega)]
      simpa using h2
theorem mkT_ind : ∀ v : Typ, BdT 1048576 v → MkT v.of_ := by
  apply Typ.ind
  intro v ih h n hn hb
  obtain ⟨l', m, h1, h2, h4, h5⟩ := ev_markTyps v.of_ [] [] n (fun x hx => ih x hx (h.within x hx)) rfl hn hb (by have := h.of; simp; omega)
  refine ⟨l', m, ?_, ?_, h4, h5⟩
  · rw [ev_shift]; simp only [m_laws_markTypeS]
    exact Ev.go (s := (l', m)) (by simpa using h1) (ev_some _)
  · rw [ev_shift]; simp only [m_laws_heldTypeS]
    exact Ev.go (by simpa using h2) (ev_some _)
theorem ev_markType (v : Typ) (hv : BdT 1048576 v) (hw : wtT v ≤ 1152921504606846976) : ∃ l' m, Ev (fun k => m_laws_markType k v 1) (m, l') ∧ 0 ≤ m ∧ Ev (fun k => m_laws_heldType k (Typ.mk v.name l' v.must) 1) m := by
  rw [wtT_eq] at hw
  obtain ⟨l', n2, g1, g2, g3, g4⟩ := mkT_ind v hv 1 (by omega) (by omega)
  refine ⟨l', n2, ?_, by omega, ?_⟩
  · simp only [m_laws_markType]
    exact Ev.bind g1 (ev_some _)
  · simp only [m_laws_heldType]
    exact Ev.bind g2 (ev_ifF (by omega) (ev_some _))

theorem wt_ok : ∀ (d : Nat) (t : Typ), okT d t = true → wtT t ≤ 2 * d + 2
  | d, .mk n [] m, h => by simp [wtT, wtTs]
  | d, .mk n (t :: r) m, h => by
    rw [okT_cons] at h
    simp only [Bool.and_eq_true, decide_eq_true_eq] at h
    obtain ⟨⟨rfl, rfl⟩, h⟩ := h
    match d, h with
    | d + 2, h =>
      have := wt_ok (d + 1) t h
      simp only [wtT, wtTs] at this ⊢
      omega
theorem read_wt (s : Bs) : wtT (readT s).1 ≤ 100 := by
  rw [read_spec]
  split
  · rename_i h
    simp only [Bool.and_eq_true] at h
    have := wt_ok 3 _ h.2
    show wtT (getT 3 s).1 ≤ 100
    omega
  · simp [zT, wtT, wtTs]

theorem law_TypeGet (s : Bs) (h : s.length ≤ maxLen) : ∃ k, m_laws_FnExactTypeGet k s = some true := by
  refine Ev.get (m := fun k => m_laws_FnExactTypeGet k s) ?_
  simp only [m_laws_FnExactTypeGet]
  refine ev_ite (fun _ => ev_some _) (fun h1 => ?_)
  have hs : s.length ≤ 1048576 := by omega
  have g1 := ev_sTypeGet s hs
  have g2 := ev_iTypeGet s hs
  have hb := read_bd s hs
  have hq := ev_eqType _ hb
  obtain ⟨l', m, m1, m2, m3⟩ := ev_markType _ hb (by have := read_wt s; omega)
  refine Ev.bind g1 (Ev.bind g2 (Ev.go (s := false) (Ev.bind hq (ev_ifT rfl (ev_eq (ev_some _) (by simp)))) (ev_ifF (by simp) (Ev.bind m1 (Ev.bind m3 (ev_ifF (by omega) (ev_ifT rfl (Ev.bind g2 (Ev.go (s := false) (Ev.bind hq (ev_ifT rfl (ev_eq (ev_some _) (by simp)))) (ev_ifF (by simp) (Ev.bind m3 (ev_ifF (by omega) (ev_ifT rfl (ev_some _))))))))))))))
end Go.Proofs.Ytopbbjoflopjbaa
