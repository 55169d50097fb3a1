/- Types written: the program and the reference; and a type is the same as itself; the conditions stand in each theorem. -/
import Derived.Test.YtopbbjoflopjbaaE14
import Derived.Test.YtopbbjoflopjbaaGDr
/-! Types written. -/
set_option linter.unusedVariables false
set_option linter.unusedSimpArgs false
namespace Go.Proofs.Ytopbbjoflopjbaa
open Go.Bb

theorem nameOk_len {s : Bs} (h : nameOk s = true) : s.length ≤ 12 := by
  unfold nameOk at h
  simp only [Bool.and_eq_true, decide_eq_true_eq] at h
  exact h.2.2
theorem bang_len (m : Bool) : (bang m).length ≤ 1 := by cases m <;> simp [bang]
theorem ok_len : ∀ (d : Nat) (t : Typ), okT d t = true → (putT t).length ≤ 13 + 3 * d
  | d, .mk n [] m, h => by
    rw [okT_nil] at h
    have := nameOk_len h
    have := bang_len m
    rw [putT_nil, List.length_append]; omega
  | d, .mk n (t :: r) m, h => by
    rw [okT_cons] at h
    simp only [Bool.and_eq_true, decide_eq_true_eq] at h
    obtain ⟨⟨rfl, rfl⟩, h⟩ := h
    match d, h with
    | d + 2, h =>
      have := ok_len (d + 1) t h
      have := bang_len m
      rw [putT_cons]
      simp only [List.length_cons, List.length_append]; omega
theorem ok_up : ∀ (d : Nat) (t : Typ), okT d t = true → okT (d + 1) t = true
  | d, .mk n [] m, h => by rw [okT_nil] at h ⊢; exact h
  | d, .mk n (t :: r) m, h => by
    rw [okT_cons] at h ⊢
    simp only [Bool.and_eq_true, decide_eq_true_eq] at h ⊢
    refine ⟨h.1, ?_⟩
    match d, h.2 with
    | d + 2, h => exact ok_up (d + 1) t h
theorem ok_bd : ∀ (d : Nat) (t : Typ), okT d t = true → BdT 1048576 t
  | d, .mk n [] m, h => by
    rw [okT_nil] at h
    have := nameOk_len h
    exact .mk _ (by simp; omega) (by simp) (by simp)
  | d, .mk n (t :: r) m, h => by
    rw [okT_cons] at h
    simp only [Bool.and_eq_true, decide_eq_true_eq] at h
    obtain ⟨⟨rfl, rfl⟩, h⟩ := h
    match d, h with
    | d + 2, h =>
      have := ok_bd (d + 1) t h
      exact .mk _ (by simp) (by simp) (by simpa using this)

theorem typ_first (t : Typ) (r : List Typ) : (Typ.mk (ix (t :: r) 0).name (ix (t :: r) 0).of_ (ix (t :: r) 0).must) = t := by simp [ix]

theorem ev_iForm : ∀ (t : Typ), BdT 1048576 t → ∀ d : Nat, d ≤ 1000 → Ev (fun k => m_impl_typeFormIn k t ((d + 1 : Nat) : Int)) (okT (d + 1) t) := by
  apply Typ.ind
  intro t ih hb d hd
  rw [ev_shift]; simp only [m_impl_typeFormIn]
  obtain ⟨n, of, m⟩ := t
  simp only [Typ.name_mk, Typ.of__mk] at ih ⊢
  have hw := hb.within
  refine ev_ifF (by omega) (ev_ite (fun h1 => ?_) (fun h1 => ?_))
  · subst h1
    cases of with
    | nil =>
      rw [okT_nil]
      exact ev_ifF (by simp) (ev_eq (ev_some _) (by decide))
    | cons t r =>
      rw [okT_cons]
      refine ev_ite (fun h2 => ev_ifT (by simp only [List.length_cons]; omega) ?_) (fun h2 => ev_eq (ev_some _) ?_)
      · have hr : r = [] := List.eq_nil_of_length_eq_zero (by simp only [List.length_cons] at h2; omega)
        subst hr
        rw [typ_first]
        cases d with
        | zero =>
          refine Ev.bind (a := false) ?_ (ev_eq (ev_some _) (by simp))
          rw [ev_shift]; simp only [m_impl_typeFormIn]
          exact ev_ifT (by decide) (ev_some _)
        | succ d =>
          have hw2 : IntKind.wrap .i64 (((d + 1 + 1 : Nat) : Int) - 1) = ((d + 1 : Nat) : Int) := by rw [wrap_id (by omega)]; omega
          rw [hw2]
          exact Ev.bind (ih t List.mem_cons_self (hw t List.mem_cons_self) d (by omega)) (ev_eq (ev_some _) (by simp))
      · have hr : r ≠ [] := by rintro rfl; exact h2 rfl
        simp [hr]
  · refine Ev.bind (ev_iName n) ?_
    cases of with
    | nil =>
      rw [okT_nil]
      exact ev_ite (fun h => ev_eq (ev_some _) (by rw [h]; simp)) (fun h => ev_eq (ev_some _) (by simpa using h))
    | cons t r =>
      rw [okT_cons]
      have hl : ¬ (((t :: r).length : Nat) : Int) = 0 := by simp only [List.length_cons]; omega
      exact ev_ite (fun h => ev_eq (ev_some _) (by refine Eq.trans (decide_eq_false hl) ?_; simp [h1])) (fun h => ev_eq (ev_some _) (by simp [h1]))

theorem ml : 1048576 ≤ maxLen := by decide
theorem ev_must (s : Bs) (m : Bool) (h : s.length ≤ 1000) : Ev (fun _ => if m = true then (if (s ++ [33]).length ≤ maxLen then some (s ++ [33]) else none) else some s) (s ++ bang m) := by
  have := ml
  cases m with
  | true => exact ev_ifT rfl (ev_ifT (by simp; omega) (ev_eq (ev_some _) rfl))
  | false => exact ev_ifF (by simp) (ev_eq (ev_some _) (by simp [bang]))

theorem ev_iPut : ∀ (t : Typ), okT 3 t = true → Ev (fun k => m_impl_TypePut k t) (putT t) := by
  apply Typ.ind
  intro t ih h
  rw [ev_shift]; simp only [m_impl_TypePut, m_impl_typeForm]
  have hb := ok_bd 3 t h
  have hl := ok_len 3 t h
  have := ml
  refine Ev.bind (Ev.bind (ev_iForm t hb 2 (by omega)) (ev_some _)) (ev_ifT h ?_)
  obtain ⟨n, of, m⟩ := t
  simp only [Typ.name_mk, Typ.of__mk, Typ.must_mk] at ih ⊢
  cases of with
  | nil =>
    rw [okT_nil] at h
    have := nameOk_len h
    rw [putT_nil]
    exact Ev.go (ev_ifF (nameOk_ne h) (ev_some _)) (ev_must n m (by omega))
  | cons t r =>
    rw [okT_cons] at h
    simp only [Bool.and_eq_true, decide_eq_true_eq] at h
    obtain ⟨⟨rfl, rfl⟩, h⟩ := h
    have h3 := ok_up _ _ h
    have hl2 := ok_len 3 t h3
    rw [putT_cons]
    refine Ev.go (ev_ifT rfl (ev_ifT (by simp) (Ev.bind (a := putT t) (by rw [typ_first]; exact ih t List.mem_cons_self h3) (ev_ifT (by simp; omega) (ev_ifT (by simp; omega) (ev_some _)))))) (ev_eq (ev_must _ m (by simp; omega)) (by simp))

theorem ev_sPut : ∀ (t : Typ), ∀ d : Nat, d ≤ 100 → okT d t = true → Ev (fun k => m_spec_l2Put k t) (putT t) := by
  apply Typ.ind
  intro t ih d hd h
  rw [ev_shift]; simp only [m_spec_l2Put]
  have := ml
  obtain ⟨n, of, m⟩ := t
  simp only [Typ.name_mk, Typ.of__mk, Typ.must_mk] at ih ⊢
  cases of with
  | nil =>
    rw [okT_nil] at h
    have := nameOk_len h
    rw [putT_nil]
    exact Ev.go (ev_ifF (by simp) (ev_some _)) (ev_must n m (by omega))
  | cons t r =>
    rw [okT_cons] at h
    simp only [Bool.and_eq_true, decide_eq_true_eq] at h
    obtain ⟨⟨rfl, rfl⟩, h⟩ := h
    match d, h, hd with
    | d + 2, h, hd =>
    have hl2 := ok_len _ t h
    rw [putT_cons]
    refine Ev.go (ev_ifT (by simp) (ev_ifT (by simp) (Ev.bind (a := putT t) (by rw [typ_first]; exact ih t List.mem_cons_self (d + 1) (by omega) h) (ev_ifT (by simp; omega) (ev_ifT (by simp; omega) (ev_some _)))))) (ev_eq (ev_must _ m (by simp; omega)) (by simp))

/-- The text of a type. -/
def textT (t : Typ) : Bs := if okT 3 t then putT t else []
theorem ev_iTypePut (t : Typ) (hb : BdT 1048576 t) : Ev (fun k => m_impl_TypePut k t) (textT t) := by
  unfold textT
  by_cases h : okT 3 t = true
  · rw [if_pos h]; exact ev_iPut t h
  · rw [if_neg h, ev_shift]; simp only [m_impl_TypePut, m_impl_typeForm]
    exact Ev.bind (Ev.bind (ev_iForm t hb 2 (by omega)) (ev_some _)) (ev_ifF h (ev_some _))
theorem ev_sTypePut (t : Typ) (hb : BdT 1048576 t) : Ev (fun k => m_spec_TypePut k t) (textT t) := by
  simp only [m_spec_TypePut]
  refine Ev.bind (ev_sType t hb 3 (by omega)) ?_
  unfold textT
  exact ev_ite (fun h => by rw [if_pos h]; exact Ev.bind (ev_sPut t 3 (by omega) h) (ev_some _)) (fun h => by rw [if_neg h]; exact ev_some _)

theorem ev_pgType : ∀ a : Typ, BdT 1048576 a → Ev (fun k => m_laws_pgType k a a) true := by
  apply Typ.ind
  intro a ih h
  rw [ev_shift]; simp only [m_laws_pgType]
  refine Ev.go (s := false) (ev_ifT trivial (ev_ifT trivial (ev_eq (ev_some _) (by simp)))) (ev_ifF (by simp) (Ev.go (s := ()) ?_ (ev_some _)))
  have hof := h.of
  have := ev_all_go (L := fun k i => m_laws_pgType_l1 k a a i) (n := a.of_.length) (g := fun _ => true) (fun i r hi hg h' => by
    rw [ev_shift]; simp only [m_laws_pgType_l1]
    refine ev_ifT (by omega) (ev_ifT (by omega) (ev_ifT (by omega) ?_))
    rw [ix_nat hi]
    simp only [Typ.eta]
    refine Ev.bind (ih _ (List.getElem_mem hi) (h.within _ (List.getElem_mem hi))) (ev_ifT rfl ?_)
    rw [wrap_id (by omega)]; exact h') (by
    rw [ev_shift]; simp only [m_laws_pgType_l1]
    exact ev_ifF (by omega) (ev_some _)) a.of_.length 0 (by omega) (fun _ _ _ => rfl)
  simpa using this
end Go.Proofs.Ytopbbjoflopjbaa
