/- The laws of ValueOk and ValueSize, as plain functions, answer that all is well; the conditions stand in each theorem. -/
import Derived.Test.YtopbbjoflopjbaaE6
import Derived.Test.YtopbbjoflopjbaaGsz
import Derived.Test.YtopbbjoflopjbaaGLok
/-! The laws of ValueOk and ValueSize. -/
set_option linter.unusedVariables false
set_option linter.unusedSimpArgs false
namespace Go.Proofs.Ytopbbjoflopjbaa
open Go.Bb

mutual
def szW : Val → Int
  | .mk _ _ _ l _ => szWS l 1
def szWS : List Val → Int → Int
  | [], a => a
  | v :: l, a => szWS l (IntKind.wrap .i64 (a + szW v))
end
theorem szWS_fold (l : List Val) (a : Int) : szWS l a = l.foldl (fun a v => IntKind.wrap .i64 (a + szW v)) a := by
  induction l generalizing a with
  | nil => rfl
  | cons v l ih => simp only [szWS, List.foldl_cons, ih]
theorem szW_eq (v : Val) : szW v = v.list.foldl (fun a v => IntKind.wrap .i64 (a + szW v)) 1 := by
  cases v; simp only [szW, szWS_fold]; rfl

theorem fold_take {α β : Type} (f : α → β → α) (a : α) (l : List β) (j : Nat) (h : j < l.length) : (l.take (j + 1)).foldl f a = f ((l.take j).foldl f a) l[j] := by
  rw [List.take_add_one, List.getElem?_eq_getElem h, Option.toList_some, List.foldl_append]; rfl

theorem ev_sSize : ∀ v : Val, Bd 1048576 v → Ev (fun k => m_spec_l8Size k v) (szW v) := by
  apply Val.ind
  intro v ih h
  rw [ev_shift]; simp only [m_spec_l8Size]
  have hl := h.list
  rw [szW_eq]
  refine Ev.go (s := v.list.foldl (fun a v => IntKind.wrap .i64 (a + szW v)) 1) ?_ (ev_some _)
  have := ev_fold (L := fun k s i => m_spec_l8Size_l1 k v s i) (n := v.list.length) (fun j => (v.list.take j).foldl (fun a v => IntKind.wrap .i64 (a + szW v)) 1) (fun i r hi h' => by
    rw [ev_shift]; simp only [m_spec_l8Size_l1]
    rw [ix_nat hi, wrap_id (n := (i : Int) + 1) (by omega)]
    rw [fold_take _ _ _ _ hi] at h'
    exact ev_ifT (by omega) (ev_ifT (by omega) (Ev.bind (ih _ (List.getElem_mem hi) (h.within _ (List.getElem_mem hi))) h'))) (by
    rw [ev_shift]; simp only [m_spec_l8Size_l1]
    exact ev_ifF (by omega) (ev_some _)) v.list.length 0 (by omega)
  simpa using this
theorem ev_iSize : ∀ v : Val, Bd 1048576 v → Ev (fun k => m_impl_sizeOf k v) (szW v) := by
  apply Val.ind
  intro v ih h
  rw [ev_shift]; simp only [m_impl_sizeOf]
  have hl := h.list
  rw [szW_eq]
  refine Ev.go (s := v.list.foldl (fun a v => IntKind.wrap .i64 (a + szW v)) 1) ?_ (ev_some _)
  have := ev_fold (L := fun k s i => m_impl_sizeOf_l1 k v s i) (n := v.list.length) (fun j => (v.list.take j).foldl (fun a v => IntKind.wrap .i64 (a + szW v)) 1) (fun i r hi h' => by
    rw [ev_shift]; simp only [m_impl_sizeOf_l1]
    rw [ix_nat hi, wrap_id (n := (i : Int) + 1) (by omega)]
    rw [fold_take _ _ _ _ hi] at h'
    exact ev_ifT (by omega) (ev_ifT (by omega) (Ev.bind (ih _ (List.getElem_mem hi) (h.within _ (List.getElem_mem hi))) h'))) (by
    rw [ev_shift]; simp only [m_impl_sizeOf_l1]
    exact ev_ifF (by omega) (ev_some _)) v.list.length 0 (by omega)
  simpa using this
theorem ev_sValueSize (v : Val) (h : Bd 1048576 v) : Ev (fun k => m_spec_ValueSize k v) (if okV v 6 false = true then szW v else 0) := by
  simp only [m_spec_ValueSize]
  exact Ev.bind (ev_sValueOk v h) (ev_ite (fun h1 => Ev.bind (ev_sSize v h) (ev_eq (ev_some _) (by rw [if_pos h1]))) (fun h1 => ev_eq (ev_some _) (by rw [if_neg h1])))
theorem ev_iValueSize (v : Val) (h : Bd 1048576 v) : Ev (fun k => m_impl_ValueSize k v) (if okV v 6 false = true then szW v else 0) := by
  simp only [m_impl_ValueSize]
  exact Ev.bind (ev_iValueOk v h) (ev_ite (fun h1 => Ev.bind (ev_iSize v h) (ev_eq (ev_some _) (by rw [if_pos h1]))) (fun h1 => ev_eq (ev_some _) (by rw [if_neg h1])))

theorem law_ValueOk (v : Val) (h : Bd maxLen v) : ∃ k, m_laws_FnExactValueOk k v = some true := by
  refine Ev.get (m := fun k => m_laws_FnExactValueOk k v) ?_
  simp only [m_laws_FnExactValueOk]
  obtain ⟨y, h1, h2⟩ := ev_szValue v h 1048576 (by omega) (by omega)
  rcases h2 with h2 | ⟨h2, h3, h4⟩
  · exact Ev.bind h1 (ev_ifT h2 (ev_some _))
  · refine Ev.bind h1 (ev_ifF (by omega) (Ev.bind (ev_toValue v h4) (Ev.bind (ev_sValueOk v h4) (Ev.bind (ev_toValue v h4) (Ev.bind (ev_iValueOk v h4) (ev_ifT rfl (Ev.bind (ev_toValue v h4) (Ev.bind (ev_eqValue v h4) (ev_ifT rfl (ev_some _)))))))))) 
theorem law_ValueSize (v : Val) (h : Bd maxLen v) : ∃ k, m_laws_FnExactValueSize k v = some true := by
  refine Ev.get (m := fun k => m_laws_FnExactValueSize k v) ?_
  simp only [m_laws_FnExactValueSize]
  obtain ⟨y, h1, h2⟩ := ev_szValue v h 1048576 (by omega) (by omega)
  rcases h2 with h2 | ⟨h2, h3, h4⟩
  · exact Ev.bind h1 (ev_ifT h2 (ev_some _))
  · refine Ev.bind h1 (ev_ifF (by omega) (Ev.bind (ev_toValue v h4) (Ev.bind (ev_sValueSize v h4) (Ev.bind (ev_toValue v h4) (Ev.bind (ev_iValueSize v h4) (ev_ifT rfl (Ev.bind (ev_toValue v h4) (Ev.bind (ev_eqValue v h4) (ev_ifT rfl (ev_some _)))))))))) 
end Go.Proofs.Ytopbbjoflopjbaa
