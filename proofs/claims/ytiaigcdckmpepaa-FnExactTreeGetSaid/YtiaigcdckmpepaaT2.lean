/- Copies: the program and the reference hand back the value itself; the conditions stand in each theorem. -/
import Derived.Test.YtiaigcdckmpepaaE6
import Derived.Test.YtiaigcdckmpepaaT1
import Derived.Test.YtiaigcdckmpepaaGtr
/-! Copies. -/
set_option linter.unusedVariables false
set_option linter.unusedSimpArgs false
set_option linter.unnecessarySimpa false
namespace Go.Proofs.Ytiaigcdckmpepaa
open Go.Bb

theorem ev_l1Copy : ∀ v : Val, Bd 1048576 v → Ev (fun k => m_spec_l1Copy k v) v := by
  apply Val.ind
  intro v ih h
  have hl := h.list
  have hn := h.names
  rw [ev_shift]; simp only [m_spec_l1Copy]
  refine Ev.go (s := v.list) ?_ (Ev.go (s := v.names) ?_ (ev_eq (ev_some _) (by cases v; rfl)))
  · have := ev_fold (L := fun k x i => m_spec_l1Copy_l1 k v x i) (n := v.list.length) (fun j => v.list.take j) (fun i r hi h' => by
      rw [List.take_add_one, List.getElem?_eq_getElem hi, Option.toList_some] at h'
      rw [ev_shift]; simp only [m_spec_l1Copy_l1]
      rw [wrap_id (n := (i : Int) + 1) (by omega), ix_nat hi]
      exact ev_ifT (by omega) (ev_ifT (by omega) (Ev.bind (ih _ (List.getElem_mem hi) (h.within _ (List.getElem_mem hi))) (ev_ifT (by simp; omega) h')))) (by
      rw [ev_shift]; simp only [m_spec_l1Copy_l1]
      exact ev_ifF (by omega) (ev_some _)) v.list.length 0 (by omega)
    simpa using this
  · have := ev_fold (L := fun k x i => m_spec_l1Copy_l2 k v x i) (n := v.names.length) (fun j => v.names.take j) (fun i r hi h' => by
      rw [List.take_add_one, List.getElem?_eq_getElem hi, Option.toList_some] at h'
      rw [ev_shift]; simp only [m_spec_l1Copy_l2]
      rw [wrap_id (n := (i : Int) + 1) (by omega), ix_nat hi]
      exact ev_ifT (by omega) (ev_ifT (by omega) (ev_ifT (by simp; omega) h'))) (by
      rw [ev_shift]; simp only [m_spec_l1Copy_l2]
      exact ev_ifF (by omega) (ev_some _)) v.names.length 0 (by omega)
    simpa using this

theorem copyTexts_eq (l : List Bs) (h : l.length ≤ 1048576) : m_impl_copyTexts l = some l := by
  unfold m_impl_copyTexts
  by_cases h0 : l = []
  · subst h0; rfl
  · have hp : 0 < l.length := List.length_pos_iff.2 h0
    rw [if_neg (by omega), if_pos (by omega), if_pos (by omega), if_pos ⟨by simp, h0⟩]
theorem spanOf_eq (l : List Val) : m_impl_spanOf l = some l := by
  unfold m_impl_spanOf
  by_cases h0 : l = []
  · subst h0; rfl
  · have hp : 0 < l.length := List.length_pos_iff.2 h0
    rw [if_neg (by omega), if_pos h0]
theorem ev_chain (y : List Val) : ∀ up : List (List Val), (∀ u ∈ up, u ≠ y) → Ev (fun k => m_impl_copyWithin_l1 k y up) (.go ())
  | [], h => by
    rw [ev_shift]; simp only [m_impl_copyWithin_l1]
    exact ev_ifT trivial (ev_some _)
  | u :: up, h => by
    rw [ev_shift]; simp only [m_impl_copyWithin_l1]
    exact ev_ifF (by simp) (ev_ifT (by simp) (ev_ifT (h u (by simp)) (ev_ifT (by simp) (ev_chain y up fun x hx => h x (by simp [hx])))))
theorem sizeOf_within {v x : Val} (h : x ∈ v.list) : SizeOf.sizeOf x.list < SizeOf.sizeOf v.list := by
  have h1 : SizeOf.sizeOf x < SizeOf.sizeOf v.list := List.sizeOf_lt_of_mem h
  have h2 : SizeOf.sizeOf x.list < SizeOf.sizeOf x := by
    obtain ⟨a, b, c, l, n⟩ := x
    simp only [Val.mk.sizeOf_spec, Val.list_mk]; omega
  omega
theorem ev_copyWithin : ∀ v : Val, Bd 1048576 v → ∀ up : List (List Val), (∀ u ∈ up, SizeOf.sizeOf v.list < SizeOf.sizeOf u) → Ev (fun k => m_impl_copyWithin k v up) v := by
  apply Val.ind
  intro v ih h up hup
  have hl := h.list
  have hn := h.names
  rw [ev_shift]; simp only [m_impl_copyWithin, copyTexts_eq v.names hn, spanOf_eq, Option.bind_some]
  by_cases h0 : v.list = []
  · exact ev_ifT (by rw [h0]; rfl) (ev_eq (ev_some _) (by obtain ⟨a, b, c, l, n⟩ := v; simp only [Val.list_mk] at h0; subst h0; rfl))
  · have hp : 0 < v.list.length := List.length_pos_iff.2 h0
    refine ev_ifF (by omega) (Ev.go (s := ()) (ev_chain v.list up fun u hu e => by have := hup u hu; rw [e] at this; omega) (ev_ifT (by omega) (ev_ifT (by omega) (Ev.go (s := v.list) ?_ (ev_eq (ev_some _) (by cases v; rfl))))))
    have := ev_copy (L := fun k x i => m_impl_copyWithin_l2 k v up v.list x i) v.list (Val.mk 0 0 ([] : Bs) [] []) (fun i x r hi hx h' => by
      rw [ev_shift]; simp only [m_impl_copyWithin_l2]
      rw [wrap_id (n := (i : Int) + 1) (by omega), ix_nat hi]
      refine ev_ifT (by omega) (ev_ifT (by omega) (Ev.bind (ih _ (List.getElem_mem hi) (h.within _ (List.getElem_mem hi)) (v.list :: up) (fun u hu => ?_)) (ev_ifT (by omega) (by simpa using h'))))
      have hs := sizeOf_within (List.getElem_mem hi)
      rcases List.mem_cons.1 hu with rfl | hu
      · exact hs
      · have := hup u hu; omega) (fun x => by
      rw [ev_shift]; simp only [m_impl_copyWithin_l2]
      exact ev_ifF (by omega) (ev_some _))
    simpa using this
end Go.Proofs.Ytiaigcdckmpepaa
