/- The law that a type is read back from its text, as a plain function, answers that all is well; the conditions stand in each theorem. -/
import Derived.Test.YtopbbjoflopjbaaE16
import Derived.Test.YtopbbjoflopjbaaGLtt
/-! The law of types and their texts. -/
set_option linter.unusedVariables false
set_option linter.unusedSimpArgs false
namespace Go.Proofs.Ytopbbjoflopjbaa
open Go.Bb

theorem read_ok {s : Bs} (h : (readT s).2 = true) : okT 3 (readT s).1 = true ∧ s = putT (readT s).1 := by
  unfold readT at h ⊢
  by_cases hw : (winT 3 s).2 = true
  · rw [if_pos hw]
    exact win_ok 3 s _ (by rw [← hw])
  · rw [if_neg hw] at h; cases h
theorem read_put {t : Typ} (h : okT 3 t = true) : readT (putT t) = (t, true) := by
  unfold readT
  rw [win_put 2 t h]; rfl
theorem read_nil : readT [] = (zT, false) := by simp [readT, winT, cutB, nameOk]
theorem putT_ne {t : Typ} (h : okT 3 t = true) : putT t ≠ [] := by
  obtain ⟨n, of, m⟩ := t
  cases of with
  | nil =>
    rw [okT_nil] at h
    rw [putT_nil]
    have := nameOk_ne h
    simp [this]
  | cons t l => rw [putT_cons]; simp
theorem text_len (t : Typ) : (textT t).length ≤ 1048576 := by
  unfold textT
  by_cases h : okT 3 t = true
  · rw [if_pos h]; have := ok_len 3 t h; omega
  · rw [if_neg h]; simp

theorem law_TypeText (a b : List Int) (ha : a.length ≤ maxLen) (h1 : ∀ x ∈ a, 0 ≤ x ∧ x ≤ 255) (hb : b.length ≤ maxLen) (h2 : ∀ x ∈ b, 0 ≤ x ∧ x ≤ 255) : ∃ k, m_laws_FnTypeText k a b = some true := by
  refine Ev.get (m := fun k => m_laws_FnTypeText k a b) ?_
  obtain ⟨t, g1, g2⟩ := typePut_drawn h1
  obtain ⟨s, k1, k2⟩ := typeGet_drawn h2
  simp only [m_laws_FnTypeText]
  have first : ∃ c, Ev (fun _ : Nat => if 1048576 < (a.length : Int) then some (Lp.go (β := Bool) true) else some (Lp.go (decide (1048576 < (b.length : Int))))) (.go c) := by
    by_cases c : 1048576 < (a.length : Int)
    · exact ⟨_, ev_ifT c (ev_some _)⟩
    · exact ⟨_, ev_ifF c (ev_some _)⟩
  obtain ⟨c, hc⟩ := first
  refine Ev.go hc (ev_ite (fun _ => ev_some _) (fun _ => ?_))
  refine Ev.bind g1 (Ev.bind (ev_iTypePut t g2) (Ev.bind (ev_iTypeGet _ (text_len t)) ?_))
  have hfst : Ev (fun k => (m_spec_TypePut k t).bind fun y9 => if textT t = y9 then if (readT (textT t)).2 = (!(decide (textT t = []))) then if (readT (textT t)).2 = true then (m_laws_pgType k (readT (textT t)).1 t).bind fun y10 => some (Lp.go (β := Bool) (!y10)) else some (Lp.go false) else some (Lp.go true) else some (Lp.go true)) (.go false) := by
    refine Ev.bind (ev_sTypePut t g2) (ev_ifT rfl ?_)
    unfold textT
    by_cases h : okT 3 t = true
    · simp only [if_pos h, read_put h]
      exact ev_ifT (by simp [putT_ne h]) (ev_ifT trivial (Ev.bind (ev_pgType t g2) (ev_eq (ev_some _) rfl)))
    · simp only [if_neg h, read_nil]
      exact ev_ifT (by simp) (ev_ifF (by simp) (ev_some _))
  refine Ev.go hfst (ev_ifF (by simp) ?_)
  refine Ev.bind k1 (Ev.bind (ev_iTypeGet s k2) (Ev.bind (ev_sTypeGet s k2) (ev_ifT rfl (Ev.bind (ev_pgType _ (read_bd s k2)) (ev_ifT rfl ?_)))))
  refine ev_ite (fun h => ?_) (fun _ => ev_some _)
  obtain ⟨o1, o2⟩ := read_ok h
  refine Ev.bind (ev_iTypePut _ (read_bd s k2)) (ev_eq (ev_some _) ?_)
  unfold textT
  rw [if_pos o1, ← o2]; simp
end Go.Proofs.Ytopbbjoflopjbaa
