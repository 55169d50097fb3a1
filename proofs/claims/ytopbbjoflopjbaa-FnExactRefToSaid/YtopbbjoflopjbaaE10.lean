/- The law of RefTo, as a plain function, answers that all is well; the conditions stand in each theorem. -/
import Derived.Test.YtopbbjoflopjbaaE9
/-! The law of RefTo. -/
set_option linter.unusedVariables false
set_option linter.unusedSimpArgs false
namespace Go.Proofs.Ytopbbjoflopjbaa
open Go.Bb

def refV (a : Int) : Val := if 0 ≤ a ∧ a ≤ 2147483647 then .mk 5 0 [] [.mk 2 a [] [] []] [[114, 101, 102]] else .mk 0 0 [] [] []
theorem bd_leaf {M : Nat} (a b : Int) (s : Bs) (h : s.length ≤ M) : Bd M (.mk a b s [] []) := .mk _ h (Nat.zero_le _) (Nat.zero_le _) (fun s hs => by cases hs) (fun s hs => by cases hs)
theorem refV_bd (a : Int) : Bd 1048576 (refV a) := by
  unfold refV
  split
  · refine .mk _ (by simp) (by simp) (by simp) (fun s hs => ?_) (fun x hx => ?_)
    · simp at hs; subst hs; simp
    · simp at hx; subst hx; exact bd_leaf _ _ _ (by simp)
  · exact bd_leaf _ _ _ (by simp)
theorem refV_wt (a : Int) : wtV (refV a) ≤ 100 := by
  unfold refV
  split <;> simp [wtV, wtVs]
theorem sRef (a : Int) : m_spec_RefTo a = some (refV a) := by
  simp only [m_spec_RefTo, m_spec_l1In, refV]
  by_cases h1 : 0 ≤ a <;> by_cases h2 : a ≤ 2147483647 <;> simp [h1, h2]
theorem iRef (a : Int) : m_impl_RefTo a = some (refV a) := by
  simp only [m_impl_RefTo, refV]
  by_cases h1 : a < 0
  · have h3 : ¬ (0 ≤ a ∧ a ≤ 2147483647) := by omega
    simp [h1, h3, Lp.then]
  · by_cases h2 : 2147483647 < a
    · have h3 : ¬ (0 ≤ a ∧ a ≤ 2147483647) := by omega
      simp [h1, h2, h3, Lp.then]
    · have h3 : 0 ≤ a ∧ a ≤ 2147483647 := by omega
      simp [h1, h2, h3, Lp.then]

theorem law_RefTo (a : Int) (h : (Lit.int .i64 a).wf = true) : ∃ k, m_laws_FnExactRefTo k a = some true := by
  refine Ev.get (m := fun k => m_laws_FnExactRefTo k a) ?_
  simp only [m_laws_FnExactRefTo, sRef, iRef, Option.bind_some]
  have hq := ev_eqValue (refV a) (refV_bd a)
  obtain ⟨l', ns', m, h1, h2, h3⟩ := ev_markValue (refV a) (refV_bd a) (by have := refV_wt a; omega)
  exact Ev.bind hq (ev_ifT rfl (Ev.bind h1 (Ev.bind h3 (ev_ifF (by omega) (ev_ifT rfl (Ev.bind hq (ev_ifT rfl (Ev.bind h3 (ev_ifF (by omega) (ev_ifT rfl (ev_some _)))))))))))
end Go.Proofs.Ytopbbjoflopjbaa
