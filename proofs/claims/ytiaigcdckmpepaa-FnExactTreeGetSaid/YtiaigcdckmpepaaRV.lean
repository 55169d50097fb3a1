/- What a law is handed reads as a plain value; the conditions stand in each theorem. -/
import Derived.Test.YtiaigcdckmpepaaR1
import Derived.Test.YtiaigcdckmpepaaE2
/-! Values that are handed in. -/
set_option linter.unusedVariables false
namespace Go.Proofs.Ytiaigcdckmpepaa
open Go.Bb

def valTypes : List TypeId := [25, 3, 9, 22, 23]
theorem rd_strs {n : Nat} {avs : List AV} (h : rd Try.prog n 23 avs) : ∃ l : List Bs, avs = [.sl false (l.map encS)] := by
  obtain ⟨rows, rfl, hrs⟩ := rd_slice Try.underlying23 h
  obtain ⟨l, rfl⟩ := rows_of (f := encS) fun r hr => rd_string Try.underlying9 (hrs r hr)
  exact ⟨l, rfl⟩
theorem rd_val (n : Nat) : ∀ (avs : List AV), rd Try.prog n 25 avs → ∃ v, avs = encLVal v := by
  induction n using Nat.strongRecOn with
  | ind n ih =>
    intro avs h
    obtain ⟨parts, hn, e, h'⟩ := rd_struct Try.underlying25 h
    obtain ⟨p1, q1, rfl, h1, h'⟩ := rdF_cons h'
    obtain ⟨p2, q2, rfl, h2, h'⟩ := rdF_cons h'
    obtain ⟨p3, q3, rfl, h3, h'⟩ := rdF_cons h'
    obtain ⟨p4, q4, rfl, h4, h'⟩ := rdF_cons h'
    obtain ⟨p5, q5, rfl, h5, h'⟩ := rdF_cons h'
    obtain rfl := rdF_nil h'
    obtain ⟨a, rfl, _⟩ := rd_int Try.underlying3 h1
    obtain ⟨b, rfl, _⟩ := rd_int Try.underlying3 h2
    obtain ⟨s, rfl⟩ := rd_string Try.underlying9 h3
    obtain ⟨rows, rfl, hrs⟩ := rd_slice Try.underlying22 h4
    obtain ⟨ns, rfl⟩ := rd_strs h5
    obtain ⟨l, rfl⟩ := rows_of (f := encLVal) fun r hr => ih (n - 1 - 1) (by omega) r (hrs r hr)
    exact ⟨.mk a b s l ns, by rw [e, encLVal_eq]; simp⟩
end Go.Proofs.Ytiaigcdckmpepaa
