/- More of what is handed in; the conditions stand in each theorem. -/
import Derived.Test.YtiaigcdckmpepaaRV
/-! Arguments. -/
set_option linter.unusedVariables false
set_option maxRecDepth 100000
namespace Go.Bb
section
variable {P : Program} {t : TypeId} {n : Nat}
theorem argOf_slice {e : TypeId} {av : AV} (hu : P.underlying t = some (.slice e)) (h : argOf P n t av) : rd P n t [av] := by
  simp only [argOf, hu] at h; exact h
theorem argOf_string {av : AV} (hu : P.underlying t = some .string) (h : argOf P n t av) : ∃ l, av = .str l := by
  simp only [argOf, hu] at h
  obtain ⟨l, hl⟩ := rd_string hu h
  exact ⟨l, by simpa using hl⟩
theorem argOf_int {k : IntKind} {av : AV} (hu : P.underlying t = some (.int k)) (h : argOf P n t av) : ∃ i, av = .int k i ∧ (Lit.int k i).wf = true := by
  simp only [argOf, hu] at h
  obtain ⟨l, hl, h2⟩ := rd_int hu h
  exact ⟨l, by simpa using hl, h2⟩
theorem relVs_of {N : Nat → Prop} {w : World} {avs : List AV} {vs : List Value} (h : RelL N w avs vs) : RelVs N w avs vs.toArray := by
  refine ⟨by simp [h.len], fun i av v h1 h2 => ?_⟩
  obtain ⟨u, h3, h4⟩ := h.get i av h1
  simp only [List.getElem?_toArray] at h2
  rw [h3] at h2; cases h2; exact h4
end
end Go.Bb
namespace Go.Proofs.Ytiaigcdckmpepaa
open Go.Bb
theorem arg_strs {n : Nat} {av : AV} (h : argOf Try.prog n 23 av) : ∃ l : List Bs, av = .sl false (l.map encS) := by
  obtain ⟨l, hl⟩ := rd_strs (argOf_slice Try.underlying23 h)
  exact ⟨l, by simpa using hl⟩
theorem arg_bytes {n : Nat} {av : AV} (h : argOf Try.prog n 42 av) : ∃ l : List Int, av = .sl false (l.map (encI .u8)) ∧ ∀ x ∈ l, 0 ≤ x ∧ x ≤ 255 := by
  obtain ⟨rows, h1, h2⟩ := rd_slice Try.underlying42 (argOf_slice Try.underlying42 h)
  obtain ⟨l, hl⟩ := rows_of (f := fun x : { x : Int // 0 ≤ x ∧ x ≤ 255 } => encI .u8 x.1) fun r hr => by
    obtain ⟨i, h3, h4⟩ := rd_int Try.underlying5 (h2 r hr)
    refine ⟨⟨i, ?_⟩, h3⟩
    simp [Lit.wf, IntKind.min, IntKind.max, IntKind.signed, IntKind.bits] at h4
    omega
  refine ⟨l.map (·.1), ?_, fun x hx => ?_⟩
  · have : av = .sl false rows := by simpa using h1
    rw [this, hl, List.map_map]; rfl
  · obtain ⟨y, _, rfl⟩ := List.mem_map.1 hx
    exact y.2
end Go.Proofs.Ytiaigcdckmpepaa
