/- The row FnExactValueSorted holds as it is said; no condition. -/
import Derived.Test.YtiaigcdckmpepaaXO6
import Derived.Test.YtiaigcdckmpepaaRows
import Derived.WalkKit
import Derived.OpenShut
import Derived.ShutString
import Derived.ChangeOld
/-! The row FnExactValueSorted. -/
set_option linter.unusedVariables false
set_option maxRecDepth 100000
namespace Go.Proofs.Ytiaigcdckmpepaa.fnExactValueSorted
open Go Go.Bb Go.ChangeShapes Go.WideShapes Go.ChangeAt Go.RowKit

theorem own : ownKnob Try.prog.godebug = none := by kernel_rfl
theorem laidOut : laidOutB Try.prog = true := by kernel_rfl
theorem lifted (os : Os) (started : os.Started) (H : Type) (enc : TypeId × Value → H) :
    ReturnsInHanded {} Try.checked os 7 .any (Rows.fnExactValueSortedSpec.pre6 enc Try.prog Try.f7 Rows.fnExactValueSortedRow.domain false) (Rows.fnExactValueSortedSpec.post enc Try.prog Try.f7 false true false false) := by
  refine returnsInHanded_of_change_sized (C := Try.checked) own started (by kernel_rfl) Try.func7
    (ChangeSpec.witness6 (enc := enc) (C := Try.checked) false ⟨#[], #[.agg #[.int .i64 0, .int .i64 0, .string ByteArray.empty, .slice none 0 0, .slice none 0 0]], []⟩ 8 (by kernel_rfl) (by kernel_rfl) (by kernel_rfl) (by kernel_rfl)) ?_
  intro W base args ds gs before hval0 hW hcnd hsz0 _
  have hval : ∀ (j : Nat) t v, Try.f7.params[j]? = some t → args[j]? = some v → Value.okWide Try.prog W .any base t v := hval0
  have hW' := hW
  obtain ⟨p, q, hA0, hV, rfl, hfz, hnd⟩ := hW
  have hA : DataW.TrodAll enc Try.prog W 0 (fun _ => true) true Try.f7.params.toList args.toList ds p := hA0
  rw [Try.params7] at hA hval
  obtain ⟨v0, vs0, d0, ds0, p0, q0, hargs, rfl, rfl, h0, r0⟩ := trodAll_cons hA
  obtain ⟨rfl, rfl, rfl⟩ := trodAll_nil r0
  obtain rfl : args = #[v0] := by cases args; simp_all
  obtain ⟨rfl, rfl⟩ := trodVars_none hV
  clear hA0 hval0 hsz0 hA
  obtain ⟨n0, av0, hrel0, harg0⟩ := arg_rd (L := valTypes) (by kernel_rfl) (by kernel_rfl) (hval 0 25 v0 rfl rfl) h0
  obtain ⟨avs0, rfl, hrd0⟩ := argOf_struct Try.underlying25 harg0
  obtain ⟨t0, rfl⟩ := rd_val n0 avs0 hrd0
  have f0 := rel_val t0 (rel_agg hrel0)
  rw [encLVal_eq] at hrel0
  have lt0 : ∀ x ∈ p0, x.block < W.heap.size := by obtain ⟨m, hm⟩ := h0; exact DataW.trod_lt m _ _ _ hm
  obtain ⟨k, hk⟩ := law_ValueSorted t0 f0
  refine (law_walk (m_laws_FnExactValueSorted_ok k t0 true hk) (relVs_of (vs := [v0]) (.cons hrel0 (.nil)))).mono fun e W' ⟨he, bel⟩ => ?_
  subst he
  exact ⟨_, rfl, _, _, _, [], _, [], hW', trodAll_mk1 (shut_bool Try.underlying4 _), (trodAll_cons_mk (Below.trod laidOut (by kernel_rfl) (of_decide_eq_true (by kernel_rfl)) h0 bel lt0) trodAll_mk0), rfl, bel.frame _, fun h => by cases h⟩
theorem joined : joinedFacts Try.prog 7 Try.f7 Rows.fnExactValueSortedSpec Rows.fnExactValueSortedRow = true := by kernel_rfl
theorem fnamed : Try.prog.funcNamed Rows.fnExactValueSortedRow.func = some 7 := by kernel_rfl
theorem inst : Try.f7.isInstance Try.prog Rows.fnExactValueSortedRow.origin Rows.fnExactValueSortedRow.targs := of_decide_eq_true (by kernel_rfl)
theorem wrapper : Try.f7.isWrapper Try.prog Rows.fnExactValueSortedRow.wrapper Rows.fnExactValueSortedRow.mainSum := by
  unfold Func.isWrapper
  first | (rw [if_pos (by decide +kernel)]; kernel_rfl) | (rw [if_neg (by decide +kernel)]; exact ⟨rfl, rfl⟩)
theorem over : Rows.fnExactValueSortedRow.holds Try.pinned (OpenSpec.ofChange Rows.fnExactValueSortedSpec) :=
  OpenClaim.holds_of_wide 7 Try.f7 rfl rfl rfl rfl rfl rfl rfl ⟨rfl, rfl, rfl, rfl, rfl⟩ rfl rfl rfl rfl rfl fnamed Try.func7 joined inst wrapper
    (fun os started H enc _ => lifted os started H enc)
theorem proved : Rows.FnExactValueSortedSaid := over
end Go.Proofs.Ytiaigcdckmpepaa.fnExactValueSorted
namespace Go.Proofs.Ytiaigcdckmpepaa
/-- The row, under a short name, for the claim. -/
theorem fnExactValueSorted_holds : Rows.FnExactValueSortedSaid := fnExactValueSorted.proved
#print axioms fnExactValueSorted_holds
end Go.Proofs.Ytiaigcdckmpepaa
