/- The row FnExactJsonGet holds as it is said; no condition. -/
import Derived.Test.YtiaigcdckmpepaaXJ6
import Derived.Test.YtiaigcdckmpepaaRows
import Derived.WalkKit
import Derived.OpenShut
import Derived.ShutString
import Derived.ChangeOld
/-! The row FnExactJsonGet. -/
set_option linter.unusedVariables false
set_option maxRecDepth 100000
namespace Go.Proofs.Ytiaigcdckmpepaa.fnExactJsonGet
open Go Go.Bb Go.ChangeShapes Go.WideShapes Go.ChangeAt Go.RowKit

theorem own : ownKnob Try.prog.godebug = none := by kernel_rfl
theorem laidOut : laidOutB Try.prog = true := by kernel_rfl
theorem lifted (os : Os) (started : os.Started) (H : Type) (enc : TypeId × Value → H) :
    ReturnsInHanded {} Try.checked os 6 .any (Rows.fnExactJsonGetSpec.pre6 enc Try.prog Try.f6 Rows.fnExactJsonGetRow.domain false) (Rows.fnExactJsonGetSpec.post enc Try.prog Try.f6 false true false false) := by
  refine returnsInHanded_of_change_sized (C := Try.checked) own started (by kernel_rfl) Try.func6
    (ChangeSpec.witness6 (enc := enc) (C := Try.checked) false ⟨#[], #[.string ByteArray.empty], []⟩ 8 (by kernel_rfl) (by kernel_rfl) (by kernel_rfl) (by kernel_rfl)) ?_
  intro W base args ds gs before hval0 hW hcnd hsz0 _
  have hval : ∀ (j : Nat) t v, Try.f6.params[j]? = some t → args[j]? = some v → Value.okWide Try.prog W .any base t v := hval0
  have hW' := hW
  obtain ⟨p, q, hA0, hV, rfl, hfz, hnd⟩ := hW
  have hA : DataW.TrodAll enc Try.prog W 0 (fun _ => true) true Try.f6.params.toList args.toList ds p := hA0
  rw [Try.params6] at hA hval
  obtain ⟨v0, vs0, d0, ds0, p0, q0, hargs, rfl, rfl, h0, r0⟩ := trodAll_cons hA
  obtain ⟨rfl, rfl, rfl⟩ := trodAll_nil r0
  obtain rfl : args = #[v0] := by cases args; simp_all
  obtain ⟨rfl, rfl⟩ := trodVars_none hV
  clear hA0 hval0 hsz0 hA
  obtain ⟨n0, av0, hrel0, harg0⟩ := arg_rd (L := [9]) (by kernel_rfl) (by kernel_rfl) (hval 0 9 v0 rfl rfl) h0
  obtain ⟨t0, rfl⟩ := argOf_string Try.underlying9 harg0
  have f0 := rel_str hrel0
  have lt0 : ∀ x ∈ p0, x.block < W.heap.size := by obtain ⟨m, hm⟩ := h0; exact DataW.trod_lt m _ _ _ hm
  obtain ⟨k, hk⟩ := law_JsonGet t0 f0
  refine (law_walk (m_laws_FnExactJsonGet_ok k t0 true hk) (relVs_of (vs := [v0]) (.cons hrel0 (.nil)))).mono fun e W' ⟨he, bel⟩ => ?_
  subst he
  exact ⟨_, rfl, _, _, _, [], _, [], hW', trodAll_mk1 (shut_bool Try.underlying4 _), (trodAll_cons_mk (Below.trod laidOut (by kernel_rfl) (of_decide_eq_true (by kernel_rfl)) h0 bel lt0) trodAll_mk0), rfl, bel.frame _, fun h => by cases h⟩
theorem joined : joinedFacts Try.prog 6 Try.f6 Rows.fnExactJsonGetSpec Rows.fnExactJsonGetRow = true := by kernel_rfl
theorem fnamed : Try.prog.funcNamed Rows.fnExactJsonGetRow.func = some 6 := by kernel_rfl
theorem inst : Try.f6.isInstance Try.prog Rows.fnExactJsonGetRow.origin Rows.fnExactJsonGetRow.targs := of_decide_eq_true (by kernel_rfl)
theorem wrapper : Try.f6.isWrapper Try.prog Rows.fnExactJsonGetRow.wrapper Rows.fnExactJsonGetRow.mainSum := by
  unfold Func.isWrapper
  first | (rw [if_pos (by decide +kernel)]; kernel_rfl) | (rw [if_neg (by decide +kernel)]; exact ⟨rfl, rfl⟩)
theorem over : Rows.fnExactJsonGetRow.holds Try.pinned (OpenSpec.ofChange Rows.fnExactJsonGetSpec) :=
  OpenClaim.holds_of_wide 6 Try.f6 rfl rfl rfl rfl rfl rfl rfl ⟨rfl, rfl, rfl, rfl, rfl⟩ rfl rfl rfl rfl rfl fnamed Try.func6 joined inst wrapper
    (fun os started H enc _ => lifted os started H enc)
theorem proved : Rows.FnExactJsonGetSaid := over
end Go.Proofs.Ytiaigcdckmpepaa.fnExactJsonGet
namespace Go.Proofs.Ytiaigcdckmpepaa
/-- The row, under a short name, for the claim. -/
theorem fnExactJsonGet_holds : Rows.FnExactJsonGetSaid := fnExactJsonGet.proved
#print axioms fnExactJsonGet_holds
end Go.Proofs.Ytiaigcdckmpepaa
