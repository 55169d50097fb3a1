/- The row FnTreeGet holds as it is said; no condition. -/
import Derived.Test.YtiaigcdckmpepaaXT6
import Derived.Test.YtiaigcdckmpepaaRows
import Derived.WalkKit
import Derived.OpenShut
import Derived.ShutString
import Derived.ChangeOld
/-! The row FnTreeGet. -/
set_option linter.unusedVariables false
set_option maxRecDepth 100000
namespace Go.Proofs.Ytiaigcdckmpepaa.fnTreeGet
open Go Go.Bb Go.ChangeShapes Go.WideShapes Go.ChangeAt Go.RowKit

theorem own : ownKnob Try.prog.godebug = none := by kernel_rfl
theorem laidOut : laidOutB Try.prog = true := by kernel_rfl
theorem lifted (os : Os) (started : os.Started) (H : Type) (enc : TypeId × Value → H) :
    ReturnsInHanded {} Try.checked os 8 .any (Rows.fnTreeGetSpec.pre6 enc Try.prog Try.f8 Rows.fnTreeGetRow.domain false) (Rows.fnTreeGetSpec.post enc Try.prog Try.f8 false true false false) := by
  refine returnsInHanded_of_change_sized (C := Try.checked) own started (by kernel_rfl) Try.func8
    (ChangeSpec.witness6 (enc := enc) (C := Try.checked) false ⟨#[], #[.slice none 0 0], []⟩ 8 (by kernel_rfl) (by kernel_rfl) (by kernel_rfl) (by kernel_rfl)) ?_
  intro W base args ds gs before hval0 hW hcnd hsz0 _
  have hval : ∀ (j : Nat) t v, Try.f8.params[j]? = some t → args[j]? = some v → Value.okWide Try.prog W .any base t v := hval0
  have hW' := hW
  obtain ⟨p, q, hA0, hV, rfl, hfz, hnd⟩ := hW
  have hA : DataW.TrodAll enc Try.prog W 0 (fun _ => true) true Try.f8.params.toList args.toList ds p := hA0
  rw [Try.params8] at hA hval
  obtain ⟨v0, vs0, d0, ds0, p0, q0, hargs, rfl, rfl, h0, r0⟩ := trodAll_cons hA
  obtain ⟨rfl, rfl, rfl⟩ := trodAll_nil r0
  obtain rfl : args = #[v0] := by cases args; simp_all
  obtain ⟨rfl, rfl⟩ := trodVars_none hV
  clear hA0 hval0 hsz0 hA
  obtain ⟨n0, av0, hrel0, harg0⟩ := arg_rd (L := [42, 5]) (by kernel_rfl) (by kernel_rfl) (hval 0 42 v0 rfl rfl) h0
  obtain ⟨t0, rfl, g0⟩ := arg_bytes harg0
  have f0 := (rel_sl hrel0).1
  have lt0 : ∀ x ∈ p0, x.block < W.heap.size := by obtain ⟨m, hm⟩ := h0; exact DataW.trod_lt m _ _ _ hm
  obtain ⟨k, hk⟩ := law_FnTreeGet t0 (by simpa using f0) g0
  refine (law_walk (m_laws_FnTreeGet_ok k t0 true hk) (relVs_of (vs := [v0]) (.cons hrel0 (.nil)))).mono fun e W' ⟨he, bel⟩ => ?_
  subst he
  exact ⟨_, rfl, _, _, _, [], _, [], hW', trodAll_mk1 (shut_bool Try.underlying4 _), (trodAll_cons_mk (Below.trod laidOut (by kernel_rfl) (of_decide_eq_true (by kernel_rfl)) h0 bel lt0) trodAll_mk0), rfl, bel.frame _, fun h => by cases h⟩
theorem joined : joinedFacts Try.prog 8 Try.f8 Rows.fnTreeGetSpec Rows.fnTreeGetRow = true := by kernel_rfl
theorem fnamed : Try.prog.funcNamed Rows.fnTreeGetRow.func = some 8 := by kernel_rfl
theorem inst : Try.f8.isInstance Try.prog Rows.fnTreeGetRow.origin Rows.fnTreeGetRow.targs := of_decide_eq_true (by kernel_rfl)
theorem wrapper : Try.f8.isWrapper Try.prog Rows.fnTreeGetRow.wrapper Rows.fnTreeGetRow.mainSum := by
  unfold Func.isWrapper
  first | (rw [if_pos (by decide +kernel)]; kernel_rfl) | (rw [if_neg (by decide +kernel)]; exact ⟨rfl, rfl⟩)
theorem over : Rows.fnTreeGetRow.holds Try.pinned (OpenSpec.ofChange Rows.fnTreeGetSpec) :=
  OpenClaim.holds_of_wide 8 Try.f8 rfl rfl rfl rfl rfl rfl rfl ⟨rfl, rfl, rfl, rfl, rfl⟩ rfl rfl rfl rfl rfl fnamed Try.func8 joined inst wrapper
    (fun os started H enc _ => lifted os started H enc)
theorem proved : Rows.FnTreeGetSaid := over
end Go.Proofs.Ytiaigcdckmpepaa.fnTreeGet
namespace Go.Proofs.Ytiaigcdckmpepaa
/-- The row, under a short name, for the claim. -/
theorem fnTreeGet_holds : Rows.FnTreeGetSaid := fnTreeGet.proved
#print axioms fnTreeGet_holds
end Go.Proofs.Ytiaigcdckmpepaa
