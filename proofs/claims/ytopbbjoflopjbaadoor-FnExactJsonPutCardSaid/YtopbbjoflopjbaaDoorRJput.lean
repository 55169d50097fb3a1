/- The row FnExactJsonPut holds as it is said; no condition. -/
import Derived.Test.YtopbbjoflopjbaaDoorTie
import Derived.Test.YtopbbjoflopjbaaDoorCards
import Derived.Test.YtopbbjoflopjbaaDoorR2
import Derived.Test.YtopbbjoflopjbaaDoorJ3
import Derived.WalkKit
import Derived.OpenShut
import Derived.ShutString
import Derived.ChangeOld
import Derived.ProofKit
import Derived.LaidMore
import Derived.Lay
import Derived.SevenTiedAt
import Derived.Stop.Joined
/-! The row FnExactJsonPut. -/
set_option linter.unusedVariables false
set_option maxRecDepth 100000
namespace Go.Proofs.YtopbbjoflopjbaaDoor.fnExactJsonPut
open Go Go.Bb Go.ChangeShapes Go.WideShapes Go.ChangeAt Go.RowKit

theorem own : ownKnob Tryd.prog.godebug = none := by kernel_rfl
theorem laidOut : laidOutB Tryd.prog = true := by kernel_rfl
theorem lifted (os : Os) (started : os.Started) (H : Type) (enc : TypeId × Value → H) :
    ReturnsInHanded {} Tryd.checked os 6 .any (fun w args => (Rows.fnExactJsonPutSpec.pre enc Tryd.prog Tryd.f6 Rows.fnExactJsonPutRow.domain false w args ∧ laidMetH Tryd.prog Rows.fnExactJsonPutRow.laid w) ∧ sizedMet enc Tryd.prog Tryd.f6 (OpenSpec.ofChange Rows.fnExactJsonPutSpec) false w args) (Rows.fnExactJsonPutSpec.post enc Tryd.prog Tryd.f6 false true false false) := by
  refine returnsInHanded_of_change_and (C := Tryd.checked) (X := fun w _ => laidMetH Tryd.prog Rows.fnExactJsonPutRow.laid w) (fun _ _ _ hh h => h.of_heap hh) own started (by kernel_rfl) Tryd.func6
    (ChangeSpec.witness_shaped (enc := enc) (C := Tryd.checked) (os := os) (X := fun w _ => laidMetH Tryd.prog Rows.fnExactJsonPutRow.laid w) false (World.laidAll Tryd.prog os Rows.fnExactJsonPutRow.laid) #[.agg #[.int .i64 0, .int .i64 0, .string ByteArray.empty, .slice none 0 0, .slice none 0 0]] 8 (World.laidAll_os _ _ _)
      (World.shaped_of_ZipB (by kernel_rfl) (by kernel_rfl)) (by kernel_rfl) (by kernel_rfl) (by kernel_rfl)
      (by rw [MakeChecks.laidMetH_plain _ _ _ (by kernel_rfl)]; exact laidMet_laidAll _ (by kernel_rfl) (by kernel_rfl))) ?_
  intro W base args ds gs before hval0 hW hcnd hsz0 hL _
  have hval : ∀ (j : Nat) t v, Tryd.f6.params[j]? = some t → args[j]? = some v → Value.okWide Tryd.prog W .any base t v := hval0
  have hW' := hW
  obtain ⟨p, q, hA0, hV, rfl, hfz, hnd⟩ := hW
  have hA : DataW.TrodAll enc Tryd.prog W 0 (fun _ => true) true Tryd.f6.params.toList args.toList ds p := hA0
  rw [Tryd.params6] at hA hval
  obtain ⟨v0, vs0, d0, ds0, p0, q0, hargs, rfl, rfl, h0, r0⟩ := trodAll_cons hA
  obtain ⟨rfl, rfl, rfl⟩ := trodAll_nil r0
  obtain rfl : args = #[v0] := by cases args; simp_all
  obtain ⟨rfl, rfl⟩ := trodVars_none hV
  clear hA0 hval0 hsz0 hA
  obtain ⟨n0, av0, hrel0, harg0⟩ := arg_rd (L := valTypes) (by kernel_rfl) (by kernel_rfl) (hval 0 37 v0 rfl rfl) h0
  obtain ⟨avs0, rfl, hrd0⟩ := argOf_struct Tryd.underlying37 harg0
  obtain ⟨t0, rfl⟩ := rd_val n0 avs0 hrd0
  have f0 := rel_val t0 (rel_agg hrel0)
  rw [encLVal_eq] at hrel0
  have lt0 : ∀ x ∈ p0, x.block < W.heap.size := by obtain ⟨m, hm⟩ := h0; exact DataW.trod_lt m _ _ _ hm
  obtain ⟨k, hk⟩ := law_JsonPut t0 f0
  have htab := tab_laid hL
  refine (law_walkT htab (m_laws_FnExactJsonPut_ok k t0 true hk) (relVs_of (vs := [v0]) (.cons hrel0 (.nil)))).mono fun e W' ⟨he, bel⟩ => ?_
  subst he
  exact ⟨_, rfl, _, _, _, [], _, [], hW', trodAll_mk1 (shut_bool Tryd.underlying4 _), (trodAll_cons_mk (Below.trod laidOut (by kernel_rfl) (of_decide_eq_true (by kernel_rfl)) h0 bel lt0) trodAll_mk0), rfl, bel.frame _, fun h => by cases h⟩
theorem joined : joinedFacts Tryd.prog 6 Tryd.f6 Rows.fnExactJsonPutSpec Rows.fnExactJsonPutRow = true := by kernel_rfl
theorem fnamed : Tryd.prog.funcNamed Rows.fnExactJsonPutRow.func = some 6 := by kernel_rfl
theorem inst : Tryd.f6.isInstance Tryd.prog Rows.fnExactJsonPutRow.origin Rows.fnExactJsonPutRow.targs := of_decide_eq_true (by kernel_rfl)
theorem wrapper : Tryd.f6.isWrapper Tryd.prog Rows.fnExactJsonPutRow.wrapper Rows.fnExactJsonPutRow.mainSum := by
  unfold Func.isWrapper
  first | (rw [if_pos (by decide +kernel)]; kernel_rfl) | (rw [if_neg (by decide +kernel)]; exact ⟨rfl, rfl⟩)
theorem over : Rows.fnExactJsonPutRow.holds Tryd.pinned (OpenSpec.ofChange Rows.fnExactJsonPutSpec) :=
  OpenClaim.holds_of_wide 6 Tryd.f6 rfl rfl rfl rfl rfl rfl rfl ⟨rfl, rfl, rfl, rfl, rfl⟩ rfl rfl rfl rfl rfl fnamed Tryd.func6 joined inst wrapper
    (fun os started H enc _ => lifted os started H enc)
theorem proved : Rows.FnExactJsonPutCardSaid :=
  Claim7.holds_tied_plain_at .later [] [.data, .data, .data] true (true, "80ce9bd7c33ba0b4e8c0a290319056034e7137b3c62a5f79a68aaf4989af99bd") true over (fun _ h => by cases h) (by kernel_rfl) (fun _ h => by cases h) fnExactJsonPut_row_tie rfl ⟨rfl, rfl⟩ (by kernel_rfl) rfl
    (fun f fn hf hfn => by
      obtain rfl : f = 6 := Option.some.inj (fnamed.symm.trans hf) |>.symm
      obtain rfl : fn = Tryd.f6 := (Option.some.inj (Tryd.func6.symm.trans hfn)).symm
      exact ⟨by kernel_rfl, fun j t ht => by
        rw [Tryd.params6] at ht
        have hm : t ∈ [37] := by simpa using Array.mem_of_getElem? ht
        have hall : ([37].all fun u => !Tryd.prog.wantsStandIn u) = true := by kernel_rfl
        exact (show Tryd.prog.wantsStandIn t = false by simpa using List.all_eq_true.1 hall t hm)⟩)
    (by kernel_rfl)
end Go.Proofs.YtopbbjoflopjbaaDoor.fnExactJsonPut
namespace Go.Proofs.YtopbbjoflopjbaaDoor
/-- The row's tied card, under a short name, for the claim. -/
theorem fnExactJsonPutCard_holds : Rows.FnExactJsonPutCardSaid := fnExactJsonPut.proved
#print axioms fnExactJsonPutCard_holds
end Go.Proofs.YtopbbjoflopjbaaDoor
