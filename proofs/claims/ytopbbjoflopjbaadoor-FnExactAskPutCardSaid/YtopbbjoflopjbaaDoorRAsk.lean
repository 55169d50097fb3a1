/- The row FnExactAskPut holds as it is said; no condition. -/
import Derived.Test.YtopbbjoflopjbaaDoorTie
import Derived.Test.YtopbbjoflopjbaaDoorCards
import Derived.Test.YtopbbjoflopjbaaDoorR2
import Derived.Test.YtopbbjoflopjbaaDoorP8
import Derived.WalkKit
import Derived.OpenShut
import Derived.ShutString
import Derived.ChangeOld
import Derived.ProofKit
import Derived.LaidMore
import Derived.Lay
import Derived.SevenTiedAt
import Derived.Stop.Joined
/-! The row FnExactAskPut. -/
set_option linter.unusedVariables false
set_option maxRecDepth 100000
namespace Go.Proofs.YtopbbjoflopjbaaDoor.fnExactAskPut
open Go Go.Bb Go.ChangeShapes Go.WideShapes Go.ChangeAt Go.RowKit

theorem own : ownKnob Tryd.prog.godebug = none := by kernel_rfl
theorem laidOut : laidOutB Tryd.prog = true := by kernel_rfl
theorem lifted (os : Os) (started : os.Started) (H : Type) (enc : TypeId × Value → H) :
    ReturnsInHanded {} Tryd.checked os 3 .any (fun w args => (Rows.fnExactAskPutSpec.pre enc Tryd.prog Tryd.f3 Rows.fnExactAskPutRow.domain false w args ∧ laidMetH Tryd.prog Rows.fnExactAskPutRow.laid w) ∧ sizedMet enc Tryd.prog Tryd.f3 (OpenSpec.ofChange Rows.fnExactAskPutSpec) false w args) (Rows.fnExactAskPutSpec.post enc Tryd.prog Tryd.f3 false true false false) := by
  refine returnsInHanded_of_change_and (C := Tryd.checked) (X := fun w _ => laidMetH Tryd.prog Rows.fnExactAskPutRow.laid w) (fun _ _ _ hh h => h.of_heap hh) own started (by kernel_rfl) Tryd.func3
    (ChangeSpec.witness_shaped (enc := enc) (C := Tryd.checked) (os := os) (X := fun w _ => laidMetH Tryd.prog Rows.fnExactAskPutRow.laid w) false (World.laidAll Tryd.prog os Rows.fnExactAskPutRow.laid) #[.string ByteArray.empty, .string ByteArray.empty, .string ByteArray.empty] 8 (World.laidAll_os _ _ _)
      (World.shaped_of_ZipB (by kernel_rfl) (by kernel_rfl)) (by kernel_rfl) (by kernel_rfl) (by kernel_rfl)
      (by rw [MakeChecks.laidMetH_plain _ _ _ (by kernel_rfl)]; exact laidMet_laidAll _ (by kernel_rfl) (by kernel_rfl))) ?_
  intro W base args ds gs before hval0 hW hcnd hsz0 hL _
  have hval : ∀ (j : Nat) t v, Tryd.f3.params[j]? = some t → args[j]? = some v → Value.okWide Tryd.prog W .any base t v := hval0
  have hW' := hW
  obtain ⟨p, q, hA0, hV, rfl, hfz, hnd⟩ := hW
  have hA : DataW.TrodAll enc Tryd.prog W 0 (fun _ => true) true Tryd.f3.params.toList args.toList ds p := hA0
  rw [Tryd.params3] at hA hval
  obtain ⟨v0, vs0, d0, ds0, p0, q0, hargs, rfl, rfl, h0, r0⟩ := trodAll_cons hA
  obtain ⟨v1, vs1, d1, ds1, p1, q1, hargs1, rfl, rfl, h1, r1⟩ := trodAll_cons r0
  obtain ⟨v2, vs2, d2, ds2, p2, q2, hargs2, rfl, rfl, h2, r2⟩ := trodAll_cons r1
  obtain ⟨rfl, rfl, rfl⟩ := trodAll_nil r2
  obtain rfl : args = #[v0, v1, v2] := by cases args; simp_all
  obtain ⟨rfl, rfl⟩ := trodVars_none hV
  clear hA0 hval0 hsz0 hA
  obtain ⟨n0, av0, hrel0, harg0⟩ := arg_rd (L := [9]) (by kernel_rfl) (by kernel_rfl) (hval 0 9 v0 rfl rfl) h0
  obtain ⟨t0, rfl⟩ := argOf_string Tryd.underlying9 harg0
  have f0 := rel_str hrel0
  have lt0 : ∀ x ∈ p0, x.block < W.heap.size := by obtain ⟨m, hm⟩ := h0; exact DataW.trod_lt m _ _ _ hm
  obtain ⟨n1, av1, hrel1, harg1⟩ := arg_rd (L := [9]) (by kernel_rfl) (by kernel_rfl) (hval 1 9 v1 rfl rfl) h1
  obtain ⟨t1, rfl⟩ := argOf_string Tryd.underlying9 harg1
  have f1 := rel_str hrel1
  have lt1 : ∀ x ∈ p1, x.block < W.heap.size := by obtain ⟨m, hm⟩ := h1; exact DataW.trod_lt m _ _ _ hm
  obtain ⟨n2, av2, hrel2, harg2⟩ := arg_rd (L := [9]) (by kernel_rfl) (by kernel_rfl) (hval 2 9 v2 rfl rfl) h2
  obtain ⟨t2, rfl⟩ := argOf_string Tryd.underlying9 harg2
  have f2 := rel_str hrel2
  have lt2 : ∀ x ∈ p2, x.block < W.heap.size := by obtain ⟨m, hm⟩ := h2; exact DataW.trod_lt m _ _ _ hm
  obtain ⟨k, hk⟩ := law_AskPut t0 t1 t2 f0 f1 f2
  have htab := tab_laid hL
  refine (law_walkT htab (m_laws_FnExactAskPut_ok k t0 t1 t2 true hk) (relVs_of (vs := [v0, v1, v2]) (.cons hrel0 (.cons hrel1 (.cons hrel2 (.nil)))))).mono fun e W' ⟨he, bel⟩ => ?_
  subst he
  exact ⟨_, rfl, _, _, _, [], _, [], hW', trodAll_mk1 (shut_bool Tryd.underlying4 _), (trodAll_cons_mk (Below.trod laidOut (by kernel_rfl) (of_decide_eq_true (by kernel_rfl)) h0 bel lt0) (trodAll_cons_mk (Below.trod laidOut (by kernel_rfl) (of_decide_eq_true (by kernel_rfl)) h1 bel lt1) (trodAll_cons_mk (Below.trod laidOut (by kernel_rfl) (of_decide_eq_true (by kernel_rfl)) h2 bel lt2) trodAll_mk0))), rfl, bel.frame _, fun h => by cases h⟩
theorem joined : joinedFacts Tryd.prog 3 Tryd.f3 Rows.fnExactAskPutSpec Rows.fnExactAskPutRow = true := by kernel_rfl
theorem fnamed : Tryd.prog.funcNamed Rows.fnExactAskPutRow.func = some 3 := by kernel_rfl
theorem inst : Tryd.f3.isInstance Tryd.prog Rows.fnExactAskPutRow.origin Rows.fnExactAskPutRow.targs := of_decide_eq_true (by kernel_rfl)
theorem wrapper : Tryd.f3.isWrapper Tryd.prog Rows.fnExactAskPutRow.wrapper Rows.fnExactAskPutRow.mainSum := by
  unfold Func.isWrapper
  first | (rw [if_pos (by decide +kernel)]; kernel_rfl) | (rw [if_neg (by decide +kernel)]; exact ⟨rfl, rfl⟩)
theorem over : Rows.fnExactAskPutRow.holds Tryd.pinned (OpenSpec.ofChange Rows.fnExactAskPutSpec) :=
  OpenClaim.holds_of_wide 3 Tryd.f3 rfl rfl rfl rfl rfl rfl rfl ⟨rfl, rfl, rfl, rfl, rfl⟩ rfl rfl rfl rfl rfl fnamed Tryd.func3 joined inst wrapper
    (fun os started H enc _ => lifted os started H enc)
theorem proved : Rows.FnExactAskPutCardSaid :=
  Claim7.holds_tied_plain_at .later [] [.data, .data, .data] true (true, "80ce9bd7c33ba0b4e8c0a290319056034e7137b3c62a5f79a68aaf4989af99bd") true over (fun _ h => by cases h) (by kernel_rfl) (fun _ h => by cases h) fnExactAskPut_row_tie rfl ⟨rfl, rfl⟩ (by kernel_rfl) rfl
    (fun f fn hf hfn => by
      obtain rfl : f = 3 := Option.some.inj (fnamed.symm.trans hf) |>.symm
      obtain rfl : fn = Tryd.f3 := (Option.some.inj (Tryd.func3.symm.trans hfn)).symm
      exact ⟨by kernel_rfl, fun j t ht => by
        rw [Tryd.params3] at ht
        have hm : t ∈ [9, 9, 9] := by simpa using Array.mem_of_getElem? ht
        have hall : ([9, 9, 9].all fun u => !Tryd.prog.wantsStandIn u) = true := by kernel_rfl
        exact (show Tryd.prog.wantsStandIn t = false by simpa using List.all_eq_true.1 hall t hm)⟩)
    (by kernel_rfl)
end Go.Proofs.YtopbbjoflopjbaaDoor.fnExactAskPut
namespace Go.Proofs.YtopbbjoflopjbaaDoor
/-- The row's tied card, under a short name, for the claim. -/
theorem fnExactAskPutCard_holds : Rows.FnExactAskPutCardSaid := fnExactAskPut.proved
#print axioms fnExactAskPutCard_holds
end Go.Proofs.YtopbbjoflopjbaaDoor
