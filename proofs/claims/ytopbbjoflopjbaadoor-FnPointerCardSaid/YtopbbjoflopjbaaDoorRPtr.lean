/- The row FnPointer holds as it is said; no condition. -/
import Derived.Test.YtopbbjoflopjbaaDoorTie
import Derived.Test.YtopbbjoflopjbaaDoorCards
import Derived.Test.YtopbbjoflopjbaaDoorR2
import Derived.Test.YtopbbjoflopjbaaDoorP6
import Derived.WalkKit
import Derived.OpenShut
import Derived.ShutString
import Derived.ChangeOld
import Derived.ProofKit
import Derived.LaidMore
import Derived.Lay
import Derived.SevenTiedAt
import Derived.Stop.Joined
/-! The row FnPointer. -/
set_option linter.unusedVariables false
set_option maxRecDepth 100000
namespace Go.Proofs.YtopbbjoflopjbaaDoor.fnPointer
open Go Go.Bb Go.ChangeShapes Go.WideShapes Go.ChangeAt Go.RowKit

theorem own : ownKnob Tryd.prog.godebug = none := by kernel_rfl
theorem laidOut : laidOutB Tryd.prog = true := by kernel_rfl
theorem lifted (os : Os) (started : os.Started) (H : Type) (enc : TypeId × Value → H) :
    ReturnsInHanded {} Tryd.checked os 5 .any (fun w args => (Rows.fnPointerSpec.pre enc Tryd.prog Tryd.f5 Rows.fnPointerRow.domain false w args ∧ laidMetH Tryd.prog Rows.fnPointerRow.laid w) ∧ sizedMet enc Tryd.prog Tryd.f5 (OpenSpec.ofChange Rows.fnPointerSpec) false w args) (Rows.fnPointerSpec.post enc Tryd.prog Tryd.f5 false true false false) := by
  refine returnsInHanded_of_change_and (C := Tryd.checked) (X := fun w _ => laidMetH Tryd.prog Rows.fnPointerRow.laid w) (fun _ _ _ hh h => h.of_heap hh) own started (by kernel_rfl) Tryd.func5
    (ChangeSpec.witness_shaped (enc := enc) (C := Tryd.checked) (os := os) (X := fun w _ => laidMetH Tryd.prog Rows.fnPointerRow.laid w) false (World.laidAll Tryd.prog os Rows.fnPointerRow.laid) #[.slice none 0 0, .slice none 0 0] 8 (World.laidAll_os _ _ _)
      (World.shaped_of_ZipB (by kernel_rfl) (by kernel_rfl)) (by kernel_rfl) (by kernel_rfl) (by kernel_rfl)
      (by rw [MakeChecks.laidMetH_plain _ _ _ (by kernel_rfl)]; exact laidMet_laidAll _ (by kernel_rfl) (by kernel_rfl))) ?_
  intro W base args ds gs before hval0 hW hcnd hsz0 hL _
  have hval : ∀ (j : Nat) t v, Tryd.f5.params[j]? = some t → args[j]? = some v → Value.okWide Tryd.prog W .any base t v := hval0
  have hW' := hW
  obtain ⟨p, q, hA0, hV, rfl, hfz, hnd⟩ := hW
  have hA : DataW.TrodAll enc Tryd.prog W 0 (fun _ => true) true Tryd.f5.params.toList args.toList ds p := hA0
  rw [Tryd.params5] at hA hval
  obtain ⟨v0, vs0, d0, ds0, p0, q0, hargs, rfl, rfl, h0, r0⟩ := trodAll_cons hA
  obtain ⟨v1, vs1, d1, ds1, p1, q1, hargs1, rfl, rfl, h1, r1⟩ := trodAll_cons r0
  obtain ⟨rfl, rfl, rfl⟩ := trodAll_nil r1
  obtain rfl : args = #[v0, v1] := by cases args; simp_all
  obtain ⟨rfl, rfl⟩ := trodVars_none hV
  clear hA0 hval0 hsz0 hA
  obtain ⟨n0, av0, hrel0, harg0⟩ := arg_rd (L := [30, 5]) (by kernel_rfl) (by kernel_rfl) (hval 0 30 v0 rfl rfl) h0
  obtain ⟨t0, rfl, g0⟩ := arg_bytes harg0
  have f0 := (rel_sl hrel0).1
  have lt0 : ∀ x ∈ p0, x.block < W.heap.size := by obtain ⟨m, hm⟩ := h0; exact DataW.trod_lt m _ _ _ hm
  obtain ⟨n1, av1, hrel1, harg1⟩ := arg_rd (L := [30, 5]) (by kernel_rfl) (by kernel_rfl) (hval 1 30 v1 rfl rfl) h1
  obtain ⟨t1, rfl, g1⟩ := arg_bytes harg1
  have f1 := (rel_sl hrel1).1
  have lt1 : ∀ x ∈ p1, x.block < W.heap.size := by obtain ⟨m, hm⟩ := h1; exact DataW.trod_lt m _ _ _ hm
  obtain ⟨k, hk⟩ := law_Pointer t0 t1 (by simpa using f0) g0 (by simpa using f1) g1
  refine (law_walk (m_laws_FnPointer_ok k t0 t1 true hk) (relVs_of (vs := [v0, v1]) (.cons hrel0 (.cons hrel1 (.nil))))).mono fun e W' ⟨he, bel⟩ => ?_
  subst he
  exact ⟨_, rfl, _, _, _, [], _, [], hW', trodAll_mk1 (shut_bool Tryd.underlying4 _), (trodAll_cons_mk (Below.trod laidOut (by kernel_rfl) (of_decide_eq_true (by kernel_rfl)) h0 bel lt0) (trodAll_cons_mk (Below.trod laidOut (by kernel_rfl) (of_decide_eq_true (by kernel_rfl)) h1 bel lt1) trodAll_mk0)), rfl, bel.frame _, fun h => by cases h⟩
theorem joined : joinedFacts Tryd.prog 5 Tryd.f5 Rows.fnPointerSpec Rows.fnPointerRow = true := by kernel_rfl
theorem fnamed : Tryd.prog.funcNamed Rows.fnPointerRow.func = some 5 := by kernel_rfl
theorem inst : Tryd.f5.isInstance Tryd.prog Rows.fnPointerRow.origin Rows.fnPointerRow.targs := of_decide_eq_true (by kernel_rfl)
theorem wrapper : Tryd.f5.isWrapper Tryd.prog Rows.fnPointerRow.wrapper Rows.fnPointerRow.mainSum := by
  unfold Func.isWrapper
  first | (rw [if_pos (by decide +kernel)]; kernel_rfl) | (rw [if_neg (by decide +kernel)]; exact ⟨rfl, rfl⟩)
theorem over : Rows.fnPointerRow.holds Tryd.pinned (OpenSpec.ofChange Rows.fnPointerSpec) :=
  OpenClaim.holds_of_wide 5 Tryd.f5 rfl rfl rfl rfl rfl rfl rfl ⟨rfl, rfl, rfl, rfl, rfl⟩ rfl rfl rfl rfl rfl fnamed Tryd.func5 joined inst wrapper
    (fun os started H enc _ => lifted os started H enc)
theorem proved : Rows.FnPointerCardSaid :=
  Claim7.holds_tied_plain_at .later [] [.data, .pinned] true (true, "80ce9bd7c33ba0b4e8c0a290319056034e7137b3c62a5f79a68aaf4989af99bd") true over (fun _ h => by cases h) (by kernel_rfl) (fun _ h => by cases h) fnPointer_row_tie rfl ⟨rfl, rfl⟩ (by kernel_rfl) rfl
    (fun f fn hf hfn => by
      obtain rfl : f = 5 := Option.some.inj (fnamed.symm.trans hf) |>.symm
      obtain rfl : fn = Tryd.f5 := (Option.some.inj (Tryd.func5.symm.trans hfn)).symm
      exact ⟨by kernel_rfl, fun j t ht => by
        rw [Tryd.params5] at ht
        have hm : t ∈ [30, 30] := by simpa using Array.mem_of_getElem? ht
        have hall : ([30, 30].all fun u => !Tryd.prog.wantsStandIn u) = true := by kernel_rfl
        exact (show Tryd.prog.wantsStandIn t = false by simpa using List.all_eq_true.1 hall t hm)⟩)
    (by kernel_rfl)
end Go.Proofs.YtopbbjoflopjbaaDoor.fnPointer
namespace Go.Proofs.YtopbbjoflopjbaaDoor
/-- The row's tied card, under a short name, for the claim. -/
theorem fnPointerCard_holds : Rows.FnPointerCardSaid := fnPointer.proved
#print axioms fnPointerCard_holds
end Go.Proofs.YtopbbjoflopjbaaDoor
