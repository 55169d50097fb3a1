/- The row FnExactTypePut holds as it is said; no condition. -/
import Derived.Test.YthokajebopeomaaRows
import Derived.Test.YthokajebopeomaaT4
import Derived.Test.YthokajebopeomaaAb13
import Derived.WalkKit
import Derived.OpenShut
import Derived.ShutString
import Derived.ChangeOld
/-! The row FnExactTypePut. -/
set_option linter.unusedVariables false
set_option maxRecDepth 100000
namespace Go.Proofs.Ythokajebopeomaa.fnExactTypePut
open Go.Ab Go.ChangeShapes Go.WideShapes Go.ChangeAt Go.RowKit

theorem rd_typ (n : Nat) : ∀ (avs : List AV), rd Try.prog n 38 avs → ∃ t, avs = encT t := by
  induction n using Nat.strongRecOn with
  | ind n ih =>
    intro avs h
    obtain ⟨parts, hn, e, h'⟩ := rd_struct Try.underlying38 h
    obtain ⟨p1, q1, rfl, h1, h'⟩ := rdF_cons h'
    obtain ⟨p2, q2, rfl, h2, h'⟩ := rdF_cons h'
    obtain ⟨p3, q3, rfl, h3, h'⟩ := rdF_cons h'
    obtain rfl := rdF_nil h'
    obtain ⟨nm, rfl⟩ := rd_string Try.underlying9 h1
    obtain ⟨rows, rfl, hrs⟩ := rd_slice Try.underlying36 h2
    obtain ⟨b, rfl⟩ := rd_bool Try.underlying4 h3
    obtain ⟨l, rfl⟩ := rows_of (f := encT) fun r hr => ih (n - 1 - 1) (by omega) r (hrs r hr)
    exact ⟨.mk nm l b, by rw [e]; simp [encT_eq, Typ.name, Typ.of, Typ.must]⟩

theorem own : ownKnob Try.prog.godebug = none := by kernel_rfl
theorem laidOut : laidOutB Try.prog = true := by kernel_rfl
theorem lifted (os : Os) (started : os.Started) (H : Type) (enc : TypeId × Value → H) :
    ReturnsInHanded {} Try.checked os 6 .any (Rows.fnExactTypePutSpec.pre6 enc Try.prog Try.f6 Rows.fnExactTypePutRow.domain false) (Rows.fnExactTypePutSpec.post enc Try.prog Try.f6 false true false false) := by
  refine returnsInHanded_of_change_sized (C := Try.checked) own started (by kernel_rfl) Try.func6
    (ChangeSpec.witness6 (enc := enc) (C := Try.checked) false ⟨#[], #[.agg #[.string ByteArray.empty, .slice none 0 0, .bool false]], []⟩ 8 (by kernel_rfl) (by kernel_rfl) (by kernel_rfl) (by kernel_rfl)) ?_
  intro W base args ds gs before hval0 hW hcnd hsz0 _
  have hval : ∀ (j : Nat) t v, Try.f6.params[j]? = some t → args[j]? = some v → Value.okWide Try.prog W .any base t v := hval0
  have hW' := hW
  obtain ⟨p, q, hA0, hV, rfl, hfz, hnd⟩ := hW
  have hA : DataW.TrodAll enc Try.prog W 0 (fun _ => true) true Try.f6.params.toList args.toList ds p := hA0
  rw [Try.params6] at hA hval
  obtain ⟨v0, vs0, d0, ds0, p0, q0, hargs, rfl, rfl, h0, r0⟩ := trodAll_cons hA
  obtain ⟨rfl, rfl, rfl⟩ := trodAll_nil r0
  obtain rfl : args = #[v0] := by cases args; simp_all
  obtain ⟨rfl, rfl⟩ := trodVars_none hV
  clear hA0 hval0 hsz0 hA
  obtain ⟨n, av, hrel, harg⟩ := arg_rd (L := [38, 9, 4, 36]) (by kernel_rfl) (by kernel_rfl) (hval 0 38 v0 rfl rfl) h0
  obtain ⟨avs, rfl, hrd⟩ := argOf_struct Try.underlying38 harg
  obtain ⟨t, rfl⟩ := rd_typ n avs hrd
  have lt0 : ∀ x ∈ p0, x.block < W.heap.size := by obtain ⟨m, hm⟩ := h0; exact DataW.trod_lt m _ _ _ hm
  refine (law_walk (laws_FnExactTypePut_does t) (relVs_one hrel)).mono fun e W' ⟨he, bel⟩ => ?_
  subst he
  exact ⟨_, rfl, _, _, _, [], _, [], hW', trodAll_mk1 (shut_bool Try.underlying4 _), (trodAll_cons_mk (Below.trod laidOut (by kernel_rfl) (of_decide_eq_true (by kernel_rfl)) h0 bel lt0) trodAll_mk0), rfl, bel.frame _, fun h => by cases h⟩
theorem over : Rows.fnExactTypePutRow.holds Try.pinned (OpenSpec.ofChange Rows.fnExactTypePutSpec) :=
  OpenClaim.holds_of_wide 6 Try.f6 rfl rfl rfl rfl rfl rfl rfl ⟨rfl, rfl, rfl, rfl, rfl⟩ rfl rfl rfl rfl rfl (by kernel_rfl) Try.func6 (by kernel_rfl)
    (of_decide_eq_true (by kernel_rfl)) (by unfold Func.isWrapper; first | (rw [if_pos (by decide +kernel)]; kernel_rfl) | (rw [if_neg (by decide +kernel)]; exact ⟨rfl, rfl⟩))
    (fun os started H enc _ => lifted os started H enc)
theorem proved : Rows.FnExactTypePutSaid := over
end Go.Proofs.Ythokajebopeomaa.fnExactTypePut
namespace Go.Proofs.Ythokajebopeomaa
/-- The row, under a short name, for the claim. -/
theorem fnExactTypePut_holds : Rows.FnExactTypePutSaid := fnExactTypePut.proved
#print axioms fnExactTypePut_holds
end Go.Proofs.Ythokajebopeomaa
