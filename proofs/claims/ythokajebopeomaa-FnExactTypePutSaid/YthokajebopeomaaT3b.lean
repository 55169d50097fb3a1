/- What the program says of one byte of a name is the plain word; no condition. -/
import Derived.Test.YthokajebopeomaaT3
set_option linter.unusedVariables false
set_option maxHeartbeats 2000000
set_option linter.unusedSimpArgs false
namespace Go.Proofs.Ythokajebopeomaa
open Go.Ab
theorem impl_isWordByte_does (b : UInt8) : Does Try.prog 102 [.int .u8 b.toNat] [] (ret (.bool (isWrd b))) := by
  have hf := impl_isFigure_does b
  rw [isWrd, isLet_int]
  generalize (b.toNat : Int) = n at hf ⊢
  generalize isFig b = fb at hf ⊢
  refine does_of_good tabOk Try.func102 rfl (by decide +kernel) (Nat.le_of_ble_eq_true rfl) fun c hM => ?_
  refine good_seq fun K1 hK1 => ?_
  (refine good_region tabOk ?_; simp (maxSteps := 1000000) [aops, aop, kont, evA, evAs, evParts, constA, getk, St.put, slotsOf, dok, readA, mkA, addOff, binA, binT, eqr, isConstO, lenA, pickA, cellsA, guardA, upd, splice, fillA, rowsLit, AV.cell, thenQ, blockQ, endQ, resA, resV, ret, keys, subs, minus, Dj, aopsd, aopd, valOp, loA, hiA, sliceA, ownA, addA, nilA, nil0, viewA, chunk])
  refine hK1 _ ?_; clear hK1 K1
  refine good_seq fun K2 hK2 => ?_
  have hw := good_via ⟨25, [(2, .bool (decide (97 ≤ n ∧ n ≤ 122 ∨ 65 ≤ n ∧ n ≤ 90 ∨ n = 95) || fb))], []⟩ hK2 (good_ret (by simp [aops, aop, kont, evA, evAs, evParts, constA, getk, St.put, slotsOf, dok, readA, mkA, addOff, binA, binT, eqr, isConstO, lenA, pickA, cellsA, guardA, upd, splice, fillA, rowsLit, AV.cell, thenQ, blockQ, endQ, resA, resV, ret, keys, subs, minus, Dj, aopsd, aopd, valOp, loA, hiA, sliceA, ownA, addA, nilA, nil0, viewA, chunk]))
  clear hK2
  (refine good_region tabOk ?_; simp (maxSteps := 1000000) [aops, aop, kont, evA, evAs, evParts, constA, getk, St.put, slotsOf, dok, readA, mkA, addOff, binA, binT, eqr, isConstO, lenA, pickA, cellsA, guardA, upd, splice, fillA, rowsLit, AV.cell, thenQ, blockQ, endQ, resA, resV, ret, keys, subs, minus, Dj, aopsd, aopd, valOp, loA, hiA, sliceA, ownA, addA, nilA, nil0, viewA, chunk])
  repeat' (first | refine ⟨?_, ?_⟩ | intro _)
  all_goals try (refine callP hf rfl ?_; simp [aops, aop, kont, evA, evAs, evParts, constA, getk, St.put, slotsOf, dok, readA, mkA, addOff, binA, binT, eqr, isConstO, lenA, pickA, cellsA, guardA, upd, splice, fillA, rowsLit, AV.cell, thenQ, blockQ, endQ, resA, resV, ret, keys, subs, minus, Dj, aopsd, aopd, valOp, loA, hiA, sliceA, ownA, addA, nilA, nil0, viewA, chunk])
  all_goals refine hw _ (weak_of rfl ?_ (by simp [aops, aop, kont, evA, evAs, evParts, constA, getk, St.put, slotsOf, dok, readA, mkA, addOff, binA, binT, eqr, isConstO, lenA, pickA, cellsA, guardA, upd, splice, fillA, rowsLit, AV.cell, thenQ, blockQ, endQ, resA, resV, ret, keys, subs, minus, Dj, aopsd, aopd, valOp, loA, hiA, sliceA, ownA, addA, nilA, nil0, viewA, chunk]))
  all_goals simp [aops, aop, kont, evA, evAs, evParts, constA, getk, St.put, slotsOf, dok, readA, mkA, addOff, binA, binT, eqr, isConstO, lenA, pickA, cellsA, guardA, upd, splice, fillA, rowsLit, AV.cell, thenQ, blockQ, endQ, resA, resV, ret, keys, subs, minus, Dj, aopsd, aopd, valOp, loA, hiA, sliceA, ownA, addA, nilA, nil0, viewA, chunk] <;> try (first | done | omega | (rw [Bool.eq_iff_iff]; simp only [Bool.or_eq_true, Bool.and_eq_true, Bool.not_eq_true', decide_eq_true_eq, decide_eq_false_iff_not]; omega))

end Go.Proofs.Ythokajebopeomaa
