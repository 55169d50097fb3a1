/- What the reference says of a name is the plain word; no condition. -/
import Derived.Test.YthokajebopeomaaTab
import Derived.Test.YthokajebopeomaaEncN
/-! Names. -/
set_option linter.unusedVariables false
set_option linter.unusedSimpArgs false
namespace Go.Proofs.Ythokajebopeomaa
open Go.Ab

theorem spec_l1Letter_does (b : UInt8) : Does Try.prog 97 [.int .u8 b.toNat] [] (ret (.bool (isLet b))) := by
  rw [isLet_int]
  generalize (b.toNat : Int) = n
  refine does_of_good tabOk Try.func97 rfl (by decide +kernel) (Nat.le_of_ble_eq_true rfl) fun c hM => ?_
  refine good_seq fun K1 hK1 => ?_
  (refine good_region tabOk ?_; simp (maxSteps := 1000000) [aops, aop, kont, evA, evAs, evParts, constA, getk, St.put, slotsOf, dok, readA, mkA, addOff, binA, binT, eqr, isConstO, lenA, pickA, cellsA, guardA, upd, splice, fillA, rowsLit, AV.cell, thenQ, blockQ, endQ, resA, resV, ret, keys, subs, minus, Dj, aopsd, aopd, valOp, loA, hiA, sliceA, ownA, addA, nilA, nil0, viewA, chunk])
  refine hK1 _ ?_; clear hK1 K1
  refine good_seq fun K2 hK2 => ?_
  have hw := good_via ⟨21, [(2, .bool (decide (97 ≤ n ∧ n ≤ 122 ∨ 65 ≤ n ∧ n ≤ 90 ∨ n = 95)))], []⟩ hK2 (good_ret (by simp [aops, aop, kont, evA, evAs, evParts, constA, getk, St.put, slotsOf, dok, readA, mkA, addOff, binA, binT, eqr, isConstO, lenA, pickA, cellsA, guardA, upd, splice, fillA, rowsLit, AV.cell, thenQ, blockQ, endQ, resA, resV, ret, keys, subs, minus, Dj, aopsd, aopd, valOp, loA, hiA, sliceA, ownA, addA, nilA, nil0, viewA, chunk]))
  clear hK2
  (refine good_region tabOk ?_; simp (maxSteps := 1000000) [aops, aop, kont, evA, evAs, evParts, constA, getk, St.put, slotsOf, dok, readA, mkA, addOff, binA, binT, eqr, isConstO, lenA, pickA, cellsA, guardA, upd, splice, fillA, rowsLit, AV.cell, thenQ, blockQ, endQ, resA, resV, ret, keys, subs, minus, Dj, aopsd, aopd, valOp, loA, hiA, sliceA, ownA, addA, nilA, nil0, viewA, chunk])
  repeat' (first | refine ⟨?_, ?_⟩ | intro _)
  all_goals exact hw _ (weak_of rfl (by simp [aops, aop, kont, evA, evAs, evParts, constA, getk, St.put, slotsOf, dok, readA, mkA, addOff, binA, binT, eqr, isConstO, lenA, pickA, cellsA, guardA, upd, splice, fillA, rowsLit, AV.cell, thenQ, blockQ, endQ, resA, resV, ret, keys, subs, minus, Dj, aopsd, aopd, valOp, loA, hiA, sliceA, ownA, addA, nilA, nil0, viewA, chunk] <;> (first | done | omega | (rw [Bool.eq_iff_iff]; simp only [Bool.or_eq_true, Bool.and_eq_true, Bool.not_eq_true', decide_eq_true_eq, decide_eq_false_iff_not]; omega))) (by simp [aops, aop, kont, evA, evAs, evParts, constA, getk, St.put, slotsOf, dok, readA, mkA, addOff, binA, binT, eqr, isConstO, lenA, pickA, cellsA, guardA, upd, splice, fillA, rowsLit, AV.cell, thenQ, blockQ, endQ, resA, resV, ret, keys, subs, minus, Dj, aopsd, aopd, valOp, loA, hiA, sliceA, ownA, addA, nilA, nil0, viewA, chunk]))

theorem spec_l1Figure_does (b : UInt8) : Does Try.prog 98 [.int .u8 b.toNat] [] (ret (.bool (isFig b))) := by
  rw [isFig_int]
  generalize (b.toNat : Int) = n
  refine does_of_good tabOk Try.func98 rfl (by decide +kernel) (Nat.le_of_ble_eq_true rfl) fun c hM => ?_
  refine good_seq fun K1 hK1 => ?_
  (refine good_region tabOk ?_; simp (maxSteps := 1000000) [aops, aop, kont, evA, evAs, evParts, constA, getk, St.put, slotsOf, dok, readA, mkA, addOff, binA, binT, eqr, isConstO, lenA, pickA, cellsA, guardA, upd, splice, fillA, rowsLit, AV.cell, thenQ, blockQ, endQ, resA, resV, ret, keys, subs, minus, Dj, aopsd, aopd, valOp, loA, hiA, sliceA, ownA, addA, nilA, nil0, viewA, chunk])
  refine hK1 _ ?_; clear hK1 K1
  refine good_seq fun K2 hK2 => ?_
  have hw := good_via ⟨9, [(2, .bool (decide (48 ≤ n ∧ n ≤ 57)))], []⟩ hK2 (good_ret (by simp [aops, aop, kont, evA, evAs, evParts, constA, getk, St.put, slotsOf, dok, readA, mkA, addOff, binA, binT, eqr, isConstO, lenA, pickA, cellsA, guardA, upd, splice, fillA, rowsLit, AV.cell, thenQ, blockQ, endQ, resA, resV, ret, keys, subs, minus, Dj, aopsd, aopd, valOp, loA, hiA, sliceA, ownA, addA, nilA, nil0, viewA, chunk]))
  clear hK2
  (refine good_region tabOk ?_; simp (maxSteps := 1000000) [aops, aop, kont, evA, evAs, evParts, constA, getk, St.put, slotsOf, dok, readA, mkA, addOff, binA, binT, eqr, isConstO, lenA, pickA, cellsA, guardA, upd, splice, fillA, rowsLit, AV.cell, thenQ, blockQ, endQ, resA, resV, ret, keys, subs, minus, Dj, aopsd, aopd, valOp, loA, hiA, sliceA, ownA, addA, nilA, nil0, viewA, chunk])
  repeat' (first | refine ⟨?_, ?_⟩ | intro _)
  all_goals exact hw _ (weak_of rfl (by simp [aops, aop, kont, evA, evAs, evParts, constA, getk, St.put, slotsOf, dok, readA, mkA, addOff, binA, binT, eqr, isConstO, lenA, pickA, cellsA, guardA, upd, splice, fillA, rowsLit, AV.cell, thenQ, blockQ, endQ, resA, resV, ret, keys, subs, minus, Dj, aopsd, aopd, valOp, loA, hiA, sliceA, ownA, addA, nilA, nil0, viewA, chunk] <;> (first | done | omega | (rw [Bool.eq_iff_iff]; simp only [Bool.or_eq_true, Bool.and_eq_true, Bool.not_eq_true', decide_eq_true_eq, decide_eq_false_iff_not]; omega))) (by simp [aops, aop, kont, evA, evAs, evParts, constA, getk, St.put, slotsOf, dok, readA, mkA, addOff, binA, binT, eqr, isConstO, lenA, pickA, cellsA, guardA, upd, splice, fillA, rowsLit, AV.cell, thenQ, blockQ, endQ, resA, resV, ret, keys, subs, minus, Dj, aopsd, aopd, valOp, loA, hiA, sliceA, ownA, addA, nilA, nil0, viewA, chunk]))

theorem spec_l1In_does (n lo hi : Int) : Does Try.prog 50 [.int .i64 n, .int .i64 lo, .int .i64 hi] [] (ret (.bool (decide (lo ≤ n ∧ n ≤ hi)))) := by
  refine does_of_good tabOk Try.func50 rfl (by decide +kernel) (Nat.le_of_ble_eq_true rfl) fun c hM => ?_
  refine good_seq fun K1 hK1 => ?_
  (refine good_region tabOk ?_; simp (maxSteps := 1000000) [aops, aop, kont, evA, evAs, evParts, constA, getk, St.put, slotsOf, dok, readA, mkA, addOff, binA, binT, eqr, isConstO, lenA, pickA, cellsA, guardA, upd, splice, fillA, rowsLit, AV.cell, thenQ, blockQ, endQ, resA, resV, ret, keys, subs, minus, Dj, aopsd, aopd, valOp, loA, hiA, sliceA, ownA, addA, nilA, nil0, viewA, chunk])
  refine hK1 _ ?_; clear hK1 K1
  refine good_seq fun K2 hK2 => ?_
  have hw := good_via ⟨15, [(6, .bool (decide (lo ≤ n ∧ n ≤ hi)))], []⟩ hK2 (good_ret (by simp [aops, aop, kont, evA, evAs, evParts, constA, getk, St.put, slotsOf, dok, readA, mkA, addOff, binA, binT, eqr, isConstO, lenA, pickA, cellsA, guardA, upd, splice, fillA, rowsLit, AV.cell, thenQ, blockQ, endQ, resA, resV, ret, keys, subs, minus, Dj, aopsd, aopd, valOp, loA, hiA, sliceA, ownA, addA, nilA, nil0, viewA, chunk]))
  clear hK2
  (refine good_region tabOk ?_; simp (maxSteps := 1000000) [aops, aop, kont, evA, evAs, evParts, constA, getk, St.put, slotsOf, dok, readA, mkA, addOff, binA, binT, eqr, isConstO, lenA, pickA, cellsA, guardA, upd, splice, fillA, rowsLit, AV.cell, thenQ, blockQ, endQ, resA, resV, ret, keys, subs, minus, Dj, aopsd, aopd, valOp, loA, hiA, sliceA, ownA, addA, nilA, nil0, viewA, chunk])
  repeat' (first | refine ⟨?_, ?_⟩ | intro _)
  all_goals exact hw _ (weak_of rfl (by simp [aops, aop, kont, evA, evAs, evParts, constA, getk, St.put, slotsOf, dok, readA, mkA, addOff, binA, binT, eqr, isConstO, lenA, pickA, cellsA, guardA, upd, splice, fillA, rowsLit, AV.cell, thenQ, blockQ, endQ, resA, resV, ret, keys, subs, minus, Dj, aopsd, aopd, valOp, loA, hiA, sliceA, ownA, addA, nilA, nil0, viewA, chunk] <;> (first | done | omega | (rw [Bool.eq_iff_iff]; simp only [Bool.or_eq_true, Bool.and_eq_true, Bool.not_eq_true', decide_eq_true_eq, decide_eq_false_iff_not]; omega))) (by simp [aops, aop, kont, evA, evAs, evParts, constA, getk, St.put, slotsOf, dok, readA, mkA, addOff, binA, binT, eqr, isConstO, lenA, pickA, cellsA, guardA, upd, splice, fillA, rowsLit, AV.cell, thenQ, blockQ, endQ, resA, resV, ret, keys, subs, minus, Dj, aopsd, aopd, valOp, loA, hiA, sliceA, ownA, addA, nilA, nil0, viewA, chunk]))

theorem spec_l1Name_does (s : List UInt8) : Does Try.prog 83 [.str s] [] (ret (.bool (nameOk s))) := by
  refine does_of_good tabOk Try.func83 rfl (by decide +kernel) (Nat.le_of_ble_eq_true rfl) fun c hM => ?_
  refine good_lens 0 rfl fun hlens => ?_
  have hlen : s.length < 9223372036854775808 := by simpa [lens] using hlens
  clear hlens
  refine good_seq fun K1 hK1 => ?_
  (refine good_region tabOk ?_; simp (maxSteps := 1000000) [aops, aop, kont, evA, evAs, evParts, constA, getk, St.put, slotsOf, dok, readA, mkA, addOff, binA, binT, eqr, isConstO, lenA, pickA, cellsA, guardA, upd, splice, fillA, rowsLit, AV.cell, thenQ, blockQ, endQ, resA, resV, ret, keys, subs, minus, Dj, aopsd, aopd, valOp, loA, hiA, sliceA, ownA, addA, nilA, nil0, viewA, chunk])
  refine hK1 _ ?_; clear hK1 K1
  refine good_seq fun K2 hK2 => ?_
  refine good_seq fun K3 hK3 => ?_
  (refine good_region tabOk ?_; simp (maxSteps := 1000000) [aops, aop, kont, evA, evAs, evParts, constA, getk, St.put, slotsOf, dok, readA, mkA, addOff, binA, binT, eqr, isConstO, lenA, pickA, cellsA, guardA, upd, splice, fillA, rowsLit, AV.cell, thenQ, blockQ, endQ, resA, resV, ret, keys, subs, minus, Dj, aopsd, aopd, valOp, loA, hiA, sliceA, ownA, addA, nilA, nil0, viewA, chunk])
  refine hK3 _ ?_; clear hK3 K3
  refine good_block ?_
  -- LOOP slots read: [0, 3]; behind it: [0]
  refine good_loopf (fun i : Nat => ⟨29, [(0, .str s), (3, .int .i64 i)], []⟩) (fun m i => i + m = s.length ∧ nameB (s.take i) = true) s.length 0 (weak_of rfl (by simp [aops, aop, kont, evA, evAs, evParts, constA, getk, St.put, slotsOf, dok, readA, mkA, addOff, binA, binT, eqr, isConstO, lenA, pickA, cellsA, guardA, upd, splice, fillA, rowsLit, AV.cell, thenQ, blockQ, endQ, resA, resV, ret, keys, subs, minus, Dj, aopsd, aopd, valOp, loA, hiA, sliceA, ownA, addA, nilA, nil0, viewA, chunk]) (by simp [aops, aop, kont, evA, evAs, evParts, constA, getk, St.put, slotsOf, dok, readA, mkA, addOff, binA, binT, eqr, isConstO, lenA, pickA, cellsA, guardA, upd, splice, fillA, rowsLit, AV.cell, thenQ, blockQ, endQ, resA, resV, ret, keys, subs, minus, Dj, aopsd, aopd, valOp, loA, hiA, sliceA, ownA, addA, nilA, nil0, viewA, chunk])) ⟨by simp, rfl⟩ ?_
  rintro m i ⟨hp, hp2⟩
  refine good_seq fun K4 hK4 => ?_
  refine good_seq fun K5 hK5 => ?_
  (refine good_region tabOk ?_; simp (maxSteps := 1000000) [aops, aop, kont, evA, evAs, evParts, constA, getk, St.put, slotsOf, dok, readA, mkA, addOff, binA, binT, eqr, isConstO, lenA, pickA, cellsA, guardA, upd, splice, fillA, rowsLit, AV.cell, thenQ, blockQ, endQ, resA, resV, ret, keys, subs, minus, Dj, aopsd, aopd, valOp, loA, hiA, sliceA, ownA, addA, nilA, nil0, viewA, chunk])
  refine hK5 _ ?_; clear hK5 K5
  refine good_cond rfl ?_ ?_
  · intro hc
    have hlt : i < s.length := by simpa using hc
    refine good_skip ?_
    simp only [thenQ, blockQ]
    refine hK4 _ ?_; clear hK4 K4
    refine good_seq fun K6 hK6 => ?_
    refine good_block ?_
    refine good_seq fun K7 hK7 => ?_
    have hw := good_via ⟨29, [(0, .str s), (3, .int .i64 i), (25, .bool (!(isLet s[i] || (decide (i ≠ 0) && isFig s[i]))))], []⟩ hK7 (by
      refine good_cond rfl ?_ ?_
      · intro hc
        refine good_seq fun K8 hK8 => ?_
        (refine good_region tabOk ?_; simp (maxSteps := 1000000) [aops, aop, kont, evA, evAs, evParts, constA, getk, St.put, slotsOf, dok, readA, mkA, addOff, binA, binT, eqr, isConstO, lenA, pickA, cellsA, guardA, upd, splice, fillA, rowsLit, AV.cell, thenQ, blockQ, endQ, resA, resV, ret, keys, subs, minus, Dj, aopsd, aopd, valOp, loA, hiA, sliceA, ownA, addA, nilA, nil0, viewA, chunk])
        refine hK8 _ ?_; clear hK8 K8
        refine good_ret ?_
        simp [aops, aop, kont, evA, evAs, evParts, constA, getk, St.put, slotsOf, dok, readA, mkA, addOff, binA, binT, eqr, isConstO, lenA, pickA, cellsA, guardA, upd, splice, fillA, rowsLit, AV.cell, thenQ, blockQ, endQ, resA, resV, ret, keys, subs, minus, Dj, aopsd, aopd, valOp, loA, hiA, sliceA, ownA, addA, nilA, nil0, viewA, chunk]
        have := nameB_take hlt
        have h3 : nameB (s.take (i + 1)) = false := by rw [this, hp2]; simp at hc ⊢; refine ⟨hc.1, fun h => hc.2.resolve_left h⟩
        rw [nameOk, nameB_false (by omega) h3]; rfl
      · intro hc
        refine good_skip ?_
        simp only [thenQ, blockQ]
        refine hK6 _ ?_
        (refine good_region tabOk ?_; simp (maxSteps := 1000000) [aops, aop, kont, evA, evAs, evParts, constA, getk, St.put, slotsOf, dok, readA, mkA, addOff, binA, binT, eqr, isConstO, lenA, pickA, cellsA, guardA, upd, splice, fillA, rowsLit, AV.cell, thenQ, blockQ, endQ, resA, resV, ret, keys, subs, minus, Dj, aopsd, aopd, valOp, loA, hiA, sliceA, ownA, addA, nilA, nil0, viewA, chunk])
        refine round_mk (m - 1) (i + 1) (by omega) ⟨by omega, ?_⟩ (weak_of rfl (by simp [aops, aop, kont, evA, evAs, evParts, constA, getk, St.put, slotsOf, dok, readA, mkA, addOff, binA, binT, eqr, isConstO, lenA, pickA, cellsA, guardA, upd, splice, fillA, rowsLit, AV.cell, thenQ, blockQ, endQ, resA, resV, ret, keys, subs, minus, Dj, aopsd, aopd, valOp, loA, hiA, sliceA, ownA, addA, nilA, nil0, viewA, chunk]; rw [wrap_i64 (by omega) (by omega)]) (by simp [aops, aop, kont, evA, evAs, evParts, constA, getk, St.put, slotsOf, dok, readA, mkA, addOff, binA, binT, eqr, isConstO, lenA, pickA, cellsA, guardA, upd, splice, fillA, rowsLit, AV.cell, thenQ, blockQ, endQ, resA, resV, ret, keys, subs, minus, Dj, aopsd, aopd, valOp, loA, hiA, sliceA, ownA, addA, nilA, nil0, viewA, chunk]))
        rw [nameB_take hlt, hp2]; cases h1 : isLet s[i] <;> simp [h1] at hc ⊢; exact hc)
    clear hK7
    (refine good_region tabOk ?_; simp (maxSteps := 1000000) [aops, aop, kont, evA, evAs, evParts, constA, getk, St.put, slotsOf, dok, readA, mkA, addOff, binA, binT, eqr, isConstO, lenA, pickA, cellsA, guardA, upd, splice, fillA, rowsLit, AV.cell, thenQ, blockQ, endQ, resA, resV, ret, keys, subs, minus, Dj, aopsd, aopd, valOp, loA, hiA, sliceA, ownA, addA, nilA, nil0, viewA, chunk, hlt])
    refine callP (spec_l1Letter_does _) rfl ?_ -- CALL
    simp [aops, aop, kont, evA, evAs, evParts, constA, getk, St.put, slotsOf, dok, readA, mkA, addOff, binA, binT, eqr, isConstO, lenA, pickA, cellsA, guardA, upd, splice, fillA, rowsLit, AV.cell, thenQ, blockQ, endQ, resA, resV, ret, keys, subs, minus, Dj, aopsd, aopd, valOp, loA, hiA, sliceA, ownA, addA, nilA, nil0, viewA, chunk, hlt]
    refine ⟨fun h1 => ⟨fun h2 => ?_, fun h2 => ?_⟩, fun h1 => ?_⟩
    · refine callP (spec_l1Figure_does _) rfl ?_ -- CALL GUARDED
      simp [aops, aop, kont, evA, evAs, evParts, constA, getk, St.put, slotsOf, dok, readA, mkA, addOff, binA, binT, eqr, isConstO, lenA, pickA, cellsA, guardA, upd, splice, fillA, rowsLit, AV.cell, thenQ, blockQ, endQ, resA, resV, ret, keys, subs, minus, Dj, aopsd, aopd, valOp, loA, hiA, sliceA, ownA, addA, nilA, nil0, viewA, chunk, hlt]
      refine hw _ (weak_of rfl (by simp [aops, aop, kont, evA, evAs, evParts, constA, getk, St.put, slotsOf, dok, readA, mkA, addOff, binA, binT, eqr, isConstO, lenA, pickA, cellsA, guardA, upd, splice, fillA, rowsLit, AV.cell, thenQ, blockQ, endQ, resA, resV, ret, keys, subs, minus, Dj, aopsd, aopd, valOp, loA, hiA, sliceA, ownA, addA, nilA, nil0, viewA, chunk, h1, h2]) (by simp [aops, aop, kont, evA, evAs, evParts, constA, getk, St.put, slotsOf, dok, readA, mkA, addOff, binA, binT, eqr, isConstO, lenA, pickA, cellsA, guardA, upd, splice, fillA, rowsLit, AV.cell, thenQ, blockQ, endQ, resA, resV, ret, keys, subs, minus, Dj, aopsd, aopd, valOp, loA, hiA, sliceA, ownA, addA, nilA, nil0, viewA, chunk]))
    · refine hw _ (weak_of rfl (by subst h2; simp [aops, aop, kont, evA, evAs, evParts, constA, getk, St.put, slotsOf, dok, readA, mkA, addOff, binA, binT, eqr, isConstO, lenA, pickA, cellsA, guardA, upd, splice, fillA, rowsLit, AV.cell, thenQ, blockQ, endQ, resA, resV, ret, keys, subs, minus, Dj, aopsd, aopd, valOp, loA, hiA, sliceA, ownA, addA, nilA, nil0, viewA, chunk, h1]) (by simp [aops, aop, kont, evA, evAs, evParts, constA, getk, St.put, slotsOf, dok, readA, mkA, addOff, binA, binT, eqr, isConstO, lenA, pickA, cellsA, guardA, upd, splice, fillA, rowsLit, AV.cell, thenQ, blockQ, endQ, resA, resV, ret, keys, subs, minus, Dj, aopsd, aopd, valOp, loA, hiA, sliceA, ownA, addA, nilA, nil0, viewA, chunk]))
    · refine hw _ (weak_of rfl (by simp [aops, aop, kont, evA, evAs, evParts, constA, getk, St.put, slotsOf, dok, readA, mkA, addOff, binA, binT, eqr, isConstO, lenA, pickA, cellsA, guardA, upd, splice, fillA, rowsLit, AV.cell, thenQ, blockQ, endQ, resA, resV, ret, keys, subs, minus, Dj, aopsd, aopd, valOp, loA, hiA, sliceA, ownA, addA, nilA, nil0, viewA, chunk, h1]) (by simp [aops, aop, kont, evA, evAs, evParts, constA, getk, St.put, slotsOf, dok, readA, mkA, addOff, binA, binT, eqr, isConstO, lenA, pickA, cellsA, guardA, upd, splice, fillA, rowsLit, AV.cell, thenQ, blockQ, endQ, resA, resV, ret, keys, subs, minus, Dj, aopsd, aopd, valOp, loA, hiA, sliceA, ownA, addA, nilA, nil0, viewA, chunk]))
  · intro hc
    have hge : ¬ i < s.length := by simpa using hc
    refine good_exit ?_
    simp [aops, aop, kont, evA, evAs, evParts, constA, getk, St.put, slotsOf, dok, readA, mkA, addOff, binA, binT, eqr, isConstO, lenA, pickA, cellsA, guardA, upd, splice, fillA, rowsLit, AV.cell, thenQ, blockQ, endQ, resA, resV, ret, keys, subs, minus, Dj, aopsd, aopd, valOp, loA, hiA, sliceA, ownA, addA, nilA, nil0, viewA, chunk]
    refine hK2 _ ?_; clear hK4 K4 hK2 K2
    refine good_seq fun K9 hK9 => ?_
    (refine good_region tabOk ?_; simp (maxSteps := 1000000) [aops, aop, kont, evA, evAs, evParts, constA, getk, St.put, slotsOf, dok, readA, mkA, addOff, binA, binT, eqr, isConstO, lenA, pickA, cellsA, guardA, upd, splice, fillA, rowsLit, AV.cell, thenQ, blockQ, endQ, resA, resV, ret, keys, subs, minus, Dj, aopsd, aopd, valOp, loA, hiA, sliceA, ownA, addA, nilA, nil0, viewA, chunk])
    refine callP (spec_l1In_does _ _ _) rfl ?_ -- CALL
    simp [aops, aop, kont, evA, evAs, evParts, constA, getk, St.put, slotsOf, dok, readA, mkA, addOff, binA, binT, eqr, isConstO, lenA, pickA, cellsA, guardA, upd, splice, fillA, rowsLit, AV.cell, thenQ, blockQ, endQ, resA, resV, ret, keys, subs, minus, Dj, aopsd, aopd, valOp, loA, hiA, sliceA, ownA, addA, nilA, nil0, viewA, chunk]
    refine hK9 _ ?_; clear hK9 K9
    refine good_ret ?_
    simp [aops, aop, kont, evA, evAs, evParts, constA, getk, St.put, slotsOf, dok, readA, mkA, addOff, binA, binT, eqr, isConstO, lenA, pickA, cellsA, guardA, upd, splice, fillA, rowsLit, AV.cell, thenQ, blockQ, endQ, resA, resV, ret, keys, subs, minus, Dj, aopsd, aopd, valOp, loA, hiA, sliceA, ownA, addA, nilA, nil0, viewA, chunk]
    rw [List.take_of_length_le (by omega)] at hp2
    rw [nameOk, hp2, Bool.eq_iff_iff]
    simp
    omega

/-! The program's own -/

theorem impl_isFigure_does (b : UInt8) : Does Try.prog 101 [.int .u8 b.toNat] [] (ret (.bool (isFig b))) := by
  rw [isFig_int]
  generalize (b.toNat : Int) = n
  refine does_of_good tabOk Try.func101 rfl (by decide +kernel) (Nat.le_of_ble_eq_true rfl) fun c hM => ?_
  refine good_seq fun K1 hK1 => ?_
  (refine good_region tabOk ?_; simp (maxSteps := 1000000) [aops, aop, kont, evA, evAs, evParts, constA, getk, St.put, slotsOf, dok, readA, mkA, addOff, binA, binT, eqr, isConstO, lenA, pickA, cellsA, guardA, upd, splice, fillA, rowsLit, AV.cell, thenQ, blockQ, endQ, resA, resV, ret, keys, subs, minus, Dj, aopsd, aopd, valOp, loA, hiA, sliceA, ownA, addA, nilA, nil0, viewA, chunk])
  refine hK1 _ ?_; clear hK1 K1
  refine good_seq fun K2 hK2 => ?_
  have hw := good_via ⟨9, [(2, .bool (decide (48 ≤ n ∧ n ≤ 57)))], []⟩ hK2 (good_ret (by simp [aops, aop, kont, evA, evAs, evParts, constA, getk, St.put, slotsOf, dok, readA, mkA, addOff, binA, binT, eqr, isConstO, lenA, pickA, cellsA, guardA, upd, splice, fillA, rowsLit, AV.cell, thenQ, blockQ, endQ, resA, resV, ret, keys, subs, minus, Dj, aopsd, aopd, valOp, loA, hiA, sliceA, ownA, addA, nilA, nil0, viewA, chunk]))
  clear hK2
  (refine good_region tabOk ?_; simp (maxSteps := 1000000) [aops, aop, kont, evA, evAs, evParts, constA, getk, St.put, slotsOf, dok, readA, mkA, addOff, binA, binT, eqr, isConstO, lenA, pickA, cellsA, guardA, upd, splice, fillA, rowsLit, AV.cell, thenQ, blockQ, endQ, resA, resV, ret, keys, subs, minus, Dj, aopsd, aopd, valOp, loA, hiA, sliceA, ownA, addA, nilA, nil0, viewA, chunk])
  repeat' (first | refine ⟨?_, ?_⟩ | intro _)
  all_goals exact hw _ (weak_of rfl (by simp [aops, aop, kont, evA, evAs, evParts, constA, getk, St.put, slotsOf, dok, readA, mkA, addOff, binA, binT, eqr, isConstO, lenA, pickA, cellsA, guardA, upd, splice, fillA, rowsLit, AV.cell, thenQ, blockQ, endQ, resA, resV, ret, keys, subs, minus, Dj, aopsd, aopd, valOp, loA, hiA, sliceA, ownA, addA, nilA, nil0, viewA, chunk] <;> (first | done | omega | (rw [Bool.eq_iff_iff]; simp only [Bool.or_eq_true, Bool.and_eq_true, Bool.not_eq_true', decide_eq_true_eq, decide_eq_false_iff_not]; omega))) (by simp [aops, aop, kont, evA, evAs, evParts, constA, getk, St.put, slotsOf, dok, readA, mkA, addOff, binA, binT, eqr, isConstO, lenA, pickA, cellsA, guardA, upd, splice, fillA, rowsLit, AV.cell, thenQ, blockQ, endQ, resA, resV, ret, keys, subs, minus, Dj, aopsd, aopd, valOp, loA, hiA, sliceA, ownA, addA, nilA, nil0, viewA, chunk]))

end Go.Proofs.Ythokajebopeomaa
