/- Measuring, turning and comparing a type do what the plain functions say; a type is not greater than 1048576 where it is turned. -/
import Derived.Test.YthokajebopeomaaTab
import Derived.Test.YthokajebopeomaaEncT
/-! Measuring, turning and holding types. -/
set_option linter.unusedVariables false
set_option linter.unusedSimpArgs false
namespace Go.Proofs.Ythokajebopeomaa
open Go.Ab

theorem szTypeS_of (l : List Typ) (left : Int) (h0 : 0 ≤ left) (h1 : left ≤ 1048576) (ih : ∀ t ∈ l, ∀ left : Int, 0 ≤ left → left ≤ 1048576 → Does Try.prog 24 [.agg (encT t), .int .i64 left] [] (ret (.int .i64 (res left (szT t))))) :
    Does Try.prog 56 [.sl (l.map encT), .int .i64 left] [] (ret (.int .i64 (res left (szTs l)))) := by
  refine does_of_good tabOk Try.func56 rfl (by decide +kernel) (Nat.le_of_ble_eq_true rfl) fun c hM => ?_
  refine good_lens 0 rfl fun hlens => ?_
  have hlen : l.length < 9223372036854775808 := by simpa [lens] using hlens
  clear hlens
  have hw : IntKind.i64.wrap (left - l.length) = left - l.length := wrap_i64 (by omega) (by omega)
  refine good_seq fun K1 hK1 => ?_
  (refine good_region tabOk ?_; simp (maxSteps := 1000000) [aops, aop, kont, evA, evAs, evParts, constA, getk, St.put, slotsOf, dok, readA, mkA, addOff, binA, binT, eqr, isConstO, lenA, pickA, cellsA, guardA, upd, splice, fillA, rowsLit, AV.cell, thenQ, blockQ, endQ, resA, resV, ret, keys, subs, minus, Dj, aopsd, aopd, valOp, loA, hiA, sliceA, ownA, addA, nilA, nil0, viewA, chunk])
  refine hK1 _ ?_; clear hK1 K1
  refine good_seq fun K2 hK2 => ?_
  (refine good_region tabOk ?_; simp (maxSteps := 1000000) [aops, aop, kont, evA, evAs, evParts, constA, getk, St.put, slotsOf, dok, readA, mkA, addOff, binA, binT, eqr, isConstO, lenA, pickA, cellsA, guardA, upd, splice, fillA, rowsLit, AV.cell, thenQ, blockQ, endQ, resA, resV, ret, keys, subs, minus, Dj, aopsd, aopd, valOp, loA, hiA, sliceA, ownA, addA, nilA, nil0, viewA, chunk, hw])
  refine hK2 _ ?_; clear hK2 K2
  refine good_seq fun K3 hK3 => ?_
  refine good_seq fun K4 hK4 => ?_
  (refine good_region tabOk ?_; simp (maxSteps := 1000000) [aops, aop, kont, evA, evAs, evParts, constA, getk, St.put, slotsOf, dok, readA, mkA, addOff, binA, binT, eqr, isConstO, lenA, pickA, cellsA, guardA, upd, splice, fillA, rowsLit, AV.cell, thenQ, blockQ, endQ, resA, resV, ret, keys, subs, minus, Dj, aopsd, aopd, valOp, loA, hiA, sliceA, ownA, addA, nilA, nil0, viewA, chunk])
  refine hK4 _ ?_; clear hK4 K4
  refine good_cond rfl ?_ ?_
  · intro hc
    have hc : left - l.length < 0 := by simpa using hc
    refine good_seq fun K5 hK5 => ?_
    (refine good_region tabOk ?_; simp (maxSteps := 1000000) [aops, aop, kont, evA, evAs, evParts, constA, getk, St.put, slotsOf, dok, readA, mkA, addOff, binA, binT, eqr, isConstO, lenA, pickA, cellsA, guardA, upd, splice, fillA, rowsLit, AV.cell, thenQ, blockQ, endQ, resA, resV, ret, keys, subs, minus, Dj, aopsd, aopd, valOp, loA, hiA, sliceA, ownA, addA, nilA, nil0, viewA, chunk])
    refine hK5 _ ?_; clear hK5 K5
    refine good_ret ?_
    simp [aops, aop, kont, evA, evAs, evParts, constA, getk, St.put, slotsOf, dok, readA, mkA, addOff, binA, binT, eqr, isConstO, lenA, pickA, cellsA, guardA, upd, splice, fillA, rowsLit, AV.cell, thenQ, blockQ, endQ, resA, resV, ret, keys, subs, minus, Dj, aopsd, aopd, valOp, loA, hiA, sliceA, ownA, addA, nilA, nil0, viewA, chunk]
    rw [szTs_eq, res, if_neg (by omega)]
  · intro hc
    have hc : ¬ (left - l.length < 0) := by simpa using hc
    refine good_skip ?_
    simp only [thenQ, blockQ]
    refine hK3 _ ?_; clear hK3 K3
    refine good_seq fun K6 hK6 => ?_
    refine good_seq fun K7 hK7 => ?_
    (refine good_region tabOk ?_; simp (maxSteps := 1000000) [aops, aop, kont, evA, evAs, evParts, constA, getk, St.put, slotsOf, dok, readA, mkA, addOff, binA, binT, eqr, isConstO, lenA, pickA, cellsA, guardA, upd, splice, fillA, rowsLit, AV.cell, thenQ, blockQ, endQ, resA, resV, ret, keys, subs, minus, Dj, aopsd, aopd, valOp, loA, hiA, sliceA, ownA, addA, nilA, nil0, viewA, chunk])
    refine hK7 _ ?_; clear hK7 K7
    refine good_block ?_
    -- LOOP
    refine good_loopf (fun i : Nat => ⟨27, [(0, .sl (l.map encT)), (1, .int .i64 (left - l.length - sumT (l.take i))), (5, .int .i64 i)], []⟩) (fun m i => i + m = l.length ∧ (sumT (l.take i) : Int) ≤ left - l.length) l.length 0 (weak_of rfl (by simp [aops, aop, kont, evA, evAs, evParts, constA, getk, St.put, slotsOf, dok, readA, mkA, addOff, binA, binT, eqr, isConstO, lenA, pickA, cellsA, guardA, upd, splice, fillA, rowsLit, AV.cell, thenQ, blockQ, endQ, resA, resV, ret, keys, subs, minus, Dj, aopsd, aopd, valOp, loA, hiA, sliceA, ownA, addA, nilA, nil0, viewA, chunk, sumT]) (by simp [aops, aop, kont, evA, evAs, evParts, constA, getk, St.put, slotsOf, dok, readA, mkA, addOff, binA, binT, eqr, isConstO, lenA, pickA, cellsA, guardA, upd, splice, fillA, rowsLit, AV.cell, thenQ, blockQ, endQ, resA, resV, ret, keys, subs, minus, Dj, aopsd, aopd, valOp, loA, hiA, sliceA, ownA, addA, nilA, nil0, viewA, chunk])) ⟨by simp, by simp [sumT]; omega⟩ ?_
    rintro m i ⟨hp, hp2⟩
    refine good_seq fun K8 hK8 => ?_
    refine good_seq fun K9 hK9 => ?_
    (refine good_region tabOk ?_; simp (maxSteps := 1000000) [aops, aop, kont, evA, evAs, evParts, constA, getk, St.put, slotsOf, dok, readA, mkA, addOff, binA, binT, eqr, isConstO, lenA, pickA, cellsA, guardA, upd, splice, fillA, rowsLit, AV.cell, thenQ, blockQ, endQ, resA, resV, ret, keys, subs, minus, Dj, aopsd, aopd, valOp, loA, hiA, sliceA, ownA, addA, nilA, nil0, viewA, chunk])
    refine hK9 _ ?_; clear hK9 K9
    refine good_cond rfl ?_ ?_
    · intro hc
      have hlt : i < l.length := by simpa using hc
      refine good_skip ?_
      simp only [thenQ, blockQ]
      refine hK8 _ ?_; clear hK8 K8
      refine good_seq fun K10 hK10 => ?_
      refine good_block ?_
      refine good_seq fun K11 hK11 => ?_
      (refine good_region tabOk ?_; simp (maxSteps := 1000000) [aops, aop, kont, evA, evAs, evParts, constA, getk, St.put, slotsOf, dok, readA, mkA, addOff, binA, binT, eqr, isConstO, lenA, pickA, cellsA, guardA, upd, splice, fillA, rowsLit, AV.cell, thenQ, blockQ, endQ, resA, resV, ret, keys, subs, minus, Dj, aopsd, aopd, valOp, loA, hiA, sliceA, ownA, addA, nilA, nil0, viewA, chunk, hlt])
      refine callP (ih l[i] (List.getElem_mem _) _ (by omega) (by omega)) rfl ?_
      simp [aops, aop, kont, evA, evAs, evParts, constA, getk, St.put, slotsOf, dok, readA, mkA, addOff, binA, binT, eqr, isConstO, lenA, pickA, cellsA, guardA, upd, splice, fillA, rowsLit, AV.cell, thenQ, blockQ, endQ, resA, resV, ret, keys, subs, minus, Dj, aopsd, aopd, valOp, loA, hiA, sliceA, ownA, addA, nilA, nil0, viewA, chunk]
      refine hK11 _ ?_; clear hK11 K11
      refine good_seq fun K12 hK12 => ?_
      (refine good_region tabOk ?_; simp (maxSteps := 1000000) [aops, aop, kont, evA, evAs, evParts, constA, getk, St.put, slotsOf, dok, readA, mkA, addOff, binA, binT, eqr, isConstO, lenA, pickA, cellsA, guardA, upd, splice, fillA, rowsLit, AV.cell, thenQ, blockQ, endQ, resA, resV, ret, keys, subs, minus, Dj, aopsd, aopd, valOp, loA, hiA, sliceA, ownA, addA, nilA, nil0, viewA, chunk])
      refine hK12 _ ?_; clear hK12 K12
      refine good_cond rfl ?_ ?_
      · intro hc
        have hc : res (left - l.length - sumT (l.take i)) (szT l[i]) < 0 := by simpa using hc
        refine good_seq fun K13 hK13 => ?_
        (refine good_region tabOk ?_; simp (maxSteps := 1000000) [aops, aop, kont, evA, evAs, evParts, constA, getk, St.put, slotsOf, dok, readA, mkA, addOff, binA, binT, eqr, isConstO, lenA, pickA, cellsA, guardA, upd, splice, fillA, rowsLit, AV.cell, thenQ, blockQ, endQ, resA, resV, ret, keys, subs, minus, Dj, aopsd, aopd, valOp, loA, hiA, sliceA, ownA, addA, nilA, nil0, viewA, chunk])
        refine hK13 _ ?_; clear hK13 K13
        refine good_ret ?_
        simp [aops, aop, kont, evA, evAs, evParts, constA, getk, St.put, slotsOf, dok, readA, mkA, addOff, binA, binT, eqr, isConstO, lenA, pickA, cellsA, guardA, upd, splice, fillA, rowsLit, AV.cell, thenQ, blockQ, endQ, resA, resV, ret, keys, subs, minus, Dj, aopsd, aopd, valOp, loA, hiA, sliceA, ownA, addA, nilA, nil0, viewA, chunk]
        have := szT_le_sum hlt
        have h3 := sumT_take_succ hlt
        have h4 := sumT_take_le l (i + 1)
        rw [szTs_eq, res, if_neg]
        intro h
        rw [res, if_pos (by omega)] at hc
        omega
      · intro hc
        have hc : ¬ (res (left - l.length - sumT (l.take i)) (szT l[i]) < 0) := by simpa using hc
        have h3 := sumT_take_succ hlt
        have h5 : (szT l[i] : Int) ≤ left - l.length - sumT (l.take i) := by
          rcases Int.lt_or_le (left - l.length - sumT (l.take i)) (szT l[i]) with h | h
          · rw [res, if_neg (by omega)] at hc; omega
          · exact h
        have h6 : res (left - l.length - sumT (l.take i)) (szT l[i]) = left - l.length - sumT (l.take (i + 1)) := by
          rw [res, if_pos h5]; omega
        refine good_skip ?_
        simp only [thenQ, blockQ]
        refine hK10 _ ?_; clear hK10 K10
        (refine good_region tabOk ?_; simp (maxSteps := 1000000) [aops, aop, kont, evA, evAs, evParts, constA, getk, St.put, slotsOf, dok, readA, mkA, addOff, binA, binT, eqr, isConstO, lenA, pickA, cellsA, guardA, upd, splice, fillA, rowsLit, AV.cell, thenQ, blockQ, endQ, resA, resV, ret, keys, subs, minus, Dj, aopsd, aopd, valOp, loA, hiA, sliceA, ownA, addA, nilA, nil0, viewA, chunk])
        refine round_mk (m - 1) (i + 1) (by omega) ⟨by omega, by omega⟩ (weak_of rfl (by simp [aops, aop, kont, evA, evAs, evParts, constA, getk, St.put, slotsOf, dok, readA, mkA, addOff, binA, binT, eqr, isConstO, lenA, pickA, cellsA, guardA, upd, splice, fillA, rowsLit, AV.cell, thenQ, blockQ, endQ, resA, resV, ret, keys, subs, minus, Dj, aopsd, aopd, valOp, loA, hiA, sliceA, ownA, addA, nilA, nil0, viewA, chunk, h6]; rw [wrap_i64 (by omega) (by omega)]) (by simp [aops, aop, kont, evA, evAs, evParts, constA, getk, St.put, slotsOf, dok, readA, mkA, addOff, binA, binT, eqr, isConstO, lenA, pickA, cellsA, guardA, upd, splice, fillA, rowsLit, AV.cell, thenQ, blockQ, endQ, resA, resV, ret, keys, subs, minus, Dj, aopsd, aopd, valOp, loA, hiA, sliceA, ownA, addA, nilA, nil0, viewA, chunk]))
    · intro hc
      have hge : ¬ i < l.length := by simpa using hc
      refine good_exit ?_
      simp [aops, aop, kont, evA, evAs, evParts, constA, getk, St.put, slotsOf, dok, readA, mkA, addOff, binA, binT, eqr, isConstO, lenA, pickA, cellsA, guardA, upd, splice, fillA, rowsLit, AV.cell, thenQ, blockQ, endQ, resA, resV, ret, keys, subs, minus, Dj, aopsd, aopd, valOp, loA, hiA, sliceA, ownA, addA, nilA, nil0, viewA, chunk]
      refine hK6 _ ?_; clear hK8 K8 hK6 K6
      refine good_seq fun K14 hK14 => ?_
      (refine good_region tabOk ?_; simp (maxSteps := 1000000) [aops, aop, kont, evA, evAs, evParts, constA, getk, St.put, slotsOf, dok, readA, mkA, addOff, binA, binT, eqr, isConstO, lenA, pickA, cellsA, guardA, upd, splice, fillA, rowsLit, AV.cell, thenQ, blockQ, endQ, resA, resV, ret, keys, subs, minus, Dj, aopsd, aopd, valOp, loA, hiA, sliceA, ownA, addA, nilA, nil0, viewA, chunk])
      refine hK14 _ ?_; clear hK14 K14
      refine good_ret ?_
      simp [aops, aop, kont, evA, evAs, evParts, constA, getk, St.put, slotsOf, dok, readA, mkA, addOff, binA, binT, eqr, isConstO, lenA, pickA, cellsA, guardA, upd, splice, fillA, rowsLit, AV.cell, thenQ, blockQ, endQ, resA, resV, ret, keys, subs, minus, Dj, aopsd, aopd, valOp, loA, hiA, sliceA, ownA, addA, nilA, nil0, viewA, chunk]
      have h7 : l.take i = l := List.take_of_length_le (by omega)
      rw [h7] at hp2 ⊢
      rw [szTs_eq, res, if_pos (by omega)]; omega

theorem szType_of (t : Typ) (left : Int) (h0 : 0 ≤ left) (h1 : left ≤ 1048576) (ih : ∀ left : Int, 0 ≤ left → left ≤ 1048576 → Does Try.prog 56 [.sl (t.of.map encT), .int .i64 left] [] (ret (.int .i64 (res left (szTs t.of))))) :
    Does Try.prog 24 [.agg (encT t), .int .i64 left] [] (ret (.int .i64 (res left (szT t)))) := by
  refine does_of_good tabOk Try.func24 rfl (by decide +kernel) (Nat.le_of_ble_eq_true rfl) fun c hM => ?_
  refine good_lens 0 rfl fun hlens => ?_
  have hlen : t.name.length < 9223372036854775808 := hlens _ (by rw [lens, encT_eq]; simp)
  clear hlens
  have hw : IntKind.i64.wrap (left - t.name.length) = left - t.name.length := wrap_i64 (by omega) (by omega)
  refine good_seq fun K1 hK1 => ?_
  (refine good_region tabOk ?_; simp (maxSteps := 1000000) [aops, aop, kont, evA, evAs, evParts, constA, getk, St.put, slotsOf, dok, readA, mkA, addOff, binA, binT, eqr, isConstO, lenA, pickA, cellsA, guardA, upd, splice, fillA, rowsLit, AV.cell, thenQ, blockQ, endQ, resA, resV, ret, keys, subs, minus, Dj, aopsd, aopd, valOp, loA, hiA, sliceA, ownA, addA, nilA, nil0, viewA, chunk])
  intro b2 _
  try simp [aops, aop, kont, evA, evAs, evParts, constA, getk, St.put, slotsOf, dok, readA, mkA, addOff, binA, binT, eqr, isConstO, lenA, pickA, cellsA, guardA, upd, splice, fillA, rowsLit, AV.cell, thenQ, blockQ, endQ, resA, resV, ret, keys, subs, minus, Dj, aopsd, aopd, valOp, loA, hiA, sliceA, ownA, addA, nilA, nil0, viewA, chunk]
  refine hK1 _ ?_; clear hK1 K1
  refine good_seq fun K2 hK2 => ?_
  (refine good_region tabOk ?_; simp (maxSteps := 1000000) [aops, aop, kont, evA, evAs, evParts, constA, getk, St.put, slotsOf, dok, readA, mkA, addOff, binA, binT, eqr, isConstO, lenA, pickA, cellsA, guardA, upd, splice, fillA, rowsLit, AV.cell, thenQ, blockQ, endQ, resA, resV, ret, keys, subs, minus, Dj, aopsd, aopd, valOp, loA, hiA, sliceA, ownA, addA, nilA, nil0, viewA, chunk, hw])
  refine hK2 _ ?_; clear hK2 K2
  refine good_seq fun K3 hK3 => ?_
  refine good_seq fun K4 hK4 => ?_
  (refine good_region tabOk ?_; simp (maxSteps := 1000000) [aops, aop, kont, evA, evAs, evParts, constA, getk, St.put, slotsOf, dok, readA, mkA, addOff, binA, binT, eqr, isConstO, lenA, pickA, cellsA, guardA, upd, splice, fillA, rowsLit, AV.cell, thenQ, blockQ, endQ, resA, resV, ret, keys, subs, minus, Dj, aopsd, aopd, valOp, loA, hiA, sliceA, ownA, addA, nilA, nil0, viewA, chunk])
  refine hK4 _ ?_; clear hK4 K4
  refine good_cond rfl ?_ ?_
  · intro hc
    have hc : left - t.name.length < 0 := by simpa using hc
    refine good_seq fun K5 hK5 => ?_
    (refine good_region tabOk ?_; simp (maxSteps := 1000000) [aops, aop, kont, evA, evAs, evParts, constA, getk, St.put, slotsOf, dok, readA, mkA, addOff, binA, binT, eqr, isConstO, lenA, pickA, cellsA, guardA, upd, splice, fillA, rowsLit, AV.cell, thenQ, blockQ, endQ, resA, resV, ret, keys, subs, minus, Dj, aopsd, aopd, valOp, loA, hiA, sliceA, ownA, addA, nilA, nil0, viewA, chunk])
    refine hK5 _ ?_; clear hK5 K5
    refine good_ret ?_
    simp [aops, aop, kont, evA, evAs, evParts, constA, getk, St.put, slotsOf, dok, readA, mkA, addOff, binA, binT, eqr, isConstO, lenA, pickA, cellsA, guardA, upd, splice, fillA, rowsLit, AV.cell, thenQ, blockQ, endQ, resA, resV, ret, keys, subs, minus, Dj, aopsd, aopd, valOp, loA, hiA, sliceA, ownA, addA, nilA, nil0, viewA, chunk]
    rw [szT_eq, res, if_neg (by omega)]
  · intro hc
    have hc : ¬ (left - t.name.length < 0) := by simpa using hc
    refine good_skip ?_
    simp only [thenQ, blockQ]
    refine hK3 _ ?_; clear hK3 K3
    refine good_seq fun K6 hK6 => ?_
    (refine good_region tabOk ?_; simp (maxSteps := 1000000) [aops, aop, kont, evA, evAs, evParts, constA, getk, St.put, slotsOf, dok, readA, mkA, addOff, binA, binT, eqr, isConstO, lenA, pickA, cellsA, guardA, upd, splice, fillA, rowsLit, AV.cell, thenQ, blockQ, endQ, resA, resV, ret, keys, subs, minus, Dj, aopsd, aopd, valOp, loA, hiA, sliceA, ownA, addA, nilA, nil0, viewA, chunk])
    refine callP (ih _ (by omega) (by omega)) rfl ?_
    simp [aops, aop, kont, evA, evAs, evParts, constA, getk, St.put, slotsOf, dok, readA, mkA, addOff, binA, binT, eqr, isConstO, lenA, pickA, cellsA, guardA, upd, splice, fillA, rowsLit, AV.cell, thenQ, blockQ, endQ, resA, resV, ret, keys, subs, minus, Dj, aopsd, aopd, valOp, loA, hiA, sliceA, ownA, addA, nilA, nil0, viewA, chunk]
    refine hK6 _ ?_; clear hK6 K6
    refine good_seq fun K7 hK7 => ?_
    refine good_seq fun K8 hK8 => ?_
    (refine good_region tabOk ?_; simp (maxSteps := 1000000) [aops, aop, kont, evA, evAs, evParts, constA, getk, St.put, slotsOf, dok, readA, mkA, addOff, binA, binT, eqr, isConstO, lenA, pickA, cellsA, guardA, upd, splice, fillA, rowsLit, AV.cell, thenQ, blockQ, endQ, resA, resV, ret, keys, subs, minus, Dj, aopsd, aopd, valOp, loA, hiA, sliceA, ownA, addA, nilA, nil0, viewA, chunk])
    refine hK8 _ ?_; clear hK8 K8
    refine good_cond rfl ?_ ?_
    · intro hc
      have hc : res (left - t.name.length) (szTs t.of) < 0 := by simpa using hc
      refine good_seq fun K9 hK9 => ?_
      (refine good_region tabOk ?_; simp (maxSteps := 1000000) [aops, aop, kont, evA, evAs, evParts, constA, getk, St.put, slotsOf, dok, readA, mkA, addOff, binA, binT, eqr, isConstO, lenA, pickA, cellsA, guardA, upd, splice, fillA, rowsLit, AV.cell, thenQ, blockQ, endQ, resA, resV, ret, keys, subs, minus, Dj, aopsd, aopd, valOp, loA, hiA, sliceA, ownA, addA, nilA, nil0, viewA, chunk])
      refine hK9 _ ?_; clear hK9 K9
      refine good_ret ?_
      simp [aops, aop, kont, evA, evAs, evParts, constA, getk, St.put, slotsOf, dok, readA, mkA, addOff, binA, binT, eqr, isConstO, lenA, pickA, cellsA, guardA, upd, splice, fillA, rowsLit, AV.cell, thenQ, blockQ, endQ, resA, resV, ret, keys, subs, minus, Dj, aopsd, aopd, valOp, loA, hiA, sliceA, ownA, addA, nilA, nil0, viewA, chunk]
      rw [szT_eq, ← szTs_eq, res, if_neg]
      intro h
      rw [res, if_pos (by omega)] at hc
      omega
    · intro hc
      have hc : ¬ (res (left - t.name.length) (szTs t.of) < 0) := by simpa using hc
      refine good_skip ?_
      simp only [thenQ, blockQ]
      refine hK7 _ ?_; clear hK7 K7
      refine good_seq fun K10 hK10 => ?_
      (refine good_region tabOk ?_; simp (maxSteps := 1000000) [aops, aop, kont, evA, evAs, evParts, constA, getk, St.put, slotsOf, dok, readA, mkA, addOff, binA, binT, eqr, isConstO, lenA, pickA, cellsA, guardA, upd, splice, fillA, rowsLit, AV.cell, thenQ, blockQ, endQ, resA, resV, ret, keys, subs, minus, Dj, aopsd, aopd, valOp, loA, hiA, sliceA, ownA, addA, nilA, nil0, viewA, chunk])
      refine hK10 _ ?_; clear hK10 K10
      refine good_ret ?_
      simp [aops, aop, kont, evA, evAs, evParts, constA, getk, St.put, slotsOf, dok, readA, mkA, addOff, binA, binT, eqr, isConstO, lenA, pickA, cellsA, guardA, upd, splice, fillA, rowsLit, AV.cell, thenQ, blockQ, endQ, resA, resV, ret, keys, subs, minus, Dj, aopsd, aopd, valOp, loA, hiA, sliceA, ownA, addA, nilA, nil0, viewA, chunk]
      have h5 : (szTs t.of : Int) ≤ left - t.name.length := by
        rcases Int.lt_or_le (left - t.name.length) (szTs t.of) with h | h
        · rw [res, if_neg (by omega)] at hc; omega
        · exact h
      rw [szT_eq, ← szTs_eq, res, if_pos h5, res, if_pos (by omega)]
      omega

theorem laws_szType_does (t : Typ) (left : Int) (h0 : 0 ≤ left) (h1 : left ≤ 1048576) : Does Try.prog 24 [.agg (encT t), .int .i64 left] [] (ret (.int .i64 (res left (szT t)))) :=
  szType_of t left h0 h1 fun left h0 h1 => szTypeS_of t.of left h0 h1 fun u hu left h0 h1 => laws_szType_does u left h0 h1
termination_by SizeOf.sizeOf t
decreasing_by exact Typ.of_lt hu

theorem laws_szTypeS_does (l : List Typ) (left : Int) (h0 : 0 ≤ left) (h1 : left ≤ 1048576) : Does Try.prog 56 [.sl (l.map encT), .int .i64 left] [] (ret (.int .i64 (res left (szTs l)))) :=
  szTypeS_of l left h0 h1 fun u _ left h0 h1 => laws_szType_does u left h0 h1

/-! toType -/

theorem toTypeS_of (l : List Typ) (h : szTs l ≤ 1048576) (ih : ∀ t ∈ l, Does Try.prog 26 [.agg (encT t)] [] (ret (.agg (encT t)))) :
    Does Try.prog 59 [.sl (l.map encT)] [] (ret (.sl (l.map encT))) := by
  have hl : l.length ≤ 1048576 := by rw [szTs_eq] at h; omega
  refine does_of_good tabOk Try.func59 rfl (by decide +kernel) (Nat.le_of_ble_eq_true rfl) fun c hM => ?_
  refine good_seq fun K1 hK1 => ?_
  (refine good_region tabOk ?_; simp (maxSteps := 1000000) [aops, aop, kont, evA, evAs, evParts, constA, getk, St.put, slotsOf, dok, readA, mkA, addOff, binA, binT, eqr, isConstO, lenA, pickA, cellsA, guardA, upd, splice, fillA, rowsLit, AV.cell, thenQ, blockQ, endQ, resA, resV, ret, keys, subs, minus, Dj, aopsd, aopd, valOp, loA, hiA, sliceA, ownA, addA, nilA, nil0, viewA, chunk])
  refine hK1 _ ?_; clear hK1 K1
  refine good_seq fun K2 hK2 => ?_
  (refine good_region tabOk ?_; simp (maxSteps := 1000000) [aops, aop, kont, evA, evAs, evParts, constA, getk, St.put, slotsOf, dok, readA, mkA, addOff, binA, binT, eqr, isConstO, lenA, pickA, cellsA, guardA, upd, splice, fillA, rowsLit, AV.cell, thenQ, blockQ, endQ, resA, resV, ret, keys, subs, minus, Dj, aopsd, aopd, valOp, loA, hiA, sliceA, ownA, addA, nilA, nil0, viewA, chunk])
  refine ⟨⟨by omega, by omega⟩, fun b _ => ?_⟩
  refine hK2 _ ?_; clear hK2 K2
  refine good_seq fun K3 hK3 => ?_
  refine good_seq fun K4 hK4 => ?_
  (refine good_region tabOk ?_; simp (maxSteps := 1000000) [aops, aop, kont, evA, evAs, evParts, constA, getk, St.put, slotsOf, dok, readA, mkA, addOff, binA, binT, eqr, isConstO, lenA, pickA, cellsA, guardA, upd, splice, fillA, rowsLit, AV.cell, thenQ, blockQ, endQ, resA, resV, ret, keys, subs, minus, Dj, aopsd, aopd, valOp, loA, hiA, sliceA, ownA, addA, nilA, nil0, viewA, chunk])
  refine hK4 _ ?_; clear hK4 K4
  refine good_block ?_
  have hall : ∀ i, ∀ r ∈ (l.take i).map encT ++ List.replicate (l.length - i) [AV.str [], AV.nil, AV.bool false], r.length = 3 := by
    intro i r hr
    rcases List.mem_append.1 hr with h | h
    · obtain ⟨t, _, rfl⟩ := List.mem_map.1 h; simp
    · rw [(List.mem_replicate.1 h).2]; rfl
  refine good_loopf (fun i : Nat => ⟨23, [(0, .sl (l.map encT)), (3, .ref b l.length l.length), (4, .int .i64 i)], [(b, .row 43 (l.length * 3) (rowsC ((l.take i).map encT ++ List.replicate (l.length - i) [AV.str [], AV.nil, AV.bool false])))]⟩) (fun m i => i + m = l.length) l.length 0 (weak_of rfl (by simp [aops, aop, kont, evA, evAs, evParts, constA, getk, St.put, slotsOf, dok, readA, mkA, addOff, binA, binT, eqr, isConstO, lenA, pickA, cellsA, guardA, upd, splice, fillA, rowsLit, AV.cell, thenQ, blockQ, endQ, resA, resV, ret, keys, subs, minus, Dj, aopsd, aopd, valOp, loA, hiA, sliceA, ownA, addA, nilA, nil0, viewA, chunk]) (by simp [aops, aop, kont, evA, evAs, evParts, constA, getk, St.put, slotsOf, dok, readA, mkA, addOff, binA, binT, eqr, isConstO, lenA, pickA, cellsA, guardA, upd, splice, fillA, rowsLit, AV.cell, thenQ, blockQ, endQ, resA, resV, ret, keys, subs, minus, Dj, aopsd, aopd, valOp, loA, hiA, sliceA, ownA, addA, nilA, nil0, viewA, chunk])) (by simp) ?_
  rintro m i hp
  have hp : i + m = l.length := hp
  refine good_seq fun K5 hK5 => ?_
  refine good_seq fun K6 hK6 => ?_
  (refine good_region tabOk ?_; simp (maxSteps := 1000000) [aops, aop, kont, evA, evAs, evParts, constA, getk, St.put, slotsOf, dok, readA, mkA, addOff, binA, binT, eqr, isConstO, lenA, pickA, cellsA, guardA, upd, splice, fillA, rowsLit, AV.cell, thenQ, blockQ, endQ, resA, resV, ret, keys, subs, minus, Dj, aopsd, aopd, valOp, loA, hiA, sliceA, ownA, addA, nilA, nil0, viewA, chunk])
  refine hK6 _ ?_; clear hK6 K6
  refine good_cond rfl ?_ ?_
  · intro hc
    have hlt : i < l.length := by simpa using hc
    refine good_skip ?_
    simp only [thenQ, blockQ]
    refine hK5 _ ?_; clear hK5 K5
    refine good_seq fun K7 hK7 => ?_
    refine good_block ?_
    (refine good_region tabOk ?_; simp [aops, aop, kont, evA, evAs, evParts, constA, getk, St.put, slotsOf, dok, readA, mkA, addOff, binA, binT, eqr, isConstO, lenA, pickA, cellsA, guardA, upd, fillA, rowsLit, AV.cell, thenQ, blockQ, endQ, resA, resV, ret, keys, subs, minus, Dj, aopsd, aopd, valOp, loA, hiA, sliceA, ownA, addA, nilA, nil0, viewA, chunk, hlt])
    refine callP (ih l[i] (List.getElem_mem _)) rfl ?_
    have hrl := rowsC_length (hall i)
    have hll : ((l.take i).map encT ++ List.replicate (l.length - i) [AV.str [], AV.nil, AV.bool false]).length = l.length := by simp; omega
    rw [hll] at hrl
    have hsp := rowsC_splice (hall i) (i := i) (by rw [hll]; exact hlt) (encT_length l[i])
    rw [set_done encT _ l hlt] at hsp
    simp only [List.map_take] at hrl hsp
    simp [aops, aop, kont, evA, evAs, evParts, constA, getk, St.put, slotsOf, dok, readA, mkA, addOff, binA, binT, eqr, isConstO, lenA, pickA, cellsA, guardA, upd, fillA, rowsLit, AV.cell, thenQ, blockQ, endQ, resA, resV, ret, keys, subs, minus, Dj, aopsd, aopd, valOp, loA, hiA, sliceA, ownA, addA, nilA, nil0, viewA, chunk, hlt, hrl, hsp]
    refine ⟨by omega, ?_⟩
    refine hK7 _ ?_; clear hK7 K7
    (refine good_region tabOk ?_; simp (maxSteps := 1000000) [aops, aop, kont, evA, evAs, evParts, constA, getk, St.put, slotsOf, dok, readA, mkA, addOff, binA, binT, eqr, isConstO, lenA, pickA, cellsA, guardA, upd, splice, fillA, rowsLit, AV.cell, thenQ, blockQ, endQ, resA, resV, ret, keys, subs, minus, Dj, aopsd, aopd, valOp, loA, hiA, sliceA, ownA, addA, nilA, nil0, viewA, chunk])
    refine round_mk (m - 1) (i + 1) (by omega) (by omega) (weak_of rfl (by simp [aops, aop, kont, evA, evAs, evParts, constA, getk, St.put, slotsOf, dok, readA, mkA, addOff, binA, binT, eqr, isConstO, lenA, pickA, cellsA, guardA, upd, splice, fillA, rowsLit, AV.cell, thenQ, blockQ, endQ, resA, resV, ret, keys, subs, minus, Dj, aopsd, aopd, valOp, loA, hiA, sliceA, ownA, addA, nilA, nil0, viewA, chunk]; rw [wrap_i64 (by omega) (by omega)]) (by simp [aops, aop, kont, evA, evAs, evParts, constA, getk, St.put, slotsOf, dok, readA, mkA, addOff, binA, binT, eqr, isConstO, lenA, pickA, cellsA, guardA, upd, splice, fillA, rowsLit, AV.cell, thenQ, blockQ, endQ, resA, resV, ret, keys, subs, minus, Dj, aopsd, aopd, valOp, loA, hiA, sliceA, ownA, addA, nilA, nil0, viewA, chunk]))
  · intro hc
    have hge : ¬ i < l.length := by simpa using hc
    have hi : i = l.length := by omega
    subst hi
    simp only [List.take_length, Nat.sub_self, List.replicate_zero, List.append_nil]
    refine good_exit ?_
    simp [aops, aop, kont, evA, evAs, evParts, constA, getk, St.put, slotsOf, dok, readA, mkA, addOff, binA, binT, eqr, isConstO, lenA, pickA, cellsA, guardA, upd, splice, fillA, rowsLit, AV.cell, thenQ, blockQ, endQ, resA, resV, ret, keys, subs, minus, Dj, aopsd, aopd, valOp, loA, hiA, sliceA, ownA, addA, nilA, nil0, viewA, chunk]
    refine hK3 _ ?_; clear hK5 K5 hK3 K3
    refine good_seq fun K8 hK8 => ?_
    (refine good_region tabOk ?_; simp (maxSteps := 1000000) [aops, aop, kont, evA, evAs, evParts, constA, getk, St.put, slotsOf, dok, readA, mkA, addOff, binA, binT, eqr, isConstO, lenA, pickA, cellsA, guardA, upd, splice, fillA, rowsLit, AV.cell, thenQ, blockQ, endQ, resA, resV, ret, keys, subs, minus, Dj, aopsd, aopd, valOp, loA, hiA, sliceA, ownA, addA, nilA, nil0, viewA, chunk])
    refine hK8 _ ?_; clear hK8 K8
    refine good_ret ?_
    simp [aops, aop, kont, evA, evAs, evParts, constA, getk, St.put, slotsOf, dok, readA, mkA, addOff, binA, binT, eqr, isConstO, lenA, pickA, cellsA, guardA, upd, splice, fillA, rowsLit, AV.cell, thenQ, blockQ, endQ, resA, resV, ret, keys, subs, minus, Dj, aopsd, aopd, valOp, loA, hiA, sliceA, ownA, addA, nilA, nil0, viewA, chunk]
    exact viewD_rows (t := 43) (size := l.length * 3) _ _ _ _ (by simp) (by simp [getk]) rfl rfl encT_length (fun x => encT_viewD x _ _ _ _)

theorem toType_of (t : Typ) (ih : Does Try.prog 59 [.sl (t.of.map encT)] [] (ret (.sl (t.of.map encT)))) :
    Does Try.prog 26 [.agg (encT t)] [] (ret (.agg (encT t))) := by
  refine does_of_good tabOk Try.func26 rfl (by decide +kernel) (Nat.le_of_ble_eq_true rfl) fun c hM => ?_
  refine good_seq fun K1 hK1 => ?_
  (refine good_region tabOk ?_; simp (maxSteps := 1000000) [aops, aop, kont, evA, evAs, evParts, constA, getk, St.put, slotsOf, dok, readA, mkA, addOff, binA, binT, eqr, isConstO, lenA, pickA, cellsA, guardA, upd, splice, fillA, rowsLit, AV.cell, thenQ, blockQ, endQ, resA, resV, ret, keys, subs, minus, Dj, aopsd, aopd, valOp, loA, hiA, sliceA, ownA, addA, nilA, nil0, viewA, chunk])
  intro b1 _ -- box
  try simp [aops, aop, kont, evA, evAs, evParts, constA, getk, St.put, slotsOf, dok, readA, mkA, addOff, binA, binT, eqr, isConstO, lenA, pickA, cellsA, guardA, upd, splice, fillA, rowsLit, AV.cell, thenQ, blockQ, endQ, resA, resV, ret, keys, subs, minus, Dj, aopsd, aopd, valOp, loA, hiA, sliceA, ownA, addA, nilA, nil0, viewA, chunk]
  intro b2 hb2 -- alloc
  simp only [fresh_cons, fresh_nil, and_true, minus, keys, List.filter_cons, List.filter_nil] at hb2
  try simp [aops, aop, kont, evA, evAs, evParts, constA, getk, St.put, slotsOf, dok, readA, mkA, addOff, binA, binT, eqr, isConstO, lenA, pickA, cellsA, guardA, upd, splice, fillA, rowsLit, AV.cell, thenQ, blockQ, endQ, resA, resV, ret, keys, subs, minus, Dj, aopsd, aopd, valOp, loA, hiA, sliceA, ownA, addA, nilA, nil0, viewA, chunk, hb2]
  refine hK1 _ ?_; clear hK1 K1
  refine good_seq fun K2 hK2 => ?_
  (refine good_region tabOk ?_; simp (maxSteps := 1000000) [aops, aop, kont, evA, evAs, evParts, constA, getk, St.put, slotsOf, dok, readA, mkA, addOff, binA, binT, eqr, isConstO, lenA, pickA, cellsA, guardA, upd, splice, fillA, rowsLit, AV.cell, thenQ, blockQ, endQ, resA, resV, ret, keys, subs, minus, Dj, aopsd, aopd, valOp, loA, hiA, sliceA, ownA, addA, nilA, nil0, viewA, chunk, hb2])
  intro b3 hb3 -- alloc
  simp only [fresh_cons, fresh_nil, and_true, minus, keys, List.filter_cons, List.filter_nil] at hb3
  try simp [aops, aop, kont, evA, evAs, evParts, constA, getk, St.put, slotsOf, dok, readA, mkA, addOff, binA, binT, eqr, isConstO, lenA, pickA, cellsA, guardA, upd, splice, fillA, rowsLit, AV.cell, thenQ, blockQ, endQ, resA, resV, ret, keys, subs, minus, Dj, aopsd, aopd, valOp, loA, hiA, sliceA, ownA, addA, nilA, nil0, viewA, chunk, hb2, hb3]
  refine hK2 _ ?_; clear hK2 K2
  refine good_seq fun K3 hK3 => ?_
  (refine good_region tabOk ?_; simp (maxSteps := 1000000) [aops, aop, kont, evA, evAs, evParts, constA, getk, St.put, slotsOf, dok, readA, mkA, addOff, binA, binT, eqr, isConstO, lenA, pickA, cellsA, guardA, upd, splice, fillA, rowsLit, AV.cell, thenQ, blockQ, endQ, resA, resV, ret, keys, subs, minus, Dj, aopsd, aopd, valOp, loA, hiA, sliceA, ownA, addA, nilA, nil0, viewA, chunk, hb2, hb3])
  refine hK3 _ ?_; clear hK3 K3
  refine good_seq fun K4 hK4 => ?_
  (refine good_region tabOk ?_; simp (maxSteps := 1000000) [aops, aop, kont, evA, evAs, evParts, constA, getk, St.put, slotsOf, dok, readA, mkA, addOff, binA, binT, eqr, isConstO, lenA, pickA, cellsA, guardA, upd, splice, fillA, rowsLit, AV.cell, thenQ, blockQ, endQ, resA, resV, ret, keys, subs, minus, Dj, aopsd, aopd, valOp, loA, hiA, sliceA, ownA, addA, nilA, nil0, viewA, chunk, hb2, hb3])
  refine callP ih rfl ?_
  simp [aops, aop, kont, evA, evAs, evParts, constA, getk, St.put, slotsOf, dok, readA, mkA, addOff, binA, binT, eqr, isConstO, lenA, pickA, cellsA, guardA, upd, splice, fillA, rowsLit, AV.cell, thenQ, blockQ, endQ, resA, resV, ret, keys, subs, minus, Dj, aopsd, aopd, valOp, loA, hiA, sliceA, ownA, addA, nilA, nil0, viewA, chunk, hb2, hb3]
  refine hK4 _ ?_; clear hK4 K4
  refine good_seq fun K5 hK5 => ?_
  (refine good_region tabOk ?_; simp (maxSteps := 1000000) [aops, aop, kont, evA, evAs, evParts, constA, getk, St.put, slotsOf, dok, readA, mkA, addOff, binA, binT, eqr, isConstO, lenA, pickA, cellsA, guardA, upd, splice, fillA, rowsLit, AV.cell, thenQ, blockQ, endQ, resA, resV, ret, keys, subs, minus, Dj, aopsd, aopd, valOp, loA, hiA, sliceA, ownA, addA, nilA, nil0, viewA, chunk, hb2, hb3])
  refine hK5 _ ?_; clear hK5 K5
  refine good_seq fun K6 hK6 => ?_
  (refine good_region tabOk ?_; simp (maxSteps := 1000000) [aops, aop, kont, evA, evAs, evParts, constA, getk, St.put, slotsOf, dok, readA, mkA, addOff, binA, binT, eqr, isConstO, lenA, pickA, cellsA, guardA, upd, splice, fillA, rowsLit, AV.cell, thenQ, blockQ, endQ, resA, resV, ret, keys, subs, minus, Dj, aopsd, aopd, valOp, loA, hiA, sliceA, ownA, addA, nilA, nil0, viewA, chunk, hb2, hb3])
  refine hK6 _ ?_; clear hK6 K6
  refine good_ret ?_
  simp [aops, aop, kont, evA, evAs, evParts, constA, getk, St.put, slotsOf, dok, readA, mkA, addOff, binA, binT, eqr, isConstO, lenA, pickA, cellsA, guardA, upd, splice, fillA, rowsLit, AV.cell, thenQ, blockQ, endQ, resA, resV, ret, keys, subs, minus, Dj, aopsd, aopd, valOp, loA, hiA, sliceA, ownA, addA, nilA, nil0, viewA, chunk, hb2, hb3, win, encT_eq t]

theorem laws_toType_does (t : Typ) (h : szT t ≤ 1048576) : Does Try.prog 26 [.agg (encT t)] [] (ret (.agg (encT t))) :=
  toType_of t (toTypeS_of t.of (by rw [szT_eq, ← szTs_eq] at h; omega) fun u hu => laws_toType_does u (by
    rw [szT_eq] at h
    obtain ⟨i, hi, rfl⟩ := List.mem_iff_getElem.1 hu
    have := szT_le_sum hi
    omega))
termination_by SizeOf.sizeOf t
decreasing_by exact Typ.of_lt hu

/-! eqType -/

theorem eqTypeS_of (l l' : List Typ) (ih : ∀ t ∈ l, ∀ t', Does Try.prog 28 [.agg (encT t), .agg (encT t')] [] (ret (.bool (eqT t t')))) :
    Does Try.prog 61 [.sl (l.map encT), .sl (l'.map encT)] [] (ret (.bool (eqTs l l'))) := by
  refine does_of_good tabOk Try.func61 rfl (by decide +kernel) (Nat.le_of_ble_eq_true rfl) fun c hM => ?_
  refine good_lens 0 rfl fun hlens => ?_
  have hlen : l.length < 9223372036854775808 := by simpa [lens] using hlens
  clear hlens
  refine good_seq fun K1 hK1 => ?_
  (refine good_region tabOk ?_; simp (maxSteps := 1000000) [aops, aop, kont, evA, evAs, evParts, constA, getk, St.put, slotsOf, dok, readA, mkA, addOff, binA, binT, eqr, isConstO, lenA, pickA, cellsA, guardA, upd, splice, fillA, rowsLit, AV.cell, thenQ, blockQ, endQ, resA, resV, ret, keys, subs, minus, Dj, aopsd, aopd, valOp, loA, hiA, sliceA, ownA, addA, nilA, nil0, viewA, chunk])
  refine hK1 _ ?_; clear hK1 K1
  refine good_seq fun K2 hK2 => ?_
  refine good_seq fun K3 hK3 => ?_
  (refine good_region tabOk ?_; simp (maxSteps := 1000000) [aops, aop, kont, evA, evAs, evParts, constA, getk, St.put, slotsOf, dok, readA, mkA, addOff, binA, binT, eqr, isConstO, lenA, pickA, cellsA, guardA, upd, splice, fillA, rowsLit, AV.cell, thenQ, blockQ, endQ, resA, resV, ret, keys, subs, minus, Dj, aopsd, aopd, valOp, loA, hiA, sliceA, ownA, addA, nilA, nil0, viewA, chunk])
  refine hK3 _ ?_; clear hK3 K3
  refine good_cond rfl ?_ ?_
  · intro hc
    have hne : l.length ≠ l'.length := by simp at hc; omega
    refine good_seq fun K4 hK4 => ?_
    (refine good_region tabOk ?_; simp (maxSteps := 1000000) [aops, aop, kont, evA, evAs, evParts, constA, getk, St.put, slotsOf, dok, readA, mkA, addOff, binA, binT, eqr, isConstO, lenA, pickA, cellsA, guardA, upd, splice, fillA, rowsLit, AV.cell, thenQ, blockQ, endQ, resA, resV, ret, keys, subs, minus, Dj, aopsd, aopd, valOp, loA, hiA, sliceA, ownA, addA, nilA, nil0, viewA, chunk])
    refine hK4 _ ?_; clear hK4 K4
    refine good_ret ?_
    simp [aops, aop, kont, evA, evAs, evParts, constA, getk, St.put, slotsOf, dok, readA, mkA, addOff, binA, binT, eqr, isConstO, lenA, pickA, cellsA, guardA, upd, splice, fillA, rowsLit, AV.cell, thenQ, blockQ, endQ, resA, resV, ret, keys, subs, minus, Dj, aopsd, aopd, valOp, loA, hiA, sliceA, ownA, addA, nilA, nil0, viewA, chunk]
    cases h : eqTs l l' with
    | false => rfl
    | true => exact absurd (congrArg List.length ((eqTs_iff l l').1 h)) hne
  · intro hc
    have heq : l.length = l'.length := by simp at hc; omega
    refine good_skip ?_
    simp only [thenQ, blockQ]
    refine hK2 _ ?_; clear hK2 K2
    refine good_seq fun K5 hK5 => ?_
    refine good_seq fun K6 hK6 => ?_
    (refine good_region tabOk ?_; simp (maxSteps := 1000000) [aops, aop, kont, evA, evAs, evParts, constA, getk, St.put, slotsOf, dok, readA, mkA, addOff, binA, binT, eqr, isConstO, lenA, pickA, cellsA, guardA, upd, splice, fillA, rowsLit, AV.cell, thenQ, blockQ, endQ, resA, resV, ret, keys, subs, minus, Dj, aopsd, aopd, valOp, loA, hiA, sliceA, ownA, addA, nilA, nil0, viewA, chunk])
    refine hK6 _ ?_; clear hK6 K6
    refine good_block ?_
    -- LOOP slots read: [0, 1, 5]; behind it: []
    refine good_loopf (fun i : Nat => ⟨27, [(0, .sl (l.map encT)), (1, .sl (l'.map encT)), (5, .int .i64 i)], []⟩) (fun m i => i + m = l.length ∧ eqTs (l.drop i) (l'.drop i) = eqTs l l') l.length 0 (weak_of rfl (by simp [aops, aop, kont, evA, evAs, evParts, constA, getk, St.put, slotsOf, dok, readA, mkA, addOff, binA, binT, eqr, isConstO, lenA, pickA, cellsA, guardA, upd, splice, fillA, rowsLit, AV.cell, thenQ, blockQ, endQ, resA, resV, ret, keys, subs, minus, Dj, aopsd, aopd, valOp, loA, hiA, sliceA, ownA, addA, nilA, nil0, viewA, chunk]) (by simp [aops, aop, kont, evA, evAs, evParts, constA, getk, St.put, slotsOf, dok, readA, mkA, addOff, binA, binT, eqr, isConstO, lenA, pickA, cellsA, guardA, upd, splice, fillA, rowsLit, AV.cell, thenQ, blockQ, endQ, resA, resV, ret, keys, subs, minus, Dj, aopsd, aopd, valOp, loA, hiA, sliceA, ownA, addA, nilA, nil0, viewA, chunk])) (by simp) ?_
    rintro m i ⟨hp, hp2⟩
    refine good_seq fun K7 hK7 => ?_
    refine good_seq fun K8 hK8 => ?_
    (refine good_region tabOk ?_; simp (maxSteps := 1000000) [aops, aop, kont, evA, evAs, evParts, constA, getk, St.put, slotsOf, dok, readA, mkA, addOff, binA, binT, eqr, isConstO, lenA, pickA, cellsA, guardA, upd, splice, fillA, rowsLit, AV.cell, thenQ, blockQ, endQ, resA, resV, ret, keys, subs, minus, Dj, aopsd, aopd, valOp, loA, hiA, sliceA, ownA, addA, nilA, nil0, viewA, chunk])
    refine hK8 _ ?_; clear hK8 K8
    refine good_cond rfl ?_ ?_
    · intro hc
      have hlt : i < l.length := by simpa using hc
      have hlt' : i < l'.length := by omega
      refine good_skip ?_
      simp only [thenQ, blockQ]
      refine hK7 _ ?_; clear hK7 K7
      refine good_seq fun K9 hK9 => ?_
      refine good_block ?_
      refine good_seq fun K10 hK10 => ?_
      (refine good_draw tabOk (by kernel_rfl) (by kernel_rfl) ?_; simp (maxSteps := 1000000) [aops, aop, kont, evA, evAs, evParts, constA, getk, St.put, slotsOf, dok, readA, mkA, addOff, binA, binT, eqr, isConstO, lenA, pickA, cellsA, guardA, upd, splice, fillA, rowsLit, AV.cell, thenQ, blockQ, endQ, resA, resV, ret, keys, subs, minus, Dj, aopsd, aopd, valOp, loA, hiA, sliceA, ownA, addA, nilA, nil0, viewA, chunk, hlt, hlt'])
      refine callD (ih l[i] (List.getElem_mem _) l'[i]) rfl rfl ?_ -- CALL
      simp [aops, aop, kont, evA, evAs, evParts, constA, getk, St.put, slotsOf, dok, readA, mkA, addOff, binA, binT, eqr, isConstO, lenA, pickA, cellsA, guardA, upd, splice, fillA, rowsLit, AV.cell, thenQ, blockQ, endQ, resA, resV, ret, keys, subs, minus, Dj, aopsd, aopd, valOp, loA, hiA, sliceA, ownA, addA, nilA, nil0, viewA, chunk]
      refine hK10 _ ?_; clear hK10 K10
      refine good_cond rfl ?_ ?_
      · intro hc
        refine good_seq fun K11 hK11 => ?_
        (refine good_region tabOk ?_; simp (maxSteps := 1000000) [aops, aop, kont, evA, evAs, evParts, constA, getk, St.put, slotsOf, dok, readA, mkA, addOff, binA, binT, eqr, isConstO, lenA, pickA, cellsA, guardA, upd, splice, fillA, rowsLit, AV.cell, thenQ, blockQ, endQ, resA, resV, ret, keys, subs, minus, Dj, aopsd, aopd, valOp, loA, hiA, sliceA, ownA, addA, nilA, nil0, viewA, chunk])
        refine hK11 _ ?_; clear hK11 K11
        refine good_ret ?_
        simp [aops, aop, kont, evA, evAs, evParts, constA, getk, St.put, slotsOf, dok, readA, mkA, addOff, binA, binT, eqr, isConstO, lenA, pickA, cellsA, guardA, upd, splice, fillA, rowsLit, AV.cell, thenQ, blockQ, endQ, resA, resV, ret, keys, subs, minus, Dj, aopsd, aopd, valOp, loA, hiA, sliceA, ownA, addA, nilA, nil0, viewA, chunk]
        rw [← hp2, eqTs_split hlt hlt']
        simp at hc; simp [hc]
      · intro hc
        refine good_skip ?_
        simp only [thenQ, blockQ]
        refine hK9 _ ?_; clear hK9 K9
        (refine good_region tabOk ?_; simp (maxSteps := 1000000) [aops, aop, kont, evA, evAs, evParts, constA, getk, St.put, slotsOf, dok, readA, mkA, addOff, binA, binT, eqr, isConstO, lenA, pickA, cellsA, guardA, upd, splice, fillA, rowsLit, AV.cell, thenQ, blockQ, endQ, resA, resV, ret, keys, subs, minus, Dj, aopsd, aopd, valOp, loA, hiA, sliceA, ownA, addA, nilA, nil0, viewA, chunk])
        refine round_mk (m - 1) (i + 1) (by omega) ⟨by omega, ?_⟩ (weak_of rfl (by simp [aops, aop, kont, evA, evAs, evParts, constA, getk, St.put, slotsOf, dok, readA, mkA, addOff, binA, binT, eqr, isConstO, lenA, pickA, cellsA, guardA, upd, splice, fillA, rowsLit, AV.cell, thenQ, blockQ, endQ, resA, resV, ret, keys, subs, minus, Dj, aopsd, aopd, valOp, loA, hiA, sliceA, ownA, addA, nilA, nil0, viewA, chunk]; rw [wrap_i64 (by omega) (by omega)]) (by simp [aops, aop, kont, evA, evAs, evParts, constA, getk, St.put, slotsOf, dok, readA, mkA, addOff, binA, binT, eqr, isConstO, lenA, pickA, cellsA, guardA, upd, splice, fillA, rowsLit, AV.cell, thenQ, blockQ, endQ, resA, resV, ret, keys, subs, minus, Dj, aopsd, aopd, valOp, loA, hiA, sliceA, ownA, addA, nilA, nil0, viewA, chunk]))
        rw [← hp2, eqTs_split hlt hlt']
        simp at hc; simp [hc]
    · intro hc
      have hge : ¬ i < l.length := by simpa using hc
      refine good_exit ?_
      simp [aops, aop, kont, evA, evAs, evParts, constA, getk, St.put, slotsOf, dok, readA, mkA, addOff, binA, binT, eqr, isConstO, lenA, pickA, cellsA, guardA, upd, splice, fillA, rowsLit, AV.cell, thenQ, blockQ, endQ, resA, resV, ret, keys, subs, minus, Dj, aopsd, aopd, valOp, loA, hiA, sliceA, ownA, addA, nilA, nil0, viewA, chunk]
      refine hK5 _ ?_; clear hK7 K7 hK5 K5
      refine good_seq fun K12 hK12 => ?_
      (refine good_region tabOk ?_; simp (maxSteps := 1000000) [aops, aop, kont, evA, evAs, evParts, constA, getk, St.put, slotsOf, dok, readA, mkA, addOff, binA, binT, eqr, isConstO, lenA, pickA, cellsA, guardA, upd, splice, fillA, rowsLit, AV.cell, thenQ, blockQ, endQ, resA, resV, ret, keys, subs, minus, Dj, aopsd, aopd, valOp, loA, hiA, sliceA, ownA, addA, nilA, nil0, viewA, chunk])
      refine hK12 _ ?_; clear hK12 K12
      refine good_ret ?_
      simp [aops, aop, kont, evA, evAs, evParts, constA, getk, St.put, slotsOf, dok, readA, mkA, addOff, binA, binT, eqr, isConstO, lenA, pickA, cellsA, guardA, upd, splice, fillA, rowsLit, AV.cell, thenQ, blockQ, endQ, resA, resV, ret, keys, subs, minus, Dj, aopsd, aopd, valOp, loA, hiA, sliceA, ownA, addA, nilA, nil0, viewA, chunk]
      rw [← hp2, List.drop_of_length_le (by omega), List.drop_of_length_le (by omega)]; rfl

theorem eqType_of (a b : Typ) (ih : ∀ l', Does Try.prog 61 [.sl (a.of.map encT), .sl (l'.map encT)] [] (ret (.bool (eqTs a.of l')))) :
    Does Try.prog 28 [.agg (encT a), .agg (encT b)] [] (ret (.bool (eqT a b))) := by
  refine does_of_good tabOk Try.func28 rfl (by decide +kernel) (Nat.le_of_ble_eq_true rfl) fun c hM => ?_
  refine good_seq fun K1 hK1 => ?_
  (refine good_region tabOk ?_; simp (maxSteps := 1000000) [aops, aop, kont, evA, evAs, evParts, constA, getk, St.put, slotsOf, dok, readA, mkA, addOff, binA, binT, eqr, isConstO, lenA, pickA, cellsA, guardA, upd, splice, fillA, rowsLit, AV.cell, thenQ, blockQ, endQ, resA, resV, ret, keys, subs, minus, Dj, aopsd, aopd, valOp, loA, hiA, sliceA, ownA, addA, nilA, nil0, viewA, chunk])
  intro b2 _ -- box
  try simp [aops, aop, kont, evA, evAs, evParts, constA, getk, St.put, slotsOf, dok, readA, mkA, addOff, binA, binT, eqr, isConstO, lenA, pickA, cellsA, guardA, upd, splice, fillA, rowsLit, AV.cell, thenQ, blockQ, endQ, resA, resV, ret, keys, subs, minus, Dj, aopsd, aopd, valOp, loA, hiA, sliceA, ownA, addA, nilA, nil0, viewA, chunk]
  intro b3 hb3 -- box
  simp only [fresh_cons, fresh_nil, and_true, minus, keys, List.filter_cons, List.filter_nil] at hb3
  try simp [aops, aop, kont, evA, evAs, evParts, constA, getk, St.put, slotsOf, dok, readA, mkA, addOff, binA, binT, eqr, isConstO, lenA, pickA, cellsA, guardA, upd, splice, fillA, rowsLit, AV.cell, thenQ, blockQ, endQ, resA, resV, ret, keys, subs, minus, Dj, aopsd, aopd, valOp, loA, hiA, sliceA, ownA, addA, nilA, nil0, viewA, chunk, hb3]
  refine hK1 _ ?_; clear hK1 K1
  refine good_seq fun K2 hK2 => ?_
  refine good_seq fun K3 hK3 => ?_
  (refine good_region tabOk ?_; simp (maxSteps := 1000000) [aops, aop, kont, evA, evAs, evParts, constA, getk, St.put, slotsOf, dok, readA, mkA, addOff, binA, binT, eqr, isConstO, lenA, pickA, cellsA, guardA, upd, splice, fillA, rowsLit, AV.cell, thenQ, blockQ, endQ, resA, resV, ret, keys, subs, minus, Dj, aopsd, aopd, valOp, loA, hiA, sliceA, ownA, addA, nilA, nil0, viewA, chunk, hb3])
  refine hK3 _ ?_; clear hK3 K3
  refine good_cond rfl ?_ ?_
  · intro hc
    refine good_seq fun K4 hK4 => ?_
    (refine good_region tabOk ?_; simp (maxSteps := 1000000) [aops, aop, kont, evA, evAs, evParts, constA, getk, St.put, slotsOf, dok, readA, mkA, addOff, binA, binT, eqr, isConstO, lenA, pickA, cellsA, guardA, upd, splice, fillA, rowsLit, AV.cell, thenQ, blockQ, endQ, resA, resV, ret, keys, subs, minus, Dj, aopsd, aopd, valOp, loA, hiA, sliceA, ownA, addA, nilA, nil0, viewA, chunk, hb3])
    refine hK4 _ ?_; clear hK4 K4
    refine good_ret ?_
    simp [aops, aop, kont, evA, evAs, evParts, constA, getk, St.put, slotsOf, dok, readA, mkA, addOff, binA, binT, eqr, isConstO, lenA, pickA, cellsA, guardA, upd, splice, fillA, rowsLit, AV.cell, thenQ, blockQ, endQ, resA, resV, ret, keys, subs, minus, Dj, aopsd, aopd, valOp, loA, hiA, sliceA, ownA, addA, nilA, nil0, viewA, chunk, hb3]
    simp at hc; simp [eqT_eq, hc]
  · intro hc
    refine good_skip ?_
    simp only [thenQ, blockQ]
    refine hK2 _ ?_; clear hK2 K2
    refine good_seq fun K5 hK5 => ?_
    refine good_seq fun K6 hK6 => ?_
    (refine good_region tabOk ?_; simp (maxSteps := 1000000) [aops, aop, kont, evA, evAs, evParts, constA, getk, St.put, slotsOf, dok, readA, mkA, addOff, binA, binT, eqr, isConstO, lenA, pickA, cellsA, guardA, upd, splice, fillA, rowsLit, AV.cell, thenQ, blockQ, endQ, resA, resV, ret, keys, subs, minus, Dj, aopsd, aopd, valOp, loA, hiA, sliceA, ownA, addA, nilA, nil0, viewA, chunk, hb3])
    refine callP (ih b.of) rfl ?_ -- CALL
    simp [aops, aop, kont, evA, evAs, evParts, constA, getk, St.put, slotsOf, dok, readA, mkA, addOff, binA, binT, eqr, isConstO, lenA, pickA, cellsA, guardA, upd, splice, fillA, rowsLit, AV.cell, thenQ, blockQ, endQ, resA, resV, ret, keys, subs, minus, Dj, aopsd, aopd, valOp, loA, hiA, sliceA, ownA, addA, nilA, nil0, viewA, chunk, hb3]
    refine hK6 _ ?_; clear hK6 K6
    refine good_cond rfl ?_ ?_
    · intro hc2
      refine good_seq fun K7 hK7 => ?_
      (refine good_region tabOk ?_; simp (maxSteps := 1000000) [aops, aop, kont, evA, evAs, evParts, constA, getk, St.put, slotsOf, dok, readA, mkA, addOff, binA, binT, eqr, isConstO, lenA, pickA, cellsA, guardA, upd, splice, fillA, rowsLit, AV.cell, thenQ, blockQ, endQ, resA, resV, ret, keys, subs, minus, Dj, aopsd, aopd, valOp, loA, hiA, sliceA, ownA, addA, nilA, nil0, viewA, chunk, hb3])
      refine hK7 _ ?_; clear hK7 K7
      refine good_ret ?_
      simp [aops, aop, kont, evA, evAs, evParts, constA, getk, St.put, slotsOf, dok, readA, mkA, addOff, binA, binT, eqr, isConstO, lenA, pickA, cellsA, guardA, upd, splice, fillA, rowsLit, AV.cell, thenQ, blockQ, endQ, resA, resV, ret, keys, subs, minus, Dj, aopsd, aopd, valOp, loA, hiA, sliceA, ownA, addA, nilA, nil0, viewA, chunk, hb3]
      simp at hc2; simp [eqT_eq, hc2]
    · intro hc2
      refine good_skip ?_
      simp only [thenQ, blockQ]
      refine hK5 _ ?_; clear hK5 K5
      refine good_seq fun K8 hK8 => ?_
      refine good_seq fun K9 hK9 => ?_
      (refine good_region tabOk ?_; simp (maxSteps := 1000000) [aops, aop, kont, evA, evAs, evParts, constA, getk, St.put, slotsOf, dok, readA, mkA, addOff, binA, binT, eqr, isConstO, lenA, pickA, cellsA, guardA, upd, splice, fillA, rowsLit, AV.cell, thenQ, blockQ, endQ, resA, resV, ret, keys, subs, minus, Dj, aopsd, aopd, valOp, loA, hiA, sliceA, ownA, addA, nilA, nil0, viewA, chunk, hb3])
      refine hK9 _ ?_; clear hK9 K9
      refine good_cond rfl ?_ ?_
      · intro hc3
        refine good_seq fun K10 hK10 => ?_
        (refine good_region tabOk ?_; simp (maxSteps := 1000000) [aops, aop, kont, evA, evAs, evParts, constA, getk, St.put, slotsOf, dok, readA, mkA, addOff, binA, binT, eqr, isConstO, lenA, pickA, cellsA, guardA, upd, splice, fillA, rowsLit, AV.cell, thenQ, blockQ, endQ, resA, resV, ret, keys, subs, minus, Dj, aopsd, aopd, valOp, loA, hiA, sliceA, ownA, addA, nilA, nil0, viewA, chunk, hb3])
        refine hK10 _ ?_; clear hK10 K10
        refine good_ret ?_
        simp [aops, aop, kont, evA, evAs, evParts, constA, getk, St.put, slotsOf, dok, readA, mkA, addOff, binA, binT, eqr, isConstO, lenA, pickA, cellsA, guardA, upd, splice, fillA, rowsLit, AV.cell, thenQ, blockQ, endQ, resA, resV, ret, keys, subs, minus, Dj, aopsd, aopd, valOp, loA, hiA, sliceA, ownA, addA, nilA, nil0, viewA, chunk, hb3]
        simp at hc3; simp [eqT_eq, hc3]
      · intro hc3
        refine good_skip ?_
        simp only [thenQ, blockQ]
        refine hK8 _ ?_; clear hK8 K8
        refine good_seq fun K11 hK11 => ?_
        (refine good_region tabOk ?_; simp (maxSteps := 1000000) [aops, aop, kont, evA, evAs, evParts, constA, getk, St.put, slotsOf, dok, readA, mkA, addOff, binA, binT, eqr, isConstO, lenA, pickA, cellsA, guardA, upd, splice, fillA, rowsLit, AV.cell, thenQ, blockQ, endQ, resA, resV, ret, keys, subs, minus, Dj, aopsd, aopd, valOp, loA, hiA, sliceA, ownA, addA, nilA, nil0, viewA, chunk, hb3])
        refine hK11 _ ?_; clear hK11 K11
        refine good_ret ?_
        simp [aops, aop, kont, evA, evAs, evParts, constA, getk, St.put, slotsOf, dok, readA, mkA, addOff, binA, binT, eqr, isConstO, lenA, pickA, cellsA, guardA, upd, splice, fillA, rowsLit, AV.cell, thenQ, blockQ, endQ, resA, resV, ret, keys, subs, minus, Dj, aopsd, aopd, valOp, loA, hiA, sliceA, ownA, addA, nilA, nil0, viewA, chunk, hb3]
        simp at hc hc2 hc3; simp [eqT_eq, hc, hc2, hc3]

theorem laws_eqType_does (a b : Typ) : Does Try.prog 28 [.agg (encT a), .agg (encT b)] [] (ret (.bool (eqT a b))) :=
  eqType_of a b fun l' => eqTypeS_of a.of l' fun t ht t' => laws_eqType_does t t'
termination_by SizeOf.sizeOf a
decreasing_by exact Typ.of_lt ht

end Go.Proofs.Ythokajebopeomaa
