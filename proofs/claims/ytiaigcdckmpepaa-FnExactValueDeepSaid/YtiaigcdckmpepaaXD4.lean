/- Parts of a proof, put together; the conditions stand in each theorem. -/
import Derived.Test.YtiaigcdckmpepaaXD3
section
/-! Functions of the program. -/
set_option linter.unusedVariables false
set_option linter.unnecessarySimpa false
set_option maxRecDepth 100000
set_option maxHeartbeats 20000000
noncomputable section
namespace Go.Proofs.Ytiaigcdckmpepaa
open Go.Bb
def m_slices_Equal_string_string_l1 : Nat → (List Bs) → (List Bs) → Int → Option (Lp Unit Bool)
 | 0, _, _, _ => none
 | k + 1, a0, a1, x1 =>
  if x1 < (a0.length : Int) then
   if (0 : Int) ≤ x1 ∧ x1 < (a0.length : Int) then
    if (0 : Int) ≤ x1 ∧ x1 < (a1.length : Int) then
     if (ix a0 x1) = (ix a1 x1) then
      m_slices_Equal_string_string_l1 k a0 a1 (IntKind.wrap .i64 (x1 + 1))
     else
      (some false).bind fun z =>
      some (Lp.ret z)
    else none
   else none
  else
   some (Lp.go ())
def m_slices_Equal_string_string (k : Nat) (a0 : (List Bs)) (a1 : (List Bs)) : Option Bool :=
 if (a0.length : Int) = (a1.length : Int) then
  (m_slices_Equal_string_string_l1 k a0 a1 0).bind fun o1 =>
  o1.then fun s1 =>
  some true
 else
  some false
theorem m_slices_Equal_string_string_ok (k : Nat) : ∀ (a0 : (List Bs)) (a1 : (List Bs)) (r : Bool), m_slices_Equal_string_string k a0 a1 = some r → Does Try.prog 83 [.sl false (a0.map encS), .sl false (a1.map encS)] [] (ret (.bool r)) := by
 intro a0 a1 r h
 rw [m_slices_Equal_string_string] at h
 refine does_of_good tabOk Try.func83 rfl (by decide +kernel) (Nat.le_of_ble_eq_true rfl) fun c => ?_
 refine Good.le (σ' := ⟨26, [(0, .sl false (a0.map encS)), (1, .sl false (a1.map encS))], []⟩) (Le.refl _) ?_
 refine good_seq fun K1 hK1 => ?_
 refine rg 1 ?_
 refine g_nil (hK1 _ ?_)
 refine good_seq fun K2 hK2 => ?_
 refine good_seq fun K3 hK3 => ?_
 refine rg 1 ?_
 refine g_op rfl (ValOk.op (v_lenM (l := a0) (f := encS) tabOk rfl rfl telem23 rfl ?_))
 refine gs 1 ?_
 refine g_op rfl (ValOk.op (v_lenM (l := a1) (f := encS) tabOk rfl rfl telem23 rfl ?_))
 refine gs 1 ?_
 refine gk hK3 26 [0, 1, 4, 10] [] ?_
 refine good_cond rfl (fun hc1 => ?_) (fun hc1 => ?_)
 ·replace h := ifF h (ndT hc1)
  refine good_seq fun K4 hK4 => ?_
  refine rg 1 ?_
  refine gk hK4 26 [0, 1, 4] [] ?_
  obtain rfl := Option.some.inj h
  exact rt
 ·replace h := ifT h (ndF hc1)
  refine good_skip ?_
  refine hK2 _ (kp 26 [0, 1, 4] [] ?_)
  refine good_seq fun K5 hK5 => ?_
  refine good_seq fun K6 hK6 => ?_
  refine rg 1 ?_
  refine g_op rfl (ValOk.op (v_lenM (l := a0) (f := encS) tabOk rfl rfl telem23 rfl ?_))
  refine gs 1 ?_
  refine gk hK6 26 [0, 1, 4, 12, 13] [] ?_
  obtain ⟨o1, ho1, hJ1⟩ := bnd h
  have hw1 : ∀ (s1 : Unit), o1 = Lp.go s1 → ∀ σ', Le σ' ⟨26, [(4, .bool false)], []⟩ → K5 σ' := by
   intro s1 e1 σ' hle1
   subst e1
   refine hK5 _ (Good.le hle1 ?_)
   replace h := hJ1
   refine good_seq fun K7 hK7 => ?_
   refine rg 1 ?_
   refine g_nil (hK7 _ ?_)
   obtain rfl := Option.some.inj h
   exact rt
  replace h := ho1
  refine good_block ?_
  refine good_loopf (fun p : Int => ⟨26, [(0, .sl false (a0.map encS)), (1, .sl false (a1.map encS)), (4, .bool false), (12, .int .i64 (a0.length : Int)), (13, .int .i64 p)], []⟩) (fun m p => m_slices_Equal_string_string_l1 m a0 a1 p = some o1) k (0) (lw []) h ?_
  rintro m1 x1 h
  replace h : m_slices_Equal_string_string_l1 m1 a0 a1 x1 = some o1 := h
  refine Good.le (σ' := ⟨26, [(0, .sl false (a0.map encS)), (1, .sl false (a1.map encS)), (4, .bool false), (12, .int .i64 (a0.length : Int)), (13, .int .i64 x1)], []⟩) (Le.refl _) ?_
  obtain ⟨m1, rfl⟩ : ∃ m', m1 = m' + 1 := by cases m1 with | zero => (rw [m_slices_Equal_string_string_l1] at h; cases h) | succ m' => exact ⟨m', rfl⟩
  rw [m_slices_Equal_string_string_l1] at h
  refine good_seq fun K8 hK8 => ?_
  refine rg 1 ?_
  refine g_nil (hK8 _ ?_)
  refine good_seq fun K9 hK9 => ?_
  refine good_cond rfl (fun hc2 => ?_) (fun hc2 => ?_)
  ·replace h := ifT h (dT hc2)
   refine good_skip ?_
   refine hK9 _ (kp 26 [0, 1, 4, 12, 13] [] ?_)
   refine good_seq fun K10 hK10 => ?_
   refine good_block ?_
   refine good_seq fun K11 hK11 => ?_
   refine rg 2 ?_
   refine gk hK11 26 [0, 1, 4, 5, 12, 13] [] ?_
   refine good_seq fun K12 hK12 => ?_
   refine good_draw (by kernel_rfl) (by kernel_rfl) ?_
   refine q_op rfl (v_move rfl rfl ?_)
   refine q_op rfl (v_move rfl rfl ?_)
   obtain ⟨hb1, h⟩ := ifS h
   refine q_op rfl (v_idxM tabOk rfl rfl telem23 tsize9 hb1 rfl rfl rfl ?_)
   refine q_op rfl (v_loadE tabOk rfl tsize9 tagg9 rfl rfl rfl ?_)
   refine q_op rfl (v_move rfl rfl ?_)
   refine q_op rfl (v_move rfl rfl ?_)
   obtain ⟨hb2, h⟩ := ifS h
   refine q_op rfl (v_idxM tabOk rfl rfl telem23 tsize9 hb2 rfl rfl rfl ?_)
   refine q_op rfl (v_loadE tabOk rfl tsize9 tagg9 rfl rfl rfl ?_)
   refine q_op rfl (v_bin rfl rfl rfl rfl ?_)
   refine q_nil ?_
   refine hK12 _ (kp 26 [0, 1, 4, 12, 13, 24] [] ?_)
   refine good_cond rfl (fun hc3 => ?_) (fun hc3 => ?_)
   ·replace h := ifF h (ndT hc3)
    refine good_seq fun K13 hK13 => ?_
    refine rg 1 ?_
    refine gk hK13 26 [0, 1, 4, 12, 13] [] ?_
    replace h := unret h hJ1
    obtain rfl := Option.some.inj h
    exact rt
   ·replace h := ifT h (ndF hc3)
    refine good_skip ?_
    refine hK10 _ (kp 26 [0, 1, 4, 12, 13] [] ?_)
    refine rg 2 ?_
    refine g_nil ?_
    exact round_mk m1 (IntKind.wrap .i64 (x1 + 1)) (Nat.lt_succ_self _) h (lw [])
  ·replace h := ifF h (dF hc2)
   refine good_exit ?_
   exact hw1 () (Option.some.inj h).symm _ (lw [])
def m_impl_sameTop (k : Nat) (a0 : Val) (a1 : Val) : Option Bool :=
 if a0.kind = a1.kind then
  if a0.num = a1.num then
   if a0.text = a1.text then
    if (a0.list.length : Int) = (a1.list.length : Int) then
     (m_slices_Equal_string_string k a0.names a1.names).bind fun y1 =>
     some y1
    else
     some false
   else
    some false
  else
   some false
 else
  some false
theorem m_impl_sameTop_ok (k : Nat) : ∀ (a0 : Val) (a1 : Val) (r : Bool), m_impl_sameTop k a0 a1 = some r → Does Try.prog 49 [.agg [.int .i64 a0.kind, .int .i64 a0.num, .str a0.text, .sl true (a0.list.map encVal), .sl false (a0.names.map encS)], .agg [.int .i64 a1.kind, .int .i64 a1.num, .str a1.text, .sl true (a1.list.map encVal), .sl false (a1.names.map encS)]] [] (ret (.bool r)) := by
 intro a0 a1 r h
 rw [m_impl_sameTop] at h
 refine does_of_good tabOk Try.func49 rfl (by decide +kernel) (Nat.le_of_ble_eq_true rfl) fun c => ?_
 refine Good.le (σ' := ⟨40, [(0, .agg [.int .i64 a0.kind, .int .i64 a0.num, .str a0.text, .sl true (a0.list.map encVal), .sl false (a0.names.map encS)]), (1, .agg [.int .i64 a1.kind, .int .i64 a1.num, .str a1.text, .sl true (a1.list.map encVal), .sl false (a1.names.map encS)])], []⟩) (Le.refl _) ?_
 refine good_seq fun K1 hK1 => ?_
 refine good_region ?_
 refine g_op rfl (o_box (k := 12) tabOk rfl rfl rfl rfl rfl ?_)
 intro b1
 refine g_op rfl (o_box (k := 13) tabOk rfl rfl rfl rfl rfl ?_)
 intro b2
 refine gs 1 ?_
 refine gk hK1 40 [2, 3, 4] [12, 13] ?_
 refine good_seq fun K2 hK2 => ?_
 refine rg 6 ?_
 rcases bsplit ((decide (a0.kind = a1.kind))) with hg1 | hg1
 ·replace h := ifT h (dT hg1)
  refine gs 7 ?_
  rcases bsplit ((decide (a0.num = a1.num))) with hg2 | hg2
  ·replace h := ifT h (dT hg2)
   refine gs 7 ?_
   rcases bsplit ((decide (a0.text = a1.text))) with hg3 | hg3
   ·replace h := ifT h (dT hg3)
    refine gs 2 ?_
    refine g_yes rfl rfl hg3 (ValOk.op (v_lenM (l := a0.list) (f := encVal) tabOk rfl rfl telem28 rfl ?_))
    refine gs 2 ?_
    refine g_yes rfl rfl hg3 (ValOk.op (v_lenM (l := a1.list) (f := encVal) tabOk rfl rfl telem28 rfl ?_))
    refine gs 3 ?_
    rcases bsplit ((decide ((a0.list.length : Int) = (a1.list.length : Int)))) with hg4 | hg4
    ·replace h := ifT h (dT hg4)
     refine gs 4 ?_
     obtain ⟨y1, hy1, h⟩ := bnd h
     refine g_yes rfl rfl hg4 (o_callR [] [] (core_value rfl rfl) (m_slices_Equal_string_string_ok k a0.names a1.names _ hy1) trivial (.cons (.refl _) (.cons (.refl _) (.nil))) (.inl rfl) rfl ?_)
     refine gs 2 ?_
     refine gk hK2 40 [4] [] ?_
     obtain rfl := Option.some.inj h
     exact rt
    ·replace h := ifF h (dF hg4)
     refine gs 7 ?_
     refine gk hK2 40 [4] [] ?_
     obtain rfl := Option.some.inj h
     exact rt
   ·replace h := ifF h (dF hg3)
    refine gs 16 ?_
    refine gk hK2 40 [4] [] ?_
    obtain rfl := Option.some.inj h
    exact rt
  ·replace h := ifF h (dF hg2)
   refine gs 23 ?_
   refine gk hK2 40 [4] [] ?_
   obtain rfl := Option.some.inj h
   exact rt
 ·replace h := ifF h (dF hg1)
  refine gs 30 ?_
  refine gk hK2 40 [4] [] ?_
  obtain rfl := Option.some.inj h
  exact rt
def w_impl_ValueSame_l2 : Nat → (List GPair) → (List GPair) → Int → W (Lp (List GPair) (Lp Unit Bool))
 | 0, _, _, _ => fw
 | k + 1, x2, x3, x4 =>
  if x4 < ((((ix x2 (IntKind.wrap .i64 ((x2.length : Int) - 1))).one).list).length : Int) then
   if (0 : Int) ≤ x4 ∧ x4 < ((((ix x2 (IntKind.wrap .i64 ((x2.length : Int) - 1))).one).list).length : Int) then
    if (0 : Int) ≤ x4 ∧ x4 < ((((ix x2 (IntKind.wrap .i64 ((x2.length : Int) - 1))).other).list).length : Int) then
     if (x3 ++ [(GPair.mk (ix (((ix x2 (IntKind.wrap .i64 ((x2.length : Int) - 1))).one).list) x4) (ix (((ix x2 (IntKind.wrap .i64 ((x2.length : Int) - 1))).other).list) x4))]).length * 160 ≤ 140737488355328 then
      w_impl_ValueSame_l2 k x2 (x3 ++ [(GPair.mk (ix (((ix x2 (IntKind.wrap .i64 ((x2.length : Int) - 1))).one).list) x4) (ix (((ix x2 (IntKind.wrap .i64 ((x2.length : Int) - 1))).other).list) x4))]) (IntKind.wrap .i64 (x4 + 1))
     else fw
    else fw
   else fw
  else
   pw (Lp.go x3)
def w_impl_ValueSame_l3 : Nat → (List GPair) → (List GPair) → Int → W (Lp (List GPair) (Lp Unit Bool))
 | 0, _, _, _ => fw
 | k + 1, x2, x5, x6 =>
  if x6 < ((((ix x2 (IntKind.wrap .i64 ((x2.length : Int) - 1))).one).list).length : Int) then
   if (0 : Int) ≤ x6 ∧ x6 < ((((ix x2 (IntKind.wrap .i64 ((x2.length : Int) - 1))).one).list).length : Int) then
    if (0 : Int) ≤ x6 ∧ x6 < ((((ix x2 (IntKind.wrap .i64 ((x2.length : Int) - 1))).other).list).length : Int) then
     if (x5 ++ [(GPair.mk (ix (((ix x2 (IntKind.wrap .i64 ((x2.length : Int) - 1))).one).list) x6) (ix (((ix x2 (IntKind.wrap .i64 ((x2.length : Int) - 1))).other).list) x6))]).length * 160 ≤ 140737488355328 then
      w_impl_ValueSame_l3 k x2 (x5 ++ [(GPair.mk (ix (((ix x2 (IntKind.wrap .i64 ((x2.length : Int) - 1))).one).list) x6) (ix (((ix x2 (IntKind.wrap .i64 ((x2.length : Int) - 1))).other).list) x6))]) (IntKind.wrap .i64 (x6 + 1))
     else fw
    else fw
   else fw
  else
   pw (Lp.go x5)
def w_impl_ValueSame_l1 : Nat → (List (List Val × List Val)) → (List GPair) → W (Lp Unit Bool)
 | 0, _, _ => fw
 | k + 1, x1, x2 =>
  if 0 < (x2.length : Int) then
   if (0 : Int) ≤ (IntKind.wrap .i64 ((x2.length : Int) - 1)) ∧ (IntKind.wrap .i64 ((x2.length : Int) - 1)) < (x2.length : Int) then
    if (0 : Int) ≤ (IntKind.wrap .i64 ((x2.length : Int) - 1)) ∧ (IntKind.wrap .i64 ((x2.length : Int) - 1)) ≤ (x2.length : Int) then
     cw (m_impl_sameTop k ((ix x2 (IntKind.wrap .i64 ((x2.length : Int) - 1))).one) ((ix x2 (IntKind.wrap .i64 ((x2.length : Int) - 1))).other)) fun y1 =>
     if y1 = true then
      if ((((ix x2 (IntKind.wrap .i64 ((x2.length : Int) - 1))).one).list).length : Int) = 0 then
       w_impl_ValueSame_l1 k x1 (x2.take (Int.toNat (IntKind.wrap .i64 ((x2.length : Int) - 1))))
      else
       cw (m_impl_spanOf (((ix x2 (IntKind.wrap .i64 ((x2.length : Int) - 1))).one).list)) fun y2 =>
       cw (m_impl_spanOf (((ix x2 (IntKind.wrap .i64 ((x2.length : Int) - 1))).other).list)) fun y3 =>
       lk ((y2, y3) ∈ x1)
        (w_impl_ValueSame_l1 k x1 (x2.take (Int.toNat (IntKind.wrap .i64 ((x2.length : Int) - 1)))))
        (lk ((y2, y3) ∈ x1)
         (tw (w_impl_ValueSame_l3 k x2 (x2.take (Int.toNat (IntKind.wrap .i64 ((x2.length : Int) - 1)))) 0) fun s3 =>
         w_impl_ValueSame_l1 k x1 s3)
         (tw (w_impl_ValueSame_l2 k x2 (x2.take (Int.toNat (IntKind.wrap .i64 ((x2.length : Int) - 1)))) 0) fun s2 =>
         w_impl_ValueSame_l1 k (x1 ++ [(y2, y3)]) s2))
     else
      rtw (pw false)
    else fw
   else fw
  else
   pw (Lp.go ())
def w_impl_ValueSame (k : Nat) (a0 : Val) (a1 : Val) : W Bool :=
 tw (w_impl_ValueSame_l1 k ([] : List (List Val × List Val)) [(GPair.mk a0 a1)]) fun s1 =>
 pw true
theorem w_impl_ValueSame_ok (k : Nat) : ∀ (a0 : Val) (a1 : Val) (r : Bool), w_impl_ValueSame k a0 a1 (fun x => x = r) → Does Try.prog 18 [.agg [.int .i64 a0.kind, .int .i64 a0.num, .str a0.text, .sl true (a0.list.map encVal), .sl false (a0.names.map encS)], .agg [.int .i64 a1.kind, .int .i64 a1.num, .str a1.text, .sl true (a1.list.map encVal), .sl false (a1.names.map encS)]] [] (ret (.bool r)) := by
 intro a0 a1 r h
 rw [w_impl_ValueSame] at h
 refine does_of_good tabOk Try.func18 rfl (by decide +kernel) (Nat.le_of_ble_eq_true rfl) fun c => ?_
 refine Good.le (σ' := ⟨85, [(0, .agg [.int .i64 a0.kind, .int .i64 a0.num, .str a0.text, .sl true (a0.list.map encVal), .sl false (a0.names.map encS)]), (1, .agg [.int .i64 a1.kind, .int .i64 a1.num, .str a1.text, .sl true (a1.list.map encVal), .sl false (a1.names.map encS)])], []⟩) (Le.refl _) ?_
 refine good_seq fun K1 hK1 => ?_
 refine good_region ?_
 refine g_op rfl (o_box (k := 12) tabOk rfl rfl rfl rfl rfl ?_)
 intro b1
 refine g_op rfl (o_box (k := 13) tabOk rfl rfl rfl rfl rfl ?_)
 intro b2
 refine gs 1 ?_
 refine gk hK1 85 [2, 3, 4] [12, 13] ?_
 refine good_seq fun K2 hK2 => ?_
 refine good_region ?_
 refine g_op rfl (o_makeMap (k := 22) rfl rfl ?_)
 intro w1
 refine gs 1 ?_
 refine gk hK2 85 [2, 3, 4, 5] [12, 13, 22] ?_
 refine good_seq fun K3 hK3 => ?_
 refine rg 2 ?_
 refine g_op rfl (ValOk.op (v_build tabOk (cs := [.int .i64 a0.kind, .int .i64 a0.num, .str a0.text, .sl true (a0.list.map encVal), .sl false (a0.names.map encS), .int .i64 a1.kind, .int .i64 a1.num, .str a1.text, .sl true (a1.list.map encVal), .sl false (a1.names.map encS)]) tzero58 tsok58 rfl rfl rfl ?_))
 refine g_op rfl (o_buildSlice (k := 26) (rows := [(GPair.mk a0 a1)].map encGPair) tabOk telem59 tsize58 rfl rfl rfl rfl (by decide) (by decide) (by rw [tzero58]; rfl) rfl rfl rfl rfl rfl ?_)
 intro w2
 refine gs 1 ?_
 refine gk hK3 85 [4, 5, 6] [22, 26] ?_
 refine good_seq fun K4 hK4 => ?_
 obtain ⟨o1, hJ1, ho1⟩ := twE h
 have hw1 : ∀ (s1 : Unit), o1 (Lp.go s1) → ∀ σ', Le σ' ⟨85, [(4, .bool false)], []⟩ → K4 σ' := by
  intro s1 e1 σ' hle1
  refine hK4 _ (Good.le hle1 ?_)
  replace h := hJ1.1 _ e1
  refine good_seq fun K5 hK5 => ?_
  refine rg 1 ?_
  refine g_nil (hK5 _ ?_)
  obtain rfl := pwE h
  exact rt
 replace h := ho1
 refine good_block ?_
 refine good_loopf (fun p : ((List (List Val × List Val)) × (List GPair) × Value) => ⟨85, [(4, .bool false), (5, .hd 22 w1), (6, .hd 5403 p.2.2)], [(22, (w1, .omp 56 (p.1.map metK))), (5403, (p.2.2, .osl 58 10 (p.2.1.map encGPair)))]⟩) (fun m p => w_impl_ValueSame_l1 m p.1 p.2.1 o1) k (([] : List (List Val × List Val)), [(GPair.mk a0 a1)], w2) (lw [some 22, some 26]) h ?_
 rintro m1 ⟨x1, x2, w3⟩ h
 replace h : w_impl_ValueSame_l1 m1 x1 x2 o1 := h
 refine Good.le (σ' := ⟨85, [(4, .bool false), (5, .hd 22 w1), (6, .hd 5403 w3)], [(22, (w1, .omp 56 (x1.map metK))), (5403, (w3, .osl 58 10 (x2.map encGPair)))]⟩) (Le.refl _) ?_
 obtain ⟨m1, rfl⟩ : ∃ m', m1 = m' + 1 := by cases m1 with | zero => (rw [w_impl_ValueSame_l1] at h; exact fwE h) | succ m' => exact ⟨m', rfl⟩
 rw [w_impl_ValueSame_l1] at h
 refine good_seq fun K6 hK6 => ?_
 refine good_seq fun K7 hK7 => ?_
 refine rg 1 ?_
 refine g_op rfl (ValOk.op (v_lenHM (q := 5403) tabOk ⟨_, rfl⟩ rfl rfl telem59 rfl ?_))
 refine gs 1 ?_
 refine gk hK7 85 [4, 5, 6, 19] [22, 5403] ?_
 refine good_cond rfl (fun hc1 => ?_) (fun hc1 => ?_)
 ·replace h := ifTW h (dT hc1)
  refine good_skip ?_
  refine hK6 _ (kp 85 [4, 5, 6] [22, 5403] ?_)
  refine good_block ?_
  refine good_seq fun K8 hK8 => ?_
  refine rg 2 ?_
  refine g_op rfl (ValOk.op (v_lenHM (q := 5403) tabOk ⟨_, rfl⟩ rfl rfl telem59 rfl ?_))
  refine gs 1 ?_
  obtain ⟨hb1, h⟩ := ifSW h
  refine g_op rfl (ValOk.op (v_idxHM (q := 5403) tabOk ⟨_, rfl⟩ rfl rfl telem59 tsize58 hb1 rfl ?_))
  refine g_op rfl (ValOk.op (v_loadRM tabOk rfl rfl hb1 rfl tsize58 tagg58 rfl rfl rfl rfl ?_))
  refine g_op rfl (o_alloc (k := 17) tabOk tzero58 rfl rfl ?_)
  intro b3
  refine g_op rfl (o_storeP tabOk (cs' := [.int .i64 (((ix x2 (IntKind.wrap .i64 ((x2.length : Int) - 1))).one).kind), .int .i64 (((ix x2 (IntKind.wrap .i64 ((x2.length : Int) - 1))).one).num), .str (((ix x2 (IntKind.wrap .i64 ((x2.length : Int) - 1))).one).text), .sl true ((((ix x2 (IntKind.wrap .i64 ((x2.length : Int) - 1))).one).list).map encVal), .sl false ((((ix x2 (IntKind.wrap .i64 ((x2.length : Int) - 1))).one).names).map encS), .int .i64 (((ix x2 (IntKind.wrap .i64 ((x2.length : Int) - 1))).other).kind), .int .i64 (((ix x2 (IntKind.wrap .i64 ((x2.length : Int) - 1))).other).num), .str (((ix x2 (IntKind.wrap .i64 ((x2.length : Int) - 1))).other).text), .sl true ((((ix x2 (IntKind.wrap .i64 ((x2.length : Int) - 1))).other).list).map encVal), .sl false ((((ix x2 (IntKind.wrap .i64 ((x2.length : Int) - 1))).other).names).map encS)]) rfl rfl tsize58 rfl rfl rfl (Nat.le_of_ble_eq_true rfl) rfl rfl rfl ?_)
  refine gk hK8 85 [4, 5, 6, 7] [22, 5403, 17] ?_
  refine good_seq fun K9 hK9 => ?_
  refine rg 2 ?_
  refine g_op rfl (ValOk.op (v_lenHM (q := 5403) tabOk ⟨_, rfl⟩ rfl rfl telem59 rfl ?_))
  refine gs 1 ?_
  obtain ⟨hb2, h⟩ := ifSW h
  refine g_op rfl (o_sliceHM (q := 5403) (k := 40) tabOk ⟨_, rfl⟩ rfl telem59 tsize58 rfl rfl rfl rfl rfl hb2 ?_)
  intro w4
  refine gs 1 ?_
  refine gk hK9 85 [4, 5, 6, 7] [22, 40, 17] ?_
  refine good_seq fun K10 hK10 => ?_
  refine good_seq fun K11 hK11 => ?_
  refine rg 4 ?_
  obtain ⟨y1, hy1, h⟩ := cwE h
  refine g_op rfl (o_callR [] [] (core_value rfl rfl) (m_impl_sameTop_ok m1 ((ix x2 (IntKind.wrap .i64 ((x2.length : Int) - 1))).one) ((ix x2 (IntKind.wrap .i64 ((x2.length : Int) - 1))).other) _ hy1) trivial (.cons (.refl _) (.cons (.refl _) (.nil))) (.inl rfl) rfl ?_)
  refine gs 1 ?_
  refine gk hK11 85 [4, 5, 6, 7, 36] [22, 40, 17] ?_
  refine good_cond rfl (fun hc2 => ?_) (fun hc2 => ?_)
  ·replace h := bFW h (nT hc2)
   refine good_seq fun K12 hK12 => ?_
   refine rg 1 ?_
   refine gk hK12 85 [4, 5, 6, 7] [22, 40, 17] ?_
   refine Good.le (σ' := ⟨85, [(4, .bool false)], []⟩) (lw []) ?_
   refine good_ret ?_
   replace h := unW h hJ1
   obtain rfl := pwE h
   refine thenQ_ret ?_
   refine blockQ_ret ?_
   refine thenQ_ret ?_
   refine blockQ_ret ?_
   refine thenQ_ret ?_
   exact endQ_ret (h' := []) [] (.tmp rfl (.nil)) trivial (by decide) ⟨rfl, rfl⟩
  ·replace h := ifTW h (nF hc2)
   refine good_skip ?_
   refine hK10 _ (kp 85 [4, 5, 6, 7] [22, 40, 17] ?_)
   refine good_seq fun K13 hK13 => ?_
   refine good_seq fun K14 hK14 => ?_
   refine rg 3 ?_
   refine g_op rfl (ValOk.op (v_lenM (l := ((ix x2 (IntKind.wrap .i64 ((x2.length : Int) - 1))).one).list) (f := encVal) tabOk rfl rfl telem28 rfl ?_))
   refine gs 1 ?_
   refine gk hK14 85 [4, 5, 6, 7, 41] [22, 40, 17] ?_
   refine good_cond rfl (fun hc3 => ?_) (fun hc3 => ?_)
   ·replace h := ifTW h (dT hc3)
    refine good_exit ?_
    exact round_mk m1 (x1, x2.take (Int.toNat (IntKind.wrap .i64 ((x2.length : Int) - 1))), w4) (Nat.lt_succ_self _) h (lw [some 22, some 40])
   ·replace h := ifFW h (dF hc3)
    refine good_skip ?_
    refine hK13 _ (kp 85 [4, 5, 6, 7] [22, 40, 17] ?_)
    refine good_seq fun K15 hK15 => ?_
    obtain ⟨y2, hy2, h⟩ := cwE h
    obtain ⟨y3, hy3, h⟩ := cwE h
    refine good_anyM (by kernel_rfl) [⟨[], [7], [], [], [], []⟩, ⟨[0], [42], [], [], [], []⟩, ⟨[0, 1], [43], [17], [], [], []⟩, ⟨[0, 1, 2], [44], [], [], [], []⟩, ⟨[], [7], [], [], [], []⟩, ⟨[4], [46], [], [], [], []⟩, ⟨[4, 5], [47], [17], [], [], []⟩, ⟨[0, 1, 2, 3, 4, 5, 6], [48], [], [], [], []⟩, ⟨[0, 1, 2, 3, 4, 5, 6, 7], [45, 49], [], [], [], []⟩, ⟨[], [], [], [], [18], [18]⟩, ⟨[0, 1, 2, 3, 4, 5, 6, 7, 8, 9], [8, 50], [18], [18], [9003], []⟩] [some 42, some 43, some 44, some 45, some 46, some 47, some 48, some 49, some 50, some 8, none] 85 [(4, .bool false), (5, .hd 22 w1), (6, .hd 40 w4), (7, .ptr 17 b3 0)] [(22, (w1, .omp 56 (x1.map metK))), (40, (w4, .osl 58 10 ((x2.take (Int.toNat (IntKind.wrap .i64 ((x2.length : Int) - 1)))).map encGPair))), (17, ((.pointer (some ⟨b3, 0, none⟩)), .optr 58 [.int .i64 (((ix x2 (IntKind.wrap .i64 ((x2.length : Int) - 1))).one).kind), .int .i64 (((ix x2 (IntKind.wrap .i64 ((x2.length : Int) - 1))).one).num), .str (((ix x2 (IntKind.wrap .i64 ((x2.length : Int) - 1))).one).text), .sl true ((((ix x2 (IntKind.wrap .i64 ((x2.length : Int) - 1))).one).list).map encVal), .sl false ((((ix x2 (IntKind.wrap .i64 ((x2.length : Int) - 1))).one).names).map encS), .int .i64 (((ix x2 (IntKind.wrap .i64 ((x2.length : Int) - 1))).other).kind), .int .i64 (((ix x2 (IntKind.wrap .i64 ((x2.length : Int) - 1))).other).num), .str (((ix x2 (IntKind.wrap .i64 ((x2.length : Int) - 1))).other).text), .sl true ((((ix x2 (IntKind.wrap .i64 ((x2.length : Int) - 1))).other).list).map encVal), .sl false ((((ix x2 (IntKind.wrap .i64 ((x2.length : Int) - 1))).other).names).map encS)]))] (fun ν1 => [.ptr 17 b3 0, .ptr 17 b3 3, .sl true ((((ix x2 (IntKind.wrap .i64 ((x2.length : Int) - 1))).one).list).map encVal), .agg [.spt (y2.map encVal), .int .i64 (y2.length : Int)], .ptr 17 b3 5, .ptr 17 b3 8, .sl true ((((ix x2 (IntKind.wrap .i64 ((x2.length : Int) - 1))).other).list).map encVal), .agg [.spt (y3.map encVal), .int .i64 (y3.length : Int)], .agg [.spt (y2.map encVal), .int .i64 (y2.length : Int), .spt (y3.map encVal), .int .i64 (y3.length : Int)], .ptr 18 (bse (ν1 18)) 0, .und]) (fun ν1 => [(18, ((.pointer (some ⟨(bse (ν1 18)), 0, none⟩)), .optr 65 [.raw (.pointer none), .int .i64 0, .raw (.pointer none), .int .i64 0])), (9003, ((.pointer (some ⟨(bse (ν1 18)), 0, none⟩)), .optr 65 [.spt (y2.map encVal), .int .i64 (y2.length : Int), .spt (y3.map encVal), .int .i64 (y3.length : Int)]))]) [(18, [18]), (9003, [18]), (22, []), (40, []), (17, [])] [18, 9003] [some 22, some 40, some 17, some 9003] (fun ν1 => [(4, .bool false), (5, .hd 22 w1), (6, .hd 40 w4), (7, .ptr 17 b3 0), (8, .ptr 18 (bse (ν1 18)) 0)]) (fun ν1 => [(22, (w1, .omp 56 (x1.map metK))), (40, (w4, .osl 58 10 ((x2.take (Int.toNat (IntKind.wrap .i64 ((x2.length : Int) - 1)))).map encGPair))), (17, ((.pointer (some ⟨b3, 0, none⟩)), .optr 58 [.int .i64 (((ix x2 (IntKind.wrap .i64 ((x2.length : Int) - 1))).one).kind), .int .i64 (((ix x2 (IntKind.wrap .i64 ((x2.length : Int) - 1))).one).num), .str (((ix x2 (IntKind.wrap .i64 ((x2.length : Int) - 1))).one).text), .sl true ((((ix x2 (IntKind.wrap .i64 ((x2.length : Int) - 1))).one).list).map encVal), .sl false ((((ix x2 (IntKind.wrap .i64 ((x2.length : Int) - 1))).one).names).map encS), .int .i64 (((ix x2 (IntKind.wrap .i64 ((x2.length : Int) - 1))).other).kind), .int .i64 (((ix x2 (IntKind.wrap .i64 ((x2.length : Int) - 1))).other).num), .str (((ix x2 (IntKind.wrap .i64 ((x2.length : Int) - 1))).other).text), .sl true ((((ix x2 (IntKind.wrap .i64 ((x2.length : Int) - 1))).other).list).map encVal), .sl false ((((ix x2 (IntKind.wrap .i64 ((x2.length : Int) - 1))).other).names).map encS)])), (18, ((.pointer (some ⟨(bse (ν1 18)), 0, none⟩)), .optr 65 [.spt (y2.map encVal), .int .i64 (y2.length : Int), .spt (y3.map encVal), .int .i64 (y3.length : Int)]))]) (lw [some 22, some 40, some 17]) (by kernel_rfl) ⟨?_, ⟨?_, ⟨?_, ⟨?_, ⟨?_, ⟨?_, ⟨?_, ⟨?_, ⟨?_, ⟨?_, ⟨?_, trivial⟩⟩⟩⟩⟩⟩⟩⟩⟩⟩⟩ ⟨fun _ _ _ => rfl, ⟨fun _ _ _ => rfl, ⟨fun _ _ _ => rfl, ⟨fun _ _ _ => rfl, ⟨fun _ _ _ => rfl, ⟨fun _ _ _ => rfl, ⟨fun _ _ _ => rfl, ⟨fun _ _ _ => rfl, ⟨fun _ _ _ => rfl, ⟨fun _ _ h => (congrArg (fun zz0 => (some (.ptr 18 (bse zz0) 0) : Option AV)) (h 18 (by decide))), ⟨fun _ _ _ => rfl, trivial⟩⟩⟩⟩⟩⟩⟩⟩⟩⟩⟩ ⟨fun _ _ h => (congrArg (fun zz0 => (some ((.pointer (some ⟨(bse zz0), 0, none⟩)), .optr 65 [.raw (.pointer none), .int .i64 0, .raw (.pointer none), .int .i64 0]) : Option (Value × AV))) (h 18 (by decide))), ⟨fun _ _ h => (congrArg (fun zz0 => (some ((.pointer (some ⟨(bse zz0), 0, none⟩)), .optr 65 [.spt (y2.map encVal), .int .i64 (y2.length : Int), .spt (y3.map encVal), .int .i64 (y3.length : Int)]) : Option (Value × AV))) (h 18 (by decide))), ⟨fun _ _ _ => rfl, ⟨fun _ _ _ => rfl, ⟨fun _ _ _ => rfl, trivial⟩⟩⟩⟩⟩ (fun _ => rfl) (fun _ => rfl) (by kernel_rfl) (fun _ => ⟨⟨_, rfl, .refl _⟩, ⟨⟨_, rfl, .refl _⟩, ⟨⟨_, rfl, .refl _⟩, ⟨⟨_, rfl, .refl _⟩, ⟨⟨_, rfl, .refl _⟩, trivial⟩⟩⟩⟩⟩) (fun _ => ⟨⟨_, rfl, .refl _⟩, ⟨⟨_, rfl, .refl _⟩, ⟨⟨_, rfl, .refl _⟩, ⟨⟨_, rfl, .refl _⟩, trivial⟩⟩⟩⟩) (by kernel_rfl) (by decide) ?_
    ·refine local_mk (fun ν1 => [(7, .ptr 17 b3 0)]) (fun ν1 => []) (fun _ => rfl) (fun _ => ⟨⟨_, rfl, .refl _, .refl _⟩, trivial⟩) (fun _ => rfl) (fun _ => trivial) ?_
     intro ν1 S H hS hfr
     refine st_op rfl (ValOk.op (v_fieldP tabOk rfl tfoff58_0 rfl ?_))
     exact lp_v hS rfl rfl (fun _ => rfl)
    ·refine local_mk (fun ν1 => [(42, .ptr 17 b3 0)]) (fun ν1 => []) (fun _ => rfl) (fun _ => ⟨⟨_, rfl, .refl _, .refl _⟩, trivial⟩) (fun _ => rfl) (fun _ => trivial) ?_
     intro ν1 S H hS hfr
     refine st_op rfl (ValOk.op (v_fieldP tabOk rfl tfoff30_3 rfl ?_))
     exact lp_v hS rfl rfl (fun _ => rfl)
    ·refine local_mk (fun ν1 => [(43, .ptr 17 b3 3)]) (fun ν1 => [(17, ((.pointer (some ⟨b3, 0, none⟩)), .optr 58 [.int .i64 (((ix x2 (IntKind.wrap .i64 ((x2.length : Int) - 1))).one).kind), .int .i64 (((ix x2 (IntKind.wrap .i64 ((x2.length : Int) - 1))).one).num), .str (((ix x2 (IntKind.wrap .i64 ((x2.length : Int) - 1))).one).text), .sl true ((((ix x2 (IntKind.wrap .i64 ((x2.length : Int) - 1))).one).list).map encVal), .sl false ((((ix x2 (IntKind.wrap .i64 ((x2.length : Int) - 1))).one).names).map encS), .int .i64 (((ix x2 (IntKind.wrap .i64 ((x2.length : Int) - 1))).other).kind), .int .i64 (((ix x2 (IntKind.wrap .i64 ((x2.length : Int) - 1))).other).num), .str (((ix x2 (IntKind.wrap .i64 ((x2.length : Int) - 1))).other).text), .sl true ((((ix x2 (IntKind.wrap .i64 ((x2.length : Int) - 1))).other).list).map encVal), .sl false ((((ix x2 (IntKind.wrap .i64 ((x2.length : Int) - 1))).other).names).map encS)]))]) (fun _ => rfl) (fun _ => ⟨⟨_, rfl, .refl _, .refl _⟩, trivial⟩) (fun _ => rfl) (fun _ => ⟨rfl, trivial⟩) ?_
     intro ν1 S H hS hfr
     refine st_op rfl (ValOk.op (v_loadP tabOk rfl rfl tsize28 tagg28 rfl rfl rfl rfl ?_))
     exact lp_v hS rfl rfl (fun _ => rfl)
    ·refine local_mk (fun ν1 => [(44, .sl true ((((ix x2 (IntKind.wrap .i64 ((x2.length : Int) - 1))).one).list).map encVal))]) (fun ν1 => []) (fun _ => rfl) (fun _ => ⟨⟨_, rfl, .refl _, .refl _⟩, trivial⟩) (fun _ => rfl) (fun _ => trivial) ?_
     intro ν1 S H hS hfr
     refine st_op rfl (o_callR [] [] (core_value rfl rfl) (m_impl_spanOf_ok (((ix x2 (IntKind.wrap .i64 ((x2.length : Int) - 1))).one).list) _ hy2) trivial (.cons (.refl _) (.nil)) (.inl rfl) rfl ?_)
     exact lp_v hS rfl rfl (fun _ => rfl)
    ·refine local_mk (fun ν1 => [(7, .ptr 17 b3 0)]) (fun ν1 => []) (fun _ => rfl) (fun _ => ⟨⟨_, rfl, .refl _, .refl _⟩, trivial⟩) (fun _ => rfl) (fun _ => trivial) ?_
     intro ν1 S H hS hfr
     refine st_op rfl (ValOk.op (v_fieldP tabOk rfl tfoff58_1 rfl ?_))
     exact lp_v hS rfl rfl (fun _ => rfl)
    ·refine local_mk (fun ν1 => [(46, .ptr 17 b3 5)]) (fun ν1 => []) (fun _ => rfl) (fun _ => ⟨⟨_, rfl, .refl _, .refl _⟩, trivial⟩) (fun _ => rfl) (fun _ => trivial) ?_
     intro ν1 S H hS hfr
     refine st_op rfl (ValOk.op (v_fieldP tabOk rfl tfoff30_3 rfl ?_))
     exact lp_v hS rfl rfl (fun _ => rfl)
    ·refine local_mk (fun ν1 => [(47, .ptr 17 b3 8)]) (fun ν1 => [(17, ((.pointer (some ⟨b3, 0, none⟩)), .optr 58 [.int .i64 (((ix x2 (IntKind.wrap .i64 ((x2.length : Int) - 1))).one).kind), .int .i64 (((ix x2 (IntKind.wrap .i64 ((x2.length : Int) - 1))).one).num), .str (((ix x2 (IntKind.wrap .i64 ((x2.length : Int) - 1))).one).text), .sl true ((((ix x2 (IntKind.wrap .i64 ((x2.length : Int) - 1))).one).list).map encVal), .sl false ((((ix x2 (IntKind.wrap .i64 ((x2.length : Int) - 1))).one).names).map encS), .int .i64 (((ix x2 (IntKind.wrap .i64 ((x2.length : Int) - 1))).other).kind), .int .i64 (((ix x2 (IntKind.wrap .i64 ((x2.length : Int) - 1))).other).num), .str (((ix x2 (IntKind.wrap .i64 ((x2.length : Int) - 1))).other).text), .sl true ((((ix x2 (IntKind.wrap .i64 ((x2.length : Int) - 1))).other).list).map encVal), .sl false ((((ix x2 (IntKind.wrap .i64 ((x2.length : Int) - 1))).other).names).map encS)]))]) (fun _ => rfl) (fun _ => ⟨⟨_, rfl, .refl _, .refl _⟩, trivial⟩) (fun _ => rfl) (fun _ => ⟨rfl, trivial⟩) ?_
     intro ν1 S H hS hfr
     refine st_op rfl (ValOk.op (v_loadP tabOk rfl rfl tsize28 tagg28 rfl rfl rfl rfl ?_))
     exact lp_v hS rfl rfl (fun _ => rfl)
    ·refine local_mk (fun ν1 => [(48, .sl true ((((ix x2 (IntKind.wrap .i64 ((x2.length : Int) - 1))).other).list).map encVal))]) (fun ν1 => []) (fun _ => rfl) (fun _ => ⟨⟨_, rfl, .refl _, .refl _⟩, trivial⟩) (fun _ => rfl) (fun _ => trivial) ?_
     intro ν1 S H hS hfr
     refine st_op rfl (o_callR [] [] (core_value rfl rfl) (m_impl_spanOf_ok (((ix x2 (IntKind.wrap .i64 ((x2.length : Int) - 1))).other).list) _ hy3) trivial (.cons (.refl _) (.nil)) (.inl rfl) rfl ?_)
     exact lp_v hS rfl rfl (fun _ => rfl)
    ·refine local_mk (fun ν1 => [(45, .agg [.spt (y2.map encVal), .int .i64 (y2.length : Int)]), (49, .agg [.spt (y3.map encVal), .int .i64 (y3.length : Int)])]) (fun ν1 => []) (fun _ => rfl) (fun _ => ⟨⟨_, rfl, .refl _, .refl _⟩, ⟨⟨_, rfl, .refl _, .refl _⟩, trivial⟩⟩) (fun _ => rfl) (fun _ => trivial) ?_
     intro ν1 S H hS hfr
     refine st_op rfl (ValOk.op (v_build tabOk (cs := [.spt (y2.map encVal), .int .i64 (y2.length : Int), .spt (y3.map encVal), .int .i64 (y3.length : Int)]) tzero65 tsok65 rfl rfl rfl ?_))
     exact lp_v hS rfl rfl (fun _ => rfl)
    ·refine local_mk (fun ν1 => []) (fun ν1 => []) (fun _ => rfl) (fun _ => trivial) (fun _ => rfl) (fun _ => trivial) ?_
     intro ν1 S H hS hfr
     refine st_op rfl (o_alloc (k := 18) tabOk tzero65 (hfr _ (by decide)) rfl ?_)
     intro w
     exact lp_n (k := 18) hS rfl rfl (fun _ => rfl) rfl
    ·refine local_mk (fun ν1 => [(8, .ptr 18 (bse (ν1 18)) 0), (50, .agg [.spt (y2.map encVal), .int .i64 (y2.length : Int), .spt (y3.map encVal), .int .i64 (y3.length : Int)])]) (fun ν1 => [(18, ((.pointer (some ⟨(bse (ν1 18)), 0, none⟩)), .optr 65 [.raw (.pointer none), .int .i64 0, .raw (.pointer none), .int .i64 0]))]) (fun _ => rfl) (fun _ => ⟨⟨_, rfl, .refl _, .refl _⟩, ⟨⟨_, rfl, .refl _, .refl _⟩, trivial⟩⟩) (fun _ => rfl) (fun _ => ⟨rfl, trivial⟩) ?_
     intro ν1 S H hS hfr
     refine st_op rfl (o_storeP tabOk (cs' := [.spt (y2.map encVal), .int .i64 (y2.length : Int), .spt (y3.map encVal), .int .i64 (y3.length : Int)]) rfl rfl tsize65 rfl rfl rfl (Nat.le_of_ble_eq_true rfl) rfl rfl rfl ?_)
     exact lp_m (k := 9003) hS rfl rfl (.inr (by decide)) (fun _ => rfl) rfl
    intro ν1
    refine hK15 _ ?_
    refine good_seq fun K16 hK16 => ?_
    refine good_seq fun K17 hK17 => ?_
    refine rg 2 ?_
    obtain ⟨h, hA1⟩ := lkE h
    refine g_op rfl (o_lookup (q := 22) (ks := x1) (x := (y2, y3)) (f := metK) Try.underlying56 key_met zero_unit ⟨_, rfl⟩ rfl rfl rfl ?_ (fun hm1 => ?_))
    ·clear hA1
     refine gs 3 ?_
     refine g_op rfl (o_alloc (k := 19) tabOk tzero66 rfl rfl ?_)
     intro b4
     refine g_op rfl (o_storeP tabOk (cs' := []) rfl rfl tsize66 rfl rfl rfl (Nat.le_of_ble_eq_true rfl) rfl rfl rfl ?_)
     refine gs 1 ?_
     refine gk hK17 85 [4, 5, 6, 7, 8, 10] [22, 40, 17, 18] ?_
     refine good_seq fun K18 hK18 => ?_
     refine rg 1 ?_
     refine gk hK18 85 [4, 5, 6, 7, 8, 57] [22, 40, 17, 18] ?_
     refine good_cond (b := false) rfl (fun hc => Bool.noConfusion hc) (fun hc => ?_)
     refine good_skip ?_
     refine hK16 _ (kp 85 [4, 5, 6, 7, 8] [22, 40, 17, 18] ?_)
     refine good_seq fun K19 hK19 => ?_
     refine rg 2 ?_
     refine g_op rfl (ValOk.op (v_build tabOk (cs := []) tzero66 tsok66 rfl rfl rfl ?_))
     obtain ⟨h, hA2⟩ := lkE h
     refine g_op rfl (o_mapUpdate (q := 22) (k := 22) (ks := x1) (x := (y2, y3)) (f := metK) Try.underlying56 key_met ⟨_, rfl⟩ rfl rfl rfl rfl rfl ?_ (fun hm2 => ?_))
     ·clear hA2
      refine gk hK19 85 [4, 5, 6, 7] [22, 40, 17] ?_
      refine good_seq fun K20 hK20 => ?_
      refine rg 3 ?_
      refine g_op rfl (ValOk.op (v_lenM (l := ((ix x2 (IntKind.wrap .i64 ((x2.length : Int) - 1))).one).list) (f := encVal) tabOk rfl rfl telem28 rfl ?_))
      refine gs 1 ?_
      refine gk hK20 85 [4, 5, 6, 7, 64, 65] [22, 40, 17] ?_
      refine good_namedL fun K21 hK21 => ?_
      obtain ⟨o2, hJ2, ho2⟩ := twE h
      have hw2 : ∀ (s2 : (List GPair)) (w6 : Value), o2 (Lp.go s2) → ∀ σ', Le σ' ⟨85, [(4, .bool false), (5, .hd 22 w1), (6, .hd 7005 w6)], [(22, (w1, .omp 56 ((x1 ++ [(y2, y3)]).map metK))), (7005, (w6, .osl 58 10 (s2.map encGPair)))]⟩ → K21 σ' := by
       intro s2 w6 e2 σ' hle2
       replace h := hJ2.1 _ e2
       refine hK21 _ ⟨85, [(4, .bool false), (5, .hd 22 w1), (6, .hd 7005 w6)], [(22, (w1, .omp 56 ((x1 ++ [(y2, y3)]).map metK))), (7005, (w6, .osl 58 10 (s2.map encGPair)))]⟩ hle2 ?_
       exact round_mk m1 ((x1 ++ [(y2, y3)]), s2, w6) (Nat.lt_succ_self _) h (lw [some 22, some 7005])
      replace h := ho2
      refine good_block ?_
      refine good_loopf (fun p : ((List GPair) × Int × Value) => ⟨85, [(4, .bool false), (5, .hd 22 w1), (6, .hd 7006 p.2.2), (7, .ptr 17 b3 0), (64, .int .i64 ((((ix x2 (IntKind.wrap .i64 ((x2.length : Int) - 1))).one).list).length : Int)), (65, .int .i64 p.2.1)], [(22, (w1, .omp 56 ((x1 ++ [(y2, y3)]).map metK))), (7006, (p.2.2, .osl 58 10 (p.1.map encGPair))), (17, ((.pointer (some ⟨b3, 0, none⟩)), .optr 58 [.int .i64 (((ix x2 (IntKind.wrap .i64 ((x2.length : Int) - 1))).one).kind), .int .i64 (((ix x2 (IntKind.wrap .i64 ((x2.length : Int) - 1))).one).num), .str (((ix x2 (IntKind.wrap .i64 ((x2.length : Int) - 1))).one).text), .sl true ((((ix x2 (IntKind.wrap .i64 ((x2.length : Int) - 1))).one).list).map encVal), .sl false ((((ix x2 (IntKind.wrap .i64 ((x2.length : Int) - 1))).one).names).map encS), .int .i64 (((ix x2 (IntKind.wrap .i64 ((x2.length : Int) - 1))).other).kind), .int .i64 (((ix x2 (IntKind.wrap .i64 ((x2.length : Int) - 1))).other).num), .str (((ix x2 (IntKind.wrap .i64 ((x2.length : Int) - 1))).other).text), .sl true ((((ix x2 (IntKind.wrap .i64 ((x2.length : Int) - 1))).other).list).map encVal), .sl false ((((ix x2 (IntKind.wrap .i64 ((x2.length : Int) - 1))).other).names).map encS)]))]⟩) (fun m p => w_impl_ValueSame_l2 m x2 p.1 p.2.1 o2) m1 (x2.take (Int.toNat (IntKind.wrap .i64 ((x2.length : Int) - 1))), 0, w4) (lw [some 22, some 40, some 17]) h ?_
      rintro m2 ⟨x3, x4, w5⟩ h
      replace h : w_impl_ValueSame_l2 m2 x2 x3 x4 o2 := h
      refine Good.le (σ' := ⟨85, [(4, .bool false), (5, .hd 22 w1), (6, .hd 7006 w5), (7, .ptr 17 b3 0), (64, .int .i64 ((((ix x2 (IntKind.wrap .i64 ((x2.length : Int) - 1))).one).list).length : Int)), (65, .int .i64 x4)], [(22, (w1, .omp 56 ((x1 ++ [(y2, y3)]).map metK))), (7006, (w5, .osl 58 10 (x3.map encGPair))), (17, ((.pointer (some ⟨b3, 0, none⟩)), .optr 58 [.int .i64 (((ix x2 (IntKind.wrap .i64 ((x2.length : Int) - 1))).one).kind), .int .i64 (((ix x2 (IntKind.wrap .i64 ((x2.length : Int) - 1))).one).num), .str (((ix x2 (IntKind.wrap .i64 ((x2.length : Int) - 1))).one).text), .sl true ((((ix x2 (IntKind.wrap .i64 ((x2.length : Int) - 1))).one).list).map encVal), .sl false ((((ix x2 (IntKind.wrap .i64 ((x2.length : Int) - 1))).one).names).map encS), .int .i64 (((ix x2 (IntKind.wrap .i64 ((x2.length : Int) - 1))).other).kind), .int .i64 (((ix x2 (IntKind.wrap .i64 ((x2.length : Int) - 1))).other).num), .str (((ix x2 (IntKind.wrap .i64 ((x2.length : Int) - 1))).other).text), .sl true ((((ix x2 (IntKind.wrap .i64 ((x2.length : Int) - 1))).other).list).map encVal), .sl false ((((ix x2 (IntKind.wrap .i64 ((x2.length : Int) - 1))).other).names).map encS)]))]⟩) (Le.refl _) ?_
      obtain ⟨m2, rfl⟩ : ∃ m', m2 = m' + 1 := by cases m2 with | zero => (rw [w_impl_ValueSame_l2] at h; exact fwE h) | succ m' => exact ⟨m', rfl⟩
      rw [w_impl_ValueSame_l2] at h
      refine good_seq fun K22 hK22 => ?_
      refine rg 1 ?_
      refine g_nil (hK22 _ ?_)
      refine good_seq fun K23 hK23 => ?_
      refine good_cond rfl (fun hc4 => ?_) (fun hc4 => ?_)
      ·replace h := ifTW h (dT hc4)
       refine good_skip ?_
       refine hK23 _ (kp 85 [4, 5, 6, 7, 64, 65] [22, 7006, 17] ?_)
       refine good_seq fun K24 hK24 => ?_
       refine good_block ?_
       refine good_seq fun K25 hK25 => ?_
       refine rg 2 ?_
       refine gk hK25 85 [4, 5, 6, 7, 11, 64, 65] [22, 7006, 17] ?_
       obtain ⟨hb3, h⟩ := ifSW h
       obtain ⟨hb4, h⟩ := ifSW h
       obtain ⟨hb5, h⟩ := ifSW h
       refine good_anyM (by kernel_rfl) [⟨[], [6], [], [], [], []⟩, ⟨[], [7], [], [], [], []⟩, ⟨[1], [69], [], [], [], []⟩, ⟨[1, 2], [70], [17], [], [], []⟩, ⟨[], [11], [], [], [], []⟩, ⟨[1, 2, 3, 4], [71, 72], [], [], [], []⟩, ⟨[1, 2, 3, 4, 5], [73], [], [], [], []⟩, ⟨[], [7], [], [], [], []⟩, ⟨[7], [75], [], [], [], []⟩, ⟨[7, 8], [76], [17], [], [], []⟩, ⟨[], [11], [], [], [], []⟩, ⟨[7, 8, 9, 10], [77, 78], [], [], [], []⟩, ⟨[7, 8, 9, 10, 11], [79], [], [], [], []⟩, ⟨[1, 2, 3, 4, 5, 6, 7, 8, 9, 10, 11, 12], [74, 80], [], [], [], []⟩, ⟨[1, 2, 3, 4, 5, 6, 7, 8, 9, 10, 11, 12, 13], [81], [], [], [], []⟩, ⟨[0, 1, 2, 3, 4, 5, 6, 7, 8, 9, 10, 11, 12, 13, 14], [68, 82], [7006], [7006], [93], [93]⟩, ⟨[0, 1, 2, 3, 4, 5, 6, 7, 8, 9, 10, 11, 12, 13, 14, 15], [83], [], [], [], [93]⟩] [some 68, some 69, some 70, some 71, some 72, some 73, some 74, some 75, some 76, some 77, some 78, some 79, some 80, some 81, some 82, some 83, some 6] 85 [(4, .bool false), (5, .hd 22 w1), (6, .hd 7006 w5), (7, .ptr 17 b3 0), (11, .int .i64 x4), (64, .int .i64 ((((ix x2 (IntKind.wrap .i64 ((x2.length : Int) - 1))).one).list).length : Int)), (65, .int .i64 x4)] [(22, (w1, .omp 56 ((x1 ++ [(y2, y3)]).map metK))), (7006, (w5, .osl 58 10 (x3.map encGPair))), (17, ((.pointer (some ⟨b3, 0, none⟩)), .optr 58 [.int .i64 (((ix x2 (IntKind.wrap .i64 ((x2.length : Int) - 1))).one).kind), .int .i64 (((ix x2 (IntKind.wrap .i64 ((x2.length : Int) - 1))).one).num), .str (((ix x2 (IntKind.wrap .i64 ((x2.length : Int) - 1))).one).text), .sl true ((((ix x2 (IntKind.wrap .i64 ((x2.length : Int) - 1))).one).list).map encVal), .sl false ((((ix x2 (IntKind.wrap .i64 ((x2.length : Int) - 1))).one).names).map encS), .int .i64 (((ix x2 (IntKind.wrap .i64 ((x2.length : Int) - 1))).other).kind), .int .i64 (((ix x2 (IntKind.wrap .i64 ((x2.length : Int) - 1))).other).num), .str (((ix x2 (IntKind.wrap .i64 ((x2.length : Int) - 1))).other).text), .sl true ((((ix x2 (IntKind.wrap .i64 ((x2.length : Int) - 1))).other).list).map encVal), .sl false ((((ix x2 (IntKind.wrap .i64 ((x2.length : Int) - 1))).other).names).map encS)]))] (fun ν2 => [.hd 7006 w5, .ptr 17 b3 0, .ptr 17 b3 3, .sl true ((((ix x2 (IntKind.wrap .i64 ((x2.length : Int) - 1))).one).list).map encVal), .int .i64 x4, .eptr [.int .i64 ((ix (((ix x2 (IntKind.wrap .i64 ((x2.length : Int) - 1))).one).list) x4).kind), .int .i64 ((ix (((ix x2 (IntKind.wrap .i64 ((x2.length : Int) - 1))).one).list) x4).num), .str ((ix (((ix x2 (IntKind.wrap .i64 ((x2.length : Int) - 1))).one).list) x4).text), .sl true (((ix (((ix x2 (IntKind.wrap .i64 ((x2.length : Int) - 1))).one).list) x4).list).map encVal), .sl false (((ix (((ix x2 (IntKind.wrap .i64 ((x2.length : Int) - 1))).one).list) x4).names).map encS)], .agg [.int .i64 ((ix (((ix x2 (IntKind.wrap .i64 ((x2.length : Int) - 1))).one).list) x4).kind), .int .i64 ((ix (((ix x2 (IntKind.wrap .i64 ((x2.length : Int) - 1))).one).list) x4).num), .str ((ix (((ix x2 (IntKind.wrap .i64 ((x2.length : Int) - 1))).one).list) x4).text), .sl true (((ix (((ix x2 (IntKind.wrap .i64 ((x2.length : Int) - 1))).one).list) x4).list).map encVal), .sl false (((ix (((ix x2 (IntKind.wrap .i64 ((x2.length : Int) - 1))).one).list) x4).names).map encS)], .ptr 17 b3 5, .ptr 17 b3 8, .sl true ((((ix x2 (IntKind.wrap .i64 ((x2.length : Int) - 1))).other).list).map encVal), .int .i64 x4, .eptr [.int .i64 ((ix (((ix x2 (IntKind.wrap .i64 ((x2.length : Int) - 1))).other).list) x4).kind), .int .i64 ((ix (((ix x2 (IntKind.wrap .i64 ((x2.length : Int) - 1))).other).list) x4).num), .str ((ix (((ix x2 (IntKind.wrap .i64 ((x2.length : Int) - 1))).other).list) x4).text), .sl true (((ix (((ix x2 (IntKind.wrap .i64 ((x2.length : Int) - 1))).other).list) x4).list).map encVal), .sl false (((ix (((ix x2 (IntKind.wrap .i64 ((x2.length : Int) - 1))).other).list) x4).names).map encS)], .agg [.int .i64 ((ix (((ix x2 (IntKind.wrap .i64 ((x2.length : Int) - 1))).other).list) x4).kind), .int .i64 ((ix (((ix x2 (IntKind.wrap .i64 ((x2.length : Int) - 1))).other).list) x4).num), .str ((ix (((ix x2 (IntKind.wrap .i64 ((x2.length : Int) - 1))).other).list) x4).text), .sl true (((ix (((ix x2 (IntKind.wrap .i64 ((x2.length : Int) - 1))).other).list) x4).list).map encVal), .sl false (((ix (((ix x2 (IntKind.wrap .i64 ((x2.length : Int) - 1))).other).list) x4).names).map encS)], .agg [.int .i64 ((ix (((ix x2 (IntKind.wrap .i64 ((x2.length : Int) - 1))).one).list) x4).kind), .int .i64 ((ix (((ix x2 (IntKind.wrap .i64 ((x2.length : Int) - 1))).one).list) x4).num), .str ((ix (((ix x2 (IntKind.wrap .i64 ((x2.length : Int) - 1))).one).list) x4).text), .sl true (((ix (((ix x2 (IntKind.wrap .i64 ((x2.length : Int) - 1))).one).list) x4).list).map encVal), .sl false (((ix (((ix x2 (IntKind.wrap .i64 ((x2.length : Int) - 1))).one).list) x4).names).map encS), .int .i64 ((ix (((ix x2 (IntKind.wrap .i64 ((x2.length : Int) - 1))).other).list) x4).kind), .int .i64 ((ix (((ix x2 (IntKind.wrap .i64 ((x2.length : Int) - 1))).other).list) x4).num), .str ((ix (((ix x2 (IntKind.wrap .i64 ((x2.length : Int) - 1))).other).list) x4).text), .sl true (((ix (((ix x2 (IntKind.wrap .i64 ((x2.length : Int) - 1))).other).list) x4).list).map encVal), .sl false (((ix (((ix x2 (IntKind.wrap .i64 ((x2.length : Int) - 1))).other).list) x4).names).map encS)], .sl false ([(GPair.mk (ix (((ix x2 (IntKind.wrap .i64 ((x2.length : Int) - 1))).one).list) x4) (ix (((ix x2 (IntKind.wrap .i64 ((x2.length : Int) - 1))).other).list) x4))].map encGPair), .hd 93 (ν2 93), .hd 93 (ν2 93)]) (fun ν2 => [(93, ((ν2 93), .osl 58 10 ((x3 ++ [(GPair.mk (ix (((ix x2 (IntKind.wrap .i64 ((x2.length : Int) - 1))).one).list) x4) (ix (((ix x2 (IntKind.wrap .i64 ((x2.length : Int) - 1))).other).list) x4))]).map encGPair)))]) [(93, [93]), (22, []), (7006, []), (17, [])] [93] [some 22, some 93, some 17] (fun ν2 => [(4, .bool false), (5, .hd 22 w1), (6, .hd 93 (ν2 93)), (7, .ptr 17 b3 0), (64, .int .i64 ((((ix x2 (IntKind.wrap .i64 ((x2.length : Int) - 1))).one).list).length : Int)), (65, .int .i64 x4)]) (fun ν2 => [(22, (w1, .omp 56 ((x1 ++ [(y2, y3)]).map metK))), (93, ((ν2 93), .osl 58 10 ((x3 ++ [(GPair.mk (ix (((ix x2 (IntKind.wrap .i64 ((x2.length : Int) - 1))).one).list) x4) (ix (((ix x2 (IntKind.wrap .i64 ((x2.length : Int) - 1))).other).list) x4))]).map encGPair))), (17, ((.pointer (some ⟨b3, 0, none⟩)), .optr 58 [.int .i64 (((ix x2 (IntKind.wrap .i64 ((x2.length : Int) - 1))).one).kind), .int .i64 (((ix x2 (IntKind.wrap .i64 ((x2.length : Int) - 1))).one).num), .str (((ix x2 (IntKind.wrap .i64 ((x2.length : Int) - 1))).one).text), .sl true ((((ix x2 (IntKind.wrap .i64 ((x2.length : Int) - 1))).one).list).map encVal), .sl false ((((ix x2 (IntKind.wrap .i64 ((x2.length : Int) - 1))).one).names).map encS), .int .i64 (((ix x2 (IntKind.wrap .i64 ((x2.length : Int) - 1))).other).kind), .int .i64 (((ix x2 (IntKind.wrap .i64 ((x2.length : Int) - 1))).other).num), .str (((ix x2 (IntKind.wrap .i64 ((x2.length : Int) - 1))).other).text), .sl true ((((ix x2 (IntKind.wrap .i64 ((x2.length : Int) - 1))).other).list).map encVal), .sl false ((((ix x2 (IntKind.wrap .i64 ((x2.length : Int) - 1))).other).names).map encS)]))]) (lw [some 22, some 7006, some 17]) (by kernel_rfl) ⟨?_, ⟨?_, ⟨?_, ⟨?_, ⟨?_, ⟨?_, ⟨?_, ⟨?_, ⟨?_, ⟨?_, ⟨?_, ⟨?_, ⟨?_, ⟨?_, ⟨?_, ⟨?_, ⟨?_, trivial⟩⟩⟩⟩⟩⟩⟩⟩⟩⟩⟩⟩⟩⟩⟩⟩⟩ ⟨fun _ _ _ => rfl, ⟨fun _ _ _ => rfl, ⟨fun _ _ _ => rfl, ⟨fun _ _ _ => rfl, ⟨fun _ _ _ => rfl, ⟨fun _ _ _ => rfl, ⟨fun _ _ _ => rfl, ⟨fun _ _ _ => rfl, ⟨fun _ _ _ => rfl, ⟨fun _ _ _ => rfl, ⟨fun _ _ _ => rfl, ⟨fun _ _ _ => rfl, ⟨fun _ _ _ => rfl, ⟨fun _ _ _ => rfl, ⟨fun _ _ _ => rfl, ⟨fun _ _ h => (congrArg (fun zz0 => (some (.hd 93 zz0) : Option AV)) (h 93 (by decide))), ⟨fun _ _ h => (congrArg (fun zz0 => (some (.hd 93 zz0) : Option AV)) (h 93 (by decide))), trivial⟩⟩⟩⟩⟩⟩⟩⟩⟩⟩⟩⟩⟩⟩⟩⟩⟩ ⟨fun _ _ h => (congrArg (fun zz0 => (some (zz0, .osl 58 10 ((x3 ++ [(GPair.mk (ix (((ix x2 (IntKind.wrap .i64 ((x2.length : Int) - 1))).one).list) x4) (ix (((ix x2 (IntKind.wrap .i64 ((x2.length : Int) - 1))).other).list) x4))]).map encGPair)) : Option (Value × AV))) (h 93 (by decide))), ⟨fun _ _ _ => rfl, ⟨fun _ _ _ => rfl, ⟨fun _ _ _ => rfl, trivial⟩⟩⟩⟩ (fun _ => rfl) (fun _ => rfl) (by kernel_rfl) (fun _ => ⟨⟨_, rfl, .refl _⟩, ⟨⟨_, rfl, .refl _⟩, ⟨⟨_, rfl, .refl _⟩, ⟨⟨_, rfl, .refl _⟩, ⟨⟨_, rfl, .refl _⟩, ⟨⟨_, rfl, .refl _⟩, trivial⟩⟩⟩⟩⟩⟩) (fun _ => ⟨⟨_, rfl, .refl _⟩, ⟨⟨_, rfl, .refl _⟩, ⟨⟨_, rfl, .refl _⟩, trivial⟩⟩⟩) (by kernel_rfl) (by decide) ?_
       ·refine local_mk (fun ν2 => [(6, .hd 7006 w5)]) (fun ν2 => []) (fun _ => rfl) (fun _ => ⟨⟨_, rfl, .refl _, .refl _⟩, trivial⟩) (fun _ => rfl) (fun _ => trivial) ?_
        intro ν2 S H hS hfr
        refine st_op rfl (ValOk.op (v_move rfl rfl ?_))
        exact lp_v hS rfl rfl (fun _ => rfl)
       ·refine local_mk (fun ν2 => [(7, .ptr 17 b3 0)]) (fun ν2 => []) (fun _ => rfl) (fun _ => ⟨⟨_, rfl, .refl _, .refl _⟩, trivial⟩) (fun _ => rfl) (fun _ => trivial) ?_
        intro ν2 S H hS hfr
        refine st_op rfl (ValOk.op (v_fieldP tabOk rfl tfoff58_0 rfl ?_))
        exact lp_v hS rfl rfl (fun _ => rfl)
       ·refine local_mk (fun ν2 => [(69, .ptr 17 b3 0)]) (fun ν2 => []) (fun _ => rfl) (fun _ => ⟨⟨_, rfl, .refl _, .refl _⟩, trivial⟩) (fun _ => rfl) (fun _ => trivial) ?_
        intro ν2 S H hS hfr
        refine st_op rfl (ValOk.op (v_fieldP tabOk rfl tfoff30_3 rfl ?_))
        exact lp_v hS rfl rfl (fun _ => rfl)
       ·refine local_mk (fun ν2 => [(70, .ptr 17 b3 3)]) (fun ν2 => [(17, ((.pointer (some ⟨b3, 0, none⟩)), .optr 58 [.int .i64 (((ix x2 (IntKind.wrap .i64 ((x2.length : Int) - 1))).one).kind), .int .i64 (((ix x2 (IntKind.wrap .i64 ((x2.length : Int) - 1))).one).num), .str (((ix x2 (IntKind.wrap .i64 ((x2.length : Int) - 1))).one).text), .sl true ((((ix x2 (IntKind.wrap .i64 ((x2.length : Int) - 1))).one).list).map encVal), .sl false ((((ix x2 (IntKind.wrap .i64 ((x2.length : Int) - 1))).one).names).map encS), .int .i64 (((ix x2 (IntKind.wrap .i64 ((x2.length : Int) - 1))).other).kind), .int .i64 (((ix x2 (IntKind.wrap .i64 ((x2.length : Int) - 1))).other).num), .str (((ix x2 (IntKind.wrap .i64 ((x2.length : Int) - 1))).other).text), .sl true ((((ix x2 (IntKind.wrap .i64 ((x2.length : Int) - 1))).other).list).map encVal), .sl false ((((ix x2 (IntKind.wrap .i64 ((x2.length : Int) - 1))).other).names).map encS)]))]) (fun _ => rfl) (fun _ => ⟨⟨_, rfl, .refl _, .refl _⟩, trivial⟩) (fun _ => rfl) (fun _ => ⟨rfl, trivial⟩) ?_
        intro ν2 S H hS hfr
        refine st_op rfl (ValOk.op (v_loadP tabOk rfl rfl tsize28 tagg28 rfl rfl rfl rfl ?_))
        exact lp_v hS rfl rfl (fun _ => rfl)
       ·refine local_mk (fun ν2 => [(11, .int .i64 x4)]) (fun ν2 => []) (fun _ => rfl) (fun _ => ⟨⟨_, rfl, .refl _, .refl _⟩, trivial⟩) (fun _ => rfl) (fun _ => trivial) ?_
        intro ν2 S H hS hfr
        refine st_op rfl (ValOk.op (v_move rfl rfl ?_))
        exact lp_v hS rfl rfl (fun _ => rfl)
       ·refine local_mk (fun ν2 => [(71, .sl true ((((ix x2 (IntKind.wrap .i64 ((x2.length : Int) - 1))).one).list).map encVal)), (72, .int .i64 x4)]) (fun ν2 => []) (fun _ => rfl) (fun _ => ⟨⟨_, rfl, .refl _, .refl _⟩, ⟨⟨_, rfl, .refl _, .refl _⟩, trivial⟩⟩) (fun _ => rfl) (fun _ => trivial) ?_
        intro ν2 S H hS hfr
        refine st_op rfl (ValOk.op (v_idxM tabOk rfl rfl telem28 tsize30 hb3 (encVal_eq _) rfl rfl ?_))
        exact lp_v hS rfl rfl (fun _ => rfl)
       ·refine local_mk (fun ν2 => [(73, .eptr [.int .i64 ((ix (((ix x2 (IntKind.wrap .i64 ((x2.length : Int) - 1))).one).list) x4).kind), .int .i64 ((ix (((ix x2 (IntKind.wrap .i64 ((x2.length : Int) - 1))).one).list) x4).num), .str ((ix (((ix x2 (IntKind.wrap .i64 ((x2.length : Int) - 1))).one).list) x4).text), .sl true (((ix (((ix x2 (IntKind.wrap .i64 ((x2.length : Int) - 1))).one).list) x4).list).map encVal), .sl false (((ix (((ix x2 (IntKind.wrap .i64 ((x2.length : Int) - 1))).one).list) x4).names).map encS)])]) (fun ν2 => []) (fun _ => rfl) (fun _ => ⟨⟨_, rfl, .refl _, .refl _⟩, trivial⟩) (fun _ => rfl) (fun _ => trivial) ?_
        intro ν2 S H hS hfr
        refine st_op rfl (ValOk.op (v_loadE tabOk rfl tsize30 tagg30 rfl rfl rfl ?_))
        exact lp_v hS rfl rfl (fun _ => rfl)
       ·refine local_mk (fun ν2 => [(7, .ptr 17 b3 0)]) (fun ν2 => []) (fun _ => rfl) (fun _ => ⟨⟨_, rfl, .refl _, .refl _⟩, trivial⟩) (fun _ => rfl) (fun _ => trivial) ?_
        intro ν2 S H hS hfr
        refine st_op rfl (ValOk.op (v_fieldP tabOk rfl tfoff58_1 rfl ?_))
        exact lp_v hS rfl rfl (fun _ => rfl)
       ·refine local_mk (fun ν2 => [(75, .ptr 17 b3 5)]) (fun ν2 => []) (fun _ => rfl) (fun _ => ⟨⟨_, rfl, .refl _, .refl _⟩, trivial⟩) (fun _ => rfl) (fun _ => trivial) ?_
        intro ν2 S H hS hfr
        refine st_op rfl (ValOk.op (v_fieldP tabOk rfl tfoff30_3 rfl ?_))
        exact lp_v hS rfl rfl (fun _ => rfl)
       ·refine local_mk (fun ν2 => [(76, .ptr 17 b3 8)]) (fun ν2 => [(17, ((.pointer (some ⟨b3, 0, none⟩)), .optr 58 [.int .i64 (((ix x2 (IntKind.wrap .i64 ((x2.length : Int) - 1))).one).kind), .int .i64 (((ix x2 (IntKind.wrap .i64 ((x2.length : Int) - 1))).one).num), .str (((ix x2 (IntKind.wrap .i64 ((x2.length : Int) - 1))).one).text), .sl true ((((ix x2 (IntKind.wrap .i64 ((x2.length : Int) - 1))).one).list).map encVal), .sl false ((((ix x2 (IntKind.wrap .i64 ((x2.length : Int) - 1))).one).names).map encS), .int .i64 (((ix x2 (IntKind.wrap .i64 ((x2.length : Int) - 1))).other).kind), .int .i64 (((ix x2 (IntKind.wrap .i64 ((x2.length : Int) - 1))).other).num), .str (((ix x2 (IntKind.wrap .i64 ((x2.length : Int) - 1))).other).text), .sl true ((((ix x2 (IntKind.wrap .i64 ((x2.length : Int) - 1))).other).list).map encVal), .sl false ((((ix x2 (IntKind.wrap .i64 ((x2.length : Int) - 1))).other).names).map encS)]))]) (fun _ => rfl) (fun _ => ⟨⟨_, rfl, .refl _, .refl _⟩, trivial⟩) (fun _ => rfl) (fun _ => ⟨rfl, trivial⟩) ?_
        intro ν2 S H hS hfr
        refine st_op rfl (ValOk.op (v_loadP tabOk rfl rfl tsize28 tagg28 rfl rfl rfl rfl ?_))
        exact lp_v hS rfl rfl (fun _ => rfl)
       ·refine local_mk (fun ν2 => [(11, .int .i64 x4)]) (fun ν2 => []) (fun _ => rfl) (fun _ => ⟨⟨_, rfl, .refl _, .refl _⟩, trivial⟩) (fun _ => rfl) (fun _ => trivial) ?_
        intro ν2 S H hS hfr
        refine st_op rfl (ValOk.op (v_move rfl rfl ?_))
        exact lp_v hS rfl rfl (fun _ => rfl)
       ·refine local_mk (fun ν2 => [(77, .sl true ((((ix x2 (IntKind.wrap .i64 ((x2.length : Int) - 1))).other).list).map encVal)), (78, .int .i64 x4)]) (fun ν2 => []) (fun _ => rfl) (fun _ => ⟨⟨_, rfl, .refl _, .refl _⟩, ⟨⟨_, rfl, .refl _, .refl _⟩, trivial⟩⟩) (fun _ => rfl) (fun _ => trivial) ?_
        intro ν2 S H hS hfr
        refine st_op rfl (ValOk.op (v_idxM tabOk rfl rfl telem28 tsize30 hb4 (encVal_eq _) rfl rfl ?_))
        exact lp_v hS rfl rfl (fun _ => rfl)
       ·refine local_mk (fun ν2 => [(79, .eptr [.int .i64 ((ix (((ix x2 (IntKind.wrap .i64 ((x2.length : Int) - 1))).other).list) x4).kind), .int .i64 ((ix (((ix x2 (IntKind.wrap .i64 ((x2.length : Int) - 1))).other).list) x4).num), .str ((ix (((ix x2 (IntKind.wrap .i64 ((x2.length : Int) - 1))).other).list) x4).text), .sl true (((ix (((ix x2 (IntKind.wrap .i64 ((x2.length : Int) - 1))).other).list) x4).list).map encVal), .sl false (((ix (((ix x2 (IntKind.wrap .i64 ((x2.length : Int) - 1))).other).list) x4).names).map encS)])]) (fun ν2 => []) (fun _ => rfl) (fun _ => ⟨⟨_, rfl, .refl _, .refl _⟩, trivial⟩) (fun _ => rfl) (fun _ => trivial) ?_
        intro ν2 S H hS hfr
        refine st_op rfl (ValOk.op (v_loadE tabOk rfl tsize30 tagg30 rfl rfl rfl ?_))
        exact lp_v hS rfl rfl (fun _ => rfl)
       ·refine local_mk (fun ν2 => [(74, .agg [.int .i64 ((ix (((ix x2 (IntKind.wrap .i64 ((x2.length : Int) - 1))).one).list) x4).kind), .int .i64 ((ix (((ix x2 (IntKind.wrap .i64 ((x2.length : Int) - 1))).one).list) x4).num), .str ((ix (((ix x2 (IntKind.wrap .i64 ((x2.length : Int) - 1))).one).list) x4).text), .sl true (((ix (((ix x2 (IntKind.wrap .i64 ((x2.length : Int) - 1))).one).list) x4).list).map encVal), .sl false (((ix (((ix x2 (IntKind.wrap .i64 ((x2.length : Int) - 1))).one).list) x4).names).map encS)]), (80, .agg [.int .i64 ((ix (((ix x2 (IntKind.wrap .i64 ((x2.length : Int) - 1))).other).list) x4).kind), .int .i64 ((ix (((ix x2 (IntKind.wrap .i64 ((x2.length : Int) - 1))).other).list) x4).num), .str ((ix (((ix x2 (IntKind.wrap .i64 ((x2.length : Int) - 1))).other).list) x4).text), .sl true (((ix (((ix x2 (IntKind.wrap .i64 ((x2.length : Int) - 1))).other).list) x4).list).map encVal), .sl false (((ix (((ix x2 (IntKind.wrap .i64 ((x2.length : Int) - 1))).other).list) x4).names).map encS)])]) (fun ν2 => []) (fun _ => rfl) (fun _ => ⟨⟨_, rfl, .refl _, .refl _⟩, ⟨⟨_, rfl, .refl _, .refl _⟩, trivial⟩⟩) (fun _ => rfl) (fun _ => trivial) ?_
        intro ν2 S H hS hfr
        refine st_op rfl (ValOk.op (v_build tabOk (cs := [.int .i64 ((ix (((ix x2 (IntKind.wrap .i64 ((x2.length : Int) - 1))).one).list) x4).kind), .int .i64 ((ix (((ix x2 (IntKind.wrap .i64 ((x2.length : Int) - 1))).one).list) x4).num), .str ((ix (((ix x2 (IntKind.wrap .i64 ((x2.length : Int) - 1))).one).list) x4).text), .sl true (((ix (((ix x2 (IntKind.wrap .i64 ((x2.length : Int) - 1))).one).list) x4).list).map encVal), .sl false (((ix (((ix x2 (IntKind.wrap .i64 ((x2.length : Int) - 1))).one).list) x4).names).map encS), .int .i64 ((ix (((ix x2 (IntKind.wrap .i64 ((x2.length : Int) - 1))).other).list) x4).kind), .int .i64 ((ix (((ix x2 (IntKind.wrap .i64 ((x2.length : Int) - 1))).other).list) x4).num), .str ((ix (((ix x2 (IntKind.wrap .i64 ((x2.length : Int) - 1))).other).list) x4).text), .sl true (((ix (((ix x2 (IntKind.wrap .i64 ((x2.length : Int) - 1))).other).list) x4).list).map encVal), .sl false (((ix (((ix x2 (IntKind.wrap .i64 ((x2.length : Int) - 1))).other).list) x4).names).map encS)]) tzero58 tsok58 rfl rfl rfl ?_))
        exact lp_v hS rfl rfl (fun _ => rfl)
       ·refine local_mk (fun ν2 => [(81, .agg [.int .i64 ((ix (((ix x2 (IntKind.wrap .i64 ((x2.length : Int) - 1))).one).list) x4).kind), .int .i64 ((ix (((ix x2 (IntKind.wrap .i64 ((x2.length : Int) - 1))).one).list) x4).num), .str ((ix (((ix x2 (IntKind.wrap .i64 ((x2.length : Int) - 1))).one).list) x4).text), .sl true (((ix (((ix x2 (IntKind.wrap .i64 ((x2.length : Int) - 1))).one).list) x4).list).map encVal), .sl false (((ix (((ix x2 (IntKind.wrap .i64 ((x2.length : Int) - 1))).one).list) x4).names).map encS), .int .i64 ((ix (((ix x2 (IntKind.wrap .i64 ((x2.length : Int) - 1))).other).list) x4).kind), .int .i64 ((ix (((ix x2 (IntKind.wrap .i64 ((x2.length : Int) - 1))).other).list) x4).num), .str ((ix (((ix x2 (IntKind.wrap .i64 ((x2.length : Int) - 1))).other).list) x4).text), .sl true (((ix (((ix x2 (IntKind.wrap .i64 ((x2.length : Int) - 1))).other).list) x4).list).map encVal), .sl false (((ix (((ix x2 (IntKind.wrap .i64 ((x2.length : Int) - 1))).other).list) x4).names).map encS)])]) (fun ν2 => []) (fun _ => rfl) (fun _ => ⟨⟨_, rfl, .refl _, .refl _⟩, trivial⟩) (fun _ => rfl) (fun _ => trivial) ?_
        intro ν2 S H hS hfr
        obtain ⟨kf, hkf⟩ := exists_fresh ([] ++ H)
        refine st_op rfl (o_buildSlice (k := kf) (rows := [(GPair.mk (ix (((ix x2 (IntKind.wrap .i64 ((x2.length : Int) - 1))).one).list) x4) (ix (((ix x2 (IntKind.wrap .i64 ((x2.length : Int) - 1))).other).list) x4))].map encGPair) tabOk telem59 tsize58 rfl rfl rfl rfl (by decide) (by decide) (by rw [tzero58]; rfl) rfl rfl rfl hkf rfl ?_)
        intro w
        exact lp_fn hS rfl rfl hkf (FrzLL.map fun _ _ => encGPair_frz _) (fun _ => rfl)
       ·refine local_mk (fun ν2 => [(68, .hd 7006 w5), (82, .sl false ([(GPair.mk (ix (((ix x2 (IntKind.wrap .i64 ((x2.length : Int) - 1))).one).list) x4) (ix (((ix x2 (IntKind.wrap .i64 ((x2.length : Int) - 1))).other).list) x4))].map encGPair))]) (fun ν2 => [(7006, (w5, .osl 58 10 (x3.map encGPair)))]) (fun _ => rfl) (fun _ => ⟨⟨_, rfl, .refl _, .refl _⟩, ⟨⟨_, rfl, .refl _, .refl _⟩, trivial⟩⟩) (fun _ => rfl) (fun _ => ⟨rfl, trivial⟩) ?_
        intro ν2 S H hS hfr
        refine st_op rfl (o_appendSM (q := 7006) (k := 93) (f := encGPair) (l2 := [(GPair.mk (ix (((ix x2 (IntKind.wrap .i64 ((x2.length : Int) - 1))).one).list) x4) (ix (((ix x2 (IntKind.wrap .i64 ((x2.length : Int) - 1))).other).list) x4))]) tabOk ⟨_, rfl⟩ rfl rfl telem59 tsize58 tbytes58 tzero58 rfl (by decide) (by decide) encGPair_len encGPair_ok rfl (has_minus (hfr _ (by decide))) rfl hb5 ?_)
        intro w
        exact lp_m (k := 93) hS rfl rfl (.inl rfl) (fun _ => rfl) rfl
       ·refine local_mk (fun ν2 => [(83, .hd 93 (ν2 93))]) (fun ν2 => []) (fun _ => rfl) (fun _ => ⟨⟨_, rfl, .refl _, .refl _⟩, trivial⟩) (fun _ => rfl) (fun _ => trivial) ?_
        intro ν2 S H hS hfr
        refine st_op rfl (ValOk.op (v_assign rfl rfl ?_))
        exact lp_v hS rfl rfl (fun _ => rfl)
       intro ν2
       refine hK24 _ ?_
       refine rg 2 ?_
       refine g_nil ?_
       exact round_mk m2 (x3 ++ [(GPair.mk (ix (((ix x2 (IntKind.wrap .i64 ((x2.length : Int) - 1))).one).list) x4) (ix (((ix x2 (IntKind.wrap .i64 ((x2.length : Int) - 1))).other).list) x4))], IntKind.wrap .i64 (x4 + 1), (ν2 93)) (Nat.lt_succ_self _) h (lw [some 22, some 93, some 17])
      ·replace h := ifFW h (dF hc4)
       refine good_exit ?_
       exact hw2 x3 w5 h _ (lw [some 22, some 7006])
     ·replace h := hA2 hm2
      refine gk hK19 85 [4, 5, 6, 7] [22, 40, 17] ?_
      refine good_seq fun K26 hK26 => ?_
      refine rg 3 ?_
      refine g_op rfl (ValOk.op (v_lenM (l := ((ix x2 (IntKind.wrap .i64 ((x2.length : Int) - 1))).one).list) (f := encVal) tabOk rfl rfl telem28 rfl ?_))
      refine gs 1 ?_
      refine gk hK26 85 [4, 5, 6, 7, 64, 65] [22, 40, 17] ?_
      refine good_namedL fun K27 hK27 => ?_
      obtain ⟨o3, hJ3, ho3⟩ := twE h
      have hw3 : ∀ (s3 : (List GPair)) (w8 : Value), o3 (Lp.go s3) → ∀ σ', Le σ' ⟨85, [(4, .bool false), (5, .hd 22 w1), (6, .hd 7007 w8)], [(22, (w1, .omp 56 (x1.map metK))), (7007, (w8, .osl 58 10 (s3.map encGPair)))]⟩ → K27 σ' := by
       intro s3 w8 e3 σ' hle3
       replace h := hJ3.1 _ e3
       refine hK27 _ ⟨85, [(4, .bool false), (5, .hd 22 w1), (6, .hd 7007 w8)], [(22, (w1, .omp 56 (x1.map metK))), (7007, (w8, .osl 58 10 (s3.map encGPair)))]⟩ hle3 ?_
       exact round_mk m1 (x1, s3, w8) (Nat.lt_succ_self _) h (lw [some 22, some 7007])
      replace h := ho3
      refine good_block ?_
      refine good_loopf (fun p : ((List GPair) × Int × Value) => ⟨85, [(4, .bool false), (5, .hd 22 w1), (6, .hd 7008 p.2.2), (7, .ptr 17 b3 0), (64, .int .i64 ((((ix x2 (IntKind.wrap .i64 ((x2.length : Int) - 1))).one).list).length : Int)), (65, .int .i64 p.2.1)], [(22, (w1, .omp 56 (x1.map metK))), (7008, (p.2.2, .osl 58 10 (p.1.map encGPair))), (17, ((.pointer (some ⟨b3, 0, none⟩)), .optr 58 [.int .i64 (((ix x2 (IntKind.wrap .i64 ((x2.length : Int) - 1))).one).kind), .int .i64 (((ix x2 (IntKind.wrap .i64 ((x2.length : Int) - 1))).one).num), .str (((ix x2 (IntKind.wrap .i64 ((x2.length : Int) - 1))).one).text), .sl true ((((ix x2 (IntKind.wrap .i64 ((x2.length : Int) - 1))).one).list).map encVal), .sl false ((((ix x2 (IntKind.wrap .i64 ((x2.length : Int) - 1))).one).names).map encS), .int .i64 (((ix x2 (IntKind.wrap .i64 ((x2.length : Int) - 1))).other).kind), .int .i64 (((ix x2 (IntKind.wrap .i64 ((x2.length : Int) - 1))).other).num), .str (((ix x2 (IntKind.wrap .i64 ((x2.length : Int) - 1))).other).text), .sl true ((((ix x2 (IntKind.wrap .i64 ((x2.length : Int) - 1))).other).list).map encVal), .sl false ((((ix x2 (IntKind.wrap .i64 ((x2.length : Int) - 1))).other).names).map encS)]))]⟩) (fun m p => w_impl_ValueSame_l3 m x2 p.1 p.2.1 o3) m1 (x2.take (Int.toNat (IntKind.wrap .i64 ((x2.length : Int) - 1))), 0, w4) (lw [some 22, some 40, some 17]) h ?_
      rintro m3 ⟨x5, x6, w7⟩ h
      replace h : w_impl_ValueSame_l3 m3 x2 x5 x6 o3 := h
      refine Good.le (σ' := ⟨85, [(4, .bool false), (5, .hd 22 w1), (6, .hd 7008 w7), (7, .ptr 17 b3 0), (64, .int .i64 ((((ix x2 (IntKind.wrap .i64 ((x2.length : Int) - 1))).one).list).length : Int)), (65, .int .i64 x6)], [(22, (w1, .omp 56 (x1.map metK))), (7008, (w7, .osl 58 10 (x5.map encGPair))), (17, ((.pointer (some ⟨b3, 0, none⟩)), .optr 58 [.int .i64 (((ix x2 (IntKind.wrap .i64 ((x2.length : Int) - 1))).one).kind), .int .i64 (((ix x2 (IntKind.wrap .i64 ((x2.length : Int) - 1))).one).num), .str (((ix x2 (IntKind.wrap .i64 ((x2.length : Int) - 1))).one).text), .sl true ((((ix x2 (IntKind.wrap .i64 ((x2.length : Int) - 1))).one).list).map encVal), .sl false ((((ix x2 (IntKind.wrap .i64 ((x2.length : Int) - 1))).one).names).map encS), .int .i64 (((ix x2 (IntKind.wrap .i64 ((x2.length : Int) - 1))).other).kind), .int .i64 (((ix x2 (IntKind.wrap .i64 ((x2.length : Int) - 1))).other).num), .str (((ix x2 (IntKind.wrap .i64 ((x2.length : Int) - 1))).other).text), .sl true ((((ix x2 (IntKind.wrap .i64 ((x2.length : Int) - 1))).other).list).map encVal), .sl false ((((ix x2 (IntKind.wrap .i64 ((x2.length : Int) - 1))).other).names).map encS)]))]⟩) (Le.refl _) ?_
      obtain ⟨m3, rfl⟩ : ∃ m', m3 = m' + 1 := by cases m3 with | zero => (rw [w_impl_ValueSame_l3] at h; exact fwE h) | succ m' => exact ⟨m', rfl⟩
      rw [w_impl_ValueSame_l3] at h
      refine good_seq fun K28 hK28 => ?_
      refine rg 1 ?_
      refine g_nil (hK28 _ ?_)
      refine good_seq fun K29 hK29 => ?_
      refine good_cond rfl (fun hc5 => ?_) (fun hc5 => ?_)
      ·replace h := ifTW h (dT hc5)
       refine good_skip ?_
       refine hK29 _ (kp 85 [4, 5, 6, 7, 64, 65] [22, 7008, 17] ?_)
       refine good_seq fun K30 hK30 => ?_
       refine good_block ?_
       refine good_seq fun K31 hK31 => ?_
       refine rg 2 ?_
       refine gk hK31 85 [4, 5, 6, 7, 11, 64, 65] [22, 7008, 17] ?_
       obtain ⟨hb6, h⟩ := ifSW h
       obtain ⟨hb7, h⟩ := ifSW h
       obtain ⟨hb8, h⟩ := ifSW h
       refine good_anyM (by kernel_rfl) [⟨[], [6], [], [], [], []⟩, ⟨[], [7], [], [], [], []⟩, ⟨[1], [69], [], [], [], []⟩, ⟨[1, 2], [70], [17], [], [], []⟩, ⟨[], [11], [], [], [], []⟩, ⟨[1, 2, 3, 4], [71, 72], [], [], [], []⟩, ⟨[1, 2, 3, 4, 5], [73], [], [], [], []⟩, ⟨[], [7], [], [], [], []⟩, ⟨[7], [75], [], [], [], []⟩, ⟨[7, 8], [76], [17], [], [], []⟩, ⟨[], [11], [], [], [], []⟩, ⟨[7, 8, 9, 10], [77, 78], [], [], [], []⟩, ⟨[7, 8, 9, 10, 11], [79], [], [], [], []⟩, ⟨[1, 2, 3, 4, 5, 6, 7, 8, 9, 10, 11, 12], [74, 80], [], [], [], []⟩, ⟨[1, 2, 3, 4, 5, 6, 7, 8, 9, 10, 11, 12, 13], [81], [], [], [], []⟩, ⟨[0, 1, 2, 3, 4, 5, 6, 7, 8, 9, 10, 11, 12, 13, 14], [68, 82], [7008], [7008], [93], [93]⟩, ⟨[0, 1, 2, 3, 4, 5, 6, 7, 8, 9, 10, 11, 12, 13, 14, 15], [83], [], [], [], [93]⟩] [some 68, some 69, some 70, some 71, some 72, some 73, some 74, some 75, some 76, some 77, some 78, some 79, some 80, some 81, some 82, some 83, some 6] 85 [(4, .bool false), (5, .hd 22 w1), (6, .hd 7008 w7), (7, .ptr 17 b3 0), (11, .int .i64 x6), (64, .int .i64 ((((ix x2 (IntKind.wrap .i64 ((x2.length : Int) - 1))).one).list).length : Int)), (65, .int .i64 x6)] [(22, (w1, .omp 56 (x1.map metK))), (7008, (w7, .osl 58 10 (x5.map encGPair))), (17, ((.pointer (some ⟨b3, 0, none⟩)), .optr 58 [.int .i64 (((ix x2 (IntKind.wrap .i64 ((x2.length : Int) - 1))).one).kind), .int .i64 (((ix x2 (IntKind.wrap .i64 ((x2.length : Int) - 1))).one).num), .str (((ix x2 (IntKind.wrap .i64 ((x2.length : Int) - 1))).one).text), .sl true ((((ix x2 (IntKind.wrap .i64 ((x2.length : Int) - 1))).one).list).map encVal), .sl false ((((ix x2 (IntKind.wrap .i64 ((x2.length : Int) - 1))).one).names).map encS), .int .i64 (((ix x2 (IntKind.wrap .i64 ((x2.length : Int) - 1))).other).kind), .int .i64 (((ix x2 (IntKind.wrap .i64 ((x2.length : Int) - 1))).other).num), .str (((ix x2 (IntKind.wrap .i64 ((x2.length : Int) - 1))).other).text), .sl true ((((ix x2 (IntKind.wrap .i64 ((x2.length : Int) - 1))).other).list).map encVal), .sl false ((((ix x2 (IntKind.wrap .i64 ((x2.length : Int) - 1))).other).names).map encS)]))] (fun ν3 => [.hd 7008 w7, .ptr 17 b3 0, .ptr 17 b3 3, .sl true ((((ix x2 (IntKind.wrap .i64 ((x2.length : Int) - 1))).one).list).map encVal), .int .i64 x6, .eptr [.int .i64 ((ix (((ix x2 (IntKind.wrap .i64 ((x2.length : Int) - 1))).one).list) x6).kind), .int .i64 ((ix (((ix x2 (IntKind.wrap .i64 ((x2.length : Int) - 1))).one).list) x6).num), .str ((ix (((ix x2 (IntKind.wrap .i64 ((x2.length : Int) - 1))).one).list) x6).text), .sl true (((ix (((ix x2 (IntKind.wrap .i64 ((x2.length : Int) - 1))).one).list) x6).list).map encVal), .sl false (((ix (((ix x2 (IntKind.wrap .i64 ((x2.length : Int) - 1))).one).list) x6).names).map encS)], .agg [.int .i64 ((ix (((ix x2 (IntKind.wrap .i64 ((x2.length : Int) - 1))).one).list) x6).kind), .int .i64 ((ix (((ix x2 (IntKind.wrap .i64 ((x2.length : Int) - 1))).one).list) x6).num), .str ((ix (((ix x2 (IntKind.wrap .i64 ((x2.length : Int) - 1))).one).list) x6).text), .sl true (((ix (((ix x2 (IntKind.wrap .i64 ((x2.length : Int) - 1))).one).list) x6).list).map encVal), .sl false (((ix (((ix x2 (IntKind.wrap .i64 ((x2.length : Int) - 1))).one).list) x6).names).map encS)], .ptr 17 b3 5, .ptr 17 b3 8, .sl true ((((ix x2 (IntKind.wrap .i64 ((x2.length : Int) - 1))).other).list).map encVal), .int .i64 x6, .eptr [.int .i64 ((ix (((ix x2 (IntKind.wrap .i64 ((x2.length : Int) - 1))).other).list) x6).kind), .int .i64 ((ix (((ix x2 (IntKind.wrap .i64 ((x2.length : Int) - 1))).other).list) x6).num), .str ((ix (((ix x2 (IntKind.wrap .i64 ((x2.length : Int) - 1))).other).list) x6).text), .sl true (((ix (((ix x2 (IntKind.wrap .i64 ((x2.length : Int) - 1))).other).list) x6).list).map encVal), .sl false (((ix (((ix x2 (IntKind.wrap .i64 ((x2.length : Int) - 1))).other).list) x6).names).map encS)], .agg [.int .i64 ((ix (((ix x2 (IntKind.wrap .i64 ((x2.length : Int) - 1))).other).list) x6).kind), .int .i64 ((ix (((ix x2 (IntKind.wrap .i64 ((x2.length : Int) - 1))).other).list) x6).num), .str ((ix (((ix x2 (IntKind.wrap .i64 ((x2.length : Int) - 1))).other).list) x6).text), .sl true (((ix (((ix x2 (IntKind.wrap .i64 ((x2.length : Int) - 1))).other).list) x6).list).map encVal), .sl false (((ix (((ix x2 (IntKind.wrap .i64 ((x2.length : Int) - 1))).other).list) x6).names).map encS)], .agg [.int .i64 ((ix (((ix x2 (IntKind.wrap .i64 ((x2.length : Int) - 1))).one).list) x6).kind), .int .i64 ((ix (((ix x2 (IntKind.wrap .i64 ((x2.length : Int) - 1))).one).list) x6).num), .str ((ix (((ix x2 (IntKind.wrap .i64 ((x2.length : Int) - 1))).one).list) x6).text), .sl true (((ix (((ix x2 (IntKind.wrap .i64 ((x2.length : Int) - 1))).one).list) x6).list).map encVal), .sl false (((ix (((ix x2 (IntKind.wrap .i64 ((x2.length : Int) - 1))).one).list) x6).names).map encS), .int .i64 ((ix (((ix x2 (IntKind.wrap .i64 ((x2.length : Int) - 1))).other).list) x6).kind), .int .i64 ((ix (((ix x2 (IntKind.wrap .i64 ((x2.length : Int) - 1))).other).list) x6).num), .str ((ix (((ix x2 (IntKind.wrap .i64 ((x2.length : Int) - 1))).other).list) x6).text), .sl true (((ix (((ix x2 (IntKind.wrap .i64 ((x2.length : Int) - 1))).other).list) x6).list).map encVal), .sl false (((ix (((ix x2 (IntKind.wrap .i64 ((x2.length : Int) - 1))).other).list) x6).names).map encS)], .sl false ([(GPair.mk (ix (((ix x2 (IntKind.wrap .i64 ((x2.length : Int) - 1))).one).list) x6) (ix (((ix x2 (IntKind.wrap .i64 ((x2.length : Int) - 1))).other).list) x6))].map encGPair), .hd 93 (ν3 93), .hd 93 (ν3 93)]) (fun ν3 => [(93, ((ν3 93), .osl 58 10 ((x5 ++ [(GPair.mk (ix (((ix x2 (IntKind.wrap .i64 ((x2.length : Int) - 1))).one).list) x6) (ix (((ix x2 (IntKind.wrap .i64 ((x2.length : Int) - 1))).other).list) x6))]).map encGPair)))]) [(93, [93]), (22, []), (7008, []), (17, [])] [93] [some 22, some 93, some 17] (fun ν3 => [(4, .bool false), (5, .hd 22 w1), (6, .hd 93 (ν3 93)), (7, .ptr 17 b3 0), (64, .int .i64 ((((ix x2 (IntKind.wrap .i64 ((x2.length : Int) - 1))).one).list).length : Int)), (65, .int .i64 x6)]) (fun ν3 => [(22, (w1, .omp 56 (x1.map metK))), (93, ((ν3 93), .osl 58 10 ((x5 ++ [(GPair.mk (ix (((ix x2 (IntKind.wrap .i64 ((x2.length : Int) - 1))).one).list) x6) (ix (((ix x2 (IntKind.wrap .i64 ((x2.length : Int) - 1))).other).list) x6))]).map encGPair))), (17, ((.pointer (some ⟨b3, 0, none⟩)), .optr 58 [.int .i64 (((ix x2 (IntKind.wrap .i64 ((x2.length : Int) - 1))).one).kind), .int .i64 (((ix x2 (IntKind.wrap .i64 ((x2.length : Int) - 1))).one).num), .str (((ix x2 (IntKind.wrap .i64 ((x2.length : Int) - 1))).one).text), .sl true ((((ix x2 (IntKind.wrap .i64 ((x2.length : Int) - 1))).one).list).map encVal), .sl false ((((ix x2 (IntKind.wrap .i64 ((x2.length : Int) - 1))).one).names).map encS), .int .i64 (((ix x2 (IntKind.wrap .i64 ((x2.length : Int) - 1))).other).kind), .int .i64 (((ix x2 (IntKind.wrap .i64 ((x2.length : Int) - 1))).other).num), .str (((ix x2 (IntKind.wrap .i64 ((x2.length : Int) - 1))).other).text), .sl true ((((ix x2 (IntKind.wrap .i64 ((x2.length : Int) - 1))).other).list).map encVal), .sl false ((((ix x2 (IntKind.wrap .i64 ((x2.length : Int) - 1))).other).names).map encS)]))]) (lw [some 22, some 7008, some 17]) (by kernel_rfl) ⟨?_, ⟨?_, ⟨?_, ⟨?_, ⟨?_, ⟨?_, ⟨?_, ⟨?_, ⟨?_, ⟨?_, ⟨?_, ⟨?_, ⟨?_, ⟨?_, ⟨?_, ⟨?_, ⟨?_, trivial⟩⟩⟩⟩⟩⟩⟩⟩⟩⟩⟩⟩⟩⟩⟩⟩⟩ ⟨fun _ _ _ => rfl, ⟨fun _ _ _ => rfl, ⟨fun _ _ _ => rfl, ⟨fun _ _ _ => rfl, ⟨fun _ _ _ => rfl, ⟨fun _ _ _ => rfl, ⟨fun _ _ _ => rfl, ⟨fun _ _ _ => rfl, ⟨fun _ _ _ => rfl, ⟨fun _ _ _ => rfl, ⟨fun _ _ _ => rfl, ⟨fun _ _ _ => rfl, ⟨fun _ _ _ => rfl, ⟨fun _ _ _ => rfl, ⟨fun _ _ _ => rfl, ⟨fun _ _ h => (congrArg (fun zz0 => (some (.hd 93 zz0) : Option AV)) (h 93 (by decide))), ⟨fun _ _ h => (congrArg (fun zz0 => (some (.hd 93 zz0) : Option AV)) (h 93 (by decide))), trivial⟩⟩⟩⟩⟩⟩⟩⟩⟩⟩⟩⟩⟩⟩⟩⟩⟩ ⟨fun _ _ h => (congrArg (fun zz0 => (some (zz0, .osl 58 10 ((x5 ++ [(GPair.mk (ix (((ix x2 (IntKind.wrap .i64 ((x2.length : Int) - 1))).one).list) x6) (ix (((ix x2 (IntKind.wrap .i64 ((x2.length : Int) - 1))).other).list) x6))]).map encGPair)) : Option (Value × AV))) (h 93 (by decide))), ⟨fun _ _ _ => rfl, ⟨fun _ _ _ => rfl, ⟨fun _ _ _ => rfl, trivial⟩⟩⟩⟩ (fun _ => rfl) (fun _ => rfl) (by kernel_rfl) (fun _ => ⟨⟨_, rfl, .refl _⟩, ⟨⟨_, rfl, .refl _⟩, ⟨⟨_, rfl, .refl _⟩, ⟨⟨_, rfl, .refl _⟩, ⟨⟨_, rfl, .refl _⟩, ⟨⟨_, rfl, .refl _⟩, trivial⟩⟩⟩⟩⟩⟩) (fun _ => ⟨⟨_, rfl, .refl _⟩, ⟨⟨_, rfl, .refl _⟩, ⟨⟨_, rfl, .refl _⟩, trivial⟩⟩⟩) (by kernel_rfl) (by decide) ?_
       ·refine local_mk (fun ν3 => [(6, .hd 7008 w7)]) (fun ν3 => []) (fun _ => rfl) (fun _ => ⟨⟨_, rfl, .refl _, .refl _⟩, trivial⟩) (fun _ => rfl) (fun _ => trivial) ?_
        intro ν3 S H hS hfr
        refine st_op rfl (ValOk.op (v_move rfl rfl ?_))
        exact lp_v hS rfl rfl (fun _ => rfl)
       ·refine local_mk (fun ν3 => [(7, .ptr 17 b3 0)]) (fun ν3 => []) (fun _ => rfl) (fun _ => ⟨⟨_, rfl, .refl _, .refl _⟩, trivial⟩) (fun _ => rfl) (fun _ => trivial) ?_
        intro ν3 S H hS hfr
        refine st_op rfl (ValOk.op (v_fieldP tabOk rfl tfoff58_0 rfl ?_))
        exact lp_v hS rfl rfl (fun _ => rfl)
       ·refine local_mk (fun ν3 => [(69, .ptr 17 b3 0)]) (fun ν3 => []) (fun _ => rfl) (fun _ => ⟨⟨_, rfl, .refl _, .refl _⟩, trivial⟩) (fun _ => rfl) (fun _ => trivial) ?_
        intro ν3 S H hS hfr
        refine st_op rfl (ValOk.op (v_fieldP tabOk rfl tfoff30_3 rfl ?_))
        exact lp_v hS rfl rfl (fun _ => rfl)
       ·refine local_mk (fun ν3 => [(70, .ptr 17 b3 3)]) (fun ν3 => [(17, ((.pointer (some ⟨b3, 0, none⟩)), .optr 58 [.int .i64 (((ix x2 (IntKind.wrap .i64 ((x2.length : Int) - 1))).one).kind), .int .i64 (((ix x2 (IntKind.wrap .i64 ((x2.length : Int) - 1))).one).num), .str (((ix x2 (IntKind.wrap .i64 ((x2.length : Int) - 1))).one).text), .sl true ((((ix x2 (IntKind.wrap .i64 ((x2.length : Int) - 1))).one).list).map encVal), .sl false ((((ix x2 (IntKind.wrap .i64 ((x2.length : Int) - 1))).one).names).map encS), .int .i64 (((ix x2 (IntKind.wrap .i64 ((x2.length : Int) - 1))).other).kind), .int .i64 (((ix x2 (IntKind.wrap .i64 ((x2.length : Int) - 1))).other).num), .str (((ix x2 (IntKind.wrap .i64 ((x2.length : Int) - 1))).other).text), .sl true ((((ix x2 (IntKind.wrap .i64 ((x2.length : Int) - 1))).other).list).map encVal), .sl false ((((ix x2 (IntKind.wrap .i64 ((x2.length : Int) - 1))).other).names).map encS)]))]) (fun _ => rfl) (fun _ => ⟨⟨_, rfl, .refl _, .refl _⟩, trivial⟩) (fun _ => rfl) (fun _ => ⟨rfl, trivial⟩) ?_
        intro ν3 S H hS hfr
        refine st_op rfl (ValOk.op (v_loadP tabOk rfl rfl tsize28 tagg28 rfl rfl rfl rfl ?_))
        exact lp_v hS rfl rfl (fun _ => rfl)
       ·refine local_mk (fun ν3 => [(11, .int .i64 x6)]) (fun ν3 => []) (fun _ => rfl) (fun _ => ⟨⟨_, rfl, .refl _, .refl _⟩, trivial⟩) (fun _ => rfl) (fun _ => trivial) ?_
        intro ν3 S H hS hfr
        refine st_op rfl (ValOk.op (v_move rfl rfl ?_))
        exact lp_v hS rfl rfl (fun _ => rfl)
       ·refine local_mk (fun ν3 => [(71, .sl true ((((ix x2 (IntKind.wrap .i64 ((x2.length : Int) - 1))).one).list).map encVal)), (72, .int .i64 x6)]) (fun ν3 => []) (fun _ => rfl) (fun _ => ⟨⟨_, rfl, .refl _, .refl _⟩, ⟨⟨_, rfl, .refl _, .refl _⟩, trivial⟩⟩) (fun _ => rfl) (fun _ => trivial) ?_
        intro ν3 S H hS hfr
        refine st_op rfl (ValOk.op (v_idxM tabOk rfl rfl telem28 tsize30 hb6 (encVal_eq _) rfl rfl ?_))
        exact lp_v hS rfl rfl (fun _ => rfl)
       ·refine local_mk (fun ν3 => [(73, .eptr [.int .i64 ((ix (((ix x2 (IntKind.wrap .i64 ((x2.length : Int) - 1))).one).list) x6).kind), .int .i64 ((ix (((ix x2 (IntKind.wrap .i64 ((x2.length : Int) - 1))).one).list) x6).num), .str ((ix (((ix x2 (IntKind.wrap .i64 ((x2.length : Int) - 1))).one).list) x6).text), .sl true (((ix (((ix x2 (IntKind.wrap .i64 ((x2.length : Int) - 1))).one).list) x6).list).map encVal), .sl false (((ix (((ix x2 (IntKind.wrap .i64 ((x2.length : Int) - 1))).one).list) x6).names).map encS)])]) (fun ν3 => []) (fun _ => rfl) (fun _ => ⟨⟨_, rfl, .refl _, .refl _⟩, trivial⟩) (fun _ => rfl) (fun _ => trivial) ?_
        intro ν3 S H hS hfr
        refine st_op rfl (ValOk.op (v_loadE tabOk rfl tsize30 tagg30 rfl rfl rfl ?_))
        exact lp_v hS rfl rfl (fun _ => rfl)
       ·refine local_mk (fun ν3 => [(7, .ptr 17 b3 0)]) (fun ν3 => []) (fun _ => rfl) (fun _ => ⟨⟨_, rfl, .refl _, .refl _⟩, trivial⟩) (fun _ => rfl) (fun _ => trivial) ?_
        intro ν3 S H hS hfr
        refine st_op rfl (ValOk.op (v_fieldP tabOk rfl tfoff58_1 rfl ?_))
        exact lp_v hS rfl rfl (fun _ => rfl)
       ·refine local_mk (fun ν3 => [(75, .ptr 17 b3 5)]) (fun ν3 => []) (fun _ => rfl) (fun _ => ⟨⟨_, rfl, .refl _, .refl _⟩, trivial⟩) (fun _ => rfl) (fun _ => trivial) ?_
        intro ν3 S H hS hfr
        refine st_op rfl (ValOk.op (v_fieldP tabOk rfl tfoff30_3 rfl ?_))
        exact lp_v hS rfl rfl (fun _ => rfl)
       ·refine local_mk (fun ν3 => [(76, .ptr 17 b3 8)]) (fun ν3 => [(17, ((.pointer (some ⟨b3, 0, none⟩)), .optr 58 [.int .i64 (((ix x2 (IntKind.wrap .i64 ((x2.length : Int) - 1))).one).kind), .int .i64 (((ix x2 (IntKind.wrap .i64 ((x2.length : Int) - 1))).one).num), .str (((ix x2 (IntKind.wrap .i64 ((x2.length : Int) - 1))).one).text), .sl true ((((ix x2 (IntKind.wrap .i64 ((x2.length : Int) - 1))).one).list).map encVal), .sl false ((((ix x2 (IntKind.wrap .i64 ((x2.length : Int) - 1))).one).names).map encS), .int .i64 (((ix x2 (IntKind.wrap .i64 ((x2.length : Int) - 1))).other).kind), .int .i64 (((ix x2 (IntKind.wrap .i64 ((x2.length : Int) - 1))).other).num), .str (((ix x2 (IntKind.wrap .i64 ((x2.length : Int) - 1))).other).text), .sl true ((((ix x2 (IntKind.wrap .i64 ((x2.length : Int) - 1))).other).list).map encVal), .sl false ((((ix x2 (IntKind.wrap .i64 ((x2.length : Int) - 1))).other).names).map encS)]))]) (fun _ => rfl) (fun _ => ⟨⟨_, rfl, .refl _, .refl _⟩, trivial⟩) (fun _ => rfl) (fun _ => ⟨rfl, trivial⟩) ?_
        intro ν3 S H hS hfr
        refine st_op rfl (ValOk.op (v_loadP tabOk rfl rfl tsize28 tagg28 rfl rfl rfl rfl ?_))
        exact lp_v hS rfl rfl (fun _ => rfl)
       ·refine local_mk (fun ν3 => [(11, .int .i64 x6)]) (fun ν3 => []) (fun _ => rfl) (fun _ => ⟨⟨_, rfl, .refl _, .refl _⟩, trivial⟩) (fun _ => rfl) (fun _ => trivial) ?_
        intro ν3 S H hS hfr
        refine st_op rfl (ValOk.op (v_move rfl rfl ?_))
        exact lp_v hS rfl rfl (fun _ => rfl)
       ·refine local_mk (fun ν3 => [(77, .sl true ((((ix x2 (IntKind.wrap .i64 ((x2.length : Int) - 1))).other).list).map encVal)), (78, .int .i64 x6)]) (fun ν3 => []) (fun _ => rfl) (fun _ => ⟨⟨_, rfl, .refl _, .refl _⟩, ⟨⟨_, rfl, .refl _, .refl _⟩, trivial⟩⟩) (fun _ => rfl) (fun _ => trivial) ?_
        intro ν3 S H hS hfr
        refine st_op rfl (ValOk.op (v_idxM tabOk rfl rfl telem28 tsize30 hb7 (encVal_eq _) rfl rfl ?_))
        exact lp_v hS rfl rfl (fun _ => rfl)
       ·refine local_mk (fun ν3 => [(79, .eptr [.int .i64 ((ix (((ix x2 (IntKind.wrap .i64 ((x2.length : Int) - 1))).other).list) x6).kind), .int .i64 ((ix (((ix x2 (IntKind.wrap .i64 ((x2.length : Int) - 1))).other).list) x6).num), .str ((ix (((ix x2 (IntKind.wrap .i64 ((x2.length : Int) - 1))).other).list) x6).text), .sl true (((ix (((ix x2 (IntKind.wrap .i64 ((x2.length : Int) - 1))).other).list) x6).list).map encVal), .sl false (((ix (((ix x2 (IntKind.wrap .i64 ((x2.length : Int) - 1))).other).list) x6).names).map encS)])]) (fun ν3 => []) (fun _ => rfl) (fun _ => ⟨⟨_, rfl, .refl _, .refl _⟩, trivial⟩) (fun _ => rfl) (fun _ => trivial) ?_
        intro ν3 S H hS hfr
        refine st_op rfl (ValOk.op (v_loadE tabOk rfl tsize30 tagg30 rfl rfl rfl ?_))
        exact lp_v hS rfl rfl (fun _ => rfl)
       ·refine local_mk (fun ν3 => [(74, .agg [.int .i64 ((ix (((ix x2 (IntKind.wrap .i64 ((x2.length : Int) - 1))).one).list) x6).kind), .int .i64 ((ix (((ix x2 (IntKind.wrap .i64 ((x2.length : Int) - 1))).one).list) x6).num), .str ((ix (((ix x2 (IntKind.wrap .i64 ((x2.length : Int) - 1))).one).list) x6).text), .sl true (((ix (((ix x2 (IntKind.wrap .i64 ((x2.length : Int) - 1))).one).list) x6).list).map encVal), .sl false (((ix (((ix x2 (IntKind.wrap .i64 ((x2.length : Int) - 1))).one).list) x6).names).map encS)]), (80, .agg [.int .i64 ((ix (((ix x2 (IntKind.wrap .i64 ((x2.length : Int) - 1))).other).list) x6).kind), .int .i64 ((ix (((ix x2 (IntKind.wrap .i64 ((x2.length : Int) - 1))).other).list) x6).num), .str ((ix (((ix x2 (IntKind.wrap .i64 ((x2.length : Int) - 1))).other).list) x6).text), .sl true (((ix (((ix x2 (IntKind.wrap .i64 ((x2.length : Int) - 1))).other).list) x6).list).map encVal), .sl false (((ix (((ix x2 (IntKind.wrap .i64 ((x2.length : Int) - 1))).other).list) x6).names).map encS)])]) (fun ν3 => []) (fun _ => rfl) (fun _ => ⟨⟨_, rfl, .refl _, .refl _⟩, ⟨⟨_, rfl, .refl _, .refl _⟩, trivial⟩⟩) (fun _ => rfl) (fun _ => trivial) ?_
        intro ν3 S H hS hfr
        refine st_op rfl (ValOk.op (v_build tabOk (cs := [.int .i64 ((ix (((ix x2 (IntKind.wrap .i64 ((x2.length : Int) - 1))).one).list) x6).kind), .int .i64 ((ix (((ix x2 (IntKind.wrap .i64 ((x2.length : Int) - 1))).one).list) x6).num), .str ((ix (((ix x2 (IntKind.wrap .i64 ((x2.length : Int) - 1))).one).list) x6).text), .sl true (((ix (((ix x2 (IntKind.wrap .i64 ((x2.length : Int) - 1))).one).list) x6).list).map encVal), .sl false (((ix (((ix x2 (IntKind.wrap .i64 ((x2.length : Int) - 1))).one).list) x6).names).map encS), .int .i64 ((ix (((ix x2 (IntKind.wrap .i64 ((x2.length : Int) - 1))).other).list) x6).kind), .int .i64 ((ix (((ix x2 (IntKind.wrap .i64 ((x2.length : Int) - 1))).other).list) x6).num), .str ((ix (((ix x2 (IntKind.wrap .i64 ((x2.length : Int) - 1))).other).list) x6).text), .sl true (((ix (((ix x2 (IntKind.wrap .i64 ((x2.length : Int) - 1))).other).list) x6).list).map encVal), .sl false (((ix (((ix x2 (IntKind.wrap .i64 ((x2.length : Int) - 1))).other).list) x6).names).map encS)]) tzero58 tsok58 rfl rfl rfl ?_))
        exact lp_v hS rfl rfl (fun _ => rfl)
       ·refine local_mk (fun ν3 => [(81, .agg [.int .i64 ((ix (((ix x2 (IntKind.wrap .i64 ((x2.length : Int) - 1))).one).list) x6).kind), .int .i64 ((ix (((ix x2 (IntKind.wrap .i64 ((x2.length : Int) - 1))).one).list) x6).num), .str ((ix (((ix x2 (IntKind.wrap .i64 ((x2.length : Int) - 1))).one).list) x6).text), .sl true (((ix (((ix x2 (IntKind.wrap .i64 ((x2.length : Int) - 1))).one).list) x6).list).map encVal), .sl false (((ix (((ix x2 (IntKind.wrap .i64 ((x2.length : Int) - 1))).one).list) x6).names).map encS), .int .i64 ((ix (((ix x2 (IntKind.wrap .i64 ((x2.length : Int) - 1))).other).list) x6).kind), .int .i64 ((ix (((ix x2 (IntKind.wrap .i64 ((x2.length : Int) - 1))).other).list) x6).num), .str ((ix (((ix x2 (IntKind.wrap .i64 ((x2.length : Int) - 1))).other).list) x6).text), .sl true (((ix (((ix x2 (IntKind.wrap .i64 ((x2.length : Int) - 1))).other).list) x6).list).map encVal), .sl false (((ix (((ix x2 (IntKind.wrap .i64 ((x2.length : Int) - 1))).other).list) x6).names).map encS)])]) (fun ν3 => []) (fun _ => rfl) (fun _ => ⟨⟨_, rfl, .refl _, .refl _⟩, trivial⟩) (fun _ => rfl) (fun _ => trivial) ?_
        intro ν3 S H hS hfr
        obtain ⟨kf, hkf⟩ := exists_fresh ([] ++ H)
        refine st_op rfl (o_buildSlice (k := kf) (rows := [(GPair.mk (ix (((ix x2 (IntKind.wrap .i64 ((x2.length : Int) - 1))).one).list) x6) (ix (((ix x2 (IntKind.wrap .i64 ((x2.length : Int) - 1))).other).list) x6))].map encGPair) tabOk telem59 tsize58 rfl rfl rfl rfl (by decide) (by decide) (by rw [tzero58]; rfl) rfl rfl rfl hkf rfl ?_)
        intro w
        exact lp_fn hS rfl rfl hkf (FrzLL.map fun _ _ => encGPair_frz _) (fun _ => rfl)
       ·refine local_mk (fun ν3 => [(68, .hd 7008 w7), (82, .sl false ([(GPair.mk (ix (((ix x2 (IntKind.wrap .i64 ((x2.length : Int) - 1))).one).list) x6) (ix (((ix x2 (IntKind.wrap .i64 ((x2.length : Int) - 1))).other).list) x6))].map encGPair))]) (fun ν3 => [(7008, (w7, .osl 58 10 (x5.map encGPair)))]) (fun _ => rfl) (fun _ => ⟨⟨_, rfl, .refl _, .refl _⟩, ⟨⟨_, rfl, .refl _, .refl _⟩, trivial⟩⟩) (fun _ => rfl) (fun _ => ⟨rfl, trivial⟩) ?_
        intro ν3 S H hS hfr
        refine st_op rfl (o_appendSM (q := 7008) (k := 93) (f := encGPair) (l2 := [(GPair.mk (ix (((ix x2 (IntKind.wrap .i64 ((x2.length : Int) - 1))).one).list) x6) (ix (((ix x2 (IntKind.wrap .i64 ((x2.length : Int) - 1))).other).list) x6))]) tabOk ⟨_, rfl⟩ rfl rfl telem59 tsize58 tbytes58 tzero58 rfl (by decide) (by decide) encGPair_len encGPair_ok rfl (has_minus (hfr _ (by decide))) rfl hb8 ?_)
        intro w
        exact lp_m (k := 93) hS rfl rfl (.inl rfl) (fun _ => rfl) rfl
       ·refine local_mk (fun ν3 => [(83, .hd 93 (ν3 93))]) (fun ν3 => []) (fun _ => rfl) (fun _ => ⟨⟨_, rfl, .refl _, .refl _⟩, trivial⟩) (fun _ => rfl) (fun _ => trivial) ?_
        intro ν3 S H hS hfr
        refine st_op rfl (ValOk.op (v_assign rfl rfl ?_))
        exact lp_v hS rfl rfl (fun _ => rfl)
       intro ν3
       refine hK30 _ ?_
       refine rg 2 ?_
       refine g_nil ?_
       exact round_mk m3 (x5 ++ [(GPair.mk (ix (((ix x2 (IntKind.wrap .i64 ((x2.length : Int) - 1))).one).list) x6) (ix (((ix x2 (IntKind.wrap .i64 ((x2.length : Int) - 1))).other).list) x6))], IntKind.wrap .i64 (x6 + 1), (ν3 93)) (Nat.lt_succ_self _) h (lw [some 22, some 93, some 17])
      ·replace h := ifFW h (dF hc5)
       refine good_exit ?_
       exact hw3 x5 w7 h _ (lw [some 22, some 7008])
    ·replace h := hA1 hm1
     refine gs 3 ?_
     refine g_op rfl (o_alloc (k := 19) tabOk tzero66 rfl rfl ?_)
     intro b5
     refine g_op rfl (o_storeP tabOk (cs' := []) rfl rfl tsize66 rfl rfl rfl (Nat.le_of_ble_eq_true rfl) rfl rfl rfl ?_)
     refine gs 1 ?_
     refine gk hK17 85 [4, 5, 6, 7, 8, 10] [22, 40, 17, 18] ?_
     refine good_seq fun K32 hK32 => ?_
     refine rg 1 ?_
     refine gk hK32 85 [4, 5, 6, 7, 8, 57] [22, 40, 17, 18] ?_
     refine good_cond (b := true) rfl (fun hc => ?_) (fun hc => Bool.noConfusion hc)
     refine good_exit ?_
     exact round_mk m1 (x1, x2.take (Int.toNat (IntKind.wrap .i64 ((x2.length : Int) - 1))), w4) (Nat.lt_succ_self _) h (lw [some 22, some 40])
 ·replace h := ifFW h (dF hc1)
  refine good_exit ?_
  exact hw1 () h _ (lw [])
end Go.Proofs.Ytiaigcdckmpepaa
end
end
section
/-! Sizes and weights. -/
set_option linter.unusedVariables false
set_option linter.unusedSimpArgs false
namespace Go.Proofs.Ytiaigcdckmpepaa
open Go.Bb
def wtW (v : Val) : Nat := wtVs v.list + v.names.length
/-- What is left of a size: none, or all is within it. -/
theorem ev_szStringSW (l : List Bs) (n : Int) (hn : 0 ≤ n) (hn2 : n ≤ 1048576) (hl : l.length ≤ maxLen) (hs : ∀ s ∈ l, s.length ≤ maxLen) : ∃ y, Ev (fun k => m_laws_szStringS k l n) y ∧ (y < 0 ∨ (0 ≤ y ∧ y ≤ n - l.length ∧ (l.length : Int) ≤ n ∧ ∀ s ∈ l, (s.length : Int) ≤ n)) := by
  simp only [m_laws_szStringS]
  have hm : maxLen = 9223372036854775807 := rfl
  rw [wrap_id (by omega)]
  by_cases h0 : n - (l.length : Int) < 0
  · exact ⟨-1, ev_ifT h0 (ev_some _), .inl (by omega)⟩
  · have loop : ∀ (d j : Nat) (x : Int), j + d = l.length → 0 ≤ x → x ≤ n → ∃ o, Ev (fun k => m_laws_szStringS_l1 k l x j) o ∧ (o = .ret (-1) ∨ ∃ y, o = .go y ∧ 0 ≤ y ∧ y ≤ x ∧ ∀ (i : Nat) (h : i < l.length), j ≤ i → (l[i].length : Int) ≤ x) := by
      intro d
      induction d with
      | zero =>
        intro j x hj hx hxn
        refine ⟨.go x, ?_, .inr ⟨x, rfl, hx, Int.le_refl _, fun i hi hji => by omega⟩⟩
        rw [ev_shift]; simp only [m_laws_szStringS_l1]
        exact ev_ifF (by omega) (ev_some _)
      | succ d ih =>
        intro j x hj hx hxn
        have hjl : j < l.length := by omega
        have hlen := hs _ (List.getElem_mem hjl)
        have hw : IntKind.wrap .i64 (x - ((ix l (j : Int)).length : Int)) = x - (l[j].length : Int) := by
          rw [ix_nat hjl]; exact wrap_id (by omega)
        by_cases h1 : x - (l[j].length : Int) < 0
        · refine ⟨.ret (-1), ?_, .inl rfl⟩
          rw [ev_shift]; simp only [m_laws_szStringS_l1]
          rw [hw]
          exact ev_ifT (by omega) (ev_ifT (by omega) (ev_ifT h1 (ev_some _)))
        · obtain ⟨o, h2, h3⟩ := ih (j + 1) (x - (l[j].length : Int)) (by omega) (by omega) (by omega)
          refine ⟨o, ?_, ?_⟩
          · rw [ev_shift]; simp only [m_laws_szStringS_l1]
            rw [hw, wrap_id (n := (j : Int) + 1) (by omega)]
            exact ev_ifT (by omega) (ev_ifT (by omega) (ev_ifF h1 (by simpa using h2)))
          · rcases h3 with h3 | ⟨y, h3, h4, h5, h6⟩
            · exact .inl h3
            · refine .inr ⟨y, h3, h4, by omega, fun i hi hji => ?_⟩
              rcases Nat.eq_or_lt_of_le hji with rfl | hji
              · omega
              · have := h6 i hi hji; omega
    obtain ⟨o, h1, h2⟩ := loop l.length 0 (n - l.length) (by omega) (by omega) (by omega)
    rcases h2 with rfl | ⟨y, rfl, h3, h4, h5⟩
    · exact ⟨-1, ev_ifF h0 (Ev.ret (by simpa using h1)), .inl (by omega)⟩
    · refine ⟨y, ev_ifF h0 (Ev.go (by simpa using h1) (ev_some _)), .inr ⟨h3, by omega, by omega, fun s hs => ?_⟩⟩
      obtain ⟨i, hi, rfl⟩ := List.mem_iff_getElem.1 hs
      have := h5 i hi (by omega)
      omega

theorem ev_szValueSW (l : List Val) (n : Int) (hn : 0 ≤ n) (hn2 : n ≤ 1048576) (hl : l.length ≤ maxLen) (ihv : ∀ v ∈ l, ∀ n : Int, 0 ≤ n → n ≤ 1048576 → ∃ y, Ev (fun k => m_laws_szValue k v n) y ∧ (y < 0 ∨ (0 ≤ y ∧ y ≤ n ∧ Bd 1048576 v ∧ (wtW v : Int) ≤ 3 * (n - y)))) : ∃ y, Ev (fun k => m_laws_szValueS k l n) y ∧ (y < 0 ∨ (0 ≤ y ∧ y ≤ n ∧ (l.length : Int) ≤ n ∧ (∀ v ∈ l, Bd 1048576 v) ∧ (wtVs l : Int) ≤ 3 * (n - y))) := by
  have hm : maxLen = 9223372036854775807 := rfl
  have hw0 : IntKind.wrap .i64 (n - (l.length : Int)) = n - (l.length : Int) := wrap_id (by omega)
  by_cases h0 : n - (l.length : Int) < 0
  · refine ⟨-1, ?_, .inl (by omega)⟩
    rw [ev_shift]; simp only [m_laws_szValueS]
    rw [hw0]
    exact ev_ifT h0 (ev_some _)
  · have loop : ∀ (d j : Nat) (x : Int), j + d = l.length → 0 ≤ x → x ≤ n → ∃ o, Ev (fun k => m_laws_szValueS_l1 k l x j) o ∧ (o = .ret (-1) ∨ ∃ y, o = .go y ∧ 0 ≤ y ∧ y ≤ x ∧ (∀ (i : Nat) (h : i < l.length), j ≤ i → Bd 1048576 l[i]) ∧ (wtVs (l.drop j) : Int) ≤ 3 * d + 3 * (x - y)) := by
      intro d
      induction d with
      | zero =>
        intro j x hj hx hxn
        refine ⟨.go x, ?_, .inr ⟨x, rfl, hx, Int.le_refl _, (fun i hi hji => by omega), by rw [List.drop_of_length_le (by omega)]; simp [wtVs]⟩⟩
        rw [ev_shift]; simp only [m_laws_szValueS_l1]
        exact ev_ifF (by omega) (ev_some _)
      | succ d ih =>
        intro j x hj hx hxn
        have hjl : j < l.length := by omega
        obtain ⟨y, h1, h2⟩ := ihv _ (List.getElem_mem hjl) x hx (by omega)
        rcases h2 with h2 | ⟨h2, h3, h4, hwt⟩
        · refine ⟨.ret (-1), ?_, .inl rfl⟩
          rw [ev_shift]; simp only [m_laws_szValueS_l1]
          rw [ix_nat hjl]
          exact ev_ifT (by omega) (ev_ifT (by omega) (Ev.bind h1 (ev_ifT h2 (ev_some _))))
        · obtain ⟨o, h5, h6⟩ := ih (j + 1) y (by omega) (by omega) (by omega)
          refine ⟨o, ?_, ?_⟩
          · rw [ev_shift]; simp only [m_laws_szValueS_l1]
            rw [ix_nat hjl, wrap_id (n := (j : Int) + 1) (by omega)]
            exact ev_ifT (by omega) (ev_ifT (by omega) (Ev.bind h1 (ev_ifF (by omega) (by simpa using h5))))
          · rcases h6 with h6 | ⟨z, h6, h7, h8, h9, hw9⟩
            · exact .inl h6
            · refine .inr ⟨z, h6, h7, by omega, fun i hi hji => ?_, ?_⟩
              · rcases Nat.eq_or_lt_of_le hji with rfl | hji
                · exact h4
                · exact h9 i hi hji
              · rw [List.drop_eq_getElem_cons hjl]
                have e : wtV l[j] = 3 + wtW l[j] := by rw [wtV_eq]; unfold wtW; omega
                simp only [wtVs, e]
                omega
    obtain ⟨o, h1, h2⟩ := loop l.length 0 (n - l.length) (by omega) (by omega) (by omega)
    rcases h2 with rfl | ⟨y, rfl, h3, h4, h5, hw5⟩
    · refine ⟨-1, ?_, .inl (by omega)⟩
      rw [ev_shift]; simp only [m_laws_szValueS]
      rw [hw0]
      exact ev_ifF h0 (Ev.ret (by simpa using h1))
    · refine ⟨y, ?_, .inr ⟨h3, by omega, by omega, fun s hs => ?_, by simp only [List.drop_zero] at hw5; omega⟩⟩
      · rw [ev_shift]; simp only [m_laws_szValueS]
        rw [hw0]
        exact ev_ifF h0 (Ev.go (by simpa using h1) (ev_some _))
      · obtain ⟨i, hi, rfl⟩ := List.mem_iff_getElem.1 hs
        exact h5 i hi (by omega)

theorem ev_szValueW : ∀ v : Val, Bd maxLen v → ∀ n : Int, 0 ≤ n → n ≤ 1048576 → ∃ y, Ev (fun k => m_laws_szValue k v n) y ∧ (y < 0 ∨ (0 ≤ y ∧ y ≤ n ∧ Bd 1048576 v ∧ (wtW v : Int) ≤ 3 * (n - y))) := by
  apply Val.ind
  intro v ih h n hn hn2
  have hm : maxLen = 9223372036854775807 := rfl
  have ht := h.text
  have hw : IntKind.wrap .i64 (n - (v.text.length : Int)) = n - (v.text.length : Int) := wrap_id (by omega)
  by_cases h0 : n - (v.text.length : Int) < 0
  · refine ⟨-1, ?_, .inl (by omega)⟩
    rw [ev_shift]; simp only [m_laws_szValue]
    rw [hw]
    exact ev_ifT h0 (ev_some _)
  · obtain ⟨y, h1, h2⟩ := ev_szValueSW v.list (n - v.text.length) (by omega) (by omega) h.list fun x hx => ih x hx (h.within x hx)
    rcases h2 with h2 | ⟨h2, h3, h4, h5, hw5⟩
    · refine ⟨-1, ?_, .inl (by omega)⟩
      rw [ev_shift]; simp only [m_laws_szValue]
      rw [hw]
      exact ev_ifF h0 (Ev.bind h1 (ev_ifT h2 (ev_some _)))
    · obtain ⟨z, h6, h7⟩ := ev_szStringSW v.names y h2 (by omega) h.names h.name
      rcases h7 with h7 | ⟨h7, h8, h9, h10⟩
      · refine ⟨-1, ?_, .inl (by omega)⟩
        rw [ev_shift]; simp only [m_laws_szValue]
        rw [hw]
        exact ev_ifF h0 (Ev.bind h1 (ev_ifF (by omega) (Ev.bind h6 (ev_ifT h7 (ev_some _)))))
      · refine ⟨z, ?_, .inr ⟨h7, by omega, .mk v (by omega) (by omega) (by omega) (fun s hs => by have := h10 s hs; omega) h5, by unfold wtW; omega⟩⟩
        rw [ev_shift]; simp only [m_laws_szValue]
        rw [hw]
        exact ev_ifF h0 (Ev.bind h1 (ev_ifF (by omega) (Ev.bind h6 (ev_ifF (by omega) (ev_some _)))))
end Go.Proofs.Ytiaigcdckmpepaa
end
section
/-! The same values. -/
set_option linter.unusedVariables false
set_option linter.unusedSimpArgs false
set_option linter.unnecessarySimpa false
namespace Go.Proofs.Ytiaigcdckmpepaa
open Go.Bb

theorem Val.ext' {a b : Val} (h1 : a.kind = b.kind) (h2 : a.num = b.num) (h3 : a.text = b.text) (h4 : a.list = b.list) (h5 : a.names = b.names) : a = b := by
  cases a; cases b
  simp only [Val.kind_mk, Val.num_mk, Val.text_mk, Val.list_mk, Val.names_mk] at h1 h2 h3 h4 h5
  subst h1 h2 h3 h4 h5; rfl
/-- The same. -/
noncomputable def sameV (a b : Val) : Bool := @decide (a = b) (Classical.propDecidable _)
theorem sameV_iff (a b : Val) : sameV a b = true ↔ a = b := by unfold sameV; simp
theorem sameV_no {a b : Val} (h : a ≠ b) : sameV a b = false := by unfold sameV; simp [h]
theorem sameV_yes {a b : Val} (h : a = b) : sameV a b = true := (sameV_iff a b).2 h
/-- The same but for what is within. -/
def topEq (a b : Val) : Prop := a.kind = b.kind ∧ a.num = b.num ∧ a.text = b.text ∧ a.list.length = b.list.length ∧ a.names = b.names
theorem ev_eqStrs (a b : List Bs) (ha : a.length ≤ 1048576) : ∃ r, Ev (fun k => m_slices_Equal_string_string k a b) r ∧ (r = true ↔ a = b) := by
  simp only [m_slices_Equal_string_string]
  by_cases hl : a.length = b.length
  · have loop : ∀ (d j : Nat), j + d = a.length → ∃ o, Ev (fun k => m_slices_Equal_string_string_l1 k a b j) o ∧ ((o = .go () ∧ ∀ i, j ≤ i → a[i]? = b[i]?) ∨ (o = .ret false ∧ a ≠ b)) := by
      intro d
      induction d with
      | zero =>
        intro j hj
        refine ⟨.go (), ?_, .inl ⟨rfl, fun i hi => by rw [List.getElem?_eq_none (by omega), List.getElem?_eq_none (by omega)]⟩⟩
        rw [ev_shift]; simp only [m_slices_Equal_string_string_l1]
        rw [evF (by omega)]; exact ev_some _
      | succ d ih =>
        intro j hj
        by_cases hx : ix a (j : Int) = ix b (j : Int)
        · obtain ⟨o, h1, h2⟩ := ih (j + 1) (by omega)
          refine ⟨o, ?_, ?_⟩
          · rw [ev_shift]; simp only [m_slices_Equal_string_string_l1]
            rw [evT (by omega), evT (by omega), evT (by omega), evT hx, wrap_id (by omega)]
            simpa using h1
          · rcases h2 with ⟨rfl, h3⟩ | h3
            · refine .inl ⟨rfl, fun i hi => ?_⟩
              rcases Nat.eq_or_lt_of_le hi with rfl | h
              · rw [ix_nat (by omega), ix_nat (by omega)] at hx
                rw [List.getElem?_eq_getElem (by omega), List.getElem?_eq_getElem (by omega), hx]
              · exact h3 i h
            · exact .inr h3
        · refine ⟨.ret false, ?_, .inr ⟨rfl, fun e => hx (by rw [e])⟩⟩
          rw [ev_shift]; simp only [m_slices_Equal_string_string_l1]
          rw [evT (by omega), evT (by omega), evT (by omega), evF hx]
          exact ev_some _
    obtain ⟨o, h1, h2⟩ := loop a.length 0 (by omega)
    have h1 : Ev (fun k => m_slices_Equal_string_string_l1 k a b 0) o := by simpa using h1
    rcases h2 with ⟨rfl, h3⟩ | ⟨rfl, h3⟩
    · refine ⟨true, by rw [evT (by omega)]; exact Ev.go h1 (ev_some _), ⟨fun _ => List.ext_getElem? fun i => h3 i (by omega), fun _ => rfl⟩⟩
    · exact ⟨false, by rw [evT (by omega)]; exact Ev.ret h1, ⟨fun h => (by cases h), fun h => absurd h h3⟩⟩
  · exact ⟨false, by rw [evF (by omega)]; exact ev_some _, ⟨fun h => (by cases h), fun h => absurd (congrArg List.length h) hl⟩⟩
theorem ev_sameTop (a b : Val) (ha : a.names.length ≤ 1048576) : ∃ r, Ev (fun k => m_impl_sameTop k a b) r ∧ (r = true ↔ topEq a b) := by
  simp only [m_impl_sameTop]
  unfold topEq
  by_cases h1 : a.kind = b.kind
  · by_cases h2 : a.num = b.num
    · by_cases h3 : a.text = b.text
      · by_cases h4 : a.list.length = b.list.length
        · obtain ⟨r, h5, h6⟩ := ev_eqStrs a.names b.names ha
          refine ⟨r, ?_, by simp [h1, h2, h3, h4, h6]⟩
          rw [evT h1, evT h2, evT h3, evT (by omega), evC h5]; exact ev_some _
        · exact ⟨false, by rw [evT h1, evT h2, evT h3, evF (by omega)]; exact ev_some _, by simp [h4]⟩
      · exact ⟨false, by rw [evT h1, evT h2, evF h3]; exact ev_some _, by simp [h3]⟩
    · exact ⟨false, by rw [evT h1, evF h2]; exact ev_some _, by simp [h2]⟩
  · exact ⟨false, by rw [evF h1]; exact ev_some _, by simp [h1]⟩
theorem spanOf_eq (l : List Val) : m_impl_spanOf l = some l := by
  unfold m_impl_spanOf
  cases l with
  | nil => simp
  | cons v l => rw [if_neg (by simp only [List.length_cons]; omega), if_pos (by simp)]

mutual
def szN : Val → Nat
  | .mk _ _ _ l _ => 1 + szNs l
def szNs : List Val → Nat
  | [] => 0
  | v :: l => szN v + szNs l
end
theorem szN_eq (v : Val) : szN v = 1 + szNs v.list := by cases v; simp [szN, Val.list_mk]
theorem szNs_mem {v : Val} : ∀ {l : List Val}, v ∈ l → szN v ≤ szNs l
  | x :: l, h => by
    simp only [szNs]
    rcases List.mem_cons.1 h with rfl | h
    · omega
    · have := szNs_mem h; omega
theorem szNs_len : ∀ (l : List Val), l.length ≤ szNs l
  | [] => by simp [szNs]
  | v :: l => by have := szNs_len l; have := szN_eq v; simp only [szNs, List.length_cons]; omega
theorem szNs_app : ∀ (a b : List Val), szNs (a ++ b) = szNs a + szNs b
  | [], b => by simp [szNs]
  | v :: a, b => by simp only [List.cons_append, szNs, szNs_app a b]; omega
/-- How much there is to do. -/
def toDo (l : List GPair) : Nat := szNs (l.map GPair.one)
/-- What was met leads to what is to be done, or to what was met. -/
def Inv (seen : List (List Val × List Val)) (todo : List GPair) : Prop :=
  ∀ p ∈ seen, p.1.length = p.2.length ∧ ∀ (i : Nat) x y, p.1[i]? = some x → p.2[i]? = some y → (⟨x, y⟩ : GPair) ∈ todo ∨ (topEq x y ∧ (x.list = [] ∨ (x.list, y.list) ∈ seen))
theorem seen_same {seen : List (List Val × List Val)} {todo : List GPair} (hI : Inv seen todo) (ht : ∀ p ∈ todo, p.one = p.other) : ∀ (n : Nat) (l l' : List Val), szNs l < n → (l, l') ∈ seen → l = l'
  | 0, l, l', hn, h => by omega
  | n + 1, l, l', hn, h => by
    obtain ⟨hl, hc⟩ := hI _ h
    have hl : l.length = l'.length := hl
    apply List.ext_getElem hl
    intro i hi hi'
    have h1 : l[i]? = some l[i] := List.getElem?_eq_getElem hi
    have h2 : l'[i]? = some l'[i] := List.getElem?_eq_getElem hi'
    have hs := szNs_mem (List.getElem_mem hi)
    have he := szN_eq l[i]
    rcases hc i _ _ h1 h2 with h3 | ⟨⟨t1, t2, t3, t4, t5⟩, h4⟩
    · exact ht _ h3
    · refine Val.ext' t1 t2 t3 ?_ t5
      rcases h4 with h4 | h4
      · rw [h4] at t4 ⊢
        exact (List.eq_nil_of_length_eq_zero (by simpa using t4.symm)).symm
      · exact seen_same hI ht n _ _ (by omega) h4
def allSame (l : List GPair) : Prop := ∀ p ∈ l, p.one = p.other
noncomputable def resS (l : List GPair) : Lp Unit Bool := @ite _ (allSame l) (Classical.propDecidable _) (.go ()) (.ret false)
theorem resS_congr {a b : List GPair} (h : allSame a ↔ allSame b) : resS a = resS b := by
  unfold resS
  by_cases ha : allSame a
  · rw [if_pos ha, if_pos (h.1 ha)]
  · rw [if_neg ha, if_neg (fun hb => ha (h.2 hb))]
def kids (l l' : List Val) : List GPair := (l.zip l').map fun p => ⟨p.1, p.2⟩
theorem kids_mem {l l' : List Val} {i : Nat} {x y : Val} (h : l[i]? = some x) (h' : l'[i]? = some y) : (⟨x, y⟩ : GPair) ∈ kids l l' := by
  unfold kids
  have : (l.zip l')[i]? = some (x, y) := by rw [List.getElem?_zip_eq_some]; exact ⟨h, h'⟩
  exact List.mem_map.2 ⟨(x, y), List.mem_of_getElem? this, rfl⟩
theorem kids_same {l l' : List Val} (hl : l.length = l'.length) : allSame (kids l l') ↔ l = l' := by
  constructor
  · intro h
    apply List.ext_getElem hl
    intro i hi hi'
    exact h _ (kids_mem (List.getElem?_eq_getElem hi) (List.getElem?_eq_getElem hi'))
  · rintro rfl p hp
    unfold kids at hp
    obtain ⟨q, hq, rfl⟩ := List.mem_map.1 hp
    obtain ⟨i, hi⟩ := List.getElem?_of_mem hq
    rw [List.getElem?_zip_eq_some] at hi
    exact Option.some.inj (hi.1.symm.trans hi.2)
theorem kids_one {l l' : List Val} (hl : l.length = l'.length) : (kids l l').map GPair.one = l := by
  unfold kids
  rw [List.map_map]
  exact List.map_fst_zip (by omega)
theorem allSame_app {a b : List GPair} : allSame (a ++ b) ↔ allSame a ∧ allSame b := by
  unfold allSame
  constructor
  · exact fun h => ⟨fun p hp => h p (List.mem_append_left _ hp), fun p hp => h p (List.mem_append_right _ hp)⟩
  · rintro ⟨h1, h2⟩ p hp
    rcases List.mem_append.1 hp with h | h
    · exact h1 p h
    · exact h2 p h
theorem take_init {α : Type} [Inhabited α] (rest : List α) (p : α) (h : rest.length ≤ 1000000000) : ix (rest ++ [p]) (IntKind.wrap .i64 (((rest ++ [p]).length : Int) - 1)) = p ∧ (rest ++ [p]).take (Int.toNat (IntKind.wrap .i64 (((rest ++ [p]).length : Int) - 1))) = rest ∧ IntKind.wrap .i64 (((rest ++ [p]).length : Int) - 1) = (rest.length : Int) := by
  have hl : ((rest ++ [p]).length : Int) - 1 = (rest.length : Int) := by simp
  rw [hl, wrap_id (by omega)]
  refine ⟨?_, by simp, rfl⟩
  rw [ix_nat (by simp)]
  simp
theorem we_kids (L : Nat → List GPair → List GPair → Int → W (Lp (List GPair) (Lp Unit Bool))) (td : List GPair) (l l' : List Val) (hl : l.length = l'.length)
    (hs : ∀ (j : Nat) (x : List GPair) r, (h : j < l.length) → (h' : j < l'.length) → (x ++ [(⟨l[j], l'[j]⟩ : GPair)]).length * 160 ≤ 140737488355328 → WEv (fun k => L k td (x ++ [⟨l[j], l'[j]⟩]) ((j : Int) + 1)) r → WEv (fun k => L k td x j) r)
    (he : ∀ x, WEv (fun k => L k td x l.length) (.go x)) : ∀ (d j : Nat) (x : List GPair), j + d = l.length → x.length + d ≤ 800000000000 → WEv (fun k => L k td x j) (.go (x ++ kids (l.drop j) (l'.drop j)))
  | 0, j, x, hj, hx => by
    have := he x
    have h1 : l.drop j = [] := List.drop_of_length_le (by omega)
    rw [h1]
    rw [show l.length = j by omega] at this
    exact we_eq this (by simp [kids])
  | d + 1, j, x, hj, hx => by
    refine hs j x _ (by omega) (by omega) (by simp only [List.length_append, List.length_cons, List.length_nil]; omega) ?_
    have ih := we_kids L td l l' hl hs he d (j + 1) (x ++ [⟨l[j], l'[j]⟩]) (by omega) (by simp only [List.length_append, List.length_cons, List.length_nil]; omega)
    have h1 : l.drop j = l[j] :: l.drop (j + 1) := List.drop_eq_getElem_cons (by omega)
    have h2 : l'.drop j = l'[j] :: l'.drop (j + 1) := List.drop_eq_getElem_cons (by omega)
    rw [h1, h2]
    refine we_eq (by simpa using ih) ?_
    simp only [kids, List.zip_cons_cons, List.map_cons, List.append_assoc, List.cons_append, List.nil_append]
theorem we_kids2 (rest : List GPair) (p : GPair) (hr : rest.length ≤ 1000000000) (hl : p.one.list.length = p.other.list.length) (hb : p.one.list.length ≤ 1000000000) : WEv (fun k => w_impl_ValueSame_l2 k (rest ++ [p]) rest 0) (.go (rest ++ kids p.one.list p.other.list)) := by
  obtain ⟨e1, e2, e3⟩ := take_init rest p hr
  have := we_kids (fun k => w_impl_ValueSame_l2 k) (rest ++ [p]) p.one.list p.other.list hl (fun j x r h h' hx hr => by
    rw [we_shift]; simp only [w_impl_ValueSame_l2, e1]
    rw [weT (by omega), weT (by omega), weT (by omega), ix_nat h, ix_nat h', weT hx, wrap_id (by omega)]
    exact hr) (fun x => by
    rw [we_shift]; simp only [w_impl_ValueSame_l2, e1]
    rw [weF (by omega)]; exact we_pw _) p.one.list.length 0 rest (by omega) (by omega)
  simpa using this
theorem we_kids3 (rest : List GPair) (p : GPair) (hr : rest.length ≤ 1000000000) (hl : p.one.list.length = p.other.list.length) (hb : p.one.list.length ≤ 1000000000) : WEv (fun k => w_impl_ValueSame_l3 k (rest ++ [p]) rest 0) (.go (rest ++ kids p.one.list p.other.list)) := by
  obtain ⟨e1, e2, e3⟩ := take_init rest p hr
  have := we_kids (fun k => w_impl_ValueSame_l3 k) (rest ++ [p]) p.one.list p.other.list hl (fun j x r h h' hx hr => by
    rw [we_shift]; simp only [w_impl_ValueSame_l3, e1]
    rw [weT (by omega), weT (by omega), weT (by omega), ix_nat h, ix_nat h', weT hx, wrap_id (by omega)]
    exact hr) (fun x => by
    rw [we_shift]; simp only [w_impl_ValueSame_l3, e1]
    rw [weF (by omega)]; exact we_pw _) p.one.list.length 0 rest (by omega) (by omega)
  simpa using this
theorem toDo_len (l : List GPair) : l.length ≤ toDo l := by
  have := szNs_len (l.map GPair.one); simpa [toDo] using this

theorem we_same : ∀ (n : Nat) (todo : List GPair) (seen : List (List Val × List Val)), toDo todo < n → n ≤ 1000000000 → (∀ p ∈ todo, Bd 1048576 p.one) → Inv seen todo → WEv (fun k => w_impl_ValueSame_l1 k seen todo) (resS todo)
  | 0, todo, seen, hn, hn2, hb, hI => by omega
  | n + 1, todo, seen, hn, hn2, hb, hI => by
    rcases List.eq_nil_or_concat todo with rfl | ⟨rest, p, rfl⟩
    · rw [we_shift]; simp only [w_impl_ValueSame_l1]
      rw [weF (by simp)]
      refine we_eq (we_pw _) ?_
      unfold resS
      rw [if_pos (show allSame [] from fun p hp => by cases hp)]
    · rw [List.concat_eq_append] at hn hb hI ⊢
      have htl := toDo_len (rest ++ [p])
      have htd : toDo (rest ++ [p]) = toDo rest + szN p.one := by simp [toDo, szNs_app, szNs]
      have hsz := szN_eq p.one
      have hll := szNs_len p.one.list
      simp only [List.length_append, List.length_cons, List.length_nil] at htl
      obtain ⟨e1, e2, e3⟩ := take_init rest p (by omega)
      have hbr : ∀ q ∈ rest, Bd 1048576 q.one := fun q hq => hb q (List.mem_append_left _ hq)
      have hbp : Bd 1048576 p.one := hb p (by simp)
      have hlen : ((rest ++ [p]).length : Int) = rest.length + 1 := by simp
      rw [we_shift]; simp only [w_impl_ValueSame_l1, e1, e2]
      rw [e3, hlen, weT (by omega), weT (by omega), weT (by omega)]
      obtain ⟨b, hb1, hb2⟩ := ev_sameTop p.one p.other hbp.names
      refine we_cw hb1 ?_
      by_cases hte : topEq p.one p.other
      · have hbt : b = true := hb2.2 hte
        obtain ⟨t1, t2, t3, t4, t5⟩ := hte
        rw [weT hbt]
        have psame : p.one = p.other ↔ p.one.list = p.other.list := ⟨fun h => by rw [h], fun h => Val.ext' t1 t2 t3 h t5⟩
        have happ : allSame (rest ++ [p]) ↔ allSame rest ∧ p.one = p.other := by
          rw [allSame_app]
          exact and_congr_right fun _ => ⟨fun h => h p (by simp), fun h q hq => by simp only [List.mem_cons, List.not_mem_nil, or_false] at hq; rw [hq]; exact h⟩
        by_cases h0 : p.one.list = []
        · have hp : p.one = p.other := psame.2 (by rw [h0] at t4 ⊢; exact (List.eq_nil_of_length_eq_zero (by simpa using t4.symm)).symm)
          rw [weT (by simp [h0])]
          refine we_eq (we_same n rest seen (by omega) (by omega) hbr ?_) (resS_congr (happ.trans ⟨fun h => h.1, fun h => ⟨h, hp⟩⟩).symm)
          intro q hq
          refine ⟨(hI q hq).1, fun i x y h1 h2 => ?_⟩
          rcases (hI q hq).2 i x y h1 h2 with h | h
          · rcases List.mem_append.1 h with h | h
            · exact .inl h
            · simp only [List.mem_cons, List.not_mem_nil, or_false] at h
              subst h
              exact .inr ⟨⟨t1, t2, t3, t4, t5⟩, .inl h0⟩
          · exact .inr h
        · rw [weF (by intro h; exact h0 (List.eq_nil_of_length_eq_zero (by omega)))]
          refine we_cw (y := p.one.list) ⟨0, fun _ _ => spanOf_eq _⟩ (we_cw (y := p.other.list) ⟨0, fun _ _ => spanOf_eq _⟩ ?_)
          have hkd : toDo (rest ++ kids p.one.list p.other.list) < n := by
            unfold toDo
            rw [List.map_append, szNs_app, kids_one t4]
            unfold toDo at htd hn
            omega
          have hkb : ∀ q ∈ rest ++ kids p.one.list p.other.list, Bd 1048576 q.one := by
            intro q hq
            rcases List.mem_append.1 hq with h | h
            · exact hbr q h
            · have : q.one ∈ (kids p.one.list p.other.list).map GPair.one := List.mem_map.2 ⟨q, h, rfl⟩
              rw [kids_one t4] at this
              exact hbp.within _ this
          have hkr : resS (rest ++ kids p.one.list p.other.list) = resS (rest ++ [p]) := resS_congr (by rw [allSame_app, happ, psame, kids_same t4])
          have more : ∀ seen', (∀ q ∈ seen, q ∈ seen') → (∀ q ∈ seen', q ∈ seen ∨ q = (p.one.list, p.other.list)) → (p.one.list, p.other.list) ∈ seen' → Inv seen' (rest ++ kids p.one.list p.other.list) := by
            intro seen' h1 h2 h3 q hq
            rcases h2 q hq with h | rfl
            · refine ⟨(hI q h).1, fun i x y g1 g2 => ?_⟩
              rcases (hI q h).2 i x y g1 g2 with g | ⟨g3, g4⟩
              · rcases List.mem_append.1 g with g | g
                · exact .inl (List.mem_append_left _ g)
                · simp only [List.mem_cons, List.not_mem_nil, or_false] at g
                  subst g
                  exact .inr ⟨⟨t1, t2, t3, t4, t5⟩, .inr h3⟩
              · exact .inr ⟨g3, g4.imp_right (h1 _)⟩
            · exact ⟨t4, fun i x y g1 g2 => .inl (List.mem_append_right _ (kids_mem g1 g2))⟩
          refine we_lk (we_lk ?_ ?_) ?_
          · refine we_go (we_kids2 rest p (by omega) t4 (by omega)) (we_eq (we_same n _ _ hkd (by omega) hkb (more _ (fun q hq => List.mem_append_left _ hq) (fun q hq => ?_) (by simp))) hkr)
            rcases List.mem_append.1 hq with h | h
            · exact .inl h
            · exact .inr (by simpa using h)
          · intro hm
            exact we_go (we_kids3 rest p (by omega) t4 (by omega)) (we_eq (we_same n _ _ hkd (by omega) hkb (more seen (fun q hq => hq) (fun q hq => .inl hq) hm)) hkr)
          · intro hm
            have hI' : Inv seen rest := by
              intro q hq
              refine ⟨(hI q hq).1, fun i x y h1 h2 => ?_⟩
              rcases (hI q hq).2 i x y h1 h2 with h | h
              · rcases List.mem_append.1 h with h | h
                · exact .inl h
                · simp only [List.mem_cons, List.not_mem_nil, or_false] at h
                  subst h
                  exact .inr ⟨⟨t1, t2, t3, t4, t5⟩, .inr hm⟩
              · exact .inr h
            refine we_eq (we_same n rest seen (by omega) (by omega) hbr hI') (resS_congr (happ.trans ⟨fun h => h.1, fun h => ⟨h, ?_⟩⟩).symm)
            exact psame.2 (seen_same hI' h _ _ _ (Nat.lt_succ_self _) hm)
      · have hbf : ¬ b = true := fun h => hte (hb2.1 h)
        rw [weF hbf]
        refine we_eq (we_rtw (we_pw false)) ?_
        unfold resS
        rw [if_neg]
        intro h
        have := h p (by simp)
        exact hte ⟨by rw [this], by rw [this], by rw [this], by rw [this], by rw [this]⟩
theorem we_ValueSame (a b : Val) (ha : Bd 1048576 a) (hs : szN a < 900000000) : WEv (fun k => w_impl_ValueSame k a b) (sameV a b) := by
  simp only [w_impl_ValueSame]
  have h := we_same (szN a + 1) [⟨a, b⟩] [] (by simp [toDo, szNs]) (by omega) (fun p hp => by simp only [List.mem_cons, List.not_mem_nil, or_false] at hp; subst hp; exact ha) (fun p hp => by cases hp)
  have e : allSame [⟨a, b⟩] ↔ a = b := ⟨fun h => h ⟨a, b⟩ (by simp), fun h p hp => by simp only [List.mem_cons, List.not_mem_nil, or_false] at hp; subst hp; exact h⟩
  by_cases hab : a = b
  · rw [show resS [⟨a, b⟩] = .go () from if_pos (e.2 hab)] at h
    rw [sameV_yes hab]
    exact we_go h (we_pw _)
  · rw [show resS [⟨a, b⟩] = .ret false from if_neg (fun h => hab (e.1 h))] at h
    rw [sameV_no hab]
    exact we_ret h
/-- What the program answers. -/
noncomputable def m_impl_ValueSame (k : Nat) (a b : Val) : Option Bool := @ite _ (w_impl_ValueSame k a b (fun x => x = sameV a b)) (Classical.propDecidable _) (some (sameV a b)) none
theorem ev_iSame (a b : Val) (ha : Bd 1048576 a) (hs : szN a < 900000000) : Ev (fun k => m_impl_ValueSame k a b) (sameV a b) := by
  obtain ⟨K, h⟩ := (we_ValueSame a b ha hs).get
  exact ⟨K, fun k hk => if_pos (h k hk)⟩
end Go.Proofs.Ytiaigcdckmpepaa
end
section
/-! The same values, by the reference. -/
set_option linter.unusedVariables false
set_option linter.unusedSimpArgs false
set_option linter.unnecessarySimpa false
namespace Go.Proofs.Ytiaigcdckmpepaa
open Go.Bb

theorem m_impl_ValueSame_ok (k : Nat) : ∀ (a0 : Val) (a1 : Val) (r : Bool), m_impl_ValueSame k a0 a1 = some r → Does Try.prog 18 [.agg [.int .i64 a0.kind, .int .i64 a0.num, .str a0.text, .sl true (a0.list.map encVal), .sl false (a0.names.map encS)], .agg [.int .i64 a1.kind, .int .i64 a1.num, .str a1.text, .sl true (a1.list.map encVal), .sl false (a1.names.map encS)]] [] (ret (.bool r)) := by
  intro a0 a1 r h
  unfold m_impl_ValueSame at h
  split at h
  · rename_i hw
    cases h
    exact w_impl_ValueSame_ok k a0 a1 _ hw
  · cases h
theorem names_l1 (a b : Val) (hn : a.names.length = b.names.length) (ha : a.names.length ≤ 1048576) : ∃ o, Ev (fun k => m_spec_l1Same_l1 k a b 0) o ∧ ((o = .go () ∧ a.names = b.names) ∨ (o = .ret false ∧ a.names ≠ b.names)) := by
  have loop : ∀ (d j : Nat), j + d = a.names.length → ∃ o, Ev (fun k => m_spec_l1Same_l1 k a b j) o ∧ ((o = .go () ∧ ∀ i, j ≤ i → a.names[i]? = b.names[i]?) ∨ (o = .ret false ∧ a.names ≠ b.names)) := by
    intro d
    induction d with
    | zero =>
      intro j hj
      refine ⟨.go (), ?_, .inl ⟨rfl, fun i hi => by rw [List.getElem?_eq_none (by omega), List.getElem?_eq_none (by omega)]⟩⟩
      rw [ev_shift]; simp only [m_spec_l1Same_l1]
      rw [evF (by omega)]; exact ev_some _
    | succ d ih =>
      intro j hj
      by_cases hx : ix a.names (j : Int) = ix b.names (j : Int)
      · obtain ⟨o, h1, h2⟩ := ih (j + 1) (by omega)
        refine ⟨o, ?_, ?_⟩
        · rw [ev_shift]; simp only [m_spec_l1Same_l1]
          rw [evT (by omega), evT (by omega), evT (by omega), evT hx, wrap_id (by omega)]
          simpa using h1
        · rcases h2 with ⟨rfl, h3⟩ | h3
          · refine .inl ⟨rfl, fun i hi => ?_⟩
            rcases Nat.eq_or_lt_of_le hi with rfl | h
            · rw [ix_nat (by omega), ix_nat (by omega)] at hx
              rw [List.getElem?_eq_getElem (by omega), List.getElem?_eq_getElem (by omega), hx]
            · exact h3 i h
          · exact .inr h3
      · refine ⟨.ret false, ?_, .inr ⟨rfl, fun e => hx (by rw [e])⟩⟩
        rw [ev_shift]; simp only [m_spec_l1Same_l1]
        rw [evT (by omega), evT (by omega), evT (by omega), evF hx]
        exact ev_some _
  obtain ⟨o, h1, h2⟩ := loop a.names.length 0 (by omega)
  refine ⟨o, by simpa using h1, ?_⟩
  rcases h2 with ⟨h, h3⟩ | h
  · exact .inl ⟨h, List.ext_getElem? fun i => h3 i (by omega)⟩
  · exact .inr h
theorem ev_sSame : ∀ a : Val, Bd 1048576 a → ∀ b : Val, Ev (fun k => m_spec_l1Same k a b) (sameV a b) := by
  apply Val.ind
  intro a ih ha b
  rw [ev_shift]; simp only [m_spec_l1Same]
  have fail : a ≠ b → ∀ m : Nat → Option (Lp Bool Bool), True := fun _ _ => trivial
  have no : a ≠ b → ∀ f : Nat → Bool → Option Bool, Ev (fun k => if true = true then some false else f k true) (sameV a b) := fun h f => by
    rw [evT rfl, sameV_no h]; exact ev_some _
  by_cases h1 : a.kind = b.kind
  · by_cases h2 : a.num = b.num
    · by_cases h3 : a.text = b.text
      · by_cases h4 : a.list.length = b.list.length
        · by_cases h5 : a.names.length = b.names.length
          · rw [evbT h1, evbT h2, evbT h3, evbT (by omega), evbS]
            simp only [thenG]
            rw [evF (by simp; omega)]
            obtain ⟨o, g1, g2⟩ := names_l1 a b h5 ha.names
            rcases g2 with ⟨rfl, g3⟩ | ⟨rfl, g3⟩
            · refine Ev.go g1 ?_
              have hal := ha.list
              have loop : ∀ (d j : Nat), j + d = a.list.length → ∃ o, Ev (fun k => m_spec_l1Same_l2 k a b j) o ∧ ((o = .go () ∧ ∀ i, j ≤ i → a.list[i]? = b.list[i]?) ∨ (o = .ret false ∧ a.list ≠ b.list)) := by
                intro d
                induction d with
                | zero =>
                  intro j hj
                  refine ⟨.go (), ?_, .inl ⟨rfl, fun i hi => by rw [List.getElem?_eq_none (by omega), List.getElem?_eq_none (by omega)]⟩⟩
                  rw [ev_shift]; simp only [m_spec_l1Same_l2]
                  rw [evF (by omega)]; exact ev_some _
                | succ d ihd =>
                  intro j hj
                  have hx := ih a.list[j] (List.getElem_mem (by omega)) (ha.within _ (List.getElem_mem (by omega))) b.list[j]
                  by_cases hxx : a.list[j] = b.list[j]
                  · obtain ⟨o, k1, k2⟩ := ihd (j + 1) (by omega)
                    refine ⟨o, ?_, ?_⟩
                    · rw [ev_shift]; simp only [m_spec_l1Same_l2]
                      rw [evT (by omega), evT (by omega), evT (by omega), ix_nat (by omega), ix_nat (by omega), evC hx, evT (sameV_yes hxx), wrap_id (by omega)]
                      simpa using k1
                    · rcases k2 with ⟨rfl, k3⟩ | k3
                      · refine .inl ⟨rfl, fun i hi => ?_⟩
                        rcases Nat.eq_or_lt_of_le hi with rfl | h
                        · rw [List.getElem?_eq_getElem (by omega), List.getElem?_eq_getElem (by omega), hxx]
                        · exact k3 i h
                      · exact .inr k3
                  · refine ⟨.ret false, ?_, .inr ⟨rfl, fun e => hxx (by simp only [e])⟩⟩
                    rw [ev_shift]; simp only [m_spec_l1Same_l2]
                    rw [evT (by omega), evT (by omega), evT (by omega), ix_nat (by omega), ix_nat (by omega), evC hx, evF (by rw [sameV_no hxx]; simp)]
                    exact ev_some _
              obtain ⟨o, k1, k2⟩ := loop a.list.length 0 (by omega)
              have k1 : Ev (fun k => m_spec_l1Same_l2 k a b 0) o := by simpa using k1
              rcases k2 with ⟨rfl, k3⟩ | ⟨rfl, k3⟩
              · rw [sameV_yes (Val.ext' h1 h2 h3 (List.ext_getElem? fun i => k3 i (by omega)) g3)]
                exact Ev.go k1 (ev_some _)
              · rw [sameV_no (fun e => k3 (by rw [e]))]
                exact Ev.ret k1
            · rw [sameV_no (fun e => g3 (by rw [e]))]
              exact Ev.ret g1
          · rw [evbT h1, evbT h2, evbT h3, evbT (by omega), evbS]
            simp only [thenG]
            rw [evT (by simp; omega), sameV_no (fun e => h5 (by rw [e]))]; exact ev_some _
        · rw [evbT h1, evbT h2, evbT h3, evbF (by omega), evbS]
          simp only [thenG]
          rw [evT trivial, sameV_no (fun e => h4 (by rw [e]))]; exact ev_some _
      · rw [evbT h1, evbT h2, evbF h3, evbS]
        simp only [thenG]
        rw [evT trivial, sameV_no (fun e => h3 (by rw [e]))]; exact ev_some _
    · rw [evbT h1, evbF h2, evbS]
      simp only [thenG]
      rw [evT trivial, sameV_no (fun e => h2 (by rw [e]))]; exact ev_some _
  · rw [evbF h1, evbS]
    simp only [thenG]
    rw [evT trivial, sameV_no (fun e => h1 (by rw [e]))]; exact ev_some _
theorem ev_sValueSame (a b : Val) (ha : Bd 1048576 a) : Ev (fun k => m_spec_ValueSame k a b) (sameV a b) := by
  simp only [m_spec_ValueSame]
  rw [evC (ev_sSame a ha b)]; exact ev_some _
end Go.Proofs.Ytiaigcdckmpepaa
end
section
/-! How deep a value is. -/
set_option linter.unusedVariables false
set_option linter.unusedSimpArgs false
set_option linter.unnecessarySimpa false
namespace Go.Proofs.Ytiaigcdckmpepaa
open Go.Bb

mutual
/-- How deep a value is; how deep the deepest of a list is. -/
def dpV : Val → Nat
  | .mk _ _ _ l _ => 1 + dpL l
def dpL : List Val → Nat
  | [] => 0
  | v :: l => max (dpV v) (dpL l)
end
theorem dpV_eq (v : Val) : dpV v = 1 + dpL v.list := by cases v; simp [dpV, Val.list_mk]
theorem dpL_mem {v : Val} : ∀ {l : List Val}, v ∈ l → dpV v ≤ dpL l
  | x :: l, h => by
    simp only [dpL]
    rcases List.mem_cons.1 h with rfl | h
    · omega
    · have := dpL_mem h; omega
theorem dpL_max : ∀ {l : List Val}, l ≠ [] → ∃ v ∈ l, dpV v = dpL l
  | [x], _ => ⟨x, by simp, by simp [dpL]⟩
  | x :: y :: l, _ => by
    obtain ⟨v, hv, e⟩ := dpL_max (l := y :: l) (by simp)
    by_cases h : dpV x ≤ dpL (y :: l)
    · exact ⟨v, List.mem_cons_of_mem _ hv, by rw [e]; show dpL (y :: l) = max (dpV x) (dpL (y :: l)); omega⟩
    · exact ⟨x, by simp, by show dpV x = max (dpV x) (dpL (y :: l)); omega⟩
mutual
theorem dpV_sz : ∀ v : Val, dpV v ≤ szN v
  | .mk _ _ _ l _ => by have := dpL_sz l; simp only [dpV, szN]; omega
theorem dpL_sz : ∀ l : List Val, dpL l ≤ szNs l
  | [] => by simp [dpL]
  | v :: l => by have := dpV_sz v; have := dpL_sz l; simp only [dpL, szNs]; omega
end
/-- The reference. -/
theorem ev_sDeep : ∀ v : Val, Bd 1048576 v → szN v ≤ 1000000000 → Ev (fun k => m_spec_ValueDeep k v) (dpV v : Int) := by
  apply Val.ind
  intro v ih hb hs
  have hl := hb.list
  have hse := szN_eq v
  have hd := dpL_sz v.list
  rw [ev_shift]; simp only [m_spec_ValueDeep]
  have loop : ∀ (d j : Nat) (x : Nat), j + d = v.list.length → x ≤ 1000000000 → Ev (fun k => m_spec_ValueDeep_l1 k v x j) (.go ((max x (dpL (v.list.drop j)) : Nat) : Int)) := by
    intro d
    induction d with
    | zero =>
      intro j x hj hx
      rw [ev_shift]; simp only [m_spec_ValueDeep_l1]
      rw [evF (by omega), List.drop_of_length_le (by omega)]
      exact ev_eq (ev_some _) (by simp [dpL])
    | succ d ihd =>
      intro j x hj hx
      have hm : v.list[j] ∈ v.list := List.getElem_mem (by omega)
      have h1 := szNs_mem hm
      have h2 := dpV_sz v.list[j]
      have hx1 := ih _ hm (hb.within _ hm) (by omega)
      rw [ev_shift]; simp only [m_spec_ValueDeep_l1]
      rw [evT (by omega), evT (by omega), ix_nat (by omega), evC hx1, wrap_id (by omega)]
      have e : v.list.drop j = v.list[j] :: v.list.drop (j + 1) := List.drop_eq_getElem_cons (by omega)
      rw [e]
      show Ev _ (Lp.go ((max x (max (dpV v.list[j]) (dpL (v.list.drop (j + 1)))) : Nat) : Int))
      by_cases hc : x < dpV v.list[j]
      · rw [evT (by omega)]
        have := ihd (j + 1) (dpV v.list[j]) (by omega) (by omega)
        rw [show max x (max (dpV v.list[j]) (dpL (v.list.drop (j + 1)))) = max (dpV v.list[j]) (dpL (v.list.drop (j + 1))) by omega]
        simpa using this
      · rw [evF (by omega)]
        have := ihd (j + 1) x (by omega) (by omega)
        rw [show max x (max (dpV v.list[j]) (dpL (v.list.drop (j + 1)))) = max x (dpL (v.list.drop (j + 1))) by omega]
        simpa using this
  have := loop v.list.length 0 0 (by omega) (by omega)
  refine Ev.go (s := (dpL v.list : Int)) (by simpa using this) ?_
  rw [wrap_id (by omega), dpV_eq]
  exact ev_eq (ev_some _) (by omega)

/-- So many heights, so many lists. -/
theorem pigeon {α : Type} (f : α → Nat) : ∀ (n : Nat) (l : List α) (a : Nat), (∀ h, a ≤ h → h < a + n → ∃ x ∈ l, f x = h) → n ≤ l.length
  | 0, l, a, h => Nat.zero_le _
  | n + 1, l, a, h => by
    obtain ⟨x, hx, hf⟩ := h (a + n) (by omega) (by omega)
    have ih := pigeon f n (l.filter fun y => decide (f y ≠ a + n)) a (fun h' h1 h2 => by
      obtain ⟨y, hy, e⟩ := h h' h1 (by omega)
      exact ⟨y, List.mem_filter.2 ⟨hy, by simp; omega⟩, e⟩)
    have hlt : (l.filter fun y => decide (f y ≠ a + n)).length < l.length := by
      rcases Nat.lt_or_ge (l.filter fun y => decide (f y ≠ a + n)).length l.length with h | h
      · exact h
      · have e := List.length_filter_eq_length_iff.1 (Nat.le_antisymm (List.length_filter_le _ _) h) x hx
        simp [hf] at e
    omega
/-- The deepest of a level; how much is within a level. -/
def dpLL : List (List Val) → Nat
  | [] => 0
  | l :: r => max (dpL l) (dpLL r)
def szLL : List (List Val) → Nat
  | [] => 0
  | l :: r => szNs l + szLL r
theorem dpLL_mem {l : List Val} : ∀ {r : List (List Val)}, l ∈ r → dpL l ≤ dpLL r
  | x :: r, h => by
    simp only [dpLL]
    rcases List.mem_cons.1 h with rfl | h
    · omega
    · have := dpLL_mem h; omega
theorem dpLL_max : ∀ {r : List (List Val)}, r ≠ [] → ∃ l ∈ r, dpL l = dpLL r
  | [x], _ => ⟨x, by simp, by simp [dpLL]⟩
  | x :: y :: r, _ => by
    obtain ⟨v, hv, e⟩ := dpLL_max (r := y :: r) (by simp)
    by_cases h : dpL x ≤ dpLL (y :: r)
    · exact ⟨v, List.mem_cons_of_mem _ hv, by rw [e]; show dpLL (y :: r) = max (dpL x) (dpLL (y :: r)); omega⟩
    · exact ⟨x, by simp, by show dpL x = max (dpL x) (dpLL (y :: r)); omega⟩
theorem szLL_app : ∀ (a b : List (List Val)), szLL (a ++ b) = szLL a + szLL b
  | [], b => by simp [szLL]
  | l :: a, b => by simp only [List.cons_append, szLL, szLL_app a b]; omega
theorem szLL_mem {l : List Val} : ∀ {r : List (List Val)}, l ∈ r → szNs l ≤ szLL r
  | x :: r, h => by
    simp only [szLL]
    rcases List.mem_cons.1 h with rfl | h
    · omega
    · have := szLL_mem h; omega

/-- What a loop has done: the lists within, those that are not empty, are in the next level; and all of that level are among all. -/
structure Done (done : List Val) (all0 all met next : List (List Val)) : Prop where
  keep : ∀ x ∈ all0, x ∈ all
  led : ∀ x ∈ next, x ∈ all
  met : ∀ x ∈ met, x ∈ next
  full : ∀ v ∈ done, v.list ≠ [] → v.list ∈ next
  only : ∀ x ∈ next, x ≠ [] ∧ ∃ v ∈ done, v.list = x
  size : szLL next ≤ szNs done ∧ szLL next + next.length ≤ szNs done
/-- Every outcome is as P says, once the fuel is so much. -/
def WP {R : Type} (m : W R) (P : R → Prop) : Prop := ∀ q : R → Prop, (∀ r, P r → q r) → m q
section
variable {R S Y : Type}
theorem wp_pw {r : R} {P : R → Prop} (h : P r) : WP (pw r) P := fun q hq => hq r h
theorem wp_cw {c : Option Y} {f : Y → W R} {y : Y} {P : R → Prop} (h : c = some y) (h2 : WP (f y) P) : WP (cw c f) P := fun q hq => ⟨y, h, h2 q hq⟩
theorem wp_lk {c : Prop} {a b : W R} {P : R → Prop} (hb : WP b P) (ha : c → WP a P) : WP (lk c a b) P := fun q hq => ⟨hb q hq, fun h => ha h q hq⟩
theorem wp_tw {m : W (Lp S R)} {f : S → W R} {P : R → Prop} (h : WP m fun o => match o with | .go s => WP (f s) P | .ret z => P z) : WP (tw m f) P := fun q hq => h _ fun o ho => by
  cases o with
  | go s => exact ho q hq
  | ret z => exact hq z ho
theorem wp_rtw {m : W R} {P : Lp S R → Prop} (h : WP m fun z => P (.ret z)) : WP (rtw m) P := fun q hq => h _ fun z hz => hq _ hz
theorem wpT {c : Prop} [Decidable c] {a b : W R} {P : R → Prop} (hc : c) : WP (if c then a else b) P ↔ WP a P := by rw [if_pos hc]
theorem wpF {c : Prop} [Decidable c] {a b : W R} {P : R → Prop} (hc : ¬ c) : WP (if c then a else b) P ↔ WP b P := by rw [if_neg hc]
end

theorem Done.skip {done : List Val} {all0 all met next : List (List Val)} (h : Done done all0 all met next) {v : Val} (hv : v.list = [] ∨ v.list ∈ met) : Done (done ++ [v]) all0 all met next where
  keep := h.keep
  led := h.led
  met := h.met
  full := fun x hx hn => by
    rcases List.mem_append.1 hx with g | g
    · exact h.full x g hn
    · simp only [List.mem_cons, List.not_mem_nil, or_false] at g
      subst g
      rcases hv with e | e
      · exact absurd e hn
      · exact h.met _ e
  only := fun x hx => ⟨(h.only x hx).1, let ⟨v, g1, g2⟩ := (h.only x hx).2; ⟨v, List.mem_append_left _ g1, g2⟩⟩
  size := by have := h.size; rw [szNs_app]; omega
theorem Done.add {done : List Val} {all0 all met next : List (List Val)} (h : Done done all0 all met next) {v : Val} (hv : v.list ≠ []) {all' met' : List (List Val)} (ha : all' = all ++ [v.list] ∨ (all' = all ∧ v.list ∈ all)) (hm : met' = met ++ [v.list] ∨ met' = met) : Done (done ++ [v]) all0 all' met' (next ++ [v.list]) where
  keep := fun x hx => by
    rcases ha with e | ⟨e, _⟩
    · rw [e]; exact List.mem_append_left _ (h.keep x hx)
    · rw [e]; exact h.keep x hx
  led := fun x hx => by
    have hva : v.list ∈ all' := by
      rcases ha with e | ⟨e, g⟩
      · rw [e]; simp
      · rw [e]; exact g
    rcases List.mem_append.1 hx with g | g
    · rcases ha with e | ⟨e, _⟩
      · rw [e]; exact List.mem_append_left _ (h.led x g)
      · rw [e]; exact h.led x g
    · simp only [List.mem_cons, List.not_mem_nil, or_false] at g
      rw [g]; exact hva
  met := fun x hx => by
    rcases hm with e | e
    · rw [e] at hx
      rcases List.mem_append.1 hx with g | g
      · exact List.mem_append_left _ (h.met x g)
      · exact List.mem_append_right _ g
    · rw [e] at hx; exact List.mem_append_left _ (h.met x hx)
  full := fun x hx hn => by
    rcases List.mem_append.1 hx with g | g
    · exact List.mem_append_left _ (h.full x g hn)
    · simp only [List.mem_cons, List.not_mem_nil, or_false] at g
      subst g; exact List.mem_append_right _ List.mem_cons_self
  only := fun x hx => by
    rcases List.mem_append.1 hx with g | g
    · exact ⟨(h.only x g).1, let ⟨v, g1, g2⟩ := (h.only x g).2; ⟨v, List.mem_append_left _ g1, g2⟩⟩
    · simp only [List.mem_cons, List.not_mem_nil, or_false] at g
      subst g
      exact ⟨hv, v, by simp, rfl⟩
  size := by
    have := h.size
    have e := szN_eq v
    rw [szNs_app, szLL_app]
    simp only [szNs, szLL, List.length_append, List.length_cons, List.length_nil]
    omega
abbrev LL := List (List Val)
theorem l3_wp (x3 : LL) (i : Nat) (hi : i < x3.length) (all0 : LL) (done0 : List Val) (hN : szNs (done0 ++ x3[i]) ≤ 1000000000) : ∀ (d j : Nat) (all met next : LL) (k : Nat), j + d = x3[i].length → Done (done0 ++ x3[i].take j) all0 all met next → d + 1 ≤ k →
    WP (w_impl_ValueDeep_l3 k x3 (i : Int) all met next (j : Int)) (fun o => ∃ all' met' next', o = .go (all', met', next') ∧ Done (done0 ++ x3[i]) all0 all' met' next')
  | d, j, all, met, next, 0, hj, hD, hk => by omega
  | 0, j, all, met, next, k + 1, hj, hD, hk => by
    simp only [w_impl_ValueDeep_l3, ix_nat hi]
    rw [wpF (by omega)]
    refine wp_pw ⟨all, met, next, rfl, ?_⟩
    rwa [List.take_of_length_le (by omega)] at hD
  | d + 1, j, all, met, next, k + 1, hj, hD, hk => by
    have hjl : j < x3[i].length := by omega
    have hN1 : szNs done0 + szNs x3[i] ≤ 1000000000 := by rw [szNs_app] at hN; exact hN
    have hlen := szNs_len x3[i]
    have htk : x3[i].take (j + 1) = x3[i].take j ++ [x3[i][j]] := by rw [List.take_succ_eq_append_getElem hjl]
    have hmem : x3[i][j] ∈ x3[i] := List.getElem_mem hjl
    have hsm := szNs_mem hmem
    have hdn : szNs (done0 ++ x3[i].take j) ≤ 1000000000 := by
      have : szNs (x3[i].take j) + szNs (x3[i].drop j) = szNs x3[i] := by rw [← szNs_app, List.take_append_drop]
      rw [szNs_app]; omega
    have hnl : next.length ≤ 1000000000 := by have := hD.size; omega
    have ih := fun all' met' next' (h : Done (done0 ++ x3[i].take (j + 1)) all0 all' met' next') => l3_wp x3 i hi all0 done0 hN d (j + 1) all' met' next' k (by omega) h (by omega)
    have hw : IntKind.wrap .i64 ((j : Int) + 1) = ((j + 1 : Nat) : Int) := by rw [wrap_id (by omega)]; simp
    simp only [w_impl_ValueDeep_l3, ix_nat hi, ix_nat hjl, hw]
    rw [wpT (by omega), wpT (by omega)]
    refine wp_cw (spanOf_eq _) ?_
    generalize hv : x3[i][j] = v at htk hsm hmem
    rw [htk, ← List.append_assoc] at ih
    refine wp_lk ?_ ?_
    · refine wp_tw (wp_pw ?_)
      by_cases h0 : v.list = []
      · simp only [h0, List.length_nil]
        rw [wpT (by simp)]
        exact ih _ _ _ (hD.skip (.inl h0))
      · have hl0 : ¬ (v.list.length : Int) = 0 := fun h => h0 (List.eq_nil_of_length_eq_zero (by omega))
        simp only
        rw [wpF (by simpa using hl0)]
        have h24 : (next ++ [v.list]).length * 24 ≤ 140737488355328 := by simp only [List.length_append, List.length_cons, List.length_nil]; omega
        refine wp_lk (wp_lk ?_ ?_) (fun hm => wp_lk ?_ ?_)
        · rw [wpT h24]; exact ih _ _ _ (hD.add h0 (.inl rfl) (.inl rfl))
        · intro ha; rw [wpT h24]; exact ih _ _ _ (hD.add h0 (.inr ⟨rfl, ha⟩) (.inl rfl))
        · rw [wpT h24]; exact ih _ _ _ (hD.add h0 (.inl rfl) (.inr rfl))
        · intro ha; rw [wpT h24]; exact ih _ _ _ (hD.add h0 (.inr ⟨rfl, ha⟩) (.inr rfl))
    · intro hm
      refine wp_tw (wp_pw ?_)
      simp only
      rw [wpT trivial]
      exact ih _ _ _ (hD.skip (.inr hm))
theorem szNs_flat : ∀ (l : LL), szNs l.flatten = szLL l
  | [] => rfl
  | x :: l => by rw [List.flatten_cons, szNs_app, szNs_flat l]; rfl
theorem l2_wp (x3 : LL) (all0 : LL) (hN : szLL x3 ≤ 1000000000) (hxl : x3.length ≤ 1000000000) : ∀ (d i : Nat) (all met next : LL) (k : Nat), i + d = x3.length → Done (x3.take i).flatten all0 all met next → d + szLL x3 + 2 ≤ k →
    WP (w_impl_ValueDeep_l2 k x3 all met next (i : Int)) (fun o => ∃ all' next', o = .go (all', next') ∧ ∃ met', Done x3.flatten all0 all' met' next')
  | d, i, all, met, next, 0, hi, hD, hk => by omega
  | 0, i, all, met, next, k + 1, hi, hD, hk => by
    simp only [w_impl_ValueDeep_l2]
    rw [wpF (by omega)]
    refine wp_pw ⟨all, next, rfl, met, ?_⟩
    rwa [List.take_of_length_le (by omega)] at hD
  | d + 1, i, all, met, next, k + 1, hi, hD, hk => by
    have hil : i < x3.length := by omega
    have htk : (x3.take (i + 1)).flatten = (x3.take i).flatten ++ x3[i] := by rw [List.take_succ_eq_append_getElem hil, List.flatten_append]; simp
    have hm : x3[i] ∈ x3 := List.getElem_mem hil
    have h1 := szLL_mem hm
    have h2 := szNs_len x3[i]
    have hs : szNs ((x3.take i).flatten ++ x3[i]) ≤ 1000000000 := by
      rw [← htk, szNs_flat]
      have : szLL (x3.take (i + 1)) + szLL (x3.drop (i + 1)) = szLL x3 := by rw [← szLL_app, List.take_append_drop]
      omega
    simp only [w_impl_ValueDeep_l2]
    rw [wpT (by omega), wpT (by omega), wrap_id (by omega)]
    refine wp_tw ?_
    intro q hq
    refine l3_wp x3 i hil all0 (x3.take i).flatten hs x3[i].length 0 all met next k (by omega) (by simpa using hD) (by omega) q ?_
    rintro o ⟨all', met', next', rfl, hD'⟩
    refine hq _ ?_
    rw [← htk] at hD'
    have := l2_wp x3 all0 hN hxl d (i + 1) all' met' next' k (by omega) hD' (by omega)
    simpa using this
theorem len_szLL : ∀ (x3 : LL), (∀ l ∈ x3, l ≠ []) → x3.length ≤ szLL x3
  | [], _ => by simp
  | l :: r, h => by
    have h1 := len_szLL r (fun x hx => h x (List.mem_cons_of_mem _ hx))
    have h2 := szNs_len l
    have h3 := List.length_pos_iff.2 (h l List.mem_cons_self)
    simp only [szLL, List.length_cons]; omega
theorem deep_step {x3 all0 all' met' next : LL} (hne : x3 ≠ []) (hln : ∀ l ∈ x3, l ≠ []) (hD : Done x3.flatten all0 all' met' next) : dpLL x3 = 1 + dpLL next := by
  obtain ⟨l, hl, e⟩ := dpLL_max hne
  obtain ⟨v, hv, e2⟩ := dpL_max (hln l hl)
  have e3 := dpV_eq v
  have h1 : dpLL x3 ≤ 1 + dpLL next := by
    by_cases h0 : v.list = []
    · rw [h0] at e3
      simp only [dpL] at e3
      omega
    · have := dpLL_mem (hD.full v (List.mem_flatten.2 ⟨l, hl, hv⟩) h0)
      omega
  have h2 : 1 + dpLL next ≤ dpLL x3 := by
    by_cases hn : next = []
    · rw [hn]; simp only [dpLL]; omega
    · obtain ⟨x, hx, ex⟩ := dpLL_max hn
      obtain ⟨_, u, hu, eu⟩ := hD.only x hx
      obtain ⟨l2, hl2, hu2⟩ := List.mem_flatten.1 hu
      have g1 := dpL_mem hu2
      have g2 := dpLL_mem hl2
      have g3 := dpV_eq u
      rw [eu] at g3
      omega
  omega
theorem l1_wp : ∀ (h : Nat) (x3 all : LL) (x1 k : Nat), dpLL x3 = h → (∀ l ∈ x3, l ≠ []) → x1 + h ≤ 1000000000 → szLL x3 ≤ 1000000000 → (x3 ≠ [] → ∀ g, dpLL x3 ≤ g → g < x1 + dpLL x3 → ∃ l ∈ all, dpL l = g) → h + 2 * szLL x3 + 5 ≤ k →
    WP (w_impl_ValueDeep_l1 k (x1 : Int) all x3) (fun o => o = .go ((x1 + h : Nat) : Int))
  | h, x3, all, x1, 0, e, hln, hb, hs, hc, hk => by omega
  | h, x3, all, x1, k + 1, e, hln, hb, hs, hc, hk => by
    simp only [w_impl_ValueDeep_l1]
    by_cases hne : x3 = []
    · subst hne
      rw [wpF (by simp)]
      have : h = 0 := by rw [← e]; rfl
      subst this
      exact wp_pw rfl
    · have hpos : 0 < x3.length := List.length_pos_iff.2 hne
      have hp := pigeon dpL x1 all (dpLL x3) (fun g g1 g2 => hc hne g g1 (by omega))
      rw [wpT (by omega), wpF (by omega), wrap_id (by omega)]
      refine wp_tw ?_
      intro q hq
      have hxl := len_szLL x3 hln
      refine l2_wp x3 all hs (by omega) x3.length 0 all [] [] k (by omega) ⟨fun x hx => hx, fun x hx => (by cases hx), fun x hx => (by cases hx), fun v hv => (by simp at hv), fun x hx => (by cases hx), by simp [szLL, szNs]⟩ (by omega) q ?_
      rintro o ⟨all', next, rfl, met', hD⟩
      refine hq _ ?_
      have hst := deep_step hne hln hD
      have hsz := hD.size.1
      rw [szNs_flat] at hsz
      have ih := l1_wp (dpLL next) next all' (x1 + 1) k rfl (fun l hl => (hD.only l hl).1) (by omega) (by omega) (fun hnn g g1 g2 => by
        by_cases hg : g = dpLL next
        · obtain ⟨l, hl, el⟩ := dpLL_max hnn
          exact ⟨l, hD.led l hl, by omega⟩
        · obtain ⟨l, hl, el⟩ := hc hne g (by omega) (by omega)
          exact ⟨l, hD.keep l hl, el⟩) (by omega)
      have e1 : ((x1 + h : Nat) : Int) = ((x1 + 1 + dpLL next : Nat) : Int) := by omega
      rw [e1]
      simpa using ih
termination_by h x3 all x1 k => k
end Go.Proofs.Ytiaigcdckmpepaa
end
section
/-! How deep a value is. -/
set_option linter.unusedVariables false
set_option linter.unusedSimpArgs false
set_option linter.unnecessarySimpa false
namespace Go.Proofs.Ytiaigcdckmpepaa
open Go.Bb

theorem deep_wp (v : Val) (hs : szN v ≤ 900000000) (k : Nat) (hk : dpV v + 2 * szN v + 5 ≤ k) : WP (w_impl_ValueDeep k v) (fun r => r = (dpV v : Int)) := by
  simp only [w_impl_ValueDeep]
  have e1 := szN_eq v
  have e2 := dpV_eq v
  have e3 := dpL_sz v.list
  refine wp_tw ?_
  by_cases h0 : v.list = []
  · rw [wpF (by simp [h0])]
    refine wp_pw ?_
    simp only
    refine wp_tw ?_
    intro q hq
    refine l1_wp 0 [] [] 1 k rfl (fun l hl => by cases hl) (by omega) (by simp [szLL]) (fun h => absurd rfl h) (by simp only [szLL]; omega) q ?_
    rintro o rfl
    refine hq _ (wp_pw ?_)
    rw [e2, h0]; simp [dpL]
  · have hpos := List.length_pos_iff.2 h0
    rw [wpT (by omega), wpT (by simp)]
    refine wp_cw (spanOf_eq _) (wp_lk (wp_pw ?_) (fun h => by cases h))
    simp only
    refine wp_tw ?_
    intro q hq
    have hd : dpLL ([] ++ [v.list]) = dpL v.list := by simp [dpLL]
    have hz : szLL ([] ++ [v.list]) = szNs v.list := by simp [szLL]
    refine l1_wp (dpL v.list) ([] ++ [v.list]) ([] ++ [v.list]) 1 k hd (fun l hl => by simp only [List.nil_append, List.mem_cons, List.not_mem_nil, or_false] at hl; rw [hl]; exact h0) (by omega) (by omega) (fun _ g g1 g2 => ⟨v.list, by simp, by omega⟩) (by omega) q ?_
    rintro o rfl
    refine hq _ (wp_pw ?_)
    rw [e2]
/-- What the program answers. -/
noncomputable def m_impl_ValueDeep (k : Nat) (a : Val) : Option Int := @ite _ (w_impl_ValueDeep k a (fun x => x = (dpV a : Int))) (Classical.propDecidable _) (some (dpV a : Int)) none
theorem ev_iDeep (a : Val) (hs : szN a ≤ 900000000) : Ev (fun k => m_impl_ValueDeep k a) (dpV a : Int) :=
  ⟨_, fun k hk => if_pos (deep_wp a hs k hk _ fun r h => h)⟩
theorem m_impl_ValueDeep_ok (k : Nat) : ∀ (a0 : Val) (r : Int), m_impl_ValueDeep k a0 = some r → Does Try.prog 21 [.agg [.int .i64 a0.kind, .int .i64 a0.num, .str a0.text, .sl true (a0.list.map encVal), .sl false (a0.names.map encS)]] [] (ret (.int .i64 r)) := by
  intro a0 r h
  unfold m_impl_ValueDeep at h
  split at h
  · rename_i hw
    cases h
    exact w_impl_ValueDeep_ok k a0 _ hw
  · cases h
end Go.Proofs.Ytiaigcdckmpepaa
end
section
/-! Functions of the program. -/
set_option linter.unusedVariables false
set_option linter.unnecessarySimpa false
set_option maxRecDepth 100000
set_option maxHeartbeats 20000000
noncomputable section
namespace Go.Proofs.Ytiaigcdckmpepaa
open Go.Bb
def m_laws_FnExactValueDeep (k : Nat) (a0 : Val) : Option Bool :=
 (m_laws_szValue k a0 1048576).bind fun y1 =>
 if y1 < 0 then
  some true
 else
  (m_laws_toValue k a0).bind fun y2 =>
  (m_spec_ValueDeep k y2).bind fun y3 =>
  (m_laws_toValue k a0).bind fun y4 =>
  (m_impl_ValueDeep k y4).bind fun y5 =>
  if y5 = y3 then
   (m_laws_toValue k a0).bind fun y6 =>
   (m_laws_eqValue k y4 y6).bind fun y7 =>
   if y7 = true then
    some true
   else
    some false
  else
   some false
theorem m_laws_FnExactValueDeep_ok (k : Nat) : ∀ (a0 : Val) (r : Bool), m_laws_FnExactValueDeep k a0 = some r → Does Try.prog 4 [.agg [.int .i64 a0.kind, .int .i64 a0.num, .str a0.text, .sl false (a0.list.map encLVal), .sl false (a0.names.map encS)]] [] (ret (.bool r)) := by
 intro a0 r h
 rw [m_laws_FnExactValueDeep] at h
 refine does_of_good tabOk Try.func4 rfl (by decide +kernel) (Nat.le_of_ble_eq_true rfl) fun c => ?_
 refine Good.le (σ' := ⟨27, [(0, .agg [.int .i64 a0.kind, .int .i64 a0.num, .str a0.text, .sl false (a0.list.map encLVal), .sl false (a0.names.map encS)])], []⟩) (Le.refl _) ?_
 refine good_seq fun K1 hK1 => ?_
 refine good_region ?_
 refine g_op rfl (o_box (k := 11) tabOk rfl rfl rfl rfl rfl ?_)
 intro b1
 refine gs 1 ?_
 refine gk hK1 27 [1, 2] [11] ?_
 refine good_seq fun K2 hK2 => ?_
 refine rg 1 ?_
 refine g_nil (hK2 _ ?_)
 refine good_seq fun K3 hK3 => ?_
 refine rg 2 ?_
 obtain ⟨y1, hy1, h⟩ := bnd h
 refine g_op rfl (o_callR [] [] (core_value rfl rfl) (m_laws_szValue_ok k a0 1048576 _ hy1) trivial (.cons (.refl _) (.cons (.refl _) (.nil))) (.inl rfl) rfl ?_)
 refine gs 1 ?_
 refine gk hK3 27 [1, 2, 3] [11] ?_
 refine good_seq fun K4 hK4 => ?_
 refine good_seq fun K5 hK5 => ?_
 refine rg 2 ?_
 refine gk hK5 27 [1, 2, 11] [11] ?_
 refine good_cond rfl (fun hc1 => ?_) (fun hc1 => ?_)
 ·replace h := ifT h (dT hc1)
  refine good_seq fun K6 hK6 => ?_
  refine rg 1 ?_
  refine gk hK6 27 [1, 2] [11] ?_
  obtain rfl := Option.some.inj h
  exact rt
 ·replace h := ifF h (dF hc1)
  refine good_skip ?_
  refine hK4 _ (kp 27 [1, 2] [11] ?_)
  refine good_seq fun K7 hK7 => ?_
  refine rg 1 ?_
  obtain ⟨y2, hy2, h⟩ := bnd h
  refine g_op rfl (o_callD [] [] [] (core_value rfl rfl) (m_laws_toValue_ok k a0 _ hy2) trivial (.cons (.refl _) (.nil)) trivial rfl rfl rfl ?_)
  rintro _ _ ⟨w1, w2, rfl, rfl⟩
  refine ⟨.agg [.int .i64 y2.kind, .int .i64 y2.num, .str y2.text, .hd 3001 w1, .hd 3002 w2], [(3001, _), (3002, _)], .agg (.cons (.refl _) (.cons (.refl _) (.cons (.refl _) (.cons (.hd _ _ _) (.cons (.hd _ _ _) (.nil)))))), rfl, rfl, rfl, rfl, .inl rfl, ?_⟩
  obtain ⟨y3, hy3, h⟩ := bnd h
  refine g_op rfl (o_callR [3001, 3002] [(_, _), (_, _)] (core_value rfl rfl) (m_spec_ValueDeep_ok k y2 _ hy3) ⟨⟨_, rfl, .osl (FrzLL.map fun _ _ => encOVal_frz _)⟩, ⟨⟨_, rfl, .osl (FrzLL.map fun _ _ => encS_frz _)⟩, trivial⟩⟩ (.cons (.agg (.cons (.refl _) (.cons (.refl _) (.cons (.refl _) (.cons (.frz _ _ _ (.head _)) (.cons (.frz _ _ _ (.tail _ (.head _))) (.nil))))))) (.nil)) (.inr (.int _ _)) rfl ?_)
  refine gs 1 ?_
  refine gk hK7 27 [1, 2, 4] [11] ?_
  refine good_seq fun K8 hK8 => ?_
  refine rg 1 ?_
  obtain ⟨y4, hy4, h⟩ := bnd h
  refine g_op rfl (o_callD [] [] [] (core_value rfl rfl) (m_laws_toValue_ok k a0 _ hy4) trivial (.cons (.refl _) (.nil)) trivial rfl rfl rfl ?_)
  rintro _ _ ⟨w3, w4, rfl, rfl⟩
  refine ⟨.agg [.int .i64 y4.kind, .int .i64 y4.num, .str y4.text, .hd 3003 w3, .hd 3004 w4], [(3003, _), (3004, _)], .agg (.cons (.refl _) (.cons (.refl _) (.cons (.refl _) (.cons (.hd _ _ _) (.cons (.hd _ _ _) (.nil)))))), rfl, rfl, rfl, rfl, .inl rfl, ?_⟩
  refine g_op rfl (o_alloc (k := 15) tabOk tzero30 rfl rfl ?_)
  intro b2
  refine g_op rfl (o_storeP tabOk (cs' := [.int .i64 y4.kind, .int .i64 y4.num, .str y4.text, .hd 3003 w3, .hd 3004 w4]) rfl rfl tsize30 rfl rfl rfl (Nat.le_of_ble_eq_true rfl) rfl rfl rfl ?_)
  refine gk hK8 27 [1, 2, 4, 5] [11, 15, 3003, 3004] ?_
  refine good_seq fun K9 hK9 => ?_
  refine rg 1 ?_
  obtain ⟨y5, hy5, h⟩ := bnd h
  refine g_op rfl (o_callR [3003, 3004] [(_, _), (_, _)] (core_value rfl rfl) (m_impl_ValueDeep_ok k y4 _ hy5) ⟨⟨_, rfl, .osl (FrzLL.map fun _ _ => encOVal_frz _)⟩, ⟨⟨_, rfl, .osl (FrzLL.map fun _ _ => encS_frz _)⟩, trivial⟩⟩ (.cons (.agg (.cons (.refl _) (.cons (.refl _) (.cons (.refl _) (.cons (.frz _ _ _ (.head _)) (.cons (.frz _ _ _ (.tail _ (.head _))) (.nil))))))) (.nil)) (.inr (.int _ _)) rfl ?_)
  refine gs 1 ?_
  refine gk hK9 27 [1, 2, 4, 5, 6] [11, 15, 3003, 3004] ?_
  refine good_seq fun K10 hK10 => ?_
  refine good_seq fun K11 hK11 => ?_
  refine rg 3 ?_
  refine gk hK11 27 [1, 2, 5, 21] [11, 15, 3003, 3004] ?_
  refine good_cond rfl (fun hc2 => ?_) (fun hc2 => ?_)
  ·replace h := ifF h (ndT hc2)
   refine good_seq fun K12 hK12 => ?_
   refine rg 1 ?_
   refine gk hK12 27 [1, 2, 5] [11, 15, 3003, 3004] ?_
   obtain rfl := Option.some.inj h
   exact rt
  ·replace h := ifT h (ndF hc2)
   refine good_skip ?_
   refine hK10 _ (kp 27 [1, 2, 5] [11, 15, 3003, 3004] ?_)
   refine good_seq fun K13 hK13 => ?_
   refine good_seq fun K14 hK14 => ?_
   obtain ⟨y6, hy6, h⟩ := bnd h
   obtain ⟨y7, hy7, h⟩ := bnd h
   refine good_anyM (by kernel_rfl) [⟨[], [5], [15], [], [], []⟩, ⟨[], [1], [11], [], [], []⟩, ⟨[1], [23], [], [], [], []⟩, ⟨[0, 1, 2], [22, 24], [3003, 3004], [], [], []⟩, ⟨[0, 1, 2, 3], [25], [], [], [], []⟩] [some 22, some 23, some 24, some 25, some 26] 27 [(1, .ptr 11 b1 0), (2, .bool false), (5, .ptr 15 b2 0)] [(11, ((.pointer (some ⟨b1, 0, none⟩)), .optr 25 [.int .i64 a0.kind, .int .i64 a0.num, .str a0.text, .sl false (a0.list.map encLVal), .sl false (a0.names.map encS)])), (15, ((.pointer (some ⟨b2, 0, none⟩)), .optr 30 [.int .i64 y4.kind, .int .i64 y4.num, .str y4.text, .hd 3003 w3, .hd 3004 w4])), (3003, (w3, .osl 30 5 (y4.list.map encOVal))), (3004, (w4, .osl 9 1 (y4.names.map encS)))] (fun ν1 => [.agg [.int .i64 y4.kind, .int .i64 y4.num, .str y4.text, .hd 3003 w3, .hd 3004 w4], .agg [.int .i64 a0.kind, .int .i64 a0.num, .str a0.text, .sl false (a0.list.map encLVal), .sl false (a0.names.map encS)], .agg [.int .i64 y6.kind, .int .i64 y6.num, .str y6.text, .sl true (y6.list.map encVal), .sl false (y6.names.map encS)], .bool y7, .bool (!y7)]) (fun ν1 => []) [(11, []), (15, []), (3003, []), (3004, [])] [] [] (fun ν1 => [(2, .bool false), (26, .bool (!y7))]) (fun ν1 => []) (lw [some 11, some 15, some 3003, some 3004]) (by kernel_rfl) ⟨?_, ⟨?_, ⟨?_, ⟨?_, ⟨?_, trivial⟩⟩⟩⟩⟩ ⟨fun _ _ _ => rfl, ⟨fun _ _ _ => rfl, ⟨fun _ _ _ => rfl, ⟨fun _ _ _ => rfl, ⟨fun _ _ _ => rfl, trivial⟩⟩⟩⟩⟩ ⟨fun _ _ _ => rfl, ⟨fun _ _ _ => rfl, ⟨fun _ _ _ => rfl, ⟨fun _ _ _ => rfl, trivial⟩⟩⟩⟩ (fun _ => rfl) (fun _ => rfl) (by kernel_rfl) (fun _ => ⟨⟨_, rfl, .refl _⟩, ⟨⟨_, rfl, .refl _⟩, trivial⟩⟩) (fun _ => trivial) (by kernel_rfl) (by decide) ?_
   ·refine local_mk (fun ν1 => [(5, .ptr 15 b2 0)]) (fun ν1 => [(15, ((.pointer (some ⟨b2, 0, none⟩)), .optr 30 [.int .i64 y4.kind, .int .i64 y4.num, .str y4.text, .hd 3003 w3, .hd 3004 w4]))]) (fun _ => rfl) (fun _ => ⟨⟨_, rfl, .refl _, .refl _⟩, trivial⟩) (fun _ => rfl) (fun _ => ⟨rfl, trivial⟩) ?_
    intro ν1 S H hS hfr
    refine st_op rfl (ValOk.op (v_loadP tabOk rfl rfl tsize30 tagg30 rfl rfl rfl rfl ?_))
    exact lp_v hS rfl rfl (fun _ => rfl)
   ·refine local_mk (fun ν1 => [(1, .ptr 11 b1 0)]) (fun ν1 => [(11, ((.pointer (some ⟨b1, 0, none⟩)), .optr 25 [.int .i64 a0.kind, .int .i64 a0.num, .str a0.text, .sl false (a0.list.map encLVal), .sl false (a0.names.map encS)]))]) (fun _ => rfl) (fun _ => ⟨⟨_, rfl, .refl _, .refl _⟩, trivial⟩) (fun _ => rfl) (fun _ => ⟨rfl, trivial⟩) ?_
    intro ν1 S H hS hfr
    refine st_op rfl (ValOk.op (v_loadP tabOk rfl rfl tsize25 tagg25 rfl rfl rfl rfl ?_))
    exact lp_v hS rfl rfl (fun _ => rfl)
   ·refine local_mk (fun ν1 => [(23, .agg [.int .i64 a0.kind, .int .i64 a0.num, .str a0.text, .sl false (a0.list.map encLVal), .sl false (a0.names.map encS)])]) (fun ν1 => []) (fun _ => rfl) (fun _ => ⟨⟨_, rfl, .refl _, .refl _⟩, trivial⟩) (fun _ => rfl) (fun _ => trivial) ?_
    intro ν1 S H hS hfr
    refine st_op rfl (o_callR [] [] (core_value rfl rfl) (m_laws_toValue_okF k a0 _ hy6) trivial (.cons (.refl _) (.nil)) (.inl rfl) rfl ?_)
    exact lp_v hS rfl rfl (fun _ => rfl)
   ·refine local_mk (fun ν1 => [(22, .agg [.int .i64 y4.kind, .int .i64 y4.num, .str y4.text, .hd 3003 w3, .hd 3004 w4]), (24, .agg [.int .i64 y6.kind, .int .i64 y6.num, .str y6.text, .sl true (y6.list.map encVal), .sl false (y6.names.map encS)])]) (fun ν1 => [(3003, (w3, .osl 30 5 (y4.list.map encOVal))), (3004, (w4, .osl 9 1 (y4.names.map encS)))]) (fun _ => rfl) (fun _ => ⟨⟨_, rfl, .refl _, .refl _⟩, ⟨⟨_, rfl, .refl _, .refl _⟩, trivial⟩⟩) (fun _ => rfl) (fun _ => ⟨rfl, ⟨rfl, trivial⟩⟩) ?_
    intro ν1 S H hS hfr
    refine st_op rfl (o_callR [3003, 3004] [(_, _), (_, _)] (core_value rfl rfl) (m_laws_eqValue_ok k y4 y6 _ hy7) ⟨⟨_, rfl, .osl (FrzLL.map fun _ _ => encOVal_frz _)⟩, ⟨⟨_, rfl, .osl (FrzLL.map fun _ _ => encS_frz _)⟩, trivial⟩⟩ (.cons (.agg (.cons (.refl _) (.cons (.refl _) (.cons (.refl _) (.cons (.frz _ _ _ (.head _)) (.cons (.frz _ _ _ (.tail _ (.head _))) (.nil))))))) (.cons (.refl _) (.nil))) (.inr (.bool _)) rfl ?_)
    exact lp_v hS rfl rfl (fun _ => rfl)
   ·refine local_mk (fun ν1 => [(25, .bool y7)]) (fun ν1 => []) (fun _ => rfl) (fun _ => ⟨⟨_, rfl, .refl _, .refl _⟩, trivial⟩) (fun _ => rfl) (fun _ => trivial) ?_
    intro ν1 S H hS hfr
    refine st_op rfl (ValOk.op (v_not rfl rfl ?_))
    exact lp_v hS rfl rfl (fun _ => rfl)
   intro ν1
   refine hK14 _ ?_
   refine good_cond rfl (fun hc3 => ?_) (fun hc3 => ?_)
   ·replace h := bF h (nT hc3)
    refine good_seq fun K15 hK15 => ?_
    refine rg 1 ?_
    refine gk hK15 27 [2] [] ?_
    obtain rfl := Option.some.inj h
    exact rt
   ·replace h := ifT h (nF hc3)
    refine good_skip ?_
    refine hK13 _ (kp 27 [2] [] ?_)
    refine good_seq fun K16 hK16 => ?_
    refine rg 1 ?_
    refine g_nil (hK16 _ ?_)
    obtain rfl := Option.some.inj h
    exact rt
end Go.Proofs.Ytiaigcdckmpepaa
end
end
section
/-! The law of ValueDeep. -/
set_option linter.unusedVariables false
set_option linter.unusedSimpArgs false
set_option linter.unnecessarySimpa false
namespace Go.Proofs.Ytiaigcdckmpepaa
open Go.Bb

mutual
theorem szN_wt' : ∀ v : Val, szN v ≤ wtV v
  | .mk _ _ _ l _ => by have := szNs_wt' l; simp only [szN, wtV]; omega
theorem szNs_wt' : ∀ l : List Val, szNs l ≤ wtVs l
  | [] => by simp [szNs]
  | v :: l => by have := szN_wt' v; have := szNs_wt' l; simp only [szNs, wtVs]; omega
end
theorem law_ValueDeep (a : Val) (ha : Bd maxLen a) : ∃ k, m_laws_FnExactValueDeep k a = some true := by
  refine Ev.get (m := fun k => m_laws_FnExactValueDeep k a) ?_
  simp only [m_laws_FnExactValueDeep]
  obtain ⟨y, h3, h4⟩ := ev_szValueW a ha 1048576 (by omega) (by omega)
  rcases h4 with h4 | ⟨h4, h5, h6, h7⟩
  · rw [evC h3, evT h4]; exact ev_some _
  have hsz : szN a ≤ 900000000 := by
    have h1 := szN_eq a
    have h2 := szNs_wt' a.list
    unfold wtW at h7
    omega
  rw [evC h3, evF (by omega)]
  rw [evC (ev_toValue a h6), evC (ev_sDeep a h6 (by omega)), evC (ev_toValue a h6), evC (ev_iDeep a hsz), evT rfl]
  rw [evC (ev_toValue a h6), evC (ev_eqValue a h6), evT rfl]
  exact ev_some _
end Go.Proofs.Ytiaigcdckmpepaa
end
