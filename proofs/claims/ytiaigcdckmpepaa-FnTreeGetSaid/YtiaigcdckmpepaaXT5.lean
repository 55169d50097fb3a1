/- Parts of a proof, put together; the conditions stand in each theorem. -/
import Derived.Test.YtiaigcdckmpepaaXT4
section
/-! Functions of the program. -/
set_option linter.unusedVariables false
set_option linter.unnecessarySimpa false
set_option maxRecDepth 100000
set_option maxHeartbeats 20000000
noncomputable section
namespace Go.Proofs.Ytiaigcdckmpepaa
open Go.Bb
def m_slices_Equal_string_string_l1 : Nat → (List Bs) → (List Bs) → Int → Option (Lp Unit Bool)
 | 0, _, _, _ => none
 | k + 1, a0, a1, x1 =>
  if x1 < (a0.length : Int) then
   if (0 : Int) ≤ x1 ∧ x1 < (a0.length : Int) then
    if (0 : Int) ≤ x1 ∧ x1 < (a1.length : Int) then
     if (ix a0 x1) = (ix a1 x1) then
      m_slices_Equal_string_string_l1 k a0 a1 (IntKind.wrap .i64 (x1 + 1))
     else
      (some false).bind fun z =>
      some (Lp.ret z)
    else none
   else none
  else
   some (Lp.go ())
def m_slices_Equal_string_string (k : Nat) (a0 : (List Bs)) (a1 : (List Bs)) : Option Bool :=
 if (a0.length : Int) = (a1.length : Int) then
  (m_slices_Equal_string_string_l1 k a0 a1 0).bind fun o1 =>
  o1.then fun s1 =>
  some true
 else
  some false
theorem m_slices_Equal_string_string_ok (k : Nat) : ∀ (a0 : (List Bs)) (a1 : (List Bs)) (r : Bool), m_slices_Equal_string_string k a0 a1 = some r → Does Try.prog 83 [.sl false (a0.map encS), .sl false (a1.map encS)] [] (ret (.bool r)) := by
 intro a0 a1 r h
 rw [m_slices_Equal_string_string] at h
 refine does_of_good tabOk Try.func83 rfl (by decide +kernel) (Nat.le_of_ble_eq_true rfl) fun c => ?_
 refine Good.le (σ' := ⟨26, [(0, .sl false (a0.map encS)), (1, .sl false (a1.map encS))], []⟩) (Le.refl _) ?_
 refine good_seq fun K1 hK1 => ?_
 refine rg 1 ?_
 refine g_nil (hK1 _ ?_)
 refine good_seq fun K2 hK2 => ?_
 refine good_seq fun K3 hK3 => ?_
 refine rg 1 ?_
 refine g_op rfl (ValOk.op (v_lenM (l := a0) (f := encS) tabOk rfl rfl telem23 rfl ?_))
 refine gs 1 ?_
 refine g_op rfl (ValOk.op (v_lenM (l := a1) (f := encS) tabOk rfl rfl telem23 rfl ?_))
 refine gs 1 ?_
 refine gk hK3 26 [0, 1, 4, 10] [] ?_
 refine good_cond rfl (fun hc1 => ?_) (fun hc1 => ?_)
 ·replace h := ifF h (ndT hc1)
  refine good_seq fun K4 hK4 => ?_
  refine rg 1 ?_
  refine gk hK4 26 [0, 1, 4] [] ?_
  obtain rfl := Option.some.inj h
  exact rt
 ·replace h := ifT h (ndF hc1)
  refine good_skip ?_
  refine hK2 _ (kp 26 [0, 1, 4] [] ?_)
  refine good_seq fun K5 hK5 => ?_
  refine good_seq fun K6 hK6 => ?_
  refine rg 1 ?_
  refine g_op rfl (ValOk.op (v_lenM (l := a0) (f := encS) tabOk rfl rfl telem23 rfl ?_))
  refine gs 1 ?_
  refine gk hK6 26 [0, 1, 4, 12, 13] [] ?_
  obtain ⟨o1, ho1, hJ1⟩ := bnd h
  have hw1 : ∀ (s1 : Unit), o1 = Lp.go s1 → ∀ σ', Le σ' ⟨26, [(4, .bool false)], []⟩ → K5 σ' := by
   intro s1 e1 σ' hle1
   subst e1
   refine hK5 _ (Good.le hle1 ?_)
   replace h := hJ1
   refine good_seq fun K7 hK7 => ?_
   refine rg 1 ?_
   refine g_nil (hK7 _ ?_)
   obtain rfl := Option.some.inj h
   exact rt
  replace h := ho1
  refine good_block ?_
  refine good_loopf (fun p : Int => ⟨26, [(0, .sl false (a0.map encS)), (1, .sl false (a1.map encS)), (4, .bool false), (12, .int .i64 (a0.length : Int)), (13, .int .i64 p)], []⟩) (fun m p => m_slices_Equal_string_string_l1 m a0 a1 p = some o1) k (0) (lw []) h ?_
  rintro m1 x1 h
  replace h : m_slices_Equal_string_string_l1 m1 a0 a1 x1 = some o1 := h
  refine Good.le (σ' := ⟨26, [(0, .sl false (a0.map encS)), (1, .sl false (a1.map encS)), (4, .bool false), (12, .int .i64 (a0.length : Int)), (13, .int .i64 x1)], []⟩) (Le.refl _) ?_
  obtain ⟨m1, rfl⟩ : ∃ m', m1 = m' + 1 := by cases m1 with | zero => (rw [m_slices_Equal_string_string_l1] at h; cases h) | succ m' => exact ⟨m', rfl⟩
  rw [m_slices_Equal_string_string_l1] at h
  refine good_seq fun K8 hK8 => ?_
  refine rg 1 ?_
  refine g_nil (hK8 _ ?_)
  refine good_seq fun K9 hK9 => ?_
  refine good_cond rfl (fun hc2 => ?_) (fun hc2 => ?_)
  ·replace h := ifT h (dT hc2)
   refine good_skip ?_
   refine hK9 _ (kp 26 [0, 1, 4, 12, 13] [] ?_)
   refine good_seq fun K10 hK10 => ?_
   refine good_block ?_
   refine good_seq fun K11 hK11 => ?_
   refine rg 2 ?_
   refine gk hK11 26 [0, 1, 4, 5, 12, 13] [] ?_
   refine good_seq fun K12 hK12 => ?_
   refine good_draw (by kernel_rfl) (by kernel_rfl) ?_
   refine q_op rfl (v_move rfl rfl ?_)
   refine q_op rfl (v_move rfl rfl ?_)
   obtain ⟨hb1, h⟩ := ifS h
   refine q_op rfl (v_idxM tabOk rfl rfl telem23 tsize9 hb1 rfl rfl rfl ?_)
   refine q_op rfl (v_loadE tabOk rfl tsize9 tagg9 rfl rfl rfl ?_)
   refine q_op rfl (v_move rfl rfl ?_)
   refine q_op rfl (v_move rfl rfl ?_)
   obtain ⟨hb2, h⟩ := ifS h
   refine q_op rfl (v_idxM tabOk rfl rfl telem23 tsize9 hb2 rfl rfl rfl ?_)
   refine q_op rfl (v_loadE tabOk rfl tsize9 tagg9 rfl rfl rfl ?_)
   refine q_op rfl (v_bin rfl rfl rfl rfl ?_)
   refine q_nil ?_
   refine hK12 _ (kp 26 [0, 1, 4, 12, 13, 24] [] ?_)
   refine good_cond rfl (fun hc3 => ?_) (fun hc3 => ?_)
   ·replace h := ifF h (ndT hc3)
    refine good_seq fun K13 hK13 => ?_
    refine rg 1 ?_
    refine gk hK13 26 [0, 1, 4, 12, 13] [] ?_
    replace h := unret h hJ1
    obtain rfl := Option.some.inj h
    exact rt
   ·replace h := ifT h (ndF hc3)
    refine good_skip ?_
    refine hK10 _ (kp 26 [0, 1, 4, 12, 13] [] ?_)
    refine rg 2 ?_
    refine g_nil ?_
    exact round_mk m1 (IntKind.wrap .i64 (x1 + 1)) (Nat.lt_succ_self _) h (lw [])
  ·replace h := ifF h (dF hc2)
   refine good_exit ?_
   exact hw1 () (Option.some.inj h).symm _ (lw [])
def m_impl_sameTop (k : Nat) (a0 : Val) (a1 : Val) : Option Bool :=
 if a0.kind = a1.kind then
  if a0.num = a1.num then
   if a0.text = a1.text then
    if (a0.list.length : Int) = (a1.list.length : Int) then
     (m_slices_Equal_string_string k a0.names a1.names).bind fun y1 =>
     some y1
    else
     some false
   else
    some false
  else
   some false
 else
  some false
theorem m_impl_sameTop_ok (k : Nat) : ∀ (a0 : Val) (a1 : Val) (r : Bool), m_impl_sameTop k a0 a1 = some r → Does Try.prog 49 [.agg [.int .i64 a0.kind, .int .i64 a0.num, .str a0.text, .sl true (a0.list.map encVal), .sl false (a0.names.map encS)], .agg [.int .i64 a1.kind, .int .i64 a1.num, .str a1.text, .sl true (a1.list.map encVal), .sl false (a1.names.map encS)]] [] (ret (.bool r)) := by
 intro a0 a1 r h
 rw [m_impl_sameTop] at h
 refine does_of_good tabOk Try.func49 rfl (by decide +kernel) (Nat.le_of_ble_eq_true rfl) fun c => ?_
 refine Good.le (σ' := ⟨40, [(0, .agg [.int .i64 a0.kind, .int .i64 a0.num, .str a0.text, .sl true (a0.list.map encVal), .sl false (a0.names.map encS)]), (1, .agg [.int .i64 a1.kind, .int .i64 a1.num, .str a1.text, .sl true (a1.list.map encVal), .sl false (a1.names.map encS)])], []⟩) (Le.refl _) ?_
 refine good_seq fun K1 hK1 => ?_
 refine good_region ?_
 refine g_op rfl (o_box (k := 12) tabOk rfl rfl rfl rfl rfl ?_)
 intro b1
 refine g_op rfl (o_box (k := 13) tabOk rfl rfl rfl rfl rfl ?_)
 intro b2
 refine gs 1 ?_
 refine gk hK1 40 [2, 3, 4] [12, 13] ?_
 refine good_seq fun K2 hK2 => ?_
 refine rg 6 ?_
 rcases bsplit ((decide (a0.kind = a1.kind))) with hg1 | hg1
 ·replace h := ifT h (dT hg1)
  refine gs 7 ?_
  rcases bsplit ((decide (a0.num = a1.num))) with hg2 | hg2
  ·replace h := ifT h (dT hg2)
   refine gs 7 ?_
   rcases bsplit ((decide (a0.text = a1.text))) with hg3 | hg3
   ·replace h := ifT h (dT hg3)
    refine gs 2 ?_
    refine g_yes rfl rfl hg3 (ValOk.op (v_lenM (l := a0.list) (f := encVal) tabOk rfl rfl telem28 rfl ?_))
    refine gs 2 ?_
    refine g_yes rfl rfl hg3 (ValOk.op (v_lenM (l := a1.list) (f := encVal) tabOk rfl rfl telem28 rfl ?_))
    refine gs 3 ?_
    rcases bsplit ((decide ((a0.list.length : Int) = (a1.list.length : Int)))) with hg4 | hg4
    ·replace h := ifT h (dT hg4)
     refine gs 4 ?_
     obtain ⟨y1, hy1, h⟩ := bnd h
     refine g_yes rfl rfl hg4 (o_callR [] [] (core_value rfl rfl) (m_slices_Equal_string_string_ok k a0.names a1.names _ hy1) trivial (.cons (.refl _) (.cons (.refl _) (.nil))) (.inl rfl) rfl ?_)
     refine gs 2 ?_
     refine gk hK2 40 [4] [] ?_
     obtain rfl := Option.some.inj h
     exact rt
    ·replace h := ifF h (dF hg4)
     refine gs 7 ?_
     refine gk hK2 40 [4] [] ?_
     obtain rfl := Option.some.inj h
     exact rt
   ·replace h := ifF h (dF hg3)
    refine gs 16 ?_
    refine gk hK2 40 [4] [] ?_
    obtain rfl := Option.some.inj h
    exact rt
  ·replace h := ifF h (dF hg2)
   refine gs 23 ?_
   refine gk hK2 40 [4] [] ?_
   obtain rfl := Option.some.inj h
   exact rt
 ·replace h := ifF h (dF hg1)
  refine gs 30 ?_
  refine gk hK2 40 [4] [] ?_
  obtain rfl := Option.some.inj h
  exact rt
def w_impl_ValueSame_l2 : Nat → (List GPair) → (List GPair) → Int → W (Lp (List GPair) (Lp Unit Bool))
 | 0, _, _, _ => fw
 | k + 1, x2, x3, x4 =>
  if x4 < ((((ix x2 (IntKind.wrap .i64 ((x2.length : Int) - 1))).one).list).length : Int) then
   if (0 : Int) ≤ x4 ∧ x4 < ((((ix x2 (IntKind.wrap .i64 ((x2.length : Int) - 1))).one).list).length : Int) then
    if (0 : Int) ≤ x4 ∧ x4 < ((((ix x2 (IntKind.wrap .i64 ((x2.length : Int) - 1))).other).list).length : Int) then
     if (x3 ++ [(GPair.mk (ix (((ix x2 (IntKind.wrap .i64 ((x2.length : Int) - 1))).one).list) x4) (ix (((ix x2 (IntKind.wrap .i64 ((x2.length : Int) - 1))).other).list) x4))]).length * 160 ≤ 140737488355328 then
      w_impl_ValueSame_l2 k x2 (x3 ++ [(GPair.mk (ix (((ix x2 (IntKind.wrap .i64 ((x2.length : Int) - 1))).one).list) x4) (ix (((ix x2 (IntKind.wrap .i64 ((x2.length : Int) - 1))).other).list) x4))]) (IntKind.wrap .i64 (x4 + 1))
     else fw
    else fw
   else fw
  else
   pw (Lp.go x3)
def w_impl_ValueSame_l3 : Nat → (List GPair) → (List GPair) → Int → W (Lp (List GPair) (Lp Unit Bool))
 | 0, _, _, _ => fw
 | k + 1, x2, x5, x6 =>
  if x6 < ((((ix x2 (IntKind.wrap .i64 ((x2.length : Int) - 1))).one).list).length : Int) then
   if (0 : Int) ≤ x6 ∧ x6 < ((((ix x2 (IntKind.wrap .i64 ((x2.length : Int) - 1))).one).list).length : Int) then
    if (0 : Int) ≤ x6 ∧ x6 < ((((ix x2 (IntKind.wrap .i64 ((x2.length : Int) - 1))).other).list).length : Int) then
     if (x5 ++ [(GPair.mk (ix (((ix x2 (IntKind.wrap .i64 ((x2.length : Int) - 1))).one).list) x6) (ix (((ix x2 (IntKind.wrap .i64 ((x2.length : Int) - 1))).other).list) x6))]).length * 160 ≤ 140737488355328 then
      w_impl_ValueSame_l3 k x2 (x5 ++ [(GPair.mk (ix (((ix x2 (IntKind.wrap .i64 ((x2.length : Int) - 1))).one).list) x6) (ix (((ix x2 (IntKind.wrap .i64 ((x2.length : Int) - 1))).other).list) x6))]) (IntKind.wrap .i64 (x6 + 1))
     else fw
    else fw
   else fw
  else
   pw (Lp.go x5)
def w_impl_ValueSame_l1 : Nat → (List (List Val × List Val)) → (List GPair) → W (Lp Unit Bool)
 | 0, _, _ => fw
 | k + 1, x1, x2 =>
  if 0 < (x2.length : Int) then
   if (0 : Int) ≤ (IntKind.wrap .i64 ((x2.length : Int) - 1)) ∧ (IntKind.wrap .i64 ((x2.length : Int) - 1)) < (x2.length : Int) then
    if (0 : Int) ≤ (IntKind.wrap .i64 ((x2.length : Int) - 1)) ∧ (IntKind.wrap .i64 ((x2.length : Int) - 1)) ≤ (x2.length : Int) then
     cw (m_impl_sameTop k ((ix x2 (IntKind.wrap .i64 ((x2.length : Int) - 1))).one) ((ix x2 (IntKind.wrap .i64 ((x2.length : Int) - 1))).other)) fun y1 =>
     if y1 = true then
      if ((((ix x2 (IntKind.wrap .i64 ((x2.length : Int) - 1))).one).list).length : Int) = 0 then
       w_impl_ValueSame_l1 k x1 (x2.take (Int.toNat (IntKind.wrap .i64 ((x2.length : Int) - 1))))
      else
       cw (m_impl_spanOf (((ix x2 (IntKind.wrap .i64 ((x2.length : Int) - 1))).one).list)) fun y2 =>
       cw (m_impl_spanOf (((ix x2 (IntKind.wrap .i64 ((x2.length : Int) - 1))).other).list)) fun y3 =>
       lk ((y2, y3) ∈ x1)
        (w_impl_ValueSame_l1 k x1 (x2.take (Int.toNat (IntKind.wrap .i64 ((x2.length : Int) - 1)))))
        (lk ((y2, y3) ∈ x1)
         (tw (w_impl_ValueSame_l3 k x2 (x2.take (Int.toNat (IntKind.wrap .i64 ((x2.length : Int) - 1)))) 0) fun s3 =>
         w_impl_ValueSame_l1 k x1 s3)
         (tw (w_impl_ValueSame_l2 k x2 (x2.take (Int.toNat (IntKind.wrap .i64 ((x2.length : Int) - 1)))) 0) fun s2 =>
         w_impl_ValueSame_l1 k (x1 ++ [(y2, y3)]) s2))
     else
      rtw (pw false)
    else fw
   else fw
  else
   pw (Lp.go ())
def w_impl_ValueSame (k : Nat) (a0 : Val) (a1 : Val) : W Bool :=
 tw (w_impl_ValueSame_l1 k ([] : List (List Val × List Val)) [(GPair.mk a0 a1)]) fun s1 =>
 pw true
theorem w_impl_ValueSame_ok (k : Nat) : ∀ (a0 : Val) (a1 : Val) (r : Bool), w_impl_ValueSame k a0 a1 (fun x => x = r) → Does Try.prog 18 [.agg [.int .i64 a0.kind, .int .i64 a0.num, .str a0.text, .sl true (a0.list.map encVal), .sl false (a0.names.map encS)], .agg [.int .i64 a1.kind, .int .i64 a1.num, .str a1.text, .sl true (a1.list.map encVal), .sl false (a1.names.map encS)]] [] (ret (.bool r)) := by
 intro a0 a1 r h
 rw [w_impl_ValueSame] at h
 refine does_of_good tabOk Try.func18 rfl (by decide +kernel) (Nat.le_of_ble_eq_true rfl) fun c => ?_
 refine Good.le (σ' := ⟨85, [(0, .agg [.int .i64 a0.kind, .int .i64 a0.num, .str a0.text, .sl true (a0.list.map encVal), .sl false (a0.names.map encS)]), (1, .agg [.int .i64 a1.kind, .int .i64 a1.num, .str a1.text, .sl true (a1.list.map encVal), .sl false (a1.names.map encS)])], []⟩) (Le.refl _) ?_
 refine good_seq fun K1 hK1 => ?_
 refine good_region ?_
 refine g_op rfl (o_box (k := 12) tabOk rfl rfl rfl rfl rfl ?_)
 intro b1
 refine g_op rfl (o_box (k := 13) tabOk rfl rfl rfl rfl rfl ?_)
 intro b2
 refine gs 1 ?_
 refine gk hK1 85 [2, 3, 4] [12, 13] ?_
 refine good_seq fun K2 hK2 => ?_
 refine good_region ?_
 refine g_op rfl (o_makeMap (k := 22) rfl rfl ?_)
 intro w1
 refine gs 1 ?_
 refine gk hK2 85 [2, 3, 4, 5] [12, 13, 22] ?_
 refine good_seq fun K3 hK3 => ?_
 refine rg 2 ?_
 refine g_op rfl (ValOk.op (v_build tabOk (cs := [.int .i64 a0.kind, .int .i64 a0.num, .str a0.text, .sl true (a0.list.map encVal), .sl false (a0.names.map encS), .int .i64 a1.kind, .int .i64 a1.num, .str a1.text, .sl true (a1.list.map encVal), .sl false (a1.names.map encS)]) tzero58 tsok58 rfl rfl rfl ?_))
 refine g_op rfl (o_buildSlice (k := 26) (rows := [(GPair.mk a0 a1)].map encGPair) tabOk telem59 tsize58 rfl rfl rfl rfl (by decide) (by decide) (by rw [tzero58]; rfl) rfl rfl rfl rfl rfl ?_)
 intro w2
 refine gs 1 ?_
 refine gk hK3 85 [4, 5, 6] [22, 26] ?_
 refine good_seq fun K4 hK4 => ?_
 obtain ⟨o1, hJ1, ho1⟩ := twE h
 have hw1 : ∀ (s1 : Unit), o1 (Lp.go s1) → ∀ σ', Le σ' ⟨85, [(4, .bool false)], []⟩ → K4 σ' := by
  intro s1 e1 σ' hle1
  refine hK4 _ (Good.le hle1 ?_)
  replace h := hJ1.1 _ e1
  refine good_seq fun K5 hK5 => ?_
  refine rg 1 ?_
  refine g_nil (hK5 _ ?_)
  obtain rfl := pwE h
  exact rt
 replace h := ho1
 refine good_block ?_
 refine good_loopf (fun p : ((List (List Val × List Val)) × (List GPair) × Value) => ⟨85, [(4, .bool false), (5, .hd 22 w1), (6, .hd 5403 p.2.2)], [(22, (w1, .omp 56 (p.1.map metK))), (5403, (p.2.2, .osl 58 10 (p.2.1.map encGPair)))]⟩) (fun m p => w_impl_ValueSame_l1 m p.1 p.2.1 o1) k (([] : List (List Val × List Val)), [(GPair.mk a0 a1)], w2) (lw [some 22, some 26]) h ?_
 rintro m1 ⟨x1, x2, w3⟩ h
 replace h : w_impl_ValueSame_l1 m1 x1 x2 o1 := h
 refine Good.le (σ' := ⟨85, [(4, .bool false), (5, .hd 22 w1), (6, .hd 5403 w3)], [(22, (w1, .omp 56 (x1.map metK))), (5403, (w3, .osl 58 10 (x2.map encGPair)))]⟩) (Le.refl _) ?_
 obtain ⟨m1, rfl⟩ : ∃ m', m1 = m' + 1 := by cases m1 with | zero => (rw [w_impl_ValueSame_l1] at h; exact fwE h) | succ m' => exact ⟨m', rfl⟩
 rw [w_impl_ValueSame_l1] at h
 refine good_seq fun K6 hK6 => ?_
 refine good_seq fun K7 hK7 => ?_
 refine rg 1 ?_
 refine g_op rfl (ValOk.op (v_lenHM (q := 5403) tabOk ⟨_, rfl⟩ rfl rfl telem59 rfl ?_))
 refine gs 1 ?_
 refine gk hK7 85 [4, 5, 6, 19] [22, 5403] ?_
 refine good_cond rfl (fun hc1 => ?_) (fun hc1 => ?_)
 ·replace h := ifTW h (dT hc1)
  refine good_skip ?_
  refine hK6 _ (kp 85 [4, 5, 6] [22, 5403] ?_)
  refine good_block ?_
  refine good_seq fun K8 hK8 => ?_
  refine rg 2 ?_
  refine g_op rfl (ValOk.op (v_lenHM (q := 5403) tabOk ⟨_, rfl⟩ rfl rfl telem59 rfl ?_))
  refine gs 1 ?_
  obtain ⟨hb1, h⟩ := ifSW h
  refine g_op rfl (ValOk.op (v_idxHM (q := 5403) tabOk ⟨_, rfl⟩ rfl rfl telem59 tsize58 hb1 rfl ?_))
  refine g_op rfl (ValOk.op (v_loadRM tabOk rfl rfl hb1 rfl tsize58 tagg58 rfl rfl rfl rfl ?_))
  refine g_op rfl (o_alloc (k := 17) tabOk tzero58 rfl rfl ?_)
  intro b3
  refine g_op rfl (o_storeP tabOk (cs' := [.int .i64 (((ix x2 (IntKind.wrap .i64 ((x2.length : Int) - 1))).one).kind), .int .i64 (((ix x2 (IntKind.wrap .i64 ((x2.length : Int) - 1))).one).num), .str (((ix x2 (IntKind.wrap .i64 ((x2.length : Int) - 1))).one).text), .sl true ((((ix x2 (IntKind.wrap .i64 ((x2.length : Int) - 1))).one).list).map encVal), .sl false ((((ix x2 (IntKind.wrap .i64 ((x2.length : Int) - 1))).one).names).map encS), .int .i64 (((ix x2 (IntKind.wrap .i64 ((x2.length : Int) - 1))).other).kind), .int .i64 (((ix x2 (IntKind.wrap .i64 ((x2.length : Int) - 1))).other).num), .str (((ix x2 (IntKind.wrap .i64 ((x2.length : Int) - 1))).other).text), .sl true ((((ix x2 (IntKind.wrap .i64 ((x2.length : Int) - 1))).other).list).map encVal), .sl false ((((ix x2 (IntKind.wrap .i64 ((x2.length : Int) - 1))).other).names).map encS)]) rfl rfl tsize58 rfl rfl rfl (Nat.le_of_ble_eq_true rfl) rfl rfl rfl ?_)
  refine gk hK8 85 [4, 5, 6, 7] [22, 5403, 17] ?_
  refine good_seq fun K9 hK9 => ?_
  refine rg 2 ?_
  refine g_op rfl (ValOk.op (v_lenHM (q := 5403) tabOk ⟨_, rfl⟩ rfl rfl telem59 rfl ?_))
  refine gs 1 ?_
  obtain ⟨hb2, h⟩ := ifSW h
  refine g_op rfl (o_sliceHM (q := 5403) (k := 40) tabOk ⟨_, rfl⟩ rfl telem59 tsize58 rfl rfl rfl rfl rfl hb2 ?_)
  intro w4
  refine gs 1 ?_
  refine gk hK9 85 [4, 5, 6, 7] [22, 40, 17] ?_
  refine good_seq fun K10 hK10 => ?_
  refine good_seq fun K11 hK11 => ?_
  refine rg 4 ?_
  obtain ⟨y1, hy1, h⟩ := cwE h
  refine g_op rfl (o_callR [] [] (core_value rfl rfl) (m_impl_sameTop_ok m1 ((ix x2 (IntKind.wrap .i64 ((x2.length : Int) - 1))).one) ((ix x2 (IntKind.wrap .i64 ((x2.length : Int) - 1))).other) _ hy1) trivial (.cons (.refl _) (.cons (.refl _) (.nil))) (.inl rfl) rfl ?_)
  refine gs 1 ?_
  refine gk hK11 85 [4, 5, 6, 7, 36] [22, 40, 17] ?_
  refine good_cond rfl (fun hc2 => ?_) (fun hc2 => ?_)
  ·replace h := bFW h (nT hc2)
   refine good_seq fun K12 hK12 => ?_
   refine rg 1 ?_
   refine gk hK12 85 [4, 5, 6, 7] [22, 40, 17] ?_
   refine Good.le (σ' := ⟨85, [(4, .bool false)], []⟩) (lw []) ?_
   refine good_ret ?_
   replace h := unW h hJ1
   obtain rfl := pwE h
   refine thenQ_ret ?_
   refine blockQ_ret ?_
   refine thenQ_ret ?_
   refine blockQ_ret ?_
   refine thenQ_ret ?_
   exact endQ_ret (h' := []) [] (.tmp rfl (.nil)) trivial (by decide) ⟨rfl, rfl⟩
  ·replace h := ifTW h (nF hc2)
   refine good_skip ?_
   refine hK10 _ (kp 85 [4, 5, 6, 7] [22, 40, 17] ?_)
   refine good_seq fun K13 hK13 => ?_
   refine good_seq fun K14 hK14 => ?_
   refine rg 3 ?_
   refine g_op rfl (ValOk.op (v_lenM (l := ((ix x2 (IntKind.wrap .i64 ((x2.length : Int) - 1))).one).list) (f := encVal) tabOk rfl rfl telem28 rfl ?_))
   refine gs 1 ?_
   refine gk hK14 85 [4, 5, 6, 7, 41] [22, 40, 17] ?_
   refine good_cond rfl (fun hc3 => ?_) (fun hc3 => ?_)
   ·replace h := ifTW h (dT hc3)
    refine good_exit ?_
    exact round_mk m1 (x1, x2.take (Int.toNat (IntKind.wrap .i64 ((x2.length : Int) - 1))), w4) (Nat.lt_succ_self _) h (lw [some 22, some 40])
   ·replace h := ifFW h (dF hc3)
    refine good_skip ?_
    refine hK13 _ (kp 85 [4, 5, 6, 7] [22, 40, 17] ?_)
    refine good_seq fun K15 hK15 => ?_
    obtain ⟨y2, hy2, h⟩ := cwE h
    obtain ⟨y3, hy3, h⟩ := cwE h
    refine good_anyM (by kernel_rfl) [⟨[], [7], [], [], [], []⟩, ⟨[0], [42], [], [], [], []⟩, ⟨[0, 1], [43], [17], [], [], []⟩, ⟨[0, 1, 2], [44], [], [], [], []⟩, ⟨[], [7], [], [], [], []⟩, ⟨[4], [46], [], [], [], []⟩, ⟨[4, 5], [47], [17], [], [], []⟩, ⟨[0, 1, 2, 3, 4, 5, 6], [48], [], [], [], []⟩, ⟨[0, 1, 2, 3, 4, 5, 6, 7], [45, 49], [], [], [], []⟩, ⟨[], [], [], [], [18], [18]⟩, ⟨[0, 1, 2, 3, 4, 5, 6, 7, 8, 9], [8, 50], [18], [18], [9003], []⟩] [some 42, some 43, some 44, some 45, some 46, some 47, some 48, some 49, some 50, some 8, none] 85 [(4, .bool false), (5, .hd 22 w1), (6, .hd 40 w4), (7, .ptr 17 b3 0)] [(22, (w1, .omp 56 (x1.map metK))), (40, (w4, .osl 58 10 ((x2.take (Int.toNat (IntKind.wrap .i64 ((x2.length : Int) - 1)))).map encGPair))), (17, ((.pointer (some ⟨b3, 0, none⟩)), .optr 58 [.int .i64 (((ix x2 (IntKind.wrap .i64 ((x2.length : Int) - 1))).one).kind), .int .i64 (((ix x2 (IntKind.wrap .i64 ((x2.length : Int) - 1))).one).num), .str (((ix x2 (IntKind.wrap .i64 ((x2.length : Int) - 1))).one).text), .sl true ((((ix x2 (IntKind.wrap .i64 ((x2.length : Int) - 1))).one).list).map encVal), .sl false ((((ix x2 (IntKind.wrap .i64 ((x2.length : Int) - 1))).one).names).map encS), .int .i64 (((ix x2 (IntKind.wrap .i64 ((x2.length : Int) - 1))).other).kind), .int .i64 (((ix x2 (IntKind.wrap .i64 ((x2.length : Int) - 1))).other).num), .str (((ix x2 (IntKind.wrap .i64 ((x2.length : Int) - 1))).other).text), .sl true ((((ix x2 (IntKind.wrap .i64 ((x2.length : Int) - 1))).other).list).map encVal), .sl false ((((ix x2 (IntKind.wrap .i64 ((x2.length : Int) - 1))).other).names).map encS)]))] (fun ν1 => [.ptr 17 b3 0, .ptr 17 b3 3, .sl true ((((ix x2 (IntKind.wrap .i64 ((x2.length : Int) - 1))).one).list).map encVal), .agg [.spt (y2.map encVal), .int .i64 (y2.length : Int)], .ptr 17 b3 5, .ptr 17 b3 8, .sl true ((((ix x2 (IntKind.wrap .i64 ((x2.length : Int) - 1))).other).list).map encVal), .agg [.spt (y3.map encVal), .int .i64 (y3.length : Int)], .agg [.spt (y2.map encVal), .int .i64 (y2.length : Int), .spt (y3.map encVal), .int .i64 (y3.length : Int)], .ptr 18 (bse (ν1 18)) 0, .und]) (fun ν1 => [(18, ((.pointer (some ⟨(bse (ν1 18)), 0, none⟩)), .optr 65 [.raw (.pointer none), .int .i64 0, .raw (.pointer none), .int .i64 0])), (9003, ((.pointer (some ⟨(bse (ν1 18)), 0, none⟩)), .optr 65 [.spt (y2.map encVal), .int .i64 (y2.length : Int), .spt (y3.map encVal), .int .i64 (y3.length : Int)]))]) [(18, [18]), (9003, [18]), (22, []), (40, []), (17, [])] [18, 9003] [some 22, some 40, some 17, some 9003] (fun ν1 => [(4, .bool false), (5, .hd 22 w1), (6, .hd 40 w4), (7, .ptr 17 b3 0), (8, .ptr 18 (bse (ν1 18)) 0)]) (fun ν1 => [(22, (w1, .omp 56 (x1.map metK))), (40, (w4, .osl 58 10 ((x2.take (Int.toNat (IntKind.wrap .i64 ((x2.length : Int) - 1)))).map encGPair))), (17, ((.pointer (some ⟨b3, 0, none⟩)), .optr 58 [.int .i64 (((ix x2 (IntKind.wrap .i64 ((x2.length : Int) - 1))).one).kind), .int .i64 (((ix x2 (IntKind.wrap .i64 ((x2.length : Int) - 1))).one).num), .str (((ix x2 (IntKind.wrap .i64 ((x2.length : Int) - 1))).one).text), .sl true ((((ix x2 (IntKind.wrap .i64 ((x2.length : Int) - 1))).one).list).map encVal), .sl false ((((ix x2 (IntKind.wrap .i64 ((x2.length : Int) - 1))).one).names).map encS), .int .i64 (((ix x2 (IntKind.wrap .i64 ((x2.length : Int) - 1))).other).kind), .int .i64 (((ix x2 (IntKind.wrap .i64 ((x2.length : Int) - 1))).other).num), .str (((ix x2 (IntKind.wrap .i64 ((x2.length : Int) - 1))).other).text), .sl true ((((ix x2 (IntKind.wrap .i64 ((x2.length : Int) - 1))).other).list).map encVal), .sl false ((((ix x2 (IntKind.wrap .i64 ((x2.length : Int) - 1))).other).names).map encS)])), (18, ((.pointer (some ⟨(bse (ν1 18)), 0, none⟩)), .optr 65 [.spt (y2.map encVal), .int .i64 (y2.length : Int), .spt (y3.map encVal), .int .i64 (y3.length : Int)]))]) (lw [some 22, some 40, some 17]) (by kernel_rfl) ⟨?_, ⟨?_, ⟨?_, ⟨?_, ⟨?_, ⟨?_, ⟨?_, ⟨?_, ⟨?_, ⟨?_, ⟨?_, trivial⟩⟩⟩⟩⟩⟩⟩⟩⟩⟩⟩ ⟨fun _ _ _ => rfl, ⟨fun _ _ _ => rfl, ⟨fun _ _ _ => rfl, ⟨fun _ _ _ => rfl, ⟨fun _ _ _ => rfl, ⟨fun _ _ _ => rfl, ⟨fun _ _ _ => rfl, ⟨fun _ _ _ => rfl, ⟨fun _ _ _ => rfl, ⟨fun _ _ h => (congrArg (fun zz0 => (some (.ptr 18 (bse zz0) 0) : Option AV)) (h 18 (by decide))), ⟨fun _ _ _ => rfl, trivial⟩⟩⟩⟩⟩⟩⟩⟩⟩⟩⟩ ⟨fun _ _ h => (congrArg (fun zz0 => (some ((.pointer (some ⟨(bse zz0), 0, none⟩)), .optr 65 [.raw (.pointer none), .int .i64 0, .raw (.pointer none), .int .i64 0]) : Option (Value × AV))) (h 18 (by decide))), ⟨fun _ _ h => (congrArg (fun zz0 => (some ((.pointer (some ⟨(bse zz0), 0, none⟩)), .optr 65 [.spt (y2.map encVal), .int .i64 (y2.length : Int), .spt (y3.map encVal), .int .i64 (y3.length : Int)]) : Option (Value × AV))) (h 18 (by decide))), ⟨fun _ _ _ => rfl, ⟨fun _ _ _ => rfl, ⟨fun _ _ _ => rfl, trivial⟩⟩⟩⟩⟩ (fun _ => rfl) (fun _ => rfl) (by kernel_rfl) (fun _ => ⟨⟨_, rfl, .refl _⟩, ⟨⟨_, rfl, .refl _⟩, ⟨⟨_, rfl, .refl _⟩, ⟨⟨_, rfl, .refl _⟩, ⟨⟨_, rfl, .refl _⟩, trivial⟩⟩⟩⟩⟩) (fun _ => ⟨⟨_, rfl, .refl _⟩, ⟨⟨_, rfl, .refl _⟩, ⟨⟨_, rfl, .refl _⟩, ⟨⟨_, rfl, .refl _⟩, trivial⟩⟩⟩⟩) (by kernel_rfl) (by decide) ?_
    ·refine local_mk (fun ν1 => [(7, .ptr 17 b3 0)]) (fun ν1 => []) (fun _ => rfl) (fun _ => ⟨⟨_, rfl, .refl _, .refl _⟩, trivial⟩) (fun _ => rfl) (fun _ => trivial) ?_
     intro ν1 S H hS hfr
     refine st_op rfl (ValOk.op (v_fieldP tabOk rfl tfoff58_0 rfl ?_))
     exact lp_v hS rfl rfl (fun _ => rfl)
    ·refine local_mk (fun ν1 => [(42, .ptr 17 b3 0)]) (fun ν1 => []) (fun _ => rfl) (fun _ => ⟨⟨_, rfl, .refl _, .refl _⟩, trivial⟩) (fun _ => rfl) (fun _ => trivial) ?_
     intro ν1 S H hS hfr
     refine st_op rfl (ValOk.op (v_fieldP tabOk rfl tfoff30_3 rfl ?_))
     exact lp_v hS rfl rfl (fun _ => rfl)
    ·refine local_mk (fun ν1 => [(43, .ptr 17 b3 3)]) (fun ν1 => [(17, ((.pointer (some ⟨b3, 0, none⟩)), .optr 58 [.int .i64 (((ix x2 (IntKind.wrap .i64 ((x2.length : Int) - 1))).one).kind), .int .i64 (((ix x2 (IntKind.wrap .i64 ((x2.length : Int) - 1))).one).num), .str (((ix x2 (IntKind.wrap .i64 ((x2.length : Int) - 1))).one).text), .sl true ((((ix x2 (IntKind.wrap .i64 ((x2.length : Int) - 1))).one).list).map encVal), .sl false ((((ix x2 (IntKind.wrap .i64 ((x2.length : Int) - 1))).one).names).map encS), .int .i64 (((ix x2 (IntKind.wrap .i64 ((x2.length : Int) - 1))).other).kind), .int .i64 (((ix x2 (IntKind.wrap .i64 ((x2.length : Int) - 1))).other).num), .str (((ix x2 (IntKind.wrap .i64 ((x2.length : Int) - 1))).other).text), .sl true ((((ix x2 (IntKind.wrap .i64 ((x2.length : Int) - 1))).other).list).map encVal), .sl false ((((ix x2 (IntKind.wrap .i64 ((x2.length : Int) - 1))).other).names).map encS)]))]) (fun _ => rfl) (fun _ => ⟨⟨_, rfl, .refl _, .refl _⟩, trivial⟩) (fun _ => rfl) (fun _ => ⟨rfl, trivial⟩) ?_
     intro ν1 S H hS hfr
     refine st_op rfl (ValOk.op (v_loadP tabOk rfl rfl tsize28 tagg28 rfl rfl rfl rfl ?_))
     exact lp_v hS rfl rfl (fun _ => rfl)
    ·refine local_mk (fun ν1 => [(44, .sl true ((((ix x2 (IntKind.wrap .i64 ((x2.length : Int) - 1))).one).list).map encVal))]) (fun ν1 => []) (fun _ => rfl) (fun _ => ⟨⟨_, rfl, .refl _, .refl _⟩, trivial⟩) (fun _ => rfl) (fun _ => trivial) ?_
     intro ν1 S H hS hfr
     refine st_op rfl (o_callR [] [] (core_value rfl rfl) (m_impl_spanOf_ok (((ix x2 (IntKind.wrap .i64 ((x2.length : Int) - 1))).one).list) _ hy2) trivial (.cons (.refl _) (.nil)) (.inl rfl) rfl ?_)
     exact lp_v hS rfl rfl (fun _ => rfl)
    ·refine local_mk (fun ν1 => [(7, .ptr 17 b3 0)]) (fun ν1 => []) (fun _ => rfl) (fun _ => ⟨⟨_, rfl, .refl _, .refl _⟩, trivial⟩) (fun _ => rfl) (fun _ => trivial) ?_
     intro ν1 S H hS hfr
     refine st_op rfl (ValOk.op (v_fieldP tabOk rfl tfoff58_1 rfl ?_))
     exact lp_v hS rfl rfl (fun _ => rfl)
    ·refine local_mk (fun ν1 => [(46, .ptr 17 b3 5)]) (fun ν1 => []) (fun _ => rfl) (fun _ => ⟨⟨_, rfl, .refl _, .refl _⟩, trivial⟩) (fun _ => rfl) (fun _ => trivial) ?_
     intro ν1 S H hS hfr
     refine st_op rfl (ValOk.op (v_fieldP tabOk rfl tfoff30_3 rfl ?_))
     exact lp_v hS rfl rfl (fun _ => rfl)
    ·refine local_mk (fun ν1 => [(47, .ptr 17 b3 8)]) (fun ν1 => [(17, ((.pointer (some ⟨b3, 0, none⟩)), .optr 58 [.int .i64 (((ix x2 (IntKind.wrap .i64 ((x2.length : Int) - 1))).one).kind), .int .i64 (((ix x2 (IntKind.wrap .i64 ((x2.length : Int) - 1))).one).num), .str (((ix x2 (IntKind.wrap .i64 ((x2.length : Int) - 1))).one).text), .sl true ((((ix x2 (IntKind.wrap .i64 ((x2.length : Int) - 1))).one).list).map encVal), .sl false ((((ix x2 (IntKind.wrap .i64 ((x2.length : Int) - 1))).one).names).map encS), .int .i64 (((ix x2 (IntKind.wrap .i64 ((x2.length : Int) - 1))).other).kind), .int .i64 (((ix x2 (IntKind.wrap .i64 ((x2.length : Int) - 1))).other).num), .str (((ix x2 (IntKind.wrap .i64 ((x2.length : Int) - 1))).other).text), .sl true ((((ix x2 (IntKind.wrap .i64 ((x2.length : Int) - 1))).other).list).map encVal), .sl false ((((ix x2 (IntKind.wrap .i64 ((x2.length : Int) - 1))).other).names).map encS)]))]) (fun _ => rfl) (fun _ => ⟨⟨_, rfl, .refl _, .refl _⟩, trivial⟩) (fun _ => rfl) (fun _ => ⟨rfl, trivial⟩) ?_
     intro ν1 S H hS hfr
     refine st_op rfl (ValOk.op (v_loadP tabOk rfl rfl tsize28 tagg28 rfl rfl rfl rfl ?_))
     exact lp_v hS rfl rfl (fun _ => rfl)
    ·refine local_mk (fun ν1 => [(48, .sl true ((((ix x2 (IntKind.wrap .i64 ((x2.length : Int) - 1))).other).list).map encVal))]) (fun ν1 => []) (fun _ => rfl) (fun _ => ⟨⟨_, rfl, .refl _, .refl _⟩, trivial⟩) (fun _ => rfl) (fun _ => trivial) ?_
     intro ν1 S H hS hfr
     refine st_op rfl (o_callR [] [] (core_value rfl rfl) (m_impl_spanOf_ok (((ix x2 (IntKind.wrap .i64 ((x2.length : Int) - 1))).other).list) _ hy3) trivial (.cons (.refl _) (.nil)) (.inl rfl) rfl ?_)
     exact lp_v hS rfl rfl (fun _ => rfl)
    ·refine local_mk (fun ν1 => [(45, .agg [.spt (y2.map encVal), .int .i64 (y2.length : Int)]), (49, .agg [.spt (y3.map encVal), .int .i64 (y3.length : Int)])]) (fun ν1 => []) (fun _ => rfl) (fun _ => ⟨⟨_, rfl, .refl _, .refl _⟩, ⟨⟨_, rfl, .refl _, .refl _⟩, trivial⟩⟩) (fun _ => rfl) (fun _ => trivial) ?_
     intro ν1 S H hS hfr
     refine st_op rfl (ValOk.op (v_build tabOk (cs := [.spt (y2.map encVal), .int .i64 (y2.length : Int), .spt (y3.map encVal), .int .i64 (y3.length : Int)]) tzero65 tsok65 rfl rfl rfl ?_))
     exact lp_v hS rfl rfl (fun _ => rfl)
    ·refine local_mk (fun ν1 => []) (fun ν1 => []) (fun _ => rfl) (fun _ => trivial) (fun _ => rfl) (fun _ => trivial) ?_
     intro ν1 S H hS hfr
     refine st_op rfl (o_alloc (k := 18) tabOk tzero65 (hfr _ (by decide)) rfl ?_)
     intro w
     exact lp_n (k := 18) hS rfl rfl (fun _ => rfl) rfl
    ·refine local_mk (fun ν1 => [(8, .ptr 18 (bse (ν1 18)) 0), (50, .agg [.spt (y2.map encVal), .int .i64 (y2.length : Int), .spt (y3.map encVal), .int .i64 (y3.length : Int)])]) (fun ν1 => [(18, ((.pointer (some ⟨(bse (ν1 18)), 0, none⟩)), .optr 65 [.raw (.pointer none), .int .i64 0, .raw (.pointer none), .int .i64 0]))]) (fun _ => rfl) (fun _ => ⟨⟨_, rfl, .refl _, .refl _⟩, ⟨⟨_, rfl, .refl _, .refl _⟩, trivial⟩⟩) (fun _ => rfl) (fun _ => ⟨rfl, trivial⟩) ?_
     intro ν1 S H hS hfr
     refine st_op rfl (o_storeP tabOk (cs' := [.spt (y2.map encVal), .int .i64 (y2.length : Int), .spt (y3.map encVal), .int .i64 (y3.length : Int)]) rfl rfl tsize65 rfl rfl rfl (Nat.le_of_ble_eq_true rfl) rfl rfl rfl ?_)
     exact lp_m (k := 9003) hS rfl rfl (.inr (by decide)) (fun _ => rfl) rfl
    intro ν1
    refine hK15 _ ?_
    refine good_seq fun K16 hK16 => ?_
    refine good_seq fun K17 hK17 => ?_
    refine rg 2 ?_
    obtain ⟨h, hA1⟩ := lkE h
    refine g_op rfl (o_lookup (q := 22) (ks := x1) (x := (y2, y3)) (f := metK) Try.underlying56 key_met zero_unit ⟨_, rfl⟩ rfl rfl rfl ?_ (fun hm1 => ?_))
    ·clear hA1
     refine gs 3 ?_
     refine g_op rfl (o_alloc (k := 19) tabOk tzero66 rfl rfl ?_)
     intro b4
     refine g_op rfl (o_storeP tabOk (cs' := []) rfl rfl tsize66 rfl rfl rfl (Nat.le_of_ble_eq_true rfl) rfl rfl rfl ?_)
     refine gs 1 ?_
     refine gk hK17 85 [4, 5, 6, 7, 8, 10] [22, 40, 17, 18] ?_
     refine good_seq fun K18 hK18 => ?_
     refine rg 1 ?_
     refine gk hK18 85 [4, 5, 6, 7, 8, 57] [22, 40, 17, 18] ?_
     refine good_cond (b := false) rfl (fun hc => Bool.noConfusion hc) (fun hc => ?_)
     refine good_skip ?_
     refine hK16 _ (kp 85 [4, 5, 6, 7, 8] [22, 40, 17, 18] ?_)
     refine good_seq fun K19 hK19 => ?_
     refine rg 2 ?_
     refine g_op rfl (ValOk.op (v_build tabOk (cs := []) tzero66 tsok66 rfl rfl rfl ?_))
     obtain ⟨h, hA2⟩ := lkE h
     refine g_op rfl (o_mapUpdate (q := 22) (k := 22) (ks := x1) (x := (y2, y3)) (f := metK) Try.underlying56 key_met ⟨_, rfl⟩ rfl rfl rfl rfl rfl ?_ (fun hm2 => ?_))
     ·clear hA2
      refine gk hK19 85 [4, 5, 6, 7] [22, 40, 17] ?_
      refine good_seq fun K20 hK20 => ?_
      refine rg 3 ?_
      refine g_op rfl (ValOk.op (v_lenM (l := ((ix x2 (IntKind.wrap .i64 ((x2.length : Int) - 1))).one).list) (f := encVal) tabOk rfl rfl telem28 rfl ?_))
      refine gs 1 ?_
      refine gk hK20 85 [4, 5, 6, 7, 64, 65] [22, 40, 17] ?_
      refine good_namedL fun K21 hK21 => ?_
      obtain ⟨o2, hJ2, ho2⟩ := twE h
      have hw2 : ∀ (s2 : (List GPair)) (w6 : Value), o2 (Lp.go s2) → ∀ σ', Le σ' ⟨85, [(4, .bool false), (5, .hd 22 w1), (6, .hd 7005 w6)], [(22, (w1, .omp 56 ((x1 ++ [(y2, y3)]).map metK))), (7005, (w6, .osl 58 10 (s2.map encGPair)))]⟩ → K21 σ' := by
       intro s2 w6 e2 σ' hle2
       replace h := hJ2.1 _ e2
       refine hK21 _ ⟨85, [(4, .bool false), (5, .hd 22 w1), (6, .hd 7005 w6)], [(22, (w1, .omp 56 ((x1 ++ [(y2, y3)]).map metK))), (7005, (w6, .osl 58 10 (s2.map encGPair)))]⟩ hle2 ?_
       exact round_mk m1 ((x1 ++ [(y2, y3)]), s2, w6) (Nat.lt_succ_self _) h (lw [some 22, some 7005])
      replace h := ho2
      refine good_block ?_
      refine good_loopf (fun p : ((List GPair) × Int × Value) => ⟨85, [(4, .bool false), (5, .hd 22 w1), (6, .hd 7006 p.2.2), (7, .ptr 17 b3 0), (64, .int .i64 ((((ix x2 (IntKind.wrap .i64 ((x2.length : Int) - 1))).one).list).length : Int)), (65, .int .i64 p.2.1)], [(22, (w1, .omp 56 ((x1 ++ [(y2, y3)]).map metK))), (7006, (p.2.2, .osl 58 10 (p.1.map encGPair))), (17, ((.pointer (some ⟨b3, 0, none⟩)), .optr 58 [.int .i64 (((ix x2 (IntKind.wrap .i64 ((x2.length : Int) - 1))).one).kind), .int .i64 (((ix x2 (IntKind.wrap .i64 ((x2.length : Int) - 1))).one).num), .str (((ix x2 (IntKind.wrap .i64 ((x2.length : Int) - 1))).one).text), .sl true ((((ix x2 (IntKind.wrap .i64 ((x2.length : Int) - 1))).one).list).map encVal), .sl false ((((ix x2 (IntKind.wrap .i64 ((x2.length : Int) - 1))).one).names).map encS), .int .i64 (((ix x2 (IntKind.wrap .i64 ((x2.length : Int) - 1))).other).kind), .int .i64 (((ix x2 (IntKind.wrap .i64 ((x2.length : Int) - 1))).other).num), .str (((ix x2 (IntKind.wrap .i64 ((x2.length : Int) - 1))).other).text), .sl true ((((ix x2 (IntKind.wrap .i64 ((x2.length : Int) - 1))).other).list).map encVal), .sl false ((((ix x2 (IntKind.wrap .i64 ((x2.length : Int) - 1))).other).names).map encS)]))]⟩) (fun m p => w_impl_ValueSame_l2 m x2 p.1 p.2.1 o2) m1 (x2.take (Int.toNat (IntKind.wrap .i64 ((x2.length : Int) - 1))), 0, w4) (lw [some 22, some 40, some 17]) h ?_
      rintro m2 ⟨x3, x4, w5⟩ h
      replace h : w_impl_ValueSame_l2 m2 x2 x3 x4 o2 := h
      refine Good.le (σ' := ⟨85, [(4, .bool false), (5, .hd 22 w1), (6, .hd 7006 w5), (7, .ptr 17 b3 0), (64, .int .i64 ((((ix x2 (IntKind.wrap .i64 ((x2.length : Int) - 1))).one).list).length : Int)), (65, .int .i64 x4)], [(22, (w1, .omp 56 ((x1 ++ [(y2, y3)]).map metK))), (7006, (w5, .osl 58 10 (x3.map encGPair))), (17, ((.pointer (some ⟨b3, 0, none⟩)), .optr 58 [.int .i64 (((ix x2 (IntKind.wrap .i64 ((x2.length : Int) - 1))).one).kind), .int .i64 (((ix x2 (IntKind.wrap .i64 ((x2.length : Int) - 1))).one).num), .str (((ix x2 (IntKind.wrap .i64 ((x2.length : Int) - 1))).one).text), .sl true ((((ix x2 (IntKind.wrap .i64 ((x2.length : Int) - 1))).one).list).map encVal), .sl false ((((ix x2 (IntKind.wrap .i64 ((x2.length : Int) - 1))).one).names).map encS), .int .i64 (((ix x2 (IntKind.wrap .i64 ((x2.length : Int) - 1))).other).kind), .int .i64 (((ix x2 (IntKind.wrap .i64 ((x2.length : Int) - 1))).other).num), .str (((ix x2 (IntKind.wrap .i64 ((x2.length : Int) - 1))).other).text), .sl true ((((ix x2 (IntKind.wrap .i64 ((x2.length : Int) - 1))).other).list).map encVal), .sl false ((((ix x2 (IntKind.wrap .i64 ((x2.length : Int) - 1))).other).names).map encS)]))]⟩) (Le.refl _) ?_
      obtain ⟨m2, rfl⟩ : ∃ m', m2 = m' + 1 := by cases m2 with | zero => (rw [w_impl_ValueSame_l2] at h; exact fwE h) | succ m' => exact ⟨m', rfl⟩
      rw [w_impl_ValueSame_l2] at h
      refine good_seq fun K22 hK22 => ?_
      refine rg 1 ?_
      refine g_nil (hK22 _ ?_)
      refine good_seq fun K23 hK23 => ?_
      refine good_cond rfl (fun hc4 => ?_) (fun hc4 => ?_)
      ·replace h := ifTW h (dT hc4)
       refine good_skip ?_
       refine hK23 _ (kp 85 [4, 5, 6, 7, 64, 65] [22, 7006, 17] ?_)
       refine good_seq fun K24 hK24 => ?_
       refine good_block ?_
       refine good_seq fun K25 hK25 => ?_
       refine rg 2 ?_
       refine gk hK25 85 [4, 5, 6, 7, 11, 64, 65] [22, 7006, 17] ?_
       obtain ⟨hb3, h⟩ := ifSW h
       obtain ⟨hb4, h⟩ := ifSW h
       obtain ⟨hb5, h⟩ := ifSW h
       refine good_anyM (by kernel_rfl) [⟨[], [6], [], [], [], []⟩, ⟨[], [7], [], [], [], []⟩, ⟨[1], [69], [], [], [], []⟩, ⟨[1, 2], [70], [17], [], [], []⟩, ⟨[], [11], [], [], [], []⟩, ⟨[1, 2, 3, 4], [71, 72], [], [], [], []⟩, ⟨[1, 2, 3, 4, 5], [73], [], [], [], []⟩, ⟨[], [7], [], [], [], []⟩, ⟨[7], [75], [], [], [], []⟩, ⟨[7, 8], [76], [17], [], [], []⟩, ⟨[], [11], [], [], [], []⟩, ⟨[7, 8, 9, 10], [77, 78], [], [], [], []⟩, ⟨[7, 8, 9, 10, 11], [79], [], [], [], []⟩, ⟨[1, 2, 3, 4, 5, 6, 7, 8, 9, 10, 11, 12], [74, 80], [], [], [], []⟩, ⟨[1, 2, 3, 4, 5, 6, 7, 8, 9, 10, 11, 12, 13], [81], [], [], [], []⟩, ⟨[0, 1, 2, 3, 4, 5, 6, 7, 8, 9, 10, 11, 12, 13, 14], [68, 82], [7006], [7006], [93], [93]⟩, ⟨[0, 1, 2, 3, 4, 5, 6, 7, 8, 9, 10, 11, 12, 13, 14, 15], [83], [], [], [], [93]⟩] [some 68, some 69, some 70, some 71, some 72, some 73, some 74, some 75, some 76, some 77, some 78, some 79, some 80, some 81, some 82, some 83, some 6] 85 [(4, .bool false), (5, .hd 22 w1), (6, .hd 7006 w5), (7, .ptr 17 b3 0), (11, .int .i64 x4), (64, .int .i64 ((((ix x2 (IntKind.wrap .i64 ((x2.length : Int) - 1))).one).list).length : Int)), (65, .int .i64 x4)] [(22, (w1, .omp 56 ((x1 ++ [(y2, y3)]).map metK))), (7006, (w5, .osl 58 10 (x3.map encGPair))), (17, ((.pointer (some ⟨b3, 0, none⟩)), .optr 58 [.int .i64 (((ix x2 (IntKind.wrap .i64 ((x2.length : Int) - 1))).one).kind), .int .i64 (((ix x2 (IntKind.wrap .i64 ((x2.length : Int) - 1))).one).num), .str (((ix x2 (IntKind.wrap .i64 ((x2.length : Int) - 1))).one).text), .sl true ((((ix x2 (IntKind.wrap .i64 ((x2.length : Int) - 1))).one).list).map encVal), .sl false ((((ix x2 (IntKind.wrap .i64 ((x2.length : Int) - 1))).one).names).map encS), .int .i64 (((ix x2 (IntKind.wrap .i64 ((x2.length : Int) - 1))).other).kind), .int .i64 (((ix x2 (IntKind.wrap .i64 ((x2.length : Int) - 1))).other).num), .str (((ix x2 (IntKind.wrap .i64 ((x2.length : Int) - 1))).other).text), .sl true ((((ix x2 (IntKind.wrap .i64 ((x2.length : Int) - 1))).other).list).map encVal), .sl false ((((ix x2 (IntKind.wrap .i64 ((x2.length : Int) - 1))).other).names).map encS)]))] (fun ν2 => [.hd 7006 w5, .ptr 17 b3 0, .ptr 17 b3 3, .sl true ((((ix x2 (IntKind.wrap .i64 ((x2.length : Int) - 1))).one).list).map encVal), .int .i64 x4, .eptr [.int .i64 ((ix (((ix x2 (IntKind.wrap .i64 ((x2.length : Int) - 1))).one).list) x4).kind), .int .i64 ((ix (((ix x2 (IntKind.wrap .i64 ((x2.length : Int) - 1))).one).list) x4).num), .str ((ix (((ix x2 (IntKind.wrap .i64 ((x2.length : Int) - 1))).one).list) x4).text), .sl true (((ix (((ix x2 (IntKind.wrap .i64 ((x2.length : Int) - 1))).one).list) x4).list).map encVal), .sl false (((ix (((ix x2 (IntKind.wrap .i64 ((x2.length : Int) - 1))).one).list) x4).names).map encS)], .agg [.int .i64 ((ix (((ix x2 (IntKind.wrap .i64 ((x2.length : Int) - 1))).one).list) x4).kind), .int .i64 ((ix (((ix x2 (IntKind.wrap .i64 ((x2.length : Int) - 1))).one).list) x4).num), .str ((ix (((ix x2 (IntKind.wrap .i64 ((x2.length : Int) - 1))).one).list) x4).text), .sl true (((ix (((ix x2 (IntKind.wrap .i64 ((x2.length : Int) - 1))).one).list) x4).list).map encVal), .sl false (((ix (((ix x2 (IntKind.wrap .i64 ((x2.length : Int) - 1))).one).list) x4).names).map encS)], .ptr 17 b3 5, .ptr 17 b3 8, .sl true ((((ix x2 (IntKind.wrap .i64 ((x2.length : Int) - 1))).other).list).map encVal), .int .i64 x4, .eptr [.int .i64 ((ix (((ix x2 (IntKind.wrap .i64 ((x2.length : Int) - 1))).other).list) x4).kind), .int .i64 ((ix (((ix x2 (IntKind.wrap .i64 ((x2.length : Int) - 1))).other).list) x4).num), .str ((ix (((ix x2 (IntKind.wrap .i64 ((x2.length : Int) - 1))).other).list) x4).text), .sl true (((ix (((ix x2 (IntKind.wrap .i64 ((x2.length : Int) - 1))).other).list) x4).list).map encVal), .sl false (((ix (((ix x2 (IntKind.wrap .i64 ((x2.length : Int) - 1))).other).list) x4).names).map encS)], .agg [.int .i64 ((ix (((ix x2 (IntKind.wrap .i64 ((x2.length : Int) - 1))).other).list) x4).kind), .int .i64 ((ix (((ix x2 (IntKind.wrap .i64 ((x2.length : Int) - 1))).other).list) x4).num), .str ((ix (((ix x2 (IntKind.wrap .i64 ((x2.length : Int) - 1))).other).list) x4).text), .sl true (((ix (((ix x2 (IntKind.wrap .i64 ((x2.length : Int) - 1))).other).list) x4).list).map encVal), .sl false (((ix (((ix x2 (IntKind.wrap .i64 ((x2.length : Int) - 1))).other).list) x4).names).map encS)], .agg [.int .i64 ((ix (((ix x2 (IntKind.wrap .i64 ((x2.length : Int) - 1))).one).list) x4).kind), .int .i64 ((ix (((ix x2 (IntKind.wrap .i64 ((x2.length : Int) - 1))).one).list) x4).num), .str ((ix (((ix x2 (IntKind.wrap .i64 ((x2.length : Int) - 1))).one).list) x4).text), .sl true (((ix (((ix x2 (IntKind.wrap .i64 ((x2.length : Int) - 1))).one).list) x4).list).map encVal), .sl false (((ix (((ix x2 (IntKind.wrap .i64 ((x2.length : Int) - 1))).one).list) x4).names).map encS), .int .i64 ((ix (((ix x2 (IntKind.wrap .i64 ((x2.length : Int) - 1))).other).list) x4).kind), .int .i64 ((ix (((ix x2 (IntKind.wrap .i64 ((x2.length : Int) - 1))).other).list) x4).num), .str ((ix (((ix x2 (IntKind.wrap .i64 ((x2.length : Int) - 1))).other).list) x4).text), .sl true (((ix (((ix x2 (IntKind.wrap .i64 ((x2.length : Int) - 1))).other).list) x4).list).map encVal), .sl false (((ix (((ix x2 (IntKind.wrap .i64 ((x2.length : Int) - 1))).other).list) x4).names).map encS)], .sl false ([(GPair.mk (ix (((ix x2 (IntKind.wrap .i64 ((x2.length : Int) - 1))).one).list) x4) (ix (((ix x2 (IntKind.wrap .i64 ((x2.length : Int) - 1))).other).list) x4))].map encGPair), .hd 93 (ν2 93), .hd 93 (ν2 93)]) (fun ν2 => [(93, ((ν2 93), .osl 58 10 ((x3 ++ [(GPair.mk (ix (((ix x2 (IntKind.wrap .i64 ((x2.length : Int) - 1))).one).list) x4) (ix (((ix x2 (IntKind.wrap .i64 ((x2.length : Int) - 1))).other).list) x4))]).map encGPair)))]) [(93, [93]), (22, []), (7006, []), (17, [])] [93] [some 22, some 93, some 17] (fun ν2 => [(4, .bool false), (5, .hd 22 w1), (6, .hd 93 (ν2 93)), (7, .ptr 17 b3 0), (64, .int .i64 ((((ix x2 (IntKind.wrap .i64 ((x2.length : Int) - 1))).one).list).length : Int)), (65, .int .i64 x4)]) (fun ν2 => [(22, (w1, .omp 56 ((x1 ++ [(y2, y3)]).map metK))), (93, ((ν2 93), .osl 58 10 ((x3 ++ [(GPair.mk (ix (((ix x2 (IntKind.wrap .i64 ((x2.length : Int) - 1))).one).list) x4) (ix (((ix x2 (IntKind.wrap .i64 ((x2.length : Int) - 1))).other).list) x4))]).map encGPair))), (17, ((.pointer (some ⟨b3, 0, none⟩)), .optr 58 [.int .i64 (((ix x2 (IntKind.wrap .i64 ((x2.length : Int) - 1))).one).kind), .int .i64 (((ix x2 (IntKind.wrap .i64 ((x2.length : Int) - 1))).one).num), .str (((ix x2 (IntKind.wrap .i64 ((x2.length : Int) - 1))).one).text), .sl true ((((ix x2 (IntKind.wrap .i64 ((x2.length : Int) - 1))).one).list).map encVal), .sl false ((((ix x2 (IntKind.wrap .i64 ((x2.length : Int) - 1))).one).names).map encS), .int .i64 (((ix x2 (IntKind.wrap .i64 ((x2.length : Int) - 1))).other).kind), .int .i64 (((ix x2 (IntKind.wrap .i64 ((x2.length : Int) - 1))).other).num), .str (((ix x2 (IntKind.wrap .i64 ((x2.length : Int) - 1))).other).text), .sl true ((((ix x2 (IntKind.wrap .i64 ((x2.length : Int) - 1))).other).list).map encVal), .sl false ((((ix x2 (IntKind.wrap .i64 ((x2.length : Int) - 1))).other).names).map encS)]))]) (lw [some 22, some 7006, some 17]) (by kernel_rfl) ⟨?_, ⟨?_, ⟨?_, ⟨?_, ⟨?_, ⟨?_, ⟨?_, ⟨?_, ⟨?_, ⟨?_, ⟨?_, ⟨?_, ⟨?_, ⟨?_, ⟨?_, ⟨?_, ⟨?_, trivial⟩⟩⟩⟩⟩⟩⟩⟩⟩⟩⟩⟩⟩⟩⟩⟩⟩ ⟨fun _ _ _ => rfl, ⟨fun _ _ _ => rfl, ⟨fun _ _ _ => rfl, ⟨fun _ _ _ => rfl, ⟨fun _ _ _ => rfl, ⟨fun _ _ _ => rfl, ⟨fun _ _ _ => rfl, ⟨fun _ _ _ => rfl, ⟨fun _ _ _ => rfl, ⟨fun _ _ _ => rfl, ⟨fun _ _ _ => rfl, ⟨fun _ _ _ => rfl, ⟨fun _ _ _ => rfl, ⟨fun _ _ _ => rfl, ⟨fun _ _ _ => rfl, ⟨fun _ _ h => (congrArg (fun zz0 => (some (.hd 93 zz0) : Option AV)) (h 93 (by decide))), ⟨fun _ _ h => (congrArg (fun zz0 => (some (.hd 93 zz0) : Option AV)) (h 93 (by decide))), trivial⟩⟩⟩⟩⟩⟩⟩⟩⟩⟩⟩⟩⟩⟩⟩⟩⟩ ⟨fun _ _ h => (congrArg (fun zz0 => (some (zz0, .osl 58 10 ((x3 ++ [(GPair.mk (ix (((ix x2 (IntKind.wrap .i64 ((x2.length : Int) - 1))).one).list) x4) (ix (((ix x2 (IntKind.wrap .i64 ((x2.length : Int) - 1))).other).list) x4))]).map encGPair)) : Option (Value × AV))) (h 93 (by decide))), ⟨fun _ _ _ => rfl, ⟨fun _ _ _ => rfl, ⟨fun _ _ _ => rfl, trivial⟩⟩⟩⟩ (fun _ => rfl) (fun _ => rfl) (by kernel_rfl) (fun _ => ⟨⟨_, rfl, .refl _⟩, ⟨⟨_, rfl, .refl _⟩, ⟨⟨_, rfl, .refl _⟩, ⟨⟨_, rfl, .refl _⟩, ⟨⟨_, rfl, .refl _⟩, ⟨⟨_, rfl, .refl _⟩, trivial⟩⟩⟩⟩⟩⟩) (fun _ => ⟨⟨_, rfl, .refl _⟩, ⟨⟨_, rfl, .refl _⟩, ⟨⟨_, rfl, .refl _⟩, trivial⟩⟩⟩) (by kernel_rfl) (by decide) ?_
       ·refine local_mk (fun ν2 => [(6, .hd 7006 w5)]) (fun ν2 => []) (fun _ => rfl) (fun _ => ⟨⟨_, rfl, .refl _, .refl _⟩, trivial⟩) (fun _ => rfl) (fun _ => trivial) ?_
        intro ν2 S H hS hfr
        refine st_op rfl (ValOk.op (v_move rfl rfl ?_))
        exact lp_v hS rfl rfl (fun _ => rfl)
       ·refine local_mk (fun ν2 => [(7, .ptr 17 b3 0)]) (fun ν2 => []) (fun _ => rfl) (fun _ => ⟨⟨_, rfl, .refl _, .refl _⟩, trivial⟩) (fun _ => rfl) (fun _ => trivial) ?_
        intro ν2 S H hS hfr
        refine st_op rfl (ValOk.op (v_fieldP tabOk rfl tfoff58_0 rfl ?_))
        exact lp_v hS rfl rfl (fun _ => rfl)
       ·refine local_mk (fun ν2 => [(69, .ptr 17 b3 0)]) (fun ν2 => []) (fun _ => rfl) (fun _ => ⟨⟨_, rfl, .refl _, .refl _⟩, trivial⟩) (fun _ => rfl) (fun _ => trivial) ?_
        intro ν2 S H hS hfr
        refine st_op rfl (ValOk.op (v_fieldP tabOk rfl tfoff30_3 rfl ?_))
        exact lp_v hS rfl rfl (fun _ => rfl)
       ·refine local_mk (fun ν2 => [(70, .ptr 17 b3 3)]) (fun ν2 => [(17, ((.pointer (some ⟨b3, 0, none⟩)), .optr 58 [.int .i64 (((ix x2 (IntKind.wrap .i64 ((x2.length : Int) - 1))).one).kind), .int .i64 (((ix x2 (IntKind.wrap .i64 ((x2.length : Int) - 1))).one).num), .str (((ix x2 (IntKind.wrap .i64 ((x2.length : Int) - 1))).one).text), .sl true ((((ix x2 (IntKind.wrap .i64 ((x2.length : Int) - 1))).one).list).map encVal), .sl false ((((ix x2 (IntKind.wrap .i64 ((x2.length : Int) - 1))).one).names).map encS), .int .i64 (((ix x2 (IntKind.wrap .i64 ((x2.length : Int) - 1))).other).kind), .int .i64 (((ix x2 (IntKind.wrap .i64 ((x2.length : Int) - 1))).other).num), .str (((ix x2 (IntKind.wrap .i64 ((x2.length : Int) - 1))).other).text), .sl true ((((ix x2 (IntKind.wrap .i64 ((x2.length : Int) - 1))).other).list).map encVal), .sl false ((((ix x2 (IntKind.wrap .i64 ((x2.length : Int) - 1))).other).names).map encS)]))]) (fun _ => rfl) (fun _ => ⟨⟨_, rfl, .refl _, .refl _⟩, trivial⟩) (fun _ => rfl) (fun _ => ⟨rfl, trivial⟩) ?_
        intro ν2 S H hS hfr
        refine st_op rfl (ValOk.op (v_loadP tabOk rfl rfl tsize28 tagg28 rfl rfl rfl rfl ?_))
        exact lp_v hS rfl rfl (fun _ => rfl)
       ·refine local_mk (fun ν2 => [(11, .int .i64 x4)]) (fun ν2 => []) (fun _ => rfl) (fun _ => ⟨⟨_, rfl, .refl _, .refl _⟩, trivial⟩) (fun _ => rfl) (fun _ => trivial) ?_
        intro ν2 S H hS hfr
        refine st_op rfl (ValOk.op (v_move rfl rfl ?_))
        exact lp_v hS rfl rfl (fun _ => rfl)
       ·refine local_mk (fun ν2 => [(71, .sl true ((((ix x2 (IntKind.wrap .i64 ((x2.length : Int) - 1))).one).list).map encVal)), (72, .int .i64 x4)]) (fun ν2 => []) (fun _ => rfl) (fun _ => ⟨⟨_, rfl, .refl _, .refl _⟩, ⟨⟨_, rfl, .refl _, .refl _⟩, trivial⟩⟩) (fun _ => rfl) (fun _ => trivial) ?_
        intro ν2 S H hS hfr
        refine st_op rfl (ValOk.op (v_idxM tabOk rfl rfl telem28 tsize30 hb3 (encVal_eq _) rfl rfl ?_))
        exact lp_v hS rfl rfl (fun _ => rfl)
       ·refine local_mk (fun ν2 => [(73, .eptr [.int .i64 ((ix (((ix x2 (IntKind.wrap .i64 ((x2.length : Int) - 1))).one).list) x4).kind), .int .i64 ((ix (((ix x2 (IntKind.wrap .i64 ((x2.length : Int) - 1))).one).list) x4).num), .str ((ix (((ix x2 (IntKind.wrap .i64 ((x2.length : Int) - 1))).one).list) x4).text), .sl true (((ix (((ix x2 (IntKind.wrap .i64 ((x2.length : Int) - 1))).one).list) x4).list).map encVal), .sl false (((ix (((ix x2 (IntKind.wrap .i64 ((x2.length : Int) - 1))).one).list) x4).names).map encS)])]) (fun ν2 => []) (fun _ => rfl) (fun _ => ⟨⟨_, rfl, .refl _, .refl _⟩, trivial⟩) (fun _ => rfl) (fun _ => trivial) ?_
        intro ν2 S H hS hfr
        refine st_op rfl (ValOk.op (v_loadE tabOk rfl tsize30 tagg30 rfl rfl rfl ?_))
        exact lp_v hS rfl rfl (fun _ => rfl)
       ·refine local_mk (fun ν2 => [(7, .ptr 17 b3 0)]) (fun ν2 => []) (fun _ => rfl) (fun _ => ⟨⟨_, rfl, .refl _, .refl _⟩, trivial⟩) (fun _ => rfl) (fun _ => trivial) ?_
        intro ν2 S H hS hfr
        refine st_op rfl (ValOk.op (v_fieldP tabOk rfl tfoff58_1 rfl ?_))
        exact lp_v hS rfl rfl (fun _ => rfl)
       ·refine local_mk (fun ν2 => [(75, .ptr 17 b3 5)]) (fun ν2 => []) (fun _ => rfl) (fun _ => ⟨⟨_, rfl, .refl _, .refl _⟩, trivial⟩) (fun _ => rfl) (fun _ => trivial) ?_
        intro ν2 S H hS hfr
        refine st_op rfl (ValOk.op (v_fieldP tabOk rfl tfoff30_3 rfl ?_))
        exact lp_v hS rfl rfl (fun _ => rfl)
       ·refine local_mk (fun ν2 => [(76, .ptr 17 b3 8)]) (fun ν2 => [(17, ((.pointer (some ⟨b3, 0, none⟩)), .optr 58 [.int .i64 (((ix x2 (IntKind.wrap .i64 ((x2.length : Int) - 1))).one).kind), .int .i64 (((ix x2 (IntKind.wrap .i64 ((x2.length : Int) - 1))).one).num), .str (((ix x2 (IntKind.wrap .i64 ((x2.length : Int) - 1))).one).text), .sl true ((((ix x2 (IntKind.wrap .i64 ((x2.length : Int) - 1))).one).list).map encVal), .sl false ((((ix x2 (IntKind.wrap .i64 ((x2.length : Int) - 1))).one).names).map encS), .int .i64 (((ix x2 (IntKind.wrap .i64 ((x2.length : Int) - 1))).other).kind), .int .i64 (((ix x2 (IntKind.wrap .i64 ((x2.length : Int) - 1))).other).num), .str (((ix x2 (IntKind.wrap .i64 ((x2.length : Int) - 1))).other).text), .sl true ((((ix x2 (IntKind.wrap .i64 ((x2.length : Int) - 1))).other).list).map encVal), .sl false ((((ix x2 (IntKind.wrap .i64 ((x2.length : Int) - 1))).other).names).map encS)]))]) (fun _ => rfl) (fun _ => ⟨⟨_, rfl, .refl _, .refl _⟩, trivial⟩) (fun _ => rfl) (fun _ => ⟨rfl, trivial⟩) ?_
        intro ν2 S H hS hfr
        refine st_op rfl (ValOk.op (v_loadP tabOk rfl rfl tsize28 tagg28 rfl rfl rfl rfl ?_))
        exact lp_v hS rfl rfl (fun _ => rfl)
       ·refine local_mk (fun ν2 => [(11, .int .i64 x4)]) (fun ν2 => []) (fun _ => rfl) (fun _ => ⟨⟨_, rfl, .refl _, .refl _⟩, trivial⟩) (fun _ => rfl) (fun _ => trivial) ?_
        intro ν2 S H hS hfr
        refine st_op rfl (ValOk.op (v_move rfl rfl ?_))
        exact lp_v hS rfl rfl (fun _ => rfl)
       ·refine local_mk (fun ν2 => [(77, .sl true ((((ix x2 (IntKind.wrap .i64 ((x2.length : Int) - 1))).other).list).map encVal)), (78, .int .i64 x4)]) (fun ν2 => []) (fun _ => rfl) (fun _ => ⟨⟨_, rfl, .refl _, .refl _⟩, ⟨⟨_, rfl, .refl _, .refl _⟩, trivial⟩⟩) (fun _ => rfl) (fun _ => trivial) ?_
        intro ν2 S H hS hfr
        refine st_op rfl (ValOk.op (v_idxM tabOk rfl rfl telem28 tsize30 hb4 (encVal_eq _) rfl rfl ?_))
        exact lp_v hS rfl rfl (fun _ => rfl)
       ·refine local_mk (fun ν2 => [(79, .eptr [.int .i64 ((ix (((ix x2 (IntKind.wrap .i64 ((x2.length : Int) - 1))).other).list) x4).kind), .int .i64 ((ix (((ix x2 (IntKind.wrap .i64 ((x2.length : Int) - 1))).other).list) x4).num), .str ((ix (((ix x2 (IntKind.wrap .i64 ((x2.length : Int) - 1))).other).list) x4).text), .sl true (((ix (((ix x2 (IntKind.wrap .i64 ((x2.length : Int) - 1))).other).list) x4).list).map encVal), .sl false (((ix (((ix x2 (IntKind.wrap .i64 ((x2.length : Int) - 1))).other).list) x4).names).map encS)])]) (fun ν2 => []) (fun _ => rfl) (fun _ => ⟨⟨_, rfl, .refl _, .refl _⟩, trivial⟩) (fun _ => rfl) (fun _ => trivial) ?_
        intro ν2 S H hS hfr
        refine st_op rfl (ValOk.op (v_loadE tabOk rfl tsize30 tagg30 rfl rfl rfl ?_))
        exact lp_v hS rfl rfl (fun _ => rfl)
       ·refine local_mk (fun ν2 => [(74, .agg [.int .i64 ((ix (((ix x2 (IntKind.wrap .i64 ((x2.length : Int) - 1))).one).list) x4).kind), .int .i64 ((ix (((ix x2 (IntKind.wrap .i64 ((x2.length : Int) - 1))).one).list) x4).num), .str ((ix (((ix x2 (IntKind.wrap .i64 ((x2.length : Int) - 1))).one).list) x4).text), .sl true (((ix (((ix x2 (IntKind.wrap .i64 ((x2.length : Int) - 1))).one).list) x4).list).map encVal), .sl false (((ix (((ix x2 (IntKind.wrap .i64 ((x2.length : Int) - 1))).one).list) x4).names).map encS)]), (80, .agg [.int .i64 ((ix (((ix x2 (IntKind.wrap .i64 ((x2.length : Int) - 1))).other).list) x4).kind), .int .i64 ((ix (((ix x2 (IntKind.wrap .i64 ((x2.length : Int) - 1))).other).list) x4).num), .str ((ix (((ix x2 (IntKind.wrap .i64 ((x2.length : Int) - 1))).other).list) x4).text), .sl true (((ix (((ix x2 (IntKind.wrap .i64 ((x2.length : Int) - 1))).other).list) x4).list).map encVal), .sl false (((ix (((ix x2 (IntKind.wrap .i64 ((x2.length : Int) - 1))).other).list) x4).names).map encS)])]) (fun ν2 => []) (fun _ => rfl) (fun _ => ⟨⟨_, rfl, .refl _, .refl _⟩, ⟨⟨_, rfl, .refl _, .refl _⟩, trivial⟩⟩) (fun _ => rfl) (fun _ => trivial) ?_
        intro ν2 S H hS hfr
        refine st_op rfl (ValOk.op (v_build tabOk (cs := [.int .i64 ((ix (((ix x2 (IntKind.wrap .i64 ((x2.length : Int) - 1))).one).list) x4).kind), .int .i64 ((ix (((ix x2 (IntKind.wrap .i64 ((x2.length : Int) - 1))).one).list) x4).num), .str ((ix (((ix x2 (IntKind.wrap .i64 ((x2.length : Int) - 1))).one).list) x4).text), .sl true (((ix (((ix x2 (IntKind.wrap .i64 ((x2.length : Int) - 1))).one).list) x4).list).map encVal), .sl false (((ix (((ix x2 (IntKind.wrap .i64 ((x2.length : Int) - 1))).one).list) x4).names).map encS), .int .i64 ((ix (((ix x2 (IntKind.wrap .i64 ((x2.length : Int) - 1))).other).list) x4).kind), .int .i64 ((ix (((ix x2 (IntKind.wrap .i64 ((x2.length : Int) - 1))).other).list) x4).num), .str ((ix (((ix x2 (IntKind.wrap .i64 ((x2.length : Int) - 1))).other).list) x4).text), .sl true (((ix (((ix x2 (IntKind.wrap .i64 ((x2.length : Int) - 1))).other).list) x4).list).map encVal), .sl false (((ix (((ix x2 (IntKind.wrap .i64 ((x2.length : Int) - 1))).other).list) x4).names).map encS)]) tzero58 tsok58 rfl rfl rfl ?_))
        exact lp_v hS rfl rfl (fun _ => rfl)
       ·refine local_mk (fun ν2 => [(81, .agg [.int .i64 ((ix (((ix x2 (IntKind.wrap .i64 ((x2.length : Int) - 1))).one).list) x4).kind), .int .i64 ((ix (((ix x2 (IntKind.wrap .i64 ((x2.length : Int) - 1))).one).list) x4).num), .str ((ix (((ix x2 (IntKind.wrap .i64 ((x2.length : Int) - 1))).one).list) x4).text), .sl true (((ix (((ix x2 (IntKind.wrap .i64 ((x2.length : Int) - 1))).one).list) x4).list).map encVal), .sl false (((ix (((ix x2 (IntKind.wrap .i64 ((x2.length : Int) - 1))).one).list) x4).names).map encS), .int .i64 ((ix (((ix x2 (IntKind.wrap .i64 ((x2.length : Int) - 1))).other).list) x4).kind), .int .i64 ((ix (((ix x2 (IntKind.wrap .i64 ((x2.length : Int) - 1))).other).list) x4).num), .str ((ix (((ix x2 (IntKind.wrap .i64 ((x2.length : Int) - 1))).other).list) x4).text), .sl true (((ix (((ix x2 (IntKind.wrap .i64 ((x2.length : Int) - 1))).other).list) x4).list).map encVal), .sl false (((ix (((ix x2 (IntKind.wrap .i64 ((x2.length : Int) - 1))).other).list) x4).names).map encS)])]) (fun ν2 => []) (fun _ => rfl) (fun _ => ⟨⟨_, rfl, .refl _, .refl _⟩, trivial⟩) (fun _ => rfl) (fun _ => trivial) ?_
        intro ν2 S H hS hfr
        obtain ⟨kf, hkf⟩ := exists_fresh ([] ++ H)
        refine st_op rfl (o_buildSlice (k := kf) (rows := [(GPair.mk (ix (((ix x2 (IntKind.wrap .i64 ((x2.length : Int) - 1))).one).list) x4) (ix (((ix x2 (IntKind.wrap .i64 ((x2.length : Int) - 1))).other).list) x4))].map encGPair) tabOk telem59 tsize58 rfl rfl rfl rfl (by decide) (by decide) (by rw [tzero58]; rfl) rfl rfl rfl hkf rfl ?_)
        intro w
        exact lp_fn hS rfl rfl hkf (FrzLL.map fun _ _ => encGPair_frz _) (fun _ => rfl)
       ·refine local_mk (fun ν2 => [(68, .hd 7006 w5), (82, .sl false ([(GPair.mk (ix (((ix x2 (IntKind.wrap .i64 ((x2.length : Int) - 1))).one).list) x4) (ix (((ix x2 (IntKind.wrap .i64 ((x2.length : Int) - 1))).other).list) x4))].map encGPair))]) (fun ν2 => [(7006, (w5, .osl 58 10 (x3.map encGPair)))]) (fun _ => rfl) (fun _ => ⟨⟨_, rfl, .refl _, .refl _⟩, ⟨⟨_, rfl, .refl _, .refl _⟩, trivial⟩⟩) (fun _ => rfl) (fun _ => ⟨rfl, trivial⟩) ?_
        intro ν2 S H hS hfr
        refine st_op rfl (o_appendSM (q := 7006) (k := 93) (f := encGPair) (l2 := [(GPair.mk (ix (((ix x2 (IntKind.wrap .i64 ((x2.length : Int) - 1))).one).list) x4) (ix (((ix x2 (IntKind.wrap .i64 ((x2.length : Int) - 1))).other).list) x4))]) tabOk ⟨_, rfl⟩ rfl rfl telem59 tsize58 tbytes58 tzero58 rfl (by decide) (by decide) encGPair_len encGPair_ok rfl (has_minus (hfr _ (by decide))) rfl hb5 ?_)
        intro w
        exact lp_m (k := 93) hS rfl rfl (.inl rfl) (fun _ => rfl) rfl
       ·refine local_mk (fun ν2 => [(83, .hd 93 (ν2 93))]) (fun ν2 => []) (fun _ => rfl) (fun _ => ⟨⟨_, rfl, .refl _, .refl _⟩, trivial⟩) (fun _ => rfl) (fun _ => trivial) ?_
        intro ν2 S H hS hfr
        refine st_op rfl (ValOk.op (v_assign rfl rfl ?_))
        exact lp_v hS rfl rfl (fun _ => rfl)
       intro ν2
       refine hK24 _ ?_
       refine rg 2 ?_
       refine g_nil ?_
       exact round_mk m2 (x3 ++ [(GPair.mk (ix (((ix x2 (IntKind.wrap .i64 ((x2.length : Int) - 1))).one).list) x4) (ix (((ix x2 (IntKind.wrap .i64 ((x2.length : Int) - 1))).other).list) x4))], IntKind.wrap .i64 (x4 + 1), (ν2 93)) (Nat.lt_succ_self _) h (lw [some 22, some 93, some 17])
      ·replace h := ifFW h (dF hc4)
       refine good_exit ?_
       exact hw2 x3 w5 h _ (lw [some 22, some 7006])
     ·replace h := hA2 hm2
      refine gk hK19 85 [4, 5, 6, 7] [22, 40, 17] ?_
      refine good_seq fun K26 hK26 => ?_
      refine rg 3 ?_
      refine g_op rfl (ValOk.op (v_lenM (l := ((ix x2 (IntKind.wrap .i64 ((x2.length : Int) - 1))).one).list) (f := encVal) tabOk rfl rfl telem28 rfl ?_))
      refine gs 1 ?_
      refine gk hK26 85 [4, 5, 6, 7, 64, 65] [22, 40, 17] ?_
      refine good_namedL fun K27 hK27 => ?_
      obtain ⟨o3, hJ3, ho3⟩ := twE h
      have hw3 : ∀ (s3 : (List GPair)) (w8 : Value), o3 (Lp.go s3) → ∀ σ', Le σ' ⟨85, [(4, .bool false), (5, .hd 22 w1), (6, .hd 7007 w8)], [(22, (w1, .omp 56 (x1.map metK))), (7007, (w8, .osl 58 10 (s3.map encGPair)))]⟩ → K27 σ' := by
       intro s3 w8 e3 σ' hle3
       replace h := hJ3.1 _ e3
       refine hK27 _ ⟨85, [(4, .bool false), (5, .hd 22 w1), (6, .hd 7007 w8)], [(22, (w1, .omp 56 (x1.map metK))), (7007, (w8, .osl 58 10 (s3.map encGPair)))]⟩ hle3 ?_
       exact round_mk m1 (x1, s3, w8) (Nat.lt_succ_self _) h (lw [some 22, some 7007])
      replace h := ho3
      refine good_block ?_
      refine good_loopf (fun p : ((List GPair) × Int × Value) => ⟨85, [(4, .bool false), (5, .hd 22 w1), (6, .hd 7008 p.2.2), (7, .ptr 17 b3 0), (64, .int .i64 ((((ix x2 (IntKind.wrap .i64 ((x2.length : Int) - 1))).one).list).length : Int)), (65, .int .i64 p.2.1)], [(22, (w1, .omp 56 (x1.map metK))), (7008, (p.2.2, .osl 58 10 (p.1.map encGPair))), (17, ((.pointer (some ⟨b3, 0, none⟩)), .optr 58 [.int .i64 (((ix x2 (IntKind.wrap .i64 ((x2.length : Int) - 1))).one).kind), .int .i64 (((ix x2 (IntKind.wrap .i64 ((x2.length : Int) - 1))).one).num), .str (((ix x2 (IntKind.wrap .i64 ((x2.length : Int) - 1))).one).text), .sl true ((((ix x2 (IntKind.wrap .i64 ((x2.length : Int) - 1))).one).list).map encVal), .sl false ((((ix x2 (IntKind.wrap .i64 ((x2.length : Int) - 1))).one).names).map encS), .int .i64 (((ix x2 (IntKind.wrap .i64 ((x2.length : Int) - 1))).other).kind), .int .i64 (((ix x2 (IntKind.wrap .i64 ((x2.length : Int) - 1))).other).num), .str (((ix x2 (IntKind.wrap .i64 ((x2.length : Int) - 1))).other).text), .sl true ((((ix x2 (IntKind.wrap .i64 ((x2.length : Int) - 1))).other).list).map encVal), .sl false ((((ix x2 (IntKind.wrap .i64 ((x2.length : Int) - 1))).other).names).map encS)]))]⟩) (fun m p => w_impl_ValueSame_l3 m x2 p.1 p.2.1 o3) m1 (x2.take (Int.toNat (IntKind.wrap .i64 ((x2.length : Int) - 1))), 0, w4) (lw [some 22, some 40, some 17]) h ?_
      rintro m3 ⟨x5, x6, w7⟩ h
      replace h : w_impl_ValueSame_l3 m3 x2 x5 x6 o3 := h
      refine Good.le (σ' := ⟨85, [(4, .bool false), (5, .hd 22 w1), (6, .hd 7008 w7), (7, .ptr 17 b3 0), (64, .int .i64 ((((ix x2 (IntKind.wrap .i64 ((x2.length : Int) - 1))).one).list).length : Int)), (65, .int .i64 x6)], [(22, (w1, .omp 56 (x1.map metK))), (7008, (w7, .osl 58 10 (x5.map encGPair))), (17, ((.pointer (some ⟨b3, 0, none⟩)), .optr 58 [.int .i64 (((ix x2 (IntKind.wrap .i64 ((x2.length : Int) - 1))).one).kind), .int .i64 (((ix x2 (IntKind.wrap .i64 ((x2.length : Int) - 1))).one).num), .str (((ix x2 (IntKind.wrap .i64 ((x2.length : Int) - 1))).one).text), .sl true ((((ix x2 (IntKind.wrap .i64 ((x2.length : Int) - 1))).one).list).map encVal), .sl false ((((ix x2 (IntKind.wrap .i64 ((x2.length : Int) - 1))).one).names).map encS), .int .i64 (((ix x2 (IntKind.wrap .i64 ((x2.length : Int) - 1))).other).kind), .int .i64 (((ix x2 (IntKind.wrap .i64 ((x2.length : Int) - 1))).other).num), .str (((ix x2 (IntKind.wrap .i64 ((x2.length : Int) - 1))).other).text), .sl true ((((ix x2 (IntKind.wrap .i64 ((x2.length : Int) - 1))).other).list).map encVal), .sl false ((((ix x2 (IntKind.wrap .i64 ((x2.length : Int) - 1))).other).names).map encS)]))]⟩) (Le.refl _) ?_
      obtain ⟨m3, rfl⟩ : ∃ m', m3 = m' + 1 := by cases m3 with | zero => (rw [w_impl_ValueSame_l3] at h; exact fwE h) | succ m' => exact ⟨m', rfl⟩
      rw [w_impl_ValueSame_l3] at h
      refine good_seq fun K28 hK28 => ?_
      refine rg 1 ?_
      refine g_nil (hK28 _ ?_)
      refine good_seq fun K29 hK29 => ?_
      refine good_cond rfl (fun hc5 => ?_) (fun hc5 => ?_)
      ·replace h := ifTW h (dT hc5)
       refine good_skip ?_
       refine hK29 _ (kp 85 [4, 5, 6, 7, 64, 65] [22, 7008, 17] ?_)
       refine good_seq fun K30 hK30 => ?_
       refine good_block ?_
       refine good_seq fun K31 hK31 => ?_
       refine rg 2 ?_
       refine gk hK31 85 [4, 5, 6, 7, 11, 64, 65] [22, 7008, 17] ?_
       obtain ⟨hb6, h⟩ := ifSW h
       obtain ⟨hb7, h⟩ := ifSW h
       obtain ⟨hb8, h⟩ := ifSW h
       refine good_anyM (by kernel_rfl) [⟨[], [6], [], [], [], []⟩, ⟨[], [7], [], [], [], []⟩, ⟨[1], [69], [], [], [], []⟩, ⟨[1, 2], [70], [17], [], [], []⟩, ⟨[], [11], [], [], [], []⟩, ⟨[1, 2, 3, 4], [71, 72], [], [], [], []⟩, ⟨[1, 2, 3, 4, 5], [73], [], [], [], []⟩, ⟨[], [7], [], [], [], []⟩, ⟨[7], [75], [], [], [], []⟩, ⟨[7, 8], [76], [17], [], [], []⟩, ⟨[], [11], [], [], [], []⟩, ⟨[7, 8, 9, 10], [77, 78], [], [], [], []⟩, ⟨[7, 8, 9, 10, 11], [79], [], [], [], []⟩, ⟨[1, 2, 3, 4, 5, 6, 7, 8, 9, 10, 11, 12], [74, 80], [], [], [], []⟩, ⟨[1, 2, 3, 4, 5, 6, 7, 8, 9, 10, 11, 12, 13], [81], [], [], [], []⟩, ⟨[0, 1, 2, 3, 4, 5, 6, 7, 8, 9, 10, 11, 12, 13, 14], [68, 82], [7008], [7008], [93], [93]⟩, ⟨[0, 1, 2, 3, 4, 5, 6, 7, 8, 9, 10, 11, 12, 13, 14, 15], [83], [], [], [], [93]⟩] [some 68, some 69, some 70, some 71, some 72, some 73, some 74, some 75, some 76, some 77, some 78, some 79, some 80, some 81, some 82, some 83, some 6] 85 [(4, .bool false), (5, .hd 22 w1), (6, .hd 7008 w7), (7, .ptr 17 b3 0), (11, .int .i64 x6), (64, .int .i64 ((((ix x2 (IntKind.wrap .i64 ((x2.length : Int) - 1))).one).list).length : Int)), (65, .int .i64 x6)] [(22, (w1, .omp 56 (x1.map metK))), (7008, (w7, .osl 58 10 (x5.map encGPair))), (17, ((.pointer (some ⟨b3, 0, none⟩)), .optr 58 [.int .i64 (((ix x2 (IntKind.wrap .i64 ((x2.length : Int) - 1))).one).kind), .int .i64 (((ix x2 (IntKind.wrap .i64 ((x2.length : Int) - 1))).one).num), .str (((ix x2 (IntKind.wrap .i64 ((x2.length : Int) - 1))).one).text), .sl true ((((ix x2 (IntKind.wrap .i64 ((x2.length : Int) - 1))).one).list).map encVal), .sl false ((((ix x2 (IntKind.wrap .i64 ((x2.length : Int) - 1))).one).names).map encS), .int .i64 (((ix x2 (IntKind.wrap .i64 ((x2.length : Int) - 1))).other).kind), .int .i64 (((ix x2 (IntKind.wrap .i64 ((x2.length : Int) - 1))).other).num), .str (((ix x2 (IntKind.wrap .i64 ((x2.length : Int) - 1))).other).text), .sl true ((((ix x2 (IntKind.wrap .i64 ((x2.length : Int) - 1))).other).list).map encVal), .sl false ((((ix x2 (IntKind.wrap .i64 ((x2.length : Int) - 1))).other).names).map encS)]))] (fun ν3 => [.hd 7008 w7, .ptr 17 b3 0, .ptr 17 b3 3, .sl true ((((ix x2 (IntKind.wrap .i64 ((x2.length : Int) - 1))).one).list).map encVal), .int .i64 x6, .eptr [.int .i64 ((ix (((ix x2 (IntKind.wrap .i64 ((x2.length : Int) - 1))).one).list) x6).kind), .int .i64 ((ix (((ix x2 (IntKind.wrap .i64 ((x2.length : Int) - 1))).one).list) x6).num), .str ((ix (((ix x2 (IntKind.wrap .i64 ((x2.length : Int) - 1))).one).list) x6).text), .sl true (((ix (((ix x2 (IntKind.wrap .i64 ((x2.length : Int) - 1))).one).list) x6).list).map encVal), .sl false (((ix (((ix x2 (IntKind.wrap .i64 ((x2.length : Int) - 1))).one).list) x6).names).map encS)], .agg [.int .i64 ((ix (((ix x2 (IntKind.wrap .i64 ((x2.length : Int) - 1))).one).list) x6).kind), .int .i64 ((ix (((ix x2 (IntKind.wrap .i64 ((x2.length : Int) - 1))).one).list) x6).num), .str ((ix (((ix x2 (IntKind.wrap .i64 ((x2.length : Int) - 1))).one).list) x6).text), .sl true (((ix (((ix x2 (IntKind.wrap .i64 ((x2.length : Int) - 1))).one).list) x6).list).map encVal), .sl false (((ix (((ix x2 (IntKind.wrap .i64 ((x2.length : Int) - 1))).one).list) x6).names).map encS)], .ptr 17 b3 5, .ptr 17 b3 8, .sl true ((((ix x2 (IntKind.wrap .i64 ((x2.length : Int) - 1))).other).list).map encVal), .int .i64 x6, .eptr [.int .i64 ((ix (((ix x2 (IntKind.wrap .i64 ((x2.length : Int) - 1))).other).list) x6).kind), .int .i64 ((ix (((ix x2 (IntKind.wrap .i64 ((x2.length : Int) - 1))).other).list) x6).num), .str ((ix (((ix x2 (IntKind.wrap .i64 ((x2.length : Int) - 1))).other).list) x6).text), .sl true (((ix (((ix x2 (IntKind.wrap .i64 ((x2.length : Int) - 1))).other).list) x6).list).map encVal), .sl false (((ix (((ix x2 (IntKind.wrap .i64 ((x2.length : Int) - 1))).other).list) x6).names).map encS)], .agg [.int .i64 ((ix (((ix x2 (IntKind.wrap .i64 ((x2.length : Int) - 1))).other).list) x6).kind), .int .i64 ((ix (((ix x2 (IntKind.wrap .i64 ((x2.length : Int) - 1))).other).list) x6).num), .str ((ix (((ix x2 (IntKind.wrap .i64 ((x2.length : Int) - 1))).other).list) x6).text), .sl true (((ix (((ix x2 (IntKind.wrap .i64 ((x2.length : Int) - 1))).other).list) x6).list).map encVal), .sl false (((ix (((ix x2 (IntKind.wrap .i64 ((x2.length : Int) - 1))).other).list) x6).names).map encS)], .agg [.int .i64 ((ix (((ix x2 (IntKind.wrap .i64 ((x2.length : Int) - 1))).one).list) x6).kind), .int .i64 ((ix (((ix x2 (IntKind.wrap .i64 ((x2.length : Int) - 1))).one).list) x6).num), .str ((ix (((ix x2 (IntKind.wrap .i64 ((x2.length : Int) - 1))).one).list) x6).text), .sl true (((ix (((ix x2 (IntKind.wrap .i64 ((x2.length : Int) - 1))).one).list) x6).list).map encVal), .sl false (((ix (((ix x2 (IntKind.wrap .i64 ((x2.length : Int) - 1))).one).list) x6).names).map encS), .int .i64 ((ix (((ix x2 (IntKind.wrap .i64 ((x2.length : Int) - 1))).other).list) x6).kind), .int .i64 ((ix (((ix x2 (IntKind.wrap .i64 ((x2.length : Int) - 1))).other).list) x6).num), .str ((ix (((ix x2 (IntKind.wrap .i64 ((x2.length : Int) - 1))).other).list) x6).text), .sl true (((ix (((ix x2 (IntKind.wrap .i64 ((x2.length : Int) - 1))).other).list) x6).list).map encVal), .sl false (((ix (((ix x2 (IntKind.wrap .i64 ((x2.length : Int) - 1))).other).list) x6).names).map encS)], .sl false ([(GPair.mk (ix (((ix x2 (IntKind.wrap .i64 ((x2.length : Int) - 1))).one).list) x6) (ix (((ix x2 (IntKind.wrap .i64 ((x2.length : Int) - 1))).other).list) x6))].map encGPair), .hd 93 (ν3 93), .hd 93 (ν3 93)]) (fun ν3 => [(93, ((ν3 93), .osl 58 10 ((x5 ++ [(GPair.mk (ix (((ix x2 (IntKind.wrap .i64 ((x2.length : Int) - 1))).one).list) x6) (ix (((ix x2 (IntKind.wrap .i64 ((x2.length : Int) - 1))).other).list) x6))]).map encGPair)))]) [(93, [93]), (22, []), (7008, []), (17, [])] [93] [some 22, some 93, some 17] (fun ν3 => [(4, .bool false), (5, .hd 22 w1), (6, .hd 93 (ν3 93)), (7, .ptr 17 b3 0), (64, .int .i64 ((((ix x2 (IntKind.wrap .i64 ((x2.length : Int) - 1))).one).list).length : Int)), (65, .int .i64 x6)]) (fun ν3 => [(22, (w1, .omp 56 (x1.map metK))), (93, ((ν3 93), .osl 58 10 ((x5 ++ [(GPair.mk (ix (((ix x2 (IntKind.wrap .i64 ((x2.length : Int) - 1))).one).list) x6) (ix (((ix x2 (IntKind.wrap .i64 ((x2.length : Int) - 1))).other).list) x6))]).map encGPair))), (17, ((.pointer (some ⟨b3, 0, none⟩)), .optr 58 [.int .i64 (((ix x2 (IntKind.wrap .i64 ((x2.length : Int) - 1))).one).kind), .int .i64 (((ix x2 (IntKind.wrap .i64 ((x2.length : Int) - 1))).one).num), .str (((ix x2 (IntKind.wrap .i64 ((x2.length : Int) - 1))).one).text), .sl true ((((ix x2 (IntKind.wrap .i64 ((x2.length : Int) - 1))).one).list).map encVal), .sl false ((((ix x2 (IntKind.wrap .i64 ((x2.length : Int) - 1))).one).names).map encS), .int .i64 (((ix x2 (IntKind.wrap .i64 ((x2.length : Int) - 1))).other).kind), .int .i64 (((ix x2 (IntKind.wrap .i64 ((x2.length : Int) - 1))).other).num), .str (((ix x2 (IntKind.wrap .i64 ((x2.length : Int) - 1))).other).text), .sl true ((((ix x2 (IntKind.wrap .i64 ((x2.length : Int) - 1))).other).list).map encVal), .sl false ((((ix x2 (IntKind.wrap .i64 ((x2.length : Int) - 1))).other).names).map encS)]))]) (lw [some 22, some 7008, some 17]) (by kernel_rfl) ⟨?_, ⟨?_, ⟨?_, ⟨?_, ⟨?_, ⟨?_, ⟨?_, ⟨?_, ⟨?_, ⟨?_, ⟨?_, ⟨?_, ⟨?_, ⟨?_, ⟨?_, ⟨?_, ⟨?_, trivial⟩⟩⟩⟩⟩⟩⟩⟩⟩⟩⟩⟩⟩⟩⟩⟩⟩ ⟨fun _ _ _ => rfl, ⟨fun _ _ _ => rfl, ⟨fun _ _ _ => rfl, ⟨fun _ _ _ => rfl, ⟨fun _ _ _ => rfl, ⟨fun _ _ _ => rfl, ⟨fun _ _ _ => rfl, ⟨fun _ _ _ => rfl, ⟨fun _ _ _ => rfl, ⟨fun _ _ _ => rfl, ⟨fun _ _ _ => rfl, ⟨fun _ _ _ => rfl, ⟨fun _ _ _ => rfl, ⟨fun _ _ _ => rfl, ⟨fun _ _ _ => rfl, ⟨fun _ _ h => (congrArg (fun zz0 => (some (.hd 93 zz0) : Option AV)) (h 93 (by decide))), ⟨fun _ _ h => (congrArg (fun zz0 => (some (.hd 93 zz0) : Option AV)) (h 93 (by decide))), trivial⟩⟩⟩⟩⟩⟩⟩⟩⟩⟩⟩⟩⟩⟩⟩⟩⟩ ⟨fun _ _ h => (congrArg (fun zz0 => (some (zz0, .osl 58 10 ((x5 ++ [(GPair.mk (ix (((ix x2 (IntKind.wrap .i64 ((x2.length : Int) - 1))).one).list) x6) (ix (((ix x2 (IntKind.wrap .i64 ((x2.length : Int) - 1))).other).list) x6))]).map encGPair)) : Option (Value × AV))) (h 93 (by decide))), ⟨fun _ _ _ => rfl, ⟨fun _ _ _ => rfl, ⟨fun _ _ _ => rfl, trivial⟩⟩⟩⟩ (fun _ => rfl) (fun _ => rfl) (by kernel_rfl) (fun _ => ⟨⟨_, rfl, .refl _⟩, ⟨⟨_, rfl, .refl _⟩, ⟨⟨_, rfl, .refl _⟩, ⟨⟨_, rfl, .refl _⟩, ⟨⟨_, rfl, .refl _⟩, ⟨⟨_, rfl, .refl _⟩, trivial⟩⟩⟩⟩⟩⟩) (fun _ => ⟨⟨_, rfl, .refl _⟩, ⟨⟨_, rfl, .refl _⟩, ⟨⟨_, rfl, .refl _⟩, trivial⟩⟩⟩) (by kernel_rfl) (by decide) ?_
       ·refine local_mk (fun ν3 => [(6, .hd 7008 w7)]) (fun ν3 => []) (fun _ => rfl) (fun _ => ⟨⟨_, rfl, .refl _, .refl _⟩, trivial⟩) (fun _ => rfl) (fun _ => trivial) ?_
        intro ν3 S H hS hfr
        refine st_op rfl (ValOk.op (v_move rfl rfl ?_))
        exact lp_v hS rfl rfl (fun _ => rfl)
       ·refine local_mk (fun ν3 => [(7, .ptr 17 b3 0)]) (fun ν3 => []) (fun _ => rfl) (fun _ => ⟨⟨_, rfl, .refl _, .refl _⟩, trivial⟩) (fun _ => rfl) (fun _ => trivial) ?_
        intro ν3 S H hS hfr
        refine st_op rfl (ValOk.op (v_fieldP tabOk rfl tfoff58_0 rfl ?_))
        exact lp_v hS rfl rfl (fun _ => rfl)
       ·refine local_mk (fun ν3 => [(69, .ptr 17 b3 0)]) (fun ν3 => []) (fun _ => rfl) (fun _ => ⟨⟨_, rfl, .refl _, .refl _⟩, trivial⟩) (fun _ => rfl) (fun _ => trivial) ?_
        intro ν3 S H hS hfr
        refine st_op rfl (ValOk.op (v_fieldP tabOk rfl tfoff30_3 rfl ?_))
        exact lp_v hS rfl rfl (fun _ => rfl)
       ·refine local_mk (fun ν3 => [(70, .ptr 17 b3 3)]) (fun ν3 => [(17, ((.pointer (some ⟨b3, 0, none⟩)), .optr 58 [.int .i64 (((ix x2 (IntKind.wrap .i64 ((x2.length : Int) - 1))).one).kind), .int .i64 (((ix x2 (IntKind.wrap .i64 ((x2.length : Int) - 1))).one).num), .str (((ix x2 (IntKind.wrap .i64 ((x2.length : Int) - 1))).one).text), .sl true ((((ix x2 (IntKind.wrap .i64 ((x2.length : Int) - 1))).one).list).map encVal), .sl false ((((ix x2 (IntKind.wrap .i64 ((x2.length : Int) - 1))).one).names).map encS), .int .i64 (((ix x2 (IntKind.wrap .i64 ((x2.length : Int) - 1))).other).kind), .int .i64 (((ix x2 (IntKind.wrap .i64 ((x2.length : Int) - 1))).other).num), .str (((ix x2 (IntKind.wrap .i64 ((x2.length : Int) - 1))).other).text), .sl true ((((ix x2 (IntKind.wrap .i64 ((x2.length : Int) - 1))).other).list).map encVal), .sl false ((((ix x2 (IntKind.wrap .i64 ((x2.length : Int) - 1))).other).names).map encS)]))]) (fun _ => rfl) (fun _ => ⟨⟨_, rfl, .refl _, .refl _⟩, trivial⟩) (fun _ => rfl) (fun _ => ⟨rfl, trivial⟩) ?_
        intro ν3 S H hS hfr
        refine st_op rfl (ValOk.op (v_loadP tabOk rfl rfl tsize28 tagg28 rfl rfl rfl rfl ?_))
        exact lp_v hS rfl rfl (fun _ => rfl)
       ·refine local_mk (fun ν3 => [(11, .int .i64 x6)]) (fun ν3 => []) (fun _ => rfl) (fun _ => ⟨⟨_, rfl, .refl _, .refl _⟩, trivial⟩) (fun _ => rfl) (fun _ => trivial) ?_
        intro ν3 S H hS hfr
        refine st_op rfl (ValOk.op (v_move rfl rfl ?_))
        exact lp_v hS rfl rfl (fun _ => rfl)
       ·refine local_mk (fun ν3 => [(71, .sl true ((((ix x2 (IntKind.wrap .i64 ((x2.length : Int) - 1))).one).list).map encVal)), (72, .int .i64 x6)]) (fun ν3 => []) (fun _ => rfl) (fun _ => ⟨⟨_, rfl, .refl _, .refl _⟩, ⟨⟨_, rfl, .refl _, .refl _⟩, trivial⟩⟩) (fun _ => rfl) (fun _ => trivial) ?_
        intro ν3 S H hS hfr
        refine st_op rfl (ValOk.op (v_idxM tabOk rfl rfl telem28 tsize30 hb6 (encVal_eq _) rfl rfl ?_))
        exact lp_v hS rfl rfl (fun _ => rfl)
       ·refine local_mk (fun ν3 => [(73, .eptr [.int .i64 ((ix (((ix x2 (IntKind.wrap .i64 ((x2.length : Int) - 1))).one).list) x6).kind), .int .i64 ((ix (((ix x2 (IntKind.wrap .i64 ((x2.length : Int) - 1))).one).list) x6).num), .str ((ix (((ix x2 (IntKind.wrap .i64 ((x2.length : Int) - 1))).one).list) x6).text), .sl true (((ix (((ix x2 (IntKind.wrap .i64 ((x2.length : Int) - 1))).one).list) x6).list).map encVal), .sl false (((ix (((ix x2 (IntKind.wrap .i64 ((x2.length : Int) - 1))).one).list) x6).names).map encS)])]) (fun ν3 => []) (fun _ => rfl) (fun _ => ⟨⟨_, rfl, .refl _, .refl _⟩, trivial⟩) (fun _ => rfl) (fun _ => trivial) ?_
        intro ν3 S H hS hfr
        refine st_op rfl (ValOk.op (v_loadE tabOk rfl tsize30 tagg30 rfl rfl rfl ?_))
        exact lp_v hS rfl rfl (fun _ => rfl)
       ·refine local_mk (fun ν3 => [(7, .ptr 17 b3 0)]) (fun ν3 => []) (fun _ => rfl) (fun _ => ⟨⟨_, rfl, .refl _, .refl _⟩, trivial⟩) (fun _ => rfl) (fun _ => trivial) ?_
        intro ν3 S H hS hfr
        refine st_op rfl (ValOk.op (v_fieldP tabOk rfl tfoff58_1 rfl ?_))
        exact lp_v hS rfl rfl (fun _ => rfl)
       ·refine local_mk (fun ν3 => [(75, .ptr 17 b3 5)]) (fun ν3 => []) (fun _ => rfl) (fun _ => ⟨⟨_, rfl, .refl _, .refl _⟩, trivial⟩) (fun _ => rfl) (fun _ => trivial) ?_
        intro ν3 S H hS hfr
        refine st_op rfl (ValOk.op (v_fieldP tabOk rfl tfoff30_3 rfl ?_))
        exact lp_v hS rfl rfl (fun _ => rfl)
       ·refine local_mk (fun ν3 => [(76, .ptr 17 b3 8)]) (fun ν3 => [(17, ((.pointer (some ⟨b3, 0, none⟩)), .optr 58 [.int .i64 (((ix x2 (IntKind.wrap .i64 ((x2.length : Int) - 1))).one).kind), .int .i64 (((ix x2 (IntKind.wrap .i64 ((x2.length : Int) - 1))).one).num), .str (((ix x2 (IntKind.wrap .i64 ((x2.length : Int) - 1))).one).text), .sl true ((((ix x2 (IntKind.wrap .i64 ((x2.length : Int) - 1))).one).list).map encVal), .sl false ((((ix x2 (IntKind.wrap .i64 ((x2.length : Int) - 1))).one).names).map encS), .int .i64 (((ix x2 (IntKind.wrap .i64 ((x2.length : Int) - 1))).other).kind), .int .i64 (((ix x2 (IntKind.wrap .i64 ((x2.length : Int) - 1))).other).num), .str (((ix x2 (IntKind.wrap .i64 ((x2.length : Int) - 1))).other).text), .sl true ((((ix x2 (IntKind.wrap .i64 ((x2.length : Int) - 1))).other).list).map encVal), .sl false ((((ix x2 (IntKind.wrap .i64 ((x2.length : Int) - 1))).other).names).map encS)]))]) (fun _ => rfl) (fun _ => ⟨⟨_, rfl, .refl _, .refl _⟩, trivial⟩) (fun _ => rfl) (fun _ => ⟨rfl, trivial⟩) ?_
        intro ν3 S H hS hfr
        refine st_op rfl (ValOk.op (v_loadP tabOk rfl rfl tsize28 tagg28 rfl rfl rfl rfl ?_))
        exact lp_v hS rfl rfl (fun _ => rfl)
       ·refine local_mk (fun ν3 => [(11, .int .i64 x6)]) (fun ν3 => []) (fun _ => rfl) (fun _ => ⟨⟨_, rfl, .refl _, .refl _⟩, trivial⟩) (fun _ => rfl) (fun _ => trivial) ?_
        intro ν3 S H hS hfr
        refine st_op rfl (ValOk.op (v_move rfl rfl ?_))
        exact lp_v hS rfl rfl (fun _ => rfl)
       ·refine local_mk (fun ν3 => [(77, .sl true ((((ix x2 (IntKind.wrap .i64 ((x2.length : Int) - 1))).other).list).map encVal)), (78, .int .i64 x6)]) (fun ν3 => []) (fun _ => rfl) (fun _ => ⟨⟨_, rfl, .refl _, .refl _⟩, ⟨⟨_, rfl, .refl _, .refl _⟩, trivial⟩⟩) (fun _ => rfl) (fun _ => trivial) ?_
        intro ν3 S H hS hfr
        refine st_op rfl (ValOk.op (v_idxM tabOk rfl rfl telem28 tsize30 hb7 (encVal_eq _) rfl rfl ?_))
        exact lp_v hS rfl rfl (fun _ => rfl)
       ·refine local_mk (fun ν3 => [(79, .eptr [.int .i64 ((ix (((ix x2 (IntKind.wrap .i64 ((x2.length : Int) - 1))).other).list) x6).kind), .int .i64 ((ix (((ix x2 (IntKind.wrap .i64 ((x2.length : Int) - 1))).other).list) x6).num), .str ((ix (((ix x2 (IntKind.wrap .i64 ((x2.length : Int) - 1))).other).list) x6).text), .sl true (((ix (((ix x2 (IntKind.wrap .i64 ((x2.length : Int) - 1))).other).list) x6).list).map encVal), .sl false (((ix (((ix x2 (IntKind.wrap .i64 ((x2.length : Int) - 1))).other).list) x6).names).map encS)])]) (fun ν3 => []) (fun _ => rfl) (fun _ => ⟨⟨_, rfl, .refl _, .refl _⟩, trivial⟩) (fun _ => rfl) (fun _ => trivial) ?_
        intro ν3 S H hS hfr
        refine st_op rfl (ValOk.op (v_loadE tabOk rfl tsize30 tagg30 rfl rfl rfl ?_))
        exact lp_v hS rfl rfl (fun _ => rfl)
       ·refine local_mk (fun ν3 => [(74, .agg [.int .i64 ((ix (((ix x2 (IntKind.wrap .i64 ((x2.length : Int) - 1))).one).list) x6).kind), .int .i64 ((ix (((ix x2 (IntKind.wrap .i64 ((x2.length : Int) - 1))).one).list) x6).num), .str ((ix (((ix x2 (IntKind.wrap .i64 ((x2.length : Int) - 1))).one).list) x6).text), .sl true (((ix (((ix x2 (IntKind.wrap .i64 ((x2.length : Int) - 1))).one).list) x6).list).map encVal), .sl false (((ix (((ix x2 (IntKind.wrap .i64 ((x2.length : Int) - 1))).one).list) x6).names).map encS)]), (80, .agg [.int .i64 ((ix (((ix x2 (IntKind.wrap .i64 ((x2.length : Int) - 1))).other).list) x6).kind), .int .i64 ((ix (((ix x2 (IntKind.wrap .i64 ((x2.length : Int) - 1))).other).list) x6).num), .str ((ix (((ix x2 (IntKind.wrap .i64 ((x2.length : Int) - 1))).other).list) x6).text), .sl true (((ix (((ix x2 (IntKind.wrap .i64 ((x2.length : Int) - 1))).other).list) x6).list).map encVal), .sl false (((ix (((ix x2 (IntKind.wrap .i64 ((x2.length : Int) - 1))).other).list) x6).names).map encS)])]) (fun ν3 => []) (fun _ => rfl) (fun _ => ⟨⟨_, rfl, .refl _, .refl _⟩, ⟨⟨_, rfl, .refl _, .refl _⟩, trivial⟩⟩) (fun _ => rfl) (fun _ => trivial) ?_
        intro ν3 S H hS hfr
        refine st_op rfl (ValOk.op (v_build tabOk (cs := [.int .i64 ((ix (((ix x2 (IntKind.wrap .i64 ((x2.length : Int) - 1))).one).list) x6).kind), .int .i64 ((ix (((ix x2 (IntKind.wrap .i64 ((x2.length : Int) - 1))).one).list) x6).num), .str ((ix (((ix x2 (IntKind.wrap .i64 ((x2.length : Int) - 1))).one).list) x6).text), .sl true (((ix (((ix x2 (IntKind.wrap .i64 ((x2.length : Int) - 1))).one).list) x6).list).map encVal), .sl false (((ix (((ix x2 (IntKind.wrap .i64 ((x2.length : Int) - 1))).one).list) x6).names).map encS), .int .i64 ((ix (((ix x2 (IntKind.wrap .i64 ((x2.length : Int) - 1))).other).list) x6).kind), .int .i64 ((ix (((ix x2 (IntKind.wrap .i64 ((x2.length : Int) - 1))).other).list) x6).num), .str ((ix (((ix x2 (IntKind.wrap .i64 ((x2.length : Int) - 1))).other).list) x6).text), .sl true (((ix (((ix x2 (IntKind.wrap .i64 ((x2.length : Int) - 1))).other).list) x6).list).map encVal), .sl false (((ix (((ix x2 (IntKind.wrap .i64 ((x2.length : Int) - 1))).other).list) x6).names).map encS)]) tzero58 tsok58 rfl rfl rfl ?_))
        exact lp_v hS rfl rfl (fun _ => rfl)
       ·refine local_mk (fun ν3 => [(81, .agg [.int .i64 ((ix (((ix x2 (IntKind.wrap .i64 ((x2.length : Int) - 1))).one).list) x6).kind), .int .i64 ((ix (((ix x2 (IntKind.wrap .i64 ((x2.length : Int) - 1))).one).list) x6).num), .str ((ix (((ix x2 (IntKind.wrap .i64 ((x2.length : Int) - 1))).one).list) x6).text), .sl true (((ix (((ix x2 (IntKind.wrap .i64 ((x2.length : Int) - 1))).one).list) x6).list).map encVal), .sl false (((ix (((ix x2 (IntKind.wrap .i64 ((x2.length : Int) - 1))).one).list) x6).names).map encS), .int .i64 ((ix (((ix x2 (IntKind.wrap .i64 ((x2.length : Int) - 1))).other).list) x6).kind), .int .i64 ((ix (((ix x2 (IntKind.wrap .i64 ((x2.length : Int) - 1))).other).list) x6).num), .str ((ix (((ix x2 (IntKind.wrap .i64 ((x2.length : Int) - 1))).other).list) x6).text), .sl true (((ix (((ix x2 (IntKind.wrap .i64 ((x2.length : Int) - 1))).other).list) x6).list).map encVal), .sl false (((ix (((ix x2 (IntKind.wrap .i64 ((x2.length : Int) - 1))).other).list) x6).names).map encS)])]) (fun ν3 => []) (fun _ => rfl) (fun _ => ⟨⟨_, rfl, .refl _, .refl _⟩, trivial⟩) (fun _ => rfl) (fun _ => trivial) ?_
        intro ν3 S H hS hfr
        obtain ⟨kf, hkf⟩ := exists_fresh ([] ++ H)
        refine st_op rfl (o_buildSlice (k := kf) (rows := [(GPair.mk (ix (((ix x2 (IntKind.wrap .i64 ((x2.length : Int) - 1))).one).list) x6) (ix (((ix x2 (IntKind.wrap .i64 ((x2.length : Int) - 1))).other).list) x6))].map encGPair) tabOk telem59 tsize58 rfl rfl rfl rfl (by decide) (by decide) (by rw [tzero58]; rfl) rfl rfl rfl hkf rfl ?_)
        intro w
        exact lp_fn hS rfl rfl hkf (FrzLL.map fun _ _ => encGPair_frz _) (fun _ => rfl)
       ·refine local_mk (fun ν3 => [(68, .hd 7008 w7), (82, .sl false ([(GPair.mk (ix (((ix x2 (IntKind.wrap .i64 ((x2.length : Int) - 1))).one).list) x6) (ix (((ix x2 (IntKind.wrap .i64 ((x2.length : Int) - 1))).other).list) x6))].map encGPair))]) (fun ν3 => [(7008, (w7, .osl 58 10 (x5.map encGPair)))]) (fun _ => rfl) (fun _ => ⟨⟨_, rfl, .refl _, .refl _⟩, ⟨⟨_, rfl, .refl _, .refl _⟩, trivial⟩⟩) (fun _ => rfl) (fun _ => ⟨rfl, trivial⟩) ?_
        intro ν3 S H hS hfr
        refine st_op rfl (o_appendSM (q := 7008) (k := 93) (f := encGPair) (l2 := [(GPair.mk (ix (((ix x2 (IntKind.wrap .i64 ((x2.length : Int) - 1))).one).list) x6) (ix (((ix x2 (IntKind.wrap .i64 ((x2.length : Int) - 1))).other).list) x6))]) tabOk ⟨_, rfl⟩ rfl rfl telem59 tsize58 tbytes58 tzero58 rfl (by decide) (by decide) encGPair_len encGPair_ok rfl (has_minus (hfr _ (by decide))) rfl hb8 ?_)
        intro w
        exact lp_m (k := 93) hS rfl rfl (.inl rfl) (fun _ => rfl) rfl
       ·refine local_mk (fun ν3 => [(83, .hd 93 (ν3 93))]) (fun ν3 => []) (fun _ => rfl) (fun _ => ⟨⟨_, rfl, .refl _, .refl _⟩, trivial⟩) (fun _ => rfl) (fun _ => trivial) ?_
        intro ν3 S H hS hfr
        refine st_op rfl (ValOk.op (v_assign rfl rfl ?_))
        exact lp_v hS rfl rfl (fun _ => rfl)
       intro ν3
       refine hK30 _ ?_
       refine rg 2 ?_
       refine g_nil ?_
       exact round_mk m3 (x5 ++ [(GPair.mk (ix (((ix x2 (IntKind.wrap .i64 ((x2.length : Int) - 1))).one).list) x6) (ix (((ix x2 (IntKind.wrap .i64 ((x2.length : Int) - 1))).other).list) x6))], IntKind.wrap .i64 (x6 + 1), (ν3 93)) (Nat.lt_succ_self _) h (lw [some 22, some 93, some 17])
      ·replace h := ifFW h (dF hc5)
       refine good_exit ?_
       exact hw3 x5 w7 h _ (lw [some 22, some 7008])
    ·replace h := hA1 hm1
     refine gs 3 ?_
     refine g_op rfl (o_alloc (k := 19) tabOk tzero66 rfl rfl ?_)
     intro b5
     refine g_op rfl (o_storeP tabOk (cs' := []) rfl rfl tsize66 rfl rfl rfl (Nat.le_of_ble_eq_true rfl) rfl rfl rfl ?_)
     refine gs 1 ?_
     refine gk hK17 85 [4, 5, 6, 7, 8, 10] [22, 40, 17, 18] ?_
     refine good_seq fun K32 hK32 => ?_
     refine rg 1 ?_
     refine gk hK32 85 [4, 5, 6, 7, 8, 57] [22, 40, 17, 18] ?_
     refine good_cond (b := true) rfl (fun hc => ?_) (fun hc => Bool.noConfusion hc)
     refine good_exit ?_
     exact round_mk m1 (x1, x2.take (Int.toNat (IntKind.wrap .i64 ((x2.length : Int) - 1))), w4) (Nat.lt_succ_self _) h (lw [some 22, some 40])
 ·replace h := ifFW h (dF hc1)
  refine good_exit ?_
  exact hw1 () h _ (lw [])
end Go.Proofs.Ytiaigcdckmpepaa
end
end
section
/-! Sizes and weights. -/
set_option linter.unusedVariables false
set_option linter.unusedSimpArgs false
namespace Go.Proofs.Ytiaigcdckmpepaa
open Go.Bb
def wtW (v : Val) : Nat := wtVs v.list + v.names.length
/-- What is left of a size: none, or all is within it. -/
theorem ev_szStringSW (l : List Bs) (n : Int) (hn : 0 ≤ n) (hn2 : n ≤ 1048576) (hl : l.length ≤ maxLen) (hs : ∀ s ∈ l, s.length ≤ maxLen) : ∃ y, Ev (fun k => m_laws_szStringS k l n) y ∧ (y < 0 ∨ (0 ≤ y ∧ y ≤ n - l.length ∧ (l.length : Int) ≤ n ∧ ∀ s ∈ l, (s.length : Int) ≤ n)) := by
  simp only [m_laws_szStringS]
  have hm : maxLen = 9223372036854775807 := rfl
  rw [wrap_id (by omega)]
  by_cases h0 : n - (l.length : Int) < 0
  · exact ⟨-1, ev_ifT h0 (ev_some _), .inl (by omega)⟩
  · have loop : ∀ (d j : Nat) (x : Int), j + d = l.length → 0 ≤ x → x ≤ n → ∃ o, Ev (fun k => m_laws_szStringS_l1 k l x j) o ∧ (o = .ret (-1) ∨ ∃ y, o = .go y ∧ 0 ≤ y ∧ y ≤ x ∧ ∀ (i : Nat) (h : i < l.length), j ≤ i → (l[i].length : Int) ≤ x) := by
      intro d
      induction d with
      | zero =>
        intro j x hj hx hxn
        refine ⟨.go x, ?_, .inr ⟨x, rfl, hx, Int.le_refl _, fun i hi hji => by omega⟩⟩
        rw [ev_shift]; simp only [m_laws_szStringS_l1]
        exact ev_ifF (by omega) (ev_some _)
      | succ d ih =>
        intro j x hj hx hxn
        have hjl : j < l.length := by omega
        have hlen := hs _ (List.getElem_mem hjl)
        have hw : IntKind.wrap .i64 (x - ((ix l (j : Int)).length : Int)) = x - (l[j].length : Int) := by
          rw [ix_nat hjl]; exact wrap_id (by omega)
        by_cases h1 : x - (l[j].length : Int) < 0
        · refine ⟨.ret (-1), ?_, .inl rfl⟩
          rw [ev_shift]; simp only [m_laws_szStringS_l1]
          rw [hw]
          exact ev_ifT (by omega) (ev_ifT (by omega) (ev_ifT h1 (ev_some _)))
        · obtain ⟨o, h2, h3⟩ := ih (j + 1) (x - (l[j].length : Int)) (by omega) (by omega) (by omega)
          refine ⟨o, ?_, ?_⟩
          · rw [ev_shift]; simp only [m_laws_szStringS_l1]
            rw [hw, wrap_id (n := (j : Int) + 1) (by omega)]
            exact ev_ifT (by omega) (ev_ifT (by omega) (ev_ifF h1 (by simpa using h2)))
          · rcases h3 with h3 | ⟨y, h3, h4, h5, h6⟩
            · exact .inl h3
            · refine .inr ⟨y, h3, h4, by omega, fun i hi hji => ?_⟩
              rcases Nat.eq_or_lt_of_le hji with rfl | hji
              · omega
              · have := h6 i hi hji; omega
    obtain ⟨o, h1, h2⟩ := loop l.length 0 (n - l.length) (by omega) (by omega) (by omega)
    rcases h2 with rfl | ⟨y, rfl, h3, h4, h5⟩
    · exact ⟨-1, ev_ifF h0 (Ev.ret (by simpa using h1)), .inl (by omega)⟩
    · refine ⟨y, ev_ifF h0 (Ev.go (by simpa using h1) (ev_some _)), .inr ⟨h3, by omega, by omega, fun s hs => ?_⟩⟩
      obtain ⟨i, hi, rfl⟩ := List.mem_iff_getElem.1 hs
      have := h5 i hi (by omega)
      omega

theorem ev_szValueSW (l : List Val) (n : Int) (hn : 0 ≤ n) (hn2 : n ≤ 1048576) (hl : l.length ≤ maxLen) (ihv : ∀ v ∈ l, ∀ n : Int, 0 ≤ n → n ≤ 1048576 → ∃ y, Ev (fun k => m_laws_szValue k v n) y ∧ (y < 0 ∨ (0 ≤ y ∧ y ≤ n ∧ Bd 1048576 v ∧ (wtW v : Int) ≤ 3 * (n - y)))) : ∃ y, Ev (fun k => m_laws_szValueS k l n) y ∧ (y < 0 ∨ (0 ≤ y ∧ y ≤ n ∧ (l.length : Int) ≤ n ∧ (∀ v ∈ l, Bd 1048576 v) ∧ (wtVs l : Int) ≤ 3 * (n - y))) := by
  have hm : maxLen = 9223372036854775807 := rfl
  have hw0 : IntKind.wrap .i64 (n - (l.length : Int)) = n - (l.length : Int) := wrap_id (by omega)
  by_cases h0 : n - (l.length : Int) < 0
  · refine ⟨-1, ?_, .inl (by omega)⟩
    rw [ev_shift]; simp only [m_laws_szValueS]
    rw [hw0]
    exact ev_ifT h0 (ev_some _)
  · have loop : ∀ (d j : Nat) (x : Int), j + d = l.length → 0 ≤ x → x ≤ n → ∃ o, Ev (fun k => m_laws_szValueS_l1 k l x j) o ∧ (o = .ret (-1) ∨ ∃ y, o = .go y ∧ 0 ≤ y ∧ y ≤ x ∧ (∀ (i : Nat) (h : i < l.length), j ≤ i → Bd 1048576 l[i]) ∧ (wtVs (l.drop j) : Int) ≤ 3 * d + 3 * (x - y)) := by
      intro d
      induction d with
      | zero =>
        intro j x hj hx hxn
        refine ⟨.go x, ?_, .inr ⟨x, rfl, hx, Int.le_refl _, (fun i hi hji => by omega), by rw [List.drop_of_length_le (by omega)]; simp [wtVs]⟩⟩
        rw [ev_shift]; simp only [m_laws_szValueS_l1]
        exact ev_ifF (by omega) (ev_some _)
      | succ d ih =>
        intro j x hj hx hxn
        have hjl : j < l.length := by omega
        obtain ⟨y, h1, h2⟩ := ihv _ (List.getElem_mem hjl) x hx (by omega)
        rcases h2 with h2 | ⟨h2, h3, h4, hwt⟩
        · refine ⟨.ret (-1), ?_, .inl rfl⟩
          rw [ev_shift]; simp only [m_laws_szValueS_l1]
          rw [ix_nat hjl]
          exact ev_ifT (by omega) (ev_ifT (by omega) (Ev.bind h1 (ev_ifT h2 (ev_some _))))
        · obtain ⟨o, h5, h6⟩ := ih (j + 1) y (by omega) (by omega) (by omega)
          refine ⟨o, ?_, ?_⟩
          · rw [ev_shift]; simp only [m_laws_szValueS_l1]
            rw [ix_nat hjl, wrap_id (n := (j : Int) + 1) (by omega)]
            exact ev_ifT (by omega) (ev_ifT (by omega) (Ev.bind h1 (ev_ifF (by omega) (by simpa using h5))))
          · rcases h6 with h6 | ⟨z, h6, h7, h8, h9, hw9⟩
            · exact .inl h6
            · refine .inr ⟨z, h6, h7, by omega, fun i hi hji => ?_, ?_⟩
              · rcases Nat.eq_or_lt_of_le hji with rfl | hji
                · exact h4
                · exact h9 i hi hji
              · rw [List.drop_eq_getElem_cons hjl]
                have e : wtV l[j] = 3 + wtW l[j] := by rw [wtV_eq]; unfold wtW; omega
                simp only [wtVs, e]
                omega
    obtain ⟨o, h1, h2⟩ := loop l.length 0 (n - l.length) (by omega) (by omega) (by omega)
    rcases h2 with rfl | ⟨y, rfl, h3, h4, h5, hw5⟩
    · refine ⟨-1, ?_, .inl (by omega)⟩
      rw [ev_shift]; simp only [m_laws_szValueS]
      rw [hw0]
      exact ev_ifF h0 (Ev.ret (by simpa using h1))
    · refine ⟨y, ?_, .inr ⟨h3, by omega, by omega, fun s hs => ?_, by simp only [List.drop_zero] at hw5; omega⟩⟩
      · rw [ev_shift]; simp only [m_laws_szValueS]
        rw [hw0]
        exact ev_ifF h0 (Ev.go (by simpa using h1) (ev_some _))
      · obtain ⟨i, hi, rfl⟩ := List.mem_iff_getElem.1 hs
        exact h5 i hi (by omega)

theorem ev_szValueW : ∀ v : Val, Bd maxLen v → ∀ n : Int, 0 ≤ n → n ≤ 1048576 → ∃ y, Ev (fun k => m_laws_szValue k v n) y ∧ (y < 0 ∨ (0 ≤ y ∧ y ≤ n ∧ Bd 1048576 v ∧ (wtW v : Int) ≤ 3 * (n - y))) := by
  apply Val.ind
  intro v ih h n hn hn2
  have hm : maxLen = 9223372036854775807 := rfl
  have ht := h.text
  have hw : IntKind.wrap .i64 (n - (v.text.length : Int)) = n - (v.text.length : Int) := wrap_id (by omega)
  by_cases h0 : n - (v.text.length : Int) < 0
  · refine ⟨-1, ?_, .inl (by omega)⟩
    rw [ev_shift]; simp only [m_laws_szValue]
    rw [hw]
    exact ev_ifT h0 (ev_some _)
  · obtain ⟨y, h1, h2⟩ := ev_szValueSW v.list (n - v.text.length) (by omega) (by omega) h.list fun x hx => ih x hx (h.within x hx)
    rcases h2 with h2 | ⟨h2, h3, h4, h5, hw5⟩
    · refine ⟨-1, ?_, .inl (by omega)⟩
      rw [ev_shift]; simp only [m_laws_szValue]
      rw [hw]
      exact ev_ifF h0 (Ev.bind h1 (ev_ifT h2 (ev_some _)))
    · obtain ⟨z, h6, h7⟩ := ev_szStringSW v.names y h2 (by omega) h.names h.name
      rcases h7 with h7 | ⟨h7, h8, h9, h10⟩
      · refine ⟨-1, ?_, .inl (by omega)⟩
        rw [ev_shift]; simp only [m_laws_szValue]
        rw [hw]
        exact ev_ifF h0 (Ev.bind h1 (ev_ifF (by omega) (Ev.bind h6 (ev_ifT h7 (ev_some _)))))
      · refine ⟨z, ?_, .inr ⟨h7, by omega, .mk v (by omega) (by omega) (by omega) (fun s hs => by have := h10 s hs; omega) h5, by unfold wtW; omega⟩⟩
        rw [ev_shift]; simp only [m_laws_szValue]
        rw [hw]
        exact ev_ifF h0 (Ev.bind h1 (ev_ifF (by omega) (Ev.bind h6 (ev_ifF (by omega) (ev_some _)))))
end Go.Proofs.Ytiaigcdckmpepaa
end
section
/-! Copies. -/
set_option linter.unusedVariables false
set_option linter.unusedSimpArgs false
set_option linter.unnecessarySimpa false
namespace Go.Proofs.Ytiaigcdckmpepaa
open Go.Bb

theorem ev_l1Copy : ∀ v : Val, Bd 1048576 v → Ev (fun k => m_spec_l1Copy k v) v := by
  apply Val.ind
  intro v ih h
  have hl := h.list
  have hn := h.names
  rw [ev_shift]; simp only [m_spec_l1Copy]
  refine Ev.go (s := v.list) ?_ (Ev.go (s := v.names) ?_ (ev_eq (ev_some _) (by cases v; rfl)))
  · have := ev_fold (L := fun k x i => m_spec_l1Copy_l1 k v x i) (n := v.list.length) (fun j => v.list.take j) (fun i r hi h' => by
      rw [List.take_add_one, List.getElem?_eq_getElem hi, Option.toList_some] at h'
      rw [ev_shift]; simp only [m_spec_l1Copy_l1]
      rw [wrap_id (n := (i : Int) + 1) (by omega), ix_nat hi]
      exact ev_ifT (by omega) (ev_ifT (by omega) (Ev.bind (ih _ (List.getElem_mem hi) (h.within _ (List.getElem_mem hi))) (ev_ifT (by simp; omega) h')))) (by
      rw [ev_shift]; simp only [m_spec_l1Copy_l1]
      exact ev_ifF (by omega) (ev_some _)) v.list.length 0 (by omega)
    simpa using this
  · have := ev_fold (L := fun k x i => m_spec_l1Copy_l2 k v x i) (n := v.names.length) (fun j => v.names.take j) (fun i r hi h' => by
      rw [List.take_add_one, List.getElem?_eq_getElem hi, Option.toList_some] at h'
      rw [ev_shift]; simp only [m_spec_l1Copy_l2]
      rw [wrap_id (n := (i : Int) + 1) (by omega), ix_nat hi]
      exact ev_ifT (by omega) (ev_ifT (by omega) (ev_ifT (by simp; omega) h'))) (by
      rw [ev_shift]; simp only [m_spec_l1Copy_l2]
      exact ev_ifF (by omega) (ev_some _)) v.names.length 0 (by omega)
    simpa using this

theorem copyTexts_eq (l : List Bs) (h : l.length ≤ 1048576) : m_impl_copyTexts l = some l := by
  unfold m_impl_copyTexts
  by_cases h0 : l = []
  · subst h0; rfl
  · have hp : 0 < l.length := List.length_pos_iff.2 h0
    rw [if_neg (by omega), if_pos (by omega), if_pos (by omega), if_pos ⟨by simp, h0⟩]
theorem spanOf_eq (l : List Val) : m_impl_spanOf l = some l := by
  unfold m_impl_spanOf
  by_cases h0 : l = []
  · subst h0; rfl
  · have hp : 0 < l.length := List.length_pos_iff.2 h0
    rw [if_neg (by omega), if_pos h0]
theorem ev_chain (y : List Val) : ∀ up : List (List Val), (∀ u ∈ up, u ≠ y) → Ev (fun k => m_impl_copyWithin_l1 k y up) (.go ())
  | [], h => by
    rw [ev_shift]; simp only [m_impl_copyWithin_l1]
    exact ev_ifT trivial (ev_some _)
  | u :: up, h => by
    rw [ev_shift]; simp only [m_impl_copyWithin_l1]
    exact ev_ifF (by simp) (ev_ifT (by simp) (ev_ifT (h u (by simp)) (ev_ifT (by simp) (ev_chain y up fun x hx => h x (by simp [hx])))))
theorem sizeOf_within {v x : Val} (h : x ∈ v.list) : SizeOf.sizeOf x.list < SizeOf.sizeOf v.list := by
  have h1 : SizeOf.sizeOf x < SizeOf.sizeOf v.list := List.sizeOf_lt_of_mem h
  have h2 : SizeOf.sizeOf x.list < SizeOf.sizeOf x := by
    obtain ⟨a, b, c, l, n⟩ := x
    simp only [Val.mk.sizeOf_spec, Val.list_mk]; omega
  omega
theorem ev_copyWithin : ∀ v : Val, Bd 1048576 v → ∀ up : List (List Val), (∀ u ∈ up, SizeOf.sizeOf v.list < SizeOf.sizeOf u) → Ev (fun k => m_impl_copyWithin k v up) v := by
  apply Val.ind
  intro v ih h up hup
  have hl := h.list
  have hn := h.names
  rw [ev_shift]; simp only [m_impl_copyWithin, copyTexts_eq v.names hn, spanOf_eq, Option.bind_some]
  by_cases h0 : v.list = []
  · exact ev_ifT (by rw [h0]; rfl) (ev_eq (ev_some _) (by obtain ⟨a, b, c, l, n⟩ := v; simp only [Val.list_mk] at h0; subst h0; rfl))
  · have hp : 0 < v.list.length := List.length_pos_iff.2 h0
    refine ev_ifF (by omega) (Ev.go (s := ()) (ev_chain v.list up fun u hu e => by have := hup u hu; rw [e] at this; omega) (ev_ifT (by omega) (ev_ifT (by omega) (Ev.go (s := v.list) ?_ (ev_eq (ev_some _) (by cases v; rfl))))))
    have := ev_copy (L := fun k x i => m_impl_copyWithin_l2 k v up v.list x i) v.list (Val.mk 0 0 ([] : Bs) [] []) (fun i x r hi hx h' => by
      rw [ev_shift]; simp only [m_impl_copyWithin_l2]
      rw [wrap_id (n := (i : Int) + 1) (by omega), ix_nat hi]
      refine ev_ifT (by omega) (ev_ifT (by omega) (Ev.bind (ih _ (List.getElem_mem hi) (h.within _ (List.getElem_mem hi)) (v.list :: up) (fun u hu => ?_)) (ev_ifT (by omega) (by simpa using h'))))
      have hs := sizeOf_within (List.getElem_mem hi)
      rcases List.mem_cons.1 hu with rfl | hu
      · exact hs
      · have := hup u hu; omega) (fun x => by
      rw [ev_shift]; simp only [m_impl_copyWithin_l2]
      exact ev_ifF (by omega) (ev_some _))
    simpa using this
end Go.Proofs.Ytiaigcdckmpepaa
end
section
/-! The same values. -/
set_option linter.unusedVariables false
set_option linter.unusedSimpArgs false
set_option linter.unnecessarySimpa false
namespace Go.Proofs.Ytiaigcdckmpepaa
open Go.Bb

theorem Val.ext' {a b : Val} (h1 : a.kind = b.kind) (h2 : a.num = b.num) (h3 : a.text = b.text) (h4 : a.list = b.list) (h5 : a.names = b.names) : a = b := by
  cases a; cases b
  simp only [Val.kind_mk, Val.num_mk, Val.text_mk, Val.list_mk, Val.names_mk] at h1 h2 h3 h4 h5
  subst h1 h2 h3 h4 h5; rfl
/-- The same. -/
noncomputable def sameV (a b : Val) : Bool := @decide (a = b) (Classical.propDecidable _)
theorem sameV_iff (a b : Val) : sameV a b = true ↔ a = b := by unfold sameV; simp
theorem sameV_no {a b : Val} (h : a ≠ b) : sameV a b = false := by unfold sameV; simp [h]
theorem sameV_yes {a b : Val} (h : a = b) : sameV a b = true := (sameV_iff a b).2 h
/-- The same but for what is within. -/
def topEq (a b : Val) : Prop := a.kind = b.kind ∧ a.num = b.num ∧ a.text = b.text ∧ a.list.length = b.list.length ∧ a.names = b.names
theorem ev_eqStrs (a b : List Bs) (ha : a.length ≤ 1048576) : ∃ r, Ev (fun k => m_slices_Equal_string_string k a b) r ∧ (r = true ↔ a = b) := by
  simp only [m_slices_Equal_string_string]
  by_cases hl : a.length = b.length
  · have loop : ∀ (d j : Nat), j + d = a.length → ∃ o, Ev (fun k => m_slices_Equal_string_string_l1 k a b j) o ∧ ((o = .go () ∧ ∀ i, j ≤ i → a[i]? = b[i]?) ∨ (o = .ret false ∧ a ≠ b)) := by
      intro d
      induction d with
      | zero =>
        intro j hj
        refine ⟨.go (), ?_, .inl ⟨rfl, fun i hi => by rw [List.getElem?_eq_none (by omega), List.getElem?_eq_none (by omega)]⟩⟩
        rw [ev_shift]; simp only [m_slices_Equal_string_string_l1]
        rw [evF (by omega)]; exact ev_some _
      | succ d ih =>
        intro j hj
        by_cases hx : ix a (j : Int) = ix b (j : Int)
        · obtain ⟨o, h1, h2⟩ := ih (j + 1) (by omega)
          refine ⟨o, ?_, ?_⟩
          · rw [ev_shift]; simp only [m_slices_Equal_string_string_l1]
            rw [evT (by omega), evT (by omega), evT (by omega), evT hx, wrap_id (by omega)]
            simpa using h1
          · rcases h2 with ⟨rfl, h3⟩ | h3
            · refine .inl ⟨rfl, fun i hi => ?_⟩
              rcases Nat.eq_or_lt_of_le hi with rfl | h
              · rw [ix_nat (by omega), ix_nat (by omega)] at hx
                rw [List.getElem?_eq_getElem (by omega), List.getElem?_eq_getElem (by omega), hx]
              · exact h3 i h
            · exact .inr h3
        · refine ⟨.ret false, ?_, .inr ⟨rfl, fun e => hx (by rw [e])⟩⟩
          rw [ev_shift]; simp only [m_slices_Equal_string_string_l1]
          rw [evT (by omega), evT (by omega), evT (by omega), evF hx]
          exact ev_some _
    obtain ⟨o, h1, h2⟩ := loop a.length 0 (by omega)
    have h1 : Ev (fun k => m_slices_Equal_string_string_l1 k a b 0) o := by simpa using h1
    rcases h2 with ⟨rfl, h3⟩ | ⟨rfl, h3⟩
    · refine ⟨true, by rw [evT (by omega)]; exact Ev.go h1 (ev_some _), ⟨fun _ => List.ext_getElem? fun i => h3 i (by omega), fun _ => rfl⟩⟩
    · exact ⟨false, by rw [evT (by omega)]; exact Ev.ret h1, ⟨fun h => (by cases h), fun h => absurd h h3⟩⟩
  · exact ⟨false, by rw [evF (by omega)]; exact ev_some _, ⟨fun h => (by cases h), fun h => absurd (congrArg List.length h) hl⟩⟩
theorem ev_sameTop (a b : Val) (ha : a.names.length ≤ 1048576) : ∃ r, Ev (fun k => m_impl_sameTop k a b) r ∧ (r = true ↔ topEq a b) := by
  simp only [m_impl_sameTop]
  unfold topEq
  by_cases h1 : a.kind = b.kind
  · by_cases h2 : a.num = b.num
    · by_cases h3 : a.text = b.text
      · by_cases h4 : a.list.length = b.list.length
        · obtain ⟨r, h5, h6⟩ := ev_eqStrs a.names b.names ha
          refine ⟨r, ?_, by simp [h1, h2, h3, h4, h6]⟩
          rw [evT h1, evT h2, evT h3, evT (by omega), evC h5]; exact ev_some _
        · exact ⟨false, by rw [evT h1, evT h2, evT h3, evF (by omega)]; exact ev_some _, by simp [h4]⟩
      · exact ⟨false, by rw [evT h1, evT h2, evF h3]; exact ev_some _, by simp [h3]⟩
    · exact ⟨false, by rw [evT h1, evF h2]; exact ev_some _, by simp [h2]⟩
  · exact ⟨false, by rw [evF h1]; exact ev_some _, by simp [h1]⟩
theorem spanOf_id (l : List Val) : m_impl_spanOf l = some l := by
  unfold m_impl_spanOf
  cases l with
  | nil => simp
  | cons v l => rw [if_neg (by simp only [List.length_cons]; omega), if_pos (by simp)]

mutual
def szN : Val → Nat
  | .mk _ _ _ l _ => 1 + szNs l
def szNs : List Val → Nat
  | [] => 0
  | v :: l => szN v + szNs l
end
theorem szN_eq (v : Val) : szN v = 1 + szNs v.list := by cases v; simp [szN, Val.list_mk]
theorem szNs_mem {v : Val} : ∀ {l : List Val}, v ∈ l → szN v ≤ szNs l
  | x :: l, h => by
    simp only [szNs]
    rcases List.mem_cons.1 h with rfl | h
    · omega
    · have := szNs_mem h; omega
theorem szNs_len : ∀ (l : List Val), l.length ≤ szNs l
  | [] => by simp [szNs]
  | v :: l => by have := szNs_len l; have := szN_eq v; simp only [szNs, List.length_cons]; omega
theorem szNs_app : ∀ (a b : List Val), szNs (a ++ b) = szNs a + szNs b
  | [], b => by simp [szNs]
  | v :: a, b => by simp only [List.cons_append, szNs, szNs_app a b]; omega
/-- How much there is to do. -/
def toDo (l : List GPair) : Nat := szNs (l.map GPair.one)
/-- What was met leads to what is to be done, or to what was met. -/
def Inv (seen : List (List Val × List Val)) (todo : List GPair) : Prop :=
  ∀ p ∈ seen, p.1.length = p.2.length ∧ ∀ (i : Nat) x y, p.1[i]? = some x → p.2[i]? = some y → (⟨x, y⟩ : GPair) ∈ todo ∨ (topEq x y ∧ (x.list = [] ∨ (x.list, y.list) ∈ seen))
theorem seen_same {seen : List (List Val × List Val)} {todo : List GPair} (hI : Inv seen todo) (ht : ∀ p ∈ todo, p.one = p.other) : ∀ (n : Nat) (l l' : List Val), szNs l < n → (l, l') ∈ seen → l = l'
  | 0, l, l', hn, h => by omega
  | n + 1, l, l', hn, h => by
    obtain ⟨hl, hc⟩ := hI _ h
    have hl : l.length = l'.length := hl
    apply List.ext_getElem hl
    intro i hi hi'
    have h1 : l[i]? = some l[i] := List.getElem?_eq_getElem hi
    have h2 : l'[i]? = some l'[i] := List.getElem?_eq_getElem hi'
    have hs := szNs_mem (List.getElem_mem hi)
    have he := szN_eq l[i]
    rcases hc i _ _ h1 h2 with h3 | ⟨⟨t1, t2, t3, t4, t5⟩, h4⟩
    · exact ht _ h3
    · refine Val.ext' t1 t2 t3 ?_ t5
      rcases h4 with h4 | h4
      · rw [h4] at t4 ⊢
        exact (List.eq_nil_of_length_eq_zero (by simpa using t4.symm)).symm
      · exact seen_same hI ht n _ _ (by omega) h4
def allSame (l : List GPair) : Prop := ∀ p ∈ l, p.one = p.other
noncomputable def resS (l : List GPair) : Lp Unit Bool := @ite _ (allSame l) (Classical.propDecidable _) (.go ()) (.ret false)
theorem resS_congr {a b : List GPair} (h : allSame a ↔ allSame b) : resS a = resS b := by
  unfold resS
  by_cases ha : allSame a
  · rw [if_pos ha, if_pos (h.1 ha)]
  · rw [if_neg ha, if_neg (fun hb => ha (h.2 hb))]
def kids (l l' : List Val) : List GPair := (l.zip l').map fun p => ⟨p.1, p.2⟩
theorem kids_mem {l l' : List Val} {i : Nat} {x y : Val} (h : l[i]? = some x) (h' : l'[i]? = some y) : (⟨x, y⟩ : GPair) ∈ kids l l' := by
  unfold kids
  have : (l.zip l')[i]? = some (x, y) := by rw [List.getElem?_zip_eq_some]; exact ⟨h, h'⟩
  exact List.mem_map.2 ⟨(x, y), List.mem_of_getElem? this, rfl⟩
theorem kids_same {l l' : List Val} (hl : l.length = l'.length) : allSame (kids l l') ↔ l = l' := by
  constructor
  · intro h
    apply List.ext_getElem hl
    intro i hi hi'
    exact h _ (kids_mem (List.getElem?_eq_getElem hi) (List.getElem?_eq_getElem hi'))
  · rintro rfl p hp
    unfold kids at hp
    obtain ⟨q, hq, rfl⟩ := List.mem_map.1 hp
    obtain ⟨i, hi⟩ := List.getElem?_of_mem hq
    rw [List.getElem?_zip_eq_some] at hi
    exact Option.some.inj (hi.1.symm.trans hi.2)
theorem kids_one {l l' : List Val} (hl : l.length = l'.length) : (kids l l').map GPair.one = l := by
  unfold kids
  rw [List.map_map]
  exact List.map_fst_zip (by omega)
theorem allSame_app {a b : List GPair} : allSame (a ++ b) ↔ allSame a ∧ allSame b := by
  unfold allSame
  constructor
  · exact fun h => ⟨fun p hp => h p (List.mem_append_left _ hp), fun p hp => h p (List.mem_append_right _ hp)⟩
  · rintro ⟨h1, h2⟩ p hp
    rcases List.mem_append.1 hp with h | h
    · exact h1 p h
    · exact h2 p h
theorem take_init {α : Type} [Inhabited α] (rest : List α) (p : α) (h : rest.length ≤ 1000000000) : ix (rest ++ [p]) (IntKind.wrap .i64 (((rest ++ [p]).length : Int) - 1)) = p ∧ (rest ++ [p]).take (Int.toNat (IntKind.wrap .i64 (((rest ++ [p]).length : Int) - 1))) = rest ∧ IntKind.wrap .i64 (((rest ++ [p]).length : Int) - 1) = (rest.length : Int) := by
  have hl : ((rest ++ [p]).length : Int) - 1 = (rest.length : Int) := by simp
  rw [hl, wrap_id (by omega)]
  refine ⟨?_, by simp, rfl⟩
  rw [ix_nat (by simp)]
  simp
theorem we_kids (L : Nat → List GPair → List GPair → Int → W (Lp (List GPair) (Lp Unit Bool))) (td : List GPair) (l l' : List Val) (hl : l.length = l'.length)
    (hs : ∀ (j : Nat) (x : List GPair) r, (h : j < l.length) → (h' : j < l'.length) → (x ++ [(⟨l[j], l'[j]⟩ : GPair)]).length * 160 ≤ 140737488355328 → WEv (fun k => L k td (x ++ [⟨l[j], l'[j]⟩]) ((j : Int) + 1)) r → WEv (fun k => L k td x j) r)
    (he : ∀ x, WEv (fun k => L k td x l.length) (.go x)) : ∀ (d j : Nat) (x : List GPair), j + d = l.length → x.length + d ≤ 800000000000 → WEv (fun k => L k td x j) (.go (x ++ kids (l.drop j) (l'.drop j)))
  | 0, j, x, hj, hx => by
    have := he x
    have h1 : l.drop j = [] := List.drop_of_length_le (by omega)
    rw [h1]
    rw [show l.length = j by omega] at this
    exact we_eq this (by simp [kids])
  | d + 1, j, x, hj, hx => by
    refine hs j x _ (by omega) (by omega) (by simp only [List.length_append, List.length_cons, List.length_nil]; omega) ?_
    have ih := we_kids L td l l' hl hs he d (j + 1) (x ++ [⟨l[j], l'[j]⟩]) (by omega) (by simp only [List.length_append, List.length_cons, List.length_nil]; omega)
    have h1 : l.drop j = l[j] :: l.drop (j + 1) := List.drop_eq_getElem_cons (by omega)
    have h2 : l'.drop j = l'[j] :: l'.drop (j + 1) := List.drop_eq_getElem_cons (by omega)
    rw [h1, h2]
    refine we_eq (by simpa using ih) ?_
    simp only [kids, List.zip_cons_cons, List.map_cons, List.append_assoc, List.cons_append, List.nil_append]
theorem we_kids2 (rest : List GPair) (p : GPair) (hr : rest.length ≤ 1000000000) (hl : p.one.list.length = p.other.list.length) (hb : p.one.list.length ≤ 1000000000) : WEv (fun k => w_impl_ValueSame_l2 k (rest ++ [p]) rest 0) (.go (rest ++ kids p.one.list p.other.list)) := by
  obtain ⟨e1, e2, e3⟩ := take_init rest p hr
  have := we_kids (fun k => w_impl_ValueSame_l2 k) (rest ++ [p]) p.one.list p.other.list hl (fun j x r h h' hx hr => by
    rw [we_shift]; simp only [w_impl_ValueSame_l2, e1]
    rw [weT (by omega), weT (by omega), weT (by omega), ix_nat h, ix_nat h', weT hx, wrap_id (by omega)]
    exact hr) (fun x => by
    rw [we_shift]; simp only [w_impl_ValueSame_l2, e1]
    rw [weF (by omega)]; exact we_pw _) p.one.list.length 0 rest (by omega) (by omega)
  simpa using this
theorem we_kids3 (rest : List GPair) (p : GPair) (hr : rest.length ≤ 1000000000) (hl : p.one.list.length = p.other.list.length) (hb : p.one.list.length ≤ 1000000000) : WEv (fun k => w_impl_ValueSame_l3 k (rest ++ [p]) rest 0) (.go (rest ++ kids p.one.list p.other.list)) := by
  obtain ⟨e1, e2, e3⟩ := take_init rest p hr
  have := we_kids (fun k => w_impl_ValueSame_l3 k) (rest ++ [p]) p.one.list p.other.list hl (fun j x r h h' hx hr => by
    rw [we_shift]; simp only [w_impl_ValueSame_l3, e1]
    rw [weT (by omega), weT (by omega), weT (by omega), ix_nat h, ix_nat h', weT hx, wrap_id (by omega)]
    exact hr) (fun x => by
    rw [we_shift]; simp only [w_impl_ValueSame_l3, e1]
    rw [weF (by omega)]; exact we_pw _) p.one.list.length 0 rest (by omega) (by omega)
  simpa using this
theorem toDo_len (l : List GPair) : l.length ≤ toDo l := by
  have := szNs_len (l.map GPair.one); simpa [toDo] using this

theorem we_same : ∀ (n : Nat) (todo : List GPair) (seen : List (List Val × List Val)), toDo todo < n → n ≤ 1000000000 → (∀ p ∈ todo, Bd 1048576 p.one) → Inv seen todo → WEv (fun k => w_impl_ValueSame_l1 k seen todo) (resS todo)
  | 0, todo, seen, hn, hn2, hb, hI => by omega
  | n + 1, todo, seen, hn, hn2, hb, hI => by
    rcases List.eq_nil_or_concat todo with rfl | ⟨rest, p, rfl⟩
    · rw [we_shift]; simp only [w_impl_ValueSame_l1]
      rw [weF (by simp)]
      refine we_eq (we_pw _) ?_
      unfold resS
      rw [if_pos (show allSame [] from fun p hp => by cases hp)]
    · rw [List.concat_eq_append] at hn hb hI ⊢
      have htl := toDo_len (rest ++ [p])
      have htd : toDo (rest ++ [p]) = toDo rest + szN p.one := by simp [toDo, szNs_app, szNs]
      have hsz := szN_eq p.one
      have hll := szNs_len p.one.list
      simp only [List.length_append, List.length_cons, List.length_nil] at htl
      obtain ⟨e1, e2, e3⟩ := take_init rest p (by omega)
      have hbr : ∀ q ∈ rest, Bd 1048576 q.one := fun q hq => hb q (List.mem_append_left _ hq)
      have hbp : Bd 1048576 p.one := hb p (by simp)
      have hlen : ((rest ++ [p]).length : Int) = rest.length + 1 := by simp
      rw [we_shift]; simp only [w_impl_ValueSame_l1, e1, e2]
      rw [e3, hlen, weT (by omega), weT (by omega), weT (by omega)]
      obtain ⟨b, hb1, hb2⟩ := ev_sameTop p.one p.other hbp.names
      refine we_cw hb1 ?_
      by_cases hte : topEq p.one p.other
      · have hbt : b = true := hb2.2 hte
        obtain ⟨t1, t2, t3, t4, t5⟩ := hte
        rw [weT hbt]
        have psame : p.one = p.other ↔ p.one.list = p.other.list := ⟨fun h => by rw [h], fun h => Val.ext' t1 t2 t3 h t5⟩
        have happ : allSame (rest ++ [p]) ↔ allSame rest ∧ p.one = p.other := by
          rw [allSame_app]
          exact and_congr_right fun _ => ⟨fun h => h p (by simp), fun h q hq => by simp only [List.mem_cons, List.not_mem_nil, or_false] at hq; rw [hq]; exact h⟩
        by_cases h0 : p.one.list = []
        · have hp : p.one = p.other := psame.2 (by rw [h0] at t4 ⊢; exact (List.eq_nil_of_length_eq_zero (by simpa using t4.symm)).symm)
          rw [weT (by simp [h0])]
          refine we_eq (we_same n rest seen (by omega) (by omega) hbr ?_) (resS_congr (happ.trans ⟨fun h => h.1, fun h => ⟨h, hp⟩⟩).symm)
          intro q hq
          refine ⟨(hI q hq).1, fun i x y h1 h2 => ?_⟩
          rcases (hI q hq).2 i x y h1 h2 with h | h
          · rcases List.mem_append.1 h with h | h
            · exact .inl h
            · simp only [List.mem_cons, List.not_mem_nil, or_false] at h
              subst h
              exact .inr ⟨⟨t1, t2, t3, t4, t5⟩, .inl h0⟩
          · exact .inr h
        · rw [weF (by intro h; exact h0 (List.eq_nil_of_length_eq_zero (by omega)))]
          refine we_cw (y := p.one.list) ⟨0, fun _ _ => spanOf_id _⟩ (we_cw (y := p.other.list) ⟨0, fun _ _ => spanOf_id _⟩ ?_)
          have hkd : toDo (rest ++ kids p.one.list p.other.list) < n := by
            unfold toDo
            rw [List.map_append, szNs_app, kids_one t4]
            unfold toDo at htd hn
            omega
          have hkb : ∀ q ∈ rest ++ kids p.one.list p.other.list, Bd 1048576 q.one := by
            intro q hq
            rcases List.mem_append.1 hq with h | h
            · exact hbr q h
            · have : q.one ∈ (kids p.one.list p.other.list).map GPair.one := List.mem_map.2 ⟨q, h, rfl⟩
              rw [kids_one t4] at this
              exact hbp.within _ this
          have hkr : resS (rest ++ kids p.one.list p.other.list) = resS (rest ++ [p]) := resS_congr (by rw [allSame_app, happ, psame, kids_same t4])
          have more : ∀ seen', (∀ q ∈ seen, q ∈ seen') → (∀ q ∈ seen', q ∈ seen ∨ q = (p.one.list, p.other.list)) → (p.one.list, p.other.list) ∈ seen' → Inv seen' (rest ++ kids p.one.list p.other.list) := by
            intro seen' h1 h2 h3 q hq
            rcases h2 q hq with h | rfl
            · refine ⟨(hI q h).1, fun i x y g1 g2 => ?_⟩
              rcases (hI q h).2 i x y g1 g2 with g | ⟨g3, g4⟩
              · rcases List.mem_append.1 g with g | g
                · exact .inl (List.mem_append_left _ g)
                · simp only [List.mem_cons, List.not_mem_nil, or_false] at g
                  subst g
                  exact .inr ⟨⟨t1, t2, t3, t4, t5⟩, .inr h3⟩
              · exact .inr ⟨g3, g4.imp_right (h1 _)⟩
            · exact ⟨t4, fun i x y g1 g2 => .inl (List.mem_append_right _ (kids_mem g1 g2))⟩
          refine we_lk (we_lk ?_ ?_) ?_
          · refine we_go (we_kids2 rest p (by omega) t4 (by omega)) (we_eq (we_same n _ _ hkd (by omega) hkb (more _ (fun q hq => List.mem_append_left _ hq) (fun q hq => ?_) (by simp))) hkr)
            rcases List.mem_append.1 hq with h | h
            · exact .inl h
            · exact .inr (by simpa using h)
          · intro hm
            exact we_go (we_kids3 rest p (by omega) t4 (by omega)) (we_eq (we_same n _ _ hkd (by omega) hkb (more seen (fun q hq => hq) (fun q hq => .inl hq) hm)) hkr)
          · intro hm
            have hI' : Inv seen rest := by
              intro q hq
              refine ⟨(hI q hq).1, fun i x y h1 h2 => ?_⟩
              rcases (hI q hq).2 i x y h1 h2 with h | h
              · rcases List.mem_append.1 h with h | h
                · exact .inl h
                · simp only [List.mem_cons, List.not_mem_nil, or_false] at h
                  subst h
                  exact .inr ⟨⟨t1, t2, t3, t4, t5⟩, .inr hm⟩
              · exact .inr h
            refine we_eq (we_same n rest seen (by omega) (by omega) hbr hI') (resS_congr (happ.trans ⟨fun h => h.1, fun h => ⟨h, ?_⟩⟩).symm)
            exact psame.2 (seen_same hI' h _ _ _ (Nat.lt_succ_self _) hm)
      · have hbf : ¬ b = true := fun h => hte (hb2.1 h)
        rw [weF hbf]
        refine we_eq (we_rtw (we_pw false)) ?_
        unfold resS
        rw [if_neg]
        intro h
        have := h p (by simp)
        exact hte ⟨by rw [this], by rw [this], by rw [this], by rw [this], by rw [this]⟩
theorem we_ValueSame (a b : Val) (ha : Bd 1048576 a) (hs : szN a < 900000000) : WEv (fun k => w_impl_ValueSame k a b) (sameV a b) := by
  simp only [w_impl_ValueSame]
  have h := we_same (szN a + 1) [⟨a, b⟩] [] (by simp [toDo, szNs]) (by omega) (fun p hp => by simp only [List.mem_cons, List.not_mem_nil, or_false] at hp; subst hp; exact ha) (fun p hp => by cases hp)
  have e : allSame [⟨a, b⟩] ↔ a = b := ⟨fun h => h ⟨a, b⟩ (by simp), fun h p hp => by simp only [List.mem_cons, List.not_mem_nil, or_false] at hp; subst hp; exact h⟩
  by_cases hab : a = b
  · rw [show resS [⟨a, b⟩] = .go () from if_pos (e.2 hab)] at h
    rw [sameV_yes hab]
    exact we_go h (we_pw _)
  · rw [show resS [⟨a, b⟩] = .ret false from if_neg (fun h => hab (e.1 h))] at h
    rw [sameV_no hab]
    exact we_ret h
/-- What the program answers. -/
noncomputable def m_impl_ValueSame (k : Nat) (a b : Val) : Option Bool := @ite _ (w_impl_ValueSame k a b (fun x => x = sameV a b)) (Classical.propDecidable _) (some (sameV a b)) none
theorem ev_iSame (a b : Val) (ha : Bd 1048576 a) (hs : szN a < 900000000) : Ev (fun k => m_impl_ValueSame k a b) (sameV a b) := by
  obtain ⟨K, h⟩ := (we_ValueSame a b ha hs).get
  exact ⟨K, fun k hk => if_pos (h k hk)⟩
end Go.Proofs.Ytiaigcdckmpepaa
end
section
/-! What is drawn. -/
set_option linter.unusedVariables false
set_option linter.unusedSimpArgs false
namespace Go.Proofs.Ytiaigcdckmpepaa
open Go.Bb

/-- A reader of bytes, at a place not beyond. -/
def Rd (m : Int) (r : GL1Rd) : Prop := (∀ x ∈ r.b, 0 ≤ x ∧ x ≤ 255) ∧ r.b.length ≤ 2000 ∧ 0 ≤ r.p ∧ r.p ≤ m
theorem ix_range {l : List Int} (h : ∀ x ∈ l, 0 ≤ x ∧ x ≤ 255) {i : Int} (h1 : 0 ≤ i) (h2 : i < (l.length : Int)) : 0 ≤ ix l i ∧ ix l i ≤ 255 := by
  obtain ⟨n, rfl⟩ : ∃ n : Nat, i = n := ⟨i.toNat, by omega⟩
  rw [ix_nat (by omega)]
  exact h _ (List.getElem_mem _)
theorem xor_nn {x y : Int} (hx : 0 ≤ x ∧ x < 4611686018427387904) (hy : 0 ≤ y ∧ y < 4611686018427387904) : 0 ≤ bitsI .xor .i64 x y ∧ bitsI .xor .i64 x y ≤ 4611686018427387904 := by
  have key : (BitVec.ofInt (IntKind.bits .i64) x ^^^ BitVec.ofInt (IntKind.bits .i64) y).toNat < 2 ^ 62 := by
    rw [BitVec.toNat_xor]
    refine Nat.xor_lt_two_pow ?_ ?_
    · rw [BitVec.toNat_ofInt]
      have : (2 : Nat) ^ IntKind.bits .i64 = 18446744073709551616 := rfl
      rw [this]; omega
    · rw [BitVec.toNat_ofInt]
      have : (2 : Nat) ^ IntKind.bits .i64 = 18446744073709551616 := rfl
      rw [this]; omega
  unfold bitsI
  simp only
  rw [wrap_id (by omega)]
  omega
theorem pick_ok {m : Int} {r : GL1Rd} (h : Rd m r) (hm : m ≤ 100000) {n : Int} (hn : 1 ≤ n) : ∃ v r', m_spec_l1Rd_pick r n = some (v, r') ∧ Rd (m + 1) r' ∧ 0 ≤ v ∧ v < n := by
  obtain ⟨hb, hl, hp1, hp2⟩ := h
  have hr : Rd (m + 1) (GL1Rd.mk r.b (r.p + 1)) := ⟨hb, hl, by show 0 ≤ r.p + 1; omega, by show r.p + 1 ≤ m + 1; omega⟩
  unfold m_spec_l1Rd_pick
  rw [if_neg (by omega)]
  simp only [Option.bind_some, Lp.then]
  rw [wrap_id (n := r.p + 1) (by omega)]
  rw [show r.p + 1 - 1 = r.p by omega, wrap_id (n := r.p) (by omega)]
  by_cases h0 : (r.b.length : Int) = 0
  · exact ⟨0, _, by rw [if_pos (by simpa using h0)], hr, by omega, by omega⟩
  · rw [if_neg (by simpa using h0)]
    by_cases h1 : r.p < (r.b.length : Int)
    · have hi := ix_range hb hp1 h1
      rw [if_pos h1, if_pos ⟨hp1, h1⟩, if_pos (by omega), wrap_id (n := ix r.b r.p) (by omega)]
      exact ⟨_, _, rfl, hr, Int.tmod_nonneg _ hi.1, Int.tmod_lt_of_pos _ (by omega)⟩
    · have hlp : 0 < (r.b.length : Int) := by omega
      have a1 := Int.tmod_nonneg (a := r.p) (r.b.length : Int) hp1
      have a2 := Int.tmod_lt_of_pos r.p hlp
      rw [wrap_id (n := r.p * 7) (by omega), wrap_id (n := r.p * 7 + 3) (by omega)]
      have b1 := Int.tmod_nonneg (a := r.p * 7 + 3) (r.b.length : Int) (by omega)
      have b2 := Int.tmod_lt_of_pos (r.p * 7 + 3) hlp
      have hi1 := ix_range hb a1 a2
      have hi2 := ix_range hb b1 b2
      have c1 := Int.tdiv_nonneg (a := r.p) (b := (r.b.length : Int)) hp1 (by omega)
      have c2 := Int.tdiv_le_self (a := r.p) (r.b.length : Int) hp1
      generalize hX : ix r.b (Int.tmod r.p (r.b.length : Int)) = X at *
      generalize hY : ix r.b (Int.tmod (r.p * 7 + 3) (r.b.length : Int)) = Y at *
      generalize hC : Int.tdiv r.p (r.b.length : Int) = C at *
      rw [wrap_id (n := X) (by omega), wrap_id (n := Y) (by omega), wrap_id (n := C) (by omega)]
      rw [wrap_id (n := X * 131) (by omega), wrap_id (n := Y * 1117) (by omega), wrap_id (n := r.p * 29) (by omega), wrap_id (n := C * 53) (by omega)]
      rw [wrap_id (n := X * 131 + Y * 1117) (by omega), wrap_id (n := X * 131 + Y * 1117 + r.p * 29) (by omega), wrap_id (n := X * 131 + Y * 1117 + r.p * 29 + C * 53) (by omega)]
      have hz : 0 ≤ X * 131 + Y * 1117 + r.p * 29 + C * 53 ∧ X * 131 + Y * 1117 + r.p * 29 + C * 53 ≤ 1000000000 := by omega
      generalize hZ : X * 131 + Y * 1117 + r.p * 29 + C * 53 = Z at *
      have d1 := Int.tdiv_nonneg (a := Z) (b := 64) hz.1 (by omega)
      have d2 := Int.tdiv_le_self (a := Z) 64 hz.1
      rw [wrap_id (n := Int.tdiv Z 64) (by omega)]
      have e := xor_nn (x := Z) (y := Int.tdiv Z 64) (by omega) (by omega)
      rw [if_neg h1, if_pos h0, if_pos ⟨a1, a2⟩, if_pos h0, if_pos ⟨b1, b2⟩, if_pos h0, if_pos (by omega)]
      exact ⟨_, _, rfl, hr, Int.tmod_nonneg _ e.1, Int.tmod_lt_of_pos _ (by omega)⟩
theorem of_ok {m : Int} {r : GL1Rd} (h : Rd m r) (hm : m ≤ 100000) {l : List Bs} (hl : l ≠ []) : ∃ x r', m_spec_l1Rd_of r l = some (x, r') ∧ Rd (m + 1) r' ∧ x ∈ l := by
  have hn : 0 < l.length := List.length_pos_iff.2 hl
  obtain ⟨v, r', h1, h2, h3, h4⟩ := pick_ok h hm (n := (l.length : Int)) (by omega)
  unfold m_spec_l1Rd_of
  rw [h1, Option.bind_some, if_pos ⟨h3, h4⟩]
  refine ⟨_, _, rfl, h2, ?_⟩
  simp only
  obtain ⟨j, rfl⟩ : ∃ n : Nat, v = n := ⟨v.toNat, by omega⟩
  rw [ix_nat (by omega)]; exact List.getElem_mem _
theorem one_ok {m : Int} {r : GL1Rd} (h : Rd m r) (hm : m ≤ 100000) {l : List Int} (hl : l ≠ []) : ∃ x r', m_spec_l1Rd_one r l = some (x, r') ∧ Rd (m + 1) r' ∧ x ∈ l := by
  have hn : 0 < l.length := List.length_pos_iff.2 hl
  obtain ⟨v, r', h1, h2, h3, h4⟩ := pick_ok h hm (n := (l.length : Int)) (by omega)
  unfold m_spec_l1Rd_one
  rw [h1, Option.bind_some, if_pos ⟨h3, h4⟩]
  refine ⟨_, _, rfl, h2, ?_⟩
  simp only
  obtain ⟨j, rfl⟩ : ∃ n : Nat, v = n := ⟨v.toNat, by omega⟩
  rw [ix_nat (by omega)]; exact List.getElem_mem _
theorem open_ok {a : List Int} (h : ∀ x ∈ a, 0 ≤ x ∧ x ≤ 255) : ∃ r, m_spec_l1Open a = some r ∧ Rd 0 r := by
  unfold m_spec_l1Open
  by_cases h1 : 2000 < (a.length : Int)
  · rw [if_pos h1, if_pos (by omega)]
    refine ⟨_, rfl, fun x hx => h x ?_, ?_, Int.le_refl _, Int.le_refl _⟩
    · simp only [sub] at hx
      exact List.mem_of_mem_take (List.mem_of_mem_drop hx)
    · show (sub a 0 2000).length ≤ 2000
      simp only [sub, List.length_drop, List.length_take]; omega
  · rw [if_neg h1]
    exact ⟨_, rfl, h, by show a.length ≤ 2000; omega, Int.le_refl _, Int.le_refl _⟩
theorem Rd.mono {m m' : Int} {r : GL1Rd} (h : Rd m r) (hm : m ≤ m') : Rd m' r := ⟨h.1, h.2.1, h.2.2.1, by have := h.2.2.2; omega⟩
theorem many_loop : ∀ (n : Nat) (s out : Bs), n ≤ 1000 → out.length + s.length * n ≤ 1000 → ∃ o, Ev (fun k => m_spec_l1Many_l1 k s (n : Int) out) (.go o) ∧ o.length = out.length + s.length * n := by
  intro n
  induction n using Nat.strongRecOn with
  | _ n ih =>
    intro s out hn1 hso
    have hs : s.length * n ≤ 1000 := by omega
    have ho : out.length ≤ 1000 := by omega
    rcases Nat.eq_zero_or_pos n with rfl | hn
    · refine ⟨out, ?_, by simp⟩
      rw [ev_shift]; simp only [m_spec_l1Many_l1]
      rw [evF (by omega)]; exact ev_some _
    · have hsl : s.length ≤ 1000 := Nat.le_trans (Nat.le_mul_of_pos_right _ hn) hs
      have hd : IntKind.wrap .i64 (Int.tdiv (n : Int) 2) = ((n / 2 : Nat) : Int) := by
        rw [show Int.tdiv (n : Int) 2 = ((n / 2 : Nat) : Int) from rfl, wrap_id (by omega)]
      have hm : Int.tmod (n : Int) 2 = ((n % 2 : Nat) : Int) := rfl
      have hmx : maxLen = 281474976710656 ∨ 4000 ≤ maxLen := .inr (by decide)
      have hmx' : 4000 ≤ maxLen := by decide
      have hss : (s ++ s).length * (n / 2) ≤ 1000 := by
        rw [List.length_append]
        have : (s.length + s.length) * (n / 2) = s.length * (2 * (n / 2)) := by rw [← Nat.two_mul, Nat.mul_comm 2, Nat.mul_assoc]
        rw [this]
        exact Nat.le_trans (Nat.mul_le_mul_left _ (by omega)) hs
      have hdbl : (s ++ s).length * (n / 2) = s.length * (2 * (n / 2)) := by
        rw [List.length_append, ← Nat.two_mul, Nat.mul_comm 2, Nat.mul_assoc]
      by_cases h2 : n % 2 = 1
      · have hmul : s.length * n = s.length * (2 * (n / 2)) + s.length := by
          conv => lhs; rw [show n = 2 * (n / 2) + 1 by omega, Nat.mul_add, Nat.mul_one]
        obtain ⟨o, g1, g2⟩ := ih (n / 2) (by omega) (s ++ s) (out ++ s) (by omega) (by rw [hdbl, List.length_append]; omega)
        refine ⟨o, ?_, by rw [g2, hdbl, hmul, List.length_append]; omega⟩
        rw [ev_shift]
        simp only [m_spec_l1Many_l1, hd, hm]
        rw [evT (by omega), evT (by omega), evT (by rw [List.length_append]; omega), evT (by rw [List.length_append]; omega)]
        exact g1
      · have hmul : s.length * n = s.length * (2 * (n / 2)) := by
          conv => lhs; rw [show n = 2 * (n / 2) by omega]
        obtain ⟨o, g1, g2⟩ := ih (n / 2) (by omega) (s ++ s) out (by omega) (by rw [hdbl]; omega)
        refine ⟨o, ?_, by rw [g2, hdbl, hmul]⟩
        rw [ev_shift]
        simp only [m_spec_l1Many_l1, hd, hm]
        rw [evT (by omega), evF (by omega), evT (by rw [List.length_append]; omega)]
        exact g1
end Go.Proofs.Ytiaigcdckmpepaa
end
section
/-! Values that are drawn. -/
set_option linter.unusedVariables false
set_option linter.unusedSimpArgs false
namespace Go.Proofs.Ytiaigcdckmpepaa
open Go.Bb

theorem ev_of {α : Type} {x : Option α} {a : α} (h : x = some a) : Ev (fun _ => x) a := ⟨0, fun _ _ => h⟩
theorem text_ok {m : Int} {r : GL1Rd} (h : Rd m r) (hm : m ≤ 100000) : ∃ s r', Ev (fun k => m_spec_l13Text k r) (s, r') ∧ Rd (m + 1) r' ∧ s.length ≤ 40 := by
  simp only [m_spec_l13Text]
  obtain ⟨o, h1, h2⟩ := many_loop 40 [120] [] (by omega) (by decide)
  have hmany : Ev (fun k => m_spec_l1Many k [120] 40) o := by
    simp only [m_spec_l1Many]
    exact Ev.go h1 (ev_some _)
  obtain ⟨x, r', g1, g2, g3⟩ := of_ok h hm (l := [[], [97], [104, 101, 108, 108, 111], [34, 113, 34], [108, 105, 110, 101, 10], [0, 255], [92], o, [67, 65, 84]]) (by simp)
  refine ⟨x, r', ?_, g2, ?_⟩
  · rw [evC hmany, evC (ev_of g1)]; exact ev_some _
  · have ho : o.length = 40 := by simpa using h2
    simp only [List.mem_cons, List.not_mem_nil, or_false] at g3
    rcases g3 with rfl | rfl | rfl | rfl | rfl | rfl | rfl | rfl | rfl <;> simp_all
theorem ev_has (l : List Bs) (s : Bs) (hl : l.length ≤ 1000) : ∃ b, Ev (fun k => m_spec_l2Has k l s) b := by
  have loop : ∀ (d j : Nat), j + d = l.length → ∃ o, Ev (fun k => m_spec_l2Has_l1 k l s j) o ∧ (o = .go () ∨ o = .ret true) := by
    intro d
    induction d with
    | zero =>
      intro j hj
      refine ⟨.go (), ?_, .inl rfl⟩
      rw [ev_shift]; simp only [m_spec_l2Has_l1]
      rw [evF (by omega)]; exact ev_some _
    | succ d ih =>
      intro j hj
      by_cases hx : ix l (j : Int) = s
      · refine ⟨.ret true, ?_, .inr rfl⟩
        rw [ev_shift]; simp only [m_spec_l2Has_l1]
        rw [evT (by omega), evT (by omega), evT hx]; exact ev_some _
      · obtain ⟨o, h1, h2⟩ := ih (j + 1) (by omega)
        refine ⟨o, ?_, h2⟩
        rw [ev_shift]; simp only [m_spec_l2Has_l1]
        rw [evT (by omega), evT (by omega), evF hx, wrap_id (by omega)]
        simpa using h1
  obtain ⟨o, h1, h2⟩ := loop l.length 0 (by omega)
  have h1 : Ev (fun k => m_spec_l2Has_l1 k l s 0) o := by simpa using h1
  simp only [m_spec_l2Has]
  rcases h2 with rfl | rfl
  · exact ⟨false, Ev.go h1 (ev_some _)⟩
  · exact ⟨true, Ev.ret h1⟩
/-- A value of at most depth d is drawn. -/
def ValD (d : Nat) : Prop := ∀ (m : Int) (r : GL1Rd), Rd m r → m + 10 * 4 ^ d ≤ 100000 → ∃ v r', Ev (fun k => m_spec_l13Value k r (d : Int)) (v, r') ∧ Rd (m + 10 * 4 ^ d) r' ∧ Bd 100 v ∧ szN v ≤ 4 ^ d ∧ v.list.length ≤ 3
theorem d_list {d : Nat} (hd : d ≤ 20) (hV : ValD d) : ∀ (j : Nat) (m : Int) (b : List Int) (p : Int) (acc : List Val), Rd m ⟨b, p⟩ → m + j * (10 * 4 ^ d) ≤ 100000 → acc.length + j ≤ 3 → (∀ x ∈ acc, Bd 100 x) →
    ∃ b' p' l, Ev (fun k => m_spec_l13Value_l1 k ((d : Int) + 1) b p acc (j : Int)) (.go (b', p', l)) ∧ Rd (m + j * (10 * 4 ^ d)) ⟨b', p'⟩ ∧ l.length ≤ 3 ∧ (∀ x ∈ l, Bd 100 x) ∧ szNs l ≤ szNs acc + j * 4 ^ d
  | 0, m, b, p, acc, hr, hm, ha, hb => by
    refine ⟨b, p, acc, ?_, by simpa using hr, by omega, hb, by simp⟩
    rw [ev_shift]; simp only [m_spec_l13Value_l1]
    rw [evF (by omega)]; exact ev_some _
  | j + 1, m, b, p, acc, hr, hm, ha, hb => by
    have e : ((j + 1 : Nat) : Int) * (10 * 4 ^ d) = j * (10 * 4 ^ d) + 10 * 4 ^ d := by rw [Int.natCast_add, Int.add_mul]; simp
    have hp : (0 : Int) ≤ j * (10 * 4 ^ d) := Int.mul_nonneg (by omega) (by have : (0 : Int) ≤ 4 ^ d := Int.pow_nonneg (by omega); omega)
    rw [e] at hm
    obtain ⟨v, r', h1, h2, h3, h4, _⟩ := hV m ⟨b, p⟩ hr (by omega)
    obtain ⟨rb, rp⟩ := r'
    obtain ⟨b', p', l, g1, g2, g3, g4, g5⟩ := d_list hd hV j (m + 10 * 4 ^ d) rb rp (acc ++ [v]) h2 (by omega) (by simp; omega) (fun x hx => by
      rcases List.mem_append.1 hx with h | h
      · exact hb x h
      · simp only [List.mem_cons, List.not_mem_nil, or_false] at h; subst h; exact h3)
    refine ⟨b', p', l, ?_, g2.mono (by rw [e]; omega), g3, g4, ?_⟩
    · rw [ev_shift]; simp only [m_spec_l13Value_l1]
      rw [evT (by omega), wrap_id (n := (d : Int) + 1 - 1) (by omega), show (d : Int) + 1 - 1 = (d : Int) by omega, evC h1, evT (by simp; omega), wrap_id (by omega)]
      simpa using g1
    · rw [szNs_app] at g5
      simp only [szNs] at g5
      have e2 : (j + 1) * 4 ^ d = j * 4 ^ d + 4 ^ d := by rw [Nat.add_mul, Nat.one_mul]
      omega
theorem d_tree {d : Nat} (hd : d ≤ 20) (hV : ValD d) : ∀ (j : Nat) (m : Int) (b : List Int) (p : Int) (acc : List Val) (ns : List Bs), Rd m ⟨b, p⟩ → m + j * (10 * 4 ^ d + 1) ≤ 100000 → acc.length + j ≤ 3 → ns.length + j ≤ 3 → (∀ x ∈ acc, Bd 100 x) → (∀ s ∈ ns, s.length ≤ 100) →
    ∃ b' p' l n', Ev (fun k => m_spec_l13Value_l2 k ((d : Int) + 1) b p acc ns (j : Int)) (.go (b', p', l, n')) ∧ Rd (m + j * (10 * 4 ^ d + 1)) ⟨b', p'⟩ ∧ l.length ≤ 3 ∧ n'.length ≤ 3 ∧ (∀ x ∈ l, Bd 100 x) ∧ (∀ s ∈ n', s.length ≤ 100) ∧ szNs l ≤ szNs acc + j * 4 ^ d
  | 0, m, b, p, acc, ns, hr, hm, ha, hn, hb, hbn => by
    refine ⟨b, p, acc, ns, ?_, by simpa using hr, by omega, by omega, hb, hbn, by simp⟩
    rw [ev_shift]; simp only [m_spec_l13Value_l2]
    rw [evF (by omega)]; exact ev_some _
  | j + 1, m, b, p, acc, ns, hr, hm, ha, hn, hb, hbn => by
    have e : ((j + 1 : Nat) : Int) * (10 * 4 ^ d + 1) = j * (10 * 4 ^ d + 1) + (10 * 4 ^ d + 1) := by rw [Int.natCast_add, Int.add_mul]; simp
    have hp4 : (0 : Int) ≤ 4 ^ d := Int.pow_nonneg (by omega)
    have hp : (0 : Int) ≤ j * (10 * 4 ^ d + 1) := Int.mul_nonneg (by omega) (by omega)
    rw [e] at hm
    obtain ⟨nm, r1, k1, k2, k3⟩ := of_ok hr (by omega) (l := [[97], [98], [99], [114, 101, 102], [120, 49]]) (by simp)
    have hnm : nm.length ≤ 100 := by
      simp only [List.mem_cons, List.not_mem_nil, or_false] at k3
      rcases k3 with rfl | rfl | rfl | rfl | rfl <;> simp
    obtain ⟨hb1, hb2⟩ := ev_has ns nm (by omega)
    obtain ⟨rb1, rp1⟩ := r1
    have e2 : (j + 1) * 4 ^ d = j * 4 ^ d + 4 ^ d := by rw [Nat.add_mul, Nat.one_mul]
    have hq4 : 1 ≤ 4 ^ d := Nat.pow_pos (by omega)
    by_cases hbt : hb1 = true
    · obtain ⟨b', p', l, n', g1, g2, g3, g4, g5, g6, g7⟩ := d_tree hd hV j (m + 1) rb1 rp1 acc ns k2 (by omega) (by omega) (by omega) hb hbn
      refine ⟨b', p', l, n', ?_, g2.mono (by rw [e]; omega), g3, g4, g5, g6, by omega⟩
      rw [ev_shift]; simp only [m_spec_l13Value_l2]
      rw [evT (by omega), evC (ev_of k1), evC hb2, evT hbt, wrap_id (by omega)]
      simpa using g1
    · obtain ⟨v, r', h1, h2, h3, h4, _⟩ := hV (m + 1) ⟨rb1, rp1⟩ k2 (by omega)
      obtain ⟨rb, rp⟩ := r'
      obtain ⟨b', p', l, n', g1, g2, g3, g4, g5, g6, g7⟩ := d_tree hd hV j (m + 1 + 10 * 4 ^ d) rb rp (acc ++ [v]) (ns ++ [nm]) h2 (by omega) (by simp; omega) (by simp; omega) (fun x hx => by
        rcases List.mem_append.1 hx with h | h
        · exact hb x h
        · simp only [List.mem_cons, List.not_mem_nil, or_false] at h; subst h; exact h3) (fun x hx => by
        rcases List.mem_append.1 hx with h | h
        · exact hbn x h
        · simp only [List.mem_cons, List.not_mem_nil, or_false] at h; subst h; exact hnm)
      refine ⟨b', p', l, n', ?_, g2.mono (by rw [e]; omega), g3, g4, g5, g6, ?_⟩
      · rw [ev_shift]; simp only [m_spec_l13Value_l2]
        rw [evT (by omega), evC (ev_of k1), evC hb2, evF hbt, evT (by simp; omega), wrap_id (n := (d : Int) + 1 - 1) (by omega), show (d : Int) + 1 - 1 = (d : Int) by omega, evC h1, evT (by simp; omega), wrap_id (by omega)]
        simpa using g1
      · rw [szNs_app] at g7
        simp only [szNs] at g7
        omega
theorem val_dstep (d : Nat) (hd : d ≤ 20) (hV : 1 ≤ d → ValD d) : ValD (d + 1) := by
    intro m r hr hm
    have hp4 : (1 : Int) ≤ 4 ^ d := by have := Int.pow_pos (n := 4) (m := d) (by omega); omega
    have e4 : (4 : Int) ^ (d + 1) = 4 * 4 ^ d := by rw [Int.pow_succ]; omega
    have n4 : 4 ^ (d + 1) = 4 * 4 ^ d := by rw [Nat.pow_succ]; omega
    have np : 1 ≤ 4 ^ d := Nat.pow_pos (by omega)
    rw [e4] at hm ⊢
    rw [n4]
    obtain ⟨k0, r1, a1, a2, a3⟩ := one_ok hr (by omega) (l := [0, 1, 2, 2, 3, 3, 4, 5]) (by simp)
    have hk0 : 0 ≤ k0 ∧ k0 ≤ 5 := by
      simp only [List.mem_cons, List.not_mem_nil, or_false] at a3
      omega
    -- the kind
    have kind : ∃ kd b p, Ev (fun k => (if (((d + 1 : Nat) : Int)) ≤ 1 then some (Lp.go (β := Lp (List Int × Int × Int) (Val × GL1Rd)) (decide (3 < k0))) else some (Lp.go false)).bind fun o4 => o4.then fun s4 => if s4 = true then (m_spec_l1Rd_pick r1 4).bind fun y11 => some (Lp.go (y11.2.b, y11.2.p, y11.1)) else some (Lp.go (r1.b, r1.p, k0))) (.go (b, p, kd)) ∧ Rd (m + 2) ⟨b, p⟩ ∧ 0 ≤ kd ∧ kd ≤ 5 ∧ (3 < kd → 1 ≤ d) := by
      by_cases hd1 : ((d + 1 : Nat) : Int) ≤ 1
      · by_cases h3 : 3 < k0
        · obtain ⟨v, r2, c1, c2, c3, c4⟩ := pick_ok a2 (by omega) (n := 4) (by omega)
          refine ⟨v, r2.b, r2.p, ?_, c2.mono (by omega), c3, by omega, fun h => by omega⟩
          rw [evbT hd1, evbS]; simp only [thenG]
          rw [evT (by simpa using h3), evC (ev_of c1)]; exact ev_some _
        · refine ⟨k0, r1.b, r1.p, ?_, a2.mono (by omega), hk0.1, hk0.2, fun h => by omega⟩
          rw [evbT hd1, evbS]; simp only [thenG]
          rw [evF (by simpa using h3)]; exact ev_some _
      · refine ⟨k0, r1.b, r1.p, ?_, a2.mono (by omega), hk0.1, hk0.2, fun _ => by omega⟩
        rw [evbF hd1, evbS]; simp only [thenG]
        rw [evF (by simp)]; exact ev_some _
    obtain ⟨kd, b, p, q1, q2, q3, q4, q5⟩ := kind
    have bd1 : ∀ (n : Int) (s : Bs), s.length ≤ 100 → Bd 100 (.mk kd n s [] []) := fun n s h => .mk _ h (by simp) (by simp) (by simp) (by simp)
    have sz1 : ∀ (n : Int) (s : Bs), szN (.mk kd n s [] []) ≤ 4 * 4 ^ d := fun n s => by simp [szN, szNs]; omega
    by_cases c1 : kd = 1
    · obtain ⟨v, r2, g1, g2, g3, g4⟩ := pick_ok q2 (by omega) (n := 2) (by omega)
      refine ⟨.mk kd v [] [] [], r2, ?_, g2.mono (by omega), bd1 _ _ (by simp), sz1 _ _, by simp⟩
      rw [ev_shift]; simp only [m_spec_l13Value]
      rw [evC (ev_of a1)]
      refine Ev.go q1 ?_
      simp only
      rw [evT c1, evC (ev_of g1)]; exact ev_some _
    by_cases c2 : kd = 2
    · obtain ⟨v, r2, g1, g2, g3⟩ := one_ok q2 (by omega) (l := [0, 1, (-1), 7, 42, 2147483647, (-2147483647)]) (by simp)
      refine ⟨.mk kd v [] [] [], r2, ?_, g2.mono (by omega), bd1 _ _ (by simp), sz1 _ _, by simp⟩
      rw [ev_shift]; simp only [m_spec_l13Value]
      rw [evC (ev_of a1)]
      refine Ev.go q1 ?_
      simp only
      rw [evF c1, evT c2, evC (ev_of g1)]; exact ev_some _
    by_cases c3 : kd = 3
    · obtain ⟨s, r2, g1, g2, g3⟩ := text_ok q2 (by omega)
      refine ⟨.mk kd 0 s [] [], r2, ?_, g2.mono (by omega), bd1 _ _ (by omega), sz1 _ _, by simp⟩
      rw [ev_shift]; simp only [m_spec_l13Value]
      rw [evC (ev_of a1)]
      refine Ev.go q1 ?_
      simp only
      rw [evF c1, evF c2, evT c3, evC g1]; exact ev_some _
    have hdd : ((d + 1 : Nat) : Int) = (d : Int) + 1 := by omega
    by_cases c4 : kd = 4
    · have hVd := hV (q5 (by omega))
      obtain ⟨n, r2, g1, g2, g3, g4⟩ := pick_ok q2 (by omega) (n := 4) (by omega)
      obtain ⟨j, rfl⟩ : ∃ j : Nat, n = j := ⟨n.toNat, by omega⟩
      have hj : (j : Int) * (10 * 4 ^ d) ≤ 3 * (10 * 4 ^ d) := Int.mul_le_mul_of_nonneg_right (by omega) (by omega)
      have hj2 : j * 4 ^ d ≤ 3 * 4 ^ d := Nat.mul_le_mul_right _ (by omega)
      obtain ⟨rb, rp⟩ := r2
      obtain ⟨b', p', l, u1, u2, u3, u4, u5⟩ := d_list hd hVd j (m + 2 + 1) rb rp [] g2 (by omega) (by simp; omega) (by simp)
      simp only [szNs] at u5
      refine ⟨.mk kd 0 [] l [], ⟨b', p'⟩, ?_, u2.mono (by omega), .mk _ (by simp) (by show l.length ≤ _; omega) (by simp) (by simp) u4, by simp only [szN]; omega, u3⟩
      rw [ev_shift]; simp only [m_spec_l13Value]
      rw [evC (ev_of a1)]
      refine Ev.go q1 ?_
      simp only
      rw [evF c1, evF c2, evF c3, evT c4, evC (ev_of g1), hdd]
      exact Ev.go u1 (ev_some _)
    by_cases c5 : kd = 5
    · have hVd := hV (q5 (by omega))
      obtain ⟨n, r2, g1, g2, g3, g4⟩ := pick_ok q2 (by omega) (n := 4) (by omega)
      obtain ⟨j, rfl⟩ : ∃ j : Nat, n = j := ⟨n.toNat, by omega⟩
      have hj : (j : Int) * (10 * 4 ^ d + 1) ≤ 3 * (10 * 4 ^ d + 1) := Int.mul_le_mul_of_nonneg_right (by omega) (by omega)
      have hj2 : j * 4 ^ d ≤ 3 * 4 ^ d := Nat.mul_le_mul_right _ (by omega)
      obtain ⟨rb, rp⟩ := r2
      obtain ⟨b', p', l, n', u1, u2, u3, u3', u4, u4', u5⟩ := d_tree hd hVd j (m + 2 + 1) rb rp [] [] g2 (by omega) (by simp; omega) (by simp; omega) (by simp) (by simp)
      simp only [szNs] at u5
      refine ⟨.mk kd 0 [] l n', ⟨b', p'⟩, ?_, u2.mono (by omega), .mk _ (by simp) (by show l.length ≤ _; omega) (by show n'.length ≤ _; omega) u4' u4, by simp only [szN]; omega, u3⟩
      rw [ev_shift]; simp only [m_spec_l13Value]
      rw [evC (ev_of a1)]
      refine Ev.go q1 ?_
      simp only
      rw [evF c1, evF c2, evF c3, evF c4, evT c5, evC (ev_of g1), hdd]
      exact Ev.go u1 (ev_some _)
    · refine ⟨.mk kd 0 [] [] [], ⟨b, p⟩, ?_, q2.mono (by omega), bd1 _ _ (by simp), sz1 _ _, by simp⟩
      rw [ev_shift]; simp only [m_spec_l13Value]
      rw [evC (ev_of a1)]
      refine Ev.go q1 ?_
      simp only
      rw [evF c1, evF c2, evF c3, evF c4, evF c5]; exact ev_some _
theorem val_d : ∀ (d : Nat), d ≤ 20 → ValD (d + 1)
  | 0, hd => val_dstep 0 hd (fun h => by omega)
  | d + 1, hd => val_dstep (d + 1) hd (fun _ => val_d d (by omega))
end Go.Proofs.Ytiaigcdckmpepaa
end
section
/-! Any value. -/
set_option linter.unusedVariables false
set_option linter.unusedSimpArgs false
namespace Go.Proofs.Ytiaigcdckmpepaa
open Go.Bb

theorem Bd.up {M M' : Nat} (hM : M ≤ M') : ∀ {v : Val}, Bd M v → Bd M' v := by
  intro v h
  induction h with
  | mk v h1 h2 h3 h4 h5 ih => exact .mk v (by omega) (by omega) (by omega) (fun s hs => by have := h4 s hs; omega) ih
theorem wrap_loop : ∀ (j n : Nat) (m : Int) (b : List Int) (p : Int) (v : Val), n + j = 7 → Rd m ⟨b, p⟩ → m + j + 1 ≤ 100000 → Bd 200 v →
    ∃ b' p' v', Ev (fun k => m_spec_l13AnyValue_l1 k b p v.kind v.num v.text v.list v.names (n : Int)) (.go (b', p', v'.kind, v'.num, v'.text, v'.list, v'.names)) ∧ Rd (m + j + 1) ⟨b', p'⟩ ∧ Bd 200 v' ∧ szN v' ≤ szN v + j
  | j, n, m, b, p, v, hn, hr, hm, hb => by
    obtain ⟨y, r2, g1, g2, g3, g4⟩ := pick_ok hr (by omega) (n := 2) (by omega)
    obtain ⟨rb, rp⟩ := r2
    by_cases hc : (n : Int) < 6 + y
    · match j with
      | 0 => omega
      | j + 1 =>
        have hb' : Bd 200 (.mk 4 0 [] [v] []) := .mk _ (by simp) (by simp) (by simp) (by simp) (fun x hx => by simp only [Val.list_mk, List.mem_cons, List.not_mem_nil, or_false] at hx; subst hx; exact hb)
        obtain ⟨b', p', v', u1, u2, u3, u4⟩ := wrap_loop j (n + 1) (m + 1) rb rp (.mk 4 0 [] [v] []) (by omega) g2 (by omega) hb'
        refine ⟨b', p', v', ?_, u2.mono (by omega), u3, by simp only [szN, szNs] at u4; omega⟩
        rw [ev_shift]; simp only [m_spec_l13AnyValue_l1]
        rw [evC (ev_of g1)]
        simp only
        rw [wrap_id (n := 6 + y) (by omega), evT hc, wrap_id (by omega)]
        have ev : Val.mk v.kind v.num v.text v.list v.names = v := by cases v; rfl
        rw [ev]
        simpa using u1
    · refine ⟨rb, rp, v, ?_, g2.mono (by omega), hb, by omega⟩
      rw [ev_shift]; simp only [m_spec_l13AnyValue_l1]
      rw [evC (ev_of g1)]
      simp only
      rw [wrap_id (n := 6 + y) (by omega), evF hc]; exact ev_some _
theorem fill_loop : ∀ (j : Nat) (m : Int) (b : List Int) (p : Int) (l : List Val), l.length + j = 13 → Rd m ⟨b, p⟩ → m + j + 1 ≤ 100000 → (∀ x ∈ l, Bd 200 x) →
    ∃ b' p' l', Ev (fun k => m_spec_l13AnyValue_l2 k b p l) (.go (b', p', l')) ∧ Rd (m + j + 1) ⟨b', p'⟩ ∧ l'.length ≤ 13 ∧ (∀ x ∈ l', Bd 200 x) ∧ szNs l' ≤ szNs l + j
  | j, m, b, p, l, hn, hr, hm, hb => by
    obtain ⟨y, r2, g1, g2, g3, g4⟩ := pick_ok hr (by omega) (n := 2) (by omega)
    obtain ⟨rb, rp⟩ := r2
    by_cases hc : (l.length : Int) < 12 + y
    · match j with
      | 0 => omega
      | j + 1 =>
        obtain ⟨b', p', l', u1, u2, u3, u4, u5⟩ := fill_loop j (m + 1) rb rp (l ++ [.mk 0 0 [] [] []]) (by simp; omega) g2 (by omega) (fun x hx => by
          rcases List.mem_append.1 hx with h | h
          · exact hb x h
          · simp only [List.mem_cons, List.not_mem_nil, or_false] at h; subst h; exact .mk _ (by simp) (by simp) (by simp) (by simp) (by simp))
        refine ⟨b', p', l', ?_, u2.mono (by omega), u3, u4, by rw [szNs_app] at u5; simp only [szNs, szN] at u5; omega⟩
        rw [ev_shift]; simp only [m_spec_l13AnyValue_l2]
        rw [evC (ev_of g1)]
        simp only
        rw [wrap_id (n := 12 + y) (by omega), evT hc, evT (by simp; omega)]
        exact u1
    · refine ⟨rb, rp, l, ?_, g2.mono (by omega), by omega, hb, by omega⟩
      rw [ev_shift]; simp only [m_spec_l13AnyValue_l2]
      rw [evC (ev_of g1)]
      simp only
      rw [wrap_id (n := 12 + y) (by omega), evF hc]; exact ev_some _
theorem any_ok {m : Int} {r : GL1Rd} (hr : Rd m r) (hm : m ≤ 50000) : ∃ v r', Ev (fun k => m_spec_l13AnyValue k r) (v, r') ∧ Rd (m + 41000) r' ∧ Bd 1048576 v ∧ szN v ≤ 5000 := by
  simp only [m_spec_l13AnyValue]
  obtain ⟨d, r1, a1, a2, a3⟩ := one_ok hr (by omega) (l := [1, 2, 3, 3, 6]) (by simp)
  obtain ⟨dd, hdd, hle⟩ : ∃ dd : Nat, d = ((dd + 1 : Nat) : Int) ∧ dd ≤ 5 := by
    simp only [List.mem_cons, List.not_mem_nil, or_false] at a3
    exact ⟨d.toNat - 1, by omega, by omega⟩
  subst hdd
  have h4 : 4 ^ (dd + 1) ≤ 4096 := Nat.pow_le_pow_right (n := 4) (by omega) (show dd + 1 ≤ 6 by omega)
  have h4' : (4 : Int) ^ (dd + 1) ≤ 4096 := by
    have e : (4 : Int) ^ (dd + 1) = ((4 ^ (dd + 1) : Nat) : Int) := by rw [Int.natCast_pow]; rfl
    rw [e]; omega
  obtain ⟨v, r2, b1, b2, b3, b4, b5⟩ := val_d dd (by omega) (m + 1) r1 a2 (by omega)
  obtain ⟨y, r3, c1, c2, c3, c4⟩ := pick_ok b2 (by omega) (n := 16) (by omega)
  have hb200 : Bd 200 v := Bd.up (by omega) b3
  have fin : ∀ w : Val, Bd 200 w → Bd 1048576 w := fun w h => Bd.up (by omega) h
  have hsz : szN v ≤ 4096 := by omega
  have hsv := szN_eq v
  have swap : ∀ (k n : Int) (s : Bs), s.length ≤ 200 → Bd 1048576 (.mk k n s v.list v.names) := fun k n s h => fin _ (.mk _ h hb200.list hb200.names hb200.name hb200.within)
  have swapz : ∀ (k n : Int) (s : Bs) (ns : List Bs), szN (.mk k n s v.list ns) ≤ 5000 := fun k n s ns => by simp only [szN]; omega
  have vt := hb200.text
  have vn := b3.names
  by_cases y0 : y = 0
  · obtain ⟨z, r4, g1, g2, g3⟩ := one_ok c2 (by omega) (l := [(-1), 8, 6, 7, 4, 5]) (by simp)
    refine ⟨.mk z v.num v.text v.list v.names, r4, ?_, g2.mono (by omega), swap _ _ _ vt, swapz _ _ _ _⟩
    rw [evC (ev_of a1), evC b1, evC (ev_of c1), evT y0, evC (ev_of g1)]; exact ev_some _
  by_cases y1 : y = 1
  · obtain ⟨z, r4, g1, g2, g3⟩ := one_ok c2 (by omega) (l := [2, 2147483648, (-5)]) (by simp)
    refine ⟨.mk v.kind z v.text v.list v.names, r4, ?_, g2.mono (by omega), swap _ _ _ vt, swapz _ _ _ _⟩
    rw [evC (ev_of a1), evC b1, evC (ev_of c1), evF y0, evT y1, evC (ev_of g1)]; exact ev_some _
  by_cases y2 : y = 2
  · obtain ⟨z, r4, g1, g2, g3, g4⟩ := pick_ok c2 (by omega) (n := 2) (by omega)
    obtain ⟨zn, rfl⟩ : ∃ zn : Nat, z = zn := ⟨z.toNat, by omega⟩
    obtain ⟨o, h1, h2⟩ := many_loop (40 + zn) [121] [] (by omega) (by simp; omega)
    have hmany : Ev (fun k => m_spec_l1Many k [121] (IntKind.wrap .i64 (40 + (zn : Int)))) o := by
      simp only [m_spec_l1Many]
      rw [wrap_id (by omega)]
      exact Ev.go (by simpa using h1) (ev_some _)
    have ho : o.length ≤ 200 := by simp at h2; omega
    refine ⟨.mk v.kind v.num o v.list v.names, r4, ?_, g2.mono (by omega), swap _ _ _ ho, swapz _ _ _ _⟩
    rw [evC (ev_of a1), evC b1, evC (ev_of c1), evF y0, evF y1, evT y2, evC (ev_of g1)]
    simp only
    rw [evC hmany]; exact ev_some _
  by_cases y3 : y = 3
  · obtain ⟨b', p', v', u1, u2, u3, u4⟩ := wrap_loop 7 0 _ r3.b r3.p v (by omega) c2 (by omega) hb200
    refine ⟨.mk v'.kind v'.num v'.text v'.list v'.names, ⟨b', p'⟩, ?_, u2.mono (by omega), fin _ (.mk _ u3.text u3.list u3.names u3.name u3.within), by have := szN_eq v'; simp only [szN]; omega⟩
    rw [evC (ev_of a1), evC b1, evC (ev_of c1), evF y0, evF y1, evF y2, evT y3]
    exact Ev.go u1 (ev_some _)
  by_cases y4 : y = 4
  · obtain ⟨z, r4, g1, g2, g3⟩ := of_ok c2 (by omega) (l := [[97], [98], [49]]) (by simp)
    have hz : z.length ≤ 200 := by
      simp only [List.mem_cons, List.not_mem_nil, or_false] at g3
      rcases g3 with rfl | rfl | rfl <;> simp
    refine ⟨.mk v.kind v.num v.text v.list (v.names ++ [z]), r4, ?_, g2.mono (by omega), fin _ (.mk _ vt hb200.list (by simp; omega) (fun s hs => ?_) hb200.within), swapz _ _ _ _⟩
    · rw [evC (ev_of a1), evC b1, evC (ev_of c1), evF y0, evF y1, evF y2, evF y3, evT y4, evC (ev_of g1), evT (by simp; omega)]; exact ev_some _
    · simp only [Val.names_mk] at hs
      rcases List.mem_append.1 hs with h | h
      · exact hb200.name s h
      · simp only [List.mem_cons, List.not_mem_nil, or_false] at h; subst h; exact hz
  by_cases y5 : y = 5
  · obtain ⟨j, hj⟩ : ∃ j, v.list.length + j = 13 := ⟨13 - v.list.length, by omega⟩
    obtain ⟨b', p', l', u1, u2, u3, u4, u5⟩ := fill_loop j _ r3.b r3.p v.list hj c2 (by omega) hb200.within
    refine ⟨.mk 4 0 [] l' [], ⟨b', p'⟩, ?_, u2.mono (by omega), fin _ (.mk _ (by simp) (by show l'.length ≤ _; omega) (by simp) (by simp) u4), by simp only [szN]; omega⟩
    rw [evC (ev_of a1), evC b1, evC (ev_of c1), evF y0, evF y1, evF y2, evF y3, evF y4, evT y5]
    exact Ev.go u1 (ev_some _)
  · refine ⟨v, r3, ?_, c2.mono (by omega), fin _ hb200, by omega⟩
    rw [evC (ev_of a1), evC b1, evC (ev_of c1), evF y0, evF y1, evF y2, evF y3, evF y4, evF y5]; exact ev_some _
theorem drawTree_ok {a : List Int} (h : ∀ x ∈ a, 0 ≤ x ∧ x ≤ 255) : ∃ v s, Ev (fun k => m_spec_DrawTreeGet k a) (v, s) ∧ Bd 1048576 v ∧ szN v ≤ 5000 ∧ s.length ≤ 100 := by
  simp only [m_spec_DrawTreeGet]
  obtain ⟨r, h1, h2⟩ := open_ok h
  obtain ⟨v, r2, g1, g2, g3, g4⟩ := any_ok h2 (by omega)
  obtain ⟨s, r3, k1, k2, k3⟩ := of_ok g2 (by omega) (l := [[97], [98], [99], [114, 101, 102]]) (by simp)
  refine ⟨v, s, ?_, g3, g4, ?_⟩
  · rw [evC (ev_of h1), evC g1, evC (ev_of k1)]; exact ev_some _
  · simp only [List.mem_cons, List.not_mem_nil, or_false] at k3
    rcases k3 with rfl | rfl | rfl | rfl <;> simp
end Go.Proofs.Ytiaigcdckmpepaa
end
section
/-! The same values, by the reference. -/
set_option linter.unusedVariables false
set_option linter.unusedSimpArgs false
set_option linter.unnecessarySimpa false
namespace Go.Proofs.Ytiaigcdckmpepaa
open Go.Bb

theorem m_impl_ValueSame_ok (k : Nat) : ∀ (a0 : Val) (a1 : Val) (r : Bool), m_impl_ValueSame k a0 a1 = some r → Does Try.prog 18 [.agg [.int .i64 a0.kind, .int .i64 a0.num, .str a0.text, .sl true (a0.list.map encVal), .sl false (a0.names.map encS)], .agg [.int .i64 a1.kind, .int .i64 a1.num, .str a1.text, .sl true (a1.list.map encVal), .sl false (a1.names.map encS)]] [] (ret (.bool r)) := by
  intro a0 a1 r h
  unfold m_impl_ValueSame at h
  split at h
  · rename_i hw
    cases h
    exact w_impl_ValueSame_ok k a0 a1 _ hw
  · cases h
theorem names_l1 (a b : Val) (hn : a.names.length = b.names.length) (ha : a.names.length ≤ 1048576) : ∃ o, Ev (fun k => m_spec_l1Same_l1 k a b 0) o ∧ ((o = .go () ∧ a.names = b.names) ∨ (o = .ret false ∧ a.names ≠ b.names)) := by
  have loop : ∀ (d j : Nat), j + d = a.names.length → ∃ o, Ev (fun k => m_spec_l1Same_l1 k a b j) o ∧ ((o = .go () ∧ ∀ i, j ≤ i → a.names[i]? = b.names[i]?) ∨ (o = .ret false ∧ a.names ≠ b.names)) := by
    intro d
    induction d with
    | zero =>
      intro j hj
      refine ⟨.go (), ?_, .inl ⟨rfl, fun i hi => by rw [List.getElem?_eq_none (by omega), List.getElem?_eq_none (by omega)]⟩⟩
      rw [ev_shift]; simp only [m_spec_l1Same_l1]
      rw [evF (by omega)]; exact ev_some _
    | succ d ih =>
      intro j hj
      by_cases hx : ix a.names (j : Int) = ix b.names (j : Int)
      · obtain ⟨o, h1, h2⟩ := ih (j + 1) (by omega)
        refine ⟨o, ?_, ?_⟩
        · rw [ev_shift]; simp only [m_spec_l1Same_l1]
          rw [evT (by omega), evT (by omega), evT (by omega), evT hx, wrap_id (by omega)]
          simpa using h1
        · rcases h2 with ⟨rfl, h3⟩ | h3
          · refine .inl ⟨rfl, fun i hi => ?_⟩
            rcases Nat.eq_or_lt_of_le hi with rfl | h
            · rw [ix_nat (by omega), ix_nat (by omega)] at hx
              rw [List.getElem?_eq_getElem (by omega), List.getElem?_eq_getElem (by omega), hx]
            · exact h3 i h
          · exact .inr h3
      · refine ⟨.ret false, ?_, .inr ⟨rfl, fun e => hx (by rw [e])⟩⟩
        rw [ev_shift]; simp only [m_spec_l1Same_l1]
        rw [evT (by omega), evT (by omega), evT (by omega), evF hx]
        exact ev_some _
  obtain ⟨o, h1, h2⟩ := loop a.names.length 0 (by omega)
  refine ⟨o, by simpa using h1, ?_⟩
  rcases h2 with ⟨h, h3⟩ | h
  · exact .inl ⟨h, List.ext_getElem? fun i => h3 i (by omega)⟩
  · exact .inr h
theorem ev_sSame : ∀ a : Val, Bd 1048576 a → ∀ b : Val, Ev (fun k => m_spec_l1Same k a b) (sameV a b) := by
  apply Val.ind
  intro a ih ha b
  rw [ev_shift]; simp only [m_spec_l1Same]
  have fail : a ≠ b → ∀ m : Nat → Option (Lp Bool Bool), True := fun _ _ => trivial
  have no : a ≠ b → ∀ f : Nat → Bool → Option Bool, Ev (fun k => if true = true then some false else f k true) (sameV a b) := fun h f => by
    rw [evT rfl, sameV_no h]; exact ev_some _
  by_cases h1 : a.kind = b.kind
  · by_cases h2 : a.num = b.num
    · by_cases h3 : a.text = b.text
      · by_cases h4 : a.list.length = b.list.length
        · by_cases h5 : a.names.length = b.names.length
          · rw [evbT h1, evbT h2, evbT h3, evbT (by omega), evbS]
            simp only [thenG]
            rw [evF (by simp; omega)]
            obtain ⟨o, g1, g2⟩ := names_l1 a b h5 ha.names
            rcases g2 with ⟨rfl, g3⟩ | ⟨rfl, g3⟩
            · refine Ev.go g1 ?_
              have hal := ha.list
              have loop : ∀ (d j : Nat), j + d = a.list.length → ∃ o, Ev (fun k => m_spec_l1Same_l2 k a b j) o ∧ ((o = .go () ∧ ∀ i, j ≤ i → a.list[i]? = b.list[i]?) ∨ (o = .ret false ∧ a.list ≠ b.list)) := by
                intro d
                induction d with
                | zero =>
                  intro j hj
                  refine ⟨.go (), ?_, .inl ⟨rfl, fun i hi => by rw [List.getElem?_eq_none (by omega), List.getElem?_eq_none (by omega)]⟩⟩
                  rw [ev_shift]; simp only [m_spec_l1Same_l2]
                  rw [evF (by omega)]; exact ev_some _
                | succ d ihd =>
                  intro j hj
                  have hx := ih a.list[j] (List.getElem_mem (by omega)) (ha.within _ (List.getElem_mem (by omega))) b.list[j]
                  by_cases hxx : a.list[j] = b.list[j]
                  · obtain ⟨o, k1, k2⟩ := ihd (j + 1) (by omega)
                    refine ⟨o, ?_, ?_⟩
                    · rw [ev_shift]; simp only [m_spec_l1Same_l2]
                      rw [evT (by omega), evT (by omega), evT (by omega), ix_nat (by omega), ix_nat (by omega), evC hx, evT (sameV_yes hxx), wrap_id (by omega)]
                      simpa using k1
                    · rcases k2 with ⟨rfl, k3⟩ | k3
                      · refine .inl ⟨rfl, fun i hi => ?_⟩
                        rcases Nat.eq_or_lt_of_le hi with rfl | h
                        · rw [List.getElem?_eq_getElem (by omega), List.getElem?_eq_getElem (by omega), hxx]
                        · exact k3 i h
                      · exact .inr k3
                  · refine ⟨.ret false, ?_, .inr ⟨rfl, fun e => hxx (by simp only [e])⟩⟩
                    rw [ev_shift]; simp only [m_spec_l1Same_l2]
                    rw [evT (by omega), evT (by omega), evT (by omega), ix_nat (by omega), ix_nat (by omega), evC hx, evF (by rw [sameV_no hxx]; simp)]
                    exact ev_some _
              obtain ⟨o, k1, k2⟩ := loop a.list.length 0 (by omega)
              have k1 : Ev (fun k => m_spec_l1Same_l2 k a b 0) o := by simpa using k1
              rcases k2 with ⟨rfl, k3⟩ | ⟨rfl, k3⟩
              · rw [sameV_yes (Val.ext' h1 h2 h3 (List.ext_getElem? fun i => k3 i (by omega)) g3)]
                exact Ev.go k1 (ev_some _)
              · rw [sameV_no (fun e => k3 (by rw [e]))]
                exact Ev.ret k1
            · rw [sameV_no (fun e => g3 (by rw [e]))]
              exact Ev.ret g1
          · rw [evbT h1, evbT h2, evbT h3, evbT (by omega), evbS]
            simp only [thenG]
            rw [evT (by simp; omega), sameV_no (fun e => h5 (by rw [e]))]; exact ev_some _
        · rw [evbT h1, evbT h2, evbT h3, evbF (by omega), evbS]
          simp only [thenG]
          rw [evT trivial, sameV_no (fun e => h4 (by rw [e]))]; exact ev_some _
      · rw [evbT h1, evbT h2, evbF h3, evbS]
        simp only [thenG]
        rw [evT trivial, sameV_no (fun e => h3 (by rw [e]))]; exact ev_some _
    · rw [evbT h1, evbF h2, evbS]
      simp only [thenG]
      rw [evT trivial, sameV_no (fun e => h2 (by rw [e]))]; exact ev_some _
  · rw [evbF h1, evbS]
    simp only [thenG]
    rw [evT trivial, sameV_no (fun e => h1 (by rw [e]))]; exact ev_some _
theorem ev_sValueSame (a b : Val) (ha : Bd 1048576 a) : Ev (fun k => m_spec_ValueSame k a b) (sameV a b) := by
  simp only [m_spec_ValueSame]
  rw [evC (ev_sSame a ha b)]; exact ev_some _
end Go.Proofs.Ytiaigcdckmpepaa
end
section
/-! Functions of the program. -/
set_option linter.unusedVariables false
set_option linter.unnecessarySimpa false
set_option maxRecDepth 100000
set_option maxHeartbeats 20000000
noncomputable section
namespace Go.Proofs.Ytiaigcdckmpepaa
open Go.Bb
def m_laws_FnTreeGet_l1 : Nat → (Val × Bs) → (Val × Bool) → Int → Option (Lp Unit Bool)
 | 0, _, _, _ => none
 | k + 1, y1, y2, x1 =>
  if x1 < (y1.1.names.length : Int) then
   if (0 : Int) ≤ x1 ∧ x1 < (y1.1.names.length : Int) then
    if (ix y1.1.names x1) = y1.2 then
     if y2.2 = true then
      if (0 : Int) ≤ x1 ∧ x1 < (y1.1.list.length : Int) then
       (m_impl_ValueSame k y2.1 (ix y1.1.list x1)).bind fun y5 =>
       (some y5).bind fun z =>
       some (Lp.ret z)
      else none
     else
      (some false).bind fun z =>
      some (Lp.ret z)
    else
     m_laws_FnTreeGet_l1 k y1 y2 (IntKind.wrap .i64 (x1 + 1))
   else none
  else
   some (Lp.go ())
def m_laws_FnTreeGet (k : Nat) (a0 : (List Int)) : Option Bool :=
 if 1048576 < (a0.length : Int) then
  some true
 else
  (m_spec_DrawTreeGet k a0).bind fun y1 =>
  (m_impl_TreeGet k y1.1 y1.2).bind fun y2 =>
  (m_spec_TreeGet k y1.1 y1.2).bind fun y3 =>
  (if y2.2 = y3.2 then
    (m_impl_ValueSame k y2.1 y3.1).bind fun y6 =>
    if y6 = true then
     (m_spec_ValueOk k y1.1).bind fun y7 =>
     some (Lp.go (!y7))
    else
     some (Lp.go true)
   else
    some (Lp.go true)).bind fun o1 =>
  o1.then fun s1 =>
  if s1 = true then
   if y2.2 = y3.2 then
    (m_impl_ValueSame k y2.1 y3.1).bind fun y4 =>
    some y4
   else
    some false
  else
   (m_laws_FnTreeGet_l1 k y1 y2 0).bind fun o2 =>
   o2.then fun s2 =>
  some (!y2.2)
theorem m_laws_FnTreeGet_ok (k : Nat) : ∀ (a0 : (List Int)) (r : Bool), m_laws_FnTreeGet k a0 = some r → Does Try.prog 8 [.sl false (a0.map (encI .u8))] [] (ret (.bool r)) := by
 intro a0 r h
 rw [m_laws_FnTreeGet] at h
 refine does_of_good tabOk Try.func8 rfl (by decide +kernel) (Nat.le_of_ble_eq_true rfl) fun c => ?_
 refine Good.le (σ' := ⟨78, [(0, .sl false (a0.map (encI .u8)))], []⟩) (Le.refl _) ?_
 refine good_seq fun K1 hK1 => ?_
 refine rg 1 ?_
 refine g_nil (hK1 _ ?_)
 refine good_seq fun K2 hK2 => ?_
 refine good_seq fun K3 hK3 => ?_
 refine rg 1 ?_
 refine g_op rfl (ValOk.op (v_lenM (l := a0) (f := (encI .u8)) tabOk rfl rfl telem42 rfl ?_))
 refine gs 1 ?_
 refine gk hK3 78 [0, 2, 12] [] ?_
 refine good_cond rfl (fun hc1 => ?_) (fun hc1 => ?_)
 ·replace h := ifT h (dT hc1)
  refine good_seq fun K4 hK4 => ?_
  refine rg 1 ?_
  refine gk hK4 78 [0, 2] [] ?_
  obtain rfl := Option.some.inj h
  exact rt
 ·replace h := ifF h (dF hc1)
  refine good_skip ?_
  refine hK2 _ (kp 78 [0, 2] [] ?_)
  refine good_seq fun K5 hK5 => ?_
  refine rg 1 ?_
  obtain ⟨y1, hy1, h⟩ := bnd h
  refine g_op rfl (o_callR [] [] (core_value rfl rfl) (m_spec_DrawTreeGet_okF k a0 _ hy1) trivial (.cons (.refl _) (.nil)) (.inl rfl) rfl ?_)
  refine gs 3 ?_
  refine g_op rfl (o_alloc (k := 13) tabOk tzero30 rfl rfl ?_)
  intro b1
  refine g_op rfl (o_storeP tabOk (cs' := [.int .i64 y1.1.kind, .int .i64 y1.1.num, .str y1.1.text, .sl true (y1.1.list.map encVal), .sl false (y1.1.names.map encS)]) rfl rfl tsize30 rfl rfl rfl (Nat.le_of_ble_eq_true rfl) rfl rfl rfl ?_)
  refine gs 1 ?_
  refine gk hK5 78 [2, 3, 4] [13] ?_
  refine good_seq fun K6 hK6 => ?_
  refine rg 2 ?_
  obtain ⟨y2, hy2, h⟩ := bnd h
  refine g_op rfl (o_callR [] [] (core_value rfl rfl) (m_impl_TreeGet_okF k y1.1 y1.2 _ hy2) trivial (.cons (.refl _) (.cons (.refl _) (.nil))) (.inl rfl) rfl ?_)
  refine gs 3 ?_
  refine g_op rfl (o_alloc (k := 15) tabOk tzero30 rfl rfl ?_)
  intro b2
  refine g_op rfl (o_storeP tabOk (cs' := [.int .i64 y2.1.kind, .int .i64 y2.1.num, .str y2.1.text, .sl true (y2.1.list.map encVal), .sl false (y2.1.names.map encS)]) rfl rfl tsize30 rfl rfl rfl (Nat.le_of_ble_eq_true rfl) rfl rfl rfl ?_)
  refine gs 1 ?_
  refine gk hK6 78 [2, 3, 4, 5, 6] [13, 15] ?_
  refine good_seq fun K7 hK7 => ?_
  refine rg 2 ?_
  obtain ⟨y3, hy3, h⟩ := bnd h
  refine g_op rfl (o_callR [] [] (core_value rfl rfl) (m_spec_TreeGet_okF k y1.1 y1.2 _ hy3) trivial (.cons (.refl _) (.cons (.refl _) (.nil))) (.inl rfl) rfl ?_)
  refine gs 3 ?_
  refine g_op rfl (o_alloc (k := 17) tabOk tzero30 rfl rfl ?_)
  intro b3
  refine g_op rfl (o_storeP tabOk (cs' := [.int .i64 y3.1.kind, .int .i64 y3.1.num, .str y3.1.text, .sl true (y3.1.list.map encVal), .sl false (y3.1.names.map encS)]) rfl rfl tsize30 rfl rfl rfl (Nat.le_of_ble_eq_true rfl) rfl rfl rfl ?_)
  refine gs 1 ?_
  refine gk hK7 78 [2, 3, 4, 5, 6, 7, 8] [13, 15, 17] ?_
  refine good_seq fun K8 hK8 => ?_
  refine good_seq fun K9 hK9 => ?_
  obtain ⟨o1, ho1, hJ1⟩ := bnd h
  have hw1 : ∀ (s1 : Bool), o1 = Lp.go s1 → ∀ σ', Le σ' ⟨78, [(2, .bool false), (3, .ptr 13 b1 0), (4, .str y1.2), (5, .ptr 15 b2 0), (6, .bool y2.2), (7, .ptr 17 b3 0), (8, .bool y3.2), (43, .bool s1)], [(13, ((.pointer (some ⟨b1, 0, none⟩)), .optr 30 [.int .i64 y1.1.kind, .int .i64 y1.1.num, .str y1.1.text, .sl true (y1.1.list.map encVal), .sl false (y1.1.names.map encS)])), (15, ((.pointer (some ⟨b2, 0, none⟩)), .optr 30 [.int .i64 y2.1.kind, .int .i64 y2.1.num, .str y2.1.text, .sl true (y2.1.list.map encVal), .sl false (y2.1.names.map encS)])), (17, ((.pointer (some ⟨b3, 0, none⟩)), .optr 30 [.int .i64 y3.1.kind, .int .i64 y3.1.num, .str y3.1.text, .sl true (y3.1.list.map encVal), .sl false (y3.1.names.map encS)]))]⟩ → K9 σ' := by
   intro s1 e1 σ' hle1
   subst e1
   refine hK9 _ (Good.le hle1 ?_)
   replace h := hJ1
   refine good_cond rfl (fun hc2 => ?_) (fun hc2 => ?_)
   ·replace h := ifT h hc2
    refine good_seq fun K10 hK10 => ?_
    refine rg 2 ?_
    refine g_op rfl (ValOk.op (v_binT tabOk (r := .bool (decide (y2.2 = y3.2))) rfl rfl (by simp [binT, eqr]) rfl ?_))
    refine gs 1 ?_
    rcases bsplit ((decide (y2.2 = y3.2))) with hg1 | hg1
    ·replace h := ifT h (dT hg1)
     refine gs 2 ?_
     obtain ⟨y4, hy4, h⟩ := bnd h
     refine g_yes rfl rfl hg1 (o_callR [] [] (core_value rfl rfl) (m_impl_ValueSame_ok k y2.1 y3.1 _ hy4) trivial (.cons (.refl _) (.cons (.refl _) (.nil))) (.inl rfl) rfl ?_)
     refine gs 2 ?_
     refine gk hK10 78 [2, 3, 4, 5, 6] [13, 15] ?_
     obtain rfl := Option.some.inj h
     exact rt
    ·replace h := ifF h (dF hg1)
     refine gs 5 ?_
     refine gk hK10 78 [2, 3, 4, 5, 6] [13, 15] ?_
     obtain rfl := Option.some.inj h
     exact rt
   ·replace h := bF h hc2
    refine good_skip ?_
    refine hK8 _ (kp 78 [2, 3, 4, 5, 6] [13, 15] ?_)
    refine good_seq fun K11 hK11 => ?_
    refine good_seq fun K12 hK12 => ?_
    refine rg 1 ?_
    refine g_nil (hK12 _ ?_)
    obtain ⟨o2, ho2, hJ2⟩ := bnd h
    have hw2 : ∀ (s2 : Unit), o2 = Lp.go s2 → ∀ σ', Le σ' ⟨78, [(2, .bool false), (6, .bool y2.2)], []⟩ → K11 σ' := by
     intro s2 e2 σ' hle2
     subst e2
     refine hK11 _ (Good.le hle2 ?_)
     replace h := hJ2
     refine good_seq fun K13 hK13 => ?_
     refine rg 3 ?_
     refine gk hK13 78 [2] [] ?_
     obtain rfl := Option.some.inj h
     exact rt
    replace h := ho2
    refine good_block ?_
    refine good_loopf (fun p : Int => ⟨78, [(2, .bool false), (3, .ptr 13 b1 0), (4, .str y1.2), (5, .ptr 15 b2 0), (6, .bool y2.2), (9, .int .i64 p)], [(13, ((.pointer (some ⟨b1, 0, none⟩)), .optr 30 [.int .i64 y1.1.kind, .int .i64 y1.1.num, .str y1.1.text, .sl true (y1.1.list.map encVal), .sl false (y1.1.names.map encS)])), (15, ((.pointer (some ⟨b2, 0, none⟩)), .optr 30 [.int .i64 y2.1.kind, .int .i64 y2.1.num, .str y2.1.text, .sl true (y2.1.list.map encVal), .sl false (y2.1.names.map encS)]))]⟩) (fun m p => m_laws_FnTreeGet_l1 m y1 y2 p = some o2) k (0) (lw [some 13, some 15]) h ?_
    rintro m1 x1 h
    replace h : m_laws_FnTreeGet_l1 m1 y1 y2 x1 = some o2 := h
    refine Good.le (σ' := ⟨78, [(2, .bool false), (3, .ptr 13 b1 0), (4, .str y1.2), (5, .ptr 15 b2 0), (6, .bool y2.2), (9, .int .i64 x1)], [(13, ((.pointer (some ⟨b1, 0, none⟩)), .optr 30 [.int .i64 y1.1.kind, .int .i64 y1.1.num, .str y1.1.text, .sl true (y1.1.list.map encVal), .sl false (y1.1.names.map encS)])), (15, ((.pointer (some ⟨b2, 0, none⟩)), .optr 30 [.int .i64 y2.1.kind, .int .i64 y2.1.num, .str y2.1.text, .sl true (y2.1.list.map encVal), .sl false (y2.1.names.map encS)]))]⟩) (Le.refl _) ?_
    obtain ⟨m1, rfl⟩ : ∃ m', m1 = m' + 1 := by cases m1 with | zero => (rw [m_laws_FnTreeGet_l1] at h; cases h) | succ m' => exact ⟨m', rfl⟩
    rw [m_laws_FnTreeGet_l1] at h
    refine good_seq fun K14 hK14 => ?_
    refine good_seq fun K15 hK15 => ?_
    refine rg 3 ?_
    refine g_op rfl (ValOk.op (v_lenM (l := y1.1.names) (f := encS) tabOk rfl rfl telem23 rfl ?_))
    refine gs 1 ?_
    refine gk hK15 78 [2, 3, 4, 5, 6, 9, 56] [13, 15] ?_
    refine good_cond rfl (fun hc3 => ?_) (fun hc3 => ?_)
    ·replace h := ifT h (dT hc3)
     refine good_skip ?_
     refine hK14 _ (kp 78 [2, 3, 4, 5, 6, 9] [13, 15] ?_)
     refine good_seq fun K16 hK16 => ?_
     refine good_block ?_
     refine good_seq fun K17 hK17 => ?_
     refine rg 3 ?_
     obtain ⟨hb1, h⟩ := ifS h
     refine g_op rfl (ValOk.op (v_idxM tabOk rfl rfl telem23 tsize9 hb1 rfl rfl rfl ?_))
     refine gs 3 ?_
     refine gk hK17 78 [2, 3, 4, 5, 6, 9, 65] [13, 15] ?_
     refine good_cond rfl (fun hc4 => ?_) (fun hc4 => ?_)
     ·replace h := ifT h (dT hc4)
      refine good_seq fun K18 hK18 => ?_
      refine good_draw (by kernel_rfl) (by kernel_rfl) ?_
      refine q_op rfl (v_move rfl rfl ?_)
      refine q_op rfl (v_move rfl rfl ?_)
      rcases bsplit (y2.2) with hg2 | hg2
      ·replace h := ifT h hg2
       refine q_yes rfl rfl hg2 (v_loadP tabOk rfl rfl tsize30 tagg30 rfl rfl rfl rfl ?_)
       refine q_yes rfl rfl hg2 (v_fieldP tabOk rfl tfoff30_3 rfl ?_)
       refine q_yes rfl rfl hg2 (v_loadP tabOk rfl rfl tsize28 tagg28 rfl rfl rfl rfl ?_)
       refine q_yes rfl rfl hg2 (v_move rfl rfl ?_)
       obtain ⟨hb2, h⟩ := ifS h
       refine q_yes rfl rfl hg2 (v_idxM tabOk rfl rfl telem28 tsize30 hb2 (encVal_eq _) rfl rfl ?_)
       refine q_yes rfl rfl hg2 (v_loadE tabOk rfl tsize30 tagg30 rfl rfl rfl ?_)
       obtain ⟨y5, hy5, h⟩ := bnd h
       refine q_callY [] [] rfl rfl hg2 (core_value rfl rfl) (m_impl_ValueSame_ok m1 y2.1 (ix y1.1.list x1) _ hy5) trivial (.cons (.refl _) (.cons (.refl _) (.nil))) (.bool _) rfl ?_
       refine q_op rfl (v_pickT rfl hg2 rfl rfl ?_)
       refine q_op rfl (v_assign rfl rfl ?_)
       refine q_nil ?_
       refine hK18 _ (kp 78 [2, 3, 4, 5, 6, 9] [13, 15] ?_)
       replace h := unret h hJ2
       obtain rfl := Option.some.inj h
       exact rt
      ·replace h := bF h hg2
       refine q_no rfl rfl hg2 rfl ?_
       refine q_no rfl rfl hg2 rfl ?_
       refine q_no rfl rfl hg2 rfl ?_
       refine q_no rfl rfl hg2 rfl ?_
       refine q_no rfl rfl hg2 rfl ?_
       refine q_no rfl rfl hg2 rfl ?_
       refine q_no rfl rfl hg2 rfl ?_
       refine q_op rfl (v_pickF rfl hg2 rfl rfl ?_)
       refine q_op rfl (v_assign rfl rfl ?_)
       refine q_nil ?_
       refine hK18 _ (kp 78 [2, 3, 4, 5, 6, 9] [13, 15] ?_)
       replace h := unret h hJ2
       obtain rfl := Option.some.inj h
       exact rt
     ·replace h := ifF h (dF hc4)
      refine good_skip ?_
      refine hK16 _ (kp 78 [2, 3, 4, 5, 6, 9] [13, 15] ?_)
      refine rg 3 ?_
      refine g_nil ?_
      exact round_mk m1 (IntKind.wrap .i64 (x1 + 1)) (Nat.lt_succ_self _) h (lw [some 13, some 15])
    ·replace h := ifF h (dF hc3)
     refine good_exit ?_
     exact hw2 () (Option.some.inj h).symm _ (lw [])
  replace h := ho1
  refine rg 2 ?_
  refine g_op rfl (ValOk.op (v_binT tabOk (r := .bool (!decide (y2.2 = y3.2))) rfl rfl (by simp [binT, eqr]) rfl ?_))
  refine gs 1 ?_
  rcases bsplit ((!(decide (y2.2 = y3.2)))) with hg3 | hg3
  ·replace h := ifF h (ndT hg3)
   refine gs 10 ?_
   refine g_nil ?_
   exact hw1 true (Option.some.inj h).symm _ (lw [some 13, some 15, some 17])
  ·replace h := ifT h (ndF hg3)
   refine gs 2 ?_
   obtain ⟨y6, hy6, h⟩ := bnd h
   refine g_yes rfl rfl hg3 (o_callR [] [] (core_value rfl rfl) (m_impl_ValueSame_ok k y2.1 y3.1 _ hy6) trivial (.cons (.refl _) (.cons (.refl _) (.nil))) (.inl rfl) rfl ?_)
   refine gs 3 ?_
   rcases bsplit ((!y6)) with hg4 | hg4
   ·replace h := bF h (nT hg4)
    refine gs 4 ?_
    refine g_nil ?_
    exact hw1 true (Option.some.inj h).symm _ (lw [some 13, some 15, some 17])
   ·replace h := ifT h (nF hg4)
    refine gs 1 ?_
    obtain ⟨y7, hy7, h⟩ := bnd h
    refine g_yes rfl rfl hg4 (o_callR [] [] (core_value rfl rfl) (m_spec_ValueOk_ok k y1.1 _ hy7) trivial (.cons (.refl _) (.nil)) (.inl rfl) rfl ?_)
    refine gs 2 ?_
    refine g_nil ?_
    exact hw1 (!y7) (Option.some.inj h).symm _ (lw [some 13, some 15, some 17])
end Go.Proofs.Ytiaigcdckmpepaa
end
end
section
/-! A name of a tree leads to its value. -/
set_option linter.unusedVariables false
set_option linter.unusedSimpArgs false
set_option linter.unnecessarySimpa false
namespace Go.Proofs.Ytiaigcdckmpepaa
open Go.Bb

def zT : Val := .mk 0 0 [] [] []
theorem zT_bd : Bd 1048576 zT := .mk _ (by simp [zT]) (by simp [zT]) (by simp [zT]) (by simp [zT]) (by simp [zT])
theorem plain_names0 {v : Val} (h : plainOk v = true) (h5 : v.kind ≠ 5) : v.names.length = 0 := by
  have z : ∀ {a b : Prop}, a ∧ b ∧ noneIn v → v.names.length = 0 := fun h => h.2.2.2
  unfold plainOk at h
  repeat' split at h
  · exact z (of_decide_eq_true h)
  · exact z (of_decide_eq_true h)
  · exact z (of_decide_eq_true h)
  · exact z (of_decide_eq_true h)
  · exact (of_decide_eq_true h).2.2.1
  · rw [Bool.and_eq_true] at h
    exact (of_decide_eq_true h.2 : noneIn v).2
  · cases h
theorem find_full (v : Val) (name : Bs) (hk : v.kind = 5) (hn : v.names.length = v.list.length) (hl : v.names.length ≤ 1048576) : ∀ (d j : Nat), j + d = v.names.length →
    (Ev (fun k => m_spec_l1Tree_l1 k v name j) (.go ()) ∧ Ev (fun k => m_slices_Index_string_string_l1 k v.names name j) (.go ()) ∧ ∀ i, j ≤ i → i < v.names.length → ix v.names (i : Int) ≠ name) ∨
    ∃ (i : Nat) (h : i < v.list.length), Ev (fun k => m_spec_l1Tree_l1 k v name j) (.ret (v.list[i], true)) ∧ Ev (fun k => m_slices_Index_string_string_l1 k v.names name j) (.ret (i : Int)) ∧ ix v.names (i : Int) = name ∧ j ≤ i ∧ ∀ q, j ≤ q → q < i → ix v.names (q : Int) ≠ name
  | 0, j, hj => by
    refine .inl ⟨?_, ?_, fun i h1 h2 => by omega⟩
    · rw [ev_shift]; simp only [m_spec_l1Tree_l1]
      rw [evbF (by omega), evbS]; simp only [thenG]; rw [evF (by simp)]; exact ev_some _
    · rw [ev_shift]; simp only [m_slices_Index_string_string_l1]
      rw [evF (by omega)]; exact ev_some _
  | d + 1, j, hj => by
    by_cases hx : ix v.names (j : Int) = name
    · refine .inr ⟨j, by omega, ?_, ?_, hx, Nat.le_refl _, fun q h1 h2 => by omega⟩
      · rw [ev_shift]; simp only [m_spec_l1Tree_l1]
        rw [evbT (by omega), evbS]; simp only [thenG]
        rw [evT (by simp [hk]), evT (by omega), evT hx, evT (by omega), ix_nat (by omega)]; exact ev_some _
      · rw [ev_shift]; simp only [m_slices_Index_string_string_l1]
        rw [evT (by omega), evT (by omega), evT hx.symm]; exact ev_some _
    · have s1 : ∀ r, Ev (fun k => m_spec_l1Tree_l1 k v name ((j + 1 : Nat) : Int)) r → Ev (fun k => m_spec_l1Tree_l1 k v name j) r := fun r h => by
        rw [ev_shift]; simp only [m_spec_l1Tree_l1]
        rw [evbT (by omega), evbS]; simp only [thenG]
        rw [evT (by simp [hk]), evT (by omega), evF hx, wrap_id (by omega)]
        simpa using h
      have s2 : ∀ r, Ev (fun k => m_slices_Index_string_string_l1 k v.names name ((j + 1 : Nat) : Int)) r → Ev (fun k => m_slices_Index_string_string_l1 k v.names name j) r := fun r h => by
        rw [ev_shift]; simp only [m_slices_Index_string_string_l1]
        rw [evT (by omega), evT (by omega), evF (fun e => hx e.symm), wrap_id (by omega)]
        simpa using h
      rcases find_full v name hk hn hl d (j + 1) (by omega) with ⟨h1, h2, h3⟩ | ⟨i, hi, h1, h2, h3, h4, h5⟩
      · refine .inl ⟨s1 _ h1, s2 _ h2, fun i g1 g2 => ?_⟩
        rcases Nat.eq_or_lt_of_le g1 with rfl | g
        · exact hx
        · exact h3 i g g2
      · refine .inr ⟨i, hi, s1 _ h1, s2 _ h2, h3, by omega, fun q g1 g2 => ?_⟩
        rcases Nat.eq_or_lt_of_le g1 with rfl | g
        · exact hx
        · exact h5 q g g2
theorem tree_full (v : Val) (name : Bs) (h : Bd 1048576 v) : ∃ r : Val × Bool, Ev (fun k => m_spec_TreeGet k v name) r ∧ Ev (fun k => m_impl_TreeGet k v name) r ∧ Bd 1048576 r.1 ∧ szN r.1 ≤ szN v ∧
    (okV v 6 false = true → (r.2 = false ∧ ∀ i, i < v.names.length → ix v.names (i : Int) ≠ name) ∨ ∃ (i : Nat) (hi : i < v.list.length), i < v.names.length ∧ ix v.names (i : Int) = name ∧ (∀ q, q < i → ix v.names (q : Int) ≠ name) ∧ r = (v.list[i], true)) := by
  have hs := ev_sValueOk v h
  have hi := ev_iValueOk v h
  have hnl := h.names
  have hzs : szN zT ≤ szN v := by have := szN_eq v; have : szN zT = 1 := by simp [zT, szN, szNs]
                                  omega
  by_cases ok : okV v 6 false = true
  · rw [ok] at hs hi
    have hp : plainOk v = true := by
      rw [okV_eq] at ok
      simp only [Bool.and_eq_true] at ok
      exact ok.1.1.1.2
    by_cases k5 : v.kind = 5
    · have hn : v.names.length = v.list.length := by
        unfold plainOk at hp
        rw [if_neg (by omega), if_neg (by omega), if_neg (by omega), if_neg (by omega), if_neg (by omega), if_pos k5] at hp
        exact (of_decide_eq_true hp).2.2.1
      rcases find_full v name k5 hn hnl v.names.length 0 (by omega) with ⟨h1, h2, h3⟩ | ⟨i, hil, h1, h2, h3, _, h5⟩
      · refine ⟨(zT, false), ?_, ?_, zT_bd, hzs, fun _ => .inl ⟨rfl, fun i hi => h3 i (by omega) hi⟩⟩
        · simp only [m_spec_TreeGet, m_spec_l1Tree]
          exact Ev.bind hs (ev_ifT rfl (Ev.bind (a := (zT, false)) (Ev.go (s := ()) (by simpa using h1) (ev_some _)) (Ev.bind (ev_l1Copy zT zT_bd) (ev_some _))))
        · simp only [m_impl_TreeGet, m_impl_placeOf, m_slices_Index_string_string]
          exact Ev.go (s := false) (Ev.bind hi (ev_ifT rfl (ev_eq (ev_some _) (by simp [k5])))) (ev_ifF (by simp) (Ev.bind (a := -1) (Ev.bind (a := -1) (Ev.go (s := ()) (by simpa using h2) (ev_some _)) (ev_some _)) (ev_ifT (by omega) (ev_some _))))
      · have hb := h.within _ (List.getElem_mem hil)
        have hm := szNs_mem (List.getElem_mem hil)
        have he := szN_eq v
        refine ⟨(v.list[i], true), ?_, ?_, hb, by show szN v.list[i] ≤ _; omega, fun _ => .inr ⟨i, hil, by omega, h3, fun q hq => h5 q (by omega) hq, rfl⟩⟩
        · simp only [m_spec_TreeGet, m_spec_l1Tree]
          exact Ev.bind hs (ev_ifT rfl (Ev.bind (a := (v.list[i], true)) (Ev.ret (by simpa using h1)) (Ev.bind (ev_l1Copy _ hb) (ev_some _))))
        · simp only [m_impl_TreeGet, m_impl_placeOf, m_slices_Index_string_string, m_impl_copyValue]
          refine Ev.go (s := false) (Ev.bind hi (ev_ifT rfl (ev_eq (ev_some _) (by simp [k5])))) (ev_ifF (by simp) (Ev.bind (a := (i : Int)) (Ev.bind (a := (i : Int)) (Ev.ret (by simpa using h2)) (ev_some _)) (ev_ifF (by omega) (ev_ifT (by omega) ?_))))
          rw [ix_nat hil]
          exact Ev.bind (Ev.bind (ev_copyWithin _ hb [] (fun u hu => by cases hu)) (ev_some _)) (ev_some _)
    · have hn0 := plain_names0 hp k5
      refine ⟨(zT, false), ?_, ?_, zT_bd, hzs, fun _ => .inl ⟨rfl, fun i hi => by omega⟩⟩
      · simp only [m_spec_TreeGet, m_spec_l1Tree]
        have hl0 : Ev (fun k => m_spec_l1Tree_l1 k v name 0) (.go ()) := by
          rw [ev_shift]; simp only [m_spec_l1Tree_l1]
          refine Ev.go (s := false) (ev_ite (fun _ => ev_eq (ev_some _) (by simp [k5])) (fun _ => ev_some _)) (ev_ifF (by simp) (ev_some _))
        exact Ev.bind hs (ev_ifT rfl (Ev.bind (a := (zT, false)) (Ev.go (s := ()) hl0 (ev_some _)) (Ev.bind (ev_l1Copy zT zT_bd) (ev_some _))))
      · simp only [m_impl_TreeGet]
        exact Ev.go (s := true) (Ev.bind hi (ev_ifT rfl (ev_eq (ev_some _) (by simp [k5])))) (ev_ifT rfl (ev_some _))
  · refine ⟨(zT, false), ?_, ?_, zT_bd, hzs, fun h => absurd h ok⟩
    · simp only [m_spec_TreeGet]
      exact Ev.bind hs (ev_ifF ok (ev_some _))
    · simp only [m_impl_TreeGet]
      exact Ev.go (s := true) (Ev.bind hi (ev_ifF ok (ev_some _))) (ev_ifT rfl (ev_some _))
theorem law_FnTreeGet (a : List Int) (ha : a.length ≤ maxLen) (hr : ∀ x ∈ a, 0 ≤ x ∧ x ≤ 255) : ∃ k, m_laws_FnTreeGet k a = some true := by
  refine Ev.get (m := fun k => m_laws_FnTreeGet k a) ?_
  simp only [m_laws_FnTreeGet]
  refine ev_ite (fun _ => ev_some _) (fun _ => ?_)
  obtain ⟨v, s, d1, d2, d3, d4⟩ := drawTree_ok hr
  obtain ⟨r, g1, g2, g3, g4, g5⟩ := tree_full v s d2
  have hsame := ev_iSame r.1 r.1 g3 (by omega)
  rw [sameV_yes rfl] at hsame
  have hok := ev_sValueOk v d2
  rw [evC d1, evC g2, evC g1]
  simp only
  rw [evbT trivial]
  simp only [Option.bind_assoc]
  rw [evC hsame, evbT rfl]
  simp only [Option.bind_assoc]
  rw [evC hok, evbS]
  simp only [thenG]
  cases hb : okV v 6 false with
  | false =>
    rw [evT (by simp), evT trivial, evC hsame]; exact ev_some _
  | true =>
    rw [evF (by simp)]
    have hnl := d2.names
    rcases g5 hb with ⟨e, hno⟩ | ⟨i, hil, hin, hx, hno, e⟩
    · have loop : ∀ (d j : Nat), j + d = v.names.length → Ev (fun k => m_laws_FnTreeGet_l1 k (v, s) r j) (.go ()) := by
        intro d
        induction d with
        | zero =>
          intro j hj
          rw [ev_shift]; simp only [m_laws_FnTreeGet_l1]
          rw [evF (by omega)]; exact ev_some _
        | succ d ih =>
          intro j hj
          rw [ev_shift]; simp only [m_laws_FnTreeGet_l1]
          rw [evT (by omega), evT (by omega), evF (hno j (by omega)), wrap_id (by omega)]
          simpa using ih (j + 1) (by omega)
      refine Ev.go (s := ()) (by simpa using loop v.names.length 0 (by omega)) ?_
      rw [e]; exact ev_some _
    · have loop : ∀ (d j : Nat), j + d = i → Ev (fun k => m_laws_FnTreeGet_l1 k (v, s) r j) (.ret true) := by
        intro d
        induction d with
        | zero =>
          intro j hj
          have : j = i := by omega
          subst this
          rw [ev_shift]; simp only [m_laws_FnTreeGet_l1]
          rw [evT (by omega), evT (by omega), evT hx, evT (by rw [e]), evT (by omega), ix_nat hil]
          have : r.1 = v.list[j] := by rw [e]
          rw [← this, evC hsame]; exact ev_some _
        | succ d ih =>
          intro j hj
          rw [ev_shift]; simp only [m_laws_FnTreeGet_l1]
          rw [evT (by omega), evT (by omega), evF (hno j (by omega)), wrap_id (by omega)]
          simpa using ih (j + 1) (by omega)
      exact Ev.ret (by simpa using loop i 0 (by omega))
end Go.Proofs.Ytiaigcdckmpepaa
end
