/- Parts of a proof, put together; the conditions stand in each theorem. -/
import Derived.Test.YtiaigcdckmpepaaXO3
section
/-! Functions of the program. -/
set_option linter.unusedVariables false
set_option linter.unnecessarySimpa false
set_option maxRecDepth 100000
set_option maxHeartbeats 20000000
noncomputable section
namespace Go.Proofs.Ytiaigcdckmpepaa
open Go.Bb
def m_laws_szStringS_l1 : Nat → (List Bs) → Int → Int → Option (Lp Int Int)
 | 0, _, _, _ => none
 | k + 1, a0, x1, x2 =>
  if x2 < (a0.length : Int) then
   if (0 : Int) ≤ x2 ∧ x2 < (a0.length : Int) then
    if (IntKind.wrap .i64 (x1 - ((ix a0 x2).length : Int))) < 0 then
     (some (-1)).bind fun z =>
     some (Lp.ret z)
    else
     m_laws_szStringS_l1 k a0 (IntKind.wrap .i64 (x1 - ((ix a0 x2).length : Int))) (IntKind.wrap .i64 (x2 + 1))
   else none
  else
   some (Lp.go x1)
def m_laws_szStringS (k : Nat) (a0 : (List Bs)) (a1 : Int) : Option Int :=
 if (IntKind.wrap .i64 (a1 - (a0.length : Int))) < 0 then
  some (-1)
 else
  (m_laws_szStringS_l1 k a0 (IntKind.wrap .i64 (a1 - (a0.length : Int))) 0).bind fun o1 =>
  o1.then fun s1 =>
  some s1
theorem m_laws_szStringS_ok (k : Nat) : ∀ (a0 : (List Bs)) (a1 : Int) (r : Int), m_laws_szStringS k a0 a1 = some r → Does Try.prog 45 [.sl false (a0.map encS), .int .i64 a1] [] (ret (.int .i64 r)) := by
 intro a0 a1 r h
 rw [m_laws_szStringS] at h
 refine does_of_good tabOk Try.func45 rfl (by decide +kernel) (Nat.le_of_ble_eq_true rfl) fun c => ?_
 refine Good.le (σ' := ⟨28, [(0, .sl false (a0.map encS)), (1, .int .i64 a1)], []⟩) (Le.refl _) ?_
 refine good_seq fun K1 hK1 => ?_
 refine rg 1 ?_
 refine g_nil (hK1 _ ?_)
 refine good_seq fun K2 hK2 => ?_
 refine rg 2 ?_
 refine g_op rfl (ValOk.op (v_lenM (l := a0) (f := encS) tabOk rfl rfl telem23 rfl ?_))
 refine gs 2 ?_
 refine gk hK2 28 [0, 1, 4] [] ?_
 refine good_seq fun K3 hK3 => ?_
 refine good_seq fun K4 hK4 => ?_
 refine rg 2 ?_
 refine gk hK4 28 [0, 1, 4, 11] [] ?_
 refine good_cond rfl (fun hc1 => ?_) (fun hc1 => ?_)
 ·replace h := ifT h (dT hc1)
  refine good_seq fun K5 hK5 => ?_
  refine rg 1 ?_
  refine gk hK5 28 [0, 1, 4] [] ?_
  obtain rfl := Option.some.inj h
  exact rt
 ·replace h := ifF h (dF hc1)
  refine good_skip ?_
  refine hK3 _ (kp 28 [0, 1, 4] [] ?_)
  refine good_seq fun K6 hK6 => ?_
  refine good_seq fun K7 hK7 => ?_
  refine rg 1 ?_
  refine g_nil (hK7 _ ?_)
  obtain ⟨o1, ho1, hJ1⟩ := bnd h
  have hw1 : ∀ (s1 : Int), o1 = Lp.go s1 → ∀ σ', Le σ' ⟨28, [(1, .int .i64 s1), (4, .int .i64 0)], []⟩ → K6 σ' := by
   intro s1 e1 σ' hle1
   subst e1
   refine hK6 _ (Good.le hle1 ?_)
   replace h := hJ1
   refine good_seq fun K8 hK8 => ?_
   refine rg 2 ?_
   refine gk hK8 28 [4] [] ?_
   obtain rfl := Option.some.inj h
   exact rt
  replace h := ho1
  refine good_block ?_
  refine good_loopf (fun p : (Int × Int) => ⟨28, [(0, .sl false (a0.map encS)), (1, .int .i64 p.1), (4, .int .i64 0), (5, .int .i64 p.2)], []⟩) (fun m p => m_laws_szStringS_l1 m a0 p.1 p.2 = some o1) k (IntKind.wrap .i64 (a1 - (a0.length : Int)), 0) (lw []) h ?_
  rintro m1 ⟨x1, x2⟩ h
  replace h : m_laws_szStringS_l1 m1 a0 x1 x2 = some o1 := h
  refine Good.le (σ' := ⟨28, [(0, .sl false (a0.map encS)), (1, .int .i64 x1), (4, .int .i64 0), (5, .int .i64 x2)], []⟩) (Le.refl _) ?_
  obtain ⟨m1, rfl⟩ : ∃ m', m1 = m' + 1 := by cases m1 with | zero => (rw [m_laws_szStringS_l1] at h; cases h) | succ m' => exact ⟨m', rfl⟩
  rw [m_laws_szStringS_l1] at h
  refine good_seq fun K9 hK9 => ?_
  refine good_seq fun K10 hK10 => ?_
  refine rg 2 ?_
  refine g_op rfl (ValOk.op (v_lenM (l := a0) (f := encS) tabOk rfl rfl telem23 rfl ?_))
  refine gs 1 ?_
  refine gk hK10 28 [0, 1, 4, 5, 15] [] ?_
  refine good_cond rfl (fun hc2 => ?_) (fun hc2 => ?_)
  ·replace h := ifT h (dT hc2)
   refine good_skip ?_
   refine hK9 _ (kp 28 [0, 1, 4, 5] [] ?_)
   refine good_seq fun K11 hK11 => ?_
   refine good_block ?_
   refine good_seq fun K12 hK12 => ?_
   refine rg 3 ?_
   obtain ⟨hb1, h⟩ := ifS h
   refine g_op rfl (ValOk.op (v_idxM tabOk rfl rfl telem23 tsize9 hb1 rfl rfl rfl ?_))
   refine gs 4 ?_
   refine gk hK12 28 [0, 1, 4, 5] [] ?_
   refine good_seq fun K13 hK13 => ?_
   refine rg 2 ?_
   refine gk hK13 28 [0, 1, 4, 5, 26] [] ?_
   refine good_cond rfl (fun hc3 => ?_) (fun hc3 => ?_)
   ·replace h := ifT h (dT hc3)
    refine good_seq fun K14 hK14 => ?_
    refine rg 1 ?_
    refine gk hK14 28 [0, 1, 4, 5] [] ?_
    replace h := unret h hJ1
    obtain rfl := Option.some.inj h
    exact rt
   ·replace h := ifF h (dF hc3)
    refine good_skip ?_
    refine hK11 _ (kp 28 [0, 1, 4, 5] [] ?_)
    refine rg 3 ?_
    refine g_nil ?_
    exact round_mk m1 (IntKind.wrap .i64 (x1 - ((ix a0 x2).length : Int)), IntKind.wrap .i64 (x2 + 1)) (Nat.lt_succ_self _) h (lw [])
  ·replace h := ifF h (dF hc2)
   refine good_exit ?_
   exact hw1 x1 (Option.some.inj h).symm _ (lw [])
mutual
def m_laws_szValue : Nat → Val → Int → Option Int
 | 0, _, _ => none
 | k + 1, a0, a1 =>
  if (IntKind.wrap .i64 (a1 - (a0.text.length : Int))) < 0 then
   some (-1)
  else
   (m_laws_szValueS k a0.list (IntKind.wrap .i64 (a1 - (a0.text.length : Int)))).bind fun y1 =>
   if y1 < 0 then
    some (-1)
   else
    (m_laws_szStringS k a0.names y1).bind fun y2 =>
    if y2 < 0 then
     some (-1)
    else
     some y2
def m_laws_szValueS_l1 : Nat → (List Val) → Int → Int → Option (Lp Int Int)
 | 0, _, _, _ => none
 | k + 1, a0, x1, x2 =>
  if x2 < (a0.length : Int) then
   if (0 : Int) ≤ x2 ∧ x2 < (a0.length : Int) then
    (m_laws_szValue k (ix a0 x2) x1).bind fun y1 =>
    if y1 < 0 then
     (some (-1)).bind fun z =>
     some (Lp.ret z)
    else
     m_laws_szValueS_l1 k a0 y1 (IntKind.wrap .i64 (x2 + 1))
   else none
  else
   some (Lp.go x1)
def m_laws_szValueS : Nat → (List Val) → Int → Option Int
 | 0, _, _ => none
 | k + 1, a0, a1 =>
  if (IntKind.wrap .i64 (a1 - (a0.length : Int))) < 0 then
   some (-1)
  else
   (m_laws_szValueS_l1 k a0 (IntKind.wrap .i64 (a1 - (a0.length : Int))) 0).bind fun o1 =>
   o1.then fun s1 =>
  some s1
end
def P_m_laws_szValue (k : Nat) : Prop := ∀ (a0 : Val) (a1 : Int) (r : Int), m_laws_szValue k a0 a1 = some r → Does Try.prog 15 [.agg [.int .i64 a0.kind, .int .i64 a0.num, .str a0.text, .sl false (a0.list.map encLVal), .sl false (a0.names.map encS)], .int .i64 a1] [] (ret (.int .i64 r))
def P_m_laws_szValueS (k : Nat) : Prop := ∀ (a0 : (List Val)) (a1 : Int) (r : Int), m_laws_szValueS k a0 a1 = some r → Does Try.prog 44 [.sl false (a0.map encLVal), .int .i64 a1] [] (ret (.int .i64 r))
theorem m_laws_szValue_step (k : Nat) (ih : ∀ m, m < k → P_m_laws_szValue m ∧ P_m_laws_szValueS m) : P_m_laws_szValue k := by
 intro a0 a1 r h
 obtain ⟨k, rfl⟩ : ∃ k', k = k' + 1 := by cases k with | zero => (rw [m_laws_szValue] at h; cases h) | succ k' => exact ⟨k', rfl⟩
 rw [m_laws_szValue] at h
 refine does_of_good tabOk Try.func15 rfl (by decide +kernel) (Nat.le_of_ble_eq_true rfl) fun c => ?_
 refine Good.le (σ' := ⟨25, [(0, .agg [.int .i64 a0.kind, .int .i64 a0.num, .str a0.text, .sl false (a0.list.map encLVal), .sl false (a0.names.map encS)]), (1, .int .i64 a1)], []⟩) (Le.refl _) ?_
 refine good_seq fun K1 hK1 => ?_
 refine good_region ?_
 refine g_op rfl (o_box (k := 12) tabOk rfl rfl rfl rfl rfl ?_)
 intro b1
 refine gs 1 ?_
 refine gk hK1 25 [1, 2, 4] [12] ?_
 refine good_seq fun K2 hK2 => ?_
 refine rg 6 ?_
 refine gk hK2 25 [1, 2, 4] [12] ?_
 refine good_seq fun K3 hK3 => ?_
 refine good_seq fun K4 hK4 => ?_
 refine rg 2 ?_
 refine gk hK4 25 [1, 2, 4, 11] [12] ?_
 refine good_cond rfl (fun hc1 => ?_) (fun hc1 => ?_)
 ·replace h := ifT h (dT hc1)
  refine good_seq fun K5 hK5 => ?_
  refine rg 1 ?_
  refine gk hK5 25 [1, 2, 4] [12] ?_
  obtain rfl := Option.some.inj h
  exact rt
 ·replace h := ifF h (dF hc1)
  refine good_skip ?_
  refine hK3 _ (kp 25 [1, 2, 4] [12] ?_)
  refine good_seq fun K6 hK6 => ?_
  refine rg 3 ?_
  obtain ⟨y1, hy1, h⟩ := bnd h
  refine g_op rfl (o_callR [] [] (core_value rfl rfl) ((ih k (by omega)).2 a0.list (IntKind.wrap .i64 (a1 - (a0.text.length : Int))) _ hy1) trivial (.cons (.refl _) (.cons (.refl _) (.nil))) (.inl rfl) rfl ?_)
  refine gs 1 ?_
  refine gk hK6 25 [1, 2, 4] [12] ?_
  refine good_seq fun K7 hK7 => ?_
  refine good_seq fun K8 hK8 => ?_
  refine rg 2 ?_
  refine gk hK8 25 [1, 2, 4, 17] [12] ?_
  refine good_cond rfl (fun hc2 => ?_) (fun hc2 => ?_)
  ·replace h := ifT h (dT hc2)
   refine good_seq fun K9 hK9 => ?_
   refine rg 1 ?_
   refine gk hK9 25 [1, 2, 4] [12] ?_
   obtain rfl := Option.some.inj h
   exact rt
  ·replace h := ifF h (dF hc2)
   refine good_skip ?_
   refine hK7 _ (kp 25 [1, 2, 4] [12] ?_)
   refine good_seq fun K10 hK10 => ?_
   refine rg 3 ?_
   obtain ⟨y2, hy2, h⟩ := bnd h
   refine g_op rfl (o_callR [] [] (core_value rfl rfl) (m_laws_szStringS_ok k a0.names y1 _ hy2) trivial (.cons (.refl _) (.cons (.refl _) (.nil))) (.inl rfl) rfl ?_)
   refine gs 1 ?_
   refine gk hK10 25 [1, 4] [] ?_
   refine good_seq fun K11 hK11 => ?_
   refine good_seq fun K12 hK12 => ?_
   refine rg 2 ?_
   refine gk hK12 25 [1, 4, 23] [] ?_
   refine good_cond rfl (fun hc3 => ?_) (fun hc3 => ?_)
   ·replace h := ifT h (dT hc3)
    refine good_seq fun K13 hK13 => ?_
    refine rg 1 ?_
    refine gk hK13 25 [1, 4] [] ?_
    obtain rfl := Option.some.inj h
    exact rt
   ·replace h := ifF h (dF hc3)
    refine good_skip ?_
    refine hK11 _ (kp 25 [1, 4] [] ?_)
    refine good_seq fun K14 hK14 => ?_
    refine rg 2 ?_
    refine gk hK14 25 [4] [] ?_
    obtain rfl := Option.some.inj h
    exact rt
theorem m_laws_szValueS_step (k : Nat) (ih : ∀ m, m < k → P_m_laws_szValue m ∧ P_m_laws_szValueS m) : P_m_laws_szValueS k := by
 intro a0 a1 r h
 obtain ⟨k, rfl⟩ : ∃ k', k = k' + 1 := by cases k with | zero => (rw [m_laws_szValueS] at h; cases h) | succ k' => exact ⟨k', rfl⟩
 rw [m_laws_szValueS] at h
 refine does_of_good tabOk Try.func44 rfl (by decide +kernel) (Nat.le_of_ble_eq_true rfl) fun c => ?_
 refine Good.le (σ' := ⟨27, [(0, .sl false (a0.map encLVal)), (1, .int .i64 a1)], []⟩) (Le.refl _) ?_
 refine good_seq fun K1 hK1 => ?_
 refine rg 1 ?_
 refine g_nil (hK1 _ ?_)
 refine good_seq fun K2 hK2 => ?_
 refine rg 2 ?_
 refine g_op rfl (ValOk.op (v_lenM (l := a0) (f := encLVal) tabOk rfl rfl telem22 rfl ?_))
 refine gs 2 ?_
 refine gk hK2 27 [0, 1, 4] [] ?_
 refine good_seq fun K3 hK3 => ?_
 refine good_seq fun K4 hK4 => ?_
 refine rg 2 ?_
 refine gk hK4 27 [0, 1, 4, 11] [] ?_
 refine good_cond rfl (fun hc1 => ?_) (fun hc1 => ?_)
 ·replace h := ifT h (dT hc1)
  refine good_seq fun K5 hK5 => ?_
  refine rg 1 ?_
  refine gk hK5 27 [0, 1, 4] [] ?_
  obtain rfl := Option.some.inj h
  exact rt
 ·replace h := ifF h (dF hc1)
  refine good_skip ?_
  refine hK3 _ (kp 27 [0, 1, 4] [] ?_)
  refine good_seq fun K6 hK6 => ?_
  refine good_seq fun K7 hK7 => ?_
  refine rg 1 ?_
  refine g_nil (hK7 _ ?_)
  obtain ⟨o1, ho1, hJ1⟩ := bnd h
  have hw1 : ∀ (s1 : Int), o1 = Lp.go s1 → ∀ σ', Le σ' ⟨27, [(1, .int .i64 s1), (4, .int .i64 0)], []⟩ → K6 σ' := by
   intro s1 e1 σ' hle1
   subst e1
   refine hK6 _ (Good.le hle1 ?_)
   replace h := hJ1
   refine good_seq fun K8 hK8 => ?_
   refine rg 2 ?_
   refine gk hK8 27 [4] [] ?_
   obtain rfl := Option.some.inj h
   exact rt
  replace h := ho1
  refine good_block ?_
  refine good_loopf (fun p : (Int × Int) => ⟨27, [(0, .sl false (a0.map encLVal)), (1, .int .i64 p.1), (4, .int .i64 0), (5, .int .i64 p.2)], []⟩) (fun m p => m < k + 1 ∧ m_laws_szValueS_l1 m a0 p.1 p.2 = some o1) k (IntKind.wrap .i64 (a1 - (a0.length : Int)), 0) (lw []) ⟨by omega, h⟩ ?_
  rintro m1 ⟨x1, x2⟩ ⟨hm, h⟩
  replace h : m_laws_szValueS_l1 m1 a0 x1 x2 = some o1 := h
  refine Good.le (σ' := ⟨27, [(0, .sl false (a0.map encLVal)), (1, .int .i64 x1), (4, .int .i64 0), (5, .int .i64 x2)], []⟩) (Le.refl _) ?_
  obtain ⟨m1, rfl⟩ : ∃ m', m1 = m' + 1 := by cases m1 with | zero => (rw [m_laws_szValueS_l1] at h; cases h) | succ m' => exact ⟨m', rfl⟩
  rw [m_laws_szValueS_l1] at h
  refine good_seq fun K9 hK9 => ?_
  refine good_seq fun K10 hK10 => ?_
  refine rg 2 ?_
  refine g_op rfl (ValOk.op (v_lenM (l := a0) (f := encLVal) tabOk rfl rfl telem22 rfl ?_))
  refine gs 1 ?_
  refine gk hK10 27 [0, 1, 4, 5, 15] [] ?_
  refine good_cond rfl (fun hc2 => ?_) (fun hc2 => ?_)
  ·replace h := ifT h (dT hc2)
   refine good_skip ?_
   refine hK9 _ (kp 27 [0, 1, 4, 5] [] ?_)
   refine good_seq fun K11 hK11 => ?_
   refine good_block ?_
   refine good_seq fun K12 hK12 => ?_
   refine rg 2 ?_
   obtain ⟨hb1, h⟩ := ifS h
   refine g_op rfl (ValOk.op (v_idxM tabOk rfl rfl telem22 tsize25 hb1 (encLVal_eq _) rfl rfl ?_))
   refine gs 2 ?_
   obtain ⟨y1, hy1, h⟩ := bnd h
   refine g_op rfl (o_callR [] [] (core_value rfl rfl) ((ih m1 (by omega)).1 (ix a0 x2) x1 _ hy1) trivial (.cons (.refl _) (.cons (.refl _) (.nil))) (.inl rfl) rfl ?_)
   refine gs 1 ?_
   refine gk hK12 27 [0, 1, 4, 5] [] ?_
   refine good_seq fun K13 hK13 => ?_
   refine rg 2 ?_
   refine gk hK13 27 [0, 1, 4, 5, 25] [] ?_
   refine good_cond rfl (fun hc3 => ?_) (fun hc3 => ?_)
   ·replace h := ifT h (dT hc3)
    refine good_seq fun K14 hK14 => ?_
    refine rg 1 ?_
    refine gk hK14 27 [0, 1, 4, 5] [] ?_
    replace h := unret h hJ1
    obtain rfl := Option.some.inj h
    exact rt
   ·replace h := ifF h (dF hc3)
    refine good_skip ?_
    refine hK11 _ (kp 27 [0, 1, 4, 5] [] ?_)
    refine rg 3 ?_
    refine g_nil ?_
    exact round_mk m1 (y1, IntKind.wrap .i64 (x2 + 1)) (Nat.lt_succ_self _) ⟨by omega, h⟩ (lw [])
  ·replace h := ifF h (dF hc2)
   refine good_exit ?_
   exact hw1 x1 (Option.some.inj h).symm _ (lw [])
theorem m_laws_szValue_all (k : Nat) : P_m_laws_szValue k ∧ P_m_laws_szValueS k := by
 induction k using Nat.strongRecOn with
 | _ k ih => exact ⟨m_laws_szValue_step k ih, m_laws_szValueS_step k ih⟩
theorem m_laws_szValue_ok (k : Nat) : ∀ (a0 : Val) (a1 : Int) (r : Int), m_laws_szValue k a0 a1 = some r → Does Try.prog 15 [.agg [.int .i64 a0.kind, .int .i64 a0.num, .str a0.text, .sl false (a0.list.map encLVal), .sl false (a0.names.map encS)], .int .i64 a1] [] (ret (.int .i64 r)) := (m_laws_szValue_all k).1
theorem m_laws_szValueS_ok (k : Nat) : ∀ (a0 : (List Val)) (a1 : Int) (r : Int), m_laws_szValueS k a0 a1 = some r → Does Try.prog 44 [.sl false (a0.map encLVal), .int .i64 a1] [] (ret (.int .i64 r)) := (m_laws_szValue_all k).2
def m_laws_toStringS_l1 : Nat → (List Bs) → (List Bs) → Int → Option (Lp (List Bs) (List Bs))
 | 0, _, _, _ => none
 | k + 1, a0, x1, x2 =>
  if x2 < (a0.length : Int) then
   if (0 : Int) ≤ x2 ∧ x2 < (a0.length : Int) then
    if (0 : Int) ≤ x2 ∧ x2 < (x1.length : Int) then
     m_laws_toStringS_l1 k a0 (x1.set (Int.toNat x2) (ix a0 x2)) (IntKind.wrap .i64 (x2 + 1))
    else none
   else none
  else
   some (Lp.go x1)
def m_laws_toStringS (k : Nat) (a0 : (List Bs)) : Option (List Bs) :=
 if (0 : Int) ≤ (a0.length : Int) ∧ 16 * (a0.length : Int) ≤ (281474976710656 : Int) then
  if (a0.length : Int) ≤ (9223372036854775807 : Int) then
   (m_laws_toStringS_l1 k a0 (List.replicate (Int.toNat (a0.length : Int)) ([] : Bs)) 0).bind fun o1 =>
   o1.then fun s1 =>
  some s1
  else none
 else none
theorem m_laws_toStringS_ok (k : Nat) : ∀ (a0 : (List Bs)) (r : (List Bs)), m_laws_toStringS k a0 = some r → Does Try.prog 48 [.sl false (a0.map encS)] [] (fun q h' => ∃ u0 : Value, q = .hd 100 u0 ∧ h' = [(100, (u0, .osl 9 1 (r.map encS)))]) := by
 intro a0 r h
 rw [m_laws_toStringS] at h
 refine does_of_good tabOk Try.func48 rfl (by decide +kernel) (Nat.le_of_ble_eq_true rfl) fun c => ?_
 refine Good.le (σ' := ⟨22, [(0, .sl false (a0.map encS))], []⟩) (Le.refl _) ?_
 refine good_seq fun K1 hK1 => ?_
 refine rg 1 ?_
 refine g_nil (hK1 _ ?_)
 refine good_seq fun K2 hK2 => ?_
 refine rg 1 ?_
 refine g_op rfl (ValOk.op (v_lenM (l := a0) (f := encS) tabOk rfl rfl telem23 rfl ?_))
 obtain ⟨hb1, h⟩ := ifS h
 obtain ⟨hb2, h⟩ := ifS h
 refine g_op rfl (o_makeM (k := 17) (zz := (([] : Bs))) (f := encS) tabOk telem23 tsize9 tbytes9 tzero9 rfl rfl rfl (by decide) (WkL.refl _) rfl rfl hb1 hb2 ?_)
 intro w1
 refine gs 1 ?_
 refine gk hK2 22 [0, 2, 3] [17] ?_
 refine good_seq fun K3 hK3 => ?_
 refine good_seq fun K4 hK4 => ?_
 refine rg 1 ?_
 refine g_nil (hK4 _ ?_)
 obtain ⟨o1, ho1, hJ1⟩ := bnd h
 have hw1 : ∀ (s1 : (List Bs)), o1 = Lp.go s1 → ∀ σ', Le σ' ⟨22, [(2, .nil), (3, .hd 17 w1)], [(17, (w1, .osl 9 1 (s1.map encS)))]⟩ → K3 σ' := by
  intro s1 e1 σ' hle1
  subst e1
  refine hK3 _ (Good.le hle1 ?_)
  replace h := hJ1
  refine good_seq fun K5 hK5 => ?_
  refine rg 2 ?_
  refine gk hK5 22 [2] [17] ?_
  refine Good.le (σ' := ⟨22, [(2, .hd 100 w1)], [(100, (w1, .osl 9 1 (s1.map encS)))]⟩) (lw [some 17]) ?_
  refine good_ret ?_
  obtain rfl := Option.some.inj h
  exact endQ_ret (h' := [(100, (_, _))]) [some 100] (.tmp rfl (.nil)) ⟨⟨_, rfl, .refl _⟩, trivial⟩ (by decide) ⟨w1, rfl, rfl⟩
 replace h := ho1
 refine good_block ?_
 refine good_loopf (fun p : ((List Bs) × Int) => ⟨22, [(0, .sl false (a0.map encS)), (2, .nil), (3, .hd 17 w1), (4, .int .i64 p.2)], [(17, (w1, .osl 9 1 (p.1.map encS)))]⟩) (fun m p => m_laws_toStringS_l1 m a0 p.1 p.2 = some o1) k (List.replicate (Int.toNat (a0.length : Int)) ([] : Bs), 0) (lw [some 17]) h ?_
 rintro m1 ⟨x1, x2⟩ h
 replace h : m_laws_toStringS_l1 m1 a0 x1 x2 = some o1 := h
 refine Good.le (σ' := ⟨22, [(0, .sl false (a0.map encS)), (2, .nil), (3, .hd 17 w1), (4, .int .i64 x2)], [(17, (w1, .osl 9 1 (x1.map encS)))]⟩) (Le.refl _) ?_
 obtain ⟨m1, rfl⟩ : ∃ m', m1 = m' + 1 := by cases m1 with | zero => (rw [m_laws_toStringS_l1] at h; cases h) | succ m' => exact ⟨m', rfl⟩
 rw [m_laws_toStringS_l1] at h
 refine good_seq fun K6 hK6 => ?_
 refine good_seq fun K7 hK7 => ?_
 refine rg 2 ?_
 refine g_op rfl (ValOk.op (v_lenM (l := a0) (f := encS) tabOk rfl rfl telem23 rfl ?_))
 refine gs 1 ?_
 refine gk hK7 22 [0, 2, 3, 4, 11] [17] ?_
 refine good_cond rfl (fun hc1 => ?_) (fun hc1 => ?_)
 ·replace h := ifT h (dT hc1)
  refine good_skip ?_
  refine hK6 _ (kp 22 [0, 2, 3, 4] [17] ?_)
  refine good_seq fun K8 hK8 => ?_
  refine good_block ?_
  refine rg 4 ?_
  obtain ⟨hb3, h⟩ := ifS h
  refine g_op rfl (ValOk.op (v_idxM tabOk rfl rfl telem23 tsize9 hb3 rfl rfl rfl ?_))
  refine gs 1 ?_
  obtain ⟨hb4, h⟩ := ifS h
  refine g_op rfl (ValOk.op (v_idxHM (q := 17) tabOk ⟨_, rfl⟩ rfl rfl telem23 tsize9 hb4 rfl ?_))
  refine g_op rfl (o_storeRM tabOk (z := (ix a0 x2)) rfl rfl tsize9 rfl hb4 rfl rfl rfl (by decide) rfl rfl rfl rfl ?_)
  refine gk hK8 22 [0, 2, 3, 4] [17] ?_
  refine rg 3 ?_
  refine g_nil ?_
  exact round_mk m1 (x1.set (Int.toNat x2) (ix a0 x2), IntKind.wrap .i64 (x2 + 1)) (Nat.lt_succ_self _) h (lw [some 17])
 ·replace h := ifF h (dF hc1)
  refine good_exit ?_
  exact hw1 x1 (Option.some.inj h).symm _ (lw [some 17])
theorem m_laws_toStringS_okF (k : Nat) : ∀ (a0 : (List Bs)) (r : (List Bs)), m_laws_toStringS k a0 = some r → Does Try.prog 48 [.sl false (a0.map encS)] [] (ret (.sl false (r.map encS))) := by
 intro a0 r h
 refine does_frz (m_laws_toStringS_ok k a0 r h) ?_
 rintro q h' ⟨u0, rfl, rfl⟩
 exact ⟨[100], [(_, _)], ⟨⟨_, rfl, .osl (FrzLL.map fun _ _ => encS_frz _)⟩, trivial⟩, .frz _ _ _ (.head _)⟩
mutual
def m_laws_toValue : Nat → Val → Option Val
 | 0, _ => none
 | k + 1, a0 =>
  (m_laws_toValueS k a0.list).bind fun y1 =>
  (m_laws_toStringS k a0.names).bind fun y2 =>
  some (Val.mk a0.kind a0.num a0.text y1 y2)
def m_laws_toValueS_l1 : Nat → (List Val) → (List Val) → Int → Option (Lp (List Val) (List Val))
 | 0, _, _, _ => none
 | k + 1, a0, x1, x2 =>
  if x2 < (a0.length : Int) then
   if (0 : Int) ≤ x2 ∧ x2 < (a0.length : Int) then
    (m_laws_toValue k (ix a0 x2)).bind fun y1 =>
    if (0 : Int) ≤ x2 ∧ x2 < (x1.length : Int) then
     m_laws_toValueS_l1 k a0 (x1.set (Int.toNat x2) y1) (IntKind.wrap .i64 (x2 + 1))
    else none
   else none
  else
   some (Lp.go x1)
def m_laws_toValueS : Nat → (List Val) → Option (List Val)
 | 0, _ => none
 | k + 1, a0 =>
  if (0 : Int) ≤ (a0.length : Int) ∧ 80 * (a0.length : Int) ≤ (281474976710656 : Int) then
   if (a0.length : Int) ≤ (9223372036854775807 : Int) then
    (m_laws_toValueS_l1 k a0 (List.replicate (Int.toNat (a0.length : Int)) (Val.mk 0 0 ([] : Bs) [] [])) 0).bind fun o1 =>
    o1.then fun s1 =>
  some s1
   else none
  else none
end
def P_m_laws_toValue (k : Nat) : Prop := ∀ (a0 : Val) (r : Val), m_laws_toValue k a0 = some r → Does Try.prog 17 [.agg [.int .i64 a0.kind, .int .i64 a0.num, .str a0.text, .sl false (a0.list.map encLVal), .sl false (a0.names.map encS)]] [] (fun q h' => ∃ u0 : Value, ∃ u1 : Value, q = .agg [.int .i64 r.kind, .int .i64 r.num, .str r.text, .hd 100 u0, .hd 101 u1] ∧ h' = [(100, (u0, .osl 30 5 (r.list.map encOVal))), (101, (u1, .osl 9 1 (r.names.map encS)))])
def P_m_laws_toValueS (k : Nat) : Prop := ∀ (a0 : (List Val)) (r : (List Val)), m_laws_toValueS k a0 = some r → Does Try.prog 47 [.sl false (a0.map encLVal)] [] (fun q h' => ∃ u0 : Value, q = .hd 100 u0 ∧ h' = [(100, (u0, .osl 30 5 (r.map encOVal)))])
theorem m_laws_toValue_step (k : Nat) (ih : ∀ m, m < k → P_m_laws_toValue m ∧ P_m_laws_toValueS m) : P_m_laws_toValue k := by
 intro a0 r h
 obtain ⟨k, rfl⟩ : ∃ k', k = k' + 1 := by cases k with | zero => (rw [m_laws_toValue] at h; cases h) | succ k' => exact ⟨k', rfl⟩
 rw [m_laws_toValue] at h
 refine does_of_good tabOk Try.func17 rfl (by decide +kernel) (Nat.le_of_ble_eq_true rfl) fun c => ?_
 refine Good.le (σ' := ⟨22, [(0, .agg [.int .i64 a0.kind, .int .i64 a0.num, .str a0.text, .sl false (a0.list.map encLVal), .sl false (a0.names.map encS)])], []⟩) (Le.refl _) ?_
 refine good_seq fun K1 hK1 => ?_
 refine good_region ?_
 refine g_op rfl (o_box (k := 11) tabOk rfl rfl rfl rfl rfl ?_)
 intro b1
 refine g_op rfl (o_alloc (k := 12) tabOk tzero30 rfl rfl ?_)
 intro b2
 refine gk hK1 22 [1, 2] [11, 12] ?_
 refine good_seq fun K2 hK2 => ?_
 refine good_region ?_
 refine g_op rfl (o_alloc (k := 13) tabOk tzero30 rfl rfl ?_)
 intro b3
 refine g_nil (hK2 _ ?_)
 refine good_seq fun K3 hK3 => ?_
 refine rg 3 ?_
 refine g_op rfl (o_storeP tabOk (cs' := [.int .i64 a0.kind, .int .i64 0, .str ([] : Bs), .nil, .nil]) rfl rfl tsize3 rfl rfl rfl (Nat.le_of_ble_eq_true rfl) rfl rfl rfl ?_)
 refine gk hK3 22 [1, 2, 3] [11, 12, 13] ?_
 refine good_seq fun K4 hK4 => ?_
 refine rg 3 ?_
 refine g_op rfl (o_storeP tabOk (cs' := [.int .i64 a0.kind, .int .i64 a0.num, .str ([] : Bs), .nil, .nil]) rfl rfl tsize3 rfl rfl rfl (Nat.le_of_ble_eq_true rfl) rfl rfl rfl ?_)
 refine gk hK4 22 [1, 2, 3] [11, 12, 13] ?_
 refine good_seq fun K5 hK5 => ?_
 refine rg 3 ?_
 refine g_op rfl (o_storeP tabOk (cs' := [.int .i64 a0.kind, .int .i64 a0.num, .str a0.text, .nil, .nil]) rfl rfl tsize9 rfl rfl rfl (Nat.le_of_ble_eq_true rfl) rfl rfl rfl ?_)
 refine gk hK5 22 [1, 2, 3] [11, 12, 13] ?_
 refine good_seq fun K6 hK6 => ?_
 refine rg 2 ?_
 obtain ⟨y1, hy1, h⟩ := bnd h
 refine g_op rfl (o_callD [] [] [] (core_value rfl rfl) ((ih k (by omega)).2 a0.list _ hy1) trivial (.cons (.refl _) (.nil)) trivial rfl rfl rfl ?_)
 rintro _ _ ⟨w1, rfl, rfl⟩
 refine ⟨.hd 3001 w1, [(3001, _)], .hd _ _ _, rfl, rfl, rfl, rfl, .inl rfl, ?_⟩
 refine gs 1 ?_
 refine g_op rfl (o_storeP tabOk (cs' := [.int .i64 a0.kind, .int .i64 a0.num, .str a0.text, .hd 3001 w1, .nil]) rfl rfl tsize28 rfl rfl rfl (Nat.le_of_ble_eq_true rfl) rfl rfl rfl ?_)
 refine gk hK6 22 [1, 2, 3] [11, 12, 13, 3001] ?_
 refine good_seq fun K7 hK7 => ?_
 refine rg 2 ?_
 obtain ⟨y2, hy2, h⟩ := bnd h
 refine g_op rfl (o_callD [] [] [] (core_value rfl rfl) (m_laws_toStringS_ok k a0.names _ hy2) trivial (.cons (.refl _) (.nil)) trivial rfl rfl rfl ?_)
 rintro _ _ ⟨w2, rfl, rfl⟩
 refine ⟨.hd 3002 w2, [(3002, _)], .hd _ _ _, rfl, rfl, rfl, rfl, .inl rfl, ?_⟩
 refine gs 1 ?_
 refine g_op rfl (o_storeP tabOk (cs' := [.int .i64 a0.kind, .int .i64 a0.num, .str a0.text, .hd 3001 w1, .hd 3002 w2]) rfl rfl tsize23 rfl rfl rfl (Nat.le_of_ble_eq_true rfl) rfl rfl rfl ?_)
 refine gk hK7 22 [2, 3] [12, 13, 3001, 3002] ?_
 refine good_seq fun K8 hK8 => ?_
 refine rg 1 ?_
 refine g_op rfl (o_storeP tabOk (cs' := [.int .i64 a0.kind, .int .i64 a0.num, .str a0.text, .hd 3001 w1, .hd 3002 w2]) rfl rfl tsize30 rfl rfl rfl (Nat.le_of_ble_eq_true rfl) rfl rfl rfl ?_)
 refine gk hK8 22 [2] [12, 3001, 3002] ?_
 refine Good.le (σ' := ⟨22, [(2, .ptr 12 b2 0)], [(100, (w1, .osl 30 5 (y1.map encOVal))), (101, (w2, .osl 9 1 (y2.map encS))), (12, ((.pointer (some ⟨b2, 0, none⟩)), .optr 30 [.int .i64 a0.kind, .int .i64 a0.num, .str a0.text, .hd 100 w1, .hd 101 w2]))]⟩) (lw [some 3001, some 3002, some 12]) ?_
 refine good_ret ?_
 obtain rfl := Option.some.inj h
 exact endQ_ret (h' := [(100, (_, _)), (101, (_, _))]) [some 100, some 101] (.cell rfl rfl tsize30 tagg30 rfl rfl rfl (.nil)) ⟨⟨_, rfl, .refl _⟩, ⟨⟨_, rfl, .refl _⟩, trivial⟩⟩ (by decide) ⟨w1, w2, rfl, rfl⟩
theorem m_laws_toValueS_step (k : Nat) (ih : ∀ m, m < k → P_m_laws_toValue m ∧ P_m_laws_toValueS m) : P_m_laws_toValueS k := by
 intro a0 r h
 obtain ⟨k, rfl⟩ : ∃ k', k = k' + 1 := by cases k with | zero => (rw [m_laws_toValueS] at h; cases h) | succ k' => exact ⟨k', rfl⟩
 rw [m_laws_toValueS] at h
 refine does_of_good tabOk Try.func47 rfl (by decide +kernel) (Nat.le_of_ble_eq_true rfl) fun c => ?_
 refine Good.le (σ' := ⟨23, [(0, .sl false (a0.map encLVal))], []⟩) (Le.refl _) ?_
 refine good_seq fun K1 hK1 => ?_
 refine rg 1 ?_
 refine g_nil (hK1 _ ?_)
 refine good_seq fun K2 hK2 => ?_
 refine rg 1 ?_
 refine g_op rfl (ValOk.op (v_lenM (l := a0) (f := encLVal) tabOk rfl rfl telem22 rfl ?_))
 obtain ⟨hb1, h⟩ := ifS h
 obtain ⟨hb2, h⟩ := ifS h
 refine g_op rfl (OpOk.le (o_makeM (k := 17) (zz := ((Val.mk 0 0 ([] : Bs) [] []))) (f := fun _ : Val => ([.int .i64 0, .int .i64 0, .str ([] : Bs), .nil, .nil] : List AV)) tabOk telem28 tsize30 tbytes30 tzero30 rfl rfl rfl (by decide) (WkL.refl _) rfl rfl hb1 hb2 ?_))
 intro w1
 refine ⟨_, le_nilsR (k := 17) (rows' := (List.replicate (Int.toNat (a0.length : Int)) (Val.mk 0 0 ([] : Bs) [] [])).map encOVal) (RowsTo.repl (by simp only [encOVal_eq]; exact .cons (.refl _) (.cons (.refl _) (.cons (.refl _) (.cons (.nil _ _) (.cons (.nil _ _) (.nil))))))), ?_⟩
 refine gs 1 ?_
 refine gk hK2 23 [0, 2, 3] [17] ?_
 refine good_seq fun K3 hK3 => ?_
 refine good_seq fun K4 hK4 => ?_
 refine rg 1 ?_
 refine g_nil (hK4 _ ?_)
 obtain ⟨o1, ho1, hJ1⟩ := bnd h
 have hw1 : ∀ (s1 : (List Val)), o1 = Lp.go s1 → ∀ σ', Le σ' ⟨23, [(2, .nil), (3, .hd 17 w1)], [(17, (w1, .osl 30 5 (s1.map encOVal)))]⟩ → K3 σ' := by
  intro s1 e1 σ' hle1
  subst e1
  refine hK3 _ (Good.le hle1 ?_)
  replace h := hJ1
  refine good_seq fun K5 hK5 => ?_
  refine rg 2 ?_
  refine gk hK5 23 [2] [17] ?_
  refine Good.le (σ' := ⟨23, [(2, .hd 100 w1)], [(100, (w1, .osl 30 5 (s1.map encOVal)))]⟩) (lw [some 17]) ?_
  refine good_ret ?_
  obtain rfl := Option.some.inj h
  exact endQ_ret (h' := [(100, (_, _))]) [some 100] (.tmp rfl (.nil)) ⟨⟨_, rfl, .refl _⟩, trivial⟩ (by decide) ⟨w1, rfl, rfl⟩
 replace h := ho1
 refine good_block ?_
 refine good_loopf (fun p : ((List Val) × Int) => ⟨23, [(0, .sl false (a0.map encLVal)), (2, .nil), (3, .hd 17 w1), (4, .int .i64 p.2)], [(17, (w1, .osl 30 5 (p.1.map encOVal)))]⟩) (fun m p => m < k + 1 ∧ m_laws_toValueS_l1 m a0 p.1 p.2 = some o1) k (List.replicate (Int.toNat (a0.length : Int)) (Val.mk 0 0 ([] : Bs) [] []), 0) (lw [some 17]) ⟨by omega, h⟩ ?_
 rintro m1 ⟨x1, x2⟩ ⟨hm, h⟩
 replace h : m_laws_toValueS_l1 m1 a0 x1 x2 = some o1 := h
 refine Good.le (σ' := ⟨23, [(0, .sl false (a0.map encLVal)), (2, .nil), (3, .hd 17 w1), (4, .int .i64 x2)], [(17, (w1, .osl 30 5 (x1.map encOVal)))]⟩) (Le.refl _) ?_
 obtain ⟨m1, rfl⟩ : ∃ m', m1 = m' + 1 := by cases m1 with | zero => (rw [m_laws_toValueS_l1] at h; cases h) | succ m' => exact ⟨m', rfl⟩
 rw [m_laws_toValueS_l1] at h
 refine good_seq fun K6 hK6 => ?_
 refine good_seq fun K7 hK7 => ?_
 refine rg 2 ?_
 refine g_op rfl (ValOk.op (v_lenM (l := a0) (f := encLVal) tabOk rfl rfl telem22 rfl ?_))
 refine gs 1 ?_
 refine gk hK7 23 [0, 2, 3, 4, 11] [17] ?_
 refine good_cond rfl (fun hc1 => ?_) (fun hc1 => ?_)
 ·replace h := ifT h (dT hc1)
  refine good_skip ?_
  refine hK6 _ (kp 23 [0, 2, 3, 4] [17] ?_)
  refine good_seq fun K8 hK8 => ?_
  refine good_block ?_
  refine rg 4 ?_
  obtain ⟨hb3, h⟩ := ifS h
  refine g_op rfl (ValOk.op (v_idxM tabOk rfl rfl telem22 tsize25 hb3 (encLVal_eq _) rfl rfl ?_))
  refine gs 1 ?_
  obtain ⟨y1, hy1, h⟩ := bnd h
  refine g_op rfl (o_callD [] [] [] (core_value rfl rfl) ((ih m1 (by omega)).1 (ix a0 x2) _ hy1) trivial (.cons (.refl _) (.nil)) trivial rfl rfl rfl ?_)
  rintro _ _ ⟨w2, w3, rfl, rfl⟩
  refine ⟨.agg [.int .i64 y1.kind, .int .i64 y1.num, .str y1.text, .hd 3001 w2, .hd 3002 w3], [(3001, _), (3002, _)], .agg (.cons (.refl _) (.cons (.refl _) (.cons (.refl _) (.cons (.hd _ _ _) (.cons (.hd _ _ _) (.nil)))))), rfl, rfl, rfl, rfl, .inl rfl, ?_⟩
  obtain ⟨hb4, h⟩ := ifS h
  refine g_op rfl (ValOk.op (v_idxHM (q := 17) tabOk ⟨_, rfl⟩ rfl rfl telem28 tsize30 hb4 rfl ?_))
  refine g_op rfl (OpOk.le (o_storeR (row' := [.int .i64 y1.kind, .int .i64 y1.num, .str y1.text, .hd 3001 w2, .hd 3002 w3]) tabOk rfl rfl tsize30 rfl ((get_map hb4.1 hb4.2).trans (congrArg some (encOVal_eq _))) rfl rfl (by decide) rfl rfl rfl ?_))
  refine ⟨_, (Le.trans (Le.trans (Le.trans (le_absorb1 (k := 17) (k2 := 3001) (rows' := (x1.map encOVal).set (Int.toNat x2) [.int .i64 y1.kind, .int .i64 y1.num, .str y1.text, .osl 30 5 (y1.list.map encOVal), .hd 3002 w3]) (Int.toNat x2) 3 _ rfl (by decide) (rows_set_get (by have := hb4; simp only [List.length_set, List.length_map]; omega)) rfl (rows_set_set)) (le_mm (rs := [17, 3001]) rfl)) (le_absorb1 (k := 17) (k2 := 3002) (rows' := (x1.set (Int.toNat x2) y1).map encOVal) (Int.toNat x2) 4 _ rfl (by decide) (rows_set_get (by have := hb4; simp only [List.length_set, List.length_map]; omega)) rfl (rows_set_done (f := encOVal) (z := y1) (encOVal_eq _)))) (le_mm (rs := [17, 3001, 3002]) rfl)), ?_⟩
  refine gk hK8 23 [0, 2, 3, 4] [17] ?_
  refine rg 3 ?_
  refine g_nil ?_
  exact round_mk m1 (x1.set (Int.toNat x2) y1, IntKind.wrap .i64 (x2 + 1)) (Nat.lt_succ_self _) ⟨by omega, h⟩ (lw [some 17])
 ·replace h := ifF h (dF hc1)
  refine good_exit ?_
  exact hw1 x1 (Option.some.inj h).symm _ (lw [some 17])
theorem m_laws_toValue_all (k : Nat) : P_m_laws_toValue k ∧ P_m_laws_toValueS k := by
 induction k using Nat.strongRecOn with
 | _ k ih => exact ⟨m_laws_toValue_step k ih, m_laws_toValueS_step k ih⟩
theorem m_laws_toValue_ok (k : Nat) : ∀ (a0 : Val) (r : Val), m_laws_toValue k a0 = some r → Does Try.prog 17 [.agg [.int .i64 a0.kind, .int .i64 a0.num, .str a0.text, .sl false (a0.list.map encLVal), .sl false (a0.names.map encS)]] [] (fun q h' => ∃ u0 : Value, ∃ u1 : Value, q = .agg [.int .i64 r.kind, .int .i64 r.num, .str r.text, .hd 100 u0, .hd 101 u1] ∧ h' = [(100, (u0, .osl 30 5 (r.list.map encOVal))), (101, (u1, .osl 9 1 (r.names.map encS)))]) := (m_laws_toValue_all k).1
theorem m_laws_toValueS_ok (k : Nat) : ∀ (a0 : (List Val)) (r : (List Val)), m_laws_toValueS k a0 = some r → Does Try.prog 47 [.sl false (a0.map encLVal)] [] (fun q h' => ∃ u0 : Value, q = .hd 100 u0 ∧ h' = [(100, (u0, .osl 30 5 (r.map encOVal)))]) := (m_laws_toValue_all k).2
theorem m_laws_toValue_okF (k : Nat) : ∀ (a0 : Val) (r : Val), m_laws_toValue k a0 = some r → Does Try.prog 17 [.agg [.int .i64 a0.kind, .int .i64 a0.num, .str a0.text, .sl false (a0.list.map encLVal), .sl false (a0.names.map encS)]] [] (ret (.agg [.int .i64 r.kind, .int .i64 r.num, .str r.text, .sl true (r.list.map encVal), .sl false (r.names.map encS)])) := by
 intro a0 r h
 refine does_frz (m_laws_toValue_ok k a0 r h) ?_
 rintro q h' ⟨u0, u1, rfl, rfl⟩
 exact ⟨[100, 101], [(_, _), (_, _)], ⟨⟨_, rfl, .osl (FrzLL.map fun _ _ => encOVal_frz _)⟩, ⟨⟨_, rfl, .osl (FrzLL.map fun _ _ => encS_frz _)⟩, trivial⟩⟩, .agg (.cons (.refl _) (.cons (.refl _) (.cons (.refl _) (.cons (.frz _ _ _ (.head _)) (.cons (.frz _ _ _ (.tail _ (.head _))) (.nil))))))⟩
theorem m_laws_toValueS_okF (k : Nat) : ∀ (a0 : (List Val)) (r : (List Val)), m_laws_toValueS k a0 = some r → Does Try.prog 47 [.sl false (a0.map encLVal)] [] (ret (.sl true (r.map encVal))) := by
 intro a0 r h
 refine does_frz (m_laws_toValueS_ok k a0 r h) ?_
 rintro q h' ⟨u0, rfl, rfl⟩
 exact ⟨[100], [(_, _)], ⟨⟨_, rfl, .osl (FrzLL.map fun _ _ => encOVal_frz _)⟩, trivial⟩, .frz _ _ _ (.head _)⟩
def m_laws_eqStringS_l1 : Nat → (List Bs) → (List Bs) → Int → Option (Lp Unit Bool)
 | 0, _, _, _ => none
 | k + 1, a0, a1, x1 =>
  if x1 < (a0.length : Int) then
   if (0 : Int) ≤ x1 ∧ x1 < (a0.length : Int) then
    if (0 : Int) ≤ x1 ∧ x1 < (a1.length : Int) then
     if (ix a0 x1) = (ix a1 x1) then
      m_laws_eqStringS_l1 k a0 a1 (IntKind.wrap .i64 (x1 + 1))
     else
      (some false).bind fun z =>
      some (Lp.ret z)
    else none
   else none
  else
   some (Lp.go ())
def m_laws_eqStringS (k : Nat) (a0 : (List Bs)) (a1 : (List Bs)) : Option Bool :=
 if (a0.length : Int) = (a1.length : Int) then
  (m_laws_eqStringS_l1 k a0 a1 0).bind fun o1 =>
  o1.then fun s1 =>
  some true
 else
  some false
theorem m_laws_eqStringS_ok (k : Nat) : ∀ (a0 : (List Bs)) (a1 : (List Bs)) (r : Bool), m_laws_eqStringS k a0 a1 = some r → Does Try.prog 52 [.sl false (a0.map encS), .sl false (a1.map encS)] [] (ret (.bool r)) := by
 intro a0 a1 r h
 rw [m_laws_eqStringS] at h
 refine does_of_good tabOk Try.func52 rfl (by decide +kernel) (Nat.le_of_ble_eq_true rfl) fun c => ?_
 refine Good.le (σ' := ⟨26, [(0, .sl false (a0.map encS)), (1, .sl false (a1.map encS))], []⟩) (Le.refl _) ?_
 refine good_seq fun K1 hK1 => ?_
 refine rg 1 ?_
 refine g_nil (hK1 _ ?_)
 refine good_seq fun K2 hK2 => ?_
 refine good_seq fun K3 hK3 => ?_
 refine rg 1 ?_
 refine g_op rfl (ValOk.op (v_lenM (l := a0) (f := encS) tabOk rfl rfl telem23 rfl ?_))
 refine gs 1 ?_
 refine g_op rfl (ValOk.op (v_lenM (l := a1) (f := encS) tabOk rfl rfl telem23 rfl ?_))
 refine gs 1 ?_
 refine gk hK3 26 [0, 1, 4, 10] [] ?_
 refine good_cond rfl (fun hc1 => ?_) (fun hc1 => ?_)
 ·replace h := ifF h (ndT hc1)
  refine good_seq fun K4 hK4 => ?_
  refine rg 1 ?_
  refine gk hK4 26 [0, 1, 4] [] ?_
  obtain rfl := Option.some.inj h
  exact rt
 ·replace h := ifT h (ndF hc1)
  refine good_skip ?_
  refine hK2 _ (kp 26 [0, 1, 4] [] ?_)
  refine good_seq fun K5 hK5 => ?_
  refine good_seq fun K6 hK6 => ?_
  refine rg 1 ?_
  refine g_nil (hK6 _ ?_)
  obtain ⟨o1, ho1, hJ1⟩ := bnd h
  have hw1 : ∀ (s1 : Unit), o1 = Lp.go s1 → ∀ σ', Le σ' ⟨26, [(4, .bool false)], []⟩ → K5 σ' := by
   intro s1 e1 σ' hle1
   subst e1
   refine hK5 _ (Good.le hle1 ?_)
   replace h := hJ1
   refine good_seq fun K7 hK7 => ?_
   refine rg 1 ?_
   refine g_nil (hK7 _ ?_)
   obtain rfl := Option.some.inj h
   exact rt
  replace h := ho1
  refine good_block ?_
  refine good_loopf (fun p : Int => ⟨26, [(0, .sl false (a0.map encS)), (1, .sl false (a1.map encS)), (4, .bool false), (5, .int .i64 p)], []⟩) (fun m p => m_laws_eqStringS_l1 m a0 a1 p = some o1) k (0) (lw []) h ?_
  rintro m1 x1 h
  replace h : m_laws_eqStringS_l1 m1 a0 a1 x1 = some o1 := h
  refine Good.le (σ' := ⟨26, [(0, .sl false (a0.map encS)), (1, .sl false (a1.map encS)), (4, .bool false), (5, .int .i64 x1)], []⟩) (Le.refl _) ?_
  obtain ⟨m1, rfl⟩ : ∃ m', m1 = m' + 1 := by cases m1 with | zero => (rw [m_laws_eqStringS_l1] at h; cases h) | succ m' => exact ⟨m', rfl⟩
  rw [m_laws_eqStringS_l1] at h
  refine good_seq fun K8 hK8 => ?_
  refine good_seq fun K9 hK9 => ?_
  refine rg 2 ?_
  refine g_op rfl (ValOk.op (v_lenM (l := a0) (f := encS) tabOk rfl rfl telem23 rfl ?_))
  refine gs 1 ?_
  refine gk hK9 26 [0, 1, 4, 5, 14] [] ?_
  refine good_cond rfl (fun hc2 => ?_) (fun hc2 => ?_)
  ·replace h := ifT h (dT hc2)
   refine good_skip ?_
   refine hK8 _ (kp 26 [0, 1, 4, 5] [] ?_)
   refine good_seq fun K10 hK10 => ?_
   refine good_block ?_
   refine good_seq fun K11 hK11 => ?_
   refine good_draw (by kernel_rfl) (by kernel_rfl) ?_
   refine q_op rfl (v_move rfl rfl ?_)
   refine q_op rfl (v_move rfl rfl ?_)
   obtain ⟨hb1, h⟩ := ifS h
   refine q_op rfl (v_idxM tabOk rfl rfl telem23 tsize9 hb1 rfl rfl rfl ?_)
   refine q_op rfl (v_loadE tabOk rfl tsize9 tagg9 rfl rfl rfl ?_)
   refine q_op rfl (v_move rfl rfl ?_)
   refine q_op rfl (v_move rfl rfl ?_)
   obtain ⟨hb2, h⟩ := ifS h
   refine q_op rfl (v_idxM tabOk rfl rfl telem23 tsize9 hb2 rfl rfl rfl ?_)
   refine q_op rfl (v_loadE tabOk rfl tsize9 tagg9 rfl rfl rfl ?_)
   refine q_op rfl (v_bin rfl rfl rfl rfl ?_)
   refine q_nil ?_
   refine hK11 _ (kp 26 [0, 1, 4, 5, 25] [] ?_)
   refine good_cond rfl (fun hc3 => ?_) (fun hc3 => ?_)
   ·replace h := ifF h (ndT hc3)
    refine good_seq fun K12 hK12 => ?_
    refine rg 1 ?_
    refine gk hK12 26 [0, 1, 4, 5] [] ?_
    replace h := unret h hJ1
    obtain rfl := Option.some.inj h
    exact rt
   ·replace h := ifT h (ndF hc3)
    refine good_skip ?_
    refine hK10 _ (kp 26 [0, 1, 4, 5] [] ?_)
    refine rg 3 ?_
    refine g_nil ?_
    exact round_mk m1 (IntKind.wrap .i64 (x1 + 1)) (Nat.lt_succ_self _) h (lw [])
  ·replace h := ifF h (dF hc2)
   refine good_exit ?_
   exact hw1 () (Option.some.inj h).symm _ (lw [])
mutual
def m_laws_eqValue : Nat → Val → Val → Option Bool
 | 0, _, _ => none
 | k + 1, a0, a1 =>
  if a0.kind = a1.kind then
   if a0.num = a1.num then
    if a0.text = a1.text then
     (m_laws_eqValueS k a0.list a1.list).bind fun y1 =>
     if y1 = true then
      (m_laws_eqStringS k a0.names a1.names).bind fun y2 =>
      if y2 = true then
       some true
      else
       some false
     else
      some false
    else
     some false
   else
    some false
  else
   some false
def m_laws_eqValueS_l1 : Nat → (List Val) → (List Val) → Int → Option (Lp Unit Bool)
 | 0, _, _, _ => none
 | k + 1, a0, a1, x1 =>
  if x1 < (a0.length : Int) then
   if (0 : Int) ≤ x1 ∧ x1 < (a0.length : Int) then
    if (0 : Int) ≤ x1 ∧ x1 < (a1.length : Int) then
     (m_laws_eqValue k (ix a0 x1) (ix a1 x1)).bind fun y1 =>
     if y1 = true then
      m_laws_eqValueS_l1 k a0 a1 (IntKind.wrap .i64 (x1 + 1))
     else
      (some false).bind fun z =>
      some (Lp.ret z)
    else none
   else none
  else
   some (Lp.go ())
def m_laws_eqValueS : Nat → (List Val) → (List Val) → Option Bool
 | 0, _, _ => none
 | k + 1, a0, a1 =>
  if (a0.length : Int) = (a1.length : Int) then
   (m_laws_eqValueS_l1 k a0 a1 0).bind fun o1 =>
   o1.then fun s1 =>
  some true
  else
   some false
end
def P_m_laws_eqValue (k : Nat) : Prop := ∀ (a0 : Val) (a1 : Val) (r : Bool), m_laws_eqValue k a0 a1 = some r → Does Try.prog 19 [.agg [.int .i64 a0.kind, .int .i64 a0.num, .str a0.text, .sl true (a0.list.map encVal), .sl false (a0.names.map encS)], .agg [.int .i64 a1.kind, .int .i64 a1.num, .str a1.text, .sl true (a1.list.map encVal), .sl false (a1.names.map encS)]] [] (ret (.bool r))
def P_m_laws_eqValueS (k : Nat) : Prop := ∀ (a0 : (List Val)) (a1 : (List Val)) (r : Bool), m_laws_eqValueS k a0 a1 = some r → Does Try.prog 51 [.sl true (a0.map encVal), .sl true (a1.map encVal)] [] (ret (.bool r))
theorem m_laws_eqValue_step (k : Nat) (ih : ∀ m, m < k → P_m_laws_eqValue m ∧ P_m_laws_eqValueS m) : P_m_laws_eqValue k := by
 intro a0 a1 r h
 obtain ⟨k, rfl⟩ : ∃ k', k = k' + 1 := by cases k with | zero => (rw [m_laws_eqValue] at h; cases h) | succ k' => exact ⟨k', rfl⟩
 rw [m_laws_eqValue] at h
 refine does_of_good tabOk Try.func19 rfl (by decide +kernel) (Nat.le_of_ble_eq_true rfl) fun c => ?_
 refine Good.le (σ' := ⟨32, [(0, .agg [.int .i64 a0.kind, .int .i64 a0.num, .str a0.text, .sl true (a0.list.map encVal), .sl false (a0.names.map encS)]), (1, .agg [.int .i64 a1.kind, .int .i64 a1.num, .str a1.text, .sl true (a1.list.map encVal), .sl false (a1.names.map encS)])], []⟩) (Le.refl _) ?_
 refine good_seq fun K1 hK1 => ?_
 refine good_region ?_
 refine g_op rfl (o_box (k := 12) tabOk rfl rfl rfl rfl rfl ?_)
 intro b1
 refine g_op rfl (o_box (k := 13) tabOk rfl rfl rfl rfl rfl ?_)
 intro b2
 refine gs 1 ?_
 refine gk hK1 32 [2, 3, 4] [12, 13] ?_
 refine good_seq fun K2 hK2 => ?_
 refine good_seq fun K3 hK3 => ?_
 refine rg 5 ?_
 refine gk hK3 32 [2, 3, 4, 9] [12, 13] ?_
 refine good_cond rfl (fun hc1 => ?_) (fun hc1 => ?_)
 ·replace h := ifF h (ndT hc1)
  refine good_seq fun K4 hK4 => ?_
  refine rg 1 ?_
  refine gk hK4 32 [2, 3, 4] [12, 13] ?_
  obtain rfl := Option.some.inj h
  exact rt
 ·replace h := ifT h (ndF hc1)
  refine good_skip ?_
  refine hK2 _ (kp 32 [2, 3, 4] [12, 13] ?_)
  refine good_seq fun K5 hK5 => ?_
  refine good_seq fun K6 hK6 => ?_
  refine rg 5 ?_
  refine gk hK6 32 [2, 3, 4, 14] [12, 13] ?_
  refine good_cond rfl (fun hc2 => ?_) (fun hc2 => ?_)
  ·replace h := ifF h (ndT hc2)
   refine good_seq fun K7 hK7 => ?_
   refine rg 1 ?_
   refine gk hK7 32 [2, 3, 4] [12, 13] ?_
   obtain rfl := Option.some.inj h
   exact rt
  ·replace h := ifT h (ndF hc2)
   refine good_skip ?_
   refine hK5 _ (kp 32 [2, 3, 4] [12, 13] ?_)
   refine good_seq fun K8 hK8 => ?_
   refine good_seq fun K9 hK9 => ?_
   refine rg 5 ?_
   refine gk hK9 32 [2, 3, 4, 19] [12, 13] ?_
   refine good_cond rfl (fun hc3 => ?_) (fun hc3 => ?_)
   ·replace h := ifF h (ndT hc3)
    refine good_seq fun K10 hK10 => ?_
    refine rg 1 ?_
    refine gk hK10 32 [2, 3, 4] [12, 13] ?_
    obtain rfl := Option.some.inj h
    exact rt
   ·replace h := ifT h (ndF hc3)
    refine good_skip ?_
    refine hK8 _ (kp 32 [2, 3, 4] [12, 13] ?_)
    refine good_seq fun K11 hK11 => ?_
    refine good_seq fun K12 hK12 => ?_
    refine rg 4 ?_
    obtain ⟨y1, hy1, h⟩ := bnd h
    refine g_op rfl (o_callR [] [] (core_value rfl rfl) ((ih k (by omega)).2 a0.list a1.list _ hy1) trivial (.cons (.refl _) (.cons (.refl _) (.nil))) (.inl rfl) rfl ?_)
    refine gs 1 ?_
    refine gk hK12 32 [2, 3, 4, 25] [12, 13] ?_
    refine good_cond rfl (fun hc4 => ?_) (fun hc4 => ?_)
    ·replace h := bF h (nT hc4)
     refine good_seq fun K13 hK13 => ?_
     refine rg 1 ?_
     refine gk hK13 32 [2, 3, 4] [12, 13] ?_
     obtain rfl := Option.some.inj h
     exact rt
    ·replace h := ifT h (nF hc4)
     refine good_skip ?_
     refine hK11 _ (kp 32 [2, 3, 4] [12, 13] ?_)
     refine good_seq fun K14 hK14 => ?_
     refine good_seq fun K15 hK15 => ?_
     refine rg 4 ?_
     obtain ⟨y2, hy2, h⟩ := bnd h
     refine g_op rfl (o_callR [] [] (core_value rfl rfl) (m_laws_eqStringS_ok k a0.names a1.names _ hy2) trivial (.cons (.refl _) (.cons (.refl _) (.nil))) (.inl rfl) rfl ?_)
     refine gs 1 ?_
     refine gk hK15 32 [4, 31] [] ?_
     refine good_cond rfl (fun hc5 => ?_) (fun hc5 => ?_)
     ·replace h := bF h (nT hc5)
      refine good_seq fun K16 hK16 => ?_
      refine rg 1 ?_
      refine gk hK16 32 [4] [] ?_
      obtain rfl := Option.some.inj h
      exact rt
     ·replace h := ifT h (nF hc5)
      refine good_skip ?_
      refine hK14 _ (kp 32 [4] [] ?_)
      refine good_seq fun K17 hK17 => ?_
      refine rg 1 ?_
      refine g_nil (hK17 _ ?_)
      obtain rfl := Option.some.inj h
      exact rt
theorem m_laws_eqValueS_step (k : Nat) (ih : ∀ m, m < k → P_m_laws_eqValue m ∧ P_m_laws_eqValueS m) : P_m_laws_eqValueS k := by
 intro a0 a1 r h
 obtain ⟨k, rfl⟩ : ∃ k', k = k' + 1 := by cases k with | zero => (rw [m_laws_eqValueS] at h; cases h) | succ k' => exact ⟨k', rfl⟩
 rw [m_laws_eqValueS] at h
 refine does_of_good tabOk Try.func51 rfl (by decide +kernel) (Nat.le_of_ble_eq_true rfl) fun c => ?_
 refine Good.le (σ' := ⟨27, [(0, .sl true (a0.map encVal)), (1, .sl true (a1.map encVal))], []⟩) (Le.refl _) ?_
 refine good_seq fun K1 hK1 => ?_
 refine rg 1 ?_
 refine g_nil (hK1 _ ?_)
 refine good_seq fun K2 hK2 => ?_
 refine good_seq fun K3 hK3 => ?_
 refine rg 1 ?_
 refine g_op rfl (ValOk.op (v_lenM (l := a0) (f := encVal) tabOk rfl rfl telem28 rfl ?_))
 refine gs 1 ?_
 refine g_op rfl (ValOk.op (v_lenM (l := a1) (f := encVal) tabOk rfl rfl telem28 rfl ?_))
 refine gs 1 ?_
 refine gk hK3 27 [0, 1, 4, 10] [] ?_
 refine good_cond rfl (fun hc1 => ?_) (fun hc1 => ?_)
 ·replace h := ifF h (ndT hc1)
  refine good_seq fun K4 hK4 => ?_
  refine rg 1 ?_
  refine gk hK4 27 [0, 1, 4] [] ?_
  obtain rfl := Option.some.inj h
  exact rt
 ·replace h := ifT h (ndF hc1)
  refine good_skip ?_
  refine hK2 _ (kp 27 [0, 1, 4] [] ?_)
  refine good_seq fun K5 hK5 => ?_
  refine good_seq fun K6 hK6 => ?_
  refine rg 1 ?_
  refine g_nil (hK6 _ ?_)
  obtain ⟨o1, ho1, hJ1⟩ := bnd h
  have hw1 : ∀ (s1 : Unit), o1 = Lp.go s1 → ∀ σ', Le σ' ⟨27, [(4, .bool false)], []⟩ → K5 σ' := by
   intro s1 e1 σ' hle1
   subst e1
   refine hK5 _ (Good.le hle1 ?_)
   replace h := hJ1
   refine good_seq fun K7 hK7 => ?_
   refine rg 1 ?_
   refine g_nil (hK7 _ ?_)
   obtain rfl := Option.some.inj h
   exact rt
  replace h := ho1
  refine good_block ?_
  refine good_loopf (fun p : Int => ⟨27, [(0, .sl true (a0.map encVal)), (1, .sl true (a1.map encVal)), (4, .bool false), (5, .int .i64 p)], []⟩) (fun m p => m < k + 1 ∧ m_laws_eqValueS_l1 m a0 a1 p = some o1) k (0) (lw []) ⟨by omega, h⟩ ?_
  rintro m1 x1 ⟨hm, h⟩
  replace h : m_laws_eqValueS_l1 m1 a0 a1 x1 = some o1 := h
  refine Good.le (σ' := ⟨27, [(0, .sl true (a0.map encVal)), (1, .sl true (a1.map encVal)), (4, .bool false), (5, .int .i64 x1)], []⟩) (Le.refl _) ?_
  obtain ⟨m1, rfl⟩ : ∃ m', m1 = m' + 1 := by cases m1 with | zero => (rw [m_laws_eqValueS_l1] at h; cases h) | succ m' => exact ⟨m', rfl⟩
  rw [m_laws_eqValueS_l1] at h
  refine good_seq fun K8 hK8 => ?_
  refine good_seq fun K9 hK9 => ?_
  refine rg 2 ?_
  refine g_op rfl (ValOk.op (v_lenM (l := a0) (f := encVal) tabOk rfl rfl telem28 rfl ?_))
  refine gs 1 ?_
  refine gk hK9 27 [0, 1, 4, 5, 14] [] ?_
  refine good_cond rfl (fun hc2 => ?_) (fun hc2 => ?_)
  ·replace h := ifT h (dT hc2)
   refine good_skip ?_
   refine hK8 _ (kp 27 [0, 1, 4, 5] [] ?_)
   refine good_seq fun K10 hK10 => ?_
   refine good_block ?_
   refine good_seq fun K11 hK11 => ?_
   refine good_draw (by kernel_rfl) (by kernel_rfl) ?_
   refine q_op rfl (v_move rfl rfl ?_)
   refine q_op rfl (v_move rfl rfl ?_)
   obtain ⟨hb1, h⟩ := ifS h
   refine q_op rfl (v_idxM tabOk rfl rfl telem28 tsize30 hb1 (encVal_eq _) rfl rfl ?_)
   refine q_op rfl (v_loadE tabOk rfl tsize30 tagg30 rfl rfl rfl ?_)
   refine q_op rfl (v_move rfl rfl ?_)
   refine q_op rfl (v_move rfl rfl ?_)
   obtain ⟨hb2, h⟩ := ifS h
   refine q_op rfl (v_idxM tabOk rfl rfl telem28 tsize30 hb2 (encVal_eq _) rfl rfl ?_)
   refine q_op rfl (v_loadE tabOk rfl tsize30 tagg30 rfl rfl rfl ?_)
   obtain ⟨y1, hy1, h⟩ := bnd h
   refine q_call [] [] (fun _ _ _ _ _ => wanted_none rfl _) (core_value rfl rfl) ((ih m1 (by omega)).1 (ix a0 x1) (ix a1 x1) _ hy1) trivial (.cons (.refl _) (.cons (.refl _) (.nil))) (.bool _) rfl ?_
   refine q_op rfl (v_not rfl rfl ?_)
   refine q_nil ?_
   refine hK11 _ (kp 27 [0, 1, 4, 5, 26] [] ?_)
   refine good_cond rfl (fun hc3 => ?_) (fun hc3 => ?_)
   ·replace h := bF h (nT hc3)
    refine good_seq fun K12 hK12 => ?_
    refine rg 1 ?_
    refine gk hK12 27 [0, 1, 4, 5] [] ?_
    replace h := unret h hJ1
    obtain rfl := Option.some.inj h
    exact rt
   ·replace h := ifT h (nF hc3)
    refine good_skip ?_
    refine hK10 _ (kp 27 [0, 1, 4, 5] [] ?_)
    refine rg 3 ?_
    refine g_nil ?_
    exact round_mk m1 (IntKind.wrap .i64 (x1 + 1)) (Nat.lt_succ_self _) ⟨by omega, h⟩ (lw [])
  ·replace h := ifF h (dF hc2)
   refine good_exit ?_
   exact hw1 () (Option.some.inj h).symm _ (lw [])
theorem m_laws_eqValue_all (k : Nat) : P_m_laws_eqValue k ∧ P_m_laws_eqValueS k := by
 induction k using Nat.strongRecOn with
 | _ k ih => exact ⟨m_laws_eqValue_step k ih, m_laws_eqValueS_step k ih⟩
theorem m_laws_eqValue_ok (k : Nat) : ∀ (a0 : Val) (a1 : Val) (r : Bool), m_laws_eqValue k a0 a1 = some r → Does Try.prog 19 [.agg [.int .i64 a0.kind, .int .i64 a0.num, .str a0.text, .sl true (a0.list.map encVal), .sl false (a0.names.map encS)], .agg [.int .i64 a1.kind, .int .i64 a1.num, .str a1.text, .sl true (a1.list.map encVal), .sl false (a1.names.map encS)]] [] (ret (.bool r)) := (m_laws_eqValue_all k).1
theorem m_laws_eqValueS_ok (k : Nat) : ∀ (a0 : (List Val)) (a1 : (List Val)) (r : Bool), m_laws_eqValueS k a0 a1 = some r → Does Try.prog 51 [.sl true (a0.map encVal), .sl true (a1.map encVal)] [] (ret (.bool r)) := (m_laws_eqValue_all k).2
end Go.Proofs.Ytiaigcdckmpepaa
end
end
section
/-! Size, copies, sameness. -/
set_option linter.unusedVariables false
set_option linter.unusedSimpArgs false
namespace Go.Proofs.Ytiaigcdckmpepaa
open Go.Bb

theorem set_take {α : Type} (l : List α) (z : α) (j : Nat) (hj : j < l.length) (x : α) (hx : x = l[j]) : (l.take j ++ List.replicate (l.length - j) z).set j x = l.take (j + 1) ++ List.replicate (l.length - (j + 1)) z := by
  subst hx
  have e : l.length - j = (l.length - (j + 1)) + 1 := by omega
  rw [e, List.replicate_succ, List.set_append]
  have h1 : (l.take j).length = j := by simp; omega
  rw [h1, if_neg (by omega), Nat.sub_self, List.set_cons_zero, List.take_add_one, List.getElem?_eq_getElem hj, Option.toList_some, List.append_assoc]
  rfl

theorem ev_copy {α β : Type} {L : Nat → List α → Int → Option (Lp (List α) β)} (l : List α) (z : α) (hs : ∀ (i : Nat) (x : List α) r, (h : i < l.length) → x.length = l.length → Ev (fun k => L k (x.set i l[i]) ((i : Int) + 1)) r → Ev (fun k => L k x i) r) (he : ∀ x, Ev (fun k => L k x l.length) (.go x)) :
    Ev (fun k => L k (List.replicate l.length z) 0) (.go l) := by
  have := ev_fold (L := L) (n := l.length) (fun j => l.take j ++ List.replicate (l.length - j) z) (fun i r hi h => hs i _ r hi (by simp; omega) (by rw [set_take l z i hi _ rfl]; exact h)) (he _) l.length 0 (by omega)
  simpa using this

theorem ev_toStringS (l : List Bs) (hl : l.length ≤ 1048576) : Ev (fun k => m_laws_toStringS k l) l := by
  simp only [m_laws_toStringS]
  refine ev_ifT (by omega) (ev_ifT (by omega) ?_)
  refine Ev.go (s := l) ?_ (ev_some _)
  have := ev_copy (L := fun k x i => m_laws_toStringS_l1 k l x i) l ([] : Bs) (fun i x r hi hx h => by
    rw [ev_shift]; simp only [m_laws_toStringS_l1]
    refine ev_ifT (by omega) (ev_ifT (by omega) (ev_ifT (by omega) ?_))
    rw [wrap_id (by omega), ix_nat hi]
    exact h) (fun x => by
    rw [ev_shift]; simp only [m_laws_toStringS_l1]
    exact ev_ifF (by omega) (ev_some _))
  simpa using this

theorem ev_toValueS (l : List Val) (hl : l.length ≤ 1048576) (ih : ∀ x ∈ l, Ev (fun k => m_laws_toValue k x) x) : Ev (fun k => m_laws_toValueS k l) l := by
  rw [ev_shift]; simp only [m_laws_toValueS]
  refine ev_ifT (by omega) (ev_ifT (by omega) ?_)
  refine Ev.go (s := l) ?_ (ev_some _)
  have := ev_copy (L := fun k x i => m_laws_toValueS_l1 k l x i) l (Val.mk 0 0 ([] : Bs) [] []) (fun i x r hi hx h => by
    rw [ev_shift]; simp only [m_laws_toValueS_l1]
    refine ev_ifT (by omega) (ev_ifT (by omega) ?_)
    rw [ix_nat hi]
    refine Ev.bind (ih _ (List.getElem_mem hi)) (ev_ifT (by omega) ?_)
    rw [wrap_id (by omega)]
    exact h) (fun x => by
    rw [ev_shift]; simp only [m_laws_toValueS_l1]
    exact ev_ifF (by omega) (ev_some _))
  simpa using this

theorem ev_toValue : ∀ v : Val, Bd 1048576 v → Ev (fun k => m_laws_toValue k v) v := by
  apply Val.ind
  intro v ih h
  rw [ev_shift]; simp only [m_laws_toValue]
  refine Ev.bind (ev_toValueS _ h.list fun x hx => ih x hx (h.within x hx)) (Ev.bind (ev_toStringS _ h.names) (ev_eq (ev_some _) ?_))
  simp

theorem ev_eqStringS (a : List Bs) (ha : a.length ≤ 1048576) : Ev (fun k => m_laws_eqStringS k a a) true := by
  simp only [m_laws_eqStringS]
  refine ev_ifT trivial (Ev.go (s := ()) ?_ (ev_some _))
  have := ev_all_go (L := fun k i => m_laws_eqStringS_l1 k a a i) (n := a.length) (g := fun _ => true) (fun i r hi hg h => by
    rw [ev_shift]; simp only [m_laws_eqStringS_l1]
    refine ev_ifT (by omega) (ev_ifT (by omega) (ev_ifT (by omega) (ev_ifT trivial ?_)))
    rw [wrap_id (by omega)]; exact h) (by
    rw [ev_shift]; simp only [m_laws_eqStringS_l1]
    exact ev_ifF (by omega) (ev_some _)) a.length 0 (by omega) (fun _ _ _ => rfl)
  simpa using this

theorem ev_eqValueS (a : List Val) (ha : a.length ≤ 1048576) (ih : ∀ x ∈ a, Ev (fun k => m_laws_eqValue k x x) true) : Ev (fun k => m_laws_eqValueS k a a) true := by
  rw [ev_shift]; simp only [m_laws_eqValueS]
  refine ev_ifT trivial (Ev.go (s := ()) ?_ (ev_some _))
  have := ev_all_go (L := fun k i => m_laws_eqValueS_l1 k a a i) (n := a.length) (g := fun _ => true) (fun i r hi hg h => by
    rw [ev_shift]; simp only [m_laws_eqValueS_l1]
    refine ev_ifT (by omega) (ev_ifT (by omega) (ev_ifT (by omega) ?_))
    rw [ix_nat hi]
    refine Ev.bind (ih _ (List.getElem_mem hi)) (ev_ifT rfl ?_)
    rw [wrap_id (by omega)]; exact h) (by
    rw [ev_shift]; simp only [m_laws_eqValueS_l1]
    exact ev_ifF (by omega) (ev_some _)) a.length 0 (by omega) (fun _ _ _ => rfl)
  simpa using this

theorem ev_eqValue : ∀ a : Val, Bd 1048576 a → Ev (fun k => m_laws_eqValue k a a) true := by
  apply Val.ind
  intro a ih h
  rw [ev_shift]; simp only [m_laws_eqValue]
  refine ev_ifT trivial (ev_ifT trivial (ev_ifT trivial (Ev.bind (ev_eqValueS _ h.list fun x hx => ih x hx (h.within x hx)) (ev_ifT rfl (Ev.bind (ev_eqStringS _ h.names) (ev_ifT rfl (ev_some _)))))))

/-- What is left of a size: none, or all is within it. -/
theorem ev_szStringS (l : List Bs) (n : Int) (hn : 0 ≤ n) (hn2 : n ≤ 1048576) (hl : l.length ≤ maxLen) (hs : ∀ s ∈ l, s.length ≤ maxLen) : ∃ y, Ev (fun k => m_laws_szStringS k l n) y ∧ (y < 0 ∨ (0 ≤ y ∧ y ≤ n ∧ (l.length : Int) ≤ n ∧ ∀ s ∈ l, (s.length : Int) ≤ n)) := by
  simp only [m_laws_szStringS]
  have hm : maxLen = 9223372036854775807 := rfl
  rw [wrap_id (by omega)]
  by_cases h0 : n - (l.length : Int) < 0
  · exact ⟨-1, ev_ifT h0 (ev_some _), .inl (by omega)⟩
  · have loop : ∀ (d j : Nat) (x : Int), j + d = l.length → 0 ≤ x → x ≤ n → ∃ o, Ev (fun k => m_laws_szStringS_l1 k l x j) o ∧ (o = .ret (-1) ∨ ∃ y, o = .go y ∧ 0 ≤ y ∧ y ≤ x ∧ ∀ (i : Nat) (h : i < l.length), j ≤ i → (l[i].length : Int) ≤ x) := by
      intro d
      induction d with
      | zero =>
        intro j x hj hx hxn
        refine ⟨.go x, ?_, .inr ⟨x, rfl, hx, Int.le_refl _, fun i hi hji => by omega⟩⟩
        rw [ev_shift]; simp only [m_laws_szStringS_l1]
        exact ev_ifF (by omega) (ev_some _)
      | succ d ih =>
        intro j x hj hx hxn
        have hjl : j < l.length := by omega
        have hlen := hs _ (List.getElem_mem hjl)
        have hw : IntKind.wrap .i64 (x - ((ix l (j : Int)).length : Int)) = x - (l[j].length : Int) := by
          rw [ix_nat hjl]; exact wrap_id (by omega)
        by_cases h1 : x - (l[j].length : Int) < 0
        · refine ⟨.ret (-1), ?_, .inl rfl⟩
          rw [ev_shift]; simp only [m_laws_szStringS_l1]
          rw [hw]
          exact ev_ifT (by omega) (ev_ifT (by omega) (ev_ifT h1 (ev_some _)))
        · obtain ⟨o, h2, h3⟩ := ih (j + 1) (x - (l[j].length : Int)) (by omega) (by omega) (by omega)
          refine ⟨o, ?_, ?_⟩
          · rw [ev_shift]; simp only [m_laws_szStringS_l1]
            rw [hw, wrap_id (n := (j : Int) + 1) (by omega)]
            exact ev_ifT (by omega) (ev_ifT (by omega) (ev_ifF h1 (by simpa using h2)))
          · rcases h3 with h3 | ⟨y, h3, h4, h5, h6⟩
            · exact .inl h3
            · refine .inr ⟨y, h3, h4, by omega, fun i hi hji => ?_⟩
              rcases Nat.eq_or_lt_of_le hji with rfl | hji
              · omega
              · have := h6 i hi hji; omega
    obtain ⟨o, h1, h2⟩ := loop l.length 0 (n - l.length) (by omega) (by omega) (by omega)
    rcases h2 with rfl | ⟨y, rfl, h3, h4, h5⟩
    · exact ⟨-1, ev_ifF h0 (Ev.ret (by simpa using h1)), .inl (by omega)⟩
    · refine ⟨y, ev_ifF h0 (Ev.go (by simpa using h1) (ev_some _)), .inr ⟨h3, by omega, by omega, fun s hs => ?_⟩⟩
      obtain ⟨i, hi, rfl⟩ := List.mem_iff_getElem.1 hs
      have := h5 i hi (by omega)
      omega

theorem ev_szValueS (l : List Val) (n : Int) (hn : 0 ≤ n) (hn2 : n ≤ 1048576) (hl : l.length ≤ maxLen) (ihv : ∀ v ∈ l, ∀ n : Int, 0 ≤ n → n ≤ 1048576 → ∃ y, Ev (fun k => m_laws_szValue k v n) y ∧ (y < 0 ∨ (0 ≤ y ∧ y ≤ n ∧ Bd 1048576 v))) : ∃ y, Ev (fun k => m_laws_szValueS k l n) y ∧ (y < 0 ∨ (0 ≤ y ∧ y ≤ n ∧ (l.length : Int) ≤ n ∧ ∀ v ∈ l, Bd 1048576 v)) := by
  have hm : maxLen = 9223372036854775807 := rfl
  have hw0 : IntKind.wrap .i64 (n - (l.length : Int)) = n - (l.length : Int) := wrap_id (by omega)
  by_cases h0 : n - (l.length : Int) < 0
  · refine ⟨-1, ?_, .inl (by omega)⟩
    rw [ev_shift]; simp only [m_laws_szValueS]
    rw [hw0]
    exact ev_ifT h0 (ev_some _)
  · have loop : ∀ (d j : Nat) (x : Int), j + d = l.length → 0 ≤ x → x ≤ n → ∃ o, Ev (fun k => m_laws_szValueS_l1 k l x j) o ∧ (o = .ret (-1) ∨ ∃ y, o = .go y ∧ 0 ≤ y ∧ y ≤ x ∧ ∀ (i : Nat) (h : i < l.length), j ≤ i → Bd 1048576 l[i]) := by
      intro d
      induction d with
      | zero =>
        intro j x hj hx hxn
        refine ⟨.go x, ?_, .inr ⟨x, rfl, hx, Int.le_refl _, fun i hi hji => by omega⟩⟩
        rw [ev_shift]; simp only [m_laws_szValueS_l1]
        exact ev_ifF (by omega) (ev_some _)
      | succ d ih =>
        intro j x hj hx hxn
        have hjl : j < l.length := by omega
        obtain ⟨y, h1, h2⟩ := ihv _ (List.getElem_mem hjl) x hx (by omega)
        rcases h2 with h2 | ⟨h2, h3, h4⟩
        · refine ⟨.ret (-1), ?_, .inl rfl⟩
          rw [ev_shift]; simp only [m_laws_szValueS_l1]
          rw [ix_nat hjl]
          exact ev_ifT (by omega) (ev_ifT (by omega) (Ev.bind h1 (ev_ifT h2 (ev_some _))))
        · obtain ⟨o, h5, h6⟩ := ih (j + 1) y (by omega) (by omega) (by omega)
          refine ⟨o, ?_, ?_⟩
          · rw [ev_shift]; simp only [m_laws_szValueS_l1]
            rw [ix_nat hjl, wrap_id (n := (j : Int) + 1) (by omega)]
            exact ev_ifT (by omega) (ev_ifT (by omega) (Ev.bind h1 (ev_ifF (by omega) (by simpa using h5))))
          · rcases h6 with h6 | ⟨z, h6, h7, h8, h9⟩
            · exact .inl h6
            · refine .inr ⟨z, h6, h7, by omega, fun i hi hji => ?_⟩
              rcases Nat.eq_or_lt_of_le hji with rfl | hji
              · exact h4
              · exact h9 i hi hji
    obtain ⟨o, h1, h2⟩ := loop l.length 0 (n - l.length) (by omega) (by omega) (by omega)
    rcases h2 with rfl | ⟨y, rfl, h3, h4, h5⟩
    · refine ⟨-1, ?_, .inl (by omega)⟩
      rw [ev_shift]; simp only [m_laws_szValueS]
      rw [hw0]
      exact ev_ifF h0 (Ev.ret (by simpa using h1))
    · refine ⟨y, ?_, .inr ⟨h3, by omega, by omega, fun s hs => ?_⟩⟩
      · rw [ev_shift]; simp only [m_laws_szValueS]
        rw [hw0]
        exact ev_ifF h0 (Ev.go (by simpa using h1) (ev_some _))
      · obtain ⟨i, hi, rfl⟩ := List.mem_iff_getElem.1 hs
        exact h5 i hi (by omega)

theorem ev_szValue : ∀ v : Val, Bd maxLen v → ∀ n : Int, 0 ≤ n → n ≤ 1048576 → ∃ y, Ev (fun k => m_laws_szValue k v n) y ∧ (y < 0 ∨ (0 ≤ y ∧ y ≤ n ∧ Bd 1048576 v)) := by
  apply Val.ind
  intro v ih h n hn hn2
  have hm : maxLen = 9223372036854775807 := rfl
  have ht := h.text
  have hw : IntKind.wrap .i64 (n - (v.text.length : Int)) = n - (v.text.length : Int) := wrap_id (by omega)
  by_cases h0 : n - (v.text.length : Int) < 0
  · refine ⟨-1, ?_, .inl (by omega)⟩
    rw [ev_shift]; simp only [m_laws_szValue]
    rw [hw]
    exact ev_ifT h0 (ev_some _)
  · obtain ⟨y, h1, h2⟩ := ev_szValueS v.list (n - v.text.length) (by omega) (by omega) h.list fun x hx => ih x hx (h.within x hx)
    rcases h2 with h2 | ⟨h2, h3, h4, h5⟩
    · refine ⟨-1, ?_, .inl (by omega)⟩
      rw [ev_shift]; simp only [m_laws_szValue]
      rw [hw]
      exact ev_ifF h0 (Ev.bind h1 (ev_ifT h2 (ev_some _)))
    · obtain ⟨z, h6, h7⟩ := ev_szStringS v.names y h2 (by omega) h.names h.name
      rcases h7 with h7 | ⟨h7, h8, h9, h10⟩
      · refine ⟨-1, ?_, .inl (by omega)⟩
        rw [ev_shift]; simp only [m_laws_szValue]
        rw [hw]
        exact ev_ifF h0 (Ev.bind h1 (ev_ifF (by omega) (Ev.bind h6 (ev_ifT h7 (ev_some _)))))
      · refine ⟨z, ?_, .inr ⟨h7, by omega, .mk v (by omega) (by omega) (by omega) (fun s hs => by have := h10 s hs; omega) h5⟩⟩
        rw [ev_shift]; simp only [m_laws_szValue]
        rw [hw]
        exact ev_ifF h0 (Ev.bind h1 (ev_ifF (by omega) (Ev.bind h6 (ev_ifF (by omega) (ev_some _)))))
end Go.Proofs.Ytiaigcdckmpepaa
end
section
/-! ValueOk. -/
set_option linter.unusedVariables false
set_option linter.unusedSimpArgs false
namespace Go.Proofs.Ytiaigcdckmpepaa
open Go.Bb

def figB (n : Int) : Bool := decide (48 ≤ n ∧ n ≤ 57)
def letB (n : Int) : Bool := decide ((97 ≤ n ∧ n ≤ 122) ∨ (65 ≤ n ∧ n ≤ 90) ∨ n = 95)
def nameOk (s : Bs) : Bool := (List.range s.length).all (fun i => letB (byt s (i : Int)) || (decide (i ≠ 0) && figB (byt s (i : Int)))) && decide (1 ≤ s.length ∧ s.length ≤ 12)
def onceOk (l : List Bs) : Bool := (List.range l.length).all fun i => nameOk (ix l (i : Int)) && (List.range i).all fun j => decide (ix l (j : Int) ≠ ix l (i : Int))
def noneIn (v : Val) : Prop := v.list.length = 0 ∧ v.names.length = 0
instance (v : Val) : Decidable (noneIn v) := inferInstanceAs (Decidable (_ ∧ _))
def plainOk (v : Val) : Bool :=
  if v.kind = 0 then decide (v.num = 0 ∧ v.text = [] ∧ noneIn v)
  else if v.kind = 1 then decide ((0 ≤ v.num ∧ v.num ≤ 1) ∧ v.text = [] ∧ noneIn v)
  else if v.kind = 2 then decide ((-2147483647 ≤ v.num ∧ v.num ≤ 2147483647) ∧ v.text = [] ∧ noneIn v)
  else if v.kind = 3 then decide (v.num = 0 ∧ v.text.length ≤ 40 ∧ noneIn v)
  else if v.kind = 4 then decide (v.num = 0 ∧ v.text = [] ∧ v.names.length = 0 ∧ v.list.length ≤ 12)
  else if v.kind = 5 then decide (v.num = 0 ∧ v.text = [] ∧ v.names.length = v.list.length ∧ v.list.length ≤ 12)
  else if v.kind = 6 ∨ v.kind = 7 then decide (v.num = 0) && nameOk v.text && decide (noneIn v)
  else false

mutual
def okV : Val → Int → Bool → Bool
  | .mk a b t l ns, d, f => !(decide (d < 1)) && plainOk (.mk a b t l ns) && (f || decide (a ≤ 5)) && onceOk ns && okS l (d - 1) f
def okS : List Val → Int → Bool → Bool
  | [], _, _ => true
  | v :: l, d, f => okV v d f && okS l d f
end
theorem okS_all (l : List Val) (d : Int) (f : Bool) : okS l d f = l.all fun v => okV v d f := by
  induction l with
  | nil => rfl
  | cons v l ih => simp only [okS, List.all_cons, ih]
theorem okV_eq (v : Val) (d : Int) (f : Bool) : okV v d f = (!(decide (d < 1)) && plainOk v && (f || decide (v.kind ≤ 5)) && onceOk v.names && v.list.all fun x => okV x (d - 1) f) := by
  cases v
  simp only [okV, okS_all]
  rfl

theorem ev_sFigure (n : Int) : Ev (fun _ => m_spec_l1Figure n) (figB n) := by
  simp only [m_spec_l1Figure]
  refine ev_ite (fun h => ev_eq (ev_some _) ?_) (fun h => ev_eq (ev_some _) ?_) <;> simp [figB, h]
theorem ev_sLetter (n : Int) : Ev (fun _ => m_spec_l1Letter n) (letB n) := by
  have h : m_spec_l1Letter n = some (letB n) := by
    unfold m_spec_l1Letter letB
    repeat' split
    all_goals first | (simp; omega) | (simp_all; done) | (congr 1; symm; simp; omega) | skip
    all_goals (congr 1; rw [Bool.eq_iff_iff]; simp; omega)
  rw [h]; exact ev_some _
theorem ev_iFigure (n : Int) : m_impl_isFigure n = some (figB n) := by
  unfold m_impl_isFigure figB
  split <;> (congr 1; rw [Bool.eq_iff_iff]; simp; omega)
theorem ev_iWord (n : Int) : m_impl_isWordByte n = some (letB n || figB n) := by
  unfold m_impl_isWordByte
  rw [ev_iFigure]
  simp only [Option.bind_some]
  unfold letB figB
  repeat' split
  all_goals (congr 1; rw [Bool.eq_iff_iff]; simp; omega)

theorem ev_sName (s : Bs) (hs : s.length ≤ 1048576) : Ev (fun k => m_spec_l1Name k s) (nameOk s) := by
  simp only [m_spec_l1Name, m_spec_l1In]
  unfold nameOk
  refine ev_all (L := fun k i => m_spec_l1Name_l1 k s i) (n := s.length) _ (fun i r hi hg h => ?_) (fun i hi hg => ?_) ?_ (f := fun _ _ => _) ?_
  · rw [ev_shift]; simp only [m_spec_l1Name_l1]
    refine ev_ifT (by omega) (Ev.go (s := false) (ev_ifT (by omega) (Ev.bind (ev_sLetter _) (ev_ite (fun h1 => ev_some _) (fun h1 => ?_)))) (ev_ifF (by simp) ?_))
    · have h1' : letB (byt s (i : Int)) = false := by simpa using h1
      rw [h1'] at hg
      simp only [Bool.false_or, Bool.and_eq_true, decide_eq_true_eq] at hg
      refine ev_ifF (by omega) (ev_ifT (by omega) (Ev.bind (ev_sFigure _) ?_))
      rw [hg.2]; exact ev_some _
    · rw [wrap_id (by omega)]; exact h
  · rw [ev_shift]; simp only [m_spec_l1Name_l1]
    simp only [Bool.or_eq_false_iff, Bool.and_eq_false_iff, decide_eq_false_iff_not, Decidable.not_not] at hg
    refine ev_ifT (by omega) (Ev.go (s := true) (ev_ifT (by omega) (Ev.bind (ev_sLetter _) (ev_ifF (by simp [hg.1]) (ev_ite (fun h2 => ev_some _) (fun h2 => ev_ifT (by omega) (Ev.bind (ev_sFigure _) ?_)))))) (ev_ifT rfl (ev_some _)))
    have h3 : figB (byt s (i : Int)) = false := by
      rcases hg.2 with h | h
      · exact absurd (by omega) h2
      · exact h
    rw [h3]; exact ev_some _
  · rw [ev_shift]; simp only [m_spec_l1Name_l1]
    exact ev_ifF (by omega) (ev_some _)
  · refine Ev.bind (a := decide (1 ≤ s.length ∧ s.length ≤ 12)) (ev_ite (fun h => ev_eq (ev_some _) ?_) (fun h => ev_eq (ev_some _) ?_)) (ev_some _)
    · rw [Bool.eq_iff_iff]; simp; omega
    · rw [Bool.eq_iff_iff]; simp; omega

theorem ev_iName (s : Bs) : Ev (fun k => m_impl_isName k s) (nameOk s) := by
  simp only [m_impl_isName, ev_iFigure, Option.bind_some]
  by_cases h1 : (s.length : Int) < 1
  · refine ev_eq (Ev.go (s := true) (ev_ifT h1 (ev_some _)) (ev_ifT rfl (ev_some _))) ?_
    unfold nameOk
    rw [Bool.eq_iff_iff]; simp; omega
  · by_cases h2 : 12 < (s.length : Int)
    · refine ev_eq (Ev.go (s := true) (ev_ifF h1 (ev_ifT h2 (ev_some _))) (ev_ifT rfl (ev_some _))) ?_
      unfold nameOk
      rw [Bool.eq_iff_iff]; simp; omega
    · refine Ev.go (s := figB (byt s 0)) (ev_ifF h1 (ev_ifF h2 (ev_ifT (by omega) (ev_some _)))) ?_
      cases hf : figB (byt s 0) with
      | true =>
        refine ev_eq (ev_ifT rfl (ev_some _)) ?_
        unfold nameOk
        symm
        rw [Bool.and_eq_false_iff]
        left
        rw [List.all_eq_false]
        refine ⟨0, List.mem_range.2 (by omega), ?_⟩
        have : letB (byt s 0) = false := by
          unfold figB at hf; unfold letB
          simp at hf ⊢; omega
        simp [this]
      | false =>
        refine ev_ifF (by simp) (ev_eq (ev_all (L := fun k i => m_impl_isName_l1 k s i) (n := s.length) (fun i => letB (byt s (i : Int)) || figB (byt s (i : Int))) (fun i r hi hg h => ?_) (fun i hi hg => ?_) ?_ (f := fun _ _ => some true) (ev_some _)) ?_)
        · rw [ev_shift]; simp only [m_impl_isName_l1, ev_iWord, Option.bind_some]
          refine ev_ifT (by omega) (ev_ifT (by omega) (ev_ifT hg ?_))
          rw [wrap_id (by omega)]; exact h
        · rw [ev_shift]; simp only [m_impl_isName_l1, ev_iWord, Option.bind_some]
          exact ev_ifT (by omega) (ev_ifT (by omega) (ev_ifF (by simpa using hg) (ev_some _)))
        · rw [ev_shift]; simp only [m_impl_isName_l1]
          exact ev_ifF (by omega) (ev_some _)
        · unfold nameOk
          rw [Bool.and_true, Bool.eq_iff_iff, Bool.and_eq_true, List.all_eq_true, List.all_eq_true]
          constructor
          · intro h
            refine ⟨fun i hi => ?_, by simp; omega⟩
            have := h i hi
            by_cases h0 : i = 0
            · subst h0
              simp only [Bool.or_eq_true] at this ⊢
              rcases this with h' | h'
              · exact .inl h'
              · rw [show ((0 : Nat) : Int) = 0 from rfl, hf] at h'; cases h'
            · simpa [h0] using this
          · rintro ⟨h, _⟩ i hi
            have := h i hi
            simp only [Bool.or_eq_true, Bool.and_eq_true] at this ⊢
            exact this.imp id (·.2)

theorem ev_sOnce (l : List Bs) (hl : l.length ≤ 1048576) (hs : ∀ s ∈ l, s.length ≤ 1048576) : Ev (fun k => m_spec_l1Once k l) (onceOk l) := by
  simp only [m_spec_l1Once]
  have hb : onceOk l = (onceOk l && true) := by simp
  rw [hb]
  unfold onceOk
  have hx : ∀ i : Nat, i < l.length → (ix l (i : Int)).length ≤ 1048576 := fun i hi => by rw [ix_nat hi]; exact hs _ (List.getElem_mem hi)
  have inner : ∀ i : Nat, i < l.length → ((List.range i).all (fun j => decide (ix l (j : Int) ≠ ix l (i : Int))) = true → Ev (fun k => m_spec_l1Once_l2 k l i 0) (.go ())) ∧ ((List.range i).all (fun j => decide (ix l (j : Int) ≠ ix l (i : Int))) = false → Ev (fun k => m_spec_l1Once_l2 k l i 0) (.ret (.ret false))) := by
    intro i hi
    have s1 : ∀ (j : Nat) (r : Lp Unit (Lp Unit Bool)), j < i → decide (ix l (j : Int) ≠ ix l (i : Int)) = true → Ev (fun k => m_spec_l1Once_l2 k l i ((j : Int) + 1)) r → Ev (fun k => m_spec_l1Once_l2 k l i j) r := by
      intro j r hj hg h
      rw [ev_shift]; simp only [m_spec_l1Once_l2]
      refine ev_ifT (by omega) (ev_ifT (by omega) (ev_ifT (by omega) (ev_ifF (by simpa using hg) ?_)))
      rw [wrap_id (by omega)]; exact h
    constructor
    · intro h
      have := ev_all_go (L := fun k j => m_spec_l1Once_l2 k l i j) (n := i) (g := fun j => decide (ix l (j : Int) ≠ ix l (i : Int))) s1 (by
        rw [ev_shift]; simp only [m_spec_l1Once_l2]
        exact ev_ifF (by omega) (ev_some _)) i 0 (by omega) (fun j _ hj => List.all_eq_true.1 h j (List.mem_range.2 hj))
      simpa using this
    · intro h
      obtain ⟨j, hj, hg⟩ := List.all_eq_false.1 h
      have := ev_all_ret (L := fun k j => m_spec_l1Once_l2 k l i j) (n := i) (g := fun j => decide (ix l (j : Int) ≠ ix l (i : Int))) (rv := .ret false) s1 (fun j hj hg => by
        rw [ev_shift]; simp only [m_spec_l1Once_l2]
        refine ev_ifT (by omega) (ev_ifT (by omega) (ev_ifT (by omega) (ev_ifT (by simpa using hg) (ev_some _))))) i 0 (by omega) ⟨j, by omega, List.mem_range.1 hj, by simpa using hg⟩
      simpa using this
  refine ev_all (L := fun k i => m_spec_l1Once_l1 k l i) (n := l.length) _ (fun i r hi hg h => ?_) (fun i hi hg => ?_) ?_ (f := fun _ _ => some true) (ev_some _)
  · rw [ev_shift]; simp only [m_spec_l1Once_l1]
    simp only [Bool.and_eq_true] at hg
    refine ev_ifT (by omega) (ev_ifT (by omega) (Ev.bind (ev_sName _ (hx i hi)) (ev_ifT hg.1 (Ev.go ((inner i hi).1 hg.2) ?_))))
    rw [wrap_id (by omega)]; exact h
  · rw [ev_shift]; simp only [m_spec_l1Once_l1]
    refine ev_ifT (by omega) (ev_ifT (by omega) (Ev.bind (ev_sName _ (hx i hi)) (ev_ite (fun h1 => ?_) (fun h1 => ev_some _))))
    rw [h1, Bool.true_and] at hg
    exact Ev.ret ((inner i hi).2 hg)
  · rw [ev_shift]; simp only [m_spec_l1Once_l1]
    exact ev_ifF (by omega) (ev_some _)

theorem ev_contains (l : List Bs) (x : Bs) (hl : l.length ≤ 1048576) : Ev (fun k => m_slices_Contains_string_string k l x) (l.any fun y => decide (y = x)) := by
  simp only [m_slices_Contains_string_string, m_slices_Index_string_string]
  have s1 : ∀ (j : Nat) (r : Lp Unit Int), j < l.length → decide (ix l (j : Int) ≠ x) = true → Ev (fun k => m_slices_Index_string_string_l1 k l x ((j : Int) + 1)) r → Ev (fun k => m_slices_Index_string_string_l1 k l x j) r := by
    intro j r hj hg h
    rw [ev_shift]; simp only [m_slices_Index_string_string_l1]
    refine ev_ifT (by omega) (ev_ifT (by omega) (ev_ifF (fun e => by simp [e.symm] at hg) ?_))
    rw [wrap_id (by omega)]; exact h
  have s2 : Ev (fun k => m_slices_Index_string_string_l1 k l x l.length) (.go ()) := by
    rw [ev_shift]; simp only [m_slices_Index_string_string_l1]
    exact ev_ifF (by omega) (ev_some _)
  cases h : l.any fun y => decide (y = x) with
  | false =>
    have hn : ∀ i, 0 ≤ i → i < l.length → decide (ix l (i : Int) ≠ x) = true := fun i _ hi => by
      rw [ix_nat hi]
      have := List.any_eq_false.1 h _ (List.getElem_mem hi)
      simpa using this
    have := ev_all_go (L := fun k j => m_slices_Index_string_string_l1 k l x j) (n := l.length) (g := fun j => decide (ix l (j : Int) ≠ x)) s1 s2 l.length 0 (by omega) hn
    exact Ev.bind (a := -1) (Ev.go (s := ()) (by simpa using this) (ev_some _)) (ev_some _)
  | true =>
    -- the first place
    have key : ∀ (d j : Nat), j + d = l.length → (∃ i, j ≤ i ∧ ∃ h : i < l.length, l[i] = x) → ∃ y : Int, 0 ≤ y ∧ Ev (fun k => m_slices_Index_string_string_l1 k l x j) (.ret y) := by
      intro d
      induction d with
      | zero => rintro j hj ⟨i, h1, h2, _⟩; omega
      | succ d ih =>
        rintro j hj ⟨i, h1, h2, h3⟩
        have hjl : j < l.length := by omega
        by_cases hx : x = ix l (j : Int)
        · refine ⟨j, by omega, ?_⟩
          rw [ev_shift]; simp only [m_slices_Index_string_string_l1]
          exact ev_ifT (by omega) (ev_ifT (by omega) (ev_ifT hx (ev_some _)))
        · obtain ⟨y, hy, h⟩ := ih (j + 1) (by omega) ⟨i, by
            rcases Nat.eq_or_lt_of_le h1 with rfl | h
            · rw [ix_nat h2] at hx; exact absurd h3.symm hx
            · exact h, h2, h3⟩
          exact ⟨y, hy, s1 j _ hjl (by simpa using fun e => hx e.symm) (by simpa using h)⟩
    obtain ⟨z, hz, hzx⟩ := List.any_eq_true.1 h
    obtain ⟨i, hi, rfl⟩ := List.mem_iff_getElem.1 hz
    obtain ⟨y, hy, h2⟩ := key l.length 0 (by omega) ⟨i, by omega, hi, by simpa using hzx⟩
    exact Ev.bind (a := y) (Ev.ret (by simpa using h2)) (ev_eq (ev_some _) (by simp [hy]))

theorem ev_iOnce (l : List Bs) (hl : l.length ≤ 1048576) : Ev (fun k => m_impl_namesOnce k l) (onceOk l) := by
  simp only [m_impl_namesOnce]
  have hb : onceOk l = (onceOk l && true) := by simp
  rw [hb]
  unfold onceOk
  have hsub : ∀ i : Nat, i < l.length → ((sub l 0 (i : Int)).any fun y => decide (y = ix l (i : Int))) = !(List.range i).all fun j => decide (ix l (j : Int) ≠ ix l (i : Int)) := by
    intro i hi
    have e : sub l 0 (i : Int) = l.take i := by simp [sub]
    rw [e, Bool.eq_iff_iff, List.any_eq_true, Bool.not_eq_true', List.all_eq_false]
    constructor
    · rintro ⟨y, hy, hy2⟩
      obtain ⟨j, hj, rfl⟩ := List.mem_iff_getElem.1 hy
      simp only [List.length_take] at hj
      refine ⟨j, List.mem_range.2 (by omega), ?_⟩
      rw [List.getElem_take] at hy2
      rw [ix_nat (l := l) (i := j) (by omega)]
      simpa using hy2
    · rintro ⟨j, hj, hj2⟩
      have hj := List.mem_range.1 hj
      refine ⟨l[j], ?_, ?_⟩
      · exact List.mem_iff_getElem.2 ⟨j, by simp; omega, by simp⟩
      · rw [ix_nat (l := l) (i := j) (by omega)] at hj2
        simpa using hj2
  refine ev_all (L := fun k i => m_impl_namesOnce_l1 k l i) (n := l.length) _ (fun i r hi hg h => ?_) (fun i hi hg => ?_) ?_ (f := fun _ _ => some true) (ev_some _)
  · rw [ev_shift]; simp only [m_impl_namesOnce_l1]
    simp only [Bool.and_eq_true] at hg
    refine ev_ifT (by omega) (ev_ifT (by omega) (Ev.go (s := false) (Ev.bind (ev_iName _) (ev_ifT hg.1 (ev_ifT (by omega) (Ev.bind (ev_contains _ _ (by simp [sub]; omega)) ?_)))) (ev_ifF (by simp) ?_)))
    · rw [hsub i hi, hg.2]; exact ev_some _
    · rw [wrap_id (by omega)]; exact h
  · rw [ev_shift]; simp only [m_impl_namesOnce_l1]
    refine ev_ifT (by omega) (ev_ifT (by omega) (Ev.go (s := true) (Ev.bind (ev_iName _) (ev_ite (fun h1 => ?_) (fun h1 => ev_some _))) (ev_ifT rfl (ev_some _))))
    rw [h1, Bool.true_and] at hg
    refine ev_ifT (by omega) (Ev.bind (ev_contains _ _ (by simp [sub]; omega)) ?_)
    rw [hsub i hi, hg]; exact ev_some _
  · rw [ev_shift]; simp only [m_impl_namesOnce_l1]
    exact ev_ifF (by omega) (ev_some _)
end Go.Proofs.Ytiaigcdckmpepaa
end
section
/-! ValueOk, whole. -/
set_option linter.unusedVariables false
set_option linter.unusedSimpArgs false
namespace Go.Proofs.Ytiaigcdckmpepaa
open Go.Bb

theorem ev_sPlain (v : Val) (h : Bd 1048576 v) : Ev (fun k => m_spec_l1Plain k v) (plainOk v) := by
  have hw : IntKind.wrap .i64 ((v.list.length : Int) + (v.names.length : Int)) = (v.list.length : Int) + (v.names.length : Int) := by
    have h1 := h.list; have h2 := h.names
    exact wrap_id (by omega)
  have hn : ((v.list.length : Int) + (v.names.length : Int) = 0) ↔ noneIn v := by unfold noneIn; omega
  simp only [m_spec_l1Plain, m_spec_l1In, hw, hn]
  unfold plainOk
  refine ev_ite (fun h0 => ?_) (fun h0 => ?_)
  · rw [if_pos h0]
    refine ev_ite (fun h1 => ev_ite (fun h2 => ev_eq (ev_some _) ?_) (fun h2 => ev_eq (ev_some _) ?_)) (fun h1 => ev_eq (ev_some _) ?_) <;> simp [h1] <;> simp_all
  rw [if_neg h0]
  refine ev_ite (fun h0 => ?_) (fun h0 => ?_)
  · rw [if_pos h0]
    refine Ev.bind (a := decide (0 ≤ v.num ∧ v.num ≤ 1)) (ev_ite (fun h1 => ev_eq (ev_some _) (by simp [h1])) (fun h1 => ev_eq (ev_some _) (by simp [h1]))) ?_
    refine ev_ite (fun h1 => ev_ite (fun h2 => ev_eq (ev_some _) ?_) (fun h2 => ev_eq (ev_some _) ?_)) (fun h1 => ev_eq (ev_some _) ?_) <;> simp_all <;> (intros; omega)
  rw [if_neg h0]
  refine ev_ite (fun h0 => ?_) (fun h0 => ?_)
  · rw [if_pos h0]
    refine Ev.bind (a := decide (-2147483647 ≤ v.num ∧ v.num ≤ 2147483647)) (ev_ite (fun h1 => ev_eq (ev_some _) (by simp [h1])) (fun h1 => ev_eq (ev_some _) (by simp [h1]))) ?_
    refine ev_ite (fun h1 => ev_ite (fun h2 => ev_eq (ev_some _) ?_) (fun h2 => ev_eq (ev_some _) ?_)) (fun h1 => ev_eq (ev_some _) ?_) <;> simp_all <;> (intros; omega)
  rw [if_neg h0]
  refine ev_ite (fun h0 => ?_) (fun h0 => ?_)
  · rw [if_pos h0]
    refine ev_ite (fun h1 => ev_ite (fun h2 => ev_eq (ev_some _) ?_) (fun h2 => ev_eq (ev_some _) ?_)) (fun h1 => ev_eq (ev_some _) ?_)
    · have h2' : v.text.length ≤ 40 := by omega
      simp [h1, h2']
    · have h2' : ¬ v.text.length ≤ 40 := by omega
      simp [h2']
    · simp [h1]
  rw [if_neg h0]
  refine ev_ite (fun h0 => ?_) (fun h0 => ?_)
  · rw [if_pos h0]
    refine ev_ite (fun h1 => ev_ite (fun h2 => ev_ite (fun h3 => ev_eq (ev_some _) ?_) (fun h3 => ev_eq (ev_some _) ?_)) (fun h2 => ev_eq (ev_some _) ?_)) (fun h1 => ev_eq (ev_some _) ?_)
    · have h3' : v.names.length = 0 := by omega
      rw [Bool.eq_iff_iff]; simp [h1, h2, h3']; omega
    · have h3' : ¬ v.names.length = 0 := by omega
      rw [Bool.eq_iff_iff]; simp [h1, h2]; intro e; simp [e] at h3'
    · simp [h2]
    · simp [h1]
  rw [if_neg h0]
  refine ev_ite (fun h0 => ?_) (fun h0 => ?_)
  · rw [if_pos h0]
    refine ev_ite (fun h1 => ev_ite (fun h2 => ev_ite (fun h3 => ev_eq (ev_some _) ?_) (fun h3 => ev_eq (ev_some _) ?_)) (fun h2 => ev_eq (ev_some _) ?_)) (fun h1 => ev_eq (ev_some _) ?_)
    · have h3' : v.names.length = v.list.length := by omega
      rw [Bool.eq_iff_iff]; simp [h1, h2, h3']; omega
    · have h3' : ¬ v.names.length = v.list.length := by omega
      simp [h3']
    · simp [h2]
    · simp [h1]
  rw [if_neg h0]
  refine Ev.go (s := decide (v.kind = 6 ∨ v.kind = 7)) (ev_ite (fun h1 => ev_eq (ev_some _) (by simp [h1])) (fun h1 => ev_eq (ev_some _) (by simp [h1]))) (ev_ite (fun h1 => ?_) (fun h1 => ?_))
  · rw [if_pos (by simpa using h1)]
    refine ev_ite (fun h2 => ?_) (fun h2 => ev_eq (ev_some _) (by simp [h2]))
    refine Ev.bind (ev_sName _ h.text) (ev_ite (fun h3 => ev_eq (ev_some _) ?_) (fun h3 => ev_eq (ev_some _) ?_))
    · simp [h2, h3]
    · simp at h3; simp [h3]
  · rw [if_neg (by simpa using h1)]
    exact ev_some _

theorem ev_sOk : ∀ v : Val, Bd 1048576 v → ∀ (d : Int) (f : Bool), d ≤ 1000 → Ev (fun k => m_spec_l1Ok k v d f) (okV v d f) := by
  apply Val.ind
  intro v ih h d f hd
  rw [ev_shift]; simp only [m_spec_l1Ok]
  have hl := h.list
  have hfin : ∀ bad : Bool, bad = !(!(decide (d < 1)) && plainOk v && (f || decide (v.kind ≤ 5)) && onceOk v.names) → (d < 1 → bad = true) → Ev (fun k => if bad = true then some false else (m_spec_l1Ok_l1 k v d f 0).bind fun o2 => o2.then fun s2 => some true) (okV v d f) := by
    intro bad hb hb1
    rw [okV_eq]
    refine ev_ite (fun h1 => ev_eq (ev_some _) ?_) (fun h1 => ?_)
    · rw [h1] at hb
      have : (!(decide (d < 1)) && plainOk v && (f || decide (v.kind ≤ 5)) && onceOk v.names) = false := by
        cases hx : (!(decide (d < 1)) && plainOk v && (f || decide (v.kind ≤ 5)) && onceOk v.names) with
        | false => rfl
        | true => rw [hx] at hb; cases hb
      rw [this, Bool.false_and]
    · have h1' : bad = false := by simpa using h1
      have hd1 : ¬ d < 1 := fun h2 => by rw [hb1 h2] at h1'; cases h1'
      rw [h1'] at hb
      have : (!(decide (d < 1)) && plainOk v && (f || decide (v.kind ≤ 5)) && onceOk v.names) = true := by
        cases hx : (!(decide (d < 1)) && plainOk v && (f || decide (v.kind ≤ 5)) && onceOk v.names) with
        | true => rfl
        | false => rw [hx] at hb; cases hb
      rw [this, Bool.true_and]
      have hwd : IntKind.wrap .i64 (d - 1) = d - 1 := wrap_id (by omega)
      refine ev_eq (ev_all (L := fun k i => m_spec_l1Ok_l1 k v d f i) (n := v.list.length) (fun i => okV (ix v.list (i : Int)) (d - 1) f) (fun i r hi hg h' => ?_) (fun i hi hg => ?_) ?_ (f := fun _ _ => some true) (ev_some _)) ?_
      · rw [ev_shift]; simp only [m_spec_l1Ok_l1]
        have hm : ix v.list (i : Int) ∈ v.list := by rw [ix_nat hi]; exact List.getElem_mem hi
        have := ih _ hm (h.within _ hm) (d - 1) f (by omega)
        rw [hg] at this
        rw [hwd, wrap_id (n := (i : Int) + 1) (by omega)]
        exact ev_ifT (by omega) (ev_ifT (by omega) (Ev.bind this (ev_ifT rfl h')))
      · rw [ev_shift]; simp only [m_spec_l1Ok_l1]
        have hm : ix v.list (i : Int) ∈ v.list := by rw [ix_nat hi]; exact List.getElem_mem hi
        have := ih _ hm (h.within _ hm) (d - 1) f (by omega)
        rw [hg] at this
        rw [hwd]
        exact ev_ifT (by omega) (ev_ifT (by omega) (Ev.bind this (ev_ifF (by simp) (ev_some _))))
      · rw [ev_shift]; simp only [m_spec_l1Ok_l1]
        exact ev_ifF (by omega) (ev_some _)
      · rw [Bool.and_true]
        exact range_all v.list fun x => okV x (d - 1) f
  refine Ev.go (s := !(!(decide (d < 1)) && plainOk v && (f || decide (v.kind ≤ 5)) && onceOk v.names)) (ev_ite (fun h1 => ev_eq (ev_some _) (by simp [h1])) (fun h1 => ?_)) (hfin _ rfl (fun h1 => by simp [h1]))
  refine Ev.bind (ev_sPlain v h) (ev_ite (fun h2 => ?_) (fun h2 => ev_eq (ev_some _) (by simp at h2; simp [h2])))
  refine ev_ite (fun h3 => Ev.bind (ev_sOnce _ h.names h.name) (ev_eq (ev_some _) (by simp [h1, h2, h3]))) (fun h3 => ev_ite (fun h4 => ev_eq (ev_some _) ?_) (fun h4 => Ev.bind (ev_sOnce _ h.names h.name) (ev_eq (ev_some _) ?_)))
  · have h4' : ¬ v.kind ≤ 5 := by omega
    simp at h3; simp [h3, h4']
  · have h4' : v.kind ≤ 5 := by omega
    simp [h1, h2, h4']

theorem ev_sValueOk (v : Val) (h : Bd 1048576 v) : Ev (fun k => m_spec_ValueOk k v) (okV v 6 false) := by
  simp only [m_spec_ValueOk]
  exact Ev.bind (ev_sOk v h 6 false (by omega)) (ev_some _)

def itm (v : Val) : GI110 :=
  if v.kind = 0 then (if plainOk v then .c134 else .nil)
  else if v.kind = 1 then (if plainOk v then .c135 (decide (v.num = 1)) else .nil)
  else if v.kind = 2 then (if plainOk v then .c136 v.num else .nil)
  else if v.kind = 3 then (if plainOk v then .c137 v.text else .nil)
  else if v.kind = 4 then (if plainOk v then .c138 v.list else .nil)
  else if v.kind = 5 then (if plainOk v && onceOk v.names then .c140 ⟨v.names, v.list⟩ else .nil)
  else if v.kind = 6 then (if plainOk v then .c112 v.text else .nil)
  else if v.kind = 7 then (if plainOk v then .c113 v.text else .nil)
  else .nil

theorem ev_itemOf (v : Val) (h : Bd 1048576 v) : Ev (fun k => m_impl_itemOf k v) (itm v) := by
  simp only [m_impl_itemOf]
  refine Ev.go (s := decide (noneIn v)) (ev_ite (fun h1 => ev_eq (ev_some _) ?_) (fun h1 => ev_eq (ev_some _) ?_)) ?_
  · refine congrArg Lp.go ?_
    rw [Bool.eq_iff_iff, decide_eq_true_eq, decide_eq_true_eq]
    unfold noneIn; omega
  · exact congrArg Lp.go (decide_eq_false (fun h => h1 (by have := h.1; omega))).symm
  refine Ev.go (s := decide (noneIn v ∧ v.text = [])) (ev_ite (fun h1 => ev_eq (ev_some _) ?_) (fun h1 => ev_eq (ev_some _) ?_)) ?_
  · simp at h1; simp [h1]
  · simp at h1; simp [h1]
  refine Ev.go (s := decide (v.num = 0 ∧ v.text = [])) (ev_ite (fun h1 => ev_eq (ev_some _) ?_) (fun h1 => ev_eq (ev_some _) ?_)) ?_
  · simp [h1]
  · simp [h1]
  unfold itm
  refine ev_ite (fun h0 => ?_) (fun h0 => ?_)
  · rw [if_pos h0]
    refine Ev.go (s := plainOk v) (ev_ite (fun h1 => ev_eq (ev_some _) ?_) (fun h1 => ev_eq (ev_some _) ?_)) (ev_ite (fun h1 => ev_eq (ev_some _) (by rw [if_pos h1])) (fun h1 => ev_eq (ev_some _) (by rw [if_neg h1])))
    · unfold plainOk; rw [if_pos h0]; simp at h1; simp [h1]
    · unfold plainOk; rw [if_pos h0]; simp at h1; congr 1; symm; simp; intro _ h2 h3; exact h1 h3 h2
  rw [if_neg h0]
  refine ev_ite (fun h1 => ?_) (fun h1 => ?_)
  · rw [if_pos h1]
    refine Ev.go (s := plainOk v) (ev_ite (fun h2 => ev_ite (fun h3 => ev_eq (ev_some _) ?_) (fun h3 => ev_eq (ev_some _) ?_)) (fun h2 => ev_eq (ev_some _) ?_)) (ev_ite (fun h1 => ev_eq (ev_some _) (by rw [if_pos h1])) (fun h1 => ev_eq (ev_some _) (by rw [if_neg h1])))
    · unfold plainOk; rw [if_neg h0, if_pos h1]; simp at h2; simp [h2, h3]
    · unfold plainOk; rw [if_neg h0, if_pos h1]; simp at h2; congr 1; rw [Bool.eq_iff_iff]; simp [h2]; omega
    · unfold plainOk; rw [if_neg h0, if_pos h1]; simp at h2; congr 1; symm; simp; intro _ _ h3 h4; exact h2 h4 h3
  rw [if_neg h1]
  refine ev_ite (fun h2 => ?_) (fun h2 => ?_)
  · rw [if_pos h2]
    refine Ev.go (s := plainOk v) (ev_ite (fun h3 => ev_ite (fun h4 => ev_eq (ev_some _) ?_) (fun h4 => ev_eq (ev_some _) ?_)) (fun h3 => ev_eq (ev_some _) ?_)) (ev_ite (fun h1 => ev_eq (ev_some _) (by rw [if_pos h1])) (fun h1 => ev_eq (ev_some _) (by rw [if_neg h1])))
    · unfold plainOk; rw [if_neg h0, if_neg h1, if_pos h2]; simp at h3; congr 1; rw [Bool.eq_iff_iff]; simp [h3, h4]
    · unfold plainOk; rw [if_neg h0, if_neg h1, if_pos h2]; congr 1; rw [Bool.eq_iff_iff]; simp [h4]
    · unfold plainOk; rw [if_neg h0, if_neg h1, if_pos h2]; simp at h3; congr 1; symm; simp; intro _ _ h5 h4; exact h3 h4 h5
  rw [if_neg h2]
  refine ev_ite (fun h3 => ?_) (fun h3 => ?_)
  · rw [if_pos h3]
    refine Ev.go (s := plainOk v) (ev_ite (fun h4 => ev_ite (fun h5 => ev_eq (ev_some _) ?_) (fun h5 => ev_eq (ev_some _) ?_)) (fun h4 => ev_eq (ev_some _) ?_)) (ev_ite (fun h1 => ev_eq (ev_some _) (by rw [if_pos h1])) (fun h1 => ev_eq (ev_some _) (by rw [if_neg h1])))
    · unfold plainOk; rw [if_neg h0, if_neg h1, if_neg h2, if_pos h3]; simp at h4; congr 1; rw [Bool.eq_iff_iff]; simp [h4, h5]; omega
    · unfold plainOk; rw [if_neg h0, if_neg h1, if_neg h2, if_pos h3]; congr 1; rw [Bool.eq_iff_iff]; simp [h5]
    · unfold plainOk; rw [if_neg h0, if_neg h1, if_neg h2, if_pos h3]; simp at h4; congr 1; symm; simp [h4]
  rw [if_neg h3]
  refine ev_ite (fun h4 => ?_) (fun h4 => ?_)
  · rw [if_pos h4]
    refine Ev.go (s := plainOk v) (ev_ite (fun h5 => ev_ite (fun h6 => ev_eq (ev_some _) ?_) (fun h6 => ev_eq (ev_some _) ?_)) (fun h5 => ev_eq (ev_some _) ?_)) (ev_ite (fun h1 => ev_eq (ev_some _) (by rw [if_pos h1])) (fun h1 => ev_eq (ev_some _) (by rw [if_neg h1])))
    · have h6' : v.names.length = 0 := by omega
      unfold plainOk; rw [if_neg h0, if_neg h1, if_neg h2, if_neg h3, if_pos h4]; simp at h5; congr 1; rw [Bool.eq_iff_iff]; simp [h5, h6']; omega
    · have h6' : ¬ v.names.length = 0 := by omega
      unfold plainOk; rw [if_neg h0, if_neg h1, if_neg h2, if_neg h3, if_pos h4]; congr 1; symm; simp only [decide_eq_false_iff_not]; exact fun h => h6' h.2.2.1
    · unfold plainOk; rw [if_neg h0, if_neg h1, if_neg h2, if_neg h3, if_pos h4]; simp only [decide_eq_true_eq] at h5; congr 1; symm; simp only [decide_eq_false_iff_not]; exact fun h => h5 ⟨h.1, h.2.1⟩
  rw [if_neg h4]
  refine ev_ite (fun h5 => ?_) (fun h5 => ?_)
  · rw [if_pos h5]
    have hp : plainOk v = decide (v.num = 0 ∧ v.text = [] ∧ v.names.length = v.list.length ∧ v.list.length ≤ 12) := by unfold plainOk; rw [if_neg h0, if_neg h1, if_neg h2, if_neg h3, if_neg h4, if_pos h5]
    refine Ev.go (s := plainOk v && onceOk v.names) (ev_ite (fun h6 => ev_ite (fun h7 => ev_ite (fun h8 => Ev.bind (ev_iOnce _ h.names) (ev_eq (ev_some _) ?_)) (fun h8 => ev_eq (ev_some _) ?_)) (fun h7 => ev_eq (ev_some _) ?_)) (fun h6 => ev_eq (ev_some _) ?_)) (ev_ite (fun h1 => ev_eq (ev_some _) (by rw [if_pos h1])) (fun h1 => ev_eq (ev_some _) (by rw [if_neg h1])))
    · simp only [decide_eq_true_eq] at h6
      rw [hp, decide_eq_true ⟨h6.1, h6.2, by omega, by omega⟩, Bool.true_and]
    · rw [hp, decide_eq_false (fun h => h8 (by have := h.2.2.2; omega)), Bool.false_and]
    · rw [hp, decide_eq_false (fun h => h7 (by have := h.2.2.1; omega)), Bool.false_and]
    · simp only [decide_eq_true_eq] at h6
      rw [hp, decide_eq_false (fun h => h6 ⟨h.1, h.2.1⟩), Bool.false_and]
  rw [if_neg h5]
  refine ev_ite (fun h6 => ?_) (fun h6 => ?_)
  · rw [if_pos h6]
    have hp : plainOk v = (decide (v.num = 0) && nameOk v.text && decide (noneIn v)) := by unfold plainOk; rw [if_neg h0, if_neg h1, if_neg h2, if_neg h3, if_neg h4, if_neg h5, if_pos (.inl h6)]
    refine Ev.go (s := plainOk v) (ev_ite (fun h7 => ev_ite (fun h8 => Ev.bind (ev_iName _) (ev_eq (ev_some _) ?_)) (fun h8 => ev_eq (ev_some _) ?_)) (fun h7 => ev_eq (ev_some _) ?_)) (ev_ite (fun h1 => ev_eq (ev_some _) (by rw [if_pos h1])) (fun h1 => ev_eq (ev_some _) (by rw [if_neg h1])))
    · rw [hp, h7]; simp [h8]
    · rw [hp]; simp [h8]
    · simp only [Bool.not_eq_true] at h7
      rw [hp, h7, Bool.and_false]
  rw [if_neg h6]
  refine ev_ite (fun h7 => ?_) (fun h7 => ev_eq (ev_some _) (by rw [if_neg h7]))
  · rw [if_pos h7]
    have hp : plainOk v = (decide (v.num = 0) && nameOk v.text && decide (noneIn v)) := by unfold plainOk; rw [if_neg h0, if_neg h1, if_neg h2, if_neg h3, if_neg h4, if_neg h5, if_pos (.inr h7)]
    refine Ev.go (s := plainOk v) (ev_ite (fun h7 => ev_ite (fun h8 => Ev.bind (ev_iName _) (ev_eq (ev_some _) ?_)) (fun h8 => ev_eq (ev_some _) ?_)) (fun h7 => ev_eq (ev_some _) ?_)) (ev_ite (fun h1 => ev_eq (ev_some _) (by rw [if_pos h1])) (fun h1 => ev_eq (ev_some _) (by rw [if_neg h1])))
    · rw [hp, h7]; simp [h8]
    · rw [hp]; simp [h8]
    · simp only [Bool.not_eq_true] at h7
      rw [hp, h7, Bool.and_false]

def wthn : GI110 → List Val
  | .c138 l => l
  | .c140 x => x.list
  | _ => []
end Go.Proofs.Ytiaigcdckmpepaa
end
section
/-! The program's ValueOk. -/
set_option linter.unusedVariables false
set_option linter.unusedSimpArgs false
namespace Go.Proofs.Ytiaigcdckmpepaa
open Go.Bb

theorem onceOk_nil : onceOk [] = true := rfl
theorem none_list {v : Val} (h : noneIn v) : v.list = [] := List.eq_nil_of_length_eq_zero h.1
theorem none_names {v : Val} (h : noneIn v) : v.names = [] := List.eq_nil_of_length_eq_zero h.2

/-- What the item of a value is, and whether the value is ok. -/
theorem itm_ok (v : Val) (f : Bool) (b : Bool) : (plainOk v && (f || decide (v.kind ≤ 5)) && onceOk v.names && (v.list.all fun _ => true)) = (plainOk v && (f || decide (v.kind ≤ 5)) && onceOk v.names) := by simp

theorem fits_val (v : Val) (d : Int) (f : Bool) (hd : ¬ d < 1) : okV v d f = (if (itm v).isNil then false else if (itm v).is112 then f else if (itm v).is113 then f else (wthn (itm v)).all fun x => okV x (d - 1) f) := by
  have e : okV v d f = (plainOk v && (f || decide (v.kind ≤ 5)) && onceOk v.names && v.list.all fun x => okV x (d - 1) f) := by
    rw [okV_eq, decide_eq_false hd]; simp
  rw [e]
  have pn : plainOk v = false → (itm v).isNil = true := by
    intro h
    unfold itm
    simp only [h]
    repeat' split
    all_goals first | rfl | (rename_i hh; simp at hh)
  cases hp : plainOk v with
  | false => rw [if_pos (pn hp)]; simp
  | true =>
    unfold itm
    simp only [hp, if_true, Bool.true_and]
    have base : v.kind < 4 → 0 ≤ v.kind → noneIn v := by
      intro h h'
      unfold plainOk at hp
      by_cases h0 : v.kind = 0
      · rw [if_pos h0] at hp; exact (of_decide_eq_true hp).2.2
      rw [if_neg h0] at hp
      by_cases h1 : v.kind = 1
      · rw [if_pos h1] at hp; exact (of_decide_eq_true hp).2.2
      rw [if_neg h1] at hp
      by_cases h2 : v.kind = 2
      · rw [if_pos h2] at hp; exact (of_decide_eq_true hp).2.2
      rw [if_neg h2] at hp
      have h3 : v.kind = 3 := by omega
      rw [if_pos h3] at hp; exact (of_decide_eq_true hp).2.2
    by_cases h0 : v.kind = 0
    · have := base (by omega) (by omega)
      simp [h0, none_list this, none_names this, onceOk_nil, GI110.isNil, GI110.is112, GI110.is113, wthn]
    by_cases h1 : v.kind = 1
    · have := base (by omega) (by omega)
      simp [h1, none_list this, none_names this, onceOk_nil, GI110.isNil, GI110.is112, GI110.is113, wthn]
    by_cases h2 : v.kind = 2
    · have := base (by omega) (by omega)
      simp [h2, none_list this, none_names this, onceOk_nil, GI110.isNil, GI110.is112, GI110.is113, wthn]
    by_cases h3 : v.kind = 3
    · have := base (by omega) (by omega)
      simp [h3, none_list this, none_names this, onceOk_nil, GI110.isNil, GI110.is112, GI110.is113, wthn]
    by_cases h4 : v.kind = 4
    · have hn : v.names = [] := by
        unfold plainOk at hp
        rw [if_neg h0, if_neg h1, if_neg h2, if_neg h3, if_pos h4] at hp
        exact List.eq_nil_of_length_eq_zero (of_decide_eq_true hp).2.2.1
      simp [h4, hn, onceOk_nil, GI110.isNil, GI110.is112, GI110.is113, wthn]
    by_cases h5 : v.kind = 5
    · cases ho : onceOk v.names <;> simp [h5, GI110.isNil, GI110.is112, GI110.is113, wthn]
    have h67 : v.kind = 6 ∨ v.kind = 7 := by
      unfold plainOk at hp
      rw [if_neg h0, if_neg h1, if_neg h2, if_neg h3, if_neg h4, if_neg h5] at hp
      split at hp
      · assumption
      · cases hp
    have hnone : noneIn v := by
      unfold plainOk at hp
      rw [if_neg h0, if_neg h1, if_neg h2, if_neg h3, if_neg h4, if_neg h5, if_pos h67] at hp
      simp only [Bool.and_eq_true, decide_eq_true_eq] at hp
      exact hp.2
    rcases h67 with h6 | h7
    · simp [h6, none_list hnone, none_names hnone, onceOk_nil, GI110.isNil, GI110.is112, GI110.is113, wthn]
    · simp [h7, none_list hnone, none_names hnone, onceOk_nil, GI110.isNil, GI110.is112, GI110.is113, wthn]

theorem wthn_sub (v : Val) : ∀ x ∈ wthn (itm v), x ∈ v.list := by
  intro x hx
  unfold itm at hx
  repeat' split at hx
  all_goals first | exact hx | (simp [wthn] at hx; done) | (simp [wthn] at hx; exact hx)

theorem wthn_len (v : Val) : (wthn (itm v)).length ≤ v.list.length := by
  unfold itm
  repeat' split
  all_goals simp [wthn]

theorem ev_fits : ∀ v : Val, Bd 1048576 v → ∀ (d : Int) (f : Bool), d ≤ 1000 → Ev (fun k => m_impl_fitsIn k v d f) (okV v d f) := by
  apply Val.ind
  intro v ih h d f hd
  rw [ev_shift]; simp only [m_impl_fitsIn]
  refine ev_ite (fun h1 => ev_eq (ev_some _) (by rw [okV_eq]; simp [h1])) (fun h1 => ?_)
  rw [fits_val v d f h1]
  refine Ev.bind (ev_itemOf v h) (ev_ite (fun h2 => ev_eq (ev_some _) (by rw [if_pos h2])) (fun h2 => ev_ite (fun h3 => ev_eq (ev_some _) (by rw [if_neg h2, if_pos h3])) (fun h3 => ev_ite (fun h4 => ev_eq (ev_some _) (by rw [if_neg h2, if_neg h3, if_pos h4])) (fun h4 => ?_))))
  rw [if_neg h2, if_neg h3, if_neg h4]
  refine Ev.bind (a := wthn (itm v)) ?_ ?_
  · cases hi : itm v with
    | nil => rw [hi] at h2; exact absurd rfl h2
    | c112 x => rw [hi] at h3; exact absurd rfl h3
    | c113 x => rw [hi] at h4; exact absurd rfl h4
    | _ => exact ev_some _
  · have hl := h.list
    have hl2 := wthn_len v
    have hwd : IntKind.wrap .i64 (d - 1) = d - 1 := wrap_id (by omega)
    have hmem : ∀ i : Nat, i < (wthn (itm v)).length → ix (wthn (itm v)) (i : Int) ∈ v.list := fun i hi => by
      rw [ix_nat hi]; exact wthn_sub v _ (List.getElem_mem hi)
    refine ev_eq (ev_all (L := fun k i => m_impl_fitsIn_l1 k d f (wthn (itm v)) i) (n := (wthn (itm v)).length) (fun i => okV (ix (wthn (itm v)) (i : Int)) (d - 1) f) (fun i r hi hg h' => ?_) (fun i hi hg => ?_) ?_ (f := fun _ _ => some true) (ev_some _)) ?_
    · rw [ev_shift]; simp only [m_impl_fitsIn_l1]
      have := ih _ (hmem i hi) (h.within _ (hmem i hi)) (d - 1) f (by omega)
      rw [hg] at this
      rw [hwd, wrap_id (n := (i : Int) + 1) (by omega)]
      exact ev_ifT (by omega) (ev_ifT (by omega) (Ev.bind this (ev_ifT rfl h')))
    · rw [ev_shift]; simp only [m_impl_fitsIn_l1]
      have := ih _ (hmem i hi) (h.within _ (hmem i hi)) (d - 1) f (by omega)
      rw [hg] at this
      rw [hwd]
      exact ev_ifT (by omega) (ev_ifT (by omega) (Ev.bind this (ev_ifF (by simp) (ev_some _))))
    · rw [ev_shift]; simp only [m_impl_fitsIn_l1]
      exact ev_ifF (by omega) (ev_some _)
    · rw [Bool.and_true]
      exact range_all (wthn (itm v)) fun x => okV x (d - 1) f

theorem ev_iValueOk (v : Val) (h : Bd 1048576 v) : Ev (fun k => m_impl_ValueOk k v) (okV v 6 false) := by
  simp only [m_impl_ValueOk]
  exact Ev.bind (ev_fits v h 6 false (by omega)) (ev_some _)
end Go.Proofs.Ytiaigcdckmpepaa
end
section
/-! Marks. -/
set_option linter.unusedVariables false
set_option linter.unusedSimpArgs false
namespace Go.Proofs.Ytiaigcdckmpepaa
open Go.Bb

theorem ev_det {α : Type} {m : Nat → Option α} {a b : α} (h : Ev m a) (h' : Ev m b) : a = b := by
  obtain ⟨K, h⟩ := h
  obtain ⟨K', h'⟩ := h'
  have := h (max K K') (by omega)
  rw [h' (max K K') (by omega)] at this
  exact (Option.some.inj this).symm

theorem ev_markText1 : ∀ (n : Nat) (acc : Bs), acc.length + n ≤ 4611686018427387904 → ∃ s, Ev (fun k => m_laws_markText_l1 k (n : Int) acc) (.go s) ∧ s.length ≤ acc.length + n := by
  intro n
  have hm : maxLen = 9223372036854775807 := rfl
  induction n using Nat.strongRecOn with
  | ind n ih =>
    intro acc hl
    by_cases h0 : n = 0
    · subst h0
      refine ⟨acc, ?_, by omega⟩
      rw [ev_shift]; simp only [m_laws_markText_l1]
      exact ev_ifF (by omega) (ev_some _)
    · obtain ⟨s, h1, h2⟩ := ih (n / 10) (by omega) (ofI [IntKind.wrap .u8 (IntKind.wrap .i64 (48 + Int.tmod (n : Int) 10))] ++ acc) (by simp [ofI]; omega)
      have hd : IntKind.wrap .i64 (Int.tdiv (n : Int) 10) = ((n / 10 : Nat) : Int) := by
        rw [Int.tdiv_eq_ediv_of_nonneg (by omega)]
        rw [wrap_id (by omega)]; omega
      refine ⟨s, ?_, by simp [ofI] at h2; omega⟩
      rw [ev_shift]; simp only [m_laws_markText_l1]
      rw [hd]
      exact ev_ifT (by omega) (ev_ifT (by simp [ofI]; omega) h1)

theorem ev_markText (n : Int) (h : n ≤ 2305843009213693952) : ∃ s, Ev (fun k => m_laws_markText k n) s := by
  have hm : maxLen = 9223372036854775807 := rfl
  simp only [m_laws_markText]
  by_cases h0 : n ≤ 0
  · exact ⟨_, ev_ifT h0 (ev_some _)⟩
  · obtain ⟨s, h1, h2⟩ := ev_markText1 n.toNat [] (by simp; omega)
    have e : ((n.toNat : Nat) : Int) = n := by omega
    rw [e] at h1
    exact ⟨_, ev_ifF h0 (Ev.go h1 (ev_ifT (by simp at h2 ⊢; omega) (ev_some _)))⟩

theorem set_mid {α : Type} (pre post : List α) (t t' : α) : (pre ++ t :: post).set pre.length t' = (pre ++ [t']) ++ post := by
  rw [List.set_append]; simp
theorem ix_mid {α : Type} [Inhabited α] (pre post : List α) (t : α) : ix (pre ++ t :: post) (pre.length : Int) = t := by
  rw [ix_nat (by simp)]; simp

/-- Texts. -/
theorem ev_markStrs : ∀ (post pre pre' : List Bs) (n : Int), pre.length = pre'.length → 0 ≤ n → n + post.length ≤ 2305843009213693952 → pre.length + post.length ≤ 4611686018427387904 →
    ∃ post' m, Ev (fun k => m_laws_markStringS_l1 k (pre ++ post) n pre.length) (.go (pre ++ post', m)) ∧ Ev (fun k => m_laws_heldStringS_l1 k (pre' ++ post') n pre'.length) (.go m) ∧ post'.length = post.length ∧ n ≤ m ∧ m ≤ n + post.length
  | [], pre, pre', n, hp, hn, hb, hl => by
    refine ⟨[], n, ?_, ?_, rfl, by omega, by simp⟩
    · rw [ev_shift]; simp only [m_laws_markStringS_l1]
      exact ev_ifF (by simp) (ev_some _)
    · rw [ev_shift]; simp only [m_laws_heldStringS_l1]
      exact ev_ifF (by simp) (ev_some _)
  | t :: post, pre, pre', n, hp, hn, hb, hl => by
    simp only [List.length_cons] at hb hl
    obtain ⟨s, hs⟩ := ev_markText n (by omega)
    obtain ⟨post', m, h1, h2, h3, h4, h5⟩ := ev_markStrs post (pre ++ [s]) (pre' ++ [s]) (n + 1) (by simp [hp]) (by omega) (by omega) (by simp; omega)
    refine ⟨s :: post', m, ?_, ?_, by simp [h3], by omega, by simp only [List.length_cons]; omega⟩
    · rw [ev_shift]; simp only [m_laws_markStringS_l1]
      refine ev_ifT (by simp; omega) (Ev.bind hs (ev_ifT (by simp; omega) ?_))
      rw [wrap_id (n := n + 1) (by omega), wrap_id (n := (pre.length : Int) + 1) (by omega), Int.toNat_natCast, set_mid]
      simpa using h1
    · rw [ev_shift]; simp only [m_laws_heldStringS_l1]
      refine ev_ifT (by simp; omega) (ev_ifT (by simp; omega) (Ev.bind hs (ev_ifT (ix_mid _ _ _) ?_)))
      rw [wrap_id (n := n + 1) (by omega), wrap_id (n := (pre'.length : Int) + 1) (by omega)]
      simpa using h2
theorem ev_markStringS (l : List Bs) (n : Int) (hn : 0 ≤ n) (hb : n + l.length ≤ 2305843009213693952) : ∃ l' m, Ev (fun k => m_laws_markStringS k l n) (m, l') ∧ Ev (fun k => m_laws_heldStringS k l' n) m ∧ n ≤ m ∧ m ≤ n + l.length := by
  obtain ⟨l', m, h1, h2, h3, h4, h5⟩ := ev_markStrs l [] [] n rfl hn hb (by simp; omega)
  refine ⟨l', m, ?_, ?_, h4, h5⟩
  · simp only [m_laws_markStringS]
    exact Ev.go (s := (l', m)) (by simpa using h1) (ev_some _)
  · simp only [m_laws_heldStringS]
    exact Ev.go (by simpa using h2) (ev_some _)

mutual
/-- How many marks a value takes. -/
def wtV : Val → Nat
  | .mk _ _ _ l ns => 3 + wtVs l + ns.length
def wtVs : List Val → Nat
  | [] => 0
  | v :: l => wtV v + wtVs l
end
theorem wtV_eq (v : Val) : wtV v = 3 + wtVs v.list + v.names.length := by cases v; rfl
theorem wtVs_mem {v : Val} : ∀ {l : List Val}, v ∈ l → wtV v ≤ wtVs l
  | u :: l, h => by
    simp only [wtVs]
    rcases List.mem_cons.1 h with rfl | h
    · omega
    · have := wtVs_mem h; omega

def MkV (l : List Val) : Prop := ∀ n : Int, 0 ≤ n → n + wtVs l ≤ 2305843009213693952 → ∃ l' m, Ev (fun k => m_laws_markValueS k l n) (m, l') ∧ Ev (fun k => m_laws_heldValueS k l' n) m ∧ n ≤ m ∧ m ≤ n + wtVs l

theorem ev_markVals : ∀ (post pre pre' : List Val) (n : Int), (∀ v ∈ post, MkV v.list) → pre.length = pre'.length → 0 ≤ n → n + wtVs post ≤ 2305843009213693952 → pre.length + post.length ≤ 4611686018427387904 →
    ∃ post' m, Ev (fun k => m_laws_markValueS_l1 k (pre ++ post) n pre.length) (.go (pre ++ post', m)) ∧ Ev (fun k => m_laws_heldValueS_l1 k (pre' ++ post') n pre'.length) (.go m) ∧ n ≤ m ∧ m ≤ n + wtVs post
  | [], pre, pre', n, hi, hp, hn, hb, hl => by
    refine ⟨[], n, ?_, ?_, by omega, by simp [wtVs]⟩
    · rw [ev_shift]; simp only [m_laws_markValueS_l1]
      exact ev_ifF (by simp) (ev_some _)
    · rw [ev_shift]; simp only [m_laws_heldValueS_l1]
      exact ev_ifF (by simp) (ev_some _)
  | t :: post, pre, pre', n, hi, hp, hn, hb, hl => by
    simp only [List.length_cons, wtVs, wtV_eq] at hb hl ⊢
    obtain ⟨s, hs⟩ := ev_markText (n + 1 + 1) (by omega)
    obtain ⟨of', n2, g1, g2, g3, g4⟩ := hi t List.mem_cons_self (n + 1 + 1 + 1) (by omega) (by omega)
    obtain ⟨ns', n3, g5, g6, g7, g8⟩ := ev_markStringS t.names n2 (by omega) (by omega)
    obtain ⟨post', m, h1, h2, h4, h5⟩ := ev_markVals post (pre ++ [Val.mk n (n + 1) s of' ns']) (pre' ++ [Val.mk n (n + 1) s of' ns']) n3 (fun v hv => hi v (List.mem_cons_of_mem _ hv)) (by simp [hp]) (by omega) (by omega) (by simp; omega)
    refine ⟨Val.mk n (n + 1) s of' ns' :: post', m, ?_, ?_, by omega, by omega⟩
    · rw [ev_shift]; simp only [m_laws_markValueS_l1]
      rw [wrap_id (n := n + 1) (by omega), wrap_id (n := n + 1 + 1) (by omega), wrap_id (n := n + 1 + 1 + 1) (by omega), wrap_id (n := (pre.length : Int) + 1) (by omega), ix_mid]
      refine ev_ifT (by simp; omega) (ev_ifT (by simp; omega) (Ev.bind hs (Ev.bind g1 (Ev.bind g5 ?_))))
      rw [Int.toNat_natCast, set_mid]
      simpa using h1
    · rw [ev_shift]; simp only [m_laws_heldValueS_l1]
      rw [wrap_id (n := n + 1) (by omega), wrap_id (n := n + 1 + 1) (by omega), wrap_id (n := n + 1 + 1 + 1) (by omega), wrap_id (n := (pre'.length : Int) + 1) (by omega), ix_mid]
      have hb2 : (0 : Int) ≤ (pre'.length : Int) ∧ (pre'.length : Int) < ((pre' ++ Val.mk n (n + 1) s of' ns' :: post').length : Int) := by simp; omega
      refine ev_ifT hb2.2 (ev_ifT hb2 (ev_ifT rfl (ev_ifT hb2 (ev_ifT rfl (ev_ifT hb2 (Ev.bind hs (ev_ifT rfl (ev_ifT hb2 (Ev.bind g2 (ev_ifF (by omega) (ev_ifT hb2 (Ev.bind g6 (ev_ifF (by omega) ?_)))))))))))))
      simpa using h2
theorem mkV_all : ∀ v : Val, v.list.length ≤ 4611686018427387904 → (∀ x ∈ v.list, MkV x.list) → MkV v.list := by
  intro v hv ih n hn hb
  obtain ⟨l', m, h1, h2, h4, h5⟩ := ev_markVals v.list [] [] n ih rfl hn hb (by simp; omega)
  refine ⟨l', m, ?_, ?_, h4, h5⟩
  · rw [ev_shift]; simp only [m_laws_markValueS]
    exact Ev.go (s := (l', m)) (by simpa using h1) (ev_some _)
  · rw [ev_shift]; simp only [m_laws_heldValueS]
    exact Ev.go (by simpa using h2) (ev_some _)
theorem mkV_ind : ∀ v : Val, Bd 1048576 v → MkV v.list := by
  apply Val.ind
  intro v ih h
  exact mkV_all v (by have := h.list; omega) fun x hx => ih x hx (h.within x hx)
/-- Marks on a value. -/
theorem ev_markValue (v : Val) (hv : Bd 1048576 v) (hw : wtV v ≤ 1152921504606846976) : ∃ l' ns' m, Ev (fun k => m_laws_markValue k v 1) (m, l', ns') ∧ 0 ≤ m ∧ Ev (fun k => m_laws_heldValue k (Val.mk v.kind v.num v.text l' ns') 1) m := by
  rw [wtV_eq] at hw
  obtain ⟨l', n2, g1, g2, g3, g4⟩ := mkV_ind v hv 1 (by omega) (by omega)
  obtain ⟨ns', n3, g5, g6, g7, g8⟩ := ev_markStringS v.names n2 (by omega) (by omega)
  refine ⟨l', ns', n3, ?_, by omega, ?_⟩
  · simp only [m_laws_markValue]
    exact Ev.bind g1 (Ev.bind g5 (ev_some _))
  · simp only [m_laws_heldValue]
    exact Ev.bind g2 (ev_ifF (by omega) (Ev.bind g6 (ev_ifF (by omega) (ev_some _))))
end Go.Proofs.Ytiaigcdckmpepaa
end
section
/-! Sizes and weights. -/
set_option linter.unusedVariables false
set_option linter.unusedSimpArgs false
namespace Go.Proofs.Ytiaigcdckmpepaa
open Go.Bb
def wtW (v : Val) : Nat := wtVs v.list + v.names.length
/-- What is left of a size: none, or all is within it. -/
theorem ev_szStringSW (l : List Bs) (n : Int) (hn : 0 ≤ n) (hn2 : n ≤ 1048576) (hl : l.length ≤ maxLen) (hs : ∀ s ∈ l, s.length ≤ maxLen) : ∃ y, Ev (fun k => m_laws_szStringS k l n) y ∧ (y < 0 ∨ (0 ≤ y ∧ y ≤ n - l.length ∧ (l.length : Int) ≤ n ∧ ∀ s ∈ l, (s.length : Int) ≤ n)) := by
  simp only [m_laws_szStringS]
  have hm : maxLen = 9223372036854775807 := rfl
  rw [wrap_id (by omega)]
  by_cases h0 : n - (l.length : Int) < 0
  · exact ⟨-1, ev_ifT h0 (ev_some _), .inl (by omega)⟩
  · have loop : ∀ (d j : Nat) (x : Int), j + d = l.length → 0 ≤ x → x ≤ n → ∃ o, Ev (fun k => m_laws_szStringS_l1 k l x j) o ∧ (o = .ret (-1) ∨ ∃ y, o = .go y ∧ 0 ≤ y ∧ y ≤ x ∧ ∀ (i : Nat) (h : i < l.length), j ≤ i → (l[i].length : Int) ≤ x) := by
      intro d
      induction d with
      | zero =>
        intro j x hj hx hxn
        refine ⟨.go x, ?_, .inr ⟨x, rfl, hx, Int.le_refl _, fun i hi hji => by omega⟩⟩
        rw [ev_shift]; simp only [m_laws_szStringS_l1]
        exact ev_ifF (by omega) (ev_some _)
      | succ d ih =>
        intro j x hj hx hxn
        have hjl : j < l.length := by omega
        have hlen := hs _ (List.getElem_mem hjl)
        have hw : IntKind.wrap .i64 (x - ((ix l (j : Int)).length : Int)) = x - (l[j].length : Int) := by
          rw [ix_nat hjl]; exact wrap_id (by omega)
        by_cases h1 : x - (l[j].length : Int) < 0
        · refine ⟨.ret (-1), ?_, .inl rfl⟩
          rw [ev_shift]; simp only [m_laws_szStringS_l1]
          rw [hw]
          exact ev_ifT (by omega) (ev_ifT (by omega) (ev_ifT h1 (ev_some _)))
        · obtain ⟨o, h2, h3⟩ := ih (j + 1) (x - (l[j].length : Int)) (by omega) (by omega) (by omega)
          refine ⟨o, ?_, ?_⟩
          · rw [ev_shift]; simp only [m_laws_szStringS_l1]
            rw [hw, wrap_id (n := (j : Int) + 1) (by omega)]
            exact ev_ifT (by omega) (ev_ifT (by omega) (ev_ifF h1 (by simpa using h2)))
          · rcases h3 with h3 | ⟨y, h3, h4, h5, h6⟩
            · exact .inl h3
            · refine .inr ⟨y, h3, h4, by omega, fun i hi hji => ?_⟩
              rcases Nat.eq_or_lt_of_le hji with rfl | hji
              · omega
              · have := h6 i hi hji; omega
    obtain ⟨o, h1, h2⟩ := loop l.length 0 (n - l.length) (by omega) (by omega) (by omega)
    rcases h2 with rfl | ⟨y, rfl, h3, h4, h5⟩
    · exact ⟨-1, ev_ifF h0 (Ev.ret (by simpa using h1)), .inl (by omega)⟩
    · refine ⟨y, ev_ifF h0 (Ev.go (by simpa using h1) (ev_some _)), .inr ⟨h3, by omega, by omega, fun s hs => ?_⟩⟩
      obtain ⟨i, hi, rfl⟩ := List.mem_iff_getElem.1 hs
      have := h5 i hi (by omega)
      omega

theorem ev_szValueSW (l : List Val) (n : Int) (hn : 0 ≤ n) (hn2 : n ≤ 1048576) (hl : l.length ≤ maxLen) (ihv : ∀ v ∈ l, ∀ n : Int, 0 ≤ n → n ≤ 1048576 → ∃ y, Ev (fun k => m_laws_szValue k v n) y ∧ (y < 0 ∨ (0 ≤ y ∧ y ≤ n ∧ Bd 1048576 v ∧ (wtW v : Int) ≤ 3 * (n - y)))) : ∃ y, Ev (fun k => m_laws_szValueS k l n) y ∧ (y < 0 ∨ (0 ≤ y ∧ y ≤ n ∧ (l.length : Int) ≤ n ∧ (∀ v ∈ l, Bd 1048576 v) ∧ (wtVs l : Int) ≤ 3 * (n - y))) := by
  have hm : maxLen = 9223372036854775807 := rfl
  have hw0 : IntKind.wrap .i64 (n - (l.length : Int)) = n - (l.length : Int) := wrap_id (by omega)
  by_cases h0 : n - (l.length : Int) < 0
  · refine ⟨-1, ?_, .inl (by omega)⟩
    rw [ev_shift]; simp only [m_laws_szValueS]
    rw [hw0]
    exact ev_ifT h0 (ev_some _)
  · have loop : ∀ (d j : Nat) (x : Int), j + d = l.length → 0 ≤ x → x ≤ n → ∃ o, Ev (fun k => m_laws_szValueS_l1 k l x j) o ∧ (o = .ret (-1) ∨ ∃ y, o = .go y ∧ 0 ≤ y ∧ y ≤ x ∧ (∀ (i : Nat) (h : i < l.length), j ≤ i → Bd 1048576 l[i]) ∧ (wtVs (l.drop j) : Int) ≤ 3 * d + 3 * (x - y)) := by
      intro d
      induction d with
      | zero =>
        intro j x hj hx hxn
        refine ⟨.go x, ?_, .inr ⟨x, rfl, hx, Int.le_refl _, (fun i hi hji => by omega), by rw [List.drop_of_length_le (by omega)]; simp [wtVs]⟩⟩
        rw [ev_shift]; simp only [m_laws_szValueS_l1]
        exact ev_ifF (by omega) (ev_some _)
      | succ d ih =>
        intro j x hj hx hxn
        have hjl : j < l.length := by omega
        obtain ⟨y, h1, h2⟩ := ihv _ (List.getElem_mem hjl) x hx (by omega)
        rcases h2 with h2 | ⟨h2, h3, h4, hwt⟩
        · refine ⟨.ret (-1), ?_, .inl rfl⟩
          rw [ev_shift]; simp only [m_laws_szValueS_l1]
          rw [ix_nat hjl]
          exact ev_ifT (by omega) (ev_ifT (by omega) (Ev.bind h1 (ev_ifT h2 (ev_some _))))
        · obtain ⟨o, h5, h6⟩ := ih (j + 1) y (by omega) (by omega) (by omega)
          refine ⟨o, ?_, ?_⟩
          · rw [ev_shift]; simp only [m_laws_szValueS_l1]
            rw [ix_nat hjl, wrap_id (n := (j : Int) + 1) (by omega)]
            exact ev_ifT (by omega) (ev_ifT (by omega) (Ev.bind h1 (ev_ifF (by omega) (by simpa using h5))))
          · rcases h6 with h6 | ⟨z, h6, h7, h8, h9, hw9⟩
            · exact .inl h6
            · refine .inr ⟨z, h6, h7, by omega, fun i hi hji => ?_, ?_⟩
              · rcases Nat.eq_or_lt_of_le hji with rfl | hji
                · exact h4
                · exact h9 i hi hji
              · rw [List.drop_eq_getElem_cons hjl]
                have e : wtV l[j] = 3 + wtW l[j] := by rw [wtV_eq]; unfold wtW; omega
                simp only [wtVs, e]
                omega
    obtain ⟨o, h1, h2⟩ := loop l.length 0 (n - l.length) (by omega) (by omega) (by omega)
    rcases h2 with rfl | ⟨y, rfl, h3, h4, h5, hw5⟩
    · refine ⟨-1, ?_, .inl (by omega)⟩
      rw [ev_shift]; simp only [m_laws_szValueS]
      rw [hw0]
      exact ev_ifF h0 (Ev.ret (by simpa using h1))
    · refine ⟨y, ?_, .inr ⟨h3, by omega, by omega, fun s hs => ?_, by simp only [List.drop_zero] at hw5; omega⟩⟩
      · rw [ev_shift]; simp only [m_laws_szValueS]
        rw [hw0]
        exact ev_ifF h0 (Ev.go (by simpa using h1) (ev_some _))
      · obtain ⟨i, hi, rfl⟩ := List.mem_iff_getElem.1 hs
        exact h5 i hi (by omega)

theorem ev_szValueW : ∀ v : Val, Bd maxLen v → ∀ n : Int, 0 ≤ n → n ≤ 1048576 → ∃ y, Ev (fun k => m_laws_szValue k v n) y ∧ (y < 0 ∨ (0 ≤ y ∧ y ≤ n ∧ Bd 1048576 v ∧ (wtW v : Int) ≤ 3 * (n - y))) := by
  apply Val.ind
  intro v ih h n hn hn2
  have hm : maxLen = 9223372036854775807 := rfl
  have ht := h.text
  have hw : IntKind.wrap .i64 (n - (v.text.length : Int)) = n - (v.text.length : Int) := wrap_id (by omega)
  by_cases h0 : n - (v.text.length : Int) < 0
  · refine ⟨-1, ?_, .inl (by omega)⟩
    rw [ev_shift]; simp only [m_laws_szValue]
    rw [hw]
    exact ev_ifT h0 (ev_some _)
  · obtain ⟨y, h1, h2⟩ := ev_szValueSW v.list (n - v.text.length) (by omega) (by omega) h.list fun x hx => ih x hx (h.within x hx)
    rcases h2 with h2 | ⟨h2, h3, h4, h5, hw5⟩
    · refine ⟨-1, ?_, .inl (by omega)⟩
      rw [ev_shift]; simp only [m_laws_szValue]
      rw [hw]
      exact ev_ifF h0 (Ev.bind h1 (ev_ifT h2 (ev_some _)))
    · obtain ⟨z, h6, h7⟩ := ev_szStringSW v.names y h2 (by omega) h.names h.name
      rcases h7 with h7 | ⟨h7, h8, h9, h10⟩
      · refine ⟨-1, ?_, .inl (by omega)⟩
        rw [ev_shift]; simp only [m_laws_szValue]
        rw [hw]
        exact ev_ifF h0 (Ev.bind h1 (ev_ifF (by omega) (Ev.bind h6 (ev_ifT h7 (ev_some _)))))
      · refine ⟨z, ?_, .inr ⟨h7, by omega, .mk v (by omega) (by omega) (by omega) (fun s hs => by have := h10 s hs; omega) h5, by unfold wtW; omega⟩⟩
        rw [ev_shift]; simp only [m_laws_szValue]
        rw [hw]
        exact ev_ifF h0 (Ev.bind h1 (ev_ifF (by omega) (Ev.bind h6 (ev_ifF (by omega) (ev_some _)))))
end Go.Proofs.Ytiaigcdckmpepaa
end
section
/-! Copies. -/
set_option linter.unusedVariables false
set_option linter.unusedSimpArgs false
set_option linter.unnecessarySimpa false
namespace Go.Proofs.Ytiaigcdckmpepaa
open Go.Bb

theorem ev_l1Copy : ∀ v : Val, Bd 1048576 v → Ev (fun k => m_spec_l1Copy k v) v := by
  apply Val.ind
  intro v ih h
  have hl := h.list
  have hn := h.names
  rw [ev_shift]; simp only [m_spec_l1Copy]
  refine Ev.go (s := v.list) ?_ (Ev.go (s := v.names) ?_ (ev_eq (ev_some _) (by cases v; rfl)))
  · have := ev_fold (L := fun k x i => m_spec_l1Copy_l1 k v x i) (n := v.list.length) (fun j => v.list.take j) (fun i r hi h' => by
      rw [List.take_add_one, List.getElem?_eq_getElem hi, Option.toList_some] at h'
      rw [ev_shift]; simp only [m_spec_l1Copy_l1]
      rw [wrap_id (n := (i : Int) + 1) (by omega), ix_nat hi]
      exact ev_ifT (by omega) (ev_ifT (by omega) (Ev.bind (ih _ (List.getElem_mem hi) (h.within _ (List.getElem_mem hi))) (ev_ifT (by simp; omega) h')))) (by
      rw [ev_shift]; simp only [m_spec_l1Copy_l1]
      exact ev_ifF (by omega) (ev_some _)) v.list.length 0 (by omega)
    simpa using this
  · have := ev_fold (L := fun k x i => m_spec_l1Copy_l2 k v x i) (n := v.names.length) (fun j => v.names.take j) (fun i r hi h' => by
      rw [List.take_add_one, List.getElem?_eq_getElem hi, Option.toList_some] at h'
      rw [ev_shift]; simp only [m_spec_l1Copy_l2]
      rw [wrap_id (n := (i : Int) + 1) (by omega), ix_nat hi]
      exact ev_ifT (by omega) (ev_ifT (by omega) (ev_ifT (by simp; omega) h'))) (by
      rw [ev_shift]; simp only [m_spec_l1Copy_l2]
      exact ev_ifF (by omega) (ev_some _)) v.names.length 0 (by omega)
    simpa using this

theorem copyTexts_eq (l : List Bs) (h : l.length ≤ 1048576) : m_impl_copyTexts l = some l := by
  unfold m_impl_copyTexts
  by_cases h0 : l = []
  · subst h0; rfl
  · have hp : 0 < l.length := List.length_pos_iff.2 h0
    rw [if_neg (by omega), if_pos (by omega), if_pos (by omega), if_pos ⟨by simp, h0⟩]
theorem spanOf_eq (l : List Val) : m_impl_spanOf l = some l := by
  unfold m_impl_spanOf
  by_cases h0 : l = []
  · subst h0; rfl
  · have hp : 0 < l.length := List.length_pos_iff.2 h0
    rw [if_neg (by omega), if_pos h0]
theorem ev_chain (y : List Val) : ∀ up : List (List Val), (∀ u ∈ up, u ≠ y) → Ev (fun k => m_impl_copyWithin_l1 k y up) (.go ())
  | [], h => by
    rw [ev_shift]; simp only [m_impl_copyWithin_l1]
    exact ev_ifT trivial (ev_some _)
  | u :: up, h => by
    rw [ev_shift]; simp only [m_impl_copyWithin_l1]
    exact ev_ifF (by simp) (ev_ifT (by simp) (ev_ifT (h u (by simp)) (ev_ifT (by simp) (ev_chain y up fun x hx => h x (by simp [hx])))))
theorem sizeOf_within {v x : Val} (h : x ∈ v.list) : SizeOf.sizeOf x.list < SizeOf.sizeOf v.list := by
  have h1 : SizeOf.sizeOf x < SizeOf.sizeOf v.list := List.sizeOf_lt_of_mem h
  have h2 : SizeOf.sizeOf x.list < SizeOf.sizeOf x := by
    obtain ⟨a, b, c, l, n⟩ := x
    simp only [Val.mk.sizeOf_spec, Val.list_mk]; omega
  omega
theorem ev_copyWithin : ∀ v : Val, Bd 1048576 v → ∀ up : List (List Val), (∀ u ∈ up, SizeOf.sizeOf v.list < SizeOf.sizeOf u) → Ev (fun k => m_impl_copyWithin k v up) v := by
  apply Val.ind
  intro v ih h up hup
  have hl := h.list
  have hn := h.names
  rw [ev_shift]; simp only [m_impl_copyWithin, copyTexts_eq v.names hn, spanOf_eq, Option.bind_some]
  by_cases h0 : v.list = []
  · exact ev_ifT (by rw [h0]; rfl) (ev_eq (ev_some _) (by obtain ⟨a, b, c, l, n⟩ := v; simp only [Val.list_mk] at h0; subst h0; rfl))
  · have hp : 0 < v.list.length := List.length_pos_iff.2 h0
    refine ev_ifF (by omega) (Ev.go (s := ()) (ev_chain v.list up fun u hu e => by have := hup u hu; rw [e] at this; omega) (ev_ifT (by omega) (ev_ifT (by omega) (Ev.go (s := v.list) ?_ (ev_eq (ev_some _) (by cases v; rfl))))))
    have := ev_copy (L := fun k x i => m_impl_copyWithin_l2 k v up v.list x i) v.list (Val.mk 0 0 ([] : Bs) [] []) (fun i x r hi hx h' => by
      rw [ev_shift]; simp only [m_impl_copyWithin_l2]
      rw [wrap_id (n := (i : Int) + 1) (by omega), ix_nat hi]
      refine ev_ifT (by omega) (ev_ifT (by omega) (Ev.bind (ih _ (List.getElem_mem hi) (h.within _ (List.getElem_mem hi)) (v.list :: up) (fun u hu => ?_)) (ev_ifT (by omega) (by simpa using h'))))
      have hs := sizeOf_within (List.getElem_mem hi)
      rcases List.mem_cons.1 hu with rfl | hu
      · exact hs
      · have := hup u hu; omega) (fun x => by
      rw [ev_shift]; simp only [m_impl_copyWithin_l2]
      exact ev_ifF (by omega) (ev_some _))
    simpa using this
end Go.Proofs.Ytiaigcdckmpepaa
end
