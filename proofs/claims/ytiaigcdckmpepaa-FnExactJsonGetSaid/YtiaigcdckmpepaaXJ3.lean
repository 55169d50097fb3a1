/- Parts of a proof, put together; the conditions stand in each theorem. -/
import Derived.Test.YtiaigcdckmpepaaXJ2
section
/-! Functions of the program. -/
set_option linter.unusedVariables false
set_option linter.unnecessarySimpa false
set_option maxRecDepth 100000
set_option maxHeartbeats 20000000
noncomputable section
namespace Go.Proofs.Ytiaigcdckmpepaa
open Go.Bb
def m_spec_l1In (a0 : Int) (a1 : Int) (a2 : Int) : Option Bool :=
 if a1 ≤ a0 then
  some (decide (a0 ≤ a2))
 else
  some false
theorem m_spec_l1In_ok : ∀ (a0 : Int) (a1 : Int) (a2 : Int) (r : Bool), m_spec_l1In a0 a1 a2 = some r → Does Try.prog 124 [.int .i64 a0, .int .i64 a1, .int .i64 a2] [] (ret (.bool r)) := by
 intro a0 a1 a2 r h
 rw [m_spec_l1In] at h
 refine does_of_good tabOk Try.func124 rfl (by decide +kernel) (Nat.le_of_ble_eq_true rfl) fun c => ?_
 refine Good.le (σ' := ⟨15, [(0, .int .i64 a0), (1, .int .i64 a1), (2, .int .i64 a2)], []⟩) (Le.refl _) ?_
 refine good_seq fun K1 hK1 => ?_
 refine rg 1 ?_
 refine g_nil (hK1 _ ?_)
 refine good_seq fun K2 hK2 => ?_
 refine rg 4 ?_
 rcases bsplit ((decide (a1 ≤ a0))) with hg1 | hg1
 ·replace h := ifT h (dT hg1)
  refine gs 5 ?_
  refine gk hK2 15 [6] [] ?_
  obtain rfl := Option.some.inj h
  exact rt
 ·replace h := ifF h (dF hg1)
  refine gs 5 ?_
  refine gk hK2 15 [6] [] ?_
  obtain rfl := Option.some.inj h
  exact rt
def m_spec_l1Letter (a0 : Int) : Option Bool :=
 if 97 ≤ a0 then
  if a0 ≤ 122 then
   some true
  else
   if 65 ≤ a0 then
    if a0 ≤ 90 then
     some true
    else
     some (decide (a0 = 95))
   else
    some (decide (a0 = 95))
 else
  if 65 ≤ a0 then
   if a0 ≤ 90 then
    some true
   else
    some (decide (a0 = 95))
  else
   some (decide (a0 = 95))
theorem m_spec_l1Letter_ok : ∀ (a0 : Int) (r : Bool), m_spec_l1Letter a0 = some r → Does Try.prog 116 [.int .u8 a0] [] (ret (.bool r)) := by
 intro a0 r h
 rw [m_spec_l1Letter] at h
 refine does_of_good tabOk Try.func116 rfl (by decide +kernel) (Nat.le_of_ble_eq_true rfl) fun c => ?_
 refine Good.le (σ' := ⟨21, [(0, .int .u8 a0)], []⟩) (Le.refl _) ?_
 refine good_seq fun K1 hK1 => ?_
 refine rg 1 ?_
 refine g_nil (hK1 _ ?_)
 refine good_seq fun K2 hK2 => ?_
 refine rg 3 ?_
 rcases bsplit ((decide (97 ≤ a0))) with hg1 | hg1
 ·replace h := ifT h (dT hg1)
  refine gs 4 ?_
  rcases bsplit ((decide (a0 ≤ 122))) with hg2 | hg2
  ·replace h := ifT h (dT hg2)
   refine gs 12 ?_
   refine gk hK2 21 [2] [] ?_
   obtain rfl := Option.some.inj h
   exact rt
  ·replace h := ifF h (dF hg2)
   refine gs 3 ?_
   rcases bsplit ((decide (65 ≤ a0))) with hg3 | hg3
   ·replace h := ifT h (dT hg3)
    refine gs 5 ?_
    rcases bsplit ((decide (a0 ≤ 90))) with hg4 | hg4
    ·replace h := ifT h (dT hg4)
     refine gs 4 ?_
     refine gk hK2 21 [2] [] ?_
     obtain rfl := Option.some.inj h
     exact rt
    ·replace h := ifF h (dF hg4)
     refine gs 4 ?_
     refine gk hK2 21 [2] [] ?_
     obtain rfl := Option.some.inj h
     exact rt
   ·replace h := ifF h (dF hg3)
    refine gs 9 ?_
    refine gk hK2 21 [2] [] ?_
    obtain rfl := Option.some.inj h
    exact rt
 ·replace h := ifF h (dF hg1)
  refine gs 7 ?_
  rcases bsplit ((decide (65 ≤ a0))) with hg5 | hg5
  ·replace h := ifT h (dT hg5)
   refine gs 5 ?_
   rcases bsplit ((decide (a0 ≤ 90))) with hg6 | hg6
   ·replace h := ifT h (dT hg6)
    refine gs 4 ?_
    refine gk hK2 21 [2] [] ?_
    obtain rfl := Option.some.inj h
    exact rt
   ·replace h := ifF h (dF hg6)
    refine gs 4 ?_
    refine gk hK2 21 [2] [] ?_
    obtain rfl := Option.some.inj h
    exact rt
  ·replace h := ifF h (dF hg5)
   refine gs 9 ?_
   refine gk hK2 21 [2] [] ?_
   obtain rfl := Option.some.inj h
   exact rt
def m_spec_l1Figure (a0 : Int) : Option Bool :=
 if 48 ≤ a0 then
  some (decide (a0 ≤ 57))
 else
  some false
theorem m_spec_l1Figure_ok : ∀ (a0 : Int) (r : Bool), m_spec_l1Figure a0 = some r → Does Try.prog 89 [.int .u8 a0] [] (ret (.bool r)) := by
 intro a0 r h
 rw [m_spec_l1Figure] at h
 refine does_of_good tabOk Try.func89 rfl (by decide +kernel) (Nat.le_of_ble_eq_true rfl) fun c => ?_
 refine Good.le (σ' := ⟨9, [(0, .int .u8 a0)], []⟩) (Le.refl _) ?_
 refine good_seq fun K1 hK1 => ?_
 refine rg 1 ?_
 refine g_nil (hK1 _ ?_)
 refine good_seq fun K2 hK2 => ?_
 refine rg 3 ?_
 rcases bsplit ((decide (48 ≤ a0))) with hg1 | hg1
 ·replace h := ifT h (dT hg1)
  refine gs 4 ?_
  refine gk hK2 9 [2] [] ?_
  obtain rfl := Option.some.inj h
  exact rt
 ·replace h := ifF h (dF hg1)
  refine gs 4 ?_
  refine gk hK2 9 [2] [] ?_
  obtain rfl := Option.some.inj h
  exact rt
def m_spec_l1Name_l1 : Nat → Bs → Int → Option (Lp Unit Bool)
 | 0, _, _ => none
 | k + 1, a0, x1 =>
  if x1 < (a0.length : Int) then
   (if (0 : Int) ≤ x1 ∧ x1 < (a0.length : Int) then
     (m_spec_l1Letter (byt a0 x1)).bind fun y2 =>
     if y2 = true then
      some (Lp.go false)
     else
      if x1 = 0 then
       some (Lp.go true)
      else
       if (0 : Int) ≤ x1 ∧ x1 < (a0.length : Int) then
        (m_spec_l1Figure (byt a0 x1)).bind fun y3 =>
        some (Lp.go (!y3))
       else none
    else none).bind fun o2 =>
   o2.then fun s2 =>
  if s2 = true then
   (some false).bind fun z =>
   some (Lp.ret z)
  else
   m_spec_l1Name_l1 k a0 (IntKind.wrap .i64 (x1 + 1))
  else
   some (Lp.go ())
def m_spec_l1Name (k : Nat) (a0 : Bs) : Option Bool :=
 (m_spec_l1Name_l1 k a0 0).bind fun o1 =>
 o1.then fun s1 =>
  (m_spec_l1In (a0.length : Int) 1 12).bind fun y1 =>
  some y1
theorem m_spec_l1Name_ok (k : Nat) : ∀ (a0 : Bs) (r : Bool), m_spec_l1Name k a0 = some r → Does Try.prog 125 [.str a0] [] (ret (.bool r)) := by
 intro a0 r h
 rw [m_spec_l1Name] at h
 refine does_of_good tabOk Try.func125 rfl (by decide +kernel) (Nat.le_of_ble_eq_true rfl) fun c => ?_
 refine Good.le (σ' := ⟨29, [(0, .str a0)], []⟩) (Le.refl _) ?_
 refine good_seq fun K1 hK1 => ?_
 refine rg 1 ?_
 refine g_nil (hK1 _ ?_)
 refine good_seq fun K2 hK2 => ?_
 refine good_seq fun K3 hK3 => ?_
 refine rg 1 ?_
 refine g_nil (hK3 _ ?_)
 obtain ⟨o1, ho1, hJ1⟩ := bnd h
 have hw1 : ∀ (s1 : Unit), o1 = Lp.go s1 → ∀ σ', Le σ' ⟨29, [(0, .str a0), (2, .bool false)], []⟩ → K2 σ' := by
  intro s1 e1 σ' hle1
  subst e1
  refine hK2 _ (Good.le hle1 ?_)
  replace h := hJ1
  refine good_seq fun K4 hK4 => ?_
  refine rg 2 ?_
  obtain ⟨y1, hy1, h⟩ := bnd h
  refine g_op rfl (o_callR [] [] (core_value rfl rfl) (m_spec_l1In_ok (a0.length : Int) 1 12 _ hy1) trivial (.cons (.refl _) (.cons (.refl _) (.cons (.refl _) (.nil)))) (.inl rfl) rfl ?_)
  refine gs 1 ?_
  refine gk hK4 29 [2] [] ?_
  obtain rfl := Option.some.inj h
  exact rt
 replace h := ho1
 refine good_block ?_
 refine good_loopf (fun p : Int => ⟨29, [(0, .str a0), (2, .bool false), (3, .int .i64 p)], []⟩) (fun m p => m_spec_l1Name_l1 m a0 p = some o1) k (0) (lw []) h ?_
 rintro m1 x1 h
 replace h : m_spec_l1Name_l1 m1 a0 x1 = some o1 := h
 refine Good.le (σ' := ⟨29, [(0, .str a0), (2, .bool false), (3, .int .i64 x1)], []⟩) (Le.refl _) ?_
 obtain ⟨m1, rfl⟩ : ∃ m', m1 = m' + 1 := by cases m1 with | zero => (rw [m_spec_l1Name_l1] at h; cases h) | succ m' => exact ⟨m', rfl⟩
 rw [m_spec_l1Name_l1] at h
 refine good_seq fun K5 hK5 => ?_
 refine good_seq fun K6 hK6 => ?_
 refine rg 4 ?_
 refine gk hK6 29 [0, 2, 3, 7] [] ?_
 refine good_cond rfl (fun hc1 => ?_) (fun hc1 => ?_)
 ·replace h := ifT h (dT hc1)
  refine good_skip ?_
  refine hK5 _ (kp 29 [0, 2, 3] [] ?_)
  refine good_seq fun K7 hK7 => ?_
  refine good_block ?_
  refine good_seq fun K8 hK8 => ?_
  obtain ⟨o2, ho2, hJ2⟩ := bnd h
  have hw2 : ∀ (s2 : Bool), o2 = Lp.go s2 → ∀ σ', Le σ' ⟨29, [(0, .str a0), (2, .bool false), (3, .int .i64 x1), (25, .bool s2)], []⟩ → K8 σ' := by
   intro s2 e2 σ' hle2
   subst e2
   refine hK8 _ (Good.le hle2 ?_)
   replace h := hJ2
   refine good_cond rfl (fun hc2 => ?_) (fun hc2 => ?_)
   ·replace h := ifT h hc2
    refine good_seq fun K9 hK9 => ?_
    refine rg 1 ?_
    refine gk hK9 29 [0, 2, 3] [] ?_
    replace h := unret h hJ1
    obtain rfl := Option.some.inj h
    exact rt
   ·replace h := bF h hc2
    refine good_skip ?_
    refine hK7 _ (kp 29 [0, 2, 3] [] ?_)
    refine rg 3 ?_
    refine g_nil ?_
    exact round_mk m1 (IntKind.wrap .i64 (x1 + 1)) (Nat.lt_succ_self _) h (lw [])
  replace h := ho2
  refine rg 2 ?_
  obtain ⟨hb1, h⟩ := ifS h
  refine gs 1 ?_
  obtain ⟨y2, hy2, h⟩ := bnd h
  refine g_op rfl (o_callR [] [] (core_value rfl rfl) (m_spec_l1Letter_ok (byt a0 x1) _ hy2) trivial (.cons (.refl _) (.nil)) (.inl rfl) rfl ?_)
  refine gs 2 ?_
  rcases bsplit ((!y2)) with hg1 | hg1
  ·replace h := bF h (nT hg1)
   refine gs 3 ?_
   rcases bsplit ((decide (x1 = 0))) with hg2 | hg2
   ·replace h := ifT h (dT hg2)
    refine gs 7 ?_
    refine g_nil ?_
    exact hw2 true (Option.some.inj h).symm _ (lw [])
   ·replace h := ifF h (dF hg2)
    refine gs 2 ?_
    obtain ⟨hb2, h⟩ := ifS h
    refine gs 1 ?_
    obtain ⟨y3, hy3, h⟩ := bnd h
    refine g_yes rfl rfl hg2 (o_callR [] [] (core_value rfl rfl) (m_spec_l1Figure_ok (byt a0 x1) _ hy3) trivial (.cons (.refl _) (.nil)) (.inl rfl) rfl ?_)
    refine gs 3 ?_
    refine g_nil ?_
    exact hw2 (!y3) (Option.some.inj h).symm _ (lw [])
  ·replace h := ifT h (nF hg1)
   refine gs 10 ?_
   refine g_nil ?_
   exact hw2 false (Option.some.inj h).symm _ (lw [])
 ·replace h := ifF h (dF hc1)
  refine good_exit ?_
  exact hw1 () (Option.some.inj h).symm _ (lw [])
def m_spec_l1Once_l2 : Nat → (List Bs) → Int → Int → Option (Lp Unit (Lp Unit Bool))
 | 0, _, _, _ => none
 | k + 1, a0, x1, x2 =>
  if x2 < x1 then
   if (0 : Int) ≤ x2 ∧ x2 < (a0.length : Int) then
    if (0 : Int) ≤ x1 ∧ x1 < (a0.length : Int) then
     if (ix a0 x2) = (ix a0 x1) then
      ((some false).bind fun z =>
       some (Lp.ret z)).bind fun z =>
      some (Lp.ret z)
     else
      m_spec_l1Once_l2 k a0 x1 (IntKind.wrap .i64 (x2 + 1))
    else none
   else none
  else
   some (Lp.go ())
def m_spec_l1Once_l1 : Nat → (List Bs) → Int → Option (Lp Unit Bool)
 | 0, _, _ => none
 | k + 1, a0, x1 =>
  if x1 < (a0.length : Int) then
   if (0 : Int) ≤ x1 ∧ x1 < (a0.length : Int) then
    (m_spec_l1Name k (ix a0 x1)).bind fun y1 =>
    if y1 = true then
     (m_spec_l1Once_l2 k a0 x1 0).bind fun o2 =>
     o2.then fun s2 =>
  m_spec_l1Once_l1 k a0 (IntKind.wrap .i64 (x1 + 1))
    else
     (some false).bind fun z =>
     some (Lp.ret z)
   else none
  else
   some (Lp.go ())
def m_spec_l1Once (k : Nat) (a0 : (List Bs)) : Option Bool :=
 (m_spec_l1Once_l1 k a0 0).bind fun o1 =>
 o1.then fun s1 =>
  some true
theorem m_spec_l1Once_ok (k : Nat) : ∀ (a0 : (List Bs)) (r : Bool), m_spec_l1Once k a0 = some r → Does Try.prog 104 [.sl false (a0.map encS)] [] (ret (.bool r)) := by
 intro a0 r h
 rw [m_spec_l1Once] at h
 refine does_of_good tabOk Try.func104 rfl (by decide +kernel) (Nat.le_of_ble_eq_true rfl) fun c => ?_
 refine Good.le (σ' := ⟨31, [(0, .sl false (a0.map encS))], []⟩) (Le.refl _) ?_
 refine good_seq fun K1 hK1 => ?_
 refine rg 1 ?_
 refine g_nil (hK1 _ ?_)
 refine good_seq fun K2 hK2 => ?_
 refine good_seq fun K3 hK3 => ?_
 refine rg 1 ?_
 refine g_nil (hK3 _ ?_)
 obtain ⟨o1, ho1, hJ1⟩ := bnd h
 have hw1 : ∀ (s1 : Unit), o1 = Lp.go s1 → ∀ σ', Le σ' ⟨31, [(2, .bool false)], []⟩ → K2 σ' := by
  intro s1 e1 σ' hle1
  subst e1
  refine hK2 _ (Good.le hle1 ?_)
  replace h := hJ1
  refine good_seq fun K4 hK4 => ?_
  refine rg 1 ?_
  refine g_nil (hK4 _ ?_)
  obtain rfl := Option.some.inj h
  exact rt
 replace h := ho1
 refine good_block ?_
 refine good_loopf (fun p : Int => ⟨31, [(0, .sl false (a0.map encS)), (2, .bool false), (3, .int .i64 p)], []⟩) (fun m p => m_spec_l1Once_l1 m a0 p = some o1) k (0) (lw []) h ?_
 rintro m1 x1 h
 replace h : m_spec_l1Once_l1 m1 a0 x1 = some o1 := h
 refine Good.le (σ' := ⟨31, [(0, .sl false (a0.map encS)), (2, .bool false), (3, .int .i64 x1)], []⟩) (Le.refl _) ?_
 obtain ⟨m1, rfl⟩ : ∃ m', m1 = m' + 1 := by cases m1 with | zero => (rw [m_spec_l1Once_l1] at h; cases h) | succ m' => exact ⟨m', rfl⟩
 rw [m_spec_l1Once_l1] at h
 refine good_seq fun K5 hK5 => ?_
 refine good_seq fun K6 hK6 => ?_
 refine rg 2 ?_
 refine g_op rfl (ValOk.op (v_lenM (l := a0) (f := encS) tabOk rfl rfl telem23 rfl ?_))
 refine gs 1 ?_
 refine gk hK6 31 [0, 2, 3, 8] [] ?_
 refine good_cond rfl (fun hc1 => ?_) (fun hc1 => ?_)
 ·replace h := ifT h (dT hc1)
  refine good_skip ?_
  refine hK5 _ (kp 31 [0, 2, 3] [] ?_)
  refine good_seq fun K7 hK7 => ?_
  refine good_block ?_
  refine good_seq fun K8 hK8 => ?_
  refine good_seq fun K9 hK9 => ?_
  refine rg 2 ?_
  obtain ⟨hb1, h⟩ := ifS h
  refine g_op rfl (ValOk.op (v_idxM tabOk rfl rfl telem23 tsize9 hb1 rfl rfl rfl ?_))
  refine gs 1 ?_
  obtain ⟨y1, hy1, h⟩ := bnd h
  refine g_op rfl (o_callR [] [] (core_value rfl rfl) (m_spec_l1Name_ok m1 (ix a0 x1) _ hy1) trivial (.cons (.refl _) (.nil)) (.inl rfl) rfl ?_)
  refine gs 1 ?_
  refine gk hK9 31 [0, 2, 3, 16] [] ?_
  refine good_cond rfl (fun hc2 => ?_) (fun hc2 => ?_)
  ·replace h := bF h (nT hc2)
   refine good_seq fun K10 hK10 => ?_
   refine rg 1 ?_
   refine gk hK10 31 [0, 2, 3] [] ?_
   replace h := unret h hJ1
   obtain rfl := Option.some.inj h
   exact rt
  ·replace h := ifT h (nF hc2)
   refine good_skip ?_
   refine hK8 _ (kp 31 [0, 2, 3] [] ?_)
   refine good_seq fun K11 hK11 => ?_
   refine rg 1 ?_
   refine g_nil (hK11 _ ?_)
   obtain ⟨o2, ho2, hJ2⟩ := bnd h
   have hw2 : ∀ (s2 : Unit), o2 = Lp.go s2 → ∀ σ', Le σ' ⟨31, [(0, .sl false (a0.map encS)), (2, .bool false), (3, .int .i64 x1)], []⟩ → K7 σ' := by
    intro s2 e2 σ' hle2
    subst e2
    refine hK7 _ (Good.le hle2 ?_)
    replace h := hJ2
    refine rg 3 ?_
    refine g_nil ?_
    exact round_mk m1 (IntKind.wrap .i64 (x1 + 1)) (Nat.lt_succ_self _) h (lw [])
   replace h := ho2
   refine good_block ?_
   refine good_loopf (fun p : Int => ⟨31, [(0, .sl false (a0.map encS)), (2, .bool false), (3, .int .i64 x1), (4, .int .i64 p)], []⟩) (fun m p => m_spec_l1Once_l2 m a0 x1 p = some o2) m1 (0) (lw []) h ?_
   rintro m2 x2 h
   replace h : m_spec_l1Once_l2 m2 a0 x1 x2 = some o2 := h
   refine Good.le (σ' := ⟨31, [(0, .sl false (a0.map encS)), (2, .bool false), (3, .int .i64 x1), (4, .int .i64 x2)], []⟩) (Le.refl _) ?_
   obtain ⟨m2, rfl⟩ : ∃ m', m2 = m' + 1 := by cases m2 with | zero => (rw [m_spec_l1Once_l2] at h; cases h) | succ m' => exact ⟨m', rfl⟩
   rw [m_spec_l1Once_l2] at h
   refine good_seq fun K12 hK12 => ?_
   refine good_seq fun K13 hK13 => ?_
   refine rg 3 ?_
   refine gk hK13 31 [0, 2, 3, 4, 19] [] ?_
   refine good_cond rfl (fun hc3 => ?_) (fun hc3 => ?_)
   ·replace h := ifT h (dT hc3)
    refine good_skip ?_
    refine hK12 _ (kp 31 [0, 2, 3, 4] [] ?_)
    refine good_seq fun K14 hK14 => ?_
    refine good_block ?_
    refine good_seq fun K15 hK15 => ?_
    refine good_draw (by kernel_rfl) (by kernel_rfl) ?_
    refine q_op rfl (v_move rfl rfl ?_)
    refine q_op rfl (v_move rfl rfl ?_)
    obtain ⟨hb2, h⟩ := ifS h
    refine q_op rfl (v_idxM tabOk rfl rfl telem23 tsize9 hb2 rfl rfl rfl ?_)
    refine q_op rfl (v_loadE tabOk rfl tsize9 tagg9 rfl rfl rfl ?_)
    refine q_op rfl (v_move rfl rfl ?_)
    refine q_op rfl (v_move rfl rfl ?_)
    obtain ⟨hb3, h⟩ := ifS h
    refine q_op rfl (v_idxM tabOk rfl rfl telem23 tsize9 hb3 rfl rfl rfl ?_)
    refine q_op rfl (v_loadE tabOk rfl tsize9 tagg9 rfl rfl rfl ?_)
    refine q_op rfl (v_bin rfl rfl rfl rfl ?_)
    refine q_nil ?_
    refine hK15 _ (kp 31 [0, 2, 3, 4, 30] [] ?_)
    refine good_cond rfl (fun hc4 => ?_) (fun hc4 => ?_)
    ·replace h := ifT h (dT hc4)
     refine good_seq fun K16 hK16 => ?_
     refine rg 1 ?_
     refine gk hK16 31 [0, 2, 3, 4] [] ?_
     replace h := unret h hJ2
     replace h := unret h hJ1
     obtain rfl := Option.some.inj h
     exact rt
    ·replace h := ifF h (dF hc4)
     refine good_skip ?_
     refine hK14 _ (kp 31 [0, 2, 3, 4] [] ?_)
     refine rg 3 ?_
     refine g_nil ?_
     exact round_mk m2 (IntKind.wrap .i64 (x2 + 1)) (Nat.lt_succ_self _) h (lw [])
   ·replace h := ifF h (dF hc3)
    refine good_exit ?_
    exact hw2 () (Option.some.inj h).symm _ (lw [])
 ·replace h := ifF h (dF hc1)
  refine good_exit ?_
  exact hw1 () (Option.some.inj h).symm _ (lw [])
def m_slices_Index_string_string_l1 : Nat → (List Bs) → Bs → Int → Option (Lp Unit Int)
 | 0, _, _, _ => none
 | k + 1, a0, a1, x1 =>
  if x1 < (a0.length : Int) then
   if (0 : Int) ≤ x1 ∧ x1 < (a0.length : Int) then
    if a1 = (ix a0 x1) then
     (some x1).bind fun z =>
     some (Lp.ret z)
    else
     m_slices_Index_string_string_l1 k a0 a1 (IntKind.wrap .i64 (x1 + 1))
   else none
  else
   some (Lp.go ())
def m_slices_Index_string_string (k : Nat) (a0 : (List Bs)) (a1 : Bs) : Option Int :=
 (m_slices_Index_string_string_l1 k a0 a1 0).bind fun o1 =>
 o1.then fun s1 =>
  some (-1)
theorem m_slices_Index_string_string_ok (k : Nat) : ∀ (a0 : (List Bs)) (a1 : Bs) (r : Int), m_slices_Index_string_string k a0 a1 = some r → Does Try.prog 84 [.sl false (a0.map encS), .str a1] [] (ret (.int .i64 r)) := by
 intro a0 a1 r h
 rw [m_slices_Index_string_string] at h
 refine does_of_good tabOk Try.func84 rfl (by decide +kernel) (Nat.le_of_ble_eq_true rfl) fun c => ?_
 refine Good.le (σ' := ⟨19, [(0, .sl false (a0.map encS)), (1, .str a1)], []⟩) (Le.refl _) ?_
 refine good_seq fun K1 hK1 => ?_
 refine rg 1 ?_
 refine g_nil (hK1 _ ?_)
 refine good_seq fun K2 hK2 => ?_
 refine good_seq fun K3 hK3 => ?_
 refine rg 1 ?_
 refine g_op rfl (ValOk.op (v_lenM (l := a0) (f := encS) tabOk rfl rfl telem23 rfl ?_))
 refine gs 1 ?_
 refine gk hK3 19 [0, 1, 4, 7, 8] [] ?_
 obtain ⟨o1, ho1, hJ1⟩ := bnd h
 have hw1 : ∀ (s1 : Unit), o1 = Lp.go s1 → ∀ σ', Le σ' ⟨19, [(4, .int .i64 0)], []⟩ → K2 σ' := by
  intro s1 e1 σ' hle1
  subst e1
  refine hK2 _ (Good.le hle1 ?_)
  replace h := hJ1
  refine good_seq fun K4 hK4 => ?_
  refine rg 1 ?_
  refine g_nil (hK4 _ ?_)
  obtain rfl := Option.some.inj h
  exact rt
 replace h := ho1
 refine good_block ?_
 refine good_loopf (fun p : Int => ⟨19, [(0, .sl false (a0.map encS)), (1, .str a1), (4, .int .i64 0), (7, .int .i64 (a0.length : Int)), (8, .int .i64 p)], []⟩) (fun m p => m_slices_Index_string_string_l1 m a0 a1 p = some o1) k (0) (lw []) h ?_
 rintro m1 x1 h
 replace h : m_slices_Index_string_string_l1 m1 a0 a1 x1 = some o1 := h
 refine Good.le (σ' := ⟨19, [(0, .sl false (a0.map encS)), (1, .str a1), (4, .int .i64 0), (7, .int .i64 (a0.length : Int)), (8, .int .i64 x1)], []⟩) (Le.refl _) ?_
 obtain ⟨m1, rfl⟩ : ∃ m', m1 = m' + 1 := by cases m1 with | zero => (rw [m_slices_Index_string_string_l1] at h; cases h) | succ m' => exact ⟨m', rfl⟩
 rw [m_slices_Index_string_string_l1] at h
 refine good_seq fun K5 hK5 => ?_
 refine rg 1 ?_
 refine g_nil (hK5 _ ?_)
 refine good_seq fun K6 hK6 => ?_
 refine good_cond rfl (fun hc1 => ?_) (fun hc1 => ?_)
 ·replace h := ifT h (dT hc1)
  refine good_skip ?_
  refine hK6 _ (kp 19 [0, 1, 4, 7, 8] [] ?_)
  refine good_seq fun K7 hK7 => ?_
  refine good_block ?_
  refine good_seq fun K8 hK8 => ?_
  refine rg 2 ?_
  refine gk hK8 19 [0, 1, 4, 5, 7, 8] [] ?_
  refine good_seq fun K9 hK9 => ?_
  refine rg 3 ?_
  obtain ⟨hb1, h⟩ := ifS h
  refine g_op rfl (ValOk.op (v_idxM tabOk rfl rfl telem23 tsize9 hb1 rfl rfl rfl ?_))
  refine gs 2 ?_
  refine gk hK9 19 [0, 1, 4, 5, 7, 8, 16] [] ?_
  refine good_cond rfl (fun hc2 => ?_) (fun hc2 => ?_)
  ·replace h := ifT h (dT hc2)
   refine good_seq fun K10 hK10 => ?_
   refine rg 2 ?_
   refine gk hK10 19 [0, 1, 4, 7, 8] [] ?_
   replace h := unret h hJ1
   obtain rfl := Option.some.inj h
   exact rt
  ·replace h := ifF h (dF hc2)
   refine good_skip ?_
   refine hK7 _ (kp 19 [0, 1, 4, 7, 8] [] ?_)
   refine rg 2 ?_
   refine g_nil ?_
   exact round_mk m1 (IntKind.wrap .i64 (x1 + 1)) (Nat.lt_succ_self _) h (lw [])
 ·replace h := ifF h (dF hc1)
  refine good_exit ?_
  exact hw1 () (Option.some.inj h).symm _ (lw [])
def m_slices_Contains_string_string (k : Nat) (a0 : (List Bs)) (a1 : Bs) : Option Bool :=
 (m_slices_Index_string_string k a0 a1).bind fun y1 =>
 some (decide (0 ≤ y1))
theorem m_slices_Contains_string_string_ok (k : Nat) : ∀ (a0 : (List Bs)) (a1 : Bs) (r : Bool), m_slices_Contains_string_string k a0 a1 = some r → Does Try.prog 144 [.sl false (a0.map encS), .str a1] [] (ret (.bool r)) := by
 intro a0 a1 r h
 rw [m_slices_Contains_string_string] at h
 refine does_of_good tabOk Try.func144 rfl (by decide +kernel) (Nat.le_of_ble_eq_true rfl) fun c => ?_
 refine Good.le (σ' := ⟨9, [(0, .sl false (a0.map encS)), (1, .str a1)], []⟩) (Le.refl _) ?_
 refine good_seq fun K1 hK1 => ?_
 refine rg 1 ?_
 refine g_nil (hK1 _ ?_)
 refine good_seq fun K2 hK2 => ?_
 refine rg 2 ?_
 obtain ⟨y1, hy1, h⟩ := bnd h
 refine g_op rfl (o_callR [] [] (core_value rfl rfl) (m_slices_Index_string_string_ok k a0 a1 _ hy1) trivial (.cons (.refl _) (.cons (.refl _) (.nil))) (.inl rfl) rfl ?_)
 refine gs 2 ?_
 refine gk hK2 9 [4] [] ?_
 obtain rfl := Option.some.inj h
 exact rt
def m_impl_isFigure (a0 : Int) : Option Bool :=
 if 48 ≤ a0 then
  some (decide (a0 ≤ 57))
 else
  some false
theorem m_impl_isFigure_ok : ∀ (a0 : Int) (r : Bool), m_impl_isFigure a0 = some r → Does Try.prog 120 [.int .u8 a0] [] (ret (.bool r)) := by
 intro a0 r h
 rw [m_impl_isFigure] at h
 refine does_of_good tabOk Try.func120 rfl (by decide +kernel) (Nat.le_of_ble_eq_true rfl) fun c => ?_
 refine Good.le (σ' := ⟨9, [(0, .int .u8 a0)], []⟩) (Le.refl _) ?_
 refine good_seq fun K1 hK1 => ?_
 refine rg 1 ?_
 refine g_nil (hK1 _ ?_)
 refine good_seq fun K2 hK2 => ?_
 refine rg 3 ?_
 rcases bsplit ((decide (48 ≤ a0))) with hg1 | hg1
 ·replace h := ifT h (dT hg1)
  refine gs 4 ?_
  refine gk hK2 9 [2] [] ?_
  obtain rfl := Option.some.inj h
  exact rt
 ·replace h := ifF h (dF hg1)
  refine gs 4 ?_
  refine gk hK2 9 [2] [] ?_
  obtain rfl := Option.some.inj h
  exact rt
def m_impl_isWordByte (a0 : Int) : Option Bool :=
 if 97 ≤ a0 then
  if a0 ≤ 122 then
   some true
  else
   if 65 ≤ a0 then
    if a0 ≤ 90 then
     some true
    else
     if a0 = 95 then
      some true
     else
      (m_impl_isFigure a0).bind fun y1 =>
      some y1
   else
    if a0 = 95 then
     some true
    else
     (m_impl_isFigure a0).bind fun y2 =>
     some y2
 else
  if 65 ≤ a0 then
   if a0 ≤ 90 then
    some true
   else
    if a0 = 95 then
     some true
    else
     (m_impl_isFigure a0).bind fun y3 =>
     some y3
  else
   if a0 = 95 then
    some true
   else
    (m_impl_isFigure a0).bind fun y4 =>
    some y4
theorem m_impl_isWordByte_ok : ∀ (a0 : Int) (r : Bool), m_impl_isWordByte a0 = some r → Does Try.prog 121 [.int .u8 a0] [] (ret (.bool r)) := by
 intro a0 r h
 rw [m_impl_isWordByte] at h
 refine does_of_good tabOk Try.func121 rfl (by decide +kernel) (Nat.le_of_ble_eq_true rfl) fun c => ?_
 refine Good.le (σ' := ⟨25, [(0, .int .u8 a0)], []⟩) (Le.refl _) ?_
 refine good_seq fun K1 hK1 => ?_
 refine rg 1 ?_
 refine g_nil (hK1 _ ?_)
 refine good_seq fun K2 hK2 => ?_
 refine rg 3 ?_
 rcases bsplit ((decide (97 ≤ a0))) with hg1 | hg1
 ·replace h := ifT h (dT hg1)
  refine gs 4 ?_
  rcases bsplit ((decide (a0 ≤ 122))) with hg2 | hg2
  ·replace h := ifT h (dT hg2)
   refine gs 16 ?_
   refine gk hK2 25 [2] [] ?_
   obtain rfl := Option.some.inj h
   exact rt
  ·replace h := ifF h (dF hg2)
   refine gs 3 ?_
   rcases bsplit ((decide (65 ≤ a0))) with hg3 | hg3
   ·replace h := ifT h (dT hg3)
    refine gs 5 ?_
    rcases bsplit ((decide (a0 ≤ 90))) with hg4 | hg4
    ·replace h := ifT h (dT hg4)
     refine gs 8 ?_
     refine gk hK2 25 [2] [] ?_
     obtain rfl := Option.some.inj h
     exact rt
    ·replace h := ifF h (dF hg4)
     refine gs 4 ?_
     rcases bsplit ((decide (a0 = 95))) with hg5 | hg5
     ·replace h := ifT h (dT hg5)
      refine gs 4 ?_
      refine gk hK2 25 [2] [] ?_
      obtain rfl := Option.some.inj h
      exact rt
     ·replace h := ifF h (dF hg5)
      refine gs 1 ?_
      obtain ⟨y1, hy1, h⟩ := bnd h
      refine g_yes rfl rfl hg5 (o_callR [] [] (core_value rfl rfl) (m_impl_isFigure_ok a0 _ hy1) trivial (.cons (.refl _) (.nil)) (.inl rfl) rfl ?_)
      refine gs 2 ?_
      refine gk hK2 25 [2] [] ?_
      obtain rfl := Option.some.inj h
      exact rt
   ·replace h := ifF h (dF hg3)
    refine gs 9 ?_
    rcases bsplit ((decide (a0 = 95))) with hg6 | hg6
    ·replace h := ifT h (dT hg6)
     refine gs 4 ?_
     refine gk hK2 25 [2] [] ?_
     obtain rfl := Option.some.inj h
     exact rt
    ·replace h := ifF h (dF hg6)
     refine gs 1 ?_
     obtain ⟨y2, hy2, h⟩ := bnd h
     refine g_yes rfl rfl hg6 (o_callR [] [] (core_value rfl rfl) (m_impl_isFigure_ok a0 _ hy2) trivial (.cons (.refl _) (.nil)) (.inl rfl) rfl ?_)
     refine gs 2 ?_
     refine gk hK2 25 [2] [] ?_
     obtain rfl := Option.some.inj h
     exact rt
 ·replace h := ifF h (dF hg1)
  refine gs 7 ?_
  rcases bsplit ((decide (65 ≤ a0))) with hg7 | hg7
  ·replace h := ifT h (dT hg7)
   refine gs 5 ?_
   rcases bsplit ((decide (a0 ≤ 90))) with hg8 | hg8
   ·replace h := ifT h (dT hg8)
    refine gs 8 ?_
    refine gk hK2 25 [2] [] ?_
    obtain rfl := Option.some.inj h
    exact rt
   ·replace h := ifF h (dF hg8)
    refine gs 4 ?_
    rcases bsplit ((decide (a0 = 95))) with hg9 | hg9
    ·replace h := ifT h (dT hg9)
     refine gs 4 ?_
     refine gk hK2 25 [2] [] ?_
     obtain rfl := Option.some.inj h
     exact rt
    ·replace h := ifF h (dF hg9)
     refine gs 1 ?_
     obtain ⟨y3, hy3, h⟩ := bnd h
     refine g_yes rfl rfl hg9 (o_callR [] [] (core_value rfl rfl) (m_impl_isFigure_ok a0 _ hy3) trivial (.cons (.refl _) (.nil)) (.inl rfl) rfl ?_)
     refine gs 2 ?_
     refine gk hK2 25 [2] [] ?_
     obtain rfl := Option.some.inj h
     exact rt
  ·replace h := ifF h (dF hg7)
   refine gs 9 ?_
   rcases bsplit ((decide (a0 = 95))) with hg10 | hg10
   ·replace h := ifT h (dT hg10)
    refine gs 4 ?_
    refine gk hK2 25 [2] [] ?_
    obtain rfl := Option.some.inj h
    exact rt
   ·replace h := ifF h (dF hg10)
    refine gs 1 ?_
    obtain ⟨y4, hy4, h⟩ := bnd h
    refine g_yes rfl rfl hg10 (o_callR [] [] (core_value rfl rfl) (m_impl_isFigure_ok a0 _ hy4) trivial (.cons (.refl _) (.nil)) (.inl rfl) rfl ?_)
    refine gs 2 ?_
    refine gk hK2 25 [2] [] ?_
    obtain rfl := Option.some.inj h
    exact rt
def m_impl_isName_l1 : Nat → Bs → Int → Option (Lp Unit Bool)
 | 0, _, _ => none
 | k + 1, a0, x1 =>
  if x1 < (a0.length : Int) then
   if (0 : Int) ≤ x1 ∧ x1 < (a0.length : Int) then
    (m_impl_isWordByte (byt a0 x1)).bind fun y1 =>
    if y1 = true then
     m_impl_isName_l1 k a0 (IntKind.wrap .i64 (x1 + 1))
    else
     (some false).bind fun z =>
     some (Lp.ret z)
   else none
  else
   some (Lp.go ())
def m_impl_isName (k : Nat) (a0 : Bs) : Option Bool :=
 (if (a0.length : Int) < 1 then
   some (Lp.go true)
  else
   if 12 < (a0.length : Int) then
    some (Lp.go true)
   else
    if (0 : Int) ≤ 0 ∧ 0 < (a0.length : Int) then
     (m_impl_isFigure (byt a0 0)).bind fun y2 =>
     some (Lp.go y2)
    else none).bind fun o1 =>
 o1.then fun s1 =>
  if s1 = true then
   some false
  else
   (m_impl_isName_l1 k a0 0).bind fun o2 =>
   o2.then fun s2 =>
  some true
theorem m_impl_isName_ok (k : Nat) : ∀ (a0 : Bs) (r : Bool), m_impl_isName k a0 = some r → Does Try.prog 127 [.str a0] [] (ret (.bool r)) := by
 intro a0 r h
 rw [m_impl_isName] at h
 refine does_of_good tabOk Try.func127 rfl (by decide +kernel) (Nat.le_of_ble_eq_true rfl) fun c => ?_
 refine Good.le (σ' := ⟨28, [(0, .str a0)], []⟩) (Le.refl _) ?_
 refine good_seq fun K1 hK1 => ?_
 refine rg 1 ?_
 refine g_nil (hK1 _ ?_)
 refine good_seq fun K2 hK2 => ?_
 refine good_seq fun K3 hK3 => ?_
 obtain ⟨o1, ho1, hJ1⟩ := bnd h
 have hw1 : ∀ (s1 : Bool), o1 = Lp.go s1 → ∀ σ', Le σ' ⟨28, [(0, .str a0), (2, .bool false), (16, .bool s1)], []⟩ → K3 σ' := by
  intro s1 e1 σ' hle1
  subst e1
  refine hK3 _ (Good.le hle1 ?_)
  replace h := hJ1
  refine good_cond rfl (fun hc1 => ?_) (fun hc1 => ?_)
  ·replace h := ifT h hc1
   refine good_seq fun K4 hK4 => ?_
   refine rg 1 ?_
   refine gk hK4 28 [0, 2] [] ?_
   obtain rfl := Option.some.inj h
   exact rt
  ·replace h := bF h hc1
   refine good_skip ?_
   refine hK2 _ (kp 28 [0, 2] [] ?_)
   refine good_seq fun K5 hK5 => ?_
   refine good_seq fun K6 hK6 => ?_
   refine rg 3 ?_
   refine gk hK6 28 [0, 2, 18, 19] [] ?_
   obtain ⟨o2, ho2, hJ2⟩ := bnd h
   have hw2 : ∀ (s2 : Unit), o2 = Lp.go s2 → ∀ σ', Le σ' ⟨28, [(2, .bool false)], []⟩ → K5 σ' := by
    intro s2 e2 σ' hle2
    subst e2
    refine hK5 _ (Good.le hle2 ?_)
    replace h := hJ2
    refine good_seq fun K7 hK7 => ?_
    refine rg 1 ?_
    refine g_nil (hK7 _ ?_)
    obtain rfl := Option.some.inj h
    exact rt
   replace h := ho2
   refine good_block ?_
   refine good_loopf (fun p : Int => ⟨28, [(0, .str a0), (2, .bool false), (18, .int .i64 (a0.length : Int)), (19, .int .i64 p)], []⟩) (fun m p => m_impl_isName_l1 m a0 p = some o2) k (0) (lw []) h ?_
   rintro m1 x1 h
   replace h : m_impl_isName_l1 m1 a0 x1 = some o2 := h
   refine Good.le (σ' := ⟨28, [(0, .str a0), (2, .bool false), (18, .int .i64 (a0.length : Int)), (19, .int .i64 x1)], []⟩) (Le.refl _) ?_
   obtain ⟨m1, rfl⟩ : ∃ m', m1 = m' + 1 := by cases m1 with | zero => (rw [m_impl_isName_l1] at h; cases h) | succ m' => exact ⟨m', rfl⟩
   rw [m_impl_isName_l1] at h
   refine good_seq fun K8 hK8 => ?_
   refine rg 1 ?_
   refine g_nil (hK8 _ ?_)
   refine good_seq fun K9 hK9 => ?_
   refine good_cond rfl (fun hc2 => ?_) (fun hc2 => ?_)
   ·replace h := ifT h (dT hc2)
    refine good_skip ?_
    refine hK9 _ (kp 28 [0, 2, 18, 19] [] ?_)
    refine good_seq fun K10 hK10 => ?_
    refine good_block ?_
    refine good_seq fun K11 hK11 => ?_
    refine rg 2 ?_
    refine gk hK11 28 [0, 2, 3, 18, 19] [] ?_
    refine good_seq fun K12 hK12 => ?_
    refine rg 2 ?_
    obtain ⟨hb1, h⟩ := ifS h
    refine gs 1 ?_
    obtain ⟨y1, hy1, h⟩ := bnd h
    refine g_op rfl (o_callR [] [] (core_value rfl rfl) (m_impl_isWordByte_ok (byt a0 x1) _ hy1) trivial (.cons (.refl _) (.nil)) (.inl rfl) rfl ?_)
    refine gs 1 ?_
    refine gk hK12 28 [0, 2, 18, 19, 26] [] ?_
    refine good_cond rfl (fun hc3 => ?_) (fun hc3 => ?_)
    ·replace h := bF h (nT hc3)
     refine good_seq fun K13 hK13 => ?_
     refine rg 1 ?_
     refine gk hK13 28 [0, 2, 18, 19] [] ?_
     replace h := unret h hJ2
     obtain rfl := Option.some.inj h
     exact rt
    ·replace h := ifT h (nF hc3)
     refine good_skip ?_
     refine hK10 _ (kp 28 [0, 2, 18, 19] [] ?_)
     refine rg 2 ?_
     refine g_nil ?_
     exact round_mk m1 (IntKind.wrap .i64 (x1 + 1)) (Nat.lt_succ_self _) h (lw [])
   ·replace h := ifF h (dF hc2)
    refine good_exit ?_
    exact hw2 () (Option.some.inj h).symm _ (lw [])
 replace h := ho1
 refine rg 4 ?_
 rcases bsplit ((decide ((a0.length : Int) < 1))) with hg1 | hg1
 ·replace h := ifT h (dT hg1)
  refine gs 9 ?_
  refine g_nil ?_
  exact hw1 true (Option.some.inj h).symm _ (lw [])
 ·replace h := ifF h (dF hg1)
  refine gs 5 ?_
  rcases bsplit ((decide (12 < (a0.length : Int)))) with hg2 | hg2
  ·replace h := ifT h (dT hg2)
   refine gs 4 ?_
   refine g_nil ?_
   exact hw1 true (Option.some.inj h).symm _ (lw [])
  ·replace h := ifF h (dF hg2)
   refine gs 1 ?_
   obtain ⟨hb2, h⟩ := ifS h
   refine gs 1 ?_
   obtain ⟨y2, hy2, h⟩ := bnd h
   refine g_yes rfl rfl hg2 (o_callR [] [] (core_value rfl rfl) (m_impl_isFigure_ok (byt a0 0) _ hy2) trivial (.cons (.refl _) (.nil)) (.inl rfl) rfl ?_)
   refine gs 1 ?_
   refine g_nil ?_
   exact hw1 y2 (Option.some.inj h).symm _ (lw [])
def m_impl_namesOnce_l1 : Nat → (List Bs) → Int → Option (Lp Unit Bool)
 | 0, _, _ => none
 | k + 1, a0, x1 =>
  if x1 < (a0.length : Int) then
   if (0 : Int) ≤ x1 ∧ x1 < (a0.length : Int) then
    ((m_impl_isName k (ix a0 x1)).bind fun y1 =>
     if y1 = true then
      if (0 : Int) ≤ 0 ∧ (0 : Int) ≤ x1 ∧ x1 ≤ (a0.length : Int) then
       (m_slices_Contains_string_string k (sub a0 0 x1) (ix a0 x1)).bind fun y2 =>
       some (Lp.go y2)
      else none
     else
      some (Lp.go true)).bind fun o2 =>
    o2.then fun s2 =>
  if s2 = true then
   (some false).bind fun z =>
   some (Lp.ret z)
  else
   m_impl_namesOnce_l1 k a0 (IntKind.wrap .i64 (x1 + 1))
   else none
  else
   some (Lp.go ())
def m_impl_namesOnce (k : Nat) (a0 : (List Bs)) : Option Bool :=
 (m_impl_namesOnce_l1 k a0 0).bind fun o1 =>
 o1.then fun s1 =>
  some true
theorem m_impl_namesOnce_ok (k : Nat) : ∀ (a0 : (List Bs)) (r : Bool), m_impl_namesOnce k a0 = some r → Does Try.prog 126 [.sl false (a0.map encS)] [] (ret (.bool r)) := by
 intro a0 r h
 rw [m_impl_namesOnce] at h
 refine does_of_good tabOk Try.func126 rfl (by decide +kernel) (Nat.le_of_ble_eq_true rfl) fun c => ?_
 refine Good.le (σ' := ⟨23, [(0, .sl false (a0.map encS))], []⟩) (Le.refl _) ?_
 refine good_seq fun K1 hK1 => ?_
 refine rg 1 ?_
 refine g_nil (hK1 _ ?_)
 refine good_seq fun K2 hK2 => ?_
 refine good_seq fun K3 hK3 => ?_
 refine rg 1 ?_
 refine g_op rfl (ValOk.op (v_lenM (l := a0) (f := encS) tabOk rfl rfl telem23 rfl ?_))
 refine gs 1 ?_
 refine g_nil (hK3 _ ?_)
 obtain ⟨o1, ho1, hJ1⟩ := bnd h
 have hw1 : ∀ (s1 : Unit), o1 = Lp.go s1 → ∀ σ', Le σ' ⟨23, [(2, .bool false)], []⟩ → K2 σ' := by
  intro s1 e1 σ' hle1
  subst e1
  refine hK2 _ (Good.le hle1 ?_)
  replace h := hJ1
  refine good_seq fun K4 hK4 => ?_
  refine rg 1 ?_
  refine g_nil (hK4 _ ?_)
  obtain rfl := Option.some.inj h
  exact rt
 replace h := ho1
 refine good_block ?_
 refine good_loopf (fun p : Int => ⟨23, [(0, .sl false (a0.map encS)), (2, .bool false), (5, .sl false (a0.map encS)), (6, .int .i64 (a0.length : Int)), (7, .int .i64 p)], []⟩) (fun m p => m_impl_namesOnce_l1 m a0 p = some o1) k (0) (lw []) h ?_
 rintro m1 x1 h
 replace h : m_impl_namesOnce_l1 m1 a0 x1 = some o1 := h
 refine Good.le (σ' := ⟨23, [(0, .sl false (a0.map encS)), (2, .bool false), (5, .sl false (a0.map encS)), (6, .int .i64 (a0.length : Int)), (7, .int .i64 x1)], []⟩) (Le.refl _) ?_
 obtain ⟨m1, rfl⟩ : ∃ m', m1 = m' + 1 := by cases m1 with | zero => (rw [m_impl_namesOnce_l1] at h; cases h) | succ m' => exact ⟨m', rfl⟩
 rw [m_impl_namesOnce_l1] at h
 refine good_seq fun K5 hK5 => ?_
 refine rg 1 ?_
 refine g_nil (hK5 _ ?_)
 refine good_seq fun K6 hK6 => ?_
 refine good_cond rfl (fun hc1 => ?_) (fun hc1 => ?_)
 ·replace h := ifT h (dT hc1)
  refine good_skip ?_
  refine hK6 _ (kp 23 [0, 2, 5, 6, 7] [] ?_)
  refine good_seq fun K7 hK7 => ?_
  refine good_block ?_
  refine good_seq fun K8 hK8 => ?_
  refine rg 1 ?_
  obtain ⟨hb1, h⟩ := ifS h
  refine g_op rfl (ValOk.op (v_idxM tabOk rfl rfl telem23 tsize9 hb1 rfl rfl rfl ?_))
  refine gs 3 ?_
  refine gk hK8 23 [0, 2, 3, 4, 5, 6, 7] [] ?_
  refine good_seq fun K9 hK9 => ?_
  obtain ⟨o2, ho2, hJ2⟩ := bnd h
  have hw2 : ∀ (s2 : Bool), o2 = Lp.go s2 → ∀ σ', Le σ' ⟨23, [(0, .sl false (a0.map encS)), (2, .bool false), (5, .sl false (a0.map encS)), (6, .int .i64 (a0.length : Int)), (7, .int .i64 x1), (21, .bool s2)], []⟩ → K9 σ' := by
   intro s2 e2 σ' hle2
   subst e2
   refine hK9 _ (Good.le hle2 ?_)
   replace h := hJ2
   refine good_cond rfl (fun hc2 => ?_) (fun hc2 => ?_)
   ·replace h := ifT h hc2
    refine good_seq fun K10 hK10 => ?_
    refine rg 1 ?_
    refine gk hK10 23 [0, 2, 5, 6, 7] [] ?_
    replace h := unret h hJ1
    obtain rfl := Option.some.inj h
    exact rt
   ·replace h := bF h hc2
    refine good_skip ?_
    refine hK7 _ (kp 23 [0, 2, 5, 6, 7] [] ?_)
    refine rg 2 ?_
    refine g_nil ?_
    exact round_mk m1 (IntKind.wrap .i64 (x1 + 1)) (Nat.lt_succ_self _) h (lw [])
  replace h := ho2
  refine rg 1 ?_
  obtain ⟨y1, hy1, h⟩ := bnd h
  refine g_op rfl (o_callR [] [] (core_value rfl rfl) (m_impl_isName_ok m1 (ix a0 x1) _ hy1) trivial (.cons (.refl _) (.nil)) (.inl rfl) rfl ?_)
  refine gs 2 ?_
  rcases bsplit ((!y1)) with hg1 | hg1
  ·replace h := bF h (nT hg1)
   refine gs 6 ?_
   refine g_nil ?_
   exact hw2 true (Option.some.inj h).symm _ (lw [])
  ·replace h := ifT h (nF hg1)
   refine gs 2 ?_
   obtain ⟨hb2, h⟩ := ifS h
   refine g_yes rfl rfl hg1 (ValOk.op (v_sliceM (l := a0) (f := encS) tabOk rfl rfl rfl rfl telem23 tsize9 encS_len hb2 rfl ?_))
   refine gs 1 ?_
   obtain ⟨y2, hy2, h⟩ := bnd h
   refine g_yes rfl rfl hg1 (o_callR [] [] (core_value rfl rfl) (m_slices_Contains_string_string_ok m1 (sub a0 0 x1) (ix a0 x1) _ hy2) trivial (.cons (.refl _) (.cons (.refl _) (.nil))) (.inl rfl) rfl ?_)
   refine gs 1 ?_
   refine g_nil ?_
   exact hw2 y2 (Option.some.inj h).symm _ (lw [])
 ·replace h := ifF h (dF hc1)
  refine good_exit ?_
  exact hw1 () (Option.some.inj h).symm _ (lw [])
end Go.Proofs.Ytiaigcdckmpepaa
end
end
section
/-! Functions of the program. -/
set_option linter.unusedVariables false
set_option linter.unnecessarySimpa false
set_option maxRecDepth 100000
set_option maxHeartbeats 20000000
noncomputable section
namespace Go.Proofs.Ytiaigcdckmpepaa
open Go.Bb
def m_spec_l1Plain (k : Nat) (a0 : Val) : Option Bool :=
 if a0.kind = 0 then
  if a0.num = 0 then
   if a0.text = [] then
    some (decide ((IntKind.wrap .i64 ((a0.list.length : Int) + (a0.names.length : Int))) = 0))
   else
    some false
  else
   some false
 else
  if a0.kind = 1 then
   (m_spec_l1In a0.num 0 1).bind fun y1 =>
   if y1 = true then
    if a0.text = [] then
     some (decide ((IntKind.wrap .i64 ((a0.list.length : Int) + (a0.names.length : Int))) = 0))
    else
     some false
   else
    some false
  else
   if a0.kind = 2 then
    (m_spec_l1In a0.num (-2147483647) 2147483647).bind fun y2 =>
    if y2 = true then
     if a0.text = [] then
      some (decide ((IntKind.wrap .i64 ((a0.list.length : Int) + (a0.names.length : Int))) = 0))
     else
      some false
    else
     some false
   else
    if a0.kind = 3 then
     if a0.num = 0 then
      if (a0.text.length : Int) ≤ 40 then
       some (decide ((IntKind.wrap .i64 ((a0.list.length : Int) + (a0.names.length : Int))) = 0))
      else
       some false
     else
      some false
    else
     if a0.kind = 4 then
      if a0.num = 0 then
       if a0.text = [] then
        if (a0.names.length : Int) = 0 then
         some (decide ((a0.list.length : Int) ≤ 12))
        else
         some false
       else
        some false
      else
       some false
     else
      if a0.kind = 5 then
       if a0.num = 0 then
        if a0.text = [] then
         if (a0.names.length : Int) = (a0.list.length : Int) then
          some (decide ((a0.list.length : Int) ≤ 12))
         else
          some false
        else
         some false
       else
        some false
      else
       (if a0.kind = 6 then
         some (Lp.go (decide (a0.kind = 6)))
        else
         some (Lp.go (decide (a0.kind = 7)))).bind fun o1 =>
       o1.then fun s1 =>
  if s1 = true then
   if a0.num = 0 then
    (m_spec_l1Name k a0.text).bind fun y3 =>
    if y3 = true then
     some (decide ((IntKind.wrap .i64 ((a0.list.length : Int) + (a0.names.length : Int))) = 0))
    else
     some false
   else
    some false
  else
   some false
theorem m_spec_l1Plain_ok (k : Nat) : ∀ (a0 : Val) (r : Bool), m_spec_l1Plain k a0 = some r → Does Try.prog 103 [.agg [.int .i64 a0.kind, .int .i64 a0.num, .str a0.text, .sl true (a0.list.map encVal), .sl false (a0.names.map encS)]] [] (ret (.bool r)) := by
 intro a0 r h
 rw [m_spec_l1Plain] at h
 refine does_of_good tabOk Try.func103 rfl (by decide +kernel) (Nat.le_of_ble_eq_true rfl) fun c => ?_
 refine Good.le (σ' := ⟨154, [(0, .agg [.int .i64 a0.kind, .int .i64 a0.num, .str a0.text, .sl true (a0.list.map encVal), .sl false (a0.names.map encS)])], []⟩) (Le.refl _) ?_
 refine good_seq fun K1 hK1 => ?_
 refine good_region ?_
 refine g_op rfl (o_box (k := 11) tabOk rfl rfl rfl rfl rfl ?_)
 intro b1
 refine gs 1 ?_
 refine gk hK1 154 [1, 2] [11] ?_
 refine good_seq fun K2 hK2 => ?_
 refine good_seq fun K3 hK3 => ?_
 refine rg 2 ?_
 refine gk hK3 154 [1, 2, 4] [11] ?_
 refine good_block ?_
 refine good_seq fun K4 hK4 => ?_
 refine rg 2 ?_
 refine gk hK4 154 [1, 2, 4, 5] [11] ?_
 refine good_cond rfl (fun hc1 => ?_) (fun hc1 => ?_)
 ·replace h := ifT h (dT hc1)
  refine good_seq fun K5 hK5 => ?_
  refine rg 4 ?_
  rcases bsplit ((decide (a0.num = 0))) with hg1 | hg1
  ·replace h := ifT h (dT hg1)
   refine gs 5 ?_
   rcases bsplit ((decide (a0.text = []))) with hg2 | hg2
   ·replace h := ifT h (dT hg2)
    refine gs 2 ?_
    refine g_yes rfl rfl hg2 (ValOk.op (v_lenM (l := a0.list) (f := encVal) tabOk rfl rfl telem28 rfl ?_))
    refine gs 2 ?_
    refine g_yes rfl rfl hg2 (ValOk.op (v_lenM (l := a0.names) (f := encS) tabOk rfl rfl telem23 rfl ?_))
    refine gs 4 ?_
    refine gk hK5 154 [2] [] ?_
    obtain rfl := Option.some.inj h
    exact rt
   ·replace h := ifF h (dF hg2)
    refine gs 10 ?_
    refine gk hK5 154 [2] [] ?_
    obtain rfl := Option.some.inj h
    exact rt
  ·replace h := ifF h (dF hg1)
   refine gs 15 ?_
   refine gk hK5 154 [2] [] ?_
   obtain rfl := Option.some.inj h
   exact rt
 ·replace h := ifF h (dF hc1)
  refine good_seq fun K6 hK6 => ?_
  refine rg 2 ?_
  refine gk hK6 154 [1, 2, 4, 25] [11] ?_
  refine good_cond rfl (fun hc2 => ?_) (fun hc2 => ?_)
  ·replace h := ifT h (dT hc2)
   refine good_seq fun K7 hK7 => ?_
   refine rg 2 ?_
   obtain ⟨y1, hy1, h⟩ := bnd h
   refine g_op rfl (o_callR [] [] (core_value rfl rfl) (m_spec_l1In_ok a0.num 0 1 _ hy1) trivial (.cons (.refl _) (.cons (.refl _) (.cons (.refl _) (.nil)))) (.inl rfl) rfl ?_)
   refine gs 1 ?_
   rcases bsplit (y1) with hg3 | hg3
   ·replace h := ifT h hg3
    refine gs 5 ?_
    rcases bsplit ((decide (a0.text = []))) with hg4 | hg4
    ·replace h := ifT h (dT hg4)
     refine gs 2 ?_
     refine g_yes rfl rfl hg4 (ValOk.op (v_lenM (l := a0.list) (f := encVal) tabOk rfl rfl telem28 rfl ?_))
     refine gs 2 ?_
     refine g_yes rfl rfl hg4 (ValOk.op (v_lenM (l := a0.names) (f := encS) tabOk rfl rfl telem23 rfl ?_))
     refine gs 4 ?_
     refine gk hK7 154 [2] [] ?_
     obtain rfl := Option.some.inj h
     exact rt
    ·replace h := ifF h (dF hg4)
     refine gs 10 ?_
     refine gk hK7 154 [2] [] ?_
     obtain rfl := Option.some.inj h
     exact rt
   ·replace h := bF h hg3
    refine gs 15 ?_
    refine gk hK7 154 [2] [] ?_
    obtain rfl := Option.some.inj h
    exact rt
  ·replace h := ifF h (dF hc2)
   refine good_seq fun K8 hK8 => ?_
   refine rg 2 ?_
   refine gk hK8 154 [1, 2, 4, 45] [11] ?_
   refine good_cond rfl (fun hc3 => ?_) (fun hc3 => ?_)
   ·replace h := ifT h (dT hc3)
    refine good_seq fun K9 hK9 => ?_
    refine rg 2 ?_
    obtain ⟨y2, hy2, h⟩ := bnd h
    refine g_op rfl (o_callR [] [] (core_value rfl rfl) (m_spec_l1In_ok a0.num (-2147483647) 2147483647 _ hy2) trivial (.cons (.refl _) (.cons (.refl _) (.cons (.refl _) (.nil)))) (.inl rfl) rfl ?_)
    refine gs 1 ?_
    rcases bsplit (y2) with hg5 | hg5
    ·replace h := ifT h hg5
     refine gs 5 ?_
     rcases bsplit ((decide (a0.text = []))) with hg6 | hg6
     ·replace h := ifT h (dT hg6)
      refine gs 2 ?_
      refine g_yes rfl rfl hg6 (ValOk.op (v_lenM (l := a0.list) (f := encVal) tabOk rfl rfl telem28 rfl ?_))
      refine gs 2 ?_
      refine g_yes rfl rfl hg6 (ValOk.op (v_lenM (l := a0.names) (f := encS) tabOk rfl rfl telem23 rfl ?_))
      refine gs 4 ?_
      refine gk hK9 154 [2] [] ?_
      obtain rfl := Option.some.inj h
      exact rt
     ·replace h := ifF h (dF hg6)
      refine gs 10 ?_
      refine gk hK9 154 [2] [] ?_
      obtain rfl := Option.some.inj h
      exact rt
    ·replace h := bF h hg5
     refine gs 15 ?_
     refine gk hK9 154 [2] [] ?_
     obtain rfl := Option.some.inj h
     exact rt
   ·replace h := ifF h (dF hc3)
    refine good_seq fun K10 hK10 => ?_
    refine rg 2 ?_
    refine gk hK10 154 [1, 2, 4, 65] [11] ?_
    refine good_cond rfl (fun hc4 => ?_) (fun hc4 => ?_)
    ·replace h := ifT h (dT hc4)
     refine good_seq fun K11 hK11 => ?_
     refine rg 4 ?_
     rcases bsplit ((decide (a0.num = 0))) with hg7 | hg7
     ·replace h := ifT h (dT hg7)
      refine gs 6 ?_
      rcases bsplit ((decide ((a0.text.length : Int) ≤ 40))) with hg8 | hg8
      ·replace h := ifT h (dT hg8)
       refine gs 2 ?_
       refine g_yes rfl rfl hg8 (ValOk.op (v_lenM (l := a0.list) (f := encVal) tabOk rfl rfl telem28 rfl ?_))
       refine gs 2 ?_
       refine g_yes rfl rfl hg8 (ValOk.op (v_lenM (l := a0.names) (f := encS) tabOk rfl rfl telem23 rfl ?_))
       refine gs 4 ?_
       refine gk hK11 154 [2] [] ?_
       obtain rfl := Option.some.inj h
       exact rt
      ·replace h := ifF h (dF hg8)
       refine gs 10 ?_
       refine gk hK11 154 [2] [] ?_
       obtain rfl := Option.some.inj h
       exact rt
     ·replace h := ifF h (dF hg7)
      refine gs 16 ?_
      refine gk hK11 154 [2] [] ?_
      obtain rfl := Option.some.inj h
      exact rt
    ·replace h := ifF h (dF hc4)
     refine good_seq fun K12 hK12 => ?_
     refine rg 2 ?_
     refine gk hK12 154 [1, 2, 4, 86] [11] ?_
     refine good_cond rfl (fun hc5 => ?_) (fun hc5 => ?_)
     ·replace h := ifT h (dT hc5)
      refine good_seq fun K13 hK13 => ?_
      refine rg 4 ?_
      rcases bsplit ((decide (a0.num = 0))) with hg9 | hg9
      ·replace h := ifT h (dT hg9)
       refine gs 5 ?_
       rcases bsplit ((decide (a0.text = []))) with hg10 | hg10
       ·replace h := ifT h (dT hg10)
        refine gs 2 ?_
        refine g_yes rfl rfl hg10 (ValOk.op (v_lenM (l := a0.names) (f := encS) tabOk rfl rfl telem23 rfl ?_))
        refine gs 3 ?_
        rcases bsplit ((decide ((a0.names.length : Int) = 0))) with hg11 | hg11
        ·replace h := ifT h (dT hg11)
         refine gs 2 ?_
         refine g_yes rfl rfl hg11 (ValOk.op (v_lenM (l := a0.list) (f := encVal) tabOk rfl rfl telem28 rfl ?_))
         refine gs 3 ?_
         refine gk hK13 154 [2] [] ?_
         obtain rfl := Option.some.inj h
         exact rt
        ·replace h := ifF h (dF hg11)
         refine gs 6 ?_
         refine gk hK13 154 [2] [] ?_
         obtain rfl := Option.some.inj h
         exact rt
       ·replace h := ifF h (dF hg10)
        refine gs 12 ?_
        refine gk hK13 154 [2] [] ?_
        obtain rfl := Option.some.inj h
        exact rt
      ·replace h := ifF h (dF hg9)
       refine gs 17 ?_
       refine gk hK13 154 [2] [] ?_
       obtain rfl := Option.some.inj h
       exact rt
     ·replace h := ifF h (dF hc5)
      refine good_seq fun K14 hK14 => ?_
      refine rg 2 ?_
      refine gk hK14 154 [1, 2, 4, 108] [11] ?_
      refine good_cond rfl (fun hc6 => ?_) (fun hc6 => ?_)
      ·replace h := ifT h (dT hc6)
       refine good_seq fun K15 hK15 => ?_
       refine rg 4 ?_
       rcases bsplit ((decide (a0.num = 0))) with hg12 | hg12
       ·replace h := ifT h (dT hg12)
        refine gs 5 ?_
        rcases bsplit ((decide (a0.text = []))) with hg13 | hg13
        ·replace h := ifT h (dT hg13)
         refine gs 2 ?_
         refine g_yes rfl rfl hg13 (ValOk.op (v_lenM (l := a0.names) (f := encS) tabOk rfl rfl telem23 rfl ?_))
         refine gs 2 ?_
         refine g_yes rfl rfl hg13 (ValOk.op (v_lenM (l := a0.list) (f := encVal) tabOk rfl rfl telem28 rfl ?_))
         refine gs 3 ?_
         rcases bsplit ((decide ((a0.names.length : Int) = (a0.list.length : Int)))) with hg14 | hg14
         ·replace h := ifT h (dT hg14)
          refine gs 2 ?_
          refine g_yes rfl rfl hg14 (ValOk.op (v_lenM (l := a0.list) (f := encVal) tabOk rfl rfl telem28 rfl ?_))
          refine gs 3 ?_
          refine gk hK15 154 [2] [] ?_
          obtain rfl := Option.some.inj h
          exact rt
         ·replace h := ifF h (dF hg14)
          refine gs 6 ?_
          refine gk hK15 154 [2] [] ?_
          obtain rfl := Option.some.inj h
          exact rt
        ·replace h := ifF h (dF hg13)
         refine gs 15 ?_
         refine gk hK15 154 [2] [] ?_
         obtain rfl := Option.some.inj h
         exact rt
       ·replace h := ifF h (dF hg12)
        refine gs 20 ?_
        refine gk hK15 154 [2] [] ?_
        obtain rfl := Option.some.inj h
        exact rt
      ·replace h := ifF h (dF hc6)
       refine good_seq fun K16 hK16 => ?_
       obtain ⟨o1, ho1, hJ1⟩ := bnd h
       have hw1 : ∀ (s1 : Bool), o1 = Lp.go s1 → ∀ σ', Le σ' ⟨154, [(1, .ptr 11 b1 0), (2, .bool false), (133, .bool s1)], [(11, ((.pointer (some ⟨b1, 0, none⟩)), .optr 30 [.int .i64 a0.kind, .int .i64 a0.num, .str a0.text, .sl true (a0.list.map encVal), .sl false (a0.names.map encS)]))]⟩ → K16 σ' := by
        intro s1 e1 σ' hle1
        subst e1
        refine hK16 _ (Good.le hle1 ?_)
        replace h := hJ1
        refine good_cond rfl (fun hc7 => ?_) (fun hc7 => ?_)
        ·replace h := ifT h hc7
         refine good_seq fun K17 hK17 => ?_
         refine rg 4 ?_
         rcases bsplit ((decide (a0.num = 0))) with hg15 | hg15
         ·replace h := ifT h (dT hg15)
          refine gs 2 ?_
          obtain ⟨y3, hy3, h⟩ := bnd h
          refine g_yes rfl rfl hg15 (o_callR [] [] (core_value rfl rfl) (m_spec_l1Name_ok k a0.text _ hy3) trivial (.cons (.refl _) (.nil)) (.inl rfl) rfl ?_)
          refine gs 2 ?_
          rcases bsplit (y3) with hg16 | hg16
          ·replace h := ifT h hg16
           refine gs 2 ?_
           refine g_yes rfl rfl hg16 (ValOk.op (v_lenM (l := a0.list) (f := encVal) tabOk rfl rfl telem28 rfl ?_))
           refine gs 2 ?_
           refine g_yes rfl rfl hg16 (ValOk.op (v_lenM (l := a0.names) (f := encS) tabOk rfl rfl telem23 rfl ?_))
           refine gs 4 ?_
           refine gk hK17 154 [2] [] ?_
           obtain rfl := Option.some.inj h
           exact rt
          ·replace h := bF h hg16
           refine gs 10 ?_
           refine gk hK17 154 [2] [] ?_
           obtain rfl := Option.some.inj h
           exact rt
         ·replace h := ifF h (dF hg15)
          refine gs 15 ?_
          refine gk hK17 154 [2] [] ?_
          obtain rfl := Option.some.inj h
          exact rt
        ·replace h := bF h hc7
         refine good_skip ?_
         refine hK2 _ (kp 154 [2] [] ?_)
         refine good_seq fun K18 hK18 => ?_
         refine rg 1 ?_
         refine g_nil (hK18 _ ?_)
         obtain rfl := Option.some.inj h
         exact rt
       replace h := ho1
       refine good_seq fun K19 hK19 => ?_
       refine rg 2 ?_
       refine gk hK19 154 [1, 2, 4, 133] [11] ?_
       refine good_cond rfl (fun hc8 => ?_) (fun hc8 => ?_)
       ·replace h := ifT h (dT hc8)
        refine good_skip ?_
        exact hw1 (decide (a0.kind = 6)) (Option.some.inj h).symm _ (lw [some 11])
       ·replace h := ifF h (dF hc8)
        refine rg 2 ?_
        refine g_nil ?_
        exact hw1 (decide (a0.kind = 7)) (Option.some.inj h).symm _ (lw [some 11])
mutual
def m_spec_l1Ok_l1 : Nat → Val → Int → Bool → Int → Option (Lp Unit Bool)
 | 0, _, _, _, _ => none
 | k + 1, a0, a1, a2, x1 =>
  if x1 < (a0.list.length : Int) then
   if (0 : Int) ≤ x1 ∧ x1 < (a0.list.length : Int) then
    (m_spec_l1Ok k (ix a0.list x1) (IntKind.wrap .i64 (a1 - 1)) a2).bind fun y1 =>
    if y1 = true then
     m_spec_l1Ok_l1 k a0 a1 a2 (IntKind.wrap .i64 (x1 + 1))
    else
     (some false).bind fun z =>
     some (Lp.ret z)
   else none
  else
   some (Lp.go ())
def m_spec_l1Ok : Nat → Val → Int → Bool → Option Bool
 | 0, _, _, _ => none
 | k + 1, a0, a1, a2 =>
  (if a1 < 1 then
    some (Lp.go true)
   else
    (m_spec_l1Plain k a0).bind fun y2 =>
    if y2 = true then
     if a2 = true then
      (m_spec_l1Once k a0.names).bind fun y4 =>
      some (Lp.go (!y4))
     else
      if 5 < a0.kind then
       some (Lp.go true)
      else
       (m_spec_l1Once k a0.names).bind fun y3 =>
       some (Lp.go (!y3))
    else
     some (Lp.go true)).bind fun o1 =>
  o1.then fun s1 =>
  if s1 = true then
   some false
  else
   (m_spec_l1Ok_l1 k a0 a1 a2 0).bind fun o2 =>
   o2.then fun s2 =>
  some true
end
def P_m_spec_l1Ok (k : Nat) : Prop := ∀ (a0 : Val) (a1 : Int) (a2 : Bool) (r : Bool), m_spec_l1Ok k a0 a1 a2 = some r → Does Try.prog 70 [.agg [.int .i64 a0.kind, .int .i64 a0.num, .str a0.text, .sl true (a0.list.map encVal), .sl false (a0.names.map encS)], .int .i64 a1, .bool a2] [] (ret (.bool r))
theorem m_spec_l1Ok_step (k : Nat) (ih : ∀ m, m < k → P_m_spec_l1Ok m) : P_m_spec_l1Ok k := by
 intro a0 a1 a2 r h
 obtain ⟨k, rfl⟩ : ∃ k', k = k' + 1 := by cases k with | zero => (rw [m_spec_l1Ok] at h; cases h) | succ k' => exact ⟨k', rfl⟩
 rw [m_spec_l1Ok] at h
 refine does_of_good tabOk Try.func70 rfl (by decide +kernel) (Nat.le_of_ble_eq_true rfl) fun c => ?_
 refine Good.le (σ' := ⟨47, [(0, .agg [.int .i64 a0.kind, .int .i64 a0.num, .str a0.text, .sl true (a0.list.map encVal), .sl false (a0.names.map encS)]), (1, .int .i64 a1), (2, .bool a2)], []⟩) (Le.refl _) ?_
 refine good_seq fun K1 hK1 => ?_
 refine good_region ?_
 refine g_op rfl (o_box (k := 13) tabOk rfl rfl rfl rfl rfl ?_)
 intro b1
 refine gs 1 ?_
 refine gk hK1 47 [1, 2, 3, 6] [13] ?_
 refine good_seq fun K2 hK2 => ?_
 refine good_seq fun K3 hK3 => ?_
 obtain ⟨o1, ho1, hJ1⟩ := bnd h
 have hw1 : ∀ (s1 : Bool), o1 = Lp.go s1 → ∀ σ', Le σ' ⟨47, [(1, .int .i64 a1), (2, .bool a2), (3, .ptr 13 b1 0), (6, .bool false), (29, .bool s1)], [(13, ((.pointer (some ⟨b1, 0, none⟩)), .optr 30 [.int .i64 a0.kind, .int .i64 a0.num, .str a0.text, .sl true (a0.list.map encVal), .sl false (a0.names.map encS)]))]⟩ → K3 σ' := by
  intro s1 e1 σ' hle1
  subst e1
  refine hK3 _ (Good.le hle1 ?_)
  replace h := hJ1
  refine good_cond rfl (fun hc1 => ?_) (fun hc1 => ?_)
  ·replace h := ifT h hc1
   refine good_seq fun K4 hK4 => ?_
   refine rg 1 ?_
   refine gk hK4 47 [1, 2, 3, 6] [13] ?_
   obtain rfl := Option.some.inj h
   exact rt
  ·replace h := bF h hc1
   refine good_skip ?_
   refine hK2 _ (kp 47 [1, 2, 3, 6] [13] ?_)
   refine good_seq fun K5 hK5 => ?_
   refine good_seq fun K6 hK6 => ?_
   refine rg 1 ?_
   refine g_nil (hK6 _ ?_)
   obtain ⟨o2, ho2, hJ2⟩ := bnd h
   have hw2 : ∀ (s2 : Unit), o2 = Lp.go s2 → ∀ σ', Le σ' ⟨47, [(6, .bool false)], []⟩ → K5 σ' := by
    intro s2 e2 σ' hle2
    subst e2
    refine hK5 _ (Good.le hle2 ?_)
    replace h := hJ2
    refine good_seq fun K7 hK7 => ?_
    refine rg 1 ?_
    refine g_nil (hK7 _ ?_)
    obtain rfl := Option.some.inj h
    exact rt
   replace h := ho2
   refine good_block ?_
   refine good_loopf (fun p : Int => ⟨47, [(1, .int .i64 a1), (2, .bool a2), (3, .ptr 13 b1 0), (6, .bool false), (7, .int .i64 p)], [(13, ((.pointer (some ⟨b1, 0, none⟩)), .optr 30 [.int .i64 a0.kind, .int .i64 a0.num, .str a0.text, .sl true (a0.list.map encVal), .sl false (a0.names.map encS)]))]⟩) (fun m p => m < k + 1 ∧ m_spec_l1Ok_l1 m a0 a1 a2 p = some o2) k (0) (lw [some 13]) ⟨by omega, h⟩ ?_
   rintro m1 x1 ⟨hm, h⟩
   replace h : m_spec_l1Ok_l1 m1 a0 a1 a2 x1 = some o2 := h
   refine Good.le (σ' := ⟨47, [(1, .int .i64 a1), (2, .bool a2), (3, .ptr 13 b1 0), (6, .bool false), (7, .int .i64 x1)], [(13, ((.pointer (some ⟨b1, 0, none⟩)), .optr 30 [.int .i64 a0.kind, .int .i64 a0.num, .str a0.text, .sl true (a0.list.map encVal), .sl false (a0.names.map encS)]))]⟩) (Le.refl _) ?_
   obtain ⟨m1, rfl⟩ : ∃ m', m1 = m' + 1 := by cases m1 with | zero => (rw [m_spec_l1Ok_l1] at h; cases h) | succ m' => exact ⟨m', rfl⟩
   rw [m_spec_l1Ok_l1] at h
   refine good_seq fun K8 hK8 => ?_
   refine good_seq fun K9 hK9 => ?_
   refine rg 3 ?_
   refine g_op rfl (ValOk.op (v_lenM (l := a0.list) (f := encVal) tabOk rfl rfl telem28 rfl ?_))
   refine gs 1 ?_
   refine gk hK9 47 [1, 2, 3, 6, 7, 34] [13] ?_
   refine good_cond rfl (fun hc2 => ?_) (fun hc2 => ?_)
   ·replace h := ifT h (dT hc2)
    refine good_skip ?_
    refine hK8 _ (kp 47 [1, 2, 3, 6, 7] [13] ?_)
    refine good_seq fun K10 hK10 => ?_
    refine good_block ?_
    refine good_seq fun K11 hK11 => ?_
    refine rg 3 ?_
    obtain ⟨hb1, h⟩ := ifS h
    refine g_op rfl (ValOk.op (v_idxM tabOk rfl rfl telem28 tsize30 hb1 (encVal_eq _) rfl rfl ?_))
    refine gs 4 ?_
    obtain ⟨y1, hy1, h⟩ := bnd h
    refine g_op rfl (o_callR [] [] (core_value rfl rfl) ((ih m1 (by omega)) (ix a0.list x1) (IntKind.wrap .i64 (a1 - 1)) a2 _ hy1) trivial (.cons (.refl _) (.cons (.refl _) (.cons (.refl _) (.nil)))) (.inl rfl) rfl ?_)
    refine gs 1 ?_
    refine gk hK11 47 [1, 2, 3, 6, 7, 46] [13] ?_
    refine good_cond rfl (fun hc3 => ?_) (fun hc3 => ?_)
    ·replace h := bF h (nT hc3)
     refine good_seq fun K12 hK12 => ?_
     refine rg 1 ?_
     refine gk hK12 47 [1, 2, 3, 6, 7] [13] ?_
     replace h := unret h hJ2
     obtain rfl := Option.some.inj h
     exact rt
    ·replace h := ifT h (nF hc3)
     refine good_skip ?_
     refine hK10 _ (kp 47 [1, 2, 3, 6, 7] [13] ?_)
     refine rg 3 ?_
     refine g_nil ?_
     exact round_mk m1 (IntKind.wrap .i64 (x1 + 1)) (Nat.lt_succ_self _) ⟨by omega, h⟩ (lw [some 13])
   ·replace h := ifF h (dF hc2)
    refine good_exit ?_
    exact hw2 () (Option.some.inj h).symm _ (lw [])
 replace h := ho1
 refine rg 3 ?_
 rcases bsplit ((decide (a1 < 1))) with hg1 | hg1
 ·replace h := ifT h (dT hg1)
  refine gs 19 ?_
  refine g_nil ?_
  exact hw1 true (Option.some.inj h).symm _ (lw [some 13])
 ·replace h := ifF h (dF hg1)
  refine gs 1 ?_
  obtain ⟨y2, hy2, h⟩ := bnd h
  refine g_yes rfl rfl hg1 (o_callR [] [] (core_value rfl rfl) (m_spec_l1Plain_ok k a0 _ hy2) trivial (.cons (.refl _) (.nil)) (.inl rfl) rfl ?_)
  refine gs 3 ?_
  rcases bsplit ((!y2)) with hg2 | hg2
  ·replace h := bF h (nT hg2)
   refine gs 14 ?_
   refine g_nil ?_
   exact hw1 true (Option.some.inj h).symm _ (lw [some 13])
  ·replace h := ifT h (nF hg2)
   refine gs 3 ?_
   rcases bsplit ((!a2)) with hg3 | hg3
   ·replace h := bF h (nT hg3)
    refine gs 6 ?_
    rcases bsplit ((decide (5 < a0.kind))) with hg4 | hg4
    ·replace h := ifT h (dT hg4)
     refine gs 5 ?_
     refine g_nil ?_
     exact hw1 true (Option.some.inj h).symm _ (lw [some 13])
    ·replace h := ifF h (dF hg4)
     refine gs 2 ?_
     obtain ⟨y3, hy3, h⟩ := bnd h
     refine g_yes rfl rfl hg4 (o_callR [] [] (core_value rfl rfl) (m_spec_l1Once_ok k a0.names _ hy3) trivial (.cons (.refl _) (.nil)) (.inl rfl) rfl ?_)
     refine gs 2 ?_
     refine g_nil ?_
     exact hw1 (!y3) (Option.some.inj h).symm _ (lw [some 13])
   ·replace h := ifT h (nF hg3)
    refine gs 8 ?_
    obtain ⟨y4, hy4, h⟩ := bnd h
    refine g_yes rfl rfl rfl (o_callR [] [] (core_value rfl rfl) (m_spec_l1Once_ok k a0.names _ hy4) trivial (.cons (.refl _) (.nil)) (.inl rfl) rfl ?_)
    refine gs 2 ?_
    refine g_nil ?_
    exact hw1 (!y4) (Option.some.inj h).symm _ (lw [some 13])
theorem m_spec_l1Ok_all (k : Nat) : P_m_spec_l1Ok k := by
 induction k using Nat.strongRecOn with
 | _ k ih => exact m_spec_l1Ok_step k ih
theorem m_spec_l1Ok_ok (k : Nat) : ∀ (a0 : Val) (a1 : Int) (a2 : Bool) (r : Bool), m_spec_l1Ok k a0 a1 a2 = some r → Does Try.prog 70 [.agg [.int .i64 a0.kind, .int .i64 a0.num, .str a0.text, .sl true (a0.list.map encVal), .sl false (a0.names.map encS)], .int .i64 a1, .bool a2] [] (ret (.bool r)) := (m_spec_l1Ok_all k)
def m_spec_ValueOk (k : Nat) (a0 : Val) : Option Bool :=
 (m_spec_l1Ok k a0 6 false).bind fun y1 =>
 some y1
theorem m_spec_ValueOk_ok (k : Nat) : ∀ (a0 : Val) (r : Bool), m_spec_ValueOk k a0 = some r → Does Try.prog 31 [.agg [.int .i64 a0.kind, .int .i64 a0.num, .str a0.text, .sl true (a0.list.map encVal), .sl false (a0.names.map encS)]] [] (ret (.bool r)) := by
 intro a0 r h
 rw [m_spec_ValueOk] at h
 refine does_of_good tabOk Try.func31 rfl (by decide +kernel) (Nat.le_of_ble_eq_true rfl) fun c => ?_
 refine Good.le (σ' := ⟨5, [(0, .agg [.int .i64 a0.kind, .int .i64 a0.num, .str a0.text, .sl true (a0.list.map encVal), .sl false (a0.names.map encS)])], []⟩) (Le.refl _) ?_
 refine good_seq fun K1 hK1 => ?_
 refine good_region ?_
 refine g_op rfl (o_box (k := 11) tabOk rfl rfl rfl rfl rfl ?_)
 intro b1
 refine gs 1 ?_
 refine gk hK1 5 [1, 2] [11] ?_
 refine good_seq fun K2 hK2 => ?_
 refine rg 1 ?_
 obtain ⟨y1, hy1, h⟩ := bnd h
 refine g_op rfl (o_callR [] [] (core_value rfl rfl) (m_spec_l1Ok_ok k a0 6 false _ hy1) trivial (.cons (.refl _) (.cons (.refl _) (.cons (.refl _) (.nil)))) (.inl rfl) rfl ?_)
 refine gs 1 ?_
 refine gk hK2 5 [2] [] ?_
 obtain rfl := Option.some.inj h
 exact rt
def m_impl_varItem_within (a0 : Bs) : Option (List Val) :=
 some ([] : List Val)
theorem m_impl_varItem_within_ok : ∀ (a0 : Bs) (r : (List Val)), m_impl_varItem_within a0 = some r → Does Try.prog 167 [.str a0] [] (fun q h' => ∃ u0 : Value, q = .hd 100 u0 ∧ h' = [(100, (u0, .osl 30 5 (r.map encOVal)))]) := by
 intro a0 r h
 rw [m_impl_varItem_within] at h
 refine does_of_good tabOk Try.func167 rfl (by decide +kernel) (Nat.le_of_ble_eq_true rfl) fun c => ?_
 refine Good.le (σ' := ⟨3, [(0, .str a0)], []⟩) (Le.refl _) ?_
 refine good_seq fun K1 hK1 => ?_
 refine rg 1 ?_
 refine gk hK1 3 [2] [] ?_
 refine good_seq fun K2 hK2 => ?_
 refine rg 1 ?_
 refine g_nil (hK2 _ ?_)
 refine Good.le (σ' := ⟨3, [(2, .hd 100 nilV)], [(100, (nilV, .osl 30 5 (([] : List Val).map encOVal)))]⟩) (lw [none]) ?_
 refine good_ret ?_
 obtain rfl := Option.some.inj h
 exact endQ_ret (h' := [(100, (_, _))]) [some 100] (.tmp rfl (.nil)) ⟨⟨_, rfl, .refl _⟩, trivial⟩ (by decide) ⟨nilV, rfl, rfl⟩
theorem m_impl_varItem_within_okF : ∀ (a0 : Bs) (r : (List Val)), m_impl_varItem_within a0 = some r → Does Try.prog 167 [.str a0] [] (ret (.sl true (r.map encVal))) := by
 intro a0 r h
 refine does_frz (m_impl_varItem_within_ok a0 r h) ?_
 rintro q h' ⟨u0, rfl, rfl⟩
 exact ⟨[100], [(_, _)], ⟨⟨_, rfl, .osl (FrzLL.map fun _ _ => encOVal_frz _)⟩, trivial⟩, .frz _ _ _ (.head _)⟩
def m_impl_wordItem_within (a0 : Bs) : Option (List Val) :=
 some ([] : List Val)
theorem m_impl_wordItem_within_ok : ∀ (a0 : Bs) (r : (List Val)), m_impl_wordItem_within a0 = some r → Does Try.prog 168 [.str a0] [] (fun q h' => ∃ u0 : Value, q = .hd 100 u0 ∧ h' = [(100, (u0, .osl 30 5 (r.map encOVal)))]) := by
 intro a0 r h
 rw [m_impl_wordItem_within] at h
 refine does_of_good tabOk Try.func168 rfl (by decide +kernel) (Nat.le_of_ble_eq_true rfl) fun c => ?_
 refine Good.le (σ' := ⟨3, [(0, .str a0)], []⟩) (Le.refl _) ?_
 refine good_seq fun K1 hK1 => ?_
 refine rg 1 ?_
 refine gk hK1 3 [2] [] ?_
 refine good_seq fun K2 hK2 => ?_
 refine rg 1 ?_
 refine g_nil (hK2 _ ?_)
 refine Good.le (σ' := ⟨3, [(2, .hd 100 nilV)], [(100, (nilV, .osl 30 5 (([] : List Val).map encOVal)))]⟩) (lw [none]) ?_
 refine good_ret ?_
 obtain rfl := Option.some.inj h
 exact endQ_ret (h' := [(100, (_, _))]) [some 100] (.tmp rfl (.nil)) ⟨⟨_, rfl, .refl _⟩, trivial⟩ (by decide) ⟨nilV, rfl, rfl⟩
theorem m_impl_wordItem_within_okF : ∀ (a0 : Bs) (r : (List Val)), m_impl_wordItem_within a0 = some r → Does Try.prog 168 [.str a0] [] (ret (.sl true (r.map encVal))) := by
 intro a0 r h
 refine does_frz (m_impl_wordItem_within_ok a0 r h) ?_
 rintro q h' ⟨u0, rfl, rfl⟩
 exact ⟨[100], [(_, _)], ⟨⟨_, rfl, .osl (FrzLL.map fun _ _ => encOVal_frz _)⟩, trivial⟩, .frz _ _ _ (.head _)⟩
def m_impl_itemOf (k : Nat) (a0 : Val) : Option GI110 :=
 (if (a0.list.length : Int) = 0 then
   some (Lp.go (decide ((a0.names.length : Int) = 0)))
  else
   some (Lp.go false)).bind fun o1 =>
 o1.then fun s1 =>
  (if s1 = true then
    some (Lp.go (decide (a0.text = [])))
   else
    some (Lp.go false)).bind fun o2 =>
  o2.then fun s2 =>
  (if a0.num = 0 then
    some (Lp.go (decide (a0.text = [])))
   else
    some (Lp.go false)).bind fun o3 =>
  o3.then fun s3 =>
  if a0.kind = 0 then
   (if s2 = true then
     some (Lp.go (decide (a0.num = 0)))
    else
     some (Lp.go false)).bind fun o4 =>
   o4.then fun s4 =>
  if s4 = true then
   some GI110.c134
  else
   some GI110.nil
  else
   if a0.kind = 1 then
    (if s2 = true then
      if a0.num = 0 then
       some (Lp.go true)
      else
       some (Lp.go (decide (a0.num = 1)))
     else
      some (Lp.go false)).bind fun o5 =>
    o5.then fun s5 =>
  if s5 = true then
   some (GI110.c135 (decide (a0.num = 1)))
  else
   some GI110.nil
   else
    if a0.kind = 2 then
     (if s2 = true then
       if (-2147483647) ≤ a0.num then
        some (Lp.go (decide (a0.num ≤ 2147483647)))
       else
        some (Lp.go false)
      else
       some (Lp.go false)).bind fun o6 =>
     o6.then fun s6 =>
  if s6 = true then
   some (GI110.c136 a0.num)
  else
   some GI110.nil
    else
     if a0.kind = 3 then
      (if s1 = true then
        if a0.num = 0 then
         some (Lp.go (decide ((a0.text.length : Int) ≤ 40)))
        else
         some (Lp.go false)
       else
        some (Lp.go false)).bind fun o7 =>
      o7.then fun s7 =>
  if s7 = true then
   some (GI110.c137 a0.text)
  else
   some GI110.nil
     else
      if a0.kind = 4 then
       (if s3 = true then
         if (a0.names.length : Int) = 0 then
          some (Lp.go (decide ((a0.list.length : Int) ≤ 12)))
         else
          some (Lp.go false)
        else
         some (Lp.go false)).bind fun o8 =>
       o8.then fun s8 =>
  if s8 = true then
   some (GI110.c138 a0.list)
  else
   some GI110.nil
      else
       if a0.kind = 5 then
        (if s3 = true then
          if (a0.names.length : Int) = (a0.list.length : Int) then
           if (a0.list.length : Int) ≤ 12 then
            (m_impl_namesOnce k a0.names).bind fun y1 =>
            some (Lp.go y1)
           else
            some (Lp.go false)
          else
           some (Lp.go false)
         else
          some (Lp.go false)).bind fun o9 =>
        o9.then fun s9 =>
  if s9 = true then
   some (GI110.c140 (GTreeItem.mk a0.names a0.list))
  else
   some GI110.nil
       else
        if a0.kind = 6 then
         (if s1 = true then
           if a0.num = 0 then
            (m_impl_isName k a0.text).bind fun y2 =>
            some (Lp.go y2)
           else
            some (Lp.go false)
          else
           some (Lp.go false)).bind fun o10 =>
         o10.then fun s10 =>
  if s10 = true then
   some (GI110.c112 a0.text)
  else
   some GI110.nil
        else
         if a0.kind = 7 then
          (if s1 = true then
            if a0.num = 0 then
             (m_impl_isName k a0.text).bind fun y3 =>
             some (Lp.go y3)
            else
             some (Lp.go false)
           else
            some (Lp.go false)).bind fun o11 =>
          o11.then fun s11 =>
  if s11 = true then
   some (GI110.c113 a0.text)
  else
   some GI110.nil
         else
          some GI110.nil
theorem m_impl_itemOf_ok (k : Nat) : ∀ (a0 : Val) (r : GI110), m_impl_itemOf k a0 = some r → Does Try.prog 105 [.agg [.int .i64 a0.kind, .int .i64 a0.num, .str a0.text, .sl true (a0.list.map encVal), .sl false (a0.names.map encS)]] [] (ret ((encGI110 r))) := by
 intro a0 r h
 rw [m_impl_itemOf] at h
 refine does_of_good tabOk Try.func105 rfl (by decide +kernel) (Nat.le_of_ble_eq_true rfl) fun c => ?_
 refine Good.le (σ' := ⟨171, [(0, .agg [.int .i64 a0.kind, .int .i64 a0.num, .str a0.text, .sl true (a0.list.map encVal), .sl false (a0.names.map encS)])], []⟩) (Le.refl _) ?_
 refine good_seq fun K1 hK1 => ?_
 refine good_region ?_
 refine g_op rfl (o_box (k := 11) tabOk rfl rfl rfl rfl rfl ?_)
 intro b1
 refine gs 1 ?_
 refine gk hK1 171 [1, 2] [11] ?_
 refine good_seq fun K2 hK2 => ?_
 obtain ⟨o1, ho1, hJ1⟩ := bnd h
 have hw1 : ∀ (s1 : Bool), o1 = Lp.go s1 → ∀ σ', Le σ' ⟨171, [(1, .ptr 11 b1 0), (2, .raw .nilIface), (3, .bool s1)], [(11, ((.pointer (some ⟨b1, 0, none⟩)), .optr 30 [.int .i64 a0.kind, .int .i64 a0.num, .str a0.text, .sl true (a0.list.map encVal), .sl false (a0.names.map encS)]))]⟩ → K2 σ' := by
  intro s1 e1 σ' hle1
  subst e1
  refine hK2 _ (Good.le hle1 ?_)
  replace h := hJ1
  refine good_seq fun K3 hK3 => ?_
  obtain ⟨o2, ho2, hJ2⟩ := bnd h
  have hw2 : ∀ (s2 : Bool), o2 = Lp.go s2 → ∀ σ', Le σ' ⟨171, [(1, .ptr 11 b1 0), (2, .raw .nilIface), (3, .bool s1), (4, .bool s2)], [(11, ((.pointer (some ⟨b1, 0, none⟩)), .optr 30 [.int .i64 a0.kind, .int .i64 a0.num, .str a0.text, .sl true (a0.list.map encVal), .sl false (a0.names.map encS)]))]⟩ → K3 σ' := by
   intro s2 e2 σ' hle2
   subst e2
   refine hK3 _ (Good.le hle2 ?_)
   replace h := hJ2
   refine good_seq fun K4 hK4 => ?_
   obtain ⟨o3, ho3, hJ3⟩ := bnd h
   have hw3 : ∀ (s3 : Bool), o3 = Lp.go s3 → ∀ σ', Le σ' ⟨171, [(1, .ptr 11 b1 0), (2, .raw .nilIface), (3, .bool s1), (4, .bool s2), (5, .bool s3)], [(11, ((.pointer (some ⟨b1, 0, none⟩)), .optr 30 [.int .i64 a0.kind, .int .i64 a0.num, .str a0.text, .sl true (a0.list.map encVal), .sl false (a0.names.map encS)]))]⟩ → K4 σ' := by
    intro s3 e3 σ' hle3
    subst e3
    refine hK4 _ (Good.le hle3 ?_)
    replace h := hJ3
    refine good_seq fun K5 hK5 => ?_
    refine good_seq fun K6 hK6 => ?_
    refine rg 2 ?_
    refine gk hK6 171 [1, 2, 3, 4, 5, 31] [11] ?_
    refine good_block ?_
    refine good_seq fun K7 hK7 => ?_
    refine rg 2 ?_
    refine gk hK7 171 [1, 2, 3, 4, 5, 31, 32] [11] ?_
    refine good_cond rfl (fun hc1 => ?_) (fun hc1 => ?_)
    ·replace h := ifT h (dT hc1)
     refine good_seq fun K8 hK8 => ?_
     obtain ⟨o4, ho4, hJ4⟩ := bnd h
     have hw4 : ∀ (s4 : Bool), o4 = Lp.go s4 → ∀ σ', Le σ' ⟨171, [(2, .raw .nilIface), (39, .bool s4)], []⟩ → K8 σ' := by
      intro s4 e4 σ' hle4
      subst e4
      refine hK8 _ (Good.le hle4 ?_)
      replace h := hJ4
      refine good_cond rfl (fun hc2 => ?_) (fun hc2 => ?_)
      ·replace h := ifT h hc2
       refine good_seq fun K9 hK9 => ?_
       refine good_region ?_
       refine g_op rfl (ValOk.op (v_build tabOk (cs := []) tzero134 tsok134 rfl rfl rfl ?_))
       refine g_op rfl (ValOk.op (v_iface tabOk rfl tkind134 rfl rfl ?_))
       refine gs 1 ?_
       refine gk hK9 171 [2] [] ?_
       obtain rfl := Option.some.inj h
       exact rt
      ·replace h := bF h hc2
       refine good_skip ?_
       refine hK5 _ (kp 171 [2] [] ?_)
       refine good_seq fun K10 hK10 => ?_
       refine rg 1 ?_
       refine g_nil (hK10 _ ?_)
       obtain rfl := Option.some.inj h
       exact rt
     replace h := ho4
     refine rg 2 ?_
     rcases bsplit (s2) with hg1 | hg1
     ·replace h := ifT h hg1
      refine gs 4 ?_
      refine g_nil ?_
      exact hw4 (decide (a0.num = 0)) (Option.some.inj h).symm _ (lw [])
     ·replace h := bF h hg1
      refine gs 4 ?_
      refine g_nil ?_
      exact hw4 false (Option.some.inj h).symm _ (lw [])
    ·replace h := ifF h (dF hc1)
     refine good_seq fun K11 hK11 => ?_
     refine rg 2 ?_
     refine gk hK11 171 [1, 2, 3, 4, 5, 31, 42] [11] ?_
     refine good_cond rfl (fun hc3 => ?_) (fun hc3 => ?_)
     ·replace h := ifT h (dT hc3)
      refine good_seq fun K12 hK12 => ?_
      obtain ⟨o5, ho5, hJ5⟩ := bnd h
      have hw5 : ∀ (s5 : Bool), o5 = Lp.go s5 → ∀ σ', Le σ' ⟨171, [(1, .ptr 11 b1 0), (2, .raw .nilIface), (54, .bool s5)], [(11, ((.pointer (some ⟨b1, 0, none⟩)), .optr 30 [.int .i64 a0.kind, .int .i64 a0.num, .str a0.text, .sl true (a0.list.map encVal), .sl false (a0.names.map encS)]))]⟩ → K12 σ' := by
       intro s5 e5 σ' hle5
       subst e5
       refine hK12 _ (Good.le hle5 ?_)
       replace h := hJ5
       refine good_cond rfl (fun hc4 => ?_) (fun hc4 => ?_)
       ·replace h := ifT h hc4
        refine good_seq fun K13 hK13 => ?_
        refine rg 3 ?_
        refine g_op rfl (ValOk.op (v_iface tabOk rfl tkind135 rfl rfl ?_))
        refine gs 1 ?_
        refine gk hK13 171 [2] [] ?_
        obtain rfl := Option.some.inj h
        exact rt
       ·replace h := bF h hc4
        refine good_skip ?_
        refine hK5 _ (kp 171 [2] [] ?_)
        refine good_seq fun K14 hK14 => ?_
        refine rg 1 ?_
        refine g_nil (hK14 _ ?_)
        obtain rfl := Option.some.inj h
        exact rt
      replace h := ho5
      refine rg 2 ?_
      rcases bsplit (s2) with hg2 | hg2
      ·replace h := ifT h hg2
       refine gs 4 ?_
       rcases bsplit ((decide (a0.num = 0))) with hg3 | hg3
       ·replace h := ifT h (dT hg3)
        refine gs 5 ?_
        refine g_nil ?_
        exact hw5 true (Option.some.inj h).symm _ (lw [some 11])
       ·replace h := ifF h (dF hg3)
        refine gs 5 ?_
        refine g_nil ?_
        exact hw5 (decide (a0.num = 1)) (Option.some.inj h).symm _ (lw [some 11])
      ·replace h := bF h hg2
       refine gs 9 ?_
       refine g_nil ?_
       exact hw5 false (Option.some.inj h).symm _ (lw [some 11])
     ·replace h := ifF h (dF hc3)
      refine good_seq fun K15 hK15 => ?_
      refine rg 2 ?_
      refine gk hK15 171 [1, 2, 3, 4, 5, 31, 59] [11] ?_
      refine good_cond rfl (fun hc5 => ?_) (fun hc5 => ?_)
      ·replace h := ifT h (dT hc5)
       refine good_seq fun K16 hK16 => ?_
       obtain ⟨o6, ho6, hJ6⟩ := bnd h
       have hw6 : ∀ (s6 : Bool), o6 = Lp.go s6 → ∀ σ', Le σ' ⟨171, [(1, .ptr 11 b1 0), (2, .raw .nilIface), (71, .bool s6)], [(11, ((.pointer (some ⟨b1, 0, none⟩)), .optr 30 [.int .i64 a0.kind, .int .i64 a0.num, .str a0.text, .sl true (a0.list.map encVal), .sl false (a0.names.map encS)]))]⟩ → K16 σ' := by
        intro s6 e6 σ' hle6
        subst e6
        refine hK16 _ (Good.le hle6 ?_)
        replace h := hJ6
        refine good_cond rfl (fun hc6 => ?_) (fun hc6 => ?_)
        ·replace h := ifT h hc6
         refine good_seq fun K17 hK17 => ?_
         refine rg 2 ?_
         refine g_op rfl (ValOk.op (v_iface tabOk rfl tkind136 rfl rfl ?_))
         refine gs 1 ?_
         refine gk hK17 171 [2] [] ?_
         obtain rfl := Option.some.inj h
         exact rt
        ·replace h := bF h hc6
         refine good_skip ?_
         refine hK5 _ (kp 171 [2] [] ?_)
         refine good_seq fun K18 hK18 => ?_
         refine rg 1 ?_
         refine g_nil (hK18 _ ?_)
         obtain rfl := Option.some.inj h
         exact rt
       replace h := ho6
       refine rg 2 ?_
       rcases bsplit (s2) with hg4 | hg4
       ·replace h := ifT h hg4
        refine gs 5 ?_
        rcases bsplit ((decide ((-2147483647) ≤ a0.num))) with hg5 | hg5
        ·replace h := ifT h (dT hg5)
         refine gs 4 ?_
         refine g_nil ?_
         exact hw6 (decide (a0.num ≤ 2147483647)) (Option.some.inj h).symm _ (lw [some 11])
        ·replace h := ifF h (dF hg5)
         refine gs 4 ?_
         refine g_nil ?_
         exact hw6 false (Option.some.inj h).symm _ (lw [some 11])
       ·replace h := bF h hg4
        refine gs 9 ?_
        refine g_nil ?_
        exact hw6 false (Option.some.inj h).symm _ (lw [some 11])
      ·replace h := ifF h (dF hc5)
       refine good_seq fun K19 hK19 => ?_
       refine rg 2 ?_
       refine gk hK19 171 [1, 2, 3, 5, 31, 75] [11] ?_
       refine good_cond rfl (fun hc7 => ?_) (fun hc7 => ?_)
       ·replace h := ifT h (dT hc7)
        refine good_seq fun K20 hK20 => ?_
        obtain ⟨o7, ho7, hJ7⟩ := bnd h
        have hw7 : ∀ (s7 : Bool), o7 = Lp.go s7 → ∀ σ', Le σ' ⟨171, [(1, .ptr 11 b1 0), (2, .raw .nilIface), (88, .bool s7)], [(11, ((.pointer (some ⟨b1, 0, none⟩)), .optr 30 [.int .i64 a0.kind, .int .i64 a0.num, .str a0.text, .sl true (a0.list.map encVal), .sl false (a0.names.map encS)]))]⟩ → K20 σ' := by
         intro s7 e7 σ' hle7
         subst e7
         refine hK20 _ (Good.le hle7 ?_)
         replace h := hJ7
         refine good_cond rfl (fun hc8 => ?_) (fun hc8 => ?_)
         ·replace h := ifT h hc8
          refine good_seq fun K21 hK21 => ?_
          refine rg 2 ?_
          refine g_op rfl (ValOk.op (v_iface tabOk rfl tkind137 rfl rfl ?_))
          refine gs 1 ?_
          refine gk hK21 171 [2] [] ?_
          obtain rfl := Option.some.inj h
          exact rt
         ·replace h := bF h hc8
          refine good_skip ?_
          refine hK5 _ (kp 171 [2] [] ?_)
          refine good_seq fun K22 hK22 => ?_
          refine rg 1 ?_
          refine g_nil (hK22 _ ?_)
          obtain rfl := Option.some.inj h
          exact rt
        replace h := ho7
        refine rg 2 ?_
        rcases bsplit (s1) with hg6 | hg6
        ·replace h := ifT h hg6
         refine gs 5 ?_
         rcases bsplit ((decide (a0.num = 0))) with hg7 | hg7
         ·replace h := ifT h (dT hg7)
          refine gs 5 ?_
          refine g_nil ?_
          exact hw7 (decide ((a0.text.length : Int) ≤ 40)) (Option.some.inj h).symm _ (lw [some 11])
         ·replace h := ifF h (dF hg7)
          refine gs 5 ?_
          refine g_nil ?_
          exact hw7 false (Option.some.inj h).symm _ (lw [some 11])
        ·replace h := bF h hg6
         refine gs 10 ?_
         refine g_nil ?_
         exact hw7 false (Option.some.inj h).symm _ (lw [some 11])
       ·replace h := ifF h (dF hc7)
        refine good_seq fun K23 hK23 => ?_
        refine rg 2 ?_
        refine gk hK23 171 [1, 2, 3, 5, 31, 92] [11] ?_
        refine good_cond rfl (fun hc9 => ?_) (fun hc9 => ?_)
        ·replace h := ifT h (dT hc9)
         refine good_seq fun K24 hK24 => ?_
         obtain ⟨o8, ho8, hJ8⟩ := bnd h
         have hw8 : ∀ (s8 : Bool), o8 = Lp.go s8 → ∀ σ', Le σ' ⟨171, [(1, .ptr 11 b1 0), (2, .raw .nilIface), (106, .bool s8)], [(11, ((.pointer (some ⟨b1, 0, none⟩)), .optr 30 [.int .i64 a0.kind, .int .i64 a0.num, .str a0.text, .sl true (a0.list.map encVal), .sl false (a0.names.map encS)]))]⟩ → K24 σ' := by
          intro s8 e8 σ' hle8
          subst e8
          refine hK24 _ (Good.le hle8 ?_)
          replace h := hJ8
          refine good_cond rfl (fun hc10 => ?_) (fun hc10 => ?_)
          ·replace h := ifT h hc10
           refine good_seq fun K25 hK25 => ?_
           refine rg 2 ?_
           refine g_op rfl (ValOk.op (v_iface tabOk rfl tkind138 rfl rfl ?_))
           refine gs 1 ?_
           refine gk hK25 171 [2] [] ?_
           obtain rfl := Option.some.inj h
           exact rt
          ·replace h := bF h hc10
           refine good_skip ?_
           refine hK5 _ (kp 171 [2] [] ?_)
           refine good_seq fun K26 hK26 => ?_
           refine rg 1 ?_
           refine g_nil (hK26 _ ?_)
           obtain rfl := Option.some.inj h
           exact rt
         replace h := ho8
         refine rg 2 ?_
         rcases bsplit (s3) with hg8 | hg8
         ·replace h := ifT h hg8
          refine gs 2 ?_
          refine g_yes rfl rfl hg8 (ValOk.op (v_lenM (l := a0.names) (f := encS) tabOk rfl rfl telem23 rfl ?_))
          refine gs 3 ?_
          rcases bsplit ((decide ((a0.names.length : Int) = 0))) with hg9 | hg9
          ·replace h := ifT h (dT hg9)
           refine gs 2 ?_
           refine g_yes rfl rfl hg9 (ValOk.op (v_lenM (l := a0.list) (f := encVal) tabOk rfl rfl telem28 rfl ?_))
           refine gs 2 ?_
           refine g_nil ?_
           exact hw8 (decide ((a0.list.length : Int) ≤ 12)) (Option.some.inj h).symm _ (lw [some 11])
          ·replace h := ifF h (dF hg9)
           refine gs 5 ?_
           refine g_nil ?_
           exact hw8 false (Option.some.inj h).symm _ (lw [some 11])
         ·replace h := bF h hg8
          refine gs 11 ?_
          refine g_nil ?_
          exact hw8 false (Option.some.inj h).symm _ (lw [some 11])
        ·replace h := ifF h (dF hc9)
         refine good_seq fun K27 hK27 => ?_
         refine rg 2 ?_
         refine gk hK27 171 [1, 2, 3, 5, 31, 110] [11] ?_
         refine good_cond rfl (fun hc11 => ?_) (fun hc11 => ?_)
         ·replace h := ifT h (dT hc11)
          refine good_seq fun K28 hK28 => ?_
          obtain ⟨o9, ho9, hJ9⟩ := bnd h
          have hw9 : ∀ (s9 : Bool), o9 = Lp.go s9 → ∀ σ', Le σ' ⟨171, [(1, .ptr 11 b1 0), (2, .raw .nilIface), (132, .bool s9)], [(11, ((.pointer (some ⟨b1, 0, none⟩)), .optr 30 [.int .i64 a0.kind, .int .i64 a0.num, .str a0.text, .sl true (a0.list.map encVal), .sl false (a0.names.map encS)]))]⟩ → K28 σ' := by
           intro s9 e9 σ' hle9
           subst e9
           refine hK28 _ (Good.le hle9 ?_)
           replace h := hJ9
           refine good_cond rfl (fun hc12 => ?_) (fun hc12 => ?_)
           ·replace h := ifT h hc12
            refine good_seq fun K29 hK29 => ?_
            refine rg 4 ?_
            refine g_op rfl (ValOk.op (v_build tabOk (cs := [.sl false (a0.names.map encS), .sl true (a0.list.map encVal)]) tzero140 tsok140 rfl rfl rfl ?_))
            refine g_op rfl (ValOk.op (v_iface tabOk rfl tkind140 rfl rfl ?_))
            refine gs 1 ?_
            refine gk hK29 171 [2] [] ?_
            obtain rfl := Option.some.inj h
            exact rt
           ·replace h := bF h hc12
            refine good_skip ?_
            refine hK5 _ (kp 171 [2] [] ?_)
            refine good_seq fun K30 hK30 => ?_
            refine rg 1 ?_
            refine g_nil (hK30 _ ?_)
            obtain rfl := Option.some.inj h
            exact rt
          replace h := ho9
          refine rg 2 ?_
          rcases bsplit (s3) with hg10 | hg10
          ·replace h := ifT h hg10
           refine gs 2 ?_
           refine g_yes rfl rfl hg10 (ValOk.op (v_lenM (l := a0.names) (f := encS) tabOk rfl rfl telem23 rfl ?_))
           refine gs 2 ?_
           refine g_yes rfl rfl hg10 (ValOk.op (v_lenM (l := a0.list) (f := encVal) tabOk rfl rfl telem28 rfl ?_))
           refine gs 3 ?_
           rcases bsplit ((decide ((a0.names.length : Int) = (a0.list.length : Int)))) with hg11 | hg11
           ·replace h := ifT h (dT hg11)
            refine gs 2 ?_
            refine g_yes rfl rfl hg11 (ValOk.op (v_lenM (l := a0.list) (f := encVal) tabOk rfl rfl telem28 rfl ?_))
            refine gs 3 ?_
            rcases bsplit ((decide ((a0.list.length : Int) ≤ 12))) with hg12 | hg12
            ·replace h := ifT h (dT hg12)
             refine gs 2 ?_
             obtain ⟨y1, hy1, h⟩ := bnd h
             refine g_yes rfl rfl hg12 (o_callR [] [] (core_value rfl rfl) (m_impl_namesOnce_ok k a0.names _ hy1) trivial (.cons (.refl _) (.nil)) (.inl rfl) rfl ?_)
             refine gs 1 ?_
             refine g_nil ?_
             exact hw9 y1 (Option.some.inj h).symm _ (lw [some 11])
            ·replace h := ifF h (dF hg12)
             refine gs 4 ?_
             refine g_nil ?_
             exact hw9 false (Option.some.inj h).symm _ (lw [some 11])
           ·replace h := ifF h (dF hg11)
            refine gs 10 ?_
            refine g_nil ?_
            exact hw9 false (Option.some.inj h).symm _ (lw [some 11])
          ·replace h := bF h hg10
           refine gs 19 ?_
           refine g_nil ?_
           exact hw9 false (Option.some.inj h).symm _ (lw [some 11])
         ·replace h := ifF h (dF hc11)
          refine good_seq fun K31 hK31 => ?_
          refine rg 2 ?_
          refine gk hK31 171 [1, 2, 3, 31, 139] [11] ?_
          refine good_cond rfl (fun hc13 => ?_) (fun hc13 => ?_)
          ·replace h := ifT h (dT hc13)
           refine good_seq fun K32 hK32 => ?_
           obtain ⟨o10, ho10, hJ10⟩ := bnd h
           have hw10 : ∀ (s10 : Bool), o10 = Lp.go s10 → ∀ σ', Le σ' ⟨171, [(1, .ptr 11 b1 0), (2, .raw .nilIface), (151, .bool s10)], [(11, ((.pointer (some ⟨b1, 0, none⟩)), .optr 30 [.int .i64 a0.kind, .int .i64 a0.num, .str a0.text, .sl true (a0.list.map encVal), .sl false (a0.names.map encS)]))]⟩ → K32 σ' := by
            intro s10 e10 σ' hle10
            subst e10
            refine hK32 _ (Good.le hle10 ?_)
            replace h := hJ10
            refine good_cond rfl (fun hc14 => ?_) (fun hc14 => ?_)
            ·replace h := ifT h hc14
             refine good_seq fun K33 hK33 => ?_
             refine rg 2 ?_
             refine g_op rfl (ValOk.op (v_iface tabOk rfl tkind112 rfl rfl ?_))
             refine gs 1 ?_
             refine gk hK33 171 [2] [] ?_
             obtain rfl := Option.some.inj h
             exact rt
            ·replace h := bF h hc14
             refine good_skip ?_
             refine hK5 _ (kp 171 [2] [] ?_)
             refine good_seq fun K34 hK34 => ?_
             refine rg 1 ?_
             refine g_nil (hK34 _ ?_)
             obtain rfl := Option.some.inj h
             exact rt
           replace h := ho10
           refine rg 2 ?_
           rcases bsplit (s1) with hg13 | hg13
           ·replace h := ifT h hg13
            refine gs 5 ?_
            rcases bsplit ((decide (a0.num = 0))) with hg14 | hg14
            ·replace h := ifT h (dT hg14)
             refine gs 2 ?_
             obtain ⟨y2, hy2, h⟩ := bnd h
             refine g_yes rfl rfl hg14 (o_callR [] [] (core_value rfl rfl) (m_impl_isName_ok k a0.text _ hy2) trivial (.cons (.refl _) (.nil)) (.inl rfl) rfl ?_)
             refine gs 1 ?_
             refine g_nil ?_
             exact hw10 y2 (Option.some.inj h).symm _ (lw [some 11])
            ·replace h := ifF h (dF hg14)
             refine gs 4 ?_
             refine g_nil ?_
             exact hw10 false (Option.some.inj h).symm _ (lw [some 11])
           ·replace h := bF h hg13
            refine gs 9 ?_
            refine g_nil ?_
            exact hw10 false (Option.some.inj h).symm _ (lw [some 11])
          ·replace h := ifF h (dF hc13)
           refine good_seq fun K35 hK35 => ?_
           refine rg 2 ?_
           refine gk hK35 171 [1, 2, 3, 155] [11] ?_
           refine good_cond rfl (fun hc15 => ?_) (fun hc15 => ?_)
           ·replace h := ifT h (dT hc15)
            refine good_seq fun K36 hK36 => ?_
            obtain ⟨o11, ho11, hJ11⟩ := bnd h
            have hw11 : ∀ (s11 : Bool), o11 = Lp.go s11 → ∀ σ', Le σ' ⟨171, [(1, .ptr 11 b1 0), (2, .raw .nilIface), (167, .bool s11)], [(11, ((.pointer (some ⟨b1, 0, none⟩)), .optr 30 [.int .i64 a0.kind, .int .i64 a0.num, .str a0.text, .sl true (a0.list.map encVal), .sl false (a0.names.map encS)]))]⟩ → K36 σ' := by
             intro s11 e11 σ' hle11
             subst e11
             refine hK36 _ (Good.le hle11 ?_)
             replace h := hJ11
             refine good_cond rfl (fun hc16 => ?_) (fun hc16 => ?_)
             ·replace h := ifT h hc16
              refine good_seq fun K37 hK37 => ?_
              refine rg 2 ?_
              refine g_op rfl (ValOk.op (v_iface tabOk rfl tkind113 rfl rfl ?_))
              refine gs 1 ?_
              refine gk hK37 171 [2] [] ?_
              obtain rfl := Option.some.inj h
              exact rt
             ·replace h := bF h hc16
              refine good_skip ?_
              refine hK5 _ (kp 171 [2] [] ?_)
              refine good_seq fun K38 hK38 => ?_
              refine rg 1 ?_
              refine g_nil (hK38 _ ?_)
              obtain rfl := Option.some.inj h
              exact rt
            replace h := ho11
            refine rg 2 ?_
            rcases bsplit (s1) with hg15 | hg15
            ·replace h := ifT h hg15
             refine gs 5 ?_
             rcases bsplit ((decide (a0.num = 0))) with hg16 | hg16
             ·replace h := ifT h (dT hg16)
              refine gs 2 ?_
              obtain ⟨y3, hy3, h⟩ := bnd h
              refine g_yes rfl rfl hg16 (o_callR [] [] (core_value rfl rfl) (m_impl_isName_ok k a0.text _ hy3) trivial (.cons (.refl _) (.nil)) (.inl rfl) rfl ?_)
              refine gs 1 ?_
              refine g_nil ?_
              exact hw11 y3 (Option.some.inj h).symm _ (lw [some 11])
             ·replace h := ifF h (dF hg16)
              refine gs 4 ?_
              refine g_nil ?_
              exact hw11 false (Option.some.inj h).symm _ (lw [some 11])
            ·replace h := bF h hg15
             refine gs 9 ?_
             refine g_nil ?_
             exact hw11 false (Option.some.inj h).symm _ (lw [some 11])
           ·replace h := ifF h (dF hc15)
            refine good_skip ?_
            refine hK5 _ (kp 171 [2] [] ?_)
            refine good_seq fun K39 hK39 => ?_
            refine rg 1 ?_
            refine g_nil (hK39 _ ?_)
            obtain rfl := Option.some.inj h
            exact rt
   replace h := ho3
   refine rg 4 ?_
   rcases bsplit ((decide (a0.num = 0))) with hg17 | hg17
   ·replace h := ifT h (dT hg17)
    refine gs 5 ?_
    refine g_nil ?_
    exact hw3 (decide (a0.text = [])) (Option.some.inj h).symm _ (lw [some 11])
   ·replace h := ifF h (dF hg17)
    refine gs 5 ?_
    refine g_nil ?_
    exact hw3 false (Option.some.inj h).symm _ (lw [some 11])
  replace h := ho2
  refine rg 2 ?_
  rcases bsplit (s1) with hg18 | hg18
  ·replace h := ifT h hg18
   refine gs 5 ?_
   refine g_nil ?_
   exact hw2 (decide (a0.text = [])) (Option.some.inj h).symm _ (lw [some 11])
  ·replace h := bF h hg18
   refine gs 5 ?_
   refine g_nil ?_
   exact hw2 false (Option.some.inj h).symm _ (lw [some 11])
 replace h := ho1
 refine rg 2 ?_
 refine g_op rfl (ValOk.op (v_lenM (l := a0.list) (f := encVal) tabOk rfl rfl telem28 rfl ?_))
 refine gs 2 ?_
 rcases bsplit ((decide ((a0.list.length : Int) = 0))) with hg19 | hg19
 ·replace h := ifT h (dT hg19)
  refine gs 2 ?_
  refine g_yes rfl rfl hg19 (ValOk.op (v_lenM (l := a0.names) (f := encS) tabOk rfl rfl telem23 rfl ?_))
  refine gs 3 ?_
  refine g_nil ?_
  exact hw1 (decide ((a0.names.length : Int) = 0)) (Option.some.inj h).symm _ (lw [some 11])
 ·replace h := ifF h (dF hg19)
  refine gs 6 ?_
  refine g_nil ?_
  exact hw1 false (Option.some.inj h).symm _ (lw [some 11])
def m_impl_nullItem_within (a0 : Unit) : Option (List Val) :=
 some ([] : List Val)
theorem m_impl_nullItem_within_ok : ∀ (a0 : Unit) (r : (List Val)), m_impl_nullItem_within a0 = some r → Does Try.prog 169 [.agg []] [] (fun q h' => ∃ u0 : Value, q = .hd 100 u0 ∧ h' = [(100, (u0, .osl 30 5 (r.map encOVal)))]) := by
 intro a0 r h
 rw [m_impl_nullItem_within] at h
 refine does_of_good tabOk Try.func169 rfl (by decide +kernel) (Nat.le_of_ble_eq_true rfl) fun c => ?_
 refine Good.le (σ' := ⟨3, [(0, .agg [])], []⟩) (Le.refl _) ?_
 refine good_seq fun K1 hK1 => ?_
 refine good_region ?_
 refine g_op rfl (o_box (k := 11) tabOk rfl rfl rfl rfl rfl ?_)
 intro b1
 refine gs 1 ?_
 refine gk hK1 3 [2] [] ?_
 refine good_seq fun K2 hK2 => ?_
 refine rg 1 ?_
 refine g_nil (hK2 _ ?_)
 refine Good.le (σ' := ⟨3, [(2, .hd 100 nilV)], [(100, (nilV, .osl 30 5 (([] : List Val).map encOVal)))]⟩) (lw [none]) ?_
 refine good_ret ?_
 obtain rfl := Option.some.inj h
 exact endQ_ret (h' := [(100, (_, _))]) [some 100] (.tmp rfl (.nil)) ⟨⟨_, rfl, .refl _⟩, trivial⟩ (by decide) ⟨nilV, rfl, rfl⟩
theorem m_impl_nullItem_within_okF : ∀ (a0 : Unit) (r : (List Val)), m_impl_nullItem_within a0 = some r → Does Try.prog 169 [.agg []] [] (ret (.sl true (r.map encVal))) := by
 intro a0 r h
 refine does_frz (m_impl_nullItem_within_ok a0 r h) ?_
 rintro q h' ⟨u0, rfl, rfl⟩
 exact ⟨[100], [(_, _)], ⟨⟨_, rfl, .osl (FrzLL.map fun _ _ => encOVal_frz _)⟩, trivial⟩, .frz _ _ _ (.head _)⟩
def m_impl_boolItem_within (a0 : Bool) : Option (List Val) :=
 some ([] : List Val)
theorem m_impl_boolItem_within_ok : ∀ (a0 : Bool) (r : (List Val)), m_impl_boolItem_within a0 = some r → Does Try.prog 170 [.bool a0] [] (fun q h' => ∃ u0 : Value, q = .hd 100 u0 ∧ h' = [(100, (u0, .osl 30 5 (r.map encOVal)))]) := by
 intro a0 r h
 rw [m_impl_boolItem_within] at h
 refine does_of_good tabOk Try.func170 rfl (by decide +kernel) (Nat.le_of_ble_eq_true rfl) fun c => ?_
 refine Good.le (σ' := ⟨3, [(0, .bool a0)], []⟩) (Le.refl _) ?_
 refine good_seq fun K1 hK1 => ?_
 refine rg 1 ?_
 refine gk hK1 3 [2] [] ?_
 refine good_seq fun K2 hK2 => ?_
 refine rg 1 ?_
 refine g_nil (hK2 _ ?_)
 refine Good.le (σ' := ⟨3, [(2, .hd 100 nilV)], [(100, (nilV, .osl 30 5 (([] : List Val).map encOVal)))]⟩) (lw [none]) ?_
 refine good_ret ?_
 obtain rfl := Option.some.inj h
 exact endQ_ret (h' := [(100, (_, _))]) [some 100] (.tmp rfl (.nil)) ⟨⟨_, rfl, .refl _⟩, trivial⟩ (by decide) ⟨nilV, rfl, rfl⟩
theorem m_impl_boolItem_within_okF : ∀ (a0 : Bool) (r : (List Val)), m_impl_boolItem_within a0 = some r → Does Try.prog 170 [.bool a0] [] (ret (.sl true (r.map encVal))) := by
 intro a0 r h
 refine does_frz (m_impl_boolItem_within_ok a0 r h) ?_
 rintro q h' ⟨u0, rfl, rfl⟩
 exact ⟨[100], [(_, _)], ⟨⟨_, rfl, .osl (FrzLL.map fun _ _ => encOVal_frz _)⟩, trivial⟩, .frz _ _ _ (.head _)⟩
def m_impl_numItem_within (a0 : Int) : Option (List Val) :=
 some ([] : List Val)
theorem m_impl_numItem_within_ok : ∀ (a0 : Int) (r : (List Val)), m_impl_numItem_within a0 = some r → Does Try.prog 171 [.int .i64 a0] [] (fun q h' => ∃ u0 : Value, q = .hd 100 u0 ∧ h' = [(100, (u0, .osl 30 5 (r.map encOVal)))]) := by
 intro a0 r h
 rw [m_impl_numItem_within] at h
 refine does_of_good tabOk Try.func171 rfl (by decide +kernel) (Nat.le_of_ble_eq_true rfl) fun c => ?_
 refine Good.le (σ' := ⟨3, [(0, .int .i64 a0)], []⟩) (Le.refl _) ?_
 refine good_seq fun K1 hK1 => ?_
 refine rg 1 ?_
 refine gk hK1 3 [2] [] ?_
 refine good_seq fun K2 hK2 => ?_
 refine rg 1 ?_
 refine g_nil (hK2 _ ?_)
 refine Good.le (σ' := ⟨3, [(2, .hd 100 nilV)], [(100, (nilV, .osl 30 5 (([] : List Val).map encOVal)))]⟩) (lw [none]) ?_
 refine good_ret ?_
 obtain rfl := Option.some.inj h
 exact endQ_ret (h' := [(100, (_, _))]) [some 100] (.tmp rfl (.nil)) ⟨⟨_, rfl, .refl _⟩, trivial⟩ (by decide) ⟨nilV, rfl, rfl⟩
theorem m_impl_numItem_within_okF : ∀ (a0 : Int) (r : (List Val)), m_impl_numItem_within a0 = some r → Does Try.prog 171 [.int .i64 a0] [] (ret (.sl true (r.map encVal))) := by
 intro a0 r h
 refine does_frz (m_impl_numItem_within_ok a0 r h) ?_
 rintro q h' ⟨u0, rfl, rfl⟩
 exact ⟨[100], [(_, _)], ⟨⟨_, rfl, .osl (FrzLL.map fun _ _ => encOVal_frz _)⟩, trivial⟩, .frz _ _ _ (.head _)⟩
def m_impl_textItem_within (a0 : Bs) : Option (List Val) :=
 some ([] : List Val)
theorem m_impl_textItem_within_ok : ∀ (a0 : Bs) (r : (List Val)), m_impl_textItem_within a0 = some r → Does Try.prog 172 [.str a0] [] (fun q h' => ∃ u0 : Value, q = .hd 100 u0 ∧ h' = [(100, (u0, .osl 30 5 (r.map encOVal)))]) := by
 intro a0 r h
 rw [m_impl_textItem_within] at h
 refine does_of_good tabOk Try.func172 rfl (by decide +kernel) (Nat.le_of_ble_eq_true rfl) fun c => ?_
 refine Good.le (σ' := ⟨3, [(0, .str a0)], []⟩) (Le.refl _) ?_
 refine good_seq fun K1 hK1 => ?_
 refine rg 1 ?_
 refine gk hK1 3 [2] [] ?_
 refine good_seq fun K2 hK2 => ?_
 refine rg 1 ?_
 refine g_nil (hK2 _ ?_)
 refine Good.le (σ' := ⟨3, [(2, .hd 100 nilV)], [(100, (nilV, .osl 30 5 (([] : List Val).map encOVal)))]⟩) (lw [none]) ?_
 refine good_ret ?_
 obtain rfl := Option.some.inj h
 exact endQ_ret (h' := [(100, (_, _))]) [some 100] (.tmp rfl (.nil)) ⟨⟨_, rfl, .refl _⟩, trivial⟩ (by decide) ⟨nilV, rfl, rfl⟩
theorem m_impl_textItem_within_okF : ∀ (a0 : Bs) (r : (List Val)), m_impl_textItem_within a0 = some r → Does Try.prog 172 [.str a0] [] (ret (.sl true (r.map encVal))) := by
 intro a0 r h
 refine does_frz (m_impl_textItem_within_ok a0 r h) ?_
 rintro q h' ⟨u0, rfl, rfl⟩
 exact ⟨[100], [(_, _)], ⟨⟨_, rfl, .osl (FrzLL.map fun _ _ => encOVal_frz _)⟩, trivial⟩, .frz _ _ _ (.head _)⟩
def m_impl_listItem_within (a0 : (List Val)) : Option (List Val) :=
 some a0
theorem m_impl_listItem_within_ok : ∀ (a0 : (List Val)) (r : (List Val)), m_impl_listItem_within a0 = some r → Does Try.prog 173 [.sl true (a0.map encVal)] [] (ret (.sl true (r.map encVal))) := by
 intro a0 r h
 rw [m_impl_listItem_within] at h
 refine does_of_good tabOk Try.func173 rfl (by decide +kernel) (Nat.le_of_ble_eq_true rfl) fun c => ?_
 refine Good.le (σ' := ⟨4, [(0, .sl true (a0.map encVal))], []⟩) (Le.refl _) ?_
 refine good_seq fun K1 hK1 => ?_
 refine rg 1 ?_
 refine g_nil (hK1 _ ?_)
 refine good_seq fun K2 hK2 => ?_
 refine rg 2 ?_
 refine gk hK2 4 [2] [] ?_
 obtain rfl := Option.some.inj h
 exact rt
def m_impl_treeItem_within (a0 : GTreeItem) : Option (List Val) :=
 some a0.list
theorem m_impl_treeItem_within_ok : ∀ (a0 : GTreeItem) (r : (List Val)), m_impl_treeItem_within a0 = some r → Does Try.prog 174 [.agg [.sl false (a0.names.map encS), .sl true (a0.list.map encVal)]] [] (ret (.sl true (r.map encVal))) := by
 intro a0 r h
 rw [m_impl_treeItem_within] at h
 refine does_of_good tabOk Try.func174 rfl (by decide +kernel) (Nat.le_of_ble_eq_true rfl) fun c => ?_
 refine Good.le (σ' := ⟨5, [(0, .agg [.sl false (a0.names.map encS), .sl true (a0.list.map encVal)])], []⟩) (Le.refl _) ?_
 refine good_seq fun K1 hK1 => ?_
 refine good_region ?_
 refine g_op rfl (o_box (k := 11) tabOk rfl rfl rfl rfl rfl ?_)
 intro b1
 refine gs 1 ?_
 refine gk hK1 5 [1, 2] [11] ?_
 refine good_seq fun K2 hK2 => ?_
 refine rg 3 ?_
 refine gk hK2 5 [2] [] ?_
 obtain rfl := Option.some.inj h
 exact rt
mutual
def m_impl_fitsIn_l1 : Nat → Int → Bool → (List Val) → Int → Option (Lp Unit Bool)
 | 0, _, _, _, _ => none
 | k + 1, a1, a2, y2, x1 =>
  if x1 < (y2.length : Int) then
   if (0 : Int) ≤ x1 ∧ x1 < (y2.length : Int) then
    (m_impl_fitsIn k (ix y2 x1) (IntKind.wrap .i64 (a1 - 1)) a2).bind fun y3 =>
    if y3 = true then
     m_impl_fitsIn_l1 k a1 a2 y2 (IntKind.wrap .i64 (x1 + 1))
    else
     (some false).bind fun z =>
     some (Lp.ret z)
   else none
  else
   some (Lp.go ())
def m_impl_fitsIn : Nat → Val → Int → Bool → Option Bool
 | 0, _, _, _ => none
 | k + 1, a0, a1, a2 =>
  if a1 < 1 then
   some false
  else
   (m_impl_itemOf k a0).bind fun y1 =>
   if (GI110.isNil y1) = true then
    some false
   else
    if (GI110.is112 y1) = true then
     some a2
    else
     if (GI110.is113 y1) = true then
      some a2
     else
      ((match (y1 : GI110) with | .nil => none | .c112 v => m_impl_varItem_within v | .c113 v => m_impl_wordItem_within v | .c134 => m_impl_nullItem_within () | .c135 v => m_impl_boolItem_within v | .c136 v => m_impl_numItem_within v | .c137 v => m_impl_textItem_within v | .c138 v => m_impl_listItem_within v | .c140 v => m_impl_treeItem_within v)).bind fun y2 =>
      (m_impl_fitsIn_l1 k a1 a2 y2 0).bind fun o1 =>
      o1.then fun s1 =>
  some true
end
def P_m_impl_fitsIn (k : Nat) : Prop := ∀ (a0 : Val) (a1 : Int) (a2 : Bool) (r : Bool), m_impl_fitsIn k a0 a1 a2 = some r → Does Try.prog 72 [.agg [.int .i64 a0.kind, .int .i64 a0.num, .str a0.text, .sl true (a0.list.map encVal), .sl false (a0.names.map encS)], .int .i64 a1, .bool a2] [] (ret (.bool r))
theorem m_impl_fitsIn_step (k : Nat) (ih : ∀ m, m < k → P_m_impl_fitsIn m) : P_m_impl_fitsIn k := by
 intro a0 a1 a2 r h
 obtain ⟨k, rfl⟩ : ∃ k', k = k' + 1 := by cases k with | zero => (rw [m_impl_fitsIn] at h; cases h) | succ k' => exact ⟨k', rfl⟩
 rw [m_impl_fitsIn] at h
 refine does_of_good tabOk Try.func72 rfl (by decide +kernel) (Nat.le_of_ble_eq_true rfl) fun c => ?_
 refine Good.le (σ' := ⟨38, [(0, .agg [.int .i64 a0.kind, .int .i64 a0.num, .str a0.text, .sl true (a0.list.map encVal), .sl false (a0.names.map encS)]), (1, .int .i64 a1), (2, .bool a2)], []⟩) (Le.refl _) ?_
 refine good_seq fun K1 hK1 => ?_
 refine good_region ?_
 refine g_op rfl (o_box (k := 13) tabOk rfl rfl rfl rfl rfl ?_)
 intro b1
 refine gs 1 ?_
 refine gk hK1 38 [1, 2, 3, 6] [13] ?_
 refine good_seq fun K2 hK2 => ?_
 refine good_seq fun K3 hK3 => ?_
 refine rg 2 ?_
 refine gk hK3 38 [1, 2, 3, 6, 11] [13] ?_
 refine good_cond rfl (fun hc1 => ?_) (fun hc1 => ?_)
 ·replace h := ifT h (dT hc1)
  refine good_seq fun K4 hK4 => ?_
  refine rg 1 ?_
  refine gk hK4 38 [1, 2, 3, 6] [13] ?_
  obtain rfl := Option.some.inj h
  exact rt
 ·replace h := ifF h (dF hc1)
  refine good_skip ?_
  refine hK2 _ (kp 38 [1, 2, 3, 6] [13] ?_)
  refine good_seq fun K5 hK5 => ?_
  refine rg 1 ?_
  obtain ⟨y1, hy1, h⟩ := bnd h
  refine g_op rfl (o_callR [] [] (core_value rfl rfl) (m_impl_itemOf_ok k a0 _ hy1) trivial (.cons (.refl _) (.nil)) (.inl rfl) rfl ?_)
  refine gs 1 ?_
  refine gk hK5 38 [1, 2, 6, 7] [] ?_
  refine good_seq fun K6 hK6 => ?_
  refine good_seq fun K7 hK7 => ?_
  refine rg 1 ?_
  refine g_nil (hK7 _ ?_)
  refine good_block ?_
  refine good_seq fun K8 hK8 => ?_
  refine good_region ?_
  refine g_op rfl (ValOk.op (v_splitI (r := .bool (GI110.isNil y1)) (fun hK => by revert hK; generalize y1 = z; intro hK; cases z <;> exact v_binT tabOk rfl rfl (by simp [binT, eqr, isConstO, GI110.isNil, encGI110]) rfl hK) ?_))
  refine g_nil (hK8 _ ?_)
  refine good_cond rfl (fun hc2 => ?_) (fun hc2 => ?_)
  ·replace h := ifT h hc2
   refine good_seq fun K9 hK9 => ?_
   refine rg 1 ?_
   refine gk hK9 38 [1, 2, 6, 7] [] ?_
   obtain rfl := Option.some.inj h
   exact rt
  ·replace h := bF h hc2
   refine good_seq fun K10 hK10 => ?_
   refine good_region ?_
   refine g_op rfl (ValOk.op (v_splitI (r := .tup [.str (GI110.as112 y1), .bool (GI110.is112 y1)]) (fun hK => by revert hK; generalize y1 = z; intro hK; cases z with | c112 v => exact v_assertY tabOk rfl tkind112 rfl rfl hK | c113 v => exact v_assertN tabOk rfl rfl tkind112 rfl tzero112 tagg112 rfl rfl hK | c134 => exact v_assertN tabOk rfl rfl tkind112 rfl tzero112 tagg112 rfl rfl hK | c135 v => exact v_assertN tabOk rfl rfl tkind112 rfl tzero112 tagg112 rfl rfl hK | c136 v => exact v_assertN tabOk rfl rfl tkind112 rfl tzero112 tagg112 rfl rfl hK | c137 v => exact v_assertN tabOk rfl rfl tkind112 rfl tzero112 tagg112 rfl rfl hK | c138 v => exact v_assertN tabOk rfl rfl tkind112 rfl tzero112 tagg112 rfl rfl hK | c140 v => exact v_assertN tabOk rfl rfl tkind112 rfl tzero112 tagg112 rfl rfl hK | nil => exact v_assert0 tabOk rfl tkind112 rfl tzero112 tagg112 rfl rfl hK) ?_))
   refine gs 2 ?_
   refine g_op rfl (ValOk.op (v_splitI (r := .tup [.str (GI110.as113 y1), .bool (GI110.is113 y1)]) (fun hK => by revert hK; generalize y1 = z; intro hK; cases z with | c112 v => exact v_assertN tabOk rfl rfl tkind113 rfl tzero113 tagg113 rfl rfl hK | c113 v => exact v_assertY tabOk rfl tkind113 rfl rfl hK | c134 => exact v_assertN tabOk rfl rfl tkind113 rfl tzero113 tagg113 rfl rfl hK | c135 v => exact v_assertN tabOk rfl rfl tkind113 rfl tzero113 tagg113 rfl rfl hK | c136 v => exact v_assertN tabOk rfl rfl tkind113 rfl tzero113 tagg113 rfl rfl hK | c137 v => exact v_assertN tabOk rfl rfl tkind113 rfl tzero113 tagg113 rfl rfl hK | c138 v => exact v_assertN tabOk rfl rfl tkind113 rfl tzero113 tagg113 rfl rfl hK | c140 v => exact v_assertN tabOk rfl rfl tkind113 rfl tzero113 tagg113 rfl rfl hK | nil => exact v_assert0 tabOk rfl tkind113 rfl tzero113 tagg113 rfl rfl hK) ?_))
   refine gs 2 ?_
   rcases bsplit ((GI110.is112 y1)) with hg1 | hg1
   ·replace h := ifT h hg1
    refine gs 1 ?_
    refine gk hK10 38 [1, 2, 6, 7, 22] [] ?_
    refine good_cond (b := true) rfl (fun hc => ?_) (fun hc => Bool.noConfusion hc)
    refine good_seq fun K11 hK11 => ?_
    refine rg 2 ?_
    refine gk hK11 38 [1, 2, 6, 7] [] ?_
    obtain rfl := Option.some.inj h
    exact rt
   ·replace h := bF h hg1
    refine gs 1 ?_
    refine gk hK10 38 [1, 2, 6, 7, 22] [] ?_
    refine good_cond rfl (fun hc3 => ?_) (fun hc3 => ?_)
    ·replace h := ifT h hc3
     refine good_seq fun K12 hK12 => ?_
     refine rg 2 ?_
     refine gk hK12 38 [1, 2, 6, 7] [] ?_
     obtain rfl := Option.some.inj h
     exact rt
    ·replace h := bF h hc3
     refine good_skip ?_
     refine hK6 _ (kp 38 [1, 2, 6, 7] [] ?_)
     refine good_seq fun K13 hK13 => ?_
     refine good_seq fun K14 hK14 => ?_
     refine rg 1 ?_
     obtain ⟨y2, hy2, h⟩ := bnd h
     refine g_op rfl (o_splitI (r := .sl true (y2.map encVal)) (fun hK => by revert hK hy2; generalize y1 = z; intro hy hK; cases z with | nil => cases hy | c112 v => exact o_callR [] [] (core_invoke tabOk rfl rfl tmeth112_167 tkind112 rfl) (m_impl_varItem_within_okF v _ hy) trivial (.cons (.refl _) .nil) (.inl rfl) rfl hK | c113 v => exact o_callR [] [] (core_invoke tabOk rfl rfl tmeth113_168 tkind113 rfl) (m_impl_wordItem_within_okF v _ hy) trivial (.cons (.refl _) .nil) (.inl rfl) rfl hK | c134 => exact o_callR [] [] (core_invoke tabOk rfl rfl tmeth134_169 tkind134 rfl) (m_impl_nullItem_within_okF () _ hy) trivial (.cons (.refl _) .nil) (.inl rfl) rfl hK | c135 v => exact o_callR [] [] (core_invoke tabOk rfl rfl tmeth135_170 tkind135 rfl) (m_impl_boolItem_within_okF v _ hy) trivial (.cons (.refl _) .nil) (.inl rfl) rfl hK | c136 v => exact o_callR [] [] (core_invoke tabOk rfl rfl tmeth136_171 tkind136 rfl) (m_impl_numItem_within_okF v _ hy) trivial (.cons (.refl _) .nil) (.inl rfl) rfl hK | c137 v => exact o_callR [] [] (core_invoke tabOk rfl rfl tmeth137_172 tkind137 rfl) (m_impl_textItem_within_okF v _ hy) trivial (.cons (.refl _) .nil) (.inl rfl) rfl hK | c138 v => exact o_callR [] [] (core_invoke tabOk rfl rfl tmeth138_173 tkind138 rfl) (m_impl_listItem_within_ok v _ hy) trivial (.cons (.refl _) .nil) (.inl rfl) rfl hK | c140 v => exact o_callR [] [] (core_invoke tabOk rfl rfl tmeth140_174 tkind140 rfl) (m_impl_treeItem_within_ok v _ hy) trivial (.cons (.refl _) .nil) (.inl rfl) rfl hK) ?_)
     refine g_op rfl (ValOk.op (v_lenM (l := y2) (f := encVal) tabOk rfl rfl telem28 rfl ?_))
     refine gs 1 ?_
     refine gk hK14 38 [1, 2, 6, 25, 26, 27] [] ?_
     obtain ⟨o1, ho1, hJ1⟩ := bnd h
     have hw1 : ∀ (s1 : Unit), o1 = Lp.go s1 → ∀ σ', Le σ' ⟨38, [(6, .bool false)], []⟩ → K13 σ' := by
      intro s1 e1 σ' hle1
      subst e1
      refine hK13 _ (Good.le hle1 ?_)
      replace h := hJ1
      refine good_seq fun K15 hK15 => ?_
      refine rg 1 ?_
      refine g_nil (hK15 _ ?_)
      obtain rfl := Option.some.inj h
      exact rt
     replace h := ho1
     refine good_block ?_
     refine good_loopf (fun p : Int => ⟨38, [(1, .int .i64 a1), (2, .bool a2), (6, .bool false), (25, .sl true (y2.map encVal)), (26, .int .i64 (y2.length : Int)), (27, .int .i64 p)], []⟩) (fun m p => m < k + 1 ∧ m_impl_fitsIn_l1 m a1 a2 y2 p = some o1) k (0) (lw []) ⟨by omega, h⟩ ?_
     rintro m1 x1 ⟨hm, h⟩
     replace h : m_impl_fitsIn_l1 m1 a1 a2 y2 x1 = some o1 := h
     refine Good.le (σ' := ⟨38, [(1, .int .i64 a1), (2, .bool a2), (6, .bool false), (25, .sl true (y2.map encVal)), (26, .int .i64 (y2.length : Int)), (27, .int .i64 x1)], []⟩) (Le.refl _) ?_
     obtain ⟨m1, rfl⟩ : ∃ m', m1 = m' + 1 := by cases m1 with | zero => (rw [m_impl_fitsIn_l1] at h; cases h) | succ m' => exact ⟨m', rfl⟩
     rw [m_impl_fitsIn_l1] at h
     refine good_seq fun K16 hK16 => ?_
     refine rg 1 ?_
     refine g_nil (hK16 _ ?_)
     refine good_seq fun K17 hK17 => ?_
     refine good_cond rfl (fun hc4 => ?_) (fun hc4 => ?_)
     ·replace h := ifT h (dT hc4)
      refine good_skip ?_
      refine hK17 _ (kp 38 [1, 2, 6, 25, 26, 27] [] ?_)
      refine good_seq fun K18 hK18 => ?_
      refine good_block ?_
      refine good_seq fun K19 hK19 => ?_
      refine good_region ?_
      obtain ⟨hb1, h⟩ := ifS h
      refine g_op rfl (ValOk.op (v_idxM tabOk rfl rfl telem28 tsize30 hb1 (encVal_eq _) rfl rfl ?_))
      refine gs 1 ?_
      refine g_op rfl (o_alloc (k := 19) tabOk tzero30 rfl rfl ?_)
      intro b2
      refine g_op rfl (o_storeP tabOk (cs' := [.int .i64 ((ix y2 x1).kind), .int .i64 ((ix y2 x1).num), .str ((ix y2 x1).text), .sl true (((ix y2 x1).list).map encVal), .sl false (((ix y2 x1).names).map encS)]) rfl rfl tsize30 rfl rfl rfl (Nat.le_of_ble_eq_true rfl) rfl rfl rfl ?_)
      refine gk hK19 38 [1, 2, 6, 9, 25, 26, 27] [19] ?_
      refine good_seq fun K20 hK20 => ?_
      refine rg 4 ?_
      obtain ⟨y3, hy3, h⟩ := bnd h
      refine g_op rfl (o_callR [] [] (core_value rfl rfl) ((ih m1 (by omega)) (ix y2 x1) (IntKind.wrap .i64 (a1 - 1)) a2 _ hy3) trivial (.cons (.refl _) (.cons (.refl _) (.cons (.refl _) (.nil)))) (.inl rfl) rfl ?_)
      refine gs 1 ?_
      refine gk hK20 38 [1, 2, 6, 25, 26, 27, 36] [] ?_
      refine good_cond rfl (fun hc5 => ?_) (fun hc5 => ?_)
      ·replace h := bF h (nT hc5)
       refine good_seq fun K21 hK21 => ?_
       refine rg 1 ?_
       refine gk hK21 38 [1, 2, 6, 25, 26, 27] [] ?_
       replace h := unret h hJ1
       obtain rfl := Option.some.inj h
       exact rt
      ·replace h := ifT h (nF hc5)
       refine good_skip ?_
       refine hK18 _ (kp 38 [1, 2, 6, 25, 26, 27] [] ?_)
       refine rg 2 ?_
       refine g_nil ?_
       exact round_mk m1 (IntKind.wrap .i64 (x1 + 1)) (Nat.lt_succ_self _) ⟨by omega, h⟩ (lw [])
     ·replace h := ifF h (dF hc4)
      refine good_exit ?_
      exact hw1 () (Option.some.inj h).symm _ (lw [])
theorem m_impl_fitsIn_all (k : Nat) : P_m_impl_fitsIn k := by
 induction k using Nat.strongRecOn with
 | _ k ih => exact m_impl_fitsIn_step k ih
theorem m_impl_fitsIn_ok (k : Nat) : ∀ (a0 : Val) (a1 : Int) (a2 : Bool) (r : Bool), m_impl_fitsIn k a0 a1 a2 = some r → Does Try.prog 72 [.agg [.int .i64 a0.kind, .int .i64 a0.num, .str a0.text, .sl true (a0.list.map encVal), .sl false (a0.names.map encS)], .int .i64 a1, .bool a2] [] (ret (.bool r)) := (m_impl_fitsIn_all k)
def m_impl_ValueOk (k : Nat) (a0 : Val) : Option Bool :=
 (m_impl_fitsIn k a0 6 false).bind fun y1 =>
 some y1
theorem m_impl_ValueOk_ok (k : Nat) : ∀ (a0 : Val) (r : Bool), m_impl_ValueOk k a0 = some r → Does Try.prog 34 [.agg [.int .i64 a0.kind, .int .i64 a0.num, .str a0.text, .sl true (a0.list.map encVal), .sl false (a0.names.map encS)]] [] (ret (.bool r)) := by
 intro a0 r h
 rw [m_impl_ValueOk] at h
 refine does_of_good tabOk Try.func34 rfl (by decide +kernel) (Nat.le_of_ble_eq_true rfl) fun c => ?_
 refine Good.le (σ' := ⟨5, [(0, .agg [.int .i64 a0.kind, .int .i64 a0.num, .str a0.text, .sl true (a0.list.map encVal), .sl false (a0.names.map encS)])], []⟩) (Le.refl _) ?_
 refine good_seq fun K1 hK1 => ?_
 refine good_region ?_
 refine g_op rfl (o_box (k := 11) tabOk rfl rfl rfl rfl rfl ?_)
 intro b1
 refine gs 1 ?_
 refine gk hK1 5 [1, 2] [11] ?_
 refine good_seq fun K2 hK2 => ?_
 refine rg 1 ?_
 obtain ⟨y1, hy1, h⟩ := bnd h
 refine g_op rfl (o_callR [] [] (core_value rfl rfl) (m_impl_fitsIn_ok k a0 6 false _ hy1) trivial (.cons (.refl _) (.cons (.refl _) (.cons (.refl _) (.nil)))) (.inl rfl) rfl ?_)
 refine gs 1 ?_
 refine gk hK2 5 [2] [] ?_
 obtain rfl := Option.some.inj h
 exact rt
end Go.Proofs.Ytiaigcdckmpepaa
end
end
section
/-! Functions of the program. -/
set_option linter.unusedVariables false
set_option linter.unnecessarySimpa false
set_option maxRecDepth 100000
set_option maxHeartbeats 20000000
noncomputable section
namespace Go.Proofs.Ytiaigcdckmpepaa
open Go.Bb
def m_impl_isBlank (a0 : Int) : Option Bool :=
 if a0 = 32 then
  some true
 else
  if a0 = 9 then
   some true
  else
   if a0 = 10 then
    some true
   else
    some (decide (a0 = 13))
theorem m_impl_isBlank_ok : ∀ (a0 : Int) (r : Bool), m_impl_isBlank a0 = some r → Does Try.prog 98 [.int .u8 a0] [] (ret (.bool r)) := by
 intro a0 r h
 rw [m_impl_isBlank] at h
 refine does_of_good tabOk Try.func98 rfl (by decide +kernel) (Nat.le_of_ble_eq_true rfl) fun c => ?_
 refine Good.le (σ' := ⟨17, [(0, .int .u8 a0)], []⟩) (Le.refl _) ?_
 refine good_seq fun K1 hK1 => ?_
 refine rg 1 ?_
 refine g_nil (hK1 _ ?_)
 refine good_seq fun K2 hK2 => ?_
 refine rg 3 ?_
 rcases bsplit ((decide (a0 = 32))) with hg1 | hg1
 ·replace h := ifT h (dT hg1)
  refine gs 12 ?_
  refine gk hK2 17 [2] [] ?_
  obtain rfl := Option.some.inj h
  exact rt
 ·replace h := ifF h (dF hg1)
  refine gs 4 ?_
  rcases bsplit ((decide (a0 = 9))) with hg2 | hg2
  ·replace h := ifT h (dT hg2)
   refine gs 8 ?_
   refine gk hK2 17 [2] [] ?_
   obtain rfl := Option.some.inj h
   exact rt
  ·replace h := ifF h (dF hg2)
   refine gs 4 ?_
   rcases bsplit ((decide (a0 = 10))) with hg3 | hg3
   ·replace h := ifT h (dT hg3)
    refine gs 4 ?_
    refine gk hK2 17 [2] [] ?_
    obtain rfl := Option.some.inj h
    exact rt
   ·replace h := ifF h (dF hg3)
    refine gs 4 ?_
    refine gk hK2 17 [2] [] ?_
    obtain rfl := Option.some.inj h
    exact rt
def m_impl_jsonReader_blanks_l1 : Nat → GJsonReader → Int → Option (Lp Int GJsonReader)
 | 0, _, _ => none
 | k + 1, a0, x1 =>
  (if x1 < (a0.text.length : Int) then
    if (0 : Int) ≤ x1 ∧ x1 < (a0.text.length : Int) then
     (m_impl_isBlank (byt a0.text x1)).bind fun y1 =>
     some (Lp.go y1)
    else none
   else
    some (Lp.go false)).bind fun o2 =>
  o2.then fun s2 =>
  if s2 = true then
   m_impl_jsonReader_blanks_l1 k a0 (IntKind.wrap .i64 (x1 + 1))
  else
   some (Lp.go x1)
def m_impl_jsonReader_blanks (k : Nat) (a0 : GJsonReader) : Option GJsonReader :=
 (m_impl_jsonReader_blanks_l1 k a0 a0.at_).bind fun o1 =>
 o1.then fun s1 =>
  some (GJsonReader.mk a0.text s1)
theorem m_impl_jsonReader_blanks_ok (k : Nat) : ∀ (a0 : GJsonReader) (b0_0 : Nat) (r : GJsonReader), m_impl_jsonReader_blanks k a0 = some r → Does Try.prog 64 [.ptr 0 b0_0 0] [(0, (.pointer (some ⟨b0_0, 0, none⟩), .optr 78 [.str a0.text, .int .i64 a0.at_]))] (fun q h' => q = .tup [] ∧ h' = [(0, (.pointer (some ⟨b0_0, 0, none⟩), .optr 78 [.str r.text, .int .i64 r.at_]))]) := by
 intro a0 b0_0 r h
 rw [m_impl_jsonReader_blanks] at h
 refine does_of_good tabOk Try.func64 rfl (by decide +kernel) (Nat.le_of_ble_eq_true rfl) fun c => ?_
 refine Good.le (σ' := ⟨31, [(0, .ptr 0 b0_0 0)], [(0, ((.pointer (some ⟨b0_0, 0, none⟩)), .optr 78 [.str a0.text, .int .i64 a0.at_]))]⟩) (Le.refl _) ?_
 refine good_namedL fun K1 hK1 => ?_
 obtain ⟨o1, ho1, hJ1⟩ := bnd h
 have hw1 : ∀ (s1 : Int), o1 = Lp.go s1 → ∀ σ', Le σ' ⟨31, [], [(0, ((.pointer (some ⟨b0_0, 0, none⟩)), .optr 78 [.str a0.text, .int .i64 s1]))]⟩ → K1 σ' := by
  intro s1 e1 σ' hle1
  subst e1
  replace h := hJ1
  refine hK1 _ ⟨31, [], [(0, ((.pointer (some ⟨b0_0, 0, none⟩)), .optr 78 [.str a0.text, .int .i64 s1]))]⟩ (Le.trans hle1 (lw [some 0])) ?_
  obtain rfl := Option.some.inj h
  repeat (refine blockQ_norm ?_)
  exact endQ_end (h' := [(0, (_, _))]) [some 0] (.nil) ⟨⟨_, rfl, .refl _⟩, trivial⟩ (by decide) ⟨rfl, rfl⟩
 replace h := ho1
 refine good_block ?_
 refine good_loopf (fun p : Int => ⟨31, [(0, .ptr 0 b0_0 0)], [(0, ((.pointer (some ⟨b0_0, 0, none⟩)), .optr 78 [.str a0.text, .int .i64 p]))]⟩) (fun m p => m_impl_jsonReader_blanks_l1 m a0 p = some o1) k (a0.at_) (lw [some 0]) h ?_
 rintro m1 x1 h
 replace h : m_impl_jsonReader_blanks_l1 m1 a0 x1 = some o1 := h
 refine Good.le (σ' := ⟨31, [(0, .ptr 0 b0_0 0)], [(0, ((.pointer (some ⟨b0_0, 0, none⟩)), .optr 78 [.str a0.text, .int .i64 x1]))]⟩) (Le.refl _) ?_
 obtain ⟨m1, rfl⟩ : ∃ m', m1 = m' + 1 := by cases m1 with | zero => (rw [m_impl_jsonReader_blanks_l1] at h; cases h) | succ m' => exact ⟨m', rfl⟩
 rw [m_impl_jsonReader_blanks_l1] at h
 refine good_seq fun K2 hK2 => ?_
 refine good_seq fun K3 hK3 => ?_
 obtain ⟨o2, ho2, hJ2⟩ := bnd h
 have hw2 : ∀ (s2 : Bool), o2 = Lp.go s2 → ∀ σ', Le σ' ⟨31, [(0, .ptr 0 b0_0 0), (23, .bool s2)], [(0, ((.pointer (some ⟨b0_0, 0, none⟩)), .optr 78 [.str a0.text, .int .i64 x1]))]⟩ → K3 σ' := by
  intro s2 e2 σ' hle2
  subst e2
  refine hK3 _ (Good.le hle2 ?_)
  replace h := hJ2
  refine good_cond rfl (fun hc1 => ?_) (fun hc1 => ?_)
  ·replace h := ifT h hc1
   refine good_skip ?_
   refine hK2 _ (kp 31 [0] [0] ?_)
   refine good_block ?_
   refine rg 1 ?_
   refine g_op rfl (ValOk.op (v_nilP rfl rfl ?_))
   refine gs 3 ?_
   refine g_op rfl (ValOk.op (v_nilP rfl rfl ?_))
   refine gs 1 ?_
   refine g_op rfl (o_storeP tabOk (cs' := [.str a0.text, .int .i64 (IntKind.wrap .i64 (x1 + 1))]) rfl rfl tsize3 rfl rfl rfl (Nat.le_of_ble_eq_true rfl) rfl rfl rfl ?_)
   refine g_nil ?_
   exact round_mk m1 (IntKind.wrap .i64 (x1 + 1)) (Nat.lt_succ_self _) h (lw [some 0])
  ·replace h := bF h hc1
   refine good_exit ?_
   exact hw1 x1 (Option.some.inj h).symm _ (lw [some 0])
 replace h := ho2
 refine good_draw (by kernel_rfl) (by kernel_rfl) ?_
 refine q_op rfl (v_move rfl rfl ?_)
 refine q_op rfl (v_nilP rfl rfl ?_)
 refine q_op rfl (v_fieldP tabOk rfl tfoff78_1 rfl ?_)
 refine q_op rfl (v_loadP tabOk rfl rfl tsize3 tagg3 rfl rfl rfl rfl ?_)
 refine q_op rfl (v_move rfl rfl ?_)
 refine q_op rfl (v_nilP rfl rfl ?_)
 refine q_op rfl (v_fieldP tabOk rfl tfoff78_0 rfl ?_)
 refine q_op rfl (v_loadP tabOk rfl rfl tsize9 tagg9 rfl rfl rfl rfl ?_)
 refine q_op rfl (v_lenS tabOk rfl rfl tkind9 rfl ?_)
 refine q_op rfl (v_bin rfl rfl rfl rfl ?_)
 refine q_op rfl (v_move rfl rfl ?_)
 rcases bsplit ((decide (x1 < (a0.text.length : Int)))) with hg1 | hg1
 ·replace h := ifT h (dT hg1)
  refine q_yes rfl rfl hg1 (v_move rfl rfl ?_)
  refine q_yes rfl rfl hg1 (v_nilP rfl rfl ?_)
  refine q_yes rfl rfl hg1 (v_fieldP tabOk rfl tfoff78_0 rfl ?_)
  refine q_yes rfl rfl hg1 (v_loadP tabOk rfl rfl tsize9 tagg9 rfl rfl rfl rfl ?_)
  refine q_yes rfl rfl hg1 (v_move rfl rfl ?_)
  refine q_yes rfl rfl hg1 (v_nilP rfl rfl ?_)
  refine q_yes rfl rfl hg1 (v_fieldP tabOk rfl tfoff78_1 rfl ?_)
  refine q_yes rfl rfl hg1 (v_loadP tabOk rfl rfl tsize3 tagg3 rfl rfl rfl rfl ?_)
  obtain ⟨hb1, h⟩ := ifS h
  refine q_yes rfl rfl hg1 (v_indexM tabOk rfl rfl tkind9 hb1 rfl ?_)
  obtain ⟨y1, hy1, h⟩ := bnd h
  refine q_callY [] [] rfl rfl hg1 (core_value rfl rfl) (m_impl_isBlank_ok (byt a0.text x1) _ hy1) trivial (.cons (.refl _) (.nil)) (.bool _) rfl ?_
  refine q_op rfl (v_pickT rfl hg1 rfl rfl ?_)
  refine q_nil ?_
  exact hw2 y1 (Option.some.inj h).symm _ (lw [some 0])
 ·replace h := ifF h (dF hg1)
  refine q_no rfl rfl hg1 rfl ?_
  refine q_no rfl rfl hg1 rfl ?_
  refine q_no rfl rfl hg1 rfl ?_
  refine q_no rfl rfl hg1 rfl ?_
  refine q_no rfl rfl hg1 rfl ?_
  refine q_no rfl rfl hg1 rfl ?_
  refine q_no rfl rfl hg1 rfl ?_
  refine q_no rfl rfl hg1 rfl ?_
  refine q_no rfl rfl hg1 rfl ?_
  refine q_no rfl rfl hg1 rfl ?_
  refine q_op rfl (v_pickF rfl hg1 rfl rfl ?_)
  refine q_nil ?_
  exact hw2 false (Option.some.inj h).symm _ (lw [some 0])
def m_impl_hexAt_l1 : Nat → Bs → Int → Int → Int → Option (Lp Int (Int × Bool))
 | 0, _, _, _, _ => none
 | k + 1, a0, a1, x1, x2 =>
  if x2 < ((toI (sub a0 a1 (IntKind.wrap .i64 (a1 + 4)))).length : Int) then
   if (0 : Int) ≤ x2 ∧ x2 < ((toI (sub a0 a1 (IntKind.wrap .i64 (a1 + 4)))).length : Int) then
    (m_impl_isFigure (ix (toI (sub a0 a1 (IntKind.wrap .i64 (a1 + 4)))) x2)).bind fun y1 =>
    if y1 = true then
     m_impl_hexAt_l1 k a0 a1 (IntKind.wrap .i64 ((IntKind.wrap .i64 (x1 * 16)) + (IntKind.wrap .i64 (IntKind.wrap .u8 ((ix (toI (sub a0 a1 (IntKind.wrap .i64 (a1 + 4)))) x2) - 48))))) (IntKind.wrap .i64 (x2 + 1))
    else
     (if 97 ≤ (ix (toI (sub a0 a1 (IntKind.wrap .i64 (a1 + 4)))) x2) then
       some (Lp.go (decide ((ix (toI (sub a0 a1 (IntKind.wrap .i64 (a1 + 4)))) x2) ≤ 102)))
      else
       some (Lp.go false)).bind fun o2 =>
     o2.then fun s2 =>
  if s2 = true then
   m_impl_hexAt_l1 k a0 a1 (IntKind.wrap .i64 ((IntKind.wrap .i64 ((IntKind.wrap .i64 (x1 * 16)) + (IntKind.wrap .i64 (IntKind.wrap .u8 ((ix (toI (sub a0 a1 (IntKind.wrap .i64 (a1 + 4)))) x2) - 97))))) + 10)) (IntKind.wrap .i64 (x2 + 1))
  else
   (if 65 ≤ (ix (toI (sub a0 a1 (IntKind.wrap .i64 (a1 + 4)))) x2) then
     some (Lp.go (decide ((ix (toI (sub a0 a1 (IntKind.wrap .i64 (a1 + 4)))) x2) ≤ 70)))
    else
     some (Lp.go false)).bind fun o3 =>
   o3.then fun s3 =>
  if s3 = true then
   m_impl_hexAt_l1 k a0 a1 (IntKind.wrap .i64 ((IntKind.wrap .i64 ((IntKind.wrap .i64 (x1 * 16)) + (IntKind.wrap .i64 (IntKind.wrap .u8 ((ix (toI (sub a0 a1 (IntKind.wrap .i64 (a1 + 4)))) x2) - 65))))) + 10)) (IntKind.wrap .i64 (x2 + 1))
  else
   (some (0, false)).bind fun z =>
   some (Lp.ret z)
   else none
  else
   some (Lp.go x1)
def m_impl_hexAt (k : Nat) (a0 : Bs) (a1 : Int) : Option (Int × Bool) :=
 if (a0.length : Int) < (IntKind.wrap .i64 (a1 + 4)) then
  some (0, false)
 else
  if (0 : Int) ≤ a1 ∧ a1 ≤ (IntKind.wrap .i64 (a1 + 4)) ∧ (IntKind.wrap .i64 (a1 + 4)) ≤ (a0.length : Int) then
   (m_impl_hexAt_l1 k a0 a1 0 0).bind fun o1 =>
   o1.then fun s1 =>
  some (IntKind.wrap .u8 s1, (decide (s1 ≤ 255)))
  else none
theorem m_impl_hexAt_ok (k : Nat) : ∀ (a0 : Bs) (a1 : Int) (r : (Int × Bool)), m_impl_hexAt k a0 a1 = some r → Does Try.prog 118 [.str a0, .int .i64 a1] [] (ret (.tup [.int .u8 r.1, .bool r.2])) := by
 intro a0 a1 r h
 rw [m_impl_hexAt] at h
 refine does_of_good tabOk Try.func118 rfl (by decide +kernel) (Nat.le_of_ble_eq_true rfl) fun c => ?_
 refine Good.le (σ' := ⟨67, [(0, .str a0), (1, .int .i64 a1)], []⟩) (Le.refl _) ?_
 refine good_seq fun K1 hK1 => ?_
 refine rg 2 ?_
 refine g_nil (hK1 _ ?_)
 refine good_seq fun K2 hK2 => ?_
 refine good_seq fun K3 hK3 => ?_
 refine rg 5 ?_
 refine gk hK3 67 [0, 1, 4, 5, 13] [] ?_
 refine good_cond rfl (fun hc1 => ?_) (fun hc1 => ?_)
 ·replace h := ifT h (dT hc1)
  refine good_seq fun K4 hK4 => ?_
  refine rg 2 ?_
  refine gk hK4 67 [0, 1, 4, 5] [] ?_
  obtain rfl := Option.some.inj h
  exact rt
 ·replace h := ifF h (dF hc1)
  refine good_skip ?_
  refine hK2 _ (kp 67 [0, 1, 4, 5] [] ?_)
  refine good_seq fun K5 hK5 => ?_
  refine rg 1 ?_
  refine g_nil (hK5 _ ?_)
  refine good_seq fun K6 hK6 => ?_
  refine good_seq fun K7 hK7 => ?_
  refine rg 4 ?_
  obtain ⟨hb1, h⟩ := ifS h
  refine g_op rfl (ValOk.op (v_sliceSM tabOk rfl rfl rfl rfl tkind9 hb1 rfl ?_))
  refine g_op rfl (o_toBytes tabOk rfl tkind9 telem42 tkind5 rfl ?_)
  refine g_op rfl (ValOk.op (v_lenM (l := toI (sub a0 a1 (IntKind.wrap .i64 (a1 + 4)))) (f := (encI .u8)) tabOk rfl rfl telem42 rfl ?_))
  refine gs 1 ?_
  refine gk hK7 67 [4, 5, 6, 19, 20, 21] [] ?_
  obtain ⟨o1, ho1, hJ1⟩ := bnd h
  have hw1 : ∀ (s1 : Int), o1 = Lp.go s1 → ∀ σ', Le σ' ⟨67, [(4, .int .u8 0), (5, .bool false), (6, .int .i64 s1)], []⟩ → K6 σ' := by
   intro s1 e1 σ' hle1
   subst e1
   refine hK6 _ (Good.le hle1 ?_)
   replace h := hJ1
   refine good_seq fun K8 hK8 => ?_
   refine rg 1 ?_
   refine g_op rfl (ValOk.op (v_convI tabOk rfl tkind3 tkind5 rfl ?_))
   refine gs 4 ?_
   refine gk hK8 67 [4, 5] [] ?_
   obtain rfl := Option.some.inj h
   exact rt
  replace h := ho1
  refine good_block ?_
  refine good_loopf (fun p : (Int × Int) => ⟨67, [(4, .int .u8 0), (5, .bool false), (6, .int .i64 p.1), (19, .sl false ((toI (sub a0 a1 (IntKind.wrap .i64 (a1 + 4)))).map (encI .u8))), (20, .int .i64 ((toI (sub a0 a1 (IntKind.wrap .i64 (a1 + 4)))).length : Int)), (21, .int .i64 p.2)], []⟩) (fun m p => m_impl_hexAt_l1 m a0 a1 p.1 p.2 = some o1) k (0, 0) (lw []) h ?_
  rintro m1 ⟨x1, x2⟩ h
  replace h : m_impl_hexAt_l1 m1 a0 a1 x1 x2 = some o1 := h
  refine Good.le (σ' := ⟨67, [(4, .int .u8 0), (5, .bool false), (6, .int .i64 x1), (19, .sl false ((toI (sub a0 a1 (IntKind.wrap .i64 (a1 + 4)))).map (encI .u8))), (20, .int .i64 ((toI (sub a0 a1 (IntKind.wrap .i64 (a1 + 4)))).length : Int)), (21, .int .i64 x2)], []⟩) (Le.refl _) ?_
  obtain ⟨m1, rfl⟩ : ∃ m', m1 = m' + 1 := by cases m1 with | zero => (rw [m_impl_hexAt_l1] at h; cases h) | succ m' => exact ⟨m', rfl⟩
  rw [m_impl_hexAt_l1] at h
  refine good_seq fun K9 hK9 => ?_
  refine rg 1 ?_
  refine g_nil (hK9 _ ?_)
  refine good_seq fun K10 hK10 => ?_
  refine good_cond rfl (fun hc2 => ?_) (fun hc2 => ?_)
  ·replace h := ifT h (dT hc2)
   refine good_skip ?_
   refine hK10 _ (kp 67 [4, 5, 6, 19, 20, 21] [] ?_)
   refine good_seq fun K11 hK11 => ?_
   refine good_block ?_
   refine good_seq fun K12 hK12 => ?_
   refine good_region ?_
   obtain ⟨hb2, h⟩ := ifS h
   refine g_op rfl (ValOk.op (v_idxM tabOk rfl rfl telem42 tsize5 hb2 rfl rfl rfl ?_))
   refine gs 2 ?_
   refine gk hK12 67 [4, 5, 6, 8, 19, 20, 21] [] ?_
   refine good_block ?_
   refine good_seq fun K13 hK13 => ?_
   refine rg 1 ?_
   obtain ⟨y1, hy1, h⟩ := bnd h
   refine g_op rfl (o_callR [] [] (core_value rfl rfl) (m_impl_isFigure_ok (ix (toI (sub a0 a1 (IntKind.wrap .i64 (a1 + 4)))) x2) _ hy1) trivial (.cons (.refl _) (.nil)) (.inl rfl) rfl ?_)
   refine gs 1 ?_
   refine gk hK13 67 [4, 5, 6, 8, 19, 20, 21, 25] [] ?_
   refine good_cond rfl (fun hc3 => ?_) (fun hc3 => ?_)
   ·replace h := ifT h hc3
    refine rg 4 ?_
    refine g_op rfl (ValOk.op (v_convI tabOk rfl tkind5 tkind3 rfl ?_))
    refine gs 2 ?_
    refine gk hK11 67 [4, 5, 6, 19, 20, 21] [] ?_
    refine rg 2 ?_
    refine g_nil ?_
    exact round_mk m1 (IntKind.wrap .i64 ((IntKind.wrap .i64 (x1 * 16)) + (IntKind.wrap .i64 (IntKind.wrap .u8 ((ix (toI (sub a0 a1 (IntKind.wrap .i64 (a1 + 4)))) x2) - 48)))), IntKind.wrap .i64 (x2 + 1)) (Nat.lt_succ_self _) h (lw [])
   ·replace h := bF h hc3
    refine good_seq fun K14 hK14 => ?_
    obtain ⟨o2, ho2, hJ2⟩ := bnd h
    have hw2 : ∀ (s2 : Bool), o2 = Lp.go s2 → ∀ σ', Le σ' ⟨67, [(4, .int .u8 0), (5, .bool false), (6, .int .i64 x1), (8, .int .u8 (ix (toI (sub a0 a1 (IntKind.wrap .i64 (a1 + 4)))) x2)), (19, .sl false ((toI (sub a0 a1 (IntKind.wrap .i64 (a1 + 4)))).map (encI .u8))), (20, .int .i64 ((toI (sub a0 a1 (IntKind.wrap .i64 (a1 + 4)))).length : Int)), (21, .int .i64 x2), (34, .bool s2)], []⟩ → K14 σ' := by
     intro s2 e2 σ' hle2
     subst e2
     refine hK14 _ (Good.le hle2 ?_)
     replace h := hJ2
     refine good_cond rfl (fun hc4 => ?_) (fun hc4 => ?_)
     ·replace h := ifT h hc4
      refine rg 4 ?_
      refine g_op rfl (ValOk.op (v_convI tabOk rfl tkind5 tkind3 rfl ?_))
      refine gs 3 ?_
      refine gk hK11 67 [4, 5, 6, 19, 20, 21] [] ?_
      refine rg 2 ?_
      refine g_nil ?_
      exact round_mk m1 (IntKind.wrap .i64 ((IntKind.wrap .i64 ((IntKind.wrap .i64 (x1 * 16)) + (IntKind.wrap .i64 (IntKind.wrap .u8 ((ix (toI (sub a0 a1 (IntKind.wrap .i64 (a1 + 4)))) x2) - 97))))) + 10), IntKind.wrap .i64 (x2 + 1)) (Nat.lt_succ_self _) h (lw [])
     ·replace h := bF h hc4
      refine good_seq fun K15 hK15 => ?_
      obtain ⟨o3, ho3, hJ3⟩ := bnd h
      have hw3 : ∀ (s3 : Bool), o3 = Lp.go s3 → ∀ σ', Le σ' ⟨67, [(4, .int .u8 0), (5, .bool false), (6, .int .i64 x1), (8, .int .u8 (ix (toI (sub a0 a1 (IntKind.wrap .i64 (a1 + 4)))) x2)), (19, .sl false ((toI (sub a0 a1 (IntKind.wrap .i64 (a1 + 4)))).map (encI .u8))), (20, .int .i64 ((toI (sub a0 a1 (IntKind.wrap .i64 (a1 + 4)))).length : Int)), (21, .int .i64 x2), (48, .bool s3)], []⟩ → K15 σ' := by
       intro s3 e3 σ' hle3
       subst e3
       refine hK15 _ (Good.le hle3 ?_)
       replace h := hJ3
       refine good_cond rfl (fun hc5 => ?_) (fun hc5 => ?_)
       ·replace h := ifT h hc5
        refine rg 4 ?_
        refine g_op rfl (ValOk.op (v_convI tabOk rfl tkind5 tkind3 rfl ?_))
        refine gs 3 ?_
        refine gk hK11 67 [4, 5, 6, 19, 20, 21] [] ?_
        refine rg 2 ?_
        refine g_nil ?_
        exact round_mk m1 (IntKind.wrap .i64 ((IntKind.wrap .i64 ((IntKind.wrap .i64 (x1 * 16)) + (IntKind.wrap .i64 (IntKind.wrap .u8 ((ix (toI (sub a0 a1 (IntKind.wrap .i64 (a1 + 4)))) x2) - 65))))) + 10), IntKind.wrap .i64 (x2 + 1)) (Nat.lt_succ_self _) h (lw [])
       ·replace h := bF h hc5
        refine good_seq fun K16 hK16 => ?_
        refine rg 2 ?_
        refine gk hK16 67 [4, 5, 6, 19, 20, 21] [] ?_
        replace h := unret h hJ1
        obtain rfl := Option.some.inj h
        exact rt
      replace h := ho3
      refine rg 3 ?_
      rcases bsplit ((decide (65 ≤ (ix (toI (sub a0 a1 (IntKind.wrap .i64 (a1 + 4)))) x2)))) with hg1 | hg1
      ·replace h := ifT h (dT hg1)
       refine gs 4 ?_
       refine g_nil ?_
       exact hw3 (decide ((ix (toI (sub a0 a1 (IntKind.wrap .i64 (a1 + 4)))) x2) ≤ 70)) (Option.some.inj h).symm _ (lw [])
      ·replace h := ifF h (dF hg1)
       refine gs 4 ?_
       refine g_nil ?_
       exact hw3 false (Option.some.inj h).symm _ (lw [])
    replace h := ho2
    refine rg 3 ?_
    rcases bsplit ((decide (97 ≤ (ix (toI (sub a0 a1 (IntKind.wrap .i64 (a1 + 4)))) x2)))) with hg2 | hg2
    ·replace h := ifT h (dT hg2)
     refine gs 4 ?_
     refine g_nil ?_
     exact hw2 (decide ((ix (toI (sub a0 a1 (IntKind.wrap .i64 (a1 + 4)))) x2) ≤ 102)) (Option.some.inj h).symm _ (lw [])
    ·replace h := ifF h (dF hg2)
     refine gs 4 ?_
     refine g_nil ?_
     exact hw2 false (Option.some.inj h).symm _ (lw [])
  ·replace h := ifF h (dF hc2)
   refine good_exit ?_
   exact hw1 x1 (Option.some.inj h).symm _ (lw [])
def m_impl_plainEscape (a0 : Int) : Option (Int × Bool) :=
 (if a0 = 34 then
   some (Lp.go (decide (a0 = 34)))
  else
   if a0 = 92 then
    some (Lp.go (decide (a0 = 92)))
   else
    some (Lp.go (decide (a0 = 47)))).bind fun o1 =>
 o1.then fun s1 =>
  if s1 = true then
   some (a0, true)
  else
   if a0 = 110 then
    some (10, true)
   else
    if a0 = 116 then
     some (9, true)
    else
     if a0 = 114 then
      some (13, true)
     else
      if a0 = 98 then
       some (8, true)
      else
       if a0 = 102 then
        some (12, true)
       else
        some (0, false)
theorem m_impl_plainEscape_ok : ∀ (a0 : Int) (r : (Int × Bool)), m_impl_plainEscape a0 = some r → Does Try.prog 119 [.int .u8 a0] [] (ret (.tup [.int .u8 r.1, .bool r.2])) := by
 intro a0 r h
 rw [m_impl_plainEscape] at h
 refine does_of_good tabOk Try.func119 rfl (by decide +kernel) (Nat.le_of_ble_eq_true rfl) fun c => ?_
 refine Good.le (σ' := ⟨20, [(0, .int .u8 a0)], []⟩) (Le.refl _) ?_
 refine good_seq fun K1 hK1 => ?_
 refine rg 2 ?_
 refine g_nil (hK1 _ ?_)
 refine good_seq fun K2 hK2 => ?_
 refine good_seq fun K3 hK3 => ?_
 refine rg 1 ?_
 refine g_nil (hK3 _ ?_)
 refine good_block ?_
 refine good_seq fun K4 hK4 => ?_
 obtain ⟨o1, ho1, hJ1⟩ := bnd h
 have hw1 : ∀ (s1 : Bool), o1 = Lp.go s1 → ∀ σ', Le σ' ⟨20, [(0, .int .u8 a0), (2, .int .u8 0), (3, .bool false), (4, .int .u8 a0), (5, .bool s1)], []⟩ → K4 σ' := by
  intro s1 e1 σ' hle1
  subst e1
  refine hK4 _ (Good.le hle1 ?_)
  replace h := hJ1
  refine good_cond rfl (fun hc1 => ?_) (fun hc1 => ?_)
  ·replace h := ifT h hc1
   refine good_seq fun K5 hK5 => ?_
   refine rg 3 ?_
   refine gk hK5 20 [2, 3] [] ?_
   obtain rfl := Option.some.inj h
   exact rt
  ·replace h := bF h hc1
   refine good_seq fun K6 hK6 => ?_
   refine rg 2 ?_
   refine gk hK6 20 [2, 3, 4, 10] [] ?_
   refine good_cond rfl (fun hc2 => ?_) (fun hc2 => ?_)
   ·replace h := ifT h (dT hc2)
    refine good_seq fun K7 hK7 => ?_
    refine rg 2 ?_
    refine gk hK7 20 [2, 3] [] ?_
    obtain rfl := Option.some.inj h
    exact rt
   ·replace h := ifF h (dF hc2)
    refine good_seq fun K8 hK8 => ?_
    refine rg 2 ?_
    refine gk hK8 20 [2, 3, 4, 12] [] ?_
    refine good_cond rfl (fun hc3 => ?_) (fun hc3 => ?_)
    ·replace h := ifT h (dT hc3)
     refine good_seq fun K9 hK9 => ?_
     refine rg 2 ?_
     refine gk hK9 20 [2, 3] [] ?_
     obtain rfl := Option.some.inj h
     exact rt
    ·replace h := ifF h (dF hc3)
     refine good_seq fun K10 hK10 => ?_
     refine rg 2 ?_
     refine gk hK10 20 [2, 3, 4, 14] [] ?_
     refine good_cond rfl (fun hc4 => ?_) (fun hc4 => ?_)
     ·replace h := ifT h (dT hc4)
      refine good_seq fun K11 hK11 => ?_
      refine rg 2 ?_
      refine gk hK11 20 [2, 3] [] ?_
      obtain rfl := Option.some.inj h
      exact rt
     ·replace h := ifF h (dF hc4)
      refine good_seq fun K12 hK12 => ?_
      refine rg 2 ?_
      refine gk hK12 20 [2, 3, 4, 16] [] ?_
      refine good_cond rfl (fun hc5 => ?_) (fun hc5 => ?_)
      ·replace h := ifT h (dT hc5)
       refine good_seq fun K13 hK13 => ?_
       refine rg 2 ?_
       refine gk hK13 20 [2, 3] [] ?_
       obtain rfl := Option.some.inj h
       exact rt
      ·replace h := ifF h (dF hc5)
       refine good_seq fun K14 hK14 => ?_
       refine rg 2 ?_
       refine gk hK14 20 [2, 3, 18] [] ?_
       refine good_cond rfl (fun hc6 => ?_) (fun hc6 => ?_)
       ·replace h := ifT h (dT hc6)
        refine good_seq fun K15 hK15 => ?_
        refine rg 2 ?_
        refine gk hK15 20 [2, 3] [] ?_
        obtain rfl := Option.some.inj h
        exact rt
       ·replace h := ifF h (dF hc6)
        refine good_skip ?_
        refine hK2 _ (kp 20 [2, 3] [] ?_)
        refine good_seq fun K16 hK16 => ?_
        refine rg 2 ?_
        refine g_nil (hK16 _ ?_)
        obtain rfl := Option.some.inj h
        exact rt
 replace h := ho1
 refine good_seq fun K17 hK17 => ?_
 refine rg 2 ?_
 refine gk hK17 20 [0, 2, 3, 4, 5] [] ?_
 refine good_cond rfl (fun hc7 => ?_) (fun hc7 => ?_)
 ·replace h := ifT h (dT hc7)
  refine good_skip ?_
  exact hw1 (decide (a0 = 34)) (Option.some.inj h).symm _ (lw [])
 ·replace h := ifF h (dF hc7)
  refine good_seq fun K18 hK18 => ?_
  refine rg 2 ?_
  refine gk hK18 20 [0, 2, 3, 4, 5] [] ?_
  refine good_cond rfl (fun hc8 => ?_) (fun hc8 => ?_)
  ·replace h := ifT h (dT hc8)
   refine good_skip ?_
   exact hw1 (decide (a0 = 92)) (Option.some.inj h).symm _ (lw [])
  ·replace h := ifF h (dF hc8)
   refine rg 2 ?_
   refine g_nil ?_
   exact hw1 (decide (a0 = 47)) (Option.some.inj h).symm _ (lw [])
def m_impl_textAt_l1 : Nat → Bs → Int → Int → (List Int) → Option (Lp Unit (Bs × Int × Bool))
 | 0, _, _, _, _ => none
 | k + 1, a0, a1, x1, x2 =>
  if x1 < (a0.length : Int) then
   if (0 : Int) ≤ x1 ∧ x1 < (a0.length : Int) then
    if (byt a0 x1) = 34 then
     (some (ofI x2, IntKind.wrap .i64 (x1 + 1), true)).bind fun z =>
     some (Lp.ret z)
    else
     if (byt a0 x1) < 32 then
      (some ([], a1, false)).bind fun z =>
      some (Lp.ret z)
     else
      if (byt a0 x1) = 92 then
       (if (IntKind.wrap .i64 (x1 + 1)) < (a0.length : Int) then
         if (0 : Int) ≤ (IntKind.wrap .i64 (x1 + 1)) ∧ (IntKind.wrap .i64 (x1 + 1)) < (a0.length : Int) then
          some (Lp.go (decide ((byt a0 (IntKind.wrap .i64 (x1 + 1))) = 117)))
         else none
        else
         some (Lp.go false)).bind fun o3 =>
       o3.then fun s3 =>
  if s3 = true then
   (m_impl_hexAt k a0 (IntKind.wrap .i64 (x1 + 2))).bind fun y1 =>
   if y1.2 = true then
    if (x2 ++ [y1.1]).length * 1 ≤ 140737488355328 then
     m_impl_textAt_l1 k a0 a1 (IntKind.wrap .i64 ((IntKind.wrap .i64 (x1 + 5)) + 1)) (x2 ++ [y1.1])
    else none
   else
    (some ([], a1, false)).bind fun z =>
    some (Lp.ret z)
  else
   if (a0.length : Int) ≤ (IntKind.wrap .i64 (x1 + 1)) then
    (some ([], a1, false)).bind fun z =>
    some (Lp.ret z)
   else
    if (0 : Int) ≤ (IntKind.wrap .i64 (x1 + 1)) ∧ (IntKind.wrap .i64 (x1 + 1)) < (a0.length : Int) then
     (m_impl_plainEscape (byt a0 (IntKind.wrap .i64 (x1 + 1)))).bind fun y2 =>
     if y2.2 = true then
      if (x2 ++ [y2.1]).length * 1 ≤ 140737488355328 then
       m_impl_textAt_l1 k a0 a1 (IntKind.wrap .i64 ((IntKind.wrap .i64 (x1 + 1)) + 1)) (x2 ++ [y2.1])
      else none
     else
      (some ([], a1, false)).bind fun z =>
      some (Lp.ret z)
    else none
      else
       if (x2 ++ [byt a0 x1]).length * 1 ≤ 140737488355328 then
        m_impl_textAt_l1 k a0 a1 (IntKind.wrap .i64 (x1 + 1)) (x2 ++ [byt a0 x1])
       else none
   else none
  else
   some (Lp.go ())
def m_impl_textAt (k : Nat) (a0 : Bs) (a1 : Int) : Option (Bs × Int × Bool) :=
 (if (a0.length : Int) ≤ a1 then
   some (Lp.go true)
  else
   if (0 : Int) ≤ a1 ∧ a1 < (a0.length : Int) then
    some (Lp.go (!(decide ((byt a0 a1) = 34))))
   else none).bind fun o1 =>
 o1.then fun s1 =>
  if s1 = true then
   some ([], a1, false)
  else
   (m_impl_textAt_l1 k a0 a1 (IntKind.wrap .i64 (a1 + 1)) ([] : List Int)).bind fun o2 =>
   o2.then fun s2 =>
  some ([], a1, false)
theorem m_impl_textAt_ok (k : Nat) : ∀ (a0 : Bs) (a1 : Int) (r : (Bs × Int × Bool)), m_impl_textAt k a0 a1 = some r → Does Try.prog 96 [.str a0, .int .i64 a1] [] (ret (.tup [.str r.1, .int .i64 r.2.1, .bool r.2.2])) := by
 intro a0 a1 r h
 rw [m_impl_textAt] at h
 refine does_of_good tabOk Try.func96 rfl (by decide +kernel) (Nat.le_of_ble_eq_true rfl) fun c => ?_
 refine Good.le (σ' := ⟨109, [(0, .str a0), (1, .int .i64 a1)], []⟩) (Le.refl _) ?_
 refine good_seq fun K1 hK1 => ?_
 refine rg 3 ?_
 refine g_nil (hK1 _ ?_)
 refine good_seq fun K2 hK2 => ?_
 refine rg 2 ?_
 refine gk hK2 109 [0, 1, 4, 5, 6, 7] [] ?_
 refine good_seq fun K3 hK3 => ?_
 refine good_seq fun K4 hK4 => ?_
 obtain ⟨o1, ho1, hJ1⟩ := bnd h
 have hw1 : ∀ (s1 : Bool), o1 = Lp.go s1 → ∀ σ', Le σ' ⟨109, [(0, .str a0), (1, .int .i64 a1), (4, .str []), (5, .int .i64 0), (6, .bool false), (7, .int .i64 a1), (24, .bool s1)], []⟩ → K4 σ' := by
  intro s1 e1 σ' hle1
  subst e1
  refine hK4 _ (Good.le hle1 ?_)
  replace h := hJ1
  refine good_cond rfl (fun hc1 => ?_) (fun hc1 => ?_)
  ·replace h := ifT h hc1
   refine good_seq fun K5 hK5 => ?_
   refine rg 4 ?_
   refine gk hK5 109 [0, 1, 4, 5, 6, 7] [] ?_
   obtain rfl := Option.some.inj h
   exact rt
  ·replace h := bF h hc1
   refine good_skip ?_
   refine hK3 _ (kp 109 [0, 1, 4, 5, 6, 7] [] ?_)
   refine good_seq fun K6 hK6 => ?_
   refine good_region ?_
   refine g_op rfl (o_buildSlice (k := 36) (rows := ([] : List Int).map (encI .u8)) tabOk telem42 tsize5 rfl rfl rfl rfl (by decide) (by decide) (by rw [tzero5]; rfl) rfl rfl rfl rfl rfl ?_)
   intro w1
   refine gs 1 ?_
   refine gk hK6 109 [0, 1, 4, 5, 6, 7, 8] [36] ?_
   refine good_seq fun K7 hK7 => ?_
   refine good_seq fun K8 hK8 => ?_
   refine rg 3 ?_
   refine gk hK8 109 [0, 1, 4, 5, 6, 7, 8] [36] ?_
   obtain ⟨o2, ho2, hJ2⟩ := bnd h
   have hw2 : ∀ (s2 : Unit), o2 = Lp.go s2 → ∀ σ', Le σ' ⟨109, [(4, .str []), (5, .int .i64 0), (6, .bool false), (7, .int .i64 a1)], []⟩ → K7 σ' := by
    intro s2 e2 σ' hle2
    subst e2
    refine hK7 _ (Good.le hle2 ?_)
    replace h := hJ2
    refine good_seq fun K9 hK9 => ?_
    refine rg 4 ?_
    refine gk hK9 109 [4, 5, 6] [] ?_
    obtain rfl := Option.some.inj h
    exact rt
   replace h := ho2
   refine good_block ?_
   refine good_loopf (fun p : (Int × (List Int) × Value) => ⟨109, [(0, .str a0), (1, .int .i64 p.1), (4, .str []), (5, .int .i64 0), (6, .bool false), (7, .int .i64 a1), (8, .hd 6102 p.2.2)], [(6102, (p.2.2, .osl 5 1 (p.2.1.map (encI .u8))))]⟩) (fun m p => m_impl_textAt_l1 m a0 a1 p.1 p.2.1 = some o2) k (IntKind.wrap .i64 (a1 + 1), ([] : List Int), w1) (lw [some 36]) h ?_
   rintro m1 ⟨x1, x2, w2⟩ h
   replace h : m_impl_textAt_l1 m1 a0 a1 x1 x2 = some o2 := h
   refine Good.le (σ' := ⟨109, [(0, .str a0), (1, .int .i64 x1), (4, .str []), (5, .int .i64 0), (6, .bool false), (7, .int .i64 a1), (8, .hd 6102 w2)], [(6102, (w2, .osl 5 1 (x2.map (encI .u8))))]⟩) (Le.refl _) ?_
   obtain ⟨m1, rfl⟩ : ∃ m', m1 = m' + 1 := by cases m1 with | zero => (rw [m_impl_textAt_l1] at h; cases h) | succ m' => exact ⟨m', rfl⟩
   rw [m_impl_textAt_l1] at h
   refine good_seq fun K10 hK10 => ?_
   refine good_seq fun K11 hK11 => ?_
   refine rg 4 ?_
   refine gk hK11 109 [0, 1, 4, 5, 6, 7, 8, 32] [6102] ?_
   refine good_cond rfl (fun hc2 => ?_) (fun hc2 => ?_)
   ·replace h := ifT h (dT hc2)
    refine good_skip ?_
    refine hK10 _ (kp 109 [0, 1, 4, 5, 6, 7, 8] [6102] ?_)
    refine good_seq fun K12 hK12 => ?_
    refine good_block ?_
    refine good_seq fun K13 hK13 => ?_
    refine rg 2 ?_
    obtain ⟨hb1, h⟩ := ifS h
    refine gs 2 ?_
    refine gk hK13 109 [0, 1, 4, 5, 6, 7, 8, 9] [6102] ?_
    refine good_block ?_
    refine good_seq fun K14 hK14 => ?_
    refine rg 3 ?_
    refine gk hK14 109 [0, 1, 4, 5, 6, 7, 8, 9, 61] [6102] ?_
    refine good_cond rfl (fun hc3 => ?_) (fun hc3 => ?_)
    ·replace h := ifT h (dT hc3)
     refine good_seq fun K15 hK15 => ?_
     refine rg 1 ?_
     refine g_op rfl (ValOk.op (v_bytesHI (q := 6102) tabOk ⟨_, rfl⟩ rfl telem42 tkind5 tkind9 rfl ?_))
     refine gs 5 ?_
     refine gk hK15 109 [0, 1, 4, 5, 6, 7, 8] [6102] ?_
     replace h := unret h hJ2
     obtain rfl := Option.some.inj h
     exact rt
    ·replace h := ifF h (dF hc3)
     refine good_seq fun K16 hK16 => ?_
     refine rg 3 ?_
     refine gk hK16 109 [0, 1, 4, 5, 6, 7, 8, 9, 68] [6102] ?_
     refine good_cond rfl (fun hc4 => ?_) (fun hc4 => ?_)
     ·replace h := ifT h (dT hc4)
      refine good_seq fun K17 hK17 => ?_
      refine rg 4 ?_
      refine gk hK17 109 [0, 1, 4, 5, 6, 7, 8] [6102] ?_
      replace h := unret h hJ2
      obtain rfl := Option.some.inj h
      exact rt
     ·replace h := ifF h (dF hc4)
      refine good_seq fun K18 hK18 => ?_
      refine rg 3 ?_
      refine gk hK18 109 [0, 1, 4, 5, 6, 7, 8, 9, 72] [6102] ?_
      refine good_cond rfl (fun hc5 => ?_) (fun hc5 => ?_)
      ·replace h := ifF h (ndT hc5)
       refine rg 2 ?_
       refine g_op rfl (o_buildSlice (k := 87) (rows := [byt a0 x1].map (encI .u8)) tabOk telem42 tsize5 rfl rfl rfl rfl (by decide) (by decide) (by rw [tzero5]; rfl) rfl rfl rfl rfl rfl ?_)
       intro w3
       obtain ⟨hb2, h⟩ := ifS h
       refine g_op rfl (o_appendHM (q := 6102) (r := 87) (k := 88) (f := (encI .u8)) tabOk ⟨_, rfl⟩ rfl ⟨_, rfl⟩ rfl rfl telem42 tsize5 tbytes5 tzero5 rfl (by decide) (by decide) encI_ok rfl rfl rfl hb2 ?_)
       intro w4
       refine gs 1 ?_
       refine gk hK12 109 [0, 1, 4, 5, 6, 7, 8] [88] ?_
       refine rg 3 ?_
       refine g_nil ?_
       exact round_mk m1 (IntKind.wrap .i64 (x1 + 1), x2 ++ [byt a0 x1], w4) (Nat.lt_succ_self _) h (lw [some 88])
      ·replace h := ifT h (ndF hc5)
       refine good_seq fun K19 hK19 => ?_
       obtain ⟨o3, ho3, hJ3⟩ := bnd h
       have hw3 : ∀ (s3 : Bool), o3 = Lp.go s3 → ∀ σ', Le σ' ⟨109, [(0, .str a0), (1, .int .i64 x1), (4, .str []), (5, .int .i64 0), (6, .bool false), (7, .int .i64 a1), (8, .hd 6102 w2), (79, .bool s3)], [(6102, (w2, .osl 5 1 (x2.map (encI .u8))))]⟩ → K19 σ' := by
        intro s3 e3 σ' hle3
        subst e3
        refine hK19 _ (Good.le hle3 ?_)
        replace h := hJ3
        refine good_cond rfl (fun hc6 => ?_) (fun hc6 => ?_)
        ·replace h := ifT h hc6
         refine good_seq fun K20 hK20 => ?_
         refine rg 3 ?_
         obtain ⟨y1, hy1, h⟩ := bnd h
         refine g_op rfl (o_callR [] [] (core_value rfl rfl) (m_impl_hexAt_ok m1 a0 (IntKind.wrap .i64 (x1 + 2)) _ hy1) trivial (.cons (.refl _) (.cons (.refl _) (.nil))) (.inl rfl) rfl ?_)
         refine gs 5 ?_
         refine gk hK20 109 [0, 1, 4, 5, 6, 7, 8, 10, 11] [6102] ?_
         refine good_seq fun K21 hK21 => ?_
         refine good_seq fun K22 hK22 => ?_
         refine rg 2 ?_
         refine gk hK22 109 [0, 1, 4, 5, 6, 7, 8, 10, 100] [6102] ?_
         refine good_cond rfl (fun hc7 => ?_) (fun hc7 => ?_)
         ·replace h := bF h (nT hc7)
          refine good_seq fun K23 hK23 => ?_
          refine rg 4 ?_
          refine gk hK23 109 [0, 1, 4, 5, 6, 7, 8, 10] [6102] ?_
          replace h := unret h hJ2
          obtain rfl := Option.some.inj h
          exact rt
         ·replace h := ifT h (nF hc7)
          refine good_skip ?_
          refine hK21 _ (kp 109 [0, 1, 4, 5, 6, 7, 8, 10] [6102] ?_)
          refine good_seq fun K24 hK24 => ?_
          refine rg 2 ?_
          refine g_op rfl (o_buildSlice (k := 114) (rows := [y1.1].map (encI .u8)) tabOk telem42 tsize5 rfl rfl rfl rfl (by decide) (by decide) (by rw [tzero5]; rfl) rfl rfl rfl rfl rfl ?_)
          intro w5
          obtain ⟨hb3, h⟩ := ifS h
          refine g_op rfl (o_appendHM (q := 6102) (r := 114) (k := 115) (f := (encI .u8)) tabOk ⟨_, rfl⟩ rfl ⟨_, rfl⟩ rfl rfl telem42 tsize5 tbytes5 tzero5 rfl (by decide) (by decide) encI_ok rfl rfl rfl hb3 ?_)
          intro w6
          refine gs 1 ?_
          refine gk hK24 109 [0, 1, 4, 5, 6, 7, 8] [115] ?_
          refine rg 3 ?_
          refine gk hK12 109 [0, 1, 4, 5, 6, 7, 8] [115] ?_
          refine rg 3 ?_
          refine g_nil ?_
          exact round_mk m1 (IntKind.wrap .i64 ((IntKind.wrap .i64 (x1 + 5)) + 1), x2 ++ [y1.1], w6) (Nat.lt_succ_self _) h (lw [some 115])
        ·replace h := bF h hc6
         refine good_seq fun K25 hK25 => ?_
         refine good_seq fun K26 hK26 => ?_
         refine rg 5 ?_
         refine gk hK26 109 [0, 1, 4, 5, 6, 7, 8, 42] [6102] ?_
         refine good_cond rfl (fun hc8 => ?_) (fun hc8 => ?_)
         ·replace h := ifT h (dT hc8)
          refine good_seq fun K27 hK27 => ?_
          refine rg 4 ?_
          refine gk hK27 109 [0, 1, 4, 5, 6, 7, 8] [6102] ?_
          replace h := unret h hJ2
          obtain rfl := Option.some.inj h
          exact rt
         ·replace h := ifF h (dF hc8)
          refine good_skip ?_
          refine hK25 _ (kp 109 [0, 1, 4, 5, 6, 7, 8] [6102] ?_)
          refine good_seq fun K28 hK28 => ?_
          refine rg 3 ?_
          obtain ⟨hb4, h⟩ := ifS h
          refine gs 1 ?_
          obtain ⟨y2, hy2, h⟩ := bnd h
          refine g_op rfl (o_callR [] [] (core_value rfl rfl) (m_impl_plainEscape_ok (byt a0 (IntKind.wrap .i64 (x1 + 1))) _ hy2) trivial (.cons (.refl _) (.nil)) (.inl rfl) rfl ?_)
          refine gs 5 ?_
          refine gk hK28 109 [0, 1, 4, 5, 6, 7, 8, 12, 13] [6102] ?_
          refine good_seq fun K29 hK29 => ?_
          refine good_seq fun K30 hK30 => ?_
          refine rg 2 ?_
          refine gk hK30 109 [0, 1, 4, 5, 6, 7, 8, 12, 53] [6102] ?_
          refine good_cond rfl (fun hc9 => ?_) (fun hc9 => ?_)
          ·replace h := bF h (nT hc9)
           refine good_seq fun K31 hK31 => ?_
           refine rg 4 ?_
           refine gk hK31 109 [0, 1, 4, 5, 6, 7, 8, 12] [6102] ?_
           replace h := unret h hJ2
           obtain rfl := Option.some.inj h
           exact rt
          ·replace h := ifT h (nF hc9)
           refine good_skip ?_
           refine hK29 _ (kp 109 [0, 1, 4, 5, 6, 7, 8, 12] [6102] ?_)
           refine good_seq fun K32 hK32 => ?_
           refine rg 2 ?_
           refine g_op rfl (o_buildSlice (k := 67) (rows := [y2.1].map (encI .u8)) tabOk telem42 tsize5 rfl rfl rfl rfl (by decide) (by decide) (by rw [tzero5]; rfl) rfl rfl rfl rfl rfl ?_)
           intro w7
           obtain ⟨hb5, h⟩ := ifS h
           refine g_op rfl (o_appendHM (q := 6102) (r := 67) (k := 68) (f := (encI .u8)) tabOk ⟨_, rfl⟩ rfl ⟨_, rfl⟩ rfl rfl telem42 tsize5 tbytes5 tzero5 rfl (by decide) (by decide) encI_ok rfl rfl rfl hb5 ?_)
           intro w8
           refine gs 1 ?_
           refine gk hK32 109 [0, 1, 4, 5, 6, 7, 8] [68] ?_
           refine rg 3 ?_
           refine gk hK12 109 [0, 1, 4, 5, 6, 7, 8] [68] ?_
           refine rg 3 ?_
           refine g_nil ?_
           exact round_mk m1 (IntKind.wrap .i64 ((IntKind.wrap .i64 (x1 + 1)) + 1), x2 ++ [y2.1], w8) (Nat.lt_succ_self _) h (lw [some 68])
       replace h := ho3
       refine rg 6 ?_
       rcases bsplit ((decide ((IntKind.wrap .i64 (x1 + 1)) < (a0.length : Int)))) with hg1 | hg1
       ·replace h := ifT h (dT hg1)
        refine gs 3 ?_
        obtain ⟨hb6, h⟩ := ifS h
        refine gs 4 ?_
        refine g_nil ?_
        exact hw3 (decide ((byt a0 (IntKind.wrap .i64 (x1 + 1))) = 117)) (Option.some.inj h).symm _ (lw [some 6102])
       ·replace h := ifF h (dF hg1)
        refine gs 7 ?_
        refine g_nil ?_
        exact hw3 false (Option.some.inj h).symm _ (lw [some 6102])
   ·replace h := ifF h (dF hc2)
    refine good_exit ?_
    exact hw2 () (Option.some.inj h).symm _ (lw [])
 replace h := ho1
 refine rg 5 ?_
 rcases bsplit ((decide ((a0.length : Int) ≤ a1))) with hg2 | hg2
 ·replace h := ifT h (dT hg2)
  refine gs 5 ?_
  refine g_nil ?_
  exact hw1 true (Option.some.inj h).symm _ (lw [])
 ·replace h := ifF h (dF hg2)
  refine gs 2 ?_
  obtain ⟨hb7, h⟩ := ifS h
  refine gs 3 ?_
  refine g_nil ?_
  exact hw1 (!(decide ((byt a0 a1) = 34))) (Option.some.inj h).symm _ (lw [])
def m_impl_numAt_l1 : Nat → Bs → Int → Int → Option (Lp (Int × Int) (Int × Int × Bool))
 | 0, _, _, _ => none
 | k + 1, a0, x1, x2 =>
  (if x1 < (a0.length : Int) then
    if (0 : Int) ≤ x1 ∧ x1 < (a0.length : Int) then
     (m_impl_isFigure (byt a0 x1)).bind fun y2 =>
     some (Lp.go y2)
    else none
   else
    some (Lp.go false)).bind fun o5 =>
  o5.then fun s5 =>
  if s5 = true then
   if x2 ≤ 2147483647 then
    if (0 : Int) ≤ x1 ∧ x1 < (a0.length : Int) then
     m_impl_numAt_l1 k a0 (IntKind.wrap .i64 (x1 + 1)) (IntKind.wrap .i64 ((IntKind.wrap .i64 (x2 * 10)) + (IntKind.wrap .i64 (IntKind.wrap .u8 ((byt a0 x1) - 48)))))
    else none
   else
    m_impl_numAt_l1 k a0 (IntKind.wrap .i64 (x1 + 1)) x2
  else
   some (Lp.go (x1, x2))
def m_impl_numAt (k : Nat) (a0 : Bs) (a1 : Int) : Option (Int × Int × Bool) :=
 ((if a1 < (a0.length : Int) then
    if (0 : Int) ≤ a1 ∧ a1 < (a0.length : Int) then
     some (Lp.go (decide ((byt a0 a1) = 45)))
    else none
   else
    some (Lp.go false)).bind fun o6 =>
  o6.then fun s6 =>
  if s6 = true then
   some (Lp.go (IntKind.wrap .i64 (a1 + 1), (-1)))
  else
   some (Lp.go (a1, 1))).bind fun o1 =>
 o1.then fun s1 =>
  (m_impl_numAt_l1 k a0 s1.1 0).bind fun o2 =>
  o2.then fun s2 =>
  (if (IntKind.wrap .i64 (s2.1 - s1.1)) = 0 then
    some (Lp.go true)
   else
    if 1 < (IntKind.wrap .i64 (s2.1 - s1.1)) then
     if (0 : Int) ≤ s1.1 ∧ s1.1 < (a0.length : Int) then
      if (byt a0 s1.1) = 48 then
       some (Lp.go true)
      else
       if s2.2 = 0 then
        some (Lp.go (decide (s1.2 < 0)))
       else
        some (Lp.go false)
     else none
    else
     if s2.2 = 0 then
      some (Lp.go (decide (s1.2 < 0)))
     else
      some (Lp.go false)).bind fun o3 =>
  o3.then fun s3 =>
  if s3 = true then
   some (0, a1, false)
  else
   (if s2.1 < (a0.length : Int) then
     if (0 : Int) ≤ s2.1 ∧ s2.1 < (a0.length : Int) then
      (m_impl_isWordByte (byt a0 s2.1)).bind fun y1 =>
      if y1 = true then
       some (Lp.go true)
      else
       if (0 : Int) ≤ s2.1 ∧ s2.1 < (a0.length : Int) then
        some (Lp.go (decide ((byt a0 s2.1) = 46)))
       else none
     else none
    else
     some (Lp.go false)).bind fun o4 =>
   o4.then fun s4 =>
  if s4 = true then
   some (0, a1, false)
  else
   some (IntKind.wrap .i64 (s1.2 * s2.2), s2.1, true)
theorem m_impl_numAt_ok (k : Nat) : ∀ (a0 : Bs) (a1 : Int) (r : (Int × Int × Bool)), m_impl_numAt k a0 a1 = some r → Does Try.prog 97 [.str a0, .int .i64 a1] [] (ret (.tup [.int .i64 r.1, .int .i64 r.2.1, .bool r.2.2])) := by
 intro a0 a1 r h
 rw [m_impl_numAt] at h
 refine does_of_good tabOk Try.func97 rfl (by decide +kernel) (Nat.le_of_ble_eq_true rfl) fun c => ?_
 refine Good.le (σ' := ⟨93, [(0, .str a0), (1, .int .i64 a1)], []⟩) (Le.refl _) ?_
 refine good_seq fun K1 hK1 => ?_
 refine rg 3 ?_
 refine g_nil (hK1 _ ?_)
 refine good_seq fun K2 hK2 => ?_
 refine rg 3 ?_
 refine gk hK2 93 [0, 1, 4, 5, 6, 7, 8] [] ?_
 refine good_seq fun K3 hK3 => ?_
 obtain ⟨o1, ho1, hJ1⟩ := bnd h
 have hw1 : ∀ (s1 : (Int × Int)), o1 = Lp.go s1 → ∀ σ', Le σ' ⟨93, [(0, .str a0), (1, .int .i64 s1.1), (4, .int .i64 0), (5, .int .i64 0), (6, .bool false), (7, .int .i64 a1), (8, .int .i64 s1.2)], []⟩ → K3 σ' := by
  intro s1 e1 σ' hle1
  subst e1
  refine hK3 _ (Good.le hle1 ?_)
  replace h := hJ1
  refine good_seq fun K4 hK4 => ?_
  refine rg 3 ?_
  refine gk hK4 93 [0, 1, 4, 5, 6, 7, 8, 9, 10] [] ?_
  refine good_seq fun K5 hK5 => ?_
  obtain ⟨o2, ho2, hJ2⟩ := bnd h
  have hw2 : ∀ (s2 : (Int × Int)), o2 = Lp.go s2 → ∀ σ', Le σ' ⟨93, [(0, .str a0), (1, .int .i64 s2.1), (4, .int .i64 0), (5, .int .i64 0), (6, .bool false), (7, .int .i64 a1), (8, .int .i64 s1.2), (9, .int .i64 s1.1), (10, .int .i64 s2.2)], []⟩ → K5 σ' := by
   intro s2 e2 σ' hle2
   subst e2
   refine hK5 _ (Good.le hle2 ?_)
   replace h := hJ2
   refine good_seq fun K6 hK6 => ?_
   refine rg 4 ?_
   refine gk hK6 93 [0, 1, 4, 5, 6, 7, 8, 9, 10, 11] [] ?_
   refine good_seq fun K7 hK7 => ?_
   refine good_seq fun K8 hK8 => ?_
   obtain ⟨o3, ho3, hJ3⟩ := bnd h
   have hw3 : ∀ (s3 : Bool), o3 = Lp.go s3 → ∀ σ', Le σ' ⟨93, [(0, .str a0), (1, .int .i64 s2.1), (4, .int .i64 0), (5, .int .i64 0), (6, .bool false), (7, .int .i64 a1), (8, .int .i64 s1.2), (10, .int .i64 s2.2), (70, .bool s3)], []⟩ → K8 σ' := by
    intro s3 e3 σ' hle3
    subst e3
    refine hK8 _ (Good.le hle3 ?_)
    replace h := hJ3
    refine good_cond rfl (fun hc1 => ?_) (fun hc1 => ?_)
    ·replace h := ifT h hc1
     refine good_seq fun K9 hK9 => ?_
     refine rg 4 ?_
     refine gk hK9 93 [0, 1, 4, 5, 6, 7, 8, 10] [] ?_
     obtain rfl := Option.some.inj h
     exact rt
    ·replace h := bF h hc1
     refine good_skip ?_
     refine hK7 _ (kp 93 [0, 1, 4, 5, 6, 7, 8, 10] [] ?_)
     refine good_seq fun K10 hK10 => ?_
     refine good_seq fun K11 hK11 => ?_
     obtain ⟨o4, ho4, hJ4⟩ := bnd h
     have hw4 : ∀ (s4 : Bool), o4 = Lp.go s4 → ∀ σ', Le σ' ⟨93, [(1, .int .i64 s2.1), (4, .int .i64 0), (5, .int .i64 0), (6, .bool false), (7, .int .i64 a1), (8, .int .i64 s1.2), (10, .int .i64 s2.2), (87, .bool s4)], []⟩ → K11 σ' := by
      intro s4 e4 σ' hle4
      subst e4
      refine hK11 _ (Good.le hle4 ?_)
      replace h := hJ4
      refine good_cond rfl (fun hc2 => ?_) (fun hc2 => ?_)
      ·replace h := ifT h hc2
       refine good_seq fun K12 hK12 => ?_
       refine rg 4 ?_
       refine gk hK12 93 [1, 4, 5, 6, 8, 10] [] ?_
       obtain rfl := Option.some.inj h
       exact rt
      ·replace h := bF h hc2
       refine good_skip ?_
       refine hK10 _ (kp 93 [1, 4, 5, 6, 8, 10] [] ?_)
       refine good_seq fun K13 hK13 => ?_
       refine rg 7 ?_
       refine gk hK13 93 [4, 5, 6] [] ?_
       obtain rfl := Option.some.inj h
       exact rt
     replace h := ho4
     refine rg 5 ?_
     rcases bsplit ((decide (s2.1 < (a0.length : Int)))) with hg1 | hg1
     ·replace h := ifT h (dT hg1)
      refine gs 2 ?_
      obtain ⟨hb1, h⟩ := ifS h
      refine gs 1 ?_
      obtain ⟨y1, hy1, h⟩ := bnd h
      refine g_yes rfl rfl hg1 (o_callR [] [] (core_value rfl rfl) (m_impl_isWordByte_ok (byt a0 s2.1) _ hy1) trivial (.cons (.refl _) (.nil)) (.inl rfl) rfl ?_)
      refine gs 1 ?_
      rcases bsplit (y1) with hg2 | hg2
      ·replace h := ifT h hg2
       refine gs 6 ?_
       refine g_nil ?_
       exact hw4 true (Option.some.inj h).symm _ (lw [])
      ·replace h := bF h hg2
       refine gs 2 ?_
       obtain ⟨hb2, h⟩ := ifS h
       refine gs 4 ?_
       refine g_nil ?_
       exact hw4 (decide ((byt a0 s2.1) = 46)) (Option.some.inj h).symm _ (lw [])
     ·replace h := ifF h (dF hg1)
      refine gs 11 ?_
      refine g_nil ?_
      exact hw4 false (Option.some.inj h).symm _ (lw [])
   replace h := ho3
   refine rg 3 ?_
   rcases bsplit ((decide ((IntKind.wrap .i64 (s2.1 - s1.1)) = 0))) with hg3 | hg3
   ·replace h := ifT h (dT hg3)
    refine gs 17 ?_
    refine g_nil ?_
    exact hw3 true (Option.some.inj h).symm _ (lw [])
   ·replace h := ifF h (dF hg3)
    refine gs 3 ?_
    rcases bsplit ((decide (1 < (IntKind.wrap .i64 (s2.1 - s1.1))))) with hg4 | hg4
    ·replace h := ifT h (dT hg4)
     refine gs 2 ?_
     obtain ⟨hb3, h⟩ := ifS h
     refine gs 5 ?_
     rcases bsplit ((decide ((byt a0 s1.1) = 48))) with hg5 | hg5
     ·replace h := ifT h (dT hg5)
      refine gs 7 ?_
      refine g_nil ?_
      exact hw3 true (Option.some.inj h).symm _ (lw [])
     ·replace h := ifF h (dF hg5)
      refine gs 3 ?_
      rcases bsplit ((decide (s2.2 = 0))) with hg6 | hg6
      ·replace h := ifT h (dT hg6)
       refine gs 4 ?_
       refine g_nil ?_
       exact hw3 (decide (s1.2 < 0)) (Option.some.inj h).symm _ (lw [])
      ·replace h := ifF h (dF hg6)
       refine gs 4 ?_
       refine g_nil ?_
       exact hw3 false (Option.some.inj h).symm _ (lw [])
    ·replace h := ifF h (dF hg4)
     refine gs 10 ?_
     rcases bsplit ((decide (s2.2 = 0))) with hg7 | hg7
     ·replace h := ifT h (dT hg7)
      refine gs 4 ?_
      refine g_nil ?_
      exact hw3 (decide (s1.2 < 0)) (Option.some.inj h).symm _ (lw [])
     ·replace h := ifF h (dF hg7)
      refine gs 4 ?_
      refine g_nil ?_
      exact hw3 false (Option.some.inj h).symm _ (lw [])
  replace h := ho2
  refine good_block ?_
  refine good_loopf (fun p : (Int × Int) => ⟨93, [(0, .str a0), (1, .int .i64 p.1), (4, .int .i64 0), (5, .int .i64 0), (6, .bool false), (7, .int .i64 a1), (8, .int .i64 s1.2), (9, .int .i64 s1.1), (10, .int .i64 p.2)], []⟩) (fun m p => m_impl_numAt_l1 m a0 p.1 p.2 = some o2) k (s1.1, 0) (lw []) h ?_
  rintro m1 ⟨x1, x2⟩ h
  replace h : m_impl_numAt_l1 m1 a0 x1 x2 = some o2 := h
  refine Good.le (σ' := ⟨93, [(0, .str a0), (1, .int .i64 x1), (4, .int .i64 0), (5, .int .i64 0), (6, .bool false), (7, .int .i64 a1), (8, .int .i64 s1.2), (9, .int .i64 s1.1), (10, .int .i64 x2)], []⟩) (Le.refl _) ?_
  obtain ⟨m1, rfl⟩ : ∃ m', m1 = m' + 1 := by cases m1 with | zero => (rw [m_impl_numAt_l1] at h; cases h) | succ m' => exact ⟨m', rfl⟩
  rw [m_impl_numAt_l1] at h
  refine good_seq fun K14 hK14 => ?_
  refine good_seq fun K15 hK15 => ?_
  obtain ⟨o5, ho5, hJ5⟩ := bnd h
  have hw5 : ∀ (s5 : Bool), o5 = Lp.go s5 → ∀ σ', Le σ' ⟨93, [(0, .str a0), (1, .int .i64 x1), (4, .int .i64 0), (5, .int .i64 0), (6, .bool false), (7, .int .i64 a1), (8, .int .i64 s1.2), (9, .int .i64 s1.1), (10, .int .i64 x2), (35, .bool s5)], []⟩ → K15 σ' := by
   intro s5 e5 σ' hle5
   subst e5
   refine hK15 _ (Good.le hle5 ?_)
   replace h := hJ5
   refine good_cond rfl (fun hc3 => ?_) (fun hc3 => ?_)
   ·replace h := ifT h hc3
    refine good_skip ?_
    refine hK14 _ (kp 93 [0, 1, 4, 5, 6, 7, 8, 9, 10] [] ?_)
    refine good_block ?_
    refine good_seq fun K16 hK16 => ?_
    refine good_seq fun K17 hK17 => ?_
    refine rg 2 ?_
    refine gk hK17 93 [0, 1, 4, 5, 6, 7, 8, 9, 10, 37] [] ?_
    refine good_cond rfl (fun hc4 => ?_) (fun hc4 => ?_)
    ·replace h := ifT h (dT hc4)
     refine rg 4 ?_
     obtain ⟨hb4, h⟩ := ifS h
     refine gs 2 ?_
     refine g_op rfl (ValOk.op (v_convI tabOk rfl tkind5 tkind3 rfl ?_))
     refine gs 2 ?_
     refine gk hK16 93 [0, 1, 4, 5, 6, 7, 8, 9, 10] [] ?_
     refine rg 3 ?_
     refine g_nil ?_
     exact round_mk m1 (IntKind.wrap .i64 (x1 + 1), IntKind.wrap .i64 ((IntKind.wrap .i64 (x2 * 10)) + (IntKind.wrap .i64 (IntKind.wrap .u8 ((byt a0 x1) - 48))))) (Nat.lt_succ_self _) h (lw [])
    ·replace h := ifF h (dF hc4)
     refine good_skip ?_
     refine hK16 _ (kp 93 [0, 1, 4, 5, 6, 7, 8, 9, 10] [] ?_)
     refine rg 3 ?_
     refine g_nil ?_
     exact round_mk m1 (IntKind.wrap .i64 (x1 + 1), x2) (Nat.lt_succ_self _) h (lw [])
   ·replace h := bF h hc3
    refine good_exit ?_
    exact hw2 (x1, x2) (Option.some.inj h).symm _ (lw [])
  replace h := ho5
  refine rg 5 ?_
  rcases bsplit ((decide (x1 < (a0.length : Int)))) with hg8 | hg8
  ·replace h := ifT h (dT hg8)
   refine gs 2 ?_
   obtain ⟨hb5, h⟩ := ifS h
   refine gs 1 ?_
   obtain ⟨y2, hy2, h⟩ := bnd h
   refine g_yes rfl rfl hg8 (o_callR [] [] (core_value rfl rfl) (m_impl_isFigure_ok (byt a0 x1) _ hy2) trivial (.cons (.refl _) (.nil)) (.inl rfl) rfl ?_)
   refine gs 1 ?_
   refine g_nil ?_
   exact hw5 y2 (Option.some.inj h).symm _ (lw [])
  ·replace h := ifF h (dF hg8)
   refine gs 5 ?_
   refine g_nil ?_
   exact hw5 false (Option.some.inj h).symm _ (lw [])
 replace h := ho1
 refine good_seq fun K18 hK18 => ?_
 obtain ⟨o6, ho6, hJ6⟩ := bnd h
 have hw6 : ∀ (s6 : Bool), o6 = Lp.go s6 → ∀ σ', Le σ' ⟨93, [(0, .str a0), (1, .int .i64 a1), (4, .int .i64 0), (5, .int .i64 0), (6, .bool false), (7, .int .i64 a1), (8, .int .i64 1), (22, .bool s6)], []⟩ → K18 σ' := by
  intro s6 e6 σ' hle6
  subst e6
  refine hK18 _ (Good.le hle6 ?_)
  replace h := hJ6
  refine good_cond rfl (fun hc5 => ?_) (fun hc5 => ?_)
  ·replace h := ifT h hc5
   refine good_seq fun K19 hK19 => ?_
   refine rg 1 ?_
   refine gk hK19 93 [0, 1, 4, 5, 6, 7, 8] [] ?_
   refine rg 3 ?_
   refine g_nil ?_
   exact hw1 (IntKind.wrap .i64 (a1 + 1), (-1)) (Option.some.inj h).symm _ (lw [])
  ·replace h := bF h hc5
   refine good_skip ?_
   exact hw1 (a1, 1) (Option.some.inj h).symm _ (lw [])
 replace h := ho6
 refine rg 5 ?_
 rcases bsplit ((decide (a1 < (a0.length : Int)))) with hg9 | hg9
 ·replace h := ifT h (dT hg9)
  refine gs 2 ?_
  obtain ⟨hb6, h⟩ := ifS h
  refine gs 3 ?_
  refine g_nil ?_
  exact hw6 (decide ((byt a0 a1) = 45)) (Option.some.inj h).symm _ (lw [])
 ·replace h := ifF h (dF hg9)
  refine gs 5 ?_
  refine g_nil ?_
  exact hw6 false (Option.some.inj h).symm _ (lw [])
def m_internal_stringslite_HasPrefix (a0 : Bs) (a1 : Bs) : Option Bool :=
 if (a1.length : Int) ≤ (a0.length : Int) then
  if (0 : Int) ≤ 0 ∧ (0 : Int) ≤ (a1.length : Int) ∧ (a1.length : Int) ≤ (a0.length : Int) then
   some (decide ((sub a0 0 (a1.length : Int)) = a1))
  else none
 else
  some false
theorem m_internal_stringslite_HasPrefix_ok : ∀ (a0 : Bs) (a1 : Bs) (r : Bool), m_internal_stringslite_HasPrefix a0 a1 = some r → Does Try.prog 132 [.str a0, .str a1] [] (ret (.bool r)) := by
 intro a0 a1 r h
 rw [m_internal_stringslite_HasPrefix] at h
 refine does_of_good tabOk Try.func132 rfl (by decide +kernel) (Nat.le_of_ble_eq_true rfl) fun c => ?_
 refine Good.le (σ' := ⟨18, [(0, .str a0), (1, .str a1)], []⟩) (Le.refl _) ?_
 refine good_seq fun K1 hK1 => ?_
 refine rg 1 ?_
 refine g_nil (hK1 _ ?_)
 refine good_seq fun K2 hK2 => ?_
 refine rg 6 ?_
 rcases bsplit ((decide ((a1.length : Int) ≤ (a0.length : Int)))) with hg1 | hg1
 ·replace h := ifT h (dT hg1)
  refine gs 3 ?_
  obtain ⟨hb1, h⟩ := ifS h
  refine g_yes rfl rfl hg1 (ValOk.op (v_sliceSM tabOk rfl rfl rfl rfl tkind9 hb1 rfl ?_))
  refine gs 4 ?_
  refine gk hK2 18 [4] [] ?_
  obtain rfl := Option.some.inj h
  exact rt
 ·replace h := ifF h (dF hg1)
  refine gs 8 ?_
  refine gk hK2 18 [4] [] ?_
  obtain rfl := Option.some.inj h
  exact rt
def m_strings_HasPrefix (a0 : Bs) (a1 : Bs) : Option Bool :=
 (m_internal_stringslite_HasPrefix a0 a1).bind fun y1 =>
 some y1
theorem m_strings_HasPrefix_ok : ∀ (a0 : Bs) (a1 : Bs) (r : Bool), m_strings_HasPrefix a0 a1 = some r → Does Try.prog 117 [.str a0, .str a1] [] (ret (.bool r)) := by
 intro a0 a1 r h
 rw [m_strings_HasPrefix] at h
 refine does_of_good tabOk Try.func117 rfl (by decide +kernel) (Nat.le_of_ble_eq_true rfl) fun c => ?_
 refine Good.le (σ' := ⟨8, [(0, .str a0), (1, .str a1)], []⟩) (Le.refl _) ?_
 refine good_seq fun K1 hK1 => ?_
 refine rg 1 ?_
 refine g_nil (hK1 _ ?_)
 refine good_seq fun K2 hK2 => ?_
 refine rg 2 ?_
 obtain ⟨y1, hy1, h⟩ := bnd h
 refine g_op rfl (o_callR [] [] (core_value rfl rfl) (m_internal_stringslite_HasPrefix_ok a0 a1 _ hy1) trivial (.cons (.refl _) (.cons (.refl _) (.nil))) (.inl rfl) rfl ?_)
 refine gs 1 ?_
 refine gk hK2 8 [4] [] ?_
 obtain rfl := Option.some.inj h
 exact rt
def m_impl_jsonReader_word (a0 : GJsonReader) (a1 : Bs) : Option (Bool × GJsonReader) :=
 if (0 : Int) ≤ a0.at_ ∧ a0.at_ ≤ (a0.text.length : Int) ∧ (a0.text.length : Int) ≤ (a0.text.length : Int) then
  (m_strings_HasPrefix (sub a0.text a0.at_ (a0.text.length : Int)) a1).bind fun y1 =>
  if y1 = true then
   some (true, (GJsonReader.mk a0.text (IntKind.wrap .i64 (a0.at_ + (a1.length : Int)))))
  else
   some (false, a0)
 else none
theorem m_impl_jsonReader_word_ok : ∀ (a0 : GJsonReader) (a1 : Bs) (b0_0 : Nat) (r : (Bool × GJsonReader)), m_impl_jsonReader_word a0 a1 = some r → Does Try.prog 92 [.ptr 0 b0_0 0, .str a1] [(0, (.pointer (some ⟨b0_0, 0, none⟩), .optr 78 [.str a0.text, .int .i64 a0.at_]))] (fun q h' => q = .bool r.1 ∧ h' = [(0, (.pointer (some ⟨b0_0, 0, none⟩), .optr 78 [.str r.2.text, .int .i64 r.2.at_]))]) := by
 intro a0 a1 b0_0 r h
 rw [m_impl_jsonReader_word] at h
 refine does_of_good tabOk Try.func92 rfl (by decide +kernel) (Nat.le_of_ble_eq_true rfl) fun c => ?_
 refine Good.le (σ' := ⟨25, [(0, .ptr 0 b0_0 0), (1, .str a1)], [(0, ((.pointer (some ⟨b0_0, 0, none⟩)), .optr 78 [.str a0.text, .int .i64 a0.at_]))]⟩) (Le.refl _) ?_
 refine good_seq fun K1 hK1 => ?_
 refine rg 1 ?_
 refine g_nil (hK1 _ ?_)
 refine good_seq fun K2 hK2 => ?_
 refine good_seq fun K3 hK3 => ?_
 refine good_draw (by kernel_rfl) (by kernel_rfl) ?_
 refine q_op rfl (v_move rfl rfl ?_)
 refine q_op rfl (v_nilP rfl rfl ?_)
 refine q_op rfl (v_fieldP tabOk rfl tfoff78_0 rfl ?_)
 refine q_op rfl (v_loadP tabOk rfl rfl tsize9 tagg9 rfl rfl rfl rfl ?_)
 refine q_op rfl (v_move rfl rfl ?_)
 refine q_op rfl (v_nilP rfl rfl ?_)
 refine q_op rfl (v_fieldP tabOk rfl tfoff78_1 rfl ?_)
 refine q_op rfl (v_loadP tabOk rfl rfl tsize3 tagg3 rfl rfl rfl rfl ?_)
 obtain ⟨hb1, h⟩ := ifS h
 refine q_op rfl (v_sliceSM tabOk rfl rfl rfl rfl tkind9 hb1 rfl ?_)
 refine q_op rfl (v_move rfl rfl ?_)
 obtain ⟨y1, hy1, h⟩ := bnd h
 refine q_call [] [] (fun _ _ _ _ _ => wanted_none rfl _) (core_value rfl rfl) (m_strings_HasPrefix_ok (sub a0.text a0.at_ (a0.text.length : Int)) a1 _ hy1) trivial (.cons (.refl _) (.cons (.refl _) (.nil))) (.bool _) rfl ?_
 refine q_nil ?_
 refine hK3 _ (kp 25 [0, 1, 4, 15] [0] ?_)
 refine good_cond rfl (fun hc1 => ?_) (fun hc1 => ?_)
 ·replace h := ifT h hc1
  refine good_seq fun K4 hK4 => ?_
  refine rg 1 ?_
  refine g_op rfl (ValOk.op (v_nilP rfl rfl ?_))
  refine gs 5 ?_
  refine g_op rfl (ValOk.op (v_nilP rfl rfl ?_))
  refine gs 1 ?_
  refine g_op rfl (o_storeP tabOk (cs' := [.str a0.text, .int .i64 (IntKind.wrap .i64 (a0.at_ + (a1.length : Int)))]) rfl rfl tsize3 rfl rfl rfl (Nat.le_of_ble_eq_true rfl) rfl rfl rfl ?_)
  refine gk hK4 25 [4] [0] ?_
  refine good_seq fun K5 hK5 => ?_
  refine rg 1 ?_
  refine g_nil (hK5 _ ?_)
  refine Good.le (σ' := ⟨25, [(4, .bool true)], [(0, ((.pointer (some ⟨b0_0, 0, none⟩)), .optr 78 [.str a0.text, .int .i64 (IntKind.wrap .i64 (a0.at_ + (a1.length : Int)))]))]⟩) (lw [some 0]) ?_
  refine good_ret ?_
  obtain rfl := Option.some.inj h
  refine thenQ_ret ?_
  exact endQ_ret (h' := [(0, (_, _))]) [some 0] (.tmp rfl (.nil)) ⟨⟨_, rfl, .refl _⟩, trivial⟩ (by decide) ⟨rfl, rfl⟩
 ·replace h := bF h hc1
  refine good_skip ?_
  refine hK2 _ (kp 25 [4] [0] ?_)
  refine good_seq fun K6 hK6 => ?_
  refine rg 1 ?_
  refine g_nil (hK6 _ ?_)
  refine Good.le (σ' := ⟨25, [(4, .bool false)], [(0, ((.pointer (some ⟨b0_0, 0, none⟩)), .optr 78 [.str a0.text, .int .i64 a0.at_]))]⟩) (lw [some 0]) ?_
  refine good_ret ?_
  obtain rfl := Option.some.inj h
  exact endQ_ret (h' := [(0, (_, _))]) [some 0] (.tmp rfl (.nil)) ⟨⟨_, rfl, .refl _⟩, trivial⟩ (by decide) ⟨rfl, rfl⟩
def m_impl_jsonReader_sign (k : Nat) (a0 : GJsonReader) (a1 : Int) : Option (Bool × GJsonReader) :=
 (m_impl_jsonReader_blanks k a0).bind fun y1 =>
 (if y1.at_ < (y1.text.length : Int) then
   if (0 : Int) ≤ y1.at_ ∧ y1.at_ < (y1.text.length : Int) then
    some (Lp.go (decide ((byt y1.text y1.at_) = a1)))
   else none
  else
   some (Lp.go false)).bind fun o1 =>
 o1.then fun s1 =>
  if s1 = true then
   some (true, (GJsonReader.mk y1.text (IntKind.wrap .i64 (y1.at_ + 1))))
  else
   some (false, y1)
theorem m_impl_jsonReader_sign_ok (k : Nat) : ∀ (a0 : GJsonReader) (a1 : Int) (b0_0 : Nat) (r : (Bool × GJsonReader)), m_impl_jsonReader_sign k a0 a1 = some r → Does Try.prog 93 [.ptr 0 b0_0 0, .int .u8 a1] [(0, (.pointer (some ⟨b0_0, 0, none⟩), .optr 78 [.str a0.text, .int .i64 a0.at_]))] (fun q h' => q = .bool r.1 ∧ h' = [(0, (.pointer (some ⟨b0_0, 0, none⟩), .optr 78 [.str r.2.text, .int .i64 r.2.at_]))]) := by
 intro a0 a1 b0_0 r h
 rw [m_impl_jsonReader_sign] at h
 refine does_of_good tabOk Try.func93 rfl (by decide +kernel) (Nat.le_of_ble_eq_true rfl) fun c => ?_
 refine Good.le (σ' := ⟨37, [(0, .ptr 0 b0_0 0), (1, .int .u8 a1)], [(0, ((.pointer (some ⟨b0_0, 0, none⟩)), .optr 78 [.str a0.text, .int .i64 a0.at_]))]⟩) (Le.refl _) ?_
 refine good_seq fun K1 hK1 => ?_
 refine rg 1 ?_
 refine g_nil (hK1 _ ?_)
 refine good_seq fun K2 hK2 => ?_
 refine rg 1 ?_
 obtain ⟨y1, hy1, h⟩ := bnd h
 refine g_op rfl (o_callP (q := 0) (core_value rfl rfl) (m_impl_jsonReader_blanks_ok k a0 b0_0 _ hy1) (.cons (.ptr _ _ _ _) (.nil)) rfl rfl ?_)
 refine gk hK2 37 [0, 1, 4] [0] ?_
 refine good_seq fun K3 hK3 => ?_
 refine good_seq fun K4 hK4 => ?_
 obtain ⟨o1, ho1, hJ1⟩ := bnd h
 have hw1 : ∀ (s1 : Bool), o1 = Lp.go s1 → ∀ σ', Le σ' ⟨37, [(0, .ptr 0 b0_0 0), (4, .bool false), (29, .bool s1)], [(0, ((.pointer (some ⟨b0_0, 0, none⟩)), .optr 78 [.str y1.text, .int .i64 y1.at_]))]⟩ → K4 σ' := by
  intro s1 e1 σ' hle1
  subst e1
  refine hK4 _ (Good.le hle1 ?_)
  replace h := hJ1
  refine good_cond rfl (fun hc1 => ?_) (fun hc1 => ?_)
  ·replace h := ifT h hc1
   refine good_seq fun K5 hK5 => ?_
   refine rg 1 ?_
   refine g_op rfl (ValOk.op (v_nilP rfl rfl ?_))
   refine gs 3 ?_
   refine g_op rfl (ValOk.op (v_nilP rfl rfl ?_))
   refine gs 1 ?_
   refine g_op rfl (o_storeP tabOk (cs' := [.str y1.text, .int .i64 (IntKind.wrap .i64 (y1.at_ + 1))]) rfl rfl tsize3 rfl rfl rfl (Nat.le_of_ble_eq_true rfl) rfl rfl rfl ?_)
   refine gk hK5 37 [4] [0] ?_
   refine good_seq fun K6 hK6 => ?_
   refine rg 1 ?_
   refine g_nil (hK6 _ ?_)
   refine Good.le (σ' := ⟨37, [(4, .bool true)], [(0, ((.pointer (some ⟨b0_0, 0, none⟩)), .optr 78 [.str y1.text, .int .i64 (IntKind.wrap .i64 (y1.at_ + 1))]))]⟩) (lw [some 0]) ?_
   refine good_ret ?_
   obtain rfl := Option.some.inj h
   refine thenQ_ret ?_
   exact endQ_ret (h' := [(0, (_, _))]) [some 0] (.tmp rfl (.nil)) ⟨⟨_, rfl, .refl _⟩, trivial⟩ (by decide) ⟨rfl, rfl⟩
  ·replace h := bF h hc1
   refine good_skip ?_
   refine hK3 _ (kp 37 [4] [0] ?_)
   refine good_seq fun K7 hK7 => ?_
   refine rg 1 ?_
   refine g_nil (hK7 _ ?_)
   refine Good.le (σ' := ⟨37, [(4, .bool false)], [(0, ((.pointer (some ⟨b0_0, 0, none⟩)), .optr 78 [.str y1.text, .int .i64 y1.at_]))]⟩) (lw [some 0]) ?_
   refine good_ret ?_
   obtain rfl := Option.some.inj h
   exact endQ_ret (h' := [(0, (_, _))]) [some 0] (.tmp rfl (.nil)) ⟨⟨_, rfl, .refl _⟩, trivial⟩ (by decide) ⟨rfl, rfl⟩
 replace h := ho1
 refine good_draw (by kernel_rfl) (by kernel_rfl) ?_
 refine q_op rfl (v_move rfl rfl ?_)
 refine q_op rfl (v_nilP rfl rfl ?_)
 refine q_op rfl (v_fieldP tabOk rfl tfoff78_1 rfl ?_)
 refine q_op rfl (v_loadP tabOk rfl rfl tsize3 tagg3 rfl rfl rfl rfl ?_)
 refine q_op rfl (v_move rfl rfl ?_)
 refine q_op rfl (v_nilP rfl rfl ?_)
 refine q_op rfl (v_fieldP tabOk rfl tfoff78_0 rfl ?_)
 refine q_op rfl (v_loadP tabOk rfl rfl tsize9 tagg9 rfl rfl rfl rfl ?_)
 refine q_op rfl (v_lenS tabOk rfl rfl tkind9 rfl ?_)
 refine q_op rfl (v_bin rfl rfl rfl rfl ?_)
 refine q_op rfl (v_move rfl rfl ?_)
 rcases bsplit ((decide (y1.at_ < (y1.text.length : Int)))) with hg1 | hg1
 ·replace h := ifT h (dT hg1)
  refine q_yes rfl rfl hg1 (v_move rfl rfl ?_)
  refine q_yes rfl rfl hg1 (v_nilP rfl rfl ?_)
  refine q_yes rfl rfl hg1 (v_fieldP tabOk rfl tfoff78_0 rfl ?_)
  refine q_yes rfl rfl hg1 (v_loadP tabOk rfl rfl tsize9 tagg9 rfl rfl rfl rfl ?_)
  refine q_yes rfl rfl hg1 (v_move rfl rfl ?_)
  refine q_yes rfl rfl hg1 (v_nilP rfl rfl ?_)
  refine q_yes rfl rfl hg1 (v_fieldP tabOk rfl tfoff78_1 rfl ?_)
  refine q_yes rfl rfl hg1 (v_loadP tabOk rfl rfl tsize3 tagg3 rfl rfl rfl rfl ?_)
  obtain ⟨hb1, h⟩ := ifS h
  refine q_yes rfl rfl hg1 (v_indexM tabOk rfl rfl tkind9 hb1 rfl ?_)
  refine q_yes rfl rfl hg1 (v_move rfl rfl ?_)
  refine q_yes rfl rfl hg1 (v_bin rfl rfl rfl rfl ?_)
  refine q_op rfl (v_pickT rfl hg1 rfl rfl ?_)
  refine q_nil ?_
  exact hw1 (decide ((byt y1.text y1.at_) = a1)) (Option.some.inj h).symm _ (lw [some 0])
 ·replace h := ifF h (dF hg1)
  refine q_no rfl rfl hg1 rfl ?_
  refine q_no rfl rfl hg1 rfl ?_
  refine q_no rfl rfl hg1 rfl ?_
  refine q_no rfl rfl hg1 rfl ?_
  refine q_no rfl rfl hg1 rfl ?_
  refine q_no rfl rfl hg1 rfl ?_
  refine q_no rfl rfl hg1 rfl ?_
  refine q_no rfl rfl hg1 rfl ?_
  refine q_no rfl rfl hg1 rfl ?_
  refine q_no rfl rfl hg1 rfl ?_
  refine q_no rfl rfl hg1 rfl ?_
  refine q_op rfl (v_pickF rfl hg1 rfl rfl ?_)
  refine q_nil ?_
  exact hw1 false (Option.some.inj h).symm _ (lw [some 0])
mutual
def m_impl_jsonReader_value : Nat → GJsonReader → Int → Option (Val × Bool × GJsonReader)
 | 0, _, _ => none
 | k + 1, a0, a1 =>
  (m_impl_jsonReader_blanks k a0).bind fun y1 =>
  (if a1 < 1 then
    some (Lp.go true)
   else
    some (Lp.go (decide ((y1.text.length : Int) ≤ y1.at_)))).bind fun o1 =>
  o1.then fun s1 =>
  if s1 = true then
   some ((Val.mk 0 0 ([] : Bs) ([] : List Val) ([] : List Bs)), false, y1)
  else
   (m_impl_jsonReader_word y1 [110, 117, 108, 108]).bind fun y2 =>
   if y2.1 = true then
    some ((Val.mk 0 0 ([] : Bs) ([] : List Val) ([] : List Bs)), true, y2.2)
   else
    (m_impl_jsonReader_word y2.2 [116, 114, 117, 101]).bind fun y3 =>
    if y3.1 = true then
     some ((Val.mk 1 1 ([] : Bs) ([] : List Val) ([] : List Bs)), true, y3.2)
    else
     (m_impl_jsonReader_word y3.2 [102, 97, 108, 115, 101]).bind fun y4 =>
     if y4.1 = true then
      some ((Val.mk 1 0 ([] : Bs) ([] : List Val) ([] : List Bs)), true, y4.2)
     else
      (m_impl_jsonReader_sign k y4.2 91).bind fun y5 =>
      if y5.1 = true then
       (m_impl_jsonReader_list k y5.2 a1).bind fun y6 =>
       some (y6.1, y6.2.1, y6.2.2)
      else
       (m_impl_jsonReader_sign k y5.2 123).bind fun y7 =>
       if y7.1 = true then
        (m_impl_jsonReader_tree k y7.2 a1).bind fun y8 =>
        some (y8.1, y8.2.1, y8.2.2)
       else
        if (0 : Int) ≤ y7.2.at_ ∧ y7.2.at_ < (y7.2.text.length : Int) then
         if (byt y7.2.text y7.2.at_) = 34 then
          (m_impl_textAt k y7.2.text y7.2.at_).bind fun y9 =>
          some ((Val.mk 3 0 y9.1 ([] : List Val) ([] : List Bs)), y9.2.2, (GJsonReader.mk y7.2.text y9.2.1))
         else
          (m_impl_numAt k y7.2.text y7.2.at_).bind fun y10 =>
          some ((Val.mk 2 y10.1 ([] : Bs) ([] : List Val) ([] : List Bs)), y10.2.2, (GJsonReader.mk y7.2.text y10.2.1))
        else none
def m_impl_jsonReader_list_l1 : Nat → Int → Bs → Int → (List Val) → Option (Lp Unit (Val × Bool × GJsonReader))
 | 0, _, _, _, _ => none
 | k + 1, a1, x1, x2, x3 =>
  (m_impl_jsonReader_value k (GJsonReader.mk x1 x2) (IntKind.wrap .i64 (a1 - 1))).bind fun y2 =>
  if y2.2.1 = true then
   if (x3 ++ [y2.1]).length * 80 ≤ 140737488355328 then
    (m_impl_jsonReader_sign k y2.2.2 93).bind fun y3 =>
    if y3.1 = true then
     (some ((Val.mk 4 0 ([] : Bs) (x3 ++ [y2.1]) ([] : List Bs)), true, y3.2)).bind fun z =>
     some (Lp.ret z)
    else
     (m_impl_jsonReader_sign k y3.2 44).bind fun y4 =>
     if y4.1 = true then
      m_impl_jsonReader_list_l1 k a1 y4.2.text y4.2.at_ (x3 ++ [y2.1])
     else
      (some ((Val.mk 0 0 ([] : Bs) ([] : List Val) ([] : List Bs)), false, y4.2)).bind fun z =>
      some (Lp.ret z)
   else none
  else
   (some ((Val.mk 0 0 ([] : Bs) ([] : List Val) ([] : List Bs)), false, y2.2.2)).bind fun z =>
   some (Lp.ret z)
def m_impl_jsonReader_list : Nat → GJsonReader → Int → Option (Val × Bool × GJsonReader)
 | 0, _, _ => none
 | k + 1, a0, a1 =>
  (m_impl_jsonReader_sign k a0 93).bind fun y1 =>
  if y1.1 = true then
   some ((Val.mk 4 0 ([] : Bs) ([] : List Val) ([] : List Bs)), true, y1.2)
  else
   (m_impl_jsonReader_list_l1 k a1 y1.2.text y1.2.at_ []).bind fun o1 =>
   o1.then fun _ => none
def m_impl_jsonReader_tree_l1 : Nat → Int → Bs → Int → (List Val) → (List Bs) → Option (Lp Unit (Val × Bool × GJsonReader))
 | 0, _, _, _, _, _ => none
 | k + 1, a1, x1, x2, x3, x4 =>
  (m_impl_jsonReader_blanks k (GJsonReader.mk x1 x2)).bind fun y2 =>
  (m_impl_textAt k y2.text y2.at_).bind fun y3 =>
  (if y3.2.2 = true then
    (m_impl_jsonReader_sign k (GJsonReader.mk y2.text y3.2.1) 58).bind fun y7 =>
    some (Lp.go (y7.2.text, y7.2.at_, (!y7.1)))
   else
    some (Lp.go (y2.text, y3.2.1, true))).bind fun o2 =>
  o2.then fun s1 =>
  if s1.2.2 = true then
   (some ((Val.mk 0 0 ([] : Bs) ([] : List Val) ([] : List Bs)), false, (GJsonReader.mk s1.1 s1.2.1))).bind fun z =>
   some (Lp.ret z)
  else
   (m_impl_jsonReader_value k (GJsonReader.mk s1.1 s1.2.1) (IntKind.wrap .i64 (a1 - 1))).bind fun y4 =>
   if y4.2.1 = true then
    if (x4 ++ [y3.1]).length * 16 ≤ 140737488355328 then
     if (x3 ++ [y4.1]).length * 80 ≤ 140737488355328 then
      (m_impl_jsonReader_sign k y4.2.2 125).bind fun y5 =>
      if y5.1 = true then
       (some ((Val.mk 5 0 ([] : Bs) (x3 ++ [y4.1]) (x4 ++ [y3.1])), true, y5.2)).bind fun z =>
       some (Lp.ret z)
      else
       (m_impl_jsonReader_sign k y5.2 44).bind fun y6 =>
       if y6.1 = true then
        m_impl_jsonReader_tree_l1 k a1 y6.2.text y6.2.at_ (x3 ++ [y4.1]) (x4 ++ [y3.1])
       else
        (some ((Val.mk 0 0 ([] : Bs) ([] : List Val) ([] : List Bs)), false, y6.2)).bind fun z =>
        some (Lp.ret z)
     else none
    else none
   else
    (some ((Val.mk 0 0 ([] : Bs) ([] : List Val) ([] : List Bs)), false, y4.2.2)).bind fun z =>
    some (Lp.ret z)
def m_impl_jsonReader_tree : Nat → GJsonReader → Int → Option (Val × Bool × GJsonReader)
 | 0, _, _ => none
 | k + 1, a0, a1 =>
  (m_impl_jsonReader_sign k a0 125).bind fun y1 =>
  if y1.1 = true then
   some ((Val.mk 5 0 ([] : Bs) ([] : List Val) ([] : List Bs)), true, y1.2)
  else
   (m_impl_jsonReader_tree_l1 k a1 y1.2.text y1.2.at_ [] []).bind fun o1 =>
   o1.then fun _ => none
end
def P_m_impl_jsonReader_value (k : Nat) : Prop := ∀ (a0 : GJsonReader) (a1 : Int) (b0_0 : Nat) (r : (Val × Bool × GJsonReader)), m_impl_jsonReader_value k a0 a1 = some r → Does Try.prog 63 [.ptr 0 b0_0 0, .int .i64 a1] [(0, (.pointer (some ⟨b0_0, 0, none⟩), .optr 78 [.str a0.text, .int .i64 a0.at_]))] (fun q h' => ∃ u0 : Value, ∃ u1 : Value, q = .tup [.agg [.int .i64 r.1.kind, .int .i64 r.1.num, .str r.1.text, .hd 100 u0, .hd 101 u1], .bool r.2.1] ∧ h' = [(0, (.pointer (some ⟨b0_0, 0, none⟩), .optr 78 [.str r.2.2.text, .int .i64 r.2.2.at_])), (100, (u0, .osl 30 5 (r.1.list.map encOVal))), (101, (u1, .osl 9 1 (r.1.names.map encS)))])
def P_m_impl_jsonReader_list (k : Nat) : Prop := ∀ (a0 : GJsonReader) (a1 : Int) (b0_0 : Nat) (r : (Val × Bool × GJsonReader)), m_impl_jsonReader_list k a0 a1 = some r → Does Try.prog 94 [.ptr 0 b0_0 0, .int .i64 a1] [(0, (.pointer (some ⟨b0_0, 0, none⟩), .optr 78 [.str a0.text, .int .i64 a0.at_]))] (fun q h' => ∃ u0 : Value, ∃ u1 : Value, q = .tup [.agg [.int .i64 r.1.kind, .int .i64 r.1.num, .str r.1.text, .hd 100 u0, .hd 101 u1], .bool r.2.1] ∧ h' = [(0, (.pointer (some ⟨b0_0, 0, none⟩), .optr 78 [.str r.2.2.text, .int .i64 r.2.2.at_])), (100, (u0, .osl 30 5 (r.1.list.map encOVal))), (101, (u1, .osl 9 1 (r.1.names.map encS)))])
def P_m_impl_jsonReader_tree (k : Nat) : Prop := ∀ (a0 : GJsonReader) (a1 : Int) (b0_0 : Nat) (r : (Val × Bool × GJsonReader)), m_impl_jsonReader_tree k a0 a1 = some r → Does Try.prog 95 [.ptr 0 b0_0 0, .int .i64 a1] [(0, (.pointer (some ⟨b0_0, 0, none⟩), .optr 78 [.str a0.text, .int .i64 a0.at_]))] (fun q h' => ∃ u0 : Value, ∃ u1 : Value, q = .tup [.agg [.int .i64 r.1.kind, .int .i64 r.1.num, .str r.1.text, .hd 100 u0, .hd 101 u1], .bool r.2.1] ∧ h' = [(0, (.pointer (some ⟨b0_0, 0, none⟩), .optr 78 [.str r.2.2.text, .int .i64 r.2.2.at_])), (100, (u0, .osl 30 5 (r.1.list.map encOVal))), (101, (u1, .osl 9 1 (r.1.names.map encS)))])
theorem m_impl_jsonReader_value_step (k : Nat) (ih : ∀ m, m < k → P_m_impl_jsonReader_value m ∧ P_m_impl_jsonReader_list m ∧ P_m_impl_jsonReader_tree m) : P_m_impl_jsonReader_value k := by
 intro a0 a1 b0_0 r h
 obtain ⟨k, rfl⟩ : ∃ k', k = k' + 1 := by cases k with | zero => (rw [m_impl_jsonReader_value] at h; cases h) | succ k' => exact ⟨k', rfl⟩
 rw [m_impl_jsonReader_value] at h
 refine does_of_good tabOk Try.func63 rfl (by decide +kernel) (Nat.le_of_ble_eq_true rfl) fun c => ?_
 refine Good.le (σ' := ⟨107, [(0, .ptr 0 b0_0 0), (1, .int .i64 a1)], [(0, ((.pointer (some ⟨b0_0, 0, none⟩)), .optr 78 [.str a0.text, .int .i64 a0.at_]))]⟩) (Le.refl _) ?_
 refine good_seq fun K1 hK1 => ?_
 refine good_region ?_
 refine g_op rfl (o_alloc (k := 14) tabOk tzero30 rfl rfl ?_)
 intro b1
 refine gs 1 ?_
 refine g_nil (hK1 _ ?_)
 refine good_seq fun K2 hK2 => ?_
 refine rg 1 ?_
 obtain ⟨y1, hy1, h⟩ := bnd h
 refine g_op rfl (o_callP (q := 0) (core_value rfl rfl) (m_impl_jsonReader_blanks_ok k a0 b0_0 _ hy1) (.cons (.ptr _ _ _ _) (.nil)) rfl rfl ?_)
 refine gk hK2 107 [0, 1, 4, 5] [0, 14] ?_
 refine good_seq fun K3 hK3 => ?_
 refine good_seq fun K4 hK4 => ?_
 obtain ⟨o1, ho1, hJ1⟩ := bnd h
 have hw1 : ∀ (s1 : Bool), o1 = Lp.go s1 → ∀ σ', Le σ' ⟨107, [(0, .ptr 0 b0_0 0), (1, .int .i64 a1), (4, .ptr 14 b1 0), (5, .bool false), (27, .bool s1)], [(0, ((.pointer (some ⟨b0_0, 0, none⟩)), .optr 78 [.str y1.text, .int .i64 y1.at_])), (14, ((.pointer (some ⟨b1, 0, none⟩)), .optr 30 [.int .i64 0, .int .i64 0, .str ([] : Bs), .nil, .nil]))]⟩ → K4 σ' := by
  intro s1 e1 σ' hle1
  subst e1
  refine hK4 _ (Good.le hle1 ?_)
  replace h := hJ1
  refine good_cond rfl (fun hc1 => ?_) (fun hc1 => ?_)
  ·replace h := ifT h hc1
   refine good_seq fun K5 hK5 => ?_
   refine good_region ?_
   refine g_op rfl (ValOk.op (v_build tabOk (cs := [.int .i64 0, .int .i64 0, .str ([] : Bs), .nil, .nil]) tzero30 tsok30 rfl rfl rfl ?_))
   refine g_op rfl (o_storeP tabOk (cs' := [.int .i64 0, .int .i64 0, .str ([] : Bs), .nil, .nil]) rfl rfl tsize30 rfl rfl rfl (Nat.le_of_ble_eq_true rfl) rfl rfl rfl ?_)
   refine gs 1 ?_
   refine gk hK5 107 [0, 1, 4, 5] [0, 14] ?_
   refine Good.le (σ' := ⟨107, [(4, .ptr 14 b1 0), (5, .bool false)], [(100, (nilV, .osl 30 5 (([] : List Val).map encOVal))), (101, (nilV, .osl 9 1 (([] : List Bs).map encS))), (14, ((.pointer (some ⟨b1, 0, none⟩)), .optr 30 [.int .i64 0, .int .i64 0, .str ([] : Bs), .hd 100 nilV, .hd 101 nilV])), (0, ((.pointer (some ⟨b0_0, 0, none⟩)), .optr 78 [.str y1.text, .int .i64 y1.at_]))]⟩) (lw [none, none, some 14, some 0]) ?_
   refine good_ret ?_
   obtain rfl := Option.some.inj h
   refine thenQ_ret ?_
   exact endQ_ret (h' := [(0, (_, _)), (100, (_, _)), (101, (_, _))]) [some 0, some 100, some 101] (.cell rfl rfl tsize30 tagg30 rfl rfl rfl (.tmp rfl (.nil))) ⟨⟨_, rfl, .refl _⟩, ⟨⟨_, rfl, .refl _⟩, ⟨⟨_, rfl, .refl _⟩, trivial⟩⟩⟩ (by decide) ⟨nilV, nilV, rfl, rfl⟩
  ·replace h := bF h hc1
   refine good_skip ?_
   refine hK3 _ (kp 107 [0, 1, 4, 5] [0, 14] ?_)
   refine good_seq fun K6 hK6 => ?_
   refine good_block ?_
   refine good_seq fun K7 hK7 => ?_
   refine rg 1 ?_
   obtain ⟨y2, hy2, h⟩ := bnd h
   refine g_op rfl (o_callP (q := 0) (core_value rfl rfl) (m_impl_jsonReader_word_ok y1 [110, 117, 108, 108] b0_0 _ hy2) (.cons (.ptr _ _ _ _) (.cons (.refl _) (.nil))) rfl rfl ?_)
   refine gs 1 ?_
   refine gk hK7 107 [0, 1, 4, 5, 29] [0, 14] ?_
   refine good_cond rfl (fun hc2 => ?_) (fun hc2 => ?_)
   ·replace h := ifT h hc2
    refine good_seq fun K8 hK8 => ?_
    refine good_region ?_
    refine g_op rfl (ValOk.op (v_build tabOk (cs := [.int .i64 0, .int .i64 0, .str ([] : Bs), .nil, .nil]) tzero30 tsok30 rfl rfl rfl ?_))
    refine g_op rfl (o_storeP tabOk (cs' := [.int .i64 0, .int .i64 0, .str ([] : Bs), .nil, .nil]) rfl rfl tsize30 rfl rfl rfl (Nat.le_of_ble_eq_true rfl) rfl rfl rfl ?_)
    refine gs 1 ?_
    refine gk hK8 107 [0, 4, 5] [0, 14] ?_
    refine Good.le (σ' := ⟨107, [(4, .ptr 14 b1 0), (5, .bool true)], [(100, (nilV, .osl 30 5 (([] : List Val).map encOVal))), (101, (nilV, .osl 9 1 (([] : List Bs).map encS))), (14, ((.pointer (some ⟨b1, 0, none⟩)), .optr 30 [.int .i64 0, .int .i64 0, .str ([] : Bs), .hd 100 nilV, .hd 101 nilV])), (0, ((.pointer (some ⟨b0_0, 0, none⟩)), .optr 78 [.str y2.2.text, .int .i64 y2.2.at_]))]⟩) (lw [none, none, some 14, some 0]) ?_
    refine good_ret ?_
    obtain rfl := Option.some.inj h
    refine blockQ_ret ?_
    refine thenQ_ret ?_
    exact endQ_ret (h' := [(0, (_, _)), (100, (_, _)), (101, (_, _))]) [some 0, some 100, some 101] (.cell rfl rfl tsize30 tagg30 rfl rfl rfl (.tmp rfl (.nil))) ⟨⟨_, rfl, .refl _⟩, ⟨⟨_, rfl, .refl _⟩, ⟨⟨_, rfl, .refl _⟩, trivial⟩⟩⟩ (by decide) ⟨nilV, nilV, rfl, rfl⟩
   ·replace h := bF h hc2
    refine good_seq fun K9 hK9 => ?_
    refine rg 1 ?_
    obtain ⟨y3, hy3, h⟩ := bnd h
    refine g_op rfl (o_callP (q := 0) (core_value rfl rfl) (m_impl_jsonReader_word_ok y2.2 [116, 114, 117, 101] b0_0 _ hy3) (.cons (.ptr _ _ _ _) (.cons (.refl _) (.nil))) rfl rfl ?_)
    refine gs 1 ?_
    refine gk hK9 107 [0, 1, 4, 5, 33] [0, 14] ?_
    refine good_cond rfl (fun hc3 => ?_) (fun hc3 => ?_)
    ·replace h := ifT h hc3
     refine good_seq fun K10 hK10 => ?_
     refine good_region ?_
     refine g_op rfl (ValOk.op (v_build tabOk (cs := [.int .i64 1, .int .i64 1, .str ([] : Bs), .nil, .nil]) tzero30 tsok30 rfl rfl rfl ?_))
     refine g_op rfl (o_storeP tabOk (cs' := [.int .i64 1, .int .i64 1, .str ([] : Bs), .nil, .nil]) rfl rfl tsize30 rfl rfl rfl (Nat.le_of_ble_eq_true rfl) rfl rfl rfl ?_)
     refine gs 1 ?_
     refine gk hK10 107 [0, 4, 5] [0, 14] ?_
     refine Good.le (σ' := ⟨107, [(4, .ptr 14 b1 0), (5, .bool true)], [(100, (nilV, .osl 30 5 (([] : List Val).map encOVal))), (101, (nilV, .osl 9 1 (([] : List Bs).map encS))), (14, ((.pointer (some ⟨b1, 0, none⟩)), .optr 30 [.int .i64 1, .int .i64 1, .str ([] : Bs), .hd 100 nilV, .hd 101 nilV])), (0, ((.pointer (some ⟨b0_0, 0, none⟩)), .optr 78 [.str y3.2.text, .int .i64 y3.2.at_]))]⟩) (lw [none, none, some 14, some 0]) ?_
     refine good_ret ?_
     obtain rfl := Option.some.inj h
     refine blockQ_ret ?_
     refine thenQ_ret ?_
     exact endQ_ret (h' := [(0, (_, _)), (100, (_, _)), (101, (_, _))]) [some 0, some 100, some 101] (.cell rfl rfl tsize30 tagg30 rfl rfl rfl (.tmp rfl (.nil))) ⟨⟨_, rfl, .refl _⟩, ⟨⟨_, rfl, .refl _⟩, ⟨⟨_, rfl, .refl _⟩, trivial⟩⟩⟩ (by decide) ⟨nilV, nilV, rfl, rfl⟩
    ·replace h := bF h hc3
     refine good_seq fun K11 hK11 => ?_
     refine rg 1 ?_
     obtain ⟨y4, hy4, h⟩ := bnd h
     refine g_op rfl (o_callP (q := 0) (core_value rfl rfl) (m_impl_jsonReader_word_ok y3.2 [102, 97, 108, 115, 101] b0_0 _ hy4) (.cons (.ptr _ _ _ _) (.cons (.refl _) (.nil))) rfl rfl ?_)
     refine gs 1 ?_
     refine gk hK11 107 [0, 1, 4, 5, 37] [0, 14] ?_
     refine good_cond rfl (fun hc4 => ?_) (fun hc4 => ?_)
     ·replace h := ifT h hc4
      refine good_seq fun K12 hK12 => ?_
      refine good_region ?_
      refine g_op rfl (ValOk.op (v_build tabOk (cs := [.int .i64 1, .int .i64 0, .str ([] : Bs), .nil, .nil]) tzero30 tsok30 rfl rfl rfl ?_))
      refine g_op rfl (o_storeP tabOk (cs' := [.int .i64 1, .int .i64 0, .str ([] : Bs), .nil, .nil]) rfl rfl tsize30 rfl rfl rfl (Nat.le_of_ble_eq_true rfl) rfl rfl rfl ?_)
      refine gs 1 ?_
      refine gk hK12 107 [0, 4, 5] [0, 14] ?_
      refine Good.le (σ' := ⟨107, [(4, .ptr 14 b1 0), (5, .bool true)], [(100, (nilV, .osl 30 5 (([] : List Val).map encOVal))), (101, (nilV, .osl 9 1 (([] : List Bs).map encS))), (14, ((.pointer (some ⟨b1, 0, none⟩)), .optr 30 [.int .i64 1, .int .i64 0, .str ([] : Bs), .hd 100 nilV, .hd 101 nilV])), (0, ((.pointer (some ⟨b0_0, 0, none⟩)), .optr 78 [.str y4.2.text, .int .i64 y4.2.at_]))]⟩) (lw [none, none, some 14, some 0]) ?_
      refine good_ret ?_
      obtain rfl := Option.some.inj h
      refine blockQ_ret ?_
      refine thenQ_ret ?_
      exact endQ_ret (h' := [(0, (_, _)), (100, (_, _)), (101, (_, _))]) [some 0, some 100, some 101] (.cell rfl rfl tsize30 tagg30 rfl rfl rfl (.tmp rfl (.nil))) ⟨⟨_, rfl, .refl _⟩, ⟨⟨_, rfl, .refl _⟩, ⟨⟨_, rfl, .refl _⟩, trivial⟩⟩⟩ (by decide) ⟨nilV, nilV, rfl, rfl⟩
     ·replace h := bF h hc4
      refine good_seq fun K13 hK13 => ?_
      refine rg 1 ?_
      obtain ⟨y5, hy5, h⟩ := bnd h
      refine g_op rfl (o_callP (q := 0) (core_value rfl rfl) (m_impl_jsonReader_sign_ok k y4.2 91 b0_0 _ hy5) (.cons (.ptr _ _ _ _) (.cons (.refl _) (.nil))) rfl rfl ?_)
      refine gs 1 ?_
      refine gk hK13 107 [0, 1, 4, 5, 41] [0, 14] ?_
      refine good_cond rfl (fun hc5 => ?_) (fun hc5 => ?_)
      ·replace h := ifT h hc5
       refine good_seq fun K14 hK14 => ?_
       refine rg 2 ?_
       obtain ⟨y6, hy6, h⟩ := bnd h
       refine g_op rfl (o_callD [] [] [0] (core_value rfl rfl) ((ih k (by omega)).2.1 y5.2 a1 b0_0 _ hy6) trivial (.cons (.ptr _ _ _ _) (.cons (.refl _) (.nil))) ⟨rfl, trivial⟩ rfl rfl rfl ?_)
       rintro _ _ ⟨w1, w2, rfl, rfl⟩
       refine ⟨.tup [.agg [.int .i64 y6.1.kind, .int .i64 y6.1.num, .str y6.1.text, .hd 3001 w1, .hd 3002 w2], .bool y6.2.1], [(0, _), (3001, _), (3002, _)], .tup (.cons (.agg (.cons (.refl _) (.cons (.refl _) (.cons (.refl _) (.cons (.hd _ _ _) (.cons (.hd _ _ _) (.nil))))))) (.cons (.refl _) (.nil))), rfl, rfl, rfl, rfl, .inl rfl, ?_⟩
       refine gs 2 ?_
       refine g_op rfl (o_storeP tabOk (cs' := [.int .i64 y6.1.kind, .int .i64 y6.1.num, .str y6.1.text, .hd 3001 w1, .hd 3002 w2]) rfl rfl tsize30 rfl rfl rfl (Nat.le_of_ble_eq_true rfl) rfl rfl rfl ?_)
       refine gs 1 ?_
       refine gk hK14 107 [0, 4, 5] [0, 14, 3001, 3002] ?_
       refine Good.le (σ' := ⟨107, [(4, .ptr 14 b1 0), (5, .bool y6.2.1)], [(100, (w1, .osl 30 5 (y6.1.list.map encOVal))), (101, (w2, .osl 9 1 (y6.1.names.map encS))), (14, ((.pointer (some ⟨b1, 0, none⟩)), .optr 30 [.int .i64 y6.1.kind, .int .i64 y6.1.num, .str y6.1.text, .hd 100 w1, .hd 101 w2])), (0, ((.pointer (some ⟨b0_0, 0, none⟩)), .optr 78 [.str y6.2.2.text, .int .i64 y6.2.2.at_]))]⟩) (lw [some 3001, some 3002, some 14, some 0]) ?_
       refine good_ret ?_
       obtain rfl := Option.some.inj h
       refine blockQ_ret ?_
       refine thenQ_ret ?_
       exact endQ_ret (h' := [(0, (_, _)), (100, (_, _)), (101, (_, _))]) [some 0, some 100, some 101] (.cell rfl rfl tsize30 tagg30 rfl rfl rfl (.tmp rfl (.nil))) ⟨⟨_, rfl, .refl _⟩, ⟨⟨_, rfl, .refl _⟩, ⟨⟨_, rfl, .refl _⟩, trivial⟩⟩⟩ (by decide) ⟨w1, w2, rfl, rfl⟩
      ·replace h := bF h hc5
       refine good_seq fun K15 hK15 => ?_
       refine rg 1 ?_
       obtain ⟨y7, hy7, h⟩ := bnd h
       refine g_op rfl (o_callP (q := 0) (core_value rfl rfl) (m_impl_jsonReader_sign_ok k y5.2 123 b0_0 _ hy7) (.cons (.ptr _ _ _ _) (.cons (.refl _) (.nil))) rfl rfl ?_)
       refine gs 1 ?_
       refine gk hK15 107 [0, 1, 4, 5, 49] [0, 14] ?_
       refine good_cond rfl (fun hc6 => ?_) (fun hc6 => ?_)
       ·replace h := ifT h hc6
        refine good_seq fun K16 hK16 => ?_
        refine rg 2 ?_
        obtain ⟨y8, hy8, h⟩ := bnd h
        refine g_op rfl (o_callD [] [] [0] (core_value rfl rfl) ((ih k (by omega)).2.2 y7.2 a1 b0_0 _ hy8) trivial (.cons (.ptr _ _ _ _) (.cons (.refl _) (.nil))) ⟨rfl, trivial⟩ rfl rfl rfl ?_)
        rintro _ _ ⟨w3, w4, rfl, rfl⟩
        refine ⟨.tup [.agg [.int .i64 y8.1.kind, .int .i64 y8.1.num, .str y8.1.text, .hd 3003 w3, .hd 3004 w4], .bool y8.2.1], [(0, _), (3003, _), (3004, _)], .tup (.cons (.agg (.cons (.refl _) (.cons (.refl _) (.cons (.refl _) (.cons (.hd _ _ _) (.cons (.hd _ _ _) (.nil))))))) (.cons (.refl _) (.nil))), rfl, rfl, rfl, rfl, .inl rfl, ?_⟩
        refine gs 2 ?_
        refine g_op rfl (o_storeP tabOk (cs' := [.int .i64 y8.1.kind, .int .i64 y8.1.num, .str y8.1.text, .hd 3003 w3, .hd 3004 w4]) rfl rfl tsize30 rfl rfl rfl (Nat.le_of_ble_eq_true rfl) rfl rfl rfl ?_)
        refine gs 1 ?_
        refine gk hK16 107 [0, 4, 5] [0, 14, 3003, 3004] ?_
        refine Good.le (σ' := ⟨107, [(4, .ptr 14 b1 0), (5, .bool y8.2.1)], [(100, (w3, .osl 30 5 (y8.1.list.map encOVal))), (101, (w4, .osl 9 1 (y8.1.names.map encS))), (14, ((.pointer (some ⟨b1, 0, none⟩)), .optr 30 [.int .i64 y8.1.kind, .int .i64 y8.1.num, .str y8.1.text, .hd 100 w3, .hd 101 w4])), (0, ((.pointer (some ⟨b0_0, 0, none⟩)), .optr 78 [.str y8.2.2.text, .int .i64 y8.2.2.at_]))]⟩) (lw [some 3003, some 3004, some 14, some 0]) ?_
        refine good_ret ?_
        obtain rfl := Option.some.inj h
        refine blockQ_ret ?_
        refine thenQ_ret ?_
        exact endQ_ret (h' := [(0, (_, _)), (100, (_, _)), (101, (_, _))]) [some 0, some 100, some 101] (.cell rfl rfl tsize30 tagg30 rfl rfl rfl (.tmp rfl (.nil))) ⟨⟨_, rfl, .refl _⟩, ⟨⟨_, rfl, .refl _⟩, ⟨⟨_, rfl, .refl _⟩, trivial⟩⟩⟩ (by decide) ⟨w3, w4, rfl, rfl⟩
       ·replace h := bF h hc6
        refine good_skip ?_
        refine hK6 _ (kp 107 [0, 4, 5] [0, 14] ?_)
        refine good_seq fun K17 hK17 => ?_
        refine good_seq fun K18 hK18 => ?_
        refine good_draw (by kernel_rfl) (by kernel_rfl) ?_
        refine q_op rfl (v_move rfl rfl ?_)
        refine q_op rfl (v_nilP rfl rfl ?_)
        refine q_op rfl (v_fieldP tabOk rfl tfoff78_0 rfl ?_)
        refine q_op rfl (v_loadP tabOk rfl rfl tsize9 tagg9 rfl rfl rfl rfl ?_)
        refine q_op rfl (v_move rfl rfl ?_)
        refine q_op rfl (v_nilP rfl rfl ?_)
        refine q_op rfl (v_fieldP tabOk rfl tfoff78_1 rfl ?_)
        refine q_op rfl (v_loadP tabOk rfl rfl tsize3 tagg3 rfl rfl rfl rfl ?_)
        obtain ⟨hb1, h⟩ := ifS h
        refine q_op rfl (v_indexM tabOk rfl rfl tkind9 hb1 rfl ?_)
        refine q_op rfl (v_bin rfl rfl rfl rfl ?_)
        refine q_nil ?_
        refine hK18 _ (kp 107 [0, 4, 5, 66] [0, 14] ?_)
        refine good_cond rfl (fun hc7 => ?_) (fun hc7 => ?_)
        ·replace h := ifT h (dT hc7)
         refine good_seq fun K19 hK19 => ?_
         obtain ⟨y9, hy9, h⟩ := bnd h
         refine good_anyM (by kernel_rfl) [⟨[], [0], [], [], [], []⟩, ⟨[0], [68], [], [], [], []⟩, ⟨[0, 1], [69], [], [], [], []⟩, ⟨[0, 1, 2], [70], [0], [], [], []⟩, ⟨[], [0], [], [], [], []⟩, ⟨[4], [72], [], [], [], []⟩, ⟨[4, 5], [73], [], [], [], []⟩, ⟨[4, 5, 6], [74], [0], [], [], []⟩, ⟨[0, 1, 2, 3, 4, 5, 6, 7], [71, 75], [], [], [], []⟩, ⟨[0, 1, 2, 3, 4, 5, 6, 7, 8], [76], [], [], [], []⟩, ⟨[0, 1, 2, 3, 4, 5, 6, 7, 8, 9], [67], [], [], [], []⟩, ⟨[0, 1, 2, 3, 4, 5, 6, 7, 8, 9], [67], [], [], [], []⟩, ⟨[0, 1, 2, 3, 4, 5, 6, 7, 8, 9], [67], [], [], [], []⟩, ⟨[0, 1, 2, 3, 4, 5, 6, 7, 8, 9, 10], [77], [], [], [], []⟩, ⟨[0, 1, 2, 3, 4, 5, 6, 7, 8, 9, 10, 11, 13], [78], [], [], [], []⟩, ⟨[0, 1, 2, 3, 4, 5, 6, 7, 8, 9, 10, 11, 12, 13, 14], [79], [], [], [], []⟩] [some 68, some 69, some 70, some 71, some 72, some 73, some 74, some 75, some 76, some 67, some 77, some 78, some 79, some 6, some 7, some 8] 107 [(0, .ptr 0 b0_0 0), (4, .ptr 14 b1 0), (5, .bool false)] [(0, ((.pointer (some ⟨b0_0, 0, none⟩)), .optr 78 [.str y7.2.text, .int .i64 y7.2.at_])), (14, ((.pointer (some ⟨b1, 0, none⟩)), .optr 30 [.int .i64 0, .int .i64 0, .str ([] : Bs), .nil, .nil]))] (fun ν1 => [.ptr 0 b0_0 0, .ptr 0 b0_0 0, .ptr 0 b0_0 0, .str y7.2.text, .ptr 0 b0_0 0, .ptr 0 b0_0 0, .ptr 0 b0_0 1, .int .i64 y7.2.at_, .tup [.str y9.1, .int .i64 y9.2.1, .bool y9.2.2], .tup [.str y9.1, .int .i64 y9.2.1, .bool y9.2.2], .str y9.1, .int .i64 y9.2.1, .bool y9.2.2, .str y9.1, .int .i64 y9.2.1, .bool y9.2.2]) (fun ν1 => []) [(0, []), (14, [])] [] [some 0, some 14] (fun ν1 => [(0, .ptr 0 b0_0 0), (4, .ptr 14 b1 0), (5, .bool false), (6, .str y9.1), (7, .int .i64 y9.2.1), (8, .bool y9.2.2)]) (fun ν1 => [(0, ((.pointer (some ⟨b0_0, 0, none⟩)), .optr 78 [.str y7.2.text, .int .i64 y7.2.at_])), (14, ((.pointer (some ⟨b1, 0, none⟩)), .optr 30 [.int .i64 0, .int .i64 0, .str ([] : Bs), .nil, .nil]))]) (lw [some 0, some 14]) (by kernel_rfl) ⟨?_, ⟨?_, ⟨?_, ⟨?_, ⟨?_, ⟨?_, ⟨?_, ⟨?_, ⟨?_, ⟨?_, ⟨?_, ⟨?_, ⟨?_, ⟨?_, ⟨?_, ⟨?_, trivial⟩⟩⟩⟩⟩⟩⟩⟩⟩⟩⟩⟩⟩⟩⟩⟩ ⟨fun _ _ _ => rfl, ⟨fun _ _ _ => rfl, ⟨fun _ _ _ => rfl, ⟨fun _ _ _ => rfl, ⟨fun _ _ _ => rfl, ⟨fun _ _ _ => rfl, ⟨fun _ _ _ => rfl, ⟨fun _ _ _ => rfl, ⟨fun _ _ _ => rfl, ⟨fun _ _ _ => rfl, ⟨fun _ _ _ => rfl, ⟨fun _ _ _ => rfl, ⟨fun _ _ _ => rfl, ⟨fun _ _ _ => rfl, ⟨fun _ _ _ => rfl, ⟨fun _ _ _ => rfl, trivial⟩⟩⟩⟩⟩⟩⟩⟩⟩⟩⟩⟩⟩⟩⟩⟩ ⟨fun _ _ _ => rfl, ⟨fun _ _ _ => rfl, trivial⟩⟩ (fun _ => rfl) (fun _ => rfl) (by kernel_rfl) (fun _ => ⟨⟨_, rfl, .refl _⟩, ⟨⟨_, rfl, .refl _⟩, ⟨⟨_, rfl, .refl _⟩, ⟨⟨_, rfl, .refl _⟩, ⟨⟨_, rfl, .refl _⟩, ⟨⟨_, rfl, .refl _⟩, trivial⟩⟩⟩⟩⟩⟩) (fun _ => ⟨⟨_, rfl, .refl _⟩, ⟨⟨_, rfl, .refl _⟩, trivial⟩⟩) (by kernel_rfl) (by decide) ?_
         ·refine local_mk (fun ν1 => [(0, .ptr 0 b0_0 0)]) (fun ν1 => []) (fun _ => rfl) (fun _ => ⟨⟨_, rfl, .refl _, .refl _⟩, trivial⟩) (fun _ => rfl) (fun _ => trivial) ?_
          intro ν1 S H hS hfr
          refine st_op rfl (ValOk.op (v_move rfl rfl ?_))
          exact lp_v hS rfl rfl (fun _ => rfl)
         ·refine local_mk (fun ν1 => [(68, .ptr 0 b0_0 0)]) (fun ν1 => []) (fun _ => rfl) (fun _ => ⟨⟨_, rfl, .refl _, .refl _⟩, trivial⟩) (fun _ => rfl) (fun _ => trivial) ?_
          intro ν1 S H hS hfr
          refine st_op rfl (ValOk.op (v_nilP rfl rfl ?_))
          exact lp_v hS rfl rfl (fun _ => rfl)
         ·refine local_mk (fun ν1 => [(69, .ptr 0 b0_0 0)]) (fun ν1 => []) (fun _ => rfl) (fun _ => ⟨⟨_, rfl, .refl _, .refl _⟩, trivial⟩) (fun _ => rfl) (fun _ => trivial) ?_
          intro ν1 S H hS hfr
          refine st_op rfl (ValOk.op (v_fieldP tabOk rfl tfoff78_0 rfl ?_))
          exact lp_v hS rfl rfl (fun _ => rfl)
         ·refine local_mk (fun ν1 => [(70, .ptr 0 b0_0 0)]) (fun ν1 => [(0, ((.pointer (some ⟨b0_0, 0, none⟩)), .optr 78 [.str y7.2.text, .int .i64 y7.2.at_]))]) (fun _ => rfl) (fun _ => ⟨⟨_, rfl, .refl _, .refl _⟩, trivial⟩) (fun _ => rfl) (fun _ => ⟨rfl, trivial⟩) ?_
          intro ν1 S H hS hfr
          refine st_op rfl (ValOk.op (v_loadP tabOk rfl rfl tsize9 tagg9 rfl rfl rfl rfl ?_))
          exact lp_v hS rfl rfl (fun _ => rfl)
         ·refine local_mk (fun ν1 => [(0, .ptr 0 b0_0 0)]) (fun ν1 => []) (fun _ => rfl) (fun _ => ⟨⟨_, rfl, .refl _, .refl _⟩, trivial⟩) (fun _ => rfl) (fun _ => trivial) ?_
          intro ν1 S H hS hfr
          refine st_op rfl (ValOk.op (v_move rfl rfl ?_))
          exact lp_v hS rfl rfl (fun _ => rfl)
         ·refine local_mk (fun ν1 => [(72, .ptr 0 b0_0 0)]) (fun ν1 => []) (fun _ => rfl) (fun _ => ⟨⟨_, rfl, .refl _, .refl _⟩, trivial⟩) (fun _ => rfl) (fun _ => trivial) ?_
          intro ν1 S H hS hfr
          refine st_op rfl (ValOk.op (v_nilP rfl rfl ?_))
          exact lp_v hS rfl rfl (fun _ => rfl)
         ·refine local_mk (fun ν1 => [(73, .ptr 0 b0_0 0)]) (fun ν1 => []) (fun _ => rfl) (fun _ => ⟨⟨_, rfl, .refl _, .refl _⟩, trivial⟩) (fun _ => rfl) (fun _ => trivial) ?_
          intro ν1 S H hS hfr
          refine st_op rfl (ValOk.op (v_fieldP tabOk rfl tfoff78_1 rfl ?_))
          exact lp_v hS rfl rfl (fun _ => rfl)
         ·refine local_mk (fun ν1 => [(74, .ptr 0 b0_0 1)]) (fun ν1 => [(0, ((.pointer (some ⟨b0_0, 0, none⟩)), .optr 78 [.str y7.2.text, .int .i64 y7.2.at_]))]) (fun _ => rfl) (fun _ => ⟨⟨_, rfl, .refl _, .refl _⟩, trivial⟩) (fun _ => rfl) (fun _ => ⟨rfl, trivial⟩) ?_
          intro ν1 S H hS hfr
          refine st_op rfl (ValOk.op (v_loadP tabOk rfl rfl tsize3 tagg3 rfl rfl rfl rfl ?_))
          exact lp_v hS rfl rfl (fun _ => rfl)
         ·refine local_mk (fun ν1 => [(71, .str y7.2.text), (75, .int .i64 y7.2.at_)]) (fun ν1 => []) (fun _ => rfl) (fun _ => ⟨⟨_, rfl, .refl _, .refl _⟩, ⟨⟨_, rfl, .refl _, .refl _⟩, trivial⟩⟩) (fun _ => rfl) (fun _ => trivial) ?_
          intro ν1 S H hS hfr
          refine st_op rfl (o_callR [] [] (core_value rfl rfl) (m_impl_textAt_ok k y7.2.text y7.2.at_ _ hy9) trivial (.cons (.refl _) (.cons (.refl _) (.nil))) (.inl rfl) rfl ?_)
          exact lp_v hS rfl rfl (fun _ => rfl)
         ·refine local_mk (fun ν1 => [(76, .tup [.str y9.1, .int .i64 y9.2.1, .bool y9.2.2])]) (fun ν1 => []) (fun _ => rfl) (fun _ => ⟨⟨_, rfl, .refl _, .refl _⟩, trivial⟩) (fun _ => rfl) (fun _ => trivial) ?_
          intro ν1 S H hS hfr
          refine st_op rfl (ValOk.op (v_move rfl rfl ?_))
          exact lp_v hS rfl rfl (fun _ => rfl)
         ·refine local_mk (fun ν1 => [(67, .tup [.str y9.1, .int .i64 y9.2.1, .bool y9.2.2])]) (fun ν1 => []) (fun _ => rfl) (fun _ => ⟨⟨_, rfl, .refl _, .refl _⟩, trivial⟩) (fun _ => rfl) (fun _ => trivial) ?_
          intro ν1 S H hS hfr
          refine st_op rfl (ValOk.op (v_extract rfl rfl rfl ?_))
          exact lp_v hS rfl rfl (fun _ => rfl)
         ·refine local_mk (fun ν1 => [(67, .tup [.str y9.1, .int .i64 y9.2.1, .bool y9.2.2])]) (fun ν1 => []) (fun _ => rfl) (fun _ => ⟨⟨_, rfl, .refl _, .refl _⟩, trivial⟩) (fun _ => rfl) (fun _ => trivial) ?_
          intro ν1 S H hS hfr
          refine st_op rfl (ValOk.op (v_extract rfl rfl rfl ?_))
          exact lp_v hS rfl rfl (fun _ => rfl)
         ·refine local_mk (fun ν1 => [(67, .tup [.str y9.1, .int .i64 y9.2.1, .bool y9.2.2])]) (fun ν1 => []) (fun _ => rfl) (fun _ => ⟨⟨_, rfl, .refl _, .refl _⟩, trivial⟩) (fun _ => rfl) (fun _ => trivial) ?_
          intro ν1 S H hS hfr
          refine st_op rfl (ValOk.op (v_extract rfl rfl rfl ?_))
          exact lp_v hS rfl rfl (fun _ => rfl)
         ·refine local_mk (fun ν1 => [(77, .str y9.1)]) (fun ν1 => []) (fun _ => rfl) (fun _ => ⟨⟨_, rfl, .refl _, .refl _⟩, trivial⟩) (fun _ => rfl) (fun _ => trivial) ?_
          intro ν1 S H hS hfr
          refine st_op rfl (ValOk.op (v_assign rfl rfl ?_))
          exact lp_v hS rfl rfl (fun _ => rfl)
         ·refine local_mk (fun ν1 => [(78, .int .i64 y9.2.1)]) (fun ν1 => []) (fun _ => rfl) (fun _ => ⟨⟨_, rfl, .refl _, .refl _⟩, trivial⟩) (fun _ => rfl) (fun _ => trivial) ?_
          intro ν1 S H hS hfr
          refine st_op rfl (ValOk.op (v_assign rfl rfl ?_))
          exact lp_v hS rfl rfl (fun _ => rfl)
         ·refine local_mk (fun ν1 => [(79, .bool y9.2.2)]) (fun ν1 => []) (fun _ => rfl) (fun _ => ⟨⟨_, rfl, .refl _, .refl _⟩, trivial⟩) (fun _ => rfl) (fun _ => trivial) ?_
          intro ν1 S H hS hfr
          refine st_op rfl (ValOk.op (v_assign rfl rfl ?_))
          exact lp_v hS rfl rfl (fun _ => rfl)
         intro ν1
         refine hK19 _ ?_
         refine good_seq fun K20 hK20 => ?_
         refine rg 2 ?_
         refine g_op rfl (ValOk.op (v_nilP rfl rfl ?_))
         refine gs 1 ?_
         refine g_op rfl (o_storeP tabOk (cs' := [.str y7.2.text, .int .i64 y9.2.1]) rfl rfl tsize3 rfl rfl rfl (Nat.le_of_ble_eq_true rfl) rfl rfl rfl ?_)
         refine gk hK20 107 [0, 4, 5, 6, 8] [0, 14] ?_
         refine good_seq fun K21 hK21 => ?_
         refine rg 1 ?_
         refine g_op rfl (ValOk.op (v_build tabOk (cs := [.int .i64 3, .int .i64 0, .str y9.1, .nil, .nil]) tzero30 tsok30 rfl rfl rfl ?_))
         refine gs 1 ?_
         refine g_op rfl (o_storeP tabOk (cs' := [.int .i64 3, .int .i64 0, .str y9.1, .nil, .nil]) rfl rfl tsize30 rfl rfl rfl (Nat.le_of_ble_eq_true rfl) rfl rfl rfl ?_)
         refine gs 1 ?_
         refine gk hK21 107 [0, 4, 5] [0, 14] ?_
         refine Good.le (σ' := ⟨107, [(4, .ptr 14 b1 0), (5, .bool y9.2.2)], [(100, (nilV, .osl 30 5 (([] : List Val).map encOVal))), (101, (nilV, .osl 9 1 (([] : List Bs).map encS))), (14, ((.pointer (some ⟨b1, 0, none⟩)), .optr 30 [.int .i64 3, .int .i64 0, .str y9.1, .hd 100 nilV, .hd 101 nilV])), (0, ((.pointer (some ⟨b0_0, 0, none⟩)), .optr 78 [.str y7.2.text, .int .i64 y9.2.1]))]⟩) (lw [none, none, some 14, some 0]) ?_
         refine good_ret ?_
         obtain rfl := Option.some.inj h
         refine thenQ_ret ?_
         exact endQ_ret (h' := [(0, (_, _)), (100, (_, _)), (101, (_, _))]) [some 0, some 100, some 101] (.cell rfl rfl tsize30 tagg30 rfl rfl rfl (.tmp rfl (.nil))) ⟨⟨_, rfl, .refl _⟩, ⟨⟨_, rfl, .refl _⟩, ⟨⟨_, rfl, .refl _⟩, trivial⟩⟩⟩ (by decide) ⟨nilV, nilV, rfl, rfl⟩
        ·replace h := ifF h (dF hc7)
         refine good_skip ?_
         refine hK17 _ (kp 107 [0, 4, 5] [0, 14] ?_)
         refine good_seq fun K22 hK22 => ?_
         obtain ⟨y10, hy10, h⟩ := bnd h
         refine good_anyM (by kernel_rfl) [⟨[], [0], [], [], [], []⟩, ⟨[0], [88], [], [], [], []⟩, ⟨[0, 1], [89], [], [], [], []⟩, ⟨[0, 1, 2], [90], [0], [], [], []⟩, ⟨[], [0], [], [], [], []⟩, ⟨[4], [92], [], [], [], []⟩, ⟨[4, 5], [93], [], [], [], []⟩, ⟨[4, 5, 6], [94], [0], [], [], []⟩, ⟨[0, 1, 2, 3, 4, 5, 6, 7], [91, 95], [], [], [], []⟩, ⟨[0, 1, 2, 3, 4, 5, 6, 7, 8], [96], [], [], [], []⟩, ⟨[0, 1, 2, 3, 4, 5, 6, 7, 8, 9], [87], [], [], [], []⟩, ⟨[0, 1, 2, 3, 4, 5, 6, 7, 8, 9], [87], [], [], [], []⟩, ⟨[0, 1, 2, 3, 4, 5, 6, 7, 8, 9], [87], [], [], [], []⟩, ⟨[0, 1, 2, 3, 4, 5, 6, 7, 8, 9, 10], [97], [], [], [], []⟩, ⟨[0, 1, 2, 3, 4, 5, 6, 7, 8, 9, 10, 11, 13], [98], [], [], [], []⟩, ⟨[0, 1, 2, 3, 4, 5, 6, 7, 8, 9, 10, 11, 12, 13, 14], [99], [], [], [], []⟩] [some 88, some 89, some 90, some 91, some 92, some 93, some 94, some 95, some 96, some 87, some 97, some 98, some 99, some 9, some 10, some 11] 107 [(0, .ptr 0 b0_0 0), (4, .ptr 14 b1 0), (5, .bool false)] [(0, ((.pointer (some ⟨b0_0, 0, none⟩)), .optr 78 [.str y7.2.text, .int .i64 y7.2.at_])), (14, ((.pointer (some ⟨b1, 0, none⟩)), .optr 30 [.int .i64 0, .int .i64 0, .str ([] : Bs), .nil, .nil]))] (fun ν2 => [.ptr 0 b0_0 0, .ptr 0 b0_0 0, .ptr 0 b0_0 0, .str y7.2.text, .ptr 0 b0_0 0, .ptr 0 b0_0 0, .ptr 0 b0_0 1, .int .i64 y7.2.at_, .tup [.int .i64 y10.1, .int .i64 y10.2.1, .bool y10.2.2], .tup [.int .i64 y10.1, .int .i64 y10.2.1, .bool y10.2.2], .int .i64 y10.1, .int .i64 y10.2.1, .bool y10.2.2, .int .i64 y10.1, .int .i64 y10.2.1, .bool y10.2.2]) (fun ν2 => []) [(0, []), (14, [])] [] [some 0, some 14] (fun ν2 => [(0, .ptr 0 b0_0 0), (4, .ptr 14 b1 0), (5, .bool false), (9, .int .i64 y10.1), (10, .int .i64 y10.2.1), (11, .bool y10.2.2)]) (fun ν2 => [(0, ((.pointer (some ⟨b0_0, 0, none⟩)), .optr 78 [.str y7.2.text, .int .i64 y7.2.at_])), (14, ((.pointer (some ⟨b1, 0, none⟩)), .optr 30 [.int .i64 0, .int .i64 0, .str ([] : Bs), .nil, .nil]))]) (lw [some 0, some 14]) (by kernel_rfl) ⟨?_, ⟨?_, ⟨?_, ⟨?_, ⟨?_, ⟨?_, ⟨?_, ⟨?_, ⟨?_, ⟨?_, ⟨?_, ⟨?_, ⟨?_, ⟨?_, ⟨?_, ⟨?_, trivial⟩⟩⟩⟩⟩⟩⟩⟩⟩⟩⟩⟩⟩⟩⟩⟩ ⟨fun _ _ _ => rfl, ⟨fun _ _ _ => rfl, ⟨fun _ _ _ => rfl, ⟨fun _ _ _ => rfl, ⟨fun _ _ _ => rfl, ⟨fun _ _ _ => rfl, ⟨fun _ _ _ => rfl, ⟨fun _ _ _ => rfl, ⟨fun _ _ _ => rfl, ⟨fun _ _ _ => rfl, ⟨fun _ _ _ => rfl, ⟨fun _ _ _ => rfl, ⟨fun _ _ _ => rfl, ⟨fun _ _ _ => rfl, ⟨fun _ _ _ => rfl, ⟨fun _ _ _ => rfl, trivial⟩⟩⟩⟩⟩⟩⟩⟩⟩⟩⟩⟩⟩⟩⟩⟩ ⟨fun _ _ _ => rfl, ⟨fun _ _ _ => rfl, trivial⟩⟩ (fun _ => rfl) (fun _ => rfl) (by kernel_rfl) (fun _ => ⟨⟨_, rfl, .refl _⟩, ⟨⟨_, rfl, .refl _⟩, ⟨⟨_, rfl, .refl _⟩, ⟨⟨_, rfl, .refl _⟩, ⟨⟨_, rfl, .refl _⟩, ⟨⟨_, rfl, .refl _⟩, trivial⟩⟩⟩⟩⟩⟩) (fun _ => ⟨⟨_, rfl, .refl _⟩, ⟨⟨_, rfl, .refl _⟩, trivial⟩⟩) (by kernel_rfl) (by decide) ?_
         ·refine local_mk (fun ν2 => [(0, .ptr 0 b0_0 0)]) (fun ν2 => []) (fun _ => rfl) (fun _ => ⟨⟨_, rfl, .refl _, .refl _⟩, trivial⟩) (fun _ => rfl) (fun _ => trivial) ?_
          intro ν2 S H hS hfr
          refine st_op rfl (ValOk.op (v_move rfl rfl ?_))
          exact lp_v hS rfl rfl (fun _ => rfl)
         ·refine local_mk (fun ν2 => [(88, .ptr 0 b0_0 0)]) (fun ν2 => []) (fun _ => rfl) (fun _ => ⟨⟨_, rfl, .refl _, .refl _⟩, trivial⟩) (fun _ => rfl) (fun _ => trivial) ?_
          intro ν2 S H hS hfr
          refine st_op rfl (ValOk.op (v_nilP rfl rfl ?_))
          exact lp_v hS rfl rfl (fun _ => rfl)
         ·refine local_mk (fun ν2 => [(89, .ptr 0 b0_0 0)]) (fun ν2 => []) (fun _ => rfl) (fun _ => ⟨⟨_, rfl, .refl _, .refl _⟩, trivial⟩) (fun _ => rfl) (fun _ => trivial) ?_
          intro ν2 S H hS hfr
          refine st_op rfl (ValOk.op (v_fieldP tabOk rfl tfoff78_0 rfl ?_))
          exact lp_v hS rfl rfl (fun _ => rfl)
         ·refine local_mk (fun ν2 => [(90, .ptr 0 b0_0 0)]) (fun ν2 => [(0, ((.pointer (some ⟨b0_0, 0, none⟩)), .optr 78 [.str y7.2.text, .int .i64 y7.2.at_]))]) (fun _ => rfl) (fun _ => ⟨⟨_, rfl, .refl _, .refl _⟩, trivial⟩) (fun _ => rfl) (fun _ => ⟨rfl, trivial⟩) ?_
          intro ν2 S H hS hfr
          refine st_op rfl (ValOk.op (v_loadP tabOk rfl rfl tsize9 tagg9 rfl rfl rfl rfl ?_))
          exact lp_v hS rfl rfl (fun _ => rfl)
         ·refine local_mk (fun ν2 => [(0, .ptr 0 b0_0 0)]) (fun ν2 => []) (fun _ => rfl) (fun _ => ⟨⟨_, rfl, .refl _, .refl _⟩, trivial⟩) (fun _ => rfl) (fun _ => trivial) ?_
          intro ν2 S H hS hfr
          refine st_op rfl (ValOk.op (v_move rfl rfl ?_))
          exact lp_v hS rfl rfl (fun _ => rfl)
         ·refine local_mk (fun ν2 => [(92, .ptr 0 b0_0 0)]) (fun ν2 => []) (fun _ => rfl) (fun _ => ⟨⟨_, rfl, .refl _, .refl _⟩, trivial⟩) (fun _ => rfl) (fun _ => trivial) ?_
          intro ν2 S H hS hfr
          refine st_op rfl (ValOk.op (v_nilP rfl rfl ?_))
          exact lp_v hS rfl rfl (fun _ => rfl)
         ·refine local_mk (fun ν2 => [(93, .ptr 0 b0_0 0)]) (fun ν2 => []) (fun _ => rfl) (fun _ => ⟨⟨_, rfl, .refl _, .refl _⟩, trivial⟩) (fun _ => rfl) (fun _ => trivial) ?_
          intro ν2 S H hS hfr
          refine st_op rfl (ValOk.op (v_fieldP tabOk rfl tfoff78_1 rfl ?_))
          exact lp_v hS rfl rfl (fun _ => rfl)
         ·refine local_mk (fun ν2 => [(94, .ptr 0 b0_0 1)]) (fun ν2 => [(0, ((.pointer (some ⟨b0_0, 0, none⟩)), .optr 78 [.str y7.2.text, .int .i64 y7.2.at_]))]) (fun _ => rfl) (fun _ => ⟨⟨_, rfl, .refl _, .refl _⟩, trivial⟩) (fun _ => rfl) (fun _ => ⟨rfl, trivial⟩) ?_
          intro ν2 S H hS hfr
          refine st_op rfl (ValOk.op (v_loadP tabOk rfl rfl tsize3 tagg3 rfl rfl rfl rfl ?_))
          exact lp_v hS rfl rfl (fun _ => rfl)
         ·refine local_mk (fun ν2 => [(91, .str y7.2.text), (95, .int .i64 y7.2.at_)]) (fun ν2 => []) (fun _ => rfl) (fun _ => ⟨⟨_, rfl, .refl _, .refl _⟩, ⟨⟨_, rfl, .refl _, .refl _⟩, trivial⟩⟩) (fun _ => rfl) (fun _ => trivial) ?_
          intro ν2 S H hS hfr
          refine st_op rfl (o_callR [] [] (core_value rfl rfl) (m_impl_numAt_ok k y7.2.text y7.2.at_ _ hy10) trivial (.cons (.refl _) (.cons (.refl _) (.nil))) (.inl rfl) rfl ?_)
          exact lp_v hS rfl rfl (fun _ => rfl)
         ·refine local_mk (fun ν2 => [(96, .tup [.int .i64 y10.1, .int .i64 y10.2.1, .bool y10.2.2])]) (fun ν2 => []) (fun _ => rfl) (fun _ => ⟨⟨_, rfl, .refl _, .refl _⟩, trivial⟩) (fun _ => rfl) (fun _ => trivial) ?_
          intro ν2 S H hS hfr
          refine st_op rfl (ValOk.op (v_move rfl rfl ?_))
          exact lp_v hS rfl rfl (fun _ => rfl)
         ·refine local_mk (fun ν2 => [(87, .tup [.int .i64 y10.1, .int .i64 y10.2.1, .bool y10.2.2])]) (fun ν2 => []) (fun _ => rfl) (fun _ => ⟨⟨_, rfl, .refl _, .refl _⟩, trivial⟩) (fun _ => rfl) (fun _ => trivial) ?_
          intro ν2 S H hS hfr
          refine st_op rfl (ValOk.op (v_extract rfl rfl rfl ?_))
          exact lp_v hS rfl rfl (fun _ => rfl)
         ·refine local_mk (fun ν2 => [(87, .tup [.int .i64 y10.1, .int .i64 y10.2.1, .bool y10.2.2])]) (fun ν2 => []) (fun _ => rfl) (fun _ => ⟨⟨_, rfl, .refl _, .refl _⟩, trivial⟩) (fun _ => rfl) (fun _ => trivial) ?_
          intro ν2 S H hS hfr
          refine st_op rfl (ValOk.op (v_extract rfl rfl rfl ?_))
          exact lp_v hS rfl rfl (fun _ => rfl)
         ·refine local_mk (fun ν2 => [(87, .tup [.int .i64 y10.1, .int .i64 y10.2.1, .bool y10.2.2])]) (fun ν2 => []) (fun _ => rfl) (fun _ => ⟨⟨_, rfl, .refl _, .refl _⟩, trivial⟩) (fun _ => rfl) (fun _ => trivial) ?_
          intro ν2 S H hS hfr
          refine st_op rfl (ValOk.op (v_extract rfl rfl rfl ?_))
          exact lp_v hS rfl rfl (fun _ => rfl)
         ·refine local_mk (fun ν2 => [(97, .int .i64 y10.1)]) (fun ν2 => []) (fun _ => rfl) (fun _ => ⟨⟨_, rfl, .refl _, .refl _⟩, trivial⟩) (fun _ => rfl) (fun _ => trivial) ?_
          intro ν2 S H hS hfr
          refine st_op rfl (ValOk.op (v_assign rfl rfl ?_))
          exact lp_v hS rfl rfl (fun _ => rfl)
         ·refine local_mk (fun ν2 => [(98, .int .i64 y10.2.1)]) (fun ν2 => []) (fun _ => rfl) (fun _ => ⟨⟨_, rfl, .refl _, .refl _⟩, trivial⟩) (fun _ => rfl) (fun _ => trivial) ?_
          intro ν2 S H hS hfr
          refine st_op rfl (ValOk.op (v_assign rfl rfl ?_))
          exact lp_v hS rfl rfl (fun _ => rfl)
         ·refine local_mk (fun ν2 => [(99, .bool y10.2.2)]) (fun ν2 => []) (fun _ => rfl) (fun _ => ⟨⟨_, rfl, .refl _, .refl _⟩, trivial⟩) (fun _ => rfl) (fun _ => trivial) ?_
          intro ν2 S H hS hfr
          refine st_op rfl (ValOk.op (v_assign rfl rfl ?_))
          exact lp_v hS rfl rfl (fun _ => rfl)
         intro ν2
         refine hK22 _ ?_
         refine good_seq fun K23 hK23 => ?_
         refine rg 2 ?_
         refine g_op rfl (ValOk.op (v_nilP rfl rfl ?_))
         refine gs 1 ?_
         refine g_op rfl (o_storeP tabOk (cs' := [.str y7.2.text, .int .i64 y10.2.1]) rfl rfl tsize3 rfl rfl rfl (Nat.le_of_ble_eq_true rfl) rfl rfl rfl ?_)
         refine gk hK23 107 [4, 5, 9, 11] [14, 0] ?_
         refine good_seq fun K24 hK24 => ?_
         refine rg 1 ?_
         refine g_op rfl (ValOk.op (v_build tabOk (cs := [.int .i64 2, .int .i64 y10.1, .str ([] : Bs), .nil, .nil]) tzero30 tsok30 rfl rfl rfl ?_))
         refine gs 1 ?_
         refine g_op rfl (o_storeP tabOk (cs' := [.int .i64 2, .int .i64 y10.1, .str ([] : Bs), .nil, .nil]) rfl rfl tsize30 rfl rfl rfl (Nat.le_of_ble_eq_true rfl) rfl rfl rfl ?_)
         refine gs 1 ?_
         refine gk hK24 107 [4, 5] [14, 0] ?_
         refine Good.le (σ' := ⟨107, [(4, .ptr 14 b1 0), (5, .bool y10.2.2)], [(100, (nilV, .osl 30 5 (([] : List Val).map encOVal))), (101, (nilV, .osl 9 1 (([] : List Bs).map encS))), (14, ((.pointer (some ⟨b1, 0, none⟩)), .optr 30 [.int .i64 2, .int .i64 y10.1, .str ([] : Bs), .hd 100 nilV, .hd 101 nilV])), (0, ((.pointer (some ⟨b0_0, 0, none⟩)), .optr 78 [.str y7.2.text, .int .i64 y10.2.1]))]⟩) (lw [none, none, some 14, some 0]) ?_
         refine good_ret ?_
         obtain rfl := Option.some.inj h
         exact endQ_ret (h' := [(0, (_, _)), (100, (_, _)), (101, (_, _))]) [some 0, some 100, some 101] (.cell rfl rfl tsize30 tagg30 rfl rfl rfl (.tmp rfl (.nil))) ⟨⟨_, rfl, .refl _⟩, ⟨⟨_, rfl, .refl _⟩, ⟨⟨_, rfl, .refl _⟩, trivial⟩⟩⟩ (by decide) ⟨nilV, nilV, rfl, rfl⟩
 replace h := ho1
 refine good_draw (by kernel_rfl) (by kernel_rfl) ?_
 refine q_op rfl (v_move rfl rfl ?_)
 refine q_op rfl (v_bin rfl rfl rfl rfl ?_)
 refine q_op rfl (v_move rfl rfl ?_)
 rcases bsplit ((decide (a1 < 1))) with hg1 | hg1
 ·replace h := ifT h (dT hg1)
  refine q_no rfl rfl hg1 rfl ?_
  refine q_no rfl rfl hg1 rfl ?_
  refine q_no rfl rfl hg1 rfl ?_
  refine q_no rfl rfl hg1 rfl ?_
  refine q_no rfl rfl hg1 rfl ?_
  refine q_no rfl rfl hg1 rfl ?_
  refine q_no rfl rfl hg1 rfl ?_
  refine q_no rfl rfl hg1 rfl ?_
  refine q_no rfl rfl hg1 rfl ?_
  refine q_no rfl rfl hg1 rfl ?_
  refine q_op rfl (v_pickT rfl hg1 rfl rfl ?_)
  refine q_nil ?_
  exact hw1 true (Option.some.inj h).symm _ (lw [some 0, some 14])
 ·replace h := ifF h (dF hg1)
  refine q_yes rfl rfl hg1 (v_move rfl rfl ?_)
  refine q_yes rfl rfl hg1 (v_nilP rfl rfl ?_)
  refine q_yes rfl rfl hg1 (v_fieldP tabOk rfl tfoff78_1 rfl ?_)
  refine q_yes rfl rfl hg1 (v_loadP tabOk rfl rfl tsize3 tagg3 rfl rfl rfl rfl ?_)
  refine q_yes rfl rfl hg1 (v_move rfl rfl ?_)
  refine q_yes rfl rfl hg1 (v_nilP rfl rfl ?_)
  refine q_yes rfl rfl hg1 (v_fieldP tabOk rfl tfoff78_0 rfl ?_)
  refine q_yes rfl rfl hg1 (v_loadP tabOk rfl rfl tsize9 tagg9 rfl rfl rfl rfl ?_)
  refine q_yes rfl rfl hg1 (v_lenS tabOk rfl rfl tkind9 rfl ?_)
  refine q_yes rfl rfl hg1 (v_bin rfl rfl rfl rfl ?_)
  refine q_op rfl (v_pickF rfl hg1 rfl rfl ?_)
  refine q_nil ?_
  exact hw1 (decide ((y1.text.length : Int) ≤ y1.at_)) (Option.some.inj h).symm _ (lw [some 0, some 14])
theorem m_impl_jsonReader_list_step (k : Nat) (ih : ∀ m, m < k → P_m_impl_jsonReader_value m ∧ P_m_impl_jsonReader_list m ∧ P_m_impl_jsonReader_tree m) : P_m_impl_jsonReader_list k := by
 intro a0 a1 b0_0 r h
 obtain ⟨k, rfl⟩ : ∃ k', k = k' + 1 := by cases k with | zero => (rw [m_impl_jsonReader_list] at h; cases h) | succ k' => exact ⟨k', rfl⟩
 rw [m_impl_jsonReader_list] at h
 refine does_of_good tabOk Try.func94 rfl (by decide +kernel) (Nat.le_of_ble_eq_true rfl) fun c => ?_
 refine Good.le (σ' := ⟨36, [(0, .ptr 0 b0_0 0), (1, .int .i64 a1)], [(0, ((.pointer (some ⟨b0_0, 0, none⟩)), .optr 78 [.str a0.text, .int .i64 a0.at_]))]⟩) (Le.refl _) ?_
 refine good_seq fun K1 hK1 => ?_
 refine good_region ?_
 refine g_op rfl (o_alloc (k := 14) tabOk tzero30 rfl rfl ?_)
 intro b1
 refine gs 1 ?_
 refine g_nil (hK1 _ ?_)
 refine good_seq fun K2 hK2 => ?_
 refine good_region ?_
 refine g_op rfl (ValOk.op (v_build tabOk (cs := [.int .i64 4, .int .i64 0, .str ([] : Bs), .nil, .nil]) tzero30 tsok30 rfl rfl rfl ?_))
 refine g_op rfl (o_alloc (k := 16) tabOk tzero30 rfl rfl ?_)
 intro b2
 refine g_op rfl (o_storeP tabOk (cs' := [.int .i64 4, .int .i64 0, .str ([] : Bs), .nil, .nil]) rfl rfl tsize30 rfl rfl rfl (Nat.le_of_ble_eq_true rfl) rfl rfl rfl ?_)
 refine gk hK2 36 [0, 1, 4, 5, 6] [0, 14, 16] ?_
 refine good_seq fun K3 hK3 => ?_
 refine good_seq fun K4 hK4 => ?_
 refine rg 1 ?_
 obtain ⟨y1, hy1, h⟩ := bnd h
 refine g_op rfl (o_callP (q := 0) (core_value rfl rfl) (m_impl_jsonReader_sign_ok k a0 93 b0_0 _ hy1) (.cons (.ptr _ _ _ _) (.cons (.refl _) (.nil))) rfl rfl ?_)
 refine gk hK4 36 [0, 1, 4, 5, 6, 11] [0, 14, 16] ?_
 refine good_cond rfl (fun hc1 => ?_) (fun hc1 => ?_)
 ·replace h := ifT h hc1
  refine good_seq fun K5 hK5 => ?_
  refine rg 1 ?_
  refine g_op rfl (o_storeP tabOk (cs' := [.int .i64 4, .int .i64 0, .str ([] : Bs), .nil, .nil]) rfl rfl tsize30 rfl rfl rfl (Nat.le_of_ble_eq_true rfl) rfl rfl rfl ?_)
  refine gs 1 ?_
  refine gk hK5 36 [0, 1, 4, 5, 6] [0, 14, 16] ?_
  refine Good.le (σ' := ⟨36, [(4, .ptr 14 b1 0), (5, .bool true)], [(100, (nilV, .osl 30 5 (([] : List Val).map encOVal))), (101, (nilV, .osl 9 1 (([] : List Bs).map encS))), (14, ((.pointer (some ⟨b1, 0, none⟩)), .optr 30 [.int .i64 4, .int .i64 0, .str ([] : Bs), .hd 100 nilV, .hd 101 nilV])), (0, ((.pointer (some ⟨b0_0, 0, none⟩)), .optr 78 [.str y1.2.text, .int .i64 y1.2.at_]))]⟩) (lw [none, none, some 14, some 0]) ?_
  refine good_ret ?_
  obtain rfl := Option.some.inj h
  refine thenQ_ret ?_
  exact endQ_ret (h' := [(0, (_, _)), (100, (_, _)), (101, (_, _))]) [some 0, some 100, some 101] (.cell rfl rfl tsize30 tagg30 rfl rfl rfl (.tmp rfl (.nil))) ⟨⟨_, rfl, .refl _⟩, ⟨⟨_, rfl, .refl _⟩, ⟨⟨_, rfl, .refl _⟩, trivial⟩⟩⟩ (by decide) ⟨nilV, nilV, rfl, rfl⟩
 ·replace h := bF h hc1
  refine good_skip ?_
  refine hK3 _ (kp 36 [0, 1, 4, 5, 6] [0, 14, 16] ?_)
  refine good_namedL fun K6 hK6 => ?_
  obtain ⟨o1, ho1, hJ1⟩ := bnd h
  replace h := ho1
  refine good_block ?_
  refine good_loopf (fun p : (Bs × Int × (List Val) × Value) => ⟨36, [(0, .ptr 0 b0_0 0), (1, .int .i64 a1), (4, .ptr 14 b1 0), (5, .bool false), (6, .ptr 16 b2 0)], [(0, ((.pointer (some ⟨b0_0, 0, none⟩)), .optr 78 [.str p.1, .int .i64 p.2.1])), (14, ((.pointer (some ⟨b1, 0, none⟩)), .optr 30 [.int .i64 0, .int .i64 0, .str ([] : Bs), .nil, .nil])), (16, ((.pointer (some ⟨b2, 0, none⟩)), .optr 30 [.int .i64 4, .int .i64 0, .str ([] : Bs), .hd 5605 p.2.2.2, .nil])), (5605, (p.2.2.2, .osl 30 5 (p.2.2.1.map encOVal)))]⟩) (fun m p => m < k + 1 ∧ m_impl_jsonReader_list_l1 m a1 p.1 p.2.1 p.2.2.1 = some o1) k (y1.2.text, y1.2.at_, [], nilV) (lw [some 0, some 14, some 16, none]) ⟨by omega, h⟩ ?_
  rintro m1 ⟨x1, x2, x3, w1⟩ ⟨hm, h⟩
  replace h : m_impl_jsonReader_list_l1 m1 a1 x1 x2 x3 = some o1 := h
  refine Good.le (σ' := ⟨36, [(0, .ptr 0 b0_0 0), (1, .int .i64 a1), (4, .ptr 14 b1 0), (5, .bool false), (6, .ptr 16 b2 0)], [(0, ((.pointer (some ⟨b0_0, 0, none⟩)), .optr 78 [.str x1, .int .i64 x2])), (14, ((.pointer (some ⟨b1, 0, none⟩)), .optr 30 [.int .i64 0, .int .i64 0, .str ([] : Bs), .nil, .nil])), (16, ((.pointer (some ⟨b2, 0, none⟩)), .optr 30 [.int .i64 4, .int .i64 0, .str ([] : Bs), .hd 5605 w1, .nil])), (5605, (w1, .osl 30 5 (x3.map encOVal)))]⟩) (Le.refl _) ?_
  obtain ⟨m1, rfl⟩ : ∃ m', m1 = m' + 1 := by cases m1 with | zero => (rw [m_impl_jsonReader_list_l1] at h; cases h) | succ m' => exact ⟨m', rfl⟩
  rw [m_impl_jsonReader_list_l1] at h
  refine good_block ?_
  refine good_seq fun K7 hK7 => ?_
  refine rg 3 ?_
  obtain ⟨y2, hy2, h⟩ := bnd h
  refine g_op rfl (o_callD [] [] [0] (core_value rfl rfl) ((ih m1 (by omega)).1 (GJsonReader.mk x1 x2) (IntKind.wrap .i64 (a1 - 1)) b0_0 _ hy2) trivial (.cons (.ptr _ _ _ _) (.cons (.refl _) (.nil))) ⟨rfl, trivial⟩ rfl rfl rfl ?_)
  rintro _ _ ⟨w2, w3, rfl, rfl⟩
  refine ⟨.tup [.agg [.int .i64 y2.1.kind, .int .i64 y2.1.num, .str y2.1.text, .hd 3003 w2, .hd 3004 w3], .bool y2.2.1], [(0, _), (3003, _), (3004, _)], .tup (.cons (.agg (.cons (.refl _) (.cons (.refl _) (.cons (.refl _) (.cons (.hd _ _ _) (.cons (.hd _ _ _) (.nil))))))) (.cons (.refl _) (.nil))), rfl, rfl, rfl, rfl, .inl rfl, ?_⟩
  refine gs 3 ?_
  refine g_op rfl (o_alloc (k := 17) tabOk tzero30 rfl rfl ?_)
  intro b3
  refine g_op rfl (o_storeP tabOk (cs' := [.int .i64 y2.1.kind, .int .i64 y2.1.num, .str y2.1.text, .hd 3003 w2, .hd 3004 w3]) rfl rfl tsize30 rfl rfl rfl (Nat.le_of_ble_eq_true rfl) rfl rfl rfl ?_)
  refine gs 1 ?_
  refine gk hK7 36 [0, 1, 4, 5, 6, 7, 8] [0, 14, 16, 5605, 17, 3003, 3004] ?_
  refine good_seq fun K8 hK8 => ?_
  refine good_seq fun K9 hK9 => ?_
  refine rg 2 ?_
  refine gk hK9 36 [0, 1, 4, 5, 6, 7, 21] [0, 14, 16, 5605, 17, 3003, 3004] ?_
  refine good_cond rfl (fun hc2 => ?_) (fun hc2 => ?_)
  ·replace h := bF h (nT hc2)
   refine good_seq fun K10 hK10 => ?_
   refine good_region ?_
   refine g_op rfl (ValOk.op (v_build tabOk (cs := [.int .i64 0, .int .i64 0, .str ([] : Bs), .nil, .nil]) tzero30 tsok30 rfl rfl rfl ?_))
   refine g_op rfl (o_storeP tabOk (cs' := [.int .i64 0, .int .i64 0, .str ([] : Bs), .nil, .nil]) rfl rfl tsize30 rfl rfl rfl (Nat.le_of_ble_eq_true rfl) rfl rfl rfl ?_)
   refine gs 1 ?_
   refine gk hK10 36 [0, 1, 4, 5, 6, 7] [0, 14, 16, 5605, 17, 3003, 3004] ?_
   refine Good.le (σ' := ⟨36, [(4, .ptr 14 b1 0), (5, .bool false)], [(100, (nilV, .osl 30 5 (([] : List Val).map encOVal))), (101, (nilV, .osl 9 1 (([] : List Bs).map encS))), (14, ((.pointer (some ⟨b1, 0, none⟩)), .optr 30 [.int .i64 0, .int .i64 0, .str ([] : Bs), .hd 100 nilV, .hd 101 nilV])), (0, ((.pointer (some ⟨b0_0, 0, none⟩)), .optr 78 [.str y2.2.2.text, .int .i64 y2.2.2.at_]))]⟩) (lw [none, none, some 14, some 0]) ?_
   refine good_ret ?_
   replace h := unret h hJ1
   obtain rfl := Option.some.inj h
   refine thenQ_ret ?_
   refine blockQ_ret ?_
   refine thenQ_ret ?_
   refine blockQ_ret ?_
   refine thenQ_ret ?_
   exact endQ_ret (h' := [(0, (_, _)), (100, (_, _)), (101, (_, _))]) [some 0, some 100, some 101] (.cell rfl rfl tsize30 tagg30 rfl rfl rfl (.tmp rfl (.nil))) ⟨⟨_, rfl, .refl _⟩, ⟨⟨_, rfl, .refl _⟩, ⟨⟨_, rfl, .refl _⟩, trivial⟩⟩⟩ (by decide) ⟨nilV, nilV, rfl, rfl⟩
  ·replace h := ifT h (nF hc2)
   refine good_skip ?_
   refine hK8 _ (kp 36 [0, 1, 4, 5, 6, 7] [0, 14, 16, 5605, 17, 3003, 3004] ?_)
   refine good_seq fun K11 hK11 => ?_
   refine rg 3 ?_
   refine g_op rfl (OpOk.le (o_buildSlice (k := 36) (rows := [[.int .i64 y2.1.kind, .int .i64 y2.1.num, .str y2.1.text, .hd 3003 w2, .hd 3004 w3]]) tabOk telem28 tsize30 rfl rfl rfl rfl (by decide) (by decide) (by rw [tzero30]; rfl) rfl rfl rfl rfl rfl ?_))
   intro w4
   refine ⟨_, (Le.trans (Le.trans (le_absorb1 (k := 36) (k2 := 3003) 0 3 _ rfl (by decide) rfl rfl rfl) (le_absorb1 (k := 36) (k2 := 3004) (rows' := [y2.1].map encOVal) 0 4 _ rfl (by decide) rfl rfl (cons_eq (encOVal_eq _) rfl))) (le_mm (rs := [3003, 3004]) rfl)), ?_⟩
   obtain ⟨hb1, h⟩ := ifS h
   refine g_op rfl (o_appendHM (q := 5605) (r := 36) (k := 37) (f := encOVal) tabOk ⟨_, rfl⟩ rfl ⟨_, rfl⟩ rfl rfl telem28 tsize30 tbytes30 tzero30 rfl (by decide) (by decide) encOVal_ok rfl rfl rfl hb1 ?_)
   intro w5
   refine gs 1 ?_
   refine g_op rfl (o_storeP tabOk (cs' := [.int .i64 4, .int .i64 0, .str ([] : Bs), .hd 37 w5, .nil]) rfl rfl tsize28 rfl rfl rfl (Nat.le_of_ble_eq_true rfl) rfl rfl rfl ?_)
   refine gk hK11 36 [0, 1, 4, 5, 6] [0, 14, 16, 37] ?_
   refine good_seq fun K12 hK12 => ?_
   refine good_seq fun K13 hK13 => ?_
   refine rg 1 ?_
   obtain ⟨y3, hy3, h⟩ := bnd h
   refine g_op rfl (o_callP (q := 0) (core_value rfl rfl) (m_impl_jsonReader_sign_ok m1 y2.2.2 93 b0_0 _ hy3) (.cons (.ptr _ _ _ _) (.cons (.refl _) (.nil))) rfl rfl ?_)
   refine gk hK13 36 [0, 1, 4, 5, 6, 30] [0, 14, 16, 37] ?_
   refine good_cond rfl (fun hc3 => ?_) (fun hc3 => ?_)
   ·replace h := ifT h hc3
    refine good_seq fun K14 hK14 => ?_
    refine rg 1 ?_
    refine g_op rfl (o_storeP tabOk (cs' := [.int .i64 4, .int .i64 0, .str ([] : Bs), .hd 37 w5, .nil]) rfl rfl tsize30 rfl rfl rfl (Nat.le_of_ble_eq_true rfl) rfl rfl rfl ?_)
    refine gs 1 ?_
    refine gk hK14 36 [0, 1, 4, 5, 6] [0, 14, 37, 16] ?_
    refine Good.le (σ' := ⟨36, [(4, .ptr 14 b1 0), (5, .bool true)], [(100, (w5, .osl 30 5 ((x3 ++ [y2.1]).map encOVal))), (101, (nilV, .osl 9 1 (([] : List Bs).map encS))), (14, ((.pointer (some ⟨b1, 0, none⟩)), .optr 30 [.int .i64 4, .int .i64 0, .str ([] : Bs), .hd 100 w5, .hd 101 nilV])), (0, ((.pointer (some ⟨b0_0, 0, none⟩)), .optr 78 [.str y3.2.text, .int .i64 y3.2.at_]))]⟩) (lw [some 37, none, some 14, some 0]) ?_
    refine good_ret ?_
    replace h := unret h hJ1
    obtain rfl := Option.some.inj h
    refine thenQ_ret ?_
    refine blockQ_ret ?_
    refine thenQ_ret ?_
    refine blockQ_ret ?_
    refine thenQ_ret ?_
    exact endQ_ret (h' := [(0, (_, _)), (100, (_, _)), (101, (_, _))]) [some 0, some 100, some 101] (.cell rfl rfl tsize30 tagg30 rfl rfl rfl (.tmp rfl (.nil))) ⟨⟨_, rfl, .refl _⟩, ⟨⟨_, rfl, .refl _⟩, ⟨⟨_, rfl, .refl _⟩, trivial⟩⟩⟩ (by decide) ⟨w5, nilV, rfl, rfl⟩
   ·replace h := bF h hc3
    refine good_skip ?_
    refine hK12 _ (kp 36 [0, 1, 4, 5, 6] [0, 14, 16, 37] ?_)
    refine good_seq fun K15 hK15 => ?_
    refine rg 1 ?_
    obtain ⟨y4, hy4, h⟩ := bnd h
    refine g_op rfl (o_callP (q := 0) (core_value rfl rfl) (m_impl_jsonReader_sign_ok m1 y3.2 44 b0_0 _ hy4) (.cons (.ptr _ _ _ _) (.cons (.refl _) (.nil))) rfl rfl ?_)
    refine gs 1 ?_
    refine gk hK15 36 [0, 1, 4, 5, 6, 34] [0, 14, 16, 37] ?_
    refine good_cond rfl (fun hc4 => ?_) (fun hc4 => ?_)
    ·replace h := bF h (nT hc4)
     refine good_seq fun K16 hK16 => ?_
     refine good_region ?_
     refine g_op rfl (ValOk.op (v_build tabOk (cs := [.int .i64 0, .int .i64 0, .str ([] : Bs), .nil, .nil]) tzero30 tsok30 rfl rfl rfl ?_))
     refine g_op rfl (o_storeP tabOk (cs' := [.int .i64 0, .int .i64 0, .str ([] : Bs), .nil, .nil]) rfl rfl tsize30 rfl rfl rfl (Nat.le_of_ble_eq_true rfl) rfl rfl rfl ?_)
     refine gs 1 ?_
     refine gk hK16 36 [0, 1, 4, 5, 6] [0, 14, 16, 37] ?_
     refine Good.le (σ' := ⟨36, [(4, .ptr 14 b1 0), (5, .bool false)], [(100, (nilV, .osl 30 5 (([] : List Val).map encOVal))), (101, (nilV, .osl 9 1 (([] : List Bs).map encS))), (14, ((.pointer (some ⟨b1, 0, none⟩)), .optr 30 [.int .i64 0, .int .i64 0, .str ([] : Bs), .hd 100 nilV, .hd 101 nilV])), (0, ((.pointer (some ⟨b0_0, 0, none⟩)), .optr 78 [.str y4.2.text, .int .i64 y4.2.at_]))]⟩) (lw [none, none, some 14, some 0]) ?_
     refine good_ret ?_
     replace h := unret h hJ1
     obtain rfl := Option.some.inj h
     refine blockQ_ret ?_
     refine thenQ_ret ?_
     refine blockQ_ret ?_
     refine thenQ_ret ?_
     exact endQ_ret (h' := [(0, (_, _)), (100, (_, _)), (101, (_, _))]) [some 0, some 100, some 101] (.cell rfl rfl tsize30 tagg30 rfl rfl rfl (.tmp rfl (.nil))) ⟨⟨_, rfl, .refl _⟩, ⟨⟨_, rfl, .refl _⟩, ⟨⟨_, rfl, .refl _⟩, trivial⟩⟩⟩ (by decide) ⟨nilV, nilV, rfl, rfl⟩
    ·replace h := ifT h (nF hc4)
     refine good_skip ?_
     exact round_mk m1 (y4.2.text, y4.2.at_, x3 ++ [y2.1], w5) (Nat.lt_succ_self _) ⟨by omega, h⟩ (lw [some 0, some 14, some 16, some 37])
theorem m_impl_jsonReader_tree_step (k : Nat) (ih : ∀ m, m < k → P_m_impl_jsonReader_value m ∧ P_m_impl_jsonReader_list m ∧ P_m_impl_jsonReader_tree m) : P_m_impl_jsonReader_tree k := by
 intro a0 a1 b0_0 r h
 obtain ⟨k, rfl⟩ : ∃ k', k = k' + 1 := by cases k with | zero => (rw [m_impl_jsonReader_tree] at h; cases h) | succ k' => exact ⟨k', rfl⟩
 rw [m_impl_jsonReader_tree] at h
 refine does_of_good tabOk Try.func95 rfl (by decide +kernel) (Nat.le_of_ble_eq_true rfl) fun c => ?_
 refine Good.le (σ' := ⟨71, [(0, .ptr 0 b0_0 0), (1, .int .i64 a1)], [(0, ((.pointer (some ⟨b0_0, 0, none⟩)), .optr 78 [.str a0.text, .int .i64 a0.at_]))]⟩) (Le.refl _) ?_
 refine good_seq fun K1 hK1 => ?_
 refine good_region ?_
 refine g_op rfl (o_alloc (k := 14) tabOk tzero30 rfl rfl ?_)
 intro b1
 refine gs 1 ?_
 refine g_nil (hK1 _ ?_)
 refine good_seq fun K2 hK2 => ?_
 refine good_region ?_
 refine g_op rfl (ValOk.op (v_build tabOk (cs := [.int .i64 5, .int .i64 0, .str ([] : Bs), .nil, .nil]) tzero30 tsok30 rfl rfl rfl ?_))
 refine g_op rfl (o_alloc (k := 16) tabOk tzero30 rfl rfl ?_)
 intro b2
 refine g_op rfl (o_storeP tabOk (cs' := [.int .i64 5, .int .i64 0, .str ([] : Bs), .nil, .nil]) rfl rfl tsize30 rfl rfl rfl (Nat.le_of_ble_eq_true rfl) rfl rfl rfl ?_)
 refine gk hK2 71 [0, 1, 4, 5, 6] [0, 14, 16] ?_
 refine good_seq fun K3 hK3 => ?_
 refine good_seq fun K4 hK4 => ?_
 refine rg 1 ?_
 obtain ⟨y1, hy1, h⟩ := bnd h
 refine g_op rfl (o_callP (q := 0) (core_value rfl rfl) (m_impl_jsonReader_sign_ok k a0 125 b0_0 _ hy1) (.cons (.ptr _ _ _ _) (.cons (.refl _) (.nil))) rfl rfl ?_)
 refine gk hK4 71 [0, 1, 4, 5, 6, 13] [0, 14, 16] ?_
 refine good_cond rfl (fun hc1 => ?_) (fun hc1 => ?_)
 ·replace h := ifT h hc1
  refine good_seq fun K5 hK5 => ?_
  refine rg 1 ?_
  refine g_op rfl (o_storeP tabOk (cs' := [.int .i64 5, .int .i64 0, .str ([] : Bs), .nil, .nil]) rfl rfl tsize30 rfl rfl rfl (Nat.le_of_ble_eq_true rfl) rfl rfl rfl ?_)
  refine gs 1 ?_
  refine gk hK5 71 [0, 1, 4, 5, 6] [0, 14, 16] ?_
  refine Good.le (σ' := ⟨71, [(4, .ptr 14 b1 0), (5, .bool true)], [(100, (nilV, .osl 30 5 (([] : List Val).map encOVal))), (101, (nilV, .osl 9 1 (([] : List Bs).map encS))), (14, ((.pointer (some ⟨b1, 0, none⟩)), .optr 30 [.int .i64 5, .int .i64 0, .str ([] : Bs), .hd 100 nilV, .hd 101 nilV])), (0, ((.pointer (some ⟨b0_0, 0, none⟩)), .optr 78 [.str y1.2.text, .int .i64 y1.2.at_]))]⟩) (lw [none, none, some 14, some 0]) ?_
  refine good_ret ?_
  obtain rfl := Option.some.inj h
  refine thenQ_ret ?_
  exact endQ_ret (h' := [(0, (_, _)), (100, (_, _)), (101, (_, _))]) [some 0, some 100, some 101] (.cell rfl rfl tsize30 tagg30 rfl rfl rfl (.tmp rfl (.nil))) ⟨⟨_, rfl, .refl _⟩, ⟨⟨_, rfl, .refl _⟩, ⟨⟨_, rfl, .refl _⟩, trivial⟩⟩⟩ (by decide) ⟨nilV, nilV, rfl, rfl⟩
 ·replace h := bF h hc1
  refine good_skip ?_
  refine hK3 _ (kp 71 [0, 1, 4, 5, 6] [0, 14, 16] ?_)
  refine good_namedL fun K6 hK6 => ?_
  obtain ⟨o1, ho1, hJ1⟩ := bnd h
  replace h := ho1
  refine good_block ?_
  refine good_loopf (fun p : (Bs × Int × (List Val) × (List Bs) × Value × Value) => ⟨71, [(0, .ptr 0 b0_0 0), (1, .int .i64 a1), (4, .ptr 14 b1 0), (5, .bool false), (6, .ptr 16 b2 0)], [(0, ((.pointer (some ⟨b0_0, 0, none⟩)), .optr 78 [.str p.1, .int .i64 p.2.1])), (14, ((.pointer (some ⟨b1, 0, none⟩)), .optr 30 [.int .i64 0, .int .i64 0, .str ([] : Bs), .nil, .nil])), (16, ((.pointer (some ⟨b2, 0, none⟩)), .optr 30 [.int .i64 5, .int .i64 0, .str ([] : Bs), .hd 5606 p.2.2.2.2.1, .hd 5608 p.2.2.2.2.2])), (5606, (p.2.2.2.2.1, .osl 30 5 (p.2.2.1.map encOVal))), (5608, (p.2.2.2.2.2, .osl 9 1 (p.2.2.2.1.map encS)))]⟩) (fun m p => m < k + 1 ∧ m_impl_jsonReader_tree_l1 m a1 p.1 p.2.1 p.2.2.1 p.2.2.2.1 = some o1) k (y1.2.text, y1.2.at_, [], [], nilV, nilV) (lw [some 0, some 14, some 16, none, none]) ⟨by omega, h⟩ ?_
  rintro m1 ⟨x1, x2, x3, x4, w1, w2⟩ ⟨hm, h⟩
  replace h : m_impl_jsonReader_tree_l1 m1 a1 x1 x2 x3 x4 = some o1 := h
  refine Good.le (σ' := ⟨71, [(0, .ptr 0 b0_0 0), (1, .int .i64 a1), (4, .ptr 14 b1 0), (5, .bool false), (6, .ptr 16 b2 0)], [(0, ((.pointer (some ⟨b0_0, 0, none⟩)), .optr 78 [.str x1, .int .i64 x2])), (14, ((.pointer (some ⟨b1, 0, none⟩)), .optr 30 [.int .i64 0, .int .i64 0, .str ([] : Bs), .nil, .nil])), (16, ((.pointer (some ⟨b2, 0, none⟩)), .optr 30 [.int .i64 5, .int .i64 0, .str ([] : Bs), .hd 5606 w1, .hd 5608 w2])), (5606, (w1, .osl 30 5 (x3.map encOVal))), (5608, (w2, .osl 9 1 (x4.map encS)))]⟩) (Le.refl _) ?_
  obtain ⟨m1, rfl⟩ : ∃ m', m1 = m' + 1 := by cases m1 with | zero => (rw [m_impl_jsonReader_tree_l1] at h; cases h) | succ m' => exact ⟨m', rfl⟩
  rw [m_impl_jsonReader_tree_l1] at h
  refine good_block ?_
  refine good_seq fun K7 hK7 => ?_
  refine rg 1 ?_
  obtain ⟨y2, hy2, h⟩ := bnd h
  refine g_op rfl (o_callP (q := 0) (core_value rfl rfl) (m_impl_jsonReader_blanks_ok m1 (GJsonReader.mk x1 x2) b0_0 _ hy2) (.cons (.ptr _ _ _ _) (.nil)) rfl rfl ?_)
  refine gk hK7 71 [0, 1, 4, 5, 6] [0, 14, 16, 5606, 5608] ?_
  refine good_seq fun K8 hK8 => ?_
  obtain ⟨y3, hy3, h⟩ := bnd h
  refine good_anyM (by kernel_rfl) [⟨[], [0], [], [], [], []⟩, ⟨[0], [18], [], [], [], []⟩, ⟨[0, 1], [19], [], [], [], []⟩, ⟨[0, 1, 2], [20], [0], [], [], []⟩, ⟨[], [0], [], [], [], []⟩, ⟨[4], [22], [], [], [], []⟩, ⟨[4, 5], [23], [], [], [], []⟩, ⟨[4, 5, 6], [24], [0], [], [], []⟩, ⟨[0, 1, 2, 3, 4, 5, 6, 7], [21, 25], [], [], [], []⟩, ⟨[0, 1, 2, 3, 4, 5, 6, 7, 8], [26], [], [], [], []⟩, ⟨[0, 1, 2, 3, 4, 5, 6, 7, 8, 9], [17], [], [], [], []⟩, ⟨[0, 1, 2, 3, 4, 5, 6, 7, 8, 9], [17], [], [], [], []⟩, ⟨[0, 1, 2, 3, 4, 5, 6, 7, 8, 9], [17], [], [], [], []⟩, ⟨[0, 1, 2, 3, 4, 5, 6, 7, 8, 9, 10], [27], [], [], [], []⟩, ⟨[0, 1, 2, 3, 4, 5, 6, 7, 8, 9, 10, 11, 13], [28], [], [], [], []⟩, ⟨[0, 1, 2, 3, 4, 5, 6, 7, 8, 9, 10, 11, 12, 13, 14], [29], [], [], [], []⟩] [some 18, some 19, some 20, some 21, some 22, some 23, some 24, some 25, some 26, some 17, some 27, some 28, some 29, some 7, some 8, some 9] 71 [(0, .ptr 0 b0_0 0), (1, .int .i64 a1), (4, .ptr 14 b1 0), (5, .bool false), (6, .ptr 16 b2 0)] [(0, ((.pointer (some ⟨b0_0, 0, none⟩)), .optr 78 [.str y2.text, .int .i64 y2.at_])), (14, ((.pointer (some ⟨b1, 0, none⟩)), .optr 30 [.int .i64 0, .int .i64 0, .str ([] : Bs), .nil, .nil])), (16, ((.pointer (some ⟨b2, 0, none⟩)), .optr 30 [.int .i64 5, .int .i64 0, .str ([] : Bs), .hd 5606 w1, .hd 5608 w2])), (5606, (w1, .osl 30 5 (x3.map encOVal))), (5608, (w2, .osl 9 1 (x4.map encS)))] (fun ν1 => [.ptr 0 b0_0 0, .ptr 0 b0_0 0, .ptr 0 b0_0 0, .str y2.text, .ptr 0 b0_0 0, .ptr 0 b0_0 0, .ptr 0 b0_0 1, .int .i64 y2.at_, .tup [.str y3.1, .int .i64 y3.2.1, .bool y3.2.2], .tup [.str y3.1, .int .i64 y3.2.1, .bool y3.2.2], .str y3.1, .int .i64 y3.2.1, .bool y3.2.2, .str y3.1, .int .i64 y3.2.1, .bool y3.2.2]) (fun ν1 => []) [(0, []), (14, []), (16, []), (5606, []), (5608, [])] [] [some 0, some 14, some 16, some 5606, some 5608] (fun ν1 => [(0, .ptr 0 b0_0 0), (1, .int .i64 a1), (4, .ptr 14 b1 0), (5, .bool false), (6, .ptr 16 b2 0), (7, .str y3.1), (8, .int .i64 y3.2.1), (9, .bool y3.2.2)]) (fun ν1 => [(0, ((.pointer (some ⟨b0_0, 0, none⟩)), .optr 78 [.str y2.text, .int .i64 y2.at_])), (14, ((.pointer (some ⟨b1, 0, none⟩)), .optr 30 [.int .i64 0, .int .i64 0, .str ([] : Bs), .nil, .nil])), (16, ((.pointer (some ⟨b2, 0, none⟩)), .optr 30 [.int .i64 5, .int .i64 0, .str ([] : Bs), .hd 5606 w1, .hd 5608 w2])), (5606, (w1, .osl 30 5 (x3.map encOVal))), (5608, (w2, .osl 9 1 (x4.map encS)))]) (lw [some 0, some 14, some 16, some 5606, some 5608]) (by kernel_rfl) ⟨?_, ⟨?_, ⟨?_, ⟨?_, ⟨?_, ⟨?_, ⟨?_, ⟨?_, ⟨?_, ⟨?_, ⟨?_, ⟨?_, ⟨?_, ⟨?_, ⟨?_, ⟨?_, trivial⟩⟩⟩⟩⟩⟩⟩⟩⟩⟩⟩⟩⟩⟩⟩⟩ ⟨fun _ _ _ => rfl, ⟨fun _ _ _ => rfl, ⟨fun _ _ _ => rfl, ⟨fun _ _ _ => rfl, ⟨fun _ _ _ => rfl, ⟨fun _ _ _ => rfl, ⟨fun _ _ _ => rfl, ⟨fun _ _ _ => rfl, ⟨fun _ _ _ => rfl, ⟨fun _ _ _ => rfl, ⟨fun _ _ _ => rfl, ⟨fun _ _ _ => rfl, ⟨fun _ _ _ => rfl, ⟨fun _ _ _ => rfl, ⟨fun _ _ _ => rfl, ⟨fun _ _ _ => rfl, trivial⟩⟩⟩⟩⟩⟩⟩⟩⟩⟩⟩⟩⟩⟩⟩⟩ ⟨fun _ _ _ => rfl, ⟨fun _ _ _ => rfl, ⟨fun _ _ _ => rfl, ⟨fun _ _ _ => rfl, ⟨fun _ _ _ => rfl, trivial⟩⟩⟩⟩⟩ (fun _ => rfl) (fun _ => rfl) (by kernel_rfl) (fun _ => ⟨⟨_, rfl, .refl _⟩, ⟨⟨_, rfl, .refl _⟩, ⟨⟨_, rfl, .refl _⟩, ⟨⟨_, rfl, .refl _⟩, ⟨⟨_, rfl, .refl _⟩, ⟨⟨_, rfl, .refl _⟩, ⟨⟨_, rfl, .refl _⟩, ⟨⟨_, rfl, .refl _⟩, trivial⟩⟩⟩⟩⟩⟩⟩⟩) (fun _ => ⟨⟨_, rfl, .refl _⟩, ⟨⟨_, rfl, .refl _⟩, ⟨⟨_, rfl, .refl _⟩, ⟨⟨_, rfl, .refl _⟩, ⟨⟨_, rfl, .refl _⟩, trivial⟩⟩⟩⟩⟩) (by kernel_rfl) (by decide) ?_
  ·refine local_mk (fun ν1 => [(0, .ptr 0 b0_0 0)]) (fun ν1 => []) (fun _ => rfl) (fun _ => ⟨⟨_, rfl, .refl _, .refl _⟩, trivial⟩) (fun _ => rfl) (fun _ => trivial) ?_
   intro ν1 S H hS hfr
   refine st_op rfl (ValOk.op (v_move rfl rfl ?_))
   exact lp_v hS rfl rfl (fun _ => rfl)
  ·refine local_mk (fun ν1 => [(18, .ptr 0 b0_0 0)]) (fun ν1 => []) (fun _ => rfl) (fun _ => ⟨⟨_, rfl, .refl _, .refl _⟩, trivial⟩) (fun _ => rfl) (fun _ => trivial) ?_
   intro ν1 S H hS hfr
   refine st_op rfl (ValOk.op (v_nilP rfl rfl ?_))
   exact lp_v hS rfl rfl (fun _ => rfl)
  ·refine local_mk (fun ν1 => [(19, .ptr 0 b0_0 0)]) (fun ν1 => []) (fun _ => rfl) (fun _ => ⟨⟨_, rfl, .refl _, .refl _⟩, trivial⟩) (fun _ => rfl) (fun _ => trivial) ?_
   intro ν1 S H hS hfr
   refine st_op rfl (ValOk.op (v_fieldP tabOk rfl tfoff78_0 rfl ?_))
   exact lp_v hS rfl rfl (fun _ => rfl)
  ·refine local_mk (fun ν1 => [(20, .ptr 0 b0_0 0)]) (fun ν1 => [(0, ((.pointer (some ⟨b0_0, 0, none⟩)), .optr 78 [.str y2.text, .int .i64 y2.at_]))]) (fun _ => rfl) (fun _ => ⟨⟨_, rfl, .refl _, .refl _⟩, trivial⟩) (fun _ => rfl) (fun _ => ⟨rfl, trivial⟩) ?_
   intro ν1 S H hS hfr
   refine st_op rfl (ValOk.op (v_loadP tabOk rfl rfl tsize9 tagg9 rfl rfl rfl rfl ?_))
   exact lp_v hS rfl rfl (fun _ => rfl)
  ·refine local_mk (fun ν1 => [(0, .ptr 0 b0_0 0)]) (fun ν1 => []) (fun _ => rfl) (fun _ => ⟨⟨_, rfl, .refl _, .refl _⟩, trivial⟩) (fun _ => rfl) (fun _ => trivial) ?_
   intro ν1 S H hS hfr
   refine st_op rfl (ValOk.op (v_move rfl rfl ?_))
   exact lp_v hS rfl rfl (fun _ => rfl)
  ·refine local_mk (fun ν1 => [(22, .ptr 0 b0_0 0)]) (fun ν1 => []) (fun _ => rfl) (fun _ => ⟨⟨_, rfl, .refl _, .refl _⟩, trivial⟩) (fun _ => rfl) (fun _ => trivial) ?_
   intro ν1 S H hS hfr
   refine st_op rfl (ValOk.op (v_nilP rfl rfl ?_))
   exact lp_v hS rfl rfl (fun _ => rfl)
  ·refine local_mk (fun ν1 => [(23, .ptr 0 b0_0 0)]) (fun ν1 => []) (fun _ => rfl) (fun _ => ⟨⟨_, rfl, .refl _, .refl _⟩, trivial⟩) (fun _ => rfl) (fun _ => trivial) ?_
   intro ν1 S H hS hfr
   refine st_op rfl (ValOk.op (v_fieldP tabOk rfl tfoff78_1 rfl ?_))
   exact lp_v hS rfl rfl (fun _ => rfl)
  ·refine local_mk (fun ν1 => [(24, .ptr 0 b0_0 1)]) (fun ν1 => [(0, ((.pointer (some ⟨b0_0, 0, none⟩)), .optr 78 [.str y2.text, .int .i64 y2.at_]))]) (fun _ => rfl) (fun _ => ⟨⟨_, rfl, .refl _, .refl _⟩, trivial⟩) (fun _ => rfl) (fun _ => ⟨rfl, trivial⟩) ?_
   intro ν1 S H hS hfr
   refine st_op rfl (ValOk.op (v_loadP tabOk rfl rfl tsize3 tagg3 rfl rfl rfl rfl ?_))
   exact lp_v hS rfl rfl (fun _ => rfl)
  ·refine local_mk (fun ν1 => [(21, .str y2.text), (25, .int .i64 y2.at_)]) (fun ν1 => []) (fun _ => rfl) (fun _ => ⟨⟨_, rfl, .refl _, .refl _⟩, ⟨⟨_, rfl, .refl _, .refl _⟩, trivial⟩⟩) (fun _ => rfl) (fun _ => trivial) ?_
   intro ν1 S H hS hfr
   refine st_op rfl (o_callR [] [] (core_value rfl rfl) (m_impl_textAt_ok m1 y2.text y2.at_ _ hy3) trivial (.cons (.refl _) (.cons (.refl _) (.nil))) (.inl rfl) rfl ?_)
   exact lp_v hS rfl rfl (fun _ => rfl)
  ·refine local_mk (fun ν1 => [(26, .tup [.str y3.1, .int .i64 y3.2.1, .bool y3.2.2])]) (fun ν1 => []) (fun _ => rfl) (fun _ => ⟨⟨_, rfl, .refl _, .refl _⟩, trivial⟩) (fun _ => rfl) (fun _ => trivial) ?_
   intro ν1 S H hS hfr
   refine st_op rfl (ValOk.op (v_move rfl rfl ?_))
   exact lp_v hS rfl rfl (fun _ => rfl)
  ·refine local_mk (fun ν1 => [(17, .tup [.str y3.1, .int .i64 y3.2.1, .bool y3.2.2])]) (fun ν1 => []) (fun _ => rfl) (fun _ => ⟨⟨_, rfl, .refl _, .refl _⟩, trivial⟩) (fun _ => rfl) (fun _ => trivial) ?_
   intro ν1 S H hS hfr
   refine st_op rfl (ValOk.op (v_extract rfl rfl rfl ?_))
   exact lp_v hS rfl rfl (fun _ => rfl)
  ·refine local_mk (fun ν1 => [(17, .tup [.str y3.1, .int .i64 y3.2.1, .bool y3.2.2])]) (fun ν1 => []) (fun _ => rfl) (fun _ => ⟨⟨_, rfl, .refl _, .refl _⟩, trivial⟩) (fun _ => rfl) (fun _ => trivial) ?_
   intro ν1 S H hS hfr
   refine st_op rfl (ValOk.op (v_extract rfl rfl rfl ?_))
   exact lp_v hS rfl rfl (fun _ => rfl)
  ·refine local_mk (fun ν1 => [(17, .tup [.str y3.1, .int .i64 y3.2.1, .bool y3.2.2])]) (fun ν1 => []) (fun _ => rfl) (fun _ => ⟨⟨_, rfl, .refl _, .refl _⟩, trivial⟩) (fun _ => rfl) (fun _ => trivial) ?_
   intro ν1 S H hS hfr
   refine st_op rfl (ValOk.op (v_extract rfl rfl rfl ?_))
   exact lp_v hS rfl rfl (fun _ => rfl)
  ·refine local_mk (fun ν1 => [(27, .str y3.1)]) (fun ν1 => []) (fun _ => rfl) (fun _ => ⟨⟨_, rfl, .refl _, .refl _⟩, trivial⟩) (fun _ => rfl) (fun _ => trivial) ?_
   intro ν1 S H hS hfr
   refine st_op rfl (ValOk.op (v_assign rfl rfl ?_))
   exact lp_v hS rfl rfl (fun _ => rfl)
  ·refine local_mk (fun ν1 => [(28, .int .i64 y3.2.1)]) (fun ν1 => []) (fun _ => rfl) (fun _ => ⟨⟨_, rfl, .refl _, .refl _⟩, trivial⟩) (fun _ => rfl) (fun _ => trivial) ?_
   intro ν1 S H hS hfr
   refine st_op rfl (ValOk.op (v_assign rfl rfl ?_))
   exact lp_v hS rfl rfl (fun _ => rfl)
  ·refine local_mk (fun ν1 => [(29, .bool y3.2.2)]) (fun ν1 => []) (fun _ => rfl) (fun _ => ⟨⟨_, rfl, .refl _, .refl _⟩, trivial⟩) (fun _ => rfl) (fun _ => trivial) ?_
   intro ν1 S H hS hfr
   refine st_op rfl (ValOk.op (v_assign rfl rfl ?_))
   exact lp_v hS rfl rfl (fun _ => rfl)
  intro ν1
  refine hK8 _ ?_
  refine good_seq fun K9 hK9 => ?_
  refine rg 2 ?_
  refine g_op rfl (ValOk.op (v_nilP rfl rfl ?_))
  refine gs 1 ?_
  refine g_op rfl (o_storeP tabOk (cs' := [.str y2.text, .int .i64 y3.2.1]) rfl rfl tsize3 rfl rfl rfl (Nat.le_of_ble_eq_true rfl) rfl rfl rfl ?_)
  refine gk hK9 71 [0, 1, 4, 5, 6, 7, 9] [0, 14, 16, 5606, 5608] ?_
  refine good_seq fun K10 hK10 => ?_
  refine good_seq fun K11 hK11 => ?_
  obtain ⟨o2, ho2, hJ2⟩ := bnd h
  have hw1 : ∀ (s1 : (Bs × Int × Bool)), o2 = Lp.go s1 → ∀ σ', Le σ' ⟨71, [(0, .ptr 0 b0_0 0), (1, .int .i64 a1), (4, .ptr 14 b1 0), (5, .bool false), (6, .ptr 16 b2 0), (7, .str y3.1), (40, .bool s1.2.2)], [(0, ((.pointer (some ⟨b0_0, 0, none⟩)), .optr 78 [.str s1.1, .int .i64 s1.2.1])), (14, ((.pointer (some ⟨b1, 0, none⟩)), .optr 30 [.int .i64 0, .int .i64 0, .str ([] : Bs), .nil, .nil])), (16, ((.pointer (some ⟨b2, 0, none⟩)), .optr 30 [.int .i64 5, .int .i64 0, .str ([] : Bs), .hd 5606 w1, .hd 5608 w2])), (5606, (w1, .osl 30 5 (x3.map encOVal))), (5608, (w2, .osl 9 1 (x4.map encS)))]⟩ → K11 σ' := by
   intro s1 e1 σ' hle1
   subst e1
   refine hK11 _ (Good.le hle1 ?_)
   replace h := hJ2
   refine good_cond rfl (fun hc2 => ?_) (fun hc2 => ?_)
   ·replace h := ifT h hc2
    refine good_seq fun K12 hK12 => ?_
    refine good_region ?_
    refine g_op rfl (ValOk.op (v_build tabOk (cs := [.int .i64 0, .int .i64 0, .str ([] : Bs), .nil, .nil]) tzero30 tsok30 rfl rfl rfl ?_))
    refine g_op rfl (o_storeP tabOk (cs' := [.int .i64 0, .int .i64 0, .str ([] : Bs), .nil, .nil]) rfl rfl tsize30 rfl rfl rfl (Nat.le_of_ble_eq_true rfl) rfl rfl rfl ?_)
    refine gs 1 ?_
    refine gk hK12 71 [0, 1, 4, 5, 6, 7] [0, 14, 16, 5606, 5608] ?_
    refine Good.le (σ' := ⟨71, [(4, .ptr 14 b1 0), (5, .bool false)], [(100, (nilV, .osl 30 5 (([] : List Val).map encOVal))), (101, (nilV, .osl 9 1 (([] : List Bs).map encS))), (14, ((.pointer (some ⟨b1, 0, none⟩)), .optr 30 [.int .i64 0, .int .i64 0, .str ([] : Bs), .hd 100 nilV, .hd 101 nilV])), (0, ((.pointer (some ⟨b0_0, 0, none⟩)), .optr 78 [.str s1.1, .int .i64 s1.2.1]))]⟩) (lw [none, none, some 14, some 0]) ?_
    refine good_ret ?_
    replace h := unret h hJ1
    obtain rfl := Option.some.inj h
    refine thenQ_ret ?_
    refine blockQ_ret ?_
    refine thenQ_ret ?_
    refine blockQ_ret ?_
    refine thenQ_ret ?_
    exact endQ_ret (h' := [(0, (_, _)), (100, (_, _)), (101, (_, _))]) [some 0, some 100, some 101] (.cell rfl rfl tsize30 tagg30 rfl rfl rfl (.tmp rfl (.nil))) ⟨⟨_, rfl, .refl _⟩, ⟨⟨_, rfl, .refl _⟩, ⟨⟨_, rfl, .refl _⟩, trivial⟩⟩⟩ (by decide) ⟨nilV, nilV, rfl, rfl⟩
   ·replace h := bF h hc2
    refine good_skip ?_
    refine hK10 _ (kp 71 [0, 1, 4, 5, 6, 7] [0, 14, 16, 5606, 5608] ?_)
    refine good_seq fun K13 hK13 => ?_
    refine rg 3 ?_
    obtain ⟨y4, hy4, h⟩ := bnd h
    refine g_op rfl (o_callD [] [] [0] (core_value rfl rfl) ((ih m1 (by omega)).1 (GJsonReader.mk s1.1 s1.2.1) (IntKind.wrap .i64 (a1 - 1)) b0_0 _ hy4) trivial (.cons (.ptr _ _ _ _) (.cons (.refl _) (.nil))) ⟨rfl, trivial⟩ rfl rfl rfl ?_)
    rintro _ _ ⟨w3, w4, rfl, rfl⟩
    refine ⟨.tup [.agg [.int .i64 y4.1.kind, .int .i64 y4.1.num, .str y4.1.text, .hd 3005 w3, .hd 3006 w4], .bool y4.2.1], [(0, _), (3005, _), (3006, _)], .tup (.cons (.agg (.cons (.refl _) (.cons (.refl _) (.cons (.refl _) (.cons (.hd _ _ _) (.cons (.hd _ _ _) (.nil))))))) (.cons (.refl _) (.nil))), rfl, rfl, rfl, rfl, .inl rfl, ?_⟩
    refine gs 3 ?_
    refine g_op rfl (o_alloc (k := 20) tabOk tzero30 rfl rfl ?_)
    intro b3
    refine g_op rfl (o_storeP tabOk (cs' := [.int .i64 y4.1.kind, .int .i64 y4.1.num, .str y4.1.text, .hd 3005 w3, .hd 3006 w4]) rfl rfl tsize30 rfl rfl rfl (Nat.le_of_ble_eq_true rfl) rfl rfl rfl ?_)
    refine gs 1 ?_
    refine gk hK13 71 [0, 1, 4, 5, 6, 7, 9, 10] [0, 14, 16, 5606, 5608, 20, 3005, 3006] ?_
    refine good_seq fun K14 hK14 => ?_
    refine good_seq fun K15 hK15 => ?_
    refine rg 2 ?_
    refine gk hK15 71 [0, 1, 4, 5, 6, 7, 10, 50] [0, 14, 16, 5606, 5608, 20, 3005, 3006] ?_
    refine good_cond rfl (fun hc3 => ?_) (fun hc3 => ?_)
    ·replace h := bF h (nT hc3)
     refine good_seq fun K16 hK16 => ?_
     refine good_region ?_
     refine g_op rfl (ValOk.op (v_build tabOk (cs := [.int .i64 0, .int .i64 0, .str ([] : Bs), .nil, .nil]) tzero30 tsok30 rfl rfl rfl ?_))
     refine g_op rfl (o_storeP tabOk (cs' := [.int .i64 0, .int .i64 0, .str ([] : Bs), .nil, .nil]) rfl rfl tsize30 rfl rfl rfl (Nat.le_of_ble_eq_true rfl) rfl rfl rfl ?_)
     refine gs 1 ?_
     refine gk hK16 71 [0, 1, 4, 5, 6, 7, 10] [0, 14, 16, 5606, 5608, 20, 3005, 3006] ?_
     refine Good.le (σ' := ⟨71, [(4, .ptr 14 b1 0), (5, .bool false)], [(100, (nilV, .osl 30 5 (([] : List Val).map encOVal))), (101, (nilV, .osl 9 1 (([] : List Bs).map encS))), (14, ((.pointer (some ⟨b1, 0, none⟩)), .optr 30 [.int .i64 0, .int .i64 0, .str ([] : Bs), .hd 100 nilV, .hd 101 nilV])), (0, ((.pointer (some ⟨b0_0, 0, none⟩)), .optr 78 [.str y4.2.2.text, .int .i64 y4.2.2.at_]))]⟩) (lw [none, none, some 14, some 0]) ?_
     refine good_ret ?_
     replace h := unret h hJ1
     obtain rfl := Option.some.inj h
     refine thenQ_ret ?_
     refine blockQ_ret ?_
     refine thenQ_ret ?_
     refine blockQ_ret ?_
     refine thenQ_ret ?_
     exact endQ_ret (h' := [(0, (_, _)), (100, (_, _)), (101, (_, _))]) [some 0, some 100, some 101] (.cell rfl rfl tsize30 tagg30 rfl rfl rfl (.tmp rfl (.nil))) ⟨⟨_, rfl, .refl _⟩, ⟨⟨_, rfl, .refl _⟩, ⟨⟨_, rfl, .refl _⟩, trivial⟩⟩⟩ (by decide) ⟨nilV, nilV, rfl, rfl⟩
    ·replace h := ifT h (nF hc3)
     refine good_skip ?_
     refine hK14 _ (kp 71 [0, 1, 4, 5, 6, 7, 10] [0, 14, 16, 5606, 5608, 20, 3005, 3006] ?_)
     refine good_seq fun K17 hK17 => ?_
     refine rg 3 ?_
     refine g_op rfl (o_buildSlice (k := 65) (rows := [y3.1].map encS) tabOk telem23 tsize9 rfl rfl rfl rfl (by decide) (by decide) (by rw [tzero9]; rfl) rfl rfl rfl rfl rfl ?_)
     intro w5
     obtain ⟨hb1, h⟩ := ifS h
     refine g_op rfl (o_appendHM (q := 5608) (r := 65) (k := 66) (f := encS) tabOk ⟨_, rfl⟩ rfl ⟨_, rfl⟩ rfl rfl telem23 tsize9 tbytes9 tzero9 rfl (by decide) (by decide) encS_ok rfl rfl rfl hb1 ?_)
     intro w6
     refine gs 1 ?_
     refine g_op rfl (o_storeP tabOk (cs' := [.int .i64 5, .int .i64 0, .str ([] : Bs), .hd 5606 w1, .hd 66 w6]) rfl rfl tsize23 rfl rfl rfl (Nat.le_of_ble_eq_true rfl) rfl rfl rfl ?_)
     refine gk hK17 71 [0, 1, 4, 5, 6, 10] [0, 14, 16, 5606, 66, 20, 3005, 3006] ?_
     refine good_seq fun K18 hK18 => ?_
     refine rg 3 ?_
     refine g_op rfl (OpOk.le (o_buildSlice (k := 71) (rows := [[.int .i64 y4.1.kind, .int .i64 y4.1.num, .str y4.1.text, .hd 3005 w3, .hd 3006 w4]]) tabOk telem28 tsize30 rfl rfl rfl rfl (by decide) (by decide) (by rw [tzero30]; rfl) rfl rfl rfl rfl rfl ?_))
     intro w7
     refine ⟨_, (Le.trans (Le.trans (le_absorb1 (k := 71) (k2 := 3005) 0 3 _ rfl (by decide) rfl rfl rfl) (le_absorb1 (k := 71) (k2 := 3006) (rows' := [y4.1].map encOVal) 0 4 _ rfl (by decide) rfl rfl (cons_eq (encOVal_eq _) rfl))) (le_mm (rs := [3005, 3006]) rfl)), ?_⟩
     obtain ⟨hb2, h⟩ := ifS h
     refine g_op rfl (o_appendHM (q := 5606) (r := 71) (k := 72) (f := encOVal) tabOk ⟨_, rfl⟩ rfl ⟨_, rfl⟩ rfl rfl telem28 tsize30 tbytes30 tzero30 rfl (by decide) (by decide) encOVal_ok rfl rfl rfl hb2 ?_)
     intro w8
     refine gs 1 ?_
     refine g_op rfl (o_storeP tabOk (cs' := [.int .i64 5, .int .i64 0, .str ([] : Bs), .hd 72 w8, .hd 66 w6]) rfl rfl tsize28 rfl rfl rfl (Nat.le_of_ble_eq_true rfl) rfl rfl rfl ?_)
     refine gk hK18 71 [0, 1, 4, 5, 6] [0, 14, 16, 72, 66] ?_
     refine good_seq fun K19 hK19 => ?_
     refine good_seq fun K20 hK20 => ?_
     refine rg 1 ?_
     obtain ⟨y5, hy5, h⟩ := bnd h
     refine g_op rfl (o_callP (q := 0) (core_value rfl rfl) (m_impl_jsonReader_sign_ok m1 y4.2.2 125 b0_0 _ hy5) (.cons (.ptr _ _ _ _) (.cons (.refl _) (.nil))) rfl rfl ?_)
     refine gk hK20 71 [0, 1, 4, 5, 6, 65] [0, 14, 16, 72, 66] ?_
     refine good_cond rfl (fun hc4 => ?_) (fun hc4 => ?_)
     ·replace h := ifT h hc4
      refine good_seq fun K21 hK21 => ?_
      refine rg 1 ?_
      refine g_op rfl (o_storeP tabOk (cs' := [.int .i64 5, .int .i64 0, .str ([] : Bs), .hd 72 w8, .hd 66 w6]) rfl rfl tsize30 rfl rfl rfl (Nat.le_of_ble_eq_true rfl) rfl rfl rfl ?_)
      refine gs 1 ?_
      refine gk hK21 71 [0, 1, 4, 5, 6] [0, 14, 72, 66, 16] ?_
      refine Good.le (σ' := ⟨71, [(4, .ptr 14 b1 0), (5, .bool true)], [(100, (w8, .osl 30 5 ((x3 ++ [y4.1]).map encOVal))), (101, (w6, .osl 9 1 ((x4 ++ [y3.1]).map encS))), (14, ((.pointer (some ⟨b1, 0, none⟩)), .optr 30 [.int .i64 5, .int .i64 0, .str ([] : Bs), .hd 100 w8, .hd 101 w6])), (0, ((.pointer (some ⟨b0_0, 0, none⟩)), .optr 78 [.str y5.2.text, .int .i64 y5.2.at_]))]⟩) (lw [some 72, some 66, some 14, some 0]) ?_
      refine good_ret ?_
      replace h := unret h hJ1
      obtain rfl := Option.some.inj h
      refine thenQ_ret ?_
      refine blockQ_ret ?_
      refine thenQ_ret ?_
      refine blockQ_ret ?_
      refine thenQ_ret ?_
      exact endQ_ret (h' := [(0, (_, _)), (100, (_, _)), (101, (_, _))]) [some 0, some 100, some 101] (.cell rfl rfl tsize30 tagg30 rfl rfl rfl (.tmp rfl (.nil))) ⟨⟨_, rfl, .refl _⟩, ⟨⟨_, rfl, .refl _⟩, ⟨⟨_, rfl, .refl _⟩, trivial⟩⟩⟩ (by decide) ⟨w8, w6, rfl, rfl⟩
     ·replace h := bF h hc4
      refine good_skip ?_
      refine hK19 _ (kp 71 [0, 1, 4, 5, 6] [0, 14, 16, 72, 66] ?_)
      refine good_seq fun K22 hK22 => ?_
      refine rg 1 ?_
      obtain ⟨y6, hy6, h⟩ := bnd h
      refine g_op rfl (o_callP (q := 0) (core_value rfl rfl) (m_impl_jsonReader_sign_ok m1 y5.2 44 b0_0 _ hy6) (.cons (.ptr _ _ _ _) (.cons (.refl _) (.nil))) rfl rfl ?_)
      refine gs 1 ?_
      refine gk hK22 71 [0, 1, 4, 5, 6, 69] [0, 14, 16, 72, 66] ?_
      refine good_cond rfl (fun hc5 => ?_) (fun hc5 => ?_)
      ·replace h := bF h (nT hc5)
       refine good_seq fun K23 hK23 => ?_
       refine good_region ?_
       refine g_op rfl (ValOk.op (v_build tabOk (cs := [.int .i64 0, .int .i64 0, .str ([] : Bs), .nil, .nil]) tzero30 tsok30 rfl rfl rfl ?_))
       refine g_op rfl (o_storeP tabOk (cs' := [.int .i64 0, .int .i64 0, .str ([] : Bs), .nil, .nil]) rfl rfl tsize30 rfl rfl rfl (Nat.le_of_ble_eq_true rfl) rfl rfl rfl ?_)
       refine gs 1 ?_
       refine gk hK23 71 [0, 1, 4, 5, 6] [0, 14, 16, 72, 66] ?_
       refine Good.le (σ' := ⟨71, [(4, .ptr 14 b1 0), (5, .bool false)], [(100, (nilV, .osl 30 5 (([] : List Val).map encOVal))), (101, (nilV, .osl 9 1 (([] : List Bs).map encS))), (14, ((.pointer (some ⟨b1, 0, none⟩)), .optr 30 [.int .i64 0, .int .i64 0, .str ([] : Bs), .hd 100 nilV, .hd 101 nilV])), (0, ((.pointer (some ⟨b0_0, 0, none⟩)), .optr 78 [.str y6.2.text, .int .i64 y6.2.at_]))]⟩) (lw [none, none, some 14, some 0]) ?_
       refine good_ret ?_
       replace h := unret h hJ1
       obtain rfl := Option.some.inj h
       refine blockQ_ret ?_
       refine thenQ_ret ?_
       refine blockQ_ret ?_
       refine thenQ_ret ?_
       exact endQ_ret (h' := [(0, (_, _)), (100, (_, _)), (101, (_, _))]) [some 0, some 100, some 101] (.cell rfl rfl tsize30 tagg30 rfl rfl rfl (.tmp rfl (.nil))) ⟨⟨_, rfl, .refl _⟩, ⟨⟨_, rfl, .refl _⟩, ⟨⟨_, rfl, .refl _⟩, trivial⟩⟩⟩ (by decide) ⟨nilV, nilV, rfl, rfl⟩
      ·replace h := ifT h (nF hc5)
       refine good_skip ?_
       exact round_mk m1 (y6.2.text, y6.2.at_, x3 ++ [y4.1], x4 ++ [y3.1], w8, w6) (Nat.lt_succ_self _) ⟨by omega, h⟩ (lw [some 0, some 14, some 16, some 72, some 66])
  replace h := ho2
  refine rg 3 ?_
  rcases bsplit ((!y3.2.2)) with hg1 | hg1
  ·replace h := bF h (nT hg1)
   refine gs 4 ?_
   refine g_nil ?_
   exact hw1 (y2.text, y3.2.1, true) (Option.some.inj h).symm _ (lw [some 0, some 14, some 16, some 5606, some 5608])
  ·replace h := ifT h (nF hg1)
   refine gs 1 ?_
   obtain ⟨y7, hy7, h⟩ := bnd h
   refine g_yes rfl rfl hg1 (o_callP (q := 0) (core_value rfl rfl) (m_impl_jsonReader_sign_ok m1 (GJsonReader.mk y2.text y3.2.1) 58 b0_0 _ hy7) (.cons (.ptr _ _ _ _) (.cons (.refl _) (.nil))) rfl rfl ?_)
   refine gs 2 ?_
   refine g_nil ?_
   exact hw1 (y7.2.text, y7.2.at_, (!y7.1)) (Option.some.inj h).symm _ (lw [some 0, some 14, some 16, some 5606, some 5608])
theorem m_impl_jsonReader_value_all (k : Nat) : P_m_impl_jsonReader_value k ∧ P_m_impl_jsonReader_list k ∧ P_m_impl_jsonReader_tree k := by
 induction k using Nat.strongRecOn with
 | _ k ih => exact ⟨m_impl_jsonReader_value_step k ih, m_impl_jsonReader_list_step k ih, m_impl_jsonReader_tree_step k ih⟩
theorem m_impl_jsonReader_value_ok (k : Nat) : ∀ (a0 : GJsonReader) (a1 : Int) (b0_0 : Nat) (r : (Val × Bool × GJsonReader)), m_impl_jsonReader_value k a0 a1 = some r → Does Try.prog 63 [.ptr 0 b0_0 0, .int .i64 a1] [(0, (.pointer (some ⟨b0_0, 0, none⟩), .optr 78 [.str a0.text, .int .i64 a0.at_]))] (fun q h' => ∃ u0 : Value, ∃ u1 : Value, q = .tup [.agg [.int .i64 r.1.kind, .int .i64 r.1.num, .str r.1.text, .hd 100 u0, .hd 101 u1], .bool r.2.1] ∧ h' = [(0, (.pointer (some ⟨b0_0, 0, none⟩), .optr 78 [.str r.2.2.text, .int .i64 r.2.2.at_])), (100, (u0, .osl 30 5 (r.1.list.map encOVal))), (101, (u1, .osl 9 1 (r.1.names.map encS)))]) := (m_impl_jsonReader_value_all k).1
theorem m_impl_jsonReader_list_ok (k : Nat) : ∀ (a0 : GJsonReader) (a1 : Int) (b0_0 : Nat) (r : (Val × Bool × GJsonReader)), m_impl_jsonReader_list k a0 a1 = some r → Does Try.prog 94 [.ptr 0 b0_0 0, .int .i64 a1] [(0, (.pointer (some ⟨b0_0, 0, none⟩), .optr 78 [.str a0.text, .int .i64 a0.at_]))] (fun q h' => ∃ u0 : Value, ∃ u1 : Value, q = .tup [.agg [.int .i64 r.1.kind, .int .i64 r.1.num, .str r.1.text, .hd 100 u0, .hd 101 u1], .bool r.2.1] ∧ h' = [(0, (.pointer (some ⟨b0_0, 0, none⟩), .optr 78 [.str r.2.2.text, .int .i64 r.2.2.at_])), (100, (u0, .osl 30 5 (r.1.list.map encOVal))), (101, (u1, .osl 9 1 (r.1.names.map encS)))]) := (m_impl_jsonReader_value_all k).2.1
theorem m_impl_jsonReader_tree_ok (k : Nat) : ∀ (a0 : GJsonReader) (a1 : Int) (b0_0 : Nat) (r : (Val × Bool × GJsonReader)), m_impl_jsonReader_tree k a0 a1 = some r → Does Try.prog 95 [.ptr 0 b0_0 0, .int .i64 a1] [(0, (.pointer (some ⟨b0_0, 0, none⟩), .optr 78 [.str a0.text, .int .i64 a0.at_]))] (fun q h' => ∃ u0 : Value, ∃ u1 : Value, q = .tup [.agg [.int .i64 r.1.kind, .int .i64 r.1.num, .str r.1.text, .hd 100 u0, .hd 101 u1], .bool r.2.1] ∧ h' = [(0, (.pointer (some ⟨b0_0, 0, none⟩), .optr 78 [.str r.2.2.text, .int .i64 r.2.2.at_])), (100, (u0, .osl 30 5 (r.1.list.map encOVal))), (101, (u1, .osl 9 1 (r.1.names.map encS)))]) := (m_impl_jsonReader_value_all k).2.2
def m_impl_JsonGet (k : Nat) (a0 : Bs) : Option (Val × Bool) :=
 if 2000 < (a0.length : Int) then
  some ((Val.mk 0 0 ([] : Bs) ([] : List Val) ([] : List Bs)), false)
 else
  (m_impl_jsonReader_value k (GJsonReader.mk a0 0) 6).bind fun y1 =>
  (m_impl_jsonReader_blanks k y1.2.2).bind fun y2 =>
  (if y1.2.1 = true then
    if y2.at_ < (a0.length : Int) then
     some (Lp.go true)
    else
     (m_impl_ValueOk k y1.1).bind fun y3 =>
     some (Lp.go (!y3))
   else
    some (Lp.go true)).bind fun o1 =>
  o1.then fun s1 =>
  if s1 = true then
   some ((Val.mk 0 0 ([] : Bs) ([] : List Val) ([] : List Bs)), false)
  else
   some (y1.1, true)
theorem m_impl_JsonGet_ok (k : Nat) : ∀ (a0 : Bs) (r : (Val × Bool)), m_impl_JsonGet k a0 = some r → Does Try.prog 27 [.str a0] [] (fun q h' => ∃ u0 : Value, ∃ u1 : Value, q = .tup [.agg [.int .i64 r.1.kind, .int .i64 r.1.num, .str r.1.text, .hd 100 u0, .hd 101 u1], .bool r.2] ∧ h' = [(100, (u0, .osl 30 5 (r.1.list.map encOVal))), (101, (u1, .osl 9 1 (r.1.names.map encS)))]) := by
 intro a0 r h
 rw [m_impl_JsonGet] at h
 refine does_of_good tabOk Try.func27 rfl (by decide +kernel) (Nat.le_of_ble_eq_true rfl) fun c => ?_
 refine Good.le (σ' := ⟨34, [(0, .str a0)], []⟩) (Le.refl _) ?_
 refine good_seq fun K1 hK1 => ?_
 refine good_region ?_
 refine g_op rfl (o_alloc (k := 12) tabOk tzero30 rfl rfl ?_)
 intro b1
 refine gs 1 ?_
 refine g_nil (hK1 _ ?_)
 refine good_seq fun K2 hK2 => ?_
 refine good_seq fun K3 hK3 => ?_
 refine rg 3 ?_
 refine gk hK3 34 [0, 2, 3, 9] [12] ?_
 refine good_cond rfl (fun hc1 => ?_) (fun hc1 => ?_)
 ·replace h := ifT h (dT hc1)
  refine good_seq fun K4 hK4 => ?_
  refine good_region ?_
  refine g_op rfl (ValOk.op (v_build tabOk (cs := [.int .i64 0, .int .i64 0, .str ([] : Bs), .nil, .nil]) tzero30 tsok30 rfl rfl rfl ?_))
  refine g_op rfl (o_storeP tabOk (cs' := [.int .i64 0, .int .i64 0, .str ([] : Bs), .nil, .nil]) rfl rfl tsize30 rfl rfl rfl (Nat.le_of_ble_eq_true rfl) rfl rfl rfl ?_)
  refine gs 1 ?_
  refine gk hK4 34 [0, 2, 3] [12] ?_
  refine Good.le (σ' := ⟨34, [(2, .ptr 12 b1 0), (3, .bool false)], [(100, (nilV, .osl 30 5 (([] : List Val).map encOVal))), (101, (nilV, .osl 9 1 (([] : List Bs).map encS))), (12, ((.pointer (some ⟨b1, 0, none⟩)), .optr 30 [.int .i64 0, .int .i64 0, .str ([] : Bs), .hd 100 nilV, .hd 101 nilV]))]⟩) (lw [none, none, some 12]) ?_
  refine good_ret ?_
  obtain rfl := Option.some.inj h
  refine thenQ_ret ?_
  exact endQ_ret (h' := [(100, (_, _)), (101, (_, _))]) [some 100, some 101] (.cell rfl rfl tsize30 tagg30 rfl rfl rfl (.tmp rfl (.nil))) ⟨⟨_, rfl, .refl _⟩, ⟨⟨_, rfl, .refl _⟩, trivial⟩⟩ (by decide) ⟨nilV, nilV, rfl, rfl⟩
 ·replace h := ifF h (dF hc1)
  refine good_skip ?_
  refine hK2 _ (kp 34 [0, 2, 3] [12] ?_)
  refine good_seq fun K5 hK5 => ?_
  refine rg 1 ?_
  refine g_op rfl (ValOk.op (v_build tabOk (cs := [.str a0, .int .i64 0]) tzero78 tsok78 rfl rfl rfl ?_))
  refine g_op rfl (o_alloc (k := 14) tabOk tzero78 rfl rfl ?_)
  intro b2
  refine g_op rfl (o_storeP tabOk (cs' := [.str a0, .int .i64 0]) rfl rfl tsize78 rfl rfl rfl (Nat.le_of_ble_eq_true rfl) rfl rfl rfl ?_)
  refine gk hK5 34 [0, 2, 3, 4] [12, 14] ?_
  refine good_seq fun K6 hK6 => ?_
  refine good_region ?_
  obtain ⟨y1, hy1, h⟩ := bnd h
  refine g_op rfl (o_callD [] [] [14] (core_value rfl rfl) (m_impl_jsonReader_value_ok k (GJsonReader.mk a0 0) 6 b2 _ hy1) trivial (.cons (.ptr _ _ _ _) (.cons (.refl _) (.nil))) ⟨rfl, trivial⟩ rfl rfl rfl ?_)
  rintro _ _ ⟨w1, w2, rfl, rfl⟩
  refine ⟨.tup [.agg [.int .i64 y1.1.kind, .int .i64 y1.1.num, .str y1.1.text, .hd 3001 w1, .hd 3002 w2], .bool y1.2.1], [(14, _), (3001, _), (3002, _)], .tup (.cons (.agg (.cons (.refl _) (.cons (.refl _) (.cons (.refl _) (.cons (.hd _ _ _) (.cons (.hd _ _ _) (.nil))))))) (.cons (.refl _) (.nil))), rfl, rfl, rfl, rfl, .inl rfl, ?_⟩
  refine gs 3 ?_
  refine g_op rfl (o_alloc (k := 15) tabOk tzero30 rfl rfl ?_)
  intro b3
  refine g_op rfl (o_storeP tabOk (cs' := [.int .i64 y1.1.kind, .int .i64 y1.1.num, .str y1.1.text, .hd 3001 w1, .hd 3002 w2]) rfl rfl tsize30 rfl rfl rfl (Nat.le_of_ble_eq_true rfl) rfl rfl rfl ?_)
  refine gs 1 ?_
  refine gk hK6 34 [0, 2, 3, 4, 5, 6] [12, 14, 15, 3001, 3002] ?_
  refine good_seq fun K7 hK7 => ?_
  refine good_region ?_
  obtain ⟨y2, hy2, h⟩ := bnd h
  refine g_op rfl (o_callP (q := 14) (core_value rfl rfl) (m_impl_jsonReader_blanks_ok k y1.2.2 b2 _ hy2) (.cons (.ptr _ _ _ _) (.nil)) rfl rfl ?_)
  refine gk hK7 34 [0, 2, 3, 4, 5, 6] [12, 14, 15, 3001, 3002] ?_
  refine good_seq fun K8 hK8 => ?_
  refine good_seq fun K9 hK9 => ?_
  obtain ⟨o1, ho1, hJ1⟩ := bnd h
  have hw1 : ∀ (s1 : Bool), o1 = Lp.go s1 → ∀ σ', Le σ' ⟨34, [(2, .ptr 12 b1 0), (3, .bool false), (5, .ptr 15 b3 0), (31, .bool s1)], [(12, ((.pointer (some ⟨b1, 0, none⟩)), .optr 30 [.int .i64 0, .int .i64 0, .str ([] : Bs), .nil, .nil])), (15, ((.pointer (some ⟨b3, 0, none⟩)), .optr 30 [.int .i64 y1.1.kind, .int .i64 y1.1.num, .str y1.1.text, .hd 3001 w1, .hd 3002 w2])), (3001, (w1, .osl 30 5 (y1.1.list.map encOVal))), (3002, (w2, .osl 9 1 (y1.1.names.map encS)))]⟩ → K9 σ' := by
   intro s1 e1 σ' hle1
   subst e1
   refine hK9 _ (Good.le hle1 ?_)
   replace h := hJ1
   refine good_cond rfl (fun hc2 => ?_) (fun hc2 => ?_)
   ·replace h := ifT h hc2
    refine good_seq fun K10 hK10 => ?_
    refine good_region ?_
    refine g_op rfl (ValOk.op (v_build tabOk (cs := [.int .i64 0, .int .i64 0, .str ([] : Bs), .nil, .nil]) tzero30 tsok30 rfl rfl rfl ?_))
    refine g_op rfl (o_storeP tabOk (cs' := [.int .i64 0, .int .i64 0, .str ([] : Bs), .nil, .nil]) rfl rfl tsize30 rfl rfl rfl (Nat.le_of_ble_eq_true rfl) rfl rfl rfl ?_)
    refine gs 1 ?_
    refine gk hK10 34 [2, 3, 5] [12, 15, 3001, 3002] ?_
    refine Good.le (σ' := ⟨34, [(2, .ptr 12 b1 0), (3, .bool false)], [(100, (nilV, .osl 30 5 (([] : List Val).map encOVal))), (101, (nilV, .osl 9 1 (([] : List Bs).map encS))), (12, ((.pointer (some ⟨b1, 0, none⟩)), .optr 30 [.int .i64 0, .int .i64 0, .str ([] : Bs), .hd 100 nilV, .hd 101 nilV]))]⟩) (lw [none, none, some 12]) ?_
    refine good_ret ?_
    obtain rfl := Option.some.inj h
    refine thenQ_ret ?_
    exact endQ_ret (h' := [(100, (_, _)), (101, (_, _))]) [some 100, some 101] (.cell rfl rfl tsize30 tagg30 rfl rfl rfl (.tmp rfl (.nil))) ⟨⟨_, rfl, .refl _⟩, ⟨⟨_, rfl, .refl _⟩, trivial⟩⟩ (by decide) ⟨nilV, nilV, rfl, rfl⟩
   ·replace h := bF h hc2
    refine good_skip ?_
    refine hK8 _ (kp 34 [2, 3, 5] [12, 15, 3001, 3002] ?_)
    refine good_seq fun K11 hK11 => ?_
    refine rg 1 ?_
    refine g_op rfl (o_storeP tabOk (cs' := [.int .i64 y1.1.kind, .int .i64 y1.1.num, .str y1.1.text, .hd 3001 w1, .hd 3002 w2]) rfl rfl tsize30 rfl rfl rfl (Nat.le_of_ble_eq_true rfl) rfl rfl rfl ?_)
    refine gs 1 ?_
    refine gk hK11 34 [2, 3] [12, 3001, 3002] ?_
    refine Good.le (σ' := ⟨34, [(2, .ptr 12 b1 0), (3, .bool true)], [(100, (w1, .osl 30 5 (y1.1.list.map encOVal))), (101, (w2, .osl 9 1 (y1.1.names.map encS))), (12, ((.pointer (some ⟨b1, 0, none⟩)), .optr 30 [.int .i64 y1.1.kind, .int .i64 y1.1.num, .str y1.1.text, .hd 100 w1, .hd 101 w2]))]⟩) (lw [some 3001, some 3002, some 12]) ?_
    refine good_ret ?_
    obtain rfl := Option.some.inj h
    exact endQ_ret (h' := [(100, (_, _)), (101, (_, _))]) [some 100, some 101] (.cell rfl rfl tsize30 tagg30 rfl rfl rfl (.tmp rfl (.nil))) ⟨⟨_, rfl, .refl _⟩, ⟨⟨_, rfl, .refl _⟩, trivial⟩⟩ (by decide) ⟨w1, w2, rfl, rfl⟩
  replace h := ho1
  refine rg 3 ?_
  rcases bsplit ((!y1.2.1)) with hg1 | hg1
  ·replace h := bF h (nT hg1)
   refine gs 11 ?_
   refine g_nil ?_
   exact hw1 true (Option.some.inj h).symm _ (lw [some 12, some 15, some 3001, some 3002])
  ·replace h := ifT h (nF hg1)
   refine gs 7 ?_
   rcases bsplit ((decide (y2.at_ < (a0.length : Int)))) with hg2 | hg2
   ·replace h := ifT h (dT hg2)
    refine gs 4 ?_
    refine g_nil ?_
    exact hw1 true (Option.some.inj h).symm _ (lw [some 12, some 15, some 3001, some 3002])
   ·replace h := ifF h (dF hg2)
    refine gs 1 ?_
    obtain ⟨y3, hy3, h⟩ := bnd h
    refine g_yes rfl rfl hg2 (o_callR [3001, 3002] [(_, _), (_, _)] (core_value rfl rfl) (m_impl_ValueOk_ok k y1.1 _ hy3) ⟨⟨_, rfl, .osl (FrzLL.map fun _ _ => encOVal_frz _)⟩, ⟨⟨_, rfl, .osl (FrzLL.map fun _ _ => encS_frz _)⟩, trivial⟩⟩ (.cons (.agg (.cons (.refl _) (.cons (.refl _) (.cons (.refl _) (.cons (.frz _ _ _ (.head _)) (.cons (.frz _ _ _ (.tail _ (.head _))) (.nil))))))) (.nil)) (.inr (.bool _)) rfl ?_)
    refine gs 2 ?_
    refine g_nil ?_
    exact hw1 (!y3) (Option.some.inj h).symm _ (lw [some 12, some 15, some 3001, some 3002])
theorem m_impl_JsonGet_okF (k : Nat) : ∀ (a0 : Bs) (r : (Val × Bool)), m_impl_JsonGet k a0 = some r → Does Try.prog 27 [.str a0] [] (ret (.tup [.agg [.int .i64 r.1.kind, .int .i64 r.1.num, .str r.1.text, .sl true (r.1.list.map encVal), .sl false (r.1.names.map encS)], .bool r.2])) := by
 intro a0 r h
 refine does_frz (m_impl_JsonGet_ok k a0 r h) ?_
 rintro q h' ⟨u0, u1, rfl, rfl⟩
 exact ⟨[100, 101], [(_, _), (_, _)], ⟨⟨_, rfl, .osl (FrzLL.map fun _ _ => encOVal_frz _)⟩, ⟨⟨_, rfl, .osl (FrzLL.map fun _ _ => encS_frz _)⟩, trivial⟩⟩, .tup (.cons (.agg (.cons (.refl _) (.cons (.refl _) (.cons (.refl _) (.cons (.frz _ _ _ (.head _)) (.cons (.frz _ _ _ (.tail _ (.head _))) (.nil))))))) (.cons (.refl _) (.nil)))⟩
end Go.Proofs.Ytiaigcdckmpepaa
end
end
