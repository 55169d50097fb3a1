/- Parts of a proof, put together; the conditions stand in each theorem. -/
import Derived.Test.YtiaigcdckmpepaaXO2
section
/-! Functions of the program. -/
set_option linter.unusedVariables false
set_option linter.unnecessarySimpa false
set_option maxRecDepth 100000
set_option maxHeartbeats 20000000
noncomputable section
namespace Go.Proofs.Ytiaigcdckmpepaa
open Go.Bb
def m_laws_markText_l1 : Nat → Int → Bs → Option (Lp Bs Bs)
 | 0, _, _ => none
 | k + 1, x1, x2 =>
  if 0 < x1 then
   if ((ofI [IntKind.wrap .u8 (IntKind.wrap .i64 (48 + (Int.tmod x1 10)))]) ++ x2).length ≤ maxLen then
    m_laws_markText_l1 k (IntKind.wrap .i64 (Int.tdiv x1 10)) ((ofI [IntKind.wrap .u8 (IntKind.wrap .i64 (48 + (Int.tmod x1 10)))]) ++ x2)
   else none
  else
   some (Lp.go x2)
def m_laws_markText (k : Nat) (a0 : Int) : Option Bs :=
 if a0 ≤ 0 then
  some [109, 48]
 else
  (m_laws_markText_l1 k a0 []).bind fun o1 =>
  o1.then fun s1 =>
  if ([109] ++ s1).length ≤ maxLen then
   some ([109] ++ s1)
  else none
theorem m_laws_markText_ok (k : Nat) : ∀ (a0 : Int) (r : Bs), m_laws_markText k a0 = some r → Does Try.prog 86 [.int .i64 a0] [] (ret (.str r)) := by
 intro a0 r h
 rw [m_laws_markText] at h
 refine does_of_good tabOk Try.func86 rfl (by decide +kernel) (Nat.le_of_ble_eq_true rfl) fun c => ?_
 refine Good.le (σ' := ⟨20, [(0, .int .i64 a0)], []⟩) (Le.refl _) ?_
 refine good_seq fun K1 hK1 => ?_
 refine rg 1 ?_
 refine g_nil (hK1 _ ?_)
 refine good_seq fun K2 hK2 => ?_
 refine good_seq fun K3 hK3 => ?_
 refine rg 2 ?_
 refine gk hK3 20 [0, 2, 5] [] ?_
 refine good_cond rfl (fun hc1 => ?_) (fun hc1 => ?_)
 ·replace h := ifT h (dT hc1)
  refine good_seq fun K4 hK4 => ?_
  refine rg 1 ?_
  refine gk hK4 20 [0, 2] [] ?_
  obtain rfl := Option.some.inj h
  exact rt
 ·replace h := ifF h (dF hc1)
  refine good_skip ?_
  refine hK2 _ (kp 20 [0, 2] [] ?_)
  refine good_seq fun K5 hK5 => ?_
  refine rg 1 ?_
  refine g_nil (hK5 _ ?_)
  refine good_seq fun K6 hK6 => ?_
  obtain ⟨o1, ho1, hJ1⟩ := bnd h
  have hw1 : ∀ (s1 : Bs), o1 = Lp.go s1 → ∀ σ', Le σ' ⟨20, [(2, .str []), (3, .str s1)], []⟩ → K6 σ' := by
   intro s1 e1 σ' hle1
   subst e1
   refine hK6 _ (Good.le hle1 ?_)
   replace h := hJ1
   refine good_seq fun K7 hK7 => ?_
   refine rg 1 ?_
   obtain ⟨hb1, h⟩ := ifS h
   refine g_op rfl (ValOk.op (v_cat rfl rfl hb1 rfl ?_))
   refine gs 1 ?_
   refine gk hK7 20 [2] [] ?_
   obtain rfl := Option.some.inj h
   exact rt
  replace h := ho1
  refine good_block ?_
  refine good_loopf (fun p : (Int × Bs) => ⟨20, [(0, .int .i64 p.1), (2, .str []), (3, .str p.2)], []⟩) (fun m p => m_laws_markText_l1 m p.1 p.2 = some o1) k (a0, []) (lw []) h ?_
  rintro m1 ⟨x1, x2⟩ h
  replace h : m_laws_markText_l1 m1 x1 x2 = some o1 := h
  refine Good.le (σ' := ⟨20, [(0, .int .i64 x1), (2, .str []), (3, .str x2)], []⟩) (Le.refl _) ?_
  obtain ⟨m1, rfl⟩ : ∃ m', m1 = m' + 1 := by cases m1 with | zero => (rw [m_laws_markText_l1] at h; cases h) | succ m' => exact ⟨m', rfl⟩
  rw [m_laws_markText_l1] at h
  refine good_seq fun K8 hK8 => ?_
  refine good_seq fun K9 hK9 => ?_
  refine rg 2 ?_
  refine gk hK9 20 [0, 2, 3, 7] [] ?_
  refine good_cond rfl (fun hc2 => ?_) (fun hc2 => ?_)
  ·replace h := ifT h (dT hc2)
   refine good_skip ?_
   refine hK8 _ (kp 20 [0, 2, 3] [] ?_)
   refine good_block ?_
   refine good_seq fun K10 hK10 => ?_
   refine rg 1 ?_
   refine g_op rfl (ValOk.op (v_rem rfl rfl (by decide) rfl ?_))
   refine gs 1 ?_
   refine g_op rfl (ValOk.op (v_convI tabOk rfl tkind3 tkind5 rfl ?_))
   refine g_op rfl (o_buildSlice (k := 22) (rows := [IntKind.wrap .u8 (IntKind.wrap .i64 (48 + (Int.tmod x1 10)))].map (encI .u8)) tabOk telem42 tsize5 rfl rfl rfl rfl (by decide) (by decide) (by rw [tzero5]; rfl) rfl rfl rfl rfl rfl ?_)
   intro w1
   refine g_op rfl (ValOk.op (v_bytesHI (q := 22) tabOk ⟨_, rfl⟩ rfl telem42 tkind5 tkind9 rfl ?_))
   refine gs 1 ?_
   obtain ⟨hb2, h⟩ := ifS h
   refine g_op rfl (ValOk.op (v_cat rfl rfl hb2 rfl ?_))
   refine gs 1 ?_
   refine gk hK10 20 [0, 2, 3] [] ?_
   refine rg 1 ?_
   refine g_op rfl (ValOk.op (v_quo rfl rfl (by decide) rfl ?_))
   refine gs 1 ?_
   refine g_nil ?_
   exact round_mk m1 (IntKind.wrap .i64 (Int.tdiv x1 10), (ofI [IntKind.wrap .u8 (IntKind.wrap .i64 (48 + (Int.tmod x1 10)))]) ++ x2) (Nat.lt_succ_self _) h (lw [])
  ·replace h := ifF h (dF hc2)
   refine good_exit ?_
   exact hw1 x2 (Option.some.inj h).symm _ (lw [])
def m_laws_markStringS_l1 : Nat → (List Bs) → Int → Int → Option (Lp ((List Bs) × Int) (Int × (List Bs)))
 | 0, _, _, _ => none
 | k + 1, x1, x2, x3 =>
  if x3 < (x1.length : Int) then
   (m_laws_markText k x2).bind fun y1 =>
   if (0 : Int) ≤ x3 ∧ x3 < (x1.length : Int) then
    m_laws_markStringS_l1 k (x1.set (Int.toNat x3) y1) (IntKind.wrap .i64 (x2 + 1)) (IntKind.wrap .i64 (x3 + 1))
   else none
  else
   some (Lp.go (x1, x2))
def m_laws_markStringS (k : Nat) (a0 : (List Bs)) (a1 : Int) : Option (Int × (List Bs)) :=
 (m_laws_markStringS_l1 k a0 a1 0).bind fun o1 =>
 o1.then fun s1 =>
  some (s1.2, s1.1)
theorem m_laws_markStringS_ok (k : Nat) : ∀ (a0 : (List Bs)) (a1 : Int) (v0_0 : Value) (r : (Int × (List Bs))), m_laws_markStringS k a0 a1 = some r → Does Try.prog 58 [.hd 0 v0_0, .int .i64 a1] [(0, (v0_0, .osl 9 1 (a0.map encS)))] (fun q h' => q = .int .i64 r.1 ∧ h' = [(0, (v0_0, .osl 9 1 (r.2.map encS)))]) := by
 intro a0 a1 v0_0 r h
 rw [m_laws_markStringS] at h
 refine does_of_good tabOk Try.func58 rfl (by decide +kernel) (Nat.le_of_ble_eq_true rfl) fun c => ?_
 refine Good.le (σ' := ⟨20, [(0, .hd 0 v0_0), (1, .int .i64 a1)], [(0, (v0_0, .osl 9 1 (a0.map encS)))]⟩) (Le.refl _) ?_
 refine good_seq fun K1 hK1 => ?_
 refine rg 1 ?_
 refine g_nil (hK1 _ ?_)
 refine good_seq fun K2 hK2 => ?_
 refine good_seq fun K3 hK3 => ?_
 refine rg 1 ?_
 refine g_nil (hK3 _ ?_)
 obtain ⟨o1, ho1, hJ1⟩ := bnd h
 have hw1 : ∀ (s1 : ((List Bs) × Int)), o1 = Lp.go s1 → ∀ σ', Le σ' ⟨20, [(1, .int .i64 s1.2), (4, .int .i64 0)], [(0, (v0_0, .osl 9 1 (s1.1.map encS)))]⟩ → K2 σ' := by
  intro s1 e1 σ' hle1
  subst e1
  refine hK2 _ (Good.le hle1 ?_)
  replace h := hJ1
  refine good_seq fun K4 hK4 => ?_
  refine rg 2 ?_
  refine gk hK4 20 [4] [0] ?_
  refine Good.le (σ' := ⟨20, [(4, .int .i64 s1.2)], [(0, (v0_0, .osl 9 1 (s1.1.map encS)))]⟩) (lw [some 0]) ?_
  refine good_ret ?_
  obtain rfl := Option.some.inj h
  exact endQ_ret (h' := [(0, (_, _))]) [some 0] (.tmp rfl (.nil)) ⟨⟨_, rfl, .refl _⟩, trivial⟩ (by decide) ⟨rfl, rfl⟩
 replace h := ho1
 refine good_block ?_
 refine good_loopf (fun p : ((List Bs) × Int × Int) => ⟨20, [(0, .hd 0 v0_0), (1, .int .i64 p.2.1), (4, .int .i64 0), (5, .int .i64 p.2.2)], [(0, (v0_0, .osl 9 1 (p.1.map encS)))]⟩) (fun m p => m_laws_markStringS_l1 m p.1 p.2.1 p.2.2 = some o1) k (a0, a1, 0) (lw [some 0]) h ?_
 rintro m1 ⟨x1, x2, x3⟩ h
 replace h : m_laws_markStringS_l1 m1 x1 x2 x3 = some o1 := h
 refine Good.le (σ' := ⟨20, [(0, .hd 0 v0_0), (1, .int .i64 x2), (4, .int .i64 0), (5, .int .i64 x3)], [(0, (v0_0, .osl 9 1 (x1.map encS)))]⟩) (Le.refl _) ?_
 obtain ⟨m1, rfl⟩ : ∃ m', m1 = m' + 1 := by cases m1 with | zero => (rw [m_laws_markStringS_l1] at h; cases h) | succ m' => exact ⟨m', rfl⟩
 rw [m_laws_markStringS_l1] at h
 refine good_seq fun K5 hK5 => ?_
 refine good_seq fun K6 hK6 => ?_
 refine rg 2 ?_
 refine g_op rfl (ValOk.op (v_lenHM (q := 0) tabOk ⟨_, rfl⟩ rfl rfl telem23 rfl ?_))
 refine gs 1 ?_
 refine gk hK6 20 [0, 1, 4, 5, 9] [0] ?_
 refine good_cond rfl (fun hc1 => ?_) (fun hc1 => ?_)
 ·replace h := ifT h (dT hc1)
  refine good_skip ?_
  refine hK5 _ (kp 20 [0, 1, 4, 5] [0] ?_)
  refine good_seq fun K7 hK7 => ?_
  refine good_block ?_
  refine good_seq fun K8 hK8 => ?_
  refine rg 3 ?_
  obtain ⟨y1, hy1, h⟩ := bnd h
  refine g_op rfl (o_callR [] [] (core_value rfl rfl) (m_laws_markText_ok m1 x2 _ hy1) trivial (.cons (.refl _) (.nil)) (.inl rfl) rfl ?_)
  obtain ⟨hb1, h⟩ := ifS h
  refine g_op rfl (ValOk.op (v_idxHM (q := 0) tabOk ⟨_, rfl⟩ rfl rfl telem23 tsize9 hb1 rfl ?_))
  refine g_op rfl (o_storeRM tabOk (z := y1) rfl rfl tsize9 rfl hb1 rfl rfl rfl (by decide) rfl rfl rfl rfl ?_)
  refine gk hK8 20 [0, 1, 4, 5] [0] ?_
  refine rg 3 ?_
  refine gk hK7 20 [0, 1, 4, 5] [0] ?_
  refine rg 3 ?_
  refine g_nil ?_
  exact round_mk m1 (x1.set (Int.toNat x3) y1, IntKind.wrap .i64 (x2 + 1), IntKind.wrap .i64 (x3 + 1)) (Nat.lt_succ_self _) h (lw [some 0])
 ·replace h := ifF h (dF hc1)
  refine good_exit ?_
  exact hw1 (x1, x2) (Option.some.inj h).symm _ (lw [some 0])
mutual
def m_laws_markValueS_l1 : Nat → (List Val) → Int → Int → Option (Lp ((List Val) × Int) (Int × (List Val)))
 | 0, _, _, _ => none
 | k + 1, x1, x2, x3 =>
  if x3 < (x1.length : Int) then
   if (0 : Int) ≤ x3 ∧ x3 < (x1.length : Int) then
    (m_laws_markText k (IntKind.wrap .i64 ((IntKind.wrap .i64 (x2 + 1)) + 1))).bind fun y1 =>
    (m_laws_markValueS k ((ix x1 x3).list) (IntKind.wrap .i64 ((IntKind.wrap .i64 ((IntKind.wrap .i64 (x2 + 1)) + 1)) + 1))).bind fun y2 =>
    (m_laws_markStringS k ((ix x1 x3).names) y2.1).bind fun y3 =>
    m_laws_markValueS_l1 k (x1.set (Int.toNat x3) (Val.mk x2 (IntKind.wrap .i64 (x2 + 1)) y1 y2.2 y3.2)) y3.1 (IntKind.wrap .i64 (x3 + 1))
   else none
  else
   some (Lp.go (x1, x2))
def m_laws_markValueS : Nat → (List Val) → Int → Option (Int × (List Val))
 | 0, _, _ => none
 | k + 1, a0, a1 =>
  (m_laws_markValueS_l1 k a0 a1 0).bind fun o1 =>
  o1.then fun s1 =>
  some (s1.2, s1.1)
end
def P_m_laws_markValueS (k : Nat) : Prop := ∀ (a0 : (List Val)) (a1 : Int) (v0_0 : Value) (r : (Int × (List Val))), m_laws_markValueS k a0 a1 = some r → Does Try.prog 57 [.hd 0 v0_0, .int .i64 a1] [(0, (v0_0, .osl 30 5 (a0.map encOVal)))] (fun q h' => q = .int .i64 r.1 ∧ h' = [(0, (v0_0, .osl 30 5 (r.2.map encOVal)))])
theorem m_laws_markValueS_step (k : Nat) (ih : ∀ m, m < k → P_m_laws_markValueS m) : P_m_laws_markValueS k := by
 intro a0 a1 v0_0 r h
 obtain ⟨k, rfl⟩ : ∃ k', k = k' + 1 := by cases k with | zero => (rw [m_laws_markValueS] at h; cases h) | succ k' => exact ⟨k', rfl⟩
 rw [m_laws_markValueS] at h
 refine does_of_good tabOk Try.func57 rfl (by decide +kernel) (Nat.le_of_ble_eq_true rfl) fun c => ?_
 refine Good.le (σ' := ⟨49, [(0, .hd 0 v0_0), (1, .int .i64 a1)], [(0, (v0_0, .osl 30 5 (a0.map encOVal)))]⟩) (Le.refl _) ?_
 refine good_seq fun K1 hK1 => ?_
 refine rg 1 ?_
 refine g_nil (hK1 _ ?_)
 refine good_seq fun K2 hK2 => ?_
 refine good_seq fun K3 hK3 => ?_
 refine rg 1 ?_
 refine g_nil (hK3 _ ?_)
 obtain ⟨o1, ho1, hJ1⟩ := bnd h
 have hw1 : ∀ (s1 : ((List Val) × Int)), o1 = Lp.go s1 → ∀ σ', Le σ' ⟨49, [(1, .int .i64 s1.2), (4, .int .i64 0)], [(0, (v0_0, .osl 30 5 (s1.1.map encOVal)))]⟩ → K2 σ' := by
  intro s1 e1 σ' hle1
  subst e1
  refine hK2 _ (Good.le hle1 ?_)
  replace h := hJ1
  refine good_seq fun K4 hK4 => ?_
  refine rg 2 ?_
  refine gk hK4 49 [4] [0] ?_
  refine Good.le (σ' := ⟨49, [(4, .int .i64 s1.2)], [(0, (v0_0, .osl 30 5 (s1.1.map encOVal)))]⟩) (lw [some 0]) ?_
  refine good_ret ?_
  obtain rfl := Option.some.inj h
  exact endQ_ret (h' := [(0, (_, _))]) [some 0] (.tmp rfl (.nil)) ⟨⟨_, rfl, .refl _⟩, trivial⟩ (by decide) ⟨rfl, rfl⟩
 replace h := ho1
 refine good_block ?_
 refine good_loopf (fun p : ((List Val) × Int × Int) => ⟨49, [(0, .hd 0 v0_0), (1, .int .i64 p.2.1), (4, .int .i64 0), (5, .int .i64 p.2.2)], [(0, (v0_0, .osl 30 5 (p.1.map encOVal)))]⟩) (fun m p => m < k + 1 ∧ m_laws_markValueS_l1 m p.1 p.2.1 p.2.2 = some o1) k (a0, a1, 0) (lw [some 0]) ⟨by omega, h⟩ ?_
 rintro m1 ⟨x1, x2, x3⟩ ⟨hm, h⟩
 replace h : m_laws_markValueS_l1 m1 x1 x2 x3 = some o1 := h
 refine Good.le (σ' := ⟨49, [(0, .hd 0 v0_0), (1, .int .i64 x2), (4, .int .i64 0), (5, .int .i64 x3)], [(0, (v0_0, .osl 30 5 (x1.map encOVal)))]⟩) (Le.refl _) ?_
 obtain ⟨m1, rfl⟩ : ∃ m', m1 = m' + 1 := by cases m1 with | zero => (rw [m_laws_markValueS_l1] at h; cases h) | succ m' => exact ⟨m', rfl⟩
 rw [m_laws_markValueS_l1] at h
 refine good_seq fun K5 hK5 => ?_
 refine good_seq fun K6 hK6 => ?_
 refine rg 2 ?_
 refine g_op rfl (ValOk.op (v_lenHM (q := 0) tabOk ⟨_, rfl⟩ rfl rfl telem28 rfl ?_))
 refine gs 1 ?_
 refine gk hK6 49 [0, 1, 4, 5, 9] [0] ?_
 refine good_cond rfl (fun hc1 => ?_) (fun hc1 => ?_)
 ·replace h := ifT h (dT hc1)
  refine good_skip ?_
  refine hK5 _ (kp 49 [0, 1, 4, 5] [0] ?_)
  refine good_seq fun K7 hK7 => ?_
  refine good_block ?_
  refine good_seq fun K8 hK8 => ?_
  refine rg 3 ?_
  obtain ⟨hb1, h⟩ := ifS h
  refine g_op rfl (ValOk.op (v_idxHM (q := 0) tabOk ⟨_, rfl⟩ rfl rfl telem28 tsize30 hb1 rfl ?_))
  refine g_op rfl (ValOk.op (v_fieldR tabOk rfl tfoff30_0 rfl ?_))
  refine g_op rfl (o_storeRM tabOk (z := (Val.mk x2 ((ix x1 x3).num) ((ix x1 x3).text) ((ix x1 x3).list) ((ix x1 x3).names))) rfl rfl tsize3 rfl hb1 (encOVal_eq _) rfl rfl (by decide) rfl rfl (encOVal_eq _) rfl ?_)
  refine gk hK8 49 [0, 1, 4, 5] [0] ?_
  refine good_seq fun K9 hK9 => ?_
  refine rg 3 ?_
  refine gk hK9 49 [0, 1, 4, 5] [0] ?_
  refine good_seq fun K10 hK10 => ?_
  refine rg 3 ?_
  have hb2 : (0 : Int) ≤ x3 ∧ x3 < ((x1.set (Int.toNat x3) (Val.mk x2 ((ix x1 x3).num) ((ix x1 x3).text) ((ix x1 x3).list) ((ix x1 x3).names))).length : Int) := len_setI hb1
  refine g_op rfl (ValOk.op (v_idxHM (q := 0) tabOk ⟨_, rfl⟩ rfl rfl telem28 tsize30 hb2 rfl ?_))
  refine g_op rfl (ValOk.op (v_fieldR tabOk rfl tfoff30_1 rfl ?_))
  refine g_op rfl (o_storeRU tabOk (z := (Val.mk x2 (IntKind.wrap .i64 (x2 + 1)) ((ix x1 x3).text) ((ix x1 x3).list) ((ix x1 x3).names))) rfl rfl tsize3 rfl hb2 ((congrArg encOVal (ix_setI hb1)).trans (encOVal_eq _)) rfl rfl (by decide) rfl rfl (encOVal_eq _) rfl ?_)
  refine gk hK10 49 [0, 1, 4, 5] [0] ?_
  refine good_seq fun K11 hK11 => ?_
  refine rg 3 ?_
  refine gk hK11 49 [0, 1, 4, 5] [0] ?_
  refine good_seq fun K12 hK12 => ?_
  refine rg 3 ?_
  obtain ⟨y1, hy1, h⟩ := bnd h
  refine g_op rfl (o_callR [] [] (core_value rfl rfl) (m_laws_markText_ok m1 (IntKind.wrap .i64 ((IntKind.wrap .i64 (x2 + 1)) + 1)) _ hy1) trivial (.cons (.refl _) (.nil)) (.inl rfl) rfl ?_)
  have hb3 : (0 : Int) ≤ x3 ∧ x3 < ((x1.set (Int.toNat x3) (Val.mk x2 (IntKind.wrap .i64 (x2 + 1)) ((ix x1 x3).text) ((ix x1 x3).list) ((ix x1 x3).names))).length : Int) := len_setI hb1
  refine g_op rfl (ValOk.op (v_idxHM (q := 0) tabOk ⟨_, rfl⟩ rfl rfl telem28 tsize30 hb3 rfl ?_))
  refine g_op rfl (ValOk.op (v_fieldR tabOk rfl tfoff30_2 rfl ?_))
  refine g_op rfl (o_storeRU tabOk (z := (Val.mk x2 (IntKind.wrap .i64 (x2 + 1)) y1 ((ix x1 x3).list) ((ix x1 x3).names))) rfl rfl tsize9 rfl hb3 ((congrArg encOVal (ix_setI hb1)).trans (encOVal_eq _)) rfl rfl (by decide) rfl rfl (encOVal_eq _) rfl ?_)
  refine gk hK12 49 [0, 1, 4, 5] [0] ?_
  refine good_seq fun K13 hK13 => ?_
  refine rg 3 ?_
  refine gk hK13 49 [0, 1, 4, 5] [0] ?_
  refine good_seq fun K14 hK14 => ?_
  refine rg 2 ?_
  have hb4 : (0 : Int) ≤ x3 ∧ x3 < ((x1.set (Int.toNat x3) (Val.mk x2 (IntKind.wrap .i64 (x2 + 1)) y1 ((ix x1 x3).list) ((ix x1 x3).names))).length : Int) := len_setI hb1
  refine g_op rfl (ValOk.op (v_idxHM (q := 0) tabOk ⟨_, rfl⟩ rfl rfl telem28 tsize30 hb4 rfl ?_))
  refine g_op rfl (ValOk.op (v_fieldR tabOk rfl tfoff30_3 rfl ?_))
  refine g_leE (le_focus (k := 0) (row := [.int .i64 x2, .int .i64 (IntKind.wrap .i64 (x2 + 1)), .str y1, .osl 30 5 (((ix x1 x3).list).map encOVal), .osl 9 1 (((ix x1 x3).names).map encS)]) (Int.toNat x3) 3 8001 rfl rfl ((get_map hb4.1 hb4.2).trans (congrArg some ((congrArg encOVal (ix_setI hb1)).trans (encOVal_eq _)))) rfl) ?_
  intro w1
  refine g_op rfl (ValOk.op (v_loadR tabOk rfl rfl (rows_set_get (by have := hb4; simp only [List.length_map]; omega)) tsize28 tagg28 rfl rfl rfl rfl ?_))
  refine gs 1 ?_
  obtain ⟨y2, hy2, h⟩ := bnd h
  refine g_op rfl (o_callD [] [] [8001] (core_value rfl rfl) ((ih m1 (by omega)) ((ix x1 x3).list) (IntKind.wrap .i64 ((IntKind.wrap .i64 ((IntKind.wrap .i64 (x2 + 1)) + 1)) + 1)) _ _ hy2) trivial (.cons (.hd _ _ _) (.cons (.refl _) (.nil))) ⟨rfl, trivial⟩ rfl rfl rfl ?_)
  rintro _ _ ⟨rfl, rfl⟩
  refine ⟨_, [(8001, _)], .refl _, rfl, rfl, rfl, rfl, .inl rfl, ?_⟩
  refine gs 1 ?_
  refine g_le (le_absorb (k := 0) (k2 := 8001) (rows' := (x1.set (Int.toNat x3) (Val.mk x2 (IntKind.wrap .i64 (x2 + 1)) y1 y2.2 ((ix x1 x3).names))).map encOVal) (Int.toNat x3) 3 _ rfl rfl (by decide) (rows_set_get (by have := hb4; simp only [List.length_map]; omega)) rfl (rows_set_done2 (f := encOVal) (z := (Val.mk x2 (IntKind.wrap .i64 (x2 + 1)) y1 y2.2 ((ix x1 x3).names))) (encOVal_eq _))) ?_
  refine gk hK14 49 [0, 1, 4, 5] [0] ?_
  refine rg 2 ?_
  have hb5 : (0 : Int) ≤ x3 ∧ x3 < ((x1.set (Int.toNat x3) (Val.mk x2 (IntKind.wrap .i64 (x2 + 1)) y1 y2.2 ((ix x1 x3).names))).length : Int) := len_setI hb1
  refine g_op rfl (ValOk.op (v_idxHM (q := 0) tabOk ⟨_, rfl⟩ rfl rfl telem28 tsize30 hb5 rfl ?_))
  refine g_op rfl (ValOk.op (v_fieldR tabOk rfl tfoff30_4 rfl ?_))
  refine g_leE (le_focus (k := 0) (row := [.int .i64 x2, .int .i64 (IntKind.wrap .i64 (x2 + 1)), .str y1, .osl 30 5 (y2.2.map encOVal), .osl 9 1 (((ix x1 x3).names).map encS)]) (Int.toNat x3) 4 8002 rfl rfl ((get_map hb5.1 hb5.2).trans (congrArg some ((congrArg encOVal (ix_setI hb1)).trans (encOVal_eq _)))) rfl) ?_
  intro w2
  refine g_op rfl (ValOk.op (v_loadR tabOk rfl rfl (rows_set_get (by have := hb5; simp only [List.length_map]; omega)) tsize23 tagg23 rfl rfl rfl rfl ?_))
  refine gs 1 ?_
  obtain ⟨y3, hy3, h⟩ := bnd h
  refine g_op rfl (o_callD [] [] [8002] (core_value rfl rfl) (m_laws_markStringS_ok m1 ((ix x1 x3).names) y2.1 _ _ hy3) trivial (.cons (.hd _ _ _) (.cons (.refl _) (.nil))) ⟨rfl, trivial⟩ rfl rfl rfl ?_)
  rintro _ _ ⟨rfl, rfl⟩
  refine ⟨_, [(8002, _)], .refl _, rfl, rfl, rfl, rfl, .inl rfl, ?_⟩
  refine gs 1 ?_
  refine g_le (le_absorb (k := 0) (k2 := 8002) (rows' := (x1.set (Int.toNat x3) (Val.mk x2 (IntKind.wrap .i64 (x2 + 1)) y1 y2.2 y3.2)).map encOVal) (Int.toNat x3) 4 _ rfl rfl (by decide) (rows_set_get (by have := hb5; simp only [List.length_map]; omega)) rfl (rows_set_done2 (f := encOVal) (z := (Val.mk x2 (IntKind.wrap .i64 (x2 + 1)) y1 y2.2 y3.2)) (encOVal_eq _))) ?_
  refine gk hK7 49 [0, 1, 4, 5] [0] ?_
  refine rg 3 ?_
  refine g_nil ?_
  exact round_mk m1 (x1.set (Int.toNat x3) (Val.mk x2 (IntKind.wrap .i64 (x2 + 1)) y1 y2.2 y3.2), y3.1, IntKind.wrap .i64 (x3 + 1)) (Nat.lt_succ_self _) ⟨by omega, h⟩ (lw [some 0])
 ·replace h := ifF h (dF hc1)
  refine good_exit ?_
  exact hw1 (x1, x2) (Option.some.inj h).symm _ (lw [some 0])
theorem m_laws_markValueS_all (k : Nat) : P_m_laws_markValueS k := by
 induction k using Nat.strongRecOn with
 | _ k ih => exact m_laws_markValueS_step k ih
theorem m_laws_markValueS_ok (k : Nat) : ∀ (a0 : (List Val)) (a1 : Int) (v0_0 : Value) (r : (Int × (List Val))), m_laws_markValueS k a0 a1 = some r → Does Try.prog 57 [.hd 0 v0_0, .int .i64 a1] [(0, (v0_0, .osl 30 5 (a0.map encOVal)))] (fun q h' => q = .int .i64 r.1 ∧ h' = [(0, (v0_0, .osl 30 5 (r.2.map encOVal)))]) := (m_laws_markValueS_all k)
def m_laws_markValue (k : Nat) (a0 : Val) (a1 : Int) : Option (Int × (List Val) × (List Bs)) :=
 (m_laws_markValueS k a0.list a1).bind fun y1 =>
 (m_laws_markStringS k a0.names y1.1).bind fun y2 =>
 some (y2.1, y1.2, y2.2)
theorem m_laws_markValue_ok (k : Nat) : ∀ (a0 : Val) (a1 : Int) (v0_0 : Value) (v0_1 : Value) (r : (Int × (List Val) × (List Bs))), m_laws_markValue k a0 a1 = some r → Does Try.prog 24 [.agg [.int .i64 a0.kind, .int .i64 a0.num, .str a0.text, .hd 0 v0_0, .hd 1 v0_1], .int .i64 a1] [(0, (v0_0, .osl 30 5 (a0.list.map encOVal))), (1, (v0_1, .osl 9 1 (a0.names.map encS)))] (fun q h' => q = .int .i64 r.1 ∧ h' = [(0, (v0_0, .osl 30 5 (r.2.1.map encOVal))), (1, (v0_1, .osl 9 1 (r.2.2.map encS)))]) := by
 intro a0 a1 v0_0 v0_1 r h
 rw [m_laws_markValue] at h
 refine does_of_good tabOk Try.func24 rfl (by decide +kernel) (Nat.le_of_ble_eq_true rfl) fun c => ?_
 refine Good.le (σ' := ⟨14, [(0, .agg [.int .i64 a0.kind, .int .i64 a0.num, .str a0.text, .hd 0 v0_0, .hd 1 v0_1]), (1, .int .i64 a1)], [(0, (v0_0, .osl 30 5 (a0.list.map encOVal))), (1, (v0_1, .osl 9 1 (a0.names.map encS)))]⟩) (Le.refl _) ?_
 refine good_seq fun K1 hK1 => ?_
 refine good_region ?_
 refine g_op rfl (o_box (k := 12) tabOk rfl rfl rfl rfl rfl ?_)
 intro b1
 refine gs 1 ?_
 refine gk hK1 14 [1, 2, 4] [12, 0, 1] ?_
 refine good_seq fun K2 hK2 => ?_
 refine rg 3 ?_
 obtain ⟨y1, hy1, h⟩ := bnd h
 refine g_op rfl (o_callD [] [] [0] (core_value rfl rfl) (m_laws_markValueS_ok k a0.list a1 _ _ hy1) trivial (.cons (.hd _ _ _) (.cons (.refl _) (.nil))) ⟨rfl, trivial⟩ rfl rfl rfl ?_)
 rintro _ _ ⟨rfl, rfl⟩
 refine ⟨_, [(0, _)], .refl _, rfl, rfl, rfl, rfl, .inl rfl, ?_⟩
 refine gs 1 ?_
 refine gk hK2 14 [1, 2, 4] [12, 0, 1] ?_
 refine good_seq fun K3 hK3 => ?_
 refine rg 3 ?_
 obtain ⟨y2, hy2, h⟩ := bnd h
 refine g_op rfl (o_callD [] [] [1] (core_value rfl rfl) (m_laws_markStringS_ok k a0.names y1.1 _ _ hy2) trivial (.cons (.hd _ _ _) (.cons (.refl _) (.nil))) ⟨rfl, trivial⟩ rfl rfl rfl ?_)
 rintro _ _ ⟨rfl, rfl⟩
 refine ⟨_, [(1, _)], .refl _, rfl, rfl, rfl, rfl, .inl rfl, ?_⟩
 refine gs 1 ?_
 refine gk hK3 14 [1, 4] [0, 1] ?_
 refine good_seq fun K4 hK4 => ?_
 refine rg 2 ?_
 refine gk hK4 14 [4] [0, 1] ?_
 refine Good.le (σ' := ⟨14, [(4, .int .i64 y2.1)], [(0, (v0_0, .osl 30 5 (y1.2.map encOVal))), (1, (v0_1, .osl 9 1 (y2.2.map encS)))]⟩) (lw [some 0, some 1]) ?_
 refine good_ret ?_
 obtain rfl := Option.some.inj h
 exact endQ_ret (h' := [(0, (_, _)), (1, (_, _))]) [some 0, some 1] (.tmp rfl (.nil)) ⟨⟨_, rfl, .refl _⟩, ⟨⟨_, rfl, .refl _⟩, trivial⟩⟩ (by decide) ⟨rfl, rfl⟩
def m_laws_heldStringS_l1 : Nat → (List Bs) → Int → Int → Option (Lp Int Int)
 | 0, _, _, _ => none
 | k + 1, a0, x1, x2 =>
  if x2 < (a0.length : Int) then
   if (0 : Int) ≤ x2 ∧ x2 < (a0.length : Int) then
    (m_laws_markText k x1).bind fun y1 =>
    if (ix a0 x2) = y1 then
     m_laws_heldStringS_l1 k a0 (IntKind.wrap .i64 (x1 + 1)) (IntKind.wrap .i64 (x2 + 1))
    else
     (some (-1)).bind fun z =>
     some (Lp.ret z)
   else none
  else
   some (Lp.go x1)
def m_laws_heldStringS (k : Nat) (a0 : (List Bs)) (a1 : Int) : Option Int :=
 (m_laws_heldStringS_l1 k a0 a1 0).bind fun o1 =>
 o1.then fun s1 =>
  some s1
theorem m_laws_heldStringS_ok (k : Nat) : ∀ (a0 : (List Bs)) (a1 : Int) (r : Int), m_laws_heldStringS k a0 a1 = some r → Does Try.prog 60 [.sl false (a0.map encS), .int .i64 a1] [] (ret (.int .i64 r)) := by
 intro a0 a1 r h
 rw [m_laws_heldStringS] at h
 refine does_of_good tabOk Try.func60 rfl (by decide +kernel) (Nat.le_of_ble_eq_true rfl) fun c => ?_
 refine Good.le (σ' := ⟨22, [(0, .sl false (a0.map encS)), (1, .int .i64 a1)], []⟩) (Le.refl _) ?_
 refine good_seq fun K1 hK1 => ?_
 refine rg 1 ?_
 refine g_nil (hK1 _ ?_)
 refine good_seq fun K2 hK2 => ?_
 refine good_seq fun K3 hK3 => ?_
 refine rg 1 ?_
 refine g_nil (hK3 _ ?_)
 obtain ⟨o1, ho1, hJ1⟩ := bnd h
 have hw1 : ∀ (s1 : Int), o1 = Lp.go s1 → ∀ σ', Le σ' ⟨22, [(1, .int .i64 s1), (4, .int .i64 0)], []⟩ → K2 σ' := by
  intro s1 e1 σ' hle1
  subst e1
  refine hK2 _ (Good.le hle1 ?_)
  replace h := hJ1
  refine good_seq fun K4 hK4 => ?_
  refine rg 2 ?_
  refine gk hK4 22 [4] [] ?_
  obtain rfl := Option.some.inj h
  exact rt
 replace h := ho1
 refine good_block ?_
 refine good_loopf (fun p : (Int × Int) => ⟨22, [(0, .sl false (a0.map encS)), (1, .int .i64 p.1), (4, .int .i64 0), (5, .int .i64 p.2)], []⟩) (fun m p => m_laws_heldStringS_l1 m a0 p.1 p.2 = some o1) k (a1, 0) (lw []) h ?_
 rintro m1 ⟨x1, x2⟩ h
 replace h : m_laws_heldStringS_l1 m1 a0 x1 x2 = some o1 := h
 refine Good.le (σ' := ⟨22, [(0, .sl false (a0.map encS)), (1, .int .i64 x1), (4, .int .i64 0), (5, .int .i64 x2)], []⟩) (Le.refl _) ?_
 obtain ⟨m1, rfl⟩ : ∃ m', m1 = m' + 1 := by cases m1 with | zero => (rw [m_laws_heldStringS_l1] at h; cases h) | succ m' => exact ⟨m', rfl⟩
 rw [m_laws_heldStringS_l1] at h
 refine good_seq fun K5 hK5 => ?_
 refine good_seq fun K6 hK6 => ?_
 refine rg 2 ?_
 refine g_op rfl (ValOk.op (v_lenM (l := a0) (f := encS) tabOk rfl rfl telem23 rfl ?_))
 refine gs 1 ?_
 refine gk hK6 22 [0, 1, 4, 5, 9] [] ?_
 refine good_cond rfl (fun hc1 => ?_) (fun hc1 => ?_)
 ·replace h := ifT h (dT hc1)
  refine good_skip ?_
  refine hK5 _ (kp 22 [0, 1, 4, 5] [] ?_)
  refine good_seq fun K7 hK7 => ?_
  refine good_block ?_
  refine good_seq fun K8 hK8 => ?_
  refine good_seq fun K9 hK9 => ?_
  refine good_draw (by kernel_rfl) (by kernel_rfl) ?_
  refine q_op rfl (v_move rfl rfl ?_)
  refine q_op rfl (v_move rfl rfl ?_)
  obtain ⟨hb1, h⟩ := ifS h
  refine q_op rfl (v_idxM tabOk rfl rfl telem23 tsize9 hb1 rfl rfl rfl ?_)
  refine q_op rfl (v_loadE tabOk rfl tsize9 tagg9 rfl rfl rfl ?_)
  refine q_op rfl (v_move rfl rfl ?_)
  obtain ⟨y1, hy1, h⟩ := bnd h
  refine q_call [] [] (fun _ _ _ _ _ => wanted_none rfl _) (core_value rfl rfl) (m_laws_markText_ok m1 x1 _ hy1) trivial (.cons (.refl _) (.nil)) (.str _) rfl ?_
  refine q_op rfl (v_bin rfl rfl rfl rfl ?_)
  refine q_nil ?_
  refine hK9 _ (kp 22 [0, 1, 4, 5, 18] [] ?_)
  refine good_cond rfl (fun hc2 => ?_) (fun hc2 => ?_)
  ·replace h := ifF h (ndT hc2)
   refine good_seq fun K10 hK10 => ?_
   refine rg 1 ?_
   refine gk hK10 22 [0, 1, 4, 5] [] ?_
   replace h := unret h hJ1
   obtain rfl := Option.some.inj h
   exact rt
  ·replace h := ifT h (ndF hc2)
   refine good_skip ?_
   refine hK8 _ (kp 22 [0, 1, 4, 5] [] ?_)
   refine rg 3 ?_
   refine gk hK7 22 [0, 1, 4, 5] [] ?_
   refine rg 3 ?_
   refine g_nil ?_
   exact round_mk m1 (IntKind.wrap .i64 (x1 + 1), IntKind.wrap .i64 (x2 + 1)) (Nat.lt_succ_self _) h (lw [])
 ·replace h := ifF h (dF hc1)
  refine good_exit ?_
  exact hw1 x1 (Option.some.inj h).symm _ (lw [])
mutual
def m_laws_heldValueS_l1 : Nat → (List Val) → Int → Int → Option (Lp Int Int)
 | 0, _, _, _ => none
 | k + 1, a0, x1, x2 =>
  if x2 < (a0.length : Int) then
   if (0 : Int) ≤ x2 ∧ x2 < (a0.length : Int) then
    if ((ix a0 x2).kind) = x1 then
     if (0 : Int) ≤ x2 ∧ x2 < (a0.length : Int) then
      if ((ix a0 x2).num) = (IntKind.wrap .i64 (x1 + 1)) then
       if (0 : Int) ≤ x2 ∧ x2 < (a0.length : Int) then
        (m_laws_markText k (IntKind.wrap .i64 ((IntKind.wrap .i64 (x1 + 1)) + 1))).bind fun y1 =>
        if ((ix a0 x2).text) = y1 then
         if (0 : Int) ≤ x2 ∧ x2 < (a0.length : Int) then
          (m_laws_heldValueS k ((ix a0 x2).list) (IntKind.wrap .i64 ((IntKind.wrap .i64 ((IntKind.wrap .i64 (x1 + 1)) + 1)) + 1))).bind fun y2 =>
          if y2 < 0 then
           (some (-1)).bind fun z =>
           some (Lp.ret z)
          else
           if (0 : Int) ≤ x2 ∧ x2 < (a0.length : Int) then
            (m_laws_heldStringS k ((ix a0 x2).names) y2).bind fun y3 =>
            if y3 < 0 then
             (some (-1)).bind fun z =>
             some (Lp.ret z)
            else
             m_laws_heldValueS_l1 k a0 y3 (IntKind.wrap .i64 (x2 + 1))
           else none
         else none
        else
         (some (-1)).bind fun z =>
         some (Lp.ret z)
       else none
      else
       (some (-1)).bind fun z =>
       some (Lp.ret z)
     else none
    else
     (some (-1)).bind fun z =>
     some (Lp.ret z)
   else none
  else
   some (Lp.go x1)
def m_laws_heldValueS : Nat → (List Val) → Int → Option Int
 | 0, _, _ => none
 | k + 1, a0, a1 =>
  (m_laws_heldValueS_l1 k a0 a1 0).bind fun o1 =>
  o1.then fun s1 =>
  some s1
end
def P_m_laws_heldValueS (k : Nat) : Prop := ∀ (a0 : (List Val)) (a1 : Int) (r : Int), m_laws_heldValueS k a0 a1 = some r → Does Try.prog 59 [.sl true (a0.map encVal), .int .i64 a1] [] (ret (.int .i64 r))
theorem m_laws_heldValueS_step (k : Nat) (ih : ∀ m, m < k → P_m_laws_heldValueS m) : P_m_laws_heldValueS k := by
 intro a0 a1 r h
 obtain ⟨k, rfl⟩ : ∃ k', k = k' + 1 := by cases k with | zero => (rw [m_laws_heldValueS] at h; cases h) | succ k' => exact ⟨k', rfl⟩
 rw [m_laws_heldValueS] at h
 refine does_of_good tabOk Try.func59 rfl (by decide +kernel) (Nat.le_of_ble_eq_true rfl) fun c => ?_
 refine Good.le (σ' := ⟨59, [(0, .sl true (a0.map encVal)), (1, .int .i64 a1)], []⟩) (Le.refl _) ?_
 refine good_seq fun K1 hK1 => ?_
 refine rg 1 ?_
 refine g_nil (hK1 _ ?_)
 refine good_seq fun K2 hK2 => ?_
 refine good_seq fun K3 hK3 => ?_
 refine rg 1 ?_
 refine g_nil (hK3 _ ?_)
 obtain ⟨o1, ho1, hJ1⟩ := bnd h
 have hw1 : ∀ (s1 : Int), o1 = Lp.go s1 → ∀ σ', Le σ' ⟨59, [(1, .int .i64 s1), (4, .int .i64 0)], []⟩ → K2 σ' := by
  intro s1 e1 σ' hle1
  subst e1
  refine hK2 _ (Good.le hle1 ?_)
  replace h := hJ1
  refine good_seq fun K4 hK4 => ?_
  refine rg 2 ?_
  refine gk hK4 59 [4] [] ?_
  obtain rfl := Option.some.inj h
  exact rt
 replace h := ho1
 refine good_block ?_
 refine good_loopf (fun p : (Int × Int) => ⟨59, [(0, .sl true (a0.map encVal)), (1, .int .i64 p.1), (4, .int .i64 0), (5, .int .i64 p.2)], []⟩) (fun m p => m < k + 1 ∧ m_laws_heldValueS_l1 m a0 p.1 p.2 = some o1) k (a1, 0) (lw []) ⟨by omega, h⟩ ?_
 rintro m1 ⟨x1, x2⟩ ⟨hm, h⟩
 replace h : m_laws_heldValueS_l1 m1 a0 x1 x2 = some o1 := h
 refine Good.le (σ' := ⟨59, [(0, .sl true (a0.map encVal)), (1, .int .i64 x1), (4, .int .i64 0), (5, .int .i64 x2)], []⟩) (Le.refl _) ?_
 obtain ⟨m1, rfl⟩ : ∃ m', m1 = m' + 1 := by cases m1 with | zero => (rw [m_laws_heldValueS_l1] at h; cases h) | succ m' => exact ⟨m', rfl⟩
 rw [m_laws_heldValueS_l1] at h
 refine good_seq fun K5 hK5 => ?_
 refine good_seq fun K6 hK6 => ?_
 refine rg 2 ?_
 refine g_op rfl (ValOk.op (v_lenM (l := a0) (f := encVal) tabOk rfl rfl telem28 rfl ?_))
 refine gs 1 ?_
 refine gk hK6 59 [0, 1, 4, 5, 9] [] ?_
 refine good_cond rfl (fun hc1 => ?_) (fun hc1 => ?_)
 ·replace h := ifT h (dT hc1)
  refine good_skip ?_
  refine hK5 _ (kp 59 [0, 1, 4, 5] [] ?_)
  refine good_seq fun K7 hK7 => ?_
  refine good_block ?_
  refine good_seq fun K8 hK8 => ?_
  refine good_seq fun K9 hK9 => ?_
  refine rg 2 ?_
  obtain ⟨hb1, h⟩ := ifS h
  refine g_op rfl (ValOk.op (v_idxM tabOk rfl rfl telem28 tsize30 hb1 (encVal_eq _) rfl rfl ?_))
  refine gs 4 ?_
  refine gk hK9 59 [0, 1, 4, 5, 18] [] ?_
  refine good_cond rfl (fun hc2 => ?_) (fun hc2 => ?_)
  ·replace h := ifF h (ndT hc2)
   refine good_seq fun K10 hK10 => ?_
   refine rg 1 ?_
   refine gk hK10 59 [0, 1, 4, 5] [] ?_
   replace h := unret h hJ1
   obtain rfl := Option.some.inj h
   exact rt
  ·replace h := ifT h (ndF hc2)
   refine good_skip ?_
   refine hK8 _ (kp 59 [0, 1, 4, 5] [] ?_)
   refine good_seq fun K11 hK11 => ?_
   refine rg 3 ?_
   refine gk hK11 59 [0, 1, 4, 5] [] ?_
   refine good_seq fun K12 hK12 => ?_
   refine good_seq fun K13 hK13 => ?_
   refine rg 2 ?_
   obtain ⟨hb2, h⟩ := ifS h
   refine g_op rfl (ValOk.op (v_idxM tabOk rfl rfl telem28 tsize30 hb2 (encVal_eq _) rfl rfl ?_))
   refine gs 4 ?_
   refine gk hK13 59 [0, 1, 4, 5, 27] [] ?_
   refine good_cond rfl (fun hc3 => ?_) (fun hc3 => ?_)
   ·replace h := ifF h (ndT hc3)
    refine good_seq fun K14 hK14 => ?_
    refine rg 1 ?_
    refine gk hK14 59 [0, 1, 4, 5] [] ?_
    replace h := unret h hJ1
    obtain rfl := Option.some.inj h
    exact rt
   ·replace h := ifT h (ndF hc3)
    refine good_skip ?_
    refine hK12 _ (kp 59 [0, 1, 4, 5] [] ?_)
    refine good_seq fun K15 hK15 => ?_
    refine rg 3 ?_
    refine gk hK15 59 [0, 1, 4, 5] [] ?_
    refine good_seq fun K16 hK16 => ?_
    refine good_seq fun K17 hK17 => ?_
    refine good_draw (by kernel_rfl) (by kernel_rfl) ?_
    refine q_op rfl (v_move rfl rfl ?_)
    refine q_op rfl (v_move rfl rfl ?_)
    obtain ⟨hb3, h⟩ := ifS h
    refine q_op rfl (v_idxM tabOk rfl rfl telem28 tsize30 hb3 (encVal_eq _) rfl rfl ?_)
    refine q_op rfl (v_fieldE tabOk rfl tfoff30_2 rfl rfl ?_)
    refine q_op rfl (v_loadE tabOk rfl tsize9 tagg9 rfl rfl rfl ?_)
    refine q_op rfl (v_move rfl rfl ?_)
    obtain ⟨y1, hy1, h⟩ := bnd h
    refine q_call [] [] (fun _ _ _ _ _ => wanted_none rfl _) (core_value rfl rfl) (m_laws_markText_ok m1 (IntKind.wrap .i64 ((IntKind.wrap .i64 (x1 + 1)) + 1)) _ hy1) trivial (.cons (.refl _) (.nil)) (.str _) rfl ?_
    refine q_op rfl (v_bin rfl rfl rfl rfl ?_)
    refine q_nil ?_
    refine hK17 _ (kp 59 [0, 1, 4, 5, 37] [] ?_)
    refine good_cond rfl (fun hc4 => ?_) (fun hc4 => ?_)
    ·replace h := ifF h (ndT hc4)
     refine good_seq fun K18 hK18 => ?_
     refine rg 1 ?_
     refine gk hK18 59 [0, 1, 4, 5] [] ?_
     replace h := unret h hJ1
     obtain rfl := Option.some.inj h
     exact rt
    ·replace h := ifT h (ndF hc4)
     refine good_skip ?_
     refine hK16 _ (kp 59 [0, 1, 4, 5] [] ?_)
     refine good_seq fun K19 hK19 => ?_
     refine rg 3 ?_
     refine gk hK19 59 [0, 1, 4, 5] [] ?_
     refine good_seq fun K20 hK20 => ?_
     refine rg 2 ?_
     obtain ⟨hb4, h⟩ := ifS h
     refine g_op rfl (ValOk.op (v_idxM tabOk rfl rfl telem28 tsize30 hb4 (encVal_eq _) rfl rfl ?_))
     refine gs 3 ?_
     obtain ⟨y2, hy2, h⟩ := bnd h
     refine g_op rfl (o_callR [] [] (core_value rfl rfl) ((ih m1 (by omega)) ((ix a0 x2).list) (IntKind.wrap .i64 ((IntKind.wrap .i64 ((IntKind.wrap .i64 (x1 + 1)) + 1)) + 1)) _ hy2) trivial (.cons (.refl _) (.cons (.refl _) (.nil))) (.inl rfl) rfl ?_)
     refine gs 1 ?_
     refine gk hK20 59 [0, 1, 4, 5] [] ?_
     refine good_seq fun K21 hK21 => ?_
     refine good_seq fun K22 hK22 => ?_
     refine rg 2 ?_
     refine gk hK22 59 [0, 1, 4, 5, 48] [] ?_
     refine good_cond rfl (fun hc5 => ?_) (fun hc5 => ?_)
     ·replace h := ifT h (dT hc5)
      refine good_seq fun K23 hK23 => ?_
      refine rg 1 ?_
      refine gk hK23 59 [0, 1, 4, 5] [] ?_
      replace h := unret h hJ1
      obtain rfl := Option.some.inj h
      exact rt
     ·replace h := ifF h (dF hc5)
      refine good_skip ?_
      refine hK21 _ (kp 59 [0, 1, 4, 5] [] ?_)
      refine good_seq fun K24 hK24 => ?_
      refine rg 2 ?_
      obtain ⟨hb5, h⟩ := ifS h
      refine g_op rfl (ValOk.op (v_idxM tabOk rfl rfl telem28 tsize30 hb5 (encVal_eq _) rfl rfl ?_))
      refine gs 3 ?_
      obtain ⟨y3, hy3, h⟩ := bnd h
      refine g_op rfl (o_callR [] [] (core_value rfl rfl) (m_laws_heldStringS_ok m1 ((ix a0 x2).names) y2 _ hy3) trivial (.cons (.refl _) (.cons (.refl _) (.nil))) (.inl rfl) rfl ?_)
      refine gs 1 ?_
      refine gk hK24 59 [0, 1, 4, 5] [] ?_
      refine good_seq fun K25 hK25 => ?_
      refine rg 2 ?_
      refine gk hK25 59 [0, 1, 4, 5, 57] [] ?_
      refine good_cond rfl (fun hc6 => ?_) (fun hc6 => ?_)
      ·replace h := ifT h (dT hc6)
       refine good_seq fun K26 hK26 => ?_
       refine rg 1 ?_
       refine gk hK26 59 [0, 1, 4, 5] [] ?_
       replace h := unret h hJ1
       obtain rfl := Option.some.inj h
       exact rt
      ·replace h := ifF h (dF hc6)
       refine good_skip ?_
       refine hK7 _ (kp 59 [0, 1, 4, 5] [] ?_)
       refine rg 3 ?_
       refine g_nil ?_
       exact round_mk m1 (y3, IntKind.wrap .i64 (x2 + 1)) (Nat.lt_succ_self _) ⟨by omega, h⟩ (lw [])
 ·replace h := ifF h (dF hc1)
  refine good_exit ?_
  exact hw1 x1 (Option.some.inj h).symm _ (lw [])
theorem m_laws_heldValueS_all (k : Nat) : P_m_laws_heldValueS k := by
 induction k using Nat.strongRecOn with
 | _ k ih => exact m_laws_heldValueS_step k ih
theorem m_laws_heldValueS_ok (k : Nat) : ∀ (a0 : (List Val)) (a1 : Int) (r : Int), m_laws_heldValueS k a0 a1 = some r → Does Try.prog 59 [.sl true (a0.map encVal), .int .i64 a1] [] (ret (.int .i64 r)) := (m_laws_heldValueS_all k)
def m_laws_heldValue (k : Nat) (a0 : Val) (a1 : Int) : Option Int :=
 (m_laws_heldValueS k a0.list a1).bind fun y1 =>
 if y1 < 0 then
  some (-1)
 else
  (m_laws_heldStringS k a0.names y1).bind fun y2 =>
  if y2 < 0 then
   some (-1)
  else
   some y2
theorem m_laws_heldValue_ok (k : Nat) : ∀ (a0 : Val) (a1 : Int) (r : Int), m_laws_heldValue k a0 a1 = some r → Does Try.prog 25 [.agg [.int .i64 a0.kind, .int .i64 a0.num, .str a0.text, .sl true (a0.list.map encVal), .sl false (a0.names.map encS)], .int .i64 a1] [] (ret (.int .i64 r)) := by
 intro a0 a1 r h
 rw [m_laws_heldValue] at h
 refine does_of_good tabOk Try.func25 rfl (by decide +kernel) (Nat.le_of_ble_eq_true rfl) fun c => ?_
 refine Good.le (σ' := ⟨18, [(0, .agg [.int .i64 a0.kind, .int .i64 a0.num, .str a0.text, .sl true (a0.list.map encVal), .sl false (a0.names.map encS)]), (1, .int .i64 a1)], []⟩) (Le.refl _) ?_
 refine good_seq fun K1 hK1 => ?_
 refine good_region ?_
 refine g_op rfl (o_box (k := 12) tabOk rfl rfl rfl rfl rfl ?_)
 intro b1
 refine gs 1 ?_
 refine gk hK1 18 [1, 2, 4] [12] ?_
 refine good_seq fun K2 hK2 => ?_
 refine rg 3 ?_
 obtain ⟨y1, hy1, h⟩ := bnd h
 refine g_op rfl (o_callR [] [] (core_value rfl rfl) (m_laws_heldValueS_ok k a0.list a1 _ hy1) trivial (.cons (.refl _) (.cons (.refl _) (.nil))) (.inl rfl) rfl ?_)
 refine gs 1 ?_
 refine gk hK2 18 [1, 2, 4] [12] ?_
 refine good_seq fun K3 hK3 => ?_
 refine good_seq fun K4 hK4 => ?_
 refine rg 2 ?_
 refine gk hK4 18 [1, 2, 4, 10] [12] ?_
 refine good_cond rfl (fun hc1 => ?_) (fun hc1 => ?_)
 ·replace h := ifT h (dT hc1)
  refine good_seq fun K5 hK5 => ?_
  refine rg 1 ?_
  refine gk hK5 18 [1, 2, 4] [12] ?_
  obtain rfl := Option.some.inj h
  exact rt
 ·replace h := ifF h (dF hc1)
  refine good_skip ?_
  refine hK3 _ (kp 18 [1, 2, 4] [12] ?_)
  refine good_seq fun K6 hK6 => ?_
  refine rg 3 ?_
  obtain ⟨y2, hy2, h⟩ := bnd h
  refine g_op rfl (o_callR [] [] (core_value rfl rfl) (m_laws_heldStringS_ok k a0.names y1 _ hy2) trivial (.cons (.refl _) (.cons (.refl _) (.nil))) (.inl rfl) rfl ?_)
  refine gs 1 ?_
  refine gk hK6 18 [1, 4] [] ?_
  refine good_seq fun K7 hK7 => ?_
  refine good_seq fun K8 hK8 => ?_
  refine rg 2 ?_
  refine gk hK8 18 [1, 4, 16] [] ?_
  refine good_cond rfl (fun hc2 => ?_) (fun hc2 => ?_)
  ·replace h := ifT h (dT hc2)
   refine good_seq fun K9 hK9 => ?_
   refine rg 1 ?_
   refine gk hK9 18 [1, 4] [] ?_
   obtain rfl := Option.some.inj h
   exact rt
  ·replace h := ifF h (dF hc2)
   refine good_skip ?_
   refine hK7 _ (kp 18 [1, 4] [] ?_)
   refine good_seq fun K10 hK10 => ?_
   refine rg 2 ?_
   refine gk hK10 18 [4] [] ?_
   obtain rfl := Option.some.inj h
   exact rt
end Go.Proofs.Ytiaigcdckmpepaa
end
end
section
/-! Functions of the program. -/
set_option linter.unusedVariables false
set_option linter.unnecessarySimpa false
set_option maxRecDepth 100000
set_option maxHeartbeats 20000000
noncomputable section
namespace Go.Proofs.Ytiaigcdckmpepaa
open Go.Bb
def m_impl_spanOf (a0 : (List Val)) : Option (List Val) :=
 if (a0.length : Int) = 0 then
  some ([] : List Val)
 else
  if a0 ≠ [] then
   some a0
  else none
theorem m_impl_spanOf_ok : ∀ (a0 : (List Val)) (r : (List Val)), m_impl_spanOf a0 = some r → Does Try.prog 50 [.sl true (a0.map encVal)] [] (ret (.agg [.spt (r.map encVal), .int .i64 (r.length : Int)])) := by
 intro a0 r h
 rw [m_impl_spanOf] at h
 refine does_of_good tabOk Try.func50 rfl (by decide +kernel) (Nat.le_of_ble_eq_true rfl) fun c => ?_
 refine Good.le (σ' := ⟨12, [(0, .sl true (a0.map encVal))], []⟩) (Le.refl _) ?_
 refine good_seq fun K1 hK1 => ?_
 refine good_region ?_
 refine g_op rfl (o_alloc (k := 12) tabOk tzero62 rfl rfl ?_)
 intro b1
 refine g_nil (hK1 _ ?_)
 refine good_seq fun K2 hK2 => ?_
 refine good_seq fun K3 hK3 => ?_
 refine rg 1 ?_
 refine g_op rfl (ValOk.op (v_lenM (l := a0) (f := encVal) tabOk rfl rfl telem28 rfl ?_))
 refine gs 1 ?_
 refine gk hK3 12 [0, 2, 5] [12] ?_
 refine good_cond rfl (fun hc1 => ?_) (fun hc1 => ?_)
 ·replace h := ifT h (dT hc1)
  refine good_seq fun K4 hK4 => ?_
  refine good_region ?_
  refine g_op rfl (ValOk.op (v_buildW tabOk (cs := [.raw (.pointer none), .int .i64 0]) tzero62 tsok62 rfl rfl (.agg (.cons .sptnil (.cons (.refl _) .nil))) rfl ?_))
  refine g_op rfl (o_storeP tabOk (cs' := [.spt (([] : List Val).map encVal), .int .i64 0]) rfl rfl tsize62 rfl rfl rfl (Nat.le_of_ble_eq_true rfl) rfl rfl rfl ?_)
  refine gk hK4 12 [0, 2] [12] ?_
  refine Good.le (σ' := ⟨12, [(2, .ptr 12 b1 0)], [(12, ((.pointer (some ⟨b1, 0, none⟩)), .optr 62 [.spt (([] : List Val).map encVal), .int .i64 0]))]⟩) (lw [some 12]) ?_
  refine good_ret ?_
  obtain rfl := Option.some.inj h
  refine thenQ_ret ?_
  exact endQ_ret (h' := []) [] (.cell rfl rfl tsize62 tagg62 rfl rfl rfl (.nil)) trivial (by decide) ⟨rfl, rfl⟩
 ·replace h := ifF h (dF hc1)
  refine good_skip ?_
  refine hK2 _ (kp 12 [0, 2] [12] ?_)
  refine good_seq fun K5 hK5 => ?_
  refine rg 1 ?_
  obtain ⟨hb1, h⟩ := ifS h
  refine g_op rfl (ValOk.op (v_idx0 tabOk rfl rfl telem28 tsize30 (by simpa using hb1) rfl ?_))
  refine gs 1 ?_
  refine g_op rfl (ValOk.op (v_lenM (l := a0) (f := encVal) tabOk rfl rfl telem28 rfl ?_))
  refine g_op rfl (ValOk.op (v_build tabOk (cs := [.spt (a0.map encVal), .int .i64 (a0.length : Int)]) tzero62 tsok62 rfl rfl rfl ?_))
  refine g_op rfl (o_storeP tabOk (cs' := [.spt (a0.map encVal), .int .i64 (a0.length : Int)]) rfl rfl tsize62 rfl rfl rfl (Nat.le_of_ble_eq_true rfl) rfl rfl rfl ?_)
  refine gk hK5 12 [2] [12] ?_
  refine Good.le (σ' := ⟨12, [(2, .ptr 12 b1 0)], [(12, ((.pointer (some ⟨b1, 0, none⟩)), .optr 62 [.spt (a0.map encVal), .int .i64 (a0.length : Int)]))]⟩) (lw [some 12]) ?_
  refine good_ret ?_
  obtain rfl := Option.some.inj h
  exact endQ_ret (h' := []) [] (.cell rfl rfl tsize62 tagg62 rfl rfl rfl (.nil)) trivial (by decide) ⟨rfl, rfl⟩
def m_impl_copyTexts (a0 : (List Bs)) : Option (List Bs) :=
 if (a0.length : Int) = 0 then
  some ([] : List Bs)
 else
  if (0 : Int) ≤ (a0.length : Int) ∧ 16 * (a0.length : Int) ≤ (281474976710656 : Int) then
   if (a0.length : Int) ≤ (9223372036854775807 : Int) then
    if (List.replicate (Int.toNat (a0.length : Int)) ([] : Bs)).length = a0.length ∧ a0 ≠ [] then
     some a0
    else none
   else none
  else none
theorem m_impl_copyTexts_ok : ∀ (a0 : (List Bs)) (r : (List Bs)), m_impl_copyTexts a0 = some r → Does Try.prog 99 [.sl false (a0.map encS)] [] (fun q h' => ∃ u0 : Value, q = .hd 100 u0 ∧ h' = [(100, (u0, .osl 9 1 (r.map encS)))]) := by
 intro a0 r h
 rw [m_impl_copyTexts] at h
 refine does_of_good tabOk Try.func99 rfl (by decide +kernel) (Nat.le_of_ble_eq_true rfl) fun c => ?_
 refine Good.le (σ' := ⟨14, [(0, .sl false (a0.map encS))], []⟩) (Le.refl _) ?_
 refine good_seq fun K1 hK1 => ?_
 refine rg 1 ?_
 refine g_nil (hK1 _ ?_)
 refine good_seq fun K2 hK2 => ?_
 refine good_seq fun K3 hK3 => ?_
 refine rg 1 ?_
 refine g_op rfl (ValOk.op (v_lenM (l := a0) (f := encS) tabOk rfl rfl telem23 rfl ?_))
 refine gs 1 ?_
 refine gk hK3 14 [0, 2, 6] [] ?_
 refine good_cond rfl (fun hc1 => ?_) (fun hc1 => ?_)
 ·replace h := ifT h (dT hc1)
  refine good_seq fun K4 hK4 => ?_
  refine rg 1 ?_
  refine gk hK4 14 [0, 2] [] ?_
  refine Good.le (σ' := ⟨14, [(2, .hd 100 nilV)], [(100, (nilV, .osl 9 1 (([] : List Bs).map encS)))]⟩) (lw [none]) ?_
  refine good_ret ?_
  obtain rfl := Option.some.inj h
  refine thenQ_ret ?_
  exact endQ_ret (h' := [(100, (_, _))]) [some 100] (.tmp rfl (.nil)) ⟨⟨_, rfl, .refl _⟩, trivial⟩ (by decide) ⟨nilV, rfl, rfl⟩
 ·replace h := ifF h (dF hc1)
  refine good_skip ?_
  refine hK2 _ (kp 14 [0, 2] [] ?_)
  refine good_seq fun K5 hK5 => ?_
  refine rg 1 ?_
  refine g_op rfl (ValOk.op (v_lenM (l := a0) (f := encS) tabOk rfl rfl telem23 rfl ?_))
  obtain ⟨hb1, h⟩ := ifS h
  obtain ⟨hb2, h⟩ := ifS h
  refine g_op rfl (o_makeM (k := 19) (zz := (([] : Bs))) (f := encS) tabOk telem23 tsize9 tbytes9 tzero9 rfl rfl rfl (by decide) (WkL.refl _) rfl rfl hb1 hb2 ?_)
  intro w1
  refine gs 1 ?_
  refine gk hK5 14 [0, 2, 3] [19] ?_
  refine good_seq fun K6 hK6 => ?_
  refine rg 2 ?_
  obtain ⟨hb3, h⟩ := ifS h
  refine g_op rfl (o_copyS (q := 19) (l := a0) tabOk ⟨_, rfl⟩ rfl rfl telem23 tsize9 (by simpa using hb3.1) hb3.2 rfl ?_)
  refine gk hK6 14 [2, 3] [19] ?_
  refine good_seq fun K7 hK7 => ?_
  refine rg 2 ?_
  refine gk hK7 14 [2] [19] ?_
  refine Good.le (σ' := ⟨14, [(2, .hd 100 w1)], [(100, (w1, .osl 9 1 (a0.map encS)))]⟩) (lw [some 19]) ?_
  refine good_ret ?_
  obtain rfl := Option.some.inj h
  exact endQ_ret (h' := [(100, (_, _))]) [some 100] (.tmp rfl (.nil)) ⟨⟨_, rfl, .refl _⟩, trivial⟩ (by decide) ⟨w1, rfl, rfl⟩
theorem m_impl_copyTexts_okF : ∀ (a0 : (List Bs)) (r : (List Bs)), m_impl_copyTexts a0 = some r → Does Try.prog 99 [.sl false (a0.map encS)] [] (ret (.sl false (r.map encS))) := by
 intro a0 r h
 refine does_frz (m_impl_copyTexts_ok a0 r h) ?_
 rintro q h' ⟨u0, rfl, rfl⟩
 exact ⟨[100], [(_, _)], ⟨⟨_, rfl, .osl (FrzLL.map fun _ _ => encS_frz _)⟩, trivial⟩, .frz _ _ _ (.head _)⟩
mutual
def m_impl_copyWithin_l2 : Nat → Val → (List (List Val)) → (List Val) → (List Val) → Int → Option (Lp (List Val) Val)
 | 0, _, _, _, _, _ => none
 | k + 1, a0, a1, y2, x2, x3 =>
  if x3 < (a0.list.length : Int) then
   if (0 : Int) ≤ x3 ∧ x3 < (a0.list.length : Int) then
    (m_impl_copyWithin k (ix a0.list x3) (y2 :: a1)).bind fun y3 =>
    if (0 : Int) ≤ x3 ∧ x3 < (x2.length : Int) then
     m_impl_copyWithin_l2 k a0 a1 y2 (x2.set (Int.toNat x3) y3) (IntKind.wrap .i64 (x3 + 1))
    else none
   else none
  else
   some (Lp.go x2)
def m_impl_copyWithin_l1 : Nat → (List Val) → (List (List Val)) → Option (Lp Unit Val)
 | 0, _, _ => none
 | k + 1, y2, x1 =>
  if x1 = [] then
   some (Lp.go ())
  else
   if x1 ≠ [] then
    if (x1.headD []) ≠ y2 then
     if x1 ≠ [] then
      m_impl_copyWithin_l1 k y2 x1.tail
     else none
    else none
   else none
def m_impl_copyWithin : Nat → Val → (List (List Val)) → Option Val
 | 0, _, _ => none
 | k + 1, a0, a1 =>
  (m_impl_copyTexts a0.names).bind fun y1 =>
  if (a0.list.length : Int) = 0 then
   some (Val.mk a0.kind a0.num a0.text ([] : List Val) y1)
  else
   (m_impl_spanOf a0.list).bind fun y2 =>
   (m_impl_copyWithin_l1 k y2 a1).bind fun o1 =>
   o1.then fun s1 =>
  if (0 : Int) ≤ (a0.list.length : Int) ∧ 80 * (a0.list.length : Int) ≤ (281474976710656 : Int) then
   if (a0.list.length : Int) ≤ (9223372036854775807 : Int) then
    (m_impl_copyWithin_l2 k a0 a1 y2 (List.replicate (Int.toNat (a0.list.length : Int)) (Val.mk 0 0 ([] : Bs) [] [])) 0).bind fun o2 =>
    o2.then fun s2 =>
  some (Val.mk a0.kind a0.num a0.text s2 y1)
   else none
  else none
end
def P_m_impl_copyWithin (k : Nat) : Prop := ∀ (a0 : Val) (a1 : (List (List Val))) (r : Val), m_impl_copyWithin k a0 a1 = some r → Does Try.prog 85 [.agg [.int .i64 a0.kind, .int .i64 a0.num, .str a0.text, .sl true (a0.list.map encVal), .sl false (a0.names.map encS)], (encChain a1)] [] (fun q h' => ∃ u0 : Value, ∃ u1 : Value, q = .agg [.int .i64 r.kind, .int .i64 r.num, .str r.text, .hd 100 u0, .hd 101 u1] ∧ h' = [(100, (u0, .osl 30 5 (r.list.map encOVal))), (101, (u1, .osl 9 1 (r.names.map encS)))])
theorem m_impl_copyWithin_step (k : Nat) (ih : ∀ m, m < k → P_m_impl_copyWithin m) : P_m_impl_copyWithin k := by
 intro a0 a1 r h
 obtain ⟨k, rfl⟩ : ∃ k', k = k' + 1 := by cases k with | zero => (rw [m_impl_copyWithin] at h; cases h) | succ k' => exact ⟨k', rfl⟩
 rw [m_impl_copyWithin] at h
 refine does_of_good tabOk Try.func85 rfl (by decide +kernel) (Nat.le_of_ble_eq_true rfl) fun c => ?_
 refine Good.le (σ' := ⟨76, [(0, .agg [.int .i64 a0.kind, .int .i64 a0.num, .str a0.text, .sl true (a0.list.map encVal), .sl false (a0.names.map encS)]), (1, (encChain a1))], []⟩) (Le.refl _) ?_
 refine good_seq fun K1 hK1 => ?_
 refine good_region ?_
 refine g_op rfl (o_box (k := 12) tabOk rfl rfl rfl rfl rfl ?_)
 intro b1
 refine g_op rfl (o_alloc (k := 14) tabOk tzero30 rfl rfl ?_)
 intro b2
 refine gk hK1 76 [1, 2, 4] [12, 14] ?_
 refine good_seq fun K2 hK2 => ?_
 obtain ⟨y1, hy1, h⟩ := bnd h
 refine good_anyM (by kernel_rfl) [⟨[], [2], [], [], [], []⟩, ⟨[0], [11], [12], [], [], []⟩, ⟨[], [2], [], [], [], []⟩, ⟨[2], [13], [12], [], [], []⟩, ⟨[], [2], [], [], [], []⟩, ⟨[4], [15], [12], [], [], []⟩, ⟨[], [2], [], [], [], []⟩, ⟨[6], [17], [12], [], [], []⟩, ⟨[6, 7], [18], [], [], [3001], [3001]⟩, ⟨[0, 1, 2, 3, 4, 5, 6, 7, 8], [12, 14, 16, 19], [], [], [], [3001]⟩, ⟨[], [], [], [], [15], [15]⟩, ⟨[0, 1, 2, 3, 4, 5, 6, 7, 8, 9, 10], [5, 20], [15], [15], [9002], []⟩] [some 11, some 12, some 13, some 14, some 15, some 16, some 17, some 18, some 19, some 20, some 5, none] 76 [(1, (encChain a1)), (2, .ptr 12 b1 0), (4, .ptr 14 b2 0)] [(12, ((.pointer (some ⟨b1, 0, none⟩)), .optr 30 [.int .i64 a0.kind, .int .i64 a0.num, .str a0.text, .sl true (a0.list.map encVal), .sl false (a0.names.map encS)])), (14, ((.pointer (some ⟨b2, 0, none⟩)), .optr 30 [.int .i64 0, .int .i64 0, .str ([] : Bs), .nil, .nil]))] (fun ν1 => [.ptr 12 b1 0, .int .i64 a0.kind, .ptr 12 b1 1, .int .i64 a0.num, .ptr 12 b1 2, .str a0.text, .ptr 12 b1 4, .sl false (a0.names.map encS), .hd 3001 (ν1 3001), .agg [.int .i64 a0.kind, .int .i64 a0.num, .str a0.text, .nil, .hd 3001 (ν1 3001)], .ptr 15 (bse (ν1 15)) 0, .und]) (fun ν1 => [(3001, ((ν1 3001), .osl 9 1 (y1.map encS))), (15, ((.pointer (some ⟨(bse (ν1 15)), 0, none⟩)), .optr 30 [.int .i64 0, .int .i64 0, .str ([] : Bs), .nil, .nil])), (9002, ((.pointer (some ⟨(bse (ν1 15)), 0, none⟩)), .optr 30 [.int .i64 a0.kind, .int .i64 a0.num, .str a0.text, .nil, .hd 3001 (ν1 3001)]))]) [(3001, [3001]), (15, [15]), (9002, [15, 3001]), (12, []), (14, [])] [3001, 15, 9002] [some 12, some 14, some 9002, some 3001] (fun ν1 => [(1, (encChain a1)), (2, .ptr 12 b1 0), (4, .ptr 14 b2 0), (5, .ptr 15 (bse (ν1 15)) 0)]) (fun ν1 => [(12, ((.pointer (some ⟨b1, 0, none⟩)), .optr 30 [.int .i64 a0.kind, .int .i64 a0.num, .str a0.text, .sl true (a0.list.map encVal), .sl false (a0.names.map encS)])), (14, ((.pointer (some ⟨b2, 0, none⟩)), .optr 30 [.int .i64 0, .int .i64 0, .str ([] : Bs), .nil, .nil])), (15, ((.pointer (some ⟨(bse (ν1 15)), 0, none⟩)), .optr 30 [.int .i64 a0.kind, .int .i64 a0.num, .str a0.text, .nil, .hd 3001 (ν1 3001)])), (3001, ((ν1 3001), .osl 9 1 (y1.map encS)))]) (lw [some 12, some 14]) (by kernel_rfl) ⟨?_, ⟨?_, ⟨?_, ⟨?_, ⟨?_, ⟨?_, ⟨?_, ⟨?_, ⟨?_, ⟨?_, ⟨?_, ⟨?_, trivial⟩⟩⟩⟩⟩⟩⟩⟩⟩⟩⟩⟩ ⟨fun _ _ _ => rfl, ⟨fun _ _ _ => rfl, ⟨fun _ _ _ => rfl, ⟨fun _ _ _ => rfl, ⟨fun _ _ _ => rfl, ⟨fun _ _ _ => rfl, ⟨fun _ _ _ => rfl, ⟨fun _ _ _ => rfl, ⟨fun _ _ h => (congrArg (fun zz0 => (some (.hd 3001 zz0) : Option AV)) (h 3001 (by decide))), ⟨fun _ _ h => (congrArg (fun zz0 => (some (.agg [.int .i64 a0.kind, .int .i64 a0.num, .str a0.text, .nil, .hd 3001 zz0]) : Option AV)) (h 3001 (by decide))), ⟨fun _ _ h => (congrArg (fun zz0 => (some (.ptr 15 (bse zz0) 0) : Option AV)) (h 15 (by decide))), ⟨fun _ _ _ => rfl, trivial⟩⟩⟩⟩⟩⟩⟩⟩⟩⟩⟩⟩ ⟨fun _ _ h => (congrArg (fun zz0 => (some (zz0, .osl 9 1 (y1.map encS)) : Option (Value × AV))) (h 3001 (by decide))), ⟨fun _ _ h => (congrArg (fun zz0 => (some ((.pointer (some ⟨(bse zz0), 0, none⟩)), .optr 30 [.int .i64 0, .int .i64 0, .str ([] : Bs), .nil, .nil]) : Option (Value × AV))) (h 15 (by decide))), ⟨fun _ _ h => (cong2 (fun zz0 zz1 => (some ((.pointer (some ⟨(bse zz0), 0, none⟩)), .optr 30 [.int .i64 a0.kind, .int .i64 a0.num, .str a0.text, .nil, .hd 3001 zz1]) : Option (Value × AV))) (h 15 (by decide)) (h 3001 (by decide))), ⟨fun _ _ _ => rfl, ⟨fun _ _ _ => rfl, trivial⟩⟩⟩⟩⟩ (fun _ => rfl) (fun _ => rfl) (by kernel_rfl) (fun _ => ⟨⟨_, rfl, .refl _⟩, ⟨⟨_, rfl, .refl _⟩, ⟨⟨_, rfl, .refl _⟩, ⟨⟨_, rfl, .refl _⟩, trivial⟩⟩⟩⟩) (fun _ => ⟨⟨_, rfl, .refl _⟩, ⟨⟨_, rfl, .refl _⟩, ⟨⟨_, rfl, .refl _⟩, ⟨⟨_, rfl, .refl _⟩, trivial⟩⟩⟩⟩) (by kernel_rfl) (by decide) ?_
 ·refine local_mk (fun ν1 => [(2, .ptr 12 b1 0)]) (fun ν1 => []) (fun _ => rfl) (fun _ => ⟨⟨_, rfl, .refl _, .refl _⟩, trivial⟩) (fun _ => rfl) (fun _ => trivial) ?_
  intro ν1 S H hS hfr
  refine st_op rfl (ValOk.op (v_fieldP tabOk rfl tfoff30_0 rfl ?_))
  exact lp_v hS rfl rfl (fun _ => rfl)
 ·refine local_mk (fun ν1 => [(11, .ptr 12 b1 0)]) (fun ν1 => [(12, ((.pointer (some ⟨b1, 0, none⟩)), .optr 30 [.int .i64 a0.kind, .int .i64 a0.num, .str a0.text, .sl true (a0.list.map encVal), .sl false (a0.names.map encS)]))]) (fun _ => rfl) (fun _ => ⟨⟨_, rfl, .refl _, .refl _⟩, trivial⟩) (fun _ => rfl) (fun _ => ⟨rfl, trivial⟩) ?_
  intro ν1 S H hS hfr
  refine st_op rfl (ValOk.op (v_loadP tabOk rfl rfl tsize3 tagg3 rfl rfl rfl rfl ?_))
  exact lp_v hS rfl rfl (fun _ => rfl)
 ·refine local_mk (fun ν1 => [(2, .ptr 12 b1 0)]) (fun ν1 => []) (fun _ => rfl) (fun _ => ⟨⟨_, rfl, .refl _, .refl _⟩, trivial⟩) (fun _ => rfl) (fun _ => trivial) ?_
  intro ν1 S H hS hfr
  refine st_op rfl (ValOk.op (v_fieldP tabOk rfl tfoff30_1 rfl ?_))
  exact lp_v hS rfl rfl (fun _ => rfl)
 ·refine local_mk (fun ν1 => [(13, .ptr 12 b1 1)]) (fun ν1 => [(12, ((.pointer (some ⟨b1, 0, none⟩)), .optr 30 [.int .i64 a0.kind, .int .i64 a0.num, .str a0.text, .sl true (a0.list.map encVal), .sl false (a0.names.map encS)]))]) (fun _ => rfl) (fun _ => ⟨⟨_, rfl, .refl _, .refl _⟩, trivial⟩) (fun _ => rfl) (fun _ => ⟨rfl, trivial⟩) ?_
  intro ν1 S H hS hfr
  refine st_op rfl (ValOk.op (v_loadP tabOk rfl rfl tsize3 tagg3 rfl rfl rfl rfl ?_))
  exact lp_v hS rfl rfl (fun _ => rfl)
 ·refine local_mk (fun ν1 => [(2, .ptr 12 b1 0)]) (fun ν1 => []) (fun _ => rfl) (fun _ => ⟨⟨_, rfl, .refl _, .refl _⟩, trivial⟩) (fun _ => rfl) (fun _ => trivial) ?_
  intro ν1 S H hS hfr
  refine st_op rfl (ValOk.op (v_fieldP tabOk rfl tfoff30_2 rfl ?_))
  exact lp_v hS rfl rfl (fun _ => rfl)
 ·refine local_mk (fun ν1 => [(15, .ptr 12 b1 2)]) (fun ν1 => [(12, ((.pointer (some ⟨b1, 0, none⟩)), .optr 30 [.int .i64 a0.kind, .int .i64 a0.num, .str a0.text, .sl true (a0.list.map encVal), .sl false (a0.names.map encS)]))]) (fun _ => rfl) (fun _ => ⟨⟨_, rfl, .refl _, .refl _⟩, trivial⟩) (fun _ => rfl) (fun _ => ⟨rfl, trivial⟩) ?_
  intro ν1 S H hS hfr
  refine st_op rfl (ValOk.op (v_loadP tabOk rfl rfl tsize9 tagg9 rfl rfl rfl rfl ?_))
  exact lp_v hS rfl rfl (fun _ => rfl)
 ·refine local_mk (fun ν1 => [(2, .ptr 12 b1 0)]) (fun ν1 => []) (fun _ => rfl) (fun _ => ⟨⟨_, rfl, .refl _, .refl _⟩, trivial⟩) (fun _ => rfl) (fun _ => trivial) ?_
  intro ν1 S H hS hfr
  refine st_op rfl (ValOk.op (v_fieldP tabOk rfl tfoff30_4 rfl ?_))
  exact lp_v hS rfl rfl (fun _ => rfl)
 ·refine local_mk (fun ν1 => [(17, .ptr 12 b1 4)]) (fun ν1 => [(12, ((.pointer (some ⟨b1, 0, none⟩)), .optr 30 [.int .i64 a0.kind, .int .i64 a0.num, .str a0.text, .sl true (a0.list.map encVal), .sl false (a0.names.map encS)]))]) (fun _ => rfl) (fun _ => ⟨⟨_, rfl, .refl _, .refl _⟩, trivial⟩) (fun _ => rfl) (fun _ => ⟨rfl, trivial⟩) ?_
  intro ν1 S H hS hfr
  refine st_op rfl (ValOk.op (v_loadP tabOk rfl rfl tsize23 tagg23 rfl rfl rfl rfl ?_))
  exact lp_v hS rfl rfl (fun _ => rfl)
 ·refine local_mk (fun ν1 => [(18, .sl false (a0.names.map encS))]) (fun ν1 => []) (fun _ => rfl) (fun _ => ⟨⟨_, rfl, .refl _, .refl _⟩, trivial⟩) (fun _ => rfl) (fun _ => trivial) ?_
  intro ν1 S H hS hfr
  refine st_op rfl (o_callDa [] [] [] (core_value rfl rfl) (m_impl_copyTexts_ok a0.names _ hy1) trivial (.cons (.refl _) (.nil)) trivial rfl rfl rfl ?_)
  rintro _ _ ⟨w1, rfl, rfl⟩
  refine ⟨.hd 3001 w1, [(3001, _)], .hd _ _ _, rfl, rfl, rfl, (fun x hx => has_minus (hfr x hx)), .inl rfl, ?_⟩
  exact lp_mm (hN := [(3001, _)]) hS rfl rfl (fun _ => rfl) ⟨rfl, trivial⟩
 ·refine local_mk (fun ν1 => [(12, .int .i64 a0.kind), (14, .int .i64 a0.num), (16, .str a0.text), (19, .hd 3001 (ν1 3001))]) (fun ν1 => []) (fun _ => rfl) (fun _ => ⟨⟨_, rfl, .refl _, .refl _⟩, ⟨⟨_, rfl, .refl _, .refl _⟩, ⟨⟨_, rfl, .refl _, .refl _⟩, ⟨⟨_, rfl, .refl _, .refl _⟩, trivial⟩⟩⟩⟩) (fun _ => rfl) (fun _ => trivial) ?_
  intro ν1 S H hS hfr
  refine st_op rfl (ValOk.op (v_build tabOk (cs := [.int .i64 a0.kind, .int .i64 a0.num, .str a0.text, .nil, .hd 3001 (ν1 3001)]) tzero30 tsok30 rfl rfl rfl ?_))
  exact lp_v hS rfl rfl (fun _ => rfl)
 ·refine local_mk (fun ν1 => []) (fun ν1 => []) (fun _ => rfl) (fun _ => trivial) (fun _ => rfl) (fun _ => trivial) ?_
  intro ν1 S H hS hfr
  refine st_op rfl (o_alloc (k := 15) tabOk tzero30 (hfr _ (by decide)) rfl ?_)
  intro w
  exact lp_n (k := 15) hS rfl rfl (fun _ => rfl) rfl
 ·refine local_mk (fun ν1 => [(5, .ptr 15 (bse (ν1 15)) 0), (20, .agg [.int .i64 a0.kind, .int .i64 a0.num, .str a0.text, .nil, .hd 3001 (ν1 3001)])]) (fun ν1 => [(15, ((.pointer (some ⟨(bse (ν1 15)), 0, none⟩)), .optr 30 [.int .i64 0, .int .i64 0, .str ([] : Bs), .nil, .nil]))]) (fun _ => rfl) (fun _ => ⟨⟨_, rfl, .refl _, .refl _⟩, ⟨⟨_, rfl, .refl _, .refl _⟩, trivial⟩⟩) (fun _ => rfl) (fun _ => ⟨rfl, trivial⟩) ?_
  intro ν1 S H hS hfr
  refine st_op rfl (o_storeP tabOk (cs' := [.int .i64 a0.kind, .int .i64 a0.num, .str a0.text, .nil, .hd 3001 (ν1 3001)]) rfl rfl tsize30 rfl rfl rfl (Nat.le_of_ble_eq_true rfl) rfl rfl rfl ?_)
  exact lp_m (k := 9002) hS rfl rfl (.inr (by decide)) (fun _ => rfl) rfl
 intro ν1
 refine hK2 _ ?_
 refine good_seq fun K3 hK3 => ?_
 refine good_seq fun K4 hK4 => ?_
 refine rg 2 ?_
 refine g_op rfl (ValOk.op (v_lenM (l := a0.list) (f := encVal) tabOk rfl rfl telem28 rfl ?_))
 refine gs 1 ?_
 refine gk hK4 76 [1, 2, 4, 5, 24] [12, 14, 15, 3001] ?_
 refine good_cond rfl (fun hc1 => ?_) (fun hc1 => ?_)
 ·replace h := ifT h (dT hc1)
  refine good_seq fun K5 hK5 => ?_
  refine rg 1 ?_
  refine g_op rfl (o_storeP tabOk (cs' := [.int .i64 a0.kind, .int .i64 a0.num, .str a0.text, .nil, .hd 3001 (ν1 3001)]) rfl rfl tsize30 rfl rfl rfl (Nat.le_of_ble_eq_true rfl) rfl rfl rfl ?_)
  refine gk hK5 76 [1, 2, 4, 5] [12, 14, 3001, 15] ?_
  refine Good.le (σ' := ⟨76, [(4, .ptr 14 b2 0)], [(100, (nilV, .osl 30 5 (([] : List Val).map encOVal))), (101, ((ν1 3001), .osl 9 1 (y1.map encS))), (14, ((.pointer (some ⟨b2, 0, none⟩)), .optr 30 [.int .i64 a0.kind, .int .i64 a0.num, .str a0.text, .hd 100 nilV, .hd 101 (ν1 3001)]))]⟩) (lw [none, some 3001, some 14]) ?_
  refine good_ret ?_
  obtain rfl := Option.some.inj h
  refine thenQ_ret ?_
  exact endQ_ret (h' := [(100, (_, _)), (101, (_, _))]) [some 100, some 101] (.cell rfl rfl tsize30 tagg30 rfl rfl rfl (.nil)) ⟨⟨_, rfl, .refl _⟩, ⟨⟨_, rfl, .refl _⟩, trivial⟩⟩ (by decide) ⟨nilV, (ν1 3001), rfl, rfl⟩
 ·replace h := ifF h (dF hc1)
  refine good_skip ?_
  refine hK3 _ (kp 76 [1, 2, 4, 5] [12, 14, 15, 3001] ?_)
  refine good_seq fun K6 hK6 => ?_
  refine rg 2 ?_
  obtain ⟨y2, hy2, h⟩ := bnd h
  refine g_op rfl (o_callR [] [] (core_value rfl rfl) (m_impl_spanOf_ok a0.list _ hy2) trivial (.cons (.refl _) (.nil)) (.inl rfl) rfl ?_)
  refine g_op rfl (o_alloc (k := 16) tabOk tzero62 rfl rfl ?_)
  intro b3
  refine g_op rfl (o_storeP tabOk (cs' := [.spt (y2.map encVal), .int .i64 (y2.length : Int)]) rfl rfl tsize62 rfl rfl rfl (Nat.le_of_ble_eq_true rfl) rfl rfl rfl ?_)
  refine gk hK6 76 [1, 2, 4, 5, 6] [12, 14, 15, 3001, 16] ?_
  refine good_seq fun K7 hK7 => ?_
  refine good_seq fun K8 hK8 => ?_
  refine rg 2 ?_
  refine gk hK8 76 [1, 2, 4, 5, 6, 7] [12, 14, 15, 3001, 16] ?_
  obtain ⟨o1, ho1, hJ1⟩ := bnd h
  have hw1 : ∀ (s1 : Unit), o1 = Lp.go s1 → ∀ σ', Le σ' ⟨76, [(1, (encChain a1)), (2, .ptr 12 b1 0), (4, .ptr 14 b2 0), (5, .ptr 15 (bse (ν1 15)) 0), (6, .ptr 16 b3 0)], [(12, ((.pointer (some ⟨b1, 0, none⟩)), .optr 30 [.int .i64 a0.kind, .int .i64 a0.num, .str a0.text, .sl true (a0.list.map encVal), .sl false (a0.names.map encS)])), (14, ((.pointer (some ⟨b2, 0, none⟩)), .optr 30 [.int .i64 0, .int .i64 0, .str ([] : Bs), .nil, .nil])), (15, ((.pointer (some ⟨(bse (ν1 15)), 0, none⟩)), .optr 30 [.int .i64 a0.kind, .int .i64 a0.num, .str a0.text, .nil, .hd 3001 (ν1 3001)])), (3001, ((ν1 3001), .osl 9 1 (y1.map encS))), (16, ((.pointer (some ⟨b3, 0, none⟩)), .optr 62 [.spt (y2.map encVal), .int .i64 (y2.length : Int)]))]⟩ → K7 σ' := by
   intro s1 e1 σ' hle1
   subst e1
   refine hK7 _ (Good.le hle1 ?_)
   replace h := hJ1
   refine good_seq fun K9 hK9 => ?_
   refine rg 2 ?_
   refine g_op rfl (ValOk.op (v_lenM (l := a0.list) (f := encVal) tabOk rfl rfl telem28 rfl ?_))
   obtain ⟨hb1, h⟩ := ifS h
   obtain ⟨hb2, h⟩ := ifS h
   refine g_op rfl (OpOk.le (o_makeM (k := 61) (zz := ((Val.mk 0 0 ([] : Bs) [] []))) (f := fun _ : Val => ([.int .i64 0, .int .i64 0, .str ([] : Bs), .nil, .nil] : List AV)) tabOk telem28 tsize30 tbytes30 tzero30 rfl rfl rfl (by decide) (WkL.refl _) rfl rfl hb1 hb2 ?_))
   intro w2
   refine ⟨_, le_nilsR (k := 61) (rows' := (List.replicate (Int.toNat (a0.list.length : Int)) (Val.mk 0 0 ([] : Bs) [] [])).map encOVal) (RowsTo.repl (by simp only [encOVal_eq]; exact .cons (.refl _) (.cons (.refl _) (.cons (.refl _) (.cons (.nil _ _) (.cons (.nil _ _) (.nil))))))), ?_⟩
   refine gs 1 ?_
   refine g_op rfl (o_storeP tabOk (cs' := [.int .i64 a0.kind, .int .i64 a0.num, .str a0.text, .hd 61 w2, .hd 3001 (ν1 3001)]) rfl rfl tsize28 rfl rfl rfl (Nat.le_of_ble_eq_true rfl) rfl rfl rfl ?_)
   refine gk hK9 76 [1, 2, 4, 5, 6] [12, 14, 15, 61, 3001, 16] ?_
   refine good_seq fun K10 hK10 => ?_
   refine rg 4 ?_
   refine g_op rfl (ValOk.op (v_buildW tabOk (cs := [.spt (y2.map encVal), .int .i64 (y2.length : Int), .hd 61 w2, (encChain a1)]) tzero123 tsok123 rfl (fill_made _ _ _ _ _ _) (.agg (.cons (.refl _) (.cons (.refl _) (.cons (.onehd _ _) (.cons (.refl _) (.nil)))))) rfl ?_))
   refine g_op rfl (o_box (k := 68) tabOk rfl rfl (cells_made _ _ _ _) rfl rfl ?_)
   intro b4
   refine g_le (σ1 := ⟨76, [(1, (encChain a1)), (2, .ptr 12 b1 0), (4, .ptr 14 b2 0), (5, .ptr 15 (bse (ν1 15)) 0), (6, .ptr 16 b3 0), (53, .agg [.spt (y2.map encVal), .int .i64 (y2.length : Int)]), (54, .ptr 15 (bse (ν1 15)) 3), (55, .hd 61 w2), (56, (encChain a1)), (57, .agg [.spt (y2.map encVal), .int .i64 (y2.length : Int), .one, (encChain a1)]), (58, (encChain (y2 :: a1)))], [(12, ((.pointer (some ⟨b1, 0, none⟩)), .optr 30 [.int .i64 a0.kind, .int .i64 a0.num, .str a0.text, .sl true (a0.list.map encVal), .sl false (a0.names.map encS)])), (14, ((.pointer (some ⟨b2, 0, none⟩)), .optr 30 [.int .i64 0, .int .i64 0, .str ([] : Bs), .nil, .nil])), (15, ((.pointer (some ⟨(bse (ν1 15)), 0, none⟩)), .optr 30 [.int .i64 a0.kind, .int .i64 a0.num, .str a0.text, .hd 61 w2, .hd 3001 (ν1 3001)])), (61, (w2, .osl 30 5 ((List.replicate (Int.toNat (a0.list.length : Int)) (Val.mk 0 0 ([] : Bs) [] [])).map encOVal))), (3001, ((ν1 3001), .osl 9 1 (y1.map encS))), (16, ((.pointer (some ⟨b3, 0, none⟩)), .optr 62 [.spt (y2.map encVal), .int .i64 (y2.length : Int)]))]⟩) (le_of [68] [(_, _)] [some 12, some 14, some 15, some 61, some 3001, some 16] rfl ⟨⟨_, rfl, .optr (.cons (.refl _ rfl) (.cons (.refl _ rfl) (.cons (.refl _ rfl) (.cons (frz_chain _) (.nil)))))⟩, trivial⟩ ⟨⟨_, rfl, .refl _⟩, ⟨⟨_, rfl, .refl _⟩, ⟨⟨_, rfl, .refl _⟩, ⟨⟨_, rfl, .refl _⟩, ⟨⟨_, rfl, .refl _⟩, ⟨⟨_, rfl, .refl _⟩, ⟨⟨_, rfl, .refl _⟩, ⟨⟨_, rfl, .refl _⟩, ⟨⟨_, rfl, .refl _⟩, ⟨⟨_, rfl, .refl _⟩, ⟨⟨_, rfl, .frzp _ _ _ _ _ (.head _) rfl (Nat.le_of_ble_eq_true rfl)⟩, trivial⟩⟩⟩⟩⟩⟩⟩⟩⟩⟩⟩ ⟨⟨_, rfl, .refl _⟩, ⟨⟨_, rfl, .refl _⟩, ⟨⟨_, rfl, .refl _⟩, ⟨⟨_, rfl, .refl _⟩, ⟨⟨_, rfl, .refl _⟩, ⟨⟨_, rfl, .refl _⟩, trivial⟩⟩⟩⟩⟩⟩ (by decide) (by decide)) ?_
   refine gs 1 ?_
   refine gk hK10 76 [2, 4, 5, 8] [12, 14, 15, 61, 3001] ?_
   refine good_seq fun K11 hK11 => ?_
   refine good_seq fun K12 hK12 => ?_
   refine rg 2 ?_
   refine g_op rfl (ValOk.op (v_lenM (l := a0.list) (f := encVal) tabOk rfl rfl telem28 rfl ?_))
   refine gs 1 ?_
   refine gk hK12 76 [4, 5, 8, 60, 61, 62] [14, 15, 61, 3001] ?_
   obtain ⟨o2, ho2, hJ2⟩ := bnd h
   have hw2 : ∀ (s2 : (List Val)), o2 = Lp.go s2 → ∀ σ', Le σ' ⟨76, [(4, .ptr 14 b2 0), (5, .ptr 15 (bse (ν1 15)) 0)], [(14, ((.pointer (some ⟨b2, 0, none⟩)), .optr 30 [.int .i64 0, .int .i64 0, .str ([] : Bs), .nil, .nil])), (15, ((.pointer (some ⟨(bse (ν1 15)), 0, none⟩)), .optr 30 [.int .i64 a0.kind, .int .i64 a0.num, .str a0.text, .hd 61 w2, .hd 3001 (ν1 3001)])), (61, (w2, .osl 30 5 (s2.map encOVal))), (3001, ((ν1 3001), .osl 9 1 (y1.map encS)))]⟩ → K11 σ' := by
    intro s2 e2 σ' hle2
    subst e2
    refine hK11 _ (Good.le hle2 ?_)
    replace h := hJ2
    refine good_seq fun K13 hK13 => ?_
    refine rg 1 ?_
    refine g_op rfl (o_storeP tabOk (cs' := [.int .i64 a0.kind, .int .i64 a0.num, .str a0.text, .hd 61 w2, .hd 3001 (ν1 3001)]) rfl rfl tsize30 rfl rfl rfl (Nat.le_of_ble_eq_true rfl) rfl rfl rfl ?_)
    refine gk hK13 76 [4] [14, 61, 3001] ?_
    refine Good.le (σ' := ⟨76, [(4, .ptr 14 b2 0)], [(100, (w2, .osl 30 5 (s2.map encOVal))), (101, ((ν1 3001), .osl 9 1 (y1.map encS))), (14, ((.pointer (some ⟨b2, 0, none⟩)), .optr 30 [.int .i64 a0.kind, .int .i64 a0.num, .str a0.text, .hd 100 w2, .hd 101 (ν1 3001)]))]⟩) (lw [some 61, some 3001, some 14]) ?_
    refine good_ret ?_
    obtain rfl := Option.some.inj h
    exact endQ_ret (h' := [(100, (_, _)), (101, (_, _))]) [some 100, some 101] (.cell rfl rfl tsize30 tagg30 rfl rfl rfl (.nil)) ⟨⟨_, rfl, .refl _⟩, ⟨⟨_, rfl, .refl _⟩, trivial⟩⟩ (by decide) ⟨w2, (ν1 3001), rfl, rfl⟩
   replace h := ho2
   refine good_block ?_
   refine good_loopf (fun p : ((List Val) × Int) => ⟨76, [(4, .ptr 14 b2 0), (5, .ptr 15 (bse (ν1 15)) 0), (8, (encChain (y2 :: a1))), (60, .sl true (a0.list.map encVal)), (61, .int .i64 (a0.list.length : Int)), (62, .int .i64 p.2)], [(14, ((.pointer (some ⟨b2, 0, none⟩)), .optr 30 [.int .i64 0, .int .i64 0, .str ([] : Bs), .nil, .nil])), (15, ((.pointer (some ⟨(bse (ν1 15)), 0, none⟩)), .optr 30 [.int .i64 a0.kind, .int .i64 a0.num, .str a0.text, .hd 61 w2, .hd 3001 (ν1 3001)])), (61, (w2, .osl 30 5 (p.1.map encOVal))), (3001, ((ν1 3001), .osl 9 1 (y1.map encS)))]⟩) (fun m p => m < k + 1 ∧ m_impl_copyWithin_l2 m a0 a1 y2 p.1 p.2 = some o2) k (List.replicate (Int.toNat (a0.list.length : Int)) (Val.mk 0 0 ([] : Bs) [] []), 0) (lw [some 14, some 15, some 61, some 3001]) ⟨by omega, h⟩ ?_
   rintro m1 ⟨x2, x3⟩ ⟨hm, h⟩
   replace h : m_impl_copyWithin_l2 m1 a0 a1 y2 x2 x3 = some o2 := h
   refine Good.le (σ' := ⟨76, [(4, .ptr 14 b2 0), (5, .ptr 15 (bse (ν1 15)) 0), (8, (encChain (y2 :: a1))), (60, .sl true (a0.list.map encVal)), (61, .int .i64 (a0.list.length : Int)), (62, .int .i64 x3)], [(14, ((.pointer (some ⟨b2, 0, none⟩)), .optr 30 [.int .i64 0, .int .i64 0, .str ([] : Bs), .nil, .nil])), (15, ((.pointer (some ⟨(bse (ν1 15)), 0, none⟩)), .optr 30 [.int .i64 a0.kind, .int .i64 a0.num, .str a0.text, .hd 61 w2, .hd 3001 (ν1 3001)])), (61, (w2, .osl 30 5 (x2.map encOVal))), (3001, ((ν1 3001), .osl 9 1 (y1.map encS)))]⟩) (Le.refl _) ?_
   obtain ⟨m1, rfl⟩ : ∃ m', m1 = m' + 1 := by cases m1 with | zero => (rw [m_impl_copyWithin_l2] at h; cases h) | succ m' => exact ⟨m', rfl⟩
   rw [m_impl_copyWithin_l2] at h
   refine good_seq fun K14 hK14 => ?_
   refine rg 1 ?_
   refine g_nil (hK14 _ ?_)
   refine good_seq fun K15 hK15 => ?_
   refine good_cond rfl (fun hc2 => ?_) (fun hc2 => ?_)
   ·replace h := ifT h (dT hc2)
    refine good_skip ?_
    refine hK15 _ (kp 76 [4, 5, 8, 60, 61, 62] [14, 15, 61, 3001] ?_)
    refine good_seq fun K16 hK16 => ?_
    refine good_block ?_
    refine good_seq fun K17 hK17 => ?_
    refine rg 1 ?_
    obtain ⟨hb3, h⟩ := ifS h
    refine g_op rfl (ValOk.op (v_idxM tabOk rfl rfl telem28 tsize30 hb3 (encVal_eq _) rfl rfl ?_))
    refine gs 1 ?_
    refine g_op rfl (o_alloc (k := 20) tabOk tzero30 rfl rfl ?_)
    intro b5
    refine gs 1 ?_
    refine g_op rfl (o_storeP tabOk (cs' := [.int .i64 ((ix a0.list x3).kind), .int .i64 ((ix a0.list x3).num), .str ((ix a0.list x3).text), .sl true (((ix a0.list x3).list).map encVal), .sl false (((ix a0.list x3).names).map encS)]) rfl rfl tsize30 rfl rfl rfl (Nat.le_of_ble_eq_true rfl) rfl rfl rfl ?_)
    refine gk hK17 76 [4, 5, 8, 9, 10, 60, 61, 62] [14, 15, 61, 3001, 20] ?_
    obtain ⟨y3, hy3, h⟩ := bnd h
    obtain ⟨hb4, h⟩ := ifS h
    refine good_anyM (by kernel_rfl) [⟨[], [5], [], [], [], []⟩, ⟨[0], [67], [15], [], [], []⟩, ⟨[], [9], [], [], [], []⟩, ⟨[], [10], [20], [], [], []⟩, ⟨[], [8], [], [], [], []⟩, ⟨[3, 4], [70, 71], [], [], [3003, 3004], [3003, 3004]⟩, ⟨[0, 1, 2, 3, 4, 5], [68, 69], [61], [], [], []⟩, ⟨[0, 1, 2, 3, 4, 5, 6], [73, 72], [61, 3003, 3004], [61, 3003, 3004], [9005], []⟩] [some 67, some 68, some 69, some 70, some 71, some 72, some 73, none] 76 [(4, .ptr 14 b2 0), (5, .ptr 15 (bse (ν1 15)) 0), (8, (encChain (y2 :: a1))), (9, .int .i64 x3), (10, .ptr 20 b5 0), (60, .sl true (a0.list.map encVal)), (61, .int .i64 (a0.list.length : Int)), (62, .int .i64 x3)] [(14, ((.pointer (some ⟨b2, 0, none⟩)), .optr 30 [.int .i64 0, .int .i64 0, .str ([] : Bs), .nil, .nil])), (15, ((.pointer (some ⟨(bse (ν1 15)), 0, none⟩)), .optr 30 [.int .i64 a0.kind, .int .i64 a0.num, .str a0.text, .hd 61 w2, .hd 3001 (ν1 3001)])), (61, (w2, .osl 30 5 (x2.map encOVal))), (3001, ((ν1 3001), .osl 9 1 (y1.map encS))), (20, ((.pointer (some ⟨b5, 0, none⟩)), .optr 30 [.int .i64 ((ix a0.list x3).kind), .int .i64 ((ix a0.list x3).num), .str ((ix a0.list x3).text), .sl true (((ix a0.list x3).list).map encVal), .sl false (((ix a0.list x3).names).map encS)]))] (fun ν2 => [.ptr 15 (bse (ν1 15)) 3, .hd 61 w2, .int .i64 x3, .agg [.int .i64 ((ix a0.list x3).kind), .int .i64 ((ix a0.list x3).num), .str ((ix a0.list x3).text), .sl true (((ix a0.list x3).list).map encVal), .sl false (((ix a0.list x3).names).map encS)], (encChain (y2 :: a1)), .agg [.int .i64 y3.kind, .int .i64 y3.num, .str y3.text, .hd 3003 (ν2 3003), .hd 3004 (ν2 3004)], .rptr 61 w2 5 (Int.toNat x3) 0, .und]) (fun ν2 => [(3003, ((ν2 3003), .osl 30 5 (y3.list.map encOVal))), (3004, ((ν2 3004), .osl 9 1 (y3.names.map encS))), (9005, (w2, .osl 30 5 ((x2.set (Int.toNat x3) y3).map encOVal)))]) [(3003, [3003]), (3004, [3004]), (9005, []), (14, []), (15, []), (61, []), (3001, []), (20, [])] [3003, 3004, 9005] [some 14, some 15, some 9005, some 3001] (fun ν2 => [(4, .ptr 14 b2 0), (5, .ptr 15 (bse (ν1 15)) 0), (8, (encChain (y2 :: a1))), (60, .sl true (a0.list.map encVal)), (61, .int .i64 (a0.list.length : Int)), (62, .int .i64 x3)]) (fun ν2 => [(14, ((.pointer (some ⟨b2, 0, none⟩)), .optr 30 [.int .i64 0, .int .i64 0, .str ([] : Bs), .nil, .nil])), (15, ((.pointer (some ⟨(bse (ν1 15)), 0, none⟩)), .optr 30 [.int .i64 a0.kind, .int .i64 a0.num, .str a0.text, .hd 61 w2, .hd 3001 (ν1 3001)])), (61, (w2, .osl 30 5 ((x2.set (Int.toNat x3) y3).map encOVal))), (3001, ((ν1 3001), .osl 9 1 (y1.map encS)))]) (lw [some 14, some 15, some 61, some 3001, some 20]) (by kernel_rfl) ⟨?_, ⟨?_, ⟨?_, ⟨?_, ⟨?_, ⟨?_, ⟨?_, ⟨?_, trivial⟩⟩⟩⟩⟩⟩⟩⟩ ⟨fun _ _ _ => rfl, ⟨fun _ _ _ => rfl, ⟨fun _ _ _ => rfl, ⟨fun _ _ _ => rfl, ⟨fun _ _ _ => rfl, ⟨fun _ _ h => (cong2 (fun zz0 zz1 => (some (.agg [.int .i64 y3.kind, .int .i64 y3.num, .str y3.text, .hd 3003 zz0, .hd 3004 zz1]) : Option AV)) (h 3003 (by decide)) (h 3004 (by decide))), ⟨fun _ _ _ => rfl, ⟨fun _ _ _ => rfl, trivial⟩⟩⟩⟩⟩⟩⟩⟩ ⟨fun _ _ h => (congrArg (fun zz0 => (some (zz0, .osl 30 5 (y3.list.map encOVal)) : Option (Value × AV))) (h 3003 (by decide))), ⟨fun _ _ h => (congrArg (fun zz0 => (some (zz0, .osl 9 1 (y3.names.map encS)) : Option (Value × AV))) (h 3004 (by decide))), ⟨fun _ _ _ => rfl, ⟨fun _ _ _ => rfl, ⟨fun _ _ _ => rfl, ⟨fun _ _ _ => rfl, ⟨fun _ _ _ => rfl, ⟨fun _ _ _ => rfl, trivial⟩⟩⟩⟩⟩⟩⟩⟩ (fun _ => rfl) (fun _ => rfl) (by kernel_rfl) (fun _ => ⟨⟨_, rfl, .refl _⟩, ⟨⟨_, rfl, .refl _⟩, ⟨⟨_, rfl, .refl _⟩, ⟨⟨_, rfl, .refl _⟩, ⟨⟨_, rfl, .refl _⟩, ⟨⟨_, rfl, .refl _⟩, trivial⟩⟩⟩⟩⟩⟩) (fun _ => ⟨⟨_, rfl, .refl _⟩, ⟨⟨_, rfl, .refl _⟩, ⟨⟨_, rfl, .refl _⟩, ⟨⟨_, rfl, .refl _⟩, trivial⟩⟩⟩⟩) (by kernel_rfl) (by decide) ?_
    ·refine local_mk (fun ν2 => [(5, .ptr 15 (bse (ν1 15)) 0)]) (fun ν2 => []) (fun _ => rfl) (fun _ => ⟨⟨_, rfl, .refl _, .refl _⟩, trivial⟩) (fun _ => rfl) (fun _ => trivial) ?_
     intro ν2 S H hS hfr
     refine st_op rfl (ValOk.op (v_fieldP tabOk rfl tfoff30_3 rfl ?_))
     exact lp_v hS rfl rfl (fun _ => rfl)
    ·refine local_mk (fun ν2 => [(67, .ptr 15 (bse (ν1 15)) 3)]) (fun ν2 => [(15, ((.pointer (some ⟨(bse (ν1 15)), 0, none⟩)), .optr 30 [.int .i64 a0.kind, .int .i64 a0.num, .str a0.text, .hd 61 w2, .hd 3001 (ν1 3001)]))]) (fun _ => rfl) (fun _ => ⟨⟨_, rfl, .refl _, .refl _⟩, trivial⟩) (fun _ => rfl) (fun _ => ⟨rfl, trivial⟩) ?_
     intro ν2 S H hS hfr
     refine st_op rfl (ValOk.op (v_loadP tabOk rfl rfl tsize28 tagg28 rfl rfl rfl rfl ?_))
     exact lp_v hS rfl rfl (fun _ => rfl)
    ·refine local_mk (fun ν2 => [(9, .int .i64 x3)]) (fun ν2 => []) (fun _ => rfl) (fun _ => ⟨⟨_, rfl, .refl _, .refl _⟩, trivial⟩) (fun _ => rfl) (fun _ => trivial) ?_
     intro ν2 S H hS hfr
     refine st_op rfl (ValOk.op (v_move rfl rfl ?_))
     exact lp_v hS rfl rfl (fun _ => rfl)
    ·refine local_mk (fun ν2 => [(10, .ptr 20 b5 0)]) (fun ν2 => [(20, ((.pointer (some ⟨b5, 0, none⟩)), .optr 30 [.int .i64 ((ix a0.list x3).kind), .int .i64 ((ix a0.list x3).num), .str ((ix a0.list x3).text), .sl true (((ix a0.list x3).list).map encVal), .sl false (((ix a0.list x3).names).map encS)]))]) (fun _ => rfl) (fun _ => ⟨⟨_, rfl, .refl _, .refl _⟩, trivial⟩) (fun _ => rfl) (fun _ => ⟨rfl, trivial⟩) ?_
     intro ν2 S H hS hfr
     refine st_op rfl (ValOk.op (v_loadP tabOk rfl rfl tsize30 tagg30 rfl rfl rfl rfl ?_))
     exact lp_v hS rfl rfl (fun _ => rfl)
    ·refine local_mk (fun ν2 => [(8, (encChain (y2 :: a1)))]) (fun ν2 => []) (fun _ => rfl) (fun _ => ⟨⟨_, rfl, .refl _, .refl _⟩, trivial⟩) (fun _ => rfl) (fun _ => trivial) ?_
     intro ν2 S H hS hfr
     refine st_op rfl (ValOk.op (v_move rfl rfl ?_))
     exact lp_v hS rfl rfl (fun _ => rfl)
    ·refine local_mk (fun ν2 => [(70, .agg [.int .i64 ((ix a0.list x3).kind), .int .i64 ((ix a0.list x3).num), .str ((ix a0.list x3).text), .sl true (((ix a0.list x3).list).map encVal), .sl false (((ix a0.list x3).names).map encS)]), (71, (encChain (y2 :: a1)))]) (fun ν2 => []) (fun _ => rfl) (fun _ => ⟨⟨_, rfl, .refl _, .refl _⟩, ⟨⟨_, rfl, .refl _, .refl _⟩, trivial⟩⟩) (fun _ => rfl) (fun _ => trivial) ?_
     intro ν2 S H hS hfr
     refine st_op rfl (o_callDa [] [] [] (core_value rfl rfl) ((ih m1 (by omega)) (ix a0.list x3) (y2 :: a1) _ hy3) trivial (.cons (.refl _) (.cons (.refl _) (.nil))) trivial rfl rfl rfl ?_)
     rintro _ _ ⟨w3, w4, rfl, rfl⟩
     refine ⟨.agg [.int .i64 y3.kind, .int .i64 y3.num, .str y3.text, .hd 3003 w3, .hd 3004 w4], [(3003, _), (3004, _)], .agg (.cons (.refl _) (.cons (.refl _) (.cons (.refl _) (.cons (.hd _ _ _) (.cons (.hd _ _ _) (.nil)))))), rfl, rfl, rfl, (fun x hx => has_minus (hfr x hx)), .inl rfl, ?_⟩
     exact lp_mm (hN := [(3003, _), (3004, _)]) hS rfl rfl (fun _ => rfl) ⟨rfl, ⟨rfl, trivial⟩⟩
    ·refine local_mk (fun ν2 => [(68, .hd 61 w2), (69, .int .i64 x3)]) (fun ν2 => [(61, (w2, .osl 30 5 (x2.map encOVal)))]) (fun _ => rfl) (fun _ => ⟨⟨_, rfl, .refl _, .refl _⟩, ⟨⟨_, rfl, .refl _, .refl _⟩, trivial⟩⟩) (fun _ => rfl) (fun _ => ⟨rfl, trivial⟩) ?_
     intro ν2 S H hS hfr
     refine st_op rfl (ValOk.op (v_idxHM (q := 61) tabOk ⟨_, rfl⟩ rfl rfl telem28 tsize30 hb4 rfl ?_))
     exact lp_v hS rfl rfl (fun _ => rfl)
    ·refine local_mk (fun ν2 => [(73, .rptr 61 w2 5 (Int.toNat x3) 0), (72, .agg [.int .i64 y3.kind, .int .i64 y3.num, .str y3.text, .hd 3003 (ν2 3003), .hd 3004 (ν2 3004)])]) (fun ν2 => [(61, (w2, .osl 30 5 (x2.map encOVal))), (3003, ((ν2 3003), .osl 30 5 (y3.list.map encOVal))), (3004, ((ν2 3004), .osl 9 1 (y3.names.map encS)))]) (fun _ => rfl) (fun _ => ⟨⟨_, rfl, .refl _, .refl _⟩, ⟨⟨_, rfl, .refl _, .refl _⟩, trivial⟩⟩) (fun _ => rfl) (fun _ => ⟨rfl, ⟨rfl, ⟨rfl, trivial⟩⟩⟩) ?_
     intro ν2 S H hS hfr
     refine st_op rfl (OpOk.le (o_storeR (row' := [.int .i64 y3.kind, .int .i64 y3.num, .str y3.text, .hd 3003 (ν2 3003), .hd 3004 (ν2 3004)]) tabOk rfl rfl tsize30 rfl ((get_map hb4.1 hb4.2).trans (congrArg some (encOVal_eq _))) rfl rfl (by decide) rfl rfl rfl ?_))
     refine ⟨_, (Le.trans (Le.trans (Le.trans (Le.trans (le_absorb1 (k := 61) (k2 := 3003) (rows' := (x2.map encOVal).set (Int.toNat x3) [.int .i64 y3.kind, .int .i64 y3.num, .str y3.text, .osl 30 5 (y3.list.map encOVal), .hd 3004 (ν2 3004)]) (Int.toNat x3) 3 _ rfl (by decide) (rows_set_get (by have := hb4; simp only [List.length_set, List.length_map]; omega)) rfl (rows_set_set)) (le_mm (rs := [61, 3003]) rfl)) (le_absorb1 (k := 61) (k2 := 3004) (rows' := (x2.set (Int.toNat x3) y3).map encOVal) (Int.toNat x3) 4 _ rfl (by decide) (rows_set_get (by have := hb4; simp only [List.length_set, List.length_map]; omega)) rfl (rows_set_done (f := encOVal) (z := y3) (encOVal_eq _)))) (le_mm (rs := [61, 3003, 3004]) rfl)) (le_mm0 (rs := [61, 3003, 3004]) rfl)), ?_⟩
     exact lp_m (k := 9005) hS rfl rfl (.inr (by decide)) (fun _ => rfl) rfl
    intro ν2
    refine hK16 _ ?_
    refine rg 2 ?_
    refine g_nil ?_
    exact round_mk m1 (x2.set (Int.toNat x3) y3, IntKind.wrap .i64 (x3 + 1)) (Nat.lt_succ_self _) ⟨by omega, h⟩ (lw [some 14, some 15, some 61, some 3001])
   ·replace h := ifF h (dF hc2)
    refine good_exit ?_
    exact hw2 x2 (Option.some.inj h).symm _ (lw [some 14, some 15, some 61, some 3001])
  replace h := ho1
  refine good_block ?_
  refine good_loopf (fun p : (List (List Val)) => ⟨76, [(1, (encChain a1)), (2, .ptr 12 b1 0), (4, .ptr 14 b2 0), (5, .ptr 15 (bse (ν1 15)) 0), (6, .ptr 16 b3 0), (7, (encChain p))], [(12, ((.pointer (some ⟨b1, 0, none⟩)), .optr 30 [.int .i64 a0.kind, .int .i64 a0.num, .str a0.text, .sl true (a0.list.map encVal), .sl false (a0.names.map encS)])), (14, ((.pointer (some ⟨b2, 0, none⟩)), .optr 30 [.int .i64 0, .int .i64 0, .str ([] : Bs), .nil, .nil])), (15, ((.pointer (some ⟨(bse (ν1 15)), 0, none⟩)), .optr 30 [.int .i64 a0.kind, .int .i64 a0.num, .str a0.text, .nil, .hd 3001 (ν1 3001)])), (3001, ((ν1 3001), .osl 9 1 (y1.map encS))), (16, ((.pointer (some ⟨b3, 0, none⟩)), .optr 62 [.spt (y2.map encVal), .int .i64 (y2.length : Int)]))]⟩) (fun m p => m < k + 1 ∧ m_impl_copyWithin_l1 m y2 p = some o1) k (a1) (lw [some 12, some 14, some 15, some 3001, some 16]) ⟨by omega, h⟩ ?_
  rintro m2 x1 ⟨hm, h⟩
  replace h : m_impl_copyWithin_l1 m2 y2 x1 = some o1 := h
  refine Good.le (σ' := ⟨76, [(1, (encChain a1)), (2, .ptr 12 b1 0), (4, .ptr 14 b2 0), (5, .ptr 15 (bse (ν1 15)) 0), (6, .ptr 16 b3 0), (7, (encChain x1))], [(12, ((.pointer (some ⟨b1, 0, none⟩)), .optr 30 [.int .i64 a0.kind, .int .i64 a0.num, .str a0.text, .sl true (a0.list.map encVal), .sl false (a0.names.map encS)])), (14, ((.pointer (some ⟨b2, 0, none⟩)), .optr 30 [.int .i64 0, .int .i64 0, .str ([] : Bs), .nil, .nil])), (15, ((.pointer (some ⟨(bse (ν1 15)), 0, none⟩)), .optr 30 [.int .i64 a0.kind, .int .i64 a0.num, .str a0.text, .nil, .hd 3001 (ν1 3001)])), (3001, ((ν1 3001), .osl 9 1 (y1.map encS))), (16, ((.pointer (some ⟨b3, 0, none⟩)), .optr 62 [.spt (y2.map encVal), .int .i64 (y2.length : Int)]))]⟩) (Le.refl _) ?_
  obtain ⟨m2, rfl⟩ : ∃ m', m2 = m' + 1 := by cases m2 with | zero => (rw [m_impl_copyWithin_l1] at h; cases h) | succ m' => exact ⟨m', rfl⟩
  rw [m_impl_copyWithin_l1] at h
  refine good_seq fun K18 hK18 => ?_
  refine good_seq fun K19 hK19 => ?_
  refine rg 1 ?_
  refine g_op rfl (ValOk.op (v_chainNe rfl rfl tkind121 rfl ?_))
  refine gk hK19 76 [1, 2, 4, 5, 6, 7, 31] [12, 14, 15, 3001, 16] ?_
  refine good_cond rfl (fun hc3 => ?_) (fun hc3 => ?_)
  ·replace h := ifF h (ndT hc3)
   refine good_skip ?_
   refine hK18 _ (kp 76 [1, 2, 4, 5, 6, 7] [12, 14, 15, 3001, 16] ?_)
   refine good_seq fun K20 hK20 => ?_
   refine good_block ?_
   refine good_seq fun K21 hK21 => ?_
   refine good_draw (by kernel_rfl) (by kernel_rfl) ?_
   refine q_op rfl (v_move rfl rfl ?_)
   obtain ⟨hb5, h⟩ := ifS h
   refine q_op rfl (v_chainNil rfl hb5 rfl ?_)
   refine q_op rfl (v_fieldE tabOk rfl tfoff123_0 rfl rfl ?_)
   refine q_op rfl (v_loadE tabOk rfl tsize62 tagg62 rfl rfl rfl ?_)
   refine q_op rfl (v_loadP tabOk rfl rfl tsize62 tagg62 rfl rfl rfl rfl ?_)
   obtain ⟨hb6, h⟩ := ifS h
   refine q_op rfl (v_spanNe rfl rfl hb6 rfl ?_)
   refine q_nil ?_
   refine hK21 _ (kp 76 [1, 2, 4, 5, 6, 7, 41] [12, 14, 15, 3001, 16] ?_)
   refine good_cond (b := false) rfl (fun hc => Bool.noConfusion hc) (fun hc => ?_)
   refine good_skip ?_
   refine hK20 _ (kp 76 [1, 2, 4, 5, 6, 7] [12, 14, 15, 3001, 16] ?_)
   refine rg 1 ?_
   obtain ⟨hb7, h⟩ := ifS h
   refine g_op rfl (ValOk.op (v_chainNil rfl hb7 rfl ?_))
   refine gs 3 ?_
   refine g_nil ?_
   exact round_mk m2 (x1.tail) (Nat.lt_succ_self _) ⟨by omega, h⟩ (lw [some 12, some 14, some 15, some 3001, some 16])
  ·replace h := ifT h (ndF hc3)
   refine good_exit ?_
   exact hw1 () (Option.some.inj h).symm _ (lw [some 12, some 14, some 15, some 3001, some 16])
theorem m_impl_copyWithin_all (k : Nat) : P_m_impl_copyWithin k := by
 induction k using Nat.strongRecOn with
 | _ k ih => exact m_impl_copyWithin_step k ih
theorem m_impl_copyWithin_ok (k : Nat) : ∀ (a0 : Val) (a1 : (List (List Val))) (r : Val), m_impl_copyWithin k a0 a1 = some r → Does Try.prog 85 [.agg [.int .i64 a0.kind, .int .i64 a0.num, .str a0.text, .sl true (a0.list.map encVal), .sl false (a0.names.map encS)], (encChain a1)] [] (fun q h' => ∃ u0 : Value, ∃ u1 : Value, q = .agg [.int .i64 r.kind, .int .i64 r.num, .str r.text, .hd 100 u0, .hd 101 u1] ∧ h' = [(100, (u0, .osl 30 5 (r.list.map encOVal))), (101, (u1, .osl 9 1 (r.names.map encS)))]) := (m_impl_copyWithin_all k)
theorem m_impl_copyWithin_okF (k : Nat) : ∀ (a0 : Val) (a1 : (List (List Val))) (r : Val), m_impl_copyWithin k a0 a1 = some r → Does Try.prog 85 [.agg [.int .i64 a0.kind, .int .i64 a0.num, .str a0.text, .sl true (a0.list.map encVal), .sl false (a0.names.map encS)], (encChain a1)] [] (ret (.agg [.int .i64 r.kind, .int .i64 r.num, .str r.text, .sl true (r.list.map encVal), .sl false (r.names.map encS)])) := by
 intro a0 a1 r h
 refine does_frz (m_impl_copyWithin_ok k a0 a1 r h) ?_
 rintro q h' ⟨u0, u1, rfl, rfl⟩
 exact ⟨[100, 101], [(_, _), (_, _)], ⟨⟨_, rfl, .osl (FrzLL.map fun _ _ => encOVal_frz _)⟩, ⟨⟨_, rfl, .osl (FrzLL.map fun _ _ => encS_frz _)⟩, trivial⟩⟩, .agg (.cons (.refl _) (.cons (.refl _) (.cons (.refl _) (.cons (.frz _ _ _ (.head _)) (.cons (.frz _ _ _ (.tail _ (.head _))) (.nil))))))⟩
end Go.Proofs.Ytiaigcdckmpepaa
end
end
section
/-! Functions of the program. -/
set_option linter.unusedVariables false
set_option linter.unnecessarySimpa false
set_option maxRecDepth 100000
set_option maxHeartbeats 20000000
noncomputable section
namespace Go.Proofs.Ytiaigcdckmpepaa
open Go.Bb
def m_spec_l1In (a0 : Int) (a1 : Int) (a2 : Int) : Option Bool :=
 if a1 ≤ a0 then
  some (decide (a0 ≤ a2))
 else
  some false
theorem m_spec_l1In_ok : ∀ (a0 : Int) (a1 : Int) (a2 : Int) (r : Bool), m_spec_l1In a0 a1 a2 = some r → Does Try.prog 124 [.int .i64 a0, .int .i64 a1, .int .i64 a2] [] (ret (.bool r)) := by
 intro a0 a1 a2 r h
 rw [m_spec_l1In] at h
 refine does_of_good tabOk Try.func124 rfl (by decide +kernel) (Nat.le_of_ble_eq_true rfl) fun c => ?_
 refine Good.le (σ' := ⟨15, [(0, .int .i64 a0), (1, .int .i64 a1), (2, .int .i64 a2)], []⟩) (Le.refl _) ?_
 refine good_seq fun K1 hK1 => ?_
 refine rg 1 ?_
 refine g_nil (hK1 _ ?_)
 refine good_seq fun K2 hK2 => ?_
 refine rg 4 ?_
 rcases bsplit ((decide (a1 ≤ a0))) with hg1 | hg1
 ·replace h := ifT h (dT hg1)
  refine gs 5 ?_
  refine gk hK2 15 [6] [] ?_
  obtain rfl := Option.some.inj h
  exact rt
 ·replace h := ifF h (dF hg1)
  refine gs 5 ?_
  refine gk hK2 15 [6] [] ?_
  obtain rfl := Option.some.inj h
  exact rt
def m_spec_l1Letter (a0 : Int) : Option Bool :=
 if 97 ≤ a0 then
  if a0 ≤ 122 then
   some true
  else
   if 65 ≤ a0 then
    if a0 ≤ 90 then
     some true
    else
     some (decide (a0 = 95))
   else
    some (decide (a0 = 95))
 else
  if 65 ≤ a0 then
   if a0 ≤ 90 then
    some true
   else
    some (decide (a0 = 95))
  else
   some (decide (a0 = 95))
theorem m_spec_l1Letter_ok : ∀ (a0 : Int) (r : Bool), m_spec_l1Letter a0 = some r → Does Try.prog 116 [.int .u8 a0] [] (ret (.bool r)) := by
 intro a0 r h
 rw [m_spec_l1Letter] at h
 refine does_of_good tabOk Try.func116 rfl (by decide +kernel) (Nat.le_of_ble_eq_true rfl) fun c => ?_
 refine Good.le (σ' := ⟨21, [(0, .int .u8 a0)], []⟩) (Le.refl _) ?_
 refine good_seq fun K1 hK1 => ?_
 refine rg 1 ?_
 refine g_nil (hK1 _ ?_)
 refine good_seq fun K2 hK2 => ?_
 refine rg 3 ?_
 rcases bsplit ((decide (97 ≤ a0))) with hg1 | hg1
 ·replace h := ifT h (dT hg1)
  refine gs 4 ?_
  rcases bsplit ((decide (a0 ≤ 122))) with hg2 | hg2
  ·replace h := ifT h (dT hg2)
   refine gs 12 ?_
   refine gk hK2 21 [2] [] ?_
   obtain rfl := Option.some.inj h
   exact rt
  ·replace h := ifF h (dF hg2)
   refine gs 3 ?_
   rcases bsplit ((decide (65 ≤ a0))) with hg3 | hg3
   ·replace h := ifT h (dT hg3)
    refine gs 5 ?_
    rcases bsplit ((decide (a0 ≤ 90))) with hg4 | hg4
    ·replace h := ifT h (dT hg4)
     refine gs 4 ?_
     refine gk hK2 21 [2] [] ?_
     obtain rfl := Option.some.inj h
     exact rt
    ·replace h := ifF h (dF hg4)
     refine gs 4 ?_
     refine gk hK2 21 [2] [] ?_
     obtain rfl := Option.some.inj h
     exact rt
   ·replace h := ifF h (dF hg3)
    refine gs 9 ?_
    refine gk hK2 21 [2] [] ?_
    obtain rfl := Option.some.inj h
    exact rt
 ·replace h := ifF h (dF hg1)
  refine gs 7 ?_
  rcases bsplit ((decide (65 ≤ a0))) with hg5 | hg5
  ·replace h := ifT h (dT hg5)
   refine gs 5 ?_
   rcases bsplit ((decide (a0 ≤ 90))) with hg6 | hg6
   ·replace h := ifT h (dT hg6)
    refine gs 4 ?_
    refine gk hK2 21 [2] [] ?_
    obtain rfl := Option.some.inj h
    exact rt
   ·replace h := ifF h (dF hg6)
    refine gs 4 ?_
    refine gk hK2 21 [2] [] ?_
    obtain rfl := Option.some.inj h
    exact rt
  ·replace h := ifF h (dF hg5)
   refine gs 9 ?_
   refine gk hK2 21 [2] [] ?_
   obtain rfl := Option.some.inj h
   exact rt
def m_spec_l1Figure (a0 : Int) : Option Bool :=
 if 48 ≤ a0 then
  some (decide (a0 ≤ 57))
 else
  some false
theorem m_spec_l1Figure_ok : ∀ (a0 : Int) (r : Bool), m_spec_l1Figure a0 = some r → Does Try.prog 89 [.int .u8 a0] [] (ret (.bool r)) := by
 intro a0 r h
 rw [m_spec_l1Figure] at h
 refine does_of_good tabOk Try.func89 rfl (by decide +kernel) (Nat.le_of_ble_eq_true rfl) fun c => ?_
 refine Good.le (σ' := ⟨9, [(0, .int .u8 a0)], []⟩) (Le.refl _) ?_
 refine good_seq fun K1 hK1 => ?_
 refine rg 1 ?_
 refine g_nil (hK1 _ ?_)
 refine good_seq fun K2 hK2 => ?_
 refine rg 3 ?_
 rcases bsplit ((decide (48 ≤ a0))) with hg1 | hg1
 ·replace h := ifT h (dT hg1)
  refine gs 4 ?_
  refine gk hK2 9 [2] [] ?_
  obtain rfl := Option.some.inj h
  exact rt
 ·replace h := ifF h (dF hg1)
  refine gs 4 ?_
  refine gk hK2 9 [2] [] ?_
  obtain rfl := Option.some.inj h
  exact rt
def m_spec_l1Name_l1 : Nat → Bs → Int → Option (Lp Unit Bool)
 | 0, _, _ => none
 | k + 1, a0, x1 =>
  if x1 < (a0.length : Int) then
   (if (0 : Int) ≤ x1 ∧ x1 < (a0.length : Int) then
     (m_spec_l1Letter (byt a0 x1)).bind fun y2 =>
     if y2 = true then
      some (Lp.go false)
     else
      if x1 = 0 then
       some (Lp.go true)
      else
       if (0 : Int) ≤ x1 ∧ x1 < (a0.length : Int) then
        (m_spec_l1Figure (byt a0 x1)).bind fun y3 =>
        some (Lp.go (!y3))
       else none
    else none).bind fun o2 =>
   o2.then fun s2 =>
  if s2 = true then
   (some false).bind fun z =>
   some (Lp.ret z)
  else
   m_spec_l1Name_l1 k a0 (IntKind.wrap .i64 (x1 + 1))
  else
   some (Lp.go ())
def m_spec_l1Name (k : Nat) (a0 : Bs) : Option Bool :=
 (m_spec_l1Name_l1 k a0 0).bind fun o1 =>
 o1.then fun s1 =>
  (m_spec_l1In (a0.length : Int) 1 12).bind fun y1 =>
  some y1
theorem m_spec_l1Name_ok (k : Nat) : ∀ (a0 : Bs) (r : Bool), m_spec_l1Name k a0 = some r → Does Try.prog 125 [.str a0] [] (ret (.bool r)) := by
 intro a0 r h
 rw [m_spec_l1Name] at h
 refine does_of_good tabOk Try.func125 rfl (by decide +kernel) (Nat.le_of_ble_eq_true rfl) fun c => ?_
 refine Good.le (σ' := ⟨29, [(0, .str a0)], []⟩) (Le.refl _) ?_
 refine good_seq fun K1 hK1 => ?_
 refine rg 1 ?_
 refine g_nil (hK1 _ ?_)
 refine good_seq fun K2 hK2 => ?_
 refine good_seq fun K3 hK3 => ?_
 refine rg 1 ?_
 refine g_nil (hK3 _ ?_)
 obtain ⟨o1, ho1, hJ1⟩ := bnd h
 have hw1 : ∀ (s1 : Unit), o1 = Lp.go s1 → ∀ σ', Le σ' ⟨29, [(0, .str a0), (2, .bool false)], []⟩ → K2 σ' := by
  intro s1 e1 σ' hle1
  subst e1
  refine hK2 _ (Good.le hle1 ?_)
  replace h := hJ1
  refine good_seq fun K4 hK4 => ?_
  refine rg 2 ?_
  obtain ⟨y1, hy1, h⟩ := bnd h
  refine g_op rfl (o_callR [] [] (core_value rfl rfl) (m_spec_l1In_ok (a0.length : Int) 1 12 _ hy1) trivial (.cons (.refl _) (.cons (.refl _) (.cons (.refl _) (.nil)))) (.inl rfl) rfl ?_)
  refine gs 1 ?_
  refine gk hK4 29 [2] [] ?_
  obtain rfl := Option.some.inj h
  exact rt
 replace h := ho1
 refine good_block ?_
 refine good_loopf (fun p : Int => ⟨29, [(0, .str a0), (2, .bool false), (3, .int .i64 p)], []⟩) (fun m p => m_spec_l1Name_l1 m a0 p = some o1) k (0) (lw []) h ?_
 rintro m1 x1 h
 replace h : m_spec_l1Name_l1 m1 a0 x1 = some o1 := h
 refine Good.le (σ' := ⟨29, [(0, .str a0), (2, .bool false), (3, .int .i64 x1)], []⟩) (Le.refl _) ?_
 obtain ⟨m1, rfl⟩ : ∃ m', m1 = m' + 1 := by cases m1 with | zero => (rw [m_spec_l1Name_l1] at h; cases h) | succ m' => exact ⟨m', rfl⟩
 rw [m_spec_l1Name_l1] at h
 refine good_seq fun K5 hK5 => ?_
 refine good_seq fun K6 hK6 => ?_
 refine rg 4 ?_
 refine gk hK6 29 [0, 2, 3, 7] [] ?_
 refine good_cond rfl (fun hc1 => ?_) (fun hc1 => ?_)
 ·replace h := ifT h (dT hc1)
  refine good_skip ?_
  refine hK5 _ (kp 29 [0, 2, 3] [] ?_)
  refine good_seq fun K7 hK7 => ?_
  refine good_block ?_
  refine good_seq fun K8 hK8 => ?_
  obtain ⟨o2, ho2, hJ2⟩ := bnd h
  have hw2 : ∀ (s2 : Bool), o2 = Lp.go s2 → ∀ σ', Le σ' ⟨29, [(0, .str a0), (2, .bool false), (3, .int .i64 x1), (25, .bool s2)], []⟩ → K8 σ' := by
   intro s2 e2 σ' hle2
   subst e2
   refine hK8 _ (Good.le hle2 ?_)
   replace h := hJ2
   refine good_cond rfl (fun hc2 => ?_) (fun hc2 => ?_)
   ·replace h := ifT h hc2
    refine good_seq fun K9 hK9 => ?_
    refine rg 1 ?_
    refine gk hK9 29 [0, 2, 3] [] ?_
    replace h := unret h hJ1
    obtain rfl := Option.some.inj h
    exact rt
   ·replace h := bF h hc2
    refine good_skip ?_
    refine hK7 _ (kp 29 [0, 2, 3] [] ?_)
    refine rg 3 ?_
    refine g_nil ?_
    exact round_mk m1 (IntKind.wrap .i64 (x1 + 1)) (Nat.lt_succ_self _) h (lw [])
  replace h := ho2
  refine rg 2 ?_
  obtain ⟨hb1, h⟩ := ifS h
  refine gs 1 ?_
  obtain ⟨y2, hy2, h⟩ := bnd h
  refine g_op rfl (o_callR [] [] (core_value rfl rfl) (m_spec_l1Letter_ok (byt a0 x1) _ hy2) trivial (.cons (.refl _) (.nil)) (.inl rfl) rfl ?_)
  refine gs 2 ?_
  rcases bsplit ((!y2)) with hg1 | hg1
  ·replace h := bF h (nT hg1)
   refine gs 3 ?_
   rcases bsplit ((decide (x1 = 0))) with hg2 | hg2
   ·replace h := ifT h (dT hg2)
    refine gs 7 ?_
    refine g_nil ?_
    exact hw2 true (Option.some.inj h).symm _ (lw [])
   ·replace h := ifF h (dF hg2)
    refine gs 2 ?_
    obtain ⟨hb2, h⟩ := ifS h
    refine gs 1 ?_
    obtain ⟨y3, hy3, h⟩ := bnd h
    refine g_yes rfl rfl hg2 (o_callR [] [] (core_value rfl rfl) (m_spec_l1Figure_ok (byt a0 x1) _ hy3) trivial (.cons (.refl _) (.nil)) (.inl rfl) rfl ?_)
    refine gs 3 ?_
    refine g_nil ?_
    exact hw2 (!y3) (Option.some.inj h).symm _ (lw [])
  ·replace h := ifT h (nF hg1)
   refine gs 10 ?_
   refine g_nil ?_
   exact hw2 false (Option.some.inj h).symm _ (lw [])
 ·replace h := ifF h (dF hc1)
  refine good_exit ?_
  exact hw1 () (Option.some.inj h).symm _ (lw [])
def m_spec_l1Once_l2 : Nat → (List Bs) → Int → Int → Option (Lp Unit (Lp Unit Bool))
 | 0, _, _, _ => none
 | k + 1, a0, x1, x2 =>
  if x2 < x1 then
   if (0 : Int) ≤ x2 ∧ x2 < (a0.length : Int) then
    if (0 : Int) ≤ x1 ∧ x1 < (a0.length : Int) then
     if (ix a0 x2) = (ix a0 x1) then
      ((some false).bind fun z =>
       some (Lp.ret z)).bind fun z =>
      some (Lp.ret z)
     else
      m_spec_l1Once_l2 k a0 x1 (IntKind.wrap .i64 (x2 + 1))
    else none
   else none
  else
   some (Lp.go ())
def m_spec_l1Once_l1 : Nat → (List Bs) → Int → Option (Lp Unit Bool)
 | 0, _, _ => none
 | k + 1, a0, x1 =>
  if x1 < (a0.length : Int) then
   if (0 : Int) ≤ x1 ∧ x1 < (a0.length : Int) then
    (m_spec_l1Name k (ix a0 x1)).bind fun y1 =>
    if y1 = true then
     (m_spec_l1Once_l2 k a0 x1 0).bind fun o2 =>
     o2.then fun s2 =>
  m_spec_l1Once_l1 k a0 (IntKind.wrap .i64 (x1 + 1))
    else
     (some false).bind fun z =>
     some (Lp.ret z)
   else none
  else
   some (Lp.go ())
def m_spec_l1Once (k : Nat) (a0 : (List Bs)) : Option Bool :=
 (m_spec_l1Once_l1 k a0 0).bind fun o1 =>
 o1.then fun s1 =>
  some true
theorem m_spec_l1Once_ok (k : Nat) : ∀ (a0 : (List Bs)) (r : Bool), m_spec_l1Once k a0 = some r → Does Try.prog 104 [.sl false (a0.map encS)] [] (ret (.bool r)) := by
 intro a0 r h
 rw [m_spec_l1Once] at h
 refine does_of_good tabOk Try.func104 rfl (by decide +kernel) (Nat.le_of_ble_eq_true rfl) fun c => ?_
 refine Good.le (σ' := ⟨31, [(0, .sl false (a0.map encS))], []⟩) (Le.refl _) ?_
 refine good_seq fun K1 hK1 => ?_
 refine rg 1 ?_
 refine g_nil (hK1 _ ?_)
 refine good_seq fun K2 hK2 => ?_
 refine good_seq fun K3 hK3 => ?_
 refine rg 1 ?_
 refine g_nil (hK3 _ ?_)
 obtain ⟨o1, ho1, hJ1⟩ := bnd h
 have hw1 : ∀ (s1 : Unit), o1 = Lp.go s1 → ∀ σ', Le σ' ⟨31, [(2, .bool false)], []⟩ → K2 σ' := by
  intro s1 e1 σ' hle1
  subst e1
  refine hK2 _ (Good.le hle1 ?_)
  replace h := hJ1
  refine good_seq fun K4 hK4 => ?_
  refine rg 1 ?_
  refine g_nil (hK4 _ ?_)
  obtain rfl := Option.some.inj h
  exact rt
 replace h := ho1
 refine good_block ?_
 refine good_loopf (fun p : Int => ⟨31, [(0, .sl false (a0.map encS)), (2, .bool false), (3, .int .i64 p)], []⟩) (fun m p => m_spec_l1Once_l1 m a0 p = some o1) k (0) (lw []) h ?_
 rintro m1 x1 h
 replace h : m_spec_l1Once_l1 m1 a0 x1 = some o1 := h
 refine Good.le (σ' := ⟨31, [(0, .sl false (a0.map encS)), (2, .bool false), (3, .int .i64 x1)], []⟩) (Le.refl _) ?_
 obtain ⟨m1, rfl⟩ : ∃ m', m1 = m' + 1 := by cases m1 with | zero => (rw [m_spec_l1Once_l1] at h; cases h) | succ m' => exact ⟨m', rfl⟩
 rw [m_spec_l1Once_l1] at h
 refine good_seq fun K5 hK5 => ?_
 refine good_seq fun K6 hK6 => ?_
 refine rg 2 ?_
 refine g_op rfl (ValOk.op (v_lenM (l := a0) (f := encS) tabOk rfl rfl telem23 rfl ?_))
 refine gs 1 ?_
 refine gk hK6 31 [0, 2, 3, 8] [] ?_
 refine good_cond rfl (fun hc1 => ?_) (fun hc1 => ?_)
 ·replace h := ifT h (dT hc1)
  refine good_skip ?_
  refine hK5 _ (kp 31 [0, 2, 3] [] ?_)
  refine good_seq fun K7 hK7 => ?_
  refine good_block ?_
  refine good_seq fun K8 hK8 => ?_
  refine good_seq fun K9 hK9 => ?_
  refine rg 2 ?_
  obtain ⟨hb1, h⟩ := ifS h
  refine g_op rfl (ValOk.op (v_idxM tabOk rfl rfl telem23 tsize9 hb1 rfl rfl rfl ?_))
  refine gs 1 ?_
  obtain ⟨y1, hy1, h⟩ := bnd h
  refine g_op rfl (o_callR [] [] (core_value rfl rfl) (m_spec_l1Name_ok m1 (ix a0 x1) _ hy1) trivial (.cons (.refl _) (.nil)) (.inl rfl) rfl ?_)
  refine gs 1 ?_
  refine gk hK9 31 [0, 2, 3, 16] [] ?_
  refine good_cond rfl (fun hc2 => ?_) (fun hc2 => ?_)
  ·replace h := bF h (nT hc2)
   refine good_seq fun K10 hK10 => ?_
   refine rg 1 ?_
   refine gk hK10 31 [0, 2, 3] [] ?_
   replace h := unret h hJ1
   obtain rfl := Option.some.inj h
   exact rt
  ·replace h := ifT h (nF hc2)
   refine good_skip ?_
   refine hK8 _ (kp 31 [0, 2, 3] [] ?_)
   refine good_seq fun K11 hK11 => ?_
   refine rg 1 ?_
   refine g_nil (hK11 _ ?_)
   obtain ⟨o2, ho2, hJ2⟩ := bnd h
   have hw2 : ∀ (s2 : Unit), o2 = Lp.go s2 → ∀ σ', Le σ' ⟨31, [(0, .sl false (a0.map encS)), (2, .bool false), (3, .int .i64 x1)], []⟩ → K7 σ' := by
    intro s2 e2 σ' hle2
    subst e2
    refine hK7 _ (Good.le hle2 ?_)
    replace h := hJ2
    refine rg 3 ?_
    refine g_nil ?_
    exact round_mk m1 (IntKind.wrap .i64 (x1 + 1)) (Nat.lt_succ_self _) h (lw [])
   replace h := ho2
   refine good_block ?_
   refine good_loopf (fun p : Int => ⟨31, [(0, .sl false (a0.map encS)), (2, .bool false), (3, .int .i64 x1), (4, .int .i64 p)], []⟩) (fun m p => m_spec_l1Once_l2 m a0 x1 p = some o2) m1 (0) (lw []) h ?_
   rintro m2 x2 h
   replace h : m_spec_l1Once_l2 m2 a0 x1 x2 = some o2 := h
   refine Good.le (σ' := ⟨31, [(0, .sl false (a0.map encS)), (2, .bool false), (3, .int .i64 x1), (4, .int .i64 x2)], []⟩) (Le.refl _) ?_
   obtain ⟨m2, rfl⟩ : ∃ m', m2 = m' + 1 := by cases m2 with | zero => (rw [m_spec_l1Once_l2] at h; cases h) | succ m' => exact ⟨m', rfl⟩
   rw [m_spec_l1Once_l2] at h
   refine good_seq fun K12 hK12 => ?_
   refine good_seq fun K13 hK13 => ?_
   refine rg 3 ?_
   refine gk hK13 31 [0, 2, 3, 4, 19] [] ?_
   refine good_cond rfl (fun hc3 => ?_) (fun hc3 => ?_)
   ·replace h := ifT h (dT hc3)
    refine good_skip ?_
    refine hK12 _ (kp 31 [0, 2, 3, 4] [] ?_)
    refine good_seq fun K14 hK14 => ?_
    refine good_block ?_
    refine good_seq fun K15 hK15 => ?_
    refine good_draw (by kernel_rfl) (by kernel_rfl) ?_
    refine q_op rfl (v_move rfl rfl ?_)
    refine q_op rfl (v_move rfl rfl ?_)
    obtain ⟨hb2, h⟩ := ifS h
    refine q_op rfl (v_idxM tabOk rfl rfl telem23 tsize9 hb2 rfl rfl rfl ?_)
    refine q_op rfl (v_loadE tabOk rfl tsize9 tagg9 rfl rfl rfl ?_)
    refine q_op rfl (v_move rfl rfl ?_)
    refine q_op rfl (v_move rfl rfl ?_)
    obtain ⟨hb3, h⟩ := ifS h
    refine q_op rfl (v_idxM tabOk rfl rfl telem23 tsize9 hb3 rfl rfl rfl ?_)
    refine q_op rfl (v_loadE tabOk rfl tsize9 tagg9 rfl rfl rfl ?_)
    refine q_op rfl (v_bin rfl rfl rfl rfl ?_)
    refine q_nil ?_
    refine hK15 _ (kp 31 [0, 2, 3, 4, 30] [] ?_)
    refine good_cond rfl (fun hc4 => ?_) (fun hc4 => ?_)
    ·replace h := ifT h (dT hc4)
     refine good_seq fun K16 hK16 => ?_
     refine rg 1 ?_
     refine gk hK16 31 [0, 2, 3, 4] [] ?_
     replace h := unret h hJ2
     replace h := unret h hJ1
     obtain rfl := Option.some.inj h
     exact rt
    ·replace h := ifF h (dF hc4)
     refine good_skip ?_
     refine hK14 _ (kp 31 [0, 2, 3, 4] [] ?_)
     refine rg 3 ?_
     refine g_nil ?_
     exact round_mk m2 (IntKind.wrap .i64 (x2 + 1)) (Nat.lt_succ_self _) h (lw [])
   ·replace h := ifF h (dF hc3)
    refine good_exit ?_
    exact hw2 () (Option.some.inj h).symm _ (lw [])
 ·replace h := ifF h (dF hc1)
  refine good_exit ?_
  exact hw1 () (Option.some.inj h).symm _ (lw [])
def m_slices_Index_string_string_l1 : Nat → (List Bs) → Bs → Int → Option (Lp Unit Int)
 | 0, _, _, _ => none
 | k + 1, a0, a1, x1 =>
  if x1 < (a0.length : Int) then
   if (0 : Int) ≤ x1 ∧ x1 < (a0.length : Int) then
    if a1 = (ix a0 x1) then
     (some x1).bind fun z =>
     some (Lp.ret z)
    else
     m_slices_Index_string_string_l1 k a0 a1 (IntKind.wrap .i64 (x1 + 1))
   else none
  else
   some (Lp.go ())
def m_slices_Index_string_string (k : Nat) (a0 : (List Bs)) (a1 : Bs) : Option Int :=
 (m_slices_Index_string_string_l1 k a0 a1 0).bind fun o1 =>
 o1.then fun s1 =>
  some (-1)
theorem m_slices_Index_string_string_ok (k : Nat) : ∀ (a0 : (List Bs)) (a1 : Bs) (r : Int), m_slices_Index_string_string k a0 a1 = some r → Does Try.prog 84 [.sl false (a0.map encS), .str a1] [] (ret (.int .i64 r)) := by
 intro a0 a1 r h
 rw [m_slices_Index_string_string] at h
 refine does_of_good tabOk Try.func84 rfl (by decide +kernel) (Nat.le_of_ble_eq_true rfl) fun c => ?_
 refine Good.le (σ' := ⟨19, [(0, .sl false (a0.map encS)), (1, .str a1)], []⟩) (Le.refl _) ?_
 refine good_seq fun K1 hK1 => ?_
 refine rg 1 ?_
 refine g_nil (hK1 _ ?_)
 refine good_seq fun K2 hK2 => ?_
 refine good_seq fun K3 hK3 => ?_
 refine rg 1 ?_
 refine g_op rfl (ValOk.op (v_lenM (l := a0) (f := encS) tabOk rfl rfl telem23 rfl ?_))
 refine gs 1 ?_
 refine gk hK3 19 [0, 1, 4, 7, 8] [] ?_
 obtain ⟨o1, ho1, hJ1⟩ := bnd h
 have hw1 : ∀ (s1 : Unit), o1 = Lp.go s1 → ∀ σ', Le σ' ⟨19, [(4, .int .i64 0)], []⟩ → K2 σ' := by
  intro s1 e1 σ' hle1
  subst e1
  refine hK2 _ (Good.le hle1 ?_)
  replace h := hJ1
  refine good_seq fun K4 hK4 => ?_
  refine rg 1 ?_
  refine g_nil (hK4 _ ?_)
  obtain rfl := Option.some.inj h
  exact rt
 replace h := ho1
 refine good_block ?_
 refine good_loopf (fun p : Int => ⟨19, [(0, .sl false (a0.map encS)), (1, .str a1), (4, .int .i64 0), (7, .int .i64 (a0.length : Int)), (8, .int .i64 p)], []⟩) (fun m p => m_slices_Index_string_string_l1 m a0 a1 p = some o1) k (0) (lw []) h ?_
 rintro m1 x1 h
 replace h : m_slices_Index_string_string_l1 m1 a0 a1 x1 = some o1 := h
 refine Good.le (σ' := ⟨19, [(0, .sl false (a0.map encS)), (1, .str a1), (4, .int .i64 0), (7, .int .i64 (a0.length : Int)), (8, .int .i64 x1)], []⟩) (Le.refl _) ?_
 obtain ⟨m1, rfl⟩ : ∃ m', m1 = m' + 1 := by cases m1 with | zero => (rw [m_slices_Index_string_string_l1] at h; cases h) | succ m' => exact ⟨m', rfl⟩
 rw [m_slices_Index_string_string_l1] at h
 refine good_seq fun K5 hK5 => ?_
 refine rg 1 ?_
 refine g_nil (hK5 _ ?_)
 refine good_seq fun K6 hK6 => ?_
 refine good_cond rfl (fun hc1 => ?_) (fun hc1 => ?_)
 ·replace h := ifT h (dT hc1)
  refine good_skip ?_
  refine hK6 _ (kp 19 [0, 1, 4, 7, 8] [] ?_)
  refine good_seq fun K7 hK7 => ?_
  refine good_block ?_
  refine good_seq fun K8 hK8 => ?_
  refine rg 2 ?_
  refine gk hK8 19 [0, 1, 4, 5, 7, 8] [] ?_
  refine good_seq fun K9 hK9 => ?_
  refine rg 3 ?_
  obtain ⟨hb1, h⟩ := ifS h
  refine g_op rfl (ValOk.op (v_idxM tabOk rfl rfl telem23 tsize9 hb1 rfl rfl rfl ?_))
  refine gs 2 ?_
  refine gk hK9 19 [0, 1, 4, 5, 7, 8, 16] [] ?_
  refine good_cond rfl (fun hc2 => ?_) (fun hc2 => ?_)
  ·replace h := ifT h (dT hc2)
   refine good_seq fun K10 hK10 => ?_
   refine rg 2 ?_
   refine gk hK10 19 [0, 1, 4, 7, 8] [] ?_
   replace h := unret h hJ1
   obtain rfl := Option.some.inj h
   exact rt
  ·replace h := ifF h (dF hc2)
   refine good_skip ?_
   refine hK7 _ (kp 19 [0, 1, 4, 7, 8] [] ?_)
   refine rg 2 ?_
   refine g_nil ?_
   exact round_mk m1 (IntKind.wrap .i64 (x1 + 1)) (Nat.lt_succ_self _) h (lw [])
 ·replace h := ifF h (dF hc1)
  refine good_exit ?_
  exact hw1 () (Option.some.inj h).symm _ (lw [])
def m_slices_Contains_string_string (k : Nat) (a0 : (List Bs)) (a1 : Bs) : Option Bool :=
 (m_slices_Index_string_string k a0 a1).bind fun y1 =>
 some (decide (0 ≤ y1))
theorem m_slices_Contains_string_string_ok (k : Nat) : ∀ (a0 : (List Bs)) (a1 : Bs) (r : Bool), m_slices_Contains_string_string k a0 a1 = some r → Does Try.prog 144 [.sl false (a0.map encS), .str a1] [] (ret (.bool r)) := by
 intro a0 a1 r h
 rw [m_slices_Contains_string_string] at h
 refine does_of_good tabOk Try.func144 rfl (by decide +kernel) (Nat.le_of_ble_eq_true rfl) fun c => ?_
 refine Good.le (σ' := ⟨9, [(0, .sl false (a0.map encS)), (1, .str a1)], []⟩) (Le.refl _) ?_
 refine good_seq fun K1 hK1 => ?_
 refine rg 1 ?_
 refine g_nil (hK1 _ ?_)
 refine good_seq fun K2 hK2 => ?_
 refine rg 2 ?_
 obtain ⟨y1, hy1, h⟩ := bnd h
 refine g_op rfl (o_callR [] [] (core_value rfl rfl) (m_slices_Index_string_string_ok k a0 a1 _ hy1) trivial (.cons (.refl _) (.cons (.refl _) (.nil))) (.inl rfl) rfl ?_)
 refine gs 2 ?_
 refine gk hK2 9 [4] [] ?_
 obtain rfl := Option.some.inj h
 exact rt
def m_impl_isFigure (a0 : Int) : Option Bool :=
 if 48 ≤ a0 then
  some (decide (a0 ≤ 57))
 else
  some false
theorem m_impl_isFigure_ok : ∀ (a0 : Int) (r : Bool), m_impl_isFigure a0 = some r → Does Try.prog 120 [.int .u8 a0] [] (ret (.bool r)) := by
 intro a0 r h
 rw [m_impl_isFigure] at h
 refine does_of_good tabOk Try.func120 rfl (by decide +kernel) (Nat.le_of_ble_eq_true rfl) fun c => ?_
 refine Good.le (σ' := ⟨9, [(0, .int .u8 a0)], []⟩) (Le.refl _) ?_
 refine good_seq fun K1 hK1 => ?_
 refine rg 1 ?_
 refine g_nil (hK1 _ ?_)
 refine good_seq fun K2 hK2 => ?_
 refine rg 3 ?_
 rcases bsplit ((decide (48 ≤ a0))) with hg1 | hg1
 ·replace h := ifT h (dT hg1)
  refine gs 4 ?_
  refine gk hK2 9 [2] [] ?_
  obtain rfl := Option.some.inj h
  exact rt
 ·replace h := ifF h (dF hg1)
  refine gs 4 ?_
  refine gk hK2 9 [2] [] ?_
  obtain rfl := Option.some.inj h
  exact rt
def m_impl_isWordByte (a0 : Int) : Option Bool :=
 if 97 ≤ a0 then
  if a0 ≤ 122 then
   some true
  else
   if 65 ≤ a0 then
    if a0 ≤ 90 then
     some true
    else
     if a0 = 95 then
      some true
     else
      (m_impl_isFigure a0).bind fun y1 =>
      some y1
   else
    if a0 = 95 then
     some true
    else
     (m_impl_isFigure a0).bind fun y2 =>
     some y2
 else
  if 65 ≤ a0 then
   if a0 ≤ 90 then
    some true
   else
    if a0 = 95 then
     some true
    else
     (m_impl_isFigure a0).bind fun y3 =>
     some y3
  else
   if a0 = 95 then
    some true
   else
    (m_impl_isFigure a0).bind fun y4 =>
    some y4
theorem m_impl_isWordByte_ok : ∀ (a0 : Int) (r : Bool), m_impl_isWordByte a0 = some r → Does Try.prog 121 [.int .u8 a0] [] (ret (.bool r)) := by
 intro a0 r h
 rw [m_impl_isWordByte] at h
 refine does_of_good tabOk Try.func121 rfl (by decide +kernel) (Nat.le_of_ble_eq_true rfl) fun c => ?_
 refine Good.le (σ' := ⟨25, [(0, .int .u8 a0)], []⟩) (Le.refl _) ?_
 refine good_seq fun K1 hK1 => ?_
 refine rg 1 ?_
 refine g_nil (hK1 _ ?_)
 refine good_seq fun K2 hK2 => ?_
 refine rg 3 ?_
 rcases bsplit ((decide (97 ≤ a0))) with hg1 | hg1
 ·replace h := ifT h (dT hg1)
  refine gs 4 ?_
  rcases bsplit ((decide (a0 ≤ 122))) with hg2 | hg2
  ·replace h := ifT h (dT hg2)
   refine gs 16 ?_
   refine gk hK2 25 [2] [] ?_
   obtain rfl := Option.some.inj h
   exact rt
  ·replace h := ifF h (dF hg2)
   refine gs 3 ?_
   rcases bsplit ((decide (65 ≤ a0))) with hg3 | hg3
   ·replace h := ifT h (dT hg3)
    refine gs 5 ?_
    rcases bsplit ((decide (a0 ≤ 90))) with hg4 | hg4
    ·replace h := ifT h (dT hg4)
     refine gs 8 ?_
     refine gk hK2 25 [2] [] ?_
     obtain rfl := Option.some.inj h
     exact rt
    ·replace h := ifF h (dF hg4)
     refine gs 4 ?_
     rcases bsplit ((decide (a0 = 95))) with hg5 | hg5
     ·replace h := ifT h (dT hg5)
      refine gs 4 ?_
      refine gk hK2 25 [2] [] ?_
      obtain rfl := Option.some.inj h
      exact rt
     ·replace h := ifF h (dF hg5)
      refine gs 1 ?_
      obtain ⟨y1, hy1, h⟩ := bnd h
      refine g_yes rfl rfl hg5 (o_callR [] [] (core_value rfl rfl) (m_impl_isFigure_ok a0 _ hy1) trivial (.cons (.refl _) (.nil)) (.inl rfl) rfl ?_)
      refine gs 2 ?_
      refine gk hK2 25 [2] [] ?_
      obtain rfl := Option.some.inj h
      exact rt
   ·replace h := ifF h (dF hg3)
    refine gs 9 ?_
    rcases bsplit ((decide (a0 = 95))) with hg6 | hg6
    ·replace h := ifT h (dT hg6)
     refine gs 4 ?_
     refine gk hK2 25 [2] [] ?_
     obtain rfl := Option.some.inj h
     exact rt
    ·replace h := ifF h (dF hg6)
     refine gs 1 ?_
     obtain ⟨y2, hy2, h⟩ := bnd h
     refine g_yes rfl rfl hg6 (o_callR [] [] (core_value rfl rfl) (m_impl_isFigure_ok a0 _ hy2) trivial (.cons (.refl _) (.nil)) (.inl rfl) rfl ?_)
     refine gs 2 ?_
     refine gk hK2 25 [2] [] ?_
     obtain rfl := Option.some.inj h
     exact rt
 ·replace h := ifF h (dF hg1)
  refine gs 7 ?_
  rcases bsplit ((decide (65 ≤ a0))) with hg7 | hg7
  ·replace h := ifT h (dT hg7)
   refine gs 5 ?_
   rcases bsplit ((decide (a0 ≤ 90))) with hg8 | hg8
   ·replace h := ifT h (dT hg8)
    refine gs 8 ?_
    refine gk hK2 25 [2] [] ?_
    obtain rfl := Option.some.inj h
    exact rt
   ·replace h := ifF h (dF hg8)
    refine gs 4 ?_
    rcases bsplit ((decide (a0 = 95))) with hg9 | hg9
    ·replace h := ifT h (dT hg9)
     refine gs 4 ?_
     refine gk hK2 25 [2] [] ?_
     obtain rfl := Option.some.inj h
     exact rt
    ·replace h := ifF h (dF hg9)
     refine gs 1 ?_
     obtain ⟨y3, hy3, h⟩ := bnd h
     refine g_yes rfl rfl hg9 (o_callR [] [] (core_value rfl rfl) (m_impl_isFigure_ok a0 _ hy3) trivial (.cons (.refl _) (.nil)) (.inl rfl) rfl ?_)
     refine gs 2 ?_
     refine gk hK2 25 [2] [] ?_
     obtain rfl := Option.some.inj h
     exact rt
  ·replace h := ifF h (dF hg7)
   refine gs 9 ?_
   rcases bsplit ((decide (a0 = 95))) with hg10 | hg10
   ·replace h := ifT h (dT hg10)
    refine gs 4 ?_
    refine gk hK2 25 [2] [] ?_
    obtain rfl := Option.some.inj h
    exact rt
   ·replace h := ifF h (dF hg10)
    refine gs 1 ?_
    obtain ⟨y4, hy4, h⟩ := bnd h
    refine g_yes rfl rfl hg10 (o_callR [] [] (core_value rfl rfl) (m_impl_isFigure_ok a0 _ hy4) trivial (.cons (.refl _) (.nil)) (.inl rfl) rfl ?_)
    refine gs 2 ?_
    refine gk hK2 25 [2] [] ?_
    obtain rfl := Option.some.inj h
    exact rt
def m_impl_isName_l1 : Nat → Bs → Int → Option (Lp Unit Bool)
 | 0, _, _ => none
 | k + 1, a0, x1 =>
  if x1 < (a0.length : Int) then
   if (0 : Int) ≤ x1 ∧ x1 < (a0.length : Int) then
    (m_impl_isWordByte (byt a0 x1)).bind fun y1 =>
    if y1 = true then
     m_impl_isName_l1 k a0 (IntKind.wrap .i64 (x1 + 1))
    else
     (some false).bind fun z =>
     some (Lp.ret z)
   else none
  else
   some (Lp.go ())
def m_impl_isName (k : Nat) (a0 : Bs) : Option Bool :=
 (if (a0.length : Int) < 1 then
   some (Lp.go true)
  else
   if 12 < (a0.length : Int) then
    some (Lp.go true)
   else
    if (0 : Int) ≤ 0 ∧ 0 < (a0.length : Int) then
     (m_impl_isFigure (byt a0 0)).bind fun y2 =>
     some (Lp.go y2)
    else none).bind fun o1 =>
 o1.then fun s1 =>
  if s1 = true then
   some false
  else
   (m_impl_isName_l1 k a0 0).bind fun o2 =>
   o2.then fun s2 =>
  some true
theorem m_impl_isName_ok (k : Nat) : ∀ (a0 : Bs) (r : Bool), m_impl_isName k a0 = some r → Does Try.prog 127 [.str a0] [] (ret (.bool r)) := by
 intro a0 r h
 rw [m_impl_isName] at h
 refine does_of_good tabOk Try.func127 rfl (by decide +kernel) (Nat.le_of_ble_eq_true rfl) fun c => ?_
 refine Good.le (σ' := ⟨28, [(0, .str a0)], []⟩) (Le.refl _) ?_
 refine good_seq fun K1 hK1 => ?_
 refine rg 1 ?_
 refine g_nil (hK1 _ ?_)
 refine good_seq fun K2 hK2 => ?_
 refine good_seq fun K3 hK3 => ?_
 obtain ⟨o1, ho1, hJ1⟩ := bnd h
 have hw1 : ∀ (s1 : Bool), o1 = Lp.go s1 → ∀ σ', Le σ' ⟨28, [(0, .str a0), (2, .bool false), (16, .bool s1)], []⟩ → K3 σ' := by
  intro s1 e1 σ' hle1
  subst e1
  refine hK3 _ (Good.le hle1 ?_)
  replace h := hJ1
  refine good_cond rfl (fun hc1 => ?_) (fun hc1 => ?_)
  ·replace h := ifT h hc1
   refine good_seq fun K4 hK4 => ?_
   refine rg 1 ?_
   refine gk hK4 28 [0, 2] [] ?_
   obtain rfl := Option.some.inj h
   exact rt
  ·replace h := bF h hc1
   refine good_skip ?_
   refine hK2 _ (kp 28 [0, 2] [] ?_)
   refine good_seq fun K5 hK5 => ?_
   refine good_seq fun K6 hK6 => ?_
   refine rg 3 ?_
   refine gk hK6 28 [0, 2, 18, 19] [] ?_
   obtain ⟨o2, ho2, hJ2⟩ := bnd h
   have hw2 : ∀ (s2 : Unit), o2 = Lp.go s2 → ∀ σ', Le σ' ⟨28, [(2, .bool false)], []⟩ → K5 σ' := by
    intro s2 e2 σ' hle2
    subst e2
    refine hK5 _ (Good.le hle2 ?_)
    replace h := hJ2
    refine good_seq fun K7 hK7 => ?_
    refine rg 1 ?_
    refine g_nil (hK7 _ ?_)
    obtain rfl := Option.some.inj h
    exact rt
   replace h := ho2
   refine good_block ?_
   refine good_loopf (fun p : Int => ⟨28, [(0, .str a0), (2, .bool false), (18, .int .i64 (a0.length : Int)), (19, .int .i64 p)], []⟩) (fun m p => m_impl_isName_l1 m a0 p = some o2) k (0) (lw []) h ?_
   rintro m1 x1 h
   replace h : m_impl_isName_l1 m1 a0 x1 = some o2 := h
   refine Good.le (σ' := ⟨28, [(0, .str a0), (2, .bool false), (18, .int .i64 (a0.length : Int)), (19, .int .i64 x1)], []⟩) (Le.refl _) ?_
   obtain ⟨m1, rfl⟩ : ∃ m', m1 = m' + 1 := by cases m1 with | zero => (rw [m_impl_isName_l1] at h; cases h) | succ m' => exact ⟨m', rfl⟩
   rw [m_impl_isName_l1] at h
   refine good_seq fun K8 hK8 => ?_
   refine rg 1 ?_
   refine g_nil (hK8 _ ?_)
   refine good_seq fun K9 hK9 => ?_
   refine good_cond rfl (fun hc2 => ?_) (fun hc2 => ?_)
   ·replace h := ifT h (dT hc2)
    refine good_skip ?_
    refine hK9 _ (kp 28 [0, 2, 18, 19] [] ?_)
    refine good_seq fun K10 hK10 => ?_
    refine good_block ?_
    refine good_seq fun K11 hK11 => ?_
    refine rg 2 ?_
    refine gk hK11 28 [0, 2, 3, 18, 19] [] ?_
    refine good_seq fun K12 hK12 => ?_
    refine rg 2 ?_
    obtain ⟨hb1, h⟩ := ifS h
    refine gs 1 ?_
    obtain ⟨y1, hy1, h⟩ := bnd h
    refine g_op rfl (o_callR [] [] (core_value rfl rfl) (m_impl_isWordByte_ok (byt a0 x1) _ hy1) trivial (.cons (.refl _) (.nil)) (.inl rfl) rfl ?_)
    refine gs 1 ?_
    refine gk hK12 28 [0, 2, 18, 19, 26] [] ?_
    refine good_cond rfl (fun hc3 => ?_) (fun hc3 => ?_)
    ·replace h := bF h (nT hc3)
     refine good_seq fun K13 hK13 => ?_
     refine rg 1 ?_
     refine gk hK13 28 [0, 2, 18, 19] [] ?_
     replace h := unret h hJ2
     obtain rfl := Option.some.inj h
     exact rt
    ·replace h := ifT h (nF hc3)
     refine good_skip ?_
     refine hK10 _ (kp 28 [0, 2, 18, 19] [] ?_)
     refine rg 2 ?_
     refine g_nil ?_
     exact round_mk m1 (IntKind.wrap .i64 (x1 + 1)) (Nat.lt_succ_self _) h (lw [])
   ·replace h := ifF h (dF hc2)
    refine good_exit ?_
    exact hw2 () (Option.some.inj h).symm _ (lw [])
 replace h := ho1
 refine rg 4 ?_
 rcases bsplit ((decide ((a0.length : Int) < 1))) with hg1 | hg1
 ·replace h := ifT h (dT hg1)
  refine gs 9 ?_
  refine g_nil ?_
  exact hw1 true (Option.some.inj h).symm _ (lw [])
 ·replace h := ifF h (dF hg1)
  refine gs 5 ?_
  rcases bsplit ((decide (12 < (a0.length : Int)))) with hg2 | hg2
  ·replace h := ifT h (dT hg2)
   refine gs 4 ?_
   refine g_nil ?_
   exact hw1 true (Option.some.inj h).symm _ (lw [])
  ·replace h := ifF h (dF hg2)
   refine gs 1 ?_
   obtain ⟨hb2, h⟩ := ifS h
   refine gs 1 ?_
   obtain ⟨y2, hy2, h⟩ := bnd h
   refine g_yes rfl rfl hg2 (o_callR [] [] (core_value rfl rfl) (m_impl_isFigure_ok (byt a0 0) _ hy2) trivial (.cons (.refl _) (.nil)) (.inl rfl) rfl ?_)
   refine gs 1 ?_
   refine g_nil ?_
   exact hw1 y2 (Option.some.inj h).symm _ (lw [])
def m_impl_namesOnce_l1 : Nat → (List Bs) → Int → Option (Lp Unit Bool)
 | 0, _, _ => none
 | k + 1, a0, x1 =>
  if x1 < (a0.length : Int) then
   if (0 : Int) ≤ x1 ∧ x1 < (a0.length : Int) then
    ((m_impl_isName k (ix a0 x1)).bind fun y1 =>
     if y1 = true then
      if (0 : Int) ≤ 0 ∧ (0 : Int) ≤ x1 ∧ x1 ≤ (a0.length : Int) then
       (m_slices_Contains_string_string k (sub a0 0 x1) (ix a0 x1)).bind fun y2 =>
       some (Lp.go y2)
      else none
     else
      some (Lp.go true)).bind fun o2 =>
    o2.then fun s2 =>
  if s2 = true then
   (some false).bind fun z =>
   some (Lp.ret z)
  else
   m_impl_namesOnce_l1 k a0 (IntKind.wrap .i64 (x1 + 1))
   else none
  else
   some (Lp.go ())
def m_impl_namesOnce (k : Nat) (a0 : (List Bs)) : Option Bool :=
 (m_impl_namesOnce_l1 k a0 0).bind fun o1 =>
 o1.then fun s1 =>
  some true
theorem m_impl_namesOnce_ok (k : Nat) : ∀ (a0 : (List Bs)) (r : Bool), m_impl_namesOnce k a0 = some r → Does Try.prog 126 [.sl false (a0.map encS)] [] (ret (.bool r)) := by
 intro a0 r h
 rw [m_impl_namesOnce] at h
 refine does_of_good tabOk Try.func126 rfl (by decide +kernel) (Nat.le_of_ble_eq_true rfl) fun c => ?_
 refine Good.le (σ' := ⟨23, [(0, .sl false (a0.map encS))], []⟩) (Le.refl _) ?_
 refine good_seq fun K1 hK1 => ?_
 refine rg 1 ?_
 refine g_nil (hK1 _ ?_)
 refine good_seq fun K2 hK2 => ?_
 refine good_seq fun K3 hK3 => ?_
 refine rg 1 ?_
 refine g_op rfl (ValOk.op (v_lenM (l := a0) (f := encS) tabOk rfl rfl telem23 rfl ?_))
 refine gs 1 ?_
 refine g_nil (hK3 _ ?_)
 obtain ⟨o1, ho1, hJ1⟩ := bnd h
 have hw1 : ∀ (s1 : Unit), o1 = Lp.go s1 → ∀ σ', Le σ' ⟨23, [(2, .bool false)], []⟩ → K2 σ' := by
  intro s1 e1 σ' hle1
  subst e1
  refine hK2 _ (Good.le hle1 ?_)
  replace h := hJ1
  refine good_seq fun K4 hK4 => ?_
  refine rg 1 ?_
  refine g_nil (hK4 _ ?_)
  obtain rfl := Option.some.inj h
  exact rt
 replace h := ho1
 refine good_block ?_
 refine good_loopf (fun p : Int => ⟨23, [(0, .sl false (a0.map encS)), (2, .bool false), (5, .sl false (a0.map encS)), (6, .int .i64 (a0.length : Int)), (7, .int .i64 p)], []⟩) (fun m p => m_impl_namesOnce_l1 m a0 p = some o1) k (0) (lw []) h ?_
 rintro m1 x1 h
 replace h : m_impl_namesOnce_l1 m1 a0 x1 = some o1 := h
 refine Good.le (σ' := ⟨23, [(0, .sl false (a0.map encS)), (2, .bool false), (5, .sl false (a0.map encS)), (6, .int .i64 (a0.length : Int)), (7, .int .i64 x1)], []⟩) (Le.refl _) ?_
 obtain ⟨m1, rfl⟩ : ∃ m', m1 = m' + 1 := by cases m1 with | zero => (rw [m_impl_namesOnce_l1] at h; cases h) | succ m' => exact ⟨m', rfl⟩
 rw [m_impl_namesOnce_l1] at h
 refine good_seq fun K5 hK5 => ?_
 refine rg 1 ?_
 refine g_nil (hK5 _ ?_)
 refine good_seq fun K6 hK6 => ?_
 refine good_cond rfl (fun hc1 => ?_) (fun hc1 => ?_)
 ·replace h := ifT h (dT hc1)
  refine good_skip ?_
  refine hK6 _ (kp 23 [0, 2, 5, 6, 7] [] ?_)
  refine good_seq fun K7 hK7 => ?_
  refine good_block ?_
  refine good_seq fun K8 hK8 => ?_
  refine rg 1 ?_
  obtain ⟨hb1, h⟩ := ifS h
  refine g_op rfl (ValOk.op (v_idxM tabOk rfl rfl telem23 tsize9 hb1 rfl rfl rfl ?_))
  refine gs 3 ?_
  refine gk hK8 23 [0, 2, 3, 4, 5, 6, 7] [] ?_
  refine good_seq fun K9 hK9 => ?_
  obtain ⟨o2, ho2, hJ2⟩ := bnd h
  have hw2 : ∀ (s2 : Bool), o2 = Lp.go s2 → ∀ σ', Le σ' ⟨23, [(0, .sl false (a0.map encS)), (2, .bool false), (5, .sl false (a0.map encS)), (6, .int .i64 (a0.length : Int)), (7, .int .i64 x1), (21, .bool s2)], []⟩ → K9 σ' := by
   intro s2 e2 σ' hle2
   subst e2
   refine hK9 _ (Good.le hle2 ?_)
   replace h := hJ2
   refine good_cond rfl (fun hc2 => ?_) (fun hc2 => ?_)
   ·replace h := ifT h hc2
    refine good_seq fun K10 hK10 => ?_
    refine rg 1 ?_
    refine gk hK10 23 [0, 2, 5, 6, 7] [] ?_
    replace h := unret h hJ1
    obtain rfl := Option.some.inj h
    exact rt
   ·replace h := bF h hc2
    refine good_skip ?_
    refine hK7 _ (kp 23 [0, 2, 5, 6, 7] [] ?_)
    refine rg 2 ?_
    refine g_nil ?_
    exact round_mk m1 (IntKind.wrap .i64 (x1 + 1)) (Nat.lt_succ_self _) h (lw [])
  replace h := ho2
  refine rg 1 ?_
  obtain ⟨y1, hy1, h⟩ := bnd h
  refine g_op rfl (o_callR [] [] (core_value rfl rfl) (m_impl_isName_ok m1 (ix a0 x1) _ hy1) trivial (.cons (.refl _) (.nil)) (.inl rfl) rfl ?_)
  refine gs 2 ?_
  rcases bsplit ((!y1)) with hg1 | hg1
  ·replace h := bF h (nT hg1)
   refine gs 6 ?_
   refine g_nil ?_
   exact hw2 true (Option.some.inj h).symm _ (lw [])
  ·replace h := ifT h (nF hg1)
   refine gs 2 ?_
   obtain ⟨hb2, h⟩ := ifS h
   refine g_yes rfl rfl hg1 (ValOk.op (v_sliceM (l := a0) (f := encS) tabOk rfl rfl rfl rfl telem23 tsize9 encS_len hb2 rfl ?_))
   refine gs 1 ?_
   obtain ⟨y2, hy2, h⟩ := bnd h
   refine g_yes rfl rfl hg1 (o_callR [] [] (core_value rfl rfl) (m_slices_Contains_string_string_ok m1 (sub a0 0 x1) (ix a0 x1) _ hy2) trivial (.cons (.refl _) (.cons (.refl _) (.nil))) (.inl rfl) rfl ?_)
   refine gs 1 ?_
   refine g_nil ?_
   exact hw2 y2 (Option.some.inj h).symm _ (lw [])
 ·replace h := ifF h (dF hc1)
  refine good_exit ?_
  exact hw1 () (Option.some.inj h).symm _ (lw [])
end Go.Proofs.Ytiaigcdckmpepaa
end
end
section
/-! Functions of the program. -/
set_option linter.unusedVariables false
set_option linter.unnecessarySimpa false
set_option maxRecDepth 100000
set_option maxHeartbeats 20000000
noncomputable section
namespace Go.Proofs.Ytiaigcdckmpepaa
open Go.Bb
def m_spec_l1Plain (k : Nat) (a0 : Val) : Option Bool :=
 if a0.kind = 0 then
  if a0.num = 0 then
   if a0.text = [] then
    some (decide ((IntKind.wrap .i64 ((a0.list.length : Int) + (a0.names.length : Int))) = 0))
   else
    some false
  else
   some false
 else
  if a0.kind = 1 then
   (m_spec_l1In a0.num 0 1).bind fun y1 =>
   if y1 = true then
    if a0.text = [] then
     some (decide ((IntKind.wrap .i64 ((a0.list.length : Int) + (a0.names.length : Int))) = 0))
    else
     some false
   else
    some false
  else
   if a0.kind = 2 then
    (m_spec_l1In a0.num (-2147483647) 2147483647).bind fun y2 =>
    if y2 = true then
     if a0.text = [] then
      some (decide ((IntKind.wrap .i64 ((a0.list.length : Int) + (a0.names.length : Int))) = 0))
     else
      some false
    else
     some false
   else
    if a0.kind = 3 then
     if a0.num = 0 then
      if (a0.text.length : Int) ≤ 40 then
       some (decide ((IntKind.wrap .i64 ((a0.list.length : Int) + (a0.names.length : Int))) = 0))
      else
       some false
     else
      some false
    else
     if a0.kind = 4 then
      if a0.num = 0 then
       if a0.text = [] then
        if (a0.names.length : Int) = 0 then
         some (decide ((a0.list.length : Int) ≤ 12))
        else
         some false
       else
        some false
      else
       some false
     else
      if a0.kind = 5 then
       if a0.num = 0 then
        if a0.text = [] then
         if (a0.names.length : Int) = (a0.list.length : Int) then
          some (decide ((a0.list.length : Int) ≤ 12))
         else
          some false
        else
         some false
       else
        some false
      else
       (if a0.kind = 6 then
         some (Lp.go (decide (a0.kind = 6)))
        else
         some (Lp.go (decide (a0.kind = 7)))).bind fun o1 =>
       o1.then fun s1 =>
  if s1 = true then
   if a0.num = 0 then
    (m_spec_l1Name k a0.text).bind fun y3 =>
    if y3 = true then
     some (decide ((IntKind.wrap .i64 ((a0.list.length : Int) + (a0.names.length : Int))) = 0))
    else
     some false
   else
    some false
  else
   some false
theorem m_spec_l1Plain_ok (k : Nat) : ∀ (a0 : Val) (r : Bool), m_spec_l1Plain k a0 = some r → Does Try.prog 103 [.agg [.int .i64 a0.kind, .int .i64 a0.num, .str a0.text, .sl true (a0.list.map encVal), .sl false (a0.names.map encS)]] [] (ret (.bool r)) := by
 intro a0 r h
 rw [m_spec_l1Plain] at h
 refine does_of_good tabOk Try.func103 rfl (by decide +kernel) (Nat.le_of_ble_eq_true rfl) fun c => ?_
 refine Good.le (σ' := ⟨154, [(0, .agg [.int .i64 a0.kind, .int .i64 a0.num, .str a0.text, .sl true (a0.list.map encVal), .sl false (a0.names.map encS)])], []⟩) (Le.refl _) ?_
 refine good_seq fun K1 hK1 => ?_
 refine good_region ?_
 refine g_op rfl (o_box (k := 11) tabOk rfl rfl rfl rfl rfl ?_)
 intro b1
 refine gs 1 ?_
 refine gk hK1 154 [1, 2] [11] ?_
 refine good_seq fun K2 hK2 => ?_
 refine good_seq fun K3 hK3 => ?_
 refine rg 2 ?_
 refine gk hK3 154 [1, 2, 4] [11] ?_
 refine good_block ?_
 refine good_seq fun K4 hK4 => ?_
 refine rg 2 ?_
 refine gk hK4 154 [1, 2, 4, 5] [11] ?_
 refine good_cond rfl (fun hc1 => ?_) (fun hc1 => ?_)
 ·replace h := ifT h (dT hc1)
  refine good_seq fun K5 hK5 => ?_
  refine rg 4 ?_
  rcases bsplit ((decide (a0.num = 0))) with hg1 | hg1
  ·replace h := ifT h (dT hg1)
   refine gs 5 ?_
   rcases bsplit ((decide (a0.text = []))) with hg2 | hg2
   ·replace h := ifT h (dT hg2)
    refine gs 2 ?_
    refine g_yes rfl rfl hg2 (ValOk.op (v_lenM (l := a0.list) (f := encVal) tabOk rfl rfl telem28 rfl ?_))
    refine gs 2 ?_
    refine g_yes rfl rfl hg2 (ValOk.op (v_lenM (l := a0.names) (f := encS) tabOk rfl rfl telem23 rfl ?_))
    refine gs 4 ?_
    refine gk hK5 154 [2] [] ?_
    obtain rfl := Option.some.inj h
    exact rt
   ·replace h := ifF h (dF hg2)
    refine gs 10 ?_
    refine gk hK5 154 [2] [] ?_
    obtain rfl := Option.some.inj h
    exact rt
  ·replace h := ifF h (dF hg1)
   refine gs 15 ?_
   refine gk hK5 154 [2] [] ?_
   obtain rfl := Option.some.inj h
   exact rt
 ·replace h := ifF h (dF hc1)
  refine good_seq fun K6 hK6 => ?_
  refine rg 2 ?_
  refine gk hK6 154 [1, 2, 4, 25] [11] ?_
  refine good_cond rfl (fun hc2 => ?_) (fun hc2 => ?_)
  ·replace h := ifT h (dT hc2)
   refine good_seq fun K7 hK7 => ?_
   refine rg 2 ?_
   obtain ⟨y1, hy1, h⟩ := bnd h
   refine g_op rfl (o_callR [] [] (core_value rfl rfl) (m_spec_l1In_ok a0.num 0 1 _ hy1) trivial (.cons (.refl _) (.cons (.refl _) (.cons (.refl _) (.nil)))) (.inl rfl) rfl ?_)
   refine gs 1 ?_
   rcases bsplit (y1) with hg3 | hg3
   ·replace h := ifT h hg3
    refine gs 5 ?_
    rcases bsplit ((decide (a0.text = []))) with hg4 | hg4
    ·replace h := ifT h (dT hg4)
     refine gs 2 ?_
     refine g_yes rfl rfl hg4 (ValOk.op (v_lenM (l := a0.list) (f := encVal) tabOk rfl rfl telem28 rfl ?_))
     refine gs 2 ?_
     refine g_yes rfl rfl hg4 (ValOk.op (v_lenM (l := a0.names) (f := encS) tabOk rfl rfl telem23 rfl ?_))
     refine gs 4 ?_
     refine gk hK7 154 [2] [] ?_
     obtain rfl := Option.some.inj h
     exact rt
    ·replace h := ifF h (dF hg4)
     refine gs 10 ?_
     refine gk hK7 154 [2] [] ?_
     obtain rfl := Option.some.inj h
     exact rt
   ·replace h := bF h hg3
    refine gs 15 ?_
    refine gk hK7 154 [2] [] ?_
    obtain rfl := Option.some.inj h
    exact rt
  ·replace h := ifF h (dF hc2)
   refine good_seq fun K8 hK8 => ?_
   refine rg 2 ?_
   refine gk hK8 154 [1, 2, 4, 45] [11] ?_
   refine good_cond rfl (fun hc3 => ?_) (fun hc3 => ?_)
   ·replace h := ifT h (dT hc3)
    refine good_seq fun K9 hK9 => ?_
    refine rg 2 ?_
    obtain ⟨y2, hy2, h⟩ := bnd h
    refine g_op rfl (o_callR [] [] (core_value rfl rfl) (m_spec_l1In_ok a0.num (-2147483647) 2147483647 _ hy2) trivial (.cons (.refl _) (.cons (.refl _) (.cons (.refl _) (.nil)))) (.inl rfl) rfl ?_)
    refine gs 1 ?_
    rcases bsplit (y2) with hg5 | hg5
    ·replace h := ifT h hg5
     refine gs 5 ?_
     rcases bsplit ((decide (a0.text = []))) with hg6 | hg6
     ·replace h := ifT h (dT hg6)
      refine gs 2 ?_
      refine g_yes rfl rfl hg6 (ValOk.op (v_lenM (l := a0.list) (f := encVal) tabOk rfl rfl telem28 rfl ?_))
      refine gs 2 ?_
      refine g_yes rfl rfl hg6 (ValOk.op (v_lenM (l := a0.names) (f := encS) tabOk rfl rfl telem23 rfl ?_))
      refine gs 4 ?_
      refine gk hK9 154 [2] [] ?_
      obtain rfl := Option.some.inj h
      exact rt
     ·replace h := ifF h (dF hg6)
      refine gs 10 ?_
      refine gk hK9 154 [2] [] ?_
      obtain rfl := Option.some.inj h
      exact rt
    ·replace h := bF h hg5
     refine gs 15 ?_
     refine gk hK9 154 [2] [] ?_
     obtain rfl := Option.some.inj h
     exact rt
   ·replace h := ifF h (dF hc3)
    refine good_seq fun K10 hK10 => ?_
    refine rg 2 ?_
    refine gk hK10 154 [1, 2, 4, 65] [11] ?_
    refine good_cond rfl (fun hc4 => ?_) (fun hc4 => ?_)
    ·replace h := ifT h (dT hc4)
     refine good_seq fun K11 hK11 => ?_
     refine rg 4 ?_
     rcases bsplit ((decide (a0.num = 0))) with hg7 | hg7
     ·replace h := ifT h (dT hg7)
      refine gs 6 ?_
      rcases bsplit ((decide ((a0.text.length : Int) ≤ 40))) with hg8 | hg8
      ·replace h := ifT h (dT hg8)
       refine gs 2 ?_
       refine g_yes rfl rfl hg8 (ValOk.op (v_lenM (l := a0.list) (f := encVal) tabOk rfl rfl telem28 rfl ?_))
       refine gs 2 ?_
       refine g_yes rfl rfl hg8 (ValOk.op (v_lenM (l := a0.names) (f := encS) tabOk rfl rfl telem23 rfl ?_))
       refine gs 4 ?_
       refine gk hK11 154 [2] [] ?_
       obtain rfl := Option.some.inj h
       exact rt
      ·replace h := ifF h (dF hg8)
       refine gs 10 ?_
       refine gk hK11 154 [2] [] ?_
       obtain rfl := Option.some.inj h
       exact rt
     ·replace h := ifF h (dF hg7)
      refine gs 16 ?_
      refine gk hK11 154 [2] [] ?_
      obtain rfl := Option.some.inj h
      exact rt
    ·replace h := ifF h (dF hc4)
     refine good_seq fun K12 hK12 => ?_
     refine rg 2 ?_
     refine gk hK12 154 [1, 2, 4, 86] [11] ?_
     refine good_cond rfl (fun hc5 => ?_) (fun hc5 => ?_)
     ·replace h := ifT h (dT hc5)
      refine good_seq fun K13 hK13 => ?_
      refine rg 4 ?_
      rcases bsplit ((decide (a0.num = 0))) with hg9 | hg9
      ·replace h := ifT h (dT hg9)
       refine gs 5 ?_
       rcases bsplit ((decide (a0.text = []))) with hg10 | hg10
       ·replace h := ifT h (dT hg10)
        refine gs 2 ?_
        refine g_yes rfl rfl hg10 (ValOk.op (v_lenM (l := a0.names) (f := encS) tabOk rfl rfl telem23 rfl ?_))
        refine gs 3 ?_
        rcases bsplit ((decide ((a0.names.length : Int) = 0))) with hg11 | hg11
        ·replace h := ifT h (dT hg11)
         refine gs 2 ?_
         refine g_yes rfl rfl hg11 (ValOk.op (v_lenM (l := a0.list) (f := encVal) tabOk rfl rfl telem28 rfl ?_))
         refine gs 3 ?_
         refine gk hK13 154 [2] [] ?_
         obtain rfl := Option.some.inj h
         exact rt
        ·replace h := ifF h (dF hg11)
         refine gs 6 ?_
         refine gk hK13 154 [2] [] ?_
         obtain rfl := Option.some.inj h
         exact rt
       ·replace h := ifF h (dF hg10)
        refine gs 12 ?_
        refine gk hK13 154 [2] [] ?_
        obtain rfl := Option.some.inj h
        exact rt
      ·replace h := ifF h (dF hg9)
       refine gs 17 ?_
       refine gk hK13 154 [2] [] ?_
       obtain rfl := Option.some.inj h
       exact rt
     ·replace h := ifF h (dF hc5)
      refine good_seq fun K14 hK14 => ?_
      refine rg 2 ?_
      refine gk hK14 154 [1, 2, 4, 108] [11] ?_
      refine good_cond rfl (fun hc6 => ?_) (fun hc6 => ?_)
      ·replace h := ifT h (dT hc6)
       refine good_seq fun K15 hK15 => ?_
       refine rg 4 ?_
       rcases bsplit ((decide (a0.num = 0))) with hg12 | hg12
       ·replace h := ifT h (dT hg12)
        refine gs 5 ?_
        rcases bsplit ((decide (a0.text = []))) with hg13 | hg13
        ·replace h := ifT h (dT hg13)
         refine gs 2 ?_
         refine g_yes rfl rfl hg13 (ValOk.op (v_lenM (l := a0.names) (f := encS) tabOk rfl rfl telem23 rfl ?_))
         refine gs 2 ?_
         refine g_yes rfl rfl hg13 (ValOk.op (v_lenM (l := a0.list) (f := encVal) tabOk rfl rfl telem28 rfl ?_))
         refine gs 3 ?_
         rcases bsplit ((decide ((a0.names.length : Int) = (a0.list.length : Int)))) with hg14 | hg14
         ·replace h := ifT h (dT hg14)
          refine gs 2 ?_
          refine g_yes rfl rfl hg14 (ValOk.op (v_lenM (l := a0.list) (f := encVal) tabOk rfl rfl telem28 rfl ?_))
          refine gs 3 ?_
          refine gk hK15 154 [2] [] ?_
          obtain rfl := Option.some.inj h
          exact rt
         ·replace h := ifF h (dF hg14)
          refine gs 6 ?_
          refine gk hK15 154 [2] [] ?_
          obtain rfl := Option.some.inj h
          exact rt
        ·replace h := ifF h (dF hg13)
         refine gs 15 ?_
         refine gk hK15 154 [2] [] ?_
         obtain rfl := Option.some.inj h
         exact rt
       ·replace h := ifF h (dF hg12)
        refine gs 20 ?_
        refine gk hK15 154 [2] [] ?_
        obtain rfl := Option.some.inj h
        exact rt
      ·replace h := ifF h (dF hc6)
       refine good_seq fun K16 hK16 => ?_
       obtain ⟨o1, ho1, hJ1⟩ := bnd h
       have hw1 : ∀ (s1 : Bool), o1 = Lp.go s1 → ∀ σ', Le σ' ⟨154, [(1, .ptr 11 b1 0), (2, .bool false), (133, .bool s1)], [(11, ((.pointer (some ⟨b1, 0, none⟩)), .optr 30 [.int .i64 a0.kind, .int .i64 a0.num, .str a0.text, .sl true (a0.list.map encVal), .sl false (a0.names.map encS)]))]⟩ → K16 σ' := by
        intro s1 e1 σ' hle1
        subst e1
        refine hK16 _ (Good.le hle1 ?_)
        replace h := hJ1
        refine good_cond rfl (fun hc7 => ?_) (fun hc7 => ?_)
        ·replace h := ifT h hc7
         refine good_seq fun K17 hK17 => ?_
         refine rg 4 ?_
         rcases bsplit ((decide (a0.num = 0))) with hg15 | hg15
         ·replace h := ifT h (dT hg15)
          refine gs 2 ?_
          obtain ⟨y3, hy3, h⟩ := bnd h
          refine g_yes rfl rfl hg15 (o_callR [] [] (core_value rfl rfl) (m_spec_l1Name_ok k a0.text _ hy3) trivial (.cons (.refl _) (.nil)) (.inl rfl) rfl ?_)
          refine gs 2 ?_
          rcases bsplit (y3) with hg16 | hg16
          ·replace h := ifT h hg16
           refine gs 2 ?_
           refine g_yes rfl rfl hg16 (ValOk.op (v_lenM (l := a0.list) (f := encVal) tabOk rfl rfl telem28 rfl ?_))
           refine gs 2 ?_
           refine g_yes rfl rfl hg16 (ValOk.op (v_lenM (l := a0.names) (f := encS) tabOk rfl rfl telem23 rfl ?_))
           refine gs 4 ?_
           refine gk hK17 154 [2] [] ?_
           obtain rfl := Option.some.inj h
           exact rt
          ·replace h := bF h hg16
           refine gs 10 ?_
           refine gk hK17 154 [2] [] ?_
           obtain rfl := Option.some.inj h
           exact rt
         ·replace h := ifF h (dF hg15)
          refine gs 15 ?_
          refine gk hK17 154 [2] [] ?_
          obtain rfl := Option.some.inj h
          exact rt
        ·replace h := bF h hc7
         refine good_skip ?_
         refine hK2 _ (kp 154 [2] [] ?_)
         refine good_seq fun K18 hK18 => ?_
         refine rg 1 ?_
         refine g_nil (hK18 _ ?_)
         obtain rfl := Option.some.inj h
         exact rt
       replace h := ho1
       refine good_seq fun K19 hK19 => ?_
       refine rg 2 ?_
       refine gk hK19 154 [1, 2, 4, 133] [11] ?_
       refine good_cond rfl (fun hc8 => ?_) (fun hc8 => ?_)
       ·replace h := ifT h (dT hc8)
        refine good_skip ?_
        exact hw1 (decide (a0.kind = 6)) (Option.some.inj h).symm _ (lw [some 11])
       ·replace h := ifF h (dF hc8)
        refine rg 2 ?_
        refine g_nil ?_
        exact hw1 (decide (a0.kind = 7)) (Option.some.inj h).symm _ (lw [some 11])
mutual
def m_spec_l1Ok_l1 : Nat → Val → Int → Bool → Int → Option (Lp Unit Bool)
 | 0, _, _, _, _ => none
 | k + 1, a0, a1, a2, x1 =>
  if x1 < (a0.list.length : Int) then
   if (0 : Int) ≤ x1 ∧ x1 < (a0.list.length : Int) then
    (m_spec_l1Ok k (ix a0.list x1) (IntKind.wrap .i64 (a1 - 1)) a2).bind fun y1 =>
    if y1 = true then
     m_spec_l1Ok_l1 k a0 a1 a2 (IntKind.wrap .i64 (x1 + 1))
    else
     (some false).bind fun z =>
     some (Lp.ret z)
   else none
  else
   some (Lp.go ())
def m_spec_l1Ok : Nat → Val → Int → Bool → Option Bool
 | 0, _, _, _ => none
 | k + 1, a0, a1, a2 =>
  (if a1 < 1 then
    some (Lp.go true)
   else
    (m_spec_l1Plain k a0).bind fun y2 =>
    if y2 = true then
     if a2 = true then
      (m_spec_l1Once k a0.names).bind fun y4 =>
      some (Lp.go (!y4))
     else
      if 5 < a0.kind then
       some (Lp.go true)
      else
       (m_spec_l1Once k a0.names).bind fun y3 =>
       some (Lp.go (!y3))
    else
     some (Lp.go true)).bind fun o1 =>
  o1.then fun s1 =>
  if s1 = true then
   some false
  else
   (m_spec_l1Ok_l1 k a0 a1 a2 0).bind fun o2 =>
   o2.then fun s2 =>
  some true
end
def P_m_spec_l1Ok (k : Nat) : Prop := ∀ (a0 : Val) (a1 : Int) (a2 : Bool) (r : Bool), m_spec_l1Ok k a0 a1 a2 = some r → Does Try.prog 70 [.agg [.int .i64 a0.kind, .int .i64 a0.num, .str a0.text, .sl true (a0.list.map encVal), .sl false (a0.names.map encS)], .int .i64 a1, .bool a2] [] (ret (.bool r))
theorem m_spec_l1Ok_step (k : Nat) (ih : ∀ m, m < k → P_m_spec_l1Ok m) : P_m_spec_l1Ok k := by
 intro a0 a1 a2 r h
 obtain ⟨k, rfl⟩ : ∃ k', k = k' + 1 := by cases k with | zero => (rw [m_spec_l1Ok] at h; cases h) | succ k' => exact ⟨k', rfl⟩
 rw [m_spec_l1Ok] at h
 refine does_of_good tabOk Try.func70 rfl (by decide +kernel) (Nat.le_of_ble_eq_true rfl) fun c => ?_
 refine Good.le (σ' := ⟨47, [(0, .agg [.int .i64 a0.kind, .int .i64 a0.num, .str a0.text, .sl true (a0.list.map encVal), .sl false (a0.names.map encS)]), (1, .int .i64 a1), (2, .bool a2)], []⟩) (Le.refl _) ?_
 refine good_seq fun K1 hK1 => ?_
 refine good_region ?_
 refine g_op rfl (o_box (k := 13) tabOk rfl rfl rfl rfl rfl ?_)
 intro b1
 refine gs 1 ?_
 refine gk hK1 47 [1, 2, 3, 6] [13] ?_
 refine good_seq fun K2 hK2 => ?_
 refine good_seq fun K3 hK3 => ?_
 obtain ⟨o1, ho1, hJ1⟩ := bnd h
 have hw1 : ∀ (s1 : Bool), o1 = Lp.go s1 → ∀ σ', Le σ' ⟨47, [(1, .int .i64 a1), (2, .bool a2), (3, .ptr 13 b1 0), (6, .bool false), (29, .bool s1)], [(13, ((.pointer (some ⟨b1, 0, none⟩)), .optr 30 [.int .i64 a0.kind, .int .i64 a0.num, .str a0.text, .sl true (a0.list.map encVal), .sl false (a0.names.map encS)]))]⟩ → K3 σ' := by
  intro s1 e1 σ' hle1
  subst e1
  refine hK3 _ (Good.le hle1 ?_)
  replace h := hJ1
  refine good_cond rfl (fun hc1 => ?_) (fun hc1 => ?_)
  ·replace h := ifT h hc1
   refine good_seq fun K4 hK4 => ?_
   refine rg 1 ?_
   refine gk hK4 47 [1, 2, 3, 6] [13] ?_
   obtain rfl := Option.some.inj h
   exact rt
  ·replace h := bF h hc1
   refine good_skip ?_
   refine hK2 _ (kp 47 [1, 2, 3, 6] [13] ?_)
   refine good_seq fun K5 hK5 => ?_
   refine good_seq fun K6 hK6 => ?_
   refine rg 1 ?_
   refine g_nil (hK6 _ ?_)
   obtain ⟨o2, ho2, hJ2⟩ := bnd h
   have hw2 : ∀ (s2 : Unit), o2 = Lp.go s2 → ∀ σ', Le σ' ⟨47, [(6, .bool false)], []⟩ → K5 σ' := by
    intro s2 e2 σ' hle2
    subst e2
    refine hK5 _ (Good.le hle2 ?_)
    replace h := hJ2
    refine good_seq fun K7 hK7 => ?_
    refine rg 1 ?_
    refine g_nil (hK7 _ ?_)
    obtain rfl := Option.some.inj h
    exact rt
   replace h := ho2
   refine good_block ?_
   refine good_loopf (fun p : Int => ⟨47, [(1, .int .i64 a1), (2, .bool a2), (3, .ptr 13 b1 0), (6, .bool false), (7, .int .i64 p)], [(13, ((.pointer (some ⟨b1, 0, none⟩)), .optr 30 [.int .i64 a0.kind, .int .i64 a0.num, .str a0.text, .sl true (a0.list.map encVal), .sl false (a0.names.map encS)]))]⟩) (fun m p => m < k + 1 ∧ m_spec_l1Ok_l1 m a0 a1 a2 p = some o2) k (0) (lw [some 13]) ⟨by omega, h⟩ ?_
   rintro m1 x1 ⟨hm, h⟩
   replace h : m_spec_l1Ok_l1 m1 a0 a1 a2 x1 = some o2 := h
   refine Good.le (σ' := ⟨47, [(1, .int .i64 a1), (2, .bool a2), (3, .ptr 13 b1 0), (6, .bool false), (7, .int .i64 x1)], [(13, ((.pointer (some ⟨b1, 0, none⟩)), .optr 30 [.int .i64 a0.kind, .int .i64 a0.num, .str a0.text, .sl true (a0.list.map encVal), .sl false (a0.names.map encS)]))]⟩) (Le.refl _) ?_
   obtain ⟨m1, rfl⟩ : ∃ m', m1 = m' + 1 := by cases m1 with | zero => (rw [m_spec_l1Ok_l1] at h; cases h) | succ m' => exact ⟨m', rfl⟩
   rw [m_spec_l1Ok_l1] at h
   refine good_seq fun K8 hK8 => ?_
   refine good_seq fun K9 hK9 => ?_
   refine rg 3 ?_
   refine g_op rfl (ValOk.op (v_lenM (l := a0.list) (f := encVal) tabOk rfl rfl telem28 rfl ?_))
   refine gs 1 ?_
   refine gk hK9 47 [1, 2, 3, 6, 7, 34] [13] ?_
   refine good_cond rfl (fun hc2 => ?_) (fun hc2 => ?_)
   ·replace h := ifT h (dT hc2)
    refine good_skip ?_
    refine hK8 _ (kp 47 [1, 2, 3, 6, 7] [13] ?_)
    refine good_seq fun K10 hK10 => ?_
    refine good_block ?_
    refine good_seq fun K11 hK11 => ?_
    refine rg 3 ?_
    obtain ⟨hb1, h⟩ := ifS h
    refine g_op rfl (ValOk.op (v_idxM tabOk rfl rfl telem28 tsize30 hb1 (encVal_eq _) rfl rfl ?_))
    refine gs 4 ?_
    obtain ⟨y1, hy1, h⟩ := bnd h
    refine g_op rfl (o_callR [] [] (core_value rfl rfl) ((ih m1 (by omega)) (ix a0.list x1) (IntKind.wrap .i64 (a1 - 1)) a2 _ hy1) trivial (.cons (.refl _) (.cons (.refl _) (.cons (.refl _) (.nil)))) (.inl rfl) rfl ?_)
    refine gs 1 ?_
    refine gk hK11 47 [1, 2, 3, 6, 7, 46] [13] ?_
    refine good_cond rfl (fun hc3 => ?_) (fun hc3 => ?_)
    ·replace h := bF h (nT hc3)
     refine good_seq fun K12 hK12 => ?_
     refine rg 1 ?_
     refine gk hK12 47 [1, 2, 3, 6, 7] [13] ?_
     replace h := unret h hJ2
     obtain rfl := Option.some.inj h
     exact rt
    ·replace h := ifT h (nF hc3)
     refine good_skip ?_
     refine hK10 _ (kp 47 [1, 2, 3, 6, 7] [13] ?_)
     refine rg 3 ?_
     refine g_nil ?_
     exact round_mk m1 (IntKind.wrap .i64 (x1 + 1)) (Nat.lt_succ_self _) ⟨by omega, h⟩ (lw [some 13])
   ·replace h := ifF h (dF hc2)
    refine good_exit ?_
    exact hw2 () (Option.some.inj h).symm _ (lw [])
 replace h := ho1
 refine rg 3 ?_
 rcases bsplit ((decide (a1 < 1))) with hg1 | hg1
 ·replace h := ifT h (dT hg1)
  refine gs 19 ?_
  refine g_nil ?_
  exact hw1 true (Option.some.inj h).symm _ (lw [some 13])
 ·replace h := ifF h (dF hg1)
  refine gs 1 ?_
  obtain ⟨y2, hy2, h⟩ := bnd h
  refine g_yes rfl rfl hg1 (o_callR [] [] (core_value rfl rfl) (m_spec_l1Plain_ok k a0 _ hy2) trivial (.cons (.refl _) (.nil)) (.inl rfl) rfl ?_)
  refine gs 3 ?_
  rcases bsplit ((!y2)) with hg2 | hg2
  ·replace h := bF h (nT hg2)
   refine gs 14 ?_
   refine g_nil ?_
   exact hw1 true (Option.some.inj h).symm _ (lw [some 13])
  ·replace h := ifT h (nF hg2)
   refine gs 3 ?_
   rcases bsplit ((!a2)) with hg3 | hg3
   ·replace h := bF h (nT hg3)
    refine gs 6 ?_
    rcases bsplit ((decide (5 < a0.kind))) with hg4 | hg4
    ·replace h := ifT h (dT hg4)
     refine gs 5 ?_
     refine g_nil ?_
     exact hw1 true (Option.some.inj h).symm _ (lw [some 13])
    ·replace h := ifF h (dF hg4)
     refine gs 2 ?_
     obtain ⟨y3, hy3, h⟩ := bnd h
     refine g_yes rfl rfl hg4 (o_callR [] [] (core_value rfl rfl) (m_spec_l1Once_ok k a0.names _ hy3) trivial (.cons (.refl _) (.nil)) (.inl rfl) rfl ?_)
     refine gs 2 ?_
     refine g_nil ?_
     exact hw1 (!y3) (Option.some.inj h).symm _ (lw [some 13])
   ·replace h := ifT h (nF hg3)
    refine gs 8 ?_
    obtain ⟨y4, hy4, h⟩ := bnd h
    refine g_yes rfl rfl rfl (o_callR [] [] (core_value rfl rfl) (m_spec_l1Once_ok k a0.names _ hy4) trivial (.cons (.refl _) (.nil)) (.inl rfl) rfl ?_)
    refine gs 2 ?_
    refine g_nil ?_
    exact hw1 (!y4) (Option.some.inj h).symm _ (lw [some 13])
theorem m_spec_l1Ok_all (k : Nat) : P_m_spec_l1Ok k := by
 induction k using Nat.strongRecOn with
 | _ k ih => exact m_spec_l1Ok_step k ih
theorem m_spec_l1Ok_ok (k : Nat) : ∀ (a0 : Val) (a1 : Int) (a2 : Bool) (r : Bool), m_spec_l1Ok k a0 a1 a2 = some r → Does Try.prog 70 [.agg [.int .i64 a0.kind, .int .i64 a0.num, .str a0.text, .sl true (a0.list.map encVal), .sl false (a0.names.map encS)], .int .i64 a1, .bool a2] [] (ret (.bool r)) := (m_spec_l1Ok_all k)
def m_spec_ValueOk (k : Nat) (a0 : Val) : Option Bool :=
 (m_spec_l1Ok k a0 6 false).bind fun y1 =>
 some y1
theorem m_spec_ValueOk_ok (k : Nat) : ∀ (a0 : Val) (r : Bool), m_spec_ValueOk k a0 = some r → Does Try.prog 31 [.agg [.int .i64 a0.kind, .int .i64 a0.num, .str a0.text, .sl true (a0.list.map encVal), .sl false (a0.names.map encS)]] [] (ret (.bool r)) := by
 intro a0 r h
 rw [m_spec_ValueOk] at h
 refine does_of_good tabOk Try.func31 rfl (by decide +kernel) (Nat.le_of_ble_eq_true rfl) fun c => ?_
 refine Good.le (σ' := ⟨5, [(0, .agg [.int .i64 a0.kind, .int .i64 a0.num, .str a0.text, .sl true (a0.list.map encVal), .sl false (a0.names.map encS)])], []⟩) (Le.refl _) ?_
 refine good_seq fun K1 hK1 => ?_
 refine good_region ?_
 refine g_op rfl (o_box (k := 11) tabOk rfl rfl rfl rfl rfl ?_)
 intro b1
 refine gs 1 ?_
 refine gk hK1 5 [1, 2] [11] ?_
 refine good_seq fun K2 hK2 => ?_
 refine rg 1 ?_
 obtain ⟨y1, hy1, h⟩ := bnd h
 refine g_op rfl (o_callR [] [] (core_value rfl rfl) (m_spec_l1Ok_ok k a0 6 false _ hy1) trivial (.cons (.refl _) (.cons (.refl _) (.cons (.refl _) (.nil)))) (.inl rfl) rfl ?_)
 refine gs 1 ?_
 refine gk hK2 5 [2] [] ?_
 obtain rfl := Option.some.inj h
 exact rt
def m_impl_varItem_within (a0 : Bs) : Option (List Val) :=
 some ([] : List Val)
theorem m_impl_varItem_within_ok : ∀ (a0 : Bs) (r : (List Val)), m_impl_varItem_within a0 = some r → Does Try.prog 167 [.str a0] [] (fun q h' => ∃ u0 : Value, q = .hd 100 u0 ∧ h' = [(100, (u0, .osl 30 5 (r.map encOVal)))]) := by
 intro a0 r h
 rw [m_impl_varItem_within] at h
 refine does_of_good tabOk Try.func167 rfl (by decide +kernel) (Nat.le_of_ble_eq_true rfl) fun c => ?_
 refine Good.le (σ' := ⟨3, [(0, .str a0)], []⟩) (Le.refl _) ?_
 refine good_seq fun K1 hK1 => ?_
 refine rg 1 ?_
 refine gk hK1 3 [2] [] ?_
 refine good_seq fun K2 hK2 => ?_
 refine rg 1 ?_
 refine g_nil (hK2 _ ?_)
 refine Good.le (σ' := ⟨3, [(2, .hd 100 nilV)], [(100, (nilV, .osl 30 5 (([] : List Val).map encOVal)))]⟩) (lw [none]) ?_
 refine good_ret ?_
 obtain rfl := Option.some.inj h
 exact endQ_ret (h' := [(100, (_, _))]) [some 100] (.tmp rfl (.nil)) ⟨⟨_, rfl, .refl _⟩, trivial⟩ (by decide) ⟨nilV, rfl, rfl⟩
theorem m_impl_varItem_within_okF : ∀ (a0 : Bs) (r : (List Val)), m_impl_varItem_within a0 = some r → Does Try.prog 167 [.str a0] [] (ret (.sl true (r.map encVal))) := by
 intro a0 r h
 refine does_frz (m_impl_varItem_within_ok a0 r h) ?_
 rintro q h' ⟨u0, rfl, rfl⟩
 exact ⟨[100], [(_, _)], ⟨⟨_, rfl, .osl (FrzLL.map fun _ _ => encOVal_frz _)⟩, trivial⟩, .frz _ _ _ (.head _)⟩
def m_impl_wordItem_within (a0 : Bs) : Option (List Val) :=
 some ([] : List Val)
theorem m_impl_wordItem_within_ok : ∀ (a0 : Bs) (r : (List Val)), m_impl_wordItem_within a0 = some r → Does Try.prog 168 [.str a0] [] (fun q h' => ∃ u0 : Value, q = .hd 100 u0 ∧ h' = [(100, (u0, .osl 30 5 (r.map encOVal)))]) := by
 intro a0 r h
 rw [m_impl_wordItem_within] at h
 refine does_of_good tabOk Try.func168 rfl (by decide +kernel) (Nat.le_of_ble_eq_true rfl) fun c => ?_
 refine Good.le (σ' := ⟨3, [(0, .str a0)], []⟩) (Le.refl _) ?_
 refine good_seq fun K1 hK1 => ?_
 refine rg 1 ?_
 refine gk hK1 3 [2] [] ?_
 refine good_seq fun K2 hK2 => ?_
 refine rg 1 ?_
 refine g_nil (hK2 _ ?_)
 refine Good.le (σ' := ⟨3, [(2, .hd 100 nilV)], [(100, (nilV, .osl 30 5 (([] : List Val).map encOVal)))]⟩) (lw [none]) ?_
 refine good_ret ?_
 obtain rfl := Option.some.inj h
 exact endQ_ret (h' := [(100, (_, _))]) [some 100] (.tmp rfl (.nil)) ⟨⟨_, rfl, .refl _⟩, trivial⟩ (by decide) ⟨nilV, rfl, rfl⟩
theorem m_impl_wordItem_within_okF : ∀ (a0 : Bs) (r : (List Val)), m_impl_wordItem_within a0 = some r → Does Try.prog 168 [.str a0] [] (ret (.sl true (r.map encVal))) := by
 intro a0 r h
 refine does_frz (m_impl_wordItem_within_ok a0 r h) ?_
 rintro q h' ⟨u0, rfl, rfl⟩
 exact ⟨[100], [(_, _)], ⟨⟨_, rfl, .osl (FrzLL.map fun _ _ => encOVal_frz _)⟩, trivial⟩, .frz _ _ _ (.head _)⟩
def m_impl_itemOf (k : Nat) (a0 : Val) : Option GI110 :=
 (if (a0.list.length : Int) = 0 then
   some (Lp.go (decide ((a0.names.length : Int) = 0)))
  else
   some (Lp.go false)).bind fun o1 =>
 o1.then fun s1 =>
  (if s1 = true then
    some (Lp.go (decide (a0.text = [])))
   else
    some (Lp.go false)).bind fun o2 =>
  o2.then fun s2 =>
  (if a0.num = 0 then
    some (Lp.go (decide (a0.text = [])))
   else
    some (Lp.go false)).bind fun o3 =>
  o3.then fun s3 =>
  if a0.kind = 0 then
   (if s2 = true then
     some (Lp.go (decide (a0.num = 0)))
    else
     some (Lp.go false)).bind fun o4 =>
   o4.then fun s4 =>
  if s4 = true then
   some GI110.c134
  else
   some GI110.nil
  else
   if a0.kind = 1 then
    (if s2 = true then
      if a0.num = 0 then
       some (Lp.go true)
      else
       some (Lp.go (decide (a0.num = 1)))
     else
      some (Lp.go false)).bind fun o5 =>
    o5.then fun s5 =>
  if s5 = true then
   some (GI110.c135 (decide (a0.num = 1)))
  else
   some GI110.nil
   else
    if a0.kind = 2 then
     (if s2 = true then
       if (-2147483647) ≤ a0.num then
        some (Lp.go (decide (a0.num ≤ 2147483647)))
       else
        some (Lp.go false)
      else
       some (Lp.go false)).bind fun o6 =>
     o6.then fun s6 =>
  if s6 = true then
   some (GI110.c136 a0.num)
  else
   some GI110.nil
    else
     if a0.kind = 3 then
      (if s1 = true then
        if a0.num = 0 then
         some (Lp.go (decide ((a0.text.length : Int) ≤ 40)))
        else
         some (Lp.go false)
       else
        some (Lp.go false)).bind fun o7 =>
      o7.then fun s7 =>
  if s7 = true then
   some (GI110.c137 a0.text)
  else
   some GI110.nil
     else
      if a0.kind = 4 then
       (if s3 = true then
         if (a0.names.length : Int) = 0 then
          some (Lp.go (decide ((a0.list.length : Int) ≤ 12)))
         else
          some (Lp.go false)
        else
         some (Lp.go false)).bind fun o8 =>
       o8.then fun s8 =>
  if s8 = true then
   some (GI110.c138 a0.list)
  else
   some GI110.nil
      else
       if a0.kind = 5 then
        (if s3 = true then
          if (a0.names.length : Int) = (a0.list.length : Int) then
           if (a0.list.length : Int) ≤ 12 then
            (m_impl_namesOnce k a0.names).bind fun y1 =>
            some (Lp.go y1)
           else
            some (Lp.go false)
          else
           some (Lp.go false)
         else
          some (Lp.go false)).bind fun o9 =>
        o9.then fun s9 =>
  if s9 = true then
   some (GI110.c140 (GTreeItem.mk a0.names a0.list))
  else
   some GI110.nil
       else
        if a0.kind = 6 then
         (if s1 = true then
           if a0.num = 0 then
            (m_impl_isName k a0.text).bind fun y2 =>
            some (Lp.go y2)
           else
            some (Lp.go false)
          else
           some (Lp.go false)).bind fun o10 =>
         o10.then fun s10 =>
  if s10 = true then
   some (GI110.c112 a0.text)
  else
   some GI110.nil
        else
         if a0.kind = 7 then
          (if s1 = true then
            if a0.num = 0 then
             (m_impl_isName k a0.text).bind fun y3 =>
             some (Lp.go y3)
            else
             some (Lp.go false)
           else
            some (Lp.go false)).bind fun o11 =>
          o11.then fun s11 =>
  if s11 = true then
   some (GI110.c113 a0.text)
  else
   some GI110.nil
         else
          some GI110.nil
theorem m_impl_itemOf_ok (k : Nat) : ∀ (a0 : Val) (r : GI110), m_impl_itemOf k a0 = some r → Does Try.prog 105 [.agg [.int .i64 a0.kind, .int .i64 a0.num, .str a0.text, .sl true (a0.list.map encVal), .sl false (a0.names.map encS)]] [] (ret ((encGI110 r))) := by
 intro a0 r h
 rw [m_impl_itemOf] at h
 refine does_of_good tabOk Try.func105 rfl (by decide +kernel) (Nat.le_of_ble_eq_true rfl) fun c => ?_
 refine Good.le (σ' := ⟨171, [(0, .agg [.int .i64 a0.kind, .int .i64 a0.num, .str a0.text, .sl true (a0.list.map encVal), .sl false (a0.names.map encS)])], []⟩) (Le.refl _) ?_
 refine good_seq fun K1 hK1 => ?_
 refine good_region ?_
 refine g_op rfl (o_box (k := 11) tabOk rfl rfl rfl rfl rfl ?_)
 intro b1
 refine gs 1 ?_
 refine gk hK1 171 [1, 2] [11] ?_
 refine good_seq fun K2 hK2 => ?_
 obtain ⟨o1, ho1, hJ1⟩ := bnd h
 have hw1 : ∀ (s1 : Bool), o1 = Lp.go s1 → ∀ σ', Le σ' ⟨171, [(1, .ptr 11 b1 0), (2, .raw .nilIface), (3, .bool s1)], [(11, ((.pointer (some ⟨b1, 0, none⟩)), .optr 30 [.int .i64 a0.kind, .int .i64 a0.num, .str a0.text, .sl true (a0.list.map encVal), .sl false (a0.names.map encS)]))]⟩ → K2 σ' := by
  intro s1 e1 σ' hle1
  subst e1
  refine hK2 _ (Good.le hle1 ?_)
  replace h := hJ1
  refine good_seq fun K3 hK3 => ?_
  obtain ⟨o2, ho2, hJ2⟩ := bnd h
  have hw2 : ∀ (s2 : Bool), o2 = Lp.go s2 → ∀ σ', Le σ' ⟨171, [(1, .ptr 11 b1 0), (2, .raw .nilIface), (3, .bool s1), (4, .bool s2)], [(11, ((.pointer (some ⟨b1, 0, none⟩)), .optr 30 [.int .i64 a0.kind, .int .i64 a0.num, .str a0.text, .sl true (a0.list.map encVal), .sl false (a0.names.map encS)]))]⟩ → K3 σ' := by
   intro s2 e2 σ' hle2
   subst e2
   refine hK3 _ (Good.le hle2 ?_)
   replace h := hJ2
   refine good_seq fun K4 hK4 => ?_
   obtain ⟨o3, ho3, hJ3⟩ := bnd h
   have hw3 : ∀ (s3 : Bool), o3 = Lp.go s3 → ∀ σ', Le σ' ⟨171, [(1, .ptr 11 b1 0), (2, .raw .nilIface), (3, .bool s1), (4, .bool s2), (5, .bool s3)], [(11, ((.pointer (some ⟨b1, 0, none⟩)), .optr 30 [.int .i64 a0.kind, .int .i64 a0.num, .str a0.text, .sl true (a0.list.map encVal), .sl false (a0.names.map encS)]))]⟩ → K4 σ' := by
    intro s3 e3 σ' hle3
    subst e3
    refine hK4 _ (Good.le hle3 ?_)
    replace h := hJ3
    refine good_seq fun K5 hK5 => ?_
    refine good_seq fun K6 hK6 => ?_
    refine rg 2 ?_
    refine gk hK6 171 [1, 2, 3, 4, 5, 31] [11] ?_
    refine good_block ?_
    refine good_seq fun K7 hK7 => ?_
    refine rg 2 ?_
    refine gk hK7 171 [1, 2, 3, 4, 5, 31, 32] [11] ?_
    refine good_cond rfl (fun hc1 => ?_) (fun hc1 => ?_)
    ·replace h := ifT h (dT hc1)
     refine good_seq fun K8 hK8 => ?_
     obtain ⟨o4, ho4, hJ4⟩ := bnd h
     have hw4 : ∀ (s4 : Bool), o4 = Lp.go s4 → ∀ σ', Le σ' ⟨171, [(2, .raw .nilIface), (39, .bool s4)], []⟩ → K8 σ' := by
      intro s4 e4 σ' hle4
      subst e4
      refine hK8 _ (Good.le hle4 ?_)
      replace h := hJ4
      refine good_cond rfl (fun hc2 => ?_) (fun hc2 => ?_)
      ·replace h := ifT h hc2
       refine good_seq fun K9 hK9 => ?_
       refine good_region ?_
       refine g_op rfl (ValOk.op (v_build tabOk (cs := []) tzero134 tsok134 rfl rfl rfl ?_))
       refine g_op rfl (ValOk.op (v_iface tabOk rfl tkind134 rfl rfl ?_))
       refine gs 1 ?_
       refine gk hK9 171 [2] [] ?_
       obtain rfl := Option.some.inj h
       exact rt
      ·replace h := bF h hc2
       refine good_skip ?_
       refine hK5 _ (kp 171 [2] [] ?_)
       refine good_seq fun K10 hK10 => ?_
       refine rg 1 ?_
       refine g_nil (hK10 _ ?_)
       obtain rfl := Option.some.inj h
       exact rt
     replace h := ho4
     refine rg 2 ?_
     rcases bsplit (s2) with hg1 | hg1
     ·replace h := ifT h hg1
      refine gs 4 ?_
      refine g_nil ?_
      exact hw4 (decide (a0.num = 0)) (Option.some.inj h).symm _ (lw [])
     ·replace h := bF h hg1
      refine gs 4 ?_
      refine g_nil ?_
      exact hw4 false (Option.some.inj h).symm _ (lw [])
    ·replace h := ifF h (dF hc1)
     refine good_seq fun K11 hK11 => ?_
     refine rg 2 ?_
     refine gk hK11 171 [1, 2, 3, 4, 5, 31, 42] [11] ?_
     refine good_cond rfl (fun hc3 => ?_) (fun hc3 => ?_)
     ·replace h := ifT h (dT hc3)
      refine good_seq fun K12 hK12 => ?_
      obtain ⟨o5, ho5, hJ5⟩ := bnd h
      have hw5 : ∀ (s5 : Bool), o5 = Lp.go s5 → ∀ σ', Le σ' ⟨171, [(1, .ptr 11 b1 0), (2, .raw .nilIface), (54, .bool s5)], [(11, ((.pointer (some ⟨b1, 0, none⟩)), .optr 30 [.int .i64 a0.kind, .int .i64 a0.num, .str a0.text, .sl true (a0.list.map encVal), .sl false (a0.names.map encS)]))]⟩ → K12 σ' := by
       intro s5 e5 σ' hle5
       subst e5
       refine hK12 _ (Good.le hle5 ?_)
       replace h := hJ5
       refine good_cond rfl (fun hc4 => ?_) (fun hc4 => ?_)
       ·replace h := ifT h hc4
        refine good_seq fun K13 hK13 => ?_
        refine rg 3 ?_
        refine g_op rfl (ValOk.op (v_iface tabOk rfl tkind135 rfl rfl ?_))
        refine gs 1 ?_
        refine gk hK13 171 [2] [] ?_
        obtain rfl := Option.some.inj h
        exact rt
       ·replace h := bF h hc4
        refine good_skip ?_
        refine hK5 _ (kp 171 [2] [] ?_)
        refine good_seq fun K14 hK14 => ?_
        refine rg 1 ?_
        refine g_nil (hK14 _ ?_)
        obtain rfl := Option.some.inj h
        exact rt
      replace h := ho5
      refine rg 2 ?_
      rcases bsplit (s2) with hg2 | hg2
      ·replace h := ifT h hg2
       refine gs 4 ?_
       rcases bsplit ((decide (a0.num = 0))) with hg3 | hg3
       ·replace h := ifT h (dT hg3)
        refine gs 5 ?_
        refine g_nil ?_
        exact hw5 true (Option.some.inj h).symm _ (lw [some 11])
       ·replace h := ifF h (dF hg3)
        refine gs 5 ?_
        refine g_nil ?_
        exact hw5 (decide (a0.num = 1)) (Option.some.inj h).symm _ (lw [some 11])
      ·replace h := bF h hg2
       refine gs 9 ?_
       refine g_nil ?_
       exact hw5 false (Option.some.inj h).symm _ (lw [some 11])
     ·replace h := ifF h (dF hc3)
      refine good_seq fun K15 hK15 => ?_
      refine rg 2 ?_
      refine gk hK15 171 [1, 2, 3, 4, 5, 31, 59] [11] ?_
      refine good_cond rfl (fun hc5 => ?_) (fun hc5 => ?_)
      ·replace h := ifT h (dT hc5)
       refine good_seq fun K16 hK16 => ?_
       obtain ⟨o6, ho6, hJ6⟩ := bnd h
       have hw6 : ∀ (s6 : Bool), o6 = Lp.go s6 → ∀ σ', Le σ' ⟨171, [(1, .ptr 11 b1 0), (2, .raw .nilIface), (71, .bool s6)], [(11, ((.pointer (some ⟨b1, 0, none⟩)), .optr 30 [.int .i64 a0.kind, .int .i64 a0.num, .str a0.text, .sl true (a0.list.map encVal), .sl false (a0.names.map encS)]))]⟩ → K16 σ' := by
        intro s6 e6 σ' hle6
        subst e6
        refine hK16 _ (Good.le hle6 ?_)
        replace h := hJ6
        refine good_cond rfl (fun hc6 => ?_) (fun hc6 => ?_)
        ·replace h := ifT h hc6
         refine good_seq fun K17 hK17 => ?_
         refine rg 2 ?_
         refine g_op rfl (ValOk.op (v_iface tabOk rfl tkind136 rfl rfl ?_))
         refine gs 1 ?_
         refine gk hK17 171 [2] [] ?_
         obtain rfl := Option.some.inj h
         exact rt
        ·replace h := bF h hc6
         refine good_skip ?_
         refine hK5 _ (kp 171 [2] [] ?_)
         refine good_seq fun K18 hK18 => ?_
         refine rg 1 ?_
         refine g_nil (hK18 _ ?_)
         obtain rfl := Option.some.inj h
         exact rt
       replace h := ho6
       refine rg 2 ?_
       rcases bsplit (s2) with hg4 | hg4
       ·replace h := ifT h hg4
        refine gs 5 ?_
        rcases bsplit ((decide ((-2147483647) ≤ a0.num))) with hg5 | hg5
        ·replace h := ifT h (dT hg5)
         refine gs 4 ?_
         refine g_nil ?_
         exact hw6 (decide (a0.num ≤ 2147483647)) (Option.some.inj h).symm _ (lw [some 11])
        ·replace h := ifF h (dF hg5)
         refine gs 4 ?_
         refine g_nil ?_
         exact hw6 false (Option.some.inj h).symm _ (lw [some 11])
       ·replace h := bF h hg4
        refine gs 9 ?_
        refine g_nil ?_
        exact hw6 false (Option.some.inj h).symm _ (lw [some 11])
      ·replace h := ifF h (dF hc5)
       refine good_seq fun K19 hK19 => ?_
       refine rg 2 ?_
       refine gk hK19 171 [1, 2, 3, 5, 31, 75] [11] ?_
       refine good_cond rfl (fun hc7 => ?_) (fun hc7 => ?_)
       ·replace h := ifT h (dT hc7)
        refine good_seq fun K20 hK20 => ?_
        obtain ⟨o7, ho7, hJ7⟩ := bnd h
        have hw7 : ∀ (s7 : Bool), o7 = Lp.go s7 → ∀ σ', Le σ' ⟨171, [(1, .ptr 11 b1 0), (2, .raw .nilIface), (88, .bool s7)], [(11, ((.pointer (some ⟨b1, 0, none⟩)), .optr 30 [.int .i64 a0.kind, .int .i64 a0.num, .str a0.text, .sl true (a0.list.map encVal), .sl false (a0.names.map encS)]))]⟩ → K20 σ' := by
         intro s7 e7 σ' hle7
         subst e7
         refine hK20 _ (Good.le hle7 ?_)
         replace h := hJ7
         refine good_cond rfl (fun hc8 => ?_) (fun hc8 => ?_)
         ·replace h := ifT h hc8
          refine good_seq fun K21 hK21 => ?_
          refine rg 2 ?_
          refine g_op rfl (ValOk.op (v_iface tabOk rfl tkind137 rfl rfl ?_))
          refine gs 1 ?_
          refine gk hK21 171 [2] [] ?_
          obtain rfl := Option.some.inj h
          exact rt
         ·replace h := bF h hc8
          refine good_skip ?_
          refine hK5 _ (kp 171 [2] [] ?_)
          refine good_seq fun K22 hK22 => ?_
          refine rg 1 ?_
          refine g_nil (hK22 _ ?_)
          obtain rfl := Option.some.inj h
          exact rt
        replace h := ho7
        refine rg 2 ?_
        rcases bsplit (s1) with hg6 | hg6
        ·replace h := ifT h hg6
         refine gs 5 ?_
         rcases bsplit ((decide (a0.num = 0))) with hg7 | hg7
         ·replace h := ifT h (dT hg7)
          refine gs 5 ?_
          refine g_nil ?_
          exact hw7 (decide ((a0.text.length : Int) ≤ 40)) (Option.some.inj h).symm _ (lw [some 11])
         ·replace h := ifF h (dF hg7)
          refine gs 5 ?_
          refine g_nil ?_
          exact hw7 false (Option.some.inj h).symm _ (lw [some 11])
        ·replace h := bF h hg6
         refine gs 10 ?_
         refine g_nil ?_
         exact hw7 false (Option.some.inj h).symm _ (lw [some 11])
       ·replace h := ifF h (dF hc7)
        refine good_seq fun K23 hK23 => ?_
        refine rg 2 ?_
        refine gk hK23 171 [1, 2, 3, 5, 31, 92] [11] ?_
        refine good_cond rfl (fun hc9 => ?_) (fun hc9 => ?_)
        ·replace h := ifT h (dT hc9)
         refine good_seq fun K24 hK24 => ?_
         obtain ⟨o8, ho8, hJ8⟩ := bnd h
         have hw8 : ∀ (s8 : Bool), o8 = Lp.go s8 → ∀ σ', Le σ' ⟨171, [(1, .ptr 11 b1 0), (2, .raw .nilIface), (106, .bool s8)], [(11, ((.pointer (some ⟨b1, 0, none⟩)), .optr 30 [.int .i64 a0.kind, .int .i64 a0.num, .str a0.text, .sl true (a0.list.map encVal), .sl false (a0.names.map encS)]))]⟩ → K24 σ' := by
          intro s8 e8 σ' hle8
          subst e8
          refine hK24 _ (Good.le hle8 ?_)
          replace h := hJ8
          refine good_cond rfl (fun hc10 => ?_) (fun hc10 => ?_)
          ·replace h := ifT h hc10
           refine good_seq fun K25 hK25 => ?_
           refine rg 2 ?_
           refine g_op rfl (ValOk.op (v_iface tabOk rfl tkind138 rfl rfl ?_))
           refine gs 1 ?_
           refine gk hK25 171 [2] [] ?_
           obtain rfl := Option.some.inj h
           exact rt
          ·replace h := bF h hc10
           refine good_skip ?_
           refine hK5 _ (kp 171 [2] [] ?_)
           refine good_seq fun K26 hK26 => ?_
           refine rg 1 ?_
           refine g_nil (hK26 _ ?_)
           obtain rfl := Option.some.inj h
           exact rt
         replace h := ho8
         refine rg 2 ?_
         rcases bsplit (s3) with hg8 | hg8
         ·replace h := ifT h hg8
          refine gs 2 ?_
          refine g_yes rfl rfl hg8 (ValOk.op (v_lenM (l := a0.names) (f := encS) tabOk rfl rfl telem23 rfl ?_))
          refine gs 3 ?_
          rcases bsplit ((decide ((a0.names.length : Int) = 0))) with hg9 | hg9
          ·replace h := ifT h (dT hg9)
           refine gs 2 ?_
           refine g_yes rfl rfl hg9 (ValOk.op (v_lenM (l := a0.list) (f := encVal) tabOk rfl rfl telem28 rfl ?_))
           refine gs 2 ?_
           refine g_nil ?_
           exact hw8 (decide ((a0.list.length : Int) ≤ 12)) (Option.some.inj h).symm _ (lw [some 11])
          ·replace h := ifF h (dF hg9)
           refine gs 5 ?_
           refine g_nil ?_
           exact hw8 false (Option.some.inj h).symm _ (lw [some 11])
         ·replace h := bF h hg8
          refine gs 11 ?_
          refine g_nil ?_
          exact hw8 false (Option.some.inj h).symm _ (lw [some 11])
        ·replace h := ifF h (dF hc9)
         refine good_seq fun K27 hK27 => ?_
         refine rg 2 ?_
         refine gk hK27 171 [1, 2, 3, 5, 31, 110] [11] ?_
         refine good_cond rfl (fun hc11 => ?_) (fun hc11 => ?_)
         ·replace h := ifT h (dT hc11)
          refine good_seq fun K28 hK28 => ?_
          obtain ⟨o9, ho9, hJ9⟩ := bnd h
          have hw9 : ∀ (s9 : Bool), o9 = Lp.go s9 → ∀ σ', Le σ' ⟨171, [(1, .ptr 11 b1 0), (2, .raw .nilIface), (132, .bool s9)], [(11, ((.pointer (some ⟨b1, 0, none⟩)), .optr 30 [.int .i64 a0.kind, .int .i64 a0.num, .str a0.text, .sl true (a0.list.map encVal), .sl false (a0.names.map encS)]))]⟩ → K28 σ' := by
           intro s9 e9 σ' hle9
           subst e9
           refine hK28 _ (Good.le hle9 ?_)
           replace h := hJ9
           refine good_cond rfl (fun hc12 => ?_) (fun hc12 => ?_)
           ·replace h := ifT h hc12
            refine good_seq fun K29 hK29 => ?_
            refine rg 4 ?_
            refine g_op rfl (ValOk.op (v_build tabOk (cs := [.sl false (a0.names.map encS), .sl true (a0.list.map encVal)]) tzero140 tsok140 rfl rfl rfl ?_))
            refine g_op rfl (ValOk.op (v_iface tabOk rfl tkind140 rfl rfl ?_))
            refine gs 1 ?_
            refine gk hK29 171 [2] [] ?_
            obtain rfl := Option.some.inj h
            exact rt
           ·replace h := bF h hc12
            refine good_skip ?_
            refine hK5 _ (kp 171 [2] [] ?_)
            refine good_seq fun K30 hK30 => ?_
            refine rg 1 ?_
            refine g_nil (hK30 _ ?_)
            obtain rfl := Option.some.inj h
            exact rt
          replace h := ho9
          refine rg 2 ?_
          rcases bsplit (s3) with hg10 | hg10
          ·replace h := ifT h hg10
           refine gs 2 ?_
           refine g_yes rfl rfl hg10 (ValOk.op (v_lenM (l := a0.names) (f := encS) tabOk rfl rfl telem23 rfl ?_))
           refine gs 2 ?_
           refine g_yes rfl rfl hg10 (ValOk.op (v_lenM (l := a0.list) (f := encVal) tabOk rfl rfl telem28 rfl ?_))
           refine gs 3 ?_
           rcases bsplit ((decide ((a0.names.length : Int) = (a0.list.length : Int)))) with hg11 | hg11
           ·replace h := ifT h (dT hg11)
            refine gs 2 ?_
            refine g_yes rfl rfl hg11 (ValOk.op (v_lenM (l := a0.list) (f := encVal) tabOk rfl rfl telem28 rfl ?_))
            refine gs 3 ?_
            rcases bsplit ((decide ((a0.list.length : Int) ≤ 12))) with hg12 | hg12
            ·replace h := ifT h (dT hg12)
             refine gs 2 ?_
             obtain ⟨y1, hy1, h⟩ := bnd h
             refine g_yes rfl rfl hg12 (o_callR [] [] (core_value rfl rfl) (m_impl_namesOnce_ok k a0.names _ hy1) trivial (.cons (.refl _) (.nil)) (.inl rfl) rfl ?_)
             refine gs 1 ?_
             refine g_nil ?_
             exact hw9 y1 (Option.some.inj h).symm _ (lw [some 11])
            ·replace h := ifF h (dF hg12)
             refine gs 4 ?_
             refine g_nil ?_
             exact hw9 false (Option.some.inj h).symm _ (lw [some 11])
           ·replace h := ifF h (dF hg11)
            refine gs 10 ?_
            refine g_nil ?_
            exact hw9 false (Option.some.inj h).symm _ (lw [some 11])
          ·replace h := bF h hg10
           refine gs 19 ?_
           refine g_nil ?_
           exact hw9 false (Option.some.inj h).symm _ (lw [some 11])
         ·replace h := ifF h (dF hc11)
          refine good_seq fun K31 hK31 => ?_
          refine rg 2 ?_
          refine gk hK31 171 [1, 2, 3, 31, 139] [11] ?_
          refine good_cond rfl (fun hc13 => ?_) (fun hc13 => ?_)
          ·replace h := ifT h (dT hc13)
           refine good_seq fun K32 hK32 => ?_
           obtain ⟨o10, ho10, hJ10⟩ := bnd h
           have hw10 : ∀ (s10 : Bool), o10 = Lp.go s10 → ∀ σ', Le σ' ⟨171, [(1, .ptr 11 b1 0), (2, .raw .nilIface), (151, .bool s10)], [(11, ((.pointer (some ⟨b1, 0, none⟩)), .optr 30 [.int .i64 a0.kind, .int .i64 a0.num, .str a0.text, .sl true (a0.list.map encVal), .sl false (a0.names.map encS)]))]⟩ → K32 σ' := by
            intro s10 e10 σ' hle10
            subst e10
            refine hK32 _ (Good.le hle10 ?_)
            replace h := hJ10
            refine good_cond rfl (fun hc14 => ?_) (fun hc14 => ?_)
            ·replace h := ifT h hc14
             refine good_seq fun K33 hK33 => ?_
             refine rg 2 ?_
             refine g_op rfl (ValOk.op (v_iface tabOk rfl tkind112 rfl rfl ?_))
             refine gs 1 ?_
             refine gk hK33 171 [2] [] ?_
             obtain rfl := Option.some.inj h
             exact rt
            ·replace h := bF h hc14
             refine good_skip ?_
             refine hK5 _ (kp 171 [2] [] ?_)
             refine good_seq fun K34 hK34 => ?_
             refine rg 1 ?_
             refine g_nil (hK34 _ ?_)
             obtain rfl := Option.some.inj h
             exact rt
           replace h := ho10
           refine rg 2 ?_
           rcases bsplit (s1) with hg13 | hg13
           ·replace h := ifT h hg13
            refine gs 5 ?_
            rcases bsplit ((decide (a0.num = 0))) with hg14 | hg14
            ·replace h := ifT h (dT hg14)
             refine gs 2 ?_
             obtain ⟨y2, hy2, h⟩ := bnd h
             refine g_yes rfl rfl hg14 (o_callR [] [] (core_value rfl rfl) (m_impl_isName_ok k a0.text _ hy2) trivial (.cons (.refl _) (.nil)) (.inl rfl) rfl ?_)
             refine gs 1 ?_
             refine g_nil ?_
             exact hw10 y2 (Option.some.inj h).symm _ (lw [some 11])
            ·replace h := ifF h (dF hg14)
             refine gs 4 ?_
             refine g_nil ?_
             exact hw10 false (Option.some.inj h).symm _ (lw [some 11])
           ·replace h := bF h hg13
            refine gs 9 ?_
            refine g_nil ?_
            exact hw10 false (Option.some.inj h).symm _ (lw [some 11])
          ·replace h := ifF h (dF hc13)
           refine good_seq fun K35 hK35 => ?_
           refine rg 2 ?_
           refine gk hK35 171 [1, 2, 3, 155] [11] ?_
           refine good_cond rfl (fun hc15 => ?_) (fun hc15 => ?_)
           ·replace h := ifT h (dT hc15)
            refine good_seq fun K36 hK36 => ?_
            obtain ⟨o11, ho11, hJ11⟩ := bnd h
            have hw11 : ∀ (s11 : Bool), o11 = Lp.go s11 → ∀ σ', Le σ' ⟨171, [(1, .ptr 11 b1 0), (2, .raw .nilIface), (167, .bool s11)], [(11, ((.pointer (some ⟨b1, 0, none⟩)), .optr 30 [.int .i64 a0.kind, .int .i64 a0.num, .str a0.text, .sl true (a0.list.map encVal), .sl false (a0.names.map encS)]))]⟩ → K36 σ' := by
             intro s11 e11 σ' hle11
             subst e11
             refine hK36 _ (Good.le hle11 ?_)
             replace h := hJ11
             refine good_cond rfl (fun hc16 => ?_) (fun hc16 => ?_)
             ·replace h := ifT h hc16
              refine good_seq fun K37 hK37 => ?_
              refine rg 2 ?_
              refine g_op rfl (ValOk.op (v_iface tabOk rfl tkind113 rfl rfl ?_))
              refine gs 1 ?_
              refine gk hK37 171 [2] [] ?_
              obtain rfl := Option.some.inj h
              exact rt
             ·replace h := bF h hc16
              refine good_skip ?_
              refine hK5 _ (kp 171 [2] [] ?_)
              refine good_seq fun K38 hK38 => ?_
              refine rg 1 ?_
              refine g_nil (hK38 _ ?_)
              obtain rfl := Option.some.inj h
              exact rt
            replace h := ho11
            refine rg 2 ?_
            rcases bsplit (s1) with hg15 | hg15
            ·replace h := ifT h hg15
             refine gs 5 ?_
             rcases bsplit ((decide (a0.num = 0))) with hg16 | hg16
             ·replace h := ifT h (dT hg16)
              refine gs 2 ?_
              obtain ⟨y3, hy3, h⟩ := bnd h
              refine g_yes rfl rfl hg16 (o_callR [] [] (core_value rfl rfl) (m_impl_isName_ok k a0.text _ hy3) trivial (.cons (.refl _) (.nil)) (.inl rfl) rfl ?_)
              refine gs 1 ?_
              refine g_nil ?_
              exact hw11 y3 (Option.some.inj h).symm _ (lw [some 11])
             ·replace h := ifF h (dF hg16)
              refine gs 4 ?_
              refine g_nil ?_
              exact hw11 false (Option.some.inj h).symm _ (lw [some 11])
            ·replace h := bF h hg15
             refine gs 9 ?_
             refine g_nil ?_
             exact hw11 false (Option.some.inj h).symm _ (lw [some 11])
           ·replace h := ifF h (dF hc15)
            refine good_skip ?_
            refine hK5 _ (kp 171 [2] [] ?_)
            refine good_seq fun K39 hK39 => ?_
            refine rg 1 ?_
            refine g_nil (hK39 _ ?_)
            obtain rfl := Option.some.inj h
            exact rt
   replace h := ho3
   refine rg 4 ?_
   rcases bsplit ((decide (a0.num = 0))) with hg17 | hg17
   ·replace h := ifT h (dT hg17)
    refine gs 5 ?_
    refine g_nil ?_
    exact hw3 (decide (a0.text = [])) (Option.some.inj h).symm _ (lw [some 11])
   ·replace h := ifF h (dF hg17)
    refine gs 5 ?_
    refine g_nil ?_
    exact hw3 false (Option.some.inj h).symm _ (lw [some 11])
  replace h := ho2
  refine rg 2 ?_
  rcases bsplit (s1) with hg18 | hg18
  ·replace h := ifT h hg18
   refine gs 5 ?_
   refine g_nil ?_
   exact hw2 (decide (a0.text = [])) (Option.some.inj h).symm _ (lw [some 11])
  ·replace h := bF h hg18
   refine gs 5 ?_
   refine g_nil ?_
   exact hw2 false (Option.some.inj h).symm _ (lw [some 11])
 replace h := ho1
 refine rg 2 ?_
 refine g_op rfl (ValOk.op (v_lenM (l := a0.list) (f := encVal) tabOk rfl rfl telem28 rfl ?_))
 refine gs 2 ?_
 rcases bsplit ((decide ((a0.list.length : Int) = 0))) with hg19 | hg19
 ·replace h := ifT h (dT hg19)
  refine gs 2 ?_
  refine g_yes rfl rfl hg19 (ValOk.op (v_lenM (l := a0.names) (f := encS) tabOk rfl rfl telem23 rfl ?_))
  refine gs 3 ?_
  refine g_nil ?_
  exact hw1 (decide ((a0.names.length : Int) = 0)) (Option.some.inj h).symm _ (lw [some 11])
 ·replace h := ifF h (dF hg19)
  refine gs 6 ?_
  refine g_nil ?_
  exact hw1 false (Option.some.inj h).symm _ (lw [some 11])
def m_impl_nullItem_within (a0 : Unit) : Option (List Val) :=
 some ([] : List Val)
theorem m_impl_nullItem_within_ok : ∀ (a0 : Unit) (r : (List Val)), m_impl_nullItem_within a0 = some r → Does Try.prog 169 [.agg []] [] (fun q h' => ∃ u0 : Value, q = .hd 100 u0 ∧ h' = [(100, (u0, .osl 30 5 (r.map encOVal)))]) := by
 intro a0 r h
 rw [m_impl_nullItem_within] at h
 refine does_of_good tabOk Try.func169 rfl (by decide +kernel) (Nat.le_of_ble_eq_true rfl) fun c => ?_
 refine Good.le (σ' := ⟨3, [(0, .agg [])], []⟩) (Le.refl _) ?_
 refine good_seq fun K1 hK1 => ?_
 refine good_region ?_
 refine g_op rfl (o_box (k := 11) tabOk rfl rfl rfl rfl rfl ?_)
 intro b1
 refine gs 1 ?_
 refine gk hK1 3 [2] [] ?_
 refine good_seq fun K2 hK2 => ?_
 refine rg 1 ?_
 refine g_nil (hK2 _ ?_)
 refine Good.le (σ' := ⟨3, [(2, .hd 100 nilV)], [(100, (nilV, .osl 30 5 (([] : List Val).map encOVal)))]⟩) (lw [none]) ?_
 refine good_ret ?_
 obtain rfl := Option.some.inj h
 exact endQ_ret (h' := [(100, (_, _))]) [some 100] (.tmp rfl (.nil)) ⟨⟨_, rfl, .refl _⟩, trivial⟩ (by decide) ⟨nilV, rfl, rfl⟩
theorem m_impl_nullItem_within_okF : ∀ (a0 : Unit) (r : (List Val)), m_impl_nullItem_within a0 = some r → Does Try.prog 169 [.agg []] [] (ret (.sl true (r.map encVal))) := by
 intro a0 r h
 refine does_frz (m_impl_nullItem_within_ok a0 r h) ?_
 rintro q h' ⟨u0, rfl, rfl⟩
 exact ⟨[100], [(_, _)], ⟨⟨_, rfl, .osl (FrzLL.map fun _ _ => encOVal_frz _)⟩, trivial⟩, .frz _ _ _ (.head _)⟩
def m_impl_boolItem_within (a0 : Bool) : Option (List Val) :=
 some ([] : List Val)
theorem m_impl_boolItem_within_ok : ∀ (a0 : Bool) (r : (List Val)), m_impl_boolItem_within a0 = some r → Does Try.prog 170 [.bool a0] [] (fun q h' => ∃ u0 : Value, q = .hd 100 u0 ∧ h' = [(100, (u0, .osl 30 5 (r.map encOVal)))]) := by
 intro a0 r h
 rw [m_impl_boolItem_within] at h
 refine does_of_good tabOk Try.func170 rfl (by decide +kernel) (Nat.le_of_ble_eq_true rfl) fun c => ?_
 refine Good.le (σ' := ⟨3, [(0, .bool a0)], []⟩) (Le.refl _) ?_
 refine good_seq fun K1 hK1 => ?_
 refine rg 1 ?_
 refine gk hK1 3 [2] [] ?_
 refine good_seq fun K2 hK2 => ?_
 refine rg 1 ?_
 refine g_nil (hK2 _ ?_)
 refine Good.le (σ' := ⟨3, [(2, .hd 100 nilV)], [(100, (nilV, .osl 30 5 (([] : List Val).map encOVal)))]⟩) (lw [none]) ?_
 refine good_ret ?_
 obtain rfl := Option.some.inj h
 exact endQ_ret (h' := [(100, (_, _))]) [some 100] (.tmp rfl (.nil)) ⟨⟨_, rfl, .refl _⟩, trivial⟩ (by decide) ⟨nilV, rfl, rfl⟩
theorem m_impl_boolItem_within_okF : ∀ (a0 : Bool) (r : (List Val)), m_impl_boolItem_within a0 = some r → Does Try.prog 170 [.bool a0] [] (ret (.sl true (r.map encVal))) := by
 intro a0 r h
 refine does_frz (m_impl_boolItem_within_ok a0 r h) ?_
 rintro q h' ⟨u0, rfl, rfl⟩
 exact ⟨[100], [(_, _)], ⟨⟨_, rfl, .osl (FrzLL.map fun _ _ => encOVal_frz _)⟩, trivial⟩, .frz _ _ _ (.head _)⟩
def m_impl_numItem_within (a0 : Int) : Option (List Val) :=
 some ([] : List Val)
theorem m_impl_numItem_within_ok : ∀ (a0 : Int) (r : (List Val)), m_impl_numItem_within a0 = some r → Does Try.prog 171 [.int .i64 a0] [] (fun q h' => ∃ u0 : Value, q = .hd 100 u0 ∧ h' = [(100, (u0, .osl 30 5 (r.map encOVal)))]) := by
 intro a0 r h
 rw [m_impl_numItem_within] at h
 refine does_of_good tabOk Try.func171 rfl (by decide +kernel) (Nat.le_of_ble_eq_true rfl) fun c => ?_
 refine Good.le (σ' := ⟨3, [(0, .int .i64 a0)], []⟩) (Le.refl _) ?_
 refine good_seq fun K1 hK1 => ?_
 refine rg 1 ?_
 refine gk hK1 3 [2] [] ?_
 refine good_seq fun K2 hK2 => ?_
 refine rg 1 ?_
 refine g_nil (hK2 _ ?_)
 refine Good.le (σ' := ⟨3, [(2, .hd 100 nilV)], [(100, (nilV, .osl 30 5 (([] : List Val).map encOVal)))]⟩) (lw [none]) ?_
 refine good_ret ?_
 obtain rfl := Option.some.inj h
 exact endQ_ret (h' := [(100, (_, _))]) [some 100] (.tmp rfl (.nil)) ⟨⟨_, rfl, .refl _⟩, trivial⟩ (by decide) ⟨nilV, rfl, rfl⟩
theorem m_impl_numItem_within_okF : ∀ (a0 : Int) (r : (List Val)), m_impl_numItem_within a0 = some r → Does Try.prog 171 [.int .i64 a0] [] (ret (.sl true (r.map encVal))) := by
 intro a0 r h
 refine does_frz (m_impl_numItem_within_ok a0 r h) ?_
 rintro q h' ⟨u0, rfl, rfl⟩
 exact ⟨[100], [(_, _)], ⟨⟨_, rfl, .osl (FrzLL.map fun _ _ => encOVal_frz _)⟩, trivial⟩, .frz _ _ _ (.head _)⟩
def m_impl_textItem_within (a0 : Bs) : Option (List Val) :=
 some ([] : List Val)
theorem m_impl_textItem_within_ok : ∀ (a0 : Bs) (r : (List Val)), m_impl_textItem_within a0 = some r → Does Try.prog 172 [.str a0] [] (fun q h' => ∃ u0 : Value, q = .hd 100 u0 ∧ h' = [(100, (u0, .osl 30 5 (r.map encOVal)))]) := by
 intro a0 r h
 rw [m_impl_textItem_within] at h
 refine does_of_good tabOk Try.func172 rfl (by decide +kernel) (Nat.le_of_ble_eq_true rfl) fun c => ?_
 refine Good.le (σ' := ⟨3, [(0, .str a0)], []⟩) (Le.refl _) ?_
 refine good_seq fun K1 hK1 => ?_
 refine rg 1 ?_
 refine gk hK1 3 [2] [] ?_
 refine good_seq fun K2 hK2 => ?_
 refine rg 1 ?_
 refine g_nil (hK2 _ ?_)
 refine Good.le (σ' := ⟨3, [(2, .hd 100 nilV)], [(100, (nilV, .osl 30 5 (([] : List Val).map encOVal)))]⟩) (lw [none]) ?_
 refine good_ret ?_
 obtain rfl := Option.some.inj h
 exact endQ_ret (h' := [(100, (_, _))]) [some 100] (.tmp rfl (.nil)) ⟨⟨_, rfl, .refl _⟩, trivial⟩ (by decide) ⟨nilV, rfl, rfl⟩
theorem m_impl_textItem_within_okF : ∀ (a0 : Bs) (r : (List Val)), m_impl_textItem_within a0 = some r → Does Try.prog 172 [.str a0] [] (ret (.sl true (r.map encVal))) := by
 intro a0 r h
 refine does_frz (m_impl_textItem_within_ok a0 r h) ?_
 rintro q h' ⟨u0, rfl, rfl⟩
 exact ⟨[100], [(_, _)], ⟨⟨_, rfl, .osl (FrzLL.map fun _ _ => encOVal_frz _)⟩, trivial⟩, .frz _ _ _ (.head _)⟩
def m_impl_listItem_within (a0 : (List Val)) : Option (List Val) :=
 some a0
theorem m_impl_listItem_within_ok : ∀ (a0 : (List Val)) (r : (List Val)), m_impl_listItem_within a0 = some r → Does Try.prog 173 [.sl true (a0.map encVal)] [] (ret (.sl true (r.map encVal))) := by
 intro a0 r h
 rw [m_impl_listItem_within] at h
 refine does_of_good tabOk Try.func173 rfl (by decide +kernel) (Nat.le_of_ble_eq_true rfl) fun c => ?_
 refine Good.le (σ' := ⟨4, [(0, .sl true (a0.map encVal))], []⟩) (Le.refl _) ?_
 refine good_seq fun K1 hK1 => ?_
 refine rg 1 ?_
 refine g_nil (hK1 _ ?_)
 refine good_seq fun K2 hK2 => ?_
 refine rg 2 ?_
 refine gk hK2 4 [2] [] ?_
 obtain rfl := Option.some.inj h
 exact rt
def m_impl_treeItem_within (a0 : GTreeItem) : Option (List Val) :=
 some a0.list
theorem m_impl_treeItem_within_ok : ∀ (a0 : GTreeItem) (r : (List Val)), m_impl_treeItem_within a0 = some r → Does Try.prog 174 [.agg [.sl false (a0.names.map encS), .sl true (a0.list.map encVal)]] [] (ret (.sl true (r.map encVal))) := by
 intro a0 r h
 rw [m_impl_treeItem_within] at h
 refine does_of_good tabOk Try.func174 rfl (by decide +kernel) (Nat.le_of_ble_eq_true rfl) fun c => ?_
 refine Good.le (σ' := ⟨5, [(0, .agg [.sl false (a0.names.map encS), .sl true (a0.list.map encVal)])], []⟩) (Le.refl _) ?_
 refine good_seq fun K1 hK1 => ?_
 refine good_region ?_
 refine g_op rfl (o_box (k := 11) tabOk rfl rfl rfl rfl rfl ?_)
 intro b1
 refine gs 1 ?_
 refine gk hK1 5 [1, 2] [11] ?_
 refine good_seq fun K2 hK2 => ?_
 refine rg 3 ?_
 refine gk hK2 5 [2] [] ?_
 obtain rfl := Option.some.inj h
 exact rt
mutual
def m_impl_fitsIn_l1 : Nat → Int → Bool → (List Val) → Int → Option (Lp Unit Bool)
 | 0, _, _, _, _ => none
 | k + 1, a1, a2, y2, x1 =>
  if x1 < (y2.length : Int) then
   if (0 : Int) ≤ x1 ∧ x1 < (y2.length : Int) then
    (m_impl_fitsIn k (ix y2 x1) (IntKind.wrap .i64 (a1 - 1)) a2).bind fun y3 =>
    if y3 = true then
     m_impl_fitsIn_l1 k a1 a2 y2 (IntKind.wrap .i64 (x1 + 1))
    else
     (some false).bind fun z =>
     some (Lp.ret z)
   else none
  else
   some (Lp.go ())
def m_impl_fitsIn : Nat → Val → Int → Bool → Option Bool
 | 0, _, _, _ => none
 | k + 1, a0, a1, a2 =>
  if a1 < 1 then
   some false
  else
   (m_impl_itemOf k a0).bind fun y1 =>
   if (GI110.isNil y1) = true then
    some false
   else
    if (GI110.is112 y1) = true then
     some a2
    else
     if (GI110.is113 y1) = true then
      some a2
     else
      ((match (y1 : GI110) with | .nil => none | .c112 v => m_impl_varItem_within v | .c113 v => m_impl_wordItem_within v | .c134 => m_impl_nullItem_within () | .c135 v => m_impl_boolItem_within v | .c136 v => m_impl_numItem_within v | .c137 v => m_impl_textItem_within v | .c138 v => m_impl_listItem_within v | .c140 v => m_impl_treeItem_within v)).bind fun y2 =>
      (m_impl_fitsIn_l1 k a1 a2 y2 0).bind fun o1 =>
      o1.then fun s1 =>
  some true
end
def P_m_impl_fitsIn (k : Nat) : Prop := ∀ (a0 : Val) (a1 : Int) (a2 : Bool) (r : Bool), m_impl_fitsIn k a0 a1 a2 = some r → Does Try.prog 72 [.agg [.int .i64 a0.kind, .int .i64 a0.num, .str a0.text, .sl true (a0.list.map encVal), .sl false (a0.names.map encS)], .int .i64 a1, .bool a2] [] (ret (.bool r))
theorem m_impl_fitsIn_step (k : Nat) (ih : ∀ m, m < k → P_m_impl_fitsIn m) : P_m_impl_fitsIn k := by
 intro a0 a1 a2 r h
 obtain ⟨k, rfl⟩ : ∃ k', k = k' + 1 := by cases k with | zero => (rw [m_impl_fitsIn] at h; cases h) | succ k' => exact ⟨k', rfl⟩
 rw [m_impl_fitsIn] at h
 refine does_of_good tabOk Try.func72 rfl (by decide +kernel) (Nat.le_of_ble_eq_true rfl) fun c => ?_
 refine Good.le (σ' := ⟨38, [(0, .agg [.int .i64 a0.kind, .int .i64 a0.num, .str a0.text, .sl true (a0.list.map encVal), .sl false (a0.names.map encS)]), (1, .int .i64 a1), (2, .bool a2)], []⟩) (Le.refl _) ?_
 refine good_seq fun K1 hK1 => ?_
 refine good_region ?_
 refine g_op rfl (o_box (k := 13) tabOk rfl rfl rfl rfl rfl ?_)
 intro b1
 refine gs 1 ?_
 refine gk hK1 38 [1, 2, 3, 6] [13] ?_
 refine good_seq fun K2 hK2 => ?_
 refine good_seq fun K3 hK3 => ?_
 refine rg 2 ?_
 refine gk hK3 38 [1, 2, 3, 6, 11] [13] ?_
 refine good_cond rfl (fun hc1 => ?_) (fun hc1 => ?_)
 ·replace h := ifT h (dT hc1)
  refine good_seq fun K4 hK4 => ?_
  refine rg 1 ?_
  refine gk hK4 38 [1, 2, 3, 6] [13] ?_
  obtain rfl := Option.some.inj h
  exact rt
 ·replace h := ifF h (dF hc1)
  refine good_skip ?_
  refine hK2 _ (kp 38 [1, 2, 3, 6] [13] ?_)
  refine good_seq fun K5 hK5 => ?_
  refine rg 1 ?_
  obtain ⟨y1, hy1, h⟩ := bnd h
  refine g_op rfl (o_callR [] [] (core_value rfl rfl) (m_impl_itemOf_ok k a0 _ hy1) trivial (.cons (.refl _) (.nil)) (.inl rfl) rfl ?_)
  refine gs 1 ?_
  refine gk hK5 38 [1, 2, 6, 7] [] ?_
  refine good_seq fun K6 hK6 => ?_
  refine good_seq fun K7 hK7 => ?_
  refine rg 1 ?_
  refine g_nil (hK7 _ ?_)
  refine good_block ?_
  refine good_seq fun K8 hK8 => ?_
  refine good_region ?_
  refine g_op rfl (ValOk.op (v_splitI (r := .bool (GI110.isNil y1)) (fun hK => by revert hK; generalize y1 = z; intro hK; cases z <;> exact v_binT tabOk rfl rfl (by simp [binT, eqr, isConstO, GI110.isNil, encGI110]) rfl hK) ?_))
  refine g_nil (hK8 _ ?_)
  refine good_cond rfl (fun hc2 => ?_) (fun hc2 => ?_)
  ·replace h := ifT h hc2
   refine good_seq fun K9 hK9 => ?_
   refine rg 1 ?_
   refine gk hK9 38 [1, 2, 6, 7] [] ?_
   obtain rfl := Option.some.inj h
   exact rt
  ·replace h := bF h hc2
   refine good_seq fun K10 hK10 => ?_
   refine good_region ?_
   refine g_op rfl (ValOk.op (v_splitI (r := .tup [.str (GI110.as112 y1), .bool (GI110.is112 y1)]) (fun hK => by revert hK; generalize y1 = z; intro hK; cases z with | c112 v => exact v_assertY tabOk rfl tkind112 rfl rfl hK | c113 v => exact v_assertN tabOk rfl rfl tkind112 rfl tzero112 tagg112 rfl rfl hK | c134 => exact v_assertN tabOk rfl rfl tkind112 rfl tzero112 tagg112 rfl rfl hK | c135 v => exact v_assertN tabOk rfl rfl tkind112 rfl tzero112 tagg112 rfl rfl hK | c136 v => exact v_assertN tabOk rfl rfl tkind112 rfl tzero112 tagg112 rfl rfl hK | c137 v => exact v_assertN tabOk rfl rfl tkind112 rfl tzero112 tagg112 rfl rfl hK | c138 v => exact v_assertN tabOk rfl rfl tkind112 rfl tzero112 tagg112 rfl rfl hK | c140 v => exact v_assertN tabOk rfl rfl tkind112 rfl tzero112 tagg112 rfl rfl hK | nil => exact v_assert0 tabOk rfl tkind112 rfl tzero112 tagg112 rfl rfl hK) ?_))
   refine gs 2 ?_
   refine g_op rfl (ValOk.op (v_splitI (r := .tup [.str (GI110.as113 y1), .bool (GI110.is113 y1)]) (fun hK => by revert hK; generalize y1 = z; intro hK; cases z with | c112 v => exact v_assertN tabOk rfl rfl tkind113 rfl tzero113 tagg113 rfl rfl hK | c113 v => exact v_assertY tabOk rfl tkind113 rfl rfl hK | c134 => exact v_assertN tabOk rfl rfl tkind113 rfl tzero113 tagg113 rfl rfl hK | c135 v => exact v_assertN tabOk rfl rfl tkind113 rfl tzero113 tagg113 rfl rfl hK | c136 v => exact v_assertN tabOk rfl rfl tkind113 rfl tzero113 tagg113 rfl rfl hK | c137 v => exact v_assertN tabOk rfl rfl tkind113 rfl tzero113 tagg113 rfl rfl hK | c138 v => exact v_assertN tabOk rfl rfl tkind113 rfl tzero113 tagg113 rfl rfl hK | c140 v => exact v_assertN tabOk rfl rfl tkind113 rfl tzero113 tagg113 rfl rfl hK | nil => exact v_assert0 tabOk rfl tkind113 rfl tzero113 tagg113 rfl rfl hK) ?_))
   refine gs 2 ?_
   rcases bsplit ((GI110.is112 y1)) with hg1 | hg1
   ·replace h := ifT h hg1
    refine gs 1 ?_
    refine gk hK10 38 [1, 2, 6, 7, 22] [] ?_
    refine good_cond (b := true) rfl (fun hc => ?_) (fun hc => Bool.noConfusion hc)
    refine good_seq fun K11 hK11 => ?_
    refine rg 2 ?_
    refine gk hK11 38 [1, 2, 6, 7] [] ?_
    obtain rfl := Option.some.inj h
    exact rt
   ·replace h := bF h hg1
    refine gs 1 ?_
    refine gk hK10 38 [1, 2, 6, 7, 22] [] ?_
    refine good_cond rfl (fun hc3 => ?_) (fun hc3 => ?_)
    ·replace h := ifT h hc3
     refine good_seq fun K12 hK12 => ?_
     refine rg 2 ?_
     refine gk hK12 38 [1, 2, 6, 7] [] ?_
     obtain rfl := Option.some.inj h
     exact rt
    ·replace h := bF h hc3
     refine good_skip ?_
     refine hK6 _ (kp 38 [1, 2, 6, 7] [] ?_)
     refine good_seq fun K13 hK13 => ?_
     refine good_seq fun K14 hK14 => ?_
     refine rg 1 ?_
     obtain ⟨y2, hy2, h⟩ := bnd h
     refine g_op rfl (o_splitI (r := .sl true (y2.map encVal)) (fun hK => by revert hK hy2; generalize y1 = z; intro hy hK; cases z with | nil => cases hy | c112 v => exact o_callR [] [] (core_invoke tabOk rfl rfl tmeth112_167 tkind112 rfl) (m_impl_varItem_within_okF v _ hy) trivial (.cons (.refl _) .nil) (.inl rfl) rfl hK | c113 v => exact o_callR [] [] (core_invoke tabOk rfl rfl tmeth113_168 tkind113 rfl) (m_impl_wordItem_within_okF v _ hy) trivial (.cons (.refl _) .nil) (.inl rfl) rfl hK | c134 => exact o_callR [] [] (core_invoke tabOk rfl rfl tmeth134_169 tkind134 rfl) (m_impl_nullItem_within_okF () _ hy) trivial (.cons (.refl _) .nil) (.inl rfl) rfl hK | c135 v => exact o_callR [] [] (core_invoke tabOk rfl rfl tmeth135_170 tkind135 rfl) (m_impl_boolItem_within_okF v _ hy) trivial (.cons (.refl _) .nil) (.inl rfl) rfl hK | c136 v => exact o_callR [] [] (core_invoke tabOk rfl rfl tmeth136_171 tkind136 rfl) (m_impl_numItem_within_okF v _ hy) trivial (.cons (.refl _) .nil) (.inl rfl) rfl hK | c137 v => exact o_callR [] [] (core_invoke tabOk rfl rfl tmeth137_172 tkind137 rfl) (m_impl_textItem_within_okF v _ hy) trivial (.cons (.refl _) .nil) (.inl rfl) rfl hK | c138 v => exact o_callR [] [] (core_invoke tabOk rfl rfl tmeth138_173 tkind138 rfl) (m_impl_listItem_within_ok v _ hy) trivial (.cons (.refl _) .nil) (.inl rfl) rfl hK | c140 v => exact o_callR [] [] (core_invoke tabOk rfl rfl tmeth140_174 tkind140 rfl) (m_impl_treeItem_within_ok v _ hy) trivial (.cons (.refl _) .nil) (.inl rfl) rfl hK) ?_)
     refine g_op rfl (ValOk.op (v_lenM (l := y2) (f := encVal) tabOk rfl rfl telem28 rfl ?_))
     refine gs 1 ?_
     refine gk hK14 38 [1, 2, 6, 25, 26, 27] [] ?_
     obtain ⟨o1, ho1, hJ1⟩ := bnd h
     have hw1 : ∀ (s1 : Unit), o1 = Lp.go s1 → ∀ σ', Le σ' ⟨38, [(6, .bool false)], []⟩ → K13 σ' := by
      intro s1 e1 σ' hle1
      subst e1
      refine hK13 _ (Good.le hle1 ?_)
      replace h := hJ1
      refine good_seq fun K15 hK15 => ?_
      refine rg 1 ?_
      refine g_nil (hK15 _ ?_)
      obtain rfl := Option.some.inj h
      exact rt
     replace h := ho1
     refine good_block ?_
     refine good_loopf (fun p : Int => ⟨38, [(1, .int .i64 a1), (2, .bool a2), (6, .bool false), (25, .sl true (y2.map encVal)), (26, .int .i64 (y2.length : Int)), (27, .int .i64 p)], []⟩) (fun m p => m < k + 1 ∧ m_impl_fitsIn_l1 m a1 a2 y2 p = some o1) k (0) (lw []) ⟨by omega, h⟩ ?_
     rintro m1 x1 ⟨hm, h⟩
     replace h : m_impl_fitsIn_l1 m1 a1 a2 y2 x1 = some o1 := h
     refine Good.le (σ' := ⟨38, [(1, .int .i64 a1), (2, .bool a2), (6, .bool false), (25, .sl true (y2.map encVal)), (26, .int .i64 (y2.length : Int)), (27, .int .i64 x1)], []⟩) (Le.refl _) ?_
     obtain ⟨m1, rfl⟩ : ∃ m', m1 = m' + 1 := by cases m1 with | zero => (rw [m_impl_fitsIn_l1] at h; cases h) | succ m' => exact ⟨m', rfl⟩
     rw [m_impl_fitsIn_l1] at h
     refine good_seq fun K16 hK16 => ?_
     refine rg 1 ?_
     refine g_nil (hK16 _ ?_)
     refine good_seq fun K17 hK17 => ?_
     refine good_cond rfl (fun hc4 => ?_) (fun hc4 => ?_)
     ·replace h := ifT h (dT hc4)
      refine good_skip ?_
      refine hK17 _ (kp 38 [1, 2, 6, 25, 26, 27] [] ?_)
      refine good_seq fun K18 hK18 => ?_
      refine good_block ?_
      refine good_seq fun K19 hK19 => ?_
      refine good_region ?_
      obtain ⟨hb1, h⟩ := ifS h
      refine g_op rfl (ValOk.op (v_idxM tabOk rfl rfl telem28 tsize30 hb1 (encVal_eq _) rfl rfl ?_))
      refine gs 1 ?_
      refine g_op rfl (o_alloc (k := 19) tabOk tzero30 rfl rfl ?_)
      intro b2
      refine g_op rfl (o_storeP tabOk (cs' := [.int .i64 ((ix y2 x1).kind), .int .i64 ((ix y2 x1).num), .str ((ix y2 x1).text), .sl true (((ix y2 x1).list).map encVal), .sl false (((ix y2 x1).names).map encS)]) rfl rfl tsize30 rfl rfl rfl (Nat.le_of_ble_eq_true rfl) rfl rfl rfl ?_)
      refine gk hK19 38 [1, 2, 6, 9, 25, 26, 27] [19] ?_
      refine good_seq fun K20 hK20 => ?_
      refine rg 4 ?_
      obtain ⟨y3, hy3, h⟩ := bnd h
      refine g_op rfl (o_callR [] [] (core_value rfl rfl) ((ih m1 (by omega)) (ix y2 x1) (IntKind.wrap .i64 (a1 - 1)) a2 _ hy3) trivial (.cons (.refl _) (.cons (.refl _) (.cons (.refl _) (.nil)))) (.inl rfl) rfl ?_)
      refine gs 1 ?_
      refine gk hK20 38 [1, 2, 6, 25, 26, 27, 36] [] ?_
      refine good_cond rfl (fun hc5 => ?_) (fun hc5 => ?_)
      ·replace h := bF h (nT hc5)
       refine good_seq fun K21 hK21 => ?_
       refine rg 1 ?_
       refine gk hK21 38 [1, 2, 6, 25, 26, 27] [] ?_
       replace h := unret h hJ1
       obtain rfl := Option.some.inj h
       exact rt
      ·replace h := ifT h (nF hc5)
       refine good_skip ?_
       refine hK18 _ (kp 38 [1, 2, 6, 25, 26, 27] [] ?_)
       refine rg 2 ?_
       refine g_nil ?_
       exact round_mk m1 (IntKind.wrap .i64 (x1 + 1)) (Nat.lt_succ_self _) ⟨by omega, h⟩ (lw [])
     ·replace h := ifF h (dF hc4)
      refine good_exit ?_
      exact hw1 () (Option.some.inj h).symm _ (lw [])
theorem m_impl_fitsIn_all (k : Nat) : P_m_impl_fitsIn k := by
 induction k using Nat.strongRecOn with
 | _ k ih => exact m_impl_fitsIn_step k ih
theorem m_impl_fitsIn_ok (k : Nat) : ∀ (a0 : Val) (a1 : Int) (a2 : Bool) (r : Bool), m_impl_fitsIn k a0 a1 a2 = some r → Does Try.prog 72 [.agg [.int .i64 a0.kind, .int .i64 a0.num, .str a0.text, .sl true (a0.list.map encVal), .sl false (a0.names.map encS)], .int .i64 a1, .bool a2] [] (ret (.bool r)) := (m_impl_fitsIn_all k)
def m_impl_ValueOk (k : Nat) (a0 : Val) : Option Bool :=
 (m_impl_fitsIn k a0 6 false).bind fun y1 =>
 some y1
theorem m_impl_ValueOk_ok (k : Nat) : ∀ (a0 : Val) (r : Bool), m_impl_ValueOk k a0 = some r → Does Try.prog 34 [.agg [.int .i64 a0.kind, .int .i64 a0.num, .str a0.text, .sl true (a0.list.map encVal), .sl false (a0.names.map encS)]] [] (ret (.bool r)) := by
 intro a0 r h
 rw [m_impl_ValueOk] at h
 refine does_of_good tabOk Try.func34 rfl (by decide +kernel) (Nat.le_of_ble_eq_true rfl) fun c => ?_
 refine Good.le (σ' := ⟨5, [(0, .agg [.int .i64 a0.kind, .int .i64 a0.num, .str a0.text, .sl true (a0.list.map encVal), .sl false (a0.names.map encS)])], []⟩) (Le.refl _) ?_
 refine good_seq fun K1 hK1 => ?_
 refine good_region ?_
 refine g_op rfl (o_box (k := 11) tabOk rfl rfl rfl rfl rfl ?_)
 intro b1
 refine gs 1 ?_
 refine gk hK1 5 [1, 2] [11] ?_
 refine good_seq fun K2 hK2 => ?_
 refine rg 1 ?_
 obtain ⟨y1, hy1, h⟩ := bnd h
 refine g_op rfl (o_callR [] [] (core_value rfl rfl) (m_impl_fitsIn_ok k a0 6 false _ hy1) trivial (.cons (.refl _) (.cons (.refl _) (.cons (.refl _) (.nil)))) (.inl rfl) rfl ?_)
 refine gs 1 ?_
 refine gk hK2 5 [2] [] ?_
 obtain rfl := Option.some.inj h
 exact rt
end Go.Proofs.Ytiaigcdckmpepaa
end
end
section
/-! Functions of the program. -/
set_option linter.unusedVariables false
set_option linter.unnecessarySimpa false
set_option maxRecDepth 100000
set_option maxHeartbeats 20000000
noncomputable section
namespace Go.Proofs.Ytiaigcdckmpepaa
open Go.Bb
def m_spec_l1Tree_l1 : Nat → Val → Bs → Int → Option (Lp Unit (Val × Bool))
 | 0, _, _, _ => none
 | k + 1, a0, a1, x1 =>
  (if x1 < (a0.names.length : Int) then
    some (Lp.go (decide (a0.kind = 5)))
   else
    some (Lp.go false)).bind fun o2 =>
  o2.then fun s2 =>
  if s2 = true then
   if (0 : Int) ≤ x1 ∧ x1 < (a0.names.length : Int) then
    if (ix a0.names x1) = a1 then
     if (0 : Int) ≤ x1 ∧ x1 < (a0.list.length : Int) then
      (some ((ix a0.list x1), true)).bind fun z =>
      some (Lp.ret z)
     else none
    else
     m_spec_l1Tree_l1 k a0 a1 (IntKind.wrap .i64 (x1 + 1))
   else none
  else
   some (Lp.go ())
def m_spec_l1Tree (k : Nat) (a0 : Val) (a1 : Bs) : Option (Val × Bool) :=
 (m_spec_l1Tree_l1 k a0 a1 0).bind fun o1 =>
 o1.then fun s1 =>
  some ((Val.mk 0 0 ([] : Bs) [] []), false)
theorem m_spec_l1Tree_ok (k : Nat) : ∀ (a0 : Val) (a1 : Bs) (r : (Val × Bool)), m_spec_l1Tree k a0 a1 = some r → Does Try.prog 53 [.agg [.int .i64 a0.kind, .int .i64 a0.num, .str a0.text, .sl true (a0.list.map encVal), .sl false (a0.names.map encS)], .str a1] [] (ret (.tup [.agg [.int .i64 r.1.kind, .int .i64 r.1.num, .str r.1.text, .sl true (r.1.list.map encVal), .sl false (r.1.names.map encS)], .bool r.2])) := by
 intro a0 a1 r h
 rw [m_spec_l1Tree] at h
 refine does_of_good tabOk Try.func53 rfl (by decide +kernel) (Nat.le_of_ble_eq_true rfl) fun c => ?_
 refine Good.le (σ' := ⟨32, [(0, .agg [.int .i64 a0.kind, .int .i64 a0.num, .str a0.text, .sl true (a0.list.map encVal), .sl false (a0.names.map encS)]), (1, .str a1)], []⟩) (Le.refl _) ?_
 refine good_seq fun K1 hK1 => ?_
 refine good_region ?_
 refine g_op rfl (o_box (k := 12) tabOk rfl rfl rfl rfl rfl ?_)
 intro b1
 refine g_op rfl (o_alloc (k := 14) tabOk tzero30 rfl rfl ?_)
 intro b2
 refine gs 1 ?_
 refine gk hK1 32 [1, 2, 4, 5] [12, 14] ?_
 refine good_seq fun K2 hK2 => ?_
 refine good_seq fun K3 hK3 => ?_
 refine rg 1 ?_
 refine g_nil (hK3 _ ?_)
 obtain ⟨o1, ho1, hJ1⟩ := bnd h
 have hw1 : ∀ (s1 : Unit), o1 = Lp.go s1 → ∀ σ', Le σ' ⟨32, [(4, .ptr 14 b2 0), (5, .bool false)], [(14, ((.pointer (some ⟨b2, 0, none⟩)), .optr 30 [.int .i64 0, .int .i64 0, .str ([] : Bs), .nil, .nil]))]⟩ → K2 σ' := by
  intro s1 e1 σ' hle1
  subst e1
  refine hK2 _ (Good.le hle1 ?_)
  replace h := hJ1
  refine good_seq fun K4 hK4 => ?_
  refine good_region ?_
  refine g_op rfl (ValOk.op (v_build tabOk (cs := [.int .i64 0, .int .i64 0, .str ([] : Bs), .nil, .nil]) tzero30 tsok30 rfl rfl rfl ?_))
  refine g_op rfl (o_storeP tabOk (cs' := [.int .i64 0, .int .i64 0, .str ([] : Bs), .nil, .nil]) rfl rfl tsize30 rfl rfl rfl (Nat.le_of_ble_eq_true rfl) rfl rfl rfl ?_)
  refine gs 1 ?_
  refine gk hK4 32 [4, 5] [14] ?_
  refine Good.le (σ' := ⟨32, [(4, .ptr 14 b2 0), (5, .bool false)], [(14, ((.pointer (some ⟨b2, 0, none⟩)), .optr 30 [.int .i64 0, .int .i64 0, .str ([] : Bs), .sl true ([].map encVal), .sl false ([].map encS)]))]⟩) (lw [some 14]) ?_
  refine good_ret ?_
  obtain rfl := Option.some.inj h
  exact endQ_ret (h' := []) [] (.cell rfl rfl tsize30 tagg30 rfl rfl rfl (.tmp rfl (.nil))) trivial (by decide) ⟨rfl, rfl⟩
 replace h := ho1
 refine good_block ?_
 refine good_loopf (fun p : Int => ⟨32, [(1, .str a1), (2, .ptr 12 b1 0), (4, .ptr 14 b2 0), (5, .bool false), (6, .int .i64 p)], [(12, ((.pointer (some ⟨b1, 0, none⟩)), .optr 30 [.int .i64 a0.kind, .int .i64 a0.num, .str a0.text, .sl true (a0.list.map encVal), .sl false (a0.names.map encS)])), (14, ((.pointer (some ⟨b2, 0, none⟩)), .optr 30 [.int .i64 0, .int .i64 0, .str ([] : Bs), .nil, .nil]))]⟩) (fun m p => m_spec_l1Tree_l1 m a0 a1 p = some o1) k (0) (lw [some 12, some 14]) h ?_
 rintro m1 x1 h
 replace h : m_spec_l1Tree_l1 m1 a0 a1 x1 = some o1 := h
 refine Good.le (σ' := ⟨32, [(1, .str a1), (2, .ptr 12 b1 0), (4, .ptr 14 b2 0), (5, .bool false), (6, .int .i64 x1)], [(12, ((.pointer (some ⟨b1, 0, none⟩)), .optr 30 [.int .i64 a0.kind, .int .i64 a0.num, .str a0.text, .sl true (a0.list.map encVal), .sl false (a0.names.map encS)])), (14, ((.pointer (some ⟨b2, 0, none⟩)), .optr 30 [.int .i64 0, .int .i64 0, .str ([] : Bs), .nil, .nil]))]⟩) (Le.refl _) ?_
 obtain ⟨m1, rfl⟩ : ∃ m', m1 = m' + 1 := by cases m1 with | zero => (rw [m_spec_l1Tree_l1] at h; cases h) | succ m' => exact ⟨m', rfl⟩
 rw [m_spec_l1Tree_l1] at h
 refine good_seq fun K5 hK5 => ?_
 refine good_seq fun K6 hK6 => ?_
 obtain ⟨o2, ho2, hJ2⟩ := bnd h
 have hw2 : ∀ (s2 : Bool), o2 = Lp.go s2 → ∀ σ', Le σ' ⟨32, [(1, .str a1), (2, .ptr 12 b1 0), (4, .ptr 14 b2 0), (5, .bool false), (6, .int .i64 x1), (16, .bool s2)], [(12, ((.pointer (some ⟨b1, 0, none⟩)), .optr 30 [.int .i64 a0.kind, .int .i64 a0.num, .str a0.text, .sl true (a0.list.map encVal), .sl false (a0.names.map encS)])), (14, ((.pointer (some ⟨b2, 0, none⟩)), .optr 30 [.int .i64 0, .int .i64 0, .str ([] : Bs), .nil, .nil]))]⟩ → K6 σ' := by
  intro s2 e2 σ' hle2
  subst e2
  refine hK6 _ (Good.le hle2 ?_)
  replace h := hJ2
  refine good_cond rfl (fun hc1 => ?_) (fun hc1 => ?_)
  ·replace h := ifT h hc1
   refine good_skip ?_
   refine hK5 _ (kp 32 [1, 2, 4, 5, 6] [12, 14] ?_)
   refine good_seq fun K7 hK7 => ?_
   refine good_block ?_
   refine good_seq fun K8 hK8 => ?_
   refine rg 3 ?_
   obtain ⟨hb1, h⟩ := ifS h
   refine g_op rfl (ValOk.op (v_idxM tabOk rfl rfl telem23 tsize9 hb1 rfl rfl rfl ?_))
   refine gs 3 ?_
   refine gk hK8 32 [1, 2, 4, 5, 6, 25] [12, 14] ?_
   refine good_cond rfl (fun hc2 => ?_) (fun hc2 => ?_)
   ·replace h := ifT h (dT hc2)
    refine good_seq fun K9 hK9 => ?_
    refine rg 3 ?_
    obtain ⟨hb2, h⟩ := ifS h
    refine g_op rfl (ValOk.op (v_idxM tabOk rfl rfl telem28 tsize30 hb2 (encVal_eq _) rfl rfl ?_))
    refine gs 1 ?_
    refine g_op rfl (o_storeP tabOk (cs' := [.int .i64 ((ix a0.list x1).kind), .int .i64 ((ix a0.list x1).num), .str ((ix a0.list x1).text), .sl true (((ix a0.list x1).list).map encVal), .sl false (((ix a0.list x1).names).map encS)]) rfl rfl tsize30 rfl rfl rfl (Nat.le_of_ble_eq_true rfl) rfl rfl rfl ?_)
    refine gs 1 ?_
    refine gk hK9 32 [1, 2, 4, 5, 6] [12, 14] ?_
    refine Good.le (σ' := ⟨32, [(4, .ptr 14 b2 0), (5, .bool true)], [(14, ((.pointer (some ⟨b2, 0, none⟩)), .optr 30 [.int .i64 ((ix a0.list x1).kind), .int .i64 ((ix a0.list x1).num), .str ((ix a0.list x1).text), .sl true (((ix a0.list x1).list).map encVal), .sl false (((ix a0.list x1).names).map encS)]))]⟩) (lw [some 14]) ?_
    refine good_ret ?_
    replace h := unret h hJ1
    obtain rfl := Option.some.inj h
    refine blockQ_ret ?_
    refine thenQ_ret ?_
    refine thenQ_ret ?_
    refine blockQ_ret ?_
    refine thenQ_ret ?_
    exact endQ_ret (h' := []) [] (.cell rfl rfl tsize30 tagg30 rfl rfl rfl (.tmp rfl (.nil))) trivial (by decide) ⟨rfl, rfl⟩
   ·replace h := ifF h (dF hc2)
    refine good_skip ?_
    refine hK7 _ (kp 32 [1, 2, 4, 5, 6] [12, 14] ?_)
    refine rg 3 ?_
    refine g_nil ?_
    exact round_mk m1 (IntKind.wrap .i64 (x1 + 1)) (Nat.lt_succ_self _) h (lw [some 12, some 14])
  ·replace h := bF h hc1
   refine good_exit ?_
   exact hw1 () (Option.some.inj h).symm _ (lw [some 14])
 replace h := ho2
 refine rg 3 ?_
 refine g_op rfl (ValOk.op (v_lenM (l := a0.names) (f := encS) tabOk rfl rfl telem23 rfl ?_))
 refine gs 2 ?_
 rcases bsplit ((decide (x1 < (a0.names.length : Int)))) with hg1 | hg1
 ·replace h := ifT h (dT hg1)
  refine gs 4 ?_
  refine g_nil ?_
  exact hw2 (decide (a0.kind = 5)) (Option.some.inj h).symm _ (lw [some 12, some 14])
 ·replace h := ifF h (dF hg1)
  refine gs 4 ?_
  refine g_nil ?_
  exact hw2 false (Option.some.inj h).symm _ (lw [some 12, some 14])
mutual
def m_spec_l1Copy_l2 : Nat → Val → (List Bs) → Int → Option (Lp (List Bs) Val)
 | 0, _, _, _ => none
 | k + 1, a0, x3, x4 =>
  if x4 < (a0.names.length : Int) then
   if (0 : Int) ≤ x4 ∧ x4 < (a0.names.length : Int) then
    if (x3 ++ [(ix a0.names x4)]).length * 16 ≤ 140737488355328 then
     m_spec_l1Copy_l2 k a0 (x3 ++ [(ix a0.names x4)]) (IntKind.wrap .i64 (x4 + 1))
    else none
   else none
  else
   some (Lp.go x3)
def m_spec_l1Copy_l1 : Nat → Val → (List Val) → Int → Option (Lp (List Val) Val)
 | 0, _, _, _ => none
 | k + 1, a0, x1, x2 =>
  if x2 < (a0.list.length : Int) then
   if (0 : Int) ≤ x2 ∧ x2 < (a0.list.length : Int) then
    (m_spec_l1Copy k (ix a0.list x2)).bind fun y1 =>
    if (x1 ++ [y1]).length * 80 ≤ 140737488355328 then
     m_spec_l1Copy_l1 k a0 (x1 ++ [y1]) (IntKind.wrap .i64 (x2 + 1))
    else none
   else none
  else
   some (Lp.go x1)
def m_spec_l1Copy : Nat → Val → Option Val
 | 0, _ => none
 | k + 1, a0 =>
  (m_spec_l1Copy_l1 k a0 [] 0).bind fun o1 =>
  o1.then fun s1 =>
  (m_spec_l1Copy_l2 k a0 [] 0).bind fun o2 =>
  o2.then fun s2 =>
  some (Val.mk a0.kind a0.num a0.text s1 s2)
end
def P_m_spec_l1Copy (k : Nat) : Prop := ∀ (a0 : Val) (r : Val), m_spec_l1Copy k a0 = some r → Does Try.prog 54 [.agg [.int .i64 a0.kind, .int .i64 a0.num, .str a0.text, .sl true (a0.list.map encVal), .sl false (a0.names.map encS)]] [] (fun q h' => ∃ u0 : Value, ∃ u1 : Value, q = .agg [.int .i64 r.kind, .int .i64 r.num, .str r.text, .hd 100 u0, .hd 101 u1] ∧ h' = [(100, (u0, .osl 30 5 (r.list.map encOVal))), (101, (u1, .osl 9 1 (r.names.map encS)))])
theorem m_spec_l1Copy_step (k : Nat) (ih : ∀ m, m < k → P_m_spec_l1Copy m) : P_m_spec_l1Copy k := by
 intro a0 r h
 obtain ⟨k, rfl⟩ : ∃ k', k = k' + 1 := by cases k with | zero => (rw [m_spec_l1Copy] at h; cases h) | succ k' => exact ⟨k', rfl⟩
 rw [m_spec_l1Copy] at h
 refine does_of_good tabOk Try.func54 rfl (by decide +kernel) (Nat.le_of_ble_eq_true rfl) fun c => ?_
 refine Good.le (σ' := ⟨49, [(0, .agg [.int .i64 a0.kind, .int .i64 a0.num, .str a0.text, .sl true (a0.list.map encVal), .sl false (a0.names.map encS)])], []⟩) (Le.refl _) ?_
 refine good_seq fun K1 hK1 => ?_
 refine good_region ?_
 refine g_op rfl (o_box (k := 11) tabOk rfl rfl rfl rfl rfl ?_)
 intro b1
 refine g_op rfl (o_alloc (k := 12) tabOk tzero30 rfl rfl ?_)
 intro b2
 refine gk hK1 49 [1, 2] [11, 12] ?_
 refine good_seq fun K2 hK2 => ?_
 refine rg 6 ?_
 refine g_op rfl (ValOk.op (v_build tabOk (cs := [.int .i64 a0.kind, .int .i64 a0.num, .str a0.text, .nil, .nil]) tzero30 tsok30 rfl rfl rfl ?_))
 refine g_op rfl (o_alloc (k := 13) tabOk tzero30 rfl rfl ?_)
 intro b3
 refine g_op rfl (o_storeP tabOk (cs' := [.int .i64 a0.kind, .int .i64 a0.num, .str a0.text, .nil, .nil]) rfl rfl tsize30 rfl rfl rfl (Nat.le_of_ble_eq_true rfl) rfl rfl rfl ?_)
 refine gk hK2 49 [1, 2, 3] [11, 12, 13] ?_
 refine good_seq fun K3 hK3 => ?_
 refine good_seq fun K4 hK4 => ?_
 refine rg 1 ?_
 refine g_nil (hK4 _ ?_)
 obtain ⟨o1, ho1, hJ1⟩ := bnd h
 have hw1 : ∀ (s1 : (List Val)) (w2 : Value), o1 = Lp.go s1 → ∀ σ', Le σ' ⟨49, [(1, .ptr 11 b1 0), (2, .ptr 12 b2 0), (3, .ptr 13 b3 0)], [(11, ((.pointer (some ⟨b1, 0, none⟩)), .optr 30 [.int .i64 a0.kind, .int .i64 a0.num, .str a0.text, .sl true (a0.list.map encVal), .sl false (a0.names.map encS)])), (12, ((.pointer (some ⟨b2, 0, none⟩)), .optr 30 [.int .i64 0, .int .i64 0, .str ([] : Bs), .nil, .nil])), (13, ((.pointer (some ⟨b3, 0, none⟩)), .optr 30 [.int .i64 a0.kind, .int .i64 a0.num, .str a0.text, .hd 5204 w2, .nil])), (5204, (w2, .osl 30 5 (s1.map encOVal)))]⟩ → K3 σ' := by
  intro s1 w2 e1 σ' hle1
  subst e1
  refine hK3 _ (Good.le hle1 ?_)
  replace h := hJ1
  refine good_seq fun K5 hK5 => ?_
  refine good_seq fun K6 hK6 => ?_
  refine rg 1 ?_
  refine g_nil (hK6 _ ?_)
  obtain ⟨o2, ho2, hJ2⟩ := bnd h
  have hw2 : ∀ (s2 : (List Bs)) (w4 : Value), o2 = Lp.go s2 → ∀ σ', Le σ' ⟨49, [(2, .ptr 12 b2 0), (3, .ptr 13 b3 0)], [(12, ((.pointer (some ⟨b2, 0, none⟩)), .optr 30 [.int .i64 0, .int .i64 0, .str ([] : Bs), .nil, .nil])), (13, ((.pointer (some ⟨b3, 0, none⟩)), .optr 30 [.int .i64 a0.kind, .int .i64 a0.num, .str a0.text, .hd 5204 w2, .hd 6207 w4])), (5204, (w2, .osl 30 5 (s1.map encOVal))), (6207, (w4, .osl 9 1 (s2.map encS)))]⟩ → K5 σ' := by
   intro s2 w4 e2 σ' hle2
   subst e2
   refine hK5 _ (Good.le hle2 ?_)
   replace h := hJ2
   refine good_seq fun K7 hK7 => ?_
   refine rg 1 ?_
   refine g_op rfl (o_storeP tabOk (cs' := [.int .i64 a0.kind, .int .i64 a0.num, .str a0.text, .hd 5204 w2, .hd 6207 w4]) rfl rfl tsize30 rfl rfl rfl (Nat.le_of_ble_eq_true rfl) rfl rfl rfl ?_)
   refine gk hK7 49 [2] [12, 5204, 6207] ?_
   refine Good.le (σ' := ⟨49, [(2, .ptr 12 b2 0)], [(100, (w2, .osl 30 5 (s1.map encOVal))), (101, (w4, .osl 9 1 (s2.map encS))), (12, ((.pointer (some ⟨b2, 0, none⟩)), .optr 30 [.int .i64 a0.kind, .int .i64 a0.num, .str a0.text, .hd 100 w2, .hd 101 w4]))]⟩) (lw [some 5204, some 6207, some 12]) ?_
   refine good_ret ?_
   obtain rfl := Option.some.inj h
   exact endQ_ret (h' := [(100, (_, _)), (101, (_, _))]) [some 100, some 101] (.cell rfl rfl tsize30 tagg30 rfl rfl rfl (.nil)) ⟨⟨_, rfl, .refl _⟩, ⟨⟨_, rfl, .refl _⟩, trivial⟩⟩ (by decide) ⟨w2, w4, rfl, rfl⟩
  replace h := ho2
  refine good_block ?_
  refine good_loopf (fun p : ((List Bs) × Int × Value) => ⟨49, [(1, .ptr 11 b1 0), (2, .ptr 12 b2 0), (3, .ptr 13 b3 0), (5, .int .i64 p.2.1)], [(11, ((.pointer (some ⟨b1, 0, none⟩)), .optr 30 [.int .i64 a0.kind, .int .i64 a0.num, .str a0.text, .sl true (a0.list.map encVal), .sl false (a0.names.map encS)])), (12, ((.pointer (some ⟨b2, 0, none⟩)), .optr 30 [.int .i64 0, .int .i64 0, .str ([] : Bs), .nil, .nil])), (13, ((.pointer (some ⟨b3, 0, none⟩)), .optr 30 [.int .i64 a0.kind, .int .i64 a0.num, .str a0.text, .hd 5204 w2, .hd 6208 p.2.2])), (5204, (w2, .osl 30 5 (s1.map encOVal))), (6208, (p.2.2, .osl 9 1 (p.1.map encS)))]⟩) (fun m p => m < k + 1 ∧ m_spec_l1Copy_l2 m a0 p.1 p.2.1 = some o2) k ([], 0, nilV) (lw [some 11, some 12, some 13, some 5204, none]) ⟨by omega, h⟩ ?_
  rintro m1 ⟨x3, x4, w3⟩ ⟨hm, h⟩
  replace h : m_spec_l1Copy_l2 m1 a0 x3 x4 = some o2 := h
  refine Good.le (σ' := ⟨49, [(1, .ptr 11 b1 0), (2, .ptr 12 b2 0), (3, .ptr 13 b3 0), (5, .int .i64 x4)], [(11, ((.pointer (some ⟨b1, 0, none⟩)), .optr 30 [.int .i64 a0.kind, .int .i64 a0.num, .str a0.text, .sl true (a0.list.map encVal), .sl false (a0.names.map encS)])), (12, ((.pointer (some ⟨b2, 0, none⟩)), .optr 30 [.int .i64 0, .int .i64 0, .str ([] : Bs), .nil, .nil])), (13, ((.pointer (some ⟨b3, 0, none⟩)), .optr 30 [.int .i64 a0.kind, .int .i64 a0.num, .str a0.text, .hd 5204 w2, .hd 6208 w3])), (5204, (w2, .osl 30 5 (s1.map encOVal))), (6208, (w3, .osl 9 1 (x3.map encS)))]⟩) (Le.refl _) ?_
  obtain ⟨m1, rfl⟩ : ∃ m', m1 = m' + 1 := by cases m1 with | zero => (rw [m_spec_l1Copy_l2] at h; cases h) | succ m' => exact ⟨m', rfl⟩
  rw [m_spec_l1Copy_l2] at h
  refine good_seq fun K8 hK8 => ?_
  refine good_seq fun K9 hK9 => ?_
  refine rg 3 ?_
  refine g_op rfl (ValOk.op (v_lenM (l := a0.names) (f := encS) tabOk rfl rfl telem23 rfl ?_))
  refine gs 1 ?_
  refine gk hK9 49 [1, 2, 3, 5, 35] [11, 12, 13, 5204, 6208] ?_
  refine good_cond rfl (fun hc1 => ?_) (fun hc1 => ?_)
  ·replace h := ifT h (dT hc1)
   refine good_skip ?_
   refine hK8 _ (kp 49 [1, 2, 3, 5] [11, 12, 13, 5204, 6208] ?_)
   refine good_seq fun K10 hK10 => ?_
   refine good_block ?_
   obtain ⟨hb1, h⟩ := ifS h
   obtain ⟨hb2, h⟩ := ifS h
   refine good_anyM (by kernel_rfl) [⟨[], [3], [], [], [], []⟩, ⟨[0], [38], [13], [], [], []⟩, ⟨[], [1], [], [], [], []⟩, ⟨[2], [40], [11], [], [], []⟩, ⟨[], [5], [], [], [], []⟩, ⟨[2, 3, 4], [41, 42], [], [], [], []⟩, ⟨[2, 3, 4, 5], [43], [], [], [], []⟩, ⟨[2, 3, 4, 5, 6], [44], [], [], [], []⟩, ⟨[0, 1, 2, 3, 4, 5, 6, 7], [39, 45], [6208], [6208], [56], [56]⟩, ⟨[0, 1, 2, 3, 4, 5, 6, 7, 8], [3], [], [], [], []⟩, ⟨[0, 1, 2, 3, 4, 5, 6, 7, 8, 9], [47, 46], [13], [13], [9005], []⟩] [some 38, some 39, some 40, some 41, some 42, some 43, some 44, some 45, some 46, some 47, none] 49 [(1, .ptr 11 b1 0), (2, .ptr 12 b2 0), (3, .ptr 13 b3 0), (5, .int .i64 x4)] [(11, ((.pointer (some ⟨b1, 0, none⟩)), .optr 30 [.int .i64 a0.kind, .int .i64 a0.num, .str a0.text, .sl true (a0.list.map encVal), .sl false (a0.names.map encS)])), (12, ((.pointer (some ⟨b2, 0, none⟩)), .optr 30 [.int .i64 0, .int .i64 0, .str ([] : Bs), .nil, .nil])), (13, ((.pointer (some ⟨b3, 0, none⟩)), .optr 30 [.int .i64 a0.kind, .int .i64 a0.num, .str a0.text, .hd 5204 w2, .hd 6208 w3])), (5204, (w2, .osl 30 5 (s1.map encOVal))), (6208, (w3, .osl 9 1 (x3.map encS)))] (fun ν1 => [.ptr 13 b3 4, .hd 6208 w3, .ptr 11 b1 4, .sl false (a0.names.map encS), .int .i64 x4, .eptr [.str (ix a0.names x4)], .str (ix a0.names x4), .sl false ([(ix a0.names x4)].map encS), .hd 56 (ν1 56), .ptr 13 b3 4, .und]) (fun ν1 => [(56, ((ν1 56), .osl 9 1 ((x3 ++ [(ix a0.names x4)]).map encS))), (9005, ((.pointer (some ⟨b3, 0, none⟩)), .optr 30 [.int .i64 a0.kind, .int .i64 a0.num, .str a0.text, .hd 5204 w2, .hd 56 (ν1 56)]))]) [(56, [56]), (9005, [56]), (11, []), (12, []), (13, []), (5204, []), (6208, [])] [56, 9005] [some 11, some 12, some 9005, some 5204, some 56] (fun ν1 => [(1, .ptr 11 b1 0), (2, .ptr 12 b2 0), (3, .ptr 13 b3 0), (5, .int .i64 x4)]) (fun ν1 => [(11, ((.pointer (some ⟨b1, 0, none⟩)), .optr 30 [.int .i64 a0.kind, .int .i64 a0.num, .str a0.text, .sl true (a0.list.map encVal), .sl false (a0.names.map encS)])), (12, ((.pointer (some ⟨b2, 0, none⟩)), .optr 30 [.int .i64 0, .int .i64 0, .str ([] : Bs), .nil, .nil])), (13, ((.pointer (some ⟨b3, 0, none⟩)), .optr 30 [.int .i64 a0.kind, .int .i64 a0.num, .str a0.text, .hd 5204 w2, .hd 56 (ν1 56)])), (5204, (w2, .osl 30 5 (s1.map encOVal))), (56, ((ν1 56), .osl 9 1 ((x3 ++ [(ix a0.names x4)]).map encS)))]) (lw [some 11, some 12, some 13, some 5204, some 6208]) (by kernel_rfl) ⟨?_, ⟨?_, ⟨?_, ⟨?_, ⟨?_, ⟨?_, ⟨?_, ⟨?_, ⟨?_, ⟨?_, ⟨?_, trivial⟩⟩⟩⟩⟩⟩⟩⟩⟩⟩⟩ ⟨fun _ _ _ => rfl, ⟨fun _ _ _ => rfl, ⟨fun _ _ _ => rfl, ⟨fun _ _ _ => rfl, ⟨fun _ _ _ => rfl, ⟨fun _ _ _ => rfl, ⟨fun _ _ _ => rfl, ⟨fun _ _ _ => rfl, ⟨fun _ _ h => (congrArg (fun zz0 => (some (.hd 56 zz0) : Option AV)) (h 56 (by decide))), ⟨fun _ _ _ => rfl, ⟨fun _ _ _ => rfl, trivial⟩⟩⟩⟩⟩⟩⟩⟩⟩⟩⟩ ⟨fun _ _ h => (congrArg (fun zz0 => (some (zz0, .osl 9 1 ((x3 ++ [(ix a0.names x4)]).map encS)) : Option (Value × AV))) (h 56 (by decide))), ⟨fun _ _ h => (congrArg (fun zz0 => (some ((.pointer (some ⟨b3, 0, none⟩)), .optr 30 [.int .i64 a0.kind, .int .i64 a0.num, .str a0.text, .hd 5204 w2, .hd 56 zz0]) : Option (Value × AV))) (h 56 (by decide))), ⟨fun _ _ _ => rfl, ⟨fun _ _ _ => rfl, ⟨fun _ _ _ => rfl, ⟨fun _ _ _ => rfl, ⟨fun _ _ _ => rfl, trivial⟩⟩⟩⟩⟩⟩⟩ (fun _ => rfl) (fun _ => rfl) (by kernel_rfl) (fun _ => ⟨⟨_, rfl, .refl _⟩, ⟨⟨_, rfl, .refl _⟩, ⟨⟨_, rfl, .refl _⟩, ⟨⟨_, rfl, .refl _⟩, trivial⟩⟩⟩⟩) (fun _ => ⟨⟨_, rfl, .refl _⟩, ⟨⟨_, rfl, .refl _⟩, ⟨⟨_, rfl, .refl _⟩, ⟨⟨_, rfl, .refl _⟩, ⟨⟨_, rfl, .refl _⟩, trivial⟩⟩⟩⟩⟩) (by kernel_rfl) (by decide) ?_
   ·refine local_mk (fun ν1 => [(3, .ptr 13 b3 0)]) (fun ν1 => []) (fun _ => rfl) (fun _ => ⟨⟨_, rfl, .refl _, .refl _⟩, trivial⟩) (fun _ => rfl) (fun _ => trivial) ?_
    intro ν1 S H hS hfr
    refine st_op rfl (ValOk.op (v_fieldP tabOk rfl tfoff30_4 rfl ?_))
    exact lp_v hS rfl rfl (fun _ => rfl)
   ·refine local_mk (fun ν1 => [(38, .ptr 13 b3 4)]) (fun ν1 => [(13, ((.pointer (some ⟨b3, 0, none⟩)), .optr 30 [.int .i64 a0.kind, .int .i64 a0.num, .str a0.text, .hd 5204 w2, .hd 6208 w3]))]) (fun _ => rfl) (fun _ => ⟨⟨_, rfl, .refl _, .refl _⟩, trivial⟩) (fun _ => rfl) (fun _ => ⟨rfl, trivial⟩) ?_
    intro ν1 S H hS hfr
    refine st_op rfl (ValOk.op (v_loadP tabOk rfl rfl tsize23 tagg23 rfl rfl rfl rfl ?_))
    exact lp_v hS rfl rfl (fun _ => rfl)
   ·refine local_mk (fun ν1 => [(1, .ptr 11 b1 0)]) (fun ν1 => []) (fun _ => rfl) (fun _ => ⟨⟨_, rfl, .refl _, .refl _⟩, trivial⟩) (fun _ => rfl) (fun _ => trivial) ?_
    intro ν1 S H hS hfr
    refine st_op rfl (ValOk.op (v_fieldP tabOk rfl tfoff30_4 rfl ?_))
    exact lp_v hS rfl rfl (fun _ => rfl)
   ·refine local_mk (fun ν1 => [(40, .ptr 11 b1 4)]) (fun ν1 => [(11, ((.pointer (some ⟨b1, 0, none⟩)), .optr 30 [.int .i64 a0.kind, .int .i64 a0.num, .str a0.text, .sl true (a0.list.map encVal), .sl false (a0.names.map encS)]))]) (fun _ => rfl) (fun _ => ⟨⟨_, rfl, .refl _, .refl _⟩, trivial⟩) (fun _ => rfl) (fun _ => ⟨rfl, trivial⟩) ?_
    intro ν1 S H hS hfr
    refine st_op rfl (ValOk.op (v_loadP tabOk rfl rfl tsize23 tagg23 rfl rfl rfl rfl ?_))
    exact lp_v hS rfl rfl (fun _ => rfl)
   ·refine local_mk (fun ν1 => [(5, .int .i64 x4)]) (fun ν1 => []) (fun _ => rfl) (fun _ => ⟨⟨_, rfl, .refl _, .refl _⟩, trivial⟩) (fun _ => rfl) (fun _ => trivial) ?_
    intro ν1 S H hS hfr
    refine st_op rfl (ValOk.op (v_move rfl rfl ?_))
    exact lp_v hS rfl rfl (fun _ => rfl)
   ·refine local_mk (fun ν1 => [(41, .sl false (a0.names.map encS)), (42, .int .i64 x4)]) (fun ν1 => []) (fun _ => rfl) (fun _ => ⟨⟨_, rfl, .refl _, .refl _⟩, ⟨⟨_, rfl, .refl _, .refl _⟩, trivial⟩⟩) (fun _ => rfl) (fun _ => trivial) ?_
    intro ν1 S H hS hfr
    refine st_op rfl (ValOk.op (v_idxM tabOk rfl rfl telem23 tsize9 hb1 rfl rfl rfl ?_))
    exact lp_v hS rfl rfl (fun _ => rfl)
   ·refine local_mk (fun ν1 => [(43, .eptr [.str (ix a0.names x4)])]) (fun ν1 => []) (fun _ => rfl) (fun _ => ⟨⟨_, rfl, .refl _, .refl _⟩, trivial⟩) (fun _ => rfl) (fun _ => trivial) ?_
    intro ν1 S H hS hfr
    refine st_op rfl (ValOk.op (v_loadE tabOk rfl tsize9 tagg9 rfl rfl rfl ?_))
    exact lp_v hS rfl rfl (fun _ => rfl)
   ·refine local_mk (fun ν1 => [(44, .str (ix a0.names x4))]) (fun ν1 => []) (fun _ => rfl) (fun _ => ⟨⟨_, rfl, .refl _, .refl _⟩, trivial⟩) (fun _ => rfl) (fun _ => trivial) ?_
    intro ν1 S H hS hfr
    obtain ⟨kf, hkf⟩ := exists_fresh ([] ++ H)
    refine st_op rfl (o_buildSlice (k := kf) (rows := [(ix a0.names x4)].map encS) tabOk telem23 tsize9 rfl rfl rfl rfl (by decide) (by decide) (by rw [tzero9]; rfl) rfl rfl rfl hkf rfl ?_)
    intro w
    exact lp_fn hS rfl rfl hkf (FrzLL.map fun _ _ => encS_frz _) (fun _ => rfl)
   ·refine local_mk (fun ν1 => [(39, .hd 6208 w3), (45, .sl false ([(ix a0.names x4)].map encS))]) (fun ν1 => [(6208, (w3, .osl 9 1 (x3.map encS)))]) (fun _ => rfl) (fun _ => ⟨⟨_, rfl, .refl _, .refl _⟩, ⟨⟨_, rfl, .refl _, .refl _⟩, trivial⟩⟩) (fun _ => rfl) (fun _ => ⟨rfl, trivial⟩) ?_
    intro ν1 S H hS hfr
    refine st_op rfl (o_appendSM (q := 6208) (k := 56) (f := encS) (l2 := [(ix a0.names x4)]) tabOk ⟨_, rfl⟩ rfl rfl telem23 tsize9 tbytes9 tzero9 rfl (by decide) (by decide) encS_len encS_ok rfl (has_minus (hfr _ (by decide))) rfl hb2 ?_)
    intro w
    exact lp_m (k := 56) hS rfl rfl (.inl rfl) (fun _ => rfl) rfl
   ·refine local_mk (fun ν1 => [(3, .ptr 13 b3 0)]) (fun ν1 => []) (fun _ => rfl) (fun _ => ⟨⟨_, rfl, .refl _, .refl _⟩, trivial⟩) (fun _ => rfl) (fun _ => trivial) ?_
    intro ν1 S H hS hfr
    refine st_op rfl (ValOk.op (v_fieldP tabOk rfl tfoff30_4 rfl ?_))
    exact lp_v hS rfl rfl (fun _ => rfl)
   ·refine local_mk (fun ν1 => [(47, .ptr 13 b3 4), (46, .hd 56 (ν1 56))]) (fun ν1 => [(13, ((.pointer (some ⟨b3, 0, none⟩)), .optr 30 [.int .i64 a0.kind, .int .i64 a0.num, .str a0.text, .hd 5204 w2, .hd 6208 w3]))]) (fun _ => rfl) (fun _ => ⟨⟨_, rfl, .refl _, .refl _⟩, ⟨⟨_, rfl, .refl _, .refl _⟩, trivial⟩⟩) (fun _ => rfl) (fun _ => ⟨rfl, trivial⟩) ?_
    intro ν1 S H hS hfr
    refine st_op rfl (o_storeP tabOk (cs' := [.int .i64 a0.kind, .int .i64 a0.num, .str a0.text, .hd 5204 w2, .hd 56 (ν1 56)]) rfl rfl tsize23 rfl rfl rfl (Nat.le_of_ble_eq_true rfl) rfl rfl rfl ?_)
    exact lp_m (k := 9005) hS rfl rfl (.inr (by decide)) (fun _ => rfl) rfl
   intro ν1
   refine hK10 _ ?_
   refine rg 3 ?_
   refine g_nil ?_
   exact round_mk m1 (x3 ++ [(ix a0.names x4)], IntKind.wrap .i64 (x4 + 1), (ν1 56)) (Nat.lt_succ_self _) ⟨by omega, h⟩ (lw [some 11, some 12, some 13, some 5204, some 56])
  ·replace h := ifF h (dF hc1)
   refine good_exit ?_
   exact hw2 x3 w3 (Option.some.inj h).symm _ (lw [some 12, some 13, some 5204, some 6208])
 replace h := ho1
 refine good_block ?_
 refine good_loopf (fun p : ((List Val) × Int × Value) => ⟨49, [(1, .ptr 11 b1 0), (2, .ptr 12 b2 0), (3, .ptr 13 b3 0), (4, .int .i64 p.2.1)], [(11, ((.pointer (some ⟨b1, 0, none⟩)), .optr 30 [.int .i64 a0.kind, .int .i64 a0.num, .str a0.text, .sl true (a0.list.map encVal), .sl false (a0.names.map encS)])), (12, ((.pointer (some ⟨b2, 0, none⟩)), .optr 30 [.int .i64 0, .int .i64 0, .str ([] : Bs), .nil, .nil])), (13, ((.pointer (some ⟨b3, 0, none⟩)), .optr 30 [.int .i64 a0.kind, .int .i64 a0.num, .str a0.text, .hd 5305 p.2.2, .nil])), (5305, (p.2.2, .osl 30 5 (p.1.map encOVal)))]⟩) (fun m p => m < k + 1 ∧ m_spec_l1Copy_l1 m a0 p.1 p.2.1 = some o1) k ([], 0, nilV) (lw [some 11, some 12, some 13, none]) ⟨by omega, h⟩ ?_
 rintro m2 ⟨x1, x2, w1⟩ ⟨hm, h⟩
 replace h : m_spec_l1Copy_l1 m2 a0 x1 x2 = some o1 := h
 refine Good.le (σ' := ⟨49, [(1, .ptr 11 b1 0), (2, .ptr 12 b2 0), (3, .ptr 13 b3 0), (4, .int .i64 x2)], [(11, ((.pointer (some ⟨b1, 0, none⟩)), .optr 30 [.int .i64 a0.kind, .int .i64 a0.num, .str a0.text, .sl true (a0.list.map encVal), .sl false (a0.names.map encS)])), (12, ((.pointer (some ⟨b2, 0, none⟩)), .optr 30 [.int .i64 0, .int .i64 0, .str ([] : Bs), .nil, .nil])), (13, ((.pointer (some ⟨b3, 0, none⟩)), .optr 30 [.int .i64 a0.kind, .int .i64 a0.num, .str a0.text, .hd 5305 w1, .nil])), (5305, (w1, .osl 30 5 (x1.map encOVal)))]⟩) (Le.refl _) ?_
 obtain ⟨m2, rfl⟩ : ∃ m', m2 = m' + 1 := by cases m2 with | zero => (rw [m_spec_l1Copy_l1] at h; cases h) | succ m' => exact ⟨m', rfl⟩
 rw [m_spec_l1Copy_l1] at h
 refine good_seq fun K11 hK11 => ?_
 refine good_seq fun K12 hK12 => ?_
 refine rg 3 ?_
 refine g_op rfl (ValOk.op (v_lenM (l := a0.list) (f := encVal) tabOk rfl rfl telem28 rfl ?_))
 refine gs 1 ?_
 refine gk hK12 49 [1, 2, 3, 4, 17] [11, 12, 13, 5305] ?_
 refine good_cond rfl (fun hc2 => ?_) (fun hc2 => ?_)
 ·replace h := ifT h (dT hc2)
  refine good_skip ?_
  refine hK11 _ (kp 49 [1, 2, 3, 4] [11, 12, 13, 5305] ?_)
  refine good_seq fun K13 hK13 => ?_
  refine good_block ?_
  obtain ⟨hb3, h⟩ := ifS h
  obtain ⟨y1, hy1, h⟩ := bnd h
  obtain ⟨hb4, h⟩ := ifS h
  refine good_anyM (by kernel_rfl) [⟨[], [3], [], [], [], []⟩, ⟨[0], [20], [13], [], [], []⟩, ⟨[], [1], [], [], [], []⟩, ⟨[2], [22], [11], [], [], []⟩, ⟨[], [4], [], [], [], []⟩, ⟨[2, 3, 4], [23, 24], [], [], [], []⟩, ⟨[2, 3, 4, 5], [25], [], [], [], []⟩, ⟨[2, 3, 4, 5, 6], [26], [], [], [3006, 3007], [3006, 3007]⟩, ⟨[2, 3, 4, 5, 6, 7], [27], [3006, 3007], [3006, 3007], [38], [38]⟩, ⟨[0, 1, 2, 3, 4, 5, 6, 7, 8], [21, 28], [5305, 38], [5305, 38], [39], [39]⟩, ⟨[0, 1, 2, 3, 4, 5, 6, 7, 8, 9], [3], [], [], [], []⟩, ⟨[0, 1, 2, 3, 4, 5, 6, 7, 8, 9, 10], [30, 29], [13], [13], [9008], []⟩] [some 20, some 21, some 22, some 23, some 24, some 25, some 26, some 27, some 28, some 29, some 30, none] 49 [(1, .ptr 11 b1 0), (2, .ptr 12 b2 0), (3, .ptr 13 b3 0), (4, .int .i64 x2)] [(11, ((.pointer (some ⟨b1, 0, none⟩)), .optr 30 [.int .i64 a0.kind, .int .i64 a0.num, .str a0.text, .sl true (a0.list.map encVal), .sl false (a0.names.map encS)])), (12, ((.pointer (some ⟨b2, 0, none⟩)), .optr 30 [.int .i64 0, .int .i64 0, .str ([] : Bs), .nil, .nil])), (13, ((.pointer (some ⟨b3, 0, none⟩)), .optr 30 [.int .i64 a0.kind, .int .i64 a0.num, .str a0.text, .hd 5305 w1, .nil])), (5305, (w1, .osl 30 5 (x1.map encOVal)))] (fun ν2 => [.ptr 13 b3 3, .hd 5305 w1, .ptr 11 b1 3, .sl true (a0.list.map encVal), .int .i64 x2, .eptr [.int .i64 ((ix a0.list x2).kind), .int .i64 ((ix a0.list x2).num), .str ((ix a0.list x2).text), .sl true (((ix a0.list x2).list).map encVal), .sl false (((ix a0.list x2).names).map encS)], .agg [.int .i64 ((ix a0.list x2).kind), .int .i64 ((ix a0.list x2).num), .str ((ix a0.list x2).text), .sl true (((ix a0.list x2).list).map encVal), .sl false (((ix a0.list x2).names).map encS)], .agg [.int .i64 y1.kind, .int .i64 y1.num, .str y1.text, .hd 3006 (ν2 3006), .hd 3007 (ν2 3007)], .hd 38 (ν2 38), .hd 39 (ν2 39), .ptr 13 b3 3, .und]) (fun ν2 => [(3006, ((ν2 3006), .osl 30 5 (y1.list.map encOVal))), (3007, ((ν2 3007), .osl 9 1 (y1.names.map encS))), (38, ((ν2 38), .osl 30 5 ([y1].map encOVal))), (39, ((ν2 39), .osl 30 5 ((x1 ++ [y1]).map encOVal))), (9008, ((.pointer (some ⟨b3, 0, none⟩)), .optr 30 [.int .i64 a0.kind, .int .i64 a0.num, .str a0.text, .hd 39 (ν2 39), .nil]))]) [(3006, [3006]), (3007, [3007]), (38, [38]), (39, [39]), (9008, [39]), (11, []), (12, []), (13, []), (5305, [])] [3006, 3007, 38, 39, 9008] [some 11, some 12, some 9008, some 39] (fun ν2 => [(1, .ptr 11 b1 0), (2, .ptr 12 b2 0), (3, .ptr 13 b3 0), (4, .int .i64 x2)]) (fun ν2 => [(11, ((.pointer (some ⟨b1, 0, none⟩)), .optr 30 [.int .i64 a0.kind, .int .i64 a0.num, .str a0.text, .sl true (a0.list.map encVal), .sl false (a0.names.map encS)])), (12, ((.pointer (some ⟨b2, 0, none⟩)), .optr 30 [.int .i64 0, .int .i64 0, .str ([] : Bs), .nil, .nil])), (13, ((.pointer (some ⟨b3, 0, none⟩)), .optr 30 [.int .i64 a0.kind, .int .i64 a0.num, .str a0.text, .hd 39 (ν2 39), .nil])), (39, ((ν2 39), .osl 30 5 ((x1 ++ [y1]).map encOVal)))]) (lw [some 11, some 12, some 13, some 5305]) (by kernel_rfl) ⟨?_, ⟨?_, ⟨?_, ⟨?_, ⟨?_, ⟨?_, ⟨?_, ⟨?_, ⟨?_, ⟨?_, ⟨?_, ⟨?_, trivial⟩⟩⟩⟩⟩⟩⟩⟩⟩⟩⟩⟩ ⟨fun _ _ _ => rfl, ⟨fun _ _ _ => rfl, ⟨fun _ _ _ => rfl, ⟨fun _ _ _ => rfl, ⟨fun _ _ _ => rfl, ⟨fun _ _ _ => rfl, ⟨fun _ _ _ => rfl, ⟨fun _ _ h => (cong2 (fun zz0 zz1 => (some (.agg [.int .i64 y1.kind, .int .i64 y1.num, .str y1.text, .hd 3006 zz0, .hd 3007 zz1]) : Option AV)) (h 3006 (by decide)) (h 3007 (by decide))), ⟨fun _ _ h => (congrArg (fun zz0 => (some (.hd 38 zz0) : Option AV)) (h 38 (by decide))), ⟨fun _ _ h => (congrArg (fun zz0 => (some (.hd 39 zz0) : Option AV)) (h 39 (by decide))), ⟨fun _ _ _ => rfl, ⟨fun _ _ _ => rfl, trivial⟩⟩⟩⟩⟩⟩⟩⟩⟩⟩⟩⟩ ⟨fun _ _ h => (congrArg (fun zz0 => (some (zz0, .osl 30 5 (y1.list.map encOVal)) : Option (Value × AV))) (h 3006 (by decide))), ⟨fun _ _ h => (congrArg (fun zz0 => (some (zz0, .osl 9 1 (y1.names.map encS)) : Option (Value × AV))) (h 3007 (by decide))), ⟨fun _ _ h => (congrArg (fun zz0 => (some (zz0, .osl 30 5 ([y1].map encOVal)) : Option (Value × AV))) (h 38 (by decide))), ⟨fun _ _ h => (congrArg (fun zz0 => (some (zz0, .osl 30 5 ((x1 ++ [y1]).map encOVal)) : Option (Value × AV))) (h 39 (by decide))), ⟨fun _ _ h => (congrArg (fun zz0 => (some ((.pointer (some ⟨b3, 0, none⟩)), .optr 30 [.int .i64 a0.kind, .int .i64 a0.num, .str a0.text, .hd 39 zz0, .nil]) : Option (Value × AV))) (h 39 (by decide))), ⟨fun _ _ _ => rfl, ⟨fun _ _ _ => rfl, ⟨fun _ _ _ => rfl, ⟨fun _ _ _ => rfl, trivial⟩⟩⟩⟩⟩⟩⟩⟩⟩ (fun _ => rfl) (fun _ => rfl) (by kernel_rfl) (fun _ => ⟨⟨_, rfl, .refl _⟩, ⟨⟨_, rfl, .refl _⟩, ⟨⟨_, rfl, .refl _⟩, ⟨⟨_, rfl, .refl _⟩, trivial⟩⟩⟩⟩) (fun _ => ⟨⟨_, rfl, .refl _⟩, ⟨⟨_, rfl, .refl _⟩, ⟨⟨_, rfl, .refl _⟩, ⟨⟨_, rfl, .refl _⟩, trivial⟩⟩⟩⟩) (by kernel_rfl) (by decide) ?_
  ·refine local_mk (fun ν2 => [(3, .ptr 13 b3 0)]) (fun ν2 => []) (fun _ => rfl) (fun _ => ⟨⟨_, rfl, .refl _, .refl _⟩, trivial⟩) (fun _ => rfl) (fun _ => trivial) ?_
   intro ν2 S H hS hfr
   refine st_op rfl (ValOk.op (v_fieldP tabOk rfl tfoff30_3 rfl ?_))
   exact lp_v hS rfl rfl (fun _ => rfl)
  ·refine local_mk (fun ν2 => [(20, .ptr 13 b3 3)]) (fun ν2 => [(13, ((.pointer (some ⟨b3, 0, none⟩)), .optr 30 [.int .i64 a0.kind, .int .i64 a0.num, .str a0.text, .hd 5305 w1, .nil]))]) (fun _ => rfl) (fun _ => ⟨⟨_, rfl, .refl _, .refl _⟩, trivial⟩) (fun _ => rfl) (fun _ => ⟨rfl, trivial⟩) ?_
   intro ν2 S H hS hfr
   refine st_op rfl (ValOk.op (v_loadP tabOk rfl rfl tsize28 tagg28 rfl rfl rfl rfl ?_))
   exact lp_v hS rfl rfl (fun _ => rfl)
  ·refine local_mk (fun ν2 => [(1, .ptr 11 b1 0)]) (fun ν2 => []) (fun _ => rfl) (fun _ => ⟨⟨_, rfl, .refl _, .refl _⟩, trivial⟩) (fun _ => rfl) (fun _ => trivial) ?_
   intro ν2 S H hS hfr
   refine st_op rfl (ValOk.op (v_fieldP tabOk rfl tfoff30_3 rfl ?_))
   exact lp_v hS rfl rfl (fun _ => rfl)
  ·refine local_mk (fun ν2 => [(22, .ptr 11 b1 3)]) (fun ν2 => [(11, ((.pointer (some ⟨b1, 0, none⟩)), .optr 30 [.int .i64 a0.kind, .int .i64 a0.num, .str a0.text, .sl true (a0.list.map encVal), .sl false (a0.names.map encS)]))]) (fun _ => rfl) (fun _ => ⟨⟨_, rfl, .refl _, .refl _⟩, trivial⟩) (fun _ => rfl) (fun _ => ⟨rfl, trivial⟩) ?_
   intro ν2 S H hS hfr
   refine st_op rfl (ValOk.op (v_loadP tabOk rfl rfl tsize28 tagg28 rfl rfl rfl rfl ?_))
   exact lp_v hS rfl rfl (fun _ => rfl)
  ·refine local_mk (fun ν2 => [(4, .int .i64 x2)]) (fun ν2 => []) (fun _ => rfl) (fun _ => ⟨⟨_, rfl, .refl _, .refl _⟩, trivial⟩) (fun _ => rfl) (fun _ => trivial) ?_
   intro ν2 S H hS hfr
   refine st_op rfl (ValOk.op (v_move rfl rfl ?_))
   exact lp_v hS rfl rfl (fun _ => rfl)
  ·refine local_mk (fun ν2 => [(23, .sl true (a0.list.map encVal)), (24, .int .i64 x2)]) (fun ν2 => []) (fun _ => rfl) (fun _ => ⟨⟨_, rfl, .refl _, .refl _⟩, ⟨⟨_, rfl, .refl _, .refl _⟩, trivial⟩⟩) (fun _ => rfl) (fun _ => trivial) ?_
   intro ν2 S H hS hfr
   refine st_op rfl (ValOk.op (v_idxM tabOk rfl rfl telem28 tsize30 hb3 (encVal_eq _) rfl rfl ?_))
   exact lp_v hS rfl rfl (fun _ => rfl)
  ·refine local_mk (fun ν2 => [(25, .eptr [.int .i64 ((ix a0.list x2).kind), .int .i64 ((ix a0.list x2).num), .str ((ix a0.list x2).text), .sl true (((ix a0.list x2).list).map encVal), .sl false (((ix a0.list x2).names).map encS)])]) (fun ν2 => []) (fun _ => rfl) (fun _ => ⟨⟨_, rfl, .refl _, .refl _⟩, trivial⟩) (fun _ => rfl) (fun _ => trivial) ?_
   intro ν2 S H hS hfr
   refine st_op rfl (ValOk.op (v_loadE tabOk rfl tsize30 tagg30 rfl rfl rfl ?_))
   exact lp_v hS rfl rfl (fun _ => rfl)
  ·refine local_mk (fun ν2 => [(26, .agg [.int .i64 ((ix a0.list x2).kind), .int .i64 ((ix a0.list x2).num), .str ((ix a0.list x2).text), .sl true (((ix a0.list x2).list).map encVal), .sl false (((ix a0.list x2).names).map encS)])]) (fun ν2 => []) (fun _ => rfl) (fun _ => ⟨⟨_, rfl, .refl _, .refl _⟩, trivial⟩) (fun _ => rfl) (fun _ => trivial) ?_
   intro ν2 S H hS hfr
   refine st_op rfl (o_callDa [] [] [] (core_value rfl rfl) ((ih m2 (by omega)) (ix a0.list x2) _ hy1) trivial (.cons (.refl _) (.nil)) trivial rfl rfl rfl ?_)
   rintro _ _ ⟨w5, w6, rfl, rfl⟩
   refine ⟨.agg [.int .i64 y1.kind, .int .i64 y1.num, .str y1.text, .hd 3006 w5, .hd 3007 w6], [(3006, _), (3007, _)], .agg (.cons (.refl _) (.cons (.refl _) (.cons (.refl _) (.cons (.hd _ _ _) (.cons (.hd _ _ _) (.nil)))))), rfl, rfl, rfl, (fun x hx => has_minus (hfr x hx)), .inl rfl, ?_⟩
   exact lp_mm (hN := [(3006, _), (3007, _)]) hS rfl rfl (fun _ => rfl) ⟨rfl, ⟨rfl, trivial⟩⟩
  ·refine local_mk (fun ν2 => [(27, .agg [.int .i64 y1.kind, .int .i64 y1.num, .str y1.text, .hd 3006 (ν2 3006), .hd 3007 (ν2 3007)])]) (fun ν2 => [(3006, ((ν2 3006), .osl 30 5 (y1.list.map encOVal))), (3007, ((ν2 3007), .osl 9 1 (y1.names.map encS)))]) (fun _ => rfl) (fun _ => ⟨⟨_, rfl, .refl _, .refl _⟩, trivial⟩) (fun _ => rfl) (fun _ => ⟨rfl, ⟨rfl, trivial⟩⟩) ?_
   intro ν2 S H hS hfr
   refine st_op rfl (OpOk.le (o_buildSlice (k := 38) (rows := [[.int .i64 y1.kind, .int .i64 y1.num, .str y1.text, .hd 3006 (ν2 3006), .hd 3007 (ν2 3007)]]) tabOk telem28 tsize30 rfl rfl rfl rfl (by decide) (by decide) (by rw [tzero30]; rfl) rfl rfl rfl (hfr _ (by decide)) rfl ?_))
   intro w
   refine ⟨_, (Le.trans (Le.trans (Le.trans (le_absorb1 (k := 38) (k2 := 3006) 0 3 _ rfl (by decide) rfl rfl rfl) (le_absorb1 (k := 38) (k2 := 3007) (rows' := [y1].map encOVal) 0 4 _ rfl (by decide) rfl rfl (cons_eq (encOVal_eq _) rfl))) (le_mm (rs := [3006, 3007]) rfl)) (le_mm0 (rs := [3006, 3007]) rfl)), ?_⟩
   exact lp_m (k := 38) hS rfl rfl (.inl rfl) (fun _ => rfl) rfl
  ·refine local_mk (fun ν2 => [(21, .hd 5305 w1), (28, .hd 38 (ν2 38))]) (fun ν2 => [(5305, (w1, .osl 30 5 (x1.map encOVal))), (38, ((ν2 38), .osl 30 5 ([y1].map encOVal)))]) (fun _ => rfl) (fun _ => ⟨⟨_, rfl, .refl _, .refl _⟩, ⟨⟨_, rfl, .refl _, .refl _⟩, trivial⟩⟩) (fun _ => rfl) (fun _ => ⟨rfl, ⟨rfl, trivial⟩⟩) ?_
   intro ν2 S H hS hfr
   refine st_op rfl (o_appendHM (q := 5305) (r := 38) (k := 39) (f := encOVal) tabOk ⟨_, rfl⟩ rfl ⟨_, rfl⟩ rfl rfl telem28 tsize30 tbytes30 tzero30 rfl (by decide) (by decide) encOVal_ok rfl (has_minus (hfr _ (by decide))) rfl hb4 ?_)
   intro w
   exact lp_m (k := 39) hS rfl rfl (.inl rfl) (fun _ => rfl) rfl
  ·refine local_mk (fun ν2 => [(3, .ptr 13 b3 0)]) (fun ν2 => []) (fun _ => rfl) (fun _ => ⟨⟨_, rfl, .refl _, .refl _⟩, trivial⟩) (fun _ => rfl) (fun _ => trivial) ?_
   intro ν2 S H hS hfr
   refine st_op rfl (ValOk.op (v_fieldP tabOk rfl tfoff30_3 rfl ?_))
   exact lp_v hS rfl rfl (fun _ => rfl)
  ·refine local_mk (fun ν2 => [(30, .ptr 13 b3 3), (29, .hd 39 (ν2 39))]) (fun ν2 => [(13, ((.pointer (some ⟨b3, 0, none⟩)), .optr 30 [.int .i64 a0.kind, .int .i64 a0.num, .str a0.text, .hd 5305 w1, .nil]))]) (fun _ => rfl) (fun _ => ⟨⟨_, rfl, .refl _, .refl _⟩, ⟨⟨_, rfl, .refl _, .refl _⟩, trivial⟩⟩) (fun _ => rfl) (fun _ => ⟨rfl, trivial⟩) ?_
   intro ν2 S H hS hfr
   refine st_op rfl (o_storeP tabOk (cs' := [.int .i64 a0.kind, .int .i64 a0.num, .str a0.text, .hd 39 (ν2 39), .nil]) rfl rfl tsize28 rfl rfl rfl (Nat.le_of_ble_eq_true rfl) rfl rfl rfl ?_)
   exact lp_m (k := 9008) hS rfl rfl (.inr (by decide)) (fun _ => rfl) rfl
  intro ν2
  refine hK13 _ ?_
  refine rg 3 ?_
  refine g_nil ?_
  exact round_mk m2 (x1 ++ [y1], IntKind.wrap .i64 (x2 + 1), (ν2 39)) (Nat.lt_succ_self _) ⟨by omega, h⟩ (lw [some 11, some 12, some 13, some 39])
 ·replace h := ifF h (dF hc2)
  refine good_exit ?_
  exact hw1 x1 w1 (Option.some.inj h).symm _ (lw [some 11, some 12, some 13, some 5305])
theorem m_spec_l1Copy_all (k : Nat) : P_m_spec_l1Copy k := by
 induction k using Nat.strongRecOn with
 | _ k ih => exact m_spec_l1Copy_step k ih
theorem m_spec_l1Copy_ok (k : Nat) : ∀ (a0 : Val) (r : Val), m_spec_l1Copy k a0 = some r → Does Try.prog 54 [.agg [.int .i64 a0.kind, .int .i64 a0.num, .str a0.text, .sl true (a0.list.map encVal), .sl false (a0.names.map encS)]] [] (fun q h' => ∃ u0 : Value, ∃ u1 : Value, q = .agg [.int .i64 r.kind, .int .i64 r.num, .str r.text, .hd 100 u0, .hd 101 u1] ∧ h' = [(100, (u0, .osl 30 5 (r.list.map encOVal))), (101, (u1, .osl 9 1 (r.names.map encS)))]) := (m_spec_l1Copy_all k)
theorem m_spec_l1Copy_okF (k : Nat) : ∀ (a0 : Val) (r : Val), m_spec_l1Copy k a0 = some r → Does Try.prog 54 [.agg [.int .i64 a0.kind, .int .i64 a0.num, .str a0.text, .sl true (a0.list.map encVal), .sl false (a0.names.map encS)]] [] (ret (.agg [.int .i64 r.kind, .int .i64 r.num, .str r.text, .sl true (r.list.map encVal), .sl false (r.names.map encS)])) := by
 intro a0 r h
 refine does_frz (m_spec_l1Copy_ok k a0 r h) ?_
 rintro q h' ⟨u0, u1, rfl, rfl⟩
 exact ⟨[100, 101], [(_, _), (_, _)], ⟨⟨_, rfl, .osl (FrzLL.map fun _ _ => encOVal_frz _)⟩, ⟨⟨_, rfl, .osl (FrzLL.map fun _ _ => encS_frz _)⟩, trivial⟩⟩, .agg (.cons (.refl _) (.cons (.refl _) (.cons (.refl _) (.cons (.frz _ _ _ (.head _)) (.cons (.frz _ _ _ (.tail _ (.head _))) (.nil))))))⟩
def m_spec_TreeGet (k : Nat) (a0 : Val) (a1 : Bs) : Option (Val × Bool) :=
 (m_spec_ValueOk k a0).bind fun y1 =>
 if y1 = true then
  (m_spec_l1Tree k a0 a1).bind fun y2 =>
  (m_spec_l1Copy k y2.1).bind fun y3 =>
  some (y3, y2.2)
 else
  some ((Val.mk 0 0 ([] : Bs) ([] : List Val) ([] : List Bs)), false)
theorem m_spec_TreeGet_ok (k : Nat) : ∀ (a0 : Val) (a1 : Bs) (r : (Val × Bool)), m_spec_TreeGet k a0 a1 = some r → Does Try.prog 22 [.agg [.int .i64 a0.kind, .int .i64 a0.num, .str a0.text, .sl true (a0.list.map encVal), .sl false (a0.names.map encS)], .str a1] [] (fun q h' => ∃ u0 : Value, ∃ u1 : Value, q = .tup [.agg [.int .i64 r.1.kind, .int .i64 r.1.num, .str r.1.text, .hd 100 u0, .hd 101 u1], .bool r.2] ∧ h' = [(100, (u0, .osl 30 5 (r.1.list.map encOVal))), (101, (u1, .osl 9 1 (r.1.names.map encS)))]) := by
 intro a0 a1 r h
 rw [m_spec_TreeGet] at h
 refine does_of_good tabOk Try.func22 rfl (by decide +kernel) (Nat.le_of_ble_eq_true rfl) fun c => ?_
 refine Good.le (σ' := ⟨21, [(0, .agg [.int .i64 a0.kind, .int .i64 a0.num, .str a0.text, .sl true (a0.list.map encVal), .sl false (a0.names.map encS)]), (1, .str a1)], []⟩) (Le.refl _) ?_
 refine good_seq fun K1 hK1 => ?_
 refine good_region ?_
 refine g_op rfl (o_box (k := 12) tabOk rfl rfl rfl rfl rfl ?_)
 intro b1
 refine g_op rfl (o_alloc (k := 14) tabOk tzero30 rfl rfl ?_)
 intro b2
 refine gs 1 ?_
 refine gk hK1 21 [1, 2, 4, 5] [12, 14] ?_
 refine good_seq fun K2 hK2 => ?_
 refine good_seq fun K3 hK3 => ?_
 refine rg 1 ?_
 obtain ⟨y1, hy1, h⟩ := bnd h
 refine g_op rfl (o_callR [] [] (core_value rfl rfl) (m_spec_ValueOk_ok k a0 _ hy1) trivial (.cons (.refl _) (.nil)) (.inl rfl) rfl ?_)
 refine gs 1 ?_
 refine gk hK3 21 [1, 2, 4, 5, 10] [12, 14] ?_
 refine good_cond rfl (fun hc1 => ?_) (fun hc1 => ?_)
 ·replace h := bF h (nT hc1)
  refine good_seq fun K4 hK4 => ?_
  refine good_region ?_
  refine g_op rfl (ValOk.op (v_build tabOk (cs := [.int .i64 0, .int .i64 0, .str ([] : Bs), .nil, .nil]) tzero30 tsok30 rfl rfl rfl ?_))
  refine g_op rfl (o_storeP tabOk (cs' := [.int .i64 0, .int .i64 0, .str ([] : Bs), .nil, .nil]) rfl rfl tsize30 rfl rfl rfl (Nat.le_of_ble_eq_true rfl) rfl rfl rfl ?_)
  refine gs 1 ?_
  refine gk hK4 21 [1, 2, 4, 5] [12, 14] ?_
  refine Good.le (σ' := ⟨21, [(4, .ptr 14 b2 0), (5, .bool false)], [(100, (nilV, .osl 30 5 (([] : List Val).map encOVal))), (101, (nilV, .osl 9 1 (([] : List Bs).map encS))), (14, ((.pointer (some ⟨b2, 0, none⟩)), .optr 30 [.int .i64 0, .int .i64 0, .str ([] : Bs), .hd 100 nilV, .hd 101 nilV]))]⟩) (lw [none, none, some 14]) ?_
  refine good_ret ?_
  obtain rfl := Option.some.inj h
  refine thenQ_ret ?_
  exact endQ_ret (h' := [(100, (_, _)), (101, (_, _))]) [some 100, some 101] (.cell rfl rfl tsize30 tagg30 rfl rfl rfl (.tmp rfl (.nil))) ⟨⟨_, rfl, .refl _⟩, ⟨⟨_, rfl, .refl _⟩, trivial⟩⟩ (by decide) ⟨nilV, nilV, rfl, rfl⟩
 ·replace h := ifT h (nF hc1)
  refine good_skip ?_
  refine hK2 _ (kp 21 [1, 2, 4, 5] [12, 14] ?_)
  refine good_seq fun K5 hK5 => ?_
  refine rg 2 ?_
  obtain ⟨y2, hy2, h⟩ := bnd h
  refine g_op rfl (o_callR [] [] (core_value rfl rfl) (m_spec_l1Tree_ok k a0 a1 _ hy2) trivial (.cons (.refl _) (.cons (.refl _) (.nil))) (.inl rfl) rfl ?_)
  refine gs 3 ?_
  refine g_op rfl (o_alloc (k := 16) tabOk tzero30 rfl rfl ?_)
  intro b3
  refine g_op rfl (o_storeP tabOk (cs' := [.int .i64 y2.1.kind, .int .i64 y2.1.num, .str y2.1.text, .sl true (y2.1.list.map encVal), .sl false (y2.1.names.map encS)]) rfl rfl tsize30 rfl rfl rfl (Nat.le_of_ble_eq_true rfl) rfl rfl rfl ?_)
  refine gs 1 ?_
  refine gk hK5 21 [4, 5, 6, 7] [14, 16] ?_
  refine good_seq fun K6 hK6 => ?_
  refine rg 1 ?_
  obtain ⟨y3, hy3, h⟩ := bnd h
  refine g_op rfl (o_callD [] [] [] (core_value rfl rfl) (m_spec_l1Copy_ok k y2.1 _ hy3) trivial (.cons (.refl _) (.nil)) trivial rfl rfl rfl ?_)
  rintro _ _ ⟨w1, w2, rfl, rfl⟩
  refine ⟨.agg [.int .i64 y3.kind, .int .i64 y3.num, .str y3.text, .hd 3001 w1, .hd 3002 w2], [(3001, _), (3002, _)], .agg (.cons (.refl _) (.cons (.refl _) (.cons (.refl _) (.cons (.hd _ _ _) (.cons (.hd _ _ _) (.nil)))))), rfl, rfl, rfl, rfl, .inl rfl, ?_⟩
  refine gs 1 ?_
  refine g_op rfl (o_storeP tabOk (cs' := [.int .i64 y3.kind, .int .i64 y3.num, .str y3.text, .hd 3001 w1, .hd 3002 w2]) rfl rfl tsize30 rfl rfl rfl (Nat.le_of_ble_eq_true rfl) rfl rfl rfl ?_)
  refine gs 1 ?_
  refine gk hK6 21 [4, 5] [14, 3001, 3002] ?_
  refine Good.le (σ' := ⟨21, [(4, .ptr 14 b2 0), (5, .bool y2.2)], [(100, (w1, .osl 30 5 (y3.list.map encOVal))), (101, (w2, .osl 9 1 (y3.names.map encS))), (14, ((.pointer (some ⟨b2, 0, none⟩)), .optr 30 [.int .i64 y3.kind, .int .i64 y3.num, .str y3.text, .hd 100 w1, .hd 101 w2]))]⟩) (lw [some 3001, some 3002, some 14]) ?_
  refine good_ret ?_
  obtain rfl := Option.some.inj h
  exact endQ_ret (h' := [(100, (_, _)), (101, (_, _))]) [some 100, some 101] (.cell rfl rfl tsize30 tagg30 rfl rfl rfl (.tmp rfl (.nil))) ⟨⟨_, rfl, .refl _⟩, ⟨⟨_, rfl, .refl _⟩, trivial⟩⟩ (by decide) ⟨w1, w2, rfl, rfl⟩
theorem m_spec_TreeGet_okF (k : Nat) : ∀ (a0 : Val) (a1 : Bs) (r : (Val × Bool)), m_spec_TreeGet k a0 a1 = some r → Does Try.prog 22 [.agg [.int .i64 a0.kind, .int .i64 a0.num, .str a0.text, .sl true (a0.list.map encVal), .sl false (a0.names.map encS)], .str a1] [] (ret (.tup [.agg [.int .i64 r.1.kind, .int .i64 r.1.num, .str r.1.text, .sl true (r.1.list.map encVal), .sl false (r.1.names.map encS)], .bool r.2])) := by
 intro a0 a1 r h
 refine does_frz (m_spec_TreeGet_ok k a0 a1 r h) ?_
 rintro q h' ⟨u0, u1, rfl, rfl⟩
 exact ⟨[100, 101], [(_, _), (_, _)], ⟨⟨_, rfl, .osl (FrzLL.map fun _ _ => encOVal_frz _)⟩, ⟨⟨_, rfl, .osl (FrzLL.map fun _ _ => encS_frz _)⟩, trivial⟩⟩, .tup (.cons (.agg (.cons (.refl _) (.cons (.refl _) (.cons (.refl _) (.cons (.frz _ _ _ (.head _)) (.cons (.frz _ _ _ (.tail _ (.head _))) (.nil))))))) (.cons (.refl _) (.nil)))⟩
def m_impl_copyValue (k : Nat) (a0 : Val) : Option Val :=
 (m_impl_copyWithin k a0 ([] : List (List Val))).bind fun y1 =>
 some y1
theorem m_impl_copyValue_ok (k : Nat) : ∀ (a0 : Val) (r : Val), m_impl_copyValue k a0 = some r → Does Try.prog 56 [.agg [.int .i64 a0.kind, .int .i64 a0.num, .str a0.text, .sl true (a0.list.map encVal), .sl false (a0.names.map encS)]] [] (fun q h' => ∃ u0 : Value, ∃ u1 : Value, q = .agg [.int .i64 r.kind, .int .i64 r.num, .str r.text, .hd 100 u0, .hd 101 u1] ∧ h' = [(100, (u0, .osl 30 5 (r.list.map encOVal))), (101, (u1, .osl 9 1 (r.names.map encS)))]) := by
 intro a0 r h
 rw [m_impl_copyValue] at h
 refine does_of_good tabOk Try.func56 rfl (by decide +kernel) (Nat.le_of_ble_eq_true rfl) fun c => ?_
 refine Good.le (σ' := ⟨5, [(0, .agg [.int .i64 a0.kind, .int .i64 a0.num, .str a0.text, .sl true (a0.list.map encVal), .sl false (a0.names.map encS)])], []⟩) (Le.refl _) ?_
 refine good_seq fun K1 hK1 => ?_
 refine good_region ?_
 refine g_op rfl (o_box (k := 11) tabOk rfl rfl rfl rfl rfl ?_)
 intro b1
 refine g_op rfl (o_alloc (k := 12) tabOk tzero30 rfl rfl ?_)
 intro b2
 refine gk hK1 5 [1, 2] [11, 12] ?_
 refine good_seq fun K2 hK2 => ?_
 refine rg 1 ?_
 obtain ⟨y1, hy1, h⟩ := bnd h
 refine g_op rfl (o_callD [] [] [] (core_value rfl rfl) (m_impl_copyWithin_ok k a0 ([] : List (List Val)) _ hy1) trivial (.cons (.refl _) (.cons (.refl _) (.nil))) trivial rfl rfl rfl ?_)
 rintro _ _ ⟨w1, w2, rfl, rfl⟩
 refine ⟨.agg [.int .i64 y1.kind, .int .i64 y1.num, .str y1.text, .hd 3001 w1, .hd 3002 w2], [(3001, _), (3002, _)], .agg (.cons (.refl _) (.cons (.refl _) (.cons (.refl _) (.cons (.hd _ _ _) (.cons (.hd _ _ _) (.nil)))))), rfl, rfl, rfl, rfl, .inl rfl, ?_⟩
 refine g_op rfl (o_storeP tabOk (cs' := [.int .i64 y1.kind, .int .i64 y1.num, .str y1.text, .hd 3001 w1, .hd 3002 w2]) rfl rfl tsize30 rfl rfl rfl (Nat.le_of_ble_eq_true rfl) rfl rfl rfl ?_)
 refine gk hK2 5 [2] [12, 3001, 3002] ?_
 refine Good.le (σ' := ⟨5, [(2, .ptr 12 b2 0)], [(100, (w1, .osl 30 5 (y1.list.map encOVal))), (101, (w2, .osl 9 1 (y1.names.map encS))), (12, ((.pointer (some ⟨b2, 0, none⟩)), .optr 30 [.int .i64 y1.kind, .int .i64 y1.num, .str y1.text, .hd 100 w1, .hd 101 w2]))]⟩) (lw [some 3001, some 3002, some 12]) ?_
 refine good_ret ?_
 obtain rfl := Option.some.inj h
 exact endQ_ret (h' := [(100, (_, _)), (101, (_, _))]) [some 100, some 101] (.cell rfl rfl tsize30 tagg30 rfl rfl rfl (.nil)) ⟨⟨_, rfl, .refl _⟩, ⟨⟨_, rfl, .refl _⟩, trivial⟩⟩ (by decide) ⟨w1, w2, rfl, rfl⟩
theorem m_impl_copyValue_okF (k : Nat) : ∀ (a0 : Val) (r : Val), m_impl_copyValue k a0 = some r → Does Try.prog 56 [.agg [.int .i64 a0.kind, .int .i64 a0.num, .str a0.text, .sl true (a0.list.map encVal), .sl false (a0.names.map encS)]] [] (ret (.agg [.int .i64 r.kind, .int .i64 r.num, .str r.text, .sl true (r.list.map encVal), .sl false (r.names.map encS)])) := by
 intro a0 r h
 refine does_frz (m_impl_copyValue_ok k a0 r h) ?_
 rintro q h' ⟨u0, u1, rfl, rfl⟩
 exact ⟨[100, 101], [(_, _), (_, _)], ⟨⟨_, rfl, .osl (FrzLL.map fun _ _ => encOVal_frz _)⟩, ⟨⟨_, rfl, .osl (FrzLL.map fun _ _ => encS_frz _)⟩, trivial⟩⟩, .agg (.cons (.refl _) (.cons (.refl _) (.cons (.refl _) (.cons (.frz _ _ _ (.head _)) (.cons (.frz _ _ _ (.tail _ (.head _))) (.nil))))))⟩
def m_impl_placeOf (k : Nat) (a0 : (List Bs)) (a1 : Bs) : Option Int :=
 (m_slices_Index_string_string k a0 a1).bind fun y1 =>
 some y1
theorem m_impl_placeOf_ok (k : Nat) : ∀ (a0 : (List Bs)) (a1 : Bs) (r : Int), m_impl_placeOf k a0 a1 = some r → Does Try.prog 55 [.sl false (a0.map encS), .str a1] [] (ret (.int .i64 r)) := by
 intro a0 a1 r h
 rw [m_impl_placeOf] at h
 refine does_of_good tabOk Try.func55 rfl (by decide +kernel) (Nat.le_of_ble_eq_true rfl) fun c => ?_
 refine Good.le (σ' := ⟨8, [(0, .sl false (a0.map encS)), (1, .str a1)], []⟩) (Le.refl _) ?_
 refine good_seq fun K1 hK1 => ?_
 refine rg 1 ?_
 refine g_nil (hK1 _ ?_)
 refine good_seq fun K2 hK2 => ?_
 refine rg 2 ?_
 obtain ⟨y1, hy1, h⟩ := bnd h
 refine g_op rfl (o_callR [] [] (core_value rfl rfl) (m_slices_Index_string_string_ok k a0 a1 _ hy1) trivial (.cons (.refl _) (.cons (.refl _) (.nil))) (.inl rfl) rfl ?_)
 refine gs 1 ?_
 refine gk hK2 8 [4] [] ?_
 obtain rfl := Option.some.inj h
 exact rt
def m_impl_TreeGet (k : Nat) (a0 : Val) (a1 : Bs) : Option (Val × Bool) :=
 ((m_impl_ValueOk k a0).bind fun y3 =>
  if y3 = true then
   some (Lp.go (!(decide (a0.kind = 5))))
  else
   some (Lp.go true)).bind fun o1 =>
 o1.then fun s1 =>
  if s1 = true then
   some ((Val.mk 0 0 ([] : Bs) ([] : List Val) ([] : List Bs)), false)
  else
   (m_impl_placeOf k a0.names a1).bind fun y1 =>
   if y1 < 0 then
    some ((Val.mk 0 0 ([] : Bs) ([] : List Val) ([] : List Bs)), false)
   else
    if (0 : Int) ≤ y1 ∧ y1 < (a0.list.length : Int) then
     (m_impl_copyValue k (ix a0.list y1)).bind fun y2 =>
     some (y2, true)
    else none
theorem m_impl_TreeGet_ok (k : Nat) : ∀ (a0 : Val) (a1 : Bs) (r : (Val × Bool)), m_impl_TreeGet k a0 a1 = some r → Does Try.prog 23 [.agg [.int .i64 a0.kind, .int .i64 a0.num, .str a0.text, .sl true (a0.list.map encVal), .sl false (a0.names.map encS)], .str a1] [] (fun q h' => ∃ u0 : Value, ∃ u1 : Value, q = .tup [.agg [.int .i64 r.1.kind, .int .i64 r.1.num, .str r.1.text, .hd 100 u0, .hd 101 u1], .bool r.2] ∧ h' = [(100, (u0, .osl 30 5 (r.1.list.map encOVal))), (101, (u1, .osl 9 1 (r.1.names.map encS)))]) := by
 intro a0 a1 r h
 rw [m_impl_TreeGet] at h
 refine does_of_good tabOk Try.func23 rfl (by decide +kernel) (Nat.le_of_ble_eq_true rfl) fun c => ?_
 refine Good.le (σ' := ⟨29, [(0, .agg [.int .i64 a0.kind, .int .i64 a0.num, .str a0.text, .sl true (a0.list.map encVal), .sl false (a0.names.map encS)]), (1, .str a1)], []⟩) (Le.refl _) ?_
 refine good_seq fun K1 hK1 => ?_
 refine good_region ?_
 refine g_op rfl (o_box (k := 12) tabOk rfl rfl rfl rfl rfl ?_)
 intro b1
 refine g_op rfl (o_alloc (k := 14) tabOk tzero30 rfl rfl ?_)
 intro b2
 refine gs 1 ?_
 refine gk hK1 29 [1, 2, 4, 5] [12, 14] ?_
 refine good_seq fun K2 hK2 => ?_
 refine good_seq fun K3 hK3 => ?_
 obtain ⟨o1, ho1, hJ1⟩ := bnd h
 have hw1 : ∀ (s1 : Bool), o1 = Lp.go s1 → ∀ σ', Le σ' ⟨29, [(1, .str a1), (2, .ptr 12 b1 0), (4, .ptr 14 b2 0), (5, .bool false), (14, .bool s1)], [(12, ((.pointer (some ⟨b1, 0, none⟩)), .optr 30 [.int .i64 a0.kind, .int .i64 a0.num, .str a0.text, .sl true (a0.list.map encVal), .sl false (a0.names.map encS)])), (14, ((.pointer (some ⟨b2, 0, none⟩)), .optr 30 [.int .i64 0, .int .i64 0, .str ([] : Bs), .nil, .nil]))]⟩ → K3 σ' := by
  intro s1 e1 σ' hle1
  subst e1
  refine hK3 _ (Good.le hle1 ?_)
  replace h := hJ1
  refine good_cond rfl (fun hc1 => ?_) (fun hc1 => ?_)
  ·replace h := ifT h hc1
   refine good_seq fun K4 hK4 => ?_
   refine good_region ?_
   refine g_op rfl (ValOk.op (v_build tabOk (cs := [.int .i64 0, .int .i64 0, .str ([] : Bs), .nil, .nil]) tzero30 tsok30 rfl rfl rfl ?_))
   refine g_op rfl (o_storeP tabOk (cs' := [.int .i64 0, .int .i64 0, .str ([] : Bs), .nil, .nil]) rfl rfl tsize30 rfl rfl rfl (Nat.le_of_ble_eq_true rfl) rfl rfl rfl ?_)
   refine gs 1 ?_
   refine gk hK4 29 [1, 2, 4, 5] [12, 14] ?_
   refine Good.le (σ' := ⟨29, [(4, .ptr 14 b2 0), (5, .bool false)], [(100, (nilV, .osl 30 5 (([] : List Val).map encOVal))), (101, (nilV, .osl 9 1 (([] : List Bs).map encS))), (14, ((.pointer (some ⟨b2, 0, none⟩)), .optr 30 [.int .i64 0, .int .i64 0, .str ([] : Bs), .hd 100 nilV, .hd 101 nilV]))]⟩) (lw [none, none, some 14]) ?_
   refine good_ret ?_
   obtain rfl := Option.some.inj h
   refine thenQ_ret ?_
   exact endQ_ret (h' := [(100, (_, _)), (101, (_, _))]) [some 100, some 101] (.cell rfl rfl tsize30 tagg30 rfl rfl rfl (.tmp rfl (.nil))) ⟨⟨_, rfl, .refl _⟩, ⟨⟨_, rfl, .refl _⟩, trivial⟩⟩ (by decide) ⟨nilV, nilV, rfl, rfl⟩
  ·replace h := bF h hc1
   refine good_skip ?_
   refine hK2 _ (kp 29 [1, 2, 4, 5] [12, 14] ?_)
   refine good_seq fun K5 hK5 => ?_
   refine rg 3 ?_
   obtain ⟨y1, hy1, h⟩ := bnd h
   refine g_op rfl (o_callR [] [] (core_value rfl rfl) (m_impl_placeOf_ok k a0.names a1 _ hy1) trivial (.cons (.refl _) (.cons (.refl _) (.nil))) (.inl rfl) rfl ?_)
   refine gs 1 ?_
   refine gk hK5 29 [2, 4, 5, 6] [12, 14] ?_
   refine good_seq fun K6 hK6 => ?_
   refine good_seq fun K7 hK7 => ?_
   refine rg 2 ?_
   refine gk hK7 29 [2, 4, 5, 6, 21] [12, 14] ?_
   refine good_cond rfl (fun hc2 => ?_) (fun hc2 => ?_)
   ·replace h := ifT h (dT hc2)
    refine good_seq fun K8 hK8 => ?_
    refine good_region ?_
    refine g_op rfl (ValOk.op (v_build tabOk (cs := [.int .i64 0, .int .i64 0, .str ([] : Bs), .nil, .nil]) tzero30 tsok30 rfl rfl rfl ?_))
    refine g_op rfl (o_storeP tabOk (cs' := [.int .i64 0, .int .i64 0, .str ([] : Bs), .nil, .nil]) rfl rfl tsize30 rfl rfl rfl (Nat.le_of_ble_eq_true rfl) rfl rfl rfl ?_)
    refine gs 1 ?_
    refine gk hK8 29 [2, 4, 5, 6] [12, 14] ?_
    refine Good.le (σ' := ⟨29, [(4, .ptr 14 b2 0), (5, .bool false)], [(100, (nilV, .osl 30 5 (([] : List Val).map encOVal))), (101, (nilV, .osl 9 1 (([] : List Bs).map encS))), (14, ((.pointer (some ⟨b2, 0, none⟩)), .optr 30 [.int .i64 0, .int .i64 0, .str ([] : Bs), .hd 100 nilV, .hd 101 nilV]))]⟩) (lw [none, none, some 14]) ?_
    refine good_ret ?_
    obtain rfl := Option.some.inj h
    refine thenQ_ret ?_
    exact endQ_ret (h' := [(100, (_, _)), (101, (_, _))]) [some 100, some 101] (.cell rfl rfl tsize30 tagg30 rfl rfl rfl (.tmp rfl (.nil))) ⟨⟨_, rfl, .refl _⟩, ⟨⟨_, rfl, .refl _⟩, trivial⟩⟩ (by decide) ⟨nilV, nilV, rfl, rfl⟩
   ·replace h := ifF h (dF hc2)
    refine good_skip ?_
    refine hK6 _ (kp 29 [2, 4, 5, 6] [12, 14] ?_)
    refine good_seq fun K9 hK9 => ?_
    refine rg 3 ?_
    obtain ⟨hb1, h⟩ := ifS h
    refine g_op rfl (ValOk.op (v_idxM tabOk rfl rfl telem28 tsize30 hb1 (encVal_eq _) rfl rfl ?_))
    refine gs 1 ?_
    obtain ⟨y2, hy2, h⟩ := bnd h
    refine g_op rfl (o_callD [] [] [] (core_value rfl rfl) (m_impl_copyValue_ok k (ix a0.list y1) _ hy2) trivial (.cons (.refl _) (.nil)) trivial rfl rfl rfl ?_)
    rintro _ _ ⟨w1, w2, rfl, rfl⟩
    refine ⟨.agg [.int .i64 y2.kind, .int .i64 y2.num, .str y2.text, .hd 3001 w1, .hd 3002 w2], [(3001, _), (3002, _)], .agg (.cons (.refl _) (.cons (.refl _) (.cons (.refl _) (.cons (.hd _ _ _) (.cons (.hd _ _ _) (.nil)))))), rfl, rfl, rfl, rfl, .inl rfl, ?_⟩
    refine g_op rfl (o_storeP tabOk (cs' := [.int .i64 y2.kind, .int .i64 y2.num, .str y2.text, .hd 3001 w1, .hd 3002 w2]) rfl rfl tsize30 rfl rfl rfl (Nat.le_of_ble_eq_true rfl) rfl rfl rfl ?_)
    refine gs 1 ?_
    refine gk hK9 29 [4, 5] [14, 3001, 3002] ?_
    refine Good.le (σ' := ⟨29, [(4, .ptr 14 b2 0), (5, .bool true)], [(100, (w1, .osl 30 5 (y2.list.map encOVal))), (101, (w2, .osl 9 1 (y2.names.map encS))), (14, ((.pointer (some ⟨b2, 0, none⟩)), .optr 30 [.int .i64 y2.kind, .int .i64 y2.num, .str y2.text, .hd 100 w1, .hd 101 w2]))]⟩) (lw [some 3001, some 3002, some 14]) ?_
    refine good_ret ?_
    obtain rfl := Option.some.inj h
    exact endQ_ret (h' := [(100, (_, _)), (101, (_, _))]) [some 100, some 101] (.cell rfl rfl tsize30 tagg30 rfl rfl rfl (.tmp rfl (.nil))) ⟨⟨_, rfl, .refl _⟩, ⟨⟨_, rfl, .refl _⟩, trivial⟩⟩ (by decide) ⟨w1, w2, rfl, rfl⟩
 replace h := ho1
 refine rg 1 ?_
 obtain ⟨y3, hy3, h⟩ := bnd h
 refine g_op rfl (o_callR [] [] (core_value rfl rfl) (m_impl_ValueOk_ok k a0 _ hy3) trivial (.cons (.refl _) (.nil)) (.inl rfl) rfl ?_)
 refine gs 2 ?_
 rcases bsplit ((!y3)) with hg1 | hg1
 ·replace h := bF h (nT hg1)
  refine gs 4 ?_
  refine g_nil ?_
  exact hw1 true (Option.some.inj h).symm _ (lw [some 12, some 14])
 ·replace h := ifT h (nF hg1)
  refine gs 4 ?_
  refine g_nil ?_
  exact hw1 (!(decide (a0.kind = 5))) (Option.some.inj h).symm _ (lw [some 12, some 14])
theorem m_impl_TreeGet_okF (k : Nat) : ∀ (a0 : Val) (a1 : Bs) (r : (Val × Bool)), m_impl_TreeGet k a0 a1 = some r → Does Try.prog 23 [.agg [.int .i64 a0.kind, .int .i64 a0.num, .str a0.text, .sl true (a0.list.map encVal), .sl false (a0.names.map encS)], .str a1] [] (ret (.tup [.agg [.int .i64 r.1.kind, .int .i64 r.1.num, .str r.1.text, .sl true (r.1.list.map encVal), .sl false (r.1.names.map encS)], .bool r.2])) := by
 intro a0 a1 r h
 refine does_frz (m_impl_TreeGet_ok k a0 a1 r h) ?_
 rintro q h' ⟨u0, u1, rfl, rfl⟩
 exact ⟨[100, 101], [(_, _), (_, _)], ⟨⟨_, rfl, .osl (FrzLL.map fun _ _ => encOVal_frz _)⟩, ⟨⟨_, rfl, .osl (FrzLL.map fun _ _ => encS_frz _)⟩, trivial⟩⟩, .tup (.cons (.agg (.cons (.refl _) (.cons (.refl _) (.cons (.refl _) (.cons (.frz _ _ _ (.head _)) (.cons (.frz _ _ _ (.tail _ (.head _))) (.nil))))))) (.cons (.refl _) (.nil)))⟩
end Go.Proofs.Ytiaigcdckmpepaa
end
end
