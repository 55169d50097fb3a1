/- What functions of this program answer, as plain functions; each theorem says that the code comes to just that. -/
import Derived.Test.YtiaigcdckmpepaaDat
import Derived.Test.YtiaigcdckmpepaaB13
import Derived.Test.YtiaigcdckmpepaaDatO
/-! Functions of the program. -/
set_option linter.unusedVariables false
set_option linter.unnecessarySimpa false
set_option maxRecDepth 100000
set_option maxHeartbeats 20000000
noncomputable section
namespace Go.Proofs.Ytiaigcdckmpepaa
open Go.Bb
def m_laws_szStringS_l1 : Nat → (List Bs) → Int → Int → Option (Lp Int Int)
  | 0, _, _, _ => none
  | k + 1, a0, x1, x2 =>
    if x2 < (a0.length : Int) then
      if (0 : Int) ≤ x2 ∧ x2 < (a0.length : Int) then
        if (IntKind.wrap .i64 (x1 - ((ix a0 x2).length : Int))) < 0 then
          (some (-1)).bind fun z =>
          some (Lp.ret z)
        else
          m_laws_szStringS_l1 k a0 (IntKind.wrap .i64 (x1 - ((ix a0 x2).length : Int))) (IntKind.wrap .i64 (x2 + 1))
      else none
    else
      some (Lp.go x1)
def m_laws_szStringS (k : Nat) (a0 : (List Bs)) (a1 : Int) : Option Int :=
  if (IntKind.wrap .i64 (a1 - (a0.length : Int))) < 0 then
    some (-1)
  else
    (m_laws_szStringS_l1 k a0 (IntKind.wrap .i64 (a1 - (a0.length : Int))) 0).bind fun o1 =>
    o1.then fun s1 =>
    some s1
theorem m_laws_szStringS_ok (k : Nat) : ∀ (a0 : (List Bs)) (a1 : Int) (r : Int), m_laws_szStringS k a0 a1 = some r → Does Try.prog 45 [.sl false (a0.map encS), .int .i64 a1] [] (ret (.int .i64 r)) := by
  intro a0 a1 r h
  rw [m_laws_szStringS] at h
  refine does_of_good tabOk Try.func45 rfl (by decide +kernel) (Nat.le_of_ble_eq_true rfl) fun c => ?_
  refine Good.le (σ' := ⟨28, [(0, .sl false (a0.map encS)), (1, .int .i64 a1)], []⟩) (Le.refl _) ?_
  refine good_seq fun K1 hK1 => ?_
  refine good_region ?_
  refine g_op rfl (ValOk.op (v_assign rfl rfl ?_)) 
  refine g_nil ?_
  refine hK1 _ ?_
  refine good_seq fun K2 hK2 => ?_
  refine good_region ?_
  refine g_op rfl (ValOk.op (v_move rfl rfl ?_)) 
  refine g_op rfl (ValOk.op (v_move rfl rfl ?_)) 
  refine g_op rfl (ValOk.op (v_lenM (l := a0) (f := encS) tabOk rfl rfl telem23 rfl ?_)) 
  refine g_op rfl (ValOk.op (v_bin rfl rfl rfl rfl ?_)) 
  refine g_op rfl (ValOk.op (v_assign rfl rfl ?_)) 
  refine g_nil ?_
  refine hK2 _ ?_
  refine Good.le (σ' := ⟨28, [(0, _), (1, _), (4, _)], []⟩) (le_w [] rfl ⟨⟨_, rfl, .refl _⟩, ⟨⟨_, rfl, .refl _⟩, ⟨⟨_, rfl, .refl _⟩, trivial⟩⟩⟩ trivial (by decide)) ?_
  refine good_seq fun K3 hK3 => ?_
  refine good_seq fun K4 hK4 => ?_
  refine good_region ?_
  refine g_op rfl (ValOk.op (v_move rfl rfl ?_)) 
  refine g_op rfl (ValOk.op (v_bin rfl rfl rfl rfl ?_)) 
  refine g_nil ?_
  refine hK4 _ ?_
  refine Good.le (σ' := ⟨28, [(0, _), (1, _), (4, _), (11, _)], []⟩) (le_w [] rfl ⟨⟨_, rfl, .refl _⟩, ⟨⟨_, rfl, .refl _⟩, ⟨⟨_, rfl, .refl _⟩, ⟨⟨_, rfl, .refl _⟩, trivial⟩⟩⟩⟩ trivial (by decide)) ?_
  refine good_cond rfl (fun hc1 => ?_) (fun hc1 => ?_)
  · replace h := ifT h (dT hc1)
    refine good_seq fun K5 hK5 => ?_
    refine good_region ?_
    refine g_op rfl (ValOk.op (v_assign rfl rfl ?_)) 
    refine g_nil ?_
    refine hK5 _ ?_
    refine Good.le (σ' := ⟨28, [(0, _), (1, _), (4, _)], []⟩) (le_w [] rfl ⟨⟨_, rfl, .refl _⟩, ⟨⟨_, rfl, .refl _⟩, ⟨⟨_, rfl, .refl _⟩, trivial⟩⟩⟩ trivial (by decide)) ?_
    refine Good.le (σ' := ⟨28, [(4, .int .i64 (-1))], []⟩) (le_w [] rfl ⟨⟨_, rfl, .refl _⟩, trivial⟩ trivial (by decide)) ?_
    refine good_ret ?_
    obtain rfl := Option.some.inj h
    refine thenQ_ret ?_
    exact endQ_ret (h' := []) [] (.tmp rfl (.nil)) trivial (by decide) ⟨rfl, rfl⟩
  · replace h := ifF h (dF hc1)
    refine good_skip ?_
    refine hK3 _ ?_
    refine Good.le (σ' := ⟨28, [(0, _), (1, _), (4, _)], []⟩) (le_w [] rfl ⟨⟨_, rfl, .refl _⟩, ⟨⟨_, rfl, .refl _⟩, ⟨⟨_, rfl, .refl _⟩, trivial⟩⟩⟩ trivial (by decide)) ?_
    refine good_seq fun K6 hK6 => ?_
    refine good_seq fun K7 hK7 => ?_
    refine good_region ?_
    refine g_op rfl (ValOk.op (v_assign rfl rfl ?_)) 
    refine g_nil ?_
    refine hK7 _ ?_
    obtain ⟨o1, ho1, hJ1⟩ := bnd h
    have hw1 : ∀ (s1 : Int), o1 = Lp.go s1 → ∀ σ', Le σ' ⟨28, [(1, .int .i64 s1), (4, .int .i64 0)], []⟩ → K6 σ' := by
      intro s1 e1 σ' hle1
      subst e1
      refine hK6 _ (Good.le hle1 ?_)
      replace h := hJ1
      refine good_seq fun K8 hK8 => ?_
      refine good_region ?_
      refine g_op rfl (ValOk.op (v_move rfl rfl ?_)) 
      refine g_op rfl (ValOk.op (v_assign rfl rfl ?_)) 
      refine g_nil ?_
      refine hK8 _ ?_
      refine Good.le (σ' := ⟨28, [(4, _)], []⟩) (le_w [] rfl ⟨⟨_, rfl, .refl _⟩, trivial⟩ trivial (by decide)) ?_
      refine Good.le (σ' := ⟨28, [(4, .int .i64 s1)], []⟩) (le_w [] rfl ⟨⟨_, rfl, .refl _⟩, trivial⟩ trivial (by decide)) ?_
      refine good_ret ?_
      obtain rfl := Option.some.inj h
      exact endQ_ret (h' := []) [] (.tmp rfl (.nil)) trivial (by decide) ⟨rfl, rfl⟩
    replace h := ho1
    refine good_block ?_
    refine good_loopf (fun p : (Int × Int) => ⟨28, [(0, .sl false (a0.map encS)), (1, .int .i64 p.1), (4, .int .i64 0), (5, .int .i64 p.2)], []⟩) (fun m p => m_laws_szStringS_l1 m a0 p.1 p.2 = some o1) k (IntKind.wrap .i64 (a1 - (a0.length : Int)), 0) (le_w [] rfl ⟨⟨_, rfl, .refl _⟩, ⟨⟨_, rfl, .refl _⟩, ⟨⟨_, rfl, .refl _⟩, ⟨⟨_, rfl, .refl _⟩, trivial⟩⟩⟩⟩ trivial (by decide)) h ?_
    rintro m1 ⟨x1, x2⟩ h
    replace h : m_laws_szStringS_l1 m1 a0 x1 x2 = some o1 := h
    refine Good.le (σ' := ⟨28, [(0, .sl false (a0.map encS)), (1, .int .i64 x1), (4, .int .i64 0), (5, .int .i64 x2)], []⟩) (Le.refl _) ?_
    obtain ⟨m1, rfl⟩ : ∃ m', m1 = m' + 1 := by cases m1 with | zero => (rw [m_laws_szStringS_l1] at h; cases h) | succ m' => exact ⟨m', rfl⟩
    rw [m_laws_szStringS_l1] at h
    refine good_seq fun K9 hK9 => ?_
    refine good_seq fun K10 hK10 => ?_
    refine good_region ?_
    refine g_op rfl (ValOk.op (v_move rfl rfl ?_)) 
    refine g_op rfl (ValOk.op (v_move rfl rfl ?_)) 
    refine g_op rfl (ValOk.op (v_lenM (l := a0) (f := encS) tabOk rfl rfl telem23 rfl ?_)) 
    refine g_op rfl (ValOk.op (v_bin rfl rfl rfl rfl ?_)) 
    refine g_nil ?_
    refine hK10 _ ?_
    refine Good.le (σ' := ⟨28, [(0, _), (1, _), (4, _), (5, _), (15, _)], []⟩) (le_w [] rfl ⟨⟨_, rfl, .refl _⟩, ⟨⟨_, rfl, .refl _⟩, ⟨⟨_, rfl, .refl _⟩, ⟨⟨_, rfl, .refl _⟩, ⟨⟨_, rfl, .refl _⟩, trivial⟩⟩⟩⟩⟩ trivial (by decide)) ?_
    refine good_cond rfl (fun hc2 => ?_) (fun hc2 => ?_)
    · replace h := ifT h (dT hc2)
      refine good_skip ?_
      refine hK9 _ ?_
      refine Good.le (σ' := ⟨28, [(0, _), (1, _), (4, _), (5, _)], []⟩) (le_w [] rfl ⟨⟨_, rfl, .refl _⟩, ⟨⟨_, rfl, .refl _⟩, ⟨⟨_, rfl, .refl _⟩, ⟨⟨_, rfl, .refl _⟩, trivial⟩⟩⟩⟩ trivial (by decide)) ?_
      refine good_seq fun K11 hK11 => ?_
      refine good_block ?_
      refine good_seq fun K12 hK12 => ?_
      refine good_region ?_
      refine g_op rfl (ValOk.op (v_move rfl rfl ?_)) 
      refine g_op rfl (ValOk.op (v_move rfl rfl ?_)) 
      refine g_op rfl (ValOk.op (v_move rfl rfl ?_)) 
      obtain ⟨hb1, h⟩ := ifS h
      refine g_op rfl (ValOk.op (v_idxM tabOk rfl rfl telem23 tsize9 hb1 rfl rfl rfl ?_)) 
      refine g_op rfl (ValOk.op (v_loadE tabOk rfl tsize9 tagg9 rfl rfl rfl ?_)) 
      refine g_op rfl (ValOk.op (v_lenS tabOk rfl rfl tkind9 rfl ?_)) 
      refine g_op rfl (ValOk.op (v_bin rfl rfl rfl rfl ?_)) 
      refine g_op rfl (ValOk.op (v_assign rfl rfl ?_)) 
      refine g_nil ?_
      refine hK12 _ ?_
      refine Good.le (σ' := ⟨28, [(0, _), (1, _), (4, _), (5, _)], []⟩) (le_w [] rfl ⟨⟨_, rfl, .refl _⟩, ⟨⟨_, rfl, .refl _⟩, ⟨⟨_, rfl, .refl _⟩, ⟨⟨_, rfl, .refl _⟩, trivial⟩⟩⟩⟩ trivial (by decide)) ?_
      refine good_seq fun K13 hK13 => ?_
      refine good_region ?_
      refine g_op rfl (ValOk.op (v_move rfl rfl ?_)) 
      refine g_op rfl (ValOk.op (v_bin rfl rfl rfl rfl ?_)) 
      refine g_nil ?_
      refine hK13 _ ?_
      refine Good.le (σ' := ⟨28, [(0, _), (1, _), (4, _), (5, _), (26, _)], []⟩) (le_w [] rfl ⟨⟨_, rfl, .refl _⟩, ⟨⟨_, rfl, .refl _⟩, ⟨⟨_, rfl, .refl _⟩, ⟨⟨_, rfl, .refl _⟩, ⟨⟨_, rfl, .refl _⟩, trivial⟩⟩⟩⟩⟩ trivial (by decide)) ?_
      refine good_cond rfl (fun hc3 => ?_) (fun hc3 => ?_)
      · replace h := ifT h (dT hc3)
        refine good_seq fun K14 hK14 => ?_
        refine good_region ?_
        refine g_op rfl (ValOk.op (v_assign rfl rfl ?_)) 
        refine g_nil ?_
        refine hK14 _ ?_
        refine Good.le (σ' := ⟨28, [(0, _), (1, _), (4, _), (5, _)], []⟩) (le_w [] rfl ⟨⟨_, rfl, .refl _⟩, ⟨⟨_, rfl, .refl _⟩, ⟨⟨_, rfl, .refl _⟩, ⟨⟨_, rfl, .refl _⟩, trivial⟩⟩⟩⟩ trivial (by decide)) ?_
        refine Good.le (σ' := ⟨28, [(4, .int .i64 (-1))], []⟩) (le_w [] rfl ⟨⟨_, rfl, .refl _⟩, trivial⟩ trivial (by decide)) ?_
        refine good_ret ?_
        replace h := unret h hJ1
        obtain rfl := Option.some.inj h
        refine blockQ_ret ?_
        refine thenQ_ret ?_
        refine thenQ_ret ?_
        refine blockQ_ret ?_
        refine thenQ_ret ?_
        exact endQ_ret (h' := []) [] (.tmp rfl (.nil)) trivial (by decide) ⟨rfl, rfl⟩
      · replace h := ifF h (dF hc3)
        refine good_skip ?_
        refine hK11 _ ?_
        refine Good.le (σ' := ⟨28, [(0, _), (1, _), (4, _), (5, _)], []⟩) (le_w [] rfl ⟨⟨_, rfl, .refl _⟩, ⟨⟨_, rfl, .refl _⟩, ⟨⟨_, rfl, .refl _⟩, ⟨⟨_, rfl, .refl _⟩, trivial⟩⟩⟩⟩ trivial (by decide)) ?_
        refine good_region ?_
        refine g_op rfl (ValOk.op (v_move rfl rfl ?_)) 
        refine g_op rfl (ValOk.op (v_bin rfl rfl rfl rfl ?_)) 
        refine g_op rfl (ValOk.op (v_assign rfl rfl ?_)) 
        refine g_nil ?_
        exact round_mk m1 (IntKind.wrap .i64 (x1 - ((ix a0 x2).length : Int)), IntKind.wrap .i64 (x2 + 1)) (Nat.lt_succ_self _) h (le_w [] rfl ⟨⟨_, rfl, .refl _⟩, ⟨⟨_, rfl, .refl _⟩, ⟨⟨_, rfl, .refl _⟩, ⟨⟨_, rfl, .refl _⟩, trivial⟩⟩⟩⟩ trivial (by decide))
    · replace h := ifF h (dF hc2)
      refine good_exit ?_
      exact hw1 x1 (Option.some.inj h).symm _ (le_w [] rfl ⟨⟨_, rfl, .refl _⟩, ⟨⟨_, rfl, .refl _⟩, trivial⟩⟩ trivial (by decide))
mutual
def m_laws_szValue : Nat → Val → Int → Option Int
  | 0, _, _ => none
  | k + 1, a0, a1 =>
    if (IntKind.wrap .i64 (a1 - (a0.text.length : Int))) < 0 then
      some (-1)
    else
      (m_laws_szValueS k a0.list (IntKind.wrap .i64 (a1 - (a0.text.length : Int)))).bind fun y1 =>
      if y1 < 0 then
        some (-1)
      else
        (m_laws_szStringS k a0.names y1).bind fun y2 =>
        if y2 < 0 then
          some (-1)
        else
          some y2
def m_laws_szValueS_l1 : Nat → (List Val) → Int → Int → Option (Lp Int Int)
  | 0, _, _, _ => none
  | k + 1, a0, x1, x2 =>
    if x2 < (a0.length : Int) then
      if (0 : Int) ≤ x2 ∧ x2 < (a0.length : Int) then
        (m_laws_szValue k (ix a0 x2) x1).bind fun y1 =>
        if y1 < 0 then
          (some (-1)).bind fun z =>
          some (Lp.ret z)
        else
          m_laws_szValueS_l1 k a0 y1 (IntKind.wrap .i64 (x2 + 1))
      else none
    else
      some (Lp.go x1)
def m_laws_szValueS : Nat → (List Val) → Int → Option Int
  | 0, _, _ => none
  | k + 1, a0, a1 =>
    if (IntKind.wrap .i64 (a1 - (a0.length : Int))) < 0 then
      some (-1)
    else
      (m_laws_szValueS_l1 k a0 (IntKind.wrap .i64 (a1 - (a0.length : Int))) 0).bind fun o1 =>
      o1.then fun s1 =>
    some s1
end
def P_m_laws_szValue (k : Nat) : Prop := ∀ (a0 : Val) (a1 : Int) (r : Int), m_laws_szValue k a0 a1 = some r → Does Try.prog 15 [.agg [.int .i64 a0.kind, .int .i64 a0.num, .str a0.text, .sl false (a0.list.map encLVal), .sl false (a0.names.map encS)], .int .i64 a1] [] (ret (.int .i64 r))
def P_m_laws_szValueS (k : Nat) : Prop := ∀ (a0 : (List Val)) (a1 : Int) (r : Int), m_laws_szValueS k a0 a1 = some r → Does Try.prog 44 [.sl false (a0.map encLVal), .int .i64 a1] [] (ret (.int .i64 r))
theorem m_laws_szValue_step (k : Nat) (ih : ∀ m, m < k → P_m_laws_szValue m ∧ P_m_laws_szValueS m) : P_m_laws_szValue k := by
  intro a0 a1 r h
  obtain ⟨k, rfl⟩ : ∃ k', k = k' + 1 := by cases k with | zero => (rw [m_laws_szValue] at h; cases h) | succ k' => exact ⟨k', rfl⟩
  rw [m_laws_szValue] at h
  refine does_of_good tabOk Try.func15 rfl (by decide +kernel) (Nat.le_of_ble_eq_true rfl) fun c => ?_
  refine Good.le (σ' := ⟨25, [(0, .agg [.int .i64 a0.kind, .int .i64 a0.num, .str a0.text, .sl false (a0.list.map encLVal), .sl false (a0.names.map encS)]), (1, .int .i64 a1)], []⟩) (Le.refl _) ?_
  refine good_seq fun K1 hK1 => ?_
  refine good_region ?_
  refine g_op rfl (o_box (k := 12) tabOk rfl rfl rfl rfl rfl ?_)
  intro b1
  refine g_op rfl (ValOk.op (v_assign rfl rfl ?_)) 
  refine g_nil ?_
  refine hK1 _ ?_
  refine Good.le (σ' := ⟨25, [(1, _), (2, _), (4, _)], [(12, (_, _))]⟩) (le_w [some 12] rfl ⟨⟨_, rfl, .refl _⟩, ⟨⟨_, rfl, .refl _⟩, ⟨⟨_, rfl, .refl _⟩, trivial⟩⟩⟩ ⟨⟨_, rfl, .refl _⟩, trivial⟩ (by decide)) ?_
  refine good_seq fun K2 hK2 => ?_
  refine good_region ?_
  refine g_op rfl (ValOk.op (v_move rfl rfl ?_)) 
  refine g_op rfl (ValOk.op (v_fieldP tabOk rfl tfoff25_2 rfl ?_)) 
  refine g_op rfl (ValOk.op (v_loadP tabOk rfl rfl tsize9 tagg9 rfl rfl rfl rfl ?_)) 
  refine g_op rfl (ValOk.op (v_lenS tabOk rfl rfl tkind9 rfl ?_)) 
  refine g_op rfl (ValOk.op (v_bin rfl rfl rfl rfl ?_)) 
  refine g_op rfl (ValOk.op (v_assign rfl rfl ?_)) 
  refine g_nil ?_
  refine hK2 _ ?_
  refine Good.le (σ' := ⟨25, [(1, _), (2, _), (4, _)], [(12, (_, _))]⟩) (le_w [some 12] rfl ⟨⟨_, rfl, .refl _⟩, ⟨⟨_, rfl, .refl _⟩, ⟨⟨_, rfl, .refl _⟩, trivial⟩⟩⟩ ⟨⟨_, rfl, .refl _⟩, trivial⟩ (by decide)) ?_
  refine good_seq fun K3 hK3 => ?_
  refine good_seq fun K4 hK4 => ?_
  refine good_region ?_
  refine g_op rfl (ValOk.op (v_move rfl rfl ?_)) 
  refine g_op rfl (ValOk.op (v_bin rfl rfl rfl rfl ?_)) 
  refine g_nil ?_
  refine hK4 _ ?_
  refine Good.le (σ' := ⟨25, [(1, _), (2, _), (4, _), (11, _)], [(12, (_, _))]⟩) (le_w [some 12] rfl ⟨⟨_, rfl, .refl _⟩, ⟨⟨_, rfl, .refl _⟩, ⟨⟨_, rfl, .refl _⟩, ⟨⟨_, rfl, .refl _⟩, trivial⟩⟩⟩⟩ ⟨⟨_, rfl, .refl _⟩, trivial⟩ (by decide)) ?_
  refine good_cond rfl (fun hc1 => ?_) (fun hc1 => ?_)
  · replace h := ifT h (dT hc1)
    refine good_seq fun K5 hK5 => ?_
    refine good_region ?_
    refine g_op rfl (ValOk.op (v_assign rfl rfl ?_)) 
    refine g_nil ?_
    refine hK5 _ ?_
    refine Good.le (σ' := ⟨25, [(1, _), (2, _), (4, _)], [(12, (_, _))]⟩) (le_w [some 12] rfl ⟨⟨_, rfl, .refl _⟩, ⟨⟨_, rfl, .refl _⟩, ⟨⟨_, rfl, .refl _⟩, trivial⟩⟩⟩ ⟨⟨_, rfl, .refl _⟩, trivial⟩ (by decide)) ?_
    refine Good.le (σ' := ⟨25, [(4, .int .i64 (-1))], []⟩) (le_w [] rfl ⟨⟨_, rfl, .refl _⟩, trivial⟩ trivial (by decide)) ?_
    refine good_ret ?_
    obtain rfl := Option.some.inj h
    refine thenQ_ret ?_
    exact endQ_ret (h' := []) [] (.tmp rfl (.nil)) trivial (by decide) ⟨rfl, rfl⟩
  · replace h := ifF h (dF hc1)
    refine good_skip ?_
    refine hK3 _ ?_
    refine Good.le (σ' := ⟨25, [(1, _), (2, _), (4, _)], [(12, (_, _))]⟩) (le_w [some 12] rfl ⟨⟨_, rfl, .refl _⟩, ⟨⟨_, rfl, .refl _⟩, ⟨⟨_, rfl, .refl _⟩, trivial⟩⟩⟩ ⟨⟨_, rfl, .refl _⟩, trivial⟩ (by decide)) ?_
    refine good_seq fun K6 hK6 => ?_
    refine good_region ?_
    refine g_op rfl (ValOk.op (v_fieldP tabOk rfl tfoff25_3 rfl ?_)) 
    refine g_op rfl (ValOk.op (v_loadP tabOk rfl rfl tsize22 tagg22 rfl rfl rfl rfl ?_)) 
    refine g_op rfl (ValOk.op (v_move rfl rfl ?_)) 
    obtain ⟨y1, hy1, h⟩ := bnd h
    refine g_op rfl (o_callR [] [] (core_value rfl rfl) ((ih k (by omega)).2 a0.list (IntKind.wrap .i64 (a1 - (a0.text.length : Int))) _ hy1) trivial (.cons (.refl _) (.cons (.refl _) (.nil))) (.inl rfl) rfl ?_)
    refine g_op rfl (ValOk.op (v_assign rfl rfl ?_)) 
    refine g_nil ?_
    refine hK6 _ ?_
    refine Good.le (σ' := ⟨25, [(1, _), (2, _), (4, _)], [(12, (_, _))]⟩) (le_w [some 12] rfl ⟨⟨_, rfl, .refl _⟩, ⟨⟨_, rfl, .refl _⟩, ⟨⟨_, rfl, .refl _⟩, trivial⟩⟩⟩ ⟨⟨_, rfl, .refl _⟩, trivial⟩ (by decide)) ?_
    refine good_seq fun K7 hK7 => ?_
    refine good_seq fun K8 hK8 => ?_
    refine good_region ?_
    refine g_op rfl (ValOk.op (v_move rfl rfl ?_)) 
    refine g_op rfl (ValOk.op (v_bin rfl rfl rfl rfl ?_)) 
    refine g_nil ?_
    refine hK8 _ ?_
    refine Good.le (σ' := ⟨25, [(1, _), (2, _), (4, _), (17, _)], [(12, (_, _))]⟩) (le_w [some 12] rfl ⟨⟨_, rfl, .refl _⟩, ⟨⟨_, rfl, .refl _⟩, ⟨⟨_, rfl, .refl _⟩, ⟨⟨_, rfl, .refl _⟩, trivial⟩⟩⟩⟩ ⟨⟨_, rfl, .refl _⟩, trivial⟩ (by decide)) ?_
    refine good_cond rfl (fun hc2 => ?_) (fun hc2 => ?_)
    · replace h := ifT h (dT hc2)
      refine good_seq fun K9 hK9 => ?_
      refine good_region ?_
      refine g_op rfl (ValOk.op (v_assign rfl rfl ?_)) 
      refine g_nil ?_
      refine hK9 _ ?_
      refine Good.le (σ' := ⟨25, [(1, _), (2, _), (4, _)], [(12, (_, _))]⟩) (le_w [some 12] rfl ⟨⟨_, rfl, .refl _⟩, ⟨⟨_, rfl, .refl _⟩, ⟨⟨_, rfl, .refl _⟩, trivial⟩⟩⟩ ⟨⟨_, rfl, .refl _⟩, trivial⟩ (by decide)) ?_
      refine Good.le (σ' := ⟨25, [(4, .int .i64 (-1))], []⟩) (le_w [] rfl ⟨⟨_, rfl, .refl _⟩, trivial⟩ trivial (by decide)) ?_
      refine good_ret ?_
      obtain rfl := Option.some.inj h
      refine thenQ_ret ?_
      exact endQ_ret (h' := []) [] (.tmp rfl (.nil)) trivial (by decide) ⟨rfl, rfl⟩
    · replace h := ifF h (dF hc2)
      refine good_skip ?_
      refine hK7 _ ?_
      refine Good.le (σ' := ⟨25, [(1, _), (2, _), (4, _)], [(12, (_, _))]⟩) (le_w [some 12] rfl ⟨⟨_, rfl, .refl _⟩, ⟨⟨_, rfl, .refl _⟩, ⟨⟨_, rfl, .refl _⟩, trivial⟩⟩⟩ ⟨⟨_, rfl, .refl _⟩, trivial⟩ (by decide)) ?_
      refine good_seq fun K10 hK10 => ?_
      refine good_region ?_
      refine g_op rfl (ValOk.op (v_fieldP tabOk rfl tfoff25_4 rfl ?_)) 
      refine g_op rfl (ValOk.op (v_loadP tabOk rfl rfl tsize23 tagg23 rfl rfl rfl rfl ?_)) 
      refine g_op rfl (ValOk.op (v_move rfl rfl ?_)) 
      obtain ⟨y2, hy2, h⟩ := bnd h
      refine g_op rfl (o_callR [] [] (core_value rfl rfl) (m_laws_szStringS_ok k a0.names y1 _ hy2) trivial (.cons (.refl _) (.cons (.refl _) (.nil))) (.inl rfl) rfl ?_)
      refine g_op rfl (ValOk.op (v_assign rfl rfl ?_)) 
      refine g_nil ?_
      refine hK10 _ ?_
      refine Good.le (σ' := ⟨25, [(1, _), (4, _)], []⟩) (le_w [] rfl ⟨⟨_, rfl, .refl _⟩, ⟨⟨_, rfl, .refl _⟩, trivial⟩⟩ trivial (by decide)) ?_
      refine good_seq fun K11 hK11 => ?_
      refine good_seq fun K12 hK12 => ?_
      refine good_region ?_
      refine g_op rfl (ValOk.op (v_move rfl rfl ?_)) 
      refine g_op rfl (ValOk.op (v_bin rfl rfl rfl rfl ?_)) 
      refine g_nil ?_
      refine hK12 _ ?_
      refine Good.le (σ' := ⟨25, [(1, _), (4, _), (23, _)], []⟩) (le_w [] rfl ⟨⟨_, rfl, .refl _⟩, ⟨⟨_, rfl, .refl _⟩, ⟨⟨_, rfl, .refl _⟩, trivial⟩⟩⟩ trivial (by decide)) ?_
      refine good_cond rfl (fun hc3 => ?_) (fun hc3 => ?_)
      · replace h := ifT h (dT hc3)
        refine good_seq fun K13 hK13 => ?_
        refine good_region ?_
        refine g_op rfl (ValOk.op (v_assign rfl rfl ?_)) 
        refine g_nil ?_
        refine hK13 _ ?_
        refine Good.le (σ' := ⟨25, [(1, _), (4, _)], []⟩) (le_w [] rfl ⟨⟨_, rfl, .refl _⟩, ⟨⟨_, rfl, .refl _⟩, trivial⟩⟩ trivial (by decide)) ?_
        refine Good.le (σ' := ⟨25, [(4, .int .i64 (-1))], []⟩) (le_w [] rfl ⟨⟨_, rfl, .refl _⟩, trivial⟩ trivial (by decide)) ?_
        refine good_ret ?_
        obtain rfl := Option.some.inj h
        refine thenQ_ret ?_
        exact endQ_ret (h' := []) [] (.tmp rfl (.nil)) trivial (by decide) ⟨rfl, rfl⟩
      · replace h := ifF h (dF hc3)
        refine good_skip ?_
        refine hK11 _ ?_
        refine Good.le (σ' := ⟨25, [(1, _), (4, _)], []⟩) (le_w [] rfl ⟨⟨_, rfl, .refl _⟩, ⟨⟨_, rfl, .refl _⟩, trivial⟩⟩ trivial (by decide)) ?_
        refine good_seq fun K14 hK14 => ?_
        refine good_region ?_
        refine g_op rfl (ValOk.op (v_move rfl rfl ?_)) 
        refine g_op rfl (ValOk.op (v_assign rfl rfl ?_)) 
        refine g_nil ?_
        refine hK14 _ ?_
        refine Good.le (σ' := ⟨25, [(4, _)], []⟩) (le_w [] rfl ⟨⟨_, rfl, .refl _⟩, trivial⟩ trivial (by decide)) ?_
        refine Good.le (σ' := ⟨25, [(4, .int .i64 y2)], []⟩) (le_w [] rfl ⟨⟨_, rfl, .refl _⟩, trivial⟩ trivial (by decide)) ?_
        refine good_ret ?_
        obtain rfl := Option.some.inj h
        exact endQ_ret (h' := []) [] (.tmp rfl (.nil)) trivial (by decide) ⟨rfl, rfl⟩
theorem m_laws_szValueS_step (k : Nat) (ih : ∀ m, m < k → P_m_laws_szValue m ∧ P_m_laws_szValueS m) : P_m_laws_szValueS k := by
  intro a0 a1 r h
  obtain ⟨k, rfl⟩ : ∃ k', k = k' + 1 := by cases k with | zero => (rw [m_laws_szValueS] at h; cases h) | succ k' => exact ⟨k', rfl⟩
  rw [m_laws_szValueS] at h
  refine does_of_good tabOk Try.func44 rfl (by decide +kernel) (Nat.le_of_ble_eq_true rfl) fun c => ?_
  refine Good.le (σ' := ⟨27, [(0, .sl false (a0.map encLVal)), (1, .int .i64 a1)], []⟩) (Le.refl _) ?_
  refine good_seq fun K1 hK1 => ?_
  refine good_region ?_
  refine g_op rfl (ValOk.op (v_assign rfl rfl ?_)) 
  refine g_nil ?_
  refine hK1 _ ?_
  refine good_seq fun K2 hK2 => ?_
  refine good_region ?_
  refine g_op rfl (ValOk.op (v_move rfl rfl ?_)) 
  refine g_op rfl (ValOk.op (v_move rfl rfl ?_)) 
  refine g_op rfl (ValOk.op (v_lenM (l := a0) (f := encLVal) tabOk rfl rfl telem22 rfl ?_)) 
  refine g_op rfl (ValOk.op (v_bin rfl rfl rfl rfl ?_)) 
  refine g_op rfl (ValOk.op (v_assign rfl rfl ?_)) 
  refine g_nil ?_
  refine hK2 _ ?_
  refine Good.le (σ' := ⟨27, [(0, _), (1, _), (4, _)], []⟩) (le_w [] rfl ⟨⟨_, rfl, .refl _⟩, ⟨⟨_, rfl, .refl _⟩, ⟨⟨_, rfl, .refl _⟩, trivial⟩⟩⟩ trivial (by decide)) ?_
  refine good_seq fun K3 hK3 => ?_
  refine good_seq fun K4 hK4 => ?_
  refine good_region ?_
  refine g_op rfl (ValOk.op (v_move rfl rfl ?_)) 
  refine g_op rfl (ValOk.op (v_bin rfl rfl rfl rfl ?_)) 
  refine g_nil ?_
  refine hK4 _ ?_
  refine Good.le (σ' := ⟨27, [(0, _), (1, _), (4, _), (11, _)], []⟩) (le_w [] rfl ⟨⟨_, rfl, .refl _⟩, ⟨⟨_, rfl, .refl _⟩, ⟨⟨_, rfl, .refl _⟩, ⟨⟨_, rfl, .refl _⟩, trivial⟩⟩⟩⟩ trivial (by decide)) ?_
  refine good_cond rfl (fun hc1 => ?_) (fun hc1 => ?_)
  · replace h := ifT h (dT hc1)
    refine good_seq fun K5 hK5 => ?_
    refine good_region ?_
    refine g_op rfl (ValOk.op (v_assign rfl rfl ?_)) 
    refine g_nil ?_
    refine hK5 _ ?_
    refine Good.le (σ' := ⟨27, [(0, _), (1, _), (4, _)], []⟩) (le_w [] rfl ⟨⟨_, rfl, .refl _⟩, ⟨⟨_, rfl, .refl _⟩, ⟨⟨_, rfl, .refl _⟩, trivial⟩⟩⟩ trivial (by decide)) ?_
    refine Good.le (σ' := ⟨27, [(4, .int .i64 (-1))], []⟩) (le_w [] rfl ⟨⟨_, rfl, .refl _⟩, trivial⟩ trivial (by decide)) ?_
    refine good_ret ?_
    obtain rfl := Option.some.inj h
    refine thenQ_ret ?_
    exact endQ_ret (h' := []) [] (.tmp rfl (.nil)) trivial (by decide) ⟨rfl, rfl⟩
  · replace h := ifF h (dF hc1)
    refine good_skip ?_
    refine hK3 _ ?_
    refine Good.le (σ' := ⟨27, [(0, _), (1, _), (4, _)], []⟩) (le_w [] rfl ⟨⟨_, rfl, .refl _⟩, ⟨⟨_, rfl, .refl _⟩, ⟨⟨_, rfl, .refl _⟩, trivial⟩⟩⟩ trivial (by decide)) ?_
    refine good_seq fun K6 hK6 => ?_
    refine good_seq fun K7 hK7 => ?_
    refine good_region ?_
    refine g_op rfl (ValOk.op (v_assign rfl rfl ?_)) 
    refine g_nil ?_
    refine hK7 _ ?_
    obtain ⟨o1, ho1, hJ1⟩ := bnd h
    have hw1 : ∀ (s1 : Int), o1 = Lp.go s1 → ∀ σ', Le σ' ⟨27, [(1, .int .i64 s1), (4, .int .i64 0)], []⟩ → K6 σ' := by
      intro s1 e1 σ' hle1
      subst e1
      refine hK6 _ (Good.le hle1 ?_)
      replace h := hJ1
      refine good_seq fun K8 hK8 => ?_
      refine good_region ?_
      refine g_op rfl (ValOk.op (v_move rfl rfl ?_)) 
      refine g_op rfl (ValOk.op (v_assign rfl rfl ?_)) 
      refine g_nil ?_
      refine hK8 _ ?_
      refine Good.le (σ' := ⟨27, [(4, _)], []⟩) (le_w [] rfl ⟨⟨_, rfl, .refl _⟩, trivial⟩ trivial (by decide)) ?_
      refine Good.le (σ' := ⟨27, [(4, .int .i64 s1)], []⟩) (le_w [] rfl ⟨⟨_, rfl, .refl _⟩, trivial⟩ trivial (by decide)) ?_
      refine good_ret ?_
      obtain rfl := Option.some.inj h
      exact endQ_ret (h' := []) [] (.tmp rfl (.nil)) trivial (by decide) ⟨rfl, rfl⟩
    replace h := ho1
    refine good_block ?_
    refine good_loopf (fun p : (Int × Int) => ⟨27, [(0, .sl false (a0.map encLVal)), (1, .int .i64 p.1), (4, .int .i64 0), (5, .int .i64 p.2)], []⟩) (fun m p => m < k + 1 ∧ m_laws_szValueS_l1 m a0 p.1 p.2 = some o1) k (IntKind.wrap .i64 (a1 - (a0.length : Int)), 0) (le_w [] rfl ⟨⟨_, rfl, .refl _⟩, ⟨⟨_, rfl, .refl _⟩, ⟨⟨_, rfl, .refl _⟩, ⟨⟨_, rfl, .refl _⟩, trivial⟩⟩⟩⟩ trivial (by decide)) ⟨by omega, h⟩ ?_
    rintro m1 ⟨x1, x2⟩ ⟨hm, h⟩
    replace h : m_laws_szValueS_l1 m1 a0 x1 x2 = some o1 := h
    refine Good.le (σ' := ⟨27, [(0, .sl false (a0.map encLVal)), (1, .int .i64 x1), (4, .int .i64 0), (5, .int .i64 x2)], []⟩) (Le.refl _) ?_
    obtain ⟨m1, rfl⟩ : ∃ m', m1 = m' + 1 := by cases m1 with | zero => (rw [m_laws_szValueS_l1] at h; cases h) | succ m' => exact ⟨m', rfl⟩
    rw [m_laws_szValueS_l1] at h
    refine good_seq fun K9 hK9 => ?_
    refine good_seq fun K10 hK10 => ?_
    refine good_region ?_
    refine g_op rfl (ValOk.op (v_move rfl rfl ?_)) 
    refine g_op rfl (ValOk.op (v_move rfl rfl ?_)) 
    refine g_op rfl (ValOk.op (v_lenM (l := a0) (f := encLVal) tabOk rfl rfl telem22 rfl ?_)) 
    refine g_op rfl (ValOk.op (v_bin rfl rfl rfl rfl ?_)) 
    refine g_nil ?_
    refine hK10 _ ?_
    refine Good.le (σ' := ⟨27, [(0, _), (1, _), (4, _), (5, _), (15, _)], []⟩) (le_w [] rfl ⟨⟨_, rfl, .refl _⟩, ⟨⟨_, rfl, .refl _⟩, ⟨⟨_, rfl, .refl _⟩, ⟨⟨_, rfl, .refl _⟩, ⟨⟨_, rfl, .refl _⟩, trivial⟩⟩⟩⟩⟩ trivial (by decide)) ?_
    refine good_cond rfl (fun hc2 => ?_) (fun hc2 => ?_)
    · replace h := ifT h (dT hc2)
      refine good_skip ?_
      refine hK9 _ ?_
      refine Good.le (σ' := ⟨27, [(0, _), (1, _), (4, _), (5, _)], []⟩) (le_w [] rfl ⟨⟨_, rfl, .refl _⟩, ⟨⟨_, rfl, .refl _⟩, ⟨⟨_, rfl, .refl _⟩, ⟨⟨_, rfl, .refl _⟩, trivial⟩⟩⟩⟩ trivial (by decide)) ?_
      refine good_seq fun K11 hK11 => ?_
      refine good_block ?_
      refine good_seq fun K12 hK12 => ?_
      refine good_region ?_
      refine g_op rfl (ValOk.op (v_move rfl rfl ?_)) 
      refine g_op rfl (ValOk.op (v_move rfl rfl ?_)) 
      obtain ⟨hb1, h⟩ := ifS h
      refine g_op rfl (ValOk.op (v_idxM tabOk rfl rfl telem22 tsize25 hb1 (encLVal_eq _) rfl rfl ?_)) 
      refine g_op rfl (ValOk.op (v_loadE tabOk rfl tsize25 tagg25 rfl rfl rfl ?_)) 
      refine g_op rfl (ValOk.op (v_move rfl rfl ?_)) 
      obtain ⟨y1, hy1, h⟩ := bnd h
      refine g_op rfl (o_callR [] [] (core_value rfl rfl) ((ih m1 (by omega)).1 (ix a0 x2) x1 _ hy1) trivial (.cons (.refl _) (.cons (.refl _) (.nil))) (.inl rfl) rfl ?_)
      refine g_op rfl (ValOk.op (v_assign rfl rfl ?_)) 
      refine g_nil ?_
      refine hK12 _ ?_
      refine Good.le (σ' := ⟨27, [(0, _), (1, _), (4, _), (5, _)], []⟩) (le_w [] rfl ⟨⟨_, rfl, .refl _⟩, ⟨⟨_, rfl, .refl _⟩, ⟨⟨_, rfl, .refl _⟩, ⟨⟨_, rfl, .refl _⟩, trivial⟩⟩⟩⟩ trivial (by decide)) ?_
      refine good_seq fun K13 hK13 => ?_
      refine good_region ?_
      refine g_op rfl (ValOk.op (v_move rfl rfl ?_)) 
      refine g_op rfl (ValOk.op (v_bin rfl rfl rfl rfl ?_)) 
      refine g_nil ?_
      refine hK13 _ ?_
      refine Good.le (σ' := ⟨27, [(0, _), (1, _), (4, _), (5, _), (25, _)], []⟩) (le_w [] rfl ⟨⟨_, rfl, .refl _⟩, ⟨⟨_, rfl, .refl _⟩, ⟨⟨_, rfl, .refl _⟩, ⟨⟨_, rfl, .refl _⟩, ⟨⟨_, rfl, .refl _⟩, trivial⟩⟩⟩⟩⟩ trivial (by decide)) ?_
      refine good_cond rfl (fun hc3 => ?_) (fun hc3 => ?_)
      · replace h := ifT h (dT hc3)
        refine good_seq fun K14 hK14 => ?_
        refine good_region ?_
        refine g_op rfl (ValOk.op (v_assign rfl rfl ?_)) 
        refine g_nil ?_
        refine hK14 _ ?_
        refine Good.le (σ' := ⟨27, [(0, _), (1, _), (4, _), (5, _)], []⟩) (le_w [] rfl ⟨⟨_, rfl, .refl _⟩, ⟨⟨_, rfl, .refl _⟩, ⟨⟨_, rfl, .refl _⟩, ⟨⟨_, rfl, .refl _⟩, trivial⟩⟩⟩⟩ trivial (by decide)) ?_
        refine Good.le (σ' := ⟨27, [(4, .int .i64 (-1))], []⟩) (le_w [] rfl ⟨⟨_, rfl, .refl _⟩, trivial⟩ trivial (by decide)) ?_
        refine good_ret ?_
        replace h := unret h hJ1
        obtain rfl := Option.some.inj h
        refine blockQ_ret ?_
        refine thenQ_ret ?_
        refine thenQ_ret ?_
        refine blockQ_ret ?_
        refine thenQ_ret ?_
        exact endQ_ret (h' := []) [] (.tmp rfl (.nil)) trivial (by decide) ⟨rfl, rfl⟩
      · replace h := ifF h (dF hc3)
        refine good_skip ?_
        refine hK11 _ ?_
        refine Good.le (σ' := ⟨27, [(0, _), (1, _), (4, _), (5, _)], []⟩) (le_w [] rfl ⟨⟨_, rfl, .refl _⟩, ⟨⟨_, rfl, .refl _⟩, ⟨⟨_, rfl, .refl _⟩, ⟨⟨_, rfl, .refl _⟩, trivial⟩⟩⟩⟩ trivial (by decide)) ?_
        refine good_region ?_
        refine g_op rfl (ValOk.op (v_move rfl rfl ?_)) 
        refine g_op rfl (ValOk.op (v_bin rfl rfl rfl rfl ?_)) 
        refine g_op rfl (ValOk.op (v_assign rfl rfl ?_)) 
        refine g_nil ?_
        exact round_mk m1 (y1, IntKind.wrap .i64 (x2 + 1)) (Nat.lt_succ_self _) ⟨by omega, h⟩ (le_w [] rfl ⟨⟨_, rfl, .refl _⟩, ⟨⟨_, rfl, .refl _⟩, ⟨⟨_, rfl, .refl _⟩, ⟨⟨_, rfl, .refl _⟩, trivial⟩⟩⟩⟩ trivial (by decide))
    · replace h := ifF h (dF hc2)
      refine good_exit ?_
      exact hw1 x1 (Option.some.inj h).symm _ (le_w [] rfl ⟨⟨_, rfl, .refl _⟩, ⟨⟨_, rfl, .refl _⟩, trivial⟩⟩ trivial (by decide))
theorem m_laws_szValue_all (k : Nat) : P_m_laws_szValue k ∧ P_m_laws_szValueS k := by
  induction k using Nat.strongRecOn with
  | _ k ih => exact ⟨m_laws_szValue_step k ih, m_laws_szValueS_step k ih⟩
theorem m_laws_szValue_ok (k : Nat) : ∀ (a0 : Val) (a1 : Int) (r : Int), m_laws_szValue k a0 a1 = some r → Does Try.prog 15 [.agg [.int .i64 a0.kind, .int .i64 a0.num, .str a0.text, .sl false (a0.list.map encLVal), .sl false (a0.names.map encS)], .int .i64 a1] [] (ret (.int .i64 r)) := (m_laws_szValue_all k).1
theorem m_laws_szValueS_ok (k : Nat) : ∀ (a0 : (List Val)) (a1 : Int) (r : Int), m_laws_szValueS k a0 a1 = some r → Does Try.prog 44 [.sl false (a0.map encLVal), .int .i64 a1] [] (ret (.int .i64 r)) := (m_laws_szValue_all k).2
def m_laws_toStringS_l1 : Nat → (List Bs) → (List Bs) → Int → Option (Lp (List Bs) (List Bs))
  | 0, _, _, _ => none
  | k + 1, a0, x1, x2 =>
    if x2 < (a0.length : Int) then
      if (0 : Int) ≤ x2 ∧ x2 < (a0.length : Int) then
        if (0 : Int) ≤ x2 ∧ x2 < (x1.length : Int) then
          m_laws_toStringS_l1 k a0 (x1.set (Int.toNat x2) (ix a0 x2)) (IntKind.wrap .i64 (x2 + 1))
        else none
      else none
    else
      some (Lp.go x1)
def m_laws_toStringS (k : Nat) (a0 : (List Bs)) : Option (List Bs) :=
  if (0 : Int) ≤ (a0.length : Int) ∧ 16 * (a0.length : Int) ≤ (281474976710656 : Int) then
    if (a0.length : Int) ≤ (9223372036854775807 : Int) then
      (m_laws_toStringS_l1 k a0 (List.replicate (Int.toNat (a0.length : Int)) ([] : Bs)) 0).bind fun o1 =>
      o1.then fun s1 =>
    some s1
    else none
  else none
theorem m_laws_toStringS_ok (k : Nat) : ∀ (a0 : (List Bs)) (r : (List Bs)), m_laws_toStringS k a0 = some r → Does Try.prog 48 [.sl false (a0.map encS)] [] (fun q h' => ∃ u0 : Value, q = .hd 100 u0 ∧ h' = [(100, (u0, .osl 9 1 (r.map encS)))]) := by
  intro a0 r h
  rw [m_laws_toStringS] at h
  refine does_of_good tabOk Try.func48 rfl (by decide +kernel) (Nat.le_of_ble_eq_true rfl) fun c => ?_
  refine Good.le (σ' := ⟨22, [(0, .sl false (a0.map encS))], []⟩) (Le.refl _) ?_
  refine good_seq fun K1 hK1 => ?_
  refine good_region ?_
  refine g_op rfl (ValOk.op (v_assign rfl rfl ?_)) 
  refine g_nil ?_
  refine hK1 _ ?_
  refine good_seq fun K2 hK2 => ?_
  refine good_region ?_
  refine g_op rfl (ValOk.op (v_move rfl rfl ?_)) 
  refine g_op rfl (ValOk.op (v_lenM (l := a0) (f := encS) tabOk rfl rfl telem23 rfl ?_)) 
  obtain ⟨hb1, h⟩ := ifS h
  obtain ⟨hb2, h⟩ := ifS h
  refine g_op rfl (o_makeM (k := 17) (zz := (([] : Bs))) (f := encS) tabOk telem23 tsize9 tbytes9 tzero9 rfl rfl rfl (by decide) (WkL.refl _) rfl rfl hb1 hb2 ?_)
  intro w1
  refine g_op rfl (ValOk.op (v_assign rfl rfl ?_)) 
  refine g_nil ?_
  refine hK2 _ ?_
  refine Good.le (σ' := ⟨22, [(0, _), (2, _), (3, _)], [(17, (_, _))]⟩) (le_w [some 17] rfl ⟨⟨_, rfl, .refl _⟩, ⟨⟨_, rfl, .refl _⟩, ⟨⟨_, rfl, .refl _⟩, trivial⟩⟩⟩ ⟨⟨_, rfl, .refl _⟩, trivial⟩ (by decide)) ?_
  refine good_seq fun K3 hK3 => ?_
  refine good_seq fun K4 hK4 => ?_
  refine good_region ?_
  refine g_op rfl (ValOk.op (v_assign rfl rfl ?_)) 
  refine g_nil ?_
  refine hK4 _ ?_
  obtain ⟨o1, ho1, hJ1⟩ := bnd h
  have hw1 : ∀ (s1 : (List Bs)), o1 = Lp.go s1 → ∀ σ', Le σ' ⟨22, [(2, .nil), (3, .hd 17 w1)], [(17, (w1, .osl 9 1 (s1.map encS)))]⟩ → K3 σ' := by
    intro s1 e1 σ' hle1
    subst e1
    refine hK3 _ (Good.le hle1 ?_)
    replace h := hJ1
    refine good_seq fun K5 hK5 => ?_
    refine good_region ?_
    refine g_op rfl (ValOk.op (v_move rfl rfl ?_)) 
    refine g_op rfl (ValOk.op (v_assign rfl rfl ?_)) 
    refine g_nil ?_
    refine hK5 _ ?_
    refine Good.le (σ' := ⟨22, [(2, _)], [(17, (_, _))]⟩) (le_w [some 17] rfl ⟨⟨_, rfl, .refl _⟩, trivial⟩ ⟨⟨_, rfl, .refl _⟩, trivial⟩ (by decide)) ?_
    refine Good.le (σ' := ⟨22, [(2, .hd 100 w1)], [(100, (w1, .osl 9 1 (s1.map encS)))]⟩) (le_w [some 17] rfl ⟨⟨_, rfl, .hd _ _ _⟩, trivial⟩ ⟨⟨_, rfl, .refl _⟩, trivial⟩ (by decide)) ?_
    refine good_ret ?_
    obtain rfl := Option.some.inj h
    exact endQ_ret (h' := [(100, (_, _))]) [some 100] (.tmp rfl (.nil)) ⟨⟨_, rfl, .refl _⟩, trivial⟩ (by decide) ⟨w1, rfl, rfl⟩
  replace h := ho1
  refine good_block ?_
  refine good_loopf (fun p : ((List Bs) × Int) => ⟨22, [(0, .sl false (a0.map encS)), (2, .nil), (3, .hd 17 w1), (4, .int .i64 p.2)], [(17, (w1, .osl 9 1 (p.1.map encS)))]⟩) (fun m p => m_laws_toStringS_l1 m a0 p.1 p.2 = some o1) k (List.replicate (Int.toNat (a0.length : Int)) ([] : Bs), 0) (le_w [some 17] rfl ⟨⟨_, rfl, .refl _⟩, ⟨⟨_, rfl, .refl _⟩, ⟨⟨_, rfl, .refl _⟩, ⟨⟨_, rfl, .refl _⟩, trivial⟩⟩⟩⟩ ⟨⟨_, rfl, .refl _⟩, trivial⟩ (by decide)) h ?_
  rintro m1 ⟨x1, x2⟩ h
  replace h : m_laws_toStringS_l1 m1 a0 x1 x2 = some o1 := h
  refine Good.le (σ' := ⟨22, [(0, .sl false (a0.map encS)), (2, .nil), (3, .hd 17 w1), (4, .int .i64 x2)], [(17, (w1, .osl 9 1 (x1.map encS)))]⟩) (Le.refl _) ?_
  obtain ⟨m1, rfl⟩ : ∃ m', m1 = m' + 1 := by cases m1 with | zero => (rw [m_laws_toStringS_l1] at h; cases h) | succ m' => exact ⟨m', rfl⟩
  rw [m_laws_toStringS_l1] at h
  refine good_seq fun K6 hK6 => ?_
  refine good_seq fun K7 hK7 => ?_
  refine good_region ?_
  refine g_op rfl (ValOk.op (v_move rfl rfl ?_)) 
  refine g_op rfl (ValOk.op (v_move rfl rfl ?_)) 
  refine g_op rfl (ValOk.op (v_lenM (l := a0) (f := encS) tabOk rfl rfl telem23 rfl ?_)) 
  refine g_op rfl (ValOk.op (v_bin rfl rfl rfl rfl ?_)) 
  refine g_nil ?_
  refine hK7 _ ?_
  refine Good.le (σ' := ⟨22, [(0, _), (2, _), (3, _), (4, _), (11, _)], [(17, (_, _))]⟩) (le_w [some 17] rfl ⟨⟨_, rfl, .refl _⟩, ⟨⟨_, rfl, .refl _⟩, ⟨⟨_, rfl, .refl _⟩, ⟨⟨_, rfl, .refl _⟩, ⟨⟨_, rfl, .refl _⟩, trivial⟩⟩⟩⟩⟩ ⟨⟨_, rfl, .refl _⟩, trivial⟩ (by decide)) ?_
  refine good_cond rfl (fun hc1 => ?_) (fun hc1 => ?_)
  · replace h := ifT h (dT hc1)
    refine good_skip ?_
    refine hK6 _ ?_
    refine Good.le (σ' := ⟨22, [(0, _), (2, _), (3, _), (4, _)], [(17, (_, _))]⟩) (le_w [some 17] rfl ⟨⟨_, rfl, .refl _⟩, ⟨⟨_, rfl, .refl _⟩, ⟨⟨_, rfl, .refl _⟩, ⟨⟨_, rfl, .refl _⟩, trivial⟩⟩⟩⟩ ⟨⟨_, rfl, .refl _⟩, trivial⟩ (by decide)) ?_
    refine good_seq fun K8 hK8 => ?_
    refine good_block ?_
    refine good_region ?_
    refine g_op rfl (ValOk.op (v_move rfl rfl ?_)) 
    refine g_op rfl (ValOk.op (v_move rfl rfl ?_)) 
    refine g_op rfl (ValOk.op (v_move rfl rfl ?_)) 
    refine g_op rfl (ValOk.op (v_move rfl rfl ?_)) 
    obtain ⟨hb3, h⟩ := ifS h
    refine g_op rfl (ValOk.op (v_idxM tabOk rfl rfl telem23 tsize9 hb3 rfl rfl rfl ?_)) 
    refine g_op rfl (ValOk.op (v_loadE tabOk rfl tsize9 tagg9 rfl rfl rfl ?_)) 
    obtain ⟨hb4, h⟩ := ifS h
    refine g_op rfl (ValOk.op (v_idxHM (q := 17) tabOk ⟨_, rfl⟩ rfl rfl telem23 tsize9 hb4 rfl ?_)) 
    refine g_op rfl (o_storeRM tabOk (z := (ix a0 x2)) rfl rfl tsize9 rfl hb4 rfl rfl rfl (by decide) rfl rfl rfl rfl ?_)
    refine g_nil ?_
    refine hK8 _ ?_
    refine Good.le (σ' := ⟨22, [(0, _), (2, _), (3, _), (4, _)], [(17, (_, _))]⟩) (le_w [some 17] rfl ⟨⟨_, rfl, .refl _⟩, ⟨⟨_, rfl, .refl _⟩, ⟨⟨_, rfl, .refl _⟩, ⟨⟨_, rfl, .refl _⟩, trivial⟩⟩⟩⟩ ⟨⟨_, rfl, .refl _⟩, trivial⟩ (by decide)) ?_
    refine good_region ?_
    refine g_op rfl (ValOk.op (v_move rfl rfl ?_)) 
    refine g_op rfl (ValOk.op (v_bin rfl rfl rfl rfl ?_)) 
    refine g_op rfl (ValOk.op (v_assign rfl rfl ?_)) 
    refine g_nil ?_
    exact round_mk m1 (x1.set (Int.toNat x2) (ix a0 x2), IntKind.wrap .i64 (x2 + 1)) (Nat.lt_succ_self _) h (le_w [some 17] rfl ⟨⟨_, rfl, .refl _⟩, ⟨⟨_, rfl, .refl _⟩, ⟨⟨_, rfl, .refl _⟩, ⟨⟨_, rfl, .refl _⟩, trivial⟩⟩⟩⟩ ⟨⟨_, rfl, .refl _⟩, trivial⟩ (by decide))
  · replace h := ifF h (dF hc1)
    refine good_exit ?_
    exact hw1 x1 (Option.some.inj h).symm _ (le_w [some 17] rfl ⟨⟨_, rfl, .refl _⟩, ⟨⟨_, rfl, .refl _⟩, trivial⟩⟩ ⟨⟨_, rfl, .refl _⟩, trivial⟩ (by decide))
theorem m_laws_toStringS_okF (k : Nat) : ∀ (a0 : (List Bs)) (r : (List Bs)), m_laws_toStringS k a0 = some r → Does Try.prog 48 [.sl false (a0.map encS)] [] (ret (.sl false (r.map encS))) := by
  intro a0 r h
  refine does_frz (m_laws_toStringS_ok k a0 r h) ?_
  rintro q h' ⟨u0, rfl, rfl⟩
  exact ⟨[100], [(_, _)], ⟨⟨_, rfl, .osl (FrzLL.map fun _ _ => encS_frz _)⟩, trivial⟩, .frz _ _ _ (.head _)⟩
mutual
def m_laws_toValue : Nat → Val → Option Val
  | 0, _ => none
  | k + 1, a0 =>
    (m_laws_toValueS k a0.list).bind fun y1 =>
    (m_laws_toStringS k a0.names).bind fun y2 =>
    some (Val.mk a0.kind a0.num a0.text y1 y2)
def m_laws_toValueS_l1 : Nat → (List Val) → (List Val) → Int → Option (Lp (List Val) (List Val))
  | 0, _, _, _ => none
  | k + 1, a0, x1, x2 =>
    if x2 < (a0.length : Int) then
      if (0 : Int) ≤ x2 ∧ x2 < (a0.length : Int) then
        (m_laws_toValue k (ix a0 x2)).bind fun y1 =>
        if (0 : Int) ≤ x2 ∧ x2 < (x1.length : Int) then
          m_laws_toValueS_l1 k a0 (x1.set (Int.toNat x2) y1) (IntKind.wrap .i64 (x2 + 1))
        else none
      else none
    else
      some (Lp.go x1)
def m_laws_toValueS : Nat → (List Val) → Option (List Val)
  | 0, _ => none
  | k + 1, a0 =>
    if (0 : Int) ≤ (a0.length : Int) ∧ 80 * (a0.length : Int) ≤ (281474976710656 : Int) then
      if (a0.length : Int) ≤ (9223372036854775807 : Int) then
        (m_laws_toValueS_l1 k a0 (List.replicate (Int.toNat (a0.length : Int)) (Val.mk 0 0 ([] : Bs) [] [])) 0).bind fun o1 =>
        o1.then fun s1 =>
    some s1
      else none
    else none
end
def P_m_laws_toValue (k : Nat) : Prop := ∀ (a0 : Val) (r : Val), m_laws_toValue k a0 = some r → Does Try.prog 17 [.agg [.int .i64 a0.kind, .int .i64 a0.num, .str a0.text, .sl false (a0.list.map encLVal), .sl false (a0.names.map encS)]] [] (fun q h' => ∃ u0 : Value, ∃ u1 : Value, q = .agg [.int .i64 r.kind, .int .i64 r.num, .str r.text, .hd 100 u0, .hd 101 u1] ∧ h' = [(100, (u0, .osl 30 5 (r.list.map encOVal))), (101, (u1, .osl 9 1 (r.names.map encS)))])
def P_m_laws_toValueS (k : Nat) : Prop := ∀ (a0 : (List Val)) (r : (List Val)), m_laws_toValueS k a0 = some r → Does Try.prog 47 [.sl false (a0.map encLVal)] [] (fun q h' => ∃ u0 : Value, q = .hd 100 u0 ∧ h' = [(100, (u0, .osl 30 5 (r.map encOVal)))])
theorem m_laws_toValue_step (k : Nat) (ih : ∀ m, m < k → P_m_laws_toValue m ∧ P_m_laws_toValueS m) : P_m_laws_toValue k := by
  intro a0 r h
  obtain ⟨k, rfl⟩ : ∃ k', k = k' + 1 := by cases k with | zero => (rw [m_laws_toValue] at h; cases h) | succ k' => exact ⟨k', rfl⟩
  rw [m_laws_toValue] at h
  refine does_of_good tabOk Try.func17 rfl (by decide +kernel) (Nat.le_of_ble_eq_true rfl) fun c => ?_
  refine Good.le (σ' := ⟨22, [(0, .agg [.int .i64 a0.kind, .int .i64 a0.num, .str a0.text, .sl false (a0.list.map encLVal), .sl false (a0.names.map encS)])], []⟩) (Le.refl _) ?_
  refine good_seq fun K1 hK1 => ?_
  refine good_region ?_
  refine g_op rfl (o_box (k := 11) tabOk rfl rfl rfl rfl rfl ?_)
  intro b1
  refine g_op rfl (o_alloc (k := 12) tabOk tzero30 rfl rfl ?_)
  intro b2
  refine g_nil ?_
  refine hK1 _ ?_
  refine Good.le (σ' := ⟨22, [(1, _), (2, _)], [(11, (_, _)), (12, (_, _))]⟩) (le_w [some 11, some 12] rfl ⟨⟨_, rfl, .refl _⟩, ⟨⟨_, rfl, .refl _⟩, trivial⟩⟩ ⟨⟨_, rfl, .refl _⟩, ⟨⟨_, rfl, .refl _⟩, trivial⟩⟩ (by decide)) ?_
  refine good_seq fun K2 hK2 => ?_
  refine good_region ?_
  refine g_op rfl (o_alloc (k := 13) tabOk tzero30 rfl rfl ?_)
  intro b3
  refine g_nil ?_
  refine hK2 _ ?_
  refine good_seq fun K3 hK3 => ?_
  refine good_region ?_
  refine g_op rfl (ValOk.op (v_fieldP tabOk rfl tfoff25_0 rfl ?_)) 
  refine g_op rfl (ValOk.op (v_loadP tabOk rfl rfl tsize3 tagg3 rfl rfl rfl rfl ?_)) 
  refine g_op rfl (ValOk.op (v_fieldP tabOk rfl tfoff30_0 rfl ?_)) 
  refine g_op rfl (o_storeP tabOk (cs' := [.int .i64 a0.kind, .int .i64 0, .str ([] : Bs), .nil, .nil]) rfl rfl tsize3 rfl rfl rfl (Nat.le_of_ble_eq_true rfl) rfl rfl rfl ?_)
  refine g_nil ?_
  refine hK3 _ ?_
  refine Good.le (σ' := ⟨22, [(1, _), (2, _), (3, _)], [(11, (_, _)), (12, (_, _)), (13, (_, _))]⟩) (le_w [some 11, some 12, some 13] rfl ⟨⟨_, rfl, .refl _⟩, ⟨⟨_, rfl, .refl _⟩, ⟨⟨_, rfl, .refl _⟩, trivial⟩⟩⟩ ⟨⟨_, rfl, .refl _⟩, ⟨⟨_, rfl, .refl _⟩, ⟨⟨_, rfl, .refl _⟩, trivial⟩⟩⟩ (by decide)) ?_
  refine good_seq fun K4 hK4 => ?_
  refine good_region ?_
  refine g_op rfl (ValOk.op (v_fieldP tabOk rfl tfoff25_1 rfl ?_)) 
  refine g_op rfl (ValOk.op (v_loadP tabOk rfl rfl tsize3 tagg3 rfl rfl rfl rfl ?_)) 
  refine g_op rfl (ValOk.op (v_fieldP tabOk rfl tfoff30_1 rfl ?_)) 
  refine g_op rfl (o_storeP tabOk (cs' := [.int .i64 a0.kind, .int .i64 a0.num, .str ([] : Bs), .nil, .nil]) rfl rfl tsize3 rfl rfl rfl (Nat.le_of_ble_eq_true rfl) rfl rfl rfl ?_)
  refine g_nil ?_
  refine hK4 _ ?_
  refine Good.le (σ' := ⟨22, [(1, _), (2, _), (3, _)], [(11, (_, _)), (12, (_, _)), (13, (_, _))]⟩) (le_w [some 11, some 12, some 13] rfl ⟨⟨_, rfl, .refl _⟩, ⟨⟨_, rfl, .refl _⟩, ⟨⟨_, rfl, .refl _⟩, trivial⟩⟩⟩ ⟨⟨_, rfl, .refl _⟩, ⟨⟨_, rfl, .refl _⟩, ⟨⟨_, rfl, .refl _⟩, trivial⟩⟩⟩ (by decide)) ?_
  refine good_seq fun K5 hK5 => ?_
  refine good_region ?_
  refine g_op rfl (ValOk.op (v_fieldP tabOk rfl tfoff25_2 rfl ?_)) 
  refine g_op rfl (ValOk.op (v_loadP tabOk rfl rfl tsize9 tagg9 rfl rfl rfl rfl ?_)) 
  refine g_op rfl (ValOk.op (v_fieldP tabOk rfl tfoff30_2 rfl ?_)) 
  refine g_op rfl (o_storeP tabOk (cs' := [.int .i64 a0.kind, .int .i64 a0.num, .str a0.text, .nil, .nil]) rfl rfl tsize9 rfl rfl rfl (Nat.le_of_ble_eq_true rfl) rfl rfl rfl ?_)
  refine g_nil ?_
  refine hK5 _ ?_
  refine Good.le (σ' := ⟨22, [(1, _), (2, _), (3, _)], [(11, (_, _)), (12, (_, _)), (13, (_, _))]⟩) (le_w [some 11, some 12, some 13] rfl ⟨⟨_, rfl, .refl _⟩, ⟨⟨_, rfl, .refl _⟩, ⟨⟨_, rfl, .refl _⟩, trivial⟩⟩⟩ ⟨⟨_, rfl, .refl _⟩, ⟨⟨_, rfl, .refl _⟩, ⟨⟨_, rfl, .refl _⟩, trivial⟩⟩⟩ (by decide)) ?_
  refine good_seq fun K6 hK6 => ?_
  refine good_region ?_
  refine g_op rfl (ValOk.op (v_fieldP tabOk rfl tfoff25_3 rfl ?_)) 
  refine g_op rfl (ValOk.op (v_loadP tabOk rfl rfl tsize22 tagg22 rfl rfl rfl rfl ?_)) 
  obtain ⟨y1, hy1, h⟩ := bnd h
  refine g_op rfl (o_callD [] [] [] (core_value rfl rfl) ((ih k (by omega)).2 a0.list _ hy1) trivial (.cons (.refl _) (.nil)) trivial rfl rfl rfl ?_)
  rintro _ _ ⟨w1, rfl, rfl⟩
  refine ⟨.hd 3001 w1, [(3001, _)], .hd _ _ _, rfl, rfl, rfl, rfl, .inl rfl, ?_⟩
  refine g_op rfl (ValOk.op (v_fieldP tabOk rfl tfoff30_3 rfl ?_)) 
  refine g_op rfl (o_storeP tabOk (cs' := [.int .i64 a0.kind, .int .i64 a0.num, .str a0.text, .hd 3001 w1, .nil]) rfl rfl tsize28 rfl rfl rfl (Nat.le_of_ble_eq_true rfl) rfl rfl rfl ?_)
  refine g_nil ?_
  refine hK6 _ ?_
  refine Good.le (σ' := ⟨22, [(1, _), (2, _), (3, _)], [(11, (_, _)), (12, (_, _)), (13, (_, _)), (3001, (_, _))]⟩) (le_w [some 11, some 12, some 13, some 3001] rfl ⟨⟨_, rfl, .refl _⟩, ⟨⟨_, rfl, .refl _⟩, ⟨⟨_, rfl, .refl _⟩, trivial⟩⟩⟩ ⟨⟨_, rfl, .refl _⟩, ⟨⟨_, rfl, .refl _⟩, ⟨⟨_, rfl, .refl _⟩, ⟨⟨_, rfl, .refl _⟩, trivial⟩⟩⟩⟩ (by decide)) ?_
  refine good_seq fun K7 hK7 => ?_
  refine good_region ?_
  refine g_op rfl (ValOk.op (v_fieldP tabOk rfl tfoff25_4 rfl ?_)) 
  refine g_op rfl (ValOk.op (v_loadP tabOk rfl rfl tsize23 tagg23 rfl rfl rfl rfl ?_)) 
  obtain ⟨y2, hy2, h⟩ := bnd h
  refine g_op rfl (o_callD [] [] [] (core_value rfl rfl) (m_laws_toStringS_ok k a0.names _ hy2) trivial (.cons (.refl _) (.nil)) trivial rfl rfl rfl ?_)
  rintro _ _ ⟨w2, rfl, rfl⟩
  refine ⟨.hd 3002 w2, [(3002, _)], .hd _ _ _, rfl, rfl, rfl, rfl, .inl rfl, ?_⟩
  refine g_op rfl (ValOk.op (v_fieldP tabOk rfl tfoff30_4 rfl ?_)) 
  refine g_op rfl (o_storeP tabOk (cs' := [.int .i64 a0.kind, .int .i64 a0.num, .str a0.text, .hd 3001 w1, .hd 3002 w2]) rfl rfl tsize23 rfl rfl rfl (Nat.le_of_ble_eq_true rfl) rfl rfl rfl ?_)
  refine g_nil ?_
  refine hK7 _ ?_
  refine Good.le (σ' := ⟨22, [(2, _), (3, _)], [(12, (_, _)), (13, (_, _)), (3001, (_, _)), (3002, (_, _))]⟩) (le_w [some 12, some 13, some 3001, some 3002] rfl ⟨⟨_, rfl, .refl _⟩, ⟨⟨_, rfl, .refl _⟩, trivial⟩⟩ ⟨⟨_, rfl, .refl _⟩, ⟨⟨_, rfl, .refl _⟩, ⟨⟨_, rfl, .refl _⟩, ⟨⟨_, rfl, .refl _⟩, trivial⟩⟩⟩⟩ (by decide)) ?_
  refine good_seq fun K8 hK8 => ?_
  refine good_region ?_
  refine g_op rfl (ValOk.op (v_loadP tabOk rfl rfl tsize30 tagg30 rfl rfl rfl rfl ?_)) 
  refine g_op rfl (o_storeP tabOk (cs' := [.int .i64 a0.kind, .int .i64 a0.num, .str a0.text, .hd 3001 w1, .hd 3002 w2]) rfl rfl tsize30 rfl rfl rfl (Nat.le_of_ble_eq_true rfl) rfl rfl rfl ?_)
  refine g_nil ?_
  refine hK8 _ ?_
  refine Good.le (σ' := ⟨22, [(2, _)], [(12, (_, _)), (3001, (_, _)), (3002, (_, _))]⟩) (le_w [some 12, some 3001, some 3002] rfl ⟨⟨_, rfl, .refl _⟩, trivial⟩ ⟨⟨_, rfl, .refl _⟩, ⟨⟨_, rfl, .refl _⟩, ⟨⟨_, rfl, .refl _⟩, trivial⟩⟩⟩ (by decide)) ?_
  refine Good.le (σ' := ⟨22, [(2, .ptr 12 b2 0)], [(100, (w1, .osl 30 5 (y1.map encOVal))), (101, (w2, .osl 9 1 (y2.map encS))), (12, ((.pointer (some ⟨b2, 0, none⟩)), .optr 30 [.int .i64 a0.kind, .int .i64 a0.num, .str a0.text, .hd 100 w1, .hd 101 w2]))]⟩) (le_w [some 3001, some 3002, some 12] rfl ⟨⟨_, rfl, .refl _⟩, trivial⟩ ⟨⟨_, rfl, .refl _⟩, ⟨⟨_, rfl, .refl _⟩, ⟨⟨_, rfl, .optr (.cons (.refl _) (.cons (.refl _) (.cons (.refl _) (.cons (.hd _ _ _) (.cons (.hd _ _ _) (.nil))))))⟩, trivial⟩⟩⟩ (by decide)) ?_
  refine good_ret ?_
  obtain rfl := Option.some.inj h
  exact endQ_ret (h' := [(100, (_, _)), (101, (_, _))]) [some 100, some 101] (.cell rfl rfl tsize30 tagg30 rfl rfl rfl (.nil)) ⟨⟨_, rfl, .refl _⟩, ⟨⟨_, rfl, .refl _⟩, trivial⟩⟩ (by decide) ⟨w1, w2, rfl, rfl⟩
theorem m_laws_toValueS_step (k : Nat) (ih : ∀ m, m < k → P_m_laws_toValue m ∧ P_m_laws_toValueS m) : P_m_laws_toValueS k := by
  intro a0 r h
  obtain ⟨k, rfl⟩ : ∃ k', k = k' + 1 := by cases k with | zero => (rw [m_laws_toValueS] at h; cases h) | succ k' => exact ⟨k', rfl⟩
  rw [m_laws_toValueS] at h
  refine does_of_good tabOk Try.func47 rfl (by decide +kernel) (Nat.le_of_ble_eq_true rfl) fun c => ?_
  refine Good.le (σ' := ⟨23, [(0, .sl false (a0.map encLVal))], []⟩) (Le.refl _) ?_
  refine good_seq fun K1 hK1 => ?_
  refine good_region ?_
  refine g_op rfl (ValOk.op (v_assign rfl rfl ?_)) 
  refine g_nil ?_
  refine hK1 _ ?_
  refine good_seq fun K2 hK2 => ?_
  refine good_region ?_
  refine g_op rfl (ValOk.op (v_move rfl rfl ?_)) 
  refine g_op rfl (ValOk.op (v_lenM (l := a0) (f := encLVal) tabOk rfl rfl telem22 rfl ?_)) 
  obtain ⟨hb1, h⟩ := ifS h
  obtain ⟨hb2, h⟩ := ifS h
  refine g_op rfl (OpOk.le (o_makeM (k := 17) (zz := ((Val.mk 0 0 ([] : Bs) [] []))) (f := fun _ : Val => ([.int .i64 0, .int .i64 0, .str ([] : Bs), .nil, .nil] : List AV)) tabOk telem28 tsize30 tbytes30 tzero30 rfl rfl rfl (by decide) (WkL.refl _) rfl rfl hb1 hb2 ?_))
  intro w1
  refine ⟨_, le_nilsR (k := 17) (rows' := (List.replicate (Int.toNat (a0.length : Int)) (Val.mk 0 0 ([] : Bs) [] [])).map encOVal) (RowsTo.repl (by simp only [encOVal_eq]; exact .cons (.refl _) (.cons (.refl _) (.cons (.refl _) (.cons (.nil _ _) (.cons (.nil _ _) (.nil))))))), ?_⟩
  refine g_op rfl (ValOk.op (v_assign rfl rfl ?_)) 
  refine g_nil ?_
  refine hK2 _ ?_
  refine Good.le (σ' := ⟨23, [(0, _), (2, _), (3, _)], [(17, (_, _))]⟩) (le_w [some 17] rfl ⟨⟨_, rfl, .refl _⟩, ⟨⟨_, rfl, .refl _⟩, ⟨⟨_, rfl, .refl _⟩, trivial⟩⟩⟩ ⟨⟨_, rfl, .refl _⟩, trivial⟩ (by decide)) ?_
  refine good_seq fun K3 hK3 => ?_
  refine good_seq fun K4 hK4 => ?_
  refine good_region ?_
  refine g_op rfl (ValOk.op (v_assign rfl rfl ?_)) 
  refine g_nil ?_
  refine hK4 _ ?_
  obtain ⟨o1, ho1, hJ1⟩ := bnd h
  have hw1 : ∀ (s1 : (List Val)), o1 = Lp.go s1 → ∀ σ', Le σ' ⟨23, [(2, .nil), (3, .hd 17 w1)], [(17, (w1, .osl 30 5 (s1.map encOVal)))]⟩ → K3 σ' := by
    intro s1 e1 σ' hle1
    subst e1
    refine hK3 _ (Good.le hle1 ?_)
    replace h := hJ1
    refine good_seq fun K5 hK5 => ?_
    refine good_region ?_
    refine g_op rfl (ValOk.op (v_move rfl rfl ?_)) 
    refine g_op rfl (ValOk.op (v_assign rfl rfl ?_)) 
    refine g_nil ?_
    refine hK5 _ ?_
    refine Good.le (σ' := ⟨23, [(2, _)], [(17, (_, _))]⟩) (le_w [some 17] rfl ⟨⟨_, rfl, .refl _⟩, trivial⟩ ⟨⟨_, rfl, .refl _⟩, trivial⟩ (by decide)) ?_
    refine Good.le (σ' := ⟨23, [(2, .hd 100 w1)], [(100, (w1, .osl 30 5 (s1.map encOVal)))]⟩) (le_w [some 17] rfl ⟨⟨_, rfl, .hd _ _ _⟩, trivial⟩ ⟨⟨_, rfl, .refl _⟩, trivial⟩ (by decide)) ?_
    refine good_ret ?_
    obtain rfl := Option.some.inj h
    exact endQ_ret (h' := [(100, (_, _))]) [some 100] (.tmp rfl (.nil)) ⟨⟨_, rfl, .refl _⟩, trivial⟩ (by decide) ⟨w1, rfl, rfl⟩
  replace h := ho1
  refine good_block ?_
  refine good_loopf (fun p : ((List Val) × Int) => ⟨23, [(0, .sl false (a0.map encLVal)), (2, .nil), (3, .hd 17 w1), (4, .int .i64 p.2)], [(17, (w1, .osl 30 5 (p.1.map encOVal)))]⟩) (fun m p => m < k + 1 ∧ m_laws_toValueS_l1 m a0 p.1 p.2 = some o1) k (List.replicate (Int.toNat (a0.length : Int)) (Val.mk 0 0 ([] : Bs) [] []), 0) (le_w [some 17] rfl ⟨⟨_, rfl, .refl _⟩, ⟨⟨_, rfl, .refl _⟩, ⟨⟨_, rfl, .refl _⟩, ⟨⟨_, rfl, .refl _⟩, trivial⟩⟩⟩⟩ ⟨⟨_, rfl, .refl _⟩, trivial⟩ (by decide)) ⟨by omega, h⟩ ?_
  rintro m1 ⟨x1, x2⟩ ⟨hm, h⟩
  replace h : m_laws_toValueS_l1 m1 a0 x1 x2 = some o1 := h
  refine Good.le (σ' := ⟨23, [(0, .sl false (a0.map encLVal)), (2, .nil), (3, .hd 17 w1), (4, .int .i64 x2)], [(17, (w1, .osl 30 5 (x1.map encOVal)))]⟩) (Le.refl _) ?_
  obtain ⟨m1, rfl⟩ : ∃ m', m1 = m' + 1 := by cases m1 with | zero => (rw [m_laws_toValueS_l1] at h; cases h) | succ m' => exact ⟨m', rfl⟩
  rw [m_laws_toValueS_l1] at h
  refine good_seq fun K6 hK6 => ?_
  refine good_seq fun K7 hK7 => ?_
  refine good_region ?_
  refine g_op rfl (ValOk.op (v_move rfl rfl ?_)) 
  refine g_op rfl (ValOk.op (v_move rfl rfl ?_)) 
  refine g_op rfl (ValOk.op (v_lenM (l := a0) (f := encLVal) tabOk rfl rfl telem22 rfl ?_)) 
  refine g_op rfl (ValOk.op (v_bin rfl rfl rfl rfl ?_)) 
  refine g_nil ?_
  refine hK7 _ ?_
  refine Good.le (σ' := ⟨23, [(0, _), (2, _), (3, _), (4, _), (11, _)], [(17, (_, _))]⟩) (le_w [some 17] rfl ⟨⟨_, rfl, .refl _⟩, ⟨⟨_, rfl, .refl _⟩, ⟨⟨_, rfl, .refl _⟩, ⟨⟨_, rfl, .refl _⟩, ⟨⟨_, rfl, .refl _⟩, trivial⟩⟩⟩⟩⟩ ⟨⟨_, rfl, .refl _⟩, trivial⟩ (by decide)) ?_
  refine good_cond rfl (fun hc1 => ?_) (fun hc1 => ?_)
  · replace h := ifT h (dT hc1)
    refine good_skip ?_
    refine hK6 _ ?_
    refine Good.le (σ' := ⟨23, [(0, _), (2, _), (3, _), (4, _)], [(17, (_, _))]⟩) (le_w [some 17] rfl ⟨⟨_, rfl, .refl _⟩, ⟨⟨_, rfl, .refl _⟩, ⟨⟨_, rfl, .refl _⟩, ⟨⟨_, rfl, .refl _⟩, trivial⟩⟩⟩⟩ ⟨⟨_, rfl, .refl _⟩, trivial⟩ (by decide)) ?_
    refine good_seq fun K8 hK8 => ?_
    refine good_block ?_
    refine good_region ?_
    refine g_op rfl (ValOk.op (v_move rfl rfl ?_)) 
    refine g_op rfl (ValOk.op (v_move rfl rfl ?_)) 
    refine g_op rfl (ValOk.op (v_move rfl rfl ?_)) 
    refine g_op rfl (ValOk.op (v_move rfl rfl ?_)) 
    obtain ⟨hb3, h⟩ := ifS h
    refine g_op rfl (ValOk.op (v_idxM tabOk rfl rfl telem22 tsize25 hb3 (encLVal_eq _) rfl rfl ?_)) 
    refine g_op rfl (ValOk.op (v_loadE tabOk rfl tsize25 tagg25 rfl rfl rfl ?_)) 
    obtain ⟨y1, hy1, h⟩ := bnd h
    refine g_op rfl (o_callD [] [] [] (core_value rfl rfl) ((ih m1 (by omega)).1 (ix a0 x2) _ hy1) trivial (.cons (.refl _) (.nil)) trivial rfl rfl rfl ?_)
    rintro _ _ ⟨w2, w3, rfl, rfl⟩
    refine ⟨.agg [.int .i64 y1.kind, .int .i64 y1.num, .str y1.text, .hd 3001 w2, .hd 3002 w3], [(3001, _), (3002, _)], .agg (.cons (.refl _) (.cons (.refl _) (.cons (.refl _) (.cons (.hd _ _ _) (.cons (.hd _ _ _) (.nil)))))), rfl, rfl, rfl, rfl, .inl rfl, ?_⟩
    obtain ⟨hb4, h⟩ := ifS h
    refine g_op rfl (ValOk.op (v_idxHM (q := 17) tabOk ⟨_, rfl⟩ rfl rfl telem28 tsize30 hb4 rfl ?_)) 
    refine g_op rfl (OpOk.le (o_storeR (row' := [.int .i64 y1.kind, .int .i64 y1.num, .str y1.text, .hd 3001 w2, .hd 3002 w3]) tabOk rfl rfl tsize30 rfl ((get_map hb4.1 hb4.2).trans (congrArg some (encOVal_eq _))) rfl rfl (by decide) rfl rfl rfl ?_))
    refine ⟨_, (Le.trans (Le.trans (Le.trans (le_absorb1 (k := 17) (k2 := 3001) (rows' := (x1.map encOVal).set (Int.toNat x2) [.int .i64 y1.kind, .int .i64 y1.num, .str y1.text, .osl 30 5 (y1.list.map encOVal), .hd 3002 w3]) (Int.toNat x2) 3 _ rfl (by decide) (rows_set_get (by have := hb4; simp only [List.length_set, List.length_map]; omega)) rfl (rows_set_set)) (le_mm (rs := [17, 3001]) rfl)) (le_absorb1 (k := 17) (k2 := 3002) (rows' := (x1.set (Int.toNat x2) y1).map encOVal) (Int.toNat x2) 4 _ rfl (by decide) (rows_set_get (by have := hb4; simp only [List.length_set, List.length_map]; omega)) rfl (rows_set_done (f := encOVal) (z := y1) (encOVal_eq _)))) (le_mm (rs := [17, 3001, 3002]) rfl)), ?_⟩
    refine g_nil ?_
    refine hK8 _ ?_
    refine Good.le (σ' := ⟨23, [(0, _), (2, _), (3, _), (4, _)], [(17, (_, _))]⟩) (le_w [some 17] rfl ⟨⟨_, rfl, .refl _⟩, ⟨⟨_, rfl, .refl _⟩, ⟨⟨_, rfl, .refl _⟩, ⟨⟨_, rfl, .refl _⟩, trivial⟩⟩⟩⟩ ⟨⟨_, rfl, .refl _⟩, trivial⟩ (by decide)) ?_
    refine good_region ?_
    refine g_op rfl (ValOk.op (v_move rfl rfl ?_)) 
    refine g_op rfl (ValOk.op (v_bin rfl rfl rfl rfl ?_)) 
    refine g_op rfl (ValOk.op (v_assign rfl rfl ?_)) 
    refine g_nil ?_
    exact round_mk m1 (x1.set (Int.toNat x2) y1, IntKind.wrap .i64 (x2 + 1)) (Nat.lt_succ_self _) ⟨by omega, h⟩ (le_w [some 17] rfl ⟨⟨_, rfl, .refl _⟩, ⟨⟨_, rfl, .refl _⟩, ⟨⟨_, rfl, .refl _⟩, ⟨⟨_, rfl, .refl _⟩, trivial⟩⟩⟩⟩ ⟨⟨_, rfl, .refl _⟩, trivial⟩ (by decide))
  · replace h := ifF h (dF hc1)
    refine good_exit ?_
    exact hw1 x1 (Option.some.inj h).symm _ (le_w [some 17] rfl ⟨⟨_, rfl, .refl _⟩, ⟨⟨_, rfl, .refl _⟩, trivial⟩⟩ ⟨⟨_, rfl, .refl _⟩, trivial⟩ (by decide))
theorem m_laws_toValue_all (k : Nat) : P_m_laws_toValue k ∧ P_m_laws_toValueS k := by
  induction k using Nat.strongRecOn with
  | _ k ih => exact ⟨m_laws_toValue_step k ih, m_laws_toValueS_step k ih⟩
theorem m_laws_toValue_ok (k : Nat) : ∀ (a0 : Val) (r : Val), m_laws_toValue k a0 = some r → Does Try.prog 17 [.agg [.int .i64 a0.kind, .int .i64 a0.num, .str a0.text, .sl false (a0.list.map encLVal), .sl false (a0.names.map encS)]] [] (fun q h' => ∃ u0 : Value, ∃ u1 : Value, q = .agg [.int .i64 r.kind, .int .i64 r.num, .str r.text, .hd 100 u0, .hd 101 u1] ∧ h' = [(100, (u0, .osl 30 5 (r.list.map encOVal))), (101, (u1, .osl 9 1 (r.names.map encS)))]) := (m_laws_toValue_all k).1
theorem m_laws_toValueS_ok (k : Nat) : ∀ (a0 : (List Val)) (r : (List Val)), m_laws_toValueS k a0 = some r → Does Try.prog 47 [.sl false (a0.map encLVal)] [] (fun q h' => ∃ u0 : Value, q = .hd 100 u0 ∧ h' = [(100, (u0, .osl 30 5 (r.map encOVal)))]) := (m_laws_toValue_all k).2
theorem m_laws_toValue_okF (k : Nat) : ∀ (a0 : Val) (r : Val), m_laws_toValue k a0 = some r → Does Try.prog 17 [.agg [.int .i64 a0.kind, .int .i64 a0.num, .str a0.text, .sl false (a0.list.map encLVal), .sl false (a0.names.map encS)]] [] (ret (.agg [.int .i64 r.kind, .int .i64 r.num, .str r.text, .sl true (r.list.map encVal), .sl false (r.names.map encS)])) := by
  intro a0 r h
  refine does_frz (m_laws_toValue_ok k a0 r h) ?_
  rintro q h' ⟨u0, u1, rfl, rfl⟩
  exact ⟨[100, 101], [(_, _), (_, _)], ⟨⟨_, rfl, .osl (FrzLL.map fun _ _ => encOVal_frz _)⟩, ⟨⟨_, rfl, .osl (FrzLL.map fun _ _ => encS_frz _)⟩, trivial⟩⟩, .agg (.cons (.refl _) (.cons (.refl _) (.cons (.refl _) (.cons (.frz _ _ _ (.head _)) (.cons (.frz _ _ _ (.tail _ (.head _))) (.nil))))))⟩
theorem m_laws_toValueS_okF (k : Nat) : ∀ (a0 : (List Val)) (r : (List Val)), m_laws_toValueS k a0 = some r → Does Try.prog 47 [.sl false (a0.map encLVal)] [] (ret (.sl true (r.map encVal))) := by
  intro a0 r h
  refine does_frz (m_laws_toValueS_ok k a0 r h) ?_
  rintro q h' ⟨u0, rfl, rfl⟩
  exact ⟨[100], [(_, _)], ⟨⟨_, rfl, .osl (FrzLL.map fun _ _ => encOVal_frz _)⟩, trivial⟩, .frz _ _ _ (.head _)⟩
def m_laws_eqStringS_l1 : Nat → (List Bs) → (List Bs) → Int → Option (Lp Unit Bool)
  | 0, _, _, _ => none
  | k + 1, a0, a1, x1 =>
    if x1 < (a0.length : Int) then
      if (0 : Int) ≤ x1 ∧ x1 < (a0.length : Int) then
        if (0 : Int) ≤ x1 ∧ x1 < (a1.length : Int) then
          if (ix a0 x1) = (ix a1 x1) then
            m_laws_eqStringS_l1 k a0 a1 (IntKind.wrap .i64 (x1 + 1))
          else
            (some false).bind fun z =>
            some (Lp.ret z)
        else none
      else none
    else
      some (Lp.go ())
def m_laws_eqStringS (k : Nat) (a0 : (List Bs)) (a1 : (List Bs)) : Option Bool :=
  if (a0.length : Int) = (a1.length : Int) then
    (m_laws_eqStringS_l1 k a0 a1 0).bind fun o1 =>
    o1.then fun s1 =>
    some true
  else
    some false
theorem m_laws_eqStringS_ok (k : Nat) : ∀ (a0 : (List Bs)) (a1 : (List Bs)) (r : Bool), m_laws_eqStringS k a0 a1 = some r → Does Try.prog 52 [.sl false (a0.map encS), .sl false (a1.map encS)] [] (ret (.bool r)) := by
  intro a0 a1 r h
  rw [m_laws_eqStringS] at h
  refine does_of_good tabOk Try.func52 rfl (by decide +kernel) (Nat.le_of_ble_eq_true rfl) fun c => ?_
  refine Good.le (σ' := ⟨26, [(0, .sl false (a0.map encS)), (1, .sl false (a1.map encS))], []⟩) (Le.refl _) ?_
  refine good_seq fun K1 hK1 => ?_
  refine good_region ?_
  refine g_op rfl (ValOk.op (v_assign rfl rfl ?_)) 
  refine g_nil ?_
  refine hK1 _ ?_
  refine good_seq fun K2 hK2 => ?_
  refine good_seq fun K3 hK3 => ?_
  refine good_region ?_
  refine g_op rfl (ValOk.op (v_move rfl rfl ?_)) 
  refine g_op rfl (ValOk.op (v_lenM (l := a0) (f := encS) tabOk rfl rfl telem23 rfl ?_)) 
  refine g_op rfl (ValOk.op (v_move rfl rfl ?_)) 
  refine g_op rfl (ValOk.op (v_lenM (l := a1) (f := encS) tabOk rfl rfl telem23 rfl ?_)) 
  refine g_op rfl (ValOk.op (v_bin rfl rfl rfl rfl ?_)) 
  refine g_nil ?_
  refine hK3 _ ?_
  refine Good.le (σ' := ⟨26, [(0, _), (1, _), (4, _), (10, _)], []⟩) (le_w [] rfl ⟨⟨_, rfl, .refl _⟩, ⟨⟨_, rfl, .refl _⟩, ⟨⟨_, rfl, .refl _⟩, ⟨⟨_, rfl, .refl _⟩, trivial⟩⟩⟩⟩ trivial (by decide)) ?_
  refine good_cond rfl (fun hc1 => ?_) (fun hc1 => ?_)
  · replace h := ifF h (ndT hc1)
    refine good_seq fun K4 hK4 => ?_
    refine good_region ?_
    refine g_op rfl (ValOk.op (v_assign rfl rfl ?_)) 
    refine g_nil ?_
    refine hK4 _ ?_
    refine Good.le (σ' := ⟨26, [(0, _), (1, _), (4, _)], []⟩) (le_w [] rfl ⟨⟨_, rfl, .refl _⟩, ⟨⟨_, rfl, .refl _⟩, ⟨⟨_, rfl, .refl _⟩, trivial⟩⟩⟩ trivial (by decide)) ?_
    refine Good.le (σ' := ⟨26, [(4, .bool false)], []⟩) (le_w [] rfl ⟨⟨_, rfl, .refl _⟩, trivial⟩ trivial (by decide)) ?_
    refine good_ret ?_
    obtain rfl := Option.some.inj h
    refine thenQ_ret ?_
    exact endQ_ret (h' := []) [] (.tmp rfl (.nil)) trivial (by decide) ⟨rfl, rfl⟩
  · replace h := ifT h (ndF hc1)
    refine good_skip ?_
    refine hK2 _ ?_
    refine Good.le (σ' := ⟨26, [(0, _), (1, _), (4, _)], []⟩) (le_w [] rfl ⟨⟨_, rfl, .refl _⟩, ⟨⟨_, rfl, .refl _⟩, ⟨⟨_, rfl, .refl _⟩, trivial⟩⟩⟩ trivial (by decide)) ?_
    refine good_seq fun K5 hK5 => ?_
    refine good_seq fun K6 hK6 => ?_
    refine good_region ?_
    refine g_op rfl (ValOk.op (v_assign rfl rfl ?_)) 
    refine g_nil ?_
    refine hK6 _ ?_
    obtain ⟨o1, ho1, hJ1⟩ := bnd h
    have hw1 : ∀ (s1 : Unit), o1 = Lp.go s1 → ∀ σ', Le σ' ⟨26, [(4, .bool false)], []⟩ → K5 σ' := by
      intro s1 e1 σ' hle1
      subst e1
      refine hK5 _ (Good.le hle1 ?_)
      replace h := hJ1
      refine good_seq fun K7 hK7 => ?_
      refine good_region ?_
      refine g_op rfl (ValOk.op (v_assign rfl rfl ?_)) 
      refine g_nil ?_
      refine hK7 _ ?_
      refine Good.le (σ' := ⟨26, [(4, .bool true)], []⟩) (le_w [] rfl ⟨⟨_, rfl, .refl _⟩, trivial⟩ trivial (by decide)) ?_
      refine good_ret ?_
      obtain rfl := Option.some.inj h
      exact endQ_ret (h' := []) [] (.tmp rfl (.nil)) trivial (by decide) ⟨rfl, rfl⟩
    replace h := ho1
    refine good_block ?_
    refine good_loopf (fun p : Int => ⟨26, [(0, .sl false (a0.map encS)), (1, .sl false (a1.map encS)), (4, .bool false), (5, .int .i64 p)], []⟩) (fun m p => m_laws_eqStringS_l1 m a0 a1 p = some o1) k (0) (le_w [] rfl ⟨⟨_, rfl, .refl _⟩, ⟨⟨_, rfl, .refl _⟩, ⟨⟨_, rfl, .refl _⟩, ⟨⟨_, rfl, .refl _⟩, trivial⟩⟩⟩⟩ trivial (by decide)) h ?_
    rintro m1 x1 h
    replace h : m_laws_eqStringS_l1 m1 a0 a1 x1 = some o1 := h
    refine Good.le (σ' := ⟨26, [(0, .sl false (a0.map encS)), (1, .sl false (a1.map encS)), (4, .bool false), (5, .int .i64 x1)], []⟩) (Le.refl _) ?_
    obtain ⟨m1, rfl⟩ : ∃ m', m1 = m' + 1 := by cases m1 with | zero => (rw [m_laws_eqStringS_l1] at h; cases h) | succ m' => exact ⟨m', rfl⟩
    rw [m_laws_eqStringS_l1] at h
    refine good_seq fun K8 hK8 => ?_
    refine good_seq fun K9 hK9 => ?_
    refine good_region ?_
    refine g_op rfl (ValOk.op (v_move rfl rfl ?_)) 
    refine g_op rfl (ValOk.op (v_move rfl rfl ?_)) 
    refine g_op rfl (ValOk.op (v_lenM (l := a0) (f := encS) tabOk rfl rfl telem23 rfl ?_)) 
    refine g_op rfl (ValOk.op (v_bin rfl rfl rfl rfl ?_)) 
    refine g_nil ?_
    refine hK9 _ ?_
    refine Good.le (σ' := ⟨26, [(0, _), (1, _), (4, _), (5, _), (14, _)], []⟩) (le_w [] rfl ⟨⟨_, rfl, .refl _⟩, ⟨⟨_, rfl, .refl _⟩, ⟨⟨_, rfl, .refl _⟩, ⟨⟨_, rfl, .refl _⟩, ⟨⟨_, rfl, .refl _⟩, trivial⟩⟩⟩⟩⟩ trivial (by decide)) ?_
    refine good_cond rfl (fun hc2 => ?_) (fun hc2 => ?_)
    · replace h := ifT h (dT hc2)
      refine good_skip ?_
      refine hK8 _ ?_
      refine Good.le (σ' := ⟨26, [(0, _), (1, _), (4, _), (5, _)], []⟩) (le_w [] rfl ⟨⟨_, rfl, .refl _⟩, ⟨⟨_, rfl, .refl _⟩, ⟨⟨_, rfl, .refl _⟩, ⟨⟨_, rfl, .refl _⟩, trivial⟩⟩⟩⟩ trivial (by decide)) ?_
      refine good_seq fun K10 hK10 => ?_
      refine good_block ?_
      refine good_seq fun K11 hK11 => ?_
      refine good_draw (by kernel_rfl) (by kernel_rfl) ?_
      refine q_op rfl (v_move rfl rfl ?_) 
      refine q_op rfl (v_move rfl rfl ?_) 
      obtain ⟨hb1, h⟩ := ifS h
      refine q_op rfl (v_idxM tabOk rfl rfl telem23 tsize9 hb1 rfl rfl rfl ?_) 
      refine q_op rfl (v_loadE tabOk rfl tsize9 tagg9 rfl rfl rfl ?_) 
      refine q_op rfl (v_move rfl rfl ?_) 
      refine q_op rfl (v_move rfl rfl ?_) 
      obtain ⟨hb2, h⟩ := ifS h
      refine q_op rfl (v_idxM tabOk rfl rfl telem23 tsize9 hb2 rfl rfl rfl ?_) 
      refine q_op rfl (v_loadE tabOk rfl tsize9 tagg9 rfl rfl rfl ?_) 
      refine q_op rfl (v_bin rfl rfl rfl rfl ?_) 
      refine q_nil ?_
      refine hK11 _ ?_
      refine Good.le (σ' := ⟨26, [(0, _), (1, _), (4, _), (5, _), (25, _)], []⟩) (le_w [] rfl ⟨⟨_, rfl, .refl _⟩, ⟨⟨_, rfl, .refl _⟩, ⟨⟨_, rfl, .refl _⟩, ⟨⟨_, rfl, .refl _⟩, ⟨⟨_, rfl, .refl _⟩, trivial⟩⟩⟩⟩⟩ trivial (by decide)) ?_
      refine good_cond rfl (fun hc3 => ?_) (fun hc3 => ?_)
      · replace h := ifF h (ndT hc3)
        refine good_seq fun K12 hK12 => ?_
        refine good_region ?_
        refine g_op rfl (ValOk.op (v_assign rfl rfl ?_)) 
        refine g_nil ?_
        refine hK12 _ ?_
        refine Good.le (σ' := ⟨26, [(0, _), (1, _), (4, _), (5, _)], []⟩) (le_w [] rfl ⟨⟨_, rfl, .refl _⟩, ⟨⟨_, rfl, .refl _⟩, ⟨⟨_, rfl, .refl _⟩, ⟨⟨_, rfl, .refl _⟩, trivial⟩⟩⟩⟩ trivial (by decide)) ?_
        refine Good.le (σ' := ⟨26, [(4, .bool false)], []⟩) (le_w [] rfl ⟨⟨_, rfl, .refl _⟩, trivial⟩ trivial (by decide)) ?_
        refine good_ret ?_
        replace h := unret h hJ1
        obtain rfl := Option.some.inj h
        refine blockQ_ret ?_
        refine thenQ_ret ?_
        refine thenQ_ret ?_
        refine blockQ_ret ?_
        refine thenQ_ret ?_
        exact endQ_ret (h' := []) [] (.tmp rfl (.nil)) trivial (by decide) ⟨rfl, rfl⟩
      · replace h := ifT h (ndF hc3)
        refine good_skip ?_
        refine hK10 _ ?_
        refine Good.le (σ' := ⟨26, [(0, _), (1, _), (4, _), (5, _)], []⟩) (le_w [] rfl ⟨⟨_, rfl, .refl _⟩, ⟨⟨_, rfl, .refl _⟩, ⟨⟨_, rfl, .refl _⟩, ⟨⟨_, rfl, .refl _⟩, trivial⟩⟩⟩⟩ trivial (by decide)) ?_
        refine good_region ?_
        refine g_op rfl (ValOk.op (v_move rfl rfl ?_)) 
        refine g_op rfl (ValOk.op (v_bin rfl rfl rfl rfl ?_)) 
        refine g_op rfl (ValOk.op (v_assign rfl rfl ?_)) 
        refine g_nil ?_
        exact round_mk m1 (IntKind.wrap .i64 (x1 + 1)) (Nat.lt_succ_self _) h (le_w [] rfl ⟨⟨_, rfl, .refl _⟩, ⟨⟨_, rfl, .refl _⟩, ⟨⟨_, rfl, .refl _⟩, ⟨⟨_, rfl, .refl _⟩, trivial⟩⟩⟩⟩ trivial (by decide))
    · replace h := ifF h (dF hc2)
      refine good_exit ?_
      exact hw1 () (Option.some.inj h).symm _ (le_w [] rfl ⟨⟨_, rfl, .refl _⟩, trivial⟩ trivial (by decide))
mutual
def m_laws_eqValue : Nat → Val → Val → Option Bool
  | 0, _, _ => none
  | k + 1, a0, a1 =>
    if a0.kind = a1.kind then
      if a0.num = a1.num then
        if a0.text = a1.text then
          (m_laws_eqValueS k a0.list a1.list).bind fun y1 =>
          if y1 = true then
            (m_laws_eqStringS k a0.names a1.names).bind fun y2 =>
            if y2 = true then
              some true
            else
              some false
          else
            some false
        else
          some false
      else
        some false
    else
      some false
def m_laws_eqValueS_l1 : Nat → (List Val) → (List Val) → Int → Option (Lp Unit Bool)
  | 0, _, _, _ => none
  | k + 1, a0, a1, x1 =>
    if x1 < (a0.length : Int) then
      if (0 : Int) ≤ x1 ∧ x1 < (a0.length : Int) then
        if (0 : Int) ≤ x1 ∧ x1 < (a1.length : Int) then
          (m_laws_eqValue k (ix a0 x1) (ix a1 x1)).bind fun y1 =>
          if y1 = true then
            m_laws_eqValueS_l1 k a0 a1 (IntKind.wrap .i64 (x1 + 1))
          else
            (some false).bind fun z =>
            some (Lp.ret z)
        else none
      else none
    else
      some (Lp.go ())
def m_laws_eqValueS : Nat → (List Val) → (List Val) → Option Bool
  | 0, _, _ => none
  | k + 1, a0, a1 =>
    if (a0.length : Int) = (a1.length : Int) then
      (m_laws_eqValueS_l1 k a0 a1 0).bind fun o1 =>
      o1.then fun s1 =>
    some true
    else
      some false
end
def P_m_laws_eqValue (k : Nat) : Prop := ∀ (a0 : Val) (a1 : Val) (r : Bool), m_laws_eqValue k a0 a1 = some r → Does Try.prog 19 [.agg [.int .i64 a0.kind, .int .i64 a0.num, .str a0.text, .sl true (a0.list.map encVal), .sl false (a0.names.map encS)], .agg [.int .i64 a1.kind, .int .i64 a1.num, .str a1.text, .sl true (a1.list.map encVal), .sl false (a1.names.map encS)]] [] (ret (.bool r))
def P_m_laws_eqValueS (k : Nat) : Prop := ∀ (a0 : (List Val)) (a1 : (List Val)) (r : Bool), m_laws_eqValueS k a0 a1 = some r → Does Try.prog 51 [.sl true (a0.map encVal), .sl true (a1.map encVal)] [] (ret (.bool r))
theorem m_laws_eqValue_step (k : Nat) (ih : ∀ m, m < k → P_m_laws_eqValue m ∧ P_m_laws_eqValueS m) : P_m_laws_eqValue k := by
  intro a0 a1 r h
  obtain ⟨k, rfl⟩ : ∃ k', k = k' + 1 := by cases k with | zero => (rw [m_laws_eqValue] at h; cases h) | succ k' => exact ⟨k', rfl⟩
  rw [m_laws_eqValue] at h
  refine does_of_good tabOk Try.func19 rfl (by decide +kernel) (Nat.le_of_ble_eq_true rfl) fun c => ?_
  refine Good.le (σ' := ⟨32, [(0, .agg [.int .i64 a0.kind, .int .i64 a0.num, .str a0.text, .sl true (a0.list.map encVal), .sl false (a0.names.map encS)]), (1, .agg [.int .i64 a1.kind, .int .i64 a1.num, .str a1.text, .sl true (a1.list.map encVal), .sl false (a1.names.map encS)])], []⟩) (Le.refl _) ?_
  refine good_seq fun K1 hK1 => ?_
  refine good_region ?_
  refine g_op rfl (o_box (k := 12) tabOk rfl rfl rfl rfl rfl ?_)
  intro b1
  refine g_op rfl (o_box (k := 13) tabOk rfl rfl rfl rfl rfl ?_)
  intro b2
  refine g_op rfl (ValOk.op (v_assign rfl rfl ?_)) 
  refine g_nil ?_
  refine hK1 _ ?_
  refine Good.le (σ' := ⟨32, [(2, _), (3, _), (4, _)], [(12, (_, _)), (13, (_, _))]⟩) (le_w [some 12, some 13] rfl ⟨⟨_, rfl, .refl _⟩, ⟨⟨_, rfl, .refl _⟩, ⟨⟨_, rfl, .refl _⟩, trivial⟩⟩⟩ ⟨⟨_, rfl, .refl _⟩, ⟨⟨_, rfl, .refl _⟩, trivial⟩⟩ (by decide)) ?_
  refine good_seq fun K2 hK2 => ?_
  refine good_seq fun K3 hK3 => ?_
  refine good_region ?_
  refine g_op rfl (ValOk.op (v_fieldP tabOk rfl tfoff30_0 rfl ?_)) 
  refine g_op rfl (ValOk.op (v_loadP tabOk rfl rfl tsize3 tagg3 rfl rfl rfl rfl ?_)) 
  refine g_op rfl (ValOk.op (v_fieldP tabOk rfl tfoff30_0 rfl ?_)) 
  refine g_op rfl (ValOk.op (v_loadP tabOk rfl rfl tsize3 tagg3 rfl rfl rfl rfl ?_)) 
  refine g_op rfl (ValOk.op (v_bin rfl rfl rfl rfl ?_)) 
  refine g_nil ?_
  refine hK3 _ ?_
  refine Good.le (σ' := ⟨32, [(2, _), (3, _), (4, _), (9, _)], [(12, (_, _)), (13, (_, _))]⟩) (le_w [some 12, some 13] rfl ⟨⟨_, rfl, .refl _⟩, ⟨⟨_, rfl, .refl _⟩, ⟨⟨_, rfl, .refl _⟩, ⟨⟨_, rfl, .refl _⟩, trivial⟩⟩⟩⟩ ⟨⟨_, rfl, .refl _⟩, ⟨⟨_, rfl, .refl _⟩, trivial⟩⟩ (by decide)) ?_
  refine good_cond rfl (fun hc1 => ?_) (fun hc1 => ?_)
  · replace h := ifF h (ndT hc1)
    refine good_seq fun K4 hK4 => ?_
    refine good_region ?_
    refine g_op rfl (ValOk.op (v_assign rfl rfl ?_)) 
    refine g_nil ?_
    refine hK4 _ ?_
    refine Good.le (σ' := ⟨32, [(2, _), (3, _), (4, _)], [(12, (_, _)), (13, (_, _))]⟩) (le_w [some 12, some 13] rfl ⟨⟨_, rfl, .refl _⟩, ⟨⟨_, rfl, .refl _⟩, ⟨⟨_, rfl, .refl _⟩, trivial⟩⟩⟩ ⟨⟨_, rfl, .refl _⟩, ⟨⟨_, rfl, .refl _⟩, trivial⟩⟩ (by decide)) ?_
    refine Good.le (σ' := ⟨32, [(4, .bool false)], []⟩) (le_w [] rfl ⟨⟨_, rfl, .refl _⟩, trivial⟩ trivial (by decide)) ?_
    refine good_ret ?_
    obtain rfl := Option.some.inj h
    refine thenQ_ret ?_
    exact endQ_ret (h' := []) [] (.tmp rfl (.nil)) trivial (by decide) ⟨rfl, rfl⟩
  · replace h := ifT h (ndF hc1)
    refine good_skip ?_
    refine hK2 _ ?_
    refine Good.le (σ' := ⟨32, [(2, _), (3, _), (4, _)], [(12, (_, _)), (13, (_, _))]⟩) (le_w [some 12, some 13] rfl ⟨⟨_, rfl, .refl _⟩, ⟨⟨_, rfl, .refl _⟩, ⟨⟨_, rfl, .refl _⟩, trivial⟩⟩⟩ ⟨⟨_, rfl, .refl _⟩, ⟨⟨_, rfl, .refl _⟩, trivial⟩⟩ (by decide)) ?_
    refine good_seq fun K5 hK5 => ?_
    refine good_seq fun K6 hK6 => ?_
    refine good_region ?_
    refine g_op rfl (ValOk.op (v_fieldP tabOk rfl tfoff30_1 rfl ?_)) 
    refine g_op rfl (ValOk.op (v_loadP tabOk rfl rfl tsize3 tagg3 rfl rfl rfl rfl ?_)) 
    refine g_op rfl (ValOk.op (v_fieldP tabOk rfl tfoff30_1 rfl ?_)) 
    refine g_op rfl (ValOk.op (v_loadP tabOk rfl rfl tsize3 tagg3 rfl rfl rfl rfl ?_)) 
    refine g_op rfl (ValOk.op (v_bin rfl rfl rfl rfl ?_)) 
    refine g_nil ?_
    refine hK6 _ ?_
    refine Good.le (σ' := ⟨32, [(2, _), (3, _), (4, _), (14, _)], [(12, (_, _)), (13, (_, _))]⟩) (le_w [some 12, some 13] rfl ⟨⟨_, rfl, .refl _⟩, ⟨⟨_, rfl, .refl _⟩, ⟨⟨_, rfl, .refl _⟩, ⟨⟨_, rfl, .refl _⟩, trivial⟩⟩⟩⟩ ⟨⟨_, rfl, .refl _⟩, ⟨⟨_, rfl, .refl _⟩, trivial⟩⟩ (by decide)) ?_
    refine good_cond rfl (fun hc2 => ?_) (fun hc2 => ?_)
    · replace h := ifF h (ndT hc2)
      refine good_seq fun K7 hK7 => ?_
      refine good_region ?_
      refine g_op rfl (ValOk.op (v_assign rfl rfl ?_)) 
      refine g_nil ?_
      refine hK7 _ ?_
      refine Good.le (σ' := ⟨32, [(2, _), (3, _), (4, _)], [(12, (_, _)), (13, (_, _))]⟩) (le_w [some 12, some 13] rfl ⟨⟨_, rfl, .refl _⟩, ⟨⟨_, rfl, .refl _⟩, ⟨⟨_, rfl, .refl _⟩, trivial⟩⟩⟩ ⟨⟨_, rfl, .refl _⟩, ⟨⟨_, rfl, .refl _⟩, trivial⟩⟩ (by decide)) ?_
      refine Good.le (σ' := ⟨32, [(4, .bool false)], []⟩) (le_w [] rfl ⟨⟨_, rfl, .refl _⟩, trivial⟩ trivial (by decide)) ?_
      refine good_ret ?_
      obtain rfl := Option.some.inj h
      refine thenQ_ret ?_
      exact endQ_ret (h' := []) [] (.tmp rfl (.nil)) trivial (by decide) ⟨rfl, rfl⟩
    · replace h := ifT h (ndF hc2)
      refine good_skip ?_
      refine hK5 _ ?_
      refine Good.le (σ' := ⟨32, [(2, _), (3, _), (4, _)], [(12, (_, _)), (13, (_, _))]⟩) (le_w [some 12, some 13] rfl ⟨⟨_, rfl, .refl _⟩, ⟨⟨_, rfl, .refl _⟩, ⟨⟨_, rfl, .refl _⟩, trivial⟩⟩⟩ ⟨⟨_, rfl, .refl _⟩, ⟨⟨_, rfl, .refl _⟩, trivial⟩⟩ (by decide)) ?_
      refine good_seq fun K8 hK8 => ?_
      refine good_seq fun K9 hK9 => ?_
      refine good_region ?_
      refine g_op rfl (ValOk.op (v_fieldP tabOk rfl tfoff30_2 rfl ?_)) 
      refine g_op rfl (ValOk.op (v_loadP tabOk rfl rfl tsize9 tagg9 rfl rfl rfl rfl ?_)) 
      refine g_op rfl (ValOk.op (v_fieldP tabOk rfl tfoff30_2 rfl ?_)) 
      refine g_op rfl (ValOk.op (v_loadP tabOk rfl rfl tsize9 tagg9 rfl rfl rfl rfl ?_)) 
      refine g_op rfl (ValOk.op (v_bin rfl rfl rfl rfl ?_)) 
      refine g_nil ?_
      refine hK9 _ ?_
      refine Good.le (σ' := ⟨32, [(2, _), (3, _), (4, _), (19, _)], [(12, (_, _)), (13, (_, _))]⟩) (le_w [some 12, some 13] rfl ⟨⟨_, rfl, .refl _⟩, ⟨⟨_, rfl, .refl _⟩, ⟨⟨_, rfl, .refl _⟩, ⟨⟨_, rfl, .refl _⟩, trivial⟩⟩⟩⟩ ⟨⟨_, rfl, .refl _⟩, ⟨⟨_, rfl, .refl _⟩, trivial⟩⟩ (by decide)) ?_
      refine good_cond rfl (fun hc3 => ?_) (fun hc3 => ?_)
      · replace h := ifF h (ndT hc3)
        refine good_seq fun K10 hK10 => ?_
        refine good_region ?_
        refine g_op rfl (ValOk.op (v_assign rfl rfl ?_)) 
        refine g_nil ?_
        refine hK10 _ ?_
        refine Good.le (σ' := ⟨32, [(2, _), (3, _), (4, _)], [(12, (_, _)), (13, (_, _))]⟩) (le_w [some 12, some 13] rfl ⟨⟨_, rfl, .refl _⟩, ⟨⟨_, rfl, .refl _⟩, ⟨⟨_, rfl, .refl _⟩, trivial⟩⟩⟩ ⟨⟨_, rfl, .refl _⟩, ⟨⟨_, rfl, .refl _⟩, trivial⟩⟩ (by decide)) ?_
        refine Good.le (σ' := ⟨32, [(4, .bool false)], []⟩) (le_w [] rfl ⟨⟨_, rfl, .refl _⟩, trivial⟩ trivial (by decide)) ?_
        refine good_ret ?_
        obtain rfl := Option.some.inj h
        refine thenQ_ret ?_
        exact endQ_ret (h' := []) [] (.tmp rfl (.nil)) trivial (by decide) ⟨rfl, rfl⟩
      · replace h := ifT h (ndF hc3)
        refine good_skip ?_
        refine hK8 _ ?_
        refine Good.le (σ' := ⟨32, [(2, _), (3, _), (4, _)], [(12, (_, _)), (13, (_, _))]⟩) (le_w [some 12, some 13] rfl ⟨⟨_, rfl, .refl _⟩, ⟨⟨_, rfl, .refl _⟩, ⟨⟨_, rfl, .refl _⟩, trivial⟩⟩⟩ ⟨⟨_, rfl, .refl _⟩, ⟨⟨_, rfl, .refl _⟩, trivial⟩⟩ (by decide)) ?_
        refine good_seq fun K11 hK11 => ?_
        refine good_seq fun K12 hK12 => ?_
        refine good_region ?_
        refine g_op rfl (ValOk.op (v_fieldP tabOk rfl tfoff30_3 rfl ?_)) 
        refine g_op rfl (ValOk.op (v_loadP tabOk rfl rfl tsize28 tagg28 rfl rfl rfl rfl ?_)) 
        refine g_op rfl (ValOk.op (v_fieldP tabOk rfl tfoff30_3 rfl ?_)) 
        refine g_op rfl (ValOk.op (v_loadP tabOk rfl rfl tsize28 tagg28 rfl rfl rfl rfl ?_)) 
        obtain ⟨y1, hy1, h⟩ := bnd h
        refine g_op rfl (o_callR [] [] (core_value rfl rfl) ((ih k (by omega)).2 a0.list a1.list _ hy1) trivial (.cons (.refl _) (.cons (.refl _) (.nil))) (.inl rfl) rfl ?_)
        refine g_op rfl (ValOk.op (v_not rfl rfl ?_)) 
        refine g_nil ?_
        refine hK12 _ ?_
        refine Good.le (σ' := ⟨32, [(2, _), (3, _), (4, _), (25, _)], [(12, (_, _)), (13, (_, _))]⟩) (le_w [some 12, some 13] rfl ⟨⟨_, rfl, .refl _⟩, ⟨⟨_, rfl, .refl _⟩, ⟨⟨_, rfl, .refl _⟩, ⟨⟨_, rfl, .refl _⟩, trivial⟩⟩⟩⟩ ⟨⟨_, rfl, .refl _⟩, ⟨⟨_, rfl, .refl _⟩, trivial⟩⟩ (by decide)) ?_
        refine good_cond rfl (fun hc4 => ?_) (fun hc4 => ?_)
        · replace h := bF h (nT hc4)
          refine good_seq fun K13 hK13 => ?_
          refine good_region ?_
          refine g_op rfl (ValOk.op (v_assign rfl rfl ?_)) 
          refine g_nil ?_
          refine hK13 _ ?_
          refine Good.le (σ' := ⟨32, [(2, _), (3, _), (4, _)], [(12, (_, _)), (13, (_, _))]⟩) (le_w [some 12, some 13] rfl ⟨⟨_, rfl, .refl _⟩, ⟨⟨_, rfl, .refl _⟩, ⟨⟨_, rfl, .refl _⟩, trivial⟩⟩⟩ ⟨⟨_, rfl, .refl _⟩, ⟨⟨_, rfl, .refl _⟩, trivial⟩⟩ (by decide)) ?_
          refine Good.le (σ' := ⟨32, [(4, .bool false)], []⟩) (le_w [] rfl ⟨⟨_, rfl, .refl _⟩, trivial⟩ trivial (by decide)) ?_
          refine good_ret ?_
          obtain rfl := Option.some.inj h
          refine thenQ_ret ?_
          exact endQ_ret (h' := []) [] (.tmp rfl (.nil)) trivial (by decide) ⟨rfl, rfl⟩
        · replace h := ifT h (nF hc4)
          refine good_skip ?_
          refine hK11 _ ?_
          refine Good.le (σ' := ⟨32, [(2, _), (3, _), (4, _)], [(12, (_, _)), (13, (_, _))]⟩) (le_w [some 12, some 13] rfl ⟨⟨_, rfl, .refl _⟩, ⟨⟨_, rfl, .refl _⟩, ⟨⟨_, rfl, .refl _⟩, trivial⟩⟩⟩ ⟨⟨_, rfl, .refl _⟩, ⟨⟨_, rfl, .refl _⟩, trivial⟩⟩ (by decide)) ?_
          refine good_seq fun K14 hK14 => ?_
          refine good_seq fun K15 hK15 => ?_
          refine good_region ?_
          refine g_op rfl (ValOk.op (v_fieldP tabOk rfl tfoff30_4 rfl ?_)) 
          refine g_op rfl (ValOk.op (v_loadP tabOk rfl rfl tsize23 tagg23 rfl rfl rfl rfl ?_)) 
          refine g_op rfl (ValOk.op (v_fieldP tabOk rfl tfoff30_4 rfl ?_)) 
          refine g_op rfl (ValOk.op (v_loadP tabOk rfl rfl tsize23 tagg23 rfl rfl rfl rfl ?_)) 
          obtain ⟨y2, hy2, h⟩ := bnd h
          refine g_op rfl (o_callR [] [] (core_value rfl rfl) (m_laws_eqStringS_ok k a0.names a1.names _ hy2) trivial (.cons (.refl _) (.cons (.refl _) (.nil))) (.inl rfl) rfl ?_)
          refine g_op rfl (ValOk.op (v_not rfl rfl ?_)) 
          refine g_nil ?_
          refine hK15 _ ?_
          refine Good.le (σ' := ⟨32, [(4, _), (31, _)], []⟩) (le_w [] rfl ⟨⟨_, rfl, .refl _⟩, ⟨⟨_, rfl, .refl _⟩, trivial⟩⟩ trivial (by decide)) ?_
          refine good_cond rfl (fun hc5 => ?_) (fun hc5 => ?_)
          · replace h := bF h (nT hc5)
            refine good_seq fun K16 hK16 => ?_
            refine good_region ?_
            refine g_op rfl (ValOk.op (v_assign rfl rfl ?_)) 
            refine g_nil ?_
            refine hK16 _ ?_
            refine Good.le (σ' := ⟨32, [(4, _)], []⟩) (le_w [] rfl ⟨⟨_, rfl, .refl _⟩, trivial⟩ trivial (by decide)) ?_
            refine Good.le (σ' := ⟨32, [(4, .bool false)], []⟩) (le_w [] rfl ⟨⟨_, rfl, .refl _⟩, trivial⟩ trivial (by decide)) ?_
            refine good_ret ?_
            obtain rfl := Option.some.inj h
            refine thenQ_ret ?_
            exact endQ_ret (h' := []) [] (.tmp rfl (.nil)) trivial (by decide) ⟨rfl, rfl⟩
          · replace h := ifT h (nF hc5)
            refine good_skip ?_
            refine hK14 _ ?_
            refine Good.le (σ' := ⟨32, [(4, _)], []⟩) (le_w [] rfl ⟨⟨_, rfl, .refl _⟩, trivial⟩ trivial (by decide)) ?_
            refine good_seq fun K17 hK17 => ?_
            refine good_region ?_
            refine g_op rfl (ValOk.op (v_assign rfl rfl ?_)) 
            refine g_nil ?_
            refine hK17 _ ?_
            refine Good.le (σ' := ⟨32, [(4, .bool true)], []⟩) (le_w [] rfl ⟨⟨_, rfl, .refl _⟩, trivial⟩ trivial (by decide)) ?_
            refine good_ret ?_
            obtain rfl := Option.some.inj h
            exact endQ_ret (h' := []) [] (.tmp rfl (.nil)) trivial (by decide) ⟨rfl, rfl⟩
theorem m_laws_eqValueS_step (k : Nat) (ih : ∀ m, m < k → P_m_laws_eqValue m ∧ P_m_laws_eqValueS m) : P_m_laws_eqValueS k := by
  intro a0 a1 r h
  obtain ⟨k, rfl⟩ : ∃ k', k = k' + 1 := by cases k with | zero => (rw [m_laws_eqValueS] at h; cases h) | succ k' => exact ⟨k', rfl⟩
  rw [m_laws_eqValueS] at h
  refine does_of_good tabOk Try.func51 rfl (by decide +kernel) (Nat.le_of_ble_eq_true rfl) fun c => ?_
  refine Good.le (σ' := ⟨27, [(0, .sl true (a0.map encVal)), (1, .sl true (a1.map encVal))], []⟩) (Le.refl _) ?_
  refine good_seq fun K1 hK1 => ?_
  refine good_region ?_
  refine g_op rfl (ValOk.op (v_assign rfl rfl ?_)) 
  refine g_nil ?_
  refine hK1 _ ?_
  refine good_seq fun K2 hK2 => ?_
  refine good_seq fun K3 hK3 => ?_
  refine good_region ?_
  refine g_op rfl (ValOk.op (v_move rfl rfl ?_)) 
  refine g_op rfl (ValOk.op (v_lenM (l := a0) (f := encVal) tabOk rfl rfl telem28 rfl ?_)) 
  refine g_op rfl (ValOk.op (v_move rfl rfl ?_)) 
  refine g_op rfl (ValOk.op (v_lenM (l := a1) (f := encVal) tabOk rfl rfl telem28 rfl ?_)) 
  refine g_op rfl (ValOk.op (v_bin rfl rfl rfl rfl ?_)) 
  refine g_nil ?_
  refine hK3 _ ?_
  refine Good.le (σ' := ⟨27, [(0, _), (1, _), (4, _), (10, _)], []⟩) (le_w [] rfl ⟨⟨_, rfl, .refl _⟩, ⟨⟨_, rfl, .refl _⟩, ⟨⟨_, rfl, .refl _⟩, ⟨⟨_, rfl, .refl _⟩, trivial⟩⟩⟩⟩ trivial (by decide)) ?_
  refine good_cond rfl (fun hc1 => ?_) (fun hc1 => ?_)
  · replace h := ifF h (ndT hc1)
    refine good_seq fun K4 hK4 => ?_
    refine good_region ?_
    refine g_op rfl (ValOk.op (v_assign rfl rfl ?_)) 
    refine g_nil ?_
    refine hK4 _ ?_
    refine Good.le (σ' := ⟨27, [(0, _), (1, _), (4, _)], []⟩) (le_w [] rfl ⟨⟨_, rfl, .refl _⟩, ⟨⟨_, rfl, .refl _⟩, ⟨⟨_, rfl, .refl _⟩, trivial⟩⟩⟩ trivial (by decide)) ?_
    refine Good.le (σ' := ⟨27, [(4, .bool false)], []⟩) (le_w [] rfl ⟨⟨_, rfl, .refl _⟩, trivial⟩ trivial (by decide)) ?_
    refine good_ret ?_
    obtain rfl := Option.some.inj h
    refine thenQ_ret ?_
    exact endQ_ret (h' := []) [] (.tmp rfl (.nil)) trivial (by decide) ⟨rfl, rfl⟩
  · replace h := ifT h (ndF hc1)
    refine good_skip ?_
    refine hK2 _ ?_
    refine Good.le (σ' := ⟨27, [(0, _), (1, _), (4, _)], []⟩) (le_w [] rfl ⟨⟨_, rfl, .refl _⟩, ⟨⟨_, rfl, .refl _⟩, ⟨⟨_, rfl, .refl _⟩, trivial⟩⟩⟩ trivial (by decide)) ?_
    refine good_seq fun K5 hK5 => ?_
    refine good_seq fun K6 hK6 => ?_
    refine good_region ?_
    refine g_op rfl (ValOk.op (v_assign rfl rfl ?_)) 
    refine g_nil ?_
    refine hK6 _ ?_
    obtain ⟨o1, ho1, hJ1⟩ := bnd h
    have hw1 : ∀ (s1 : Unit), o1 = Lp.go s1 → ∀ σ', Le σ' ⟨27, [(4, .bool false)], []⟩ → K5 σ' := by
      intro s1 e1 σ' hle1
      subst e1
      refine hK5 _ (Good.le hle1 ?_)
      replace h := hJ1
      refine good_seq fun K7 hK7 => ?_
      refine good_region ?_
      refine g_op rfl (ValOk.op (v_assign rfl rfl ?_)) 
      refine g_nil ?_
      refine hK7 _ ?_
      refine Good.le (σ' := ⟨27, [(4, .bool true)], []⟩) (le_w [] rfl ⟨⟨_, rfl, .refl _⟩, trivial⟩ trivial (by decide)) ?_
      refine good_ret ?_
      obtain rfl := Option.some.inj h
      exact endQ_ret (h' := []) [] (.tmp rfl (.nil)) trivial (by decide) ⟨rfl, rfl⟩
    replace h := ho1
    refine good_block ?_
    refine good_loopf (fun p : Int => ⟨27, [(0, .sl true (a0.map encVal)), (1, .sl true (a1.map encVal)), (4, .bool false), (5, .int .i64 p)], []⟩) (fun m p => m < k + 1 ∧ m_laws_eqValueS_l1 m a0 a1 p = some o1) k (0) (le_w [] rfl ⟨⟨_, rfl, .refl _⟩, ⟨⟨_, rfl, .refl _⟩, ⟨⟨_, rfl, .refl _⟩, ⟨⟨_, rfl, .refl _⟩, trivial⟩⟩⟩⟩ trivial (by decide)) ⟨by omega, h⟩ ?_
    rintro m1 x1 ⟨hm, h⟩
    replace h : m_laws_eqValueS_l1 m1 a0 a1 x1 = some o1 := h
    refine Good.le (σ' := ⟨27, [(0, .sl true (a0.map encVal)), (1, .sl true (a1.map encVal)), (4, .bool false), (5, .int .i64 x1)], []⟩) (Le.refl _) ?_
    obtain ⟨m1, rfl⟩ : ∃ m', m1 = m' + 1 := by cases m1 with | zero => (rw [m_laws_eqValueS_l1] at h; cases h) | succ m' => exact ⟨m', rfl⟩
    rw [m_laws_eqValueS_l1] at h
    refine good_seq fun K8 hK8 => ?_
    refine good_seq fun K9 hK9 => ?_
    refine good_region ?_
    refine g_op rfl (ValOk.op (v_move rfl rfl ?_)) 
    refine g_op rfl (ValOk.op (v_move rfl rfl ?_)) 
    refine g_op rfl (ValOk.op (v_lenM (l := a0) (f := encVal) tabOk rfl rfl telem28 rfl ?_)) 
    refine g_op rfl (ValOk.op (v_bin rfl rfl rfl rfl ?_)) 
    refine g_nil ?_
    refine hK9 _ ?_
    refine Good.le (σ' := ⟨27, [(0, _), (1, _), (4, _), (5, _), (14, _)], []⟩) (le_w [] rfl ⟨⟨_, rfl, .refl _⟩, ⟨⟨_, rfl, .refl _⟩, ⟨⟨_, rfl, .refl _⟩, ⟨⟨_, rfl, .refl _⟩, ⟨⟨_, rfl, .refl _⟩, trivial⟩⟩⟩⟩⟩ trivial (by decide)) ?_
    refine good_cond rfl (fun hc2 => ?_) (fun hc2 => ?_)
    · replace h := ifT h (dT hc2)
      refine good_skip ?_
      refine hK8 _ ?_
      refine Good.le (σ' := ⟨27, [(0, _), (1, _), (4, _), (5, _)], []⟩) (le_w [] rfl ⟨⟨_, rfl, .refl _⟩, ⟨⟨_, rfl, .refl _⟩, ⟨⟨_, rfl, .refl _⟩, ⟨⟨_, rfl, .refl _⟩, trivial⟩⟩⟩⟩ trivial (by decide)) ?_
      refine good_seq fun K10 hK10 => ?_
      refine good_block ?_
      refine good_seq fun K11 hK11 => ?_
      refine good_draw (by kernel_rfl) (by kernel_rfl) ?_
      refine q_op rfl (v_move rfl rfl ?_) 
      refine q_op rfl (v_move rfl rfl ?_) 
      obtain ⟨hb1, h⟩ := ifS h
      refine q_op rfl (v_idxM tabOk rfl rfl telem28 tsize30 hb1 (encVal_eq _) rfl rfl ?_) 
      refine q_op rfl (v_loadE tabOk rfl tsize30 tagg30 rfl rfl rfl ?_) 
      refine q_op rfl (v_move rfl rfl ?_) 
      refine q_op rfl (v_move rfl rfl ?_) 
      obtain ⟨hb2, h⟩ := ifS h
      refine q_op rfl (v_idxM tabOk rfl rfl telem28 tsize30 hb2 (encVal_eq _) rfl rfl ?_) 
      refine q_op rfl (v_loadE tabOk rfl tsize30 tagg30 rfl rfl rfl ?_) 
      obtain ⟨y1, hy1, h⟩ := bnd h
      refine q_call [] [] (fun _ _ _ _ _ => wanted_none rfl _) (core_value rfl rfl) ((ih m1 (by omega)).1 (ix a0 x1) (ix a1 x1) _ hy1) trivial (.cons (.refl _) (.cons (.refl _) (.nil))) (.bool _) rfl ?_
      refine q_op rfl (v_not rfl rfl ?_) 
      refine q_nil ?_
      refine hK11 _ ?_
      refine Good.le (σ' := ⟨27, [(0, _), (1, _), (4, _), (5, _), (26, _)], []⟩) (le_w [] rfl ⟨⟨_, rfl, .refl _⟩, ⟨⟨_, rfl, .refl _⟩, ⟨⟨_, rfl, .refl _⟩, ⟨⟨_, rfl, .refl _⟩, ⟨⟨_, rfl, .refl _⟩, trivial⟩⟩⟩⟩⟩ trivial (by decide)) ?_
      refine good_cond rfl (fun hc3 => ?_) (fun hc3 => ?_)
      · replace h := bF h (nT hc3)
        refine good_seq fun K12 hK12 => ?_
        refine good_region ?_
        refine g_op rfl (ValOk.op (v_assign rfl rfl ?_)) 
        refine g_nil ?_
        refine hK12 _ ?_
        refine Good.le (σ' := ⟨27, [(0, _), (1, _), (4, _), (5, _)], []⟩) (le_w [] rfl ⟨⟨_, rfl, .refl _⟩, ⟨⟨_, rfl, .refl _⟩, ⟨⟨_, rfl, .refl _⟩, ⟨⟨_, rfl, .refl _⟩, trivial⟩⟩⟩⟩ trivial (by decide)) ?_
        refine Good.le (σ' := ⟨27, [(4, .bool false)], []⟩) (le_w [] rfl ⟨⟨_, rfl, .refl _⟩, trivial⟩ trivial (by decide)) ?_
        refine good_ret ?_
        replace h := unret h hJ1
        obtain rfl := Option.some.inj h
        refine blockQ_ret ?_
        refine thenQ_ret ?_
        refine thenQ_ret ?_
        refine blockQ_ret ?_
        refine thenQ_ret ?_
        exact endQ_ret (h' := []) [] (.tmp rfl (.nil)) trivial (by decide) ⟨rfl, rfl⟩
      · replace h := ifT h (nF hc3)
        refine good_skip ?_
        refine hK10 _ ?_
        refine Good.le (σ' := ⟨27, [(0, _), (1, _), (4, _), (5, _)], []⟩) (le_w [] rfl ⟨⟨_, rfl, .refl _⟩, ⟨⟨_, rfl, .refl _⟩, ⟨⟨_, rfl, .refl _⟩, ⟨⟨_, rfl, .refl _⟩, trivial⟩⟩⟩⟩ trivial (by decide)) ?_
        refine good_region ?_
        refine g_op rfl (ValOk.op (v_move rfl rfl ?_)) 
        refine g_op rfl (ValOk.op (v_bin rfl rfl rfl rfl ?_)) 
        refine g_op rfl (ValOk.op (v_assign rfl rfl ?_)) 
        refine g_nil ?_
        exact round_mk m1 (IntKind.wrap .i64 (x1 + 1)) (Nat.lt_succ_self _) ⟨by omega, h⟩ (le_w [] rfl ⟨⟨_, rfl, .refl _⟩, ⟨⟨_, rfl, .refl _⟩, ⟨⟨_, rfl, .refl _⟩, ⟨⟨_, rfl, .refl _⟩, trivial⟩⟩⟩⟩ trivial (by decide))
    · replace h := ifF h (dF hc2)
      refine good_exit ?_
      exact hw1 () (Option.some.inj h).symm _ (le_w [] rfl ⟨⟨_, rfl, .refl _⟩, trivial⟩ trivial (by decide))
theorem m_laws_eqValue_all (k : Nat) : P_m_laws_eqValue k ∧ P_m_laws_eqValueS k := by
  induction k using Nat.strongRecOn with
  | _ k ih => exact ⟨m_laws_eqValue_step k ih, m_laws_eqValueS_step k ih⟩
theorem m_laws_eqValue_ok (k : Nat) : ∀ (a0 : Val) (a1 : Val) (r : Bool), m_laws_eqValue k a0 a1 = some r → Does Try.prog 19 [.agg [.int .i64 a0.kind, .int .i64 a0.num, .str a0.text, .sl true (a0.list.map encVal), .sl false (a0.names.map encS)], .agg [.int .i64 a1.kind, .int .i64 a1.num, .str a1.text, .sl true (a1.list.map encVal), .sl false (a1.names.map encS)]] [] (ret (.bool r)) := (m_laws_eqValue_all k).1
theorem m_laws_eqValueS_ok (k : Nat) : ∀ (a0 : (List Val)) (a1 : (List Val)) (r : Bool), m_laws_eqValueS k a0 a1 = some r → Does Try.prog 51 [.sl true (a0.map encVal), .sl true (a1.map encVal)] [] (ret (.bool r)) := (m_laws_eqValue_all k).2
end Go.Proofs.Ytiaigcdckmpepaa
