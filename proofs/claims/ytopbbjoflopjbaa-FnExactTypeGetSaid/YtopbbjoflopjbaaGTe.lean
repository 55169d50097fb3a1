/- What functions of this program answer, as plain functions; each theorem says that the code comes to just that. -/
import Derived.Test.YtopbbjoflopjbaaDat
import Derived.Test.YtopbbjoflopjbaaB13
import Derived.Test.YtopbbjoflopjbaaDatO
/-! Functions of the program. -/
set_option linter.unusedVariables false
set_option maxRecDepth 100000
set_option maxHeartbeats 1000000
namespace Go.Proofs.Ytopbbjoflopjbaa
open Go.Bb
mutual
def m_laws_eqType : Nat → Typ → Typ → Option Bool
  | 0, _, _ => none
  | k + 1, a0, a1 =>
    if a0.name = a1.name then
      (m_laws_eqTypeS k a0.of_ a1.of_).bind fun y1 =>
      if y1 = true then
        if a0.must = a1.must then
          some true
        else
          some false
      else
        some false
    else
      some false
def m_laws_eqTypeS_l1 : Nat → (List Typ) → (List Typ) → Int → Option (Lp Unit Bool)
  | 0, _, _, _ => none
  | k + 1, a0, a1, x1 =>
    if x1 < (a0.length : Int) then
      if (0 : Int) ≤ x1 ∧ x1 < (a0.length : Int) then
        if (0 : Int) ≤ x1 ∧ x1 < (a1.length : Int) then
          (m_laws_eqType k (Typ.mk ((ix a0 x1).name) ((ix a0 x1).of_) ((ix a0 x1).must)) (Typ.mk ((ix a1 x1).name) ((ix a1 x1).of_) ((ix a1 x1).must))).bind fun y1 =>
          if y1 = true then
            m_laws_eqTypeS_l1 k a0 a1 (IntKind.wrap .i64 (x1 + 1))
          else
            (some false).bind fun z =>
            some (Lp.ret z)
        else none
      else none
    else
      some (Lp.go ())
def m_laws_eqTypeS : Nat → (List Typ) → (List Typ) → Option Bool
  | 0, _, _ => none
  | k + 1, a0, a1 =>
    if (a0.length : Int) = (a1.length : Int) then
      (m_laws_eqTypeS_l1 k a0 a1 0).bind fun o1 =>
      o1.then fun s1 =>
    some true
    else
      some false
end
def P_m_laws_eqType (k : Nat) : Prop := ∀ (a0 : Typ) (a1 : Typ) (r : Bool), m_laws_eqType k a0 a1 = some r → Does Try.prog 33 [.agg [.str a0.name, .sl (a0.of_.map encTyp), .bool a0.must], .agg [.str a1.name, .sl (a1.of_.map encTyp), .bool a1.must]] [] (ret (.bool r))
def P_m_laws_eqTypeS (k : Nat) : Prop := ∀ (a0 : (List Typ)) (a1 : (List Typ)) (r : Bool), m_laws_eqTypeS k a0 a1 = some r → Does Try.prog 62 [.sl (a0.map encTyp), .sl (a1.map encTyp)] [] (ret (.bool r))
theorem m_laws_eqType_step (k : Nat) (ih : ∀ m, m < k → P_m_laws_eqType m ∧ P_m_laws_eqTypeS m) : P_m_laws_eqType k := by
  intro a0 a1 r h
  obtain ⟨k, rfl⟩ : ∃ k', k = k' + 1 := by cases k with | zero => (rw [m_laws_eqType] at h; cases h) | succ k' => exact ⟨k', rfl⟩
  rw [m_laws_eqType] at h
  refine does_of_good tabOk Try.func33 rfl (by decide +kernel) (Nat.le_of_ble_eq_true rfl) fun c => ?_
  refine Good.le (σ' := ⟨21, [(0, .agg [.str a0.name, .sl (a0.of_.map encTyp), .bool a0.must]), (1, .agg [.str a1.name, .sl (a1.of_.map encTyp), .bool a1.must])], []⟩) (Le.refl _) ?_
  refine good_seq fun K1 hK1 => ?_
  refine good_region ?_
  refine g_op rfl (o_box (k := 12) tabOk rfl rfl rfl rfl rfl ?_)
  intro b1
  refine g_op rfl (o_box (k := 13) tabOk rfl rfl rfl rfl rfl ?_)
  intro b2
  refine g_op rfl (ValOk.op (v_assign rfl rfl ?_)) 
  refine g_nil ?_
  refine hK1 _ ?_
  refine Good.le (σ' := ⟨21, [(2, _), (3, _), (4, _)], [(12, (_, _)), (13, (_, _))]⟩) (le_w [some 12, some 13] rfl ⟨⟨_, rfl, .refl _⟩, ⟨⟨_, rfl, .refl _⟩, ⟨⟨_, rfl, .refl _⟩, trivial⟩⟩⟩ ⟨⟨_, rfl, .refl _⟩, ⟨⟨_, rfl, .refl _⟩, trivial⟩⟩ (by decide)) ?_
  refine good_seq fun K2 hK2 => ?_
  refine good_seq fun K3 hK3 => ?_
  refine good_region ?_
  refine g_op rfl (ValOk.op (v_fieldP tabOk rfl tfoff48_0 rfl ?_)) 
  refine g_op rfl (ValOk.op (v_loadP tabOk rfl rfl tsize9 tagg9 rfl rfl rfl rfl ?_)) 
  refine g_op rfl (ValOk.op (v_fieldP tabOk rfl tfoff48_0 rfl ?_)) 
  refine g_op rfl (ValOk.op (v_loadP tabOk rfl rfl tsize9 tagg9 rfl rfl rfl rfl ?_)) 
  refine g_op rfl (ValOk.op (v_bin rfl rfl rfl rfl ?_)) 
  refine g_nil ?_
  refine hK3 _ ?_
  refine Good.le (σ' := ⟨21, [(2, _), (3, _), (4, _), (9, _)], [(12, (_, _)), (13, (_, _))]⟩) (le_w [some 12, some 13] rfl ⟨⟨_, rfl, .refl _⟩, ⟨⟨_, rfl, .refl _⟩, ⟨⟨_, rfl, .refl _⟩, ⟨⟨_, rfl, .refl _⟩, trivial⟩⟩⟩⟩ ⟨⟨_, rfl, .refl _⟩, ⟨⟨_, rfl, .refl _⟩, trivial⟩⟩ (by decide)) ?_
  refine good_cond rfl (fun hc1 => ?_) (fun hc1 => ?_)
  · replace h := ifF h (ndT hc1)
    refine good_seq fun K4 hK4 => ?_
    refine good_region ?_
    refine g_op rfl (ValOk.op (v_assign rfl rfl ?_)) 
    refine g_nil ?_
    refine hK4 _ ?_
    refine Good.le (σ' := ⟨21, [(2, _), (3, _), (4, _)], [(12, (_, _)), (13, (_, _))]⟩) (le_w [some 12, some 13] rfl ⟨⟨_, rfl, .refl _⟩, ⟨⟨_, rfl, .refl _⟩, ⟨⟨_, rfl, .refl _⟩, trivial⟩⟩⟩ ⟨⟨_, rfl, .refl _⟩, ⟨⟨_, rfl, .refl _⟩, trivial⟩⟩ (by decide)) ?_
    refine Good.le (σ' := ⟨21, [(4, .bool false)], []⟩) (le_w [] rfl ⟨⟨_, rfl, .refl _⟩, trivial⟩ trivial (by decide)) ?_
    refine good_ret ?_
    obtain rfl := Option.some.inj h
    refine thenQ_ret ?_
    exact endQ_ret (h' := []) [] (.tmp rfl (.nil)) trivial (by decide) ⟨rfl, rfl⟩
  · replace h := ifT h (ndF hc1)
    refine good_skip ?_
    refine hK2 _ ?_
    refine Good.le (σ' := ⟨21, [(2, _), (3, _), (4, _)], [(12, (_, _)), (13, (_, _))]⟩) (le_w [some 12, some 13] rfl ⟨⟨_, rfl, .refl _⟩, ⟨⟨_, rfl, .refl _⟩, ⟨⟨_, rfl, .refl _⟩, trivial⟩⟩⟩ ⟨⟨_, rfl, .refl _⟩, ⟨⟨_, rfl, .refl _⟩, trivial⟩⟩ (by decide)) ?_
    refine good_seq fun K5 hK5 => ?_
    refine good_seq fun K6 hK6 => ?_
    refine good_region ?_
    refine g_op rfl (ValOk.op (v_fieldP tabOk rfl tfoff48_1 rfl ?_)) 
    refine g_op rfl (ValOk.op (v_loadP tabOk rfl rfl tsize46 tagg46 rfl rfl rfl rfl ?_)) 
    refine g_op rfl (ValOk.op (v_fieldP tabOk rfl tfoff48_1 rfl ?_)) 
    refine g_op rfl (ValOk.op (v_loadP tabOk rfl rfl tsize46 tagg46 rfl rfl rfl rfl ?_)) 
    obtain ⟨y1, hy1, h⟩ := bnd h
    refine g_op rfl (o_callR [] [] (core_value rfl rfl) ((ih k (by omega)).2 a0.of_ a1.of_ _ hy1) trivial (.cons (.refl _) (.cons (.refl _) (.nil))) (.inl rfl) rfl ?_)
    refine g_op rfl (ValOk.op (v_not rfl rfl ?_)) 
    refine g_nil ?_
    refine hK6 _ ?_
    refine Good.le (σ' := ⟨21, [(2, _), (3, _), (4, _), (15, _)], [(12, (_, _)), (13, (_, _))]⟩) (le_w [some 12, some 13] rfl ⟨⟨_, rfl, .refl _⟩, ⟨⟨_, rfl, .refl _⟩, ⟨⟨_, rfl, .refl _⟩, ⟨⟨_, rfl, .refl _⟩, trivial⟩⟩⟩⟩ ⟨⟨_, rfl, .refl _⟩, ⟨⟨_, rfl, .refl _⟩, trivial⟩⟩ (by decide)) ?_
    refine good_cond rfl (fun hc2 => ?_) (fun hc2 => ?_)
    · replace h := bF h (nT hc2)
      refine good_seq fun K7 hK7 => ?_
      refine good_region ?_
      refine g_op rfl (ValOk.op (v_assign rfl rfl ?_)) 
      refine g_nil ?_
      refine hK7 _ ?_
      refine Good.le (σ' := ⟨21, [(2, _), (3, _), (4, _)], [(12, (_, _)), (13, (_, _))]⟩) (le_w [some 12, some 13] rfl ⟨⟨_, rfl, .refl _⟩, ⟨⟨_, rfl, .refl _⟩, ⟨⟨_, rfl, .refl _⟩, trivial⟩⟩⟩ ⟨⟨_, rfl, .refl _⟩, ⟨⟨_, rfl, .refl _⟩, trivial⟩⟩ (by decide)) ?_
      refine Good.le (σ' := ⟨21, [(4, .bool false)], []⟩) (le_w [] rfl ⟨⟨_, rfl, .refl _⟩, trivial⟩ trivial (by decide)) ?_
      refine good_ret ?_
      obtain rfl := Option.some.inj h
      refine thenQ_ret ?_
      exact endQ_ret (h' := []) [] (.tmp rfl (.nil)) trivial (by decide) ⟨rfl, rfl⟩
    · replace h := ifT h (nF hc2)
      refine good_skip ?_
      refine hK5 _ ?_
      refine Good.le (σ' := ⟨21, [(2, _), (3, _), (4, _)], [(12, (_, _)), (13, (_, _))]⟩) (le_w [some 12, some 13] rfl ⟨⟨_, rfl, .refl _⟩, ⟨⟨_, rfl, .refl _⟩, ⟨⟨_, rfl, .refl _⟩, trivial⟩⟩⟩ ⟨⟨_, rfl, .refl _⟩, ⟨⟨_, rfl, .refl _⟩, trivial⟩⟩ (by decide)) ?_
      refine good_seq fun K8 hK8 => ?_
      refine good_seq fun K9 hK9 => ?_
      refine good_region ?_
      refine g_op rfl (ValOk.op (v_fieldP tabOk rfl tfoff48_2 rfl ?_)) 
      refine g_op rfl (ValOk.op (v_loadP tabOk rfl rfl tsize4 tagg4 rfl rfl rfl rfl ?_)) 
      refine g_op rfl (ValOk.op (v_fieldP tabOk rfl tfoff48_2 rfl ?_)) 
      refine g_op rfl (ValOk.op (v_loadP tabOk rfl rfl tsize4 tagg4 rfl rfl rfl rfl ?_)) 
      refine g_op rfl (ValOk.op (v_binT tabOk (r := .bool (!decide (a0.must = a1.must))) rfl rfl (by simp [binT, eqr]) rfl ?_)) 
      refine g_nil ?_
      refine hK9 _ ?_
      refine Good.le (σ' := ⟨21, [(4, _), (20, _)], []⟩) (le_w [] rfl ⟨⟨_, rfl, .refl _⟩, ⟨⟨_, rfl, .refl _⟩, trivial⟩⟩ trivial (by decide)) ?_
      refine good_cond rfl (fun hc3 => ?_) (fun hc3 => ?_)
      · replace h := ifF h (ndT hc3)
        refine good_seq fun K10 hK10 => ?_
        refine good_region ?_
        refine g_op rfl (ValOk.op (v_assign rfl rfl ?_)) 
        refine g_nil ?_
        refine hK10 _ ?_
        refine Good.le (σ' := ⟨21, [(4, _)], []⟩) (le_w [] rfl ⟨⟨_, rfl, .refl _⟩, trivial⟩ trivial (by decide)) ?_
        refine Good.le (σ' := ⟨21, [(4, .bool false)], []⟩) (le_w [] rfl ⟨⟨_, rfl, .refl _⟩, trivial⟩ trivial (by decide)) ?_
        refine good_ret ?_
        obtain rfl := Option.some.inj h
        refine thenQ_ret ?_
        exact endQ_ret (h' := []) [] (.tmp rfl (.nil)) trivial (by decide) ⟨rfl, rfl⟩
      · replace h := ifT h (ndF hc3)
        refine good_skip ?_
        refine hK8 _ ?_
        refine Good.le (σ' := ⟨21, [(4, _)], []⟩) (le_w [] rfl ⟨⟨_, rfl, .refl _⟩, trivial⟩ trivial (by decide)) ?_
        refine good_seq fun K11 hK11 => ?_
        refine good_region ?_
        refine g_op rfl (ValOk.op (v_assign rfl rfl ?_)) 
        refine g_nil ?_
        refine hK11 _ ?_
        refine Good.le (σ' := ⟨21, [(4, .bool true)], []⟩) (le_w [] rfl ⟨⟨_, rfl, .refl _⟩, trivial⟩ trivial (by decide)) ?_
        refine good_ret ?_
        obtain rfl := Option.some.inj h
        exact endQ_ret (h' := []) [] (.tmp rfl (.nil)) trivial (by decide) ⟨rfl, rfl⟩
theorem m_laws_eqTypeS_step (k : Nat) (ih : ∀ m, m < k → P_m_laws_eqType m ∧ P_m_laws_eqTypeS m) : P_m_laws_eqTypeS k := by
  intro a0 a1 r h
  obtain ⟨k, rfl⟩ : ∃ k', k = k' + 1 := by cases k with | zero => (rw [m_laws_eqTypeS] at h; cases h) | succ k' => exact ⟨k', rfl⟩
  rw [m_laws_eqTypeS] at h
  refine does_of_good tabOk Try.func62 rfl (by decide +kernel) (Nat.le_of_ble_eq_true rfl) fun c => ?_
  refine Good.le (σ' := ⟨27, [(0, .sl (a0.map encTyp)), (1, .sl (a1.map encTyp))], []⟩) (Le.refl _) ?_
  refine good_seq fun K1 hK1 => ?_
  refine good_region ?_
  refine g_op rfl (ValOk.op (v_assign rfl rfl ?_)) 
  refine g_nil ?_
  refine hK1 _ ?_
  refine good_seq fun K2 hK2 => ?_
  refine good_seq fun K3 hK3 => ?_
  refine good_region ?_
  refine g_op rfl (ValOk.op (v_move rfl rfl ?_)) 
  refine g_op rfl (ValOk.op (v_lenM (l := a0) (f := encTyp) tabOk rfl rfl telem46 rfl ?_)) 
  refine g_op rfl (ValOk.op (v_move rfl rfl ?_)) 
  refine g_op rfl (ValOk.op (v_lenM (l := a1) (f := encTyp) tabOk rfl rfl telem46 rfl ?_)) 
  refine g_op rfl (ValOk.op (v_bin rfl rfl rfl rfl ?_)) 
  refine g_nil ?_
  refine hK3 _ ?_
  refine Good.le (σ' := ⟨27, [(0, _), (1, _), (4, _), (10, _)], []⟩) (le_w [] rfl ⟨⟨_, rfl, .refl _⟩, ⟨⟨_, rfl, .refl _⟩, ⟨⟨_, rfl, .refl _⟩, ⟨⟨_, rfl, .refl _⟩, trivial⟩⟩⟩⟩ trivial (by decide)) ?_
  refine good_cond rfl (fun hc1 => ?_) (fun hc1 => ?_)
  · replace h := ifF h (ndT hc1)
    refine good_seq fun K4 hK4 => ?_
    refine good_region ?_
    refine g_op rfl (ValOk.op (v_assign rfl rfl ?_)) 
    refine g_nil ?_
    refine hK4 _ ?_
    refine Good.le (σ' := ⟨27, [(0, _), (1, _), (4, _)], []⟩) (le_w [] rfl ⟨⟨_, rfl, .refl _⟩, ⟨⟨_, rfl, .refl _⟩, ⟨⟨_, rfl, .refl _⟩, trivial⟩⟩⟩ trivial (by decide)) ?_
    refine Good.le (σ' := ⟨27, [(4, .bool false)], []⟩) (le_w [] rfl ⟨⟨_, rfl, .refl _⟩, trivial⟩ trivial (by decide)) ?_
    refine good_ret ?_
    obtain rfl := Option.some.inj h
    refine thenQ_ret ?_
    exact endQ_ret (h' := []) [] (.tmp rfl (.nil)) trivial (by decide) ⟨rfl, rfl⟩
  · replace h := ifT h (ndF hc1)
    refine good_skip ?_
    refine hK2 _ ?_
    refine Good.le (σ' := ⟨27, [(0, _), (1, _), (4, _)], []⟩) (le_w [] rfl ⟨⟨_, rfl, .refl _⟩, ⟨⟨_, rfl, .refl _⟩, ⟨⟨_, rfl, .refl _⟩, trivial⟩⟩⟩ trivial (by decide)) ?_
    refine good_seq fun K5 hK5 => ?_
    refine good_seq fun K6 hK6 => ?_
    refine good_region ?_
    refine g_op rfl (ValOk.op (v_assign rfl rfl ?_)) 
    refine g_nil ?_
    refine hK6 _ ?_
    obtain ⟨o1, ho1, hJ1⟩ := bnd h
    have hw1 : ∀ (s1 : Unit), o1 = Lp.go s1 → ∀ σ', Le σ' ⟨27, [(4, .bool false)], []⟩ → K5 σ' := by
      intro s1 e1 σ' hle1
      subst e1
      refine hK5 _ (Good.le hle1 ?_)
      replace h := hJ1
      refine good_seq fun K7 hK7 => ?_
      refine good_region ?_
      refine g_op rfl (ValOk.op (v_assign rfl rfl ?_)) 
      refine g_nil ?_
      refine hK7 _ ?_
      refine Good.le (σ' := ⟨27, [(4, .bool true)], []⟩) (le_w [] rfl ⟨⟨_, rfl, .refl _⟩, trivial⟩ trivial (by decide)) ?_
      refine good_ret ?_
      obtain rfl := Option.some.inj h
      exact endQ_ret (h' := []) [] (.tmp rfl (.nil)) trivial (by decide) ⟨rfl, rfl⟩
    replace h := ho1
    refine good_block ?_
    refine good_loopf (fun p : Int => ⟨27, [(0, .sl (a0.map encTyp)), (1, .sl (a1.map encTyp)), (4, .bool false), (5, .int .i64 p)], []⟩) (fun m p => m < k + 1 ∧ m_laws_eqTypeS_l1 m a0 a1 p = some o1) k (0) (le_w [] rfl ⟨⟨_, rfl, .refl _⟩, ⟨⟨_, rfl, .refl _⟩, ⟨⟨_, rfl, .refl _⟩, ⟨⟨_, rfl, .refl _⟩, trivial⟩⟩⟩⟩ trivial (by decide)) ⟨by omega, h⟩ ?_
    rintro m1 x1 ⟨hm, h⟩
    replace h : m_laws_eqTypeS_l1 m1 a0 a1 x1 = some o1 := h
    refine Good.le (σ' := ⟨27, [(0, .sl (a0.map encTyp)), (1, .sl (a1.map encTyp)), (4, .bool false), (5, .int .i64 x1)], []⟩) (Le.refl _) ?_
    obtain ⟨m1, rfl⟩ : ∃ m', m1 = m' + 1 := by cases m1 with | zero => (rw [m_laws_eqTypeS_l1] at h; cases h) | succ m' => exact ⟨m', rfl⟩
    rw [m_laws_eqTypeS_l1] at h
    refine good_seq fun K8 hK8 => ?_
    refine good_seq fun K9 hK9 => ?_
    refine good_region ?_
    refine g_op rfl (ValOk.op (v_move rfl rfl ?_)) 
    refine g_op rfl (ValOk.op (v_move rfl rfl ?_)) 
    refine g_op rfl (ValOk.op (v_lenM (l := a0) (f := encTyp) tabOk rfl rfl telem46 rfl ?_)) 
    refine g_op rfl (ValOk.op (v_bin rfl rfl rfl rfl ?_)) 
    refine g_nil ?_
    refine hK9 _ ?_
    refine Good.le (σ' := ⟨27, [(0, _), (1, _), (4, _), (5, _), (14, _)], []⟩) (le_w [] rfl ⟨⟨_, rfl, .refl _⟩, ⟨⟨_, rfl, .refl _⟩, ⟨⟨_, rfl, .refl _⟩, ⟨⟨_, rfl, .refl _⟩, ⟨⟨_, rfl, .refl _⟩, trivial⟩⟩⟩⟩⟩ trivial (by decide)) ?_
    refine good_cond rfl (fun hc2 => ?_) (fun hc2 => ?_)
    · replace h := ifT h (dT hc2)
      refine good_skip ?_
      refine hK8 _ ?_
      refine Good.le (σ' := ⟨27, [(0, _), (1, _), (4, _), (5, _)], []⟩) (le_w [] rfl ⟨⟨_, rfl, .refl _⟩, ⟨⟨_, rfl, .refl _⟩, ⟨⟨_, rfl, .refl _⟩, ⟨⟨_, rfl, .refl _⟩, trivial⟩⟩⟩⟩ trivial (by decide)) ?_
      refine good_seq fun K10 hK10 => ?_
      refine good_block ?_
      refine good_seq fun K11 hK11 => ?_
      refine good_draw (by kernel_rfl) (by kernel_rfl) ?_
      refine q_op rfl (v_move rfl rfl ?_) 
      refine q_op rfl (v_move rfl rfl ?_) 
      obtain ⟨hb1, h⟩ := ifS h
      refine q_op rfl (v_idxM tabOk rfl rfl telem46 tsize48 hb1 (encTyp_eq _) rfl rfl ?_) 
      refine q_op rfl (v_loadE tabOk rfl tsize48 tagg48 rfl rfl rfl ?_) 
      refine q_op rfl (v_move rfl rfl ?_) 
      refine q_op rfl (v_move rfl rfl ?_) 
      obtain ⟨hb2, h⟩ := ifS h
      refine q_op rfl (v_idxM tabOk rfl rfl telem46 tsize48 hb2 (encTyp_eq _) rfl rfl ?_) 
      refine q_op rfl (v_loadE tabOk rfl tsize48 tagg48 rfl rfl rfl ?_) 
      obtain ⟨y1, hy1, h⟩ := bnd h
      refine q_call [] [] (fun _ _ _ _ _ => wanted_none rfl _) (core_value rfl rfl) ((ih m1 (by omega)).1 (Typ.mk ((ix a0 x1).name) ((ix a0 x1).of_) ((ix a0 x1).must)) (Typ.mk ((ix a1 x1).name) ((ix a1 x1).of_) ((ix a1 x1).must)) _ hy1) trivial (.cons (.refl _) (.cons (.refl _) (.nil))) (.bool _) rfl ?_
      refine q_op rfl (v_not rfl rfl ?_) 
      refine q_nil ?_
      refine hK11 _ ?_
      refine Good.le (σ' := ⟨27, [(0, _), (1, _), (4, _), (5, _), (26, _)], []⟩) (le_w [] rfl ⟨⟨_, rfl, .refl _⟩, ⟨⟨_, rfl, .refl _⟩, ⟨⟨_, rfl, .refl _⟩, ⟨⟨_, rfl, .refl _⟩, ⟨⟨_, rfl, .refl _⟩, trivial⟩⟩⟩⟩⟩ trivial (by decide)) ?_
      refine good_cond rfl (fun hc3 => ?_) (fun hc3 => ?_)
      · replace h := bF h (nT hc3)
        refine good_seq fun K12 hK12 => ?_
        refine good_region ?_
        refine g_op rfl (ValOk.op (v_assign rfl rfl ?_)) 
        refine g_nil ?_
        refine hK12 _ ?_
        refine Good.le (σ' := ⟨27, [(0, _), (1, _), (4, _), (5, _)], []⟩) (le_w [] rfl ⟨⟨_, rfl, .refl _⟩, ⟨⟨_, rfl, .refl _⟩, ⟨⟨_, rfl, .refl _⟩, ⟨⟨_, rfl, .refl _⟩, trivial⟩⟩⟩⟩ trivial (by decide)) ?_
        refine Good.le (σ' := ⟨27, [(4, .bool false)], []⟩) (le_w [] rfl ⟨⟨_, rfl, .refl _⟩, trivial⟩ trivial (by decide)) ?_
        refine good_ret ?_
        replace h := unret h hJ1
        obtain rfl := Option.some.inj h
        refine blockQ_ret ?_
        refine thenQ_ret ?_
        refine thenQ_ret ?_
        refine blockQ_ret ?_
        refine thenQ_ret ?_
        exact endQ_ret (h' := []) [] (.tmp rfl (.nil)) trivial (by decide) ⟨rfl, rfl⟩
      · replace h := ifT h (nF hc3)
        refine good_skip ?_
        refine hK10 _ ?_
        refine Good.le (σ' := ⟨27, [(0, _), (1, _), (4, _), (5, _)], []⟩) (le_w [] rfl ⟨⟨_, rfl, .refl _⟩, ⟨⟨_, rfl, .refl _⟩, ⟨⟨_, rfl, .refl _⟩, ⟨⟨_, rfl, .refl _⟩, trivial⟩⟩⟩⟩ trivial (by decide)) ?_
        refine good_region ?_
        refine g_op rfl (ValOk.op (v_move rfl rfl ?_)) 
        refine g_op rfl (ValOk.op (v_bin rfl rfl rfl rfl ?_)) 
        refine g_op rfl (ValOk.op (v_assign rfl rfl ?_)) 
        refine g_nil ?_
        exact round_mk m1 (IntKind.wrap .i64 (x1 + 1)) (Nat.lt_succ_self _) ⟨by omega, h⟩ (le_w [] rfl ⟨⟨_, rfl, .refl _⟩, ⟨⟨_, rfl, .refl _⟩, ⟨⟨_, rfl, .refl _⟩, ⟨⟨_, rfl, .refl _⟩, trivial⟩⟩⟩⟩ trivial (by decide))
    · replace h := ifF h (dF hc2)
      refine good_exit ?_
      exact hw1 () (Option.some.inj h).symm _ (le_w [] rfl ⟨⟨_, rfl, .refl _⟩, trivial⟩ trivial (by decide))
theorem m_laws_eqType_all (k : Nat) : P_m_laws_eqType k ∧ P_m_laws_eqTypeS k := by
  induction k using Nat.strongRecOn with
  | _ k ih => exact ⟨m_laws_eqType_step k ih, m_laws_eqTypeS_step k ih⟩
theorem m_laws_eqType_ok (k : Nat) : ∀ (a0 : Typ) (a1 : Typ) (r : Bool), m_laws_eqType k a0 a1 = some r → Does Try.prog 33 [.agg [.str a0.name, .sl (a0.of_.map encTyp), .bool a0.must], .agg [.str a1.name, .sl (a1.of_.map encTyp), .bool a1.must]] [] (ret (.bool r)) := (m_laws_eqType_all k).1
theorem m_laws_eqTypeS_ok (k : Nat) : ∀ (a0 : (List Typ)) (a1 : (List Typ)) (r : Bool), m_laws_eqTypeS k a0 a1 = some r → Does Try.prog 62 [.sl (a0.map encTyp), .sl (a1.map encTyp)] [] (ret (.bool r)) := (m_laws_eqType_all k).2
end Go.Proofs.Ytopbbjoflopjbaa
