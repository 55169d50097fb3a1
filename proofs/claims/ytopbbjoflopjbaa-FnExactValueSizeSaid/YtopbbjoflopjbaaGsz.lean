/- What functions of this program answer, as plain functions; each theorem says that the code comes to just that. -/
import Derived.Test.YtopbbjoflopjbaaDat
import Derived.Test.YtopbbjoflopjbaaB13
import Derived.Test.YtopbbjoflopjbaaGok
/-! Functions of the program. -/
set_option linter.unusedVariables false
set_option maxRecDepth 100000
set_option maxHeartbeats 1000000
namespace Go.Proofs.Ytopbbjoflopjbaa
open Go.Bb
mutual
def m_spec_l8Size_l1 : Nat → Val → Int → Int → Option (Lp Int Int)
  | 0, _, _, _ => none
  | k + 1, a0, x1, x2 =>
    if x2 < (a0.list.length : Int) then
      if (0 : Int) ≤ x2 ∧ x2 < (a0.list.length : Int) then
        (m_spec_l8Size k (ix a0.list x2)).bind fun y1 =>
        m_spec_l8Size_l1 k a0 (IntKind.wrap .i64 (x1 + y1)) (IntKind.wrap .i64 (x2 + 1))
      else none
    else
      some (Lp.go x1)
def m_spec_l8Size : Nat → Val → Option Int
  | 0, _ => none
  | k + 1, a0 =>
    (m_spec_l8Size_l1 k a0 1 0).bind fun o1 =>
    o1.then fun s1 =>
    some s1
end
def P_m_spec_l8Size (k : Nat) : Prop := ∀ (a0 : Val) (r : Int), m_spec_l8Size k a0 = some r → Does Try.prog 46 [.agg [.int .i64 a0.kind, .int .i64 a0.num, .str a0.text, .sl (a0.list.map encVal), .sl (a0.names.map encS)]] [] (ret (.int .i64 r))
theorem m_spec_l8Size_step (k : Nat) (ih : ∀ m, m < k → P_m_spec_l8Size m) : P_m_spec_l8Size k := by
  intro a0 r h
  obtain ⟨k, rfl⟩ : ∃ k', k = k' + 1 := by cases k with | zero => (rw [m_spec_l8Size] at h; cases h) | succ k' => exact ⟨k', rfl⟩
  rw [m_spec_l8Size] at h
  refine does_of_good tabOk Try.func46 rfl (by decide +kernel) (Nat.le_of_ble_eq_true rfl) fun c => ?_
  refine Good.le (σ' := ⟨21, [(0, .agg [.int .i64 a0.kind, .int .i64 a0.num, .str a0.text, .sl (a0.list.map encVal), .sl (a0.names.map encS)])], []⟩) (Le.refl _) ?_
  refine good_seq fun K1 hK1 => ?_
  refine good_region ?_
  refine g_op rfl (o_box (k := 11) tabOk rfl rfl rfl rfl rfl ?_)
  intro b1
  refine g_op rfl (ValOk.op (v_assign rfl rfl ?_)) 
  refine g_nil ?_
  refine hK1 _ ?_
  refine Good.le (σ' := ⟨21, [(1, _), (2, _)], [(11, (_, _))]⟩) (le_w [some 11] rfl ⟨⟨_, rfl, .refl _⟩, ⟨⟨_, rfl, .refl _⟩, trivial⟩⟩ ⟨⟨_, rfl, .refl _⟩, trivial⟩ (by decide)) ?_
  refine good_seq fun K2 hK2 => ?_
  refine good_region ?_
  refine g_op rfl (ValOk.op (v_assign rfl rfl ?_)) 
  refine g_nil ?_
  refine hK2 _ ?_
  refine good_seq fun K3 hK3 => ?_
  refine good_seq fun K4 hK4 => ?_
  refine good_region ?_
  refine g_op rfl (ValOk.op (v_assign rfl rfl ?_)) 
  refine g_nil ?_
  refine hK4 _ ?_
  obtain ⟨o1, ho1, hJ1⟩ := bnd h
  have hw1 : ∀ (s1 : Int), o1 = Lp.go s1 → ∀ σ', Le σ' ⟨21, [(2, .int .i64 0), (3, .int .i64 s1)], []⟩ → K3 σ' := by
    intro s1 e1 σ' hle1
    subst e1
    refine hK3 _ (Good.le hle1 ?_)
    replace h := hJ1
    refine good_seq fun K5 hK5 => ?_
    refine good_region ?_
    refine g_op rfl (ValOk.op (v_move rfl rfl ?_)) 
    refine g_op rfl (ValOk.op (v_assign rfl rfl ?_)) 
    refine g_nil ?_
    refine hK5 _ ?_
    refine Good.le (σ' := ⟨21, [(2, _)], []⟩) (le_w [] rfl ⟨⟨_, rfl, .refl _⟩, trivial⟩ trivial (by decide)) ?_
    refine Good.le (σ' := ⟨21, [(2, .int .i64 s1)], []⟩) (le_w [] rfl ⟨⟨_, rfl, .refl _⟩, trivial⟩ trivial (by decide)) ?_
    refine good_ret ?_
    obtain rfl := Option.some.inj h
    exact endQ_ret (h' := []) [] (.tmp rfl (.nil)) trivial (by decide) ⟨rfl, rfl⟩
  replace h := ho1
  refine good_block ?_
  refine good_loopf (fun p : (Int × Int) => ⟨21, [(1, .ptr 11 b1 0), (2, .int .i64 0), (3, .int .i64 p.1), (4, .int .i64 p.2)], [(11, ((.pointer (some ⟨b1, 0, none⟩)), .optr 30 [.int .i64 a0.kind, .int .i64 a0.num, .str a0.text, .sl (a0.list.map encVal), .sl (a0.names.map encS)]))]⟩) (fun m p => m < k + 1 ∧ m_spec_l8Size_l1 m a0 p.1 p.2 = some o1) k (1, 0) (le_w [some 11] rfl ⟨⟨_, rfl, .refl _⟩, ⟨⟨_, rfl, .refl _⟩, ⟨⟨_, rfl, .refl _⟩, ⟨⟨_, rfl, .refl _⟩, trivial⟩⟩⟩⟩ ⟨⟨_, rfl, .refl _⟩, trivial⟩ (by decide)) ⟨by omega, h⟩ ?_
  rintro m1 ⟨x1, x2⟩ ⟨hm, h⟩
  replace h : m_spec_l8Size_l1 m1 a0 x1 x2 = some o1 := h
  refine Good.le (σ' := ⟨21, [(1, .ptr 11 b1 0), (2, .int .i64 0), (3, .int .i64 x1), (4, .int .i64 x2)], [(11, ((.pointer (some ⟨b1, 0, none⟩)), .optr 30 [.int .i64 a0.kind, .int .i64 a0.num, .str a0.text, .sl (a0.list.map encVal), .sl (a0.names.map encS)]))]⟩) (Le.refl _) ?_
  obtain ⟨m1, rfl⟩ : ∃ m', m1 = m' + 1 := by cases m1 with | zero => (rw [m_spec_l8Size_l1] at h; cases h) | succ m' => exact ⟨m', rfl⟩
  rw [m_spec_l8Size_l1] at h
  refine good_seq fun K6 hK6 => ?_
  refine good_seq fun K7 hK7 => ?_
  refine good_region ?_
  refine g_op rfl (ValOk.op (v_move rfl rfl ?_)) 
  refine g_op rfl (ValOk.op (v_fieldP tabOk rfl tfoff30_3 rfl ?_)) 
  refine g_op rfl (ValOk.op (v_loadP tabOk rfl rfl tsize28 tagg28 rfl rfl rfl rfl ?_)) 
  refine g_op rfl (ValOk.op (v_lenM (l := a0.list) (f := encVal) tabOk rfl rfl telem28 rfl ?_)) 
  refine g_op rfl (ValOk.op (v_bin rfl rfl rfl rfl ?_)) 
  refine g_nil ?_
  refine hK7 _ ?_
  refine Good.le (σ' := ⟨21, [(1, _), (2, _), (3, _), (4, _), (9, _)], [(11, (_, _))]⟩) (le_w [some 11] rfl ⟨⟨_, rfl, .refl _⟩, ⟨⟨_, rfl, .refl _⟩, ⟨⟨_, rfl, .refl _⟩, ⟨⟨_, rfl, .refl _⟩, ⟨⟨_, rfl, .refl _⟩, trivial⟩⟩⟩⟩⟩ ⟨⟨_, rfl, .refl _⟩, trivial⟩ (by decide)) ?_
  refine good_cond rfl (fun hc1 => ?_) (fun hc1 => ?_)
  · replace h := ifT h (dT hc1)
    refine good_skip ?_
    refine hK6 _ ?_
    refine Good.le (σ' := ⟨21, [(1, _), (2, _), (3, _), (4, _)], [(11, (_, _))]⟩) (le_w [some 11] rfl ⟨⟨_, rfl, .refl _⟩, ⟨⟨_, rfl, .refl _⟩, ⟨⟨_, rfl, .refl _⟩, ⟨⟨_, rfl, .refl _⟩, trivial⟩⟩⟩⟩ ⟨⟨_, rfl, .refl _⟩, trivial⟩ (by decide)) ?_
    refine good_seq fun K8 hK8 => ?_
    refine good_block ?_
    refine good_region ?_
    refine g_op rfl (ValOk.op (v_move rfl rfl ?_)) 
    refine g_op rfl (ValOk.op (v_fieldP tabOk rfl tfoff30_3 rfl ?_)) 
    refine g_op rfl (ValOk.op (v_loadP tabOk rfl rfl tsize28 tagg28 rfl rfl rfl rfl ?_)) 
    refine g_op rfl (ValOk.op (v_move rfl rfl ?_)) 
    obtain ⟨hb1, h⟩ := ifS h
    refine g_op rfl (ValOk.op (v_idxM tabOk rfl rfl telem28 tsize30 hb1 (encVal_eq _) rfl rfl ?_)) 
    refine g_op rfl (ValOk.op (v_loadE tabOk rfl tsize30 tagg30 rfl rfl rfl ?_)) 
    obtain ⟨y1, hy1, h⟩ := bnd h
    refine g_op rfl (o_callR [] [] (core_value rfl rfl) ((ih m1 (by omega)) (ix a0.list x2) _ hy1) trivial (.cons (.refl _) (.nil)) (.inl rfl) rfl ?_)
    refine g_op rfl (ValOk.op (v_bin rfl rfl rfl rfl ?_)) 
    refine g_op rfl (ValOk.op (v_assign rfl rfl ?_)) 
    refine g_nil ?_
    refine hK8 _ ?_
    refine Good.le (σ' := ⟨21, [(1, _), (2, _), (3, _), (4, _)], [(11, (_, _))]⟩) (le_w [some 11] rfl ⟨⟨_, rfl, .refl _⟩, ⟨⟨_, rfl, .refl _⟩, ⟨⟨_, rfl, .refl _⟩, ⟨⟨_, rfl, .refl _⟩, trivial⟩⟩⟩⟩ ⟨⟨_, rfl, .refl _⟩, trivial⟩ (by decide)) ?_
    refine good_region ?_
    refine g_op rfl (ValOk.op (v_move rfl rfl ?_)) 
    refine g_op rfl (ValOk.op (v_bin rfl rfl rfl rfl ?_)) 
    refine g_op rfl (ValOk.op (v_assign rfl rfl ?_)) 
    refine g_nil ?_
    exact round_mk m1 (IntKind.wrap .i64 (x1 + y1), IntKind.wrap .i64 (x2 + 1)) (Nat.lt_succ_self _) ⟨by omega, h⟩ (le_w [some 11] rfl ⟨⟨_, rfl, .refl _⟩, ⟨⟨_, rfl, .refl _⟩, ⟨⟨_, rfl, .refl _⟩, ⟨⟨_, rfl, .refl _⟩, trivial⟩⟩⟩⟩ ⟨⟨_, rfl, .refl _⟩, trivial⟩ (by decide))
  · replace h := ifF h (dF hc1)
    refine good_exit ?_
    exact hw1 x1 (Option.some.inj h).symm _ (le_w [] rfl ⟨⟨_, rfl, .refl _⟩, ⟨⟨_, rfl, .refl _⟩, trivial⟩⟩ trivial (by decide))
theorem m_spec_l8Size_all (k : Nat) : P_m_spec_l8Size k := by
  induction k using Nat.strongRecOn with
  | _ k ih => exact m_spec_l8Size_step k ih
theorem m_spec_l8Size_ok (k : Nat) : ∀ (a0 : Val) (r : Int), m_spec_l8Size k a0 = some r → Does Try.prog 46 [.agg [.int .i64 a0.kind, .int .i64 a0.num, .str a0.text, .sl (a0.list.map encVal), .sl (a0.names.map encS)]] [] (ret (.int .i64 r)) := (m_spec_l8Size_all k)
def m_spec_ValueSize (k : Nat) (a0 : Val) : Option Int :=
  (m_spec_ValueOk k a0).bind fun y1 =>
  if y1 = true then
    (m_spec_l8Size k a0).bind fun y2 =>
    some y2
  else
    some 0
theorem m_spec_ValueSize_ok (k : Nat) : ∀ (a0 : Val) (r : Int), m_spec_ValueSize k a0 = some r → Does Try.prog 16 [.agg [.int .i64 a0.kind, .int .i64 a0.num, .str a0.text, .sl (a0.list.map encVal), .sl (a0.names.map encS)]] [] (ret (.int .i64 r)) := by
  intro a0 r h
  rw [m_spec_ValueSize] at h
  refine does_of_good tabOk Try.func16 rfl (by decide +kernel) (Nat.le_of_ble_eq_true rfl) fun c => ?_
  refine Good.le (σ' := ⟨8, [(0, .agg [.int .i64 a0.kind, .int .i64 a0.num, .str a0.text, .sl (a0.list.map encVal), .sl (a0.names.map encS)])], []⟩) (Le.refl _) ?_
  refine good_seq fun K1 hK1 => ?_
  refine good_region ?_
  refine g_op rfl (o_box (k := 11) tabOk rfl rfl rfl rfl rfl ?_)
  intro b1
  refine g_op rfl (ValOk.op (v_assign rfl rfl ?_)) 
  refine g_nil ?_
  refine hK1 _ ?_
  refine Good.le (σ' := ⟨8, [(1, _), (2, _)], [(11, (_, _))]⟩) (le_w [some 11] rfl ⟨⟨_, rfl, .refl _⟩, ⟨⟨_, rfl, .refl _⟩, trivial⟩⟩ ⟨⟨_, rfl, .refl _⟩, trivial⟩ (by decide)) ?_
  refine good_seq fun K2 hK2 => ?_
  refine good_seq fun K3 hK3 => ?_
  refine good_region ?_
  refine g_op rfl (ValOk.op (v_loadP tabOk rfl rfl tsize30 tagg30 rfl rfl rfl rfl ?_)) 
  obtain ⟨y1, hy1, h⟩ := bnd h
  refine g_op rfl (o_callR [] [] (core_value rfl rfl) (m_spec_ValueOk_ok k a0 _ hy1) trivial (.cons (.refl _) (.nil)) (.inl rfl) rfl ?_)
  refine g_op rfl (ValOk.op (v_not rfl rfl ?_)) 
  refine g_nil ?_
  refine hK3 _ ?_
  refine Good.le (σ' := ⟨8, [(1, _), (2, _), (5, _)], [(11, (_, _))]⟩) (le_w [some 11] rfl ⟨⟨_, rfl, .refl _⟩, ⟨⟨_, rfl, .refl _⟩, ⟨⟨_, rfl, .refl _⟩, trivial⟩⟩⟩ ⟨⟨_, rfl, .refl _⟩, trivial⟩ (by decide)) ?_
  refine good_cond rfl (fun hc1 => ?_) (fun hc1 => ?_)
  · replace h := bF h (nT hc1)
    refine good_seq fun K4 hK4 => ?_
    refine good_region ?_
    refine g_op rfl (ValOk.op (v_assign rfl rfl ?_)) 
    refine g_nil ?_
    refine hK4 _ ?_
    refine Good.le (σ' := ⟨8, [(1, _), (2, _)], [(11, (_, _))]⟩) (le_w [some 11] rfl ⟨⟨_, rfl, .refl _⟩, ⟨⟨_, rfl, .refl _⟩, trivial⟩⟩ ⟨⟨_, rfl, .refl _⟩, trivial⟩ (by decide)) ?_
    refine Good.le (σ' := ⟨8, [(2, .int .i64 0)], []⟩) (le_w [] rfl ⟨⟨_, rfl, .refl _⟩, trivial⟩ trivial (by decide)) ?_
    refine good_ret ?_
    obtain rfl := Option.some.inj h
    refine thenQ_ret ?_
    exact endQ_ret (h' := []) [] (.tmp rfl (.nil)) trivial (by decide) ⟨rfl, rfl⟩
  · replace h := ifT h (nF hc1)
    refine good_skip ?_
    refine hK2 _ ?_
    refine Good.le (σ' := ⟨8, [(1, _), (2, _)], [(11, (_, _))]⟩) (le_w [some 11] rfl ⟨⟨_, rfl, .refl _⟩, ⟨⟨_, rfl, .refl _⟩, trivial⟩⟩ ⟨⟨_, rfl, .refl _⟩, trivial⟩ (by decide)) ?_
    refine good_seq fun K5 hK5 => ?_
    refine good_region ?_
    refine g_op rfl (ValOk.op (v_loadP tabOk rfl rfl tsize30 tagg30 rfl rfl rfl rfl ?_)) 
    obtain ⟨y2, hy2, h⟩ := bnd h
    refine g_op rfl (o_callR [] [] (core_value rfl rfl) (m_spec_l8Size_ok k a0 _ hy2) trivial (.cons (.refl _) (.nil)) (.inl rfl) rfl ?_)
    refine g_op rfl (ValOk.op (v_assign rfl rfl ?_)) 
    refine g_nil ?_
    refine hK5 _ ?_
    refine Good.le (σ' := ⟨8, [(2, _)], []⟩) (le_w [] rfl ⟨⟨_, rfl, .refl _⟩, trivial⟩ trivial (by decide)) ?_
    refine Good.le (σ' := ⟨8, [(2, .int .i64 y2)], []⟩) (le_w [] rfl ⟨⟨_, rfl, .refl _⟩, trivial⟩ trivial (by decide)) ?_
    refine good_ret ?_
    obtain rfl := Option.some.inj h
    exact endQ_ret (h' := []) [] (.tmp rfl (.nil)) trivial (by decide) ⟨rfl, rfl⟩
mutual
def m_impl_sizeOf_l1 : Nat → Val → Int → Int → Option (Lp Int Int)
  | 0, _, _, _ => none
  | k + 1, a0, x1, x2 =>
    if x2 < (a0.list.length : Int) then
      if (0 : Int) ≤ x2 ∧ x2 < (a0.list.length : Int) then
        (m_impl_sizeOf k (ix a0.list x2)).bind fun y1 =>
        m_impl_sizeOf_l1 k a0 (IntKind.wrap .i64 (x1 + y1)) (IntKind.wrap .i64 (x2 + 1))
      else none
    else
      some (Lp.go x1)
def m_impl_sizeOf : Nat → Val → Option Int
  | 0, _ => none
  | k + 1, a0 =>
    (m_impl_sizeOf_l1 k a0 1 0).bind fun o1 =>
    o1.then fun s1 =>
    some s1
end
def P_m_impl_sizeOf (k : Nat) : Prop := ∀ (a0 : Val) (r : Int), m_impl_sizeOf k a0 = some r → Does Try.prog 47 [.agg [.int .i64 a0.kind, .int .i64 a0.num, .str a0.text, .sl (a0.list.map encVal), .sl (a0.names.map encS)]] [] (ret (.int .i64 r))
theorem m_impl_sizeOf_step (k : Nat) (ih : ∀ m, m < k → P_m_impl_sizeOf m) : P_m_impl_sizeOf k := by
  intro a0 r h
  obtain ⟨k, rfl⟩ : ∃ k', k = k' + 1 := by cases k with | zero => (rw [m_impl_sizeOf] at h; cases h) | succ k' => exact ⟨k', rfl⟩
  rw [m_impl_sizeOf] at h
  refine does_of_good tabOk Try.func47 rfl (by decide +kernel) (Nat.le_of_ble_eq_true rfl) fun c => ?_
  refine Good.le (σ' := ⟨19, [(0, .agg [.int .i64 a0.kind, .int .i64 a0.num, .str a0.text, .sl (a0.list.map encVal), .sl (a0.names.map encS)])], []⟩) (Le.refl _) ?_
  refine good_seq fun K1 hK1 => ?_
  refine good_region ?_
  refine g_op rfl (o_box (k := 11) tabOk rfl rfl rfl rfl rfl ?_)
  intro b1
  refine g_op rfl (ValOk.op (v_assign rfl rfl ?_)) 
  refine g_nil ?_
  refine hK1 _ ?_
  refine Good.le (σ' := ⟨19, [(1, _), (2, _)], [(11, (_, _))]⟩) (le_w [some 11] rfl ⟨⟨_, rfl, .refl _⟩, ⟨⟨_, rfl, .refl _⟩, trivial⟩⟩ ⟨⟨_, rfl, .refl _⟩, trivial⟩ (by decide)) ?_
  refine good_seq fun K2 hK2 => ?_
  refine good_region ?_
  refine g_op rfl (ValOk.op (v_assign rfl rfl ?_)) 
  refine g_nil ?_
  refine hK2 _ ?_
  refine good_seq fun K3 hK3 => ?_
  refine good_seq fun K4 hK4 => ?_
  refine good_region ?_
  refine g_op rfl (ValOk.op (v_fieldP tabOk rfl tfoff30_3 rfl ?_)) 
  refine g_op rfl (ValOk.op (v_loadP tabOk rfl rfl tsize28 tagg28 rfl rfl rfl rfl ?_)) 
  refine g_op rfl (ValOk.op (v_lenM (l := a0.list) (f := encVal) tabOk rfl rfl telem28 rfl ?_)) 
  refine g_op rfl (ValOk.op (v_move rfl rfl ?_)) 
  refine g_nil ?_
  refine hK4 _ ?_
  refine Good.le (σ' := ⟨19, [(2, _), (3, _), (7, _), (8, _), (9, _)], []⟩) (le_w [] rfl ⟨⟨_, rfl, .refl _⟩, ⟨⟨_, rfl, .refl _⟩, ⟨⟨_, rfl, .refl _⟩, ⟨⟨_, rfl, .refl _⟩, ⟨⟨_, rfl, .refl _⟩, trivial⟩⟩⟩⟩⟩ trivial (by decide)) ?_
  obtain ⟨o1, ho1, hJ1⟩ := bnd h
  have hw1 : ∀ (s1 : Int), o1 = Lp.go s1 → ∀ σ', Le σ' ⟨19, [(2, .int .i64 0), (3, .int .i64 s1)], []⟩ → K3 σ' := by
    intro s1 e1 σ' hle1
    subst e1
    refine hK3 _ (Good.le hle1 ?_)
    replace h := hJ1
    refine good_seq fun K5 hK5 => ?_
    refine good_region ?_
    refine g_op rfl (ValOk.op (v_move rfl rfl ?_)) 
    refine g_op rfl (ValOk.op (v_assign rfl rfl ?_)) 
    refine g_nil ?_
    refine hK5 _ ?_
    refine Good.le (σ' := ⟨19, [(2, _)], []⟩) (le_w [] rfl ⟨⟨_, rfl, .refl _⟩, trivial⟩ trivial (by decide)) ?_
    refine Good.le (σ' := ⟨19, [(2, .int .i64 s1)], []⟩) (le_w [] rfl ⟨⟨_, rfl, .refl _⟩, trivial⟩ trivial (by decide)) ?_
    refine good_ret ?_
    obtain rfl := Option.some.inj h
    exact endQ_ret (h' := []) [] (.tmp rfl (.nil)) trivial (by decide) ⟨rfl, rfl⟩
  replace h := ho1
  refine good_block ?_
  refine good_loopf (fun p : (Int × Int) => ⟨19, [(2, .int .i64 0), (3, .int .i64 p.1), (7, .sl (a0.list.map encVal)), (8, .int .i64 (a0.list.length : Int)), (9, .int .i64 p.2)], []⟩) (fun m p => m < k + 1 ∧ m_impl_sizeOf_l1 m a0 p.1 p.2 = some o1) k (1, 0) (le_w [] rfl ⟨⟨_, rfl, .refl _⟩, ⟨⟨_, rfl, .refl _⟩, ⟨⟨_, rfl, .refl _⟩, ⟨⟨_, rfl, .refl _⟩, ⟨⟨_, rfl, .refl _⟩, trivial⟩⟩⟩⟩⟩ trivial (by decide)) ⟨by omega, h⟩ ?_
  rintro m1 ⟨x1, x2⟩ ⟨hm, h⟩
  replace h : m_impl_sizeOf_l1 m1 a0 x1 x2 = some o1 := h
  refine Good.le (σ' := ⟨19, [(2, .int .i64 0), (3, .int .i64 x1), (7, .sl (a0.list.map encVal)), (8, .int .i64 (a0.list.length : Int)), (9, .int .i64 x2)], []⟩) (Le.refl _) ?_
  obtain ⟨m1, rfl⟩ : ∃ m', m1 = m' + 1 := by cases m1 with | zero => (rw [m_impl_sizeOf_l1] at h; cases h) | succ m' => exact ⟨m', rfl⟩
  rw [m_impl_sizeOf_l1] at h
  refine good_seq fun K6 hK6 => ?_
  refine good_region ?_
  refine g_op rfl (ValOk.op (v_bin rfl rfl rfl rfl ?_)) 
  refine g_nil ?_
  refine hK6 _ ?_
  refine good_seq fun K7 hK7 => ?_
  refine good_cond rfl (fun hc1 => ?_) (fun hc1 => ?_)
  · replace h := ifT h (dT hc1)
    refine good_skip ?_
    refine hK7 _ ?_
    refine Good.le (σ' := ⟨19, [(2, _), (3, _), (7, _), (8, _), (9, _)], []⟩) (le_w [] rfl ⟨⟨_, rfl, .refl _⟩, ⟨⟨_, rfl, .refl _⟩, ⟨⟨_, rfl, .refl _⟩, ⟨⟨_, rfl, .refl _⟩, ⟨⟨_, rfl, .refl _⟩, trivial⟩⟩⟩⟩⟩ trivial (by decide)) ?_
    refine good_seq fun K8 hK8 => ?_
    refine good_block ?_
    refine good_seq fun K9 hK9 => ?_
    refine good_region ?_
    obtain ⟨hb1, h⟩ := ifS h
    refine g_op rfl (ValOk.op (v_idxM tabOk rfl rfl telem28 tsize30 hb1 (encVal_eq _) rfl rfl ?_)) 
    refine g_op rfl (ValOk.op (v_loadE tabOk rfl tsize30 tagg30 rfl rfl rfl ?_)) 
    refine g_op rfl (o_alloc (k := 15) tabOk tzero30 rfl rfl ?_)
    intro b2
    refine g_op rfl (o_storeP tabOk (cs' := [.int .i64 ((ix a0.list x2).kind), .int .i64 ((ix a0.list x2).num), .str ((ix a0.list x2).text), .sl (((ix a0.list x2).list).map encVal), .sl (((ix a0.list x2).names).map encS)]) rfl rfl tsize30 rfl rfl rfl (Nat.le_of_ble_eq_true rfl) rfl rfl rfl ?_)
    refine g_nil ?_
    refine hK9 _ ?_
    refine Good.le (σ' := ⟨19, [(2, _), (3, _), (5, _), (7, _), (8, _), (9, _)], [(15, (_, _))]⟩) (le_w [some 15] rfl ⟨⟨_, rfl, .refl _⟩, ⟨⟨_, rfl, .refl _⟩, ⟨⟨_, rfl, .refl _⟩, ⟨⟨_, rfl, .refl _⟩, ⟨⟨_, rfl, .refl _⟩, ⟨⟨_, rfl, .refl _⟩, trivial⟩⟩⟩⟩⟩⟩ ⟨⟨_, rfl, .refl _⟩, trivial⟩ (by decide)) ?_
    refine good_region ?_
    refine g_op rfl (ValOk.op (v_move rfl rfl ?_)) 
    refine g_op rfl (ValOk.op (v_loadP tabOk rfl rfl tsize30 tagg30 rfl rfl rfl rfl ?_)) 
    obtain ⟨y1, hy1, h⟩ := bnd h
    refine g_op rfl (o_callR [] [] (core_value rfl rfl) ((ih m1 (by omega)) (ix a0.list x2) _ hy1) trivial (.cons (.refl _) (.nil)) (.inl rfl) rfl ?_)
    refine g_op rfl (ValOk.op (v_bin rfl rfl rfl rfl ?_)) 
    refine g_op rfl (ValOk.op (v_assign rfl rfl ?_)) 
    refine g_nil ?_
    refine hK8 _ ?_
    refine Good.le (σ' := ⟨19, [(2, _), (3, _), (7, _), (8, _), (9, _)], []⟩) (le_w [] rfl ⟨⟨_, rfl, .refl _⟩, ⟨⟨_, rfl, .refl _⟩, ⟨⟨_, rfl, .refl _⟩, ⟨⟨_, rfl, .refl _⟩, ⟨⟨_, rfl, .refl _⟩, trivial⟩⟩⟩⟩⟩ trivial (by decide)) ?_
    refine good_region ?_
    refine g_op rfl (ValOk.op (v_bin rfl rfl rfl rfl ?_)) 
    refine g_op rfl (ValOk.op (v_move rfl rfl ?_)) 
    refine g_nil ?_
    exact round_mk m1 (IntKind.wrap .i64 (x1 + y1), IntKind.wrap .i64 (x2 + 1)) (Nat.lt_succ_self _) ⟨by omega, h⟩ (le_w [] rfl ⟨⟨_, rfl, .refl _⟩, ⟨⟨_, rfl, .refl _⟩, ⟨⟨_, rfl, .refl _⟩, ⟨⟨_, rfl, .refl _⟩, ⟨⟨_, rfl, .refl _⟩, trivial⟩⟩⟩⟩⟩ trivial (by decide))
  · replace h := ifF h (dF hc1)
    refine good_exit ?_
    exact hw1 x1 (Option.some.inj h).symm _ (le_w [] rfl ⟨⟨_, rfl, .refl _⟩, ⟨⟨_, rfl, .refl _⟩, trivial⟩⟩ trivial (by decide))
theorem m_impl_sizeOf_all (k : Nat) : P_m_impl_sizeOf k := by
  induction k using Nat.strongRecOn with
  | _ k ih => exact m_impl_sizeOf_step k ih
theorem m_impl_sizeOf_ok (k : Nat) : ∀ (a0 : Val) (r : Int), m_impl_sizeOf k a0 = some r → Does Try.prog 47 [.agg [.int .i64 a0.kind, .int .i64 a0.num, .str a0.text, .sl (a0.list.map encVal), .sl (a0.names.map encS)]] [] (ret (.int .i64 r)) := (m_impl_sizeOf_all k)
def m_impl_ValueSize (k : Nat) (a0 : Val) : Option Int :=
  (m_impl_ValueOk k a0).bind fun y1 =>
  if y1 = true then
    (m_impl_sizeOf k a0).bind fun y2 =>
    some y2
  else
    some 0
theorem m_impl_ValueSize_ok (k : Nat) : ∀ (a0 : Val) (r : Int), m_impl_ValueSize k a0 = some r → Does Try.prog 17 [.agg [.int .i64 a0.kind, .int .i64 a0.num, .str a0.text, .sl (a0.list.map encVal), .sl (a0.names.map encS)]] [] (ret (.int .i64 r)) := by
  intro a0 r h
  rw [m_impl_ValueSize] at h
  refine does_of_good tabOk Try.func17 rfl (by decide +kernel) (Nat.le_of_ble_eq_true rfl) fun c => ?_
  refine Good.le (σ' := ⟨8, [(0, .agg [.int .i64 a0.kind, .int .i64 a0.num, .str a0.text, .sl (a0.list.map encVal), .sl (a0.names.map encS)])], []⟩) (Le.refl _) ?_
  refine good_seq fun K1 hK1 => ?_
  refine good_region ?_
  refine g_op rfl (o_box (k := 11) tabOk rfl rfl rfl rfl rfl ?_)
  intro b1
  refine g_op rfl (ValOk.op (v_assign rfl rfl ?_)) 
  refine g_nil ?_
  refine hK1 _ ?_
  refine Good.le (σ' := ⟨8, [(1, _), (2, _)], [(11, (_, _))]⟩) (le_w [some 11] rfl ⟨⟨_, rfl, .refl _⟩, ⟨⟨_, rfl, .refl _⟩, trivial⟩⟩ ⟨⟨_, rfl, .refl _⟩, trivial⟩ (by decide)) ?_
  refine good_seq fun K2 hK2 => ?_
  refine good_seq fun K3 hK3 => ?_
  refine good_region ?_
  refine g_op rfl (ValOk.op (v_loadP tabOk rfl rfl tsize30 tagg30 rfl rfl rfl rfl ?_)) 
  obtain ⟨y1, hy1, h⟩ := bnd h
  refine g_op rfl (o_callR [] [] (core_value rfl rfl) (m_impl_ValueOk_ok k a0 _ hy1) trivial (.cons (.refl _) (.nil)) (.inl rfl) rfl ?_)
  refine g_op rfl (ValOk.op (v_not rfl rfl ?_)) 
  refine g_nil ?_
  refine hK3 _ ?_
  refine Good.le (σ' := ⟨8, [(1, _), (2, _), (5, _)], [(11, (_, _))]⟩) (le_w [some 11] rfl ⟨⟨_, rfl, .refl _⟩, ⟨⟨_, rfl, .refl _⟩, ⟨⟨_, rfl, .refl _⟩, trivial⟩⟩⟩ ⟨⟨_, rfl, .refl _⟩, trivial⟩ (by decide)) ?_
  refine good_cond rfl (fun hc1 => ?_) (fun hc1 => ?_)
  · replace h := bF h (nT hc1)
    refine good_seq fun K4 hK4 => ?_
    refine good_region ?_
    refine g_op rfl (ValOk.op (v_assign rfl rfl ?_)) 
    refine g_nil ?_
    refine hK4 _ ?_
    refine Good.le (σ' := ⟨8, [(1, _), (2, _)], [(11, (_, _))]⟩) (le_w [some 11] rfl ⟨⟨_, rfl, .refl _⟩, ⟨⟨_, rfl, .refl _⟩, trivial⟩⟩ ⟨⟨_, rfl, .refl _⟩, trivial⟩ (by decide)) ?_
    refine Good.le (σ' := ⟨8, [(2, .int .i64 0)], []⟩) (le_w [] rfl ⟨⟨_, rfl, .refl _⟩, trivial⟩ trivial (by decide)) ?_
    refine good_ret ?_
    obtain rfl := Option.some.inj h
    refine thenQ_ret ?_
    exact endQ_ret (h' := []) [] (.tmp rfl (.nil)) trivial (by decide) ⟨rfl, rfl⟩
  · replace h := ifT h (nF hc1)
    refine good_skip ?_
    refine hK2 _ ?_
    refine Good.le (σ' := ⟨8, [(1, _), (2, _)], [(11, (_, _))]⟩) (le_w [some 11] rfl ⟨⟨_, rfl, .refl _⟩, ⟨⟨_, rfl, .refl _⟩, trivial⟩⟩ ⟨⟨_, rfl, .refl _⟩, trivial⟩ (by decide)) ?_
    refine good_seq fun K5 hK5 => ?_
    refine good_region ?_
    refine g_op rfl (ValOk.op (v_loadP tabOk rfl rfl tsize30 tagg30 rfl rfl rfl rfl ?_)) 
    obtain ⟨y2, hy2, h⟩ := bnd h
    refine g_op rfl (o_callR [] [] (core_value rfl rfl) (m_impl_sizeOf_ok k a0 _ hy2) trivial (.cons (.refl _) (.nil)) (.inl rfl) rfl ?_)
    refine g_op rfl (ValOk.op (v_assign rfl rfl ?_)) 
    refine g_nil ?_
    refine hK5 _ ?_
    refine Good.le (σ' := ⟨8, [(2, _)], []⟩) (le_w [] rfl ⟨⟨_, rfl, .refl _⟩, trivial⟩ trivial (by decide)) ?_
    refine Good.le (σ' := ⟨8, [(2, .int .i64 y2)], []⟩) (le_w [] rfl ⟨⟨_, rfl, .refl _⟩, trivial⟩ trivial (by decide)) ?_
    refine good_ret ?_
    obtain rfl := Option.some.inj h
    exact endQ_ret (h' := []) [] (.tmp rfl (.nil)) trivial (by decide) ⟨rfl, rfl⟩
end Go.Proofs.Ytopbbjoflopjbaa
