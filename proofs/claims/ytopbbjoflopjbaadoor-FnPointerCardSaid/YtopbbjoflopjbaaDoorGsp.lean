/- What functions of this program answer, as plain functions; each theorem says that the code comes to just that. -/
import Derived.Test.YtopbbjoflopjbaaDoorDat
import Derived.Test.YtopbbjoflopjbaaDoorB13
import Derived.Test.YtopbbjoflopjbaaDoorDatO
import Derived.Test.YtopbbjoflopjbaaDoorB20
/-! Functions of the program. -/
set_option linter.unusedVariables false
set_option maxRecDepth 100000
set_option maxHeartbeats 20000000
namespace Go.Proofs.YtopbbjoflopjbaaDoor
open Go.Bb
def m_internal_bytealg_hashStr_string_l2 : Nat → Int → Int → Int → Option (Lp Int (Int × Int))
  | 0, _, _, _ => none
  | k + 1, x3, x4, x5 =>
    if 0 < x5 then
      if (bitsI .and .i64 x5 1) = 0 then
        m_internal_bytealg_hashStr_string_l2 k x3 (IntKind.wrap .u32 (x4 * x4)) (Int.fdiv x5 (2 ^ (min (Int.toNat 1) (IntKind.bits .i64))))
      else
        m_internal_bytealg_hashStr_string_l2 k (IntKind.wrap .u32 (x3 * x4)) (IntKind.wrap .u32 (x4 * x4)) (Int.fdiv x5 (2 ^ (min (Int.toNat 1) (IntKind.bits .i64))))
    else
      some (Lp.go x3)
def m_internal_bytealg_hashStr_string_l1 : Nat → Bs → Int → Int → Option (Lp Int (Int × Int))
  | 0, _, _, _ => none
  | k + 1, a0, x1, x2 =>
    if x2 < (a0.length : Int) then
      if (0 : Int) ≤ x2 ∧ x2 < (a0.length : Int) then
        m_internal_bytealg_hashStr_string_l1 k a0 (IntKind.wrap .u32 ((IntKind.wrap .u32 (x1 * 16777619)) + (IntKind.wrap .u32 (byt a0 x2)))) (IntKind.wrap .i64 (x2 + 1))
      else none
    else
      some (Lp.go x1)
def m_internal_bytealg_hashStr_string (k : Nat) (a0 : Bs) : Option (Int × Int) :=
  (m_internal_bytealg_hashStr_string_l1 k a0 0 0).bind fun o1 =>
  o1.then fun s1 =>
    (m_internal_bytealg_hashStr_string_l2 k 1 16777619 (a0.length : Int)).bind fun o2 =>
    o2.then fun s2 =>
    some (s1, s2)
theorem m_internal_bytealg_hashStr_string_ok (k : Nat) : ∀ (a0 : Bs) (r : (Int × Int)), m_internal_bytealg_hashStr_string k a0 = some r → Does Tryd.prog 98 [.str a0] [] (ret (.tup [.int .u32 r.1, .int .u32 r.2])) := by
  intro a0 r h
  rw [m_internal_bytealg_hashStr_string] at h
  refine does_of_good tabOk Tryd.func98 rfl (by decide +kernel) (Nat.le_of_ble_eq_true rfl) fun c => ?_
  refine Good.le (σ' := ⟨39, [(0, .str a0)], []⟩) (Le.refl _) ?_
  refine good_seq fun K1 hK1 => ?_
  refine good_region ?_
  refine g_op rfl (ValOk.op (v_assign rfl rfl ?_)) 
  refine g_op rfl (ValOk.op (v_assign rfl rfl ?_)) 
  refine g_nil ?_
  refine hK1 _ ?_
  refine good_seq fun K2 hK2 => ?_
  refine good_region ?_
  refine g_op rfl (ValOk.op (v_assign rfl rfl ?_)) 
  refine g_nil ?_
  refine hK2 _ ?_
  refine good_seq fun K3 hK3 => ?_
  refine good_seq fun K4 hK4 => ?_
  refine good_region ?_
  refine g_op rfl (ValOk.op (v_assign rfl rfl ?_)) 
  refine g_nil ?_
  refine hK4 _ ?_
  obtain ⟨o1, ho1, hJ1⟩ := bnd h
  have hw1 : ∀ (s1 : Int), o1 = Lp.go s1 → ∀ σ', Le σ' ⟨39, [(0, .str a0), (2, .int .u32 0), (3, .int .u32 0), (4, .int .u32 s1)], []⟩ → K3 σ' := by
    intro s1 e1 σ' hle1
    subst e1
    refine hK3 _ (Good.le hle1 ?_)
    replace h := hJ1
    refine good_seq fun K5 hK5 => ?_
    refine good_region ?_
    refine g_op rfl (ValOk.op (v_assign rfl rfl ?_)) 
    refine g_op rfl (ValOk.op (v_assign rfl rfl ?_)) 
    refine g_nil ?_
    refine hK5 _ ?_
    refine good_seq fun K6 hK6 => ?_
    refine good_seq fun K7 hK7 => ?_
    refine good_region ?_
    refine g_op rfl (ValOk.op (v_move rfl rfl ?_)) 
    refine g_op rfl (ValOk.op (v_lenS tabOk rfl rfl tkind9 rfl ?_)) 
    refine g_op rfl (ValOk.op (v_assign rfl rfl ?_)) 
    refine g_nil ?_
    refine hK7 _ ?_
    refine Good.le (σ' := ⟨39, [(2, _), (3, _), (4, _), (6, _), (7, _), (8, _)], []⟩) (le_w [] rfl ⟨⟨_, rfl, .refl _⟩, ⟨⟨_, rfl, .refl _⟩, ⟨⟨_, rfl, .refl _⟩, ⟨⟨_, rfl, .refl _⟩, ⟨⟨_, rfl, .refl _⟩, ⟨⟨_, rfl, .refl _⟩, trivial⟩⟩⟩⟩⟩⟩ trivial (by decide)) ?_
    obtain ⟨o2, ho2, hJ2⟩ := bnd h
    have hw2 : ∀ (s2 : Int), o2 = Lp.go s2 → ∀ σ', Le σ' ⟨39, [(2, .int .u32 0), (3, .int .u32 0), (4, .int .u32 s1), (6, .int .u32 s2)], []⟩ → K6 σ' := by
      intro s2 e2 σ' hle2
      subst e2
      refine hK6 _ (Good.le hle2 ?_)
      replace h := hJ2
      refine good_seq fun K8 hK8 => ?_
      refine good_region ?_
      refine g_op rfl (ValOk.op (v_move rfl rfl ?_)) 
      refine g_op rfl (ValOk.op (v_move rfl rfl ?_)) 
      refine g_op rfl (ValOk.op (v_assign rfl rfl ?_)) 
      refine g_op rfl (ValOk.op (v_assign rfl rfl ?_)) 
      refine g_nil ?_
      refine hK8 _ ?_
      refine Good.le (σ' := ⟨39, [(2, _), (3, _)], []⟩) (le_w [] rfl ⟨⟨_, rfl, .refl _⟩, ⟨⟨_, rfl, .refl _⟩, trivial⟩⟩ trivial (by decide)) ?_
      refine Good.le (σ' := ⟨39, [(2, .int .u32 s1), (3, .int .u32 s2)], []⟩) (le_w [] rfl ⟨⟨_, rfl, .refl _⟩, ⟨⟨_, rfl, .refl _⟩, trivial⟩⟩ trivial (by decide)) ?_
      refine good_ret ?_
      obtain rfl := Option.some.inj h
      exact endQ_ret (h' := []) [] (.tmp rfl (.tmp rfl (.nil))) trivial (by decide) ⟨rfl, rfl⟩
    replace h := ho2
    refine good_block ?_
    refine good_loopf (fun p : (Int × Int × Int) => ⟨39, [(2, .int .u32 0), (3, .int .u32 0), (4, .int .u32 s1), (6, .int .u32 p.1), (7, .int .u32 p.2.1), (8, .int .i64 p.2.2)], []⟩) (fun m p => m_internal_bytealg_hashStr_string_l2 m p.1 p.2.1 p.2.2 = some o2) k (1, 16777619, (a0.length : Int)) (le_w [] rfl ⟨⟨_, rfl, .refl _⟩, ⟨⟨_, rfl, .refl _⟩, ⟨⟨_, rfl, .refl _⟩, ⟨⟨_, rfl, .refl _⟩, ⟨⟨_, rfl, .refl _⟩, ⟨⟨_, rfl, .refl _⟩, trivial⟩⟩⟩⟩⟩⟩ trivial (by decide)) h ?_
    rintro m1 ⟨x3, x4, x5⟩ h
    replace h : m_internal_bytealg_hashStr_string_l2 m1 x3 x4 x5 = some o2 := h
    refine Good.le (σ' := ⟨39, [(2, .int .u32 0), (3, .int .u32 0), (4, .int .u32 s1), (6, .int .u32 x3), (7, .int .u32 x4), (8, .int .i64 x5)], []⟩) (Le.refl _) ?_
    obtain ⟨m1, rfl⟩ : ∃ m', m1 = m' + 1 := by cases m1 with | zero => (rw [m_internal_bytealg_hashStr_string_l2] at h; cases h) | succ m' => exact ⟨m', rfl⟩
    rw [m_internal_bytealg_hashStr_string_l2] at h
    refine good_seq fun K9 hK9 => ?_
    refine good_seq fun K10 hK10 => ?_
    refine good_region ?_
    refine g_op rfl (ValOk.op (v_move rfl rfl ?_)) 
    refine g_op rfl (ValOk.op (v_bin rfl rfl rfl rfl ?_)) 
    refine g_nil ?_
    refine hK10 _ ?_
    refine Good.le (σ' := ⟨39, [(2, _), (3, _), (4, _), (6, _), (7, _), (8, _), (25, _)], []⟩) (le_w [] rfl ⟨⟨_, rfl, .refl _⟩, ⟨⟨_, rfl, .refl _⟩, ⟨⟨_, rfl, .refl _⟩, ⟨⟨_, rfl, .refl _⟩, ⟨⟨_, rfl, .refl _⟩, ⟨⟨_, rfl, .refl _⟩, ⟨⟨_, rfl, .refl _⟩, trivial⟩⟩⟩⟩⟩⟩⟩ trivial (by decide)) ?_
    refine good_cond rfl (fun hc1 => ?_) (fun hc1 => ?_)
    · replace h := ifT h (dT hc1)
      refine good_skip ?_
      refine hK9 _ ?_
      refine Good.le (σ' := ⟨39, [(2, _), (3, _), (4, _), (6, _), (7, _), (8, _)], []⟩) (le_w [] rfl ⟨⟨_, rfl, .refl _⟩, ⟨⟨_, rfl, .refl _⟩, ⟨⟨_, rfl, .refl _⟩, ⟨⟨_, rfl, .refl _⟩, ⟨⟨_, rfl, .refl _⟩, ⟨⟨_, rfl, .refl _⟩, trivial⟩⟩⟩⟩⟩⟩ trivial (by decide)) ?_
      refine good_seq fun K11 hK11 => ?_
      refine good_block ?_
      refine good_seq fun K12 hK12 => ?_
      refine good_seq fun K13 hK13 => ?_
      refine good_region ?_
      refine g_op rfl (ValOk.op (v_move rfl rfl ?_)) 
      refine g_op rfl (ValOk.op (v_bin rfl rfl rfl rfl ?_)) 
      refine g_op rfl (ValOk.op (v_bin rfl rfl rfl rfl ?_)) 
      refine g_nil ?_
      refine hK13 _ ?_
      refine Good.le (σ' := ⟨39, [(2, _), (3, _), (4, _), (6, _), (7, _), (8, _), (30, _)], []⟩) (le_w [] rfl ⟨⟨_, rfl, .refl _⟩, ⟨⟨_, rfl, .refl _⟩, ⟨⟨_, rfl, .refl _⟩, ⟨⟨_, rfl, .refl _⟩, ⟨⟨_, rfl, .refl _⟩, ⟨⟨_, rfl, .refl _⟩, ⟨⟨_, rfl, .refl _⟩, trivial⟩⟩⟩⟩⟩⟩⟩ trivial (by decide)) ?_
      refine good_cond rfl (fun hc2 => ?_) (fun hc2 => ?_)
      · replace h := ifF h (ndT hc2)
        refine good_region ?_
        refine g_op rfl (ValOk.op (v_move rfl rfl ?_)) 
        refine g_op rfl (ValOk.op (v_move rfl rfl ?_)) 
        refine g_op rfl (ValOk.op (v_bin rfl rfl rfl rfl ?_)) 
        refine g_op rfl (ValOk.op (v_assign rfl rfl ?_)) 
        refine g_nil ?_
        refine hK12 _ ?_
        refine Good.le (σ' := ⟨39, [(2, _), (3, _), (4, _), (6, _), (7, _), (8, _)], []⟩) (le_w [] rfl ⟨⟨_, rfl, .refl _⟩, ⟨⟨_, rfl, .refl _⟩, ⟨⟨_, rfl, .refl _⟩, ⟨⟨_, rfl, .refl _⟩, ⟨⟨_, rfl, .refl _⟩, ⟨⟨_, rfl, .refl _⟩, trivial⟩⟩⟩⟩⟩⟩ trivial (by decide)) ?_
        refine good_region ?_
        refine g_op rfl (ValOk.op (v_move rfl rfl ?_)) 
        refine g_op rfl (ValOk.op (v_move rfl rfl ?_)) 
        refine g_op rfl (ValOk.op (v_bin rfl rfl rfl rfl ?_)) 
        refine g_op rfl (ValOk.op (v_assign rfl rfl ?_)) 
        refine g_nil ?_
        refine hK11 _ ?_
        refine Good.le (σ' := ⟨39, [(2, _), (3, _), (4, _), (6, _), (7, _), (8, _)], []⟩) (le_w [] rfl ⟨⟨_, rfl, .refl _⟩, ⟨⟨_, rfl, .refl _⟩, ⟨⟨_, rfl, .refl _⟩, ⟨⟨_, rfl, .refl _⟩, ⟨⟨_, rfl, .refl _⟩, ⟨⟨_, rfl, .refl _⟩, trivial⟩⟩⟩⟩⟩⟩ trivial (by decide)) ?_
        refine good_region ?_
        refine g_op rfl (ValOk.op (v_move rfl rfl ?_)) 
        refine g_op rfl (ValOk.op (v_shr rfl rfl (by decide) rfl ?_)) 
        refine g_op rfl (ValOk.op (v_assign rfl rfl ?_)) 
        refine g_nil ?_
        exact round_mk m1 (IntKind.wrap .u32 (x3 * x4), IntKind.wrap .u32 (x4 * x4), Int.fdiv x5 (2 ^ (min (Int.toNat 1) (IntKind.bits .i64)))) (Nat.lt_succ_self _) h (le_w [] rfl ⟨⟨_, rfl, .refl _⟩, ⟨⟨_, rfl, .refl _⟩, ⟨⟨_, rfl, .refl _⟩, ⟨⟨_, rfl, .refl _⟩, ⟨⟨_, rfl, .refl _⟩, ⟨⟨_, rfl, .refl _⟩, trivial⟩⟩⟩⟩⟩⟩ trivial (by decide))
      · replace h := ifT h (ndF hc2)
        refine good_skip ?_
        refine hK12 _ ?_
        refine Good.le (σ' := ⟨39, [(2, _), (3, _), (4, _), (6, _), (7, _), (8, _)], []⟩) (le_w [] rfl ⟨⟨_, rfl, .refl _⟩, ⟨⟨_, rfl, .refl _⟩, ⟨⟨_, rfl, .refl _⟩, ⟨⟨_, rfl, .refl _⟩, ⟨⟨_, rfl, .refl _⟩, ⟨⟨_, rfl, .refl _⟩, trivial⟩⟩⟩⟩⟩⟩ trivial (by decide)) ?_
        refine good_region ?_
        refine g_op rfl (ValOk.op (v_move rfl rfl ?_)) 
        refine g_op rfl (ValOk.op (v_move rfl rfl ?_)) 
        refine g_op rfl (ValOk.op (v_bin rfl rfl rfl rfl ?_)) 
        refine g_op rfl (ValOk.op (v_assign rfl rfl ?_)) 
        refine g_nil ?_
        refine hK11 _ ?_
        refine Good.le (σ' := ⟨39, [(2, _), (3, _), (4, _), (6, _), (7, _), (8, _)], []⟩) (le_w [] rfl ⟨⟨_, rfl, .refl _⟩, ⟨⟨_, rfl, .refl _⟩, ⟨⟨_, rfl, .refl _⟩, ⟨⟨_, rfl, .refl _⟩, ⟨⟨_, rfl, .refl _⟩, ⟨⟨_, rfl, .refl _⟩, trivial⟩⟩⟩⟩⟩⟩ trivial (by decide)) ?_
        refine good_region ?_
        refine g_op rfl (ValOk.op (v_move rfl rfl ?_)) 
        refine g_op rfl (ValOk.op (v_shr rfl rfl (by decide) rfl ?_)) 
        refine g_op rfl (ValOk.op (v_assign rfl rfl ?_)) 
        refine g_nil ?_
        exact round_mk m1 (x3, IntKind.wrap .u32 (x4 * x4), Int.fdiv x5 (2 ^ (min (Int.toNat 1) (IntKind.bits .i64)))) (Nat.lt_succ_self _) h (le_w [] rfl ⟨⟨_, rfl, .refl _⟩, ⟨⟨_, rfl, .refl _⟩, ⟨⟨_, rfl, .refl _⟩, ⟨⟨_, rfl, .refl _⟩, ⟨⟨_, rfl, .refl _⟩, ⟨⟨_, rfl, .refl _⟩, trivial⟩⟩⟩⟩⟩⟩ trivial (by decide))
    · replace h := ifF h (dF hc1)
      refine good_exit ?_
      exact hw2 x3 (Option.some.inj h).symm _ (le_w [] rfl ⟨⟨_, rfl, .refl _⟩, ⟨⟨_, rfl, .refl _⟩, ⟨⟨_, rfl, .refl _⟩, ⟨⟨_, rfl, .refl _⟩, trivial⟩⟩⟩⟩ trivial (by decide))
  replace h := ho1
  refine good_block ?_
  refine good_loopf (fun p : (Int × Int) => ⟨39, [(0, .str a0), (2, .int .u32 0), (3, .int .u32 0), (4, .int .u32 p.1), (5, .int .i64 p.2)], []⟩) (fun m p => m_internal_bytealg_hashStr_string_l1 m a0 p.1 p.2 = some o1) k (0, 0) (le_w [] rfl ⟨⟨_, rfl, .refl _⟩, ⟨⟨_, rfl, .refl _⟩, ⟨⟨_, rfl, .refl _⟩, ⟨⟨_, rfl, .refl _⟩, ⟨⟨_, rfl, .refl _⟩, trivial⟩⟩⟩⟩⟩ trivial (by decide)) h ?_
  rintro m2 ⟨x1, x2⟩ h
  replace h : m_internal_bytealg_hashStr_string_l1 m2 a0 x1 x2 = some o1 := h
  refine Good.le (σ' := ⟨39, [(0, .str a0), (2, .int .u32 0), (3, .int .u32 0), (4, .int .u32 x1), (5, .int .i64 x2)], []⟩) (Le.refl _) ?_
  obtain ⟨m2, rfl⟩ : ∃ m', m2 = m' + 1 := by cases m2 with | zero => (rw [m_internal_bytealg_hashStr_string_l1] at h; cases h) | succ m' => exact ⟨m', rfl⟩
  rw [m_internal_bytealg_hashStr_string_l1] at h
  refine good_seq fun K14 hK14 => ?_
  refine good_seq fun K15 hK15 => ?_
  refine good_region ?_
  refine g_op rfl (ValOk.op (v_move rfl rfl ?_)) 
  refine g_op rfl (ValOk.op (v_move rfl rfl ?_)) 
  refine g_op rfl (ValOk.op (v_lenS tabOk rfl rfl tkind9 rfl ?_)) 
  refine g_op rfl (ValOk.op (v_bin rfl rfl rfl rfl ?_)) 
  refine g_nil ?_
  refine hK15 _ ?_
  refine Good.le (σ' := ⟨39, [(0, _), (2, _), (3, _), (4, _), (5, _), (12, _)], []⟩) (le_w [] rfl ⟨⟨_, rfl, .refl _⟩, ⟨⟨_, rfl, .refl _⟩, ⟨⟨_, rfl, .refl _⟩, ⟨⟨_, rfl, .refl _⟩, ⟨⟨_, rfl, .refl _⟩, ⟨⟨_, rfl, .refl _⟩, trivial⟩⟩⟩⟩⟩⟩ trivial (by decide)) ?_
  refine good_cond rfl (fun hc3 => ?_) (fun hc3 => ?_)
  · replace h := ifT h (dT hc3)
    refine good_skip ?_
    refine hK14 _ ?_
    refine Good.le (σ' := ⟨39, [(0, _), (2, _), (3, _), (4, _), (5, _)], []⟩) (le_w [] rfl ⟨⟨_, rfl, .refl _⟩, ⟨⟨_, rfl, .refl _⟩, ⟨⟨_, rfl, .refl _⟩, ⟨⟨_, rfl, .refl _⟩, ⟨⟨_, rfl, .refl _⟩, trivial⟩⟩⟩⟩⟩ trivial (by decide)) ?_
    refine good_seq fun K16 hK16 => ?_
    refine good_block ?_
    refine good_region ?_
    refine g_op rfl (ValOk.op (v_move rfl rfl ?_)) 
    refine g_op rfl (ValOk.op (v_bin rfl rfl rfl rfl ?_)) 
    refine g_op rfl (ValOk.op (v_move rfl rfl ?_)) 
    refine g_op rfl (ValOk.op (v_move rfl rfl ?_)) 
    obtain ⟨hb1, h⟩ := ifS h
    refine g_op rfl (ValOk.op (v_indexM tabOk rfl rfl tkind9 hb1 rfl ?_)) 
    refine g_op rfl (ValOk.op (v_convI tabOk rfl tkind5 tkind115 rfl ?_)) 
    refine g_op rfl (ValOk.op (v_bin rfl rfl rfl rfl ?_)) 
    refine g_op rfl (ValOk.op (v_assign rfl rfl ?_)) 
    refine g_nil ?_
    refine hK16 _ ?_
    refine Good.le (σ' := ⟨39, [(0, _), (2, _), (3, _), (4, _), (5, _)], []⟩) (le_w [] rfl ⟨⟨_, rfl, .refl _⟩, ⟨⟨_, rfl, .refl _⟩, ⟨⟨_, rfl, .refl _⟩, ⟨⟨_, rfl, .refl _⟩, ⟨⟨_, rfl, .refl _⟩, trivial⟩⟩⟩⟩⟩ trivial (by decide)) ?_
    refine good_region ?_
    refine g_op rfl (ValOk.op (v_move rfl rfl ?_)) 
    refine g_op rfl (ValOk.op (v_bin rfl rfl rfl rfl ?_)) 
    refine g_op rfl (ValOk.op (v_assign rfl rfl ?_)) 
    refine g_nil ?_
    exact round_mk m2 (IntKind.wrap .u32 ((IntKind.wrap .u32 (x1 * 16777619)) + (IntKind.wrap .u32 (byt a0 x2))), IntKind.wrap .i64 (x2 + 1)) (Nat.lt_succ_self _) h (le_w [] rfl ⟨⟨_, rfl, .refl _⟩, ⟨⟨_, rfl, .refl _⟩, ⟨⟨_, rfl, .refl _⟩, ⟨⟨_, rfl, .refl _⟩, ⟨⟨_, rfl, .refl _⟩, trivial⟩⟩⟩⟩⟩ trivial (by decide))
  · replace h := ifF h (dF hc3)
    refine good_exit ?_
    exact hw1 x1 (Option.some.inj h).symm _ (le_w [] rfl ⟨⟨_, rfl, .refl _⟩, ⟨⟨_, rfl, .refl _⟩, ⟨⟨_, rfl, .refl _⟩, ⟨⟨_, rfl, .refl _⟩, trivial⟩⟩⟩⟩ trivial (by decide))
def m_internal_bytealg_IndexRabinKarp_string_l2 : Nat → Bs → Bs → (Int × Int) → Int → Int → Option (Lp Unit Int)
  | 0, _, _, _, _, _ => none
  | k + 1, a0, a1, y1, x3, x4 =>
    if x4 < (a0.length : Int) then
      if (0 : Int) ≤ x4 ∧ x4 < (a0.length : Int) then
        if (0 : Int) ≤ (IntKind.wrap .i64 (x4 - (a1.length : Int))) ∧ (IntKind.wrap .i64 (x4 - (a1.length : Int))) < (a0.length : Int) then
          (if (IntKind.wrap .u32 ((IntKind.wrap .u32 ((IntKind.wrap .u32 (x3 * 16777619)) + (IntKind.wrap .u32 (byt a0 x4)))) - (IntKind.wrap .u32 (y1.2 * (IntKind.wrap .u32 (byt a0 (IntKind.wrap .i64 (x4 - (a1.length : Int))))))))) = y1.1 then
              if (0 : Int) ≤ (IntKind.wrap .i64 ((IntKind.wrap .i64 (x4 + 1)) - (a1.length : Int))) ∧ (IntKind.wrap .i64 ((IntKind.wrap .i64 (x4 + 1)) - (a1.length : Int))) ≤ (IntKind.wrap .i64 (x4 + 1)) ∧ (IntKind.wrap .i64 (x4 + 1)) ≤ (a0.length : Int) then
                some (Lp.go (decide ((sub a0 (IntKind.wrap .i64 ((IntKind.wrap .i64 (x4 + 1)) - (a1.length : Int))) (IntKind.wrap .i64 (x4 + 1))) = a1)))
              else none
            else
              some (Lp.go false)).bind fun o4 =>
          o4.then fun s4 =>
    if s4 = true then
      (some (IntKind.wrap .i64 ((IntKind.wrap .i64 (x4 + 1)) - (a1.length : Int)))).bind fun z =>
      some (Lp.ret z)
    else
      m_internal_bytealg_IndexRabinKarp_string_l2 k a0 a1 y1 (IntKind.wrap .u32 ((IntKind.wrap .u32 ((IntKind.wrap .u32 (x3 * 16777619)) + (IntKind.wrap .u32 (byt a0 x4)))) - (IntKind.wrap .u32 (y1.2 * (IntKind.wrap .u32 (byt a0 (IntKind.wrap .i64 (x4 - (a1.length : Int))))))))) (IntKind.wrap .i64 (x4 + 1))
        else none
      else none
    else
      some (Lp.go ())
def m_internal_bytealg_IndexRabinKarp_string_l1 : Nat → Bs → Bs → Int → Int → Option (Lp Int Int)
  | 0, _, _, _, _ => none
  | k + 1, a0, a1, x1, x2 =>
    if x2 < (a1.length : Int) then
      if (0 : Int) ≤ x2 ∧ x2 < (a0.length : Int) then
        m_internal_bytealg_IndexRabinKarp_string_l1 k a0 a1 (IntKind.wrap .u32 ((IntKind.wrap .u32 (x1 * 16777619)) + (IntKind.wrap .u32 (byt a0 x2)))) (IntKind.wrap .i64 (x2 + 1))
      else none
    else
      some (Lp.go x1)
def m_internal_bytealg_IndexRabinKarp_string (k : Nat) (a0 : Bs) (a1 : Bs) : Option Int :=
  (m_internal_bytealg_hashStr_string k a1).bind fun y1 =>
  (m_internal_bytealg_IndexRabinKarp_string_l1 k a0 a1 0 0).bind fun o1 =>
  o1.then fun s1 =>
    (if s1 = y1.1 then
        if (0 : Int) ≤ 0 ∧ (0 : Int) ≤ (a1.length : Int) ∧ (a1.length : Int) ≤ (a0.length : Int) then
          some (Lp.go (decide ((sub a0 0 (a1.length : Int)) = a1)))
        else none
      else
        some (Lp.go false)).bind fun o2 =>
    o2.then fun s2 =>
    if s2 = true then
      some 0
    else
      (m_internal_bytealg_IndexRabinKarp_string_l2 k a0 a1 y1 s1 (a1.length : Int)).bind fun o3 =>
      o3.then fun s3 =>
    some (-1)
theorem m_internal_bytealg_IndexRabinKarp_string_ok (k : Nat) : ∀ (a0 : Bs) (a1 : Bs) (r : Int), m_internal_bytealg_IndexRabinKarp_string k a0 a1 = some r → Does Tryd.prog 92 [.str a0, .str a1] [] (ret (.int .i64 r)) := by
  intro a0 a1 r h
  rw [m_internal_bytealg_IndexRabinKarp_string] at h
  refine does_of_good tabOk Tryd.func92 rfl (by decide +kernel) (Nat.le_of_ble_eq_true rfl) fun c => ?_
  refine Good.le (σ' := ⟨81, [(0, .str a0), (1, .str a1)], []⟩) (Le.refl _) ?_
  refine good_seq fun K1 hK1 => ?_
  refine good_region ?_
  refine g_op rfl (ValOk.op (v_assign rfl rfl ?_)) 
  refine g_nil ?_
  refine hK1 _ ?_
  refine good_seq fun K2 hK2 => ?_
  refine good_region ?_
  refine g_op rfl (ValOk.op (v_move rfl rfl ?_)) 
  obtain ⟨y1, hy1, h⟩ := bnd h
  refine g_op rfl (o_callR [] [] (core_value rfl rfl) (m_internal_bytealg_hashStr_string_ok k a1 _ hy1) trivial (.cons (.refl _) (.nil)) (.inl rfl) rfl ?_)
  refine g_op rfl (ValOk.op (v_move rfl rfl ?_)) 
  refine g_op rfl (ValOk.op (v_extract rfl rfl rfl ?_)) 
  refine g_op rfl (ValOk.op (v_extract rfl rfl rfl ?_)) 
  refine g_op rfl (ValOk.op (v_assign rfl rfl ?_)) 
  refine g_op rfl (ValOk.op (v_assign rfl rfl ?_)) 
  refine g_nil ?_
  refine hK2 _ ?_
  refine Good.le (σ' := ⟨81, [(0, _), (1, _), (4, _), (5, _), (6, _)], []⟩) (le_w [] rfl ⟨⟨_, rfl, .refl _⟩, ⟨⟨_, rfl, .refl _⟩, ⟨⟨_, rfl, .refl _⟩, ⟨⟨_, rfl, .refl _⟩, ⟨⟨_, rfl, .refl _⟩, trivial⟩⟩⟩⟩⟩ trivial (by decide)) ?_
  refine good_seq fun K3 hK3 => ?_
  refine good_region ?_
  refine g_op rfl (ValOk.op (v_move rfl rfl ?_)) 
  refine g_op rfl (ValOk.op (v_lenS tabOk rfl rfl tkind9 rfl ?_)) 
  refine g_op rfl (ValOk.op (v_assign rfl rfl ?_)) 
  refine g_nil ?_
  refine hK3 _ ?_
  refine Good.le (σ' := ⟨81, [(0, _), (1, _), (4, _), (5, _), (6, _), (7, _)], []⟩) (le_w [] rfl ⟨⟨_, rfl, .refl _⟩, ⟨⟨_, rfl, .refl _⟩, ⟨⟨_, rfl, .refl _⟩, ⟨⟨_, rfl, .refl _⟩, ⟨⟨_, rfl, .refl _⟩, ⟨⟨_, rfl, .refl _⟩, trivial⟩⟩⟩⟩⟩⟩ trivial (by decide)) ?_
  refine good_seq fun K4 hK4 => ?_
  refine good_region ?_
  refine g_op rfl (ValOk.op (v_assign rfl rfl ?_)) 
  refine g_nil ?_
  refine hK4 _ ?_
  refine good_seq fun K5 hK5 => ?_
  refine good_seq fun K6 hK6 => ?_
  refine good_region ?_
  refine g_op rfl (ValOk.op (v_assign rfl rfl ?_)) 
  refine g_nil ?_
  refine hK6 _ ?_
  obtain ⟨o1, ho1, hJ1⟩ := bnd h
  have hw1 : ∀ (s1 : Int), o1 = Lp.go s1 → ∀ σ', Le σ' ⟨81, [(0, .str a0), (1, .str a1), (4, .int .i64 0), (5, .int .u32 y1.1), (6, .int .u32 y1.2), (7, .int .i64 (a1.length : Int)), (8, .int .u32 s1)], []⟩ → K5 σ' := by
    intro s1 e1 σ' hle1
    subst e1
    refine hK5 _ (Good.le hle1 ?_)
    replace h := hJ1
    refine good_seq fun K7 hK7 => ?_
    refine good_seq fun K8 hK8 => ?_
    obtain ⟨o2, ho2, hJ2⟩ := bnd h
    have hw2 : ∀ (s2 : Bool), o2 = Lp.go s2 → ∀ σ', Le σ' ⟨81, [(0, .str a0), (1, .str a1), (4, .int .i64 0), (5, .int .u32 y1.1), (6, .int .u32 y1.2), (7, .int .i64 (a1.length : Int)), (8, .int .u32 s1), (39, .bool s2)], []⟩ → K8 σ' := by
      intro s2 e2 σ' hle2
      subst e2
      refine hK8 _ (Good.le hle2 ?_)
      replace h := hJ2
      refine good_cond rfl (fun hc1 => ?_) (fun hc1 => ?_)
      · replace h := ifT h hc1
        refine good_seq fun K9 hK9 => ?_
        refine good_region ?_
        refine g_op rfl (ValOk.op (v_assign rfl rfl ?_)) 
        refine g_nil ?_
        refine hK9 _ ?_
        refine Good.le (σ' := ⟨81, [(0, _), (1, _), (4, _), (5, _), (6, _), (7, _), (8, _)], []⟩) (le_w [] rfl ⟨⟨_, rfl, .refl _⟩, ⟨⟨_, rfl, .refl _⟩, ⟨⟨_, rfl, .refl _⟩, ⟨⟨_, rfl, .refl _⟩, ⟨⟨_, rfl, .refl _⟩, ⟨⟨_, rfl, .refl _⟩, ⟨⟨_, rfl, .refl _⟩, trivial⟩⟩⟩⟩⟩⟩⟩ trivial (by decide)) ?_
        refine Good.le (σ' := ⟨81, [(4, .int .i64 0)], []⟩) (le_w [] rfl ⟨⟨_, rfl, .refl _⟩, trivial⟩ trivial (by decide)) ?_
        refine good_ret ?_
        obtain rfl := Option.some.inj h
        refine thenQ_ret ?_
        exact endQ_ret (h' := []) [] (.tmp rfl (.nil)) trivial (by decide) ⟨rfl, rfl⟩
      · replace h := bF h hc1
        refine good_skip ?_
        refine hK7 _ ?_
        refine Good.le (σ' := ⟨81, [(0, _), (1, _), (4, _), (5, _), (6, _), (7, _), (8, _)], []⟩) (le_w [] rfl ⟨⟨_, rfl, .refl _⟩, ⟨⟨_, rfl, .refl _⟩, ⟨⟨_, rfl, .refl _⟩, ⟨⟨_, rfl, .refl _⟩, ⟨⟨_, rfl, .refl _⟩, ⟨⟨_, rfl, .refl _⟩, ⟨⟨_, rfl, .refl _⟩, trivial⟩⟩⟩⟩⟩⟩⟩ trivial (by decide)) ?_
        refine good_seq fun K10 hK10 => ?_
        refine good_seq fun K11 hK11 => ?_
        refine good_region ?_
        refine g_op rfl (ValOk.op (v_move rfl rfl ?_)) 
        refine g_op rfl (ValOk.op (v_assign rfl rfl ?_)) 
        refine g_nil ?_
        refine hK11 _ ?_
        refine Good.le (σ' := ⟨81, [(0, _), (1, _), (4, _), (5, _), (6, _), (7, _), (8, _), (10, _)], []⟩) (le_w [] rfl ⟨⟨_, rfl, .refl _⟩, ⟨⟨_, rfl, .refl _⟩, ⟨⟨_, rfl, .refl _⟩, ⟨⟨_, rfl, .refl _⟩, ⟨⟨_, rfl, .refl _⟩, ⟨⟨_, rfl, .refl _⟩, ⟨⟨_, rfl, .refl _⟩, ⟨⟨_, rfl, .refl _⟩, trivial⟩⟩⟩⟩⟩⟩⟩⟩ trivial (by decide)) ?_
        obtain ⟨o3, ho3, hJ3⟩ := bnd h
        have hw3 : ∀ (s3 : Unit), o3 = Lp.go s3 → ∀ σ', Le σ' ⟨81, [(4, .int .i64 0)], []⟩ → K10 σ' := by
          intro s3 e3 σ' hle3
          subst e3
          refine hK10 _ (Good.le hle3 ?_)
          replace h := hJ3
          refine good_seq fun K12 hK12 => ?_
          refine good_region ?_
          refine g_op rfl (ValOk.op (v_assign rfl rfl ?_)) 
          refine g_nil ?_
          refine hK12 _ ?_
          refine Good.le (σ' := ⟨81, [(4, .int .i64 (-1))], []⟩) (le_w [] rfl ⟨⟨_, rfl, .refl _⟩, trivial⟩ trivial (by decide)) ?_
          refine good_ret ?_
          obtain rfl := Option.some.inj h
          exact endQ_ret (h' := []) [] (.tmp rfl (.nil)) trivial (by decide) ⟨rfl, rfl⟩
        replace h := ho3
        refine good_block ?_
        refine good_loopf (fun p : (Int × Int) => ⟨81, [(0, .str a0), (1, .str a1), (4, .int .i64 0), (5, .int .u32 y1.1), (6, .int .u32 y1.2), (7, .int .i64 (a1.length : Int)), (8, .int .u32 p.1), (10, .int .i64 p.2)], []⟩) (fun m p => m_internal_bytealg_IndexRabinKarp_string_l2 m a0 a1 y1 p.1 p.2 = some o3) k (s1, (a1.length : Int)) (le_w [] rfl ⟨⟨_, rfl, .refl _⟩, ⟨⟨_, rfl, .refl _⟩, ⟨⟨_, rfl, .refl _⟩, ⟨⟨_, rfl, .refl _⟩, ⟨⟨_, rfl, .refl _⟩, ⟨⟨_, rfl, .refl _⟩, ⟨⟨_, rfl, .refl _⟩, ⟨⟨_, rfl, .refl _⟩, trivial⟩⟩⟩⟩⟩⟩⟩⟩ trivial (by decide)) h ?_
        rintro m1 ⟨x3, x4⟩ h
        replace h : m_internal_bytealg_IndexRabinKarp_string_l2 m1 a0 a1 y1 x3 x4 = some o3 := h
        refine Good.le (σ' := ⟨81, [(0, .str a0), (1, .str a1), (4, .int .i64 0), (5, .int .u32 y1.1), (6, .int .u32 y1.2), (7, .int .i64 (a1.length : Int)), (8, .int .u32 x3), (10, .int .i64 x4)], []⟩) (Le.refl _) ?_
        obtain ⟨m1, rfl⟩ : ∃ m', m1 = m' + 1 := by cases m1 with | zero => (rw [m_internal_bytealg_IndexRabinKarp_string_l2] at h; cases h) | succ m' => exact ⟨m', rfl⟩
        rw [m_internal_bytealg_IndexRabinKarp_string_l2] at h
        refine good_seq fun K13 hK13 => ?_
        refine good_seq fun K14 hK14 => ?_
        refine good_region ?_
        refine g_op rfl (ValOk.op (v_move rfl rfl ?_)) 
        refine g_op rfl (ValOk.op (v_move rfl rfl ?_)) 
        refine g_op rfl (ValOk.op (v_lenS tabOk rfl rfl tkind9 rfl ?_)) 
        refine g_op rfl (ValOk.op (v_bin rfl rfl rfl rfl ?_)) 
        refine g_nil ?_
        refine hK14 _ ?_
        refine Good.le (σ' := ⟨81, [(0, _), (1, _), (4, _), (5, _), (6, _), (7, _), (8, _), (10, _), (44, _)], []⟩) (le_w [] rfl ⟨⟨_, rfl, .refl _⟩, ⟨⟨_, rfl, .refl _⟩, ⟨⟨_, rfl, .refl _⟩, ⟨⟨_, rfl, .refl _⟩, ⟨⟨_, rfl, .refl _⟩, ⟨⟨_, rfl, .refl _⟩, ⟨⟨_, rfl, .refl _⟩, ⟨⟨_, rfl, .refl _⟩, ⟨⟨_, rfl, .refl _⟩, trivial⟩⟩⟩⟩⟩⟩⟩⟩⟩ trivial (by decide)) ?_
        refine good_cond rfl (fun hc2 => ?_) (fun hc2 => ?_)
        · replace h := ifT h (dT hc2)
          refine good_skip ?_
          refine hK13 _ ?_
          refine Good.le (σ' := ⟨81, [(0, _), (1, _), (4, _), (5, _), (6, _), (7, _), (8, _), (10, _)], []⟩) (le_w [] rfl ⟨⟨_, rfl, .refl _⟩, ⟨⟨_, rfl, .refl _⟩, ⟨⟨_, rfl, .refl _⟩, ⟨⟨_, rfl, .refl _⟩, ⟨⟨_, rfl, .refl _⟩, ⟨⟨_, rfl, .refl _⟩, ⟨⟨_, rfl, .refl _⟩, ⟨⟨_, rfl, .refl _⟩, trivial⟩⟩⟩⟩⟩⟩⟩⟩ trivial (by decide)) ?_
          refine good_block ?_
          refine good_seq fun K15 hK15 => ?_
          refine good_region ?_
          refine g_op rfl (ValOk.op (v_move rfl rfl ?_)) 
          refine g_op rfl (ValOk.op (v_bin rfl rfl rfl rfl ?_)) 
          refine g_op rfl (ValOk.op (v_assign rfl rfl ?_)) 
          refine g_nil ?_
          refine hK15 _ ?_
          refine Good.le (σ' := ⟨81, [(0, _), (1, _), (4, _), (5, _), (6, _), (7, _), (8, _), (10, _)], []⟩) (le_w [] rfl ⟨⟨_, rfl, .refl _⟩, ⟨⟨_, rfl, .refl _⟩, ⟨⟨_, rfl, .refl _⟩, ⟨⟨_, rfl, .refl _⟩, ⟨⟨_, rfl, .refl _⟩, ⟨⟨_, rfl, .refl _⟩, ⟨⟨_, rfl, .refl _⟩, ⟨⟨_, rfl, .refl _⟩, trivial⟩⟩⟩⟩⟩⟩⟩⟩ trivial (by decide)) ?_
          refine good_seq fun K16 hK16 => ?_
          refine good_region ?_
          refine g_op rfl (ValOk.op (v_move rfl rfl ?_)) 
          refine g_op rfl (ValOk.op (v_move rfl rfl ?_)) 
          refine g_op rfl (ValOk.op (v_move rfl rfl ?_)) 
          obtain ⟨hb1, h⟩ := ifS h
          refine g_op rfl (ValOk.op (v_indexM tabOk rfl rfl tkind9 hb1 rfl ?_)) 
          refine g_op rfl (ValOk.op (v_convI tabOk rfl tkind5 tkind115 rfl ?_)) 
          refine g_op rfl (ValOk.op (v_bin rfl rfl rfl rfl ?_)) 
          refine g_op rfl (ValOk.op (v_assign rfl rfl ?_)) 
          refine g_nil ?_
          refine hK16 _ ?_
          refine Good.le (σ' := ⟨81, [(0, _), (1, _), (4, _), (5, _), (6, _), (7, _), (8, _), (10, _)], []⟩) (le_w [] rfl ⟨⟨_, rfl, .refl _⟩, ⟨⟨_, rfl, .refl _⟩, ⟨⟨_, rfl, .refl _⟩, ⟨⟨_, rfl, .refl _⟩, ⟨⟨_, rfl, .refl _⟩, ⟨⟨_, rfl, .refl _⟩, ⟨⟨_, rfl, .refl _⟩, ⟨⟨_, rfl, .refl _⟩, trivial⟩⟩⟩⟩⟩⟩⟩⟩ trivial (by decide)) ?_
          refine good_seq fun K17 hK17 => ?_
          refine good_region ?_
          refine g_op rfl (ValOk.op (v_move rfl rfl ?_)) 
          refine g_op rfl (ValOk.op (v_move rfl rfl ?_)) 
          refine g_op rfl (ValOk.op (v_move rfl rfl ?_)) 
          refine g_op rfl (ValOk.op (v_move rfl rfl ?_)) 
          refine g_op rfl (ValOk.op (v_move rfl rfl ?_)) 
          refine g_op rfl (ValOk.op (v_bin rfl rfl rfl rfl ?_)) 
          obtain ⟨hb2, h⟩ := ifS h
          refine g_op rfl (ValOk.op (v_indexM tabOk rfl rfl tkind9 hb2 rfl ?_)) 
          refine g_op rfl (ValOk.op (v_convI tabOk rfl tkind5 tkind115 rfl ?_)) 
          refine g_op rfl (ValOk.op (v_bin rfl rfl rfl rfl ?_)) 
          refine g_op rfl (ValOk.op (v_bin rfl rfl rfl rfl ?_)) 
          refine g_op rfl (ValOk.op (v_assign rfl rfl ?_)) 
          refine g_nil ?_
          refine hK17 _ ?_
          refine Good.le (σ' := ⟨81, [(0, _), (1, _), (4, _), (5, _), (6, _), (7, _), (8, _), (10, _)], []⟩) (le_w [] rfl ⟨⟨_, rfl, .refl _⟩, ⟨⟨_, rfl, .refl _⟩, ⟨⟨_, rfl, .refl _⟩, ⟨⟨_, rfl, .refl _⟩, ⟨⟨_, rfl, .refl _⟩, ⟨⟨_, rfl, .refl _⟩, ⟨⟨_, rfl, .refl _⟩, ⟨⟨_, rfl, .refl _⟩, trivial⟩⟩⟩⟩⟩⟩⟩⟩ trivial (by decide)) ?_
          refine good_seq fun K18 hK18 => ?_
          refine good_region ?_
          refine g_op rfl (ValOk.op (v_move rfl rfl ?_)) 
          refine g_op rfl (ValOk.op (v_bin rfl rfl rfl rfl ?_)) 
          refine g_op rfl (ValOk.op (v_assign rfl rfl ?_)) 
          refine g_nil ?_
          refine hK18 _ ?_
          refine Good.le (σ' := ⟨81, [(0, _), (1, _), (4, _), (5, _), (6, _), (7, _), (8, _), (10, _)], []⟩) (le_w [] rfl ⟨⟨_, rfl, .refl _⟩, ⟨⟨_, rfl, .refl _⟩, ⟨⟨_, rfl, .refl _⟩, ⟨⟨_, rfl, .refl _⟩, ⟨⟨_, rfl, .refl _⟩, ⟨⟨_, rfl, .refl _⟩, ⟨⟨_, rfl, .refl _⟩, ⟨⟨_, rfl, .refl _⟩, trivial⟩⟩⟩⟩⟩⟩⟩⟩ trivial (by decide)) ?_
          refine good_seq fun K19 hK19 => ?_
          obtain ⟨o4, ho4, hJ4⟩ := bnd h
          have hw4 : ∀ (s4 : Bool), o4 = Lp.go s4 → ∀ σ', Le σ' ⟨81, [(0, .str a0), (1, .str a1), (4, .int .i64 0), (5, .int .u32 y1.1), (6, .int .u32 y1.2), (7, .int .i64 (a1.length : Int)), (8, .int .u32 (IntKind.wrap .u32 ((IntKind.wrap .u32 ((IntKind.wrap .u32 (x3 * 16777619)) + (IntKind.wrap .u32 (byt a0 x4)))) - (IntKind.wrap .u32 (y1.2 * (IntKind.wrap .u32 (byt a0 (IntKind.wrap .i64 (x4 - (a1.length : Int)))))))))), (10, .int .i64 (IntKind.wrap .i64 (x4 + 1))), (77, .bool s4)], []⟩ → K19 σ' := by
            intro s4 e4 σ' hle4
            subst e4
            refine hK19 _ (Good.le hle4 ?_)
            replace h := hJ4
            refine good_cond rfl (fun hc3 => ?_) (fun hc3 => ?_)
            · replace h := ifT h hc3
              refine good_seq fun K20 hK20 => ?_
              refine good_region ?_
              refine g_op rfl (ValOk.op (v_move rfl rfl ?_)) 
              refine g_op rfl (ValOk.op (v_move rfl rfl ?_)) 
              refine g_op rfl (ValOk.op (v_bin rfl rfl rfl rfl ?_)) 
              refine g_op rfl (ValOk.op (v_assign rfl rfl ?_)) 
              refine g_nil ?_
              refine hK20 _ ?_
              refine Good.le (σ' := ⟨81, [(0, _), (1, _), (4, _), (5, _), (6, _), (7, _), (8, _), (10, _)], []⟩) (le_w [] rfl ⟨⟨_, rfl, .refl _⟩, ⟨⟨_, rfl, .refl _⟩, ⟨⟨_, rfl, .refl _⟩, ⟨⟨_, rfl, .refl _⟩, ⟨⟨_, rfl, .refl _⟩, ⟨⟨_, rfl, .refl _⟩, ⟨⟨_, rfl, .refl _⟩, ⟨⟨_, rfl, .refl _⟩, trivial⟩⟩⟩⟩⟩⟩⟩⟩ trivial (by decide)) ?_
              refine Good.le (σ' := ⟨81, [(4, .int .i64 (IntKind.wrap .i64 ((IntKind.wrap .i64 (x4 + 1)) - (a1.length : Int))))], []⟩) (le_w [] rfl ⟨⟨_, rfl, .refl _⟩, trivial⟩ trivial (by decide)) ?_
              refine good_ret ?_
              replace h := unret h hJ3
              obtain rfl := Option.some.inj h
              refine blockQ_ret ?_
              refine thenQ_ret ?_
              refine blockQ_ret ?_
              refine thenQ_ret ?_
              exact endQ_ret (h' := []) [] (.tmp rfl (.nil)) trivial (by decide) ⟨rfl, rfl⟩
            · replace h := bF h hc3
              refine good_skip ?_
              exact round_mk m1 (IntKind.wrap .u32 ((IntKind.wrap .u32 ((IntKind.wrap .u32 (x3 * 16777619)) + (IntKind.wrap .u32 (byt a0 x4)))) - (IntKind.wrap .u32 (y1.2 * (IntKind.wrap .u32 (byt a0 (IntKind.wrap .i64 (x4 - (a1.length : Int)))))))), IntKind.wrap .i64 (x4 + 1)) (Nat.lt_succ_self _) h (le_w [] rfl ⟨⟨_, rfl, .refl _⟩, ⟨⟨_, rfl, .refl _⟩, ⟨⟨_, rfl, .refl _⟩, ⟨⟨_, rfl, .refl _⟩, ⟨⟨_, rfl, .refl _⟩, ⟨⟨_, rfl, .refl _⟩, ⟨⟨_, rfl, .refl _⟩, ⟨⟨_, rfl, .refl _⟩, trivial⟩⟩⟩⟩⟩⟩⟩⟩ trivial (by decide))
          replace h := ho4
          refine good_region ?_
          refine g_op rfl (ValOk.op (v_move rfl rfl ?_)) 
          refine g_op rfl (ValOk.op (v_move rfl rfl ?_)) 
          refine g_op rfl (ValOk.op (v_bin rfl rfl rfl rfl ?_)) 
          refine g_op rfl (ValOk.op (v_move rfl rfl ?_)) 
          rcases bsplit ((decide ((IntKind.wrap .u32 ((IntKind.wrap .u32 ((IntKind.wrap .u32 (x3 * 16777619)) + (IntKind.wrap .u32 (byt a0 x4)))) - (IntKind.wrap .u32 (y1.2 * (IntKind.wrap .u32 (byt a0 (IntKind.wrap .i64 (x4 - (a1.length : Int))))))))) = y1.1))) with hg1 | hg1
          · replace h := ifT h (dT hg1)
            refine g_yes rfl rfl hg1 (ValOk.op (v_move rfl rfl ?_)) 
            refine g_yes rfl rfl hg1 (ValOk.op (v_move rfl rfl ?_)) 
            refine g_yes rfl rfl hg1 (ValOk.op (v_move rfl rfl ?_)) 
            refine g_yes rfl rfl hg1 (ValOk.op (v_bin rfl rfl rfl rfl ?_)) 
            refine g_yes rfl rfl hg1 (ValOk.op (v_move rfl rfl ?_)) 
            obtain ⟨hb3, h⟩ := ifS h
            refine g_yes rfl rfl hg1 (ValOk.op (v_sliceSM tabOk rfl rfl rfl rfl tkind9 hb3 rfl ?_)) 
            refine g_yes rfl rfl hg1 (ValOk.op (v_move rfl rfl ?_)) 
            refine g_yes rfl rfl hg1 (ValOk.op (v_bin rfl rfl rfl rfl ?_)) 
            refine g_op rfl (ValOk.op (v_pickT rfl hg1 rfl rfl ?_)) 
            refine g_nil ?_
            exact hw4 (decide ((sub a0 (IntKind.wrap .i64 ((IntKind.wrap .i64 (x4 + 1)) - (a1.length : Int))) (IntKind.wrap .i64 (x4 + 1))) = a1)) (Option.some.inj h).symm _ (le_w [] rfl ⟨⟨_, rfl, .refl _⟩, ⟨⟨_, rfl, .refl _⟩, ⟨⟨_, rfl, .refl _⟩, ⟨⟨_, rfl, .refl _⟩, ⟨⟨_, rfl, .refl _⟩, ⟨⟨_, rfl, .refl _⟩, ⟨⟨_, rfl, .refl _⟩, ⟨⟨_, rfl, .refl _⟩, ⟨⟨_, rfl, .refl _⟩, trivial⟩⟩⟩⟩⟩⟩⟩⟩⟩ trivial (by decide))
          · replace h := ifF h (dF hg1)
            refine g_no rfl rfl hg1 rfl ?_
            refine g_no rfl rfl hg1 rfl ?_
            refine g_no rfl rfl hg1 rfl ?_
            refine g_no rfl rfl hg1 rfl ?_
            refine g_no rfl rfl hg1 rfl ?_
            refine g_no rfl rfl hg1 rfl ?_
            refine g_no rfl rfl hg1 rfl ?_
            refine g_no rfl rfl hg1 rfl ?_
            refine g_op rfl (ValOk.op (v_pickF rfl hg1 rfl rfl ?_)) 
            refine g_nil ?_
            exact hw4 false (Option.some.inj h).symm _ (le_w [] rfl ⟨⟨_, rfl, .refl _⟩, ⟨⟨_, rfl, .refl _⟩, ⟨⟨_, rfl, .refl _⟩, ⟨⟨_, rfl, .refl _⟩, ⟨⟨_, rfl, .refl _⟩, ⟨⟨_, rfl, .refl _⟩, ⟨⟨_, rfl, .refl _⟩, ⟨⟨_, rfl, .refl _⟩, ⟨⟨_, rfl, .refl _⟩, trivial⟩⟩⟩⟩⟩⟩⟩⟩⟩ trivial (by decide))
        · replace h := ifF h (dF hc2)
          refine good_exit ?_
          exact hw3 () (Option.some.inj h).symm _ (le_w [] rfl ⟨⟨_, rfl, .refl _⟩, trivial⟩ trivial (by decide))
    replace h := ho2
    refine good_region ?_
    refine g_op rfl (ValOk.op (v_move rfl rfl ?_)) 
    refine g_op rfl (ValOk.op (v_move rfl rfl ?_)) 
    refine g_op rfl (ValOk.op (v_bin rfl rfl rfl rfl ?_)) 
    refine g_op rfl (ValOk.op (v_move rfl rfl ?_)) 
    rcases bsplit ((decide (s1 = y1.1))) with hg2 | hg2
    · replace h := ifT h (dT hg2)
      refine g_yes rfl rfl hg2 (ValOk.op (v_move rfl rfl ?_)) 
      refine g_yes rfl rfl hg2 (ValOk.op (v_move rfl rfl ?_)) 
      obtain ⟨hb4, h⟩ := ifS h
      refine g_yes rfl rfl hg2 (ValOk.op (v_sliceSM tabOk rfl rfl rfl rfl tkind9 hb4 rfl ?_)) 
      refine g_yes rfl rfl hg2 (ValOk.op (v_move rfl rfl ?_)) 
      refine g_yes rfl rfl hg2 (ValOk.op (v_bin rfl rfl rfl rfl ?_)) 
      refine g_op rfl (ValOk.op (v_pickT rfl hg2 rfl rfl ?_)) 
      refine g_nil ?_
      exact hw2 (decide ((sub a0 0 (a1.length : Int)) = a1)) (Option.some.inj h).symm _ (le_w [] rfl ⟨⟨_, rfl, .refl _⟩, ⟨⟨_, rfl, .refl _⟩, ⟨⟨_, rfl, .refl _⟩, ⟨⟨_, rfl, .refl _⟩, ⟨⟨_, rfl, .refl _⟩, ⟨⟨_, rfl, .refl _⟩, ⟨⟨_, rfl, .refl _⟩, ⟨⟨_, rfl, .refl _⟩, trivial⟩⟩⟩⟩⟩⟩⟩⟩ trivial (by decide))
    · replace h := ifF h (dF hg2)
      refine g_no rfl rfl hg2 rfl ?_
      refine g_no rfl rfl hg2 rfl ?_
      refine g_no rfl rfl hg2 rfl ?_
      refine g_no rfl rfl hg2 rfl ?_
      refine g_no rfl rfl hg2 rfl ?_
      refine g_op rfl (ValOk.op (v_pickF rfl hg2 rfl rfl ?_)) 
      refine g_nil ?_
      exact hw2 false (Option.some.inj h).symm _ (le_w [] rfl ⟨⟨_, rfl, .refl _⟩, ⟨⟨_, rfl, .refl _⟩, ⟨⟨_, rfl, .refl _⟩, ⟨⟨_, rfl, .refl _⟩, ⟨⟨_, rfl, .refl _⟩, ⟨⟨_, rfl, .refl _⟩, ⟨⟨_, rfl, .refl _⟩, ⟨⟨_, rfl, .refl _⟩, trivial⟩⟩⟩⟩⟩⟩⟩⟩ trivial (by decide))
  replace h := ho1
  refine good_block ?_
  refine good_loopf (fun p : (Int × Int) => ⟨81, [(0, .str a0), (1, .str a1), (4, .int .i64 0), (5, .int .u32 y1.1), (6, .int .u32 y1.2), (7, .int .i64 (a1.length : Int)), (8, .int .u32 p.1), (9, .int .i64 p.2)], []⟩) (fun m p => m_internal_bytealg_IndexRabinKarp_string_l1 m a0 a1 p.1 p.2 = some o1) k (0, 0) (le_w [] rfl ⟨⟨_, rfl, .refl _⟩, ⟨⟨_, rfl, .refl _⟩, ⟨⟨_, rfl, .refl _⟩, ⟨⟨_, rfl, .refl _⟩, ⟨⟨_, rfl, .refl _⟩, ⟨⟨_, rfl, .refl _⟩, ⟨⟨_, rfl, .refl _⟩, ⟨⟨_, rfl, .refl _⟩, trivial⟩⟩⟩⟩⟩⟩⟩⟩ trivial (by decide)) h ?_
  rintro m2 ⟨x1, x2⟩ h
  replace h : m_internal_bytealg_IndexRabinKarp_string_l1 m2 a0 a1 x1 x2 = some o1 := h
  refine Good.le (σ' := ⟨81, [(0, .str a0), (1, .str a1), (4, .int .i64 0), (5, .int .u32 y1.1), (6, .int .u32 y1.2), (7, .int .i64 (a1.length : Int)), (8, .int .u32 x1), (9, .int .i64 x2)], []⟩) (Le.refl _) ?_
  obtain ⟨m2, rfl⟩ : ∃ m', m2 = m' + 1 := by cases m2 with | zero => (rw [m_internal_bytealg_IndexRabinKarp_string_l1] at h; cases h) | succ m' => exact ⟨m', rfl⟩
  rw [m_internal_bytealg_IndexRabinKarp_string_l1] at h
  refine good_seq fun K21 hK21 => ?_
  refine good_seq fun K22 hK22 => ?_
  refine good_region ?_
  refine g_op rfl (ValOk.op (v_move rfl rfl ?_)) 
  refine g_op rfl (ValOk.op (v_move rfl rfl ?_)) 
  refine g_op rfl (ValOk.op (v_bin rfl rfl rfl rfl ?_)) 
  refine g_nil ?_
  refine hK22 _ ?_
  refine Good.le (σ' := ⟨81, [(0, _), (1, _), (4, _), (5, _), (6, _), (7, _), (8, _), (9, _), (20, _)], []⟩) (le_w [] rfl ⟨⟨_, rfl, .refl _⟩, ⟨⟨_, rfl, .refl _⟩, ⟨⟨_, rfl, .refl _⟩, ⟨⟨_, rfl, .refl _⟩, ⟨⟨_, rfl, .refl _⟩, ⟨⟨_, rfl, .refl _⟩, ⟨⟨_, rfl, .refl _⟩, ⟨⟨_, rfl, .refl _⟩, ⟨⟨_, rfl, .refl _⟩, trivial⟩⟩⟩⟩⟩⟩⟩⟩⟩ trivial (by decide)) ?_
  refine good_cond rfl (fun hc4 => ?_) (fun hc4 => ?_)
  · replace h := ifT h (dT hc4)
    refine good_skip ?_
    refine hK21 _ ?_
    refine Good.le (σ' := ⟨81, [(0, _), (1, _), (4, _), (5, _), (6, _), (7, _), (8, _), (9, _)], []⟩) (le_w [] rfl ⟨⟨_, rfl, .refl _⟩, ⟨⟨_, rfl, .refl _⟩, ⟨⟨_, rfl, .refl _⟩, ⟨⟨_, rfl, .refl _⟩, ⟨⟨_, rfl, .refl _⟩, ⟨⟨_, rfl, .refl _⟩, ⟨⟨_, rfl, .refl _⟩, ⟨⟨_, rfl, .refl _⟩, trivial⟩⟩⟩⟩⟩⟩⟩⟩ trivial (by decide)) ?_
    refine good_seq fun K23 hK23 => ?_
    refine good_block ?_
    refine good_region ?_
    refine g_op rfl (ValOk.op (v_move rfl rfl ?_)) 
    refine g_op rfl (ValOk.op (v_bin rfl rfl rfl rfl ?_)) 
    refine g_op rfl (ValOk.op (v_move rfl rfl ?_)) 
    refine g_op rfl (ValOk.op (v_move rfl rfl ?_)) 
    obtain ⟨hb5, h⟩ := ifS h
    refine g_op rfl (ValOk.op (v_indexM tabOk rfl rfl tkind9 hb5 rfl ?_)) 
    refine g_op rfl (ValOk.op (v_convI tabOk rfl tkind5 tkind115 rfl ?_)) 
    refine g_op rfl (ValOk.op (v_bin rfl rfl rfl rfl ?_)) 
    refine g_op rfl (ValOk.op (v_assign rfl rfl ?_)) 
    refine g_nil ?_
    refine hK23 _ ?_
    refine Good.le (σ' := ⟨81, [(0, _), (1, _), (4, _), (5, _), (6, _), (7, _), (8, _), (9, _)], []⟩) (le_w [] rfl ⟨⟨_, rfl, .refl _⟩, ⟨⟨_, rfl, .refl _⟩, ⟨⟨_, rfl, .refl _⟩, ⟨⟨_, rfl, .refl _⟩, ⟨⟨_, rfl, .refl _⟩, ⟨⟨_, rfl, .refl _⟩, ⟨⟨_, rfl, .refl _⟩, ⟨⟨_, rfl, .refl _⟩, trivial⟩⟩⟩⟩⟩⟩⟩⟩ trivial (by decide)) ?_
    refine good_region ?_
    refine g_op rfl (ValOk.op (v_move rfl rfl ?_)) 
    refine g_op rfl (ValOk.op (v_bin rfl rfl rfl rfl ?_)) 
    refine g_op rfl (ValOk.op (v_assign rfl rfl ?_)) 
    refine g_nil ?_
    exact round_mk m2 (IntKind.wrap .u32 ((IntKind.wrap .u32 (x1 * 16777619)) + (IntKind.wrap .u32 (byt a0 x2))), IntKind.wrap .i64 (x2 + 1)) (Nat.lt_succ_self _) h (le_w [] rfl ⟨⟨_, rfl, .refl _⟩, ⟨⟨_, rfl, .refl _⟩, ⟨⟨_, rfl, .refl _⟩, ⟨⟨_, rfl, .refl _⟩, ⟨⟨_, rfl, .refl _⟩, ⟨⟨_, rfl, .refl _⟩, ⟨⟨_, rfl, .refl _⟩, ⟨⟨_, rfl, .refl _⟩, trivial⟩⟩⟩⟩⟩⟩⟩⟩ trivial (by decide))
  · replace h := ifF h (dF hc4)
    refine good_exit ?_
    exact hw1 x1 (Option.some.inj h).symm _ (le_w [] rfl ⟨⟨_, rfl, .refl _⟩, ⟨⟨_, rfl, .refl _⟩, ⟨⟨_, rfl, .refl _⟩, ⟨⟨_, rfl, .refl _⟩, ⟨⟨_, rfl, .refl _⟩, ⟨⟨_, rfl, .refl _⟩, ⟨⟨_, rfl, .refl _⟩, trivial⟩⟩⟩⟩⟩⟩⟩ trivial (by decide))
def m_internal_stringslite_IndexByte (a0 : Bs) (a1 : Int) : Option Int :=
  some (Lib.indexByte a0 (Int.toNat a1).toUInt8)
theorem m_internal_stringslite_IndexByte_ok : ∀ (a0 : Bs) (a1 : Int) (r : Int), m_internal_stringslite_IndexByte a0 a1 = some r → Does Tryd.prog 89 [.str a0, .int .u8 a1] [] (ret (.int .i64 r)) := by
  intro a0 a1 r h
  rw [m_internal_stringslite_IndexByte] at h
  refine does_of_good tabOk Tryd.func89 rfl (by decide +kernel) (Nat.le_of_ble_eq_true rfl) fun c => ?_
  refine Good.le (σ' := ⟨8, [(0, .str a0), (1, .int .u8 a1)], []⟩) (Le.refl _) ?_
  refine good_seq fun K1 hK1 => ?_
  refine good_region ?_
  refine g_op rfl (ValOk.op (v_assign rfl rfl ?_)) 
  refine g_nil ?_
  refine hK1 _ ?_
  refine good_seq fun K2 hK2 => ?_
  refine good_region ?_
  refine g_op rfl (ValOk.op (v_move rfl rfl ?_)) 
  refine g_op rfl (ValOk.op (v_move rfl rfl ?_)) 
  refine g_op rfl (ValOk.op (v_ixb rfl rfl rfl ?_)) 
  refine g_op rfl (ValOk.op (v_assign rfl rfl ?_)) 
  refine g_nil ?_
  refine hK2 _ ?_
  refine Good.le (σ' := ⟨8, [(4, _)], []⟩) (le_w [] rfl ⟨⟨_, rfl, .refl _⟩, trivial⟩ trivial (by decide)) ?_
  refine Good.le (σ' := ⟨8, [(4, .int .i64 (Lib.indexByte a0 (Int.toNat a1).toUInt8))], []⟩) (le_w [] rfl ⟨⟨_, rfl, .refl _⟩, trivial⟩ trivial (by decide)) ?_
  refine good_ret ?_
  obtain rfl := Option.some.inj h
  exact endQ_ret (h' := []) [] (.tmp rfl (.nil)) trivial (by decide) ⟨rfl, rfl⟩
def m_internal_bytealg_Cutover (a0 : Int) : Option Int :=
  some (IntKind.wrap .i64 (Int.tdiv (IntKind.wrap .i64 (a0 + 16)) 8))
theorem m_internal_bytealg_Cutover_ok : ∀ (a0 : Int) (r : Int), m_internal_bytealg_Cutover a0 = some r → Does Tryd.prog 91 [.int .i64 a0] [] (ret (.int .i64 r)) := by
  intro a0 r h
  rw [m_internal_bytealg_Cutover] at h
  refine does_of_good tabOk Tryd.func91 rfl (by decide +kernel) (Nat.le_of_ble_eq_true rfl) fun c => ?_
  refine Good.le (σ' := ⟨6, [(0, .int .i64 a0)], []⟩) (Le.refl _) ?_
  refine good_seq fun K1 hK1 => ?_
  refine good_region ?_
  refine g_op rfl (ValOk.op (v_assign rfl rfl ?_)) 
  refine g_nil ?_
  refine hK1 _ ?_
  refine good_seq fun K2 hK2 => ?_
  refine good_region ?_
  refine g_op rfl (ValOk.op (v_move rfl rfl ?_)) 
  refine g_op rfl (ValOk.op (v_bin rfl rfl rfl rfl ?_)) 
  refine g_op rfl (ValOk.op (v_quo rfl rfl (by decide) rfl ?_)) 
  refine g_op rfl (ValOk.op (v_assign rfl rfl ?_)) 
  refine g_nil ?_
  refine hK2 _ ?_
  refine Good.le (σ' := ⟨6, [(2, _)], []⟩) (le_w [] rfl ⟨⟨_, rfl, .refl _⟩, trivial⟩ trivial (by decide)) ?_
  refine Good.le (σ' := ⟨6, [(2, .int .i64 (IntKind.wrap .i64 (Int.tdiv (IntKind.wrap .i64 (a0 + 16)) 8)))], []⟩) (le_w [] rfl ⟨⟨_, rfl, .refl _⟩, trivial⟩ trivial (by decide)) ?_
  refine good_ret ?_
  obtain rfl := Option.some.inj h
  exact endQ_ret (h' := []) [] (.tmp rfl (.nil)) trivial (by decide) ⟨rfl, rfl⟩
def m_internal_stringslite_Index (k : Nat) (a0 : Bs) (a1 : Bs) : Option Int :=
  (if (a1.length : Int) = 0 then
      some (Lp.go true)
    else
      some (Lp.go (decide (a1 = a0)))).bind fun o1 =>
  o1.then fun s1 =>
    if s1 = true then
      some 0
    else
      if (a1.length : Int) = 1 then
        if (0 : Int) ≤ 0 ∧ 0 < (a1.length : Int) then
          (m_internal_stringslite_IndexByte a0 (byt a1 0)).bind fun y1 =>
          some y1
        else none
      else
        if (a0.length : Int) ≤ (a1.length : Int) then
          some (-1)
        else
          none
theorem m_internal_stringslite_Index_ok (k : Nat) : ∀ (a0 : Bs) (a1 : Bs) (r : Int), m_internal_stringslite_Index k a0 a1 = some r → Does Tryd.prog 80 [.str a0, .str a1] [] (ret (.int .i64 r)) := by
  intro a0 a1 r h
  rw [m_internal_stringslite_Index] at h
  refine does_of_good tabOk Tryd.func80 rfl (by decide +kernel) (Nat.le_of_ble_eq_true rfl) fun c => ?_
  refine Good.le (σ' := ⟨143, [(0, .str a0), (1, .str a1)], []⟩) (Le.refl _) ?_
  refine good_seq fun K1 hK1 => ?_
  refine good_region ?_
  refine g_op rfl (ValOk.op (v_assign rfl rfl ?_)) 
  refine g_nil ?_
  refine hK1 _ ?_
  refine good_seq fun K2 hK2 => ?_
  refine good_region ?_
  refine g_op rfl (ValOk.op (v_move rfl rfl ?_)) 
  refine g_op rfl (ValOk.op (v_lenS tabOk rfl rfl tkind9 rfl ?_)) 
  refine g_op rfl (ValOk.op (v_assign rfl rfl ?_)) 
  refine g_nil ?_
  refine hK2 _ ?_
  refine Good.le (σ' := ⟨143, [(0, _), (1, _), (4, _), (5, _)], []⟩) (le_w [] rfl ⟨⟨_, rfl, .refl _⟩, ⟨⟨_, rfl, .refl _⟩, ⟨⟨_, rfl, .refl _⟩, ⟨⟨_, rfl, .refl _⟩, trivial⟩⟩⟩⟩ trivial (by decide)) ?_
  refine good_seq fun K3 hK3 => ?_
  refine good_block ?_
  refine good_seq fun K4 hK4 => ?_
  obtain ⟨o1, ho1, hJ1⟩ := bnd h
  have hw1 : ∀ (s1 : Bool), o1 = Lp.go s1 → ∀ σ', Le σ' ⟨143, [(0, .str a0), (1, .str a1), (4, .int .i64 0), (5, .int .i64 (a1.length : Int)), (16, .bool s1)], []⟩ → K4 σ' := by
    intro s1 e1 σ' hle1
    subst e1
    refine hK4 _ (Good.le hle1 ?_)
    replace h := hJ1
    refine good_cond rfl (fun hc1 => ?_) (fun hc1 => ?_)
    · replace h := ifT h hc1
      refine good_seq fun K5 hK5 => ?_
      refine good_region ?_
      refine g_op rfl (ValOk.op (v_assign rfl rfl ?_)) 
      refine g_nil ?_
      refine hK5 _ ?_
      refine Good.le (σ' := ⟨143, [(0, _), (1, _), (4, _), (5, _)], []⟩) (le_w [] rfl ⟨⟨_, rfl, .refl _⟩, ⟨⟨_, rfl, .refl _⟩, ⟨⟨_, rfl, .refl _⟩, ⟨⟨_, rfl, .refl _⟩, trivial⟩⟩⟩⟩ trivial (by decide)) ?_
      refine Good.le (σ' := ⟨143, [(4, .int .i64 0)], []⟩) (le_w [] rfl ⟨⟨_, rfl, .refl _⟩, trivial⟩ trivial (by decide)) ?_
      refine good_ret ?_
      obtain rfl := Option.some.inj h
      refine blockQ_ret ?_
      refine thenQ_ret ?_
      exact endQ_ret (h' := []) [] (.tmp rfl (.nil)) trivial (by decide) ⟨rfl, rfl⟩
    · replace h := bF h hc1
      refine good_seq fun K6 hK6 => ?_
      refine good_region ?_
      refine g_op rfl (ValOk.op (v_move rfl rfl ?_)) 
      refine g_op rfl (ValOk.op (v_bin rfl rfl rfl rfl ?_)) 
      refine g_op rfl (ValOk.op (v_assign rfl rfl ?_)) 
      refine g_nil ?_
      refine hK6 _ ?_
      refine Good.le (σ' := ⟨143, [(0, _), (1, _), (4, _), (5, _), (24, _)], []⟩) (le_w [] rfl ⟨⟨_, rfl, .refl _⟩, ⟨⟨_, rfl, .refl _⟩, ⟨⟨_, rfl, .refl _⟩, ⟨⟨_, rfl, .refl _⟩, ⟨⟨_, rfl, .refl _⟩, trivial⟩⟩⟩⟩⟩ trivial (by decide)) ?_
      refine good_cond rfl (fun hc2 => ?_) (fun hc2 => ?_)
      · replace h := ifT h (dT hc2)
        refine good_seq fun K7 hK7 => ?_
        refine good_region ?_
        refine g_op rfl (ValOk.op (v_move rfl rfl ?_)) 
        refine g_op rfl (ValOk.op (v_move rfl rfl ?_)) 
        obtain ⟨hb1, h⟩ := ifS h
        refine g_op rfl (ValOk.op (v_indexM tabOk rfl rfl tkind9 hb1 rfl ?_)) 
        obtain ⟨y1, hy1, h⟩ := bnd h
        refine g_op rfl (o_callR [] [] (core_value rfl rfl) (m_internal_stringslite_IndexByte_ok a0 (byt a1 0) _ hy1) trivial (.cons (.refl _) (.cons (.refl _) (.nil))) (.inl rfl) rfl ?_)
        refine g_op rfl (ValOk.op (v_assign rfl rfl ?_)) 
        refine g_nil ?_
        refine hK7 _ ?_
        refine Good.le (σ' := ⟨143, [(0, _), (1, _), (4, _), (5, _)], []⟩) (le_w [] rfl ⟨⟨_, rfl, .refl _⟩, ⟨⟨_, rfl, .refl _⟩, ⟨⟨_, rfl, .refl _⟩, ⟨⟨_, rfl, .refl _⟩, trivial⟩⟩⟩⟩ trivial (by decide)) ?_
        refine Good.le (σ' := ⟨143, [(4, .int .i64 y1)], []⟩) (le_w [] rfl ⟨⟨_, rfl, .refl _⟩, trivial⟩ trivial (by decide)) ?_
        refine good_ret ?_
        obtain rfl := Option.some.inj h
        refine blockQ_ret ?_
        refine thenQ_ret ?_
        exact endQ_ret (h' := []) [] (.tmp rfl (.nil)) trivial (by decide) ⟨rfl, rfl⟩
      · replace h := ifF h (dF hc2)
        refine good_seq fun K8 hK8 => ?_
        refine good_region ?_
        refine g_op rfl (ValOk.op (v_move rfl rfl ?_)) 
        refine g_op rfl (ValOk.op (v_move rfl rfl ?_)) 
        refine g_op rfl (ValOk.op (v_lenS tabOk rfl rfl tkind9 rfl ?_)) 
        refine g_op rfl (ValOk.op (v_bin rfl rfl rfl rfl ?_)) 
        refine g_op rfl (ValOk.op (v_assign rfl rfl ?_)) 
        refine g_nil ?_
        refine hK8 _ ?_
        refine Good.le (σ' := ⟨143, [(0, _), (1, _), (4, _), (5, _), (31, _)], []⟩) (le_w [] rfl ⟨⟨_, rfl, .refl _⟩, ⟨⟨_, rfl, .refl _⟩, ⟨⟨_, rfl, .refl _⟩, ⟨⟨_, rfl, .refl _⟩, ⟨⟨_, rfl, .refl _⟩, trivial⟩⟩⟩⟩⟩ trivial (by decide)) ?_
        refine good_cond rfl (fun hc3 => ?_) (fun hc3 => ?_)
        · replace h := ifT h (dT hc3)
          refine good_seq fun K9 hK9 => ?_
          refine good_region ?_
          refine g_op rfl (ValOk.op (v_assign rfl rfl ?_)) 
          refine g_nil ?_
          refine hK9 _ ?_
          refine Good.le (σ' := ⟨143, [(0, _), (1, _), (4, _), (5, _)], []⟩) (le_w [] rfl ⟨⟨_, rfl, .refl _⟩, ⟨⟨_, rfl, .refl _⟩, ⟨⟨_, rfl, .refl _⟩, ⟨⟨_, rfl, .refl _⟩, trivial⟩⟩⟩⟩ trivial (by decide)) ?_
          refine Good.le (σ' := ⟨143, [(4, .int .i64 (-1))], []⟩) (le_w [] rfl ⟨⟨_, rfl, .refl _⟩, trivial⟩ trivial (by decide)) ?_
          refine good_ret ?_
          obtain rfl := Option.some.inj h
          refine blockQ_ret ?_
          refine thenQ_ret ?_
          exact endQ_ret (h' := []) [] (.tmp rfl (.nil)) trivial (by decide) ⟨rfl, rfl⟩
        · replace h := ifF h (dF hc3)
          cases h
  replace h := ho1
  refine good_region ?_
  refine g_op rfl (ValOk.op (v_move rfl rfl ?_)) 
  refine g_op rfl (ValOk.op (v_bin rfl rfl rfl rfl ?_)) 
  refine g_op rfl (ValOk.op (v_move rfl rfl ?_)) 
  rcases bsplit ((decide ((a1.length : Int) = 0))) with hg1 | hg1
  · replace h := ifT h (dT hg1)
    refine g_no rfl rfl hg1 rfl ?_
    refine g_no rfl rfl hg1 rfl ?_
    refine g_no rfl rfl hg1 rfl ?_
    refine g_op rfl (ValOk.op (v_pickT rfl hg1 rfl rfl ?_)) 
    refine g_op rfl (ValOk.op (v_assign rfl rfl ?_)) 
    refine g_nil ?_
    exact hw1 true (Option.some.inj h).symm _ (le_w [] rfl ⟨⟨_, rfl, .refl _⟩, ⟨⟨_, rfl, .refl _⟩, ⟨⟨_, rfl, .refl _⟩, ⟨⟨_, rfl, .refl _⟩, ⟨⟨_, rfl, .refl _⟩, trivial⟩⟩⟩⟩⟩ trivial (by decide))
  · replace h := ifF h (dF hg1)
    refine g_yes rfl rfl hg1 (ValOk.op (v_move rfl rfl ?_)) 
    refine g_yes rfl rfl hg1 (ValOk.op (v_move rfl rfl ?_)) 
    refine g_yes rfl rfl hg1 (ValOk.op (v_bin rfl rfl rfl rfl ?_)) 
    refine g_op rfl (ValOk.op (v_pickF rfl hg1 rfl rfl ?_)) 
    refine g_op rfl (ValOk.op (v_assign rfl rfl ?_)) 
    refine g_nil ?_
    exact hw1 (decide (a1 = a0)) (Option.some.inj h).symm _ (le_w [] rfl ⟨⟨_, rfl, .refl _⟩, ⟨⟨_, rfl, .refl _⟩, ⟨⟨_, rfl, .refl _⟩, ⟨⟨_, rfl, .refl _⟩, ⟨⟨_, rfl, .refl _⟩, trivial⟩⟩⟩⟩⟩ trivial (by decide))
def m_strings_Index (k : Nat) (a0 : Bs) (a1 : Bs) : Option Int :=
  (m_internal_stringslite_Index k a0 a1).bind fun y1 =>
  some y1
theorem m_strings_Index_ok (k : Nat) : ∀ (a0 : Bs) (a1 : Bs) (r : Int), m_strings_Index k a0 a1 = some r → Does Tryd.prog 65 [.str a0, .str a1] [] (ret (.int .i64 r)) := by
  intro a0 a1 r h
  rw [m_strings_Index] at h
  refine does_of_good tabOk Tryd.func65 rfl (by decide +kernel) (Nat.le_of_ble_eq_true rfl) fun c => ?_
  refine Good.le (σ' := ⟨8, [(0, .str a0), (1, .str a1)], []⟩) (Le.refl _) ?_
  refine good_seq fun K1 hK1 => ?_
  refine good_region ?_
  refine g_op rfl (ValOk.op (v_assign rfl rfl ?_)) 
  refine g_nil ?_
  refine hK1 _ ?_
  refine good_seq fun K2 hK2 => ?_
  refine good_region ?_
  refine g_op rfl (ValOk.op (v_move rfl rfl ?_)) 
  refine g_op rfl (ValOk.op (v_move rfl rfl ?_)) 
  obtain ⟨y1, hy1, h⟩ := bnd h
  refine g_op rfl (o_callR [] [] (core_value rfl rfl) (m_internal_stringslite_Index_ok k a0 a1 _ hy1) trivial (.cons (.refl _) (.cons (.refl _) (.nil))) (.inl rfl) rfl ?_)
  refine g_op rfl (ValOk.op (v_assign rfl rfl ?_)) 
  refine g_nil ?_
  refine hK2 _ ?_
  refine Good.le (σ' := ⟨8, [(4, _)], []⟩) (le_w [] rfl ⟨⟨_, rfl, .refl _⟩, trivial⟩ trivial (by decide)) ?_
  refine Good.le (σ' := ⟨8, [(4, .int .i64 y1)], []⟩) (le_w [] rfl ⟨⟨_, rfl, .refl _⟩, trivial⟩ trivial (by decide)) ?_
  refine good_ret ?_
  obtain rfl := Option.some.inj h
  exact endQ_ret (h' := []) [] (.tmp rfl (.nil)) trivial (by decide) ⟨rfl, rfl⟩
def m_strings_Count_l1 : Nat → Bs → Bs → Int → Option (Lp Unit Int)
  | 0, _, _, _ => none
  | k + 1, a1, x1, x2 =>
    (m_strings_Index k x1 a1).bind fun y1 =>
    if y1 = (-1) then
      (some x2).bind fun z =>
      some (Lp.ret z)
    else
      if (0 : Int) ≤ (IntKind.wrap .i64 (y1 + (a1.length : Int))) ∧ (IntKind.wrap .i64 (y1 + (a1.length : Int))) ≤ (x1.length : Int) ∧ (x1.length : Int) ≤ (x1.length : Int) then
        m_strings_Count_l1 k a1 (sub x1 (IntKind.wrap .i64 (y1 + (a1.length : Int))) (x1.length : Int)) (IntKind.wrap .i64 (x2 + 1))
      else none
def m_strings_Count (k : Nat) (a0 : Bs) (a1 : Bs) : Option Int :=
  if (a1.length : Int) = 0 then
    none
  else
    if (a1.length : Int) = 1 then
      if (0 : Int) ≤ 0 ∧ 0 < (a1.length : Int) then
        some (Lib.countByte a0 (Int.toNat (byt a1 0)).toUInt8 : Int)
      else none
    else
      (m_strings_Count_l1 k a1 a0 0).bind fun o1 =>
      o1.then fun _ => none
theorem m_strings_Count_ok (k : Nat) : ∀ (a0 : Bs) (a1 : Bs) (r : Int), m_strings_Count k a0 a1 = some r → Does Tryd.prog 64 [.str a0, .str a1] [] (ret (.int .i64 r)) := by
  intro a0 a1 r h
  rw [m_strings_Count] at h
  refine does_of_good tabOk Tryd.func64 rfl (by decide +kernel) (Nat.le_of_ble_eq_true rfl) fun c => ?_
  refine Good.le (σ' := ⟨34, [(0, .str a0), (1, .str a1)], []⟩) (Le.refl _) ?_
  refine good_seq fun K1 hK1 => ?_
  refine good_region ?_
  refine g_op rfl (ValOk.op (v_assign rfl rfl ?_)) 
  refine g_nil ?_
  refine hK1 _ ?_
  refine good_seq fun K2 hK2 => ?_
  refine good_seq fun K3 hK3 => ?_
  refine good_region ?_
  refine g_op rfl (ValOk.op (v_move rfl rfl ?_)) 
  refine g_op rfl (ValOk.op (v_lenS tabOk rfl rfl tkind9 rfl ?_)) 
  refine g_op rfl (ValOk.op (v_bin rfl rfl rfl rfl ?_)) 
  refine g_nil ?_
  refine hK3 _ ?_
  refine Good.le (σ' := ⟨34, [(0, _), (1, _), (4, _), (9, _)], []⟩) (le_w [] rfl ⟨⟨_, rfl, .refl _⟩, ⟨⟨_, rfl, .refl _⟩, ⟨⟨_, rfl, .refl _⟩, ⟨⟨_, rfl, .refl _⟩, trivial⟩⟩⟩⟩ trivial (by decide)) ?_
  refine good_cond rfl (fun hc1 => ?_) (fun hc1 => ?_)
  · replace h := ifT h (dT hc1)
    cases h
  · replace h := ifF h (dF hc1)
    refine good_skip ?_
    refine hK2 _ ?_
    refine Good.le (σ' := ⟨34, [(0, _), (1, _), (4, _)], []⟩) (le_w [] rfl ⟨⟨_, rfl, .refl _⟩, ⟨⟨_, rfl, .refl _⟩, ⟨⟨_, rfl, .refl _⟩, trivial⟩⟩⟩ trivial (by decide)) ?_
    refine good_seq fun K4 hK4 => ?_
    refine good_seq fun K5 hK5 => ?_
    refine good_region ?_
    refine g_op rfl (ValOk.op (v_move rfl rfl ?_)) 
    refine g_op rfl (ValOk.op (v_lenS tabOk rfl rfl tkind9 rfl ?_)) 
    refine g_op rfl (ValOk.op (v_bin rfl rfl rfl rfl ?_)) 
    refine g_nil ?_
    refine hK5 _ ?_
    refine Good.le (σ' := ⟨34, [(0, _), (1, _), (4, _), (15, _)], []⟩) (le_w [] rfl ⟨⟨_, rfl, .refl _⟩, ⟨⟨_, rfl, .refl _⟩, ⟨⟨_, rfl, .refl _⟩, ⟨⟨_, rfl, .refl _⟩, trivial⟩⟩⟩⟩ trivial (by decide)) ?_
    refine good_cond rfl (fun hc2 => ?_) (fun hc2 => ?_)
    · replace h := ifT h (dT hc2)
      refine good_seq fun K6 hK6 => ?_
      refine good_region ?_
      refine g_op rfl (ValOk.op (v_move rfl rfl ?_)) 
      refine g_op rfl (ValOk.op (v_move rfl rfl ?_)) 
      obtain ⟨hb1, h⟩ := ifS h
      refine g_op rfl (ValOk.op (v_indexM tabOk rfl rfl tkind9 hb1 rfl ?_)) 
      refine g_op rfl (ValOk.op (v_cnt rfl rfl rfl ?_)) 
      refine g_op rfl (ValOk.op (v_assign rfl rfl ?_)) 
      refine g_nil ?_
      refine hK6 _ ?_
      refine Good.le (σ' := ⟨34, [(0, _), (1, _), (4, _)], []⟩) (le_w [] rfl ⟨⟨_, rfl, .refl _⟩, ⟨⟨_, rfl, .refl _⟩, ⟨⟨_, rfl, .refl _⟩, trivial⟩⟩⟩ trivial (by decide)) ?_
      refine Good.le (σ' := ⟨34, [(4, .int .i64 (Lib.countByte a0 (Int.toNat (byt a1 0)).toUInt8 : Int))], []⟩) (le_w [] rfl ⟨⟨_, rfl, .refl _⟩, trivial⟩ trivial (by decide)) ?_
      refine good_ret ?_
      obtain rfl := Option.some.inj h
      refine thenQ_ret ?_
      exact endQ_ret (h' := []) [] (.tmp rfl (.nil)) trivial (by decide) ⟨rfl, rfl⟩
    · replace h := ifF h (dF hc2)
      refine good_skip ?_
      refine hK4 _ ?_
      refine Good.le (σ' := ⟨34, [(0, _), (1, _), (4, _)], []⟩) (le_w [] rfl ⟨⟨_, rfl, .refl _⟩, ⟨⟨_, rfl, .refl _⟩, ⟨⟨_, rfl, .refl _⟩, trivial⟩⟩⟩ trivial (by decide)) ?_
      refine good_seq fun K7 hK7 => ?_
      refine good_region ?_
      refine g_op rfl (ValOk.op (v_assign rfl rfl ?_)) 
      refine g_nil ?_
      refine hK7 _ ?_
      refine good_named fun K8 hK8 => ?_
      obtain ⟨o1, ho1, hJ1⟩ := bnd h
      replace h := ho1
      refine good_block ?_
      refine good_loopf (fun p : (Bs × Int) => ⟨34, [(0, .str p.1), (1, .str a1), (4, .int .i64 0), (5, .int .i64 p.2)], []⟩) (fun m p => m_strings_Count_l1 m a1 p.1 p.2 = some o1) k (a0, 0) (le_w [] rfl ⟨⟨_, rfl, .refl _⟩, ⟨⟨_, rfl, .refl _⟩, ⟨⟨_, rfl, .refl _⟩, ⟨⟨_, rfl, .refl _⟩, trivial⟩⟩⟩⟩ trivial (by decide)) h ?_
      rintro m1 ⟨x1, x2⟩ h
      replace h : m_strings_Count_l1 m1 a1 x1 x2 = some o1 := h
      refine Good.le (σ' := ⟨34, [(0, .str x1), (1, .str a1), (4, .int .i64 0), (5, .int .i64 x2)], []⟩) (Le.refl _) ?_
      obtain ⟨m1, rfl⟩ : ∃ m', m1 = m' + 1 := by cases m1 with | zero => (rw [m_strings_Count_l1] at h; cases h) | succ m' => exact ⟨m', rfl⟩
      rw [m_strings_Count_l1] at h
      refine good_block ?_
      refine good_seq fun K9 hK9 => ?_
      refine good_region ?_
      refine g_op rfl (ValOk.op (v_move rfl rfl ?_)) 
      refine g_op rfl (ValOk.op (v_move rfl rfl ?_)) 
      obtain ⟨y1, hy1, h⟩ := bnd h
      refine g_op rfl (o_callR [] [] (core_value rfl rfl) (m_strings_Index_ok m1 x1 a1 _ hy1) trivial (.cons (.refl _) (.cons (.refl _) (.nil))) (.inl rfl) rfl ?_)
      refine g_op rfl (ValOk.op (v_assign rfl rfl ?_)) 
      refine g_nil ?_
      refine hK9 _ ?_
      refine Good.le (σ' := ⟨34, [(0, _), (1, _), (4, _), (5, _), (6, _)], []⟩) (le_w [] rfl ⟨⟨_, rfl, .refl _⟩, ⟨⟨_, rfl, .refl _⟩, ⟨⟨_, rfl, .refl _⟩, ⟨⟨_, rfl, .refl _⟩, ⟨⟨_, rfl, .refl _⟩, trivial⟩⟩⟩⟩⟩ trivial (by decide)) ?_
      refine good_seq fun K10 hK10 => ?_
      refine good_seq fun K11 hK11 => ?_
      refine good_region ?_
      refine g_op rfl (ValOk.op (v_move rfl rfl ?_)) 
      refine g_op rfl (ValOk.op (v_bin rfl rfl rfl rfl ?_)) 
      refine g_nil ?_
      refine hK11 _ ?_
      refine Good.le (σ' := ⟨34, [(0, _), (1, _), (4, _), (5, _), (6, _), (24, _)], []⟩) (le_w [] rfl ⟨⟨_, rfl, .refl _⟩, ⟨⟨_, rfl, .refl _⟩, ⟨⟨_, rfl, .refl _⟩, ⟨⟨_, rfl, .refl _⟩, ⟨⟨_, rfl, .refl _⟩, ⟨⟨_, rfl, .refl _⟩, trivial⟩⟩⟩⟩⟩⟩ trivial (by decide)) ?_
      refine good_cond rfl (fun hc3 => ?_) (fun hc3 => ?_)
      · replace h := ifT h (dT hc3)
        refine good_seq fun K12 hK12 => ?_
        refine good_region ?_
        refine g_op rfl (ValOk.op (v_move rfl rfl ?_)) 
        refine g_op rfl (ValOk.op (v_assign rfl rfl ?_)) 
        refine g_nil ?_
        refine hK12 _ ?_
        refine Good.le (σ' := ⟨34, [(0, _), (1, _), (4, _), (5, _), (6, _)], []⟩) (le_w [] rfl ⟨⟨_, rfl, .refl _⟩, ⟨⟨_, rfl, .refl _⟩, ⟨⟨_, rfl, .refl _⟩, ⟨⟨_, rfl, .refl _⟩, ⟨⟨_, rfl, .refl _⟩, trivial⟩⟩⟩⟩⟩ trivial (by decide)) ?_
        refine Good.le (σ' := ⟨34, [(4, .int .i64 x2)], []⟩) (le_w [] rfl ⟨⟨_, rfl, .refl _⟩, trivial⟩ trivial (by decide)) ?_
        refine good_ret ?_
        replace h := unret h hJ1
        obtain rfl := Option.some.inj h
        refine thenQ_ret ?_
        refine blockQ_ret ?_
        refine thenQ_ret ?_
        refine blockQ_ret ?_
        refine thenQ_ret ?_
        exact endQ_ret (h' := []) [] (.tmp rfl (.nil)) trivial (by decide) ⟨rfl, rfl⟩
      · replace h := ifF h (dF hc3)
        refine good_skip ?_
        refine hK10 _ ?_
        refine Good.le (σ' := ⟨34, [(0, _), (1, _), (4, _), (5, _), (6, _)], []⟩) (le_w [] rfl ⟨⟨_, rfl, .refl _⟩, ⟨⟨_, rfl, .refl _⟩, ⟨⟨_, rfl, .refl _⟩, ⟨⟨_, rfl, .refl _⟩, ⟨⟨_, rfl, .refl _⟩, trivial⟩⟩⟩⟩⟩ trivial (by decide)) ?_
        refine good_seq fun K13 hK13 => ?_
        refine good_region ?_
        refine g_op rfl (ValOk.op (v_move rfl rfl ?_)) 
        refine g_op rfl (ValOk.op (v_bin rfl rfl rfl rfl ?_)) 
        refine g_op rfl (ValOk.op (v_assign rfl rfl ?_)) 
        refine g_nil ?_
        refine hK13 _ ?_
        refine Good.le (σ' := ⟨34, [(0, _), (1, _), (4, _), (5, _), (6, _)], []⟩) (le_w [] rfl ⟨⟨_, rfl, .refl _⟩, ⟨⟨_, rfl, .refl _⟩, ⟨⟨_, rfl, .refl _⟩, ⟨⟨_, rfl, .refl _⟩, ⟨⟨_, rfl, .refl _⟩, trivial⟩⟩⟩⟩⟩ trivial (by decide)) ?_
        refine good_region ?_
        refine g_op rfl (ValOk.op (v_move rfl rfl ?_)) 
        refine g_op rfl (ValOk.op (v_move rfl rfl ?_)) 
        refine g_op rfl (ValOk.op (v_move rfl rfl ?_)) 
        refine g_op rfl (ValOk.op (v_lenS tabOk rfl rfl tkind9 rfl ?_)) 
        refine g_op rfl (ValOk.op (v_bin rfl rfl rfl rfl ?_)) 
        obtain ⟨hb2, h⟩ := ifS h
        refine g_op rfl (ValOk.op (v_sliceSM tabOk rfl rfl rfl rfl tkind9 hb2 rfl ?_)) 
        refine g_op rfl (ValOk.op (v_assign rfl rfl ?_)) 
        refine g_nil ?_
        exact round_mk m1 (sub x1 (IntKind.wrap .i64 (y1 + (a1.length : Int))) (x1.length : Int), IntKind.wrap .i64 (x2 + 1)) (Nat.lt_succ_self _) h (le_w [] rfl ⟨⟨_, rfl, .refl _⟩, ⟨⟨_, rfl, .refl _⟩, ⟨⟨_, rfl, .refl _⟩, ⟨⟨_, rfl, .refl _⟩, trivial⟩⟩⟩⟩ trivial (by decide))
def m_strings_genSplit_l1 : Nat → Bs → Bs → Int → Int → Bs → (List Bs) → Int → Option (Lp (Bs × (List Bs) × Int) (List Bs))
  | 0, _, _, _, _, _, _, _ => none
  | k + 1, a0, a1, a2, s1, x1, x2, x3 =>
    if x3 < (IntKind.wrap .i64 ((if IntKind.wrap .i64 ((a0.length : Int) + 1) < s1 then IntKind.wrap .i64 ((a0.length : Int) + 1) else s1) - 1)) then
      (m_strings_Index k x1 a1).bind fun y1 =>
      if y1 < 0 then
        some (Lp.go (x1, x2, x3))
      else
        if (0 : Int) ≤ 0 ∧ (0 : Int) ≤ (IntKind.wrap .i64 (y1 + a2)) ∧ (IntKind.wrap .i64 (y1 + a2)) ≤ (x1.length : Int) then
          if (0 : Int) ≤ x3 ∧ x3 < (x2.length : Int) then
            if (0 : Int) ≤ (IntKind.wrap .i64 (y1 + (a1.length : Int))) ∧ (IntKind.wrap .i64 (y1 + (a1.length : Int))) ≤ (x1.length : Int) ∧ (x1.length : Int) ≤ (x1.length : Int) then
              m_strings_genSplit_l1 k a0 a1 a2 s1 (sub x1 (IntKind.wrap .i64 (y1 + (a1.length : Int))) (x1.length : Int)) (x2.set (Int.toNat x3) (sub x1 0 (IntKind.wrap .i64 (y1 + a2)))) (IntKind.wrap .i64 (x3 + 1))
            else none
          else none
        else none
    else
      some (Lp.go (x1, x2, x3))
def m_strings_genSplit (k : Nat) (a0 : Bs) (a1 : Bs) (a2 : Int) (a3 : Int) : Option (List Bs) :=
  if a3 = 0 then
    some ([] : List Bs)
  else
    if a1 = [] then
      none
    else
      (if a3 < 0 then
          (m_strings_Count k a0 a1).bind fun y2 =>
          some (Lp.go (IntKind.wrap .i64 (y2 + 1)))
        else
          some (Lp.go a3)).bind fun o1 =>
      o1.then fun s1 =>
    if (0 : Int) ≤ (if IntKind.wrap .i64 ((a0.length : Int) + 1) < s1 then IntKind.wrap .i64 ((a0.length : Int) + 1) else s1) ∧ 16 * (if IntKind.wrap .i64 ((a0.length : Int) + 1) < s1 then IntKind.wrap .i64 ((a0.length : Int) + 1) else s1) ≤ (281474976710656 : Int) then
      if (if IntKind.wrap .i64 ((a0.length : Int) + 1) < s1 then IntKind.wrap .i64 ((a0.length : Int) + 1) else s1) ≤ (9223372036854775807 : Int) then
        (m_strings_genSplit_l1 k a0 a1 a2 s1 a0 (List.replicate (Int.toNat (if IntKind.wrap .i64 ((a0.length : Int) + 1) < s1 then IntKind.wrap .i64 ((a0.length : Int) + 1) else s1)) ([] : Bs)) 0).bind fun o2 =>
        o2.then fun s2 =>
    if (0 : Int) ≤ s2.2.2 ∧ s2.2.2 < (s2.2.1.length : Int) then
      if (0 : Int) ≤ (IntKind.wrap .i64 (s2.2.2 + 1)) ∧ (IntKind.wrap .i64 (s2.2.2 + 1)) ≤ ((s2.2.1.set (Int.toNat s2.2.2) s2.1).length : Int) then
        some ((s2.2.1.set (Int.toNat s2.2.2) s2.1).take (Int.toNat (IntKind.wrap .i64 (s2.2.2 + 1))))
      else none
    else none
      else none
    else none
theorem m_strings_genSplit_ok (k : Nat) : ∀ (a0 : Bs) (a1 : Bs) (a2 : Int) (a3 : Int) (r : (List Bs)), m_strings_genSplit k a0 a1 a2 a3 = some r → Does Tryd.prog 53 [.str a0, .str a1, .int .i64 a2, .int .i64 a3] [] (fun q h' => ∃ u0 : Value, q = .hd 100 u0 ∧ h' = [(100, (u0, .osl 9 1 (r.map encS)))]) := by
  intro a0 a1 a2 a3 r h
  rw [m_strings_genSplit] at h
  refine does_of_good tabOk Tryd.func53 rfl (by decide +kernel) (Nat.le_of_ble_eq_true rfl) fun c => ?_
  refine Good.le (σ' := ⟨66, [(0, .str a0), (1, .str a1), (2, .int .i64 a2), (3, .int .i64 a3)], []⟩) (Le.refl _) ?_
  refine good_seq fun K1 hK1 => ?_
  refine good_region ?_
  refine g_op rfl (ValOk.op (v_assign rfl rfl ?_)) 
  refine g_nil ?_
  refine hK1 _ ?_
  refine good_seq fun K2 hK2 => ?_
  refine good_seq fun K3 hK3 => ?_
  refine good_region ?_
  refine g_op rfl (ValOk.op (v_move rfl rfl ?_)) 
  refine g_op rfl (ValOk.op (v_bin rfl rfl rfl rfl ?_)) 
  refine g_nil ?_
  refine hK3 _ ?_
  refine Good.le (σ' := ⟨66, [(0, _), (1, _), (2, _), (3, _), (8, _), (13, _)], []⟩) (le_w [] rfl ⟨⟨_, rfl, .refl _⟩, ⟨⟨_, rfl, .refl _⟩, ⟨⟨_, rfl, .refl _⟩, ⟨⟨_, rfl, .refl _⟩, ⟨⟨_, rfl, .refl _⟩, ⟨⟨_, rfl, .refl _⟩, trivial⟩⟩⟩⟩⟩⟩ trivial (by decide)) ?_
  refine good_cond rfl (fun hc1 => ?_) (fun hc1 => ?_)
  · replace h := ifT h (dT hc1)
    refine good_seq fun K4 hK4 => ?_
    refine good_region ?_
    refine g_op rfl (ValOk.op (v_assign rfl rfl ?_)) 
    refine g_nil ?_
    refine hK4 _ ?_
    refine Good.le (σ' := ⟨66, [(0, _), (1, _), (2, _), (3, _), (8, _)], []⟩) (le_w [] rfl ⟨⟨_, rfl, .refl _⟩, ⟨⟨_, rfl, .refl _⟩, ⟨⟨_, rfl, .refl _⟩, ⟨⟨_, rfl, .refl _⟩, ⟨⟨_, rfl, .refl _⟩, trivial⟩⟩⟩⟩⟩ trivial (by decide)) ?_
    refine Good.le (σ' := ⟨66, [(8, .hd 100 nilV)], [(100, (nilV, .osl 9 1 (([] : List Bs).map encS)))]⟩) (le_w [none] rfl ⟨⟨_, rfl, .nilhd _⟩, trivial⟩ ⟨⟨rfl, _, _, rfl⟩, trivial⟩ (by decide)) ?_
    refine good_ret ?_
    obtain rfl := Option.some.inj h
    refine thenQ_ret ?_
    exact endQ_ret (h' := [(100, (_, _))]) [some 100] (.tmp rfl (.nil)) ⟨⟨_, rfl, .refl _⟩, trivial⟩ (by decide) ⟨nilV, rfl, rfl⟩
  · replace h := ifF h (dF hc1)
    refine good_skip ?_
    refine hK2 _ ?_
    refine Good.le (σ' := ⟨66, [(0, _), (1, _), (2, _), (3, _), (8, _)], []⟩) (le_w [] rfl ⟨⟨_, rfl, .refl _⟩, ⟨⟨_, rfl, .refl _⟩, ⟨⟨_, rfl, .refl _⟩, ⟨⟨_, rfl, .refl _⟩, ⟨⟨_, rfl, .refl _⟩, trivial⟩⟩⟩⟩⟩ trivial (by decide)) ?_
    refine good_seq fun K5 hK5 => ?_
    refine good_seq fun K6 hK6 => ?_
    refine good_region ?_
    refine g_op rfl (ValOk.op (v_move rfl rfl ?_)) 
    refine g_op rfl (ValOk.op (v_bin rfl rfl rfl rfl ?_)) 
    refine g_nil ?_
    refine hK6 _ ?_
    refine Good.le (σ' := ⟨66, [(0, _), (1, _), (2, _), (3, _), (8, _), (15, _)], []⟩) (le_w [] rfl ⟨⟨_, rfl, .refl _⟩, ⟨⟨_, rfl, .refl _⟩, ⟨⟨_, rfl, .refl _⟩, ⟨⟨_, rfl, .refl _⟩, ⟨⟨_, rfl, .refl _⟩, ⟨⟨_, rfl, .refl _⟩, trivial⟩⟩⟩⟩⟩⟩ trivial (by decide)) ?_
    refine good_cond rfl (fun hc2 => ?_) (fun hc2 => ?_)
    · replace h := ifT h (dT hc2)
      cases h
    · replace h := ifF h (dF hc2)
      refine good_skip ?_
      refine hK5 _ ?_
      refine Good.le (σ' := ⟨66, [(0, _), (1, _), (2, _), (3, _), (8, _)], []⟩) (le_w [] rfl ⟨⟨_, rfl, .refl _⟩, ⟨⟨_, rfl, .refl _⟩, ⟨⟨_, rfl, .refl _⟩, ⟨⟨_, rfl, .refl _⟩, ⟨⟨_, rfl, .refl _⟩, trivial⟩⟩⟩⟩⟩ trivial (by decide)) ?_
      refine good_seq fun K7 hK7 => ?_
      obtain ⟨o1, ho1, hJ1⟩ := bnd h
      have hw1 : ∀ (s1 : Int), o1 = Lp.go s1 → ∀ σ', Le σ' ⟨66, [(0, .str a0), (1, .str a1), (2, .int .i64 a2), (3, .int .i64 s1), (8, .nil)], []⟩ → K7 σ' := by
        intro s1 e1 σ' hle1
        subst e1
        refine hK7 _ (Good.le hle1 ?_)
        replace h := hJ1
        refine good_seq fun K8 hK8 => ?_
        refine good_region ?_
        refine g_op rfl (ValOk.op (v_move rfl rfl ?_)) 
        refine g_op rfl (ValOk.op (v_move rfl rfl ?_)) 
        refine g_op rfl (ValOk.op (v_lenS tabOk rfl rfl tkind9 rfl ?_)) 
        refine g_op rfl (ValOk.op (v_bin rfl rfl rfl rfl ?_)) 
        refine g_op rfl (ValOk.op (v_min rfl rfl rfl ?_)) 
        refine g_op rfl (ValOk.op (v_assign rfl rfl ?_)) 
        refine g_nil ?_
        refine hK8 _ ?_
        refine Good.le (σ' := ⟨66, [(0, _), (1, _), (2, _), (3, _), (8, _)], []⟩) (le_w [] rfl ⟨⟨_, rfl, .refl _⟩, ⟨⟨_, rfl, .refl _⟩, ⟨⟨_, rfl, .refl _⟩, ⟨⟨_, rfl, .refl _⟩, ⟨⟨_, rfl, .refl _⟩, trivial⟩⟩⟩⟩⟩ trivial (by decide)) ?_
        refine good_seq fun K9 hK9 => ?_
        refine good_region ?_
        refine g_op rfl (ValOk.op (v_move rfl rfl ?_)) 
        obtain ⟨hb1, h⟩ := ifS h
        obtain ⟨hb2, h⟩ := ifS h
        refine g_op rfl (o_makeM (k := 41) (zz := (([] : Bs))) (f := encS) tabOk telem24 tsize9 tbytes9 tzero9 rfl rfl rfl (by decide) (WkL.refl _) rfl rfl hb1 hb2 ?_)
        intro w1
        refine g_op rfl (ValOk.op (v_assign rfl rfl ?_)) 
        refine g_nil ?_
        refine hK9 _ ?_
        refine Good.le (σ' := ⟨66, [(0, _), (1, _), (2, _), (3, _), (8, _), (9, _)], [(41, (_, _))]⟩) (le_w [some 41] rfl ⟨⟨_, rfl, .refl _⟩, ⟨⟨_, rfl, .refl _⟩, ⟨⟨_, rfl, .refl _⟩, ⟨⟨_, rfl, .refl _⟩, ⟨⟨_, rfl, .refl _⟩, ⟨⟨_, rfl, .refl _⟩, trivial⟩⟩⟩⟩⟩⟩ ⟨⟨_, rfl, .refl _⟩, trivial⟩ (by decide)) ?_
        refine good_seq fun K10 hK10 => ?_
        refine good_region ?_
        refine g_op rfl (ValOk.op (v_move rfl rfl ?_)) 
        refine g_op rfl (ValOk.op (v_bin rfl rfl rfl rfl ?_)) 
        refine g_op rfl (ValOk.op (v_assign rfl rfl ?_)) 
        refine g_nil ?_
        refine hK10 _ ?_
        refine Good.le (σ' := ⟨66, [(0, _), (1, _), (2, _), (3, _), (8, _), (9, _)], [(41, (_, _))]⟩) (le_w [some 41] rfl ⟨⟨_, rfl, .refl _⟩, ⟨⟨_, rfl, .refl _⟩, ⟨⟨_, rfl, .refl _⟩, ⟨⟨_, rfl, .refl _⟩, ⟨⟨_, rfl, .refl _⟩, ⟨⟨_, rfl, .refl _⟩, trivial⟩⟩⟩⟩⟩⟩ ⟨⟨_, rfl, .refl _⟩, trivial⟩ (by decide)) ?_
        refine good_seq fun K11 hK11 => ?_
        refine good_region ?_
        refine g_op rfl (ValOk.op (v_assign rfl rfl ?_)) 
        refine g_nil ?_
        refine hK11 _ ?_
        refine good_seq fun K12 hK12 => ?_
        obtain ⟨o2, ho2, hJ2⟩ := bnd h
        have hw2 : ∀ (s2 : (Bs × (List Bs) × Int)), o2 = Lp.go s2 → ∀ σ', Le σ' ⟨66, [(0, .str s2.1), (8, .nil), (9, .hd 41 w1), (10, .int .i64 s2.2.2)], [(41, (w1, .osl 9 1 (s2.2.1.map encS)))]⟩ → K12 σ' := by
          intro s2 e2 σ' hle2
          subst e2
          refine hK12 _ (Good.le hle2 ?_)
          replace h := hJ2
          refine good_seq fun K13 hK13 => ?_
          refine good_region ?_
          refine g_op rfl (ValOk.op (v_move rfl rfl ?_)) 
          refine g_op rfl (ValOk.op (v_move rfl rfl ?_)) 
          refine g_op rfl (ValOk.op (v_move rfl rfl ?_)) 
          obtain ⟨hb3, h⟩ := ifS h
          refine g_op rfl (ValOk.op (v_idxHM (q := 41) tabOk ⟨_, rfl⟩ rfl rfl telem24 tsize9 hb3 rfl ?_)) 
          refine g_op rfl (o_storeRM tabOk (z := s2.1) rfl rfl tsize9 rfl hb3 rfl rfl rfl (by decide) rfl rfl rfl rfl ?_)
          refine g_nil ?_
          refine hK13 _ ?_
          refine Good.le (σ' := ⟨66, [(8, _), (9, _), (10, _)], [(41, (_, _))]⟩) (le_w [some 41] rfl ⟨⟨_, rfl, .refl _⟩, ⟨⟨_, rfl, .refl _⟩, ⟨⟨_, rfl, .refl _⟩, trivial⟩⟩⟩ ⟨⟨_, rfl, .refl _⟩, trivial⟩ (by decide)) ?_
          refine good_seq fun K14 hK14 => ?_
          refine good_region ?_
          refine g_op rfl (ValOk.op (v_move rfl rfl ?_)) 
          refine g_op rfl (ValOk.op (v_move rfl rfl ?_)) 
          refine g_op rfl (ValOk.op (v_bin rfl rfl rfl rfl ?_)) 
          obtain ⟨hb4, h⟩ := ifS h
          refine g_op rfl (o_sliceHM (q := 41) (k := 75) tabOk ⟨_, rfl⟩ rfl telem24 tsize9 rfl rfl rfl rfl rfl hb4 ?_)
          intro w2
          refine g_op rfl (ValOk.op (v_assign rfl rfl ?_)) 
          refine g_nil ?_
          refine hK14 _ ?_
          refine Good.le (σ' := ⟨66, [(8, _)], [(75, (_, _))]⟩) (le_w [some 75] rfl ⟨⟨_, rfl, .refl _⟩, trivial⟩ ⟨⟨_, rfl, .refl _⟩, trivial⟩ (by decide)) ?_
          refine Good.le (σ' := ⟨66, [(8, .hd 100 w2)], [(100, (w2, .osl 9 1 (((s2.2.1.set (Int.toNat s2.2.2) s2.1).take (Int.toNat (IntKind.wrap .i64 (s2.2.2 + 1)))).map encS)))]⟩) (le_w [some 75] rfl ⟨⟨_, rfl, .hd _ _ _⟩, trivial⟩ ⟨⟨_, rfl, .refl _⟩, trivial⟩ (by decide)) ?_
          refine good_ret ?_
          obtain rfl := Option.some.inj h
          exact endQ_ret (h' := [(100, (_, _))]) [some 100] (.tmp rfl (.nil)) ⟨⟨_, rfl, .refl _⟩, trivial⟩ (by decide) ⟨w2, rfl, rfl⟩
        replace h := ho2
        refine good_block ?_
        refine good_loopf (fun p : (Bs × (List Bs) × Int) => ⟨66, [(0, .str p.1), (1, .str a1), (2, .int .i64 a2), (3, .int .i64 (IntKind.wrap .i64 ((if IntKind.wrap .i64 ((a0.length : Int) + 1) < s1 then IntKind.wrap .i64 ((a0.length : Int) + 1) else s1) - 1))), (8, .nil), (9, .hd 41 w1), (10, .int .i64 p.2.2)], [(41, (w1, .osl 9 1 (p.2.1.map encS)))]⟩) (fun m p => m_strings_genSplit_l1 m a0 a1 a2 s1 p.1 p.2.1 p.2.2 = some o2) k (a0, List.replicate (Int.toNat (if IntKind.wrap .i64 ((a0.length : Int) + 1) < s1 then IntKind.wrap .i64 ((a0.length : Int) + 1) else s1)) ([] : Bs), 0) (le_w [some 41] rfl ⟨⟨_, rfl, .refl _⟩, ⟨⟨_, rfl, .refl _⟩, ⟨⟨_, rfl, .refl _⟩, ⟨⟨_, rfl, .refl _⟩, ⟨⟨_, rfl, .refl _⟩, ⟨⟨_, rfl, .refl _⟩, ⟨⟨_, rfl, .refl _⟩, trivial⟩⟩⟩⟩⟩⟩⟩ ⟨⟨_, rfl, .refl _⟩, trivial⟩ (by decide)) h ?_
        rintro m1 ⟨x1, x2, x3⟩ h
        replace h : m_strings_genSplit_l1 m1 a0 a1 a2 s1 x1 x2 x3 = some o2 := h
        refine Good.le (σ' := ⟨66, [(0, .str x1), (1, .str a1), (2, .int .i64 a2), (3, .int .i64 (IntKind.wrap .i64 ((if IntKind.wrap .i64 ((a0.length : Int) + 1) < s1 then IntKind.wrap .i64 ((a0.length : Int) + 1) else s1) - 1))), (8, .nil), (9, .hd 41 w1), (10, .int .i64 x3)], [(41, (w1, .osl 9 1 (x2.map encS)))]⟩) (Le.refl _) ?_
        obtain ⟨m1, rfl⟩ : ∃ m', m1 = m' + 1 := by cases m1 with | zero => (rw [m_strings_genSplit_l1] at h; cases h) | succ m' => exact ⟨m', rfl⟩
        rw [m_strings_genSplit_l1] at h
        refine good_seq fun K15 hK15 => ?_
        refine good_seq fun K16 hK16 => ?_
        refine good_region ?_
        refine g_op rfl (ValOk.op (v_move rfl rfl ?_)) 
        refine g_op rfl (ValOk.op (v_move rfl rfl ?_)) 
        refine g_op rfl (ValOk.op (v_bin rfl rfl rfl rfl ?_)) 
        refine g_nil ?_
        refine hK16 _ ?_
        refine Good.le (σ' := ⟨66, [(0, _), (1, _), (2, _), (3, _), (8, _), (9, _), (10, _), (36, _)], [(41, (_, _))]⟩) (le_w [some 41] rfl ⟨⟨_, rfl, .refl _⟩, ⟨⟨_, rfl, .refl _⟩, ⟨⟨_, rfl, .refl _⟩, ⟨⟨_, rfl, .refl _⟩, ⟨⟨_, rfl, .refl _⟩, ⟨⟨_, rfl, .refl _⟩, ⟨⟨_, rfl, .refl _⟩, ⟨⟨_, rfl, .refl _⟩, trivial⟩⟩⟩⟩⟩⟩⟩⟩ ⟨⟨_, rfl, .refl _⟩, trivial⟩ (by decide)) ?_
        refine good_cond rfl (fun hc3 => ?_) (fun hc3 => ?_)
        · replace h := ifT h (dT hc3)
          refine good_skip ?_
          refine hK15 _ ?_
          refine Good.le (σ' := ⟨66, [(0, _), (1, _), (2, _), (3, _), (8, _), (9, _), (10, _)], [(41, (_, _))]⟩) (le_w [some 41] rfl ⟨⟨_, rfl, .refl _⟩, ⟨⟨_, rfl, .refl _⟩, ⟨⟨_, rfl, .refl _⟩, ⟨⟨_, rfl, .refl _⟩, ⟨⟨_, rfl, .refl _⟩, ⟨⟨_, rfl, .refl _⟩, ⟨⟨_, rfl, .refl _⟩, trivial⟩⟩⟩⟩⟩⟩⟩ ⟨⟨_, rfl, .refl _⟩, trivial⟩ (by decide)) ?_
          refine good_block ?_
          refine good_seq fun K17 hK17 => ?_
          refine good_region ?_
          refine g_op rfl (ValOk.op (v_move rfl rfl ?_)) 
          refine g_op rfl (ValOk.op (v_move rfl rfl ?_)) 
          obtain ⟨y1, hy1, h⟩ := bnd h
          refine g_op rfl (o_callR [] [] (core_value rfl rfl) (m_strings_Index_ok m1 x1 a1 _ hy1) trivial (.cons (.refl _) (.cons (.refl _) (.nil))) (.inl rfl) rfl ?_)
          refine g_op rfl (ValOk.op (v_assign rfl rfl ?_)) 
          refine g_nil ?_
          refine hK17 _ ?_
          refine Good.le (σ' := ⟨66, [(0, _), (1, _), (2, _), (3, _), (8, _), (9, _), (10, _), (11, _)], [(41, (_, _))]⟩) (le_w [some 41] rfl ⟨⟨_, rfl, .refl _⟩, ⟨⟨_, rfl, .refl _⟩, ⟨⟨_, rfl, .refl _⟩, ⟨⟨_, rfl, .refl _⟩, ⟨⟨_, rfl, .refl _⟩, ⟨⟨_, rfl, .refl _⟩, ⟨⟨_, rfl, .refl _⟩, ⟨⟨_, rfl, .refl _⟩, trivial⟩⟩⟩⟩⟩⟩⟩⟩ ⟨⟨_, rfl, .refl _⟩, trivial⟩ (by decide)) ?_
          refine good_seq fun K18 hK18 => ?_
          refine good_seq fun K19 hK19 => ?_
          refine good_region ?_
          refine g_op rfl (ValOk.op (v_move rfl rfl ?_)) 
          refine g_op rfl (ValOk.op (v_bin rfl rfl rfl rfl ?_)) 
          refine g_nil ?_
          refine hK19 _ ?_
          refine Good.le (σ' := ⟨66, [(0, _), (1, _), (2, _), (3, _), (8, _), (9, _), (10, _), (11, _), (41, _)], [(41, (_, _))]⟩) (le_w [some 41] rfl ⟨⟨_, rfl, .refl _⟩, ⟨⟨_, rfl, .refl _⟩, ⟨⟨_, rfl, .refl _⟩, ⟨⟨_, rfl, .refl _⟩, ⟨⟨_, rfl, .refl _⟩, ⟨⟨_, rfl, .refl _⟩, ⟨⟨_, rfl, .refl _⟩, ⟨⟨_, rfl, .refl _⟩, ⟨⟨_, rfl, .refl _⟩, trivial⟩⟩⟩⟩⟩⟩⟩⟩⟩ ⟨⟨_, rfl, .refl _⟩, trivial⟩ (by decide)) ?_
          refine good_cond rfl (fun hc4 => ?_) (fun hc4 => ?_)
          · replace h := ifT h (dT hc4)
            refine good_exit ?_
            exact hw2 (x1, x2, x3) (Option.some.inj h).symm _ (le_w [some 41] rfl ⟨⟨_, rfl, .refl _⟩, ⟨⟨_, rfl, .refl _⟩, ⟨⟨_, rfl, .refl _⟩, ⟨⟨_, rfl, .refl _⟩, trivial⟩⟩⟩⟩ ⟨⟨_, rfl, .refl _⟩, trivial⟩ (by decide))
          · replace h := ifF h (dF hc4)
            refine good_skip ?_
            refine hK18 _ ?_
            refine Good.le (σ' := ⟨66, [(0, _), (1, _), (2, _), (3, _), (8, _), (9, _), (10, _), (11, _)], [(41, (_, _))]⟩) (le_w [some 41] rfl ⟨⟨_, rfl, .refl _⟩, ⟨⟨_, rfl, .refl _⟩, ⟨⟨_, rfl, .refl _⟩, ⟨⟨_, rfl, .refl _⟩, ⟨⟨_, rfl, .refl _⟩, ⟨⟨_, rfl, .refl _⟩, ⟨⟨_, rfl, .refl _⟩, ⟨⟨_, rfl, .refl _⟩, trivial⟩⟩⟩⟩⟩⟩⟩⟩ ⟨⟨_, rfl, .refl _⟩, trivial⟩ (by decide)) ?_
            refine good_seq fun K20 hK20 => ?_
            refine good_region ?_
            refine g_op rfl (ValOk.op (v_move rfl rfl ?_)) 
            refine g_op rfl (ValOk.op (v_move rfl rfl ?_)) 
            refine g_op rfl (ValOk.op (v_move rfl rfl ?_)) 
            refine g_op rfl (ValOk.op (v_move rfl rfl ?_)) 
            refine g_op rfl (ValOk.op (v_move rfl rfl ?_)) 
            refine g_op rfl (ValOk.op (v_bin rfl rfl rfl rfl ?_)) 
            obtain ⟨hb5, h⟩ := ifS h
            refine g_op rfl (ValOk.op (v_sliceSM tabOk rfl rfl rfl rfl tkind9 hb5 rfl ?_)) 
            obtain ⟨hb6, h⟩ := ifS h
            refine g_op rfl (ValOk.op (v_idxHM (q := 41) tabOk ⟨_, rfl⟩ rfl rfl telem24 tsize9 hb6 rfl ?_)) 
            refine g_op rfl (o_storeRM tabOk (z := sub x1 0 (IntKind.wrap .i64 (y1 + a2))) rfl rfl tsize9 rfl hb6 rfl rfl rfl (by decide) rfl rfl rfl rfl ?_)
            refine g_nil ?_
            refine hK20 _ ?_
            refine Good.le (σ' := ⟨66, [(0, _), (1, _), (2, _), (3, _), (8, _), (9, _), (10, _), (11, _)], [(41, (_, _))]⟩) (le_w [some 41] rfl ⟨⟨_, rfl, .refl _⟩, ⟨⟨_, rfl, .refl _⟩, ⟨⟨_, rfl, .refl _⟩, ⟨⟨_, rfl, .refl _⟩, ⟨⟨_, rfl, .refl _⟩, ⟨⟨_, rfl, .refl _⟩, ⟨⟨_, rfl, .refl _⟩, ⟨⟨_, rfl, .refl _⟩, trivial⟩⟩⟩⟩⟩⟩⟩⟩ ⟨⟨_, rfl, .refl _⟩, trivial⟩ (by decide)) ?_
            refine good_seq fun K21 hK21 => ?_
            refine good_region ?_
            refine g_op rfl (ValOk.op (v_move rfl rfl ?_)) 
            refine g_op rfl (ValOk.op (v_move rfl rfl ?_)) 
            refine g_op rfl (ValOk.op (v_move rfl rfl ?_)) 
            refine g_op rfl (ValOk.op (v_lenS tabOk rfl rfl tkind9 rfl ?_)) 
            refine g_op rfl (ValOk.op (v_bin rfl rfl rfl rfl ?_)) 
            obtain ⟨hb7, h⟩ := ifS h
            refine g_op rfl (ValOk.op (v_sliceSM tabOk rfl rfl rfl rfl tkind9 hb7 rfl ?_)) 
            refine g_op rfl (ValOk.op (v_assign rfl rfl ?_)) 
            refine g_nil ?_
            refine hK21 _ ?_
            refine Good.le (σ' := ⟨66, [(0, _), (1, _), (2, _), (3, _), (8, _), (9, _), (10, _)], [(41, (_, _))]⟩) (le_w [some 41] rfl ⟨⟨_, rfl, .refl _⟩, ⟨⟨_, rfl, .refl _⟩, ⟨⟨_, rfl, .refl _⟩, ⟨⟨_, rfl, .refl _⟩, ⟨⟨_, rfl, .refl _⟩, ⟨⟨_, rfl, .refl _⟩, ⟨⟨_, rfl, .refl _⟩, trivial⟩⟩⟩⟩⟩⟩⟩ ⟨⟨_, rfl, .refl _⟩, trivial⟩ (by decide)) ?_
            refine good_region ?_
            refine g_op rfl (ValOk.op (v_move rfl rfl ?_)) 
            refine g_op rfl (ValOk.op (v_bin rfl rfl rfl rfl ?_)) 
            refine g_op rfl (ValOk.op (v_assign rfl rfl ?_)) 
            refine g_nil ?_
            exact round_mk m1 (sub x1 (IntKind.wrap .i64 (y1 + (a1.length : Int))) (x1.length : Int), x2.set (Int.toNat x3) (sub x1 0 (IntKind.wrap .i64 (y1 + a2))), IntKind.wrap .i64 (x3 + 1)) (Nat.lt_succ_self _) h (le_w [some 41] rfl ⟨⟨_, rfl, .refl _⟩, ⟨⟨_, rfl, .refl _⟩, ⟨⟨_, rfl, .refl _⟩, ⟨⟨_, rfl, .refl _⟩, ⟨⟨_, rfl, .refl _⟩, ⟨⟨_, rfl, .refl _⟩, ⟨⟨_, rfl, .refl _⟩, trivial⟩⟩⟩⟩⟩⟩⟩ ⟨⟨_, rfl, .refl _⟩, trivial⟩ (by decide))
        · replace h := ifF h (dF hc3)
          refine good_exit ?_
          exact hw2 (x1, x2, x3) (Option.some.inj h).symm _ (le_w [some 41] rfl ⟨⟨_, rfl, .refl _⟩, ⟨⟨_, rfl, .refl _⟩, ⟨⟨_, rfl, .refl _⟩, ⟨⟨_, rfl, .refl _⟩, trivial⟩⟩⟩⟩ ⟨⟨_, rfl, .refl _⟩, trivial⟩ (by decide))
      replace h := ho1
      refine good_seq fun K22 hK22 => ?_
      refine good_region ?_
      refine g_op rfl (ValOk.op (v_move rfl rfl ?_)) 
      refine g_op rfl (ValOk.op (v_bin rfl rfl rfl rfl ?_)) 
      refine g_nil ?_
      refine hK22 _ ?_
      refine Good.le (σ' := ⟨66, [(0, _), (1, _), (2, _), (3, _), (8, _), (20, _)], []⟩) (le_w [] rfl ⟨⟨_, rfl, .refl _⟩, ⟨⟨_, rfl, .refl _⟩, ⟨⟨_, rfl, .refl _⟩, ⟨⟨_, rfl, .refl _⟩, ⟨⟨_, rfl, .refl _⟩, ⟨⟨_, rfl, .refl _⟩, trivial⟩⟩⟩⟩⟩⟩ trivial (by decide)) ?_
      refine good_cond rfl (fun hc5 => ?_) (fun hc5 => ?_)
      · replace h := ifT h (dT hc5)
        refine good_region ?_
        refine g_op rfl (ValOk.op (v_move rfl rfl ?_)) 
        refine g_op rfl (ValOk.op (v_move rfl rfl ?_)) 
        obtain ⟨y2, hy2, h⟩ := bnd h
        refine g_op rfl (o_callR [] [] (core_value rfl rfl) (m_strings_Count_ok k a0 a1 _ hy2) trivial (.cons (.refl _) (.cons (.refl _) (.nil))) (.inl rfl) rfl ?_)
        refine g_op rfl (ValOk.op (v_bin rfl rfl rfl rfl ?_)) 
        refine g_op rfl (ValOk.op (v_assign rfl rfl ?_)) 
        refine g_nil ?_
        exact hw1 (IntKind.wrap .i64 (y2 + 1)) (Option.some.inj h).symm _ (le_w [] rfl ⟨⟨_, rfl, .refl _⟩, ⟨⟨_, rfl, .refl _⟩, ⟨⟨_, rfl, .refl _⟩, ⟨⟨_, rfl, .refl _⟩, ⟨⟨_, rfl, .refl _⟩, trivial⟩⟩⟩⟩⟩ trivial (by decide))
      · replace h := ifF h (dF hc5)
        refine good_skip ?_
        exact hw1 a3 (Option.some.inj h).symm _ (le_w [] rfl ⟨⟨_, rfl, .refl _⟩, ⟨⟨_, rfl, .refl _⟩, ⟨⟨_, rfl, .refl _⟩, ⟨⟨_, rfl, .refl _⟩, ⟨⟨_, rfl, .refl _⟩, trivial⟩⟩⟩⟩⟩ trivial (by decide))
theorem m_strings_genSplit_okF (k : Nat) : ∀ (a0 : Bs) (a1 : Bs) (a2 : Int) (a3 : Int) (r : (List Bs)), m_strings_genSplit k a0 a1 a2 a3 = some r → Does Tryd.prog 53 [.str a0, .str a1, .int .i64 a2, .int .i64 a3] [] (ret (.sl false (r.map encS))) := by
  intro a0 a1 a2 a3 r h
  refine does_frz (m_strings_genSplit_ok k a0 a1 a2 a3 r h) ?_
  rintro q h' ⟨u0, rfl, rfl⟩
  exact ⟨[100], [(_, _)], ⟨⟨_, rfl, .osl (FrzLL.map fun _ _ => encS_frz _)⟩, trivial⟩, .frz _ _ _ (.head _)⟩
def m_strings_Split (k : Nat) (a0 : Bs) (a1 : Bs) : Option (List Bs) :=
  (m_strings_genSplit k a0 a1 0 (-1)).bind fun y1 =>
  some y1
theorem m_strings_Split_ok (k : Nat) : ∀ (a0 : Bs) (a1 : Bs) (r : (List Bs)), m_strings_Split k a0 a1 = some r → Does Tryd.prog 28 [.str a0, .str a1] [] (fun q h' => ∃ u0 : Value, q = .hd 100 u0 ∧ h' = [(100, (u0, .osl 9 1 (r.map encS)))]) := by
  intro a0 a1 r h
  rw [m_strings_Split] at h
  refine does_of_good tabOk Tryd.func28 rfl (by decide +kernel) (Nat.le_of_ble_eq_true rfl) fun c => ?_
  refine Good.le (σ' := ⟨8, [(0, .str a0), (1, .str a1)], []⟩) (Le.refl _) ?_
  refine good_seq fun K1 hK1 => ?_
  refine good_region ?_
  refine g_op rfl (ValOk.op (v_assign rfl rfl ?_)) 
  refine g_nil ?_
  refine hK1 _ ?_
  refine good_seq fun K2 hK2 => ?_
  refine good_region ?_
  refine g_op rfl (ValOk.op (v_move rfl rfl ?_)) 
  refine g_op rfl (ValOk.op (v_move rfl rfl ?_)) 
  obtain ⟨y1, hy1, h⟩ := bnd h
  refine g_op rfl (o_callD [] [] [] (core_value rfl rfl) (m_strings_genSplit_ok k a0 a1 0 (-1) _ hy1) trivial (.cons (.refl _) (.cons (.refl _) (.cons (.refl _) (.cons (.refl _) (.nil))))) trivial rfl rfl rfl ?_)
  rintro _ _ ⟨w1, rfl, rfl⟩
  refine ⟨.hd 3001 w1, [(3001, _)], .hd _ _ _, rfl, rfl, rfl, rfl, .inl rfl, ?_⟩
  refine g_op rfl (ValOk.op (v_assign rfl rfl ?_)) 
  refine g_nil ?_
  refine hK2 _ ?_
  refine Good.le (σ' := ⟨8, [(4, _)], [(3001, (_, _))]⟩) (le_w [some 3001] rfl ⟨⟨_, rfl, .refl _⟩, trivial⟩ ⟨⟨_, rfl, .refl _⟩, trivial⟩ (by decide)) ?_
  refine Good.le (σ' := ⟨8, [(4, .hd 100 w1)], [(100, (w1, .osl 9 1 (y1.map encS)))]⟩) (le_w [some 3001] rfl ⟨⟨_, rfl, .hd _ _ _⟩, trivial⟩ ⟨⟨_, rfl, .refl _⟩, trivial⟩ (by decide)) ?_
  refine good_ret ?_
  obtain rfl := Option.some.inj h
  exact endQ_ret (h' := [(100, (_, _))]) [some 100] (.tmp rfl (.nil)) ⟨⟨_, rfl, .refl _⟩, trivial⟩ (by decide) ⟨w1, rfl, rfl⟩
theorem m_strings_Split_okF (k : Nat) : ∀ (a0 : Bs) (a1 : Bs) (r : (List Bs)), m_strings_Split k a0 a1 = some r → Does Tryd.prog 28 [.str a0, .str a1] [] (ret (.sl false (r.map encS))) := by
  intro a0 a1 r h
  refine does_frz (m_strings_Split_ok k a0 a1 r h) ?_
  rintro q h' ⟨u0, rfl, rfl⟩
  exact ⟨[100], [(_, _)], ⟨⟨_, rfl, .osl (FrzLL.map fun _ _ => encS_frz _)⟩, trivial⟩, .frz _ _ _ (.head _)⟩
end Go.Proofs.YtopbbjoflopjbaaDoor
