/- What functions of this program answer, as plain functions; each theorem says that the code comes to just that. -/
import Derived.Test.YtopbbjoflopjbaaDat
import Derived.Test.YtopbbjoflopjbaaB13
import Derived.Test.YtopbbjoflopjbaaGv
import Derived.Test.YtopbbjoflopjbaaB18
/-! Functions of the program. -/
set_option linter.unusedVariables false
set_option maxRecDepth 100000
set_option maxHeartbeats 1000000
namespace Go.Proofs.Ytopbbjoflopjbaa
open Go.Bb
def m_spec_PointerText_l2 : Nat → (List Bs) → Int → Bs → Int → Option (Lp Bs (Lp Bs Bs))
  | 0, _, _, _, _ => none
  | k + 1, a0, x2, x3, x4 =>
    if (0 : Int) ≤ x2 ∧ x2 < (a0.length : Int) then
      if x4 < ((ix a0 x2).length : Int) then
        if (0 : Int) ≤ x2 ∧ x2 < (a0.length : Int) then
          if (0 : Int) ≤ x4 ∧ x4 < ((ix a0 x2).length : Int) then
            if (byt (ix a0 x2) x4) = 126 then
              if (x3 ++ [126, 48]).length ≤ maxLen then
                m_spec_PointerText_l2 k a0 x2 (x3 ++ [126, 48]) (IntKind.wrap .i64 (x4 + 1))
              else none
            else
              if (byt (ix a0 x2) x4) = 47 then
                if (x3 ++ [126, 49]).length ≤ maxLen then
                  m_spec_PointerText_l2 k a0 x2 (x3 ++ [126, 49]) (IntKind.wrap .i64 (x4 + 1))
                else none
              else
                if (0 : Int) ≤ x2 ∧ x2 < (a0.length : Int) then
                  if (0 : Int) ≤ x4 ∧ x4 ≤ (IntKind.wrap .i64 (x4 + 1)) ∧ (IntKind.wrap .i64 (x4 + 1)) ≤ ((ix a0 x2).length : Int) then
                    if (x3 ++ (sub (ix a0 x2) x4 (IntKind.wrap .i64 (x4 + 1)))).length ≤ maxLen then
                      m_spec_PointerText_l2 k a0 x2 (x3 ++ (sub (ix a0 x2) x4 (IntKind.wrap .i64 (x4 + 1)))) (IntKind.wrap .i64 (x4 + 1))
                    else none
                  else none
                else none
          else none
        else none
      else
        some (Lp.go x3)
    else none
def m_spec_PointerText_l1 : Nat → (List Bs) → Bs → Int → Option (Lp Bs Bs)
  | 0, _, _, _ => none
  | k + 1, a0, x1, x2 =>
    if x2 < (a0.length : Int) then
      if (x1 ++ [47]).length ≤ maxLen then
        (m_spec_PointerText_l2 k a0 x2 (x1 ++ [47]) 0).bind fun o2 =>
        o2.then fun s2 =>
    m_spec_PointerText_l1 k a0 s2 (IntKind.wrap .i64 (x2 + 1))
      else none
    else
      some (Lp.go x1)
def m_spec_PointerText (k : Nat) (a0 : (List Bs)) : Option Bs :=
  (m_spec_PointerText_l1 k a0 [] 0).bind fun o1 =>
  o1.then fun s1 =>
    some s1
theorem m_spec_PointerText_ok (k : Nat) : ∀ (a0 : (List Bs)) (r : Bs), m_spec_PointerText k a0 = some r → Does Try.prog 23 [.sl (a0.map encS)] [] (ret (.str r)) := by
  intro a0 r h
  rw [m_spec_PointerText] at h
  refine does_of_good tabOk Try.func23 rfl (by decide +kernel) (Nat.le_of_ble_eq_true rfl) fun c => ?_
  refine Good.le (σ' := ⟨48, [(0, .sl (a0.map encS))], []⟩) (Le.refl _) ?_
  refine good_seq fun K1 hK1 => ?_
  refine good_region ?_
  refine g_op rfl (ValOk.op (v_assign rfl rfl ?_)) 
  refine g_nil ?_
  refine hK1 _ ?_
  refine good_seq fun K2 hK2 => ?_
  refine good_region ?_
  refine g_op rfl (ValOk.op (v_assign rfl rfl ?_)) 
  refine g_nil ?_
  refine hK2 _ ?_
  refine good_seq fun K3 hK3 => ?_
  refine good_seq fun K4 hK4 => ?_
  refine good_region ?_
  refine g_op rfl (ValOk.op (v_assign rfl rfl ?_)) 
  refine g_nil ?_
  refine hK4 _ ?_
  obtain ⟨o1, ho1, hJ1⟩ := bnd h
  have hw1 : ∀ (s1 : Bs), o1 = Lp.go s1 → ∀ σ', Le σ' ⟨48, [(2, .str []), (3, .str s1)], []⟩ → K3 σ' := by
    intro s1 e1 σ' hle1
    subst e1
    refine hK3 _ (Good.le hle1 ?_)
    replace h := hJ1
    refine good_seq fun K5 hK5 => ?_
    refine good_region ?_
    refine g_op rfl (ValOk.op (v_move rfl rfl ?_)) 
    refine g_op rfl (ValOk.op (v_assign rfl rfl ?_)) 
    refine g_nil ?_
    refine hK5 _ ?_
    refine Good.le (σ' := ⟨48, [(2, _)], []⟩) (le_w [] rfl ⟨⟨_, rfl, .refl _⟩, trivial⟩ trivial (by decide)) ?_
    refine Good.le (σ' := ⟨48, [(2, .str s1)], []⟩) (le_w [] rfl ⟨⟨_, rfl, .refl _⟩, trivial⟩ trivial (by decide)) ?_
    refine good_ret ?_
    obtain rfl := Option.some.inj h
    exact endQ_ret (h' := []) [] (.tmp rfl (.nil)) trivial (by decide) ⟨rfl, rfl⟩
  replace h := ho1
  refine good_block ?_
  refine good_loopf (fun p : (Bs × Int) => ⟨48, [(0, .sl (a0.map encS)), (2, .str []), (3, .str p.1), (4, .int .i64 p.2)], []⟩) (fun m p => m_spec_PointerText_l1 m a0 p.1 p.2 = some o1) k ([], 0) (le_w [] rfl ⟨⟨_, rfl, .refl _⟩, ⟨⟨_, rfl, .refl _⟩, ⟨⟨_, rfl, .refl _⟩, ⟨⟨_, rfl, .refl _⟩, trivial⟩⟩⟩⟩ trivial (by decide)) h ?_
  rintro m1 ⟨x1, x2⟩ h
  replace h : m_spec_PointerText_l1 m1 a0 x1 x2 = some o1 := h
  refine Good.le (σ' := ⟨48, [(0, .sl (a0.map encS)), (2, .str []), (3, .str x1), (4, .int .i64 x2)], []⟩) (Le.refl _) ?_
  obtain ⟨m1, rfl⟩ : ∃ m', m1 = m' + 1 := by cases m1 with | zero => (rw [m_spec_PointerText_l1] at h; cases h) | succ m' => exact ⟨m', rfl⟩
  rw [m_spec_PointerText_l1] at h
  refine good_seq fun K6 hK6 => ?_
  refine good_seq fun K7 hK7 => ?_
  refine good_region ?_
  refine g_op rfl (ValOk.op (v_move rfl rfl ?_)) 
  refine g_op rfl (ValOk.op (v_move rfl rfl ?_)) 
  refine g_op rfl (ValOk.op (v_lenM (l := a0) (f := encS) tabOk rfl rfl telem23 rfl ?_)) 
  refine g_op rfl (ValOk.op (v_bin rfl rfl rfl rfl ?_)) 
  refine g_nil ?_
  refine hK7 _ ?_
  refine Good.le (σ' := ⟨48, [(0, _), (2, _), (3, _), (4, _), (9, _)], []⟩) (le_w [] rfl ⟨⟨_, rfl, .refl _⟩, ⟨⟨_, rfl, .refl _⟩, ⟨⟨_, rfl, .refl _⟩, ⟨⟨_, rfl, .refl _⟩, ⟨⟨_, rfl, .refl _⟩, trivial⟩⟩⟩⟩⟩ trivial (by decide)) ?_
  refine good_cond rfl (fun hc1 => ?_) (fun hc1 => ?_)
  · replace h := ifT h (dT hc1)
    refine good_skip ?_
    refine hK6 _ ?_
    refine Good.le (σ' := ⟨48, [(0, _), (2, _), (3, _), (4, _)], []⟩) (le_w [] rfl ⟨⟨_, rfl, .refl _⟩, ⟨⟨_, rfl, .refl _⟩, ⟨⟨_, rfl, .refl _⟩, ⟨⟨_, rfl, .refl _⟩, trivial⟩⟩⟩⟩ trivial (by decide)) ?_
    refine good_seq fun K8 hK8 => ?_
    refine good_block ?_
    refine good_seq fun K9 hK9 => ?_
    refine good_region ?_
    refine g_op rfl (ValOk.op (v_move rfl rfl ?_)) 
    obtain ⟨hb1, h⟩ := ifS h
    refine g_op rfl (ValOk.op (v_cat rfl rfl hb1 rfl ?_)) 
    refine g_op rfl (ValOk.op (v_assign rfl rfl ?_)) 
    refine g_nil ?_
    refine hK9 _ ?_
    refine Good.le (σ' := ⟨48, [(0, _), (2, _), (3, _), (4, _)], []⟩) (le_w [] rfl ⟨⟨_, rfl, .refl _⟩, ⟨⟨_, rfl, .refl _⟩, ⟨⟨_, rfl, .refl _⟩, ⟨⟨_, rfl, .refl _⟩, trivial⟩⟩⟩⟩ trivial (by decide)) ?_
    refine good_seq fun K10 hK10 => ?_
    refine good_region ?_
    refine g_op rfl (ValOk.op (v_assign rfl rfl ?_)) 
    refine g_nil ?_
    refine hK10 _ ?_
    obtain ⟨o2, ho2, hJ2⟩ := bnd h
    have hw2 : ∀ (s2 : Bs), o2 = Lp.go s2 → ∀ σ', Le σ' ⟨48, [(0, .sl (a0.map encS)), (2, .str []), (3, .str s2), (4, .int .i64 x2)], []⟩ → K8 σ' := by
      intro s2 e2 σ' hle2
      subst e2
      refine hK8 _ (Good.le hle2 ?_)
      replace h := hJ2
      refine good_region ?_
      refine g_op rfl (ValOk.op (v_move rfl rfl ?_)) 
      refine g_op rfl (ValOk.op (v_bin rfl rfl rfl rfl ?_)) 
      refine g_op rfl (ValOk.op (v_assign rfl rfl ?_)) 
      refine g_nil ?_
      exact round_mk m1 (s2, IntKind.wrap .i64 (x2 + 1)) (Nat.lt_succ_self _) h (le_w [] rfl ⟨⟨_, rfl, .refl _⟩, ⟨⟨_, rfl, .refl _⟩, ⟨⟨_, rfl, .refl _⟩, ⟨⟨_, rfl, .refl _⟩, trivial⟩⟩⟩⟩ trivial (by decide))
    replace h := ho2
    refine good_block ?_
    refine good_loopf (fun p : (Bs × Int) => ⟨48, [(0, .sl (a0.map encS)), (2, .str []), (3, .str p.1), (4, .int .i64 x2), (5, .int .i64 p.2)], []⟩) (fun m p => m_spec_PointerText_l2 m a0 x2 p.1 p.2 = some o2) m1 (x1 ++ [47], 0) (le_w [] rfl ⟨⟨_, rfl, .refl _⟩, ⟨⟨_, rfl, .refl _⟩, ⟨⟨_, rfl, .refl _⟩, ⟨⟨_, rfl, .refl _⟩, ⟨⟨_, rfl, .refl _⟩, trivial⟩⟩⟩⟩⟩ trivial (by decide)) h ?_
    rintro m2 ⟨x3, x4⟩ h
    replace h : m_spec_PointerText_l2 m2 a0 x2 x3 x4 = some o2 := h
    refine Good.le (σ' := ⟨48, [(0, .sl (a0.map encS)), (2, .str []), (3, .str x3), (4, .int .i64 x2), (5, .int .i64 x4)], []⟩) (Le.refl _) ?_
    obtain ⟨m2, rfl⟩ : ∃ m', m2 = m' + 1 := by cases m2 with | zero => (rw [m_spec_PointerText_l2] at h; cases h) | succ m' => exact ⟨m', rfl⟩
    rw [m_spec_PointerText_l2] at h
    refine good_seq fun K11 hK11 => ?_
    refine good_seq fun K12 hK12 => ?_
    refine good_region ?_
    refine g_op rfl (ValOk.op (v_move rfl rfl ?_)) 
    refine g_op rfl (ValOk.op (v_move rfl rfl ?_)) 
    refine g_op rfl (ValOk.op (v_move rfl rfl ?_)) 
    obtain ⟨hb2, h⟩ := ifS h
    refine g_op rfl (ValOk.op (v_idxM tabOk rfl rfl telem23 tsize9 hb2 rfl rfl rfl ?_)) 
    refine g_op rfl (ValOk.op (v_loadE tabOk rfl tsize9 tagg9 rfl rfl rfl ?_)) 
    refine g_op rfl (ValOk.op (v_lenS tabOk rfl rfl tkind9 rfl ?_)) 
    refine g_op rfl (ValOk.op (v_bin rfl rfl rfl rfl ?_)) 
    refine g_nil ?_
    refine hK12 _ ?_
    refine Good.le (σ' := ⟨48, [(0, _), (2, _), (3, _), (4, _), (5, _), (20, _)], []⟩) (le_w [] rfl ⟨⟨_, rfl, .refl _⟩, ⟨⟨_, rfl, .refl _⟩, ⟨⟨_, rfl, .refl _⟩, ⟨⟨_, rfl, .refl _⟩, ⟨⟨_, rfl, .refl _⟩, ⟨⟨_, rfl, .refl _⟩, trivial⟩⟩⟩⟩⟩⟩ trivial (by decide)) ?_
    refine good_cond rfl (fun hc2 => ?_) (fun hc2 => ?_)
    · replace h := ifT h (dT hc2)
      refine good_skip ?_
      refine hK11 _ ?_
      refine Good.le (σ' := ⟨48, [(0, _), (2, _), (3, _), (4, _), (5, _)], []⟩) (le_w [] rfl ⟨⟨_, rfl, .refl _⟩, ⟨⟨_, rfl, .refl _⟩, ⟨⟨_, rfl, .refl _⟩, ⟨⟨_, rfl, .refl _⟩, ⟨⟨_, rfl, .refl _⟩, trivial⟩⟩⟩⟩⟩ trivial (by decide)) ?_
      refine good_seq fun K13 hK13 => ?_
      refine good_block ?_
      refine good_seq fun K14 hK14 => ?_
      refine good_region ?_
      refine g_op rfl (ValOk.op (v_move rfl rfl ?_)) 
      refine g_op rfl (ValOk.op (v_move rfl rfl ?_)) 
      obtain ⟨hb3, h⟩ := ifS h
      refine g_op rfl (ValOk.op (v_idxM tabOk rfl rfl telem23 tsize9 hb3 rfl rfl rfl ?_)) 
      refine g_op rfl (ValOk.op (v_loadE tabOk rfl tsize9 tagg9 rfl rfl rfl ?_)) 
      refine g_op rfl (ValOk.op (v_move rfl rfl ?_)) 
      obtain ⟨hb4, h⟩ := ifS h
      refine g_op rfl (ValOk.op (v_indexM tabOk rfl rfl tkind9 hb4 rfl ?_)) 
      refine g_nil ?_
      refine hK14 _ ?_
      refine Good.le (σ' := ⟨48, [(0, _), (2, _), (3, _), (4, _), (5, _), (28, _)], []⟩) (le_w [] rfl ⟨⟨_, rfl, .refl _⟩, ⟨⟨_, rfl, .refl _⟩, ⟨⟨_, rfl, .refl _⟩, ⟨⟨_, rfl, .refl _⟩, ⟨⟨_, rfl, .refl _⟩, ⟨⟨_, rfl, .refl _⟩, trivial⟩⟩⟩⟩⟩⟩ trivial (by decide)) ?_
      refine good_block ?_
      refine good_seq fun K15 hK15 => ?_
      refine good_region ?_
      refine g_op rfl (ValOk.op (v_bin rfl rfl rfl rfl ?_)) 
      refine g_op rfl (ValOk.op (v_assign rfl rfl ?_)) 
      refine g_nil ?_
      refine hK15 _ ?_
      refine Good.le (σ' := ⟨48, [(0, _), (2, _), (3, _), (4, _), (5, _), (28, _), (39, _)], []⟩) (le_w [] rfl ⟨⟨_, rfl, .refl _⟩, ⟨⟨_, rfl, .refl _⟩, ⟨⟨_, rfl, .refl _⟩, ⟨⟨_, rfl, .refl _⟩, ⟨⟨_, rfl, .refl _⟩, ⟨⟨_, rfl, .refl _⟩, ⟨⟨_, rfl, .refl _⟩, trivial⟩⟩⟩⟩⟩⟩⟩ trivial (by decide)) ?_
      refine good_cond rfl (fun hc3 => ?_) (fun hc3 => ?_)
      · replace h := ifT h (dT hc3)
        refine good_region ?_
        refine g_op rfl (ValOk.op (v_move rfl rfl ?_)) 
        obtain ⟨hb5, h⟩ := ifS h
        refine g_op rfl (ValOk.op (v_cat rfl rfl hb5 rfl ?_)) 
        refine g_op rfl (ValOk.op (v_assign rfl rfl ?_)) 
        refine g_nil ?_
        refine hK13 _ ?_
        refine Good.le (σ' := ⟨48, [(0, _), (2, _), (3, _), (4, _), (5, _)], []⟩) (le_w [] rfl ⟨⟨_, rfl, .refl _⟩, ⟨⟨_, rfl, .refl _⟩, ⟨⟨_, rfl, .refl _⟩, ⟨⟨_, rfl, .refl _⟩, ⟨⟨_, rfl, .refl _⟩, trivial⟩⟩⟩⟩⟩ trivial (by decide)) ?_
        refine good_region ?_
        refine g_op rfl (ValOk.op (v_move rfl rfl ?_)) 
        refine g_op rfl (ValOk.op (v_bin rfl rfl rfl rfl ?_)) 
        refine g_op rfl (ValOk.op (v_assign rfl rfl ?_)) 
        refine g_nil ?_
        exact round_mk m2 (x3 ++ [126, 48], IntKind.wrap .i64 (x4 + 1)) (Nat.lt_succ_self _) h (le_w [] rfl ⟨⟨_, rfl, .refl _⟩, ⟨⟨_, rfl, .refl _⟩, ⟨⟨_, rfl, .refl _⟩, ⟨⟨_, rfl, .refl _⟩, ⟨⟨_, rfl, .refl _⟩, trivial⟩⟩⟩⟩⟩ trivial (by decide))
      · replace h := ifF h (dF hc3)
        refine good_seq fun K16 hK16 => ?_
        refine good_region ?_
        refine g_op rfl (ValOk.op (v_bin rfl rfl rfl rfl ?_)) 
        refine g_op rfl (ValOk.op (v_assign rfl rfl ?_)) 
        refine g_nil ?_
        refine hK16 _ ?_
        refine Good.le (σ' := ⟨48, [(0, _), (2, _), (3, _), (4, _), (5, _), (43, _)], []⟩) (le_w [] rfl ⟨⟨_, rfl, .refl _⟩, ⟨⟨_, rfl, .refl _⟩, ⟨⟨_, rfl, .refl _⟩, ⟨⟨_, rfl, .refl _⟩, ⟨⟨_, rfl, .refl _⟩, ⟨⟨_, rfl, .refl _⟩, trivial⟩⟩⟩⟩⟩⟩ trivial (by decide)) ?_
        refine good_cond rfl (fun hc4 => ?_) (fun hc4 => ?_)
        · replace h := ifT h (dT hc4)
          refine good_region ?_
          refine g_op rfl (ValOk.op (v_move rfl rfl ?_)) 
          obtain ⟨hb6, h⟩ := ifS h
          refine g_op rfl (ValOk.op (v_cat rfl rfl hb6 rfl ?_)) 
          refine g_op rfl (ValOk.op (v_assign rfl rfl ?_)) 
          refine g_nil ?_
          refine hK13 _ ?_
          refine Good.le (σ' := ⟨48, [(0, _), (2, _), (3, _), (4, _), (5, _)], []⟩) (le_w [] rfl ⟨⟨_, rfl, .refl _⟩, ⟨⟨_, rfl, .refl _⟩, ⟨⟨_, rfl, .refl _⟩, ⟨⟨_, rfl, .refl _⟩, ⟨⟨_, rfl, .refl _⟩, trivial⟩⟩⟩⟩⟩ trivial (by decide)) ?_
          refine good_region ?_
          refine g_op rfl (ValOk.op (v_move rfl rfl ?_)) 
          refine g_op rfl (ValOk.op (v_bin rfl rfl rfl rfl ?_)) 
          refine g_op rfl (ValOk.op (v_assign rfl rfl ?_)) 
          refine g_nil ?_
          exact round_mk m2 (x3 ++ [126, 49], IntKind.wrap .i64 (x4 + 1)) (Nat.lt_succ_self _) h (le_w [] rfl ⟨⟨_, rfl, .refl _⟩, ⟨⟨_, rfl, .refl _⟩, ⟨⟨_, rfl, .refl _⟩, ⟨⟨_, rfl, .refl _⟩, ⟨⟨_, rfl, .refl _⟩, trivial⟩⟩⟩⟩⟩ trivial (by decide))
        · replace h := ifF h (dF hc4)
          refine good_region ?_
          refine g_op rfl (ValOk.op (v_move rfl rfl ?_)) 
          refine g_op rfl (ValOk.op (v_move rfl rfl ?_)) 
          refine g_op rfl (ValOk.op (v_move rfl rfl ?_)) 
          obtain ⟨hb7, h⟩ := ifS h
          refine g_op rfl (ValOk.op (v_idxM tabOk rfl rfl telem23 tsize9 hb7 rfl rfl rfl ?_)) 
          refine g_op rfl (ValOk.op (v_loadE tabOk rfl tsize9 tagg9 rfl rfl rfl ?_)) 
          refine g_op rfl (ValOk.op (v_move rfl rfl ?_)) 
          refine g_op rfl (ValOk.op (v_move rfl rfl ?_)) 
          refine g_op rfl (ValOk.op (v_bin rfl rfl rfl rfl ?_)) 
          obtain ⟨hb8, h⟩ := ifS h
          refine g_op rfl (ValOk.op (v_sliceSM tabOk rfl rfl rfl rfl tkind9 hb8 rfl ?_)) 
          obtain ⟨hb9, h⟩ := ifS h
          refine g_op rfl (ValOk.op (v_cat rfl rfl hb9 rfl ?_)) 
          refine g_op rfl (ValOk.op (v_assign rfl rfl ?_)) 
          refine g_nil ?_
          refine hK13 _ ?_
          refine Good.le (σ' := ⟨48, [(0, _), (2, _), (3, _), (4, _), (5, _)], []⟩) (le_w [] rfl ⟨⟨_, rfl, .refl _⟩, ⟨⟨_, rfl, .refl _⟩, ⟨⟨_, rfl, .refl _⟩, ⟨⟨_, rfl, .refl _⟩, ⟨⟨_, rfl, .refl _⟩, trivial⟩⟩⟩⟩⟩ trivial (by decide)) ?_
          refine good_region ?_
          refine g_op rfl (ValOk.op (v_move rfl rfl ?_)) 
          refine g_op rfl (ValOk.op (v_bin rfl rfl rfl rfl ?_)) 
          refine g_op rfl (ValOk.op (v_assign rfl rfl ?_)) 
          refine g_nil ?_
          exact round_mk m2 (x3 ++ (sub (ix a0 x2) x4 (IntKind.wrap .i64 (x4 + 1))), IntKind.wrap .i64 (x4 + 1)) (Nat.lt_succ_self _) h (le_w [] rfl ⟨⟨_, rfl, .refl _⟩, ⟨⟨_, rfl, .refl _⟩, ⟨⟨_, rfl, .refl _⟩, ⟨⟨_, rfl, .refl _⟩, ⟨⟨_, rfl, .refl _⟩, trivial⟩⟩⟩⟩⟩ trivial (by decide))
    · replace h := ifF h (dF hc2)
      refine good_exit ?_
      exact hw2 x3 (Option.some.inj h).symm _ (le_w [] rfl ⟨⟨_, rfl, .refl _⟩, ⟨⟨_, rfl, .refl _⟩, ⟨⟨_, rfl, .refl _⟩, ⟨⟨_, rfl, .refl _⟩, trivial⟩⟩⟩⟩ trivial (by decide))
  · replace h := ifF h (dF hc1)
    refine good_exit ?_
    exact hw1 x1 (Option.some.inj h).symm _ (le_w [] rfl ⟨⟨_, rfl, .refl _⟩, ⟨⟨_, rfl, .refl _⟩, trivial⟩⟩ trivial (by decide))
def m_impl_PointerText_l2 : Nat → (List Bs) → Int → (List Int) → Int → Option (Lp (List Int) (Lp (List Int) Bs))
  | 0, _, _, _, _ => none
  | k + 1, a0, x2, x3, x4 =>
    if x4 < ((ix a0 x2).length : Int) then
      if (0 : Int) ≤ x4 ∧ x4 < ((ix a0 x2).length : Int) then
        if (byt (ix a0 x2) x4) = 126 then
          if (x3 ++ toI [126, 48]).length * 1 ≤ 140737488355328 then
            m_impl_PointerText_l2 k a0 x2 (x3 ++ toI [126, 48]) (IntKind.wrap .i64 (x4 + 1))
          else none
        else
          if (byt (ix a0 x2) x4) = 47 then
            if (x3 ++ toI [126, 49]).length * 1 ≤ 140737488355328 then
              m_impl_PointerText_l2 k a0 x2 (x3 ++ toI [126, 49]) (IntKind.wrap .i64 (x4 + 1))
            else none
          else
            if (0 : Int) ≤ x4 ∧ x4 < ((ix a0 x2).length : Int) then
              if (x3 ++ [byt (ix a0 x2) x4]).length * 1 ≤ 140737488355328 then
                m_impl_PointerText_l2 k a0 x2 (x3 ++ [byt (ix a0 x2) x4]) (IntKind.wrap .i64 (x4 + 1))
              else none
            else none
      else none
    else
      some (Lp.go x3)
def m_impl_PointerText_l1 : Nat → (List Bs) → (List Int) → Int → Option (Lp (List Int) Bs)
  | 0, _, _, _ => none
  | k + 1, a0, x1, x2 =>
    if x2 < (a0.length : Int) then
      if (0 : Int) ≤ x2 ∧ x2 < (a0.length : Int) then
        if (x1 ++ [47]).length * 1 ≤ 140737488355328 then
          (m_impl_PointerText_l2 k a0 x2 (x1 ++ [47]) 0).bind fun o2 =>
          o2.then fun s2 =>
    m_impl_PointerText_l1 k a0 s2 (IntKind.wrap .i64 (x2 + 1))
        else none
      else none
    else
      some (Lp.go x1)
def m_impl_PointerText (k : Nat) (a0 : (List Bs)) : Option Bs :=
  (m_impl_PointerText_l1 k a0 ([] : List Int) 0).bind fun o1 =>
  o1.then fun s1 =>
    if inB s1 = true then
      some (ofI s1)
    else none
theorem m_impl_PointerText_ok (k : Nat) : ∀ (a0 : (List Bs)) (r : Bs), m_impl_PointerText k a0 = some r → Does Try.prog 25 [.sl (a0.map encS)] [] (ret (.str r)) := by
  intro a0 r h
  rw [m_impl_PointerText] at h
  refine does_of_good tabOk Try.func25 rfl (by decide +kernel) (Nat.le_of_ble_eq_true rfl) fun c => ?_
  refine Good.le (σ' := ⟨35, [(0, .sl (a0.map encS))], []⟩) (Le.refl _) ?_
  refine good_seq fun K1 hK1 => ?_
  refine good_region ?_
  refine g_op rfl (ValOk.op (v_assign rfl rfl ?_)) 
  refine g_nil ?_
  refine hK1 _ ?_
  refine good_seq fun K2 hK2 => ?_
  refine good_region ?_
  refine g_op rfl (o_alloc (k := 13) tabOk tzero75 rfl rfl ?_)
  intro b1
  refine g_le (σ1 := ⟨35, [(0, .sl (a0.map encS)), (3, .ptr 13 b1 0)], [(13, ((.pointer (some ⟨b1, 0, none⟩)), .optr 75 [.adr b1, .hd 7001 nilV])), (7001, (nilV, .osl 5 1 (([] : List Int).map (encI .u8))))]⟩) (le_w [some 13, none] rfl ⟨⟨_, rfl, .refl _⟩, ⟨⟨_, rfl, .refl _⟩, trivial⟩⟩ ⟨⟨_, rfl, .optr (.cons (.adr0 _) (.cons (.nilhd _) (.nil)))⟩, ⟨⟨rfl, _, _, rfl⟩, trivial⟩⟩ (by decide)) ?_
  refine g_nil ?_
  refine hK2 _ ?_
  refine good_seq fun K3 hK3 => ?_
  refine good_seq fun K4 hK4 => ?_
  refine good_region ?_
  refine g_op rfl (ValOk.op (v_move rfl rfl ?_)) 
  refine g_op rfl (ValOk.op (v_lenM (l := a0) (f := encS) tabOk rfl rfl telem23 rfl ?_)) 
  refine g_op rfl (ValOk.op (v_move rfl rfl ?_)) 
  refine g_nil ?_
  refine hK4 _ ?_
  refine Good.le (σ' := ⟨35, [(3, _), (7, _), (8, _), (9, _)], [(13, (_, _)), (7001, (_, _))]⟩) (le_w [some 13, some 7001] rfl ⟨⟨_, rfl, .refl _⟩, ⟨⟨_, rfl, .refl _⟩, ⟨⟨_, rfl, .refl _⟩, ⟨⟨_, rfl, .refl _⟩, trivial⟩⟩⟩⟩ ⟨⟨_, rfl, .refl _⟩, ⟨⟨_, rfl, .refl _⟩, trivial⟩⟩ (by decide)) ?_
  obtain ⟨o1, ho1, hJ1⟩ := bnd h
  have hw1 : ∀ (s1 : (List Int)) (w2 : Value), o1 = Lp.go s1 → ∀ σ', Le σ' ⟨35, [(3, .ptr 13 b1 0)], [(13, ((.pointer (some ⟨b1, 0, none⟩)), .optr 75 [.adr b1, .hd 7001 w2])), (7001, (w2, .osl 5 1 (s1.map (encI .u8))))]⟩ → K3 σ' := by
    intro s1 w2 e1 σ' hle1
    subst e1
    refine hK3 _ (Good.le hle1 ?_)
    replace h := hJ1
    refine good_seq fun K5 hK5 => ?_
    refine good_region ?_
    obtain ⟨hb1, h⟩ := ifS h
    refine g_op rfl (o_callE (q := 13) (y := 7001) (core_value rfl rfl) (string_does b1 7001 _ _ hb1) (.cons (.ptr _ _ _ _) .nil) rfl rfl rfl rfl ?_)
    refine g_op rfl (ValOk.op (v_assign rfl rfl ?_)) 
    refine g_nil ?_
    refine hK5 _ ?_
    refine Good.le (σ' := ⟨35, [(2, _)], []⟩) (le_w [] rfl ⟨⟨_, rfl, .refl _⟩, trivial⟩ trivial (by decide)) ?_
    refine Good.le (σ' := ⟨35, [(2, .str (ofI s1))], []⟩) (le_w [] rfl ⟨⟨_, rfl, .refl _⟩, trivial⟩ trivial (by decide)) ?_
    refine good_ret ?_
    obtain rfl := Option.some.inj h
    exact endQ_ret (h' := []) [] (.tmp rfl (.nil)) trivial (by decide) ⟨rfl, rfl⟩
  replace h := ho1
  refine good_block ?_
  refine good_loopf (fun p : ((List Int) × Int × Value) => ⟨35, [(3, .ptr 13 b1 0), (7, .sl (a0.map encS)), (8, .int .i64 (a0.length : Int)), (9, .int .i64 p.2.1)], [(13, ((.pointer (some ⟨b1, 0, none⟩)), .optr 75 [.adr b1, .hd 7001 p.2.2])), (7001, (p.2.2, .osl 5 1 (p.1.map (encI .u8))))]⟩) (fun m p => m_impl_PointerText_l1 m a0 p.1 p.2.1 = some o1) k (([] : List Int), 0, nilV) (le_w [some 13, some 7001] rfl ⟨⟨_, rfl, .refl _⟩, ⟨⟨_, rfl, .refl _⟩, ⟨⟨_, rfl, .refl _⟩, ⟨⟨_, rfl, .refl _⟩, trivial⟩⟩⟩⟩ ⟨⟨_, rfl, .refl _⟩, ⟨⟨_, rfl, .refl _⟩, trivial⟩⟩ (by decide)) h ?_
  rintro m1 ⟨x1, x2, w1⟩ h
  replace h : m_impl_PointerText_l1 m1 a0 x1 x2 = some o1 := h
  refine Good.le (σ' := ⟨35, [(3, .ptr 13 b1 0), (7, .sl (a0.map encS)), (8, .int .i64 (a0.length : Int)), (9, .int .i64 x2)], [(13, ((.pointer (some ⟨b1, 0, none⟩)), .optr 75 [.adr b1, .hd 7001 w1])), (7001, (w1, .osl 5 1 (x1.map (encI .u8))))]⟩) (Le.refl _) ?_
  obtain ⟨m1, rfl⟩ : ∃ m', m1 = m' + 1 := by cases m1 with | zero => (rw [m_impl_PointerText_l1] at h; cases h) | succ m' => exact ⟨m', rfl⟩
  rw [m_impl_PointerText_l1] at h
  refine good_seq fun K6 hK6 => ?_
  refine good_region ?_
  refine g_op rfl (ValOk.op (v_bin rfl rfl rfl rfl ?_)) 
  refine g_nil ?_
  refine hK6 _ ?_
  refine good_seq fun K7 hK7 => ?_
  refine good_cond rfl (fun hc1 => ?_) (fun hc1 => ?_)
  · replace h := ifT h (dT hc1)
    refine good_skip ?_
    refine hK7 _ ?_
    refine Good.le (σ' := ⟨35, [(3, _), (7, _), (8, _), (9, _)], [(13, (_, _)), (7001, (_, _))]⟩) (le_w [some 13, some 7001] rfl ⟨⟨_, rfl, .refl _⟩, ⟨⟨_, rfl, .refl _⟩, ⟨⟨_, rfl, .refl _⟩, ⟨⟨_, rfl, .refl _⟩, trivial⟩⟩⟩⟩ ⟨⟨_, rfl, .refl _⟩, ⟨⟨_, rfl, .refl _⟩, trivial⟩⟩ (by decide)) ?_
    refine good_seq fun K8 hK8 => ?_
    refine good_block ?_
    refine good_seq fun K9 hK9 => ?_
    refine good_region ?_
    obtain ⟨hb2, h⟩ := ifS h
    refine g_op rfl (ValOk.op (v_idxM tabOk rfl rfl telem23 tsize9 hb2 rfl rfl rfl ?_)) 
    refine g_op rfl (ValOk.op (v_loadE tabOk rfl tsize9 tagg9 rfl rfl rfl ?_)) 
    refine g_op rfl (ValOk.op (v_assign rfl rfl ?_)) 
    refine g_nil ?_
    refine hK9 _ ?_
    refine Good.le (σ' := ⟨35, [(3, _), (5, _), (7, _), (8, _), (9, _)], [(13, (_, _)), (7001, (_, _))]⟩) (le_w [some 13, some 7001] rfl ⟨⟨_, rfl, .refl _⟩, ⟨⟨_, rfl, .refl _⟩, ⟨⟨_, rfl, .refl _⟩, ⟨⟨_, rfl, .refl _⟩, ⟨⟨_, rfl, .refl _⟩, trivial⟩⟩⟩⟩⟩ ⟨⟨_, rfl, .refl _⟩, ⟨⟨_, rfl, .refl _⟩, trivial⟩⟩ (by decide)) ?_
    refine good_seq fun K10 hK10 => ?_
    refine good_region ?_
    obtain ⟨hb3, h⟩ := ifS h
    refine g_op rfl (o_callB (q := 13) (y := 7001) (core_value rfl rfl) (writeByte_does b1 7001 _ _ 47 (by decide) hb3) (.cons (.ptr _ _ _ _) (.cons (.refl _) .nil)) rfl rfl rfl rfl ?_)
    intro w3
    refine g_nil ?_
    refine hK10 _ ?_
    refine Good.le (σ' := ⟨35, [(3, _), (5, _), (7, _), (8, _), (9, _)], [(13, (_, _)), (7001, (_, _))]⟩) (le_w [some 13, some 7001] rfl ⟨⟨_, rfl, .refl _⟩, ⟨⟨_, rfl, .refl _⟩, ⟨⟨_, rfl, .refl _⟩, ⟨⟨_, rfl, .refl _⟩, ⟨⟨_, rfl, .refl _⟩, trivial⟩⟩⟩⟩⟩ ⟨⟨_, rfl, .refl _⟩, ⟨⟨_, rfl, .refl _⟩, trivial⟩⟩ (by decide)) ?_
    refine good_seq fun K11 hK11 => ?_
    refine good_region ?_
    refine g_op rfl (ValOk.op (v_move rfl rfl ?_)) 
    refine g_op rfl (ValOk.op (v_lenS tabOk rfl rfl tkind9 rfl ?_)) 
    refine g_op rfl (ValOk.op (v_move rfl rfl ?_)) 
    refine g_nil ?_
    refine hK11 _ ?_
    refine Good.le (σ' := ⟨35, [(3, _), (5, _), (7, _), (8, _), (9, _), (15, _), (16, _)], [(13, (_, _)), (7001, (_, _))]⟩) (le_w [some 13, some 7001] rfl ⟨⟨_, rfl, .refl _⟩, ⟨⟨_, rfl, .refl _⟩, ⟨⟨_, rfl, .refl _⟩, ⟨⟨_, rfl, .refl _⟩, ⟨⟨_, rfl, .refl _⟩, ⟨⟨_, rfl, .refl _⟩, ⟨⟨_, rfl, .refl _⟩, trivial⟩⟩⟩⟩⟩⟩⟩ ⟨⟨_, rfl, .refl _⟩, ⟨⟨_, rfl, .refl _⟩, trivial⟩⟩ (by decide)) ?_
    obtain ⟨o2, ho2, hJ2⟩ := bnd h
    have hw2 : ∀ (s2 : (List Int)) (w5 : Value), o2 = Lp.go s2 → ∀ σ', Le σ' ⟨35, [(3, .ptr 13 b1 0), (7, .sl (a0.map encS)), (8, .int .i64 (a0.length : Int)), (9, .int .i64 x2)], [(13, ((.pointer (some ⟨b1, 0, none⟩)), .optr 75 [.adr b1, .hd 7001 w5])), (7001, (w5, .osl 5 1 (s2.map (encI .u8))))]⟩ → K8 σ' := by
      intro s2 w5 e2 σ' hle2
      subst e2
      refine hK8 _ (Good.le hle2 ?_)
      replace h := hJ2
      refine good_region ?_
      refine g_op rfl (ValOk.op (v_bin rfl rfl rfl rfl ?_)) 
      refine g_op rfl (ValOk.op (v_move rfl rfl ?_)) 
      refine g_nil ?_
      exact round_mk m1 (s2, IntKind.wrap .i64 (x2 + 1), w5) (Nat.lt_succ_self _) h (le_w [some 13, some 7001] rfl ⟨⟨_, rfl, .refl _⟩, ⟨⟨_, rfl, .refl _⟩, ⟨⟨_, rfl, .refl _⟩, ⟨⟨_, rfl, .refl _⟩, trivial⟩⟩⟩⟩ ⟨⟨_, rfl, .refl _⟩, ⟨⟨_, rfl, .refl _⟩, trivial⟩⟩ (by decide))
    replace h := ho2
    refine good_block ?_
    refine good_loopf (fun p : ((List Int) × Int × Value) => ⟨35, [(3, .ptr 13 b1 0), (5, .str (ix a0 x2)), (7, .sl (a0.map encS)), (8, .int .i64 (a0.length : Int)), (9, .int .i64 x2), (15, .int .i64 ((ix a0 x2).length : Int)), (16, .int .i64 p.2.1)], [(13, ((.pointer (some ⟨b1, 0, none⟩)), .optr 75 [.adr b1, .hd 7001 p.2.2])), (7001, (p.2.2, .osl 5 1 (p.1.map (encI .u8))))]⟩) (fun m p => m_impl_PointerText_l2 m a0 x2 p.1 p.2.1 = some o2) m1 (x1 ++ [47], 0, w3) (le_w [some 13, some 7001] rfl ⟨⟨_, rfl, .refl _⟩, ⟨⟨_, rfl, .refl _⟩, ⟨⟨_, rfl, .refl _⟩, ⟨⟨_, rfl, .refl _⟩, ⟨⟨_, rfl, .refl _⟩, ⟨⟨_, rfl, .refl _⟩, ⟨⟨_, rfl, .refl _⟩, trivial⟩⟩⟩⟩⟩⟩⟩ ⟨⟨_, rfl, .refl _⟩, ⟨⟨_, rfl, .refl _⟩, trivial⟩⟩ (by decide)) h ?_
    rintro m2 ⟨x3, x4, w4⟩ h
    replace h : m_impl_PointerText_l2 m2 a0 x2 x3 x4 = some o2 := h
    refine Good.le (σ' := ⟨35, [(3, .ptr 13 b1 0), (5, .str (ix a0 x2)), (7, .sl (a0.map encS)), (8, .int .i64 (a0.length : Int)), (9, .int .i64 x2), (15, .int .i64 ((ix a0 x2).length : Int)), (16, .int .i64 x4)], [(13, ((.pointer (some ⟨b1, 0, none⟩)), .optr 75 [.adr b1, .hd 7001 w4])), (7001, (w4, .osl 5 1 (x3.map (encI .u8))))]⟩) (Le.refl _) ?_
    obtain ⟨m2, rfl⟩ : ∃ m', m2 = m' + 1 := by cases m2 with | zero => (rw [m_impl_PointerText_l2] at h; cases h) | succ m' => exact ⟨m', rfl⟩
    rw [m_impl_PointerText_l2] at h
    refine good_seq fun K12 hK12 => ?_
    refine good_region ?_
    refine g_op rfl (ValOk.op (v_bin rfl rfl rfl rfl ?_)) 
    refine g_nil ?_
    refine hK12 _ ?_
    refine good_seq fun K13 hK13 => ?_
    refine good_cond rfl (fun hc2 => ?_) (fun hc2 => ?_)
    · replace h := ifT h (dT hc2)
      refine good_skip ?_
      refine hK13 _ ?_
      refine Good.le (σ' := ⟨35, [(3, _), (5, _), (7, _), (8, _), (9, _), (15, _), (16, _)], [(13, (_, _)), (7001, (_, _))]⟩) (le_w [some 13, some 7001] rfl ⟨⟨_, rfl, .refl _⟩, ⟨⟨_, rfl, .refl _⟩, ⟨⟨_, rfl, .refl _⟩, ⟨⟨_, rfl, .refl _⟩, ⟨⟨_, rfl, .refl _⟩, ⟨⟨_, rfl, .refl _⟩, ⟨⟨_, rfl, .refl _⟩, trivial⟩⟩⟩⟩⟩⟩⟩ ⟨⟨_, rfl, .refl _⟩, ⟨⟨_, rfl, .refl _⟩, trivial⟩⟩ (by decide)) ?_
      refine good_seq fun K14 hK14 => ?_
      refine good_block ?_
      refine good_seq fun K15 hK15 => ?_
      refine good_region ?_
      refine g_op rfl (ValOk.op (v_move rfl rfl ?_)) 
      refine g_op rfl (ValOk.op (v_assign rfl rfl ?_)) 
      refine g_nil ?_
      refine hK15 _ ?_
      refine Good.le (σ' := ⟨35, [(3, _), (5, _), (6, _), (7, _), (8, _), (9, _), (15, _), (16, _)], [(13, (_, _)), (7001, (_, _))]⟩) (le_w [some 13, some 7001] rfl ⟨⟨_, rfl, .refl _⟩, ⟨⟨_, rfl, .refl _⟩, ⟨⟨_, rfl, .refl _⟩, ⟨⟨_, rfl, .refl _⟩, ⟨⟨_, rfl, .refl _⟩, ⟨⟨_, rfl, .refl _⟩, ⟨⟨_, rfl, .refl _⟩, ⟨⟨_, rfl, .refl _⟩, trivial⟩⟩⟩⟩⟩⟩⟩⟩ ⟨⟨_, rfl, .refl _⟩, ⟨⟨_, rfl, .refl _⟩, trivial⟩⟩ (by decide)) ?_
      refine good_seq fun K16 hK16 => ?_
      refine good_region ?_
      refine g_op rfl (ValOk.op (v_move rfl rfl ?_)) 
      refine g_op rfl (ValOk.op (v_move rfl rfl ?_)) 
      obtain ⟨hb4, h⟩ := ifS h
      refine g_op rfl (ValOk.op (v_indexM tabOk rfl rfl tkind9 hb4 rfl ?_)) 
      refine g_nil ?_
      refine hK16 _ ?_
      refine Good.le (σ' := ⟨35, [(3, _), (5, _), (6, _), (7, _), (8, _), (9, _), (15, _), (16, _), (21, _)], [(13, (_, _)), (7001, (_, _))]⟩) (le_w [some 13, some 7001] rfl ⟨⟨_, rfl, .refl _⟩, ⟨⟨_, rfl, .refl _⟩, ⟨⟨_, rfl, .refl _⟩, ⟨⟨_, rfl, .refl _⟩, ⟨⟨_, rfl, .refl _⟩, ⟨⟨_, rfl, .refl _⟩, ⟨⟨_, rfl, .refl _⟩, ⟨⟨_, rfl, .refl _⟩, ⟨⟨_, rfl, .refl _⟩, trivial⟩⟩⟩⟩⟩⟩⟩⟩⟩ ⟨⟨_, rfl, .refl _⟩, ⟨⟨_, rfl, .refl _⟩, trivial⟩⟩ (by decide)) ?_
      refine good_block ?_
      refine good_seq fun K17 hK17 => ?_
      refine good_region ?_
      refine g_op rfl (ValOk.op (v_bin rfl rfl rfl rfl ?_)) 
      refine g_op rfl (ValOk.op (v_assign rfl rfl ?_)) 
      refine g_nil ?_
      refine hK17 _ ?_
      refine Good.le (σ' := ⟨35, [(3, _), (5, _), (6, _), (7, _), (8, _), (9, _), (15, _), (16, _), (21, _), (26, _)], [(13, (_, _)), (7001, (_, _))]⟩) (le_w [some 13, some 7001] rfl ⟨⟨_, rfl, .refl _⟩, ⟨⟨_, rfl, .refl _⟩, ⟨⟨_, rfl, .refl _⟩, ⟨⟨_, rfl, .refl _⟩, ⟨⟨_, rfl, .refl _⟩, ⟨⟨_, rfl, .refl _⟩, ⟨⟨_, rfl, .refl _⟩, ⟨⟨_, rfl, .refl _⟩, ⟨⟨_, rfl, .refl _⟩, ⟨⟨_, rfl, .refl _⟩, trivial⟩⟩⟩⟩⟩⟩⟩⟩⟩⟩ ⟨⟨_, rfl, .refl _⟩, ⟨⟨_, rfl, .refl _⟩, trivial⟩⟩ (by decide)) ?_
      refine good_cond rfl (fun hc3 => ?_) (fun hc3 => ?_)
      · replace h := ifT h (dT hc3)
        refine good_region ?_
        obtain ⟨hb5, h⟩ := ifS h
        refine g_op rfl (o_callB (q := 13) (y := 7001) (core_value rfl rfl) (writeString_does b1 7001 _ _ [126, 48] hb5) (.cons (.ptr _ _ _ _) (.cons (.refl _) .nil)) rfl rfl rfl rfl ?_)
        intro w6
        refine g_nil ?_
        refine hK14 _ ?_
        refine Good.le (σ' := ⟨35, [(3, _), (5, _), (7, _), (8, _), (9, _), (15, _), (16, _)], [(13, (_, _)), (7001, (_, _))]⟩) (le_w [some 13, some 7001] rfl ⟨⟨_, rfl, .refl _⟩, ⟨⟨_, rfl, .refl _⟩, ⟨⟨_, rfl, .refl _⟩, ⟨⟨_, rfl, .refl _⟩, ⟨⟨_, rfl, .refl _⟩, ⟨⟨_, rfl, .refl _⟩, ⟨⟨_, rfl, .refl _⟩, trivial⟩⟩⟩⟩⟩⟩⟩ ⟨⟨_, rfl, .refl _⟩, ⟨⟨_, rfl, .refl _⟩, trivial⟩⟩ (by decide)) ?_
        refine good_region ?_
        refine g_op rfl (ValOk.op (v_bin rfl rfl rfl rfl ?_)) 
        refine g_op rfl (ValOk.op (v_move rfl rfl ?_)) 
        refine g_nil ?_
        exact round_mk m2 (x3 ++ toI [126, 48], IntKind.wrap .i64 (x4 + 1), w6) (Nat.lt_succ_self _) h (le_w [some 13, some 7001] rfl ⟨⟨_, rfl, .refl _⟩, ⟨⟨_, rfl, .refl _⟩, ⟨⟨_, rfl, .refl _⟩, ⟨⟨_, rfl, .refl _⟩, ⟨⟨_, rfl, .refl _⟩, ⟨⟨_, rfl, .refl _⟩, ⟨⟨_, rfl, .refl _⟩, trivial⟩⟩⟩⟩⟩⟩⟩ ⟨⟨_, rfl, .refl _⟩, ⟨⟨_, rfl, .refl _⟩, trivial⟩⟩ (by decide))
      · replace h := ifF h (dF hc3)
        refine good_seq fun K18 hK18 => ?_
        refine good_region ?_
        refine g_op rfl (ValOk.op (v_bin rfl rfl rfl rfl ?_)) 
        refine g_op rfl (ValOk.op (v_assign rfl rfl ?_)) 
        refine g_nil ?_
        refine hK18 _ ?_
        refine Good.le (σ' := ⟨35, [(3, _), (5, _), (6, _), (7, _), (8, _), (9, _), (15, _), (16, _), (29, _)], [(13, (_, _)), (7001, (_, _))]⟩) (le_w [some 13, some 7001] rfl ⟨⟨_, rfl, .refl _⟩, ⟨⟨_, rfl, .refl _⟩, ⟨⟨_, rfl, .refl _⟩, ⟨⟨_, rfl, .refl _⟩, ⟨⟨_, rfl, .refl _⟩, ⟨⟨_, rfl, .refl _⟩, ⟨⟨_, rfl, .refl _⟩, ⟨⟨_, rfl, .refl _⟩, ⟨⟨_, rfl, .refl _⟩, trivial⟩⟩⟩⟩⟩⟩⟩⟩⟩ ⟨⟨_, rfl, .refl _⟩, ⟨⟨_, rfl, .refl _⟩, trivial⟩⟩ (by decide)) ?_
        refine good_cond rfl (fun hc4 => ?_) (fun hc4 => ?_)
        · replace h := ifT h (dT hc4)
          refine good_region ?_
          obtain ⟨hb6, h⟩ := ifS h
          refine g_op rfl (o_callB (q := 13) (y := 7001) (core_value rfl rfl) (writeString_does b1 7001 _ _ [126, 49] hb6) (.cons (.ptr _ _ _ _) (.cons (.refl _) .nil)) rfl rfl rfl rfl ?_)
          intro w7
          refine g_nil ?_
          refine hK14 _ ?_
          refine Good.le (σ' := ⟨35, [(3, _), (5, _), (7, _), (8, _), (9, _), (15, _), (16, _)], [(13, (_, _)), (7001, (_, _))]⟩) (le_w [some 13, some 7001] rfl ⟨⟨_, rfl, .refl _⟩, ⟨⟨_, rfl, .refl _⟩, ⟨⟨_, rfl, .refl _⟩, ⟨⟨_, rfl, .refl _⟩, ⟨⟨_, rfl, .refl _⟩, ⟨⟨_, rfl, .refl _⟩, ⟨⟨_, rfl, .refl _⟩, trivial⟩⟩⟩⟩⟩⟩⟩ ⟨⟨_, rfl, .refl _⟩, ⟨⟨_, rfl, .refl _⟩, trivial⟩⟩ (by decide)) ?_
          refine good_region ?_
          refine g_op rfl (ValOk.op (v_bin rfl rfl rfl rfl ?_)) 
          refine g_op rfl (ValOk.op (v_move rfl rfl ?_)) 
          refine g_nil ?_
          exact round_mk m2 (x3 ++ toI [126, 49], IntKind.wrap .i64 (x4 + 1), w7) (Nat.lt_succ_self _) h (le_w [some 13, some 7001] rfl ⟨⟨_, rfl, .refl _⟩, ⟨⟨_, rfl, .refl _⟩, ⟨⟨_, rfl, .refl _⟩, ⟨⟨_, rfl, .refl _⟩, ⟨⟨_, rfl, .refl _⟩, ⟨⟨_, rfl, .refl _⟩, ⟨⟨_, rfl, .refl _⟩, trivial⟩⟩⟩⟩⟩⟩⟩ ⟨⟨_, rfl, .refl _⟩, ⟨⟨_, rfl, .refl _⟩, trivial⟩⟩ (by decide))
        · replace h := ifF h (dF hc4)
          refine good_region ?_
          refine g_op rfl (ValOk.op (v_move rfl rfl ?_)) 
          refine g_op rfl (ValOk.op (v_move rfl rfl ?_)) 
          obtain ⟨hb7, h⟩ := ifS h
          refine g_op rfl (ValOk.op (v_indexM tabOk rfl rfl tkind9 hb7 rfl ?_)) 
          obtain ⟨hb8, h⟩ := ifS h
          refine g_op rfl (o_callB (q := 13) (y := 7001) (core_value rfl rfl) (writeByte_does b1 7001 _ _ (byt (ix a0 x2) x4) (by decide) hb8) (.cons (.ptr _ _ _ _) (.cons (.refl _) .nil)) rfl rfl rfl rfl ?_)
          intro w8
          refine g_nil ?_
          refine hK14 _ ?_
          refine Good.le (σ' := ⟨35, [(3, _), (5, _), (7, _), (8, _), (9, _), (15, _), (16, _)], [(13, (_, _)), (7001, (_, _))]⟩) (le_w [some 13, some 7001] rfl ⟨⟨_, rfl, .refl _⟩, ⟨⟨_, rfl, .refl _⟩, ⟨⟨_, rfl, .refl _⟩, ⟨⟨_, rfl, .refl _⟩, ⟨⟨_, rfl, .refl _⟩, ⟨⟨_, rfl, .refl _⟩, ⟨⟨_, rfl, .refl _⟩, trivial⟩⟩⟩⟩⟩⟩⟩ ⟨⟨_, rfl, .refl _⟩, ⟨⟨_, rfl, .refl _⟩, trivial⟩⟩ (by decide)) ?_
          refine good_region ?_
          refine g_op rfl (ValOk.op (v_bin rfl rfl rfl rfl ?_)) 
          refine g_op rfl (ValOk.op (v_move rfl rfl ?_)) 
          refine g_nil ?_
          exact round_mk m2 (x3 ++ [byt (ix a0 x2) x4], IntKind.wrap .i64 (x4 + 1), w8) (Nat.lt_succ_self _) h (le_w [some 13, some 7001] rfl ⟨⟨_, rfl, .refl _⟩, ⟨⟨_, rfl, .refl _⟩, ⟨⟨_, rfl, .refl _⟩, ⟨⟨_, rfl, .refl _⟩, ⟨⟨_, rfl, .refl _⟩, ⟨⟨_, rfl, .refl _⟩, ⟨⟨_, rfl, .refl _⟩, trivial⟩⟩⟩⟩⟩⟩⟩ ⟨⟨_, rfl, .refl _⟩, ⟨⟨_, rfl, .refl _⟩, trivial⟩⟩ (by decide))
    · replace h := ifF h (dF hc2)
      refine good_exit ?_
      exact hw2 x3 w4 (Option.some.inj h).symm _ (le_w [some 13, some 7001] rfl ⟨⟨_, rfl, .refl _⟩, ⟨⟨_, rfl, .refl _⟩, ⟨⟨_, rfl, .refl _⟩, ⟨⟨_, rfl, .refl _⟩, trivial⟩⟩⟩⟩ ⟨⟨_, rfl, .refl _⟩, ⟨⟨_, rfl, .refl _⟩, trivial⟩⟩ (by decide))
  · replace h := ifF h (dF hc1)
    refine good_exit ?_
    exact hw1 x1 w1 (Option.some.inj h).symm _ (le_w [some 13, some 7001] rfl ⟨⟨_, rfl, .refl _⟩, trivial⟩ ⟨⟨_, rfl, .refl _⟩, ⟨⟨_, rfl, .refl _⟩, trivial⟩⟩ (by decide))
def m_laws_FnExactPointerText (k : Nat) (a0 : (List Bs)) : Option Bool :=
  (m_laws_szStringS k a0 1048576).bind fun y1 =>
  if y1 < 0 then
    some true
  else
    (m_laws_toStringS k a0).bind fun y2 =>
    (m_spec_PointerText k y2).bind fun y3 =>
    (m_laws_toStringS k a0).bind fun y4 =>
    (m_impl_PointerText k y4).bind fun y5 =>
    if y5 = y3 then
      (m_laws_toStringS k a0).bind fun y6 =>
      (m_laws_eqStringS k y4 y6).bind fun y7 =>
      if y7 = true then
        some true
      else
        some false
    else
      some false
theorem m_laws_FnExactPointerText_ok (k : Nat) : ∀ (a0 : (List Bs)) (r : Bool), m_laws_FnExactPointerText k a0 = some r → Does Try.prog 7 [.sl (a0.map encS)] [] (ret (.bool r)) := by
  intro a0 r h
  rw [m_laws_FnExactPointerText] at h
  refine does_of_good tabOk Try.func7 rfl (by decide +kernel) (Nat.le_of_ble_eq_true rfl) fun c => ?_
  refine Good.le (σ' := ⟨27, [(0, .sl (a0.map encS))], []⟩) (Le.refl _) ?_
  refine good_seq fun K1 hK1 => ?_
  refine good_region ?_
  refine g_op rfl (ValOk.op (v_assign rfl rfl ?_)) 
  refine g_nil ?_
  refine hK1 _ ?_
  refine good_seq fun K2 hK2 => ?_
  refine good_region ?_
  refine g_op rfl (ValOk.op (v_assign rfl rfl ?_)) 
  refine g_nil ?_
  refine hK2 _ ?_
  refine good_seq fun K3 hK3 => ?_
  refine good_region ?_
  refine g_op rfl (ValOk.op (v_move rfl rfl ?_)) 
  refine g_op rfl (ValOk.op (v_move rfl rfl ?_)) 
  obtain ⟨y1, hy1, h⟩ := bnd h
  refine g_op rfl (o_callR [] [] (core_value rfl rfl) (m_laws_szStringS_ok k a0 1048576 _ hy1) trivial (.cons (.refl _) (.cons (.refl _) (.nil))) (.inl rfl) rfl ?_)
  refine g_op rfl (ValOk.op (v_assign rfl rfl ?_)) 
  refine g_nil ?_
  refine hK3 _ ?_
  refine Good.le (σ' := ⟨27, [(0, _), (2, _), (3, _)], []⟩) (le_w [] rfl ⟨⟨_, rfl, .refl _⟩, ⟨⟨_, rfl, .refl _⟩, ⟨⟨_, rfl, .refl _⟩, trivial⟩⟩⟩ trivial (by decide)) ?_
  refine good_seq fun K4 hK4 => ?_
  refine good_seq fun K5 hK5 => ?_
  refine good_region ?_
  refine g_op rfl (ValOk.op (v_move rfl rfl ?_)) 
  refine g_op rfl (ValOk.op (v_bin rfl rfl rfl rfl ?_)) 
  refine g_nil ?_
  refine hK5 _ ?_
  refine Good.le (σ' := ⟨27, [(0, _), (2, _), (11, _)], []⟩) (le_w [] rfl ⟨⟨_, rfl, .refl _⟩, ⟨⟨_, rfl, .refl _⟩, ⟨⟨_, rfl, .refl _⟩, trivial⟩⟩⟩ trivial (by decide)) ?_
  refine good_cond rfl (fun hc1 => ?_) (fun hc1 => ?_)
  · replace h := ifT h (dT hc1)
    refine good_seq fun K6 hK6 => ?_
    refine good_region ?_
    refine g_op rfl (ValOk.op (v_assign rfl rfl ?_)) 
    refine g_nil ?_
    refine hK6 _ ?_
    refine Good.le (σ' := ⟨27, [(0, _), (2, _)], []⟩) (le_w [] rfl ⟨⟨_, rfl, .refl _⟩, ⟨⟨_, rfl, .refl _⟩, trivial⟩⟩ trivial (by decide)) ?_
    refine Good.le (σ' := ⟨27, [(2, .bool true)], []⟩) (le_w [] rfl ⟨⟨_, rfl, .refl _⟩, trivial⟩ trivial (by decide)) ?_
    refine good_ret ?_
    obtain rfl := Option.some.inj h
    refine thenQ_ret ?_
    exact endQ_ret (h' := []) [] (.tmp rfl (.nil)) trivial (by decide) ⟨rfl, rfl⟩
  · replace h := ifF h (dF hc1)
    refine good_skip ?_
    refine hK4 _ ?_
    refine Good.le (σ' := ⟨27, [(0, _), (2, _)], []⟩) (le_w [] rfl ⟨⟨_, rfl, .refl _⟩, ⟨⟨_, rfl, .refl _⟩, trivial⟩⟩ trivial (by decide)) ?_
    refine good_seq fun K7 hK7 => ?_
    refine good_region ?_
    refine g_op rfl (ValOk.op (v_move rfl rfl ?_)) 
    obtain ⟨y2, hy2, h⟩ := bnd h
    refine g_op rfl (o_callR [] [] (core_value rfl rfl) (m_laws_toStringS_ok k a0 _ hy2) trivial (.cons (.refl _) (.nil)) (.inl rfl) rfl ?_)
    obtain ⟨y3, hy3, h⟩ := bnd h
    refine g_op rfl (o_callR [] [] (core_value rfl rfl) (m_spec_PointerText_ok k y2 _ hy3) trivial (.cons (.refl _) (.nil)) (.inl rfl) rfl ?_)
    refine g_op rfl (ValOk.op (v_assign rfl rfl ?_)) 
    refine g_nil ?_
    refine hK7 _ ?_
    refine Good.le (σ' := ⟨27, [(0, _), (2, _), (4, _)], []⟩) (le_w [] rfl ⟨⟨_, rfl, .refl _⟩, ⟨⟨_, rfl, .refl _⟩, ⟨⟨_, rfl, .refl _⟩, trivial⟩⟩⟩ trivial (by decide)) ?_
    refine good_seq fun K8 hK8 => ?_
    refine good_region ?_
    refine g_op rfl (ValOk.op (v_move rfl rfl ?_)) 
    obtain ⟨y4, hy4, h⟩ := bnd h
    refine g_op rfl (o_callR [] [] (core_value rfl rfl) (m_laws_toStringS_ok k a0 _ hy4) trivial (.cons (.refl _) (.nil)) (.inl rfl) rfl ?_)
    refine g_op rfl (ValOk.op (v_assign rfl rfl ?_)) 
    refine g_nil ?_
    refine hK8 _ ?_
    refine Good.le (σ' := ⟨27, [(0, _), (2, _), (4, _), (5, _)], []⟩) (le_w [] rfl ⟨⟨_, rfl, .refl _⟩, ⟨⟨_, rfl, .refl _⟩, ⟨⟨_, rfl, .refl _⟩, ⟨⟨_, rfl, .refl _⟩, trivial⟩⟩⟩⟩ trivial (by decide)) ?_
    refine good_seq fun K9 hK9 => ?_
    refine good_region ?_
    refine g_op rfl (ValOk.op (v_move rfl rfl ?_)) 
    obtain ⟨y5, hy5, h⟩ := bnd h
    refine g_op rfl (o_callR [] [] (core_value rfl rfl) (m_impl_PointerText_ok k y4 _ hy5) trivial (.cons (.refl _) (.nil)) (.inl rfl) rfl ?_)
    refine g_op rfl (ValOk.op (v_assign rfl rfl ?_)) 
    refine g_nil ?_
    refine hK9 _ ?_
    refine Good.le (σ' := ⟨27, [(0, _), (2, _), (4, _), (5, _), (6, _)], []⟩) (le_w [] rfl ⟨⟨_, rfl, .refl _⟩, ⟨⟨_, rfl, .refl _⟩, ⟨⟨_, rfl, .refl _⟩, ⟨⟨_, rfl, .refl _⟩, ⟨⟨_, rfl, .refl _⟩, trivial⟩⟩⟩⟩⟩ trivial (by decide)) ?_
    refine good_seq fun K10 hK10 => ?_
    refine good_seq fun K11 hK11 => ?_
    refine good_region ?_
    refine g_op rfl (ValOk.op (v_move rfl rfl ?_)) 
    refine g_op rfl (ValOk.op (v_move rfl rfl ?_)) 
    refine g_op rfl (ValOk.op (v_bin rfl rfl rfl rfl ?_)) 
    refine g_nil ?_
    refine hK11 _ ?_
    refine Good.le (σ' := ⟨27, [(0, _), (2, _), (5, _), (21, _)], []⟩) (le_w [] rfl ⟨⟨_, rfl, .refl _⟩, ⟨⟨_, rfl, .refl _⟩, ⟨⟨_, rfl, .refl _⟩, ⟨⟨_, rfl, .refl _⟩, trivial⟩⟩⟩⟩ trivial (by decide)) ?_
    refine good_cond rfl (fun hc2 => ?_) (fun hc2 => ?_)
    · replace h := ifF h (ndT hc2)
      refine good_seq fun K12 hK12 => ?_
      refine good_region ?_
      refine g_op rfl (ValOk.op (v_assign rfl rfl ?_)) 
      refine g_nil ?_
      refine hK12 _ ?_
      refine Good.le (σ' := ⟨27, [(0, _), (2, _), (5, _)], []⟩) (le_w [] rfl ⟨⟨_, rfl, .refl _⟩, ⟨⟨_, rfl, .refl _⟩, ⟨⟨_, rfl, .refl _⟩, trivial⟩⟩⟩ trivial (by decide)) ?_
      refine Good.le (σ' := ⟨27, [(2, .bool false)], []⟩) (le_w [] rfl ⟨⟨_, rfl, .refl _⟩, trivial⟩ trivial (by decide)) ?_
      refine good_ret ?_
      obtain rfl := Option.some.inj h
      refine thenQ_ret ?_
      exact endQ_ret (h' := []) [] (.tmp rfl (.nil)) trivial (by decide) ⟨rfl, rfl⟩
    · replace h := ifT h (ndF hc2)
      refine good_skip ?_
      refine hK10 _ ?_
      refine Good.le (σ' := ⟨27, [(0, _), (2, _), (5, _)], []⟩) (le_w [] rfl ⟨⟨_, rfl, .refl _⟩, ⟨⟨_, rfl, .refl _⟩, ⟨⟨_, rfl, .refl _⟩, trivial⟩⟩⟩ trivial (by decide)) ?_
      refine good_seq fun K13 hK13 => ?_
      refine good_seq fun K14 hK14 => ?_
      refine good_region ?_
      refine g_op rfl (ValOk.op (v_move rfl rfl ?_)) 
      refine g_op rfl (ValOk.op (v_move rfl rfl ?_)) 
      obtain ⟨y6, hy6, h⟩ := bnd h
      refine g_op rfl (o_callR [] [] (core_value rfl rfl) (m_laws_toStringS_ok k a0 _ hy6) trivial (.cons (.refl _) (.nil)) (.inl rfl) rfl ?_)
      obtain ⟨y7, hy7, h⟩ := bnd h
      refine g_op rfl (o_callR [] [] (core_value rfl rfl) (m_laws_eqStringS_ok k y4 y6 _ hy7) trivial (.cons (.refl _) (.cons (.refl _) (.nil))) (.inl rfl) rfl ?_)
      refine g_op rfl (ValOk.op (v_not rfl rfl ?_)) 
      refine g_nil ?_
      refine hK14 _ ?_
      refine Good.le (σ' := ⟨27, [(2, _), (26, _)], []⟩) (le_w [] rfl ⟨⟨_, rfl, .refl _⟩, ⟨⟨_, rfl, .refl _⟩, trivial⟩⟩ trivial (by decide)) ?_
      refine good_cond rfl (fun hc3 => ?_) (fun hc3 => ?_)
      · replace h := bF h (nT hc3)
        refine good_seq fun K15 hK15 => ?_
        refine good_region ?_
        refine g_op rfl (ValOk.op (v_assign rfl rfl ?_)) 
        refine g_nil ?_
        refine hK15 _ ?_
        refine Good.le (σ' := ⟨27, [(2, _)], []⟩) (le_w [] rfl ⟨⟨_, rfl, .refl _⟩, trivial⟩ trivial (by decide)) ?_
        refine Good.le (σ' := ⟨27, [(2, .bool false)], []⟩) (le_w [] rfl ⟨⟨_, rfl, .refl _⟩, trivial⟩ trivial (by decide)) ?_
        refine good_ret ?_
        obtain rfl := Option.some.inj h
        refine thenQ_ret ?_
        exact endQ_ret (h' := []) [] (.tmp rfl (.nil)) trivial (by decide) ⟨rfl, rfl⟩
      · replace h := ifT h (nF hc3)
        refine good_skip ?_
        refine hK13 _ ?_
        refine Good.le (σ' := ⟨27, [(2, _)], []⟩) (le_w [] rfl ⟨⟨_, rfl, .refl _⟩, trivial⟩ trivial (by decide)) ?_
        refine good_seq fun K16 hK16 => ?_
        refine good_region ?_
        refine g_op rfl (ValOk.op (v_assign rfl rfl ?_)) 
        refine g_nil ?_
        refine hK16 _ ?_
        refine Good.le (σ' := ⟨27, [(2, .bool true)], []⟩) (le_w [] rfl ⟨⟨_, rfl, .refl _⟩, trivial⟩ trivial (by decide)) ?_
        refine good_ret ?_
        obtain rfl := Option.some.inj h
        exact endQ_ret (h' := []) [] (.tmp rfl (.nil)) trivial (by decide) ⟨rfl, rfl⟩
end Go.Proofs.Ytopbbjoflopjbaa
