/- What functions of this program answer, as plain functions; each theorem says that the code comes to just that. -/
import Derived.Test.YtopbbjoflopjbaaDoorDat
import Derived.Test.YtopbbjoflopjbaaDoorB13
import Derived.Test.YtopbbjoflopjbaaDoorDatO
/-! Functions of the program. -/
set_option linter.unusedVariables false
set_option maxRecDepth 100000
set_option maxHeartbeats 20000000
namespace Go.Proofs.YtopbbjoflopjbaaDoor
open Go.Bb
def m_spec_PointerText_l2 : Nat → (List Bs) → Int → Bs → Int → Option (Lp Bs (Lp Bs Bs))
  | 0, _, _, _, _ => none
  | k + 1, a0, x2, x3, x4 =>
    if (0 : Int) ≤ x2 ∧ x2 < (a0.length : Int) then
      if x4 < ((ix a0 x2).length : Int) then
        if (0 : Int) ≤ x2 ∧ x2 < (a0.length : Int) then
          if (0 : Int) ≤ x4 ∧ x4 < ((ix a0 x2).length : Int) then
            if (byt (ix a0 x2) x4) = 126 then
              if (x3 ++ [126, 48]).length ≤ maxLen then
                m_spec_PointerText_l2 k a0 x2 (x3 ++ [126, 48]) (IntKind.wrap .i64 (x4 + 1))
              else none
            else
              if (byt (ix a0 x2) x4) = 47 then
                if (x3 ++ [126, 49]).length ≤ maxLen then
                  m_spec_PointerText_l2 k a0 x2 (x3 ++ [126, 49]) (IntKind.wrap .i64 (x4 + 1))
                else none
              else
                if (0 : Int) ≤ x2 ∧ x2 < (a0.length : Int) then
                  if (0 : Int) ≤ x4 ∧ x4 ≤ (IntKind.wrap .i64 (x4 + 1)) ∧ (IntKind.wrap .i64 (x4 + 1)) ≤ ((ix a0 x2).length : Int) then
                    if (x3 ++ (sub (ix a0 x2) x4 (IntKind.wrap .i64 (x4 + 1)))).length ≤ maxLen then
                      m_spec_PointerText_l2 k a0 x2 (x3 ++ (sub (ix a0 x2) x4 (IntKind.wrap .i64 (x4 + 1)))) (IntKind.wrap .i64 (x4 + 1))
                    else none
                  else none
                else none
          else none
        else none
      else
        some (Lp.go x3)
    else none
def m_spec_PointerText_l1 : Nat → (List Bs) → Bs → Int → Option (Lp Bs Bs)
  | 0, _, _, _ => none
  | k + 1, a0, x1, x2 =>
    if x2 < (a0.length : Int) then
      if (x1 ++ [47]).length ≤ maxLen then
        (m_spec_PointerText_l2 k a0 x2 (x1 ++ [47]) 0).bind fun o2 =>
        o2.then fun s2 =>
    m_spec_PointerText_l1 k a0 s2 (IntKind.wrap .i64 (x2 + 1))
      else none
    else
      some (Lp.go x1)
def m_spec_PointerText (k : Nat) (a0 : (List Bs)) : Option Bs :=
  (m_spec_PointerText_l1 k a0 [] 0).bind fun o1 =>
  o1.then fun s1 =>
    some s1
theorem m_spec_PointerText_ok (k : Nat) : ∀ (a0 : (List Bs)) (r : Bs), m_spec_PointerText k a0 = some r → Does Tryd.prog 16 [.sl false (a0.map encS)] [] (ret (.str r)) := by
  intro a0 r h
  rw [m_spec_PointerText] at h
  refine does_of_good tabOk Tryd.func16 rfl (by decide +kernel) (Nat.le_of_ble_eq_true rfl) fun c => ?_
  refine Good.le (σ' := ⟨48, [(0, .sl false (a0.map encS))], []⟩) (Le.refl _) ?_
  refine good_seq fun K1 hK1 => ?_
  refine good_region ?_
  refine g_op rfl (ValOk.op (v_assign rfl rfl ?_)) 
  refine g_nil ?_
  refine hK1 _ ?_
  refine good_seq fun K2 hK2 => ?_
  refine good_region ?_
  refine g_op rfl (ValOk.op (v_assign rfl rfl ?_)) 
  refine g_nil ?_
  refine hK2 _ ?_
  refine good_seq fun K3 hK3 => ?_
  refine good_seq fun K4 hK4 => ?_
  refine good_region ?_
  refine g_op rfl (ValOk.op (v_assign rfl rfl ?_)) 
  refine g_nil ?_
  refine hK4 _ ?_
  obtain ⟨o1, ho1, hJ1⟩ := bnd h
  have hw1 : ∀ (s1 : Bs), o1 = Lp.go s1 → ∀ σ', Le σ' ⟨48, [(2, .str []), (3, .str s1)], []⟩ → K3 σ' := by
    intro s1 e1 σ' hle1
    subst e1
    refine hK3 _ (Good.le hle1 ?_)
    replace h := hJ1
    refine good_seq fun K5 hK5 => ?_
    refine good_region ?_
    refine g_op rfl (ValOk.op (v_move rfl rfl ?_)) 
    refine g_op rfl (ValOk.op (v_assign rfl rfl ?_)) 
    refine g_nil ?_
    refine hK5 _ ?_
    refine Good.le (σ' := ⟨48, [(2, _)], []⟩) (le_w [] rfl ⟨⟨_, rfl, .refl _⟩, trivial⟩ trivial (by decide)) ?_
    refine Good.le (σ' := ⟨48, [(2, .str s1)], []⟩) (le_w [] rfl ⟨⟨_, rfl, .refl _⟩, trivial⟩ trivial (by decide)) ?_
    refine good_ret ?_
    obtain rfl := Option.some.inj h
    exact endQ_ret (h' := []) [] (.tmp rfl (.nil)) trivial (by decide) ⟨rfl, rfl⟩
  replace h := ho1
  refine good_block ?_
  refine good_loopf (fun p : (Bs × Int) => ⟨48, [(0, .sl false (a0.map encS)), (2, .str []), (3, .str p.1), (4, .int .i64 p.2)], []⟩) (fun m p => m_spec_PointerText_l1 m a0 p.1 p.2 = some o1) k ([], 0) (le_w [] rfl ⟨⟨_, rfl, .refl _⟩, ⟨⟨_, rfl, .refl _⟩, ⟨⟨_, rfl, .refl _⟩, ⟨⟨_, rfl, .refl _⟩, trivial⟩⟩⟩⟩ trivial (by decide)) h ?_
  rintro m1 ⟨x1, x2⟩ h
  replace h : m_spec_PointerText_l1 m1 a0 x1 x2 = some o1 := h
  refine Good.le (σ' := ⟨48, [(0, .sl false (a0.map encS)), (2, .str []), (3, .str x1), (4, .int .i64 x2)], []⟩) (Le.refl _) ?_
  obtain ⟨m1, rfl⟩ : ∃ m', m1 = m' + 1 := by cases m1 with | zero => (rw [m_spec_PointerText_l1] at h; cases h) | succ m' => exact ⟨m', rfl⟩
  rw [m_spec_PointerText_l1] at h
  refine good_seq fun K6 hK6 => ?_
  refine good_seq fun K7 hK7 => ?_
  refine good_region ?_
  refine g_op rfl (ValOk.op (v_move rfl rfl ?_)) 
  refine g_op rfl (ValOk.op (v_move rfl rfl ?_)) 
  refine g_op rfl (ValOk.op (v_lenM (l := a0) (f := encS) tabOk rfl rfl telem24 rfl ?_)) 
  refine g_op rfl (ValOk.op (v_bin rfl rfl rfl rfl ?_)) 
  refine g_nil ?_
  refine hK7 _ ?_
  refine Good.le (σ' := ⟨48, [(0, _), (2, _), (3, _), (4, _), (9, _)], []⟩) (le_w [] rfl ⟨⟨_, rfl, .refl _⟩, ⟨⟨_, rfl, .refl _⟩, ⟨⟨_, rfl, .refl _⟩, ⟨⟨_, rfl, .refl _⟩, ⟨⟨_, rfl, .refl _⟩, trivial⟩⟩⟩⟩⟩ trivial (by decide)) ?_
  refine good_cond rfl (fun hc1 => ?_) (fun hc1 => ?_)
  · replace h := ifT h (dT hc1)
    refine good_skip ?_
    refine hK6 _ ?_
    refine Good.le (σ' := ⟨48, [(0, _), (2, _), (3, _), (4, _)], []⟩) (le_w [] rfl ⟨⟨_, rfl, .refl _⟩, ⟨⟨_, rfl, .refl _⟩, ⟨⟨_, rfl, .refl _⟩, ⟨⟨_, rfl, .refl _⟩, trivial⟩⟩⟩⟩ trivial (by decide)) ?_
    refine good_seq fun K8 hK8 => ?_
    refine good_block ?_
    refine good_seq fun K9 hK9 => ?_
    refine good_region ?_
    refine g_op rfl (ValOk.op (v_move rfl rfl ?_)) 
    obtain ⟨hb1, h⟩ := ifS h
    refine g_op rfl (ValOk.op (v_cat rfl rfl hb1 rfl ?_)) 
    refine g_op rfl (ValOk.op (v_assign rfl rfl ?_)) 
    refine g_nil ?_
    refine hK9 _ ?_
    refine Good.le (σ' := ⟨48, [(0, _), (2, _), (3, _), (4, _)], []⟩) (le_w [] rfl ⟨⟨_, rfl, .refl _⟩, ⟨⟨_, rfl, .refl _⟩, ⟨⟨_, rfl, .refl _⟩, ⟨⟨_, rfl, .refl _⟩, trivial⟩⟩⟩⟩ trivial (by decide)) ?_
    refine good_seq fun K10 hK10 => ?_
    refine good_region ?_
    refine g_op rfl (ValOk.op (v_assign rfl rfl ?_)) 
    refine g_nil ?_
    refine hK10 _ ?_
    obtain ⟨o2, ho2, hJ2⟩ := bnd h
    have hw2 : ∀ (s2 : Bs), o2 = Lp.go s2 → ∀ σ', Le σ' ⟨48, [(0, .sl false (a0.map encS)), (2, .str []), (3, .str s2), (4, .int .i64 x2)], []⟩ → K8 σ' := by
      intro s2 e2 σ' hle2
      subst e2
      refine hK8 _ (Good.le hle2 ?_)
      replace h := hJ2
      refine good_region ?_
      refine g_op rfl (ValOk.op (v_move rfl rfl ?_)) 
      refine g_op rfl (ValOk.op (v_bin rfl rfl rfl rfl ?_)) 
      refine g_op rfl (ValOk.op (v_assign rfl rfl ?_)) 
      refine g_nil ?_
      exact round_mk m1 (s2, IntKind.wrap .i64 (x2 + 1)) (Nat.lt_succ_self _) h (le_w [] rfl ⟨⟨_, rfl, .refl _⟩, ⟨⟨_, rfl, .refl _⟩, ⟨⟨_, rfl, .refl _⟩, ⟨⟨_, rfl, .refl _⟩, trivial⟩⟩⟩⟩ trivial (by decide))
    replace h := ho2
    refine good_block ?_
    refine good_loopf (fun p : (Bs × Int) => ⟨48, [(0, .sl false (a0.map encS)), (2, .str []), (3, .str p.1), (4, .int .i64 x2), (5, .int .i64 p.2)], []⟩) (fun m p => m_spec_PointerText_l2 m a0 x2 p.1 p.2 = some o2) m1 (x1 ++ [47], 0) (le_w [] rfl ⟨⟨_, rfl, .refl _⟩, ⟨⟨_, rfl, .refl _⟩, ⟨⟨_, rfl, .refl _⟩, ⟨⟨_, rfl, .refl _⟩, ⟨⟨_, rfl, .refl _⟩, trivial⟩⟩⟩⟩⟩ trivial (by decide)) h ?_
    rintro m2 ⟨x3, x4⟩ h
    replace h : m_spec_PointerText_l2 m2 a0 x2 x3 x4 = some o2 := h
    refine Good.le (σ' := ⟨48, [(0, .sl false (a0.map encS)), (2, .str []), (3, .str x3), (4, .int .i64 x2), (5, .int .i64 x4)], []⟩) (Le.refl _) ?_
    obtain ⟨m2, rfl⟩ : ∃ m', m2 = m' + 1 := by cases m2 with | zero => (rw [m_spec_PointerText_l2] at h; cases h) | succ m' => exact ⟨m', rfl⟩
    rw [m_spec_PointerText_l2] at h
    refine good_seq fun K11 hK11 => ?_
    refine good_seq fun K12 hK12 => ?_
    refine good_region ?_
    refine g_op rfl (ValOk.op (v_move rfl rfl ?_)) 
    refine g_op rfl (ValOk.op (v_move rfl rfl ?_)) 
    refine g_op rfl (ValOk.op (v_move rfl rfl ?_)) 
    obtain ⟨hb2, h⟩ := ifS h
    refine g_op rfl (ValOk.op (v_idxM tabOk rfl rfl telem24 tsize9 hb2 rfl rfl rfl ?_)) 
    refine g_op rfl (ValOk.op (v_loadE tabOk rfl tsize9 tagg9 rfl rfl rfl ?_)) 
    refine g_op rfl (ValOk.op (v_lenS tabOk rfl rfl tkind9 rfl ?_)) 
    refine g_op rfl (ValOk.op (v_bin rfl rfl rfl rfl ?_)) 
    refine g_nil ?_
    refine hK12 _ ?_
    refine Good.le (σ' := ⟨48, [(0, _), (2, _), (3, _), (4, _), (5, _), (20, _)], []⟩) (le_w [] rfl ⟨⟨_, rfl, .refl _⟩, ⟨⟨_, rfl, .refl _⟩, ⟨⟨_, rfl, .refl _⟩, ⟨⟨_, rfl, .refl _⟩, ⟨⟨_, rfl, .refl _⟩, ⟨⟨_, rfl, .refl _⟩, trivial⟩⟩⟩⟩⟩⟩ trivial (by decide)) ?_
    refine good_cond rfl (fun hc2 => ?_) (fun hc2 => ?_)
    · replace h := ifT h (dT hc2)
      refine good_skip ?_
      refine hK11 _ ?_
      refine Good.le (σ' := ⟨48, [(0, _), (2, _), (3, _), (4, _), (5, _)], []⟩) (le_w [] rfl ⟨⟨_, rfl, .refl _⟩, ⟨⟨_, rfl, .refl _⟩, ⟨⟨_, rfl, .refl _⟩, ⟨⟨_, rfl, .refl _⟩, ⟨⟨_, rfl, .refl _⟩, trivial⟩⟩⟩⟩⟩ trivial (by decide)) ?_
      refine good_seq fun K13 hK13 => ?_
      refine good_block ?_
      refine good_seq fun K14 hK14 => ?_
      refine good_region ?_
      refine g_op rfl (ValOk.op (v_move rfl rfl ?_)) 
      refine g_op rfl (ValOk.op (v_move rfl rfl ?_)) 
      obtain ⟨hb3, h⟩ := ifS h
      refine g_op rfl (ValOk.op (v_idxM tabOk rfl rfl telem24 tsize9 hb3 rfl rfl rfl ?_)) 
      refine g_op rfl (ValOk.op (v_loadE tabOk rfl tsize9 tagg9 rfl rfl rfl ?_)) 
      refine g_op rfl (ValOk.op (v_move rfl rfl ?_)) 
      obtain ⟨hb4, h⟩ := ifS h
      refine g_op rfl (ValOk.op (v_indexM tabOk rfl rfl tkind9 hb4 rfl ?_)) 
      refine g_nil ?_
      refine hK14 _ ?_
      refine Good.le (σ' := ⟨48, [(0, _), (2, _), (3, _), (4, _), (5, _), (28, _)], []⟩) (le_w [] rfl ⟨⟨_, rfl, .refl _⟩, ⟨⟨_, rfl, .refl _⟩, ⟨⟨_, rfl, .refl _⟩, ⟨⟨_, rfl, .refl _⟩, ⟨⟨_, rfl, .refl _⟩, ⟨⟨_, rfl, .refl _⟩, trivial⟩⟩⟩⟩⟩⟩ trivial (by decide)) ?_
      refine good_block ?_
      refine good_seq fun K15 hK15 => ?_
      refine good_region ?_
      refine g_op rfl (ValOk.op (v_bin rfl rfl rfl rfl ?_)) 
      refine g_op rfl (ValOk.op (v_assign rfl rfl ?_)) 
      refine g_nil ?_
      refine hK15 _ ?_
      refine Good.le (σ' := ⟨48, [(0, _), (2, _), (3, _), (4, _), (5, _), (28, _), (39, _)], []⟩) (le_w [] rfl ⟨⟨_, rfl, .refl _⟩, ⟨⟨_, rfl, .refl _⟩, ⟨⟨_, rfl, .refl _⟩, ⟨⟨_, rfl, .refl _⟩, ⟨⟨_, rfl, .refl _⟩, ⟨⟨_, rfl, .refl _⟩, ⟨⟨_, rfl, .refl _⟩, trivial⟩⟩⟩⟩⟩⟩⟩ trivial (by decide)) ?_
      refine good_cond rfl (fun hc3 => ?_) (fun hc3 => ?_)
      · replace h := ifT h (dT hc3)
        refine good_region ?_
        refine g_op rfl (ValOk.op (v_move rfl rfl ?_)) 
        obtain ⟨hb5, h⟩ := ifS h
        refine g_op rfl (ValOk.op (v_cat rfl rfl hb5 rfl ?_)) 
        refine g_op rfl (ValOk.op (v_assign rfl rfl ?_)) 
        refine g_nil ?_
        refine hK13 _ ?_
        refine Good.le (σ' := ⟨48, [(0, _), (2, _), (3, _), (4, _), (5, _)], []⟩) (le_w [] rfl ⟨⟨_, rfl, .refl _⟩, ⟨⟨_, rfl, .refl _⟩, ⟨⟨_, rfl, .refl _⟩, ⟨⟨_, rfl, .refl _⟩, ⟨⟨_, rfl, .refl _⟩, trivial⟩⟩⟩⟩⟩ trivial (by decide)) ?_
        refine good_region ?_
        refine g_op rfl (ValOk.op (v_move rfl rfl ?_)) 
        refine g_op rfl (ValOk.op (v_bin rfl rfl rfl rfl ?_)) 
        refine g_op rfl (ValOk.op (v_assign rfl rfl ?_)) 
        refine g_nil ?_
        exact round_mk m2 (x3 ++ [126, 48], IntKind.wrap .i64 (x4 + 1)) (Nat.lt_succ_self _) h (le_w [] rfl ⟨⟨_, rfl, .refl _⟩, ⟨⟨_, rfl, .refl _⟩, ⟨⟨_, rfl, .refl _⟩, ⟨⟨_, rfl, .refl _⟩, ⟨⟨_, rfl, .refl _⟩, trivial⟩⟩⟩⟩⟩ trivial (by decide))
      · replace h := ifF h (dF hc3)
        refine good_seq fun K16 hK16 => ?_
        refine good_region ?_
        refine g_op rfl (ValOk.op (v_bin rfl rfl rfl rfl ?_)) 
        refine g_op rfl (ValOk.op (v_assign rfl rfl ?_)) 
        refine g_nil ?_
        refine hK16 _ ?_
        refine Good.le (σ' := ⟨48, [(0, _), (2, _), (3, _), (4, _), (5, _), (43, _)], []⟩) (le_w [] rfl ⟨⟨_, rfl, .refl _⟩, ⟨⟨_, rfl, .refl _⟩, ⟨⟨_, rfl, .refl _⟩, ⟨⟨_, rfl, .refl _⟩, ⟨⟨_, rfl, .refl _⟩, ⟨⟨_, rfl, .refl _⟩, trivial⟩⟩⟩⟩⟩⟩ trivial (by decide)) ?_
        refine good_cond rfl (fun hc4 => ?_) (fun hc4 => ?_)
        · replace h := ifT h (dT hc4)
          refine good_region ?_
          refine g_op rfl (ValOk.op (v_move rfl rfl ?_)) 
          obtain ⟨hb6, h⟩ := ifS h
          refine g_op rfl (ValOk.op (v_cat rfl rfl hb6 rfl ?_)) 
          refine g_op rfl (ValOk.op (v_assign rfl rfl ?_)) 
          refine g_nil ?_
          refine hK13 _ ?_
          refine Good.le (σ' := ⟨48, [(0, _), (2, _), (3, _), (4, _), (5, _)], []⟩) (le_w [] rfl ⟨⟨_, rfl, .refl _⟩, ⟨⟨_, rfl, .refl _⟩, ⟨⟨_, rfl, .refl _⟩, ⟨⟨_, rfl, .refl _⟩, ⟨⟨_, rfl, .refl _⟩, trivial⟩⟩⟩⟩⟩ trivial (by decide)) ?_
          refine good_region ?_
          refine g_op rfl (ValOk.op (v_move rfl rfl ?_)) 
          refine g_op rfl (ValOk.op (v_bin rfl rfl rfl rfl ?_)) 
          refine g_op rfl (ValOk.op (v_assign rfl rfl ?_)) 
          refine g_nil ?_
          exact round_mk m2 (x3 ++ [126, 49], IntKind.wrap .i64 (x4 + 1)) (Nat.lt_succ_self _) h (le_w [] rfl ⟨⟨_, rfl, .refl _⟩, ⟨⟨_, rfl, .refl _⟩, ⟨⟨_, rfl, .refl _⟩, ⟨⟨_, rfl, .refl _⟩, ⟨⟨_, rfl, .refl _⟩, trivial⟩⟩⟩⟩⟩ trivial (by decide))
        · replace h := ifF h (dF hc4)
          refine good_region ?_
          refine g_op rfl (ValOk.op (v_move rfl rfl ?_)) 
          refine g_op rfl (ValOk.op (v_move rfl rfl ?_)) 
          refine g_op rfl (ValOk.op (v_move rfl rfl ?_)) 
          obtain ⟨hb7, h⟩ := ifS h
          refine g_op rfl (ValOk.op (v_idxM tabOk rfl rfl telem24 tsize9 hb7 rfl rfl rfl ?_)) 
          refine g_op rfl (ValOk.op (v_loadE tabOk rfl tsize9 tagg9 rfl rfl rfl ?_)) 
          refine g_op rfl (ValOk.op (v_move rfl rfl ?_)) 
          refine g_op rfl (ValOk.op (v_move rfl rfl ?_)) 
          refine g_op rfl (ValOk.op (v_bin rfl rfl rfl rfl ?_)) 
          obtain ⟨hb8, h⟩ := ifS h
          refine g_op rfl (ValOk.op (v_sliceSM tabOk rfl rfl rfl rfl tkind9 hb8 rfl ?_)) 
          obtain ⟨hb9, h⟩ := ifS h
          refine g_op rfl (ValOk.op (v_cat rfl rfl hb9 rfl ?_)) 
          refine g_op rfl (ValOk.op (v_assign rfl rfl ?_)) 
          refine g_nil ?_
          refine hK13 _ ?_
          refine Good.le (σ' := ⟨48, [(0, _), (2, _), (3, _), (4, _), (5, _)], []⟩) (le_w [] rfl ⟨⟨_, rfl, .refl _⟩, ⟨⟨_, rfl, .refl _⟩, ⟨⟨_, rfl, .refl _⟩, ⟨⟨_, rfl, .refl _⟩, ⟨⟨_, rfl, .refl _⟩, trivial⟩⟩⟩⟩⟩ trivial (by decide)) ?_
          refine good_region ?_
          refine g_op rfl (ValOk.op (v_move rfl rfl ?_)) 
          refine g_op rfl (ValOk.op (v_bin rfl rfl rfl rfl ?_)) 
          refine g_op rfl (ValOk.op (v_assign rfl rfl ?_)) 
          refine g_nil ?_
          exact round_mk m2 (x3 ++ (sub (ix a0 x2) x4 (IntKind.wrap .i64 (x4 + 1))), IntKind.wrap .i64 (x4 + 1)) (Nat.lt_succ_self _) h (le_w [] rfl ⟨⟨_, rfl, .refl _⟩, ⟨⟨_, rfl, .refl _⟩, ⟨⟨_, rfl, .refl _⟩, ⟨⟨_, rfl, .refl _⟩, ⟨⟨_, rfl, .refl _⟩, trivial⟩⟩⟩⟩⟩ trivial (by decide))
    · replace h := ifF h (dF hc2)
      refine good_exit ?_
      exact hw2 x3 (Option.some.inj h).symm _ (le_w [] rfl ⟨⟨_, rfl, .refl _⟩, ⟨⟨_, rfl, .refl _⟩, ⟨⟨_, rfl, .refl _⟩, ⟨⟨_, rfl, .refl _⟩, trivial⟩⟩⟩⟩ trivial (by decide))
  · replace h := ifF h (dF hc1)
    refine good_exit ?_
    exact hw1 x1 (Option.some.inj h).symm _ (le_w [] rfl ⟨⟨_, rfl, .refl _⟩, ⟨⟨_, rfl, .refl _⟩, trivial⟩⟩ trivial (by decide))
def m_spec_PointerGet_l1 : Nat → Bs → (List Bs) → Int → Option (Lp (List Bs) ((List Bs) × Bool))
  | 0, _, _, _ => none
  | k + 1, a0, x1, x2 =>
    if x2 < (a0.length : Int) then
      (if x2 = 0 then
          if (0 : Int) ≤ x2 ∧ x2 < (a0.length : Int) then
            some (Lp.go (!(decide ((byt a0 x2) = 47))))
          else none
        else
          some (Lp.go false)).bind fun o2 =>
      o2.then fun s2 =>
    if s2 = true then
      (some (([] : List Bs), false)).bind fun z =>
      some (Lp.ret z)
    else
      if (0 : Int) ≤ x2 ∧ x2 < (a0.length : Int) then
        if (byt a0 x2) = 47 then
          if (x1 ++ [[]]).length * 16 ≤ 140737488355328 then
            m_spec_PointerGet_l1 k a0 (x1 ++ [[]]) (IntKind.wrap .i64 (x2 + 1))
          else none
        else
          (if (0 : Int) ≤ x2 ∧ x2 < (a0.length : Int) then
              if (byt a0 x2) = 126 then
                if (IntKind.wrap .i64 (x2 + 1)) < (a0.length : Int) then
                  if (0 : Int) ≤ (IntKind.wrap .i64 (x2 + 1)) ∧ (IntKind.wrap .i64 (x2 + 1)) < (a0.length : Int) then
                    some (Lp.go (decide ((byt a0 (IntKind.wrap .i64 (x2 + 1))) = 48)))
                  else none
                else
                  some (Lp.go false)
              else
                some (Lp.go false)
            else none).bind fun o3 =>
          o3.then fun s3 =>
    if s3 = true then
      if (0 : Int) ≤ (IntKind.wrap .i64 ((x1.length : Int) - 1)) ∧ (IntKind.wrap .i64 ((x1.length : Int) - 1)) < (x1.length : Int) then
        if ((ix x1 (IntKind.wrap .i64 ((x1.length : Int) - 1))) ++ [126]).length ≤ maxLen then
          if (0 : Int) ≤ (IntKind.wrap .i64 ((x1.length : Int) - 1)) ∧ (IntKind.wrap .i64 ((x1.length : Int) - 1)) < (x1.length : Int) then
            m_spec_PointerGet_l1 k a0 (x1.set (Int.toNat (IntKind.wrap .i64 ((x1.length : Int) - 1))) ((ix x1 (IntKind.wrap .i64 ((x1.length : Int) - 1))) ++ [126])) (IntKind.wrap .i64 ((IntKind.wrap .i64 (x2 + 1)) + 1))
          else none
        else none
      else none
    else
      (if (0 : Int) ≤ x2 ∧ x2 < (a0.length : Int) then
          if (byt a0 x2) = 126 then
            if (IntKind.wrap .i64 (x2 + 1)) < (a0.length : Int) then
              if (0 : Int) ≤ (IntKind.wrap .i64 (x2 + 1)) ∧ (IntKind.wrap .i64 (x2 + 1)) < (a0.length : Int) then
                some (Lp.go (decide ((byt a0 (IntKind.wrap .i64 (x2 + 1))) = 49)))
              else none
            else
              some (Lp.go false)
          else
            some (Lp.go false)
        else none).bind fun o4 =>
      o4.then fun s4 =>
    if s4 = true then
      if (0 : Int) ≤ (IntKind.wrap .i64 ((x1.length : Int) - 1)) ∧ (IntKind.wrap .i64 ((x1.length : Int) - 1)) < (x1.length : Int) then
        if ((ix x1 (IntKind.wrap .i64 ((x1.length : Int) - 1))) ++ [47]).length ≤ maxLen then
          if (0 : Int) ≤ (IntKind.wrap .i64 ((x1.length : Int) - 1)) ∧ (IntKind.wrap .i64 ((x1.length : Int) - 1)) < (x1.length : Int) then
            m_spec_PointerGet_l1 k a0 (x1.set (Int.toNat (IntKind.wrap .i64 ((x1.length : Int) - 1))) ((ix x1 (IntKind.wrap .i64 ((x1.length : Int) - 1))) ++ [47])) (IntKind.wrap .i64 ((IntKind.wrap .i64 (x2 + 1)) + 1))
          else none
        else none
      else none
    else
      if (0 : Int) ≤ (IntKind.wrap .i64 ((x1.length : Int) - 1)) ∧ (IntKind.wrap .i64 ((x1.length : Int) - 1)) < (x1.length : Int) then
        if (0 : Int) ≤ x2 ∧ x2 ≤ (IntKind.wrap .i64 (x2 + 1)) ∧ (IntKind.wrap .i64 (x2 + 1)) ≤ (a0.length : Int) then
          if ((ix x1 (IntKind.wrap .i64 ((x1.length : Int) - 1))) ++ (sub a0 x2 (IntKind.wrap .i64 (x2 + 1)))).length ≤ maxLen then
            if (0 : Int) ≤ (IntKind.wrap .i64 ((x1.length : Int) - 1)) ∧ (IntKind.wrap .i64 ((x1.length : Int) - 1)) < (x1.length : Int) then
              m_spec_PointerGet_l1 k a0 (x1.set (Int.toNat (IntKind.wrap .i64 ((x1.length : Int) - 1))) ((ix x1 (IntKind.wrap .i64 ((x1.length : Int) - 1))) ++ (sub a0 x2 (IntKind.wrap .i64 (x2 + 1))))) (IntKind.wrap .i64 (x2 + 1))
            else none
          else none
        else none
      else none
      else none
    else
      some (Lp.go x1)
def m_spec_PointerGet (k : Nat) (a0 : Bs) : Option ((List Bs) × Bool) :=
  (m_spec_PointerGet_l1 k a0 ([] : List Bs) 0).bind fun o1 =>
  o1.then fun s1 =>
    (m_spec_PointerText k s1).bind fun y1 =>
    if y1 = a0 then
      some (s1, true)
    else
      some (([] : List Bs), false)
theorem m_spec_PointerGet_ok (k : Nat) : ∀ (a0 : Bs) (r : ((List Bs) × Bool)), m_spec_PointerGet k a0 = some r → Does Tryd.prog 9 [.str a0] [] (fun q h' => ∃ u0 : Value, q = .tup [.hd 100 u0, .bool r.2] ∧ h' = [(100, (u0, .osl 9 1 (r.1.map encS)))]) := by
  intro a0 r h
  rw [m_spec_PointerGet] at h
  refine does_of_good tabOk Tryd.func9 rfl (by decide +kernel) (Nat.le_of_ble_eq_true rfl) fun c => ?_
  refine Good.le (σ' := ⟨119, [(0, .str a0)], []⟩) (Le.refl _) ?_
  refine good_seq fun K1 hK1 => ?_
  refine good_region ?_
  refine g_op rfl (ValOk.op (v_assign rfl rfl ?_)) 
  refine g_op rfl (ValOk.op (v_assign rfl rfl ?_)) 
  refine g_nil ?_
  refine hK1 _ ?_
  refine good_seq fun K2 hK2 => ?_
  refine good_region ?_
  refine g_op rfl (o_buildSlice (k := 16) (rows := ([] : List Bs).map encS) tabOk telem24 tsize9 rfl rfl rfl rfl (by decide) (by decide) (by rw [tzero9]; rfl) rfl rfl rfl rfl rfl ?_)
  intro w1
  refine g_op rfl (ValOk.op (v_assign rfl rfl ?_)) 
  refine g_nil ?_
  refine hK2 _ ?_
  refine Good.le (σ' := ⟨119, [(0, _), (2, _), (3, _), (4, _)], [(16, (_, _))]⟩) (le_w [some 16] rfl ⟨⟨_, rfl, .refl _⟩, ⟨⟨_, rfl, .refl _⟩, ⟨⟨_, rfl, .refl _⟩, ⟨⟨_, rfl, .refl _⟩, trivial⟩⟩⟩⟩ ⟨⟨_, rfl, .refl _⟩, trivial⟩ (by decide)) ?_
  refine good_seq fun K3 hK3 => ?_
  refine good_seq fun K4 hK4 => ?_
  refine good_region ?_
  refine g_op rfl (ValOk.op (v_assign rfl rfl ?_)) 
  refine g_nil ?_
  refine hK4 _ ?_
  obtain ⟨o1, ho1, hJ1⟩ := bnd h
  have hw1 : ∀ (s1 : (List Bs)) (w3 : Value), o1 = Lp.go s1 → ∀ σ', Le σ' ⟨119, [(0, .str a0), (2, .nil), (3, .bool false), (4, .hd 5201 w3)], [(5201, (w3, .osl 9 1 (s1.map encS)))]⟩ → K3 σ' := by
    intro s1 w3 e1 σ' hle1
    subst e1
    refine hK3 _ (Good.le hle1 ?_)
    replace h := hJ1
    refine good_seq fun K5 hK5 => ?_
    refine good_seq fun K6 hK6 => ?_
    refine good_region ?_
    refine g_op rfl (ValOk.op (v_move rfl rfl ?_)) 
    obtain ⟨y1, hy1, h⟩ := bnd h
    refine g_op rfl (o_callR [5201] [(_, _)] (core_value rfl rfl) (m_spec_PointerText_ok k s1 _ hy1) ⟨⟨_, rfl, .osl (FrzLL.map fun _ _ => encS_frz _)⟩, trivial⟩ (.cons (.frz _ _ _ (.head _)) (.nil)) (.inr (.str _)) rfl ?_)
    refine g_op rfl (ValOk.op (v_move rfl rfl ?_)) 
    refine g_op rfl (ValOk.op (v_bin rfl rfl rfl rfl ?_)) 
    refine g_nil ?_
    refine hK6 _ ?_
    refine Good.le (σ' := ⟨119, [(2, _), (3, _), (4, _), (116, _)], [(5201, (_, _))]⟩) (le_w [some 5201] rfl ⟨⟨_, rfl, .refl _⟩, ⟨⟨_, rfl, .refl _⟩, ⟨⟨_, rfl, .refl _⟩, ⟨⟨_, rfl, .refl _⟩, trivial⟩⟩⟩⟩ ⟨⟨_, rfl, .refl _⟩, trivial⟩ (by decide)) ?_
    refine good_cond rfl (fun hc1 => ?_) (fun hc1 => ?_)
    · replace h := ifF h (ndT hc1)
      refine good_seq fun K7 hK7 => ?_
      refine good_region ?_
      refine g_op rfl (o_buildSlice (k := 127) (rows := ([] : List Bs).map encS) tabOk telem24 tsize9 rfl rfl rfl rfl (by decide) (by decide) (by rw [tzero9]; rfl) rfl rfl rfl rfl rfl ?_)
      intro w4
      refine g_op rfl (ValOk.op (v_assign rfl rfl ?_)) 
      refine g_op rfl (ValOk.op (v_assign rfl rfl ?_)) 
      refine g_nil ?_
      refine hK7 _ ?_
      refine Good.le (σ' := ⟨119, [(2, _), (3, _), (4, _)], [(127, (_, _)), (5201, (_, _))]⟩) (le_w [some 127, some 5201] rfl ⟨⟨_, rfl, .refl _⟩, ⟨⟨_, rfl, .refl _⟩, ⟨⟨_, rfl, .refl _⟩, trivial⟩⟩⟩ ⟨⟨_, rfl, .refl _⟩, ⟨⟨_, rfl, .refl _⟩, trivial⟩⟩ (by decide)) ?_
      refine Good.le (σ' := ⟨119, [(2, .hd 100 w4), (3, .bool false)], [(100, (w4, .osl 9 1 (([] : List Bs).map encS)))]⟩) (le_w [some 127] rfl ⟨⟨_, rfl, .hd _ _ _⟩, ⟨⟨_, rfl, .refl _⟩, trivial⟩⟩ ⟨⟨_, rfl, .refl _⟩, trivial⟩ (by decide)) ?_
      refine good_ret ?_
      obtain rfl := Option.some.inj h
      refine thenQ_ret ?_
      exact endQ_ret (h' := [(100, (_, _))]) [some 100] (.tmp rfl (.tmp rfl (.nil))) ⟨⟨_, rfl, .refl _⟩, trivial⟩ (by decide) ⟨w4, rfl, rfl⟩
    · replace h := ifT h (ndF hc1)
      refine good_skip ?_
      refine hK5 _ ?_
      refine Good.le (σ' := ⟨119, [(2, _), (3, _), (4, _)], [(5201, (_, _))]⟩) (le_w [some 5201] rfl ⟨⟨_, rfl, .refl _⟩, ⟨⟨_, rfl, .refl _⟩, ⟨⟨_, rfl, .refl _⟩, trivial⟩⟩⟩ ⟨⟨_, rfl, .refl _⟩, trivial⟩ (by decide)) ?_
      refine good_seq fun K8 hK8 => ?_
      refine good_region ?_
      refine g_op rfl (ValOk.op (v_move rfl rfl ?_)) 
      refine g_op rfl (ValOk.op (v_assign rfl rfl ?_)) 
      refine g_op rfl (ValOk.op (v_assign rfl rfl ?_)) 
      refine g_nil ?_
      refine hK8 _ ?_
      refine Good.le (σ' := ⟨119, [(2, _), (3, _)], [(5201, (_, _))]⟩) (le_w [some 5201] rfl ⟨⟨_, rfl, .refl _⟩, ⟨⟨_, rfl, .refl _⟩, trivial⟩⟩ ⟨⟨_, rfl, .refl _⟩, trivial⟩ (by decide)) ?_
      refine Good.le (σ' := ⟨119, [(2, .hd 100 w3), (3, .bool true)], [(100, (w3, .osl 9 1 (s1.map encS)))]⟩) (le_w [some 5201] rfl ⟨⟨_, rfl, .hd _ _ _⟩, ⟨⟨_, rfl, .refl _⟩, trivial⟩⟩ ⟨⟨_, rfl, .refl _⟩, trivial⟩ (by decide)) ?_
      refine good_ret ?_
      obtain rfl := Option.some.inj h
      exact endQ_ret (h' := [(100, (_, _))]) [some 100] (.tmp rfl (.tmp rfl (.nil))) ⟨⟨_, rfl, .refl _⟩, trivial⟩ (by decide) ⟨w3, rfl, rfl⟩
  replace h := ho1
  refine good_block ?_
  refine good_loopf (fun p : ((List Bs) × Int × Value) => ⟨119, [(0, .str a0), (2, .nil), (3, .bool false), (4, .hd 5302 p.2.2), (5, .int .i64 p.2.1)], [(5302, (p.2.2, .osl 9 1 (p.1.map encS)))]⟩) (fun m p => m_spec_PointerGet_l1 m a0 p.1 p.2.1 = some o1) k (([] : List Bs), 0, w1) (le_w [some 16] rfl ⟨⟨_, rfl, .refl _⟩, ⟨⟨_, rfl, .refl _⟩, ⟨⟨_, rfl, .refl _⟩, ⟨⟨_, rfl, .hd _ _ _⟩, ⟨⟨_, rfl, .refl _⟩, trivial⟩⟩⟩⟩⟩ ⟨⟨_, rfl, .refl _⟩, trivial⟩ (by decide)) h ?_
  rintro m1 ⟨x1, x2, w2⟩ h
  replace h : m_spec_PointerGet_l1 m1 a0 x1 x2 = some o1 := h
  refine Good.le (σ' := ⟨119, [(0, .str a0), (2, .nil), (3, .bool false), (4, .hd 5302 w2), (5, .int .i64 x2)], [(5302, (w2, .osl 9 1 (x1.map encS)))]⟩) (Le.refl _) ?_
  obtain ⟨m1, rfl⟩ : ∃ m', m1 = m' + 1 := by cases m1 with | zero => (rw [m_spec_PointerGet_l1] at h; cases h) | succ m' => exact ⟨m', rfl⟩
  rw [m_spec_PointerGet_l1] at h
  refine good_seq fun K9 hK9 => ?_
  refine good_seq fun K10 hK10 => ?_
  refine good_region ?_
  refine g_op rfl (ValOk.op (v_move rfl rfl ?_)) 
  refine g_op rfl (ValOk.op (v_move rfl rfl ?_)) 
  refine g_op rfl (ValOk.op (v_lenS tabOk rfl rfl tkind9 rfl ?_)) 
  refine g_op rfl (ValOk.op (v_bin rfl rfl rfl rfl ?_)) 
  refine g_nil ?_
  refine hK10 _ ?_
  refine Good.le (σ' := ⟨119, [(0, _), (2, _), (3, _), (4, _), (5, _), (10, _)], [(5302, (_, _))]⟩) (le_w [some 5302] rfl ⟨⟨_, rfl, .refl _⟩, ⟨⟨_, rfl, .refl _⟩, ⟨⟨_, rfl, .refl _⟩, ⟨⟨_, rfl, .refl _⟩, ⟨⟨_, rfl, .refl _⟩, ⟨⟨_, rfl, .refl _⟩, trivial⟩⟩⟩⟩⟩⟩ ⟨⟨_, rfl, .refl _⟩, trivial⟩ (by decide)) ?_
  refine good_cond rfl (fun hc2 => ?_) (fun hc2 => ?_)
  · replace h := ifT h (dT hc2)
    refine good_skip ?_
    refine hK9 _ ?_
    refine Good.le (σ' := ⟨119, [(0, _), (2, _), (3, _), (4, _), (5, _)], [(5302, (_, _))]⟩) (le_w [some 5302] rfl ⟨⟨_, rfl, .refl _⟩, ⟨⟨_, rfl, .refl _⟩, ⟨⟨_, rfl, .refl _⟩, ⟨⟨_, rfl, .refl _⟩, ⟨⟨_, rfl, .refl _⟩, trivial⟩⟩⟩⟩⟩ ⟨⟨_, rfl, .refl _⟩, trivial⟩ (by decide)) ?_
    refine good_seq fun K11 hK11 => ?_
    refine good_block ?_
    refine good_seq fun K12 hK12 => ?_
    refine good_seq fun K13 hK13 => ?_
    obtain ⟨o2, ho2, hJ2⟩ := bnd h
    have hw2 : ∀ (s2 : Bool), o2 = Lp.go s2 → ∀ σ', Le σ' ⟨119, [(0, .str a0), (2, .nil), (3, .bool false), (4, .hd 5302 w2), (5, .int .i64 x2), (20, .bool s2)], [(5302, (w2, .osl 9 1 (x1.map encS)))]⟩ → K13 σ' := by
      intro s2 e2 σ' hle2
      subst e2
      refine hK13 _ (Good.le hle2 ?_)
      replace h := hJ2
      refine good_cond rfl (fun hc3 => ?_) (fun hc3 => ?_)
      · replace h := ifT h hc3
        refine good_seq fun K14 hK14 => ?_
        refine good_region ?_
        refine g_op rfl (o_buildSlice (k := 31) (rows := ([] : List Bs).map encS) tabOk telem24 tsize9 rfl rfl rfl rfl (by decide) (by decide) (by rw [tzero9]; rfl) rfl rfl rfl rfl rfl ?_)
        intro w5
        refine g_op rfl (ValOk.op (v_assign rfl rfl ?_)) 
        refine g_op rfl (ValOk.op (v_assign rfl rfl ?_)) 
        refine g_nil ?_
        refine hK14 _ ?_
        refine Good.le (σ' := ⟨119, [(0, _), (2, _), (3, _), (4, _), (5, _)], [(31, (_, _)), (5302, (_, _))]⟩) (le_w [some 31, some 5302] rfl ⟨⟨_, rfl, .refl _⟩, ⟨⟨_, rfl, .refl _⟩, ⟨⟨_, rfl, .refl _⟩, ⟨⟨_, rfl, .refl _⟩, ⟨⟨_, rfl, .refl _⟩, trivial⟩⟩⟩⟩⟩ ⟨⟨_, rfl, .refl _⟩, ⟨⟨_, rfl, .refl _⟩, trivial⟩⟩ (by decide)) ?_
        refine Good.le (σ' := ⟨119, [(2, .hd 100 w5), (3, .bool false)], [(100, (w5, .osl 9 1 (([] : List Bs).map encS)))]⟩) (le_w [some 31] rfl ⟨⟨_, rfl, .hd _ _ _⟩, ⟨⟨_, rfl, .refl _⟩, trivial⟩⟩ ⟨⟨_, rfl, .refl _⟩, trivial⟩ (by decide)) ?_
        refine good_ret ?_
        replace h := unret h hJ1
        obtain rfl := Option.some.inj h
        refine thenQ_ret ?_
        refine blockQ_ret ?_
        refine thenQ_ret ?_
        refine thenQ_ret ?_
        refine blockQ_ret ?_
        refine thenQ_ret ?_
        exact endQ_ret (h' := [(100, (_, _))]) [some 100] (.tmp rfl (.tmp rfl (.nil))) ⟨⟨_, rfl, .refl _⟩, trivial⟩ (by decide) ⟨w5, rfl, rfl⟩
      · replace h := bF h hc3
        refine good_skip ?_
        refine hK12 _ ?_
        refine Good.le (σ' := ⟨119, [(0, _), (2, _), (3, _), (4, _), (5, _)], [(5302, (_, _))]⟩) (le_w [some 5302] rfl ⟨⟨_, rfl, .refl _⟩, ⟨⟨_, rfl, .refl _⟩, ⟨⟨_, rfl, .refl _⟩, ⟨⟨_, rfl, .refl _⟩, ⟨⟨_, rfl, .refl _⟩, trivial⟩⟩⟩⟩⟩ ⟨⟨_, rfl, .refl _⟩, trivial⟩ (by decide)) ?_
        refine good_block ?_
        refine good_seq fun K15 hK15 => ?_
        refine good_region ?_
        refine g_op rfl (ValOk.op (v_move rfl rfl ?_)) 
        refine g_op rfl (ValOk.op (v_move rfl rfl ?_)) 
        obtain ⟨hb1, h⟩ := ifS h
        refine g_op rfl (ValOk.op (v_indexM tabOk rfl rfl tkind9 hb1 rfl ?_)) 
        refine g_op rfl (ValOk.op (v_bin rfl rfl rfl rfl ?_)) 
        refine g_op rfl (ValOk.op (v_assign rfl rfl ?_)) 
        refine g_nil ?_
        refine hK15 _ ?_
        refine Good.le (σ' := ⟨119, [(0, _), (2, _), (3, _), (4, _), (5, _), (39, _)], [(5302, (_, _))]⟩) (le_w [some 5302] rfl ⟨⟨_, rfl, .refl _⟩, ⟨⟨_, rfl, .refl _⟩, ⟨⟨_, rfl, .refl _⟩, ⟨⟨_, rfl, .refl _⟩, ⟨⟨_, rfl, .refl _⟩, ⟨⟨_, rfl, .refl _⟩, trivial⟩⟩⟩⟩⟩⟩ ⟨⟨_, rfl, .refl _⟩, trivial⟩ (by decide)) ?_
        refine good_cond rfl (fun hc4 => ?_) (fun hc4 => ?_)
        · replace h := ifT h (dT hc4)
          refine good_region ?_
          refine g_op rfl (ValOk.op (v_move rfl rfl ?_)) 
          refine g_op rfl (o_buildSlice (k := 55) (rows := [[]].map encS) tabOk telem24 tsize9 rfl rfl rfl rfl (by decide) (by decide) (by rw [tzero9]; rfl) rfl rfl rfl rfl rfl ?_)
          intro w6
          obtain ⟨hb2, h⟩ := ifS h
          refine g_op rfl (o_appendHM (q := 5302) (r := 55) (k := 56) (f := encS) tabOk ⟨_, rfl⟩ rfl ⟨_, rfl⟩ rfl rfl telem24 tsize9 tbytes9 tzero9 rfl (by decide) (by decide) encS_ok rfl rfl rfl hb2 ?_)
          intro w7
          refine g_op rfl (ValOk.op (v_assign rfl rfl ?_)) 
          refine g_nil ?_
          refine hK11 _ ?_
          refine Good.le (σ' := ⟨119, [(0, _), (2, _), (3, _), (4, _), (5, _)], [(56, (_, _))]⟩) (le_w [some 56] rfl ⟨⟨_, rfl, .refl _⟩, ⟨⟨_, rfl, .refl _⟩, ⟨⟨_, rfl, .refl _⟩, ⟨⟨_, rfl, .refl _⟩, ⟨⟨_, rfl, .refl _⟩, trivial⟩⟩⟩⟩⟩ ⟨⟨_, rfl, .refl _⟩, trivial⟩ (by decide)) ?_
          refine good_region ?_
          refine g_op rfl (ValOk.op (v_move rfl rfl ?_)) 
          refine g_op rfl (ValOk.op (v_bin rfl rfl rfl rfl ?_)) 
          refine g_op rfl (ValOk.op (v_assign rfl rfl ?_)) 
          refine g_nil ?_
          exact round_mk m1 (x1 ++ [[]], IntKind.wrap .i64 (x2 + 1), w7) (Nat.lt_succ_self _) h (le_w [some 56] rfl ⟨⟨_, rfl, .refl _⟩, ⟨⟨_, rfl, .refl _⟩, ⟨⟨_, rfl, .refl _⟩, ⟨⟨_, rfl, .hd _ _ _⟩, ⟨⟨_, rfl, .refl _⟩, trivial⟩⟩⟩⟩⟩ ⟨⟨_, rfl, .refl _⟩, trivial⟩ (by decide))
        · replace h := ifF h (dF hc4)
          refine good_seq fun K16 hK16 => ?_
          obtain ⟨o3, ho3, hJ3⟩ := bnd h
          have hw3 : ∀ (s3 : Bool), o3 = Lp.go s3 → ∀ σ', Le σ' ⟨119, [(0, .str a0), (2, .nil), (3, .bool false), (4, .hd 5302 w2), (5, .int .i64 x2), (47, .bool s3)], [(5302, (w2, .osl 9 1 (x1.map encS)))]⟩ → K16 σ' := by
            intro s3 e3 σ' hle3
            subst e3
            refine hK16 _ (Good.le hle3 ?_)
            replace h := hJ3
            refine good_cond rfl (fun hc5 => ?_) (fun hc5 => ?_)
            · replace h := ifT h hc5
              refine good_seq fun K17 hK17 => ?_
              refine good_region ?_
              refine g_op rfl (ValOk.op (v_move rfl rfl ?_)) 
              refine g_op rfl (ValOk.op (v_move rfl rfl ?_)) 
              refine g_op rfl (ValOk.op (v_lenHM (q := 5302) tabOk ⟨_, rfl⟩ rfl rfl telem24 rfl ?_)) 
              refine g_op rfl (ValOk.op (v_bin rfl rfl rfl rfl ?_)) 
              refine g_op rfl (ValOk.op (v_move rfl rfl ?_)) 
              refine g_op rfl (ValOk.op (v_move rfl rfl ?_)) 
              refine g_op rfl (ValOk.op (v_lenHM (q := 5302) tabOk ⟨_, rfl⟩ rfl rfl telem24 rfl ?_)) 
              refine g_op rfl (ValOk.op (v_bin rfl rfl rfl rfl ?_)) 
              obtain ⟨hb3, h⟩ := ifS h
              refine g_op rfl (ValOk.op (v_idxHM (q := 5302) tabOk ⟨_, rfl⟩ rfl rfl telem24 tsize9 hb3 rfl ?_)) 
              refine g_op rfl (ValOk.op (v_loadRM tabOk rfl rfl hb3 rfl tsize9 tagg9 rfl rfl rfl rfl ?_)) 
              obtain ⟨hb4, h⟩ := ifS h
              refine g_op rfl (ValOk.op (v_cat rfl rfl hb4 rfl ?_)) 
              obtain ⟨hb5, h⟩ := ifS h
              refine g_op rfl (ValOk.op (v_idxHM (q := 5302) tabOk ⟨_, rfl⟩ rfl rfl telem24 tsize9 hb5 rfl ?_)) 
              refine g_op rfl (o_storeRM tabOk (z := (ix x1 (IntKind.wrap .i64 ((x1.length : Int) - 1))) ++ [126]) rfl rfl tsize9 rfl hb5 rfl rfl rfl (by decide) rfl rfl rfl rfl ?_)
              refine g_nil ?_
              refine hK17 _ ?_
              refine Good.le (σ' := ⟨119, [(0, _), (2, _), (3, _), (4, _), (5, _)], [(5302, (_, _))]⟩) (le_w [some 5302] rfl ⟨⟨_, rfl, .refl _⟩, ⟨⟨_, rfl, .refl _⟩, ⟨⟨_, rfl, .refl _⟩, ⟨⟨_, rfl, .refl _⟩, ⟨⟨_, rfl, .refl _⟩, trivial⟩⟩⟩⟩⟩ ⟨⟨_, rfl, .refl _⟩, trivial⟩ (by decide)) ?_
              refine good_region ?_
              refine g_op rfl (ValOk.op (v_move rfl rfl ?_)) 
              refine g_op rfl (ValOk.op (v_bin rfl rfl rfl rfl ?_)) 
              refine g_op rfl (ValOk.op (v_assign rfl rfl ?_)) 
              refine g_nil ?_
              refine hK11 _ ?_
              refine Good.le (σ' := ⟨119, [(0, _), (2, _), (3, _), (4, _), (5, _)], [(5302, (_, _))]⟩) (le_w [some 5302] rfl ⟨⟨_, rfl, .refl _⟩, ⟨⟨_, rfl, .refl _⟩, ⟨⟨_, rfl, .refl _⟩, ⟨⟨_, rfl, .refl _⟩, ⟨⟨_, rfl, .refl _⟩, trivial⟩⟩⟩⟩⟩ ⟨⟨_, rfl, .refl _⟩, trivial⟩ (by decide)) ?_
              refine good_region ?_
              refine g_op rfl (ValOk.op (v_move rfl rfl ?_)) 
              refine g_op rfl (ValOk.op (v_bin rfl rfl rfl rfl ?_)) 
              refine g_op rfl (ValOk.op (v_assign rfl rfl ?_)) 
              refine g_nil ?_
              exact round_mk m1 (x1.set (Int.toNat (IntKind.wrap .i64 ((x1.length : Int) - 1))) ((ix x1 (IntKind.wrap .i64 ((x1.length : Int) - 1))) ++ [126]), IntKind.wrap .i64 ((IntKind.wrap .i64 (x2 + 1)) + 1), w2) (Nat.lt_succ_self _) h (le_w [some 5302] rfl ⟨⟨_, rfl, .refl _⟩, ⟨⟨_, rfl, .refl _⟩, ⟨⟨_, rfl, .refl _⟩, ⟨⟨_, rfl, .refl _⟩, ⟨⟨_, rfl, .refl _⟩, trivial⟩⟩⟩⟩⟩ ⟨⟨_, rfl, .refl _⟩, trivial⟩ (by decide))
            · replace h := bF h hc5
              refine good_seq fun K18 hK18 => ?_
              obtain ⟨o4, ho4, hJ4⟩ := bnd h
              have hw4 : ∀ (s4 : Bool), o4 = Lp.go s4 → ∀ σ', Le σ' ⟨119, [(0, .str a0), (2, .nil), (3, .bool false), (4, .hd 5302 w2), (5, .int .i64 x2), (80, .bool s4)], [(5302, (w2, .osl 9 1 (x1.map encS)))]⟩ → K18 σ' := by
                intro s4 e4 σ' hle4
                subst e4
                refine hK18 _ (Good.le hle4 ?_)
                replace h := hJ4
                refine good_cond rfl (fun hc6 => ?_) (fun hc6 => ?_)
                · replace h := ifT h hc6
                  refine good_seq fun K19 hK19 => ?_
                  refine good_region ?_
                  refine g_op rfl (ValOk.op (v_move rfl rfl ?_)) 
                  refine g_op rfl (ValOk.op (v_move rfl rfl ?_)) 
                  refine g_op rfl (ValOk.op (v_lenHM (q := 5302) tabOk ⟨_, rfl⟩ rfl rfl telem24 rfl ?_)) 
                  refine g_op rfl (ValOk.op (v_bin rfl rfl rfl rfl ?_)) 
                  refine g_op rfl (ValOk.op (v_move rfl rfl ?_)) 
                  refine g_op rfl (ValOk.op (v_move rfl rfl ?_)) 
                  refine g_op rfl (ValOk.op (v_lenHM (q := 5302) tabOk ⟨_, rfl⟩ rfl rfl telem24 rfl ?_)) 
                  refine g_op rfl (ValOk.op (v_bin rfl rfl rfl rfl ?_)) 
                  obtain ⟨hb6, h⟩ := ifS h
                  refine g_op rfl (ValOk.op (v_idxHM (q := 5302) tabOk ⟨_, rfl⟩ rfl rfl telem24 tsize9 hb6 rfl ?_)) 
                  refine g_op rfl (ValOk.op (v_loadRM tabOk rfl rfl hb6 rfl tsize9 tagg9 rfl rfl rfl rfl ?_)) 
                  obtain ⟨hb7, h⟩ := ifS h
                  refine g_op rfl (ValOk.op (v_cat rfl rfl hb7 rfl ?_)) 
                  obtain ⟨hb8, h⟩ := ifS h
                  refine g_op rfl (ValOk.op (v_idxHM (q := 5302) tabOk ⟨_, rfl⟩ rfl rfl telem24 tsize9 hb8 rfl ?_)) 
                  refine g_op rfl (o_storeRM tabOk (z := (ix x1 (IntKind.wrap .i64 ((x1.length : Int) - 1))) ++ [47]) rfl rfl tsize9 rfl hb8 rfl rfl rfl (by decide) rfl rfl rfl rfl ?_)
                  refine g_nil ?_
                  refine hK19 _ ?_
                  refine Good.le (σ' := ⟨119, [(0, _), (2, _), (3, _), (4, _), (5, _)], [(5302, (_, _))]⟩) (le_w [some 5302] rfl ⟨⟨_, rfl, .refl _⟩, ⟨⟨_, rfl, .refl _⟩, ⟨⟨_, rfl, .refl _⟩, ⟨⟨_, rfl, .refl _⟩, ⟨⟨_, rfl, .refl _⟩, trivial⟩⟩⟩⟩⟩ ⟨⟨_, rfl, .refl _⟩, trivial⟩ (by decide)) ?_
                  refine good_region ?_
                  refine g_op rfl (ValOk.op (v_move rfl rfl ?_)) 
                  refine g_op rfl (ValOk.op (v_bin rfl rfl rfl rfl ?_)) 
                  refine g_op rfl (ValOk.op (v_assign rfl rfl ?_)) 
                  refine g_nil ?_
                  refine hK11 _ ?_
                  refine Good.le (σ' := ⟨119, [(0, _), (2, _), (3, _), (4, _), (5, _)], [(5302, (_, _))]⟩) (le_w [some 5302] rfl ⟨⟨_, rfl, .refl _⟩, ⟨⟨_, rfl, .refl _⟩, ⟨⟨_, rfl, .refl _⟩, ⟨⟨_, rfl, .refl _⟩, ⟨⟨_, rfl, .refl _⟩, trivial⟩⟩⟩⟩⟩ ⟨⟨_, rfl, .refl _⟩, trivial⟩ (by decide)) ?_
                  refine good_region ?_
                  refine g_op rfl (ValOk.op (v_move rfl rfl ?_)) 
                  refine g_op rfl (ValOk.op (v_bin rfl rfl rfl rfl ?_)) 
                  refine g_op rfl (ValOk.op (v_assign rfl rfl ?_)) 
                  refine g_nil ?_
                  exact round_mk m1 (x1.set (Int.toNat (IntKind.wrap .i64 ((x1.length : Int) - 1))) ((ix x1 (IntKind.wrap .i64 ((x1.length : Int) - 1))) ++ [47]), IntKind.wrap .i64 ((IntKind.wrap .i64 (x2 + 1)) + 1), w2) (Nat.lt_succ_self _) h (le_w [some 5302] rfl ⟨⟨_, rfl, .refl _⟩, ⟨⟨_, rfl, .refl _⟩, ⟨⟨_, rfl, .refl _⟩, ⟨⟨_, rfl, .refl _⟩, ⟨⟨_, rfl, .refl _⟩, trivial⟩⟩⟩⟩⟩ ⟨⟨_, rfl, .refl _⟩, trivial⟩ (by decide))
                · replace h := bF h hc6
                  obtain ⟨hb9, h⟩ := ifS h
                  obtain ⟨hb10, h⟩ := ifS h
                  obtain ⟨hb11, h⟩ := ifS h
                  obtain ⟨hb12, h⟩ := ifS h
                  refine good_anyM (by kernel_rfl) [⟨[], [4], [], [], [], []⟩, ⟨[], [4], [], [], [], []⟩, ⟨[1], [23], [5302], [], [], []⟩, ⟨[1, 2], [24], [], [], [], []⟩, ⟨[], [4], [], [], [], []⟩, ⟨[], [4], [], [], [], []⟩, ⟨[5], [27], [5302], [], [], []⟩, ⟨[5, 6], [28], [], [], [], []⟩, ⟨[4, 5, 6, 7], [26, 29], [5302], [], [], []⟩, ⟨[4, 5, 6, 7, 8], [30], [5302], [], [], []⟩, ⟨[], [0], [], [], [], []⟩, ⟨[], [5], [], [], [], []⟩, ⟨[], [5], [], [], [], []⟩, ⟨[12], [34], [], [], [], []⟩, ⟨[10, 11, 12, 13], [32, 33, 35], [], [], [], []⟩, ⟨[4, 5, 6, 7, 8, 9, 10, 11, 12, 13, 14], [31, 36], [], [], [], []⟩, ⟨[0, 1, 2, 3, 4, 5, 6, 7, 8, 9, 10, 11, 12, 13, 14, 15], [22, 25], [5302], [], [], []⟩, ⟨[0, 1, 2, 3, 4, 5, 6, 7, 8, 9, 10, 11, 12, 13, 14, 15, 16], [38, 37], [5302], [5302], [9003], []⟩] [some 22, some 23, some 24, some 25, some 26, some 27, some 28, some 29, some 30, some 31, some 32, some 33, some 34, some 35, some 36, some 37, some 38, none] 119 [(0, .str a0), (2, .nil), (3, .bool false), (4, .hd 5302 w2), (5, .int .i64 x2)] [(5302, (w2, .osl 9 1 (x1.map encS)))] (fun ν1 => [.hd 5302 w2, .hd 5302 w2, .int .i64 (x1.length : Int), .int .i64 (IntKind.wrap .i64 ((x1.length : Int) - 1)), .hd 5302 w2, .hd 5302 w2, .int .i64 (x1.length : Int), .int .i64 (IntKind.wrap .i64 ((x1.length : Int) - 1)), .rptr 5302 w2 1 (Int.toNat (IntKind.wrap .i64 ((x1.length : Int) - 1))) 0, .str (ix x1 (IntKind.wrap .i64 ((x1.length : Int) - 1))), .str a0, .int .i64 x2, .int .i64 x2, .int .i64 (IntKind.wrap .i64 (x2 + 1)), .str (sub a0 x2 (IntKind.wrap .i64 (x2 + 1))), .str ((ix x1 (IntKind.wrap .i64 ((x1.length : Int) - 1))) ++ (sub a0 x2 (IntKind.wrap .i64 (x2 + 1)))), .rptr 5302 w2 1 (Int.toNat (IntKind.wrap .i64 ((x1.length : Int) - 1))) 0, .und]) (fun ν1 => [(9003, (w2, .osl 9 1 ((x1.set (Int.toNat (IntKind.wrap .i64 ((x1.length : Int) - 1))) ((ix x1 (IntKind.wrap .i64 ((x1.length : Int) - 1))) ++ (sub a0 x2 (IntKind.wrap .i64 (x2 + 1))))).map encS)))]) [(9003, []), (5302, [])] [9003] [some 9003] (fun ν1 => [(0, .str a0), (2, .nil), (3, .bool false), (4, .hd 5302 w2), (5, .int .i64 x2)]) (fun ν1 => [(5302, (w2, .osl 9 1 ((x1.set (Int.toNat (IntKind.wrap .i64 ((x1.length : Int) - 1))) ((ix x1 (IntKind.wrap .i64 ((x1.length : Int) - 1))) ++ (sub a0 x2 (IntKind.wrap .i64 (x2 + 1))))).map encS)))]) (le_w [some 5302] rfl ⟨⟨_, rfl, .refl _⟩, ⟨⟨_, rfl, .refl _⟩, ⟨⟨_, rfl, .refl _⟩, ⟨⟨_, rfl, .refl _⟩, ⟨⟨_, rfl, .refl _⟩, trivial⟩⟩⟩⟩⟩ ⟨⟨_, rfl, .refl _⟩, trivial⟩ (by decide)) (by kernel_rfl) ⟨?_, ⟨?_, ⟨?_, ⟨?_, ⟨?_, ⟨?_, ⟨?_, ⟨?_, ⟨?_, ⟨?_, ⟨?_, ⟨?_, ⟨?_, ⟨?_, ⟨?_, ⟨?_, ⟨?_, ⟨?_, trivial⟩⟩⟩⟩⟩⟩⟩⟩⟩⟩⟩⟩⟩⟩⟩⟩⟩⟩ ⟨fun _ _ _ => rfl, ⟨fun _ _ _ => rfl, ⟨fun _ _ _ => rfl, ⟨fun _ _ _ => rfl, ⟨fun _ _ _ => rfl, ⟨fun _ _ _ => rfl, ⟨fun _ _ _ => rfl, ⟨fun _ _ _ => rfl, ⟨fun _ _ _ => rfl, ⟨fun _ _ _ => rfl, ⟨fun _ _ _ => rfl, ⟨fun _ _ _ => rfl, ⟨fun _ _ _ => rfl, ⟨fun _ _ _ => rfl, ⟨fun _ _ _ => rfl, ⟨fun _ _ _ => rfl, ⟨fun _ _ _ => rfl, ⟨fun _ _ _ => rfl, trivial⟩⟩⟩⟩⟩⟩⟩⟩⟩⟩⟩⟩⟩⟩⟩⟩⟩⟩ ⟨fun _ _ _ => rfl, ⟨fun _ _ _ => rfl, trivial⟩⟩ (fun _ => rfl) (fun _ => rfl) (by kernel_rfl) (fun _ => ⟨⟨_, rfl, .refl _⟩, ⟨⟨_, rfl, .refl _⟩, ⟨⟨_, rfl, .refl _⟩, ⟨⟨_, rfl, .refl _⟩, ⟨⟨_, rfl, .refl _⟩, trivial⟩⟩⟩⟩⟩) (fun _ => ⟨⟨_, rfl, .refl _⟩, trivial⟩) (by kernel_rfl) (by decide) ?_
                  · refine local_mk (fun ν1 => [(4, .hd 5302 w2)]) (fun ν1 => []) (fun _ => rfl) (fun _ => ⟨⟨_, rfl, .refl _, .refl _⟩, trivial⟩) (fun _ => rfl) (fun _ => trivial) ?_
                    intro ν1 S H hS hfr
                    refine st_op rfl (ValOk.op (v_move rfl rfl ?_)) 
                    exact lp_v hS rfl rfl (fun _ => rfl)
                  · refine local_mk (fun ν1 => [(4, .hd 5302 w2)]) (fun ν1 => []) (fun _ => rfl) (fun _ => ⟨⟨_, rfl, .refl _, .refl _⟩, trivial⟩) (fun _ => rfl) (fun _ => trivial) ?_
                    intro ν1 S H hS hfr
                    refine st_op rfl (ValOk.op (v_move rfl rfl ?_)) 
                    exact lp_v hS rfl rfl (fun _ => rfl)
                  · refine local_mk (fun ν1 => [(23, .hd 5302 w2)]) (fun ν1 => [(5302, (w2, .osl 9 1 (x1.map encS)))]) (fun _ => rfl) (fun _ => ⟨⟨_, rfl, .refl _, .refl _⟩, trivial⟩) (fun _ => rfl) (fun _ => ⟨rfl, trivial⟩) ?_
                    intro ν1 S H hS hfr
                    refine st_op rfl (ValOk.op (v_lenHM (q := 5302) tabOk ⟨_, rfl⟩ rfl rfl telem24 rfl ?_)) 
                    exact lp_v hS rfl rfl (fun _ => rfl)
                  · refine local_mk (fun ν1 => [(24, .int .i64 (x1.length : Int))]) (fun ν1 => []) (fun _ => rfl) (fun _ => ⟨⟨_, rfl, .refl _, .refl _⟩, trivial⟩) (fun _ => rfl) (fun _ => trivial) ?_
                    intro ν1 S H hS hfr
                    refine st_op rfl (ValOk.op (v_bin rfl rfl rfl rfl ?_)) 
                    exact lp_v hS rfl rfl (fun _ => rfl)
                  · refine local_mk (fun ν1 => [(4, .hd 5302 w2)]) (fun ν1 => []) (fun _ => rfl) (fun _ => ⟨⟨_, rfl, .refl _, .refl _⟩, trivial⟩) (fun _ => rfl) (fun _ => trivial) ?_
                    intro ν1 S H hS hfr
                    refine st_op rfl (ValOk.op (v_move rfl rfl ?_)) 
                    exact lp_v hS rfl rfl (fun _ => rfl)
                  · refine local_mk (fun ν1 => [(4, .hd 5302 w2)]) (fun ν1 => []) (fun _ => rfl) (fun _ => ⟨⟨_, rfl, .refl _, .refl _⟩, trivial⟩) (fun _ => rfl) (fun _ => trivial) ?_
                    intro ν1 S H hS hfr
                    refine st_op rfl (ValOk.op (v_move rfl rfl ?_)) 
                    exact lp_v hS rfl rfl (fun _ => rfl)
                  · refine local_mk (fun ν1 => [(27, .hd 5302 w2)]) (fun ν1 => [(5302, (w2, .osl 9 1 (x1.map encS)))]) (fun _ => rfl) (fun _ => ⟨⟨_, rfl, .refl _, .refl _⟩, trivial⟩) (fun _ => rfl) (fun _ => ⟨rfl, trivial⟩) ?_
                    intro ν1 S H hS hfr
                    refine st_op rfl (ValOk.op (v_lenHM (q := 5302) tabOk ⟨_, rfl⟩ rfl rfl telem24 rfl ?_)) 
                    exact lp_v hS rfl rfl (fun _ => rfl)
                  · refine local_mk (fun ν1 => [(28, .int .i64 (x1.length : Int))]) (fun ν1 => []) (fun _ => rfl) (fun _ => ⟨⟨_, rfl, .refl _, .refl _⟩, trivial⟩) (fun _ => rfl) (fun _ => trivial) ?_
                    intro ν1 S H hS hfr
                    refine st_op rfl (ValOk.op (v_bin rfl rfl rfl rfl ?_)) 
                    exact lp_v hS rfl rfl (fun _ => rfl)
                  · refine local_mk (fun ν1 => [(26, .hd 5302 w2), (29, .int .i64 (IntKind.wrap .i64 ((x1.length : Int) - 1)))]) (fun ν1 => [(5302, (w2, .osl 9 1 (x1.map encS)))]) (fun _ => rfl) (fun _ => ⟨⟨_, rfl, .refl _, .refl _⟩, ⟨⟨_, rfl, .refl _, .refl _⟩, trivial⟩⟩) (fun _ => rfl) (fun _ => ⟨rfl, trivial⟩) ?_
                    intro ν1 S H hS hfr
                    refine st_op rfl (ValOk.op (v_idxHM (q := 5302) tabOk ⟨_, rfl⟩ rfl rfl telem24 tsize9 hb9 rfl ?_)) 
                    exact lp_v hS rfl rfl (fun _ => rfl)
                  · refine local_mk (fun ν1 => [(30, .rptr 5302 w2 1 (Int.toNat (IntKind.wrap .i64 ((x1.length : Int) - 1))) 0)]) (fun ν1 => [(5302, (w2, .osl 9 1 (x1.map encS)))]) (fun _ => rfl) (fun _ => ⟨⟨_, rfl, .refl _, .refl _⟩, trivial⟩) (fun _ => rfl) (fun _ => ⟨rfl, trivial⟩) ?_
                    intro ν1 S H hS hfr
                    refine st_op rfl (ValOk.op (v_loadRM tabOk rfl rfl hb9 rfl tsize9 tagg9 rfl rfl rfl rfl ?_)) 
                    exact lp_v hS rfl rfl (fun _ => rfl)
                  · refine local_mk (fun ν1 => [(0, .str a0)]) (fun ν1 => []) (fun _ => rfl) (fun _ => ⟨⟨_, rfl, .refl _, .refl _⟩, trivial⟩) (fun _ => rfl) (fun _ => trivial) ?_
                    intro ν1 S H hS hfr
                    refine st_op rfl (ValOk.op (v_move rfl rfl ?_)) 
                    exact lp_v hS rfl rfl (fun _ => rfl)
                  · refine local_mk (fun ν1 => [(5, .int .i64 x2)]) (fun ν1 => []) (fun _ => rfl) (fun _ => ⟨⟨_, rfl, .refl _, .refl _⟩, trivial⟩) (fun _ => rfl) (fun _ => trivial) ?_
                    intro ν1 S H hS hfr
                    refine st_op rfl (ValOk.op (v_move rfl rfl ?_)) 
                    exact lp_v hS rfl rfl (fun _ => rfl)
                  · refine local_mk (fun ν1 => [(5, .int .i64 x2)]) (fun ν1 => []) (fun _ => rfl) (fun _ => ⟨⟨_, rfl, .refl _, .refl _⟩, trivial⟩) (fun _ => rfl) (fun _ => trivial) ?_
                    intro ν1 S H hS hfr
                    refine st_op rfl (ValOk.op (v_move rfl rfl ?_)) 
                    exact lp_v hS rfl rfl (fun _ => rfl)
                  · refine local_mk (fun ν1 => [(34, .int .i64 x2)]) (fun ν1 => []) (fun _ => rfl) (fun _ => ⟨⟨_, rfl, .refl _, .refl _⟩, trivial⟩) (fun _ => rfl) (fun _ => trivial) ?_
                    intro ν1 S H hS hfr
                    refine st_op rfl (ValOk.op (v_bin rfl rfl rfl rfl ?_)) 
                    exact lp_v hS rfl rfl (fun _ => rfl)
                  · refine local_mk (fun ν1 => [(32, .str a0), (33, .int .i64 x2), (35, .int .i64 (IntKind.wrap .i64 (x2 + 1)))]) (fun ν1 => []) (fun _ => rfl) (fun _ => ⟨⟨_, rfl, .refl _, .refl _⟩, ⟨⟨_, rfl, .refl _, .refl _⟩, ⟨⟨_, rfl, .refl _, .refl _⟩, trivial⟩⟩⟩) (fun _ => rfl) (fun _ => trivial) ?_
                    intro ν1 S H hS hfr
                    refine st_op rfl (ValOk.op (v_sliceSM tabOk rfl rfl rfl rfl tkind9 hb10 rfl ?_)) 
                    exact lp_v hS rfl rfl (fun _ => rfl)
                  · refine local_mk (fun ν1 => [(31, .str (ix x1 (IntKind.wrap .i64 ((x1.length : Int) - 1)))), (36, .str (sub a0 x2 (IntKind.wrap .i64 (x2 + 1))))]) (fun ν1 => []) (fun _ => rfl) (fun _ => ⟨⟨_, rfl, .refl _, .refl _⟩, ⟨⟨_, rfl, .refl _, .refl _⟩, trivial⟩⟩) (fun _ => rfl) (fun _ => trivial) ?_
                    intro ν1 S H hS hfr
                    refine st_op rfl (ValOk.op (v_cat rfl rfl hb11 rfl ?_)) 
                    exact lp_v hS rfl rfl (fun _ => rfl)
                  · refine local_mk (fun ν1 => [(22, .hd 5302 w2), (25, .int .i64 (IntKind.wrap .i64 ((x1.length : Int) - 1)))]) (fun ν1 => [(5302, (w2, .osl 9 1 (x1.map encS)))]) (fun _ => rfl) (fun _ => ⟨⟨_, rfl, .refl _, .refl _⟩, ⟨⟨_, rfl, .refl _, .refl _⟩, trivial⟩⟩) (fun _ => rfl) (fun _ => ⟨rfl, trivial⟩) ?_
                    intro ν1 S H hS hfr
                    refine st_op rfl (ValOk.op (v_idxHM (q := 5302) tabOk ⟨_, rfl⟩ rfl rfl telem24 tsize9 hb12 rfl ?_)) 
                    exact lp_v hS rfl rfl (fun _ => rfl)
                  · refine local_mk (fun ν1 => [(38, .rptr 5302 w2 1 (Int.toNat (IntKind.wrap .i64 ((x1.length : Int) - 1))) 0), (37, .str ((ix x1 (IntKind.wrap .i64 ((x1.length : Int) - 1))) ++ (sub a0 x2 (IntKind.wrap .i64 (x2 + 1)))))]) (fun ν1 => [(5302, (w2, .osl 9 1 (x1.map encS)))]) (fun _ => rfl) (fun _ => ⟨⟨_, rfl, .refl _, .refl _⟩, ⟨⟨_, rfl, .refl _, .refl _⟩, trivial⟩⟩) (fun _ => rfl) (fun _ => ⟨rfl, trivial⟩) ?_
                    intro ν1 S H hS hfr
                    refine st_op rfl (o_storeRM tabOk (z := (ix x1 (IntKind.wrap .i64 ((x1.length : Int) - 1))) ++ (sub a0 x2 (IntKind.wrap .i64 (x2 + 1)))) rfl rfl tsize9 rfl hb12 rfl rfl rfl (by decide) rfl rfl rfl rfl ?_)
                    exact lp_m (k := 9003) hS rfl rfl (.inr (by decide)) (fun _ => rfl) rfl
                  intro ν1
                  refine hK11 _ ?_
                  refine good_region ?_
                  refine g_op rfl (ValOk.op (v_move rfl rfl ?_)) 
                  refine g_op rfl (ValOk.op (v_bin rfl rfl rfl rfl ?_)) 
                  refine g_op rfl (ValOk.op (v_assign rfl rfl ?_)) 
                  refine g_nil ?_
                  exact round_mk m1 (x1.set (Int.toNat (IntKind.wrap .i64 ((x1.length : Int) - 1))) ((ix x1 (IntKind.wrap .i64 ((x1.length : Int) - 1))) ++ (sub a0 x2 (IntKind.wrap .i64 (x2 + 1)))), IntKind.wrap .i64 (x2 + 1), w2) (Nat.lt_succ_self _) h (le_w [some 5302] rfl ⟨⟨_, rfl, .refl _⟩, ⟨⟨_, rfl, .refl _⟩, ⟨⟨_, rfl, .refl _⟩, ⟨⟨_, rfl, .refl _⟩, ⟨⟨_, rfl, .refl _⟩, trivial⟩⟩⟩⟩⟩ ⟨⟨_, rfl, .refl _⟩, trivial⟩ (by decide))
              replace h := ho4
              refine good_region ?_
              refine g_op rfl (ValOk.op (v_move rfl rfl ?_)) 
              refine g_op rfl (ValOk.op (v_move rfl rfl ?_)) 
              obtain ⟨hb13, h⟩ := ifS h
              refine g_op rfl (ValOk.op (v_indexM tabOk rfl rfl tkind9 hb13 rfl ?_)) 
              refine g_op rfl (ValOk.op (v_bin rfl rfl rfl rfl ?_)) 
              refine g_op rfl (ValOk.op (v_move rfl rfl ?_)) 
              rcases bsplit ((decide ((byt a0 x2) = 126))) with hg1 | hg1
              · replace h := ifT h (dT hg1)
                refine g_yes rfl rfl hg1 (ValOk.op (v_move rfl rfl ?_)) 
                refine g_yes rfl rfl hg1 (ValOk.op (v_bin rfl rfl rfl rfl ?_)) 
                refine g_yes rfl rfl hg1 (ValOk.op (v_move rfl rfl ?_)) 
                refine g_yes rfl rfl hg1 (ValOk.op (v_lenS tabOk rfl rfl tkind9 rfl ?_)) 
                refine g_yes rfl rfl hg1 (ValOk.op (v_bin rfl rfl rfl rfl ?_)) 
                refine g_op rfl (ValOk.op (v_pickT rfl hg1 rfl rfl ?_)) 
                refine g_op rfl (ValOk.op (v_move rfl rfl ?_)) 
                rcases bsplit ((decide ((IntKind.wrap .i64 (x2 + 1)) < (a0.length : Int)))) with hg2 | hg2
                · replace h := ifT h (dT hg2)
                  refine g_yes rfl rfl hg2 (ValOk.op (v_move rfl rfl ?_)) 
                  refine g_yes rfl rfl hg2 (ValOk.op (v_move rfl rfl ?_)) 
                  refine g_yes rfl rfl hg2 (ValOk.op (v_bin rfl rfl rfl rfl ?_)) 
                  obtain ⟨hb14, h⟩ := ifS h
                  refine g_yes rfl rfl hg2 (ValOk.op (v_indexM tabOk rfl rfl tkind9 hb14 rfl ?_)) 
                  refine g_yes rfl rfl hg2 (ValOk.op (v_bin rfl rfl rfl rfl ?_)) 
                  refine g_op rfl (ValOk.op (v_pickT rfl hg2 rfl rfl ?_)) 
                  refine g_op rfl (ValOk.op (v_assign rfl rfl ?_)) 
                  refine g_nil ?_
                  exact hw4 (decide ((byt a0 (IntKind.wrap .i64 (x2 + 1))) = 49)) (Option.some.inj h).symm _ (le_w [some 5302] rfl ⟨⟨_, rfl, .refl _⟩, ⟨⟨_, rfl, .refl _⟩, ⟨⟨_, rfl, .refl _⟩, ⟨⟨_, rfl, .refl _⟩, ⟨⟨_, rfl, .refl _⟩, ⟨⟨_, rfl, .refl _⟩, trivial⟩⟩⟩⟩⟩⟩ ⟨⟨_, rfl, .refl _⟩, trivial⟩ (by decide))
                · replace h := ifF h (dF hg2)
                  refine g_no rfl rfl hg2 rfl ?_
                  refine g_no rfl rfl hg2 rfl ?_
                  refine g_no rfl rfl hg2 rfl ?_
                  refine g_no rfl rfl hg2 rfl ?_
                  refine g_no rfl rfl hg2 rfl ?_
                  refine g_op rfl (ValOk.op (v_pickF rfl hg2 rfl rfl ?_)) 
                  refine g_op rfl (ValOk.op (v_assign rfl rfl ?_)) 
                  refine g_nil ?_
                  exact hw4 false (Option.some.inj h).symm _ (le_w [some 5302] rfl ⟨⟨_, rfl, .refl _⟩, ⟨⟨_, rfl, .refl _⟩, ⟨⟨_, rfl, .refl _⟩, ⟨⟨_, rfl, .refl _⟩, ⟨⟨_, rfl, .refl _⟩, ⟨⟨_, rfl, .refl _⟩, trivial⟩⟩⟩⟩⟩⟩ ⟨⟨_, rfl, .refl _⟩, trivial⟩ (by decide))
              · replace h := ifF h (dF hg1)
                refine g_no rfl rfl hg1 rfl ?_
                refine g_no rfl rfl hg1 rfl ?_
                refine g_no rfl rfl hg1 rfl ?_
                refine g_no rfl rfl hg1 rfl ?_
                refine g_no rfl rfl hg1 rfl ?_
                refine g_op rfl (ValOk.op (v_pickF rfl hg1 rfl rfl ?_)) 
                refine g_op rfl (ValOk.op (v_move rfl rfl ?_)) 
                refine g_no rfl rfl rfl rfl ?_
                refine g_no rfl rfl rfl rfl ?_
                refine g_no rfl rfl rfl rfl ?_
                refine g_no rfl rfl rfl rfl ?_
                refine g_no rfl rfl rfl rfl ?_
                refine g_op rfl (ValOk.op (v_pickF rfl rfl rfl rfl ?_)) 
                refine g_op rfl (ValOk.op (v_assign rfl rfl ?_)) 
                refine g_nil ?_
                exact hw4 false (Option.some.inj h).symm _ (le_w [some 5302] rfl ⟨⟨_, rfl, .refl _⟩, ⟨⟨_, rfl, .refl _⟩, ⟨⟨_, rfl, .refl _⟩, ⟨⟨_, rfl, .refl _⟩, ⟨⟨_, rfl, .refl _⟩, ⟨⟨_, rfl, .refl _⟩, trivial⟩⟩⟩⟩⟩⟩ ⟨⟨_, rfl, .refl _⟩, trivial⟩ (by decide))
          replace h := ho3
          refine good_region ?_
          refine g_op rfl (ValOk.op (v_move rfl rfl ?_)) 
          refine g_op rfl (ValOk.op (v_move rfl rfl ?_)) 
          obtain ⟨hb15, h⟩ := ifS h
          refine g_op rfl (ValOk.op (v_indexM tabOk rfl rfl tkind9 hb15 rfl ?_)) 
          refine g_op rfl (ValOk.op (v_bin rfl rfl rfl rfl ?_)) 
          refine g_op rfl (ValOk.op (v_move rfl rfl ?_)) 
          rcases bsplit ((decide ((byt a0 x2) = 126))) with hg3 | hg3
          · replace h := ifT h (dT hg3)
            refine g_yes rfl rfl hg3 (ValOk.op (v_move rfl rfl ?_)) 
            refine g_yes rfl rfl hg3 (ValOk.op (v_bin rfl rfl rfl rfl ?_)) 
            refine g_yes rfl rfl hg3 (ValOk.op (v_move rfl rfl ?_)) 
            refine g_yes rfl rfl hg3 (ValOk.op (v_lenS tabOk rfl rfl tkind9 rfl ?_)) 
            refine g_yes rfl rfl hg3 (ValOk.op (v_bin rfl rfl rfl rfl ?_)) 
            refine g_op rfl (ValOk.op (v_pickT rfl hg3 rfl rfl ?_)) 
            refine g_op rfl (ValOk.op (v_move rfl rfl ?_)) 
            rcases bsplit ((decide ((IntKind.wrap .i64 (x2 + 1)) < (a0.length : Int)))) with hg4 | hg4
            · replace h := ifT h (dT hg4)
              refine g_yes rfl rfl hg4 (ValOk.op (v_move rfl rfl ?_)) 
              refine g_yes rfl rfl hg4 (ValOk.op (v_move rfl rfl ?_)) 
              refine g_yes rfl rfl hg4 (ValOk.op (v_bin rfl rfl rfl rfl ?_)) 
              obtain ⟨hb16, h⟩ := ifS h
              refine g_yes rfl rfl hg4 (ValOk.op (v_indexM tabOk rfl rfl tkind9 hb16 rfl ?_)) 
              refine g_yes rfl rfl hg4 (ValOk.op (v_bin rfl rfl rfl rfl ?_)) 
              refine g_op rfl (ValOk.op (v_pickT rfl hg4 rfl rfl ?_)) 
              refine g_op rfl (ValOk.op (v_assign rfl rfl ?_)) 
              refine g_nil ?_
              exact hw3 (decide ((byt a0 (IntKind.wrap .i64 (x2 + 1))) = 48)) (Option.some.inj h).symm _ (le_w [some 5302] rfl ⟨⟨_, rfl, .refl _⟩, ⟨⟨_, rfl, .refl _⟩, ⟨⟨_, rfl, .refl _⟩, ⟨⟨_, rfl, .refl _⟩, ⟨⟨_, rfl, .refl _⟩, ⟨⟨_, rfl, .refl _⟩, trivial⟩⟩⟩⟩⟩⟩ ⟨⟨_, rfl, .refl _⟩, trivial⟩ (by decide))
            · replace h := ifF h (dF hg4)
              refine g_no rfl rfl hg4 rfl ?_
              refine g_no rfl rfl hg4 rfl ?_
              refine g_no rfl rfl hg4 rfl ?_
              refine g_no rfl rfl hg4 rfl ?_
              refine g_no rfl rfl hg4 rfl ?_
              refine g_op rfl (ValOk.op (v_pickF rfl hg4 rfl rfl ?_)) 
              refine g_op rfl (ValOk.op (v_assign rfl rfl ?_)) 
              refine g_nil ?_
              exact hw3 false (Option.some.inj h).symm _ (le_w [some 5302] rfl ⟨⟨_, rfl, .refl _⟩, ⟨⟨_, rfl, .refl _⟩, ⟨⟨_, rfl, .refl _⟩, ⟨⟨_, rfl, .refl _⟩, ⟨⟨_, rfl, .refl _⟩, ⟨⟨_, rfl, .refl _⟩, trivial⟩⟩⟩⟩⟩⟩ ⟨⟨_, rfl, .refl _⟩, trivial⟩ (by decide))
          · replace h := ifF h (dF hg3)
            refine g_no rfl rfl hg3 rfl ?_
            refine g_no rfl rfl hg3 rfl ?_
            refine g_no rfl rfl hg3 rfl ?_
            refine g_no rfl rfl hg3 rfl ?_
            refine g_no rfl rfl hg3 rfl ?_
            refine g_op rfl (ValOk.op (v_pickF rfl hg3 rfl rfl ?_)) 
            refine g_op rfl (ValOk.op (v_move rfl rfl ?_)) 
            refine g_no rfl rfl rfl rfl ?_
            refine g_no rfl rfl rfl rfl ?_
            refine g_no rfl rfl rfl rfl ?_
            refine g_no rfl rfl rfl rfl ?_
            refine g_no rfl rfl rfl rfl ?_
            refine g_op rfl (ValOk.op (v_pickF rfl rfl rfl rfl ?_)) 
            refine g_op rfl (ValOk.op (v_assign rfl rfl ?_)) 
            refine g_nil ?_
            exact hw3 false (Option.some.inj h).symm _ (le_w [some 5302] rfl ⟨⟨_, rfl, .refl _⟩, ⟨⟨_, rfl, .refl _⟩, ⟨⟨_, rfl, .refl _⟩, ⟨⟨_, rfl, .refl _⟩, ⟨⟨_, rfl, .refl _⟩, ⟨⟨_, rfl, .refl _⟩, trivial⟩⟩⟩⟩⟩⟩ ⟨⟨_, rfl, .refl _⟩, trivial⟩ (by decide))
    replace h := ho2
    refine good_region ?_
    refine g_op rfl (ValOk.op (v_move rfl rfl ?_)) 
    refine g_op rfl (ValOk.op (v_bin rfl rfl rfl rfl ?_)) 
    refine g_op rfl (ValOk.op (v_move rfl rfl ?_)) 
    rcases bsplit ((decide (x2 = 0))) with hg5 | hg5
    · replace h := ifT h (dT hg5)
      refine g_yes rfl rfl hg5 (ValOk.op (v_move rfl rfl ?_)) 
      refine g_yes rfl rfl hg5 (ValOk.op (v_move rfl rfl ?_)) 
      obtain ⟨hb17, h⟩ := ifS h
      refine g_yes rfl rfl hg5 (ValOk.op (v_indexM tabOk rfl rfl tkind9 hb17 rfl ?_)) 
      refine g_yes rfl rfl hg5 (ValOk.op (v_bin rfl rfl rfl rfl ?_)) 
      refine g_op rfl (ValOk.op (v_pickT rfl hg5 rfl rfl ?_)) 
      refine g_nil ?_
      exact hw2 (!(decide ((byt a0 x2) = 47))) (Option.some.inj h).symm _ (le_w [some 5302] rfl ⟨⟨_, rfl, .refl _⟩, ⟨⟨_, rfl, .refl _⟩, ⟨⟨_, rfl, .refl _⟩, ⟨⟨_, rfl, .refl _⟩, ⟨⟨_, rfl, .refl _⟩, ⟨⟨_, rfl, .refl _⟩, trivial⟩⟩⟩⟩⟩⟩ ⟨⟨_, rfl, .refl _⟩, trivial⟩ (by decide))
    · replace h := ifF h (dF hg5)
      refine g_no rfl rfl hg5 rfl ?_
      refine g_no rfl rfl hg5 rfl ?_
      refine g_no rfl rfl hg5 rfl ?_
      refine g_no rfl rfl hg5 rfl ?_
      refine g_op rfl (ValOk.op (v_pickF rfl hg5 rfl rfl ?_)) 
      refine g_nil ?_
      exact hw2 false (Option.some.inj h).symm _ (le_w [some 5302] rfl ⟨⟨_, rfl, .refl _⟩, ⟨⟨_, rfl, .refl _⟩, ⟨⟨_, rfl, .refl _⟩, ⟨⟨_, rfl, .refl _⟩, ⟨⟨_, rfl, .refl _⟩, ⟨⟨_, rfl, .refl _⟩, trivial⟩⟩⟩⟩⟩⟩ ⟨⟨_, rfl, .refl _⟩, trivial⟩ (by decide))
  · replace h := ifF h (dF hc2)
    refine good_exit ?_
    exact hw1 x1 w2 (Option.some.inj h).symm _ (le_w [some 5302] rfl ⟨⟨_, rfl, .refl _⟩, ⟨⟨_, rfl, .refl _⟩, ⟨⟨_, rfl, .refl _⟩, ⟨⟨_, rfl, .hd _ _ _⟩, trivial⟩⟩⟩⟩ ⟨⟨_, rfl, .refl _⟩, trivial⟩ (by decide))
theorem m_spec_PointerGet_okF (k : Nat) : ∀ (a0 : Bs) (r : ((List Bs) × Bool)), m_spec_PointerGet k a0 = some r → Does Tryd.prog 9 [.str a0] [] (ret (.tup [.sl false (r.1.map encS), .bool r.2])) := by
  intro a0 r h
  refine does_frz (m_spec_PointerGet_ok k a0 r h) ?_
  rintro q h' ⟨u0, rfl, rfl⟩
  exact ⟨[100], [(_, _)], ⟨⟨_, rfl, .osl (FrzLL.map fun _ _ => encS_frz _)⟩, trivial⟩, .tup (.cons (.frz _ _ _ (.head _)) (.cons (.refl _) (.nil)))⟩
def m_laws_eqStringS_l1 : Nat → (List Bs) → (List Bs) → Int → Option (Lp Unit Bool)
  | 0, _, _, _ => none
  | k + 1, a0, a1, x1 =>
    if x1 < (a0.length : Int) then
      if (0 : Int) ≤ x1 ∧ x1 < (a0.length : Int) then
        if (0 : Int) ≤ x1 ∧ x1 < (a1.length : Int) then
          if (ix a0 x1) = (ix a1 x1) then
            m_laws_eqStringS_l1 k a0 a1 (IntKind.wrap .i64 (x1 + 1))
          else
            (some false).bind fun z =>
            some (Lp.ret z)
        else none
      else none
    else
      some (Lp.go ())
def m_laws_eqStringS (k : Nat) (a0 : (List Bs)) (a1 : (List Bs)) : Option Bool :=
  if (a0.length : Int) = (a1.length : Int) then
    (m_laws_eqStringS_l1 k a0 a1 0).bind fun o1 =>
    o1.then fun s1 =>
    some true
  else
    some false
theorem m_laws_eqStringS_ok (k : Nat) : ∀ (a0 : (List Bs)) (a1 : (List Bs)) (r : Bool), m_laws_eqStringS k a0 a1 = some r → Does Tryd.prog 11 [.sl false (a0.map encS), .sl false (a1.map encS)] [] (ret (.bool r)) := by
  intro a0 a1 r h
  rw [m_laws_eqStringS] at h
  refine does_of_good tabOk Tryd.func11 rfl (by decide +kernel) (Nat.le_of_ble_eq_true rfl) fun c => ?_
  refine Good.le (σ' := ⟨26, [(0, .sl false (a0.map encS)), (1, .sl false (a1.map encS))], []⟩) (Le.refl _) ?_
  refine good_seq fun K1 hK1 => ?_
  refine good_region ?_
  refine g_op rfl (ValOk.op (v_assign rfl rfl ?_)) 
  refine g_nil ?_
  refine hK1 _ ?_
  refine good_seq fun K2 hK2 => ?_
  refine good_seq fun K3 hK3 => ?_
  refine good_region ?_
  refine g_op rfl (ValOk.op (v_move rfl rfl ?_)) 
  refine g_op rfl (ValOk.op (v_lenM (l := a0) (f := encS) tabOk rfl rfl telem24 rfl ?_)) 
  refine g_op rfl (ValOk.op (v_move rfl rfl ?_)) 
  refine g_op rfl (ValOk.op (v_lenM (l := a1) (f := encS) tabOk rfl rfl telem24 rfl ?_)) 
  refine g_op rfl (ValOk.op (v_bin rfl rfl rfl rfl ?_)) 
  refine g_nil ?_
  refine hK3 _ ?_
  refine Good.le (σ' := ⟨26, [(0, _), (1, _), (4, _), (10, _)], []⟩) (le_w [] rfl ⟨⟨_, rfl, .refl _⟩, ⟨⟨_, rfl, .refl _⟩, ⟨⟨_, rfl, .refl _⟩, ⟨⟨_, rfl, .refl _⟩, trivial⟩⟩⟩⟩ trivial (by decide)) ?_
  refine good_cond rfl (fun hc1 => ?_) (fun hc1 => ?_)
  · replace h := ifF h (ndT hc1)
    refine good_seq fun K4 hK4 => ?_
    refine good_region ?_
    refine g_op rfl (ValOk.op (v_assign rfl rfl ?_)) 
    refine g_nil ?_
    refine hK4 _ ?_
    refine Good.le (σ' := ⟨26, [(0, _), (1, _), (4, _)], []⟩) (le_w [] rfl ⟨⟨_, rfl, .refl _⟩, ⟨⟨_, rfl, .refl _⟩, ⟨⟨_, rfl, .refl _⟩, trivial⟩⟩⟩ trivial (by decide)) ?_
    refine Good.le (σ' := ⟨26, [(4, .bool false)], []⟩) (le_w [] rfl ⟨⟨_, rfl, .refl _⟩, trivial⟩ trivial (by decide)) ?_
    refine good_ret ?_
    obtain rfl := Option.some.inj h
    refine thenQ_ret ?_
    exact endQ_ret (h' := []) [] (.tmp rfl (.nil)) trivial (by decide) ⟨rfl, rfl⟩
  · replace h := ifT h (ndF hc1)
    refine good_skip ?_
    refine hK2 _ ?_
    refine Good.le (σ' := ⟨26, [(0, _), (1, _), (4, _)], []⟩) (le_w [] rfl ⟨⟨_, rfl, .refl _⟩, ⟨⟨_, rfl, .refl _⟩, ⟨⟨_, rfl, .refl _⟩, trivial⟩⟩⟩ trivial (by decide)) ?_
    refine good_seq fun K5 hK5 => ?_
    refine good_seq fun K6 hK6 => ?_
    refine good_region ?_
    refine g_op rfl (ValOk.op (v_assign rfl rfl ?_)) 
    refine g_nil ?_
    refine hK6 _ ?_
    obtain ⟨o1, ho1, hJ1⟩ := bnd h
    have hw1 : ∀ (s1 : Unit), o1 = Lp.go s1 → ∀ σ', Le σ' ⟨26, [(4, .bool false)], []⟩ → K5 σ' := by
      intro s1 e1 σ' hle1
      subst e1
      refine hK5 _ (Good.le hle1 ?_)
      replace h := hJ1
      refine good_seq fun K7 hK7 => ?_
      refine good_region ?_
      refine g_op rfl (ValOk.op (v_assign rfl rfl ?_)) 
      refine g_nil ?_
      refine hK7 _ ?_
      refine Good.le (σ' := ⟨26, [(4, .bool true)], []⟩) (le_w [] rfl ⟨⟨_, rfl, .refl _⟩, trivial⟩ trivial (by decide)) ?_
      refine good_ret ?_
      obtain rfl := Option.some.inj h
      exact endQ_ret (h' := []) [] (.tmp rfl (.nil)) trivial (by decide) ⟨rfl, rfl⟩
    replace h := ho1
    refine good_block ?_
    refine good_loopf (fun p : Int => ⟨26, [(0, .sl false (a0.map encS)), (1, .sl false (a1.map encS)), (4, .bool false), (5, .int .i64 p)], []⟩) (fun m p => m_laws_eqStringS_l1 m a0 a1 p = some o1) k (0) (le_w [] rfl ⟨⟨_, rfl, .refl _⟩, ⟨⟨_, rfl, .refl _⟩, ⟨⟨_, rfl, .refl _⟩, ⟨⟨_, rfl, .refl _⟩, trivial⟩⟩⟩⟩ trivial (by decide)) h ?_
    rintro m1 x1 h
    replace h : m_laws_eqStringS_l1 m1 a0 a1 x1 = some o1 := h
    refine Good.le (σ' := ⟨26, [(0, .sl false (a0.map encS)), (1, .sl false (a1.map encS)), (4, .bool false), (5, .int .i64 x1)], []⟩) (Le.refl _) ?_
    obtain ⟨m1, rfl⟩ : ∃ m', m1 = m' + 1 := by cases m1 with | zero => (rw [m_laws_eqStringS_l1] at h; cases h) | succ m' => exact ⟨m', rfl⟩
    rw [m_laws_eqStringS_l1] at h
    refine good_seq fun K8 hK8 => ?_
    refine good_seq fun K9 hK9 => ?_
    refine good_region ?_
    refine g_op rfl (ValOk.op (v_move rfl rfl ?_)) 
    refine g_op rfl (ValOk.op (v_move rfl rfl ?_)) 
    refine g_op rfl (ValOk.op (v_lenM (l := a0) (f := encS) tabOk rfl rfl telem24 rfl ?_)) 
    refine g_op rfl (ValOk.op (v_bin rfl rfl rfl rfl ?_)) 
    refine g_nil ?_
    refine hK9 _ ?_
    refine Good.le (σ' := ⟨26, [(0, _), (1, _), (4, _), (5, _), (14, _)], []⟩) (le_w [] rfl ⟨⟨_, rfl, .refl _⟩, ⟨⟨_, rfl, .refl _⟩, ⟨⟨_, rfl, .refl _⟩, ⟨⟨_, rfl, .refl _⟩, ⟨⟨_, rfl, .refl _⟩, trivial⟩⟩⟩⟩⟩ trivial (by decide)) ?_
    refine good_cond rfl (fun hc2 => ?_) (fun hc2 => ?_)
    · replace h := ifT h (dT hc2)
      refine good_skip ?_
      refine hK8 _ ?_
      refine Good.le (σ' := ⟨26, [(0, _), (1, _), (4, _), (5, _)], []⟩) (le_w [] rfl ⟨⟨_, rfl, .refl _⟩, ⟨⟨_, rfl, .refl _⟩, ⟨⟨_, rfl, .refl _⟩, ⟨⟨_, rfl, .refl _⟩, trivial⟩⟩⟩⟩ trivial (by decide)) ?_
      refine good_seq fun K10 hK10 => ?_
      refine good_block ?_
      refine good_seq fun K11 hK11 => ?_
      refine good_draw (by kernel_rfl) (by kernel_rfl) ?_
      refine q_op rfl (v_move rfl rfl ?_) 
      refine q_op rfl (v_move rfl rfl ?_) 
      obtain ⟨hb1, h⟩ := ifS h
      refine q_op rfl (v_idxM tabOk rfl rfl telem24 tsize9 hb1 rfl rfl rfl ?_) 
      refine q_op rfl (v_loadE tabOk rfl tsize9 tagg9 rfl rfl rfl ?_) 
      refine q_op rfl (v_move rfl rfl ?_) 
      refine q_op rfl (v_move rfl rfl ?_) 
      obtain ⟨hb2, h⟩ := ifS h
      refine q_op rfl (v_idxM tabOk rfl rfl telem24 tsize9 hb2 rfl rfl rfl ?_) 
      refine q_op rfl (v_loadE tabOk rfl tsize9 tagg9 rfl rfl rfl ?_) 
      refine q_op rfl (v_bin rfl rfl rfl rfl ?_) 
      refine q_nil ?_
      refine hK11 _ ?_
      refine Good.le (σ' := ⟨26, [(0, _), (1, _), (4, _), (5, _), (25, _)], []⟩) (le_w [] rfl ⟨⟨_, rfl, .refl _⟩, ⟨⟨_, rfl, .refl _⟩, ⟨⟨_, rfl, .refl _⟩, ⟨⟨_, rfl, .refl _⟩, ⟨⟨_, rfl, .refl _⟩, trivial⟩⟩⟩⟩⟩ trivial (by decide)) ?_
      refine good_cond rfl (fun hc3 => ?_) (fun hc3 => ?_)
      · replace h := ifF h (ndT hc3)
        refine good_seq fun K12 hK12 => ?_
        refine good_region ?_
        refine g_op rfl (ValOk.op (v_assign rfl rfl ?_)) 
        refine g_nil ?_
        refine hK12 _ ?_
        refine Good.le (σ' := ⟨26, [(0, _), (1, _), (4, _), (5, _)], []⟩) (le_w [] rfl ⟨⟨_, rfl, .refl _⟩, ⟨⟨_, rfl, .refl _⟩, ⟨⟨_, rfl, .refl _⟩, ⟨⟨_, rfl, .refl _⟩, trivial⟩⟩⟩⟩ trivial (by decide)) ?_
        refine Good.le (σ' := ⟨26, [(4, .bool false)], []⟩) (le_w [] rfl ⟨⟨_, rfl, .refl _⟩, trivial⟩ trivial (by decide)) ?_
        refine good_ret ?_
        replace h := unret h hJ1
        obtain rfl := Option.some.inj h
        refine blockQ_ret ?_
        refine thenQ_ret ?_
        refine thenQ_ret ?_
        refine blockQ_ret ?_
        refine thenQ_ret ?_
        exact endQ_ret (h' := []) [] (.tmp rfl (.nil)) trivial (by decide) ⟨rfl, rfl⟩
      · replace h := ifT h (ndF hc3)
        refine good_skip ?_
        refine hK10 _ ?_
        refine Good.le (σ' := ⟨26, [(0, _), (1, _), (4, _), (5, _)], []⟩) (le_w [] rfl ⟨⟨_, rfl, .refl _⟩, ⟨⟨_, rfl, .refl _⟩, ⟨⟨_, rfl, .refl _⟩, ⟨⟨_, rfl, .refl _⟩, trivial⟩⟩⟩⟩ trivial (by decide)) ?_
        refine good_region ?_
        refine g_op rfl (ValOk.op (v_move rfl rfl ?_)) 
        refine g_op rfl (ValOk.op (v_bin rfl rfl rfl rfl ?_)) 
        refine g_op rfl (ValOk.op (v_assign rfl rfl ?_)) 
        refine g_nil ?_
        exact round_mk m1 (IntKind.wrap .i64 (x1 + 1)) (Nat.lt_succ_self _) h (le_w [] rfl ⟨⟨_, rfl, .refl _⟩, ⟨⟨_, rfl, .refl _⟩, ⟨⟨_, rfl, .refl _⟩, ⟨⟨_, rfl, .refl _⟩, trivial⟩⟩⟩⟩ trivial (by decide))
    · replace h := ifF h (dF hc2)
      refine good_exit ?_
      exact hw1 () (Option.some.inj h).symm _ (le_w [] rfl ⟨⟨_, rfl, .refl _⟩, trivial⟩ trivial (by decide))
def m_laws_markText_l1 : Nat → Int → Bs → Option (Lp Bs Bs)
  | 0, _, _ => none
  | k + 1, x1, x2 =>
    if 0 < x1 then
      if ((ofI [IntKind.wrap .u8 (IntKind.wrap .i64 (48 + (Int.tmod x1 10)))]) ++ x2).length ≤ maxLen then
        m_laws_markText_l1 k (IntKind.wrap .i64 (Int.tdiv x1 10)) ((ofI [IntKind.wrap .u8 (IntKind.wrap .i64 (48 + (Int.tmod x1 10)))]) ++ x2)
      else none
    else
      some (Lp.go x2)
def m_laws_markText (k : Nat) (a0 : Int) : Option Bs :=
  if a0 ≤ 0 then
    some [109, 48]
  else
    (m_laws_markText_l1 k a0 []).bind fun o1 =>
    o1.then fun s1 =>
    if ([109] ++ s1).length ≤ maxLen then
      some ([109] ++ s1)
    else none
theorem m_laws_markText_ok (k : Nat) : ∀ (a0 : Int) (r : Bs), m_laws_markText k a0 = some r → Does Tryd.prog 30 [.int .i64 a0] [] (ret (.str r)) := by
  intro a0 r h
  rw [m_laws_markText] at h
  refine does_of_good tabOk Tryd.func30 rfl (by decide +kernel) (Nat.le_of_ble_eq_true rfl) fun c => ?_
  refine Good.le (σ' := ⟨20, [(0, .int .i64 a0)], []⟩) (Le.refl _) ?_
  refine good_seq fun K1 hK1 => ?_
  refine good_region ?_
  refine g_op rfl (ValOk.op (v_assign rfl rfl ?_)) 
  refine g_nil ?_
  refine hK1 _ ?_
  refine good_seq fun K2 hK2 => ?_
  refine good_seq fun K3 hK3 => ?_
  refine good_region ?_
  refine g_op rfl (ValOk.op (v_move rfl rfl ?_)) 
  refine g_op rfl (ValOk.op (v_bin rfl rfl rfl rfl ?_)) 
  refine g_nil ?_
  refine hK3 _ ?_
  refine Good.le (σ' := ⟨20, [(0, _), (2, _), (5, _)], []⟩) (le_w [] rfl ⟨⟨_, rfl, .refl _⟩, ⟨⟨_, rfl, .refl _⟩, ⟨⟨_, rfl, .refl _⟩, trivial⟩⟩⟩ trivial (by decide)) ?_
  refine good_cond rfl (fun hc1 => ?_) (fun hc1 => ?_)
  · replace h := ifT h (dT hc1)
    refine good_seq fun K4 hK4 => ?_
    refine good_region ?_
    refine g_op rfl (ValOk.op (v_assign rfl rfl ?_)) 
    refine g_nil ?_
    refine hK4 _ ?_
    refine Good.le (σ' := ⟨20, [(0, _), (2, _)], []⟩) (le_w [] rfl ⟨⟨_, rfl, .refl _⟩, ⟨⟨_, rfl, .refl _⟩, trivial⟩⟩ trivial (by decide)) ?_
    refine Good.le (σ' := ⟨20, [(2, .str [109, 48])], []⟩) (le_w [] rfl ⟨⟨_, rfl, .refl _⟩, trivial⟩ trivial (by decide)) ?_
    refine good_ret ?_
    obtain rfl := Option.some.inj h
    refine thenQ_ret ?_
    exact endQ_ret (h' := []) [] (.tmp rfl (.nil)) trivial (by decide) ⟨rfl, rfl⟩
  · replace h := ifF h (dF hc1)
    refine good_skip ?_
    refine hK2 _ ?_
    refine Good.le (σ' := ⟨20, [(0, _), (2, _)], []⟩) (le_w [] rfl ⟨⟨_, rfl, .refl _⟩, ⟨⟨_, rfl, .refl _⟩, trivial⟩⟩ trivial (by decide)) ?_
    refine good_seq fun K5 hK5 => ?_
    refine good_region ?_
    refine g_op rfl (ValOk.op (v_assign rfl rfl ?_)) 
    refine g_nil ?_
    refine hK5 _ ?_
    refine good_seq fun K6 hK6 => ?_
    obtain ⟨o1, ho1, hJ1⟩ := bnd h
    have hw1 : ∀ (s1 : Bs), o1 = Lp.go s1 → ∀ σ', Le σ' ⟨20, [(2, .str []), (3, .str s1)], []⟩ → K6 σ' := by
      intro s1 e1 σ' hle1
      subst e1
      refine hK6 _ (Good.le hle1 ?_)
      replace h := hJ1
      refine good_seq fun K7 hK7 => ?_
      refine good_region ?_
      refine g_op rfl (ValOk.op (v_move rfl rfl ?_)) 
      obtain ⟨hb1, h⟩ := ifS h
      refine g_op rfl (ValOk.op (v_cat rfl rfl hb1 rfl ?_)) 
      refine g_op rfl (ValOk.op (v_assign rfl rfl ?_)) 
      refine g_nil ?_
      refine hK7 _ ?_
      refine Good.le (σ' := ⟨20, [(2, _)], []⟩) (le_w [] rfl ⟨⟨_, rfl, .refl _⟩, trivial⟩ trivial (by decide)) ?_
      refine Good.le (σ' := ⟨20, [(2, .str ([109] ++ s1))], []⟩) (le_w [] rfl ⟨⟨_, rfl, .refl _⟩, trivial⟩ trivial (by decide)) ?_
      refine good_ret ?_
      obtain rfl := Option.some.inj h
      exact endQ_ret (h' := []) [] (.tmp rfl (.nil)) trivial (by decide) ⟨rfl, rfl⟩
    replace h := ho1
    refine good_block ?_
    refine good_loopf (fun p : (Int × Bs) => ⟨20, [(0, .int .i64 p.1), (2, .str []), (3, .str p.2)], []⟩) (fun m p => m_laws_markText_l1 m p.1 p.2 = some o1) k (a0, []) (le_w [] rfl ⟨⟨_, rfl, .refl _⟩, ⟨⟨_, rfl, .refl _⟩, ⟨⟨_, rfl, .refl _⟩, trivial⟩⟩⟩ trivial (by decide)) h ?_
    rintro m1 ⟨x1, x2⟩ h
    replace h : m_laws_markText_l1 m1 x1 x2 = some o1 := h
    refine Good.le (σ' := ⟨20, [(0, .int .i64 x1), (2, .str []), (3, .str x2)], []⟩) (Le.refl _) ?_
    obtain ⟨m1, rfl⟩ : ∃ m', m1 = m' + 1 := by cases m1 with | zero => (rw [m_laws_markText_l1] at h; cases h) | succ m' => exact ⟨m', rfl⟩
    rw [m_laws_markText_l1] at h
    refine good_seq fun K8 hK8 => ?_
    refine good_seq fun K9 hK9 => ?_
    refine good_region ?_
    refine g_op rfl (ValOk.op (v_move rfl rfl ?_)) 
    refine g_op rfl (ValOk.op (v_bin rfl rfl rfl rfl ?_)) 
    refine g_nil ?_
    refine hK9 _ ?_
    refine Good.le (σ' := ⟨20, [(0, _), (2, _), (3, _), (7, _)], []⟩) (le_w [] rfl ⟨⟨_, rfl, .refl _⟩, ⟨⟨_, rfl, .refl _⟩, ⟨⟨_, rfl, .refl _⟩, ⟨⟨_, rfl, .refl _⟩, trivial⟩⟩⟩⟩ trivial (by decide)) ?_
    refine good_cond rfl (fun hc2 => ?_) (fun hc2 => ?_)
    · replace h := ifT h (dT hc2)
      refine good_skip ?_
      refine hK8 _ ?_
      refine Good.le (σ' := ⟨20, [(0, _), (2, _), (3, _)], []⟩) (le_w [] rfl ⟨⟨_, rfl, .refl _⟩, ⟨⟨_, rfl, .refl _⟩, ⟨⟨_, rfl, .refl _⟩, trivial⟩⟩⟩ trivial (by decide)) ?_
      refine good_block ?_
      refine good_seq fun K10 hK10 => ?_
      refine good_region ?_
      refine g_op rfl (ValOk.op (v_move rfl rfl ?_)) 
      refine g_op rfl (ValOk.op (v_rem rfl rfl (by decide) rfl ?_)) 
      refine g_op rfl (ValOk.op (v_bin rfl rfl rfl rfl ?_)) 
      refine g_op rfl (ValOk.op (v_convI tabOk rfl tkind3 tkind5 rfl ?_)) 
      refine g_op rfl (o_buildSlice (k := 22) (rows := [IntKind.wrap .u8 (IntKind.wrap .i64 (48 + (Int.tmod x1 10)))].map (encI .u8)) tabOk telem30 tsize5 rfl rfl rfl rfl (by decide) (by decide) (by rw [tzero5]; rfl) rfl rfl rfl rfl rfl ?_)
      intro w1
      refine g_op rfl (ValOk.op (v_bytesHI (q := 22) tabOk ⟨_, rfl⟩ rfl telem30 tkind5 tkind9 rfl ?_)) 
      refine g_op rfl (ValOk.op (v_move rfl rfl ?_)) 
      obtain ⟨hb2, h⟩ := ifS h
      refine g_op rfl (ValOk.op (v_cat rfl rfl hb2 rfl ?_)) 
      refine g_op rfl (ValOk.op (v_assign rfl rfl ?_)) 
      refine g_nil ?_
      refine hK10 _ ?_
      refine Good.le (σ' := ⟨20, [(0, _), (2, _), (3, _)], []⟩) (le_w [] rfl ⟨⟨_, rfl, .refl _⟩, ⟨⟨_, rfl, .refl _⟩, ⟨⟨_, rfl, .refl _⟩, trivial⟩⟩⟩ trivial (by decide)) ?_
      refine good_region ?_
      refine g_op rfl (ValOk.op (v_move rfl rfl ?_)) 
      refine g_op rfl (ValOk.op (v_quo rfl rfl (by decide) rfl ?_)) 
      refine g_op rfl (ValOk.op (v_assign rfl rfl ?_)) 
      refine g_nil ?_
      exact round_mk m1 (IntKind.wrap .i64 (Int.tdiv x1 10), (ofI [IntKind.wrap .u8 (IntKind.wrap .i64 (48 + (Int.tmod x1 10)))]) ++ x2) (Nat.lt_succ_self _) h (le_w [] rfl ⟨⟨_, rfl, .refl _⟩, ⟨⟨_, rfl, .refl _⟩, ⟨⟨_, rfl, .refl _⟩, trivial⟩⟩⟩ trivial (by decide))
    · replace h := ifF h (dF hc2)
      refine good_exit ?_
      exact hw1 x2 (Option.some.inj h).symm _ (le_w [] rfl ⟨⟨_, rfl, .refl _⟩, ⟨⟨_, rfl, .refl _⟩, trivial⟩⟩ trivial (by decide))
def m_laws_markStringS_l1 : Nat → (List Bs) → Int → Int → Option (Lp ((List Bs) × Int) (Int × (List Bs)))
  | 0, _, _, _ => none
  | k + 1, x1, x2, x3 =>
    if x3 < (x1.length : Int) then
      (m_laws_markText k x2).bind fun y1 =>
      if (0 : Int) ≤ x3 ∧ x3 < (x1.length : Int) then
        m_laws_markStringS_l1 k (x1.set (Int.toNat x3) y1) (IntKind.wrap .i64 (x2 + 1)) (IntKind.wrap .i64 (x3 + 1))
      else none
    else
      some (Lp.go (x1, x2))
def m_laws_markStringS (k : Nat) (a0 : (List Bs)) (a1 : Int) : Option (Int × (List Bs)) :=
  (m_laws_markStringS_l1 k a0 a1 0).bind fun o1 =>
  o1.then fun s1 =>
    some (s1.2, s1.1)
theorem m_laws_markStringS_ok (k : Nat) : ∀ (a0 : (List Bs)) (a1 : Int) (v0_0 : Value) (r : (Int × (List Bs))), m_laws_markStringS k a0 a1 = some r → Does Tryd.prog 12 [.hd 0 v0_0, .int .i64 a1] [(0, (v0_0, .osl 9 1 (a0.map encS)))] (fun q h' => q = .int .i64 r.1 ∧ h' = [(0, (v0_0, .osl 9 1 (r.2.map encS)))]) := by
  intro a0 a1 v0_0 r h
  rw [m_laws_markStringS] at h
  refine does_of_good tabOk Tryd.func12 rfl (by decide +kernel) (Nat.le_of_ble_eq_true rfl) fun c => ?_
  refine Good.le (σ' := ⟨20, [(0, .hd 0 v0_0), (1, .int .i64 a1)], [(0, (v0_0, .osl 9 1 (a0.map encS)))]⟩) (Le.refl _) ?_
  refine good_seq fun K1 hK1 => ?_
  refine good_region ?_
  refine g_op rfl (ValOk.op (v_assign rfl rfl ?_)) 
  refine g_nil ?_
  refine hK1 _ ?_
  refine good_seq fun K2 hK2 => ?_
  refine good_seq fun K3 hK3 => ?_
  refine good_region ?_
  refine g_op rfl (ValOk.op (v_assign rfl rfl ?_)) 
  refine g_nil ?_
  refine hK3 _ ?_
  obtain ⟨o1, ho1, hJ1⟩ := bnd h
  have hw1 : ∀ (s1 : ((List Bs) × Int)), o1 = Lp.go s1 → ∀ σ', Le σ' ⟨20, [(1, .int .i64 s1.2), (4, .int .i64 0)], [(0, (v0_0, .osl 9 1 (s1.1.map encS)))]⟩ → K2 σ' := by
    intro s1 e1 σ' hle1
    subst e1
    refine hK2 _ (Good.le hle1 ?_)
    replace h := hJ1
    refine good_seq fun K4 hK4 => ?_
    refine good_region ?_
    refine g_op rfl (ValOk.op (v_move rfl rfl ?_)) 
    refine g_op rfl (ValOk.op (v_assign rfl rfl ?_)) 
    refine g_nil ?_
    refine hK4 _ ?_
    refine Good.le (σ' := ⟨20, [(4, _)], [(0, (_, _))]⟩) (le_w [some 0] rfl ⟨⟨_, rfl, .refl _⟩, trivial⟩ ⟨⟨_, rfl, .refl _⟩, trivial⟩ (by decide)) ?_
    refine Good.le (σ' := ⟨20, [(4, .int .i64 s1.2)], [(0, (v0_0, .osl 9 1 (s1.1.map encS)))]⟩) (le_w [some 0] rfl ⟨⟨_, rfl, .refl _⟩, trivial⟩ ⟨⟨_, rfl, .refl _⟩, trivial⟩ (by decide)) ?_
    refine good_ret ?_
    obtain rfl := Option.some.inj h
    exact endQ_ret (h' := [(0, (_, _))]) [some 0] (.tmp rfl (.nil)) ⟨⟨_, rfl, .refl _⟩, trivial⟩ (by decide) ⟨rfl, rfl⟩
  replace h := ho1
  refine good_block ?_
  refine good_loopf (fun p : ((List Bs) × Int × Int) => ⟨20, [(0, .hd 0 v0_0), (1, .int .i64 p.2.1), (4, .int .i64 0), (5, .int .i64 p.2.2)], [(0, (v0_0, .osl 9 1 (p.1.map encS)))]⟩) (fun m p => m_laws_markStringS_l1 m p.1 p.2.1 p.2.2 = some o1) k (a0, a1, 0) (le_w [some 0] rfl ⟨⟨_, rfl, .refl _⟩, ⟨⟨_, rfl, .refl _⟩, ⟨⟨_, rfl, .refl _⟩, ⟨⟨_, rfl, .refl _⟩, trivial⟩⟩⟩⟩ ⟨⟨_, rfl, .refl _⟩, trivial⟩ (by decide)) h ?_
  rintro m1 ⟨x1, x2, x3⟩ h
  replace h : m_laws_markStringS_l1 m1 x1 x2 x3 = some o1 := h
  refine Good.le (σ' := ⟨20, [(0, .hd 0 v0_0), (1, .int .i64 x2), (4, .int .i64 0), (5, .int .i64 x3)], [(0, (v0_0, .osl 9 1 (x1.map encS)))]⟩) (Le.refl _) ?_
  obtain ⟨m1, rfl⟩ : ∃ m', m1 = m' + 1 := by cases m1 with | zero => (rw [m_laws_markStringS_l1] at h; cases h) | succ m' => exact ⟨m', rfl⟩
  rw [m_laws_markStringS_l1] at h
  refine good_seq fun K5 hK5 => ?_
  refine good_seq fun K6 hK6 => ?_
  refine good_region ?_
  refine g_op rfl (ValOk.op (v_move rfl rfl ?_)) 
  refine g_op rfl (ValOk.op (v_move rfl rfl ?_)) 
  refine g_op rfl (ValOk.op (v_lenHM (q := 0) tabOk ⟨_, rfl⟩ rfl rfl telem24 rfl ?_)) 
  refine g_op rfl (ValOk.op (v_bin rfl rfl rfl rfl ?_)) 
  refine g_nil ?_
  refine hK6 _ ?_
  refine Good.le (σ' := ⟨20, [(0, _), (1, _), (4, _), (5, _), (9, _)], [(0, (_, _))]⟩) (le_w [some 0] rfl ⟨⟨_, rfl, .refl _⟩, ⟨⟨_, rfl, .refl _⟩, ⟨⟨_, rfl, .refl _⟩, ⟨⟨_, rfl, .refl _⟩, ⟨⟨_, rfl, .refl _⟩, trivial⟩⟩⟩⟩⟩ ⟨⟨_, rfl, .refl _⟩, trivial⟩ (by decide)) ?_
  refine good_cond rfl (fun hc1 => ?_) (fun hc1 => ?_)
  · replace h := ifT h (dT hc1)
    refine good_skip ?_
    refine hK5 _ ?_
    refine Good.le (σ' := ⟨20, [(0, _), (1, _), (4, _), (5, _)], [(0, (_, _))]⟩) (le_w [some 0] rfl ⟨⟨_, rfl, .refl _⟩, ⟨⟨_, rfl, .refl _⟩, ⟨⟨_, rfl, .refl _⟩, ⟨⟨_, rfl, .refl _⟩, trivial⟩⟩⟩⟩ ⟨⟨_, rfl, .refl _⟩, trivial⟩ (by decide)) ?_
    refine good_seq fun K7 hK7 => ?_
    refine good_block ?_
    refine good_seq fun K8 hK8 => ?_
    refine good_region ?_
    refine g_op rfl (ValOk.op (v_move rfl rfl ?_)) 
    refine g_op rfl (ValOk.op (v_move rfl rfl ?_)) 
    refine g_op rfl (ValOk.op (v_move rfl rfl ?_)) 
    obtain ⟨y1, hy1, h⟩ := bnd h
    refine g_op rfl (o_callR [] [] (core_value rfl rfl) (m_laws_markText_ok m1 x2 _ hy1) trivial (.cons (.refl _) (.nil)) (.inl rfl) rfl ?_)
    obtain ⟨hb1, h⟩ := ifS h
    refine g_op rfl (ValOk.op (v_idxHM (q := 0) tabOk ⟨_, rfl⟩ rfl rfl telem24 tsize9 hb1 rfl ?_)) 
    refine g_op rfl (o_storeRM tabOk (z := y1) rfl rfl tsize9 rfl hb1 rfl rfl rfl (by decide) rfl rfl rfl rfl ?_)
    refine g_nil ?_
    refine hK8 _ ?_
    refine Good.le (σ' := ⟨20, [(0, _), (1, _), (4, _), (5, _)], [(0, (_, _))]⟩) (le_w [some 0] rfl ⟨⟨_, rfl, .refl _⟩, ⟨⟨_, rfl, .refl _⟩, ⟨⟨_, rfl, .refl _⟩, ⟨⟨_, rfl, .refl _⟩, trivial⟩⟩⟩⟩ ⟨⟨_, rfl, .refl _⟩, trivial⟩ (by decide)) ?_
    refine good_region ?_
    refine g_op rfl (ValOk.op (v_move rfl rfl ?_)) 
    refine g_op rfl (ValOk.op (v_bin rfl rfl rfl rfl ?_)) 
    refine g_op rfl (ValOk.op (v_assign rfl rfl ?_)) 
    refine g_nil ?_
    refine hK7 _ ?_
    refine Good.le (σ' := ⟨20, [(0, _), (1, _), (4, _), (5, _)], [(0, (_, _))]⟩) (le_w [some 0] rfl ⟨⟨_, rfl, .refl _⟩, ⟨⟨_, rfl, .refl _⟩, ⟨⟨_, rfl, .refl _⟩, ⟨⟨_, rfl, .refl _⟩, trivial⟩⟩⟩⟩ ⟨⟨_, rfl, .refl _⟩, trivial⟩ (by decide)) ?_
    refine good_region ?_
    refine g_op rfl (ValOk.op (v_move rfl rfl ?_)) 
    refine g_op rfl (ValOk.op (v_bin rfl rfl rfl rfl ?_)) 
    refine g_op rfl (ValOk.op (v_assign rfl rfl ?_)) 
    refine g_nil ?_
    exact round_mk m1 (x1.set (Int.toNat x3) y1, IntKind.wrap .i64 (x2 + 1), IntKind.wrap .i64 (x3 + 1)) (Nat.lt_succ_self _) h (le_w [some 0] rfl ⟨⟨_, rfl, .refl _⟩, ⟨⟨_, rfl, .refl _⟩, ⟨⟨_, rfl, .refl _⟩, ⟨⟨_, rfl, .refl _⟩, trivial⟩⟩⟩⟩ ⟨⟨_, rfl, .refl _⟩, trivial⟩ (by decide))
  · replace h := ifF h (dF hc1)
    refine good_exit ?_
    exact hw1 (x1, x2) (Option.some.inj h).symm _ (le_w [some 0] rfl ⟨⟨_, rfl, .refl _⟩, ⟨⟨_, rfl, .refl _⟩, trivial⟩⟩ ⟨⟨_, rfl, .refl _⟩, trivial⟩ (by decide))
def m_laws_heldStringS_l1 : Nat → (List Bs) → Int → Int → Option (Lp Int Int)
  | 0, _, _, _ => none
  | k + 1, a0, x1, x2 =>
    if x2 < (a0.length : Int) then
      if (0 : Int) ≤ x2 ∧ x2 < (a0.length : Int) then
        (m_laws_markText k x1).bind fun y1 =>
        if (ix a0 x2) = y1 then
          m_laws_heldStringS_l1 k a0 (IntKind.wrap .i64 (x1 + 1)) (IntKind.wrap .i64 (x2 + 1))
        else
          (some (-1)).bind fun z =>
          some (Lp.ret z)
      else none
    else
      some (Lp.go x1)
def m_laws_heldStringS (k : Nat) (a0 : (List Bs)) (a1 : Int) : Option Int :=
  (m_laws_heldStringS_l1 k a0 a1 0).bind fun o1 =>
  o1.then fun s1 =>
    some s1
theorem m_laws_heldStringS_ok (k : Nat) : ∀ (a0 : (List Bs)) (a1 : Int) (r : Int), m_laws_heldStringS k a0 a1 = some r → Does Tryd.prog 13 [.sl false (a0.map encS), .int .i64 a1] [] (ret (.int .i64 r)) := by
  intro a0 a1 r h
  rw [m_laws_heldStringS] at h
  refine does_of_good tabOk Tryd.func13 rfl (by decide +kernel) (Nat.le_of_ble_eq_true rfl) fun c => ?_
  refine Good.le (σ' := ⟨22, [(0, .sl false (a0.map encS)), (1, .int .i64 a1)], []⟩) (Le.refl _) ?_
  refine good_seq fun K1 hK1 => ?_
  refine good_region ?_
  refine g_op rfl (ValOk.op (v_assign rfl rfl ?_)) 
  refine g_nil ?_
  refine hK1 _ ?_
  refine good_seq fun K2 hK2 => ?_
  refine good_seq fun K3 hK3 => ?_
  refine good_region ?_
  refine g_op rfl (ValOk.op (v_assign rfl rfl ?_)) 
  refine g_nil ?_
  refine hK3 _ ?_
  obtain ⟨o1, ho1, hJ1⟩ := bnd h
  have hw1 : ∀ (s1 : Int), o1 = Lp.go s1 → ∀ σ', Le σ' ⟨22, [(1, .int .i64 s1), (4, .int .i64 0)], []⟩ → K2 σ' := by
    intro s1 e1 σ' hle1
    subst e1
    refine hK2 _ (Good.le hle1 ?_)
    replace h := hJ1
    refine good_seq fun K4 hK4 => ?_
    refine good_region ?_
    refine g_op rfl (ValOk.op (v_move rfl rfl ?_)) 
    refine g_op rfl (ValOk.op (v_assign rfl rfl ?_)) 
    refine g_nil ?_
    refine hK4 _ ?_
    refine Good.le (σ' := ⟨22, [(4, _)], []⟩) (le_w [] rfl ⟨⟨_, rfl, .refl _⟩, trivial⟩ trivial (by decide)) ?_
    refine Good.le (σ' := ⟨22, [(4, .int .i64 s1)], []⟩) (le_w [] rfl ⟨⟨_, rfl, .refl _⟩, trivial⟩ trivial (by decide)) ?_
    refine good_ret ?_
    obtain rfl := Option.some.inj h
    exact endQ_ret (h' := []) [] (.tmp rfl (.nil)) trivial (by decide) ⟨rfl, rfl⟩
  replace h := ho1
  refine good_block ?_
  refine good_loopf (fun p : (Int × Int) => ⟨22, [(0, .sl false (a0.map encS)), (1, .int .i64 p.1), (4, .int .i64 0), (5, .int .i64 p.2)], []⟩) (fun m p => m_laws_heldStringS_l1 m a0 p.1 p.2 = some o1) k (a1, 0) (le_w [] rfl ⟨⟨_, rfl, .refl _⟩, ⟨⟨_, rfl, .refl _⟩, ⟨⟨_, rfl, .refl _⟩, ⟨⟨_, rfl, .refl _⟩, trivial⟩⟩⟩⟩ trivial (by decide)) h ?_
  rintro m1 ⟨x1, x2⟩ h
  replace h : m_laws_heldStringS_l1 m1 a0 x1 x2 = some o1 := h
  refine Good.le (σ' := ⟨22, [(0, .sl false (a0.map encS)), (1, .int .i64 x1), (4, .int .i64 0), (5, .int .i64 x2)], []⟩) (Le.refl _) ?_
  obtain ⟨m1, rfl⟩ : ∃ m', m1 = m' + 1 := by cases m1 with | zero => (rw [m_laws_heldStringS_l1] at h; cases h) | succ m' => exact ⟨m', rfl⟩
  rw [m_laws_heldStringS_l1] at h
  refine good_seq fun K5 hK5 => ?_
  refine good_seq fun K6 hK6 => ?_
  refine good_region ?_
  refine g_op rfl (ValOk.op (v_move rfl rfl ?_)) 
  refine g_op rfl (ValOk.op (v_move rfl rfl ?_)) 
  refine g_op rfl (ValOk.op (v_lenM (l := a0) (f := encS) tabOk rfl rfl telem24 rfl ?_)) 
  refine g_op rfl (ValOk.op (v_bin rfl rfl rfl rfl ?_)) 
  refine g_nil ?_
  refine hK6 _ ?_
  refine Good.le (σ' := ⟨22, [(0, _), (1, _), (4, _), (5, _), (9, _)], []⟩) (le_w [] rfl ⟨⟨_, rfl, .refl _⟩, ⟨⟨_, rfl, .refl _⟩, ⟨⟨_, rfl, .refl _⟩, ⟨⟨_, rfl, .refl _⟩, ⟨⟨_, rfl, .refl _⟩, trivial⟩⟩⟩⟩⟩ trivial (by decide)) ?_
  refine good_cond rfl (fun hc1 => ?_) (fun hc1 => ?_)
  · replace h := ifT h (dT hc1)
    refine good_skip ?_
    refine hK5 _ ?_
    refine Good.le (σ' := ⟨22, [(0, _), (1, _), (4, _), (5, _)], []⟩) (le_w [] rfl ⟨⟨_, rfl, .refl _⟩, ⟨⟨_, rfl, .refl _⟩, ⟨⟨_, rfl, .refl _⟩, ⟨⟨_, rfl, .refl _⟩, trivial⟩⟩⟩⟩ trivial (by decide)) ?_
    refine good_seq fun K7 hK7 => ?_
    refine good_block ?_
    refine good_seq fun K8 hK8 => ?_
    refine good_seq fun K9 hK9 => ?_
    refine good_draw (by kernel_rfl) (by kernel_rfl) ?_
    refine q_op rfl (v_move rfl rfl ?_) 
    refine q_op rfl (v_move rfl rfl ?_) 
    obtain ⟨hb1, h⟩ := ifS h
    refine q_op rfl (v_idxM tabOk rfl rfl telem24 tsize9 hb1 rfl rfl rfl ?_) 
    refine q_op rfl (v_loadE tabOk rfl tsize9 tagg9 rfl rfl rfl ?_) 
    refine q_op rfl (v_move rfl rfl ?_) 
    obtain ⟨y1, hy1, h⟩ := bnd h
    refine q_call [] [] (fun _ _ _ _ _ => wanted_none rfl _) (core_value rfl rfl) (m_laws_markText_ok m1 x1 _ hy1) trivial (.cons (.refl _) (.nil)) (.str _) rfl ?_
    refine q_op rfl (v_bin rfl rfl rfl rfl ?_) 
    refine q_nil ?_
    refine hK9 _ ?_
    refine Good.le (σ' := ⟨22, [(0, _), (1, _), (4, _), (5, _), (18, _)], []⟩) (le_w [] rfl ⟨⟨_, rfl, .refl _⟩, ⟨⟨_, rfl, .refl _⟩, ⟨⟨_, rfl, .refl _⟩, ⟨⟨_, rfl, .refl _⟩, ⟨⟨_, rfl, .refl _⟩, trivial⟩⟩⟩⟩⟩ trivial (by decide)) ?_
    refine good_cond rfl (fun hc2 => ?_) (fun hc2 => ?_)
    · replace h := ifF h (ndT hc2)
      refine good_seq fun K10 hK10 => ?_
      refine good_region ?_
      refine g_op rfl (ValOk.op (v_assign rfl rfl ?_)) 
      refine g_nil ?_
      refine hK10 _ ?_
      refine Good.le (σ' := ⟨22, [(0, _), (1, _), (4, _), (5, _)], []⟩) (le_w [] rfl ⟨⟨_, rfl, .refl _⟩, ⟨⟨_, rfl, .refl _⟩, ⟨⟨_, rfl, .refl _⟩, ⟨⟨_, rfl, .refl _⟩, trivial⟩⟩⟩⟩ trivial (by decide)) ?_
      refine Good.le (σ' := ⟨22, [(4, .int .i64 (-1))], []⟩) (le_w [] rfl ⟨⟨_, rfl, .refl _⟩, trivial⟩ trivial (by decide)) ?_
      refine good_ret ?_
      replace h := unret h hJ1
      obtain rfl := Option.some.inj h
      refine thenQ_ret ?_
      refine blockQ_ret ?_
      refine thenQ_ret ?_
      refine thenQ_ret ?_
      refine blockQ_ret ?_
      refine thenQ_ret ?_
      exact endQ_ret (h' := []) [] (.tmp rfl (.nil)) trivial (by decide) ⟨rfl, rfl⟩
    · replace h := ifT h (ndF hc2)
      refine good_skip ?_
      refine hK8 _ ?_
      refine Good.le (σ' := ⟨22, [(0, _), (1, _), (4, _), (5, _)], []⟩) (le_w [] rfl ⟨⟨_, rfl, .refl _⟩, ⟨⟨_, rfl, .refl _⟩, ⟨⟨_, rfl, .refl _⟩, ⟨⟨_, rfl, .refl _⟩, trivial⟩⟩⟩⟩ trivial (by decide)) ?_
      refine good_region ?_
      refine g_op rfl (ValOk.op (v_move rfl rfl ?_)) 
      refine g_op rfl (ValOk.op (v_bin rfl rfl rfl rfl ?_)) 
      refine g_op rfl (ValOk.op (v_assign rfl rfl ?_)) 
      refine g_nil ?_
      refine hK7 _ ?_
      refine Good.le (σ' := ⟨22, [(0, _), (1, _), (4, _), (5, _)], []⟩) (le_w [] rfl ⟨⟨_, rfl, .refl _⟩, ⟨⟨_, rfl, .refl _⟩, ⟨⟨_, rfl, .refl _⟩, ⟨⟨_, rfl, .refl _⟩, trivial⟩⟩⟩⟩ trivial (by decide)) ?_
      refine good_region ?_
      refine g_op rfl (ValOk.op (v_move rfl rfl ?_)) 
      refine g_op rfl (ValOk.op (v_bin rfl rfl rfl rfl ?_)) 
      refine g_op rfl (ValOk.op (v_assign rfl rfl ?_)) 
      refine g_nil ?_
      exact round_mk m1 (IntKind.wrap .i64 (x1 + 1), IntKind.wrap .i64 (x2 + 1)) (Nat.lt_succ_self _) h (le_w [] rfl ⟨⟨_, rfl, .refl _⟩, ⟨⟨_, rfl, .refl _⟩, ⟨⟨_, rfl, .refl _⟩, ⟨⟨_, rfl, .refl _⟩, trivial⟩⟩⟩⟩ trivial (by decide))
  · replace h := ifF h (dF hc1)
    refine good_exit ?_
    exact hw1 x1 (Option.some.inj h).symm _ (le_w [] rfl ⟨⟨_, rfl, .refl _⟩, ⟨⟨_, rfl, .refl _⟩, trivial⟩⟩ trivial (by decide))
end Go.Proofs.YtopbbjoflopjbaaDoor
