/- What functions of this program answer, as plain functions; each theorem says that the code comes to just that. -/
import Derived.Test.YtiaigcdckmpepaaDat
import Derived.Test.YtiaigcdckmpepaaB13
import Derived.Test.YtiaigcdckmpepaaDatO
/-! Functions of the program. -/
set_option linter.unusedVariables false
set_option linter.unnecessarySimpa false
set_option maxRecDepth 100000
set_option maxHeartbeats 20000000
noncomputable section
namespace Go.Proofs.Ytiaigcdckmpepaa
open Go.Bb
def m_laws_markText_l1 : Nat → Int → Bs → Option (Lp Bs Bs)
  | 0, _, _ => none
  | k + 1, x1, x2 =>
    if 0 < x1 then
      if ((ofI [IntKind.wrap .u8 (IntKind.wrap .i64 (48 + (Int.tmod x1 10)))]) ++ x2).length ≤ maxLen then
        m_laws_markText_l1 k (IntKind.wrap .i64 (Int.tdiv x1 10)) ((ofI [IntKind.wrap .u8 (IntKind.wrap .i64 (48 + (Int.tmod x1 10)))]) ++ x2)
      else none
    else
      some (Lp.go x2)
def m_laws_markText (k : Nat) (a0 : Int) : Option Bs :=
  if a0 ≤ 0 then
    some [109, 48]
  else
    (m_laws_markText_l1 k a0 []).bind fun o1 =>
    o1.then fun s1 =>
    if ([109] ++ s1).length ≤ maxLen then
      some ([109] ++ s1)
    else none
theorem m_laws_markText_ok (k : Nat) : ∀ (a0 : Int) (r : Bs), m_laws_markText k a0 = some r → Does Try.prog 86 [.int .i64 a0] [] (ret (.str r)) := by
  intro a0 r h
  rw [m_laws_markText] at h
  refine does_of_good tabOk Try.func86 rfl (by decide +kernel) (Nat.le_of_ble_eq_true rfl) fun c => ?_
  refine Good.le (σ' := ⟨20, [(0, .int .i64 a0)], []⟩) (Le.refl _) ?_
  refine good_seq fun K1 hK1 => ?_
  refine good_region ?_
  refine g_op rfl (ValOk.op (v_assign rfl rfl ?_)) 
  refine g_nil ?_
  refine hK1 _ ?_
  refine good_seq fun K2 hK2 => ?_
  refine good_seq fun K3 hK3 => ?_
  refine good_region ?_
  refine g_op rfl (ValOk.op (v_move rfl rfl ?_)) 
  refine g_op rfl (ValOk.op (v_bin rfl rfl rfl rfl ?_)) 
  refine g_nil ?_
  refine hK3 _ ?_
  refine Good.le (σ' := ⟨20, [(0, _), (2, _), (5, _)], []⟩) (le_w [] rfl ⟨⟨_, rfl, .refl _⟩, ⟨⟨_, rfl, .refl _⟩, ⟨⟨_, rfl, .refl _⟩, trivial⟩⟩⟩ trivial (by decide)) ?_
  refine good_cond rfl (fun hc1 => ?_) (fun hc1 => ?_)
  · replace h := ifT h (dT hc1)
    refine good_seq fun K4 hK4 => ?_
    refine good_region ?_
    refine g_op rfl (ValOk.op (v_assign rfl rfl ?_)) 
    refine g_nil ?_
    refine hK4 _ ?_
    refine Good.le (σ' := ⟨20, [(0, _), (2, _)], []⟩) (le_w [] rfl ⟨⟨_, rfl, .refl _⟩, ⟨⟨_, rfl, .refl _⟩, trivial⟩⟩ trivial (by decide)) ?_
    refine Good.le (σ' := ⟨20, [(2, .str [109, 48])], []⟩) (le_w [] rfl ⟨⟨_, rfl, .refl _⟩, trivial⟩ trivial (by decide)) ?_
    refine good_ret ?_
    obtain rfl := Option.some.inj h
    refine thenQ_ret ?_
    exact endQ_ret (h' := []) [] (.tmp rfl (.nil)) trivial (by decide) ⟨rfl, rfl⟩
  · replace h := ifF h (dF hc1)
    refine good_skip ?_
    refine hK2 _ ?_
    refine Good.le (σ' := ⟨20, [(0, _), (2, _)], []⟩) (le_w [] rfl ⟨⟨_, rfl, .refl _⟩, ⟨⟨_, rfl, .refl _⟩, trivial⟩⟩ trivial (by decide)) ?_
    refine good_seq fun K5 hK5 => ?_
    refine good_region ?_
    refine g_op rfl (ValOk.op (v_assign rfl rfl ?_)) 
    refine g_nil ?_
    refine hK5 _ ?_
    refine good_seq fun K6 hK6 => ?_
    obtain ⟨o1, ho1, hJ1⟩ := bnd h
    have hw1 : ∀ (s1 : Bs), o1 = Lp.go s1 → ∀ σ', Le σ' ⟨20, [(2, .str []), (3, .str s1)], []⟩ → K6 σ' := by
      intro s1 e1 σ' hle1
      subst e1
      refine hK6 _ (Good.le hle1 ?_)
      replace h := hJ1
      refine good_seq fun K7 hK7 => ?_
      refine good_region ?_
      refine g_op rfl (ValOk.op (v_move rfl rfl ?_)) 
      obtain ⟨hb1, h⟩ := ifS h
      refine g_op rfl (ValOk.op (v_cat rfl rfl hb1 rfl ?_)) 
      refine g_op rfl (ValOk.op (v_assign rfl rfl ?_)) 
      refine g_nil ?_
      refine hK7 _ ?_
      refine Good.le (σ' := ⟨20, [(2, _)], []⟩) (le_w [] rfl ⟨⟨_, rfl, .refl _⟩, trivial⟩ trivial (by decide)) ?_
      refine Good.le (σ' := ⟨20, [(2, .str ([109] ++ s1))], []⟩) (le_w [] rfl ⟨⟨_, rfl, .refl _⟩, trivial⟩ trivial (by decide)) ?_
      refine good_ret ?_
      obtain rfl := Option.some.inj h
      exact endQ_ret (h' := []) [] (.tmp rfl (.nil)) trivial (by decide) ⟨rfl, rfl⟩
    replace h := ho1
    refine good_block ?_
    refine good_loopf (fun p : (Int × Bs) => ⟨20, [(0, .int .i64 p.1), (2, .str []), (3, .str p.2)], []⟩) (fun m p => m_laws_markText_l1 m p.1 p.2 = some o1) k (a0, []) (le_w [] rfl ⟨⟨_, rfl, .refl _⟩, ⟨⟨_, rfl, .refl _⟩, ⟨⟨_, rfl, .refl _⟩, trivial⟩⟩⟩ trivial (by decide)) h ?_
    rintro m1 ⟨x1, x2⟩ h
    replace h : m_laws_markText_l1 m1 x1 x2 = some o1 := h
    refine Good.le (σ' := ⟨20, [(0, .int .i64 x1), (2, .str []), (3, .str x2)], []⟩) (Le.refl _) ?_
    obtain ⟨m1, rfl⟩ : ∃ m', m1 = m' + 1 := by cases m1 with | zero => (rw [m_laws_markText_l1] at h; cases h) | succ m' => exact ⟨m', rfl⟩
    rw [m_laws_markText_l1] at h
    refine good_seq fun K8 hK8 => ?_
    refine good_seq fun K9 hK9 => ?_
    refine good_region ?_
    refine g_op rfl (ValOk.op (v_move rfl rfl ?_)) 
    refine g_op rfl (ValOk.op (v_bin rfl rfl rfl rfl ?_)) 
    refine g_nil ?_
    refine hK9 _ ?_
    refine Good.le (σ' := ⟨20, [(0, _), (2, _), (3, _), (7, _)], []⟩) (le_w [] rfl ⟨⟨_, rfl, .refl _⟩, ⟨⟨_, rfl, .refl _⟩, ⟨⟨_, rfl, .refl _⟩, ⟨⟨_, rfl, .refl _⟩, trivial⟩⟩⟩⟩ trivial (by decide)) ?_
    refine good_cond rfl (fun hc2 => ?_) (fun hc2 => ?_)
    · replace h := ifT h (dT hc2)
      refine good_skip ?_
      refine hK8 _ ?_
      refine Good.le (σ' := ⟨20, [(0, _), (2, _), (3, _)], []⟩) (le_w [] rfl ⟨⟨_, rfl, .refl _⟩, ⟨⟨_, rfl, .refl _⟩, ⟨⟨_, rfl, .refl _⟩, trivial⟩⟩⟩ trivial (by decide)) ?_
      refine good_block ?_
      refine good_seq fun K10 hK10 => ?_
      refine good_region ?_
      refine g_op rfl (ValOk.op (v_move rfl rfl ?_)) 
      refine g_op rfl (ValOk.op (v_rem rfl rfl (by decide) rfl ?_)) 
      refine g_op rfl (ValOk.op (v_bin rfl rfl rfl rfl ?_)) 
      refine g_op rfl (ValOk.op (v_convI tabOk rfl tkind3 tkind5 rfl ?_)) 
      refine g_op rfl (o_buildSlice (k := 22) (rows := [IntKind.wrap .u8 (IntKind.wrap .i64 (48 + (Int.tmod x1 10)))].map (encI .u8)) tabOk telem42 tsize5 rfl rfl rfl rfl (by decide) (by decide) (by rw [tzero5]; rfl) rfl rfl rfl rfl rfl ?_)
      intro w1
      refine g_op rfl (ValOk.op (v_bytesHI (q := 22) tabOk ⟨_, rfl⟩ rfl telem42 tkind5 tkind9 rfl ?_)) 
      refine g_op rfl (ValOk.op (v_move rfl rfl ?_)) 
      obtain ⟨hb2, h⟩ := ifS h
      refine g_op rfl (ValOk.op (v_cat rfl rfl hb2 rfl ?_)) 
      refine g_op rfl (ValOk.op (v_assign rfl rfl ?_)) 
      refine g_nil ?_
      refine hK10 _ ?_
      refine Good.le (σ' := ⟨20, [(0, _), (2, _), (3, _)], []⟩) (le_w [] rfl ⟨⟨_, rfl, .refl _⟩, ⟨⟨_, rfl, .refl _⟩, ⟨⟨_, rfl, .refl _⟩, trivial⟩⟩⟩ trivial (by decide)) ?_
      refine good_region ?_
      refine g_op rfl (ValOk.op (v_move rfl rfl ?_)) 
      refine g_op rfl (ValOk.op (v_quo rfl rfl (by decide) rfl ?_)) 
      refine g_op rfl (ValOk.op (v_assign rfl rfl ?_)) 
      refine g_nil ?_
      exact round_mk m1 (IntKind.wrap .i64 (Int.tdiv x1 10), (ofI [IntKind.wrap .u8 (IntKind.wrap .i64 (48 + (Int.tmod x1 10)))]) ++ x2) (Nat.lt_succ_self _) h (le_w [] rfl ⟨⟨_, rfl, .refl _⟩, ⟨⟨_, rfl, .refl _⟩, ⟨⟨_, rfl, .refl _⟩, trivial⟩⟩⟩ trivial (by decide))
    · replace h := ifF h (dF hc2)
      refine good_exit ?_
      exact hw1 x2 (Option.some.inj h).symm _ (le_w [] rfl ⟨⟨_, rfl, .refl _⟩, ⟨⟨_, rfl, .refl _⟩, trivial⟩⟩ trivial (by decide))
def m_laws_markStringS_l1 : Nat → (List Bs) → Int → Int → Option (Lp ((List Bs) × Int) (Int × (List Bs)))
  | 0, _, _, _ => none
  | k + 1, x1, x2, x3 =>
    if x3 < (x1.length : Int) then
      (m_laws_markText k x2).bind fun y1 =>
      if (0 : Int) ≤ x3 ∧ x3 < (x1.length : Int) then
        m_laws_markStringS_l1 k (x1.set (Int.toNat x3) y1) (IntKind.wrap .i64 (x2 + 1)) (IntKind.wrap .i64 (x3 + 1))
      else none
    else
      some (Lp.go (x1, x2))
def m_laws_markStringS (k : Nat) (a0 : (List Bs)) (a1 : Int) : Option (Int × (List Bs)) :=
  (m_laws_markStringS_l1 k a0 a1 0).bind fun o1 =>
  o1.then fun s1 =>
    some (s1.2, s1.1)
theorem m_laws_markStringS_ok (k : Nat) : ∀ (a0 : (List Bs)) (a1 : Int) (v0_0 : Value) (r : (Int × (List Bs))), m_laws_markStringS k a0 a1 = some r → Does Try.prog 58 [.hd 0 v0_0, .int .i64 a1] [(0, (v0_0, .osl 9 1 (a0.map encS)))] (fun q h' => q = .int .i64 r.1 ∧ h' = [(0, (v0_0, .osl 9 1 (r.2.map encS)))]) := by
  intro a0 a1 v0_0 r h
  rw [m_laws_markStringS] at h
  refine does_of_good tabOk Try.func58 rfl (by decide +kernel) (Nat.le_of_ble_eq_true rfl) fun c => ?_
  refine Good.le (σ' := ⟨20, [(0, .hd 0 v0_0), (1, .int .i64 a1)], [(0, (v0_0, .osl 9 1 (a0.map encS)))]⟩) (Le.refl _) ?_
  refine good_seq fun K1 hK1 => ?_
  refine good_region ?_
  refine g_op rfl (ValOk.op (v_assign rfl rfl ?_)) 
  refine g_nil ?_
  refine hK1 _ ?_
  refine good_seq fun K2 hK2 => ?_
  refine good_seq fun K3 hK3 => ?_
  refine good_region ?_
  refine g_op rfl (ValOk.op (v_assign rfl rfl ?_)) 
  refine g_nil ?_
  refine hK3 _ ?_
  obtain ⟨o1, ho1, hJ1⟩ := bnd h
  have hw1 : ∀ (s1 : ((List Bs) × Int)), o1 = Lp.go s1 → ∀ σ', Le σ' ⟨20, [(1, .int .i64 s1.2), (4, .int .i64 0)], [(0, (v0_0, .osl 9 1 (s1.1.map encS)))]⟩ → K2 σ' := by
    intro s1 e1 σ' hle1
    subst e1
    refine hK2 _ (Good.le hle1 ?_)
    replace h := hJ1
    refine good_seq fun K4 hK4 => ?_
    refine good_region ?_
    refine g_op rfl (ValOk.op (v_move rfl rfl ?_)) 
    refine g_op rfl (ValOk.op (v_assign rfl rfl ?_)) 
    refine g_nil ?_
    refine hK4 _ ?_
    refine Good.le (σ' := ⟨20, [(4, _)], [(0, (_, _))]⟩) (le_w [some 0] rfl ⟨⟨_, rfl, .refl _⟩, trivial⟩ ⟨⟨_, rfl, .refl _⟩, trivial⟩ (by decide)) ?_
    refine Good.le (σ' := ⟨20, [(4, .int .i64 s1.2)], [(0, (v0_0, .osl 9 1 (s1.1.map encS)))]⟩) (le_w [some 0] rfl ⟨⟨_, rfl, .refl _⟩, trivial⟩ ⟨⟨_, rfl, .refl _⟩, trivial⟩ (by decide)) ?_
    refine good_ret ?_
    obtain rfl := Option.some.inj h
    exact endQ_ret (h' := [(0, (_, _))]) [some 0] (.tmp rfl (.nil)) ⟨⟨_, rfl, .refl _⟩, trivial⟩ (by decide) ⟨rfl, rfl⟩
  replace h := ho1
  refine good_block ?_
  refine good_loopf (fun p : ((List Bs) × Int × Int) => ⟨20, [(0, .hd 0 v0_0), (1, .int .i64 p.2.1), (4, .int .i64 0), (5, .int .i64 p.2.2)], [(0, (v0_0, .osl 9 1 (p.1.map encS)))]⟩) (fun m p => m_laws_markStringS_l1 m p.1 p.2.1 p.2.2 = some o1) k (a0, a1, 0) (le_w [some 0] rfl ⟨⟨_, rfl, .refl _⟩, ⟨⟨_, rfl, .refl _⟩, ⟨⟨_, rfl, .refl _⟩, ⟨⟨_, rfl, .refl _⟩, trivial⟩⟩⟩⟩ ⟨⟨_, rfl, .refl _⟩, trivial⟩ (by decide)) h ?_
  rintro m1 ⟨x1, x2, x3⟩ h
  replace h : m_laws_markStringS_l1 m1 x1 x2 x3 = some o1 := h
  refine Good.le (σ' := ⟨20, [(0, .hd 0 v0_0), (1, .int .i64 x2), (4, .int .i64 0), (5, .int .i64 x3)], [(0, (v0_0, .osl 9 1 (x1.map encS)))]⟩) (Le.refl _) ?_
  obtain ⟨m1, rfl⟩ : ∃ m', m1 = m' + 1 := by cases m1 with | zero => (rw [m_laws_markStringS_l1] at h; cases h) | succ m' => exact ⟨m', rfl⟩
  rw [m_laws_markStringS_l1] at h
  refine good_seq fun K5 hK5 => ?_
  refine good_seq fun K6 hK6 => ?_
  refine good_region ?_
  refine g_op rfl (ValOk.op (v_move rfl rfl ?_)) 
  refine g_op rfl (ValOk.op (v_move rfl rfl ?_)) 
  refine g_op rfl (ValOk.op (v_lenHM (q := 0) tabOk ⟨_, rfl⟩ rfl rfl telem23 rfl ?_)) 
  refine g_op rfl (ValOk.op (v_bin rfl rfl rfl rfl ?_)) 
  refine g_nil ?_
  refine hK6 _ ?_
  refine Good.le (σ' := ⟨20, [(0, _), (1, _), (4, _), (5, _), (9, _)], [(0, (_, _))]⟩) (le_w [some 0] rfl ⟨⟨_, rfl, .refl _⟩, ⟨⟨_, rfl, .refl _⟩, ⟨⟨_, rfl, .refl _⟩, ⟨⟨_, rfl, .refl _⟩, ⟨⟨_, rfl, .refl _⟩, trivial⟩⟩⟩⟩⟩ ⟨⟨_, rfl, .refl _⟩, trivial⟩ (by decide)) ?_
  refine good_cond rfl (fun hc1 => ?_) (fun hc1 => ?_)
  · replace h := ifT h (dT hc1)
    refine good_skip ?_
    refine hK5 _ ?_
    refine Good.le (σ' := ⟨20, [(0, _), (1, _), (4, _), (5, _)], [(0, (_, _))]⟩) (le_w [some 0] rfl ⟨⟨_, rfl, .refl _⟩, ⟨⟨_, rfl, .refl _⟩, ⟨⟨_, rfl, .refl _⟩, ⟨⟨_, rfl, .refl _⟩, trivial⟩⟩⟩⟩ ⟨⟨_, rfl, .refl _⟩, trivial⟩ (by decide)) ?_
    refine good_seq fun K7 hK7 => ?_
    refine good_block ?_
    refine good_seq fun K8 hK8 => ?_
    refine good_region ?_
    refine g_op rfl (ValOk.op (v_move rfl rfl ?_)) 
    refine g_op rfl (ValOk.op (v_move rfl rfl ?_)) 
    refine g_op rfl (ValOk.op (v_move rfl rfl ?_)) 
    obtain ⟨y1, hy1, h⟩ := bnd h
    refine g_op rfl (o_callR [] [] (core_value rfl rfl) (m_laws_markText_ok m1 x2 _ hy1) trivial (.cons (.refl _) (.nil)) (.inl rfl) rfl ?_)
    obtain ⟨hb1, h⟩ := ifS h
    refine g_op rfl (ValOk.op (v_idxHM (q := 0) tabOk ⟨_, rfl⟩ rfl rfl telem23 tsize9 hb1 rfl ?_)) 
    refine g_op rfl (o_storeRM tabOk (z := y1) rfl rfl tsize9 rfl hb1 rfl rfl rfl (by decide) rfl rfl rfl rfl ?_)
    refine g_nil ?_
    refine hK8 _ ?_
    refine Good.le (σ' := ⟨20, [(0, _), (1, _), (4, _), (5, _)], [(0, (_, _))]⟩) (le_w [some 0] rfl ⟨⟨_, rfl, .refl _⟩, ⟨⟨_, rfl, .refl _⟩, ⟨⟨_, rfl, .refl _⟩, ⟨⟨_, rfl, .refl _⟩, trivial⟩⟩⟩⟩ ⟨⟨_, rfl, .refl _⟩, trivial⟩ (by decide)) ?_
    refine good_region ?_
    refine g_op rfl (ValOk.op (v_move rfl rfl ?_)) 
    refine g_op rfl (ValOk.op (v_bin rfl rfl rfl rfl ?_)) 
    refine g_op rfl (ValOk.op (v_assign rfl rfl ?_)) 
    refine g_nil ?_
    refine hK7 _ ?_
    refine Good.le (σ' := ⟨20, [(0, _), (1, _), (4, _), (5, _)], [(0, (_, _))]⟩) (le_w [some 0] rfl ⟨⟨_, rfl, .refl _⟩, ⟨⟨_, rfl, .refl _⟩, ⟨⟨_, rfl, .refl _⟩, ⟨⟨_, rfl, .refl _⟩, trivial⟩⟩⟩⟩ ⟨⟨_, rfl, .refl _⟩, trivial⟩ (by decide)) ?_
    refine good_region ?_
    refine g_op rfl (ValOk.op (v_move rfl rfl ?_)) 
    refine g_op rfl (ValOk.op (v_bin rfl rfl rfl rfl ?_)) 
    refine g_op rfl (ValOk.op (v_assign rfl rfl ?_)) 
    refine g_nil ?_
    exact round_mk m1 (x1.set (Int.toNat x3) y1, IntKind.wrap .i64 (x2 + 1), IntKind.wrap .i64 (x3 + 1)) (Nat.lt_succ_self _) h (le_w [some 0] rfl ⟨⟨_, rfl, .refl _⟩, ⟨⟨_, rfl, .refl _⟩, ⟨⟨_, rfl, .refl _⟩, ⟨⟨_, rfl, .refl _⟩, trivial⟩⟩⟩⟩ ⟨⟨_, rfl, .refl _⟩, trivial⟩ (by decide))
  · replace h := ifF h (dF hc1)
    refine good_exit ?_
    exact hw1 (x1, x2) (Option.some.inj h).symm _ (le_w [some 0] rfl ⟨⟨_, rfl, .refl _⟩, ⟨⟨_, rfl, .refl _⟩, trivial⟩⟩ ⟨⟨_, rfl, .refl _⟩, trivial⟩ (by decide))
mutual
def m_laws_markValueS_l1 : Nat → (List Val) → Int → Int → Option (Lp ((List Val) × Int) (Int × (List Val)))
  | 0, _, _, _ => none
  | k + 1, x1, x2, x3 =>
    if x3 < (x1.length : Int) then
      if (0 : Int) ≤ x3 ∧ x3 < (x1.length : Int) then
        (m_laws_markText k (IntKind.wrap .i64 ((IntKind.wrap .i64 (x2 + 1)) + 1))).bind fun y1 =>
        (m_laws_markValueS k ((ix x1 x3).list) (IntKind.wrap .i64 ((IntKind.wrap .i64 ((IntKind.wrap .i64 (x2 + 1)) + 1)) + 1))).bind fun y2 =>
        (m_laws_markStringS k ((ix x1 x3).names) y2.1).bind fun y3 =>
        m_laws_markValueS_l1 k (x1.set (Int.toNat x3) (Val.mk x2 (IntKind.wrap .i64 (x2 + 1)) y1 y2.2 y3.2)) y3.1 (IntKind.wrap .i64 (x3 + 1))
      else none
    else
      some (Lp.go (x1, x2))
def m_laws_markValueS : Nat → (List Val) → Int → Option (Int × (List Val))
  | 0, _, _ => none
  | k + 1, a0, a1 =>
    (m_laws_markValueS_l1 k a0 a1 0).bind fun o1 =>
    o1.then fun s1 =>
    some (s1.2, s1.1)
end
def P_m_laws_markValueS (k : Nat) : Prop := ∀ (a0 : (List Val)) (a1 : Int) (v0_0 : Value) (r : (Int × (List Val))), m_laws_markValueS k a0 a1 = some r → Does Try.prog 57 [.hd 0 v0_0, .int .i64 a1] [(0, (v0_0, .osl 30 5 (a0.map encOVal)))] (fun q h' => q = .int .i64 r.1 ∧ h' = [(0, (v0_0, .osl 30 5 (r.2.map encOVal)))])
theorem m_laws_markValueS_step (k : Nat) (ih : ∀ m, m < k → P_m_laws_markValueS m) : P_m_laws_markValueS k := by
  intro a0 a1 v0_0 r h
  obtain ⟨k, rfl⟩ : ∃ k', k = k' + 1 := by cases k with | zero => (rw [m_laws_markValueS] at h; cases h) | succ k' => exact ⟨k', rfl⟩
  rw [m_laws_markValueS] at h
  refine does_of_good tabOk Try.func57 rfl (by decide +kernel) (Nat.le_of_ble_eq_true rfl) fun c => ?_
  refine Good.le (σ' := ⟨49, [(0, .hd 0 v0_0), (1, .int .i64 a1)], [(0, (v0_0, .osl 30 5 (a0.map encOVal)))]⟩) (Le.refl _) ?_
  refine good_seq fun K1 hK1 => ?_
  refine good_region ?_
  refine g_op rfl (ValOk.op (v_assign rfl rfl ?_)) 
  refine g_nil ?_
  refine hK1 _ ?_
  refine good_seq fun K2 hK2 => ?_
  refine good_seq fun K3 hK3 => ?_
  refine good_region ?_
  refine g_op rfl (ValOk.op (v_assign rfl rfl ?_)) 
  refine g_nil ?_
  refine hK3 _ ?_
  obtain ⟨o1, ho1, hJ1⟩ := bnd h
  have hw1 : ∀ (s1 : ((List Val) × Int)), o1 = Lp.go s1 → ∀ σ', Le σ' ⟨49, [(1, .int .i64 s1.2), (4, .int .i64 0)], [(0, (v0_0, .osl 30 5 (s1.1.map encOVal)))]⟩ → K2 σ' := by
    intro s1 e1 σ' hle1
    subst e1
    refine hK2 _ (Good.le hle1 ?_)
    replace h := hJ1
    refine good_seq fun K4 hK4 => ?_
    refine good_region ?_
    refine g_op rfl (ValOk.op (v_move rfl rfl ?_)) 
    refine g_op rfl (ValOk.op (v_assign rfl rfl ?_)) 
    refine g_nil ?_
    refine hK4 _ ?_
    refine Good.le (σ' := ⟨49, [(4, _)], [(0, (_, _))]⟩) (le_w [some 0] rfl ⟨⟨_, rfl, .refl _⟩, trivial⟩ ⟨⟨_, rfl, .refl _⟩, trivial⟩ (by decide)) ?_
    refine Good.le (σ' := ⟨49, [(4, .int .i64 s1.2)], [(0, (v0_0, .osl 30 5 (s1.1.map encOVal)))]⟩) (le_w [some 0] rfl ⟨⟨_, rfl, .refl _⟩, trivial⟩ ⟨⟨_, rfl, .refl _⟩, trivial⟩ (by decide)) ?_
    refine good_ret ?_
    obtain rfl := Option.some.inj h
    exact endQ_ret (h' := [(0, (_, _))]) [some 0] (.tmp rfl (.nil)) ⟨⟨_, rfl, .refl _⟩, trivial⟩ (by decide) ⟨rfl, rfl⟩
  replace h := ho1
  refine good_block ?_
  refine good_loopf (fun p : ((List Val) × Int × Int) => ⟨49, [(0, .hd 0 v0_0), (1, .int .i64 p.2.1), (4, .int .i64 0), (5, .int .i64 p.2.2)], [(0, (v0_0, .osl 30 5 (p.1.map encOVal)))]⟩) (fun m p => m < k + 1 ∧ m_laws_markValueS_l1 m p.1 p.2.1 p.2.2 = some o1) k (a0, a1, 0) (le_w [some 0] rfl ⟨⟨_, rfl, .refl _⟩, ⟨⟨_, rfl, .refl _⟩, ⟨⟨_, rfl, .refl _⟩, ⟨⟨_, rfl, .refl _⟩, trivial⟩⟩⟩⟩ ⟨⟨_, rfl, .refl _⟩, trivial⟩ (by decide)) ⟨by omega, h⟩ ?_
  rintro m1 ⟨x1, x2, x3⟩ ⟨hm, h⟩
  replace h : m_laws_markValueS_l1 m1 x1 x2 x3 = some o1 := h
  refine Good.le (σ' := ⟨49, [(0, .hd 0 v0_0), (1, .int .i64 x2), (4, .int .i64 0), (5, .int .i64 x3)], [(0, (v0_0, .osl 30 5 (x1.map encOVal)))]⟩) (Le.refl _) ?_
  obtain ⟨m1, rfl⟩ : ∃ m', m1 = m' + 1 := by cases m1 with | zero => (rw [m_laws_markValueS_l1] at h; cases h) | succ m' => exact ⟨m', rfl⟩
  rw [m_laws_markValueS_l1] at h
  refine good_seq fun K5 hK5 => ?_
  refine good_seq fun K6 hK6 => ?_
  refine good_region ?_
  refine g_op rfl (ValOk.op (v_move rfl rfl ?_)) 
  refine g_op rfl (ValOk.op (v_move rfl rfl ?_)) 
  refine g_op rfl (ValOk.op (v_lenHM (q := 0) tabOk ⟨_, rfl⟩ rfl rfl telem28 rfl ?_)) 
  refine g_op rfl (ValOk.op (v_bin rfl rfl rfl rfl ?_)) 
  refine g_nil ?_
  refine hK6 _ ?_
  refine Good.le (σ' := ⟨49, [(0, _), (1, _), (4, _), (5, _), (9, _)], [(0, (_, _))]⟩) (le_w [some 0] rfl ⟨⟨_, rfl, .refl _⟩, ⟨⟨_, rfl, .refl _⟩, ⟨⟨_, rfl, .refl _⟩, ⟨⟨_, rfl, .refl _⟩, ⟨⟨_, rfl, .refl _⟩, trivial⟩⟩⟩⟩⟩ ⟨⟨_, rfl, .refl _⟩, trivial⟩ (by decide)) ?_
  refine good_cond rfl (fun hc1 => ?_) (fun hc1 => ?_)
  · replace h := ifT h (dT hc1)
    refine good_skip ?_
    refine hK5 _ ?_
    refine Good.le (σ' := ⟨49, [(0, _), (1, _), (4, _), (5, _)], [(0, (_, _))]⟩) (le_w [some 0] rfl ⟨⟨_, rfl, .refl _⟩, ⟨⟨_, rfl, .refl _⟩, ⟨⟨_, rfl, .refl _⟩, ⟨⟨_, rfl, .refl _⟩, trivial⟩⟩⟩⟩ ⟨⟨_, rfl, .refl _⟩, trivial⟩ (by decide)) ?_
    refine good_seq fun K7 hK7 => ?_
    refine good_block ?_
    refine good_seq fun K8 hK8 => ?_
    refine good_region ?_
    refine g_op rfl (ValOk.op (v_move rfl rfl ?_)) 
    refine g_op rfl (ValOk.op (v_move rfl rfl ?_)) 
    refine g_op rfl (ValOk.op (v_move rfl rfl ?_)) 
    obtain ⟨hb1, h⟩ := ifS h
    refine g_op rfl (ValOk.op (v_idxHM (q := 0) tabOk ⟨_, rfl⟩ rfl rfl telem28 tsize30 hb1 rfl ?_)) 
    refine g_op rfl (ValOk.op (v_fieldR tabOk rfl tfoff30_0 rfl ?_)) 
    refine g_op rfl (o_storeRM tabOk (z := (Val.mk x2 ((ix x1 x3).num) ((ix x1 x3).text) ((ix x1 x3).list) ((ix x1 x3).names))) rfl rfl tsize3 rfl hb1 (encOVal_eq _) rfl rfl (by decide) rfl rfl (encOVal_eq _) rfl ?_)
    refine g_nil ?_
    refine hK8 _ ?_
    refine Good.le (σ' := ⟨49, [(0, _), (1, _), (4, _), (5, _)], [(0, (_, _))]⟩) (le_w [some 0] rfl ⟨⟨_, rfl, .refl _⟩, ⟨⟨_, rfl, .refl _⟩, ⟨⟨_, rfl, .refl _⟩, ⟨⟨_, rfl, .refl _⟩, trivial⟩⟩⟩⟩ ⟨⟨_, rfl, .refl _⟩, trivial⟩ (by decide)) ?_
    refine good_seq fun K9 hK9 => ?_
    refine good_region ?_
    refine g_op rfl (ValOk.op (v_move rfl rfl ?_)) 
    refine g_op rfl (ValOk.op (v_bin rfl rfl rfl rfl ?_)) 
    refine g_op rfl (ValOk.op (v_assign rfl rfl ?_)) 
    refine g_nil ?_
    refine hK9 _ ?_
    refine Good.le (σ' := ⟨49, [(0, _), (1, _), (4, _), (5, _)], [(0, (_, _))]⟩) (le_w [some 0] rfl ⟨⟨_, rfl, .refl _⟩, ⟨⟨_, rfl, .refl _⟩, ⟨⟨_, rfl, .refl _⟩, ⟨⟨_, rfl, .refl _⟩, trivial⟩⟩⟩⟩ ⟨⟨_, rfl, .refl _⟩, trivial⟩ (by decide)) ?_
    refine good_seq fun K10 hK10 => ?_
    refine good_region ?_
    refine g_op rfl (ValOk.op (v_move rfl rfl ?_)) 
    refine g_op rfl (ValOk.op (v_move rfl rfl ?_)) 
    refine g_op rfl (ValOk.op (v_move rfl rfl ?_)) 
    have hb2 : (0 : Int) ≤ x3 ∧ x3 < ((x1.set (Int.toNat x3) (Val.mk x2 ((ix x1 x3).num) ((ix x1 x3).text) ((ix x1 x3).list) ((ix x1 x3).names))).length : Int) := len_setI hb1
    refine g_op rfl (ValOk.op (v_idxHM (q := 0) tabOk ⟨_, rfl⟩ rfl rfl telem28 tsize30 hb2 rfl ?_)) 
    refine g_op rfl (ValOk.op (v_fieldR tabOk rfl tfoff30_1 rfl ?_)) 
    refine g_op rfl (o_storeRU tabOk (z := (Val.mk x2 (IntKind.wrap .i64 (x2 + 1)) ((ix x1 x3).text) ((ix x1 x3).list) ((ix x1 x3).names))) rfl rfl tsize3 rfl hb2 ((congrArg encOVal (ix_setI hb1)).trans (encOVal_eq _)) rfl rfl (by decide) rfl rfl (encOVal_eq _) rfl ?_)
    refine g_nil ?_
    refine hK10 _ ?_
    refine Good.le (σ' := ⟨49, [(0, _), (1, _), (4, _), (5, _)], [(0, (_, _))]⟩) (le_w [some 0] rfl ⟨⟨_, rfl, .refl _⟩, ⟨⟨_, rfl, .refl _⟩, ⟨⟨_, rfl, .refl _⟩, ⟨⟨_, rfl, .refl _⟩, trivial⟩⟩⟩⟩ ⟨⟨_, rfl, .refl _⟩, trivial⟩ (by decide)) ?_
    refine good_seq fun K11 hK11 => ?_
    refine good_region ?_
    refine g_op rfl (ValOk.op (v_move rfl rfl ?_)) 
    refine g_op rfl (ValOk.op (v_bin rfl rfl rfl rfl ?_)) 
    refine g_op rfl (ValOk.op (v_assign rfl rfl ?_)) 
    refine g_nil ?_
    refine hK11 _ ?_
    refine Good.le (σ' := ⟨49, [(0, _), (1, _), (4, _), (5, _)], [(0, (_, _))]⟩) (le_w [some 0] rfl ⟨⟨_, rfl, .refl _⟩, ⟨⟨_, rfl, .refl _⟩, ⟨⟨_, rfl, .refl _⟩, ⟨⟨_, rfl, .refl _⟩, trivial⟩⟩⟩⟩ ⟨⟨_, rfl, .refl _⟩, trivial⟩ (by decide)) ?_
    refine good_seq fun K12 hK12 => ?_
    refine good_region ?_
    refine g_op rfl (ValOk.op (v_move rfl rfl ?_)) 
    refine g_op rfl (ValOk.op (v_move rfl rfl ?_)) 
    refine g_op rfl (ValOk.op (v_move rfl rfl ?_)) 
    obtain ⟨y1, hy1, h⟩ := bnd h
    refine g_op rfl (o_callR [] [] (core_value rfl rfl) (m_laws_markText_ok m1 (IntKind.wrap .i64 ((IntKind.wrap .i64 (x2 + 1)) + 1)) _ hy1) trivial (.cons (.refl _) (.nil)) (.inl rfl) rfl ?_)
    have hb3 : (0 : Int) ≤ x3 ∧ x3 < ((x1.set (Int.toNat x3) (Val.mk x2 (IntKind.wrap .i64 (x2 + 1)) ((ix x1 x3).text) ((ix x1 x3).list) ((ix x1 x3).names))).length : Int) := len_setI hb1
    refine g_op rfl (ValOk.op (v_idxHM (q := 0) tabOk ⟨_, rfl⟩ rfl rfl telem28 tsize30 hb3 rfl ?_)) 
    refine g_op rfl (ValOk.op (v_fieldR tabOk rfl tfoff30_2 rfl ?_)) 
    refine g_op rfl (o_storeRU tabOk (z := (Val.mk x2 (IntKind.wrap .i64 (x2 + 1)) y1 ((ix x1 x3).list) ((ix x1 x3).names))) rfl rfl tsize9 rfl hb3 ((congrArg encOVal (ix_setI hb1)).trans (encOVal_eq _)) rfl rfl (by decide) rfl rfl (encOVal_eq _) rfl ?_)
    refine g_nil ?_
    refine hK12 _ ?_
    refine Good.le (σ' := ⟨49, [(0, _), (1, _), (4, _), (5, _)], [(0, (_, _))]⟩) (le_w [some 0] rfl ⟨⟨_, rfl, .refl _⟩, ⟨⟨_, rfl, .refl _⟩, ⟨⟨_, rfl, .refl _⟩, ⟨⟨_, rfl, .refl _⟩, trivial⟩⟩⟩⟩ ⟨⟨_, rfl, .refl _⟩, trivial⟩ (by decide)) ?_
    refine good_seq fun K13 hK13 => ?_
    refine good_region ?_
    refine g_op rfl (ValOk.op (v_move rfl rfl ?_)) 
    refine g_op rfl (ValOk.op (v_bin rfl rfl rfl rfl ?_)) 
    refine g_op rfl (ValOk.op (v_assign rfl rfl ?_)) 
    refine g_nil ?_
    refine hK13 _ ?_
    refine Good.le (σ' := ⟨49, [(0, _), (1, _), (4, _), (5, _)], [(0, (_, _))]⟩) (le_w [some 0] rfl ⟨⟨_, rfl, .refl _⟩, ⟨⟨_, rfl, .refl _⟩, ⟨⟨_, rfl, .refl _⟩, ⟨⟨_, rfl, .refl _⟩, trivial⟩⟩⟩⟩ ⟨⟨_, rfl, .refl _⟩, trivial⟩ (by decide)) ?_
    refine good_seq fun K14 hK14 => ?_
    refine good_region ?_
    refine g_op rfl (ValOk.op (v_move rfl rfl ?_)) 
    refine g_op rfl (ValOk.op (v_move rfl rfl ?_)) 
    have hb4 : (0 : Int) ≤ x3 ∧ x3 < ((x1.set (Int.toNat x3) (Val.mk x2 (IntKind.wrap .i64 (x2 + 1)) y1 ((ix x1 x3).list) ((ix x1 x3).names))).length : Int) := len_setI hb1
    refine g_op rfl (ValOk.op (v_idxHM (q := 0) tabOk ⟨_, rfl⟩ rfl rfl telem28 tsize30 hb4 rfl ?_)) 
    refine g_op rfl (ValOk.op (v_fieldR tabOk rfl tfoff30_3 rfl ?_)) 
    refine g_leE (le_focus (k := 0) (row := [.int .i64 x2, .int .i64 (IntKind.wrap .i64 (x2 + 1)), .str y1, .osl 30 5 (((ix x1 x3).list).map encOVal), .osl 9 1 (((ix x1 x3).names).map encS)]) (Int.toNat x3) 3 8001 rfl rfl ((get_map hb4.1 hb4.2).trans (congrArg some ((congrArg encOVal (ix_setI hb1)).trans (encOVal_eq _)))) rfl) ?_
    intro w1
    refine g_op rfl (ValOk.op (v_loadR tabOk rfl rfl (rows_set_get (by have := hb4; simp only [List.length_map]; omega)) tsize28 tagg28 rfl rfl rfl rfl ?_)) 
    refine g_op rfl (ValOk.op (v_move rfl rfl ?_)) 
    obtain ⟨y2, hy2, h⟩ := bnd h
    refine g_op rfl (o_callD [] [] [8001] (core_value rfl rfl) ((ih m1 (by omega)) ((ix x1 x3).list) (IntKind.wrap .i64 ((IntKind.wrap .i64 ((IntKind.wrap .i64 (x2 + 1)) + 1)) + 1)) _ _ hy2) trivial (.cons (.hd _ _ _) (.cons (.refl _) (.nil))) ⟨rfl, trivial⟩ rfl rfl rfl ?_)
    rintro _ _ ⟨rfl, rfl⟩
    refine ⟨_, [(8001, _)], .refl _, rfl, rfl, rfl, rfl, .inl rfl, ?_⟩
    refine g_op rfl (ValOk.op (v_assign rfl rfl ?_)) 
    refine g_le (le_absorb (k := 0) (k2 := 8001) (rows' := (x1.set (Int.toNat x3) (Val.mk x2 (IntKind.wrap .i64 (x2 + 1)) y1 y2.2 ((ix x1 x3).names))).map encOVal) (Int.toNat x3) 3 _ rfl rfl (by decide) (rows_set_get (by have := hb4; simp only [List.length_map]; omega)) rfl (rows_set_done2 (f := encOVal) (z := (Val.mk x2 (IntKind.wrap .i64 (x2 + 1)) y1 y2.2 ((ix x1 x3).names))) (encOVal_eq _))) ?_
    refine g_nil ?_
    refine hK14 _ ?_
    refine Good.le (σ' := ⟨49, [(0, _), (1, _), (4, _), (5, _)], [(0, (_, _))]⟩) (le_w [some 0] rfl ⟨⟨_, rfl, .refl _⟩, ⟨⟨_, rfl, .refl _⟩, ⟨⟨_, rfl, .refl _⟩, ⟨⟨_, rfl, .refl _⟩, trivial⟩⟩⟩⟩ ⟨⟨_, rfl, .refl _⟩, trivial⟩ (by decide)) ?_
    refine good_region ?_
    refine g_op rfl (ValOk.op (v_move rfl rfl ?_)) 
    refine g_op rfl (ValOk.op (v_move rfl rfl ?_)) 
    have hb5 : (0 : Int) ≤ x3 ∧ x3 < ((x1.set (Int.toNat x3) (Val.mk x2 (IntKind.wrap .i64 (x2 + 1)) y1 y2.2 ((ix x1 x3).names))).length : Int) := len_setI hb1
    refine g_op rfl (ValOk.op (v_idxHM (q := 0) tabOk ⟨_, rfl⟩ rfl rfl telem28 tsize30 hb5 rfl ?_)) 
    refine g_op rfl (ValOk.op (v_fieldR tabOk rfl tfoff30_4 rfl ?_)) 
    refine g_leE (le_focus (k := 0) (row := [.int .i64 x2, .int .i64 (IntKind.wrap .i64 (x2 + 1)), .str y1, .osl 30 5 (y2.2.map encOVal), .osl 9 1 (((ix x1 x3).names).map encS)]) (Int.toNat x3) 4 8002 rfl rfl ((get_map hb5.1 hb5.2).trans (congrArg some ((congrArg encOVal (ix_setI hb1)).trans (encOVal_eq _)))) rfl) ?_
    intro w2
    refine g_op rfl (ValOk.op (v_loadR tabOk rfl rfl (rows_set_get (by have := hb5; simp only [List.length_map]; omega)) tsize23 tagg23 rfl rfl rfl rfl ?_)) 
    refine g_op rfl (ValOk.op (v_move rfl rfl ?_)) 
    obtain ⟨y3, hy3, h⟩ := bnd h
    refine g_op rfl (o_callD [] [] [8002] (core_value rfl rfl) (m_laws_markStringS_ok m1 ((ix x1 x3).names) y2.1 _ _ hy3) trivial (.cons (.hd _ _ _) (.cons (.refl _) (.nil))) ⟨rfl, trivial⟩ rfl rfl rfl ?_)
    rintro _ _ ⟨rfl, rfl⟩
    refine ⟨_, [(8002, _)], .refl _, rfl, rfl, rfl, rfl, .inl rfl, ?_⟩
    refine g_op rfl (ValOk.op (v_assign rfl rfl ?_)) 
    refine g_le (le_absorb (k := 0) (k2 := 8002) (rows' := (x1.set (Int.toNat x3) (Val.mk x2 (IntKind.wrap .i64 (x2 + 1)) y1 y2.2 y3.2)).map encOVal) (Int.toNat x3) 4 _ rfl rfl (by decide) (rows_set_get (by have := hb5; simp only [List.length_map]; omega)) rfl (rows_set_done2 (f := encOVal) (z := (Val.mk x2 (IntKind.wrap .i64 (x2 + 1)) y1 y2.2 y3.2)) (encOVal_eq _))) ?_
    refine g_nil ?_
    refine hK7 _ ?_
    refine Good.le (σ' := ⟨49, [(0, _), (1, _), (4, _), (5, _)], [(0, (_, _))]⟩) (le_w [some 0] rfl ⟨⟨_, rfl, .refl _⟩, ⟨⟨_, rfl, .refl _⟩, ⟨⟨_, rfl, .refl _⟩, ⟨⟨_, rfl, .refl _⟩, trivial⟩⟩⟩⟩ ⟨⟨_, rfl, .refl _⟩, trivial⟩ (by decide)) ?_
    refine good_region ?_
    refine g_op rfl (ValOk.op (v_move rfl rfl ?_)) 
    refine g_op rfl (ValOk.op (v_bin rfl rfl rfl rfl ?_)) 
    refine g_op rfl (ValOk.op (v_assign rfl rfl ?_)) 
    refine g_nil ?_
    exact round_mk m1 (x1.set (Int.toNat x3) (Val.mk x2 (IntKind.wrap .i64 (x2 + 1)) y1 y2.2 y3.2), y3.1, IntKind.wrap .i64 (x3 + 1)) (Nat.lt_succ_self _) ⟨by omega, h⟩ (le_w [some 0] rfl ⟨⟨_, rfl, .refl _⟩, ⟨⟨_, rfl, .refl _⟩, ⟨⟨_, rfl, .refl _⟩, ⟨⟨_, rfl, .refl _⟩, trivial⟩⟩⟩⟩ ⟨⟨_, rfl, .refl _⟩, trivial⟩ (by decide))
  · replace h := ifF h (dF hc1)
    refine good_exit ?_
    exact hw1 (x1, x2) (Option.some.inj h).symm _ (le_w [some 0] rfl ⟨⟨_, rfl, .refl _⟩, ⟨⟨_, rfl, .refl _⟩, trivial⟩⟩ ⟨⟨_, rfl, .refl _⟩, trivial⟩ (by decide))
theorem m_laws_markValueS_all (k : Nat) : P_m_laws_markValueS k := by
  induction k using Nat.strongRecOn with
  | _ k ih => exact m_laws_markValueS_step k ih
theorem m_laws_markValueS_ok (k : Nat) : ∀ (a0 : (List Val)) (a1 : Int) (v0_0 : Value) (r : (Int × (List Val))), m_laws_markValueS k a0 a1 = some r → Does Try.prog 57 [.hd 0 v0_0, .int .i64 a1] [(0, (v0_0, .osl 30 5 (a0.map encOVal)))] (fun q h' => q = .int .i64 r.1 ∧ h' = [(0, (v0_0, .osl 30 5 (r.2.map encOVal)))]) := (m_laws_markValueS_all k)
def m_laws_markValue (k : Nat) (a0 : Val) (a1 : Int) : Option (Int × (List Val) × (List Bs)) :=
  (m_laws_markValueS k a0.list a1).bind fun y1 =>
  (m_laws_markStringS k a0.names y1.1).bind fun y2 =>
  some (y2.1, y1.2, y2.2)
theorem m_laws_markValue_ok (k : Nat) : ∀ (a0 : Val) (a1 : Int) (v0_0 : Value) (v0_1 : Value) (r : (Int × (List Val) × (List Bs))), m_laws_markValue k a0 a1 = some r → Does Try.prog 24 [.agg [.int .i64 a0.kind, .int .i64 a0.num, .str a0.text, .hd 0 v0_0, .hd 1 v0_1], .int .i64 a1] [(0, (v0_0, .osl 30 5 (a0.list.map encOVal))), (1, (v0_1, .osl 9 1 (a0.names.map encS)))] (fun q h' => q = .int .i64 r.1 ∧ h' = [(0, (v0_0, .osl 30 5 (r.2.1.map encOVal))), (1, (v0_1, .osl 9 1 (r.2.2.map encS)))]) := by
  intro a0 a1 v0_0 v0_1 r h
  rw [m_laws_markValue] at h
  refine does_of_good tabOk Try.func24 rfl (by decide +kernel) (Nat.le_of_ble_eq_true rfl) fun c => ?_
  refine Good.le (σ' := ⟨14, [(0, .agg [.int .i64 a0.kind, .int .i64 a0.num, .str a0.text, .hd 0 v0_0, .hd 1 v0_1]), (1, .int .i64 a1)], [(0, (v0_0, .osl 30 5 (a0.list.map encOVal))), (1, (v0_1, .osl 9 1 (a0.names.map encS)))]⟩) (Le.refl _) ?_
  refine good_seq fun K1 hK1 => ?_
  refine good_region ?_
  refine g_op rfl (o_box (k := 12) tabOk rfl rfl rfl rfl rfl ?_)
  intro b1
  refine g_op rfl (ValOk.op (v_assign rfl rfl ?_)) 
  refine g_nil ?_
  refine hK1 _ ?_
  refine Good.le (σ' := ⟨14, [(1, _), (2, _), (4, _)], [(12, (_, _)), (0, (_, _)), (1, (_, _))]⟩) (le_w [some 12, some 0, some 1] rfl ⟨⟨_, rfl, .refl _⟩, ⟨⟨_, rfl, .refl _⟩, ⟨⟨_, rfl, .refl _⟩, trivial⟩⟩⟩ ⟨⟨_, rfl, .refl _⟩, ⟨⟨_, rfl, .refl _⟩, ⟨⟨_, rfl, .refl _⟩, trivial⟩⟩⟩ (by decide)) ?_
  refine good_seq fun K2 hK2 => ?_
  refine good_region ?_
  refine g_op rfl (ValOk.op (v_fieldP tabOk rfl tfoff30_3 rfl ?_)) 
  refine g_op rfl (ValOk.op (v_loadP tabOk rfl rfl tsize28 tagg28 rfl rfl rfl rfl ?_)) 
  refine g_op rfl (ValOk.op (v_move rfl rfl ?_)) 
  obtain ⟨y1, hy1, h⟩ := bnd h
  refine g_op rfl (o_callD [] [] [0] (core_value rfl rfl) (m_laws_markValueS_ok k a0.list a1 _ _ hy1) trivial (.cons (.hd _ _ _) (.cons (.refl _) (.nil))) ⟨rfl, trivial⟩ rfl rfl rfl ?_)
  rintro _ _ ⟨rfl, rfl⟩
  refine ⟨_, [(0, _)], .refl _, rfl, rfl, rfl, rfl, .inl rfl, ?_⟩
  refine g_op rfl (ValOk.op (v_assign rfl rfl ?_)) 
  refine g_nil ?_
  refine hK2 _ ?_
  refine Good.le (σ' := ⟨14, [(1, _), (2, _), (4, _)], [(12, (_, _)), (0, (_, _)), (1, (_, _))]⟩) (le_w [some 12, some 0, some 1] rfl ⟨⟨_, rfl, .refl _⟩, ⟨⟨_, rfl, .refl _⟩, ⟨⟨_, rfl, .refl _⟩, trivial⟩⟩⟩ ⟨⟨_, rfl, .refl _⟩, ⟨⟨_, rfl, .refl _⟩, ⟨⟨_, rfl, .refl _⟩, trivial⟩⟩⟩ (by decide)) ?_
  refine good_seq fun K3 hK3 => ?_
  refine good_region ?_
  refine g_op rfl (ValOk.op (v_fieldP tabOk rfl tfoff30_4 rfl ?_)) 
  refine g_op rfl (ValOk.op (v_loadP tabOk rfl rfl tsize23 tagg23 rfl rfl rfl rfl ?_)) 
  refine g_op rfl (ValOk.op (v_move rfl rfl ?_)) 
  obtain ⟨y2, hy2, h⟩ := bnd h
  refine g_op rfl (o_callD [] [] [1] (core_value rfl rfl) (m_laws_markStringS_ok k a0.names y1.1 _ _ hy2) trivial (.cons (.hd _ _ _) (.cons (.refl _) (.nil))) ⟨rfl, trivial⟩ rfl rfl rfl ?_)
  rintro _ _ ⟨rfl, rfl⟩
  refine ⟨_, [(1, _)], .refl _, rfl, rfl, rfl, rfl, .inl rfl, ?_⟩
  refine g_op rfl (ValOk.op (v_assign rfl rfl ?_)) 
  refine g_nil ?_
  refine hK3 _ ?_
  refine Good.le (σ' := ⟨14, [(1, _), (4, _)], [(0, (_, _)), (1, (_, _))]⟩) (le_w [some 0, some 1] rfl ⟨⟨_, rfl, .refl _⟩, ⟨⟨_, rfl, .refl _⟩, trivial⟩⟩ ⟨⟨_, rfl, .refl _⟩, ⟨⟨_, rfl, .refl _⟩, trivial⟩⟩ (by decide)) ?_
  refine good_seq fun K4 hK4 => ?_
  refine good_region ?_
  refine g_op rfl (ValOk.op (v_move rfl rfl ?_)) 
  refine g_op rfl (ValOk.op (v_assign rfl rfl ?_)) 
  refine g_nil ?_
  refine hK4 _ ?_
  refine Good.le (σ' := ⟨14, [(4, _)], [(0, (_, _)), (1, (_, _))]⟩) (le_w [some 0, some 1] rfl ⟨⟨_, rfl, .refl _⟩, trivial⟩ ⟨⟨_, rfl, .refl _⟩, ⟨⟨_, rfl, .refl _⟩, trivial⟩⟩ (by decide)) ?_
  refine Good.le (σ' := ⟨14, [(4, .int .i64 y2.1)], [(0, (v0_0, .osl 30 5 (y1.2.map encOVal))), (1, (v0_1, .osl 9 1 (y2.2.map encS)))]⟩) (le_w [some 0, some 1] rfl ⟨⟨_, rfl, .refl _⟩, trivial⟩ ⟨⟨_, rfl, .refl _⟩, ⟨⟨_, rfl, .refl _⟩, trivial⟩⟩ (by decide)) ?_
  refine good_ret ?_
  obtain rfl := Option.some.inj h
  exact endQ_ret (h' := [(0, (_, _)), (1, (_, _))]) [some 0, some 1] (.tmp rfl (.nil)) ⟨⟨_, rfl, .refl _⟩, ⟨⟨_, rfl, .refl _⟩, trivial⟩⟩ (by decide) ⟨rfl, rfl⟩
def m_laws_heldStringS_l1 : Nat → (List Bs) → Int → Int → Option (Lp Int Int)
  | 0, _, _, _ => none
  | k + 1, a0, x1, x2 =>
    if x2 < (a0.length : Int) then
      if (0 : Int) ≤ x2 ∧ x2 < (a0.length : Int) then
        (m_laws_markText k x1).bind fun y1 =>
        if (ix a0 x2) = y1 then
          m_laws_heldStringS_l1 k a0 (IntKind.wrap .i64 (x1 + 1)) (IntKind.wrap .i64 (x2 + 1))
        else
          (some (-1)).bind fun z =>
          some (Lp.ret z)
      else none
    else
      some (Lp.go x1)
def m_laws_heldStringS (k : Nat) (a0 : (List Bs)) (a1 : Int) : Option Int :=
  (m_laws_heldStringS_l1 k a0 a1 0).bind fun o1 =>
  o1.then fun s1 =>
    some s1
theorem m_laws_heldStringS_ok (k : Nat) : ∀ (a0 : (List Bs)) (a1 : Int) (r : Int), m_laws_heldStringS k a0 a1 = some r → Does Try.prog 60 [.sl false (a0.map encS), .int .i64 a1] [] (ret (.int .i64 r)) := by
  intro a0 a1 r h
  rw [m_laws_heldStringS] at h
  refine does_of_good tabOk Try.func60 rfl (by decide +kernel) (Nat.le_of_ble_eq_true rfl) fun c => ?_
  refine Good.le (σ' := ⟨22, [(0, .sl false (a0.map encS)), (1, .int .i64 a1)], []⟩) (Le.refl _) ?_
  refine good_seq fun K1 hK1 => ?_
  refine good_region ?_
  refine g_op rfl (ValOk.op (v_assign rfl rfl ?_)) 
  refine g_nil ?_
  refine hK1 _ ?_
  refine good_seq fun K2 hK2 => ?_
  refine good_seq fun K3 hK3 => ?_
  refine good_region ?_
  refine g_op rfl (ValOk.op (v_assign rfl rfl ?_)) 
  refine g_nil ?_
  refine hK3 _ ?_
  obtain ⟨o1, ho1, hJ1⟩ := bnd h
  have hw1 : ∀ (s1 : Int), o1 = Lp.go s1 → ∀ σ', Le σ' ⟨22, [(1, .int .i64 s1), (4, .int .i64 0)], []⟩ → K2 σ' := by
    intro s1 e1 σ' hle1
    subst e1
    refine hK2 _ (Good.le hle1 ?_)
    replace h := hJ1
    refine good_seq fun K4 hK4 => ?_
    refine good_region ?_
    refine g_op rfl (ValOk.op (v_move rfl rfl ?_)) 
    refine g_op rfl (ValOk.op (v_assign rfl rfl ?_)) 
    refine g_nil ?_
    refine hK4 _ ?_
    refine Good.le (σ' := ⟨22, [(4, _)], []⟩) (le_w [] rfl ⟨⟨_, rfl, .refl _⟩, trivial⟩ trivial (by decide)) ?_
    refine Good.le (σ' := ⟨22, [(4, .int .i64 s1)], []⟩) (le_w [] rfl ⟨⟨_, rfl, .refl _⟩, trivial⟩ trivial (by decide)) ?_
    refine good_ret ?_
    obtain rfl := Option.some.inj h
    exact endQ_ret (h' := []) [] (.tmp rfl (.nil)) trivial (by decide) ⟨rfl, rfl⟩
  replace h := ho1
  refine good_block ?_
  refine good_loopf (fun p : (Int × Int) => ⟨22, [(0, .sl false (a0.map encS)), (1, .int .i64 p.1), (4, .int .i64 0), (5, .int .i64 p.2)], []⟩) (fun m p => m_laws_heldStringS_l1 m a0 p.1 p.2 = some o1) k (a1, 0) (le_w [] rfl ⟨⟨_, rfl, .refl _⟩, ⟨⟨_, rfl, .refl _⟩, ⟨⟨_, rfl, .refl _⟩, ⟨⟨_, rfl, .refl _⟩, trivial⟩⟩⟩⟩ trivial (by decide)) h ?_
  rintro m1 ⟨x1, x2⟩ h
  replace h : m_laws_heldStringS_l1 m1 a0 x1 x2 = some o1 := h
  refine Good.le (σ' := ⟨22, [(0, .sl false (a0.map encS)), (1, .int .i64 x1), (4, .int .i64 0), (5, .int .i64 x2)], []⟩) (Le.refl _) ?_
  obtain ⟨m1, rfl⟩ : ∃ m', m1 = m' + 1 := by cases m1 with | zero => (rw [m_laws_heldStringS_l1] at h; cases h) | succ m' => exact ⟨m', rfl⟩
  rw [m_laws_heldStringS_l1] at h
  refine good_seq fun K5 hK5 => ?_
  refine good_seq fun K6 hK6 => ?_
  refine good_region ?_
  refine g_op rfl (ValOk.op (v_move rfl rfl ?_)) 
  refine g_op rfl (ValOk.op (v_move rfl rfl ?_)) 
  refine g_op rfl (ValOk.op (v_lenM (l := a0) (f := encS) tabOk rfl rfl telem23 rfl ?_)) 
  refine g_op rfl (ValOk.op (v_bin rfl rfl rfl rfl ?_)) 
  refine g_nil ?_
  refine hK6 _ ?_
  refine Good.le (σ' := ⟨22, [(0, _), (1, _), (4, _), (5, _), (9, _)], []⟩) (le_w [] rfl ⟨⟨_, rfl, .refl _⟩, ⟨⟨_, rfl, .refl _⟩, ⟨⟨_, rfl, .refl _⟩, ⟨⟨_, rfl, .refl _⟩, ⟨⟨_, rfl, .refl _⟩, trivial⟩⟩⟩⟩⟩ trivial (by decide)) ?_
  refine good_cond rfl (fun hc1 => ?_) (fun hc1 => ?_)
  · replace h := ifT h (dT hc1)
    refine good_skip ?_
    refine hK5 _ ?_
    refine Good.le (σ' := ⟨22, [(0, _), (1, _), (4, _), (5, _)], []⟩) (le_w [] rfl ⟨⟨_, rfl, .refl _⟩, ⟨⟨_, rfl, .refl _⟩, ⟨⟨_, rfl, .refl _⟩, ⟨⟨_, rfl, .refl _⟩, trivial⟩⟩⟩⟩ trivial (by decide)) ?_
    refine good_seq fun K7 hK7 => ?_
    refine good_block ?_
    refine good_seq fun K8 hK8 => ?_
    refine good_seq fun K9 hK9 => ?_
    refine good_draw (by kernel_rfl) (by kernel_rfl) ?_
    refine q_op rfl (v_move rfl rfl ?_) 
    refine q_op rfl (v_move rfl rfl ?_) 
    obtain ⟨hb1, h⟩ := ifS h
    refine q_op rfl (v_idxM tabOk rfl rfl telem23 tsize9 hb1 rfl rfl rfl ?_) 
    refine q_op rfl (v_loadE tabOk rfl tsize9 tagg9 rfl rfl rfl ?_) 
    refine q_op rfl (v_move rfl rfl ?_) 
    obtain ⟨y1, hy1, h⟩ := bnd h
    refine q_call [] [] (fun _ _ _ _ _ => wanted_none rfl _) (core_value rfl rfl) (m_laws_markText_ok m1 x1 _ hy1) trivial (.cons (.refl _) (.nil)) (.str _) rfl ?_
    refine q_op rfl (v_bin rfl rfl rfl rfl ?_) 
    refine q_nil ?_
    refine hK9 _ ?_
    refine Good.le (σ' := ⟨22, [(0, _), (1, _), (4, _), (5, _), (18, _)], []⟩) (le_w [] rfl ⟨⟨_, rfl, .refl _⟩, ⟨⟨_, rfl, .refl _⟩, ⟨⟨_, rfl, .refl _⟩, ⟨⟨_, rfl, .refl _⟩, ⟨⟨_, rfl, .refl _⟩, trivial⟩⟩⟩⟩⟩ trivial (by decide)) ?_
    refine good_cond rfl (fun hc2 => ?_) (fun hc2 => ?_)
    · replace h := ifF h (ndT hc2)
      refine good_seq fun K10 hK10 => ?_
      refine good_region ?_
      refine g_op rfl (ValOk.op (v_assign rfl rfl ?_)) 
      refine g_nil ?_
      refine hK10 _ ?_
      refine Good.le (σ' := ⟨22, [(0, _), (1, _), (4, _), (5, _)], []⟩) (le_w [] rfl ⟨⟨_, rfl, .refl _⟩, ⟨⟨_, rfl, .refl _⟩, ⟨⟨_, rfl, .refl _⟩, ⟨⟨_, rfl, .refl _⟩, trivial⟩⟩⟩⟩ trivial (by decide)) ?_
      refine Good.le (σ' := ⟨22, [(4, .int .i64 (-1))], []⟩) (le_w [] rfl ⟨⟨_, rfl, .refl _⟩, trivial⟩ trivial (by decide)) ?_
      refine good_ret ?_
      replace h := unret h hJ1
      obtain rfl := Option.some.inj h
      refine thenQ_ret ?_
      refine blockQ_ret ?_
      refine thenQ_ret ?_
      refine thenQ_ret ?_
      refine blockQ_ret ?_
      refine thenQ_ret ?_
      exact endQ_ret (h' := []) [] (.tmp rfl (.nil)) trivial (by decide) ⟨rfl, rfl⟩
    · replace h := ifT h (ndF hc2)
      refine good_skip ?_
      refine hK8 _ ?_
      refine Good.le (σ' := ⟨22, [(0, _), (1, _), (4, _), (5, _)], []⟩) (le_w [] rfl ⟨⟨_, rfl, .refl _⟩, ⟨⟨_, rfl, .refl _⟩, ⟨⟨_, rfl, .refl _⟩, ⟨⟨_, rfl, .refl _⟩, trivial⟩⟩⟩⟩ trivial (by decide)) ?_
      refine good_region ?_
      refine g_op rfl (ValOk.op (v_move rfl rfl ?_)) 
      refine g_op rfl (ValOk.op (v_bin rfl rfl rfl rfl ?_)) 
      refine g_op rfl (ValOk.op (v_assign rfl rfl ?_)) 
      refine g_nil ?_
      refine hK7 _ ?_
      refine Good.le (σ' := ⟨22, [(0, _), (1, _), (4, _), (5, _)], []⟩) (le_w [] rfl ⟨⟨_, rfl, .refl _⟩, ⟨⟨_, rfl, .refl _⟩, ⟨⟨_, rfl, .refl _⟩, ⟨⟨_, rfl, .refl _⟩, trivial⟩⟩⟩⟩ trivial (by decide)) ?_
      refine good_region ?_
      refine g_op rfl (ValOk.op (v_move rfl rfl ?_)) 
      refine g_op rfl (ValOk.op (v_bin rfl rfl rfl rfl ?_)) 
      refine g_op rfl (ValOk.op (v_assign rfl rfl ?_)) 
      refine g_nil ?_
      exact round_mk m1 (IntKind.wrap .i64 (x1 + 1), IntKind.wrap .i64 (x2 + 1)) (Nat.lt_succ_self _) h (le_w [] rfl ⟨⟨_, rfl, .refl _⟩, ⟨⟨_, rfl, .refl _⟩, ⟨⟨_, rfl, .refl _⟩, ⟨⟨_, rfl, .refl _⟩, trivial⟩⟩⟩⟩ trivial (by decide))
  · replace h := ifF h (dF hc1)
    refine good_exit ?_
    exact hw1 x1 (Option.some.inj h).symm _ (le_w [] rfl ⟨⟨_, rfl, .refl _⟩, ⟨⟨_, rfl, .refl _⟩, trivial⟩⟩ trivial (by decide))
mutual
def m_laws_heldValueS_l1 : Nat → (List Val) → Int → Int → Option (Lp Int Int)
  | 0, _, _, _ => none
  | k + 1, a0, x1, x2 =>
    if x2 < (a0.length : Int) then
      if (0 : Int) ≤ x2 ∧ x2 < (a0.length : Int) then
        if ((ix a0 x2).kind) = x1 then
          if (0 : Int) ≤ x2 ∧ x2 < (a0.length : Int) then
            if ((ix a0 x2).num) = (IntKind.wrap .i64 (x1 + 1)) then
              if (0 : Int) ≤ x2 ∧ x2 < (a0.length : Int) then
                (m_laws_markText k (IntKind.wrap .i64 ((IntKind.wrap .i64 (x1 + 1)) + 1))).bind fun y1 =>
                if ((ix a0 x2).text) = y1 then
                  if (0 : Int) ≤ x2 ∧ x2 < (a0.length : Int) then
                    (m_laws_heldValueS k ((ix a0 x2).list) (IntKind.wrap .i64 ((IntKind.wrap .i64 ((IntKind.wrap .i64 (x1 + 1)) + 1)) + 1))).bind fun y2 =>
                    if y2 < 0 then
                      (some (-1)).bind fun z =>
                      some (Lp.ret z)
                    else
                      if (0 : Int) ≤ x2 ∧ x2 < (a0.length : Int) then
                        (m_laws_heldStringS k ((ix a0 x2).names) y2).bind fun y3 =>
                        if y3 < 0 then
                          (some (-1)).bind fun z =>
                          some (Lp.ret z)
                        else
                          m_laws_heldValueS_l1 k a0 y3 (IntKind.wrap .i64 (x2 + 1))
                      else none
                  else none
                else
                  (some (-1)).bind fun z =>
                  some (Lp.ret z)
              else none
            else
              (some (-1)).bind fun z =>
              some (Lp.ret z)
          else none
        else
          (some (-1)).bind fun z =>
          some (Lp.ret z)
      else none
    else
      some (Lp.go x1)
def m_laws_heldValueS : Nat → (List Val) → Int → Option Int
  | 0, _, _ => none
  | k + 1, a0, a1 =>
    (m_laws_heldValueS_l1 k a0 a1 0).bind fun o1 =>
    o1.then fun s1 =>
    some s1
end
def P_m_laws_heldValueS (k : Nat) : Prop := ∀ (a0 : (List Val)) (a1 : Int) (r : Int), m_laws_heldValueS k a0 a1 = some r → Does Try.prog 59 [.sl true (a0.map encVal), .int .i64 a1] [] (ret (.int .i64 r))
theorem m_laws_heldValueS_step (k : Nat) (ih : ∀ m, m < k → P_m_laws_heldValueS m) : P_m_laws_heldValueS k := by
  intro a0 a1 r h
  obtain ⟨k, rfl⟩ : ∃ k', k = k' + 1 := by cases k with | zero => (rw [m_laws_heldValueS] at h; cases h) | succ k' => exact ⟨k', rfl⟩
  rw [m_laws_heldValueS] at h
  refine does_of_good tabOk Try.func59 rfl (by decide +kernel) (Nat.le_of_ble_eq_true rfl) fun c => ?_
  refine Good.le (σ' := ⟨59, [(0, .sl true (a0.map encVal)), (1, .int .i64 a1)], []⟩) (Le.refl _) ?_
  refine good_seq fun K1 hK1 => ?_
  refine good_region ?_
  refine g_op rfl (ValOk.op (v_assign rfl rfl ?_)) 
  refine g_nil ?_
  refine hK1 _ ?_
  refine good_seq fun K2 hK2 => ?_
  refine good_seq fun K3 hK3 => ?_
  refine good_region ?_
  refine g_op rfl (ValOk.op (v_assign rfl rfl ?_)) 
  refine g_nil ?_
  refine hK3 _ ?_
  obtain ⟨o1, ho1, hJ1⟩ := bnd h
  have hw1 : ∀ (s1 : Int), o1 = Lp.go s1 → ∀ σ', Le σ' ⟨59, [(1, .int .i64 s1), (4, .int .i64 0)], []⟩ → K2 σ' := by
    intro s1 e1 σ' hle1
    subst e1
    refine hK2 _ (Good.le hle1 ?_)
    replace h := hJ1
    refine good_seq fun K4 hK4 => ?_
    refine good_region ?_
    refine g_op rfl (ValOk.op (v_move rfl rfl ?_)) 
    refine g_op rfl (ValOk.op (v_assign rfl rfl ?_)) 
    refine g_nil ?_
    refine hK4 _ ?_
    refine Good.le (σ' := ⟨59, [(4, _)], []⟩) (le_w [] rfl ⟨⟨_, rfl, .refl _⟩, trivial⟩ trivial (by decide)) ?_
    refine Good.le (σ' := ⟨59, [(4, .int .i64 s1)], []⟩) (le_w [] rfl ⟨⟨_, rfl, .refl _⟩, trivial⟩ trivial (by decide)) ?_
    refine good_ret ?_
    obtain rfl := Option.some.inj h
    exact endQ_ret (h' := []) [] (.tmp rfl (.nil)) trivial (by decide) ⟨rfl, rfl⟩
  replace h := ho1
  refine good_block ?_
  refine good_loopf (fun p : (Int × Int) => ⟨59, [(0, .sl true (a0.map encVal)), (1, .int .i64 p.1), (4, .int .i64 0), (5, .int .i64 p.2)], []⟩) (fun m p => m < k + 1 ∧ m_laws_heldValueS_l1 m a0 p.1 p.2 = some o1) k (a1, 0) (le_w [] rfl ⟨⟨_, rfl, .refl _⟩, ⟨⟨_, rfl, .refl _⟩, ⟨⟨_, rfl, .refl _⟩, ⟨⟨_, rfl, .refl _⟩, trivial⟩⟩⟩⟩ trivial (by decide)) ⟨by omega, h⟩ ?_
  rintro m1 ⟨x1, x2⟩ ⟨hm, h⟩
  replace h : m_laws_heldValueS_l1 m1 a0 x1 x2 = some o1 := h
  refine Good.le (σ' := ⟨59, [(0, .sl true (a0.map encVal)), (1, .int .i64 x1), (4, .int .i64 0), (5, .int .i64 x2)], []⟩) (Le.refl _) ?_
  obtain ⟨m1, rfl⟩ : ∃ m', m1 = m' + 1 := by cases m1 with | zero => (rw [m_laws_heldValueS_l1] at h; cases h) | succ m' => exact ⟨m', rfl⟩
  rw [m_laws_heldValueS_l1] at h
  refine good_seq fun K5 hK5 => ?_
  refine good_seq fun K6 hK6 => ?_
  refine good_region ?_
  refine g_op rfl (ValOk.op (v_move rfl rfl ?_)) 
  refine g_op rfl (ValOk.op (v_move rfl rfl ?_)) 
  refine g_op rfl (ValOk.op (v_lenM (l := a0) (f := encVal) tabOk rfl rfl telem28 rfl ?_)) 
  refine g_op rfl (ValOk.op (v_bin rfl rfl rfl rfl ?_)) 
  refine g_nil ?_
  refine hK6 _ ?_
  refine Good.le (σ' := ⟨59, [(0, _), (1, _), (4, _), (5, _), (9, _)], []⟩) (le_w [] rfl ⟨⟨_, rfl, .refl _⟩, ⟨⟨_, rfl, .refl _⟩, ⟨⟨_, rfl, .refl _⟩, ⟨⟨_, rfl, .refl _⟩, ⟨⟨_, rfl, .refl _⟩, trivial⟩⟩⟩⟩⟩ trivial (by decide)) ?_
  refine good_cond rfl (fun hc1 => ?_) (fun hc1 => ?_)
  · replace h := ifT h (dT hc1)
    refine good_skip ?_
    refine hK5 _ ?_
    refine Good.le (σ' := ⟨59, [(0, _), (1, _), (4, _), (5, _)], []⟩) (le_w [] rfl ⟨⟨_, rfl, .refl _⟩, ⟨⟨_, rfl, .refl _⟩, ⟨⟨_, rfl, .refl _⟩, ⟨⟨_, rfl, .refl _⟩, trivial⟩⟩⟩⟩ trivial (by decide)) ?_
    refine good_seq fun K7 hK7 => ?_
    refine good_block ?_
    refine good_seq fun K8 hK8 => ?_
    refine good_seq fun K9 hK9 => ?_
    refine good_region ?_
    refine g_op rfl (ValOk.op (v_move rfl rfl ?_)) 
    refine g_op rfl (ValOk.op (v_move rfl rfl ?_)) 
    obtain ⟨hb1, h⟩ := ifS h
    refine g_op rfl (ValOk.op (v_idxM tabOk rfl rfl telem28 tsize30 hb1 (encVal_eq _) rfl rfl ?_)) 
    refine g_op rfl (ValOk.op (v_fieldE tabOk rfl tfoff30_0 rfl rfl ?_)) 
    refine g_op rfl (ValOk.op (v_loadE tabOk rfl tsize3 tagg3 rfl rfl rfl ?_)) 
    refine g_op rfl (ValOk.op (v_move rfl rfl ?_)) 
    refine g_op rfl (ValOk.op (v_bin rfl rfl rfl rfl ?_)) 
    refine g_nil ?_
    refine hK9 _ ?_
    refine Good.le (σ' := ⟨59, [(0, _), (1, _), (4, _), (5, _), (18, _)], []⟩) (le_w [] rfl ⟨⟨_, rfl, .refl _⟩, ⟨⟨_, rfl, .refl _⟩, ⟨⟨_, rfl, .refl _⟩, ⟨⟨_, rfl, .refl _⟩, ⟨⟨_, rfl, .refl _⟩, trivial⟩⟩⟩⟩⟩ trivial (by decide)) ?_
    refine good_cond rfl (fun hc2 => ?_) (fun hc2 => ?_)
    · replace h := ifF h (ndT hc2)
      refine good_seq fun K10 hK10 => ?_
      refine good_region ?_
      refine g_op rfl (ValOk.op (v_assign rfl rfl ?_)) 
      refine g_nil ?_
      refine hK10 _ ?_
      refine Good.le (σ' := ⟨59, [(0, _), (1, _), (4, _), (5, _)], []⟩) (le_w [] rfl ⟨⟨_, rfl, .refl _⟩, ⟨⟨_, rfl, .refl _⟩, ⟨⟨_, rfl, .refl _⟩, ⟨⟨_, rfl, .refl _⟩, trivial⟩⟩⟩⟩ trivial (by decide)) ?_
      refine Good.le (σ' := ⟨59, [(4, .int .i64 (-1))], []⟩) (le_w [] rfl ⟨⟨_, rfl, .refl _⟩, trivial⟩ trivial (by decide)) ?_
      refine good_ret ?_
      replace h := unret h hJ1
      obtain rfl := Option.some.inj h
      refine thenQ_ret ?_
      refine blockQ_ret ?_
      refine thenQ_ret ?_
      refine thenQ_ret ?_
      refine blockQ_ret ?_
      refine thenQ_ret ?_
      exact endQ_ret (h' := []) [] (.tmp rfl (.nil)) trivial (by decide) ⟨rfl, rfl⟩
    · replace h := ifT h (ndF hc2)
      refine good_skip ?_
      refine hK8 _ ?_
      refine Good.le (σ' := ⟨59, [(0, _), (1, _), (4, _), (5, _)], []⟩) (le_w [] rfl ⟨⟨_, rfl, .refl _⟩, ⟨⟨_, rfl, .refl _⟩, ⟨⟨_, rfl, .refl _⟩, ⟨⟨_, rfl, .refl _⟩, trivial⟩⟩⟩⟩ trivial (by decide)) ?_
      refine good_seq fun K11 hK11 => ?_
      refine good_region ?_
      refine g_op rfl (ValOk.op (v_move rfl rfl ?_)) 
      refine g_op rfl (ValOk.op (v_bin rfl rfl rfl rfl ?_)) 
      refine g_op rfl (ValOk.op (v_assign rfl rfl ?_)) 
      refine g_nil ?_
      refine hK11 _ ?_
      refine Good.le (σ' := ⟨59, [(0, _), (1, _), (4, _), (5, _)], []⟩) (le_w [] rfl ⟨⟨_, rfl, .refl _⟩, ⟨⟨_, rfl, .refl _⟩, ⟨⟨_, rfl, .refl _⟩, ⟨⟨_, rfl, .refl _⟩, trivial⟩⟩⟩⟩ trivial (by decide)) ?_
      refine good_seq fun K12 hK12 => ?_
      refine good_seq fun K13 hK13 => ?_
      refine good_region ?_
      refine g_op rfl (ValOk.op (v_move rfl rfl ?_)) 
      refine g_op rfl (ValOk.op (v_move rfl rfl ?_)) 
      obtain ⟨hb2, h⟩ := ifS h
      refine g_op rfl (ValOk.op (v_idxM tabOk rfl rfl telem28 tsize30 hb2 (encVal_eq _) rfl rfl ?_)) 
      refine g_op rfl (ValOk.op (v_fieldE tabOk rfl tfoff30_1 rfl rfl ?_)) 
      refine g_op rfl (ValOk.op (v_loadE tabOk rfl tsize3 tagg3 rfl rfl rfl ?_)) 
      refine g_op rfl (ValOk.op (v_move rfl rfl ?_)) 
      refine g_op rfl (ValOk.op (v_bin rfl rfl rfl rfl ?_)) 
      refine g_nil ?_
      refine hK13 _ ?_
      refine Good.le (σ' := ⟨59, [(0, _), (1, _), (4, _), (5, _), (27, _)], []⟩) (le_w [] rfl ⟨⟨_, rfl, .refl _⟩, ⟨⟨_, rfl, .refl _⟩, ⟨⟨_, rfl, .refl _⟩, ⟨⟨_, rfl, .refl _⟩, ⟨⟨_, rfl, .refl _⟩, trivial⟩⟩⟩⟩⟩ trivial (by decide)) ?_
      refine good_cond rfl (fun hc3 => ?_) (fun hc3 => ?_)
      · replace h := ifF h (ndT hc3)
        refine good_seq fun K14 hK14 => ?_
        refine good_region ?_
        refine g_op rfl (ValOk.op (v_assign rfl rfl ?_)) 
        refine g_nil ?_
        refine hK14 _ ?_
        refine Good.le (σ' := ⟨59, [(0, _), (1, _), (4, _), (5, _)], []⟩) (le_w [] rfl ⟨⟨_, rfl, .refl _⟩, ⟨⟨_, rfl, .refl _⟩, ⟨⟨_, rfl, .refl _⟩, ⟨⟨_, rfl, .refl _⟩, trivial⟩⟩⟩⟩ trivial (by decide)) ?_
        refine Good.le (σ' := ⟨59, [(4, .int .i64 (-1))], []⟩) (le_w [] rfl ⟨⟨_, rfl, .refl _⟩, trivial⟩ trivial (by decide)) ?_
        refine good_ret ?_
        replace h := unret h hJ1
        obtain rfl := Option.some.inj h
        refine thenQ_ret ?_
        refine blockQ_ret ?_
        refine thenQ_ret ?_
        refine thenQ_ret ?_
        refine blockQ_ret ?_
        refine thenQ_ret ?_
        exact endQ_ret (h' := []) [] (.tmp rfl (.nil)) trivial (by decide) ⟨rfl, rfl⟩
      · replace h := ifT h (ndF hc3)
        refine good_skip ?_
        refine hK12 _ ?_
        refine Good.le (σ' := ⟨59, [(0, _), (1, _), (4, _), (5, _)], []⟩) (le_w [] rfl ⟨⟨_, rfl, .refl _⟩, ⟨⟨_, rfl, .refl _⟩, ⟨⟨_, rfl, .refl _⟩, ⟨⟨_, rfl, .refl _⟩, trivial⟩⟩⟩⟩ trivial (by decide)) ?_
        refine good_seq fun K15 hK15 => ?_
        refine good_region ?_
        refine g_op rfl (ValOk.op (v_move rfl rfl ?_)) 
        refine g_op rfl (ValOk.op (v_bin rfl rfl rfl rfl ?_)) 
        refine g_op rfl (ValOk.op (v_assign rfl rfl ?_)) 
        refine g_nil ?_
        refine hK15 _ ?_
        refine Good.le (σ' := ⟨59, [(0, _), (1, _), (4, _), (5, _)], []⟩) (le_w [] rfl ⟨⟨_, rfl, .refl _⟩, ⟨⟨_, rfl, .refl _⟩, ⟨⟨_, rfl, .refl _⟩, ⟨⟨_, rfl, .refl _⟩, trivial⟩⟩⟩⟩ trivial (by decide)) ?_
        refine good_seq fun K16 hK16 => ?_
        refine good_seq fun K17 hK17 => ?_
        refine good_draw (by kernel_rfl) (by kernel_rfl) ?_
        refine q_op rfl (v_move rfl rfl ?_) 
        refine q_op rfl (v_move rfl rfl ?_) 
        obtain ⟨hb3, h⟩ := ifS h
        refine q_op rfl (v_idxM tabOk rfl rfl telem28 tsize30 hb3 (encVal_eq _) rfl rfl ?_) 
        refine q_op rfl (v_fieldE tabOk rfl tfoff30_2 rfl rfl ?_) 
        refine q_op rfl (v_loadE tabOk rfl tsize9 tagg9 rfl rfl rfl ?_) 
        refine q_op rfl (v_move rfl rfl ?_) 
        obtain ⟨y1, hy1, h⟩ := bnd h
        refine q_call [] [] (fun _ _ _ _ _ => wanted_none rfl _) (core_value rfl rfl) (m_laws_markText_ok m1 (IntKind.wrap .i64 ((IntKind.wrap .i64 (x1 + 1)) + 1)) _ hy1) trivial (.cons (.refl _) (.nil)) (.str _) rfl ?_
        refine q_op rfl (v_bin rfl rfl rfl rfl ?_) 
        refine q_nil ?_
        refine hK17 _ ?_
        refine Good.le (σ' := ⟨59, [(0, _), (1, _), (4, _), (5, _), (37, _)], []⟩) (le_w [] rfl ⟨⟨_, rfl, .refl _⟩, ⟨⟨_, rfl, .refl _⟩, ⟨⟨_, rfl, .refl _⟩, ⟨⟨_, rfl, .refl _⟩, ⟨⟨_, rfl, .refl _⟩, trivial⟩⟩⟩⟩⟩ trivial (by decide)) ?_
        refine good_cond rfl (fun hc4 => ?_) (fun hc4 => ?_)
        · replace h := ifF h (ndT hc4)
          refine good_seq fun K18 hK18 => ?_
          refine good_region ?_
          refine g_op rfl (ValOk.op (v_assign rfl rfl ?_)) 
          refine g_nil ?_
          refine hK18 _ ?_
          refine Good.le (σ' := ⟨59, [(0, _), (1, _), (4, _), (5, _)], []⟩) (le_w [] rfl ⟨⟨_, rfl, .refl _⟩, ⟨⟨_, rfl, .refl _⟩, ⟨⟨_, rfl, .refl _⟩, ⟨⟨_, rfl, .refl _⟩, trivial⟩⟩⟩⟩ trivial (by decide)) ?_
          refine Good.le (σ' := ⟨59, [(4, .int .i64 (-1))], []⟩) (le_w [] rfl ⟨⟨_, rfl, .refl _⟩, trivial⟩ trivial (by decide)) ?_
          refine good_ret ?_
          replace h := unret h hJ1
          obtain rfl := Option.some.inj h
          refine thenQ_ret ?_
          refine blockQ_ret ?_
          refine thenQ_ret ?_
          refine thenQ_ret ?_
          refine blockQ_ret ?_
          refine thenQ_ret ?_
          exact endQ_ret (h' := []) [] (.tmp rfl (.nil)) trivial (by decide) ⟨rfl, rfl⟩
        · replace h := ifT h (ndF hc4)
          refine good_skip ?_
          refine hK16 _ ?_
          refine Good.le (σ' := ⟨59, [(0, _), (1, _), (4, _), (5, _)], []⟩) (le_w [] rfl ⟨⟨_, rfl, .refl _⟩, ⟨⟨_, rfl, .refl _⟩, ⟨⟨_, rfl, .refl _⟩, ⟨⟨_, rfl, .refl _⟩, trivial⟩⟩⟩⟩ trivial (by decide)) ?_
          refine good_seq fun K19 hK19 => ?_
          refine good_region ?_
          refine g_op rfl (ValOk.op (v_move rfl rfl ?_)) 
          refine g_op rfl (ValOk.op (v_bin rfl rfl rfl rfl ?_)) 
          refine g_op rfl (ValOk.op (v_assign rfl rfl ?_)) 
          refine g_nil ?_
          refine hK19 _ ?_
          refine Good.le (σ' := ⟨59, [(0, _), (1, _), (4, _), (5, _)], []⟩) (le_w [] rfl ⟨⟨_, rfl, .refl _⟩, ⟨⟨_, rfl, .refl _⟩, ⟨⟨_, rfl, .refl _⟩, ⟨⟨_, rfl, .refl _⟩, trivial⟩⟩⟩⟩ trivial (by decide)) ?_
          refine good_seq fun K20 hK20 => ?_
          refine good_region ?_
          refine g_op rfl (ValOk.op (v_move rfl rfl ?_)) 
          refine g_op rfl (ValOk.op (v_move rfl rfl ?_)) 
          obtain ⟨hb4, h⟩ := ifS h
          refine g_op rfl (ValOk.op (v_idxM tabOk rfl rfl telem28 tsize30 hb4 (encVal_eq _) rfl rfl ?_)) 
          refine g_op rfl (ValOk.op (v_fieldE tabOk rfl tfoff30_3 rfl rfl ?_)) 
          refine g_op rfl (ValOk.op (v_loadE tabOk rfl tsize28 tagg28 rfl rfl rfl ?_)) 
          refine g_op rfl (ValOk.op (v_move rfl rfl ?_)) 
          obtain ⟨y2, hy2, h⟩ := bnd h
          refine g_op rfl (o_callR [] [] (core_value rfl rfl) ((ih m1 (by omega)) ((ix a0 x2).list) (IntKind.wrap .i64 ((IntKind.wrap .i64 ((IntKind.wrap .i64 (x1 + 1)) + 1)) + 1)) _ hy2) trivial (.cons (.refl _) (.cons (.refl _) (.nil))) (.inl rfl) rfl ?_)
          refine g_op rfl (ValOk.op (v_assign rfl rfl ?_)) 
          refine g_nil ?_
          refine hK20 _ ?_
          refine Good.le (σ' := ⟨59, [(0, _), (1, _), (4, _), (5, _)], []⟩) (le_w [] rfl ⟨⟨_, rfl, .refl _⟩, ⟨⟨_, rfl, .refl _⟩, ⟨⟨_, rfl, .refl _⟩, ⟨⟨_, rfl, .refl _⟩, trivial⟩⟩⟩⟩ trivial (by decide)) ?_
          refine good_seq fun K21 hK21 => ?_
          refine good_seq fun K22 hK22 => ?_
          refine good_region ?_
          refine g_op rfl (ValOk.op (v_move rfl rfl ?_)) 
          refine g_op rfl (ValOk.op (v_bin rfl rfl rfl rfl ?_)) 
          refine g_nil ?_
          refine hK22 _ ?_
          refine Good.le (σ' := ⟨59, [(0, _), (1, _), (4, _), (5, _), (48, _)], []⟩) (le_w [] rfl ⟨⟨_, rfl, .refl _⟩, ⟨⟨_, rfl, .refl _⟩, ⟨⟨_, rfl, .refl _⟩, ⟨⟨_, rfl, .refl _⟩, ⟨⟨_, rfl, .refl _⟩, trivial⟩⟩⟩⟩⟩ trivial (by decide)) ?_
          refine good_cond rfl (fun hc5 => ?_) (fun hc5 => ?_)
          · replace h := ifT h (dT hc5)
            refine good_seq fun K23 hK23 => ?_
            refine good_region ?_
            refine g_op rfl (ValOk.op (v_assign rfl rfl ?_)) 
            refine g_nil ?_
            refine hK23 _ ?_
            refine Good.le (σ' := ⟨59, [(0, _), (1, _), (4, _), (5, _)], []⟩) (le_w [] rfl ⟨⟨_, rfl, .refl _⟩, ⟨⟨_, rfl, .refl _⟩, ⟨⟨_, rfl, .refl _⟩, ⟨⟨_, rfl, .refl _⟩, trivial⟩⟩⟩⟩ trivial (by decide)) ?_
            refine Good.le (σ' := ⟨59, [(4, .int .i64 (-1))], []⟩) (le_w [] rfl ⟨⟨_, rfl, .refl _⟩, trivial⟩ trivial (by decide)) ?_
            refine good_ret ?_
            replace h := unret h hJ1
            obtain rfl := Option.some.inj h
            refine thenQ_ret ?_
            refine blockQ_ret ?_
            refine thenQ_ret ?_
            refine thenQ_ret ?_
            refine blockQ_ret ?_
            refine thenQ_ret ?_
            exact endQ_ret (h' := []) [] (.tmp rfl (.nil)) trivial (by decide) ⟨rfl, rfl⟩
          · replace h := ifF h (dF hc5)
            refine good_skip ?_
            refine hK21 _ ?_
            refine Good.le (σ' := ⟨59, [(0, _), (1, _), (4, _), (5, _)], []⟩) (le_w [] rfl ⟨⟨_, rfl, .refl _⟩, ⟨⟨_, rfl, .refl _⟩, ⟨⟨_, rfl, .refl _⟩, ⟨⟨_, rfl, .refl _⟩, trivial⟩⟩⟩⟩ trivial (by decide)) ?_
            refine good_seq fun K24 hK24 => ?_
            refine good_region ?_
            refine g_op rfl (ValOk.op (v_move rfl rfl ?_)) 
            refine g_op rfl (ValOk.op (v_move rfl rfl ?_)) 
            obtain ⟨hb5, h⟩ := ifS h
            refine g_op rfl (ValOk.op (v_idxM tabOk rfl rfl telem28 tsize30 hb5 (encVal_eq _) rfl rfl ?_)) 
            refine g_op rfl (ValOk.op (v_fieldE tabOk rfl tfoff30_4 rfl rfl ?_)) 
            refine g_op rfl (ValOk.op (v_loadE tabOk rfl tsize23 tagg23 rfl rfl rfl ?_)) 
            refine g_op rfl (ValOk.op (v_move rfl rfl ?_)) 
            obtain ⟨y3, hy3, h⟩ := bnd h
            refine g_op rfl (o_callR [] [] (core_value rfl rfl) (m_laws_heldStringS_ok m1 ((ix a0 x2).names) y2 _ hy3) trivial (.cons (.refl _) (.cons (.refl _) (.nil))) (.inl rfl) rfl ?_)
            refine g_op rfl (ValOk.op (v_assign rfl rfl ?_)) 
            refine g_nil ?_
            refine hK24 _ ?_
            refine Good.le (σ' := ⟨59, [(0, _), (1, _), (4, _), (5, _)], []⟩) (le_w [] rfl ⟨⟨_, rfl, .refl _⟩, ⟨⟨_, rfl, .refl _⟩, ⟨⟨_, rfl, .refl _⟩, ⟨⟨_, rfl, .refl _⟩, trivial⟩⟩⟩⟩ trivial (by decide)) ?_
            refine good_seq fun K25 hK25 => ?_
            refine good_region ?_
            refine g_op rfl (ValOk.op (v_move rfl rfl ?_)) 
            refine g_op rfl (ValOk.op (v_bin rfl rfl rfl rfl ?_)) 
            refine g_nil ?_
            refine hK25 _ ?_
            refine Good.le (σ' := ⟨59, [(0, _), (1, _), (4, _), (5, _), (57, _)], []⟩) (le_w [] rfl ⟨⟨_, rfl, .refl _⟩, ⟨⟨_, rfl, .refl _⟩, ⟨⟨_, rfl, .refl _⟩, ⟨⟨_, rfl, .refl _⟩, ⟨⟨_, rfl, .refl _⟩, trivial⟩⟩⟩⟩⟩ trivial (by decide)) ?_
            refine good_cond rfl (fun hc6 => ?_) (fun hc6 => ?_)
            · replace h := ifT h (dT hc6)
              refine good_seq fun K26 hK26 => ?_
              refine good_region ?_
              refine g_op rfl (ValOk.op (v_assign rfl rfl ?_)) 
              refine g_nil ?_
              refine hK26 _ ?_
              refine Good.le (σ' := ⟨59, [(0, _), (1, _), (4, _), (5, _)], []⟩) (le_w [] rfl ⟨⟨_, rfl, .refl _⟩, ⟨⟨_, rfl, .refl _⟩, ⟨⟨_, rfl, .refl _⟩, ⟨⟨_, rfl, .refl _⟩, trivial⟩⟩⟩⟩ trivial (by decide)) ?_
              refine Good.le (σ' := ⟨59, [(4, .int .i64 (-1))], []⟩) (le_w [] rfl ⟨⟨_, rfl, .refl _⟩, trivial⟩ trivial (by decide)) ?_
              refine good_ret ?_
              replace h := unret h hJ1
              obtain rfl := Option.some.inj h
              refine blockQ_ret ?_
              refine thenQ_ret ?_
              refine thenQ_ret ?_
              refine blockQ_ret ?_
              refine thenQ_ret ?_
              exact endQ_ret (h' := []) [] (.tmp rfl (.nil)) trivial (by decide) ⟨rfl, rfl⟩
            · replace h := ifF h (dF hc6)
              refine good_skip ?_
              refine hK7 _ ?_
              refine Good.le (σ' := ⟨59, [(0, _), (1, _), (4, _), (5, _)], []⟩) (le_w [] rfl ⟨⟨_, rfl, .refl _⟩, ⟨⟨_, rfl, .refl _⟩, ⟨⟨_, rfl, .refl _⟩, ⟨⟨_, rfl, .refl _⟩, trivial⟩⟩⟩⟩ trivial (by decide)) ?_
              refine good_region ?_
              refine g_op rfl (ValOk.op (v_move rfl rfl ?_)) 
              refine g_op rfl (ValOk.op (v_bin rfl rfl rfl rfl ?_)) 
              refine g_op rfl (ValOk.op (v_assign rfl rfl ?_)) 
              refine g_nil ?_
              exact round_mk m1 (y3, IntKind.wrap .i64 (x2 + 1)) (Nat.lt_succ_self _) ⟨by omega, h⟩ (le_w [] rfl ⟨⟨_, rfl, .refl _⟩, ⟨⟨_, rfl, .refl _⟩, ⟨⟨_, rfl, .refl _⟩, ⟨⟨_, rfl, .refl _⟩, trivial⟩⟩⟩⟩ trivial (by decide))
  · replace h := ifF h (dF hc1)
    refine good_exit ?_
    exact hw1 x1 (Option.some.inj h).symm _ (le_w [] rfl ⟨⟨_, rfl, .refl _⟩, ⟨⟨_, rfl, .refl _⟩, trivial⟩⟩ trivial (by decide))
theorem m_laws_heldValueS_all (k : Nat) : P_m_laws_heldValueS k := by
  induction k using Nat.strongRecOn with
  | _ k ih => exact m_laws_heldValueS_step k ih
theorem m_laws_heldValueS_ok (k : Nat) : ∀ (a0 : (List Val)) (a1 : Int) (r : Int), m_laws_heldValueS k a0 a1 = some r → Does Try.prog 59 [.sl true (a0.map encVal), .int .i64 a1] [] (ret (.int .i64 r)) := (m_laws_heldValueS_all k)
def m_laws_heldValue (k : Nat) (a0 : Val) (a1 : Int) : Option Int :=
  (m_laws_heldValueS k a0.list a1).bind fun y1 =>
  if y1 < 0 then
    some (-1)
  else
    (m_laws_heldStringS k a0.names y1).bind fun y2 =>
    if y2 < 0 then
      some (-1)
    else
      some y2
theorem m_laws_heldValue_ok (k : Nat) : ∀ (a0 : Val) (a1 : Int) (r : Int), m_laws_heldValue k a0 a1 = some r → Does Try.prog 25 [.agg [.int .i64 a0.kind, .int .i64 a0.num, .str a0.text, .sl true (a0.list.map encVal), .sl false (a0.names.map encS)], .int .i64 a1] [] (ret (.int .i64 r)) := by
  intro a0 a1 r h
  rw [m_laws_heldValue] at h
  refine does_of_good tabOk Try.func25 rfl (by decide +kernel) (Nat.le_of_ble_eq_true rfl) fun c => ?_
  refine Good.le (σ' := ⟨18, [(0, .agg [.int .i64 a0.kind, .int .i64 a0.num, .str a0.text, .sl true (a0.list.map encVal), .sl false (a0.names.map encS)]), (1, .int .i64 a1)], []⟩) (Le.refl _) ?_
  refine good_seq fun K1 hK1 => ?_
  refine good_region ?_
  refine g_op rfl (o_box (k := 12) tabOk rfl rfl rfl rfl rfl ?_)
  intro b1
  refine g_op rfl (ValOk.op (v_assign rfl rfl ?_)) 
  refine g_nil ?_
  refine hK1 _ ?_
  refine Good.le (σ' := ⟨18, [(1, _), (2, _), (4, _)], [(12, (_, _))]⟩) (le_w [some 12] rfl ⟨⟨_, rfl, .refl _⟩, ⟨⟨_, rfl, .refl _⟩, ⟨⟨_, rfl, .refl _⟩, trivial⟩⟩⟩ ⟨⟨_, rfl, .refl _⟩, trivial⟩ (by decide)) ?_
  refine good_seq fun K2 hK2 => ?_
  refine good_region ?_
  refine g_op rfl (ValOk.op (v_fieldP tabOk rfl tfoff30_3 rfl ?_)) 
  refine g_op rfl (ValOk.op (v_loadP tabOk rfl rfl tsize28 tagg28 rfl rfl rfl rfl ?_)) 
  refine g_op rfl (ValOk.op (v_move rfl rfl ?_)) 
  obtain ⟨y1, hy1, h⟩ := bnd h
  refine g_op rfl (o_callR [] [] (core_value rfl rfl) (m_laws_heldValueS_ok k a0.list a1 _ hy1) trivial (.cons (.refl _) (.cons (.refl _) (.nil))) (.inl rfl) rfl ?_)
  refine g_op rfl (ValOk.op (v_assign rfl rfl ?_)) 
  refine g_nil ?_
  refine hK2 _ ?_
  refine Good.le (σ' := ⟨18, [(1, _), (2, _), (4, _)], [(12, (_, _))]⟩) (le_w [some 12] rfl ⟨⟨_, rfl, .refl _⟩, ⟨⟨_, rfl, .refl _⟩, ⟨⟨_, rfl, .refl _⟩, trivial⟩⟩⟩ ⟨⟨_, rfl, .refl _⟩, trivial⟩ (by decide)) ?_
  refine good_seq fun K3 hK3 => ?_
  refine good_seq fun K4 hK4 => ?_
  refine good_region ?_
  refine g_op rfl (ValOk.op (v_move rfl rfl ?_)) 
  refine g_op rfl (ValOk.op (v_bin rfl rfl rfl rfl ?_)) 
  refine g_nil ?_
  refine hK4 _ ?_
  refine Good.le (σ' := ⟨18, [(1, _), (2, _), (4, _), (10, _)], [(12, (_, _))]⟩) (le_w [some 12] rfl ⟨⟨_, rfl, .refl _⟩, ⟨⟨_, rfl, .refl _⟩, ⟨⟨_, rfl, .refl _⟩, ⟨⟨_, rfl, .refl _⟩, trivial⟩⟩⟩⟩ ⟨⟨_, rfl, .refl _⟩, trivial⟩ (by decide)) ?_
  refine good_cond rfl (fun hc1 => ?_) (fun hc1 => ?_)
  · replace h := ifT h (dT hc1)
    refine good_seq fun K5 hK5 => ?_
    refine good_region ?_
    refine g_op rfl (ValOk.op (v_assign rfl rfl ?_)) 
    refine g_nil ?_
    refine hK5 _ ?_
    refine Good.le (σ' := ⟨18, [(1, _), (2, _), (4, _)], [(12, (_, _))]⟩) (le_w [some 12] rfl ⟨⟨_, rfl, .refl _⟩, ⟨⟨_, rfl, .refl _⟩, ⟨⟨_, rfl, .refl _⟩, trivial⟩⟩⟩ ⟨⟨_, rfl, .refl _⟩, trivial⟩ (by decide)) ?_
    refine Good.le (σ' := ⟨18, [(4, .int .i64 (-1))], []⟩) (le_w [] rfl ⟨⟨_, rfl, .refl _⟩, trivial⟩ trivial (by decide)) ?_
    refine good_ret ?_
    obtain rfl := Option.some.inj h
    refine thenQ_ret ?_
    exact endQ_ret (h' := []) [] (.tmp rfl (.nil)) trivial (by decide) ⟨rfl, rfl⟩
  · replace h := ifF h (dF hc1)
    refine good_skip ?_
    refine hK3 _ ?_
    refine Good.le (σ' := ⟨18, [(1, _), (2, _), (4, _)], [(12, (_, _))]⟩) (le_w [some 12] rfl ⟨⟨_, rfl, .refl _⟩, ⟨⟨_, rfl, .refl _⟩, ⟨⟨_, rfl, .refl _⟩, trivial⟩⟩⟩ ⟨⟨_, rfl, .refl _⟩, trivial⟩ (by decide)) ?_
    refine good_seq fun K6 hK6 => ?_
    refine good_region ?_
    refine g_op rfl (ValOk.op (v_fieldP tabOk rfl tfoff30_4 rfl ?_)) 
    refine g_op rfl (ValOk.op (v_loadP tabOk rfl rfl tsize23 tagg23 rfl rfl rfl rfl ?_)) 
    refine g_op rfl (ValOk.op (v_move rfl rfl ?_)) 
    obtain ⟨y2, hy2, h⟩ := bnd h
    refine g_op rfl (o_callR [] [] (core_value rfl rfl) (m_laws_heldStringS_ok k a0.names y1 _ hy2) trivial (.cons (.refl _) (.cons (.refl _) (.nil))) (.inl rfl) rfl ?_)
    refine g_op rfl (ValOk.op (v_assign rfl rfl ?_)) 
    refine g_nil ?_
    refine hK6 _ ?_
    refine Good.le (σ' := ⟨18, [(1, _), (4, _)], []⟩) (le_w [] rfl ⟨⟨_, rfl, .refl _⟩, ⟨⟨_, rfl, .refl _⟩, trivial⟩⟩ trivial (by decide)) ?_
    refine good_seq fun K7 hK7 => ?_
    refine good_seq fun K8 hK8 => ?_
    refine good_region ?_
    refine g_op rfl (ValOk.op (v_move rfl rfl ?_)) 
    refine g_op rfl (ValOk.op (v_bin rfl rfl rfl rfl ?_)) 
    refine g_nil ?_
    refine hK8 _ ?_
    refine Good.le (σ' := ⟨18, [(1, _), (4, _), (16, _)], []⟩) (le_w [] rfl ⟨⟨_, rfl, .refl _⟩, ⟨⟨_, rfl, .refl _⟩, ⟨⟨_, rfl, .refl _⟩, trivial⟩⟩⟩ trivial (by decide)) ?_
    refine good_cond rfl (fun hc2 => ?_) (fun hc2 => ?_)
    · replace h := ifT h (dT hc2)
      refine good_seq fun K9 hK9 => ?_
      refine good_region ?_
      refine g_op rfl (ValOk.op (v_assign rfl rfl ?_)) 
      refine g_nil ?_
      refine hK9 _ ?_
      refine Good.le (σ' := ⟨18, [(1, _), (4, _)], []⟩) (le_w [] rfl ⟨⟨_, rfl, .refl _⟩, ⟨⟨_, rfl, .refl _⟩, trivial⟩⟩ trivial (by decide)) ?_
      refine Good.le (σ' := ⟨18, [(4, .int .i64 (-1))], []⟩) (le_w [] rfl ⟨⟨_, rfl, .refl _⟩, trivial⟩ trivial (by decide)) ?_
      refine good_ret ?_
      obtain rfl := Option.some.inj h
      refine thenQ_ret ?_
      exact endQ_ret (h' := []) [] (.tmp rfl (.nil)) trivial (by decide) ⟨rfl, rfl⟩
    · replace h := ifF h (dF hc2)
      refine good_skip ?_
      refine hK7 _ ?_
      refine Good.le (σ' := ⟨18, [(1, _), (4, _)], []⟩) (le_w [] rfl ⟨⟨_, rfl, .refl _⟩, ⟨⟨_, rfl, .refl _⟩, trivial⟩⟩ trivial (by decide)) ?_
      refine good_seq fun K10 hK10 => ?_
      refine good_region ?_
      refine g_op rfl (ValOk.op (v_move rfl rfl ?_)) 
      refine g_op rfl (ValOk.op (v_assign rfl rfl ?_)) 
      refine g_nil ?_
      refine hK10 _ ?_
      refine Good.le (σ' := ⟨18, [(4, _)], []⟩) (le_w [] rfl ⟨⟨_, rfl, .refl _⟩, trivial⟩ trivial (by decide)) ?_
      refine Good.le (σ' := ⟨18, [(4, .int .i64 y2)], []⟩) (le_w [] rfl ⟨⟨_, rfl, .refl _⟩, trivial⟩ trivial (by decide)) ?_
      refine good_ret ?_
      obtain rfl := Option.some.inj h
      exact endQ_ret (h' := []) [] (.tmp rfl (.nil)) trivial (by decide) ⟨rfl, rfl⟩
end Go.Proofs.Ytiaigcdckmpepaa
