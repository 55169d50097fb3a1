/- What functions of this program answer, as plain functions; each theorem says that the code comes to just that. -/
import Derived.Test.YtiaigcdckmpepaaDat
import Derived.Test.YtiaigcdckmpepaaB13
import Derived.Test.YtiaigcdckmpepaaDatO
import Derived.Test.YtiaigcdckmpepaaB26
import Derived.Test.YtiaigcdckmpepaaGnm
import Derived.Test.YtiaigcdckmpepaaGok
import Derived.Test.YtiaigcdckmpepaaGcw
/-! Functions of the program. -/
set_option linter.unusedVariables false
set_option linter.unnecessarySimpa false
set_option maxRecDepth 100000
set_option maxHeartbeats 20000000
noncomputable section
namespace Go.Proofs.Ytiaigcdckmpepaa
open Go.Bb
def m_spec_l1Tree_l1 : Nat → Val → Bs → Int → Option (Lp Unit (Val × Bool))
  | 0, _, _, _ => none
  | k + 1, a0, a1, x1 =>
    (if x1 < (a0.names.length : Int) then
        some (Lp.go (decide (a0.kind = 5)))
      else
        some (Lp.go false)).bind fun o2 =>
    o2.then fun s2 =>
    if s2 = true then
      if (0 : Int) ≤ x1 ∧ x1 < (a0.names.length : Int) then
        if (ix a0.names x1) = a1 then
          if (0 : Int) ≤ x1 ∧ x1 < (a0.list.length : Int) then
            (some ((ix a0.list x1), true)).bind fun z =>
            some (Lp.ret z)
          else none
        else
          m_spec_l1Tree_l1 k a0 a1 (IntKind.wrap .i64 (x1 + 1))
      else none
    else
      some (Lp.go ())
def m_spec_l1Tree (k : Nat) (a0 : Val) (a1 : Bs) : Option (Val × Bool) :=
  (m_spec_l1Tree_l1 k a0 a1 0).bind fun o1 =>
  o1.then fun s1 =>
    some ((Val.mk 0 0 ([] : Bs) [] []), false)
theorem m_spec_l1Tree_ok (k : Nat) : ∀ (a0 : Val) (a1 : Bs) (r : (Val × Bool)), m_spec_l1Tree k a0 a1 = some r → Does Try.prog 53 [.agg [.int .i64 a0.kind, .int .i64 a0.num, .str a0.text, .sl true (a0.list.map encVal), .sl false (a0.names.map encS)], .str a1] [] (ret (.tup [.agg [.int .i64 r.1.kind, .int .i64 r.1.num, .str r.1.text, .sl true (r.1.list.map encVal), .sl false (r.1.names.map encS)], .bool r.2])) := by
  intro a0 a1 r h
  rw [m_spec_l1Tree] at h
  refine does_of_good tabOk Try.func53 rfl (by decide +kernel) (Nat.le_of_ble_eq_true rfl) fun c => ?_
  refine Good.le (σ' := ⟨32, [(0, .agg [.int .i64 a0.kind, .int .i64 a0.num, .str a0.text, .sl true (a0.list.map encVal), .sl false (a0.names.map encS)]), (1, .str a1)], []⟩) (Le.refl _) ?_
  refine good_seq fun K1 hK1 => ?_
  refine good_region ?_
  refine g_op rfl (o_box (k := 12) tabOk rfl rfl rfl rfl rfl ?_)
  intro b1
  refine g_op rfl (o_alloc (k := 14) tabOk tzero30 rfl rfl ?_)
  intro b2
  refine g_op rfl (ValOk.op (v_assign rfl rfl ?_)) 
  refine g_nil ?_
  refine hK1 _ ?_
  refine Good.le (σ' := ⟨32, [(1, _), (2, _), (4, _), (5, _)], [(12, (_, _)), (14, (_, _))]⟩) (le_w [some 12, some 14] rfl ⟨⟨_, rfl, .refl _⟩, ⟨⟨_, rfl, .refl _⟩, ⟨⟨_, rfl, .refl _⟩, ⟨⟨_, rfl, .refl _⟩, trivial⟩⟩⟩⟩ ⟨⟨_, rfl, .refl _⟩, ⟨⟨_, rfl, .refl _⟩, trivial⟩⟩ (by decide)) ?_
  refine good_seq fun K2 hK2 => ?_
  refine good_seq fun K3 hK3 => ?_
  refine good_region ?_
  refine g_op rfl (ValOk.op (v_assign rfl rfl ?_)) 
  refine g_nil ?_
  refine hK3 _ ?_
  obtain ⟨o1, ho1, hJ1⟩ := bnd h
  have hw1 : ∀ (s1 : Unit), o1 = Lp.go s1 → ∀ σ', Le σ' ⟨32, [(4, .ptr 14 b2 0), (5, .bool false)], [(14, ((.pointer (some ⟨b2, 0, none⟩)), .optr 30 [.int .i64 0, .int .i64 0, .str ([] : Bs), .nil, .nil]))]⟩ → K2 σ' := by
    intro s1 e1 σ' hle1
    subst e1
    refine hK2 _ (Good.le hle1 ?_)
    replace h := hJ1
    refine good_seq fun K4 hK4 => ?_
    refine good_region ?_
    refine g_op rfl (ValOk.op (v_build tabOk (cs := [.int .i64 0, .int .i64 0, .str ([] : Bs), .nil, .nil]) tzero30 tsok30 rfl rfl rfl ?_)) 
    refine g_op rfl (o_storeP tabOk (cs' := [.int .i64 0, .int .i64 0, .str ([] : Bs), .nil, .nil]) rfl rfl tsize30 rfl rfl rfl (Nat.le_of_ble_eq_true rfl) rfl rfl rfl ?_)
    refine g_op rfl (ValOk.op (v_assign rfl rfl ?_)) 
    refine g_nil ?_
    refine hK4 _ ?_
    refine Good.le (σ' := ⟨32, [(4, _), (5, _)], [(14, (_, _))]⟩) (le_w [some 14] rfl ⟨⟨_, rfl, .refl _⟩, ⟨⟨_, rfl, .refl _⟩, trivial⟩⟩ ⟨⟨_, rfl, .refl _⟩, trivial⟩ (by decide)) ?_
    refine Good.le (σ' := ⟨32, [(4, .ptr 14 b2 0), (5, .bool false)], [(14, ((.pointer (some ⟨b2, 0, none⟩)), .optr 30 [.int .i64 0, .int .i64 0, .str ([] : Bs), .sl true ([].map encVal), .sl false ([].map encS)]))]⟩) (le_w [some 14] rfl ⟨⟨_, rfl, .refl _⟩, ⟨⟨_, rfl, .refl _⟩, trivial⟩⟩ ⟨⟨_, rfl, .optr (.cons (.refl _) (.cons (.refl _) (.cons (.refl _) (.cons (.nilsl) (.cons (.nilsl) (.nil))))))⟩, trivial⟩ (by decide)) ?_
    refine good_ret ?_
    obtain rfl := Option.some.inj h
    exact endQ_ret (h' := []) [] (.cell rfl rfl tsize30 tagg30 rfl rfl rfl (.tmp rfl (.nil))) trivial (by decide) ⟨rfl, rfl⟩
  replace h := ho1
  refine good_block ?_
  refine good_loopf (fun p : Int => ⟨32, [(1, .str a1), (2, .ptr 12 b1 0), (4, .ptr 14 b2 0), (5, .bool false), (6, .int .i64 p)], [(12, ((.pointer (some ⟨b1, 0, none⟩)), .optr 30 [.int .i64 a0.kind, .int .i64 a0.num, .str a0.text, .sl true (a0.list.map encVal), .sl false (a0.names.map encS)])), (14, ((.pointer (some ⟨b2, 0, none⟩)), .optr 30 [.int .i64 0, .int .i64 0, .str ([] : Bs), .nil, .nil]))]⟩) (fun m p => m_spec_l1Tree_l1 m a0 a1 p = some o1) k (0) (le_w [some 12, some 14] rfl ⟨⟨_, rfl, .refl _⟩, ⟨⟨_, rfl, .refl _⟩, ⟨⟨_, rfl, .refl _⟩, ⟨⟨_, rfl, .refl _⟩, ⟨⟨_, rfl, .refl _⟩, trivial⟩⟩⟩⟩⟩ ⟨⟨_, rfl, .refl _⟩, ⟨⟨_, rfl, .refl _⟩, trivial⟩⟩ (by decide)) h ?_
  rintro m1 x1 h
  replace h : m_spec_l1Tree_l1 m1 a0 a1 x1 = some o1 := h
  refine Good.le (σ' := ⟨32, [(1, .str a1), (2, .ptr 12 b1 0), (4, .ptr 14 b2 0), (5, .bool false), (6, .int .i64 x1)], [(12, ((.pointer (some ⟨b1, 0, none⟩)), .optr 30 [.int .i64 a0.kind, .int .i64 a0.num, .str a0.text, .sl true (a0.list.map encVal), .sl false (a0.names.map encS)])), (14, ((.pointer (some ⟨b2, 0, none⟩)), .optr 30 [.int .i64 0, .int .i64 0, .str ([] : Bs), .nil, .nil]))]⟩) (Le.refl _) ?_
  obtain ⟨m1, rfl⟩ : ∃ m', m1 = m' + 1 := by cases m1 with | zero => (rw [m_spec_l1Tree_l1] at h; cases h) | succ m' => exact ⟨m', rfl⟩
  rw [m_spec_l1Tree_l1] at h
  refine good_seq fun K5 hK5 => ?_
  refine good_seq fun K6 hK6 => ?_
  obtain ⟨o2, ho2, hJ2⟩ := bnd h
  have hw2 : ∀ (s2 : Bool), o2 = Lp.go s2 → ∀ σ', Le σ' ⟨32, [(1, .str a1), (2, .ptr 12 b1 0), (4, .ptr 14 b2 0), (5, .bool false), (6, .int .i64 x1), (16, .bool s2)], [(12, ((.pointer (some ⟨b1, 0, none⟩)), .optr 30 [.int .i64 a0.kind, .int .i64 a0.num, .str a0.text, .sl true (a0.list.map encVal), .sl false (a0.names.map encS)])), (14, ((.pointer (some ⟨b2, 0, none⟩)), .optr 30 [.int .i64 0, .int .i64 0, .str ([] : Bs), .nil, .nil]))]⟩ → K6 σ' := by
    intro s2 e2 σ' hle2
    subst e2
    refine hK6 _ (Good.le hle2 ?_)
    replace h := hJ2
    refine good_cond rfl (fun hc1 => ?_) (fun hc1 => ?_)
    · replace h := ifT h hc1
      refine good_skip ?_
      refine hK5 _ ?_
      refine Good.le (σ' := ⟨32, [(1, _), (2, _), (4, _), (5, _), (6, _)], [(12, (_, _)), (14, (_, _))]⟩) (le_w [some 12, some 14] rfl ⟨⟨_, rfl, .refl _⟩, ⟨⟨_, rfl, .refl _⟩, ⟨⟨_, rfl, .refl _⟩, ⟨⟨_, rfl, .refl _⟩, ⟨⟨_, rfl, .refl _⟩, trivial⟩⟩⟩⟩⟩ ⟨⟨_, rfl, .refl _⟩, ⟨⟨_, rfl, .refl _⟩, trivial⟩⟩ (by decide)) ?_
      refine good_seq fun K7 hK7 => ?_
      refine good_block ?_
      refine good_seq fun K8 hK8 => ?_
      refine good_region ?_
      refine g_op rfl (ValOk.op (v_fieldP tabOk rfl tfoff30_4 rfl ?_)) 
      refine g_op rfl (ValOk.op (v_loadP tabOk rfl rfl tsize23 tagg23 rfl rfl rfl rfl ?_)) 
      refine g_op rfl (ValOk.op (v_move rfl rfl ?_)) 
      obtain ⟨hb1, h⟩ := ifS h
      refine g_op rfl (ValOk.op (v_idxM tabOk rfl rfl telem23 tsize9 hb1 rfl rfl rfl ?_)) 
      refine g_op rfl (ValOk.op (v_loadE tabOk rfl tsize9 tagg9 rfl rfl rfl ?_)) 
      refine g_op rfl (ValOk.op (v_move rfl rfl ?_)) 
      refine g_op rfl (ValOk.op (v_bin rfl rfl rfl rfl ?_)) 
      refine g_nil ?_
      refine hK8 _ ?_
      refine Good.le (σ' := ⟨32, [(1, _), (2, _), (4, _), (5, _), (6, _), (25, _)], [(12, (_, _)), (14, (_, _))]⟩) (le_w [some 12, some 14] rfl ⟨⟨_, rfl, .refl _⟩, ⟨⟨_, rfl, .refl _⟩, ⟨⟨_, rfl, .refl _⟩, ⟨⟨_, rfl, .refl _⟩, ⟨⟨_, rfl, .refl _⟩, ⟨⟨_, rfl, .refl _⟩, trivial⟩⟩⟩⟩⟩⟩ ⟨⟨_, rfl, .refl _⟩, ⟨⟨_, rfl, .refl _⟩, trivial⟩⟩ (by decide)) ?_
      refine good_cond rfl (fun hc2 => ?_) (fun hc2 => ?_)
      · replace h := ifT h (dT hc2)
        refine good_seq fun K9 hK9 => ?_
        refine good_region ?_
        refine g_op rfl (ValOk.op (v_fieldP tabOk rfl tfoff30_3 rfl ?_)) 
        refine g_op rfl (ValOk.op (v_loadP tabOk rfl rfl tsize28 tagg28 rfl rfl rfl rfl ?_)) 
        refine g_op rfl (ValOk.op (v_move rfl rfl ?_)) 
        obtain ⟨hb2, h⟩ := ifS h
        refine g_op rfl (ValOk.op (v_idxM tabOk rfl rfl telem28 tsize30 hb2 (encVal_eq _) rfl rfl ?_)) 
        refine g_op rfl (ValOk.op (v_loadE tabOk rfl tsize30 tagg30 rfl rfl rfl ?_)) 
        refine g_op rfl (o_storeP tabOk (cs' := [.int .i64 ((ix a0.list x1).kind), .int .i64 ((ix a0.list x1).num), .str ((ix a0.list x1).text), .sl true (((ix a0.list x1).list).map encVal), .sl false (((ix a0.list x1).names).map encS)]) rfl rfl tsize30 rfl rfl rfl (Nat.le_of_ble_eq_true rfl) rfl rfl rfl ?_)
        refine g_op rfl (ValOk.op (v_assign rfl rfl ?_)) 
        refine g_nil ?_
        refine hK9 _ ?_
        refine Good.le (σ' := ⟨32, [(1, _), (2, _), (4, _), (5, _), (6, _)], [(12, (_, _)), (14, (_, _))]⟩) (le_w [some 12, some 14] rfl ⟨⟨_, rfl, .refl _⟩, ⟨⟨_, rfl, .refl _⟩, ⟨⟨_, rfl, .refl _⟩, ⟨⟨_, rfl, .refl _⟩, ⟨⟨_, rfl, .refl _⟩, trivial⟩⟩⟩⟩⟩ ⟨⟨_, rfl, .refl _⟩, ⟨⟨_, rfl, .refl _⟩, trivial⟩⟩ (by decide)) ?_
        refine Good.le (σ' := ⟨32, [(4, .ptr 14 b2 0), (5, .bool true)], [(14, ((.pointer (some ⟨b2, 0, none⟩)), .optr 30 [.int .i64 ((ix a0.list x1).kind), .int .i64 ((ix a0.list x1).num), .str ((ix a0.list x1).text), .sl true (((ix a0.list x1).list).map encVal), .sl false (((ix a0.list x1).names).map encS)]))]⟩) (le_w [some 14] rfl ⟨⟨_, rfl, .refl _⟩, ⟨⟨_, rfl, .refl _⟩, trivial⟩⟩ ⟨⟨_, rfl, .refl _⟩, trivial⟩ (by decide)) ?_
        refine good_ret ?_
        replace h := unret h hJ1
        obtain rfl := Option.some.inj h
        refine blockQ_ret ?_
        refine thenQ_ret ?_
        refine thenQ_ret ?_
        refine blockQ_ret ?_
        refine thenQ_ret ?_
        exact endQ_ret (h' := []) [] (.cell rfl rfl tsize30 tagg30 rfl rfl rfl (.tmp rfl (.nil))) trivial (by decide) ⟨rfl, rfl⟩
      · replace h := ifF h (dF hc2)
        refine good_skip ?_
        refine hK7 _ ?_
        refine Good.le (σ' := ⟨32, [(1, _), (2, _), (4, _), (5, _), (6, _)], [(12, (_, _)), (14, (_, _))]⟩) (le_w [some 12, some 14] rfl ⟨⟨_, rfl, .refl _⟩, ⟨⟨_, rfl, .refl _⟩, ⟨⟨_, rfl, .refl _⟩, ⟨⟨_, rfl, .refl _⟩, ⟨⟨_, rfl, .refl _⟩, trivial⟩⟩⟩⟩⟩ ⟨⟨_, rfl, .refl _⟩, ⟨⟨_, rfl, .refl _⟩, trivial⟩⟩ (by decide)) ?_
        refine good_region ?_
        refine g_op rfl (ValOk.op (v_move rfl rfl ?_)) 
        refine g_op rfl (ValOk.op (v_bin rfl rfl rfl rfl ?_)) 
        refine g_op rfl (ValOk.op (v_assign rfl rfl ?_)) 
        refine g_nil ?_
        exact round_mk m1 (IntKind.wrap .i64 (x1 + 1)) (Nat.lt_succ_self _) h (le_w [some 12, some 14] rfl ⟨⟨_, rfl, .refl _⟩, ⟨⟨_, rfl, .refl _⟩, ⟨⟨_, rfl, .refl _⟩, ⟨⟨_, rfl, .refl _⟩, ⟨⟨_, rfl, .refl _⟩, trivial⟩⟩⟩⟩⟩ ⟨⟨_, rfl, .refl _⟩, ⟨⟨_, rfl, .refl _⟩, trivial⟩⟩ (by decide))
    · replace h := bF h hc1
      refine good_exit ?_
      exact hw1 () (Option.some.inj h).symm _ (le_w [some 14] rfl ⟨⟨_, rfl, .refl _⟩, ⟨⟨_, rfl, .refl _⟩, trivial⟩⟩ ⟨⟨_, rfl, .refl _⟩, trivial⟩ (by decide))
  replace h := ho2
  refine good_region ?_
  refine g_op rfl (ValOk.op (v_move rfl rfl ?_)) 
  refine g_op rfl (ValOk.op (v_fieldP tabOk rfl tfoff30_4 rfl ?_)) 
  refine g_op rfl (ValOk.op (v_loadP tabOk rfl rfl tsize23 tagg23 rfl rfl rfl rfl ?_)) 
  refine g_op rfl (ValOk.op (v_lenM (l := a0.names) (f := encS) tabOk rfl rfl telem23 rfl ?_)) 
  refine g_op rfl (ValOk.op (v_bin rfl rfl rfl rfl ?_)) 
  refine g_op rfl (ValOk.op (v_move rfl rfl ?_)) 
  rcases bsplit ((decide (x1 < (a0.names.length : Int)))) with hg1 | hg1
  · replace h := ifT h (dT hg1)
    refine g_yes rfl rfl hg1 (ValOk.op (v_fieldP tabOk rfl tfoff30_0 rfl ?_)) 
    refine g_yes rfl rfl hg1 (ValOk.op (v_loadP tabOk rfl rfl tsize3 tagg3 rfl rfl rfl rfl ?_)) 
    refine g_yes rfl rfl hg1 (ValOk.op (v_bin rfl rfl rfl rfl ?_)) 
    refine g_op rfl (ValOk.op (v_pickT rfl hg1 rfl rfl ?_)) 
    refine g_nil ?_
    exact hw2 (decide (a0.kind = 5)) (Option.some.inj h).symm _ (le_w [some 12, some 14] rfl ⟨⟨_, rfl, .refl _⟩, ⟨⟨_, rfl, .refl _⟩, ⟨⟨_, rfl, .refl _⟩, ⟨⟨_, rfl, .refl _⟩, ⟨⟨_, rfl, .refl _⟩, ⟨⟨_, rfl, .refl _⟩, trivial⟩⟩⟩⟩⟩⟩ ⟨⟨_, rfl, .refl _⟩, ⟨⟨_, rfl, .refl _⟩, trivial⟩⟩ (by decide))
  · replace h := ifF h (dF hg1)
    refine g_no rfl rfl hg1 rfl ?_
    refine g_no rfl rfl hg1 rfl ?_
    refine g_no rfl rfl hg1 rfl ?_
    refine g_op rfl (ValOk.op (v_pickF rfl hg1 rfl rfl ?_)) 
    refine g_nil ?_
    exact hw2 false (Option.some.inj h).symm _ (le_w [some 12, some 14] rfl ⟨⟨_, rfl, .refl _⟩, ⟨⟨_, rfl, .refl _⟩, ⟨⟨_, rfl, .refl _⟩, ⟨⟨_, rfl, .refl _⟩, ⟨⟨_, rfl, .refl _⟩, ⟨⟨_, rfl, .refl _⟩, trivial⟩⟩⟩⟩⟩⟩ ⟨⟨_, rfl, .refl _⟩, ⟨⟨_, rfl, .refl _⟩, trivial⟩⟩ (by decide))
mutual
def m_spec_l1Copy_l2 : Nat → Val → (List Bs) → Int → Option (Lp (List Bs) Val)
  | 0, _, _, _ => none
  | k + 1, a0, x3, x4 =>
    if x4 < (a0.names.length : Int) then
      if (0 : Int) ≤ x4 ∧ x4 < (a0.names.length : Int) then
        if (x3 ++ [(ix a0.names x4)]).length * 16 ≤ 140737488355328 then
          m_spec_l1Copy_l2 k a0 (x3 ++ [(ix a0.names x4)]) (IntKind.wrap .i64 (x4 + 1))
        else none
      else none
    else
      some (Lp.go x3)
def m_spec_l1Copy_l1 : Nat → Val → (List Val) → Int → Option (Lp (List Val) Val)
  | 0, _, _, _ => none
  | k + 1, a0, x1, x2 =>
    if x2 < (a0.list.length : Int) then
      if (0 : Int) ≤ x2 ∧ x2 < (a0.list.length : Int) then
        (m_spec_l1Copy k (ix a0.list x2)).bind fun y1 =>
        if (x1 ++ [y1]).length * 80 ≤ 140737488355328 then
          m_spec_l1Copy_l1 k a0 (x1 ++ [y1]) (IntKind.wrap .i64 (x2 + 1))
        else none
      else none
    else
      some (Lp.go x1)
def m_spec_l1Copy : Nat → Val → Option Val
  | 0, _ => none
  | k + 1, a0 =>
    (m_spec_l1Copy_l1 k a0 [] 0).bind fun o1 =>
    o1.then fun s1 =>
    (m_spec_l1Copy_l2 k a0 [] 0).bind fun o2 =>
    o2.then fun s2 =>
    some (Val.mk a0.kind a0.num a0.text s1 s2)
end
def P_m_spec_l1Copy (k : Nat) : Prop := ∀ (a0 : Val) (r : Val), m_spec_l1Copy k a0 = some r → Does Try.prog 54 [.agg [.int .i64 a0.kind, .int .i64 a0.num, .str a0.text, .sl true (a0.list.map encVal), .sl false (a0.names.map encS)]] [] (fun q h' => ∃ u0 : Value, ∃ u1 : Value, q = .agg [.int .i64 r.kind, .int .i64 r.num, .str r.text, .hd 100 u0, .hd 101 u1] ∧ h' = [(100, (u0, .osl 30 5 (r.list.map encOVal))), (101, (u1, .osl 9 1 (r.names.map encS)))])
theorem m_spec_l1Copy_step (k : Nat) (ih : ∀ m, m < k → P_m_spec_l1Copy m) : P_m_spec_l1Copy k := by
  intro a0 r h
  obtain ⟨k, rfl⟩ : ∃ k', k = k' + 1 := by cases k with | zero => (rw [m_spec_l1Copy] at h; cases h) | succ k' => exact ⟨k', rfl⟩
  rw [m_spec_l1Copy] at h
  refine does_of_good tabOk Try.func54 rfl (by decide +kernel) (Nat.le_of_ble_eq_true rfl) fun c => ?_
  refine Good.le (σ' := ⟨49, [(0, .agg [.int .i64 a0.kind, .int .i64 a0.num, .str a0.text, .sl true (a0.list.map encVal), .sl false (a0.names.map encS)])], []⟩) (Le.refl _) ?_
  refine good_seq fun K1 hK1 => ?_
  refine good_region ?_
  refine g_op rfl (o_box (k := 11) tabOk rfl rfl rfl rfl rfl ?_)
  intro b1
  refine g_op rfl (o_alloc (k := 12) tabOk tzero30 rfl rfl ?_)
  intro b2
  refine g_nil ?_
  refine hK1 _ ?_
  refine Good.le (σ' := ⟨49, [(1, _), (2, _)], [(11, (_, _)), (12, (_, _))]⟩) (le_w [some 11, some 12] rfl ⟨⟨_, rfl, .refl _⟩, ⟨⟨_, rfl, .refl _⟩, trivial⟩⟩ ⟨⟨_, rfl, .refl _⟩, ⟨⟨_, rfl, .refl _⟩, trivial⟩⟩ (by decide)) ?_
  refine good_seq fun K2 hK2 => ?_
  refine good_region ?_
  refine g_op rfl (ValOk.op (v_fieldP tabOk rfl tfoff30_0 rfl ?_)) 
  refine g_op rfl (ValOk.op (v_loadP tabOk rfl rfl tsize3 tagg3 rfl rfl rfl rfl ?_)) 
  refine g_op rfl (ValOk.op (v_fieldP tabOk rfl tfoff30_1 rfl ?_)) 
  refine g_op rfl (ValOk.op (v_loadP tabOk rfl rfl tsize3 tagg3 rfl rfl rfl rfl ?_)) 
  refine g_op rfl (ValOk.op (v_fieldP tabOk rfl tfoff30_2 rfl ?_)) 
  refine g_op rfl (ValOk.op (v_loadP tabOk rfl rfl tsize9 tagg9 rfl rfl rfl rfl ?_)) 
  refine g_op rfl (ValOk.op (v_build tabOk (cs := [.int .i64 a0.kind, .int .i64 a0.num, .str a0.text, .nil, .nil]) tzero30 tsok30 rfl rfl rfl ?_)) 
  refine g_op rfl (o_alloc (k := 13) tabOk tzero30 rfl rfl ?_)
  intro b3
  refine g_op rfl (o_storeP tabOk (cs' := [.int .i64 a0.kind, .int .i64 a0.num, .str a0.text, .nil, .nil]) rfl rfl tsize30 rfl rfl rfl (Nat.le_of_ble_eq_true rfl) rfl rfl rfl ?_)
  refine g_nil ?_
  refine hK2 _ ?_
  refine Good.le (σ' := ⟨49, [(1, _), (2, _), (3, _)], [(11, (_, _)), (12, (_, _)), (13, (_, _))]⟩) (le_w [some 11, some 12, some 13] rfl ⟨⟨_, rfl, .refl _⟩, ⟨⟨_, rfl, .refl _⟩, ⟨⟨_, rfl, .refl _⟩, trivial⟩⟩⟩ ⟨⟨_, rfl, .refl _⟩, ⟨⟨_, rfl, .refl _⟩, ⟨⟨_, rfl, .refl _⟩, trivial⟩⟩⟩ (by decide)) ?_
  refine good_seq fun K3 hK3 => ?_
  refine good_seq fun K4 hK4 => ?_
  refine good_region ?_
  refine g_op rfl (ValOk.op (v_assign rfl rfl ?_)) 
  refine g_nil ?_
  refine hK4 _ ?_
  obtain ⟨o1, ho1, hJ1⟩ := bnd h
  have hw1 : ∀ (s1 : (List Val)) (w2 : Value), o1 = Lp.go s1 → ∀ σ', Le σ' ⟨49, [(1, .ptr 11 b1 0), (2, .ptr 12 b2 0), (3, .ptr 13 b3 0)], [(11, ((.pointer (some ⟨b1, 0, none⟩)), .optr 30 [.int .i64 a0.kind, .int .i64 a0.num, .str a0.text, .sl true (a0.list.map encVal), .sl false (a0.names.map encS)])), (12, ((.pointer (some ⟨b2, 0, none⟩)), .optr 30 [.int .i64 0, .int .i64 0, .str ([] : Bs), .nil, .nil])), (13, ((.pointer (some ⟨b3, 0, none⟩)), .optr 30 [.int .i64 a0.kind, .int .i64 a0.num, .str a0.text, .hd 5204 w2, .nil])), (5204, (w2, .osl 30 5 (s1.map encOVal)))]⟩ → K3 σ' := by
    intro s1 w2 e1 σ' hle1
    subst e1
    refine hK3 _ (Good.le hle1 ?_)
    replace h := hJ1
    refine good_seq fun K5 hK5 => ?_
    refine good_seq fun K6 hK6 => ?_
    refine good_region ?_
    refine g_op rfl (ValOk.op (v_assign rfl rfl ?_)) 
    refine g_nil ?_
    refine hK6 _ ?_
    obtain ⟨o2, ho2, hJ2⟩ := bnd h
    have hw2 : ∀ (s2 : (List Bs)) (w4 : Value), o2 = Lp.go s2 → ∀ σ', Le σ' ⟨49, [(2, .ptr 12 b2 0), (3, .ptr 13 b3 0)], [(12, ((.pointer (some ⟨b2, 0, none⟩)), .optr 30 [.int .i64 0, .int .i64 0, .str ([] : Bs), .nil, .nil])), (13, ((.pointer (some ⟨b3, 0, none⟩)), .optr 30 [.int .i64 a0.kind, .int .i64 a0.num, .str a0.text, .hd 5204 w2, .hd 6207 w4])), (5204, (w2, .osl 30 5 (s1.map encOVal))), (6207, (w4, .osl 9 1 (s2.map encS)))]⟩ → K5 σ' := by
      intro s2 w4 e2 σ' hle2
      subst e2
      refine hK5 _ (Good.le hle2 ?_)
      replace h := hJ2
      refine good_seq fun K7 hK7 => ?_
      refine good_region ?_
      refine g_op rfl (ValOk.op (v_loadP tabOk rfl rfl tsize30 tagg30 rfl rfl rfl rfl ?_)) 
      refine g_op rfl (o_storeP tabOk (cs' := [.int .i64 a0.kind, .int .i64 a0.num, .str a0.text, .hd 5204 w2, .hd 6207 w4]) rfl rfl tsize30 rfl rfl rfl (Nat.le_of_ble_eq_true rfl) rfl rfl rfl ?_)
      refine g_nil ?_
      refine hK7 _ ?_
      refine Good.le (σ' := ⟨49, [(2, _)], [(12, (_, _)), (5204, (_, _)), (6207, (_, _))]⟩) (le_w [some 12, some 5204, some 6207] rfl ⟨⟨_, rfl, .refl _⟩, trivial⟩ ⟨⟨_, rfl, .refl _⟩, ⟨⟨_, rfl, .refl _⟩, ⟨⟨_, rfl, .refl _⟩, trivial⟩⟩⟩ (by decide)) ?_
      refine Good.le (σ' := ⟨49, [(2, .ptr 12 b2 0)], [(100, (w2, .osl 30 5 (s1.map encOVal))), (101, (w4, .osl 9 1 (s2.map encS))), (12, ((.pointer (some ⟨b2, 0, none⟩)), .optr 30 [.int .i64 a0.kind, .int .i64 a0.num, .str a0.text, .hd 100 w2, .hd 101 w4]))]⟩) (le_w [some 5204, some 6207, some 12] rfl ⟨⟨_, rfl, .refl _⟩, trivial⟩ ⟨⟨_, rfl, .refl _⟩, ⟨⟨_, rfl, .refl _⟩, ⟨⟨_, rfl, .optr (.cons (.refl _) (.cons (.refl _) (.cons (.refl _) (.cons (.hd _ _ _) (.cons (.hd _ _ _) (.nil))))))⟩, trivial⟩⟩⟩ (by decide)) ?_
      refine good_ret ?_
      obtain rfl := Option.some.inj h
      exact endQ_ret (h' := [(100, (_, _)), (101, (_, _))]) [some 100, some 101] (.cell rfl rfl tsize30 tagg30 rfl rfl rfl (.nil)) ⟨⟨_, rfl, .refl _⟩, ⟨⟨_, rfl, .refl _⟩, trivial⟩⟩ (by decide) ⟨w2, w4, rfl, rfl⟩
    replace h := ho2
    refine good_block ?_
    refine good_loopf (fun p : ((List Bs) × Int × Value) => ⟨49, [(1, .ptr 11 b1 0), (2, .ptr 12 b2 0), (3, .ptr 13 b3 0), (5, .int .i64 p.2.1)], [(11, ((.pointer (some ⟨b1, 0, none⟩)), .optr 30 [.int .i64 a0.kind, .int .i64 a0.num, .str a0.text, .sl true (a0.list.map encVal), .sl false (a0.names.map encS)])), (12, ((.pointer (some ⟨b2, 0, none⟩)), .optr 30 [.int .i64 0, .int .i64 0, .str ([] : Bs), .nil, .nil])), (13, ((.pointer (some ⟨b3, 0, none⟩)), .optr 30 [.int .i64 a0.kind, .int .i64 a0.num, .str a0.text, .hd 5204 w2, .hd 6208 p.2.2])), (5204, (w2, .osl 30 5 (s1.map encOVal))), (6208, (p.2.2, .osl 9 1 (p.1.map encS)))]⟩) (fun m p => m < k + 1 ∧ m_spec_l1Copy_l2 m a0 p.1 p.2.1 = some o2) k ([], 0, nilV) (le_w [some 11, some 12, some 13, some 5204, none] rfl ⟨⟨_, rfl, .refl _⟩, ⟨⟨_, rfl, .refl _⟩, ⟨⟨_, rfl, .refl _⟩, ⟨⟨_, rfl, .refl _⟩, trivial⟩⟩⟩⟩ ⟨⟨_, rfl, .refl _⟩, ⟨⟨_, rfl, .refl _⟩, ⟨⟨_, rfl, .optr (.cons (.refl _) (.cons (.refl _) (.cons (.refl _) (.cons (.refl _) (.cons (.nilhd _) (.nil))))))⟩, ⟨⟨_, rfl, .refl _⟩, ⟨⟨rfl, _, _, rfl⟩, trivial⟩⟩⟩⟩⟩ (by decide)) ⟨by omega, h⟩ ?_
    rintro m1 ⟨x3, x4, w3⟩ ⟨hm, h⟩
    replace h : m_spec_l1Copy_l2 m1 a0 x3 x4 = some o2 := h
    refine Good.le (σ' := ⟨49, [(1, .ptr 11 b1 0), (2, .ptr 12 b2 0), (3, .ptr 13 b3 0), (5, .int .i64 x4)], [(11, ((.pointer (some ⟨b1, 0, none⟩)), .optr 30 [.int .i64 a0.kind, .int .i64 a0.num, .str a0.text, .sl true (a0.list.map encVal), .sl false (a0.names.map encS)])), (12, ((.pointer (some ⟨b2, 0, none⟩)), .optr 30 [.int .i64 0, .int .i64 0, .str ([] : Bs), .nil, .nil])), (13, ((.pointer (some ⟨b3, 0, none⟩)), .optr 30 [.int .i64 a0.kind, .int .i64 a0.num, .str a0.text, .hd 5204 w2, .hd 6208 w3])), (5204, (w2, .osl 30 5 (s1.map encOVal))), (6208, (w3, .osl 9 1 (x3.map encS)))]⟩) (Le.refl _) ?_
    obtain ⟨m1, rfl⟩ : ∃ m', m1 = m' + 1 := by cases m1 with | zero => (rw [m_spec_l1Copy_l2] at h; cases h) | succ m' => exact ⟨m', rfl⟩
    rw [m_spec_l1Copy_l2] at h
    refine good_seq fun K8 hK8 => ?_
    refine good_seq fun K9 hK9 => ?_
    refine good_region ?_
    refine g_op rfl (ValOk.op (v_move rfl rfl ?_)) 
    refine g_op rfl (ValOk.op (v_fieldP tabOk rfl tfoff30_4 rfl ?_)) 
    refine g_op rfl (ValOk.op (v_loadP tabOk rfl rfl tsize23 tagg23 rfl rfl rfl rfl ?_)) 
    refine g_op rfl (ValOk.op (v_lenM (l := a0.names) (f := encS) tabOk rfl rfl telem23 rfl ?_)) 
    refine g_op rfl (ValOk.op (v_bin rfl rfl rfl rfl ?_)) 
    refine g_nil ?_
    refine hK9 _ ?_
    refine Good.le (σ' := ⟨49, [(1, _), (2, _), (3, _), (5, _), (35, _)], [(11, (_, _)), (12, (_, _)), (13, (_, _)), (5204, (_, _)), (6208, (_, _))]⟩) (le_w [some 11, some 12, some 13, some 5204, some 6208] rfl ⟨⟨_, rfl, .refl _⟩, ⟨⟨_, rfl, .refl _⟩, ⟨⟨_, rfl, .refl _⟩, ⟨⟨_, rfl, .refl _⟩, ⟨⟨_, rfl, .refl _⟩, trivial⟩⟩⟩⟩⟩ ⟨⟨_, rfl, .refl _⟩, ⟨⟨_, rfl, .refl _⟩, ⟨⟨_, rfl, .refl _⟩, ⟨⟨_, rfl, .refl _⟩, ⟨⟨_, rfl, .refl _⟩, trivial⟩⟩⟩⟩⟩ (by decide)) ?_
    refine good_cond rfl (fun hc1 => ?_) (fun hc1 => ?_)
    · replace h := ifT h (dT hc1)
      refine good_skip ?_
      refine hK8 _ ?_
      refine Good.le (σ' := ⟨49, [(1, _), (2, _), (3, _), (5, _)], [(11, (_, _)), (12, (_, _)), (13, (_, _)), (5204, (_, _)), (6208, (_, _))]⟩) (le_w [some 11, some 12, some 13, some 5204, some 6208] rfl ⟨⟨_, rfl, .refl _⟩, ⟨⟨_, rfl, .refl _⟩, ⟨⟨_, rfl, .refl _⟩, ⟨⟨_, rfl, .refl _⟩, trivial⟩⟩⟩⟩ ⟨⟨_, rfl, .refl _⟩, ⟨⟨_, rfl, .refl _⟩, ⟨⟨_, rfl, .refl _⟩, ⟨⟨_, rfl, .refl _⟩, ⟨⟨_, rfl, .refl _⟩, trivial⟩⟩⟩⟩⟩ (by decide)) ?_
      refine good_seq fun K10 hK10 => ?_
      refine good_block ?_
      obtain ⟨hb1, h⟩ := ifS h
      obtain ⟨hb2, h⟩ := ifS h
      refine good_anyM (by kernel_rfl) [⟨[], [3], [], [], [], []⟩, ⟨[0], [38], [13], [], [], []⟩, ⟨[], [1], [], [], [], []⟩, ⟨[2], [40], [11], [], [], []⟩, ⟨[], [5], [], [], [], []⟩, ⟨[2, 3, 4], [41, 42], [], [], [], []⟩, ⟨[2, 3, 4, 5], [43], [], [], [], []⟩, ⟨[2, 3, 4, 5, 6], [44], [], [], [], []⟩, ⟨[0, 1, 2, 3, 4, 5, 6, 7], [39, 45], [6208], [6208], [56], [56]⟩, ⟨[0, 1, 2, 3, 4, 5, 6, 7, 8], [3], [], [], [], []⟩, ⟨[0, 1, 2, 3, 4, 5, 6, 7, 8, 9], [47, 46], [13], [13], [9005], []⟩] [some 38, some 39, some 40, some 41, some 42, some 43, some 44, some 45, some 46, some 47, none] 49 [(1, .ptr 11 b1 0), (2, .ptr 12 b2 0), (3, .ptr 13 b3 0), (5, .int .i64 x4)] [(11, ((.pointer (some ⟨b1, 0, none⟩)), .optr 30 [.int .i64 a0.kind, .int .i64 a0.num, .str a0.text, .sl true (a0.list.map encVal), .sl false (a0.names.map encS)])), (12, ((.pointer (some ⟨b2, 0, none⟩)), .optr 30 [.int .i64 0, .int .i64 0, .str ([] : Bs), .nil, .nil])), (13, ((.pointer (some ⟨b3, 0, none⟩)), .optr 30 [.int .i64 a0.kind, .int .i64 a0.num, .str a0.text, .hd 5204 w2, .hd 6208 w3])), (5204, (w2, .osl 30 5 (s1.map encOVal))), (6208, (w3, .osl 9 1 (x3.map encS)))] (fun ν1 => [.ptr 13 b3 4, .hd 6208 w3, .ptr 11 b1 4, .sl false (a0.names.map encS), .int .i64 x4, .eptr [.str (ix a0.names x4)], .str (ix a0.names x4), .sl false ([(ix a0.names x4)].map encS), .hd 56 (ν1 56), .ptr 13 b3 4, .und]) (fun ν1 => [(56, ((ν1 56), .osl 9 1 ((x3 ++ [(ix a0.names x4)]).map encS))), (9005, ((.pointer (some ⟨b3, 0, none⟩)), .optr 30 [.int .i64 a0.kind, .int .i64 a0.num, .str a0.text, .hd 5204 w2, .hd 56 (ν1 56)]))]) [(56, [56]), (9005, [56]), (11, []), (12, []), (13, []), (5204, []), (6208, [])] [56, 9005] [some 11, some 12, some 9005, some 5204, some 56] (fun ν1 => [(1, .ptr 11 b1 0), (2, .ptr 12 b2 0), (3, .ptr 13 b3 0), (5, .int .i64 x4)]) (fun ν1 => [(11, ((.pointer (some ⟨b1, 0, none⟩)), .optr 30 [.int .i64 a0.kind, .int .i64 a0.num, .str a0.text, .sl true (a0.list.map encVal), .sl false (a0.names.map encS)])), (12, ((.pointer (some ⟨b2, 0, none⟩)), .optr 30 [.int .i64 0, .int .i64 0, .str ([] : Bs), .nil, .nil])), (13, ((.pointer (some ⟨b3, 0, none⟩)), .optr 30 [.int .i64 a0.kind, .int .i64 a0.num, .str a0.text, .hd 5204 w2, .hd 56 (ν1 56)])), (5204, (w2, .osl 30 5 (s1.map encOVal))), (56, ((ν1 56), .osl 9 1 ((x3 ++ [(ix a0.names x4)]).map encS)))]) (le_w [some 11, some 12, some 13, some 5204, some 6208] rfl ⟨⟨_, rfl, .refl _⟩, ⟨⟨_, rfl, .refl _⟩, ⟨⟨_, rfl, .refl _⟩, ⟨⟨_, rfl, .refl _⟩, trivial⟩⟩⟩⟩ ⟨⟨_, rfl, .refl _⟩, ⟨⟨_, rfl, .refl _⟩, ⟨⟨_, rfl, .refl _⟩, ⟨⟨_, rfl, .refl _⟩, ⟨⟨_, rfl, .refl _⟩, trivial⟩⟩⟩⟩⟩ (by decide)) (by kernel_rfl) ⟨?_, ⟨?_, ⟨?_, ⟨?_, ⟨?_, ⟨?_, ⟨?_, ⟨?_, ⟨?_, ⟨?_, ⟨?_, trivial⟩⟩⟩⟩⟩⟩⟩⟩⟩⟩⟩ ⟨fun _ _ _ => rfl, ⟨fun _ _ _ => rfl, ⟨fun _ _ _ => rfl, ⟨fun _ _ _ => rfl, ⟨fun _ _ _ => rfl, ⟨fun _ _ _ => rfl, ⟨fun _ _ _ => rfl, ⟨fun _ _ _ => rfl, ⟨fun _ _ h => (congrArg (fun zz0 => (some (.hd 56 zz0) : Option AV)) (h 56 (by decide))), ⟨fun _ _ _ => rfl, ⟨fun _ _ _ => rfl, trivial⟩⟩⟩⟩⟩⟩⟩⟩⟩⟩⟩ ⟨fun _ _ h => (congrArg (fun zz0 => (some (zz0, .osl 9 1 ((x3 ++ [(ix a0.names x4)]).map encS)) : Option (Value × AV))) (h 56 (by decide))), ⟨fun _ _ h => (congrArg (fun zz0 => (some ((.pointer (some ⟨b3, 0, none⟩)), .optr 30 [.int .i64 a0.kind, .int .i64 a0.num, .str a0.text, .hd 5204 w2, .hd 56 zz0]) : Option (Value × AV))) (h 56 (by decide))), ⟨fun _ _ _ => rfl, ⟨fun _ _ _ => rfl, ⟨fun _ _ _ => rfl, ⟨fun _ _ _ => rfl, ⟨fun _ _ _ => rfl, trivial⟩⟩⟩⟩⟩⟩⟩ (fun _ => rfl) (fun _ => rfl) (by kernel_rfl) (fun _ => ⟨⟨_, rfl, .refl _⟩, ⟨⟨_, rfl, .refl _⟩, ⟨⟨_, rfl, .refl _⟩, ⟨⟨_, rfl, .refl _⟩, trivial⟩⟩⟩⟩) (fun _ => ⟨⟨_, rfl, .refl _⟩, ⟨⟨_, rfl, .refl _⟩, ⟨⟨_, rfl, .refl _⟩, ⟨⟨_, rfl, .refl _⟩, ⟨⟨_, rfl, .refl _⟩, trivial⟩⟩⟩⟩⟩) (by kernel_rfl) (by decide) ?_
      · refine local_mk (fun ν1 => [(3, .ptr 13 b3 0)]) (fun ν1 => []) (fun _ => rfl) (fun _ => ⟨⟨_, rfl, .refl _, .refl _⟩, trivial⟩) (fun _ => rfl) (fun _ => trivial) ?_
        intro ν1 S H hS hfr
        refine st_op rfl (ValOk.op (v_fieldP tabOk rfl tfoff30_4 rfl ?_)) 
        exact lp_v hS rfl rfl (fun _ => rfl)
      · refine local_mk (fun ν1 => [(38, .ptr 13 b3 4)]) (fun ν1 => [(13, ((.pointer (some ⟨b3, 0, none⟩)), .optr 30 [.int .i64 a0.kind, .int .i64 a0.num, .str a0.text, .hd 5204 w2, .hd 6208 w3]))]) (fun _ => rfl) (fun _ => ⟨⟨_, rfl, .refl _, .refl _⟩, trivial⟩) (fun _ => rfl) (fun _ => ⟨rfl, trivial⟩) ?_
        intro ν1 S H hS hfr
        refine st_op rfl (ValOk.op (v_loadP tabOk rfl rfl tsize23 tagg23 rfl rfl rfl rfl ?_)) 
        exact lp_v hS rfl rfl (fun _ => rfl)
      · refine local_mk (fun ν1 => [(1, .ptr 11 b1 0)]) (fun ν1 => []) (fun _ => rfl) (fun _ => ⟨⟨_, rfl, .refl _, .refl _⟩, trivial⟩) (fun _ => rfl) (fun _ => trivial) ?_
        intro ν1 S H hS hfr
        refine st_op rfl (ValOk.op (v_fieldP tabOk rfl tfoff30_4 rfl ?_)) 
        exact lp_v hS rfl rfl (fun _ => rfl)
      · refine local_mk (fun ν1 => [(40, .ptr 11 b1 4)]) (fun ν1 => [(11, ((.pointer (some ⟨b1, 0, none⟩)), .optr 30 [.int .i64 a0.kind, .int .i64 a0.num, .str a0.text, .sl true (a0.list.map encVal), .sl false (a0.names.map encS)]))]) (fun _ => rfl) (fun _ => ⟨⟨_, rfl, .refl _, .refl _⟩, trivial⟩) (fun _ => rfl) (fun _ => ⟨rfl, trivial⟩) ?_
        intro ν1 S H hS hfr
        refine st_op rfl (ValOk.op (v_loadP tabOk rfl rfl tsize23 tagg23 rfl rfl rfl rfl ?_)) 
        exact lp_v hS rfl rfl (fun _ => rfl)
      · refine local_mk (fun ν1 => [(5, .int .i64 x4)]) (fun ν1 => []) (fun _ => rfl) (fun _ => ⟨⟨_, rfl, .refl _, .refl _⟩, trivial⟩) (fun _ => rfl) (fun _ => trivial) ?_
        intro ν1 S H hS hfr
        refine st_op rfl (ValOk.op (v_move rfl rfl ?_)) 
        exact lp_v hS rfl rfl (fun _ => rfl)
      · refine local_mk (fun ν1 => [(41, .sl false (a0.names.map encS)), (42, .int .i64 x4)]) (fun ν1 => []) (fun _ => rfl) (fun _ => ⟨⟨_, rfl, .refl _, .refl _⟩, ⟨⟨_, rfl, .refl _, .refl _⟩, trivial⟩⟩) (fun _ => rfl) (fun _ => trivial) ?_
        intro ν1 S H hS hfr
        refine st_op rfl (ValOk.op (v_idxM tabOk rfl rfl telem23 tsize9 hb1 rfl rfl rfl ?_)) 
        exact lp_v hS rfl rfl (fun _ => rfl)
      · refine local_mk (fun ν1 => [(43, .eptr [.str (ix a0.names x4)])]) (fun ν1 => []) (fun _ => rfl) (fun _ => ⟨⟨_, rfl, .refl _, .refl _⟩, trivial⟩) (fun _ => rfl) (fun _ => trivial) ?_
        intro ν1 S H hS hfr
        refine st_op rfl (ValOk.op (v_loadE tabOk rfl tsize9 tagg9 rfl rfl rfl ?_)) 
        exact lp_v hS rfl rfl (fun _ => rfl)
      · refine local_mk (fun ν1 => [(44, .str (ix a0.names x4))]) (fun ν1 => []) (fun _ => rfl) (fun _ => ⟨⟨_, rfl, .refl _, .refl _⟩, trivial⟩) (fun _ => rfl) (fun _ => trivial) ?_
        intro ν1 S H hS hfr
        obtain ⟨kf, hkf⟩ := exists_fresh ([] ++ H)
        refine st_op rfl (o_buildSlice (k := kf) (rows := [(ix a0.names x4)].map encS) tabOk telem23 tsize9 rfl rfl rfl rfl (by decide) (by decide) (by rw [tzero9]; rfl) rfl rfl rfl hkf rfl ?_)
        intro w
        exact lp_fn hS rfl rfl hkf (FrzLL.map fun _ _ => encS_frz _) (fun _ => rfl)
      · refine local_mk (fun ν1 => [(39, .hd 6208 w3), (45, .sl false ([(ix a0.names x4)].map encS))]) (fun ν1 => [(6208, (w3, .osl 9 1 (x3.map encS)))]) (fun _ => rfl) (fun _ => ⟨⟨_, rfl, .refl _, .refl _⟩, ⟨⟨_, rfl, .refl _, .refl _⟩, trivial⟩⟩) (fun _ => rfl) (fun _ => ⟨rfl, trivial⟩) ?_
        intro ν1 S H hS hfr
        refine st_op rfl (o_appendSM (q := 6208) (k := 56) (f := encS) (l2 := [(ix a0.names x4)]) tabOk ⟨_, rfl⟩ rfl rfl telem23 tsize9 tbytes9 tzero9 rfl (by decide) (by decide) encS_len encS_ok rfl (has_minus (hfr _ (by decide))) rfl hb2 ?_)
        intro w
        exact lp_m (k := 56) hS rfl rfl (.inl rfl) (fun _ => rfl) rfl
      · refine local_mk (fun ν1 => [(3, .ptr 13 b3 0)]) (fun ν1 => []) (fun _ => rfl) (fun _ => ⟨⟨_, rfl, .refl _, .refl _⟩, trivial⟩) (fun _ => rfl) (fun _ => trivial) ?_
        intro ν1 S H hS hfr
        refine st_op rfl (ValOk.op (v_fieldP tabOk rfl tfoff30_4 rfl ?_)) 
        exact lp_v hS rfl rfl (fun _ => rfl)
      · refine local_mk (fun ν1 => [(47, .ptr 13 b3 4), (46, .hd 56 (ν1 56))]) (fun ν1 => [(13, ((.pointer (some ⟨b3, 0, none⟩)), .optr 30 [.int .i64 a0.kind, .int .i64 a0.num, .str a0.text, .hd 5204 w2, .hd 6208 w3]))]) (fun _ => rfl) (fun _ => ⟨⟨_, rfl, .refl _, .refl _⟩, ⟨⟨_, rfl, .refl _, .refl _⟩, trivial⟩⟩) (fun _ => rfl) (fun _ => ⟨rfl, trivial⟩) ?_
        intro ν1 S H hS hfr
        refine st_op rfl (o_storeP tabOk (cs' := [.int .i64 a0.kind, .int .i64 a0.num, .str a0.text, .hd 5204 w2, .hd 56 (ν1 56)]) rfl rfl tsize23 rfl rfl rfl (Nat.le_of_ble_eq_true rfl) rfl rfl rfl ?_)
        exact lp_m (k := 9005) hS rfl rfl (.inr (by decide)) (fun _ => rfl) rfl
      intro ν1
      refine hK10 _ ?_
      refine good_region ?_
      refine g_op rfl (ValOk.op (v_move rfl rfl ?_)) 
      refine g_op rfl (ValOk.op (v_bin rfl rfl rfl rfl ?_)) 
      refine g_op rfl (ValOk.op (v_assign rfl rfl ?_)) 
      refine g_nil ?_
      exact round_mk m1 (x3 ++ [(ix a0.names x4)], IntKind.wrap .i64 (x4 + 1), (ν1 56)) (Nat.lt_succ_self _) ⟨by omega, h⟩ (le_w [some 11, some 12, some 13, some 5204, some 56] rfl ⟨⟨_, rfl, .refl _⟩, ⟨⟨_, rfl, .refl _⟩, ⟨⟨_, rfl, .refl _⟩, ⟨⟨_, rfl, .refl _⟩, trivial⟩⟩⟩⟩ ⟨⟨_, rfl, .refl _⟩, ⟨⟨_, rfl, .refl _⟩, ⟨⟨_, rfl, .optr (.cons (.refl _) (.cons (.refl _) (.cons (.refl _) (.cons (.refl _) (.cons (.hd _ _ _) (.nil))))))⟩, ⟨⟨_, rfl, .refl _⟩, ⟨⟨_, rfl, .refl _⟩, trivial⟩⟩⟩⟩⟩ (by decide))
    · replace h := ifF h (dF hc1)
      refine good_exit ?_
      exact hw2 x3 w3 (Option.some.inj h).symm _ (le_w [some 12, some 13, some 5204, some 6208] rfl ⟨⟨_, rfl, .refl _⟩, ⟨⟨_, rfl, .refl _⟩, trivial⟩⟩ ⟨⟨_, rfl, .refl _⟩, ⟨⟨_, rfl, .optr (.cons (.refl _) (.cons (.refl _) (.cons (.refl _) (.cons (.refl _) (.cons (.hd _ _ _) (.nil))))))⟩, ⟨⟨_, rfl, .refl _⟩, ⟨⟨_, rfl, .refl _⟩, trivial⟩⟩⟩⟩ (by decide))
  replace h := ho1
  refine good_block ?_
  refine good_loopf (fun p : ((List Val) × Int × Value) => ⟨49, [(1, .ptr 11 b1 0), (2, .ptr 12 b2 0), (3, .ptr 13 b3 0), (4, .int .i64 p.2.1)], [(11, ((.pointer (some ⟨b1, 0, none⟩)), .optr 30 [.int .i64 a0.kind, .int .i64 a0.num, .str a0.text, .sl true (a0.list.map encVal), .sl false (a0.names.map encS)])), (12, ((.pointer (some ⟨b2, 0, none⟩)), .optr 30 [.int .i64 0, .int .i64 0, .str ([] : Bs), .nil, .nil])), (13, ((.pointer (some ⟨b3, 0, none⟩)), .optr 30 [.int .i64 a0.kind, .int .i64 a0.num, .str a0.text, .hd 5305 p.2.2, .nil])), (5305, (p.2.2, .osl 30 5 (p.1.map encOVal)))]⟩) (fun m p => m < k + 1 ∧ m_spec_l1Copy_l1 m a0 p.1 p.2.1 = some o1) k ([], 0, nilV) (le_w [some 11, some 12, some 13, none] rfl ⟨⟨_, rfl, .refl _⟩, ⟨⟨_, rfl, .refl _⟩, ⟨⟨_, rfl, .refl _⟩, ⟨⟨_, rfl, .refl _⟩, trivial⟩⟩⟩⟩ ⟨⟨_, rfl, .refl _⟩, ⟨⟨_, rfl, .refl _⟩, ⟨⟨_, rfl, .optr (.cons (.refl _) (.cons (.refl _) (.cons (.refl _) (.cons (.nilhd _) (.cons (.refl _) (.nil))))))⟩, ⟨⟨rfl, _, _, rfl⟩, trivial⟩⟩⟩⟩ (by decide)) ⟨by omega, h⟩ ?_
  rintro m2 ⟨x1, x2, w1⟩ ⟨hm, h⟩
  replace h : m_spec_l1Copy_l1 m2 a0 x1 x2 = some o1 := h
  refine Good.le (σ' := ⟨49, [(1, .ptr 11 b1 0), (2, .ptr 12 b2 0), (3, .ptr 13 b3 0), (4, .int .i64 x2)], [(11, ((.pointer (some ⟨b1, 0, none⟩)), .optr 30 [.int .i64 a0.kind, .int .i64 a0.num, .str a0.text, .sl true (a0.list.map encVal), .sl false (a0.names.map encS)])), (12, ((.pointer (some ⟨b2, 0, none⟩)), .optr 30 [.int .i64 0, .int .i64 0, .str ([] : Bs), .nil, .nil])), (13, ((.pointer (some ⟨b3, 0, none⟩)), .optr 30 [.int .i64 a0.kind, .int .i64 a0.num, .str a0.text, .hd 5305 w1, .nil])), (5305, (w1, .osl 30 5 (x1.map encOVal)))]⟩) (Le.refl _) ?_
  obtain ⟨m2, rfl⟩ : ∃ m', m2 = m' + 1 := by cases m2 with | zero => (rw [m_spec_l1Copy_l1] at h; cases h) | succ m' => exact ⟨m', rfl⟩
  rw [m_spec_l1Copy_l1] at h
  refine good_seq fun K11 hK11 => ?_
  refine good_seq fun K12 hK12 => ?_
  refine good_region ?_
  refine g_op rfl (ValOk.op (v_move rfl rfl ?_)) 
  refine g_op rfl (ValOk.op (v_fieldP tabOk rfl tfoff30_3 rfl ?_)) 
  refine g_op rfl (ValOk.op (v_loadP tabOk rfl rfl tsize28 tagg28 rfl rfl rfl rfl ?_)) 
  refine g_op rfl (ValOk.op (v_lenM (l := a0.list) (f := encVal) tabOk rfl rfl telem28 rfl ?_)) 
  refine g_op rfl (ValOk.op (v_bin rfl rfl rfl rfl ?_)) 
  refine g_nil ?_
  refine hK12 _ ?_
  refine Good.le (σ' := ⟨49, [(1, _), (2, _), (3, _), (4, _), (17, _)], [(11, (_, _)), (12, (_, _)), (13, (_, _)), (5305, (_, _))]⟩) (le_w [some 11, some 12, some 13, some 5305] rfl ⟨⟨_, rfl, .refl _⟩, ⟨⟨_, rfl, .refl _⟩, ⟨⟨_, rfl, .refl _⟩, ⟨⟨_, rfl, .refl _⟩, ⟨⟨_, rfl, .refl _⟩, trivial⟩⟩⟩⟩⟩ ⟨⟨_, rfl, .refl _⟩, ⟨⟨_, rfl, .refl _⟩, ⟨⟨_, rfl, .refl _⟩, ⟨⟨_, rfl, .refl _⟩, trivial⟩⟩⟩⟩ (by decide)) ?_
  refine good_cond rfl (fun hc2 => ?_) (fun hc2 => ?_)
  · replace h := ifT h (dT hc2)
    refine good_skip ?_
    refine hK11 _ ?_
    refine Good.le (σ' := ⟨49, [(1, _), (2, _), (3, _), (4, _)], [(11, (_, _)), (12, (_, _)), (13, (_, _)), (5305, (_, _))]⟩) (le_w [some 11, some 12, some 13, some 5305] rfl ⟨⟨_, rfl, .refl _⟩, ⟨⟨_, rfl, .refl _⟩, ⟨⟨_, rfl, .refl _⟩, ⟨⟨_, rfl, .refl _⟩, trivial⟩⟩⟩⟩ ⟨⟨_, rfl, .refl _⟩, ⟨⟨_, rfl, .refl _⟩, ⟨⟨_, rfl, .refl _⟩, ⟨⟨_, rfl, .refl _⟩, trivial⟩⟩⟩⟩ (by decide)) ?_
    refine good_seq fun K13 hK13 => ?_
    refine good_block ?_
    obtain ⟨hb3, h⟩ := ifS h
    obtain ⟨y1, hy1, h⟩ := bnd h
    obtain ⟨hb4, h⟩ := ifS h
    refine good_anyM (by kernel_rfl) [⟨[], [3], [], [], [], []⟩, ⟨[0], [20], [13], [], [], []⟩, ⟨[], [1], [], [], [], []⟩, ⟨[2], [22], [11], [], [], []⟩, ⟨[], [4], [], [], [], []⟩, ⟨[2, 3, 4], [23, 24], [], [], [], []⟩, ⟨[2, 3, 4, 5], [25], [], [], [], []⟩, ⟨[2, 3, 4, 5, 6], [26], [], [], [3006, 3007], [3006, 3007]⟩, ⟨[2, 3, 4, 5, 6, 7], [27], [3006, 3007], [3006, 3007], [38], [38]⟩, ⟨[0, 1, 2, 3, 4, 5, 6, 7, 8], [21, 28], [5305, 38], [5305, 38], [39], [39]⟩, ⟨[0, 1, 2, 3, 4, 5, 6, 7, 8, 9], [3], [], [], [], []⟩, ⟨[0, 1, 2, 3, 4, 5, 6, 7, 8, 9, 10], [30, 29], [13], [13], [9008], []⟩] [some 20, some 21, some 22, some 23, some 24, some 25, some 26, some 27, some 28, some 29, some 30, none] 49 [(1, .ptr 11 b1 0), (2, .ptr 12 b2 0), (3, .ptr 13 b3 0), (4, .int .i64 x2)] [(11, ((.pointer (some ⟨b1, 0, none⟩)), .optr 30 [.int .i64 a0.kind, .int .i64 a0.num, .str a0.text, .sl true (a0.list.map encVal), .sl false (a0.names.map encS)])), (12, ((.pointer (some ⟨b2, 0, none⟩)), .optr 30 [.int .i64 0, .int .i64 0, .str ([] : Bs), .nil, .nil])), (13, ((.pointer (some ⟨b3, 0, none⟩)), .optr 30 [.int .i64 a0.kind, .int .i64 a0.num, .str a0.text, .hd 5305 w1, .nil])), (5305, (w1, .osl 30 5 (x1.map encOVal)))] (fun ν2 => [.ptr 13 b3 3, .hd 5305 w1, .ptr 11 b1 3, .sl true (a0.list.map encVal), .int .i64 x2, .eptr [.int .i64 ((ix a0.list x2).kind), .int .i64 ((ix a0.list x2).num), .str ((ix a0.list x2).text), .sl true (((ix a0.list x2).list).map encVal), .sl false (((ix a0.list x2).names).map encS)], .agg [.int .i64 ((ix a0.list x2).kind), .int .i64 ((ix a0.list x2).num), .str ((ix a0.list x2).text), .sl true (((ix a0.list x2).list).map encVal), .sl false (((ix a0.list x2).names).map encS)], .agg [.int .i64 y1.kind, .int .i64 y1.num, .str y1.text, .hd 3006 (ν2 3006), .hd 3007 (ν2 3007)], .hd 38 (ν2 38), .hd 39 (ν2 39), .ptr 13 b3 3, .und]) (fun ν2 => [(3006, ((ν2 3006), .osl 30 5 (y1.list.map encOVal))), (3007, ((ν2 3007), .osl 9 1 (y1.names.map encS))), (38, ((ν2 38), .osl 30 5 ([y1].map encOVal))), (39, ((ν2 39), .osl 30 5 ((x1 ++ [y1]).map encOVal))), (9008, ((.pointer (some ⟨b3, 0, none⟩)), .optr 30 [.int .i64 a0.kind, .int .i64 a0.num, .str a0.text, .hd 39 (ν2 39), .nil]))]) [(3006, [3006]), (3007, [3007]), (38, [38]), (39, [39]), (9008, [39]), (11, []), (12, []), (13, []), (5305, [])] [3006, 3007, 38, 39, 9008] [some 11, some 12, some 9008, some 39] (fun ν2 => [(1, .ptr 11 b1 0), (2, .ptr 12 b2 0), (3, .ptr 13 b3 0), (4, .int .i64 x2)]) (fun ν2 => [(11, ((.pointer (some ⟨b1, 0, none⟩)), .optr 30 [.int .i64 a0.kind, .int .i64 a0.num, .str a0.text, .sl true (a0.list.map encVal), .sl false (a0.names.map encS)])), (12, ((.pointer (some ⟨b2, 0, none⟩)), .optr 30 [.int .i64 0, .int .i64 0, .str ([] : Bs), .nil, .nil])), (13, ((.pointer (some ⟨b3, 0, none⟩)), .optr 30 [.int .i64 a0.kind, .int .i64 a0.num, .str a0.text, .hd 39 (ν2 39), .nil])), (39, ((ν2 39), .osl 30 5 ((x1 ++ [y1]).map encOVal)))]) (le_w [some 11, some 12, some 13, some 5305] rfl ⟨⟨_, rfl, .refl _⟩, ⟨⟨_, rfl, .refl _⟩, ⟨⟨_, rfl, .refl _⟩, ⟨⟨_, rfl, .refl _⟩, trivial⟩⟩⟩⟩ ⟨⟨_, rfl, .refl _⟩, ⟨⟨_, rfl, .refl _⟩, ⟨⟨_, rfl, .refl _⟩, ⟨⟨_, rfl, .refl _⟩, trivial⟩⟩⟩⟩ (by decide)) (by kernel_rfl) ⟨?_, ⟨?_, ⟨?_, ⟨?_, ⟨?_, ⟨?_, ⟨?_, ⟨?_, ⟨?_, ⟨?_, ⟨?_, ⟨?_, trivial⟩⟩⟩⟩⟩⟩⟩⟩⟩⟩⟩⟩ ⟨fun _ _ _ => rfl, ⟨fun _ _ _ => rfl, ⟨fun _ _ _ => rfl, ⟨fun _ _ _ => rfl, ⟨fun _ _ _ => rfl, ⟨fun _ _ _ => rfl, ⟨fun _ _ _ => rfl, ⟨fun _ _ h => (cong2 (fun zz0 zz1 => (some (.agg [.int .i64 y1.kind, .int .i64 y1.num, .str y1.text, .hd 3006 zz0, .hd 3007 zz1]) : Option AV)) (h 3006 (by decide)) (h 3007 (by decide))), ⟨fun _ _ h => (congrArg (fun zz0 => (some (.hd 38 zz0) : Option AV)) (h 38 (by decide))), ⟨fun _ _ h => (congrArg (fun zz0 => (some (.hd 39 zz0) : Option AV)) (h 39 (by decide))), ⟨fun _ _ _ => rfl, ⟨fun _ _ _ => rfl, trivial⟩⟩⟩⟩⟩⟩⟩⟩⟩⟩⟩⟩ ⟨fun _ _ h => (congrArg (fun zz0 => (some (zz0, .osl 30 5 (y1.list.map encOVal)) : Option (Value × AV))) (h 3006 (by decide))), ⟨fun _ _ h => (congrArg (fun zz0 => (some (zz0, .osl 9 1 (y1.names.map encS)) : Option (Value × AV))) (h 3007 (by decide))), ⟨fun _ _ h => (congrArg (fun zz0 => (some (zz0, .osl 30 5 ([y1].map encOVal)) : Option (Value × AV))) (h 38 (by decide))), ⟨fun _ _ h => (congrArg (fun zz0 => (some (zz0, .osl 30 5 ((x1 ++ [y1]).map encOVal)) : Option (Value × AV))) (h 39 (by decide))), ⟨fun _ _ h => (congrArg (fun zz0 => (some ((.pointer (some ⟨b3, 0, none⟩)), .optr 30 [.int .i64 a0.kind, .int .i64 a0.num, .str a0.text, .hd 39 zz0, .nil]) : Option (Value × AV))) (h 39 (by decide))), ⟨fun _ _ _ => rfl, ⟨fun _ _ _ => rfl, ⟨fun _ _ _ => rfl, ⟨fun _ _ _ => rfl, trivial⟩⟩⟩⟩⟩⟩⟩⟩⟩ (fun _ => rfl) (fun _ => rfl) (by kernel_rfl) (fun _ => ⟨⟨_, rfl, .refl _⟩, ⟨⟨_, rfl, .refl _⟩, ⟨⟨_, rfl, .refl _⟩, ⟨⟨_, rfl, .refl _⟩, trivial⟩⟩⟩⟩) (fun _ => ⟨⟨_, rfl, .refl _⟩, ⟨⟨_, rfl, .refl _⟩, ⟨⟨_, rfl, .refl _⟩, ⟨⟨_, rfl, .refl _⟩, trivial⟩⟩⟩⟩) (by kernel_rfl) (by decide) ?_
    · refine local_mk (fun ν2 => [(3, .ptr 13 b3 0)]) (fun ν2 => []) (fun _ => rfl) (fun _ => ⟨⟨_, rfl, .refl _, .refl _⟩, trivial⟩) (fun _ => rfl) (fun _ => trivial) ?_
      intro ν2 S H hS hfr
      refine st_op rfl (ValOk.op (v_fieldP tabOk rfl tfoff30_3 rfl ?_)) 
      exact lp_v hS rfl rfl (fun _ => rfl)
    · refine local_mk (fun ν2 => [(20, .ptr 13 b3 3)]) (fun ν2 => [(13, ((.pointer (some ⟨b3, 0, none⟩)), .optr 30 [.int .i64 a0.kind, .int .i64 a0.num, .str a0.text, .hd 5305 w1, .nil]))]) (fun _ => rfl) (fun _ => ⟨⟨_, rfl, .refl _, .refl _⟩, trivial⟩) (fun _ => rfl) (fun _ => ⟨rfl, trivial⟩) ?_
      intro ν2 S H hS hfr
      refine st_op rfl (ValOk.op (v_loadP tabOk rfl rfl tsize28 tagg28 rfl rfl rfl rfl ?_)) 
      exact lp_v hS rfl rfl (fun _ => rfl)
    · refine local_mk (fun ν2 => [(1, .ptr 11 b1 0)]) (fun ν2 => []) (fun _ => rfl) (fun _ => ⟨⟨_, rfl, .refl _, .refl _⟩, trivial⟩) (fun _ => rfl) (fun _ => trivial) ?_
      intro ν2 S H hS hfr
      refine st_op rfl (ValOk.op (v_fieldP tabOk rfl tfoff30_3 rfl ?_)) 
      exact lp_v hS rfl rfl (fun _ => rfl)
    · refine local_mk (fun ν2 => [(22, .ptr 11 b1 3)]) (fun ν2 => [(11, ((.pointer (some ⟨b1, 0, none⟩)), .optr 30 [.int .i64 a0.kind, .int .i64 a0.num, .str a0.text, .sl true (a0.list.map encVal), .sl false (a0.names.map encS)]))]) (fun _ => rfl) (fun _ => ⟨⟨_, rfl, .refl _, .refl _⟩, trivial⟩) (fun _ => rfl) (fun _ => ⟨rfl, trivial⟩) ?_
      intro ν2 S H hS hfr
      refine st_op rfl (ValOk.op (v_loadP tabOk rfl rfl tsize28 tagg28 rfl rfl rfl rfl ?_)) 
      exact lp_v hS rfl rfl (fun _ => rfl)
    · refine local_mk (fun ν2 => [(4, .int .i64 x2)]) (fun ν2 => []) (fun _ => rfl) (fun _ => ⟨⟨_, rfl, .refl _, .refl _⟩, trivial⟩) (fun _ => rfl) (fun _ => trivial) ?_
      intro ν2 S H hS hfr
      refine st_op rfl (ValOk.op (v_move rfl rfl ?_)) 
      exact lp_v hS rfl rfl (fun _ => rfl)
    · refine local_mk (fun ν2 => [(23, .sl true (a0.list.map encVal)), (24, .int .i64 x2)]) (fun ν2 => []) (fun _ => rfl) (fun _ => ⟨⟨_, rfl, .refl _, .refl _⟩, ⟨⟨_, rfl, .refl _, .refl _⟩, trivial⟩⟩) (fun _ => rfl) (fun _ => trivial) ?_
      intro ν2 S H hS hfr
      refine st_op rfl (ValOk.op (v_idxM tabOk rfl rfl telem28 tsize30 hb3 (encVal_eq _) rfl rfl ?_)) 
      exact lp_v hS rfl rfl (fun _ => rfl)
    · refine local_mk (fun ν2 => [(25, .eptr [.int .i64 ((ix a0.list x2).kind), .int .i64 ((ix a0.list x2).num), .str ((ix a0.list x2).text), .sl true (((ix a0.list x2).list).map encVal), .sl false (((ix a0.list x2).names).map encS)])]) (fun ν2 => []) (fun _ => rfl) (fun _ => ⟨⟨_, rfl, .refl _, .refl _⟩, trivial⟩) (fun _ => rfl) (fun _ => trivial) ?_
      intro ν2 S H hS hfr
      refine st_op rfl (ValOk.op (v_loadE tabOk rfl tsize30 tagg30 rfl rfl rfl ?_)) 
      exact lp_v hS rfl rfl (fun _ => rfl)
    · refine local_mk (fun ν2 => [(26, .agg [.int .i64 ((ix a0.list x2).kind), .int .i64 ((ix a0.list x2).num), .str ((ix a0.list x2).text), .sl true (((ix a0.list x2).list).map encVal), .sl false (((ix a0.list x2).names).map encS)])]) (fun ν2 => []) (fun _ => rfl) (fun _ => ⟨⟨_, rfl, .refl _, .refl _⟩, trivial⟩) (fun _ => rfl) (fun _ => trivial) ?_
      intro ν2 S H hS hfr
      refine st_op rfl (o_callDa [] [] [] (core_value rfl rfl) ((ih m2 (by omega)) (ix a0.list x2) _ hy1) trivial (.cons (.refl _) (.nil)) trivial rfl rfl rfl ?_)
      rintro _ _ ⟨w5, w6, rfl, rfl⟩
      refine ⟨.agg [.int .i64 y1.kind, .int .i64 y1.num, .str y1.text, .hd 3006 w5, .hd 3007 w6], [(3006, _), (3007, _)], .agg (.cons (.refl _) (.cons (.refl _) (.cons (.refl _) (.cons (.hd _ _ _) (.cons (.hd _ _ _) (.nil)))))), rfl, rfl, rfl, (fun x hx => has_minus (hfr x hx)), .inl rfl, ?_⟩
      exact lp_mm (hN := [(3006, _), (3007, _)]) hS rfl rfl (fun _ => rfl) ⟨rfl, ⟨rfl, trivial⟩⟩
    · refine local_mk (fun ν2 => [(27, .agg [.int .i64 y1.kind, .int .i64 y1.num, .str y1.text, .hd 3006 (ν2 3006), .hd 3007 (ν2 3007)])]) (fun ν2 => [(3006, ((ν2 3006), .osl 30 5 (y1.list.map encOVal))), (3007, ((ν2 3007), .osl 9 1 (y1.names.map encS)))]) (fun _ => rfl) (fun _ => ⟨⟨_, rfl, .refl _, .refl _⟩, trivial⟩) (fun _ => rfl) (fun _ => ⟨rfl, ⟨rfl, trivial⟩⟩) ?_
      intro ν2 S H hS hfr
      refine st_op rfl (OpOk.le (o_buildSlice (k := 38) (rows := [[.int .i64 y1.kind, .int .i64 y1.num, .str y1.text, .hd 3006 (ν2 3006), .hd 3007 (ν2 3007)]]) tabOk telem28 tsize30 rfl rfl rfl rfl (by decide) (by decide) (by rw [tzero30]; rfl) rfl rfl rfl (hfr _ (by decide)) rfl ?_))
      intro w
      refine ⟨_, (Le.trans (Le.trans (Le.trans (le_absorb1 (k := 38) (k2 := 3006) 0 3 _ rfl (by decide) rfl rfl rfl) (le_absorb1 (k := 38) (k2 := 3007) (rows' := [y1].map encOVal) 0 4 _ rfl (by decide) rfl rfl (cons_eq (encOVal_eq _) rfl))) (le_mm (rs := [3006, 3007]) rfl)) (le_mm0 (rs := [3006, 3007]) rfl)), ?_⟩
      exact lp_m (k := 38) hS rfl rfl (.inl rfl) (fun _ => rfl) rfl
    · refine local_mk (fun ν2 => [(21, .hd 5305 w1), (28, .hd 38 (ν2 38))]) (fun ν2 => [(5305, (w1, .osl 30 5 (x1.map encOVal))), (38, ((ν2 38), .osl 30 5 ([y1].map encOVal)))]) (fun _ => rfl) (fun _ => ⟨⟨_, rfl, .refl _, .refl _⟩, ⟨⟨_, rfl, .refl _, .refl _⟩, trivial⟩⟩) (fun _ => rfl) (fun _ => ⟨rfl, ⟨rfl, trivial⟩⟩) ?_
      intro ν2 S H hS hfr
      refine st_op rfl (o_appendHM (q := 5305) (r := 38) (k := 39) (f := encOVal) tabOk ⟨_, rfl⟩ rfl ⟨_, rfl⟩ rfl rfl telem28 tsize30 tbytes30 tzero30 rfl (by decide) (by decide) encOVal_ok rfl (has_minus (hfr _ (by decide))) rfl hb4 ?_)
      intro w
      exact lp_m (k := 39) hS rfl rfl (.inl rfl) (fun _ => rfl) rfl
    · refine local_mk (fun ν2 => [(3, .ptr 13 b3 0)]) (fun ν2 => []) (fun _ => rfl) (fun _ => ⟨⟨_, rfl, .refl _, .refl _⟩, trivial⟩) (fun _ => rfl) (fun _ => trivial) ?_
      intro ν2 S H hS hfr
      refine st_op rfl (ValOk.op (v_fieldP tabOk rfl tfoff30_3 rfl ?_)) 
      exact lp_v hS rfl rfl (fun _ => rfl)
    · refine local_mk (fun ν2 => [(30, .ptr 13 b3 3), (29, .hd 39 (ν2 39))]) (fun ν2 => [(13, ((.pointer (some ⟨b3, 0, none⟩)), .optr 30 [.int .i64 a0.kind, .int .i64 a0.num, .str a0.text, .hd 5305 w1, .nil]))]) (fun _ => rfl) (fun _ => ⟨⟨_, rfl, .refl _, .refl _⟩, ⟨⟨_, rfl, .refl _, .refl _⟩, trivial⟩⟩) (fun _ => rfl) (fun _ => ⟨rfl, trivial⟩) ?_
      intro ν2 S H hS hfr
      refine st_op rfl (o_storeP tabOk (cs' := [.int .i64 a0.kind, .int .i64 a0.num, .str a0.text, .hd 39 (ν2 39), .nil]) rfl rfl tsize28 rfl rfl rfl (Nat.le_of_ble_eq_true rfl) rfl rfl rfl ?_)
      exact lp_m (k := 9008) hS rfl rfl (.inr (by decide)) (fun _ => rfl) rfl
    intro ν2
    refine hK13 _ ?_
    refine good_region ?_
    refine g_op rfl (ValOk.op (v_move rfl rfl ?_)) 
    refine g_op rfl (ValOk.op (v_bin rfl rfl rfl rfl ?_)) 
    refine g_op rfl (ValOk.op (v_assign rfl rfl ?_)) 
    refine g_nil ?_
    exact round_mk m2 (x1 ++ [y1], IntKind.wrap .i64 (x2 + 1), (ν2 39)) (Nat.lt_succ_self _) ⟨by omega, h⟩ (le_w [some 11, some 12, some 13, some 39] rfl ⟨⟨_, rfl, .refl _⟩, ⟨⟨_, rfl, .refl _⟩, ⟨⟨_, rfl, .refl _⟩, ⟨⟨_, rfl, .refl _⟩, trivial⟩⟩⟩⟩ ⟨⟨_, rfl, .refl _⟩, ⟨⟨_, rfl, .refl _⟩, ⟨⟨_, rfl, .optr (.cons (.refl _) (.cons (.refl _) (.cons (.refl _) (.cons (.hd _ _ _) (.cons (.refl _) (.nil))))))⟩, ⟨⟨_, rfl, .refl _⟩, trivial⟩⟩⟩⟩ (by decide))
  · replace h := ifF h (dF hc2)
    refine good_exit ?_
    exact hw1 x1 w1 (Option.some.inj h).symm _ (le_w [some 11, some 12, some 13, some 5305] rfl ⟨⟨_, rfl, .refl _⟩, ⟨⟨_, rfl, .refl _⟩, ⟨⟨_, rfl, .refl _⟩, trivial⟩⟩⟩ ⟨⟨_, rfl, .refl _⟩, ⟨⟨_, rfl, .refl _⟩, ⟨⟨_, rfl, .optr (.cons (.refl _) (.cons (.refl _) (.cons (.refl _) (.cons (.hd _ _ _) (.cons (.refl _) (.nil))))))⟩, ⟨⟨_, rfl, .refl _⟩, trivial⟩⟩⟩⟩ (by decide))
theorem m_spec_l1Copy_all (k : Nat) : P_m_spec_l1Copy k := by
  induction k using Nat.strongRecOn with
  | _ k ih => exact m_spec_l1Copy_step k ih
theorem m_spec_l1Copy_ok (k : Nat) : ∀ (a0 : Val) (r : Val), m_spec_l1Copy k a0 = some r → Does Try.prog 54 [.agg [.int .i64 a0.kind, .int .i64 a0.num, .str a0.text, .sl true (a0.list.map encVal), .sl false (a0.names.map encS)]] [] (fun q h' => ∃ u0 : Value, ∃ u1 : Value, q = .agg [.int .i64 r.kind, .int .i64 r.num, .str r.text, .hd 100 u0, .hd 101 u1] ∧ h' = [(100, (u0, .osl 30 5 (r.list.map encOVal))), (101, (u1, .osl 9 1 (r.names.map encS)))]) := (m_spec_l1Copy_all k)
theorem m_spec_l1Copy_okF (k : Nat) : ∀ (a0 : Val) (r : Val), m_spec_l1Copy k a0 = some r → Does Try.prog 54 [.agg [.int .i64 a0.kind, .int .i64 a0.num, .str a0.text, .sl true (a0.list.map encVal), .sl false (a0.names.map encS)]] [] (ret (.agg [.int .i64 r.kind, .int .i64 r.num, .str r.text, .sl true (r.list.map encVal), .sl false (r.names.map encS)])) := by
  intro a0 r h
  refine does_frz (m_spec_l1Copy_ok k a0 r h) ?_
  rintro q h' ⟨u0, u1, rfl, rfl⟩
  exact ⟨[100, 101], [(_, _), (_, _)], ⟨⟨_, rfl, .osl (FrzLL.map fun _ _ => encOVal_frz _)⟩, ⟨⟨_, rfl, .osl (FrzLL.map fun _ _ => encS_frz _)⟩, trivial⟩⟩, .agg (.cons (.refl _) (.cons (.refl _) (.cons (.refl _) (.cons (.frz _ _ _ (.head _)) (.cons (.frz _ _ _ (.tail _ (.head _))) (.nil))))))⟩
def m_spec_TreeGet (k : Nat) (a0 : Val) (a1 : Bs) : Option (Val × Bool) :=
  (m_spec_ValueOk k a0).bind fun y1 =>
  if y1 = true then
    (m_spec_l1Tree k a0 a1).bind fun y2 =>
    (m_spec_l1Copy k y2.1).bind fun y3 =>
    some (y3, y2.2)
  else
    some ((Val.mk 0 0 ([] : Bs) ([] : List Val) ([] : List Bs)), false)
theorem m_spec_TreeGet_ok (k : Nat) : ∀ (a0 : Val) (a1 : Bs) (r : (Val × Bool)), m_spec_TreeGet k a0 a1 = some r → Does Try.prog 22 [.agg [.int .i64 a0.kind, .int .i64 a0.num, .str a0.text, .sl true (a0.list.map encVal), .sl false (a0.names.map encS)], .str a1] [] (fun q h' => ∃ u0 : Value, ∃ u1 : Value, q = .tup [.agg [.int .i64 r.1.kind, .int .i64 r.1.num, .str r.1.text, .hd 100 u0, .hd 101 u1], .bool r.2] ∧ h' = [(100, (u0, .osl 30 5 (r.1.list.map encOVal))), (101, (u1, .osl 9 1 (r.1.names.map encS)))]) := by
  intro a0 a1 r h
  rw [m_spec_TreeGet] at h
  refine does_of_good tabOk Try.func22 rfl (by decide +kernel) (Nat.le_of_ble_eq_true rfl) fun c => ?_
  refine Good.le (σ' := ⟨21, [(0, .agg [.int .i64 a0.kind, .int .i64 a0.num, .str a0.text, .sl true (a0.list.map encVal), .sl false (a0.names.map encS)]), (1, .str a1)], []⟩) (Le.refl _) ?_
  refine good_seq fun K1 hK1 => ?_
  refine good_region ?_
  refine g_op rfl (o_box (k := 12) tabOk rfl rfl rfl rfl rfl ?_)
  intro b1
  refine g_op rfl (o_alloc (k := 14) tabOk tzero30 rfl rfl ?_)
  intro b2
  refine g_op rfl (ValOk.op (v_assign rfl rfl ?_)) 
  refine g_nil ?_
  refine hK1 _ ?_
  refine Good.le (σ' := ⟨21, [(1, _), (2, _), (4, _), (5, _)], [(12, (_, _)), (14, (_, _))]⟩) (le_w [some 12, some 14] rfl ⟨⟨_, rfl, .refl _⟩, ⟨⟨_, rfl, .refl _⟩, ⟨⟨_, rfl, .refl _⟩, ⟨⟨_, rfl, .refl _⟩, trivial⟩⟩⟩⟩ ⟨⟨_, rfl, .refl _⟩, ⟨⟨_, rfl, .refl _⟩, trivial⟩⟩ (by decide)) ?_
  refine good_seq fun K2 hK2 => ?_
  refine good_seq fun K3 hK3 => ?_
  refine good_region ?_
  refine g_op rfl (ValOk.op (v_loadP tabOk rfl rfl tsize30 tagg30 rfl rfl rfl rfl ?_)) 
  obtain ⟨y1, hy1, h⟩ := bnd h
  refine g_op rfl (o_callR [] [] (core_value rfl rfl) (m_spec_ValueOk_ok k a0 _ hy1) trivial (.cons (.refl _) (.nil)) (.inl rfl) rfl ?_)
  refine g_op rfl (ValOk.op (v_not rfl rfl ?_)) 
  refine g_nil ?_
  refine hK3 _ ?_
  refine Good.le (σ' := ⟨21, [(1, _), (2, _), (4, _), (5, _), (10, _)], [(12, (_, _)), (14, (_, _))]⟩) (le_w [some 12, some 14] rfl ⟨⟨_, rfl, .refl _⟩, ⟨⟨_, rfl, .refl _⟩, ⟨⟨_, rfl, .refl _⟩, ⟨⟨_, rfl, .refl _⟩, ⟨⟨_, rfl, .refl _⟩, trivial⟩⟩⟩⟩⟩ ⟨⟨_, rfl, .refl _⟩, ⟨⟨_, rfl, .refl _⟩, trivial⟩⟩ (by decide)) ?_
  refine good_cond rfl (fun hc1 => ?_) (fun hc1 => ?_)
  · replace h := bF h (nT hc1)
    refine good_seq fun K4 hK4 => ?_
    refine good_region ?_
    refine g_op rfl (ValOk.op (v_build tabOk (cs := [.int .i64 0, .int .i64 0, .str ([] : Bs), .nil, .nil]) tzero30 tsok30 rfl rfl rfl ?_)) 
    refine g_op rfl (o_storeP tabOk (cs' := [.int .i64 0, .int .i64 0, .str ([] : Bs), .nil, .nil]) rfl rfl tsize30 rfl rfl rfl (Nat.le_of_ble_eq_true rfl) rfl rfl rfl ?_)
    refine g_op rfl (ValOk.op (v_assign rfl rfl ?_)) 
    refine g_nil ?_
    refine hK4 _ ?_
    refine Good.le (σ' := ⟨21, [(1, _), (2, _), (4, _), (5, _)], [(12, (_, _)), (14, (_, _))]⟩) (le_w [some 12, some 14] rfl ⟨⟨_, rfl, .refl _⟩, ⟨⟨_, rfl, .refl _⟩, ⟨⟨_, rfl, .refl _⟩, ⟨⟨_, rfl, .refl _⟩, trivial⟩⟩⟩⟩ ⟨⟨_, rfl, .refl _⟩, ⟨⟨_, rfl, .refl _⟩, trivial⟩⟩ (by decide)) ?_
    refine Good.le (σ' := ⟨21, [(4, .ptr 14 b2 0), (5, .bool false)], [(100, (nilV, .osl 30 5 (([] : List Val).map encOVal))), (101, (nilV, .osl 9 1 (([] : List Bs).map encS))), (14, ((.pointer (some ⟨b2, 0, none⟩)), .optr 30 [.int .i64 0, .int .i64 0, .str ([] : Bs), .hd 100 nilV, .hd 101 nilV]))]⟩) (le_w [none, none, some 14] rfl ⟨⟨_, rfl, .refl _⟩, ⟨⟨_, rfl, .refl _⟩, trivial⟩⟩ ⟨⟨rfl, _, _, rfl⟩, ⟨⟨rfl, _, _, rfl⟩, ⟨⟨_, rfl, .optr (.cons (.refl _) (.cons (.refl _) (.cons (.refl _) (.cons (.nilhd _) (.cons (.nilhd _) (.nil))))))⟩, trivial⟩⟩⟩ (by decide)) ?_
    refine good_ret ?_
    obtain rfl := Option.some.inj h
    refine thenQ_ret ?_
    exact endQ_ret (h' := [(100, (_, _)), (101, (_, _))]) [some 100, some 101] (.cell rfl rfl tsize30 tagg30 rfl rfl rfl (.tmp rfl (.nil))) ⟨⟨_, rfl, .refl _⟩, ⟨⟨_, rfl, .refl _⟩, trivial⟩⟩ (by decide) ⟨nilV, nilV, rfl, rfl⟩
  · replace h := ifT h (nF hc1)
    refine good_skip ?_
    refine hK2 _ ?_
    refine Good.le (σ' := ⟨21, [(1, _), (2, _), (4, _), (5, _)], [(12, (_, _)), (14, (_, _))]⟩) (le_w [some 12, some 14] rfl ⟨⟨_, rfl, .refl _⟩, ⟨⟨_, rfl, .refl _⟩, ⟨⟨_, rfl, .refl _⟩, ⟨⟨_, rfl, .refl _⟩, trivial⟩⟩⟩⟩ ⟨⟨_, rfl, .refl _⟩, ⟨⟨_, rfl, .refl _⟩, trivial⟩⟩ (by decide)) ?_
    refine good_seq fun K5 hK5 => ?_
    refine good_region ?_
    refine g_op rfl (ValOk.op (v_loadP tabOk rfl rfl tsize30 tagg30 rfl rfl rfl rfl ?_)) 
    refine g_op rfl (ValOk.op (v_move rfl rfl ?_)) 
    obtain ⟨y2, hy2, h⟩ := bnd h
    refine g_op rfl (o_callR [] [] (core_value rfl rfl) (m_spec_l1Tree_ok k a0 a1 _ hy2) trivial (.cons (.refl _) (.cons (.refl _) (.nil))) (.inl rfl) rfl ?_)
    refine g_op rfl (ValOk.op (v_move rfl rfl ?_)) 
    refine g_op rfl (ValOk.op (v_extract rfl rfl rfl ?_)) 
    refine g_op rfl (ValOk.op (v_extract rfl rfl rfl ?_)) 
    refine g_op rfl (o_alloc (k := 16) tabOk tzero30 rfl rfl ?_)
    intro b3
    refine g_op rfl (o_storeP tabOk (cs' := [.int .i64 y2.1.kind, .int .i64 y2.1.num, .str y2.1.text, .sl true (y2.1.list.map encVal), .sl false (y2.1.names.map encS)]) rfl rfl tsize30 rfl rfl rfl (Nat.le_of_ble_eq_true rfl) rfl rfl rfl ?_)
    refine g_op rfl (ValOk.op (v_assign rfl rfl ?_)) 
    refine g_nil ?_
    refine hK5 _ ?_
    refine Good.le (σ' := ⟨21, [(4, _), (5, _), (6, _), (7, _)], [(14, (_, _)), (16, (_, _))]⟩) (le_w [some 14, some 16] rfl ⟨⟨_, rfl, .refl _⟩, ⟨⟨_, rfl, .refl _⟩, ⟨⟨_, rfl, .refl _⟩, ⟨⟨_, rfl, .refl _⟩, trivial⟩⟩⟩⟩ ⟨⟨_, rfl, .refl _⟩, ⟨⟨_, rfl, .refl _⟩, trivial⟩⟩ (by decide)) ?_
    refine good_seq fun K6 hK6 => ?_
    refine good_region ?_
    refine g_op rfl (ValOk.op (v_loadP tabOk rfl rfl tsize30 tagg30 rfl rfl rfl rfl ?_)) 
    obtain ⟨y3, hy3, h⟩ := bnd h
    refine g_op rfl (o_callD [] [] [] (core_value rfl rfl) (m_spec_l1Copy_ok k y2.1 _ hy3) trivial (.cons (.refl _) (.nil)) trivial rfl rfl rfl ?_)
    rintro _ _ ⟨w1, w2, rfl, rfl⟩
    refine ⟨.agg [.int .i64 y3.kind, .int .i64 y3.num, .str y3.text, .hd 3001 w1, .hd 3002 w2], [(3001, _), (3002, _)], .agg (.cons (.refl _) (.cons (.refl _) (.cons (.refl _) (.cons (.hd _ _ _) (.cons (.hd _ _ _) (.nil)))))), rfl, rfl, rfl, rfl, .inl rfl, ?_⟩
    refine g_op rfl (ValOk.op (v_move rfl rfl ?_)) 
    refine g_op rfl (o_storeP tabOk (cs' := [.int .i64 y3.kind, .int .i64 y3.num, .str y3.text, .hd 3001 w1, .hd 3002 w2]) rfl rfl tsize30 rfl rfl rfl (Nat.le_of_ble_eq_true rfl) rfl rfl rfl ?_)
    refine g_op rfl (ValOk.op (v_assign rfl rfl ?_)) 
    refine g_nil ?_
    refine hK6 _ ?_
    refine Good.le (σ' := ⟨21, [(4, _), (5, _)], [(14, (_, _)), (3001, (_, _)), (3002, (_, _))]⟩) (le_w [some 14, some 3001, some 3002] rfl ⟨⟨_, rfl, .refl _⟩, ⟨⟨_, rfl, .refl _⟩, trivial⟩⟩ ⟨⟨_, rfl, .refl _⟩, ⟨⟨_, rfl, .refl _⟩, ⟨⟨_, rfl, .refl _⟩, trivial⟩⟩⟩ (by decide)) ?_
    refine Good.le (σ' := ⟨21, [(4, .ptr 14 b2 0), (5, .bool y2.2)], [(100, (w1, .osl 30 5 (y3.list.map encOVal))), (101, (w2, .osl 9 1 (y3.names.map encS))), (14, ((.pointer (some ⟨b2, 0, none⟩)), .optr 30 [.int .i64 y3.kind, .int .i64 y3.num, .str y3.text, .hd 100 w1, .hd 101 w2]))]⟩) (le_w [some 3001, some 3002, some 14] rfl ⟨⟨_, rfl, .refl _⟩, ⟨⟨_, rfl, .refl _⟩, trivial⟩⟩ ⟨⟨_, rfl, .refl _⟩, ⟨⟨_, rfl, .refl _⟩, ⟨⟨_, rfl, .optr (.cons (.refl _) (.cons (.refl _) (.cons (.refl _) (.cons (.hd _ _ _) (.cons (.hd _ _ _) (.nil))))))⟩, trivial⟩⟩⟩ (by decide)) ?_
    refine good_ret ?_
    obtain rfl := Option.some.inj h
    exact endQ_ret (h' := [(100, (_, _)), (101, (_, _))]) [some 100, some 101] (.cell rfl rfl tsize30 tagg30 rfl rfl rfl (.tmp rfl (.nil))) ⟨⟨_, rfl, .refl _⟩, ⟨⟨_, rfl, .refl _⟩, trivial⟩⟩ (by decide) ⟨w1, w2, rfl, rfl⟩
theorem m_spec_TreeGet_okF (k : Nat) : ∀ (a0 : Val) (a1 : Bs) (r : (Val × Bool)), m_spec_TreeGet k a0 a1 = some r → Does Try.prog 22 [.agg [.int .i64 a0.kind, .int .i64 a0.num, .str a0.text, .sl true (a0.list.map encVal), .sl false (a0.names.map encS)], .str a1] [] (ret (.tup [.agg [.int .i64 r.1.kind, .int .i64 r.1.num, .str r.1.text, .sl true (r.1.list.map encVal), .sl false (r.1.names.map encS)], .bool r.2])) := by
  intro a0 a1 r h
  refine does_frz (m_spec_TreeGet_ok k a0 a1 r h) ?_
  rintro q h' ⟨u0, u1, rfl, rfl⟩
  exact ⟨[100, 101], [(_, _), (_, _)], ⟨⟨_, rfl, .osl (FrzLL.map fun _ _ => encOVal_frz _)⟩, ⟨⟨_, rfl, .osl (FrzLL.map fun _ _ => encS_frz _)⟩, trivial⟩⟩, .tup (.cons (.agg (.cons (.refl _) (.cons (.refl _) (.cons (.refl _) (.cons (.frz _ _ _ (.head _)) (.cons (.frz _ _ _ (.tail _ (.head _))) (.nil))))))) (.cons (.refl _) (.nil)))⟩
def m_impl_copyValue (k : Nat) (a0 : Val) : Option Val :=
  (m_impl_copyWithin k a0 ([] : List (List Val))).bind fun y1 =>
  some y1
theorem m_impl_copyValue_ok (k : Nat) : ∀ (a0 : Val) (r : Val), m_impl_copyValue k a0 = some r → Does Try.prog 56 [.agg [.int .i64 a0.kind, .int .i64 a0.num, .str a0.text, .sl true (a0.list.map encVal), .sl false (a0.names.map encS)]] [] (fun q h' => ∃ u0 : Value, ∃ u1 : Value, q = .agg [.int .i64 r.kind, .int .i64 r.num, .str r.text, .hd 100 u0, .hd 101 u1] ∧ h' = [(100, (u0, .osl 30 5 (r.list.map encOVal))), (101, (u1, .osl 9 1 (r.names.map encS)))]) := by
  intro a0 r h
  rw [m_impl_copyValue] at h
  refine does_of_good tabOk Try.func56 rfl (by decide +kernel) (Nat.le_of_ble_eq_true rfl) fun c => ?_
  refine Good.le (σ' := ⟨5, [(0, .agg [.int .i64 a0.kind, .int .i64 a0.num, .str a0.text, .sl true (a0.list.map encVal), .sl false (a0.names.map encS)])], []⟩) (Le.refl _) ?_
  refine good_seq fun K1 hK1 => ?_
  refine good_region ?_
  refine g_op rfl (o_box (k := 11) tabOk rfl rfl rfl rfl rfl ?_)
  intro b1
  refine g_op rfl (o_alloc (k := 12) tabOk tzero30 rfl rfl ?_)
  intro b2
  refine g_nil ?_
  refine hK1 _ ?_
  refine Good.le (σ' := ⟨5, [(1, _), (2, _)], [(11, (_, _)), (12, (_, _))]⟩) (le_w [some 11, some 12] rfl ⟨⟨_, rfl, .refl _⟩, ⟨⟨_, rfl, .refl _⟩, trivial⟩⟩ ⟨⟨_, rfl, .refl _⟩, ⟨⟨_, rfl, .refl _⟩, trivial⟩⟩ (by decide)) ?_
  refine good_seq fun K2 hK2 => ?_
  refine good_region ?_
  refine g_op rfl (ValOk.op (v_loadP tabOk rfl rfl tsize30 tagg30 rfl rfl rfl rfl ?_)) 
  obtain ⟨y1, hy1, h⟩ := bnd h
  refine g_op rfl (o_callD [] [] [] (core_value rfl rfl) (m_impl_copyWithin_ok k a0 ([] : List (List Val)) _ hy1) trivial (.cons (.refl _) (.cons (.refl _) (.nil))) trivial rfl rfl rfl ?_)
  rintro _ _ ⟨w1, w2, rfl, rfl⟩
  refine ⟨.agg [.int .i64 y1.kind, .int .i64 y1.num, .str y1.text, .hd 3001 w1, .hd 3002 w2], [(3001, _), (3002, _)], .agg (.cons (.refl _) (.cons (.refl _) (.cons (.refl _) (.cons (.hd _ _ _) (.cons (.hd _ _ _) (.nil)))))), rfl, rfl, rfl, rfl, .inl rfl, ?_⟩
  refine g_op rfl (o_storeP tabOk (cs' := [.int .i64 y1.kind, .int .i64 y1.num, .str y1.text, .hd 3001 w1, .hd 3002 w2]) rfl rfl tsize30 rfl rfl rfl (Nat.le_of_ble_eq_true rfl) rfl rfl rfl ?_)
  refine g_nil ?_
  refine hK2 _ ?_
  refine Good.le (σ' := ⟨5, [(2, _)], [(12, (_, _)), (3001, (_, _)), (3002, (_, _))]⟩) (le_w [some 12, some 3001, some 3002] rfl ⟨⟨_, rfl, .refl _⟩, trivial⟩ ⟨⟨_, rfl, .refl _⟩, ⟨⟨_, rfl, .refl _⟩, ⟨⟨_, rfl, .refl _⟩, trivial⟩⟩⟩ (by decide)) ?_
  refine Good.le (σ' := ⟨5, [(2, .ptr 12 b2 0)], [(100, (w1, .osl 30 5 (y1.list.map encOVal))), (101, (w2, .osl 9 1 (y1.names.map encS))), (12, ((.pointer (some ⟨b2, 0, none⟩)), .optr 30 [.int .i64 y1.kind, .int .i64 y1.num, .str y1.text, .hd 100 w1, .hd 101 w2]))]⟩) (le_w [some 3001, some 3002, some 12] rfl ⟨⟨_, rfl, .refl _⟩, trivial⟩ ⟨⟨_, rfl, .refl _⟩, ⟨⟨_, rfl, .refl _⟩, ⟨⟨_, rfl, .optr (.cons (.refl _) (.cons (.refl _) (.cons (.refl _) (.cons (.hd _ _ _) (.cons (.hd _ _ _) (.nil))))))⟩, trivial⟩⟩⟩ (by decide)) ?_
  refine good_ret ?_
  obtain rfl := Option.some.inj h
  exact endQ_ret (h' := [(100, (_, _)), (101, (_, _))]) [some 100, some 101] (.cell rfl rfl tsize30 tagg30 rfl rfl rfl (.nil)) ⟨⟨_, rfl, .refl _⟩, ⟨⟨_, rfl, .refl _⟩, trivial⟩⟩ (by decide) ⟨w1, w2, rfl, rfl⟩
theorem m_impl_copyValue_okF (k : Nat) : ∀ (a0 : Val) (r : Val), m_impl_copyValue k a0 = some r → Does Try.prog 56 [.agg [.int .i64 a0.kind, .int .i64 a0.num, .str a0.text, .sl true (a0.list.map encVal), .sl false (a0.names.map encS)]] [] (ret (.agg [.int .i64 r.kind, .int .i64 r.num, .str r.text, .sl true (r.list.map encVal), .sl false (r.names.map encS)])) := by
  intro a0 r h
  refine does_frz (m_impl_copyValue_ok k a0 r h) ?_
  rintro q h' ⟨u0, u1, rfl, rfl⟩
  exact ⟨[100, 101], [(_, _), (_, _)], ⟨⟨_, rfl, .osl (FrzLL.map fun _ _ => encOVal_frz _)⟩, ⟨⟨_, rfl, .osl (FrzLL.map fun _ _ => encS_frz _)⟩, trivial⟩⟩, .agg (.cons (.refl _) (.cons (.refl _) (.cons (.refl _) (.cons (.frz _ _ _ (.head _)) (.cons (.frz _ _ _ (.tail _ (.head _))) (.nil))))))⟩
def m_impl_placeOf (k : Nat) (a0 : (List Bs)) (a1 : Bs) : Option Int :=
  (m_slices_Index_string_string k a0 a1).bind fun y1 =>
  some y1
theorem m_impl_placeOf_ok (k : Nat) : ∀ (a0 : (List Bs)) (a1 : Bs) (r : Int), m_impl_placeOf k a0 a1 = some r → Does Try.prog 55 [.sl false (a0.map encS), .str a1] [] (ret (.int .i64 r)) := by
  intro a0 a1 r h
  rw [m_impl_placeOf] at h
  refine does_of_good tabOk Try.func55 rfl (by decide +kernel) (Nat.le_of_ble_eq_true rfl) fun c => ?_
  refine Good.le (σ' := ⟨8, [(0, .sl false (a0.map encS)), (1, .str a1)], []⟩) (Le.refl _) ?_
  refine good_seq fun K1 hK1 => ?_
  refine good_region ?_
  refine g_op rfl (ValOk.op (v_assign rfl rfl ?_)) 
  refine g_nil ?_
  refine hK1 _ ?_
  refine good_seq fun K2 hK2 => ?_
  refine good_region ?_
  refine g_op rfl (ValOk.op (v_move rfl rfl ?_)) 
  refine g_op rfl (ValOk.op (v_move rfl rfl ?_)) 
  obtain ⟨y1, hy1, h⟩ := bnd h
  refine g_op rfl (o_callR [] [] (core_value rfl rfl) (m_slices_Index_string_string_ok k a0 a1 _ hy1) trivial (.cons (.refl _) (.cons (.refl _) (.nil))) (.inl rfl) rfl ?_)
  refine g_op rfl (ValOk.op (v_assign rfl rfl ?_)) 
  refine g_nil ?_
  refine hK2 _ ?_
  refine Good.le (σ' := ⟨8, [(4, _)], []⟩) (le_w [] rfl ⟨⟨_, rfl, .refl _⟩, trivial⟩ trivial (by decide)) ?_
  refine Good.le (σ' := ⟨8, [(4, .int .i64 y1)], []⟩) (le_w [] rfl ⟨⟨_, rfl, .refl _⟩, trivial⟩ trivial (by decide)) ?_
  refine good_ret ?_
  obtain rfl := Option.some.inj h
  exact endQ_ret (h' := []) [] (.tmp rfl (.nil)) trivial (by decide) ⟨rfl, rfl⟩
def m_impl_TreeGet (k : Nat) (a0 : Val) (a1 : Bs) : Option (Val × Bool) :=
  ((m_impl_ValueOk k a0).bind fun y3 =>
    if y3 = true then
      some (Lp.go (!(decide (a0.kind = 5))))
    else
      some (Lp.go true)).bind fun o1 =>
  o1.then fun s1 =>
    if s1 = true then
      some ((Val.mk 0 0 ([] : Bs) ([] : List Val) ([] : List Bs)), false)
    else
      (m_impl_placeOf k a0.names a1).bind fun y1 =>
      if y1 < 0 then
        some ((Val.mk 0 0 ([] : Bs) ([] : List Val) ([] : List Bs)), false)
      else
        if (0 : Int) ≤ y1 ∧ y1 < (a0.list.length : Int) then
          (m_impl_copyValue k (ix a0.list y1)).bind fun y2 =>
          some (y2, true)
        else none
theorem m_impl_TreeGet_ok (k : Nat) : ∀ (a0 : Val) (a1 : Bs) (r : (Val × Bool)), m_impl_TreeGet k a0 a1 = some r → Does Try.prog 23 [.agg [.int .i64 a0.kind, .int .i64 a0.num, .str a0.text, .sl true (a0.list.map encVal), .sl false (a0.names.map encS)], .str a1] [] (fun q h' => ∃ u0 : Value, ∃ u1 : Value, q = .tup [.agg [.int .i64 r.1.kind, .int .i64 r.1.num, .str r.1.text, .hd 100 u0, .hd 101 u1], .bool r.2] ∧ h' = [(100, (u0, .osl 30 5 (r.1.list.map encOVal))), (101, (u1, .osl 9 1 (r.1.names.map encS)))]) := by
  intro a0 a1 r h
  rw [m_impl_TreeGet] at h
  refine does_of_good tabOk Try.func23 rfl (by decide +kernel) (Nat.le_of_ble_eq_true rfl) fun c => ?_
  refine Good.le (σ' := ⟨29, [(0, .agg [.int .i64 a0.kind, .int .i64 a0.num, .str a0.text, .sl true (a0.list.map encVal), .sl false (a0.names.map encS)]), (1, .str a1)], []⟩) (Le.refl _) ?_
  refine good_seq fun K1 hK1 => ?_
  refine good_region ?_
  refine g_op rfl (o_box (k := 12) tabOk rfl rfl rfl rfl rfl ?_)
  intro b1
  refine g_op rfl (o_alloc (k := 14) tabOk tzero30 rfl rfl ?_)
  intro b2
  refine g_op rfl (ValOk.op (v_assign rfl rfl ?_)) 
  refine g_nil ?_
  refine hK1 _ ?_
  refine Good.le (σ' := ⟨29, [(1, _), (2, _), (4, _), (5, _)], [(12, (_, _)), (14, (_, _))]⟩) (le_w [some 12, some 14] rfl ⟨⟨_, rfl, .refl _⟩, ⟨⟨_, rfl, .refl _⟩, ⟨⟨_, rfl, .refl _⟩, ⟨⟨_, rfl, .refl _⟩, trivial⟩⟩⟩⟩ ⟨⟨_, rfl, .refl _⟩, ⟨⟨_, rfl, .refl _⟩, trivial⟩⟩ (by decide)) ?_
  refine good_seq fun K2 hK2 => ?_
  refine good_seq fun K3 hK3 => ?_
  obtain ⟨o1, ho1, hJ1⟩ := bnd h
  have hw1 : ∀ (s1 : Bool), o1 = Lp.go s1 → ∀ σ', Le σ' ⟨29, [(1, .str a1), (2, .ptr 12 b1 0), (4, .ptr 14 b2 0), (5, .bool false), (14, .bool s1)], [(12, ((.pointer (some ⟨b1, 0, none⟩)), .optr 30 [.int .i64 a0.kind, .int .i64 a0.num, .str a0.text, .sl true (a0.list.map encVal), .sl false (a0.names.map encS)])), (14, ((.pointer (some ⟨b2, 0, none⟩)), .optr 30 [.int .i64 0, .int .i64 0, .str ([] : Bs), .nil, .nil]))]⟩ → K3 σ' := by
    intro s1 e1 σ' hle1
    subst e1
    refine hK3 _ (Good.le hle1 ?_)
    replace h := hJ1
    refine good_cond rfl (fun hc1 => ?_) (fun hc1 => ?_)
    · replace h := ifT h hc1
      refine good_seq fun K4 hK4 => ?_
      refine good_region ?_
      refine g_op rfl (ValOk.op (v_build tabOk (cs := [.int .i64 0, .int .i64 0, .str ([] : Bs), .nil, .nil]) tzero30 tsok30 rfl rfl rfl ?_)) 
      refine g_op rfl (o_storeP tabOk (cs' := [.int .i64 0, .int .i64 0, .str ([] : Bs), .nil, .nil]) rfl rfl tsize30 rfl rfl rfl (Nat.le_of_ble_eq_true rfl) rfl rfl rfl ?_)
      refine g_op rfl (ValOk.op (v_assign rfl rfl ?_)) 
      refine g_nil ?_
      refine hK4 _ ?_
      refine Good.le (σ' := ⟨29, [(1, _), (2, _), (4, _), (5, _)], [(12, (_, _)), (14, (_, _))]⟩) (le_w [some 12, some 14] rfl ⟨⟨_, rfl, .refl _⟩, ⟨⟨_, rfl, .refl _⟩, ⟨⟨_, rfl, .refl _⟩, ⟨⟨_, rfl, .refl _⟩, trivial⟩⟩⟩⟩ ⟨⟨_, rfl, .refl _⟩, ⟨⟨_, rfl, .refl _⟩, trivial⟩⟩ (by decide)) ?_
      refine Good.le (σ' := ⟨29, [(4, .ptr 14 b2 0), (5, .bool false)], [(100, (nilV, .osl 30 5 (([] : List Val).map encOVal))), (101, (nilV, .osl 9 1 (([] : List Bs).map encS))), (14, ((.pointer (some ⟨b2, 0, none⟩)), .optr 30 [.int .i64 0, .int .i64 0, .str ([] : Bs), .hd 100 nilV, .hd 101 nilV]))]⟩) (le_w [none, none, some 14] rfl ⟨⟨_, rfl, .refl _⟩, ⟨⟨_, rfl, .refl _⟩, trivial⟩⟩ ⟨⟨rfl, _, _, rfl⟩, ⟨⟨rfl, _, _, rfl⟩, ⟨⟨_, rfl, .optr (.cons (.refl _) (.cons (.refl _) (.cons (.refl _) (.cons (.nilhd _) (.cons (.nilhd _) (.nil))))))⟩, trivial⟩⟩⟩ (by decide)) ?_
      refine good_ret ?_
      obtain rfl := Option.some.inj h
      refine thenQ_ret ?_
      exact endQ_ret (h' := [(100, (_, _)), (101, (_, _))]) [some 100, some 101] (.cell rfl rfl tsize30 tagg30 rfl rfl rfl (.tmp rfl (.nil))) ⟨⟨_, rfl, .refl _⟩, ⟨⟨_, rfl, .refl _⟩, trivial⟩⟩ (by decide) ⟨nilV, nilV, rfl, rfl⟩
    · replace h := bF h hc1
      refine good_skip ?_
      refine hK2 _ ?_
      refine Good.le (σ' := ⟨29, [(1, _), (2, _), (4, _), (5, _)], [(12, (_, _)), (14, (_, _))]⟩) (le_w [some 12, some 14] rfl ⟨⟨_, rfl, .refl _⟩, ⟨⟨_, rfl, .refl _⟩, ⟨⟨_, rfl, .refl _⟩, ⟨⟨_, rfl, .refl _⟩, trivial⟩⟩⟩⟩ ⟨⟨_, rfl, .refl _⟩, ⟨⟨_, rfl, .refl _⟩, trivial⟩⟩ (by decide)) ?_
      refine good_seq fun K5 hK5 => ?_
      refine good_region ?_
      refine g_op rfl (ValOk.op (v_fieldP tabOk rfl tfoff30_4 rfl ?_)) 
      refine g_op rfl (ValOk.op (v_loadP tabOk rfl rfl tsize23 tagg23 rfl rfl rfl rfl ?_)) 
      refine g_op rfl (ValOk.op (v_move rfl rfl ?_)) 
      obtain ⟨y1, hy1, h⟩ := bnd h
      refine g_op rfl (o_callR [] [] (core_value rfl rfl) (m_impl_placeOf_ok k a0.names a1 _ hy1) trivial (.cons (.refl _) (.cons (.refl _) (.nil))) (.inl rfl) rfl ?_)
      refine g_op rfl (ValOk.op (v_assign rfl rfl ?_)) 
      refine g_nil ?_
      refine hK5 _ ?_
      refine Good.le (σ' := ⟨29, [(2, _), (4, _), (5, _), (6, _)], [(12, (_, _)), (14, (_, _))]⟩) (le_w [some 12, some 14] rfl ⟨⟨_, rfl, .refl _⟩, ⟨⟨_, rfl, .refl _⟩, ⟨⟨_, rfl, .refl _⟩, ⟨⟨_, rfl, .refl _⟩, trivial⟩⟩⟩⟩ ⟨⟨_, rfl, .refl _⟩, ⟨⟨_, rfl, .refl _⟩, trivial⟩⟩ (by decide)) ?_
      refine good_seq fun K6 hK6 => ?_
      refine good_seq fun K7 hK7 => ?_
      refine good_region ?_
      refine g_op rfl (ValOk.op (v_move rfl rfl ?_)) 
      refine g_op rfl (ValOk.op (v_bin rfl rfl rfl rfl ?_)) 
      refine g_nil ?_
      refine hK7 _ ?_
      refine Good.le (σ' := ⟨29, [(2, _), (4, _), (5, _), (6, _), (21, _)], [(12, (_, _)), (14, (_, _))]⟩) (le_w [some 12, some 14] rfl ⟨⟨_, rfl, .refl _⟩, ⟨⟨_, rfl, .refl _⟩, ⟨⟨_, rfl, .refl _⟩, ⟨⟨_, rfl, .refl _⟩, ⟨⟨_, rfl, .refl _⟩, trivial⟩⟩⟩⟩⟩ ⟨⟨_, rfl, .refl _⟩, ⟨⟨_, rfl, .refl _⟩, trivial⟩⟩ (by decide)) ?_
      refine good_cond rfl (fun hc2 => ?_) (fun hc2 => ?_)
      · replace h := ifT h (dT hc2)
        refine good_seq fun K8 hK8 => ?_
        refine good_region ?_
        refine g_op rfl (ValOk.op (v_build tabOk (cs := [.int .i64 0, .int .i64 0, .str ([] : Bs), .nil, .nil]) tzero30 tsok30 rfl rfl rfl ?_)) 
        refine g_op rfl (o_storeP tabOk (cs' := [.int .i64 0, .int .i64 0, .str ([] : Bs), .nil, .nil]) rfl rfl tsize30 rfl rfl rfl (Nat.le_of_ble_eq_true rfl) rfl rfl rfl ?_)
        refine g_op rfl (ValOk.op (v_assign rfl rfl ?_)) 
        refine g_nil ?_
        refine hK8 _ ?_
        refine Good.le (σ' := ⟨29, [(2, _), (4, _), (5, _), (6, _)], [(12, (_, _)), (14, (_, _))]⟩) (le_w [some 12, some 14] rfl ⟨⟨_, rfl, .refl _⟩, ⟨⟨_, rfl, .refl _⟩, ⟨⟨_, rfl, .refl _⟩, ⟨⟨_, rfl, .refl _⟩, trivial⟩⟩⟩⟩ ⟨⟨_, rfl, .refl _⟩, ⟨⟨_, rfl, .refl _⟩, trivial⟩⟩ (by decide)) ?_
        refine Good.le (σ' := ⟨29, [(4, .ptr 14 b2 0), (5, .bool false)], [(100, (nilV, .osl 30 5 (([] : List Val).map encOVal))), (101, (nilV, .osl 9 1 (([] : List Bs).map encS))), (14, ((.pointer (some ⟨b2, 0, none⟩)), .optr 30 [.int .i64 0, .int .i64 0, .str ([] : Bs), .hd 100 nilV, .hd 101 nilV]))]⟩) (le_w [none, none, some 14] rfl ⟨⟨_, rfl, .refl _⟩, ⟨⟨_, rfl, .refl _⟩, trivial⟩⟩ ⟨⟨rfl, _, _, rfl⟩, ⟨⟨rfl, _, _, rfl⟩, ⟨⟨_, rfl, .optr (.cons (.refl _) (.cons (.refl _) (.cons (.refl _) (.cons (.nilhd _) (.cons (.nilhd _) (.nil))))))⟩, trivial⟩⟩⟩ (by decide)) ?_
        refine good_ret ?_
        obtain rfl := Option.some.inj h
        refine thenQ_ret ?_
        exact endQ_ret (h' := [(100, (_, _)), (101, (_, _))]) [some 100, some 101] (.cell rfl rfl tsize30 tagg30 rfl rfl rfl (.tmp rfl (.nil))) ⟨⟨_, rfl, .refl _⟩, ⟨⟨_, rfl, .refl _⟩, trivial⟩⟩ (by decide) ⟨nilV, nilV, rfl, rfl⟩
      · replace h := ifF h (dF hc2)
        refine good_skip ?_
        refine hK6 _ ?_
        refine Good.le (σ' := ⟨29, [(2, _), (4, _), (5, _), (6, _)], [(12, (_, _)), (14, (_, _))]⟩) (le_w [some 12, some 14] rfl ⟨⟨_, rfl, .refl _⟩, ⟨⟨_, rfl, .refl _⟩, ⟨⟨_, rfl, .refl _⟩, ⟨⟨_, rfl, .refl _⟩, trivial⟩⟩⟩⟩ ⟨⟨_, rfl, .refl _⟩, ⟨⟨_, rfl, .refl _⟩, trivial⟩⟩ (by decide)) ?_
        refine good_seq fun K9 hK9 => ?_
        refine good_region ?_
        refine g_op rfl (ValOk.op (v_fieldP tabOk rfl tfoff30_3 rfl ?_)) 
        refine g_op rfl (ValOk.op (v_loadP tabOk rfl rfl tsize28 tagg28 rfl rfl rfl rfl ?_)) 
        refine g_op rfl (ValOk.op (v_move rfl rfl ?_)) 
        obtain ⟨hb1, h⟩ := ifS h
        refine g_op rfl (ValOk.op (v_idxM tabOk rfl rfl telem28 tsize30 hb1 (encVal_eq _) rfl rfl ?_)) 
        refine g_op rfl (ValOk.op (v_loadE tabOk rfl tsize30 tagg30 rfl rfl rfl ?_)) 
        obtain ⟨y2, hy2, h⟩ := bnd h
        refine g_op rfl (o_callD [] [] [] (core_value rfl rfl) (m_impl_copyValue_ok k (ix a0.list y1) _ hy2) trivial (.cons (.refl _) (.nil)) trivial rfl rfl rfl ?_)
        rintro _ _ ⟨w1, w2, rfl, rfl⟩
        refine ⟨.agg [.int .i64 y2.kind, .int .i64 y2.num, .str y2.text, .hd 3001 w1, .hd 3002 w2], [(3001, _), (3002, _)], .agg (.cons (.refl _) (.cons (.refl _) (.cons (.refl _) (.cons (.hd _ _ _) (.cons (.hd _ _ _) (.nil)))))), rfl, rfl, rfl, rfl, .inl rfl, ?_⟩
        refine g_op rfl (o_storeP tabOk (cs' := [.int .i64 y2.kind, .int .i64 y2.num, .str y2.text, .hd 3001 w1, .hd 3002 w2]) rfl rfl tsize30 rfl rfl rfl (Nat.le_of_ble_eq_true rfl) rfl rfl rfl ?_)
        refine g_op rfl (ValOk.op (v_assign rfl rfl ?_)) 
        refine g_nil ?_
        refine hK9 _ ?_
        refine Good.le (σ' := ⟨29, [(4, _), (5, _)], [(14, (_, _)), (3001, (_, _)), (3002, (_, _))]⟩) (le_w [some 14, some 3001, some 3002] rfl ⟨⟨_, rfl, .refl _⟩, ⟨⟨_, rfl, .refl _⟩, trivial⟩⟩ ⟨⟨_, rfl, .refl _⟩, ⟨⟨_, rfl, .refl _⟩, ⟨⟨_, rfl, .refl _⟩, trivial⟩⟩⟩ (by decide)) ?_
        refine Good.le (σ' := ⟨29, [(4, .ptr 14 b2 0), (5, .bool true)], [(100, (w1, .osl 30 5 (y2.list.map encOVal))), (101, (w2, .osl 9 1 (y2.names.map encS))), (14, ((.pointer (some ⟨b2, 0, none⟩)), .optr 30 [.int .i64 y2.kind, .int .i64 y2.num, .str y2.text, .hd 100 w1, .hd 101 w2]))]⟩) (le_w [some 3001, some 3002, some 14] rfl ⟨⟨_, rfl, .refl _⟩, ⟨⟨_, rfl, .refl _⟩, trivial⟩⟩ ⟨⟨_, rfl, .refl _⟩, ⟨⟨_, rfl, .refl _⟩, ⟨⟨_, rfl, .optr (.cons (.refl _) (.cons (.refl _) (.cons (.refl _) (.cons (.hd _ _ _) (.cons (.hd _ _ _) (.nil))))))⟩, trivial⟩⟩⟩ (by decide)) ?_
        refine good_ret ?_
        obtain rfl := Option.some.inj h
        exact endQ_ret (h' := [(100, (_, _)), (101, (_, _))]) [some 100, some 101] (.cell rfl rfl tsize30 tagg30 rfl rfl rfl (.tmp rfl (.nil))) ⟨⟨_, rfl, .refl _⟩, ⟨⟨_, rfl, .refl _⟩, trivial⟩⟩ (by decide) ⟨w1, w2, rfl, rfl⟩
  replace h := ho1
  refine good_region ?_
  refine g_op rfl (ValOk.op (v_loadP tabOk rfl rfl tsize30 tagg30 rfl rfl rfl rfl ?_)) 
  obtain ⟨y3, hy3, h⟩ := bnd h
  refine g_op rfl (o_callR [] [] (core_value rfl rfl) (m_impl_ValueOk_ok k a0 _ hy3) trivial (.cons (.refl _) (.nil)) (.inl rfl) rfl ?_)
  refine g_op rfl (ValOk.op (v_not rfl rfl ?_)) 
  refine g_op rfl (ValOk.op (v_move rfl rfl ?_)) 
  rcases bsplit ((!y3)) with hg1 | hg1
  · replace h := bF h (nT hg1)
    refine g_no rfl rfl hg1 rfl ?_
    refine g_no rfl rfl hg1 rfl ?_
    refine g_no rfl rfl hg1 rfl ?_
    refine g_op rfl (ValOk.op (v_pickT rfl hg1 rfl rfl ?_)) 
    refine g_nil ?_
    exact hw1 true (Option.some.inj h).symm _ (le_w [some 12, some 14] rfl ⟨⟨_, rfl, .refl _⟩, ⟨⟨_, rfl, .refl _⟩, ⟨⟨_, rfl, .refl _⟩, ⟨⟨_, rfl, .refl _⟩, ⟨⟨_, rfl, .refl _⟩, trivial⟩⟩⟩⟩⟩ ⟨⟨_, rfl, .refl _⟩, ⟨⟨_, rfl, .refl _⟩, trivial⟩⟩ (by decide))
  · replace h := ifT h (nF hg1)
    refine g_yes rfl rfl hg1 (ValOk.op (v_fieldP tabOk rfl tfoff30_0 rfl ?_)) 
    refine g_yes rfl rfl hg1 (ValOk.op (v_loadP tabOk rfl rfl tsize3 tagg3 rfl rfl rfl rfl ?_)) 
    refine g_yes rfl rfl hg1 (ValOk.op (v_bin rfl rfl rfl rfl ?_)) 
    refine g_op rfl (ValOk.op (v_pickF rfl hg1 rfl rfl ?_)) 
    refine g_nil ?_
    exact hw1 (!(decide (a0.kind = 5))) (Option.some.inj h).symm _ (le_w [some 12, some 14] rfl ⟨⟨_, rfl, .refl _⟩, ⟨⟨_, rfl, .refl _⟩, ⟨⟨_, rfl, .refl _⟩, ⟨⟨_, rfl, .refl _⟩, ⟨⟨_, rfl, .refl _⟩, trivial⟩⟩⟩⟩⟩ ⟨⟨_, rfl, .refl _⟩, ⟨⟨_, rfl, .refl _⟩, trivial⟩⟩ (by decide))
theorem m_impl_TreeGet_okF (k : Nat) : ∀ (a0 : Val) (a1 : Bs) (r : (Val × Bool)), m_impl_TreeGet k a0 a1 = some r → Does Try.prog 23 [.agg [.int .i64 a0.kind, .int .i64 a0.num, .str a0.text, .sl true (a0.list.map encVal), .sl false (a0.names.map encS)], .str a1] [] (ret (.tup [.agg [.int .i64 r.1.kind, .int .i64 r.1.num, .str r.1.text, .sl true (r.1.list.map encVal), .sl false (r.1.names.map encS)], .bool r.2])) := by
  intro a0 a1 r h
  refine does_frz (m_impl_TreeGet_ok k a0 a1 r h) ?_
  rintro q h' ⟨u0, u1, rfl, rfl⟩
  exact ⟨[100, 101], [(_, _), (_, _)], ⟨⟨_, rfl, .osl (FrzLL.map fun _ _ => encOVal_frz _)⟩, ⟨⟨_, rfl, .osl (FrzLL.map fun _ _ => encS_frz _)⟩, trivial⟩⟩, .tup (.cons (.agg (.cons (.refl _) (.cons (.refl _) (.cons (.refl _) (.cons (.frz _ _ _ (.head _)) (.cons (.frz _ _ _ (.tail _ (.head _))) (.nil))))))) (.cons (.refl _) (.nil)))⟩
end Go.Proofs.Ytiaigcdckmpepaa
