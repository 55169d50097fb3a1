/- What functions of this program answer, as plain functions; each theorem says that the code comes to just that. -/
import Derived.Test.YtopbbjoflopjbaaDoorDat
import Derived.Test.YtopbbjoflopjbaaDoorB13
import Derived.Test.YtopbbjoflopjbaaDoorDatO
import Derived.Test.YtopbbjoflopjbaaDoorB20
import Derived.Test.YtopbbjoflopjbaaDoorGsp
import Derived.Test.YtopbbjoflopjbaaDoorGpi
import Derived.Test.YtopbbjoflopjbaaDoorGpg
/-! Functions of the program. -/
set_option linter.unusedVariables false
set_option maxRecDepth 100000
set_option maxHeartbeats 20000000
namespace Go.Proofs.YtopbbjoflopjbaaDoor
open Go.Bb
def m_laws_FnExactPointerGet (k : Nat) (a0 : Bs) : Option Bool :=
  if 1048576 < (a0.length : Int) then
    some true
  else
    (m_spec_PointerGet k a0).bind fun y1 =>
    (m_impl_PointerGet k a0).bind fun y2 =>
    ((m_laws_eqStringS k y2.1 y1.1).bind fun y8 =>
      if y8 = true then
        some (Lp.go (!(decide (y2.2 = y1.2))))
      else
        some (Lp.go true)).bind fun o1 =>
    o1.then fun s1 =>
    if s1 = true then
      some false
    else
      (m_laws_markStringS k y2.1 1).bind fun y3 =>
      (m_laws_heldStringS k y3.2 1).bind fun y4 =>
      if y4 < 0 then
        some false
      else
        if y4 = y3.1 then
          (m_impl_PointerGet k a0).bind fun y5 =>
          ((m_laws_eqStringS k y5.1 y1.1).bind fun y7 =>
            if y7 = true then
              some (Lp.go (!(decide (y5.2 = y1.2))))
            else
              some (Lp.go true)).bind fun o2 =>
          o2.then fun s2 =>
    if s2 = true then
      some false
    else
      (m_laws_heldStringS k y3.2 1).bind fun y6 =>
      if y6 < 0 then
        some false
      else
        if y6 = y3.1 then
          some true
        else
          some false
        else
          some false
theorem m_laws_FnExactPointerGet_ok (k : Nat) : ∀ (a0 : Bs) (r : Bool), m_laws_FnExactPointerGet k a0 = some r → Does Tryd.prog 4 [.str a0] [] (ret (.bool r)) := by
  intro a0 r h
  rw [m_laws_FnExactPointerGet] at h
  refine does_of_good tabOk Tryd.func4 rfl (by decide +kernel) (Nat.le_of_ble_eq_true rfl) fun c => ?_
  refine Good.le (σ' := ⟨66, [(0, .str a0)], []⟩) (Le.refl _) ?_
  refine good_seq fun K1 hK1 => ?_
  refine good_region ?_
  refine g_op rfl (ValOk.op (v_assign rfl rfl ?_)) 
  refine g_nil ?_
  refine hK1 _ ?_
  refine good_seq fun K2 hK2 => ?_
  refine good_seq fun K3 hK3 => ?_
  refine good_region ?_
  refine g_op rfl (ValOk.op (v_move rfl rfl ?_)) 
  refine g_op rfl (ValOk.op (v_lenS tabOk rfl rfl tkind9 rfl ?_)) 
  refine g_op rfl (ValOk.op (v_bin rfl rfl rfl rfl ?_)) 
  refine g_nil ?_
  refine hK3 _ ?_
  refine Good.le (σ' := ⟨66, [(0, _), (2, _), (13, _)], []⟩) (le_w [] rfl ⟨⟨_, rfl, .refl _⟩, ⟨⟨_, rfl, .refl _⟩, ⟨⟨_, rfl, .refl _⟩, trivial⟩⟩⟩ trivial (by decide)) ?_
  refine good_cond rfl (fun hc1 => ?_) (fun hc1 => ?_)
  · replace h := ifT h (dT hc1)
    refine good_seq fun K4 hK4 => ?_
    refine good_region ?_
    refine g_op rfl (ValOk.op (v_assign rfl rfl ?_)) 
    refine g_nil ?_
    refine hK4 _ ?_
    refine Good.le (σ' := ⟨66, [(0, _), (2, _)], []⟩) (le_w [] rfl ⟨⟨_, rfl, .refl _⟩, ⟨⟨_, rfl, .refl _⟩, trivial⟩⟩ trivial (by decide)) ?_
    refine Good.le (σ' := ⟨66, [(2, .bool true)], []⟩) (le_w [] rfl ⟨⟨_, rfl, .refl _⟩, trivial⟩ trivial (by decide)) ?_
    refine good_ret ?_
    obtain rfl := Option.some.inj h
    refine thenQ_ret ?_
    exact endQ_ret (h' := []) [] (.tmp rfl (.nil)) trivial (by decide) ⟨rfl, rfl⟩
  · replace h := ifF h (dF hc1)
    refine good_skip ?_
    refine hK2 _ ?_
    refine Good.le (σ' := ⟨66, [(0, _), (2, _)], []⟩) (le_w [] rfl ⟨⟨_, rfl, .refl _⟩, ⟨⟨_, rfl, .refl _⟩, trivial⟩⟩ trivial (by decide)) ?_
    refine good_seq fun K5 hK5 => ?_
    refine good_region ?_
    refine g_op rfl (ValOk.op (v_move rfl rfl ?_)) 
    obtain ⟨y1, hy1, h⟩ := bnd h
    refine g_op rfl (o_callD [] [] [] (core_value rfl rfl) (m_spec_PointerGet_ok k a0 _ hy1) trivial (.cons (.refl _) (.nil)) trivial rfl rfl rfl ?_)
    rintro _ _ ⟨w1, rfl, rfl⟩
    refine ⟨.tup [.hd 3001 w1, .bool y1.2], [(3001, _)], .tup (.cons (.hd _ _ _) (.cons (.refl _) (.nil))), rfl, rfl, rfl, rfl, .inl rfl, ?_⟩
    refine g_op rfl (ValOk.op (v_move rfl rfl ?_)) 
    refine g_op rfl (ValOk.op (v_extract rfl rfl rfl ?_)) 
    refine g_op rfl (ValOk.op (v_extract rfl rfl rfl ?_)) 
    refine g_op rfl (ValOk.op (v_assign rfl rfl ?_)) 
    refine g_op rfl (ValOk.op (v_assign rfl rfl ?_)) 
    refine g_nil ?_
    refine hK5 _ ?_
    refine Good.le (σ' := ⟨66, [(0, _), (2, _), (3, _), (4, _)], [(3001, (_, _))]⟩) (le_w [some 3001] rfl ⟨⟨_, rfl, .refl _⟩, ⟨⟨_, rfl, .refl _⟩, ⟨⟨_, rfl, .refl _⟩, ⟨⟨_, rfl, .refl _⟩, trivial⟩⟩⟩⟩ ⟨⟨_, rfl, .refl _⟩, trivial⟩ (by decide)) ?_
    refine good_seq fun K6 hK6 => ?_
    refine good_region ?_
    refine g_op rfl (ValOk.op (v_move rfl rfl ?_)) 
    obtain ⟨y2, hy2, h⟩ := bnd h
    refine g_op rfl (o_callD [] [] [] (core_value rfl rfl) (m_impl_PointerGet_ok k a0 _ hy2) trivial (.cons (.refl _) (.nil)) trivial rfl rfl rfl ?_)
    rintro _ _ ⟨w2, rfl, rfl⟩
    refine ⟨.tup [.hd 3002 w2, .bool y2.2], [(3002, _)], .tup (.cons (.hd _ _ _) (.cons (.refl _) (.nil))), rfl, rfl, rfl, rfl, .inl rfl, ?_⟩
    refine g_op rfl (ValOk.op (v_move rfl rfl ?_)) 
    refine g_op rfl (ValOk.op (v_extract rfl rfl rfl ?_)) 
    refine g_op rfl (ValOk.op (v_extract rfl rfl rfl ?_)) 
    refine g_op rfl (ValOk.op (v_assign rfl rfl ?_)) 
    refine g_op rfl (ValOk.op (v_assign rfl rfl ?_)) 
    refine g_nil ?_
    refine hK6 _ ?_
    refine Good.le (σ' := ⟨66, [(0, _), (2, _), (3, _), (4, _), (5, _), (6, _)], [(3001, (_, _)), (3002, (_, _))]⟩) (le_w [some 3001, some 3002] rfl ⟨⟨_, rfl, .refl _⟩, ⟨⟨_, rfl, .refl _⟩, ⟨⟨_, rfl, .refl _⟩, ⟨⟨_, rfl, .refl _⟩, ⟨⟨_, rfl, .refl _⟩, ⟨⟨_, rfl, .refl _⟩, trivial⟩⟩⟩⟩⟩⟩ ⟨⟨_, rfl, .refl _⟩, ⟨⟨_, rfl, .refl _⟩, trivial⟩⟩ (by decide)) ?_
    refine good_seq fun K7 hK7 => ?_
    refine good_seq fun K8 hK8 => ?_
    obtain ⟨o1, ho1, hJ1⟩ := bnd h
    have hw1 : ∀ (s1 : Bool), o1 = Lp.go s1 → ∀ σ', Le σ' ⟨66, [(0, .str a0), (2, .bool false), (3, .hd 3001 w1), (4, .bool y1.2), (5, .hd 3002 w2), (32, .bool s1)], [(3001, (w1, .osl 9 1 (y1.1.map encS))), (3002, (w2, .osl 9 1 (y2.1.map encS)))]⟩ → K8 σ' := by
      intro s1 e1 σ' hle1
      subst e1
      refine hK8 _ (Good.le hle1 ?_)
      replace h := hJ1
      refine good_cond rfl (fun hc2 => ?_) (fun hc2 => ?_)
      · replace h := ifT h hc2
        refine good_seq fun K9 hK9 => ?_
        refine good_region ?_
        refine g_op rfl (ValOk.op (v_assign rfl rfl ?_)) 
        refine g_nil ?_
        refine hK9 _ ?_
        refine Good.le (σ' := ⟨66, [(0, _), (2, _), (3, _), (4, _), (5, _)], [(3001, (_, _)), (3002, (_, _))]⟩) (le_w [some 3001, some 3002] rfl ⟨⟨_, rfl, .refl _⟩, ⟨⟨_, rfl, .refl _⟩, ⟨⟨_, rfl, .refl _⟩, ⟨⟨_, rfl, .refl _⟩, ⟨⟨_, rfl, .refl _⟩, trivial⟩⟩⟩⟩⟩ ⟨⟨_, rfl, .refl _⟩, ⟨⟨_, rfl, .refl _⟩, trivial⟩⟩ (by decide)) ?_
        refine Good.le (σ' := ⟨66, [(2, .bool false)], []⟩) (le_w [] rfl ⟨⟨_, rfl, .refl _⟩, trivial⟩ trivial (by decide)) ?_
        refine good_ret ?_
        obtain rfl := Option.some.inj h
        refine thenQ_ret ?_
        exact endQ_ret (h' := []) [] (.tmp rfl (.nil)) trivial (by decide) ⟨rfl, rfl⟩
      · replace h := bF h hc2
        refine good_skip ?_
        refine hK7 _ ?_
        refine Good.le (σ' := ⟨66, [(0, _), (2, _), (3, _), (4, _), (5, _)], [(3001, (_, _)), (3002, (_, _))]⟩) (le_w [some 3001, some 3002] rfl ⟨⟨_, rfl, .refl _⟩, ⟨⟨_, rfl, .refl _⟩, ⟨⟨_, rfl, .refl _⟩, ⟨⟨_, rfl, .refl _⟩, ⟨⟨_, rfl, .refl _⟩, trivial⟩⟩⟩⟩⟩ ⟨⟨_, rfl, .refl _⟩, ⟨⟨_, rfl, .refl _⟩, trivial⟩⟩ (by decide)) ?_
        refine good_seq fun K10 hK10 => ?_
        refine good_region ?_
        refine g_op rfl (ValOk.op (v_assign rfl rfl ?_)) 
        refine g_nil ?_
        refine hK10 _ ?_
        refine good_seq fun K11 hK11 => ?_
        refine good_region ?_
        refine g_op rfl (ValOk.op (v_move rfl rfl ?_)) 
        refine g_op rfl (ValOk.op (v_move rfl rfl ?_)) 
        obtain ⟨y3, hy3, h⟩ := bnd h
        refine g_op rfl (o_callD [] [] [3002] (core_value rfl rfl) (m_laws_markStringS_ok k y2.1 1 _ _ hy3) trivial (.cons (.hd _ _ _) (.cons (.refl _) (.nil))) ⟨rfl, trivial⟩ rfl rfl rfl ?_)
        rintro _ _ ⟨rfl, rfl⟩
        refine ⟨_, [(3002, _)], .refl _, rfl, rfl, rfl, rfl, .inl rfl, ?_⟩
        refine g_op rfl (ValOk.op (v_assign rfl rfl ?_)) 
        refine g_nil ?_
        refine hK11 _ ?_
        refine Good.le (σ' := ⟨66, [(0, _), (2, _), (3, _), (4, _), (5, _), (7, _)], [(3001, (_, _)), (3002, (_, _))]⟩) (le_w [some 3001, some 3002] rfl ⟨⟨_, rfl, .refl _⟩, ⟨⟨_, rfl, .refl _⟩, ⟨⟨_, rfl, .refl _⟩, ⟨⟨_, rfl, .refl _⟩, ⟨⟨_, rfl, .refl _⟩, ⟨⟨_, rfl, .refl _⟩, trivial⟩⟩⟩⟩⟩⟩ ⟨⟨_, rfl, .refl _⟩, ⟨⟨_, rfl, .refl _⟩, trivial⟩⟩ (by decide)) ?_
        refine good_seq fun K12 hK12 => ?_
        refine good_region ?_
        refine g_op rfl (ValOk.op (v_assign rfl rfl ?_)) 
        refine g_nil ?_
        refine hK12 _ ?_
        refine good_seq fun K13 hK13 => ?_
        refine good_region ?_
        refine g_op rfl (ValOk.op (v_move rfl rfl ?_)) 
        refine g_op rfl (ValOk.op (v_move rfl rfl ?_)) 
        obtain ⟨y4, hy4, h⟩ := bnd h
        refine g_op rfl (o_callR [3002] [(_, _)] (core_value rfl rfl) (m_laws_heldStringS_ok k y3.2 1 _ hy4) ⟨⟨_, rfl, .osl (FrzLL.map fun _ _ => encS_frz _)⟩, trivial⟩ (.cons (.frz _ _ _ (.head _)) (.cons (.refl _) (.nil))) (.inr (.int _ _)) rfl ?_)
        refine g_op rfl (ValOk.op (v_assign rfl rfl ?_)) 
        refine g_nil ?_
        refine hK13 _ ?_
        refine Good.le (σ' := ⟨66, [(0, _), (2, _), (3, _), (4, _), (5, _), (7, _), (8, _)], [(3001, (_, _)), (3002, (_, _))]⟩) (le_w [some 3001, some 3002] rfl ⟨⟨_, rfl, .refl _⟩, ⟨⟨_, rfl, .refl _⟩, ⟨⟨_, rfl, .refl _⟩, ⟨⟨_, rfl, .refl _⟩, ⟨⟨_, rfl, .refl _⟩, ⟨⟨_, rfl, .refl _⟩, ⟨⟨_, rfl, .refl _⟩, trivial⟩⟩⟩⟩⟩⟩⟩ ⟨⟨_, rfl, .refl _⟩, ⟨⟨_, rfl, .refl _⟩, trivial⟩⟩ (by decide)) ?_
        refine good_seq fun K14 hK14 => ?_
        refine good_seq fun K15 hK15 => ?_
        refine good_region ?_
        refine g_op rfl (ValOk.op (v_move rfl rfl ?_)) 
        refine g_op rfl (ValOk.op (v_bin rfl rfl rfl rfl ?_)) 
        refine g_nil ?_
        refine hK15 _ ?_
        refine Good.le (σ' := ⟨66, [(0, _), (2, _), (3, _), (4, _), (5, _), (7, _), (8, _), (40, _)], [(3001, (_, _)), (3002, (_, _))]⟩) (le_w [some 3001, some 3002] rfl ⟨⟨_, rfl, .refl _⟩, ⟨⟨_, rfl, .refl _⟩, ⟨⟨_, rfl, .refl _⟩, ⟨⟨_, rfl, .refl _⟩, ⟨⟨_, rfl, .refl _⟩, ⟨⟨_, rfl, .refl _⟩, ⟨⟨_, rfl, .refl _⟩, ⟨⟨_, rfl, .refl _⟩, trivial⟩⟩⟩⟩⟩⟩⟩⟩ ⟨⟨_, rfl, .refl _⟩, ⟨⟨_, rfl, .refl _⟩, trivial⟩⟩ (by decide)) ?_
        refine good_cond rfl (fun hc3 => ?_) (fun hc3 => ?_)
        · replace h := ifT h (dT hc3)
          refine good_seq fun K16 hK16 => ?_
          refine good_region ?_
          refine g_op rfl (ValOk.op (v_assign rfl rfl ?_)) 
          refine g_nil ?_
          refine hK16 _ ?_
          refine Good.le (σ' := ⟨66, [(0, _), (2, _), (3, _), (4, _), (5, _), (7, _), (8, _)], [(3001, (_, _)), (3002, (_, _))]⟩) (le_w [some 3001, some 3002] rfl ⟨⟨_, rfl, .refl _⟩, ⟨⟨_, rfl, .refl _⟩, ⟨⟨_, rfl, .refl _⟩, ⟨⟨_, rfl, .refl _⟩, ⟨⟨_, rfl, .refl _⟩, ⟨⟨_, rfl, .refl _⟩, ⟨⟨_, rfl, .refl _⟩, trivial⟩⟩⟩⟩⟩⟩⟩ ⟨⟨_, rfl, .refl _⟩, ⟨⟨_, rfl, .refl _⟩, trivial⟩⟩ (by decide)) ?_
          refine Good.le (σ' := ⟨66, [(2, .bool false)], []⟩) (le_w [] rfl ⟨⟨_, rfl, .refl _⟩, trivial⟩ trivial (by decide)) ?_
          refine good_ret ?_
          obtain rfl := Option.some.inj h
          refine thenQ_ret ?_
          exact endQ_ret (h' := []) [] (.tmp rfl (.nil)) trivial (by decide) ⟨rfl, rfl⟩
        · replace h := ifF h (dF hc3)
          refine good_skip ?_
          refine hK14 _ ?_
          refine Good.le (σ' := ⟨66, [(0, _), (2, _), (3, _), (4, _), (5, _), (7, _), (8, _)], [(3001, (_, _)), (3002, (_, _))]⟩) (le_w [some 3001, some 3002] rfl ⟨⟨_, rfl, .refl _⟩, ⟨⟨_, rfl, .refl _⟩, ⟨⟨_, rfl, .refl _⟩, ⟨⟨_, rfl, .refl _⟩, ⟨⟨_, rfl, .refl _⟩, ⟨⟨_, rfl, .refl _⟩, ⟨⟨_, rfl, .refl _⟩, trivial⟩⟩⟩⟩⟩⟩⟩ ⟨⟨_, rfl, .refl _⟩, ⟨⟨_, rfl, .refl _⟩, trivial⟩⟩ (by decide)) ?_
          refine good_seq fun K17 hK17 => ?_
          refine good_seq fun K18 hK18 => ?_
          refine good_region ?_
          refine g_op rfl (ValOk.op (v_move rfl rfl ?_)) 
          refine g_op rfl (ValOk.op (v_move rfl rfl ?_)) 
          refine g_op rfl (ValOk.op (v_bin rfl rfl rfl rfl ?_)) 
          refine g_nil ?_
          refine hK18 _ ?_
          refine Good.le (σ' := ⟨66, [(0, _), (2, _), (3, _), (4, _), (5, _), (7, _), (43, _)], [(3001, (_, _)), (3002, (_, _))]⟩) (le_w [some 3001, some 3002] rfl ⟨⟨_, rfl, .refl _⟩, ⟨⟨_, rfl, .refl _⟩, ⟨⟨_, rfl, .refl _⟩, ⟨⟨_, rfl, .refl _⟩, ⟨⟨_, rfl, .refl _⟩, ⟨⟨_, rfl, .refl _⟩, ⟨⟨_, rfl, .refl _⟩, trivial⟩⟩⟩⟩⟩⟩⟩ ⟨⟨_, rfl, .refl _⟩, ⟨⟨_, rfl, .refl _⟩, trivial⟩⟩ (by decide)) ?_
          refine good_cond rfl (fun hc4 => ?_) (fun hc4 => ?_)
          · replace h := ifF h (ndT hc4)
            refine good_seq fun K19 hK19 => ?_
            refine good_region ?_
            refine g_op rfl (ValOk.op (v_assign rfl rfl ?_)) 
            refine g_nil ?_
            refine hK19 _ ?_
            refine Good.le (σ' := ⟨66, [(0, _), (2, _), (3, _), (4, _), (5, _), (7, _)], [(3001, (_, _)), (3002, (_, _))]⟩) (le_w [some 3001, some 3002] rfl ⟨⟨_, rfl, .refl _⟩, ⟨⟨_, rfl, .refl _⟩, ⟨⟨_, rfl, .refl _⟩, ⟨⟨_, rfl, .refl _⟩, ⟨⟨_, rfl, .refl _⟩, ⟨⟨_, rfl, .refl _⟩, trivial⟩⟩⟩⟩⟩⟩ ⟨⟨_, rfl, .refl _⟩, ⟨⟨_, rfl, .refl _⟩, trivial⟩⟩ (by decide)) ?_
            refine Good.le (σ' := ⟨66, [(2, .bool false)], []⟩) (le_w [] rfl ⟨⟨_, rfl, .refl _⟩, trivial⟩ trivial (by decide)) ?_
            refine good_ret ?_
            obtain rfl := Option.some.inj h
            refine thenQ_ret ?_
            exact endQ_ret (h' := []) [] (.tmp rfl (.nil)) trivial (by decide) ⟨rfl, rfl⟩
          · replace h := ifT h (ndF hc4)
            refine good_skip ?_
            refine hK17 _ ?_
            refine Good.le (σ' := ⟨66, [(0, _), (2, _), (3, _), (4, _), (5, _), (7, _)], [(3001, (_, _)), (3002, (_, _))]⟩) (le_w [some 3001, some 3002] rfl ⟨⟨_, rfl, .refl _⟩, ⟨⟨_, rfl, .refl _⟩, ⟨⟨_, rfl, .refl _⟩, ⟨⟨_, rfl, .refl _⟩, ⟨⟨_, rfl, .refl _⟩, ⟨⟨_, rfl, .refl _⟩, trivial⟩⟩⟩⟩⟩⟩ ⟨⟨_, rfl, .refl _⟩, ⟨⟨_, rfl, .refl _⟩, trivial⟩⟩ (by decide)) ?_
            refine good_seq fun K20 hK20 => ?_
            refine good_region ?_
            refine g_op rfl (ValOk.op (v_move rfl rfl ?_)) 
            obtain ⟨y5, hy5, h⟩ := bnd h
            refine g_op rfl (o_callD [] [] [] (core_value rfl rfl) (m_impl_PointerGet_ok k a0 _ hy5) trivial (.cons (.refl _) (.nil)) trivial rfl rfl rfl ?_)
            rintro _ _ ⟨w3, rfl, rfl⟩
            refine ⟨.tup [.hd 3003 w3, .bool y5.2], [(3003, _)], .tup (.cons (.hd _ _ _) (.cons (.refl _) (.nil))), rfl, rfl, rfl, rfl, .inl rfl, ?_⟩
            refine g_op rfl (ValOk.op (v_move rfl rfl ?_)) 
            refine g_op rfl (ValOk.op (v_extract rfl rfl rfl ?_)) 
            refine g_op rfl (ValOk.op (v_extract rfl rfl rfl ?_)) 
            refine g_op rfl (ValOk.op (v_assign rfl rfl ?_)) 
            refine g_op rfl (ValOk.op (v_assign rfl rfl ?_)) 
            refine g_nil ?_
            refine hK20 _ ?_
            refine Good.le (σ' := ⟨66, [(2, _), (3, _), (4, _), (5, _), (7, _), (9, _), (10, _)], [(3001, (_, _)), (3002, (_, _)), (3003, (_, _))]⟩) (le_w [some 3001, some 3002, some 3003] rfl ⟨⟨_, rfl, .refl _⟩, ⟨⟨_, rfl, .refl _⟩, ⟨⟨_, rfl, .refl _⟩, ⟨⟨_, rfl, .refl _⟩, ⟨⟨_, rfl, .refl _⟩, ⟨⟨_, rfl, .refl _⟩, ⟨⟨_, rfl, .refl _⟩, trivial⟩⟩⟩⟩⟩⟩⟩ ⟨⟨_, rfl, .refl _⟩, ⟨⟨_, rfl, .refl _⟩, ⟨⟨_, rfl, .refl _⟩, trivial⟩⟩⟩ (by decide)) ?_
            refine good_seq fun K21 hK21 => ?_
            refine good_seq fun K22 hK22 => ?_
            obtain ⟨o2, ho2, hJ2⟩ := bnd h
            have hw2 : ∀ (s2 : Bool), o2 = Lp.go s2 → ∀ σ', Le σ' ⟨66, [(2, .bool false), (5, .hd 3002 w2), (7, .int .i64 y3.1), (57, .bool s2)], [(3002, (w2, .osl 9 1 (y3.2.map encS)))]⟩ → K22 σ' := by
              intro s2 e2 σ' hle2
              subst e2
              refine hK22 _ (Good.le hle2 ?_)
              replace h := hJ2
              refine good_cond rfl (fun hc5 => ?_) (fun hc5 => ?_)
              · replace h := ifT h hc5
                refine good_seq fun K23 hK23 => ?_
                refine good_region ?_
                refine g_op rfl (ValOk.op (v_assign rfl rfl ?_)) 
                refine g_nil ?_
                refine hK23 _ ?_
                refine Good.le (σ' := ⟨66, [(2, _), (5, _), (7, _)], [(3002, (_, _))]⟩) (le_w [some 3002] rfl ⟨⟨_, rfl, .refl _⟩, ⟨⟨_, rfl, .refl _⟩, ⟨⟨_, rfl, .refl _⟩, trivial⟩⟩⟩ ⟨⟨_, rfl, .refl _⟩, trivial⟩ (by decide)) ?_
                refine Good.le (σ' := ⟨66, [(2, .bool false)], []⟩) (le_w [] rfl ⟨⟨_, rfl, .refl _⟩, trivial⟩ trivial (by decide)) ?_
                refine good_ret ?_
                obtain rfl := Option.some.inj h
                refine thenQ_ret ?_
                exact endQ_ret (h' := []) [] (.tmp rfl (.nil)) trivial (by decide) ⟨rfl, rfl⟩
              · replace h := bF h hc5
                refine good_skip ?_
                refine hK21 _ ?_
                refine Good.le (σ' := ⟨66, [(2, _), (5, _), (7, _)], [(3002, (_, _))]⟩) (le_w [some 3002] rfl ⟨⟨_, rfl, .refl _⟩, ⟨⟨_, rfl, .refl _⟩, ⟨⟨_, rfl, .refl _⟩, trivial⟩⟩⟩ ⟨⟨_, rfl, .refl _⟩, trivial⟩ (by decide)) ?_
                refine good_seq fun K24 hK24 => ?_
                refine good_region ?_
                refine g_op rfl (ValOk.op (v_assign rfl rfl ?_)) 
                refine g_nil ?_
                refine hK24 _ ?_
                refine good_seq fun K25 hK25 => ?_
                refine good_region ?_
                refine g_op rfl (ValOk.op (v_move rfl rfl ?_)) 
                refine g_op rfl (ValOk.op (v_move rfl rfl ?_)) 
                obtain ⟨y6, hy6, h⟩ := bnd h
                refine g_op rfl (o_callR [3002] [(_, _)] (core_value rfl rfl) (m_laws_heldStringS_ok k y3.2 1 _ hy6) ⟨⟨_, rfl, .osl (FrzLL.map fun _ _ => encS_frz _)⟩, trivial⟩ (.cons (.frz _ _ _ (.head _)) (.cons (.refl _) (.nil))) (.inr (.int _ _)) rfl ?_)
                refine g_op rfl (ValOk.op (v_assign rfl rfl ?_)) 
                refine g_nil ?_
                refine hK25 _ ?_
                refine Good.le (σ' := ⟨66, [(2, _), (7, _), (8, _)], []⟩) (le_w [] rfl ⟨⟨_, rfl, .refl _⟩, ⟨⟨_, rfl, .refl _⟩, ⟨⟨_, rfl, .refl _⟩, trivial⟩⟩⟩ trivial (by decide)) ?_
                refine good_seq fun K26 hK26 => ?_
                refine good_seq fun K27 hK27 => ?_
                refine good_region ?_
                refine g_op rfl (ValOk.op (v_move rfl rfl ?_)) 
                refine g_op rfl (ValOk.op (v_bin rfl rfl rfl rfl ?_)) 
                refine g_nil ?_
                refine hK27 _ ?_
                refine Good.le (σ' := ⟨66, [(2, _), (7, _), (8, _), (62, _)], []⟩) (le_w [] rfl ⟨⟨_, rfl, .refl _⟩, ⟨⟨_, rfl, .refl _⟩, ⟨⟨_, rfl, .refl _⟩, ⟨⟨_, rfl, .refl _⟩, trivial⟩⟩⟩⟩ trivial (by decide)) ?_
                refine good_cond rfl (fun hc6 => ?_) (fun hc6 => ?_)
                · replace h := ifT h (dT hc6)
                  refine good_seq fun K28 hK28 => ?_
                  refine good_region ?_
                  refine g_op rfl (ValOk.op (v_assign rfl rfl ?_)) 
                  refine g_nil ?_
                  refine hK28 _ ?_
                  refine Good.le (σ' := ⟨66, [(2, _), (7, _), (8, _)], []⟩) (le_w [] rfl ⟨⟨_, rfl, .refl _⟩, ⟨⟨_, rfl, .refl _⟩, ⟨⟨_, rfl, .refl _⟩, trivial⟩⟩⟩ trivial (by decide)) ?_
                  refine Good.le (σ' := ⟨66, [(2, .bool false)], []⟩) (le_w [] rfl ⟨⟨_, rfl, .refl _⟩, trivial⟩ trivial (by decide)) ?_
                  refine good_ret ?_
                  obtain rfl := Option.some.inj h
                  refine thenQ_ret ?_
                  exact endQ_ret (h' := []) [] (.tmp rfl (.nil)) trivial (by decide) ⟨rfl, rfl⟩
                · replace h := ifF h (dF hc6)
                  refine good_skip ?_
                  refine hK26 _ ?_
                  refine Good.le (σ' := ⟨66, [(2, _), (7, _), (8, _)], []⟩) (le_w [] rfl ⟨⟨_, rfl, .refl _⟩, ⟨⟨_, rfl, .refl _⟩, ⟨⟨_, rfl, .refl _⟩, trivial⟩⟩⟩ trivial (by decide)) ?_
                  refine good_seq fun K29 hK29 => ?_
                  refine good_seq fun K30 hK30 => ?_
                  refine good_region ?_
                  refine g_op rfl (ValOk.op (v_move rfl rfl ?_)) 
                  refine g_op rfl (ValOk.op (v_move rfl rfl ?_)) 
                  refine g_op rfl (ValOk.op (v_bin rfl rfl rfl rfl ?_)) 
                  refine g_nil ?_
                  refine hK30 _ ?_
                  refine Good.le (σ' := ⟨66, [(2, _), (65, _)], []⟩) (le_w [] rfl ⟨⟨_, rfl, .refl _⟩, ⟨⟨_, rfl, .refl _⟩, trivial⟩⟩ trivial (by decide)) ?_
                  refine good_cond rfl (fun hc7 => ?_) (fun hc7 => ?_)
                  · replace h := ifF h (ndT hc7)
                    refine good_seq fun K31 hK31 => ?_
                    refine good_region ?_
                    refine g_op rfl (ValOk.op (v_assign rfl rfl ?_)) 
                    refine g_nil ?_
                    refine hK31 _ ?_
                    refine Good.le (σ' := ⟨66, [(2, _)], []⟩) (le_w [] rfl ⟨⟨_, rfl, .refl _⟩, trivial⟩ trivial (by decide)) ?_
                    refine Good.le (σ' := ⟨66, [(2, .bool false)], []⟩) (le_w [] rfl ⟨⟨_, rfl, .refl _⟩, trivial⟩ trivial (by decide)) ?_
                    refine good_ret ?_
                    obtain rfl := Option.some.inj h
                    refine thenQ_ret ?_
                    exact endQ_ret (h' := []) [] (.tmp rfl (.nil)) trivial (by decide) ⟨rfl, rfl⟩
                  · replace h := ifT h (ndF hc7)
                    refine good_skip ?_
                    refine hK29 _ ?_
                    refine Good.le (σ' := ⟨66, [(2, _)], []⟩) (le_w [] rfl ⟨⟨_, rfl, .refl _⟩, trivial⟩ trivial (by decide)) ?_
                    refine good_seq fun K32 hK32 => ?_
                    refine good_region ?_
                    refine g_op rfl (ValOk.op (v_assign rfl rfl ?_)) 
                    refine g_nil ?_
                    refine hK32 _ ?_
                    refine Good.le (σ' := ⟨66, [(2, .bool true)], []⟩) (le_w [] rfl ⟨⟨_, rfl, .refl _⟩, trivial⟩ trivial (by decide)) ?_
                    refine good_ret ?_
                    obtain rfl := Option.some.inj h
                    exact endQ_ret (h' := []) [] (.tmp rfl (.nil)) trivial (by decide) ⟨rfl, rfl⟩
            replace h := ho2
            refine good_region ?_
            refine g_op rfl (ValOk.op (v_move rfl rfl ?_)) 
            refine g_op rfl (ValOk.op (v_move rfl rfl ?_)) 
            obtain ⟨y7, hy7, h⟩ := bnd h
            refine g_op rfl (o_callR [3003, 3001] [(_, _), (_, _)] (core_value rfl rfl) (m_laws_eqStringS_ok k y5.1 y1.1 _ hy7) ⟨⟨_, rfl, .osl (FrzLL.map fun _ _ => encS_frz _)⟩, ⟨⟨_, rfl, .osl (FrzLL.map fun _ _ => encS_frz _)⟩, trivial⟩⟩ (.cons (.frz _ _ _ (.head _)) (.cons (.frz _ _ _ (.tail _ (.head _))) (.nil))) (.inr (.bool _)) rfl ?_)
            refine g_op rfl (ValOk.op (v_not rfl rfl ?_)) 
            refine g_op rfl (ValOk.op (v_move rfl rfl ?_)) 
            rcases bsplit ((!y7)) with hg1 | hg1
            · replace h := bF h (nT hg1)
              refine g_no rfl rfl hg1 rfl ?_
              refine g_no rfl rfl hg1 rfl ?_
              refine g_no rfl rfl hg1 rfl ?_
              refine g_op rfl (ValOk.op (v_pickT rfl hg1 rfl rfl ?_)) 
              refine g_nil ?_
              exact hw2 true (Option.some.inj h).symm _ (le_w [some 3002] rfl ⟨⟨_, rfl, .refl _⟩, ⟨⟨_, rfl, .refl _⟩, ⟨⟨_, rfl, .refl _⟩, ⟨⟨_, rfl, .refl _⟩, trivial⟩⟩⟩⟩ ⟨⟨_, rfl, .refl _⟩, trivial⟩ (by decide))
            · replace h := ifT h (nF hg1)
              refine g_yes rfl rfl hg1 (ValOk.op (v_move rfl rfl ?_)) 
              refine g_yes rfl rfl hg1 (ValOk.op (v_move rfl rfl ?_)) 
              refine g_yes rfl rfl hg1 (ValOk.op (v_binT tabOk (r := .bool (!decide (y5.2 = y1.2))) rfl rfl (by simp [binT, eqr]) rfl ?_)) 
              refine g_op rfl (ValOk.op (v_pickF rfl hg1 rfl rfl ?_)) 
              refine g_nil ?_
              exact hw2 (!(decide (y5.2 = y1.2))) (Option.some.inj h).symm _ (le_w [some 3002] rfl ⟨⟨_, rfl, .refl _⟩, ⟨⟨_, rfl, .refl _⟩, ⟨⟨_, rfl, .refl _⟩, ⟨⟨_, rfl, .refl _⟩, trivial⟩⟩⟩⟩ ⟨⟨_, rfl, .refl _⟩, trivial⟩ (by decide))
    replace h := ho1
    refine good_region ?_
    refine g_op rfl (ValOk.op (v_move rfl rfl ?_)) 
    refine g_op rfl (ValOk.op (v_move rfl rfl ?_)) 
    obtain ⟨y8, hy8, h⟩ := bnd h
    refine g_op rfl (o_callR [3002, 3001] [(_, _), (_, _)] (core_value rfl rfl) (m_laws_eqStringS_ok k y2.1 y1.1 _ hy8) ⟨⟨_, rfl, .osl (FrzLL.map fun _ _ => encS_frz _)⟩, ⟨⟨_, rfl, .osl (FrzLL.map fun _ _ => encS_frz _)⟩, trivial⟩⟩ (.cons (.frz _ _ _ (.head _)) (.cons (.frz _ _ _ (.tail _ (.head _))) (.nil))) (.inr (.bool _)) rfl ?_)
    refine g_op rfl (ValOk.op (v_not rfl rfl ?_)) 
    refine g_op rfl (ValOk.op (v_move rfl rfl ?_)) 
    rcases bsplit ((!y8)) with hg2 | hg2
    · replace h := bF h (nT hg2)
      refine g_no rfl rfl hg2 rfl ?_
      refine g_no rfl rfl hg2 rfl ?_
      refine g_no rfl rfl hg2 rfl ?_
      refine g_op rfl (ValOk.op (v_pickT rfl hg2 rfl rfl ?_)) 
      refine g_nil ?_
      exact hw1 true (Option.some.inj h).symm _ (le_w [some 3001, some 3002] rfl ⟨⟨_, rfl, .refl _⟩, ⟨⟨_, rfl, .refl _⟩, ⟨⟨_, rfl, .refl _⟩, ⟨⟨_, rfl, .refl _⟩, ⟨⟨_, rfl, .refl _⟩, ⟨⟨_, rfl, .refl _⟩, trivial⟩⟩⟩⟩⟩⟩ ⟨⟨_, rfl, .refl _⟩, ⟨⟨_, rfl, .refl _⟩, trivial⟩⟩ (by decide))
    · replace h := ifT h (nF hg2)
      refine g_yes rfl rfl hg2 (ValOk.op (v_move rfl rfl ?_)) 
      refine g_yes rfl rfl hg2 (ValOk.op (v_move rfl rfl ?_)) 
      refine g_yes rfl rfl hg2 (ValOk.op (v_binT tabOk (r := .bool (!decide (y2.2 = y1.2))) rfl rfl (by simp [binT, eqr]) rfl ?_)) 
      refine g_op rfl (ValOk.op (v_pickF rfl hg2 rfl rfl ?_)) 
      refine g_nil ?_
      exact hw1 (!(decide (y2.2 = y1.2))) (Option.some.inj h).symm _ (le_w [some 3001, some 3002] rfl ⟨⟨_, rfl, .refl _⟩, ⟨⟨_, rfl, .refl _⟩, ⟨⟨_, rfl, .refl _⟩, ⟨⟨_, rfl, .refl _⟩, ⟨⟨_, rfl, .refl _⟩, ⟨⟨_, rfl, .refl _⟩, trivial⟩⟩⟩⟩⟩⟩ ⟨⟨_, rfl, .refl _⟩, ⟨⟨_, rfl, .refl _⟩, trivial⟩⟩ (by decide))
end Go.Proofs.YtopbbjoflopjbaaDoor
