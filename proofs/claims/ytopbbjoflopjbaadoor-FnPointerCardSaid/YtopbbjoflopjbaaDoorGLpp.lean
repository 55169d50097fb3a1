/- What functions of this program answer, as plain functions; each theorem says that the code comes to just that. -/
import Derived.Test.YtopbbjoflopjbaaDoorDat
import Derived.Test.YtopbbjoflopjbaaDoorB13
import Derived.Test.YtopbbjoflopjbaaDoorDatO
import Derived.Test.YtopbbjoflopjbaaDoorB18
import Derived.Test.YtopbbjoflopjbaaDoorB20
import Derived.Test.YtopbbjoflopjbaaDoorGsp
import Derived.Test.YtopbbjoflopjbaaDoorGpi
import Derived.Test.YtopbbjoflopjbaaDoorGpg
import Derived.Test.YtopbbjoflopjbaaDoorGpd
/-! Functions of the program. -/
set_option linter.unusedVariables false
set_option maxRecDepth 100000
set_option maxHeartbeats 20000000
namespace Go.Proofs.YtopbbjoflopjbaaDoor
open Go.Bb
def m_laws_FnPointer (k : Nat) (a0 : (List Int)) (a1 : (List Int)) : Option Bool :=
  (if 1048576 < (a0.length : Int) then
      some (Lp.go true)
    else
      some (Lp.go (decide (1048576 < (a1.length : Int))))).bind fun o1 =>
  o1.then fun s1 =>
    if s1 = true then
      some true
    else
      (m_spec_DrawPointerText k a0).bind fun y1 =>
      (m_impl_PointerText k y1).bind fun y2 =>
      (m_impl_PointerGet k y2).bind fun y3 =>
      ((m_spec_PointerText k y1).bind fun y9 =>
        if y2 = y9 then
          if y3.2 = true then
            (m_laws_pgTexts k y3.1 y1).bind fun y10 =>
            some (Lp.go (!y10))
          else
            some (Lp.go true)
        else
          some (Lp.go true)).bind fun o2 =>
      o2.then fun s2 =>
    if s2 = true then
      some false
    else
      (m_spec_DrawPointerGet a1).bind fun y4 =>
      (m_impl_PointerGet k y4).bind fun y5 =>
      (m_spec_PointerGet k y4).bind fun y6 =>
      if y5.2 = y6.2 then
        (m_laws_pgTexts k y5.1 y6.1).bind fun y7 =>
        if y7 = true then
          if y5.2 = true then
            (m_impl_PointerText k y5.1).bind fun y8 =>
            some (decide (y8 = y4))
          else
            some true
        else
          some false
      else
        some false
theorem m_laws_FnPointer_ok (k : Nat) : ∀ (a0 : (List Int)) (a1 : (List Int)) (r : Bool), m_laws_FnPointer k a0 a1 = some r → Does Tryd.prog 5 [.sl false (a0.map (encI .u8)), .sl false (a1.map (encI .u8))] [] (ret (.bool r)) := by
  intro a0 a1 r h
  rw [m_laws_FnPointer] at h
  refine does_of_good tabOk Tryd.func5 rfl (by decide +kernel) (Nat.le_of_ble_eq_true rfl) fun c => ?_
  refine Good.le (σ' := ⟨75, [(0, .sl false (a0.map (encI .u8))), (1, .sl false (a1.map (encI .u8)))], []⟩) (Le.refl _) ?_
  refine good_seq fun K1 hK1 => ?_
  refine good_region ?_
  refine g_op rfl (ValOk.op (v_assign rfl rfl ?_)) 
  refine g_nil ?_
  refine hK1 _ ?_
  refine good_seq fun K2 hK2 => ?_
  refine good_seq fun K3 hK3 => ?_
  obtain ⟨o1, ho1, hJ1⟩ := bnd h
  have hw1 : ∀ (s1 : Bool), o1 = Lp.go s1 → ∀ σ', Le σ' ⟨75, [(0, .sl false (a0.map (encI .u8))), (1, .sl false (a1.map (encI .u8))), (4, .bool false), (21, .bool s1)], []⟩ → K3 σ' := by
    intro s1 e1 σ' hle1
    subst e1
    refine hK3 _ (Good.le hle1 ?_)
    replace h := hJ1
    refine good_cond rfl (fun hc1 => ?_) (fun hc1 => ?_)
    · replace h := ifT h hc1
      refine good_seq fun K4 hK4 => ?_
      refine good_region ?_
      refine g_op rfl (ValOk.op (v_assign rfl rfl ?_)) 
      refine g_nil ?_
      refine hK4 _ ?_
      refine Good.le (σ' := ⟨75, [(0, _), (1, _), (4, _)], []⟩) (le_w [] rfl ⟨⟨_, rfl, .refl _⟩, ⟨⟨_, rfl, .refl _⟩, ⟨⟨_, rfl, .refl _⟩, trivial⟩⟩⟩ trivial (by decide)) ?_
      refine Good.le (σ' := ⟨75, [(4, .bool true)], []⟩) (le_w [] rfl ⟨⟨_, rfl, .refl _⟩, trivial⟩ trivial (by decide)) ?_
      refine good_ret ?_
      obtain rfl := Option.some.inj h
      refine thenQ_ret ?_
      exact endQ_ret (h' := []) [] (.tmp rfl (.nil)) trivial (by decide) ⟨rfl, rfl⟩
    · replace h := bF h hc1
      refine good_skip ?_
      refine hK2 _ ?_
      refine Good.le (σ' := ⟨75, [(0, _), (1, _), (4, _)], []⟩) (le_w [] rfl ⟨⟨_, rfl, .refl _⟩, ⟨⟨_, rfl, .refl _⟩, ⟨⟨_, rfl, .refl _⟩, trivial⟩⟩⟩ trivial (by decide)) ?_
      refine good_seq fun K5 hK5 => ?_
      refine good_region ?_
      refine g_op rfl (ValOk.op (v_move rfl rfl ?_)) 
      obtain ⟨y1, hy1, h⟩ := bnd h
      refine g_op rfl (o_callR [] [] (core_value rfl rfl) (m_spec_DrawPointerText_okF k a0 _ hy1) trivial (.cons (.refl _) (.nil)) (.inl rfl) rfl ?_)
      refine g_op rfl (ValOk.op (v_assign rfl rfl ?_)) 
      refine g_nil ?_
      refine hK5 _ ?_
      refine Good.le (σ' := ⟨75, [(1, _), (4, _), (5, _)], []⟩) (le_w [] rfl ⟨⟨_, rfl, .refl _⟩, ⟨⟨_, rfl, .refl _⟩, ⟨⟨_, rfl, .refl _⟩, trivial⟩⟩⟩ trivial (by decide)) ?_
      refine good_seq fun K6 hK6 => ?_
      refine good_region ?_
      refine g_op rfl (ValOk.op (v_move rfl rfl ?_)) 
      obtain ⟨y2, hy2, h⟩ := bnd h
      refine g_op rfl (o_callR [] [] (core_value rfl rfl) (m_impl_PointerText_ok k y1 _ hy2) trivial (.cons (.refl _) (.nil)) (.inl rfl) rfl ?_)
      refine g_op rfl (ValOk.op (v_assign rfl rfl ?_)) 
      refine g_nil ?_
      refine hK6 _ ?_
      refine Good.le (σ' := ⟨75, [(1, _), (4, _), (5, _), (6, _)], []⟩) (le_w [] rfl ⟨⟨_, rfl, .refl _⟩, ⟨⟨_, rfl, .refl _⟩, ⟨⟨_, rfl, .refl _⟩, ⟨⟨_, rfl, .refl _⟩, trivial⟩⟩⟩⟩ trivial (by decide)) ?_
      refine good_seq fun K7 hK7 => ?_
      refine good_region ?_
      refine g_op rfl (ValOk.op (v_move rfl rfl ?_)) 
      obtain ⟨y3, hy3, h⟩ := bnd h
      refine g_op rfl (o_callR [] [] (core_value rfl rfl) (m_impl_PointerGet_okF k y2 _ hy3) trivial (.cons (.refl _) (.nil)) (.inl rfl) rfl ?_)
      refine g_op rfl (ValOk.op (v_move rfl rfl ?_)) 
      refine g_op rfl (ValOk.op (v_extract rfl rfl rfl ?_)) 
      refine g_op rfl (ValOk.op (v_extract rfl rfl rfl ?_)) 
      refine g_op rfl (ValOk.op (v_assign rfl rfl ?_)) 
      refine g_op rfl (ValOk.op (v_assign rfl rfl ?_)) 
      refine g_nil ?_
      refine hK7 _ ?_
      refine Good.le (σ' := ⟨75, [(1, _), (4, _), (5, _), (6, _), (7, _), (8, _)], []⟩) (le_w [] rfl ⟨⟨_, rfl, .refl _⟩, ⟨⟨_, rfl, .refl _⟩, ⟨⟨_, rfl, .refl _⟩, ⟨⟨_, rfl, .refl _⟩, ⟨⟨_, rfl, .refl _⟩, ⟨⟨_, rfl, .refl _⟩, trivial⟩⟩⟩⟩⟩⟩ trivial (by decide)) ?_
      refine good_seq fun K8 hK8 => ?_
      refine good_seq fun K9 hK9 => ?_
      obtain ⟨o2, ho2, hJ2⟩ := bnd h
      have hw2 : ∀ (s2 : Bool), o2 = Lp.go s2 → ∀ σ', Le σ' ⟨75, [(1, .sl false (a1.map (encI .u8))), (4, .bool false), (44, .bool s2)], []⟩ → K9 σ' := by
        intro s2 e2 σ' hle2
        subst e2
        refine hK9 _ (Good.le hle2 ?_)
        replace h := hJ2
        refine good_cond rfl (fun hc2 => ?_) (fun hc2 => ?_)
        · replace h := ifT h hc2
          refine good_seq fun K10 hK10 => ?_
          refine good_region ?_
          refine g_op rfl (ValOk.op (v_assign rfl rfl ?_)) 
          refine g_nil ?_
          refine hK10 _ ?_
          refine Good.le (σ' := ⟨75, [(1, _), (4, _)], []⟩) (le_w [] rfl ⟨⟨_, rfl, .refl _⟩, ⟨⟨_, rfl, .refl _⟩, trivial⟩⟩ trivial (by decide)) ?_
          refine Good.le (σ' := ⟨75, [(4, .bool false)], []⟩) (le_w [] rfl ⟨⟨_, rfl, .refl _⟩, trivial⟩ trivial (by decide)) ?_
          refine good_ret ?_
          obtain rfl := Option.some.inj h
          refine thenQ_ret ?_
          exact endQ_ret (h' := []) [] (.tmp rfl (.nil)) trivial (by decide) ⟨rfl, rfl⟩
        · replace h := bF h hc2
          refine good_skip ?_
          refine hK8 _ ?_
          refine Good.le (σ' := ⟨75, [(1, _), (4, _)], []⟩) (le_w [] rfl ⟨⟨_, rfl, .refl _⟩, ⟨⟨_, rfl, .refl _⟩, trivial⟩⟩ trivial (by decide)) ?_
          refine good_seq fun K11 hK11 => ?_
          refine good_region ?_
          refine g_op rfl (ValOk.op (v_move rfl rfl ?_)) 
          obtain ⟨y4, hy4, h⟩ := bnd h
          refine g_op rfl (o_callR [] [] (core_value rfl rfl) (m_spec_DrawPointerGet_ok a1 _ hy4) trivial (.cons (.refl _) (.nil)) (.inl rfl) rfl ?_)
          refine g_op rfl (ValOk.op (v_assign rfl rfl ?_)) 
          refine g_nil ?_
          refine hK11 _ ?_
          refine Good.le (σ' := ⟨75, [(4, _), (9, _)], []⟩) (le_w [] rfl ⟨⟨_, rfl, .refl _⟩, ⟨⟨_, rfl, .refl _⟩, trivial⟩⟩ trivial (by decide)) ?_
          refine good_seq fun K12 hK12 => ?_
          refine good_region ?_
          refine g_op rfl (ValOk.op (v_move rfl rfl ?_)) 
          obtain ⟨y5, hy5, h⟩ := bnd h
          refine g_op rfl (o_callR [] [] (core_value rfl rfl) (m_impl_PointerGet_okF k y4 _ hy5) trivial (.cons (.refl _) (.nil)) (.inl rfl) rfl ?_)
          refine g_op rfl (ValOk.op (v_move rfl rfl ?_)) 
          refine g_op rfl (ValOk.op (v_extract rfl rfl rfl ?_)) 
          refine g_op rfl (ValOk.op (v_extract rfl rfl rfl ?_)) 
          refine g_op rfl (ValOk.op (v_assign rfl rfl ?_)) 
          refine g_op rfl (ValOk.op (v_assign rfl rfl ?_)) 
          refine g_nil ?_
          refine hK12 _ ?_
          refine Good.le (σ' := ⟨75, [(4, _), (9, _), (10, _), (11, _)], []⟩) (le_w [] rfl ⟨⟨_, rfl, .refl _⟩, ⟨⟨_, rfl, .refl _⟩, ⟨⟨_, rfl, .refl _⟩, ⟨⟨_, rfl, .refl _⟩, trivial⟩⟩⟩⟩ trivial (by decide)) ?_
          refine good_seq fun K13 hK13 => ?_
          refine good_region ?_
          refine g_op rfl (ValOk.op (v_move rfl rfl ?_)) 
          obtain ⟨y6, hy6, h⟩ := bnd h
          refine g_op rfl (o_callR [] [] (core_value rfl rfl) (m_spec_PointerGet_okF k y4 _ hy6) trivial (.cons (.refl _) (.nil)) (.inl rfl) rfl ?_)
          refine g_op rfl (ValOk.op (v_move rfl rfl ?_)) 
          refine g_op rfl (ValOk.op (v_extract rfl rfl rfl ?_)) 
          refine g_op rfl (ValOk.op (v_extract rfl rfl rfl ?_)) 
          refine g_op rfl (ValOk.op (v_assign rfl rfl ?_)) 
          refine g_op rfl (ValOk.op (v_assign rfl rfl ?_)) 
          refine g_nil ?_
          refine hK13 _ ?_
          refine Good.le (σ' := ⟨75, [(4, _), (9, _), (10, _), (11, _), (12, _), (13, _)], []⟩) (le_w [] rfl ⟨⟨_, rfl, .refl _⟩, ⟨⟨_, rfl, .refl _⟩, ⟨⟨_, rfl, .refl _⟩, ⟨⟨_, rfl, .refl _⟩, ⟨⟨_, rfl, .refl _⟩, ⟨⟨_, rfl, .refl _⟩, trivial⟩⟩⟩⟩⟩⟩ trivial (by decide)) ?_
          refine good_seq fun K14 hK14 => ?_
          refine good_region ?_
          refine g_op rfl (ValOk.op (v_move rfl rfl ?_)) 
          refine g_op rfl (ValOk.op (v_move rfl rfl ?_)) 
          refine g_op rfl (ValOk.op (v_binT tabOk (r := .bool (decide (y5.2 = y6.2))) rfl rfl (by simp [binT, eqr]) rfl ?_)) 
          refine g_op rfl (ValOk.op (v_move rfl rfl ?_)) 
          rcases bsplit ((decide (y5.2 = y6.2))) with hg1 | hg1
          · replace h := ifT h (dT hg1)
            refine g_yes rfl rfl hg1 (ValOk.op (v_move rfl rfl ?_)) 
            refine g_yes rfl rfl hg1 (ValOk.op (v_move rfl rfl ?_)) 
            obtain ⟨y7, hy7, h⟩ := bnd h
            refine g_yes rfl rfl hg1 (o_callR [] [] (core_value rfl rfl) (m_laws_pgTexts_ok k y5.1 y6.1 _ hy7) trivial (.cons (.refl _) (.cons (.refl _) (.nil))) (.inl rfl) rfl ?_)
            refine g_op rfl (ValOk.op (v_pickT rfl hg1 rfl rfl ?_)) 
            refine g_op rfl (ValOk.op (v_move rfl rfl ?_)) 
            rcases bsplit (y7) with hg2 | hg2
            · replace h := ifT h hg2
              refine g_yes rfl rfl hg2 (ValOk.op (v_move rfl rfl ?_)) 
              refine g_yes rfl rfl hg2 (ValOk.op (v_not rfl rfl ?_)) 
              refine g_yes rfl rfl hg2 (ValOk.op (v_move rfl rfl ?_)) 
              rcases bsplit ((!y5.2)) with hg3 | hg3
              · replace h := bF h (nT hg3)
                refine g_no rfl rfl hg3 rfl ?_
                refine g_no rfl rfl hg3 rfl ?_
                refine g_no rfl rfl hg3 rfl ?_
                refine g_no rfl rfl hg3 rfl ?_
                refine g_yes rfl rfl hg2 (ValOk.op (v_pickT rfl hg3 rfl rfl ?_)) 
                refine g_op rfl (ValOk.op (v_pickT rfl hg2 rfl rfl ?_)) 
                refine g_op rfl (ValOk.op (v_assign rfl rfl ?_)) 
                refine g_nil ?_
                refine hK14 _ ?_
                refine Good.le (σ' := ⟨75, [(4, _)], []⟩) (le_w [] rfl ⟨⟨_, rfl, .refl _⟩, trivial⟩ trivial (by decide)) ?_
                refine Good.le (σ' := ⟨75, [(4, .bool true)], []⟩) (le_w [] rfl ⟨⟨_, rfl, .refl _⟩, trivial⟩ trivial (by decide)) ?_
                refine good_ret ?_
                obtain rfl := Option.some.inj h
                exact endQ_ret (h' := []) [] (.tmp rfl (.nil)) trivial (by decide) ⟨rfl, rfl⟩
              · replace h := ifT h (nF hg3)
                refine g_yes rfl rfl hg3 (ValOk.op (v_move rfl rfl ?_)) 
                obtain ⟨y8, hy8, h⟩ := bnd h
                refine g_yes rfl rfl hg3 (o_callR [] [] (core_value rfl rfl) (m_impl_PointerText_ok k y5.1 _ hy8) trivial (.cons (.refl _) (.nil)) (.inl rfl) rfl ?_)
                refine g_yes rfl rfl hg3 (ValOk.op (v_move rfl rfl ?_)) 
                refine g_yes rfl rfl hg3 (ValOk.op (v_bin rfl rfl rfl rfl ?_)) 
                refine g_yes rfl rfl hg2 (ValOk.op (v_pickF rfl hg3 rfl rfl ?_)) 
                refine g_op rfl (ValOk.op (v_pickT rfl hg2 rfl rfl ?_)) 
                refine g_op rfl (ValOk.op (v_assign rfl rfl ?_)) 
                refine g_nil ?_
                refine hK14 _ ?_
                refine Good.le (σ' := ⟨75, [(4, _)], []⟩) (le_w [] rfl ⟨⟨_, rfl, .refl _⟩, trivial⟩ trivial (by decide)) ?_
                refine Good.le (σ' := ⟨75, [(4, .bool (decide (y8 = y4)))], []⟩) (le_w [] rfl ⟨⟨_, rfl, .refl _⟩, trivial⟩ trivial (by decide)) ?_
                refine good_ret ?_
                obtain rfl := Option.some.inj h
                exact endQ_ret (h' := []) [] (.tmp rfl (.nil)) trivial (by decide) ⟨rfl, rfl⟩
            · replace h := bF h hg2
              refine g_no rfl rfl hg2 rfl ?_
              refine g_no rfl rfl hg2 rfl ?_
              refine g_no rfl rfl hg2 rfl ?_
              refine g_und rfl rfl rfl ?_
              refine g_und rfl rfl rfl ?_
              refine g_und rfl rfl rfl ?_
              refine g_und rfl rfl rfl ?_
              refine g_no rfl rfl hg2 rfl ?_
              refine g_op rfl (ValOk.op (v_pickF rfl hg2 rfl rfl ?_)) 
              refine g_op rfl (ValOk.op (v_assign rfl rfl ?_)) 
              refine g_nil ?_
              refine hK14 _ ?_
              refine Good.le (σ' := ⟨75, [(4, _)], []⟩) (le_w [] rfl ⟨⟨_, rfl, .refl _⟩, trivial⟩ trivial (by decide)) ?_
              refine Good.le (σ' := ⟨75, [(4, .bool false)], []⟩) (le_w [] rfl ⟨⟨_, rfl, .refl _⟩, trivial⟩ trivial (by decide)) ?_
              refine good_ret ?_
              obtain rfl := Option.some.inj h
              exact endQ_ret (h' := []) [] (.tmp rfl (.nil)) trivial (by decide) ⟨rfl, rfl⟩
          · replace h := ifF h (dF hg1)
            refine g_no rfl rfl hg1 rfl ?_
            refine g_no rfl rfl hg1 rfl ?_
            refine g_no rfl rfl hg1 rfl ?_
            refine g_op rfl (ValOk.op (v_pickF rfl hg1 rfl rfl ?_)) 
            refine g_op rfl (ValOk.op (v_move rfl rfl ?_)) 
            refine g_no rfl rfl rfl rfl ?_
            refine g_no rfl rfl rfl rfl ?_
            refine g_no rfl rfl rfl rfl ?_
            refine g_und rfl rfl rfl ?_
            refine g_und rfl rfl rfl ?_
            refine g_und rfl rfl rfl ?_
            refine g_und rfl rfl rfl ?_
            refine g_no rfl rfl rfl rfl ?_
            refine g_op rfl (ValOk.op (v_pickF rfl rfl rfl rfl ?_)) 
            refine g_op rfl (ValOk.op (v_assign rfl rfl ?_)) 
            refine g_nil ?_
            refine hK14 _ ?_
            refine Good.le (σ' := ⟨75, [(4, _)], []⟩) (le_w [] rfl ⟨⟨_, rfl, .refl _⟩, trivial⟩ trivial (by decide)) ?_
            refine Good.le (σ' := ⟨75, [(4, .bool false)], []⟩) (le_w [] rfl ⟨⟨_, rfl, .refl _⟩, trivial⟩ trivial (by decide)) ?_
            refine good_ret ?_
            obtain rfl := Option.some.inj h
            exact endQ_ret (h' := []) [] (.tmp rfl (.nil)) trivial (by decide) ⟨rfl, rfl⟩
      replace h := ho2
      refine good_region ?_
      refine g_op rfl (ValOk.op (v_move rfl rfl ?_)) 
      refine g_op rfl (ValOk.op (v_move rfl rfl ?_)) 
      obtain ⟨y9, hy9, h⟩ := bnd h
      refine g_op rfl (o_callR [] [] (core_value rfl rfl) (m_spec_PointerText_ok k y1 _ hy9) trivial (.cons (.refl _) (.nil)) (.inl rfl) rfl ?_)
      refine g_op rfl (ValOk.op (v_bin rfl rfl rfl rfl ?_)) 
      refine g_op rfl (ValOk.op (v_move rfl rfl ?_)) 
      rcases bsplit ((!(decide (y2 = y9)))) with hg4 | hg4
      · replace h := ifF h (ndT hg4)
        refine g_no rfl rfl hg4 rfl ?_
        refine g_no rfl rfl hg4 rfl ?_
        refine g_op rfl (ValOk.op (v_pickT rfl hg4 rfl rfl ?_)) 
        refine g_op rfl (ValOk.op (v_move rfl rfl ?_)) 
        refine g_no rfl rfl rfl rfl ?_
        refine g_no rfl rfl rfl rfl ?_
        refine g_no rfl rfl rfl rfl ?_
        refine g_no rfl rfl rfl rfl ?_
        refine g_op rfl (ValOk.op (v_pickT rfl rfl rfl rfl ?_)) 
        refine g_nil ?_
        exact hw2 true (Option.some.inj h).symm _ (le_w [] rfl ⟨⟨_, rfl, .refl _⟩, ⟨⟨_, rfl, .refl _⟩, ⟨⟨_, rfl, .refl _⟩, trivial⟩⟩⟩ trivial (by decide))
      · replace h := ifT h (ndF hg4)
        refine g_yes rfl rfl hg4 (ValOk.op (v_move rfl rfl ?_)) 
        refine g_yes rfl rfl hg4 (ValOk.op (v_not rfl rfl ?_)) 
        refine g_op rfl (ValOk.op (v_pickF rfl hg4 rfl rfl ?_)) 
        refine g_op rfl (ValOk.op (v_move rfl rfl ?_)) 
        rcases bsplit ((!y3.2)) with hg5 | hg5
        · replace h := bF h (nT hg5)
          refine g_no rfl rfl hg5 rfl ?_
          refine g_no rfl rfl hg5 rfl ?_
          refine g_no rfl rfl hg5 rfl ?_
          refine g_no rfl rfl hg5 rfl ?_
          refine g_op rfl (ValOk.op (v_pickT rfl hg5 rfl rfl ?_)) 
          refine g_nil ?_
          exact hw2 true (Option.some.inj h).symm _ (le_w [] rfl ⟨⟨_, rfl, .refl _⟩, ⟨⟨_, rfl, .refl _⟩, ⟨⟨_, rfl, .refl _⟩, trivial⟩⟩⟩ trivial (by decide))
        · replace h := ifT h (nF hg5)
          refine g_yes rfl rfl hg5 (ValOk.op (v_move rfl rfl ?_)) 
          refine g_yes rfl rfl hg5 (ValOk.op (v_move rfl rfl ?_)) 
          obtain ⟨y10, hy10, h⟩ := bnd h
          refine g_yes rfl rfl hg5 (o_callR [] [] (core_value rfl rfl) (m_laws_pgTexts_ok k y3.1 y1 _ hy10) trivial (.cons (.refl _) (.cons (.refl _) (.nil))) (.inl rfl) rfl ?_)
          refine g_yes rfl rfl hg5 (ValOk.op (v_not rfl rfl ?_)) 
          refine g_op rfl (ValOk.op (v_pickF rfl hg5 rfl rfl ?_)) 
          refine g_nil ?_
          exact hw2 (!y10) (Option.some.inj h).symm _ (le_w [] rfl ⟨⟨_, rfl, .refl _⟩, ⟨⟨_, rfl, .refl _⟩, ⟨⟨_, rfl, .refl _⟩, trivial⟩⟩⟩ trivial (by decide))
  replace h := ho1
  refine good_region ?_
  refine g_op rfl (ValOk.op (v_move rfl rfl ?_)) 
  refine g_op rfl (ValOk.op (v_lenM (l := a0) (f := (encI .u8)) tabOk rfl rfl telem30 rfl ?_)) 
  refine g_op rfl (ValOk.op (v_bin rfl rfl rfl rfl ?_)) 
  refine g_op rfl (ValOk.op (v_move rfl rfl ?_)) 
  rcases bsplit ((decide (1048576 < (a0.length : Int)))) with hg6 | hg6
  · replace h := ifT h (dT hg6)
    refine g_no rfl rfl hg6 rfl ?_
    refine g_no rfl rfl hg6 rfl ?_
    refine g_no rfl rfl hg6 rfl ?_
    refine g_op rfl (ValOk.op (v_pickT rfl hg6 rfl rfl ?_)) 
    refine g_nil ?_
    exact hw1 true (Option.some.inj h).symm _ (le_w [] rfl ⟨⟨_, rfl, .refl _⟩, ⟨⟨_, rfl, .refl _⟩, ⟨⟨_, rfl, .refl _⟩, ⟨⟨_, rfl, .refl _⟩, trivial⟩⟩⟩⟩ trivial (by decide))
  · replace h := ifF h (dF hg6)
    refine g_yes rfl rfl hg6 (ValOk.op (v_move rfl rfl ?_)) 
    refine g_yes rfl rfl hg6 (ValOk.op (v_lenM (l := a1) (f := (encI .u8)) tabOk rfl rfl telem30 rfl ?_)) 
    refine g_yes rfl rfl hg6 (ValOk.op (v_bin rfl rfl rfl rfl ?_)) 
    refine g_op rfl (ValOk.op (v_pickF rfl hg6 rfl rfl ?_)) 
    refine g_nil ?_
    exact hw1 (decide (1048576 < (a1.length : Int))) (Option.some.inj h).symm _ (le_w [] rfl ⟨⟨_, rfl, .refl _⟩, ⟨⟨_, rfl, .refl _⟩, ⟨⟨_, rfl, .refl _⟩, ⟨⟨_, rfl, .refl _⟩, trivial⟩⟩⟩⟩ trivial (by decide))
end Go.Proofs.YtopbbjoflopjbaaDoor
