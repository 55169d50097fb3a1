/- What functions of this program answer, as plain functions; each theorem says that the code comes to just that. -/
import Derived.Test.YtiaigcdckmpepaaDat
import Derived.Test.YtiaigcdckmpepaaB13
import Derived.Test.YtiaigcdckmpepaaDatO
import Derived.Test.YtiaigcdckmpepaaB26
import Derived.Test.YtiaigcdckmpepaaGv
import Derived.Test.YtiaigcdckmpepaaGnm
import Derived.Test.YtiaigcdckmpepaaGok
import Derived.Test.YtiaigcdckmpepaaGcw
import Derived.Test.YtiaigcdckmpepaaGMk
import Derived.Test.YtiaigcdckmpepaaGtr
/-! Functions of the program. -/
set_option linter.unusedVariables false
set_option linter.unnecessarySimpa false
set_option maxRecDepth 100000
set_option maxHeartbeats 20000000
noncomputable section
namespace Go.Proofs.Ytiaigcdckmpepaa
open Go.Bb
def m_laws_FnExactTreeGet (k : Nat) (a0 : Val) (a1 : Bs) : Option Bool :=
  if 1048576 < (a1.length : Int) then
    some true
  else
    (m_laws_szValue k a0 1048576).bind fun y1 =>
    if y1 < 0 then
      some true
    else
      (m_laws_toValue k a0).bind fun y2 =>
      (m_spec_TreeGet k y2 a1).bind fun y3 =>
      (m_laws_toValue k a0).bind fun y4 =>
      (m_impl_TreeGet k y4 a1).bind fun y5 =>
      ((m_laws_eqValue k y5.1 y3.1).bind fun y16 =>
        if y16 = true then
          some (Lp.go (!(decide (y5.2 = y3.2))))
        else
          some (Lp.go true)).bind fun o1 =>
      o1.then fun s1 =>
    if s1 = true then
      some false
    else
      (m_laws_toValue k a0).bind fun y6 =>
      (m_laws_eqValue k y4 y6).bind fun y7 =>
      if y7 = true then
        (m_laws_markValue k y4 1).bind fun y8 =>
        (if y8.1 < 0 then
            some (Lp.go true)
          else
            (m_laws_eqValue k y5.1 y3.1).bind fun y15 =>
            if y15 = true then
              some (Lp.go (!(decide (y5.2 = y3.2))))
            else
              some (Lp.go true)).bind fun o2 =>
        o2.then fun s2 =>
    if s2 = true then
      some false
    else
      (m_laws_markValue k y5.1 1).bind fun y9 =>
      (m_laws_heldValue k (Val.mk y5.1.kind y5.1.num y5.1.text y9.2.1 y9.2.2) 1).bind fun y10 =>
      if y10 < 0 then
        some false
      else
        if y10 = y9.1 then
          (m_laws_toValue k a0).bind fun y11 =>
          (m_impl_TreeGet k y11 a1).bind fun y12 =>
          ((m_laws_eqValue k y12.1 y3.1).bind fun y14 =>
            if y14 = true then
              some (Lp.go (!(decide (y12.2 = y3.2))))
            else
              some (Lp.go true)).bind fun o3 =>
          o3.then fun s3 =>
    if s3 = true then
      some false
    else
      (m_laws_heldValue k (Val.mk y5.1.kind y5.1.num y5.1.text y9.2.1 y9.2.2) 1).bind fun y13 =>
      if y13 < 0 then
        some false
      else
        if y13 = y9.1 then
          some true
        else
          some false
        else
          some false
      else
        some false
theorem m_laws_FnExactTreeGet_ok (k : Nat) : ∀ (a0 : Val) (a1 : Bs) (r : Bool), m_laws_FnExactTreeGet k a0 a1 = some r → Does Try.prog 5 [.agg [.int .i64 a0.kind, .int .i64 a0.num, .str a0.text, .sl false (a0.list.map encLVal), .sl false (a0.names.map encS)], .str a1] [] (ret (.bool r)) := by
  intro a0 a1 r h
  rw [m_laws_FnExactTreeGet] at h
  refine does_of_good tabOk Try.func5 rfl (by decide +kernel) (Nat.le_of_ble_eq_true rfl) fun c => ?_
  refine Good.le (σ' := ⟨104, [(0, .agg [.int .i64 a0.kind, .int .i64 a0.num, .str a0.text, .sl false (a0.list.map encLVal), .sl false (a0.names.map encS)]), (1, .str a1)], []⟩) (Le.refl _) ?_
  refine good_seq fun K1 hK1 => ?_
  refine good_region ?_
  refine g_op rfl (o_box (k := 12) tabOk rfl rfl rfl rfl rfl ?_)
  intro b1
  refine g_op rfl (ValOk.op (v_assign rfl rfl ?_)) 
  refine g_nil ?_
  refine hK1 _ ?_
  refine Good.le (σ' := ⟨104, [(1, _), (2, _), (4, _)], [(12, (_, _))]⟩) (le_w [some 12] rfl ⟨⟨_, rfl, .refl _⟩, ⟨⟨_, rfl, .refl _⟩, ⟨⟨_, rfl, .refl _⟩, trivial⟩⟩⟩ ⟨⟨_, rfl, .refl _⟩, trivial⟩ (by decide)) ?_
  refine good_seq fun K2 hK2 => ?_
  refine good_seq fun K3 hK3 => ?_
  refine good_region ?_
  refine g_op rfl (ValOk.op (v_move rfl rfl ?_)) 
  refine g_op rfl (ValOk.op (v_lenS tabOk rfl rfl tkind9 rfl ?_)) 
  refine g_op rfl (ValOk.op (v_bin rfl rfl rfl rfl ?_)) 
  refine g_nil ?_
  refine hK3 _ ?_
  refine Good.le (σ' := ⟨104, [(1, _), (2, _), (4, _), (18, _)], [(12, (_, _))]⟩) (le_w [some 12] rfl ⟨⟨_, rfl, .refl _⟩, ⟨⟨_, rfl, .refl _⟩, ⟨⟨_, rfl, .refl _⟩, ⟨⟨_, rfl, .refl _⟩, trivial⟩⟩⟩⟩ ⟨⟨_, rfl, .refl _⟩, trivial⟩ (by decide)) ?_
  refine good_cond rfl (fun hc1 => ?_) (fun hc1 => ?_)
  · replace h := ifT h (dT hc1)
    refine good_seq fun K4 hK4 => ?_
    refine good_region ?_
    refine g_op rfl (ValOk.op (v_assign rfl rfl ?_)) 
    refine g_nil ?_
    refine hK4 _ ?_
    refine Good.le (σ' := ⟨104, [(1, _), (2, _), (4, _)], [(12, (_, _))]⟩) (le_w [some 12] rfl ⟨⟨_, rfl, .refl _⟩, ⟨⟨_, rfl, .refl _⟩, ⟨⟨_, rfl, .refl _⟩, trivial⟩⟩⟩ ⟨⟨_, rfl, .refl _⟩, trivial⟩ (by decide)) ?_
    refine Good.le (σ' := ⟨104, [(4, .bool true)], []⟩) (le_w [] rfl ⟨⟨_, rfl, .refl _⟩, trivial⟩ trivial (by decide)) ?_
    refine good_ret ?_
    obtain rfl := Option.some.inj h
    refine thenQ_ret ?_
    exact endQ_ret (h' := []) [] (.tmp rfl (.nil)) trivial (by decide) ⟨rfl, rfl⟩
  · replace h := ifF h (dF hc1)
    refine good_skip ?_
    refine hK2 _ ?_
    refine Good.le (σ' := ⟨104, [(1, _), (2, _), (4, _)], [(12, (_, _))]⟩) (le_w [some 12] rfl ⟨⟨_, rfl, .refl _⟩, ⟨⟨_, rfl, .refl _⟩, ⟨⟨_, rfl, .refl _⟩, trivial⟩⟩⟩ ⟨⟨_, rfl, .refl _⟩, trivial⟩ (by decide)) ?_
    refine good_seq fun K5 hK5 => ?_
    refine good_region ?_
    refine g_op rfl (ValOk.op (v_assign rfl rfl ?_)) 
    refine g_nil ?_
    refine hK5 _ ?_
    refine good_seq fun K6 hK6 => ?_
    refine good_region ?_
    refine g_op rfl (ValOk.op (v_loadP tabOk rfl rfl tsize25 tagg25 rfl rfl rfl rfl ?_)) 
    refine g_op rfl (ValOk.op (v_move rfl rfl ?_)) 
    obtain ⟨y1, hy1, h⟩ := bnd h
    refine g_op rfl (o_callR [] [] (core_value rfl rfl) (m_laws_szValue_ok k a0 1048576 _ hy1) trivial (.cons (.refl _) (.cons (.refl _) (.nil))) (.inl rfl) rfl ?_)
    refine g_op rfl (ValOk.op (v_assign rfl rfl ?_)) 
    refine g_nil ?_
    refine hK6 _ ?_
    refine Good.le (σ' := ⟨104, [(1, _), (2, _), (4, _), (5, _)], [(12, (_, _))]⟩) (le_w [some 12] rfl ⟨⟨_, rfl, .refl _⟩, ⟨⟨_, rfl, .refl _⟩, ⟨⟨_, rfl, .refl _⟩, ⟨⟨_, rfl, .refl _⟩, trivial⟩⟩⟩⟩ ⟨⟨_, rfl, .refl _⟩, trivial⟩ (by decide)) ?_
    refine good_seq fun K7 hK7 => ?_
    refine good_seq fun K8 hK8 => ?_
    refine good_region ?_
    refine g_op rfl (ValOk.op (v_move rfl rfl ?_)) 
    refine g_op rfl (ValOk.op (v_bin rfl rfl rfl rfl ?_)) 
    refine g_nil ?_
    refine hK8 _ ?_
    refine Good.le (σ' := ⟨104, [(1, _), (2, _), (4, _), (23, _)], [(12, (_, _))]⟩) (le_w [some 12] rfl ⟨⟨_, rfl, .refl _⟩, ⟨⟨_, rfl, .refl _⟩, ⟨⟨_, rfl, .refl _⟩, ⟨⟨_, rfl, .refl _⟩, trivial⟩⟩⟩⟩ ⟨⟨_, rfl, .refl _⟩, trivial⟩ (by decide)) ?_
    refine good_cond rfl (fun hc2 => ?_) (fun hc2 => ?_)
    · replace h := ifT h (dT hc2)
      refine good_seq fun K9 hK9 => ?_
      refine good_region ?_
      refine g_op rfl (ValOk.op (v_assign rfl rfl ?_)) 
      refine g_nil ?_
      refine hK9 _ ?_
      refine Good.le (σ' := ⟨104, [(1, _), (2, _), (4, _)], [(12, (_, _))]⟩) (le_w [some 12] rfl ⟨⟨_, rfl, .refl _⟩, ⟨⟨_, rfl, .refl _⟩, ⟨⟨_, rfl, .refl _⟩, trivial⟩⟩⟩ ⟨⟨_, rfl, .refl _⟩, trivial⟩ (by decide)) ?_
      refine Good.le (σ' := ⟨104, [(4, .bool true)], []⟩) (le_w [] rfl ⟨⟨_, rfl, .refl _⟩, trivial⟩ trivial (by decide)) ?_
      refine good_ret ?_
      obtain rfl := Option.some.inj h
      refine thenQ_ret ?_
      exact endQ_ret (h' := []) [] (.tmp rfl (.nil)) trivial (by decide) ⟨rfl, rfl⟩
    · replace h := ifF h (dF hc2)
      refine good_skip ?_
      refine hK7 _ ?_
      refine Good.le (σ' := ⟨104, [(1, _), (2, _), (4, _)], [(12, (_, _))]⟩) (le_w [some 12] rfl ⟨⟨_, rfl, .refl _⟩, ⟨⟨_, rfl, .refl _⟩, ⟨⟨_, rfl, .refl _⟩, trivial⟩⟩⟩ ⟨⟨_, rfl, .refl _⟩, trivial⟩ (by decide)) ?_
      refine good_seq fun K10 hK10 => ?_
      refine good_region ?_
      refine g_op rfl (ValOk.op (v_loadP tabOk rfl rfl tsize25 tagg25 rfl rfl rfl rfl ?_)) 
      obtain ⟨y2, hy2, h⟩ := bnd h
      refine g_op rfl (o_callD [] [] [] (core_value rfl rfl) (m_laws_toValue_ok k a0 _ hy2) trivial (.cons (.refl _) (.nil)) trivial rfl rfl rfl ?_)
      rintro _ _ ⟨w1, w2, rfl, rfl⟩
      refine ⟨.agg [.int .i64 y2.kind, .int .i64 y2.num, .str y2.text, .hd 3001 w1, .hd 3002 w2], [(3001, _), (3002, _)], .agg (.cons (.refl _) (.cons (.refl _) (.cons (.refl _) (.cons (.hd _ _ _) (.cons (.hd _ _ _) (.nil)))))), rfl, rfl, rfl, rfl, .inl rfl, ?_⟩
      refine g_op rfl (ValOk.op (v_move rfl rfl ?_)) 
      obtain ⟨y3, hy3, h⟩ := bnd h
      refine g_op rfl (o_callD [3001, 3002] [(_, _), (_, _)] [] (core_value rfl rfl) (m_spec_TreeGet_ok k y2 a1 _ hy3) ⟨⟨_, rfl, .osl (FrzLL.map fun _ _ => encOVal_frz _)⟩, ⟨⟨_, rfl, .osl (FrzLL.map fun _ _ => encS_frz _)⟩, trivial⟩⟩ (.cons (.agg (.cons (.refl _) (.cons (.refl _) (.cons (.refl _) (.cons (.frz _ _ _ (.head _)) (.cons (.frz _ _ _ (.tail _ (.head _))) (.nil))))))) (.cons (.refl _) (.nil))) trivial rfl rfl rfl ?_)
      rintro _ _ ⟨w3, w4, rfl, rfl⟩
      refine ⟨.tup [.agg [.int .i64 y3.1.kind, .int .i64 y3.1.num, .str y3.1.text, .hd 3003 w3, .hd 3004 w4], .bool y3.2], [(3003, _), (3004, _)], .tup (.cons (.agg (.cons (.refl _) (.cons (.refl _) (.cons (.refl _) (.cons (.hd _ _ _) (.cons (.hd _ _ _) (.nil))))))) (.cons (.refl _) (.nil))), rfl, rfl, rfl, rfl, .inr ⟨.tup _ (by intro av hav; simp only [List.mem_cons, List.not_mem_nil, or_false] at hav; rcases hav with rfl | rfl; exact (.agg _ (by intro av hav; simp only [List.mem_cons, List.not_mem_nil, or_false] at hav; rcases hav with rfl | rfl | rfl | rfl | rfl <;> constructor)); exact (.bool _)), (by intro p hp; simp only [List.mem_cons, List.not_mem_nil, or_false] at hp; rcases hp with rfl | rfl; exact cln_rows fun _ => encOVal_cln _; exact cln_rows fun _ => encS_cln _)⟩, ?_⟩
      refine g_op rfl (ValOk.op (v_move rfl rfl ?_)) 
      refine g_op rfl (ValOk.op (v_extract rfl rfl rfl ?_)) 
      refine g_op rfl (ValOk.op (v_extract rfl rfl rfl ?_)) 
      refine g_op rfl (o_alloc (k := 16) tabOk tzero30 rfl rfl ?_)
      intro b2
      refine g_op rfl (o_storeP tabOk (cs' := [.int .i64 y3.1.kind, .int .i64 y3.1.num, .str y3.1.text, .hd 3003 w3, .hd 3004 w4]) rfl rfl tsize30 rfl rfl rfl (Nat.le_of_ble_eq_true rfl) rfl rfl rfl ?_)
      refine g_op rfl (ValOk.op (v_assign rfl rfl ?_)) 
      refine g_nil ?_
      refine hK10 _ ?_
      refine Good.le (σ' := ⟨104, [(1, _), (2, _), (4, _), (6, _), (7, _)], [(12, (_, _)), (16, (_, _)), (3003, (_, _)), (3004, (_, _))]⟩) (le_w [some 12, some 16, some 3003, some 3004] rfl ⟨⟨_, rfl, .refl _⟩, ⟨⟨_, rfl, .refl _⟩, ⟨⟨_, rfl, .refl _⟩, ⟨⟨_, rfl, .refl _⟩, ⟨⟨_, rfl, .refl _⟩, trivial⟩⟩⟩⟩⟩ ⟨⟨_, rfl, .refl _⟩, ⟨⟨_, rfl, .refl _⟩, ⟨⟨_, rfl, .refl _⟩, ⟨⟨_, rfl, .refl _⟩, trivial⟩⟩⟩⟩ (by decide)) ?_
      refine good_seq fun K11 hK11 => ?_
      refine good_region ?_
      refine g_op rfl (ValOk.op (v_loadP tabOk rfl rfl tsize25 tagg25 rfl rfl rfl rfl ?_)) 
      obtain ⟨y4, hy4, h⟩ := bnd h
      refine g_op rfl (o_callD [] [] [] (core_value rfl rfl) (m_laws_toValue_ok k a0 _ hy4) trivial (.cons (.refl _) (.nil)) trivial rfl rfl rfl ?_)
      rintro _ _ ⟨w5, w6, rfl, rfl⟩
      refine ⟨.agg [.int .i64 y4.kind, .int .i64 y4.num, .str y4.text, .hd 3005 w5, .hd 3006 w6], [(3005, _), (3006, _)], .agg (.cons (.refl _) (.cons (.refl _) (.cons (.refl _) (.cons (.hd _ _ _) (.cons (.hd _ _ _) (.nil)))))), rfl, rfl, rfl, rfl, .inl rfl, ?_⟩
      refine g_op rfl (o_alloc (k := 18) tabOk tzero30 rfl rfl ?_)
      intro b3
      refine g_op rfl (o_storeP tabOk (cs' := [.int .i64 y4.kind, .int .i64 y4.num, .str y4.text, .hd 3005 w5, .hd 3006 w6]) rfl rfl tsize30 rfl rfl rfl (Nat.le_of_ble_eq_true rfl) rfl rfl rfl ?_)
      refine g_nil ?_
      refine hK11 _ ?_
      refine Good.le (σ' := ⟨104, [(1, _), (2, _), (4, _), (6, _), (7, _), (8, _)], [(12, (_, _)), (16, (_, _)), (3003, (_, _)), (3004, (_, _)), (18, (_, _)), (3005, (_, _)), (3006, (_, _))]⟩) (le_w [some 12, some 16, some 3003, some 3004, some 18, some 3005, some 3006] rfl ⟨⟨_, rfl, .refl _⟩, ⟨⟨_, rfl, .refl _⟩, ⟨⟨_, rfl, .refl _⟩, ⟨⟨_, rfl, .refl _⟩, ⟨⟨_, rfl, .refl _⟩, ⟨⟨_, rfl, .refl _⟩, trivial⟩⟩⟩⟩⟩⟩ ⟨⟨_, rfl, .refl _⟩, ⟨⟨_, rfl, .refl _⟩, ⟨⟨_, rfl, .refl _⟩, ⟨⟨_, rfl, .refl _⟩, ⟨⟨_, rfl, .refl _⟩, ⟨⟨_, rfl, .refl _⟩, ⟨⟨_, rfl, .refl _⟩, trivial⟩⟩⟩⟩⟩⟩⟩ (by decide)) ?_
      refine good_seq fun K12 hK12 => ?_
      refine good_region ?_
      refine g_op rfl (ValOk.op (v_loadP tabOk rfl rfl tsize30 tagg30 rfl rfl rfl rfl ?_)) 
      refine g_op rfl (ValOk.op (v_move rfl rfl ?_)) 
      obtain ⟨y5, hy5, h⟩ := bnd h
      refine g_op rfl (o_callD [3005, 3006] [(_, _), (_, _)] [] (core_value rfl rfl) (m_impl_TreeGet_ok k y4 a1 _ hy5) ⟨⟨_, rfl, .osl (FrzLL.map fun _ _ => encOVal_frz _)⟩, ⟨⟨_, rfl, .osl (FrzLL.map fun _ _ => encS_frz _)⟩, trivial⟩⟩ (.cons (.agg (.cons (.refl _) (.cons (.refl _) (.cons (.refl _) (.cons (.frz _ _ _ (.head _)) (.cons (.frz _ _ _ (.tail _ (.head _))) (.nil))))))) (.cons (.refl _) (.nil))) trivial rfl rfl rfl ?_)
      rintro _ _ ⟨w7, w8, rfl, rfl⟩
      refine ⟨.tup [.agg [.int .i64 y5.1.kind, .int .i64 y5.1.num, .str y5.1.text, .hd 3007 w7, .hd 3008 w8], .bool y5.2], [(3007, _), (3008, _)], .tup (.cons (.agg (.cons (.refl _) (.cons (.refl _) (.cons (.refl _) (.cons (.hd _ _ _) (.cons (.hd _ _ _) (.nil))))))) (.cons (.refl _) (.nil))), rfl, rfl, rfl, rfl, .inr ⟨.tup _ (by intro av hav; simp only [List.mem_cons, List.not_mem_nil, or_false] at hav; rcases hav with rfl | rfl; exact (.agg _ (by intro av hav; simp only [List.mem_cons, List.not_mem_nil, or_false] at hav; rcases hav with rfl | rfl | rfl | rfl | rfl <;> constructor)); exact (.bool _)), (by intro p hp; simp only [List.mem_cons, List.not_mem_nil, or_false] at hp; rcases hp with rfl | rfl; exact cln_rows fun _ => encOVal_cln _; exact cln_rows fun _ => encS_cln _)⟩, ?_⟩
      refine g_op rfl (ValOk.op (v_move rfl rfl ?_)) 
      refine g_op rfl (ValOk.op (v_extract rfl rfl rfl ?_)) 
      refine g_op rfl (ValOk.op (v_extract rfl rfl rfl ?_)) 
      refine g_op rfl (o_alloc (k := 19) tabOk tzero30 rfl rfl ?_)
      intro b4
      refine g_op rfl (o_storeP tabOk (cs' := [.int .i64 y5.1.kind, .int .i64 y5.1.num, .str y5.1.text, .hd 3007 w7, .hd 3008 w8]) rfl rfl tsize30 rfl rfl rfl (Nat.le_of_ble_eq_true rfl) rfl rfl rfl ?_)
      refine g_op rfl (ValOk.op (v_assign rfl rfl ?_)) 
      refine g_nil ?_
      refine hK12 _ ?_
      refine Good.le (σ' := ⟨104, [(1, _), (2, _), (4, _), (6, _), (7, _), (8, _), (9, _), (10, _)], [(12, (_, _)), (16, (_, _)), (3003, (_, _)), (3004, (_, _)), (18, (_, _)), (3005, (_, _)), (3006, (_, _)), (19, (_, _)), (3007, (_, _)), (3008, (_, _))]⟩) (le_w [some 12, some 16, some 3003, some 3004, some 18, some 3005, some 3006, some 19, some 3007, some 3008] rfl ⟨⟨_, rfl, .refl _⟩, ⟨⟨_, rfl, .refl _⟩, ⟨⟨_, rfl, .refl _⟩, ⟨⟨_, rfl, .refl _⟩, ⟨⟨_, rfl, .refl _⟩, ⟨⟨_, rfl, .refl _⟩, ⟨⟨_, rfl, .refl _⟩, ⟨⟨_, rfl, .refl _⟩, trivial⟩⟩⟩⟩⟩⟩⟩⟩ ⟨⟨_, rfl, .refl _⟩, ⟨⟨_, rfl, .refl _⟩, ⟨⟨_, rfl, .refl _⟩, ⟨⟨_, rfl, .refl _⟩, ⟨⟨_, rfl, .refl _⟩, ⟨⟨_, rfl, .refl _⟩, ⟨⟨_, rfl, .refl _⟩, ⟨⟨_, rfl, .refl _⟩, ⟨⟨_, rfl, .refl _⟩, ⟨⟨_, rfl, .refl _⟩, trivial⟩⟩⟩⟩⟩⟩⟩⟩⟩⟩ (by decide)) ?_
      refine good_seq fun K13 hK13 => ?_
      refine good_seq fun K14 hK14 => ?_
      obtain ⟨o1, ho1, hJ1⟩ := bnd h
      have hw1 : ∀ (s1 : Bool), o1 = Lp.go s1 → ∀ σ', Le σ' ⟨104, [(1, .str a1), (2, .ptr 12 b1 0), (4, .bool false), (6, .ptr 16 b2 0), (7, .bool y3.2), (8, .ptr 18 b3 0), (9, .ptr 19 b4 0), (10, .bool y5.2), (47, .bool s1)], [(12, ((.pointer (some ⟨b1, 0, none⟩)), .optr 25 [.int .i64 a0.kind, .int .i64 a0.num, .str a0.text, .sl false (a0.list.map encLVal), .sl false (a0.names.map encS)])), (16, ((.pointer (some ⟨b2, 0, none⟩)), .optr 30 [.int .i64 y3.1.kind, .int .i64 y3.1.num, .str y3.1.text, .hd 3003 w3, .hd 3004 w4])), (3003, (w3, .osl 30 5 (y3.1.list.map encOVal))), (3004, (w4, .osl 9 1 (y3.1.names.map encS))), (18, ((.pointer (some ⟨b3, 0, none⟩)), .optr 30 [.int .i64 y4.kind, .int .i64 y4.num, .str y4.text, .hd 3005 w5, .hd 3006 w6])), (3005, (w5, .osl 30 5 (y4.list.map encOVal))), (3006, (w6, .osl 9 1 (y4.names.map encS))), (19, ((.pointer (some ⟨b4, 0, none⟩)), .optr 30 [.int .i64 y5.1.kind, .int .i64 y5.1.num, .str y5.1.text, .hd 3007 w7, .hd 3008 w8])), (3007, (w7, .osl 30 5 (y5.1.list.map encOVal))), (3008, (w8, .osl 9 1 (y5.1.names.map encS)))]⟩ → K14 σ' := by
        intro s1 e1 σ' hle1
        subst e1
        refine hK14 _ (Good.le hle1 ?_)
        replace h := hJ1
        refine good_cond rfl (fun hc3 => ?_) (fun hc3 => ?_)
        · replace h := ifT h hc3
          refine good_seq fun K15 hK15 => ?_
          refine good_region ?_
          refine g_op rfl (ValOk.op (v_assign rfl rfl ?_)) 
          refine g_nil ?_
          refine hK15 _ ?_
          refine Good.le (σ' := ⟨104, [(1, _), (2, _), (4, _), (6, _), (7, _), (8, _), (9, _), (10, _)], [(12, (_, _)), (16, (_, _)), (3003, (_, _)), (3004, (_, _)), (18, (_, _)), (3005, (_, _)), (3006, (_, _)), (19, (_, _)), (3007, (_, _)), (3008, (_, _))]⟩) (le_w [some 12, some 16, some 3003, some 3004, some 18, some 3005, some 3006, some 19, some 3007, some 3008] rfl ⟨⟨_, rfl, .refl _⟩, ⟨⟨_, rfl, .refl _⟩, ⟨⟨_, rfl, .refl _⟩, ⟨⟨_, rfl, .refl _⟩, ⟨⟨_, rfl, .refl _⟩, ⟨⟨_, rfl, .refl _⟩, ⟨⟨_, rfl, .refl _⟩, ⟨⟨_, rfl, .refl _⟩, trivial⟩⟩⟩⟩⟩⟩⟩⟩ ⟨⟨_, rfl, .refl _⟩, ⟨⟨_, rfl, .refl _⟩, ⟨⟨_, rfl, .refl _⟩, ⟨⟨_, rfl, .refl _⟩, ⟨⟨_, rfl, .refl _⟩, ⟨⟨_, rfl, .refl _⟩, ⟨⟨_, rfl, .refl _⟩, ⟨⟨_, rfl, .refl _⟩, ⟨⟨_, rfl, .refl _⟩, ⟨⟨_, rfl, .refl _⟩, trivial⟩⟩⟩⟩⟩⟩⟩⟩⟩⟩ (by decide)) ?_
          refine Good.le (σ' := ⟨104, [(4, .bool false)], []⟩) (le_w [] rfl ⟨⟨_, rfl, .refl _⟩, trivial⟩ trivial (by decide)) ?_
          refine good_ret ?_
          obtain rfl := Option.some.inj h
          refine thenQ_ret ?_
          exact endQ_ret (h' := []) [] (.tmp rfl (.nil)) trivial (by decide) ⟨rfl, rfl⟩
        · replace h := bF h hc3
          refine good_skip ?_
          refine hK13 _ ?_
          refine Good.le (σ' := ⟨104, [(1, _), (2, _), (4, _), (6, _), (7, _), (8, _), (9, _), (10, _)], [(12, (_, _)), (16, (_, _)), (3003, (_, _)), (3004, (_, _)), (18, (_, _)), (3005, (_, _)), (3006, (_, _)), (19, (_, _)), (3007, (_, _)), (3008, (_, _))]⟩) (le_w [some 12, some 16, some 3003, some 3004, some 18, some 3005, some 3006, some 19, some 3007, some 3008] rfl ⟨⟨_, rfl, .refl _⟩, ⟨⟨_, rfl, .refl _⟩, ⟨⟨_, rfl, .refl _⟩, ⟨⟨_, rfl, .refl _⟩, ⟨⟨_, rfl, .refl _⟩, ⟨⟨_, rfl, .refl _⟩, ⟨⟨_, rfl, .refl _⟩, ⟨⟨_, rfl, .refl _⟩, trivial⟩⟩⟩⟩⟩⟩⟩⟩ ⟨⟨_, rfl, .refl _⟩, ⟨⟨_, rfl, .refl _⟩, ⟨⟨_, rfl, .refl _⟩, ⟨⟨_, rfl, .refl _⟩, ⟨⟨_, rfl, .refl _⟩, ⟨⟨_, rfl, .refl _⟩, ⟨⟨_, rfl, .refl _⟩, ⟨⟨_, rfl, .refl _⟩, ⟨⟨_, rfl, .refl _⟩, ⟨⟨_, rfl, .refl _⟩, trivial⟩⟩⟩⟩⟩⟩⟩⟩⟩⟩ (by decide)) ?_
          refine good_seq fun K16 hK16 => ?_
          refine good_seq fun K17 hK17 => ?_
          obtain ⟨y6, hy6, h⟩ := bnd h
          obtain ⟨y7, hy7, h⟩ := bnd h
          refine good_anyM (by kernel_rfl) [⟨[], [8], [18], [], [], []⟩, ⟨[], [2], [12], [], [], []⟩, ⟨[1], [49], [], [], [], []⟩, ⟨[0, 1, 2], [48, 50], [3005, 3006], [], [], []⟩, ⟨[0, 1, 2, 3], [51], [], [], [], []⟩] [some 48, some 49, some 50, some 51, some 52] 104 [(1, .str a1), (2, .ptr 12 b1 0), (4, .bool false), (6, .ptr 16 b2 0), (7, .bool y3.2), (8, .ptr 18 b3 0), (9, .ptr 19 b4 0), (10, .bool y5.2)] [(12, ((.pointer (some ⟨b1, 0, none⟩)), .optr 25 [.int .i64 a0.kind, .int .i64 a0.num, .str a0.text, .sl false (a0.list.map encLVal), .sl false (a0.names.map encS)])), (16, ((.pointer (some ⟨b2, 0, none⟩)), .optr 30 [.int .i64 y3.1.kind, .int .i64 y3.1.num, .str y3.1.text, .hd 3003 w3, .hd 3004 w4])), (3003, (w3, .osl 30 5 (y3.1.list.map encOVal))), (3004, (w4, .osl 9 1 (y3.1.names.map encS))), (18, ((.pointer (some ⟨b3, 0, none⟩)), .optr 30 [.int .i64 y4.kind, .int .i64 y4.num, .str y4.text, .hd 3005 w5, .hd 3006 w6])), (3005, (w5, .osl 30 5 (y4.list.map encOVal))), (3006, (w6, .osl 9 1 (y4.names.map encS))), (19, ((.pointer (some ⟨b4, 0, none⟩)), .optr 30 [.int .i64 y5.1.kind, .int .i64 y5.1.num, .str y5.1.text, .hd 3007 w7, .hd 3008 w8])), (3007, (w7, .osl 30 5 (y5.1.list.map encOVal))), (3008, (w8, .osl 9 1 (y5.1.names.map encS)))] (fun ν1 => [.agg [.int .i64 y4.kind, .int .i64 y4.num, .str y4.text, .hd 3005 w5, .hd 3006 w6], .agg [.int .i64 a0.kind, .int .i64 a0.num, .str a0.text, .sl false (a0.list.map encLVal), .sl false (a0.names.map encS)], .agg [.int .i64 y6.kind, .int .i64 y6.num, .str y6.text, .sl true (y6.list.map encVal), .sl false (y6.names.map encS)], .bool y7, .bool (!y7)]) (fun ν1 => []) [(12, []), (16, []), (3003, []), (3004, []), (18, []), (3005, []), (3006, []), (19, []), (3007, []), (3008, [])] [] [some 12, some 16, some 3003, some 3004, some 18, some 3005, some 3006, some 19, some 3007, some 3008] (fun ν1 => [(1, .str a1), (2, .ptr 12 b1 0), (4, .bool false), (6, .ptr 16 b2 0), (7, .bool y3.2), (8, .ptr 18 b3 0), (9, .ptr 19 b4 0), (10, .bool y5.2), (52, .bool (!y7))]) (fun ν1 => [(12, ((.pointer (some ⟨b1, 0, none⟩)), .optr 25 [.int .i64 a0.kind, .int .i64 a0.num, .str a0.text, .sl false (a0.list.map encLVal), .sl false (a0.names.map encS)])), (16, ((.pointer (some ⟨b2, 0, none⟩)), .optr 30 [.int .i64 y3.1.kind, .int .i64 y3.1.num, .str y3.1.text, .hd 3003 w3, .hd 3004 w4])), (3003, (w3, .osl 30 5 (y3.1.list.map encOVal))), (3004, (w4, .osl 9 1 (y3.1.names.map encS))), (18, ((.pointer (some ⟨b3, 0, none⟩)), .optr 30 [.int .i64 y4.kind, .int .i64 y4.num, .str y4.text, .hd 3005 w5, .hd 3006 w6])), (3005, (w5, .osl 30 5 (y4.list.map encOVal))), (3006, (w6, .osl 9 1 (y4.names.map encS))), (19, ((.pointer (some ⟨b4, 0, none⟩)), .optr 30 [.int .i64 y5.1.kind, .int .i64 y5.1.num, .str y5.1.text, .hd 3007 w7, .hd 3008 w8])), (3007, (w7, .osl 30 5 (y5.1.list.map encOVal))), (3008, (w8, .osl 9 1 (y5.1.names.map encS)))]) (le_w [some 12, some 16, some 3003, some 3004, some 18, some 3005, some 3006, some 19, some 3007, some 3008] rfl ⟨⟨_, rfl, .refl _⟩, ⟨⟨_, rfl, .refl _⟩, ⟨⟨_, rfl, .refl _⟩, ⟨⟨_, rfl, .refl _⟩, ⟨⟨_, rfl, .refl _⟩, ⟨⟨_, rfl, .refl _⟩, ⟨⟨_, rfl, .refl _⟩, ⟨⟨_, rfl, .refl _⟩, trivial⟩⟩⟩⟩⟩⟩⟩⟩ ⟨⟨_, rfl, .refl _⟩, ⟨⟨_, rfl, .refl _⟩, ⟨⟨_, rfl, .refl _⟩, ⟨⟨_, rfl, .refl _⟩, ⟨⟨_, rfl, .refl _⟩, ⟨⟨_, rfl, .refl _⟩, ⟨⟨_, rfl, .refl _⟩, ⟨⟨_, rfl, .refl _⟩, ⟨⟨_, rfl, .refl _⟩, ⟨⟨_, rfl, .refl _⟩, trivial⟩⟩⟩⟩⟩⟩⟩⟩⟩⟩ (by decide)) (by kernel_rfl) ⟨?_, ⟨?_, ⟨?_, ⟨?_, ⟨?_, trivial⟩⟩⟩⟩⟩ ⟨fun _ _ _ => rfl, ⟨fun _ _ _ => rfl, ⟨fun _ _ _ => rfl, ⟨fun _ _ _ => rfl, ⟨fun _ _ _ => rfl, trivial⟩⟩⟩⟩⟩ ⟨fun _ _ _ => rfl, ⟨fun _ _ _ => rfl, ⟨fun _ _ _ => rfl, ⟨fun _ _ _ => rfl, ⟨fun _ _ _ => rfl, ⟨fun _ _ _ => rfl, ⟨fun _ _ _ => rfl, ⟨fun _ _ _ => rfl, ⟨fun _ _ _ => rfl, ⟨fun _ _ _ => rfl, trivial⟩⟩⟩⟩⟩⟩⟩⟩⟩⟩ (fun _ => rfl) (fun _ => rfl) (by kernel_rfl) (fun _ => ⟨⟨_, rfl, .refl _⟩, ⟨⟨_, rfl, .refl _⟩, ⟨⟨_, rfl, .refl _⟩, ⟨⟨_, rfl, .refl _⟩, ⟨⟨_, rfl, .refl _⟩, ⟨⟨_, rfl, .refl _⟩, ⟨⟨_, rfl, .refl _⟩, ⟨⟨_, rfl, .refl _⟩, ⟨⟨_, rfl, .refl _⟩, trivial⟩⟩⟩⟩⟩⟩⟩⟩⟩) (fun _ => ⟨⟨_, rfl, .refl _⟩, ⟨⟨_, rfl, .refl _⟩, ⟨⟨_, rfl, .refl _⟩, ⟨⟨_, rfl, .refl _⟩, ⟨⟨_, rfl, .refl _⟩, ⟨⟨_, rfl, .refl _⟩, ⟨⟨_, rfl, .refl _⟩, ⟨⟨_, rfl, .refl _⟩, ⟨⟨_, rfl, .refl _⟩, ⟨⟨_, rfl, .refl _⟩, trivial⟩⟩⟩⟩⟩⟩⟩⟩⟩⟩) (by kernel_rfl) (by decide) ?_
          · refine local_mk (fun ν1 => [(8, .ptr 18 b3 0)]) (fun ν1 => [(18, ((.pointer (some ⟨b3, 0, none⟩)), .optr 30 [.int .i64 y4.kind, .int .i64 y4.num, .str y4.text, .hd 3005 w5, .hd 3006 w6]))]) (fun _ => rfl) (fun _ => ⟨⟨_, rfl, .refl _, .refl _⟩, trivial⟩) (fun _ => rfl) (fun _ => ⟨rfl, trivial⟩) ?_
            intro ν1 S H hS hfr
            refine st_op rfl (ValOk.op (v_loadP tabOk rfl rfl tsize30 tagg30 rfl rfl rfl rfl ?_)) 
            exact lp_v hS rfl rfl (fun _ => rfl)
          · refine local_mk (fun ν1 => [(2, .ptr 12 b1 0)]) (fun ν1 => [(12, ((.pointer (some ⟨b1, 0, none⟩)), .optr 25 [.int .i64 a0.kind, .int .i64 a0.num, .str a0.text, .sl false (a0.list.map encLVal), .sl false (a0.names.map encS)]))]) (fun _ => rfl) (fun _ => ⟨⟨_, rfl, .refl _, .refl _⟩, trivial⟩) (fun _ => rfl) (fun _ => ⟨rfl, trivial⟩) ?_
            intro ν1 S H hS hfr
            refine st_op rfl (ValOk.op (v_loadP tabOk rfl rfl tsize25 tagg25 rfl rfl rfl rfl ?_)) 
            exact lp_v hS rfl rfl (fun _ => rfl)
          · refine local_mk (fun ν1 => [(49, .agg [.int .i64 a0.kind, .int .i64 a0.num, .str a0.text, .sl false (a0.list.map encLVal), .sl false (a0.names.map encS)])]) (fun ν1 => []) (fun _ => rfl) (fun _ => ⟨⟨_, rfl, .refl _, .refl _⟩, trivial⟩) (fun _ => rfl) (fun _ => trivial) ?_
            intro ν1 S H hS hfr
            refine st_op rfl (o_callR [] [] (core_value rfl rfl) (m_laws_toValue_okF k a0 _ hy6) trivial (.cons (.refl _) (.nil)) (.inl rfl) rfl ?_)
            exact lp_v hS rfl rfl (fun _ => rfl)
          · refine local_mk (fun ν1 => [(48, .agg [.int .i64 y4.kind, .int .i64 y4.num, .str y4.text, .hd 3005 w5, .hd 3006 w6]), (50, .agg [.int .i64 y6.kind, .int .i64 y6.num, .str y6.text, .sl true (y6.list.map encVal), .sl false (y6.names.map encS)])]) (fun ν1 => [(3005, (w5, .osl 30 5 (y4.list.map encOVal))), (3006, (w6, .osl 9 1 (y4.names.map encS)))]) (fun _ => rfl) (fun _ => ⟨⟨_, rfl, .refl _, .refl _⟩, ⟨⟨_, rfl, .refl _, .refl _⟩, trivial⟩⟩) (fun _ => rfl) (fun _ => ⟨rfl, ⟨rfl, trivial⟩⟩) ?_
            intro ν1 S H hS hfr
            refine st_op rfl (o_callR [3005, 3006] [(_, _), (_, _)] (core_value rfl rfl) (m_laws_eqValue_ok k y4 y6 _ hy7) ⟨⟨_, rfl, .osl (FrzLL.map fun _ _ => encOVal_frz _)⟩, ⟨⟨_, rfl, .osl (FrzLL.map fun _ _ => encS_frz _)⟩, trivial⟩⟩ (.cons (.agg (.cons (.refl _) (.cons (.refl _) (.cons (.refl _) (.cons (.frz _ _ _ (.head _)) (.cons (.frz _ _ _ (.tail _ (.head _))) (.nil))))))) (.cons (.refl _) (.nil))) (.inr (.bool _)) rfl ?_)
            exact lp_v hS rfl rfl (fun _ => rfl)
          · refine local_mk (fun ν1 => [(51, .bool y7)]) (fun ν1 => []) (fun _ => rfl) (fun _ => ⟨⟨_, rfl, .refl _, .refl _⟩, trivial⟩) (fun _ => rfl) (fun _ => trivial) ?_
            intro ν1 S H hS hfr
            refine st_op rfl (ValOk.op (v_not rfl rfl ?_)) 
            exact lp_v hS rfl rfl (fun _ => rfl)
          intro ν1
          refine hK17 _ ?_
          refine good_cond rfl (fun hc4 => ?_) (fun hc4 => ?_)
          · replace h := bF h (nT hc4)
            refine good_seq fun K18 hK18 => ?_
            refine good_region ?_
            refine g_op rfl (ValOk.op (v_assign rfl rfl ?_)) 
            refine g_nil ?_
            refine hK18 _ ?_
            refine Good.le (σ' := ⟨104, [(1, _), (2, _), (4, _), (6, _), (7, _), (8, _), (9, _), (10, _)], [(12, (_, _)), (16, (_, _)), (3003, (_, _)), (3004, (_, _)), (18, (_, _)), (3005, (_, _)), (3006, (_, _)), (19, (_, _)), (3007, (_, _)), (3008, (_, _))]⟩) (le_w [some 12, some 16, some 3003, some 3004, some 18, some 3005, some 3006, some 19, some 3007, some 3008] rfl ⟨⟨_, rfl, .refl _⟩, ⟨⟨_, rfl, .refl _⟩, ⟨⟨_, rfl, .refl _⟩, ⟨⟨_, rfl, .refl _⟩, ⟨⟨_, rfl, .refl _⟩, ⟨⟨_, rfl, .refl _⟩, ⟨⟨_, rfl, .refl _⟩, ⟨⟨_, rfl, .refl _⟩, trivial⟩⟩⟩⟩⟩⟩⟩⟩ ⟨⟨_, rfl, .refl _⟩, ⟨⟨_, rfl, .refl _⟩, ⟨⟨_, rfl, .refl _⟩, ⟨⟨_, rfl, .refl _⟩, ⟨⟨_, rfl, .refl _⟩, ⟨⟨_, rfl, .refl _⟩, ⟨⟨_, rfl, .refl _⟩, ⟨⟨_, rfl, .refl _⟩, ⟨⟨_, rfl, .refl _⟩, ⟨⟨_, rfl, .refl _⟩, trivial⟩⟩⟩⟩⟩⟩⟩⟩⟩⟩ (by decide)) ?_
            refine Good.le (σ' := ⟨104, [(4, .bool false)], []⟩) (le_w [] rfl ⟨⟨_, rfl, .refl _⟩, trivial⟩ trivial (by decide)) ?_
            refine good_ret ?_
            obtain rfl := Option.some.inj h
            refine thenQ_ret ?_
            exact endQ_ret (h' := []) [] (.tmp rfl (.nil)) trivial (by decide) ⟨rfl, rfl⟩
          · replace h := ifT h (nF hc4)
            refine good_skip ?_
            refine hK16 _ ?_
            refine Good.le (σ' := ⟨104, [(1, _), (2, _), (4, _), (6, _), (7, _), (8, _), (9, _), (10, _)], [(12, (_, _)), (16, (_, _)), (3003, (_, _)), (3004, (_, _)), (18, (_, _)), (3005, (_, _)), (3006, (_, _)), (19, (_, _)), (3007, (_, _)), (3008, (_, _))]⟩) (le_w [some 12, some 16, some 3003, some 3004, some 18, some 3005, some 3006, some 19, some 3007, some 3008] rfl ⟨⟨_, rfl, .refl _⟩, ⟨⟨_, rfl, .refl _⟩, ⟨⟨_, rfl, .refl _⟩, ⟨⟨_, rfl, .refl _⟩, ⟨⟨_, rfl, .refl _⟩, ⟨⟨_, rfl, .refl _⟩, ⟨⟨_, rfl, .refl _⟩, ⟨⟨_, rfl, .refl _⟩, trivial⟩⟩⟩⟩⟩⟩⟩⟩ ⟨⟨_, rfl, .refl _⟩, ⟨⟨_, rfl, .refl _⟩, ⟨⟨_, rfl, .refl _⟩, ⟨⟨_, rfl, .refl _⟩, ⟨⟨_, rfl, .refl _⟩, ⟨⟨_, rfl, .refl _⟩, ⟨⟨_, rfl, .refl _⟩, ⟨⟨_, rfl, .refl _⟩, ⟨⟨_, rfl, .refl _⟩, ⟨⟨_, rfl, .refl _⟩, trivial⟩⟩⟩⟩⟩⟩⟩⟩⟩⟩ (by decide)) ?_
            refine good_seq fun K19 hK19 => ?_
            refine good_region ?_
            refine g_op rfl (ValOk.op (v_assign rfl rfl ?_)) 
            refine g_nil ?_
            refine hK19 _ ?_
            refine good_seq fun K20 hK20 => ?_
            refine good_region ?_
            refine g_op rfl (ValOk.op (v_loadP tabOk rfl rfl tsize30 tagg30 rfl rfl rfl rfl ?_)) 
            refine g_op rfl (ValOk.op (v_move rfl rfl ?_)) 
            obtain ⟨y8, hy8, h⟩ := bnd h
            refine g_op rfl (o_callD [] [] [3005, 3006] (core_value rfl rfl) (m_laws_markValue_ok k y4 1 _ _ _ hy8) trivial (.cons (.agg (.cons (.refl _) (.cons (.refl _) (.cons (.refl _) (.cons (.hd _ _ _) (.cons (.hd _ _ _) (.nil))))))) (.cons (.refl _) (.nil))) ⟨rfl, ⟨rfl, trivial⟩⟩ rfl rfl rfl ?_)
            rintro _ _ ⟨rfl, rfl⟩
            refine ⟨_, [(3005, _), (3006, _)], .refl _, rfl, rfl, rfl, rfl, .inl rfl, ?_⟩
            refine g_op rfl (ValOk.op (v_assign rfl rfl ?_)) 
            refine g_nil ?_
            refine hK20 _ ?_
            refine Good.le (σ' := ⟨104, [(1, _), (2, _), (4, _), (6, _), (7, _), (9, _), (10, _), (11, _)], [(12, (_, _)), (16, (_, _)), (3003, (_, _)), (3004, (_, _)), (19, (_, _)), (3007, (_, _)), (3008, (_, _))]⟩) (le_w [some 12, some 16, some 3003, some 3004, some 19, some 3007, some 3008] rfl ⟨⟨_, rfl, .refl _⟩, ⟨⟨_, rfl, .refl _⟩, ⟨⟨_, rfl, .refl _⟩, ⟨⟨_, rfl, .refl _⟩, ⟨⟨_, rfl, .refl _⟩, ⟨⟨_, rfl, .refl _⟩, ⟨⟨_, rfl, .refl _⟩, ⟨⟨_, rfl, .refl _⟩, trivial⟩⟩⟩⟩⟩⟩⟩⟩ ⟨⟨_, rfl, .refl _⟩, ⟨⟨_, rfl, .refl _⟩, ⟨⟨_, rfl, .refl _⟩, ⟨⟨_, rfl, .refl _⟩, ⟨⟨_, rfl, .refl _⟩, ⟨⟨_, rfl, .refl _⟩, ⟨⟨_, rfl, .refl _⟩, trivial⟩⟩⟩⟩⟩⟩⟩ (by decide)) ?_
            refine good_seq fun K21 hK21 => ?_
            refine good_seq fun K22 hK22 => ?_
            obtain ⟨o2, ho2, hJ2⟩ := bnd h
            have hw2 : ∀ (s2 : Bool), o2 = Lp.go s2 → ∀ σ', Le σ' ⟨104, [(1, .str a1), (2, .ptr 12 b1 0), (4, .bool false), (6, .ptr 16 b2 0), (7, .bool y3.2), (9, .ptr 19 b4 0), (68, .bool s2)], [(12, ((.pointer (some ⟨b1, 0, none⟩)), .optr 25 [.int .i64 a0.kind, .int .i64 a0.num, .str a0.text, .sl false (a0.list.map encLVal), .sl false (a0.names.map encS)])), (16, ((.pointer (some ⟨b2, 0, none⟩)), .optr 30 [.int .i64 y3.1.kind, .int .i64 y3.1.num, .str y3.1.text, .hd 3003 w3, .hd 3004 w4])), (3003, (w3, .osl 30 5 (y3.1.list.map encOVal))), (3004, (w4, .osl 9 1 (y3.1.names.map encS))), (19, ((.pointer (some ⟨b4, 0, none⟩)), .optr 30 [.int .i64 y5.1.kind, .int .i64 y5.1.num, .str y5.1.text, .hd 3007 w7, .hd 3008 w8])), (3007, (w7, .osl 30 5 (y5.1.list.map encOVal))), (3008, (w8, .osl 9 1 (y5.1.names.map encS)))]⟩ → K22 σ' := by
              intro s2 e2 σ' hle2
              subst e2
              refine hK22 _ (Good.le hle2 ?_)
              replace h := hJ2
              refine good_cond rfl (fun hc5 => ?_) (fun hc5 => ?_)
              · replace h := ifT h hc5
                refine good_seq fun K23 hK23 => ?_
                refine good_region ?_
                refine g_op rfl (ValOk.op (v_assign rfl rfl ?_)) 
                refine g_nil ?_
                refine hK23 _ ?_
                refine Good.le (σ' := ⟨104, [(1, _), (2, _), (4, _), (6, _), (7, _), (9, _)], [(12, (_, _)), (16, (_, _)), (3003, (_, _)), (3004, (_, _)), (19, (_, _)), (3007, (_, _)), (3008, (_, _))]⟩) (le_w [some 12, some 16, some 3003, some 3004, some 19, some 3007, some 3008] rfl ⟨⟨_, rfl, .refl _⟩, ⟨⟨_, rfl, .refl _⟩, ⟨⟨_, rfl, .refl _⟩, ⟨⟨_, rfl, .refl _⟩, ⟨⟨_, rfl, .refl _⟩, ⟨⟨_, rfl, .refl _⟩, trivial⟩⟩⟩⟩⟩⟩ ⟨⟨_, rfl, .refl _⟩, ⟨⟨_, rfl, .refl _⟩, ⟨⟨_, rfl, .refl _⟩, ⟨⟨_, rfl, .refl _⟩, ⟨⟨_, rfl, .refl _⟩, ⟨⟨_, rfl, .refl _⟩, ⟨⟨_, rfl, .refl _⟩, trivial⟩⟩⟩⟩⟩⟩⟩ (by decide)) ?_
                refine Good.le (σ' := ⟨104, [(4, .bool false)], []⟩) (le_w [] rfl ⟨⟨_, rfl, .refl _⟩, trivial⟩ trivial (by decide)) ?_
                refine good_ret ?_
                obtain rfl := Option.some.inj h
                refine thenQ_ret ?_
                exact endQ_ret (h' := []) [] (.tmp rfl (.nil)) trivial (by decide) ⟨rfl, rfl⟩
              · replace h := bF h hc5
                refine good_skip ?_
                refine hK21 _ ?_
                refine Good.le (σ' := ⟨104, [(1, _), (2, _), (4, _), (6, _), (7, _), (9, _)], [(12, (_, _)), (16, (_, _)), (3003, (_, _)), (3004, (_, _)), (19, (_, _)), (3007, (_, _)), (3008, (_, _))]⟩) (le_w [some 12, some 16, some 3003, some 3004, some 19, some 3007, some 3008] rfl ⟨⟨_, rfl, .refl _⟩, ⟨⟨_, rfl, .refl _⟩, ⟨⟨_, rfl, .refl _⟩, ⟨⟨_, rfl, .refl _⟩, ⟨⟨_, rfl, .refl _⟩, ⟨⟨_, rfl, .refl _⟩, trivial⟩⟩⟩⟩⟩⟩ ⟨⟨_, rfl, .refl _⟩, ⟨⟨_, rfl, .refl _⟩, ⟨⟨_, rfl, .refl _⟩, ⟨⟨_, rfl, .refl _⟩, ⟨⟨_, rfl, .refl _⟩, ⟨⟨_, rfl, .refl _⟩, ⟨⟨_, rfl, .refl _⟩, trivial⟩⟩⟩⟩⟩⟩⟩ (by decide)) ?_
                refine good_seq fun K24 hK24 => ?_
                refine good_region ?_
                refine g_op rfl (ValOk.op (v_assign rfl rfl ?_)) 
                refine g_nil ?_
                refine hK24 _ ?_
                refine good_seq fun K25 hK25 => ?_
                refine good_region ?_
                refine g_op rfl (ValOk.op (v_loadP tabOk rfl rfl tsize30 tagg30 rfl rfl rfl rfl ?_)) 
                refine g_op rfl (ValOk.op (v_move rfl rfl ?_)) 
                obtain ⟨y9, hy9, h⟩ := bnd h
                refine g_op rfl (o_callD [] [] [3007, 3008] (core_value rfl rfl) (m_laws_markValue_ok k y5.1 1 _ _ _ hy9) trivial (.cons (.agg (.cons (.refl _) (.cons (.refl _) (.cons (.refl _) (.cons (.hd _ _ _) (.cons (.hd _ _ _) (.nil))))))) (.cons (.refl _) (.nil))) ⟨rfl, ⟨rfl, trivial⟩⟩ rfl rfl rfl ?_)
                rintro _ _ ⟨rfl, rfl⟩
                refine ⟨_, [(3007, _), (3008, _)], .refl _, rfl, rfl, rfl, rfl, .inl rfl, ?_⟩
                refine g_op rfl (ValOk.op (v_assign rfl rfl ?_)) 
                refine g_nil ?_
                refine hK25 _ ?_
                refine Good.le (σ' := ⟨104, [(1, _), (2, _), (4, _), (6, _), (7, _), (9, _), (12, _)], [(12, (_, _)), (16, (_, _)), (3003, (_, _)), (3004, (_, _)), (19, (_, _)), (3007, (_, _)), (3008, (_, _))]⟩) (le_w [some 12, some 16, some 3003, some 3004, some 19, some 3007, some 3008] rfl ⟨⟨_, rfl, .refl _⟩, ⟨⟨_, rfl, .refl _⟩, ⟨⟨_, rfl, .refl _⟩, ⟨⟨_, rfl, .refl _⟩, ⟨⟨_, rfl, .refl _⟩, ⟨⟨_, rfl, .refl _⟩, ⟨⟨_, rfl, .refl _⟩, trivial⟩⟩⟩⟩⟩⟩⟩ ⟨⟨_, rfl, .refl _⟩, ⟨⟨_, rfl, .refl _⟩, ⟨⟨_, rfl, .refl _⟩, ⟨⟨_, rfl, .refl _⟩, ⟨⟨_, rfl, .refl _⟩, ⟨⟨_, rfl, .refl _⟩, ⟨⟨_, rfl, .refl _⟩, trivial⟩⟩⟩⟩⟩⟩⟩ (by decide)) ?_
                refine good_seq fun K26 hK26 => ?_
                refine good_region ?_
                refine g_op rfl (ValOk.op (v_assign rfl rfl ?_)) 
                refine g_nil ?_
                refine hK26 _ ?_
                refine good_seq fun K27 hK27 => ?_
                refine good_region ?_
                refine g_op rfl (ValOk.op (v_loadP tabOk rfl rfl tsize30 tagg30 rfl rfl rfl rfl ?_)) 
                refine g_op rfl (ValOk.op (v_move rfl rfl ?_)) 
                obtain ⟨y10, hy10, h⟩ := bnd h
                refine g_op rfl (o_callR [3007, 3008] [(_, _), (_, _)] (core_value rfl rfl) (m_laws_heldValue_ok k (Val.mk y5.1.kind y5.1.num y5.1.text y9.2.1 y9.2.2) 1 _ hy10) ⟨⟨_, rfl, .osl (FrzLL.map fun _ _ => encOVal_frz _)⟩, ⟨⟨_, rfl, .osl (FrzLL.map fun _ _ => encS_frz _)⟩, trivial⟩⟩ (.cons (.agg (.cons (.refl _) (.cons (.refl _) (.cons (.refl _) (.cons (.frz _ _ _ (.head _)) (.cons (.frz _ _ _ (.tail _ (.head _))) (.nil))))))) (.cons (.refl _) (.nil))) (.inr (.int _ _)) rfl ?_)
                refine g_op rfl (ValOk.op (v_assign rfl rfl ?_)) 
                refine g_nil ?_
                refine hK27 _ ?_
                refine Good.le (σ' := ⟨104, [(1, _), (2, _), (4, _), (6, _), (7, _), (9, _), (12, _), (13, _)], [(12, (_, _)), (16, (_, _)), (3003, (_, _)), (3004, (_, _)), (19, (_, _)), (3007, (_, _)), (3008, (_, _))]⟩) (le_w [some 12, some 16, some 3003, some 3004, some 19, some 3007, some 3008] rfl ⟨⟨_, rfl, .refl _⟩, ⟨⟨_, rfl, .refl _⟩, ⟨⟨_, rfl, .refl _⟩, ⟨⟨_, rfl, .refl _⟩, ⟨⟨_, rfl, .refl _⟩, ⟨⟨_, rfl, .refl _⟩, ⟨⟨_, rfl, .refl _⟩, ⟨⟨_, rfl, .refl _⟩, trivial⟩⟩⟩⟩⟩⟩⟩⟩ ⟨⟨_, rfl, .refl _⟩, ⟨⟨_, rfl, .refl _⟩, ⟨⟨_, rfl, .refl _⟩, ⟨⟨_, rfl, .refl _⟩, ⟨⟨_, rfl, .refl _⟩, ⟨⟨_, rfl, .refl _⟩, ⟨⟨_, rfl, .refl _⟩, trivial⟩⟩⟩⟩⟩⟩⟩ (by decide)) ?_
                refine good_seq fun K28 hK28 => ?_
                refine good_seq fun K29 hK29 => ?_
                refine good_region ?_
                refine g_op rfl (ValOk.op (v_move rfl rfl ?_)) 
                refine g_op rfl (ValOk.op (v_bin rfl rfl rfl rfl ?_)) 
                refine g_nil ?_
                refine hK29 _ ?_
                refine Good.le (σ' := ⟨104, [(1, _), (2, _), (4, _), (6, _), (7, _), (9, _), (12, _), (13, _), (76, _)], [(12, (_, _)), (16, (_, _)), (3003, (_, _)), (3004, (_, _)), (19, (_, _)), (3007, (_, _)), (3008, (_, _))]⟩) (le_w [some 12, some 16, some 3003, some 3004, some 19, some 3007, some 3008] rfl ⟨⟨_, rfl, .refl _⟩, ⟨⟨_, rfl, .refl _⟩, ⟨⟨_, rfl, .refl _⟩, ⟨⟨_, rfl, .refl _⟩, ⟨⟨_, rfl, .refl _⟩, ⟨⟨_, rfl, .refl _⟩, ⟨⟨_, rfl, .refl _⟩, ⟨⟨_, rfl, .refl _⟩, ⟨⟨_, rfl, .refl _⟩, trivial⟩⟩⟩⟩⟩⟩⟩⟩⟩ ⟨⟨_, rfl, .refl _⟩, ⟨⟨_, rfl, .refl _⟩, ⟨⟨_, rfl, .refl _⟩, ⟨⟨_, rfl, .refl _⟩, ⟨⟨_, rfl, .refl _⟩, ⟨⟨_, rfl, .refl _⟩, ⟨⟨_, rfl, .refl _⟩, trivial⟩⟩⟩⟩⟩⟩⟩ (by decide)) ?_
                refine good_cond rfl (fun hc6 => ?_) (fun hc6 => ?_)
                · replace h := ifT h (dT hc6)
                  refine good_seq fun K30 hK30 => ?_
                  refine good_region ?_
                  refine g_op rfl (ValOk.op (v_assign rfl rfl ?_)) 
                  refine g_nil ?_
                  refine hK30 _ ?_
                  refine Good.le (σ' := ⟨104, [(1, _), (2, _), (4, _), (6, _), (7, _), (9, _), (12, _), (13, _)], [(12, (_, _)), (16, (_, _)), (3003, (_, _)), (3004, (_, _)), (19, (_, _)), (3007, (_, _)), (3008, (_, _))]⟩) (le_w [some 12, some 16, some 3003, some 3004, some 19, some 3007, some 3008] rfl ⟨⟨_, rfl, .refl _⟩, ⟨⟨_, rfl, .refl _⟩, ⟨⟨_, rfl, .refl _⟩, ⟨⟨_, rfl, .refl _⟩, ⟨⟨_, rfl, .refl _⟩, ⟨⟨_, rfl, .refl _⟩, ⟨⟨_, rfl, .refl _⟩, ⟨⟨_, rfl, .refl _⟩, trivial⟩⟩⟩⟩⟩⟩⟩⟩ ⟨⟨_, rfl, .refl _⟩, ⟨⟨_, rfl, .refl _⟩, ⟨⟨_, rfl, .refl _⟩, ⟨⟨_, rfl, .refl _⟩, ⟨⟨_, rfl, .refl _⟩, ⟨⟨_, rfl, .refl _⟩, ⟨⟨_, rfl, .refl _⟩, trivial⟩⟩⟩⟩⟩⟩⟩ (by decide)) ?_
                  refine Good.le (σ' := ⟨104, [(4, .bool false)], []⟩) (le_w [] rfl ⟨⟨_, rfl, .refl _⟩, trivial⟩ trivial (by decide)) ?_
                  refine good_ret ?_
                  obtain rfl := Option.some.inj h
                  refine thenQ_ret ?_
                  exact endQ_ret (h' := []) [] (.tmp rfl (.nil)) trivial (by decide) ⟨rfl, rfl⟩
                · replace h := ifF h (dF hc6)
                  refine good_skip ?_
                  refine hK28 _ ?_
                  refine Good.le (σ' := ⟨104, [(1, _), (2, _), (4, _), (6, _), (7, _), (9, _), (12, _), (13, _)], [(12, (_, _)), (16, (_, _)), (3003, (_, _)), (3004, (_, _)), (19, (_, _)), (3007, (_, _)), (3008, (_, _))]⟩) (le_w [some 12, some 16, some 3003, some 3004, some 19, some 3007, some 3008] rfl ⟨⟨_, rfl, .refl _⟩, ⟨⟨_, rfl, .refl _⟩, ⟨⟨_, rfl, .refl _⟩, ⟨⟨_, rfl, .refl _⟩, ⟨⟨_, rfl, .refl _⟩, ⟨⟨_, rfl, .refl _⟩, ⟨⟨_, rfl, .refl _⟩, ⟨⟨_, rfl, .refl _⟩, trivial⟩⟩⟩⟩⟩⟩⟩⟩ ⟨⟨_, rfl, .refl _⟩, ⟨⟨_, rfl, .refl _⟩, ⟨⟨_, rfl, .refl _⟩, ⟨⟨_, rfl, .refl _⟩, ⟨⟨_, rfl, .refl _⟩, ⟨⟨_, rfl, .refl _⟩, ⟨⟨_, rfl, .refl _⟩, trivial⟩⟩⟩⟩⟩⟩⟩ (by decide)) ?_
                  refine good_seq fun K31 hK31 => ?_
                  refine good_seq fun K32 hK32 => ?_
                  refine good_region ?_
                  refine g_op rfl (ValOk.op (v_move rfl rfl ?_)) 
                  refine g_op rfl (ValOk.op (v_move rfl rfl ?_)) 
                  refine g_op rfl (ValOk.op (v_bin rfl rfl rfl rfl ?_)) 
                  refine g_nil ?_
                  refine hK32 _ ?_
                  refine Good.le (σ' := ⟨104, [(1, _), (2, _), (4, _), (6, _), (7, _), (9, _), (12, _), (79, _)], [(12, (_, _)), (16, (_, _)), (3003, (_, _)), (3004, (_, _)), (19, (_, _)), (3007, (_, _)), (3008, (_, _))]⟩) (le_w [some 12, some 16, some 3003, some 3004, some 19, some 3007, some 3008] rfl ⟨⟨_, rfl, .refl _⟩, ⟨⟨_, rfl, .refl _⟩, ⟨⟨_, rfl, .refl _⟩, ⟨⟨_, rfl, .refl _⟩, ⟨⟨_, rfl, .refl _⟩, ⟨⟨_, rfl, .refl _⟩, ⟨⟨_, rfl, .refl _⟩, ⟨⟨_, rfl, .refl _⟩, trivial⟩⟩⟩⟩⟩⟩⟩⟩ ⟨⟨_, rfl, .refl _⟩, ⟨⟨_, rfl, .refl _⟩, ⟨⟨_, rfl, .refl _⟩, ⟨⟨_, rfl, .refl _⟩, ⟨⟨_, rfl, .refl _⟩, ⟨⟨_, rfl, .refl _⟩, ⟨⟨_, rfl, .refl _⟩, trivial⟩⟩⟩⟩⟩⟩⟩ (by decide)) ?_
                  refine good_cond rfl (fun hc7 => ?_) (fun hc7 => ?_)
                  · replace h := ifF h (ndT hc7)
                    refine good_seq fun K33 hK33 => ?_
                    refine good_region ?_
                    refine g_op rfl (ValOk.op (v_assign rfl rfl ?_)) 
                    refine g_nil ?_
                    refine hK33 _ ?_
                    refine Good.le (σ' := ⟨104, [(1, _), (2, _), (4, _), (6, _), (7, _), (9, _), (12, _)], [(12, (_, _)), (16, (_, _)), (3003, (_, _)), (3004, (_, _)), (19, (_, _)), (3007, (_, _)), (3008, (_, _))]⟩) (le_w [some 12, some 16, some 3003, some 3004, some 19, some 3007, some 3008] rfl ⟨⟨_, rfl, .refl _⟩, ⟨⟨_, rfl, .refl _⟩, ⟨⟨_, rfl, .refl _⟩, ⟨⟨_, rfl, .refl _⟩, ⟨⟨_, rfl, .refl _⟩, ⟨⟨_, rfl, .refl _⟩, ⟨⟨_, rfl, .refl _⟩, trivial⟩⟩⟩⟩⟩⟩⟩ ⟨⟨_, rfl, .refl _⟩, ⟨⟨_, rfl, .refl _⟩, ⟨⟨_, rfl, .refl _⟩, ⟨⟨_, rfl, .refl _⟩, ⟨⟨_, rfl, .refl _⟩, ⟨⟨_, rfl, .refl _⟩, ⟨⟨_, rfl, .refl _⟩, trivial⟩⟩⟩⟩⟩⟩⟩ (by decide)) ?_
                    refine Good.le (σ' := ⟨104, [(4, .bool false)], []⟩) (le_w [] rfl ⟨⟨_, rfl, .refl _⟩, trivial⟩ trivial (by decide)) ?_
                    refine good_ret ?_
                    obtain rfl := Option.some.inj h
                    refine thenQ_ret ?_
                    exact endQ_ret (h' := []) [] (.tmp rfl (.nil)) trivial (by decide) ⟨rfl, rfl⟩
                  · replace h := ifT h (ndF hc7)
                    refine good_skip ?_
                    refine hK31 _ ?_
                    refine Good.le (σ' := ⟨104, [(1, _), (2, _), (4, _), (6, _), (7, _), (9, _), (12, _)], [(12, (_, _)), (16, (_, _)), (3003, (_, _)), (3004, (_, _)), (19, (_, _)), (3007, (_, _)), (3008, (_, _))]⟩) (le_w [some 12, some 16, some 3003, some 3004, some 19, some 3007, some 3008] rfl ⟨⟨_, rfl, .refl _⟩, ⟨⟨_, rfl, .refl _⟩, ⟨⟨_, rfl, .refl _⟩, ⟨⟨_, rfl, .refl _⟩, ⟨⟨_, rfl, .refl _⟩, ⟨⟨_, rfl, .refl _⟩, ⟨⟨_, rfl, .refl _⟩, trivial⟩⟩⟩⟩⟩⟩⟩ ⟨⟨_, rfl, .refl _⟩, ⟨⟨_, rfl, .refl _⟩, ⟨⟨_, rfl, .refl _⟩, ⟨⟨_, rfl, .refl _⟩, ⟨⟨_, rfl, .refl _⟩, ⟨⟨_, rfl, .refl _⟩, ⟨⟨_, rfl, .refl _⟩, trivial⟩⟩⟩⟩⟩⟩⟩ (by decide)) ?_
                    refine good_seq fun K34 hK34 => ?_
                    refine good_region ?_
                    refine g_op rfl (ValOk.op (v_loadP tabOk rfl rfl tsize25 tagg25 rfl rfl rfl rfl ?_)) 
                    obtain ⟨y11, hy11, h⟩ := bnd h
                    refine g_op rfl (o_callD [] [] [] (core_value rfl rfl) (m_laws_toValue_ok k a0 _ hy11) trivial (.cons (.refl _) (.nil)) trivial rfl rfl rfl ?_)
                    rintro _ _ ⟨w9, w10, rfl, rfl⟩
                    refine ⟨.agg [.int .i64 y11.kind, .int .i64 y11.num, .str y11.text, .hd 3009 w9, .hd 3010 w10], [(3009, _), (3010, _)], .agg (.cons (.refl _) (.cons (.refl _) (.cons (.refl _) (.cons (.hd _ _ _) (.cons (.hd _ _ _) (.nil)))))), rfl, rfl, rfl, rfl, .inl rfl, ?_⟩
                    refine g_op rfl (ValOk.op (v_move rfl rfl ?_)) 
                    obtain ⟨y12, hy12, h⟩ := bnd h
                    refine g_op rfl (o_callD [3009, 3010] [(_, _), (_, _)] [] (core_value rfl rfl) (m_impl_TreeGet_ok k y11 a1 _ hy12) ⟨⟨_, rfl, .osl (FrzLL.map fun _ _ => encOVal_frz _)⟩, ⟨⟨_, rfl, .osl (FrzLL.map fun _ _ => encS_frz _)⟩, trivial⟩⟩ (.cons (.agg (.cons (.refl _) (.cons (.refl _) (.cons (.refl _) (.cons (.frz _ _ _ (.head _)) (.cons (.frz _ _ _ (.tail _ (.head _))) (.nil))))))) (.cons (.refl _) (.nil))) trivial rfl rfl rfl ?_)
                    rintro _ _ ⟨w11, w12, rfl, rfl⟩
                    refine ⟨.tup [.agg [.int .i64 y12.1.kind, .int .i64 y12.1.num, .str y12.1.text, .hd 3011 w11, .hd 3012 w12], .bool y12.2], [(3011, _), (3012, _)], .tup (.cons (.agg (.cons (.refl _) (.cons (.refl _) (.cons (.refl _) (.cons (.hd _ _ _) (.cons (.hd _ _ _) (.nil))))))) (.cons (.refl _) (.nil))), rfl, rfl, rfl, rfl, .inr ⟨.tup _ (by intro av hav; simp only [List.mem_cons, List.not_mem_nil, or_false] at hav; rcases hav with rfl | rfl; exact (.agg _ (by intro av hav; simp only [List.mem_cons, List.not_mem_nil, or_false] at hav; rcases hav with rfl | rfl | rfl | rfl | rfl <;> constructor)); exact (.bool _)), (by intro p hp; simp only [List.mem_cons, List.not_mem_nil, or_false] at hp; rcases hp with rfl | rfl; exact cln_rows fun _ => encOVal_cln _; exact cln_rows fun _ => encS_cln _)⟩, ?_⟩
                    refine g_op rfl (ValOk.op (v_move rfl rfl ?_)) 
                    refine g_op rfl (ValOk.op (v_extract rfl rfl rfl ?_)) 
                    refine g_op rfl (ValOk.op (v_extract rfl rfl rfl ?_)) 
                    refine g_op rfl (o_alloc (k := 24) tabOk tzero30 rfl rfl ?_)
                    intro b5
                    refine g_op rfl (o_storeP tabOk (cs' := [.int .i64 y12.1.kind, .int .i64 y12.1.num, .str y12.1.text, .hd 3011 w11, .hd 3012 w12]) rfl rfl tsize30 rfl rfl rfl (Nat.le_of_ble_eq_true rfl) rfl rfl rfl ?_)
                    refine g_op rfl (ValOk.op (v_assign rfl rfl ?_)) 
                    refine g_nil ?_
                    refine hK34 _ ?_
                    refine Good.le (σ' := ⟨104, [(4, _), (6, _), (7, _), (9, _), (12, _), (14, _), (15, _)], [(16, (_, _)), (3003, (_, _)), (3004, (_, _)), (19, (_, _)), (3007, (_, _)), (3008, (_, _)), (24, (_, _)), (3011, (_, _)), (3012, (_, _))]⟩) (le_w [some 16, some 3003, some 3004, some 19, some 3007, some 3008, some 24, some 3011, some 3012] rfl ⟨⟨_, rfl, .refl _⟩, ⟨⟨_, rfl, .refl _⟩, ⟨⟨_, rfl, .refl _⟩, ⟨⟨_, rfl, .refl _⟩, ⟨⟨_, rfl, .refl _⟩, ⟨⟨_, rfl, .refl _⟩, ⟨⟨_, rfl, .refl _⟩, trivial⟩⟩⟩⟩⟩⟩⟩ ⟨⟨_, rfl, .refl _⟩, ⟨⟨_, rfl, .refl _⟩, ⟨⟨_, rfl, .refl _⟩, ⟨⟨_, rfl, .refl _⟩, ⟨⟨_, rfl, .refl _⟩, ⟨⟨_, rfl, .refl _⟩, ⟨⟨_, rfl, .refl _⟩, ⟨⟨_, rfl, .refl _⟩, ⟨⟨_, rfl, .refl _⟩, trivial⟩⟩⟩⟩⟩⟩⟩⟩⟩ (by decide)) ?_
                    refine good_seq fun K35 hK35 => ?_
                    refine good_seq fun K36 hK36 => ?_
                    obtain ⟨o3, ho3, hJ3⟩ := bnd h
                    have hw3 : ∀ (s3 : Bool), o3 = Lp.go s3 → ∀ σ', Le σ' ⟨104, [(4, .bool false), (9, .ptr 19 b4 0), (12, .int .i64 y9.1), (95, .bool s3)], [(19, ((.pointer (some ⟨b4, 0, none⟩)), .optr 30 [.int .i64 y5.1.kind, .int .i64 y5.1.num, .str y5.1.text, .hd 3007 w7, .hd 3008 w8])), (3007, (w7, .osl 30 5 (y9.2.1.map encOVal))), (3008, (w8, .osl 9 1 (y9.2.2.map encS)))]⟩ → K36 σ' := by
                      intro s3 e3 σ' hle3
                      subst e3
                      refine hK36 _ (Good.le hle3 ?_)
                      replace h := hJ3
                      refine good_cond rfl (fun hc8 => ?_) (fun hc8 => ?_)
                      · replace h := ifT h hc8
                        refine good_seq fun K37 hK37 => ?_
                        refine good_region ?_
                        refine g_op rfl (ValOk.op (v_assign rfl rfl ?_)) 
                        refine g_nil ?_
                        refine hK37 _ ?_
                        refine Good.le (σ' := ⟨104, [(4, _), (9, _), (12, _)], [(19, (_, _)), (3007, (_, _)), (3008, (_, _))]⟩) (le_w [some 19, some 3007, some 3008] rfl ⟨⟨_, rfl, .refl _⟩, ⟨⟨_, rfl, .refl _⟩, ⟨⟨_, rfl, .refl _⟩, trivial⟩⟩⟩ ⟨⟨_, rfl, .refl _⟩, ⟨⟨_, rfl, .refl _⟩, ⟨⟨_, rfl, .refl _⟩, trivial⟩⟩⟩ (by decide)) ?_
                        refine Good.le (σ' := ⟨104, [(4, .bool false)], []⟩) (le_w [] rfl ⟨⟨_, rfl, .refl _⟩, trivial⟩ trivial (by decide)) ?_
                        refine good_ret ?_
                        obtain rfl := Option.some.inj h
                        refine thenQ_ret ?_
                        exact endQ_ret (h' := []) [] (.tmp rfl (.nil)) trivial (by decide) ⟨rfl, rfl⟩
                      · replace h := bF h hc8
                        refine good_skip ?_
                        refine hK35 _ ?_
                        refine Good.le (σ' := ⟨104, [(4, _), (9, _), (12, _)], [(19, (_, _)), (3007, (_, _)), (3008, (_, _))]⟩) (le_w [some 19, some 3007, some 3008] rfl ⟨⟨_, rfl, .refl _⟩, ⟨⟨_, rfl, .refl _⟩, ⟨⟨_, rfl, .refl _⟩, trivial⟩⟩⟩ ⟨⟨_, rfl, .refl _⟩, ⟨⟨_, rfl, .refl _⟩, ⟨⟨_, rfl, .refl _⟩, trivial⟩⟩⟩ (by decide)) ?_
                        refine good_seq fun K38 hK38 => ?_
                        refine good_region ?_
                        refine g_op rfl (ValOk.op (v_assign rfl rfl ?_)) 
                        refine g_nil ?_
                        refine hK38 _ ?_
                        refine good_seq fun K39 hK39 => ?_
                        refine good_region ?_
                        refine g_op rfl (ValOk.op (v_loadP tabOk rfl rfl tsize30 tagg30 rfl rfl rfl rfl ?_)) 
                        refine g_op rfl (ValOk.op (v_move rfl rfl ?_)) 
                        obtain ⟨y13, hy13, h⟩ := bnd h
                        refine g_op rfl (o_callR [3007, 3008] [(_, _), (_, _)] (core_value rfl rfl) (m_laws_heldValue_ok k (Val.mk y5.1.kind y5.1.num y5.1.text y9.2.1 y9.2.2) 1 _ hy13) ⟨⟨_, rfl, .osl (FrzLL.map fun _ _ => encOVal_frz _)⟩, ⟨⟨_, rfl, .osl (FrzLL.map fun _ _ => encS_frz _)⟩, trivial⟩⟩ (.cons (.agg (.cons (.refl _) (.cons (.refl _) (.cons (.refl _) (.cons (.frz _ _ _ (.head _)) (.cons (.frz _ _ _ (.tail _ (.head _))) (.nil))))))) (.cons (.refl _) (.nil))) (.inr (.int _ _)) rfl ?_)
                        refine g_op rfl (ValOk.op (v_assign rfl rfl ?_)) 
                        refine g_nil ?_
                        refine hK39 _ ?_
                        refine Good.le (σ' := ⟨104, [(4, _), (12, _), (13, _)], []⟩) (le_w [] rfl ⟨⟨_, rfl, .refl _⟩, ⟨⟨_, rfl, .refl _⟩, ⟨⟨_, rfl, .refl _⟩, trivial⟩⟩⟩ trivial (by decide)) ?_
                        refine good_seq fun K40 hK40 => ?_
                        refine good_seq fun K41 hK41 => ?_
                        refine good_region ?_
                        refine g_op rfl (ValOk.op (v_move rfl rfl ?_)) 
                        refine g_op rfl (ValOk.op (v_bin rfl rfl rfl rfl ?_)) 
                        refine g_nil ?_
                        refine hK41 _ ?_
                        refine Good.le (σ' := ⟨104, [(4, _), (12, _), (13, _), (100, _)], []⟩) (le_w [] rfl ⟨⟨_, rfl, .refl _⟩, ⟨⟨_, rfl, .refl _⟩, ⟨⟨_, rfl, .refl _⟩, ⟨⟨_, rfl, .refl _⟩, trivial⟩⟩⟩⟩ trivial (by decide)) ?_
                        refine good_cond rfl (fun hc9 => ?_) (fun hc9 => ?_)
                        · replace h := ifT h (dT hc9)
                          refine good_seq fun K42 hK42 => ?_
                          refine good_region ?_
                          refine g_op rfl (ValOk.op (v_assign rfl rfl ?_)) 
                          refine g_nil ?_
                          refine hK42 _ ?_
                          refine Good.le (σ' := ⟨104, [(4, _), (12, _), (13, _)], []⟩) (le_w [] rfl ⟨⟨_, rfl, .refl _⟩, ⟨⟨_, rfl, .refl _⟩, ⟨⟨_, rfl, .refl _⟩, trivial⟩⟩⟩ trivial (by decide)) ?_
                          refine Good.le (σ' := ⟨104, [(4, .bool false)], []⟩) (le_w [] rfl ⟨⟨_, rfl, .refl _⟩, trivial⟩ trivial (by decide)) ?_
                          refine good_ret ?_
                          obtain rfl := Option.some.inj h
                          refine thenQ_ret ?_
                          exact endQ_ret (h' := []) [] (.tmp rfl (.nil)) trivial (by decide) ⟨rfl, rfl⟩
                        · replace h := ifF h (dF hc9)
                          refine good_skip ?_
                          refine hK40 _ ?_
                          refine Good.le (σ' := ⟨104, [(4, _), (12, _), (13, _)], []⟩) (le_w [] rfl ⟨⟨_, rfl, .refl _⟩, ⟨⟨_, rfl, .refl _⟩, ⟨⟨_, rfl, .refl _⟩, trivial⟩⟩⟩ trivial (by decide)) ?_
                          refine good_seq fun K43 hK43 => ?_
                          refine good_seq fun K44 hK44 => ?_
                          refine good_region ?_
                          refine g_op rfl (ValOk.op (v_move rfl rfl ?_)) 
                          refine g_op rfl (ValOk.op (v_move rfl rfl ?_)) 
                          refine g_op rfl (ValOk.op (v_bin rfl rfl rfl rfl ?_)) 
                          refine g_nil ?_
                          refine hK44 _ ?_
                          refine Good.le (σ' := ⟨104, [(4, _), (103, _)], []⟩) (le_w [] rfl ⟨⟨_, rfl, .refl _⟩, ⟨⟨_, rfl, .refl _⟩, trivial⟩⟩ trivial (by decide)) ?_
                          refine good_cond rfl (fun hc10 => ?_) (fun hc10 => ?_)
                          · replace h := ifF h (ndT hc10)
                            refine good_seq fun K45 hK45 => ?_
                            refine good_region ?_
                            refine g_op rfl (ValOk.op (v_assign rfl rfl ?_)) 
                            refine g_nil ?_
                            refine hK45 _ ?_
                            refine Good.le (σ' := ⟨104, [(4, _)], []⟩) (le_w [] rfl ⟨⟨_, rfl, .refl _⟩, trivial⟩ trivial (by decide)) ?_
                            refine Good.le (σ' := ⟨104, [(4, .bool false)], []⟩) (le_w [] rfl ⟨⟨_, rfl, .refl _⟩, trivial⟩ trivial (by decide)) ?_
                            refine good_ret ?_
                            obtain rfl := Option.some.inj h
                            refine thenQ_ret ?_
                            exact endQ_ret (h' := []) [] (.tmp rfl (.nil)) trivial (by decide) ⟨rfl, rfl⟩
                          · replace h := ifT h (ndF hc10)
                            refine good_skip ?_
                            refine hK43 _ ?_
                            refine Good.le (σ' := ⟨104, [(4, _)], []⟩) (le_w [] rfl ⟨⟨_, rfl, .refl _⟩, trivial⟩ trivial (by decide)) ?_
                            refine good_seq fun K46 hK46 => ?_
                            refine good_region ?_
                            refine g_op rfl (ValOk.op (v_assign rfl rfl ?_)) 
                            refine g_nil ?_
                            refine hK46 _ ?_
                            refine Good.le (σ' := ⟨104, [(4, .bool true)], []⟩) (le_w [] rfl ⟨⟨_, rfl, .refl _⟩, trivial⟩ trivial (by decide)) ?_
                            refine good_ret ?_
                            obtain rfl := Option.some.inj h
                            exact endQ_ret (h' := []) [] (.tmp rfl (.nil)) trivial (by decide) ⟨rfl, rfl⟩
                    replace h := ho3
                    refine good_region ?_
                    refine g_op rfl (ValOk.op (v_loadP tabOk rfl rfl tsize30 tagg30 rfl rfl rfl rfl ?_)) 
                    refine g_op rfl (ValOk.op (v_loadP tabOk rfl rfl tsize30 tagg30 rfl rfl rfl rfl ?_)) 
                    obtain ⟨y14, hy14, h⟩ := bnd h
                    refine g_op rfl (o_callR [3011, 3012, 3003, 3004] [(_, _), (_, _), (_, _), (_, _)] (core_value rfl rfl) (m_laws_eqValue_ok k y12.1 y3.1 _ hy14) ⟨⟨_, rfl, .osl (FrzLL.map fun _ _ => encOVal_frz _)⟩, ⟨⟨_, rfl, .osl (FrzLL.map fun _ _ => encS_frz _)⟩, ⟨⟨_, rfl, .osl (FrzLL.map fun _ _ => encOVal_frz _)⟩, ⟨⟨_, rfl, .osl (FrzLL.map fun _ _ => encS_frz _)⟩, trivial⟩⟩⟩⟩ (.cons (.agg (.cons (.refl _) (.cons (.refl _) (.cons (.refl _) (.cons (.frz _ _ _ (.head _)) (.cons (.frz _ _ _ (.tail _ (.head _))) (.nil))))))) (.cons (.agg (.cons (.refl _) (.cons (.refl _) (.cons (.refl _) (.cons (.frz _ _ _ (.tail _ (.tail _ (.head _)))) (.cons (.frz _ _ _ (.tail _ (.tail _ (.tail _ (.head _))))) (.nil))))))) (.nil))) (.inr (.bool _)) rfl ?_)
                    refine g_op rfl (ValOk.op (v_not rfl rfl ?_)) 
                    refine g_op rfl (ValOk.op (v_move rfl rfl ?_)) 
                    rcases bsplit ((!y14)) with hg1 | hg1
                    · replace h := bF h (nT hg1)
                      refine g_no rfl rfl hg1 rfl ?_
                      refine g_no rfl rfl hg1 rfl ?_
                      refine g_no rfl rfl hg1 rfl ?_
                      refine g_op rfl (ValOk.op (v_pickT rfl hg1 rfl rfl ?_)) 
                      refine g_nil ?_
                      exact hw3 true (Option.some.inj h).symm _ (le_w [some 19, some 3007, some 3008] rfl ⟨⟨_, rfl, .refl _⟩, ⟨⟨_, rfl, .refl _⟩, ⟨⟨_, rfl, .refl _⟩, ⟨⟨_, rfl, .refl _⟩, trivial⟩⟩⟩⟩ ⟨⟨_, rfl, .refl _⟩, ⟨⟨_, rfl, .refl _⟩, ⟨⟨_, rfl, .refl _⟩, trivial⟩⟩⟩ (by decide))
                    · replace h := ifT h (nF hg1)
                      refine g_yes rfl rfl hg1 (ValOk.op (v_move rfl rfl ?_)) 
                      refine g_yes rfl rfl hg1 (ValOk.op (v_move rfl rfl ?_)) 
                      refine g_yes rfl rfl hg1 (ValOk.op (v_binT tabOk (r := .bool (!decide (y12.2 = y3.2))) rfl rfl (by simp [binT, eqr]) rfl ?_)) 
                      refine g_op rfl (ValOk.op (v_pickF rfl hg1 rfl rfl ?_)) 
                      refine g_nil ?_
                      exact hw3 (!(decide (y12.2 = y3.2))) (Option.some.inj h).symm _ (le_w [some 19, some 3007, some 3008] rfl ⟨⟨_, rfl, .refl _⟩, ⟨⟨_, rfl, .refl _⟩, ⟨⟨_, rfl, .refl _⟩, ⟨⟨_, rfl, .refl _⟩, trivial⟩⟩⟩⟩ ⟨⟨_, rfl, .refl _⟩, ⟨⟨_, rfl, .refl _⟩, ⟨⟨_, rfl, .refl _⟩, trivial⟩⟩⟩ (by decide))
            replace h := ho2
            refine good_region ?_
            refine g_op rfl (ValOk.op (v_move rfl rfl ?_)) 
            refine g_op rfl (ValOk.op (v_bin rfl rfl rfl rfl ?_)) 
            refine g_op rfl (ValOk.op (v_move rfl rfl ?_)) 
            rcases bsplit ((decide (y8.1 < 0))) with hg2 | hg2
            · replace h := ifT h (dT hg2)
              refine g_no rfl rfl hg2 rfl ?_
              refine g_no rfl rfl hg2 rfl ?_
              refine g_no rfl rfl hg2 rfl ?_
              refine g_no rfl rfl hg2 rfl ?_
              refine g_op rfl (ValOk.op (v_pickT rfl hg2 rfl rfl ?_)) 
              refine g_op rfl (ValOk.op (v_move rfl rfl ?_)) 
              refine g_no rfl rfl rfl rfl ?_
              refine g_no rfl rfl rfl rfl ?_
              refine g_no rfl rfl rfl rfl ?_
              refine g_op rfl (ValOk.op (v_pickT rfl rfl rfl rfl ?_)) 
              refine g_nil ?_
              exact hw2 true (Option.some.inj h).symm _ (le_w [some 12, some 16, some 3003, some 3004, some 19, some 3007, some 3008] rfl ⟨⟨_, rfl, .refl _⟩, ⟨⟨_, rfl, .refl _⟩, ⟨⟨_, rfl, .refl _⟩, ⟨⟨_, rfl, .refl _⟩, ⟨⟨_, rfl, .refl _⟩, ⟨⟨_, rfl, .refl _⟩, ⟨⟨_, rfl, .refl _⟩, trivial⟩⟩⟩⟩⟩⟩⟩ ⟨⟨_, rfl, .refl _⟩, ⟨⟨_, rfl, .refl _⟩, ⟨⟨_, rfl, .refl _⟩, ⟨⟨_, rfl, .refl _⟩, ⟨⟨_, rfl, .refl _⟩, ⟨⟨_, rfl, .refl _⟩, ⟨⟨_, rfl, .refl _⟩, trivial⟩⟩⟩⟩⟩⟩⟩ (by decide))
            · replace h := ifF h (dF hg2)
              refine g_yes rfl rfl hg2 (ValOk.op (v_loadP tabOk rfl rfl tsize30 tagg30 rfl rfl rfl rfl ?_)) 
              refine g_yes rfl rfl hg2 (ValOk.op (v_loadP tabOk rfl rfl tsize30 tagg30 rfl rfl rfl rfl ?_)) 
              obtain ⟨y15, hy15, h⟩ := bnd h
              refine g_yes rfl rfl hg2 (o_callR [3007, 3008, 3003, 3004] [(_, _), (_, _), (_, _), (_, _)] (core_value rfl rfl) (m_laws_eqValue_ok k y5.1 y3.1 _ hy15) ⟨⟨_, rfl, .osl (FrzLL.map fun _ _ => encOVal_frz _)⟩, ⟨⟨_, rfl, .osl (FrzLL.map fun _ _ => encS_frz _)⟩, ⟨⟨_, rfl, .osl (FrzLL.map fun _ _ => encOVal_frz _)⟩, ⟨⟨_, rfl, .osl (FrzLL.map fun _ _ => encS_frz _)⟩, trivial⟩⟩⟩⟩ (.cons (.agg (.cons (.refl _) (.cons (.refl _) (.cons (.refl _) (.cons (.frz _ _ _ (.head _)) (.cons (.frz _ _ _ (.tail _ (.head _))) (.nil))))))) (.cons (.agg (.cons (.refl _) (.cons (.refl _) (.cons (.refl _) (.cons (.frz _ _ _ (.tail _ (.tail _ (.head _)))) (.cons (.frz _ _ _ (.tail _ (.tail _ (.tail _ (.head _))))) (.nil))))))) (.nil))) (.inr (.bool _)) rfl ?_)
              refine g_yes rfl rfl hg2 (ValOk.op (v_not rfl rfl ?_)) 
              refine g_op rfl (ValOk.op (v_pickF rfl hg2 rfl rfl ?_)) 
              refine g_op rfl (ValOk.op (v_move rfl rfl ?_)) 
              rcases bsplit ((!y15)) with hg3 | hg3
              · replace h := bF h (nT hg3)
                refine g_no rfl rfl hg3 rfl ?_
                refine g_no rfl rfl hg3 rfl ?_
                refine g_no rfl rfl hg3 rfl ?_
                refine g_op rfl (ValOk.op (v_pickT rfl hg3 rfl rfl ?_)) 
                refine g_nil ?_
                exact hw2 true (Option.some.inj h).symm _ (le_w [some 12, some 16, some 3003, some 3004, some 19, some 3007, some 3008] rfl ⟨⟨_, rfl, .refl _⟩, ⟨⟨_, rfl, .refl _⟩, ⟨⟨_, rfl, .refl _⟩, ⟨⟨_, rfl, .refl _⟩, ⟨⟨_, rfl, .refl _⟩, ⟨⟨_, rfl, .refl _⟩, ⟨⟨_, rfl, .refl _⟩, trivial⟩⟩⟩⟩⟩⟩⟩ ⟨⟨_, rfl, .refl _⟩, ⟨⟨_, rfl, .refl _⟩, ⟨⟨_, rfl, .refl _⟩, ⟨⟨_, rfl, .refl _⟩, ⟨⟨_, rfl, .refl _⟩, ⟨⟨_, rfl, .refl _⟩, ⟨⟨_, rfl, .refl _⟩, trivial⟩⟩⟩⟩⟩⟩⟩ (by decide))
              · replace h := ifT h (nF hg3)
                refine g_yes rfl rfl hg3 (ValOk.op (v_move rfl rfl ?_)) 
                refine g_yes rfl rfl hg3 (ValOk.op (v_move rfl rfl ?_)) 
                refine g_yes rfl rfl hg3 (ValOk.op (v_binT tabOk (r := .bool (!decide (y5.2 = y3.2))) rfl rfl (by simp [binT, eqr]) rfl ?_)) 
                refine g_op rfl (ValOk.op (v_pickF rfl hg3 rfl rfl ?_)) 
                refine g_nil ?_
                exact hw2 (!(decide (y5.2 = y3.2))) (Option.some.inj h).symm _ (le_w [some 12, some 16, some 3003, some 3004, some 19, some 3007, some 3008] rfl ⟨⟨_, rfl, .refl _⟩, ⟨⟨_, rfl, .refl _⟩, ⟨⟨_, rfl, .refl _⟩, ⟨⟨_, rfl, .refl _⟩, ⟨⟨_, rfl, .refl _⟩, ⟨⟨_, rfl, .refl _⟩, ⟨⟨_, rfl, .refl _⟩, trivial⟩⟩⟩⟩⟩⟩⟩ ⟨⟨_, rfl, .refl _⟩, ⟨⟨_, rfl, .refl _⟩, ⟨⟨_, rfl, .refl _⟩, ⟨⟨_, rfl, .refl _⟩, ⟨⟨_, rfl, .refl _⟩, ⟨⟨_, rfl, .refl _⟩, ⟨⟨_, rfl, .refl _⟩, trivial⟩⟩⟩⟩⟩⟩⟩ (by decide))
      replace h := ho1
      refine good_region ?_
      refine g_op rfl (ValOk.op (v_loadP tabOk rfl rfl tsize30 tagg30 rfl rfl rfl rfl ?_)) 
      refine g_op rfl (ValOk.op (v_loadP tabOk rfl rfl tsize30 tagg30 rfl rfl rfl rfl ?_)) 
      obtain ⟨y16, hy16, h⟩ := bnd h
      refine g_op rfl (o_callR [3007, 3008, 3003, 3004] [(_, _), (_, _), (_, _), (_, _)] (core_value rfl rfl) (m_laws_eqValue_ok k y5.1 y3.1 _ hy16) ⟨⟨_, rfl, .osl (FrzLL.map fun _ _ => encOVal_frz _)⟩, ⟨⟨_, rfl, .osl (FrzLL.map fun _ _ => encS_frz _)⟩, ⟨⟨_, rfl, .osl (FrzLL.map fun _ _ => encOVal_frz _)⟩, ⟨⟨_, rfl, .osl (FrzLL.map fun _ _ => encS_frz _)⟩, trivial⟩⟩⟩⟩ (.cons (.agg (.cons (.refl _) (.cons (.refl _) (.cons (.refl _) (.cons (.frz _ _ _ (.head _)) (.cons (.frz _ _ _ (.tail _ (.head _))) (.nil))))))) (.cons (.agg (.cons (.refl _) (.cons (.refl _) (.cons (.refl _) (.cons (.frz _ _ _ (.tail _ (.tail _ (.head _)))) (.cons (.frz _ _ _ (.tail _ (.tail _ (.tail _ (.head _))))) (.nil))))))) (.nil))) (.inr (.bool _)) rfl ?_)
      refine g_op rfl (ValOk.op (v_not rfl rfl ?_)) 
      refine g_op rfl (ValOk.op (v_move rfl rfl ?_)) 
      rcases bsplit ((!y16)) with hg4 | hg4
      · replace h := bF h (nT hg4)
        refine g_no rfl rfl hg4 rfl ?_
        refine g_no rfl rfl hg4 rfl ?_
        refine g_no rfl rfl hg4 rfl ?_
        refine g_op rfl (ValOk.op (v_pickT rfl hg4 rfl rfl ?_)) 
        refine g_nil ?_
        exact hw1 true (Option.some.inj h).symm _ (le_w [some 12, some 16, some 3003, some 3004, some 18, some 3005, some 3006, some 19, some 3007, some 3008] rfl ⟨⟨_, rfl, .refl _⟩, ⟨⟨_, rfl, .refl _⟩, ⟨⟨_, rfl, .refl _⟩, ⟨⟨_, rfl, .refl _⟩, ⟨⟨_, rfl, .refl _⟩, ⟨⟨_, rfl, .refl _⟩, ⟨⟨_, rfl, .refl _⟩, ⟨⟨_, rfl, .refl _⟩, ⟨⟨_, rfl, .refl _⟩, trivial⟩⟩⟩⟩⟩⟩⟩⟩⟩ ⟨⟨_, rfl, .refl _⟩, ⟨⟨_, rfl, .refl _⟩, ⟨⟨_, rfl, .refl _⟩, ⟨⟨_, rfl, .refl _⟩, ⟨⟨_, rfl, .refl _⟩, ⟨⟨_, rfl, .refl _⟩, ⟨⟨_, rfl, .refl _⟩, ⟨⟨_, rfl, .refl _⟩, ⟨⟨_, rfl, .refl _⟩, ⟨⟨_, rfl, .refl _⟩, trivial⟩⟩⟩⟩⟩⟩⟩⟩⟩⟩ (by decide))
      · replace h := ifT h (nF hg4)
        refine g_yes rfl rfl hg4 (ValOk.op (v_move rfl rfl ?_)) 
        refine g_yes rfl rfl hg4 (ValOk.op (v_move rfl rfl ?_)) 
        refine g_yes rfl rfl hg4 (ValOk.op (v_binT tabOk (r := .bool (!decide (y5.2 = y3.2))) rfl rfl (by simp [binT, eqr]) rfl ?_)) 
        refine g_op rfl (ValOk.op (v_pickF rfl hg4 rfl rfl ?_)) 
        refine g_nil ?_
        exact hw1 (!(decide (y5.2 = y3.2))) (Option.some.inj h).symm _ (le_w [some 12, some 16, some 3003, some 3004, some 18, some 3005, some 3006, some 19, some 3007, some 3008] rfl ⟨⟨_, rfl, .refl _⟩, ⟨⟨_, rfl, .refl _⟩, ⟨⟨_, rfl, .refl _⟩, ⟨⟨_, rfl, .refl _⟩, ⟨⟨_, rfl, .refl _⟩, ⟨⟨_, rfl, .refl _⟩, ⟨⟨_, rfl, .refl _⟩, ⟨⟨_, rfl, .refl _⟩, ⟨⟨_, rfl, .refl _⟩, trivial⟩⟩⟩⟩⟩⟩⟩⟩⟩ ⟨⟨_, rfl, .refl _⟩, ⟨⟨_, rfl, .refl _⟩, ⟨⟨_, rfl, .refl _⟩, ⟨⟨_, rfl, .refl _⟩, ⟨⟨_, rfl, .refl _⟩, ⟨⟨_, rfl, .refl _⟩, ⟨⟨_, rfl, .refl _⟩, ⟨⟨_, rfl, .refl _⟩, ⟨⟨_, rfl, .refl _⟩, ⟨⟨_, rfl, .refl _⟩, trivial⟩⟩⟩⟩⟩⟩⟩⟩⟩⟩ (by decide))
end Go.Proofs.Ytiaigcdckmpepaa
