/- What functions of this program answer, as plain functions; each theorem says that the code comes to just that. -/
import Derived.Test.YtopbbjoflopjbaaDoorDat
import Derived.Test.YtopbbjoflopjbaaDoorB13
import Derived.Test.YtopbbjoflopjbaaDoorDatO
import Derived.Test.YtopbbjoflopjbaaDoorB18
import Derived.Test.YtopbbjoflopjbaaDoorB22
import Derived.Test.YtopbbjoflopjbaaDoorB23
import Derived.Test.YtopbbjoflopjbaaDoorGv
import Derived.Test.YtopbbjoflopjbaaDoorGnm
import Derived.Test.YtopbbjoflopjbaaDoorGok
import Derived.Test.YtopbbjoflopjbaaDoorGjs
import Derived.Test.YtopbbjoflopjbaaDoorGji
/-! Functions of the program. -/
set_option linter.unusedVariables false
set_option maxRecDepth 100000
set_option maxHeartbeats 20000000
namespace Go.Proofs.YtopbbjoflopjbaaDoor
open Go.Bb
def m_laws_FnExactJsonPut (k : Nat) (a0 : Val) : Option Bool :=
  (m_laws_szValue k a0 1048576).bind fun y1 =>
  if y1 < 0 then
    some true
  else
    (m_laws_toValue k a0).bind fun y2 =>
    (m_spec_JsonPut k y2).bind fun y3 =>
    (m_laws_toValue k a0).bind fun y4 =>
    (m_impl_JsonPut k y4).bind fun y5 =>
    if y5 = y3 then
      (m_laws_toValue k a0).bind fun y6 =>
      (m_laws_eqValue k y4 y6).bind fun y7 =>
      if y7 = true then
        some true
      else
        some false
    else
      some false
theorem m_laws_FnExactJsonPut_ok (k : Nat) : ∀ (a0 : Val) (r : Bool), m_laws_FnExactJsonPut k a0 = some r → DoesT Tryd.prog 6 [.agg [.int .i64 a0.kind, .int .i64 a0.num, .str a0.text, .sl false (a0.list.map encLVal), .sl false (a0.names.map encS)]] [] (ret (.bool r)) := by
  intro a0 r h
  rw [m_laws_FnExactJsonPut] at h
  refine doesT_of_good tabOk Tryd.func6 rfl (by decide +kernel) (Nat.le_of_ble_eq_true rfl) fun c hct => ?_
  refine Good.le (σ' := ⟨27, [(0, .agg [.int .i64 a0.kind, .int .i64 a0.num, .str a0.text, .sl false (a0.list.map encLVal), .sl false (a0.names.map encS)])], []⟩) (Le.refl _) ?_
  refine good_seq fun K1 hK1 => ?_
  refine good_region ?_
  refine g_op rfl (o_box (k := 11) tabOk rfl rfl rfl rfl rfl ?_)
  intro b1
  refine g_op rfl (ValOk.op (v_assign rfl rfl ?_)) 
  refine g_nil ?_
  refine hK1 _ ?_
  refine Good.le (σ' := ⟨27, [(1, _), (2, _)], [(11, (_, _))]⟩) (le_w [some 11] rfl ⟨⟨_, rfl, .refl _⟩, ⟨⟨_, rfl, .refl _⟩, trivial⟩⟩ ⟨⟨_, rfl, .refl _⟩, trivial⟩ (by decide)) ?_
  refine good_seq fun K2 hK2 => ?_
  refine good_region ?_
  refine g_op rfl (ValOk.op (v_assign rfl rfl ?_)) 
  refine g_nil ?_
  refine hK2 _ ?_
  refine good_seq fun K3 hK3 => ?_
  refine good_region ?_
  refine g_op rfl (ValOk.op (v_loadP tabOk rfl rfl tsize37 tagg37 rfl rfl rfl rfl ?_)) 
  refine g_op rfl (ValOk.op (v_move rfl rfl ?_)) 
  obtain ⟨y1, hy1, h⟩ := bnd h
  refine g_op rfl (o_callR [] [] (core_value rfl rfl) (m_laws_szValue_ok k a0 1048576 _ hy1) trivial (.cons (.refl _) (.cons (.refl _) (.nil))) (.inl rfl) rfl ?_)
  refine g_op rfl (ValOk.op (v_assign rfl rfl ?_)) 
  refine g_nil ?_
  refine hK3 _ ?_
  refine Good.le (σ' := ⟨27, [(1, _), (2, _), (3, _)], [(11, (_, _))]⟩) (le_w [some 11] rfl ⟨⟨_, rfl, .refl _⟩, ⟨⟨_, rfl, .refl _⟩, ⟨⟨_, rfl, .refl _⟩, trivial⟩⟩⟩ ⟨⟨_, rfl, .refl _⟩, trivial⟩ (by decide)) ?_
  refine good_seq fun K4 hK4 => ?_
  refine good_seq fun K5 hK5 => ?_
  refine good_region ?_
  refine g_op rfl (ValOk.op (v_move rfl rfl ?_)) 
  refine g_op rfl (ValOk.op (v_bin rfl rfl rfl rfl ?_)) 
  refine g_nil ?_
  refine hK5 _ ?_
  refine Good.le (σ' := ⟨27, [(1, _), (2, _), (11, _)], [(11, (_, _))]⟩) (le_w [some 11] rfl ⟨⟨_, rfl, .refl _⟩, ⟨⟨_, rfl, .refl _⟩, ⟨⟨_, rfl, .refl _⟩, trivial⟩⟩⟩ ⟨⟨_, rfl, .refl _⟩, trivial⟩ (by decide)) ?_
  refine good_cond rfl (fun hc1 => ?_) (fun hc1 => ?_)
  · replace h := ifT h (dT hc1)
    refine good_seq fun K6 hK6 => ?_
    refine good_region ?_
    refine g_op rfl (ValOk.op (v_assign rfl rfl ?_)) 
    refine g_nil ?_
    refine hK6 _ ?_
    refine Good.le (σ' := ⟨27, [(1, _), (2, _)], [(11, (_, _))]⟩) (le_w [some 11] rfl ⟨⟨_, rfl, .refl _⟩, ⟨⟨_, rfl, .refl _⟩, trivial⟩⟩ ⟨⟨_, rfl, .refl _⟩, trivial⟩ (by decide)) ?_
    refine Good.le (σ' := ⟨27, [(2, .bool true)], []⟩) (le_w [] rfl ⟨⟨_, rfl, .refl _⟩, trivial⟩ trivial (by decide)) ?_
    refine good_ret ?_
    obtain rfl := Option.some.inj h
    refine thenQ_ret ?_
    exact endQ_ret (h' := []) [] (.tmp rfl (.nil)) trivial (by decide) ⟨rfl, rfl⟩
  · replace h := ifF h (dF hc1)
    refine good_skip ?_
    refine hK4 _ ?_
    refine Good.le (σ' := ⟨27, [(1, _), (2, _)], [(11, (_, _))]⟩) (le_w [some 11] rfl ⟨⟨_, rfl, .refl _⟩, ⟨⟨_, rfl, .refl _⟩, trivial⟩⟩ ⟨⟨_, rfl, .refl _⟩, trivial⟩ (by decide)) ?_
    refine good_seq fun K7 hK7 => ?_
    refine good_region ?_
    refine g_op rfl (ValOk.op (v_loadP tabOk rfl rfl tsize37 tagg37 rfl rfl rfl rfl ?_)) 
    obtain ⟨y2, hy2, h⟩ := bnd h
    refine g_op rfl (o_callD [] [] [] (core_value rfl rfl) (m_laws_toValue_ok k a0 _ hy2) trivial (.cons (.refl _) (.nil)) trivial rfl rfl rfl ?_)
    rintro _ _ ⟨w1, w2, rfl, rfl⟩
    refine ⟨.agg [.int .i64 y2.kind, .int .i64 y2.num, .str y2.text, .hd 3001 w1, .hd 3002 w2], [(3001, _), (3002, _)], .agg (.cons (.refl _) (.cons (.refl _) (.cons (.refl _) (.cons (.hd _ _ _) (.cons (.hd _ _ _) (.nil)))))), rfl, rfl, rfl, rfl, .inl rfl, ?_⟩
    obtain ⟨y3, hy3, h⟩ := bnd h
    refine g_op rfl (o_callR [3001, 3002] [(_, _), (_, _)] (core_value rfl rfl) (m_spec_JsonPut_ok k y2 _ hy3) ⟨⟨_, rfl, .osl (FrzLL.map fun _ _ => encOVal_frz _)⟩, ⟨⟨_, rfl, .osl (FrzLL.map fun _ _ => encS_frz _)⟩, trivial⟩⟩ (.cons (.agg (.cons (.refl _) (.cons (.refl _) (.cons (.refl _) (.cons (.frz _ _ _ (.head _)) (.cons (.frz _ _ _ (.tail _ (.head _))) (.nil))))))) (.nil)) (.inr (.str _)) rfl ?_)
    refine g_op rfl (ValOk.op (v_assign rfl rfl ?_)) 
    refine g_nil ?_
    refine hK7 _ ?_
    refine Good.le (σ' := ⟨27, [(1, _), (2, _), (4, _)], [(11, (_, _))]⟩) (le_w [some 11] rfl ⟨⟨_, rfl, .refl _⟩, ⟨⟨_, rfl, .refl _⟩, ⟨⟨_, rfl, .refl _⟩, trivial⟩⟩⟩ ⟨⟨_, rfl, .refl _⟩, trivial⟩ (by decide)) ?_
    refine good_seq fun K8 hK8 => ?_
    refine good_region ?_
    refine g_op rfl (ValOk.op (v_loadP tabOk rfl rfl tsize37 tagg37 rfl rfl rfl rfl ?_)) 
    obtain ⟨y4, hy4, h⟩ := bnd h
    refine g_op rfl (o_callD [] [] [] (core_value rfl rfl) (m_laws_toValue_ok k a0 _ hy4) trivial (.cons (.refl _) (.nil)) trivial rfl rfl rfl ?_)
    rintro _ _ ⟨w3, w4, rfl, rfl⟩
    refine ⟨.agg [.int .i64 y4.kind, .int .i64 y4.num, .str y4.text, .hd 3003 w3, .hd 3004 w4], [(3003, _), (3004, _)], .agg (.cons (.refl _) (.cons (.refl _) (.cons (.refl _) (.cons (.hd _ _ _) (.cons (.hd _ _ _) (.nil)))))), rfl, rfl, rfl, rfl, .inl rfl, ?_⟩
    refine g_op rfl (o_alloc (k := 15) tabOk tzero42 rfl rfl ?_)
    intro b2
    refine g_op rfl (o_storeP tabOk (cs' := [.int .i64 y4.kind, .int .i64 y4.num, .str y4.text, .hd 3003 w3, .hd 3004 w4]) rfl rfl tsize42 rfl rfl rfl (Nat.le_of_ble_eq_true rfl) rfl rfl rfl ?_)
    refine g_nil ?_
    refine hK8 _ ?_
    refine Good.le (σ' := ⟨27, [(1, _), (2, _), (4, _), (5, _)], [(11, (_, _)), (15, (_, _)), (3003, (_, _)), (3004, (_, _))]⟩) (le_w [some 11, some 15, some 3003, some 3004] rfl ⟨⟨_, rfl, .refl _⟩, ⟨⟨_, rfl, .refl _⟩, ⟨⟨_, rfl, .refl _⟩, ⟨⟨_, rfl, .refl _⟩, trivial⟩⟩⟩⟩ ⟨⟨_, rfl, .refl _⟩, ⟨⟨_, rfl, .refl _⟩, ⟨⟨_, rfl, .refl _⟩, ⟨⟨_, rfl, .refl _⟩, trivial⟩⟩⟩⟩ (by decide)) ?_
    refine good_seq fun K9 hK9 => ?_
    refine good_region ?_
    refine g_op rfl (ValOk.op (v_loadP tabOk rfl rfl tsize42 tagg42 rfl rfl rfl rfl ?_)) 
    obtain ⟨y5, hy5, h⟩ := bnd h
    refine g_op rfl (o_callTR [3003, 3004] [(_, _), (_, _)] (core_value rfl rfl) hct (m_impl_JsonPut_ok k y4 _ hy5) ⟨⟨_, rfl, .osl (FrzLL.map fun _ _ => encOVal_frz _)⟩, ⟨⟨_, rfl, .osl (FrzLL.map fun _ _ => encS_frz _)⟩, trivial⟩⟩ (.cons (.agg (.cons (.refl _) (.cons (.refl _) (.cons (.refl _) (.cons (.frz _ _ _ (.head _)) (.cons (.frz _ _ _ (.tail _ (.head _))) (.nil))))))) (.nil)) (.inr (.str _)) rfl ?_)
    refine g_op rfl (ValOk.op (v_assign rfl rfl ?_)) 
    refine g_nil ?_
    refine hK9 _ ?_
    refine Good.le (σ' := ⟨27, [(1, _), (2, _), (4, _), (5, _), (6, _)], [(11, (_, _)), (15, (_, _)), (3003, (_, _)), (3004, (_, _))]⟩) (le_w [some 11, some 15, some 3003, some 3004] rfl ⟨⟨_, rfl, .refl _⟩, ⟨⟨_, rfl, .refl _⟩, ⟨⟨_, rfl, .refl _⟩, ⟨⟨_, rfl, .refl _⟩, ⟨⟨_, rfl, .refl _⟩, trivial⟩⟩⟩⟩⟩ ⟨⟨_, rfl, .refl _⟩, ⟨⟨_, rfl, .refl _⟩, ⟨⟨_, rfl, .refl _⟩, ⟨⟨_, rfl, .refl _⟩, trivial⟩⟩⟩⟩ (by decide)) ?_
    refine good_seq fun K10 hK10 => ?_
    refine good_seq fun K11 hK11 => ?_
    refine good_region ?_
    refine g_op rfl (ValOk.op (v_move rfl rfl ?_)) 
    refine g_op rfl (ValOk.op (v_move rfl rfl ?_)) 
    refine g_op rfl (ValOk.op (v_bin rfl rfl rfl rfl ?_)) 
    refine g_nil ?_
    refine hK11 _ ?_
    refine Good.le (σ' := ⟨27, [(1, _), (2, _), (5, _), (21, _)], [(11, (_, _)), (15, (_, _)), (3003, (_, _)), (3004, (_, _))]⟩) (le_w [some 11, some 15, some 3003, some 3004] rfl ⟨⟨_, rfl, .refl _⟩, ⟨⟨_, rfl, .refl _⟩, ⟨⟨_, rfl, .refl _⟩, ⟨⟨_, rfl, .refl _⟩, trivial⟩⟩⟩⟩ ⟨⟨_, rfl, .refl _⟩, ⟨⟨_, rfl, .refl _⟩, ⟨⟨_, rfl, .refl _⟩, ⟨⟨_, rfl, .refl _⟩, trivial⟩⟩⟩⟩ (by decide)) ?_
    refine good_cond rfl (fun hc2 => ?_) (fun hc2 => ?_)
    · replace h := ifF h (ndT hc2)
      refine good_seq fun K12 hK12 => ?_
      refine good_region ?_
      refine g_op rfl (ValOk.op (v_assign rfl rfl ?_)) 
      refine g_nil ?_
      refine hK12 _ ?_
      refine Good.le (σ' := ⟨27, [(1, _), (2, _), (5, _)], [(11, (_, _)), (15, (_, _)), (3003, (_, _)), (3004, (_, _))]⟩) (le_w [some 11, some 15, some 3003, some 3004] rfl ⟨⟨_, rfl, .refl _⟩, ⟨⟨_, rfl, .refl _⟩, ⟨⟨_, rfl, .refl _⟩, trivial⟩⟩⟩ ⟨⟨_, rfl, .refl _⟩, ⟨⟨_, rfl, .refl _⟩, ⟨⟨_, rfl, .refl _⟩, ⟨⟨_, rfl, .refl _⟩, trivial⟩⟩⟩⟩ (by decide)) ?_
      refine Good.le (σ' := ⟨27, [(2, .bool false)], []⟩) (le_w [] rfl ⟨⟨_, rfl, .refl _⟩, trivial⟩ trivial (by decide)) ?_
      refine good_ret ?_
      obtain rfl := Option.some.inj h
      refine thenQ_ret ?_
      exact endQ_ret (h' := []) [] (.tmp rfl (.nil)) trivial (by decide) ⟨rfl, rfl⟩
    · replace h := ifT h (ndF hc2)
      refine good_skip ?_
      refine hK10 _ ?_
      refine Good.le (σ' := ⟨27, [(1, _), (2, _), (5, _)], [(11, (_, _)), (15, (_, _)), (3003, (_, _)), (3004, (_, _))]⟩) (le_w [some 11, some 15, some 3003, some 3004] rfl ⟨⟨_, rfl, .refl _⟩, ⟨⟨_, rfl, .refl _⟩, ⟨⟨_, rfl, .refl _⟩, trivial⟩⟩⟩ ⟨⟨_, rfl, .refl _⟩, ⟨⟨_, rfl, .refl _⟩, ⟨⟨_, rfl, .refl _⟩, ⟨⟨_, rfl, .refl _⟩, trivial⟩⟩⟩⟩ (by decide)) ?_
      refine good_seq fun K13 hK13 => ?_
      refine good_seq fun K14 hK14 => ?_
      obtain ⟨y6, hy6, h⟩ := bnd h
      obtain ⟨y7, hy7, h⟩ := bnd h
      refine good_anyM (by kernel_rfl) [⟨[], [5], [15], [], [], []⟩, ⟨[], [1], [11], [], [], []⟩, ⟨[1], [23], [], [], [], []⟩, ⟨[0, 1, 2], [22, 24], [3003, 3004], [], [], []⟩, ⟨[0, 1, 2, 3], [25], [], [], [], []⟩] [some 22, some 23, some 24, some 25, some 26] 27 [(1, .ptr 11 b1 0), (2, .bool false), (5, .ptr 15 b2 0)] [(11, ((.pointer (some ⟨b1, 0, none⟩)), .optr 37 [.int .i64 a0.kind, .int .i64 a0.num, .str a0.text, .sl false (a0.list.map encLVal), .sl false (a0.names.map encS)])), (15, ((.pointer (some ⟨b2, 0, none⟩)), .optr 42 [.int .i64 y4.kind, .int .i64 y4.num, .str y4.text, .hd 3003 w3, .hd 3004 w4])), (3003, (w3, .osl 42 5 (y4.list.map encOVal))), (3004, (w4, .osl 9 1 (y4.names.map encS)))] (fun ν1 => [.agg [.int .i64 y4.kind, .int .i64 y4.num, .str y4.text, .hd 3003 w3, .hd 3004 w4], .agg [.int .i64 a0.kind, .int .i64 a0.num, .str a0.text, .sl false (a0.list.map encLVal), .sl false (a0.names.map encS)], .agg [.int .i64 y6.kind, .int .i64 y6.num, .str y6.text, .sl true (y6.list.map encVal), .sl false (y6.names.map encS)], .bool y7, .bool (!y7)]) (fun ν1 => []) [(11, []), (15, []), (3003, []), (3004, [])] [] [] (fun ν1 => [(2, .bool false), (26, .bool (!y7))]) (fun ν1 => []) (le_w [some 11, some 15, some 3003, some 3004] rfl ⟨⟨_, rfl, .refl _⟩, ⟨⟨_, rfl, .refl _⟩, ⟨⟨_, rfl, .refl _⟩, trivial⟩⟩⟩ ⟨⟨_, rfl, .refl _⟩, ⟨⟨_, rfl, .refl _⟩, ⟨⟨_, rfl, .refl _⟩, ⟨⟨_, rfl, .refl _⟩, trivial⟩⟩⟩⟩ (by decide)) (by kernel_rfl) ⟨?_, ⟨?_, ⟨?_, ⟨?_, ⟨?_, trivial⟩⟩⟩⟩⟩ ⟨fun _ _ _ => rfl, ⟨fun _ _ _ => rfl, ⟨fun _ _ _ => rfl, ⟨fun _ _ _ => rfl, ⟨fun _ _ _ => rfl, trivial⟩⟩⟩⟩⟩ ⟨fun _ _ _ => rfl, ⟨fun _ _ _ => rfl, ⟨fun _ _ _ => rfl, ⟨fun _ _ _ => rfl, trivial⟩⟩⟩⟩ (fun _ => rfl) (fun _ => rfl) (by kernel_rfl) (fun _ => ⟨⟨_, rfl, .refl _⟩, ⟨⟨_, rfl, .refl _⟩, trivial⟩⟩) (fun _ => trivial) (by kernel_rfl) (by decide) ?_
      · refine local_mk (fun ν1 => [(5, .ptr 15 b2 0)]) (fun ν1 => [(15, ((.pointer (some ⟨b2, 0, none⟩)), .optr 42 [.int .i64 y4.kind, .int .i64 y4.num, .str y4.text, .hd 3003 w3, .hd 3004 w4]))]) (fun _ => rfl) (fun _ => ⟨⟨_, rfl, .refl _, .refl _⟩, trivial⟩) (fun _ => rfl) (fun _ => ⟨rfl, trivial⟩) ?_
        intro ν1 S H hS hfr
        refine st_op rfl (ValOk.op (v_loadP tabOk rfl rfl tsize42 tagg42 rfl rfl rfl rfl ?_)) 
        exact lp_v hS rfl rfl (fun _ => rfl)
      · refine local_mk (fun ν1 => [(1, .ptr 11 b1 0)]) (fun ν1 => [(11, ((.pointer (some ⟨b1, 0, none⟩)), .optr 37 [.int .i64 a0.kind, .int .i64 a0.num, .str a0.text, .sl false (a0.list.map encLVal), .sl false (a0.names.map encS)]))]) (fun _ => rfl) (fun _ => ⟨⟨_, rfl, .refl _, .refl _⟩, trivial⟩) (fun _ => rfl) (fun _ => ⟨rfl, trivial⟩) ?_
        intro ν1 S H hS hfr
        refine st_op rfl (ValOk.op (v_loadP tabOk rfl rfl tsize37 tagg37 rfl rfl rfl rfl ?_)) 
        exact lp_v hS rfl rfl (fun _ => rfl)
      · refine local_mk (fun ν1 => [(23, .agg [.int .i64 a0.kind, .int .i64 a0.num, .str a0.text, .sl false (a0.list.map encLVal), .sl false (a0.names.map encS)])]) (fun ν1 => []) (fun _ => rfl) (fun _ => ⟨⟨_, rfl, .refl _, .refl _⟩, trivial⟩) (fun _ => rfl) (fun _ => trivial) ?_
        intro ν1 S H hS hfr
        refine st_op rfl (o_callR [] [] (core_value rfl rfl) (m_laws_toValue_okF k a0 _ hy6) trivial (.cons (.refl _) (.nil)) (.inl rfl) rfl ?_)
        exact lp_v hS rfl rfl (fun _ => rfl)
      · refine local_mk (fun ν1 => [(22, .agg [.int .i64 y4.kind, .int .i64 y4.num, .str y4.text, .hd 3003 w3, .hd 3004 w4]), (24, .agg [.int .i64 y6.kind, .int .i64 y6.num, .str y6.text, .sl true (y6.list.map encVal), .sl false (y6.names.map encS)])]) (fun ν1 => [(3003, (w3, .osl 42 5 (y4.list.map encOVal))), (3004, (w4, .osl 9 1 (y4.names.map encS)))]) (fun _ => rfl) (fun _ => ⟨⟨_, rfl, .refl _, .refl _⟩, ⟨⟨_, rfl, .refl _, .refl _⟩, trivial⟩⟩) (fun _ => rfl) (fun _ => ⟨rfl, ⟨rfl, trivial⟩⟩) ?_
        intro ν1 S H hS hfr
        refine st_op rfl (o_callR [3003, 3004] [(_, _), (_, _)] (core_value rfl rfl) (m_laws_eqValue_ok k y4 y6 _ hy7) ⟨⟨_, rfl, .osl (FrzLL.map fun _ _ => encOVal_frz _)⟩, ⟨⟨_, rfl, .osl (FrzLL.map fun _ _ => encS_frz _)⟩, trivial⟩⟩ (.cons (.agg (.cons (.refl _) (.cons (.refl _) (.cons (.refl _) (.cons (.frz _ _ _ (.head _)) (.cons (.frz _ _ _ (.tail _ (.head _))) (.nil))))))) (.cons (.refl _) (.nil))) (.inr (.bool _)) rfl ?_)
        exact lp_v hS rfl rfl (fun _ => rfl)
      · refine local_mk (fun ν1 => [(25, .bool y7)]) (fun ν1 => []) (fun _ => rfl) (fun _ => ⟨⟨_, rfl, .refl _, .refl _⟩, trivial⟩) (fun _ => rfl) (fun _ => trivial) ?_
        intro ν1 S H hS hfr
        refine st_op rfl (ValOk.op (v_not rfl rfl ?_)) 
        exact lp_v hS rfl rfl (fun _ => rfl)
      intro ν1
      refine hK14 _ ?_
      refine good_cond rfl (fun hc3 => ?_) (fun hc3 => ?_)
      · replace h := bF h (nT hc3)
        refine good_seq fun K15 hK15 => ?_
        refine good_region ?_
        refine g_op rfl (ValOk.op (v_assign rfl rfl ?_)) 
        refine g_nil ?_
        refine hK15 _ ?_
        refine Good.le (σ' := ⟨27, [(2, _)], []⟩) (le_w [] rfl ⟨⟨_, rfl, .refl _⟩, trivial⟩ trivial (by decide)) ?_
        refine Good.le (σ' := ⟨27, [(2, .bool false)], []⟩) (le_w [] rfl ⟨⟨_, rfl, .refl _⟩, trivial⟩ trivial (by decide)) ?_
        refine good_ret ?_
        obtain rfl := Option.some.inj h
        refine thenQ_ret ?_
        exact endQ_ret (h' := []) [] (.tmp rfl (.nil)) trivial (by decide) ⟨rfl, rfl⟩
      · replace h := ifT h (nF hc3)
        refine good_skip ?_
        refine hK13 _ ?_
        refine Good.le (σ' := ⟨27, [(2, _)], []⟩) (le_w [] rfl ⟨⟨_, rfl, .refl _⟩, trivial⟩ trivial (by decide)) ?_
        refine good_seq fun K16 hK16 => ?_
        refine good_region ?_
        refine g_op rfl (ValOk.op (v_assign rfl rfl ?_)) 
        refine g_nil ?_
        refine hK16 _ ?_
        refine Good.le (σ' := ⟨27, [(2, .bool true)], []⟩) (le_w [] rfl ⟨⟨_, rfl, .refl _⟩, trivial⟩ trivial (by decide)) ?_
        refine good_ret ?_
        obtain rfl := Option.some.inj h
        exact endQ_ret (h' := []) [] (.tmp rfl (.nil)) trivial (by decide) ⟨rfl, rfl⟩
end Go.Proofs.YtopbbjoflopjbaaDoor
