/- What functions of this program answer, as plain functions; each theorem says that the code comes to just that. -/
import Derived.Test.YtiaigcdckmpepaaDat
import Derived.Test.YtiaigcdckmpepaaB13
import Derived.Test.YtiaigcdckmpepaaDatO
import Derived.Test.YtiaigcdckmpepaaGnm
/-! Functions of the program. -/
set_option linter.unusedVariables false
set_option linter.unnecessarySimpa false
set_option maxRecDepth 100000
set_option maxHeartbeats 20000000
noncomputable section
namespace Go.Proofs.Ytiaigcdckmpepaa
open Go.Bb
def m_spec_l1Plain (k : Nat) (a0 : Val) : Option Bool :=
  if a0.kind = 0 then
    if a0.num = 0 then
      if a0.text = [] then
        some (decide ((IntKind.wrap .i64 ((a0.list.length : Int) + (a0.names.length : Int))) = 0))
      else
        some false
    else
      some false
  else
    if a0.kind = 1 then
      (m_spec_l1In a0.num 0 1).bind fun y1 =>
      if y1 = true then
        if a0.text = [] then
          some (decide ((IntKind.wrap .i64 ((a0.list.length : Int) + (a0.names.length : Int))) = 0))
        else
          some false
      else
        some false
    else
      if a0.kind = 2 then
        (m_spec_l1In a0.num (-2147483647) 2147483647).bind fun y2 =>
        if y2 = true then
          if a0.text = [] then
            some (decide ((IntKind.wrap .i64 ((a0.list.length : Int) + (a0.names.length : Int))) = 0))
          else
            some false
        else
          some false
      else
        if a0.kind = 3 then
          if a0.num = 0 then
            if (a0.text.length : Int) ≤ 40 then
              some (decide ((IntKind.wrap .i64 ((a0.list.length : Int) + (a0.names.length : Int))) = 0))
            else
              some false
          else
            some false
        else
          if a0.kind = 4 then
            if a0.num = 0 then
              if a0.text = [] then
                if (a0.names.length : Int) = 0 then
                  some (decide ((a0.list.length : Int) ≤ 12))
                else
                  some false
              else
                some false
            else
              some false
          else
            if a0.kind = 5 then
              if a0.num = 0 then
                if a0.text = [] then
                  if (a0.names.length : Int) = (a0.list.length : Int) then
                    some (decide ((a0.list.length : Int) ≤ 12))
                  else
                    some false
                else
                  some false
              else
                some false
            else
              (if a0.kind = 6 then
                  some (Lp.go (decide (a0.kind = 6)))
                else
                  some (Lp.go (decide (a0.kind = 7)))).bind fun o1 =>
              o1.then fun s1 =>
    if s1 = true then
      if a0.num = 0 then
        (m_spec_l1Name k a0.text).bind fun y3 =>
        if y3 = true then
          some (decide ((IntKind.wrap .i64 ((a0.list.length : Int) + (a0.names.length : Int))) = 0))
        else
          some false
      else
        some false
    else
      some false
theorem m_spec_l1Plain_ok (k : Nat) : ∀ (a0 : Val) (r : Bool), m_spec_l1Plain k a0 = some r → Does Try.prog 103 [.agg [.int .i64 a0.kind, .int .i64 a0.num, .str a0.text, .sl true (a0.list.map encVal), .sl false (a0.names.map encS)]] [] (ret (.bool r)) := by
  intro a0 r h
  rw [m_spec_l1Plain] at h
  refine does_of_good tabOk Try.func103 rfl (by decide +kernel) (Nat.le_of_ble_eq_true rfl) fun c => ?_
  refine Good.le (σ' := ⟨154, [(0, .agg [.int .i64 a0.kind, .int .i64 a0.num, .str a0.text, .sl true (a0.list.map encVal), .sl false (a0.names.map encS)])], []⟩) (Le.refl _) ?_
  refine good_seq fun K1 hK1 => ?_
  refine good_region ?_
  refine g_op rfl (o_box (k := 11) tabOk rfl rfl rfl rfl rfl ?_)
  intro b1
  refine g_op rfl (ValOk.op (v_assign rfl rfl ?_)) 
  refine g_nil ?_
  refine hK1 _ ?_
  refine Good.le (σ' := ⟨154, [(1, _), (2, _)], [(11, (_, _))]⟩) (le_w [some 11] rfl ⟨⟨_, rfl, .refl _⟩, ⟨⟨_, rfl, .refl _⟩, trivial⟩⟩ ⟨⟨_, rfl, .refl _⟩, trivial⟩ (by decide)) ?_
  refine good_seq fun K2 hK2 => ?_
  refine good_seq fun K3 hK3 => ?_
  refine good_region ?_
  refine g_op rfl (ValOk.op (v_fieldP tabOk rfl tfoff30_0 rfl ?_)) 
  refine g_op rfl (ValOk.op (v_loadP tabOk rfl rfl tsize3 tagg3 rfl rfl rfl rfl ?_)) 
  refine g_nil ?_
  refine hK3 _ ?_
  refine Good.le (σ' := ⟨154, [(1, _), (2, _), (4, _)], [(11, (_, _))]⟩) (le_w [some 11] rfl ⟨⟨_, rfl, .refl _⟩, ⟨⟨_, rfl, .refl _⟩, ⟨⟨_, rfl, .refl _⟩, trivial⟩⟩⟩ ⟨⟨_, rfl, .refl _⟩, trivial⟩ (by decide)) ?_
  refine good_block ?_
  refine good_seq fun K4 hK4 => ?_
  refine good_region ?_
  refine g_op rfl (ValOk.op (v_bin rfl rfl rfl rfl ?_)) 
  refine g_op rfl (ValOk.op (v_assign rfl rfl ?_)) 
  refine g_nil ?_
  refine hK4 _ ?_
  refine Good.le (σ' := ⟨154, [(1, _), (2, _), (4, _), (5, _)], [(11, (_, _))]⟩) (le_w [some 11] rfl ⟨⟨_, rfl, .refl _⟩, ⟨⟨_, rfl, .refl _⟩, ⟨⟨_, rfl, .refl _⟩, ⟨⟨_, rfl, .refl _⟩, trivial⟩⟩⟩⟩ ⟨⟨_, rfl, .refl _⟩, trivial⟩ (by decide)) ?_
  refine good_cond rfl (fun hc1 => ?_) (fun hc1 => ?_)
  · replace h := ifT h (dT hc1)
    refine good_seq fun K5 hK5 => ?_
    refine good_region ?_
    refine g_op rfl (ValOk.op (v_fieldP tabOk rfl tfoff30_1 rfl ?_)) 
    refine g_op rfl (ValOk.op (v_loadP tabOk rfl rfl tsize3 tagg3 rfl rfl rfl rfl ?_)) 
    refine g_op rfl (ValOk.op (v_bin rfl rfl rfl rfl ?_)) 
    refine g_op rfl (ValOk.op (v_move rfl rfl ?_)) 
    rcases bsplit ((decide (a0.num = 0))) with hg1 | hg1
    · replace h := ifT h (dT hg1)
      refine g_yes rfl rfl hg1 (ValOk.op (v_fieldP tabOk rfl tfoff30_2 rfl ?_)) 
      refine g_yes rfl rfl hg1 (ValOk.op (v_loadP tabOk rfl rfl tsize9 tagg9 rfl rfl rfl rfl ?_)) 
      refine g_yes rfl rfl hg1 (ValOk.op (v_bin rfl rfl rfl rfl ?_)) 
      refine g_op rfl (ValOk.op (v_pickT rfl hg1 rfl rfl ?_)) 
      refine g_op rfl (ValOk.op (v_move rfl rfl ?_)) 
      rcases bsplit ((decide (a0.text = []))) with hg2 | hg2
      · replace h := ifT h (dT hg2)
        refine g_yes rfl rfl hg2 (ValOk.op (v_fieldP tabOk rfl tfoff30_3 rfl ?_)) 
        refine g_yes rfl rfl hg2 (ValOk.op (v_loadP tabOk rfl rfl tsize28 tagg28 rfl rfl rfl rfl ?_)) 
        refine g_yes rfl rfl hg2 (ValOk.op (v_lenM (l := a0.list) (f := encVal) tabOk rfl rfl telem28 rfl ?_)) 
        refine g_yes rfl rfl hg2 (ValOk.op (v_fieldP tabOk rfl tfoff30_4 rfl ?_)) 
        refine g_yes rfl rfl hg2 (ValOk.op (v_loadP tabOk rfl rfl tsize23 tagg23 rfl rfl rfl rfl ?_)) 
        refine g_yes rfl rfl hg2 (ValOk.op (v_lenM (l := a0.names) (f := encS) tabOk rfl rfl telem23 rfl ?_)) 
        refine g_yes rfl rfl hg2 (ValOk.op (v_bin rfl rfl rfl rfl ?_)) 
        refine g_yes rfl rfl hg2 (ValOk.op (v_bin rfl rfl rfl rfl ?_)) 
        refine g_op rfl (ValOk.op (v_pickT rfl hg2 rfl rfl ?_)) 
        refine g_op rfl (ValOk.op (v_assign rfl rfl ?_)) 
        refine g_nil ?_
        refine hK5 _ ?_
        refine Good.le (σ' := ⟨154, [(2, _)], []⟩) (le_w [] rfl ⟨⟨_, rfl, .refl _⟩, trivial⟩ trivial (by decide)) ?_
        refine Good.le (σ' := ⟨154, [(2, .bool (decide ((IntKind.wrap .i64 ((a0.list.length : Int) + (a0.names.length : Int))) = 0)))], []⟩) (le_w [] rfl ⟨⟨_, rfl, .refl _⟩, trivial⟩ trivial (by decide)) ?_
        refine good_ret ?_
        obtain rfl := Option.some.inj h
        refine blockQ_ret ?_
        refine thenQ_ret ?_
        exact endQ_ret (h' := []) [] (.tmp rfl (.nil)) trivial (by decide) ⟨rfl, rfl⟩
      · replace h := ifF h (dF hg2)
        refine g_no rfl rfl hg2 rfl ?_
        refine g_no rfl rfl hg2 rfl ?_
        refine g_no rfl rfl hg2 rfl ?_
        refine g_no rfl rfl hg2 rfl ?_
        refine g_no rfl rfl hg2 rfl ?_
        refine g_no rfl rfl hg2 rfl ?_
        refine g_no rfl rfl hg2 rfl ?_
        refine g_no rfl rfl hg2 rfl ?_
        refine g_op rfl (ValOk.op (v_pickF rfl hg2 rfl rfl ?_)) 
        refine g_op rfl (ValOk.op (v_assign rfl rfl ?_)) 
        refine g_nil ?_
        refine hK5 _ ?_
        refine Good.le (σ' := ⟨154, [(2, _)], []⟩) (le_w [] rfl ⟨⟨_, rfl, .refl _⟩, trivial⟩ trivial (by decide)) ?_
        refine Good.le (σ' := ⟨154, [(2, .bool false)], []⟩) (le_w [] rfl ⟨⟨_, rfl, .refl _⟩, trivial⟩ trivial (by decide)) ?_
        refine good_ret ?_
        obtain rfl := Option.some.inj h
        refine blockQ_ret ?_
        refine thenQ_ret ?_
        exact endQ_ret (h' := []) [] (.tmp rfl (.nil)) trivial (by decide) ⟨rfl, rfl⟩
    · replace h := ifF h (dF hg1)
      refine g_no rfl rfl hg1 rfl ?_
      refine g_no rfl rfl hg1 rfl ?_
      refine g_no rfl rfl hg1 rfl ?_
      refine g_op rfl (ValOk.op (v_pickF rfl hg1 rfl rfl ?_)) 
      refine g_op rfl (ValOk.op (v_move rfl rfl ?_)) 
      refine g_no rfl rfl rfl rfl ?_
      refine g_no rfl rfl rfl rfl ?_
      refine g_no rfl rfl rfl rfl ?_
      refine g_no rfl rfl rfl rfl ?_
      refine g_no rfl rfl rfl rfl ?_
      refine g_no rfl rfl rfl rfl ?_
      refine g_no rfl rfl rfl rfl ?_
      refine g_no rfl rfl rfl rfl ?_
      refine g_op rfl (ValOk.op (v_pickF rfl rfl rfl rfl ?_)) 
      refine g_op rfl (ValOk.op (v_assign rfl rfl ?_)) 
      refine g_nil ?_
      refine hK5 _ ?_
      refine Good.le (σ' := ⟨154, [(2, _)], []⟩) (le_w [] rfl ⟨⟨_, rfl, .refl _⟩, trivial⟩ trivial (by decide)) ?_
      refine Good.le (σ' := ⟨154, [(2, .bool false)], []⟩) (le_w [] rfl ⟨⟨_, rfl, .refl _⟩, trivial⟩ trivial (by decide)) ?_
      refine good_ret ?_
      obtain rfl := Option.some.inj h
      refine blockQ_ret ?_
      refine thenQ_ret ?_
      exact endQ_ret (h' := []) [] (.tmp rfl (.nil)) trivial (by decide) ⟨rfl, rfl⟩
  · replace h := ifF h (dF hc1)
    refine good_seq fun K6 hK6 => ?_
    refine good_region ?_
    refine g_op rfl (ValOk.op (v_bin rfl rfl rfl rfl ?_)) 
    refine g_op rfl (ValOk.op (v_assign rfl rfl ?_)) 
    refine g_nil ?_
    refine hK6 _ ?_
    refine Good.le (σ' := ⟨154, [(1, _), (2, _), (4, _), (25, _)], [(11, (_, _))]⟩) (le_w [some 11] rfl ⟨⟨_, rfl, .refl _⟩, ⟨⟨_, rfl, .refl _⟩, ⟨⟨_, rfl, .refl _⟩, ⟨⟨_, rfl, .refl _⟩, trivial⟩⟩⟩⟩ ⟨⟨_, rfl, .refl _⟩, trivial⟩ (by decide)) ?_
    refine good_cond rfl (fun hc2 => ?_) (fun hc2 => ?_)
    · replace h := ifT h (dT hc2)
      refine good_seq fun K7 hK7 => ?_
      refine good_region ?_
      refine g_op rfl (ValOk.op (v_fieldP tabOk rfl tfoff30_1 rfl ?_)) 
      refine g_op rfl (ValOk.op (v_loadP tabOk rfl rfl tsize3 tagg3 rfl rfl rfl rfl ?_)) 
      obtain ⟨y1, hy1, h⟩ := bnd h
      refine g_op rfl (o_callR [] [] (core_value rfl rfl) (m_spec_l1In_ok a0.num 0 1 _ hy1) trivial (.cons (.refl _) (.cons (.refl _) (.cons (.refl _) (.nil)))) (.inl rfl) rfl ?_)
      refine g_op rfl (ValOk.op (v_move rfl rfl ?_)) 
      rcases bsplit (y1) with hg3 | hg3
      · replace h := ifT h hg3
        refine g_yes rfl rfl hg3 (ValOk.op (v_fieldP tabOk rfl tfoff30_2 rfl ?_)) 
        refine g_yes rfl rfl hg3 (ValOk.op (v_loadP tabOk rfl rfl tsize9 tagg9 rfl rfl rfl rfl ?_)) 
        refine g_yes rfl rfl hg3 (ValOk.op (v_bin rfl rfl rfl rfl ?_)) 
        refine g_op rfl (ValOk.op (v_pickT rfl hg3 rfl rfl ?_)) 
        refine g_op rfl (ValOk.op (v_move rfl rfl ?_)) 
        rcases bsplit ((decide (a0.text = []))) with hg4 | hg4
        · replace h := ifT h (dT hg4)
          refine g_yes rfl rfl hg4 (ValOk.op (v_fieldP tabOk rfl tfoff30_3 rfl ?_)) 
          refine g_yes rfl rfl hg4 (ValOk.op (v_loadP tabOk rfl rfl tsize28 tagg28 rfl rfl rfl rfl ?_)) 
          refine g_yes rfl rfl hg4 (ValOk.op (v_lenM (l := a0.list) (f := encVal) tabOk rfl rfl telem28 rfl ?_)) 
          refine g_yes rfl rfl hg4 (ValOk.op (v_fieldP tabOk rfl tfoff30_4 rfl ?_)) 
          refine g_yes rfl rfl hg4 (ValOk.op (v_loadP tabOk rfl rfl tsize23 tagg23 rfl rfl rfl rfl ?_)) 
          refine g_yes rfl rfl hg4 (ValOk.op (v_lenM (l := a0.names) (f := encS) tabOk rfl rfl telem23 rfl ?_)) 
          refine g_yes rfl rfl hg4 (ValOk.op (v_bin rfl rfl rfl rfl ?_)) 
          refine g_yes rfl rfl hg4 (ValOk.op (v_bin rfl rfl rfl rfl ?_)) 
          refine g_op rfl (ValOk.op (v_pickT rfl hg4 rfl rfl ?_)) 
          refine g_op rfl (ValOk.op (v_assign rfl rfl ?_)) 
          refine g_nil ?_
          refine hK7 _ ?_
          refine Good.le (σ' := ⟨154, [(2, _)], []⟩) (le_w [] rfl ⟨⟨_, rfl, .refl _⟩, trivial⟩ trivial (by decide)) ?_
          refine Good.le (σ' := ⟨154, [(2, .bool (decide ((IntKind.wrap .i64 ((a0.list.length : Int) + (a0.names.length : Int))) = 0)))], []⟩) (le_w [] rfl ⟨⟨_, rfl, .refl _⟩, trivial⟩ trivial (by decide)) ?_
          refine good_ret ?_
          obtain rfl := Option.some.inj h
          refine blockQ_ret ?_
          refine thenQ_ret ?_
          exact endQ_ret (h' := []) [] (.tmp rfl (.nil)) trivial (by decide) ⟨rfl, rfl⟩
        · replace h := ifF h (dF hg4)
          refine g_no rfl rfl hg4 rfl ?_
          refine g_no rfl rfl hg4 rfl ?_
          refine g_no rfl rfl hg4 rfl ?_
          refine g_no rfl rfl hg4 rfl ?_
          refine g_no rfl rfl hg4 rfl ?_
          refine g_no rfl rfl hg4 rfl ?_
          refine g_no rfl rfl hg4 rfl ?_
          refine g_no rfl rfl hg4 rfl ?_
          refine g_op rfl (ValOk.op (v_pickF rfl hg4 rfl rfl ?_)) 
          refine g_op rfl (ValOk.op (v_assign rfl rfl ?_)) 
          refine g_nil ?_
          refine hK7 _ ?_
          refine Good.le (σ' := ⟨154, [(2, _)], []⟩) (le_w [] rfl ⟨⟨_, rfl, .refl _⟩, trivial⟩ trivial (by decide)) ?_
          refine Good.le (σ' := ⟨154, [(2, .bool false)], []⟩) (le_w [] rfl ⟨⟨_, rfl, .refl _⟩, trivial⟩ trivial (by decide)) ?_
          refine good_ret ?_
          obtain rfl := Option.some.inj h
          refine blockQ_ret ?_
          refine thenQ_ret ?_
          exact endQ_ret (h' := []) [] (.tmp rfl (.nil)) trivial (by decide) ⟨rfl, rfl⟩
      · replace h := bF h hg3
        refine g_no rfl rfl hg3 rfl ?_
        refine g_no rfl rfl hg3 rfl ?_
        refine g_no rfl rfl hg3 rfl ?_
        refine g_op rfl (ValOk.op (v_pickF rfl hg3 rfl rfl ?_)) 
        refine g_op rfl (ValOk.op (v_move rfl rfl ?_)) 
        refine g_no rfl rfl rfl rfl ?_
        refine g_no rfl rfl rfl rfl ?_
        refine g_no rfl rfl rfl rfl ?_
        refine g_no rfl rfl rfl rfl ?_
        refine g_no rfl rfl rfl rfl ?_
        refine g_no rfl rfl rfl rfl ?_
        refine g_no rfl rfl rfl rfl ?_
        refine g_no rfl rfl rfl rfl ?_
        refine g_op rfl (ValOk.op (v_pickF rfl rfl rfl rfl ?_)) 
        refine g_op rfl (ValOk.op (v_assign rfl rfl ?_)) 
        refine g_nil ?_
        refine hK7 _ ?_
        refine Good.le (σ' := ⟨154, [(2, _)], []⟩) (le_w [] rfl ⟨⟨_, rfl, .refl _⟩, trivial⟩ trivial (by decide)) ?_
        refine Good.le (σ' := ⟨154, [(2, .bool false)], []⟩) (le_w [] rfl ⟨⟨_, rfl, .refl _⟩, trivial⟩ trivial (by decide)) ?_
        refine good_ret ?_
        obtain rfl := Option.some.inj h
        refine blockQ_ret ?_
        refine thenQ_ret ?_
        exact endQ_ret (h' := []) [] (.tmp rfl (.nil)) trivial (by decide) ⟨rfl, rfl⟩
    · replace h := ifF h (dF hc2)
      refine good_seq fun K8 hK8 => ?_
      refine good_region ?_
      refine g_op rfl (ValOk.op (v_bin rfl rfl rfl rfl ?_)) 
      refine g_op rfl (ValOk.op (v_assign rfl rfl ?_)) 
      refine g_nil ?_
      refine hK8 _ ?_
      refine Good.le (σ' := ⟨154, [(1, _), (2, _), (4, _), (45, _)], [(11, (_, _))]⟩) (le_w [some 11] rfl ⟨⟨_, rfl, .refl _⟩, ⟨⟨_, rfl, .refl _⟩, ⟨⟨_, rfl, .refl _⟩, ⟨⟨_, rfl, .refl _⟩, trivial⟩⟩⟩⟩ ⟨⟨_, rfl, .refl _⟩, trivial⟩ (by decide)) ?_
      refine good_cond rfl (fun hc3 => ?_) (fun hc3 => ?_)
      · replace h := ifT h (dT hc3)
        refine good_seq fun K9 hK9 => ?_
        refine good_region ?_
        refine g_op rfl (ValOk.op (v_fieldP tabOk rfl tfoff30_1 rfl ?_)) 
        refine g_op rfl (ValOk.op (v_loadP tabOk rfl rfl tsize3 tagg3 rfl rfl rfl rfl ?_)) 
        obtain ⟨y2, hy2, h⟩ := bnd h
        refine g_op rfl (o_callR [] [] (core_value rfl rfl) (m_spec_l1In_ok a0.num (-2147483647) 2147483647 _ hy2) trivial (.cons (.refl _) (.cons (.refl _) (.cons (.refl _) (.nil)))) (.inl rfl) rfl ?_)
        refine g_op rfl (ValOk.op (v_move rfl rfl ?_)) 
        rcases bsplit (y2) with hg5 | hg5
        · replace h := ifT h hg5
          refine g_yes rfl rfl hg5 (ValOk.op (v_fieldP tabOk rfl tfoff30_2 rfl ?_)) 
          refine g_yes rfl rfl hg5 (ValOk.op (v_loadP tabOk rfl rfl tsize9 tagg9 rfl rfl rfl rfl ?_)) 
          refine g_yes rfl rfl hg5 (ValOk.op (v_bin rfl rfl rfl rfl ?_)) 
          refine g_op rfl (ValOk.op (v_pickT rfl hg5 rfl rfl ?_)) 
          refine g_op rfl (ValOk.op (v_move rfl rfl ?_)) 
          rcases bsplit ((decide (a0.text = []))) with hg6 | hg6
          · replace h := ifT h (dT hg6)
            refine g_yes rfl rfl hg6 (ValOk.op (v_fieldP tabOk rfl tfoff30_3 rfl ?_)) 
            refine g_yes rfl rfl hg6 (ValOk.op (v_loadP tabOk rfl rfl tsize28 tagg28 rfl rfl rfl rfl ?_)) 
            refine g_yes rfl rfl hg6 (ValOk.op (v_lenM (l := a0.list) (f := encVal) tabOk rfl rfl telem28 rfl ?_)) 
            refine g_yes rfl rfl hg6 (ValOk.op (v_fieldP tabOk rfl tfoff30_4 rfl ?_)) 
            refine g_yes rfl rfl hg6 (ValOk.op (v_loadP tabOk rfl rfl tsize23 tagg23 rfl rfl rfl rfl ?_)) 
            refine g_yes rfl rfl hg6 (ValOk.op (v_lenM (l := a0.names) (f := encS) tabOk rfl rfl telem23 rfl ?_)) 
            refine g_yes rfl rfl hg6 (ValOk.op (v_bin rfl rfl rfl rfl ?_)) 
            refine g_yes rfl rfl hg6 (ValOk.op (v_bin rfl rfl rfl rfl ?_)) 
            refine g_op rfl (ValOk.op (v_pickT rfl hg6 rfl rfl ?_)) 
            refine g_op rfl (ValOk.op (v_assign rfl rfl ?_)) 
            refine g_nil ?_
            refine hK9 _ ?_
            refine Good.le (σ' := ⟨154, [(2, _)], []⟩) (le_w [] rfl ⟨⟨_, rfl, .refl _⟩, trivial⟩ trivial (by decide)) ?_
            refine Good.le (σ' := ⟨154, [(2, .bool (decide ((IntKind.wrap .i64 ((a0.list.length : Int) + (a0.names.length : Int))) = 0)))], []⟩) (le_w [] rfl ⟨⟨_, rfl, .refl _⟩, trivial⟩ trivial (by decide)) ?_
            refine good_ret ?_
            obtain rfl := Option.some.inj h
            refine blockQ_ret ?_
            refine thenQ_ret ?_
            exact endQ_ret (h' := []) [] (.tmp rfl (.nil)) trivial (by decide) ⟨rfl, rfl⟩
          · replace h := ifF h (dF hg6)
            refine g_no rfl rfl hg6 rfl ?_
            refine g_no rfl rfl hg6 rfl ?_
            refine g_no rfl rfl hg6 rfl ?_
            refine g_no rfl rfl hg6 rfl ?_
            refine g_no rfl rfl hg6 rfl ?_
            refine g_no rfl rfl hg6 rfl ?_
            refine g_no rfl rfl hg6 rfl ?_
            refine g_no rfl rfl hg6 rfl ?_
            refine g_op rfl (ValOk.op (v_pickF rfl hg6 rfl rfl ?_)) 
            refine g_op rfl (ValOk.op (v_assign rfl rfl ?_)) 
            refine g_nil ?_
            refine hK9 _ ?_
            refine Good.le (σ' := ⟨154, [(2, _)], []⟩) (le_w [] rfl ⟨⟨_, rfl, .refl _⟩, trivial⟩ trivial (by decide)) ?_
            refine Good.le (σ' := ⟨154, [(2, .bool false)], []⟩) (le_w [] rfl ⟨⟨_, rfl, .refl _⟩, trivial⟩ trivial (by decide)) ?_
            refine good_ret ?_
            obtain rfl := Option.some.inj h
            refine blockQ_ret ?_
            refine thenQ_ret ?_
            exact endQ_ret (h' := []) [] (.tmp rfl (.nil)) trivial (by decide) ⟨rfl, rfl⟩
        · replace h := bF h hg5
          refine g_no rfl rfl hg5 rfl ?_
          refine g_no rfl rfl hg5 rfl ?_
          refine g_no rfl rfl hg5 rfl ?_
          refine g_op rfl (ValOk.op (v_pickF rfl hg5 rfl rfl ?_)) 
          refine g_op rfl (ValOk.op (v_move rfl rfl ?_)) 
          refine g_no rfl rfl rfl rfl ?_
          refine g_no rfl rfl rfl rfl ?_
          refine g_no rfl rfl rfl rfl ?_
          refine g_no rfl rfl rfl rfl ?_
          refine g_no rfl rfl rfl rfl ?_
          refine g_no rfl rfl rfl rfl ?_
          refine g_no rfl rfl rfl rfl ?_
          refine g_no rfl rfl rfl rfl ?_
          refine g_op rfl (ValOk.op (v_pickF rfl rfl rfl rfl ?_)) 
          refine g_op rfl (ValOk.op (v_assign rfl rfl ?_)) 
          refine g_nil ?_
          refine hK9 _ ?_
          refine Good.le (σ' := ⟨154, [(2, _)], []⟩) (le_w [] rfl ⟨⟨_, rfl, .refl _⟩, trivial⟩ trivial (by decide)) ?_
          refine Good.le (σ' := ⟨154, [(2, .bool false)], []⟩) (le_w [] rfl ⟨⟨_, rfl, .refl _⟩, trivial⟩ trivial (by decide)) ?_
          refine good_ret ?_
          obtain rfl := Option.some.inj h
          refine blockQ_ret ?_
          refine thenQ_ret ?_
          exact endQ_ret (h' := []) [] (.tmp rfl (.nil)) trivial (by decide) ⟨rfl, rfl⟩
      · replace h := ifF h (dF hc3)
        refine good_seq fun K10 hK10 => ?_
        refine good_region ?_
        refine g_op rfl (ValOk.op (v_bin rfl rfl rfl rfl ?_)) 
        refine g_op rfl (ValOk.op (v_assign rfl rfl ?_)) 
        refine g_nil ?_
        refine hK10 _ ?_
        refine Good.le (σ' := ⟨154, [(1, _), (2, _), (4, _), (65, _)], [(11, (_, _))]⟩) (le_w [some 11] rfl ⟨⟨_, rfl, .refl _⟩, ⟨⟨_, rfl, .refl _⟩, ⟨⟨_, rfl, .refl _⟩, ⟨⟨_, rfl, .refl _⟩, trivial⟩⟩⟩⟩ ⟨⟨_, rfl, .refl _⟩, trivial⟩ (by decide)) ?_
        refine good_cond rfl (fun hc4 => ?_) (fun hc4 => ?_)
        · replace h := ifT h (dT hc4)
          refine good_seq fun K11 hK11 => ?_
          refine good_region ?_
          refine g_op rfl (ValOk.op (v_fieldP tabOk rfl tfoff30_1 rfl ?_)) 
          refine g_op rfl (ValOk.op (v_loadP tabOk rfl rfl tsize3 tagg3 rfl rfl rfl rfl ?_)) 
          refine g_op rfl (ValOk.op (v_bin rfl rfl rfl rfl ?_)) 
          refine g_op rfl (ValOk.op (v_move rfl rfl ?_)) 
          rcases bsplit ((decide (a0.num = 0))) with hg7 | hg7
          · replace h := ifT h (dT hg7)
            refine g_yes rfl rfl hg7 (ValOk.op (v_fieldP tabOk rfl tfoff30_2 rfl ?_)) 
            refine g_yes rfl rfl hg7 (ValOk.op (v_loadP tabOk rfl rfl tsize9 tagg9 rfl rfl rfl rfl ?_)) 
            refine g_yes rfl rfl hg7 (ValOk.op (v_lenS tabOk rfl rfl tkind9 rfl ?_)) 
            refine g_yes rfl rfl hg7 (ValOk.op (v_bin rfl rfl rfl rfl ?_)) 
            refine g_op rfl (ValOk.op (v_pickT rfl hg7 rfl rfl ?_)) 
            refine g_op rfl (ValOk.op (v_move rfl rfl ?_)) 
            rcases bsplit ((decide ((a0.text.length : Int) ≤ 40))) with hg8 | hg8
            · replace h := ifT h (dT hg8)
              refine g_yes rfl rfl hg8 (ValOk.op (v_fieldP tabOk rfl tfoff30_3 rfl ?_)) 
              refine g_yes rfl rfl hg8 (ValOk.op (v_loadP tabOk rfl rfl tsize28 tagg28 rfl rfl rfl rfl ?_)) 
              refine g_yes rfl rfl hg8 (ValOk.op (v_lenM (l := a0.list) (f := encVal) tabOk rfl rfl telem28 rfl ?_)) 
              refine g_yes rfl rfl hg8 (ValOk.op (v_fieldP tabOk rfl tfoff30_4 rfl ?_)) 
              refine g_yes rfl rfl hg8 (ValOk.op (v_loadP tabOk rfl rfl tsize23 tagg23 rfl rfl rfl rfl ?_)) 
              refine g_yes rfl rfl hg8 (ValOk.op (v_lenM (l := a0.names) (f := encS) tabOk rfl rfl telem23 rfl ?_)) 
              refine g_yes rfl rfl hg8 (ValOk.op (v_bin rfl rfl rfl rfl ?_)) 
              refine g_yes rfl rfl hg8 (ValOk.op (v_bin rfl rfl rfl rfl ?_)) 
              refine g_op rfl (ValOk.op (v_pickT rfl hg8 rfl rfl ?_)) 
              refine g_op rfl (ValOk.op (v_assign rfl rfl ?_)) 
              refine g_nil ?_
              refine hK11 _ ?_
              refine Good.le (σ' := ⟨154, [(2, _)], []⟩) (le_w [] rfl ⟨⟨_, rfl, .refl _⟩, trivial⟩ trivial (by decide)) ?_
              refine Good.le (σ' := ⟨154, [(2, .bool (decide ((IntKind.wrap .i64 ((a0.list.length : Int) + (a0.names.length : Int))) = 0)))], []⟩) (le_w [] rfl ⟨⟨_, rfl, .refl _⟩, trivial⟩ trivial (by decide)) ?_
              refine good_ret ?_
              obtain rfl := Option.some.inj h
              refine blockQ_ret ?_
              refine thenQ_ret ?_
              exact endQ_ret (h' := []) [] (.tmp rfl (.nil)) trivial (by decide) ⟨rfl, rfl⟩
            · replace h := ifF h (dF hg8)
              refine g_no rfl rfl hg8 rfl ?_
              refine g_no rfl rfl hg8 rfl ?_
              refine g_no rfl rfl hg8 rfl ?_
              refine g_no rfl rfl hg8 rfl ?_
              refine g_no rfl rfl hg8 rfl ?_
              refine g_no rfl rfl hg8 rfl ?_
              refine g_no rfl rfl hg8 rfl ?_
              refine g_no rfl rfl hg8 rfl ?_
              refine g_op rfl (ValOk.op (v_pickF rfl hg8 rfl rfl ?_)) 
              refine g_op rfl (ValOk.op (v_assign rfl rfl ?_)) 
              refine g_nil ?_
              refine hK11 _ ?_
              refine Good.le (σ' := ⟨154, [(2, _)], []⟩) (le_w [] rfl ⟨⟨_, rfl, .refl _⟩, trivial⟩ trivial (by decide)) ?_
              refine Good.le (σ' := ⟨154, [(2, .bool false)], []⟩) (le_w [] rfl ⟨⟨_, rfl, .refl _⟩, trivial⟩ trivial (by decide)) ?_
              refine good_ret ?_
              obtain rfl := Option.some.inj h
              refine blockQ_ret ?_
              refine thenQ_ret ?_
              exact endQ_ret (h' := []) [] (.tmp rfl (.nil)) trivial (by decide) ⟨rfl, rfl⟩
          · replace h := ifF h (dF hg7)
            refine g_no rfl rfl hg7 rfl ?_
            refine g_no rfl rfl hg7 rfl ?_
            refine g_no rfl rfl hg7 rfl ?_
            refine g_no rfl rfl hg7 rfl ?_
            refine g_op rfl (ValOk.op (v_pickF rfl hg7 rfl rfl ?_)) 
            refine g_op rfl (ValOk.op (v_move rfl rfl ?_)) 
            refine g_no rfl rfl rfl rfl ?_
            refine g_no rfl rfl rfl rfl ?_
            refine g_no rfl rfl rfl rfl ?_
            refine g_no rfl rfl rfl rfl ?_
            refine g_no rfl rfl rfl rfl ?_
            refine g_no rfl rfl rfl rfl ?_
            refine g_no rfl rfl rfl rfl ?_
            refine g_no rfl rfl rfl rfl ?_
            refine g_op rfl (ValOk.op (v_pickF rfl rfl rfl rfl ?_)) 
            refine g_op rfl (ValOk.op (v_assign rfl rfl ?_)) 
            refine g_nil ?_
            refine hK11 _ ?_
            refine Good.le (σ' := ⟨154, [(2, _)], []⟩) (le_w [] rfl ⟨⟨_, rfl, .refl _⟩, trivial⟩ trivial (by decide)) ?_
            refine Good.le (σ' := ⟨154, [(2, .bool false)], []⟩) (le_w [] rfl ⟨⟨_, rfl, .refl _⟩, trivial⟩ trivial (by decide)) ?_
            refine good_ret ?_
            obtain rfl := Option.some.inj h
            refine blockQ_ret ?_
            refine thenQ_ret ?_
            exact endQ_ret (h' := []) [] (.tmp rfl (.nil)) trivial (by decide) ⟨rfl, rfl⟩
        · replace h := ifF h (dF hc4)
          refine good_seq fun K12 hK12 => ?_
          refine good_region ?_
          refine g_op rfl (ValOk.op (v_bin rfl rfl rfl rfl ?_)) 
          refine g_op rfl (ValOk.op (v_assign rfl rfl ?_)) 
          refine g_nil ?_
          refine hK12 _ ?_
          refine Good.le (σ' := ⟨154, [(1, _), (2, _), (4, _), (86, _)], [(11, (_, _))]⟩) (le_w [some 11] rfl ⟨⟨_, rfl, .refl _⟩, ⟨⟨_, rfl, .refl _⟩, ⟨⟨_, rfl, .refl _⟩, ⟨⟨_, rfl, .refl _⟩, trivial⟩⟩⟩⟩ ⟨⟨_, rfl, .refl _⟩, trivial⟩ (by decide)) ?_
          refine good_cond rfl (fun hc5 => ?_) (fun hc5 => ?_)
          · replace h := ifT h (dT hc5)
            refine good_seq fun K13 hK13 => ?_
            refine good_region ?_
            refine g_op rfl (ValOk.op (v_fieldP tabOk rfl tfoff30_1 rfl ?_)) 
            refine g_op rfl (ValOk.op (v_loadP tabOk rfl rfl tsize3 tagg3 rfl rfl rfl rfl ?_)) 
            refine g_op rfl (ValOk.op (v_bin rfl rfl rfl rfl ?_)) 
            refine g_op rfl (ValOk.op (v_move rfl rfl ?_)) 
            rcases bsplit ((decide (a0.num = 0))) with hg9 | hg9
            · replace h := ifT h (dT hg9)
              refine g_yes rfl rfl hg9 (ValOk.op (v_fieldP tabOk rfl tfoff30_2 rfl ?_)) 
              refine g_yes rfl rfl hg9 (ValOk.op (v_loadP tabOk rfl rfl tsize9 tagg9 rfl rfl rfl rfl ?_)) 
              refine g_yes rfl rfl hg9 (ValOk.op (v_bin rfl rfl rfl rfl ?_)) 
              refine g_op rfl (ValOk.op (v_pickT rfl hg9 rfl rfl ?_)) 
              refine g_op rfl (ValOk.op (v_move rfl rfl ?_)) 
              rcases bsplit ((decide (a0.text = []))) with hg10 | hg10
              · replace h := ifT h (dT hg10)
                refine g_yes rfl rfl hg10 (ValOk.op (v_fieldP tabOk rfl tfoff30_4 rfl ?_)) 
                refine g_yes rfl rfl hg10 (ValOk.op (v_loadP tabOk rfl rfl tsize23 tagg23 rfl rfl rfl rfl ?_)) 
                refine g_yes rfl rfl hg10 (ValOk.op (v_lenM (l := a0.names) (f := encS) tabOk rfl rfl telem23 rfl ?_)) 
                refine g_yes rfl rfl hg10 (ValOk.op (v_bin rfl rfl rfl rfl ?_)) 
                refine g_op rfl (ValOk.op (v_pickT rfl hg10 rfl rfl ?_)) 
                refine g_op rfl (ValOk.op (v_move rfl rfl ?_)) 
                rcases bsplit ((decide ((a0.names.length : Int) = 0))) with hg11 | hg11
                · replace h := ifT h (dT hg11)
                  refine g_yes rfl rfl hg11 (ValOk.op (v_fieldP tabOk rfl tfoff30_3 rfl ?_)) 
                  refine g_yes rfl rfl hg11 (ValOk.op (v_loadP tabOk rfl rfl tsize28 tagg28 rfl rfl rfl rfl ?_)) 
                  refine g_yes rfl rfl hg11 (ValOk.op (v_lenM (l := a0.list) (f := encVal) tabOk rfl rfl telem28 rfl ?_)) 
                  refine g_yes rfl rfl hg11 (ValOk.op (v_bin rfl rfl rfl rfl ?_)) 
                  refine g_op rfl (ValOk.op (v_pickT rfl hg11 rfl rfl ?_)) 
                  refine g_op rfl (ValOk.op (v_assign rfl rfl ?_)) 
                  refine g_nil ?_
                  refine hK13 _ ?_
                  refine Good.le (σ' := ⟨154, [(2, _)], []⟩) (le_w [] rfl ⟨⟨_, rfl, .refl _⟩, trivial⟩ trivial (by decide)) ?_
                  refine Good.le (σ' := ⟨154, [(2, .bool (decide ((a0.list.length : Int) ≤ 12)))], []⟩) (le_w [] rfl ⟨⟨_, rfl, .refl _⟩, trivial⟩ trivial (by decide)) ?_
                  refine good_ret ?_
                  obtain rfl := Option.some.inj h
                  refine blockQ_ret ?_
                  refine thenQ_ret ?_
                  exact endQ_ret (h' := []) [] (.tmp rfl (.nil)) trivial (by decide) ⟨rfl, rfl⟩
                · replace h := ifF h (dF hg11)
                  refine g_no rfl rfl hg11 rfl ?_
                  refine g_no rfl rfl hg11 rfl ?_
                  refine g_no rfl rfl hg11 rfl ?_
                  refine g_no rfl rfl hg11 rfl ?_
                  refine g_op rfl (ValOk.op (v_pickF rfl hg11 rfl rfl ?_)) 
                  refine g_op rfl (ValOk.op (v_assign rfl rfl ?_)) 
                  refine g_nil ?_
                  refine hK13 _ ?_
                  refine Good.le (σ' := ⟨154, [(2, _)], []⟩) (le_w [] rfl ⟨⟨_, rfl, .refl _⟩, trivial⟩ trivial (by decide)) ?_
                  refine Good.le (σ' := ⟨154, [(2, .bool false)], []⟩) (le_w [] rfl ⟨⟨_, rfl, .refl _⟩, trivial⟩ trivial (by decide)) ?_
                  refine good_ret ?_
                  obtain rfl := Option.some.inj h
                  refine blockQ_ret ?_
                  refine thenQ_ret ?_
                  exact endQ_ret (h' := []) [] (.tmp rfl (.nil)) trivial (by decide) ⟨rfl, rfl⟩
              · replace h := ifF h (dF hg10)
                refine g_no rfl rfl hg10 rfl ?_
                refine g_no rfl rfl hg10 rfl ?_
                refine g_no rfl rfl hg10 rfl ?_
                refine g_no rfl rfl hg10 rfl ?_
                refine g_op rfl (ValOk.op (v_pickF rfl hg10 rfl rfl ?_)) 
                refine g_op rfl (ValOk.op (v_move rfl rfl ?_)) 
                refine g_no rfl rfl rfl rfl ?_
                refine g_no rfl rfl rfl rfl ?_
                refine g_no rfl rfl rfl rfl ?_
                refine g_no rfl rfl rfl rfl ?_
                refine g_op rfl (ValOk.op (v_pickF rfl rfl rfl rfl ?_)) 
                refine g_op rfl (ValOk.op (v_assign rfl rfl ?_)) 
                refine g_nil ?_
                refine hK13 _ ?_
                refine Good.le (σ' := ⟨154, [(2, _)], []⟩) (le_w [] rfl ⟨⟨_, rfl, .refl _⟩, trivial⟩ trivial (by decide)) ?_
                refine Good.le (σ' := ⟨154, [(2, .bool false)], []⟩) (le_w [] rfl ⟨⟨_, rfl, .refl _⟩, trivial⟩ trivial (by decide)) ?_
                refine good_ret ?_
                obtain rfl := Option.some.inj h
                refine blockQ_ret ?_
                refine thenQ_ret ?_
                exact endQ_ret (h' := []) [] (.tmp rfl (.nil)) trivial (by decide) ⟨rfl, rfl⟩
            · replace h := ifF h (dF hg9)
              refine g_no rfl rfl hg9 rfl ?_
              refine g_no rfl rfl hg9 rfl ?_
              refine g_no rfl rfl hg9 rfl ?_
              refine g_op rfl (ValOk.op (v_pickF rfl hg9 rfl rfl ?_)) 
              refine g_op rfl (ValOk.op (v_move rfl rfl ?_)) 
              refine g_no rfl rfl rfl rfl ?_
              refine g_no rfl rfl rfl rfl ?_
              refine g_no rfl rfl rfl rfl ?_
              refine g_no rfl rfl rfl rfl ?_
              refine g_op rfl (ValOk.op (v_pickF rfl rfl rfl rfl ?_)) 
              refine g_op rfl (ValOk.op (v_move rfl rfl ?_)) 
              refine g_no rfl rfl rfl rfl ?_
              refine g_no rfl rfl rfl rfl ?_
              refine g_no rfl rfl rfl rfl ?_
              refine g_no rfl rfl rfl rfl ?_
              refine g_op rfl (ValOk.op (v_pickF rfl rfl rfl rfl ?_)) 
              refine g_op rfl (ValOk.op (v_assign rfl rfl ?_)) 
              refine g_nil ?_
              refine hK13 _ ?_
              refine Good.le (σ' := ⟨154, [(2, _)], []⟩) (le_w [] rfl ⟨⟨_, rfl, .refl _⟩, trivial⟩ trivial (by decide)) ?_
              refine Good.le (σ' := ⟨154, [(2, .bool false)], []⟩) (le_w [] rfl ⟨⟨_, rfl, .refl _⟩, trivial⟩ trivial (by decide)) ?_
              refine good_ret ?_
              obtain rfl := Option.some.inj h
              refine blockQ_ret ?_
              refine thenQ_ret ?_
              exact endQ_ret (h' := []) [] (.tmp rfl (.nil)) trivial (by decide) ⟨rfl, rfl⟩
          · replace h := ifF h (dF hc5)
            refine good_seq fun K14 hK14 => ?_
            refine good_region ?_
            refine g_op rfl (ValOk.op (v_bin rfl rfl rfl rfl ?_)) 
            refine g_op rfl (ValOk.op (v_assign rfl rfl ?_)) 
            refine g_nil ?_
            refine hK14 _ ?_
            refine Good.le (σ' := ⟨154, [(1, _), (2, _), (4, _), (108, _)], [(11, (_, _))]⟩) (le_w [some 11] rfl ⟨⟨_, rfl, .refl _⟩, ⟨⟨_, rfl, .refl _⟩, ⟨⟨_, rfl, .refl _⟩, ⟨⟨_, rfl, .refl _⟩, trivial⟩⟩⟩⟩ ⟨⟨_, rfl, .refl _⟩, trivial⟩ (by decide)) ?_
            refine good_cond rfl (fun hc6 => ?_) (fun hc6 => ?_)
            · replace h := ifT h (dT hc6)
              refine good_seq fun K15 hK15 => ?_
              refine good_region ?_
              refine g_op rfl (ValOk.op (v_fieldP tabOk rfl tfoff30_1 rfl ?_)) 
              refine g_op rfl (ValOk.op (v_loadP tabOk rfl rfl tsize3 tagg3 rfl rfl rfl rfl ?_)) 
              refine g_op rfl (ValOk.op (v_bin rfl rfl rfl rfl ?_)) 
              refine g_op rfl (ValOk.op (v_move rfl rfl ?_)) 
              rcases bsplit ((decide (a0.num = 0))) with hg12 | hg12
              · replace h := ifT h (dT hg12)
                refine g_yes rfl rfl hg12 (ValOk.op (v_fieldP tabOk rfl tfoff30_2 rfl ?_)) 
                refine g_yes rfl rfl hg12 (ValOk.op (v_loadP tabOk rfl rfl tsize9 tagg9 rfl rfl rfl rfl ?_)) 
                refine g_yes rfl rfl hg12 (ValOk.op (v_bin rfl rfl rfl rfl ?_)) 
                refine g_op rfl (ValOk.op (v_pickT rfl hg12 rfl rfl ?_)) 
                refine g_op rfl (ValOk.op (v_move rfl rfl ?_)) 
                rcases bsplit ((decide (a0.text = []))) with hg13 | hg13
                · replace h := ifT h (dT hg13)
                  refine g_yes rfl rfl hg13 (ValOk.op (v_fieldP tabOk rfl tfoff30_4 rfl ?_)) 
                  refine g_yes rfl rfl hg13 (ValOk.op (v_loadP tabOk rfl rfl tsize23 tagg23 rfl rfl rfl rfl ?_)) 
                  refine g_yes rfl rfl hg13 (ValOk.op (v_lenM (l := a0.names) (f := encS) tabOk rfl rfl telem23 rfl ?_)) 
                  refine g_yes rfl rfl hg13 (ValOk.op (v_fieldP tabOk rfl tfoff30_3 rfl ?_)) 
                  refine g_yes rfl rfl hg13 (ValOk.op (v_loadP tabOk rfl rfl tsize28 tagg28 rfl rfl rfl rfl ?_)) 
                  refine g_yes rfl rfl hg13 (ValOk.op (v_lenM (l := a0.list) (f := encVal) tabOk rfl rfl telem28 rfl ?_)) 
                  refine g_yes rfl rfl hg13 (ValOk.op (v_bin rfl rfl rfl rfl ?_)) 
                  refine g_op rfl (ValOk.op (v_pickT rfl hg13 rfl rfl ?_)) 
                  refine g_op rfl (ValOk.op (v_move rfl rfl ?_)) 
                  rcases bsplit ((decide ((a0.names.length : Int) = (a0.list.length : Int)))) with hg14 | hg14
                  · replace h := ifT h (dT hg14)
                    refine g_yes rfl rfl hg14 (ValOk.op (v_fieldP tabOk rfl tfoff30_3 rfl ?_)) 
                    refine g_yes rfl rfl hg14 (ValOk.op (v_loadP tabOk rfl rfl tsize28 tagg28 rfl rfl rfl rfl ?_)) 
                    refine g_yes rfl rfl hg14 (ValOk.op (v_lenM (l := a0.list) (f := encVal) tabOk rfl rfl telem28 rfl ?_)) 
                    refine g_yes rfl rfl hg14 (ValOk.op (v_bin rfl rfl rfl rfl ?_)) 
                    refine g_op rfl (ValOk.op (v_pickT rfl hg14 rfl rfl ?_)) 
                    refine g_op rfl (ValOk.op (v_assign rfl rfl ?_)) 
                    refine g_nil ?_
                    refine hK15 _ ?_
                    refine Good.le (σ' := ⟨154, [(2, _)], []⟩) (le_w [] rfl ⟨⟨_, rfl, .refl _⟩, trivial⟩ trivial (by decide)) ?_
                    refine Good.le (σ' := ⟨154, [(2, .bool (decide ((a0.list.length : Int) ≤ 12)))], []⟩) (le_w [] rfl ⟨⟨_, rfl, .refl _⟩, trivial⟩ trivial (by decide)) ?_
                    refine good_ret ?_
                    obtain rfl := Option.some.inj h
                    refine blockQ_ret ?_
                    refine thenQ_ret ?_
                    exact endQ_ret (h' := []) [] (.tmp rfl (.nil)) trivial (by decide) ⟨rfl, rfl⟩
                  · replace h := ifF h (dF hg14)
                    refine g_no rfl rfl hg14 rfl ?_
                    refine g_no rfl rfl hg14 rfl ?_
                    refine g_no rfl rfl hg14 rfl ?_
                    refine g_no rfl rfl hg14 rfl ?_
                    refine g_op rfl (ValOk.op (v_pickF rfl hg14 rfl rfl ?_)) 
                    refine g_op rfl (ValOk.op (v_assign rfl rfl ?_)) 
                    refine g_nil ?_
                    refine hK15 _ ?_
                    refine Good.le (σ' := ⟨154, [(2, _)], []⟩) (le_w [] rfl ⟨⟨_, rfl, .refl _⟩, trivial⟩ trivial (by decide)) ?_
                    refine Good.le (σ' := ⟨154, [(2, .bool false)], []⟩) (le_w [] rfl ⟨⟨_, rfl, .refl _⟩, trivial⟩ trivial (by decide)) ?_
                    refine good_ret ?_
                    obtain rfl := Option.some.inj h
                    refine blockQ_ret ?_
                    refine thenQ_ret ?_
                    exact endQ_ret (h' := []) [] (.tmp rfl (.nil)) trivial (by decide) ⟨rfl, rfl⟩
                · replace h := ifF h (dF hg13)
                  refine g_no rfl rfl hg13 rfl ?_
                  refine g_no rfl rfl hg13 rfl ?_
                  refine g_no rfl rfl hg13 rfl ?_
                  refine g_no rfl rfl hg13 rfl ?_
                  refine g_no rfl rfl hg13 rfl ?_
                  refine g_no rfl rfl hg13 rfl ?_
                  refine g_no rfl rfl hg13 rfl ?_
                  refine g_op rfl (ValOk.op (v_pickF rfl hg13 rfl rfl ?_)) 
                  refine g_op rfl (ValOk.op (v_move rfl rfl ?_)) 
                  refine g_no rfl rfl rfl rfl ?_
                  refine g_no rfl rfl rfl rfl ?_
                  refine g_no rfl rfl rfl rfl ?_
                  refine g_no rfl rfl rfl rfl ?_
                  refine g_op rfl (ValOk.op (v_pickF rfl rfl rfl rfl ?_)) 
                  refine g_op rfl (ValOk.op (v_assign rfl rfl ?_)) 
                  refine g_nil ?_
                  refine hK15 _ ?_
                  refine Good.le (σ' := ⟨154, [(2, _)], []⟩) (le_w [] rfl ⟨⟨_, rfl, .refl _⟩, trivial⟩ trivial (by decide)) ?_
                  refine Good.le (σ' := ⟨154, [(2, .bool false)], []⟩) (le_w [] rfl ⟨⟨_, rfl, .refl _⟩, trivial⟩ trivial (by decide)) ?_
                  refine good_ret ?_
                  obtain rfl := Option.some.inj h
                  refine blockQ_ret ?_
                  refine thenQ_ret ?_
                  exact endQ_ret (h' := []) [] (.tmp rfl (.nil)) trivial (by decide) ⟨rfl, rfl⟩
              · replace h := ifF h (dF hg12)
                refine g_no rfl rfl hg12 rfl ?_
                refine g_no rfl rfl hg12 rfl ?_
                refine g_no rfl rfl hg12 rfl ?_
                refine g_op rfl (ValOk.op (v_pickF rfl hg12 rfl rfl ?_)) 
                refine g_op rfl (ValOk.op (v_move rfl rfl ?_)) 
                refine g_no rfl rfl rfl rfl ?_
                refine g_no rfl rfl rfl rfl ?_
                refine g_no rfl rfl rfl rfl ?_
                refine g_no rfl rfl rfl rfl ?_
                refine g_no rfl rfl rfl rfl ?_
                refine g_no rfl rfl rfl rfl ?_
                refine g_no rfl rfl rfl rfl ?_
                refine g_op rfl (ValOk.op (v_pickF rfl rfl rfl rfl ?_)) 
                refine g_op rfl (ValOk.op (v_move rfl rfl ?_)) 
                refine g_no rfl rfl rfl rfl ?_
                refine g_no rfl rfl rfl rfl ?_
                refine g_no rfl rfl rfl rfl ?_
                refine g_no rfl rfl rfl rfl ?_
                refine g_op rfl (ValOk.op (v_pickF rfl rfl rfl rfl ?_)) 
                refine g_op rfl (ValOk.op (v_assign rfl rfl ?_)) 
                refine g_nil ?_
                refine hK15 _ ?_
                refine Good.le (σ' := ⟨154, [(2, _)], []⟩) (le_w [] rfl ⟨⟨_, rfl, .refl _⟩, trivial⟩ trivial (by decide)) ?_
                refine Good.le (σ' := ⟨154, [(2, .bool false)], []⟩) (le_w [] rfl ⟨⟨_, rfl, .refl _⟩, trivial⟩ trivial (by decide)) ?_
                refine good_ret ?_
                obtain rfl := Option.some.inj h
                refine blockQ_ret ?_
                refine thenQ_ret ?_
                exact endQ_ret (h' := []) [] (.tmp rfl (.nil)) trivial (by decide) ⟨rfl, rfl⟩
            · replace h := ifF h (dF hc6)
              refine good_seq fun K16 hK16 => ?_
              obtain ⟨o1, ho1, hJ1⟩ := bnd h
              have hw1 : ∀ (s1 : Bool), o1 = Lp.go s1 → ∀ σ', Le σ' ⟨154, [(1, .ptr 11 b1 0), (2, .bool false), (133, .bool s1)], [(11, ((.pointer (some ⟨b1, 0, none⟩)), .optr 30 [.int .i64 a0.kind, .int .i64 a0.num, .str a0.text, .sl true (a0.list.map encVal), .sl false (a0.names.map encS)]))]⟩ → K16 σ' := by
                intro s1 e1 σ' hle1
                subst e1
                refine hK16 _ (Good.le hle1 ?_)
                replace h := hJ1
                refine good_cond rfl (fun hc7 => ?_) (fun hc7 => ?_)
                · replace h := ifT h hc7
                  refine good_seq fun K17 hK17 => ?_
                  refine good_region ?_
                  refine g_op rfl (ValOk.op (v_fieldP tabOk rfl tfoff30_1 rfl ?_)) 
                  refine g_op rfl (ValOk.op (v_loadP tabOk rfl rfl tsize3 tagg3 rfl rfl rfl rfl ?_)) 
                  refine g_op rfl (ValOk.op (v_bin rfl rfl rfl rfl ?_)) 
                  refine g_op rfl (ValOk.op (v_move rfl rfl ?_)) 
                  rcases bsplit ((decide (a0.num = 0))) with hg15 | hg15
                  · replace h := ifT h (dT hg15)
                    refine g_yes rfl rfl hg15 (ValOk.op (v_fieldP tabOk rfl tfoff30_2 rfl ?_)) 
                    refine g_yes rfl rfl hg15 (ValOk.op (v_loadP tabOk rfl rfl tsize9 tagg9 rfl rfl rfl rfl ?_)) 
                    obtain ⟨y3, hy3, h⟩ := bnd h
                    refine g_yes rfl rfl hg15 (o_callR [] [] (core_value rfl rfl) (m_spec_l1Name_ok k a0.text _ hy3) trivial (.cons (.refl _) (.nil)) (.inl rfl) rfl ?_)
                    refine g_op rfl (ValOk.op (v_pickT rfl hg15 rfl rfl ?_)) 
                    refine g_op rfl (ValOk.op (v_move rfl rfl ?_)) 
                    rcases bsplit (y3) with hg16 | hg16
                    · replace h := ifT h hg16
                      refine g_yes rfl rfl hg16 (ValOk.op (v_fieldP tabOk rfl tfoff30_3 rfl ?_)) 
                      refine g_yes rfl rfl hg16 (ValOk.op (v_loadP tabOk rfl rfl tsize28 tagg28 rfl rfl rfl rfl ?_)) 
                      refine g_yes rfl rfl hg16 (ValOk.op (v_lenM (l := a0.list) (f := encVal) tabOk rfl rfl telem28 rfl ?_)) 
                      refine g_yes rfl rfl hg16 (ValOk.op (v_fieldP tabOk rfl tfoff30_4 rfl ?_)) 
                      refine g_yes rfl rfl hg16 (ValOk.op (v_loadP tabOk rfl rfl tsize23 tagg23 rfl rfl rfl rfl ?_)) 
                      refine g_yes rfl rfl hg16 (ValOk.op (v_lenM (l := a0.names) (f := encS) tabOk rfl rfl telem23 rfl ?_)) 
                      refine g_yes rfl rfl hg16 (ValOk.op (v_bin rfl rfl rfl rfl ?_)) 
                      refine g_yes rfl rfl hg16 (ValOk.op (v_bin rfl rfl rfl rfl ?_)) 
                      refine g_op rfl (ValOk.op (v_pickT rfl hg16 rfl rfl ?_)) 
                      refine g_op rfl (ValOk.op (v_assign rfl rfl ?_)) 
                      refine g_nil ?_
                      refine hK17 _ ?_
                      refine Good.le (σ' := ⟨154, [(2, _)], []⟩) (le_w [] rfl ⟨⟨_, rfl, .refl _⟩, trivial⟩ trivial (by decide)) ?_
                      refine Good.le (σ' := ⟨154, [(2, .bool (decide ((IntKind.wrap .i64 ((a0.list.length : Int) + (a0.names.length : Int))) = 0)))], []⟩) (le_w [] rfl ⟨⟨_, rfl, .refl _⟩, trivial⟩ trivial (by decide)) ?_
                      refine good_ret ?_
                      obtain rfl := Option.some.inj h
                      refine blockQ_ret ?_
                      refine thenQ_ret ?_
                      exact endQ_ret (h' := []) [] (.tmp rfl (.nil)) trivial (by decide) ⟨rfl, rfl⟩
                    · replace h := bF h hg16
                      refine g_no rfl rfl hg16 rfl ?_
                      refine g_no rfl rfl hg16 rfl ?_
                      refine g_no rfl rfl hg16 rfl ?_
                      refine g_no rfl rfl hg16 rfl ?_
                      refine g_no rfl rfl hg16 rfl ?_
                      refine g_no rfl rfl hg16 rfl ?_
                      refine g_no rfl rfl hg16 rfl ?_
                      refine g_no rfl rfl hg16 rfl ?_
                      refine g_op rfl (ValOk.op (v_pickF rfl hg16 rfl rfl ?_)) 
                      refine g_op rfl (ValOk.op (v_assign rfl rfl ?_)) 
                      refine g_nil ?_
                      refine hK17 _ ?_
                      refine Good.le (σ' := ⟨154, [(2, _)], []⟩) (le_w [] rfl ⟨⟨_, rfl, .refl _⟩, trivial⟩ trivial (by decide)) ?_
                      refine Good.le (σ' := ⟨154, [(2, .bool false)], []⟩) (le_w [] rfl ⟨⟨_, rfl, .refl _⟩, trivial⟩ trivial (by decide)) ?_
                      refine good_ret ?_
                      obtain rfl := Option.some.inj h
                      refine blockQ_ret ?_
                      refine thenQ_ret ?_
                      exact endQ_ret (h' := []) [] (.tmp rfl (.nil)) trivial (by decide) ⟨rfl, rfl⟩
                  · replace h := ifF h (dF hg15)
                    refine g_no rfl rfl hg15 rfl ?_
                    refine g_no rfl rfl hg15 rfl ?_
                    refine g_no rfl rfl hg15 rfl ?_
                    refine g_op rfl (ValOk.op (v_pickF rfl hg15 rfl rfl ?_)) 
                    refine g_op rfl (ValOk.op (v_move rfl rfl ?_)) 
                    refine g_no rfl rfl rfl rfl ?_
                    refine g_no rfl rfl rfl rfl ?_
                    refine g_no rfl rfl rfl rfl ?_
                    refine g_no rfl rfl rfl rfl ?_
                    refine g_no rfl rfl rfl rfl ?_
                    refine g_no rfl rfl rfl rfl ?_
                    refine g_no rfl rfl rfl rfl ?_
                    refine g_no rfl rfl rfl rfl ?_
                    refine g_op rfl (ValOk.op (v_pickF rfl rfl rfl rfl ?_)) 
                    refine g_op rfl (ValOk.op (v_assign rfl rfl ?_)) 
                    refine g_nil ?_
                    refine hK17 _ ?_
                    refine Good.le (σ' := ⟨154, [(2, _)], []⟩) (le_w [] rfl ⟨⟨_, rfl, .refl _⟩, trivial⟩ trivial (by decide)) ?_
                    refine Good.le (σ' := ⟨154, [(2, .bool false)], []⟩) (le_w [] rfl ⟨⟨_, rfl, .refl _⟩, trivial⟩ trivial (by decide)) ?_
                    refine good_ret ?_
                    obtain rfl := Option.some.inj h
                    refine blockQ_ret ?_
                    refine thenQ_ret ?_
                    exact endQ_ret (h' := []) [] (.tmp rfl (.nil)) trivial (by decide) ⟨rfl, rfl⟩
                · replace h := bF h hc7
                  refine good_skip ?_
                  refine hK2 _ ?_
                  refine Good.le (σ' := ⟨154, [(2, _)], []⟩) (le_w [] rfl ⟨⟨_, rfl, .refl _⟩, trivial⟩ trivial (by decide)) ?_
                  refine good_seq fun K18 hK18 => ?_
                  refine good_region ?_
                  refine g_op rfl (ValOk.op (v_assign rfl rfl ?_)) 
                  refine g_nil ?_
                  refine hK18 _ ?_
                  refine Good.le (σ' := ⟨154, [(2, .bool false)], []⟩) (le_w [] rfl ⟨⟨_, rfl, .refl _⟩, trivial⟩ trivial (by decide)) ?_
                  refine good_ret ?_
                  obtain rfl := Option.some.inj h
                  exact endQ_ret (h' := []) [] (.tmp rfl (.nil)) trivial (by decide) ⟨rfl, rfl⟩
              replace h := ho1
              refine good_seq fun K19 hK19 => ?_
              refine good_region ?_
              refine g_op rfl (ValOk.op (v_bin rfl rfl rfl rfl ?_)) 
              refine g_op rfl (ValOk.op (v_assign rfl rfl ?_)) 
              refine g_nil ?_
              refine hK19 _ ?_
              refine Good.le (σ' := ⟨154, [(1, _), (2, _), (4, _), (133, _)], [(11, (_, _))]⟩) (le_w [some 11] rfl ⟨⟨_, rfl, .refl _⟩, ⟨⟨_, rfl, .refl _⟩, ⟨⟨_, rfl, .refl _⟩, ⟨⟨_, rfl, .refl _⟩, trivial⟩⟩⟩⟩ ⟨⟨_, rfl, .refl _⟩, trivial⟩ (by decide)) ?_
              refine good_cond rfl (fun hc8 => ?_) (fun hc8 => ?_)
              · replace h := ifT h (dT hc8)
                refine good_skip ?_
                exact hw1 (decide (a0.kind = 6)) (Option.some.inj h).symm _ (le_w [some 11] rfl ⟨⟨_, rfl, .refl _⟩, ⟨⟨_, rfl, .refl _⟩, ⟨⟨_, rfl, .refl _⟩, trivial⟩⟩⟩ ⟨⟨_, rfl, .refl _⟩, trivial⟩ (by decide))
              · replace h := ifF h (dF hc8)
                refine good_region ?_
                refine g_op rfl (ValOk.op (v_bin rfl rfl rfl rfl ?_)) 
                refine g_op rfl (ValOk.op (v_assign rfl rfl ?_)) 
                refine g_nil ?_
                exact hw1 (decide (a0.kind = 7)) (Option.some.inj h).symm _ (le_w [some 11] rfl ⟨⟨_, rfl, .refl _⟩, ⟨⟨_, rfl, .refl _⟩, ⟨⟨_, rfl, .refl _⟩, trivial⟩⟩⟩ ⟨⟨_, rfl, .refl _⟩, trivial⟩ (by decide))
mutual
def m_spec_l1Ok_l1 : Nat → Val → Int → Bool → Int → Option (Lp Unit Bool)
  | 0, _, _, _, _ => none
  | k + 1, a0, a1, a2, x1 =>
    if x1 < (a0.list.length : Int) then
      if (0 : Int) ≤ x1 ∧ x1 < (a0.list.length : Int) then
        (m_spec_l1Ok k (ix a0.list x1) (IntKind.wrap .i64 (a1 - 1)) a2).bind fun y1 =>
        if y1 = true then
          m_spec_l1Ok_l1 k a0 a1 a2 (IntKind.wrap .i64 (x1 + 1))
        else
          (some false).bind fun z =>
          some (Lp.ret z)
      else none
    else
      some (Lp.go ())
def m_spec_l1Ok : Nat → Val → Int → Bool → Option Bool
  | 0, _, _, _ => none
  | k + 1, a0, a1, a2 =>
    (if a1 < 1 then
        some (Lp.go true)
      else
        (m_spec_l1Plain k a0).bind fun y2 =>
        if y2 = true then
          if a2 = true then
            (m_spec_l1Once k a0.names).bind fun y4 =>
            some (Lp.go (!y4))
          else
            if 5 < a0.kind then
              some (Lp.go true)
            else
              (m_spec_l1Once k a0.names).bind fun y3 =>
              some (Lp.go (!y3))
        else
          some (Lp.go true)).bind fun o1 =>
    o1.then fun s1 =>
    if s1 = true then
      some false
    else
      (m_spec_l1Ok_l1 k a0 a1 a2 0).bind fun o2 =>
      o2.then fun s2 =>
    some true
end
def P_m_spec_l1Ok (k : Nat) : Prop := ∀ (a0 : Val) (a1 : Int) (a2 : Bool) (r : Bool), m_spec_l1Ok k a0 a1 a2 = some r → Does Try.prog 70 [.agg [.int .i64 a0.kind, .int .i64 a0.num, .str a0.text, .sl true (a0.list.map encVal), .sl false (a0.names.map encS)], .int .i64 a1, .bool a2] [] (ret (.bool r))
theorem m_spec_l1Ok_step (k : Nat) (ih : ∀ m, m < k → P_m_spec_l1Ok m) : P_m_spec_l1Ok k := by
  intro a0 a1 a2 r h
  obtain ⟨k, rfl⟩ : ∃ k', k = k' + 1 := by cases k with | zero => (rw [m_spec_l1Ok] at h; cases h) | succ k' => exact ⟨k', rfl⟩
  rw [m_spec_l1Ok] at h
  refine does_of_good tabOk Try.func70 rfl (by decide +kernel) (Nat.le_of_ble_eq_true rfl) fun c => ?_
  refine Good.le (σ' := ⟨47, [(0, .agg [.int .i64 a0.kind, .int .i64 a0.num, .str a0.text, .sl true (a0.list.map encVal), .sl false (a0.names.map encS)]), (1, .int .i64 a1), (2, .bool a2)], []⟩) (Le.refl _) ?_
  refine good_seq fun K1 hK1 => ?_
  refine good_region ?_
  refine g_op rfl (o_box (k := 13) tabOk rfl rfl rfl rfl rfl ?_)
  intro b1
  refine g_op rfl (ValOk.op (v_assign rfl rfl ?_)) 
  refine g_nil ?_
  refine hK1 _ ?_
  refine Good.le (σ' := ⟨47, [(1, _), (2, _), (3, _), (6, _)], [(13, (_, _))]⟩) (le_w [some 13] rfl ⟨⟨_, rfl, .refl _⟩, ⟨⟨_, rfl, .refl _⟩, ⟨⟨_, rfl, .refl _⟩, ⟨⟨_, rfl, .refl _⟩, trivial⟩⟩⟩⟩ ⟨⟨_, rfl, .refl _⟩, trivial⟩ (by decide)) ?_
  refine good_seq fun K2 hK2 => ?_
  refine good_seq fun K3 hK3 => ?_
  obtain ⟨o1, ho1, hJ1⟩ := bnd h
  have hw1 : ∀ (s1 : Bool), o1 = Lp.go s1 → ∀ σ', Le σ' ⟨47, [(1, .int .i64 a1), (2, .bool a2), (3, .ptr 13 b1 0), (6, .bool false), (29, .bool s1)], [(13, ((.pointer (some ⟨b1, 0, none⟩)), .optr 30 [.int .i64 a0.kind, .int .i64 a0.num, .str a0.text, .sl true (a0.list.map encVal), .sl false (a0.names.map encS)]))]⟩ → K3 σ' := by
    intro s1 e1 σ' hle1
    subst e1
    refine hK3 _ (Good.le hle1 ?_)
    replace h := hJ1
    refine good_cond rfl (fun hc1 => ?_) (fun hc1 => ?_)
    · replace h := ifT h hc1
      refine good_seq fun K4 hK4 => ?_
      refine good_region ?_
      refine g_op rfl (ValOk.op (v_assign rfl rfl ?_)) 
      refine g_nil ?_
      refine hK4 _ ?_
      refine Good.le (σ' := ⟨47, [(1, _), (2, _), (3, _), (6, _)], [(13, (_, _))]⟩) (le_w [some 13] rfl ⟨⟨_, rfl, .refl _⟩, ⟨⟨_, rfl, .refl _⟩, ⟨⟨_, rfl, .refl _⟩, ⟨⟨_, rfl, .refl _⟩, trivial⟩⟩⟩⟩ ⟨⟨_, rfl, .refl _⟩, trivial⟩ (by decide)) ?_
      refine Good.le (σ' := ⟨47, [(6, .bool false)], []⟩) (le_w [] rfl ⟨⟨_, rfl, .refl _⟩, trivial⟩ trivial (by decide)) ?_
      refine good_ret ?_
      obtain rfl := Option.some.inj h
      refine thenQ_ret ?_
      exact endQ_ret (h' := []) [] (.tmp rfl (.nil)) trivial (by decide) ⟨rfl, rfl⟩
    · replace h := bF h hc1
      refine good_skip ?_
      refine hK2 _ ?_
      refine Good.le (σ' := ⟨47, [(1, _), (2, _), (3, _), (6, _)], [(13, (_, _))]⟩) (le_w [some 13] rfl ⟨⟨_, rfl, .refl _⟩, ⟨⟨_, rfl, .refl _⟩, ⟨⟨_, rfl, .refl _⟩, ⟨⟨_, rfl, .refl _⟩, trivial⟩⟩⟩⟩ ⟨⟨_, rfl, .refl _⟩, trivial⟩ (by decide)) ?_
      refine good_seq fun K5 hK5 => ?_
      refine good_seq fun K6 hK6 => ?_
      refine good_region ?_
      refine g_op rfl (ValOk.op (v_assign rfl rfl ?_)) 
      refine g_nil ?_
      refine hK6 _ ?_
      obtain ⟨o2, ho2, hJ2⟩ := bnd h
      have hw2 : ∀ (s2 : Unit), o2 = Lp.go s2 → ∀ σ', Le σ' ⟨47, [(6, .bool false)], []⟩ → K5 σ' := by
        intro s2 e2 σ' hle2
        subst e2
        refine hK5 _ (Good.le hle2 ?_)
        replace h := hJ2
        refine good_seq fun K7 hK7 => ?_
        refine good_region ?_
        refine g_op rfl (ValOk.op (v_assign rfl rfl ?_)) 
        refine g_nil ?_
        refine hK7 _ ?_
        refine Good.le (σ' := ⟨47, [(6, .bool true)], []⟩) (le_w [] rfl ⟨⟨_, rfl, .refl _⟩, trivial⟩ trivial (by decide)) ?_
        refine good_ret ?_
        obtain rfl := Option.some.inj h
        exact endQ_ret (h' := []) [] (.tmp rfl (.nil)) trivial (by decide) ⟨rfl, rfl⟩
      replace h := ho2
      refine good_block ?_
      refine good_loopf (fun p : Int => ⟨47, [(1, .int .i64 a1), (2, .bool a2), (3, .ptr 13 b1 0), (6, .bool false), (7, .int .i64 p)], [(13, ((.pointer (some ⟨b1, 0, none⟩)), .optr 30 [.int .i64 a0.kind, .int .i64 a0.num, .str a0.text, .sl true (a0.list.map encVal), .sl false (a0.names.map encS)]))]⟩) (fun m p => m < k + 1 ∧ m_spec_l1Ok_l1 m a0 a1 a2 p = some o2) k (0) (le_w [some 13] rfl ⟨⟨_, rfl, .refl _⟩, ⟨⟨_, rfl, .refl _⟩, ⟨⟨_, rfl, .refl _⟩, ⟨⟨_, rfl, .refl _⟩, ⟨⟨_, rfl, .refl _⟩, trivial⟩⟩⟩⟩⟩ ⟨⟨_, rfl, .refl _⟩, trivial⟩ (by decide)) ⟨by omega, h⟩ ?_
      rintro m1 x1 ⟨hm, h⟩
      replace h : m_spec_l1Ok_l1 m1 a0 a1 a2 x1 = some o2 := h
      refine Good.le (σ' := ⟨47, [(1, .int .i64 a1), (2, .bool a2), (3, .ptr 13 b1 0), (6, .bool false), (7, .int .i64 x1)], [(13, ((.pointer (some ⟨b1, 0, none⟩)), .optr 30 [.int .i64 a0.kind, .int .i64 a0.num, .str a0.text, .sl true (a0.list.map encVal), .sl false (a0.names.map encS)]))]⟩) (Le.refl _) ?_
      obtain ⟨m1, rfl⟩ : ∃ m', m1 = m' + 1 := by cases m1 with | zero => (rw [m_spec_l1Ok_l1] at h; cases h) | succ m' => exact ⟨m', rfl⟩
      rw [m_spec_l1Ok_l1] at h
      refine good_seq fun K8 hK8 => ?_
      refine good_seq fun K9 hK9 => ?_
      refine good_region ?_
      refine g_op rfl (ValOk.op (v_move rfl rfl ?_)) 
      refine g_op rfl (ValOk.op (v_fieldP tabOk rfl tfoff30_3 rfl ?_)) 
      refine g_op rfl (ValOk.op (v_loadP tabOk rfl rfl tsize28 tagg28 rfl rfl rfl rfl ?_)) 
      refine g_op rfl (ValOk.op (v_lenM (l := a0.list) (f := encVal) tabOk rfl rfl telem28 rfl ?_)) 
      refine g_op rfl (ValOk.op (v_bin rfl rfl rfl rfl ?_)) 
      refine g_nil ?_
      refine hK9 _ ?_
      refine Good.le (σ' := ⟨47, [(1, _), (2, _), (3, _), (6, _), (7, _), (34, _)], [(13, (_, _))]⟩) (le_w [some 13] rfl ⟨⟨_, rfl, .refl _⟩, ⟨⟨_, rfl, .refl _⟩, ⟨⟨_, rfl, .refl _⟩, ⟨⟨_, rfl, .refl _⟩, ⟨⟨_, rfl, .refl _⟩, ⟨⟨_, rfl, .refl _⟩, trivial⟩⟩⟩⟩⟩⟩ ⟨⟨_, rfl, .refl _⟩, trivial⟩ (by decide)) ?_
      refine good_cond rfl (fun hc2 => ?_) (fun hc2 => ?_)
      · replace h := ifT h (dT hc2)
        refine good_skip ?_
        refine hK8 _ ?_
        refine Good.le (σ' := ⟨47, [(1, _), (2, _), (3, _), (6, _), (7, _)], [(13, (_, _))]⟩) (le_w [some 13] rfl ⟨⟨_, rfl, .refl _⟩, ⟨⟨_, rfl, .refl _⟩, ⟨⟨_, rfl, .refl _⟩, ⟨⟨_, rfl, .refl _⟩, ⟨⟨_, rfl, .refl _⟩, trivial⟩⟩⟩⟩⟩ ⟨⟨_, rfl, .refl _⟩, trivial⟩ (by decide)) ?_
        refine good_seq fun K10 hK10 => ?_
        refine good_block ?_
        refine good_seq fun K11 hK11 => ?_
        refine good_region ?_
        refine g_op rfl (ValOk.op (v_fieldP tabOk rfl tfoff30_3 rfl ?_)) 
        refine g_op rfl (ValOk.op (v_loadP tabOk rfl rfl tsize28 tagg28 rfl rfl rfl rfl ?_)) 
        refine g_op rfl (ValOk.op (v_move rfl rfl ?_)) 
        obtain ⟨hb1, h⟩ := ifS h
        refine g_op rfl (ValOk.op (v_idxM tabOk rfl rfl telem28 tsize30 hb1 (encVal_eq _) rfl rfl ?_)) 
        refine g_op rfl (ValOk.op (v_loadE tabOk rfl tsize30 tagg30 rfl rfl rfl ?_)) 
        refine g_op rfl (ValOk.op (v_move rfl rfl ?_)) 
        refine g_op rfl (ValOk.op (v_bin rfl rfl rfl rfl ?_)) 
        refine g_op rfl (ValOk.op (v_move rfl rfl ?_)) 
        obtain ⟨y1, hy1, h⟩ := bnd h
        refine g_op rfl (o_callR [] [] (core_value rfl rfl) ((ih m1 (by omega)) (ix a0.list x1) (IntKind.wrap .i64 (a1 - 1)) a2 _ hy1) trivial (.cons (.refl _) (.cons (.refl _) (.cons (.refl _) (.nil)))) (.inl rfl) rfl ?_)
        refine g_op rfl (ValOk.op (v_not rfl rfl ?_)) 
        refine g_nil ?_
        refine hK11 _ ?_
        refine Good.le (σ' := ⟨47, [(1, _), (2, _), (3, _), (6, _), (7, _), (46, _)], [(13, (_, _))]⟩) (le_w [some 13] rfl ⟨⟨_, rfl, .refl _⟩, ⟨⟨_, rfl, .refl _⟩, ⟨⟨_, rfl, .refl _⟩, ⟨⟨_, rfl, .refl _⟩, ⟨⟨_, rfl, .refl _⟩, ⟨⟨_, rfl, .refl _⟩, trivial⟩⟩⟩⟩⟩⟩ ⟨⟨_, rfl, .refl _⟩, trivial⟩ (by decide)) ?_
        refine good_cond rfl (fun hc3 => ?_) (fun hc3 => ?_)
        · replace h := bF h (nT hc3)
          refine good_seq fun K12 hK12 => ?_
          refine good_region ?_
          refine g_op rfl (ValOk.op (v_assign rfl rfl ?_)) 
          refine g_nil ?_
          refine hK12 _ ?_
          refine Good.le (σ' := ⟨47, [(1, _), (2, _), (3, _), (6, _), (7, _)], [(13, (_, _))]⟩) (le_w [some 13] rfl ⟨⟨_, rfl, .refl _⟩, ⟨⟨_, rfl, .refl _⟩, ⟨⟨_, rfl, .refl _⟩, ⟨⟨_, rfl, .refl _⟩, ⟨⟨_, rfl, .refl _⟩, trivial⟩⟩⟩⟩⟩ ⟨⟨_, rfl, .refl _⟩, trivial⟩ (by decide)) ?_
          refine Good.le (σ' := ⟨47, [(6, .bool false)], []⟩) (le_w [] rfl ⟨⟨_, rfl, .refl _⟩, trivial⟩ trivial (by decide)) ?_
          refine good_ret ?_
          replace h := unret h hJ2
          obtain rfl := Option.some.inj h
          refine blockQ_ret ?_
          refine thenQ_ret ?_
          refine thenQ_ret ?_
          refine blockQ_ret ?_
          refine thenQ_ret ?_
          exact endQ_ret (h' := []) [] (.tmp rfl (.nil)) trivial (by decide) ⟨rfl, rfl⟩
        · replace h := ifT h (nF hc3)
          refine good_skip ?_
          refine hK10 _ ?_
          refine Good.le (σ' := ⟨47, [(1, _), (2, _), (3, _), (6, _), (7, _)], [(13, (_, _))]⟩) (le_w [some 13] rfl ⟨⟨_, rfl, .refl _⟩, ⟨⟨_, rfl, .refl _⟩, ⟨⟨_, rfl, .refl _⟩, ⟨⟨_, rfl, .refl _⟩, ⟨⟨_, rfl, .refl _⟩, trivial⟩⟩⟩⟩⟩ ⟨⟨_, rfl, .refl _⟩, trivial⟩ (by decide)) ?_
          refine good_region ?_
          refine g_op rfl (ValOk.op (v_move rfl rfl ?_)) 
          refine g_op rfl (ValOk.op (v_bin rfl rfl rfl rfl ?_)) 
          refine g_op rfl (ValOk.op (v_assign rfl rfl ?_)) 
          refine g_nil ?_
          exact round_mk m1 (IntKind.wrap .i64 (x1 + 1)) (Nat.lt_succ_self _) ⟨by omega, h⟩ (le_w [some 13] rfl ⟨⟨_, rfl, .refl _⟩, ⟨⟨_, rfl, .refl _⟩, ⟨⟨_, rfl, .refl _⟩, ⟨⟨_, rfl, .refl _⟩, ⟨⟨_, rfl, .refl _⟩, trivial⟩⟩⟩⟩⟩ ⟨⟨_, rfl, .refl _⟩, trivial⟩ (by decide))
      · replace h := ifF h (dF hc2)
        refine good_exit ?_
        exact hw2 () (Option.some.inj h).symm _ (le_w [] rfl ⟨⟨_, rfl, .refl _⟩, trivial⟩ trivial (by decide))
  replace h := ho1
  refine good_region ?_
  refine g_op rfl (ValOk.op (v_move rfl rfl ?_)) 
  refine g_op rfl (ValOk.op (v_bin rfl rfl rfl rfl ?_)) 
  refine g_op rfl (ValOk.op (v_move rfl rfl ?_)) 
  rcases bsplit ((decide (a1 < 1))) with hg1 | hg1
  · replace h := ifT h (dT hg1)
    refine g_no rfl rfl hg1 rfl ?_
    refine g_no rfl rfl hg1 rfl ?_
    refine g_no rfl rfl hg1 rfl ?_
    refine g_op rfl (ValOk.op (v_pickT rfl hg1 rfl rfl ?_)) 
    refine g_op rfl (ValOk.op (v_move rfl rfl ?_)) 
    refine g_no rfl rfl rfl rfl ?_
    refine g_no rfl rfl rfl rfl ?_
    refine g_no rfl rfl rfl rfl ?_
    refine g_und rfl rfl rfl ?_
    refine g_und rfl rfl rfl ?_
    refine g_und rfl rfl rfl ?_
    refine g_no rfl rfl rfl rfl ?_
    refine g_op rfl (ValOk.op (v_pickT rfl rfl rfl rfl ?_)) 
    refine g_op rfl (ValOk.op (v_move rfl rfl ?_)) 
    refine g_no rfl rfl rfl rfl ?_
    refine g_no rfl rfl rfl rfl ?_
    refine g_no rfl rfl rfl rfl ?_
    refine g_no rfl rfl rfl rfl ?_
    refine g_op rfl (ValOk.op (v_pickT rfl rfl rfl rfl ?_)) 
    refine g_nil ?_
    exact hw1 true (Option.some.inj h).symm _ (le_w [some 13] rfl ⟨⟨_, rfl, .refl _⟩, ⟨⟨_, rfl, .refl _⟩, ⟨⟨_, rfl, .refl _⟩, ⟨⟨_, rfl, .refl _⟩, ⟨⟨_, rfl, .refl _⟩, trivial⟩⟩⟩⟩⟩ ⟨⟨_, rfl, .refl _⟩, trivial⟩ (by decide))
  · replace h := ifF h (dF hg1)
    refine g_yes rfl rfl hg1 (ValOk.op (v_loadP tabOk rfl rfl tsize30 tagg30 rfl rfl rfl rfl ?_)) 
    obtain ⟨y2, hy2, h⟩ := bnd h
    refine g_yes rfl rfl hg1 (o_callR [] [] (core_value rfl rfl) (m_spec_l1Plain_ok k a0 _ hy2) trivial (.cons (.refl _) (.nil)) (.inl rfl) rfl ?_)
    refine g_yes rfl rfl hg1 (ValOk.op (v_not rfl rfl ?_)) 
    refine g_op rfl (ValOk.op (v_pickF rfl hg1 rfl rfl ?_)) 
    refine g_op rfl (ValOk.op (v_move rfl rfl ?_)) 
    rcases bsplit ((!y2)) with hg2 | hg2
    · replace h := bF h (nT hg2)
      refine g_no rfl rfl hg2 rfl ?_
      refine g_no rfl rfl hg2 rfl ?_
      refine g_no rfl rfl hg2 rfl ?_
      refine g_und rfl rfl rfl ?_
      refine g_und rfl rfl rfl ?_
      refine g_und rfl rfl rfl ?_
      refine g_no rfl rfl hg2 rfl ?_
      refine g_op rfl (ValOk.op (v_pickT rfl hg2 rfl rfl ?_)) 
      refine g_op rfl (ValOk.op (v_move rfl rfl ?_)) 
      refine g_no rfl rfl rfl rfl ?_
      refine g_no rfl rfl rfl rfl ?_
      refine g_no rfl rfl rfl rfl ?_
      refine g_no rfl rfl rfl rfl ?_
      refine g_op rfl (ValOk.op (v_pickT rfl rfl rfl rfl ?_)) 
      refine g_nil ?_
      exact hw1 true (Option.some.inj h).symm _ (le_w [some 13] rfl ⟨⟨_, rfl, .refl _⟩, ⟨⟨_, rfl, .refl _⟩, ⟨⟨_, rfl, .refl _⟩, ⟨⟨_, rfl, .refl _⟩, ⟨⟨_, rfl, .refl _⟩, trivial⟩⟩⟩⟩⟩ ⟨⟨_, rfl, .refl _⟩, trivial⟩ (by decide))
    · replace h := ifT h (nF hg2)
      refine g_yes rfl rfl hg2 (ValOk.op (v_move rfl rfl ?_)) 
      refine g_yes rfl rfl hg2 (ValOk.op (v_not rfl rfl ?_)) 
      refine g_yes rfl rfl hg2 (ValOk.op (v_move rfl rfl ?_)) 
      rcases bsplit ((!a2)) with hg3 | hg3
      · replace h := bF h (nT hg3)
        refine g_yes rfl rfl hg3 (ValOk.op (v_fieldP tabOk rfl tfoff30_0 rfl ?_)) 
        refine g_yes rfl rfl hg3 (ValOk.op (v_loadP tabOk rfl rfl tsize3 tagg3 rfl rfl rfl rfl ?_)) 
        refine g_yes rfl rfl hg3 (ValOk.op (v_bin rfl rfl rfl rfl ?_)) 
        refine g_yes rfl rfl hg2 (ValOk.op (v_pickT rfl hg3 rfl rfl ?_)) 
        refine g_op rfl (ValOk.op (v_pickF rfl hg2 rfl rfl ?_)) 
        refine g_op rfl (ValOk.op (v_move rfl rfl ?_)) 
        rcases bsplit ((decide (5 < a0.kind))) with hg4 | hg4
        · replace h := ifT h (dT hg4)
          refine g_no rfl rfl hg4 rfl ?_
          refine g_no rfl rfl hg4 rfl ?_
          refine g_no rfl rfl hg4 rfl ?_
          refine g_no rfl rfl hg4 rfl ?_
          refine g_op rfl (ValOk.op (v_pickT rfl hg4 rfl rfl ?_)) 
          refine g_nil ?_
          exact hw1 true (Option.some.inj h).symm _ (le_w [some 13] rfl ⟨⟨_, rfl, .refl _⟩, ⟨⟨_, rfl, .refl _⟩, ⟨⟨_, rfl, .refl _⟩, ⟨⟨_, rfl, .refl _⟩, ⟨⟨_, rfl, .refl _⟩, trivial⟩⟩⟩⟩⟩ ⟨⟨_, rfl, .refl _⟩, trivial⟩ (by decide))
        · replace h := ifF h (dF hg4)
          refine g_yes rfl rfl hg4 (ValOk.op (v_fieldP tabOk rfl tfoff30_4 rfl ?_)) 
          refine g_yes rfl rfl hg4 (ValOk.op (v_loadP tabOk rfl rfl tsize23 tagg23 rfl rfl rfl rfl ?_)) 
          obtain ⟨y3, hy3, h⟩ := bnd h
          refine g_yes rfl rfl hg4 (o_callR [] [] (core_value rfl rfl) (m_spec_l1Once_ok k a0.names _ hy3) trivial (.cons (.refl _) (.nil)) (.inl rfl) rfl ?_)
          refine g_yes rfl rfl hg4 (ValOk.op (v_not rfl rfl ?_)) 
          refine g_op rfl (ValOk.op (v_pickF rfl hg4 rfl rfl ?_)) 
          refine g_nil ?_
          exact hw1 (!y3) (Option.some.inj h).symm _ (le_w [some 13] rfl ⟨⟨_, rfl, .refl _⟩, ⟨⟨_, rfl, .refl _⟩, ⟨⟨_, rfl, .refl _⟩, ⟨⟨_, rfl, .refl _⟩, ⟨⟨_, rfl, .refl _⟩, trivial⟩⟩⟩⟩⟩ ⟨⟨_, rfl, .refl _⟩, trivial⟩ (by decide))
      · replace h := ifT h (nF hg3)
        refine g_no rfl rfl hg3 rfl ?_
        refine g_no rfl rfl hg3 rfl ?_
        refine g_no rfl rfl hg3 rfl ?_
        refine g_yes rfl rfl hg2 (ValOk.op (v_pickF rfl hg3 rfl rfl ?_)) 
        refine g_op rfl (ValOk.op (v_pickF rfl hg2 rfl rfl ?_)) 
        refine g_op rfl (ValOk.op (v_move rfl rfl ?_)) 
        refine g_yes rfl rfl rfl (ValOk.op (v_fieldP tabOk rfl tfoff30_4 rfl ?_)) 
        refine g_yes rfl rfl rfl (ValOk.op (v_loadP tabOk rfl rfl tsize23 tagg23 rfl rfl rfl rfl ?_)) 
        obtain ⟨y4, hy4, h⟩ := bnd h
        refine g_yes rfl rfl rfl (o_callR [] [] (core_value rfl rfl) (m_spec_l1Once_ok k a0.names _ hy4) trivial (.cons (.refl _) (.nil)) (.inl rfl) rfl ?_)
        refine g_yes rfl rfl rfl (ValOk.op (v_not rfl rfl ?_)) 
        refine g_op rfl (ValOk.op (v_pickF rfl rfl rfl rfl ?_)) 
        refine g_nil ?_
        exact hw1 (!y4) (Option.some.inj h).symm _ (le_w [some 13] rfl ⟨⟨_, rfl, .refl _⟩, ⟨⟨_, rfl, .refl _⟩, ⟨⟨_, rfl, .refl _⟩, ⟨⟨_, rfl, .refl _⟩, ⟨⟨_, rfl, .refl _⟩, trivial⟩⟩⟩⟩⟩ ⟨⟨_, rfl, .refl _⟩, trivial⟩ (by decide))
theorem m_spec_l1Ok_all (k : Nat) : P_m_spec_l1Ok k := by
  induction k using Nat.strongRecOn with
  | _ k ih => exact m_spec_l1Ok_step k ih
theorem m_spec_l1Ok_ok (k : Nat) : ∀ (a0 : Val) (a1 : Int) (a2 : Bool) (r : Bool), m_spec_l1Ok k a0 a1 a2 = some r → Does Try.prog 70 [.agg [.int .i64 a0.kind, .int .i64 a0.num, .str a0.text, .sl true (a0.list.map encVal), .sl false (a0.names.map encS)], .int .i64 a1, .bool a2] [] (ret (.bool r)) := (m_spec_l1Ok_all k)
def m_spec_ValueOk (k : Nat) (a0 : Val) : Option Bool :=
  (m_spec_l1Ok k a0 6 false).bind fun y1 =>
  some y1
theorem m_spec_ValueOk_ok (k : Nat) : ∀ (a0 : Val) (r : Bool), m_spec_ValueOk k a0 = some r → Does Try.prog 31 [.agg [.int .i64 a0.kind, .int .i64 a0.num, .str a0.text, .sl true (a0.list.map encVal), .sl false (a0.names.map encS)]] [] (ret (.bool r)) := by
  intro a0 r h
  rw [m_spec_ValueOk] at h
  refine does_of_good tabOk Try.func31 rfl (by decide +kernel) (Nat.le_of_ble_eq_true rfl) fun c => ?_
  refine Good.le (σ' := ⟨5, [(0, .agg [.int .i64 a0.kind, .int .i64 a0.num, .str a0.text, .sl true (a0.list.map encVal), .sl false (a0.names.map encS)])], []⟩) (Le.refl _) ?_
  refine good_seq fun K1 hK1 => ?_
  refine good_region ?_
  refine g_op rfl (o_box (k := 11) tabOk rfl rfl rfl rfl rfl ?_)
  intro b1
  refine g_op rfl (ValOk.op (v_assign rfl rfl ?_)) 
  refine g_nil ?_
  refine hK1 _ ?_
  refine Good.le (σ' := ⟨5, [(1, _), (2, _)], [(11, (_, _))]⟩) (le_w [some 11] rfl ⟨⟨_, rfl, .refl _⟩, ⟨⟨_, rfl, .refl _⟩, trivial⟩⟩ ⟨⟨_, rfl, .refl _⟩, trivial⟩ (by decide)) ?_
  refine good_seq fun K2 hK2 => ?_
  refine good_region ?_
  refine g_op rfl (ValOk.op (v_loadP tabOk rfl rfl tsize30 tagg30 rfl rfl rfl rfl ?_)) 
  obtain ⟨y1, hy1, h⟩ := bnd h
  refine g_op rfl (o_callR [] [] (core_value rfl rfl) (m_spec_l1Ok_ok k a0 6 false _ hy1) trivial (.cons (.refl _) (.cons (.refl _) (.cons (.refl _) (.nil)))) (.inl rfl) rfl ?_)
  refine g_op rfl (ValOk.op (v_assign rfl rfl ?_)) 
  refine g_nil ?_
  refine hK2 _ ?_
  refine Good.le (σ' := ⟨5, [(2, _)], []⟩) (le_w [] rfl ⟨⟨_, rfl, .refl _⟩, trivial⟩ trivial (by decide)) ?_
  refine Good.le (σ' := ⟨5, [(2, .bool y1)], []⟩) (le_w [] rfl ⟨⟨_, rfl, .refl _⟩, trivial⟩ trivial (by decide)) ?_
  refine good_ret ?_
  obtain rfl := Option.some.inj h
  exact endQ_ret (h' := []) [] (.tmp rfl (.nil)) trivial (by decide) ⟨rfl, rfl⟩
def m_impl_varItem_within (a0 : Bs) : Option (List Val) :=
  some ([] : List Val)
theorem m_impl_varItem_within_ok : ∀ (a0 : Bs) (r : (List Val)), m_impl_varItem_within a0 = some r → Does Try.prog 167 [.str a0] [] (fun q h' => ∃ u0 : Value, q = .hd 100 u0 ∧ h' = [(100, (u0, .osl 30 5 (r.map encOVal)))]) := by
  intro a0 r h
  rw [m_impl_varItem_within] at h
  refine does_of_good tabOk Try.func167 rfl (by decide +kernel) (Nat.le_of_ble_eq_true rfl) fun c => ?_
  refine Good.le (σ' := ⟨3, [(0, .str a0)], []⟩) (Le.refl _) ?_
  refine good_seq fun K1 hK1 => ?_
  refine good_region ?_
  refine g_op rfl (ValOk.op (v_assign rfl rfl ?_)) 
  refine g_nil ?_
  refine hK1 _ ?_
  refine Good.le (σ' := ⟨3, [(2, _)], []⟩) (le_w [] rfl ⟨⟨_, rfl, .refl _⟩, trivial⟩ trivial (by decide)) ?_
  refine good_seq fun K2 hK2 => ?_
  refine good_region ?_
  refine g_op rfl (ValOk.op (v_assign rfl rfl ?_)) 
  refine g_nil ?_
  refine hK2 _ ?_
  refine Good.le (σ' := ⟨3, [(2, .hd 100 nilV)], [(100, (nilV, .osl 30 5 (([] : List Val).map encOVal)))]⟩) (le_w [none] rfl ⟨⟨_, rfl, .nilhd _⟩, trivial⟩ ⟨⟨rfl, _, _, rfl⟩, trivial⟩ (by decide)) ?_
  refine good_ret ?_
  obtain rfl := Option.some.inj h
  exact endQ_ret (h' := [(100, (_, _))]) [some 100] (.tmp rfl (.nil)) ⟨⟨_, rfl, .refl _⟩, trivial⟩ (by decide) ⟨nilV, rfl, rfl⟩
theorem m_impl_varItem_within_okF : ∀ (a0 : Bs) (r : (List Val)), m_impl_varItem_within a0 = some r → Does Try.prog 167 [.str a0] [] (ret (.sl true (r.map encVal))) := by
  intro a0 r h
  refine does_frz (m_impl_varItem_within_ok a0 r h) ?_
  rintro q h' ⟨u0, rfl, rfl⟩
  exact ⟨[100], [(_, _)], ⟨⟨_, rfl, .osl (FrzLL.map fun _ _ => encOVal_frz _)⟩, trivial⟩, .frz _ _ _ (.head _)⟩
def m_impl_wordItem_within (a0 : Bs) : Option (List Val) :=
  some ([] : List Val)
theorem m_impl_wordItem_within_ok : ∀ (a0 : Bs) (r : (List Val)), m_impl_wordItem_within a0 = some r → Does Try.prog 168 [.str a0] [] (fun q h' => ∃ u0 : Value, q = .hd 100 u0 ∧ h' = [(100, (u0, .osl 30 5 (r.map encOVal)))]) := by
  intro a0 r h
  rw [m_impl_wordItem_within] at h
  refine does_of_good tabOk Try.func168 rfl (by decide +kernel) (Nat.le_of_ble_eq_true rfl) fun c => ?_
  refine Good.le (σ' := ⟨3, [(0, .str a0)], []⟩) (Le.refl _) ?_
  refine good_seq fun K1 hK1 => ?_
  refine good_region ?_
  refine g_op rfl (ValOk.op (v_assign rfl rfl ?_)) 
  refine g_nil ?_
  refine hK1 _ ?_
  refine Good.le (σ' := ⟨3, [(2, _)], []⟩) (le_w [] rfl ⟨⟨_, rfl, .refl _⟩, trivial⟩ trivial (by decide)) ?_
  refine good_seq fun K2 hK2 => ?_
  refine good_region ?_
  refine g_op rfl (ValOk.op (v_assign rfl rfl ?_)) 
  refine g_nil ?_
  refine hK2 _ ?_
  refine Good.le (σ' := ⟨3, [(2, .hd 100 nilV)], [(100, (nilV, .osl 30 5 (([] : List Val).map encOVal)))]⟩) (le_w [none] rfl ⟨⟨_, rfl, .nilhd _⟩, trivial⟩ ⟨⟨rfl, _, _, rfl⟩, trivial⟩ (by decide)) ?_
  refine good_ret ?_
  obtain rfl := Option.some.inj h
  exact endQ_ret (h' := [(100, (_, _))]) [some 100] (.tmp rfl (.nil)) ⟨⟨_, rfl, .refl _⟩, trivial⟩ (by decide) ⟨nilV, rfl, rfl⟩
theorem m_impl_wordItem_within_okF : ∀ (a0 : Bs) (r : (List Val)), m_impl_wordItem_within a0 = some r → Does Try.prog 168 [.str a0] [] (ret (.sl true (r.map encVal))) := by
  intro a0 r h
  refine does_frz (m_impl_wordItem_within_ok a0 r h) ?_
  rintro q h' ⟨u0, rfl, rfl⟩
  exact ⟨[100], [(_, _)], ⟨⟨_, rfl, .osl (FrzLL.map fun _ _ => encOVal_frz _)⟩, trivial⟩, .frz _ _ _ (.head _)⟩
def m_impl_itemOf (k : Nat) (a0 : Val) : Option GI110 :=
  (if (a0.list.length : Int) = 0 then
      some (Lp.go (decide ((a0.names.length : Int) = 0)))
    else
      some (Lp.go false)).bind fun o1 =>
  o1.then fun s1 =>
    (if s1 = true then
        some (Lp.go (decide (a0.text = [])))
      else
        some (Lp.go false)).bind fun o2 =>
    o2.then fun s2 =>
    (if a0.num = 0 then
        some (Lp.go (decide (a0.text = [])))
      else
        some (Lp.go false)).bind fun o3 =>
    o3.then fun s3 =>
    if a0.kind = 0 then
      (if s2 = true then
          some (Lp.go (decide (a0.num = 0)))
        else
          some (Lp.go false)).bind fun o4 =>
      o4.then fun s4 =>
    if s4 = true then
      some GI110.c134
    else
      some GI110.nil
    else
      if a0.kind = 1 then
        (if s2 = true then
            if a0.num = 0 then
              some (Lp.go true)
            else
              some (Lp.go (decide (a0.num = 1)))
          else
            some (Lp.go false)).bind fun o5 =>
        o5.then fun s5 =>
    if s5 = true then
      some (GI110.c135 (decide (a0.num = 1)))
    else
      some GI110.nil
      else
        if a0.kind = 2 then
          (if s2 = true then
              if (-2147483647) ≤ a0.num then
                some (Lp.go (decide (a0.num ≤ 2147483647)))
              else
                some (Lp.go false)
            else
              some (Lp.go false)).bind fun o6 =>
          o6.then fun s6 =>
    if s6 = true then
      some (GI110.c136 a0.num)
    else
      some GI110.nil
        else
          if a0.kind = 3 then
            (if s1 = true then
                if a0.num = 0 then
                  some (Lp.go (decide ((a0.text.length : Int) ≤ 40)))
                else
                  some (Lp.go false)
              else
                some (Lp.go false)).bind fun o7 =>
            o7.then fun s7 =>
    if s7 = true then
      some (GI110.c137 a0.text)
    else
      some GI110.nil
          else
            if a0.kind = 4 then
              (if s3 = true then
                  if (a0.names.length : Int) = 0 then
                    some (Lp.go (decide ((a0.list.length : Int) ≤ 12)))
                  else
                    some (Lp.go false)
                else
                  some (Lp.go false)).bind fun o8 =>
              o8.then fun s8 =>
    if s8 = true then
      some (GI110.c138 a0.list)
    else
      some GI110.nil
            else
              if a0.kind = 5 then
                (if s3 = true then
                    if (a0.names.length : Int) = (a0.list.length : Int) then
                      if (a0.list.length : Int) ≤ 12 then
                        (m_impl_namesOnce k a0.names).bind fun y1 =>
                        some (Lp.go y1)
                      else
                        some (Lp.go false)
                    else
                      some (Lp.go false)
                  else
                    some (Lp.go false)).bind fun o9 =>
                o9.then fun s9 =>
    if s9 = true then
      some (GI110.c140 (GTreeItem.mk a0.names a0.list))
    else
      some GI110.nil
              else
                if a0.kind = 6 then
                  (if s1 = true then
                      if a0.num = 0 then
                        (m_impl_isName k a0.text).bind fun y2 =>
                        some (Lp.go y2)
                      else
                        some (Lp.go false)
                    else
                      some (Lp.go false)).bind fun o10 =>
                  o10.then fun s10 =>
    if s10 = true then
      some (GI110.c112 a0.text)
    else
      some GI110.nil
                else
                  if a0.kind = 7 then
                    (if s1 = true then
                        if a0.num = 0 then
                          (m_impl_isName k a0.text).bind fun y3 =>
                          some (Lp.go y3)
                        else
                          some (Lp.go false)
                      else
                        some (Lp.go false)).bind fun o11 =>
                    o11.then fun s11 =>
    if s11 = true then
      some (GI110.c113 a0.text)
    else
      some GI110.nil
                  else
                    some GI110.nil
theorem m_impl_itemOf_ok (k : Nat) : ∀ (a0 : Val) (r : GI110), m_impl_itemOf k a0 = some r → Does Try.prog 105 [.agg [.int .i64 a0.kind, .int .i64 a0.num, .str a0.text, .sl true (a0.list.map encVal), .sl false (a0.names.map encS)]] [] (ret ((encGI110 r))) := by
  intro a0 r h
  rw [m_impl_itemOf] at h
  refine does_of_good tabOk Try.func105 rfl (by decide +kernel) (Nat.le_of_ble_eq_true rfl) fun c => ?_
  refine Good.le (σ' := ⟨171, [(0, .agg [.int .i64 a0.kind, .int .i64 a0.num, .str a0.text, .sl true (a0.list.map encVal), .sl false (a0.names.map encS)])], []⟩) (Le.refl _) ?_
  refine good_seq fun K1 hK1 => ?_
  refine good_region ?_
  refine g_op rfl (o_box (k := 11) tabOk rfl rfl rfl rfl rfl ?_)
  intro b1
  refine g_op rfl (ValOk.op (v_assign rfl rfl ?_)) 
  refine g_nil ?_
  refine hK1 _ ?_
  refine Good.le (σ' := ⟨171, [(1, _), (2, _)], [(11, (_, _))]⟩) (le_w [some 11] rfl ⟨⟨_, rfl, .refl _⟩, ⟨⟨_, rfl, .refl _⟩, trivial⟩⟩ ⟨⟨_, rfl, .refl _⟩, trivial⟩ (by decide)) ?_
  refine good_seq fun K2 hK2 => ?_
  obtain ⟨o1, ho1, hJ1⟩ := bnd h
  have hw1 : ∀ (s1 : Bool), o1 = Lp.go s1 → ∀ σ', Le σ' ⟨171, [(1, .ptr 11 b1 0), (2, .raw .nilIface), (3, .bool s1)], [(11, ((.pointer (some ⟨b1, 0, none⟩)), .optr 30 [.int .i64 a0.kind, .int .i64 a0.num, .str a0.text, .sl true (a0.list.map encVal), .sl false (a0.names.map encS)]))]⟩ → K2 σ' := by
    intro s1 e1 σ' hle1
    subst e1
    refine hK2 _ (Good.le hle1 ?_)
    replace h := hJ1
    refine good_seq fun K3 hK3 => ?_
    obtain ⟨o2, ho2, hJ2⟩ := bnd h
    have hw2 : ∀ (s2 : Bool), o2 = Lp.go s2 → ∀ σ', Le σ' ⟨171, [(1, .ptr 11 b1 0), (2, .raw .nilIface), (3, .bool s1), (4, .bool s2)], [(11, ((.pointer (some ⟨b1, 0, none⟩)), .optr 30 [.int .i64 a0.kind, .int .i64 a0.num, .str a0.text, .sl true (a0.list.map encVal), .sl false (a0.names.map encS)]))]⟩ → K3 σ' := by
      intro s2 e2 σ' hle2
      subst e2
      refine hK3 _ (Good.le hle2 ?_)
      replace h := hJ2
      refine good_seq fun K4 hK4 => ?_
      obtain ⟨o3, ho3, hJ3⟩ := bnd h
      have hw3 : ∀ (s3 : Bool), o3 = Lp.go s3 → ∀ σ', Le σ' ⟨171, [(1, .ptr 11 b1 0), (2, .raw .nilIface), (3, .bool s1), (4, .bool s2), (5, .bool s3)], [(11, ((.pointer (some ⟨b1, 0, none⟩)), .optr 30 [.int .i64 a0.kind, .int .i64 a0.num, .str a0.text, .sl true (a0.list.map encVal), .sl false (a0.names.map encS)]))]⟩ → K4 σ' := by
        intro s3 e3 σ' hle3
        subst e3
        refine hK4 _ (Good.le hle3 ?_)
        replace h := hJ3
        refine good_seq fun K5 hK5 => ?_
        refine good_seq fun K6 hK6 => ?_
        refine good_region ?_
        refine g_op rfl (ValOk.op (v_fieldP tabOk rfl tfoff30_0 rfl ?_)) 
        refine g_op rfl (ValOk.op (v_loadP tabOk rfl rfl tsize3 tagg3 rfl rfl rfl rfl ?_)) 
        refine g_nil ?_
        refine hK6 _ ?_
        refine Good.le (σ' := ⟨171, [(1, _), (2, _), (3, _), (4, _), (5, _), (31, _)], [(11, (_, _))]⟩) (le_w [some 11] rfl ⟨⟨_, rfl, .refl _⟩, ⟨⟨_, rfl, .refl _⟩, ⟨⟨_, rfl, .refl _⟩, ⟨⟨_, rfl, .refl _⟩, ⟨⟨_, rfl, .refl _⟩, ⟨⟨_, rfl, .refl _⟩, trivial⟩⟩⟩⟩⟩⟩ ⟨⟨_, rfl, .refl _⟩, trivial⟩ (by decide)) ?_
        refine good_block ?_
        refine good_seq fun K7 hK7 => ?_
        refine good_region ?_
        refine g_op rfl (ValOk.op (v_bin rfl rfl rfl rfl ?_)) 
        refine g_op rfl (ValOk.op (v_assign rfl rfl ?_)) 
        refine g_nil ?_
        refine hK7 _ ?_
        refine Good.le (σ' := ⟨171, [(1, _), (2, _), (3, _), (4, _), (5, _), (31, _), (32, _)], [(11, (_, _))]⟩) (le_w [some 11] rfl ⟨⟨_, rfl, .refl _⟩, ⟨⟨_, rfl, .refl _⟩, ⟨⟨_, rfl, .refl _⟩, ⟨⟨_, rfl, .refl _⟩, ⟨⟨_, rfl, .refl _⟩, ⟨⟨_, rfl, .refl _⟩, ⟨⟨_, rfl, .refl _⟩, trivial⟩⟩⟩⟩⟩⟩⟩ ⟨⟨_, rfl, .refl _⟩, trivial⟩ (by decide)) ?_
        refine good_cond rfl (fun hc1 => ?_) (fun hc1 => ?_)
        · replace h := ifT h (dT hc1)
          refine good_seq fun K8 hK8 => ?_
          obtain ⟨o4, ho4, hJ4⟩ := bnd h
          have hw4 : ∀ (s4 : Bool), o4 = Lp.go s4 → ∀ σ', Le σ' ⟨171, [(2, .raw .nilIface), (39, .bool s4)], []⟩ → K8 σ' := by
            intro s4 e4 σ' hle4
            subst e4
            refine hK8 _ (Good.le hle4 ?_)
            replace h := hJ4
            refine good_cond rfl (fun hc2 => ?_) (fun hc2 => ?_)
            · replace h := ifT h hc2
              refine good_seq fun K9 hK9 => ?_
              refine good_region ?_
              refine g_op rfl (ValOk.op (v_build tabOk (cs := []) tzero134 tsok134 rfl rfl rfl ?_)) 
              refine g_op rfl (ValOk.op (v_iface tabOk rfl tkind134 rfl rfl ?_)) 
              refine g_op rfl (ValOk.op (v_assign rfl rfl ?_)) 
              refine g_nil ?_
              refine hK9 _ ?_
              refine Good.le (σ' := ⟨171, [(2, _)], []⟩) (le_w [] rfl ⟨⟨_, rfl, .refl _⟩, trivial⟩ trivial (by decide)) ?_
              refine Good.le (σ' := ⟨171, [(2, .ifc 134 (.agg []))], []⟩) (le_w [] rfl ⟨⟨_, rfl, .refl _⟩, trivial⟩ trivial (by decide)) ?_
              refine good_ret ?_
              obtain rfl := Option.some.inj h
              refine blockQ_ret ?_
              refine thenQ_ret ?_
              exact endQ_ret (h' := []) [] (.tmp rfl (.nil)) trivial (by decide) ⟨rfl, rfl⟩
            · replace h := bF h hc2
              refine good_skip ?_
              refine hK5 _ ?_
              refine Good.le (σ' := ⟨171, [(2, _)], []⟩) (le_w [] rfl ⟨⟨_, rfl, .refl _⟩, trivial⟩ trivial (by decide)) ?_
              refine good_seq fun K10 hK10 => ?_
              refine good_region ?_
              refine g_op rfl (ValOk.op (v_assign rfl rfl ?_)) 
              refine g_nil ?_
              refine hK10 _ ?_
              refine Good.le (σ' := ⟨171, [(2, .raw .nilIface)], []⟩) (le_w [] rfl ⟨⟨_, rfl, .refl _⟩, trivial⟩ trivial (by decide)) ?_
              refine good_ret ?_
              obtain rfl := Option.some.inj h
              exact endQ_ret (h' := []) [] (.tmp rfl (.nil)) trivial (by decide) ⟨rfl, rfl⟩
          replace h := ho4
          refine good_region ?_
          refine g_op rfl (ValOk.op (v_move rfl rfl ?_)) 
          refine g_op rfl (ValOk.op (v_move rfl rfl ?_)) 
          rcases bsplit (s2) with hg1 | hg1
          · replace h := ifT h hg1
            refine g_yes rfl rfl hg1 (ValOk.op (v_fieldP tabOk rfl tfoff30_1 rfl ?_)) 
            refine g_yes rfl rfl hg1 (ValOk.op (v_loadP tabOk rfl rfl tsize3 tagg3 rfl rfl rfl rfl ?_)) 
            refine g_yes rfl rfl hg1 (ValOk.op (v_bin rfl rfl rfl rfl ?_)) 
            refine g_op rfl (ValOk.op (v_pickT rfl hg1 rfl rfl ?_)) 
            refine g_nil ?_
            exact hw4 (decide (a0.num = 0)) (Option.some.inj h).symm _ (le_w [] rfl ⟨⟨_, rfl, .refl _⟩, ⟨⟨_, rfl, .refl _⟩, trivial⟩⟩ trivial (by decide))
          · replace h := bF h hg1
            refine g_no rfl rfl hg1 rfl ?_
            refine g_no rfl rfl hg1 rfl ?_
            refine g_no rfl rfl hg1 rfl ?_
            refine g_op rfl (ValOk.op (v_pickF rfl hg1 rfl rfl ?_)) 
            refine g_nil ?_
            exact hw4 false (Option.some.inj h).symm _ (le_w [] rfl ⟨⟨_, rfl, .refl _⟩, ⟨⟨_, rfl, .refl _⟩, trivial⟩⟩ trivial (by decide))
        · replace h := ifF h (dF hc1)
          refine good_seq fun K11 hK11 => ?_
          refine good_region ?_
          refine g_op rfl (ValOk.op (v_bin rfl rfl rfl rfl ?_)) 
          refine g_op rfl (ValOk.op (v_assign rfl rfl ?_)) 
          refine g_nil ?_
          refine hK11 _ ?_
          refine Good.le (σ' := ⟨171, [(1, _), (2, _), (3, _), (4, _), (5, _), (31, _), (42, _)], [(11, (_, _))]⟩) (le_w [some 11] rfl ⟨⟨_, rfl, .refl _⟩, ⟨⟨_, rfl, .refl _⟩, ⟨⟨_, rfl, .refl _⟩, ⟨⟨_, rfl, .refl _⟩, ⟨⟨_, rfl, .refl _⟩, ⟨⟨_, rfl, .refl _⟩, ⟨⟨_, rfl, .refl _⟩, trivial⟩⟩⟩⟩⟩⟩⟩ ⟨⟨_, rfl, .refl _⟩, trivial⟩ (by decide)) ?_
          refine good_cond rfl (fun hc3 => ?_) (fun hc3 => ?_)
          · replace h := ifT h (dT hc3)
            refine good_seq fun K12 hK12 => ?_
            obtain ⟨o5, ho5, hJ5⟩ := bnd h
            have hw5 : ∀ (s5 : Bool), o5 = Lp.go s5 → ∀ σ', Le σ' ⟨171, [(1, .ptr 11 b1 0), (2, .raw .nilIface), (54, .bool s5)], [(11, ((.pointer (some ⟨b1, 0, none⟩)), .optr 30 [.int .i64 a0.kind, .int .i64 a0.num, .str a0.text, .sl true (a0.list.map encVal), .sl false (a0.names.map encS)]))]⟩ → K12 σ' := by
              intro s5 e5 σ' hle5
              subst e5
              refine hK12 _ (Good.le hle5 ?_)
              replace h := hJ5
              refine good_cond rfl (fun hc4 => ?_) (fun hc4 => ?_)
              · replace h := ifT h hc4
                refine good_seq fun K13 hK13 => ?_
                refine good_region ?_
                refine g_op rfl (ValOk.op (v_fieldP tabOk rfl tfoff30_1 rfl ?_)) 
                refine g_op rfl (ValOk.op (v_loadP tabOk rfl rfl tsize3 tagg3 rfl rfl rfl rfl ?_)) 
                refine g_op rfl (ValOk.op (v_bin rfl rfl rfl rfl ?_)) 
                refine g_op rfl (ValOk.op (v_iface tabOk rfl tkind135 rfl rfl ?_)) 
                refine g_op rfl (ValOk.op (v_assign rfl rfl ?_)) 
                refine g_nil ?_
                refine hK13 _ ?_
                refine Good.le (σ' := ⟨171, [(2, _)], []⟩) (le_w [] rfl ⟨⟨_, rfl, .refl _⟩, trivial⟩ trivial (by decide)) ?_
                refine Good.le (σ' := ⟨171, [(2, .ifc 135 (.bool (decide (a0.num = 1))))], []⟩) (le_w [] rfl ⟨⟨_, rfl, .refl _⟩, trivial⟩ trivial (by decide)) ?_
                refine good_ret ?_
                obtain rfl := Option.some.inj h
                refine blockQ_ret ?_
                refine thenQ_ret ?_
                exact endQ_ret (h' := []) [] (.tmp rfl (.nil)) trivial (by decide) ⟨rfl, rfl⟩
              · replace h := bF h hc4
                refine good_skip ?_
                refine hK5 _ ?_
                refine Good.le (σ' := ⟨171, [(2, _)], []⟩) (le_w [] rfl ⟨⟨_, rfl, .refl _⟩, trivial⟩ trivial (by decide)) ?_
                refine good_seq fun K14 hK14 => ?_
                refine good_region ?_
                refine g_op rfl (ValOk.op (v_assign rfl rfl ?_)) 
                refine g_nil ?_
                refine hK14 _ ?_
                refine Good.le (σ' := ⟨171, [(2, .raw .nilIface)], []⟩) (le_w [] rfl ⟨⟨_, rfl, .refl _⟩, trivial⟩ trivial (by decide)) ?_
                refine good_ret ?_
                obtain rfl := Option.some.inj h
                exact endQ_ret (h' := []) [] (.tmp rfl (.nil)) trivial (by decide) ⟨rfl, rfl⟩
            replace h := ho5
            refine good_region ?_
            refine g_op rfl (ValOk.op (v_move rfl rfl ?_)) 
            refine g_op rfl (ValOk.op (v_move rfl rfl ?_)) 
            rcases bsplit (s2) with hg2 | hg2
            · replace h := ifT h hg2
              refine g_yes rfl rfl hg2 (ValOk.op (v_fieldP tabOk rfl tfoff30_1 rfl ?_)) 
              refine g_yes rfl rfl hg2 (ValOk.op (v_loadP tabOk rfl rfl tsize3 tagg3 rfl rfl rfl rfl ?_)) 
              refine g_yes rfl rfl hg2 (ValOk.op (v_bin rfl rfl rfl rfl ?_)) 
              refine g_yes rfl rfl hg2 (ValOk.op (v_move rfl rfl ?_)) 
              rcases bsplit ((decide (a0.num = 0))) with hg3 | hg3
              · replace h := ifT h (dT hg3)
                refine g_no rfl rfl hg3 rfl ?_
                refine g_no rfl rfl hg3 rfl ?_
                refine g_no rfl rfl hg3 rfl ?_
                refine g_yes rfl rfl hg2 (ValOk.op (v_pickT rfl hg3 rfl rfl ?_)) 
                refine g_op rfl (ValOk.op (v_pickT rfl hg2 rfl rfl ?_)) 
                refine g_nil ?_
                exact hw5 true (Option.some.inj h).symm _ (le_w [some 11] rfl ⟨⟨_, rfl, .refl _⟩, ⟨⟨_, rfl, .refl _⟩, ⟨⟨_, rfl, .refl _⟩, trivial⟩⟩⟩ ⟨⟨_, rfl, .refl _⟩, trivial⟩ (by decide))
              · replace h := ifF h (dF hg3)
                refine g_yes rfl rfl hg3 (ValOk.op (v_fieldP tabOk rfl tfoff30_1 rfl ?_)) 
                refine g_yes rfl rfl hg3 (ValOk.op (v_loadP tabOk rfl rfl tsize3 tagg3 rfl rfl rfl rfl ?_)) 
                refine g_yes rfl rfl hg3 (ValOk.op (v_bin rfl rfl rfl rfl ?_)) 
                refine g_yes rfl rfl hg2 (ValOk.op (v_pickF rfl hg3 rfl rfl ?_)) 
                refine g_op rfl (ValOk.op (v_pickT rfl hg2 rfl rfl ?_)) 
                refine g_nil ?_
                exact hw5 (decide (a0.num = 1)) (Option.some.inj h).symm _ (le_w [some 11] rfl ⟨⟨_, rfl, .refl _⟩, ⟨⟨_, rfl, .refl _⟩, ⟨⟨_, rfl, .refl _⟩, trivial⟩⟩⟩ ⟨⟨_, rfl, .refl _⟩, trivial⟩ (by decide))
            · replace h := bF h hg2
              refine g_no rfl rfl hg2 rfl ?_
              refine g_no rfl rfl hg2 rfl ?_
              refine g_no rfl rfl hg2 rfl ?_
              refine g_no rfl rfl hg2 rfl ?_
              refine g_und rfl rfl rfl ?_
              refine g_und rfl rfl rfl ?_
              refine g_und rfl rfl rfl ?_
              refine g_no rfl rfl hg2 rfl ?_
              refine g_op rfl (ValOk.op (v_pickF rfl hg2 rfl rfl ?_)) 
              refine g_nil ?_
              exact hw5 false (Option.some.inj h).symm _ (le_w [some 11] rfl ⟨⟨_, rfl, .refl _⟩, ⟨⟨_, rfl, .refl _⟩, ⟨⟨_, rfl, .refl _⟩, trivial⟩⟩⟩ ⟨⟨_, rfl, .refl _⟩, trivial⟩ (by decide))
          · replace h := ifF h (dF hc3)
            refine good_seq fun K15 hK15 => ?_
            refine good_region ?_
            refine g_op rfl (ValOk.op (v_bin rfl rfl rfl rfl ?_)) 
            refine g_op rfl (ValOk.op (v_assign rfl rfl ?_)) 
            refine g_nil ?_
            refine hK15 _ ?_
            refine Good.le (σ' := ⟨171, [(1, _), (2, _), (3, _), (4, _), (5, _), (31, _), (59, _)], [(11, (_, _))]⟩) (le_w [some 11] rfl ⟨⟨_, rfl, .refl _⟩, ⟨⟨_, rfl, .refl _⟩, ⟨⟨_, rfl, .refl _⟩, ⟨⟨_, rfl, .refl _⟩, ⟨⟨_, rfl, .refl _⟩, ⟨⟨_, rfl, .refl _⟩, ⟨⟨_, rfl, .refl _⟩, trivial⟩⟩⟩⟩⟩⟩⟩ ⟨⟨_, rfl, .refl _⟩, trivial⟩ (by decide)) ?_
            refine good_cond rfl (fun hc5 => ?_) (fun hc5 => ?_)
            · replace h := ifT h (dT hc5)
              refine good_seq fun K16 hK16 => ?_
              obtain ⟨o6, ho6, hJ6⟩ := bnd h
              have hw6 : ∀ (s6 : Bool), o6 = Lp.go s6 → ∀ σ', Le σ' ⟨171, [(1, .ptr 11 b1 0), (2, .raw .nilIface), (71, .bool s6)], [(11, ((.pointer (some ⟨b1, 0, none⟩)), .optr 30 [.int .i64 a0.kind, .int .i64 a0.num, .str a0.text, .sl true (a0.list.map encVal), .sl false (a0.names.map encS)]))]⟩ → K16 σ' := by
                intro s6 e6 σ' hle6
                subst e6
                refine hK16 _ (Good.le hle6 ?_)
                replace h := hJ6
                refine good_cond rfl (fun hc6 => ?_) (fun hc6 => ?_)
                · replace h := ifT h hc6
                  refine good_seq fun K17 hK17 => ?_
                  refine good_region ?_
                  refine g_op rfl (ValOk.op (v_fieldP tabOk rfl tfoff30_1 rfl ?_)) 
                  refine g_op rfl (ValOk.op (v_loadP tabOk rfl rfl tsize3 tagg3 rfl rfl rfl rfl ?_)) 
                  refine g_op rfl (ValOk.op (v_iface tabOk rfl tkind136 rfl rfl ?_)) 
                  refine g_op rfl (ValOk.op (v_assign rfl rfl ?_)) 
                  refine g_nil ?_
                  refine hK17 _ ?_
                  refine Good.le (σ' := ⟨171, [(2, _)], []⟩) (le_w [] rfl ⟨⟨_, rfl, .refl _⟩, trivial⟩ trivial (by decide)) ?_
                  refine Good.le (σ' := ⟨171, [(2, .ifc 136 (.int .i64 a0.num))], []⟩) (le_w [] rfl ⟨⟨_, rfl, .refl _⟩, trivial⟩ trivial (by decide)) ?_
                  refine good_ret ?_
                  obtain rfl := Option.some.inj h
                  refine blockQ_ret ?_
                  refine thenQ_ret ?_
                  exact endQ_ret (h' := []) [] (.tmp rfl (.nil)) trivial (by decide) ⟨rfl, rfl⟩
                · replace h := bF h hc6
                  refine good_skip ?_
                  refine hK5 _ ?_
                  refine Good.le (σ' := ⟨171, [(2, _)], []⟩) (le_w [] rfl ⟨⟨_, rfl, .refl _⟩, trivial⟩ trivial (by decide)) ?_
                  refine good_seq fun K18 hK18 => ?_
                  refine good_region ?_
                  refine g_op rfl (ValOk.op (v_assign rfl rfl ?_)) 
                  refine g_nil ?_
                  refine hK18 _ ?_
                  refine Good.le (σ' := ⟨171, [(2, .raw .nilIface)], []⟩) (le_w [] rfl ⟨⟨_, rfl, .refl _⟩, trivial⟩ trivial (by decide)) ?_
                  refine good_ret ?_
                  obtain rfl := Option.some.inj h
                  exact endQ_ret (h' := []) [] (.tmp rfl (.nil)) trivial (by decide) ⟨rfl, rfl⟩
              replace h := ho6
              refine good_region ?_
              refine g_op rfl (ValOk.op (v_move rfl rfl ?_)) 
              refine g_op rfl (ValOk.op (v_move rfl rfl ?_)) 
              rcases bsplit (s2) with hg4 | hg4
              · replace h := ifT h hg4
                refine g_yes rfl rfl hg4 (ValOk.op (v_fieldP tabOk rfl tfoff30_1 rfl ?_)) 
                refine g_yes rfl rfl hg4 (ValOk.op (v_loadP tabOk rfl rfl tsize3 tagg3 rfl rfl rfl rfl ?_)) 
                refine g_yes rfl rfl hg4 (ValOk.op (v_bin rfl rfl rfl rfl ?_)) 
                refine g_op rfl (ValOk.op (v_pickT rfl hg4 rfl rfl ?_)) 
                refine g_op rfl (ValOk.op (v_move rfl rfl ?_)) 
                rcases bsplit ((decide ((-2147483647) ≤ a0.num))) with hg5 | hg5
                · replace h := ifT h (dT hg5)
                  refine g_yes rfl rfl hg5 (ValOk.op (v_fieldP tabOk rfl tfoff30_1 rfl ?_)) 
                  refine g_yes rfl rfl hg5 (ValOk.op (v_loadP tabOk rfl rfl tsize3 tagg3 rfl rfl rfl rfl ?_)) 
                  refine g_yes rfl rfl hg5 (ValOk.op (v_bin rfl rfl rfl rfl ?_)) 
                  refine g_op rfl (ValOk.op (v_pickT rfl hg5 rfl rfl ?_)) 
                  refine g_nil ?_
                  exact hw6 (decide (a0.num ≤ 2147483647)) (Option.some.inj h).symm _ (le_w [some 11] rfl ⟨⟨_, rfl, .refl _⟩, ⟨⟨_, rfl, .refl _⟩, ⟨⟨_, rfl, .refl _⟩, trivial⟩⟩⟩ ⟨⟨_, rfl, .refl _⟩, trivial⟩ (by decide))
                · replace h := ifF h (dF hg5)
                  refine g_no rfl rfl hg5 rfl ?_
                  refine g_no rfl rfl hg5 rfl ?_
                  refine g_no rfl rfl hg5 rfl ?_
                  refine g_op rfl (ValOk.op (v_pickF rfl hg5 rfl rfl ?_)) 
                  refine g_nil ?_
                  exact hw6 false (Option.some.inj h).symm _ (le_w [some 11] rfl ⟨⟨_, rfl, .refl _⟩, ⟨⟨_, rfl, .refl _⟩, ⟨⟨_, rfl, .refl _⟩, trivial⟩⟩⟩ ⟨⟨_, rfl, .refl _⟩, trivial⟩ (by decide))
              · replace h := bF h hg4
                refine g_no rfl rfl hg4 rfl ?_
                refine g_no rfl rfl hg4 rfl ?_
                refine g_no rfl rfl hg4 rfl ?_
                refine g_op rfl (ValOk.op (v_pickF rfl hg4 rfl rfl ?_)) 
                refine g_op rfl (ValOk.op (v_move rfl rfl ?_)) 
                refine g_no rfl rfl rfl rfl ?_
                refine g_no rfl rfl rfl rfl ?_
                refine g_no rfl rfl rfl rfl ?_
                refine g_op rfl (ValOk.op (v_pickF rfl rfl rfl rfl ?_)) 
                refine g_nil ?_
                exact hw6 false (Option.some.inj h).symm _ (le_w [some 11] rfl ⟨⟨_, rfl, .refl _⟩, ⟨⟨_, rfl, .refl _⟩, ⟨⟨_, rfl, .refl _⟩, trivial⟩⟩⟩ ⟨⟨_, rfl, .refl _⟩, trivial⟩ (by decide))
            · replace h := ifF h (dF hc5)
              refine good_seq fun K19 hK19 => ?_
              refine good_region ?_
              refine g_op rfl (ValOk.op (v_bin rfl rfl rfl rfl ?_)) 
              refine g_op rfl (ValOk.op (v_assign rfl rfl ?_)) 
              refine g_nil ?_
              refine hK19 _ ?_
              refine Good.le (σ' := ⟨171, [(1, _), (2, _), (3, _), (5, _), (31, _), (75, _)], [(11, (_, _))]⟩) (le_w [some 11] rfl ⟨⟨_, rfl, .refl _⟩, ⟨⟨_, rfl, .refl _⟩, ⟨⟨_, rfl, .refl _⟩, ⟨⟨_, rfl, .refl _⟩, ⟨⟨_, rfl, .refl _⟩, ⟨⟨_, rfl, .refl _⟩, trivial⟩⟩⟩⟩⟩⟩ ⟨⟨_, rfl, .refl _⟩, trivial⟩ (by decide)) ?_
              refine good_cond rfl (fun hc7 => ?_) (fun hc7 => ?_)
              · replace h := ifT h (dT hc7)
                refine good_seq fun K20 hK20 => ?_
                obtain ⟨o7, ho7, hJ7⟩ := bnd h
                have hw7 : ∀ (s7 : Bool), o7 = Lp.go s7 → ∀ σ', Le σ' ⟨171, [(1, .ptr 11 b1 0), (2, .raw .nilIface), (88, .bool s7)], [(11, ((.pointer (some ⟨b1, 0, none⟩)), .optr 30 [.int .i64 a0.kind, .int .i64 a0.num, .str a0.text, .sl true (a0.list.map encVal), .sl false (a0.names.map encS)]))]⟩ → K20 σ' := by
                  intro s7 e7 σ' hle7
                  subst e7
                  refine hK20 _ (Good.le hle7 ?_)
                  replace h := hJ7
                  refine good_cond rfl (fun hc8 => ?_) (fun hc8 => ?_)
                  · replace h := ifT h hc8
                    refine good_seq fun K21 hK21 => ?_
                    refine good_region ?_
                    refine g_op rfl (ValOk.op (v_fieldP tabOk rfl tfoff30_2 rfl ?_)) 
                    refine g_op rfl (ValOk.op (v_loadP tabOk rfl rfl tsize9 tagg9 rfl rfl rfl rfl ?_)) 
                    refine g_op rfl (ValOk.op (v_iface tabOk rfl tkind137 rfl rfl ?_)) 
                    refine g_op rfl (ValOk.op (v_assign rfl rfl ?_)) 
                    refine g_nil ?_
                    refine hK21 _ ?_
                    refine Good.le (σ' := ⟨171, [(2, _)], []⟩) (le_w [] rfl ⟨⟨_, rfl, .refl _⟩, trivial⟩ trivial (by decide)) ?_
                    refine Good.le (σ' := ⟨171, [(2, .ifc 137 (.str a0.text))], []⟩) (le_w [] rfl ⟨⟨_, rfl, .refl _⟩, trivial⟩ trivial (by decide)) ?_
                    refine good_ret ?_
                    obtain rfl := Option.some.inj h
                    refine blockQ_ret ?_
                    refine thenQ_ret ?_
                    exact endQ_ret (h' := []) [] (.tmp rfl (.nil)) trivial (by decide) ⟨rfl, rfl⟩
                  · replace h := bF h hc8
                    refine good_skip ?_
                    refine hK5 _ ?_
                    refine Good.le (σ' := ⟨171, [(2, _)], []⟩) (le_w [] rfl ⟨⟨_, rfl, .refl _⟩, trivial⟩ trivial (by decide)) ?_
                    refine good_seq fun K22 hK22 => ?_
                    refine good_region ?_
                    refine g_op rfl (ValOk.op (v_assign rfl rfl ?_)) 
                    refine g_nil ?_
                    refine hK22 _ ?_
                    refine Good.le (σ' := ⟨171, [(2, .raw .nilIface)], []⟩) (le_w [] rfl ⟨⟨_, rfl, .refl _⟩, trivial⟩ trivial (by decide)) ?_
                    refine good_ret ?_
                    obtain rfl := Option.some.inj h
                    exact endQ_ret (h' := []) [] (.tmp rfl (.nil)) trivial (by decide) ⟨rfl, rfl⟩
                replace h := ho7
                refine good_region ?_
                refine g_op rfl (ValOk.op (v_move rfl rfl ?_)) 
                refine g_op rfl (ValOk.op (v_move rfl rfl ?_)) 
                rcases bsplit (s1) with hg6 | hg6
                · replace h := ifT h hg6
                  refine g_yes rfl rfl hg6 (ValOk.op (v_fieldP tabOk rfl tfoff30_1 rfl ?_)) 
                  refine g_yes rfl rfl hg6 (ValOk.op (v_loadP tabOk rfl rfl tsize3 tagg3 rfl rfl rfl rfl ?_)) 
                  refine g_yes rfl rfl hg6 (ValOk.op (v_bin rfl rfl rfl rfl ?_)) 
                  refine g_op rfl (ValOk.op (v_pickT rfl hg6 rfl rfl ?_)) 
                  refine g_op rfl (ValOk.op (v_move rfl rfl ?_)) 
                  rcases bsplit ((decide (a0.num = 0))) with hg7 | hg7
                  · replace h := ifT h (dT hg7)
                    refine g_yes rfl rfl hg7 (ValOk.op (v_fieldP tabOk rfl tfoff30_2 rfl ?_)) 
                    refine g_yes rfl rfl hg7 (ValOk.op (v_loadP tabOk rfl rfl tsize9 tagg9 rfl rfl rfl rfl ?_)) 
                    refine g_yes rfl rfl hg7 (ValOk.op (v_lenS tabOk rfl rfl tkind9 rfl ?_)) 
                    refine g_yes rfl rfl hg7 (ValOk.op (v_bin rfl rfl rfl rfl ?_)) 
                    refine g_op rfl (ValOk.op (v_pickT rfl hg7 rfl rfl ?_)) 
                    refine g_nil ?_
                    exact hw7 (decide ((a0.text.length : Int) ≤ 40)) (Option.some.inj h).symm _ (le_w [some 11] rfl ⟨⟨_, rfl, .refl _⟩, ⟨⟨_, rfl, .refl _⟩, ⟨⟨_, rfl, .refl _⟩, trivial⟩⟩⟩ ⟨⟨_, rfl, .refl _⟩, trivial⟩ (by decide))
                  · replace h := ifF h (dF hg7)
                    refine g_no rfl rfl hg7 rfl ?_
                    refine g_no rfl rfl hg7 rfl ?_
                    refine g_no rfl rfl hg7 rfl ?_
                    refine g_no rfl rfl hg7 rfl ?_
                    refine g_op rfl (ValOk.op (v_pickF rfl hg7 rfl rfl ?_)) 
                    refine g_nil ?_
                    exact hw7 false (Option.some.inj h).symm _ (le_w [some 11] rfl ⟨⟨_, rfl, .refl _⟩, ⟨⟨_, rfl, .refl _⟩, ⟨⟨_, rfl, .refl _⟩, trivial⟩⟩⟩ ⟨⟨_, rfl, .refl _⟩, trivial⟩ (by decide))
                · replace h := bF h hg6
                  refine g_no rfl rfl hg6 rfl ?_
                  refine g_no rfl rfl hg6 rfl ?_
                  refine g_no rfl rfl hg6 rfl ?_
                  refine g_op rfl (ValOk.op (v_pickF rfl hg6 rfl rfl ?_)) 
                  refine g_op rfl (ValOk.op (v_move rfl rfl ?_)) 
                  refine g_no rfl rfl rfl rfl ?_
                  refine g_no rfl rfl rfl rfl ?_
                  refine g_no rfl rfl rfl rfl ?_
                  refine g_no rfl rfl rfl rfl ?_
                  refine g_op rfl (ValOk.op (v_pickF rfl rfl rfl rfl ?_)) 
                  refine g_nil ?_
                  exact hw7 false (Option.some.inj h).symm _ (le_w [some 11] rfl ⟨⟨_, rfl, .refl _⟩, ⟨⟨_, rfl, .refl _⟩, ⟨⟨_, rfl, .refl _⟩, trivial⟩⟩⟩ ⟨⟨_, rfl, .refl _⟩, trivial⟩ (by decide))
              · replace h := ifF h (dF hc7)
                refine good_seq fun K23 hK23 => ?_
                refine good_region ?_
                refine g_op rfl (ValOk.op (v_bin rfl rfl rfl rfl ?_)) 
                refine g_op rfl (ValOk.op (v_assign rfl rfl ?_)) 
                refine g_nil ?_
                refine hK23 _ ?_
                refine Good.le (σ' := ⟨171, [(1, _), (2, _), (3, _), (5, _), (31, _), (92, _)], [(11, (_, _))]⟩) (le_w [some 11] rfl ⟨⟨_, rfl, .refl _⟩, ⟨⟨_, rfl, .refl _⟩, ⟨⟨_, rfl, .refl _⟩, ⟨⟨_, rfl, .refl _⟩, ⟨⟨_, rfl, .refl _⟩, ⟨⟨_, rfl, .refl _⟩, trivial⟩⟩⟩⟩⟩⟩ ⟨⟨_, rfl, .refl _⟩, trivial⟩ (by decide)) ?_
                refine good_cond rfl (fun hc9 => ?_) (fun hc9 => ?_)
                · replace h := ifT h (dT hc9)
                  refine good_seq fun K24 hK24 => ?_
                  obtain ⟨o8, ho8, hJ8⟩ := bnd h
                  have hw8 : ∀ (s8 : Bool), o8 = Lp.go s8 → ∀ σ', Le σ' ⟨171, [(1, .ptr 11 b1 0), (2, .raw .nilIface), (106, .bool s8)], [(11, ((.pointer (some ⟨b1, 0, none⟩)), .optr 30 [.int .i64 a0.kind, .int .i64 a0.num, .str a0.text, .sl true (a0.list.map encVal), .sl false (a0.names.map encS)]))]⟩ → K24 σ' := by
                    intro s8 e8 σ' hle8
                    subst e8
                    refine hK24 _ (Good.le hle8 ?_)
                    replace h := hJ8
                    refine good_cond rfl (fun hc10 => ?_) (fun hc10 => ?_)
                    · replace h := ifT h hc10
                      refine good_seq fun K25 hK25 => ?_
                      refine good_region ?_
                      refine g_op rfl (ValOk.op (v_fieldP tabOk rfl tfoff30_3 rfl ?_)) 
                      refine g_op rfl (ValOk.op (v_loadP tabOk rfl rfl tsize28 tagg28 rfl rfl rfl rfl ?_)) 
                      refine g_op rfl (ValOk.op (v_iface tabOk rfl tkind138 rfl rfl ?_)) 
                      refine g_op rfl (ValOk.op (v_assign rfl rfl ?_)) 
                      refine g_nil ?_
                      refine hK25 _ ?_
                      refine Good.le (σ' := ⟨171, [(2, _)], []⟩) (le_w [] rfl ⟨⟨_, rfl, .refl _⟩, trivial⟩ trivial (by decide)) ?_
                      refine Good.le (σ' := ⟨171, [(2, .ifc 138 (.sl true (a0.list.map encVal)))], []⟩) (le_w [] rfl ⟨⟨_, rfl, .refl _⟩, trivial⟩ trivial (by decide)) ?_
                      refine good_ret ?_
                      obtain rfl := Option.some.inj h
                      refine blockQ_ret ?_
                      refine thenQ_ret ?_
                      exact endQ_ret (h' := []) [] (.tmp rfl (.nil)) trivial (by decide) ⟨rfl, rfl⟩
                    · replace h := bF h hc10
                      refine good_skip ?_
                      refine hK5 _ ?_
                      refine Good.le (σ' := ⟨171, [(2, _)], []⟩) (le_w [] rfl ⟨⟨_, rfl, .refl _⟩, trivial⟩ trivial (by decide)) ?_
                      refine good_seq fun K26 hK26 => ?_
                      refine good_region ?_
                      refine g_op rfl (ValOk.op (v_assign rfl rfl ?_)) 
                      refine g_nil ?_
                      refine hK26 _ ?_
                      refine Good.le (σ' := ⟨171, [(2, .raw .nilIface)], []⟩) (le_w [] rfl ⟨⟨_, rfl, .refl _⟩, trivial⟩ trivial (by decide)) ?_
                      refine good_ret ?_
                      obtain rfl := Option.some.inj h
                      exact endQ_ret (h' := []) [] (.tmp rfl (.nil)) trivial (by decide) ⟨rfl, rfl⟩
                  replace h := ho8
                  refine good_region ?_
                  refine g_op rfl (ValOk.op (v_move rfl rfl ?_)) 
                  refine g_op rfl (ValOk.op (v_move rfl rfl ?_)) 
                  rcases bsplit (s3) with hg8 | hg8
                  · replace h := ifT h hg8
                    refine g_yes rfl rfl hg8 (ValOk.op (v_fieldP tabOk rfl tfoff30_4 rfl ?_)) 
                    refine g_yes rfl rfl hg8 (ValOk.op (v_loadP tabOk rfl rfl tsize23 tagg23 rfl rfl rfl rfl ?_)) 
                    refine g_yes rfl rfl hg8 (ValOk.op (v_lenM (l := a0.names) (f := encS) tabOk rfl rfl telem23 rfl ?_)) 
                    refine g_yes rfl rfl hg8 (ValOk.op (v_bin rfl rfl rfl rfl ?_)) 
                    refine g_op rfl (ValOk.op (v_pickT rfl hg8 rfl rfl ?_)) 
                    refine g_op rfl (ValOk.op (v_move rfl rfl ?_)) 
                    rcases bsplit ((decide ((a0.names.length : Int) = 0))) with hg9 | hg9
                    · replace h := ifT h (dT hg9)
                      refine g_yes rfl rfl hg9 (ValOk.op (v_fieldP tabOk rfl tfoff30_3 rfl ?_)) 
                      refine g_yes rfl rfl hg9 (ValOk.op (v_loadP tabOk rfl rfl tsize28 tagg28 rfl rfl rfl rfl ?_)) 
                      refine g_yes rfl rfl hg9 (ValOk.op (v_lenM (l := a0.list) (f := encVal) tabOk rfl rfl telem28 rfl ?_)) 
                      refine g_yes rfl rfl hg9 (ValOk.op (v_bin rfl rfl rfl rfl ?_)) 
                      refine g_op rfl (ValOk.op (v_pickT rfl hg9 rfl rfl ?_)) 
                      refine g_nil ?_
                      exact hw8 (decide ((a0.list.length : Int) ≤ 12)) (Option.some.inj h).symm _ (le_w [some 11] rfl ⟨⟨_, rfl, .refl _⟩, ⟨⟨_, rfl, .refl _⟩, ⟨⟨_, rfl, .refl _⟩, trivial⟩⟩⟩ ⟨⟨_, rfl, .refl _⟩, trivial⟩ (by decide))
                    · replace h := ifF h (dF hg9)
                      refine g_no rfl rfl hg9 rfl ?_
                      refine g_no rfl rfl hg9 rfl ?_
                      refine g_no rfl rfl hg9 rfl ?_
                      refine g_no rfl rfl hg9 rfl ?_
                      refine g_op rfl (ValOk.op (v_pickF rfl hg9 rfl rfl ?_)) 
                      refine g_nil ?_
                      exact hw8 false (Option.some.inj h).symm _ (le_w [some 11] rfl ⟨⟨_, rfl, .refl _⟩, ⟨⟨_, rfl, .refl _⟩, ⟨⟨_, rfl, .refl _⟩, trivial⟩⟩⟩ ⟨⟨_, rfl, .refl _⟩, trivial⟩ (by decide))
                  · replace h := bF h hg8
                    refine g_no rfl rfl hg8 rfl ?_
                    refine g_no rfl rfl hg8 rfl ?_
                    refine g_no rfl rfl hg8 rfl ?_
                    refine g_no rfl rfl hg8 rfl ?_
                    refine g_op rfl (ValOk.op (v_pickF rfl hg8 rfl rfl ?_)) 
                    refine g_op rfl (ValOk.op (v_move rfl rfl ?_)) 
                    refine g_no rfl rfl rfl rfl ?_
                    refine g_no rfl rfl rfl rfl ?_
                    refine g_no rfl rfl rfl rfl ?_
                    refine g_no rfl rfl rfl rfl ?_
                    refine g_op rfl (ValOk.op (v_pickF rfl rfl rfl rfl ?_)) 
                    refine g_nil ?_
                    exact hw8 false (Option.some.inj h).symm _ (le_w [some 11] rfl ⟨⟨_, rfl, .refl _⟩, ⟨⟨_, rfl, .refl _⟩, ⟨⟨_, rfl, .refl _⟩, trivial⟩⟩⟩ ⟨⟨_, rfl, .refl _⟩, trivial⟩ (by decide))
                · replace h := ifF h (dF hc9)
                  refine good_seq fun K27 hK27 => ?_
                  refine good_region ?_
                  refine g_op rfl (ValOk.op (v_bin rfl rfl rfl rfl ?_)) 
                  refine g_op rfl (ValOk.op (v_assign rfl rfl ?_)) 
                  refine g_nil ?_
                  refine hK27 _ ?_
                  refine Good.le (σ' := ⟨171, [(1, _), (2, _), (3, _), (5, _), (31, _), (110, _)], [(11, (_, _))]⟩) (le_w [some 11] rfl ⟨⟨_, rfl, .refl _⟩, ⟨⟨_, rfl, .refl _⟩, ⟨⟨_, rfl, .refl _⟩, ⟨⟨_, rfl, .refl _⟩, ⟨⟨_, rfl, .refl _⟩, ⟨⟨_, rfl, .refl _⟩, trivial⟩⟩⟩⟩⟩⟩ ⟨⟨_, rfl, .refl _⟩, trivial⟩ (by decide)) ?_
                  refine good_cond rfl (fun hc11 => ?_) (fun hc11 => ?_)
                  · replace h := ifT h (dT hc11)
                    refine good_seq fun K28 hK28 => ?_
                    obtain ⟨o9, ho9, hJ9⟩ := bnd h
                    have hw9 : ∀ (s9 : Bool), o9 = Lp.go s9 → ∀ σ', Le σ' ⟨171, [(1, .ptr 11 b1 0), (2, .raw .nilIface), (132, .bool s9)], [(11, ((.pointer (some ⟨b1, 0, none⟩)), .optr 30 [.int .i64 a0.kind, .int .i64 a0.num, .str a0.text, .sl true (a0.list.map encVal), .sl false (a0.names.map encS)]))]⟩ → K28 σ' := by
                      intro s9 e9 σ' hle9
                      subst e9
                      refine hK28 _ (Good.le hle9 ?_)
                      replace h := hJ9
                      refine good_cond rfl (fun hc12 => ?_) (fun hc12 => ?_)
                      · replace h := ifT h hc12
                        refine good_seq fun K29 hK29 => ?_
                        refine good_region ?_
                        refine g_op rfl (ValOk.op (v_fieldP tabOk rfl tfoff30_4 rfl ?_)) 
                        refine g_op rfl (ValOk.op (v_loadP tabOk rfl rfl tsize23 tagg23 rfl rfl rfl rfl ?_)) 
                        refine g_op rfl (ValOk.op (v_fieldP tabOk rfl tfoff30_3 rfl ?_)) 
                        refine g_op rfl (ValOk.op (v_loadP tabOk rfl rfl tsize28 tagg28 rfl rfl rfl rfl ?_)) 
                        refine g_op rfl (ValOk.op (v_build tabOk (cs := [.sl false (a0.names.map encS), .sl true (a0.list.map encVal)]) tzero140 tsok140 rfl rfl rfl ?_)) 
                        refine g_op rfl (ValOk.op (v_iface tabOk rfl tkind140 rfl rfl ?_)) 
                        refine g_op rfl (ValOk.op (v_assign rfl rfl ?_)) 
                        refine g_nil ?_
                        refine hK29 _ ?_
                        refine Good.le (σ' := ⟨171, [(2, _)], []⟩) (le_w [] rfl ⟨⟨_, rfl, .refl _⟩, trivial⟩ trivial (by decide)) ?_
                        refine Good.le (σ' := ⟨171, [(2, .ifc 140 (.agg [.sl false (a0.names.map encS), .sl true (a0.list.map encVal)]))], []⟩) (le_w [] rfl ⟨⟨_, rfl, .refl _⟩, trivial⟩ trivial (by decide)) ?_
                        refine good_ret ?_
                        obtain rfl := Option.some.inj h
                        refine blockQ_ret ?_
                        refine thenQ_ret ?_
                        exact endQ_ret (h' := []) [] (.tmp rfl (.nil)) trivial (by decide) ⟨rfl, rfl⟩
                      · replace h := bF h hc12
                        refine good_skip ?_
                        refine hK5 _ ?_
                        refine Good.le (σ' := ⟨171, [(2, _)], []⟩) (le_w [] rfl ⟨⟨_, rfl, .refl _⟩, trivial⟩ trivial (by decide)) ?_
                        refine good_seq fun K30 hK30 => ?_
                        refine good_region ?_
                        refine g_op rfl (ValOk.op (v_assign rfl rfl ?_)) 
                        refine g_nil ?_
                        refine hK30 _ ?_
                        refine Good.le (σ' := ⟨171, [(2, .raw .nilIface)], []⟩) (le_w [] rfl ⟨⟨_, rfl, .refl _⟩, trivial⟩ trivial (by decide)) ?_
                        refine good_ret ?_
                        obtain rfl := Option.some.inj h
                        exact endQ_ret (h' := []) [] (.tmp rfl (.nil)) trivial (by decide) ⟨rfl, rfl⟩
                    replace h := ho9
                    refine good_region ?_
                    refine g_op rfl (ValOk.op (v_move rfl rfl ?_)) 
                    refine g_op rfl (ValOk.op (v_move rfl rfl ?_)) 
                    rcases bsplit (s3) with hg10 | hg10
                    · replace h := ifT h hg10
                      refine g_yes rfl rfl hg10 (ValOk.op (v_fieldP tabOk rfl tfoff30_4 rfl ?_)) 
                      refine g_yes rfl rfl hg10 (ValOk.op (v_loadP tabOk rfl rfl tsize23 tagg23 rfl rfl rfl rfl ?_)) 
                      refine g_yes rfl rfl hg10 (ValOk.op (v_lenM (l := a0.names) (f := encS) tabOk rfl rfl telem23 rfl ?_)) 
                      refine g_yes rfl rfl hg10 (ValOk.op (v_fieldP tabOk rfl tfoff30_3 rfl ?_)) 
                      refine g_yes rfl rfl hg10 (ValOk.op (v_loadP tabOk rfl rfl tsize28 tagg28 rfl rfl rfl rfl ?_)) 
                      refine g_yes rfl rfl hg10 (ValOk.op (v_lenM (l := a0.list) (f := encVal) tabOk rfl rfl telem28 rfl ?_)) 
                      refine g_yes rfl rfl hg10 (ValOk.op (v_bin rfl rfl rfl rfl ?_)) 
                      refine g_op rfl (ValOk.op (v_pickT rfl hg10 rfl rfl ?_)) 
                      refine g_op rfl (ValOk.op (v_move rfl rfl ?_)) 
                      rcases bsplit ((decide ((a0.names.length : Int) = (a0.list.length : Int)))) with hg11 | hg11
                      · replace h := ifT h (dT hg11)
                        refine g_yes rfl rfl hg11 (ValOk.op (v_fieldP tabOk rfl tfoff30_3 rfl ?_)) 
                        refine g_yes rfl rfl hg11 (ValOk.op (v_loadP tabOk rfl rfl tsize28 tagg28 rfl rfl rfl rfl ?_)) 
                        refine g_yes rfl rfl hg11 (ValOk.op (v_lenM (l := a0.list) (f := encVal) tabOk rfl rfl telem28 rfl ?_)) 
                        refine g_yes rfl rfl hg11 (ValOk.op (v_bin rfl rfl rfl rfl ?_)) 
                        refine g_op rfl (ValOk.op (v_pickT rfl hg11 rfl rfl ?_)) 
                        refine g_op rfl (ValOk.op (v_move rfl rfl ?_)) 
                        rcases bsplit ((decide ((a0.list.length : Int) ≤ 12))) with hg12 | hg12
                        · replace h := ifT h (dT hg12)
                          refine g_yes rfl rfl hg12 (ValOk.op (v_fieldP tabOk rfl tfoff30_4 rfl ?_)) 
                          refine g_yes rfl rfl hg12 (ValOk.op (v_loadP tabOk rfl rfl tsize23 tagg23 rfl rfl rfl rfl ?_)) 
                          obtain ⟨y1, hy1, h⟩ := bnd h
                          refine g_yes rfl rfl hg12 (o_callR [] [] (core_value rfl rfl) (m_impl_namesOnce_ok k a0.names _ hy1) trivial (.cons (.refl _) (.nil)) (.inl rfl) rfl ?_)
                          refine g_op rfl (ValOk.op (v_pickT rfl hg12 rfl rfl ?_)) 
                          refine g_nil ?_
                          exact hw9 y1 (Option.some.inj h).symm _ (le_w [some 11] rfl ⟨⟨_, rfl, .refl _⟩, ⟨⟨_, rfl, .refl _⟩, ⟨⟨_, rfl, .refl _⟩, trivial⟩⟩⟩ ⟨⟨_, rfl, .refl _⟩, trivial⟩ (by decide))
                        · replace h := ifF h (dF hg12)
                          refine g_no rfl rfl hg12 rfl ?_
                          refine g_no rfl rfl hg12 rfl ?_
                          refine g_no rfl rfl hg12 rfl ?_
                          refine g_op rfl (ValOk.op (v_pickF rfl hg12 rfl rfl ?_)) 
                          refine g_nil ?_
                          exact hw9 false (Option.some.inj h).symm _ (le_w [some 11] rfl ⟨⟨_, rfl, .refl _⟩, ⟨⟨_, rfl, .refl _⟩, ⟨⟨_, rfl, .refl _⟩, trivial⟩⟩⟩ ⟨⟨_, rfl, .refl _⟩, trivial⟩ (by decide))
                      · replace h := ifF h (dF hg11)
                        refine g_no rfl rfl hg11 rfl ?_
                        refine g_no rfl rfl hg11 rfl ?_
                        refine g_no rfl rfl hg11 rfl ?_
                        refine g_no rfl rfl hg11 rfl ?_
                        refine g_op rfl (ValOk.op (v_pickF rfl hg11 rfl rfl ?_)) 
                        refine g_op rfl (ValOk.op (v_move rfl rfl ?_)) 
                        refine g_no rfl rfl rfl rfl ?_
                        refine g_no rfl rfl rfl rfl ?_
                        refine g_no rfl rfl rfl rfl ?_
                        refine g_op rfl (ValOk.op (v_pickF rfl rfl rfl rfl ?_)) 
                        refine g_nil ?_
                        exact hw9 false (Option.some.inj h).symm _ (le_w [some 11] rfl ⟨⟨_, rfl, .refl _⟩, ⟨⟨_, rfl, .refl _⟩, ⟨⟨_, rfl, .refl _⟩, trivial⟩⟩⟩ ⟨⟨_, rfl, .refl _⟩, trivial⟩ (by decide))
                    · replace h := bF h hg10
                      refine g_no rfl rfl hg10 rfl ?_
                      refine g_no rfl rfl hg10 rfl ?_
                      refine g_no rfl rfl hg10 rfl ?_
                      refine g_no rfl rfl hg10 rfl ?_
                      refine g_no rfl rfl hg10 rfl ?_
                      refine g_no rfl rfl hg10 rfl ?_
                      refine g_no rfl rfl hg10 rfl ?_
                      refine g_op rfl (ValOk.op (v_pickF rfl hg10 rfl rfl ?_)) 
                      refine g_op rfl (ValOk.op (v_move rfl rfl ?_)) 
                      refine g_no rfl rfl rfl rfl ?_
                      refine g_no rfl rfl rfl rfl ?_
                      refine g_no rfl rfl rfl rfl ?_
                      refine g_no rfl rfl rfl rfl ?_
                      refine g_op rfl (ValOk.op (v_pickF rfl rfl rfl rfl ?_)) 
                      refine g_op rfl (ValOk.op (v_move rfl rfl ?_)) 
                      refine g_no rfl rfl rfl rfl ?_
                      refine g_no rfl rfl rfl rfl ?_
                      refine g_no rfl rfl rfl rfl ?_
                      refine g_op rfl (ValOk.op (v_pickF rfl rfl rfl rfl ?_)) 
                      refine g_nil ?_
                      exact hw9 false (Option.some.inj h).symm _ (le_w [some 11] rfl ⟨⟨_, rfl, .refl _⟩, ⟨⟨_, rfl, .refl _⟩, ⟨⟨_, rfl, .refl _⟩, trivial⟩⟩⟩ ⟨⟨_, rfl, .refl _⟩, trivial⟩ (by decide))
                  · replace h := ifF h (dF hc11)
                    refine good_seq fun K31 hK31 => ?_
                    refine good_region ?_
                    refine g_op rfl (ValOk.op (v_bin rfl rfl rfl rfl ?_)) 
                    refine g_op rfl (ValOk.op (v_assign rfl rfl ?_)) 
                    refine g_nil ?_
                    refine hK31 _ ?_
                    refine Good.le (σ' := ⟨171, [(1, _), (2, _), (3, _), (31, _), (139, _)], [(11, (_, _))]⟩) (le_w [some 11] rfl ⟨⟨_, rfl, .refl _⟩, ⟨⟨_, rfl, .refl _⟩, ⟨⟨_, rfl, .refl _⟩, ⟨⟨_, rfl, .refl _⟩, ⟨⟨_, rfl, .refl _⟩, trivial⟩⟩⟩⟩⟩ ⟨⟨_, rfl, .refl _⟩, trivial⟩ (by decide)) ?_
                    refine good_cond rfl (fun hc13 => ?_) (fun hc13 => ?_)
                    · replace h := ifT h (dT hc13)
                      refine good_seq fun K32 hK32 => ?_
                      obtain ⟨o10, ho10, hJ10⟩ := bnd h
                      have hw10 : ∀ (s10 : Bool), o10 = Lp.go s10 → ∀ σ', Le σ' ⟨171, [(1, .ptr 11 b1 0), (2, .raw .nilIface), (151, .bool s10)], [(11, ((.pointer (some ⟨b1, 0, none⟩)), .optr 30 [.int .i64 a0.kind, .int .i64 a0.num, .str a0.text, .sl true (a0.list.map encVal), .sl false (a0.names.map encS)]))]⟩ → K32 σ' := by
                        intro s10 e10 σ' hle10
                        subst e10
                        refine hK32 _ (Good.le hle10 ?_)
                        replace h := hJ10
                        refine good_cond rfl (fun hc14 => ?_) (fun hc14 => ?_)
                        · replace h := ifT h hc14
                          refine good_seq fun K33 hK33 => ?_
                          refine good_region ?_
                          refine g_op rfl (ValOk.op (v_fieldP tabOk rfl tfoff30_2 rfl ?_)) 
                          refine g_op rfl (ValOk.op (v_loadP tabOk rfl rfl tsize9 tagg9 rfl rfl rfl rfl ?_)) 
                          refine g_op rfl (ValOk.op (v_iface tabOk rfl tkind112 rfl rfl ?_)) 
                          refine g_op rfl (ValOk.op (v_assign rfl rfl ?_)) 
                          refine g_nil ?_
                          refine hK33 _ ?_
                          refine Good.le (σ' := ⟨171, [(2, _)], []⟩) (le_w [] rfl ⟨⟨_, rfl, .refl _⟩, trivial⟩ trivial (by decide)) ?_
                          refine Good.le (σ' := ⟨171, [(2, .ifc 112 (.str a0.text))], []⟩) (le_w [] rfl ⟨⟨_, rfl, .refl _⟩, trivial⟩ trivial (by decide)) ?_
                          refine good_ret ?_
                          obtain rfl := Option.some.inj h
                          refine blockQ_ret ?_
                          refine thenQ_ret ?_
                          exact endQ_ret (h' := []) [] (.tmp rfl (.nil)) trivial (by decide) ⟨rfl, rfl⟩
                        · replace h := bF h hc14
                          refine good_skip ?_
                          refine hK5 _ ?_
                          refine Good.le (σ' := ⟨171, [(2, _)], []⟩) (le_w [] rfl ⟨⟨_, rfl, .refl _⟩, trivial⟩ trivial (by decide)) ?_
                          refine good_seq fun K34 hK34 => ?_
                          refine good_region ?_
                          refine g_op rfl (ValOk.op (v_assign rfl rfl ?_)) 
                          refine g_nil ?_
                          refine hK34 _ ?_
                          refine Good.le (σ' := ⟨171, [(2, .raw .nilIface)], []⟩) (le_w [] rfl ⟨⟨_, rfl, .refl _⟩, trivial⟩ trivial (by decide)) ?_
                          refine good_ret ?_
                          obtain rfl := Option.some.inj h
                          exact endQ_ret (h' := []) [] (.tmp rfl (.nil)) trivial (by decide) ⟨rfl, rfl⟩
                      replace h := ho10
                      refine good_region ?_
                      refine g_op rfl (ValOk.op (v_move rfl rfl ?_)) 
                      refine g_op rfl (ValOk.op (v_move rfl rfl ?_)) 
                      rcases bsplit (s1) with hg13 | hg13
                      · replace h := ifT h hg13
                        refine g_yes rfl rfl hg13 (ValOk.op (v_fieldP tabOk rfl tfoff30_1 rfl ?_)) 
                        refine g_yes rfl rfl hg13 (ValOk.op (v_loadP tabOk rfl rfl tsize3 tagg3 rfl rfl rfl rfl ?_)) 
                        refine g_yes rfl rfl hg13 (ValOk.op (v_bin rfl rfl rfl rfl ?_)) 
                        refine g_op rfl (ValOk.op (v_pickT rfl hg13 rfl rfl ?_)) 
                        refine g_op rfl (ValOk.op (v_move rfl rfl ?_)) 
                        rcases bsplit ((decide (a0.num = 0))) with hg14 | hg14
                        · replace h := ifT h (dT hg14)
                          refine g_yes rfl rfl hg14 (ValOk.op (v_fieldP tabOk rfl tfoff30_2 rfl ?_)) 
                          refine g_yes rfl rfl hg14 (ValOk.op (v_loadP tabOk rfl rfl tsize9 tagg9 rfl rfl rfl rfl ?_)) 
                          obtain ⟨y2, hy2, h⟩ := bnd h
                          refine g_yes rfl rfl hg14 (o_callR [] [] (core_value rfl rfl) (m_impl_isName_ok k a0.text _ hy2) trivial (.cons (.refl _) (.nil)) (.inl rfl) rfl ?_)
                          refine g_op rfl (ValOk.op (v_pickT rfl hg14 rfl rfl ?_)) 
                          refine g_nil ?_
                          exact hw10 y2 (Option.some.inj h).symm _ (le_w [some 11] rfl ⟨⟨_, rfl, .refl _⟩, ⟨⟨_, rfl, .refl _⟩, ⟨⟨_, rfl, .refl _⟩, trivial⟩⟩⟩ ⟨⟨_, rfl, .refl _⟩, trivial⟩ (by decide))
                        · replace h := ifF h (dF hg14)
                          refine g_no rfl rfl hg14 rfl ?_
                          refine g_no rfl rfl hg14 rfl ?_
                          refine g_no rfl rfl hg14 rfl ?_
                          refine g_op rfl (ValOk.op (v_pickF rfl hg14 rfl rfl ?_)) 
                          refine g_nil ?_
                          exact hw10 false (Option.some.inj h).symm _ (le_w [some 11] rfl ⟨⟨_, rfl, .refl _⟩, ⟨⟨_, rfl, .refl _⟩, ⟨⟨_, rfl, .refl _⟩, trivial⟩⟩⟩ ⟨⟨_, rfl, .refl _⟩, trivial⟩ (by decide))
                      · replace h := bF h hg13
                        refine g_no rfl rfl hg13 rfl ?_
                        refine g_no rfl rfl hg13 rfl ?_
                        refine g_no rfl rfl hg13 rfl ?_
                        refine g_op rfl (ValOk.op (v_pickF rfl hg13 rfl rfl ?_)) 
                        refine g_op rfl (ValOk.op (v_move rfl rfl ?_)) 
                        refine g_no rfl rfl rfl rfl ?_
                        refine g_no rfl rfl rfl rfl ?_
                        refine g_no rfl rfl rfl rfl ?_
                        refine g_op rfl (ValOk.op (v_pickF rfl rfl rfl rfl ?_)) 
                        refine g_nil ?_
                        exact hw10 false (Option.some.inj h).symm _ (le_w [some 11] rfl ⟨⟨_, rfl, .refl _⟩, ⟨⟨_, rfl, .refl _⟩, ⟨⟨_, rfl, .refl _⟩, trivial⟩⟩⟩ ⟨⟨_, rfl, .refl _⟩, trivial⟩ (by decide))
                    · replace h := ifF h (dF hc13)
                      refine good_seq fun K35 hK35 => ?_
                      refine good_region ?_
                      refine g_op rfl (ValOk.op (v_bin rfl rfl rfl rfl ?_)) 
                      refine g_op rfl (ValOk.op (v_assign rfl rfl ?_)) 
                      refine g_nil ?_
                      refine hK35 _ ?_
                      refine Good.le (σ' := ⟨171, [(1, _), (2, _), (3, _), (155, _)], [(11, (_, _))]⟩) (le_w [some 11] rfl ⟨⟨_, rfl, .refl _⟩, ⟨⟨_, rfl, .refl _⟩, ⟨⟨_, rfl, .refl _⟩, ⟨⟨_, rfl, .refl _⟩, trivial⟩⟩⟩⟩ ⟨⟨_, rfl, .refl _⟩, trivial⟩ (by decide)) ?_
                      refine good_cond rfl (fun hc15 => ?_) (fun hc15 => ?_)
                      · replace h := ifT h (dT hc15)
                        refine good_seq fun K36 hK36 => ?_
                        obtain ⟨o11, ho11, hJ11⟩ := bnd h
                        have hw11 : ∀ (s11 : Bool), o11 = Lp.go s11 → ∀ σ', Le σ' ⟨171, [(1, .ptr 11 b1 0), (2, .raw .nilIface), (167, .bool s11)], [(11, ((.pointer (some ⟨b1, 0, none⟩)), .optr 30 [.int .i64 a0.kind, .int .i64 a0.num, .str a0.text, .sl true (a0.list.map encVal), .sl false (a0.names.map encS)]))]⟩ → K36 σ' := by
                          intro s11 e11 σ' hle11
                          subst e11
                          refine hK36 _ (Good.le hle11 ?_)
                          replace h := hJ11
                          refine good_cond rfl (fun hc16 => ?_) (fun hc16 => ?_)
                          · replace h := ifT h hc16
                            refine good_seq fun K37 hK37 => ?_
                            refine good_region ?_
                            refine g_op rfl (ValOk.op (v_fieldP tabOk rfl tfoff30_2 rfl ?_)) 
                            refine g_op rfl (ValOk.op (v_loadP tabOk rfl rfl tsize9 tagg9 rfl rfl rfl rfl ?_)) 
                            refine g_op rfl (ValOk.op (v_iface tabOk rfl tkind113 rfl rfl ?_)) 
                            refine g_op rfl (ValOk.op (v_assign rfl rfl ?_)) 
                            refine g_nil ?_
                            refine hK37 _ ?_
                            refine Good.le (σ' := ⟨171, [(2, _)], []⟩) (le_w [] rfl ⟨⟨_, rfl, .refl _⟩, trivial⟩ trivial (by decide)) ?_
                            refine Good.le (σ' := ⟨171, [(2, .ifc 113 (.str a0.text))], []⟩) (le_w [] rfl ⟨⟨_, rfl, .refl _⟩, trivial⟩ trivial (by decide)) ?_
                            refine good_ret ?_
                            obtain rfl := Option.some.inj h
                            refine blockQ_ret ?_
                            refine thenQ_ret ?_
                            exact endQ_ret (h' := []) [] (.tmp rfl (.nil)) trivial (by decide) ⟨rfl, rfl⟩
                          · replace h := bF h hc16
                            refine good_skip ?_
                            refine hK5 _ ?_
                            refine Good.le (σ' := ⟨171, [(2, _)], []⟩) (le_w [] rfl ⟨⟨_, rfl, .refl _⟩, trivial⟩ trivial (by decide)) ?_
                            refine good_seq fun K38 hK38 => ?_
                            refine good_region ?_
                            refine g_op rfl (ValOk.op (v_assign rfl rfl ?_)) 
                            refine g_nil ?_
                            refine hK38 _ ?_
                            refine Good.le (σ' := ⟨171, [(2, .raw .nilIface)], []⟩) (le_w [] rfl ⟨⟨_, rfl, .refl _⟩, trivial⟩ trivial (by decide)) ?_
                            refine good_ret ?_
                            obtain rfl := Option.some.inj h
                            exact endQ_ret (h' := []) [] (.tmp rfl (.nil)) trivial (by decide) ⟨rfl, rfl⟩
                        replace h := ho11
                        refine good_region ?_
                        refine g_op rfl (ValOk.op (v_move rfl rfl ?_)) 
                        refine g_op rfl (ValOk.op (v_move rfl rfl ?_)) 
                        rcases bsplit (s1) with hg15 | hg15
                        · replace h := ifT h hg15
                          refine g_yes rfl rfl hg15 (ValOk.op (v_fieldP tabOk rfl tfoff30_1 rfl ?_)) 
                          refine g_yes rfl rfl hg15 (ValOk.op (v_loadP tabOk rfl rfl tsize3 tagg3 rfl rfl rfl rfl ?_)) 
                          refine g_yes rfl rfl hg15 (ValOk.op (v_bin rfl rfl rfl rfl ?_)) 
                          refine g_op rfl (ValOk.op (v_pickT rfl hg15 rfl rfl ?_)) 
                          refine g_op rfl (ValOk.op (v_move rfl rfl ?_)) 
                          rcases bsplit ((decide (a0.num = 0))) with hg16 | hg16
                          · replace h := ifT h (dT hg16)
                            refine g_yes rfl rfl hg16 (ValOk.op (v_fieldP tabOk rfl tfoff30_2 rfl ?_)) 
                            refine g_yes rfl rfl hg16 (ValOk.op (v_loadP tabOk rfl rfl tsize9 tagg9 rfl rfl rfl rfl ?_)) 
                            obtain ⟨y3, hy3, h⟩ := bnd h
                            refine g_yes rfl rfl hg16 (o_callR [] [] (core_value rfl rfl) (m_impl_isName_ok k a0.text _ hy3) trivial (.cons (.refl _) (.nil)) (.inl rfl) rfl ?_)
                            refine g_op rfl (ValOk.op (v_pickT rfl hg16 rfl rfl ?_)) 
                            refine g_nil ?_
                            exact hw11 y3 (Option.some.inj h).symm _ (le_w [some 11] rfl ⟨⟨_, rfl, .refl _⟩, ⟨⟨_, rfl, .refl _⟩, ⟨⟨_, rfl, .refl _⟩, trivial⟩⟩⟩ ⟨⟨_, rfl, .refl _⟩, trivial⟩ (by decide))
                          · replace h := ifF h (dF hg16)
                            refine g_no rfl rfl hg16 rfl ?_
                            refine g_no rfl rfl hg16 rfl ?_
                            refine g_no rfl rfl hg16 rfl ?_
                            refine g_op rfl (ValOk.op (v_pickF rfl hg16 rfl rfl ?_)) 
                            refine g_nil ?_
                            exact hw11 false (Option.some.inj h).symm _ (le_w [some 11] rfl ⟨⟨_, rfl, .refl _⟩, ⟨⟨_, rfl, .refl _⟩, ⟨⟨_, rfl, .refl _⟩, trivial⟩⟩⟩ ⟨⟨_, rfl, .refl _⟩, trivial⟩ (by decide))
                        · replace h := bF h hg15
                          refine g_no rfl rfl hg15 rfl ?_
                          refine g_no rfl rfl hg15 rfl ?_
                          refine g_no rfl rfl hg15 rfl ?_
                          refine g_op rfl (ValOk.op (v_pickF rfl hg15 rfl rfl ?_)) 
                          refine g_op rfl (ValOk.op (v_move rfl rfl ?_)) 
                          refine g_no rfl rfl rfl rfl ?_
                          refine g_no rfl rfl rfl rfl ?_
                          refine g_no rfl rfl rfl rfl ?_
                          refine g_op rfl (ValOk.op (v_pickF rfl rfl rfl rfl ?_)) 
                          refine g_nil ?_
                          exact hw11 false (Option.some.inj h).symm _ (le_w [some 11] rfl ⟨⟨_, rfl, .refl _⟩, ⟨⟨_, rfl, .refl _⟩, ⟨⟨_, rfl, .refl _⟩, trivial⟩⟩⟩ ⟨⟨_, rfl, .refl _⟩, trivial⟩ (by decide))
                      · replace h := ifF h (dF hc15)
                        refine good_skip ?_
                        refine hK5 _ ?_
                        refine Good.le (σ' := ⟨171, [(2, _)], []⟩) (le_w [] rfl ⟨⟨_, rfl, .refl _⟩, trivial⟩ trivial (by decide)) ?_
                        refine good_seq fun K39 hK39 => ?_
                        refine good_region ?_
                        refine g_op rfl (ValOk.op (v_assign rfl rfl ?_)) 
                        refine g_nil ?_
                        refine hK39 _ ?_
                        refine Good.le (σ' := ⟨171, [(2, .raw .nilIface)], []⟩) (le_w [] rfl ⟨⟨_, rfl, .refl _⟩, trivial⟩ trivial (by decide)) ?_
                        refine good_ret ?_
                        obtain rfl := Option.some.inj h
                        exact endQ_ret (h' := []) [] (.tmp rfl (.nil)) trivial (by decide) ⟨rfl, rfl⟩
      replace h := ho3
      refine good_region ?_
      refine g_op rfl (ValOk.op (v_fieldP tabOk rfl tfoff30_1 rfl ?_)) 
      refine g_op rfl (ValOk.op (v_loadP tabOk rfl rfl tsize3 tagg3 rfl rfl rfl rfl ?_)) 
      refine g_op rfl (ValOk.op (v_bin rfl rfl rfl rfl ?_)) 
      refine g_op rfl (ValOk.op (v_move rfl rfl ?_)) 
      rcases bsplit ((decide (a0.num = 0))) with hg17 | hg17
      · replace h := ifT h (dT hg17)
        refine g_yes rfl rfl hg17 (ValOk.op (v_fieldP tabOk rfl tfoff30_2 rfl ?_)) 
        refine g_yes rfl rfl hg17 (ValOk.op (v_loadP tabOk rfl rfl tsize9 tagg9 rfl rfl rfl rfl ?_)) 
        refine g_yes rfl rfl hg17 (ValOk.op (v_bin rfl rfl rfl rfl ?_)) 
        refine g_op rfl (ValOk.op (v_pickT rfl hg17 rfl rfl ?_)) 
        refine g_op rfl (ValOk.op (v_assign rfl rfl ?_)) 
        refine g_nil ?_
        exact hw3 (decide (a0.text = [])) (Option.some.inj h).symm _ (le_w [some 11] rfl ⟨⟨_, rfl, .refl _⟩, ⟨⟨_, rfl, .refl _⟩, ⟨⟨_, rfl, .refl _⟩, ⟨⟨_, rfl, .refl _⟩, ⟨⟨_, rfl, .refl _⟩, trivial⟩⟩⟩⟩⟩ ⟨⟨_, rfl, .refl _⟩, trivial⟩ (by decide))
      · replace h := ifF h (dF hg17)
        refine g_no rfl rfl hg17 rfl ?_
        refine g_no rfl rfl hg17 rfl ?_
        refine g_no rfl rfl hg17 rfl ?_
        refine g_op rfl (ValOk.op (v_pickF rfl hg17 rfl rfl ?_)) 
        refine g_op rfl (ValOk.op (v_assign rfl rfl ?_)) 
        refine g_nil ?_
        exact hw3 false (Option.some.inj h).symm _ (le_w [some 11] rfl ⟨⟨_, rfl, .refl _⟩, ⟨⟨_, rfl, .refl _⟩, ⟨⟨_, rfl, .refl _⟩, ⟨⟨_, rfl, .refl _⟩, ⟨⟨_, rfl, .refl _⟩, trivial⟩⟩⟩⟩⟩ ⟨⟨_, rfl, .refl _⟩, trivial⟩ (by decide))
    replace h := ho2
    refine good_region ?_
    refine g_op rfl (ValOk.op (v_move rfl rfl ?_)) 
    refine g_op rfl (ValOk.op (v_move rfl rfl ?_)) 
    rcases bsplit (s1) with hg18 | hg18
    · replace h := ifT h hg18
      refine g_yes rfl rfl hg18 (ValOk.op (v_fieldP tabOk rfl tfoff30_2 rfl ?_)) 
      refine g_yes rfl rfl hg18 (ValOk.op (v_loadP tabOk rfl rfl tsize9 tagg9 rfl rfl rfl rfl ?_)) 
      refine g_yes rfl rfl hg18 (ValOk.op (v_bin rfl rfl rfl rfl ?_)) 
      refine g_op rfl (ValOk.op (v_pickT rfl hg18 rfl rfl ?_)) 
      refine g_op rfl (ValOk.op (v_assign rfl rfl ?_)) 
      refine g_nil ?_
      exact hw2 (decide (a0.text = [])) (Option.some.inj h).symm _ (le_w [some 11] rfl ⟨⟨_, rfl, .refl _⟩, ⟨⟨_, rfl, .refl _⟩, ⟨⟨_, rfl, .refl _⟩, ⟨⟨_, rfl, .refl _⟩, trivial⟩⟩⟩⟩ ⟨⟨_, rfl, .refl _⟩, trivial⟩ (by decide))
    · replace h := bF h hg18
      refine g_no rfl rfl hg18 rfl ?_
      refine g_no rfl rfl hg18 rfl ?_
      refine g_no rfl rfl hg18 rfl ?_
      refine g_op rfl (ValOk.op (v_pickF rfl hg18 rfl rfl ?_)) 
      refine g_op rfl (ValOk.op (v_assign rfl rfl ?_)) 
      refine g_nil ?_
      exact hw2 false (Option.some.inj h).symm _ (le_w [some 11] rfl ⟨⟨_, rfl, .refl _⟩, ⟨⟨_, rfl, .refl _⟩, ⟨⟨_, rfl, .refl _⟩, ⟨⟨_, rfl, .refl _⟩, trivial⟩⟩⟩⟩ ⟨⟨_, rfl, .refl _⟩, trivial⟩ (by decide))
  replace h := ho1
  refine good_region ?_
  refine g_op rfl (ValOk.op (v_fieldP tabOk rfl tfoff30_3 rfl ?_)) 
  refine g_op rfl (ValOk.op (v_loadP tabOk rfl rfl tsize28 tagg28 rfl rfl rfl rfl ?_)) 
  refine g_op rfl (ValOk.op (v_lenM (l := a0.list) (f := encVal) tabOk rfl rfl telem28 rfl ?_)) 
  refine g_op rfl (ValOk.op (v_bin rfl rfl rfl rfl ?_)) 
  refine g_op rfl (ValOk.op (v_move rfl rfl ?_)) 
  rcases bsplit ((decide ((a0.list.length : Int) = 0))) with hg19 | hg19
  · replace h := ifT h (dT hg19)
    refine g_yes rfl rfl hg19 (ValOk.op (v_fieldP tabOk rfl tfoff30_4 rfl ?_)) 
    refine g_yes rfl rfl hg19 (ValOk.op (v_loadP tabOk rfl rfl tsize23 tagg23 rfl rfl rfl rfl ?_)) 
    refine g_yes rfl rfl hg19 (ValOk.op (v_lenM (l := a0.names) (f := encS) tabOk rfl rfl telem23 rfl ?_)) 
    refine g_yes rfl rfl hg19 (ValOk.op (v_bin rfl rfl rfl rfl ?_)) 
    refine g_op rfl (ValOk.op (v_pickT rfl hg19 rfl rfl ?_)) 
    refine g_op rfl (ValOk.op (v_assign rfl rfl ?_)) 
    refine g_nil ?_
    exact hw1 (decide ((a0.names.length : Int) = 0)) (Option.some.inj h).symm _ (le_w [some 11] rfl ⟨⟨_, rfl, .refl _⟩, ⟨⟨_, rfl, .refl _⟩, ⟨⟨_, rfl, .refl _⟩, trivial⟩⟩⟩ ⟨⟨_, rfl, .refl _⟩, trivial⟩ (by decide))
  · replace h := ifF h (dF hg19)
    refine g_no rfl rfl hg19 rfl ?_
    refine g_no rfl rfl hg19 rfl ?_
    refine g_no rfl rfl hg19 rfl ?_
    refine g_no rfl rfl hg19 rfl ?_
    refine g_op rfl (ValOk.op (v_pickF rfl hg19 rfl rfl ?_)) 
    refine g_op rfl (ValOk.op (v_assign rfl rfl ?_)) 
    refine g_nil ?_
    exact hw1 false (Option.some.inj h).symm _ (le_w [some 11] rfl ⟨⟨_, rfl, .refl _⟩, ⟨⟨_, rfl, .refl _⟩, ⟨⟨_, rfl, .refl _⟩, trivial⟩⟩⟩ ⟨⟨_, rfl, .refl _⟩, trivial⟩ (by decide))
def m_impl_nullItem_within (a0 : Unit) : Option (List Val) :=
  some ([] : List Val)
theorem m_impl_nullItem_within_ok : ∀ (a0 : Unit) (r : (List Val)), m_impl_nullItem_within a0 = some r → Does Try.prog 169 [.agg []] [] (fun q h' => ∃ u0 : Value, q = .hd 100 u0 ∧ h' = [(100, (u0, .osl 30 5 (r.map encOVal)))]) := by
  intro a0 r h
  rw [m_impl_nullItem_within] at h
  refine does_of_good tabOk Try.func169 rfl (by decide +kernel) (Nat.le_of_ble_eq_true rfl) fun c => ?_
  refine Good.le (σ' := ⟨3, [(0, .agg [])], []⟩) (Le.refl _) ?_
  refine good_seq fun K1 hK1 => ?_
  refine good_region ?_
  refine g_op rfl (o_box (k := 11) tabOk rfl rfl rfl rfl rfl ?_)
  intro b1
  refine g_op rfl (ValOk.op (v_assign rfl rfl ?_)) 
  refine g_nil ?_
  refine hK1 _ ?_
  refine Good.le (σ' := ⟨3, [(2, _)], []⟩) (le_w [] rfl ⟨⟨_, rfl, .refl _⟩, trivial⟩ trivial (by decide)) ?_
  refine good_seq fun K2 hK2 => ?_
  refine good_region ?_
  refine g_op rfl (ValOk.op (v_assign rfl rfl ?_)) 
  refine g_nil ?_
  refine hK2 _ ?_
  refine Good.le (σ' := ⟨3, [(2, .hd 100 nilV)], [(100, (nilV, .osl 30 5 (([] : List Val).map encOVal)))]⟩) (le_w [none] rfl ⟨⟨_, rfl, .nilhd _⟩, trivial⟩ ⟨⟨rfl, _, _, rfl⟩, trivial⟩ (by decide)) ?_
  refine good_ret ?_
  obtain rfl := Option.some.inj h
  exact endQ_ret (h' := [(100, (_, _))]) [some 100] (.tmp rfl (.nil)) ⟨⟨_, rfl, .refl _⟩, trivial⟩ (by decide) ⟨nilV, rfl, rfl⟩
theorem m_impl_nullItem_within_okF : ∀ (a0 : Unit) (r : (List Val)), m_impl_nullItem_within a0 = some r → Does Try.prog 169 [.agg []] [] (ret (.sl true (r.map encVal))) := by
  intro a0 r h
  refine does_frz (m_impl_nullItem_within_ok a0 r h) ?_
  rintro q h' ⟨u0, rfl, rfl⟩
  exact ⟨[100], [(_, _)], ⟨⟨_, rfl, .osl (FrzLL.map fun _ _ => encOVal_frz _)⟩, trivial⟩, .frz _ _ _ (.head _)⟩
def m_impl_boolItem_within (a0 : Bool) : Option (List Val) :=
  some ([] : List Val)
theorem m_impl_boolItem_within_ok : ∀ (a0 : Bool) (r : (List Val)), m_impl_boolItem_within a0 = some r → Does Try.prog 170 [.bool a0] [] (fun q h' => ∃ u0 : Value, q = .hd 100 u0 ∧ h' = [(100, (u0, .osl 30 5 (r.map encOVal)))]) := by
  intro a0 r h
  rw [m_impl_boolItem_within] at h
  refine does_of_good tabOk Try.func170 rfl (by decide +kernel) (Nat.le_of_ble_eq_true rfl) fun c => ?_
  refine Good.le (σ' := ⟨3, [(0, .bool a0)], []⟩) (Le.refl _) ?_
  refine good_seq fun K1 hK1 => ?_
  refine good_region ?_
  refine g_op rfl (ValOk.op (v_assign rfl rfl ?_)) 
  refine g_nil ?_
  refine hK1 _ ?_
  refine Good.le (σ' := ⟨3, [(2, _)], []⟩) (le_w [] rfl ⟨⟨_, rfl, .refl _⟩, trivial⟩ trivial (by decide)) ?_
  refine good_seq fun K2 hK2 => ?_
  refine good_region ?_
  refine g_op rfl (ValOk.op (v_assign rfl rfl ?_)) 
  refine g_nil ?_
  refine hK2 _ ?_
  refine Good.le (σ' := ⟨3, [(2, .hd 100 nilV)], [(100, (nilV, .osl 30 5 (([] : List Val).map encOVal)))]⟩) (le_w [none] rfl ⟨⟨_, rfl, .nilhd _⟩, trivial⟩ ⟨⟨rfl, _, _, rfl⟩, trivial⟩ (by decide)) ?_
  refine good_ret ?_
  obtain rfl := Option.some.inj h
  exact endQ_ret (h' := [(100, (_, _))]) [some 100] (.tmp rfl (.nil)) ⟨⟨_, rfl, .refl _⟩, trivial⟩ (by decide) ⟨nilV, rfl, rfl⟩
theorem m_impl_boolItem_within_okF : ∀ (a0 : Bool) (r : (List Val)), m_impl_boolItem_within a0 = some r → Does Try.prog 170 [.bool a0] [] (ret (.sl true (r.map encVal))) := by
  intro a0 r h
  refine does_frz (m_impl_boolItem_within_ok a0 r h) ?_
  rintro q h' ⟨u0, rfl, rfl⟩
  exact ⟨[100], [(_, _)], ⟨⟨_, rfl, .osl (FrzLL.map fun _ _ => encOVal_frz _)⟩, trivial⟩, .frz _ _ _ (.head _)⟩
def m_impl_numItem_within (a0 : Int) : Option (List Val) :=
  some ([] : List Val)
theorem m_impl_numItem_within_ok : ∀ (a0 : Int) (r : (List Val)), m_impl_numItem_within a0 = some r → Does Try.prog 171 [.int .i64 a0] [] (fun q h' => ∃ u0 : Value, q = .hd 100 u0 ∧ h' = [(100, (u0, .osl 30 5 (r.map encOVal)))]) := by
  intro a0 r h
  rw [m_impl_numItem_within] at h
  refine does_of_good tabOk Try.func171 rfl (by decide +kernel) (Nat.le_of_ble_eq_true rfl) fun c => ?_
  refine Good.le (σ' := ⟨3, [(0, .int .i64 a0)], []⟩) (Le.refl _) ?_
  refine good_seq fun K1 hK1 => ?_
  refine good_region ?_
  refine g_op rfl (ValOk.op (v_assign rfl rfl ?_)) 
  refine g_nil ?_
  refine hK1 _ ?_
  refine Good.le (σ' := ⟨3, [(2, _)], []⟩) (le_w [] rfl ⟨⟨_, rfl, .refl _⟩, trivial⟩ trivial (by decide)) ?_
  refine good_seq fun K2 hK2 => ?_
  refine good_region ?_
  refine g_op rfl (ValOk.op (v_assign rfl rfl ?_)) 
  refine g_nil ?_
  refine hK2 _ ?_
  refine Good.le (σ' := ⟨3, [(2, .hd 100 nilV)], [(100, (nilV, .osl 30 5 (([] : List Val).map encOVal)))]⟩) (le_w [none] rfl ⟨⟨_, rfl, .nilhd _⟩, trivial⟩ ⟨⟨rfl, _, _, rfl⟩, trivial⟩ (by decide)) ?_
  refine good_ret ?_
  obtain rfl := Option.some.inj h
  exact endQ_ret (h' := [(100, (_, _))]) [some 100] (.tmp rfl (.nil)) ⟨⟨_, rfl, .refl _⟩, trivial⟩ (by decide) ⟨nilV, rfl, rfl⟩
theorem m_impl_numItem_within_okF : ∀ (a0 : Int) (r : (List Val)), m_impl_numItem_within a0 = some r → Does Try.prog 171 [.int .i64 a0] [] (ret (.sl true (r.map encVal))) := by
  intro a0 r h
  refine does_frz (m_impl_numItem_within_ok a0 r h) ?_
  rintro q h' ⟨u0, rfl, rfl⟩
  exact ⟨[100], [(_, _)], ⟨⟨_, rfl, .osl (FrzLL.map fun _ _ => encOVal_frz _)⟩, trivial⟩, .frz _ _ _ (.head _)⟩
def m_impl_textItem_within (a0 : Bs) : Option (List Val) :=
  some ([] : List Val)
theorem m_impl_textItem_within_ok : ∀ (a0 : Bs) (r : (List Val)), m_impl_textItem_within a0 = some r → Does Try.prog 172 [.str a0] [] (fun q h' => ∃ u0 : Value, q = .hd 100 u0 ∧ h' = [(100, (u0, .osl 30 5 (r.map encOVal)))]) := by
  intro a0 r h
  rw [m_impl_textItem_within] at h
  refine does_of_good tabOk Try.func172 rfl (by decide +kernel) (Nat.le_of_ble_eq_true rfl) fun c => ?_
  refine Good.le (σ' := ⟨3, [(0, .str a0)], []⟩) (Le.refl _) ?_
  refine good_seq fun K1 hK1 => ?_
  refine good_region ?_
  refine g_op rfl (ValOk.op (v_assign rfl rfl ?_)) 
  refine g_nil ?_
  refine hK1 _ ?_
  refine Good.le (σ' := ⟨3, [(2, _)], []⟩) (le_w [] rfl ⟨⟨_, rfl, .refl _⟩, trivial⟩ trivial (by decide)) ?_
  refine good_seq fun K2 hK2 => ?_
  refine good_region ?_
  refine g_op rfl (ValOk.op (v_assign rfl rfl ?_)) 
  refine g_nil ?_
  refine hK2 _ ?_
  refine Good.le (σ' := ⟨3, [(2, .hd 100 nilV)], [(100, (nilV, .osl 30 5 (([] : List Val).map encOVal)))]⟩) (le_w [none] rfl ⟨⟨_, rfl, .nilhd _⟩, trivial⟩ ⟨⟨rfl, _, _, rfl⟩, trivial⟩ (by decide)) ?_
  refine good_ret ?_
  obtain rfl := Option.some.inj h
  exact endQ_ret (h' := [(100, (_, _))]) [some 100] (.tmp rfl (.nil)) ⟨⟨_, rfl, .refl _⟩, trivial⟩ (by decide) ⟨nilV, rfl, rfl⟩
theorem m_impl_textItem_within_okF : ∀ (a0 : Bs) (r : (List Val)), m_impl_textItem_within a0 = some r → Does Try.prog 172 [.str a0] [] (ret (.sl true (r.map encVal))) := by
  intro a0 r h
  refine does_frz (m_impl_textItem_within_ok a0 r h) ?_
  rintro q h' ⟨u0, rfl, rfl⟩
  exact ⟨[100], [(_, _)], ⟨⟨_, rfl, .osl (FrzLL.map fun _ _ => encOVal_frz _)⟩, trivial⟩, .frz _ _ _ (.head _)⟩
def m_impl_listItem_within (a0 : (List Val)) : Option (List Val) :=
  some a0
theorem m_impl_listItem_within_ok : ∀ (a0 : (List Val)) (r : (List Val)), m_impl_listItem_within a0 = some r → Does Try.prog 173 [.sl true (a0.map encVal)] [] (ret (.sl true (r.map encVal))) := by
  intro a0 r h
  rw [m_impl_listItem_within] at h
  refine does_of_good tabOk Try.func173 rfl (by decide +kernel) (Nat.le_of_ble_eq_true rfl) fun c => ?_
  refine Good.le (σ' := ⟨4, [(0, .sl true (a0.map encVal))], []⟩) (Le.refl _) ?_
  refine good_seq fun K1 hK1 => ?_
  refine good_region ?_
  refine g_op rfl (ValOk.op (v_assign rfl rfl ?_)) 
  refine g_nil ?_
  refine hK1 _ ?_
  refine good_seq fun K2 hK2 => ?_
  refine good_region ?_
  refine g_op rfl (ValOk.op (v_move rfl rfl ?_)) 
  refine g_op rfl (ValOk.op (v_assign rfl rfl ?_)) 
  refine g_nil ?_
  refine hK2 _ ?_
  refine Good.le (σ' := ⟨4, [(2, _)], []⟩) (le_w [] rfl ⟨⟨_, rfl, .refl _⟩, trivial⟩ trivial (by decide)) ?_
  refine Good.le (σ' := ⟨4, [(2, .sl true (a0.map encVal))], []⟩) (le_w [] rfl ⟨⟨_, rfl, .refl _⟩, trivial⟩ trivial (by decide)) ?_
  refine good_ret ?_
  obtain rfl := Option.some.inj h
  exact endQ_ret (h' := []) [] (.tmp rfl (.nil)) trivial (by decide) ⟨rfl, rfl⟩
def m_impl_treeItem_within (a0 : GTreeItem) : Option (List Val) :=
  some a0.list
theorem m_impl_treeItem_within_ok : ∀ (a0 : GTreeItem) (r : (List Val)), m_impl_treeItem_within a0 = some r → Does Try.prog 174 [.agg [.sl false (a0.names.map encS), .sl true (a0.list.map encVal)]] [] (ret (.sl true (r.map encVal))) := by
  intro a0 r h
  rw [m_impl_treeItem_within] at h
  refine does_of_good tabOk Try.func174 rfl (by decide +kernel) (Nat.le_of_ble_eq_true rfl) fun c => ?_
  refine Good.le (σ' := ⟨5, [(0, .agg [.sl false (a0.names.map encS), .sl true (a0.list.map encVal)])], []⟩) (Le.refl _) ?_
  refine good_seq fun K1 hK1 => ?_
  refine good_region ?_
  refine g_op rfl (o_box (k := 11) tabOk rfl rfl rfl rfl rfl ?_)
  intro b1
  refine g_op rfl (ValOk.op (v_assign rfl rfl ?_)) 
  refine g_nil ?_
  refine hK1 _ ?_
  refine Good.le (σ' := ⟨5, [(1, _), (2, _)], [(11, (_, _))]⟩) (le_w [some 11] rfl ⟨⟨_, rfl, .refl _⟩, ⟨⟨_, rfl, .refl _⟩, trivial⟩⟩ ⟨⟨_, rfl, .refl _⟩, trivial⟩ (by decide)) ?_
  refine good_seq fun K2 hK2 => ?_
  refine good_region ?_
  refine g_op rfl (ValOk.op (v_fieldP tabOk rfl tfoff140_1 rfl ?_)) 
  refine g_op rfl (ValOk.op (v_loadP tabOk rfl rfl tsize28 tagg28 rfl rfl rfl rfl ?_)) 
  refine g_op rfl (ValOk.op (v_assign rfl rfl ?_)) 
  refine g_nil ?_
  refine hK2 _ ?_
  refine Good.le (σ' := ⟨5, [(2, _)], []⟩) (le_w [] rfl ⟨⟨_, rfl, .refl _⟩, trivial⟩ trivial (by decide)) ?_
  refine Good.le (σ' := ⟨5, [(2, .sl true (a0.list.map encVal))], []⟩) (le_w [] rfl ⟨⟨_, rfl, .refl _⟩, trivial⟩ trivial (by decide)) ?_
  refine good_ret ?_
  obtain rfl := Option.some.inj h
  exact endQ_ret (h' := []) [] (.tmp rfl (.nil)) trivial (by decide) ⟨rfl, rfl⟩
mutual
def m_impl_fitsIn_l1 : Nat → Int → Bool → (List Val) → Int → Option (Lp Unit Bool)
  | 0, _, _, _, _ => none
  | k + 1, a1, a2, y2, x1 =>
    if x1 < (y2.length : Int) then
      if (0 : Int) ≤ x1 ∧ x1 < (y2.length : Int) then
        (m_impl_fitsIn k (ix y2 x1) (IntKind.wrap .i64 (a1 - 1)) a2).bind fun y3 =>
        if y3 = true then
          m_impl_fitsIn_l1 k a1 a2 y2 (IntKind.wrap .i64 (x1 + 1))
        else
          (some false).bind fun z =>
          some (Lp.ret z)
      else none
    else
      some (Lp.go ())
def m_impl_fitsIn : Nat → Val → Int → Bool → Option Bool
  | 0, _, _, _ => none
  | k + 1, a0, a1, a2 =>
    if a1 < 1 then
      some false
    else
      (m_impl_itemOf k a0).bind fun y1 =>
      if (GI110.isNil y1) = true then
        some false
      else
        if (GI110.is112 y1) = true then
          some a2
        else
          if (GI110.is113 y1) = true then
            some a2
          else
            ((match (y1 : GI110) with | .nil => none | .c112 v => m_impl_varItem_within v | .c113 v => m_impl_wordItem_within v | .c134 => m_impl_nullItem_within () | .c135 v => m_impl_boolItem_within v | .c136 v => m_impl_numItem_within v | .c137 v => m_impl_textItem_within v | .c138 v => m_impl_listItem_within v | .c140 v => m_impl_treeItem_within v)).bind fun y2 =>
            (m_impl_fitsIn_l1 k a1 a2 y2 0).bind fun o1 =>
            o1.then fun s1 =>
    some true
end
def P_m_impl_fitsIn (k : Nat) : Prop := ∀ (a0 : Val) (a1 : Int) (a2 : Bool) (r : Bool), m_impl_fitsIn k a0 a1 a2 = some r → Does Try.prog 72 [.agg [.int .i64 a0.kind, .int .i64 a0.num, .str a0.text, .sl true (a0.list.map encVal), .sl false (a0.names.map encS)], .int .i64 a1, .bool a2] [] (ret (.bool r))
theorem m_impl_fitsIn_step (k : Nat) (ih : ∀ m, m < k → P_m_impl_fitsIn m) : P_m_impl_fitsIn k := by
  intro a0 a1 a2 r h
  obtain ⟨k, rfl⟩ : ∃ k', k = k' + 1 := by cases k with | zero => (rw [m_impl_fitsIn] at h; cases h) | succ k' => exact ⟨k', rfl⟩
  rw [m_impl_fitsIn] at h
  refine does_of_good tabOk Try.func72 rfl (by decide +kernel) (Nat.le_of_ble_eq_true rfl) fun c => ?_
  refine Good.le (σ' := ⟨38, [(0, .agg [.int .i64 a0.kind, .int .i64 a0.num, .str a0.text, .sl true (a0.list.map encVal), .sl false (a0.names.map encS)]), (1, .int .i64 a1), (2, .bool a2)], []⟩) (Le.refl _) ?_
  refine good_seq fun K1 hK1 => ?_
  refine good_region ?_
  refine g_op rfl (o_box (k := 13) tabOk rfl rfl rfl rfl rfl ?_)
  intro b1
  refine g_op rfl (ValOk.op (v_assign rfl rfl ?_)) 
  refine g_nil ?_
  refine hK1 _ ?_
  refine Good.le (σ' := ⟨38, [(1, _), (2, _), (3, _), (6, _)], [(13, (_, _))]⟩) (le_w [some 13] rfl ⟨⟨_, rfl, .refl _⟩, ⟨⟨_, rfl, .refl _⟩, ⟨⟨_, rfl, .refl _⟩, ⟨⟨_, rfl, .refl _⟩, trivial⟩⟩⟩⟩ ⟨⟨_, rfl, .refl _⟩, trivial⟩ (by decide)) ?_
  refine good_seq fun K2 hK2 => ?_
  refine good_seq fun K3 hK3 => ?_
  refine good_region ?_
  refine g_op rfl (ValOk.op (v_move rfl rfl ?_)) 
  refine g_op rfl (ValOk.op (v_bin rfl rfl rfl rfl ?_)) 
  refine g_nil ?_
  refine hK3 _ ?_
  refine Good.le (σ' := ⟨38, [(1, _), (2, _), (3, _), (6, _), (11, _)], [(13, (_, _))]⟩) (le_w [some 13] rfl ⟨⟨_, rfl, .refl _⟩, ⟨⟨_, rfl, .refl _⟩, ⟨⟨_, rfl, .refl _⟩, ⟨⟨_, rfl, .refl _⟩, ⟨⟨_, rfl, .refl _⟩, trivial⟩⟩⟩⟩⟩ ⟨⟨_, rfl, .refl _⟩, trivial⟩ (by decide)) ?_
  refine good_cond rfl (fun hc1 => ?_) (fun hc1 => ?_)
  · replace h := ifT h (dT hc1)
    refine good_seq fun K4 hK4 => ?_
    refine good_region ?_
    refine g_op rfl (ValOk.op (v_assign rfl rfl ?_)) 
    refine g_nil ?_
    refine hK4 _ ?_
    refine Good.le (σ' := ⟨38, [(1, _), (2, _), (3, _), (6, _)], [(13, (_, _))]⟩) (le_w [some 13] rfl ⟨⟨_, rfl, .refl _⟩, ⟨⟨_, rfl, .refl _⟩, ⟨⟨_, rfl, .refl _⟩, ⟨⟨_, rfl, .refl _⟩, trivial⟩⟩⟩⟩ ⟨⟨_, rfl, .refl _⟩, trivial⟩ (by decide)) ?_
    refine Good.le (σ' := ⟨38, [(6, .bool false)], []⟩) (le_w [] rfl ⟨⟨_, rfl, .refl _⟩, trivial⟩ trivial (by decide)) ?_
    refine good_ret ?_
    obtain rfl := Option.some.inj h
    refine thenQ_ret ?_
    exact endQ_ret (h' := []) [] (.tmp rfl (.nil)) trivial (by decide) ⟨rfl, rfl⟩
  · replace h := ifF h (dF hc1)
    refine good_skip ?_
    refine hK2 _ ?_
    refine Good.le (σ' := ⟨38, [(1, _), (2, _), (3, _), (6, _)], [(13, (_, _))]⟩) (le_w [some 13] rfl ⟨⟨_, rfl, .refl _⟩, ⟨⟨_, rfl, .refl _⟩, ⟨⟨_, rfl, .refl _⟩, ⟨⟨_, rfl, .refl _⟩, trivial⟩⟩⟩⟩ ⟨⟨_, rfl, .refl _⟩, trivial⟩ (by decide)) ?_
    refine good_seq fun K5 hK5 => ?_
    refine good_region ?_
    refine g_op rfl (ValOk.op (v_loadP tabOk rfl rfl tsize30 tagg30 rfl rfl rfl rfl ?_)) 
    obtain ⟨y1, hy1, h⟩ := bnd h
    refine g_op rfl (o_callR [] [] (core_value rfl rfl) (m_impl_itemOf_ok k a0 _ hy1) trivial (.cons (.refl _) (.nil)) (.inl rfl) rfl ?_)
    refine g_op rfl (ValOk.op (v_assign rfl rfl ?_)) 
    refine g_nil ?_
    refine hK5 _ ?_
    refine Good.le (σ' := ⟨38, [(1, _), (2, _), (6, _), (7, _)], []⟩) (le_w [] rfl ⟨⟨_, rfl, .refl _⟩, ⟨⟨_, rfl, .refl _⟩, ⟨⟨_, rfl, .refl _⟩, ⟨⟨_, rfl, .refl _⟩, trivial⟩⟩⟩⟩ trivial (by decide)) ?_
    refine good_seq fun K6 hK6 => ?_
    refine good_seq fun K7 hK7 => ?_
    refine good_region ?_
    refine g_op rfl (ValOk.op (v_move rfl rfl ?_)) 
    refine g_nil ?_
    refine hK7 _ ?_
    refine good_block ?_
    refine good_seq fun K8 hK8 => ?_
    refine good_region ?_
    refine g_op rfl (ValOk.op (v_splitI (r := .bool (GI110.isNil y1)) (fun hK => by revert hK; generalize y1 = z; intro hK; cases z <;> exact v_binT tabOk rfl rfl (by simp [binT, eqr, isConstO, GI110.isNil, encGI110]) rfl hK) ?_)) 
    refine g_nil ?_
    refine hK8 _ ?_
    refine good_cond rfl (fun hc2 => ?_) (fun hc2 => ?_)
    · replace h := ifT h hc2
      refine good_seq fun K9 hK9 => ?_
      refine good_region ?_
      refine g_op rfl (ValOk.op (v_assign rfl rfl ?_)) 
      refine g_nil ?_
      refine hK9 _ ?_
      refine Good.le (σ' := ⟨38, [(1, _), (2, _), (6, _), (7, _)], []⟩) (le_w [] rfl ⟨⟨_, rfl, .refl _⟩, ⟨⟨_, rfl, .refl _⟩, ⟨⟨_, rfl, .refl _⟩, ⟨⟨_, rfl, .refl _⟩, trivial⟩⟩⟩⟩ trivial (by decide)) ?_
      refine Good.le (σ' := ⟨38, [(6, .bool false)], []⟩) (le_w [] rfl ⟨⟨_, rfl, .refl _⟩, trivial⟩ trivial (by decide)) ?_
      refine good_ret ?_
      obtain rfl := Option.some.inj h
      refine blockQ_ret ?_
      refine thenQ_ret ?_
      exact endQ_ret (h' := []) [] (.tmp rfl (.nil)) trivial (by decide) ⟨rfl, rfl⟩
    · replace h := bF h hc2
      refine good_seq fun K10 hK10 => ?_
      refine good_region ?_
      refine g_op rfl (ValOk.op (v_splitI (r := .tup [.str (GI110.as112 y1), .bool (GI110.is112 y1)]) (fun hK => by revert hK; generalize y1 = z; intro hK; cases z with | c112 v => exact v_assertY tabOk rfl tkind112 rfl rfl hK | c113 v => exact v_assertN tabOk rfl rfl tkind112 rfl tzero112 tagg112 rfl rfl hK | c134 => exact v_assertN tabOk rfl rfl tkind112 rfl tzero112 tagg112 rfl rfl hK | c135 v => exact v_assertN tabOk rfl rfl tkind112 rfl tzero112 tagg112 rfl rfl hK | c136 v => exact v_assertN tabOk rfl rfl tkind112 rfl tzero112 tagg112 rfl rfl hK | c137 v => exact v_assertN tabOk rfl rfl tkind112 rfl tzero112 tagg112 rfl rfl hK | c138 v => exact v_assertN tabOk rfl rfl tkind112 rfl tzero112 tagg112 rfl rfl hK | c140 v => exact v_assertN tabOk rfl rfl tkind112 rfl tzero112 tagg112 rfl rfl hK | nil => exact v_assert0 tabOk rfl tkind112 rfl tzero112 tagg112 rfl rfl hK) ?_)) 
      refine g_op rfl (ValOk.op (v_extract rfl rfl rfl ?_)) 
      refine g_op rfl (ValOk.op (v_extract rfl rfl rfl ?_)) 
      refine g_op rfl (ValOk.op (v_splitI (r := .tup [.str (GI110.as113 y1), .bool (GI110.is113 y1)]) (fun hK => by revert hK; generalize y1 = z; intro hK; cases z with | c112 v => exact v_assertN tabOk rfl rfl tkind113 rfl tzero113 tagg113 rfl rfl hK | c113 v => exact v_assertY tabOk rfl tkind113 rfl rfl hK | c134 => exact v_assertN tabOk rfl rfl tkind113 rfl tzero113 tagg113 rfl rfl hK | c135 v => exact v_assertN tabOk rfl rfl tkind113 rfl tzero113 tagg113 rfl rfl hK | c136 v => exact v_assertN tabOk rfl rfl tkind113 rfl tzero113 tagg113 rfl rfl hK | c137 v => exact v_assertN tabOk rfl rfl tkind113 rfl tzero113 tagg113 rfl rfl hK | c138 v => exact v_assertN tabOk rfl rfl tkind113 rfl tzero113 tagg113 rfl rfl hK | c140 v => exact v_assertN tabOk rfl rfl tkind113 rfl tzero113 tagg113 rfl rfl hK | nil => exact v_assert0 tabOk rfl tkind113 rfl tzero113 tagg113 rfl rfl hK) ?_)) 
      refine g_op rfl (ValOk.op (v_extract rfl rfl rfl ?_)) 
      refine g_op rfl (ValOk.op (v_extract rfl rfl rfl ?_)) 
      rcases bsplit ((GI110.is112 y1)) with hg1 | hg1
      · replace h := ifT h hg1
        refine g_op rfl (ValOk.op (v_pickT rfl hg1 rfl rfl ?_)) 
        refine g_nil ?_
        refine hK10 _ ?_
        refine Good.le (σ' := ⟨38, [(1, _), (2, _), (6, _), (7, _), (22, _)], []⟩) (le_w [] rfl ⟨⟨_, rfl, .refl _⟩, ⟨⟨_, rfl, .refl _⟩, ⟨⟨_, rfl, .refl _⟩, ⟨⟨_, rfl, .refl _⟩, ⟨⟨_, rfl, .refl _⟩, trivial⟩⟩⟩⟩⟩ trivial (by decide)) ?_
        refine good_cond (b := true) rfl (fun hc => ?_) (fun hc => Bool.noConfusion hc)
        refine good_seq fun K11 hK11 => ?_
        refine good_region ?_
        refine g_op rfl (ValOk.op (v_move rfl rfl ?_)) 
        refine g_op rfl (ValOk.op (v_assign rfl rfl ?_)) 
        refine g_nil ?_
        refine hK11 _ ?_
        refine Good.le (σ' := ⟨38, [(1, _), (2, _), (6, _), (7, _)], []⟩) (le_w [] rfl ⟨⟨_, rfl, .refl _⟩, ⟨⟨_, rfl, .refl _⟩, ⟨⟨_, rfl, .refl _⟩, ⟨⟨_, rfl, .refl _⟩, trivial⟩⟩⟩⟩ trivial (by decide)) ?_
        refine Good.le (σ' := ⟨38, [(6, .bool a2)], []⟩) (le_w [] rfl ⟨⟨_, rfl, .refl _⟩, trivial⟩ trivial (by decide)) ?_
        refine good_ret ?_
        obtain rfl := Option.some.inj h
        refine blockQ_ret ?_
        refine thenQ_ret ?_
        exact endQ_ret (h' := []) [] (.tmp rfl (.nil)) trivial (by decide) ⟨rfl, rfl⟩
      · replace h := bF h hg1
        refine g_op rfl (ValOk.op (v_pickF rfl hg1 rfl rfl ?_)) 
        refine g_nil ?_
        refine hK10 _ ?_
        refine Good.le (σ' := ⟨38, [(1, _), (2, _), (6, _), (7, _), (22, _)], []⟩) (le_w [] rfl ⟨⟨_, rfl, .refl _⟩, ⟨⟨_, rfl, .refl _⟩, ⟨⟨_, rfl, .refl _⟩, ⟨⟨_, rfl, .refl _⟩, ⟨⟨_, rfl, .refl _⟩, trivial⟩⟩⟩⟩⟩ trivial (by decide)) ?_
        refine good_cond rfl (fun hc3 => ?_) (fun hc3 => ?_)
        · replace h := ifT h hc3
          refine good_seq fun K12 hK12 => ?_
          refine good_region ?_
          refine g_op rfl (ValOk.op (v_move rfl rfl ?_)) 
          refine g_op rfl (ValOk.op (v_assign rfl rfl ?_)) 
          refine g_nil ?_
          refine hK12 _ ?_
          refine Good.le (σ' := ⟨38, [(1, _), (2, _), (6, _), (7, _)], []⟩) (le_w [] rfl ⟨⟨_, rfl, .refl _⟩, ⟨⟨_, rfl, .refl _⟩, ⟨⟨_, rfl, .refl _⟩, ⟨⟨_, rfl, .refl _⟩, trivial⟩⟩⟩⟩ trivial (by decide)) ?_
          refine Good.le (σ' := ⟨38, [(6, .bool a2)], []⟩) (le_w [] rfl ⟨⟨_, rfl, .refl _⟩, trivial⟩ trivial (by decide)) ?_
          refine good_ret ?_
          obtain rfl := Option.some.inj h
          refine blockQ_ret ?_
          refine thenQ_ret ?_
          exact endQ_ret (h' := []) [] (.tmp rfl (.nil)) trivial (by decide) ⟨rfl, rfl⟩
        · replace h := bF h hc3
          refine good_skip ?_
          refine hK6 _ ?_
          refine Good.le (σ' := ⟨38, [(1, _), (2, _), (6, _), (7, _)], []⟩) (le_w [] rfl ⟨⟨_, rfl, .refl _⟩, ⟨⟨_, rfl, .refl _⟩, ⟨⟨_, rfl, .refl _⟩, ⟨⟨_, rfl, .refl _⟩, trivial⟩⟩⟩⟩ trivial (by decide)) ?_
          refine good_seq fun K13 hK13 => ?_
          refine good_seq fun K14 hK14 => ?_
          refine good_region ?_
          refine g_op rfl (ValOk.op (v_move rfl rfl ?_)) 
          obtain ⟨y2, hy2, h⟩ := bnd h
          refine g_op rfl (o_splitI (r := .sl true (y2.map encVal)) (fun hK => by revert hK hy2; generalize y1 = z; intro hy hK; cases z with | nil => cases hy | c112 v => exact o_callR [] [] (core_invoke tabOk rfl rfl tmeth112_167 tkind112 rfl) (m_impl_varItem_within_okF v _ hy) trivial (.cons (.refl _) .nil) (.inl rfl) rfl hK | c113 v => exact o_callR [] [] (core_invoke tabOk rfl rfl tmeth113_168 tkind113 rfl) (m_impl_wordItem_within_okF v _ hy) trivial (.cons (.refl _) .nil) (.inl rfl) rfl hK | c134 => exact o_callR [] [] (core_invoke tabOk rfl rfl tmeth134_169 tkind134 rfl) (m_impl_nullItem_within_okF () _ hy) trivial (.cons (.refl _) .nil) (.inl rfl) rfl hK | c135 v => exact o_callR [] [] (core_invoke tabOk rfl rfl tmeth135_170 tkind135 rfl) (m_impl_boolItem_within_okF v _ hy) trivial (.cons (.refl _) .nil) (.inl rfl) rfl hK | c136 v => exact o_callR [] [] (core_invoke tabOk rfl rfl tmeth136_171 tkind136 rfl) (m_impl_numItem_within_okF v _ hy) trivial (.cons (.refl _) .nil) (.inl rfl) rfl hK | c137 v => exact o_callR [] [] (core_invoke tabOk rfl rfl tmeth137_172 tkind137 rfl) (m_impl_textItem_within_okF v _ hy) trivial (.cons (.refl _) .nil) (.inl rfl) rfl hK | c138 v => exact o_callR [] [] (core_invoke tabOk rfl rfl tmeth138_173 tkind138 rfl) (m_impl_listItem_within_ok v _ hy) trivial (.cons (.refl _) .nil) (.inl rfl) rfl hK | c140 v => exact o_callR [] [] (core_invoke tabOk rfl rfl tmeth140_174 tkind140 rfl) (m_impl_treeItem_within_ok v _ hy) trivial (.cons (.refl _) .nil) (.inl rfl) rfl hK) ?_)
          refine g_op rfl (ValOk.op (v_lenM (l := y2) (f := encVal) tabOk rfl rfl telem28 rfl ?_)) 
          refine g_op rfl (ValOk.op (v_move rfl rfl ?_)) 
          refine g_nil ?_
          refine hK14 _ ?_
          refine Good.le (σ' := ⟨38, [(1, _), (2, _), (6, _), (25, _), (26, _), (27, _)], []⟩) (le_w [] rfl ⟨⟨_, rfl, .refl _⟩, ⟨⟨_, rfl, .refl _⟩, ⟨⟨_, rfl, .refl _⟩, ⟨⟨_, rfl, .refl _⟩, ⟨⟨_, rfl, .refl _⟩, ⟨⟨_, rfl, .refl _⟩, trivial⟩⟩⟩⟩⟩⟩ trivial (by decide)) ?_
          obtain ⟨o1, ho1, hJ1⟩ := bnd h
          have hw1 : ∀ (s1 : Unit), o1 = Lp.go s1 → ∀ σ', Le σ' ⟨38, [(6, .bool false)], []⟩ → K13 σ' := by
            intro s1 e1 σ' hle1
            subst e1
            refine hK13 _ (Good.le hle1 ?_)
            replace h := hJ1
            refine good_seq fun K15 hK15 => ?_
            refine good_region ?_
            refine g_op rfl (ValOk.op (v_assign rfl rfl ?_)) 
            refine g_nil ?_
            refine hK15 _ ?_
            refine Good.le (σ' := ⟨38, [(6, .bool true)], []⟩) (le_w [] rfl ⟨⟨_, rfl, .refl _⟩, trivial⟩ trivial (by decide)) ?_
            refine good_ret ?_
            obtain rfl := Option.some.inj h
            exact endQ_ret (h' := []) [] (.tmp rfl (.nil)) trivial (by decide) ⟨rfl, rfl⟩
          replace h := ho1
          refine good_block ?_
          refine good_loopf (fun p : Int => ⟨38, [(1, .int .i64 a1), (2, .bool a2), (6, .bool false), (25, .sl true (y2.map encVal)), (26, .int .i64 (y2.length : Int)), (27, .int .i64 p)], []⟩) (fun m p => m < k + 1 ∧ m_impl_fitsIn_l1 m a1 a2 y2 p = some o1) k (0) (le_w [] rfl ⟨⟨_, rfl, .refl _⟩, ⟨⟨_, rfl, .refl _⟩, ⟨⟨_, rfl, .refl _⟩, ⟨⟨_, rfl, .refl _⟩, ⟨⟨_, rfl, .refl _⟩, ⟨⟨_, rfl, .refl _⟩, trivial⟩⟩⟩⟩⟩⟩ trivial (by decide)) ⟨by omega, h⟩ ?_
          rintro m1 x1 ⟨hm, h⟩
          replace h : m_impl_fitsIn_l1 m1 a1 a2 y2 x1 = some o1 := h
          refine Good.le (σ' := ⟨38, [(1, .int .i64 a1), (2, .bool a2), (6, .bool false), (25, .sl true (y2.map encVal)), (26, .int .i64 (y2.length : Int)), (27, .int .i64 x1)], []⟩) (Le.refl _) ?_
          obtain ⟨m1, rfl⟩ : ∃ m', m1 = m' + 1 := by cases m1 with | zero => (rw [m_impl_fitsIn_l1] at h; cases h) | succ m' => exact ⟨m', rfl⟩
          rw [m_impl_fitsIn_l1] at h
          refine good_seq fun K16 hK16 => ?_
          refine good_region ?_
          refine g_op rfl (ValOk.op (v_bin rfl rfl rfl rfl ?_)) 
          refine g_nil ?_
          refine hK16 _ ?_
          refine good_seq fun K17 hK17 => ?_
          refine good_cond rfl (fun hc4 => ?_) (fun hc4 => ?_)
          · replace h := ifT h (dT hc4)
            refine good_skip ?_
            refine hK17 _ ?_
            refine Good.le (σ' := ⟨38, [(1, _), (2, _), (6, _), (25, _), (26, _), (27, _)], []⟩) (le_w [] rfl ⟨⟨_, rfl, .refl _⟩, ⟨⟨_, rfl, .refl _⟩, ⟨⟨_, rfl, .refl _⟩, ⟨⟨_, rfl, .refl _⟩, ⟨⟨_, rfl, .refl _⟩, ⟨⟨_, rfl, .refl _⟩, trivial⟩⟩⟩⟩⟩⟩ trivial (by decide)) ?_
            refine good_seq fun K18 hK18 => ?_
            refine good_block ?_
            refine good_seq fun K19 hK19 => ?_
            refine good_region ?_
            obtain ⟨hb1, h⟩ := ifS h
            refine g_op rfl (ValOk.op (v_idxM tabOk rfl rfl telem28 tsize30 hb1 (encVal_eq _) rfl rfl ?_)) 
            refine g_op rfl (ValOk.op (v_loadE tabOk rfl tsize30 tagg30 rfl rfl rfl ?_)) 
            refine g_op rfl (o_alloc (k := 19) tabOk tzero30 rfl rfl ?_)
            intro b2
            refine g_op rfl (o_storeP tabOk (cs' := [.int .i64 ((ix y2 x1).kind), .int .i64 ((ix y2 x1).num), .str ((ix y2 x1).text), .sl true (((ix y2 x1).list).map encVal), .sl false (((ix y2 x1).names).map encS)]) rfl rfl tsize30 rfl rfl rfl (Nat.le_of_ble_eq_true rfl) rfl rfl rfl ?_)
            refine g_nil ?_
            refine hK19 _ ?_
            refine Good.le (σ' := ⟨38, [(1, _), (2, _), (6, _), (9, _), (25, _), (26, _), (27, _)], [(19, (_, _))]⟩) (le_w [some 19] rfl ⟨⟨_, rfl, .refl _⟩, ⟨⟨_, rfl, .refl _⟩, ⟨⟨_, rfl, .refl _⟩, ⟨⟨_, rfl, .refl _⟩, ⟨⟨_, rfl, .refl _⟩, ⟨⟨_, rfl, .refl _⟩, ⟨⟨_, rfl, .refl _⟩, trivial⟩⟩⟩⟩⟩⟩⟩ ⟨⟨_, rfl, .refl _⟩, trivial⟩ (by decide)) ?_
            refine good_seq fun K20 hK20 => ?_
            refine good_region ?_
            refine g_op rfl (ValOk.op (v_loadP tabOk rfl rfl tsize30 tagg30 rfl rfl rfl rfl ?_)) 
            refine g_op rfl (ValOk.op (v_move rfl rfl ?_)) 
            refine g_op rfl (ValOk.op (v_bin rfl rfl rfl rfl ?_)) 
            refine g_op rfl (ValOk.op (v_move rfl rfl ?_)) 
            obtain ⟨y3, hy3, h⟩ := bnd h
            refine g_op rfl (o_callR [] [] (core_value rfl rfl) ((ih m1 (by omega)) (ix y2 x1) (IntKind.wrap .i64 (a1 - 1)) a2 _ hy3) trivial (.cons (.refl _) (.cons (.refl _) (.cons (.refl _) (.nil)))) (.inl rfl) rfl ?_)
            refine g_op rfl (ValOk.op (v_not rfl rfl ?_)) 
            refine g_nil ?_
            refine hK20 _ ?_
            refine Good.le (σ' := ⟨38, [(1, _), (2, _), (6, _), (25, _), (26, _), (27, _), (36, _)], []⟩) (le_w [] rfl ⟨⟨_, rfl, .refl _⟩, ⟨⟨_, rfl, .refl _⟩, ⟨⟨_, rfl, .refl _⟩, ⟨⟨_, rfl, .refl _⟩, ⟨⟨_, rfl, .refl _⟩, ⟨⟨_, rfl, .refl _⟩, ⟨⟨_, rfl, .refl _⟩, trivial⟩⟩⟩⟩⟩⟩⟩ trivial (by decide)) ?_
            refine good_cond rfl (fun hc5 => ?_) (fun hc5 => ?_)
            · replace h := bF h (nT hc5)
              refine good_seq fun K21 hK21 => ?_
              refine good_region ?_
              refine g_op rfl (ValOk.op (v_assign rfl rfl ?_)) 
              refine g_nil ?_
              refine hK21 _ ?_
              refine Good.le (σ' := ⟨38, [(1, _), (2, _), (6, _), (25, _), (26, _), (27, _)], []⟩) (le_w [] rfl ⟨⟨_, rfl, .refl _⟩, ⟨⟨_, rfl, .refl _⟩, ⟨⟨_, rfl, .refl _⟩, ⟨⟨_, rfl, .refl _⟩, ⟨⟨_, rfl, .refl _⟩, ⟨⟨_, rfl, .refl _⟩, trivial⟩⟩⟩⟩⟩⟩ trivial (by decide)) ?_
              refine Good.le (σ' := ⟨38, [(6, .bool false)], []⟩) (le_w [] rfl ⟨⟨_, rfl, .refl _⟩, trivial⟩ trivial (by decide)) ?_
              refine good_ret ?_
              replace h := unret h hJ1
              obtain rfl := Option.some.inj h
              refine blockQ_ret ?_
              refine thenQ_ret ?_
              refine thenQ_ret ?_
              refine blockQ_ret ?_
              refine thenQ_ret ?_
              exact endQ_ret (h' := []) [] (.tmp rfl (.nil)) trivial (by decide) ⟨rfl, rfl⟩
            · replace h := ifT h (nF hc5)
              refine good_skip ?_
              refine hK18 _ ?_
              refine Good.le (σ' := ⟨38, [(1, _), (2, _), (6, _), (25, _), (26, _), (27, _)], []⟩) (le_w [] rfl ⟨⟨_, rfl, .refl _⟩, ⟨⟨_, rfl, .refl _⟩, ⟨⟨_, rfl, .refl _⟩, ⟨⟨_, rfl, .refl _⟩, ⟨⟨_, rfl, .refl _⟩, ⟨⟨_, rfl, .refl _⟩, trivial⟩⟩⟩⟩⟩⟩ trivial (by decide)) ?_
              refine good_region ?_
              refine g_op rfl (ValOk.op (v_bin rfl rfl rfl rfl ?_)) 
              refine g_op rfl (ValOk.op (v_move rfl rfl ?_)) 
              refine g_nil ?_
              exact round_mk m1 (IntKind.wrap .i64 (x1 + 1)) (Nat.lt_succ_self _) ⟨by omega, h⟩ (le_w [] rfl ⟨⟨_, rfl, .refl _⟩, ⟨⟨_, rfl, .refl _⟩, ⟨⟨_, rfl, .refl _⟩, ⟨⟨_, rfl, .refl _⟩, ⟨⟨_, rfl, .refl _⟩, ⟨⟨_, rfl, .refl _⟩, trivial⟩⟩⟩⟩⟩⟩ trivial (by decide))
          · replace h := ifF h (dF hc4)
            refine good_exit ?_
            exact hw1 () (Option.some.inj h).symm _ (le_w [] rfl ⟨⟨_, rfl, .refl _⟩, trivial⟩ trivial (by decide))
theorem m_impl_fitsIn_all (k : Nat) : P_m_impl_fitsIn k := by
  induction k using Nat.strongRecOn with
  | _ k ih => exact m_impl_fitsIn_step k ih
theorem m_impl_fitsIn_ok (k : Nat) : ∀ (a0 : Val) (a1 : Int) (a2 : Bool) (r : Bool), m_impl_fitsIn k a0 a1 a2 = some r → Does Try.prog 72 [.agg [.int .i64 a0.kind, .int .i64 a0.num, .str a0.text, .sl true (a0.list.map encVal), .sl false (a0.names.map encS)], .int .i64 a1, .bool a2] [] (ret (.bool r)) := (m_impl_fitsIn_all k)
def m_impl_ValueOk (k : Nat) (a0 : Val) : Option Bool :=
  (m_impl_fitsIn k a0 6 false).bind fun y1 =>
  some y1
theorem m_impl_ValueOk_ok (k : Nat) : ∀ (a0 : Val) (r : Bool), m_impl_ValueOk k a0 = some r → Does Try.prog 34 [.agg [.int .i64 a0.kind, .int .i64 a0.num, .str a0.text, .sl true (a0.list.map encVal), .sl false (a0.names.map encS)]] [] (ret (.bool r)) := by
  intro a0 r h
  rw [m_impl_ValueOk] at h
  refine does_of_good tabOk Try.func34 rfl (by decide +kernel) (Nat.le_of_ble_eq_true rfl) fun c => ?_
  refine Good.le (σ' := ⟨5, [(0, .agg [.int .i64 a0.kind, .int .i64 a0.num, .str a0.text, .sl true (a0.list.map encVal), .sl false (a0.names.map encS)])], []⟩) (Le.refl _) ?_
  refine good_seq fun K1 hK1 => ?_
  refine good_region ?_
  refine g_op rfl (o_box (k := 11) tabOk rfl rfl rfl rfl rfl ?_)
  intro b1
  refine g_op rfl (ValOk.op (v_assign rfl rfl ?_)) 
  refine g_nil ?_
  refine hK1 _ ?_
  refine Good.le (σ' := ⟨5, [(1, _), (2, _)], [(11, (_, _))]⟩) (le_w [some 11] rfl ⟨⟨_, rfl, .refl _⟩, ⟨⟨_, rfl, .refl _⟩, trivial⟩⟩ ⟨⟨_, rfl, .refl _⟩, trivial⟩ (by decide)) ?_
  refine good_seq fun K2 hK2 => ?_
  refine good_region ?_
  refine g_op rfl (ValOk.op (v_loadP tabOk rfl rfl tsize30 tagg30 rfl rfl rfl rfl ?_)) 
  obtain ⟨y1, hy1, h⟩ := bnd h
  refine g_op rfl (o_callR [] [] (core_value rfl rfl) (m_impl_fitsIn_ok k a0 6 false _ hy1) trivial (.cons (.refl _) (.cons (.refl _) (.cons (.refl _) (.nil)))) (.inl rfl) rfl ?_)
  refine g_op rfl (ValOk.op (v_assign rfl rfl ?_)) 
  refine g_nil ?_
  refine hK2 _ ?_
  refine Good.le (σ' := ⟨5, [(2, _)], []⟩) (le_w [] rfl ⟨⟨_, rfl, .refl _⟩, trivial⟩ trivial (by decide)) ?_
  refine Good.le (σ' := ⟨5, [(2, .bool y1)], []⟩) (le_w [] rfl ⟨⟨_, rfl, .refl _⟩, trivial⟩ trivial (by decide)) ?_
  refine good_ret ?_
  obtain rfl := Option.some.inj h
  exact endQ_ret (h' := []) [] (.tmp rfl (.nil)) trivial (by decide) ⟨rfl, rfl⟩
end Go.Proofs.Ytiaigcdckmpepaa
