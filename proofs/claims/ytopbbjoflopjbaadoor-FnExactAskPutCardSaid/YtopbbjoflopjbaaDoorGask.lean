/- What functions of this program answer, as plain functions; each theorem says that the code comes to just that. -/
import Derived.Test.YtopbbjoflopjbaaDoorDat
import Derived.Test.YtopbbjoflopjbaaDoorB13
import Derived.Test.YtopbbjoflopjbaaDoorDatO
import Derived.Test.YtopbbjoflopjbaaDoorB20
import Derived.Test.YtopbbjoflopjbaaDoorB22
/-! Functions of the program. -/
set_option linter.unusedVariables false
set_option maxRecDepth 100000
set_option maxHeartbeats 20000000
namespace Go.Proofs.YtopbbjoflopjbaaDoor
open Go.Bb
def m_impl_isFigure (a0 : Int) : Option Bool :=
  if 48 ≤ a0 then
    some (decide (a0 ≤ 57))
  else
    some false
theorem m_impl_isFigure_ok : ∀ (a0 : Int) (r : Bool), m_impl_isFigure a0 = some r → Does Tryd.prog 50 [.int .u8 a0] [] (ret (.bool r)) := by
  intro a0 r h
  rw [m_impl_isFigure] at h
  refine does_of_good tabOk Tryd.func50 rfl (by decide +kernel) (Nat.le_of_ble_eq_true rfl) fun c => ?_
  refine Good.le (σ' := ⟨9, [(0, .int .u8 a0)], []⟩) (Le.refl _) ?_
  refine good_seq fun K1 hK1 => ?_
  refine good_region ?_
  refine g_op rfl (ValOk.op (v_assign rfl rfl ?_)) 
  refine g_nil ?_
  refine hK1 _ ?_
  refine good_seq fun K2 hK2 => ?_
  refine good_region ?_
  refine g_op rfl (ValOk.op (v_move rfl rfl ?_)) 
  refine g_op rfl (ValOk.op (v_bin rfl rfl rfl rfl ?_)) 
  refine g_op rfl (ValOk.op (v_move rfl rfl ?_)) 
  rcases bsplit ((decide (48 ≤ a0))) with hg1 | hg1
  · replace h := ifT h (dT hg1)
    refine g_yes rfl rfl hg1 (ValOk.op (v_move rfl rfl ?_)) 
    refine g_yes rfl rfl hg1 (ValOk.op (v_bin rfl rfl rfl rfl ?_)) 
    refine g_op rfl (ValOk.op (v_pickT rfl hg1 rfl rfl ?_)) 
    refine g_op rfl (ValOk.op (v_assign rfl rfl ?_)) 
    refine g_nil ?_
    refine hK2 _ ?_
    refine Good.le (σ' := ⟨9, [(2, _)], []⟩) (le_w [] rfl ⟨⟨_, rfl, .refl _⟩, trivial⟩ trivial (by decide)) ?_
    refine Good.le (σ' := ⟨9, [(2, .bool (decide (a0 ≤ 57)))], []⟩) (le_w [] rfl ⟨⟨_, rfl, .refl _⟩, trivial⟩ trivial (by decide)) ?_
    refine good_ret ?_
    obtain rfl := Option.some.inj h
    exact endQ_ret (h' := []) [] (.tmp rfl (.nil)) trivial (by decide) ⟨rfl, rfl⟩
  · replace h := ifF h (dF hg1)
    refine g_no rfl rfl hg1 rfl ?_
    refine g_no rfl rfl hg1 rfl ?_
    refine g_op rfl (ValOk.op (v_pickF rfl hg1 rfl rfl ?_)) 
    refine g_op rfl (ValOk.op (v_assign rfl rfl ?_)) 
    refine g_nil ?_
    refine hK2 _ ?_
    refine Good.le (σ' := ⟨9, [(2, _)], []⟩) (le_w [] rfl ⟨⟨_, rfl, .refl _⟩, trivial⟩ trivial (by decide)) ?_
    refine Good.le (σ' := ⟨9, [(2, .bool false)], []⟩) (le_w [] rfl ⟨⟨_, rfl, .refl _⟩, trivial⟩ trivial (by decide)) ?_
    refine good_ret ?_
    obtain rfl := Option.some.inj h
    exact endQ_ret (h' := []) [] (.tmp rfl (.nil)) trivial (by decide) ⟨rfl, rfl⟩
def m_impl_isWordByte (a0 : Int) : Option Bool :=
  if 97 ≤ a0 then
    if a0 ≤ 122 then
      some true
    else
      if 65 ≤ a0 then
        if a0 ≤ 90 then
          some true
        else
          if a0 = 95 then
            some true
          else
            (m_impl_isFigure a0).bind fun y1 =>
            some y1
      else
        if a0 = 95 then
          some true
        else
          (m_impl_isFigure a0).bind fun y2 =>
          some y2
  else
    if 65 ≤ a0 then
      if a0 ≤ 90 then
        some true
      else
        if a0 = 95 then
          some true
        else
          (m_impl_isFigure a0).bind fun y3 =>
          some y3
    else
      if a0 = 95 then
        some true
      else
        (m_impl_isFigure a0).bind fun y4 =>
        some y4
theorem m_impl_isWordByte_ok : ∀ (a0 : Int) (r : Bool), m_impl_isWordByte a0 = some r → Does Tryd.prog 51 [.int .u8 a0] [] (ret (.bool r)) := by
  intro a0 r h
  rw [m_impl_isWordByte] at h
  refine does_of_good tabOk Tryd.func51 rfl (by decide +kernel) (Nat.le_of_ble_eq_true rfl) fun c => ?_
  refine Good.le (σ' := ⟨25, [(0, .int .u8 a0)], []⟩) (Le.refl _) ?_
  refine good_seq fun K1 hK1 => ?_
  refine good_region ?_
  refine g_op rfl (ValOk.op (v_assign rfl rfl ?_)) 
  refine g_nil ?_
  refine hK1 _ ?_
  refine good_seq fun K2 hK2 => ?_
  refine good_region ?_
  refine g_op rfl (ValOk.op (v_move rfl rfl ?_)) 
  refine g_op rfl (ValOk.op (v_bin rfl rfl rfl rfl ?_)) 
  refine g_op rfl (ValOk.op (v_move rfl rfl ?_)) 
  rcases bsplit ((decide (97 ≤ a0))) with hg1 | hg1
  · replace h := ifT h (dT hg1)
    refine g_yes rfl rfl hg1 (ValOk.op (v_move rfl rfl ?_)) 
    refine g_yes rfl rfl hg1 (ValOk.op (v_bin rfl rfl rfl rfl ?_)) 
    refine g_op rfl (ValOk.op (v_pickT rfl hg1 rfl rfl ?_)) 
    refine g_op rfl (ValOk.op (v_move rfl rfl ?_)) 
    rcases bsplit ((decide (a0 ≤ 122))) with hg2 | hg2
    · replace h := ifT h (dT hg2)
      refine g_no rfl rfl hg2 rfl ?_
      refine g_no rfl rfl hg2 rfl ?_
      refine g_no rfl rfl hg2 rfl ?_
      refine g_und rfl rfl rfl ?_
      refine g_und rfl rfl rfl ?_
      refine g_no rfl rfl hg2 rfl ?_
      refine g_op rfl (ValOk.op (v_pickT rfl hg2 rfl rfl ?_)) 
      refine g_op rfl (ValOk.op (v_move rfl rfl ?_)) 
      refine g_no rfl rfl rfl rfl ?_
      refine g_no rfl rfl rfl rfl ?_
      refine g_op rfl (ValOk.op (v_pickT rfl rfl rfl rfl ?_)) 
      refine g_op rfl (ValOk.op (v_move rfl rfl ?_)) 
      refine g_no rfl rfl rfl rfl ?_
      refine g_no rfl rfl rfl rfl ?_
      refine g_op rfl (ValOk.op (v_pickT rfl rfl rfl rfl ?_)) 
      refine g_op rfl (ValOk.op (v_assign rfl rfl ?_)) 
      refine g_nil ?_
      refine hK2 _ ?_
      refine Good.le (σ' := ⟨25, [(2, _)], []⟩) (le_w [] rfl ⟨⟨_, rfl, .refl _⟩, trivial⟩ trivial (by decide)) ?_
      refine Good.le (σ' := ⟨25, [(2, .bool true)], []⟩) (le_w [] rfl ⟨⟨_, rfl, .refl _⟩, trivial⟩ trivial (by decide)) ?_
      refine good_ret ?_
      obtain rfl := Option.some.inj h
      exact endQ_ret (h' := []) [] (.tmp rfl (.nil)) trivial (by decide) ⟨rfl, rfl⟩
    · replace h := ifF h (dF hg2)
      refine g_yes rfl rfl hg2 (ValOk.op (v_move rfl rfl ?_)) 
      refine g_yes rfl rfl hg2 (ValOk.op (v_bin rfl rfl rfl rfl ?_)) 
      refine g_yes rfl rfl hg2 (ValOk.op (v_move rfl rfl ?_)) 
      rcases bsplit ((decide (65 ≤ a0))) with hg3 | hg3
      · replace h := ifT h (dT hg3)
        refine g_yes rfl rfl hg3 (ValOk.op (v_move rfl rfl ?_)) 
        refine g_yes rfl rfl hg3 (ValOk.op (v_bin rfl rfl rfl rfl ?_)) 
        refine g_yes rfl rfl hg2 (ValOk.op (v_pickT rfl hg3 rfl rfl ?_)) 
        refine g_op rfl (ValOk.op (v_pickF rfl hg2 rfl rfl ?_)) 
        refine g_op rfl (ValOk.op (v_move rfl rfl ?_)) 
        rcases bsplit ((decide (a0 ≤ 90))) with hg4 | hg4
        · replace h := ifT h (dT hg4)
          refine g_no rfl rfl hg4 rfl ?_
          refine g_no rfl rfl hg4 rfl ?_
          refine g_op rfl (ValOk.op (v_pickT rfl hg4 rfl rfl ?_)) 
          refine g_op rfl (ValOk.op (v_move rfl rfl ?_)) 
          refine g_no rfl rfl rfl rfl ?_
          refine g_no rfl rfl rfl rfl ?_
          refine g_op rfl (ValOk.op (v_pickT rfl rfl rfl rfl ?_)) 
          refine g_op rfl (ValOk.op (v_assign rfl rfl ?_)) 
          refine g_nil ?_
          refine hK2 _ ?_
          refine Good.le (σ' := ⟨25, [(2, _)], []⟩) (le_w [] rfl ⟨⟨_, rfl, .refl _⟩, trivial⟩ trivial (by decide)) ?_
          refine Good.le (σ' := ⟨25, [(2, .bool true)], []⟩) (le_w [] rfl ⟨⟨_, rfl, .refl _⟩, trivial⟩ trivial (by decide)) ?_
          refine good_ret ?_
          obtain rfl := Option.some.inj h
          exact endQ_ret (h' := []) [] (.tmp rfl (.nil)) trivial (by decide) ⟨rfl, rfl⟩
        · replace h := ifF h (dF hg4)
          refine g_yes rfl rfl hg4 (ValOk.op (v_move rfl rfl ?_)) 
          refine g_yes rfl rfl hg4 (ValOk.op (v_bin rfl rfl rfl rfl ?_)) 
          refine g_op rfl (ValOk.op (v_pickF rfl hg4 rfl rfl ?_)) 
          refine g_op rfl (ValOk.op (v_move rfl rfl ?_)) 
          rcases bsplit ((decide (a0 = 95))) with hg5 | hg5
          · replace h := ifT h (dT hg5)
            refine g_no rfl rfl hg5 rfl ?_
            refine g_no rfl rfl hg5 rfl ?_
            refine g_op rfl (ValOk.op (v_pickT rfl hg5 rfl rfl ?_)) 
            refine g_op rfl (ValOk.op (v_assign rfl rfl ?_)) 
            refine g_nil ?_
            refine hK2 _ ?_
            refine Good.le (σ' := ⟨25, [(2, _)], []⟩) (le_w [] rfl ⟨⟨_, rfl, .refl _⟩, trivial⟩ trivial (by decide)) ?_
            refine Good.le (σ' := ⟨25, [(2, .bool true)], []⟩) (le_w [] rfl ⟨⟨_, rfl, .refl _⟩, trivial⟩ trivial (by decide)) ?_
            refine good_ret ?_
            obtain rfl := Option.some.inj h
            exact endQ_ret (h' := []) [] (.tmp rfl (.nil)) trivial (by decide) ⟨rfl, rfl⟩
          · replace h := ifF h (dF hg5)
            refine g_yes rfl rfl hg5 (ValOk.op (v_move rfl rfl ?_)) 
            obtain ⟨y1, hy1, h⟩ := bnd h
            refine g_yes rfl rfl hg5 (o_callR [] [] (core_value rfl rfl) (m_impl_isFigure_ok a0 _ hy1) trivial (.cons (.refl _) (.nil)) (.inl rfl) rfl ?_)
            refine g_op rfl (ValOk.op (v_pickF rfl hg5 rfl rfl ?_)) 
            refine g_op rfl (ValOk.op (v_assign rfl rfl ?_)) 
            refine g_nil ?_
            refine hK2 _ ?_
            refine Good.le (σ' := ⟨25, [(2, _)], []⟩) (le_w [] rfl ⟨⟨_, rfl, .refl _⟩, trivial⟩ trivial (by decide)) ?_
            refine Good.le (σ' := ⟨25, [(2, .bool y1)], []⟩) (le_w [] rfl ⟨⟨_, rfl, .refl _⟩, trivial⟩ trivial (by decide)) ?_
            refine good_ret ?_
            obtain rfl := Option.some.inj h
            exact endQ_ret (h' := []) [] (.tmp rfl (.nil)) trivial (by decide) ⟨rfl, rfl⟩
      · replace h := ifF h (dF hg3)
        refine g_no rfl rfl hg3 rfl ?_
        refine g_no rfl rfl hg3 rfl ?_
        refine g_yes rfl rfl hg2 (ValOk.op (v_pickF rfl hg3 rfl rfl ?_)) 
        refine g_op rfl (ValOk.op (v_pickF rfl hg2 rfl rfl ?_)) 
        refine g_op rfl (ValOk.op (v_move rfl rfl ?_)) 
        refine g_yes rfl rfl rfl (ValOk.op (v_move rfl rfl ?_)) 
        refine g_yes rfl rfl rfl (ValOk.op (v_bin rfl rfl rfl rfl ?_)) 
        refine g_op rfl (ValOk.op (v_pickF rfl rfl rfl rfl ?_)) 
        refine g_op rfl (ValOk.op (v_move rfl rfl ?_)) 
        rcases bsplit ((decide (a0 = 95))) with hg6 | hg6
        · replace h := ifT h (dT hg6)
          refine g_no rfl rfl hg6 rfl ?_
          refine g_no rfl rfl hg6 rfl ?_
          refine g_op rfl (ValOk.op (v_pickT rfl hg6 rfl rfl ?_)) 
          refine g_op rfl (ValOk.op (v_assign rfl rfl ?_)) 
          refine g_nil ?_
          refine hK2 _ ?_
          refine Good.le (σ' := ⟨25, [(2, _)], []⟩) (le_w [] rfl ⟨⟨_, rfl, .refl _⟩, trivial⟩ trivial (by decide)) ?_
          refine Good.le (σ' := ⟨25, [(2, .bool true)], []⟩) (le_w [] rfl ⟨⟨_, rfl, .refl _⟩, trivial⟩ trivial (by decide)) ?_
          refine good_ret ?_
          obtain rfl := Option.some.inj h
          exact endQ_ret (h' := []) [] (.tmp rfl (.nil)) trivial (by decide) ⟨rfl, rfl⟩
        · replace h := ifF h (dF hg6)
          refine g_yes rfl rfl hg6 (ValOk.op (v_move rfl rfl ?_)) 
          obtain ⟨y2, hy2, h⟩ := bnd h
          refine g_yes rfl rfl hg6 (o_callR [] [] (core_value rfl rfl) (m_impl_isFigure_ok a0 _ hy2) trivial (.cons (.refl _) (.nil)) (.inl rfl) rfl ?_)
          refine g_op rfl (ValOk.op (v_pickF rfl hg6 rfl rfl ?_)) 
          refine g_op rfl (ValOk.op (v_assign rfl rfl ?_)) 
          refine g_nil ?_
          refine hK2 _ ?_
          refine Good.le (σ' := ⟨25, [(2, _)], []⟩) (le_w [] rfl ⟨⟨_, rfl, .refl _⟩, trivial⟩ trivial (by decide)) ?_
          refine Good.le (σ' := ⟨25, [(2, .bool y2)], []⟩) (le_w [] rfl ⟨⟨_, rfl, .refl _⟩, trivial⟩ trivial (by decide)) ?_
          refine good_ret ?_
          obtain rfl := Option.some.inj h
          exact endQ_ret (h' := []) [] (.tmp rfl (.nil)) trivial (by decide) ⟨rfl, rfl⟩
  · replace h := ifF h (dF hg1)
    refine g_no rfl rfl hg1 rfl ?_
    refine g_no rfl rfl hg1 rfl ?_
    refine g_op rfl (ValOk.op (v_pickF rfl hg1 rfl rfl ?_)) 
    refine g_op rfl (ValOk.op (v_move rfl rfl ?_)) 
    refine g_yes rfl rfl rfl (ValOk.op (v_move rfl rfl ?_)) 
    refine g_yes rfl rfl rfl (ValOk.op (v_bin rfl rfl rfl rfl ?_)) 
    refine g_yes rfl rfl rfl (ValOk.op (v_move rfl rfl ?_)) 
    rcases bsplit ((decide (65 ≤ a0))) with hg7 | hg7
    · replace h := ifT h (dT hg7)
      refine g_yes rfl rfl hg7 (ValOk.op (v_move rfl rfl ?_)) 
      refine g_yes rfl rfl hg7 (ValOk.op (v_bin rfl rfl rfl rfl ?_)) 
      refine g_yes rfl rfl rfl (ValOk.op (v_pickT rfl hg7 rfl rfl ?_)) 
      refine g_op rfl (ValOk.op (v_pickF rfl rfl rfl rfl ?_)) 
      refine g_op rfl (ValOk.op (v_move rfl rfl ?_)) 
      rcases bsplit ((decide (a0 ≤ 90))) with hg8 | hg8
      · replace h := ifT h (dT hg8)
        refine g_no rfl rfl hg8 rfl ?_
        refine g_no rfl rfl hg8 rfl ?_
        refine g_op rfl (ValOk.op (v_pickT rfl hg8 rfl rfl ?_)) 
        refine g_op rfl (ValOk.op (v_move rfl rfl ?_)) 
        refine g_no rfl rfl rfl rfl ?_
        refine g_no rfl rfl rfl rfl ?_
        refine g_op rfl (ValOk.op (v_pickT rfl rfl rfl rfl ?_)) 
        refine g_op rfl (ValOk.op (v_assign rfl rfl ?_)) 
        refine g_nil ?_
        refine hK2 _ ?_
        refine Good.le (σ' := ⟨25, [(2, _)], []⟩) (le_w [] rfl ⟨⟨_, rfl, .refl _⟩, trivial⟩ trivial (by decide)) ?_
        refine Good.le (σ' := ⟨25, [(2, .bool true)], []⟩) (le_w [] rfl ⟨⟨_, rfl, .refl _⟩, trivial⟩ trivial (by decide)) ?_
        refine good_ret ?_
        obtain rfl := Option.some.inj h
        exact endQ_ret (h' := []) [] (.tmp rfl (.nil)) trivial (by decide) ⟨rfl, rfl⟩
      · replace h := ifF h (dF hg8)
        refine g_yes rfl rfl hg8 (ValOk.op (v_move rfl rfl ?_)) 
        refine g_yes rfl rfl hg8 (ValOk.op (v_bin rfl rfl rfl rfl ?_)) 
        refine g_op rfl (ValOk.op (v_pickF rfl hg8 rfl rfl ?_)) 
        refine g_op rfl (ValOk.op (v_move rfl rfl ?_)) 
        rcases bsplit ((decide (a0 = 95))) with hg9 | hg9
        · replace h := ifT h (dT hg9)
          refine g_no rfl rfl hg9 rfl ?_
          refine g_no rfl rfl hg9 rfl ?_
          refine g_op rfl (ValOk.op (v_pickT rfl hg9 rfl rfl ?_)) 
          refine g_op rfl (ValOk.op (v_assign rfl rfl ?_)) 
          refine g_nil ?_
          refine hK2 _ ?_
          refine Good.le (σ' := ⟨25, [(2, _)], []⟩) (le_w [] rfl ⟨⟨_, rfl, .refl _⟩, trivial⟩ trivial (by decide)) ?_
          refine Good.le (σ' := ⟨25, [(2, .bool true)], []⟩) (le_w [] rfl ⟨⟨_, rfl, .refl _⟩, trivial⟩ trivial (by decide)) ?_
          refine good_ret ?_
          obtain rfl := Option.some.inj h
          exact endQ_ret (h' := []) [] (.tmp rfl (.nil)) trivial (by decide) ⟨rfl, rfl⟩
        · replace h := ifF h (dF hg9)
          refine g_yes rfl rfl hg9 (ValOk.op (v_move rfl rfl ?_)) 
          obtain ⟨y3, hy3, h⟩ := bnd h
          refine g_yes rfl rfl hg9 (o_callR [] [] (core_value rfl rfl) (m_impl_isFigure_ok a0 _ hy3) trivial (.cons (.refl _) (.nil)) (.inl rfl) rfl ?_)
          refine g_op rfl (ValOk.op (v_pickF rfl hg9 rfl rfl ?_)) 
          refine g_op rfl (ValOk.op (v_assign rfl rfl ?_)) 
          refine g_nil ?_
          refine hK2 _ ?_
          refine Good.le (σ' := ⟨25, [(2, _)], []⟩) (le_w [] rfl ⟨⟨_, rfl, .refl _⟩, trivial⟩ trivial (by decide)) ?_
          refine Good.le (σ' := ⟨25, [(2, .bool y3)], []⟩) (le_w [] rfl ⟨⟨_, rfl, .refl _⟩, trivial⟩ trivial (by decide)) ?_
          refine good_ret ?_
          obtain rfl := Option.some.inj h
          exact endQ_ret (h' := []) [] (.tmp rfl (.nil)) trivial (by decide) ⟨rfl, rfl⟩
    · replace h := ifF h (dF hg7)
      refine g_no rfl rfl hg7 rfl ?_
      refine g_no rfl rfl hg7 rfl ?_
      refine g_yes rfl rfl rfl (ValOk.op (v_pickF rfl hg7 rfl rfl ?_)) 
      refine g_op rfl (ValOk.op (v_pickF rfl rfl rfl rfl ?_)) 
      refine g_op rfl (ValOk.op (v_move rfl rfl ?_)) 
      refine g_yes rfl rfl rfl (ValOk.op (v_move rfl rfl ?_)) 
      refine g_yes rfl rfl rfl (ValOk.op (v_bin rfl rfl rfl rfl ?_)) 
      refine g_op rfl (ValOk.op (v_pickF rfl rfl rfl rfl ?_)) 
      refine g_op rfl (ValOk.op (v_move rfl rfl ?_)) 
      rcases bsplit ((decide (a0 = 95))) with hg10 | hg10
      · replace h := ifT h (dT hg10)
        refine g_no rfl rfl hg10 rfl ?_
        refine g_no rfl rfl hg10 rfl ?_
        refine g_op rfl (ValOk.op (v_pickT rfl hg10 rfl rfl ?_)) 
        refine g_op rfl (ValOk.op (v_assign rfl rfl ?_)) 
        refine g_nil ?_
        refine hK2 _ ?_
        refine Good.le (σ' := ⟨25, [(2, _)], []⟩) (le_w [] rfl ⟨⟨_, rfl, .refl _⟩, trivial⟩ trivial (by decide)) ?_
        refine Good.le (σ' := ⟨25, [(2, .bool true)], []⟩) (le_w [] rfl ⟨⟨_, rfl, .refl _⟩, trivial⟩ trivial (by decide)) ?_
        refine good_ret ?_
        obtain rfl := Option.some.inj h
        exact endQ_ret (h' := []) [] (.tmp rfl (.nil)) trivial (by decide) ⟨rfl, rfl⟩
      · replace h := ifF h (dF hg10)
        refine g_yes rfl rfl hg10 (ValOk.op (v_move rfl rfl ?_)) 
        obtain ⟨y4, hy4, h⟩ := bnd h
        refine g_yes rfl rfl hg10 (o_callR [] [] (core_value rfl rfl) (m_impl_isFigure_ok a0 _ hy4) trivial (.cons (.refl _) (.nil)) (.inl rfl) rfl ?_)
        refine g_op rfl (ValOk.op (v_pickF rfl hg10 rfl rfl ?_)) 
        refine g_op rfl (ValOk.op (v_assign rfl rfl ?_)) 
        refine g_nil ?_
        refine hK2 _ ?_
        refine Good.le (σ' := ⟨25, [(2, _)], []⟩) (le_w [] rfl ⟨⟨_, rfl, .refl _⟩, trivial⟩ trivial (by decide)) ?_
        refine Good.le (σ' := ⟨25, [(2, .bool y4)], []⟩) (le_w [] rfl ⟨⟨_, rfl, .refl _⟩, trivial⟩ trivial (by decide)) ?_
        refine good_ret ?_
        obtain rfl := Option.some.inj h
        exact endQ_ret (h' := []) [] (.tmp rfl (.nil)) trivial (by decide) ⟨rfl, rfl⟩
def m_impl_isName_l1 : Nat → Bs → Int → Option (Lp Unit Bool)
  | 0, _, _ => none
  | k + 1, a0, x1 =>
    if x1 < (a0.length : Int) then
      if (0 : Int) ≤ x1 ∧ x1 < (a0.length : Int) then
        (m_impl_isWordByte (byt a0 x1)).bind fun y1 =>
        if y1 = true then
          m_impl_isName_l1 k a0 (IntKind.wrap .i64 (x1 + 1))
        else
          (some false).bind fun z =>
          some (Lp.ret z)
      else none
    else
      some (Lp.go ())
def m_impl_isName (k : Nat) (a0 : Bs) : Option Bool :=
  (if (a0.length : Int) < 1 then
      some (Lp.go true)
    else
      if 12 < (a0.length : Int) then
        some (Lp.go true)
      else
        if (0 : Int) ≤ 0 ∧ 0 < (a0.length : Int) then
          (m_impl_isFigure (byt a0 0)).bind fun y2 =>
          some (Lp.go y2)
        else none).bind fun o1 =>
  o1.then fun s1 =>
    if s1 = true then
      some false
    else
      (m_impl_isName_l1 k a0 0).bind fun o2 =>
      o2.then fun s2 =>
    some true
theorem m_impl_isName_ok (k : Nat) : ∀ (a0 : Bs) (r : Bool), m_impl_isName k a0 = some r → Does Tryd.prog 26 [.str a0] [] (ret (.bool r)) := by
  intro a0 r h
  rw [m_impl_isName] at h
  refine does_of_good tabOk Tryd.func26 rfl (by decide +kernel) (Nat.le_of_ble_eq_true rfl) fun c => ?_
  refine Good.le (σ' := ⟨28, [(0, .str a0)], []⟩) (Le.refl _) ?_
  refine good_seq fun K1 hK1 => ?_
  refine good_region ?_
  refine g_op rfl (ValOk.op (v_assign rfl rfl ?_)) 
  refine g_nil ?_
  refine hK1 _ ?_
  refine good_seq fun K2 hK2 => ?_
  refine good_seq fun K3 hK3 => ?_
  obtain ⟨o1, ho1, hJ1⟩ := bnd h
  have hw1 : ∀ (s1 : Bool), o1 = Lp.go s1 → ∀ σ', Le σ' ⟨28, [(0, .str a0), (2, .bool false), (16, .bool s1)], []⟩ → K3 σ' := by
    intro s1 e1 σ' hle1
    subst e1
    refine hK3 _ (Good.le hle1 ?_)
    replace h := hJ1
    refine good_cond rfl (fun hc1 => ?_) (fun hc1 => ?_)
    · replace h := ifT h hc1
      refine good_seq fun K4 hK4 => ?_
      refine good_region ?_
      refine g_op rfl (ValOk.op (v_assign rfl rfl ?_)) 
      refine g_nil ?_
      refine hK4 _ ?_
      refine Good.le (σ' := ⟨28, [(0, _), (2, _)], []⟩) (le_w [] rfl ⟨⟨_, rfl, .refl _⟩, ⟨⟨_, rfl, .refl _⟩, trivial⟩⟩ trivial (by decide)) ?_
      refine Good.le (σ' := ⟨28, [(2, .bool false)], []⟩) (le_w [] rfl ⟨⟨_, rfl, .refl _⟩, trivial⟩ trivial (by decide)) ?_
      refine good_ret ?_
      obtain rfl := Option.some.inj h
      refine thenQ_ret ?_
      exact endQ_ret (h' := []) [] (.tmp rfl (.nil)) trivial (by decide) ⟨rfl, rfl⟩
    · replace h := bF h hc1
      refine good_skip ?_
      refine hK2 _ ?_
      refine Good.le (σ' := ⟨28, [(0, _), (2, _)], []⟩) (le_w [] rfl ⟨⟨_, rfl, .refl _⟩, ⟨⟨_, rfl, .refl _⟩, trivial⟩⟩ trivial (by decide)) ?_
      refine good_seq fun K5 hK5 => ?_
      refine good_seq fun K6 hK6 => ?_
      refine good_region ?_
      refine g_op rfl (ValOk.op (v_move rfl rfl ?_)) 
      refine g_op rfl (ValOk.op (v_lenS tabOk rfl rfl tkind9 rfl ?_)) 
      refine g_op rfl (ValOk.op (v_move rfl rfl ?_)) 
      refine g_nil ?_
      refine hK6 _ ?_
      refine Good.le (σ' := ⟨28, [(0, _), (2, _), (18, _), (19, _)], []⟩) (le_w [] rfl ⟨⟨_, rfl, .refl _⟩, ⟨⟨_, rfl, .refl _⟩, ⟨⟨_, rfl, .refl _⟩, ⟨⟨_, rfl, .refl _⟩, trivial⟩⟩⟩⟩ trivial (by decide)) ?_
      obtain ⟨o2, ho2, hJ2⟩ := bnd h
      have hw2 : ∀ (s2 : Unit), o2 = Lp.go s2 → ∀ σ', Le σ' ⟨28, [(2, .bool false)], []⟩ → K5 σ' := by
        intro s2 e2 σ' hle2
        subst e2
        refine hK5 _ (Good.le hle2 ?_)
        replace h := hJ2
        refine good_seq fun K7 hK7 => ?_
        refine good_region ?_
        refine g_op rfl (ValOk.op (v_assign rfl rfl ?_)) 
        refine g_nil ?_
        refine hK7 _ ?_
        refine Good.le (σ' := ⟨28, [(2, .bool true)], []⟩) (le_w [] rfl ⟨⟨_, rfl, .refl _⟩, trivial⟩ trivial (by decide)) ?_
        refine good_ret ?_
        obtain rfl := Option.some.inj h
        exact endQ_ret (h' := []) [] (.tmp rfl (.nil)) trivial (by decide) ⟨rfl, rfl⟩
      replace h := ho2
      refine good_block ?_
      refine good_loopf (fun p : Int => ⟨28, [(0, .str a0), (2, .bool false), (18, .int .i64 (a0.length : Int)), (19, .int .i64 p)], []⟩) (fun m p => m_impl_isName_l1 m a0 p = some o2) k (0) (le_w [] rfl ⟨⟨_, rfl, .refl _⟩, ⟨⟨_, rfl, .refl _⟩, ⟨⟨_, rfl, .refl _⟩, ⟨⟨_, rfl, .refl _⟩, trivial⟩⟩⟩⟩ trivial (by decide)) h ?_
      rintro m1 x1 h
      replace h : m_impl_isName_l1 m1 a0 x1 = some o2 := h
      refine Good.le (σ' := ⟨28, [(0, .str a0), (2, .bool false), (18, .int .i64 (a0.length : Int)), (19, .int .i64 x1)], []⟩) (Le.refl _) ?_
      obtain ⟨m1, rfl⟩ : ∃ m', m1 = m' + 1 := by cases m1 with | zero => (rw [m_impl_isName_l1] at h; cases h) | succ m' => exact ⟨m', rfl⟩
      rw [m_impl_isName_l1] at h
      refine good_seq fun K8 hK8 => ?_
      refine good_region ?_
      refine g_op rfl (ValOk.op (v_bin rfl rfl rfl rfl ?_)) 
      refine g_nil ?_
      refine hK8 _ ?_
      refine good_seq fun K9 hK9 => ?_
      refine good_cond rfl (fun hc2 => ?_) (fun hc2 => ?_)
      · replace h := ifT h (dT hc2)
        refine good_skip ?_
        refine hK9 _ ?_
        refine Good.le (σ' := ⟨28, [(0, _), (2, _), (18, _), (19, _)], []⟩) (le_w [] rfl ⟨⟨_, rfl, .refl _⟩, ⟨⟨_, rfl, .refl _⟩, ⟨⟨_, rfl, .refl _⟩, ⟨⟨_, rfl, .refl _⟩, trivial⟩⟩⟩⟩ trivial (by decide)) ?_
        refine good_seq fun K10 hK10 => ?_
        refine good_block ?_
        refine good_seq fun K11 hK11 => ?_
        refine good_region ?_
        refine g_op rfl (ValOk.op (v_move rfl rfl ?_)) 
        refine g_op rfl (ValOk.op (v_assign rfl rfl ?_)) 
        refine g_nil ?_
        refine hK11 _ ?_
        refine Good.le (σ' := ⟨28, [(0, _), (2, _), (3, _), (18, _), (19, _)], []⟩) (le_w [] rfl ⟨⟨_, rfl, .refl _⟩, ⟨⟨_, rfl, .refl _⟩, ⟨⟨_, rfl, .refl _⟩, ⟨⟨_, rfl, .refl _⟩, ⟨⟨_, rfl, .refl _⟩, trivial⟩⟩⟩⟩⟩ trivial (by decide)) ?_
        refine good_seq fun K12 hK12 => ?_
        refine good_region ?_
        refine g_op rfl (ValOk.op (v_move rfl rfl ?_)) 
        refine g_op rfl (ValOk.op (v_move rfl rfl ?_)) 
        obtain ⟨hb1, h⟩ := ifS h
        refine g_op rfl (ValOk.op (v_indexM tabOk rfl rfl tkind9 hb1 rfl ?_)) 
        obtain ⟨y1, hy1, h⟩ := bnd h
        refine g_op rfl (o_callR [] [] (core_value rfl rfl) (m_impl_isWordByte_ok (byt a0 x1) _ hy1) trivial (.cons (.refl _) (.nil)) (.inl rfl) rfl ?_)
        refine g_op rfl (ValOk.op (v_not rfl rfl ?_)) 
        refine g_nil ?_
        refine hK12 _ ?_
        refine Good.le (σ' := ⟨28, [(0, _), (2, _), (18, _), (19, _), (26, _)], []⟩) (le_w [] rfl ⟨⟨_, rfl, .refl _⟩, ⟨⟨_, rfl, .refl _⟩, ⟨⟨_, rfl, .refl _⟩, ⟨⟨_, rfl, .refl _⟩, ⟨⟨_, rfl, .refl _⟩, trivial⟩⟩⟩⟩⟩ trivial (by decide)) ?_
        refine good_cond rfl (fun hc3 => ?_) (fun hc3 => ?_)
        · replace h := bF h (nT hc3)
          refine good_seq fun K13 hK13 => ?_
          refine good_region ?_
          refine g_op rfl (ValOk.op (v_assign rfl rfl ?_)) 
          refine g_nil ?_
          refine hK13 _ ?_
          refine Good.le (σ' := ⟨28, [(0, _), (2, _), (18, _), (19, _)], []⟩) (le_w [] rfl ⟨⟨_, rfl, .refl _⟩, ⟨⟨_, rfl, .refl _⟩, ⟨⟨_, rfl, .refl _⟩, ⟨⟨_, rfl, .refl _⟩, trivial⟩⟩⟩⟩ trivial (by decide)) ?_
          refine Good.le (σ' := ⟨28, [(2, .bool false)], []⟩) (le_w [] rfl ⟨⟨_, rfl, .refl _⟩, trivial⟩ trivial (by decide)) ?_
          refine good_ret ?_
          replace h := unret h hJ2
          obtain rfl := Option.some.inj h
          refine blockQ_ret ?_
          refine thenQ_ret ?_
          refine thenQ_ret ?_
          refine blockQ_ret ?_
          refine thenQ_ret ?_
          exact endQ_ret (h' := []) [] (.tmp rfl (.nil)) trivial (by decide) ⟨rfl, rfl⟩
        · replace h := ifT h (nF hc3)
          refine good_skip ?_
          refine hK10 _ ?_
          refine Good.le (σ' := ⟨28, [(0, _), (2, _), (18, _), (19, _)], []⟩) (le_w [] rfl ⟨⟨_, rfl, .refl _⟩, ⟨⟨_, rfl, .refl _⟩, ⟨⟨_, rfl, .refl _⟩, ⟨⟨_, rfl, .refl _⟩, trivial⟩⟩⟩⟩ trivial (by decide)) ?_
          refine good_region ?_
          refine g_op rfl (ValOk.op (v_bin rfl rfl rfl rfl ?_)) 
          refine g_op rfl (ValOk.op (v_move rfl rfl ?_)) 
          refine g_nil ?_
          exact round_mk m1 (IntKind.wrap .i64 (x1 + 1)) (Nat.lt_succ_self _) h (le_w [] rfl ⟨⟨_, rfl, .refl _⟩, ⟨⟨_, rfl, .refl _⟩, ⟨⟨_, rfl, .refl _⟩, ⟨⟨_, rfl, .refl _⟩, trivial⟩⟩⟩⟩ trivial (by decide))
      · replace h := ifF h (dF hc2)
        refine good_exit ?_
        exact hw2 () (Option.some.inj h).symm _ (le_w [] rfl ⟨⟨_, rfl, .refl _⟩, trivial⟩ trivial (by decide))
  replace h := ho1
  refine good_region ?_
  refine g_op rfl (ValOk.op (v_move rfl rfl ?_)) 
  refine g_op rfl (ValOk.op (v_lenS tabOk rfl rfl tkind9 rfl ?_)) 
  refine g_op rfl (ValOk.op (v_bin rfl rfl rfl rfl ?_)) 
  refine g_op rfl (ValOk.op (v_move rfl rfl ?_)) 
  rcases bsplit ((decide ((a0.length : Int) < 1))) with hg1 | hg1
  · replace h := ifT h (dT hg1)
    refine g_no rfl rfl hg1 rfl ?_
    refine g_no rfl rfl hg1 rfl ?_
    refine g_no rfl rfl hg1 rfl ?_
    refine g_op rfl (ValOk.op (v_pickT rfl hg1 rfl rfl ?_)) 
    refine g_op rfl (ValOk.op (v_move rfl rfl ?_)) 
    refine g_no rfl rfl rfl rfl ?_
    refine g_no rfl rfl rfl rfl ?_
    refine g_no rfl rfl rfl rfl ?_
    refine g_op rfl (ValOk.op (v_pickT rfl rfl rfl rfl ?_)) 
    refine g_nil ?_
    exact hw1 true (Option.some.inj h).symm _ (le_w [] rfl ⟨⟨_, rfl, .refl _⟩, ⟨⟨_, rfl, .refl _⟩, ⟨⟨_, rfl, .refl _⟩, trivial⟩⟩⟩ trivial (by decide))
  · replace h := ifF h (dF hg1)
    refine g_yes rfl rfl hg1 (ValOk.op (v_move rfl rfl ?_)) 
    refine g_yes rfl rfl hg1 (ValOk.op (v_lenS tabOk rfl rfl tkind9 rfl ?_)) 
    refine g_yes rfl rfl hg1 (ValOk.op (v_bin rfl rfl rfl rfl ?_)) 
    refine g_op rfl (ValOk.op (v_pickF rfl hg1 rfl rfl ?_)) 
    refine g_op rfl (ValOk.op (v_move rfl rfl ?_)) 
    rcases bsplit ((decide (12 < (a0.length : Int)))) with hg2 | hg2
    · replace h := ifT h (dT hg2)
      refine g_no rfl rfl hg2 rfl ?_
      refine g_no rfl rfl hg2 rfl ?_
      refine g_no rfl rfl hg2 rfl ?_
      refine g_op rfl (ValOk.op (v_pickT rfl hg2 rfl rfl ?_)) 
      refine g_nil ?_
      exact hw1 true (Option.some.inj h).symm _ (le_w [] rfl ⟨⟨_, rfl, .refl _⟩, ⟨⟨_, rfl, .refl _⟩, ⟨⟨_, rfl, .refl _⟩, trivial⟩⟩⟩ trivial (by decide))
    · replace h := ifF h (dF hg2)
      refine g_yes rfl rfl hg2 (ValOk.op (v_move rfl rfl ?_)) 
      obtain ⟨hb2, h⟩ := ifS h
      refine g_yes rfl rfl hg2 (ValOk.op (v_indexM tabOk rfl rfl tkind9 hb2 rfl ?_)) 
      obtain ⟨y2, hy2, h⟩ := bnd h
      refine g_yes rfl rfl hg2 (o_callR [] [] (core_value rfl rfl) (m_impl_isFigure_ok (byt a0 0) _ hy2) trivial (.cons (.refl _) (.nil)) (.inl rfl) rfl ?_)
      refine g_op rfl (ValOk.op (v_pickF rfl hg2 rfl rfl ?_)) 
      refine g_nil ?_
      exact hw1 y2 (Option.some.inj h).symm _ (le_w [] rfl ⟨⟨_, rfl, .refl _⟩, ⟨⟨_, rfl, .refl _⟩, ⟨⟨_, rfl, .refl _⟩, trivial⟩⟩⟩ trivial (by decide))
def m_internal_strconv_log10Pow2 (a0 : Int) : Option Int :=
  some (Int.fdiv (IntKind.wrap .i64 (a0 * 78913)) (2 ^ (min (Int.toNat 18) (IntKind.bits .i64))))
theorem m_internal_strconv_log10Pow2_ok : ∀ (a0 : Int) (r : Int), m_internal_strconv_log10Pow2 a0 = some r → Does Tryd.prog 83 [.int .i64 a0] [] (ret (.int .i64 r)) := by
  intro a0 r h
  rw [m_internal_strconv_log10Pow2] at h
  refine does_of_good tabOk Tryd.func83 rfl (by decide +kernel) (Nat.le_of_ble_eq_true rfl) fun c => ?_
  refine Good.le (σ' := ⟨6, [(0, .int .i64 a0)], []⟩) (Le.refl _) ?_
  refine good_seq fun K1 hK1 => ?_
  refine good_region ?_
  refine g_op rfl (ValOk.op (v_assign rfl rfl ?_)) 
  refine g_nil ?_
  refine hK1 _ ?_
  refine good_seq fun K2 hK2 => ?_
  refine good_region ?_
  refine g_op rfl (ValOk.op (v_move rfl rfl ?_)) 
  refine g_op rfl (ValOk.op (v_bin rfl rfl rfl rfl ?_)) 
  refine g_op rfl (ValOk.op (v_shr rfl rfl (by decide) rfl ?_)) 
  refine g_op rfl (ValOk.op (v_assign rfl rfl ?_)) 
  refine g_nil ?_
  refine hK2 _ ?_
  refine Good.le (σ' := ⟨6, [(2, _)], []⟩) (le_w [] rfl ⟨⟨_, rfl, .refl _⟩, trivial⟩ trivial (by decide)) ?_
  refine Good.le (σ' := ⟨6, [(2, .int .i64 (Int.fdiv (IntKind.wrap .i64 (a0 * 78913)) (2 ^ (min (Int.toNat 18) (IntKind.bits .i64)))))], []⟩) (le_w [] rfl ⟨⟨_, rfl, .refl _⟩, trivial⟩ trivial (by decide)) ?_
  refine good_ret ?_
  obtain rfl := Option.some.inj h
  exact endQ_ret (h' := []) [] (.tmp rfl (.nil)) trivial (by decide) ⟨rfl, rfl⟩
def m_internal_strconv_bool2_int (a0 : Bool) : Option Int :=
  if a0 = true then
    some 1
  else
    some 0
theorem m_internal_strconv_bool2_int_ok : ∀ (a0 : Bool) (r : Int), m_internal_strconv_bool2_int a0 = some r → Does Tryd.prog 85 [.bool a0] [] (ret (.int .i64 r)) := by
  intro a0 r h
  rw [m_internal_strconv_bool2_int] at h
  refine does_of_good tabOk Tryd.func85 rfl (by decide +kernel) (Nat.le_of_ble_eq_true rfl) fun c => ?_
  refine Good.le (σ' := ⟨4, [(0, .bool a0)], []⟩) (Le.refl _) ?_
  refine good_seq fun K1 hK1 => ?_
  refine good_region ?_
  refine g_op rfl (ValOk.op (v_assign rfl rfl ?_)) 
  refine g_nil ?_
  refine hK1 _ ?_
  refine good_seq fun K2 hK2 => ?_
  refine good_seq fun K3 hK3 => ?_
  refine good_region ?_
  refine g_op rfl (ValOk.op (v_move rfl rfl ?_)) 
  refine g_nil ?_
  refine hK3 _ ?_
  refine Good.le (σ' := ⟨4, [(2, _), (3, _)], []⟩) (le_w [] rfl ⟨⟨_, rfl, .refl _⟩, ⟨⟨_, rfl, .refl _⟩, trivial⟩⟩ trivial (by decide)) ?_
  refine good_cond rfl (fun hc1 => ?_) (fun hc1 => ?_)
  · replace h := ifT h hc1
    refine good_seq fun K4 hK4 => ?_
    refine good_region ?_
    refine g_op rfl (ValOk.op (v_assign rfl rfl ?_)) 
    refine g_nil ?_
    refine hK4 _ ?_
    refine Good.le (σ' := ⟨4, [(2, _)], []⟩) (le_w [] rfl ⟨⟨_, rfl, .refl _⟩, trivial⟩ trivial (by decide)) ?_
    refine Good.le (σ' := ⟨4, [(2, .int .i64 1)], []⟩) (le_w [] rfl ⟨⟨_, rfl, .refl _⟩, trivial⟩ trivial (by decide)) ?_
    refine good_ret ?_
    obtain rfl := Option.some.inj h
    refine thenQ_ret ?_
    exact endQ_ret (h' := []) [] (.tmp rfl (.nil)) trivial (by decide) ⟨rfl, rfl⟩
  · replace h := bF h hc1
    refine good_skip ?_
    refine hK2 _ ?_
    refine Good.le (σ' := ⟨4, [(2, _)], []⟩) (le_w [] rfl ⟨⟨_, rfl, .refl _⟩, trivial⟩ trivial (by decide)) ?_
    refine good_seq fun K5 hK5 => ?_
    refine good_region ?_
    refine g_op rfl (ValOk.op (v_assign rfl rfl ?_)) 
    refine g_nil ?_
    refine hK5 _ ?_
    refine Good.le (σ' := ⟨4, [(2, .int .i64 0)], []⟩) (le_w [] rfl ⟨⟨_, rfl, .refl _⟩, trivial⟩ trivial (by decide)) ?_
    refine good_ret ?_
    obtain rfl := Option.some.inj h
    exact endQ_ret (h' := []) [] (.tmp rfl (.nil)) trivial (by decide) ⟨rfl, rfl⟩
def m_internal_strconv_isPowerOfTwo (a0 : Int) : Option Bool :=
  some (decide ((bitsI .and .i64 a0 (IntKind.wrap .i64 (a0 - 1))) = 0))
theorem m_internal_strconv_isPowerOfTwo_ok : ∀ (a0 : Int) (r : Bool), m_internal_strconv_isPowerOfTwo a0 = some r → Does Tryd.prog 86 [.int .i64 a0] [] (ret (.bool r)) := by
  intro a0 r h
  rw [m_internal_strconv_isPowerOfTwo] at h
  refine does_of_good tabOk Tryd.func86 rfl (by decide +kernel) (Nat.le_of_ble_eq_true rfl) fun c => ?_
  refine Good.le (σ' := ⟨8, [(0, .int .i64 a0)], []⟩) (Le.refl _) ?_
  refine good_seq fun K1 hK1 => ?_
  refine good_region ?_
  refine g_op rfl (ValOk.op (v_assign rfl rfl ?_)) 
  refine g_nil ?_
  refine hK1 _ ?_
  refine good_seq fun K2 hK2 => ?_
  refine good_region ?_
  refine g_op rfl (ValOk.op (v_move rfl rfl ?_)) 
  refine g_op rfl (ValOk.op (v_move rfl rfl ?_)) 
  refine g_op rfl (ValOk.op (v_bin rfl rfl rfl rfl ?_)) 
  refine g_op rfl (ValOk.op (v_bin rfl rfl rfl rfl ?_)) 
  refine g_op rfl (ValOk.op (v_bin rfl rfl rfl rfl ?_)) 
  refine g_op rfl (ValOk.op (v_assign rfl rfl ?_)) 
  refine g_nil ?_
  refine hK2 _ ?_
  refine Good.le (σ' := ⟨8, [(2, _)], []⟩) (le_w [] rfl ⟨⟨_, rfl, .refl _⟩, trivial⟩ trivial (by decide)) ?_
  refine Good.le (σ' := ⟨8, [(2, .bool (decide ((bitsI .and .i64 a0 (IntKind.wrap .i64 (a0 - 1))) = 0)))], []⟩) (le_w [] rfl ⟨⟨_, rfl, .refl _⟩, trivial⟩ trivial (by decide)) ?_
  refine good_ret ?_
  obtain rfl := Option.some.inj h
  exact endQ_ret (h' := []) [] (.tmp rfl (.nil)) trivial (by decide) ⟨rfl, rfl⟩
def m_impl_AskPut (k : Nat) (a0 : Bs) (a1 : Bs) (a2 : Bs) : Option Bs :=
  (if a0 = [] then
      if 1500 < (a1.length : Int) then
        some (Lp.go true)
      else
        some (Lp.go (decide (2000 < (a2.length : Int))))
    else
      (m_impl_isName k a0).bind fun y3 =>
      if y3 = true then
        if 1500 < (a1.length : Int) then
          some (Lp.go true)
        else
          some (Lp.go (decide (2000 < (a2.length : Int))))
      else
        some (Lp.go true)).bind fun o1 =>
  o1.then fun s1 =>
    if s1 = true then
      some []
    else
      if ([97, 115, 107, 32] ++ a0).length ≤ maxLen then
        if (([97, 115, 107, 32] ++ a0) ++ [32]).length ≤ maxLen then
          (m_strconv_Itoa (a1.length : Int)).bind fun y1 =>
          if ((([97, 115, 107, 32] ++ a0) ++ [32]) ++ y1).length ≤ maxLen then
            if (((([97, 115, 107, 32] ++ a0) ++ [32]) ++ y1) ++ [32]).length ≤ maxLen then
              (m_strconv_Itoa (a2.length : Int)).bind fun y2 =>
              if ((((([97, 115, 107, 32] ++ a0) ++ [32]) ++ y1) ++ [32]) ++ y2).length ≤ maxLen then
                if (((((([97, 115, 107, 32] ++ a0) ++ [32]) ++ y1) ++ [32]) ++ y2) ++ [10]).length ≤ maxLen then
                  if ((((((([97, 115, 107, 32] ++ a0) ++ [32]) ++ y1) ++ [32]) ++ y2) ++ [10]) ++ a1).length ≤ maxLen then
                    if (((((((([97, 115, 107, 32] ++ a0) ++ [32]) ++ y1) ++ [32]) ++ y2) ++ [10]) ++ a1) ++ a2).length ≤ maxLen then
                      some (((((((([97, 115, 107, 32] ++ a0) ++ [32]) ++ y1) ++ [32]) ++ y2) ++ [10]) ++ a1) ++ a2)
                    else none
                  else none
                else none
              else none
            else none
          else none
        else none
      else none
theorem m_impl_AskPut_ok (k : Nat) : ∀ (a0 : Bs) (a1 : Bs) (a2 : Bs) (r : Bs), m_impl_AskPut k a0 a1 a2 = some r → DoesT Tryd.prog 8 [.str a0, .str a1, .str a2] [] (ret (.str r)) := by
  intro a0 a1 a2 r h
  rw [m_impl_AskPut] at h
  refine doesT_of_good tabOk Tryd.func8 rfl (by decide +kernel) (Nat.le_of_ble_eq_true rfl) fun c hct => ?_
  refine Good.le (σ' := ⟨41, [(0, .str a0), (1, .str a1), (2, .str a2)], []⟩) (Le.refl _) ?_
  refine good_seq fun K1 hK1 => ?_
  refine good_region ?_
  refine g_op rfl (ValOk.op (v_assign rfl rfl ?_)) 
  refine g_nil ?_
  refine hK1 _ ?_
  refine good_seq fun K2 hK2 => ?_
  refine good_seq fun K3 hK3 => ?_
  obtain ⟨o1, ho1, hJ1⟩ := bnd h
  have hw1 : ∀ (s1 : Bool), o1 = Lp.go s1 → ∀ σ', Le σ' ⟨41, [(0, .str a0), (1, .str a1), (2, .str a2), (6, .str []), (23, .bool s1)], []⟩ → K3 σ' := by
    intro s1 e1 σ' hle1
    subst e1
    refine hK3 _ (Good.le hle1 ?_)
    replace h := hJ1
    refine good_cond rfl (fun hc1 => ?_) (fun hc1 => ?_)
    · replace h := ifT h hc1
      refine good_seq fun K4 hK4 => ?_
      refine good_region ?_
      refine g_op rfl (ValOk.op (v_assign rfl rfl ?_)) 
      refine g_nil ?_
      refine hK4 _ ?_
      refine Good.le (σ' := ⟨41, [(0, _), (1, _), (2, _), (6, _)], []⟩) (le_w [] rfl ⟨⟨_, rfl, .refl _⟩, ⟨⟨_, rfl, .refl _⟩, ⟨⟨_, rfl, .refl _⟩, ⟨⟨_, rfl, .refl _⟩, trivial⟩⟩⟩⟩ trivial (by decide)) ?_
      refine Good.le (σ' := ⟨41, [(6, .str [])], []⟩) (le_w [] rfl ⟨⟨_, rfl, .refl _⟩, trivial⟩ trivial (by decide)) ?_
      refine good_ret ?_
      obtain rfl := Option.some.inj h
      refine thenQ_ret ?_
      exact endQ_ret (h' := []) [] (.tmp rfl (.nil)) trivial (by decide) ⟨rfl, rfl⟩
    · replace h := bF h hc1
      refine good_skip ?_
      refine hK2 _ ?_
      refine Good.le (σ' := ⟨41, [(0, _), (1, _), (2, _), (6, _)], []⟩) (le_w [] rfl ⟨⟨_, rfl, .refl _⟩, ⟨⟨_, rfl, .refl _⟩, ⟨⟨_, rfl, .refl _⟩, ⟨⟨_, rfl, .refl _⟩, trivial⟩⟩⟩⟩ trivial (by decide)) ?_
      refine good_seq fun K5 hK5 => ?_
      refine good_region ?_
      refine g_op rfl (ValOk.op (v_move rfl rfl ?_)) 
      obtain ⟨hb1, h⟩ := ifS h
      refine g_op rfl (ValOk.op (v_cat rfl rfl hb1 rfl ?_)) 
      obtain ⟨hb2, h⟩ := ifS h
      refine g_op rfl (ValOk.op (v_cat rfl rfl hb2 rfl ?_)) 
      refine g_op rfl (ValOk.op (v_move rfl rfl ?_)) 
      refine g_op rfl (ValOk.op (v_lenS tabOk rfl rfl tkind9 rfl ?_)) 
      obtain ⟨y1, hy1, h⟩ := bnd h
      refine g_op rfl (o_callTR [] [] (core_value rfl rfl) hct (m_strconv_Itoa_ok (a1.length : Int) _ hy1) trivial (.cons (.refl _) (.nil)) (.inl rfl) rfl ?_)
      obtain ⟨hb3, h⟩ := ifS h
      refine g_op rfl (ValOk.op (v_cat rfl rfl hb3 rfl ?_)) 
      obtain ⟨hb4, h⟩ := ifS h
      refine g_op rfl (ValOk.op (v_cat rfl rfl hb4 rfl ?_)) 
      refine g_op rfl (ValOk.op (v_move rfl rfl ?_)) 
      refine g_op rfl (ValOk.op (v_lenS tabOk rfl rfl tkind9 rfl ?_)) 
      obtain ⟨y2, hy2, h⟩ := bnd h
      refine g_op rfl (o_callTR [] [] (core_value rfl rfl) hct (m_strconv_Itoa_ok (a2.length : Int) _ hy2) trivial (.cons (.refl _) (.nil)) (.inl rfl) rfl ?_)
      obtain ⟨hb5, h⟩ := ifS h
      refine g_op rfl (ValOk.op (v_cat rfl rfl hb5 rfl ?_)) 
      obtain ⟨hb6, h⟩ := ifS h
      refine g_op rfl (ValOk.op (v_cat rfl rfl hb6 rfl ?_)) 
      refine g_op rfl (ValOk.op (v_move rfl rfl ?_)) 
      obtain ⟨hb7, h⟩ := ifS h
      refine g_op rfl (ValOk.op (v_cat rfl rfl hb7 rfl ?_)) 
      refine g_op rfl (ValOk.op (v_move rfl rfl ?_)) 
      obtain ⟨hb8, h⟩ := ifS h
      refine g_op rfl (ValOk.op (v_cat rfl rfl hb8 rfl ?_)) 
      refine g_op rfl (ValOk.op (v_assign rfl rfl ?_)) 
      refine g_nil ?_
      refine hK5 _ ?_
      refine Good.le (σ' := ⟨41, [(6, _)], []⟩) (le_w [] rfl ⟨⟨_, rfl, .refl _⟩, trivial⟩ trivial (by decide)) ?_
      refine Good.le (σ' := ⟨41, [(6, .str (((((((([97, 115, 107, 32] ++ a0) ++ [32]) ++ y1) ++ [32]) ++ y2) ++ [10]) ++ a1) ++ a2))], []⟩) (le_w [] rfl ⟨⟨_, rfl, .refl _⟩, trivial⟩ trivial (by decide)) ?_
      refine good_ret ?_
      obtain rfl := Option.some.inj h
      exact endQ_ret (h' := []) [] (.tmp rfl (.nil)) trivial (by decide) ⟨rfl, rfl⟩
  replace h := ho1
  refine good_region ?_
  refine g_op rfl (ValOk.op (v_move rfl rfl ?_)) 
  refine g_op rfl (ValOk.op (v_bin rfl rfl rfl rfl ?_)) 
  refine g_op rfl (ValOk.op (v_move rfl rfl ?_)) 
  rcases bsplit ((!(decide (a0 = [])))) with hg1 | hg1
  · replace h := ifF h (ndT hg1)
    refine g_yes rfl rfl hg1 (ValOk.op (v_move rfl rfl ?_)) 
    obtain ⟨y3, hy3, h⟩ := bnd h
    refine g_yes rfl rfl hg1 (o_callR [] [] (core_value rfl rfl) (m_impl_isName_ok k a0 _ hy3) trivial (.cons (.refl _) (.nil)) (.inl rfl) rfl ?_)
    refine g_yes rfl rfl hg1 (ValOk.op (v_not rfl rfl ?_)) 
    refine g_op rfl (ValOk.op (v_pickT rfl hg1 rfl rfl ?_)) 
    refine g_op rfl (ValOk.op (v_move rfl rfl ?_)) 
    rcases bsplit ((!y3)) with hg2 | hg2
    · replace h := bF h (nT hg2)
      refine g_no rfl rfl hg2 rfl ?_
      refine g_no rfl rfl hg2 rfl ?_
      refine g_no rfl rfl hg2 rfl ?_
      refine g_op rfl (ValOk.op (v_pickT rfl hg2 rfl rfl ?_)) 
      refine g_op rfl (ValOk.op (v_move rfl rfl ?_)) 
      refine g_no rfl rfl rfl rfl ?_
      refine g_no rfl rfl rfl rfl ?_
      refine g_no rfl rfl rfl rfl ?_
      refine g_op rfl (ValOk.op (v_pickT rfl rfl rfl rfl ?_)) 
      refine g_nil ?_
      exact hw1 true (Option.some.inj h).symm _ (le_w [] rfl ⟨⟨_, rfl, .refl _⟩, ⟨⟨_, rfl, .refl _⟩, ⟨⟨_, rfl, .refl _⟩, ⟨⟨_, rfl, .refl _⟩, ⟨⟨_, rfl, .refl _⟩, trivial⟩⟩⟩⟩⟩ trivial (by decide))
    · replace h := ifT h (nF hg2)
      refine g_yes rfl rfl hg2 (ValOk.op (v_move rfl rfl ?_)) 
      refine g_yes rfl rfl hg2 (ValOk.op (v_lenS tabOk rfl rfl tkind9 rfl ?_)) 
      refine g_yes rfl rfl hg2 (ValOk.op (v_bin rfl rfl rfl rfl ?_)) 
      refine g_op rfl (ValOk.op (v_pickF rfl hg2 rfl rfl ?_)) 
      refine g_op rfl (ValOk.op (v_move rfl rfl ?_)) 
      rcases bsplit ((decide (1500 < (a1.length : Int)))) with hg3 | hg3
      · replace h := ifT h (dT hg3)
        refine g_no rfl rfl hg3 rfl ?_
        refine g_no rfl rfl hg3 rfl ?_
        refine g_no rfl rfl hg3 rfl ?_
        refine g_op rfl (ValOk.op (v_pickT rfl hg3 rfl rfl ?_)) 
        refine g_nil ?_
        exact hw1 true (Option.some.inj h).symm _ (le_w [] rfl ⟨⟨_, rfl, .refl _⟩, ⟨⟨_, rfl, .refl _⟩, ⟨⟨_, rfl, .refl _⟩, ⟨⟨_, rfl, .refl _⟩, ⟨⟨_, rfl, .refl _⟩, trivial⟩⟩⟩⟩⟩ trivial (by decide))
      · replace h := ifF h (dF hg3)
        refine g_yes rfl rfl hg3 (ValOk.op (v_move rfl rfl ?_)) 
        refine g_yes rfl rfl hg3 (ValOk.op (v_lenS tabOk rfl rfl tkind9 rfl ?_)) 
        refine g_yes rfl rfl hg3 (ValOk.op (v_bin rfl rfl rfl rfl ?_)) 
        refine g_op rfl (ValOk.op (v_pickF rfl hg3 rfl rfl ?_)) 
        refine g_nil ?_
        exact hw1 (decide (2000 < (a2.length : Int))) (Option.some.inj h).symm _ (le_w [] rfl ⟨⟨_, rfl, .refl _⟩, ⟨⟨_, rfl, .refl _⟩, ⟨⟨_, rfl, .refl _⟩, ⟨⟨_, rfl, .refl _⟩, ⟨⟨_, rfl, .refl _⟩, trivial⟩⟩⟩⟩⟩ trivial (by decide))
  · replace h := ifT h (ndF hg1)
    refine g_no rfl rfl hg1 rfl ?_
    refine g_no rfl rfl hg1 rfl ?_
    refine g_no rfl rfl hg1 rfl ?_
    refine g_op rfl (ValOk.op (v_pickF rfl hg1 rfl rfl ?_)) 
    refine g_op rfl (ValOk.op (v_move rfl rfl ?_)) 
    refine g_yes rfl rfl rfl (ValOk.op (v_move rfl rfl ?_)) 
    refine g_yes rfl rfl rfl (ValOk.op (v_lenS tabOk rfl rfl tkind9 rfl ?_)) 
    refine g_yes rfl rfl rfl (ValOk.op (v_bin rfl rfl rfl rfl ?_)) 
    refine g_op rfl (ValOk.op (v_pickF rfl rfl rfl rfl ?_)) 
    refine g_op rfl (ValOk.op (v_move rfl rfl ?_)) 
    rcases bsplit ((decide (1500 < (a1.length : Int)))) with hg4 | hg4
    · replace h := ifT h (dT hg4)
      refine g_no rfl rfl hg4 rfl ?_
      refine g_no rfl rfl hg4 rfl ?_
      refine g_no rfl rfl hg4 rfl ?_
      refine g_op rfl (ValOk.op (v_pickT rfl hg4 rfl rfl ?_)) 
      refine g_nil ?_
      exact hw1 true (Option.some.inj h).symm _ (le_w [] rfl ⟨⟨_, rfl, .refl _⟩, ⟨⟨_, rfl, .refl _⟩, ⟨⟨_, rfl, .refl _⟩, ⟨⟨_, rfl, .refl _⟩, ⟨⟨_, rfl, .refl _⟩, trivial⟩⟩⟩⟩⟩ trivial (by decide))
    · replace h := ifF h (dF hg4)
      refine g_yes rfl rfl hg4 (ValOk.op (v_move rfl rfl ?_)) 
      refine g_yes rfl rfl hg4 (ValOk.op (v_lenS tabOk rfl rfl tkind9 rfl ?_)) 
      refine g_yes rfl rfl hg4 (ValOk.op (v_bin rfl rfl rfl rfl ?_)) 
      refine g_op rfl (ValOk.op (v_pickF rfl hg4 rfl rfl ?_)) 
      refine g_nil ?_
      exact hw1 (decide (2000 < (a2.length : Int))) (Option.some.inj h).symm _ (le_w [] rfl ⟨⟨_, rfl, .refl _⟩, ⟨⟨_, rfl, .refl _⟩, ⟨⟨_, rfl, .refl _⟩, ⟨⟨_, rfl, .refl _⟩, ⟨⟨_, rfl, .refl _⟩, trivial⟩⟩⟩⟩⟩ trivial (by decide))
def m_spec_l1Letter (a0 : Int) : Option Bool :=
  if 97 ≤ a0 then
    if a0 ≤ 122 then
      some true
    else
      if 65 ≤ a0 then
        if a0 ≤ 90 then
          some true
        else
          some (decide (a0 = 95))
      else
        some (decide (a0 = 95))
  else
    if 65 ≤ a0 then
      if a0 ≤ 90 then
        some true
      else
        some (decide (a0 = 95))
    else
      some (decide (a0 = 95))
theorem m_spec_l1Letter_ok : ∀ (a0 : Int) (r : Bool), m_spec_l1Letter a0 = some r → Does Tryd.prog 47 [.int .u8 a0] [] (ret (.bool r)) := by
  intro a0 r h
  rw [m_spec_l1Letter] at h
  refine does_of_good tabOk Tryd.func47 rfl (by decide +kernel) (Nat.le_of_ble_eq_true rfl) fun c => ?_
  refine Good.le (σ' := ⟨21, [(0, .int .u8 a0)], []⟩) (Le.refl _) ?_
  refine good_seq fun K1 hK1 => ?_
  refine good_region ?_
  refine g_op rfl (ValOk.op (v_assign rfl rfl ?_)) 
  refine g_nil ?_
  refine hK1 _ ?_
  refine good_seq fun K2 hK2 => ?_
  refine good_region ?_
  refine g_op rfl (ValOk.op (v_move rfl rfl ?_)) 
  refine g_op rfl (ValOk.op (v_bin rfl rfl rfl rfl ?_)) 
  refine g_op rfl (ValOk.op (v_move rfl rfl ?_)) 
  rcases bsplit ((decide (97 ≤ a0))) with hg1 | hg1
  · replace h := ifT h (dT hg1)
    refine g_yes rfl rfl hg1 (ValOk.op (v_move rfl rfl ?_)) 
    refine g_yes rfl rfl hg1 (ValOk.op (v_bin rfl rfl rfl rfl ?_)) 
    refine g_op rfl (ValOk.op (v_pickT rfl hg1 rfl rfl ?_)) 
    refine g_op rfl (ValOk.op (v_move rfl rfl ?_)) 
    rcases bsplit ((decide (a0 ≤ 122))) with hg2 | hg2
    · replace h := ifT h (dT hg2)
      refine g_no rfl rfl hg2 rfl ?_
      refine g_no rfl rfl hg2 rfl ?_
      refine g_no rfl rfl hg2 rfl ?_
      refine g_und rfl rfl rfl ?_
      refine g_und rfl rfl rfl ?_
      refine g_no rfl rfl hg2 rfl ?_
      refine g_op rfl (ValOk.op (v_pickT rfl hg2 rfl rfl ?_)) 
      refine g_op rfl (ValOk.op (v_move rfl rfl ?_)) 
      refine g_no rfl rfl rfl rfl ?_
      refine g_no rfl rfl rfl rfl ?_
      refine g_op rfl (ValOk.op (v_pickT rfl rfl rfl rfl ?_)) 
      refine g_op rfl (ValOk.op (v_assign rfl rfl ?_)) 
      refine g_nil ?_
      refine hK2 _ ?_
      refine Good.le (σ' := ⟨21, [(2, _)], []⟩) (le_w [] rfl ⟨⟨_, rfl, .refl _⟩, trivial⟩ trivial (by decide)) ?_
      refine Good.le (σ' := ⟨21, [(2, .bool true)], []⟩) (le_w [] rfl ⟨⟨_, rfl, .refl _⟩, trivial⟩ trivial (by decide)) ?_
      refine good_ret ?_
      obtain rfl := Option.some.inj h
      exact endQ_ret (h' := []) [] (.tmp rfl (.nil)) trivial (by decide) ⟨rfl, rfl⟩
    · replace h := ifF h (dF hg2)
      refine g_yes rfl rfl hg2 (ValOk.op (v_move rfl rfl ?_)) 
      refine g_yes rfl rfl hg2 (ValOk.op (v_bin rfl rfl rfl rfl ?_)) 
      refine g_yes rfl rfl hg2 (ValOk.op (v_move rfl rfl ?_)) 
      rcases bsplit ((decide (65 ≤ a0))) with hg3 | hg3
      · replace h := ifT h (dT hg3)
        refine g_yes rfl rfl hg3 (ValOk.op (v_move rfl rfl ?_)) 
        refine g_yes rfl rfl hg3 (ValOk.op (v_bin rfl rfl rfl rfl ?_)) 
        refine g_yes rfl rfl hg2 (ValOk.op (v_pickT rfl hg3 rfl rfl ?_)) 
        refine g_op rfl (ValOk.op (v_pickF rfl hg2 rfl rfl ?_)) 
        refine g_op rfl (ValOk.op (v_move rfl rfl ?_)) 
        rcases bsplit ((decide (a0 ≤ 90))) with hg4 | hg4
        · replace h := ifT h (dT hg4)
          refine g_no rfl rfl hg4 rfl ?_
          refine g_no rfl rfl hg4 rfl ?_
          refine g_op rfl (ValOk.op (v_pickT rfl hg4 rfl rfl ?_)) 
          refine g_op rfl (ValOk.op (v_assign rfl rfl ?_)) 
          refine g_nil ?_
          refine hK2 _ ?_
          refine Good.le (σ' := ⟨21, [(2, _)], []⟩) (le_w [] rfl ⟨⟨_, rfl, .refl _⟩, trivial⟩ trivial (by decide)) ?_
          refine Good.le (σ' := ⟨21, [(2, .bool true)], []⟩) (le_w [] rfl ⟨⟨_, rfl, .refl _⟩, trivial⟩ trivial (by decide)) ?_
          refine good_ret ?_
          obtain rfl := Option.some.inj h
          exact endQ_ret (h' := []) [] (.tmp rfl (.nil)) trivial (by decide) ⟨rfl, rfl⟩
        · replace h := ifF h (dF hg4)
          refine g_yes rfl rfl hg4 (ValOk.op (v_move rfl rfl ?_)) 
          refine g_yes rfl rfl hg4 (ValOk.op (v_bin rfl rfl rfl rfl ?_)) 
          refine g_op rfl (ValOk.op (v_pickF rfl hg4 rfl rfl ?_)) 
          refine g_op rfl (ValOk.op (v_assign rfl rfl ?_)) 
          refine g_nil ?_
          refine hK2 _ ?_
          refine Good.le (σ' := ⟨21, [(2, _)], []⟩) (le_w [] rfl ⟨⟨_, rfl, .refl _⟩, trivial⟩ trivial (by decide)) ?_
          refine Good.le (σ' := ⟨21, [(2, .bool (decide (a0 = 95)))], []⟩) (le_w [] rfl ⟨⟨_, rfl, .refl _⟩, trivial⟩ trivial (by decide)) ?_
          refine good_ret ?_
          obtain rfl := Option.some.inj h
          exact endQ_ret (h' := []) [] (.tmp rfl (.nil)) trivial (by decide) ⟨rfl, rfl⟩
      · replace h := ifF h (dF hg3)
        refine g_no rfl rfl hg3 rfl ?_
        refine g_no rfl rfl hg3 rfl ?_
        refine g_yes rfl rfl hg2 (ValOk.op (v_pickF rfl hg3 rfl rfl ?_)) 
        refine g_op rfl (ValOk.op (v_pickF rfl hg2 rfl rfl ?_)) 
        refine g_op rfl (ValOk.op (v_move rfl rfl ?_)) 
        refine g_yes rfl rfl rfl (ValOk.op (v_move rfl rfl ?_)) 
        refine g_yes rfl rfl rfl (ValOk.op (v_bin rfl rfl rfl rfl ?_)) 
        refine g_op rfl (ValOk.op (v_pickF rfl rfl rfl rfl ?_)) 
        refine g_op rfl (ValOk.op (v_assign rfl rfl ?_)) 
        refine g_nil ?_
        refine hK2 _ ?_
        refine Good.le (σ' := ⟨21, [(2, _)], []⟩) (le_w [] rfl ⟨⟨_, rfl, .refl _⟩, trivial⟩ trivial (by decide)) ?_
        refine Good.le (σ' := ⟨21, [(2, .bool (decide (a0 = 95)))], []⟩) (le_w [] rfl ⟨⟨_, rfl, .refl _⟩, trivial⟩ trivial (by decide)) ?_
        refine good_ret ?_
        obtain rfl := Option.some.inj h
        exact endQ_ret (h' := []) [] (.tmp rfl (.nil)) trivial (by decide) ⟨rfl, rfl⟩
  · replace h := ifF h (dF hg1)
    refine g_no rfl rfl hg1 rfl ?_
    refine g_no rfl rfl hg1 rfl ?_
    refine g_op rfl (ValOk.op (v_pickF rfl hg1 rfl rfl ?_)) 
    refine g_op rfl (ValOk.op (v_move rfl rfl ?_)) 
    refine g_yes rfl rfl rfl (ValOk.op (v_move rfl rfl ?_)) 
    refine g_yes rfl rfl rfl (ValOk.op (v_bin rfl rfl rfl rfl ?_)) 
    refine g_yes rfl rfl rfl (ValOk.op (v_move rfl rfl ?_)) 
    rcases bsplit ((decide (65 ≤ a0))) with hg5 | hg5
    · replace h := ifT h (dT hg5)
      refine g_yes rfl rfl hg5 (ValOk.op (v_move rfl rfl ?_)) 
      refine g_yes rfl rfl hg5 (ValOk.op (v_bin rfl rfl rfl rfl ?_)) 
      refine g_yes rfl rfl rfl (ValOk.op (v_pickT rfl hg5 rfl rfl ?_)) 
      refine g_op rfl (ValOk.op (v_pickF rfl rfl rfl rfl ?_)) 
      refine g_op rfl (ValOk.op (v_move rfl rfl ?_)) 
      rcases bsplit ((decide (a0 ≤ 90))) with hg6 | hg6
      · replace h := ifT h (dT hg6)
        refine g_no rfl rfl hg6 rfl ?_
        refine g_no rfl rfl hg6 rfl ?_
        refine g_op rfl (ValOk.op (v_pickT rfl hg6 rfl rfl ?_)) 
        refine g_op rfl (ValOk.op (v_assign rfl rfl ?_)) 
        refine g_nil ?_
        refine hK2 _ ?_
        refine Good.le (σ' := ⟨21, [(2, _)], []⟩) (le_w [] rfl ⟨⟨_, rfl, .refl _⟩, trivial⟩ trivial (by decide)) ?_
        refine Good.le (σ' := ⟨21, [(2, .bool true)], []⟩) (le_w [] rfl ⟨⟨_, rfl, .refl _⟩, trivial⟩ trivial (by decide)) ?_
        refine good_ret ?_
        obtain rfl := Option.some.inj h
        exact endQ_ret (h' := []) [] (.tmp rfl (.nil)) trivial (by decide) ⟨rfl, rfl⟩
      · replace h := ifF h (dF hg6)
        refine g_yes rfl rfl hg6 (ValOk.op (v_move rfl rfl ?_)) 
        refine g_yes rfl rfl hg6 (ValOk.op (v_bin rfl rfl rfl rfl ?_)) 
        refine g_op rfl (ValOk.op (v_pickF rfl hg6 rfl rfl ?_)) 
        refine g_op rfl (ValOk.op (v_assign rfl rfl ?_)) 
        refine g_nil ?_
        refine hK2 _ ?_
        refine Good.le (σ' := ⟨21, [(2, _)], []⟩) (le_w [] rfl ⟨⟨_, rfl, .refl _⟩, trivial⟩ trivial (by decide)) ?_
        refine Good.le (σ' := ⟨21, [(2, .bool (decide (a0 = 95)))], []⟩) (le_w [] rfl ⟨⟨_, rfl, .refl _⟩, trivial⟩ trivial (by decide)) ?_
        refine good_ret ?_
        obtain rfl := Option.some.inj h
        exact endQ_ret (h' := []) [] (.tmp rfl (.nil)) trivial (by decide) ⟨rfl, rfl⟩
    · replace h := ifF h (dF hg5)
      refine g_no rfl rfl hg5 rfl ?_
      refine g_no rfl rfl hg5 rfl ?_
      refine g_yes rfl rfl rfl (ValOk.op (v_pickF rfl hg5 rfl rfl ?_)) 
      refine g_op rfl (ValOk.op (v_pickF rfl rfl rfl rfl ?_)) 
      refine g_op rfl (ValOk.op (v_move rfl rfl ?_)) 
      refine g_yes rfl rfl rfl (ValOk.op (v_move rfl rfl ?_)) 
      refine g_yes rfl rfl rfl (ValOk.op (v_bin rfl rfl rfl rfl ?_)) 
      refine g_op rfl (ValOk.op (v_pickF rfl rfl rfl rfl ?_)) 
      refine g_op rfl (ValOk.op (v_assign rfl rfl ?_)) 
      refine g_nil ?_
      refine hK2 _ ?_
      refine Good.le (σ' := ⟨21, [(2, _)], []⟩) (le_w [] rfl ⟨⟨_, rfl, .refl _⟩, trivial⟩ trivial (by decide)) ?_
      refine Good.le (σ' := ⟨21, [(2, .bool (decide (a0 = 95)))], []⟩) (le_w [] rfl ⟨⟨_, rfl, .refl _⟩, trivial⟩ trivial (by decide)) ?_
      refine good_ret ?_
      obtain rfl := Option.some.inj h
      exact endQ_ret (h' := []) [] (.tmp rfl (.nil)) trivial (by decide) ⟨rfl, rfl⟩
def m_spec_l1Figure (a0 : Int) : Option Bool :=
  if 48 ≤ a0 then
    some (decide (a0 ≤ 57))
  else
    some false
theorem m_spec_l1Figure_ok : ∀ (a0 : Int) (r : Bool), m_spec_l1Figure a0 = some r → Does Tryd.prog 48 [.int .u8 a0] [] (ret (.bool r)) := by
  intro a0 r h
  rw [m_spec_l1Figure] at h
  refine does_of_good tabOk Tryd.func48 rfl (by decide +kernel) (Nat.le_of_ble_eq_true rfl) fun c => ?_
  refine Good.le (σ' := ⟨9, [(0, .int .u8 a0)], []⟩) (Le.refl _) ?_
  refine good_seq fun K1 hK1 => ?_
  refine good_region ?_
  refine g_op rfl (ValOk.op (v_assign rfl rfl ?_)) 
  refine g_nil ?_
  refine hK1 _ ?_
  refine good_seq fun K2 hK2 => ?_
  refine good_region ?_
  refine g_op rfl (ValOk.op (v_move rfl rfl ?_)) 
  refine g_op rfl (ValOk.op (v_bin rfl rfl rfl rfl ?_)) 
  refine g_op rfl (ValOk.op (v_move rfl rfl ?_)) 
  rcases bsplit ((decide (48 ≤ a0))) with hg1 | hg1
  · replace h := ifT h (dT hg1)
    refine g_yes rfl rfl hg1 (ValOk.op (v_move rfl rfl ?_)) 
    refine g_yes rfl rfl hg1 (ValOk.op (v_bin rfl rfl rfl rfl ?_)) 
    refine g_op rfl (ValOk.op (v_pickT rfl hg1 rfl rfl ?_)) 
    refine g_op rfl (ValOk.op (v_assign rfl rfl ?_)) 
    refine g_nil ?_
    refine hK2 _ ?_
    refine Good.le (σ' := ⟨9, [(2, _)], []⟩) (le_w [] rfl ⟨⟨_, rfl, .refl _⟩, trivial⟩ trivial (by decide)) ?_
    refine Good.le (σ' := ⟨9, [(2, .bool (decide (a0 ≤ 57)))], []⟩) (le_w [] rfl ⟨⟨_, rfl, .refl _⟩, trivial⟩ trivial (by decide)) ?_
    refine good_ret ?_
    obtain rfl := Option.some.inj h
    exact endQ_ret (h' := []) [] (.tmp rfl (.nil)) trivial (by decide) ⟨rfl, rfl⟩
  · replace h := ifF h (dF hg1)
    refine g_no rfl rfl hg1 rfl ?_
    refine g_no rfl rfl hg1 rfl ?_
    refine g_op rfl (ValOk.op (v_pickF rfl hg1 rfl rfl ?_)) 
    refine g_op rfl (ValOk.op (v_assign rfl rfl ?_)) 
    refine g_nil ?_
    refine hK2 _ ?_
    refine Good.le (σ' := ⟨9, [(2, _)], []⟩) (le_w [] rfl ⟨⟨_, rfl, .refl _⟩, trivial⟩ trivial (by decide)) ?_
    refine Good.le (σ' := ⟨9, [(2, .bool false)], []⟩) (le_w [] rfl ⟨⟨_, rfl, .refl _⟩, trivial⟩ trivial (by decide)) ?_
    refine good_ret ?_
    obtain rfl := Option.some.inj h
    exact endQ_ret (h' := []) [] (.tmp rfl (.nil)) trivial (by decide) ⟨rfl, rfl⟩
def m_spec_l1In (a0 : Int) (a1 : Int) (a2 : Int) : Option Bool :=
  if a1 ≤ a0 then
    some (decide (a0 ≤ a2))
  else
    some false
theorem m_spec_l1In_ok : ∀ (a0 : Int) (a1 : Int) (a2 : Int) (r : Bool), m_spec_l1In a0 a1 a2 = some r → Does Tryd.prog 49 [.int .i64 a0, .int .i64 a1, .int .i64 a2] [] (ret (.bool r)) := by
  intro a0 a1 a2 r h
  rw [m_spec_l1In] at h
  refine does_of_good tabOk Tryd.func49 rfl (by decide +kernel) (Nat.le_of_ble_eq_true rfl) fun c => ?_
  refine Good.le (σ' := ⟨15, [(0, .int .i64 a0), (1, .int .i64 a1), (2, .int .i64 a2)], []⟩) (Le.refl _) ?_
  refine good_seq fun K1 hK1 => ?_
  refine good_region ?_
  refine g_op rfl (ValOk.op (v_assign rfl rfl ?_)) 
  refine g_nil ?_
  refine hK1 _ ?_
  refine good_seq fun K2 hK2 => ?_
  refine good_region ?_
  refine g_op rfl (ValOk.op (v_move rfl rfl ?_)) 
  refine g_op rfl (ValOk.op (v_move rfl rfl ?_)) 
  refine g_op rfl (ValOk.op (v_bin rfl rfl rfl rfl ?_)) 
  refine g_op rfl (ValOk.op (v_move rfl rfl ?_)) 
  rcases bsplit ((decide (a1 ≤ a0))) with hg1 | hg1
  · replace h := ifT h (dT hg1)
    refine g_yes rfl rfl hg1 (ValOk.op (v_move rfl rfl ?_)) 
    refine g_yes rfl rfl hg1 (ValOk.op (v_move rfl rfl ?_)) 
    refine g_yes rfl rfl hg1 (ValOk.op (v_bin rfl rfl rfl rfl ?_)) 
    refine g_op rfl (ValOk.op (v_pickT rfl hg1 rfl rfl ?_)) 
    refine g_op rfl (ValOk.op (v_assign rfl rfl ?_)) 
    refine g_nil ?_
    refine hK2 _ ?_
    refine Good.le (σ' := ⟨15, [(6, _)], []⟩) (le_w [] rfl ⟨⟨_, rfl, .refl _⟩, trivial⟩ trivial (by decide)) ?_
    refine Good.le (σ' := ⟨15, [(6, .bool (decide (a0 ≤ a2)))], []⟩) (le_w [] rfl ⟨⟨_, rfl, .refl _⟩, trivial⟩ trivial (by decide)) ?_
    refine good_ret ?_
    obtain rfl := Option.some.inj h
    exact endQ_ret (h' := []) [] (.tmp rfl (.nil)) trivial (by decide) ⟨rfl, rfl⟩
  · replace h := ifF h (dF hg1)
    refine g_no rfl rfl hg1 rfl ?_
    refine g_no rfl rfl hg1 rfl ?_
    refine g_no rfl rfl hg1 rfl ?_
    refine g_op rfl (ValOk.op (v_pickF rfl hg1 rfl rfl ?_)) 
    refine g_op rfl (ValOk.op (v_assign rfl rfl ?_)) 
    refine g_nil ?_
    refine hK2 _ ?_
    refine Good.le (σ' := ⟨15, [(6, _)], []⟩) (le_w [] rfl ⟨⟨_, rfl, .refl _⟩, trivial⟩ trivial (by decide)) ?_
    refine Good.le (σ' := ⟨15, [(6, .bool false)], []⟩) (le_w [] rfl ⟨⟨_, rfl, .refl _⟩, trivial⟩ trivial (by decide)) ?_
    refine good_ret ?_
    obtain rfl := Option.some.inj h
    exact endQ_ret (h' := []) [] (.tmp rfl (.nil)) trivial (by decide) ⟨rfl, rfl⟩
def m_spec_l1Name_l1 : Nat → Bs → Int → Option (Lp Unit Bool)
  | 0, _, _ => none
  | k + 1, a0, x1 =>
    if x1 < (a0.length : Int) then
      (if (0 : Int) ≤ x1 ∧ x1 < (a0.length : Int) then
          (m_spec_l1Letter (byt a0 x1)).bind fun y2 =>
          if y2 = true then
            some (Lp.go false)
          else
            if x1 = 0 then
              some (Lp.go true)
            else
              if (0 : Int) ≤ x1 ∧ x1 < (a0.length : Int) then
                (m_spec_l1Figure (byt a0 x1)).bind fun y3 =>
                some (Lp.go (!y3))
              else none
        else none).bind fun o2 =>
      o2.then fun s2 =>
    if s2 = true then
      (some false).bind fun z =>
      some (Lp.ret z)
    else
      m_spec_l1Name_l1 k a0 (IntKind.wrap .i64 (x1 + 1))
    else
      some (Lp.go ())
def m_spec_l1Name (k : Nat) (a0 : Bs) : Option Bool :=
  (m_spec_l1Name_l1 k a0 0).bind fun o1 =>
  o1.then fun s1 =>
    (m_spec_l1In (a0.length : Int) 1 12).bind fun y1 =>
    some y1
theorem m_spec_l1Name_ok (k : Nat) : ∀ (a0 : Bs) (r : Bool), m_spec_l1Name k a0 = some r → Does Tryd.prog 24 [.str a0] [] (ret (.bool r)) := by
  intro a0 r h
  rw [m_spec_l1Name] at h
  refine does_of_good tabOk Tryd.func24 rfl (by decide +kernel) (Nat.le_of_ble_eq_true rfl) fun c => ?_
  refine Good.le (σ' := ⟨29, [(0, .str a0)], []⟩) (Le.refl _) ?_
  refine good_seq fun K1 hK1 => ?_
  refine good_region ?_
  refine g_op rfl (ValOk.op (v_assign rfl rfl ?_)) 
  refine g_nil ?_
  refine hK1 _ ?_
  refine good_seq fun K2 hK2 => ?_
  refine good_seq fun K3 hK3 => ?_
  refine good_region ?_
  refine g_op rfl (ValOk.op (v_assign rfl rfl ?_)) 
  refine g_nil ?_
  refine hK3 _ ?_
  obtain ⟨o1, ho1, hJ1⟩ := bnd h
  have hw1 : ∀ (s1 : Unit), o1 = Lp.go s1 → ∀ σ', Le σ' ⟨29, [(0, .str a0), (2, .bool false)], []⟩ → K2 σ' := by
    intro s1 e1 σ' hle1
    subst e1
    refine hK2 _ (Good.le hle1 ?_)
    replace h := hJ1
    refine good_seq fun K4 hK4 => ?_
    refine good_region ?_
    refine g_op rfl (ValOk.op (v_move rfl rfl ?_)) 
    refine g_op rfl (ValOk.op (v_lenS tabOk rfl rfl tkind9 rfl ?_)) 
    obtain ⟨y1, hy1, h⟩ := bnd h
    refine g_op rfl (o_callR [] [] (core_value rfl rfl) (m_spec_l1In_ok (a0.length : Int) 1 12 _ hy1) trivial (.cons (.refl _) (.cons (.refl _) (.cons (.refl _) (.nil)))) (.inl rfl) rfl ?_)
    refine g_op rfl (ValOk.op (v_assign rfl rfl ?_)) 
    refine g_nil ?_
    refine hK4 _ ?_
    refine Good.le (σ' := ⟨29, [(2, _)], []⟩) (le_w [] rfl ⟨⟨_, rfl, .refl _⟩, trivial⟩ trivial (by decide)) ?_
    refine Good.le (σ' := ⟨29, [(2, .bool y1)], []⟩) (le_w [] rfl ⟨⟨_, rfl, .refl _⟩, trivial⟩ trivial (by decide)) ?_
    refine good_ret ?_
    obtain rfl := Option.some.inj h
    exact endQ_ret (h' := []) [] (.tmp rfl (.nil)) trivial (by decide) ⟨rfl, rfl⟩
  replace h := ho1
  refine good_block ?_
  refine good_loopf (fun p : Int => ⟨29, [(0, .str a0), (2, .bool false), (3, .int .i64 p)], []⟩) (fun m p => m_spec_l1Name_l1 m a0 p = some o1) k (0) (le_w [] rfl ⟨⟨_, rfl, .refl _⟩, ⟨⟨_, rfl, .refl _⟩, ⟨⟨_, rfl, .refl _⟩, trivial⟩⟩⟩ trivial (by decide)) h ?_
  rintro m1 x1 h
  replace h : m_spec_l1Name_l1 m1 a0 x1 = some o1 := h
  refine Good.le (σ' := ⟨29, [(0, .str a0), (2, .bool false), (3, .int .i64 x1)], []⟩) (Le.refl _) ?_
  obtain ⟨m1, rfl⟩ : ∃ m', m1 = m' + 1 := by cases m1 with | zero => (rw [m_spec_l1Name_l1] at h; cases h) | succ m' => exact ⟨m', rfl⟩
  rw [m_spec_l1Name_l1] at h
  refine good_seq fun K5 hK5 => ?_
  refine good_seq fun K6 hK6 => ?_
  refine good_region ?_
  refine g_op rfl (ValOk.op (v_move rfl rfl ?_)) 
  refine g_op rfl (ValOk.op (v_move rfl rfl ?_)) 
  refine g_op rfl (ValOk.op (v_lenS tabOk rfl rfl tkind9 rfl ?_)) 
  refine g_op rfl (ValOk.op (v_bin rfl rfl rfl rfl ?_)) 
  refine g_nil ?_
  refine hK6 _ ?_
  refine Good.le (σ' := ⟨29, [(0, _), (2, _), (3, _), (7, _)], []⟩) (le_w [] rfl ⟨⟨_, rfl, .refl _⟩, ⟨⟨_, rfl, .refl _⟩, ⟨⟨_, rfl, .refl _⟩, ⟨⟨_, rfl, .refl _⟩, trivial⟩⟩⟩⟩ trivial (by decide)) ?_
  refine good_cond rfl (fun hc1 => ?_) (fun hc1 => ?_)
  · replace h := ifT h (dT hc1)
    refine good_skip ?_
    refine hK5 _ ?_
    refine Good.le (σ' := ⟨29, [(0, _), (2, _), (3, _)], []⟩) (le_w [] rfl ⟨⟨_, rfl, .refl _⟩, ⟨⟨_, rfl, .refl _⟩, ⟨⟨_, rfl, .refl _⟩, trivial⟩⟩⟩ trivial (by decide)) ?_
    refine good_seq fun K7 hK7 => ?_
    refine good_block ?_
    refine good_seq fun K8 hK8 => ?_
    obtain ⟨o2, ho2, hJ2⟩ := bnd h
    have hw2 : ∀ (s2 : Bool), o2 = Lp.go s2 → ∀ σ', Le σ' ⟨29, [(0, .str a0), (2, .bool false), (3, .int .i64 x1), (25, .bool s2)], []⟩ → K8 σ' := by
      intro s2 e2 σ' hle2
      subst e2
      refine hK8 _ (Good.le hle2 ?_)
      replace h := hJ2
      refine good_cond rfl (fun hc2 => ?_) (fun hc2 => ?_)
      · replace h := ifT h hc2
        refine good_seq fun K9 hK9 => ?_
        refine good_region ?_
        refine g_op rfl (ValOk.op (v_assign rfl rfl ?_)) 
        refine g_nil ?_
        refine hK9 _ ?_
        refine Good.le (σ' := ⟨29, [(0, _), (2, _), (3, _)], []⟩) (le_w [] rfl ⟨⟨_, rfl, .refl _⟩, ⟨⟨_, rfl, .refl _⟩, ⟨⟨_, rfl, .refl _⟩, trivial⟩⟩⟩ trivial (by decide)) ?_
        refine Good.le (σ' := ⟨29, [(2, .bool false)], []⟩) (le_w [] rfl ⟨⟨_, rfl, .refl _⟩, trivial⟩ trivial (by decide)) ?_
        refine good_ret ?_
        replace h := unret h hJ1
        obtain rfl := Option.some.inj h
        refine blockQ_ret ?_
        refine thenQ_ret ?_
        refine thenQ_ret ?_
        refine blockQ_ret ?_
        refine thenQ_ret ?_
        exact endQ_ret (h' := []) [] (.tmp rfl (.nil)) trivial (by decide) ⟨rfl, rfl⟩
      · replace h := bF h hc2
        refine good_skip ?_
        refine hK7 _ ?_
        refine Good.le (σ' := ⟨29, [(0, _), (2, _), (3, _)], []⟩) (le_w [] rfl ⟨⟨_, rfl, .refl _⟩, ⟨⟨_, rfl, .refl _⟩, ⟨⟨_, rfl, .refl _⟩, trivial⟩⟩⟩ trivial (by decide)) ?_
        refine good_region ?_
        refine g_op rfl (ValOk.op (v_move rfl rfl ?_)) 
        refine g_op rfl (ValOk.op (v_bin rfl rfl rfl rfl ?_)) 
        refine g_op rfl (ValOk.op (v_assign rfl rfl ?_)) 
        refine g_nil ?_
        exact round_mk m1 (IntKind.wrap .i64 (x1 + 1)) (Nat.lt_succ_self _) h (le_w [] rfl ⟨⟨_, rfl, .refl _⟩, ⟨⟨_, rfl, .refl _⟩, ⟨⟨_, rfl, .refl _⟩, trivial⟩⟩⟩ trivial (by decide))
    replace h := ho2
    refine good_region ?_
    refine g_op rfl (ValOk.op (v_move rfl rfl ?_)) 
    refine g_op rfl (ValOk.op (v_move rfl rfl ?_)) 
    obtain ⟨hb1, h⟩ := ifS h
    refine g_op rfl (ValOk.op (v_indexM tabOk rfl rfl tkind9 hb1 rfl ?_)) 
    obtain ⟨y2, hy2, h⟩ := bnd h
    refine g_op rfl (o_callR [] [] (core_value rfl rfl) (m_spec_l1Letter_ok (byt a0 x1) _ hy2) trivial (.cons (.refl _) (.nil)) (.inl rfl) rfl ?_)
    refine g_op rfl (ValOk.op (v_not rfl rfl ?_)) 
    refine g_op rfl (ValOk.op (v_move rfl rfl ?_)) 
    rcases bsplit ((!y2)) with hg1 | hg1
    · replace h := bF h (nT hg1)
      refine g_yes rfl rfl hg1 (ValOk.op (v_move rfl rfl ?_)) 
      refine g_yes rfl rfl hg1 (ValOk.op (v_bin rfl rfl rfl rfl ?_)) 
      refine g_yes rfl rfl hg1 (ValOk.op (v_move rfl rfl ?_)) 
      rcases bsplit ((decide (x1 = 0))) with hg2 | hg2
      · replace h := ifT h (dT hg2)
        refine g_no rfl rfl hg2 rfl ?_
        refine g_no rfl rfl hg2 rfl ?_
        refine g_no rfl rfl hg2 rfl ?_
        refine g_no rfl rfl hg2 rfl ?_
        refine g_no rfl rfl hg2 rfl ?_
        refine g_yes rfl rfl hg1 (ValOk.op (v_pickT rfl hg2 rfl rfl ?_)) 
        refine g_op rfl (ValOk.op (v_pickT rfl hg1 rfl rfl ?_)) 
        refine g_nil ?_
        exact hw2 true (Option.some.inj h).symm _ (le_w [] rfl ⟨⟨_, rfl, .refl _⟩, ⟨⟨_, rfl, .refl _⟩, ⟨⟨_, rfl, .refl _⟩, ⟨⟨_, rfl, .refl _⟩, trivial⟩⟩⟩⟩ trivial (by decide))
      · replace h := ifF h (dF hg2)
        refine g_yes rfl rfl hg2 (ValOk.op (v_move rfl rfl ?_)) 
        refine g_yes rfl rfl hg2 (ValOk.op (v_move rfl rfl ?_)) 
        obtain ⟨hb2, h⟩ := ifS h
        refine g_yes rfl rfl hg2 (ValOk.op (v_indexM tabOk rfl rfl tkind9 hb2 rfl ?_)) 
        obtain ⟨y3, hy3, h⟩ := bnd h
        refine g_yes rfl rfl hg2 (o_callR [] [] (core_value rfl rfl) (m_spec_l1Figure_ok (byt a0 x1) _ hy3) trivial (.cons (.refl _) (.nil)) (.inl rfl) rfl ?_)
        refine g_yes rfl rfl hg2 (ValOk.op (v_not rfl rfl ?_)) 
        refine g_yes rfl rfl hg1 (ValOk.op (v_pickF rfl hg2 rfl rfl ?_)) 
        refine g_op rfl (ValOk.op (v_pickT rfl hg1 rfl rfl ?_)) 
        refine g_nil ?_
        exact hw2 (!y3) (Option.some.inj h).symm _ (le_w [] rfl ⟨⟨_, rfl, .refl _⟩, ⟨⟨_, rfl, .refl _⟩, ⟨⟨_, rfl, .refl _⟩, ⟨⟨_, rfl, .refl _⟩, trivial⟩⟩⟩⟩ trivial (by decide))
    · replace h := ifT h (nF hg1)
      refine g_no rfl rfl hg1 rfl ?_
      refine g_no rfl rfl hg1 rfl ?_
      refine g_no rfl rfl hg1 rfl ?_
      refine g_und rfl rfl rfl ?_
      refine g_und rfl rfl rfl ?_
      refine g_und rfl rfl rfl ?_
      refine g_und rfl rfl rfl ?_
      refine g_und rfl rfl rfl ?_
      refine g_no rfl rfl hg1 rfl ?_
      refine g_op rfl (ValOk.op (v_pickF rfl hg1 rfl rfl ?_)) 
      refine g_nil ?_
      exact hw2 false (Option.some.inj h).symm _ (le_w [] rfl ⟨⟨_, rfl, .refl _⟩, ⟨⟨_, rfl, .refl _⟩, ⟨⟨_, rfl, .refl _⟩, ⟨⟨_, rfl, .refl _⟩, trivial⟩⟩⟩⟩ trivial (by decide))
  · replace h := ifF h (dF hc1)
    refine good_exit ?_
    exact hw1 () (Option.some.inj h).symm _ (le_w [] rfl ⟨⟨_, rfl, .refl _⟩, ⟨⟨_, rfl, .refl _⟩, trivial⟩⟩ trivial (by decide))
def m_spec_l1Dec : Nat → Int → Option Bs
  | 0, _ => none
  | k + 1, a0 =>
    if a0 < (-9223372036854775807) then
      some [45, 57, 50, 50, 51, 51, 55, 50, 48, 51, 54, 56, 53, 52, 55, 55, 53, 56, 48, 56]
    else
      if a0 < 0 then
        (m_spec_l1Dec k (IntKind.wrap .i64 (0 - a0))).bind fun y1 =>
        if ([45] ++ y1).length ≤ maxLen then
          some ([45] ++ y1)
        else none
      else
        if a0 < 10 then
          some (ofI [IntKind.wrap .u8 (IntKind.wrap .i64 (48 + a0))])
        else
          (m_spec_l1Dec k (IntKind.wrap .i64 (Int.tdiv a0 10))).bind fun y2 =>
          if (y2 ++ (ofI [IntKind.wrap .u8 (IntKind.wrap .i64 (48 + (Int.tmod a0 10)))])).length ≤ maxLen then
            some (y2 ++ (ofI [IntKind.wrap .u8 (IntKind.wrap .i64 (48 + (Int.tmod a0 10)))]))
          else none
def P_m_spec_l1Dec (k : Nat) : Prop := ∀ (a0 : Int) (r : Bs), m_spec_l1Dec k a0 = some r → Does Tryd.prog 25 [.int .i64 a0] [] (ret (.str r))
theorem m_spec_l1Dec_step (k : Nat) (ih : ∀ m, m < k → P_m_spec_l1Dec m) : P_m_spec_l1Dec k := by
  intro a0 r h
  obtain ⟨k, rfl⟩ : ∃ k', k = k' + 1 := by cases k with | zero => (rw [m_spec_l1Dec] at h; cases h) | succ k' => exact ⟨k', rfl⟩
  rw [m_spec_l1Dec] at h
  refine does_of_good tabOk Tryd.func25 rfl (by decide +kernel) (Nat.le_of_ble_eq_true rfl) fun c => ?_
  refine Good.le (σ' := ⟨28, [(0, .int .i64 a0)], []⟩) (Le.refl _) ?_
  refine good_seq fun K1 hK1 => ?_
  refine good_region ?_
  refine g_op rfl (ValOk.op (v_assign rfl rfl ?_)) 
  refine g_nil ?_
  refine hK1 _ ?_
  refine good_seq fun K2 hK2 => ?_
  refine good_seq fun K3 hK3 => ?_
  refine good_region ?_
  refine g_op rfl (ValOk.op (v_move rfl rfl ?_)) 
  refine g_op rfl (ValOk.op (v_bin rfl rfl rfl rfl ?_)) 
  refine g_nil ?_
  refine hK3 _ ?_
  refine Good.le (σ' := ⟨28, [(0, _), (2, _), (4, _)], []⟩) (le_w [] rfl ⟨⟨_, rfl, .refl _⟩, ⟨⟨_, rfl, .refl _⟩, ⟨⟨_, rfl, .refl _⟩, trivial⟩⟩⟩ trivial (by decide)) ?_
  refine good_cond rfl (fun hc1 => ?_) (fun hc1 => ?_)
  · replace h := ifT h (dT hc1)
    refine good_seq fun K4 hK4 => ?_
    refine good_region ?_
    refine g_op rfl (ValOk.op (v_assign rfl rfl ?_)) 
    refine g_nil ?_
    refine hK4 _ ?_
    refine Good.le (σ' := ⟨28, [(0, _), (2, _)], []⟩) (le_w [] rfl ⟨⟨_, rfl, .refl _⟩, ⟨⟨_, rfl, .refl _⟩, trivial⟩⟩ trivial (by decide)) ?_
    refine Good.le (σ' := ⟨28, [(2, .str [45, 57, 50, 50, 51, 51, 55, 50, 48, 51, 54, 56, 53, 52, 55, 55, 53, 56, 48, 56])], []⟩) (le_w [] rfl ⟨⟨_, rfl, .refl _⟩, trivial⟩ trivial (by decide)) ?_
    refine good_ret ?_
    obtain rfl := Option.some.inj h
    refine thenQ_ret ?_
    exact endQ_ret (h' := []) [] (.tmp rfl (.nil)) trivial (by decide) ⟨rfl, rfl⟩
  · replace h := ifF h (dF hc1)
    refine good_skip ?_
    refine hK2 _ ?_
    refine Good.le (σ' := ⟨28, [(0, _), (2, _)], []⟩) (le_w [] rfl ⟨⟨_, rfl, .refl _⟩, ⟨⟨_, rfl, .refl _⟩, trivial⟩⟩ trivial (by decide)) ?_
    refine good_seq fun K5 hK5 => ?_
    refine good_seq fun K6 hK6 => ?_
    refine good_region ?_
    refine g_op rfl (ValOk.op (v_move rfl rfl ?_)) 
    refine g_op rfl (ValOk.op (v_bin rfl rfl rfl rfl ?_)) 
    refine g_nil ?_
    refine hK6 _ ?_
    refine Good.le (σ' := ⟨28, [(0, _), (2, _), (6, _)], []⟩) (le_w [] rfl ⟨⟨_, rfl, .refl _⟩, ⟨⟨_, rfl, .refl _⟩, ⟨⟨_, rfl, .refl _⟩, trivial⟩⟩⟩ trivial (by decide)) ?_
    refine good_cond rfl (fun hc2 => ?_) (fun hc2 => ?_)
    · replace h := ifT h (dT hc2)
      refine good_seq fun K7 hK7 => ?_
      refine good_region ?_
      refine g_op rfl (ValOk.op (v_move rfl rfl ?_)) 
      refine g_op rfl (ValOk.op (v_neg rfl rfl ?_)) 
      obtain ⟨y1, hy1, h⟩ := bnd h
      refine g_op rfl (o_callR [] [] (core_value rfl rfl) ((ih k (by omega)) (IntKind.wrap .i64 (0 - a0)) _ hy1) trivial (.cons (.refl _) (.nil)) (.inl rfl) rfl ?_)
      obtain ⟨hb1, h⟩ := ifS h
      refine g_op rfl (ValOk.op (v_cat rfl rfl hb1 rfl ?_)) 
      refine g_op rfl (ValOk.op (v_assign rfl rfl ?_)) 
      refine g_nil ?_
      refine hK7 _ ?_
      refine Good.le (σ' := ⟨28, [(0, _), (2, _)], []⟩) (le_w [] rfl ⟨⟨_, rfl, .refl _⟩, ⟨⟨_, rfl, .refl _⟩, trivial⟩⟩ trivial (by decide)) ?_
      refine Good.le (σ' := ⟨28, [(2, .str ([45] ++ y1))], []⟩) (le_w [] rfl ⟨⟨_, rfl, .refl _⟩, trivial⟩ trivial (by decide)) ?_
      refine good_ret ?_
      obtain rfl := Option.some.inj h
      refine thenQ_ret ?_
      exact endQ_ret (h' := []) [] (.tmp rfl (.nil)) trivial (by decide) ⟨rfl, rfl⟩
    · replace h := ifF h (dF hc2)
      refine good_skip ?_
      refine hK5 _ ?_
      refine Good.le (σ' := ⟨28, [(0, _), (2, _)], []⟩) (le_w [] rfl ⟨⟨_, rfl, .refl _⟩, ⟨⟨_, rfl, .refl _⟩, trivial⟩⟩ trivial (by decide)) ?_
      refine good_seq fun K8 hK8 => ?_
      refine good_seq fun K9 hK9 => ?_
      refine good_region ?_
      refine g_op rfl (ValOk.op (v_move rfl rfl ?_)) 
      refine g_op rfl (ValOk.op (v_bin rfl rfl rfl rfl ?_)) 
      refine g_nil ?_
      refine hK9 _ ?_
      refine Good.le (σ' := ⟨28, [(0, _), (2, _), (12, _)], []⟩) (le_w [] rfl ⟨⟨_, rfl, .refl _⟩, ⟨⟨_, rfl, .refl _⟩, ⟨⟨_, rfl, .refl _⟩, trivial⟩⟩⟩ trivial (by decide)) ?_
      refine good_cond rfl (fun hc3 => ?_) (fun hc3 => ?_)
      · replace h := ifT h (dT hc3)
        refine good_seq fun K10 hK10 => ?_
        refine good_region ?_
        refine g_op rfl (ValOk.op (v_move rfl rfl ?_)) 
        refine g_op rfl (ValOk.op (v_bin rfl rfl rfl rfl ?_)) 
        refine g_op rfl (ValOk.op (v_convI tabOk rfl tkind3 tkind5 rfl ?_)) 
        refine g_op rfl (o_buildSlice (k := 26) (rows := [IntKind.wrap .u8 (IntKind.wrap .i64 (48 + a0))].map (encI .u8)) tabOk telem30 tsize5 rfl rfl rfl rfl (by decide) (by decide) (by rw [tzero5]; rfl) rfl rfl rfl rfl rfl ?_)
        intro w1
        refine g_op rfl (ValOk.op (v_bytesHI (q := 26) tabOk ⟨_, rfl⟩ rfl telem30 tkind5 tkind9 rfl ?_)) 
        refine g_op rfl (ValOk.op (v_assign rfl rfl ?_)) 
        refine g_nil ?_
        refine hK10 _ ?_
        refine Good.le (σ' := ⟨28, [(0, _), (2, _)], []⟩) (le_w [] rfl ⟨⟨_, rfl, .refl _⟩, ⟨⟨_, rfl, .refl _⟩, trivial⟩⟩ trivial (by decide)) ?_
        refine Good.le (σ' := ⟨28, [(2, .str (ofI [IntKind.wrap .u8 (IntKind.wrap .i64 (48 + a0))]))], []⟩) (le_w [] rfl ⟨⟨_, rfl, .refl _⟩, trivial⟩ trivial (by decide)) ?_
        refine good_ret ?_
        obtain rfl := Option.some.inj h
        refine thenQ_ret ?_
        exact endQ_ret (h' := []) [] (.tmp rfl (.nil)) trivial (by decide) ⟨rfl, rfl⟩
      · replace h := ifF h (dF hc3)
        refine good_skip ?_
        refine hK8 _ ?_
        refine Good.le (σ' := ⟨28, [(0, _), (2, _)], []⟩) (le_w [] rfl ⟨⟨_, rfl, .refl _⟩, ⟨⟨_, rfl, .refl _⟩, trivial⟩⟩ trivial (by decide)) ?_
        refine good_seq fun K11 hK11 => ?_
        obtain ⟨y2, hy2, h⟩ := bnd h
        obtain ⟨hb2, h⟩ := ifS h
        refine good_anyM (by kernel_rfl) [⟨[], [0], [], [], [], []⟩, ⟨[0], [18], [], [], [], []⟩, ⟨[0, 1], [19], [], [], [], []⟩, ⟨[], [0], [], [], [], []⟩, ⟨[3], [21], [], [], [], []⟩, ⟨[3, 4], [22], [], [], [], []⟩, ⟨[3, 4, 5], [23], [], [], [], []⟩, ⟨[3, 4, 5, 6], [24], [], [], [], []⟩, ⟨[3, 4, 5, 6, 7], [25], [], [], [], []⟩, ⟨[0, 1, 2, 3, 4, 5, 6, 7, 8], [20, 26], [], [], [], []⟩, ⟨[0, 1, 2, 3, 4, 5, 6, 7, 8, 9], [27], [], [], [], []⟩] [some 18, some 19, some 20, some 21, some 22, some 23, some 24, some 25, some 26, some 27, some 2] 28 [(0, .int .i64 a0), (2, .str [])] [] (fun ν1 => [.int .i64 a0, .int .i64 (IntKind.wrap .i64 (Int.tdiv a0 10)), .str y2, .int .i64 a0, .int .i64 (Int.tmod a0 10), .int .i64 (IntKind.wrap .i64 (48 + (Int.tmod a0 10))), .int .u8 (IntKind.wrap .u8 (IntKind.wrap .i64 (48 + (Int.tmod a0 10)))), .sl false ([IntKind.wrap .u8 (IntKind.wrap .i64 (48 + (Int.tmod a0 10)))].map (encI .u8)), .str (ofI [IntKind.wrap .u8 (IntKind.wrap .i64 (48 + (Int.tmod a0 10)))]), .str (y2 ++ (ofI [IntKind.wrap .u8 (IntKind.wrap .i64 (48 + (Int.tmod a0 10)))])), .str (y2 ++ (ofI [IntKind.wrap .u8 (IntKind.wrap .i64 (48 + (Int.tmod a0 10)))]))]) (fun ν1 => []) [] [] [] (fun ν1 => [(2, .str (y2 ++ (ofI [IntKind.wrap .u8 (IntKind.wrap .i64 (48 + (Int.tmod a0 10)))])))]) (fun ν1 => []) (le_w [] rfl ⟨⟨_, rfl, .refl _⟩, ⟨⟨_, rfl, .refl _⟩, trivial⟩⟩ trivial (by decide)) (by kernel_rfl) ⟨?_, ⟨?_, ⟨?_, ⟨?_, ⟨?_, ⟨?_, ⟨?_, ⟨?_, ⟨?_, ⟨?_, ⟨?_, trivial⟩⟩⟩⟩⟩⟩⟩⟩⟩⟩⟩ ⟨fun _ _ _ => rfl, ⟨fun _ _ _ => rfl, ⟨fun _ _ _ => rfl, ⟨fun _ _ _ => rfl, ⟨fun _ _ _ => rfl, ⟨fun _ _ _ => rfl, ⟨fun _ _ _ => rfl, ⟨fun _ _ _ => rfl, ⟨fun _ _ _ => rfl, ⟨fun _ _ _ => rfl, ⟨fun _ _ _ => rfl, trivial⟩⟩⟩⟩⟩⟩⟩⟩⟩⟩⟩ trivial (fun _ => rfl) (fun _ => rfl) (by kernel_rfl) (fun _ => ⟨⟨_, rfl, .refl _⟩, trivial⟩) (fun _ => trivial) (by kernel_rfl) (by decide) ?_
        · refine local_mk (fun ν1 => [(0, .int .i64 a0)]) (fun ν1 => []) (fun _ => rfl) (fun _ => ⟨⟨_, rfl, .refl _, .refl _⟩, trivial⟩) (fun _ => rfl) (fun _ => trivial) ?_
          intro ν1 S H hS hfr
          refine st_op rfl (ValOk.op (v_move rfl rfl ?_)) 
          exact lp_v hS rfl rfl (fun _ => rfl)
        · refine local_mk (fun ν1 => [(18, .int .i64 a0)]) (fun ν1 => []) (fun _ => rfl) (fun _ => ⟨⟨_, rfl, .refl _, .refl _⟩, trivial⟩) (fun _ => rfl) (fun _ => trivial) ?_
          intro ν1 S H hS hfr
          refine st_op rfl (ValOk.op (v_quo rfl rfl (by decide) rfl ?_)) 
          exact lp_v hS rfl rfl (fun _ => rfl)
        · refine local_mk (fun ν1 => [(19, .int .i64 (IntKind.wrap .i64 (Int.tdiv a0 10)))]) (fun ν1 => []) (fun _ => rfl) (fun _ => ⟨⟨_, rfl, .refl _, .refl _⟩, trivial⟩) (fun _ => rfl) (fun _ => trivial) ?_
          intro ν1 S H hS hfr
          refine st_op rfl (o_callR [] [] (core_value rfl rfl) ((ih k (by omega)) (IntKind.wrap .i64 (Int.tdiv a0 10)) _ hy2) trivial (.cons (.refl _) (.nil)) (.inl rfl) rfl ?_)
          exact lp_v hS rfl rfl (fun _ => rfl)
        · refine local_mk (fun ν1 => [(0, .int .i64 a0)]) (fun ν1 => []) (fun _ => rfl) (fun _ => ⟨⟨_, rfl, .refl _, .refl _⟩, trivial⟩) (fun _ => rfl) (fun _ => trivial) ?_
          intro ν1 S H hS hfr
          refine st_op rfl (ValOk.op (v_move rfl rfl ?_)) 
          exact lp_v hS rfl rfl (fun _ => rfl)
        · refine local_mk (fun ν1 => [(21, .int .i64 a0)]) (fun ν1 => []) (fun _ => rfl) (fun _ => ⟨⟨_, rfl, .refl _, .refl _⟩, trivial⟩) (fun _ => rfl) (fun _ => trivial) ?_
          intro ν1 S H hS hfr
          refine st_op rfl (ValOk.op (v_rem rfl rfl (by decide) rfl ?_)) 
          exact lp_v hS rfl rfl (fun _ => rfl)
        · refine local_mk (fun ν1 => [(22, .int .i64 (Int.tmod a0 10))]) (fun ν1 => []) (fun _ => rfl) (fun _ => ⟨⟨_, rfl, .refl _, .refl _⟩, trivial⟩) (fun _ => rfl) (fun _ => trivial) ?_
          intro ν1 S H hS hfr
          refine st_op rfl (ValOk.op (v_bin rfl rfl rfl rfl ?_)) 
          exact lp_v hS rfl rfl (fun _ => rfl)
        · refine local_mk (fun ν1 => [(23, .int .i64 (IntKind.wrap .i64 (48 + (Int.tmod a0 10))))]) (fun ν1 => []) (fun _ => rfl) (fun _ => ⟨⟨_, rfl, .refl _, .refl _⟩, trivial⟩) (fun _ => rfl) (fun _ => trivial) ?_
          intro ν1 S H hS hfr
          refine st_op rfl (ValOk.op (v_convI tabOk rfl tkind3 tkind5 rfl ?_)) 
          exact lp_v hS rfl rfl (fun _ => rfl)
        · refine local_mk (fun ν1 => [(24, .int .u8 (IntKind.wrap .u8 (IntKind.wrap .i64 (48 + (Int.tmod a0 10)))))]) (fun ν1 => []) (fun _ => rfl) (fun _ => ⟨⟨_, rfl, .refl _, .refl _⟩, trivial⟩) (fun _ => rfl) (fun _ => trivial) ?_
          intro ν1 S H hS hfr
          obtain ⟨kf, hkf⟩ := exists_fresh ([] ++ H)
          refine st_op rfl (o_buildSlice (k := kf) (rows := [IntKind.wrap .u8 (IntKind.wrap .i64 (48 + (Int.tmod a0 10)))].map (encI .u8)) tabOk telem30 tsize5 rfl rfl rfl rfl (by decide) (by decide) (by rw [tzero5]; rfl) rfl rfl rfl hkf rfl ?_)
          intro w
          exact lp_fn hS rfl rfl hkf (FrzLL.map fun _ _ => encI_frz _) (fun _ => rfl)
        · refine local_mk (fun ν1 => [(25, .sl false ([IntKind.wrap .u8 (IntKind.wrap .i64 (48 + (Int.tmod a0 10)))].map (encI .u8)))]) (fun ν1 => []) (fun _ => rfl) (fun _ => ⟨⟨_, rfl, .refl _, .refl _⟩, trivial⟩) (fun _ => rfl) (fun _ => trivial) ?_
          intro ν1 S H hS hfr
          refine st_op rfl (ValOk.op (v_bytesLI (l := [IntKind.wrap .u8 (IntKind.wrap .i64 (48 + (Int.tmod a0 10)))]) tabOk rfl telem30 tkind5 tkind9 rfl ?_)) 
          exact lp_v hS rfl rfl (fun _ => rfl)
        · refine local_mk (fun ν1 => [(20, .str y2), (26, .str (ofI [IntKind.wrap .u8 (IntKind.wrap .i64 (48 + (Int.tmod a0 10)))]))]) (fun ν1 => []) (fun _ => rfl) (fun _ => ⟨⟨_, rfl, .refl _, .refl _⟩, ⟨⟨_, rfl, .refl _, .refl _⟩, trivial⟩⟩) (fun _ => rfl) (fun _ => trivial) ?_
          intro ν1 S H hS hfr
          refine st_op rfl (ValOk.op (v_cat rfl rfl hb2 rfl ?_)) 
          exact lp_v hS rfl rfl (fun _ => rfl)
        · refine local_mk (fun ν1 => [(27, .str (y2 ++ (ofI [IntKind.wrap .u8 (IntKind.wrap .i64 (48 + (Int.tmod a0 10)))])))]) (fun ν1 => []) (fun _ => rfl) (fun _ => ⟨⟨_, rfl, .refl _, .refl _⟩, trivial⟩) (fun _ => rfl) (fun _ => trivial) ?_
          intro ν1 S H hS hfr
          refine st_op rfl (ValOk.op (v_assign rfl rfl ?_)) 
          exact lp_v hS rfl rfl (fun _ => rfl)
        intro ν1
        refine hK11 _ ?_
        refine Good.le (σ' := ⟨28, [(2, .str (y2 ++ (ofI [IntKind.wrap .u8 (IntKind.wrap .i64 (48 + (Int.tmod a0 10)))])))], []⟩) (le_w [] rfl ⟨⟨_, rfl, .refl _⟩, trivial⟩ trivial (by decide)) ?_
        refine good_ret ?_
        obtain rfl := Option.some.inj h
        exact endQ_ret (h' := []) [] (.tmp rfl (.nil)) trivial (by decide) ⟨rfl, rfl⟩
theorem m_spec_l1Dec_all (k : Nat) : P_m_spec_l1Dec k := by
  induction k using Nat.strongRecOn with
  | _ k ih => exact m_spec_l1Dec_step k ih
theorem m_spec_l1Dec_ok (k : Nat) : ∀ (a0 : Int) (r : Bs), m_spec_l1Dec k a0 = some r → Does Tryd.prog 25 [.int .i64 a0] [] (ret (.str r)) := (m_spec_l1Dec_all k)
def m_spec_AskPut (k : Nat) (a0 : Bs) (a1 : Bs) (a2 : Bs) : Option Bs :=
  (if a0 = [] then
      if 1500 < (a1.length : Int) then
        some (Lp.go true)
      else
        some (Lp.go (decide (2000 < (a2.length : Int))))
    else
      (m_spec_l1Name k a0).bind fun y3 =>
      if y3 = true then
        if 1500 < (a1.length : Int) then
          some (Lp.go true)
        else
          some (Lp.go (decide (2000 < (a2.length : Int))))
      else
        some (Lp.go true)).bind fun o1 =>
  o1.then fun s1 =>
    if s1 = true then
      some []
    else
      if ([97, 115, 107, 32] ++ a0).length ≤ maxLen then
        if (([97, 115, 107, 32] ++ a0) ++ [32]).length ≤ maxLen then
          (m_spec_l1Dec k (a1.length : Int)).bind fun y1 =>
          if ((([97, 115, 107, 32] ++ a0) ++ [32]) ++ y1).length ≤ maxLen then
            if (((([97, 115, 107, 32] ++ a0) ++ [32]) ++ y1) ++ [32]).length ≤ maxLen then
              (m_spec_l1Dec k (a2.length : Int)).bind fun y2 =>
              if ((((([97, 115, 107, 32] ++ a0) ++ [32]) ++ y1) ++ [32]) ++ y2).length ≤ maxLen then
                if (((((([97, 115, 107, 32] ++ a0) ++ [32]) ++ y1) ++ [32]) ++ y2) ++ [10]).length ≤ maxLen then
                  if ((((((([97, 115, 107, 32] ++ a0) ++ [32]) ++ y1) ++ [32]) ++ y2) ++ [10]) ++ a1).length ≤ maxLen then
                    if (((((((([97, 115, 107, 32] ++ a0) ++ [32]) ++ y1) ++ [32]) ++ y2) ++ [10]) ++ a1) ++ a2).length ≤ maxLen then
                      some (((((((([97, 115, 107, 32] ++ a0) ++ [32]) ++ y1) ++ [32]) ++ y2) ++ [10]) ++ a1) ++ a2)
                    else none
                  else none
                else none
              else none
            else none
          else none
        else none
      else none
theorem m_spec_AskPut_ok (k : Nat) : ∀ (a0 : Bs) (a1 : Bs) (a2 : Bs) (r : Bs), m_spec_AskPut k a0 a1 a2 = some r → Does Tryd.prog 7 [.str a0, .str a1, .str a2] [] (ret (.str r)) := by
  intro a0 a1 a2 r h
  rw [m_spec_AskPut] at h
  refine does_of_good tabOk Tryd.func7 rfl (by decide +kernel) (Nat.le_of_ble_eq_true rfl) fun c => ?_
  refine Good.le (σ' := ⟨41, [(0, .str a0), (1, .str a1), (2, .str a2)], []⟩) (Le.refl _) ?_
  refine good_seq fun K1 hK1 => ?_
  refine good_region ?_
  refine g_op rfl (ValOk.op (v_assign rfl rfl ?_)) 
  refine g_nil ?_
  refine hK1 _ ?_
  refine good_seq fun K2 hK2 => ?_
  refine good_seq fun K3 hK3 => ?_
  obtain ⟨o1, ho1, hJ1⟩ := bnd h
  have hw1 : ∀ (s1 : Bool), o1 = Lp.go s1 → ∀ σ', Le σ' ⟨41, [(0, .str a0), (1, .str a1), (2, .str a2), (6, .str []), (23, .bool s1)], []⟩ → K3 σ' := by
    intro s1 e1 σ' hle1
    subst e1
    refine hK3 _ (Good.le hle1 ?_)
    replace h := hJ1
    refine good_cond rfl (fun hc1 => ?_) (fun hc1 => ?_)
    · replace h := ifT h hc1
      refine good_seq fun K4 hK4 => ?_
      refine good_region ?_
      refine g_op rfl (ValOk.op (v_assign rfl rfl ?_)) 
      refine g_nil ?_
      refine hK4 _ ?_
      refine Good.le (σ' := ⟨41, [(0, _), (1, _), (2, _), (6, _)], []⟩) (le_w [] rfl ⟨⟨_, rfl, .refl _⟩, ⟨⟨_, rfl, .refl _⟩, ⟨⟨_, rfl, .refl _⟩, ⟨⟨_, rfl, .refl _⟩, trivial⟩⟩⟩⟩ trivial (by decide)) ?_
      refine Good.le (σ' := ⟨41, [(6, .str [])], []⟩) (le_w [] rfl ⟨⟨_, rfl, .refl _⟩, trivial⟩ trivial (by decide)) ?_
      refine good_ret ?_
      obtain rfl := Option.some.inj h
      refine thenQ_ret ?_
      exact endQ_ret (h' := []) [] (.tmp rfl (.nil)) trivial (by decide) ⟨rfl, rfl⟩
    · replace h := bF h hc1
      refine good_skip ?_
      refine hK2 _ ?_
      refine Good.le (σ' := ⟨41, [(0, _), (1, _), (2, _), (6, _)], []⟩) (le_w [] rfl ⟨⟨_, rfl, .refl _⟩, ⟨⟨_, rfl, .refl _⟩, ⟨⟨_, rfl, .refl _⟩, ⟨⟨_, rfl, .refl _⟩, trivial⟩⟩⟩⟩ trivial (by decide)) ?_
      refine good_seq fun K5 hK5 => ?_
      refine good_region ?_
      refine g_op rfl (ValOk.op (v_move rfl rfl ?_)) 
      obtain ⟨hb1, h⟩ := ifS h
      refine g_op rfl (ValOk.op (v_cat rfl rfl hb1 rfl ?_)) 
      obtain ⟨hb2, h⟩ := ifS h
      refine g_op rfl (ValOk.op (v_cat rfl rfl hb2 rfl ?_)) 
      refine g_op rfl (ValOk.op (v_move rfl rfl ?_)) 
      refine g_op rfl (ValOk.op (v_lenS tabOk rfl rfl tkind9 rfl ?_)) 
      obtain ⟨y1, hy1, h⟩ := bnd h
      refine g_op rfl (o_callR [] [] (core_value rfl rfl) (m_spec_l1Dec_ok k (a1.length : Int) _ hy1) trivial (.cons (.refl _) (.nil)) (.inl rfl) rfl ?_)
      obtain ⟨hb3, h⟩ := ifS h
      refine g_op rfl (ValOk.op (v_cat rfl rfl hb3 rfl ?_)) 
      obtain ⟨hb4, h⟩ := ifS h
      refine g_op rfl (ValOk.op (v_cat rfl rfl hb4 rfl ?_)) 
      refine g_op rfl (ValOk.op (v_move rfl rfl ?_)) 
      refine g_op rfl (ValOk.op (v_lenS tabOk rfl rfl tkind9 rfl ?_)) 
      obtain ⟨y2, hy2, h⟩ := bnd h
      refine g_op rfl (o_callR [] [] (core_value rfl rfl) (m_spec_l1Dec_ok k (a2.length : Int) _ hy2) trivial (.cons (.refl _) (.nil)) (.inl rfl) rfl ?_)
      obtain ⟨hb5, h⟩ := ifS h
      refine g_op rfl (ValOk.op (v_cat rfl rfl hb5 rfl ?_)) 
      obtain ⟨hb6, h⟩ := ifS h
      refine g_op rfl (ValOk.op (v_cat rfl rfl hb6 rfl ?_)) 
      refine g_op rfl (ValOk.op (v_move rfl rfl ?_)) 
      obtain ⟨hb7, h⟩ := ifS h
      refine g_op rfl (ValOk.op (v_cat rfl rfl hb7 rfl ?_)) 
      refine g_op rfl (ValOk.op (v_move rfl rfl ?_)) 
      obtain ⟨hb8, h⟩ := ifS h
      refine g_op rfl (ValOk.op (v_cat rfl rfl hb8 rfl ?_)) 
      refine g_op rfl (ValOk.op (v_assign rfl rfl ?_)) 
      refine g_nil ?_
      refine hK5 _ ?_
      refine Good.le (σ' := ⟨41, [(6, _)], []⟩) (le_w [] rfl ⟨⟨_, rfl, .refl _⟩, trivial⟩ trivial (by decide)) ?_
      refine Good.le (σ' := ⟨41, [(6, .str (((((((([97, 115, 107, 32] ++ a0) ++ [32]) ++ y1) ++ [32]) ++ y2) ++ [10]) ++ a1) ++ a2))], []⟩) (le_w [] rfl ⟨⟨_, rfl, .refl _⟩, trivial⟩ trivial (by decide)) ?_
      refine good_ret ?_
      obtain rfl := Option.some.inj h
      exact endQ_ret (h' := []) [] (.tmp rfl (.nil)) trivial (by decide) ⟨rfl, rfl⟩
  replace h := ho1
  refine good_region ?_
  refine g_op rfl (ValOk.op (v_move rfl rfl ?_)) 
  refine g_op rfl (ValOk.op (v_bin rfl rfl rfl rfl ?_)) 
  refine g_op rfl (ValOk.op (v_move rfl rfl ?_)) 
  rcases bsplit ((!(decide (a0 = [])))) with hg1 | hg1
  · replace h := ifF h (ndT hg1)
    refine g_yes rfl rfl hg1 (ValOk.op (v_move rfl rfl ?_)) 
    obtain ⟨y3, hy3, h⟩ := bnd h
    refine g_yes rfl rfl hg1 (o_callR [] [] (core_value rfl rfl) (m_spec_l1Name_ok k a0 _ hy3) trivial (.cons (.refl _) (.nil)) (.inl rfl) rfl ?_)
    refine g_yes rfl rfl hg1 (ValOk.op (v_not rfl rfl ?_)) 
    refine g_op rfl (ValOk.op (v_pickT rfl hg1 rfl rfl ?_)) 
    refine g_op rfl (ValOk.op (v_move rfl rfl ?_)) 
    rcases bsplit ((!y3)) with hg2 | hg2
    · replace h := bF h (nT hg2)
      refine g_no rfl rfl hg2 rfl ?_
      refine g_no rfl rfl hg2 rfl ?_
      refine g_no rfl rfl hg2 rfl ?_
      refine g_op rfl (ValOk.op (v_pickT rfl hg2 rfl rfl ?_)) 
      refine g_op rfl (ValOk.op (v_move rfl rfl ?_)) 
      refine g_no rfl rfl rfl rfl ?_
      refine g_no rfl rfl rfl rfl ?_
      refine g_no rfl rfl rfl rfl ?_
      refine g_op rfl (ValOk.op (v_pickT rfl rfl rfl rfl ?_)) 
      refine g_nil ?_
      exact hw1 true (Option.some.inj h).symm _ (le_w [] rfl ⟨⟨_, rfl, .refl _⟩, ⟨⟨_, rfl, .refl _⟩, ⟨⟨_, rfl, .refl _⟩, ⟨⟨_, rfl, .refl _⟩, ⟨⟨_, rfl, .refl _⟩, trivial⟩⟩⟩⟩⟩ trivial (by decide))
    · replace h := ifT h (nF hg2)
      refine g_yes rfl rfl hg2 (ValOk.op (v_move rfl rfl ?_)) 
      refine g_yes rfl rfl hg2 (ValOk.op (v_lenS tabOk rfl rfl tkind9 rfl ?_)) 
      refine g_yes rfl rfl hg2 (ValOk.op (v_bin rfl rfl rfl rfl ?_)) 
      refine g_op rfl (ValOk.op (v_pickF rfl hg2 rfl rfl ?_)) 
      refine g_op rfl (ValOk.op (v_move rfl rfl ?_)) 
      rcases bsplit ((decide (1500 < (a1.length : Int)))) with hg3 | hg3
      · replace h := ifT h (dT hg3)
        refine g_no rfl rfl hg3 rfl ?_
        refine g_no rfl rfl hg3 rfl ?_
        refine g_no rfl rfl hg3 rfl ?_
        refine g_op rfl (ValOk.op (v_pickT rfl hg3 rfl rfl ?_)) 
        refine g_nil ?_
        exact hw1 true (Option.some.inj h).symm _ (le_w [] rfl ⟨⟨_, rfl, .refl _⟩, ⟨⟨_, rfl, .refl _⟩, ⟨⟨_, rfl, .refl _⟩, ⟨⟨_, rfl, .refl _⟩, ⟨⟨_, rfl, .refl _⟩, trivial⟩⟩⟩⟩⟩ trivial (by decide))
      · replace h := ifF h (dF hg3)
        refine g_yes rfl rfl hg3 (ValOk.op (v_move rfl rfl ?_)) 
        refine g_yes rfl rfl hg3 (ValOk.op (v_lenS tabOk rfl rfl tkind9 rfl ?_)) 
        refine g_yes rfl rfl hg3 (ValOk.op (v_bin rfl rfl rfl rfl ?_)) 
        refine g_op rfl (ValOk.op (v_pickF rfl hg3 rfl rfl ?_)) 
        refine g_nil ?_
        exact hw1 (decide (2000 < (a2.length : Int))) (Option.some.inj h).symm _ (le_w [] rfl ⟨⟨_, rfl, .refl _⟩, ⟨⟨_, rfl, .refl _⟩, ⟨⟨_, rfl, .refl _⟩, ⟨⟨_, rfl, .refl _⟩, ⟨⟨_, rfl, .refl _⟩, trivial⟩⟩⟩⟩⟩ trivial (by decide))
  · replace h := ifT h (ndF hg1)
    refine g_no rfl rfl hg1 rfl ?_
    refine g_no rfl rfl hg1 rfl ?_
    refine g_no rfl rfl hg1 rfl ?_
    refine g_op rfl (ValOk.op (v_pickF rfl hg1 rfl rfl ?_)) 
    refine g_op rfl (ValOk.op (v_move rfl rfl ?_)) 
    refine g_yes rfl rfl rfl (ValOk.op (v_move rfl rfl ?_)) 
    refine g_yes rfl rfl rfl (ValOk.op (v_lenS tabOk rfl rfl tkind9 rfl ?_)) 
    refine g_yes rfl rfl rfl (ValOk.op (v_bin rfl rfl rfl rfl ?_)) 
    refine g_op rfl (ValOk.op (v_pickF rfl rfl rfl rfl ?_)) 
    refine g_op rfl (ValOk.op (v_move rfl rfl ?_)) 
    rcases bsplit ((decide (1500 < (a1.length : Int)))) with hg4 | hg4
    · replace h := ifT h (dT hg4)
      refine g_no rfl rfl hg4 rfl ?_
      refine g_no rfl rfl hg4 rfl ?_
      refine g_no rfl rfl hg4 rfl ?_
      refine g_op rfl (ValOk.op (v_pickT rfl hg4 rfl rfl ?_)) 
      refine g_nil ?_
      exact hw1 true (Option.some.inj h).symm _ (le_w [] rfl ⟨⟨_, rfl, .refl _⟩, ⟨⟨_, rfl, .refl _⟩, ⟨⟨_, rfl, .refl _⟩, ⟨⟨_, rfl, .refl _⟩, ⟨⟨_, rfl, .refl _⟩, trivial⟩⟩⟩⟩⟩ trivial (by decide))
    · replace h := ifF h (dF hg4)
      refine g_yes rfl rfl hg4 (ValOk.op (v_move rfl rfl ?_)) 
      refine g_yes rfl rfl hg4 (ValOk.op (v_lenS tabOk rfl rfl tkind9 rfl ?_)) 
      refine g_yes rfl rfl hg4 (ValOk.op (v_bin rfl rfl rfl rfl ?_)) 
      refine g_op rfl (ValOk.op (v_pickF rfl hg4 rfl rfl ?_)) 
      refine g_nil ?_
      exact hw1 (decide (2000 < (a2.length : Int))) (Option.some.inj h).symm _ (le_w [] rfl ⟨⟨_, rfl, .refl _⟩, ⟨⟨_, rfl, .refl _⟩, ⟨⟨_, rfl, .refl _⟩, ⟨⟨_, rfl, .refl _⟩, ⟨⟨_, rfl, .refl _⟩, trivial⟩⟩⟩⟩⟩ trivial (by decide))
def m_laws_FnExactAskPut (k : Nat) (a0 : Bs) (a1 : Bs) (a2 : Bs) : Option Bool :=
  if 1048576 < (a0.length : Int) then
    some true
  else
    if 1048576 < (a1.length : Int) then
      some true
    else
      if 1048576 < (a2.length : Int) then
        some true
      else
        (m_spec_AskPut k a0 a1 a2).bind fun y1 =>
        (m_impl_AskPut k a0 a1 a2).bind fun y2 =>
        if y2 = y1 then
          some true
        else
          some false
theorem m_laws_FnExactAskPut_ok (k : Nat) : ∀ (a0 : Bs) (a1 : Bs) (a2 : Bs) (r : Bool), m_laws_FnExactAskPut k a0 a1 a2 = some r → DoesT Tryd.prog 3 [.str a0, .str a1, .str a2] [] (ret (.bool r)) := by
  intro a0 a1 a2 r h
  rw [m_laws_FnExactAskPut] at h
  refine doesT_of_good tabOk Tryd.func3 rfl (by decide +kernel) (Nat.le_of_ble_eq_true rfl) fun c hct => ?_
  refine Good.le (σ' := ⟨29, [(0, .str a0), (1, .str a1), (2, .str a2)], []⟩) (Le.refl _) ?_
  refine good_seq fun K1 hK1 => ?_
  refine good_region ?_
  refine g_op rfl (ValOk.op (v_assign rfl rfl ?_)) 
  refine g_nil ?_
  refine hK1 _ ?_
  refine good_seq fun K2 hK2 => ?_
  refine good_seq fun K3 hK3 => ?_
  refine good_region ?_
  refine g_op rfl (ValOk.op (v_move rfl rfl ?_)) 
  refine g_op rfl (ValOk.op (v_lenS tabOk rfl rfl tkind9 rfl ?_)) 
  refine g_op rfl (ValOk.op (v_bin rfl rfl rfl rfl ?_)) 
  refine g_nil ?_
  refine hK3 _ ?_
  refine Good.le (σ' := ⟨29, [(0, _), (1, _), (2, _), (6, _), (11, _)], []⟩) (le_w [] rfl ⟨⟨_, rfl, .refl _⟩, ⟨⟨_, rfl, .refl _⟩, ⟨⟨_, rfl, .refl _⟩, ⟨⟨_, rfl, .refl _⟩, ⟨⟨_, rfl, .refl _⟩, trivial⟩⟩⟩⟩⟩ trivial (by decide)) ?_
  refine good_cond rfl (fun hc1 => ?_) (fun hc1 => ?_)
  · replace h := ifT h (dT hc1)
    refine good_seq fun K4 hK4 => ?_
    refine good_region ?_
    refine g_op rfl (ValOk.op (v_assign rfl rfl ?_)) 
    refine g_nil ?_
    refine hK4 _ ?_
    refine Good.le (σ' := ⟨29, [(0, _), (1, _), (2, _), (6, _)], []⟩) (le_w [] rfl ⟨⟨_, rfl, .refl _⟩, ⟨⟨_, rfl, .refl _⟩, ⟨⟨_, rfl, .refl _⟩, ⟨⟨_, rfl, .refl _⟩, trivial⟩⟩⟩⟩ trivial (by decide)) ?_
    refine Good.le (σ' := ⟨29, [(6, .bool true)], []⟩) (le_w [] rfl ⟨⟨_, rfl, .refl _⟩, trivial⟩ trivial (by decide)) ?_
    refine good_ret ?_
    obtain rfl := Option.some.inj h
    refine thenQ_ret ?_
    exact endQ_ret (h' := []) [] (.tmp rfl (.nil)) trivial (by decide) ⟨rfl, rfl⟩
  · replace h := ifF h (dF hc1)
    refine good_skip ?_
    refine hK2 _ ?_
    refine Good.le (σ' := ⟨29, [(0, _), (1, _), (2, _), (6, _)], []⟩) (le_w [] rfl ⟨⟨_, rfl, .refl _⟩, ⟨⟨_, rfl, .refl _⟩, ⟨⟨_, rfl, .refl _⟩, ⟨⟨_, rfl, .refl _⟩, trivial⟩⟩⟩⟩ trivial (by decide)) ?_
    refine good_seq fun K5 hK5 => ?_
    refine good_seq fun K6 hK6 => ?_
    refine good_region ?_
    refine g_op rfl (ValOk.op (v_move rfl rfl ?_)) 
    refine g_op rfl (ValOk.op (v_lenS tabOk rfl rfl tkind9 rfl ?_)) 
    refine g_op rfl (ValOk.op (v_bin rfl rfl rfl rfl ?_)) 
    refine g_nil ?_
    refine hK6 _ ?_
    refine Good.le (σ' := ⟨29, [(0, _), (1, _), (2, _), (6, _), (14, _)], []⟩) (le_w [] rfl ⟨⟨_, rfl, .refl _⟩, ⟨⟨_, rfl, .refl _⟩, ⟨⟨_, rfl, .refl _⟩, ⟨⟨_, rfl, .refl _⟩, ⟨⟨_, rfl, .refl _⟩, trivial⟩⟩⟩⟩⟩ trivial (by decide)) ?_
    refine good_cond rfl (fun hc2 => ?_) (fun hc2 => ?_)
    · replace h := ifT h (dT hc2)
      refine good_seq fun K7 hK7 => ?_
      refine good_region ?_
      refine g_op rfl (ValOk.op (v_assign rfl rfl ?_)) 
      refine g_nil ?_
      refine hK7 _ ?_
      refine Good.le (σ' := ⟨29, [(0, _), (1, _), (2, _), (6, _)], []⟩) (le_w [] rfl ⟨⟨_, rfl, .refl _⟩, ⟨⟨_, rfl, .refl _⟩, ⟨⟨_, rfl, .refl _⟩, ⟨⟨_, rfl, .refl _⟩, trivial⟩⟩⟩⟩ trivial (by decide)) ?_
      refine Good.le (σ' := ⟨29, [(6, .bool true)], []⟩) (le_w [] rfl ⟨⟨_, rfl, .refl _⟩, trivial⟩ trivial (by decide)) ?_
      refine good_ret ?_
      obtain rfl := Option.some.inj h
      refine thenQ_ret ?_
      exact endQ_ret (h' := []) [] (.tmp rfl (.nil)) trivial (by decide) ⟨rfl, rfl⟩
    · replace h := ifF h (dF hc2)
      refine good_skip ?_
      refine hK5 _ ?_
      refine Good.le (σ' := ⟨29, [(0, _), (1, _), (2, _), (6, _)], []⟩) (le_w [] rfl ⟨⟨_, rfl, .refl _⟩, ⟨⟨_, rfl, .refl _⟩, ⟨⟨_, rfl, .refl _⟩, ⟨⟨_, rfl, .refl _⟩, trivial⟩⟩⟩⟩ trivial (by decide)) ?_
      refine good_seq fun K8 hK8 => ?_
      refine good_seq fun K9 hK9 => ?_
      refine good_region ?_
      refine g_op rfl (ValOk.op (v_move rfl rfl ?_)) 
      refine g_op rfl (ValOk.op (v_lenS tabOk rfl rfl tkind9 rfl ?_)) 
      refine g_op rfl (ValOk.op (v_bin rfl rfl rfl rfl ?_)) 
      refine g_nil ?_
      refine hK9 _ ?_
      refine Good.le (σ' := ⟨29, [(0, _), (1, _), (2, _), (6, _), (17, _)], []⟩) (le_w [] rfl ⟨⟨_, rfl, .refl _⟩, ⟨⟨_, rfl, .refl _⟩, ⟨⟨_, rfl, .refl _⟩, ⟨⟨_, rfl, .refl _⟩, ⟨⟨_, rfl, .refl _⟩, trivial⟩⟩⟩⟩⟩ trivial (by decide)) ?_
      refine good_cond rfl (fun hc3 => ?_) (fun hc3 => ?_)
      · replace h := ifT h (dT hc3)
        refine good_seq fun K10 hK10 => ?_
        refine good_region ?_
        refine g_op rfl (ValOk.op (v_assign rfl rfl ?_)) 
        refine g_nil ?_
        refine hK10 _ ?_
        refine Good.le (σ' := ⟨29, [(0, _), (1, _), (2, _), (6, _)], []⟩) (le_w [] rfl ⟨⟨_, rfl, .refl _⟩, ⟨⟨_, rfl, .refl _⟩, ⟨⟨_, rfl, .refl _⟩, ⟨⟨_, rfl, .refl _⟩, trivial⟩⟩⟩⟩ trivial (by decide)) ?_
        refine Good.le (σ' := ⟨29, [(6, .bool true)], []⟩) (le_w [] rfl ⟨⟨_, rfl, .refl _⟩, trivial⟩ trivial (by decide)) ?_
        refine good_ret ?_
        obtain rfl := Option.some.inj h
        refine thenQ_ret ?_
        exact endQ_ret (h' := []) [] (.tmp rfl (.nil)) trivial (by decide) ⟨rfl, rfl⟩
      · replace h := ifF h (dF hc3)
        refine good_skip ?_
        refine hK8 _ ?_
        refine Good.le (σ' := ⟨29, [(0, _), (1, _), (2, _), (6, _)], []⟩) (le_w [] rfl ⟨⟨_, rfl, .refl _⟩, ⟨⟨_, rfl, .refl _⟩, ⟨⟨_, rfl, .refl _⟩, ⟨⟨_, rfl, .refl _⟩, trivial⟩⟩⟩⟩ trivial (by decide)) ?_
        refine good_seq fun K11 hK11 => ?_
        refine good_region ?_
        refine g_op rfl (ValOk.op (v_move rfl rfl ?_)) 
        refine g_op rfl (ValOk.op (v_move rfl rfl ?_)) 
        refine g_op rfl (ValOk.op (v_move rfl rfl ?_)) 
        obtain ⟨y1, hy1, h⟩ := bnd h
        refine g_op rfl (o_callR [] [] (core_value rfl rfl) (m_spec_AskPut_ok k a0 a1 a2 _ hy1) trivial (.cons (.refl _) (.cons (.refl _) (.cons (.refl _) (.nil)))) (.inl rfl) rfl ?_)
        refine g_op rfl (ValOk.op (v_assign rfl rfl ?_)) 
        refine g_nil ?_
        refine hK11 _ ?_
        refine Good.le (σ' := ⟨29, [(0, _), (1, _), (2, _), (6, _), (7, _)], []⟩) (le_w [] rfl ⟨⟨_, rfl, .refl _⟩, ⟨⟨_, rfl, .refl _⟩, ⟨⟨_, rfl, .refl _⟩, ⟨⟨_, rfl, .refl _⟩, ⟨⟨_, rfl, .refl _⟩, trivial⟩⟩⟩⟩⟩ trivial (by decide)) ?_
        refine good_seq fun K12 hK12 => ?_
        refine good_region ?_
        refine g_op rfl (ValOk.op (v_move rfl rfl ?_)) 
        refine g_op rfl (ValOk.op (v_move rfl rfl ?_)) 
        refine g_op rfl (ValOk.op (v_move rfl rfl ?_)) 
        obtain ⟨y2, hy2, h⟩ := bnd h
        refine g_op rfl (o_callTR [] [] (core_value rfl rfl) hct (m_impl_AskPut_ok k a0 a1 a2 _ hy2) trivial (.cons (.refl _) (.cons (.refl _) (.cons (.refl _) (.nil)))) (.inl rfl) rfl ?_)
        refine g_op rfl (ValOk.op (v_assign rfl rfl ?_)) 
        refine g_nil ?_
        refine hK12 _ ?_
        refine Good.le (σ' := ⟨29, [(6, _), (7, _), (8, _)], []⟩) (le_w [] rfl ⟨⟨_, rfl, .refl _⟩, ⟨⟨_, rfl, .refl _⟩, ⟨⟨_, rfl, .refl _⟩, trivial⟩⟩⟩ trivial (by decide)) ?_
        refine good_seq fun K13 hK13 => ?_
        refine good_seq fun K14 hK14 => ?_
        refine good_region ?_
        refine g_op rfl (ValOk.op (v_move rfl rfl ?_)) 
        refine g_op rfl (ValOk.op (v_move rfl rfl ?_)) 
        refine g_op rfl (ValOk.op (v_bin rfl rfl rfl rfl ?_)) 
        refine g_nil ?_
        refine hK14 _ ?_
        refine Good.le (σ' := ⟨29, [(6, _), (28, _)], []⟩) (le_w [] rfl ⟨⟨_, rfl, .refl _⟩, ⟨⟨_, rfl, .refl _⟩, trivial⟩⟩ trivial (by decide)) ?_
        refine good_cond rfl (fun hc4 => ?_) (fun hc4 => ?_)
        · replace h := ifF h (ndT hc4)
          refine good_seq fun K15 hK15 => ?_
          refine good_region ?_
          refine g_op rfl (ValOk.op (v_assign rfl rfl ?_)) 
          refine g_nil ?_
          refine hK15 _ ?_
          refine Good.le (σ' := ⟨29, [(6, _)], []⟩) (le_w [] rfl ⟨⟨_, rfl, .refl _⟩, trivial⟩ trivial (by decide)) ?_
          refine Good.le (σ' := ⟨29, [(6, .bool false)], []⟩) (le_w [] rfl ⟨⟨_, rfl, .refl _⟩, trivial⟩ trivial (by decide)) ?_
          refine good_ret ?_
          obtain rfl := Option.some.inj h
          refine thenQ_ret ?_
          exact endQ_ret (h' := []) [] (.tmp rfl (.nil)) trivial (by decide) ⟨rfl, rfl⟩
        · replace h := ifT h (ndF hc4)
          refine good_skip ?_
          refine hK13 _ ?_
          refine Good.le (σ' := ⟨29, [(6, _)], []⟩) (le_w [] rfl ⟨⟨_, rfl, .refl _⟩, trivial⟩ trivial (by decide)) ?_
          refine good_seq fun K16 hK16 => ?_
          refine good_region ?_
          refine g_op rfl (ValOk.op (v_assign rfl rfl ?_)) 
          refine g_nil ?_
          refine hK16 _ ?_
          refine Good.le (σ' := ⟨29, [(6, .bool true)], []⟩) (le_w [] rfl ⟨⟨_, rfl, .refl _⟩, trivial⟩ trivial (by decide)) ?_
          refine good_ret ?_
          obtain rfl := Option.some.inj h
          exact endQ_ret (h' := []) [] (.tmp rfl (.nil)) trivial (by decide) ⟨rfl, rfl⟩
end Go.Proofs.YtopbbjoflopjbaaDoor
