/- What functions of this program answer, as plain functions; each theorem says that the code comes to just that. -/
import Derived.Test.YtopbbjoflopjbaaDat
import Derived.Test.YtopbbjoflopjbaaB13
import Derived.Test.YtopbbjoflopjbaaDatO
import Derived.Test.YtopbbjoflopjbaaB18
/-! Functions of the program. -/
set_option linter.unusedVariables false
set_option maxRecDepth 100000
set_option maxHeartbeats 1000000
namespace Go.Proofs.Ytopbbjoflopjbaa
open Go.Bb
def m_impl_isFigure (a0 : Int) : Option Bool :=
  if 48 ≤ a0 then
    some (decide (a0 ≤ 57))
  else
    some false
theorem m_impl_isFigure_ok : ∀ (a0 : Int) (r : Bool), m_impl_isFigure a0 = some r → Does Try.prog 93 [.int .u8 a0] [] (ret (.bool r)) := by
  intro a0 r h
  rw [m_impl_isFigure] at h
  refine does_of_good tabOk Try.func93 rfl (by decide +kernel) (Nat.le_of_ble_eq_true rfl) fun c => ?_
  refine Good.le (σ' := ⟨9, [(0, .int .u8 a0)], []⟩) (Le.refl _) ?_
  refine good_seq fun K1 hK1 => ?_
  refine good_region ?_
  refine g_op rfl (ValOk.op (v_assign rfl rfl ?_)) 
  refine g_nil ?_
  refine hK1 _ ?_
  refine good_seq fun K2 hK2 => ?_
  refine good_region ?_
  refine g_op rfl (ValOk.op (v_move rfl rfl ?_)) 
  refine g_op rfl (ValOk.op (v_bin rfl rfl rfl rfl ?_)) 
  refine g_op rfl (ValOk.op (v_move rfl rfl ?_)) 
  rcases bsplit ((decide (48 ≤ a0))) with hg1 | hg1
  · replace h := ifT h (dT hg1)
    refine g_yes rfl rfl hg1 (ValOk.op (v_move rfl rfl ?_)) 
    refine g_yes rfl rfl hg1 (ValOk.op (v_bin rfl rfl rfl rfl ?_)) 
    refine g_op rfl (ValOk.op (v_pickT rfl hg1 rfl rfl ?_)) 
    refine g_op rfl (ValOk.op (v_assign rfl rfl ?_)) 
    refine g_nil ?_
    refine hK2 _ ?_
    refine Good.le (σ' := ⟨9, [(2, _)], []⟩) (le_w [] rfl ⟨⟨_, rfl, .refl _⟩, trivial⟩ trivial (by decide)) ?_
    refine Good.le (σ' := ⟨9, [(2, .bool (decide (a0 ≤ 57)))], []⟩) (le_w [] rfl ⟨⟨_, rfl, .refl _⟩, trivial⟩ trivial (by decide)) ?_
    refine good_ret ?_
    obtain rfl := Option.some.inj h
    exact endQ_ret (h' := []) [] (.tmp rfl (.nil)) trivial (by decide) ⟨rfl, rfl⟩
  · replace h := ifF h (dF hg1)
    refine g_no rfl rfl hg1 rfl ?_
    refine g_no rfl rfl hg1 rfl ?_
    refine g_op rfl (ValOk.op (v_pickF rfl hg1 rfl rfl ?_)) 
    refine g_op rfl (ValOk.op (v_assign rfl rfl ?_)) 
    refine g_nil ?_
    refine hK2 _ ?_
    refine Good.le (σ' := ⟨9, [(2, _)], []⟩) (le_w [] rfl ⟨⟨_, rfl, .refl _⟩, trivial⟩ trivial (by decide)) ?_
    refine Good.le (σ' := ⟨9, [(2, .bool false)], []⟩) (le_w [] rfl ⟨⟨_, rfl, .refl _⟩, trivial⟩ trivial (by decide)) ?_
    refine good_ret ?_
    obtain rfl := Option.some.inj h
    exact endQ_ret (h' := []) [] (.tmp rfl (.nil)) trivial (by decide) ⟨rfl, rfl⟩
def m_impl_isWordByte (a0 : Int) : Option Bool :=
  if 97 ≤ a0 then
    if a0 ≤ 122 then
      some true
    else
      if 65 ≤ a0 then
        if a0 ≤ 90 then
          some true
        else
          if a0 = 95 then
            some true
          else
            (m_impl_isFigure a0).bind fun y1 =>
            some y1
      else
        if a0 = 95 then
          some true
        else
          (m_impl_isFigure a0).bind fun y2 =>
          some y2
  else
    if 65 ≤ a0 then
      if a0 ≤ 90 then
        some true
      else
        if a0 = 95 then
          some true
        else
          (m_impl_isFigure a0).bind fun y3 =>
          some y3
    else
      if a0 = 95 then
        some true
      else
        (m_impl_isFigure a0).bind fun y4 =>
        some y4
theorem m_impl_isWordByte_ok : ∀ (a0 : Int) (r : Bool), m_impl_isWordByte a0 = some r → Does Try.prog 94 [.int .u8 a0] [] (ret (.bool r)) := by
  intro a0 r h
  rw [m_impl_isWordByte] at h
  refine does_of_good tabOk Try.func94 rfl (by decide +kernel) (Nat.le_of_ble_eq_true rfl) fun c => ?_
  refine Good.le (σ' := ⟨25, [(0, .int .u8 a0)], []⟩) (Le.refl _) ?_
  refine good_seq fun K1 hK1 => ?_
  refine good_region ?_
  refine g_op rfl (ValOk.op (v_assign rfl rfl ?_)) 
  refine g_nil ?_
  refine hK1 _ ?_
  refine good_seq fun K2 hK2 => ?_
  refine good_region ?_
  refine g_op rfl (ValOk.op (v_move rfl rfl ?_)) 
  refine g_op rfl (ValOk.op (v_bin rfl rfl rfl rfl ?_)) 
  refine g_op rfl (ValOk.op (v_move rfl rfl ?_)) 
  rcases bsplit ((decide (97 ≤ a0))) with hg1 | hg1
  · replace h := ifT h (dT hg1)
    refine g_yes rfl rfl hg1 (ValOk.op (v_move rfl rfl ?_)) 
    refine g_yes rfl rfl hg1 (ValOk.op (v_bin rfl rfl rfl rfl ?_)) 
    refine g_op rfl (ValOk.op (v_pickT rfl hg1 rfl rfl ?_)) 
    refine g_op rfl (ValOk.op (v_move rfl rfl ?_)) 
    rcases bsplit ((decide (a0 ≤ 122))) with hg2 | hg2
    · replace h := ifT h (dT hg2)
      refine g_no rfl rfl hg2 rfl ?_
      refine g_no rfl rfl hg2 rfl ?_
      refine g_no rfl rfl hg2 rfl ?_
      refine g_und rfl rfl rfl ?_
      refine g_und rfl rfl rfl ?_
      refine g_no rfl rfl hg2 rfl ?_
      refine g_op rfl (ValOk.op (v_pickT rfl hg2 rfl rfl ?_)) 
      refine g_op rfl (ValOk.op (v_move rfl rfl ?_)) 
      refine g_no rfl rfl rfl rfl ?_
      refine g_no rfl rfl rfl rfl ?_
      refine g_op rfl (ValOk.op (v_pickT rfl rfl rfl rfl ?_)) 
      refine g_op rfl (ValOk.op (v_move rfl rfl ?_)) 
      refine g_no rfl rfl rfl rfl ?_
      refine g_no rfl rfl rfl rfl ?_
      refine g_op rfl (ValOk.op (v_pickT rfl rfl rfl rfl ?_)) 
      refine g_op rfl (ValOk.op (v_assign rfl rfl ?_)) 
      refine g_nil ?_
      refine hK2 _ ?_
      refine Good.le (σ' := ⟨25, [(2, _)], []⟩) (le_w [] rfl ⟨⟨_, rfl, .refl _⟩, trivial⟩ trivial (by decide)) ?_
      refine Good.le (σ' := ⟨25, [(2, .bool true)], []⟩) (le_w [] rfl ⟨⟨_, rfl, .refl _⟩, trivial⟩ trivial (by decide)) ?_
      refine good_ret ?_
      obtain rfl := Option.some.inj h
      exact endQ_ret (h' := []) [] (.tmp rfl (.nil)) trivial (by decide) ⟨rfl, rfl⟩
    · replace h := ifF h (dF hg2)
      refine g_yes rfl rfl hg2 (ValOk.op (v_move rfl rfl ?_)) 
      refine g_yes rfl rfl hg2 (ValOk.op (v_bin rfl rfl rfl rfl ?_)) 
      refine g_yes rfl rfl hg2 (ValOk.op (v_move rfl rfl ?_)) 
      rcases bsplit ((decide (65 ≤ a0))) with hg3 | hg3
      · replace h := ifT h (dT hg3)
        refine g_yes rfl rfl hg3 (ValOk.op (v_move rfl rfl ?_)) 
        refine g_yes rfl rfl hg3 (ValOk.op (v_bin rfl rfl rfl rfl ?_)) 
        refine g_yes rfl rfl hg2 (ValOk.op (v_pickT rfl hg3 rfl rfl ?_)) 
        refine g_op rfl (ValOk.op (v_pickF rfl hg2 rfl rfl ?_)) 
        refine g_op rfl (ValOk.op (v_move rfl rfl ?_)) 
        rcases bsplit ((decide (a0 ≤ 90))) with hg4 | hg4
        · replace h := ifT h (dT hg4)
          refine g_no rfl rfl hg4 rfl ?_
          refine g_no rfl rfl hg4 rfl ?_
          refine g_op rfl (ValOk.op (v_pickT rfl hg4 rfl rfl ?_)) 
          refine g_op rfl (ValOk.op (v_move rfl rfl ?_)) 
          refine g_no rfl rfl rfl rfl ?_
          refine g_no rfl rfl rfl rfl ?_
          refine g_op rfl (ValOk.op (v_pickT rfl rfl rfl rfl ?_)) 
          refine g_op rfl (ValOk.op (v_assign rfl rfl ?_)) 
          refine g_nil ?_
          refine hK2 _ ?_
          refine Good.le (σ' := ⟨25, [(2, _)], []⟩) (le_w [] rfl ⟨⟨_, rfl, .refl _⟩, trivial⟩ trivial (by decide)) ?_
          refine Good.le (σ' := ⟨25, [(2, .bool true)], []⟩) (le_w [] rfl ⟨⟨_, rfl, .refl _⟩, trivial⟩ trivial (by decide)) ?_
          refine good_ret ?_
          obtain rfl := Option.some.inj h
          exact endQ_ret (h' := []) [] (.tmp rfl (.nil)) trivial (by decide) ⟨rfl, rfl⟩
        · replace h := ifF h (dF hg4)
          refine g_yes rfl rfl hg4 (ValOk.op (v_move rfl rfl ?_)) 
          refine g_yes rfl rfl hg4 (ValOk.op (v_bin rfl rfl rfl rfl ?_)) 
          refine g_op rfl (ValOk.op (v_pickF rfl hg4 rfl rfl ?_)) 
          refine g_op rfl (ValOk.op (v_move rfl rfl ?_)) 
          rcases bsplit ((decide (a0 = 95))) with hg5 | hg5
          · replace h := ifT h (dT hg5)
            refine g_no rfl rfl hg5 rfl ?_
            refine g_no rfl rfl hg5 rfl ?_
            refine g_op rfl (ValOk.op (v_pickT rfl hg5 rfl rfl ?_)) 
            refine g_op rfl (ValOk.op (v_assign rfl rfl ?_)) 
            refine g_nil ?_
            refine hK2 _ ?_
            refine Good.le (σ' := ⟨25, [(2, _)], []⟩) (le_w [] rfl ⟨⟨_, rfl, .refl _⟩, trivial⟩ trivial (by decide)) ?_
            refine Good.le (σ' := ⟨25, [(2, .bool true)], []⟩) (le_w [] rfl ⟨⟨_, rfl, .refl _⟩, trivial⟩ trivial (by decide)) ?_
            refine good_ret ?_
            obtain rfl := Option.some.inj h
            exact endQ_ret (h' := []) [] (.tmp rfl (.nil)) trivial (by decide) ⟨rfl, rfl⟩
          · replace h := ifF h (dF hg5)
            refine g_yes rfl rfl hg5 (ValOk.op (v_move rfl rfl ?_)) 
            obtain ⟨y1, hy1, h⟩ := bnd h
            refine g_yes rfl rfl hg5 (o_callR [] [] (core_value rfl rfl) (m_impl_isFigure_ok a0 _ hy1) trivial (.cons (.refl _) (.nil)) (.inl rfl) rfl ?_)
            refine g_op rfl (ValOk.op (v_pickF rfl hg5 rfl rfl ?_)) 
            refine g_op rfl (ValOk.op (v_assign rfl rfl ?_)) 
            refine g_nil ?_
            refine hK2 _ ?_
            refine Good.le (σ' := ⟨25, [(2, _)], []⟩) (le_w [] rfl ⟨⟨_, rfl, .refl _⟩, trivial⟩ trivial (by decide)) ?_
            refine Good.le (σ' := ⟨25, [(2, .bool y1)], []⟩) (le_w [] rfl ⟨⟨_, rfl, .refl _⟩, trivial⟩ trivial (by decide)) ?_
            refine good_ret ?_
            obtain rfl := Option.some.inj h
            exact endQ_ret (h' := []) [] (.tmp rfl (.nil)) trivial (by decide) ⟨rfl, rfl⟩
      · replace h := ifF h (dF hg3)
        refine g_no rfl rfl hg3 rfl ?_
        refine g_no rfl rfl hg3 rfl ?_
        refine g_yes rfl rfl hg2 (ValOk.op (v_pickF rfl hg3 rfl rfl ?_)) 
        refine g_op rfl (ValOk.op (v_pickF rfl hg2 rfl rfl ?_)) 
        refine g_op rfl (ValOk.op (v_move rfl rfl ?_)) 
        refine g_yes rfl rfl rfl (ValOk.op (v_move rfl rfl ?_)) 
        refine g_yes rfl rfl rfl (ValOk.op (v_bin rfl rfl rfl rfl ?_)) 
        refine g_op rfl (ValOk.op (v_pickF rfl rfl rfl rfl ?_)) 
        refine g_op rfl (ValOk.op (v_move rfl rfl ?_)) 
        rcases bsplit ((decide (a0 = 95))) with hg6 | hg6
        · replace h := ifT h (dT hg6)
          refine g_no rfl rfl hg6 rfl ?_
          refine g_no rfl rfl hg6 rfl ?_
          refine g_op rfl (ValOk.op (v_pickT rfl hg6 rfl rfl ?_)) 
          refine g_op rfl (ValOk.op (v_assign rfl rfl ?_)) 
          refine g_nil ?_
          refine hK2 _ ?_
          refine Good.le (σ' := ⟨25, [(2, _)], []⟩) (le_w [] rfl ⟨⟨_, rfl, .refl _⟩, trivial⟩ trivial (by decide)) ?_
          refine Good.le (σ' := ⟨25, [(2, .bool true)], []⟩) (le_w [] rfl ⟨⟨_, rfl, .refl _⟩, trivial⟩ trivial (by decide)) ?_
          refine good_ret ?_
          obtain rfl := Option.some.inj h
          exact endQ_ret (h' := []) [] (.tmp rfl (.nil)) trivial (by decide) ⟨rfl, rfl⟩
        · replace h := ifF h (dF hg6)
          refine g_yes rfl rfl hg6 (ValOk.op (v_move rfl rfl ?_)) 
          obtain ⟨y2, hy2, h⟩ := bnd h
          refine g_yes rfl rfl hg6 (o_callR [] [] (core_value rfl rfl) (m_impl_isFigure_ok a0 _ hy2) trivial (.cons (.refl _) (.nil)) (.inl rfl) rfl ?_)
          refine g_op rfl (ValOk.op (v_pickF rfl hg6 rfl rfl ?_)) 
          refine g_op rfl (ValOk.op (v_assign rfl rfl ?_)) 
          refine g_nil ?_
          refine hK2 _ ?_
          refine Good.le (σ' := ⟨25, [(2, _)], []⟩) (le_w [] rfl ⟨⟨_, rfl, .refl _⟩, trivial⟩ trivial (by decide)) ?_
          refine Good.le (σ' := ⟨25, [(2, .bool y2)], []⟩) (le_w [] rfl ⟨⟨_, rfl, .refl _⟩, trivial⟩ trivial (by decide)) ?_
          refine good_ret ?_
          obtain rfl := Option.some.inj h
          exact endQ_ret (h' := []) [] (.tmp rfl (.nil)) trivial (by decide) ⟨rfl, rfl⟩
  · replace h := ifF h (dF hg1)
    refine g_no rfl rfl hg1 rfl ?_
    refine g_no rfl rfl hg1 rfl ?_
    refine g_op rfl (ValOk.op (v_pickF rfl hg1 rfl rfl ?_)) 
    refine g_op rfl (ValOk.op (v_move rfl rfl ?_)) 
    refine g_yes rfl rfl rfl (ValOk.op (v_move rfl rfl ?_)) 
    refine g_yes rfl rfl rfl (ValOk.op (v_bin rfl rfl rfl rfl ?_)) 
    refine g_yes rfl rfl rfl (ValOk.op (v_move rfl rfl ?_)) 
    rcases bsplit ((decide (65 ≤ a0))) with hg7 | hg7
    · replace h := ifT h (dT hg7)
      refine g_yes rfl rfl hg7 (ValOk.op (v_move rfl rfl ?_)) 
      refine g_yes rfl rfl hg7 (ValOk.op (v_bin rfl rfl rfl rfl ?_)) 
      refine g_yes rfl rfl rfl (ValOk.op (v_pickT rfl hg7 rfl rfl ?_)) 
      refine g_op rfl (ValOk.op (v_pickF rfl rfl rfl rfl ?_)) 
      refine g_op rfl (ValOk.op (v_move rfl rfl ?_)) 
      rcases bsplit ((decide (a0 ≤ 90))) with hg8 | hg8
      · replace h := ifT h (dT hg8)
        refine g_no rfl rfl hg8 rfl ?_
        refine g_no rfl rfl hg8 rfl ?_
        refine g_op rfl (ValOk.op (v_pickT rfl hg8 rfl rfl ?_)) 
        refine g_op rfl (ValOk.op (v_move rfl rfl ?_)) 
        refine g_no rfl rfl rfl rfl ?_
        refine g_no rfl rfl rfl rfl ?_
        refine g_op rfl (ValOk.op (v_pickT rfl rfl rfl rfl ?_)) 
        refine g_op rfl (ValOk.op (v_assign rfl rfl ?_)) 
        refine g_nil ?_
        refine hK2 _ ?_
        refine Good.le (σ' := ⟨25, [(2, _)], []⟩) (le_w [] rfl ⟨⟨_, rfl, .refl _⟩, trivial⟩ trivial (by decide)) ?_
        refine Good.le (σ' := ⟨25, [(2, .bool true)], []⟩) (le_w [] rfl ⟨⟨_, rfl, .refl _⟩, trivial⟩ trivial (by decide)) ?_
        refine good_ret ?_
        obtain rfl := Option.some.inj h
        exact endQ_ret (h' := []) [] (.tmp rfl (.nil)) trivial (by decide) ⟨rfl, rfl⟩
      · replace h := ifF h (dF hg8)
        refine g_yes rfl rfl hg8 (ValOk.op (v_move rfl rfl ?_)) 
        refine g_yes rfl rfl hg8 (ValOk.op (v_bin rfl rfl rfl rfl ?_)) 
        refine g_op rfl (ValOk.op (v_pickF rfl hg8 rfl rfl ?_)) 
        refine g_op rfl (ValOk.op (v_move rfl rfl ?_)) 
        rcases bsplit ((decide (a0 = 95))) with hg9 | hg9
        · replace h := ifT h (dT hg9)
          refine g_no rfl rfl hg9 rfl ?_
          refine g_no rfl rfl hg9 rfl ?_
          refine g_op rfl (ValOk.op (v_pickT rfl hg9 rfl rfl ?_)) 
          refine g_op rfl (ValOk.op (v_assign rfl rfl ?_)) 
          refine g_nil ?_
          refine hK2 _ ?_
          refine Good.le (σ' := ⟨25, [(2, _)], []⟩) (le_w [] rfl ⟨⟨_, rfl, .refl _⟩, trivial⟩ trivial (by decide)) ?_
          refine Good.le (σ' := ⟨25, [(2, .bool true)], []⟩) (le_w [] rfl ⟨⟨_, rfl, .refl _⟩, trivial⟩ trivial (by decide)) ?_
          refine good_ret ?_
          obtain rfl := Option.some.inj h
          exact endQ_ret (h' := []) [] (.tmp rfl (.nil)) trivial (by decide) ⟨rfl, rfl⟩
        · replace h := ifF h (dF hg9)
          refine g_yes rfl rfl hg9 (ValOk.op (v_move rfl rfl ?_)) 
          obtain ⟨y3, hy3, h⟩ := bnd h
          refine g_yes rfl rfl hg9 (o_callR [] [] (core_value rfl rfl) (m_impl_isFigure_ok a0 _ hy3) trivial (.cons (.refl _) (.nil)) (.inl rfl) rfl ?_)
          refine g_op rfl (ValOk.op (v_pickF rfl hg9 rfl rfl ?_)) 
          refine g_op rfl (ValOk.op (v_assign rfl rfl ?_)) 
          refine g_nil ?_
          refine hK2 _ ?_
          refine Good.le (σ' := ⟨25, [(2, _)], []⟩) (le_w [] rfl ⟨⟨_, rfl, .refl _⟩, trivial⟩ trivial (by decide)) ?_
          refine Good.le (σ' := ⟨25, [(2, .bool y3)], []⟩) (le_w [] rfl ⟨⟨_, rfl, .refl _⟩, trivial⟩ trivial (by decide)) ?_
          refine good_ret ?_
          obtain rfl := Option.some.inj h
          exact endQ_ret (h' := []) [] (.tmp rfl (.nil)) trivial (by decide) ⟨rfl, rfl⟩
    · replace h := ifF h (dF hg7)
      refine g_no rfl rfl hg7 rfl ?_
      refine g_no rfl rfl hg7 rfl ?_
      refine g_yes rfl rfl rfl (ValOk.op (v_pickF rfl hg7 rfl rfl ?_)) 
      refine g_op rfl (ValOk.op (v_pickF rfl rfl rfl rfl ?_)) 
      refine g_op rfl (ValOk.op (v_move rfl rfl ?_)) 
      refine g_yes rfl rfl rfl (ValOk.op (v_move rfl rfl ?_)) 
      refine g_yes rfl rfl rfl (ValOk.op (v_bin rfl rfl rfl rfl ?_)) 
      refine g_op rfl (ValOk.op (v_pickF rfl rfl rfl rfl ?_)) 
      refine g_op rfl (ValOk.op (v_move rfl rfl ?_)) 
      rcases bsplit ((decide (a0 = 95))) with hg10 | hg10
      · replace h := ifT h (dT hg10)
        refine g_no rfl rfl hg10 rfl ?_
        refine g_no rfl rfl hg10 rfl ?_
        refine g_op rfl (ValOk.op (v_pickT rfl hg10 rfl rfl ?_)) 
        refine g_op rfl (ValOk.op (v_assign rfl rfl ?_)) 
        refine g_nil ?_
        refine hK2 _ ?_
        refine Good.le (σ' := ⟨25, [(2, _)], []⟩) (le_w [] rfl ⟨⟨_, rfl, .refl _⟩, trivial⟩ trivial (by decide)) ?_
        refine Good.le (σ' := ⟨25, [(2, .bool true)], []⟩) (le_w [] rfl ⟨⟨_, rfl, .refl _⟩, trivial⟩ trivial (by decide)) ?_
        refine good_ret ?_
        obtain rfl := Option.some.inj h
        exact endQ_ret (h' := []) [] (.tmp rfl (.nil)) trivial (by decide) ⟨rfl, rfl⟩
      · replace h := ifF h (dF hg10)
        refine g_yes rfl rfl hg10 (ValOk.op (v_move rfl rfl ?_)) 
        obtain ⟨y4, hy4, h⟩ := bnd h
        refine g_yes rfl rfl hg10 (o_callR [] [] (core_value rfl rfl) (m_impl_isFigure_ok a0 _ hy4) trivial (.cons (.refl _) (.nil)) (.inl rfl) rfl ?_)
        refine g_op rfl (ValOk.op (v_pickF rfl hg10 rfl rfl ?_)) 
        refine g_op rfl (ValOk.op (v_assign rfl rfl ?_)) 
        refine g_nil ?_
        refine hK2 _ ?_
        refine Good.le (σ' := ⟨25, [(2, _)], []⟩) (le_w [] rfl ⟨⟨_, rfl, .refl _⟩, trivial⟩ trivial (by decide)) ?_
        refine Good.le (σ' := ⟨25, [(2, .bool y4)], []⟩) (le_w [] rfl ⟨⟨_, rfl, .refl _⟩, trivial⟩ trivial (by decide)) ?_
        refine good_ret ?_
        obtain rfl := Option.some.inj h
        exact endQ_ret (h' := []) [] (.tmp rfl (.nil)) trivial (by decide) ⟨rfl, rfl⟩
def m_impl_isName_l1 : Nat → Bs → Int → Option (Lp Unit Bool)
  | 0, _, _ => none
  | k + 1, a0, x1 =>
    if x1 < (a0.length : Int) then
      if (0 : Int) ≤ x1 ∧ x1 < (a0.length : Int) then
        (m_impl_isWordByte (byt a0 x1)).bind fun y1 =>
        if y1 = true then
          m_impl_isName_l1 k a0 (IntKind.wrap .i64 (x1 + 1))
        else
          (some false).bind fun z =>
          some (Lp.ret z)
      else none
    else
      some (Lp.go ())
def m_impl_isName (k : Nat) (a0 : Bs) : Option Bool :=
  (if (a0.length : Int) < 1 then
      some (Lp.go true)
    else
      if 12 < (a0.length : Int) then
        some (Lp.go true)
      else
        if (0 : Int) ≤ 0 ∧ 0 < (a0.length : Int) then
          (m_impl_isFigure (byt a0 0)).bind fun y2 =>
          some (Lp.go y2)
        else none).bind fun o1 =>
  o1.then fun s1 =>
    if s1 = true then
      some false
    else
      (m_impl_isName_l1 k a0 0).bind fun o2 =>
      o2.then fun s2 =>
    some true
theorem m_impl_isName_ok (k : Nat) : ∀ (a0 : Bs) (r : Bool), m_impl_isName k a0 = some r → Does Try.prog 83 [.str a0] [] (ret (.bool r)) := by
  intro a0 r h
  rw [m_impl_isName] at h
  refine does_of_good tabOk Try.func83 rfl (by decide +kernel) (Nat.le_of_ble_eq_true rfl) fun c => ?_
  refine Good.le (σ' := ⟨28, [(0, .str a0)], []⟩) (Le.refl _) ?_
  refine good_seq fun K1 hK1 => ?_
  refine good_region ?_
  refine g_op rfl (ValOk.op (v_assign rfl rfl ?_)) 
  refine g_nil ?_
  refine hK1 _ ?_
  refine good_seq fun K2 hK2 => ?_
  refine good_seq fun K3 hK3 => ?_
  obtain ⟨o1, ho1, hJ1⟩ := bnd h
  have hw1 : ∀ (s1 : Bool), o1 = Lp.go s1 → ∀ σ', Le σ' ⟨28, [(0, .str a0), (2, .bool false), (16, .bool s1)], []⟩ → K3 σ' := by
    intro s1 e1 σ' hle1
    subst e1
    refine hK3 _ (Good.le hle1 ?_)
    replace h := hJ1
    refine good_cond rfl (fun hc1 => ?_) (fun hc1 => ?_)
    · replace h := ifT h hc1
      refine good_seq fun K4 hK4 => ?_
      refine good_region ?_
      refine g_op rfl (ValOk.op (v_assign rfl rfl ?_)) 
      refine g_nil ?_
      refine hK4 _ ?_
      refine Good.le (σ' := ⟨28, [(0, _), (2, _)], []⟩) (le_w [] rfl ⟨⟨_, rfl, .refl _⟩, ⟨⟨_, rfl, .refl _⟩, trivial⟩⟩ trivial (by decide)) ?_
      refine Good.le (σ' := ⟨28, [(2, .bool false)], []⟩) (le_w [] rfl ⟨⟨_, rfl, .refl _⟩, trivial⟩ trivial (by decide)) ?_
      refine good_ret ?_
      obtain rfl := Option.some.inj h
      refine thenQ_ret ?_
      exact endQ_ret (h' := []) [] (.tmp rfl (.nil)) trivial (by decide) ⟨rfl, rfl⟩
    · replace h := bF h hc1
      refine good_skip ?_
      refine hK2 _ ?_
      refine Good.le (σ' := ⟨28, [(0, _), (2, _)], []⟩) (le_w [] rfl ⟨⟨_, rfl, .refl _⟩, ⟨⟨_, rfl, .refl _⟩, trivial⟩⟩ trivial (by decide)) ?_
      refine good_seq fun K5 hK5 => ?_
      refine good_seq fun K6 hK6 => ?_
      refine good_region ?_
      refine g_op rfl (ValOk.op (v_move rfl rfl ?_)) 
      refine g_op rfl (ValOk.op (v_lenS tabOk rfl rfl tkind9 rfl ?_)) 
      refine g_op rfl (ValOk.op (v_move rfl rfl ?_)) 
      refine g_nil ?_
      refine hK6 _ ?_
      refine Good.le (σ' := ⟨28, [(0, _), (2, _), (18, _), (19, _)], []⟩) (le_w [] rfl ⟨⟨_, rfl, .refl _⟩, ⟨⟨_, rfl, .refl _⟩, ⟨⟨_, rfl, .refl _⟩, ⟨⟨_, rfl, .refl _⟩, trivial⟩⟩⟩⟩ trivial (by decide)) ?_
      obtain ⟨o2, ho2, hJ2⟩ := bnd h
      have hw2 : ∀ (s2 : Unit), o2 = Lp.go s2 → ∀ σ', Le σ' ⟨28, [(2, .bool false)], []⟩ → K5 σ' := by
        intro s2 e2 σ' hle2
        subst e2
        refine hK5 _ (Good.le hle2 ?_)
        replace h := hJ2
        refine good_seq fun K7 hK7 => ?_
        refine good_region ?_
        refine g_op rfl (ValOk.op (v_assign rfl rfl ?_)) 
        refine g_nil ?_
        refine hK7 _ ?_
        refine Good.le (σ' := ⟨28, [(2, .bool true)], []⟩) (le_w [] rfl ⟨⟨_, rfl, .refl _⟩, trivial⟩ trivial (by decide)) ?_
        refine good_ret ?_
        obtain rfl := Option.some.inj h
        exact endQ_ret (h' := []) [] (.tmp rfl (.nil)) trivial (by decide) ⟨rfl, rfl⟩
      replace h := ho2
      refine good_block ?_
      refine good_loopf (fun p : Int => ⟨28, [(0, .str a0), (2, .bool false), (18, .int .i64 (a0.length : Int)), (19, .int .i64 p)], []⟩) (fun m p => m_impl_isName_l1 m a0 p = some o2) k (0) (le_w [] rfl ⟨⟨_, rfl, .refl _⟩, ⟨⟨_, rfl, .refl _⟩, ⟨⟨_, rfl, .refl _⟩, ⟨⟨_, rfl, .refl _⟩, trivial⟩⟩⟩⟩ trivial (by decide)) h ?_
      rintro m1 x1 h
      replace h : m_impl_isName_l1 m1 a0 x1 = some o2 := h
      refine Good.le (σ' := ⟨28, [(0, .str a0), (2, .bool false), (18, .int .i64 (a0.length : Int)), (19, .int .i64 x1)], []⟩) (Le.refl _) ?_
      obtain ⟨m1, rfl⟩ : ∃ m', m1 = m' + 1 := by cases m1 with | zero => (rw [m_impl_isName_l1] at h; cases h) | succ m' => exact ⟨m', rfl⟩
      rw [m_impl_isName_l1] at h
      refine good_seq fun K8 hK8 => ?_
      refine good_region ?_
      refine g_op rfl (ValOk.op (v_bin rfl rfl rfl rfl ?_)) 
      refine g_nil ?_
      refine hK8 _ ?_
      refine good_seq fun K9 hK9 => ?_
      refine good_cond rfl (fun hc2 => ?_) (fun hc2 => ?_)
      · replace h := ifT h (dT hc2)
        refine good_skip ?_
        refine hK9 _ ?_
        refine Good.le (σ' := ⟨28, [(0, _), (2, _), (18, _), (19, _)], []⟩) (le_w [] rfl ⟨⟨_, rfl, .refl _⟩, ⟨⟨_, rfl, .refl _⟩, ⟨⟨_, rfl, .refl _⟩, ⟨⟨_, rfl, .refl _⟩, trivial⟩⟩⟩⟩ trivial (by decide)) ?_
        refine good_seq fun K10 hK10 => ?_
        refine good_block ?_
        refine good_seq fun K11 hK11 => ?_
        refine good_region ?_
        refine g_op rfl (ValOk.op (v_move rfl rfl ?_)) 
        refine g_op rfl (ValOk.op (v_assign rfl rfl ?_)) 
        refine g_nil ?_
        refine hK11 _ ?_
        refine Good.le (σ' := ⟨28, [(0, _), (2, _), (3, _), (18, _), (19, _)], []⟩) (le_w [] rfl ⟨⟨_, rfl, .refl _⟩, ⟨⟨_, rfl, .refl _⟩, ⟨⟨_, rfl, .refl _⟩, ⟨⟨_, rfl, .refl _⟩, ⟨⟨_, rfl, .refl _⟩, trivial⟩⟩⟩⟩⟩ trivial (by decide)) ?_
        refine good_seq fun K12 hK12 => ?_
        refine good_region ?_
        refine g_op rfl (ValOk.op (v_move rfl rfl ?_)) 
        refine g_op rfl (ValOk.op (v_move rfl rfl ?_)) 
        obtain ⟨hb1, h⟩ := ifS h
        refine g_op rfl (ValOk.op (v_indexM tabOk rfl rfl tkind9 hb1 rfl ?_)) 
        obtain ⟨y1, hy1, h⟩ := bnd h
        refine g_op rfl (o_callR [] [] (core_value rfl rfl) (m_impl_isWordByte_ok (byt a0 x1) _ hy1) trivial (.cons (.refl _) (.nil)) (.inl rfl) rfl ?_)
        refine g_op rfl (ValOk.op (v_not rfl rfl ?_)) 
        refine g_nil ?_
        refine hK12 _ ?_
        refine Good.le (σ' := ⟨28, [(0, _), (2, _), (18, _), (19, _), (26, _)], []⟩) (le_w [] rfl ⟨⟨_, rfl, .refl _⟩, ⟨⟨_, rfl, .refl _⟩, ⟨⟨_, rfl, .refl _⟩, ⟨⟨_, rfl, .refl _⟩, ⟨⟨_, rfl, .refl _⟩, trivial⟩⟩⟩⟩⟩ trivial (by decide)) ?_
        refine good_cond rfl (fun hc3 => ?_) (fun hc3 => ?_)
        · replace h := bF h (nT hc3)
          refine good_seq fun K13 hK13 => ?_
          refine good_region ?_
          refine g_op rfl (ValOk.op (v_assign rfl rfl ?_)) 
          refine g_nil ?_
          refine hK13 _ ?_
          refine Good.le (σ' := ⟨28, [(0, _), (2, _), (18, _), (19, _)], []⟩) (le_w [] rfl ⟨⟨_, rfl, .refl _⟩, ⟨⟨_, rfl, .refl _⟩, ⟨⟨_, rfl, .refl _⟩, ⟨⟨_, rfl, .refl _⟩, trivial⟩⟩⟩⟩ trivial (by decide)) ?_
          refine Good.le (σ' := ⟨28, [(2, .bool false)], []⟩) (le_w [] rfl ⟨⟨_, rfl, .refl _⟩, trivial⟩ trivial (by decide)) ?_
          refine good_ret ?_
          replace h := unret h hJ2
          obtain rfl := Option.some.inj h
          refine blockQ_ret ?_
          refine thenQ_ret ?_
          refine thenQ_ret ?_
          refine blockQ_ret ?_
          refine thenQ_ret ?_
          exact endQ_ret (h' := []) [] (.tmp rfl (.nil)) trivial (by decide) ⟨rfl, rfl⟩
        · replace h := ifT h (nF hc3)
          refine good_skip ?_
          refine hK10 _ ?_
          refine Good.le (σ' := ⟨28, [(0, _), (2, _), (18, _), (19, _)], []⟩) (le_w [] rfl ⟨⟨_, rfl, .refl _⟩, ⟨⟨_, rfl, .refl _⟩, ⟨⟨_, rfl, .refl _⟩, ⟨⟨_, rfl, .refl _⟩, trivial⟩⟩⟩⟩ trivial (by decide)) ?_
          refine good_region ?_
          refine g_op rfl (ValOk.op (v_bin rfl rfl rfl rfl ?_)) 
          refine g_op rfl (ValOk.op (v_move rfl rfl ?_)) 
          refine g_nil ?_
          exact round_mk m1 (IntKind.wrap .i64 (x1 + 1)) (Nat.lt_succ_self _) h (le_w [] rfl ⟨⟨_, rfl, .refl _⟩, ⟨⟨_, rfl, .refl _⟩, ⟨⟨_, rfl, .refl _⟩, ⟨⟨_, rfl, .refl _⟩, trivial⟩⟩⟩⟩ trivial (by decide))
      · replace h := ifF h (dF hc2)
        refine good_exit ?_
        exact hw2 () (Option.some.inj h).symm _ (le_w [] rfl ⟨⟨_, rfl, .refl _⟩, trivial⟩ trivial (by decide))
  replace h := ho1
  refine good_region ?_
  refine g_op rfl (ValOk.op (v_move rfl rfl ?_)) 
  refine g_op rfl (ValOk.op (v_lenS tabOk rfl rfl tkind9 rfl ?_)) 
  refine g_op rfl (ValOk.op (v_bin rfl rfl rfl rfl ?_)) 
  refine g_op rfl (ValOk.op (v_move rfl rfl ?_)) 
  rcases bsplit ((decide ((a0.length : Int) < 1))) with hg1 | hg1
  · replace h := ifT h (dT hg1)
    refine g_no rfl rfl hg1 rfl ?_
    refine g_no rfl rfl hg1 rfl ?_
    refine g_no rfl rfl hg1 rfl ?_
    refine g_op rfl (ValOk.op (v_pickT rfl hg1 rfl rfl ?_)) 
    refine g_op rfl (ValOk.op (v_move rfl rfl ?_)) 
    refine g_no rfl rfl rfl rfl ?_
    refine g_no rfl rfl rfl rfl ?_
    refine g_no rfl rfl rfl rfl ?_
    refine g_op rfl (ValOk.op (v_pickT rfl rfl rfl rfl ?_)) 
    refine g_nil ?_
    exact hw1 true (Option.some.inj h).symm _ (le_w [] rfl ⟨⟨_, rfl, .refl _⟩, ⟨⟨_, rfl, .refl _⟩, ⟨⟨_, rfl, .refl _⟩, trivial⟩⟩⟩ trivial (by decide))
  · replace h := ifF h (dF hg1)
    refine g_yes rfl rfl hg1 (ValOk.op (v_move rfl rfl ?_)) 
    refine g_yes rfl rfl hg1 (ValOk.op (v_lenS tabOk rfl rfl tkind9 rfl ?_)) 
    refine g_yes rfl rfl hg1 (ValOk.op (v_bin rfl rfl rfl rfl ?_)) 
    refine g_op rfl (ValOk.op (v_pickF rfl hg1 rfl rfl ?_)) 
    refine g_op rfl (ValOk.op (v_move rfl rfl ?_)) 
    rcases bsplit ((decide (12 < (a0.length : Int)))) with hg2 | hg2
    · replace h := ifT h (dT hg2)
      refine g_no rfl rfl hg2 rfl ?_
      refine g_no rfl rfl hg2 rfl ?_
      refine g_no rfl rfl hg2 rfl ?_
      refine g_op rfl (ValOk.op (v_pickT rfl hg2 rfl rfl ?_)) 
      refine g_nil ?_
      exact hw1 true (Option.some.inj h).symm _ (le_w [] rfl ⟨⟨_, rfl, .refl _⟩, ⟨⟨_, rfl, .refl _⟩, ⟨⟨_, rfl, .refl _⟩, trivial⟩⟩⟩ trivial (by decide))
    · replace h := ifF h (dF hg2)
      refine g_yes rfl rfl hg2 (ValOk.op (v_move rfl rfl ?_)) 
      obtain ⟨hb2, h⟩ := ifS h
      refine g_yes rfl rfl hg2 (ValOk.op (v_indexM tabOk rfl rfl tkind9 hb2 rfl ?_)) 
      obtain ⟨y2, hy2, h⟩ := bnd h
      refine g_yes rfl rfl hg2 (o_callR [] [] (core_value rfl rfl) (m_impl_isFigure_ok (byt a0 0) _ hy2) trivial (.cons (.refl _) (.nil)) (.inl rfl) rfl ?_)
      refine g_op rfl (ValOk.op (v_pickF rfl hg2 rfl rfl ?_)) 
      refine g_nil ?_
      exact hw1 y2 (Option.some.inj h).symm _ (le_w [] rfl ⟨⟨_, rfl, .refl _⟩, ⟨⟨_, rfl, .refl _⟩, ⟨⟨_, rfl, .refl _⟩, trivial⟩⟩⟩ trivial (by decide))
def m_internal_stringslite_HasSuffix (a0 : Bs) (a1 : Bs) : Option Bool :=
  if (a1.length : Int) ≤ (a0.length : Int) then
    if (0 : Int) ≤ (IntKind.wrap .i64 ((a0.length : Int) - (a1.length : Int))) ∧ (IntKind.wrap .i64 ((a0.length : Int) - (a1.length : Int))) ≤ (a0.length : Int) ∧ (a0.length : Int) ≤ (a0.length : Int) then
      some (decide ((sub a0 (IntKind.wrap .i64 ((a0.length : Int) - (a1.length : Int))) (a0.length : Int)) = a1))
    else none
  else
    some false
theorem m_internal_stringslite_HasSuffix_ok : ∀ (a0 : Bs) (a1 : Bs) (r : Bool), m_internal_stringslite_HasSuffix a0 a1 = some r → Does Try.prog 96 [.str a0, .str a1] [] (ret (.bool r)) := by
  intro a0 a1 r h
  rw [m_internal_stringslite_HasSuffix] at h
  refine does_of_good tabOk Try.func96 rfl (by decide +kernel) (Nat.le_of_ble_eq_true rfl) fun c => ?_
  refine Good.le (σ' := ⟨21, [(0, .str a0), (1, .str a1)], []⟩) (Le.refl _) ?_
  refine good_seq fun K1 hK1 => ?_
  refine good_region ?_
  refine g_op rfl (ValOk.op (v_assign rfl rfl ?_)) 
  refine g_nil ?_
  refine hK1 _ ?_
  refine good_seq fun K2 hK2 => ?_
  refine good_region ?_
  refine g_op rfl (ValOk.op (v_move rfl rfl ?_)) 
  refine g_op rfl (ValOk.op (v_lenS tabOk rfl rfl tkind9 rfl ?_)) 
  refine g_op rfl (ValOk.op (v_move rfl rfl ?_)) 
  refine g_op rfl (ValOk.op (v_lenS tabOk rfl rfl tkind9 rfl ?_)) 
  refine g_op rfl (ValOk.op (v_bin rfl rfl rfl rfl ?_)) 
  refine g_op rfl (ValOk.op (v_move rfl rfl ?_)) 
  rcases bsplit ((decide ((a1.length : Int) ≤ (a0.length : Int)))) with hg1 | hg1
  · replace h := ifT h (dT hg1)
    refine g_yes rfl rfl hg1 (ValOk.op (v_move rfl rfl ?_)) 
    refine g_yes rfl rfl hg1 (ValOk.op (v_move rfl rfl ?_)) 
    refine g_yes rfl rfl hg1 (ValOk.op (v_lenS tabOk rfl rfl tkind9 rfl ?_)) 
    refine g_yes rfl rfl hg1 (ValOk.op (v_move rfl rfl ?_)) 
    refine g_yes rfl rfl hg1 (ValOk.op (v_lenS tabOk rfl rfl tkind9 rfl ?_)) 
    refine g_yes rfl rfl hg1 (ValOk.op (v_bin rfl rfl rfl rfl ?_)) 
    obtain ⟨hb1, h⟩ := ifS h
    refine g_yes rfl rfl hg1 (ValOk.op (v_sliceSM tabOk rfl rfl rfl rfl tkind9 hb1 rfl ?_)) 
    refine g_yes rfl rfl hg1 (ValOk.op (v_move rfl rfl ?_)) 
    refine g_yes rfl rfl hg1 (ValOk.op (v_bin rfl rfl rfl rfl ?_)) 
    refine g_op rfl (ValOk.op (v_pickT rfl hg1 rfl rfl ?_)) 
    refine g_op rfl (ValOk.op (v_assign rfl rfl ?_)) 
    refine g_nil ?_
    refine hK2 _ ?_
    refine Good.le (σ' := ⟨21, [(4, _)], []⟩) (le_w [] rfl ⟨⟨_, rfl, .refl _⟩, trivial⟩ trivial (by decide)) ?_
    refine Good.le (σ' := ⟨21, [(4, .bool (decide ((sub a0 (IntKind.wrap .i64 ((a0.length : Int) - (a1.length : Int))) (a0.length : Int)) = a1)))], []⟩) (le_w [] rfl ⟨⟨_, rfl, .refl _⟩, trivial⟩ trivial (by decide)) ?_
    refine good_ret ?_
    obtain rfl := Option.some.inj h
    exact endQ_ret (h' := []) [] (.tmp rfl (.nil)) trivial (by decide) ⟨rfl, rfl⟩
  · replace h := ifF h (dF hg1)
    refine g_no rfl rfl hg1 rfl ?_
    refine g_no rfl rfl hg1 rfl ?_
    refine g_no rfl rfl hg1 rfl ?_
    refine g_no rfl rfl hg1 rfl ?_
    refine g_no rfl rfl hg1 rfl ?_
    refine g_no rfl rfl hg1 rfl ?_
    refine g_no rfl rfl hg1 rfl ?_
    refine g_no rfl rfl hg1 rfl ?_
    refine g_no rfl rfl hg1 rfl ?_
    refine g_op rfl (ValOk.op (v_pickF rfl hg1 rfl rfl ?_)) 
    refine g_op rfl (ValOk.op (v_assign rfl rfl ?_)) 
    refine g_nil ?_
    refine hK2 _ ?_
    refine Good.le (σ' := ⟨21, [(4, _)], []⟩) (le_w [] rfl ⟨⟨_, rfl, .refl _⟩, trivial⟩ trivial (by decide)) ?_
    refine Good.le (σ' := ⟨21, [(4, .bool false)], []⟩) (le_w [] rfl ⟨⟨_, rfl, .refl _⟩, trivial⟩ trivial (by decide)) ?_
    refine good_ret ?_
    obtain rfl := Option.some.inj h
    exact endQ_ret (h' := []) [] (.tmp rfl (.nil)) trivial (by decide) ⟨rfl, rfl⟩
def m_internal_stringslite_CutSuffix (a0 : Bs) (a1 : Bs) : Option (Bs × Bool) :=
  (m_internal_stringslite_HasSuffix a0 a1).bind fun y1 =>
  if y1 = true then
    if (0 : Int) ≤ 0 ∧ 0 ≤ (IntKind.wrap .i64 ((a0.length : Int) - (a1.length : Int))) ∧ (IntKind.wrap .i64 ((a0.length : Int) - (a1.length : Int))) ≤ (a0.length : Int) then
      some (sub a0 0 (IntKind.wrap .i64 ((a0.length : Int) - (a1.length : Int))), true)
    else none
  else
    some (a0, false)
theorem m_internal_stringslite_CutSuffix_ok : ∀ (a0 : Bs) (a1 : Bs) (r : (Bs × Bool)), m_internal_stringslite_CutSuffix a0 a1 = some r → Does Try.prog 91 [.str a0, .str a1] [] (ret (.tup [.str r.1, .bool r.2])) := by
  intro a0 a1 r h
  rw [m_internal_stringslite_CutSuffix] at h
  refine does_of_good tabOk Try.func91 rfl (by decide +kernel) (Nat.le_of_ble_eq_true rfl) fun c => ?_
  refine Good.le (σ' := ⟨18, [(0, .str a0), (1, .str a1)], []⟩) (Le.refl _) ?_
  refine good_seq fun K1 hK1 => ?_
  refine good_region ?_
  refine g_op rfl (ValOk.op (v_assign rfl rfl ?_)) 
  refine g_op rfl (ValOk.op (v_assign rfl rfl ?_)) 
  refine g_nil ?_
  refine hK1 _ ?_
  refine good_seq fun K2 hK2 => ?_
  refine good_seq fun K3 hK3 => ?_
  refine good_region ?_
  refine g_op rfl (ValOk.op (v_move rfl rfl ?_)) 
  refine g_op rfl (ValOk.op (v_move rfl rfl ?_)) 
  obtain ⟨y1, hy1, h⟩ := bnd h
  refine g_op rfl (o_callR [] [] (core_value rfl rfl) (m_internal_stringslite_HasSuffix_ok a0 a1 _ hy1) trivial (.cons (.refl _) (.cons (.refl _) (.nil))) (.inl rfl) rfl ?_)
  refine g_op rfl (ValOk.op (v_not rfl rfl ?_)) 
  refine g_nil ?_
  refine hK3 _ ?_
  refine Good.le (σ' := ⟨18, [(0, _), (1, _), (4, _), (5, _), (9, _)], []⟩) (le_w [] rfl ⟨⟨_, rfl, .refl _⟩, ⟨⟨_, rfl, .refl _⟩, ⟨⟨_, rfl, .refl _⟩, ⟨⟨_, rfl, .refl _⟩, ⟨⟨_, rfl, .refl _⟩, trivial⟩⟩⟩⟩⟩ trivial (by decide)) ?_
  refine good_cond rfl (fun hc1 => ?_) (fun hc1 => ?_)
  · replace h := bF h (nT hc1)
    refine good_seq fun K4 hK4 => ?_
    refine good_region ?_
    refine g_op rfl (ValOk.op (v_move rfl rfl ?_)) 
    refine g_op rfl (ValOk.op (v_assign rfl rfl ?_)) 
    refine g_op rfl (ValOk.op (v_assign rfl rfl ?_)) 
    refine g_nil ?_
    refine hK4 _ ?_
    refine Good.le (σ' := ⟨18, [(0, _), (1, _), (4, _), (5, _)], []⟩) (le_w [] rfl ⟨⟨_, rfl, .refl _⟩, ⟨⟨_, rfl, .refl _⟩, ⟨⟨_, rfl, .refl _⟩, ⟨⟨_, rfl, .refl _⟩, trivial⟩⟩⟩⟩ trivial (by decide)) ?_
    refine Good.le (σ' := ⟨18, [(4, .str a0), (5, .bool false)], []⟩) (le_w [] rfl ⟨⟨_, rfl, .refl _⟩, ⟨⟨_, rfl, .refl _⟩, trivial⟩⟩ trivial (by decide)) ?_
    refine good_ret ?_
    obtain rfl := Option.some.inj h
    refine thenQ_ret ?_
    exact endQ_ret (h' := []) [] (.tmp rfl (.tmp rfl (.nil))) trivial (by decide) ⟨rfl, rfl⟩
  · replace h := ifT h (nF hc1)
    refine good_skip ?_
    refine hK2 _ ?_
    refine Good.le (σ' := ⟨18, [(0, _), (1, _), (4, _), (5, _)], []⟩) (le_w [] rfl ⟨⟨_, rfl, .refl _⟩, ⟨⟨_, rfl, .refl _⟩, ⟨⟨_, rfl, .refl _⟩, ⟨⟨_, rfl, .refl _⟩, trivial⟩⟩⟩⟩ trivial (by decide)) ?_
    refine good_seq fun K5 hK5 => ?_
    refine good_region ?_
    refine g_op rfl (ValOk.op (v_move rfl rfl ?_)) 
    refine g_op rfl (ValOk.op (v_move rfl rfl ?_)) 
    refine g_op rfl (ValOk.op (v_lenS tabOk rfl rfl tkind9 rfl ?_)) 
    refine g_op rfl (ValOk.op (v_move rfl rfl ?_)) 
    refine g_op rfl (ValOk.op (v_lenS tabOk rfl rfl tkind9 rfl ?_)) 
    refine g_op rfl (ValOk.op (v_bin rfl rfl rfl rfl ?_)) 
    obtain ⟨hb1, h⟩ := ifS h
    refine g_op rfl (ValOk.op (v_sliceSM tabOk rfl rfl rfl rfl tkind9 hb1 rfl ?_)) 
    refine g_op rfl (ValOk.op (v_assign rfl rfl ?_)) 
    refine g_op rfl (ValOk.op (v_assign rfl rfl ?_)) 
    refine g_nil ?_
    refine hK5 _ ?_
    refine Good.le (σ' := ⟨18, [(4, _), (5, _)], []⟩) (le_w [] rfl ⟨⟨_, rfl, .refl _⟩, ⟨⟨_, rfl, .refl _⟩, trivial⟩⟩ trivial (by decide)) ?_
    refine Good.le (σ' := ⟨18, [(4, .str (sub a0 0 (IntKind.wrap .i64 ((a0.length : Int) - (a1.length : Int))))), (5, .bool true)], []⟩) (le_w [] rfl ⟨⟨_, rfl, .refl _⟩, ⟨⟨_, rfl, .refl _⟩, trivial⟩⟩ trivial (by decide)) ?_
    refine good_ret ?_
    obtain rfl := Option.some.inj h
    exact endQ_ret (h' := []) [] (.tmp rfl (.tmp rfl (.nil))) trivial (by decide) ⟨rfl, rfl⟩
def m_strings_CutSuffix (a0 : Bs) (a1 : Bs) : Option (Bs × Bool) :=
  (m_internal_stringslite_CutSuffix a0 a1).bind fun y1 =>
  some (y1.1, y1.2)
theorem m_strings_CutSuffix_ok : ∀ (a0 : Bs) (a1 : Bs) (r : (Bs × Bool)), m_strings_CutSuffix a0 a1 = some r → Does Try.prog 81 [.str a0, .str a1] [] (ret (.tup [.str r.1, .bool r.2])) := by
  intro a0 a1 r h
  rw [m_strings_CutSuffix] at h
  refine does_of_good tabOk Try.func81 rfl (by decide +kernel) (Nat.le_of_ble_eq_true rfl) fun c => ?_
  refine Good.le (σ' := ⟨11, [(0, .str a0), (1, .str a1)], []⟩) (Le.refl _) ?_
  refine good_seq fun K1 hK1 => ?_
  refine good_region ?_
  refine g_op rfl (ValOk.op (v_assign rfl rfl ?_)) 
  refine g_op rfl (ValOk.op (v_assign rfl rfl ?_)) 
  refine g_nil ?_
  refine hK1 _ ?_
  refine good_seq fun K2 hK2 => ?_
  refine good_region ?_
  refine g_op rfl (ValOk.op (v_move rfl rfl ?_)) 
  refine g_op rfl (ValOk.op (v_move rfl rfl ?_)) 
  obtain ⟨y1, hy1, h⟩ := bnd h
  refine g_op rfl (o_callR [] [] (core_value rfl rfl) (m_internal_stringslite_CutSuffix_ok a0 a1 _ hy1) trivial (.cons (.refl _) (.cons (.refl _) (.nil))) (.inl rfl) rfl ?_)
  refine g_op rfl (ValOk.op (v_extract rfl rfl rfl ?_)) 
  refine g_op rfl (ValOk.op (v_extract rfl rfl rfl ?_)) 
  refine g_op rfl (ValOk.op (v_assign rfl rfl ?_)) 
  refine g_op rfl (ValOk.op (v_assign rfl rfl ?_)) 
  refine g_nil ?_
  refine hK2 _ ?_
  refine Good.le (σ' := ⟨11, [(4, _), (5, _)], []⟩) (le_w [] rfl ⟨⟨_, rfl, .refl _⟩, ⟨⟨_, rfl, .refl _⟩, trivial⟩⟩ trivial (by decide)) ?_
  refine Good.le (σ' := ⟨11, [(4, .str y1.1), (5, .bool y1.2)], []⟩) (le_w [] rfl ⟨⟨_, rfl, .refl _⟩, ⟨⟨_, rfl, .refl _⟩, trivial⟩⟩ trivial (by decide)) ?_
  refine good_ret ?_
  obtain rfl := Option.some.inj h
  exact endQ_ret (h' := []) [] (.tmp rfl (.tmp rfl (.nil))) trivial (by decide) ⟨rfl, rfl⟩
def m_internal_stringslite_HasPrefix (a0 : Bs) (a1 : Bs) : Option Bool :=
  if (a1.length : Int) ≤ (a0.length : Int) then
    if (0 : Int) ≤ 0 ∧ 0 ≤ (a1.length : Int) ∧ (a1.length : Int) ≤ (a0.length : Int) then
      some (decide ((sub a0 0 (a1.length : Int)) = a1))
    else none
  else
    some false
theorem m_internal_stringslite_HasPrefix_ok : ∀ (a0 : Bs) (a1 : Bs) (r : Bool), m_internal_stringslite_HasPrefix a0 a1 = some r → Does Try.prog 97 [.str a0, .str a1] [] (ret (.bool r)) := by
  intro a0 a1 r h
  rw [m_internal_stringslite_HasPrefix] at h
  refine does_of_good tabOk Try.func97 rfl (by decide +kernel) (Nat.le_of_ble_eq_true rfl) fun c => ?_
  refine Good.le (σ' := ⟨18, [(0, .str a0), (1, .str a1)], []⟩) (Le.refl _) ?_
  refine good_seq fun K1 hK1 => ?_
  refine good_region ?_
  refine g_op rfl (ValOk.op (v_assign rfl rfl ?_)) 
  refine g_nil ?_
  refine hK1 _ ?_
  refine good_seq fun K2 hK2 => ?_
  refine good_region ?_
  refine g_op rfl (ValOk.op (v_move rfl rfl ?_)) 
  refine g_op rfl (ValOk.op (v_lenS tabOk rfl rfl tkind9 rfl ?_)) 
  refine g_op rfl (ValOk.op (v_move rfl rfl ?_)) 
  refine g_op rfl (ValOk.op (v_lenS tabOk rfl rfl tkind9 rfl ?_)) 
  refine g_op rfl (ValOk.op (v_bin rfl rfl rfl rfl ?_)) 
  refine g_op rfl (ValOk.op (v_move rfl rfl ?_)) 
  rcases bsplit ((decide ((a1.length : Int) ≤ (a0.length : Int)))) with hg1 | hg1
  · replace h := ifT h (dT hg1)
    refine g_yes rfl rfl hg1 (ValOk.op (v_move rfl rfl ?_)) 
    refine g_yes rfl rfl hg1 (ValOk.op (v_move rfl rfl ?_)) 
    refine g_yes rfl rfl hg1 (ValOk.op (v_lenS tabOk rfl rfl tkind9 rfl ?_)) 
    obtain ⟨hb1, h⟩ := ifS h
    refine g_yes rfl rfl hg1 (ValOk.op (v_sliceSM tabOk rfl rfl rfl rfl tkind9 hb1 rfl ?_)) 
    refine g_yes rfl rfl hg1 (ValOk.op (v_move rfl rfl ?_)) 
    refine g_yes rfl rfl hg1 (ValOk.op (v_bin rfl rfl rfl rfl ?_)) 
    refine g_op rfl (ValOk.op (v_pickT rfl hg1 rfl rfl ?_)) 
    refine g_op rfl (ValOk.op (v_assign rfl rfl ?_)) 
    refine g_nil ?_
    refine hK2 _ ?_
    refine Good.le (σ' := ⟨18, [(4, _)], []⟩) (le_w [] rfl ⟨⟨_, rfl, .refl _⟩, trivial⟩ trivial (by decide)) ?_
    refine Good.le (σ' := ⟨18, [(4, .bool (decide ((sub a0 0 (a1.length : Int)) = a1)))], []⟩) (le_w [] rfl ⟨⟨_, rfl, .refl _⟩, trivial⟩ trivial (by decide)) ?_
    refine good_ret ?_
    obtain rfl := Option.some.inj h
    exact endQ_ret (h' := []) [] (.tmp rfl (.nil)) trivial (by decide) ⟨rfl, rfl⟩
  · replace h := ifF h (dF hg1)
    refine g_no rfl rfl hg1 rfl ?_
    refine g_no rfl rfl hg1 rfl ?_
    refine g_no rfl rfl hg1 rfl ?_
    refine g_no rfl rfl hg1 rfl ?_
    refine g_no rfl rfl hg1 rfl ?_
    refine g_no rfl rfl hg1 rfl ?_
    refine g_op rfl (ValOk.op (v_pickF rfl hg1 rfl rfl ?_)) 
    refine g_op rfl (ValOk.op (v_assign rfl rfl ?_)) 
    refine g_nil ?_
    refine hK2 _ ?_
    refine Good.le (σ' := ⟨18, [(4, _)], []⟩) (le_w [] rfl ⟨⟨_, rfl, .refl _⟩, trivial⟩ trivial (by decide)) ?_
    refine Good.le (σ' := ⟨18, [(4, .bool false)], []⟩) (le_w [] rfl ⟨⟨_, rfl, .refl _⟩, trivial⟩ trivial (by decide)) ?_
    refine good_ret ?_
    obtain rfl := Option.some.inj h
    exact endQ_ret (h' := []) [] (.tmp rfl (.nil)) trivial (by decide) ⟨rfl, rfl⟩
def m_internal_stringslite_CutPrefix (a0 : Bs) (a1 : Bs) : Option (Bs × Bool) :=
  (m_internal_stringslite_HasPrefix a0 a1).bind fun y1 =>
  if y1 = true then
    if (0 : Int) ≤ (a1.length : Int) ∧ (a1.length : Int) ≤ (a0.length : Int) ∧ (a0.length : Int) ≤ (a0.length : Int) then
      some (sub a0 (a1.length : Int) (a0.length : Int), true)
    else none
  else
    some (a0, false)
theorem m_internal_stringslite_CutPrefix_ok : ∀ (a0 : Bs) (a1 : Bs) (r : (Bs × Bool)), m_internal_stringslite_CutPrefix a0 a1 = some r → Does Try.prog 92 [.str a0, .str a1] [] (ret (.tup [.str r.1, .bool r.2])) := by
  intro a0 a1 r h
  rw [m_internal_stringslite_CutPrefix] at h
  refine does_of_good tabOk Try.func92 rfl (by decide +kernel) (Nat.le_of_ble_eq_true rfl) fun c => ?_
  refine Good.le (σ' := ⟨15, [(0, .str a0), (1, .str a1)], []⟩) (Le.refl _) ?_
  refine good_seq fun K1 hK1 => ?_
  refine good_region ?_
  refine g_op rfl (ValOk.op (v_assign rfl rfl ?_)) 
  refine g_op rfl (ValOk.op (v_assign rfl rfl ?_)) 
  refine g_nil ?_
  refine hK1 _ ?_
  refine good_seq fun K2 hK2 => ?_
  refine good_seq fun K3 hK3 => ?_
  refine good_region ?_
  refine g_op rfl (ValOk.op (v_move rfl rfl ?_)) 
  refine g_op rfl (ValOk.op (v_move rfl rfl ?_)) 
  obtain ⟨y1, hy1, h⟩ := bnd h
  refine g_op rfl (o_callR [] [] (core_value rfl rfl) (m_internal_stringslite_HasPrefix_ok a0 a1 _ hy1) trivial (.cons (.refl _) (.cons (.refl _) (.nil))) (.inl rfl) rfl ?_)
  refine g_op rfl (ValOk.op (v_not rfl rfl ?_)) 
  refine g_nil ?_
  refine hK3 _ ?_
  refine Good.le (σ' := ⟨15, [(0, _), (1, _), (4, _), (5, _), (9, _)], []⟩) (le_w [] rfl ⟨⟨_, rfl, .refl _⟩, ⟨⟨_, rfl, .refl _⟩, ⟨⟨_, rfl, .refl _⟩, ⟨⟨_, rfl, .refl _⟩, ⟨⟨_, rfl, .refl _⟩, trivial⟩⟩⟩⟩⟩ trivial (by decide)) ?_
  refine good_cond rfl (fun hc1 => ?_) (fun hc1 => ?_)
  · replace h := bF h (nT hc1)
    refine good_seq fun K4 hK4 => ?_
    refine good_region ?_
    refine g_op rfl (ValOk.op (v_move rfl rfl ?_)) 
    refine g_op rfl (ValOk.op (v_assign rfl rfl ?_)) 
    refine g_op rfl (ValOk.op (v_assign rfl rfl ?_)) 
    refine g_nil ?_
    refine hK4 _ ?_
    refine Good.le (σ' := ⟨15, [(0, _), (1, _), (4, _), (5, _)], []⟩) (le_w [] rfl ⟨⟨_, rfl, .refl _⟩, ⟨⟨_, rfl, .refl _⟩, ⟨⟨_, rfl, .refl _⟩, ⟨⟨_, rfl, .refl _⟩, trivial⟩⟩⟩⟩ trivial (by decide)) ?_
    refine Good.le (σ' := ⟨15, [(4, .str a0), (5, .bool false)], []⟩) (le_w [] rfl ⟨⟨_, rfl, .refl _⟩, ⟨⟨_, rfl, .refl _⟩, trivial⟩⟩ trivial (by decide)) ?_
    refine good_ret ?_
    obtain rfl := Option.some.inj h
    refine thenQ_ret ?_
    exact endQ_ret (h' := []) [] (.tmp rfl (.tmp rfl (.nil))) trivial (by decide) ⟨rfl, rfl⟩
  · replace h := ifT h (nF hc1)
    refine good_skip ?_
    refine hK2 _ ?_
    refine Good.le (σ' := ⟨15, [(0, _), (1, _), (4, _), (5, _)], []⟩) (le_w [] rfl ⟨⟨_, rfl, .refl _⟩, ⟨⟨_, rfl, .refl _⟩, ⟨⟨_, rfl, .refl _⟩, ⟨⟨_, rfl, .refl _⟩, trivial⟩⟩⟩⟩ trivial (by decide)) ?_
    refine good_seq fun K5 hK5 => ?_
    refine good_region ?_
    refine g_op rfl (ValOk.op (v_move rfl rfl ?_)) 
    refine g_op rfl (ValOk.op (v_move rfl rfl ?_)) 
    refine g_op rfl (ValOk.op (v_lenS tabOk rfl rfl tkind9 rfl ?_)) 
    obtain ⟨hb1, h⟩ := ifS h
    refine g_op rfl (ValOk.op (v_sliceSM tabOk rfl rfl rfl rfl tkind9 hb1 rfl ?_)) 
    refine g_op rfl (ValOk.op (v_assign rfl rfl ?_)) 
    refine g_op rfl (ValOk.op (v_assign rfl rfl ?_)) 
    refine g_nil ?_
    refine hK5 _ ?_
    refine Good.le (σ' := ⟨15, [(4, _), (5, _)], []⟩) (le_w [] rfl ⟨⟨_, rfl, .refl _⟩, ⟨⟨_, rfl, .refl _⟩, trivial⟩⟩ trivial (by decide)) ?_
    refine Good.le (σ' := ⟨15, [(4, .str (sub a0 (a1.length : Int) (a0.length : Int))), (5, .bool true)], []⟩) (le_w [] rfl ⟨⟨_, rfl, .refl _⟩, ⟨⟨_, rfl, .refl _⟩, trivial⟩⟩ trivial (by decide)) ?_
    refine good_ret ?_
    obtain rfl := Option.some.inj h
    exact endQ_ret (h' := []) [] (.tmp rfl (.tmp rfl (.nil))) trivial (by decide) ⟨rfl, rfl⟩
def m_strings_CutPrefix (a0 : Bs) (a1 : Bs) : Option (Bs × Bool) :=
  (m_internal_stringslite_CutPrefix a0 a1).bind fun y1 =>
  some (y1.1, y1.2)
theorem m_strings_CutPrefix_ok : ∀ (a0 : Bs) (a1 : Bs) (r : (Bs × Bool)), m_strings_CutPrefix a0 a1 = some r → Does Try.prog 82 [.str a0, .str a1] [] (ret (.tup [.str r.1, .bool r.2])) := by
  intro a0 a1 r h
  rw [m_strings_CutPrefix] at h
  refine does_of_good tabOk Try.func82 rfl (by decide +kernel) (Nat.le_of_ble_eq_true rfl) fun c => ?_
  refine Good.le (σ' := ⟨11, [(0, .str a0), (1, .str a1)], []⟩) (Le.refl _) ?_
  refine good_seq fun K1 hK1 => ?_
  refine good_region ?_
  refine g_op rfl (ValOk.op (v_assign rfl rfl ?_)) 
  refine g_op rfl (ValOk.op (v_assign rfl rfl ?_)) 
  refine g_nil ?_
  refine hK1 _ ?_
  refine good_seq fun K2 hK2 => ?_
  refine good_region ?_
  refine g_op rfl (ValOk.op (v_move rfl rfl ?_)) 
  refine g_op rfl (ValOk.op (v_move rfl rfl ?_)) 
  obtain ⟨y1, hy1, h⟩ := bnd h
  refine g_op rfl (o_callR [] [] (core_value rfl rfl) (m_internal_stringslite_CutPrefix_ok a0 a1 _ hy1) trivial (.cons (.refl _) (.cons (.refl _) (.nil))) (.inl rfl) rfl ?_)
  refine g_op rfl (ValOk.op (v_extract rfl rfl rfl ?_)) 
  refine g_op rfl (ValOk.op (v_extract rfl rfl rfl ?_)) 
  refine g_op rfl (ValOk.op (v_assign rfl rfl ?_)) 
  refine g_op rfl (ValOk.op (v_assign rfl rfl ?_)) 
  refine g_nil ?_
  refine hK2 _ ?_
  refine Good.le (σ' := ⟨11, [(4, _), (5, _)], []⟩) (le_w [] rfl ⟨⟨_, rfl, .refl _⟩, ⟨⟨_, rfl, .refl _⟩, trivial⟩⟩ trivial (by decide)) ?_
  refine Good.le (σ' := ⟨11, [(4, .str y1.1), (5, .bool y1.2)], []⟩) (le_w [] rfl ⟨⟨_, rfl, .refl _⟩, ⟨⟨_, rfl, .refl _⟩, trivial⟩⟩ trivial (by decide)) ?_
  refine good_ret ?_
  obtain rfl := Option.some.inj h
  exact endQ_ret (h' := []) [] (.tmp rfl (.tmp rfl (.nil))) trivial (by decide) ⟨rfl, rfl⟩
def m_impl_typeWithin : Nat → Bs → Int → Option (Typ × Bool)
  | 0, _, _ => none
  | k + 1, a0, a1 =>
    (m_strings_CutSuffix a0 [33]).bind fun y1 =>
    if a1 < 1 then
      some ((Typ.mk ([] : Bs) ([] : List Typ) false), false)
    else
      (m_strings_CutPrefix y1.1 [91]).bind fun y2 =>
      if y2.2 = true then
        (m_strings_CutSuffix y2.1 [93]).bind fun y4 =>
        if y4.2 = true then
          (m_impl_typeWithin k y4.1 (IntKind.wrap .i64 (a1 - 1))).bind fun y5 =>
          some ((Typ.mk ([] : Bs) [y5.1] y1.2), y5.2)
        else
          some ((Typ.mk ([] : Bs) ([] : List Typ) false), false)
      else
        (m_impl_isName k y1.1).bind fun y3 =>
        some ((Typ.mk y1.1 ([] : List Typ) y1.2), y3)
def P_m_impl_typeWithin (k : Nat) : Prop := ∀ (a0 : Bs) (a1 : Int) (r : (Typ × Bool)), m_impl_typeWithin k a0 a1 = some r → Does Try.prog 61 [.str a0, .int .i64 a1] [] (fun q h' => ∃ u0 : Value, q = .tup [.agg [.str r.1.name, .hd 100 u0, .bool r.1.must], .bool r.2] ∧ h' = [(100, (u0, .osl 48 3 (r.1.of_.map encOTyp)))])
theorem m_impl_typeWithin_step (k : Nat) (ih : ∀ m, m < k → P_m_impl_typeWithin m) : P_m_impl_typeWithin k := by
  intro a0 a1 r h
  obtain ⟨k, rfl⟩ : ∃ k', k = k' + 1 := by cases k with | zero => (rw [m_impl_typeWithin] at h; cases h) | succ k' => exact ⟨k', rfl⟩
  rw [m_impl_typeWithin] at h
  refine does_of_good tabOk Try.func61 rfl (by decide +kernel) (Nat.le_of_ble_eq_true rfl) fun c => ?_
  refine Good.le (σ' := ⟨52, [(0, .str a0), (1, .int .i64 a1)], []⟩) (Le.refl _) ?_
  refine good_seq fun K1 hK1 => ?_
  refine good_region ?_
  refine g_op rfl (o_alloc (k := 14) tabOk tzero48 rfl rfl ?_)
  intro b1
  refine g_op rfl (ValOk.op (v_assign rfl rfl ?_)) 
  refine g_nil ?_
  refine hK1 _ ?_
  refine good_seq fun K2 hK2 => ?_
  refine good_region ?_
  refine g_op rfl (ValOk.op (v_build tabOk (cs := [.str ([] : Bs), .nil, .bool false]) tzero48 tsok48 rfl rfl rfl ?_)) 
  refine g_op rfl (o_alloc (k := 16) tabOk tzero48 rfl rfl ?_)
  intro b2
  refine g_op rfl (o_storeP tabOk (cs' := [.str ([] : Bs), .nil, .bool false]) rfl rfl tsize48 rfl rfl rfl (Nat.le_of_ble_eq_true rfl) rfl rfl rfl ?_)
  refine g_nil ?_
  refine hK2 _ ?_
  refine Good.le (σ' := ⟨52, [(0, _), (1, _), (4, _), (5, _), (6, _)], [(14, (_, _)), (16, (_, _))]⟩) (le_w [some 14, some 16] rfl ⟨⟨_, rfl, .refl _⟩, ⟨⟨_, rfl, .refl _⟩, ⟨⟨_, rfl, .refl _⟩, ⟨⟨_, rfl, .refl _⟩, ⟨⟨_, rfl, .refl _⟩, trivial⟩⟩⟩⟩⟩ ⟨⟨_, rfl, .refl _⟩, ⟨⟨_, rfl, .refl _⟩, trivial⟩⟩ (by decide)) ?_
  refine good_seq fun K3 hK3 => ?_
  refine good_region ?_
  refine g_op rfl (ValOk.op (v_move rfl rfl ?_)) 
  obtain ⟨y1, hy1, h⟩ := bnd h
  refine g_op rfl (o_callR [] [] (core_value rfl rfl) (m_strings_CutSuffix_ok a0 [33] _ hy1) trivial (.cons (.refl _) (.cons (.refl _) (.nil))) (.inl rfl) rfl ?_)
  refine g_op rfl (ValOk.op (v_move rfl rfl ?_)) 
  refine g_op rfl (ValOk.op (v_extract rfl rfl rfl ?_)) 
  refine g_op rfl (ValOk.op (v_extract rfl rfl rfl ?_)) 
  refine g_op rfl (ValOk.op (v_assign rfl rfl ?_)) 
  refine g_op rfl (ValOk.op (v_fieldP tabOk rfl tfoff48_2 rfl ?_)) 
  refine g_op rfl (o_storeP tabOk (cs' := [.str ([] : Bs), .nil, .bool y1.2]) rfl rfl tsize4 rfl rfl rfl (Nat.le_of_ble_eq_true rfl) rfl rfl rfl ?_)
  refine g_nil ?_
  refine hK3 _ ?_
  refine Good.le (σ' := ⟨52, [(0, _), (1, _), (4, _), (5, _), (6, _)], [(14, (_, _)), (16, (_, _))]⟩) (le_w [some 14, some 16] rfl ⟨⟨_, rfl, .refl _⟩, ⟨⟨_, rfl, .refl _⟩, ⟨⟨_, rfl, .refl _⟩, ⟨⟨_, rfl, .refl _⟩, ⟨⟨_, rfl, .refl _⟩, trivial⟩⟩⟩⟩⟩ ⟨⟨_, rfl, .refl _⟩, ⟨⟨_, rfl, .refl _⟩, trivial⟩⟩ (by decide)) ?_
  refine good_seq fun K4 hK4 => ?_
  refine good_seq fun K5 hK5 => ?_
  refine good_region ?_
  refine g_op rfl (ValOk.op (v_move rfl rfl ?_)) 
  refine g_op rfl (ValOk.op (v_bin rfl rfl rfl rfl ?_)) 
  refine g_nil ?_
  refine hK5 _ ?_
  refine Good.le (σ' := ⟨52, [(0, _), (1, _), (4, _), (5, _), (6, _), (18, _)], [(14, (_, _)), (16, (_, _))]⟩) (le_w [some 14, some 16] rfl ⟨⟨_, rfl, .refl _⟩, ⟨⟨_, rfl, .refl _⟩, ⟨⟨_, rfl, .refl _⟩, ⟨⟨_, rfl, .refl _⟩, ⟨⟨_, rfl, .refl _⟩, ⟨⟨_, rfl, .refl _⟩, trivial⟩⟩⟩⟩⟩⟩ ⟨⟨_, rfl, .refl _⟩, ⟨⟨_, rfl, .refl _⟩, trivial⟩⟩ (by decide)) ?_
  refine good_cond rfl (fun hc1 => ?_) (fun hc1 => ?_)
  · replace h := ifT h (dT hc1)
    refine good_seq fun K6 hK6 => ?_
    refine good_region ?_
    refine g_op rfl (ValOk.op (v_build tabOk (cs := [.str ([] : Bs), .nil, .bool false]) tzero48 tsok48 rfl rfl rfl ?_)) 
    refine g_op rfl (o_storeP tabOk (cs' := [.str ([] : Bs), .nil, .bool false]) rfl rfl tsize48 rfl rfl rfl (Nat.le_of_ble_eq_true rfl) rfl rfl rfl ?_)
    refine g_op rfl (ValOk.op (v_assign rfl rfl ?_)) 
    refine g_nil ?_
    refine hK6 _ ?_
    refine Good.le (σ' := ⟨52, [(0, _), (1, _), (4, _), (5, _), (6, _)], [(14, (_, _)), (16, (_, _))]⟩) (le_w [some 14, some 16] rfl ⟨⟨_, rfl, .refl _⟩, ⟨⟨_, rfl, .refl _⟩, ⟨⟨_, rfl, .refl _⟩, ⟨⟨_, rfl, .refl _⟩, ⟨⟨_, rfl, .refl _⟩, trivial⟩⟩⟩⟩⟩ ⟨⟨_, rfl, .refl _⟩, ⟨⟨_, rfl, .refl _⟩, trivial⟩⟩ (by decide)) ?_
    refine Good.le (σ' := ⟨52, [(4, .ptr 14 b1 0), (5, .bool false)], [(100, (nilV, .osl 48 3 (([] : List Typ).map encOTyp))), (14, ((.pointer (some ⟨b1, 0, none⟩)), .optr 48 [.str ([] : Bs), .hd 100 nilV, .bool false]))]⟩) (le_w [none, some 14] rfl ⟨⟨_, rfl, .refl _⟩, ⟨⟨_, rfl, .refl _⟩, trivial⟩⟩ ⟨⟨rfl, _, _, rfl⟩, ⟨⟨_, rfl, .optr (.cons (.refl _) (.cons (.nilhd _) (.cons (.refl _) (.nil))))⟩, trivial⟩⟩ (by decide)) ?_
    refine good_ret ?_
    obtain rfl := Option.some.inj h
    refine thenQ_ret ?_
    exact endQ_ret (h' := [(100, (_, _))]) [some 100] (.cell rfl rfl tsize48 tagg48 rfl rfl rfl (.tmp rfl (.nil))) ⟨⟨_, rfl, .refl _⟩, trivial⟩ (by decide) ⟨nilV, rfl, rfl⟩
  · replace h := ifF h (dF hc1)
    refine good_skip ?_
    refine hK4 _ ?_
    refine Good.le (σ' := ⟨52, [(0, _), (1, _), (4, _), (5, _), (6, _)], [(14, (_, _)), (16, (_, _))]⟩) (le_w [some 14, some 16] rfl ⟨⟨_, rfl, .refl _⟩, ⟨⟨_, rfl, .refl _⟩, ⟨⟨_, rfl, .refl _⟩, ⟨⟨_, rfl, .refl _⟩, ⟨⟨_, rfl, .refl _⟩, trivial⟩⟩⟩⟩⟩ ⟨⟨_, rfl, .refl _⟩, ⟨⟨_, rfl, .refl _⟩, trivial⟩⟩ (by decide)) ?_
    refine good_seq fun K7 hK7 => ?_
    refine good_region ?_
    refine g_op rfl (ValOk.op (v_move rfl rfl ?_)) 
    obtain ⟨y2, hy2, h⟩ := bnd h
    refine g_op rfl (o_callR [] [] (core_value rfl rfl) (m_strings_CutPrefix_ok y1.1 [91] _ hy2) trivial (.cons (.refl _) (.cons (.refl _) (.nil))) (.inl rfl) rfl ?_)
    refine g_op rfl (ValOk.op (v_move rfl rfl ?_)) 
    refine g_op rfl (ValOk.op (v_extract rfl rfl rfl ?_)) 
    refine g_op rfl (ValOk.op (v_extract rfl rfl rfl ?_)) 
    refine g_op rfl (ValOk.op (v_assign rfl rfl ?_)) 
    refine g_op rfl (ValOk.op (v_assign rfl rfl ?_)) 
    refine g_nil ?_
    refine hK7 _ ?_
    refine Good.le (σ' := ⟨52, [(0, _), (1, _), (4, _), (5, _), (6, _), (7, _), (8, _)], [(14, (_, _)), (16, (_, _))]⟩) (le_w [some 14, some 16] rfl ⟨⟨_, rfl, .refl _⟩, ⟨⟨_, rfl, .refl _⟩, ⟨⟨_, rfl, .refl _⟩, ⟨⟨_, rfl, .refl _⟩, ⟨⟨_, rfl, .refl _⟩, ⟨⟨_, rfl, .refl _⟩, ⟨⟨_, rfl, .refl _⟩, trivial⟩⟩⟩⟩⟩⟩⟩ ⟨⟨_, rfl, .refl _⟩, ⟨⟨_, rfl, .refl _⟩, trivial⟩⟩ (by decide)) ?_
    refine good_seq fun K8 hK8 => ?_
    refine good_seq fun K9 hK9 => ?_
    refine good_region ?_
    refine g_op rfl (ValOk.op (v_move rfl rfl ?_)) 
    refine g_op rfl (ValOk.op (v_not rfl rfl ?_)) 
    refine g_nil ?_
    refine hK9 _ ?_
    refine Good.le (σ' := ⟨52, [(0, _), (1, _), (4, _), (5, _), (6, _), (7, _), (26, _)], [(14, (_, _)), (16, (_, _))]⟩) (le_w [some 14, some 16] rfl ⟨⟨_, rfl, .refl _⟩, ⟨⟨_, rfl, .refl _⟩, ⟨⟨_, rfl, .refl _⟩, ⟨⟨_, rfl, .refl _⟩, ⟨⟨_, rfl, .refl _⟩, ⟨⟨_, rfl, .refl _⟩, ⟨⟨_, rfl, .refl _⟩, trivial⟩⟩⟩⟩⟩⟩⟩ ⟨⟨_, rfl, .refl _⟩, ⟨⟨_, rfl, .refl _⟩, trivial⟩⟩ (by decide)) ?_
    refine good_cond rfl (fun hc2 => ?_) (fun hc2 => ?_)
    · replace h := bF h (nT hc2)
      refine good_seq fun K10 hK10 => ?_
      refine good_region ?_
      refine g_op rfl (ValOk.op (v_move rfl rfl ?_)) 
      refine g_op rfl (ValOk.op (v_fieldP tabOk rfl tfoff48_0 rfl ?_)) 
      refine g_op rfl (o_storeP tabOk (cs' := [.str y1.1, .nil, .bool y1.2]) rfl rfl tsize9 rfl rfl rfl (Nat.le_of_ble_eq_true rfl) rfl rfl rfl ?_)
      refine g_nil ?_
      refine hK10 _ ?_
      refine Good.le (σ' := ⟨52, [(0, _), (1, _), (4, _), (5, _), (6, _), (7, _)], [(14, (_, _)), (16, (_, _))]⟩) (le_w [some 14, some 16] rfl ⟨⟨_, rfl, .refl _⟩, ⟨⟨_, rfl, .refl _⟩, ⟨⟨_, rfl, .refl _⟩, ⟨⟨_, rfl, .refl _⟩, ⟨⟨_, rfl, .refl _⟩, ⟨⟨_, rfl, .refl _⟩, trivial⟩⟩⟩⟩⟩⟩ ⟨⟨_, rfl, .refl _⟩, ⟨⟨_, rfl, .refl _⟩, trivial⟩⟩ (by decide)) ?_
      refine good_seq fun K11 hK11 => ?_
      obtain ⟨y3, hy3, h⟩ := bnd h
      refine good_anyM (by kernel_rfl) [⟨[], [6], [16], [], [], []⟩, ⟨[], [0], [], [], [], []⟩, ⟨[1], [30], [], [], [], []⟩, ⟨[0, 1, 2], [4, 29], [14], [14], [9001], []⟩, ⟨[0, 1, 2, 3], [31], [], [], [], []⟩] [some 29, some 30, some 31, none, some 5] 52 [(0, .str y1.1), (1, .int .i64 a1), (4, .ptr 14 b1 0), (5, .bool false), (6, .ptr 16 b2 0), (7, .str y2.1)] [(14, ((.pointer (some ⟨b1, 0, none⟩)), .optr 48 [.str ([] : Bs), .nil, .bool false])), (16, ((.pointer (some ⟨b2, 0, none⟩)), .optr 48 [.str y1.1, .nil, .bool y1.2]))] (fun ν1 => [.agg [.str y1.1, .nil, .bool y1.2], .str y1.1, .bool y3, .und, .bool y3]) (fun ν1 => [(9001, ((.pointer (some ⟨b1, 0, none⟩)), .optr 48 [.str y1.1, .nil, .bool y1.2]))]) [(9001, []), (14, []), (16, [])] [9001] [some 9001, some 16] (fun ν1 => [(1, .int .i64 a1), (4, .ptr 14 b1 0), (5, .bool y3), (6, .ptr 16 b2 0), (7, .str y2.1)]) (fun ν1 => [(14, ((.pointer (some ⟨b1, 0, none⟩)), .optr 48 [.str y1.1, .nil, .bool y1.2])), (16, ((.pointer (some ⟨b2, 0, none⟩)), .optr 48 [.str y1.1, .nil, .bool y1.2]))]) (le_w [some 14, some 16] rfl ⟨⟨_, rfl, .refl _⟩, ⟨⟨_, rfl, .refl _⟩, ⟨⟨_, rfl, .refl _⟩, ⟨⟨_, rfl, .refl _⟩, ⟨⟨_, rfl, .refl _⟩, ⟨⟨_, rfl, .refl _⟩, trivial⟩⟩⟩⟩⟩⟩ ⟨⟨_, rfl, .refl _⟩, ⟨⟨_, rfl, .refl _⟩, trivial⟩⟩ (by decide)) (by kernel_rfl) ⟨?_, ⟨?_, ⟨?_, ⟨?_, ⟨?_, trivial⟩⟩⟩⟩⟩ ⟨fun _ _ _ => rfl, ⟨fun _ _ _ => rfl, ⟨fun _ _ _ => rfl, ⟨fun _ _ _ => rfl, ⟨fun _ _ _ => rfl, trivial⟩⟩⟩⟩⟩ ⟨fun _ _ _ => rfl, ⟨fun _ _ _ => rfl, ⟨fun _ _ _ => rfl, trivial⟩⟩⟩ (fun _ => rfl) (fun _ => rfl) (by kernel_rfl) (fun _ => ⟨⟨_, rfl, .refl _⟩, ⟨⟨_, rfl, .refl _⟩, ⟨⟨_, rfl, .refl _⟩, ⟨⟨_, rfl, .refl _⟩, ⟨⟨_, rfl, .refl _⟩, trivial⟩⟩⟩⟩⟩) (fun _ => ⟨⟨_, rfl, .refl _⟩, ⟨⟨_, rfl, .refl _⟩, trivial⟩⟩) (by kernel_rfl) (by decide) ?_
      · refine local_mk (fun ν1 => [(6, .ptr 16 b2 0)]) (fun ν1 => [(16, ((.pointer (some ⟨b2, 0, none⟩)), .optr 48 [.str y1.1, .nil, .bool y1.2]))]) (fun _ => rfl) (fun _ => ⟨⟨_, rfl, .refl _, .refl _⟩, trivial⟩) (fun _ => rfl) (fun _ => ⟨rfl, trivial⟩) ?_
        intro ν1 S H hS hfr
        refine st_op rfl (ValOk.op (v_loadP tabOk rfl rfl tsize48 tagg48 rfl rfl rfl rfl ?_)) 
        exact lp_v hS rfl rfl (fun _ => rfl)
      · refine local_mk (fun ν1 => [(0, .str y1.1)]) (fun ν1 => []) (fun _ => rfl) (fun _ => ⟨⟨_, rfl, .refl _, .refl _⟩, trivial⟩) (fun _ => rfl) (fun _ => trivial) ?_
        intro ν1 S H hS hfr
        refine st_op rfl (ValOk.op (v_move rfl rfl ?_)) 
        exact lp_v hS rfl rfl (fun _ => rfl)
      · refine local_mk (fun ν1 => [(30, .str y1.1)]) (fun ν1 => []) (fun _ => rfl) (fun _ => ⟨⟨_, rfl, .refl _, .refl _⟩, trivial⟩) (fun _ => rfl) (fun _ => trivial) ?_
        intro ν1 S H hS hfr
        refine st_op rfl (o_callR [] [] (core_value rfl rfl) (m_impl_isName_ok k y1.1 _ hy3) trivial (.cons (.refl _) (.nil)) (.inl rfl) rfl ?_)
        exact lp_v hS rfl rfl (fun _ => rfl)
      · refine local_mk (fun ν1 => [(4, .ptr 14 b1 0), (29, .agg [.str y1.1, .nil, .bool y1.2])]) (fun ν1 => [(14, ((.pointer (some ⟨b1, 0, none⟩)), .optr 48 [.str ([] : Bs), .nil, .bool false]))]) (fun _ => rfl) (fun _ => ⟨⟨_, rfl, .refl _, .refl _⟩, ⟨⟨_, rfl, .refl _, .refl _⟩, trivial⟩⟩) (fun _ => rfl) (fun _ => ⟨rfl, trivial⟩) ?_
        intro ν1 S H hS hfr
        refine st_op rfl (o_storeP tabOk (cs' := [.str y1.1, .nil, .bool y1.2]) rfl rfl tsize48 rfl rfl rfl (Nat.le_of_ble_eq_true rfl) rfl rfl rfl ?_)
        exact lp_m (k := 9001) hS rfl rfl (.inr (by decide)) (fun _ => rfl) rfl
      · refine local_mk (fun ν1 => [(31, .bool y3)]) (fun ν1 => []) (fun _ => rfl) (fun _ => ⟨⟨_, rfl, .refl _, .refl _⟩, trivial⟩) (fun _ => rfl) (fun _ => trivial) ?_
        intro ν1 S H hS hfr
        refine st_op rfl (ValOk.op (v_assign rfl rfl ?_)) 
        exact lp_v hS rfl rfl (fun _ => rfl)
      intro ν1
      refine hK11 _ ?_
      refine Good.le (σ' := ⟨52, [(4, .ptr 14 b1 0), (5, .bool y3)], [(100, (nilV, .osl 48 3 (([] : List Typ).map encOTyp))), (14, ((.pointer (some ⟨b1, 0, none⟩)), .optr 48 [.str y1.1, .hd 100 nilV, .bool y1.2]))]⟩) (le_w [none, some 14] rfl ⟨⟨_, rfl, .refl _⟩, ⟨⟨_, rfl, .refl _⟩, trivial⟩⟩ ⟨⟨rfl, _, _, rfl⟩, ⟨⟨_, rfl, .optr (.cons (.refl _) (.cons (.nilhd _) (.cons (.refl _) (.nil))))⟩, trivial⟩⟩ (by decide)) ?_
      refine good_ret ?_
      obtain rfl := Option.some.inj h
      refine thenQ_ret ?_
      exact endQ_ret (h' := [(100, (_, _))]) [some 100] (.cell rfl rfl tsize48 tagg48 rfl rfl rfl (.tmp rfl (.nil))) ⟨⟨_, rfl, .refl _⟩, trivial⟩ (by decide) ⟨nilV, rfl, rfl⟩
    · replace h := ifT h (nF hc2)
      refine good_skip ?_
      refine hK8 _ ?_
      refine Good.le (σ' := ⟨52, [(1, _), (4, _), (5, _), (6, _), (7, _)], [(14, (_, _)), (16, (_, _))]⟩) (le_w [some 14, some 16] rfl ⟨⟨_, rfl, .refl _⟩, ⟨⟨_, rfl, .refl _⟩, ⟨⟨_, rfl, .refl _⟩, ⟨⟨_, rfl, .refl _⟩, ⟨⟨_, rfl, .refl _⟩, trivial⟩⟩⟩⟩⟩ ⟨⟨_, rfl, .refl _⟩, ⟨⟨_, rfl, .refl _⟩, trivial⟩⟩ (by decide)) ?_
      refine good_seq fun K12 hK12 => ?_
      refine good_region ?_
      refine g_op rfl (ValOk.op (v_move rfl rfl ?_)) 
      obtain ⟨y4, hy4, h⟩ := bnd h
      refine g_op rfl (o_callR [] [] (core_value rfl rfl) (m_strings_CutSuffix_ok y2.1 [93] _ hy4) trivial (.cons (.refl _) (.cons (.refl _) (.nil))) (.inl rfl) rfl ?_)
      refine g_op rfl (ValOk.op (v_move rfl rfl ?_)) 
      refine g_op rfl (ValOk.op (v_extract rfl rfl rfl ?_)) 
      refine g_op rfl (ValOk.op (v_extract rfl rfl rfl ?_)) 
      refine g_op rfl (ValOk.op (v_assign rfl rfl ?_)) 
      refine g_op rfl (ValOk.op (v_assign rfl rfl ?_)) 
      refine g_nil ?_
      refine hK12 _ ?_
      refine Good.le (σ' := ⟨52, [(1, _), (4, _), (5, _), (6, _), (7, _), (8, _)], [(14, (_, _)), (16, (_, _))]⟩) (le_w [some 14, some 16] rfl ⟨⟨_, rfl, .refl _⟩, ⟨⟨_, rfl, .refl _⟩, ⟨⟨_, rfl, .refl _⟩, ⟨⟨_, rfl, .refl _⟩, ⟨⟨_, rfl, .refl _⟩, ⟨⟨_, rfl, .refl _⟩, trivial⟩⟩⟩⟩⟩⟩ ⟨⟨_, rfl, .refl _⟩, ⟨⟨_, rfl, .refl _⟩, trivial⟩⟩ (by decide)) ?_
      refine good_seq fun K13 hK13 => ?_
      refine good_seq fun K14 hK14 => ?_
      refine good_region ?_
      refine g_op rfl (ValOk.op (v_move rfl rfl ?_)) 
      refine g_op rfl (ValOk.op (v_not rfl rfl ?_)) 
      refine g_nil ?_
      refine hK14 _ ?_
      refine Good.le (σ' := ⟨52, [(1, _), (4, _), (5, _), (6, _), (7, _), (38, _)], [(14, (_, _)), (16, (_, _))]⟩) (le_w [some 14, some 16] rfl ⟨⟨_, rfl, .refl _⟩, ⟨⟨_, rfl, .refl _⟩, ⟨⟨_, rfl, .refl _⟩, ⟨⟨_, rfl, .refl _⟩, ⟨⟨_, rfl, .refl _⟩, ⟨⟨_, rfl, .refl _⟩, trivial⟩⟩⟩⟩⟩⟩ ⟨⟨_, rfl, .refl _⟩, ⟨⟨_, rfl, .refl _⟩, trivial⟩⟩ (by decide)) ?_
      refine good_cond rfl (fun hc3 => ?_) (fun hc3 => ?_)
      · replace h := bF h (nT hc3)
        refine good_seq fun K15 hK15 => ?_
        refine good_region ?_
        refine g_op rfl (ValOk.op (v_build tabOk (cs := [.str ([] : Bs), .nil, .bool false]) tzero48 tsok48 rfl rfl rfl ?_)) 
        refine g_op rfl (o_storeP tabOk (cs' := [.str ([] : Bs), .nil, .bool false]) rfl rfl tsize48 rfl rfl rfl (Nat.le_of_ble_eq_true rfl) rfl rfl rfl ?_)
        refine g_op rfl (ValOk.op (v_assign rfl rfl ?_)) 
        refine g_nil ?_
        refine hK15 _ ?_
        refine Good.le (σ' := ⟨52, [(1, _), (4, _), (5, _), (6, _), (7, _)], [(14, (_, _)), (16, (_, _))]⟩) (le_w [some 14, some 16] rfl ⟨⟨_, rfl, .refl _⟩, ⟨⟨_, rfl, .refl _⟩, ⟨⟨_, rfl, .refl _⟩, ⟨⟨_, rfl, .refl _⟩, ⟨⟨_, rfl, .refl _⟩, trivial⟩⟩⟩⟩⟩ ⟨⟨_, rfl, .refl _⟩, ⟨⟨_, rfl, .refl _⟩, trivial⟩⟩ (by decide)) ?_
        refine Good.le (σ' := ⟨52, [(4, .ptr 14 b1 0), (5, .bool false)], [(100, (nilV, .osl 48 3 (([] : List Typ).map encOTyp))), (14, ((.pointer (some ⟨b1, 0, none⟩)), .optr 48 [.str ([] : Bs), .hd 100 nilV, .bool false]))]⟩) (le_w [none, some 14] rfl ⟨⟨_, rfl, .refl _⟩, ⟨⟨_, rfl, .refl _⟩, trivial⟩⟩ ⟨⟨rfl, _, _, rfl⟩, ⟨⟨_, rfl, .optr (.cons (.refl _) (.cons (.nilhd _) (.cons (.refl _) (.nil))))⟩, trivial⟩⟩ (by decide)) ?_
        refine good_ret ?_
        obtain rfl := Option.some.inj h
        refine thenQ_ret ?_
        exact endQ_ret (h' := [(100, (_, _))]) [some 100] (.cell rfl rfl tsize48 tagg48 rfl rfl rfl (.tmp rfl (.nil))) ⟨⟨_, rfl, .refl _⟩, trivial⟩ (by decide) ⟨nilV, rfl, rfl⟩
      · replace h := ifT h (nF hc3)
        refine good_skip ?_
        refine hK13 _ ?_
        refine Good.le (σ' := ⟨52, [(1, _), (4, _), (5, _), (6, _), (7, _)], [(14, (_, _)), (16, (_, _))]⟩) (le_w [some 14, some 16] rfl ⟨⟨_, rfl, .refl _⟩, ⟨⟨_, rfl, .refl _⟩, ⟨⟨_, rfl, .refl _⟩, ⟨⟨_, rfl, .refl _⟩, ⟨⟨_, rfl, .refl _⟩, trivial⟩⟩⟩⟩⟩ ⟨⟨_, rfl, .refl _⟩, ⟨⟨_, rfl, .refl _⟩, trivial⟩⟩ (by decide)) ?_
        refine good_seq fun K16 hK16 => ?_
        refine good_region ?_
        refine g_op rfl (ValOk.op (v_move rfl rfl ?_)) 
        refine g_op rfl (ValOk.op (v_move rfl rfl ?_)) 
        refine g_op rfl (ValOk.op (v_bin rfl rfl rfl rfl ?_)) 
        obtain ⟨y5, hy5, h⟩ := bnd h
        refine g_op rfl (o_callD [] [] [] (core_value rfl rfl) ((ih k (by omega)) y4.1 (IntKind.wrap .i64 (a1 - 1)) _ hy5) trivial (.cons (.refl _) (.cons (.refl _) (.nil))) trivial rfl rfl rfl ?_)
        rintro _ _ ⟨w1, rfl, rfl⟩
        refine ⟨.tup [.agg [.str y5.1.name, .hd 3002 w1, .bool y5.1.must], .bool y5.2], [(3002, _)], .tup (.cons (.agg (.cons (.refl _) (.cons (.hd _ _ _) (.cons (.refl _) (.nil))))) (.cons (.refl _) (.nil))), rfl, rfl, rfl, rfl, .inl rfl, ?_⟩
        refine g_op rfl (ValOk.op (v_move rfl rfl ?_)) 
        refine g_op rfl (ValOk.op (v_extract rfl rfl rfl ?_)) 
        refine g_op rfl (ValOk.op (v_extract rfl rfl rfl ?_)) 
        refine g_op rfl (o_alloc (k := 19) tabOk tzero48 rfl rfl ?_)
        intro b3
        refine g_op rfl (o_storeP tabOk (cs' := [.str y5.1.name, .hd 3002 w1, .bool y5.1.must]) rfl rfl tsize48 rfl rfl rfl (Nat.le_of_ble_eq_true rfl) rfl rfl rfl ?_)
        refine g_op rfl (ValOk.op (v_assign rfl rfl ?_)) 
        refine g_nil ?_
        refine hK16 _ ?_
        refine Good.le (σ' := ⟨52, [(4, _), (5, _), (6, _), (8, _), (9, _)], [(14, (_, _)), (16, (_, _)), (19, (_, _)), (3002, (_, _))]⟩) (le_w [some 14, some 16, some 19, some 3002] rfl ⟨⟨_, rfl, .refl _⟩, ⟨⟨_, rfl, .refl _⟩, ⟨⟨_, rfl, .refl _⟩, ⟨⟨_, rfl, .refl _⟩, ⟨⟨_, rfl, .refl _⟩, trivial⟩⟩⟩⟩⟩ ⟨⟨_, rfl, .refl _⟩, ⟨⟨_, rfl, .refl _⟩, ⟨⟨_, rfl, .refl _⟩, ⟨⟨_, rfl, .refl _⟩, trivial⟩⟩⟩⟩ (by decide)) ?_
        refine good_seq fun K17 hK17 => ?_
        refine good_region ?_
        refine g_op rfl (ValOk.op (v_loadP tabOk rfl rfl tsize48 tagg48 rfl rfl rfl rfl ?_)) 
        refine g_op rfl (OpOk.le (o_buildSlice (k := 58) (rows := [[.str y5.1.name, .hd 3002 w1, .bool y5.1.must]]) tabOk telem46 tsize48 rfl rfl rfl rfl (by decide) (by decide) (by rw [tzero48]; rfl) rfl rfl rfl rfl rfl ?_))
        intro w2
        refine ⟨_, (le_absorb (k := 58) (k2 := 3002) (rows' := [y5.1].map encOTyp) 0 1 _ rfl rfl (by decide) rfl rfl (by simp only [List.map_cons, List.map_nil, encOTyp_eq]; rfl)), ?_⟩
        refine g_op rfl (ValOk.op (v_fieldP tabOk rfl tfoff48_1 rfl ?_)) 
        refine g_op rfl (o_storeP tabOk (cs' := [.str ([] : Bs), .hd 58 w2, .bool y1.2]) rfl rfl tsize46 rfl rfl rfl (Nat.le_of_ble_eq_true rfl) rfl rfl rfl ?_)
        refine g_nil ?_
        refine hK17 _ ?_
        refine Good.le (σ' := ⟨52, [(4, _), (5, _), (6, _), (8, _)], [(14, (_, _)), (16, (_, _)), (58, (_, _))]⟩) (le_w [some 14, some 16, some 58] rfl ⟨⟨_, rfl, .refl _⟩, ⟨⟨_, rfl, .refl _⟩, ⟨⟨_, rfl, .refl _⟩, ⟨⟨_, rfl, .refl _⟩, trivial⟩⟩⟩⟩ ⟨⟨_, rfl, .refl _⟩, ⟨⟨_, rfl, .refl _⟩, ⟨⟨_, rfl, .refl _⟩, trivial⟩⟩⟩ (by decide)) ?_
        refine good_seq fun K18 hK18 => ?_
        refine good_region ?_
        refine g_op rfl (ValOk.op (v_loadP tabOk rfl rfl tsize48 tagg48 rfl rfl rfl rfl ?_)) 
        refine g_op rfl (ValOk.op (v_move rfl rfl ?_)) 
        refine g_op rfl (o_storeP tabOk (cs' := [.str ([] : Bs), .hd 58 w2, .bool y1.2]) rfl rfl tsize48 rfl rfl rfl (Nat.le_of_ble_eq_true rfl) rfl rfl rfl ?_)
        refine g_op rfl (ValOk.op (v_assign rfl rfl ?_)) 
        refine g_nil ?_
        refine hK18 _ ?_
        refine Good.le (σ' := ⟨52, [(4, _), (5, _)], [(14, (_, _)), (58, (_, _))]⟩) (le_w [some 14, some 58] rfl ⟨⟨_, rfl, .refl _⟩, ⟨⟨_, rfl, .refl _⟩, trivial⟩⟩ ⟨⟨_, rfl, .refl _⟩, ⟨⟨_, rfl, .refl _⟩, trivial⟩⟩ (by decide)) ?_
        refine Good.le (σ' := ⟨52, [(4, .ptr 14 b1 0), (5, .bool y5.2)], [(100, (w2, .osl 48 3 ([y5.1].map encOTyp))), (14, ((.pointer (some ⟨b1, 0, none⟩)), .optr 48 [.str ([] : Bs), .hd 100 w2, .bool y1.2]))]⟩) (le_w [some 58, some 14] rfl ⟨⟨_, rfl, .refl _⟩, ⟨⟨_, rfl, .refl _⟩, trivial⟩⟩ ⟨⟨_, rfl, .refl _⟩, ⟨⟨_, rfl, .optr (.cons (.refl _) (.cons (.hd _ _ _) (.cons (.refl _) (.nil))))⟩, trivial⟩⟩ (by decide)) ?_
        refine good_ret ?_
        obtain rfl := Option.some.inj h
        exact endQ_ret (h' := [(100, (_, _))]) [some 100] (.cell rfl rfl tsize48 tagg48 rfl rfl rfl (.tmp rfl (.nil))) ⟨⟨_, rfl, .refl _⟩, trivial⟩ (by decide) ⟨w2, rfl, rfl⟩
theorem m_impl_typeWithin_all (k : Nat) : P_m_impl_typeWithin k := by
  induction k using Nat.strongRecOn with
  | _ k ih => exact m_impl_typeWithin_step k ih
theorem m_impl_typeWithin_ok (k : Nat) : ∀ (a0 : Bs) (a1 : Int) (r : (Typ × Bool)), m_impl_typeWithin k a0 a1 = some r → Does Try.prog 61 [.str a0, .int .i64 a1] [] (fun q h' => ∃ u0 : Value, q = .tup [.agg [.str r.1.name, .hd 100 u0, .bool r.1.must], .bool r.2] ∧ h' = [(100, (u0, .osl 48 3 (r.1.of_.map encOTyp)))]) := (m_impl_typeWithin_all k)
theorem m_impl_typeWithin_okF (k : Nat) : ∀ (a0 : Bs) (a1 : Int) (r : (Typ × Bool)), m_impl_typeWithin k a0 a1 = some r → Does Try.prog 61 [.str a0, .int .i64 a1] [] (ret (.tup [.agg [.str r.1.name, .sl (r.1.of_.map encTyp), .bool r.1.must], .bool r.2])) := by
  intro a0 a1 r h
  refine does_frz (m_impl_typeWithin_ok k a0 a1 r h) ?_
  rintro q h' ⟨u0, rfl, rfl⟩
  exact ⟨[100], [(_, _)], ⟨⟨_, rfl, .osl (FrzLL.map fun _ _ => encOTyp_frz _)⟩, trivial⟩, .tup (.cons (.agg (.cons (.refl _) (.cons (.frz _ _ _ (.head _)) (.cons (.refl _) (.nil))))) (.cons (.refl _) (.nil)))⟩
def m_impl_TypeGet (k : Nat) (a0 : Bs) : Option (Typ × Bool) :=
  (m_impl_typeWithin k a0 3).bind fun y1 =>
  if y1.2 = true then
    some (y1.1, true)
  else
    some ((Typ.mk ([] : Bs) ([] : List Typ) false), false)
theorem m_impl_TypeGet_ok (k : Nat) : ∀ (a0 : Bs) (r : (Typ × Bool)), m_impl_TypeGet k a0 = some r → Does Try.prog 32 [.str a0] [] (fun q h' => ∃ u0 : Value, q = .tup [.agg [.str r.1.name, .hd 100 u0, .bool r.1.must], .bool r.2] ∧ h' = [(100, (u0, .osl 48 3 (r.1.of_.map encOTyp)))]) := by
  intro a0 r h
  rw [m_impl_TypeGet] at h
  refine does_of_good tabOk Try.func32 rfl (by decide +kernel) (Nat.le_of_ble_eq_true rfl) fun c => ?_
  refine Good.le (σ' := ⟨15, [(0, .str a0)], []⟩) (Le.refl _) ?_
  refine good_seq fun K1 hK1 => ?_
  refine good_region ?_
  refine g_op rfl (o_alloc (k := 12) tabOk tzero48 rfl rfl ?_)
  intro b1
  refine g_op rfl (ValOk.op (v_assign rfl rfl ?_)) 
  refine g_nil ?_
  refine hK1 _ ?_
  refine good_seq fun K2 hK2 => ?_
  refine good_region ?_
  refine g_op rfl (ValOk.op (v_move rfl rfl ?_)) 
  obtain ⟨y1, hy1, h⟩ := bnd h
  refine g_op rfl (o_callD [] [] [] (core_value rfl rfl) (m_impl_typeWithin_ok k a0 3 _ hy1) trivial (.cons (.refl _) (.cons (.refl _) (.nil))) trivial rfl rfl rfl ?_)
  rintro _ _ ⟨w1, rfl, rfl⟩
  refine ⟨.tup [.agg [.str y1.1.name, .hd 3001 w1, .bool y1.1.must], .bool y1.2], [(3001, _)], .tup (.cons (.agg (.cons (.refl _) (.cons (.hd _ _ _) (.cons (.refl _) (.nil))))) (.cons (.refl _) (.nil))), rfl, rfl, rfl, rfl, .inl rfl, ?_⟩
  refine g_op rfl (ValOk.op (v_move rfl rfl ?_)) 
  refine g_op rfl (ValOk.op (v_extract rfl rfl rfl ?_)) 
  refine g_op rfl (ValOk.op (v_extract rfl rfl rfl ?_)) 
  refine g_op rfl (o_alloc (k := 14) tabOk tzero48 rfl rfl ?_)
  intro b2
  refine g_op rfl (o_storeP tabOk (cs' := [.str y1.1.name, .hd 3001 w1, .bool y1.1.must]) rfl rfl tsize48 rfl rfl rfl (Nat.le_of_ble_eq_true rfl) rfl rfl rfl ?_)
  refine g_op rfl (ValOk.op (v_assign rfl rfl ?_)) 
  refine g_nil ?_
  refine hK2 _ ?_
  refine Good.le (σ' := ⟨15, [(2, _), (3, _), (4, _), (5, _)], [(12, (_, _)), (14, (_, _)), (3001, (_, _))]⟩) (le_w [some 12, some 14, some 3001] rfl ⟨⟨_, rfl, .refl _⟩, ⟨⟨_, rfl, .refl _⟩, ⟨⟨_, rfl, .refl _⟩, ⟨⟨_, rfl, .refl _⟩, trivial⟩⟩⟩⟩ ⟨⟨_, rfl, .refl _⟩, ⟨⟨_, rfl, .refl _⟩, ⟨⟨_, rfl, .refl _⟩, trivial⟩⟩⟩ (by decide)) ?_
  refine good_seq fun K3 hK3 => ?_
  refine good_seq fun K4 hK4 => ?_
  refine good_region ?_
  refine g_op rfl (ValOk.op (v_move rfl rfl ?_)) 
  refine g_op rfl (ValOk.op (v_not rfl rfl ?_)) 
  refine g_nil ?_
  refine hK4 _ ?_
  refine Good.le (σ' := ⟨15, [(2, _), (3, _), (4, _), (12, _)], [(12, (_, _)), (14, (_, _)), (3001, (_, _))]⟩) (le_w [some 12, some 14, some 3001] rfl ⟨⟨_, rfl, .refl _⟩, ⟨⟨_, rfl, .refl _⟩, ⟨⟨_, rfl, .refl _⟩, ⟨⟨_, rfl, .refl _⟩, trivial⟩⟩⟩⟩ ⟨⟨_, rfl, .refl _⟩, ⟨⟨_, rfl, .refl _⟩, ⟨⟨_, rfl, .refl _⟩, trivial⟩⟩⟩ (by decide)) ?_
  refine good_cond rfl (fun hc1 => ?_) (fun hc1 => ?_)
  · replace h := bF h (nT hc1)
    refine good_seq fun K5 hK5 => ?_
    refine good_region ?_
    refine g_op rfl (ValOk.op (v_build tabOk (cs := [.str ([] : Bs), .nil, .bool false]) tzero48 tsok48 rfl rfl rfl ?_)) 
    refine g_op rfl (o_storeP tabOk (cs' := [.str ([] : Bs), .nil, .bool false]) rfl rfl tsize48 rfl rfl rfl (Nat.le_of_ble_eq_true rfl) rfl rfl rfl ?_)
    refine g_op rfl (ValOk.op (v_assign rfl rfl ?_)) 
    refine g_nil ?_
    refine hK5 _ ?_
    refine Good.le (σ' := ⟨15, [(2, _), (3, _), (4, _)], [(12, (_, _)), (14, (_, _)), (3001, (_, _))]⟩) (le_w [some 12, some 14, some 3001] rfl ⟨⟨_, rfl, .refl _⟩, ⟨⟨_, rfl, .refl _⟩, ⟨⟨_, rfl, .refl _⟩, trivial⟩⟩⟩ ⟨⟨_, rfl, .refl _⟩, ⟨⟨_, rfl, .refl _⟩, ⟨⟨_, rfl, .refl _⟩, trivial⟩⟩⟩ (by decide)) ?_
    refine Good.le (σ' := ⟨15, [(2, .ptr 12 b1 0), (3, .bool false)], [(100, (nilV, .osl 48 3 (([] : List Typ).map encOTyp))), (12, ((.pointer (some ⟨b1, 0, none⟩)), .optr 48 [.str ([] : Bs), .hd 100 nilV, .bool false]))]⟩) (le_w [none, some 12] rfl ⟨⟨_, rfl, .refl _⟩, ⟨⟨_, rfl, .refl _⟩, trivial⟩⟩ ⟨⟨rfl, _, _, rfl⟩, ⟨⟨_, rfl, .optr (.cons (.refl _) (.cons (.nilhd _) (.cons (.refl _) (.nil))))⟩, trivial⟩⟩ (by decide)) ?_
    refine good_ret ?_
    obtain rfl := Option.some.inj h
    refine thenQ_ret ?_
    exact endQ_ret (h' := [(100, (_, _))]) [some 100] (.cell rfl rfl tsize48 tagg48 rfl rfl rfl (.tmp rfl (.nil))) ⟨⟨_, rfl, .refl _⟩, trivial⟩ (by decide) ⟨nilV, rfl, rfl⟩
  · replace h := ifT h (nF hc1)
    refine good_skip ?_
    refine hK3 _ ?_
    refine Good.le (σ' := ⟨15, [(2, _), (3, _), (4, _)], [(12, (_, _)), (14, (_, _)), (3001, (_, _))]⟩) (le_w [some 12, some 14, some 3001] rfl ⟨⟨_, rfl, .refl _⟩, ⟨⟨_, rfl, .refl _⟩, ⟨⟨_, rfl, .refl _⟩, trivial⟩⟩⟩ ⟨⟨_, rfl, .refl _⟩, ⟨⟨_, rfl, .refl _⟩, ⟨⟨_, rfl, .refl _⟩, trivial⟩⟩⟩ (by decide)) ?_
    refine good_seq fun K6 hK6 => ?_
    refine good_region ?_
    refine g_op rfl (ValOk.op (v_loadP tabOk rfl rfl tsize48 tagg48 rfl rfl rfl rfl ?_)) 
    refine g_op rfl (o_storeP tabOk (cs' := [.str y1.1.name, .hd 3001 w1, .bool y1.1.must]) rfl rfl tsize48 rfl rfl rfl (Nat.le_of_ble_eq_true rfl) rfl rfl rfl ?_)
    refine g_op rfl (ValOk.op (v_assign rfl rfl ?_)) 
    refine g_nil ?_
    refine hK6 _ ?_
    refine Good.le (σ' := ⟨15, [(2, _), (3, _)], [(12, (_, _)), (3001, (_, _))]⟩) (le_w [some 12, some 3001] rfl ⟨⟨_, rfl, .refl _⟩, ⟨⟨_, rfl, .refl _⟩, trivial⟩⟩ ⟨⟨_, rfl, .refl _⟩, ⟨⟨_, rfl, .refl _⟩, trivial⟩⟩ (by decide)) ?_
    refine Good.le (σ' := ⟨15, [(2, .ptr 12 b1 0), (3, .bool true)], [(100, (w1, .osl 48 3 (y1.1.of_.map encOTyp))), (12, ((.pointer (some ⟨b1, 0, none⟩)), .optr 48 [.str y1.1.name, .hd 100 w1, .bool y1.1.must]))]⟩) (le_w [some 3001, some 12] rfl ⟨⟨_, rfl, .refl _⟩, ⟨⟨_, rfl, .refl _⟩, trivial⟩⟩ ⟨⟨_, rfl, .refl _⟩, ⟨⟨_, rfl, .optr (.cons (.refl _) (.cons (.hd _ _ _) (.cons (.refl _) (.nil))))⟩, trivial⟩⟩ (by decide)) ?_
    refine good_ret ?_
    obtain rfl := Option.some.inj h
    exact endQ_ret (h' := [(100, (_, _))]) [some 100] (.cell rfl rfl tsize48 tagg48 rfl rfl rfl (.tmp rfl (.nil))) ⟨⟨_, rfl, .refl _⟩, trivial⟩ (by decide) ⟨w1, rfl, rfl⟩
theorem m_impl_TypeGet_okF (k : Nat) : ∀ (a0 : Bs) (r : (Typ × Bool)), m_impl_TypeGet k a0 = some r → Does Try.prog 32 [.str a0] [] (ret (.tup [.agg [.str r.1.name, .sl (r.1.of_.map encTyp), .bool r.1.must], .bool r.2])) := by
  intro a0 r h
  refine does_frz (m_impl_TypeGet_ok k a0 r h) ?_
  rintro q h' ⟨u0, rfl, rfl⟩
  exact ⟨[100], [(_, _)], ⟨⟨_, rfl, .osl (FrzLL.map fun _ _ => encOTyp_frz _)⟩, trivial⟩, .tup (.cons (.agg (.cons (.refl _) (.cons (.frz _ _ _ (.head _)) (.cons (.refl _) (.nil))))) (.cons (.refl _) (.nil)))⟩
end Go.Proofs.Ytopbbjoflopjbaa
