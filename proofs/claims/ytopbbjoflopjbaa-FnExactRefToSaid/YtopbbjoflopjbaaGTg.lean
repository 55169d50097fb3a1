/- What functions of this program answer, as plain functions; each theorem says that the code comes to just that. -/
import Derived.Test.YtopbbjoflopjbaaDat
import Derived.Test.YtopbbjoflopjbaaB13
import Derived.Test.YtopbbjoflopjbaaDatO
import Derived.Test.YtopbbjoflopjbaaB18
import Derived.Test.YtopbbjoflopjbaaGv
import Derived.Test.YtopbbjoflopjbaaGMk
import Derived.Test.YtopbbjoflopjbaaGTy
/-! Functions of the program. -/
set_option linter.unusedVariables false
set_option maxRecDepth 100000
set_option maxHeartbeats 1000000
namespace Go.Proofs.Ytopbbjoflopjbaa
open Go.Bb
def m_spec_l1In (a0 : Int) (a1 : Int) (a2 : Int) : Option Bool :=
  if a1 ≤ a0 then
    some (decide (a0 ≤ a2))
  else
    some false
theorem m_spec_l1In_ok : ∀ (a0 : Int) (a1 : Int) (a2 : Int) (r : Bool), m_spec_l1In a0 a1 a2 = some r → Does Try.prog 54 [.int .i64 a0, .int .i64 a1, .int .i64 a2] [] (ret (.bool r)) := by
  intro a0 a1 a2 r h
  rw [m_spec_l1In] at h
  refine does_of_good tabOk Try.func54 rfl (by decide +kernel) (Nat.le_of_ble_eq_true rfl) fun c => ?_
  refine Good.le (σ' := ⟨15, [(0, .int .i64 a0), (1, .int .i64 a1), (2, .int .i64 a2)], []⟩) (Le.refl _) ?_
  refine good_seq fun K1 hK1 => ?_
  refine good_region ?_
  refine g_op rfl (ValOk.op (v_assign rfl rfl ?_)) 
  refine g_nil ?_
  refine hK1 _ ?_
  refine good_seq fun K2 hK2 => ?_
  refine good_region ?_
  refine g_op rfl (ValOk.op (v_move rfl rfl ?_)) 
  refine g_op rfl (ValOk.op (v_move rfl rfl ?_)) 
  refine g_op rfl (ValOk.op (v_bin rfl rfl rfl rfl ?_)) 
  refine g_op rfl (ValOk.op (v_move rfl rfl ?_)) 
  rcases bsplit ((decide (a1 ≤ a0))) with hg1 | hg1
  · replace h := ifT h (dT hg1)
    refine g_yes rfl rfl hg1 (ValOk.op (v_move rfl rfl ?_)) 
    refine g_yes rfl rfl hg1 (ValOk.op (v_move rfl rfl ?_)) 
    refine g_yes rfl rfl hg1 (ValOk.op (v_bin rfl rfl rfl rfl ?_)) 
    refine g_op rfl (ValOk.op (v_pickT rfl hg1 rfl rfl ?_)) 
    refine g_op rfl (ValOk.op (v_assign rfl rfl ?_)) 
    refine g_nil ?_
    refine hK2 _ ?_
    refine Good.le (σ' := ⟨15, [(6, _)], []⟩) (le_w [] rfl ⟨⟨_, rfl, .refl _⟩, trivial⟩ trivial (by decide)) ?_
    refine Good.le (σ' := ⟨15, [(6, .bool (decide (a0 ≤ a2)))], []⟩) (le_w [] rfl ⟨⟨_, rfl, .refl _⟩, trivial⟩ trivial (by decide)) ?_
    refine good_ret ?_
    obtain rfl := Option.some.inj h
    exact endQ_ret (h' := []) [] (.tmp rfl (.nil)) trivial (by decide) ⟨rfl, rfl⟩
  · replace h := ifF h (dF hg1)
    refine g_no rfl rfl hg1 rfl ?_
    refine g_no rfl rfl hg1 rfl ?_
    refine g_no rfl rfl hg1 rfl ?_
    refine g_op rfl (ValOk.op (v_pickF rfl hg1 rfl rfl ?_)) 
    refine g_op rfl (ValOk.op (v_assign rfl rfl ?_)) 
    refine g_nil ?_
    refine hK2 _ ?_
    refine Good.le (σ' := ⟨15, [(6, _)], []⟩) (le_w [] rfl ⟨⟨_, rfl, .refl _⟩, trivial⟩ trivial (by decide)) ?_
    refine Good.le (σ' := ⟨15, [(6, .bool false)], []⟩) (le_w [] rfl ⟨⟨_, rfl, .refl _⟩, trivial⟩ trivial (by decide)) ?_
    refine good_ret ?_
    obtain rfl := Option.some.inj h
    exact endQ_ret (h' := []) [] (.tmp rfl (.nil)) trivial (by decide) ⟨rfl, rfl⟩
def m_spec_l1Letter (a0 : Int) : Option Bool :=
  if 97 ≤ a0 then
    if a0 ≤ 122 then
      some true
    else
      if 65 ≤ a0 then
        if a0 ≤ 90 then
          some true
        else
          some (decide (a0 = 95))
      else
        some (decide (a0 = 95))
  else
    if 65 ≤ a0 then
      if a0 ≤ 90 then
        some true
      else
        some (decide (a0 = 95))
    else
      some (decide (a0 = 95))
theorem m_spec_l1Letter_ok : ∀ (a0 : Int) (r : Bool), m_spec_l1Letter a0 = some r → Does Try.prog 89 [.int .u8 a0] [] (ret (.bool r)) := by
  intro a0 r h
  rw [m_spec_l1Letter] at h
  refine does_of_good tabOk Try.func89 rfl (by decide +kernel) (Nat.le_of_ble_eq_true rfl) fun c => ?_
  refine Good.le (σ' := ⟨21, [(0, .int .u8 a0)], []⟩) (Le.refl _) ?_
  refine good_seq fun K1 hK1 => ?_
  refine good_region ?_
  refine g_op rfl (ValOk.op (v_assign rfl rfl ?_)) 
  refine g_nil ?_
  refine hK1 _ ?_
  refine good_seq fun K2 hK2 => ?_
  refine good_region ?_
  refine g_op rfl (ValOk.op (v_move rfl rfl ?_)) 
  refine g_op rfl (ValOk.op (v_bin rfl rfl rfl rfl ?_)) 
  refine g_op rfl (ValOk.op (v_move rfl rfl ?_)) 
  rcases bsplit ((decide (97 ≤ a0))) with hg1 | hg1
  · replace h := ifT h (dT hg1)
    refine g_yes rfl rfl hg1 (ValOk.op (v_move rfl rfl ?_)) 
    refine g_yes rfl rfl hg1 (ValOk.op (v_bin rfl rfl rfl rfl ?_)) 
    refine g_op rfl (ValOk.op (v_pickT rfl hg1 rfl rfl ?_)) 
    refine g_op rfl (ValOk.op (v_move rfl rfl ?_)) 
    rcases bsplit ((decide (a0 ≤ 122))) with hg2 | hg2
    · replace h := ifT h (dT hg2)
      refine g_no rfl rfl hg2 rfl ?_
      refine g_no rfl rfl hg2 rfl ?_
      refine g_no rfl rfl hg2 rfl ?_
      refine g_und rfl rfl rfl ?_
      refine g_und rfl rfl rfl ?_
      refine g_no rfl rfl hg2 rfl ?_
      refine g_op rfl (ValOk.op (v_pickT rfl hg2 rfl rfl ?_)) 
      refine g_op rfl (ValOk.op (v_move rfl rfl ?_)) 
      refine g_no rfl rfl rfl rfl ?_
      refine g_no rfl rfl rfl rfl ?_
      refine g_op rfl (ValOk.op (v_pickT rfl rfl rfl rfl ?_)) 
      refine g_op rfl (ValOk.op (v_assign rfl rfl ?_)) 
      refine g_nil ?_
      refine hK2 _ ?_
      refine Good.le (σ' := ⟨21, [(2, _)], []⟩) (le_w [] rfl ⟨⟨_, rfl, .refl _⟩, trivial⟩ trivial (by decide)) ?_
      refine Good.le (σ' := ⟨21, [(2, .bool true)], []⟩) (le_w [] rfl ⟨⟨_, rfl, .refl _⟩, trivial⟩ trivial (by decide)) ?_
      refine good_ret ?_
      obtain rfl := Option.some.inj h
      exact endQ_ret (h' := []) [] (.tmp rfl (.nil)) trivial (by decide) ⟨rfl, rfl⟩
    · replace h := ifF h (dF hg2)
      refine g_yes rfl rfl hg2 (ValOk.op (v_move rfl rfl ?_)) 
      refine g_yes rfl rfl hg2 (ValOk.op (v_bin rfl rfl rfl rfl ?_)) 
      refine g_yes rfl rfl hg2 (ValOk.op (v_move rfl rfl ?_)) 
      rcases bsplit ((decide (65 ≤ a0))) with hg3 | hg3
      · replace h := ifT h (dT hg3)
        refine g_yes rfl rfl hg3 (ValOk.op (v_move rfl rfl ?_)) 
        refine g_yes rfl rfl hg3 (ValOk.op (v_bin rfl rfl rfl rfl ?_)) 
        refine g_yes rfl rfl hg2 (ValOk.op (v_pickT rfl hg3 rfl rfl ?_)) 
        refine g_op rfl (ValOk.op (v_pickF rfl hg2 rfl rfl ?_)) 
        refine g_op rfl (ValOk.op (v_move rfl rfl ?_)) 
        rcases bsplit ((decide (a0 ≤ 90))) with hg4 | hg4
        · replace h := ifT h (dT hg4)
          refine g_no rfl rfl hg4 rfl ?_
          refine g_no rfl rfl hg4 rfl ?_
          refine g_op rfl (ValOk.op (v_pickT rfl hg4 rfl rfl ?_)) 
          refine g_op rfl (ValOk.op (v_assign rfl rfl ?_)) 
          refine g_nil ?_
          refine hK2 _ ?_
          refine Good.le (σ' := ⟨21, [(2, _)], []⟩) (le_w [] rfl ⟨⟨_, rfl, .refl _⟩, trivial⟩ trivial (by decide)) ?_
          refine Good.le (σ' := ⟨21, [(2, .bool true)], []⟩) (le_w [] rfl ⟨⟨_, rfl, .refl _⟩, trivial⟩ trivial (by decide)) ?_
          refine good_ret ?_
          obtain rfl := Option.some.inj h
          exact endQ_ret (h' := []) [] (.tmp rfl (.nil)) trivial (by decide) ⟨rfl, rfl⟩
        · replace h := ifF h (dF hg4)
          refine g_yes rfl rfl hg4 (ValOk.op (v_move rfl rfl ?_)) 
          refine g_yes rfl rfl hg4 (ValOk.op (v_bin rfl rfl rfl rfl ?_)) 
          refine g_op rfl (ValOk.op (v_pickF rfl hg4 rfl rfl ?_)) 
          refine g_op rfl (ValOk.op (v_assign rfl rfl ?_)) 
          refine g_nil ?_
          refine hK2 _ ?_
          refine Good.le (σ' := ⟨21, [(2, _)], []⟩) (le_w [] rfl ⟨⟨_, rfl, .refl _⟩, trivial⟩ trivial (by decide)) ?_
          refine Good.le (σ' := ⟨21, [(2, .bool (decide (a0 = 95)))], []⟩) (le_w [] rfl ⟨⟨_, rfl, .refl _⟩, trivial⟩ trivial (by decide)) ?_
          refine good_ret ?_
          obtain rfl := Option.some.inj h
          exact endQ_ret (h' := []) [] (.tmp rfl (.nil)) trivial (by decide) ⟨rfl, rfl⟩
      · replace h := ifF h (dF hg3)
        refine g_no rfl rfl hg3 rfl ?_
        refine g_no rfl rfl hg3 rfl ?_
        refine g_yes rfl rfl hg2 (ValOk.op (v_pickF rfl hg3 rfl rfl ?_)) 
        refine g_op rfl (ValOk.op (v_pickF rfl hg2 rfl rfl ?_)) 
        refine g_op rfl (ValOk.op (v_move rfl rfl ?_)) 
        refine g_yes rfl rfl rfl (ValOk.op (v_move rfl rfl ?_)) 
        refine g_yes rfl rfl rfl (ValOk.op (v_bin rfl rfl rfl rfl ?_)) 
        refine g_op rfl (ValOk.op (v_pickF rfl rfl rfl rfl ?_)) 
        refine g_op rfl (ValOk.op (v_assign rfl rfl ?_)) 
        refine g_nil ?_
        refine hK2 _ ?_
        refine Good.le (σ' := ⟨21, [(2, _)], []⟩) (le_w [] rfl ⟨⟨_, rfl, .refl _⟩, trivial⟩ trivial (by decide)) ?_
        refine Good.le (σ' := ⟨21, [(2, .bool (decide (a0 = 95)))], []⟩) (le_w [] rfl ⟨⟨_, rfl, .refl _⟩, trivial⟩ trivial (by decide)) ?_
        refine good_ret ?_
        obtain rfl := Option.some.inj h
        exact endQ_ret (h' := []) [] (.tmp rfl (.nil)) trivial (by decide) ⟨rfl, rfl⟩
  · replace h := ifF h (dF hg1)
    refine g_no rfl rfl hg1 rfl ?_
    refine g_no rfl rfl hg1 rfl ?_
    refine g_op rfl (ValOk.op (v_pickF rfl hg1 rfl rfl ?_)) 
    refine g_op rfl (ValOk.op (v_move rfl rfl ?_)) 
    refine g_yes rfl rfl rfl (ValOk.op (v_move rfl rfl ?_)) 
    refine g_yes rfl rfl rfl (ValOk.op (v_bin rfl rfl rfl rfl ?_)) 
    refine g_yes rfl rfl rfl (ValOk.op (v_move rfl rfl ?_)) 
    rcases bsplit ((decide (65 ≤ a0))) with hg5 | hg5
    · replace h := ifT h (dT hg5)
      refine g_yes rfl rfl hg5 (ValOk.op (v_move rfl rfl ?_)) 
      refine g_yes rfl rfl hg5 (ValOk.op (v_bin rfl rfl rfl rfl ?_)) 
      refine g_yes rfl rfl rfl (ValOk.op (v_pickT rfl hg5 rfl rfl ?_)) 
      refine g_op rfl (ValOk.op (v_pickF rfl rfl rfl rfl ?_)) 
      refine g_op rfl (ValOk.op (v_move rfl rfl ?_)) 
      rcases bsplit ((decide (a0 ≤ 90))) with hg6 | hg6
      · replace h := ifT h (dT hg6)
        refine g_no rfl rfl hg6 rfl ?_
        refine g_no rfl rfl hg6 rfl ?_
        refine g_op rfl (ValOk.op (v_pickT rfl hg6 rfl rfl ?_)) 
        refine g_op rfl (ValOk.op (v_assign rfl rfl ?_)) 
        refine g_nil ?_
        refine hK2 _ ?_
        refine Good.le (σ' := ⟨21, [(2, _)], []⟩) (le_w [] rfl ⟨⟨_, rfl, .refl _⟩, trivial⟩ trivial (by decide)) ?_
        refine Good.le (σ' := ⟨21, [(2, .bool true)], []⟩) (le_w [] rfl ⟨⟨_, rfl, .refl _⟩, trivial⟩ trivial (by decide)) ?_
        refine good_ret ?_
        obtain rfl := Option.some.inj h
        exact endQ_ret (h' := []) [] (.tmp rfl (.nil)) trivial (by decide) ⟨rfl, rfl⟩
      · replace h := ifF h (dF hg6)
        refine g_yes rfl rfl hg6 (ValOk.op (v_move rfl rfl ?_)) 
        refine g_yes rfl rfl hg6 (ValOk.op (v_bin rfl rfl rfl rfl ?_)) 
        refine g_op rfl (ValOk.op (v_pickF rfl hg6 rfl rfl ?_)) 
        refine g_op rfl (ValOk.op (v_assign rfl rfl ?_)) 
        refine g_nil ?_
        refine hK2 _ ?_
        refine Good.le (σ' := ⟨21, [(2, _)], []⟩) (le_w [] rfl ⟨⟨_, rfl, .refl _⟩, trivial⟩ trivial (by decide)) ?_
        refine Good.le (σ' := ⟨21, [(2, .bool (decide (a0 = 95)))], []⟩) (le_w [] rfl ⟨⟨_, rfl, .refl _⟩, trivial⟩ trivial (by decide)) ?_
        refine good_ret ?_
        obtain rfl := Option.some.inj h
        exact endQ_ret (h' := []) [] (.tmp rfl (.nil)) trivial (by decide) ⟨rfl, rfl⟩
    · replace h := ifF h (dF hg5)
      refine g_no rfl rfl hg5 rfl ?_
      refine g_no rfl rfl hg5 rfl ?_
      refine g_yes rfl rfl rfl (ValOk.op (v_pickF rfl hg5 rfl rfl ?_)) 
      refine g_op rfl (ValOk.op (v_pickF rfl rfl rfl rfl ?_)) 
      refine g_op rfl (ValOk.op (v_move rfl rfl ?_)) 
      refine g_yes rfl rfl rfl (ValOk.op (v_move rfl rfl ?_)) 
      refine g_yes rfl rfl rfl (ValOk.op (v_bin rfl rfl rfl rfl ?_)) 
      refine g_op rfl (ValOk.op (v_pickF rfl rfl rfl rfl ?_)) 
      refine g_op rfl (ValOk.op (v_assign rfl rfl ?_)) 
      refine g_nil ?_
      refine hK2 _ ?_
      refine Good.le (σ' := ⟨21, [(2, _)], []⟩) (le_w [] rfl ⟨⟨_, rfl, .refl _⟩, trivial⟩ trivial (by decide)) ?_
      refine Good.le (σ' := ⟨21, [(2, .bool (decide (a0 = 95)))], []⟩) (le_w [] rfl ⟨⟨_, rfl, .refl _⟩, trivial⟩ trivial (by decide)) ?_
      refine good_ret ?_
      obtain rfl := Option.some.inj h
      exact endQ_ret (h' := []) [] (.tmp rfl (.nil)) trivial (by decide) ⟨rfl, rfl⟩
def m_spec_l1Figure (a0 : Int) : Option Bool :=
  if 48 ≤ a0 then
    some (decide (a0 ≤ 57))
  else
    some false
theorem m_spec_l1Figure_ok : ∀ (a0 : Int) (r : Bool), m_spec_l1Figure a0 = some r → Does Try.prog 90 [.int .u8 a0] [] (ret (.bool r)) := by
  intro a0 r h
  rw [m_spec_l1Figure] at h
  refine does_of_good tabOk Try.func90 rfl (by decide +kernel) (Nat.le_of_ble_eq_true rfl) fun c => ?_
  refine Good.le (σ' := ⟨9, [(0, .int .u8 a0)], []⟩) (Le.refl _) ?_
  refine good_seq fun K1 hK1 => ?_
  refine good_region ?_
  refine g_op rfl (ValOk.op (v_assign rfl rfl ?_)) 
  refine g_nil ?_
  refine hK1 _ ?_
  refine good_seq fun K2 hK2 => ?_
  refine good_region ?_
  refine g_op rfl (ValOk.op (v_move rfl rfl ?_)) 
  refine g_op rfl (ValOk.op (v_bin rfl rfl rfl rfl ?_)) 
  refine g_op rfl (ValOk.op (v_move rfl rfl ?_)) 
  rcases bsplit ((decide (48 ≤ a0))) with hg1 | hg1
  · replace h := ifT h (dT hg1)
    refine g_yes rfl rfl hg1 (ValOk.op (v_move rfl rfl ?_)) 
    refine g_yes rfl rfl hg1 (ValOk.op (v_bin rfl rfl rfl rfl ?_)) 
    refine g_op rfl (ValOk.op (v_pickT rfl hg1 rfl rfl ?_)) 
    refine g_op rfl (ValOk.op (v_assign rfl rfl ?_)) 
    refine g_nil ?_
    refine hK2 _ ?_
    refine Good.le (σ' := ⟨9, [(2, _)], []⟩) (le_w [] rfl ⟨⟨_, rfl, .refl _⟩, trivial⟩ trivial (by decide)) ?_
    refine Good.le (σ' := ⟨9, [(2, .bool (decide (a0 ≤ 57)))], []⟩) (le_w [] rfl ⟨⟨_, rfl, .refl _⟩, trivial⟩ trivial (by decide)) ?_
    refine good_ret ?_
    obtain rfl := Option.some.inj h
    exact endQ_ret (h' := []) [] (.tmp rfl (.nil)) trivial (by decide) ⟨rfl, rfl⟩
  · replace h := ifF h (dF hg1)
    refine g_no rfl rfl hg1 rfl ?_
    refine g_no rfl rfl hg1 rfl ?_
    refine g_op rfl (ValOk.op (v_pickF rfl hg1 rfl rfl ?_)) 
    refine g_op rfl (ValOk.op (v_assign rfl rfl ?_)) 
    refine g_nil ?_
    refine hK2 _ ?_
    refine Good.le (σ' := ⟨9, [(2, _)], []⟩) (le_w [] rfl ⟨⟨_, rfl, .refl _⟩, trivial⟩ trivial (by decide)) ?_
    refine Good.le (σ' := ⟨9, [(2, .bool false)], []⟩) (le_w [] rfl ⟨⟨_, rfl, .refl _⟩, trivial⟩ trivial (by decide)) ?_
    refine good_ret ?_
    obtain rfl := Option.some.inj h
    exact endQ_ret (h' := []) [] (.tmp rfl (.nil)) trivial (by decide) ⟨rfl, rfl⟩
def m_spec_l1Name_l1 : Nat → Bs → Int → Option (Lp Unit Bool)
  | 0, _, _ => none
  | k + 1, a0, x1 =>
    if x1 < (a0.length : Int) then
      (if (0 : Int) ≤ x1 ∧ x1 < (a0.length : Int) then
          (m_spec_l1Letter (byt a0 x1)).bind fun y2 =>
          if y2 = true then
            some (Lp.go false)
          else
            if x1 = 0 then
              some (Lp.go true)
            else
              if (0 : Int) ≤ x1 ∧ x1 < (a0.length : Int) then
                (m_spec_l1Figure (byt a0 x1)).bind fun y3 =>
                some (Lp.go (!y3))
              else none
        else none).bind fun o2 =>
      o2.then fun s2 =>
    if s2 = true then
      (some false).bind fun z =>
      some (Lp.ret z)
    else
      m_spec_l1Name_l1 k a0 (IntKind.wrap .i64 (x1 + 1))
    else
      some (Lp.go ())
def m_spec_l1Name (k : Nat) (a0 : Bs) : Option Bool :=
  (m_spec_l1Name_l1 k a0 0).bind fun o1 =>
  o1.then fun s1 =>
    (m_spec_l1In (a0.length : Int) 1 12).bind fun y1 =>
    some y1
theorem m_spec_l1Name_ok (k : Nat) : ∀ (a0 : Bs) (r : Bool), m_spec_l1Name k a0 = some r → Does Try.prog 80 [.str a0] [] (ret (.bool r)) := by
  intro a0 r h
  rw [m_spec_l1Name] at h
  refine does_of_good tabOk Try.func80 rfl (by decide +kernel) (Nat.le_of_ble_eq_true rfl) fun c => ?_
  refine Good.le (σ' := ⟨29, [(0, .str a0)], []⟩) (Le.refl _) ?_
  refine good_seq fun K1 hK1 => ?_
  refine good_region ?_
  refine g_op rfl (ValOk.op (v_assign rfl rfl ?_)) 
  refine g_nil ?_
  refine hK1 _ ?_
  refine good_seq fun K2 hK2 => ?_
  refine good_seq fun K3 hK3 => ?_
  refine good_region ?_
  refine g_op rfl (ValOk.op (v_assign rfl rfl ?_)) 
  refine g_nil ?_
  refine hK3 _ ?_
  obtain ⟨o1, ho1, hJ1⟩ := bnd h
  have hw1 : ∀ (s1 : Unit), o1 = Lp.go s1 → ∀ σ', Le σ' ⟨29, [(0, .str a0), (2, .bool false)], []⟩ → K2 σ' := by
    intro s1 e1 σ' hle1
    subst e1
    refine hK2 _ (Good.le hle1 ?_)
    replace h := hJ1
    refine good_seq fun K4 hK4 => ?_
    refine good_region ?_
    refine g_op rfl (ValOk.op (v_move rfl rfl ?_)) 
    refine g_op rfl (ValOk.op (v_lenS tabOk rfl rfl tkind9 rfl ?_)) 
    obtain ⟨y1, hy1, h⟩ := bnd h
    refine g_op rfl (o_callR [] [] (core_value rfl rfl) (m_spec_l1In_ok (a0.length : Int) 1 12 _ hy1) trivial (.cons (.refl _) (.cons (.refl _) (.cons (.refl _) (.nil)))) (.inl rfl) rfl ?_)
    refine g_op rfl (ValOk.op (v_assign rfl rfl ?_)) 
    refine g_nil ?_
    refine hK4 _ ?_
    refine Good.le (σ' := ⟨29, [(2, _)], []⟩) (le_w [] rfl ⟨⟨_, rfl, .refl _⟩, trivial⟩ trivial (by decide)) ?_
    refine Good.le (σ' := ⟨29, [(2, .bool y1)], []⟩) (le_w [] rfl ⟨⟨_, rfl, .refl _⟩, trivial⟩ trivial (by decide)) ?_
    refine good_ret ?_
    obtain rfl := Option.some.inj h
    exact endQ_ret (h' := []) [] (.tmp rfl (.nil)) trivial (by decide) ⟨rfl, rfl⟩
  replace h := ho1
  refine good_block ?_
  refine good_loopf (fun p : Int => ⟨29, [(0, .str a0), (2, .bool false), (3, .int .i64 p)], []⟩) (fun m p => m_spec_l1Name_l1 m a0 p = some o1) k (0) (le_w [] rfl ⟨⟨_, rfl, .refl _⟩, ⟨⟨_, rfl, .refl _⟩, ⟨⟨_, rfl, .refl _⟩, trivial⟩⟩⟩ trivial (by decide)) h ?_
  rintro m1 x1 h
  replace h : m_spec_l1Name_l1 m1 a0 x1 = some o1 := h
  refine Good.le (σ' := ⟨29, [(0, .str a0), (2, .bool false), (3, .int .i64 x1)], []⟩) (Le.refl _) ?_
  obtain ⟨m1, rfl⟩ : ∃ m', m1 = m' + 1 := by cases m1 with | zero => (rw [m_spec_l1Name_l1] at h; cases h) | succ m' => exact ⟨m', rfl⟩
  rw [m_spec_l1Name_l1] at h
  refine good_seq fun K5 hK5 => ?_
  refine good_seq fun K6 hK6 => ?_
  refine good_region ?_
  refine g_op rfl (ValOk.op (v_move rfl rfl ?_)) 
  refine g_op rfl (ValOk.op (v_move rfl rfl ?_)) 
  refine g_op rfl (ValOk.op (v_lenS tabOk rfl rfl tkind9 rfl ?_)) 
  refine g_op rfl (ValOk.op (v_bin rfl rfl rfl rfl ?_)) 
  refine g_nil ?_
  refine hK6 _ ?_
  refine Good.le (σ' := ⟨29, [(0, _), (2, _), (3, _), (7, _)], []⟩) (le_w [] rfl ⟨⟨_, rfl, .refl _⟩, ⟨⟨_, rfl, .refl _⟩, ⟨⟨_, rfl, .refl _⟩, ⟨⟨_, rfl, .refl _⟩, trivial⟩⟩⟩⟩ trivial (by decide)) ?_
  refine good_cond rfl (fun hc1 => ?_) (fun hc1 => ?_)
  · replace h := ifT h (dT hc1)
    refine good_skip ?_
    refine hK5 _ ?_
    refine Good.le (σ' := ⟨29, [(0, _), (2, _), (3, _)], []⟩) (le_w [] rfl ⟨⟨_, rfl, .refl _⟩, ⟨⟨_, rfl, .refl _⟩, ⟨⟨_, rfl, .refl _⟩, trivial⟩⟩⟩ trivial (by decide)) ?_
    refine good_seq fun K7 hK7 => ?_
    refine good_block ?_
    refine good_seq fun K8 hK8 => ?_
    obtain ⟨o2, ho2, hJ2⟩ := bnd h
    have hw2 : ∀ (s2 : Bool), o2 = Lp.go s2 → ∀ σ', Le σ' ⟨29, [(0, .str a0), (2, .bool false), (3, .int .i64 x1), (25, .bool s2)], []⟩ → K8 σ' := by
      intro s2 e2 σ' hle2
      subst e2
      refine hK8 _ (Good.le hle2 ?_)
      replace h := hJ2
      refine good_cond rfl (fun hc2 => ?_) (fun hc2 => ?_)
      · replace h := ifT h hc2
        refine good_seq fun K9 hK9 => ?_
        refine good_region ?_
        refine g_op rfl (ValOk.op (v_assign rfl rfl ?_)) 
        refine g_nil ?_
        refine hK9 _ ?_
        refine Good.le (σ' := ⟨29, [(0, _), (2, _), (3, _)], []⟩) (le_w [] rfl ⟨⟨_, rfl, .refl _⟩, ⟨⟨_, rfl, .refl _⟩, ⟨⟨_, rfl, .refl _⟩, trivial⟩⟩⟩ trivial (by decide)) ?_
        refine Good.le (σ' := ⟨29, [(2, .bool false)], []⟩) (le_w [] rfl ⟨⟨_, rfl, .refl _⟩, trivial⟩ trivial (by decide)) ?_
        refine good_ret ?_
        replace h := unret h hJ1
        obtain rfl := Option.some.inj h
        refine blockQ_ret ?_
        refine thenQ_ret ?_
        refine thenQ_ret ?_
        refine blockQ_ret ?_
        refine thenQ_ret ?_
        exact endQ_ret (h' := []) [] (.tmp rfl (.nil)) trivial (by decide) ⟨rfl, rfl⟩
      · replace h := bF h hc2
        refine good_skip ?_
        refine hK7 _ ?_
        refine Good.le (σ' := ⟨29, [(0, _), (2, _), (3, _)], []⟩) (le_w [] rfl ⟨⟨_, rfl, .refl _⟩, ⟨⟨_, rfl, .refl _⟩, ⟨⟨_, rfl, .refl _⟩, trivial⟩⟩⟩ trivial (by decide)) ?_
        refine good_region ?_
        refine g_op rfl (ValOk.op (v_move rfl rfl ?_)) 
        refine g_op rfl (ValOk.op (v_bin rfl rfl rfl rfl ?_)) 
        refine g_op rfl (ValOk.op (v_assign rfl rfl ?_)) 
        refine g_nil ?_
        exact round_mk m1 (IntKind.wrap .i64 (x1 + 1)) (Nat.lt_succ_self _) h (le_w [] rfl ⟨⟨_, rfl, .refl _⟩, ⟨⟨_, rfl, .refl _⟩, ⟨⟨_, rfl, .refl _⟩, trivial⟩⟩⟩ trivial (by decide))
    replace h := ho2
    refine good_region ?_
    refine g_op rfl (ValOk.op (v_move rfl rfl ?_)) 
    refine g_op rfl (ValOk.op (v_move rfl rfl ?_)) 
    obtain ⟨hb1, h⟩ := ifS h
    refine g_op rfl (ValOk.op (v_indexM tabOk rfl rfl tkind9 hb1 rfl ?_)) 
    obtain ⟨y2, hy2, h⟩ := bnd h
    refine g_op rfl (o_callR [] [] (core_value rfl rfl) (m_spec_l1Letter_ok (byt a0 x1) _ hy2) trivial (.cons (.refl _) (.nil)) (.inl rfl) rfl ?_)
    refine g_op rfl (ValOk.op (v_not rfl rfl ?_)) 
    refine g_op rfl (ValOk.op (v_move rfl rfl ?_)) 
    rcases bsplit ((!y2)) with hg1 | hg1
    · replace h := bF h (nT hg1)
      refine g_yes rfl rfl hg1 (ValOk.op (v_move rfl rfl ?_)) 
      refine g_yes rfl rfl hg1 (ValOk.op (v_bin rfl rfl rfl rfl ?_)) 
      refine g_yes rfl rfl hg1 (ValOk.op (v_move rfl rfl ?_)) 
      rcases bsplit ((decide (x1 = 0))) with hg2 | hg2
      · replace h := ifT h (dT hg2)
        refine g_no rfl rfl hg2 rfl ?_
        refine g_no rfl rfl hg2 rfl ?_
        refine g_no rfl rfl hg2 rfl ?_
        refine g_no rfl rfl hg2 rfl ?_
        refine g_no rfl rfl hg2 rfl ?_
        refine g_yes rfl rfl hg1 (ValOk.op (v_pickT rfl hg2 rfl rfl ?_)) 
        refine g_op rfl (ValOk.op (v_pickT rfl hg1 rfl rfl ?_)) 
        refine g_nil ?_
        exact hw2 true (Option.some.inj h).symm _ (le_w [] rfl ⟨⟨_, rfl, .refl _⟩, ⟨⟨_, rfl, .refl _⟩, ⟨⟨_, rfl, .refl _⟩, ⟨⟨_, rfl, .refl _⟩, trivial⟩⟩⟩⟩ trivial (by decide))
      · replace h := ifF h (dF hg2)
        refine g_yes rfl rfl hg2 (ValOk.op (v_move rfl rfl ?_)) 
        refine g_yes rfl rfl hg2 (ValOk.op (v_move rfl rfl ?_)) 
        obtain ⟨hb2, h⟩ := ifS h
        refine g_yes rfl rfl hg2 (ValOk.op (v_indexM tabOk rfl rfl tkind9 hb2 rfl ?_)) 
        obtain ⟨y3, hy3, h⟩ := bnd h
        refine g_yes rfl rfl hg2 (o_callR [] [] (core_value rfl rfl) (m_spec_l1Figure_ok (byt a0 x1) _ hy3) trivial (.cons (.refl _) (.nil)) (.inl rfl) rfl ?_)
        refine g_yes rfl rfl hg2 (ValOk.op (v_not rfl rfl ?_)) 
        refine g_yes rfl rfl hg1 (ValOk.op (v_pickF rfl hg2 rfl rfl ?_)) 
        refine g_op rfl (ValOk.op (v_pickT rfl hg1 rfl rfl ?_)) 
        refine g_nil ?_
        exact hw2 (!y3) (Option.some.inj h).symm _ (le_w [] rfl ⟨⟨_, rfl, .refl _⟩, ⟨⟨_, rfl, .refl _⟩, ⟨⟨_, rfl, .refl _⟩, ⟨⟨_, rfl, .refl _⟩, trivial⟩⟩⟩⟩ trivial (by decide))
    · replace h := ifT h (nF hg1)
      refine g_no rfl rfl hg1 rfl ?_
      refine g_no rfl rfl hg1 rfl ?_
      refine g_no rfl rfl hg1 rfl ?_
      refine g_und rfl rfl rfl ?_
      refine g_und rfl rfl rfl ?_
      refine g_und rfl rfl rfl ?_
      refine g_und rfl rfl rfl ?_
      refine g_und rfl rfl rfl ?_
      refine g_no rfl rfl hg1 rfl ?_
      refine g_op rfl (ValOk.op (v_pickF rfl hg1 rfl rfl ?_)) 
      refine g_nil ?_
      exact hw2 false (Option.some.inj h).symm _ (le_w [] rfl ⟨⟨_, rfl, .refl _⟩, ⟨⟨_, rfl, .refl _⟩, ⟨⟨_, rfl, .refl _⟩, ⟨⟨_, rfl, .refl _⟩, trivial⟩⟩⟩⟩ trivial (by decide))
  · replace h := ifF h (dF hc1)
    refine good_exit ?_
    exact hw1 () (Option.some.inj h).symm _ (le_w [] rfl ⟨⟨_, rfl, .refl _⟩, ⟨⟨_, rfl, .refl _⟩, trivial⟩⟩ trivial (by decide))
def m_spec_RefTo (a0 : Int) : Option Val :=
  (m_spec_l1In a0 0 2147483647).bind fun y1 =>
  if y1 = true then
    some (Val.mk 5 0 ([] : Bs) [(Val.mk 2 a0 ([] : Bs) [] [])] [[114, 101, 102]])
  else
    some (Val.mk 0 0 ([] : Bs) ([] : List Val) ([] : List Bs))
theorem m_spec_RefTo_ok : ∀ (a0 : Int) (r : Val), m_spec_RefTo a0 = some r → Does Try.prog 27 [.int .i64 a0] [] (fun q h' => ∃ u0 : Value, ∃ u1 : Value, q = .agg [.int .i64 r.kind, .int .i64 r.num, .str r.text, .hd 100 u0, .hd 101 u1] ∧ h' = [(100, (u0, .osl 30 5 (r.list.map encOVal))), (101, (u1, .osl 9 1 (r.names.map encS)))]) := by
  intro a0 r h
  rw [m_spec_RefTo] at h
  refine does_of_good tabOk Try.func27 rfl (by decide +kernel) (Nat.le_of_ble_eq_true rfl) fun c => ?_
  refine Good.le (σ' := ⟨12, [(0, .int .i64 a0)], []⟩) (Le.refl _) ?_
  refine good_seq fun K1 hK1 => ?_
  refine good_region ?_
  refine g_op rfl (o_alloc (k := 12) tabOk tzero30 rfl rfl ?_)
  intro b1
  refine g_nil ?_
  refine hK1 _ ?_
  refine good_seq fun K2 hK2 => ?_
  refine good_seq fun K3 hK3 => ?_
  refine good_region ?_
  refine g_op rfl (ValOk.op (v_move rfl rfl ?_)) 
  obtain ⟨y1, hy1, h⟩ := bnd h
  refine g_op rfl (o_callR [] [] (core_value rfl rfl) (m_spec_l1In_ok a0 0 2147483647 _ hy1) trivial (.cons (.refl _) (.cons (.refl _) (.cons (.refl _) (.nil)))) (.inl rfl) rfl ?_)
  refine g_op rfl (ValOk.op (v_not rfl rfl ?_)) 
  refine g_nil ?_
  refine hK3 _ ?_
  refine Good.le (σ' := ⟨12, [(0, _), (2, _), (5, _)], [(12, (_, _))]⟩) (le_w [some 12] rfl ⟨⟨_, rfl, .refl _⟩, ⟨⟨_, rfl, .refl _⟩, ⟨⟨_, rfl, .refl _⟩, trivial⟩⟩⟩ ⟨⟨_, rfl, .refl _⟩, trivial⟩ (by decide)) ?_
  refine good_cond rfl (fun hc1 => ?_) (fun hc1 => ?_)
  · replace h := bF h (nT hc1)
    refine good_seq fun K4 hK4 => ?_
    refine good_region ?_
    refine g_op rfl (ValOk.op (v_build tabOk (cs := [.int .i64 0, .int .i64 0, .str ([] : Bs), .nil, .nil]) tzero30 tsok30 rfl rfl rfl ?_)) 
    refine g_op rfl (o_storeP tabOk (cs' := [.int .i64 0, .int .i64 0, .str ([] : Bs), .nil, .nil]) rfl rfl tsize30 rfl rfl rfl (Nat.le_of_ble_eq_true rfl) rfl rfl rfl ?_)
    refine g_nil ?_
    refine hK4 _ ?_
    refine Good.le (σ' := ⟨12, [(0, _), (2, _)], [(12, (_, _))]⟩) (le_w [some 12] rfl ⟨⟨_, rfl, .refl _⟩, ⟨⟨_, rfl, .refl _⟩, trivial⟩⟩ ⟨⟨_, rfl, .refl _⟩, trivial⟩ (by decide)) ?_
    refine Good.le (σ' := ⟨12, [(2, .ptr 12 b1 0)], [(100, (nilV, .osl 30 5 (([] : List Val).map encOVal))), (101, (nilV, .osl 9 1 (([] : List Bs).map encS))), (12, ((.pointer (some ⟨b1, 0, none⟩)), .optr 30 [.int .i64 0, .int .i64 0, .str ([] : Bs), .hd 100 nilV, .hd 101 nilV]))]⟩) (le_w [none, none, some 12] rfl ⟨⟨_, rfl, .refl _⟩, trivial⟩ ⟨⟨rfl, _, _, rfl⟩, ⟨⟨rfl, _, _, rfl⟩, ⟨⟨_, rfl, .optr (.cons (.refl _) (.cons (.refl _) (.cons (.refl _) (.cons (.nilhd _) (.cons (.nilhd _) (.nil))))))⟩, trivial⟩⟩⟩ (by decide)) ?_
    refine good_ret ?_
    obtain rfl := Option.some.inj h
    refine thenQ_ret ?_
    exact endQ_ret (h' := [(100, (_, _)), (101, (_, _))]) [some 100, some 101] (.cell rfl rfl tsize30 tagg30 rfl rfl rfl (.nil)) ⟨⟨_, rfl, .refl _⟩, ⟨⟨_, rfl, .refl _⟩, trivial⟩⟩ (by decide) ⟨nilV, nilV, rfl, rfl⟩
  · replace h := ifT h (nF hc1)
    refine good_skip ?_
    refine hK2 _ ?_
    refine Good.le (σ' := ⟨12, [(0, _), (2, _)], [(12, (_, _))]⟩) (le_w [some 12] rfl ⟨⟨_, rfl, .refl _⟩, ⟨⟨_, rfl, .refl _⟩, trivial⟩⟩ ⟨⟨_, rfl, .refl _⟩, trivial⟩ (by decide)) ?_
    refine good_seq fun K5 hK5 => ?_
    refine good_region ?_
    refine g_op rfl (o_buildSlice (k := 17) (rows := [[114, 101, 102]].map encS) tabOk telem23 tsize9 rfl rfl rfl rfl (by decide) (by decide) (by rw [tzero9]; rfl) rfl rfl rfl rfl rfl ?_)
    intro w1
    refine g_op rfl (ValOk.op (v_move rfl rfl ?_)) 
    refine g_op rfl (ValOk.op (v_build tabOk (cs := [.int .i64 2, .int .i64 a0, .str ([] : Bs), .nil, .nil]) tzero30 tsok30 rfl rfl rfl ?_)) 
    refine g_op rfl (OpOk.le (o_buildSlice (k := 20) (rows := [[.int .i64 2, .int .i64 a0, .str ([] : Bs), .nil, .nil]]) tabOk telem28 tsize30 rfl rfl rfl rfl (by decide) (by decide) (by rw [tzero30]; rfl) rfl rfl rfl rfl rfl ?_))
    intro w2
    refine ⟨_, (le_nils (k := 20) (rows' := [(Val.mk 2 a0 ([] : Bs) [] [])].map encOVal) rfl (by simp only [List.map_cons, List.map_nil, encOVal_eq]; exact .cons (.cons (.refl _) (.cons (.refl _) (.cons (.refl _) (.cons (.nil _ _) (.cons (.nil _ _) (.nil)))))) (.nil))), ?_⟩
    refine g_op rfl (ValOk.op (v_build tabOk (cs := [.int .i64 5, .int .i64 0, .str ([] : Bs), .hd 20 w2, .hd 17 w1]) tzero30 tsok30 rfl rfl rfl ?_)) 
    refine g_op rfl (o_storeP tabOk (cs' := [.int .i64 5, .int .i64 0, .str ([] : Bs), .hd 20 w2, .hd 17 w1]) rfl rfl tsize30 rfl rfl rfl (Nat.le_of_ble_eq_true rfl) rfl rfl rfl ?_)
    refine g_nil ?_
    refine hK5 _ ?_
    refine Good.le (σ' := ⟨12, [(2, _)], [(12, (_, _)), (20, (_, _)), (17, (_, _))]⟩) (le_w [some 12, some 20, some 17] rfl ⟨⟨_, rfl, .refl _⟩, trivial⟩ ⟨⟨_, rfl, .refl _⟩, ⟨⟨_, rfl, .refl _⟩, ⟨⟨_, rfl, .refl _⟩, trivial⟩⟩⟩ (by decide)) ?_
    refine Good.le (σ' := ⟨12, [(2, .ptr 12 b1 0)], [(100, (w2, .osl 30 5 ([(Val.mk 2 a0 ([] : Bs) [] [])].map encOVal))), (101, (w1, .osl 9 1 ([[114, 101, 102]].map encS))), (12, ((.pointer (some ⟨b1, 0, none⟩)), .optr 30 [.int .i64 5, .int .i64 0, .str ([] : Bs), .hd 100 w2, .hd 101 w1]))]⟩) (le_w [some 20, some 17, some 12] rfl ⟨⟨_, rfl, .refl _⟩, trivial⟩ ⟨⟨_, rfl, .refl _⟩, ⟨⟨_, rfl, .refl _⟩, ⟨⟨_, rfl, .optr (.cons (.refl _) (.cons (.refl _) (.cons (.refl _) (.cons (.hd _ _ _) (.cons (.hd _ _ _) (.nil))))))⟩, trivial⟩⟩⟩ (by decide)) ?_
    refine good_ret ?_
    obtain rfl := Option.some.inj h
    exact endQ_ret (h' := [(100, (_, _)), (101, (_, _))]) [some 100, some 101] (.cell rfl rfl tsize30 tagg30 rfl rfl rfl (.nil)) ⟨⟨_, rfl, .refl _⟩, ⟨⟨_, rfl, .refl _⟩, trivial⟩⟩ (by decide) ⟨w2, w1, rfl, rfl⟩
theorem m_spec_RefTo_okF : ∀ (a0 : Int) (r : Val), m_spec_RefTo a0 = some r → Does Try.prog 27 [.int .i64 a0] [] (ret (.agg [.int .i64 r.kind, .int .i64 r.num, .str r.text, .sl (r.list.map encVal), .sl (r.names.map encS)])) := by
  intro a0 r h
  refine does_frz (m_spec_RefTo_ok a0 r h) ?_
  rintro q h' ⟨u0, u1, rfl, rfl⟩
  exact ⟨[100, 101], [(_, _), (_, _)], ⟨⟨_, rfl, .osl (FrzLL.map fun _ _ => encOVal_frz _)⟩, ⟨⟨_, rfl, .osl (FrzLL.map fun _ _ => encS_frz _)⟩, trivial⟩⟩, .agg (.cons (.refl _) (.cons (.refl _) (.cons (.refl _) (.cons (.frz _ _ _ (.head _)) (.cons (.frz _ _ _ (.tail _ (.head _))) (.nil))))))⟩
def m_impl_RefTo (a0 : Int) : Option Val :=
  (if a0 < 0 then
      some (Lp.go true)
    else
      some (Lp.go (decide (2147483647 < a0)))).bind fun o1 =>
  o1.then fun s1 =>
    if s1 = true then
      some (Val.mk 0 0 ([] : Bs) ([] : List Val) ([] : List Bs))
    else
      some (Val.mk 5 0 ([] : Bs) [(Val.mk 2 a0 ([] : Bs) [] [])] [[114, 101, 102]])
theorem m_impl_RefTo_ok : ∀ (a0 : Int) (r : Val), m_impl_RefTo a0 = some r → Does Try.prog 28 [.int .i64 a0] [] (fun q h' => ∃ u0 : Value, ∃ u1 : Value, q = .agg [.int .i64 r.kind, .int .i64 r.num, .str r.text, .hd 100 u0, .hd 101 u1] ∧ h' = [(100, (u0, .osl 30 5 (r.list.map encOVal))), (101, (u1, .osl 9 1 (r.names.map encS)))]) := by
  intro a0 r h
  rw [m_impl_RefTo] at h
  refine does_of_good tabOk Try.func28 rfl (by decide +kernel) (Nat.le_of_ble_eq_true rfl) fun c => ?_
  refine Good.le (σ' := ⟨15, [(0, .int .i64 a0)], []⟩) (Le.refl _) ?_
  refine good_seq fun K1 hK1 => ?_
  refine good_region ?_
  refine g_op rfl (o_alloc (k := 12) tabOk tzero30 rfl rfl ?_)
  intro b1
  refine g_nil ?_
  refine hK1 _ ?_
  refine good_seq fun K2 hK2 => ?_
  refine good_seq fun K3 hK3 => ?_
  obtain ⟨o1, ho1, hJ1⟩ := bnd h
  have hw1 : ∀ (s1 : Bool), o1 = Lp.go s1 → ∀ σ', Le σ' ⟨15, [(0, .int .i64 a0), (2, .ptr 12 b1 0), (8, .bool s1)], [(12, ((.pointer (some ⟨b1, 0, none⟩)), .optr 30 [.int .i64 0, .int .i64 0, .str ([] : Bs), .nil, .nil]))]⟩ → K3 σ' := by
    intro s1 e1 σ' hle1
    subst e1
    refine hK3 _ (Good.le hle1 ?_)
    replace h := hJ1
    refine good_cond rfl (fun hc1 => ?_) (fun hc1 => ?_)
    · replace h := ifT h hc1
      refine good_seq fun K4 hK4 => ?_
      refine good_region ?_
      refine g_op rfl (ValOk.op (v_build tabOk (cs := [.int .i64 0, .int .i64 0, .str ([] : Bs), .nil, .nil]) tzero30 tsok30 rfl rfl rfl ?_)) 
      refine g_op rfl (o_storeP tabOk (cs' := [.int .i64 0, .int .i64 0, .str ([] : Bs), .nil, .nil]) rfl rfl tsize30 rfl rfl rfl (Nat.le_of_ble_eq_true rfl) rfl rfl rfl ?_)
      refine g_nil ?_
      refine hK4 _ ?_
      refine Good.le (σ' := ⟨15, [(0, _), (2, _)], [(12, (_, _))]⟩) (le_w [some 12] rfl ⟨⟨_, rfl, .refl _⟩, ⟨⟨_, rfl, .refl _⟩, trivial⟩⟩ ⟨⟨_, rfl, .refl _⟩, trivial⟩ (by decide)) ?_
      refine Good.le (σ' := ⟨15, [(2, .ptr 12 b1 0)], [(100, (nilV, .osl 30 5 (([] : List Val).map encOVal))), (101, (nilV, .osl 9 1 (([] : List Bs).map encS))), (12, ((.pointer (some ⟨b1, 0, none⟩)), .optr 30 [.int .i64 0, .int .i64 0, .str ([] : Bs), .hd 100 nilV, .hd 101 nilV]))]⟩) (le_w [none, none, some 12] rfl ⟨⟨_, rfl, .refl _⟩, trivial⟩ ⟨⟨rfl, _, _, rfl⟩, ⟨⟨rfl, _, _, rfl⟩, ⟨⟨_, rfl, .optr (.cons (.refl _) (.cons (.refl _) (.cons (.refl _) (.cons (.nilhd _) (.cons (.nilhd _) (.nil))))))⟩, trivial⟩⟩⟩ (by decide)) ?_
      refine good_ret ?_
      obtain rfl := Option.some.inj h
      refine thenQ_ret ?_
      exact endQ_ret (h' := [(100, (_, _)), (101, (_, _))]) [some 100, some 101] (.cell rfl rfl tsize30 tagg30 rfl rfl rfl (.nil)) ⟨⟨_, rfl, .refl _⟩, ⟨⟨_, rfl, .refl _⟩, trivial⟩⟩ (by decide) ⟨nilV, nilV, rfl, rfl⟩
    · replace h := bF h hc1
      refine good_skip ?_
      refine hK2 _ ?_
      refine Good.le (σ' := ⟨15, [(0, _), (2, _)], [(12, (_, _))]⟩) (le_w [some 12] rfl ⟨⟨_, rfl, .refl _⟩, ⟨⟨_, rfl, .refl _⟩, trivial⟩⟩ ⟨⟨_, rfl, .refl _⟩, trivial⟩ (by decide)) ?_
      refine good_seq fun K5 hK5 => ?_
      refine good_region ?_
      refine g_op rfl (ValOk.op (v_move rfl rfl ?_)) 
      refine g_op rfl (ValOk.op (v_build tabOk (cs := [.int .i64 2, .int .i64 a0, .str ([] : Bs), .nil, .nil]) tzero30 tsok30 rfl rfl rfl ?_)) 
      refine g_op rfl (OpOk.le (o_buildSlice (k := 22) (rows := [[.int .i64 2, .int .i64 a0, .str ([] : Bs), .nil, .nil]]) tabOk telem28 tsize30 rfl rfl rfl rfl (by decide) (by decide) (by rw [tzero30]; rfl) rfl rfl rfl rfl rfl ?_))
      intro w1
      refine ⟨_, (le_nils (k := 22) (rows' := [(Val.mk 2 a0 ([] : Bs) [] [])].map encOVal) rfl (by simp only [List.map_cons, List.map_nil, encOVal_eq]; exact .cons (.cons (.refl _) (.cons (.refl _) (.cons (.refl _) (.cons (.nil _ _) (.cons (.nil _ _) (.nil)))))) (.nil))), ?_⟩
      refine g_op rfl (o_buildSlice (k := 23) (rows := [[114, 101, 102]].map encS) tabOk telem23 tsize9 rfl rfl rfl rfl (by decide) (by decide) (by rw [tzero9]; rfl) rfl rfl rfl rfl rfl ?_)
      intro w2
      refine g_op rfl (ValOk.op (v_build tabOk (cs := [.int .i64 5, .int .i64 0, .str ([] : Bs), .hd 22 w1, .hd 23 w2]) tzero30 tsok30 rfl rfl rfl ?_)) 
      refine g_op rfl (o_storeP tabOk (cs' := [.int .i64 5, .int .i64 0, .str ([] : Bs), .hd 22 w1, .hd 23 w2]) rfl rfl tsize30 rfl rfl rfl (Nat.le_of_ble_eq_true rfl) rfl rfl rfl ?_)
      refine g_nil ?_
      refine hK5 _ ?_
      refine Good.le (σ' := ⟨15, [(2, _)], [(12, (_, _)), (22, (_, _)), (23, (_, _))]⟩) (le_w [some 12, some 22, some 23] rfl ⟨⟨_, rfl, .refl _⟩, trivial⟩ ⟨⟨_, rfl, .refl _⟩, ⟨⟨_, rfl, .refl _⟩, ⟨⟨_, rfl, .refl _⟩, trivial⟩⟩⟩ (by decide)) ?_
      refine Good.le (σ' := ⟨15, [(2, .ptr 12 b1 0)], [(100, (w1, .osl 30 5 ([(Val.mk 2 a0 ([] : Bs) [] [])].map encOVal))), (101, (w2, .osl 9 1 ([[114, 101, 102]].map encS))), (12, ((.pointer (some ⟨b1, 0, none⟩)), .optr 30 [.int .i64 5, .int .i64 0, .str ([] : Bs), .hd 100 w1, .hd 101 w2]))]⟩) (le_w [some 22, some 23, some 12] rfl ⟨⟨_, rfl, .refl _⟩, trivial⟩ ⟨⟨_, rfl, .refl _⟩, ⟨⟨_, rfl, .refl _⟩, ⟨⟨_, rfl, .optr (.cons (.refl _) (.cons (.refl _) (.cons (.refl _) (.cons (.hd _ _ _) (.cons (.hd _ _ _) (.nil))))))⟩, trivial⟩⟩⟩ (by decide)) ?_
      refine good_ret ?_
      obtain rfl := Option.some.inj h
      exact endQ_ret (h' := [(100, (_, _)), (101, (_, _))]) [some 100, some 101] (.cell rfl rfl tsize30 tagg30 rfl rfl rfl (.nil)) ⟨⟨_, rfl, .refl _⟩, ⟨⟨_, rfl, .refl _⟩, trivial⟩⟩ (by decide) ⟨w1, w2, rfl, rfl⟩
  replace h := ho1
  refine good_region ?_
  refine g_op rfl (ValOk.op (v_move rfl rfl ?_)) 
  refine g_op rfl (ValOk.op (v_bin rfl rfl rfl rfl ?_)) 
  refine g_op rfl (ValOk.op (v_move rfl rfl ?_)) 
  rcases bsplit ((decide (a0 < 0))) with hg1 | hg1
  · replace h := ifT h (dT hg1)
    refine g_no rfl rfl hg1 rfl ?_
    refine g_no rfl rfl hg1 rfl ?_
    refine g_op rfl (ValOk.op (v_pickT rfl hg1 rfl rfl ?_)) 
    refine g_nil ?_
    exact hw1 true (Option.some.inj h).symm _ (le_w [some 12] rfl ⟨⟨_, rfl, .refl _⟩, ⟨⟨_, rfl, .refl _⟩, ⟨⟨_, rfl, .refl _⟩, trivial⟩⟩⟩ ⟨⟨_, rfl, .refl _⟩, trivial⟩ (by decide))
  · replace h := ifF h (dF hg1)
    refine g_yes rfl rfl hg1 (ValOk.op (v_move rfl rfl ?_)) 
    refine g_yes rfl rfl hg1 (ValOk.op (v_bin rfl rfl rfl rfl ?_)) 
    refine g_op rfl (ValOk.op (v_pickF rfl hg1 rfl rfl ?_)) 
    refine g_nil ?_
    exact hw1 (decide (2147483647 < a0)) (Option.some.inj h).symm _ (le_w [some 12] rfl ⟨⟨_, rfl, .refl _⟩, ⟨⟨_, rfl, .refl _⟩, ⟨⟨_, rfl, .refl _⟩, trivial⟩⟩⟩ ⟨⟨_, rfl, .refl _⟩, trivial⟩ (by decide))
theorem m_impl_RefTo_okF : ∀ (a0 : Int) (r : Val), m_impl_RefTo a0 = some r → Does Try.prog 28 [.int .i64 a0] [] (ret (.agg [.int .i64 r.kind, .int .i64 r.num, .str r.text, .sl (r.list.map encVal), .sl (r.names.map encS)])) := by
  intro a0 r h
  refine does_frz (m_impl_RefTo_ok a0 r h) ?_
  rintro q h' ⟨u0, u1, rfl, rfl⟩
  exact ⟨[100, 101], [(_, _), (_, _)], ⟨⟨_, rfl, .osl (FrzLL.map fun _ _ => encOVal_frz _)⟩, ⟨⟨_, rfl, .osl (FrzLL.map fun _ _ => encS_frz _)⟩, trivial⟩⟩, .agg (.cons (.refl _) (.cons (.refl _) (.cons (.refl _) (.cons (.frz _ _ _ (.head _)) (.cons (.frz _ _ _ (.tail _ (.head _))) (.nil))))))⟩
def m_laws_heldStringS_l1 : Nat → (List Bs) → Int → Int → Option (Lp Int Int)
  | 0, _, _, _ => none
  | k + 1, a0, x1, x2 =>
    if x2 < (a0.length : Int) then
      if (0 : Int) ≤ x2 ∧ x2 < (a0.length : Int) then
        (m_laws_markText k x1).bind fun y1 =>
        if (ix a0 x2) = y1 then
          m_laws_heldStringS_l1 k a0 (IntKind.wrap .i64 (x1 + 1)) (IntKind.wrap .i64 (x2 + 1))
        else
          (some (-1)).bind fun z =>
          some (Lp.ret z)
      else none
    else
      some (Lp.go x1)
def m_laws_heldStringS (k : Nat) (a0 : (List Bs)) (a1 : Int) : Option Int :=
  (m_laws_heldStringS_l1 k a0 a1 0).bind fun o1 =>
  o1.then fun s1 =>
    some s1
theorem m_laws_heldStringS_ok (k : Nat) : ∀ (a0 : (List Bs)) (a1 : Int) (r : Int), m_laws_heldStringS k a0 a1 = some r → Does Try.prog 58 [.sl (a0.map encS), .int .i64 a1] [] (ret (.int .i64 r)) := by
  intro a0 a1 r h
  rw [m_laws_heldStringS] at h
  refine does_of_good tabOk Try.func58 rfl (by decide +kernel) (Nat.le_of_ble_eq_true rfl) fun c => ?_
  refine Good.le (σ' := ⟨22, [(0, .sl (a0.map encS)), (1, .int .i64 a1)], []⟩) (Le.refl _) ?_
  refine good_seq fun K1 hK1 => ?_
  refine good_region ?_
  refine g_op rfl (ValOk.op (v_assign rfl rfl ?_)) 
  refine g_nil ?_
  refine hK1 _ ?_
  refine good_seq fun K2 hK2 => ?_
  refine good_seq fun K3 hK3 => ?_
  refine good_region ?_
  refine g_op rfl (ValOk.op (v_assign rfl rfl ?_)) 
  refine g_nil ?_
  refine hK3 _ ?_
  obtain ⟨o1, ho1, hJ1⟩ := bnd h
  have hw1 : ∀ (s1 : Int), o1 = Lp.go s1 → ∀ σ', Le σ' ⟨22, [(1, .int .i64 s1), (4, .int .i64 0)], []⟩ → K2 σ' := by
    intro s1 e1 σ' hle1
    subst e1
    refine hK2 _ (Good.le hle1 ?_)
    replace h := hJ1
    refine good_seq fun K4 hK4 => ?_
    refine good_region ?_
    refine g_op rfl (ValOk.op (v_move rfl rfl ?_)) 
    refine g_op rfl (ValOk.op (v_assign rfl rfl ?_)) 
    refine g_nil ?_
    refine hK4 _ ?_
    refine Good.le (σ' := ⟨22, [(4, _)], []⟩) (le_w [] rfl ⟨⟨_, rfl, .refl _⟩, trivial⟩ trivial (by decide)) ?_
    refine Good.le (σ' := ⟨22, [(4, .int .i64 s1)], []⟩) (le_w [] rfl ⟨⟨_, rfl, .refl _⟩, trivial⟩ trivial (by decide)) ?_
    refine good_ret ?_
    obtain rfl := Option.some.inj h
    exact endQ_ret (h' := []) [] (.tmp rfl (.nil)) trivial (by decide) ⟨rfl, rfl⟩
  replace h := ho1
  refine good_block ?_
  refine good_loopf (fun p : (Int × Int) => ⟨22, [(0, .sl (a0.map encS)), (1, .int .i64 p.1), (4, .int .i64 0), (5, .int .i64 p.2)], []⟩) (fun m p => m_laws_heldStringS_l1 m a0 p.1 p.2 = some o1) k (a1, 0) (le_w [] rfl ⟨⟨_, rfl, .refl _⟩, ⟨⟨_, rfl, .refl _⟩, ⟨⟨_, rfl, .refl _⟩, ⟨⟨_, rfl, .refl _⟩, trivial⟩⟩⟩⟩ trivial (by decide)) h ?_
  rintro m1 ⟨x1, x2⟩ h
  replace h : m_laws_heldStringS_l1 m1 a0 x1 x2 = some o1 := h
  refine Good.le (σ' := ⟨22, [(0, .sl (a0.map encS)), (1, .int .i64 x1), (4, .int .i64 0), (5, .int .i64 x2)], []⟩) (Le.refl _) ?_
  obtain ⟨m1, rfl⟩ : ∃ m', m1 = m' + 1 := by cases m1 with | zero => (rw [m_laws_heldStringS_l1] at h; cases h) | succ m' => exact ⟨m', rfl⟩
  rw [m_laws_heldStringS_l1] at h
  refine good_seq fun K5 hK5 => ?_
  refine good_seq fun K6 hK6 => ?_
  refine good_region ?_
  refine g_op rfl (ValOk.op (v_move rfl rfl ?_)) 
  refine g_op rfl (ValOk.op (v_move rfl rfl ?_)) 
  refine g_op rfl (ValOk.op (v_lenM (l := a0) (f := encS) tabOk rfl rfl telem23 rfl ?_)) 
  refine g_op rfl (ValOk.op (v_bin rfl rfl rfl rfl ?_)) 
  refine g_nil ?_
  refine hK6 _ ?_
  refine Good.le (σ' := ⟨22, [(0, _), (1, _), (4, _), (5, _), (9, _)], []⟩) (le_w [] rfl ⟨⟨_, rfl, .refl _⟩, ⟨⟨_, rfl, .refl _⟩, ⟨⟨_, rfl, .refl _⟩, ⟨⟨_, rfl, .refl _⟩, ⟨⟨_, rfl, .refl _⟩, trivial⟩⟩⟩⟩⟩ trivial (by decide)) ?_
  refine good_cond rfl (fun hc1 => ?_) (fun hc1 => ?_)
  · replace h := ifT h (dT hc1)
    refine good_skip ?_
    refine hK5 _ ?_
    refine Good.le (σ' := ⟨22, [(0, _), (1, _), (4, _), (5, _)], []⟩) (le_w [] rfl ⟨⟨_, rfl, .refl _⟩, ⟨⟨_, rfl, .refl _⟩, ⟨⟨_, rfl, .refl _⟩, ⟨⟨_, rfl, .refl _⟩, trivial⟩⟩⟩⟩ trivial (by decide)) ?_
    refine good_seq fun K7 hK7 => ?_
    refine good_block ?_
    refine good_seq fun K8 hK8 => ?_
    refine good_seq fun K9 hK9 => ?_
    refine good_draw (by kernel_rfl) (by kernel_rfl) ?_
    refine q_op rfl (v_move rfl rfl ?_) 
    refine q_op rfl (v_move rfl rfl ?_) 
    obtain ⟨hb1, h⟩ := ifS h
    refine q_op rfl (v_idxM tabOk rfl rfl telem23 tsize9 hb1 rfl rfl rfl ?_) 
    refine q_op rfl (v_loadE tabOk rfl tsize9 tagg9 rfl rfl rfl ?_) 
    refine q_op rfl (v_move rfl rfl ?_) 
    obtain ⟨y1, hy1, h⟩ := bnd h
    refine q_call [] [] (fun _ _ _ _ _ => wanted_none rfl _) (core_value rfl rfl) (m_laws_markText_ok m1 x1 _ hy1) trivial (.cons (.refl _) (.nil)) (.str _) rfl ?_
    refine q_op rfl (v_bin rfl rfl rfl rfl ?_) 
    refine q_nil ?_
    refine hK9 _ ?_
    refine Good.le (σ' := ⟨22, [(0, _), (1, _), (4, _), (5, _), (18, _)], []⟩) (le_w [] rfl ⟨⟨_, rfl, .refl _⟩, ⟨⟨_, rfl, .refl _⟩, ⟨⟨_, rfl, .refl _⟩, ⟨⟨_, rfl, .refl _⟩, ⟨⟨_, rfl, .refl _⟩, trivial⟩⟩⟩⟩⟩ trivial (by decide)) ?_
    refine good_cond rfl (fun hc2 => ?_) (fun hc2 => ?_)
    · replace h := ifF h (ndT hc2)
      refine good_seq fun K10 hK10 => ?_
      refine good_region ?_
      refine g_op rfl (ValOk.op (v_assign rfl rfl ?_)) 
      refine g_nil ?_
      refine hK10 _ ?_
      refine Good.le (σ' := ⟨22, [(0, _), (1, _), (4, _), (5, _)], []⟩) (le_w [] rfl ⟨⟨_, rfl, .refl _⟩, ⟨⟨_, rfl, .refl _⟩, ⟨⟨_, rfl, .refl _⟩, ⟨⟨_, rfl, .refl _⟩, trivial⟩⟩⟩⟩ trivial (by decide)) ?_
      refine Good.le (σ' := ⟨22, [(4, .int .i64 (-1))], []⟩) (le_w [] rfl ⟨⟨_, rfl, .refl _⟩, trivial⟩ trivial (by decide)) ?_
      refine good_ret ?_
      replace h := unret h hJ1
      obtain rfl := Option.some.inj h
      refine thenQ_ret ?_
      refine blockQ_ret ?_
      refine thenQ_ret ?_
      refine thenQ_ret ?_
      refine blockQ_ret ?_
      refine thenQ_ret ?_
      exact endQ_ret (h' := []) [] (.tmp rfl (.nil)) trivial (by decide) ⟨rfl, rfl⟩
    · replace h := ifT h (ndF hc2)
      refine good_skip ?_
      refine hK8 _ ?_
      refine Good.le (σ' := ⟨22, [(0, _), (1, _), (4, _), (5, _)], []⟩) (le_w [] rfl ⟨⟨_, rfl, .refl _⟩, ⟨⟨_, rfl, .refl _⟩, ⟨⟨_, rfl, .refl _⟩, ⟨⟨_, rfl, .refl _⟩, trivial⟩⟩⟩⟩ trivial (by decide)) ?_
      refine good_region ?_
      refine g_op rfl (ValOk.op (v_move rfl rfl ?_)) 
      refine g_op rfl (ValOk.op (v_bin rfl rfl rfl rfl ?_)) 
      refine g_op rfl (ValOk.op (v_assign rfl rfl ?_)) 
      refine g_nil ?_
      refine hK7 _ ?_
      refine Good.le (σ' := ⟨22, [(0, _), (1, _), (4, _), (5, _)], []⟩) (le_w [] rfl ⟨⟨_, rfl, .refl _⟩, ⟨⟨_, rfl, .refl _⟩, ⟨⟨_, rfl, .refl _⟩, ⟨⟨_, rfl, .refl _⟩, trivial⟩⟩⟩⟩ trivial (by decide)) ?_
      refine good_region ?_
      refine g_op rfl (ValOk.op (v_move rfl rfl ?_)) 
      refine g_op rfl (ValOk.op (v_bin rfl rfl rfl rfl ?_)) 
      refine g_op rfl (ValOk.op (v_assign rfl rfl ?_)) 
      refine g_nil ?_
      exact round_mk m1 (IntKind.wrap .i64 (x1 + 1), IntKind.wrap .i64 (x2 + 1)) (Nat.lt_succ_self _) h (le_w [] rfl ⟨⟨_, rfl, .refl _⟩, ⟨⟨_, rfl, .refl _⟩, ⟨⟨_, rfl, .refl _⟩, ⟨⟨_, rfl, .refl _⟩, trivial⟩⟩⟩⟩ trivial (by decide))
  · replace h := ifF h (dF hc1)
    refine good_exit ?_
    exact hw1 x1 (Option.some.inj h).symm _ (le_w [] rfl ⟨⟨_, rfl, .refl _⟩, ⟨⟨_, rfl, .refl _⟩, trivial⟩⟩ trivial (by decide))
mutual
def m_laws_heldValueS_l1 : Nat → (List Val) → Int → Int → Option (Lp Int Int)
  | 0, _, _, _ => none
  | k + 1, a0, x1, x2 =>
    if x2 < (a0.length : Int) then
      if (0 : Int) ≤ x2 ∧ x2 < (a0.length : Int) then
        if ((ix a0 x2).kind) = x1 then
          if (0 : Int) ≤ x2 ∧ x2 < (a0.length : Int) then
            if ((ix a0 x2).num) = (IntKind.wrap .i64 (x1 + 1)) then
              if (0 : Int) ≤ x2 ∧ x2 < (a0.length : Int) then
                (m_laws_markText k (IntKind.wrap .i64 ((IntKind.wrap .i64 (x1 + 1)) + 1))).bind fun y1 =>
                if ((ix a0 x2).text) = y1 then
                  if (0 : Int) ≤ x2 ∧ x2 < (a0.length : Int) then
                    (m_laws_heldValueS k ((ix a0 x2).list) (IntKind.wrap .i64 ((IntKind.wrap .i64 ((IntKind.wrap .i64 (x1 + 1)) + 1)) + 1))).bind fun y2 =>
                    if y2 < 0 then
                      (some (-1)).bind fun z =>
                      some (Lp.ret z)
                    else
                      if (0 : Int) ≤ x2 ∧ x2 < (a0.length : Int) then
                        (m_laws_heldStringS k ((ix a0 x2).names) y2).bind fun y3 =>
                        if y3 < 0 then
                          (some (-1)).bind fun z =>
                          some (Lp.ret z)
                        else
                          m_laws_heldValueS_l1 k a0 y3 (IntKind.wrap .i64 (x2 + 1))
                      else none
                  else none
                else
                  (some (-1)).bind fun z =>
                  some (Lp.ret z)
              else none
            else
              (some (-1)).bind fun z =>
              some (Lp.ret z)
          else none
        else
          (some (-1)).bind fun z =>
          some (Lp.ret z)
      else none
    else
      some (Lp.go x1)
def m_laws_heldValueS : Nat → (List Val) → Int → Option Int
  | 0, _, _ => none
  | k + 1, a0, a1 =>
    (m_laws_heldValueS_l1 k a0 a1 0).bind fun o1 =>
    o1.then fun s1 =>
    some s1
end
def P_m_laws_heldValueS (k : Nat) : Prop := ∀ (a0 : (List Val)) (a1 : Int) (r : Int), m_laws_heldValueS k a0 a1 = some r → Does Try.prog 57 [.sl (a0.map encVal), .int .i64 a1] [] (ret (.int .i64 r))
theorem m_laws_heldValueS_step (k : Nat) (ih : ∀ m, m < k → P_m_laws_heldValueS m) : P_m_laws_heldValueS k := by
  intro a0 a1 r h
  obtain ⟨k, rfl⟩ : ∃ k', k = k' + 1 := by cases k with | zero => (rw [m_laws_heldValueS] at h; cases h) | succ k' => exact ⟨k', rfl⟩
  rw [m_laws_heldValueS] at h
  refine does_of_good tabOk Try.func57 rfl (by decide +kernel) (Nat.le_of_ble_eq_true rfl) fun c => ?_
  refine Good.le (σ' := ⟨59, [(0, .sl (a0.map encVal)), (1, .int .i64 a1)], []⟩) (Le.refl _) ?_
  refine good_seq fun K1 hK1 => ?_
  refine good_region ?_
  refine g_op rfl (ValOk.op (v_assign rfl rfl ?_)) 
  refine g_nil ?_
  refine hK1 _ ?_
  refine good_seq fun K2 hK2 => ?_
  refine good_seq fun K3 hK3 => ?_
  refine good_region ?_
  refine g_op rfl (ValOk.op (v_assign rfl rfl ?_)) 
  refine g_nil ?_
  refine hK3 _ ?_
  obtain ⟨o1, ho1, hJ1⟩ := bnd h
  have hw1 : ∀ (s1 : Int), o1 = Lp.go s1 → ∀ σ', Le σ' ⟨59, [(1, .int .i64 s1), (4, .int .i64 0)], []⟩ → K2 σ' := by
    intro s1 e1 σ' hle1
    subst e1
    refine hK2 _ (Good.le hle1 ?_)
    replace h := hJ1
    refine good_seq fun K4 hK4 => ?_
    refine good_region ?_
    refine g_op rfl (ValOk.op (v_move rfl rfl ?_)) 
    refine g_op rfl (ValOk.op (v_assign rfl rfl ?_)) 
    refine g_nil ?_
    refine hK4 _ ?_
    refine Good.le (σ' := ⟨59, [(4, _)], []⟩) (le_w [] rfl ⟨⟨_, rfl, .refl _⟩, trivial⟩ trivial (by decide)) ?_
    refine Good.le (σ' := ⟨59, [(4, .int .i64 s1)], []⟩) (le_w [] rfl ⟨⟨_, rfl, .refl _⟩, trivial⟩ trivial (by decide)) ?_
    refine good_ret ?_
    obtain rfl := Option.some.inj h
    exact endQ_ret (h' := []) [] (.tmp rfl (.nil)) trivial (by decide) ⟨rfl, rfl⟩
  replace h := ho1
  refine good_block ?_
  refine good_loopf (fun p : (Int × Int) => ⟨59, [(0, .sl (a0.map encVal)), (1, .int .i64 p.1), (4, .int .i64 0), (5, .int .i64 p.2)], []⟩) (fun m p => m < k + 1 ∧ m_laws_heldValueS_l1 m a0 p.1 p.2 = some o1) k (a1, 0) (le_w [] rfl ⟨⟨_, rfl, .refl _⟩, ⟨⟨_, rfl, .refl _⟩, ⟨⟨_, rfl, .refl _⟩, ⟨⟨_, rfl, .refl _⟩, trivial⟩⟩⟩⟩ trivial (by decide)) ⟨by omega, h⟩ ?_
  rintro m1 ⟨x1, x2⟩ ⟨hm, h⟩
  replace h : m_laws_heldValueS_l1 m1 a0 x1 x2 = some o1 := h
  refine Good.le (σ' := ⟨59, [(0, .sl (a0.map encVal)), (1, .int .i64 x1), (4, .int .i64 0), (5, .int .i64 x2)], []⟩) (Le.refl _) ?_
  obtain ⟨m1, rfl⟩ : ∃ m', m1 = m' + 1 := by cases m1 with | zero => (rw [m_laws_heldValueS_l1] at h; cases h) | succ m' => exact ⟨m', rfl⟩
  rw [m_laws_heldValueS_l1] at h
  refine good_seq fun K5 hK5 => ?_
  refine good_seq fun K6 hK6 => ?_
  refine good_region ?_
  refine g_op rfl (ValOk.op (v_move rfl rfl ?_)) 
  refine g_op rfl (ValOk.op (v_move rfl rfl ?_)) 
  refine g_op rfl (ValOk.op (v_lenM (l := a0) (f := encVal) tabOk rfl rfl telem28 rfl ?_)) 
  refine g_op rfl (ValOk.op (v_bin rfl rfl rfl rfl ?_)) 
  refine g_nil ?_
  refine hK6 _ ?_
  refine Good.le (σ' := ⟨59, [(0, _), (1, _), (4, _), (5, _), (9, _)], []⟩) (le_w [] rfl ⟨⟨_, rfl, .refl _⟩, ⟨⟨_, rfl, .refl _⟩, ⟨⟨_, rfl, .refl _⟩, ⟨⟨_, rfl, .refl _⟩, ⟨⟨_, rfl, .refl _⟩, trivial⟩⟩⟩⟩⟩ trivial (by decide)) ?_
  refine good_cond rfl (fun hc1 => ?_) (fun hc1 => ?_)
  · replace h := ifT h (dT hc1)
    refine good_skip ?_
    refine hK5 _ ?_
    refine Good.le (σ' := ⟨59, [(0, _), (1, _), (4, _), (5, _)], []⟩) (le_w [] rfl ⟨⟨_, rfl, .refl _⟩, ⟨⟨_, rfl, .refl _⟩, ⟨⟨_, rfl, .refl _⟩, ⟨⟨_, rfl, .refl _⟩, trivial⟩⟩⟩⟩ trivial (by decide)) ?_
    refine good_seq fun K7 hK7 => ?_
    refine good_block ?_
    refine good_seq fun K8 hK8 => ?_
    refine good_seq fun K9 hK9 => ?_
    refine good_region ?_
    refine g_op rfl (ValOk.op (v_move rfl rfl ?_)) 
    refine g_op rfl (ValOk.op (v_move rfl rfl ?_)) 
    obtain ⟨hb1, h⟩ := ifS h
    refine g_op rfl (ValOk.op (v_idxM tabOk rfl rfl telem28 tsize30 hb1 (encVal_eq _) rfl rfl ?_)) 
    refine g_op rfl (ValOk.op (v_fieldE tabOk rfl tfoff30_0 rfl rfl ?_)) 
    refine g_op rfl (ValOk.op (v_loadE tabOk rfl tsize3 tagg3 rfl rfl rfl ?_)) 
    refine g_op rfl (ValOk.op (v_move rfl rfl ?_)) 
    refine g_op rfl (ValOk.op (v_bin rfl rfl rfl rfl ?_)) 
    refine g_nil ?_
    refine hK9 _ ?_
    refine Good.le (σ' := ⟨59, [(0, _), (1, _), (4, _), (5, _), (18, _)], []⟩) (le_w [] rfl ⟨⟨_, rfl, .refl _⟩, ⟨⟨_, rfl, .refl _⟩, ⟨⟨_, rfl, .refl _⟩, ⟨⟨_, rfl, .refl _⟩, ⟨⟨_, rfl, .refl _⟩, trivial⟩⟩⟩⟩⟩ trivial (by decide)) ?_
    refine good_cond rfl (fun hc2 => ?_) (fun hc2 => ?_)
    · replace h := ifF h (ndT hc2)
      refine good_seq fun K10 hK10 => ?_
      refine good_region ?_
      refine g_op rfl (ValOk.op (v_assign rfl rfl ?_)) 
      refine g_nil ?_
      refine hK10 _ ?_
      refine Good.le (σ' := ⟨59, [(0, _), (1, _), (4, _), (5, _)], []⟩) (le_w [] rfl ⟨⟨_, rfl, .refl _⟩, ⟨⟨_, rfl, .refl _⟩, ⟨⟨_, rfl, .refl _⟩, ⟨⟨_, rfl, .refl _⟩, trivial⟩⟩⟩⟩ trivial (by decide)) ?_
      refine Good.le (σ' := ⟨59, [(4, .int .i64 (-1))], []⟩) (le_w [] rfl ⟨⟨_, rfl, .refl _⟩, trivial⟩ trivial (by decide)) ?_
      refine good_ret ?_
      replace h := unret h hJ1
      obtain rfl := Option.some.inj h
      refine thenQ_ret ?_
      refine blockQ_ret ?_
      refine thenQ_ret ?_
      refine thenQ_ret ?_
      refine blockQ_ret ?_
      refine thenQ_ret ?_
      exact endQ_ret (h' := []) [] (.tmp rfl (.nil)) trivial (by decide) ⟨rfl, rfl⟩
    · replace h := ifT h (ndF hc2)
      refine good_skip ?_
      refine hK8 _ ?_
      refine Good.le (σ' := ⟨59, [(0, _), (1, _), (4, _), (5, _)], []⟩) (le_w [] rfl ⟨⟨_, rfl, .refl _⟩, ⟨⟨_, rfl, .refl _⟩, ⟨⟨_, rfl, .refl _⟩, ⟨⟨_, rfl, .refl _⟩, trivial⟩⟩⟩⟩ trivial (by decide)) ?_
      refine good_seq fun K11 hK11 => ?_
      refine good_region ?_
      refine g_op rfl (ValOk.op (v_move rfl rfl ?_)) 
      refine g_op rfl (ValOk.op (v_bin rfl rfl rfl rfl ?_)) 
      refine g_op rfl (ValOk.op (v_assign rfl rfl ?_)) 
      refine g_nil ?_
      refine hK11 _ ?_
      refine Good.le (σ' := ⟨59, [(0, _), (1, _), (4, _), (5, _)], []⟩) (le_w [] rfl ⟨⟨_, rfl, .refl _⟩, ⟨⟨_, rfl, .refl _⟩, ⟨⟨_, rfl, .refl _⟩, ⟨⟨_, rfl, .refl _⟩, trivial⟩⟩⟩⟩ trivial (by decide)) ?_
      refine good_seq fun K12 hK12 => ?_
      refine good_seq fun K13 hK13 => ?_
      refine good_region ?_
      refine g_op rfl (ValOk.op (v_move rfl rfl ?_)) 
      refine g_op rfl (ValOk.op (v_move rfl rfl ?_)) 
      obtain ⟨hb2, h⟩ := ifS h
      refine g_op rfl (ValOk.op (v_idxM tabOk rfl rfl telem28 tsize30 hb2 (encVal_eq _) rfl rfl ?_)) 
      refine g_op rfl (ValOk.op (v_fieldE tabOk rfl tfoff30_1 rfl rfl ?_)) 
      refine g_op rfl (ValOk.op (v_loadE tabOk rfl tsize3 tagg3 rfl rfl rfl ?_)) 
      refine g_op rfl (ValOk.op (v_move rfl rfl ?_)) 
      refine g_op rfl (ValOk.op (v_bin rfl rfl rfl rfl ?_)) 
      refine g_nil ?_
      refine hK13 _ ?_
      refine Good.le (σ' := ⟨59, [(0, _), (1, _), (4, _), (5, _), (27, _)], []⟩) (le_w [] rfl ⟨⟨_, rfl, .refl _⟩, ⟨⟨_, rfl, .refl _⟩, ⟨⟨_, rfl, .refl _⟩, ⟨⟨_, rfl, .refl _⟩, ⟨⟨_, rfl, .refl _⟩, trivial⟩⟩⟩⟩⟩ trivial (by decide)) ?_
      refine good_cond rfl (fun hc3 => ?_) (fun hc3 => ?_)
      · replace h := ifF h (ndT hc3)
        refine good_seq fun K14 hK14 => ?_
        refine good_region ?_
        refine g_op rfl (ValOk.op (v_assign rfl rfl ?_)) 
        refine g_nil ?_
        refine hK14 _ ?_
        refine Good.le (σ' := ⟨59, [(0, _), (1, _), (4, _), (5, _)], []⟩) (le_w [] rfl ⟨⟨_, rfl, .refl _⟩, ⟨⟨_, rfl, .refl _⟩, ⟨⟨_, rfl, .refl _⟩, ⟨⟨_, rfl, .refl _⟩, trivial⟩⟩⟩⟩ trivial (by decide)) ?_
        refine Good.le (σ' := ⟨59, [(4, .int .i64 (-1))], []⟩) (le_w [] rfl ⟨⟨_, rfl, .refl _⟩, trivial⟩ trivial (by decide)) ?_
        refine good_ret ?_
        replace h := unret h hJ1
        obtain rfl := Option.some.inj h
        refine thenQ_ret ?_
        refine blockQ_ret ?_
        refine thenQ_ret ?_
        refine thenQ_ret ?_
        refine blockQ_ret ?_
        refine thenQ_ret ?_
        exact endQ_ret (h' := []) [] (.tmp rfl (.nil)) trivial (by decide) ⟨rfl, rfl⟩
      · replace h := ifT h (ndF hc3)
        refine good_skip ?_
        refine hK12 _ ?_
        refine Good.le (σ' := ⟨59, [(0, _), (1, _), (4, _), (5, _)], []⟩) (le_w [] rfl ⟨⟨_, rfl, .refl _⟩, ⟨⟨_, rfl, .refl _⟩, ⟨⟨_, rfl, .refl _⟩, ⟨⟨_, rfl, .refl _⟩, trivial⟩⟩⟩⟩ trivial (by decide)) ?_
        refine good_seq fun K15 hK15 => ?_
        refine good_region ?_
        refine g_op rfl (ValOk.op (v_move rfl rfl ?_)) 
        refine g_op rfl (ValOk.op (v_bin rfl rfl rfl rfl ?_)) 
        refine g_op rfl (ValOk.op (v_assign rfl rfl ?_)) 
        refine g_nil ?_
        refine hK15 _ ?_
        refine Good.le (σ' := ⟨59, [(0, _), (1, _), (4, _), (5, _)], []⟩) (le_w [] rfl ⟨⟨_, rfl, .refl _⟩, ⟨⟨_, rfl, .refl _⟩, ⟨⟨_, rfl, .refl _⟩, ⟨⟨_, rfl, .refl _⟩, trivial⟩⟩⟩⟩ trivial (by decide)) ?_
        refine good_seq fun K16 hK16 => ?_
        refine good_seq fun K17 hK17 => ?_
        refine good_draw (by kernel_rfl) (by kernel_rfl) ?_
        refine q_op rfl (v_move rfl rfl ?_) 
        refine q_op rfl (v_move rfl rfl ?_) 
        obtain ⟨hb3, h⟩ := ifS h
        refine q_op rfl (v_idxM tabOk rfl rfl telem28 tsize30 hb3 (encVal_eq _) rfl rfl ?_) 
        refine q_op rfl (v_fieldE tabOk rfl tfoff30_2 rfl rfl ?_) 
        refine q_op rfl (v_loadE tabOk rfl tsize9 tagg9 rfl rfl rfl ?_) 
        refine q_op rfl (v_move rfl rfl ?_) 
        obtain ⟨y1, hy1, h⟩ := bnd h
        refine q_call [] [] (fun _ _ _ _ _ => wanted_none rfl _) (core_value rfl rfl) (m_laws_markText_ok m1 (IntKind.wrap .i64 ((IntKind.wrap .i64 (x1 + 1)) + 1)) _ hy1) trivial (.cons (.refl _) (.nil)) (.str _) rfl ?_
        refine q_op rfl (v_bin rfl rfl rfl rfl ?_) 
        refine q_nil ?_
        refine hK17 _ ?_
        refine Good.le (σ' := ⟨59, [(0, _), (1, _), (4, _), (5, _), (37, _)], []⟩) (le_w [] rfl ⟨⟨_, rfl, .refl _⟩, ⟨⟨_, rfl, .refl _⟩, ⟨⟨_, rfl, .refl _⟩, ⟨⟨_, rfl, .refl _⟩, ⟨⟨_, rfl, .refl _⟩, trivial⟩⟩⟩⟩⟩ trivial (by decide)) ?_
        refine good_cond rfl (fun hc4 => ?_) (fun hc4 => ?_)
        · replace h := ifF h (ndT hc4)
          refine good_seq fun K18 hK18 => ?_
          refine good_region ?_
          refine g_op rfl (ValOk.op (v_assign rfl rfl ?_)) 
          refine g_nil ?_
          refine hK18 _ ?_
          refine Good.le (σ' := ⟨59, [(0, _), (1, _), (4, _), (5, _)], []⟩) (le_w [] rfl ⟨⟨_, rfl, .refl _⟩, ⟨⟨_, rfl, .refl _⟩, ⟨⟨_, rfl, .refl _⟩, ⟨⟨_, rfl, .refl _⟩, trivial⟩⟩⟩⟩ trivial (by decide)) ?_
          refine Good.le (σ' := ⟨59, [(4, .int .i64 (-1))], []⟩) (le_w [] rfl ⟨⟨_, rfl, .refl _⟩, trivial⟩ trivial (by decide)) ?_
          refine good_ret ?_
          replace h := unret h hJ1
          obtain rfl := Option.some.inj h
          refine thenQ_ret ?_
          refine blockQ_ret ?_
          refine thenQ_ret ?_
          refine thenQ_ret ?_
          refine blockQ_ret ?_
          refine thenQ_ret ?_
          exact endQ_ret (h' := []) [] (.tmp rfl (.nil)) trivial (by decide) ⟨rfl, rfl⟩
        · replace h := ifT h (ndF hc4)
          refine good_skip ?_
          refine hK16 _ ?_
          refine Good.le (σ' := ⟨59, [(0, _), (1, _), (4, _), (5, _)], []⟩) (le_w [] rfl ⟨⟨_, rfl, .refl _⟩, ⟨⟨_, rfl, .refl _⟩, ⟨⟨_, rfl, .refl _⟩, ⟨⟨_, rfl, .refl _⟩, trivial⟩⟩⟩⟩ trivial (by decide)) ?_
          refine good_seq fun K19 hK19 => ?_
          refine good_region ?_
          refine g_op rfl (ValOk.op (v_move rfl rfl ?_)) 
          refine g_op rfl (ValOk.op (v_bin rfl rfl rfl rfl ?_)) 
          refine g_op rfl (ValOk.op (v_assign rfl rfl ?_)) 
          refine g_nil ?_
          refine hK19 _ ?_
          refine Good.le (σ' := ⟨59, [(0, _), (1, _), (4, _), (5, _)], []⟩) (le_w [] rfl ⟨⟨_, rfl, .refl _⟩, ⟨⟨_, rfl, .refl _⟩, ⟨⟨_, rfl, .refl _⟩, ⟨⟨_, rfl, .refl _⟩, trivial⟩⟩⟩⟩ trivial (by decide)) ?_
          refine good_seq fun K20 hK20 => ?_
          refine good_region ?_
          refine g_op rfl (ValOk.op (v_move rfl rfl ?_)) 
          refine g_op rfl (ValOk.op (v_move rfl rfl ?_)) 
          obtain ⟨hb4, h⟩ := ifS h
          refine g_op rfl (ValOk.op (v_idxM tabOk rfl rfl telem28 tsize30 hb4 (encVal_eq _) rfl rfl ?_)) 
          refine g_op rfl (ValOk.op (v_fieldE tabOk rfl tfoff30_3 rfl rfl ?_)) 
          refine g_op rfl (ValOk.op (v_loadE tabOk rfl tsize28 tagg28 rfl rfl rfl ?_)) 
          refine g_op rfl (ValOk.op (v_move rfl rfl ?_)) 
          obtain ⟨y2, hy2, h⟩ := bnd h
          refine g_op rfl (o_callR [] [] (core_value rfl rfl) ((ih m1 (by omega)) ((ix a0 x2).list) (IntKind.wrap .i64 ((IntKind.wrap .i64 ((IntKind.wrap .i64 (x1 + 1)) + 1)) + 1)) _ hy2) trivial (.cons (.refl _) (.cons (.refl _) (.nil))) (.inl rfl) rfl ?_)
          refine g_op rfl (ValOk.op (v_assign rfl rfl ?_)) 
          refine g_nil ?_
          refine hK20 _ ?_
          refine Good.le (σ' := ⟨59, [(0, _), (1, _), (4, _), (5, _)], []⟩) (le_w [] rfl ⟨⟨_, rfl, .refl _⟩, ⟨⟨_, rfl, .refl _⟩, ⟨⟨_, rfl, .refl _⟩, ⟨⟨_, rfl, .refl _⟩, trivial⟩⟩⟩⟩ trivial (by decide)) ?_
          refine good_seq fun K21 hK21 => ?_
          refine good_seq fun K22 hK22 => ?_
          refine good_region ?_
          refine g_op rfl (ValOk.op (v_move rfl rfl ?_)) 
          refine g_op rfl (ValOk.op (v_bin rfl rfl rfl rfl ?_)) 
          refine g_nil ?_
          refine hK22 _ ?_
          refine Good.le (σ' := ⟨59, [(0, _), (1, _), (4, _), (5, _), (48, _)], []⟩) (le_w [] rfl ⟨⟨_, rfl, .refl _⟩, ⟨⟨_, rfl, .refl _⟩, ⟨⟨_, rfl, .refl _⟩, ⟨⟨_, rfl, .refl _⟩, ⟨⟨_, rfl, .refl _⟩, trivial⟩⟩⟩⟩⟩ trivial (by decide)) ?_
          refine good_cond rfl (fun hc5 => ?_) (fun hc5 => ?_)
          · replace h := ifT h (dT hc5)
            refine good_seq fun K23 hK23 => ?_
            refine good_region ?_
            refine g_op rfl (ValOk.op (v_assign rfl rfl ?_)) 
            refine g_nil ?_
            refine hK23 _ ?_
            refine Good.le (σ' := ⟨59, [(0, _), (1, _), (4, _), (5, _)], []⟩) (le_w [] rfl ⟨⟨_, rfl, .refl _⟩, ⟨⟨_, rfl, .refl _⟩, ⟨⟨_, rfl, .refl _⟩, ⟨⟨_, rfl, .refl _⟩, trivial⟩⟩⟩⟩ trivial (by decide)) ?_
            refine Good.le (σ' := ⟨59, [(4, .int .i64 (-1))], []⟩) (le_w [] rfl ⟨⟨_, rfl, .refl _⟩, trivial⟩ trivial (by decide)) ?_
            refine good_ret ?_
            replace h := unret h hJ1
            obtain rfl := Option.some.inj h
            refine thenQ_ret ?_
            refine blockQ_ret ?_
            refine thenQ_ret ?_
            refine thenQ_ret ?_
            refine blockQ_ret ?_
            refine thenQ_ret ?_
            exact endQ_ret (h' := []) [] (.tmp rfl (.nil)) trivial (by decide) ⟨rfl, rfl⟩
          · replace h := ifF h (dF hc5)
            refine good_skip ?_
            refine hK21 _ ?_
            refine Good.le (σ' := ⟨59, [(0, _), (1, _), (4, _), (5, _)], []⟩) (le_w [] rfl ⟨⟨_, rfl, .refl _⟩, ⟨⟨_, rfl, .refl _⟩, ⟨⟨_, rfl, .refl _⟩, ⟨⟨_, rfl, .refl _⟩, trivial⟩⟩⟩⟩ trivial (by decide)) ?_
            refine good_seq fun K24 hK24 => ?_
            refine good_region ?_
            refine g_op rfl (ValOk.op (v_move rfl rfl ?_)) 
            refine g_op rfl (ValOk.op (v_move rfl rfl ?_)) 
            obtain ⟨hb5, h⟩ := ifS h
            refine g_op rfl (ValOk.op (v_idxM tabOk rfl rfl telem28 tsize30 hb5 (encVal_eq _) rfl rfl ?_)) 
            refine g_op rfl (ValOk.op (v_fieldE tabOk rfl tfoff30_4 rfl rfl ?_)) 
            refine g_op rfl (ValOk.op (v_loadE tabOk rfl tsize23 tagg23 rfl rfl rfl ?_)) 
            refine g_op rfl (ValOk.op (v_move rfl rfl ?_)) 
            obtain ⟨y3, hy3, h⟩ := bnd h
            refine g_op rfl (o_callR [] [] (core_value rfl rfl) (m_laws_heldStringS_ok m1 ((ix a0 x2).names) y2 _ hy3) trivial (.cons (.refl _) (.cons (.refl _) (.nil))) (.inl rfl) rfl ?_)
            refine g_op rfl (ValOk.op (v_assign rfl rfl ?_)) 
            refine g_nil ?_
            refine hK24 _ ?_
            refine Good.le (σ' := ⟨59, [(0, _), (1, _), (4, _), (5, _)], []⟩) (le_w [] rfl ⟨⟨_, rfl, .refl _⟩, ⟨⟨_, rfl, .refl _⟩, ⟨⟨_, rfl, .refl _⟩, ⟨⟨_, rfl, .refl _⟩, trivial⟩⟩⟩⟩ trivial (by decide)) ?_
            refine good_seq fun K25 hK25 => ?_
            refine good_region ?_
            refine g_op rfl (ValOk.op (v_move rfl rfl ?_)) 
            refine g_op rfl (ValOk.op (v_bin rfl rfl rfl rfl ?_)) 
            refine g_nil ?_
            refine hK25 _ ?_
            refine Good.le (σ' := ⟨59, [(0, _), (1, _), (4, _), (5, _), (57, _)], []⟩) (le_w [] rfl ⟨⟨_, rfl, .refl _⟩, ⟨⟨_, rfl, .refl _⟩, ⟨⟨_, rfl, .refl _⟩, ⟨⟨_, rfl, .refl _⟩, ⟨⟨_, rfl, .refl _⟩, trivial⟩⟩⟩⟩⟩ trivial (by decide)) ?_
            refine good_cond rfl (fun hc6 => ?_) (fun hc6 => ?_)
            · replace h := ifT h (dT hc6)
              refine good_seq fun K26 hK26 => ?_
              refine good_region ?_
              refine g_op rfl (ValOk.op (v_assign rfl rfl ?_)) 
              refine g_nil ?_
              refine hK26 _ ?_
              refine Good.le (σ' := ⟨59, [(0, _), (1, _), (4, _), (5, _)], []⟩) (le_w [] rfl ⟨⟨_, rfl, .refl _⟩, ⟨⟨_, rfl, .refl _⟩, ⟨⟨_, rfl, .refl _⟩, ⟨⟨_, rfl, .refl _⟩, trivial⟩⟩⟩⟩ trivial (by decide)) ?_
              refine Good.le (σ' := ⟨59, [(4, .int .i64 (-1))], []⟩) (le_w [] rfl ⟨⟨_, rfl, .refl _⟩, trivial⟩ trivial (by decide)) ?_
              refine good_ret ?_
              replace h := unret h hJ1
              obtain rfl := Option.some.inj h
              refine blockQ_ret ?_
              refine thenQ_ret ?_
              refine thenQ_ret ?_
              refine blockQ_ret ?_
              refine thenQ_ret ?_
              exact endQ_ret (h' := []) [] (.tmp rfl (.nil)) trivial (by decide) ⟨rfl, rfl⟩
            · replace h := ifF h (dF hc6)
              refine good_skip ?_
              refine hK7 _ ?_
              refine Good.le (σ' := ⟨59, [(0, _), (1, _), (4, _), (5, _)], []⟩) (le_w [] rfl ⟨⟨_, rfl, .refl _⟩, ⟨⟨_, rfl, .refl _⟩, ⟨⟨_, rfl, .refl _⟩, ⟨⟨_, rfl, .refl _⟩, trivial⟩⟩⟩⟩ trivial (by decide)) ?_
              refine good_region ?_
              refine g_op rfl (ValOk.op (v_move rfl rfl ?_)) 
              refine g_op rfl (ValOk.op (v_bin rfl rfl rfl rfl ?_)) 
              refine g_op rfl (ValOk.op (v_assign rfl rfl ?_)) 
              refine g_nil ?_
              exact round_mk m1 (y3, IntKind.wrap .i64 (x2 + 1)) (Nat.lt_succ_self _) ⟨by omega, h⟩ (le_w [] rfl ⟨⟨_, rfl, .refl _⟩, ⟨⟨_, rfl, .refl _⟩, ⟨⟨_, rfl, .refl _⟩, ⟨⟨_, rfl, .refl _⟩, trivial⟩⟩⟩⟩ trivial (by decide))
  · replace h := ifF h (dF hc1)
    refine good_exit ?_
    exact hw1 x1 (Option.some.inj h).symm _ (le_w [] rfl ⟨⟨_, rfl, .refl _⟩, ⟨⟨_, rfl, .refl _⟩, trivial⟩⟩ trivial (by decide))
theorem m_laws_heldValueS_all (k : Nat) : P_m_laws_heldValueS k := by
  induction k using Nat.strongRecOn with
  | _ k ih => exact m_laws_heldValueS_step k ih
theorem m_laws_heldValueS_ok (k : Nat) : ∀ (a0 : (List Val)) (a1 : Int) (r : Int), m_laws_heldValueS k a0 a1 = some r → Does Try.prog 57 [.sl (a0.map encVal), .int .i64 a1] [] (ret (.int .i64 r)) := (m_laws_heldValueS_all k)
def m_laws_heldValue (k : Nat) (a0 : Val) (a1 : Int) : Option Int :=
  (m_laws_heldValueS k a0.list a1).bind fun y1 =>
  if y1 < 0 then
    some (-1)
  else
    (m_laws_heldStringS k a0.names y1).bind fun y2 =>
    if y2 < 0 then
      some (-1)
    else
      some y2
theorem m_laws_heldValue_ok (k : Nat) : ∀ (a0 : Val) (a1 : Int) (r : Int), m_laws_heldValue k a0 a1 = some r → Does Try.prog 30 [.agg [.int .i64 a0.kind, .int .i64 a0.num, .str a0.text, .sl (a0.list.map encVal), .sl (a0.names.map encS)], .int .i64 a1] [] (ret (.int .i64 r)) := by
  intro a0 a1 r h
  rw [m_laws_heldValue] at h
  refine does_of_good tabOk Try.func30 rfl (by decide +kernel) (Nat.le_of_ble_eq_true rfl) fun c => ?_
  refine Good.le (σ' := ⟨18, [(0, .agg [.int .i64 a0.kind, .int .i64 a0.num, .str a0.text, .sl (a0.list.map encVal), .sl (a0.names.map encS)]), (1, .int .i64 a1)], []⟩) (Le.refl _) ?_
  refine good_seq fun K1 hK1 => ?_
  refine good_region ?_
  refine g_op rfl (o_box (k := 12) tabOk rfl rfl rfl rfl rfl ?_)
  intro b1
  refine g_op rfl (ValOk.op (v_assign rfl rfl ?_)) 
  refine g_nil ?_
  refine hK1 _ ?_
  refine Good.le (σ' := ⟨18, [(1, _), (2, _), (4, _)], [(12, (_, _))]⟩) (le_w [some 12] rfl ⟨⟨_, rfl, .refl _⟩, ⟨⟨_, rfl, .refl _⟩, ⟨⟨_, rfl, .refl _⟩, trivial⟩⟩⟩ ⟨⟨_, rfl, .refl _⟩, trivial⟩ (by decide)) ?_
  refine good_seq fun K2 hK2 => ?_
  refine good_region ?_
  refine g_op rfl (ValOk.op (v_fieldP tabOk rfl tfoff30_3 rfl ?_)) 
  refine g_op rfl (ValOk.op (v_loadP tabOk rfl rfl tsize28 tagg28 rfl rfl rfl rfl ?_)) 
  refine g_op rfl (ValOk.op (v_move rfl rfl ?_)) 
  obtain ⟨y1, hy1, h⟩ := bnd h
  refine g_op rfl (o_callR [] [] (core_value rfl rfl) (m_laws_heldValueS_ok k a0.list a1 _ hy1) trivial (.cons (.refl _) (.cons (.refl _) (.nil))) (.inl rfl) rfl ?_)
  refine g_op rfl (ValOk.op (v_assign rfl rfl ?_)) 
  refine g_nil ?_
  refine hK2 _ ?_
  refine Good.le (σ' := ⟨18, [(1, _), (2, _), (4, _)], [(12, (_, _))]⟩) (le_w [some 12] rfl ⟨⟨_, rfl, .refl _⟩, ⟨⟨_, rfl, .refl _⟩, ⟨⟨_, rfl, .refl _⟩, trivial⟩⟩⟩ ⟨⟨_, rfl, .refl _⟩, trivial⟩ (by decide)) ?_
  refine good_seq fun K3 hK3 => ?_
  refine good_seq fun K4 hK4 => ?_
  refine good_region ?_
  refine g_op rfl (ValOk.op (v_move rfl rfl ?_)) 
  refine g_op rfl (ValOk.op (v_bin rfl rfl rfl rfl ?_)) 
  refine g_nil ?_
  refine hK4 _ ?_
  refine Good.le (σ' := ⟨18, [(1, _), (2, _), (4, _), (10, _)], [(12, (_, _))]⟩) (le_w [some 12] rfl ⟨⟨_, rfl, .refl _⟩, ⟨⟨_, rfl, .refl _⟩, ⟨⟨_, rfl, .refl _⟩, ⟨⟨_, rfl, .refl _⟩, trivial⟩⟩⟩⟩ ⟨⟨_, rfl, .refl _⟩, trivial⟩ (by decide)) ?_
  refine good_cond rfl (fun hc1 => ?_) (fun hc1 => ?_)
  · replace h := ifT h (dT hc1)
    refine good_seq fun K5 hK5 => ?_
    refine good_region ?_
    refine g_op rfl (ValOk.op (v_assign rfl rfl ?_)) 
    refine g_nil ?_
    refine hK5 _ ?_
    refine Good.le (σ' := ⟨18, [(1, _), (2, _), (4, _)], [(12, (_, _))]⟩) (le_w [some 12] rfl ⟨⟨_, rfl, .refl _⟩, ⟨⟨_, rfl, .refl _⟩, ⟨⟨_, rfl, .refl _⟩, trivial⟩⟩⟩ ⟨⟨_, rfl, .refl _⟩, trivial⟩ (by decide)) ?_
    refine Good.le (σ' := ⟨18, [(4, .int .i64 (-1))], []⟩) (le_w [] rfl ⟨⟨_, rfl, .refl _⟩, trivial⟩ trivial (by decide)) ?_
    refine good_ret ?_
    obtain rfl := Option.some.inj h
    refine thenQ_ret ?_
    exact endQ_ret (h' := []) [] (.tmp rfl (.nil)) trivial (by decide) ⟨rfl, rfl⟩
  · replace h := ifF h (dF hc1)
    refine good_skip ?_
    refine hK3 _ ?_
    refine Good.le (σ' := ⟨18, [(1, _), (2, _), (4, _)], [(12, (_, _))]⟩) (le_w [some 12] rfl ⟨⟨_, rfl, .refl _⟩, ⟨⟨_, rfl, .refl _⟩, ⟨⟨_, rfl, .refl _⟩, trivial⟩⟩⟩ ⟨⟨_, rfl, .refl _⟩, trivial⟩ (by decide)) ?_
    refine good_seq fun K6 hK6 => ?_
    refine good_region ?_
    refine g_op rfl (ValOk.op (v_fieldP tabOk rfl tfoff30_4 rfl ?_)) 
    refine g_op rfl (ValOk.op (v_loadP tabOk rfl rfl tsize23 tagg23 rfl rfl rfl rfl ?_)) 
    refine g_op rfl (ValOk.op (v_move rfl rfl ?_)) 
    obtain ⟨y2, hy2, h⟩ := bnd h
    refine g_op rfl (o_callR [] [] (core_value rfl rfl) (m_laws_heldStringS_ok k a0.names y1 _ hy2) trivial (.cons (.refl _) (.cons (.refl _) (.nil))) (.inl rfl) rfl ?_)
    refine g_op rfl (ValOk.op (v_assign rfl rfl ?_)) 
    refine g_nil ?_
    refine hK6 _ ?_
    refine Good.le (σ' := ⟨18, [(1, _), (4, _)], []⟩) (le_w [] rfl ⟨⟨_, rfl, .refl _⟩, ⟨⟨_, rfl, .refl _⟩, trivial⟩⟩ trivial (by decide)) ?_
    refine good_seq fun K7 hK7 => ?_
    refine good_seq fun K8 hK8 => ?_
    refine good_region ?_
    refine g_op rfl (ValOk.op (v_move rfl rfl ?_)) 
    refine g_op rfl (ValOk.op (v_bin rfl rfl rfl rfl ?_)) 
    refine g_nil ?_
    refine hK8 _ ?_
    refine Good.le (σ' := ⟨18, [(1, _), (4, _), (16, _)], []⟩) (le_w [] rfl ⟨⟨_, rfl, .refl _⟩, ⟨⟨_, rfl, .refl _⟩, ⟨⟨_, rfl, .refl _⟩, trivial⟩⟩⟩ trivial (by decide)) ?_
    refine good_cond rfl (fun hc2 => ?_) (fun hc2 => ?_)
    · replace h := ifT h (dT hc2)
      refine good_seq fun K9 hK9 => ?_
      refine good_region ?_
      refine g_op rfl (ValOk.op (v_assign rfl rfl ?_)) 
      refine g_nil ?_
      refine hK9 _ ?_
      refine Good.le (σ' := ⟨18, [(1, _), (4, _)], []⟩) (le_w [] rfl ⟨⟨_, rfl, .refl _⟩, ⟨⟨_, rfl, .refl _⟩, trivial⟩⟩ trivial (by decide)) ?_
      refine Good.le (σ' := ⟨18, [(4, .int .i64 (-1))], []⟩) (le_w [] rfl ⟨⟨_, rfl, .refl _⟩, trivial⟩ trivial (by decide)) ?_
      refine good_ret ?_
      obtain rfl := Option.some.inj h
      refine thenQ_ret ?_
      exact endQ_ret (h' := []) [] (.tmp rfl (.nil)) trivial (by decide) ⟨rfl, rfl⟩
    · replace h := ifF h (dF hc2)
      refine good_skip ?_
      refine hK7 _ ?_
      refine Good.le (σ' := ⟨18, [(1, _), (4, _)], []⟩) (le_w [] rfl ⟨⟨_, rfl, .refl _⟩, ⟨⟨_, rfl, .refl _⟩, trivial⟩⟩ trivial (by decide)) ?_
      refine good_seq fun K10 hK10 => ?_
      refine good_region ?_
      refine g_op rfl (ValOk.op (v_move rfl rfl ?_)) 
      refine g_op rfl (ValOk.op (v_assign rfl rfl ?_)) 
      refine g_nil ?_
      refine hK10 _ ?_
      refine Good.le (σ' := ⟨18, [(4, _)], []⟩) (le_w [] rfl ⟨⟨_, rfl, .refl _⟩, trivial⟩ trivial (by decide)) ?_
      refine Good.le (σ' := ⟨18, [(4, .int .i64 y2)], []⟩) (le_w [] rfl ⟨⟨_, rfl, .refl _⟩, trivial⟩ trivial (by decide)) ?_
      refine good_ret ?_
      obtain rfl := Option.some.inj h
      exact endQ_ret (h' := []) [] (.tmp rfl (.nil)) trivial (by decide) ⟨rfl, rfl⟩
def m_laws_FnExactRefTo (k : Nat) (a0 : Int) : Option Bool :=
  (m_spec_RefTo a0).bind fun y1 =>
  (m_impl_RefTo a0).bind fun y2 =>
  (m_laws_eqValue k y2 y1).bind fun y3 =>
  if y3 = true then
    (m_laws_markValue k y2 1).bind fun y4 =>
    (m_laws_heldValue k (Val.mk y2.kind y2.num y2.text y4.2.1 y4.2.2) 1).bind fun y5 =>
    if y5 < 0 then
      some false
    else
      if y5 = y4.1 then
        (m_impl_RefTo a0).bind fun y6 =>
        (m_laws_eqValue k y6 y1).bind fun y7 =>
        if y7 = true then
          (m_laws_heldValue k (Val.mk y2.kind y2.num y2.text y4.2.1 y4.2.2) 1).bind fun y8 =>
          if y8 < 0 then
            some false
          else
            if y8 = y4.1 then
              some true
            else
              some false
        else
          some false
      else
        some false
  else
    some false
theorem m_laws_FnExactRefTo_ok (k : Nat) : ∀ (a0 : Int) (r : Bool), m_laws_FnExactRefTo k a0 = some r → Does Try.prog 8 [.int .i64 a0] [] (ret (.bool r)) := by
  intro a0 r h
  rw [m_laws_FnExactRefTo] at h
  refine does_of_good tabOk Try.func8 rfl (by decide +kernel) (Nat.le_of_ble_eq_true rfl) fun c => ?_
  refine Good.le (σ' := ⟨41, [(0, .int .i64 a0)], []⟩) (Le.refl _) ?_
  refine good_seq fun K1 hK1 => ?_
  refine good_region ?_
  refine g_op rfl (ValOk.op (v_assign rfl rfl ?_)) 
  refine g_nil ?_
  refine hK1 _ ?_
  refine good_seq fun K2 hK2 => ?_
  refine good_region ?_
  refine g_op rfl (ValOk.op (v_move rfl rfl ?_)) 
  obtain ⟨y1, hy1, h⟩ := bnd h
  refine g_op rfl (o_callD [] [] [] (core_value rfl rfl) (m_spec_RefTo_ok a0 _ hy1) trivial (.cons (.refl _) (.nil)) trivial rfl rfl rfl ?_)
  rintro _ _ ⟨w1, w2, rfl, rfl⟩
  refine ⟨.agg [.int .i64 y1.kind, .int .i64 y1.num, .str y1.text, .hd 3001 w1, .hd 3002 w2], [(3001, _), (3002, _)], .agg (.cons (.refl _) (.cons (.refl _) (.cons (.refl _) (.cons (.hd _ _ _) (.cons (.hd _ _ _) (.nil)))))), rfl, rfl, rfl, rfl, .inl rfl, ?_⟩
  refine g_op rfl (o_alloc (k := 13) tabOk tzero30 rfl rfl ?_)
  intro b1
  refine g_op rfl (o_storeP tabOk (cs' := [.int .i64 y1.kind, .int .i64 y1.num, .str y1.text, .hd 3001 w1, .hd 3002 w2]) rfl rfl tsize30 rfl rfl rfl (Nat.le_of_ble_eq_true rfl) rfl rfl rfl ?_)
  refine g_nil ?_
  refine hK2 _ ?_
  refine Good.le (σ' := ⟨41, [(0, _), (2, _), (3, _)], [(13, (_, _)), (3001, (_, _)), (3002, (_, _))]⟩) (le_w [some 13, some 3001, some 3002] rfl ⟨⟨_, rfl, .refl _⟩, ⟨⟨_, rfl, .refl _⟩, ⟨⟨_, rfl, .refl _⟩, trivial⟩⟩⟩ ⟨⟨_, rfl, .refl _⟩, ⟨⟨_, rfl, .refl _⟩, ⟨⟨_, rfl, .refl _⟩, trivial⟩⟩⟩ (by decide)) ?_
  refine good_seq fun K3 hK3 => ?_
  refine good_region ?_
  refine g_op rfl (ValOk.op (v_move rfl rfl ?_)) 
  obtain ⟨y2, hy2, h⟩ := bnd h
  refine g_op rfl (o_callD [] [] [] (core_value rfl rfl) (m_impl_RefTo_ok a0 _ hy2) trivial (.cons (.refl _) (.nil)) trivial rfl rfl rfl ?_)
  rintro _ _ ⟨w3, w4, rfl, rfl⟩
  refine ⟨.agg [.int .i64 y2.kind, .int .i64 y2.num, .str y2.text, .hd 3003 w3, .hd 3004 w4], [(3003, _), (3004, _)], .agg (.cons (.refl _) (.cons (.refl _) (.cons (.refl _) (.cons (.hd _ _ _) (.cons (.hd _ _ _) (.nil)))))), rfl, rfl, rfl, rfl, .inl rfl, ?_⟩
  refine g_op rfl (o_alloc (k := 14) tabOk tzero30 rfl rfl ?_)
  intro b2
  refine g_op rfl (o_storeP tabOk (cs' := [.int .i64 y2.kind, .int .i64 y2.num, .str y2.text, .hd 3003 w3, .hd 3004 w4]) rfl rfl tsize30 rfl rfl rfl (Nat.le_of_ble_eq_true rfl) rfl rfl rfl ?_)
  refine g_nil ?_
  refine hK3 _ ?_
  refine Good.le (σ' := ⟨41, [(0, _), (2, _), (3, _), (4, _)], [(13, (_, _)), (3001, (_, _)), (3002, (_, _)), (14, (_, _)), (3003, (_, _)), (3004, (_, _))]⟩) (le_w [some 13, some 3001, some 3002, some 14, some 3003, some 3004] rfl ⟨⟨_, rfl, .refl _⟩, ⟨⟨_, rfl, .refl _⟩, ⟨⟨_, rfl, .refl _⟩, ⟨⟨_, rfl, .refl _⟩, trivial⟩⟩⟩⟩ ⟨⟨_, rfl, .refl _⟩, ⟨⟨_, rfl, .refl _⟩, ⟨⟨_, rfl, .refl _⟩, ⟨⟨_, rfl, .refl _⟩, ⟨⟨_, rfl, .refl _⟩, ⟨⟨_, rfl, .refl _⟩, trivial⟩⟩⟩⟩⟩⟩ (by decide)) ?_
  refine good_seq fun K4 hK4 => ?_
  refine good_seq fun K5 hK5 => ?_
  refine good_region ?_
  refine g_op rfl (ValOk.op (v_loadP tabOk rfl rfl tsize30 tagg30 rfl rfl rfl rfl ?_)) 
  refine g_op rfl (ValOk.op (v_loadP tabOk rfl rfl tsize30 tagg30 rfl rfl rfl rfl ?_)) 
  obtain ⟨y3, hy3, h⟩ := bnd h
  refine g_op rfl (o_callR [3003, 3004, 3001, 3002] [(_, _), (_, _), (_, _), (_, _)] (core_value rfl rfl) (m_laws_eqValue_ok k y2 y1 _ hy3) ⟨⟨_, rfl, .osl (FrzLL.map fun _ _ => encOVal_frz _)⟩, ⟨⟨_, rfl, .osl (FrzLL.map fun _ _ => encS_frz _)⟩, ⟨⟨_, rfl, .osl (FrzLL.map fun _ _ => encOVal_frz _)⟩, ⟨⟨_, rfl, .osl (FrzLL.map fun _ _ => encS_frz _)⟩, trivial⟩⟩⟩⟩ (.cons (.agg (.cons (.refl _) (.cons (.refl _) (.cons (.refl _) (.cons (.frz _ _ _ (.head _)) (.cons (.frz _ _ _ (.tail _ (.head _))) (.nil))))))) (.cons (.agg (.cons (.refl _) (.cons (.refl _) (.cons (.refl _) (.cons (.frz _ _ _ (.tail _ (.tail _ (.head _)))) (.cons (.frz _ _ _ (.tail _ (.tail _ (.tail _ (.head _))))) (.nil))))))) (.nil))) (.inr (.bool _)) rfl ?_)
  refine g_op rfl (ValOk.op (v_not rfl rfl ?_)) 
  refine g_nil ?_
  refine hK5 _ ?_
  refine Good.le (σ' := ⟨41, [(0, _), (2, _), (3, _), (4, _), (15, _)], [(13, (_, _)), (3001, (_, _)), (3002, (_, _)), (14, (_, _)), (3003, (_, _)), (3004, (_, _))]⟩) (le_w [some 13, some 3001, some 3002, some 14, some 3003, some 3004] rfl ⟨⟨_, rfl, .refl _⟩, ⟨⟨_, rfl, .refl _⟩, ⟨⟨_, rfl, .refl _⟩, ⟨⟨_, rfl, .refl _⟩, ⟨⟨_, rfl, .refl _⟩, trivial⟩⟩⟩⟩⟩ ⟨⟨_, rfl, .refl _⟩, ⟨⟨_, rfl, .refl _⟩, ⟨⟨_, rfl, .refl _⟩, ⟨⟨_, rfl, .refl _⟩, ⟨⟨_, rfl, .refl _⟩, ⟨⟨_, rfl, .refl _⟩, trivial⟩⟩⟩⟩⟩⟩ (by decide)) ?_
  refine good_cond rfl (fun hc1 => ?_) (fun hc1 => ?_)
  · replace h := bF h (nT hc1)
    refine good_seq fun K6 hK6 => ?_
    refine good_region ?_
    refine g_op rfl (ValOk.op (v_assign rfl rfl ?_)) 
    refine g_nil ?_
    refine hK6 _ ?_
    refine Good.le (σ' := ⟨41, [(0, _), (2, _), (3, _), (4, _)], [(13, (_, _)), (3001, (_, _)), (3002, (_, _)), (14, (_, _)), (3003, (_, _)), (3004, (_, _))]⟩) (le_w [some 13, some 3001, some 3002, some 14, some 3003, some 3004] rfl ⟨⟨_, rfl, .refl _⟩, ⟨⟨_, rfl, .refl _⟩, ⟨⟨_, rfl, .refl _⟩, ⟨⟨_, rfl, .refl _⟩, trivial⟩⟩⟩⟩ ⟨⟨_, rfl, .refl _⟩, ⟨⟨_, rfl, .refl _⟩, ⟨⟨_, rfl, .refl _⟩, ⟨⟨_, rfl, .refl _⟩, ⟨⟨_, rfl, .refl _⟩, ⟨⟨_, rfl, .refl _⟩, trivial⟩⟩⟩⟩⟩⟩ (by decide)) ?_
    refine Good.le (σ' := ⟨41, [(2, .bool false)], []⟩) (le_w [] rfl ⟨⟨_, rfl, .refl _⟩, trivial⟩ trivial (by decide)) ?_
    refine good_ret ?_
    obtain rfl := Option.some.inj h
    refine thenQ_ret ?_
    exact endQ_ret (h' := []) [] (.tmp rfl (.nil)) trivial (by decide) ⟨rfl, rfl⟩
  · replace h := ifT h (nF hc1)
    refine good_skip ?_
    refine hK4 _ ?_
    refine Good.le (σ' := ⟨41, [(0, _), (2, _), (3, _), (4, _)], [(13, (_, _)), (3001, (_, _)), (3002, (_, _)), (14, (_, _)), (3003, (_, _)), (3004, (_, _))]⟩) (le_w [some 13, some 3001, some 3002, some 14, some 3003, some 3004] rfl ⟨⟨_, rfl, .refl _⟩, ⟨⟨_, rfl, .refl _⟩, ⟨⟨_, rfl, .refl _⟩, ⟨⟨_, rfl, .refl _⟩, trivial⟩⟩⟩⟩ ⟨⟨_, rfl, .refl _⟩, ⟨⟨_, rfl, .refl _⟩, ⟨⟨_, rfl, .refl _⟩, ⟨⟨_, rfl, .refl _⟩, ⟨⟨_, rfl, .refl _⟩, ⟨⟨_, rfl, .refl _⟩, trivial⟩⟩⟩⟩⟩⟩ (by decide)) ?_
    refine good_seq fun K7 hK7 => ?_
    refine good_region ?_
    refine g_op rfl (ValOk.op (v_assign rfl rfl ?_)) 
    refine g_nil ?_
    refine hK7 _ ?_
    refine good_seq fun K8 hK8 => ?_
    refine good_region ?_
    refine g_op rfl (ValOk.op (v_loadP tabOk rfl rfl tsize30 tagg30 rfl rfl rfl rfl ?_)) 
    refine g_op rfl (ValOk.op (v_move rfl rfl ?_)) 
    obtain ⟨y4, hy4, h⟩ := bnd h
    refine g_op rfl (o_callD [] [] [3003, 3004] (core_value rfl rfl) (m_laws_markValue_ok k y2 1 _ _ _ hy4) trivial (.cons (.agg (.cons (.refl _) (.cons (.refl _) (.cons (.refl _) (.cons (.hd _ _ _) (.cons (.hd _ _ _) (.nil))))))) (.cons (.refl _) (.nil))) ⟨rfl, ⟨rfl, trivial⟩⟩ rfl rfl rfl ?_)
    rintro _ _ ⟨rfl, rfl⟩
    refine ⟨_, [(3003, _), (3004, _)], .refl _, rfl, rfl, rfl, rfl, .inl rfl, ?_⟩
    refine g_op rfl (ValOk.op (v_assign rfl rfl ?_)) 
    refine g_nil ?_
    refine hK8 _ ?_
    refine Good.le (σ' := ⟨41, [(0, _), (2, _), (3, _), (4, _), (5, _)], [(13, (_, _)), (3001, (_, _)), (3002, (_, _)), (14, (_, _)), (3003, (_, _)), (3004, (_, _))]⟩) (le_w [some 13, some 3001, some 3002, some 14, some 3003, some 3004] rfl ⟨⟨_, rfl, .refl _⟩, ⟨⟨_, rfl, .refl _⟩, ⟨⟨_, rfl, .refl _⟩, ⟨⟨_, rfl, .refl _⟩, ⟨⟨_, rfl, .refl _⟩, trivial⟩⟩⟩⟩⟩ ⟨⟨_, rfl, .refl _⟩, ⟨⟨_, rfl, .refl _⟩, ⟨⟨_, rfl, .refl _⟩, ⟨⟨_, rfl, .refl _⟩, ⟨⟨_, rfl, .refl _⟩, ⟨⟨_, rfl, .refl _⟩, trivial⟩⟩⟩⟩⟩⟩ (by decide)) ?_
    refine good_seq fun K9 hK9 => ?_
    refine good_region ?_
    refine g_op rfl (ValOk.op (v_assign rfl rfl ?_)) 
    refine g_nil ?_
    refine hK9 _ ?_
    refine good_seq fun K10 hK10 => ?_
    refine good_region ?_
    refine g_op rfl (ValOk.op (v_loadP tabOk rfl rfl tsize30 tagg30 rfl rfl rfl rfl ?_)) 
    refine g_op rfl (ValOk.op (v_move rfl rfl ?_)) 
    obtain ⟨y5, hy5, h⟩ := bnd h
    refine g_op rfl (o_callR [3003, 3004] [(_, _), (_, _)] (core_value rfl rfl) (m_laws_heldValue_ok k (Val.mk y2.kind y2.num y2.text y4.2.1 y4.2.2) 1 _ hy5) ⟨⟨_, rfl, .osl (FrzLL.map fun _ _ => encOVal_frz _)⟩, ⟨⟨_, rfl, .osl (FrzLL.map fun _ _ => encS_frz _)⟩, trivial⟩⟩ (.cons (.agg (.cons (.refl _) (.cons (.refl _) (.cons (.refl _) (.cons (.frz _ _ _ (.head _)) (.cons (.frz _ _ _ (.tail _ (.head _))) (.nil))))))) (.cons (.refl _) (.nil))) (.inr (.int _ _)) rfl ?_)
    refine g_op rfl (ValOk.op (v_assign rfl rfl ?_)) 
    refine g_nil ?_
    refine hK10 _ ?_
    refine Good.le (σ' := ⟨41, [(0, _), (2, _), (3, _), (4, _), (5, _), (6, _)], [(13, (_, _)), (3001, (_, _)), (3002, (_, _)), (14, (_, _)), (3003, (_, _)), (3004, (_, _))]⟩) (le_w [some 13, some 3001, some 3002, some 14, some 3003, some 3004] rfl ⟨⟨_, rfl, .refl _⟩, ⟨⟨_, rfl, .refl _⟩, ⟨⟨_, rfl, .refl _⟩, ⟨⟨_, rfl, .refl _⟩, ⟨⟨_, rfl, .refl _⟩, ⟨⟨_, rfl, .refl _⟩, trivial⟩⟩⟩⟩⟩⟩ ⟨⟨_, rfl, .refl _⟩, ⟨⟨_, rfl, .refl _⟩, ⟨⟨_, rfl, .refl _⟩, ⟨⟨_, rfl, .refl _⟩, ⟨⟨_, rfl, .refl _⟩, ⟨⟨_, rfl, .refl _⟩, trivial⟩⟩⟩⟩⟩⟩ (by decide)) ?_
    refine good_seq fun K11 hK11 => ?_
    refine good_seq fun K12 hK12 => ?_
    refine good_region ?_
    refine g_op rfl (ValOk.op (v_move rfl rfl ?_)) 
    refine g_op rfl (ValOk.op (v_bin rfl rfl rfl rfl ?_)) 
    refine g_nil ?_
    refine hK12 _ ?_
    refine Good.le (σ' := ⟨41, [(0, _), (2, _), (3, _), (4, _), (5, _), (6, _), (23, _)], [(13, (_, _)), (3001, (_, _)), (3002, (_, _)), (14, (_, _)), (3003, (_, _)), (3004, (_, _))]⟩) (le_w [some 13, some 3001, some 3002, some 14, some 3003, some 3004] rfl ⟨⟨_, rfl, .refl _⟩, ⟨⟨_, rfl, .refl _⟩, ⟨⟨_, rfl, .refl _⟩, ⟨⟨_, rfl, .refl _⟩, ⟨⟨_, rfl, .refl _⟩, ⟨⟨_, rfl, .refl _⟩, ⟨⟨_, rfl, .refl _⟩, trivial⟩⟩⟩⟩⟩⟩⟩ ⟨⟨_, rfl, .refl _⟩, ⟨⟨_, rfl, .refl _⟩, ⟨⟨_, rfl, .refl _⟩, ⟨⟨_, rfl, .refl _⟩, ⟨⟨_, rfl, .refl _⟩, ⟨⟨_, rfl, .refl _⟩, trivial⟩⟩⟩⟩⟩⟩ (by decide)) ?_
    refine good_cond rfl (fun hc2 => ?_) (fun hc2 => ?_)
    · replace h := ifT h (dT hc2)
      refine good_seq fun K13 hK13 => ?_
      refine good_region ?_
      refine g_op rfl (ValOk.op (v_assign rfl rfl ?_)) 
      refine g_nil ?_
      refine hK13 _ ?_
      refine Good.le (σ' := ⟨41, [(0, _), (2, _), (3, _), (4, _), (5, _), (6, _)], [(13, (_, _)), (3001, (_, _)), (3002, (_, _)), (14, (_, _)), (3003, (_, _)), (3004, (_, _))]⟩) (le_w [some 13, some 3001, some 3002, some 14, some 3003, some 3004] rfl ⟨⟨_, rfl, .refl _⟩, ⟨⟨_, rfl, .refl _⟩, ⟨⟨_, rfl, .refl _⟩, ⟨⟨_, rfl, .refl _⟩, ⟨⟨_, rfl, .refl _⟩, ⟨⟨_, rfl, .refl _⟩, trivial⟩⟩⟩⟩⟩⟩ ⟨⟨_, rfl, .refl _⟩, ⟨⟨_, rfl, .refl _⟩, ⟨⟨_, rfl, .refl _⟩, ⟨⟨_, rfl, .refl _⟩, ⟨⟨_, rfl, .refl _⟩, ⟨⟨_, rfl, .refl _⟩, trivial⟩⟩⟩⟩⟩⟩ (by decide)) ?_
      refine Good.le (σ' := ⟨41, [(2, .bool false)], []⟩) (le_w [] rfl ⟨⟨_, rfl, .refl _⟩, trivial⟩ trivial (by decide)) ?_
      refine good_ret ?_
      obtain rfl := Option.some.inj h
      refine thenQ_ret ?_
      exact endQ_ret (h' := []) [] (.tmp rfl (.nil)) trivial (by decide) ⟨rfl, rfl⟩
    · replace h := ifF h (dF hc2)
      refine good_skip ?_
      refine hK11 _ ?_
      refine Good.le (σ' := ⟨41, [(0, _), (2, _), (3, _), (4, _), (5, _), (6, _)], [(13, (_, _)), (3001, (_, _)), (3002, (_, _)), (14, (_, _)), (3003, (_, _)), (3004, (_, _))]⟩) (le_w [some 13, some 3001, some 3002, some 14, some 3003, some 3004] rfl ⟨⟨_, rfl, .refl _⟩, ⟨⟨_, rfl, .refl _⟩, ⟨⟨_, rfl, .refl _⟩, ⟨⟨_, rfl, .refl _⟩, ⟨⟨_, rfl, .refl _⟩, ⟨⟨_, rfl, .refl _⟩, trivial⟩⟩⟩⟩⟩⟩ ⟨⟨_, rfl, .refl _⟩, ⟨⟨_, rfl, .refl _⟩, ⟨⟨_, rfl, .refl _⟩, ⟨⟨_, rfl, .refl _⟩, ⟨⟨_, rfl, .refl _⟩, ⟨⟨_, rfl, .refl _⟩, trivial⟩⟩⟩⟩⟩⟩ (by decide)) ?_
      refine good_seq fun K14 hK14 => ?_
      refine good_seq fun K15 hK15 => ?_
      refine good_region ?_
      refine g_op rfl (ValOk.op (v_move rfl rfl ?_)) 
      refine g_op rfl (ValOk.op (v_move rfl rfl ?_)) 
      refine g_op rfl (ValOk.op (v_bin rfl rfl rfl rfl ?_)) 
      refine g_nil ?_
      refine hK15 _ ?_
      refine Good.le (σ' := ⟨41, [(0, _), (2, _), (3, _), (4, _), (5, _), (26, _)], [(13, (_, _)), (3001, (_, _)), (3002, (_, _)), (14, (_, _)), (3003, (_, _)), (3004, (_, _))]⟩) (le_w [some 13, some 3001, some 3002, some 14, some 3003, some 3004] rfl ⟨⟨_, rfl, .refl _⟩, ⟨⟨_, rfl, .refl _⟩, ⟨⟨_, rfl, .refl _⟩, ⟨⟨_, rfl, .refl _⟩, ⟨⟨_, rfl, .refl _⟩, ⟨⟨_, rfl, .refl _⟩, trivial⟩⟩⟩⟩⟩⟩ ⟨⟨_, rfl, .refl _⟩, ⟨⟨_, rfl, .refl _⟩, ⟨⟨_, rfl, .refl _⟩, ⟨⟨_, rfl, .refl _⟩, ⟨⟨_, rfl, .refl _⟩, ⟨⟨_, rfl, .refl _⟩, trivial⟩⟩⟩⟩⟩⟩ (by decide)) ?_
      refine good_cond rfl (fun hc3 => ?_) (fun hc3 => ?_)
      · replace h := ifF h (ndT hc3)
        refine good_seq fun K16 hK16 => ?_
        refine good_region ?_
        refine g_op rfl (ValOk.op (v_assign rfl rfl ?_)) 
        refine g_nil ?_
        refine hK16 _ ?_
        refine Good.le (σ' := ⟨41, [(0, _), (2, _), (3, _), (4, _), (5, _)], [(13, (_, _)), (3001, (_, _)), (3002, (_, _)), (14, (_, _)), (3003, (_, _)), (3004, (_, _))]⟩) (le_w [some 13, some 3001, some 3002, some 14, some 3003, some 3004] rfl ⟨⟨_, rfl, .refl _⟩, ⟨⟨_, rfl, .refl _⟩, ⟨⟨_, rfl, .refl _⟩, ⟨⟨_, rfl, .refl _⟩, ⟨⟨_, rfl, .refl _⟩, trivial⟩⟩⟩⟩⟩ ⟨⟨_, rfl, .refl _⟩, ⟨⟨_, rfl, .refl _⟩, ⟨⟨_, rfl, .refl _⟩, ⟨⟨_, rfl, .refl _⟩, ⟨⟨_, rfl, .refl _⟩, ⟨⟨_, rfl, .refl _⟩, trivial⟩⟩⟩⟩⟩⟩ (by decide)) ?_
        refine Good.le (σ' := ⟨41, [(2, .bool false)], []⟩) (le_w [] rfl ⟨⟨_, rfl, .refl _⟩, trivial⟩ trivial (by decide)) ?_
        refine good_ret ?_
        obtain rfl := Option.some.inj h
        refine thenQ_ret ?_
        exact endQ_ret (h' := []) [] (.tmp rfl (.nil)) trivial (by decide) ⟨rfl, rfl⟩
      · replace h := ifT h (ndF hc3)
        refine good_skip ?_
        refine hK14 _ ?_
        refine Good.le (σ' := ⟨41, [(0, _), (2, _), (3, _), (4, _), (5, _)], [(13, (_, _)), (3001, (_, _)), (3002, (_, _)), (14, (_, _)), (3003, (_, _)), (3004, (_, _))]⟩) (le_w [some 13, some 3001, some 3002, some 14, some 3003, some 3004] rfl ⟨⟨_, rfl, .refl _⟩, ⟨⟨_, rfl, .refl _⟩, ⟨⟨_, rfl, .refl _⟩, ⟨⟨_, rfl, .refl _⟩, ⟨⟨_, rfl, .refl _⟩, trivial⟩⟩⟩⟩⟩ ⟨⟨_, rfl, .refl _⟩, ⟨⟨_, rfl, .refl _⟩, ⟨⟨_, rfl, .refl _⟩, ⟨⟨_, rfl, .refl _⟩, ⟨⟨_, rfl, .refl _⟩, ⟨⟨_, rfl, .refl _⟩, trivial⟩⟩⟩⟩⟩⟩ (by decide)) ?_
        refine good_seq fun K17 hK17 => ?_
        refine good_region ?_
        refine g_op rfl (ValOk.op (v_move rfl rfl ?_)) 
        obtain ⟨y6, hy6, h⟩ := bnd h
        refine g_op rfl (o_callD [] [] [] (core_value rfl rfl) (m_impl_RefTo_ok a0 _ hy6) trivial (.cons (.refl _) (.nil)) trivial rfl rfl rfl ?_)
        rintro _ _ ⟨w5, w6, rfl, rfl⟩
        refine ⟨.agg [.int .i64 y6.kind, .int .i64 y6.num, .str y6.text, .hd 3005 w5, .hd 3006 w6], [(3005, _), (3006, _)], .agg (.cons (.refl _) (.cons (.refl _) (.cons (.refl _) (.cons (.hd _ _ _) (.cons (.hd _ _ _) (.nil)))))), rfl, rfl, rfl, rfl, .inl rfl, ?_⟩
        refine g_op rfl (o_alloc (k := 17) tabOk tzero30 rfl rfl ?_)
        intro b3
        refine g_op rfl (o_storeP tabOk (cs' := [.int .i64 y6.kind, .int .i64 y6.num, .str y6.text, .hd 3005 w5, .hd 3006 w6]) rfl rfl tsize30 rfl rfl rfl (Nat.le_of_ble_eq_true rfl) rfl rfl rfl ?_)
        refine g_nil ?_
        refine hK17 _ ?_
        refine Good.le (σ' := ⟨41, [(2, _), (3, _), (4, _), (5, _), (7, _)], [(13, (_, _)), (3001, (_, _)), (3002, (_, _)), (14, (_, _)), (3003, (_, _)), (3004, (_, _)), (17, (_, _)), (3005, (_, _)), (3006, (_, _))]⟩) (le_w [some 13, some 3001, some 3002, some 14, some 3003, some 3004, some 17, some 3005, some 3006] rfl ⟨⟨_, rfl, .refl _⟩, ⟨⟨_, rfl, .refl _⟩, ⟨⟨_, rfl, .refl _⟩, ⟨⟨_, rfl, .refl _⟩, ⟨⟨_, rfl, .refl _⟩, trivial⟩⟩⟩⟩⟩ ⟨⟨_, rfl, .refl _⟩, ⟨⟨_, rfl, .refl _⟩, ⟨⟨_, rfl, .refl _⟩, ⟨⟨_, rfl, .refl _⟩, ⟨⟨_, rfl, .refl _⟩, ⟨⟨_, rfl, .refl _⟩, ⟨⟨_, rfl, .refl _⟩, ⟨⟨_, rfl, .refl _⟩, ⟨⟨_, rfl, .refl _⟩, trivial⟩⟩⟩⟩⟩⟩⟩⟩⟩ (by decide)) ?_
        refine good_seq fun K18 hK18 => ?_
        refine good_seq fun K19 hK19 => ?_
        refine good_region ?_
        refine g_op rfl (ValOk.op (v_loadP tabOk rfl rfl tsize30 tagg30 rfl rfl rfl rfl ?_)) 
        refine g_op rfl (ValOk.op (v_loadP tabOk rfl rfl tsize30 tagg30 rfl rfl rfl rfl ?_)) 
        obtain ⟨y7, hy7, h⟩ := bnd h
        refine g_op rfl (o_callR [3005, 3006, 3001, 3002] [(_, _), (_, _), (_, _), (_, _)] (core_value rfl rfl) (m_laws_eqValue_ok k y6 y1 _ hy7) ⟨⟨_, rfl, .osl (FrzLL.map fun _ _ => encOVal_frz _)⟩, ⟨⟨_, rfl, .osl (FrzLL.map fun _ _ => encS_frz _)⟩, ⟨⟨_, rfl, .osl (FrzLL.map fun _ _ => encOVal_frz _)⟩, ⟨⟨_, rfl, .osl (FrzLL.map fun _ _ => encS_frz _)⟩, trivial⟩⟩⟩⟩ (.cons (.agg (.cons (.refl _) (.cons (.refl _) (.cons (.refl _) (.cons (.frz _ _ _ (.head _)) (.cons (.frz _ _ _ (.tail _ (.head _))) (.nil))))))) (.cons (.agg (.cons (.refl _) (.cons (.refl _) (.cons (.refl _) (.cons (.frz _ _ _ (.tail _ (.tail _ (.head _)))) (.cons (.frz _ _ _ (.tail _ (.tail _ (.tail _ (.head _))))) (.nil))))))) (.nil))) (.inr (.bool _)) rfl ?_)
        refine g_op rfl (ValOk.op (v_not rfl rfl ?_)) 
        refine g_nil ?_
        refine hK19 _ ?_
        refine Good.le (σ' := ⟨41, [(2, _), (4, _), (5, _), (32, _)], [(14, (_, _)), (3003, (_, _)), (3004, (_, _))]⟩) (le_w [some 14, some 3003, some 3004] rfl ⟨⟨_, rfl, .refl _⟩, ⟨⟨_, rfl, .refl _⟩, ⟨⟨_, rfl, .refl _⟩, ⟨⟨_, rfl, .refl _⟩, trivial⟩⟩⟩⟩ ⟨⟨_, rfl, .refl _⟩, ⟨⟨_, rfl, .refl _⟩, ⟨⟨_, rfl, .refl _⟩, trivial⟩⟩⟩ (by decide)) ?_
        refine good_cond rfl (fun hc4 => ?_) (fun hc4 => ?_)
        · replace h := bF h (nT hc4)
          refine good_seq fun K20 hK20 => ?_
          refine good_region ?_
          refine g_op rfl (ValOk.op (v_assign rfl rfl ?_)) 
          refine g_nil ?_
          refine hK20 _ ?_
          refine Good.le (σ' := ⟨41, [(2, _), (4, _), (5, _)], [(14, (_, _)), (3003, (_, _)), (3004, (_, _))]⟩) (le_w [some 14, some 3003, some 3004] rfl ⟨⟨_, rfl, .refl _⟩, ⟨⟨_, rfl, .refl _⟩, ⟨⟨_, rfl, .refl _⟩, trivial⟩⟩⟩ ⟨⟨_, rfl, .refl _⟩, ⟨⟨_, rfl, .refl _⟩, ⟨⟨_, rfl, .refl _⟩, trivial⟩⟩⟩ (by decide)) ?_
          refine Good.le (σ' := ⟨41, [(2, .bool false)], []⟩) (le_w [] rfl ⟨⟨_, rfl, .refl _⟩, trivial⟩ trivial (by decide)) ?_
          refine good_ret ?_
          obtain rfl := Option.some.inj h
          refine thenQ_ret ?_
          exact endQ_ret (h' := []) [] (.tmp rfl (.nil)) trivial (by decide) ⟨rfl, rfl⟩
        · replace h := ifT h (nF hc4)
          refine good_skip ?_
          refine hK18 _ ?_
          refine Good.le (σ' := ⟨41, [(2, _), (4, _), (5, _)], [(14, (_, _)), (3003, (_, _)), (3004, (_, _))]⟩) (le_w [some 14, some 3003, some 3004] rfl ⟨⟨_, rfl, .refl _⟩, ⟨⟨_, rfl, .refl _⟩, ⟨⟨_, rfl, .refl _⟩, trivial⟩⟩⟩ ⟨⟨_, rfl, .refl _⟩, ⟨⟨_, rfl, .refl _⟩, ⟨⟨_, rfl, .refl _⟩, trivial⟩⟩⟩ (by decide)) ?_
          refine good_seq fun K21 hK21 => ?_
          refine good_region ?_
          refine g_op rfl (ValOk.op (v_assign rfl rfl ?_)) 
          refine g_nil ?_
          refine hK21 _ ?_
          refine good_seq fun K22 hK22 => ?_
          refine good_region ?_
          refine g_op rfl (ValOk.op (v_loadP tabOk rfl rfl tsize30 tagg30 rfl rfl rfl rfl ?_)) 
          refine g_op rfl (ValOk.op (v_move rfl rfl ?_)) 
          obtain ⟨y8, hy8, h⟩ := bnd h
          refine g_op rfl (o_callR [3003, 3004] [(_, _), (_, _)] (core_value rfl rfl) (m_laws_heldValue_ok k (Val.mk y2.kind y2.num y2.text y4.2.1 y4.2.2) 1 _ hy8) ⟨⟨_, rfl, .osl (FrzLL.map fun _ _ => encOVal_frz _)⟩, ⟨⟨_, rfl, .osl (FrzLL.map fun _ _ => encS_frz _)⟩, trivial⟩⟩ (.cons (.agg (.cons (.refl _) (.cons (.refl _) (.cons (.refl _) (.cons (.frz _ _ _ (.head _)) (.cons (.frz _ _ _ (.tail _ (.head _))) (.nil))))))) (.cons (.refl _) (.nil))) (.inr (.int _ _)) rfl ?_)
          refine g_op rfl (ValOk.op (v_assign rfl rfl ?_)) 
          refine g_nil ?_
          refine hK22 _ ?_
          refine Good.le (σ' := ⟨41, [(2, _), (5, _), (6, _)], []⟩) (le_w [] rfl ⟨⟨_, rfl, .refl _⟩, ⟨⟨_, rfl, .refl _⟩, ⟨⟨_, rfl, .refl _⟩, trivial⟩⟩⟩ trivial (by decide)) ?_
          refine good_seq fun K23 hK23 => ?_
          refine good_seq fun K24 hK24 => ?_
          refine good_region ?_
          refine g_op rfl (ValOk.op (v_move rfl rfl ?_)) 
          refine g_op rfl (ValOk.op (v_bin rfl rfl rfl rfl ?_)) 
          refine g_nil ?_
          refine hK24 _ ?_
          refine Good.le (σ' := ⟨41, [(2, _), (5, _), (6, _), (37, _)], []⟩) (le_w [] rfl ⟨⟨_, rfl, .refl _⟩, ⟨⟨_, rfl, .refl _⟩, ⟨⟨_, rfl, .refl _⟩, ⟨⟨_, rfl, .refl _⟩, trivial⟩⟩⟩⟩ trivial (by decide)) ?_
          refine good_cond rfl (fun hc5 => ?_) (fun hc5 => ?_)
          · replace h := ifT h (dT hc5)
            refine good_seq fun K25 hK25 => ?_
            refine good_region ?_
            refine g_op rfl (ValOk.op (v_assign rfl rfl ?_)) 
            refine g_nil ?_
            refine hK25 _ ?_
            refine Good.le (σ' := ⟨41, [(2, _), (5, _), (6, _)], []⟩) (le_w [] rfl ⟨⟨_, rfl, .refl _⟩, ⟨⟨_, rfl, .refl _⟩, ⟨⟨_, rfl, .refl _⟩, trivial⟩⟩⟩ trivial (by decide)) ?_
            refine Good.le (σ' := ⟨41, [(2, .bool false)], []⟩) (le_w [] rfl ⟨⟨_, rfl, .refl _⟩, trivial⟩ trivial (by decide)) ?_
            refine good_ret ?_
            obtain rfl := Option.some.inj h
            refine thenQ_ret ?_
            exact endQ_ret (h' := []) [] (.tmp rfl (.nil)) trivial (by decide) ⟨rfl, rfl⟩
          · replace h := ifF h (dF hc5)
            refine good_skip ?_
            refine hK23 _ ?_
            refine Good.le (σ' := ⟨41, [(2, _), (5, _), (6, _)], []⟩) (le_w [] rfl ⟨⟨_, rfl, .refl _⟩, ⟨⟨_, rfl, .refl _⟩, ⟨⟨_, rfl, .refl _⟩, trivial⟩⟩⟩ trivial (by decide)) ?_
            refine good_seq fun K26 hK26 => ?_
            refine good_seq fun K27 hK27 => ?_
            refine good_region ?_
            refine g_op rfl (ValOk.op (v_move rfl rfl ?_)) 
            refine g_op rfl (ValOk.op (v_move rfl rfl ?_)) 
            refine g_op rfl (ValOk.op (v_bin rfl rfl rfl rfl ?_)) 
            refine g_nil ?_
            refine hK27 _ ?_
            refine Good.le (σ' := ⟨41, [(2, _), (40, _)], []⟩) (le_w [] rfl ⟨⟨_, rfl, .refl _⟩, ⟨⟨_, rfl, .refl _⟩, trivial⟩⟩ trivial (by decide)) ?_
            refine good_cond rfl (fun hc6 => ?_) (fun hc6 => ?_)
            · replace h := ifF h (ndT hc6)
              refine good_seq fun K28 hK28 => ?_
              refine good_region ?_
              refine g_op rfl (ValOk.op (v_assign rfl rfl ?_)) 
              refine g_nil ?_
              refine hK28 _ ?_
              refine Good.le (σ' := ⟨41, [(2, _)], []⟩) (le_w [] rfl ⟨⟨_, rfl, .refl _⟩, trivial⟩ trivial (by decide)) ?_
              refine Good.le (σ' := ⟨41, [(2, .bool false)], []⟩) (le_w [] rfl ⟨⟨_, rfl, .refl _⟩, trivial⟩ trivial (by decide)) ?_
              refine good_ret ?_
              obtain rfl := Option.some.inj h
              refine thenQ_ret ?_
              exact endQ_ret (h' := []) [] (.tmp rfl (.nil)) trivial (by decide) ⟨rfl, rfl⟩
            · replace h := ifT h (ndF hc6)
              refine good_skip ?_
              refine hK26 _ ?_
              refine Good.le (σ' := ⟨41, [(2, _)], []⟩) (le_w [] rfl ⟨⟨_, rfl, .refl _⟩, trivial⟩ trivial (by decide)) ?_
              refine good_seq fun K29 hK29 => ?_
              refine good_region ?_
              refine g_op rfl (ValOk.op (v_assign rfl rfl ?_)) 
              refine g_nil ?_
              refine hK29 _ ?_
              refine Good.le (σ' := ⟨41, [(2, .bool true)], []⟩) (le_w [] rfl ⟨⟨_, rfl, .refl _⟩, trivial⟩ trivial (by decide)) ?_
              refine good_ret ?_
              obtain rfl := Option.some.inj h
              exact endQ_ret (h' := []) [] (.tmp rfl (.nil)) trivial (by decide) ⟨rfl, rfl⟩
mutual
def m_laws_eqType : Nat → Typ → Typ → Option Bool
  | 0, _, _ => none
  | k + 1, a0, a1 =>
    if a0.name = a1.name then
      (m_laws_eqTypeS k a0.of_ a1.of_).bind fun y1 =>
      if y1 = true then
        if a0.must = a1.must then
          some true
        else
          some false
      else
        some false
    else
      some false
def m_laws_eqTypeS_l1 : Nat → (List Typ) → (List Typ) → Int → Option (Lp Unit Bool)
  | 0, _, _, _ => none
  | k + 1, a0, a1, x1 =>
    if x1 < (a0.length : Int) then
      if (0 : Int) ≤ x1 ∧ x1 < (a0.length : Int) then
        if (0 : Int) ≤ x1 ∧ x1 < (a1.length : Int) then
          (m_laws_eqType k (Typ.mk ((ix a0 x1).name) ((ix a0 x1).of_) ((ix a0 x1).must)) (Typ.mk ((ix a1 x1).name) ((ix a1 x1).of_) ((ix a1 x1).must))).bind fun y1 =>
          if y1 = true then
            m_laws_eqTypeS_l1 k a0 a1 (IntKind.wrap .i64 (x1 + 1))
          else
            (some false).bind fun z =>
            some (Lp.ret z)
        else none
      else none
    else
      some (Lp.go ())
def m_laws_eqTypeS : Nat → (List Typ) → (List Typ) → Option Bool
  | 0, _, _ => none
  | k + 1, a0, a1 =>
    if (a0.length : Int) = (a1.length : Int) then
      (m_laws_eqTypeS_l1 k a0 a1 0).bind fun o1 =>
      o1.then fun s1 =>
    some true
    else
      some false
end
def P_m_laws_eqType (k : Nat) : Prop := ∀ (a0 : Typ) (a1 : Typ) (r : Bool), m_laws_eqType k a0 a1 = some r → Does Try.prog 33 [.agg [.str a0.name, .sl (a0.of_.map encTyp), .bool a0.must], .agg [.str a1.name, .sl (a1.of_.map encTyp), .bool a1.must]] [] (ret (.bool r))
def P_m_laws_eqTypeS (k : Nat) : Prop := ∀ (a0 : (List Typ)) (a1 : (List Typ)) (r : Bool), m_laws_eqTypeS k a0 a1 = some r → Does Try.prog 62 [.sl (a0.map encTyp), .sl (a1.map encTyp)] [] (ret (.bool r))
theorem m_laws_eqType_step (k : Nat) (ih : ∀ m, m < k → P_m_laws_eqType m ∧ P_m_laws_eqTypeS m) : P_m_laws_eqType k := by
  intro a0 a1 r h
  obtain ⟨k, rfl⟩ : ∃ k', k = k' + 1 := by cases k with | zero => (rw [m_laws_eqType] at h; cases h) | succ k' => exact ⟨k', rfl⟩
  rw [m_laws_eqType] at h
  refine does_of_good tabOk Try.func33 rfl (by decide +kernel) (Nat.le_of_ble_eq_true rfl) fun c => ?_
  refine Good.le (σ' := ⟨21, [(0, .agg [.str a0.name, .sl (a0.of_.map encTyp), .bool a0.must]), (1, .agg [.str a1.name, .sl (a1.of_.map encTyp), .bool a1.must])], []⟩) (Le.refl _) ?_
  refine good_seq fun K1 hK1 => ?_
  refine good_region ?_
  refine g_op rfl (o_box (k := 12) tabOk rfl rfl rfl rfl rfl ?_)
  intro b1
  refine g_op rfl (o_box (k := 13) tabOk rfl rfl rfl rfl rfl ?_)
  intro b2
  refine g_op rfl (ValOk.op (v_assign rfl rfl ?_)) 
  refine g_nil ?_
  refine hK1 _ ?_
  refine Good.le (σ' := ⟨21, [(2, _), (3, _), (4, _)], [(12, (_, _)), (13, (_, _))]⟩) (le_w [some 12, some 13] rfl ⟨⟨_, rfl, .refl _⟩, ⟨⟨_, rfl, .refl _⟩, ⟨⟨_, rfl, .refl _⟩, trivial⟩⟩⟩ ⟨⟨_, rfl, .refl _⟩, ⟨⟨_, rfl, .refl _⟩, trivial⟩⟩ (by decide)) ?_
  refine good_seq fun K2 hK2 => ?_
  refine good_seq fun K3 hK3 => ?_
  refine good_region ?_
  refine g_op rfl (ValOk.op (v_fieldP tabOk rfl tfoff48_0 rfl ?_)) 
  refine g_op rfl (ValOk.op (v_loadP tabOk rfl rfl tsize9 tagg9 rfl rfl rfl rfl ?_)) 
  refine g_op rfl (ValOk.op (v_fieldP tabOk rfl tfoff48_0 rfl ?_)) 
  refine g_op rfl (ValOk.op (v_loadP tabOk rfl rfl tsize9 tagg9 rfl rfl rfl rfl ?_)) 
  refine g_op rfl (ValOk.op (v_bin rfl rfl rfl rfl ?_)) 
  refine g_nil ?_
  refine hK3 _ ?_
  refine Good.le (σ' := ⟨21, [(2, _), (3, _), (4, _), (9, _)], [(12, (_, _)), (13, (_, _))]⟩) (le_w [some 12, some 13] rfl ⟨⟨_, rfl, .refl _⟩, ⟨⟨_, rfl, .refl _⟩, ⟨⟨_, rfl, .refl _⟩, ⟨⟨_, rfl, .refl _⟩, trivial⟩⟩⟩⟩ ⟨⟨_, rfl, .refl _⟩, ⟨⟨_, rfl, .refl _⟩, trivial⟩⟩ (by decide)) ?_
  refine good_cond rfl (fun hc1 => ?_) (fun hc1 => ?_)
  · replace h := ifF h (ndT hc1)
    refine good_seq fun K4 hK4 => ?_
    refine good_region ?_
    refine g_op rfl (ValOk.op (v_assign rfl rfl ?_)) 
    refine g_nil ?_
    refine hK4 _ ?_
    refine Good.le (σ' := ⟨21, [(2, _), (3, _), (4, _)], [(12, (_, _)), (13, (_, _))]⟩) (le_w [some 12, some 13] rfl ⟨⟨_, rfl, .refl _⟩, ⟨⟨_, rfl, .refl _⟩, ⟨⟨_, rfl, .refl _⟩, trivial⟩⟩⟩ ⟨⟨_, rfl, .refl _⟩, ⟨⟨_, rfl, .refl _⟩, trivial⟩⟩ (by decide)) ?_
    refine Good.le (σ' := ⟨21, [(4, .bool false)], []⟩) (le_w [] rfl ⟨⟨_, rfl, .refl _⟩, trivial⟩ trivial (by decide)) ?_
    refine good_ret ?_
    obtain rfl := Option.some.inj h
    refine thenQ_ret ?_
    exact endQ_ret (h' := []) [] (.tmp rfl (.nil)) trivial (by decide) ⟨rfl, rfl⟩
  · replace h := ifT h (ndF hc1)
    refine good_skip ?_
    refine hK2 _ ?_
    refine Good.le (σ' := ⟨21, [(2, _), (3, _), (4, _)], [(12, (_, _)), (13, (_, _))]⟩) (le_w [some 12, some 13] rfl ⟨⟨_, rfl, .refl _⟩, ⟨⟨_, rfl, .refl _⟩, ⟨⟨_, rfl, .refl _⟩, trivial⟩⟩⟩ ⟨⟨_, rfl, .refl _⟩, ⟨⟨_, rfl, .refl _⟩, trivial⟩⟩ (by decide)) ?_
    refine good_seq fun K5 hK5 => ?_
    refine good_seq fun K6 hK6 => ?_
    refine good_region ?_
    refine g_op rfl (ValOk.op (v_fieldP tabOk rfl tfoff48_1 rfl ?_)) 
    refine g_op rfl (ValOk.op (v_loadP tabOk rfl rfl tsize46 tagg46 rfl rfl rfl rfl ?_)) 
    refine g_op rfl (ValOk.op (v_fieldP tabOk rfl tfoff48_1 rfl ?_)) 
    refine g_op rfl (ValOk.op (v_loadP tabOk rfl rfl tsize46 tagg46 rfl rfl rfl rfl ?_)) 
    obtain ⟨y1, hy1, h⟩ := bnd h
    refine g_op rfl (o_callR [] [] (core_value rfl rfl) ((ih k (by omega)).2 a0.of_ a1.of_ _ hy1) trivial (.cons (.refl _) (.cons (.refl _) (.nil))) (.inl rfl) rfl ?_)
    refine g_op rfl (ValOk.op (v_not rfl rfl ?_)) 
    refine g_nil ?_
    refine hK6 _ ?_
    refine Good.le (σ' := ⟨21, [(2, _), (3, _), (4, _), (15, _)], [(12, (_, _)), (13, (_, _))]⟩) (le_w [some 12, some 13] rfl ⟨⟨_, rfl, .refl _⟩, ⟨⟨_, rfl, .refl _⟩, ⟨⟨_, rfl, .refl _⟩, ⟨⟨_, rfl, .refl _⟩, trivial⟩⟩⟩⟩ ⟨⟨_, rfl, .refl _⟩, ⟨⟨_, rfl, .refl _⟩, trivial⟩⟩ (by decide)) ?_
    refine good_cond rfl (fun hc2 => ?_) (fun hc2 => ?_)
    · replace h := bF h (nT hc2)
      refine good_seq fun K7 hK7 => ?_
      refine good_region ?_
      refine g_op rfl (ValOk.op (v_assign rfl rfl ?_)) 
      refine g_nil ?_
      refine hK7 _ ?_
      refine Good.le (σ' := ⟨21, [(2, _), (3, _), (4, _)], [(12, (_, _)), (13, (_, _))]⟩) (le_w [some 12, some 13] rfl ⟨⟨_, rfl, .refl _⟩, ⟨⟨_, rfl, .refl _⟩, ⟨⟨_, rfl, .refl _⟩, trivial⟩⟩⟩ ⟨⟨_, rfl, .refl _⟩, ⟨⟨_, rfl, .refl _⟩, trivial⟩⟩ (by decide)) ?_
      refine Good.le (σ' := ⟨21, [(4, .bool false)], []⟩) (le_w [] rfl ⟨⟨_, rfl, .refl _⟩, trivial⟩ trivial (by decide)) ?_
      refine good_ret ?_
      obtain rfl := Option.some.inj h
      refine thenQ_ret ?_
      exact endQ_ret (h' := []) [] (.tmp rfl (.nil)) trivial (by decide) ⟨rfl, rfl⟩
    · replace h := ifT h (nF hc2)
      refine good_skip ?_
      refine hK5 _ ?_
      refine Good.le (σ' := ⟨21, [(2, _), (3, _), (4, _)], [(12, (_, _)), (13, (_, _))]⟩) (le_w [some 12, some 13] rfl ⟨⟨_, rfl, .refl _⟩, ⟨⟨_, rfl, .refl _⟩, ⟨⟨_, rfl, .refl _⟩, trivial⟩⟩⟩ ⟨⟨_, rfl, .refl _⟩, ⟨⟨_, rfl, .refl _⟩, trivial⟩⟩ (by decide)) ?_
      refine good_seq fun K8 hK8 => ?_
      refine good_seq fun K9 hK9 => ?_
      refine good_region ?_
      refine g_op rfl (ValOk.op (v_fieldP tabOk rfl tfoff48_2 rfl ?_)) 
      refine g_op rfl (ValOk.op (v_loadP tabOk rfl rfl tsize4 tagg4 rfl rfl rfl rfl ?_)) 
      refine g_op rfl (ValOk.op (v_fieldP tabOk rfl tfoff48_2 rfl ?_)) 
      refine g_op rfl (ValOk.op (v_loadP tabOk rfl rfl tsize4 tagg4 rfl rfl rfl rfl ?_)) 
      refine g_op rfl (ValOk.op (v_binT tabOk (r := .bool (!decide (a0.must = a1.must))) rfl rfl (by simp [binT, eqr]) rfl ?_)) 
      refine g_nil ?_
      refine hK9 _ ?_
      refine Good.le (σ' := ⟨21, [(4, _), (20, _)], []⟩) (le_w [] rfl ⟨⟨_, rfl, .refl _⟩, ⟨⟨_, rfl, .refl _⟩, trivial⟩⟩ trivial (by decide)) ?_
      refine good_cond rfl (fun hc3 => ?_) (fun hc3 => ?_)
      · replace h := ifF h (ndT hc3)
        refine good_seq fun K10 hK10 => ?_
        refine good_region ?_
        refine g_op rfl (ValOk.op (v_assign rfl rfl ?_)) 
        refine g_nil ?_
        refine hK10 _ ?_
        refine Good.le (σ' := ⟨21, [(4, _)], []⟩) (le_w [] rfl ⟨⟨_, rfl, .refl _⟩, trivial⟩ trivial (by decide)) ?_
        refine Good.le (σ' := ⟨21, [(4, .bool false)], []⟩) (le_w [] rfl ⟨⟨_, rfl, .refl _⟩, trivial⟩ trivial (by decide)) ?_
        refine good_ret ?_
        obtain rfl := Option.some.inj h
        refine thenQ_ret ?_
        exact endQ_ret (h' := []) [] (.tmp rfl (.nil)) trivial (by decide) ⟨rfl, rfl⟩
      · replace h := ifT h (ndF hc3)
        refine good_skip ?_
        refine hK8 _ ?_
        refine Good.le (σ' := ⟨21, [(4, _)], []⟩) (le_w [] rfl ⟨⟨_, rfl, .refl _⟩, trivial⟩ trivial (by decide)) ?_
        refine good_seq fun K11 hK11 => ?_
        refine good_region ?_
        refine g_op rfl (ValOk.op (v_assign rfl rfl ?_)) 
        refine g_nil ?_
        refine hK11 _ ?_
        refine Good.le (σ' := ⟨21, [(4, .bool true)], []⟩) (le_w [] rfl ⟨⟨_, rfl, .refl _⟩, trivial⟩ trivial (by decide)) ?_
        refine good_ret ?_
        obtain rfl := Option.some.inj h
        exact endQ_ret (h' := []) [] (.tmp rfl (.nil)) trivial (by decide) ⟨rfl, rfl⟩
theorem m_laws_eqTypeS_step (k : Nat) (ih : ∀ m, m < k → P_m_laws_eqType m ∧ P_m_laws_eqTypeS m) : P_m_laws_eqTypeS k := by
  intro a0 a1 r h
  obtain ⟨k, rfl⟩ : ∃ k', k = k' + 1 := by cases k with | zero => (rw [m_laws_eqTypeS] at h; cases h) | succ k' => exact ⟨k', rfl⟩
  rw [m_laws_eqTypeS] at h
  refine does_of_good tabOk Try.func62 rfl (by decide +kernel) (Nat.le_of_ble_eq_true rfl) fun c => ?_
  refine Good.le (σ' := ⟨27, [(0, .sl (a0.map encTyp)), (1, .sl (a1.map encTyp))], []⟩) (Le.refl _) ?_
  refine good_seq fun K1 hK1 => ?_
  refine good_region ?_
  refine g_op rfl (ValOk.op (v_assign rfl rfl ?_)) 
  refine g_nil ?_
  refine hK1 _ ?_
  refine good_seq fun K2 hK2 => ?_
  refine good_seq fun K3 hK3 => ?_
  refine good_region ?_
  refine g_op rfl (ValOk.op (v_move rfl rfl ?_)) 
  refine g_op rfl (ValOk.op (v_lenM (l := a0) (f := encTyp) tabOk rfl rfl telem46 rfl ?_)) 
  refine g_op rfl (ValOk.op (v_move rfl rfl ?_)) 
  refine g_op rfl (ValOk.op (v_lenM (l := a1) (f := encTyp) tabOk rfl rfl telem46 rfl ?_)) 
  refine g_op rfl (ValOk.op (v_bin rfl rfl rfl rfl ?_)) 
  refine g_nil ?_
  refine hK3 _ ?_
  refine Good.le (σ' := ⟨27, [(0, _), (1, _), (4, _), (10, _)], []⟩) (le_w [] rfl ⟨⟨_, rfl, .refl _⟩, ⟨⟨_, rfl, .refl _⟩, ⟨⟨_, rfl, .refl _⟩, ⟨⟨_, rfl, .refl _⟩, trivial⟩⟩⟩⟩ trivial (by decide)) ?_
  refine good_cond rfl (fun hc1 => ?_) (fun hc1 => ?_)
  · replace h := ifF h (ndT hc1)
    refine good_seq fun K4 hK4 => ?_
    refine good_region ?_
    refine g_op rfl (ValOk.op (v_assign rfl rfl ?_)) 
    refine g_nil ?_
    refine hK4 _ ?_
    refine Good.le (σ' := ⟨27, [(0, _), (1, _), (4, _)], []⟩) (le_w [] rfl ⟨⟨_, rfl, .refl _⟩, ⟨⟨_, rfl, .refl _⟩, ⟨⟨_, rfl, .refl _⟩, trivial⟩⟩⟩ trivial (by decide)) ?_
    refine Good.le (σ' := ⟨27, [(4, .bool false)], []⟩) (le_w [] rfl ⟨⟨_, rfl, .refl _⟩, trivial⟩ trivial (by decide)) ?_
    refine good_ret ?_
    obtain rfl := Option.some.inj h
    refine thenQ_ret ?_
    exact endQ_ret (h' := []) [] (.tmp rfl (.nil)) trivial (by decide) ⟨rfl, rfl⟩
  · replace h := ifT h (ndF hc1)
    refine good_skip ?_
    refine hK2 _ ?_
    refine Good.le (σ' := ⟨27, [(0, _), (1, _), (4, _)], []⟩) (le_w [] rfl ⟨⟨_, rfl, .refl _⟩, ⟨⟨_, rfl, .refl _⟩, ⟨⟨_, rfl, .refl _⟩, trivial⟩⟩⟩ trivial (by decide)) ?_
    refine good_seq fun K5 hK5 => ?_
    refine good_seq fun K6 hK6 => ?_
    refine good_region ?_
    refine g_op rfl (ValOk.op (v_assign rfl rfl ?_)) 
    refine g_nil ?_
    refine hK6 _ ?_
    obtain ⟨o1, ho1, hJ1⟩ := bnd h
    have hw1 : ∀ (s1 : Unit), o1 = Lp.go s1 → ∀ σ', Le σ' ⟨27, [(4, .bool false)], []⟩ → K5 σ' := by
      intro s1 e1 σ' hle1
      subst e1
      refine hK5 _ (Good.le hle1 ?_)
      replace h := hJ1
      refine good_seq fun K7 hK7 => ?_
      refine good_region ?_
      refine g_op rfl (ValOk.op (v_assign rfl rfl ?_)) 
      refine g_nil ?_
      refine hK7 _ ?_
      refine Good.le (σ' := ⟨27, [(4, .bool true)], []⟩) (le_w [] rfl ⟨⟨_, rfl, .refl _⟩, trivial⟩ trivial (by decide)) ?_
      refine good_ret ?_
      obtain rfl := Option.some.inj h
      exact endQ_ret (h' := []) [] (.tmp rfl (.nil)) trivial (by decide) ⟨rfl, rfl⟩
    replace h := ho1
    refine good_block ?_
    refine good_loopf (fun p : Int => ⟨27, [(0, .sl (a0.map encTyp)), (1, .sl (a1.map encTyp)), (4, .bool false), (5, .int .i64 p)], []⟩) (fun m p => m < k + 1 ∧ m_laws_eqTypeS_l1 m a0 a1 p = some o1) k (0) (le_w [] rfl ⟨⟨_, rfl, .refl _⟩, ⟨⟨_, rfl, .refl _⟩, ⟨⟨_, rfl, .refl _⟩, ⟨⟨_, rfl, .refl _⟩, trivial⟩⟩⟩⟩ trivial (by decide)) ⟨by omega, h⟩ ?_
    rintro m1 x1 ⟨hm, h⟩
    replace h : m_laws_eqTypeS_l1 m1 a0 a1 x1 = some o1 := h
    refine Good.le (σ' := ⟨27, [(0, .sl (a0.map encTyp)), (1, .sl (a1.map encTyp)), (4, .bool false), (5, .int .i64 x1)], []⟩) (Le.refl _) ?_
    obtain ⟨m1, rfl⟩ : ∃ m', m1 = m' + 1 := by cases m1 with | zero => (rw [m_laws_eqTypeS_l1] at h; cases h) | succ m' => exact ⟨m', rfl⟩
    rw [m_laws_eqTypeS_l1] at h
    refine good_seq fun K8 hK8 => ?_
    refine good_seq fun K9 hK9 => ?_
    refine good_region ?_
    refine g_op rfl (ValOk.op (v_move rfl rfl ?_)) 
    refine g_op rfl (ValOk.op (v_move rfl rfl ?_)) 
    refine g_op rfl (ValOk.op (v_lenM (l := a0) (f := encTyp) tabOk rfl rfl telem46 rfl ?_)) 
    refine g_op rfl (ValOk.op (v_bin rfl rfl rfl rfl ?_)) 
    refine g_nil ?_
    refine hK9 _ ?_
    refine Good.le (σ' := ⟨27, [(0, _), (1, _), (4, _), (5, _), (14, _)], []⟩) (le_w [] rfl ⟨⟨_, rfl, .refl _⟩, ⟨⟨_, rfl, .refl _⟩, ⟨⟨_, rfl, .refl _⟩, ⟨⟨_, rfl, .refl _⟩, ⟨⟨_, rfl, .refl _⟩, trivial⟩⟩⟩⟩⟩ trivial (by decide)) ?_
    refine good_cond rfl (fun hc2 => ?_) (fun hc2 => ?_)
    · replace h := ifT h (dT hc2)
      refine good_skip ?_
      refine hK8 _ ?_
      refine Good.le (σ' := ⟨27, [(0, _), (1, _), (4, _), (5, _)], []⟩) (le_w [] rfl ⟨⟨_, rfl, .refl _⟩, ⟨⟨_, rfl, .refl _⟩, ⟨⟨_, rfl, .refl _⟩, ⟨⟨_, rfl, .refl _⟩, trivial⟩⟩⟩⟩ trivial (by decide)) ?_
      refine good_seq fun K10 hK10 => ?_
      refine good_block ?_
      refine good_seq fun K11 hK11 => ?_
      refine good_draw (by kernel_rfl) (by kernel_rfl) ?_
      refine q_op rfl (v_move rfl rfl ?_) 
      refine q_op rfl (v_move rfl rfl ?_) 
      obtain ⟨hb1, h⟩ := ifS h
      refine q_op rfl (v_idxM tabOk rfl rfl telem46 tsize48 hb1 (encTyp_eq _) rfl rfl ?_) 
      refine q_op rfl (v_loadE tabOk rfl tsize48 tagg48 rfl rfl rfl ?_) 
      refine q_op rfl (v_move rfl rfl ?_) 
      refine q_op rfl (v_move rfl rfl ?_) 
      obtain ⟨hb2, h⟩ := ifS h
      refine q_op rfl (v_idxM tabOk rfl rfl telem46 tsize48 hb2 (encTyp_eq _) rfl rfl ?_) 
      refine q_op rfl (v_loadE tabOk rfl tsize48 tagg48 rfl rfl rfl ?_) 
      obtain ⟨y1, hy1, h⟩ := bnd h
      refine q_call [] [] (fun _ _ _ _ _ => wanted_none rfl _) (core_value rfl rfl) ((ih m1 (by omega)).1 (Typ.mk ((ix a0 x1).name) ((ix a0 x1).of_) ((ix a0 x1).must)) (Typ.mk ((ix a1 x1).name) ((ix a1 x1).of_) ((ix a1 x1).must)) _ hy1) trivial (.cons (.refl _) (.cons (.refl _) (.nil))) (.bool _) rfl ?_
      refine q_op rfl (v_not rfl rfl ?_) 
      refine q_nil ?_
      refine hK11 _ ?_
      refine Good.le (σ' := ⟨27, [(0, _), (1, _), (4, _), (5, _), (26, _)], []⟩) (le_w [] rfl ⟨⟨_, rfl, .refl _⟩, ⟨⟨_, rfl, .refl _⟩, ⟨⟨_, rfl, .refl _⟩, ⟨⟨_, rfl, .refl _⟩, ⟨⟨_, rfl, .refl _⟩, trivial⟩⟩⟩⟩⟩ trivial (by decide)) ?_
      refine good_cond rfl (fun hc3 => ?_) (fun hc3 => ?_)
      · replace h := bF h (nT hc3)
        refine good_seq fun K12 hK12 => ?_
        refine good_region ?_
        refine g_op rfl (ValOk.op (v_assign rfl rfl ?_)) 
        refine g_nil ?_
        refine hK12 _ ?_
        refine Good.le (σ' := ⟨27, [(0, _), (1, _), (4, _), (5, _)], []⟩) (le_w [] rfl ⟨⟨_, rfl, .refl _⟩, ⟨⟨_, rfl, .refl _⟩, ⟨⟨_, rfl, .refl _⟩, ⟨⟨_, rfl, .refl _⟩, trivial⟩⟩⟩⟩ trivial (by decide)) ?_
        refine Good.le (σ' := ⟨27, [(4, .bool false)], []⟩) (le_w [] rfl ⟨⟨_, rfl, .refl _⟩, trivial⟩ trivial (by decide)) ?_
        refine good_ret ?_
        replace h := unret h hJ1
        obtain rfl := Option.some.inj h
        refine blockQ_ret ?_
        refine thenQ_ret ?_
        refine thenQ_ret ?_
        refine blockQ_ret ?_
        refine thenQ_ret ?_
        exact endQ_ret (h' := []) [] (.tmp rfl (.nil)) trivial (by decide) ⟨rfl, rfl⟩
      · replace h := ifT h (nF hc3)
        refine good_skip ?_
        refine hK10 _ ?_
        refine Good.le (σ' := ⟨27, [(0, _), (1, _), (4, _), (5, _)], []⟩) (le_w [] rfl ⟨⟨_, rfl, .refl _⟩, ⟨⟨_, rfl, .refl _⟩, ⟨⟨_, rfl, .refl _⟩, ⟨⟨_, rfl, .refl _⟩, trivial⟩⟩⟩⟩ trivial (by decide)) ?_
        refine good_region ?_
        refine g_op rfl (ValOk.op (v_move rfl rfl ?_)) 
        refine g_op rfl (ValOk.op (v_bin rfl rfl rfl rfl ?_)) 
        refine g_op rfl (ValOk.op (v_assign rfl rfl ?_)) 
        refine g_nil ?_
        exact round_mk m1 (IntKind.wrap .i64 (x1 + 1)) (Nat.lt_succ_self _) ⟨by omega, h⟩ (le_w [] rfl ⟨⟨_, rfl, .refl _⟩, ⟨⟨_, rfl, .refl _⟩, ⟨⟨_, rfl, .refl _⟩, ⟨⟨_, rfl, .refl _⟩, trivial⟩⟩⟩⟩ trivial (by decide))
    · replace h := ifF h (dF hc2)
      refine good_exit ?_
      exact hw1 () (Option.some.inj h).symm _ (le_w [] rfl ⟨⟨_, rfl, .refl _⟩, trivial⟩ trivial (by decide))
theorem m_laws_eqType_all (k : Nat) : P_m_laws_eqType k ∧ P_m_laws_eqTypeS k := by
  induction k using Nat.strongRecOn with
  | _ k ih => exact ⟨m_laws_eqType_step k ih, m_laws_eqTypeS_step k ih⟩
theorem m_laws_eqType_ok (k : Nat) : ∀ (a0 : Typ) (a1 : Typ) (r : Bool), m_laws_eqType k a0 a1 = some r → Does Try.prog 33 [.agg [.str a0.name, .sl (a0.of_.map encTyp), .bool a0.must], .agg [.str a1.name, .sl (a1.of_.map encTyp), .bool a1.must]] [] (ret (.bool r)) := (m_laws_eqType_all k).1
theorem m_laws_eqTypeS_ok (k : Nat) : ∀ (a0 : (List Typ)) (a1 : (List Typ)) (r : Bool), m_laws_eqTypeS k a0 a1 = some r → Does Try.prog 62 [.sl (a0.map encTyp), .sl (a1.map encTyp)] [] (ret (.bool r)) := (m_laws_eqType_all k).2
mutual
def m_laws_heldTypeS_l1 : Nat → (List Typ) → Int → Int → Option (Lp Int Int)
  | 0, _, _, _ => none
  | k + 1, a0, x1, x2 =>
    if x2 < (a0.length : Int) then
      if (0 : Int) ≤ x2 ∧ x2 < (a0.length : Int) then
        (m_laws_markText k x1).bind fun y1 =>
        if ((ix a0 x2).name) = y1 then
          if (0 : Int) ≤ x2 ∧ x2 < (a0.length : Int) then
            (m_laws_heldTypeS k ((ix a0 x2).of_) (IntKind.wrap .i64 (x1 + 1))).bind fun y2 =>
            if y2 < 0 then
              (some (-1)).bind fun z =>
              some (Lp.ret z)
            else
              if (0 : Int) ≤ x2 ∧ x2 < (a0.length : Int) then
                if ((ix a0 x2).must) = (decide ((Int.tmod y2 3) = 0)) then
                  m_laws_heldTypeS_l1 k a0 (IntKind.wrap .i64 (y2 + 1)) (IntKind.wrap .i64 (x2 + 1))
                else
                  (some (-1)).bind fun z =>
                  some (Lp.ret z)
              else none
          else none
        else
          (some (-1)).bind fun z =>
          some (Lp.ret z)
      else none
    else
      some (Lp.go x1)
def m_laws_heldTypeS : Nat → (List Typ) → Int → Option Int
  | 0, _, _ => none
  | k + 1, a0, a1 =>
    (m_laws_heldTypeS_l1 k a0 a1 0).bind fun o1 =>
    o1.then fun s1 =>
    some s1
end
def P_m_laws_heldTypeS (k : Nat) : Prop := ∀ (a0 : (List Typ)) (a1 : Int) (r : Int), m_laws_heldTypeS k a0 a1 = some r → Does Try.prog 64 [.sl (a0.map encTyp), .int .i64 a1] [] (ret (.int .i64 r))
theorem m_laws_heldTypeS_step (k : Nat) (ih : ∀ m, m < k → P_m_laws_heldTypeS m) : P_m_laws_heldTypeS k := by
  intro a0 a1 r h
  obtain ⟨k, rfl⟩ : ∃ k', k = k' + 1 := by cases k with | zero => (rw [m_laws_heldTypeS] at h; cases h) | succ k' => exact ⟨k', rfl⟩
  rw [m_laws_heldTypeS] at h
  refine does_of_good tabOk Try.func64 rfl (by decide +kernel) (Nat.le_of_ble_eq_true rfl) fun c => ?_
  refine Good.le (σ' := ⟨43, [(0, .sl (a0.map encTyp)), (1, .int .i64 a1)], []⟩) (Le.refl _) ?_
  refine good_seq fun K1 hK1 => ?_
  refine good_region ?_
  refine g_op rfl (ValOk.op (v_assign rfl rfl ?_)) 
  refine g_nil ?_
  refine hK1 _ ?_
  refine good_seq fun K2 hK2 => ?_
  refine good_seq fun K3 hK3 => ?_
  refine good_region ?_
  refine g_op rfl (ValOk.op (v_assign rfl rfl ?_)) 
  refine g_nil ?_
  refine hK3 _ ?_
  obtain ⟨o1, ho1, hJ1⟩ := bnd h
  have hw1 : ∀ (s1 : Int), o1 = Lp.go s1 → ∀ σ', Le σ' ⟨43, [(1, .int .i64 s1), (4, .int .i64 0)], []⟩ → K2 σ' := by
    intro s1 e1 σ' hle1
    subst e1
    refine hK2 _ (Good.le hle1 ?_)
    replace h := hJ1
    refine good_seq fun K4 hK4 => ?_
    refine good_region ?_
    refine g_op rfl (ValOk.op (v_move rfl rfl ?_)) 
    refine g_op rfl (ValOk.op (v_assign rfl rfl ?_)) 
    refine g_nil ?_
    refine hK4 _ ?_
    refine Good.le (σ' := ⟨43, [(4, _)], []⟩) (le_w [] rfl ⟨⟨_, rfl, .refl _⟩, trivial⟩ trivial (by decide)) ?_
    refine Good.le (σ' := ⟨43, [(4, .int .i64 s1)], []⟩) (le_w [] rfl ⟨⟨_, rfl, .refl _⟩, trivial⟩ trivial (by decide)) ?_
    refine good_ret ?_
    obtain rfl := Option.some.inj h
    exact endQ_ret (h' := []) [] (.tmp rfl (.nil)) trivial (by decide) ⟨rfl, rfl⟩
  replace h := ho1
  refine good_block ?_
  refine good_loopf (fun p : (Int × Int) => ⟨43, [(0, .sl (a0.map encTyp)), (1, .int .i64 p.1), (4, .int .i64 0), (5, .int .i64 p.2)], []⟩) (fun m p => m < k + 1 ∧ m_laws_heldTypeS_l1 m a0 p.1 p.2 = some o1) k (a1, 0) (le_w [] rfl ⟨⟨_, rfl, .refl _⟩, ⟨⟨_, rfl, .refl _⟩, ⟨⟨_, rfl, .refl _⟩, ⟨⟨_, rfl, .refl _⟩, trivial⟩⟩⟩⟩ trivial (by decide)) ⟨by omega, h⟩ ?_
  rintro m1 ⟨x1, x2⟩ ⟨hm, h⟩
  replace h : m_laws_heldTypeS_l1 m1 a0 x1 x2 = some o1 := h
  refine Good.le (σ' := ⟨43, [(0, .sl (a0.map encTyp)), (1, .int .i64 x1), (4, .int .i64 0), (5, .int .i64 x2)], []⟩) (Le.refl _) ?_
  obtain ⟨m1, rfl⟩ : ∃ m', m1 = m' + 1 := by cases m1 with | zero => (rw [m_laws_heldTypeS_l1] at h; cases h) | succ m' => exact ⟨m', rfl⟩
  rw [m_laws_heldTypeS_l1] at h
  refine good_seq fun K5 hK5 => ?_
  refine good_seq fun K6 hK6 => ?_
  refine good_region ?_
  refine g_op rfl (ValOk.op (v_move rfl rfl ?_)) 
  refine g_op rfl (ValOk.op (v_move rfl rfl ?_)) 
  refine g_op rfl (ValOk.op (v_lenM (l := a0) (f := encTyp) tabOk rfl rfl telem46 rfl ?_)) 
  refine g_op rfl (ValOk.op (v_bin rfl rfl rfl rfl ?_)) 
  refine g_nil ?_
  refine hK6 _ ?_
  refine Good.le (σ' := ⟨43, [(0, _), (1, _), (4, _), (5, _), (9, _)], []⟩) (le_w [] rfl ⟨⟨_, rfl, .refl _⟩, ⟨⟨_, rfl, .refl _⟩, ⟨⟨_, rfl, .refl _⟩, ⟨⟨_, rfl, .refl _⟩, ⟨⟨_, rfl, .refl _⟩, trivial⟩⟩⟩⟩⟩ trivial (by decide)) ?_
  refine good_cond rfl (fun hc1 => ?_) (fun hc1 => ?_)
  · replace h := ifT h (dT hc1)
    refine good_skip ?_
    refine hK5 _ ?_
    refine Good.le (σ' := ⟨43, [(0, _), (1, _), (4, _), (5, _)], []⟩) (le_w [] rfl ⟨⟨_, rfl, .refl _⟩, ⟨⟨_, rfl, .refl _⟩, ⟨⟨_, rfl, .refl _⟩, ⟨⟨_, rfl, .refl _⟩, trivial⟩⟩⟩⟩ trivial (by decide)) ?_
    refine good_seq fun K7 hK7 => ?_
    refine good_block ?_
    refine good_seq fun K8 hK8 => ?_
    refine good_seq fun K9 hK9 => ?_
    refine good_draw (by kernel_rfl) (by kernel_rfl) ?_
    refine q_op rfl (v_move rfl rfl ?_) 
    refine q_op rfl (v_move rfl rfl ?_) 
    obtain ⟨hb1, h⟩ := ifS h
    refine q_op rfl (v_idxM tabOk rfl rfl telem46 tsize48 hb1 (encTyp_eq _) rfl rfl ?_) 
    refine q_op rfl (v_fieldE tabOk rfl tfoff48_0 rfl rfl ?_) 
    refine q_op rfl (v_loadE tabOk rfl tsize9 tagg9 rfl rfl rfl ?_) 
    refine q_op rfl (v_move rfl rfl ?_) 
    obtain ⟨y1, hy1, h⟩ := bnd h
    refine q_call [] [] (fun _ _ _ _ _ => wanted_none rfl _) (core_value rfl rfl) (m_laws_markText_ok m1 x1 _ hy1) trivial (.cons (.refl _) (.nil)) (.str _) rfl ?_
    refine q_op rfl (v_bin rfl rfl rfl rfl ?_) 
    refine q_nil ?_
    refine hK9 _ ?_
    refine Good.le (σ' := ⟨43, [(0, _), (1, _), (4, _), (5, _), (19, _)], []⟩) (le_w [] rfl ⟨⟨_, rfl, .refl _⟩, ⟨⟨_, rfl, .refl _⟩, ⟨⟨_, rfl, .refl _⟩, ⟨⟨_, rfl, .refl _⟩, ⟨⟨_, rfl, .refl _⟩, trivial⟩⟩⟩⟩⟩ trivial (by decide)) ?_
    refine good_cond rfl (fun hc2 => ?_) (fun hc2 => ?_)
    · replace h := ifF h (ndT hc2)
      refine good_seq fun K10 hK10 => ?_
      refine good_region ?_
      refine g_op rfl (ValOk.op (v_assign rfl rfl ?_)) 
      refine g_nil ?_
      refine hK10 _ ?_
      refine Good.le (σ' := ⟨43, [(0, _), (1, _), (4, _), (5, _)], []⟩) (le_w [] rfl ⟨⟨_, rfl, .refl _⟩, ⟨⟨_, rfl, .refl _⟩, ⟨⟨_, rfl, .refl _⟩, ⟨⟨_, rfl, .refl _⟩, trivial⟩⟩⟩⟩ trivial (by decide)) ?_
      refine Good.le (σ' := ⟨43, [(4, .int .i64 (-1))], []⟩) (le_w [] rfl ⟨⟨_, rfl, .refl _⟩, trivial⟩ trivial (by decide)) ?_
      refine good_ret ?_
      replace h := unret h hJ1
      obtain rfl := Option.some.inj h
      refine thenQ_ret ?_
      refine blockQ_ret ?_
      refine thenQ_ret ?_
      refine thenQ_ret ?_
      refine blockQ_ret ?_
      refine thenQ_ret ?_
      exact endQ_ret (h' := []) [] (.tmp rfl (.nil)) trivial (by decide) ⟨rfl, rfl⟩
    · replace h := ifT h (ndF hc2)
      refine good_skip ?_
      refine hK8 _ ?_
      refine Good.le (σ' := ⟨43, [(0, _), (1, _), (4, _), (5, _)], []⟩) (le_w [] rfl ⟨⟨_, rfl, .refl _⟩, ⟨⟨_, rfl, .refl _⟩, ⟨⟨_, rfl, .refl _⟩, ⟨⟨_, rfl, .refl _⟩, trivial⟩⟩⟩⟩ trivial (by decide)) ?_
      refine good_seq fun K11 hK11 => ?_
      refine good_region ?_
      refine g_op rfl (ValOk.op (v_move rfl rfl ?_)) 
      refine g_op rfl (ValOk.op (v_bin rfl rfl rfl rfl ?_)) 
      refine g_op rfl (ValOk.op (v_assign rfl rfl ?_)) 
      refine g_nil ?_
      refine hK11 _ ?_
      refine Good.le (σ' := ⟨43, [(0, _), (1, _), (4, _), (5, _)], []⟩) (le_w [] rfl ⟨⟨_, rfl, .refl _⟩, ⟨⟨_, rfl, .refl _⟩, ⟨⟨_, rfl, .refl _⟩, ⟨⟨_, rfl, .refl _⟩, trivial⟩⟩⟩⟩ trivial (by decide)) ?_
      refine good_seq fun K12 hK12 => ?_
      refine good_region ?_
      refine g_op rfl (ValOk.op (v_move rfl rfl ?_)) 
      refine g_op rfl (ValOk.op (v_move rfl rfl ?_)) 
      obtain ⟨hb2, h⟩ := ifS h
      refine g_op rfl (ValOk.op (v_idxM tabOk rfl rfl telem46 tsize48 hb2 (encTyp_eq _) rfl rfl ?_)) 
      refine g_op rfl (ValOk.op (v_fieldE tabOk rfl tfoff48_1 rfl rfl ?_)) 
      refine g_op rfl (ValOk.op (v_loadE tabOk rfl tsize46 tagg46 rfl rfl rfl ?_)) 
      refine g_op rfl (ValOk.op (v_move rfl rfl ?_)) 
      obtain ⟨y2, hy2, h⟩ := bnd h
      refine g_op rfl (o_callR [] [] (core_value rfl rfl) ((ih m1 (by omega)) ((ix a0 x2).of_) (IntKind.wrap .i64 (x1 + 1)) _ hy2) trivial (.cons (.refl _) (.cons (.refl _) (.nil))) (.inl rfl) rfl ?_)
      refine g_op rfl (ValOk.op (v_assign rfl rfl ?_)) 
      refine g_nil ?_
      refine hK12 _ ?_
      refine Good.le (σ' := ⟨43, [(0, _), (1, _), (4, _), (5, _)], []⟩) (le_w [] rfl ⟨⟨_, rfl, .refl _⟩, ⟨⟨_, rfl, .refl _⟩, ⟨⟨_, rfl, .refl _⟩, ⟨⟨_, rfl, .refl _⟩, trivial⟩⟩⟩⟩ trivial (by decide)) ?_
      refine good_seq fun K13 hK13 => ?_
      refine good_seq fun K14 hK14 => ?_
      refine good_region ?_
      refine g_op rfl (ValOk.op (v_move rfl rfl ?_)) 
      refine g_op rfl (ValOk.op (v_bin rfl rfl rfl rfl ?_)) 
      refine g_nil ?_
      refine hK14 _ ?_
      refine Good.le (σ' := ⟨43, [(0, _), (1, _), (4, _), (5, _), (30, _)], []⟩) (le_w [] rfl ⟨⟨_, rfl, .refl _⟩, ⟨⟨_, rfl, .refl _⟩, ⟨⟨_, rfl, .refl _⟩, ⟨⟨_, rfl, .refl _⟩, ⟨⟨_, rfl, .refl _⟩, trivial⟩⟩⟩⟩⟩ trivial (by decide)) ?_
      refine good_cond rfl (fun hc3 => ?_) (fun hc3 => ?_)
      · replace h := ifT h (dT hc3)
        refine good_seq fun K15 hK15 => ?_
        refine good_region ?_
        refine g_op rfl (ValOk.op (v_assign rfl rfl ?_)) 
        refine g_nil ?_
        refine hK15 _ ?_
        refine Good.le (σ' := ⟨43, [(0, _), (1, _), (4, _), (5, _)], []⟩) (le_w [] rfl ⟨⟨_, rfl, .refl _⟩, ⟨⟨_, rfl, .refl _⟩, ⟨⟨_, rfl, .refl _⟩, ⟨⟨_, rfl, .refl _⟩, trivial⟩⟩⟩⟩ trivial (by decide)) ?_
        refine Good.le (σ' := ⟨43, [(4, .int .i64 (-1))], []⟩) (le_w [] rfl ⟨⟨_, rfl, .refl _⟩, trivial⟩ trivial (by decide)) ?_
        refine good_ret ?_
        replace h := unret h hJ1
        obtain rfl := Option.some.inj h
        refine thenQ_ret ?_
        refine blockQ_ret ?_
        refine thenQ_ret ?_
        refine thenQ_ret ?_
        refine blockQ_ret ?_
        refine thenQ_ret ?_
        exact endQ_ret (h' := []) [] (.tmp rfl (.nil)) trivial (by decide) ⟨rfl, rfl⟩
      · replace h := ifF h (dF hc3)
        refine good_skip ?_
        refine hK13 _ ?_
        refine Good.le (σ' := ⟨43, [(0, _), (1, _), (4, _), (5, _)], []⟩) (le_w [] rfl ⟨⟨_, rfl, .refl _⟩, ⟨⟨_, rfl, .refl _⟩, ⟨⟨_, rfl, .refl _⟩, ⟨⟨_, rfl, .refl _⟩, trivial⟩⟩⟩⟩ trivial (by decide)) ?_
        refine good_seq fun K16 hK16 => ?_
        refine good_seq fun K17 hK17 => ?_
        refine good_region ?_
        refine g_op rfl (ValOk.op (v_move rfl rfl ?_)) 
        refine g_op rfl (ValOk.op (v_move rfl rfl ?_)) 
        obtain ⟨hb3, h⟩ := ifS h
        refine g_op rfl (ValOk.op (v_idxM tabOk rfl rfl telem46 tsize48 hb3 (encTyp_eq _) rfl rfl ?_)) 
        refine g_op rfl (ValOk.op (v_fieldE tabOk rfl tfoff48_2 rfl rfl ?_)) 
        refine g_op rfl (ValOk.op (v_loadE tabOk rfl tsize4 tagg4 rfl rfl rfl ?_)) 
        refine g_op rfl (ValOk.op (v_move rfl rfl ?_)) 
        refine g_op rfl (ValOk.op (v_rem rfl rfl (by decide) rfl ?_)) 
        refine g_op rfl (ValOk.op (v_bin rfl rfl rfl rfl ?_)) 
        refine g_op rfl (ValOk.op (v_binT tabOk (r := .bool (!decide (((ix a0 x2).must) = (decide ((Int.tmod y2 3) = 0))))) rfl rfl (by simp [binT, eqr]) rfl ?_)) 
        refine g_nil ?_
        refine hK17 _ ?_
        refine Good.le (σ' := ⟨43, [(0, _), (1, _), (4, _), (5, _), (39, _)], []⟩) (le_w [] rfl ⟨⟨_, rfl, .refl _⟩, ⟨⟨_, rfl, .refl _⟩, ⟨⟨_, rfl, .refl _⟩, ⟨⟨_, rfl, .refl _⟩, ⟨⟨_, rfl, .refl _⟩, trivial⟩⟩⟩⟩⟩ trivial (by decide)) ?_
        refine good_cond rfl (fun hc4 => ?_) (fun hc4 => ?_)
        · replace h := ifF h (ndT hc4)
          refine good_seq fun K18 hK18 => ?_
          refine good_region ?_
          refine g_op rfl (ValOk.op (v_assign rfl rfl ?_)) 
          refine g_nil ?_
          refine hK18 _ ?_
          refine Good.le (σ' := ⟨43, [(0, _), (1, _), (4, _), (5, _)], []⟩) (le_w [] rfl ⟨⟨_, rfl, .refl _⟩, ⟨⟨_, rfl, .refl _⟩, ⟨⟨_, rfl, .refl _⟩, ⟨⟨_, rfl, .refl _⟩, trivial⟩⟩⟩⟩ trivial (by decide)) ?_
          refine Good.le (σ' := ⟨43, [(4, .int .i64 (-1))], []⟩) (le_w [] rfl ⟨⟨_, rfl, .refl _⟩, trivial⟩ trivial (by decide)) ?_
          refine good_ret ?_
          replace h := unret h hJ1
          obtain rfl := Option.some.inj h
          refine thenQ_ret ?_
          refine blockQ_ret ?_
          refine thenQ_ret ?_
          refine thenQ_ret ?_
          refine blockQ_ret ?_
          refine thenQ_ret ?_
          exact endQ_ret (h' := []) [] (.tmp rfl (.nil)) trivial (by decide) ⟨rfl, rfl⟩
        · replace h := ifT h (ndF hc4)
          refine good_skip ?_
          refine hK16 _ ?_
          refine Good.le (σ' := ⟨43, [(0, _), (1, _), (4, _), (5, _)], []⟩) (le_w [] rfl ⟨⟨_, rfl, .refl _⟩, ⟨⟨_, rfl, .refl _⟩, ⟨⟨_, rfl, .refl _⟩, ⟨⟨_, rfl, .refl _⟩, trivial⟩⟩⟩⟩ trivial (by decide)) ?_
          refine good_region ?_
          refine g_op rfl (ValOk.op (v_move rfl rfl ?_)) 
          refine g_op rfl (ValOk.op (v_bin rfl rfl rfl rfl ?_)) 
          refine g_op rfl (ValOk.op (v_assign rfl rfl ?_)) 
          refine g_nil ?_
          refine hK7 _ ?_
          refine Good.le (σ' := ⟨43, [(0, _), (1, _), (4, _), (5, _)], []⟩) (le_w [] rfl ⟨⟨_, rfl, .refl _⟩, ⟨⟨_, rfl, .refl _⟩, ⟨⟨_, rfl, .refl _⟩, ⟨⟨_, rfl, .refl _⟩, trivial⟩⟩⟩⟩ trivial (by decide)) ?_
          refine good_region ?_
          refine g_op rfl (ValOk.op (v_move rfl rfl ?_)) 
          refine g_op rfl (ValOk.op (v_bin rfl rfl rfl rfl ?_)) 
          refine g_op rfl (ValOk.op (v_assign rfl rfl ?_)) 
          refine g_nil ?_
          exact round_mk m1 (IntKind.wrap .i64 (y2 + 1), IntKind.wrap .i64 (x2 + 1)) (Nat.lt_succ_self _) ⟨by omega, h⟩ (le_w [] rfl ⟨⟨_, rfl, .refl _⟩, ⟨⟨_, rfl, .refl _⟩, ⟨⟨_, rfl, .refl _⟩, ⟨⟨_, rfl, .refl _⟩, trivial⟩⟩⟩⟩ trivial (by decide))
  · replace h := ifF h (dF hc1)
    refine good_exit ?_
    exact hw1 x1 (Option.some.inj h).symm _ (le_w [] rfl ⟨⟨_, rfl, .refl _⟩, ⟨⟨_, rfl, .refl _⟩, trivial⟩⟩ trivial (by decide))
theorem m_laws_heldTypeS_all (k : Nat) : P_m_laws_heldTypeS k := by
  induction k using Nat.strongRecOn with
  | _ k ih => exact m_laws_heldTypeS_step k ih
theorem m_laws_heldTypeS_ok (k : Nat) : ∀ (a0 : (List Typ)) (a1 : Int) (r : Int), m_laws_heldTypeS k a0 a1 = some r → Does Try.prog 64 [.sl (a0.map encTyp), .int .i64 a1] [] (ret (.int .i64 r)) := (m_laws_heldTypeS_all k)
def m_laws_heldType (k : Nat) (a0 : Typ) (a1 : Int) : Option Int :=
  (m_laws_heldTypeS k a0.of_ a1).bind fun y1 =>
  if y1 < 0 then
    some (-1)
  else
    some y1
theorem m_laws_heldType_ok (k : Nat) : ∀ (a0 : Typ) (a1 : Int) (r : Int), m_laws_heldType k a0 a1 = some r → Does Try.prog 35 [.agg [.str a0.name, .sl (a0.of_.map encTyp), .bool a0.must], .int .i64 a1] [] (ret (.int .i64 r)) := by
  intro a0 a1 r h
  rw [m_laws_heldType] at h
  refine does_of_good tabOk Try.func35 rfl (by decide +kernel) (Nat.le_of_ble_eq_true rfl) fun c => ?_
  refine Good.le (σ' := ⟨12, [(0, .agg [.str a0.name, .sl (a0.of_.map encTyp), .bool a0.must]), (1, .int .i64 a1)], []⟩) (Le.refl _) ?_
  refine good_seq fun K1 hK1 => ?_
  refine good_region ?_
  refine g_op rfl (o_box (k := 12) tabOk rfl rfl rfl rfl rfl ?_)
  intro b1
  refine g_op rfl (ValOk.op (v_assign rfl rfl ?_)) 
  refine g_nil ?_
  refine hK1 _ ?_
  refine Good.le (σ' := ⟨12, [(1, _), (2, _), (4, _)], [(12, (_, _))]⟩) (le_w [some 12] rfl ⟨⟨_, rfl, .refl _⟩, ⟨⟨_, rfl, .refl _⟩, ⟨⟨_, rfl, .refl _⟩, trivial⟩⟩⟩ ⟨⟨_, rfl, .refl _⟩, trivial⟩ (by decide)) ?_
  refine good_seq fun K2 hK2 => ?_
  refine good_region ?_
  refine g_op rfl (ValOk.op (v_fieldP tabOk rfl tfoff48_1 rfl ?_)) 
  refine g_op rfl (ValOk.op (v_loadP tabOk rfl rfl tsize46 tagg46 rfl rfl rfl rfl ?_)) 
  refine g_op rfl (ValOk.op (v_move rfl rfl ?_)) 
  obtain ⟨y1, hy1, h⟩ := bnd h
  refine g_op rfl (o_callR [] [] (core_value rfl rfl) (m_laws_heldTypeS_ok k a0.of_ a1 _ hy1) trivial (.cons (.refl _) (.cons (.refl _) (.nil))) (.inl rfl) rfl ?_)
  refine g_op rfl (ValOk.op (v_assign rfl rfl ?_)) 
  refine g_nil ?_
  refine hK2 _ ?_
  refine Good.le (σ' := ⟨12, [(1, _), (4, _)], []⟩) (le_w [] rfl ⟨⟨_, rfl, .refl _⟩, ⟨⟨_, rfl, .refl _⟩, trivial⟩⟩ trivial (by decide)) ?_
  refine good_seq fun K3 hK3 => ?_
  refine good_seq fun K4 hK4 => ?_
  refine good_region ?_
  refine g_op rfl (ValOk.op (v_move rfl rfl ?_)) 
  refine g_op rfl (ValOk.op (v_bin rfl rfl rfl rfl ?_)) 
  refine g_nil ?_
  refine hK4 _ ?_
  refine Good.le (σ' := ⟨12, [(1, _), (4, _), (10, _)], []⟩) (le_w [] rfl ⟨⟨_, rfl, .refl _⟩, ⟨⟨_, rfl, .refl _⟩, ⟨⟨_, rfl, .refl _⟩, trivial⟩⟩⟩ trivial (by decide)) ?_
  refine good_cond rfl (fun hc1 => ?_) (fun hc1 => ?_)
  · replace h := ifT h (dT hc1)
    refine good_seq fun K5 hK5 => ?_
    refine good_region ?_
    refine g_op rfl (ValOk.op (v_assign rfl rfl ?_)) 
    refine g_nil ?_
    refine hK5 _ ?_
    refine Good.le (σ' := ⟨12, [(1, _), (4, _)], []⟩) (le_w [] rfl ⟨⟨_, rfl, .refl _⟩, ⟨⟨_, rfl, .refl _⟩, trivial⟩⟩ trivial (by decide)) ?_
    refine Good.le (σ' := ⟨12, [(4, .int .i64 (-1))], []⟩) (le_w [] rfl ⟨⟨_, rfl, .refl _⟩, trivial⟩ trivial (by decide)) ?_
    refine good_ret ?_
    obtain rfl := Option.some.inj h
    refine thenQ_ret ?_
    exact endQ_ret (h' := []) [] (.tmp rfl (.nil)) trivial (by decide) ⟨rfl, rfl⟩
  · replace h := ifF h (dF hc1)
    refine good_skip ?_
    refine hK3 _ ?_
    refine Good.le (σ' := ⟨12, [(1, _), (4, _)], []⟩) (le_w [] rfl ⟨⟨_, rfl, .refl _⟩, ⟨⟨_, rfl, .refl _⟩, trivial⟩⟩ trivial (by decide)) ?_
    refine good_seq fun K6 hK6 => ?_
    refine good_region ?_
    refine g_op rfl (ValOk.op (v_move rfl rfl ?_)) 
    refine g_op rfl (ValOk.op (v_assign rfl rfl ?_)) 
    refine g_nil ?_
    refine hK6 _ ?_
    refine Good.le (σ' := ⟨12, [(4, _)], []⟩) (le_w [] rfl ⟨⟨_, rfl, .refl _⟩, trivial⟩ trivial (by decide)) ?_
    refine Good.le (σ' := ⟨12, [(4, .int .i64 y1)], []⟩) (le_w [] rfl ⟨⟨_, rfl, .refl _⟩, trivial⟩ trivial (by decide)) ?_
    refine good_ret ?_
    obtain rfl := Option.some.inj h
    exact endQ_ret (h' := []) [] (.tmp rfl (.nil)) trivial (by decide) ⟨rfl, rfl⟩
def m_spec_l1Word_l1 : Nat → Bs → Int → Option (Lp Int Bs)
  | 0, _, _ => none
  | k + 1, a0, x1 =>
    (if x1 < (a0.length : Int) then
        if (0 : Int) ≤ x1 ∧ x1 < (a0.length : Int) then
          (m_spec_l1Letter (byt a0 x1)).bind fun y1 =>
          if y1 = true then
            some (Lp.go true)
          else
            if (0 : Int) ≤ x1 ∧ x1 < (a0.length : Int) then
              (m_spec_l1Figure (byt a0 x1)).bind fun y2 =>
              some (Lp.go y2)
            else none
        else none
      else
        some (Lp.go false)).bind fun o2 =>
    o2.then fun s2 =>
    if s2 = true then
      m_spec_l1Word_l1 k a0 (IntKind.wrap .i64 (x1 + 1))
    else
      some (Lp.go x1)
def m_spec_l1Word (k : Nat) (a0 : Bs) : Option Bs :=
  (m_spec_l1Word_l1 k a0 0).bind fun o1 =>
  o1.then fun s1 =>
    if (0 : Int) ≤ 0 ∧ 0 ≤ s1 ∧ s1 ≤ (a0.length : Int) then
      some (sub a0 0 s1)
    else none
theorem m_spec_l1Word_ok (k : Nat) : ∀ (a0 : Bs) (r : Bs), m_spec_l1Word k a0 = some r → Does Try.prog 79 [.str a0] [] (ret (.str r)) := by
  intro a0 r h
  rw [m_spec_l1Word] at h
  refine does_of_good tabOk Try.func79 rfl (by decide +kernel) (Nat.le_of_ble_eq_true rfl) fun c => ?_
  refine Good.le (σ' := ⟨25, [(0, .str a0)], []⟩) (Le.refl _) ?_
  refine good_seq fun K1 hK1 => ?_
  refine good_region ?_
  refine g_op rfl (ValOk.op (v_assign rfl rfl ?_)) 
  refine g_nil ?_
  refine hK1 _ ?_
  refine good_seq fun K2 hK2 => ?_
  refine good_region ?_
  refine g_op rfl (ValOk.op (v_assign rfl rfl ?_)) 
  refine g_nil ?_
  refine hK2 _ ?_
  refine good_seq fun K3 hK3 => ?_
  obtain ⟨o1, ho1, hJ1⟩ := bnd h
  have hw1 : ∀ (s1 : Int), o1 = Lp.go s1 → ∀ σ', Le σ' ⟨25, [(0, .str a0), (2, .str []), (3, .int .i64 s1)], []⟩ → K3 σ' := by
    intro s1 e1 σ' hle1
    subst e1
    refine hK3 _ (Good.le hle1 ?_)
    replace h := hJ1
    refine good_seq fun K4 hK4 => ?_
    refine good_region ?_
    refine g_op rfl (ValOk.op (v_move rfl rfl ?_)) 
    refine g_op rfl (ValOk.op (v_move rfl rfl ?_)) 
    obtain ⟨hb1, h⟩ := ifS h
    refine g_op rfl (ValOk.op (v_sliceSM tabOk rfl rfl rfl rfl tkind9 hb1 rfl ?_)) 
    refine g_op rfl (ValOk.op (v_assign rfl rfl ?_)) 
    refine g_nil ?_
    refine hK4 _ ?_
    refine Good.le (σ' := ⟨25, [(2, _)], []⟩) (le_w [] rfl ⟨⟨_, rfl, .refl _⟩, trivial⟩ trivial (by decide)) ?_
    refine Good.le (σ' := ⟨25, [(2, .str (sub a0 0 s1))], []⟩) (le_w [] rfl ⟨⟨_, rfl, .refl _⟩, trivial⟩ trivial (by decide)) ?_
    refine good_ret ?_
    obtain rfl := Option.some.inj h
    exact endQ_ret (h' := []) [] (.tmp rfl (.nil)) trivial (by decide) ⟨rfl, rfl⟩
  replace h := ho1
  refine good_block ?_
  refine good_loopf (fun p : Int => ⟨25, [(0, .str a0), (2, .str []), (3, .int .i64 p)], []⟩) (fun m p => m_spec_l1Word_l1 m a0 p = some o1) k (0) (le_w [] rfl ⟨⟨_, rfl, .refl _⟩, ⟨⟨_, rfl, .refl _⟩, ⟨⟨_, rfl, .refl _⟩, trivial⟩⟩⟩ trivial (by decide)) h ?_
  rintro m1 x1 h
  replace h : m_spec_l1Word_l1 m1 a0 x1 = some o1 := h
  refine Good.le (σ' := ⟨25, [(0, .str a0), (2, .str []), (3, .int .i64 x1)], []⟩) (Le.refl _) ?_
  obtain ⟨m1, rfl⟩ : ∃ m', m1 = m' + 1 := by cases m1 with | zero => (rw [m_spec_l1Word_l1] at h; cases h) | succ m' => exact ⟨m', rfl⟩
  rw [m_spec_l1Word_l1] at h
  refine good_seq fun K5 hK5 => ?_
  refine good_seq fun K6 hK6 => ?_
  obtain ⟨o2, ho2, hJ2⟩ := bnd h
  have hw2 : ∀ (s2 : Bool), o2 = Lp.go s2 → ∀ σ', Le σ' ⟨25, [(0, .str a0), (2, .str []), (3, .int .i64 x1), (19, .bool s2)], []⟩ → K6 σ' := by
    intro s2 e2 σ' hle2
    subst e2
    refine hK6 _ (Good.le hle2 ?_)
    replace h := hJ2
    refine good_cond rfl (fun hc1 => ?_) (fun hc1 => ?_)
    · replace h := ifT h hc1
      refine good_skip ?_
      refine hK5 _ ?_
      refine Good.le (σ' := ⟨25, [(0, _), (2, _), (3, _)], []⟩) (le_w [] rfl ⟨⟨_, rfl, .refl _⟩, ⟨⟨_, rfl, .refl _⟩, ⟨⟨_, rfl, .refl _⟩, trivial⟩⟩⟩ trivial (by decide)) ?_
      refine good_block ?_
      refine good_region ?_
      refine g_op rfl (ValOk.op (v_move rfl rfl ?_)) 
      refine g_op rfl (ValOk.op (v_bin rfl rfl rfl rfl ?_)) 
      refine g_op rfl (ValOk.op (v_assign rfl rfl ?_)) 
      refine g_nil ?_
      exact round_mk m1 (IntKind.wrap .i64 (x1 + 1)) (Nat.lt_succ_self _) h (le_w [] rfl ⟨⟨_, rfl, .refl _⟩, ⟨⟨_, rfl, .refl _⟩, ⟨⟨_, rfl, .refl _⟩, trivial⟩⟩⟩ trivial (by decide))
    · replace h := bF h hc1
      refine good_exit ?_
      exact hw1 x1 (Option.some.inj h).symm _ (le_w [] rfl ⟨⟨_, rfl, .refl _⟩, ⟨⟨_, rfl, .refl _⟩, ⟨⟨_, rfl, .refl _⟩, trivial⟩⟩⟩ trivial (by decide))
  replace h := ho2
  refine good_region ?_
  refine g_op rfl (ValOk.op (v_move rfl rfl ?_)) 
  refine g_op rfl (ValOk.op (v_move rfl rfl ?_)) 
  refine g_op rfl (ValOk.op (v_lenS tabOk rfl rfl tkind9 rfl ?_)) 
  refine g_op rfl (ValOk.op (v_bin rfl rfl rfl rfl ?_)) 
  refine g_op rfl (ValOk.op (v_move rfl rfl ?_)) 
  rcases bsplit ((decide (x1 < (a0.length : Int)))) with hg1 | hg1
  · replace h := ifT h (dT hg1)
    refine g_yes rfl rfl hg1 (ValOk.op (v_move rfl rfl ?_)) 
    refine g_yes rfl rfl hg1 (ValOk.op (v_move rfl rfl ?_)) 
    obtain ⟨hb2, h⟩ := ifS h
    refine g_yes rfl rfl hg1 (ValOk.op (v_indexM tabOk rfl rfl tkind9 hb2 rfl ?_)) 
    obtain ⟨y1, hy1, h⟩ := bnd h
    refine g_yes rfl rfl hg1 (o_callR [] [] (core_value rfl rfl) (m_spec_l1Letter_ok (byt a0 x1) _ hy1) trivial (.cons (.refl _) (.nil)) (.inl rfl) rfl ?_)
    refine g_yes rfl rfl hg1 (ValOk.op (v_move rfl rfl ?_)) 
    rcases bsplit (y1) with hg2 | hg2
    · replace h := ifT h hg2
      refine g_no rfl rfl hg2 rfl ?_
      refine g_no rfl rfl hg2 rfl ?_
      refine g_no rfl rfl hg2 rfl ?_
      refine g_no rfl rfl hg2 rfl ?_
      refine g_yes rfl rfl hg1 (ValOk.op (v_pickT rfl hg2 rfl rfl ?_)) 
      refine g_op rfl (ValOk.op (v_pickT rfl hg1 rfl rfl ?_)) 
      refine g_nil ?_
      exact hw2 true (Option.some.inj h).symm _ (le_w [] rfl ⟨⟨_, rfl, .refl _⟩, ⟨⟨_, rfl, .refl _⟩, ⟨⟨_, rfl, .refl _⟩, ⟨⟨_, rfl, .refl _⟩, trivial⟩⟩⟩⟩ trivial (by decide))
    · replace h := bF h hg2
      refine g_yes rfl rfl hg2 (ValOk.op (v_move rfl rfl ?_)) 
      refine g_yes rfl rfl hg2 (ValOk.op (v_move rfl rfl ?_)) 
      obtain ⟨hb3, h⟩ := ifS h
      refine g_yes rfl rfl hg2 (ValOk.op (v_indexM tabOk rfl rfl tkind9 hb3 rfl ?_)) 
      obtain ⟨y2, hy2, h⟩ := bnd h
      refine g_yes rfl rfl hg2 (o_callR [] [] (core_value rfl rfl) (m_spec_l1Figure_ok (byt a0 x1) _ hy2) trivial (.cons (.refl _) (.nil)) (.inl rfl) rfl ?_)
      refine g_yes rfl rfl hg1 (ValOk.op (v_pickF rfl hg2 rfl rfl ?_)) 
      refine g_op rfl (ValOk.op (v_pickT rfl hg1 rfl rfl ?_)) 
      refine g_nil ?_
      exact hw2 y2 (Option.some.inj h).symm _ (le_w [] rfl ⟨⟨_, rfl, .refl _⟩, ⟨⟨_, rfl, .refl _⟩, ⟨⟨_, rfl, .refl _⟩, ⟨⟨_, rfl, .refl _⟩, trivial⟩⟩⟩⟩ trivial (by decide))
  · replace h := ifF h (dF hg1)
    refine g_no rfl rfl hg1 rfl ?_
    refine g_no rfl rfl hg1 rfl ?_
    refine g_no rfl rfl hg1 rfl ?_
    refine g_no rfl rfl hg1 rfl ?_
    refine g_no rfl rfl hg1 rfl ?_
    refine g_und rfl rfl rfl ?_
    refine g_und rfl rfl rfl ?_
    refine g_und rfl rfl rfl ?_
    refine g_und rfl rfl rfl ?_
    refine g_no rfl rfl hg1 rfl ?_
    refine g_op rfl (ValOk.op (v_pickF rfl hg1 rfl rfl ?_)) 
    refine g_nil ?_
    exact hw2 false (Option.some.inj h).symm _ (le_w [] rfl ⟨⟨_, rfl, .refl _⟩, ⟨⟨_, rfl, .refl _⟩, ⟨⟨_, rfl, .refl _⟩, ⟨⟨_, rfl, .refl _⟩, trivial⟩⟩⟩⟩ trivial (by decide))
def m_spec_l2Get : Nat → Bs → Int → Option (Typ × Bs × Bool)
  | 0, _, _ => none
  | k + 1, a0, a1 =>
    ((if 0 < (a0.length : Int) then
          if (0 : Int) ≤ 0 ∧ 0 < (a0.length : Int) then
            if (byt a0 0) = 91 then
              some (Lp.go (decide (1 < a1)))
            else
              some (Lp.go false)
          else none
        else
          some (Lp.go false)).bind fun o4 =>
      o4.then fun s4 =>
    if s4 = true then
      if (0 : Int) ≤ 1 ∧ 1 ≤ (a0.length : Int) ∧ (a0.length : Int) ≤ (a0.length : Int) then
        (m_spec_l2Get k (sub a0 1 (a0.length : Int)) (IntKind.wrap .i64 (a1 - 1))).bind fun y1 =>
        (if y1.2.2 = true then
            if (y1.2.1.length : Int) = 0 then
              some (Lp.go true)
            else
              if (0 : Int) ≤ 0 ∧ 0 < (y1.2.1.length : Int) then
                some (Lp.go (!(decide ((byt y1.2.1 0) = 93))))
              else none
          else
            some (Lp.go true)).bind fun o5 =>
        o5.then fun s5 =>
    if s5 = true then
      (some ((Typ.mk ([] : Bs) ([] : List Typ) false), [], false)).bind fun z =>
      some (Lp.ret z)
    else
      if (0 : Int) ≤ 1 ∧ 1 ≤ (y1.2.1.length : Int) ∧ (y1.2.1.length : Int) ≤ (y1.2.1.length : Int) then
        some (Lp.go (sub y1.2.1 1 (y1.2.1.length : Int), ([] : Bs), [y1.1]))
      else none
      else none
    else
      (m_spec_l1Word k a0).bind fun y2 =>
      if (0 : Int) ≤ (y2.length : Int) ∧ (y2.length : Int) ≤ (a0.length : Int) ∧ (a0.length : Int) ≤ (a0.length : Int) then
        some (Lp.go (sub a0 (y2.length : Int) (a0.length : Int), y2, []))
      else none).bind fun o1 =>
    o1.then fun s1 =>
    ((if 0 < (s1.1.length : Int) then
          if (0 : Int) ≤ 0 ∧ 0 < (s1.1.length : Int) then
            some (Lp.go (decide ((byt s1.1 0) = 33)))
          else none
        else
          some (Lp.go false)).bind fun o3 =>
      o3.then fun s3 =>
    if s3 = true then
      if (0 : Int) ≤ 1 ∧ 1 ≤ (s1.1.length : Int) ∧ (s1.1.length : Int) ≤ (s1.1.length : Int) then
        some (Lp.go (sub s1.1 1 (s1.1.length : Int), true))
      else none
    else
      some (Lp.go (s1.1, false))).bind fun o2 =>
    o2.then fun s2 =>
    some ((Typ.mk s1.2.1 s1.2.2 s2.2), s2.1, true)
def P_m_spec_l2Get (k : Nat) : Prop := ∀ (a0 : Bs) (a1 : Int) (r : (Typ × Bs × Bool)), m_spec_l2Get k a0 a1 = some r → Does Try.prog 59 [.str a0, .int .i64 a1] [] (fun q h' => ∃ u0 : Value, q = .tup [.agg [.str r.1.name, .hd 100 u0, .bool r.1.must], .str r.2.1, .bool r.2.2] ∧ h' = [(100, (u0, .osl 48 3 (r.1.of_.map encOTyp)))])
theorem m_spec_l2Get_step (k : Nat) (ih : ∀ m, m < k → P_m_spec_l2Get m) : P_m_spec_l2Get k := by
  intro a0 a1 r h
  obtain ⟨k, rfl⟩ : ∃ k', k = k' + 1 := by cases k with | zero => (rw [m_spec_l2Get] at h; cases h) | succ k' => exact ⟨k', rfl⟩
  rw [m_spec_l2Get] at h
  refine does_of_good tabOk Try.func59 rfl (by decide +kernel) (Nat.le_of_ble_eq_true rfl) fun c => ?_
  refine Good.le (σ' := ⟨72, [(0, .str a0), (1, .int .i64 a1)], []⟩) (Le.refl _) ?_
  refine good_seq fun K1 hK1 => ?_
  refine good_region ?_
  refine g_op rfl (o_alloc (k := 14) tabOk tzero48 rfl rfl ?_)
  intro b1
  refine g_op rfl (ValOk.op (v_assign rfl rfl ?_)) 
  refine g_op rfl (ValOk.op (v_assign rfl rfl ?_)) 
  refine g_nil ?_
  refine hK1 _ ?_
  refine good_seq fun K2 hK2 => ?_
  refine good_region ?_
  refine g_op rfl (ValOk.op (v_build tabOk (cs := [.str ([] : Bs), .nil, .bool false]) tzero48 tsok48 rfl rfl rfl ?_)) 
  refine g_op rfl (o_alloc (k := 17) tabOk tzero48 rfl rfl ?_)
  intro b2
  refine g_op rfl (o_storeP tabOk (cs' := [.str ([] : Bs), .nil, .bool false]) rfl rfl tsize48 rfl rfl rfl (Nat.le_of_ble_eq_true rfl) rfl rfl rfl ?_)
  refine g_nil ?_
  refine hK2 _ ?_
  refine Good.le (σ' := ⟨72, [(0, _), (1, _), (4, _), (5, _), (6, _), (7, _)], [(14, (_, _)), (17, (_, _))]⟩) (le_w [some 14, some 17] rfl ⟨⟨_, rfl, .refl _⟩, ⟨⟨_, rfl, .refl _⟩, ⟨⟨_, rfl, .refl _⟩, ⟨⟨_, rfl, .refl _⟩, ⟨⟨_, rfl, .refl _⟩, ⟨⟨_, rfl, .refl _⟩, trivial⟩⟩⟩⟩⟩⟩ ⟨⟨_, rfl, .refl _⟩, ⟨⟨_, rfl, .refl _⟩, trivial⟩⟩ (by decide)) ?_
  refine good_seq fun K3 hK3 => ?_
  obtain ⟨o1, ho1, hJ1⟩ := bnd h
  have hw1 : ∀ (s1 : (Bs × Bs × (List Typ))) (w1 : Value), o1 = Lp.go s1 → ∀ σ', Le σ' ⟨72, [(0, .str s1.1), (4, .ptr 14 b1 0), (5, .str []), (6, .bool false), (7, .ptr 17 b2 0)], [(14, ((.pointer (some ⟨b1, 0, none⟩)), .optr 48 [.str ([] : Bs), .nil, .bool false])), (17, ((.pointer (some ⟨b2, 0, none⟩)), .optr 48 [.str s1.2.1, .hd 5203 w1, .bool false])), (5203, (w1, .osl 48 3 (s1.2.2.map encOTyp)))]⟩ → K3 σ' := by
    intro s1 w1 e1 σ' hle1
    subst e1
    refine hK3 _ (Good.le hle1 ?_)
    replace h := hJ1
    refine good_seq fun K4 hK4 => ?_
    obtain ⟨o2, ho2, hJ2⟩ := bnd h
    have hw2 : ∀ (s2 : (Bs × Bool)), o2 = Lp.go s2 → ∀ σ', Le σ' ⟨72, [(0, .str s2.1), (4, .ptr 14 b1 0), (5, .str []), (6, .bool false), (7, .ptr 17 b2 0)], [(14, ((.pointer (some ⟨b1, 0, none⟩)), .optr 48 [.str ([] : Bs), .nil, .bool false])), (17, ((.pointer (some ⟨b2, 0, none⟩)), .optr 48 [.str s1.2.1, .hd 5203 w1, .bool s2.2])), (5203, (w1, .osl 48 3 (s1.2.2.map encOTyp)))]⟩ → K4 σ' := by
      intro s2 e2 σ' hle2
      subst e2
      refine hK4 _ (Good.le hle2 ?_)
      replace h := hJ2
      refine good_seq fun K5 hK5 => ?_
      refine good_region ?_
      refine g_op rfl (ValOk.op (v_loadP tabOk rfl rfl tsize48 tagg48 rfl rfl rfl rfl ?_)) 
      refine g_op rfl (ValOk.op (v_move rfl rfl ?_)) 
      refine g_op rfl (o_storeP tabOk (cs' := [.str s1.2.1, .hd 5203 w1, .bool s2.2]) rfl rfl tsize48 rfl rfl rfl (Nat.le_of_ble_eq_true rfl) rfl rfl rfl ?_)
      refine g_op rfl (ValOk.op (v_assign rfl rfl ?_)) 
      refine g_op rfl (ValOk.op (v_assign rfl rfl ?_)) 
      refine g_nil ?_
      refine hK5 _ ?_
      refine Good.le (σ' := ⟨72, [(4, _), (5, _), (6, _)], [(14, (_, _)), (5203, (_, _))]⟩) (le_w [some 14, some 5203] rfl ⟨⟨_, rfl, .refl _⟩, ⟨⟨_, rfl, .refl _⟩, ⟨⟨_, rfl, .refl _⟩, trivial⟩⟩⟩ ⟨⟨_, rfl, .refl _⟩, ⟨⟨_, rfl, .refl _⟩, trivial⟩⟩ (by decide)) ?_
      refine Good.le (σ' := ⟨72, [(4, .ptr 14 b1 0), (5, .str s2.1), (6, .bool true)], [(100, (w1, .osl 48 3 (s1.2.2.map encOTyp))), (14, ((.pointer (some ⟨b1, 0, none⟩)), .optr 48 [.str s1.2.1, .hd 100 w1, .bool s2.2]))]⟩) (le_w [some 5203, some 14] rfl ⟨⟨_, rfl, .refl _⟩, ⟨⟨_, rfl, .refl _⟩, ⟨⟨_, rfl, .refl _⟩, trivial⟩⟩⟩ ⟨⟨_, rfl, .refl _⟩, ⟨⟨_, rfl, .optr (.cons (.refl _) (.cons (.hd _ _ _) (.cons (.refl _) (.nil))))⟩, trivial⟩⟩ (by decide)) ?_
      refine good_ret ?_
      obtain rfl := Option.some.inj h
      exact endQ_ret (h' := [(100, (_, _))]) [some 100] (.cell rfl rfl tsize48 tagg48 rfl rfl rfl (.tmp rfl (.tmp rfl (.nil)))) ⟨⟨_, rfl, .refl _⟩, trivial⟩ (by decide) ⟨w1, rfl, rfl⟩
    replace h := ho2
    refine good_seq fun K6 hK6 => ?_
    obtain ⟨o3, ho3, hJ3⟩ := bnd h
    have hw3 : ∀ (s3 : Bool), o3 = Lp.go s3 → ∀ σ', Le σ' ⟨72, [(0, .str s1.1), (4, .ptr 14 b1 0), (5, .str []), (6, .bool false), (7, .ptr 17 b2 0), (66, .bool s3)], [(14, ((.pointer (some ⟨b1, 0, none⟩)), .optr 48 [.str ([] : Bs), .nil, .bool false])), (17, ((.pointer (some ⟨b2, 0, none⟩)), .optr 48 [.str s1.2.1, .hd 5203 w1, .bool false])), (5203, (w1, .osl 48 3 (s1.2.2.map encOTyp)))]⟩ → K6 σ' := by
      intro s3 e3 σ' hle3
      subst e3
      refine hK6 _ (Good.le hle3 ?_)
      replace h := hJ3
      refine good_cond rfl (fun hc1 => ?_) (fun hc1 => ?_)
      · replace h := ifT h hc1
        refine good_seq fun K7 hK7 => ?_
        refine good_region ?_
        refine g_op rfl (ValOk.op (v_fieldP tabOk rfl tfoff48_2 rfl ?_)) 
        refine g_op rfl (o_storeP tabOk (cs' := [.str s1.2.1, .hd 5203 w1, .bool true]) rfl rfl tsize4 rfl rfl rfl (Nat.le_of_ble_eq_true rfl) rfl rfl rfl ?_)
        refine g_nil ?_
        refine hK7 _ ?_
        refine Good.le (σ' := ⟨72, [(0, _), (4, _), (5, _), (6, _), (7, _)], [(14, (_, _)), (17, (_, _)), (5203, (_, _))]⟩) (le_w [some 14, some 17, some 5203] rfl ⟨⟨_, rfl, .refl _⟩, ⟨⟨_, rfl, .refl _⟩, ⟨⟨_, rfl, .refl _⟩, ⟨⟨_, rfl, .refl _⟩, ⟨⟨_, rfl, .refl _⟩, trivial⟩⟩⟩⟩⟩ ⟨⟨_, rfl, .refl _⟩, ⟨⟨_, rfl, .refl _⟩, ⟨⟨_, rfl, .refl _⟩, trivial⟩⟩⟩ (by decide)) ?_
        refine good_region ?_
        refine g_op rfl (ValOk.op (v_move rfl rfl ?_)) 
        obtain ⟨hb1, h⟩ := ifS h
        refine g_op rfl (ValOk.op (v_sliceSM tabOk rfl rfl rfl rfl tkind9 hb1 rfl ?_)) 
        refine g_op rfl (ValOk.op (v_assign rfl rfl ?_)) 
        refine g_nil ?_
        exact hw2 (sub s1.1 1 (s1.1.length : Int), true) (Option.some.inj h).symm _ (le_w [some 14, some 17, some 5203] rfl ⟨⟨_, rfl, .refl _⟩, ⟨⟨_, rfl, .refl _⟩, ⟨⟨_, rfl, .refl _⟩, ⟨⟨_, rfl, .refl _⟩, ⟨⟨_, rfl, .refl _⟩, trivial⟩⟩⟩⟩⟩ ⟨⟨_, rfl, .refl _⟩, ⟨⟨_, rfl, .refl _⟩, ⟨⟨_, rfl, .refl _⟩, trivial⟩⟩⟩ (by decide))
      · replace h := bF h hc1
        refine good_skip ?_
        exact hw2 (s1.1, false) (Option.some.inj h).symm _ (le_w [some 14, some 17, some 5203] rfl ⟨⟨_, rfl, .refl _⟩, ⟨⟨_, rfl, .refl _⟩, ⟨⟨_, rfl, .refl _⟩, ⟨⟨_, rfl, .refl _⟩, ⟨⟨_, rfl, .refl _⟩, trivial⟩⟩⟩⟩⟩ ⟨⟨_, rfl, .refl _⟩, ⟨⟨_, rfl, .refl _⟩, ⟨⟨_, rfl, .refl _⟩, trivial⟩⟩⟩ (by decide))
    replace h := ho3
    refine good_region ?_
    refine g_op rfl (ValOk.op (v_move rfl rfl ?_)) 
    refine g_op rfl (ValOk.op (v_lenS tabOk rfl rfl tkind9 rfl ?_)) 
    refine g_op rfl (ValOk.op (v_bin rfl rfl rfl rfl ?_)) 
    refine g_op rfl (ValOk.op (v_move rfl rfl ?_)) 
    rcases bsplit ((decide (0 < (s1.1.length : Int)))) with hg1 | hg1
    · replace h := ifT h (dT hg1)
      refine g_yes rfl rfl hg1 (ValOk.op (v_move rfl rfl ?_)) 
      obtain ⟨hb2, h⟩ := ifS h
      refine g_yes rfl rfl hg1 (ValOk.op (v_indexM tabOk rfl rfl tkind9 hb2 rfl ?_)) 
      refine g_yes rfl rfl hg1 (ValOk.op (v_bin rfl rfl rfl rfl ?_)) 
      refine g_op rfl (ValOk.op (v_pickT rfl hg1 rfl rfl ?_)) 
      refine g_nil ?_
      exact hw3 (decide ((byt s1.1 0) = 33)) (Option.some.inj h).symm _ (le_w [some 14, some 17, some 5203] rfl ⟨⟨_, rfl, .refl _⟩, ⟨⟨_, rfl, .refl _⟩, ⟨⟨_, rfl, .refl _⟩, ⟨⟨_, rfl, .refl _⟩, ⟨⟨_, rfl, .refl _⟩, ⟨⟨_, rfl, .refl _⟩, trivial⟩⟩⟩⟩⟩⟩ ⟨⟨_, rfl, .refl _⟩, ⟨⟨_, rfl, .refl _⟩, ⟨⟨_, rfl, .refl _⟩, trivial⟩⟩⟩ (by decide))
    · replace h := ifF h (dF hg1)
      refine g_no rfl rfl hg1 rfl ?_
      refine g_no rfl rfl hg1 rfl ?_
      refine g_no rfl rfl hg1 rfl ?_
      refine g_op rfl (ValOk.op (v_pickF rfl hg1 rfl rfl ?_)) 
      refine g_nil ?_
      exact hw3 false (Option.some.inj h).symm _ (le_w [some 14, some 17, some 5203] rfl ⟨⟨_, rfl, .refl _⟩, ⟨⟨_, rfl, .refl _⟩, ⟨⟨_, rfl, .refl _⟩, ⟨⟨_, rfl, .refl _⟩, ⟨⟨_, rfl, .refl _⟩, ⟨⟨_, rfl, .refl _⟩, trivial⟩⟩⟩⟩⟩⟩ ⟨⟨_, rfl, .refl _⟩, ⟨⟨_, rfl, .refl _⟩, ⟨⟨_, rfl, .refl _⟩, trivial⟩⟩⟩ (by decide))
  replace h := ho1
  refine good_seq fun K8 hK8 => ?_
  obtain ⟨o4, ho4, hJ4⟩ := bnd h
  have hw4 : ∀ (s4 : Bool), o4 = Lp.go s4 → ∀ σ', Le σ' ⟨72, [(0, .str a0), (1, .int .i64 a1), (4, .ptr 14 b1 0), (5, .str []), (6, .bool false), (7, .ptr 17 b2 0), (23, .bool s4)], [(14, ((.pointer (some ⟨b1, 0, none⟩)), .optr 48 [.str ([] : Bs), .nil, .bool false])), (17, ((.pointer (some ⟨b2, 0, none⟩)), .optr 48 [.str ([] : Bs), .nil, .bool false]))]⟩ → K8 σ' := by
    intro s4 e4 σ' hle4
    subst e4
    refine hK8 _ (Good.le hle4 ?_)
    replace h := hJ4
    refine good_cond rfl (fun hc2 => ?_) (fun hc2 => ?_)
    · replace h := ifT h hc2
      refine good_seq fun K9 hK9 => ?_
      refine good_region ?_
      refine g_op rfl (ValOk.op (v_move rfl rfl ?_)) 
      obtain ⟨hb3, h⟩ := ifS h
      refine g_op rfl (ValOk.op (v_sliceSM tabOk rfl rfl rfl rfl tkind9 hb3 rfl ?_)) 
      refine g_op rfl (ValOk.op (v_move rfl rfl ?_)) 
      refine g_op rfl (ValOk.op (v_bin rfl rfl rfl rfl ?_)) 
      obtain ⟨y1, hy1, h⟩ := bnd h
      refine g_op rfl (o_callD [] [] [] (core_value rfl rfl) ((ih k (by omega)) (sub a0 1 (a0.length : Int)) (IntKind.wrap .i64 (a1 - 1)) _ hy1) trivial (.cons (.refl _) (.cons (.refl _) (.nil))) trivial rfl rfl rfl ?_)
      rintro _ _ ⟨w2, rfl, rfl⟩
      refine ⟨.tup [.agg [.str y1.1.name, .hd 3002 w2, .bool y1.1.must], .str y1.2.1, .bool y1.2.2], [(3002, _)], .tup (.cons (.agg (.cons (.refl _) (.cons (.hd _ _ _) (.cons (.refl _) (.nil))))) (.cons (.refl _) (.cons (.refl _) (.nil)))), rfl, rfl, rfl, rfl, .inl rfl, ?_⟩
      refine g_op rfl (ValOk.op (v_move rfl rfl ?_)) 
      refine g_op rfl (ValOk.op (v_extract rfl rfl rfl ?_)) 
      refine g_op rfl (ValOk.op (v_extract rfl rfl rfl ?_)) 
      refine g_op rfl (ValOk.op (v_extract rfl rfl rfl ?_)) 
      refine g_op rfl (o_alloc (k := 18) tabOk tzero48 rfl rfl ?_)
      intro b3
      refine g_op rfl (o_storeP tabOk (cs' := [.str y1.1.name, .hd 3002 w2, .bool y1.1.must]) rfl rfl tsize48 rfl rfl rfl (Nat.le_of_ble_eq_true rfl) rfl rfl rfl ?_)
      refine g_op rfl (ValOk.op (v_assign rfl rfl ?_)) 
      refine g_op rfl (ValOk.op (v_assign rfl rfl ?_)) 
      refine g_nil ?_
      refine hK9 _ ?_
      refine Good.le (σ' := ⟨72, [(0, _), (4, _), (5, _), (6, _), (7, _), (8, _), (9, _), (10, _)], [(14, (_, _)), (17, (_, _)), (18, (_, _)), (3002, (_, _))]⟩) (le_w [some 14, some 17, some 18, some 3002] rfl ⟨⟨_, rfl, .refl _⟩, ⟨⟨_, rfl, .refl _⟩, ⟨⟨_, rfl, .refl _⟩, ⟨⟨_, rfl, .refl _⟩, ⟨⟨_, rfl, .refl _⟩, ⟨⟨_, rfl, .refl _⟩, ⟨⟨_, rfl, .refl _⟩, ⟨⟨_, rfl, .refl _⟩, trivial⟩⟩⟩⟩⟩⟩⟩⟩ ⟨⟨_, rfl, .refl _⟩, ⟨⟨_, rfl, .refl _⟩, ⟨⟨_, rfl, .refl _⟩, ⟨⟨_, rfl, .refl _⟩, trivial⟩⟩⟩⟩ (by decide)) ?_
      refine good_seq fun K10 hK10 => ?_
      refine good_seq fun K11 hK11 => ?_
      obtain ⟨o5, ho5, hJ5⟩ := bnd h
      have hw5 : ∀ (s5 : Bool), o5 = Lp.go s5 → ∀ σ', Le σ' ⟨72, [(0, .str a0), (4, .ptr 14 b1 0), (5, .str []), (6, .bool false), (7, .ptr 17 b2 0), (8, .ptr 18 b3 0), (9, .str y1.2.1), (44, .bool s5)], [(14, ((.pointer (some ⟨b1, 0, none⟩)), .optr 48 [.str ([] : Bs), .nil, .bool false])), (17, ((.pointer (some ⟨b2, 0, none⟩)), .optr 48 [.str ([] : Bs), .nil, .bool false])), (18, ((.pointer (some ⟨b3, 0, none⟩)), .optr 48 [.str y1.1.name, .hd 3002 w2, .bool y1.1.must])), (3002, (w2, .osl 48 3 (y1.1.of_.map encOTyp)))]⟩ → K11 σ' := by
        intro s5 e5 σ' hle5
        subst e5
        refine hK11 _ (Good.le hle5 ?_)
        replace h := hJ5
        refine good_cond rfl (fun hc3 => ?_) (fun hc3 => ?_)
        · replace h := ifT h hc3
          refine good_seq fun K12 hK12 => ?_
          refine good_region ?_
          refine g_op rfl (ValOk.op (v_loadP tabOk rfl rfl tsize48 tagg48 rfl rfl rfl rfl ?_)) 
          refine g_op rfl (o_storeP tabOk (cs' := [.str ([] : Bs), .nil, .bool false]) rfl rfl tsize48 rfl rfl rfl (Nat.le_of_ble_eq_true rfl) rfl rfl rfl ?_)
          refine g_op rfl (ValOk.op (v_assign rfl rfl ?_)) 
          refine g_op rfl (ValOk.op (v_assign rfl rfl ?_)) 
          refine g_nil ?_
          refine hK12 _ ?_
          refine Good.le (σ' := ⟨72, [(0, _), (4, _), (5, _), (6, _), (7, _), (8, _), (9, _)], [(14, (_, _)), (17, (_, _)), (18, (_, _)), (3002, (_, _))]⟩) (le_w [some 14, some 17, some 18, some 3002] rfl ⟨⟨_, rfl, .refl _⟩, ⟨⟨_, rfl, .refl _⟩, ⟨⟨_, rfl, .refl _⟩, ⟨⟨_, rfl, .refl _⟩, ⟨⟨_, rfl, .refl _⟩, ⟨⟨_, rfl, .refl _⟩, ⟨⟨_, rfl, .refl _⟩, trivial⟩⟩⟩⟩⟩⟩⟩ ⟨⟨_, rfl, .refl _⟩, ⟨⟨_, rfl, .refl _⟩, ⟨⟨_, rfl, .refl _⟩, ⟨⟨_, rfl, .refl _⟩, trivial⟩⟩⟩⟩ (by decide)) ?_
          refine Good.le (σ' := ⟨72, [(4, .ptr 14 b1 0), (5, .str []), (6, .bool false)], [(100, (nilV, .osl 48 3 (([] : List Typ).map encOTyp))), (14, ((.pointer (some ⟨b1, 0, none⟩)), .optr 48 [.str ([] : Bs), .hd 100 nilV, .bool false]))]⟩) (le_w [none, some 14] rfl ⟨⟨_, rfl, .refl _⟩, ⟨⟨_, rfl, .refl _⟩, ⟨⟨_, rfl, .refl _⟩, trivial⟩⟩⟩ ⟨⟨rfl, _, _, rfl⟩, ⟨⟨_, rfl, .optr (.cons (.refl _) (.cons (.nilhd _) (.cons (.refl _) (.nil))))⟩, trivial⟩⟩ (by decide)) ?_
          refine good_ret ?_
          replace h := unret h hJ1
          obtain rfl := Option.some.inj h
          refine thenQ_ret ?_
          refine thenQ_ret ?_
          exact endQ_ret (h' := [(100, (_, _))]) [some 100] (.cell rfl rfl tsize48 tagg48 rfl rfl rfl (.tmp rfl (.tmp rfl (.nil)))) ⟨⟨_, rfl, .refl _⟩, trivial⟩ (by decide) ⟨nilV, rfl, rfl⟩
        · replace h := bF h hc3
          refine good_skip ?_
          refine hK10 _ ?_
          refine Good.le (σ' := ⟨72, [(0, _), (4, _), (5, _), (6, _), (7, _), (8, _), (9, _)], [(14, (_, _)), (17, (_, _)), (18, (_, _)), (3002, (_, _))]⟩) (le_w [some 14, some 17, some 18, some 3002] rfl ⟨⟨_, rfl, .refl _⟩, ⟨⟨_, rfl, .refl _⟩, ⟨⟨_, rfl, .refl _⟩, ⟨⟨_, rfl, .refl _⟩, ⟨⟨_, rfl, .refl _⟩, ⟨⟨_, rfl, .refl _⟩, ⟨⟨_, rfl, .refl _⟩, trivial⟩⟩⟩⟩⟩⟩⟩ ⟨⟨_, rfl, .refl _⟩, ⟨⟨_, rfl, .refl _⟩, ⟨⟨_, rfl, .refl _⟩, ⟨⟨_, rfl, .refl _⟩, trivial⟩⟩⟩⟩ (by decide)) ?_
          refine good_seq fun K13 hK13 => ?_
          refine good_region ?_
          refine g_op rfl (ValOk.op (v_loadP tabOk rfl rfl tsize48 tagg48 rfl rfl rfl rfl ?_)) 
          refine g_op rfl (OpOk.le (o_buildSlice (k := 57) (rows := [[.str y1.1.name, .hd 3002 w2, .bool y1.1.must]]) tabOk telem46 tsize48 rfl rfl rfl rfl (by decide) (by decide) (by rw [tzero48]; rfl) rfl rfl rfl rfl rfl ?_))
          intro w3
          refine ⟨_, (le_absorb (k := 57) (k2 := 3002) (rows' := [y1.1].map encOTyp) 0 1 _ rfl rfl (by decide) rfl rfl (by simp only [List.map_cons, List.map_nil, encOTyp_eq]; rfl)), ?_⟩
          refine g_op rfl (ValOk.op (v_fieldP tabOk rfl tfoff48_1 rfl ?_)) 
          refine g_op rfl (o_storeP tabOk (cs' := [.str ([] : Bs), .hd 57 w3, .bool false]) rfl rfl tsize46 rfl rfl rfl (Nat.le_of_ble_eq_true rfl) rfl rfl rfl ?_)
          refine g_nil ?_
          refine hK13 _ ?_
          refine Good.le (σ' := ⟨72, [(0, _), (4, _), (5, _), (6, _), (7, _), (9, _)], [(14, (_, _)), (17, (_, _)), (57, (_, _))]⟩) (le_w [some 14, some 17, some 57] rfl ⟨⟨_, rfl, .refl _⟩, ⟨⟨_, rfl, .refl _⟩, ⟨⟨_, rfl, .refl _⟩, ⟨⟨_, rfl, .refl _⟩, ⟨⟨_, rfl, .refl _⟩, ⟨⟨_, rfl, .refl _⟩, trivial⟩⟩⟩⟩⟩⟩ ⟨⟨_, rfl, .refl _⟩, ⟨⟨_, rfl, .refl _⟩, ⟨⟨_, rfl, .refl _⟩, trivial⟩⟩⟩ (by decide)) ?_
          refine good_region ?_
          refine g_op rfl (ValOk.op (v_move rfl rfl ?_)) 
          obtain ⟨hb4, h⟩ := ifS h
          refine g_op rfl (ValOk.op (v_sliceSM tabOk rfl rfl rfl rfl tkind9 hb4 rfl ?_)) 
          refine g_op rfl (ValOk.op (v_assign rfl rfl ?_)) 
          refine g_nil ?_
          exact hw1 (sub y1.2.1 1 (y1.2.1.length : Int), ([] : Bs), [y1.1]) w3 (Option.some.inj h).symm _ (le_w [some 14, some 17, some 57] rfl ⟨⟨_, rfl, .refl _⟩, ⟨⟨_, rfl, .refl _⟩, ⟨⟨_, rfl, .refl _⟩, ⟨⟨_, rfl, .refl _⟩, ⟨⟨_, rfl, .refl _⟩, trivial⟩⟩⟩⟩⟩ ⟨⟨_, rfl, .refl _⟩, ⟨⟨_, rfl, .optr (.cons (.refl _) (.cons (.hd _ _ _) (.cons (.refl _) (.nil))))⟩, ⟨⟨_, rfl, .refl _⟩, trivial⟩⟩⟩ (by decide))
      replace h := ho5
      refine good_region ?_
      refine g_op rfl (ValOk.op (v_move rfl rfl ?_)) 
      refine g_op rfl (ValOk.op (v_not rfl rfl ?_)) 
      refine g_op rfl (ValOk.op (v_move rfl rfl ?_)) 
      rcases bsplit ((!y1.2.2)) with hg2 | hg2
      · replace h := bF h (nT hg2)
        refine g_no rfl rfl hg2 rfl ?_
        refine g_no rfl rfl hg2 rfl ?_
        refine g_no rfl rfl hg2 rfl ?_
        refine g_op rfl (ValOk.op (v_pickT rfl hg2 rfl rfl ?_)) 
        refine g_op rfl (ValOk.op (v_move rfl rfl ?_)) 
        refine g_no rfl rfl rfl rfl ?_
        refine g_no rfl rfl rfl rfl ?_
        refine g_no rfl rfl rfl rfl ?_
        refine g_op rfl (ValOk.op (v_pickT rfl rfl rfl rfl ?_)) 
        refine g_nil ?_
        exact hw5 true (Option.some.inj h).symm _ (le_w [some 14, some 17, some 18, some 3002] rfl ⟨⟨_, rfl, .refl _⟩, ⟨⟨_, rfl, .refl _⟩, ⟨⟨_, rfl, .refl _⟩, ⟨⟨_, rfl, .refl _⟩, ⟨⟨_, rfl, .refl _⟩, ⟨⟨_, rfl, .refl _⟩, ⟨⟨_, rfl, .refl _⟩, ⟨⟨_, rfl, .refl _⟩, trivial⟩⟩⟩⟩⟩⟩⟩⟩ ⟨⟨_, rfl, .refl _⟩, ⟨⟨_, rfl, .refl _⟩, ⟨⟨_, rfl, .refl _⟩, ⟨⟨_, rfl, .refl _⟩, trivial⟩⟩⟩⟩ (by decide))
      · replace h := ifT h (nF hg2)
        refine g_yes rfl rfl hg2 (ValOk.op (v_move rfl rfl ?_)) 
        refine g_yes rfl rfl hg2 (ValOk.op (v_lenS tabOk rfl rfl tkind9 rfl ?_)) 
        refine g_yes rfl rfl hg2 (ValOk.op (v_bin rfl rfl rfl rfl ?_)) 
        refine g_op rfl (ValOk.op (v_pickF rfl hg2 rfl rfl ?_)) 
        refine g_op rfl (ValOk.op (v_move rfl rfl ?_)) 
        rcases bsplit ((decide ((y1.2.1.length : Int) = 0))) with hg3 | hg3
        · replace h := ifT h (dT hg3)
          refine g_no rfl rfl hg3 rfl ?_
          refine g_no rfl rfl hg3 rfl ?_
          refine g_no rfl rfl hg3 rfl ?_
          refine g_op rfl (ValOk.op (v_pickT rfl hg3 rfl rfl ?_)) 
          refine g_nil ?_
          exact hw5 true (Option.some.inj h).symm _ (le_w [some 14, some 17, some 18, some 3002] rfl ⟨⟨_, rfl, .refl _⟩, ⟨⟨_, rfl, .refl _⟩, ⟨⟨_, rfl, .refl _⟩, ⟨⟨_, rfl, .refl _⟩, ⟨⟨_, rfl, .refl _⟩, ⟨⟨_, rfl, .refl _⟩, ⟨⟨_, rfl, .refl _⟩, ⟨⟨_, rfl, .refl _⟩, trivial⟩⟩⟩⟩⟩⟩⟩⟩ ⟨⟨_, rfl, .refl _⟩, ⟨⟨_, rfl, .refl _⟩, ⟨⟨_, rfl, .refl _⟩, ⟨⟨_, rfl, .refl _⟩, trivial⟩⟩⟩⟩ (by decide))
        · replace h := ifF h (dF hg3)
          refine g_yes rfl rfl hg3 (ValOk.op (v_move rfl rfl ?_)) 
          obtain ⟨hb5, h⟩ := ifS h
          refine g_yes rfl rfl hg3 (ValOk.op (v_indexM tabOk rfl rfl tkind9 hb5 rfl ?_)) 
          refine g_yes rfl rfl hg3 (ValOk.op (v_bin rfl rfl rfl rfl ?_)) 
          refine g_op rfl (ValOk.op (v_pickF rfl hg3 rfl rfl ?_)) 
          refine g_nil ?_
          exact hw5 (!(decide ((byt y1.2.1 0) = 93))) (Option.some.inj h).symm _ (le_w [some 14, some 17, some 18, some 3002] rfl ⟨⟨_, rfl, .refl _⟩, ⟨⟨_, rfl, .refl _⟩, ⟨⟨_, rfl, .refl _⟩, ⟨⟨_, rfl, .refl _⟩, ⟨⟨_, rfl, .refl _⟩, ⟨⟨_, rfl, .refl _⟩, ⟨⟨_, rfl, .refl _⟩, ⟨⟨_, rfl, .refl _⟩, trivial⟩⟩⟩⟩⟩⟩⟩⟩ ⟨⟨_, rfl, .refl _⟩, ⟨⟨_, rfl, .refl _⟩, ⟨⟨_, rfl, .refl _⟩, ⟨⟨_, rfl, .refl _⟩, trivial⟩⟩⟩⟩ (by decide))
    · replace h := bF h hc2
      refine good_seq fun K14 hK14 => ?_
      refine good_region ?_
      refine g_op rfl (ValOk.op (v_move rfl rfl ?_)) 
      obtain ⟨y2, hy2, h⟩ := bnd h
      refine g_op rfl (o_callR [] [] (core_value rfl rfl) (m_spec_l1Word_ok k a0 _ hy2) trivial (.cons (.refl _) (.nil)) (.inl rfl) rfl ?_)
      refine g_op rfl (ValOk.op (v_fieldP tabOk rfl tfoff48_0 rfl ?_)) 
      refine g_op rfl (o_storeP tabOk (cs' := [.str y2, .nil, .bool false]) rfl rfl tsize9 rfl rfl rfl (Nat.le_of_ble_eq_true rfl) rfl rfl rfl ?_)
      refine g_nil ?_
      refine hK14 _ ?_
      refine Good.le (σ' := ⟨72, [(0, _), (4, _), (5, _), (6, _), (7, _)], [(14, (_, _)), (17, (_, _))]⟩) (le_w [some 14, some 17] rfl ⟨⟨_, rfl, .refl _⟩, ⟨⟨_, rfl, .refl _⟩, ⟨⟨_, rfl, .refl _⟩, ⟨⟨_, rfl, .refl _⟩, ⟨⟨_, rfl, .refl _⟩, trivial⟩⟩⟩⟩⟩ ⟨⟨_, rfl, .refl _⟩, ⟨⟨_, rfl, .refl _⟩, trivial⟩⟩ (by decide)) ?_
      refine good_region ?_
      refine g_op rfl (ValOk.op (v_move rfl rfl ?_)) 
      refine g_op rfl (ValOk.op (v_fieldP tabOk rfl tfoff48_0 rfl ?_)) 
      refine g_op rfl (ValOk.op (v_loadP tabOk rfl rfl tsize9 tagg9 rfl rfl rfl rfl ?_)) 
      refine g_op rfl (ValOk.op (v_lenS tabOk rfl rfl tkind9 rfl ?_)) 
      obtain ⟨hb6, h⟩ := ifS h
      refine g_op rfl (ValOk.op (v_sliceSM tabOk rfl rfl rfl rfl tkind9 hb6 rfl ?_)) 
      refine g_op rfl (ValOk.op (v_assign rfl rfl ?_)) 
      refine g_nil ?_
      exact hw1 (sub a0 (y2.length : Int) (a0.length : Int), y2, []) nilV (Option.some.inj h).symm _ (le_w [some 14, some 17, none] rfl ⟨⟨_, rfl, .refl _⟩, ⟨⟨_, rfl, .refl _⟩, ⟨⟨_, rfl, .refl _⟩, ⟨⟨_, rfl, .refl _⟩, ⟨⟨_, rfl, .refl _⟩, trivial⟩⟩⟩⟩⟩ ⟨⟨_, rfl, .refl _⟩, ⟨⟨_, rfl, .optr (.cons (.refl _) (.cons (.nilhd _) (.cons (.refl _) (.nil))))⟩, ⟨⟨rfl, _, _, rfl⟩, trivial⟩⟩⟩ (by decide))
  replace h := ho4
  refine good_region ?_
  refine g_op rfl (ValOk.op (v_move rfl rfl ?_)) 
  refine g_op rfl (ValOk.op (v_lenS tabOk rfl rfl tkind9 rfl ?_)) 
  refine g_op rfl (ValOk.op (v_bin rfl rfl rfl rfl ?_)) 
  refine g_op rfl (ValOk.op (v_move rfl rfl ?_)) 
  rcases bsplit ((decide (0 < (a0.length : Int)))) with hg4 | hg4
  · replace h := ifT h (dT hg4)
    refine g_yes rfl rfl hg4 (ValOk.op (v_move rfl rfl ?_)) 
    obtain ⟨hb7, h⟩ := ifS h
    refine g_yes rfl rfl hg4 (ValOk.op (v_indexM tabOk rfl rfl tkind9 hb7 rfl ?_)) 
    refine g_yes rfl rfl hg4 (ValOk.op (v_bin rfl rfl rfl rfl ?_)) 
    refine g_op rfl (ValOk.op (v_pickT rfl hg4 rfl rfl ?_)) 
    refine g_op rfl (ValOk.op (v_move rfl rfl ?_)) 
    rcases bsplit ((decide ((byt a0 0) = 91))) with hg5 | hg5
    · replace h := ifT h (dT hg5)
      refine g_yes rfl rfl hg5 (ValOk.op (v_move rfl rfl ?_)) 
      refine g_yes rfl rfl hg5 (ValOk.op (v_bin rfl rfl rfl rfl ?_)) 
      refine g_op rfl (ValOk.op (v_pickT rfl hg5 rfl rfl ?_)) 
      refine g_nil ?_
      exact hw4 (decide (1 < a1)) (Option.some.inj h).symm _ (le_w [some 14, some 17] rfl ⟨⟨_, rfl, .refl _⟩, ⟨⟨_, rfl, .refl _⟩, ⟨⟨_, rfl, .refl _⟩, ⟨⟨_, rfl, .refl _⟩, ⟨⟨_, rfl, .refl _⟩, ⟨⟨_, rfl, .refl _⟩, ⟨⟨_, rfl, .refl _⟩, trivial⟩⟩⟩⟩⟩⟩⟩ ⟨⟨_, rfl, .refl _⟩, ⟨⟨_, rfl, .refl _⟩, trivial⟩⟩ (by decide))
    · replace h := ifF h (dF hg5)
      refine g_no rfl rfl hg5 rfl ?_
      refine g_no rfl rfl hg5 rfl ?_
      refine g_op rfl (ValOk.op (v_pickF rfl hg5 rfl rfl ?_)) 
      refine g_nil ?_
      exact hw4 false (Option.some.inj h).symm _ (le_w [some 14, some 17] rfl ⟨⟨_, rfl, .refl _⟩, ⟨⟨_, rfl, .refl _⟩, ⟨⟨_, rfl, .refl _⟩, ⟨⟨_, rfl, .refl _⟩, ⟨⟨_, rfl, .refl _⟩, ⟨⟨_, rfl, .refl _⟩, ⟨⟨_, rfl, .refl _⟩, trivial⟩⟩⟩⟩⟩⟩⟩ ⟨⟨_, rfl, .refl _⟩, ⟨⟨_, rfl, .refl _⟩, trivial⟩⟩ (by decide))
  · replace h := ifF h (dF hg4)
    refine g_no rfl rfl hg4 rfl ?_
    refine g_no rfl rfl hg4 rfl ?_
    refine g_no rfl rfl hg4 rfl ?_
    refine g_op rfl (ValOk.op (v_pickF rfl hg4 rfl rfl ?_)) 
    refine g_op rfl (ValOk.op (v_move rfl rfl ?_)) 
    refine g_no rfl rfl rfl rfl ?_
    refine g_no rfl rfl rfl rfl ?_
    refine g_op rfl (ValOk.op (v_pickF rfl rfl rfl rfl ?_)) 
    refine g_nil ?_
    exact hw4 false (Option.some.inj h).symm _ (le_w [some 14, some 17] rfl ⟨⟨_, rfl, .refl _⟩, ⟨⟨_, rfl, .refl _⟩, ⟨⟨_, rfl, .refl _⟩, ⟨⟨_, rfl, .refl _⟩, ⟨⟨_, rfl, .refl _⟩, ⟨⟨_, rfl, .refl _⟩, ⟨⟨_, rfl, .refl _⟩, trivial⟩⟩⟩⟩⟩⟩⟩ ⟨⟨_, rfl, .refl _⟩, ⟨⟨_, rfl, .refl _⟩, trivial⟩⟩ (by decide))
theorem m_spec_l2Get_all (k : Nat) : P_m_spec_l2Get k := by
  induction k using Nat.strongRecOn with
  | _ k ih => exact m_spec_l2Get_step k ih
theorem m_spec_l2Get_ok (k : Nat) : ∀ (a0 : Bs) (a1 : Int) (r : (Typ × Bs × Bool)), m_spec_l2Get k a0 a1 = some r → Does Try.prog 59 [.str a0, .int .i64 a1] [] (fun q h' => ∃ u0 : Value, q = .tup [.agg [.str r.1.name, .hd 100 u0, .bool r.1.must], .str r.2.1, .bool r.2.2] ∧ h' = [(100, (u0, .osl 48 3 (r.1.of_.map encOTyp)))]) := (m_spec_l2Get_all k)
theorem m_spec_l2Get_okF (k : Nat) : ∀ (a0 : Bs) (a1 : Int) (r : (Typ × Bs × Bool)), m_spec_l2Get k a0 a1 = some r → Does Try.prog 59 [.str a0, .int .i64 a1] [] (ret (.tup [.agg [.str r.1.name, .sl (r.1.of_.map encTyp), .bool r.1.must], .str r.2.1, .bool r.2.2])) := by
  intro a0 a1 r h
  refine does_frz (m_spec_l2Get_ok k a0 a1 r h) ?_
  rintro q h' ⟨u0, rfl, rfl⟩
  exact ⟨[100], [(_, _)], ⟨⟨_, rfl, .osl (FrzLL.map fun _ _ => encOTyp_frz _)⟩, trivial⟩, .tup (.cons (.agg (.cons (.refl _) (.cons (.frz _ _ _ (.head _)) (.cons (.refl _) (.nil))))) (.cons (.refl _) (.cons (.refl _) (.nil))))⟩
def m_spec_l2Type : Nat → Typ → Int → Option Bool
  | 0, _, _ => none
  | k + 1, a0, a1 =>
    if (a0.of_.length : Int) = 0 then
      (m_spec_l1Name k a0.name).bind fun y1 =>
      some y1
    else
      if a0.name = [] then
        if (a0.of_.length : Int) = 1 then
          if 1 < a1 then
            if (0 : Int) ≤ 0 ∧ 0 < (a0.of_.length : Int) then
              (m_spec_l2Type k (Typ.mk ((ix a0.of_ 0).name) ((ix a0.of_ 0).of_) ((ix a0.of_ 0).must)) (IntKind.wrap .i64 (a1 - 1))).bind fun y2 =>
              some y2
            else none
          else
            some false
        else
          some false
      else
        some false
def P_m_spec_l2Type (k : Nat) : Prop := ∀ (a0 : Typ) (a1 : Int) (r : Bool), m_spec_l2Type k a0 a1 = some r → Does Try.prog 60 [.agg [.str a0.name, .sl (a0.of_.map encTyp), .bool a0.must], .int .i64 a1] [] (ret (.bool r))
theorem m_spec_l2Type_step (k : Nat) (ih : ∀ m, m < k → P_m_spec_l2Type m) : P_m_spec_l2Type k := by
  intro a0 a1 r h
  obtain ⟨k, rfl⟩ : ∃ k', k = k' + 1 := by cases k with | zero => (rw [m_spec_l2Type] at h; cases h) | succ k' => exact ⟨k', rfl⟩
  rw [m_spec_l2Type] at h
  refine does_of_good tabOk Try.func60 rfl (by decide +kernel) (Nat.le_of_ble_eq_true rfl) fun c => ?_
  refine Good.le (σ' := ⟨34, [(0, .agg [.str a0.name, .sl (a0.of_.map encTyp), .bool a0.must]), (1, .int .i64 a1)], []⟩) (Le.refl _) ?_
  refine good_seq fun K1 hK1 => ?_
  refine good_region ?_
  refine g_op rfl (o_box (k := 12) tabOk rfl rfl rfl rfl rfl ?_)
  intro b1
  refine g_op rfl (ValOk.op (v_assign rfl rfl ?_)) 
  refine g_nil ?_
  refine hK1 _ ?_
  refine Good.le (σ' := ⟨34, [(1, _), (2, _), (4, _)], [(12, (_, _))]⟩) (le_w [some 12] rfl ⟨⟨_, rfl, .refl _⟩, ⟨⟨_, rfl, .refl _⟩, ⟨⟨_, rfl, .refl _⟩, trivial⟩⟩⟩ ⟨⟨_, rfl, .refl _⟩, trivial⟩ (by decide)) ?_
  refine good_seq fun K2 hK2 => ?_
  refine good_seq fun K3 hK3 => ?_
  refine good_region ?_
  refine g_op rfl (ValOk.op (v_fieldP tabOk rfl tfoff48_1 rfl ?_)) 
  refine g_op rfl (ValOk.op (v_loadP tabOk rfl rfl tsize46 tagg46 rfl rfl rfl rfl ?_)) 
  refine g_op rfl (ValOk.op (v_lenM (l := a0.of_) (f := encTyp) tabOk rfl rfl telem46 rfl ?_)) 
  refine g_op rfl (ValOk.op (v_bin rfl rfl rfl rfl ?_)) 
  refine g_nil ?_
  refine hK3 _ ?_
  refine Good.le (σ' := ⟨34, [(1, _), (2, _), (4, _), (8, _)], [(12, (_, _))]⟩) (le_w [some 12] rfl ⟨⟨_, rfl, .refl _⟩, ⟨⟨_, rfl, .refl _⟩, ⟨⟨_, rfl, .refl _⟩, ⟨⟨_, rfl, .refl _⟩, trivial⟩⟩⟩⟩ ⟨⟨_, rfl, .refl _⟩, trivial⟩ (by decide)) ?_
  refine good_cond rfl (fun hc1 => ?_) (fun hc1 => ?_)
  · replace h := ifT h (dT hc1)
    refine good_seq fun K4 hK4 => ?_
    refine good_region ?_
    refine g_op rfl (ValOk.op (v_fieldP tabOk rfl tfoff48_0 rfl ?_)) 
    refine g_op rfl (ValOk.op (v_loadP tabOk rfl rfl tsize9 tagg9 rfl rfl rfl rfl ?_)) 
    obtain ⟨y1, hy1, h⟩ := bnd h
    refine g_op rfl (o_callR [] [] (core_value rfl rfl) (m_spec_l1Name_ok k a0.name _ hy1) trivial (.cons (.refl _) (.nil)) (.inl rfl) rfl ?_)
    refine g_op rfl (ValOk.op (v_assign rfl rfl ?_)) 
    refine g_nil ?_
    refine hK4 _ ?_
    refine Good.le (σ' := ⟨34, [(1, _), (2, _), (4, _)], [(12, (_, _))]⟩) (le_w [some 12] rfl ⟨⟨_, rfl, .refl _⟩, ⟨⟨_, rfl, .refl _⟩, ⟨⟨_, rfl, .refl _⟩, trivial⟩⟩⟩ ⟨⟨_, rfl, .refl _⟩, trivial⟩ (by decide)) ?_
    refine Good.le (σ' := ⟨34, [(4, .bool y1)], []⟩) (le_w [] rfl ⟨⟨_, rfl, .refl _⟩, trivial⟩ trivial (by decide)) ?_
    refine good_ret ?_
    obtain rfl := Option.some.inj h
    refine thenQ_ret ?_
    exact endQ_ret (h' := []) [] (.tmp rfl (.nil)) trivial (by decide) ⟨rfl, rfl⟩
  · replace h := ifF h (dF hc1)
    refine good_skip ?_
    refine hK2 _ ?_
    refine Good.le (σ' := ⟨34, [(1, _), (2, _), (4, _)], [(12, (_, _))]⟩) (le_w [some 12] rfl ⟨⟨_, rfl, .refl _⟩, ⟨⟨_, rfl, .refl _⟩, ⟨⟨_, rfl, .refl _⟩, trivial⟩⟩⟩ ⟨⟨_, rfl, .refl _⟩, trivial⟩ (by decide)) ?_
    refine good_seq fun K5 hK5 => ?_
    refine good_region ?_
    refine g_op rfl (ValOk.op (v_fieldP tabOk rfl tfoff48_0 rfl ?_)) 
    refine g_op rfl (ValOk.op (v_loadP tabOk rfl rfl tsize9 tagg9 rfl rfl rfl rfl ?_)) 
    refine g_op rfl (ValOk.op (v_bin rfl rfl rfl rfl ?_)) 
    refine g_op rfl (ValOk.op (v_move rfl rfl ?_)) 
    rcases bsplit ((decide (a0.name = []))) with hg1 | hg1
    · replace h := ifT h (dT hg1)
      refine g_yes rfl rfl hg1 (ValOk.op (v_fieldP tabOk rfl tfoff48_1 rfl ?_)) 
      refine g_yes rfl rfl hg1 (ValOk.op (v_loadP tabOk rfl rfl tsize46 tagg46 rfl rfl rfl rfl ?_)) 
      refine g_yes rfl rfl hg1 (ValOk.op (v_lenM (l := a0.of_) (f := encTyp) tabOk rfl rfl telem46 rfl ?_)) 
      refine g_yes rfl rfl hg1 (ValOk.op (v_bin rfl rfl rfl rfl ?_)) 
      refine g_op rfl (ValOk.op (v_pickT rfl hg1 rfl rfl ?_)) 
      refine g_op rfl (ValOk.op (v_move rfl rfl ?_)) 
      rcases bsplit ((decide ((a0.of_.length : Int) = 1))) with hg2 | hg2
      · replace h := ifT h (dT hg2)
        refine g_yes rfl rfl hg2 (ValOk.op (v_move rfl rfl ?_)) 
        refine g_yes rfl rfl hg2 (ValOk.op (v_bin rfl rfl rfl rfl ?_)) 
        refine g_op rfl (ValOk.op (v_pickT rfl hg2 rfl rfl ?_)) 
        refine g_op rfl (ValOk.op (v_move rfl rfl ?_)) 
        rcases bsplit ((decide (1 < a1))) with hg3 | hg3
        · replace h := ifT h (dT hg3)
          refine g_yes rfl rfl hg3 (ValOk.op (v_fieldP tabOk rfl tfoff48_1 rfl ?_)) 
          refine g_yes rfl rfl hg3 (ValOk.op (v_loadP tabOk rfl rfl tsize46 tagg46 rfl rfl rfl rfl ?_)) 
          obtain ⟨hb1, h⟩ := ifS h
          refine g_yes rfl rfl hg3 (ValOk.op (v_idxM tabOk rfl rfl telem46 tsize48 hb1 (encTyp_eq _) rfl rfl ?_)) 
          refine g_yes rfl rfl hg3 (ValOk.op (v_loadE tabOk rfl tsize48 tagg48 rfl rfl rfl ?_)) 
          refine g_yes rfl rfl hg3 (ValOk.op (v_move rfl rfl ?_)) 
          refine g_yes rfl rfl hg3 (ValOk.op (v_bin rfl rfl rfl rfl ?_)) 
          obtain ⟨y2, hy2, h⟩ := bnd h
          refine g_yes rfl rfl hg3 (o_callR [] [] (core_value rfl rfl) ((ih k (by omega)) (Typ.mk ((ix a0.of_ 0).name) ((ix a0.of_ 0).of_) ((ix a0.of_ 0).must)) (IntKind.wrap .i64 (a1 - 1)) _ hy2) trivial (.cons (.refl _) (.cons (.refl _) (.nil))) (.inl rfl) rfl ?_)
          refine g_op rfl (ValOk.op (v_pickT rfl hg3 rfl rfl ?_)) 
          refine g_op rfl (ValOk.op (v_assign rfl rfl ?_)) 
          refine g_nil ?_
          refine hK5 _ ?_
          refine Good.le (σ' := ⟨34, [(4, _)], []⟩) (le_w [] rfl ⟨⟨_, rfl, .refl _⟩, trivial⟩ trivial (by decide)) ?_
          refine Good.le (σ' := ⟨34, [(4, .bool y2)], []⟩) (le_w [] rfl ⟨⟨_, rfl, .refl _⟩, trivial⟩ trivial (by decide)) ?_
          refine good_ret ?_
          obtain rfl := Option.some.inj h
          exact endQ_ret (h' := []) [] (.tmp rfl (.nil)) trivial (by decide) ⟨rfl, rfl⟩
        · replace h := ifF h (dF hg3)
          refine g_no rfl rfl hg3 rfl ?_
          refine g_no rfl rfl hg3 rfl ?_
          refine g_no rfl rfl hg3 rfl ?_
          refine g_no rfl rfl hg3 rfl ?_
          refine g_no rfl rfl hg3 rfl ?_
          refine g_no rfl rfl hg3 rfl ?_
          refine g_no rfl rfl hg3 rfl ?_
          refine g_op rfl (ValOk.op (v_pickF rfl hg3 rfl rfl ?_)) 
          refine g_op rfl (ValOk.op (v_assign rfl rfl ?_)) 
          refine g_nil ?_
          refine hK5 _ ?_
          refine Good.le (σ' := ⟨34, [(4, _)], []⟩) (le_w [] rfl ⟨⟨_, rfl, .refl _⟩, trivial⟩ trivial (by decide)) ?_
          refine Good.le (σ' := ⟨34, [(4, .bool false)], []⟩) (le_w [] rfl ⟨⟨_, rfl, .refl _⟩, trivial⟩ trivial (by decide)) ?_
          refine good_ret ?_
          obtain rfl := Option.some.inj h
          exact endQ_ret (h' := []) [] (.tmp rfl (.nil)) trivial (by decide) ⟨rfl, rfl⟩
      · replace h := ifF h (dF hg2)
        refine g_no rfl rfl hg2 rfl ?_
        refine g_no rfl rfl hg2 rfl ?_
        refine g_op rfl (ValOk.op (v_pickF rfl hg2 rfl rfl ?_)) 
        refine g_op rfl (ValOk.op (v_move rfl rfl ?_)) 
        refine g_no rfl rfl rfl rfl ?_
        refine g_no rfl rfl rfl rfl ?_
        refine g_no rfl rfl rfl rfl ?_
        refine g_no rfl rfl rfl rfl ?_
        refine g_no rfl rfl rfl rfl ?_
        refine g_no rfl rfl rfl rfl ?_
        refine g_no rfl rfl rfl rfl ?_
        refine g_op rfl (ValOk.op (v_pickF rfl rfl rfl rfl ?_)) 
        refine g_op rfl (ValOk.op (v_assign rfl rfl ?_)) 
        refine g_nil ?_
        refine hK5 _ ?_
        refine Good.le (σ' := ⟨34, [(4, _)], []⟩) (le_w [] rfl ⟨⟨_, rfl, .refl _⟩, trivial⟩ trivial (by decide)) ?_
        refine Good.le (σ' := ⟨34, [(4, .bool false)], []⟩) (le_w [] rfl ⟨⟨_, rfl, .refl _⟩, trivial⟩ trivial (by decide)) ?_
        refine good_ret ?_
        obtain rfl := Option.some.inj h
        exact endQ_ret (h' := []) [] (.tmp rfl (.nil)) trivial (by decide) ⟨rfl, rfl⟩
    · replace h := ifF h (dF hg1)
      refine g_no rfl rfl hg1 rfl ?_
      refine g_no rfl rfl hg1 rfl ?_
      refine g_no rfl rfl hg1 rfl ?_
      refine g_no rfl rfl hg1 rfl ?_
      refine g_op rfl (ValOk.op (v_pickF rfl hg1 rfl rfl ?_)) 
      refine g_op rfl (ValOk.op (v_move rfl rfl ?_)) 
      refine g_no rfl rfl rfl rfl ?_
      refine g_no rfl rfl rfl rfl ?_
      refine g_op rfl (ValOk.op (v_pickF rfl rfl rfl rfl ?_)) 
      refine g_op rfl (ValOk.op (v_move rfl rfl ?_)) 
      refine g_no rfl rfl rfl rfl ?_
      refine g_no rfl rfl rfl rfl ?_
      refine g_no rfl rfl rfl rfl ?_
      refine g_no rfl rfl rfl rfl ?_
      refine g_no rfl rfl rfl rfl ?_
      refine g_no rfl rfl rfl rfl ?_
      refine g_no rfl rfl rfl rfl ?_
      refine g_op rfl (ValOk.op (v_pickF rfl rfl rfl rfl ?_)) 
      refine g_op rfl (ValOk.op (v_assign rfl rfl ?_)) 
      refine g_nil ?_
      refine hK5 _ ?_
      refine Good.le (σ' := ⟨34, [(4, _)], []⟩) (le_w [] rfl ⟨⟨_, rfl, .refl _⟩, trivial⟩ trivial (by decide)) ?_
      refine Good.le (σ' := ⟨34, [(4, .bool false)], []⟩) (le_w [] rfl ⟨⟨_, rfl, .refl _⟩, trivial⟩ trivial (by decide)) ?_
      refine good_ret ?_
      obtain rfl := Option.some.inj h
      exact endQ_ret (h' := []) [] (.tmp rfl (.nil)) trivial (by decide) ⟨rfl, rfl⟩
theorem m_spec_l2Type_all (k : Nat) : P_m_spec_l2Type k := by
  induction k using Nat.strongRecOn with
  | _ k ih => exact m_spec_l2Type_step k ih
theorem m_spec_l2Type_ok (k : Nat) : ∀ (a0 : Typ) (a1 : Int) (r : Bool), m_spec_l2Type k a0 a1 = some r → Does Try.prog 60 [.agg [.str a0.name, .sl (a0.of_.map encTyp), .bool a0.must], .int .i64 a1] [] (ret (.bool r)) := (m_spec_l2Type_all k)
def m_spec_TypeGet (k : Nat) (a0 : Bs) : Option (Typ × Bool) :=
  (m_spec_l2Get k a0 3).bind fun y1 =>
  (if y1.2.2 = true then
      if y1.2.1 = [] then
        (m_spec_l2Type k y1.1 3).bind fun y2 =>
        some (Lp.go (!y2))
      else
        some (Lp.go true)
    else
      some (Lp.go true)).bind fun o1 =>
  o1.then fun s1 =>
    if s1 = true then
      some ((Typ.mk ([] : Bs) ([] : List Typ) false), false)
    else
      some (y1.1, true)
theorem m_spec_TypeGet_ok (k : Nat) : ∀ (a0 : Bs) (r : (Typ × Bool)), m_spec_TypeGet k a0 = some r → Does Try.prog 31 [.str a0] [] (fun q h' => ∃ u0 : Value, q = .tup [.agg [.str r.1.name, .hd 100 u0, .bool r.1.must], .bool r.2] ∧ h' = [(100, (u0, .osl 48 3 (r.1.of_.map encOTyp)))]) := by
  intro a0 r h
  rw [m_spec_TypeGet] at h
  refine does_of_good tabOk Try.func31 rfl (by decide +kernel) (Nat.le_of_ble_eq_true rfl) fun c => ?_
  refine Good.le (σ' := ⟨26, [(0, .str a0)], []⟩) (Le.refl _) ?_
  refine good_seq fun K1 hK1 => ?_
  refine good_region ?_
  refine g_op rfl (o_alloc (k := 12) tabOk tzero48 rfl rfl ?_)
  intro b1
  refine g_op rfl (ValOk.op (v_assign rfl rfl ?_)) 
  refine g_nil ?_
  refine hK1 _ ?_
  refine good_seq fun K2 hK2 => ?_
  refine good_region ?_
  refine g_op rfl (ValOk.op (v_move rfl rfl ?_)) 
  obtain ⟨y1, hy1, h⟩ := bnd h
  refine g_op rfl (o_callD [] [] [] (core_value rfl rfl) (m_spec_l2Get_ok k a0 3 _ hy1) trivial (.cons (.refl _) (.cons (.refl _) (.nil))) trivial rfl rfl rfl ?_)
  rintro _ _ ⟨w1, rfl, rfl⟩
  refine ⟨.tup [.agg [.str y1.1.name, .hd 3001 w1, .bool y1.1.must], .str y1.2.1, .bool y1.2.2], [(3001, _)], .tup (.cons (.agg (.cons (.refl _) (.cons (.hd _ _ _) (.cons (.refl _) (.nil))))) (.cons (.refl _) (.cons (.refl _) (.nil)))), rfl, rfl, rfl, rfl, .inl rfl, ?_⟩
  refine g_op rfl (ValOk.op (v_move rfl rfl ?_)) 
  refine g_op rfl (ValOk.op (v_extract rfl rfl rfl ?_)) 
  refine g_op rfl (ValOk.op (v_extract rfl rfl rfl ?_)) 
  refine g_op rfl (ValOk.op (v_extract rfl rfl rfl ?_)) 
  refine g_op rfl (o_alloc (k := 14) tabOk tzero48 rfl rfl ?_)
  intro b2
  refine g_op rfl (o_storeP tabOk (cs' := [.str y1.1.name, .hd 3001 w1, .bool y1.1.must]) rfl rfl tsize48 rfl rfl rfl (Nat.le_of_ble_eq_true rfl) rfl rfl rfl ?_)
  refine g_op rfl (ValOk.op (v_assign rfl rfl ?_)) 
  refine g_op rfl (ValOk.op (v_assign rfl rfl ?_)) 
  refine g_nil ?_
  refine hK2 _ ?_
  refine Good.le (σ' := ⟨26, [(2, _), (3, _), (4, _), (5, _), (6, _)], [(12, (_, _)), (14, (_, _)), (3001, (_, _))]⟩) (le_w [some 12, some 14, some 3001] rfl ⟨⟨_, rfl, .refl _⟩, ⟨⟨_, rfl, .refl _⟩, ⟨⟨_, rfl, .refl _⟩, ⟨⟨_, rfl, .refl _⟩, ⟨⟨_, rfl, .refl _⟩, trivial⟩⟩⟩⟩⟩ ⟨⟨_, rfl, .refl _⟩, ⟨⟨_, rfl, .refl _⟩, ⟨⟨_, rfl, .refl _⟩, trivial⟩⟩⟩ (by decide)) ?_
  refine good_seq fun K3 hK3 => ?_
  refine good_seq fun K4 hK4 => ?_
  obtain ⟨o1, ho1, hJ1⟩ := bnd h
  have hw1 : ∀ (s1 : Bool), o1 = Lp.go s1 → ∀ σ', Le σ' ⟨26, [(2, .ptr 12 b1 0), (3, .bool false), (4, .ptr 14 b2 0), (23, .bool s1)], [(12, ((.pointer (some ⟨b1, 0, none⟩)), .optr 48 [.str ([] : Bs), .nil, .bool false])), (14, ((.pointer (some ⟨b2, 0, none⟩)), .optr 48 [.str y1.1.name, .hd 3001 w1, .bool y1.1.must])), (3001, (w1, .osl 48 3 (y1.1.of_.map encOTyp)))]⟩ → K4 σ' := by
    intro s1 e1 σ' hle1
    subst e1
    refine hK4 _ (Good.le hle1 ?_)
    replace h := hJ1
    refine good_cond rfl (fun hc1 => ?_) (fun hc1 => ?_)
    · replace h := ifT h hc1
      refine good_seq fun K5 hK5 => ?_
      refine good_region ?_
      refine g_op rfl (ValOk.op (v_build tabOk (cs := [.str ([] : Bs), .nil, .bool false]) tzero48 tsok48 rfl rfl rfl ?_)) 
      refine g_op rfl (o_storeP tabOk (cs' := [.str ([] : Bs), .nil, .bool false]) rfl rfl tsize48 rfl rfl rfl (Nat.le_of_ble_eq_true rfl) rfl rfl rfl ?_)
      refine g_op rfl (ValOk.op (v_assign rfl rfl ?_)) 
      refine g_nil ?_
      refine hK5 _ ?_
      refine Good.le (σ' := ⟨26, [(2, _), (3, _), (4, _)], [(12, (_, _)), (14, (_, _)), (3001, (_, _))]⟩) (le_w [some 12, some 14, some 3001] rfl ⟨⟨_, rfl, .refl _⟩, ⟨⟨_, rfl, .refl _⟩, ⟨⟨_, rfl, .refl _⟩, trivial⟩⟩⟩ ⟨⟨_, rfl, .refl _⟩, ⟨⟨_, rfl, .refl _⟩, ⟨⟨_, rfl, .refl _⟩, trivial⟩⟩⟩ (by decide)) ?_
      refine Good.le (σ' := ⟨26, [(2, .ptr 12 b1 0), (3, .bool false)], [(100, (nilV, .osl 48 3 (([] : List Typ).map encOTyp))), (12, ((.pointer (some ⟨b1, 0, none⟩)), .optr 48 [.str ([] : Bs), .hd 100 nilV, .bool false]))]⟩) (le_w [none, some 12] rfl ⟨⟨_, rfl, .refl _⟩, ⟨⟨_, rfl, .refl _⟩, trivial⟩⟩ ⟨⟨rfl, _, _, rfl⟩, ⟨⟨_, rfl, .optr (.cons (.refl _) (.cons (.nilhd _) (.cons (.refl _) (.nil))))⟩, trivial⟩⟩ (by decide)) ?_
      refine good_ret ?_
      obtain rfl := Option.some.inj h
      refine thenQ_ret ?_
      exact endQ_ret (h' := [(100, (_, _))]) [some 100] (.cell rfl rfl tsize48 tagg48 rfl rfl rfl (.tmp rfl (.nil))) ⟨⟨_, rfl, .refl _⟩, trivial⟩ (by decide) ⟨nilV, rfl, rfl⟩
    · replace h := bF h hc1
      refine good_skip ?_
      refine hK3 _ ?_
      refine Good.le (σ' := ⟨26, [(2, _), (3, _), (4, _)], [(12, (_, _)), (14, (_, _)), (3001, (_, _))]⟩) (le_w [some 12, some 14, some 3001] rfl ⟨⟨_, rfl, .refl _⟩, ⟨⟨_, rfl, .refl _⟩, ⟨⟨_, rfl, .refl _⟩, trivial⟩⟩⟩ ⟨⟨_, rfl, .refl _⟩, ⟨⟨_, rfl, .refl _⟩, ⟨⟨_, rfl, .refl _⟩, trivial⟩⟩⟩ (by decide)) ?_
      refine good_seq fun K6 hK6 => ?_
      refine good_region ?_
      refine g_op rfl (ValOk.op (v_loadP tabOk rfl rfl tsize48 tagg48 rfl rfl rfl rfl ?_)) 
      refine g_op rfl (o_storeP tabOk (cs' := [.str y1.1.name, .hd 3001 w1, .bool y1.1.must]) rfl rfl tsize48 rfl rfl rfl (Nat.le_of_ble_eq_true rfl) rfl rfl rfl ?_)
      refine g_op rfl (ValOk.op (v_assign rfl rfl ?_)) 
      refine g_nil ?_
      refine hK6 _ ?_
      refine Good.le (σ' := ⟨26, [(2, _), (3, _)], [(12, (_, _)), (3001, (_, _))]⟩) (le_w [some 12, some 3001] rfl ⟨⟨_, rfl, .refl _⟩, ⟨⟨_, rfl, .refl _⟩, trivial⟩⟩ ⟨⟨_, rfl, .refl _⟩, ⟨⟨_, rfl, .refl _⟩, trivial⟩⟩ (by decide)) ?_
      refine Good.le (σ' := ⟨26, [(2, .ptr 12 b1 0), (3, .bool true)], [(100, (w1, .osl 48 3 (y1.1.of_.map encOTyp))), (12, ((.pointer (some ⟨b1, 0, none⟩)), .optr 48 [.str y1.1.name, .hd 100 w1, .bool y1.1.must]))]⟩) (le_w [some 3001, some 12] rfl ⟨⟨_, rfl, .refl _⟩, ⟨⟨_, rfl, .refl _⟩, trivial⟩⟩ ⟨⟨_, rfl, .refl _⟩, ⟨⟨_, rfl, .optr (.cons (.refl _) (.cons (.hd _ _ _) (.cons (.refl _) (.nil))))⟩, trivial⟩⟩ (by decide)) ?_
      refine good_ret ?_
      obtain rfl := Option.some.inj h
      exact endQ_ret (h' := [(100, (_, _))]) [some 100] (.cell rfl rfl tsize48 tagg48 rfl rfl rfl (.tmp rfl (.nil))) ⟨⟨_, rfl, .refl _⟩, trivial⟩ (by decide) ⟨w1, rfl, rfl⟩
  replace h := ho1
  refine good_region ?_
  refine g_op rfl (ValOk.op (v_move rfl rfl ?_)) 
  refine g_op rfl (ValOk.op (v_not rfl rfl ?_)) 
  refine g_op rfl (ValOk.op (v_move rfl rfl ?_)) 
  rcases bsplit ((!y1.2.2)) with hg1 | hg1
  · replace h := bF h (nT hg1)
    refine g_no rfl rfl hg1 rfl ?_
    refine g_no rfl rfl hg1 rfl ?_
    refine g_op rfl (ValOk.op (v_pickT rfl hg1 rfl rfl ?_)) 
    refine g_op rfl (ValOk.op (v_move rfl rfl ?_)) 
    refine g_no rfl rfl rfl rfl ?_
    refine g_no rfl rfl rfl rfl ?_
    refine g_no rfl rfl rfl rfl ?_
    refine g_op rfl (ValOk.op (v_pickT rfl rfl rfl rfl ?_)) 
    refine g_nil ?_
    exact hw1 true (Option.some.inj h).symm _ (le_w [some 12, some 14, some 3001] rfl ⟨⟨_, rfl, .refl _⟩, ⟨⟨_, rfl, .refl _⟩, ⟨⟨_, rfl, .refl _⟩, ⟨⟨_, rfl, .refl _⟩, trivial⟩⟩⟩⟩ ⟨⟨_, rfl, .refl _⟩, ⟨⟨_, rfl, .refl _⟩, ⟨⟨_, rfl, .refl _⟩, trivial⟩⟩⟩ (by decide))
  · replace h := ifT h (nF hg1)
    refine g_yes rfl rfl hg1 (ValOk.op (v_move rfl rfl ?_)) 
    refine g_yes rfl rfl hg1 (ValOk.op (v_bin rfl rfl rfl rfl ?_)) 
    refine g_op rfl (ValOk.op (v_pickF rfl hg1 rfl rfl ?_)) 
    refine g_op rfl (ValOk.op (v_move rfl rfl ?_)) 
    rcases bsplit ((!(decide (y1.2.1 = [])))) with hg2 | hg2
    · replace h := ifF h (ndT hg2)
      refine g_no rfl rfl hg2 rfl ?_
      refine g_no rfl rfl hg2 rfl ?_
      refine g_no rfl rfl hg2 rfl ?_
      refine g_op rfl (ValOk.op (v_pickT rfl hg2 rfl rfl ?_)) 
      refine g_nil ?_
      exact hw1 true (Option.some.inj h).symm _ (le_w [some 12, some 14, some 3001] rfl ⟨⟨_, rfl, .refl _⟩, ⟨⟨_, rfl, .refl _⟩, ⟨⟨_, rfl, .refl _⟩, ⟨⟨_, rfl, .refl _⟩, trivial⟩⟩⟩⟩ ⟨⟨_, rfl, .refl _⟩, ⟨⟨_, rfl, .refl _⟩, ⟨⟨_, rfl, .refl _⟩, trivial⟩⟩⟩ (by decide))
    · replace h := ifT h (ndF hg2)
      refine g_yes rfl rfl hg2 (ValOk.op (v_loadP tabOk rfl rfl tsize48 tagg48 rfl rfl rfl rfl ?_)) 
      obtain ⟨y2, hy2, h⟩ := bnd h
      refine g_yes rfl rfl hg2 (o_callR [3001] [(_, _)] (core_value rfl rfl) (m_spec_l2Type_ok k y1.1 3 _ hy2) ⟨⟨_, rfl, .osl (FrzLL.map fun _ _ => encOTyp_frz _)⟩, trivial⟩ (.cons (.agg (.cons (.refl _) (.cons (.frz _ _ _ (.head _)) (.cons (.refl _) (.nil))))) (.cons (.refl _) (.nil))) (.inr (.bool _)) rfl ?_)
      refine g_yes rfl rfl hg2 (ValOk.op (v_not rfl rfl ?_)) 
      refine g_op rfl (ValOk.op (v_pickF rfl hg2 rfl rfl ?_)) 
      refine g_nil ?_
      exact hw1 (!y2) (Option.some.inj h).symm _ (le_w [some 12, some 14, some 3001] rfl ⟨⟨_, rfl, .refl _⟩, ⟨⟨_, rfl, .refl _⟩, ⟨⟨_, rfl, .refl _⟩, ⟨⟨_, rfl, .refl _⟩, trivial⟩⟩⟩⟩ ⟨⟨_, rfl, .refl _⟩, ⟨⟨_, rfl, .refl _⟩, ⟨⟨_, rfl, .refl _⟩, trivial⟩⟩⟩ (by decide))
theorem m_spec_TypeGet_okF (k : Nat) : ∀ (a0 : Bs) (r : (Typ × Bool)), m_spec_TypeGet k a0 = some r → Does Try.prog 31 [.str a0] [] (ret (.tup [.agg [.str r.1.name, .sl (r.1.of_.map encTyp), .bool r.1.must], .bool r.2])) := by
  intro a0 r h
  refine does_frz (m_spec_TypeGet_ok k a0 r h) ?_
  rintro q h' ⟨u0, rfl, rfl⟩
  exact ⟨[100], [(_, _)], ⟨⟨_, rfl, .osl (FrzLL.map fun _ _ => encOTyp_frz _)⟩, trivial⟩, .tup (.cons (.agg (.cons (.refl _) (.cons (.frz _ _ _ (.head _)) (.cons (.refl _) (.nil))))) (.cons (.refl _) (.nil)))⟩
def m_laws_FnExactTypeGet (k : Nat) (a0 : Bs) : Option Bool :=
  if 1048576 < (a0.length : Int) then
    some true
  else
    (m_spec_TypeGet k a0).bind fun y1 =>
    (m_impl_TypeGet k a0).bind fun y2 =>
    ((m_laws_eqType k y2.1 y1.1).bind fun y8 =>
      if y8 = true then
        some (Lp.go (!(decide (y2.2 = y1.2))))
      else
        some (Lp.go true)).bind fun o1 =>
    o1.then fun s1 =>
    if s1 = true then
      some false
    else
      (m_laws_markType k y2.1 1).bind fun y3 =>
      (m_laws_heldType k (Typ.mk y2.1.name y3.2 y2.1.must) 1).bind fun y4 =>
      if y4 < 0 then
        some false
      else
        if y4 = y3.1 then
          (m_impl_TypeGet k a0).bind fun y5 =>
          ((m_laws_eqType k y5.1 y1.1).bind fun y7 =>
            if y7 = true then
              some (Lp.go (!(decide (y5.2 = y1.2))))
            else
              some (Lp.go true)).bind fun o2 =>
          o2.then fun s2 =>
    if s2 = true then
      some false
    else
      (m_laws_heldType k (Typ.mk y2.1.name y3.2 y2.1.must) 1).bind fun y6 =>
      if y6 < 0 then
        some false
      else
        if y6 = y3.1 then
          some true
        else
          some false
        else
          some false
theorem m_laws_FnExactTypeGet_ok (k : Nat) : ∀ (a0 : Bs) (r : Bool), m_laws_FnExactTypeGet k a0 = some r → Does Try.prog 9 [.str a0] [] (ret (.bool r)) := by
  intro a0 r h
  rw [m_laws_FnExactTypeGet] at h
  refine does_of_good tabOk Try.func9 rfl (by decide +kernel) (Nat.le_of_ble_eq_true rfl) fun c => ?_
  refine Good.le (σ' := ⟨66, [(0, .str a0)], []⟩) (Le.refl _) ?_
  refine good_seq fun K1 hK1 => ?_
  refine good_region ?_
  refine g_op rfl (ValOk.op (v_assign rfl rfl ?_)) 
  refine g_nil ?_
  refine hK1 _ ?_
  refine good_seq fun K2 hK2 => ?_
  refine good_seq fun K3 hK3 => ?_
  refine good_region ?_
  refine g_op rfl (ValOk.op (v_move rfl rfl ?_)) 
  refine g_op rfl (ValOk.op (v_lenS tabOk rfl rfl tkind9 rfl ?_)) 
  refine g_op rfl (ValOk.op (v_bin rfl rfl rfl rfl ?_)) 
  refine g_nil ?_
  refine hK3 _ ?_
  refine Good.le (σ' := ⟨66, [(0, _), (2, _), (13, _)], []⟩) (le_w [] rfl ⟨⟨_, rfl, .refl _⟩, ⟨⟨_, rfl, .refl _⟩, ⟨⟨_, rfl, .refl _⟩, trivial⟩⟩⟩ trivial (by decide)) ?_
  refine good_cond rfl (fun hc1 => ?_) (fun hc1 => ?_)
  · replace h := ifT h (dT hc1)
    refine good_seq fun K4 hK4 => ?_
    refine good_region ?_
    refine g_op rfl (ValOk.op (v_assign rfl rfl ?_)) 
    refine g_nil ?_
    refine hK4 _ ?_
    refine Good.le (σ' := ⟨66, [(0, _), (2, _)], []⟩) (le_w [] rfl ⟨⟨_, rfl, .refl _⟩, ⟨⟨_, rfl, .refl _⟩, trivial⟩⟩ trivial (by decide)) ?_
    refine Good.le (σ' := ⟨66, [(2, .bool true)], []⟩) (le_w [] rfl ⟨⟨_, rfl, .refl _⟩, trivial⟩ trivial (by decide)) ?_
    refine good_ret ?_
    obtain rfl := Option.some.inj h
    refine thenQ_ret ?_
    exact endQ_ret (h' := []) [] (.tmp rfl (.nil)) trivial (by decide) ⟨rfl, rfl⟩
  · replace h := ifF h (dF hc1)
    refine good_skip ?_
    refine hK2 _ ?_
    refine Good.le (σ' := ⟨66, [(0, _), (2, _)], []⟩) (le_w [] rfl ⟨⟨_, rfl, .refl _⟩, ⟨⟨_, rfl, .refl _⟩, trivial⟩⟩ trivial (by decide)) ?_
    refine good_seq fun K5 hK5 => ?_
    refine good_region ?_
    refine g_op rfl (ValOk.op (v_move rfl rfl ?_)) 
    obtain ⟨y1, hy1, h⟩ := bnd h
    refine g_op rfl (o_callD [] [] [] (core_value rfl rfl) (m_spec_TypeGet_ok k a0 _ hy1) trivial (.cons (.refl _) (.nil)) trivial rfl rfl rfl ?_)
    rintro _ _ ⟨w1, rfl, rfl⟩
    refine ⟨.tup [.agg [.str y1.1.name, .hd 3001 w1, .bool y1.1.must], .bool y1.2], [(3001, _)], .tup (.cons (.agg (.cons (.refl _) (.cons (.hd _ _ _) (.cons (.refl _) (.nil))))) (.cons (.refl _) (.nil))), rfl, rfl, rfl, rfl, .inl rfl, ?_⟩
    refine g_op rfl (ValOk.op (v_move rfl rfl ?_)) 
    refine g_op rfl (ValOk.op (v_extract rfl rfl rfl ?_)) 
    refine g_op rfl (ValOk.op (v_extract rfl rfl rfl ?_)) 
    refine g_op rfl (o_alloc (k := 13) tabOk tzero48 rfl rfl ?_)
    intro b1
    refine g_op rfl (o_storeP tabOk (cs' := [.str y1.1.name, .hd 3001 w1, .bool y1.1.must]) rfl rfl tsize48 rfl rfl rfl (Nat.le_of_ble_eq_true rfl) rfl rfl rfl ?_)
    refine g_op rfl (ValOk.op (v_assign rfl rfl ?_)) 
    refine g_nil ?_
    refine hK5 _ ?_
    refine Good.le (σ' := ⟨66, [(0, _), (2, _), (3, _), (4, _)], [(13, (_, _)), (3001, (_, _))]⟩) (le_w [some 13, some 3001] rfl ⟨⟨_, rfl, .refl _⟩, ⟨⟨_, rfl, .refl _⟩, ⟨⟨_, rfl, .refl _⟩, ⟨⟨_, rfl, .refl _⟩, trivial⟩⟩⟩⟩ ⟨⟨_, rfl, .refl _⟩, ⟨⟨_, rfl, .refl _⟩, trivial⟩⟩ (by decide)) ?_
    refine good_seq fun K6 hK6 => ?_
    refine good_region ?_
    refine g_op rfl (ValOk.op (v_move rfl rfl ?_)) 
    obtain ⟨y2, hy2, h⟩ := bnd h
    refine g_op rfl (o_callD [] [] [] (core_value rfl rfl) (m_impl_TypeGet_ok k a0 _ hy2) trivial (.cons (.refl _) (.nil)) trivial rfl rfl rfl ?_)
    rintro _ _ ⟨w2, rfl, rfl⟩
    refine ⟨.tup [.agg [.str y2.1.name, .hd 3002 w2, .bool y2.1.must], .bool y2.2], [(3002, _)], .tup (.cons (.agg (.cons (.refl _) (.cons (.hd _ _ _) (.cons (.refl _) (.nil))))) (.cons (.refl _) (.nil))), rfl, rfl, rfl, rfl, .inl rfl, ?_⟩
    refine g_op rfl (ValOk.op (v_move rfl rfl ?_)) 
    refine g_op rfl (ValOk.op (v_extract rfl rfl rfl ?_)) 
    refine g_op rfl (ValOk.op (v_extract rfl rfl rfl ?_)) 
    refine g_op rfl (o_alloc (k := 15) tabOk tzero48 rfl rfl ?_)
    intro b2
    refine g_op rfl (o_storeP tabOk (cs' := [.str y2.1.name, .hd 3002 w2, .bool y2.1.must]) rfl rfl tsize48 rfl rfl rfl (Nat.le_of_ble_eq_true rfl) rfl rfl rfl ?_)
    refine g_op rfl (ValOk.op (v_assign rfl rfl ?_)) 
    refine g_nil ?_
    refine hK6 _ ?_
    refine Good.le (σ' := ⟨66, [(0, _), (2, _), (3, _), (4, _), (5, _), (6, _)], [(13, (_, _)), (3001, (_, _)), (15, (_, _)), (3002, (_, _))]⟩) (le_w [some 13, some 3001, some 15, some 3002] rfl ⟨⟨_, rfl, .refl _⟩, ⟨⟨_, rfl, .refl _⟩, ⟨⟨_, rfl, .refl _⟩, ⟨⟨_, rfl, .refl _⟩, ⟨⟨_, rfl, .refl _⟩, ⟨⟨_, rfl, .refl _⟩, trivial⟩⟩⟩⟩⟩⟩ ⟨⟨_, rfl, .refl _⟩, ⟨⟨_, rfl, .refl _⟩, ⟨⟨_, rfl, .refl _⟩, ⟨⟨_, rfl, .refl _⟩, trivial⟩⟩⟩⟩ (by decide)) ?_
    refine good_seq fun K7 hK7 => ?_
    refine good_seq fun K8 hK8 => ?_
    obtain ⟨o1, ho1, hJ1⟩ := bnd h
    have hw1 : ∀ (s1 : Bool), o1 = Lp.go s1 → ∀ σ', Le σ' ⟨66, [(0, .str a0), (2, .bool false), (3, .ptr 13 b1 0), (4, .bool y1.2), (5, .ptr 15 b2 0), (32, .bool s1)], [(13, ((.pointer (some ⟨b1, 0, none⟩)), .optr 48 [.str y1.1.name, .hd 3001 w1, .bool y1.1.must])), (3001, (w1, .osl 48 3 (y1.1.of_.map encOTyp))), (15, ((.pointer (some ⟨b2, 0, none⟩)), .optr 48 [.str y2.1.name, .hd 3002 w2, .bool y2.1.must])), (3002, (w2, .osl 48 3 (y2.1.of_.map encOTyp)))]⟩ → K8 σ' := by
      intro s1 e1 σ' hle1
      subst e1
      refine hK8 _ (Good.le hle1 ?_)
      replace h := hJ1
      refine good_cond rfl (fun hc2 => ?_) (fun hc2 => ?_)
      · replace h := ifT h hc2
        refine good_seq fun K9 hK9 => ?_
        refine good_region ?_
        refine g_op rfl (ValOk.op (v_assign rfl rfl ?_)) 
        refine g_nil ?_
        refine hK9 _ ?_
        refine Good.le (σ' := ⟨66, [(0, _), (2, _), (3, _), (4, _), (5, _)], [(13, (_, _)), (3001, (_, _)), (15, (_, _)), (3002, (_, _))]⟩) (le_w [some 13, some 3001, some 15, some 3002] rfl ⟨⟨_, rfl, .refl _⟩, ⟨⟨_, rfl, .refl _⟩, ⟨⟨_, rfl, .refl _⟩, ⟨⟨_, rfl, .refl _⟩, ⟨⟨_, rfl, .refl _⟩, trivial⟩⟩⟩⟩⟩ ⟨⟨_, rfl, .refl _⟩, ⟨⟨_, rfl, .refl _⟩, ⟨⟨_, rfl, .refl _⟩, ⟨⟨_, rfl, .refl _⟩, trivial⟩⟩⟩⟩ (by decide)) ?_
        refine Good.le (σ' := ⟨66, [(2, .bool false)], []⟩) (le_w [] rfl ⟨⟨_, rfl, .refl _⟩, trivial⟩ trivial (by decide)) ?_
        refine good_ret ?_
        obtain rfl := Option.some.inj h
        refine thenQ_ret ?_
        exact endQ_ret (h' := []) [] (.tmp rfl (.nil)) trivial (by decide) ⟨rfl, rfl⟩
      · replace h := bF h hc2
        refine good_skip ?_
        refine hK7 _ ?_
        refine Good.le (σ' := ⟨66, [(0, _), (2, _), (3, _), (4, _), (5, _)], [(13, (_, _)), (3001, (_, _)), (15, (_, _)), (3002, (_, _))]⟩) (le_w [some 13, some 3001, some 15, some 3002] rfl ⟨⟨_, rfl, .refl _⟩, ⟨⟨_, rfl, .refl _⟩, ⟨⟨_, rfl, .refl _⟩, ⟨⟨_, rfl, .refl _⟩, ⟨⟨_, rfl, .refl _⟩, trivial⟩⟩⟩⟩⟩ ⟨⟨_, rfl, .refl _⟩, ⟨⟨_, rfl, .refl _⟩, ⟨⟨_, rfl, .refl _⟩, ⟨⟨_, rfl, .refl _⟩, trivial⟩⟩⟩⟩ (by decide)) ?_
        refine good_seq fun K10 hK10 => ?_
        refine good_region ?_
        refine g_op rfl (ValOk.op (v_assign rfl rfl ?_)) 
        refine g_nil ?_
        refine hK10 _ ?_
        refine good_seq fun K11 hK11 => ?_
        refine good_region ?_
        refine g_op rfl (ValOk.op (v_loadP tabOk rfl rfl tsize48 tagg48 rfl rfl rfl rfl ?_)) 
        refine g_op rfl (ValOk.op (v_move rfl rfl ?_)) 
        obtain ⟨y3, hy3, h⟩ := bnd h
        refine g_op rfl (o_callD [] [] [3002] (core_value rfl rfl) (m_laws_markType_ok k y2.1 1 _ _ hy3) trivial (.cons (.agg (.cons (.refl _) (.cons (.hd _ _ _) (.cons (.refl _) (.nil))))) (.cons (.refl _) (.nil))) ⟨rfl, trivial⟩ rfl rfl rfl ?_)
        rintro _ _ ⟨rfl, rfl⟩
        refine ⟨_, [(3002, _)], .refl _, rfl, rfl, rfl, rfl, .inl rfl, ?_⟩
        refine g_op rfl (ValOk.op (v_assign rfl rfl ?_)) 
        refine g_nil ?_
        refine hK11 _ ?_
        refine Good.le (σ' := ⟨66, [(0, _), (2, _), (3, _), (4, _), (5, _), (7, _)], [(13, (_, _)), (3001, (_, _)), (15, (_, _)), (3002, (_, _))]⟩) (le_w [some 13, some 3001, some 15, some 3002] rfl ⟨⟨_, rfl, .refl _⟩, ⟨⟨_, rfl, .refl _⟩, ⟨⟨_, rfl, .refl _⟩, ⟨⟨_, rfl, .refl _⟩, ⟨⟨_, rfl, .refl _⟩, ⟨⟨_, rfl, .refl _⟩, trivial⟩⟩⟩⟩⟩⟩ ⟨⟨_, rfl, .refl _⟩, ⟨⟨_, rfl, .refl _⟩, ⟨⟨_, rfl, .refl _⟩, ⟨⟨_, rfl, .refl _⟩, trivial⟩⟩⟩⟩ (by decide)) ?_
        refine good_seq fun K12 hK12 => ?_
        refine good_region ?_
        refine g_op rfl (ValOk.op (v_assign rfl rfl ?_)) 
        refine g_nil ?_
        refine hK12 _ ?_
        refine good_seq fun K13 hK13 => ?_
        refine good_region ?_
        refine g_op rfl (ValOk.op (v_loadP tabOk rfl rfl tsize48 tagg48 rfl rfl rfl rfl ?_)) 
        refine g_op rfl (ValOk.op (v_move rfl rfl ?_)) 
        obtain ⟨y4, hy4, h⟩ := bnd h
        refine g_op rfl (o_callR [3002] [(_, _)] (core_value rfl rfl) (m_laws_heldType_ok k (Typ.mk y2.1.name y3.2 y2.1.must) 1 _ hy4) ⟨⟨_, rfl, .osl (FrzLL.map fun _ _ => encOTyp_frz _)⟩, trivial⟩ (.cons (.agg (.cons (.refl _) (.cons (.frz _ _ _ (.head _)) (.cons (.refl _) (.nil))))) (.cons (.refl _) (.nil))) (.inr (.int _ _)) rfl ?_)
        refine g_op rfl (ValOk.op (v_assign rfl rfl ?_)) 
        refine g_nil ?_
        refine hK13 _ ?_
        refine Good.le (σ' := ⟨66, [(0, _), (2, _), (3, _), (4, _), (5, _), (7, _), (8, _)], [(13, (_, _)), (3001, (_, _)), (15, (_, _)), (3002, (_, _))]⟩) (le_w [some 13, some 3001, some 15, some 3002] rfl ⟨⟨_, rfl, .refl _⟩, ⟨⟨_, rfl, .refl _⟩, ⟨⟨_, rfl, .refl _⟩, ⟨⟨_, rfl, .refl _⟩, ⟨⟨_, rfl, .refl _⟩, ⟨⟨_, rfl, .refl _⟩, ⟨⟨_, rfl, .refl _⟩, trivial⟩⟩⟩⟩⟩⟩⟩ ⟨⟨_, rfl, .refl _⟩, ⟨⟨_, rfl, .refl _⟩, ⟨⟨_, rfl, .refl _⟩, ⟨⟨_, rfl, .refl _⟩, trivial⟩⟩⟩⟩ (by decide)) ?_
        refine good_seq fun K14 hK14 => ?_
        refine good_seq fun K15 hK15 => ?_
        refine good_region ?_
        refine g_op rfl (ValOk.op (v_move rfl rfl ?_)) 
        refine g_op rfl (ValOk.op (v_bin rfl rfl rfl rfl ?_)) 
        refine g_nil ?_
        refine hK15 _ ?_
        refine Good.le (σ' := ⟨66, [(0, _), (2, _), (3, _), (4, _), (5, _), (7, _), (8, _), (40, _)], [(13, (_, _)), (3001, (_, _)), (15, (_, _)), (3002, (_, _))]⟩) (le_w [some 13, some 3001, some 15, some 3002] rfl ⟨⟨_, rfl, .refl _⟩, ⟨⟨_, rfl, .refl _⟩, ⟨⟨_, rfl, .refl _⟩, ⟨⟨_, rfl, .refl _⟩, ⟨⟨_, rfl, .refl _⟩, ⟨⟨_, rfl, .refl _⟩, ⟨⟨_, rfl, .refl _⟩, ⟨⟨_, rfl, .refl _⟩, trivial⟩⟩⟩⟩⟩⟩⟩⟩ ⟨⟨_, rfl, .refl _⟩, ⟨⟨_, rfl, .refl _⟩, ⟨⟨_, rfl, .refl _⟩, ⟨⟨_, rfl, .refl _⟩, trivial⟩⟩⟩⟩ (by decide)) ?_
        refine good_cond rfl (fun hc3 => ?_) (fun hc3 => ?_)
        · replace h := ifT h (dT hc3)
          refine good_seq fun K16 hK16 => ?_
          refine good_region ?_
          refine g_op rfl (ValOk.op (v_assign rfl rfl ?_)) 
          refine g_nil ?_
          refine hK16 _ ?_
          refine Good.le (σ' := ⟨66, [(0, _), (2, _), (3, _), (4, _), (5, _), (7, _), (8, _)], [(13, (_, _)), (3001, (_, _)), (15, (_, _)), (3002, (_, _))]⟩) (le_w [some 13, some 3001, some 15, some 3002] rfl ⟨⟨_, rfl, .refl _⟩, ⟨⟨_, rfl, .refl _⟩, ⟨⟨_, rfl, .refl _⟩, ⟨⟨_, rfl, .refl _⟩, ⟨⟨_, rfl, .refl _⟩, ⟨⟨_, rfl, .refl _⟩, ⟨⟨_, rfl, .refl _⟩, trivial⟩⟩⟩⟩⟩⟩⟩ ⟨⟨_, rfl, .refl _⟩, ⟨⟨_, rfl, .refl _⟩, ⟨⟨_, rfl, .refl _⟩, ⟨⟨_, rfl, .refl _⟩, trivial⟩⟩⟩⟩ (by decide)) ?_
          refine Good.le (σ' := ⟨66, [(2, .bool false)], []⟩) (le_w [] rfl ⟨⟨_, rfl, .refl _⟩, trivial⟩ trivial (by decide)) ?_
          refine good_ret ?_
          obtain rfl := Option.some.inj h
          refine thenQ_ret ?_
          exact endQ_ret (h' := []) [] (.tmp rfl (.nil)) trivial (by decide) ⟨rfl, rfl⟩
        · replace h := ifF h (dF hc3)
          refine good_skip ?_
          refine hK14 _ ?_
          refine Good.le (σ' := ⟨66, [(0, _), (2, _), (3, _), (4, _), (5, _), (7, _), (8, _)], [(13, (_, _)), (3001, (_, _)), (15, (_, _)), (3002, (_, _))]⟩) (le_w [some 13, some 3001, some 15, some 3002] rfl ⟨⟨_, rfl, .refl _⟩, ⟨⟨_, rfl, .refl _⟩, ⟨⟨_, rfl, .refl _⟩, ⟨⟨_, rfl, .refl _⟩, ⟨⟨_, rfl, .refl _⟩, ⟨⟨_, rfl, .refl _⟩, ⟨⟨_, rfl, .refl _⟩, trivial⟩⟩⟩⟩⟩⟩⟩ ⟨⟨_, rfl, .refl _⟩, ⟨⟨_, rfl, .refl _⟩, ⟨⟨_, rfl, .refl _⟩, ⟨⟨_, rfl, .refl _⟩, trivial⟩⟩⟩⟩ (by decide)) ?_
          refine good_seq fun K17 hK17 => ?_
          refine good_seq fun K18 hK18 => ?_
          refine good_region ?_
          refine g_op rfl (ValOk.op (v_move rfl rfl ?_)) 
          refine g_op rfl (ValOk.op (v_move rfl rfl ?_)) 
          refine g_op rfl (ValOk.op (v_bin rfl rfl rfl rfl ?_)) 
          refine g_nil ?_
          refine hK18 _ ?_
          refine Good.le (σ' := ⟨66, [(0, _), (2, _), (3, _), (4, _), (5, _), (7, _), (43, _)], [(13, (_, _)), (3001, (_, _)), (15, (_, _)), (3002, (_, _))]⟩) (le_w [some 13, some 3001, some 15, some 3002] rfl ⟨⟨_, rfl, .refl _⟩, ⟨⟨_, rfl, .refl _⟩, ⟨⟨_, rfl, .refl _⟩, ⟨⟨_, rfl, .refl _⟩, ⟨⟨_, rfl, .refl _⟩, ⟨⟨_, rfl, .refl _⟩, ⟨⟨_, rfl, .refl _⟩, trivial⟩⟩⟩⟩⟩⟩⟩ ⟨⟨_, rfl, .refl _⟩, ⟨⟨_, rfl, .refl _⟩, ⟨⟨_, rfl, .refl _⟩, ⟨⟨_, rfl, .refl _⟩, trivial⟩⟩⟩⟩ (by decide)) ?_
          refine good_cond rfl (fun hc4 => ?_) (fun hc4 => ?_)
          · replace h := ifF h (ndT hc4)
            refine good_seq fun K19 hK19 => ?_
            refine good_region ?_
            refine g_op rfl (ValOk.op (v_assign rfl rfl ?_)) 
            refine g_nil ?_
            refine hK19 _ ?_
            refine Good.le (σ' := ⟨66, [(0, _), (2, _), (3, _), (4, _), (5, _), (7, _)], [(13, (_, _)), (3001, (_, _)), (15, (_, _)), (3002, (_, _))]⟩) (le_w [some 13, some 3001, some 15, some 3002] rfl ⟨⟨_, rfl, .refl _⟩, ⟨⟨_, rfl, .refl _⟩, ⟨⟨_, rfl, .refl _⟩, ⟨⟨_, rfl, .refl _⟩, ⟨⟨_, rfl, .refl _⟩, ⟨⟨_, rfl, .refl _⟩, trivial⟩⟩⟩⟩⟩⟩ ⟨⟨_, rfl, .refl _⟩, ⟨⟨_, rfl, .refl _⟩, ⟨⟨_, rfl, .refl _⟩, ⟨⟨_, rfl, .refl _⟩, trivial⟩⟩⟩⟩ (by decide)) ?_
            refine Good.le (σ' := ⟨66, [(2, .bool false)], []⟩) (le_w [] rfl ⟨⟨_, rfl, .refl _⟩, trivial⟩ trivial (by decide)) ?_
            refine good_ret ?_
            obtain rfl := Option.some.inj h
            refine thenQ_ret ?_
            exact endQ_ret (h' := []) [] (.tmp rfl (.nil)) trivial (by decide) ⟨rfl, rfl⟩
          · replace h := ifT h (ndF hc4)
            refine good_skip ?_
            refine hK17 _ ?_
            refine Good.le (σ' := ⟨66, [(0, _), (2, _), (3, _), (4, _), (5, _), (7, _)], [(13, (_, _)), (3001, (_, _)), (15, (_, _)), (3002, (_, _))]⟩) (le_w [some 13, some 3001, some 15, some 3002] rfl ⟨⟨_, rfl, .refl _⟩, ⟨⟨_, rfl, .refl _⟩, ⟨⟨_, rfl, .refl _⟩, ⟨⟨_, rfl, .refl _⟩, ⟨⟨_, rfl, .refl _⟩, ⟨⟨_, rfl, .refl _⟩, trivial⟩⟩⟩⟩⟩⟩ ⟨⟨_, rfl, .refl _⟩, ⟨⟨_, rfl, .refl _⟩, ⟨⟨_, rfl, .refl _⟩, ⟨⟨_, rfl, .refl _⟩, trivial⟩⟩⟩⟩ (by decide)) ?_
            refine good_seq fun K20 hK20 => ?_
            refine good_region ?_
            refine g_op rfl (ValOk.op (v_move rfl rfl ?_)) 
            obtain ⟨y5, hy5, h⟩ := bnd h
            refine g_op rfl (o_callD [] [] [] (core_value rfl rfl) (m_impl_TypeGet_ok k a0 _ hy5) trivial (.cons (.refl _) (.nil)) trivial rfl rfl rfl ?_)
            rintro _ _ ⟨w3, rfl, rfl⟩
            refine ⟨.tup [.agg [.str y5.1.name, .hd 3003 w3, .bool y5.1.must], .bool y5.2], [(3003, _)], .tup (.cons (.agg (.cons (.refl _) (.cons (.hd _ _ _) (.cons (.refl _) (.nil))))) (.cons (.refl _) (.nil))), rfl, rfl, rfl, rfl, .inl rfl, ?_⟩
            refine g_op rfl (ValOk.op (v_move rfl rfl ?_)) 
            refine g_op rfl (ValOk.op (v_extract rfl rfl rfl ?_)) 
            refine g_op rfl (ValOk.op (v_extract rfl rfl rfl ?_)) 
            refine g_op rfl (o_alloc (k := 19) tabOk tzero48 rfl rfl ?_)
            intro b3
            refine g_op rfl (o_storeP tabOk (cs' := [.str y5.1.name, .hd 3003 w3, .bool y5.1.must]) rfl rfl tsize48 rfl rfl rfl (Nat.le_of_ble_eq_true rfl) rfl rfl rfl ?_)
            refine g_op rfl (ValOk.op (v_assign rfl rfl ?_)) 
            refine g_nil ?_
            refine hK20 _ ?_
            refine Good.le (σ' := ⟨66, [(2, _), (3, _), (4, _), (5, _), (7, _), (9, _), (10, _)], [(13, (_, _)), (3001, (_, _)), (15, (_, _)), (3002, (_, _)), (19, (_, _)), (3003, (_, _))]⟩) (le_w [some 13, some 3001, some 15, some 3002, some 19, some 3003] rfl ⟨⟨_, rfl, .refl _⟩, ⟨⟨_, rfl, .refl _⟩, ⟨⟨_, rfl, .refl _⟩, ⟨⟨_, rfl, .refl _⟩, ⟨⟨_, rfl, .refl _⟩, ⟨⟨_, rfl, .refl _⟩, ⟨⟨_, rfl, .refl _⟩, trivial⟩⟩⟩⟩⟩⟩⟩ ⟨⟨_, rfl, .refl _⟩, ⟨⟨_, rfl, .refl _⟩, ⟨⟨_, rfl, .refl _⟩, ⟨⟨_, rfl, .refl _⟩, ⟨⟨_, rfl, .refl _⟩, ⟨⟨_, rfl, .refl _⟩, trivial⟩⟩⟩⟩⟩⟩ (by decide)) ?_
            refine good_seq fun K21 hK21 => ?_
            refine good_seq fun K22 hK22 => ?_
            obtain ⟨o2, ho2, hJ2⟩ := bnd h
            have hw2 : ∀ (s2 : Bool), o2 = Lp.go s2 → ∀ σ', Le σ' ⟨66, [(2, .bool false), (5, .ptr 15 b2 0), (7, .int .i64 y3.1), (57, .bool s2)], [(15, ((.pointer (some ⟨b2, 0, none⟩)), .optr 48 [.str y2.1.name, .hd 3002 w2, .bool y2.1.must])), (3002, (w2, .osl 48 3 (y3.2.map encOTyp)))]⟩ → K22 σ' := by
              intro s2 e2 σ' hle2
              subst e2
              refine hK22 _ (Good.le hle2 ?_)
              replace h := hJ2
              refine good_cond rfl (fun hc5 => ?_) (fun hc5 => ?_)
              · replace h := ifT h hc5
                refine good_seq fun K23 hK23 => ?_
                refine good_region ?_
                refine g_op rfl (ValOk.op (v_assign rfl rfl ?_)) 
                refine g_nil ?_
                refine hK23 _ ?_
                refine Good.le (σ' := ⟨66, [(2, _), (5, _), (7, _)], [(15, (_, _)), (3002, (_, _))]⟩) (le_w [some 15, some 3002] rfl ⟨⟨_, rfl, .refl _⟩, ⟨⟨_, rfl, .refl _⟩, ⟨⟨_, rfl, .refl _⟩, trivial⟩⟩⟩ ⟨⟨_, rfl, .refl _⟩, ⟨⟨_, rfl, .refl _⟩, trivial⟩⟩ (by decide)) ?_
                refine Good.le (σ' := ⟨66, [(2, .bool false)], []⟩) (le_w [] rfl ⟨⟨_, rfl, .refl _⟩, trivial⟩ trivial (by decide)) ?_
                refine good_ret ?_
                obtain rfl := Option.some.inj h
                refine thenQ_ret ?_
                exact endQ_ret (h' := []) [] (.tmp rfl (.nil)) trivial (by decide) ⟨rfl, rfl⟩
              · replace h := bF h hc5
                refine good_skip ?_
                refine hK21 _ ?_
                refine Good.le (σ' := ⟨66, [(2, _), (5, _), (7, _)], [(15, (_, _)), (3002, (_, _))]⟩) (le_w [some 15, some 3002] rfl ⟨⟨_, rfl, .refl _⟩, ⟨⟨_, rfl, .refl _⟩, ⟨⟨_, rfl, .refl _⟩, trivial⟩⟩⟩ ⟨⟨_, rfl, .refl _⟩, ⟨⟨_, rfl, .refl _⟩, trivial⟩⟩ (by decide)) ?_
                refine good_seq fun K24 hK24 => ?_
                refine good_region ?_
                refine g_op rfl (ValOk.op (v_assign rfl rfl ?_)) 
                refine g_nil ?_
                refine hK24 _ ?_
                refine good_seq fun K25 hK25 => ?_
                refine good_region ?_
                refine g_op rfl (ValOk.op (v_loadP tabOk rfl rfl tsize48 tagg48 rfl rfl rfl rfl ?_)) 
                refine g_op rfl (ValOk.op (v_move rfl rfl ?_)) 
                obtain ⟨y6, hy6, h⟩ := bnd h
                refine g_op rfl (o_callR [3002] [(_, _)] (core_value rfl rfl) (m_laws_heldType_ok k (Typ.mk y2.1.name y3.2 y2.1.must) 1 _ hy6) ⟨⟨_, rfl, .osl (FrzLL.map fun _ _ => encOTyp_frz _)⟩, trivial⟩ (.cons (.agg (.cons (.refl _) (.cons (.frz _ _ _ (.head _)) (.cons (.refl _) (.nil))))) (.cons (.refl _) (.nil))) (.inr (.int _ _)) rfl ?_)
                refine g_op rfl (ValOk.op (v_assign rfl rfl ?_)) 
                refine g_nil ?_
                refine hK25 _ ?_
                refine Good.le (σ' := ⟨66, [(2, _), (7, _), (8, _)], []⟩) (le_w [] rfl ⟨⟨_, rfl, .refl _⟩, ⟨⟨_, rfl, .refl _⟩, ⟨⟨_, rfl, .refl _⟩, trivial⟩⟩⟩ trivial (by decide)) ?_
                refine good_seq fun K26 hK26 => ?_
                refine good_seq fun K27 hK27 => ?_
                refine good_region ?_
                refine g_op rfl (ValOk.op (v_move rfl rfl ?_)) 
                refine g_op rfl (ValOk.op (v_bin rfl rfl rfl rfl ?_)) 
                refine g_nil ?_
                refine hK27 _ ?_
                refine Good.le (σ' := ⟨66, [(2, _), (7, _), (8, _), (62, _)], []⟩) (le_w [] rfl ⟨⟨_, rfl, .refl _⟩, ⟨⟨_, rfl, .refl _⟩, ⟨⟨_, rfl, .refl _⟩, ⟨⟨_, rfl, .refl _⟩, trivial⟩⟩⟩⟩ trivial (by decide)) ?_
                refine good_cond rfl (fun hc6 => ?_) (fun hc6 => ?_)
                · replace h := ifT h (dT hc6)
                  refine good_seq fun K28 hK28 => ?_
                  refine good_region ?_
                  refine g_op rfl (ValOk.op (v_assign rfl rfl ?_)) 
                  refine g_nil ?_
                  refine hK28 _ ?_
                  refine Good.le (σ' := ⟨66, [(2, _), (7, _), (8, _)], []⟩) (le_w [] rfl ⟨⟨_, rfl, .refl _⟩, ⟨⟨_, rfl, .refl _⟩, ⟨⟨_, rfl, .refl _⟩, trivial⟩⟩⟩ trivial (by decide)) ?_
                  refine Good.le (σ' := ⟨66, [(2, .bool false)], []⟩) (le_w [] rfl ⟨⟨_, rfl, .refl _⟩, trivial⟩ trivial (by decide)) ?_
                  refine good_ret ?_
                  obtain rfl := Option.some.inj h
                  refine thenQ_ret ?_
                  exact endQ_ret (h' := []) [] (.tmp rfl (.nil)) trivial (by decide) ⟨rfl, rfl⟩
                · replace h := ifF h (dF hc6)
                  refine good_skip ?_
                  refine hK26 _ ?_
                  refine Good.le (σ' := ⟨66, [(2, _), (7, _), (8, _)], []⟩) (le_w [] rfl ⟨⟨_, rfl, .refl _⟩, ⟨⟨_, rfl, .refl _⟩, ⟨⟨_, rfl, .refl _⟩, trivial⟩⟩⟩ trivial (by decide)) ?_
                  refine good_seq fun K29 hK29 => ?_
                  refine good_seq fun K30 hK30 => ?_
                  refine good_region ?_
                  refine g_op rfl (ValOk.op (v_move rfl rfl ?_)) 
                  refine g_op rfl (ValOk.op (v_move rfl rfl ?_)) 
                  refine g_op rfl (ValOk.op (v_bin rfl rfl rfl rfl ?_)) 
                  refine g_nil ?_
                  refine hK30 _ ?_
                  refine Good.le (σ' := ⟨66, [(2, _), (65, _)], []⟩) (le_w [] rfl ⟨⟨_, rfl, .refl _⟩, ⟨⟨_, rfl, .refl _⟩, trivial⟩⟩ trivial (by decide)) ?_
                  refine good_cond rfl (fun hc7 => ?_) (fun hc7 => ?_)
                  · replace h := ifF h (ndT hc7)
                    refine good_seq fun K31 hK31 => ?_
                    refine good_region ?_
                    refine g_op rfl (ValOk.op (v_assign rfl rfl ?_)) 
                    refine g_nil ?_
                    refine hK31 _ ?_
                    refine Good.le (σ' := ⟨66, [(2, _)], []⟩) (le_w [] rfl ⟨⟨_, rfl, .refl _⟩, trivial⟩ trivial (by decide)) ?_
                    refine Good.le (σ' := ⟨66, [(2, .bool false)], []⟩) (le_w [] rfl ⟨⟨_, rfl, .refl _⟩, trivial⟩ trivial (by decide)) ?_
                    refine good_ret ?_
                    obtain rfl := Option.some.inj h
                    refine thenQ_ret ?_
                    exact endQ_ret (h' := []) [] (.tmp rfl (.nil)) trivial (by decide) ⟨rfl, rfl⟩
                  · replace h := ifT h (ndF hc7)
                    refine good_skip ?_
                    refine hK29 _ ?_
                    refine Good.le (σ' := ⟨66, [(2, _)], []⟩) (le_w [] rfl ⟨⟨_, rfl, .refl _⟩, trivial⟩ trivial (by decide)) ?_
                    refine good_seq fun K32 hK32 => ?_
                    refine good_region ?_
                    refine g_op rfl (ValOk.op (v_assign rfl rfl ?_)) 
                    refine g_nil ?_
                    refine hK32 _ ?_
                    refine Good.le (σ' := ⟨66, [(2, .bool true)], []⟩) (le_w [] rfl ⟨⟨_, rfl, .refl _⟩, trivial⟩ trivial (by decide)) ?_
                    refine good_ret ?_
                    obtain rfl := Option.some.inj h
                    exact endQ_ret (h' := []) [] (.tmp rfl (.nil)) trivial (by decide) ⟨rfl, rfl⟩
            replace h := ho2
            refine good_region ?_
            refine g_op rfl (ValOk.op (v_loadP tabOk rfl rfl tsize48 tagg48 rfl rfl rfl rfl ?_)) 
            refine g_op rfl (ValOk.op (v_loadP tabOk rfl rfl tsize48 tagg48 rfl rfl rfl rfl ?_)) 
            obtain ⟨y7, hy7, h⟩ := bnd h
            refine g_op rfl (o_callR [3003, 3001] [(_, _), (_, _)] (core_value rfl rfl) (m_laws_eqType_ok k y5.1 y1.1 _ hy7) ⟨⟨_, rfl, .osl (FrzLL.map fun _ _ => encOTyp_frz _)⟩, ⟨⟨_, rfl, .osl (FrzLL.map fun _ _ => encOTyp_frz _)⟩, trivial⟩⟩ (.cons (.agg (.cons (.refl _) (.cons (.frz _ _ _ (.head _)) (.cons (.refl _) (.nil))))) (.cons (.agg (.cons (.refl _) (.cons (.frz _ _ _ (.tail _ (.head _))) (.cons (.refl _) (.nil))))) (.nil))) (.inr (.bool _)) rfl ?_)
            refine g_op rfl (ValOk.op (v_not rfl rfl ?_)) 
            refine g_op rfl (ValOk.op (v_move rfl rfl ?_)) 
            rcases bsplit ((!y7)) with hg1 | hg1
            · replace h := bF h (nT hg1)
              refine g_no rfl rfl hg1 rfl ?_
              refine g_no rfl rfl hg1 rfl ?_
              refine g_no rfl rfl hg1 rfl ?_
              refine g_op rfl (ValOk.op (v_pickT rfl hg1 rfl rfl ?_)) 
              refine g_nil ?_
              exact hw2 true (Option.some.inj h).symm _ (le_w [some 15, some 3002] rfl ⟨⟨_, rfl, .refl _⟩, ⟨⟨_, rfl, .refl _⟩, ⟨⟨_, rfl, .refl _⟩, ⟨⟨_, rfl, .refl _⟩, trivial⟩⟩⟩⟩ ⟨⟨_, rfl, .refl _⟩, ⟨⟨_, rfl, .refl _⟩, trivial⟩⟩ (by decide))
            · replace h := ifT h (nF hg1)
              refine g_yes rfl rfl hg1 (ValOk.op (v_move rfl rfl ?_)) 
              refine g_yes rfl rfl hg1 (ValOk.op (v_move rfl rfl ?_)) 
              refine g_yes rfl rfl hg1 (ValOk.op (v_binT tabOk (r := .bool (!decide (y5.2 = y1.2))) rfl rfl (by simp [binT, eqr]) rfl ?_)) 
              refine g_op rfl (ValOk.op (v_pickF rfl hg1 rfl rfl ?_)) 
              refine g_nil ?_
              exact hw2 (!(decide (y5.2 = y1.2))) (Option.some.inj h).symm _ (le_w [some 15, some 3002] rfl ⟨⟨_, rfl, .refl _⟩, ⟨⟨_, rfl, .refl _⟩, ⟨⟨_, rfl, .refl _⟩, ⟨⟨_, rfl, .refl _⟩, trivial⟩⟩⟩⟩ ⟨⟨_, rfl, .refl _⟩, ⟨⟨_, rfl, .refl _⟩, trivial⟩⟩ (by decide))
    replace h := ho1
    refine good_region ?_
    refine g_op rfl (ValOk.op (v_loadP tabOk rfl rfl tsize48 tagg48 rfl rfl rfl rfl ?_)) 
    refine g_op rfl (ValOk.op (v_loadP tabOk rfl rfl tsize48 tagg48 rfl rfl rfl rfl ?_)) 
    obtain ⟨y8, hy8, h⟩ := bnd h
    refine g_op rfl (o_callR [3002, 3001] [(_, _), (_, _)] (core_value rfl rfl) (m_laws_eqType_ok k y2.1 y1.1 _ hy8) ⟨⟨_, rfl, .osl (FrzLL.map fun _ _ => encOTyp_frz _)⟩, ⟨⟨_, rfl, .osl (FrzLL.map fun _ _ => encOTyp_frz _)⟩, trivial⟩⟩ (.cons (.agg (.cons (.refl _) (.cons (.frz _ _ _ (.head _)) (.cons (.refl _) (.nil))))) (.cons (.agg (.cons (.refl _) (.cons (.frz _ _ _ (.tail _ (.head _))) (.cons (.refl _) (.nil))))) (.nil))) (.inr (.bool _)) rfl ?_)
    refine g_op rfl (ValOk.op (v_not rfl rfl ?_)) 
    refine g_op rfl (ValOk.op (v_move rfl rfl ?_)) 
    rcases bsplit ((!y8)) with hg2 | hg2
    · replace h := bF h (nT hg2)
      refine g_no rfl rfl hg2 rfl ?_
      refine g_no rfl rfl hg2 rfl ?_
      refine g_no rfl rfl hg2 rfl ?_
      refine g_op rfl (ValOk.op (v_pickT rfl hg2 rfl rfl ?_)) 
      refine g_nil ?_
      exact hw1 true (Option.some.inj h).symm _ (le_w [some 13, some 3001, some 15, some 3002] rfl ⟨⟨_, rfl, .refl _⟩, ⟨⟨_, rfl, .refl _⟩, ⟨⟨_, rfl, .refl _⟩, ⟨⟨_, rfl, .refl _⟩, ⟨⟨_, rfl, .refl _⟩, ⟨⟨_, rfl, .refl _⟩, trivial⟩⟩⟩⟩⟩⟩ ⟨⟨_, rfl, .refl _⟩, ⟨⟨_, rfl, .refl _⟩, ⟨⟨_, rfl, .refl _⟩, ⟨⟨_, rfl, .refl _⟩, trivial⟩⟩⟩⟩ (by decide))
    · replace h := ifT h (nF hg2)
      refine g_yes rfl rfl hg2 (ValOk.op (v_move rfl rfl ?_)) 
      refine g_yes rfl rfl hg2 (ValOk.op (v_move rfl rfl ?_)) 
      refine g_yes rfl rfl hg2 (ValOk.op (v_binT tabOk (r := .bool (!decide (y2.2 = y1.2))) rfl rfl (by simp [binT, eqr]) rfl ?_)) 
      refine g_op rfl (ValOk.op (v_pickF rfl hg2 rfl rfl ?_)) 
      refine g_nil ?_
      exact hw1 (!(decide (y2.2 = y1.2))) (Option.some.inj h).symm _ (le_w [some 13, some 3001, some 15, some 3002] rfl ⟨⟨_, rfl, .refl _⟩, ⟨⟨_, rfl, .refl _⟩, ⟨⟨_, rfl, .refl _⟩, ⟨⟨_, rfl, .refl _⟩, ⟨⟨_, rfl, .refl _⟩, ⟨⟨_, rfl, .refl _⟩, trivial⟩⟩⟩⟩⟩⟩ ⟨⟨_, rfl, .refl _⟩, ⟨⟨_, rfl, .refl _⟩, ⟨⟨_, rfl, .refl _⟩, ⟨⟨_, rfl, .refl _⟩, trivial⟩⟩⟩⟩ (by decide))
end Go.Proofs.Ytopbbjoflopjbaa
