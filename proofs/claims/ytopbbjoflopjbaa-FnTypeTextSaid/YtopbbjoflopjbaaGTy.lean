/- What functions of this program answer, as plain functions; each theorem says that the code comes to just that. -/
import Derived.Test.YtopbbjoflopjbaaDat
import Derived.Test.YtopbbjoflopjbaaB13
import Derived.Test.YtopbbjoflopjbaaDatO
import Derived.Test.YtopbbjoflopjbaaGnm
/-! Functions of the program. -/
set_option linter.unusedVariables false
set_option maxRecDepth 100000
set_option maxHeartbeats 1000000
namespace Go.Proofs.Ytopbbjoflopjbaa
open Go.Bb
def m_internal_stringslite_HasSuffix (a0 : Bs) (a1 : Bs) : Option Bool :=
  if (a1.length : Int) ≤ (a0.length : Int) then
    if (0 : Int) ≤ (IntKind.wrap .i64 ((a0.length : Int) - (a1.length : Int))) ∧ (IntKind.wrap .i64 ((a0.length : Int) - (a1.length : Int))) ≤ (a0.length : Int) ∧ (a0.length : Int) ≤ (a0.length : Int) then
      some (decide ((sub a0 (IntKind.wrap .i64 ((a0.length : Int) - (a1.length : Int))) (a0.length : Int)) = a1))
    else none
  else
    some false
theorem m_internal_stringslite_HasSuffix_ok : ∀ (a0 : Bs) (a1 : Bs) (r : Bool), m_internal_stringslite_HasSuffix a0 a1 = some r → Does Try.prog 96 [.str a0, .str a1] [] (ret (.bool r)) := by
  intro a0 a1 r h
  rw [m_internal_stringslite_HasSuffix] at h
  refine does_of_good tabOk Try.func96 rfl (by decide +kernel) (Nat.le_of_ble_eq_true rfl) fun c => ?_
  refine Good.le (σ' := ⟨21, [(0, .str a0), (1, .str a1)], []⟩) (Le.refl _) ?_
  refine good_seq fun K1 hK1 => ?_
  refine good_region ?_
  refine g_op rfl (ValOk.op (v_assign rfl rfl ?_)) 
  refine g_nil ?_
  refine hK1 _ ?_
  refine good_seq fun K2 hK2 => ?_
  refine good_region ?_
  refine g_op rfl (ValOk.op (v_move rfl rfl ?_)) 
  refine g_op rfl (ValOk.op (v_lenS tabOk rfl rfl tkind9 rfl ?_)) 
  refine g_op rfl (ValOk.op (v_move rfl rfl ?_)) 
  refine g_op rfl (ValOk.op (v_lenS tabOk rfl rfl tkind9 rfl ?_)) 
  refine g_op rfl (ValOk.op (v_bin rfl rfl rfl rfl ?_)) 
  refine g_op rfl (ValOk.op (v_move rfl rfl ?_)) 
  rcases bsplit ((decide ((a1.length : Int) ≤ (a0.length : Int)))) with hg1 | hg1
  · replace h := ifT h (dT hg1)
    refine g_yes rfl rfl hg1 (ValOk.op (v_move rfl rfl ?_)) 
    refine g_yes rfl rfl hg1 (ValOk.op (v_move rfl rfl ?_)) 
    refine g_yes rfl rfl hg1 (ValOk.op (v_lenS tabOk rfl rfl tkind9 rfl ?_)) 
    refine g_yes rfl rfl hg1 (ValOk.op (v_move rfl rfl ?_)) 
    refine g_yes rfl rfl hg1 (ValOk.op (v_lenS tabOk rfl rfl tkind9 rfl ?_)) 
    refine g_yes rfl rfl hg1 (ValOk.op (v_bin rfl rfl rfl rfl ?_)) 
    obtain ⟨hb1, h⟩ := ifS h
    refine g_yes rfl rfl hg1 (ValOk.op (v_sliceSM tabOk rfl rfl rfl rfl tkind9 hb1 rfl ?_)) 
    refine g_yes rfl rfl hg1 (ValOk.op (v_move rfl rfl ?_)) 
    refine g_yes rfl rfl hg1 (ValOk.op (v_bin rfl rfl rfl rfl ?_)) 
    refine g_op rfl (ValOk.op (v_pickT rfl hg1 rfl rfl ?_)) 
    refine g_op rfl (ValOk.op (v_assign rfl rfl ?_)) 
    refine g_nil ?_
    refine hK2 _ ?_
    refine Good.le (σ' := ⟨21, [(4, _)], []⟩) (le_w [] rfl ⟨⟨_, rfl, .refl _⟩, trivial⟩ trivial (by decide)) ?_
    refine Good.le (σ' := ⟨21, [(4, .bool (decide ((sub a0 (IntKind.wrap .i64 ((a0.length : Int) - (a1.length : Int))) (a0.length : Int)) = a1)))], []⟩) (le_w [] rfl ⟨⟨_, rfl, .refl _⟩, trivial⟩ trivial (by decide)) ?_
    refine good_ret ?_
    obtain rfl := Option.some.inj h
    exact endQ_ret (h' := []) [] (.tmp rfl (.nil)) trivial (by decide) ⟨rfl, rfl⟩
  · replace h := ifF h (dF hg1)
    refine g_no rfl rfl hg1 rfl ?_
    refine g_no rfl rfl hg1 rfl ?_
    refine g_no rfl rfl hg1 rfl ?_
    refine g_no rfl rfl hg1 rfl ?_
    refine g_no rfl rfl hg1 rfl ?_
    refine g_no rfl rfl hg1 rfl ?_
    refine g_no rfl rfl hg1 rfl ?_
    refine g_no rfl rfl hg1 rfl ?_
    refine g_no rfl rfl hg1 rfl ?_
    refine g_op rfl (ValOk.op (v_pickF rfl hg1 rfl rfl ?_)) 
    refine g_op rfl (ValOk.op (v_assign rfl rfl ?_)) 
    refine g_nil ?_
    refine hK2 _ ?_
    refine Good.le (σ' := ⟨21, [(4, _)], []⟩) (le_w [] rfl ⟨⟨_, rfl, .refl _⟩, trivial⟩ trivial (by decide)) ?_
    refine Good.le (σ' := ⟨21, [(4, .bool false)], []⟩) (le_w [] rfl ⟨⟨_, rfl, .refl _⟩, trivial⟩ trivial (by decide)) ?_
    refine good_ret ?_
    obtain rfl := Option.some.inj h
    exact endQ_ret (h' := []) [] (.tmp rfl (.nil)) trivial (by decide) ⟨rfl, rfl⟩
def m_internal_stringslite_CutSuffix (a0 : Bs) (a1 : Bs) : Option (Bs × Bool) :=
  (m_internal_stringslite_HasSuffix a0 a1).bind fun y1 =>
  if y1 = true then
    if (0 : Int) ≤ 0 ∧ (0 : Int) ≤ (IntKind.wrap .i64 ((a0.length : Int) - (a1.length : Int))) ∧ (IntKind.wrap .i64 ((a0.length : Int) - (a1.length : Int))) ≤ (a0.length : Int) then
      some (sub a0 0 (IntKind.wrap .i64 ((a0.length : Int) - (a1.length : Int))), true)
    else none
  else
    some (a0, false)
theorem m_internal_stringslite_CutSuffix_ok : ∀ (a0 : Bs) (a1 : Bs) (r : (Bs × Bool)), m_internal_stringslite_CutSuffix a0 a1 = some r → Does Try.prog 91 [.str a0, .str a1] [] (ret (.tup [.str r.1, .bool r.2])) := by
  intro a0 a1 r h
  rw [m_internal_stringslite_CutSuffix] at h
  refine does_of_good tabOk Try.func91 rfl (by decide +kernel) (Nat.le_of_ble_eq_true rfl) fun c => ?_
  refine Good.le (σ' := ⟨18, [(0, .str a0), (1, .str a1)], []⟩) (Le.refl _) ?_
  refine good_seq fun K1 hK1 => ?_
  refine good_region ?_
  refine g_op rfl (ValOk.op (v_assign rfl rfl ?_)) 
  refine g_op rfl (ValOk.op (v_assign rfl rfl ?_)) 
  refine g_nil ?_
  refine hK1 _ ?_
  refine good_seq fun K2 hK2 => ?_
  refine good_seq fun K3 hK3 => ?_
  refine good_region ?_
  refine g_op rfl (ValOk.op (v_move rfl rfl ?_)) 
  refine g_op rfl (ValOk.op (v_move rfl rfl ?_)) 
  obtain ⟨y1, hy1, h⟩ := bnd h
  refine g_op rfl (o_callR [] [] (core_value rfl rfl) (m_internal_stringslite_HasSuffix_ok a0 a1 _ hy1) trivial (.cons (.refl _) (.cons (.refl _) (.nil))) (.inl rfl) rfl ?_)
  refine g_op rfl (ValOk.op (v_not rfl rfl ?_)) 
  refine g_nil ?_
  refine hK3 _ ?_
  refine Good.le (σ' := ⟨18, [(0, _), (1, _), (4, _), (5, _), (9, _)], []⟩) (le_w [] rfl ⟨⟨_, rfl, .refl _⟩, ⟨⟨_, rfl, .refl _⟩, ⟨⟨_, rfl, .refl _⟩, ⟨⟨_, rfl, .refl _⟩, ⟨⟨_, rfl, .refl _⟩, trivial⟩⟩⟩⟩⟩ trivial (by decide)) ?_
  refine good_cond rfl (fun hc1 => ?_) (fun hc1 => ?_)
  · replace h := bF h (nT hc1)
    refine good_seq fun K4 hK4 => ?_
    refine good_region ?_
    refine g_op rfl (ValOk.op (v_move rfl rfl ?_)) 
    refine g_op rfl (ValOk.op (v_assign rfl rfl ?_)) 
    refine g_op rfl (ValOk.op (v_assign rfl rfl ?_)) 
    refine g_nil ?_
    refine hK4 _ ?_
    refine Good.le (σ' := ⟨18, [(0, _), (1, _), (4, _), (5, _)], []⟩) (le_w [] rfl ⟨⟨_, rfl, .refl _⟩, ⟨⟨_, rfl, .refl _⟩, ⟨⟨_, rfl, .refl _⟩, ⟨⟨_, rfl, .refl _⟩, trivial⟩⟩⟩⟩ trivial (by decide)) ?_
    refine Good.le (σ' := ⟨18, [(4, .str a0), (5, .bool false)], []⟩) (le_w [] rfl ⟨⟨_, rfl, .refl _⟩, ⟨⟨_, rfl, .refl _⟩, trivial⟩⟩ trivial (by decide)) ?_
    refine good_ret ?_
    obtain rfl := Option.some.inj h
    refine thenQ_ret ?_
    exact endQ_ret (h' := []) [] (.tmp rfl (.tmp rfl (.nil))) trivial (by decide) ⟨rfl, rfl⟩
  · replace h := ifT h (nF hc1)
    refine good_skip ?_
    refine hK2 _ ?_
    refine Good.le (σ' := ⟨18, [(0, _), (1, _), (4, _), (5, _)], []⟩) (le_w [] rfl ⟨⟨_, rfl, .refl _⟩, ⟨⟨_, rfl, .refl _⟩, ⟨⟨_, rfl, .refl _⟩, ⟨⟨_, rfl, .refl _⟩, trivial⟩⟩⟩⟩ trivial (by decide)) ?_
    refine good_seq fun K5 hK5 => ?_
    refine good_region ?_
    refine g_op rfl (ValOk.op (v_move rfl rfl ?_)) 
    refine g_op rfl (ValOk.op (v_move rfl rfl ?_)) 
    refine g_op rfl (ValOk.op (v_lenS tabOk rfl rfl tkind9 rfl ?_)) 
    refine g_op rfl (ValOk.op (v_move rfl rfl ?_)) 
    refine g_op rfl (ValOk.op (v_lenS tabOk rfl rfl tkind9 rfl ?_)) 
    refine g_op rfl (ValOk.op (v_bin rfl rfl rfl rfl ?_)) 
    obtain ⟨hb1, h⟩ := ifS h
    refine g_op rfl (ValOk.op (v_sliceSM tabOk rfl rfl rfl rfl tkind9 hb1 rfl ?_)) 
    refine g_op rfl (ValOk.op (v_assign rfl rfl ?_)) 
    refine g_op rfl (ValOk.op (v_assign rfl rfl ?_)) 
    refine g_nil ?_
    refine hK5 _ ?_
    refine Good.le (σ' := ⟨18, [(4, _), (5, _)], []⟩) (le_w [] rfl ⟨⟨_, rfl, .refl _⟩, ⟨⟨_, rfl, .refl _⟩, trivial⟩⟩ trivial (by decide)) ?_
    refine Good.le (σ' := ⟨18, [(4, .str (sub a0 0 (IntKind.wrap .i64 ((a0.length : Int) - (a1.length : Int))))), (5, .bool true)], []⟩) (le_w [] rfl ⟨⟨_, rfl, .refl _⟩, ⟨⟨_, rfl, .refl _⟩, trivial⟩⟩ trivial (by decide)) ?_
    refine good_ret ?_
    obtain rfl := Option.some.inj h
    exact endQ_ret (h' := []) [] (.tmp rfl (.tmp rfl (.nil))) trivial (by decide) ⟨rfl, rfl⟩
def m_strings_CutSuffix (a0 : Bs) (a1 : Bs) : Option (Bs × Bool) :=
  (m_internal_stringslite_CutSuffix a0 a1).bind fun y1 =>
  some (y1.1, y1.2)
theorem m_strings_CutSuffix_ok : ∀ (a0 : Bs) (a1 : Bs) (r : (Bs × Bool)), m_strings_CutSuffix a0 a1 = some r → Does Try.prog 81 [.str a0, .str a1] [] (ret (.tup [.str r.1, .bool r.2])) := by
  intro a0 a1 r h
  rw [m_strings_CutSuffix] at h
  refine does_of_good tabOk Try.func81 rfl (by decide +kernel) (Nat.le_of_ble_eq_true rfl) fun c => ?_
  refine Good.le (σ' := ⟨11, [(0, .str a0), (1, .str a1)], []⟩) (Le.refl _) ?_
  refine good_seq fun K1 hK1 => ?_
  refine good_region ?_
  refine g_op rfl (ValOk.op (v_assign rfl rfl ?_)) 
  refine g_op rfl (ValOk.op (v_assign rfl rfl ?_)) 
  refine g_nil ?_
  refine hK1 _ ?_
  refine good_seq fun K2 hK2 => ?_
  refine good_region ?_
  refine g_op rfl (ValOk.op (v_move rfl rfl ?_)) 
  refine g_op rfl (ValOk.op (v_move rfl rfl ?_)) 
  obtain ⟨y1, hy1, h⟩ := bnd h
  refine g_op rfl (o_callR [] [] (core_value rfl rfl) (m_internal_stringslite_CutSuffix_ok a0 a1 _ hy1) trivial (.cons (.refl _) (.cons (.refl _) (.nil))) (.inl rfl) rfl ?_)
  refine g_op rfl (ValOk.op (v_extract rfl rfl rfl ?_)) 
  refine g_op rfl (ValOk.op (v_extract rfl rfl rfl ?_)) 
  refine g_op rfl (ValOk.op (v_assign rfl rfl ?_)) 
  refine g_op rfl (ValOk.op (v_assign rfl rfl ?_)) 
  refine g_nil ?_
  refine hK2 _ ?_
  refine Good.le (σ' := ⟨11, [(4, _), (5, _)], []⟩) (le_w [] rfl ⟨⟨_, rfl, .refl _⟩, ⟨⟨_, rfl, .refl _⟩, trivial⟩⟩ trivial (by decide)) ?_
  refine Good.le (σ' := ⟨11, [(4, .str y1.1), (5, .bool y1.2)], []⟩) (le_w [] rfl ⟨⟨_, rfl, .refl _⟩, ⟨⟨_, rfl, .refl _⟩, trivial⟩⟩ trivial (by decide)) ?_
  refine good_ret ?_
  obtain rfl := Option.some.inj h
  exact endQ_ret (h' := []) [] (.tmp rfl (.tmp rfl (.nil))) trivial (by decide) ⟨rfl, rfl⟩
def m_internal_stringslite_HasPrefix (a0 : Bs) (a1 : Bs) : Option Bool :=
  if (a1.length : Int) ≤ (a0.length : Int) then
    if (0 : Int) ≤ 0 ∧ (0 : Int) ≤ (a1.length : Int) ∧ (a1.length : Int) ≤ (a0.length : Int) then
      some (decide ((sub a0 0 (a1.length : Int)) = a1))
    else none
  else
    some false
theorem m_internal_stringslite_HasPrefix_ok : ∀ (a0 : Bs) (a1 : Bs) (r : Bool), m_internal_stringslite_HasPrefix a0 a1 = some r → Does Try.prog 97 [.str a0, .str a1] [] (ret (.bool r)) := by
  intro a0 a1 r h
  rw [m_internal_stringslite_HasPrefix] at h
  refine does_of_good tabOk Try.func97 rfl (by decide +kernel) (Nat.le_of_ble_eq_true rfl) fun c => ?_
  refine Good.le (σ' := ⟨18, [(0, .str a0), (1, .str a1)], []⟩) (Le.refl _) ?_
  refine good_seq fun K1 hK1 => ?_
  refine good_region ?_
  refine g_op rfl (ValOk.op (v_assign rfl rfl ?_)) 
  refine g_nil ?_
  refine hK1 _ ?_
  refine good_seq fun K2 hK2 => ?_
  refine good_region ?_
  refine g_op rfl (ValOk.op (v_move rfl rfl ?_)) 
  refine g_op rfl (ValOk.op (v_lenS tabOk rfl rfl tkind9 rfl ?_)) 
  refine g_op rfl (ValOk.op (v_move rfl rfl ?_)) 
  refine g_op rfl (ValOk.op (v_lenS tabOk rfl rfl tkind9 rfl ?_)) 
  refine g_op rfl (ValOk.op (v_bin rfl rfl rfl rfl ?_)) 
  refine g_op rfl (ValOk.op (v_move rfl rfl ?_)) 
  rcases bsplit ((decide ((a1.length : Int) ≤ (a0.length : Int)))) with hg1 | hg1
  · replace h := ifT h (dT hg1)
    refine g_yes rfl rfl hg1 (ValOk.op (v_move rfl rfl ?_)) 
    refine g_yes rfl rfl hg1 (ValOk.op (v_move rfl rfl ?_)) 
    refine g_yes rfl rfl hg1 (ValOk.op (v_lenS tabOk rfl rfl tkind9 rfl ?_)) 
    obtain ⟨hb1, h⟩ := ifS h
    refine g_yes rfl rfl hg1 (ValOk.op (v_sliceSM tabOk rfl rfl rfl rfl tkind9 hb1 rfl ?_)) 
    refine g_yes rfl rfl hg1 (ValOk.op (v_move rfl rfl ?_)) 
    refine g_yes rfl rfl hg1 (ValOk.op (v_bin rfl rfl rfl rfl ?_)) 
    refine g_op rfl (ValOk.op (v_pickT rfl hg1 rfl rfl ?_)) 
    refine g_op rfl (ValOk.op (v_assign rfl rfl ?_)) 
    refine g_nil ?_
    refine hK2 _ ?_
    refine Good.le (σ' := ⟨18, [(4, _)], []⟩) (le_w [] rfl ⟨⟨_, rfl, .refl _⟩, trivial⟩ trivial (by decide)) ?_
    refine Good.le (σ' := ⟨18, [(4, .bool (decide ((sub a0 0 (a1.length : Int)) = a1)))], []⟩) (le_w [] rfl ⟨⟨_, rfl, .refl _⟩, trivial⟩ trivial (by decide)) ?_
    refine good_ret ?_
    obtain rfl := Option.some.inj h
    exact endQ_ret (h' := []) [] (.tmp rfl (.nil)) trivial (by decide) ⟨rfl, rfl⟩
  · replace h := ifF h (dF hg1)
    refine g_no rfl rfl hg1 rfl ?_
    refine g_no rfl rfl hg1 rfl ?_
    refine g_no rfl rfl hg1 rfl ?_
    refine g_no rfl rfl hg1 rfl ?_
    refine g_no rfl rfl hg1 rfl ?_
    refine g_no rfl rfl hg1 rfl ?_
    refine g_op rfl (ValOk.op (v_pickF rfl hg1 rfl rfl ?_)) 
    refine g_op rfl (ValOk.op (v_assign rfl rfl ?_)) 
    refine g_nil ?_
    refine hK2 _ ?_
    refine Good.le (σ' := ⟨18, [(4, _)], []⟩) (le_w [] rfl ⟨⟨_, rfl, .refl _⟩, trivial⟩ trivial (by decide)) ?_
    refine Good.le (σ' := ⟨18, [(4, .bool false)], []⟩) (le_w [] rfl ⟨⟨_, rfl, .refl _⟩, trivial⟩ trivial (by decide)) ?_
    refine good_ret ?_
    obtain rfl := Option.some.inj h
    exact endQ_ret (h' := []) [] (.tmp rfl (.nil)) trivial (by decide) ⟨rfl, rfl⟩
def m_internal_stringslite_CutPrefix (a0 : Bs) (a1 : Bs) : Option (Bs × Bool) :=
  (m_internal_stringslite_HasPrefix a0 a1).bind fun y1 =>
  if y1 = true then
    if (0 : Int) ≤ (a1.length : Int) ∧ (a1.length : Int) ≤ (a0.length : Int) ∧ (a0.length : Int) ≤ (a0.length : Int) then
      some (sub a0 (a1.length : Int) (a0.length : Int), true)
    else none
  else
    some (a0, false)
theorem m_internal_stringslite_CutPrefix_ok : ∀ (a0 : Bs) (a1 : Bs) (r : (Bs × Bool)), m_internal_stringslite_CutPrefix a0 a1 = some r → Does Try.prog 92 [.str a0, .str a1] [] (ret (.tup [.str r.1, .bool r.2])) := by
  intro a0 a1 r h
  rw [m_internal_stringslite_CutPrefix] at h
  refine does_of_good tabOk Try.func92 rfl (by decide +kernel) (Nat.le_of_ble_eq_true rfl) fun c => ?_
  refine Good.le (σ' := ⟨15, [(0, .str a0), (1, .str a1)], []⟩) (Le.refl _) ?_
  refine good_seq fun K1 hK1 => ?_
  refine good_region ?_
  refine g_op rfl (ValOk.op (v_assign rfl rfl ?_)) 
  refine g_op rfl (ValOk.op (v_assign rfl rfl ?_)) 
  refine g_nil ?_
  refine hK1 _ ?_
  refine good_seq fun K2 hK2 => ?_
  refine good_seq fun K3 hK3 => ?_
  refine good_region ?_
  refine g_op rfl (ValOk.op (v_move rfl rfl ?_)) 
  refine g_op rfl (ValOk.op (v_move rfl rfl ?_)) 
  obtain ⟨y1, hy1, h⟩ := bnd h
  refine g_op rfl (o_callR [] [] (core_value rfl rfl) (m_internal_stringslite_HasPrefix_ok a0 a1 _ hy1) trivial (.cons (.refl _) (.cons (.refl _) (.nil))) (.inl rfl) rfl ?_)
  refine g_op rfl (ValOk.op (v_not rfl rfl ?_)) 
  refine g_nil ?_
  refine hK3 _ ?_
  refine Good.le (σ' := ⟨15, [(0, _), (1, _), (4, _), (5, _), (9, _)], []⟩) (le_w [] rfl ⟨⟨_, rfl, .refl _⟩, ⟨⟨_, rfl, .refl _⟩, ⟨⟨_, rfl, .refl _⟩, ⟨⟨_, rfl, .refl _⟩, ⟨⟨_, rfl, .refl _⟩, trivial⟩⟩⟩⟩⟩ trivial (by decide)) ?_
  refine good_cond rfl (fun hc1 => ?_) (fun hc1 => ?_)
  · replace h := bF h (nT hc1)
    refine good_seq fun K4 hK4 => ?_
    refine good_region ?_
    refine g_op rfl (ValOk.op (v_move rfl rfl ?_)) 
    refine g_op rfl (ValOk.op (v_assign rfl rfl ?_)) 
    refine g_op rfl (ValOk.op (v_assign rfl rfl ?_)) 
    refine g_nil ?_
    refine hK4 _ ?_
    refine Good.le (σ' := ⟨15, [(0, _), (1, _), (4, _), (5, _)], []⟩) (le_w [] rfl ⟨⟨_, rfl, .refl _⟩, ⟨⟨_, rfl, .refl _⟩, ⟨⟨_, rfl, .refl _⟩, ⟨⟨_, rfl, .refl _⟩, trivial⟩⟩⟩⟩ trivial (by decide)) ?_
    refine Good.le (σ' := ⟨15, [(4, .str a0), (5, .bool false)], []⟩) (le_w [] rfl ⟨⟨_, rfl, .refl _⟩, ⟨⟨_, rfl, .refl _⟩, trivial⟩⟩ trivial (by decide)) ?_
    refine good_ret ?_
    obtain rfl := Option.some.inj h
    refine thenQ_ret ?_
    exact endQ_ret (h' := []) [] (.tmp rfl (.tmp rfl (.nil))) trivial (by decide) ⟨rfl, rfl⟩
  · replace h := ifT h (nF hc1)
    refine good_skip ?_
    refine hK2 _ ?_
    refine Good.le (σ' := ⟨15, [(0, _), (1, _), (4, _), (5, _)], []⟩) (le_w [] rfl ⟨⟨_, rfl, .refl _⟩, ⟨⟨_, rfl, .refl _⟩, ⟨⟨_, rfl, .refl _⟩, ⟨⟨_, rfl, .refl _⟩, trivial⟩⟩⟩⟩ trivial (by decide)) ?_
    refine good_seq fun K5 hK5 => ?_
    refine good_region ?_
    refine g_op rfl (ValOk.op (v_move rfl rfl ?_)) 
    refine g_op rfl (ValOk.op (v_move rfl rfl ?_)) 
    refine g_op rfl (ValOk.op (v_lenS tabOk rfl rfl tkind9 rfl ?_)) 
    obtain ⟨hb1, h⟩ := ifS h
    refine g_op rfl (ValOk.op (v_sliceSM tabOk rfl rfl rfl rfl tkind9 hb1 rfl ?_)) 
    refine g_op rfl (ValOk.op (v_assign rfl rfl ?_)) 
    refine g_op rfl (ValOk.op (v_assign rfl rfl ?_)) 
    refine g_nil ?_
    refine hK5 _ ?_
    refine Good.le (σ' := ⟨15, [(4, _), (5, _)], []⟩) (le_w [] rfl ⟨⟨_, rfl, .refl _⟩, ⟨⟨_, rfl, .refl _⟩, trivial⟩⟩ trivial (by decide)) ?_
    refine Good.le (σ' := ⟨15, [(4, .str (sub a0 (a1.length : Int) (a0.length : Int))), (5, .bool true)], []⟩) (le_w [] rfl ⟨⟨_, rfl, .refl _⟩, ⟨⟨_, rfl, .refl _⟩, trivial⟩⟩ trivial (by decide)) ?_
    refine good_ret ?_
    obtain rfl := Option.some.inj h
    exact endQ_ret (h' := []) [] (.tmp rfl (.tmp rfl (.nil))) trivial (by decide) ⟨rfl, rfl⟩
def m_strings_CutPrefix (a0 : Bs) (a1 : Bs) : Option (Bs × Bool) :=
  (m_internal_stringslite_CutPrefix a0 a1).bind fun y1 =>
  some (y1.1, y1.2)
theorem m_strings_CutPrefix_ok : ∀ (a0 : Bs) (a1 : Bs) (r : (Bs × Bool)), m_strings_CutPrefix a0 a1 = some r → Does Try.prog 82 [.str a0, .str a1] [] (ret (.tup [.str r.1, .bool r.2])) := by
  intro a0 a1 r h
  rw [m_strings_CutPrefix] at h
  refine does_of_good tabOk Try.func82 rfl (by decide +kernel) (Nat.le_of_ble_eq_true rfl) fun c => ?_
  refine Good.le (σ' := ⟨11, [(0, .str a0), (1, .str a1)], []⟩) (Le.refl _) ?_
  refine good_seq fun K1 hK1 => ?_
  refine good_region ?_
  refine g_op rfl (ValOk.op (v_assign rfl rfl ?_)) 
  refine g_op rfl (ValOk.op (v_assign rfl rfl ?_)) 
  refine g_nil ?_
  refine hK1 _ ?_
  refine good_seq fun K2 hK2 => ?_
  refine good_region ?_
  refine g_op rfl (ValOk.op (v_move rfl rfl ?_)) 
  refine g_op rfl (ValOk.op (v_move rfl rfl ?_)) 
  obtain ⟨y1, hy1, h⟩ := bnd h
  refine g_op rfl (o_callR [] [] (core_value rfl rfl) (m_internal_stringslite_CutPrefix_ok a0 a1 _ hy1) trivial (.cons (.refl _) (.cons (.refl _) (.nil))) (.inl rfl) rfl ?_)
  refine g_op rfl (ValOk.op (v_extract rfl rfl rfl ?_)) 
  refine g_op rfl (ValOk.op (v_extract rfl rfl rfl ?_)) 
  refine g_op rfl (ValOk.op (v_assign rfl rfl ?_)) 
  refine g_op rfl (ValOk.op (v_assign rfl rfl ?_)) 
  refine g_nil ?_
  refine hK2 _ ?_
  refine Good.le (σ' := ⟨11, [(4, _), (5, _)], []⟩) (le_w [] rfl ⟨⟨_, rfl, .refl _⟩, ⟨⟨_, rfl, .refl _⟩, trivial⟩⟩ trivial (by decide)) ?_
  refine Good.le (σ' := ⟨11, [(4, .str y1.1), (5, .bool y1.2)], []⟩) (le_w [] rfl ⟨⟨_, rfl, .refl _⟩, ⟨⟨_, rfl, .refl _⟩, trivial⟩⟩ trivial (by decide)) ?_
  refine good_ret ?_
  obtain rfl := Option.some.inj h
  exact endQ_ret (h' := []) [] (.tmp rfl (.tmp rfl (.nil))) trivial (by decide) ⟨rfl, rfl⟩
def m_impl_typeWithin : Nat → Bs → Int → Option (Typ × Bool)
  | 0, _, _ => none
  | k + 1, a0, a1 =>
    (m_strings_CutSuffix a0 [33]).bind fun y1 =>
    if a1 < 1 then
      some ((Typ.mk ([] : Bs) ([] : List Typ) false), false)
    else
      (m_strings_CutPrefix y1.1 [91]).bind fun y2 =>
      if y2.2 = true then
        (m_strings_CutSuffix y2.1 [93]).bind fun y4 =>
        if y4.2 = true then
          (m_impl_typeWithin k y4.1 (IntKind.wrap .i64 (a1 - 1))).bind fun y5 =>
          some ((Typ.mk ([] : Bs) [y5.1] y1.2), y5.2)
        else
          some ((Typ.mk ([] : Bs) ([] : List Typ) false), false)
      else
        (m_impl_isName k y1.1).bind fun y3 =>
        some ((Typ.mk y1.1 ([] : List Typ) y1.2), y3)
def P_m_impl_typeWithin (k : Nat) : Prop := ∀ (a0 : Bs) (a1 : Int) (r : (Typ × Bool)), m_impl_typeWithin k a0 a1 = some r → Does Try.prog 61 [.str a0, .int .i64 a1] [] (fun q h' => ∃ u0 : Value, q = .tup [.agg [.str r.1.name, .hd 100 u0, .bool r.1.must], .bool r.2] ∧ h' = [(100, (u0, .osl 48 3 (r.1.of_.map encOTyp)))])
theorem m_impl_typeWithin_step (k : Nat) (ih : ∀ m, m < k → P_m_impl_typeWithin m) : P_m_impl_typeWithin k := by
  intro a0 a1 r h
  obtain ⟨k, rfl⟩ : ∃ k', k = k' + 1 := by cases k with | zero => (rw [m_impl_typeWithin] at h; cases h) | succ k' => exact ⟨k', rfl⟩
  rw [m_impl_typeWithin] at h
  refine does_of_good tabOk Try.func61 rfl (by decide +kernel) (Nat.le_of_ble_eq_true rfl) fun c => ?_
  refine Good.le (σ' := ⟨52, [(0, .str a0), (1, .int .i64 a1)], []⟩) (Le.refl _) ?_
  refine good_seq fun K1 hK1 => ?_
  refine good_region ?_
  refine g_op rfl (o_alloc (k := 14) tabOk tzero48 rfl rfl ?_)
  intro b1
  refine g_op rfl (ValOk.op (v_assign rfl rfl ?_)) 
  refine g_nil ?_
  refine hK1 _ ?_
  refine good_seq fun K2 hK2 => ?_
  refine good_region ?_
  refine g_op rfl (ValOk.op (v_build tabOk (cs := [.str ([] : Bs), .nil, .bool false]) tzero48 tsok48 rfl rfl rfl ?_)) 
  refine g_op rfl (o_alloc (k := 16) tabOk tzero48 rfl rfl ?_)
  intro b2
  refine g_op rfl (o_storeP tabOk (cs' := [.str ([] : Bs), .nil, .bool false]) rfl rfl tsize48 rfl rfl rfl (Nat.le_of_ble_eq_true rfl) rfl rfl rfl ?_)
  refine g_nil ?_
  refine hK2 _ ?_
  refine Good.le (σ' := ⟨52, [(0, _), (1, _), (4, _), (5, _), (6, _)], [(14, (_, _)), (16, (_, _))]⟩) (le_w [some 14, some 16] rfl ⟨⟨_, rfl, .refl _⟩, ⟨⟨_, rfl, .refl _⟩, ⟨⟨_, rfl, .refl _⟩, ⟨⟨_, rfl, .refl _⟩, ⟨⟨_, rfl, .refl _⟩, trivial⟩⟩⟩⟩⟩ ⟨⟨_, rfl, .refl _⟩, ⟨⟨_, rfl, .refl _⟩, trivial⟩⟩ (by decide)) ?_
  refine good_seq fun K3 hK3 => ?_
  refine good_region ?_
  refine g_op rfl (ValOk.op (v_move rfl rfl ?_)) 
  obtain ⟨y1, hy1, h⟩ := bnd h
  refine g_op rfl (o_callR [] [] (core_value rfl rfl) (m_strings_CutSuffix_ok a0 [33] _ hy1) trivial (.cons (.refl _) (.cons (.refl _) (.nil))) (.inl rfl) rfl ?_)
  refine g_op rfl (ValOk.op (v_move rfl rfl ?_)) 
  refine g_op rfl (ValOk.op (v_extract rfl rfl rfl ?_)) 
  refine g_op rfl (ValOk.op (v_extract rfl rfl rfl ?_)) 
  refine g_op rfl (ValOk.op (v_assign rfl rfl ?_)) 
  refine g_op rfl (ValOk.op (v_fieldP tabOk rfl tfoff48_2 rfl ?_)) 
  refine g_op rfl (o_storeP tabOk (cs' := [.str ([] : Bs), .nil, .bool y1.2]) rfl rfl tsize4 rfl rfl rfl (Nat.le_of_ble_eq_true rfl) rfl rfl rfl ?_)
  refine g_nil ?_
  refine hK3 _ ?_
  refine Good.le (σ' := ⟨52, [(0, _), (1, _), (4, _), (5, _), (6, _)], [(14, (_, _)), (16, (_, _))]⟩) (le_w [some 14, some 16] rfl ⟨⟨_, rfl, .refl _⟩, ⟨⟨_, rfl, .refl _⟩, ⟨⟨_, rfl, .refl _⟩, ⟨⟨_, rfl, .refl _⟩, ⟨⟨_, rfl, .refl _⟩, trivial⟩⟩⟩⟩⟩ ⟨⟨_, rfl, .refl _⟩, ⟨⟨_, rfl, .refl _⟩, trivial⟩⟩ (by decide)) ?_
  refine good_seq fun K4 hK4 => ?_
  refine good_seq fun K5 hK5 => ?_
  refine good_region ?_
  refine g_op rfl (ValOk.op (v_move rfl rfl ?_)) 
  refine g_op rfl (ValOk.op (v_bin rfl rfl rfl rfl ?_)) 
  refine g_nil ?_
  refine hK5 _ ?_
  refine Good.le (σ' := ⟨52, [(0, _), (1, _), (4, _), (5, _), (6, _), (18, _)], [(14, (_, _)), (16, (_, _))]⟩) (le_w [some 14, some 16] rfl ⟨⟨_, rfl, .refl _⟩, ⟨⟨_, rfl, .refl _⟩, ⟨⟨_, rfl, .refl _⟩, ⟨⟨_, rfl, .refl _⟩, ⟨⟨_, rfl, .refl _⟩, ⟨⟨_, rfl, .refl _⟩, trivial⟩⟩⟩⟩⟩⟩ ⟨⟨_, rfl, .refl _⟩, ⟨⟨_, rfl, .refl _⟩, trivial⟩⟩ (by decide)) ?_
  refine good_cond rfl (fun hc1 => ?_) (fun hc1 => ?_)
  · replace h := ifT h (dT hc1)
    refine good_seq fun K6 hK6 => ?_
    refine good_region ?_
    refine g_op rfl (ValOk.op (v_build tabOk (cs := [.str ([] : Bs), .nil, .bool false]) tzero48 tsok48 rfl rfl rfl ?_)) 
    refine g_op rfl (o_storeP tabOk (cs' := [.str ([] : Bs), .nil, .bool false]) rfl rfl tsize48 rfl rfl rfl (Nat.le_of_ble_eq_true rfl) rfl rfl rfl ?_)
    refine g_op rfl (ValOk.op (v_assign rfl rfl ?_)) 
    refine g_nil ?_
    refine hK6 _ ?_
    refine Good.le (σ' := ⟨52, [(0, _), (1, _), (4, _), (5, _), (6, _)], [(14, (_, _)), (16, (_, _))]⟩) (le_w [some 14, some 16] rfl ⟨⟨_, rfl, .refl _⟩, ⟨⟨_, rfl, .refl _⟩, ⟨⟨_, rfl, .refl _⟩, ⟨⟨_, rfl, .refl _⟩, ⟨⟨_, rfl, .refl _⟩, trivial⟩⟩⟩⟩⟩ ⟨⟨_, rfl, .refl _⟩, ⟨⟨_, rfl, .refl _⟩, trivial⟩⟩ (by decide)) ?_
    refine Good.le (σ' := ⟨52, [(4, .ptr 14 b1 0), (5, .bool false)], [(100, (nilV, .osl 48 3 (([] : List Typ).map encOTyp))), (14, ((.pointer (some ⟨b1, 0, none⟩)), .optr 48 [.str ([] : Bs), .hd 100 nilV, .bool false]))]⟩) (le_w [none, some 14] rfl ⟨⟨_, rfl, .refl _⟩, ⟨⟨_, rfl, .refl _⟩, trivial⟩⟩ ⟨⟨rfl, _, _, rfl⟩, ⟨⟨_, rfl, .optr (.cons (.refl _) (.cons (.nilhd _) (.cons (.refl _) (.nil))))⟩, trivial⟩⟩ (by decide)) ?_
    refine good_ret ?_
    obtain rfl := Option.some.inj h
    refine thenQ_ret ?_
    exact endQ_ret (h' := [(100, (_, _))]) [some 100] (.cell rfl rfl tsize48 tagg48 rfl rfl rfl (.tmp rfl (.nil))) ⟨⟨_, rfl, .refl _⟩, trivial⟩ (by decide) ⟨nilV, rfl, rfl⟩
  · replace h := ifF h (dF hc1)
    refine good_skip ?_
    refine hK4 _ ?_
    refine Good.le (σ' := ⟨52, [(0, _), (1, _), (4, _), (5, _), (6, _)], [(14, (_, _)), (16, (_, _))]⟩) (le_w [some 14, some 16] rfl ⟨⟨_, rfl, .refl _⟩, ⟨⟨_, rfl, .refl _⟩, ⟨⟨_, rfl, .refl _⟩, ⟨⟨_, rfl, .refl _⟩, ⟨⟨_, rfl, .refl _⟩, trivial⟩⟩⟩⟩⟩ ⟨⟨_, rfl, .refl _⟩, ⟨⟨_, rfl, .refl _⟩, trivial⟩⟩ (by decide)) ?_
    refine good_seq fun K7 hK7 => ?_
    refine good_region ?_
    refine g_op rfl (ValOk.op (v_move rfl rfl ?_)) 
    obtain ⟨y2, hy2, h⟩ := bnd h
    refine g_op rfl (o_callR [] [] (core_value rfl rfl) (m_strings_CutPrefix_ok y1.1 [91] _ hy2) trivial (.cons (.refl _) (.cons (.refl _) (.nil))) (.inl rfl) rfl ?_)
    refine g_op rfl (ValOk.op (v_move rfl rfl ?_)) 
    refine g_op rfl (ValOk.op (v_extract rfl rfl rfl ?_)) 
    refine g_op rfl (ValOk.op (v_extract rfl rfl rfl ?_)) 
    refine g_op rfl (ValOk.op (v_assign rfl rfl ?_)) 
    refine g_op rfl (ValOk.op (v_assign rfl rfl ?_)) 
    refine g_nil ?_
    refine hK7 _ ?_
    refine Good.le (σ' := ⟨52, [(0, _), (1, _), (4, _), (5, _), (6, _), (7, _), (8, _)], [(14, (_, _)), (16, (_, _))]⟩) (le_w [some 14, some 16] rfl ⟨⟨_, rfl, .refl _⟩, ⟨⟨_, rfl, .refl _⟩, ⟨⟨_, rfl, .refl _⟩, ⟨⟨_, rfl, .refl _⟩, ⟨⟨_, rfl, .refl _⟩, ⟨⟨_, rfl, .refl _⟩, ⟨⟨_, rfl, .refl _⟩, trivial⟩⟩⟩⟩⟩⟩⟩ ⟨⟨_, rfl, .refl _⟩, ⟨⟨_, rfl, .refl _⟩, trivial⟩⟩ (by decide)) ?_
    refine good_seq fun K8 hK8 => ?_
    refine good_seq fun K9 hK9 => ?_
    refine good_region ?_
    refine g_op rfl (ValOk.op (v_move rfl rfl ?_)) 
    refine g_op rfl (ValOk.op (v_not rfl rfl ?_)) 
    refine g_nil ?_
    refine hK9 _ ?_
    refine Good.le (σ' := ⟨52, [(0, _), (1, _), (4, _), (5, _), (6, _), (7, _), (26, _)], [(14, (_, _)), (16, (_, _))]⟩) (le_w [some 14, some 16] rfl ⟨⟨_, rfl, .refl _⟩, ⟨⟨_, rfl, .refl _⟩, ⟨⟨_, rfl, .refl _⟩, ⟨⟨_, rfl, .refl _⟩, ⟨⟨_, rfl, .refl _⟩, ⟨⟨_, rfl, .refl _⟩, ⟨⟨_, rfl, .refl _⟩, trivial⟩⟩⟩⟩⟩⟩⟩ ⟨⟨_, rfl, .refl _⟩, ⟨⟨_, rfl, .refl _⟩, trivial⟩⟩ (by decide)) ?_
    refine good_cond rfl (fun hc2 => ?_) (fun hc2 => ?_)
    · replace h := bF h (nT hc2)
      refine good_seq fun K10 hK10 => ?_
      refine good_region ?_
      refine g_op rfl (ValOk.op (v_move rfl rfl ?_)) 
      refine g_op rfl (ValOk.op (v_fieldP tabOk rfl tfoff48_0 rfl ?_)) 
      refine g_op rfl (o_storeP tabOk (cs' := [.str y1.1, .nil, .bool y1.2]) rfl rfl tsize9 rfl rfl rfl (Nat.le_of_ble_eq_true rfl) rfl rfl rfl ?_)
      refine g_nil ?_
      refine hK10 _ ?_
      refine Good.le (σ' := ⟨52, [(0, _), (1, _), (4, _), (5, _), (6, _), (7, _)], [(14, (_, _)), (16, (_, _))]⟩) (le_w [some 14, some 16] rfl ⟨⟨_, rfl, .refl _⟩, ⟨⟨_, rfl, .refl _⟩, ⟨⟨_, rfl, .refl _⟩, ⟨⟨_, rfl, .refl _⟩, ⟨⟨_, rfl, .refl _⟩, ⟨⟨_, rfl, .refl _⟩, trivial⟩⟩⟩⟩⟩⟩ ⟨⟨_, rfl, .refl _⟩, ⟨⟨_, rfl, .refl _⟩, trivial⟩⟩ (by decide)) ?_
      refine good_seq fun K11 hK11 => ?_
      obtain ⟨y3, hy3, h⟩ := bnd h
      refine good_anyM (by kernel_rfl) [⟨[], [6], [16], [], [], []⟩, ⟨[], [0], [], [], [], []⟩, ⟨[1], [30], [], [], [], []⟩, ⟨[0, 1, 2], [4, 29], [14], [14], [9001], []⟩, ⟨[0, 1, 2, 3], [31], [], [], [], []⟩] [some 29, some 30, some 31, none, some 5] 52 [(0, .str y1.1), (1, .int .i64 a1), (4, .ptr 14 b1 0), (5, .bool false), (6, .ptr 16 b2 0), (7, .str y2.1)] [(14, ((.pointer (some ⟨b1, 0, none⟩)), .optr 48 [.str ([] : Bs), .nil, .bool false])), (16, ((.pointer (some ⟨b2, 0, none⟩)), .optr 48 [.str y1.1, .nil, .bool y1.2]))] (fun ν1 => [.agg [.str y1.1, .nil, .bool y1.2], .str y1.1, .bool y3, .und, .bool y3]) (fun ν1 => [(9001, ((.pointer (some ⟨b1, 0, none⟩)), .optr 48 [.str y1.1, .nil, .bool y1.2]))]) [(9001, []), (14, []), (16, [])] [9001] [some 9001, some 16] (fun ν1 => [(1, .int .i64 a1), (4, .ptr 14 b1 0), (5, .bool y3), (6, .ptr 16 b2 0), (7, .str y2.1)]) (fun ν1 => [(14, ((.pointer (some ⟨b1, 0, none⟩)), .optr 48 [.str y1.1, .nil, .bool y1.2])), (16, ((.pointer (some ⟨b2, 0, none⟩)), .optr 48 [.str y1.1, .nil, .bool y1.2]))]) (le_w [some 14, some 16] rfl ⟨⟨_, rfl, .refl _⟩, ⟨⟨_, rfl, .refl _⟩, ⟨⟨_, rfl, .refl _⟩, ⟨⟨_, rfl, .refl _⟩, ⟨⟨_, rfl, .refl _⟩, ⟨⟨_, rfl, .refl _⟩, trivial⟩⟩⟩⟩⟩⟩ ⟨⟨_, rfl, .refl _⟩, ⟨⟨_, rfl, .refl _⟩, trivial⟩⟩ (by decide)) (by kernel_rfl) ⟨?_, ⟨?_, ⟨?_, ⟨?_, ⟨?_, trivial⟩⟩⟩⟩⟩ ⟨fun _ _ _ => rfl, ⟨fun _ _ _ => rfl, ⟨fun _ _ _ => rfl, ⟨fun _ _ _ => rfl, ⟨fun _ _ _ => rfl, trivial⟩⟩⟩⟩⟩ ⟨fun _ _ _ => rfl, ⟨fun _ _ _ => rfl, ⟨fun _ _ _ => rfl, trivial⟩⟩⟩ (fun _ => rfl) (fun _ => rfl) (by kernel_rfl) (fun _ => ⟨⟨_, rfl, .refl _⟩, ⟨⟨_, rfl, .refl _⟩, ⟨⟨_, rfl, .refl _⟩, ⟨⟨_, rfl, .refl _⟩, ⟨⟨_, rfl, .refl _⟩, trivial⟩⟩⟩⟩⟩) (fun _ => ⟨⟨_, rfl, .refl _⟩, ⟨⟨_, rfl, .refl _⟩, trivial⟩⟩) (by kernel_rfl) (by decide) ?_
      · refine local_mk (fun ν1 => [(6, .ptr 16 b2 0)]) (fun ν1 => [(16, ((.pointer (some ⟨b2, 0, none⟩)), .optr 48 [.str y1.1, .nil, .bool y1.2]))]) (fun _ => rfl) (fun _ => ⟨⟨_, rfl, .refl _, .refl _⟩, trivial⟩) (fun _ => rfl) (fun _ => ⟨rfl, trivial⟩) ?_
        intro ν1 S H hS hfr
        refine st_op rfl (ValOk.op (v_loadP tabOk rfl rfl tsize48 tagg48 rfl rfl rfl rfl ?_)) 
        exact lp_v hS rfl rfl (fun _ => rfl)
      · refine local_mk (fun ν1 => [(0, .str y1.1)]) (fun ν1 => []) (fun _ => rfl) (fun _ => ⟨⟨_, rfl, .refl _, .refl _⟩, trivial⟩) (fun _ => rfl) (fun _ => trivial) ?_
        intro ν1 S H hS hfr
        refine st_op rfl (ValOk.op (v_move rfl rfl ?_)) 
        exact lp_v hS rfl rfl (fun _ => rfl)
      · refine local_mk (fun ν1 => [(30, .str y1.1)]) (fun ν1 => []) (fun _ => rfl) (fun _ => ⟨⟨_, rfl, .refl _, .refl _⟩, trivial⟩) (fun _ => rfl) (fun _ => trivial) ?_
        intro ν1 S H hS hfr
        refine st_op rfl (o_callR [] [] (core_value rfl rfl) (m_impl_isName_ok k y1.1 _ hy3) trivial (.cons (.refl _) (.nil)) (.inl rfl) rfl ?_)
        exact lp_v hS rfl rfl (fun _ => rfl)
      · refine local_mk (fun ν1 => [(4, .ptr 14 b1 0), (29, .agg [.str y1.1, .nil, .bool y1.2])]) (fun ν1 => [(14, ((.pointer (some ⟨b1, 0, none⟩)), .optr 48 [.str ([] : Bs), .nil, .bool false]))]) (fun _ => rfl) (fun _ => ⟨⟨_, rfl, .refl _, .refl _⟩, ⟨⟨_, rfl, .refl _, .refl _⟩, trivial⟩⟩) (fun _ => rfl) (fun _ => ⟨rfl, trivial⟩) ?_
        intro ν1 S H hS hfr
        refine st_op rfl (o_storeP tabOk (cs' := [.str y1.1, .nil, .bool y1.2]) rfl rfl tsize48 rfl rfl rfl (Nat.le_of_ble_eq_true rfl) rfl rfl rfl ?_)
        exact lp_m (k := 9001) hS rfl rfl (.inr (by decide)) (fun _ => rfl) rfl
      · refine local_mk (fun ν1 => [(31, .bool y3)]) (fun ν1 => []) (fun _ => rfl) (fun _ => ⟨⟨_, rfl, .refl _, .refl _⟩, trivial⟩) (fun _ => rfl) (fun _ => trivial) ?_
        intro ν1 S H hS hfr
        refine st_op rfl (ValOk.op (v_assign rfl rfl ?_)) 
        exact lp_v hS rfl rfl (fun _ => rfl)
      intro ν1
      refine hK11 _ ?_
      refine Good.le (σ' := ⟨52, [(4, .ptr 14 b1 0), (5, .bool y3)], [(100, (nilV, .osl 48 3 (([] : List Typ).map encOTyp))), (14, ((.pointer (some ⟨b1, 0, none⟩)), .optr 48 [.str y1.1, .hd 100 nilV, .bool y1.2]))]⟩) (le_w [none, some 14] rfl ⟨⟨_, rfl, .refl _⟩, ⟨⟨_, rfl, .refl _⟩, trivial⟩⟩ ⟨⟨rfl, _, _, rfl⟩, ⟨⟨_, rfl, .optr (.cons (.refl _) (.cons (.nilhd _) (.cons (.refl _) (.nil))))⟩, trivial⟩⟩ (by decide)) ?_
      refine good_ret ?_
      obtain rfl := Option.some.inj h
      refine thenQ_ret ?_
      exact endQ_ret (h' := [(100, (_, _))]) [some 100] (.cell rfl rfl tsize48 tagg48 rfl rfl rfl (.tmp rfl (.nil))) ⟨⟨_, rfl, .refl _⟩, trivial⟩ (by decide) ⟨nilV, rfl, rfl⟩
    · replace h := ifT h (nF hc2)
      refine good_skip ?_
      refine hK8 _ ?_
      refine Good.le (σ' := ⟨52, [(1, _), (4, _), (5, _), (6, _), (7, _)], [(14, (_, _)), (16, (_, _))]⟩) (le_w [some 14, some 16] rfl ⟨⟨_, rfl, .refl _⟩, ⟨⟨_, rfl, .refl _⟩, ⟨⟨_, rfl, .refl _⟩, ⟨⟨_, rfl, .refl _⟩, ⟨⟨_, rfl, .refl _⟩, trivial⟩⟩⟩⟩⟩ ⟨⟨_, rfl, .refl _⟩, ⟨⟨_, rfl, .refl _⟩, trivial⟩⟩ (by decide)) ?_
      refine good_seq fun K12 hK12 => ?_
      refine good_region ?_
      refine g_op rfl (ValOk.op (v_move rfl rfl ?_)) 
      obtain ⟨y4, hy4, h⟩ := bnd h
      refine g_op rfl (o_callR [] [] (core_value rfl rfl) (m_strings_CutSuffix_ok y2.1 [93] _ hy4) trivial (.cons (.refl _) (.cons (.refl _) (.nil))) (.inl rfl) rfl ?_)
      refine g_op rfl (ValOk.op (v_move rfl rfl ?_)) 
      refine g_op rfl (ValOk.op (v_extract rfl rfl rfl ?_)) 
      refine g_op rfl (ValOk.op (v_extract rfl rfl rfl ?_)) 
      refine g_op rfl (ValOk.op (v_assign rfl rfl ?_)) 
      refine g_op rfl (ValOk.op (v_assign rfl rfl ?_)) 
      refine g_nil ?_
      refine hK12 _ ?_
      refine Good.le (σ' := ⟨52, [(1, _), (4, _), (5, _), (6, _), (7, _), (8, _)], [(14, (_, _)), (16, (_, _))]⟩) (le_w [some 14, some 16] rfl ⟨⟨_, rfl, .refl _⟩, ⟨⟨_, rfl, .refl _⟩, ⟨⟨_, rfl, .refl _⟩, ⟨⟨_, rfl, .refl _⟩, ⟨⟨_, rfl, .refl _⟩, ⟨⟨_, rfl, .refl _⟩, trivial⟩⟩⟩⟩⟩⟩ ⟨⟨_, rfl, .refl _⟩, ⟨⟨_, rfl, .refl _⟩, trivial⟩⟩ (by decide)) ?_
      refine good_seq fun K13 hK13 => ?_
      refine good_seq fun K14 hK14 => ?_
      refine good_region ?_
      refine g_op rfl (ValOk.op (v_move rfl rfl ?_)) 
      refine g_op rfl (ValOk.op (v_not rfl rfl ?_)) 
      refine g_nil ?_
      refine hK14 _ ?_
      refine Good.le (σ' := ⟨52, [(1, _), (4, _), (5, _), (6, _), (7, _), (38, _)], [(14, (_, _)), (16, (_, _))]⟩) (le_w [some 14, some 16] rfl ⟨⟨_, rfl, .refl _⟩, ⟨⟨_, rfl, .refl _⟩, ⟨⟨_, rfl, .refl _⟩, ⟨⟨_, rfl, .refl _⟩, ⟨⟨_, rfl, .refl _⟩, ⟨⟨_, rfl, .refl _⟩, trivial⟩⟩⟩⟩⟩⟩ ⟨⟨_, rfl, .refl _⟩, ⟨⟨_, rfl, .refl _⟩, trivial⟩⟩ (by decide)) ?_
      refine good_cond rfl (fun hc3 => ?_) (fun hc3 => ?_)
      · replace h := bF h (nT hc3)
        refine good_seq fun K15 hK15 => ?_
        refine good_region ?_
        refine g_op rfl (ValOk.op (v_build tabOk (cs := [.str ([] : Bs), .nil, .bool false]) tzero48 tsok48 rfl rfl rfl ?_)) 
        refine g_op rfl (o_storeP tabOk (cs' := [.str ([] : Bs), .nil, .bool false]) rfl rfl tsize48 rfl rfl rfl (Nat.le_of_ble_eq_true rfl) rfl rfl rfl ?_)
        refine g_op rfl (ValOk.op (v_assign rfl rfl ?_)) 
        refine g_nil ?_
        refine hK15 _ ?_
        refine Good.le (σ' := ⟨52, [(1, _), (4, _), (5, _), (6, _), (7, _)], [(14, (_, _)), (16, (_, _))]⟩) (le_w [some 14, some 16] rfl ⟨⟨_, rfl, .refl _⟩, ⟨⟨_, rfl, .refl _⟩, ⟨⟨_, rfl, .refl _⟩, ⟨⟨_, rfl, .refl _⟩, ⟨⟨_, rfl, .refl _⟩, trivial⟩⟩⟩⟩⟩ ⟨⟨_, rfl, .refl _⟩, ⟨⟨_, rfl, .refl _⟩, trivial⟩⟩ (by decide)) ?_
        refine Good.le (σ' := ⟨52, [(4, .ptr 14 b1 0), (5, .bool false)], [(100, (nilV, .osl 48 3 (([] : List Typ).map encOTyp))), (14, ((.pointer (some ⟨b1, 0, none⟩)), .optr 48 [.str ([] : Bs), .hd 100 nilV, .bool false]))]⟩) (le_w [none, some 14] rfl ⟨⟨_, rfl, .refl _⟩, ⟨⟨_, rfl, .refl _⟩, trivial⟩⟩ ⟨⟨rfl, _, _, rfl⟩, ⟨⟨_, rfl, .optr (.cons (.refl _) (.cons (.nilhd _) (.cons (.refl _) (.nil))))⟩, trivial⟩⟩ (by decide)) ?_
        refine good_ret ?_
        obtain rfl := Option.some.inj h
        refine thenQ_ret ?_
        exact endQ_ret (h' := [(100, (_, _))]) [some 100] (.cell rfl rfl tsize48 tagg48 rfl rfl rfl (.tmp rfl (.nil))) ⟨⟨_, rfl, .refl _⟩, trivial⟩ (by decide) ⟨nilV, rfl, rfl⟩
      · replace h := ifT h (nF hc3)
        refine good_skip ?_
        refine hK13 _ ?_
        refine Good.le (σ' := ⟨52, [(1, _), (4, _), (5, _), (6, _), (7, _)], [(14, (_, _)), (16, (_, _))]⟩) (le_w [some 14, some 16] rfl ⟨⟨_, rfl, .refl _⟩, ⟨⟨_, rfl, .refl _⟩, ⟨⟨_, rfl, .refl _⟩, ⟨⟨_, rfl, .refl _⟩, ⟨⟨_, rfl, .refl _⟩, trivial⟩⟩⟩⟩⟩ ⟨⟨_, rfl, .refl _⟩, ⟨⟨_, rfl, .refl _⟩, trivial⟩⟩ (by decide)) ?_
        refine good_seq fun K16 hK16 => ?_
        refine good_region ?_
        refine g_op rfl (ValOk.op (v_move rfl rfl ?_)) 
        refine g_op rfl (ValOk.op (v_move rfl rfl ?_)) 
        refine g_op rfl (ValOk.op (v_bin rfl rfl rfl rfl ?_)) 
        obtain ⟨y5, hy5, h⟩ := bnd h
        refine g_op rfl (o_callD [] [] [] (core_value rfl rfl) ((ih k (by omega)) y4.1 (IntKind.wrap .i64 (a1 - 1)) _ hy5) trivial (.cons (.refl _) (.cons (.refl _) (.nil))) trivial rfl rfl rfl ?_)
        rintro _ _ ⟨w1, rfl, rfl⟩
        refine ⟨.tup [.agg [.str y5.1.name, .hd 3002 w1, .bool y5.1.must], .bool y5.2], [(3002, _)], .tup (.cons (.agg (.cons (.refl _) (.cons (.hd _ _ _) (.cons (.refl _) (.nil))))) (.cons (.refl _) (.nil))), rfl, rfl, rfl, rfl, .inl rfl, ?_⟩
        refine g_op rfl (ValOk.op (v_move rfl rfl ?_)) 
        refine g_op rfl (ValOk.op (v_extract rfl rfl rfl ?_)) 
        refine g_op rfl (ValOk.op (v_extract rfl rfl rfl ?_)) 
        refine g_op rfl (o_alloc (k := 19) tabOk tzero48 rfl rfl ?_)
        intro b3
        refine g_op rfl (o_storeP tabOk (cs' := [.str y5.1.name, .hd 3002 w1, .bool y5.1.must]) rfl rfl tsize48 rfl rfl rfl (Nat.le_of_ble_eq_true rfl) rfl rfl rfl ?_)
        refine g_op rfl (ValOk.op (v_assign rfl rfl ?_)) 
        refine g_nil ?_
        refine hK16 _ ?_
        refine Good.le (σ' := ⟨52, [(4, _), (5, _), (6, _), (8, _), (9, _)], [(14, (_, _)), (16, (_, _)), (19, (_, _)), (3002, (_, _))]⟩) (le_w [some 14, some 16, some 19, some 3002] rfl ⟨⟨_, rfl, .refl _⟩, ⟨⟨_, rfl, .refl _⟩, ⟨⟨_, rfl, .refl _⟩, ⟨⟨_, rfl, .refl _⟩, ⟨⟨_, rfl, .refl _⟩, trivial⟩⟩⟩⟩⟩ ⟨⟨_, rfl, .refl _⟩, ⟨⟨_, rfl, .refl _⟩, ⟨⟨_, rfl, .refl _⟩, ⟨⟨_, rfl, .refl _⟩, trivial⟩⟩⟩⟩ (by decide)) ?_
        refine good_seq fun K17 hK17 => ?_
        refine good_region ?_
        refine g_op rfl (ValOk.op (v_loadP tabOk rfl rfl tsize48 tagg48 rfl rfl rfl rfl ?_)) 
        refine g_op rfl (OpOk.le (o_buildSlice (k := 58) (rows := [[.str y5.1.name, .hd 3002 w1, .bool y5.1.must]]) tabOk telem46 tsize48 rfl rfl rfl rfl (by decide) (by decide) (by rw [tzero48]; rfl) rfl rfl rfl rfl rfl ?_))
        intro w2
        refine ⟨_, (le_absorb1 (k := 58) (k2 := 3002) (rows' := [y5.1].map encOTyp) 0 1 _ rfl (by decide) rfl rfl (cons_eq (encOTyp_eq _) rfl)), ?_⟩
        refine g_op rfl (ValOk.op (v_fieldP tabOk rfl tfoff48_1 rfl ?_)) 
        refine g_op rfl (o_storeP tabOk (cs' := [.str ([] : Bs), .hd 58 w2, .bool y1.2]) rfl rfl tsize46 rfl rfl rfl (Nat.le_of_ble_eq_true rfl) rfl rfl rfl ?_)
        refine g_nil ?_
        refine hK17 _ ?_
        refine Good.le (σ' := ⟨52, [(4, _), (5, _), (6, _), (8, _)], [(14, (_, _)), (16, (_, _)), (58, (_, _))]⟩) (le_w [some 14, some 16, some 58] rfl ⟨⟨_, rfl, .refl _⟩, ⟨⟨_, rfl, .refl _⟩, ⟨⟨_, rfl, .refl _⟩, ⟨⟨_, rfl, .refl _⟩, trivial⟩⟩⟩⟩ ⟨⟨_, rfl, .refl _⟩, ⟨⟨_, rfl, .refl _⟩, ⟨⟨_, rfl, .refl _⟩, trivial⟩⟩⟩ (by decide)) ?_
        refine good_seq fun K18 hK18 => ?_
        refine good_region ?_
        refine g_op rfl (ValOk.op (v_loadP tabOk rfl rfl tsize48 tagg48 rfl rfl rfl rfl ?_)) 
        refine g_op rfl (ValOk.op (v_move rfl rfl ?_)) 
        refine g_op rfl (o_storeP tabOk (cs' := [.str ([] : Bs), .hd 58 w2, .bool y1.2]) rfl rfl tsize48 rfl rfl rfl (Nat.le_of_ble_eq_true rfl) rfl rfl rfl ?_)
        refine g_op rfl (ValOk.op (v_assign rfl rfl ?_)) 
        refine g_nil ?_
        refine hK18 _ ?_
        refine Good.le (σ' := ⟨52, [(4, _), (5, _)], [(14, (_, _)), (58, (_, _))]⟩) (le_w [some 14, some 58] rfl ⟨⟨_, rfl, .refl _⟩, ⟨⟨_, rfl, .refl _⟩, trivial⟩⟩ ⟨⟨_, rfl, .refl _⟩, ⟨⟨_, rfl, .refl _⟩, trivial⟩⟩ (by decide)) ?_
        refine Good.le (σ' := ⟨52, [(4, .ptr 14 b1 0), (5, .bool y5.2)], [(100, (w2, .osl 48 3 ([y5.1].map encOTyp))), (14, ((.pointer (some ⟨b1, 0, none⟩)), .optr 48 [.str ([] : Bs), .hd 100 w2, .bool y1.2]))]⟩) (le_w [some 58, some 14] rfl ⟨⟨_, rfl, .refl _⟩, ⟨⟨_, rfl, .refl _⟩, trivial⟩⟩ ⟨⟨_, rfl, .refl _⟩, ⟨⟨_, rfl, .optr (.cons (.refl _) (.cons (.hd _ _ _) (.cons (.refl _) (.nil))))⟩, trivial⟩⟩ (by decide)) ?_
        refine good_ret ?_
        obtain rfl := Option.some.inj h
        exact endQ_ret (h' := [(100, (_, _))]) [some 100] (.cell rfl rfl tsize48 tagg48 rfl rfl rfl (.tmp rfl (.nil))) ⟨⟨_, rfl, .refl _⟩, trivial⟩ (by decide) ⟨w2, rfl, rfl⟩
theorem m_impl_typeWithin_all (k : Nat) : P_m_impl_typeWithin k := by
  induction k using Nat.strongRecOn with
  | _ k ih => exact m_impl_typeWithin_step k ih
theorem m_impl_typeWithin_ok (k : Nat) : ∀ (a0 : Bs) (a1 : Int) (r : (Typ × Bool)), m_impl_typeWithin k a0 a1 = some r → Does Try.prog 61 [.str a0, .int .i64 a1] [] (fun q h' => ∃ u0 : Value, q = .tup [.agg [.str r.1.name, .hd 100 u0, .bool r.1.must], .bool r.2] ∧ h' = [(100, (u0, .osl 48 3 (r.1.of_.map encOTyp)))]) := (m_impl_typeWithin_all k)
theorem m_impl_typeWithin_okF (k : Nat) : ∀ (a0 : Bs) (a1 : Int) (r : (Typ × Bool)), m_impl_typeWithin k a0 a1 = some r → Does Try.prog 61 [.str a0, .int .i64 a1] [] (ret (.tup [.agg [.str r.1.name, .sl false (r.1.of_.map encTyp), .bool r.1.must], .bool r.2])) := by
  intro a0 a1 r h
  refine does_frz (m_impl_typeWithin_ok k a0 a1 r h) ?_
  rintro q h' ⟨u0, rfl, rfl⟩
  exact ⟨[100], [(_, _)], ⟨⟨_, rfl, .osl (FrzLL.map fun _ _ => encOTyp_frz _)⟩, trivial⟩, .tup (.cons (.agg (.cons (.refl _) (.cons (.frz _ _ _ (.head _)) (.cons (.refl _) (.nil))))) (.cons (.refl _) (.nil)))⟩
def m_impl_TypeGet (k : Nat) (a0 : Bs) : Option (Typ × Bool) :=
  (m_impl_typeWithin k a0 3).bind fun y1 =>
  if y1.2 = true then
    some (y1.1, true)
  else
    some ((Typ.mk ([] : Bs) ([] : List Typ) false), false)
theorem m_impl_TypeGet_ok (k : Nat) : ∀ (a0 : Bs) (r : (Typ × Bool)), m_impl_TypeGet k a0 = some r → Does Try.prog 32 [.str a0] [] (fun q h' => ∃ u0 : Value, q = .tup [.agg [.str r.1.name, .hd 100 u0, .bool r.1.must], .bool r.2] ∧ h' = [(100, (u0, .osl 48 3 (r.1.of_.map encOTyp)))]) := by
  intro a0 r h
  rw [m_impl_TypeGet] at h
  refine does_of_good tabOk Try.func32 rfl (by decide +kernel) (Nat.le_of_ble_eq_true rfl) fun c => ?_
  refine Good.le (σ' := ⟨15, [(0, .str a0)], []⟩) (Le.refl _) ?_
  refine good_seq fun K1 hK1 => ?_
  refine good_region ?_
  refine g_op rfl (o_alloc (k := 12) tabOk tzero48 rfl rfl ?_)
  intro b1
  refine g_op rfl (ValOk.op (v_assign rfl rfl ?_)) 
  refine g_nil ?_
  refine hK1 _ ?_
  refine good_seq fun K2 hK2 => ?_
  refine good_region ?_
  refine g_op rfl (ValOk.op (v_move rfl rfl ?_)) 
  obtain ⟨y1, hy1, h⟩ := bnd h
  refine g_op rfl (o_callD [] [] [] (core_value rfl rfl) (m_impl_typeWithin_ok k a0 3 _ hy1) trivial (.cons (.refl _) (.cons (.refl _) (.nil))) trivial rfl rfl rfl ?_)
  rintro _ _ ⟨w1, rfl, rfl⟩
  refine ⟨.tup [.agg [.str y1.1.name, .hd 3001 w1, .bool y1.1.must], .bool y1.2], [(3001, _)], .tup (.cons (.agg (.cons (.refl _) (.cons (.hd _ _ _) (.cons (.refl _) (.nil))))) (.cons (.refl _) (.nil))), rfl, rfl, rfl, rfl, .inl rfl, ?_⟩
  refine g_op rfl (ValOk.op (v_move rfl rfl ?_)) 
  refine g_op rfl (ValOk.op (v_extract rfl rfl rfl ?_)) 
  refine g_op rfl (ValOk.op (v_extract rfl rfl rfl ?_)) 
  refine g_op rfl (o_alloc (k := 14) tabOk tzero48 rfl rfl ?_)
  intro b2
  refine g_op rfl (o_storeP tabOk (cs' := [.str y1.1.name, .hd 3001 w1, .bool y1.1.must]) rfl rfl tsize48 rfl rfl rfl (Nat.le_of_ble_eq_true rfl) rfl rfl rfl ?_)
  refine g_op rfl (ValOk.op (v_assign rfl rfl ?_)) 
  refine g_nil ?_
  refine hK2 _ ?_
  refine Good.le (σ' := ⟨15, [(2, _), (3, _), (4, _), (5, _)], [(12, (_, _)), (14, (_, _)), (3001, (_, _))]⟩) (le_w [some 12, some 14, some 3001] rfl ⟨⟨_, rfl, .refl _⟩, ⟨⟨_, rfl, .refl _⟩, ⟨⟨_, rfl, .refl _⟩, ⟨⟨_, rfl, .refl _⟩, trivial⟩⟩⟩⟩ ⟨⟨_, rfl, .refl _⟩, ⟨⟨_, rfl, .refl _⟩, ⟨⟨_, rfl, .refl _⟩, trivial⟩⟩⟩ (by decide)) ?_
  refine good_seq fun K3 hK3 => ?_
  refine good_seq fun K4 hK4 => ?_
  refine good_region ?_
  refine g_op rfl (ValOk.op (v_move rfl rfl ?_)) 
  refine g_op rfl (ValOk.op (v_not rfl rfl ?_)) 
  refine g_nil ?_
  refine hK4 _ ?_
  refine Good.le (σ' := ⟨15, [(2, _), (3, _), (4, _), (12, _)], [(12, (_, _)), (14, (_, _)), (3001, (_, _))]⟩) (le_w [some 12, some 14, some 3001] rfl ⟨⟨_, rfl, .refl _⟩, ⟨⟨_, rfl, .refl _⟩, ⟨⟨_, rfl, .refl _⟩, ⟨⟨_, rfl, .refl _⟩, trivial⟩⟩⟩⟩ ⟨⟨_, rfl, .refl _⟩, ⟨⟨_, rfl, .refl _⟩, ⟨⟨_, rfl, .refl _⟩, trivial⟩⟩⟩ (by decide)) ?_
  refine good_cond rfl (fun hc1 => ?_) (fun hc1 => ?_)
  · replace h := bF h (nT hc1)
    refine good_seq fun K5 hK5 => ?_
    refine good_region ?_
    refine g_op rfl (ValOk.op (v_build tabOk (cs := [.str ([] : Bs), .nil, .bool false]) tzero48 tsok48 rfl rfl rfl ?_)) 
    refine g_op rfl (o_storeP tabOk (cs' := [.str ([] : Bs), .nil, .bool false]) rfl rfl tsize48 rfl rfl rfl (Nat.le_of_ble_eq_true rfl) rfl rfl rfl ?_)
    refine g_op rfl (ValOk.op (v_assign rfl rfl ?_)) 
    refine g_nil ?_
    refine hK5 _ ?_
    refine Good.le (σ' := ⟨15, [(2, _), (3, _), (4, _)], [(12, (_, _)), (14, (_, _)), (3001, (_, _))]⟩) (le_w [some 12, some 14, some 3001] rfl ⟨⟨_, rfl, .refl _⟩, ⟨⟨_, rfl, .refl _⟩, ⟨⟨_, rfl, .refl _⟩, trivial⟩⟩⟩ ⟨⟨_, rfl, .refl _⟩, ⟨⟨_, rfl, .refl _⟩, ⟨⟨_, rfl, .refl _⟩, trivial⟩⟩⟩ (by decide)) ?_
    refine Good.le (σ' := ⟨15, [(2, .ptr 12 b1 0), (3, .bool false)], [(100, (nilV, .osl 48 3 (([] : List Typ).map encOTyp))), (12, ((.pointer (some ⟨b1, 0, none⟩)), .optr 48 [.str ([] : Bs), .hd 100 nilV, .bool false]))]⟩) (le_w [none, some 12] rfl ⟨⟨_, rfl, .refl _⟩, ⟨⟨_, rfl, .refl _⟩, trivial⟩⟩ ⟨⟨rfl, _, _, rfl⟩, ⟨⟨_, rfl, .optr (.cons (.refl _) (.cons (.nilhd _) (.cons (.refl _) (.nil))))⟩, trivial⟩⟩ (by decide)) ?_
    refine good_ret ?_
    obtain rfl := Option.some.inj h
    refine thenQ_ret ?_
    exact endQ_ret (h' := [(100, (_, _))]) [some 100] (.cell rfl rfl tsize48 tagg48 rfl rfl rfl (.tmp rfl (.nil))) ⟨⟨_, rfl, .refl _⟩, trivial⟩ (by decide) ⟨nilV, rfl, rfl⟩
  · replace h := ifT h (nF hc1)
    refine good_skip ?_
    refine hK3 _ ?_
    refine Good.le (σ' := ⟨15, [(2, _), (3, _), (4, _)], [(12, (_, _)), (14, (_, _)), (3001, (_, _))]⟩) (le_w [some 12, some 14, some 3001] rfl ⟨⟨_, rfl, .refl _⟩, ⟨⟨_, rfl, .refl _⟩, ⟨⟨_, rfl, .refl _⟩, trivial⟩⟩⟩ ⟨⟨_, rfl, .refl _⟩, ⟨⟨_, rfl, .refl _⟩, ⟨⟨_, rfl, .refl _⟩, trivial⟩⟩⟩ (by decide)) ?_
    refine good_seq fun K6 hK6 => ?_
    refine good_region ?_
    refine g_op rfl (ValOk.op (v_loadP tabOk rfl rfl tsize48 tagg48 rfl rfl rfl rfl ?_)) 
    refine g_op rfl (o_storeP tabOk (cs' := [.str y1.1.name, .hd 3001 w1, .bool y1.1.must]) rfl rfl tsize48 rfl rfl rfl (Nat.le_of_ble_eq_true rfl) rfl rfl rfl ?_)
    refine g_op rfl (ValOk.op (v_assign rfl rfl ?_)) 
    refine g_nil ?_
    refine hK6 _ ?_
    refine Good.le (σ' := ⟨15, [(2, _), (3, _)], [(12, (_, _)), (3001, (_, _))]⟩) (le_w [some 12, some 3001] rfl ⟨⟨_, rfl, .refl _⟩, ⟨⟨_, rfl, .refl _⟩, trivial⟩⟩ ⟨⟨_, rfl, .refl _⟩, ⟨⟨_, rfl, .refl _⟩, trivial⟩⟩ (by decide)) ?_
    refine Good.le (σ' := ⟨15, [(2, .ptr 12 b1 0), (3, .bool true)], [(100, (w1, .osl 48 3 (y1.1.of_.map encOTyp))), (12, ((.pointer (some ⟨b1, 0, none⟩)), .optr 48 [.str y1.1.name, .hd 100 w1, .bool y1.1.must]))]⟩) (le_w [some 3001, some 12] rfl ⟨⟨_, rfl, .refl _⟩, ⟨⟨_, rfl, .refl _⟩, trivial⟩⟩ ⟨⟨_, rfl, .refl _⟩, ⟨⟨_, rfl, .optr (.cons (.refl _) (.cons (.hd _ _ _) (.cons (.refl _) (.nil))))⟩, trivial⟩⟩ (by decide)) ?_
    refine good_ret ?_
    obtain rfl := Option.some.inj h
    exact endQ_ret (h' := [(100, (_, _))]) [some 100] (.cell rfl rfl tsize48 tagg48 rfl rfl rfl (.tmp rfl (.nil))) ⟨⟨_, rfl, .refl _⟩, trivial⟩ (by decide) ⟨w1, rfl, rfl⟩
theorem m_impl_TypeGet_okF (k : Nat) : ∀ (a0 : Bs) (r : (Typ × Bool)), m_impl_TypeGet k a0 = some r → Does Try.prog 32 [.str a0] [] (ret (.tup [.agg [.str r.1.name, .sl false (r.1.of_.map encTyp), .bool r.1.must], .bool r.2])) := by
  intro a0 r h
  refine does_frz (m_impl_TypeGet_ok k a0 r h) ?_
  rintro q h' ⟨u0, rfl, rfl⟩
  exact ⟨[100], [(_, _)], ⟨⟨_, rfl, .osl (FrzLL.map fun _ _ => encOTyp_frz _)⟩, trivial⟩, .tup (.cons (.agg (.cons (.refl _) (.cons (.frz _ _ _ (.head _)) (.cons (.refl _) (.nil))))) (.cons (.refl _) (.nil)))⟩
def m_spec_l2Get : Nat → Bs → Int → Option (Typ × Bs × Bool)
  | 0, _, _ => none
  | k + 1, a0, a1 =>
    ((if 0 < (a0.length : Int) then
          if (0 : Int) ≤ 0 ∧ 0 < (a0.length : Int) then
            if (byt a0 0) = 91 then
              some (Lp.go (decide (1 < a1)))
            else
              some (Lp.go false)
          else none
        else
          some (Lp.go false)).bind fun o4 =>
      o4.then fun s4 =>
    if s4 = true then
      if (0 : Int) ≤ 1 ∧ (1 : Int) ≤ (a0.length : Int) ∧ (a0.length : Int) ≤ (a0.length : Int) then
        (m_spec_l2Get k (sub a0 1 (a0.length : Int)) (IntKind.wrap .i64 (a1 - 1))).bind fun y1 =>
        (if y1.2.2 = true then
            if (y1.2.1.length : Int) = 0 then
              some (Lp.go true)
            else
              if (0 : Int) ≤ 0 ∧ 0 < (y1.2.1.length : Int) then
                some (Lp.go (!(decide ((byt y1.2.1 0) = 93))))
              else none
          else
            some (Lp.go true)).bind fun o5 =>
        o5.then fun s5 =>
    if s5 = true then
      (some ((Typ.mk ([] : Bs) ([] : List Typ) false), [], false)).bind fun z =>
      some (Lp.ret z)
    else
      if (0 : Int) ≤ 1 ∧ (1 : Int) ≤ (y1.2.1.length : Int) ∧ (y1.2.1.length : Int) ≤ (y1.2.1.length : Int) then
        some (Lp.go (sub y1.2.1 1 (y1.2.1.length : Int), ([] : Bs), [y1.1]))
      else none
      else none
    else
      (m_spec_l1Word k a0).bind fun y2 =>
      if (0 : Int) ≤ (y2.length : Int) ∧ (y2.length : Int) ≤ (a0.length : Int) ∧ (a0.length : Int) ≤ (a0.length : Int) then
        some (Lp.go (sub a0 (y2.length : Int) (a0.length : Int), y2, []))
      else none).bind fun o1 =>
    o1.then fun s1 =>
    ((if 0 < (s1.1.length : Int) then
          if (0 : Int) ≤ 0 ∧ 0 < (s1.1.length : Int) then
            some (Lp.go (decide ((byt s1.1 0) = 33)))
          else none
        else
          some (Lp.go false)).bind fun o3 =>
      o3.then fun s3 =>
    if s3 = true then
      if (0 : Int) ≤ 1 ∧ (1 : Int) ≤ (s1.1.length : Int) ∧ (s1.1.length : Int) ≤ (s1.1.length : Int) then
        some (Lp.go (sub s1.1 1 (s1.1.length : Int), true))
      else none
    else
      some (Lp.go (s1.1, false))).bind fun o2 =>
    o2.then fun s2 =>
    some ((Typ.mk s1.2.1 s1.2.2 s2.2), s2.1, true)
def P_m_spec_l2Get (k : Nat) : Prop := ∀ (a0 : Bs) (a1 : Int) (r : (Typ × Bs × Bool)), m_spec_l2Get k a0 a1 = some r → Does Try.prog 59 [.str a0, .int .i64 a1] [] (fun q h' => ∃ u0 : Value, q = .tup [.agg [.str r.1.name, .hd 100 u0, .bool r.1.must], .str r.2.1, .bool r.2.2] ∧ h' = [(100, (u0, .osl 48 3 (r.1.of_.map encOTyp)))])
theorem m_spec_l2Get_step (k : Nat) (ih : ∀ m, m < k → P_m_spec_l2Get m) : P_m_spec_l2Get k := by
  intro a0 a1 r h
  obtain ⟨k, rfl⟩ : ∃ k', k = k' + 1 := by cases k with | zero => (rw [m_spec_l2Get] at h; cases h) | succ k' => exact ⟨k', rfl⟩
  rw [m_spec_l2Get] at h
  refine does_of_good tabOk Try.func59 rfl (by decide +kernel) (Nat.le_of_ble_eq_true rfl) fun c => ?_
  refine Good.le (σ' := ⟨72, [(0, .str a0), (1, .int .i64 a1)], []⟩) (Le.refl _) ?_
  refine good_seq fun K1 hK1 => ?_
  refine good_region ?_
  refine g_op rfl (o_alloc (k := 14) tabOk tzero48 rfl rfl ?_)
  intro b1
  refine g_op rfl (ValOk.op (v_assign rfl rfl ?_)) 
  refine g_op rfl (ValOk.op (v_assign rfl rfl ?_)) 
  refine g_nil ?_
  refine hK1 _ ?_
  refine good_seq fun K2 hK2 => ?_
  refine good_region ?_
  refine g_op rfl (ValOk.op (v_build tabOk (cs := [.str ([] : Bs), .nil, .bool false]) tzero48 tsok48 rfl rfl rfl ?_)) 
  refine g_op rfl (o_alloc (k := 17) tabOk tzero48 rfl rfl ?_)
  intro b2
  refine g_op rfl (o_storeP tabOk (cs' := [.str ([] : Bs), .nil, .bool false]) rfl rfl tsize48 rfl rfl rfl (Nat.le_of_ble_eq_true rfl) rfl rfl rfl ?_)
  refine g_nil ?_
  refine hK2 _ ?_
  refine Good.le (σ' := ⟨72, [(0, _), (1, _), (4, _), (5, _), (6, _), (7, _)], [(14, (_, _)), (17, (_, _))]⟩) (le_w [some 14, some 17] rfl ⟨⟨_, rfl, .refl _⟩, ⟨⟨_, rfl, .refl _⟩, ⟨⟨_, rfl, .refl _⟩, ⟨⟨_, rfl, .refl _⟩, ⟨⟨_, rfl, .refl _⟩, ⟨⟨_, rfl, .refl _⟩, trivial⟩⟩⟩⟩⟩⟩ ⟨⟨_, rfl, .refl _⟩, ⟨⟨_, rfl, .refl _⟩, trivial⟩⟩ (by decide)) ?_
  refine good_seq fun K3 hK3 => ?_
  obtain ⟨o1, ho1, hJ1⟩ := bnd h
  have hw1 : ∀ (s1 : (Bs × Bs × (List Typ))) (w1 : Value), o1 = Lp.go s1 → ∀ σ', Le σ' ⟨72, [(0, .str s1.1), (4, .ptr 14 b1 0), (5, .str []), (6, .bool false), (7, .ptr 17 b2 0)], [(14, ((.pointer (some ⟨b1, 0, none⟩)), .optr 48 [.str ([] : Bs), .nil, .bool false])), (17, ((.pointer (some ⟨b2, 0, none⟩)), .optr 48 [.str s1.2.1, .hd 5203 w1, .bool false])), (5203, (w1, .osl 48 3 (s1.2.2.map encOTyp)))]⟩ → K3 σ' := by
    intro s1 w1 e1 σ' hle1
    subst e1
    refine hK3 _ (Good.le hle1 ?_)
    replace h := hJ1
    refine good_seq fun K4 hK4 => ?_
    obtain ⟨o2, ho2, hJ2⟩ := bnd h
    have hw2 : ∀ (s2 : (Bs × Bool)), o2 = Lp.go s2 → ∀ σ', Le σ' ⟨72, [(0, .str s2.1), (4, .ptr 14 b1 0), (5, .str []), (6, .bool false), (7, .ptr 17 b2 0)], [(14, ((.pointer (some ⟨b1, 0, none⟩)), .optr 48 [.str ([] : Bs), .nil, .bool false])), (17, ((.pointer (some ⟨b2, 0, none⟩)), .optr 48 [.str s1.2.1, .hd 5203 w1, .bool s2.2])), (5203, (w1, .osl 48 3 (s1.2.2.map encOTyp)))]⟩ → K4 σ' := by
      intro s2 e2 σ' hle2
      subst e2
      refine hK4 _ (Good.le hle2 ?_)
      replace h := hJ2
      refine good_seq fun K5 hK5 => ?_
      refine good_region ?_
      refine g_op rfl (ValOk.op (v_loadP tabOk rfl rfl tsize48 tagg48 rfl rfl rfl rfl ?_)) 
      refine g_op rfl (ValOk.op (v_move rfl rfl ?_)) 
      refine g_op rfl (o_storeP tabOk (cs' := [.str s1.2.1, .hd 5203 w1, .bool s2.2]) rfl rfl tsize48 rfl rfl rfl (Nat.le_of_ble_eq_true rfl) rfl rfl rfl ?_)
      refine g_op rfl (ValOk.op (v_assign rfl rfl ?_)) 
      refine g_op rfl (ValOk.op (v_assign rfl rfl ?_)) 
      refine g_nil ?_
      refine hK5 _ ?_
      refine Good.le (σ' := ⟨72, [(4, _), (5, _), (6, _)], [(14, (_, _)), (5203, (_, _))]⟩) (le_w [some 14, some 5203] rfl ⟨⟨_, rfl, .refl _⟩, ⟨⟨_, rfl, .refl _⟩, ⟨⟨_, rfl, .refl _⟩, trivial⟩⟩⟩ ⟨⟨_, rfl, .refl _⟩, ⟨⟨_, rfl, .refl _⟩, trivial⟩⟩ (by decide)) ?_
      refine Good.le (σ' := ⟨72, [(4, .ptr 14 b1 0), (5, .str s2.1), (6, .bool true)], [(100, (w1, .osl 48 3 (s1.2.2.map encOTyp))), (14, ((.pointer (some ⟨b1, 0, none⟩)), .optr 48 [.str s1.2.1, .hd 100 w1, .bool s2.2]))]⟩) (le_w [some 5203, some 14] rfl ⟨⟨_, rfl, .refl _⟩, ⟨⟨_, rfl, .refl _⟩, ⟨⟨_, rfl, .refl _⟩, trivial⟩⟩⟩ ⟨⟨_, rfl, .refl _⟩, ⟨⟨_, rfl, .optr (.cons (.refl _) (.cons (.hd _ _ _) (.cons (.refl _) (.nil))))⟩, trivial⟩⟩ (by decide)) ?_
      refine good_ret ?_
      obtain rfl := Option.some.inj h
      exact endQ_ret (h' := [(100, (_, _))]) [some 100] (.cell rfl rfl tsize48 tagg48 rfl rfl rfl (.tmp rfl (.tmp rfl (.nil)))) ⟨⟨_, rfl, .refl _⟩, trivial⟩ (by decide) ⟨w1, rfl, rfl⟩
    replace h := ho2
    refine good_seq fun K6 hK6 => ?_
    obtain ⟨o3, ho3, hJ3⟩ := bnd h
    have hw3 : ∀ (s3 : Bool), o3 = Lp.go s3 → ∀ σ', Le σ' ⟨72, [(0, .str s1.1), (4, .ptr 14 b1 0), (5, .str []), (6, .bool false), (7, .ptr 17 b2 0), (66, .bool s3)], [(14, ((.pointer (some ⟨b1, 0, none⟩)), .optr 48 [.str ([] : Bs), .nil, .bool false])), (17, ((.pointer (some ⟨b2, 0, none⟩)), .optr 48 [.str s1.2.1, .hd 5203 w1, .bool false])), (5203, (w1, .osl 48 3 (s1.2.2.map encOTyp)))]⟩ → K6 σ' := by
      intro s3 e3 σ' hle3
      subst e3
      refine hK6 _ (Good.le hle3 ?_)
      replace h := hJ3
      refine good_cond rfl (fun hc1 => ?_) (fun hc1 => ?_)
      · replace h := ifT h hc1
        refine good_seq fun K7 hK7 => ?_
        refine good_region ?_
        refine g_op rfl (ValOk.op (v_fieldP tabOk rfl tfoff48_2 rfl ?_)) 
        refine g_op rfl (o_storeP tabOk (cs' := [.str s1.2.1, .hd 5203 w1, .bool true]) rfl rfl tsize4 rfl rfl rfl (Nat.le_of_ble_eq_true rfl) rfl rfl rfl ?_)
        refine g_nil ?_
        refine hK7 _ ?_
        refine Good.le (σ' := ⟨72, [(0, _), (4, _), (5, _), (6, _), (7, _)], [(14, (_, _)), (17, (_, _)), (5203, (_, _))]⟩) (le_w [some 14, some 17, some 5203] rfl ⟨⟨_, rfl, .refl _⟩, ⟨⟨_, rfl, .refl _⟩, ⟨⟨_, rfl, .refl _⟩, ⟨⟨_, rfl, .refl _⟩, ⟨⟨_, rfl, .refl _⟩, trivial⟩⟩⟩⟩⟩ ⟨⟨_, rfl, .refl _⟩, ⟨⟨_, rfl, .refl _⟩, ⟨⟨_, rfl, .refl _⟩, trivial⟩⟩⟩ (by decide)) ?_
        refine good_region ?_
        refine g_op rfl (ValOk.op (v_move rfl rfl ?_)) 
        obtain ⟨hb1, h⟩ := ifS h
        refine g_op rfl (ValOk.op (v_sliceSM tabOk rfl rfl rfl rfl tkind9 hb1 rfl ?_)) 
        refine g_op rfl (ValOk.op (v_assign rfl rfl ?_)) 
        refine g_nil ?_
        exact hw2 (sub s1.1 1 (s1.1.length : Int), true) (Option.some.inj h).symm _ (le_w [some 14, some 17, some 5203] rfl ⟨⟨_, rfl, .refl _⟩, ⟨⟨_, rfl, .refl _⟩, ⟨⟨_, rfl, .refl _⟩, ⟨⟨_, rfl, .refl _⟩, ⟨⟨_, rfl, .refl _⟩, trivial⟩⟩⟩⟩⟩ ⟨⟨_, rfl, .refl _⟩, ⟨⟨_, rfl, .refl _⟩, ⟨⟨_, rfl, .refl _⟩, trivial⟩⟩⟩ (by decide))
      · replace h := bF h hc1
        refine good_skip ?_
        exact hw2 (s1.1, false) (Option.some.inj h).symm _ (le_w [some 14, some 17, some 5203] rfl ⟨⟨_, rfl, .refl _⟩, ⟨⟨_, rfl, .refl _⟩, ⟨⟨_, rfl, .refl _⟩, ⟨⟨_, rfl, .refl _⟩, ⟨⟨_, rfl, .refl _⟩, trivial⟩⟩⟩⟩⟩ ⟨⟨_, rfl, .refl _⟩, ⟨⟨_, rfl, .refl _⟩, ⟨⟨_, rfl, .refl _⟩, trivial⟩⟩⟩ (by decide))
    replace h := ho3
    refine good_region ?_
    refine g_op rfl (ValOk.op (v_move rfl rfl ?_)) 
    refine g_op rfl (ValOk.op (v_lenS tabOk rfl rfl tkind9 rfl ?_)) 
    refine g_op rfl (ValOk.op (v_bin rfl rfl rfl rfl ?_)) 
    refine g_op rfl (ValOk.op (v_move rfl rfl ?_)) 
    rcases bsplit ((decide (0 < (s1.1.length : Int)))) with hg1 | hg1
    · replace h := ifT h (dT hg1)
      refine g_yes rfl rfl hg1 (ValOk.op (v_move rfl rfl ?_)) 
      obtain ⟨hb2, h⟩ := ifS h
      refine g_yes rfl rfl hg1 (ValOk.op (v_indexM tabOk rfl rfl tkind9 hb2 rfl ?_)) 
      refine g_yes rfl rfl hg1 (ValOk.op (v_bin rfl rfl rfl rfl ?_)) 
      refine g_op rfl (ValOk.op (v_pickT rfl hg1 rfl rfl ?_)) 
      refine g_nil ?_
      exact hw3 (decide ((byt s1.1 0) = 33)) (Option.some.inj h).symm _ (le_w [some 14, some 17, some 5203] rfl ⟨⟨_, rfl, .refl _⟩, ⟨⟨_, rfl, .refl _⟩, ⟨⟨_, rfl, .refl _⟩, ⟨⟨_, rfl, .refl _⟩, ⟨⟨_, rfl, .refl _⟩, ⟨⟨_, rfl, .refl _⟩, trivial⟩⟩⟩⟩⟩⟩ ⟨⟨_, rfl, .refl _⟩, ⟨⟨_, rfl, .refl _⟩, ⟨⟨_, rfl, .refl _⟩, trivial⟩⟩⟩ (by decide))
    · replace h := ifF h (dF hg1)
      refine g_no rfl rfl hg1 rfl ?_
      refine g_no rfl rfl hg1 rfl ?_
      refine g_no rfl rfl hg1 rfl ?_
      refine g_op rfl (ValOk.op (v_pickF rfl hg1 rfl rfl ?_)) 
      refine g_nil ?_
      exact hw3 false (Option.some.inj h).symm _ (le_w [some 14, some 17, some 5203] rfl ⟨⟨_, rfl, .refl _⟩, ⟨⟨_, rfl, .refl _⟩, ⟨⟨_, rfl, .refl _⟩, ⟨⟨_, rfl, .refl _⟩, ⟨⟨_, rfl, .refl _⟩, ⟨⟨_, rfl, .refl _⟩, trivial⟩⟩⟩⟩⟩⟩ ⟨⟨_, rfl, .refl _⟩, ⟨⟨_, rfl, .refl _⟩, ⟨⟨_, rfl, .refl _⟩, trivial⟩⟩⟩ (by decide))
  replace h := ho1
  refine good_seq fun K8 hK8 => ?_
  obtain ⟨o4, ho4, hJ4⟩ := bnd h
  have hw4 : ∀ (s4 : Bool), o4 = Lp.go s4 → ∀ σ', Le σ' ⟨72, [(0, .str a0), (1, .int .i64 a1), (4, .ptr 14 b1 0), (5, .str []), (6, .bool false), (7, .ptr 17 b2 0), (23, .bool s4)], [(14, ((.pointer (some ⟨b1, 0, none⟩)), .optr 48 [.str ([] : Bs), .nil, .bool false])), (17, ((.pointer (some ⟨b2, 0, none⟩)), .optr 48 [.str ([] : Bs), .nil, .bool false]))]⟩ → K8 σ' := by
    intro s4 e4 σ' hle4
    subst e4
    refine hK8 _ (Good.le hle4 ?_)
    replace h := hJ4
    refine good_cond rfl (fun hc2 => ?_) (fun hc2 => ?_)
    · replace h := ifT h hc2
      refine good_seq fun K9 hK9 => ?_
      refine good_region ?_
      refine g_op rfl (ValOk.op (v_move rfl rfl ?_)) 
      obtain ⟨hb3, h⟩ := ifS h
      refine g_op rfl (ValOk.op (v_sliceSM tabOk rfl rfl rfl rfl tkind9 hb3 rfl ?_)) 
      refine g_op rfl (ValOk.op (v_move rfl rfl ?_)) 
      refine g_op rfl (ValOk.op (v_bin rfl rfl rfl rfl ?_)) 
      obtain ⟨y1, hy1, h⟩ := bnd h
      refine g_op rfl (o_callD [] [] [] (core_value rfl rfl) ((ih k (by omega)) (sub a0 1 (a0.length : Int)) (IntKind.wrap .i64 (a1 - 1)) _ hy1) trivial (.cons (.refl _) (.cons (.refl _) (.nil))) trivial rfl rfl rfl ?_)
      rintro _ _ ⟨w2, rfl, rfl⟩
      refine ⟨.tup [.agg [.str y1.1.name, .hd 3002 w2, .bool y1.1.must], .str y1.2.1, .bool y1.2.2], [(3002, _)], .tup (.cons (.agg (.cons (.refl _) (.cons (.hd _ _ _) (.cons (.refl _) (.nil))))) (.cons (.refl _) (.cons (.refl _) (.nil)))), rfl, rfl, rfl, rfl, .inl rfl, ?_⟩
      refine g_op rfl (ValOk.op (v_move rfl rfl ?_)) 
      refine g_op rfl (ValOk.op (v_extract rfl rfl rfl ?_)) 
      refine g_op rfl (ValOk.op (v_extract rfl rfl rfl ?_)) 
      refine g_op rfl (ValOk.op (v_extract rfl rfl rfl ?_)) 
      refine g_op rfl (o_alloc (k := 18) tabOk tzero48 rfl rfl ?_)
      intro b3
      refine g_op rfl (o_storeP tabOk (cs' := [.str y1.1.name, .hd 3002 w2, .bool y1.1.must]) rfl rfl tsize48 rfl rfl rfl (Nat.le_of_ble_eq_true rfl) rfl rfl rfl ?_)
      refine g_op rfl (ValOk.op (v_assign rfl rfl ?_)) 
      refine g_op rfl (ValOk.op (v_assign rfl rfl ?_)) 
      refine g_nil ?_
      refine hK9 _ ?_
      refine Good.le (σ' := ⟨72, [(0, _), (4, _), (5, _), (6, _), (7, _), (8, _), (9, _), (10, _)], [(14, (_, _)), (17, (_, _)), (18, (_, _)), (3002, (_, _))]⟩) (le_w [some 14, some 17, some 18, some 3002] rfl ⟨⟨_, rfl, .refl _⟩, ⟨⟨_, rfl, .refl _⟩, ⟨⟨_, rfl, .refl _⟩, ⟨⟨_, rfl, .refl _⟩, ⟨⟨_, rfl, .refl _⟩, ⟨⟨_, rfl, .refl _⟩, ⟨⟨_, rfl, .refl _⟩, ⟨⟨_, rfl, .refl _⟩, trivial⟩⟩⟩⟩⟩⟩⟩⟩ ⟨⟨_, rfl, .refl _⟩, ⟨⟨_, rfl, .refl _⟩, ⟨⟨_, rfl, .refl _⟩, ⟨⟨_, rfl, .refl _⟩, trivial⟩⟩⟩⟩ (by decide)) ?_
      refine good_seq fun K10 hK10 => ?_
      refine good_seq fun K11 hK11 => ?_
      obtain ⟨o5, ho5, hJ5⟩ := bnd h
      have hw5 : ∀ (s5 : Bool), o5 = Lp.go s5 → ∀ σ', Le σ' ⟨72, [(0, .str a0), (4, .ptr 14 b1 0), (5, .str []), (6, .bool false), (7, .ptr 17 b2 0), (8, .ptr 18 b3 0), (9, .str y1.2.1), (44, .bool s5)], [(14, ((.pointer (some ⟨b1, 0, none⟩)), .optr 48 [.str ([] : Bs), .nil, .bool false])), (17, ((.pointer (some ⟨b2, 0, none⟩)), .optr 48 [.str ([] : Bs), .nil, .bool false])), (18, ((.pointer (some ⟨b3, 0, none⟩)), .optr 48 [.str y1.1.name, .hd 3002 w2, .bool y1.1.must])), (3002, (w2, .osl 48 3 (y1.1.of_.map encOTyp)))]⟩ → K11 σ' := by
        intro s5 e5 σ' hle5
        subst e5
        refine hK11 _ (Good.le hle5 ?_)
        replace h := hJ5
        refine good_cond rfl (fun hc3 => ?_) (fun hc3 => ?_)
        · replace h := ifT h hc3
          refine good_seq fun K12 hK12 => ?_
          refine good_region ?_
          refine g_op rfl (ValOk.op (v_loadP tabOk rfl rfl tsize48 tagg48 rfl rfl rfl rfl ?_)) 
          refine g_op rfl (o_storeP tabOk (cs' := [.str ([] : Bs), .nil, .bool false]) rfl rfl tsize48 rfl rfl rfl (Nat.le_of_ble_eq_true rfl) rfl rfl rfl ?_)
          refine g_op rfl (ValOk.op (v_assign rfl rfl ?_)) 
          refine g_op rfl (ValOk.op (v_assign rfl rfl ?_)) 
          refine g_nil ?_
          refine hK12 _ ?_
          refine Good.le (σ' := ⟨72, [(0, _), (4, _), (5, _), (6, _), (7, _), (8, _), (9, _)], [(14, (_, _)), (17, (_, _)), (18, (_, _)), (3002, (_, _))]⟩) (le_w [some 14, some 17, some 18, some 3002] rfl ⟨⟨_, rfl, .refl _⟩, ⟨⟨_, rfl, .refl _⟩, ⟨⟨_, rfl, .refl _⟩, ⟨⟨_, rfl, .refl _⟩, ⟨⟨_, rfl, .refl _⟩, ⟨⟨_, rfl, .refl _⟩, ⟨⟨_, rfl, .refl _⟩, trivial⟩⟩⟩⟩⟩⟩⟩ ⟨⟨_, rfl, .refl _⟩, ⟨⟨_, rfl, .refl _⟩, ⟨⟨_, rfl, .refl _⟩, ⟨⟨_, rfl, .refl _⟩, trivial⟩⟩⟩⟩ (by decide)) ?_
          refine Good.le (σ' := ⟨72, [(4, .ptr 14 b1 0), (5, .str []), (6, .bool false)], [(100, (nilV, .osl 48 3 (([] : List Typ).map encOTyp))), (14, ((.pointer (some ⟨b1, 0, none⟩)), .optr 48 [.str ([] : Bs), .hd 100 nilV, .bool false]))]⟩) (le_w [none, some 14] rfl ⟨⟨_, rfl, .refl _⟩, ⟨⟨_, rfl, .refl _⟩, ⟨⟨_, rfl, .refl _⟩, trivial⟩⟩⟩ ⟨⟨rfl, _, _, rfl⟩, ⟨⟨_, rfl, .optr (.cons (.refl _) (.cons (.nilhd _) (.cons (.refl _) (.nil))))⟩, trivial⟩⟩ (by decide)) ?_
          refine good_ret ?_
          replace h := unret h hJ1
          obtain rfl := Option.some.inj h
          refine thenQ_ret ?_
          refine thenQ_ret ?_
          exact endQ_ret (h' := [(100, (_, _))]) [some 100] (.cell rfl rfl tsize48 tagg48 rfl rfl rfl (.tmp rfl (.tmp rfl (.nil)))) ⟨⟨_, rfl, .refl _⟩, trivial⟩ (by decide) ⟨nilV, rfl, rfl⟩
        · replace h := bF h hc3
          refine good_skip ?_
          refine hK10 _ ?_
          refine Good.le (σ' := ⟨72, [(0, _), (4, _), (5, _), (6, _), (7, _), (8, _), (9, _)], [(14, (_, _)), (17, (_, _)), (18, (_, _)), (3002, (_, _))]⟩) (le_w [some 14, some 17, some 18, some 3002] rfl ⟨⟨_, rfl, .refl _⟩, ⟨⟨_, rfl, .refl _⟩, ⟨⟨_, rfl, .refl _⟩, ⟨⟨_, rfl, .refl _⟩, ⟨⟨_, rfl, .refl _⟩, ⟨⟨_, rfl, .refl _⟩, ⟨⟨_, rfl, .refl _⟩, trivial⟩⟩⟩⟩⟩⟩⟩ ⟨⟨_, rfl, .refl _⟩, ⟨⟨_, rfl, .refl _⟩, ⟨⟨_, rfl, .refl _⟩, ⟨⟨_, rfl, .refl _⟩, trivial⟩⟩⟩⟩ (by decide)) ?_
          refine good_seq fun K13 hK13 => ?_
          refine good_region ?_
          refine g_op rfl (ValOk.op (v_loadP tabOk rfl rfl tsize48 tagg48 rfl rfl rfl rfl ?_)) 
          refine g_op rfl (OpOk.le (o_buildSlice (k := 57) (rows := [[.str y1.1.name, .hd 3002 w2, .bool y1.1.must]]) tabOk telem46 tsize48 rfl rfl rfl rfl (by decide) (by decide) (by rw [tzero48]; rfl) rfl rfl rfl rfl rfl ?_))
          intro w3
          refine ⟨_, (le_absorb1 (k := 57) (k2 := 3002) (rows' := [y1.1].map encOTyp) 0 1 _ rfl (by decide) rfl rfl (cons_eq (encOTyp_eq _) rfl)), ?_⟩
          refine g_op rfl (ValOk.op (v_fieldP tabOk rfl tfoff48_1 rfl ?_)) 
          refine g_op rfl (o_storeP tabOk (cs' := [.str ([] : Bs), .hd 57 w3, .bool false]) rfl rfl tsize46 rfl rfl rfl (Nat.le_of_ble_eq_true rfl) rfl rfl rfl ?_)
          refine g_nil ?_
          refine hK13 _ ?_
          refine Good.le (σ' := ⟨72, [(0, _), (4, _), (5, _), (6, _), (7, _), (9, _)], [(14, (_, _)), (17, (_, _)), (57, (_, _))]⟩) (le_w [some 14, some 17, some 57] rfl ⟨⟨_, rfl, .refl _⟩, ⟨⟨_, rfl, .refl _⟩, ⟨⟨_, rfl, .refl _⟩, ⟨⟨_, rfl, .refl _⟩, ⟨⟨_, rfl, .refl _⟩, ⟨⟨_, rfl, .refl _⟩, trivial⟩⟩⟩⟩⟩⟩ ⟨⟨_, rfl, .refl _⟩, ⟨⟨_, rfl, .refl _⟩, ⟨⟨_, rfl, .refl _⟩, trivial⟩⟩⟩ (by decide)) ?_
          refine good_region ?_
          refine g_op rfl (ValOk.op (v_move rfl rfl ?_)) 
          obtain ⟨hb4, h⟩ := ifS h
          refine g_op rfl (ValOk.op (v_sliceSM tabOk rfl rfl rfl rfl tkind9 hb4 rfl ?_)) 
          refine g_op rfl (ValOk.op (v_assign rfl rfl ?_)) 
          refine g_nil ?_
          exact hw1 (sub y1.2.1 1 (y1.2.1.length : Int), ([] : Bs), [y1.1]) w3 (Option.some.inj h).symm _ (le_w [some 14, some 17, some 57] rfl ⟨⟨_, rfl, .refl _⟩, ⟨⟨_, rfl, .refl _⟩, ⟨⟨_, rfl, .refl _⟩, ⟨⟨_, rfl, .refl _⟩, ⟨⟨_, rfl, .refl _⟩, trivial⟩⟩⟩⟩⟩ ⟨⟨_, rfl, .refl _⟩, ⟨⟨_, rfl, .optr (.cons (.refl _) (.cons (.hd _ _ _) (.cons (.refl _) (.nil))))⟩, ⟨⟨_, rfl, .refl _⟩, trivial⟩⟩⟩ (by decide))
      replace h := ho5
      refine good_region ?_
      refine g_op rfl (ValOk.op (v_move rfl rfl ?_)) 
      refine g_op rfl (ValOk.op (v_not rfl rfl ?_)) 
      refine g_op rfl (ValOk.op (v_move rfl rfl ?_)) 
      rcases bsplit ((!y1.2.2)) with hg2 | hg2
      · replace h := bF h (nT hg2)
        refine g_no rfl rfl hg2 rfl ?_
        refine g_no rfl rfl hg2 rfl ?_
        refine g_no rfl rfl hg2 rfl ?_
        refine g_op rfl (ValOk.op (v_pickT rfl hg2 rfl rfl ?_)) 
        refine g_op rfl (ValOk.op (v_move rfl rfl ?_)) 
        refine g_no rfl rfl rfl rfl ?_
        refine g_no rfl rfl rfl rfl ?_
        refine g_no rfl rfl rfl rfl ?_
        refine g_op rfl (ValOk.op (v_pickT rfl rfl rfl rfl ?_)) 
        refine g_nil ?_
        exact hw5 true (Option.some.inj h).symm _ (le_w [some 14, some 17, some 18, some 3002] rfl ⟨⟨_, rfl, .refl _⟩, ⟨⟨_, rfl, .refl _⟩, ⟨⟨_, rfl, .refl _⟩, ⟨⟨_, rfl, .refl _⟩, ⟨⟨_, rfl, .refl _⟩, ⟨⟨_, rfl, .refl _⟩, ⟨⟨_, rfl, .refl _⟩, ⟨⟨_, rfl, .refl _⟩, trivial⟩⟩⟩⟩⟩⟩⟩⟩ ⟨⟨_, rfl, .refl _⟩, ⟨⟨_, rfl, .refl _⟩, ⟨⟨_, rfl, .refl _⟩, ⟨⟨_, rfl, .refl _⟩, trivial⟩⟩⟩⟩ (by decide))
      · replace h := ifT h (nF hg2)
        refine g_yes rfl rfl hg2 (ValOk.op (v_move rfl rfl ?_)) 
        refine g_yes rfl rfl hg2 (ValOk.op (v_lenS tabOk rfl rfl tkind9 rfl ?_)) 
        refine g_yes rfl rfl hg2 (ValOk.op (v_bin rfl rfl rfl rfl ?_)) 
        refine g_op rfl (ValOk.op (v_pickF rfl hg2 rfl rfl ?_)) 
        refine g_op rfl (ValOk.op (v_move rfl rfl ?_)) 
        rcases bsplit ((decide ((y1.2.1.length : Int) = 0))) with hg3 | hg3
        · replace h := ifT h (dT hg3)
          refine g_no rfl rfl hg3 rfl ?_
          refine g_no rfl rfl hg3 rfl ?_
          refine g_no rfl rfl hg3 rfl ?_
          refine g_op rfl (ValOk.op (v_pickT rfl hg3 rfl rfl ?_)) 
          refine g_nil ?_
          exact hw5 true (Option.some.inj h).symm _ (le_w [some 14, some 17, some 18, some 3002] rfl ⟨⟨_, rfl, .refl _⟩, ⟨⟨_, rfl, .refl _⟩, ⟨⟨_, rfl, .refl _⟩, ⟨⟨_, rfl, .refl _⟩, ⟨⟨_, rfl, .refl _⟩, ⟨⟨_, rfl, .refl _⟩, ⟨⟨_, rfl, .refl _⟩, ⟨⟨_, rfl, .refl _⟩, trivial⟩⟩⟩⟩⟩⟩⟩⟩ ⟨⟨_, rfl, .refl _⟩, ⟨⟨_, rfl, .refl _⟩, ⟨⟨_, rfl, .refl _⟩, ⟨⟨_, rfl, .refl _⟩, trivial⟩⟩⟩⟩ (by decide))
        · replace h := ifF h (dF hg3)
          refine g_yes rfl rfl hg3 (ValOk.op (v_move rfl rfl ?_)) 
          obtain ⟨hb5, h⟩ := ifS h
          refine g_yes rfl rfl hg3 (ValOk.op (v_indexM tabOk rfl rfl tkind9 hb5 rfl ?_)) 
          refine g_yes rfl rfl hg3 (ValOk.op (v_bin rfl rfl rfl rfl ?_)) 
          refine g_op rfl (ValOk.op (v_pickF rfl hg3 rfl rfl ?_)) 
          refine g_nil ?_
          exact hw5 (!(decide ((byt y1.2.1 0) = 93))) (Option.some.inj h).symm _ (le_w [some 14, some 17, some 18, some 3002] rfl ⟨⟨_, rfl, .refl _⟩, ⟨⟨_, rfl, .refl _⟩, ⟨⟨_, rfl, .refl _⟩, ⟨⟨_, rfl, .refl _⟩, ⟨⟨_, rfl, .refl _⟩, ⟨⟨_, rfl, .refl _⟩, ⟨⟨_, rfl, .refl _⟩, ⟨⟨_, rfl, .refl _⟩, trivial⟩⟩⟩⟩⟩⟩⟩⟩ ⟨⟨_, rfl, .refl _⟩, ⟨⟨_, rfl, .refl _⟩, ⟨⟨_, rfl, .refl _⟩, ⟨⟨_, rfl, .refl _⟩, trivial⟩⟩⟩⟩ (by decide))
    · replace h := bF h hc2
      refine good_seq fun K14 hK14 => ?_
      refine good_region ?_
      refine g_op rfl (ValOk.op (v_move rfl rfl ?_)) 
      obtain ⟨y2, hy2, h⟩ := bnd h
      refine g_op rfl (o_callR [] [] (core_value rfl rfl) (m_spec_l1Word_ok k a0 _ hy2) trivial (.cons (.refl _) (.nil)) (.inl rfl) rfl ?_)
      refine g_op rfl (ValOk.op (v_fieldP tabOk rfl tfoff48_0 rfl ?_)) 
      refine g_op rfl (o_storeP tabOk (cs' := [.str y2, .nil, .bool false]) rfl rfl tsize9 rfl rfl rfl (Nat.le_of_ble_eq_true rfl) rfl rfl rfl ?_)
      refine g_nil ?_
      refine hK14 _ ?_
      refine Good.le (σ' := ⟨72, [(0, _), (4, _), (5, _), (6, _), (7, _)], [(14, (_, _)), (17, (_, _))]⟩) (le_w [some 14, some 17] rfl ⟨⟨_, rfl, .refl _⟩, ⟨⟨_, rfl, .refl _⟩, ⟨⟨_, rfl, .refl _⟩, ⟨⟨_, rfl, .refl _⟩, ⟨⟨_, rfl, .refl _⟩, trivial⟩⟩⟩⟩⟩ ⟨⟨_, rfl, .refl _⟩, ⟨⟨_, rfl, .refl _⟩, trivial⟩⟩ (by decide)) ?_
      refine good_region ?_
      refine g_op rfl (ValOk.op (v_move rfl rfl ?_)) 
      refine g_op rfl (ValOk.op (v_fieldP tabOk rfl tfoff48_0 rfl ?_)) 
      refine g_op rfl (ValOk.op (v_loadP tabOk rfl rfl tsize9 tagg9 rfl rfl rfl rfl ?_)) 
      refine g_op rfl (ValOk.op (v_lenS tabOk rfl rfl tkind9 rfl ?_)) 
      obtain ⟨hb6, h⟩ := ifS h
      refine g_op rfl (ValOk.op (v_sliceSM tabOk rfl rfl rfl rfl tkind9 hb6 rfl ?_)) 
      refine g_op rfl (ValOk.op (v_assign rfl rfl ?_)) 
      refine g_nil ?_
      exact hw1 (sub a0 (y2.length : Int) (a0.length : Int), y2, []) nilV (Option.some.inj h).symm _ (le_w [some 14, some 17, none] rfl ⟨⟨_, rfl, .refl _⟩, ⟨⟨_, rfl, .refl _⟩, ⟨⟨_, rfl, .refl _⟩, ⟨⟨_, rfl, .refl _⟩, ⟨⟨_, rfl, .refl _⟩, trivial⟩⟩⟩⟩⟩ ⟨⟨_, rfl, .refl _⟩, ⟨⟨_, rfl, .optr (.cons (.refl _) (.cons (.nilhd _) (.cons (.refl _) (.nil))))⟩, ⟨⟨rfl, _, _, rfl⟩, trivial⟩⟩⟩ (by decide))
  replace h := ho4
  refine good_region ?_
  refine g_op rfl (ValOk.op (v_move rfl rfl ?_)) 
  refine g_op rfl (ValOk.op (v_lenS tabOk rfl rfl tkind9 rfl ?_)) 
  refine g_op rfl (ValOk.op (v_bin rfl rfl rfl rfl ?_)) 
  refine g_op rfl (ValOk.op (v_move rfl rfl ?_)) 
  rcases bsplit ((decide (0 < (a0.length : Int)))) with hg4 | hg4
  · replace h := ifT h (dT hg4)
    refine g_yes rfl rfl hg4 (ValOk.op (v_move rfl rfl ?_)) 
    obtain ⟨hb7, h⟩ := ifS h
    refine g_yes rfl rfl hg4 (ValOk.op (v_indexM tabOk rfl rfl tkind9 hb7 rfl ?_)) 
    refine g_yes rfl rfl hg4 (ValOk.op (v_bin rfl rfl rfl rfl ?_)) 
    refine g_op rfl (ValOk.op (v_pickT rfl hg4 rfl rfl ?_)) 
    refine g_op rfl (ValOk.op (v_move rfl rfl ?_)) 
    rcases bsplit ((decide ((byt a0 0) = 91))) with hg5 | hg5
    · replace h := ifT h (dT hg5)
      refine g_yes rfl rfl hg5 (ValOk.op (v_move rfl rfl ?_)) 
      refine g_yes rfl rfl hg5 (ValOk.op (v_bin rfl rfl rfl rfl ?_)) 
      refine g_op rfl (ValOk.op (v_pickT rfl hg5 rfl rfl ?_)) 
      refine g_nil ?_
      exact hw4 (decide (1 < a1)) (Option.some.inj h).symm _ (le_w [some 14, some 17] rfl ⟨⟨_, rfl, .refl _⟩, ⟨⟨_, rfl, .refl _⟩, ⟨⟨_, rfl, .refl _⟩, ⟨⟨_, rfl, .refl _⟩, ⟨⟨_, rfl, .refl _⟩, ⟨⟨_, rfl, .refl _⟩, ⟨⟨_, rfl, .refl _⟩, trivial⟩⟩⟩⟩⟩⟩⟩ ⟨⟨_, rfl, .refl _⟩, ⟨⟨_, rfl, .refl _⟩, trivial⟩⟩ (by decide))
    · replace h := ifF h (dF hg5)
      refine g_no rfl rfl hg5 rfl ?_
      refine g_no rfl rfl hg5 rfl ?_
      refine g_op rfl (ValOk.op (v_pickF rfl hg5 rfl rfl ?_)) 
      refine g_nil ?_
      exact hw4 false (Option.some.inj h).symm _ (le_w [some 14, some 17] rfl ⟨⟨_, rfl, .refl _⟩, ⟨⟨_, rfl, .refl _⟩, ⟨⟨_, rfl, .refl _⟩, ⟨⟨_, rfl, .refl _⟩, ⟨⟨_, rfl, .refl _⟩, ⟨⟨_, rfl, .refl _⟩, ⟨⟨_, rfl, .refl _⟩, trivial⟩⟩⟩⟩⟩⟩⟩ ⟨⟨_, rfl, .refl _⟩, ⟨⟨_, rfl, .refl _⟩, trivial⟩⟩ (by decide))
  · replace h := ifF h (dF hg4)
    refine g_no rfl rfl hg4 rfl ?_
    refine g_no rfl rfl hg4 rfl ?_
    refine g_no rfl rfl hg4 rfl ?_
    refine g_op rfl (ValOk.op (v_pickF rfl hg4 rfl rfl ?_)) 
    refine g_op rfl (ValOk.op (v_move rfl rfl ?_)) 
    refine g_no rfl rfl rfl rfl ?_
    refine g_no rfl rfl rfl rfl ?_
    refine g_op rfl (ValOk.op (v_pickF rfl rfl rfl rfl ?_)) 
    refine g_nil ?_
    exact hw4 false (Option.some.inj h).symm _ (le_w [some 14, some 17] rfl ⟨⟨_, rfl, .refl _⟩, ⟨⟨_, rfl, .refl _⟩, ⟨⟨_, rfl, .refl _⟩, ⟨⟨_, rfl, .refl _⟩, ⟨⟨_, rfl, .refl _⟩, ⟨⟨_, rfl, .refl _⟩, ⟨⟨_, rfl, .refl _⟩, trivial⟩⟩⟩⟩⟩⟩⟩ ⟨⟨_, rfl, .refl _⟩, ⟨⟨_, rfl, .refl _⟩, trivial⟩⟩ (by decide))
theorem m_spec_l2Get_all (k : Nat) : P_m_spec_l2Get k := by
  induction k using Nat.strongRecOn with
  | _ k ih => exact m_spec_l2Get_step k ih
theorem m_spec_l2Get_ok (k : Nat) : ∀ (a0 : Bs) (a1 : Int) (r : (Typ × Bs × Bool)), m_spec_l2Get k a0 a1 = some r → Does Try.prog 59 [.str a0, .int .i64 a1] [] (fun q h' => ∃ u0 : Value, q = .tup [.agg [.str r.1.name, .hd 100 u0, .bool r.1.must], .str r.2.1, .bool r.2.2] ∧ h' = [(100, (u0, .osl 48 3 (r.1.of_.map encOTyp)))]) := (m_spec_l2Get_all k)
theorem m_spec_l2Get_okF (k : Nat) : ∀ (a0 : Bs) (a1 : Int) (r : (Typ × Bs × Bool)), m_spec_l2Get k a0 a1 = some r → Does Try.prog 59 [.str a0, .int .i64 a1] [] (ret (.tup [.agg [.str r.1.name, .sl false (r.1.of_.map encTyp), .bool r.1.must], .str r.2.1, .bool r.2.2])) := by
  intro a0 a1 r h
  refine does_frz (m_spec_l2Get_ok k a0 a1 r h) ?_
  rintro q h' ⟨u0, rfl, rfl⟩
  exact ⟨[100], [(_, _)], ⟨⟨_, rfl, .osl (FrzLL.map fun _ _ => encOTyp_frz _)⟩, trivial⟩, .tup (.cons (.agg (.cons (.refl _) (.cons (.frz _ _ _ (.head _)) (.cons (.refl _) (.nil))))) (.cons (.refl _) (.cons (.refl _) (.nil))))⟩
def m_spec_l2Type : Nat → Typ → Int → Option Bool
  | 0, _, _ => none
  | k + 1, a0, a1 =>
    if (a0.of_.length : Int) = 0 then
      (m_spec_l1Name k a0.name).bind fun y1 =>
      some y1
    else
      if a0.name = [] then
        if (a0.of_.length : Int) = 1 then
          if 1 < a1 then
            if (0 : Int) ≤ 0 ∧ 0 < (a0.of_.length : Int) then
              (m_spec_l2Type k (Typ.mk ((ix a0.of_ 0).name) ((ix a0.of_ 0).of_) ((ix a0.of_ 0).must)) (IntKind.wrap .i64 (a1 - 1))).bind fun y2 =>
              some y2
            else none
          else
            some false
        else
          some false
      else
        some false
def P_m_spec_l2Type (k : Nat) : Prop := ∀ (a0 : Typ) (a1 : Int) (r : Bool), m_spec_l2Type k a0 a1 = some r → Does Try.prog 60 [.agg [.str a0.name, .sl false (a0.of_.map encTyp), .bool a0.must], .int .i64 a1] [] (ret (.bool r))
theorem m_spec_l2Type_step (k : Nat) (ih : ∀ m, m < k → P_m_spec_l2Type m) : P_m_spec_l2Type k := by
  intro a0 a1 r h
  obtain ⟨k, rfl⟩ : ∃ k', k = k' + 1 := by cases k with | zero => (rw [m_spec_l2Type] at h; cases h) | succ k' => exact ⟨k', rfl⟩
  rw [m_spec_l2Type] at h
  refine does_of_good tabOk Try.func60 rfl (by decide +kernel) (Nat.le_of_ble_eq_true rfl) fun c => ?_
  refine Good.le (σ' := ⟨34, [(0, .agg [.str a0.name, .sl false (a0.of_.map encTyp), .bool a0.must]), (1, .int .i64 a1)], []⟩) (Le.refl _) ?_
  refine good_seq fun K1 hK1 => ?_
  refine good_region ?_
  refine g_op rfl (o_box (k := 12) tabOk rfl rfl rfl rfl rfl ?_)
  intro b1
  refine g_op rfl (ValOk.op (v_assign rfl rfl ?_)) 
  refine g_nil ?_
  refine hK1 _ ?_
  refine Good.le (σ' := ⟨34, [(1, _), (2, _), (4, _)], [(12, (_, _))]⟩) (le_w [some 12] rfl ⟨⟨_, rfl, .refl _⟩, ⟨⟨_, rfl, .refl _⟩, ⟨⟨_, rfl, .refl _⟩, trivial⟩⟩⟩ ⟨⟨_, rfl, .refl _⟩, trivial⟩ (by decide)) ?_
  refine good_seq fun K2 hK2 => ?_
  refine good_seq fun K3 hK3 => ?_
  refine good_region ?_
  refine g_op rfl (ValOk.op (v_fieldP tabOk rfl tfoff48_1 rfl ?_)) 
  refine g_op rfl (ValOk.op (v_loadP tabOk rfl rfl tsize46 tagg46 rfl rfl rfl rfl ?_)) 
  refine g_op rfl (ValOk.op (v_lenM (l := a0.of_) (f := encTyp) tabOk rfl rfl telem46 rfl ?_)) 
  refine g_op rfl (ValOk.op (v_bin rfl rfl rfl rfl ?_)) 
  refine g_nil ?_
  refine hK3 _ ?_
  refine Good.le (σ' := ⟨34, [(1, _), (2, _), (4, _), (8, _)], [(12, (_, _))]⟩) (le_w [some 12] rfl ⟨⟨_, rfl, .refl _⟩, ⟨⟨_, rfl, .refl _⟩, ⟨⟨_, rfl, .refl _⟩, ⟨⟨_, rfl, .refl _⟩, trivial⟩⟩⟩⟩ ⟨⟨_, rfl, .refl _⟩, trivial⟩ (by decide)) ?_
  refine good_cond rfl (fun hc1 => ?_) (fun hc1 => ?_)
  · replace h := ifT h (dT hc1)
    refine good_seq fun K4 hK4 => ?_
    refine good_region ?_
    refine g_op rfl (ValOk.op (v_fieldP tabOk rfl tfoff48_0 rfl ?_)) 
    refine g_op rfl (ValOk.op (v_loadP tabOk rfl rfl tsize9 tagg9 rfl rfl rfl rfl ?_)) 
    obtain ⟨y1, hy1, h⟩ := bnd h
    refine g_op rfl (o_callR [] [] (core_value rfl rfl) (m_spec_l1Name_ok k a0.name _ hy1) trivial (.cons (.refl _) (.nil)) (.inl rfl) rfl ?_)
    refine g_op rfl (ValOk.op (v_assign rfl rfl ?_)) 
    refine g_nil ?_
    refine hK4 _ ?_
    refine Good.le (σ' := ⟨34, [(1, _), (2, _), (4, _)], [(12, (_, _))]⟩) (le_w [some 12] rfl ⟨⟨_, rfl, .refl _⟩, ⟨⟨_, rfl, .refl _⟩, ⟨⟨_, rfl, .refl _⟩, trivial⟩⟩⟩ ⟨⟨_, rfl, .refl _⟩, trivial⟩ (by decide)) ?_
    refine Good.le (σ' := ⟨34, [(4, .bool y1)], []⟩) (le_w [] rfl ⟨⟨_, rfl, .refl _⟩, trivial⟩ trivial (by decide)) ?_
    refine good_ret ?_
    obtain rfl := Option.some.inj h
    refine thenQ_ret ?_
    exact endQ_ret (h' := []) [] (.tmp rfl (.nil)) trivial (by decide) ⟨rfl, rfl⟩
  · replace h := ifF h (dF hc1)
    refine good_skip ?_
    refine hK2 _ ?_
    refine Good.le (σ' := ⟨34, [(1, _), (2, _), (4, _)], [(12, (_, _))]⟩) (le_w [some 12] rfl ⟨⟨_, rfl, .refl _⟩, ⟨⟨_, rfl, .refl _⟩, ⟨⟨_, rfl, .refl _⟩, trivial⟩⟩⟩ ⟨⟨_, rfl, .refl _⟩, trivial⟩ (by decide)) ?_
    refine good_seq fun K5 hK5 => ?_
    refine good_region ?_
    refine g_op rfl (ValOk.op (v_fieldP tabOk rfl tfoff48_0 rfl ?_)) 
    refine g_op rfl (ValOk.op (v_loadP tabOk rfl rfl tsize9 tagg9 rfl rfl rfl rfl ?_)) 
    refine g_op rfl (ValOk.op (v_bin rfl rfl rfl rfl ?_)) 
    refine g_op rfl (ValOk.op (v_move rfl rfl ?_)) 
    rcases bsplit ((decide (a0.name = []))) with hg1 | hg1
    · replace h := ifT h (dT hg1)
      refine g_yes rfl rfl hg1 (ValOk.op (v_fieldP tabOk rfl tfoff48_1 rfl ?_)) 
      refine g_yes rfl rfl hg1 (ValOk.op (v_loadP tabOk rfl rfl tsize46 tagg46 rfl rfl rfl rfl ?_)) 
      refine g_yes rfl rfl hg1 (ValOk.op (v_lenM (l := a0.of_) (f := encTyp) tabOk rfl rfl telem46 rfl ?_)) 
      refine g_yes rfl rfl hg1 (ValOk.op (v_bin rfl rfl rfl rfl ?_)) 
      refine g_op rfl (ValOk.op (v_pickT rfl hg1 rfl rfl ?_)) 
      refine g_op rfl (ValOk.op (v_move rfl rfl ?_)) 
      rcases bsplit ((decide ((a0.of_.length : Int) = 1))) with hg2 | hg2
      · replace h := ifT h (dT hg2)
        refine g_yes rfl rfl hg2 (ValOk.op (v_move rfl rfl ?_)) 
        refine g_yes rfl rfl hg2 (ValOk.op (v_bin rfl rfl rfl rfl ?_)) 
        refine g_op rfl (ValOk.op (v_pickT rfl hg2 rfl rfl ?_)) 
        refine g_op rfl (ValOk.op (v_move rfl rfl ?_)) 
        rcases bsplit ((decide (1 < a1))) with hg3 | hg3
        · replace h := ifT h (dT hg3)
          refine g_yes rfl rfl hg3 (ValOk.op (v_fieldP tabOk rfl tfoff48_1 rfl ?_)) 
          refine g_yes rfl rfl hg3 (ValOk.op (v_loadP tabOk rfl rfl tsize46 tagg46 rfl rfl rfl rfl ?_)) 
          obtain ⟨hb1, h⟩ := ifS h
          refine g_yes rfl rfl hg3 (ValOk.op (v_idxM tabOk rfl rfl telem46 tsize48 hb1 (encTyp_eq _) rfl rfl ?_)) 
          refine g_yes rfl rfl hg3 (ValOk.op (v_loadE tabOk rfl tsize48 tagg48 rfl rfl rfl ?_)) 
          refine g_yes rfl rfl hg3 (ValOk.op (v_move rfl rfl ?_)) 
          refine g_yes rfl rfl hg3 (ValOk.op (v_bin rfl rfl rfl rfl ?_)) 
          obtain ⟨y2, hy2, h⟩ := bnd h
          refine g_yes rfl rfl hg3 (o_callR [] [] (core_value rfl rfl) ((ih k (by omega)) (Typ.mk ((ix a0.of_ 0).name) ((ix a0.of_ 0).of_) ((ix a0.of_ 0).must)) (IntKind.wrap .i64 (a1 - 1)) _ hy2) trivial (.cons (.refl _) (.cons (.refl _) (.nil))) (.inl rfl) rfl ?_)
          refine g_op rfl (ValOk.op (v_pickT rfl hg3 rfl rfl ?_)) 
          refine g_op rfl (ValOk.op (v_assign rfl rfl ?_)) 
          refine g_nil ?_
          refine hK5 _ ?_
          refine Good.le (σ' := ⟨34, [(4, _)], []⟩) (le_w [] rfl ⟨⟨_, rfl, .refl _⟩, trivial⟩ trivial (by decide)) ?_
          refine Good.le (σ' := ⟨34, [(4, .bool y2)], []⟩) (le_w [] rfl ⟨⟨_, rfl, .refl _⟩, trivial⟩ trivial (by decide)) ?_
          refine good_ret ?_
          obtain rfl := Option.some.inj h
          exact endQ_ret (h' := []) [] (.tmp rfl (.nil)) trivial (by decide) ⟨rfl, rfl⟩
        · replace h := ifF h (dF hg3)
          refine g_no rfl rfl hg3 rfl ?_
          refine g_no rfl rfl hg3 rfl ?_
          refine g_no rfl rfl hg3 rfl ?_
          refine g_no rfl rfl hg3 rfl ?_
          refine g_no rfl rfl hg3 rfl ?_
          refine g_no rfl rfl hg3 rfl ?_
          refine g_no rfl rfl hg3 rfl ?_
          refine g_op rfl (ValOk.op (v_pickF rfl hg3 rfl rfl ?_)) 
          refine g_op rfl (ValOk.op (v_assign rfl rfl ?_)) 
          refine g_nil ?_
          refine hK5 _ ?_
          refine Good.le (σ' := ⟨34, [(4, _)], []⟩) (le_w [] rfl ⟨⟨_, rfl, .refl _⟩, trivial⟩ trivial (by decide)) ?_
          refine Good.le (σ' := ⟨34, [(4, .bool false)], []⟩) (le_w [] rfl ⟨⟨_, rfl, .refl _⟩, trivial⟩ trivial (by decide)) ?_
          refine good_ret ?_
          obtain rfl := Option.some.inj h
          exact endQ_ret (h' := []) [] (.tmp rfl (.nil)) trivial (by decide) ⟨rfl, rfl⟩
      · replace h := ifF h (dF hg2)
        refine g_no rfl rfl hg2 rfl ?_
        refine g_no rfl rfl hg2 rfl ?_
        refine g_op rfl (ValOk.op (v_pickF rfl hg2 rfl rfl ?_)) 
        refine g_op rfl (ValOk.op (v_move rfl rfl ?_)) 
        refine g_no rfl rfl rfl rfl ?_
        refine g_no rfl rfl rfl rfl ?_
        refine g_no rfl rfl rfl rfl ?_
        refine g_no rfl rfl rfl rfl ?_
        refine g_no rfl rfl rfl rfl ?_
        refine g_no rfl rfl rfl rfl ?_
        refine g_no rfl rfl rfl rfl ?_
        refine g_op rfl (ValOk.op (v_pickF rfl rfl rfl rfl ?_)) 
        refine g_op rfl (ValOk.op (v_assign rfl rfl ?_)) 
        refine g_nil ?_
        refine hK5 _ ?_
        refine Good.le (σ' := ⟨34, [(4, _)], []⟩) (le_w [] rfl ⟨⟨_, rfl, .refl _⟩, trivial⟩ trivial (by decide)) ?_
        refine Good.le (σ' := ⟨34, [(4, .bool false)], []⟩) (le_w [] rfl ⟨⟨_, rfl, .refl _⟩, trivial⟩ trivial (by decide)) ?_
        refine good_ret ?_
        obtain rfl := Option.some.inj h
        exact endQ_ret (h' := []) [] (.tmp rfl (.nil)) trivial (by decide) ⟨rfl, rfl⟩
    · replace h := ifF h (dF hg1)
      refine g_no rfl rfl hg1 rfl ?_
      refine g_no rfl rfl hg1 rfl ?_
      refine g_no rfl rfl hg1 rfl ?_
      refine g_no rfl rfl hg1 rfl ?_
      refine g_op rfl (ValOk.op (v_pickF rfl hg1 rfl rfl ?_)) 
      refine g_op rfl (ValOk.op (v_move rfl rfl ?_)) 
      refine g_no rfl rfl rfl rfl ?_
      refine g_no rfl rfl rfl rfl ?_
      refine g_op rfl (ValOk.op (v_pickF rfl rfl rfl rfl ?_)) 
      refine g_op rfl (ValOk.op (v_move rfl rfl ?_)) 
      refine g_no rfl rfl rfl rfl ?_
      refine g_no rfl rfl rfl rfl ?_
      refine g_no rfl rfl rfl rfl ?_
      refine g_no rfl rfl rfl rfl ?_
      refine g_no rfl rfl rfl rfl ?_
      refine g_no rfl rfl rfl rfl ?_
      refine g_no rfl rfl rfl rfl ?_
      refine g_op rfl (ValOk.op (v_pickF rfl rfl rfl rfl ?_)) 
      refine g_op rfl (ValOk.op (v_assign rfl rfl ?_)) 
      refine g_nil ?_
      refine hK5 _ ?_
      refine Good.le (σ' := ⟨34, [(4, _)], []⟩) (le_w [] rfl ⟨⟨_, rfl, .refl _⟩, trivial⟩ trivial (by decide)) ?_
      refine Good.le (σ' := ⟨34, [(4, .bool false)], []⟩) (le_w [] rfl ⟨⟨_, rfl, .refl _⟩, trivial⟩ trivial (by decide)) ?_
      refine good_ret ?_
      obtain rfl := Option.some.inj h
      exact endQ_ret (h' := []) [] (.tmp rfl (.nil)) trivial (by decide) ⟨rfl, rfl⟩
theorem m_spec_l2Type_all (k : Nat) : P_m_spec_l2Type k := by
  induction k using Nat.strongRecOn with
  | _ k ih => exact m_spec_l2Type_step k ih
theorem m_spec_l2Type_ok (k : Nat) : ∀ (a0 : Typ) (a1 : Int) (r : Bool), m_spec_l2Type k a0 a1 = some r → Does Try.prog 60 [.agg [.str a0.name, .sl false (a0.of_.map encTyp), .bool a0.must], .int .i64 a1] [] (ret (.bool r)) := (m_spec_l2Type_all k)
def m_spec_TypeGet (k : Nat) (a0 : Bs) : Option (Typ × Bool) :=
  (m_spec_l2Get k a0 3).bind fun y1 =>
  (if y1.2.2 = true then
      if y1.2.1 = [] then
        (m_spec_l2Type k y1.1 3).bind fun y2 =>
        some (Lp.go (!y2))
      else
        some (Lp.go true)
    else
      some (Lp.go true)).bind fun o1 =>
  o1.then fun s1 =>
    if s1 = true then
      some ((Typ.mk ([] : Bs) ([] : List Typ) false), false)
    else
      some (y1.1, true)
theorem m_spec_TypeGet_ok (k : Nat) : ∀ (a0 : Bs) (r : (Typ × Bool)), m_spec_TypeGet k a0 = some r → Does Try.prog 31 [.str a0] [] (fun q h' => ∃ u0 : Value, q = .tup [.agg [.str r.1.name, .hd 100 u0, .bool r.1.must], .bool r.2] ∧ h' = [(100, (u0, .osl 48 3 (r.1.of_.map encOTyp)))]) := by
  intro a0 r h
  rw [m_spec_TypeGet] at h
  refine does_of_good tabOk Try.func31 rfl (by decide +kernel) (Nat.le_of_ble_eq_true rfl) fun c => ?_
  refine Good.le (σ' := ⟨26, [(0, .str a0)], []⟩) (Le.refl _) ?_
  refine good_seq fun K1 hK1 => ?_
  refine good_region ?_
  refine g_op rfl (o_alloc (k := 12) tabOk tzero48 rfl rfl ?_)
  intro b1
  refine g_op rfl (ValOk.op (v_assign rfl rfl ?_)) 
  refine g_nil ?_
  refine hK1 _ ?_
  refine good_seq fun K2 hK2 => ?_
  refine good_region ?_
  refine g_op rfl (ValOk.op (v_move rfl rfl ?_)) 
  obtain ⟨y1, hy1, h⟩ := bnd h
  refine g_op rfl (o_callD [] [] [] (core_value rfl rfl) (m_spec_l2Get_ok k a0 3 _ hy1) trivial (.cons (.refl _) (.cons (.refl _) (.nil))) trivial rfl rfl rfl ?_)
  rintro _ _ ⟨w1, rfl, rfl⟩
  refine ⟨.tup [.agg [.str y1.1.name, .hd 3001 w1, .bool y1.1.must], .str y1.2.1, .bool y1.2.2], [(3001, _)], .tup (.cons (.agg (.cons (.refl _) (.cons (.hd _ _ _) (.cons (.refl _) (.nil))))) (.cons (.refl _) (.cons (.refl _) (.nil)))), rfl, rfl, rfl, rfl, .inl rfl, ?_⟩
  refine g_op rfl (ValOk.op (v_move rfl rfl ?_)) 
  refine g_op rfl (ValOk.op (v_extract rfl rfl rfl ?_)) 
  refine g_op rfl (ValOk.op (v_extract rfl rfl rfl ?_)) 
  refine g_op rfl (ValOk.op (v_extract rfl rfl rfl ?_)) 
  refine g_op rfl (o_alloc (k := 14) tabOk tzero48 rfl rfl ?_)
  intro b2
  refine g_op rfl (o_storeP tabOk (cs' := [.str y1.1.name, .hd 3001 w1, .bool y1.1.must]) rfl rfl tsize48 rfl rfl rfl (Nat.le_of_ble_eq_true rfl) rfl rfl rfl ?_)
  refine g_op rfl (ValOk.op (v_assign rfl rfl ?_)) 
  refine g_op rfl (ValOk.op (v_assign rfl rfl ?_)) 
  refine g_nil ?_
  refine hK2 _ ?_
  refine Good.le (σ' := ⟨26, [(2, _), (3, _), (4, _), (5, _), (6, _)], [(12, (_, _)), (14, (_, _)), (3001, (_, _))]⟩) (le_w [some 12, some 14, some 3001] rfl ⟨⟨_, rfl, .refl _⟩, ⟨⟨_, rfl, .refl _⟩, ⟨⟨_, rfl, .refl _⟩, ⟨⟨_, rfl, .refl _⟩, ⟨⟨_, rfl, .refl _⟩, trivial⟩⟩⟩⟩⟩ ⟨⟨_, rfl, .refl _⟩, ⟨⟨_, rfl, .refl _⟩, ⟨⟨_, rfl, .refl _⟩, trivial⟩⟩⟩ (by decide)) ?_
  refine good_seq fun K3 hK3 => ?_
  refine good_seq fun K4 hK4 => ?_
  obtain ⟨o1, ho1, hJ1⟩ := bnd h
  have hw1 : ∀ (s1 : Bool), o1 = Lp.go s1 → ∀ σ', Le σ' ⟨26, [(2, .ptr 12 b1 0), (3, .bool false), (4, .ptr 14 b2 0), (23, .bool s1)], [(12, ((.pointer (some ⟨b1, 0, none⟩)), .optr 48 [.str ([] : Bs), .nil, .bool false])), (14, ((.pointer (some ⟨b2, 0, none⟩)), .optr 48 [.str y1.1.name, .hd 3001 w1, .bool y1.1.must])), (3001, (w1, .osl 48 3 (y1.1.of_.map encOTyp)))]⟩ → K4 σ' := by
    intro s1 e1 σ' hle1
    subst e1
    refine hK4 _ (Good.le hle1 ?_)
    replace h := hJ1
    refine good_cond rfl (fun hc1 => ?_) (fun hc1 => ?_)
    · replace h := ifT h hc1
      refine good_seq fun K5 hK5 => ?_
      refine good_region ?_
      refine g_op rfl (ValOk.op (v_build tabOk (cs := [.str ([] : Bs), .nil, .bool false]) tzero48 tsok48 rfl rfl rfl ?_)) 
      refine g_op rfl (o_storeP tabOk (cs' := [.str ([] : Bs), .nil, .bool false]) rfl rfl tsize48 rfl rfl rfl (Nat.le_of_ble_eq_true rfl) rfl rfl rfl ?_)
      refine g_op rfl (ValOk.op (v_assign rfl rfl ?_)) 
      refine g_nil ?_
      refine hK5 _ ?_
      refine Good.le (σ' := ⟨26, [(2, _), (3, _), (4, _)], [(12, (_, _)), (14, (_, _)), (3001, (_, _))]⟩) (le_w [some 12, some 14, some 3001] rfl ⟨⟨_, rfl, .refl _⟩, ⟨⟨_, rfl, .refl _⟩, ⟨⟨_, rfl, .refl _⟩, trivial⟩⟩⟩ ⟨⟨_, rfl, .refl _⟩, ⟨⟨_, rfl, .refl _⟩, ⟨⟨_, rfl, .refl _⟩, trivial⟩⟩⟩ (by decide)) ?_
      refine Good.le (σ' := ⟨26, [(2, .ptr 12 b1 0), (3, .bool false)], [(100, (nilV, .osl 48 3 (([] : List Typ).map encOTyp))), (12, ((.pointer (some ⟨b1, 0, none⟩)), .optr 48 [.str ([] : Bs), .hd 100 nilV, .bool false]))]⟩) (le_w [none, some 12] rfl ⟨⟨_, rfl, .refl _⟩, ⟨⟨_, rfl, .refl _⟩, trivial⟩⟩ ⟨⟨rfl, _, _, rfl⟩, ⟨⟨_, rfl, .optr (.cons (.refl _) (.cons (.nilhd _) (.cons (.refl _) (.nil))))⟩, trivial⟩⟩ (by decide)) ?_
      refine good_ret ?_
      obtain rfl := Option.some.inj h
      refine thenQ_ret ?_
      exact endQ_ret (h' := [(100, (_, _))]) [some 100] (.cell rfl rfl tsize48 tagg48 rfl rfl rfl (.tmp rfl (.nil))) ⟨⟨_, rfl, .refl _⟩, trivial⟩ (by decide) ⟨nilV, rfl, rfl⟩
    · replace h := bF h hc1
      refine good_skip ?_
      refine hK3 _ ?_
      refine Good.le (σ' := ⟨26, [(2, _), (3, _), (4, _)], [(12, (_, _)), (14, (_, _)), (3001, (_, _))]⟩) (le_w [some 12, some 14, some 3001] rfl ⟨⟨_, rfl, .refl _⟩, ⟨⟨_, rfl, .refl _⟩, ⟨⟨_, rfl, .refl _⟩, trivial⟩⟩⟩ ⟨⟨_, rfl, .refl _⟩, ⟨⟨_, rfl, .refl _⟩, ⟨⟨_, rfl, .refl _⟩, trivial⟩⟩⟩ (by decide)) ?_
      refine good_seq fun K6 hK6 => ?_
      refine good_region ?_
      refine g_op rfl (ValOk.op (v_loadP tabOk rfl rfl tsize48 tagg48 rfl rfl rfl rfl ?_)) 
      refine g_op rfl (o_storeP tabOk (cs' := [.str y1.1.name, .hd 3001 w1, .bool y1.1.must]) rfl rfl tsize48 rfl rfl rfl (Nat.le_of_ble_eq_true rfl) rfl rfl rfl ?_)
      refine g_op rfl (ValOk.op (v_assign rfl rfl ?_)) 
      refine g_nil ?_
      refine hK6 _ ?_
      refine Good.le (σ' := ⟨26, [(2, _), (3, _)], [(12, (_, _)), (3001, (_, _))]⟩) (le_w [some 12, some 3001] rfl ⟨⟨_, rfl, .refl _⟩, ⟨⟨_, rfl, .refl _⟩, trivial⟩⟩ ⟨⟨_, rfl, .refl _⟩, ⟨⟨_, rfl, .refl _⟩, trivial⟩⟩ (by decide)) ?_
      refine Good.le (σ' := ⟨26, [(2, .ptr 12 b1 0), (3, .bool true)], [(100, (w1, .osl 48 3 (y1.1.of_.map encOTyp))), (12, ((.pointer (some ⟨b1, 0, none⟩)), .optr 48 [.str y1.1.name, .hd 100 w1, .bool y1.1.must]))]⟩) (le_w [some 3001, some 12] rfl ⟨⟨_, rfl, .refl _⟩, ⟨⟨_, rfl, .refl _⟩, trivial⟩⟩ ⟨⟨_, rfl, .refl _⟩, ⟨⟨_, rfl, .optr (.cons (.refl _) (.cons (.hd _ _ _) (.cons (.refl _) (.nil))))⟩, trivial⟩⟩ (by decide)) ?_
      refine good_ret ?_
      obtain rfl := Option.some.inj h
      exact endQ_ret (h' := [(100, (_, _))]) [some 100] (.cell rfl rfl tsize48 tagg48 rfl rfl rfl (.tmp rfl (.nil))) ⟨⟨_, rfl, .refl _⟩, trivial⟩ (by decide) ⟨w1, rfl, rfl⟩
  replace h := ho1
  refine good_region ?_
  refine g_op rfl (ValOk.op (v_move rfl rfl ?_)) 
  refine g_op rfl (ValOk.op (v_not rfl rfl ?_)) 
  refine g_op rfl (ValOk.op (v_move rfl rfl ?_)) 
  rcases bsplit ((!y1.2.2)) with hg1 | hg1
  · replace h := bF h (nT hg1)
    refine g_no rfl rfl hg1 rfl ?_
    refine g_no rfl rfl hg1 rfl ?_
    refine g_op rfl (ValOk.op (v_pickT rfl hg1 rfl rfl ?_)) 
    refine g_op rfl (ValOk.op (v_move rfl rfl ?_)) 
    refine g_no rfl rfl rfl rfl ?_
    refine g_no rfl rfl rfl rfl ?_
    refine g_no rfl rfl rfl rfl ?_
    refine g_op rfl (ValOk.op (v_pickT rfl rfl rfl rfl ?_)) 
    refine g_nil ?_
    exact hw1 true (Option.some.inj h).symm _ (le_w [some 12, some 14, some 3001] rfl ⟨⟨_, rfl, .refl _⟩, ⟨⟨_, rfl, .refl _⟩, ⟨⟨_, rfl, .refl _⟩, ⟨⟨_, rfl, .refl _⟩, trivial⟩⟩⟩⟩ ⟨⟨_, rfl, .refl _⟩, ⟨⟨_, rfl, .refl _⟩, ⟨⟨_, rfl, .refl _⟩, trivial⟩⟩⟩ (by decide))
  · replace h := ifT h (nF hg1)
    refine g_yes rfl rfl hg1 (ValOk.op (v_move rfl rfl ?_)) 
    refine g_yes rfl rfl hg1 (ValOk.op (v_bin rfl rfl rfl rfl ?_)) 
    refine g_op rfl (ValOk.op (v_pickF rfl hg1 rfl rfl ?_)) 
    refine g_op rfl (ValOk.op (v_move rfl rfl ?_)) 
    rcases bsplit ((!(decide (y1.2.1 = [])))) with hg2 | hg2
    · replace h := ifF h (ndT hg2)
      refine g_no rfl rfl hg2 rfl ?_
      refine g_no rfl rfl hg2 rfl ?_
      refine g_no rfl rfl hg2 rfl ?_
      refine g_op rfl (ValOk.op (v_pickT rfl hg2 rfl rfl ?_)) 
      refine g_nil ?_
      exact hw1 true (Option.some.inj h).symm _ (le_w [some 12, some 14, some 3001] rfl ⟨⟨_, rfl, .refl _⟩, ⟨⟨_, rfl, .refl _⟩, ⟨⟨_, rfl, .refl _⟩, ⟨⟨_, rfl, .refl _⟩, trivial⟩⟩⟩⟩ ⟨⟨_, rfl, .refl _⟩, ⟨⟨_, rfl, .refl _⟩, ⟨⟨_, rfl, .refl _⟩, trivial⟩⟩⟩ (by decide))
    · replace h := ifT h (ndF hg2)
      refine g_yes rfl rfl hg2 (ValOk.op (v_loadP tabOk rfl rfl tsize48 tagg48 rfl rfl rfl rfl ?_)) 
      obtain ⟨y2, hy2, h⟩ := bnd h
      refine g_yes rfl rfl hg2 (o_callR [3001] [(_, _)] (core_value rfl rfl) (m_spec_l2Type_ok k y1.1 3 _ hy2) ⟨⟨_, rfl, .osl (FrzLL.map fun _ _ => encOTyp_frz _)⟩, trivial⟩ (.cons (.agg (.cons (.refl _) (.cons (.frz _ _ _ (.head _)) (.cons (.refl _) (.nil))))) (.cons (.refl _) (.nil))) (.inr (.bool _)) rfl ?_)
      refine g_yes rfl rfl hg2 (ValOk.op (v_not rfl rfl ?_)) 
      refine g_op rfl (ValOk.op (v_pickF rfl hg2 rfl rfl ?_)) 
      refine g_nil ?_
      exact hw1 (!y2) (Option.some.inj h).symm _ (le_w [some 12, some 14, some 3001] rfl ⟨⟨_, rfl, .refl _⟩, ⟨⟨_, rfl, .refl _⟩, ⟨⟨_, rfl, .refl _⟩, ⟨⟨_, rfl, .refl _⟩, trivial⟩⟩⟩⟩ ⟨⟨_, rfl, .refl _⟩, ⟨⟨_, rfl, .refl _⟩, ⟨⟨_, rfl, .refl _⟩, trivial⟩⟩⟩ (by decide))
theorem m_spec_TypeGet_okF (k : Nat) : ∀ (a0 : Bs) (r : (Typ × Bool)), m_spec_TypeGet k a0 = some r → Does Try.prog 31 [.str a0] [] (ret (.tup [.agg [.str r.1.name, .sl false (r.1.of_.map encTyp), .bool r.1.must], .bool r.2])) := by
  intro a0 r h
  refine does_frz (m_spec_TypeGet_ok k a0 r h) ?_
  rintro q h' ⟨u0, rfl, rfl⟩
  exact ⟨[100], [(_, _)], ⟨⟨_, rfl, .osl (FrzLL.map fun _ _ => encOTyp_frz _)⟩, trivial⟩, .tup (.cons (.agg (.cons (.refl _) (.cons (.frz _ _ _ (.head _)) (.cons (.refl _) (.nil))))) (.cons (.refl _) (.nil)))⟩
end Go.Proofs.Ytopbbjoflopjbaa
