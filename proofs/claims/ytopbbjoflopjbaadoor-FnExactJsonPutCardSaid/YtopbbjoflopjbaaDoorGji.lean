/- What functions of this program answer, as plain functions; each theorem says that the code comes to just that. -/
import Derived.Test.YtopbbjoflopjbaaDoorDat
import Derived.Test.YtopbbjoflopjbaaDoorB13
import Derived.Test.YtopbbjoflopjbaaDoorDatO
import Derived.Test.YtopbbjoflopjbaaDoorGnm
import Derived.Test.YtopbbjoflopjbaaDoorGok
import Derived.Test.YtopbbjoflopjbaaDoorB18
import Derived.Test.YtopbbjoflopjbaaDoorB22
import Derived.Test.YtopbbjoflopjbaaDoorB23
/-! Functions of the program. -/
set_option linter.unusedVariables false
set_option maxRecDepth 100000
set_option maxHeartbeats 20000000
namespace Go.Proofs.YtopbbjoflopjbaaDoor
open Go.Bb
def m_internal_strconv_log10Pow2 (a0 : Int) : Option Int :=
  some (Int.fdiv (IntKind.wrap .i64 (a0 * 78913)) (2 ^ (min (Int.toNat 18) (IntKind.bits .i64))))
theorem m_internal_strconv_log10Pow2_ok : ∀ (a0 : Int) (r : Int), m_internal_strconv_log10Pow2 a0 = some r → Does Tryd.prog 83 [.int .i64 a0] [] (ret (.int .i64 r)) := by
  intro a0 r h
  rw [m_internal_strconv_log10Pow2] at h
  refine does_of_good tabOk Tryd.func83 rfl (by decide +kernel) (Nat.le_of_ble_eq_true rfl) fun c => ?_
  refine Good.le (σ' := ⟨6, [(0, .int .i64 a0)], []⟩) (Le.refl _) ?_
  refine good_seq fun K1 hK1 => ?_
  refine good_region ?_
  refine g_op rfl (ValOk.op (v_assign rfl rfl ?_)) 
  refine g_nil ?_
  refine hK1 _ ?_
  refine good_seq fun K2 hK2 => ?_
  refine good_region ?_
  refine g_op rfl (ValOk.op (v_move rfl rfl ?_)) 
  refine g_op rfl (ValOk.op (v_bin rfl rfl rfl rfl ?_)) 
  refine g_op rfl (ValOk.op (v_shr rfl rfl (by decide) rfl ?_)) 
  refine g_op rfl (ValOk.op (v_assign rfl rfl ?_)) 
  refine g_nil ?_
  refine hK2 _ ?_
  refine Good.le (σ' := ⟨6, [(2, _)], []⟩) (le_w [] rfl ⟨⟨_, rfl, .refl _⟩, trivial⟩ trivial (by decide)) ?_
  refine Good.le (σ' := ⟨6, [(2, .int .i64 (Int.fdiv (IntKind.wrap .i64 (a0 * 78913)) (2 ^ (min (Int.toNat 18) (IntKind.bits .i64)))))], []⟩) (le_w [] rfl ⟨⟨_, rfl, .refl _⟩, trivial⟩ trivial (by decide)) ?_
  refine good_ret ?_
  obtain rfl := Option.some.inj h
  exact endQ_ret (h' := []) [] (.tmp rfl (.nil)) trivial (by decide) ⟨rfl, rfl⟩
def m_internal_strconv_bool2_int (a0 : Bool) : Option Int :=
  if a0 = true then
    some 1
  else
    some 0
theorem m_internal_strconv_bool2_int_ok : ∀ (a0 : Bool) (r : Int), m_internal_strconv_bool2_int a0 = some r → Does Tryd.prog 85 [.bool a0] [] (ret (.int .i64 r)) := by
  intro a0 r h
  rw [m_internal_strconv_bool2_int] at h
  refine does_of_good tabOk Tryd.func85 rfl (by decide +kernel) (Nat.le_of_ble_eq_true rfl) fun c => ?_
  refine Good.le (σ' := ⟨4, [(0, .bool a0)], []⟩) (Le.refl _) ?_
  refine good_seq fun K1 hK1 => ?_
  refine good_region ?_
  refine g_op rfl (ValOk.op (v_assign rfl rfl ?_)) 
  refine g_nil ?_
  refine hK1 _ ?_
  refine good_seq fun K2 hK2 => ?_
  refine good_seq fun K3 hK3 => ?_
  refine good_region ?_
  refine g_op rfl (ValOk.op (v_move rfl rfl ?_)) 
  refine g_nil ?_
  refine hK3 _ ?_
  refine Good.le (σ' := ⟨4, [(2, _), (3, _)], []⟩) (le_w [] rfl ⟨⟨_, rfl, .refl _⟩, ⟨⟨_, rfl, .refl _⟩, trivial⟩⟩ trivial (by decide)) ?_
  refine good_cond rfl (fun hc1 => ?_) (fun hc1 => ?_)
  · replace h := ifT h hc1
    refine good_seq fun K4 hK4 => ?_
    refine good_region ?_
    refine g_op rfl (ValOk.op (v_assign rfl rfl ?_)) 
    refine g_nil ?_
    refine hK4 _ ?_
    refine Good.le (σ' := ⟨4, [(2, _)], []⟩) (le_w [] rfl ⟨⟨_, rfl, .refl _⟩, trivial⟩ trivial (by decide)) ?_
    refine Good.le (σ' := ⟨4, [(2, .int .i64 1)], []⟩) (le_w [] rfl ⟨⟨_, rfl, .refl _⟩, trivial⟩ trivial (by decide)) ?_
    refine good_ret ?_
    obtain rfl := Option.some.inj h
    refine thenQ_ret ?_
    exact endQ_ret (h' := []) [] (.tmp rfl (.nil)) trivial (by decide) ⟨rfl, rfl⟩
  · replace h := bF h hc1
    refine good_skip ?_
    refine hK2 _ ?_
    refine Good.le (σ' := ⟨4, [(2, _)], []⟩) (le_w [] rfl ⟨⟨_, rfl, .refl _⟩, trivial⟩ trivial (by decide)) ?_
    refine good_seq fun K5 hK5 => ?_
    refine good_region ?_
    refine g_op rfl (ValOk.op (v_assign rfl rfl ?_)) 
    refine g_nil ?_
    refine hK5 _ ?_
    refine Good.le (σ' := ⟨4, [(2, .int .i64 0)], []⟩) (le_w [] rfl ⟨⟨_, rfl, .refl _⟩, trivial⟩ trivial (by decide)) ?_
    refine good_ret ?_
    obtain rfl := Option.some.inj h
    exact endQ_ret (h' := []) [] (.tmp rfl (.nil)) trivial (by decide) ⟨rfl, rfl⟩
def m_internal_strconv_isPowerOfTwo (a0 : Int) : Option Bool :=
  some (decide ((bitsI .and .i64 a0 (IntKind.wrap .i64 (a0 - 1))) = 0))
theorem m_internal_strconv_isPowerOfTwo_ok : ∀ (a0 : Int) (r : Bool), m_internal_strconv_isPowerOfTwo a0 = some r → Does Tryd.prog 86 [.int .i64 a0] [] (ret (.bool r)) := by
  intro a0 r h
  rw [m_internal_strconv_isPowerOfTwo] at h
  refine does_of_good tabOk Tryd.func86 rfl (by decide +kernel) (Nat.le_of_ble_eq_true rfl) fun c => ?_
  refine Good.le (σ' := ⟨8, [(0, .int .i64 a0)], []⟩) (Le.refl _) ?_
  refine good_seq fun K1 hK1 => ?_
  refine good_region ?_
  refine g_op rfl (ValOk.op (v_assign rfl rfl ?_)) 
  refine g_nil ?_
  refine hK1 _ ?_
  refine good_seq fun K2 hK2 => ?_
  refine good_region ?_
  refine g_op rfl (ValOk.op (v_move rfl rfl ?_)) 
  refine g_op rfl (ValOk.op (v_move rfl rfl ?_)) 
  refine g_op rfl (ValOk.op (v_bin rfl rfl rfl rfl ?_)) 
  refine g_op rfl (ValOk.op (v_bin rfl rfl rfl rfl ?_)) 
  refine g_op rfl (ValOk.op (v_bin rfl rfl rfl rfl ?_)) 
  refine g_op rfl (ValOk.op (v_assign rfl rfl ?_)) 
  refine g_nil ?_
  refine hK2 _ ?_
  refine Good.le (σ' := ⟨8, [(2, _)], []⟩) (le_w [] rfl ⟨⟨_, rfl, .refl _⟩, trivial⟩ trivial (by decide)) ?_
  refine Good.le (σ' := ⟨8, [(2, .bool (decide ((bitsI .and .i64 a0 (IntKind.wrap .i64 (a0 - 1))) = 0)))], []⟩) (le_w [] rfl ⟨⟨_, rfl, .refl _⟩, trivial⟩ trivial (by decide)) ?_
  refine good_ret ?_
  obtain rfl := Option.some.inj h
  exact endQ_ret (h' := []) [] (.tmp rfl (.nil)) trivial (by decide) ⟨rfl, rfl⟩
def m_impl_quoteText_l1 : Nat → Bs → (List Int) → Int → Option (Lp (List Int) Bs)
  | 0, _, _, _ => none
  | k + 1, a0, x1, x2 =>
    if x2 < (a0.length : Int) then
      if (0 : Int) ≤ x2 ∧ x2 < (a0.length : Int) then
        (if (byt a0 x2) = 34 then
            some (Lp.go true)
          else
            some (Lp.go (decide ((byt a0 x2) = 92)))).bind fun o2 =>
        o2.then fun s2 =>
    if s2 = true then
      if (x1 ++ [92]).length * 1 ≤ 140737488355328 then
        if ((x1 ++ [92]) ++ [byt a0 x2]).length * 1 ≤ 140737488355328 then
          m_impl_quoteText_l1 k a0 ((x1 ++ [92]) ++ [byt a0 x2]) (IntKind.wrap .i64 (x2 + 1))
        else none
      else none
    else
      if (byt a0 x2) = 10 then
        if (x1 ++ toI [92, 110]).length * 1 ≤ 140737488355328 then
          m_impl_quoteText_l1 k a0 (x1 ++ toI [92, 110]) (IntKind.wrap .i64 (x2 + 1))
        else none
      else
        (if (byt a0 x2) < 32 then
            some (Lp.go true)
          else
            some (Lp.go (decide (126 < (byt a0 x2))))).bind fun o3 =>
        o3.then fun s3 =>
    if s3 = true then
      if (x1 ++ toI [92, 117, 48, 48]).length * 1 ≤ 140737488355328 then
        if (0 : Int) ≤ (Int.fdiv (byt a0 x2) (2 ^ (min (Int.toNat 4) (IntKind.bits .u8)))) ∧ (Int.fdiv (byt a0 x2) (2 ^ (min (Int.toNat 4) (IntKind.bits .u8)))) < ([48, 49, 50, 51, 52, 53, 54, 55, 56, 57, 97, 98, 99, 100, 101, 102].length : Int) then
          if ((x1 ++ toI [92, 117, 48, 48]) ++ [byt [48, 49, 50, 51, 52, 53, 54, 55, 56, 57, 97, 98, 99, 100, 101, 102] (Int.fdiv (byt a0 x2) (2 ^ (min (Int.toNat 4) (IntKind.bits .u8))))]).length * 1 ≤ 140737488355328 then
            if (0 : Int) ≤ (bitsI .and .u8 (byt a0 x2) 15) ∧ (bitsI .and .u8 (byt a0 x2) 15) < ([48, 49, 50, 51, 52, 53, 54, 55, 56, 57, 97, 98, 99, 100, 101, 102].length : Int) then
              if (((x1 ++ toI [92, 117, 48, 48]) ++ [byt [48, 49, 50, 51, 52, 53, 54, 55, 56, 57, 97, 98, 99, 100, 101, 102] (Int.fdiv (byt a0 x2) (2 ^ (min (Int.toNat 4) (IntKind.bits .u8))))]) ++ [byt [48, 49, 50, 51, 52, 53, 54, 55, 56, 57, 97, 98, 99, 100, 101, 102] (bitsI .and .u8 (byt a0 x2) 15)]).length * 1 ≤ 140737488355328 then
                m_impl_quoteText_l1 k a0 (((x1 ++ toI [92, 117, 48, 48]) ++ [byt [48, 49, 50, 51, 52, 53, 54, 55, 56, 57, 97, 98, 99, 100, 101, 102] (Int.fdiv (byt a0 x2) (2 ^ (min (Int.toNat 4) (IntKind.bits .u8))))]) ++ [byt [48, 49, 50, 51, 52, 53, 54, 55, 56, 57, 97, 98, 99, 100, 101, 102] (bitsI .and .u8 (byt a0 x2) 15)]) (IntKind.wrap .i64 (x2 + 1))
              else none
            else none
          else none
        else none
      else none
    else
      if (x1 ++ [byt a0 x2]).length * 1 ≤ 140737488355328 then
        m_impl_quoteText_l1 k a0 (x1 ++ [byt a0 x2]) (IntKind.wrap .i64 (x2 + 1))
      else none
      else none
    else
      some (Lp.go x1)
def m_impl_quoteText (k : Nat) (a0 : Bs) : Option Bs :=
  if (([] : List Int) ++ [34]).length * 1 ≤ 140737488355328 then
    (m_impl_quoteText_l1 k a0 (([] : List Int) ++ [34]) 0).bind fun o1 =>
    o1.then fun s1 =>
    if (s1 ++ [34]).length * 1 ≤ 140737488355328 then
      if inB (s1 ++ [34]) = true then
        some (ofI (s1 ++ [34]))
      else none
    else none
  else none
theorem m_impl_quoteText_ok (k : Nat) : ∀ (a0 : Bs) (r : Bs), m_impl_quoteText k a0 = some r → Does Tryd.prog 45 [.str a0] [] (ret (.str r)) := by
  intro a0 r h
  rw [m_impl_quoteText] at h
  refine does_of_good tabOk Tryd.func45 rfl (by decide +kernel) (Nat.le_of_ble_eq_true rfl) fun c => ?_
  refine Good.le (σ' := ⟨50, [(0, .str a0)], []⟩) (Le.refl _) ?_
  refine good_seq fun K1 hK1 => ?_
  refine good_region ?_
  refine g_op rfl (ValOk.op (v_assign rfl rfl ?_)) 
  refine g_nil ?_
  refine hK1 _ ?_
  refine good_seq fun K2 hK2 => ?_
  refine good_region ?_
  refine g_op rfl (o_alloc (k := 13) tabOk tzero55 rfl rfl ?_)
  intro b1
  refine g_le (σ1 := ⟨50, [(0, .str a0), (3, .ptr 13 b1 0)], [(13, ((.pointer (some ⟨b1, 0, none⟩)), .optr 55 [.adr b1, .hd 7001 nilV])), (7001, (nilV, .osl 5 1 (([] : List Int).map (encI .u8))))]⟩) (le_w [some 13, none] rfl ⟨⟨_, rfl, .refl _⟩, ⟨⟨_, rfl, .refl _⟩, trivial⟩⟩ ⟨⟨_, rfl, .optr (.cons (.adr0 _) (.cons (.nilhd _) (.nil)))⟩, ⟨⟨rfl, _, _, rfl⟩, trivial⟩⟩ (by decide)) ?_
  refine g_nil ?_
  refine hK2 _ ?_
  refine good_seq fun K3 hK3 => ?_
  refine good_region ?_
  obtain ⟨hb1, h⟩ := ifS h
  refine g_op rfl (o_callB (q := 13) (y := 7001) (core_value rfl rfl) (writeByte_does b1 7001 _ _ 34 (by decide) hb1) (.cons (.ptr _ _ _ _) (.cons (.refl _) .nil)) rfl rfl rfl rfl ?_)
  intro w1
  refine g_nil ?_
  refine hK3 _ ?_
  refine Good.le (σ' := ⟨50, [(0, _), (3, _)], [(13, (_, _)), (7001, (_, _))]⟩) (le_w [some 13, some 7001] rfl ⟨⟨_, rfl, .refl _⟩, ⟨⟨_, rfl, .refl _⟩, trivial⟩⟩ ⟨⟨_, rfl, .refl _⟩, ⟨⟨_, rfl, .refl _⟩, trivial⟩⟩ (by decide)) ?_
  refine good_seq fun K4 hK4 => ?_
  refine good_seq fun K5 hK5 => ?_
  refine good_region ?_
  refine g_op rfl (ValOk.op (v_move rfl rfl ?_)) 
  refine g_op rfl (ValOk.op (v_lenS tabOk rfl rfl tkind9 rfl ?_)) 
  refine g_op rfl (ValOk.op (v_move rfl rfl ?_)) 
  refine g_nil ?_
  refine hK5 _ ?_
  refine Good.le (σ' := ⟨50, [(0, _), (3, _), (8, _), (9, _)], [(13, (_, _)), (7001, (_, _))]⟩) (le_w [some 13, some 7001] rfl ⟨⟨_, rfl, .refl _⟩, ⟨⟨_, rfl, .refl _⟩, ⟨⟨_, rfl, .refl _⟩, ⟨⟨_, rfl, .refl _⟩, trivial⟩⟩⟩⟩ ⟨⟨_, rfl, .refl _⟩, ⟨⟨_, rfl, .refl _⟩, trivial⟩⟩ (by decide)) ?_
  obtain ⟨o1, ho1, hJ1⟩ := bnd h
  have hw1 : ∀ (s1 : (List Int)) (w3 : Value), o1 = Lp.go s1 → ∀ σ', Le σ' ⟨50, [(3, .ptr 13 b1 0)], [(13, ((.pointer (some ⟨b1, 0, none⟩)), .optr 55 [.adr b1, .hd 7001 w3])), (7001, (w3, .osl 5 1 (s1.map (encI .u8))))]⟩ → K4 σ' := by
    intro s1 w3 e1 σ' hle1
    subst e1
    refine hK4 _ (Good.le hle1 ?_)
    replace h := hJ1
    refine good_seq fun K6 hK6 => ?_
    refine good_region ?_
    obtain ⟨hb2, h⟩ := ifS h
    refine g_op rfl (o_callB (q := 13) (y := 7001) (core_value rfl rfl) (writeByte_does b1 7001 _ _ 34 (by decide) hb2) (.cons (.ptr _ _ _ _) (.cons (.refl _) .nil)) rfl rfl rfl rfl ?_)
    intro w4
    refine g_nil ?_
    refine hK6 _ ?_
    refine Good.le (σ' := ⟨50, [(3, _)], [(13, (_, _)), (7001, (_, _))]⟩) (le_w [some 13, some 7001] rfl ⟨⟨_, rfl, .refl _⟩, trivial⟩ ⟨⟨_, rfl, .refl _⟩, ⟨⟨_, rfl, .refl _⟩, trivial⟩⟩ (by decide)) ?_
    refine good_seq fun K7 hK7 => ?_
    refine good_region ?_
    obtain ⟨hb3, h⟩ := ifS h
    refine g_op rfl (o_callE (q := 13) (y := 7001) (core_value rfl rfl) (string_does b1 7001 _ _ hb3) (.cons (.ptr _ _ _ _) .nil) rfl rfl rfl rfl ?_)
    refine g_op rfl (ValOk.op (v_assign rfl rfl ?_)) 
    refine g_nil ?_
    refine hK7 _ ?_
    refine Good.le (σ' := ⟨50, [(2, _)], []⟩) (le_w [] rfl ⟨⟨_, rfl, .refl _⟩, trivial⟩ trivial (by decide)) ?_
    refine Good.le (σ' := ⟨50, [(2, .str (ofI (s1 ++ [34])))], []⟩) (le_w [] rfl ⟨⟨_, rfl, .refl _⟩, trivial⟩ trivial (by decide)) ?_
    refine good_ret ?_
    obtain rfl := Option.some.inj h
    exact endQ_ret (h' := []) [] (.tmp rfl (.nil)) trivial (by decide) ⟨rfl, rfl⟩
  replace h := ho1
  refine good_block ?_
  refine good_loopf (fun p : ((List Int) × Int × Value) => ⟨50, [(0, .str a0), (3, .ptr 13 b1 0), (8, .int .i64 (a0.length : Int)), (9, .int .i64 p.2.1)], [(13, ((.pointer (some ⟨b1, 0, none⟩)), .optr 55 [.adr b1, .hd 7001 p.2.2])), (7001, (p.2.2, .osl 5 1 (p.1.map (encI .u8))))]⟩) (fun m p => m_impl_quoteText_l1 m a0 p.1 p.2.1 = some o1) k (([] : List Int) ++ [34], 0, w1) (le_w [some 13, some 7001] rfl ⟨⟨_, rfl, .refl _⟩, ⟨⟨_, rfl, .refl _⟩, ⟨⟨_, rfl, .refl _⟩, ⟨⟨_, rfl, .refl _⟩, trivial⟩⟩⟩⟩ ⟨⟨_, rfl, .refl _⟩, ⟨⟨_, rfl, .refl _⟩, trivial⟩⟩ (by decide)) h ?_
  rintro m1 ⟨x1, x2, w2⟩ h
  replace h : m_impl_quoteText_l1 m1 a0 x1 x2 = some o1 := h
  refine Good.le (σ' := ⟨50, [(0, .str a0), (3, .ptr 13 b1 0), (8, .int .i64 (a0.length : Int)), (9, .int .i64 x2)], [(13, ((.pointer (some ⟨b1, 0, none⟩)), .optr 55 [.adr b1, .hd 7001 w2])), (7001, (w2, .osl 5 1 (x1.map (encI .u8))))]⟩) (Le.refl _) ?_
  obtain ⟨m1, rfl⟩ : ∃ m', m1 = m' + 1 := by cases m1 with | zero => (rw [m_impl_quoteText_l1] at h; cases h) | succ m' => exact ⟨m', rfl⟩
  rw [m_impl_quoteText_l1] at h
  refine good_seq fun K8 hK8 => ?_
  refine good_region ?_
  refine g_op rfl (ValOk.op (v_bin rfl rfl rfl rfl ?_)) 
  refine g_nil ?_
  refine hK8 _ ?_
  refine good_seq fun K9 hK9 => ?_
  refine good_cond rfl (fun hc1 => ?_) (fun hc1 => ?_)
  · replace h := ifT h (dT hc1)
    refine good_skip ?_
    refine hK9 _ ?_
    refine Good.le (σ' := ⟨50, [(0, _), (3, _), (8, _), (9, _)], [(13, (_, _)), (7001, (_, _))]⟩) (le_w [some 13, some 7001] rfl ⟨⟨_, rfl, .refl _⟩, ⟨⟨_, rfl, .refl _⟩, ⟨⟨_, rfl, .refl _⟩, ⟨⟨_, rfl, .refl _⟩, trivial⟩⟩⟩⟩ ⟨⟨_, rfl, .refl _⟩, ⟨⟨_, rfl, .refl _⟩, trivial⟩⟩ (by decide)) ?_
    refine good_seq fun K10 hK10 => ?_
    refine good_block ?_
    refine good_seq fun K11 hK11 => ?_
    refine good_region ?_
    refine g_op rfl (ValOk.op (v_move rfl rfl ?_)) 
    refine g_op rfl (ValOk.op (v_assign rfl rfl ?_)) 
    refine g_nil ?_
    refine hK11 _ ?_
    refine Good.le (σ' := ⟨50, [(0, _), (3, _), (4, _), (8, _), (9, _)], [(13, (_, _)), (7001, (_, _))]⟩) (le_w [some 13, some 7001] rfl ⟨⟨_, rfl, .refl _⟩, ⟨⟨_, rfl, .refl _⟩, ⟨⟨_, rfl, .refl _⟩, ⟨⟨_, rfl, .refl _⟩, ⟨⟨_, rfl, .refl _⟩, trivial⟩⟩⟩⟩⟩ ⟨⟨_, rfl, .refl _⟩, ⟨⟨_, rfl, .refl _⟩, trivial⟩⟩ (by decide)) ?_
    refine good_seq fun K12 hK12 => ?_
    refine good_region ?_
    refine g_op rfl (ValOk.op (v_move rfl rfl ?_)) 
    refine g_op rfl (ValOk.op (v_move rfl rfl ?_)) 
    obtain ⟨hb4, h⟩ := ifS h
    refine g_op rfl (ValOk.op (v_indexM tabOk rfl rfl tkind9 hb4 rfl ?_)) 
    refine g_op rfl (ValOk.op (v_assign rfl rfl ?_)) 
    refine g_nil ?_
    refine hK12 _ ?_
    refine Good.le (σ' := ⟨50, [(0, _), (3, _), (5, _), (8, _), (9, _)], [(13, (_, _)), (7001, (_, _))]⟩) (le_w [some 13, some 7001] rfl ⟨⟨_, rfl, .refl _⟩, ⟨⟨_, rfl, .refl _⟩, ⟨⟨_, rfl, .refl _⟩, ⟨⟨_, rfl, .refl _⟩, ⟨⟨_, rfl, .refl _⟩, trivial⟩⟩⟩⟩⟩ ⟨⟨_, rfl, .refl _⟩, ⟨⟨_, rfl, .refl _⟩, trivial⟩⟩ (by decide)) ?_
    refine good_block ?_
    refine good_seq fun K13 hK13 => ?_
    obtain ⟨o2, ho2, hJ2⟩ := bnd h
    have hw2 : ∀ (s2 : Bool), o2 = Lp.go s2 → ∀ σ', Le σ' ⟨50, [(0, .str a0), (3, .ptr 13 b1 0), (5, .int .u8 (byt a0 x2)), (8, .int .i64 (a0.length : Int)), (9, .int .i64 x2), (17, .bool s2)], [(13, ((.pointer (some ⟨b1, 0, none⟩)), .optr 55 [.adr b1, .hd 7001 w2])), (7001, (w2, .osl 5 1 (x1.map (encI .u8))))]⟩ → K13 σ' := by
      intro s2 e2 σ' hle2
      subst e2
      refine hK13 _ (Good.le hle2 ?_)
      replace h := hJ2
      refine good_cond rfl (fun hc2 => ?_) (fun hc2 => ?_)
      · replace h := ifT h hc2
        refine good_seq fun K14 hK14 => ?_
        refine good_region ?_
        obtain ⟨hb5, h⟩ := ifS h
        refine g_op rfl (o_callB (q := 13) (y := 7001) (core_value rfl rfl) (writeByte_does b1 7001 _ _ 92 (by decide) hb5) (.cons (.ptr _ _ _ _) (.cons (.refl _) .nil)) rfl rfl rfl rfl ?_)
        intro w5
        refine g_nil ?_
        refine hK14 _ ?_
        refine Good.le (σ' := ⟨50, [(0, _), (3, _), (5, _), (8, _), (9, _)], [(13, (_, _)), (7001, (_, _))]⟩) (le_w [some 13, some 7001] rfl ⟨⟨_, rfl, .refl _⟩, ⟨⟨_, rfl, .refl _⟩, ⟨⟨_, rfl, .refl _⟩, ⟨⟨_, rfl, .refl _⟩, ⟨⟨_, rfl, .refl _⟩, trivial⟩⟩⟩⟩⟩ ⟨⟨_, rfl, .refl _⟩, ⟨⟨_, rfl, .refl _⟩, trivial⟩⟩ (by decide)) ?_
        refine good_region ?_
        refine g_op rfl (ValOk.op (v_move rfl rfl ?_)) 
        obtain ⟨hb6, h⟩ := ifS h
        refine g_op rfl (o_callB (q := 13) (y := 7001) (core_value rfl rfl) (writeByte_does b1 7001 _ _ (byt a0 x2) (by decide) hb6) (.cons (.ptr _ _ _ _) (.cons (.refl _) .nil)) rfl rfl rfl rfl ?_)
        intro w6
        refine g_nil ?_
        refine hK10 _ ?_
        refine Good.le (σ' := ⟨50, [(0, _), (3, _), (8, _), (9, _)], [(13, (_, _)), (7001, (_, _))]⟩) (le_w [some 13, some 7001] rfl ⟨⟨_, rfl, .refl _⟩, ⟨⟨_, rfl, .refl _⟩, ⟨⟨_, rfl, .refl _⟩, ⟨⟨_, rfl, .refl _⟩, trivial⟩⟩⟩⟩ ⟨⟨_, rfl, .refl _⟩, ⟨⟨_, rfl, .refl _⟩, trivial⟩⟩ (by decide)) ?_
        refine good_region ?_
        refine g_op rfl (ValOk.op (v_bin rfl rfl rfl rfl ?_)) 
        refine g_op rfl (ValOk.op (v_move rfl rfl ?_)) 
        refine g_nil ?_
        exact round_mk m1 ((x1 ++ [92]) ++ [byt a0 x2], IntKind.wrap .i64 (x2 + 1), w6) (Nat.lt_succ_self _) h (le_w [some 13, some 7001] rfl ⟨⟨_, rfl, .refl _⟩, ⟨⟨_, rfl, .refl _⟩, ⟨⟨_, rfl, .refl _⟩, ⟨⟨_, rfl, .refl _⟩, trivial⟩⟩⟩⟩ ⟨⟨_, rfl, .refl _⟩, ⟨⟨_, rfl, .refl _⟩, trivial⟩⟩ (by decide))
      · replace h := bF h hc2
        refine good_seq fun K15 hK15 => ?_
        refine good_region ?_
        refine g_op rfl (ValOk.op (v_move rfl rfl ?_)) 
        refine g_op rfl (ValOk.op (v_bin rfl rfl rfl rfl ?_)) 
        refine g_op rfl (ValOk.op (v_assign rfl rfl ?_)) 
        refine g_nil ?_
        refine hK15 _ ?_
        refine Good.le (σ' := ⟨50, [(0, _), (3, _), (5, _), (8, _), (9, _), (27, _)], [(13, (_, _)), (7001, (_, _))]⟩) (le_w [some 13, some 7001] rfl ⟨⟨_, rfl, .refl _⟩, ⟨⟨_, rfl, .refl _⟩, ⟨⟨_, rfl, .refl _⟩, ⟨⟨_, rfl, .refl _⟩, ⟨⟨_, rfl, .refl _⟩, ⟨⟨_, rfl, .refl _⟩, trivial⟩⟩⟩⟩⟩⟩ ⟨⟨_, rfl, .refl _⟩, ⟨⟨_, rfl, .refl _⟩, trivial⟩⟩ (by decide)) ?_
        refine good_cond rfl (fun hc3 => ?_) (fun hc3 => ?_)
        · replace h := ifT h (dT hc3)
          refine good_region ?_
          obtain ⟨hb7, h⟩ := ifS h
          refine g_op rfl (o_callB (q := 13) (y := 7001) (core_value rfl rfl) (writeString_does b1 7001 _ _ [92, 110] hb7) (.cons (.ptr _ _ _ _) (.cons (.refl _) .nil)) rfl rfl rfl rfl ?_)
          intro w7
          refine g_nil ?_
          refine hK10 _ ?_
          refine Good.le (σ' := ⟨50, [(0, _), (3, _), (8, _), (9, _)], [(13, (_, _)), (7001, (_, _))]⟩) (le_w [some 13, some 7001] rfl ⟨⟨_, rfl, .refl _⟩, ⟨⟨_, rfl, .refl _⟩, ⟨⟨_, rfl, .refl _⟩, ⟨⟨_, rfl, .refl _⟩, trivial⟩⟩⟩⟩ ⟨⟨_, rfl, .refl _⟩, ⟨⟨_, rfl, .refl _⟩, trivial⟩⟩ (by decide)) ?_
          refine good_region ?_
          refine g_op rfl (ValOk.op (v_bin rfl rfl rfl rfl ?_)) 
          refine g_op rfl (ValOk.op (v_move rfl rfl ?_)) 
          refine g_nil ?_
          exact round_mk m1 (x1 ++ toI [92, 110], IntKind.wrap .i64 (x2 + 1), w7) (Nat.lt_succ_self _) h (le_w [some 13, some 7001] rfl ⟨⟨_, rfl, .refl _⟩, ⟨⟨_, rfl, .refl _⟩, ⟨⟨_, rfl, .refl _⟩, ⟨⟨_, rfl, .refl _⟩, trivial⟩⟩⟩⟩ ⟨⟨_, rfl, .refl _⟩, ⟨⟨_, rfl, .refl _⟩, trivial⟩⟩ (by decide))
        · replace h := ifF h (dF hc3)
          refine good_seq fun K16 hK16 => ?_
          obtain ⟨o3, ho3, hJ3⟩ := bnd h
          have hw3 : ∀ (s3 : Bool), o3 = Lp.go s3 → ∀ σ', Le σ' ⟨50, [(0, .str a0), (3, .ptr 13 b1 0), (5, .int .u8 (byt a0 x2)), (8, .int .i64 (a0.length : Int)), (9, .int .i64 x2), (31, .bool s3)], [(13, ((.pointer (some ⟨b1, 0, none⟩)), .optr 55 [.adr b1, .hd 7001 w2])), (7001, (w2, .osl 5 1 (x1.map (encI .u8))))]⟩ → K16 σ' := by
            intro s3 e3 σ' hle3
            subst e3
            refine hK16 _ (Good.le hle3 ?_)
            replace h := hJ3
            refine good_cond rfl (fun hc4 => ?_) (fun hc4 => ?_)
            · replace h := ifT h hc4
              refine good_seq fun K17 hK17 => ?_
              refine good_region ?_
              obtain ⟨hb8, h⟩ := ifS h
              refine g_op rfl (o_callB (q := 13) (y := 7001) (core_value rfl rfl) (writeString_does b1 7001 _ _ [92, 117, 48, 48] hb8) (.cons (.ptr _ _ _ _) (.cons (.refl _) .nil)) rfl rfl rfl rfl ?_)
              intro w8
              refine g_nil ?_
              refine hK17 _ ?_
              refine Good.le (σ' := ⟨50, [(0, _), (3, _), (5, _), (8, _), (9, _)], [(13, (_, _)), (7001, (_, _))]⟩) (le_w [some 13, some 7001] rfl ⟨⟨_, rfl, .refl _⟩, ⟨⟨_, rfl, .refl _⟩, ⟨⟨_, rfl, .refl _⟩, ⟨⟨_, rfl, .refl _⟩, ⟨⟨_, rfl, .refl _⟩, trivial⟩⟩⟩⟩⟩ ⟨⟨_, rfl, .refl _⟩, ⟨⟨_, rfl, .refl _⟩, trivial⟩⟩ (by decide)) ?_
              refine good_seq fun K18 hK18 => ?_
              refine good_region ?_
              refine g_op rfl (ValOk.op (v_move rfl rfl ?_)) 
              refine g_op rfl (ValOk.op (v_shr rfl rfl (by decide) rfl ?_)) 
              obtain ⟨hb9, h⟩ := ifS h
              refine g_op rfl (ValOk.op (v_indexM tabOk rfl rfl tkind9 hb9 rfl ?_)) 
              obtain ⟨hb10, h⟩ := ifS h
              refine g_op rfl (o_callB (q := 13) (y := 7001) (core_value rfl rfl) (writeByte_does b1 7001 _ _ (byt [48, 49, 50, 51, 52, 53, 54, 55, 56, 57, 97, 98, 99, 100, 101, 102] (Int.fdiv (byt a0 x2) (2 ^ (min (Int.toNat 4) (IntKind.bits .u8))))) (by decide) hb10) (.cons (.ptr _ _ _ _) (.cons (.refl _) .nil)) rfl rfl rfl rfl ?_)
              intro w9
              refine g_nil ?_
              refine hK18 _ ?_
              refine Good.le (σ' := ⟨50, [(0, _), (3, _), (5, _), (8, _), (9, _)], [(13, (_, _)), (7001, (_, _))]⟩) (le_w [some 13, some 7001] rfl ⟨⟨_, rfl, .refl _⟩, ⟨⟨_, rfl, .refl _⟩, ⟨⟨_, rfl, .refl _⟩, ⟨⟨_, rfl, .refl _⟩, ⟨⟨_, rfl, .refl _⟩, trivial⟩⟩⟩⟩⟩ ⟨⟨_, rfl, .refl _⟩, ⟨⟨_, rfl, .refl _⟩, trivial⟩⟩ (by decide)) ?_
              refine good_region ?_
              refine g_op rfl (ValOk.op (v_move rfl rfl ?_)) 
              refine g_op rfl (ValOk.op (v_bin rfl rfl rfl rfl ?_)) 
              obtain ⟨hb11, h⟩ := ifS h
              refine g_op rfl (ValOk.op (v_indexM tabOk rfl rfl tkind9 hb11 rfl ?_)) 
              obtain ⟨hb12, h⟩ := ifS h
              refine g_op rfl (o_callB (q := 13) (y := 7001) (core_value rfl rfl) (writeByte_does b1 7001 _ _ (byt [48, 49, 50, 51, 52, 53, 54, 55, 56, 57, 97, 98, 99, 100, 101, 102] (bitsI .and .u8 (byt a0 x2) 15)) (by decide) hb12) (.cons (.ptr _ _ _ _) (.cons (.refl _) .nil)) rfl rfl rfl rfl ?_)
              intro w10
              refine g_nil ?_
              refine hK10 _ ?_
              refine Good.le (σ' := ⟨50, [(0, _), (3, _), (8, _), (9, _)], [(13, (_, _)), (7001, (_, _))]⟩) (le_w [some 13, some 7001] rfl ⟨⟨_, rfl, .refl _⟩, ⟨⟨_, rfl, .refl _⟩, ⟨⟨_, rfl, .refl _⟩, ⟨⟨_, rfl, .refl _⟩, trivial⟩⟩⟩⟩ ⟨⟨_, rfl, .refl _⟩, ⟨⟨_, rfl, .refl _⟩, trivial⟩⟩ (by decide)) ?_
              refine good_region ?_
              refine g_op rfl (ValOk.op (v_bin rfl rfl rfl rfl ?_)) 
              refine g_op rfl (ValOk.op (v_move rfl rfl ?_)) 
              refine g_nil ?_
              exact round_mk m1 (((x1 ++ toI [92, 117, 48, 48]) ++ [byt [48, 49, 50, 51, 52, 53, 54, 55, 56, 57, 97, 98, 99, 100, 101, 102] (Int.fdiv (byt a0 x2) (2 ^ (min (Int.toNat 4) (IntKind.bits .u8))))]) ++ [byt [48, 49, 50, 51, 52, 53, 54, 55, 56, 57, 97, 98, 99, 100, 101, 102] (bitsI .and .u8 (byt a0 x2) 15)], IntKind.wrap .i64 (x2 + 1), w10) (Nat.lt_succ_self _) h (le_w [some 13, some 7001] rfl ⟨⟨_, rfl, .refl _⟩, ⟨⟨_, rfl, .refl _⟩, ⟨⟨_, rfl, .refl _⟩, ⟨⟨_, rfl, .refl _⟩, trivial⟩⟩⟩⟩ ⟨⟨_, rfl, .refl _⟩, ⟨⟨_, rfl, .refl _⟩, trivial⟩⟩ (by decide))
            · replace h := bF h hc4
              refine good_region ?_
              refine g_op rfl (ValOk.op (v_move rfl rfl ?_)) 
              obtain ⟨hb13, h⟩ := ifS h
              refine g_op rfl (o_callB (q := 13) (y := 7001) (core_value rfl rfl) (writeByte_does b1 7001 _ _ (byt a0 x2) (by decide) hb13) (.cons (.ptr _ _ _ _) (.cons (.refl _) .nil)) rfl rfl rfl rfl ?_)
              intro w11
              refine g_nil ?_
              refine hK10 _ ?_
              refine Good.le (σ' := ⟨50, [(0, _), (3, _), (8, _), (9, _)], [(13, (_, _)), (7001, (_, _))]⟩) (le_w [some 13, some 7001] rfl ⟨⟨_, rfl, .refl _⟩, ⟨⟨_, rfl, .refl _⟩, ⟨⟨_, rfl, .refl _⟩, ⟨⟨_, rfl, .refl _⟩, trivial⟩⟩⟩⟩ ⟨⟨_, rfl, .refl _⟩, ⟨⟨_, rfl, .refl _⟩, trivial⟩⟩ (by decide)) ?_
              refine good_region ?_
              refine g_op rfl (ValOk.op (v_bin rfl rfl rfl rfl ?_)) 
              refine g_op rfl (ValOk.op (v_move rfl rfl ?_)) 
              refine g_nil ?_
              exact round_mk m1 (x1 ++ [byt a0 x2], IntKind.wrap .i64 (x2 + 1), w11) (Nat.lt_succ_self _) h (le_w [some 13, some 7001] rfl ⟨⟨_, rfl, .refl _⟩, ⟨⟨_, rfl, .refl _⟩, ⟨⟨_, rfl, .refl _⟩, ⟨⟨_, rfl, .refl _⟩, trivial⟩⟩⟩⟩ ⟨⟨_, rfl, .refl _⟩, ⟨⟨_, rfl, .refl _⟩, trivial⟩⟩ (by decide))
          replace h := ho3
          refine good_region ?_
          refine g_op rfl (ValOk.op (v_move rfl rfl ?_)) 
          refine g_op rfl (ValOk.op (v_bin rfl rfl rfl rfl ?_)) 
          refine g_op rfl (ValOk.op (v_move rfl rfl ?_)) 
          rcases bsplit ((decide ((byt a0 x2) < 32))) with hg1 | hg1
          · replace h := ifT h (dT hg1)
            refine g_no rfl rfl hg1 rfl ?_
            refine g_no rfl rfl hg1 rfl ?_
            refine g_op rfl (ValOk.op (v_pickT rfl hg1 rfl rfl ?_)) 
            refine g_op rfl (ValOk.op (v_assign rfl rfl ?_)) 
            refine g_nil ?_
            exact hw3 true (Option.some.inj h).symm _ (le_w [some 13, some 7001] rfl ⟨⟨_, rfl, .refl _⟩, ⟨⟨_, rfl, .refl _⟩, ⟨⟨_, rfl, .refl _⟩, ⟨⟨_, rfl, .refl _⟩, ⟨⟨_, rfl, .refl _⟩, ⟨⟨_, rfl, .refl _⟩, trivial⟩⟩⟩⟩⟩⟩ ⟨⟨_, rfl, .refl _⟩, ⟨⟨_, rfl, .refl _⟩, trivial⟩⟩ (by decide))
          · replace h := ifF h (dF hg1)
            refine g_yes rfl rfl hg1 (ValOk.op (v_move rfl rfl ?_)) 
            refine g_yes rfl rfl hg1 (ValOk.op (v_bin rfl rfl rfl rfl ?_)) 
            refine g_op rfl (ValOk.op (v_pickF rfl hg1 rfl rfl ?_)) 
            refine g_op rfl (ValOk.op (v_assign rfl rfl ?_)) 
            refine g_nil ?_
            exact hw3 (decide (126 < (byt a0 x2))) (Option.some.inj h).symm _ (le_w [some 13, some 7001] rfl ⟨⟨_, rfl, .refl _⟩, ⟨⟨_, rfl, .refl _⟩, ⟨⟨_, rfl, .refl _⟩, ⟨⟨_, rfl, .refl _⟩, ⟨⟨_, rfl, .refl _⟩, ⟨⟨_, rfl, .refl _⟩, trivial⟩⟩⟩⟩⟩⟩ ⟨⟨_, rfl, .refl _⟩, ⟨⟨_, rfl, .refl _⟩, trivial⟩⟩ (by decide))
    replace h := ho2
    refine good_region ?_
    refine g_op rfl (ValOk.op (v_move rfl rfl ?_)) 
    refine g_op rfl (ValOk.op (v_bin rfl rfl rfl rfl ?_)) 
    refine g_op rfl (ValOk.op (v_move rfl rfl ?_)) 
    rcases bsplit ((decide ((byt a0 x2) = 34))) with hg2 | hg2
    · replace h := ifT h (dT hg2)
      refine g_no rfl rfl hg2 rfl ?_
      refine g_no rfl rfl hg2 rfl ?_
      refine g_op rfl (ValOk.op (v_pickT rfl hg2 rfl rfl ?_)) 
      refine g_op rfl (ValOk.op (v_assign rfl rfl ?_)) 
      refine g_nil ?_
      exact hw2 true (Option.some.inj h).symm _ (le_w [some 13, some 7001] rfl ⟨⟨_, rfl, .refl _⟩, ⟨⟨_, rfl, .refl _⟩, ⟨⟨_, rfl, .refl _⟩, ⟨⟨_, rfl, .refl _⟩, ⟨⟨_, rfl, .refl _⟩, ⟨⟨_, rfl, .refl _⟩, trivial⟩⟩⟩⟩⟩⟩ ⟨⟨_, rfl, .refl _⟩, ⟨⟨_, rfl, .refl _⟩, trivial⟩⟩ (by decide))
    · replace h := ifF h (dF hg2)
      refine g_yes rfl rfl hg2 (ValOk.op (v_move rfl rfl ?_)) 
      refine g_yes rfl rfl hg2 (ValOk.op (v_bin rfl rfl rfl rfl ?_)) 
      refine g_op rfl (ValOk.op (v_pickF rfl hg2 rfl rfl ?_)) 
      refine g_op rfl (ValOk.op (v_assign rfl rfl ?_)) 
      refine g_nil ?_
      exact hw2 (decide ((byt a0 x2) = 92)) (Option.some.inj h).symm _ (le_w [some 13, some 7001] rfl ⟨⟨_, rfl, .refl _⟩, ⟨⟨_, rfl, .refl _⟩, ⟨⟨_, rfl, .refl _⟩, ⟨⟨_, rfl, .refl _⟩, ⟨⟨_, rfl, .refl _⟩, ⟨⟨_, rfl, .refl _⟩, trivial⟩⟩⟩⟩⟩⟩ ⟨⟨_, rfl, .refl _⟩, ⟨⟨_, rfl, .refl _⟩, trivial⟩⟩ (by decide))
  · replace h := ifF h (dF hc1)
    refine good_exit ?_
    exact hw1 x1 w2 (Option.some.inj h).symm _ (le_w [some 13, some 7001] rfl ⟨⟨_, rfl, .refl _⟩, trivial⟩ ⟨⟨_, rfl, .refl _⟩, ⟨⟨_, rfl, .refl _⟩, trivial⟩⟩ (by decide))
def m_internal_strconv_FormatBool (a0 : Bool) : Option Bs :=
  if a0 = true then
    some [116, 114, 117, 101]
  else
    some [102, 97, 108, 115, 101]
theorem m_internal_strconv_FormatBool_ok : ∀ (a0 : Bool) (r : Bs), m_internal_strconv_FormatBool a0 = some r → Does Tryd.prog 71 [.bool a0] [] (ret (.str r)) := by
  intro a0 r h
  rw [m_internal_strconv_FormatBool] at h
  refine does_of_good tabOk Tryd.func71 rfl (by decide +kernel) (Nat.le_of_ble_eq_true rfl) fun c => ?_
  refine Good.le (σ' := ⟨4, [(0, .bool a0)], []⟩) (Le.refl _) ?_
  refine good_seq fun K1 hK1 => ?_
  refine good_region ?_
  refine g_op rfl (ValOk.op (v_assign rfl rfl ?_)) 
  refine g_nil ?_
  refine hK1 _ ?_
  refine good_seq fun K2 hK2 => ?_
  refine good_seq fun K3 hK3 => ?_
  refine good_region ?_
  refine g_op rfl (ValOk.op (v_move rfl rfl ?_)) 
  refine g_nil ?_
  refine hK3 _ ?_
  refine Good.le (σ' := ⟨4, [(2, _), (3, _)], []⟩) (le_w [] rfl ⟨⟨_, rfl, .refl _⟩, ⟨⟨_, rfl, .refl _⟩, trivial⟩⟩ trivial (by decide)) ?_
  refine good_cond rfl (fun hc1 => ?_) (fun hc1 => ?_)
  · replace h := ifT h hc1
    refine good_seq fun K4 hK4 => ?_
    refine good_region ?_
    refine g_op rfl (ValOk.op (v_assign rfl rfl ?_)) 
    refine g_nil ?_
    refine hK4 _ ?_
    refine Good.le (σ' := ⟨4, [(2, _)], []⟩) (le_w [] rfl ⟨⟨_, rfl, .refl _⟩, trivial⟩ trivial (by decide)) ?_
    refine Good.le (σ' := ⟨4, [(2, .str [116, 114, 117, 101])], []⟩) (le_w [] rfl ⟨⟨_, rfl, .refl _⟩, trivial⟩ trivial (by decide)) ?_
    refine good_ret ?_
    obtain rfl := Option.some.inj h
    refine thenQ_ret ?_
    exact endQ_ret (h' := []) [] (.tmp rfl (.nil)) trivial (by decide) ⟨rfl, rfl⟩
  · replace h := bF h hc1
    refine good_skip ?_
    refine hK2 _ ?_
    refine Good.le (σ' := ⟨4, [(2, _)], []⟩) (le_w [] rfl ⟨⟨_, rfl, .refl _⟩, trivial⟩ trivial (by decide)) ?_
    refine good_seq fun K5 hK5 => ?_
    refine good_region ?_
    refine g_op rfl (ValOk.op (v_assign rfl rfl ?_)) 
    refine g_nil ?_
    refine hK5 _ ?_
    refine Good.le (σ' := ⟨4, [(2, .str [102, 97, 108, 115, 101])], []⟩) (le_w [] rfl ⟨⟨_, rfl, .refl _⟩, trivial⟩ trivial (by decide)) ?_
    refine good_ret ?_
    obtain rfl := Option.some.inj h
    exact endQ_ret (h' := []) [] (.tmp rfl (.nil)) trivial (by decide) ⟨rfl, rfl⟩
def m_strconv_FormatBool (a0 : Bool) : Option Bs :=
  (m_internal_strconv_FormatBool a0).bind fun y1 =>
  some y1
theorem m_strconv_FormatBool_ok : ∀ (a0 : Bool) (r : Bs), m_strconv_FormatBool a0 = some r → Does Tryd.prog 60 [.bool a0] [] (ret (.str r)) := by
  intro a0 r h
  rw [m_strconv_FormatBool] at h
  refine does_of_good tabOk Tryd.func60 rfl (by decide +kernel) (Nat.le_of_ble_eq_true rfl) fun c => ?_
  refine Good.le (σ' := ⟨5, [(0, .bool a0)], []⟩) (Le.refl _) ?_
  refine good_seq fun K1 hK1 => ?_
  refine good_region ?_
  refine g_op rfl (ValOk.op (v_assign rfl rfl ?_)) 
  refine g_nil ?_
  refine hK1 _ ?_
  refine good_seq fun K2 hK2 => ?_
  refine good_region ?_
  refine g_op rfl (ValOk.op (v_move rfl rfl ?_)) 
  obtain ⟨y1, hy1, h⟩ := bnd h
  refine g_op rfl (o_callR [] [] (core_value rfl rfl) (m_internal_strconv_FormatBool_ok a0 _ hy1) trivial (.cons (.refl _) (.nil)) (.inl rfl) rfl ?_)
  refine g_op rfl (ValOk.op (v_assign rfl rfl ?_)) 
  refine g_nil ?_
  refine hK2 _ ?_
  refine Good.le (σ' := ⟨5, [(2, _)], []⟩) (le_w [] rfl ⟨⟨_, rfl, .refl _⟩, trivial⟩ trivial (by decide)) ?_
  refine Good.le (σ' := ⟨5, [(2, .str y1)], []⟩) (le_w [] rfl ⟨⟨_, rfl, .refl _⟩, trivial⟩ trivial (by decide)) ?_
  refine good_ret ?_
  obtain rfl := Option.some.inj h
  exact endQ_ret (h' := []) [] (.tmp rfl (.nil)) trivial (by decide) ⟨rfl, rfl⟩
mutual
def m_impl_writeValue_l1 : Nat → (List Val) → (List Bs) → Int → Option (Lp (List Bs) Bs)
  | 0, _, _, _ => none
  | k + 1, v4, x1, x2 =>
    if x2 < (v4.length : Int) then
      if (0 : Int) ≤ x2 ∧ x2 < (v4.length : Int) then
        (m_impl_writeValue k (ix v4 x2) ()).bind fun y6 =>
        if (x1 ++ [y6]).length * 16 ≤ 140737488355328 then
          m_impl_writeValue_l1 k v4 (x1 ++ [y6]) (IntKind.wrap .i64 (x2 + 1))
        else none
      else none
    else
      some (Lp.go x1)
def m_impl_writeValue_l2 : Nat → GTreeItem → (List Bs) → Int → Option (Lp (List Bs) Bs)
  | 0, _, _, _ => none
  | k + 1, v5, x3, x4 =>
    if x4 < (v5.list.length : Int) then
      if (0 : Int) ≤ x4 ∧ x4 < (v5.list.length : Int) then
        if (0 : Int) ≤ x4 ∧ x4 < (v5.names.length : Int) then
          (m_impl_quoteText k (ix v5.names x4)).bind fun y8 =>
          if (y8 ++ [58]).length ≤ maxLen then
            (m_impl_writeValue k (ix v5.list x4) ()).bind fun y9 =>
            if ((y8 ++ [58]) ++ y9).length ≤ maxLen then
              if (x3 ++ ([(y8 ++ [58]) ++ y9] : (List Bs))).length * 16 ≤ 140737488355328 then
                m_impl_writeValue_l2 k v5 (x3 ++ ([(y8 ++ [58]) ++ y9] : (List Bs))) (IntKind.wrap .i64 (x4 + 1))
              else none
            else none
          else none
        else none
      else none
    else
      some (Lp.go x3)
def m_impl_writeValue : Nat → Val → Unit → Option Bs
  | 0, _, _ => none
  | k + 1, a0, a1 =>
    (m_impl_itemOf k a0).bind fun y1 =>
    (match y1 with
      | .nil => some [110, 117, 108, 108]
      | .c80 v1 => (m_strconv_FormatBool v1).bind fun y2 =>
        some y2
      | .c82 v2 => (m_strconv_Itoa v2).bind fun y3 =>
        some y3
      | .c83 v3 => (m_impl_quoteText k v3).bind fun y4 =>
        some y4
      | .c84 v4 => (m_impl_writeValue_l1 k v4 ([] : List Bs) 0).bind fun o1 =>
        o1.then fun s1 =>
    (m_strings_Join s1 [44]).bind fun y5 =>
    if ([91] ++ y5).length ≤ maxLen then
      if (([91] ++ y5) ++ [93]).length ≤ maxLen then
        some (([91] ++ y5) ++ [93])
      else none
    else none
      | .c87 v5 => (m_impl_writeValue_l2 k v5 ([] : List Bs) 0).bind fun o2 =>
        o2.then fun s2 =>
    (m_strings_Join s2 [44]).bind fun y7 =>
    if ([123] ++ y7).length ≤ maxLen then
      if (([123] ++ y7) ++ [125]).length ≤ maxLen then
        some (([123] ++ y7) ++ [125])
      else none
    else none
      | .c88 v6 => if ([36] ++ v6).length ≤ maxLen then
          some ([36] ++ v6)
        else none
      | .c89 v7 => some v7
      | .c100 => some [110, 117, 108, 108])
end
def P_m_impl_writeValue (k : Nat) : Prop := ∀ (a0 : Val) (a1 : Unit) (r : Bs), m_impl_writeValue k a0 a1 = some r → DoesT Tryd.prog 44 [.agg [.int .i64 a0.kind, .int .i64 a0.num, .str a0.text, .sl true (a0.list.map encVal), .sl false (a0.names.map encS)], .clo (.func 45) []] [] (ret (.str r))
theorem m_impl_writeValue_step (k : Nat) (ih : ∀ m, m < k → P_m_impl_writeValue m) : P_m_impl_writeValue k := by
  intro a0 a1 r h
  obtain ⟨k, rfl⟩ : ∃ k', k = k' + 1 := by cases k with | zero => (rw [m_impl_writeValue] at h; cases h) | succ k' => exact ⟨k', rfl⟩
  rw [m_impl_writeValue] at h
  refine doesT_of_good tabOk Tryd.func44 rfl (by decide +kernel) (Nat.le_of_ble_eq_true rfl) fun c hct => ?_
  refine Good.le (σ' := ⟨97, [(0, .agg [.int .i64 a0.kind, .int .i64 a0.num, .str a0.text, .sl true (a0.list.map encVal), .sl false (a0.names.map encS)]), (1, .clo (.func 45) [])], []⟩) (Le.refl _) ?_
  refine good_seq fun K1 hK1 => ?_
  refine good_region ?_
  refine g_op rfl (o_box (k := 12) tabOk rfl rfl rfl rfl rfl ?_)
  intro b1
  refine g_op rfl (ValOk.op (v_assign rfl rfl ?_)) 
  refine g_nil ?_
  refine hK1 _ ?_
  refine Good.le (σ' := ⟨97, [(1, _), (2, _), (4, _)], [(12, (_, _))]⟩) (le_w [some 12] rfl ⟨⟨_, rfl, .refl _⟩, ⟨⟨_, rfl, .refl _⟩, ⟨⟨_, rfl, .refl _⟩, trivial⟩⟩⟩ ⟨⟨_, rfl, .refl _⟩, trivial⟩ (by decide)) ?_
  refine good_seq fun K2 hK2 => ?_
  refine good_seq fun K3 hK3 => ?_
  refine good_region ?_
  refine g_op rfl (ValOk.op (v_loadP tabOk rfl rfl tsize42 tagg42 rfl rfl rfl rfl ?_)) 
  obtain ⟨y1, hy1, h⟩ := bnd h
  refine g_op rfl (o_callR [] [] (core_value rfl rfl) (m_impl_itemOf_ok k a0 _ hy1) trivial (.cons (.refl _) (.nil)) (.inl rfl) rfl ?_)
  refine g_nil ?_
  refine hK3 _ ?_
  refine Good.le (σ' := ⟨97, [(1, _), (4, _), (19, _)], []⟩) (le_w [] rfl ⟨⟨_, rfl, .refl _⟩, ⟨⟨_, rfl, .refl _⟩, ⟨⟨_, rfl, .refl _⟩, trivial⟩⟩⟩ trivial (by decide)) ?_
  refine good_block ?_
  refine good_seq fun K4 hK4 => ?_
  refine good_region ?_
  rcases y1 with _ | v1 | v2 | v3 | v4 | v5 | v6 | v7 | _
  · try dsimp only at h
    refine g_op rfl (ValOk.op (v_assert0 tabOk rfl tkind80 rfl tzero80 tagg80 rfl rfl ?_)) 
    refine g_op rfl (ValOk.op (v_extract rfl rfl rfl ?_)) 
    refine g_op rfl (ValOk.op (v_extract rfl rfl rfl ?_)) 
    refine g_nil ?_
    refine hK4 _ ?_
    refine Good.le (σ' := ⟨97, [(1, _), (4, _), (19, _), (21, _), (22, _)], []⟩) (le_w [] rfl ⟨⟨_, rfl, .refl _⟩, ⟨⟨_, rfl, .refl _⟩, ⟨⟨_, rfl, .refl _⟩, ⟨⟨_, rfl, .refl _⟩, ⟨⟨_, rfl, .refl _⟩, trivial⟩⟩⟩⟩⟩ trivial (by decide)) ?_
    refine good_cond (b := false) rfl (fun hc => Bool.noConfusion hc) (fun hc => ?_)
    refine good_seq fun K5 hK5 => ?_
    refine good_region ?_
    refine g_op rfl (ValOk.op (v_assert0 tabOk rfl tkind82 rfl tzero82 tagg82 rfl rfl ?_)) 
    refine g_op rfl (ValOk.op (v_extract rfl rfl rfl ?_)) 
    refine g_op rfl (ValOk.op (v_extract rfl rfl rfl ?_)) 
    refine g_nil ?_
    refine hK5 _ ?_
    refine Good.le (σ' := ⟨97, [(1, _), (4, _), (19, _), (26, _), (27, _)], []⟩) (le_w [] rfl ⟨⟨_, rfl, .refl _⟩, ⟨⟨_, rfl, .refl _⟩, ⟨⟨_, rfl, .refl _⟩, ⟨⟨_, rfl, .refl _⟩, ⟨⟨_, rfl, .refl _⟩, trivial⟩⟩⟩⟩⟩ trivial (by decide)) ?_
    refine good_cond (b := false) rfl (fun hc => Bool.noConfusion hc) (fun hc => ?_)
    refine good_seq fun K6 hK6 => ?_
    refine good_region ?_
    refine g_op rfl (ValOk.op (v_assert0 tabOk rfl tkind83 rfl tzero83 tagg83 rfl rfl ?_)) 
    refine g_op rfl (ValOk.op (v_extract rfl rfl rfl ?_)) 
    refine g_op rfl (ValOk.op (v_extract rfl rfl rfl ?_)) 
    refine g_nil ?_
    refine hK6 _ ?_
    refine Good.le (σ' := ⟨97, [(1, _), (4, _), (19, _), (31, _), (32, _)], []⟩) (le_w [] rfl ⟨⟨_, rfl, .refl _⟩, ⟨⟨_, rfl, .refl _⟩, ⟨⟨_, rfl, .refl _⟩, ⟨⟨_, rfl, .refl _⟩, ⟨⟨_, rfl, .refl _⟩, trivial⟩⟩⟩⟩⟩ trivial (by decide)) ?_
    refine good_cond (b := false) rfl (fun hc => Bool.noConfusion hc) (fun hc => ?_)
    refine good_seq fun K7 hK7 => ?_
    refine good_region ?_
    refine g_op rfl (ValOk.op (v_assert0 tabOk rfl tkind84 rfl tzero84 tagg84 rfl rfl ?_)) 
    refine g_op rfl (ValOk.op (v_extract rfl rfl rfl ?_)) 
    refine g_op rfl (ValOk.op (v_extract rfl rfl rfl ?_)) 
    refine g_nil ?_
    refine hK7 _ ?_
    refine Good.le (σ' := ⟨97, [(1, _), (4, _), (19, _), (36, _), (37, _)], []⟩) (le_w [] rfl ⟨⟨_, rfl, .refl _⟩, ⟨⟨_, rfl, .refl _⟩, ⟨⟨_, rfl, .refl _⟩, ⟨⟨_, rfl, .refl _⟩, ⟨⟨_, rfl, .refl _⟩, trivial⟩⟩⟩⟩⟩ trivial (by decide)) ?_
    refine good_cond (b := false) rfl (fun hc => Bool.noConfusion hc) (fun hc => ?_)
    refine good_seq fun K8 hK8 => ?_
    refine good_region ?_
    refine g_op rfl (ValOk.op (v_assert0 tabOk rfl tkind87 rfl tzero87 tagg87 rfl rfl ?_)) 
    refine g_op rfl (ValOk.op (v_extract rfl rfl rfl ?_)) 
    refine g_op rfl (ValOk.op (v_extract rfl rfl rfl ?_)) 
    refine g_nil ?_
    refine hK8 _ ?_
    refine Good.le (σ' := ⟨97, [(1, _), (4, _), (19, _), (57, _), (58, _)], []⟩) (le_w [] rfl ⟨⟨_, rfl, .refl _⟩, ⟨⟨_, rfl, .refl _⟩, ⟨⟨_, rfl, .refl _⟩, ⟨⟨_, rfl, .refl _⟩, ⟨⟨_, rfl, .refl _⟩, trivial⟩⟩⟩⟩⟩ trivial (by decide)) ?_
    refine good_cond (b := false) rfl (fun hc => Bool.noConfusion hc) (fun hc => ?_)
    refine good_seq fun K9 hK9 => ?_
    refine good_region ?_
    refine g_op rfl (ValOk.op (v_assert0 tabOk rfl tkind88 rfl tzero88 tagg88 rfl rfl ?_)) 
    refine g_op rfl (ValOk.op (v_extract rfl rfl rfl ?_)) 
    refine g_op rfl (ValOk.op (v_extract rfl rfl rfl ?_)) 
    refine g_nil ?_
    refine hK9 _ ?_
    refine Good.le (σ' := ⟨97, [(4, _), (19, _), (89, _), (90, _)], []⟩) (le_w [] rfl ⟨⟨_, rfl, .refl _⟩, ⟨⟨_, rfl, .refl _⟩, ⟨⟨_, rfl, .refl _⟩, ⟨⟨_, rfl, .refl _⟩, trivial⟩⟩⟩⟩ trivial (by decide)) ?_
    refine good_cond (b := false) rfl (fun hc => Bool.noConfusion hc) (fun hc => ?_)
    refine good_seq fun K10 hK10 => ?_
    refine good_region ?_
    refine g_op rfl (ValOk.op (v_assert0 tabOk rfl tkind89 rfl tzero89 tagg89 rfl rfl ?_)) 
    refine g_op rfl (ValOk.op (v_extract rfl rfl rfl ?_)) 
    refine g_op rfl (ValOk.op (v_extract rfl rfl rfl ?_)) 
    refine g_nil ?_
    refine hK10 _ ?_
    refine Good.le (σ' := ⟨97, [(4, _), (94, _), (95, _)], []⟩) (le_w [] rfl ⟨⟨_, rfl, .refl _⟩, ⟨⟨_, rfl, .refl _⟩, ⟨⟨_, rfl, .refl _⟩, trivial⟩⟩⟩ trivial (by decide)) ?_
    refine good_cond (b := false) rfl (fun hc => Bool.noConfusion hc) (fun hc => ?_)
    refine good_skip ?_
    refine hK2 _ ?_
    refine Good.le (σ' := ⟨97, [(4, _)], []⟩) (le_w [] rfl ⟨⟨_, rfl, .refl _⟩, trivial⟩ trivial (by decide)) ?_
    refine good_seq fun K11 hK11 => ?_
    refine good_region ?_
    refine g_op rfl (ValOk.op (v_assign rfl rfl ?_)) 
    refine g_nil ?_
    refine hK11 _ ?_
    refine Good.le (σ' := ⟨97, [(4, .str [110, 117, 108, 108])], []⟩) (le_w [] rfl ⟨⟨_, rfl, .refl _⟩, trivial⟩ trivial (by decide)) ?_
    refine good_ret ?_
    obtain rfl := Option.some.inj h
    exact endQ_ret (h' := []) [] (.tmp rfl (.nil)) trivial (by decide) ⟨rfl, rfl⟩
  · try dsimp only at h
    refine g_op rfl (ValOk.op (v_assertY tabOk rfl tkind80 rfl rfl ?_)) 
    refine g_op rfl (ValOk.op (v_extract rfl rfl rfl ?_)) 
    refine g_op rfl (ValOk.op (v_extract rfl rfl rfl ?_)) 
    refine g_nil ?_
    refine hK4 _ ?_
    refine Good.le (σ' := ⟨97, [(1, _), (4, _), (19, _), (21, _), (22, _)], []⟩) (le_w [] rfl ⟨⟨_, rfl, .refl _⟩, ⟨⟨_, rfl, .refl _⟩, ⟨⟨_, rfl, .refl _⟩, ⟨⟨_, rfl, .refl _⟩, ⟨⟨_, rfl, .refl _⟩, trivial⟩⟩⟩⟩⟩ trivial (by decide)) ?_
    refine good_cond (b := true) rfl (fun hc => ?_) (fun hc => Bool.noConfusion hc)
    refine good_seq fun K12 hK12 => ?_
    refine good_region ?_
    refine g_op rfl (ValOk.op (v_assign rfl rfl ?_)) 
    refine g_nil ?_
    refine hK12 _ ?_
    refine Good.le (σ' := ⟨97, [(4, _), (5, _)], []⟩) (le_w [] rfl ⟨⟨_, rfl, .refl _⟩, ⟨⟨_, rfl, .refl _⟩, trivial⟩⟩ trivial (by decide)) ?_
    refine good_seq fun K13 hK13 => ?_
    refine good_region ?_
    refine g_op rfl (ValOk.op (v_move rfl rfl ?_)) 
    obtain ⟨y2, hy2, h⟩ := bnd h
    refine g_op rfl (o_callR [] [] (core_value rfl rfl) (m_strconv_FormatBool_ok v1 _ hy2) trivial (.cons (.refl _) (.nil)) (.inl rfl) rfl ?_)
    refine g_op rfl (ValOk.op (v_assign rfl rfl ?_)) 
    refine g_nil ?_
    refine hK13 _ ?_
    refine Good.le (σ' := ⟨97, [(4, _)], []⟩) (le_w [] rfl ⟨⟨_, rfl, .refl _⟩, trivial⟩ trivial (by decide)) ?_
    refine Good.le (σ' := ⟨97, [(4, .str y2)], []⟩) (le_w [] rfl ⟨⟨_, rfl, .refl _⟩, trivial⟩ trivial (by decide)) ?_
    refine good_ret ?_
    obtain rfl := Option.some.inj h
    refine blockQ_ret ?_
    refine thenQ_ret ?_
    exact endQ_ret (h' := []) [] (.tmp rfl (.nil)) trivial (by decide) ⟨rfl, rfl⟩
  · try dsimp only at h
    refine g_op rfl (ValOk.op (v_assertN tabOk rfl rfl tkind80 rfl tzero80 tagg80 rfl rfl ?_)) 
    refine g_op rfl (ValOk.op (v_extract rfl rfl rfl ?_)) 
    refine g_op rfl (ValOk.op (v_extract rfl rfl rfl ?_)) 
    refine g_nil ?_
    refine hK4 _ ?_
    refine Good.le (σ' := ⟨97, [(1, _), (4, _), (19, _), (21, _), (22, _)], []⟩) (le_w [] rfl ⟨⟨_, rfl, .refl _⟩, ⟨⟨_, rfl, .refl _⟩, ⟨⟨_, rfl, .refl _⟩, ⟨⟨_, rfl, .refl _⟩, ⟨⟨_, rfl, .refl _⟩, trivial⟩⟩⟩⟩⟩ trivial (by decide)) ?_
    refine good_cond (b := false) rfl (fun hc => Bool.noConfusion hc) (fun hc => ?_)
    refine good_seq fun K14 hK14 => ?_
    refine good_region ?_
    refine g_op rfl (ValOk.op (v_assertY tabOk rfl tkind82 rfl rfl ?_)) 
    refine g_op rfl (ValOk.op (v_extract rfl rfl rfl ?_)) 
    refine g_op rfl (ValOk.op (v_extract rfl rfl rfl ?_)) 
    refine g_nil ?_
    refine hK14 _ ?_
    refine Good.le (σ' := ⟨97, [(1, _), (4, _), (19, _), (26, _), (27, _)], []⟩) (le_w [] rfl ⟨⟨_, rfl, .refl _⟩, ⟨⟨_, rfl, .refl _⟩, ⟨⟨_, rfl, .refl _⟩, ⟨⟨_, rfl, .refl _⟩, ⟨⟨_, rfl, .refl _⟩, trivial⟩⟩⟩⟩⟩ trivial (by decide)) ?_
    refine good_cond (b := true) rfl (fun hc => ?_) (fun hc => Bool.noConfusion hc)
    refine good_seq fun K15 hK15 => ?_
    refine good_region ?_
    refine g_op rfl (ValOk.op (v_assign rfl rfl ?_)) 
    refine g_nil ?_
    refine hK15 _ ?_
    refine Good.le (σ' := ⟨97, [(4, _), (6, _)], []⟩) (le_w [] rfl ⟨⟨_, rfl, .refl _⟩, ⟨⟨_, rfl, .refl _⟩, trivial⟩⟩ trivial (by decide)) ?_
    refine good_seq fun K16 hK16 => ?_
    refine good_region ?_
    refine g_op rfl (ValOk.op (v_move rfl rfl ?_)) 
    obtain ⟨y3, hy3, h⟩ := bnd h
    refine g_op rfl (o_callTR [] [] (core_value rfl rfl) hct (m_strconv_Itoa_ok v2 _ hy3) trivial (.cons (.refl _) (.nil)) (.inl rfl) rfl ?_)
    refine g_op rfl (ValOk.op (v_assign rfl rfl ?_)) 
    refine g_nil ?_
    refine hK16 _ ?_
    refine Good.le (σ' := ⟨97, [(4, _)], []⟩) (le_w [] rfl ⟨⟨_, rfl, .refl _⟩, trivial⟩ trivial (by decide)) ?_
    refine Good.le (σ' := ⟨97, [(4, .str y3)], []⟩) (le_w [] rfl ⟨⟨_, rfl, .refl _⟩, trivial⟩ trivial (by decide)) ?_
    refine good_ret ?_
    obtain rfl := Option.some.inj h
    refine blockQ_ret ?_
    refine thenQ_ret ?_
    exact endQ_ret (h' := []) [] (.tmp rfl (.nil)) trivial (by decide) ⟨rfl, rfl⟩
  · try dsimp only at h
    refine g_op rfl (ValOk.op (v_assertN tabOk rfl rfl tkind80 rfl tzero80 tagg80 rfl rfl ?_)) 
    refine g_op rfl (ValOk.op (v_extract rfl rfl rfl ?_)) 
    refine g_op rfl (ValOk.op (v_extract rfl rfl rfl ?_)) 
    refine g_nil ?_
    refine hK4 _ ?_
    refine Good.le (σ' := ⟨97, [(1, _), (4, _), (19, _), (21, _), (22, _)], []⟩) (le_w [] rfl ⟨⟨_, rfl, .refl _⟩, ⟨⟨_, rfl, .refl _⟩, ⟨⟨_, rfl, .refl _⟩, ⟨⟨_, rfl, .refl _⟩, ⟨⟨_, rfl, .refl _⟩, trivial⟩⟩⟩⟩⟩ trivial (by decide)) ?_
    refine good_cond (b := false) rfl (fun hc => Bool.noConfusion hc) (fun hc => ?_)
    refine good_seq fun K17 hK17 => ?_
    refine good_region ?_
    refine g_op rfl (ValOk.op (v_assertN tabOk rfl rfl tkind82 rfl tzero82 tagg82 rfl rfl ?_)) 
    refine g_op rfl (ValOk.op (v_extract rfl rfl rfl ?_)) 
    refine g_op rfl (ValOk.op (v_extract rfl rfl rfl ?_)) 
    refine g_nil ?_
    refine hK17 _ ?_
    refine Good.le (σ' := ⟨97, [(1, _), (4, _), (19, _), (26, _), (27, _)], []⟩) (le_w [] rfl ⟨⟨_, rfl, .refl _⟩, ⟨⟨_, rfl, .refl _⟩, ⟨⟨_, rfl, .refl _⟩, ⟨⟨_, rfl, .refl _⟩, ⟨⟨_, rfl, .refl _⟩, trivial⟩⟩⟩⟩⟩ trivial (by decide)) ?_
    refine good_cond (b := false) rfl (fun hc => Bool.noConfusion hc) (fun hc => ?_)
    refine good_seq fun K18 hK18 => ?_
    refine good_region ?_
    refine g_op rfl (ValOk.op (v_assertY tabOk rfl tkind83 rfl rfl ?_)) 
    refine g_op rfl (ValOk.op (v_extract rfl rfl rfl ?_)) 
    refine g_op rfl (ValOk.op (v_extract rfl rfl rfl ?_)) 
    refine g_nil ?_
    refine hK18 _ ?_
    refine Good.le (σ' := ⟨97, [(1, _), (4, _), (19, _), (31, _), (32, _)], []⟩) (le_w [] rfl ⟨⟨_, rfl, .refl _⟩, ⟨⟨_, rfl, .refl _⟩, ⟨⟨_, rfl, .refl _⟩, ⟨⟨_, rfl, .refl _⟩, ⟨⟨_, rfl, .refl _⟩, trivial⟩⟩⟩⟩⟩ trivial (by decide)) ?_
    refine good_cond (b := true) rfl (fun hc => ?_) (fun hc => Bool.noConfusion hc)
    refine good_seq fun K19 hK19 => ?_
    refine good_region ?_
    refine g_op rfl (ValOk.op (v_assign rfl rfl ?_)) 
    refine g_nil ?_
    refine hK19 _ ?_
    refine Good.le (σ' := ⟨97, [(4, _), (7, _)], []⟩) (le_w [] rfl ⟨⟨_, rfl, .refl _⟩, ⟨⟨_, rfl, .refl _⟩, trivial⟩⟩ trivial (by decide)) ?_
    refine good_seq fun K20 hK20 => ?_
    refine good_region ?_
    refine g_op rfl (ValOk.op (v_move rfl rfl ?_)) 
    obtain ⟨y4, hy4, h⟩ := bnd h
    refine g_op rfl (o_callR [] [] (core_value rfl rfl) (m_impl_quoteText_ok k v3 _ hy4) trivial (.cons (.refl _) (.nil)) (.inl rfl) rfl ?_)
    refine g_op rfl (ValOk.op (v_assign rfl rfl ?_)) 
    refine g_nil ?_
    refine hK20 _ ?_
    refine Good.le (σ' := ⟨97, [(4, _)], []⟩) (le_w [] rfl ⟨⟨_, rfl, .refl _⟩, trivial⟩ trivial (by decide)) ?_
    refine Good.le (σ' := ⟨97, [(4, .str y4)], []⟩) (le_w [] rfl ⟨⟨_, rfl, .refl _⟩, trivial⟩ trivial (by decide)) ?_
    refine good_ret ?_
    obtain rfl := Option.some.inj h
    refine blockQ_ret ?_
    refine thenQ_ret ?_
    exact endQ_ret (h' := []) [] (.tmp rfl (.nil)) trivial (by decide) ⟨rfl, rfl⟩
  · try dsimp only at h
    refine g_op rfl (ValOk.op (v_assertN tabOk rfl rfl tkind80 rfl tzero80 tagg80 rfl rfl ?_)) 
    refine g_op rfl (ValOk.op (v_extract rfl rfl rfl ?_)) 
    refine g_op rfl (ValOk.op (v_extract rfl rfl rfl ?_)) 
    refine g_nil ?_
    refine hK4 _ ?_
    refine Good.le (σ' := ⟨97, [(1, _), (4, _), (19, _), (21, _), (22, _)], []⟩) (le_w [] rfl ⟨⟨_, rfl, .refl _⟩, ⟨⟨_, rfl, .refl _⟩, ⟨⟨_, rfl, .refl _⟩, ⟨⟨_, rfl, .refl _⟩, ⟨⟨_, rfl, .refl _⟩, trivial⟩⟩⟩⟩⟩ trivial (by decide)) ?_
    refine good_cond (b := false) rfl (fun hc => Bool.noConfusion hc) (fun hc => ?_)
    refine good_seq fun K21 hK21 => ?_
    refine good_region ?_
    refine g_op rfl (ValOk.op (v_assertN tabOk rfl rfl tkind82 rfl tzero82 tagg82 rfl rfl ?_)) 
    refine g_op rfl (ValOk.op (v_extract rfl rfl rfl ?_)) 
    refine g_op rfl (ValOk.op (v_extract rfl rfl rfl ?_)) 
    refine g_nil ?_
    refine hK21 _ ?_
    refine Good.le (σ' := ⟨97, [(1, _), (4, _), (19, _), (26, _), (27, _)], []⟩) (le_w [] rfl ⟨⟨_, rfl, .refl _⟩, ⟨⟨_, rfl, .refl _⟩, ⟨⟨_, rfl, .refl _⟩, ⟨⟨_, rfl, .refl _⟩, ⟨⟨_, rfl, .refl _⟩, trivial⟩⟩⟩⟩⟩ trivial (by decide)) ?_
    refine good_cond (b := false) rfl (fun hc => Bool.noConfusion hc) (fun hc => ?_)
    refine good_seq fun K22 hK22 => ?_
    refine good_region ?_
    refine g_op rfl (ValOk.op (v_assertN tabOk rfl rfl tkind83 rfl tzero83 tagg83 rfl rfl ?_)) 
    refine g_op rfl (ValOk.op (v_extract rfl rfl rfl ?_)) 
    refine g_op rfl (ValOk.op (v_extract rfl rfl rfl ?_)) 
    refine g_nil ?_
    refine hK22 _ ?_
    refine Good.le (σ' := ⟨97, [(1, _), (4, _), (19, _), (31, _), (32, _)], []⟩) (le_w [] rfl ⟨⟨_, rfl, .refl _⟩, ⟨⟨_, rfl, .refl _⟩, ⟨⟨_, rfl, .refl _⟩, ⟨⟨_, rfl, .refl _⟩, ⟨⟨_, rfl, .refl _⟩, trivial⟩⟩⟩⟩⟩ trivial (by decide)) ?_
    refine good_cond (b := false) rfl (fun hc => Bool.noConfusion hc) (fun hc => ?_)
    refine good_seq fun K23 hK23 => ?_
    refine good_region ?_
    refine g_op rfl (ValOk.op (v_assertY tabOk rfl tkind84 rfl rfl ?_)) 
    refine g_op rfl (ValOk.op (v_extract rfl rfl rfl ?_)) 
    refine g_op rfl (ValOk.op (v_extract rfl rfl rfl ?_)) 
    refine g_nil ?_
    refine hK23 _ ?_
    refine Good.le (σ' := ⟨97, [(1, _), (4, _), (19, _), (36, _), (37, _)], []⟩) (le_w [] rfl ⟨⟨_, rfl, .refl _⟩, ⟨⟨_, rfl, .refl _⟩, ⟨⟨_, rfl, .refl _⟩, ⟨⟨_, rfl, .refl _⟩, ⟨⟨_, rfl, .refl _⟩, trivial⟩⟩⟩⟩⟩ trivial (by decide)) ?_
    refine good_cond (b := true) rfl (fun hc => ?_) (fun hc => Bool.noConfusion hc)
    refine good_seq fun K24 hK24 => ?_
    refine good_region ?_
    refine g_op rfl (ValOk.op (v_assign rfl rfl ?_)) 
    refine g_nil ?_
    refine hK24 _ ?_
    refine Good.le (σ' := ⟨97, [(1, _), (4, _), (8, _)], []⟩) (le_w [] rfl ⟨⟨_, rfl, .refl _⟩, ⟨⟨_, rfl, .refl _⟩, ⟨⟨_, rfl, .refl _⟩, trivial⟩⟩⟩ trivial (by decide)) ?_
    refine good_seq fun K25 hK25 => ?_
    refine good_region ?_
    refine g_op rfl (o_buildSlice (k := 48) (rows := ([] : List Bs).map encS) tabOk telem24 tsize9 rfl rfl rfl rfl (by decide) (by decide) (by rw [tzero9]; rfl) rfl rfl rfl rfl rfl ?_)
    intro w1
    refine g_op rfl (ValOk.op (v_assign rfl rfl ?_)) 
    refine g_nil ?_
    refine hK25 _ ?_
    refine Good.le (σ' := ⟨97, [(1, _), (4, _), (8, _), (9, _)], [(48, (_, _))]⟩) (le_w [some 48] rfl ⟨⟨_, rfl, .refl _⟩, ⟨⟨_, rfl, .refl _⟩, ⟨⟨_, rfl, .refl _⟩, ⟨⟨_, rfl, .refl _⟩, trivial⟩⟩⟩⟩ ⟨⟨_, rfl, .refl _⟩, trivial⟩ (by decide)) ?_
    refine good_seq fun K26 hK26 => ?_
    refine good_seq fun K27 hK27 => ?_
    refine good_region ?_
    refine g_op rfl (ValOk.op (v_move rfl rfl ?_)) 
    refine g_op rfl (ValOk.op (v_lenM (l := v4) (f := encVal) tabOk rfl rfl telem84 rfl ?_)) 
    refine g_op rfl (ValOk.op (v_move rfl rfl ?_)) 
    refine g_nil ?_
    refine hK27 _ ?_
    refine Good.le (σ' := ⟨97, [(1, _), (4, _), (9, _), (39, _), (40, _), (41, _)], [(48, (_, _))]⟩) (le_w [some 48] rfl ⟨⟨_, rfl, .refl _⟩, ⟨⟨_, rfl, .refl _⟩, ⟨⟨_, rfl, .refl _⟩, ⟨⟨_, rfl, .refl _⟩, ⟨⟨_, rfl, .refl _⟩, ⟨⟨_, rfl, .refl _⟩, trivial⟩⟩⟩⟩⟩⟩ ⟨⟨_, rfl, .refl _⟩, trivial⟩ (by decide)) ?_
    obtain ⟨o1, ho1, hJ1⟩ := bnd h
    have hw1 : ∀ (s1 : (List Bs)) (w3 : Value), o1 = Lp.go s1 → ∀ σ', Le σ' ⟨97, [(4, .str []), (9, .hd 5601 w3)], [(5601, (w3, .osl 9 1 (s1.map encS)))]⟩ → K26 σ' := by
      intro s1 w3 e1 σ' hle1
      subst e1
      refine hK26 _ (Good.le hle1 ?_)
      replace h := hJ1
      refine good_seq fun K28 hK28 => ?_
      refine good_region ?_
      refine g_op rfl (ValOk.op (v_move rfl rfl ?_)) 
      obtain ⟨y5, hy5, h⟩ := bnd h
      refine g_op rfl (o_callR [5601] [(_, _)] (core_value rfl rfl) (m_strings_Join_ok s1 [44] _ hy5) ⟨⟨_, rfl, .osl (FrzLL.map fun _ _ => encS_frz _)⟩, trivial⟩ (.cons (.frz _ _ _ (.head _)) (.cons (.refl _) (.nil))) (.inr (.str _)) rfl ?_)
      obtain ⟨hb1, h⟩ := ifS h
      refine g_op rfl (ValOk.op (v_cat rfl rfl hb1 rfl ?_)) 
      obtain ⟨hb2, h⟩ := ifS h
      refine g_op rfl (ValOk.op (v_cat rfl rfl hb2 rfl ?_)) 
      refine g_op rfl (ValOk.op (v_assign rfl rfl ?_)) 
      refine g_nil ?_
      refine hK28 _ ?_
      refine Good.le (σ' := ⟨97, [(4, _)], []⟩) (le_w [] rfl ⟨⟨_, rfl, .refl _⟩, trivial⟩ trivial (by decide)) ?_
      refine Good.le (σ' := ⟨97, [(4, .str (([91] ++ y5) ++ [93]))], []⟩) (le_w [] rfl ⟨⟨_, rfl, .refl _⟩, trivial⟩ trivial (by decide)) ?_
      refine good_ret ?_
      obtain rfl := Option.some.inj h
      refine blockQ_ret ?_
      refine thenQ_ret ?_
      exact endQ_ret (h' := []) [] (.tmp rfl (.nil)) trivial (by decide) ⟨rfl, rfl⟩
    replace h := ho1
    refine good_block ?_
    refine good_loopf (fun p : ((List Bs) × Int × Value) => ⟨97, [(1, .clo (.func 45) []), (4, .str []), (9, .hd 5702 p.2.2), (39, .sl true (v4.map encVal)), (40, .int .i64 (v4.length : Int)), (41, .int .i64 p.2.1)], [(5702, (p.2.2, .osl 9 1 (p.1.map encS)))]⟩) (fun m p => m < k + 1 ∧ m_impl_writeValue_l1 m v4 p.1 p.2.1 = some o1) k (([] : List Bs), 0, w1) (le_w [some 48] rfl ⟨⟨_, rfl, .refl _⟩, ⟨⟨_, rfl, .refl _⟩, ⟨⟨_, rfl, .hd _ _ _⟩, ⟨⟨_, rfl, .refl _⟩, ⟨⟨_, rfl, .refl _⟩, ⟨⟨_, rfl, .refl _⟩, trivial⟩⟩⟩⟩⟩⟩ ⟨⟨_, rfl, .refl _⟩, trivial⟩ (by decide)) ⟨by omega, h⟩ ?_
    rintro m1 ⟨x1, x2, w2⟩ ⟨hm, h⟩
    replace h : m_impl_writeValue_l1 m1 v4 x1 x2 = some o1 := h
    refine Good.le (σ' := ⟨97, [(1, .clo (.func 45) []), (4, .str []), (9, .hd 5702 w2), (39, .sl true (v4.map encVal)), (40, .int .i64 (v4.length : Int)), (41, .int .i64 x2)], [(5702, (w2, .osl 9 1 (x1.map encS)))]⟩) (Le.refl _) ?_
    obtain ⟨m1, rfl⟩ : ∃ m', m1 = m' + 1 := by cases m1 with | zero => (rw [m_impl_writeValue_l1] at h; cases h) | succ m' => exact ⟨m', rfl⟩
    rw [m_impl_writeValue_l1] at h
    refine good_seq fun K29 hK29 => ?_
    refine good_region ?_
    refine g_op rfl (ValOk.op (v_bin rfl rfl rfl rfl ?_)) 
    refine g_nil ?_
    refine hK29 _ ?_
    refine good_seq fun K30 hK30 => ?_
    refine good_cond rfl (fun hc1 => ?_) (fun hc1 => ?_)
    · replace h := ifT h (dT hc1)
      refine good_skip ?_
      refine hK30 _ ?_
      refine Good.le (σ' := ⟨97, [(1, _), (4, _), (9, _), (39, _), (40, _), (41, _)], [(5702, (_, _))]⟩) (le_w [some 5702] rfl ⟨⟨_, rfl, .refl _⟩, ⟨⟨_, rfl, .refl _⟩, ⟨⟨_, rfl, .refl _⟩, ⟨⟨_, rfl, .refl _⟩, ⟨⟨_, rfl, .refl _⟩, ⟨⟨_, rfl, .refl _⟩, trivial⟩⟩⟩⟩⟩⟩ ⟨⟨_, rfl, .refl _⟩, trivial⟩ (by decide)) ?_
      refine good_seq fun K31 hK31 => ?_
      refine good_block ?_
      refine good_seq fun K32 hK32 => ?_
      refine good_region ?_
      obtain ⟨hb3, h⟩ := ifS h
      refine g_op rfl (ValOk.op (v_idxM tabOk rfl rfl telem84 tsize42 hb3 (encVal_eq _) rfl rfl ?_)) 
      refine g_op rfl (ValOk.op (v_loadE tabOk rfl tsize42 tagg42 rfl rfl rfl ?_)) 
      refine g_op rfl (o_alloc (k := 21) tabOk tzero42 rfl rfl ?_)
      intro b2
      refine g_op rfl (o_storeP tabOk (cs' := [.int .i64 ((ix v4 x2).kind), .int .i64 ((ix v4 x2).num), .str ((ix v4 x2).text), .sl true (((ix v4 x2).list).map encVal), .sl false (((ix v4 x2).names).map encS)]) rfl rfl tsize42 rfl rfl rfl (Nat.le_of_ble_eq_true rfl) rfl rfl rfl ?_)
      refine g_nil ?_
      refine hK32 _ ?_
      refine Good.le (σ' := ⟨97, [(1, _), (4, _), (9, _), (11, _), (39, _), (40, _), (41, _)], [(5702, (_, _)), (21, (_, _))]⟩) (le_w [some 5702, some 21] rfl ⟨⟨_, rfl, .refl _⟩, ⟨⟨_, rfl, .refl _⟩, ⟨⟨_, rfl, .refl _⟩, ⟨⟨_, rfl, .refl _⟩, ⟨⟨_, rfl, .refl _⟩, ⟨⟨_, rfl, .refl _⟩, ⟨⟨_, rfl, .refl _⟩, trivial⟩⟩⟩⟩⟩⟩⟩ ⟨⟨_, rfl, .refl _⟩, ⟨⟨_, rfl, .refl _⟩, trivial⟩⟩ (by decide)) ?_
      refine good_region ?_
      refine g_op rfl (ValOk.op (v_move rfl rfl ?_)) 
      refine g_op rfl (ValOk.op (v_loadP tabOk rfl rfl tsize42 tagg42 rfl rfl rfl rfl ?_)) 
      refine g_op rfl (ValOk.op (v_move rfl rfl ?_)) 
      obtain ⟨y6, hy6, h⟩ := bnd h
      refine g_op rfl (o_callTR [] [] (core_value rfl rfl) hct ((ih m1 (by omega)) (ix v4 x2) () _ hy6) trivial (.cons (.refl _) (.cons (.refl _) (.nil))) (.inl rfl) rfl ?_)
      refine g_op rfl (o_buildSlice (k := 59) (rows := [y6].map encS) tabOk telem24 tsize9 rfl rfl rfl rfl (by decide) (by decide) (by rw [tzero9]; rfl) rfl rfl rfl rfl rfl ?_)
      intro w4
      obtain ⟨hb4, h⟩ := ifS h
      refine g_op rfl (o_appendHM (q := 5702) (r := 59) (k := 60) (f := encS) tabOk ⟨_, rfl⟩ rfl ⟨_, rfl⟩ rfl rfl telem24 tsize9 tbytes9 tzero9 rfl (by decide) (by decide) encS_ok rfl rfl rfl hb4 ?_)
      intro w5
      refine g_op rfl (ValOk.op (v_assign rfl rfl ?_)) 
      refine g_nil ?_
      refine hK31 _ ?_
      refine Good.le (σ' := ⟨97, [(1, _), (4, _), (9, _), (39, _), (40, _), (41, _)], [(60, (_, _))]⟩) (le_w [some 60] rfl ⟨⟨_, rfl, .refl _⟩, ⟨⟨_, rfl, .refl _⟩, ⟨⟨_, rfl, .refl _⟩, ⟨⟨_, rfl, .refl _⟩, ⟨⟨_, rfl, .refl _⟩, ⟨⟨_, rfl, .refl _⟩, trivial⟩⟩⟩⟩⟩⟩ ⟨⟨_, rfl, .refl _⟩, trivial⟩ (by decide)) ?_
      refine good_region ?_
      refine g_op rfl (ValOk.op (v_bin rfl rfl rfl rfl ?_)) 
      refine g_op rfl (ValOk.op (v_move rfl rfl ?_)) 
      refine g_nil ?_
      exact round_mk m1 (x1 ++ [y6], IntKind.wrap .i64 (x2 + 1), w5) (Nat.lt_succ_self _) ⟨by omega, h⟩ (le_w [some 60] rfl ⟨⟨_, rfl, .refl _⟩, ⟨⟨_, rfl, .refl _⟩, ⟨⟨_, rfl, .hd _ _ _⟩, ⟨⟨_, rfl, .refl _⟩, ⟨⟨_, rfl, .refl _⟩, ⟨⟨_, rfl, .refl _⟩, trivial⟩⟩⟩⟩⟩⟩ ⟨⟨_, rfl, .refl _⟩, trivial⟩ (by decide))
    · replace h := ifF h (dF hc1)
      refine good_exit ?_
      exact hw1 x1 w2 (Option.some.inj h).symm _ (le_w [some 5702] rfl ⟨⟨_, rfl, .refl _⟩, ⟨⟨_, rfl, .hd _ _ _⟩, trivial⟩⟩ ⟨⟨_, rfl, .refl _⟩, trivial⟩ (by decide))
  · try dsimp only at h
    refine g_op rfl (ValOk.op (v_assertN tabOk rfl rfl tkind80 rfl tzero80 tagg80 rfl rfl ?_)) 
    refine g_op rfl (ValOk.op (v_extract rfl rfl rfl ?_)) 
    refine g_op rfl (ValOk.op (v_extract rfl rfl rfl ?_)) 
    refine g_nil ?_
    refine hK4 _ ?_
    refine Good.le (σ' := ⟨97, [(1, _), (4, _), (19, _), (21, _), (22, _)], []⟩) (le_w [] rfl ⟨⟨_, rfl, .refl _⟩, ⟨⟨_, rfl, .refl _⟩, ⟨⟨_, rfl, .refl _⟩, ⟨⟨_, rfl, .refl _⟩, ⟨⟨_, rfl, .refl _⟩, trivial⟩⟩⟩⟩⟩ trivial (by decide)) ?_
    refine good_cond (b := false) rfl (fun hc => Bool.noConfusion hc) (fun hc => ?_)
    refine good_seq fun K33 hK33 => ?_
    refine good_region ?_
    refine g_op rfl (ValOk.op (v_assertN tabOk rfl rfl tkind82 rfl tzero82 tagg82 rfl rfl ?_)) 
    refine g_op rfl (ValOk.op (v_extract rfl rfl rfl ?_)) 
    refine g_op rfl (ValOk.op (v_extract rfl rfl rfl ?_)) 
    refine g_nil ?_
    refine hK33 _ ?_
    refine Good.le (σ' := ⟨97, [(1, _), (4, _), (19, _), (26, _), (27, _)], []⟩) (le_w [] rfl ⟨⟨_, rfl, .refl _⟩, ⟨⟨_, rfl, .refl _⟩, ⟨⟨_, rfl, .refl _⟩, ⟨⟨_, rfl, .refl _⟩, ⟨⟨_, rfl, .refl _⟩, trivial⟩⟩⟩⟩⟩ trivial (by decide)) ?_
    refine good_cond (b := false) rfl (fun hc => Bool.noConfusion hc) (fun hc => ?_)
    refine good_seq fun K34 hK34 => ?_
    refine good_region ?_
    refine g_op rfl (ValOk.op (v_assertN tabOk rfl rfl tkind83 rfl tzero83 tagg83 rfl rfl ?_)) 
    refine g_op rfl (ValOk.op (v_extract rfl rfl rfl ?_)) 
    refine g_op rfl (ValOk.op (v_extract rfl rfl rfl ?_)) 
    refine g_nil ?_
    refine hK34 _ ?_
    refine Good.le (σ' := ⟨97, [(1, _), (4, _), (19, _), (31, _), (32, _)], []⟩) (le_w [] rfl ⟨⟨_, rfl, .refl _⟩, ⟨⟨_, rfl, .refl _⟩, ⟨⟨_, rfl, .refl _⟩, ⟨⟨_, rfl, .refl _⟩, ⟨⟨_, rfl, .refl _⟩, trivial⟩⟩⟩⟩⟩ trivial (by decide)) ?_
    refine good_cond (b := false) rfl (fun hc => Bool.noConfusion hc) (fun hc => ?_)
    refine good_seq fun K35 hK35 => ?_
    refine good_region ?_
    refine g_op rfl (ValOk.op (v_assertN tabOk rfl rfl tkind84 rfl tzero84 tagg84 rfl rfl ?_)) 
    refine g_op rfl (ValOk.op (v_extract rfl rfl rfl ?_)) 
    refine g_op rfl (ValOk.op (v_extract rfl rfl rfl ?_)) 
    refine g_nil ?_
    refine hK35 _ ?_
    refine Good.le (σ' := ⟨97, [(1, _), (4, _), (19, _), (36, _), (37, _)], []⟩) (le_w [] rfl ⟨⟨_, rfl, .refl _⟩, ⟨⟨_, rfl, .refl _⟩, ⟨⟨_, rfl, .refl _⟩, ⟨⟨_, rfl, .refl _⟩, ⟨⟨_, rfl, .refl _⟩, trivial⟩⟩⟩⟩⟩ trivial (by decide)) ?_
    refine good_cond (b := false) rfl (fun hc => Bool.noConfusion hc) (fun hc => ?_)
    refine good_seq fun K36 hK36 => ?_
    refine good_region ?_
    refine g_op rfl (ValOk.op (v_assertY tabOk rfl tkind87 rfl rfl ?_)) 
    refine g_op rfl (ValOk.op (v_extract rfl rfl rfl ?_)) 
    refine g_op rfl (ValOk.op (v_extract rfl rfl rfl ?_)) 
    refine g_nil ?_
    refine hK36 _ ?_
    refine Good.le (σ' := ⟨97, [(1, _), (4, _), (19, _), (57, _), (58, _)], []⟩) (le_w [] rfl ⟨⟨_, rfl, .refl _⟩, ⟨⟨_, rfl, .refl _⟩, ⟨⟨_, rfl, .refl _⟩, ⟨⟨_, rfl, .refl _⟩, ⟨⟨_, rfl, .refl _⟩, trivial⟩⟩⟩⟩⟩ trivial (by decide)) ?_
    refine good_cond (b := true) rfl (fun hc => ?_) (fun hc => Bool.noConfusion hc)
    refine good_seq fun K37 hK37 => ?_
    refine good_region ?_
    refine g_op rfl (o_alloc (k := 22) tabOk tzero87 rfl rfl ?_)
    intro b3
    refine g_op rfl (o_storeP tabOk (cs' := [.sl false (v5.names.map encS), .sl true (v5.list.map encVal)]) rfl rfl tsize87 rfl rfl rfl (Nat.le_of_ble_eq_true rfl) rfl rfl rfl ?_)
    refine g_nil ?_
    refine hK37 _ ?_
    refine Good.le (σ' := ⟨97, [(1, _), (4, _), (12, _)], [(22, (_, _))]⟩) (le_w [some 22] rfl ⟨⟨_, rfl, .refl _⟩, ⟨⟨_, rfl, .refl _⟩, ⟨⟨_, rfl, .refl _⟩, trivial⟩⟩⟩ ⟨⟨_, rfl, .refl _⟩, trivial⟩ (by decide)) ?_
    refine good_seq fun K38 hK38 => ?_
    refine good_region ?_
    refine g_op rfl (o_buildSlice (k := 69) (rows := ([] : List Bs).map encS) tabOk telem24 tsize9 rfl rfl rfl rfl (by decide) (by decide) (by rw [tzero9]; rfl) rfl rfl rfl rfl rfl ?_)
    intro w6
    refine g_op rfl (ValOk.op (v_assign rfl rfl ?_)) 
    refine g_nil ?_
    refine hK38 _ ?_
    refine Good.le (σ' := ⟨97, [(1, _), (4, _), (12, _), (13, _)], [(22, (_, _)), (69, (_, _))]⟩) (le_w [some 22, some 69] rfl ⟨⟨_, rfl, .refl _⟩, ⟨⟨_, rfl, .refl _⟩, ⟨⟨_, rfl, .refl _⟩, ⟨⟨_, rfl, .refl _⟩, trivial⟩⟩⟩⟩ ⟨⟨_, rfl, .refl _⟩, ⟨⟨_, rfl, .refl _⟩, trivial⟩⟩ (by decide)) ?_
    refine good_seq fun K39 hK39 => ?_
    refine good_seq fun K40 hK40 => ?_
    refine good_region ?_
    refine g_op rfl (ValOk.op (v_fieldP tabOk rfl tfoff87_1 rfl ?_)) 
    refine g_op rfl (ValOk.op (v_loadP tabOk rfl rfl tsize40 tagg40 rfl rfl rfl rfl ?_)) 
    refine g_op rfl (ValOk.op (v_lenM (l := v5.list) (f := encVal) tabOk rfl rfl telem40 rfl ?_)) 
    refine g_op rfl (ValOk.op (v_move rfl rfl ?_)) 
    refine g_nil ?_
    refine hK40 _ ?_
    refine Good.le (σ' := ⟨97, [(1, _), (4, _), (12, _), (13, _), (61, _), (62, _), (63, _)], [(22, (_, _)), (69, (_, _))]⟩) (le_w [some 22, some 69] rfl ⟨⟨_, rfl, .refl _⟩, ⟨⟨_, rfl, .refl _⟩, ⟨⟨_, rfl, .refl _⟩, ⟨⟨_, rfl, .refl _⟩, ⟨⟨_, rfl, .refl _⟩, ⟨⟨_, rfl, .refl _⟩, ⟨⟨_, rfl, .refl _⟩, trivial⟩⟩⟩⟩⟩⟩⟩ ⟨⟨_, rfl, .refl _⟩, ⟨⟨_, rfl, .refl _⟩, trivial⟩⟩ (by decide)) ?_
    obtain ⟨o2, ho2, hJ2⟩ := bnd h
    have hw2 : ∀ (s2 : (List Bs)) (w8 : Value), o2 = Lp.go s2 → ∀ σ', Le σ' ⟨97, [(4, .str []), (13, .hd 6804 w8)], [(6804, (w8, .osl 9 1 (s2.map encS)))]⟩ → K39 σ' := by
      intro s2 w8 e2 σ' hle2
      subst e2
      refine hK39 _ (Good.le hle2 ?_)
      replace h := hJ2
      refine good_seq fun K41 hK41 => ?_
      refine good_region ?_
      refine g_op rfl (ValOk.op (v_move rfl rfl ?_)) 
      obtain ⟨y7, hy7, h⟩ := bnd h
      refine g_op rfl (o_callR [6804] [(_, _)] (core_value rfl rfl) (m_strings_Join_ok s2 [44] _ hy7) ⟨⟨_, rfl, .osl (FrzLL.map fun _ _ => encS_frz _)⟩, trivial⟩ (.cons (.frz _ _ _ (.head _)) (.cons (.refl _) (.nil))) (.inr (.str _)) rfl ?_)
      obtain ⟨hb5, h⟩ := ifS h
      refine g_op rfl (ValOk.op (v_cat rfl rfl hb5 rfl ?_)) 
      obtain ⟨hb6, h⟩ := ifS h
      refine g_op rfl (ValOk.op (v_cat rfl rfl hb6 rfl ?_)) 
      refine g_op rfl (ValOk.op (v_assign rfl rfl ?_)) 
      refine g_nil ?_
      refine hK41 _ ?_
      refine Good.le (σ' := ⟨97, [(4, _)], []⟩) (le_w [] rfl ⟨⟨_, rfl, .refl _⟩, trivial⟩ trivial (by decide)) ?_
      refine Good.le (σ' := ⟨97, [(4, .str (([123] ++ y7) ++ [125]))], []⟩) (le_w [] rfl ⟨⟨_, rfl, .refl _⟩, trivial⟩ trivial (by decide)) ?_
      refine good_ret ?_
      obtain rfl := Option.some.inj h
      refine blockQ_ret ?_
      refine thenQ_ret ?_
      exact endQ_ret (h' := []) [] (.tmp rfl (.nil)) trivial (by decide) ⟨rfl, rfl⟩
    replace h := ho2
    refine good_block ?_
    refine good_loopf (fun p : ((List Bs) × Int × Value) => ⟨97, [(1, .clo (.func 45) []), (4, .str []), (12, .ptr 22 b3 0), (13, .hd 6805 p.2.2), (61, .sl true (v5.list.map encVal)), (62, .int .i64 (v5.list.length : Int)), (63, .int .i64 p.2.1)], [(22, ((.pointer (some ⟨b3, 0, none⟩)), .optr 87 [.sl false (v5.names.map encS), .sl true (v5.list.map encVal)])), (6805, (p.2.2, .osl 9 1 (p.1.map encS)))]⟩) (fun m p => m < k + 1 ∧ m_impl_writeValue_l2 m v5 p.1 p.2.1 = some o2) k (([] : List Bs), 0, w6) (le_w [some 22, some 69] rfl ⟨⟨_, rfl, .refl _⟩, ⟨⟨_, rfl, .refl _⟩, ⟨⟨_, rfl, .refl _⟩, ⟨⟨_, rfl, .hd _ _ _⟩, ⟨⟨_, rfl, .refl _⟩, ⟨⟨_, rfl, .refl _⟩, ⟨⟨_, rfl, .refl _⟩, trivial⟩⟩⟩⟩⟩⟩⟩ ⟨⟨_, rfl, .refl _⟩, ⟨⟨_, rfl, .refl _⟩, trivial⟩⟩ (by decide)) ⟨by omega, h⟩ ?_
    rintro m2 ⟨x3, x4, w7⟩ ⟨hm, h⟩
    replace h : m_impl_writeValue_l2 m2 v5 x3 x4 = some o2 := h
    refine Good.le (σ' := ⟨97, [(1, .clo (.func 45) []), (4, .str []), (12, .ptr 22 b3 0), (13, .hd 6805 w7), (61, .sl true (v5.list.map encVal)), (62, .int .i64 (v5.list.length : Int)), (63, .int .i64 x4)], [(22, ((.pointer (some ⟨b3, 0, none⟩)), .optr 87 [.sl false (v5.names.map encS), .sl true (v5.list.map encVal)])), (6805, (w7, .osl 9 1 (x3.map encS)))]⟩) (Le.refl _) ?_
    obtain ⟨m2, rfl⟩ : ∃ m', m2 = m' + 1 := by cases m2 with | zero => (rw [m_impl_writeValue_l2] at h; cases h) | succ m' => exact ⟨m', rfl⟩
    rw [m_impl_writeValue_l2] at h
    refine good_seq fun K42 hK42 => ?_
    refine good_region ?_
    refine g_op rfl (ValOk.op (v_bin rfl rfl rfl rfl ?_)) 
    refine g_nil ?_
    refine hK42 _ ?_
    refine good_seq fun K43 hK43 => ?_
    refine good_cond rfl (fun hc2 => ?_) (fun hc2 => ?_)
    · replace h := ifT h (dT hc2)
      refine good_skip ?_
      refine hK43 _ ?_
      refine Good.le (σ' := ⟨97, [(1, _), (4, _), (12, _), (13, _), (61, _), (62, _), (63, _)], [(22, (_, _)), (6805, (_, _))]⟩) (le_w [some 22, some 6805] rfl ⟨⟨_, rfl, .refl _⟩, ⟨⟨_, rfl, .refl _⟩, ⟨⟨_, rfl, .refl _⟩, ⟨⟨_, rfl, .refl _⟩, ⟨⟨_, rfl, .refl _⟩, ⟨⟨_, rfl, .refl _⟩, ⟨⟨_, rfl, .refl _⟩, trivial⟩⟩⟩⟩⟩⟩⟩ ⟨⟨_, rfl, .refl _⟩, ⟨⟨_, rfl, .refl _⟩, trivial⟩⟩ (by decide)) ?_
      refine good_seq fun K44 hK44 => ?_
      refine good_block ?_
      refine good_seq fun K45 hK45 => ?_
      refine good_region ?_
      refine g_op rfl (ValOk.op (v_move rfl rfl ?_)) 
      obtain ⟨hb7, h⟩ := ifS h
      refine g_op rfl (ValOk.op (v_idxM tabOk rfl rfl telem40 tsize42 hb7 (encVal_eq _) rfl rfl ?_)) 
      refine g_op rfl (ValOk.op (v_loadE tabOk rfl tsize42 tagg42 rfl rfl rfl ?_)) 
      refine g_op rfl (o_alloc (k := 25) tabOk tzero42 rfl rfl ?_)
      intro b4
      refine g_op rfl (ValOk.op (v_assign rfl rfl ?_)) 
      refine g_op rfl (o_storeP tabOk (cs' := [.int .i64 ((ix v5.list x4).kind), .int .i64 ((ix v5.list x4).num), .str ((ix v5.list x4).text), .sl true (((ix v5.list x4).list).map encVal), .sl false (((ix v5.list x4).names).map encS)]) rfl rfl tsize42 rfl rfl rfl (Nat.le_of_ble_eq_true rfl) rfl rfl rfl ?_)
      refine g_nil ?_
      refine hK45 _ ?_
      refine Good.le (σ' := ⟨97, [(1, _), (4, _), (12, _), (13, _), (14, _), (15, _), (61, _), (62, _), (63, _)], [(22, (_, _)), (6805, (_, _)), (25, (_, _))]⟩) (le_w [some 22, some 6805, some 25] rfl ⟨⟨_, rfl, .refl _⟩, ⟨⟨_, rfl, .refl _⟩, ⟨⟨_, rfl, .refl _⟩, ⟨⟨_, rfl, .refl _⟩, ⟨⟨_, rfl, .refl _⟩, ⟨⟨_, rfl, .refl _⟩, ⟨⟨_, rfl, .refl _⟩, ⟨⟨_, rfl, .refl _⟩, ⟨⟨_, rfl, .refl _⟩, trivial⟩⟩⟩⟩⟩⟩⟩⟩⟩ ⟨⟨_, rfl, .refl _⟩, ⟨⟨_, rfl, .refl _⟩, ⟨⟨_, rfl, .refl _⟩, trivial⟩⟩⟩ (by decide)) ?_
      obtain ⟨hb8, h⟩ := ifS h
      obtain ⟨y8, hy8, h⟩ := bnd h
      obtain ⟨hb9, h⟩ := ifS h
      obtain ⟨y9, hy9, h⟩ := bnd h
      obtain ⟨hb10, h⟩ := ifS h
      obtain ⟨hb11, h⟩ := ifS h
      refine good_anyM (by kernel_rfl) [⟨[], [13], [], [], [], []⟩, ⟨[], [1], [], [], [], []⟩, ⟨[], [12], [], [], [], []⟩, ⟨[2], [70], [22], [], [], []⟩, ⟨[], [14], [], [], [], []⟩, ⟨[2, 3, 4], [71, 72], [], [], [], []⟩, ⟨[2, 3, 4, 5], [73], [], [], [], []⟩, ⟨[1, 2, 3, 4, 5, 6], [69, 74], [], [], [], []⟩, ⟨[1, 2, 3, 4, 5, 6, 7], [75], [], [], [], []⟩, ⟨[], [15], [25], [], [], []⟩, ⟨[], [1], [], [], [], []⟩, ⟨[1, 2, 3, 4, 5, 6, 7, 9, 10], [77, 78], [], [], [], []⟩, ⟨[1, 2, 3, 4, 5, 6, 7, 8, 9, 10, 11], [76, 79], [], [], [], []⟩, ⟨[1, 2, 3, 4, 5, 6, 7, 8, 9, 10, 11, 12], [80], [], [], [], []⟩, ⟨[0, 1, 2, 3, 4, 5, 6, 7, 8, 9, 10, 11, 12, 13], [68, 81], [6805], [6805], [92], [92]⟩, ⟨[0, 1, 2, 3, 4, 5, 6, 7, 8, 9, 10, 11, 12, 13, 14], [82], [], [], [], [92]⟩] [some 68, some 69, some 70, some 71, some 72, some 73, some 74, some 75, some 76, some 77, some 78, some 79, some 80, some 81, some 82, some 13] 97 [(1, .clo (.func 45) []), (4, .str []), (12, .ptr 22 b3 0), (13, .hd 6805 w7), (14, .int .i64 x4), (15, .ptr 25 b4 0), (61, .sl true (v5.list.map encVal)), (62, .int .i64 (v5.list.length : Int)), (63, .int .i64 x4)] [(22, ((.pointer (some ⟨b3, 0, none⟩)), .optr 87 [.sl false (v5.names.map encS), .sl true (v5.list.map encVal)])), (6805, (w7, .osl 9 1 (x3.map encS))), (25, ((.pointer (some ⟨b4, 0, none⟩)), .optr 42 [.int .i64 ((ix v5.list x4).kind), .int .i64 ((ix v5.list x4).num), .str ((ix v5.list x4).text), .sl true (((ix v5.list x4).list).map encVal), .sl false (((ix v5.list x4).names).map encS)]))] (fun ν1 => [.hd 6805 w7, .clo (.func 45) [], .ptr 22 b3 0, .sl false (v5.names.map encS), .int .i64 x4, .eptr [.str (ix v5.names x4)], .str (ix v5.names x4), .str y8, .str (y8 ++ [58]), .agg [.int .i64 ((ix v5.list x4).kind), .int .i64 ((ix v5.list x4).num), .str ((ix v5.list x4).text), .sl true (((ix v5.list x4).list).map encVal), .sl false (((ix v5.list x4).names).map encS)], .clo (.func 45) [], .str y9, .str ((y8 ++ [58]) ++ y9), .sl false ([(y8 ++ [58]) ++ y9].map encS), .hd 92 (ν1 92), .hd 92 (ν1 92)]) (fun ν1 => [(92, ((ν1 92), .osl 9 1 ((x3 ++ ([(y8 ++ [58]) ++ y9] : (List Bs))).map encS)))]) [(92, [92]), (22, []), (6805, []), (25, [])] [92] [some 22, some 92] (fun ν1 => [(1, .clo (.func 45) []), (4, .str []), (12, .ptr 22 b3 0), (13, .hd 92 (ν1 92)), (61, .sl true (v5.list.map encVal)), (62, .int .i64 (v5.list.length : Int)), (63, .int .i64 x4)]) (fun ν1 => [(22, ((.pointer (some ⟨b3, 0, none⟩)), .optr 87 [.sl false (v5.names.map encS), .sl true (v5.list.map encVal)])), (92, ((ν1 92), .osl 9 1 ((x3 ++ ([(y8 ++ [58]) ++ y9] : (List Bs))).map encS)))]) (le_w [some 22, some 6805, some 25] rfl ⟨⟨_, rfl, .refl _⟩, ⟨⟨_, rfl, .refl _⟩, ⟨⟨_, rfl, .refl _⟩, ⟨⟨_, rfl, .refl _⟩, ⟨⟨_, rfl, .refl _⟩, ⟨⟨_, rfl, .refl _⟩, ⟨⟨_, rfl, .refl _⟩, ⟨⟨_, rfl, .refl _⟩, ⟨⟨_, rfl, .refl _⟩, trivial⟩⟩⟩⟩⟩⟩⟩⟩⟩ ⟨⟨_, rfl, .refl _⟩, ⟨⟨_, rfl, .refl _⟩, ⟨⟨_, rfl, .refl _⟩, trivial⟩⟩⟩ (by decide)) (by kernel_rfl) ⟨?_, ⟨?_, ⟨?_, ⟨?_, ⟨?_, ⟨?_, ⟨?_, ⟨?_, ⟨?_, ⟨?_, ⟨?_, ⟨?_, ⟨?_, ⟨?_, ⟨?_, ⟨?_, trivial⟩⟩⟩⟩⟩⟩⟩⟩⟩⟩⟩⟩⟩⟩⟩⟩ ⟨fun _ _ _ => rfl, ⟨fun _ _ _ => rfl, ⟨fun _ _ _ => rfl, ⟨fun _ _ _ => rfl, ⟨fun _ _ _ => rfl, ⟨fun _ _ _ => rfl, ⟨fun _ _ _ => rfl, ⟨fun _ _ _ => rfl, ⟨fun _ _ _ => rfl, ⟨fun _ _ _ => rfl, ⟨fun _ _ _ => rfl, ⟨fun _ _ _ => rfl, ⟨fun _ _ _ => rfl, ⟨fun _ _ _ => rfl, ⟨fun _ _ h => (congrArg (fun zz0 => (some (.hd 92 zz0) : Option AV)) (h 92 (by decide))), ⟨fun _ _ h => (congrArg (fun zz0 => (some (.hd 92 zz0) : Option AV)) (h 92 (by decide))), trivial⟩⟩⟩⟩⟩⟩⟩⟩⟩⟩⟩⟩⟩⟩⟩⟩ ⟨fun _ _ h => (congrArg (fun zz0 => (some (zz0, .osl 9 1 ((x3 ++ ([(y8 ++ [58]) ++ y9] : (List Bs))).map encS)) : Option (Value × AV))) (h 92 (by decide))), ⟨fun _ _ _ => rfl, ⟨fun _ _ _ => rfl, ⟨fun _ _ _ => rfl, trivial⟩⟩⟩⟩ (fun _ => rfl) (fun _ => rfl) (by kernel_rfl) (fun _ => ⟨⟨_, rfl, .refl _⟩, ⟨⟨_, rfl, .refl _⟩, ⟨⟨_, rfl, .refl _⟩, ⟨⟨_, rfl, .refl _⟩, ⟨⟨_, rfl, .refl _⟩, ⟨⟨_, rfl, .refl _⟩, ⟨⟨_, rfl, .refl _⟩, trivial⟩⟩⟩⟩⟩⟩⟩) (fun _ => ⟨⟨_, rfl, .refl _⟩, ⟨⟨_, rfl, .refl _⟩, trivial⟩⟩) (by kernel_rfl) (by decide) ?_
      · refine local_mk (fun ν1 => [(13, .hd 6805 w7)]) (fun ν1 => []) (fun _ => rfl) (fun _ => ⟨⟨_, rfl, .refl _, .refl _⟩, trivial⟩) (fun _ => rfl) (fun _ => trivial) ?_
        intro ν1 S H hS hfr
        refine st_op rfl (ValOk.op (v_move rfl rfl ?_)) 
        exact lp_v hS rfl rfl (fun _ => rfl)
      · refine local_mk (fun ν1 => [(1, .clo (.func 45) [])]) (fun ν1 => []) (fun _ => rfl) (fun _ => ⟨⟨_, rfl, .refl _, .refl _⟩, trivial⟩) (fun _ => rfl) (fun _ => trivial) ?_
        intro ν1 S H hS hfr
        refine st_op rfl (ValOk.op (v_move rfl rfl ?_)) 
        exact lp_v hS rfl rfl (fun _ => rfl)
      · refine local_mk (fun ν1 => [(12, .ptr 22 b3 0)]) (fun ν1 => []) (fun _ => rfl) (fun _ => ⟨⟨_, rfl, .refl _, .refl _⟩, trivial⟩) (fun _ => rfl) (fun _ => trivial) ?_
        intro ν1 S H hS hfr
        refine st_op rfl (ValOk.op (v_fieldP tabOk rfl tfoff87_0 rfl ?_)) 
        exact lp_v hS rfl rfl (fun _ => rfl)
      · refine local_mk (fun ν1 => [(70, .ptr 22 b3 0)]) (fun ν1 => [(22, ((.pointer (some ⟨b3, 0, none⟩)), .optr 87 [.sl false (v5.names.map encS), .sl true (v5.list.map encVal)]))]) (fun _ => rfl) (fun _ => ⟨⟨_, rfl, .refl _, .refl _⟩, trivial⟩) (fun _ => rfl) (fun _ => ⟨rfl, trivial⟩) ?_
        intro ν1 S H hS hfr
        refine st_op rfl (ValOk.op (v_loadP tabOk rfl rfl tsize24 tagg24 rfl rfl rfl rfl ?_)) 
        exact lp_v hS rfl rfl (fun _ => rfl)
      · refine local_mk (fun ν1 => [(14, .int .i64 x4)]) (fun ν1 => []) (fun _ => rfl) (fun _ => ⟨⟨_, rfl, .refl _, .refl _⟩, trivial⟩) (fun _ => rfl) (fun _ => trivial) ?_
        intro ν1 S H hS hfr
        refine st_op rfl (ValOk.op (v_move rfl rfl ?_)) 
        exact lp_v hS rfl rfl (fun _ => rfl)
      · refine local_mk (fun ν1 => [(71, .sl false (v5.names.map encS)), (72, .int .i64 x4)]) (fun ν1 => []) (fun _ => rfl) (fun _ => ⟨⟨_, rfl, .refl _, .refl _⟩, ⟨⟨_, rfl, .refl _, .refl _⟩, trivial⟩⟩) (fun _ => rfl) (fun _ => trivial) ?_
        intro ν1 S H hS hfr
        refine st_op rfl (ValOk.op (v_idxM tabOk rfl rfl telem24 tsize9 hb8 rfl rfl rfl ?_)) 
        exact lp_v hS rfl rfl (fun _ => rfl)
      · refine local_mk (fun ν1 => [(73, .eptr [.str (ix v5.names x4)])]) (fun ν1 => []) (fun _ => rfl) (fun _ => ⟨⟨_, rfl, .refl _, .refl _⟩, trivial⟩) (fun _ => rfl) (fun _ => trivial) ?_
        intro ν1 S H hS hfr
        refine st_op rfl (ValOk.op (v_loadE tabOk rfl tsize9 tagg9 rfl rfl rfl ?_)) 
        exact lp_v hS rfl rfl (fun _ => rfl)
      · refine local_mk (fun ν1 => [(69, .clo (.func 45) []), (74, .str (ix v5.names x4))]) (fun ν1 => []) (fun _ => rfl) (fun _ => ⟨⟨_, rfl, .refl _, .refl _⟩, ⟨⟨_, rfl, .refl _, .refl _⟩, trivial⟩⟩) (fun _ => rfl) (fun _ => trivial) ?_
        intro ν1 S H hS hfr
        refine st_op rfl (o_callR [] [] (core_value rfl rfl) (m_impl_quoteText_ok m2 (ix v5.names x4) _ hy8) trivial (.cons (.refl _) (.nil)) (.inl rfl) rfl ?_)
        exact lp_v hS rfl rfl (fun _ => rfl)
      · refine local_mk (fun ν1 => [(75, .str y8)]) (fun ν1 => []) (fun _ => rfl) (fun _ => ⟨⟨_, rfl, .refl _, .refl _⟩, trivial⟩) (fun _ => rfl) (fun _ => trivial) ?_
        intro ν1 S H hS hfr
        refine st_op rfl (ValOk.op (v_cat rfl rfl hb9 rfl ?_)) 
        exact lp_v hS rfl rfl (fun _ => rfl)
      · refine local_mk (fun ν1 => [(15, .ptr 25 b4 0)]) (fun ν1 => [(25, ((.pointer (some ⟨b4, 0, none⟩)), .optr 42 [.int .i64 ((ix v5.list x4).kind), .int .i64 ((ix v5.list x4).num), .str ((ix v5.list x4).text), .sl true (((ix v5.list x4).list).map encVal), .sl false (((ix v5.list x4).names).map encS)]))]) (fun _ => rfl) (fun _ => ⟨⟨_, rfl, .refl _, .refl _⟩, trivial⟩) (fun _ => rfl) (fun _ => ⟨rfl, trivial⟩) ?_
        intro ν1 S H hS hfr
        refine st_op rfl (ValOk.op (v_loadP tabOk rfl rfl tsize42 tagg42 rfl rfl rfl rfl ?_)) 
        exact lp_v hS rfl rfl (fun _ => rfl)
      · refine local_mk (fun ν1 => [(1, .clo (.func 45) [])]) (fun ν1 => []) (fun _ => rfl) (fun _ => ⟨⟨_, rfl, .refl _, .refl _⟩, trivial⟩) (fun _ => rfl) (fun _ => trivial) ?_
        intro ν1 S H hS hfr
        refine st_op rfl (ValOk.op (v_move rfl rfl ?_)) 
        exact lp_v hS rfl rfl (fun _ => rfl)
      · refine local_mk (fun ν1 => [(77, .agg [.int .i64 ((ix v5.list x4).kind), .int .i64 ((ix v5.list x4).num), .str ((ix v5.list x4).text), .sl true (((ix v5.list x4).list).map encVal), .sl false (((ix v5.list x4).names).map encS)]), (78, .clo (.func 45) [])]) (fun ν1 => []) (fun _ => rfl) (fun _ => ⟨⟨_, rfl, .refl _, .refl _⟩, ⟨⟨_, rfl, .refl _, .refl _⟩, trivial⟩⟩) (fun _ => rfl) (fun _ => trivial) ?_
        intro ν1 S H hS hfr
        refine st_op rfl (o_callTR [] [] (core_value rfl rfl) hct ((ih m2 (by omega)) (ix v5.list x4) () _ hy9) trivial (.cons (.refl _) (.cons (.refl _) (.nil))) (.inl rfl) rfl ?_)
        exact lp_v hS rfl rfl (fun _ => rfl)
      · refine local_mk (fun ν1 => [(76, .str (y8 ++ [58])), (79, .str y9)]) (fun ν1 => []) (fun _ => rfl) (fun _ => ⟨⟨_, rfl, .refl _, .refl _⟩, ⟨⟨_, rfl, .refl _, .refl _⟩, trivial⟩⟩) (fun _ => rfl) (fun _ => trivial) ?_
        intro ν1 S H hS hfr
        refine st_op rfl (ValOk.op (v_cat rfl rfl hb10 rfl ?_)) 
        exact lp_v hS rfl rfl (fun _ => rfl)
      · refine local_mk (fun ν1 => [(80, .str ((y8 ++ [58]) ++ y9))]) (fun ν1 => []) (fun _ => rfl) (fun _ => ⟨⟨_, rfl, .refl _, .refl _⟩, trivial⟩) (fun _ => rfl) (fun _ => trivial) ?_
        intro ν1 S H hS hfr
        obtain ⟨kf, hkf⟩ := exists_fresh ([] ++ H)
        refine st_op rfl (o_buildSlice (k := kf) (rows := [(y8 ++ [58]) ++ y9].map encS) tabOk telem24 tsize9 rfl rfl rfl rfl (by decide) (by decide) (by rw [tzero9]; rfl) rfl rfl rfl hkf rfl ?_)
        intro w
        exact lp_fn hS rfl rfl hkf (FrzLL.map fun _ _ => encS_frz _) (fun _ => rfl)
      · refine local_mk (fun ν1 => [(68, .hd 6805 w7), (81, .sl false ([(y8 ++ [58]) ++ y9].map encS))]) (fun ν1 => [(6805, (w7, .osl 9 1 (x3.map encS)))]) (fun _ => rfl) (fun _ => ⟨⟨_, rfl, .refl _, .refl _⟩, ⟨⟨_, rfl, .refl _, .refl _⟩, trivial⟩⟩) (fun _ => rfl) (fun _ => ⟨rfl, trivial⟩) ?_
        intro ν1 S H hS hfr
        refine st_op rfl (o_appendSM (q := 6805) (k := 92) (f := encS) (l2 := ([(y8 ++ [58]) ++ y9] : (List Bs))) tabOk ⟨_, rfl⟩ rfl rfl telem24 tsize9 tbytes9 tzero9 rfl (by decide) (by decide) encS_len encS_ok rfl (has_minus (hfr _ (by decide))) rfl hb11 ?_)
        intro w
        exact lp_m (k := 92) hS rfl rfl (.inl rfl) (fun _ => rfl) rfl
      · refine local_mk (fun ν1 => [(82, .hd 92 (ν1 92))]) (fun ν1 => []) (fun _ => rfl) (fun _ => ⟨⟨_, rfl, .refl _, .refl _⟩, trivial⟩) (fun _ => rfl) (fun _ => trivial) ?_
        intro ν1 S H hS hfr
        refine st_op rfl (ValOk.op (v_assign rfl rfl ?_)) 
        exact lp_v hS rfl rfl (fun _ => rfl)
      intro ν1
      refine hK44 _ ?_
      refine good_region ?_
      refine g_op rfl (ValOk.op (v_bin rfl rfl rfl rfl ?_)) 
      refine g_op rfl (ValOk.op (v_move rfl rfl ?_)) 
      refine g_nil ?_
      exact round_mk m2 (x3 ++ ([(y8 ++ [58]) ++ y9] : (List Bs)), IntKind.wrap .i64 (x4 + 1), (ν1 92)) (Nat.lt_succ_self _) ⟨by omega, h⟩ (le_w [some 22, some 92] rfl ⟨⟨_, rfl, .refl _⟩, ⟨⟨_, rfl, .refl _⟩, ⟨⟨_, rfl, .refl _⟩, ⟨⟨_, rfl, .hd _ _ _⟩, ⟨⟨_, rfl, .refl _⟩, ⟨⟨_, rfl, .refl _⟩, ⟨⟨_, rfl, .refl _⟩, trivial⟩⟩⟩⟩⟩⟩⟩ ⟨⟨_, rfl, .refl _⟩, ⟨⟨_, rfl, .refl _⟩, trivial⟩⟩ (by decide))
    · replace h := ifF h (dF hc2)
      refine good_exit ?_
      exact hw2 x3 w7 (Option.some.inj h).symm _ (le_w [some 6805] rfl ⟨⟨_, rfl, .refl _⟩, ⟨⟨_, rfl, .hd _ _ _⟩, trivial⟩⟩ ⟨⟨_, rfl, .refl _⟩, trivial⟩ (by decide))
  · try dsimp only at h
    refine g_op rfl (ValOk.op (v_assertN tabOk rfl rfl tkind80 rfl tzero80 tagg80 rfl rfl ?_)) 
    refine g_op rfl (ValOk.op (v_extract rfl rfl rfl ?_)) 
    refine g_op rfl (ValOk.op (v_extract rfl rfl rfl ?_)) 
    refine g_nil ?_
    refine hK4 _ ?_
    refine Good.le (σ' := ⟨97, [(1, _), (4, _), (19, _), (21, _), (22, _)], []⟩) (le_w [] rfl ⟨⟨_, rfl, .refl _⟩, ⟨⟨_, rfl, .refl _⟩, ⟨⟨_, rfl, .refl _⟩, ⟨⟨_, rfl, .refl _⟩, ⟨⟨_, rfl, .refl _⟩, trivial⟩⟩⟩⟩⟩ trivial (by decide)) ?_
    refine good_cond (b := false) rfl (fun hc => Bool.noConfusion hc) (fun hc => ?_)
    refine good_seq fun K46 hK46 => ?_
    refine good_region ?_
    refine g_op rfl (ValOk.op (v_assertN tabOk rfl rfl tkind82 rfl tzero82 tagg82 rfl rfl ?_)) 
    refine g_op rfl (ValOk.op (v_extract rfl rfl rfl ?_)) 
    refine g_op rfl (ValOk.op (v_extract rfl rfl rfl ?_)) 
    refine g_nil ?_
    refine hK46 _ ?_
    refine Good.le (σ' := ⟨97, [(1, _), (4, _), (19, _), (26, _), (27, _)], []⟩) (le_w [] rfl ⟨⟨_, rfl, .refl _⟩, ⟨⟨_, rfl, .refl _⟩, ⟨⟨_, rfl, .refl _⟩, ⟨⟨_, rfl, .refl _⟩, ⟨⟨_, rfl, .refl _⟩, trivial⟩⟩⟩⟩⟩ trivial (by decide)) ?_
    refine good_cond (b := false) rfl (fun hc => Bool.noConfusion hc) (fun hc => ?_)
    refine good_seq fun K47 hK47 => ?_
    refine good_region ?_
    refine g_op rfl (ValOk.op (v_assertN tabOk rfl rfl tkind83 rfl tzero83 tagg83 rfl rfl ?_)) 
    refine g_op rfl (ValOk.op (v_extract rfl rfl rfl ?_)) 
    refine g_op rfl (ValOk.op (v_extract rfl rfl rfl ?_)) 
    refine g_nil ?_
    refine hK47 _ ?_
    refine Good.le (σ' := ⟨97, [(1, _), (4, _), (19, _), (31, _), (32, _)], []⟩) (le_w [] rfl ⟨⟨_, rfl, .refl _⟩, ⟨⟨_, rfl, .refl _⟩, ⟨⟨_, rfl, .refl _⟩, ⟨⟨_, rfl, .refl _⟩, ⟨⟨_, rfl, .refl _⟩, trivial⟩⟩⟩⟩⟩ trivial (by decide)) ?_
    refine good_cond (b := false) rfl (fun hc => Bool.noConfusion hc) (fun hc => ?_)
    refine good_seq fun K48 hK48 => ?_
    refine good_region ?_
    refine g_op rfl (ValOk.op (v_assertN tabOk rfl rfl tkind84 rfl tzero84 tagg84 rfl rfl ?_)) 
    refine g_op rfl (ValOk.op (v_extract rfl rfl rfl ?_)) 
    refine g_op rfl (ValOk.op (v_extract rfl rfl rfl ?_)) 
    refine g_nil ?_
    refine hK48 _ ?_
    refine Good.le (σ' := ⟨97, [(1, _), (4, _), (19, _), (36, _), (37, _)], []⟩) (le_w [] rfl ⟨⟨_, rfl, .refl _⟩, ⟨⟨_, rfl, .refl _⟩, ⟨⟨_, rfl, .refl _⟩, ⟨⟨_, rfl, .refl _⟩, ⟨⟨_, rfl, .refl _⟩, trivial⟩⟩⟩⟩⟩ trivial (by decide)) ?_
    refine good_cond (b := false) rfl (fun hc => Bool.noConfusion hc) (fun hc => ?_)
    refine good_seq fun K49 hK49 => ?_
    refine good_region ?_
    refine g_op rfl (ValOk.op (v_assertN tabOk rfl rfl tkind87 rfl tzero87 tagg87 rfl rfl ?_)) 
    refine g_op rfl (ValOk.op (v_extract rfl rfl rfl ?_)) 
    refine g_op rfl (ValOk.op (v_extract rfl rfl rfl ?_)) 
    refine g_nil ?_
    refine hK49 _ ?_
    refine Good.le (σ' := ⟨97, [(1, _), (4, _), (19, _), (57, _), (58, _)], []⟩) (le_w [] rfl ⟨⟨_, rfl, .refl _⟩, ⟨⟨_, rfl, .refl _⟩, ⟨⟨_, rfl, .refl _⟩, ⟨⟨_, rfl, .refl _⟩, ⟨⟨_, rfl, .refl _⟩, trivial⟩⟩⟩⟩⟩ trivial (by decide)) ?_
    refine good_cond (b := false) rfl (fun hc => Bool.noConfusion hc) (fun hc => ?_)
    refine good_seq fun K50 hK50 => ?_
    refine good_region ?_
    refine g_op rfl (ValOk.op (v_assertY tabOk rfl tkind88 rfl rfl ?_)) 
    refine g_op rfl (ValOk.op (v_extract rfl rfl rfl ?_)) 
    refine g_op rfl (ValOk.op (v_extract rfl rfl rfl ?_)) 
    refine g_nil ?_
    refine hK50 _ ?_
    refine Good.le (σ' := ⟨97, [(4, _), (19, _), (89, _), (90, _)], []⟩) (le_w [] rfl ⟨⟨_, rfl, .refl _⟩, ⟨⟨_, rfl, .refl _⟩, ⟨⟨_, rfl, .refl _⟩, ⟨⟨_, rfl, .refl _⟩, trivial⟩⟩⟩⟩ trivial (by decide)) ?_
    refine good_cond (b := true) rfl (fun hc => ?_) (fun hc => Bool.noConfusion hc)
    refine good_seq fun K51 hK51 => ?_
    refine good_region ?_
    refine g_op rfl (ValOk.op (v_assign rfl rfl ?_)) 
    refine g_nil ?_
    refine hK51 _ ?_
    refine Good.le (σ' := ⟨97, [(4, _), (16, _)], []⟩) (le_w [] rfl ⟨⟨_, rfl, .refl _⟩, ⟨⟨_, rfl, .refl _⟩, trivial⟩⟩ trivial (by decide)) ?_
    refine good_seq fun K52 hK52 => ?_
    refine good_region ?_
    refine g_op rfl (ValOk.op (v_move rfl rfl ?_)) 
    obtain ⟨hb12, h⟩ := ifS h
    refine g_op rfl (ValOk.op (v_cat rfl rfl hb12 rfl ?_)) 
    refine g_op rfl (ValOk.op (v_assign rfl rfl ?_)) 
    refine g_nil ?_
    refine hK52 _ ?_
    refine Good.le (σ' := ⟨97, [(4, _)], []⟩) (le_w [] rfl ⟨⟨_, rfl, .refl _⟩, trivial⟩ trivial (by decide)) ?_
    refine Good.le (σ' := ⟨97, [(4, .str ([36] ++ v6))], []⟩) (le_w [] rfl ⟨⟨_, rfl, .refl _⟩, trivial⟩ trivial (by decide)) ?_
    refine good_ret ?_
    obtain rfl := Option.some.inj h
    refine blockQ_ret ?_
    refine thenQ_ret ?_
    exact endQ_ret (h' := []) [] (.tmp rfl (.nil)) trivial (by decide) ⟨rfl, rfl⟩
  · try dsimp only at h
    refine g_op rfl (ValOk.op (v_assertN tabOk rfl rfl tkind80 rfl tzero80 tagg80 rfl rfl ?_)) 
    refine g_op rfl (ValOk.op (v_extract rfl rfl rfl ?_)) 
    refine g_op rfl (ValOk.op (v_extract rfl rfl rfl ?_)) 
    refine g_nil ?_
    refine hK4 _ ?_
    refine Good.le (σ' := ⟨97, [(1, _), (4, _), (19, _), (21, _), (22, _)], []⟩) (le_w [] rfl ⟨⟨_, rfl, .refl _⟩, ⟨⟨_, rfl, .refl _⟩, ⟨⟨_, rfl, .refl _⟩, ⟨⟨_, rfl, .refl _⟩, ⟨⟨_, rfl, .refl _⟩, trivial⟩⟩⟩⟩⟩ trivial (by decide)) ?_
    refine good_cond (b := false) rfl (fun hc => Bool.noConfusion hc) (fun hc => ?_)
    refine good_seq fun K53 hK53 => ?_
    refine good_region ?_
    refine g_op rfl (ValOk.op (v_assertN tabOk rfl rfl tkind82 rfl tzero82 tagg82 rfl rfl ?_)) 
    refine g_op rfl (ValOk.op (v_extract rfl rfl rfl ?_)) 
    refine g_op rfl (ValOk.op (v_extract rfl rfl rfl ?_)) 
    refine g_nil ?_
    refine hK53 _ ?_
    refine Good.le (σ' := ⟨97, [(1, _), (4, _), (19, _), (26, _), (27, _)], []⟩) (le_w [] rfl ⟨⟨_, rfl, .refl _⟩, ⟨⟨_, rfl, .refl _⟩, ⟨⟨_, rfl, .refl _⟩, ⟨⟨_, rfl, .refl _⟩, ⟨⟨_, rfl, .refl _⟩, trivial⟩⟩⟩⟩⟩ trivial (by decide)) ?_
    refine good_cond (b := false) rfl (fun hc => Bool.noConfusion hc) (fun hc => ?_)
    refine good_seq fun K54 hK54 => ?_
    refine good_region ?_
    refine g_op rfl (ValOk.op (v_assertN tabOk rfl rfl tkind83 rfl tzero83 tagg83 rfl rfl ?_)) 
    refine g_op rfl (ValOk.op (v_extract rfl rfl rfl ?_)) 
    refine g_op rfl (ValOk.op (v_extract rfl rfl rfl ?_)) 
    refine g_nil ?_
    refine hK54 _ ?_
    refine Good.le (σ' := ⟨97, [(1, _), (4, _), (19, _), (31, _), (32, _)], []⟩) (le_w [] rfl ⟨⟨_, rfl, .refl _⟩, ⟨⟨_, rfl, .refl _⟩, ⟨⟨_, rfl, .refl _⟩, ⟨⟨_, rfl, .refl _⟩, ⟨⟨_, rfl, .refl _⟩, trivial⟩⟩⟩⟩⟩ trivial (by decide)) ?_
    refine good_cond (b := false) rfl (fun hc => Bool.noConfusion hc) (fun hc => ?_)
    refine good_seq fun K55 hK55 => ?_
    refine good_region ?_
    refine g_op rfl (ValOk.op (v_assertN tabOk rfl rfl tkind84 rfl tzero84 tagg84 rfl rfl ?_)) 
    refine g_op rfl (ValOk.op (v_extract rfl rfl rfl ?_)) 
    refine g_op rfl (ValOk.op (v_extract rfl rfl rfl ?_)) 
    refine g_nil ?_
    refine hK55 _ ?_
    refine Good.le (σ' := ⟨97, [(1, _), (4, _), (19, _), (36, _), (37, _)], []⟩) (le_w [] rfl ⟨⟨_, rfl, .refl _⟩, ⟨⟨_, rfl, .refl _⟩, ⟨⟨_, rfl, .refl _⟩, ⟨⟨_, rfl, .refl _⟩, ⟨⟨_, rfl, .refl _⟩, trivial⟩⟩⟩⟩⟩ trivial (by decide)) ?_
    refine good_cond (b := false) rfl (fun hc => Bool.noConfusion hc) (fun hc => ?_)
    refine good_seq fun K56 hK56 => ?_
    refine good_region ?_
    refine g_op rfl (ValOk.op (v_assertN tabOk rfl rfl tkind87 rfl tzero87 tagg87 rfl rfl ?_)) 
    refine g_op rfl (ValOk.op (v_extract rfl rfl rfl ?_)) 
    refine g_op rfl (ValOk.op (v_extract rfl rfl rfl ?_)) 
    refine g_nil ?_
    refine hK56 _ ?_
    refine Good.le (σ' := ⟨97, [(1, _), (4, _), (19, _), (57, _), (58, _)], []⟩) (le_w [] rfl ⟨⟨_, rfl, .refl _⟩, ⟨⟨_, rfl, .refl _⟩, ⟨⟨_, rfl, .refl _⟩, ⟨⟨_, rfl, .refl _⟩, ⟨⟨_, rfl, .refl _⟩, trivial⟩⟩⟩⟩⟩ trivial (by decide)) ?_
    refine good_cond (b := false) rfl (fun hc => Bool.noConfusion hc) (fun hc => ?_)
    refine good_seq fun K57 hK57 => ?_
    refine good_region ?_
    refine g_op rfl (ValOk.op (v_assertN tabOk rfl rfl tkind88 rfl tzero88 tagg88 rfl rfl ?_)) 
    refine g_op rfl (ValOk.op (v_extract rfl rfl rfl ?_)) 
    refine g_op rfl (ValOk.op (v_extract rfl rfl rfl ?_)) 
    refine g_nil ?_
    refine hK57 _ ?_
    refine Good.le (σ' := ⟨97, [(4, _), (19, _), (89, _), (90, _)], []⟩) (le_w [] rfl ⟨⟨_, rfl, .refl _⟩, ⟨⟨_, rfl, .refl _⟩, ⟨⟨_, rfl, .refl _⟩, ⟨⟨_, rfl, .refl _⟩, trivial⟩⟩⟩⟩ trivial (by decide)) ?_
    refine good_cond (b := false) rfl (fun hc => Bool.noConfusion hc) (fun hc => ?_)
    refine good_seq fun K58 hK58 => ?_
    refine good_region ?_
    refine g_op rfl (ValOk.op (v_assertY tabOk rfl tkind89 rfl rfl ?_)) 
    refine g_op rfl (ValOk.op (v_extract rfl rfl rfl ?_)) 
    refine g_op rfl (ValOk.op (v_extract rfl rfl rfl ?_)) 
    refine g_nil ?_
    refine hK58 _ ?_
    refine Good.le (σ' := ⟨97, [(4, _), (94, _), (95, _)], []⟩) (le_w [] rfl ⟨⟨_, rfl, .refl _⟩, ⟨⟨_, rfl, .refl _⟩, ⟨⟨_, rfl, .refl _⟩, trivial⟩⟩⟩ trivial (by decide)) ?_
    refine good_cond (b := true) rfl (fun hc => ?_) (fun hc => Bool.noConfusion hc)
    refine good_seq fun K59 hK59 => ?_
    refine good_region ?_
    refine g_op rfl (ValOk.op (v_assign rfl rfl ?_)) 
    refine g_nil ?_
    refine hK59 _ ?_
    refine Good.le (σ' := ⟨97, [(4, _), (17, _)], []⟩) (le_w [] rfl ⟨⟨_, rfl, .refl _⟩, ⟨⟨_, rfl, .refl _⟩, trivial⟩⟩ trivial (by decide)) ?_
    refine good_seq fun K60 hK60 => ?_
    refine good_region ?_
    refine g_op rfl (ValOk.op (v_move rfl rfl ?_)) 
    refine g_op rfl (ValOk.op (v_assign rfl rfl ?_)) 
    refine g_nil ?_
    refine hK60 _ ?_
    refine Good.le (σ' := ⟨97, [(4, _)], []⟩) (le_w [] rfl ⟨⟨_, rfl, .refl _⟩, trivial⟩ trivial (by decide)) ?_
    refine Good.le (σ' := ⟨97, [(4, .str v7)], []⟩) (le_w [] rfl ⟨⟨_, rfl, .refl _⟩, trivial⟩ trivial (by decide)) ?_
    refine good_ret ?_
    obtain rfl := Option.some.inj h
    refine blockQ_ret ?_
    refine thenQ_ret ?_
    exact endQ_ret (h' := []) [] (.tmp rfl (.nil)) trivial (by decide) ⟨rfl, rfl⟩
  · try dsimp only at h
    refine g_op rfl (ValOk.op (v_assertN tabOk rfl rfl tkind80 rfl tzero80 tagg80 rfl rfl ?_)) 
    refine g_op rfl (ValOk.op (v_extract rfl rfl rfl ?_)) 
    refine g_op rfl (ValOk.op (v_extract rfl rfl rfl ?_)) 
    refine g_nil ?_
    refine hK4 _ ?_
    refine Good.le (σ' := ⟨97, [(1, _), (4, _), (19, _), (21, _), (22, _)], []⟩) (le_w [] rfl ⟨⟨_, rfl, .refl _⟩, ⟨⟨_, rfl, .refl _⟩, ⟨⟨_, rfl, .refl _⟩, ⟨⟨_, rfl, .refl _⟩, ⟨⟨_, rfl, .refl _⟩, trivial⟩⟩⟩⟩⟩ trivial (by decide)) ?_
    refine good_cond (b := false) rfl (fun hc => Bool.noConfusion hc) (fun hc => ?_)
    refine good_seq fun K61 hK61 => ?_
    refine good_region ?_
    refine g_op rfl (ValOk.op (v_assertN tabOk rfl rfl tkind82 rfl tzero82 tagg82 rfl rfl ?_)) 
    refine g_op rfl (ValOk.op (v_extract rfl rfl rfl ?_)) 
    refine g_op rfl (ValOk.op (v_extract rfl rfl rfl ?_)) 
    refine g_nil ?_
    refine hK61 _ ?_
    refine Good.le (σ' := ⟨97, [(1, _), (4, _), (19, _), (26, _), (27, _)], []⟩) (le_w [] rfl ⟨⟨_, rfl, .refl _⟩, ⟨⟨_, rfl, .refl _⟩, ⟨⟨_, rfl, .refl _⟩, ⟨⟨_, rfl, .refl _⟩, ⟨⟨_, rfl, .refl _⟩, trivial⟩⟩⟩⟩⟩ trivial (by decide)) ?_
    refine good_cond (b := false) rfl (fun hc => Bool.noConfusion hc) (fun hc => ?_)
    refine good_seq fun K62 hK62 => ?_
    refine good_region ?_
    refine g_op rfl (ValOk.op (v_assertN tabOk rfl rfl tkind83 rfl tzero83 tagg83 rfl rfl ?_)) 
    refine g_op rfl (ValOk.op (v_extract rfl rfl rfl ?_)) 
    refine g_op rfl (ValOk.op (v_extract rfl rfl rfl ?_)) 
    refine g_nil ?_
    refine hK62 _ ?_
    refine Good.le (σ' := ⟨97, [(1, _), (4, _), (19, _), (31, _), (32, _)], []⟩) (le_w [] rfl ⟨⟨_, rfl, .refl _⟩, ⟨⟨_, rfl, .refl _⟩, ⟨⟨_, rfl, .refl _⟩, ⟨⟨_, rfl, .refl _⟩, ⟨⟨_, rfl, .refl _⟩, trivial⟩⟩⟩⟩⟩ trivial (by decide)) ?_
    refine good_cond (b := false) rfl (fun hc => Bool.noConfusion hc) (fun hc => ?_)
    refine good_seq fun K63 hK63 => ?_
    refine good_region ?_
    refine g_op rfl (ValOk.op (v_assertN tabOk rfl rfl tkind84 rfl tzero84 tagg84 rfl rfl ?_)) 
    refine g_op rfl (ValOk.op (v_extract rfl rfl rfl ?_)) 
    refine g_op rfl (ValOk.op (v_extract rfl rfl rfl ?_)) 
    refine g_nil ?_
    refine hK63 _ ?_
    refine Good.le (σ' := ⟨97, [(1, _), (4, _), (19, _), (36, _), (37, _)], []⟩) (le_w [] rfl ⟨⟨_, rfl, .refl _⟩, ⟨⟨_, rfl, .refl _⟩, ⟨⟨_, rfl, .refl _⟩, ⟨⟨_, rfl, .refl _⟩, ⟨⟨_, rfl, .refl _⟩, trivial⟩⟩⟩⟩⟩ trivial (by decide)) ?_
    refine good_cond (b := false) rfl (fun hc => Bool.noConfusion hc) (fun hc => ?_)
    refine good_seq fun K64 hK64 => ?_
    refine good_region ?_
    refine g_op rfl (ValOk.op (v_assertN tabOk rfl rfl tkind87 rfl tzero87 tagg87 rfl rfl ?_)) 
    refine g_op rfl (ValOk.op (v_extract rfl rfl rfl ?_)) 
    refine g_op rfl (ValOk.op (v_extract rfl rfl rfl ?_)) 
    refine g_nil ?_
    refine hK64 _ ?_
    refine Good.le (σ' := ⟨97, [(1, _), (4, _), (19, _), (57, _), (58, _)], []⟩) (le_w [] rfl ⟨⟨_, rfl, .refl _⟩, ⟨⟨_, rfl, .refl _⟩, ⟨⟨_, rfl, .refl _⟩, ⟨⟨_, rfl, .refl _⟩, ⟨⟨_, rfl, .refl _⟩, trivial⟩⟩⟩⟩⟩ trivial (by decide)) ?_
    refine good_cond (b := false) rfl (fun hc => Bool.noConfusion hc) (fun hc => ?_)
    refine good_seq fun K65 hK65 => ?_
    refine good_region ?_
    refine g_op rfl (ValOk.op (v_assertN tabOk rfl rfl tkind88 rfl tzero88 tagg88 rfl rfl ?_)) 
    refine g_op rfl (ValOk.op (v_extract rfl rfl rfl ?_)) 
    refine g_op rfl (ValOk.op (v_extract rfl rfl rfl ?_)) 
    refine g_nil ?_
    refine hK65 _ ?_
    refine Good.le (σ' := ⟨97, [(4, _), (19, _), (89, _), (90, _)], []⟩) (le_w [] rfl ⟨⟨_, rfl, .refl _⟩, ⟨⟨_, rfl, .refl _⟩, ⟨⟨_, rfl, .refl _⟩, ⟨⟨_, rfl, .refl _⟩, trivial⟩⟩⟩⟩ trivial (by decide)) ?_
    refine good_cond (b := false) rfl (fun hc => Bool.noConfusion hc) (fun hc => ?_)
    refine good_seq fun K66 hK66 => ?_
    refine good_region ?_
    refine g_op rfl (ValOk.op (v_assertN tabOk rfl rfl tkind89 rfl tzero89 tagg89 rfl rfl ?_)) 
    refine g_op rfl (ValOk.op (v_extract rfl rfl rfl ?_)) 
    refine g_op rfl (ValOk.op (v_extract rfl rfl rfl ?_)) 
    refine g_nil ?_
    refine hK66 _ ?_
    refine Good.le (σ' := ⟨97, [(4, _), (94, _), (95, _)], []⟩) (le_w [] rfl ⟨⟨_, rfl, .refl _⟩, ⟨⟨_, rfl, .refl _⟩, ⟨⟨_, rfl, .refl _⟩, trivial⟩⟩⟩ trivial (by decide)) ?_
    refine good_cond (b := false) rfl (fun hc => Bool.noConfusion hc) (fun hc => ?_)
    refine good_skip ?_
    refine hK2 _ ?_
    refine Good.le (σ' := ⟨97, [(4, _)], []⟩) (le_w [] rfl ⟨⟨_, rfl, .refl _⟩, trivial⟩ trivial (by decide)) ?_
    refine good_seq fun K67 hK67 => ?_
    refine good_region ?_
    refine g_op rfl (ValOk.op (v_assign rfl rfl ?_)) 
    refine g_nil ?_
    refine hK67 _ ?_
    refine Good.le (σ' := ⟨97, [(4, .str [110, 117, 108, 108])], []⟩) (le_w [] rfl ⟨⟨_, rfl, .refl _⟩, trivial⟩ trivial (by decide)) ?_
    refine good_ret ?_
    obtain rfl := Option.some.inj h
    exact endQ_ret (h' := []) [] (.tmp rfl (.nil)) trivial (by decide) ⟨rfl, rfl⟩
theorem m_impl_writeValue_all (k : Nat) : P_m_impl_writeValue k := by
  induction k using Nat.strongRecOn with
  | _ k ih => exact m_impl_writeValue_step k ih
theorem m_impl_writeValue_ok (k : Nat) : ∀ (a0 : Val) (a1 : Unit) (r : Bs), m_impl_writeValue k a0 a1 = some r → DoesT Tryd.prog 44 [.agg [.int .i64 a0.kind, .int .i64 a0.num, .str a0.text, .sl true (a0.list.map encVal), .sl false (a0.names.map encS)], .clo (.func 45) []] [] (ret (.str r)) := (m_impl_writeValue_all k)
def m_impl_JsonPut (k : Nat) (a0 : Val) : Option Bs :=
  (m_impl_ValueOk k a0).bind fun y1 =>
  if y1 = true then
    (m_impl_writeValue k a0 ()).bind fun y2 =>
    some y2
  else
    some []
theorem m_impl_JsonPut_ok (k : Nat) : ∀ (a0 : Val) (r : Bs), m_impl_JsonPut k a0 = some r → DoesT Tryd.prog 22 [.agg [.int .i64 a0.kind, .int .i64 a0.num, .str a0.text, .sl true (a0.list.map encVal), .sl false (a0.names.map encS)]] [] (ret (.str r)) := by
  intro a0 r h
  rw [m_impl_JsonPut] at h
  refine doesT_of_good tabOk Tryd.func22 rfl (by decide +kernel) (Nat.le_of_ble_eq_true rfl) fun c hct => ?_
  refine Good.le (σ' := ⟨8, [(0, .agg [.int .i64 a0.kind, .int .i64 a0.num, .str a0.text, .sl true (a0.list.map encVal), .sl false (a0.names.map encS)])], []⟩) (Le.refl _) ?_
  refine good_seq fun K1 hK1 => ?_
  refine good_region ?_
  refine g_op rfl (o_box (k := 11) tabOk rfl rfl rfl rfl rfl ?_)
  intro b1
  refine g_op rfl (ValOk.op (v_assign rfl rfl ?_)) 
  refine g_nil ?_
  refine hK1 _ ?_
  refine Good.le (σ' := ⟨8, [(1, _), (2, _)], [(11, (_, _))]⟩) (le_w [some 11] rfl ⟨⟨_, rfl, .refl _⟩, ⟨⟨_, rfl, .refl _⟩, trivial⟩⟩ ⟨⟨_, rfl, .refl _⟩, trivial⟩ (by decide)) ?_
  refine good_seq fun K2 hK2 => ?_
  refine good_seq fun K3 hK3 => ?_
  refine good_region ?_
  refine g_op rfl (ValOk.op (v_loadP tabOk rfl rfl tsize42 tagg42 rfl rfl rfl rfl ?_)) 
  obtain ⟨y1, hy1, h⟩ := bnd h
  refine g_op rfl (o_callR [] [] (core_value rfl rfl) (m_impl_ValueOk_ok k a0 _ hy1) trivial (.cons (.refl _) (.nil)) (.inl rfl) rfl ?_)
  refine g_op rfl (ValOk.op (v_not rfl rfl ?_)) 
  refine g_nil ?_
  refine hK3 _ ?_
  refine Good.le (σ' := ⟨8, [(1, _), (2, _), (5, _)], [(11, (_, _))]⟩) (le_w [some 11] rfl ⟨⟨_, rfl, .refl _⟩, ⟨⟨_, rfl, .refl _⟩, ⟨⟨_, rfl, .refl _⟩, trivial⟩⟩⟩ ⟨⟨_, rfl, .refl _⟩, trivial⟩ (by decide)) ?_
  refine good_cond rfl (fun hc1 => ?_) (fun hc1 => ?_)
  · replace h := bF h (nT hc1)
    refine good_seq fun K4 hK4 => ?_
    refine good_region ?_
    refine g_op rfl (ValOk.op (v_assign rfl rfl ?_)) 
    refine g_nil ?_
    refine hK4 _ ?_
    refine Good.le (σ' := ⟨8, [(1, _), (2, _)], [(11, (_, _))]⟩) (le_w [some 11] rfl ⟨⟨_, rfl, .refl _⟩, ⟨⟨_, rfl, .refl _⟩, trivial⟩⟩ ⟨⟨_, rfl, .refl _⟩, trivial⟩ (by decide)) ?_
    refine Good.le (σ' := ⟨8, [(2, .str [])], []⟩) (le_w [] rfl ⟨⟨_, rfl, .refl _⟩, trivial⟩ trivial (by decide)) ?_
    refine good_ret ?_
    obtain rfl := Option.some.inj h
    refine thenQ_ret ?_
    exact endQ_ret (h' := []) [] (.tmp rfl (.nil)) trivial (by decide) ⟨rfl, rfl⟩
  · replace h := ifT h (nF hc1)
    refine good_skip ?_
    refine hK2 _ ?_
    refine Good.le (σ' := ⟨8, [(1, _), (2, _)], [(11, (_, _))]⟩) (le_w [some 11] rfl ⟨⟨_, rfl, .refl _⟩, ⟨⟨_, rfl, .refl _⟩, trivial⟩⟩ ⟨⟨_, rfl, .refl _⟩, trivial⟩ (by decide)) ?_
    refine good_seq fun K5 hK5 => ?_
    refine good_region ?_
    refine g_op rfl (ValOk.op (v_loadP tabOk rfl rfl tsize42 tagg42 rfl rfl rfl rfl ?_)) 
    obtain ⟨y2, hy2, h⟩ := bnd h
    refine g_op rfl (o_callTR [] [] (core_value rfl rfl) hct (m_impl_writeValue_ok k a0 () _ hy2) trivial (.cons (.refl _) (.cons (.refl _) (.nil))) (.inl rfl) rfl ?_)
    refine g_op rfl (ValOk.op (v_assign rfl rfl ?_)) 
    refine g_nil ?_
    refine hK5 _ ?_
    refine Good.le (σ' := ⟨8, [(2, _)], []⟩) (le_w [] rfl ⟨⟨_, rfl, .refl _⟩, trivial⟩ trivial (by decide)) ?_
    refine Good.le (σ' := ⟨8, [(2, .str y2)], []⟩) (le_w [] rfl ⟨⟨_, rfl, .refl _⟩, trivial⟩ trivial (by decide)) ?_
    refine good_ret ?_
    obtain rfl := Option.some.inj h
    exact endQ_ret (h' := []) [] (.tmp rfl (.nil)) trivial (by decide) ⟨rfl, rfl⟩
end Go.Proofs.YtopbbjoflopjbaaDoor
