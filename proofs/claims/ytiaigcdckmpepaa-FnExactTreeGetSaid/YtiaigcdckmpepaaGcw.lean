/- What functions of this program answer, as plain functions; each theorem says that the code comes to just that. -/
import Derived.Test.YtiaigcdckmpepaaDat
import Derived.Test.YtiaigcdckmpepaaB13
import Derived.Test.YtiaigcdckmpepaaDatO
import Derived.Test.YtiaigcdckmpepaaB26
/-! Functions of the program. -/
set_option linter.unusedVariables false
set_option linter.unnecessarySimpa false
set_option maxRecDepth 100000
set_option maxHeartbeats 20000000
noncomputable section
namespace Go.Proofs.Ytiaigcdckmpepaa
open Go.Bb
def m_impl_spanOf (a0 : (List Val)) : Option (List Val) :=
  if (a0.length : Int) = 0 then
    some ([] : List Val)
  else
    if a0 ≠ [] then
      some a0
    else none
theorem m_impl_spanOf_ok : ∀ (a0 : (List Val)) (r : (List Val)), m_impl_spanOf a0 = some r → Does Try.prog 50 [.sl true (a0.map encVal)] [] (ret (.agg [.spt (r.map encVal), .int .i64 (r.length : Int)])) := by
  intro a0 r h
  rw [m_impl_spanOf] at h
  refine does_of_good tabOk Try.func50 rfl (by decide +kernel) (Nat.le_of_ble_eq_true rfl) fun c => ?_
  refine Good.le (σ' := ⟨12, [(0, .sl true (a0.map encVal))], []⟩) (Le.refl _) ?_
  refine good_seq fun K1 hK1 => ?_
  refine good_region ?_
  refine g_op rfl (o_alloc (k := 12) tabOk tzero62 rfl rfl ?_)
  intro b1
  refine g_nil ?_
  refine hK1 _ ?_
  refine good_seq fun K2 hK2 => ?_
  refine good_seq fun K3 hK3 => ?_
  refine good_region ?_
  refine g_op rfl (ValOk.op (v_move rfl rfl ?_)) 
  refine g_op rfl (ValOk.op (v_lenM (l := a0) (f := encVal) tabOk rfl rfl telem28 rfl ?_)) 
  refine g_op rfl (ValOk.op (v_bin rfl rfl rfl rfl ?_)) 
  refine g_nil ?_
  refine hK3 _ ?_
  refine Good.le (σ' := ⟨12, [(0, _), (2, _), (5, _)], [(12, (_, _))]⟩) (le_w [some 12] rfl ⟨⟨_, rfl, .refl _⟩, ⟨⟨_, rfl, .refl _⟩, ⟨⟨_, rfl, .refl _⟩, trivial⟩⟩⟩ ⟨⟨_, rfl, .refl _⟩, trivial⟩ (by decide)) ?_
  refine good_cond rfl (fun hc1 => ?_) (fun hc1 => ?_)
  · replace h := ifT h (dT hc1)
    refine good_seq fun K4 hK4 => ?_
    refine good_region ?_
    refine g_op rfl (ValOk.op (v_buildW tabOk (cs := [.raw (.pointer none), .int .i64 0]) tzero62 tsok62 rfl rfl (.agg (.cons .sptnil (.cons (.refl _) .nil))) rfl ?_)) 
    refine g_op rfl (o_storeP tabOk (cs' := [.spt (([] : List Val).map encVal), .int .i64 0]) rfl rfl tsize62 rfl rfl rfl (Nat.le_of_ble_eq_true rfl) rfl rfl rfl ?_)
    refine g_nil ?_
    refine hK4 _ ?_
    refine Good.le (σ' := ⟨12, [(0, _), (2, _)], [(12, (_, _))]⟩) (le_w [some 12] rfl ⟨⟨_, rfl, .refl _⟩, ⟨⟨_, rfl, .refl _⟩, trivial⟩⟩ ⟨⟨_, rfl, .refl _⟩, trivial⟩ (by decide)) ?_
    refine Good.le (σ' := ⟨12, [(2, .ptr 12 b1 0)], [(12, ((.pointer (some ⟨b1, 0, none⟩)), .optr 62 [.spt (([] : List Val).map encVal), .int .i64 0]))]⟩) (le_w [some 12] rfl ⟨⟨_, rfl, .refl _⟩, trivial⟩ ⟨⟨_, rfl, .refl _⟩, trivial⟩ (by decide)) ?_
    refine good_ret ?_
    obtain rfl := Option.some.inj h
    refine thenQ_ret ?_
    exact endQ_ret (h' := []) [] (.cell rfl rfl tsize62 tagg62 rfl rfl rfl (.nil)) trivial (by decide) ⟨rfl, rfl⟩
  · replace h := ifF h (dF hc1)
    refine good_skip ?_
    refine hK2 _ ?_
    refine Good.le (σ' := ⟨12, [(0, _), (2, _)], [(12, (_, _))]⟩) (le_w [some 12] rfl ⟨⟨_, rfl, .refl _⟩, ⟨⟨_, rfl, .refl _⟩, trivial⟩⟩ ⟨⟨_, rfl, .refl _⟩, trivial⟩ (by decide)) ?_
    refine good_seq fun K5 hK5 => ?_
    refine good_region ?_
    refine g_op rfl (ValOk.op (v_move rfl rfl ?_)) 
    obtain ⟨hb1, h⟩ := ifS h
    refine g_op rfl (ValOk.op (v_idx0 tabOk rfl rfl telem28 tsize30 (by simpa using hb1) rfl ?_)) 
    refine g_op rfl (ValOk.op (v_move rfl rfl ?_)) 
    refine g_op rfl (ValOk.op (v_lenM (l := a0) (f := encVal) tabOk rfl rfl telem28 rfl ?_)) 
    refine g_op rfl (ValOk.op (v_build tabOk (cs := [.spt (a0.map encVal), .int .i64 (a0.length : Int)]) tzero62 tsok62 rfl rfl rfl ?_)) 
    refine g_op rfl (o_storeP tabOk (cs' := [.spt (a0.map encVal), .int .i64 (a0.length : Int)]) rfl rfl tsize62 rfl rfl rfl (Nat.le_of_ble_eq_true rfl) rfl rfl rfl ?_)
    refine g_nil ?_
    refine hK5 _ ?_
    refine Good.le (σ' := ⟨12, [(2, _)], [(12, (_, _))]⟩) (le_w [some 12] rfl ⟨⟨_, rfl, .refl _⟩, trivial⟩ ⟨⟨_, rfl, .refl _⟩, trivial⟩ (by decide)) ?_
    refine Good.le (σ' := ⟨12, [(2, .ptr 12 b1 0)], [(12, ((.pointer (some ⟨b1, 0, none⟩)), .optr 62 [.spt (a0.map encVal), .int .i64 (a0.length : Int)]))]⟩) (le_w [some 12] rfl ⟨⟨_, rfl, .refl _⟩, trivial⟩ ⟨⟨_, rfl, .refl _⟩, trivial⟩ (by decide)) ?_
    refine good_ret ?_
    obtain rfl := Option.some.inj h
    exact endQ_ret (h' := []) [] (.cell rfl rfl tsize62 tagg62 rfl rfl rfl (.nil)) trivial (by decide) ⟨rfl, rfl⟩
def m_impl_copyTexts (a0 : (List Bs)) : Option (List Bs) :=
  if (a0.length : Int) = 0 then
    some ([] : List Bs)
  else
    if (0 : Int) ≤ (a0.length : Int) ∧ 16 * (a0.length : Int) ≤ (281474976710656 : Int) then
      if (a0.length : Int) ≤ (9223372036854775807 : Int) then
        if (List.replicate (Int.toNat (a0.length : Int)) ([] : Bs)).length = a0.length ∧ a0 ≠ [] then
          some a0
        else none
      else none
    else none
theorem m_impl_copyTexts_ok : ∀ (a0 : (List Bs)) (r : (List Bs)), m_impl_copyTexts a0 = some r → Does Try.prog 99 [.sl false (a0.map encS)] [] (fun q h' => ∃ u0 : Value, q = .hd 100 u0 ∧ h' = [(100, (u0, .osl 9 1 (r.map encS)))]) := by
  intro a0 r h
  rw [m_impl_copyTexts] at h
  refine does_of_good tabOk Try.func99 rfl (by decide +kernel) (Nat.le_of_ble_eq_true rfl) fun c => ?_
  refine Good.le (σ' := ⟨14, [(0, .sl false (a0.map encS))], []⟩) (Le.refl _) ?_
  refine good_seq fun K1 hK1 => ?_
  refine good_region ?_
  refine g_op rfl (ValOk.op (v_assign rfl rfl ?_)) 
  refine g_nil ?_
  refine hK1 _ ?_
  refine good_seq fun K2 hK2 => ?_
  refine good_seq fun K3 hK3 => ?_
  refine good_region ?_
  refine g_op rfl (ValOk.op (v_move rfl rfl ?_)) 
  refine g_op rfl (ValOk.op (v_lenM (l := a0) (f := encS) tabOk rfl rfl telem23 rfl ?_)) 
  refine g_op rfl (ValOk.op (v_bin rfl rfl rfl rfl ?_)) 
  refine g_nil ?_
  refine hK3 _ ?_
  refine Good.le (σ' := ⟨14, [(0, _), (2, _), (6, _)], []⟩) (le_w [] rfl ⟨⟨_, rfl, .refl _⟩, ⟨⟨_, rfl, .refl _⟩, ⟨⟨_, rfl, .refl _⟩, trivial⟩⟩⟩ trivial (by decide)) ?_
  refine good_cond rfl (fun hc1 => ?_) (fun hc1 => ?_)
  · replace h := ifT h (dT hc1)
    refine good_seq fun K4 hK4 => ?_
    refine good_region ?_
    refine g_op rfl (ValOk.op (v_assign rfl rfl ?_)) 
    refine g_nil ?_
    refine hK4 _ ?_
    refine Good.le (σ' := ⟨14, [(0, _), (2, _)], []⟩) (le_w [] rfl ⟨⟨_, rfl, .refl _⟩, ⟨⟨_, rfl, .refl _⟩, trivial⟩⟩ trivial (by decide)) ?_
    refine Good.le (σ' := ⟨14, [(2, .hd 100 nilV)], [(100, (nilV, .osl 9 1 (([] : List Bs).map encS)))]⟩) (le_w [none] rfl ⟨⟨_, rfl, .nilhd _⟩, trivial⟩ ⟨⟨rfl, _, _, rfl⟩, trivial⟩ (by decide)) ?_
    refine good_ret ?_
    obtain rfl := Option.some.inj h
    refine thenQ_ret ?_
    exact endQ_ret (h' := [(100, (_, _))]) [some 100] (.tmp rfl (.nil)) ⟨⟨_, rfl, .refl _⟩, trivial⟩ (by decide) ⟨nilV, rfl, rfl⟩
  · replace h := ifF h (dF hc1)
    refine good_skip ?_
    refine hK2 _ ?_
    refine Good.le (σ' := ⟨14, [(0, _), (2, _)], []⟩) (le_w [] rfl ⟨⟨_, rfl, .refl _⟩, ⟨⟨_, rfl, .refl _⟩, trivial⟩⟩ trivial (by decide)) ?_
    refine good_seq fun K5 hK5 => ?_
    refine good_region ?_
    refine g_op rfl (ValOk.op (v_move rfl rfl ?_)) 
    refine g_op rfl (ValOk.op (v_lenM (l := a0) (f := encS) tabOk rfl rfl telem23 rfl ?_)) 
    obtain ⟨hb1, h⟩ := ifS h
    obtain ⟨hb2, h⟩ := ifS h
    refine g_op rfl (o_makeM (k := 19) (zz := (([] : Bs))) (f := encS) tabOk telem23 tsize9 tbytes9 tzero9 rfl rfl rfl (by decide) (WkL.refl _) rfl rfl hb1 hb2 ?_)
    intro w1
    refine g_op rfl (ValOk.op (v_assign rfl rfl ?_)) 
    refine g_nil ?_
    refine hK5 _ ?_
    refine Good.le (σ' := ⟨14, [(0, _), (2, _), (3, _)], [(19, (_, _))]⟩) (le_w [some 19] rfl ⟨⟨_, rfl, .refl _⟩, ⟨⟨_, rfl, .refl _⟩, ⟨⟨_, rfl, .refl _⟩, trivial⟩⟩⟩ ⟨⟨_, rfl, .refl _⟩, trivial⟩ (by decide)) ?_
    refine good_seq fun K6 hK6 => ?_
    refine good_region ?_
    refine g_op rfl (ValOk.op (v_move rfl rfl ?_)) 
    refine g_op rfl (ValOk.op (v_move rfl rfl ?_)) 
    obtain ⟨hb3, h⟩ := ifS h
    refine g_op rfl (o_copyS (q := 19) (l := a0) tabOk ⟨_, rfl⟩ rfl rfl telem23 tsize9 (by simpa using hb3.1) hb3.2 rfl ?_)
    refine g_nil ?_
    refine hK6 _ ?_
    refine Good.le (σ' := ⟨14, [(2, _), (3, _)], [(19, (_, _))]⟩) (le_w [some 19] rfl ⟨⟨_, rfl, .refl _⟩, ⟨⟨_, rfl, .refl _⟩, trivial⟩⟩ ⟨⟨_, rfl, .refl _⟩, trivial⟩ (by decide)) ?_
    refine good_seq fun K7 hK7 => ?_
    refine good_region ?_
    refine g_op rfl (ValOk.op (v_move rfl rfl ?_)) 
    refine g_op rfl (ValOk.op (v_assign rfl rfl ?_)) 
    refine g_nil ?_
    refine hK7 _ ?_
    refine Good.le (σ' := ⟨14, [(2, _)], [(19, (_, _))]⟩) (le_w [some 19] rfl ⟨⟨_, rfl, .refl _⟩, trivial⟩ ⟨⟨_, rfl, .refl _⟩, trivial⟩ (by decide)) ?_
    refine Good.le (σ' := ⟨14, [(2, .hd 100 w1)], [(100, (w1, .osl 9 1 (a0.map encS)))]⟩) (le_w [some 19] rfl ⟨⟨_, rfl, .hd _ _ _⟩, trivial⟩ ⟨⟨_, rfl, .refl _⟩, trivial⟩ (by decide)) ?_
    refine good_ret ?_
    obtain rfl := Option.some.inj h
    exact endQ_ret (h' := [(100, (_, _))]) [some 100] (.tmp rfl (.nil)) ⟨⟨_, rfl, .refl _⟩, trivial⟩ (by decide) ⟨w1, rfl, rfl⟩
theorem m_impl_copyTexts_okF : ∀ (a0 : (List Bs)) (r : (List Bs)), m_impl_copyTexts a0 = some r → Does Try.prog 99 [.sl false (a0.map encS)] [] (ret (.sl false (r.map encS))) := by
  intro a0 r h
  refine does_frz (m_impl_copyTexts_ok a0 r h) ?_
  rintro q h' ⟨u0, rfl, rfl⟩
  exact ⟨[100], [(_, _)], ⟨⟨_, rfl, .osl (FrzLL.map fun _ _ => encS_frz _)⟩, trivial⟩, .frz _ _ _ (.head _)⟩
mutual
def m_impl_copyWithin_l2 : Nat → Val → (List (List Val)) → (List Val) → (List Val) → Int → Option (Lp (List Val) Val)
  | 0, _, _, _, _, _ => none
  | k + 1, a0, a1, y2, x2, x3 =>
    if x3 < (a0.list.length : Int) then
      if (0 : Int) ≤ x3 ∧ x3 < (a0.list.length : Int) then
        (m_impl_copyWithin k (ix a0.list x3) (y2 :: a1)).bind fun y3 =>
        if (0 : Int) ≤ x3 ∧ x3 < (x2.length : Int) then
          m_impl_copyWithin_l2 k a0 a1 y2 (x2.set (Int.toNat x3) y3) (IntKind.wrap .i64 (x3 + 1))
        else none
      else none
    else
      some (Lp.go x2)
def m_impl_copyWithin_l1 : Nat → (List Val) → (List (List Val)) → Option (Lp Unit Val)
  | 0, _, _ => none
  | k + 1, y2, x1 =>
    if x1 = [] then
      some (Lp.go ())
    else
      if x1 ≠ [] then
        if (x1.headD []) ≠ y2 then
          if x1 ≠ [] then
            m_impl_copyWithin_l1 k y2 x1.tail
          else none
        else none
      else none
def m_impl_copyWithin : Nat → Val → (List (List Val)) → Option Val
  | 0, _, _ => none
  | k + 1, a0, a1 =>
    (m_impl_copyTexts a0.names).bind fun y1 =>
    if (a0.list.length : Int) = 0 then
      some (Val.mk a0.kind a0.num a0.text ([] : List Val) y1)
    else
      (m_impl_spanOf a0.list).bind fun y2 =>
      (m_impl_copyWithin_l1 k y2 a1).bind fun o1 =>
      o1.then fun s1 =>
    if (0 : Int) ≤ (a0.list.length : Int) ∧ 80 * (a0.list.length : Int) ≤ (281474976710656 : Int) then
      if (a0.list.length : Int) ≤ (9223372036854775807 : Int) then
        (m_impl_copyWithin_l2 k a0 a1 y2 (List.replicate (Int.toNat (a0.list.length : Int)) (Val.mk 0 0 ([] : Bs) [] [])) 0).bind fun o2 =>
        o2.then fun s2 =>
    some (Val.mk a0.kind a0.num a0.text s2 y1)
      else none
    else none
end
def P_m_impl_copyWithin (k : Nat) : Prop := ∀ (a0 : Val) (a1 : (List (List Val))) (r : Val), m_impl_copyWithin k a0 a1 = some r → Does Try.prog 85 [.agg [.int .i64 a0.kind, .int .i64 a0.num, .str a0.text, .sl true (a0.list.map encVal), .sl false (a0.names.map encS)], (encChain a1)] [] (fun q h' => ∃ u0 : Value, ∃ u1 : Value, q = .agg [.int .i64 r.kind, .int .i64 r.num, .str r.text, .hd 100 u0, .hd 101 u1] ∧ h' = [(100, (u0, .osl 30 5 (r.list.map encOVal))), (101, (u1, .osl 9 1 (r.names.map encS)))])
theorem m_impl_copyWithin_step (k : Nat) (ih : ∀ m, m < k → P_m_impl_copyWithin m) : P_m_impl_copyWithin k := by
  intro a0 a1 r h
  obtain ⟨k, rfl⟩ : ∃ k', k = k' + 1 := by cases k with | zero => (rw [m_impl_copyWithin] at h; cases h) | succ k' => exact ⟨k', rfl⟩
  rw [m_impl_copyWithin] at h
  refine does_of_good tabOk Try.func85 rfl (by decide +kernel) (Nat.le_of_ble_eq_true rfl) fun c => ?_
  refine Good.le (σ' := ⟨76, [(0, .agg [.int .i64 a0.kind, .int .i64 a0.num, .str a0.text, .sl true (a0.list.map encVal), .sl false (a0.names.map encS)]), (1, (encChain a1))], []⟩) (Le.refl _) ?_
  refine good_seq fun K1 hK1 => ?_
  refine good_region ?_
  refine g_op rfl (o_box (k := 12) tabOk rfl rfl rfl rfl rfl ?_)
  intro b1
  refine g_op rfl (o_alloc (k := 14) tabOk tzero30 rfl rfl ?_)
  intro b2
  refine g_nil ?_
  refine hK1 _ ?_
  refine Good.le (σ' := ⟨76, [(1, _), (2, _), (4, _)], [(12, (_, _)), (14, (_, _))]⟩) (le_w [some 12, some 14] rfl ⟨⟨_, rfl, .refl _⟩, ⟨⟨_, rfl, .refl _⟩, ⟨⟨_, rfl, .refl _⟩, trivial⟩⟩⟩ ⟨⟨_, rfl, .refl _⟩, ⟨⟨_, rfl, .refl _⟩, trivial⟩⟩ (by decide)) ?_
  refine good_seq fun K2 hK2 => ?_
  obtain ⟨y1, hy1, h⟩ := bnd h
  refine good_anyM (by kernel_rfl) [⟨[], [2], [], [], [], []⟩, ⟨[0], [11], [12], [], [], []⟩, ⟨[], [2], [], [], [], []⟩, ⟨[2], [13], [12], [], [], []⟩, ⟨[], [2], [], [], [], []⟩, ⟨[4], [15], [12], [], [], []⟩, ⟨[], [2], [], [], [], []⟩, ⟨[6], [17], [12], [], [], []⟩, ⟨[6, 7], [18], [], [], [3001], [3001]⟩, ⟨[0, 1, 2, 3, 4, 5, 6, 7, 8], [12, 14, 16, 19], [], [], [], [3001]⟩, ⟨[], [], [], [], [15], [15]⟩, ⟨[0, 1, 2, 3, 4, 5, 6, 7, 8, 9, 10], [5, 20], [15], [15], [9002], []⟩] [some 11, some 12, some 13, some 14, some 15, some 16, some 17, some 18, some 19, some 20, some 5, none] 76 [(1, (encChain a1)), (2, .ptr 12 b1 0), (4, .ptr 14 b2 0)] [(12, ((.pointer (some ⟨b1, 0, none⟩)), .optr 30 [.int .i64 a0.kind, .int .i64 a0.num, .str a0.text, .sl true (a0.list.map encVal), .sl false (a0.names.map encS)])), (14, ((.pointer (some ⟨b2, 0, none⟩)), .optr 30 [.int .i64 0, .int .i64 0, .str ([] : Bs), .nil, .nil]))] (fun ν1 => [.ptr 12 b1 0, .int .i64 a0.kind, .ptr 12 b1 1, .int .i64 a0.num, .ptr 12 b1 2, .str a0.text, .ptr 12 b1 4, .sl false (a0.names.map encS), .hd 3001 (ν1 3001), .agg [.int .i64 a0.kind, .int .i64 a0.num, .str a0.text, .nil, .hd 3001 (ν1 3001)], .ptr 15 (bse (ν1 15)) 0, .und]) (fun ν1 => [(3001, ((ν1 3001), .osl 9 1 (y1.map encS))), (15, ((.pointer (some ⟨(bse (ν1 15)), 0, none⟩)), .optr 30 [.int .i64 0, .int .i64 0, .str ([] : Bs), .nil, .nil])), (9002, ((.pointer (some ⟨(bse (ν1 15)), 0, none⟩)), .optr 30 [.int .i64 a0.kind, .int .i64 a0.num, .str a0.text, .nil, .hd 3001 (ν1 3001)]))]) [(3001, [3001]), (15, [15]), (9002, [15, 3001]), (12, []), (14, [])] [3001, 15, 9002] [some 12, some 14, some 9002, some 3001] (fun ν1 => [(1, (encChain a1)), (2, .ptr 12 b1 0), (4, .ptr 14 b2 0), (5, .ptr 15 (bse (ν1 15)) 0)]) (fun ν1 => [(12, ((.pointer (some ⟨b1, 0, none⟩)), .optr 30 [.int .i64 a0.kind, .int .i64 a0.num, .str a0.text, .sl true (a0.list.map encVal), .sl false (a0.names.map encS)])), (14, ((.pointer (some ⟨b2, 0, none⟩)), .optr 30 [.int .i64 0, .int .i64 0, .str ([] : Bs), .nil, .nil])), (15, ((.pointer (some ⟨(bse (ν1 15)), 0, none⟩)), .optr 30 [.int .i64 a0.kind, .int .i64 a0.num, .str a0.text, .nil, .hd 3001 (ν1 3001)])), (3001, ((ν1 3001), .osl 9 1 (y1.map encS)))]) (le_w [some 12, some 14] rfl ⟨⟨_, rfl, .refl _⟩, ⟨⟨_, rfl, .refl _⟩, ⟨⟨_, rfl, .refl _⟩, trivial⟩⟩⟩ ⟨⟨_, rfl, .refl _⟩, ⟨⟨_, rfl, .refl _⟩, trivial⟩⟩ (by decide)) (by kernel_rfl) ⟨?_, ⟨?_, ⟨?_, ⟨?_, ⟨?_, ⟨?_, ⟨?_, ⟨?_, ⟨?_, ⟨?_, ⟨?_, ⟨?_, trivial⟩⟩⟩⟩⟩⟩⟩⟩⟩⟩⟩⟩ ⟨fun _ _ _ => rfl, ⟨fun _ _ _ => rfl, ⟨fun _ _ _ => rfl, ⟨fun _ _ _ => rfl, ⟨fun _ _ _ => rfl, ⟨fun _ _ _ => rfl, ⟨fun _ _ _ => rfl, ⟨fun _ _ _ => rfl, ⟨fun _ _ h => (congrArg (fun zz0 => (some (.hd 3001 zz0) : Option AV)) (h 3001 (by decide))), ⟨fun _ _ h => (congrArg (fun zz0 => (some (.agg [.int .i64 a0.kind, .int .i64 a0.num, .str a0.text, .nil, .hd 3001 zz0]) : Option AV)) (h 3001 (by decide))), ⟨fun _ _ h => (congrArg (fun zz0 => (some (.ptr 15 (bse zz0) 0) : Option AV)) (h 15 (by decide))), ⟨fun _ _ _ => rfl, trivial⟩⟩⟩⟩⟩⟩⟩⟩⟩⟩⟩⟩ ⟨fun _ _ h => (congrArg (fun zz0 => (some (zz0, .osl 9 1 (y1.map encS)) : Option (Value × AV))) (h 3001 (by decide))), ⟨fun _ _ h => (congrArg (fun zz0 => (some ((.pointer (some ⟨(bse zz0), 0, none⟩)), .optr 30 [.int .i64 0, .int .i64 0, .str ([] : Bs), .nil, .nil]) : Option (Value × AV))) (h 15 (by decide))), ⟨fun _ _ h => (cong2 (fun zz0 zz1 => (some ((.pointer (some ⟨(bse zz0), 0, none⟩)), .optr 30 [.int .i64 a0.kind, .int .i64 a0.num, .str a0.text, .nil, .hd 3001 zz1]) : Option (Value × AV))) (h 15 (by decide)) (h 3001 (by decide))), ⟨fun _ _ _ => rfl, ⟨fun _ _ _ => rfl, trivial⟩⟩⟩⟩⟩ (fun _ => rfl) (fun _ => rfl) (by kernel_rfl) (fun _ => ⟨⟨_, rfl, .refl _⟩, ⟨⟨_, rfl, .refl _⟩, ⟨⟨_, rfl, .refl _⟩, ⟨⟨_, rfl, .refl _⟩, trivial⟩⟩⟩⟩) (fun _ => ⟨⟨_, rfl, .refl _⟩, ⟨⟨_, rfl, .refl _⟩, ⟨⟨_, rfl, .refl _⟩, ⟨⟨_, rfl, .refl _⟩, trivial⟩⟩⟩⟩) (by kernel_rfl) (by decide) ?_
  · refine local_mk (fun ν1 => [(2, .ptr 12 b1 0)]) (fun ν1 => []) (fun _ => rfl) (fun _ => ⟨⟨_, rfl, .refl _, .refl _⟩, trivial⟩) (fun _ => rfl) (fun _ => trivial) ?_
    intro ν1 S H hS hfr
    refine st_op rfl (ValOk.op (v_fieldP tabOk rfl tfoff30_0 rfl ?_)) 
    exact lp_v hS rfl rfl (fun _ => rfl)
  · refine local_mk (fun ν1 => [(11, .ptr 12 b1 0)]) (fun ν1 => [(12, ((.pointer (some ⟨b1, 0, none⟩)), .optr 30 [.int .i64 a0.kind, .int .i64 a0.num, .str a0.text, .sl true (a0.list.map encVal), .sl false (a0.names.map encS)]))]) (fun _ => rfl) (fun _ => ⟨⟨_, rfl, .refl _, .refl _⟩, trivial⟩) (fun _ => rfl) (fun _ => ⟨rfl, trivial⟩) ?_
    intro ν1 S H hS hfr
    refine st_op rfl (ValOk.op (v_loadP tabOk rfl rfl tsize3 tagg3 rfl rfl rfl rfl ?_)) 
    exact lp_v hS rfl rfl (fun _ => rfl)
  · refine local_mk (fun ν1 => [(2, .ptr 12 b1 0)]) (fun ν1 => []) (fun _ => rfl) (fun _ => ⟨⟨_, rfl, .refl _, .refl _⟩, trivial⟩) (fun _ => rfl) (fun _ => trivial) ?_
    intro ν1 S H hS hfr
    refine st_op rfl (ValOk.op (v_fieldP tabOk rfl tfoff30_1 rfl ?_)) 
    exact lp_v hS rfl rfl (fun _ => rfl)
  · refine local_mk (fun ν1 => [(13, .ptr 12 b1 1)]) (fun ν1 => [(12, ((.pointer (some ⟨b1, 0, none⟩)), .optr 30 [.int .i64 a0.kind, .int .i64 a0.num, .str a0.text, .sl true (a0.list.map encVal), .sl false (a0.names.map encS)]))]) (fun _ => rfl) (fun _ => ⟨⟨_, rfl, .refl _, .refl _⟩, trivial⟩) (fun _ => rfl) (fun _ => ⟨rfl, trivial⟩) ?_
    intro ν1 S H hS hfr
    refine st_op rfl (ValOk.op (v_loadP tabOk rfl rfl tsize3 tagg3 rfl rfl rfl rfl ?_)) 
    exact lp_v hS rfl rfl (fun _ => rfl)
  · refine local_mk (fun ν1 => [(2, .ptr 12 b1 0)]) (fun ν1 => []) (fun _ => rfl) (fun _ => ⟨⟨_, rfl, .refl _, .refl _⟩, trivial⟩) (fun _ => rfl) (fun _ => trivial) ?_
    intro ν1 S H hS hfr
    refine st_op rfl (ValOk.op (v_fieldP tabOk rfl tfoff30_2 rfl ?_)) 
    exact lp_v hS rfl rfl (fun _ => rfl)
  · refine local_mk (fun ν1 => [(15, .ptr 12 b1 2)]) (fun ν1 => [(12, ((.pointer (some ⟨b1, 0, none⟩)), .optr 30 [.int .i64 a0.kind, .int .i64 a0.num, .str a0.text, .sl true (a0.list.map encVal), .sl false (a0.names.map encS)]))]) (fun _ => rfl) (fun _ => ⟨⟨_, rfl, .refl _, .refl _⟩, trivial⟩) (fun _ => rfl) (fun _ => ⟨rfl, trivial⟩) ?_
    intro ν1 S H hS hfr
    refine st_op rfl (ValOk.op (v_loadP tabOk rfl rfl tsize9 tagg9 rfl rfl rfl rfl ?_)) 
    exact lp_v hS rfl rfl (fun _ => rfl)
  · refine local_mk (fun ν1 => [(2, .ptr 12 b1 0)]) (fun ν1 => []) (fun _ => rfl) (fun _ => ⟨⟨_, rfl, .refl _, .refl _⟩, trivial⟩) (fun _ => rfl) (fun _ => trivial) ?_
    intro ν1 S H hS hfr
    refine st_op rfl (ValOk.op (v_fieldP tabOk rfl tfoff30_4 rfl ?_)) 
    exact lp_v hS rfl rfl (fun _ => rfl)
  · refine local_mk (fun ν1 => [(17, .ptr 12 b1 4)]) (fun ν1 => [(12, ((.pointer (some ⟨b1, 0, none⟩)), .optr 30 [.int .i64 a0.kind, .int .i64 a0.num, .str a0.text, .sl true (a0.list.map encVal), .sl false (a0.names.map encS)]))]) (fun _ => rfl) (fun _ => ⟨⟨_, rfl, .refl _, .refl _⟩, trivial⟩) (fun _ => rfl) (fun _ => ⟨rfl, trivial⟩) ?_
    intro ν1 S H hS hfr
    refine st_op rfl (ValOk.op (v_loadP tabOk rfl rfl tsize23 tagg23 rfl rfl rfl rfl ?_)) 
    exact lp_v hS rfl rfl (fun _ => rfl)
  · refine local_mk (fun ν1 => [(18, .sl false (a0.names.map encS))]) (fun ν1 => []) (fun _ => rfl) (fun _ => ⟨⟨_, rfl, .refl _, .refl _⟩, trivial⟩) (fun _ => rfl) (fun _ => trivial) ?_
    intro ν1 S H hS hfr
    refine st_op rfl (o_callDa [] [] [] (core_value rfl rfl) (m_impl_copyTexts_ok a0.names _ hy1) trivial (.cons (.refl _) (.nil)) trivial rfl rfl rfl ?_)
    rintro _ _ ⟨w1, rfl, rfl⟩
    refine ⟨.hd 3001 w1, [(3001, _)], .hd _ _ _, rfl, rfl, rfl, (fun x hx => has_minus (hfr x hx)), .inl rfl, ?_⟩
    exact lp_mm (hN := [(3001, _)]) hS rfl rfl (fun _ => rfl) ⟨rfl, trivial⟩
  · refine local_mk (fun ν1 => [(12, .int .i64 a0.kind), (14, .int .i64 a0.num), (16, .str a0.text), (19, .hd 3001 (ν1 3001))]) (fun ν1 => []) (fun _ => rfl) (fun _ => ⟨⟨_, rfl, .refl _, .refl _⟩, ⟨⟨_, rfl, .refl _, .refl _⟩, ⟨⟨_, rfl, .refl _, .refl _⟩, ⟨⟨_, rfl, .refl _, .refl _⟩, trivial⟩⟩⟩⟩) (fun _ => rfl) (fun _ => trivial) ?_
    intro ν1 S H hS hfr
    refine st_op rfl (ValOk.op (v_build tabOk (cs := [.int .i64 a0.kind, .int .i64 a0.num, .str a0.text, .nil, .hd 3001 (ν1 3001)]) tzero30 tsok30 rfl rfl rfl ?_)) 
    exact lp_v hS rfl rfl (fun _ => rfl)
  · refine local_mk (fun ν1 => []) (fun ν1 => []) (fun _ => rfl) (fun _ => trivial) (fun _ => rfl) (fun _ => trivial) ?_
    intro ν1 S H hS hfr
    refine st_op rfl (o_alloc (k := 15) tabOk tzero30 (hfr _ (by decide)) rfl ?_)
    intro w
    exact lp_n (k := 15) hS rfl rfl (fun _ => rfl) rfl
  · refine local_mk (fun ν1 => [(5, .ptr 15 (bse (ν1 15)) 0), (20, .agg [.int .i64 a0.kind, .int .i64 a0.num, .str a0.text, .nil, .hd 3001 (ν1 3001)])]) (fun ν1 => [(15, ((.pointer (some ⟨(bse (ν1 15)), 0, none⟩)), .optr 30 [.int .i64 0, .int .i64 0, .str ([] : Bs), .nil, .nil]))]) (fun _ => rfl) (fun _ => ⟨⟨_, rfl, .refl _, .refl _⟩, ⟨⟨_, rfl, .refl _, .refl _⟩, trivial⟩⟩) (fun _ => rfl) (fun _ => ⟨rfl, trivial⟩) ?_
    intro ν1 S H hS hfr
    refine st_op rfl (o_storeP tabOk (cs' := [.int .i64 a0.kind, .int .i64 a0.num, .str a0.text, .nil, .hd 3001 (ν1 3001)]) rfl rfl tsize30 rfl rfl rfl (Nat.le_of_ble_eq_true rfl) rfl rfl rfl ?_)
    exact lp_m (k := 9002) hS rfl rfl (.inr (by decide)) (fun _ => rfl) rfl
  intro ν1
  refine hK2 _ ?_
  refine good_seq fun K3 hK3 => ?_
  refine good_seq fun K4 hK4 => ?_
  refine good_region ?_
  refine g_op rfl (ValOk.op (v_fieldP tabOk rfl tfoff30_3 rfl ?_)) 
  refine g_op rfl (ValOk.op (v_loadP tabOk rfl rfl tsize28 tagg28 rfl rfl rfl rfl ?_)) 
  refine g_op rfl (ValOk.op (v_lenM (l := a0.list) (f := encVal) tabOk rfl rfl telem28 rfl ?_)) 
  refine g_op rfl (ValOk.op (v_bin rfl rfl rfl rfl ?_)) 
  refine g_nil ?_
  refine hK4 _ ?_
  refine Good.le (σ' := ⟨76, [(1, _), (2, _), (4, _), (5, _), (24, _)], [(12, (_, _)), (14, (_, _)), (15, (_, _)), (3001, (_, _))]⟩) (le_w [some 12, some 14, some 15, some 3001] rfl ⟨⟨_, rfl, .refl _⟩, ⟨⟨_, rfl, .refl _⟩, ⟨⟨_, rfl, .refl _⟩, ⟨⟨_, rfl, .refl _⟩, ⟨⟨_, rfl, .refl _⟩, trivial⟩⟩⟩⟩⟩ ⟨⟨_, rfl, .refl _⟩, ⟨⟨_, rfl, .refl _⟩, ⟨⟨_, rfl, .refl _⟩, ⟨⟨_, rfl, .refl _⟩, trivial⟩⟩⟩⟩ (by decide)) ?_
  refine good_cond rfl (fun hc1 => ?_) (fun hc1 => ?_)
  · replace h := ifT h (dT hc1)
    refine good_seq fun K5 hK5 => ?_
    refine good_region ?_
    refine g_op rfl (ValOk.op (v_loadP tabOk rfl rfl tsize30 tagg30 rfl rfl rfl rfl ?_)) 
    refine g_op rfl (o_storeP tabOk (cs' := [.int .i64 a0.kind, .int .i64 a0.num, .str a0.text, .nil, .hd 3001 (ν1 3001)]) rfl rfl tsize30 rfl rfl rfl (Nat.le_of_ble_eq_true rfl) rfl rfl rfl ?_)
    refine g_nil ?_
    refine hK5 _ ?_
    refine Good.le (σ' := ⟨76, [(1, _), (2, _), (4, _), (5, _)], [(12, (_, _)), (14, (_, _)), (3001, (_, _)), (15, (_, _))]⟩) (le_w [some 12, some 14, some 3001, some 15] rfl ⟨⟨_, rfl, .refl _⟩, ⟨⟨_, rfl, .refl _⟩, ⟨⟨_, rfl, .refl _⟩, ⟨⟨_, rfl, .refl _⟩, trivial⟩⟩⟩⟩ ⟨⟨_, rfl, .refl _⟩, ⟨⟨_, rfl, .refl _⟩, ⟨⟨_, rfl, .refl _⟩, ⟨⟨_, rfl, .refl _⟩, trivial⟩⟩⟩⟩ (by decide)) ?_
    refine Good.le (σ' := ⟨76, [(4, .ptr 14 b2 0)], [(100, (nilV, .osl 30 5 (([] : List Val).map encOVal))), (101, ((ν1 3001), .osl 9 1 (y1.map encS))), (14, ((.pointer (some ⟨b2, 0, none⟩)), .optr 30 [.int .i64 a0.kind, .int .i64 a0.num, .str a0.text, .hd 100 nilV, .hd 101 (ν1 3001)]))]⟩) (le_w [none, some 3001, some 14] rfl ⟨⟨_, rfl, .refl _⟩, trivial⟩ ⟨⟨rfl, _, _, rfl⟩, ⟨⟨_, rfl, .refl _⟩, ⟨⟨_, rfl, .optr (.cons (.refl _) (.cons (.refl _) (.cons (.refl _) (.cons (.nilhd _) (.cons (.hd _ _ _) (.nil))))))⟩, trivial⟩⟩⟩ (by decide)) ?_
    refine good_ret ?_
    obtain rfl := Option.some.inj h
    refine thenQ_ret ?_
    exact endQ_ret (h' := [(100, (_, _)), (101, (_, _))]) [some 100, some 101] (.cell rfl rfl tsize30 tagg30 rfl rfl rfl (.nil)) ⟨⟨_, rfl, .refl _⟩, ⟨⟨_, rfl, .refl _⟩, trivial⟩⟩ (by decide) ⟨nilV, (ν1 3001), rfl, rfl⟩
  · replace h := ifF h (dF hc1)
    refine good_skip ?_
    refine hK3 _ ?_
    refine Good.le (σ' := ⟨76, [(1, _), (2, _), (4, _), (5, _)], [(12, (_, _)), (14, (_, _)), (15, (_, _)), (3001, (_, _))]⟩) (le_w [some 12, some 14, some 15, some 3001] rfl ⟨⟨_, rfl, .refl _⟩, ⟨⟨_, rfl, .refl _⟩, ⟨⟨_, rfl, .refl _⟩, ⟨⟨_, rfl, .refl _⟩, trivial⟩⟩⟩⟩ ⟨⟨_, rfl, .refl _⟩, ⟨⟨_, rfl, .refl _⟩, ⟨⟨_, rfl, .refl _⟩, ⟨⟨_, rfl, .refl _⟩, trivial⟩⟩⟩⟩ (by decide)) ?_
    refine good_seq fun K6 hK6 => ?_
    refine good_region ?_
    refine g_op rfl (ValOk.op (v_fieldP tabOk rfl tfoff30_3 rfl ?_)) 
    refine g_op rfl (ValOk.op (v_loadP tabOk rfl rfl tsize28 tagg28 rfl rfl rfl rfl ?_)) 
    obtain ⟨y2, hy2, h⟩ := bnd h
    refine g_op rfl (o_callR [] [] (core_value rfl rfl) (m_impl_spanOf_ok a0.list _ hy2) trivial (.cons (.refl _) (.nil)) (.inl rfl) rfl ?_)
    refine g_op rfl (o_alloc (k := 16) tabOk tzero62 rfl rfl ?_)
    intro b3
    refine g_op rfl (o_storeP tabOk (cs' := [.spt (y2.map encVal), .int .i64 (y2.length : Int)]) rfl rfl tsize62 rfl rfl rfl (Nat.le_of_ble_eq_true rfl) rfl rfl rfl ?_)
    refine g_nil ?_
    refine hK6 _ ?_
    refine Good.le (σ' := ⟨76, [(1, _), (2, _), (4, _), (5, _), (6, _)], [(12, (_, _)), (14, (_, _)), (15, (_, _)), (3001, (_, _)), (16, (_, _))]⟩) (le_w [some 12, some 14, some 15, some 3001, some 16] rfl ⟨⟨_, rfl, .refl _⟩, ⟨⟨_, rfl, .refl _⟩, ⟨⟨_, rfl, .refl _⟩, ⟨⟨_, rfl, .refl _⟩, ⟨⟨_, rfl, .refl _⟩, trivial⟩⟩⟩⟩⟩ ⟨⟨_, rfl, .refl _⟩, ⟨⟨_, rfl, .refl _⟩, ⟨⟨_, rfl, .refl _⟩, ⟨⟨_, rfl, .refl _⟩, ⟨⟨_, rfl, .refl _⟩, trivial⟩⟩⟩⟩⟩ (by decide)) ?_
    refine good_seq fun K7 hK7 => ?_
    refine good_seq fun K8 hK8 => ?_
    refine good_region ?_
    refine g_op rfl (ValOk.op (v_move rfl rfl ?_)) 
    refine g_op rfl (ValOk.op (v_assign rfl rfl ?_)) 
    refine g_nil ?_
    refine hK8 _ ?_
    refine Good.le (σ' := ⟨76, [(1, _), (2, _), (4, _), (5, _), (6, _), (7, _)], [(12, (_, _)), (14, (_, _)), (15, (_, _)), (3001, (_, _)), (16, (_, _))]⟩) (le_w [some 12, some 14, some 15, some 3001, some 16] rfl ⟨⟨_, rfl, .refl _⟩, ⟨⟨_, rfl, .refl _⟩, ⟨⟨_, rfl, .refl _⟩, ⟨⟨_, rfl, .refl _⟩, ⟨⟨_, rfl, .refl _⟩, ⟨⟨_, rfl, .refl _⟩, trivial⟩⟩⟩⟩⟩⟩ ⟨⟨_, rfl, .refl _⟩, ⟨⟨_, rfl, .refl _⟩, ⟨⟨_, rfl, .refl _⟩, ⟨⟨_, rfl, .refl _⟩, ⟨⟨_, rfl, .refl _⟩, trivial⟩⟩⟩⟩⟩ (by decide)) ?_
    obtain ⟨o1, ho1, hJ1⟩ := bnd h
    have hw1 : ∀ (s1 : Unit), o1 = Lp.go s1 → ∀ σ', Le σ' ⟨76, [(1, (encChain a1)), (2, .ptr 12 b1 0), (4, .ptr 14 b2 0), (5, .ptr 15 (bse (ν1 15)) 0), (6, .ptr 16 b3 0)], [(12, ((.pointer (some ⟨b1, 0, none⟩)), .optr 30 [.int .i64 a0.kind, .int .i64 a0.num, .str a0.text, .sl true (a0.list.map encVal), .sl false (a0.names.map encS)])), (14, ((.pointer (some ⟨b2, 0, none⟩)), .optr 30 [.int .i64 0, .int .i64 0, .str ([] : Bs), .nil, .nil])), (15, ((.pointer (some ⟨(bse (ν1 15)), 0, none⟩)), .optr 30 [.int .i64 a0.kind, .int .i64 a0.num, .str a0.text, .nil, .hd 3001 (ν1 3001)])), (3001, ((ν1 3001), .osl 9 1 (y1.map encS))), (16, ((.pointer (some ⟨b3, 0, none⟩)), .optr 62 [.spt (y2.map encVal), .int .i64 (y2.length : Int)]))]⟩ → K7 σ' := by
      intro s1 e1 σ' hle1
      subst e1
      refine hK7 _ (Good.le hle1 ?_)
      replace h := hJ1
      refine good_seq fun K9 hK9 => ?_
      refine good_region ?_
      refine g_op rfl (ValOk.op (v_fieldP tabOk rfl tfoff30_3 rfl ?_)) 
      refine g_op rfl (ValOk.op (v_loadP tabOk rfl rfl tsize28 tagg28 rfl rfl rfl rfl ?_)) 
      refine g_op rfl (ValOk.op (v_lenM (l := a0.list) (f := encVal) tabOk rfl rfl telem28 rfl ?_)) 
      obtain ⟨hb1, h⟩ := ifS h
      obtain ⟨hb2, h⟩ := ifS h
      refine g_op rfl (OpOk.le (o_makeM (k := 61) (zz := ((Val.mk 0 0 ([] : Bs) [] []))) (f := fun _ : Val => ([.int .i64 0, .int .i64 0, .str ([] : Bs), .nil, .nil] : List AV)) tabOk telem28 tsize30 tbytes30 tzero30 rfl rfl rfl (by decide) (WkL.refl _) rfl rfl hb1 hb2 ?_))
      intro w2
      refine ⟨_, le_nilsR (k := 61) (rows' := (List.replicate (Int.toNat (a0.list.length : Int)) (Val.mk 0 0 ([] : Bs) [] [])).map encOVal) (RowsTo.repl (by simp only [encOVal_eq]; exact .cons (.refl _) (.cons (.refl _) (.cons (.refl _) (.cons (.nil _ _) (.cons (.nil _ _) (.nil))))))), ?_⟩
      refine g_op rfl (ValOk.op (v_fieldP tabOk rfl tfoff30_3 rfl ?_)) 
      refine g_op rfl (o_storeP tabOk (cs' := [.int .i64 a0.kind, .int .i64 a0.num, .str a0.text, .hd 61 w2, .hd 3001 (ν1 3001)]) rfl rfl tsize28 rfl rfl rfl (Nat.le_of_ble_eq_true rfl) rfl rfl rfl ?_)
      refine g_nil ?_
      refine hK9 _ ?_
      refine Good.le (σ' := ⟨76, [(1, _), (2, _), (4, _), (5, _), (6, _)], [(12, (_, _)), (14, (_, _)), (15, (_, _)), (61, (_, _)), (3001, (_, _)), (16, (_, _))]⟩) (le_w [some 12, some 14, some 15, some 61, some 3001, some 16] rfl ⟨⟨_, rfl, .refl _⟩, ⟨⟨_, rfl, .refl _⟩, ⟨⟨_, rfl, .refl _⟩, ⟨⟨_, rfl, .refl _⟩, ⟨⟨_, rfl, .refl _⟩, trivial⟩⟩⟩⟩⟩ ⟨⟨_, rfl, .refl _⟩, ⟨⟨_, rfl, .refl _⟩, ⟨⟨_, rfl, .refl _⟩, ⟨⟨_, rfl, .refl _⟩, ⟨⟨_, rfl, .refl _⟩, ⟨⟨_, rfl, .refl _⟩, trivial⟩⟩⟩⟩⟩⟩ (by decide)) ?_
      refine good_seq fun K10 hK10 => ?_
      refine good_region ?_
      refine g_op rfl (ValOk.op (v_loadP tabOk rfl rfl tsize62 tagg62 rfl rfl rfl rfl ?_)) 
      refine g_op rfl (ValOk.op (v_fieldP tabOk rfl tfoff30_3 rfl ?_)) 
      refine g_op rfl (ValOk.op (v_loadP tabOk rfl rfl tsize28 tagg28 rfl rfl rfl rfl ?_)) 
      refine g_op rfl (ValOk.op (v_move rfl rfl ?_)) 
      refine g_op rfl (ValOk.op (v_buildW tabOk (cs := [.spt (y2.map encVal), .int .i64 (y2.length : Int), .hd 61 w2, (encChain a1)]) tzero123 tsok123 rfl (fill_made _ _ _ _ _ _) (.agg (.cons (.refl _) (.cons (.refl _) (.cons (.onehd _ _) (.cons (.refl _) (.nil)))))) rfl ?_)) 
      refine g_op rfl (o_box (k := 68) tabOk rfl rfl (cells_made _ _ _ _) rfl rfl ?_)
      intro b4
      refine g_le (σ1 := ⟨76, [(1, (encChain a1)), (2, .ptr 12 b1 0), (4, .ptr 14 b2 0), (5, .ptr 15 (bse (ν1 15)) 0), (6, .ptr 16 b3 0), (53, .agg [.spt (y2.map encVal), .int .i64 (y2.length : Int)]), (54, .ptr 15 (bse (ν1 15)) 3), (55, .hd 61 w2), (56, (encChain a1)), (57, .agg [.spt (y2.map encVal), .int .i64 (y2.length : Int), .one, (encChain a1)]), (58, (encChain (y2 :: a1)))], [(12, ((.pointer (some ⟨b1, 0, none⟩)), .optr 30 [.int .i64 a0.kind, .int .i64 a0.num, .str a0.text, .sl true (a0.list.map encVal), .sl false (a0.names.map encS)])), (14, ((.pointer (some ⟨b2, 0, none⟩)), .optr 30 [.int .i64 0, .int .i64 0, .str ([] : Bs), .nil, .nil])), (15, ((.pointer (some ⟨(bse (ν1 15)), 0, none⟩)), .optr 30 [.int .i64 a0.kind, .int .i64 a0.num, .str a0.text, .hd 61 w2, .hd 3001 (ν1 3001)])), (61, (w2, .osl 30 5 ((List.replicate (Int.toNat (a0.list.length : Int)) (Val.mk 0 0 ([] : Bs) [] [])).map encOVal))), (3001, ((ν1 3001), .osl 9 1 (y1.map encS))), (16, ((.pointer (some ⟨b3, 0, none⟩)), .optr 62 [.spt (y2.map encVal), .int .i64 (y2.length : Int)]))]⟩) (le_of [68] [(_, _)] [some 12, some 14, some 15, some 61, some 3001, some 16] rfl ⟨⟨_, rfl, .optr (.cons (.refl _ rfl) (.cons (.refl _ rfl) (.cons (.refl _ rfl) (.cons (frz_chain _) (.nil)))))⟩, trivial⟩ ⟨⟨_, rfl, .refl _⟩, ⟨⟨_, rfl, .refl _⟩, ⟨⟨_, rfl, .refl _⟩, ⟨⟨_, rfl, .refl _⟩, ⟨⟨_, rfl, .refl _⟩, ⟨⟨_, rfl, .refl _⟩, ⟨⟨_, rfl, .refl _⟩, ⟨⟨_, rfl, .refl _⟩, ⟨⟨_, rfl, .refl _⟩, ⟨⟨_, rfl, .refl _⟩, ⟨⟨_, rfl, .frzp _ _ _ _ _ (.head _) rfl (Nat.le_of_ble_eq_true rfl)⟩, trivial⟩⟩⟩⟩⟩⟩⟩⟩⟩⟩⟩ ⟨⟨_, rfl, .refl _⟩, ⟨⟨_, rfl, .refl _⟩, ⟨⟨_, rfl, .refl _⟩, ⟨⟨_, rfl, .refl _⟩, ⟨⟨_, rfl, .refl _⟩, ⟨⟨_, rfl, .refl _⟩, trivial⟩⟩⟩⟩⟩⟩ (by decide) (by decide)) ?_
      refine g_op rfl (ValOk.op (v_assign rfl rfl ?_)) 
      refine g_nil ?_
      refine hK10 _ ?_
      refine Good.le (σ' := ⟨76, [(2, _), (4, _), (5, _), (8, _)], [(12, (_, _)), (14, (_, _)), (15, (_, _)), (61, (_, _)), (3001, (_, _))]⟩) (le_w [some 12, some 14, some 15, some 61, some 3001] rfl ⟨⟨_, rfl, .refl _⟩, ⟨⟨_, rfl, .refl _⟩, ⟨⟨_, rfl, .refl _⟩, ⟨⟨_, rfl, .refl _⟩, trivial⟩⟩⟩⟩ ⟨⟨_, rfl, .refl _⟩, ⟨⟨_, rfl, .refl _⟩, ⟨⟨_, rfl, .refl _⟩, ⟨⟨_, rfl, .refl _⟩, ⟨⟨_, rfl, .refl _⟩, trivial⟩⟩⟩⟩⟩ (by decide)) ?_
      refine good_seq fun K11 hK11 => ?_
      refine good_seq fun K12 hK12 => ?_
      refine good_region ?_
      refine g_op rfl (ValOk.op (v_fieldP tabOk rfl tfoff30_3 rfl ?_)) 
      refine g_op rfl (ValOk.op (v_loadP tabOk rfl rfl tsize28 tagg28 rfl rfl rfl rfl ?_)) 
      refine g_op rfl (ValOk.op (v_lenM (l := a0.list) (f := encVal) tabOk rfl rfl telem28 rfl ?_)) 
      refine g_op rfl (ValOk.op (v_move rfl rfl ?_)) 
      refine g_nil ?_
      refine hK12 _ ?_
      refine Good.le (σ' := ⟨76, [(4, _), (5, _), (8, _), (60, _), (61, _), (62, _)], [(14, (_, _)), (15, (_, _)), (61, (_, _)), (3001, (_, _))]⟩) (le_w [some 14, some 15, some 61, some 3001] rfl ⟨⟨_, rfl, .refl _⟩, ⟨⟨_, rfl, .refl _⟩, ⟨⟨_, rfl, .refl _⟩, ⟨⟨_, rfl, .refl _⟩, ⟨⟨_, rfl, .refl _⟩, ⟨⟨_, rfl, .refl _⟩, trivial⟩⟩⟩⟩⟩⟩ ⟨⟨_, rfl, .refl _⟩, ⟨⟨_, rfl, .refl _⟩, ⟨⟨_, rfl, .refl _⟩, ⟨⟨_, rfl, .refl _⟩, trivial⟩⟩⟩⟩ (by decide)) ?_
      obtain ⟨o2, ho2, hJ2⟩ := bnd h
      have hw2 : ∀ (s2 : (List Val)), o2 = Lp.go s2 → ∀ σ', Le σ' ⟨76, [(4, .ptr 14 b2 0), (5, .ptr 15 (bse (ν1 15)) 0)], [(14, ((.pointer (some ⟨b2, 0, none⟩)), .optr 30 [.int .i64 0, .int .i64 0, .str ([] : Bs), .nil, .nil])), (15, ((.pointer (some ⟨(bse (ν1 15)), 0, none⟩)), .optr 30 [.int .i64 a0.kind, .int .i64 a0.num, .str a0.text, .hd 61 w2, .hd 3001 (ν1 3001)])), (61, (w2, .osl 30 5 (s2.map encOVal))), (3001, ((ν1 3001), .osl 9 1 (y1.map encS)))]⟩ → K11 σ' := by
        intro s2 e2 σ' hle2
        subst e2
        refine hK11 _ (Good.le hle2 ?_)
        replace h := hJ2
        refine good_seq fun K13 hK13 => ?_
        refine good_region ?_
        refine g_op rfl (ValOk.op (v_loadP tabOk rfl rfl tsize30 tagg30 rfl rfl rfl rfl ?_)) 
        refine g_op rfl (o_storeP tabOk (cs' := [.int .i64 a0.kind, .int .i64 a0.num, .str a0.text, .hd 61 w2, .hd 3001 (ν1 3001)]) rfl rfl tsize30 rfl rfl rfl (Nat.le_of_ble_eq_true rfl) rfl rfl rfl ?_)
        refine g_nil ?_
        refine hK13 _ ?_
        refine Good.le (σ' := ⟨76, [(4, _)], [(14, (_, _)), (61, (_, _)), (3001, (_, _))]⟩) (le_w [some 14, some 61, some 3001] rfl ⟨⟨_, rfl, .refl _⟩, trivial⟩ ⟨⟨_, rfl, .refl _⟩, ⟨⟨_, rfl, .refl _⟩, ⟨⟨_, rfl, .refl _⟩, trivial⟩⟩⟩ (by decide)) ?_
        refine Good.le (σ' := ⟨76, [(4, .ptr 14 b2 0)], [(100, (w2, .osl 30 5 (s2.map encOVal))), (101, ((ν1 3001), .osl 9 1 (y1.map encS))), (14, ((.pointer (some ⟨b2, 0, none⟩)), .optr 30 [.int .i64 a0.kind, .int .i64 a0.num, .str a0.text, .hd 100 w2, .hd 101 (ν1 3001)]))]⟩) (le_w [some 61, some 3001, some 14] rfl ⟨⟨_, rfl, .refl _⟩, trivial⟩ ⟨⟨_, rfl, .refl _⟩, ⟨⟨_, rfl, .refl _⟩, ⟨⟨_, rfl, .optr (.cons (.refl _) (.cons (.refl _) (.cons (.refl _) (.cons (.hd _ _ _) (.cons (.hd _ _ _) (.nil))))))⟩, trivial⟩⟩⟩ (by decide)) ?_
        refine good_ret ?_
        obtain rfl := Option.some.inj h
        exact endQ_ret (h' := [(100, (_, _)), (101, (_, _))]) [some 100, some 101] (.cell rfl rfl tsize30 tagg30 rfl rfl rfl (.nil)) ⟨⟨_, rfl, .refl _⟩, ⟨⟨_, rfl, .refl _⟩, trivial⟩⟩ (by decide) ⟨w2, (ν1 3001), rfl, rfl⟩
      replace h := ho2
      refine good_block ?_
      refine good_loopf (fun p : ((List Val) × Int) => ⟨76, [(4, .ptr 14 b2 0), (5, .ptr 15 (bse (ν1 15)) 0), (8, (encChain (y2 :: a1))), (60, .sl true (a0.list.map encVal)), (61, .int .i64 (a0.list.length : Int)), (62, .int .i64 p.2)], [(14, ((.pointer (some ⟨b2, 0, none⟩)), .optr 30 [.int .i64 0, .int .i64 0, .str ([] : Bs), .nil, .nil])), (15, ((.pointer (some ⟨(bse (ν1 15)), 0, none⟩)), .optr 30 [.int .i64 a0.kind, .int .i64 a0.num, .str a0.text, .hd 61 w2, .hd 3001 (ν1 3001)])), (61, (w2, .osl 30 5 (p.1.map encOVal))), (3001, ((ν1 3001), .osl 9 1 (y1.map encS)))]⟩) (fun m p => m < k + 1 ∧ m_impl_copyWithin_l2 m a0 a1 y2 p.1 p.2 = some o2) k (List.replicate (Int.toNat (a0.list.length : Int)) (Val.mk 0 0 ([] : Bs) [] []), 0) (le_w [some 14, some 15, some 61, some 3001] rfl ⟨⟨_, rfl, .refl _⟩, ⟨⟨_, rfl, .refl _⟩, ⟨⟨_, rfl, .refl _⟩, ⟨⟨_, rfl, .refl _⟩, ⟨⟨_, rfl, .refl _⟩, ⟨⟨_, rfl, .refl _⟩, trivial⟩⟩⟩⟩⟩⟩ ⟨⟨_, rfl, .refl _⟩, ⟨⟨_, rfl, .refl _⟩, ⟨⟨_, rfl, .refl _⟩, ⟨⟨_, rfl, .refl _⟩, trivial⟩⟩⟩⟩ (by decide)) ⟨by omega, h⟩ ?_
      rintro m1 ⟨x2, x3⟩ ⟨hm, h⟩
      replace h : m_impl_copyWithin_l2 m1 a0 a1 y2 x2 x3 = some o2 := h
      refine Good.le (σ' := ⟨76, [(4, .ptr 14 b2 0), (5, .ptr 15 (bse (ν1 15)) 0), (8, (encChain (y2 :: a1))), (60, .sl true (a0.list.map encVal)), (61, .int .i64 (a0.list.length : Int)), (62, .int .i64 x3)], [(14, ((.pointer (some ⟨b2, 0, none⟩)), .optr 30 [.int .i64 0, .int .i64 0, .str ([] : Bs), .nil, .nil])), (15, ((.pointer (some ⟨(bse (ν1 15)), 0, none⟩)), .optr 30 [.int .i64 a0.kind, .int .i64 a0.num, .str a0.text, .hd 61 w2, .hd 3001 (ν1 3001)])), (61, (w2, .osl 30 5 (x2.map encOVal))), (3001, ((ν1 3001), .osl 9 1 (y1.map encS)))]⟩) (Le.refl _) ?_
      obtain ⟨m1, rfl⟩ : ∃ m', m1 = m' + 1 := by cases m1 with | zero => (rw [m_impl_copyWithin_l2] at h; cases h) | succ m' => exact ⟨m', rfl⟩
      rw [m_impl_copyWithin_l2] at h
      refine good_seq fun K14 hK14 => ?_
      refine good_region ?_
      refine g_op rfl (ValOk.op (v_bin rfl rfl rfl rfl ?_)) 
      refine g_nil ?_
      refine hK14 _ ?_
      refine good_seq fun K15 hK15 => ?_
      refine good_cond rfl (fun hc2 => ?_) (fun hc2 => ?_)
      · replace h := ifT h (dT hc2)
        refine good_skip ?_
        refine hK15 _ ?_
        refine Good.le (σ' := ⟨76, [(4, _), (5, _), (8, _), (60, _), (61, _), (62, _)], [(14, (_, _)), (15, (_, _)), (61, (_, _)), (3001, (_, _))]⟩) (le_w [some 14, some 15, some 61, some 3001] rfl ⟨⟨_, rfl, .refl _⟩, ⟨⟨_, rfl, .refl _⟩, ⟨⟨_, rfl, .refl _⟩, ⟨⟨_, rfl, .refl _⟩, ⟨⟨_, rfl, .refl _⟩, ⟨⟨_, rfl, .refl _⟩, trivial⟩⟩⟩⟩⟩⟩ ⟨⟨_, rfl, .refl _⟩, ⟨⟨_, rfl, .refl _⟩, ⟨⟨_, rfl, .refl _⟩, ⟨⟨_, rfl, .refl _⟩, trivial⟩⟩⟩⟩ (by decide)) ?_
        refine good_seq fun K16 hK16 => ?_
        refine good_block ?_
        refine good_seq fun K17 hK17 => ?_
        refine good_region ?_
        refine g_op rfl (ValOk.op (v_move rfl rfl ?_)) 
        obtain ⟨hb3, h⟩ := ifS h
        refine g_op rfl (ValOk.op (v_idxM tabOk rfl rfl telem28 tsize30 hb3 (encVal_eq _) rfl rfl ?_)) 
        refine g_op rfl (ValOk.op (v_loadE tabOk rfl tsize30 tagg30 rfl rfl rfl ?_)) 
        refine g_op rfl (o_alloc (k := 20) tabOk tzero30 rfl rfl ?_)
        intro b5
        refine g_op rfl (ValOk.op (v_assign rfl rfl ?_)) 
        refine g_op rfl (o_storeP tabOk (cs' := [.int .i64 ((ix a0.list x3).kind), .int .i64 ((ix a0.list x3).num), .str ((ix a0.list x3).text), .sl true (((ix a0.list x3).list).map encVal), .sl false (((ix a0.list x3).names).map encS)]) rfl rfl tsize30 rfl rfl rfl (Nat.le_of_ble_eq_true rfl) rfl rfl rfl ?_)
        refine g_nil ?_
        refine hK17 _ ?_
        refine Good.le (σ' := ⟨76, [(4, _), (5, _), (8, _), (9, _), (10, _), (60, _), (61, _), (62, _)], [(14, (_, _)), (15, (_, _)), (61, (_, _)), (3001, (_, _)), (20, (_, _))]⟩) (le_w [some 14, some 15, some 61, some 3001, some 20] rfl ⟨⟨_, rfl, .refl _⟩, ⟨⟨_, rfl, .refl _⟩, ⟨⟨_, rfl, .refl _⟩, ⟨⟨_, rfl, .refl _⟩, ⟨⟨_, rfl, .refl _⟩, ⟨⟨_, rfl, .refl _⟩, ⟨⟨_, rfl, .refl _⟩, ⟨⟨_, rfl, .refl _⟩, trivial⟩⟩⟩⟩⟩⟩⟩⟩ ⟨⟨_, rfl, .refl _⟩, ⟨⟨_, rfl, .refl _⟩, ⟨⟨_, rfl, .refl _⟩, ⟨⟨_, rfl, .refl _⟩, ⟨⟨_, rfl, .refl _⟩, trivial⟩⟩⟩⟩⟩ (by decide)) ?_
        obtain ⟨y3, hy3, h⟩ := bnd h
        obtain ⟨hb4, h⟩ := ifS h
        refine good_anyM (by kernel_rfl) [⟨[], [5], [], [], [], []⟩, ⟨[0], [67], [15], [], [], []⟩, ⟨[], [9], [], [], [], []⟩, ⟨[], [10], [20], [], [], []⟩, ⟨[], [8], [], [], [], []⟩, ⟨[3, 4], [70, 71], [], [], [3003, 3004], [3003, 3004]⟩, ⟨[0, 1, 2, 3, 4, 5], [68, 69], [61], [], [], []⟩, ⟨[0, 1, 2, 3, 4, 5, 6], [73, 72], [61, 3003, 3004], [61, 3003, 3004], [9005], []⟩] [some 67, some 68, some 69, some 70, some 71, some 72, some 73, none] 76 [(4, .ptr 14 b2 0), (5, .ptr 15 (bse (ν1 15)) 0), (8, (encChain (y2 :: a1))), (9, .int .i64 x3), (10, .ptr 20 b5 0), (60, .sl true (a0.list.map encVal)), (61, .int .i64 (a0.list.length : Int)), (62, .int .i64 x3)] [(14, ((.pointer (some ⟨b2, 0, none⟩)), .optr 30 [.int .i64 0, .int .i64 0, .str ([] : Bs), .nil, .nil])), (15, ((.pointer (some ⟨(bse (ν1 15)), 0, none⟩)), .optr 30 [.int .i64 a0.kind, .int .i64 a0.num, .str a0.text, .hd 61 w2, .hd 3001 (ν1 3001)])), (61, (w2, .osl 30 5 (x2.map encOVal))), (3001, ((ν1 3001), .osl 9 1 (y1.map encS))), (20, ((.pointer (some ⟨b5, 0, none⟩)), .optr 30 [.int .i64 ((ix a0.list x3).kind), .int .i64 ((ix a0.list x3).num), .str ((ix a0.list x3).text), .sl true (((ix a0.list x3).list).map encVal), .sl false (((ix a0.list x3).names).map encS)]))] (fun ν2 => [.ptr 15 (bse (ν1 15)) 3, .hd 61 w2, .int .i64 x3, .agg [.int .i64 ((ix a0.list x3).kind), .int .i64 ((ix a0.list x3).num), .str ((ix a0.list x3).text), .sl true (((ix a0.list x3).list).map encVal), .sl false (((ix a0.list x3).names).map encS)], (encChain (y2 :: a1)), .agg [.int .i64 y3.kind, .int .i64 y3.num, .str y3.text, .hd 3003 (ν2 3003), .hd 3004 (ν2 3004)], .rptr 61 w2 5 (Int.toNat x3) 0, .und]) (fun ν2 => [(3003, ((ν2 3003), .osl 30 5 (y3.list.map encOVal))), (3004, ((ν2 3004), .osl 9 1 (y3.names.map encS))), (9005, (w2, .osl 30 5 ((x2.set (Int.toNat x3) y3).map encOVal)))]) [(3003, [3003]), (3004, [3004]), (9005, []), (14, []), (15, []), (61, []), (3001, []), (20, [])] [3003, 3004, 9005] [some 14, some 15, some 9005, some 3001] (fun ν2 => [(4, .ptr 14 b2 0), (5, .ptr 15 (bse (ν1 15)) 0), (8, (encChain (y2 :: a1))), (60, .sl true (a0.list.map encVal)), (61, .int .i64 (a0.list.length : Int)), (62, .int .i64 x3)]) (fun ν2 => [(14, ((.pointer (some ⟨b2, 0, none⟩)), .optr 30 [.int .i64 0, .int .i64 0, .str ([] : Bs), .nil, .nil])), (15, ((.pointer (some ⟨(bse (ν1 15)), 0, none⟩)), .optr 30 [.int .i64 a0.kind, .int .i64 a0.num, .str a0.text, .hd 61 w2, .hd 3001 (ν1 3001)])), (61, (w2, .osl 30 5 ((x2.set (Int.toNat x3) y3).map encOVal))), (3001, ((ν1 3001), .osl 9 1 (y1.map encS)))]) (le_w [some 14, some 15, some 61, some 3001, some 20] rfl ⟨⟨_, rfl, .refl _⟩, ⟨⟨_, rfl, .refl _⟩, ⟨⟨_, rfl, .refl _⟩, ⟨⟨_, rfl, .refl _⟩, ⟨⟨_, rfl, .refl _⟩, ⟨⟨_, rfl, .refl _⟩, ⟨⟨_, rfl, .refl _⟩, ⟨⟨_, rfl, .refl _⟩, trivial⟩⟩⟩⟩⟩⟩⟩⟩ ⟨⟨_, rfl, .refl _⟩, ⟨⟨_, rfl, .refl _⟩, ⟨⟨_, rfl, .refl _⟩, ⟨⟨_, rfl, .refl _⟩, ⟨⟨_, rfl, .refl _⟩, trivial⟩⟩⟩⟩⟩ (by decide)) (by kernel_rfl) ⟨?_, ⟨?_, ⟨?_, ⟨?_, ⟨?_, ⟨?_, ⟨?_, ⟨?_, trivial⟩⟩⟩⟩⟩⟩⟩⟩ ⟨fun _ _ _ => rfl, ⟨fun _ _ _ => rfl, ⟨fun _ _ _ => rfl, ⟨fun _ _ _ => rfl, ⟨fun _ _ _ => rfl, ⟨fun _ _ h => (cong2 (fun zz0 zz1 => (some (.agg [.int .i64 y3.kind, .int .i64 y3.num, .str y3.text, .hd 3003 zz0, .hd 3004 zz1]) : Option AV)) (h 3003 (by decide)) (h 3004 (by decide))), ⟨fun _ _ _ => rfl, ⟨fun _ _ _ => rfl, trivial⟩⟩⟩⟩⟩⟩⟩⟩ ⟨fun _ _ h => (congrArg (fun zz0 => (some (zz0, .osl 30 5 (y3.list.map encOVal)) : Option (Value × AV))) (h 3003 (by decide))), ⟨fun _ _ h => (congrArg (fun zz0 => (some (zz0, .osl 9 1 (y3.names.map encS)) : Option (Value × AV))) (h 3004 (by decide))), ⟨fun _ _ _ => rfl, ⟨fun _ _ _ => rfl, ⟨fun _ _ _ => rfl, ⟨fun _ _ _ => rfl, ⟨fun _ _ _ => rfl, ⟨fun _ _ _ => rfl, trivial⟩⟩⟩⟩⟩⟩⟩⟩ (fun _ => rfl) (fun _ => rfl) (by kernel_rfl) (fun _ => ⟨⟨_, rfl, .refl _⟩, ⟨⟨_, rfl, .refl _⟩, ⟨⟨_, rfl, .refl _⟩, ⟨⟨_, rfl, .refl _⟩, ⟨⟨_, rfl, .refl _⟩, ⟨⟨_, rfl, .refl _⟩, trivial⟩⟩⟩⟩⟩⟩) (fun _ => ⟨⟨_, rfl, .refl _⟩, ⟨⟨_, rfl, .refl _⟩, ⟨⟨_, rfl, .refl _⟩, ⟨⟨_, rfl, .refl _⟩, trivial⟩⟩⟩⟩) (by kernel_rfl) (by decide) ?_
        · refine local_mk (fun ν2 => [(5, .ptr 15 (bse (ν1 15)) 0)]) (fun ν2 => []) (fun _ => rfl) (fun _ => ⟨⟨_, rfl, .refl _, .refl _⟩, trivial⟩) (fun _ => rfl) (fun _ => trivial) ?_
          intro ν2 S H hS hfr
          refine st_op rfl (ValOk.op (v_fieldP tabOk rfl tfoff30_3 rfl ?_)) 
          exact lp_v hS rfl rfl (fun _ => rfl)
        · refine local_mk (fun ν2 => [(67, .ptr 15 (bse (ν1 15)) 3)]) (fun ν2 => [(15, ((.pointer (some ⟨(bse (ν1 15)), 0, none⟩)), .optr 30 [.int .i64 a0.kind, .int .i64 a0.num, .str a0.text, .hd 61 w2, .hd 3001 (ν1 3001)]))]) (fun _ => rfl) (fun _ => ⟨⟨_, rfl, .refl _, .refl _⟩, trivial⟩) (fun _ => rfl) (fun _ => ⟨rfl, trivial⟩) ?_
          intro ν2 S H hS hfr
          refine st_op rfl (ValOk.op (v_loadP tabOk rfl rfl tsize28 tagg28 rfl rfl rfl rfl ?_)) 
          exact lp_v hS rfl rfl (fun _ => rfl)
        · refine local_mk (fun ν2 => [(9, .int .i64 x3)]) (fun ν2 => []) (fun _ => rfl) (fun _ => ⟨⟨_, rfl, .refl _, .refl _⟩, trivial⟩) (fun _ => rfl) (fun _ => trivial) ?_
          intro ν2 S H hS hfr
          refine st_op rfl (ValOk.op (v_move rfl rfl ?_)) 
          exact lp_v hS rfl rfl (fun _ => rfl)
        · refine local_mk (fun ν2 => [(10, .ptr 20 b5 0)]) (fun ν2 => [(20, ((.pointer (some ⟨b5, 0, none⟩)), .optr 30 [.int .i64 ((ix a0.list x3).kind), .int .i64 ((ix a0.list x3).num), .str ((ix a0.list x3).text), .sl true (((ix a0.list x3).list).map encVal), .sl false (((ix a0.list x3).names).map encS)]))]) (fun _ => rfl) (fun _ => ⟨⟨_, rfl, .refl _, .refl _⟩, trivial⟩) (fun _ => rfl) (fun _ => ⟨rfl, trivial⟩) ?_
          intro ν2 S H hS hfr
          refine st_op rfl (ValOk.op (v_loadP tabOk rfl rfl tsize30 tagg30 rfl rfl rfl rfl ?_)) 
          exact lp_v hS rfl rfl (fun _ => rfl)
        · refine local_mk (fun ν2 => [(8, (encChain (y2 :: a1)))]) (fun ν2 => []) (fun _ => rfl) (fun _ => ⟨⟨_, rfl, .refl _, .refl _⟩, trivial⟩) (fun _ => rfl) (fun _ => trivial) ?_
          intro ν2 S H hS hfr
          refine st_op rfl (ValOk.op (v_move rfl rfl ?_)) 
          exact lp_v hS rfl rfl (fun _ => rfl)
        · refine local_mk (fun ν2 => [(70, .agg [.int .i64 ((ix a0.list x3).kind), .int .i64 ((ix a0.list x3).num), .str ((ix a0.list x3).text), .sl true (((ix a0.list x3).list).map encVal), .sl false (((ix a0.list x3).names).map encS)]), (71, (encChain (y2 :: a1)))]) (fun ν2 => []) (fun _ => rfl) (fun _ => ⟨⟨_, rfl, .refl _, .refl _⟩, ⟨⟨_, rfl, .refl _, .refl _⟩, trivial⟩⟩) (fun _ => rfl) (fun _ => trivial) ?_
          intro ν2 S H hS hfr
          refine st_op rfl (o_callDa [] [] [] (core_value rfl rfl) ((ih m1 (by omega)) (ix a0.list x3) (y2 :: a1) _ hy3) trivial (.cons (.refl _) (.cons (.refl _) (.nil))) trivial rfl rfl rfl ?_)
          rintro _ _ ⟨w3, w4, rfl, rfl⟩
          refine ⟨.agg [.int .i64 y3.kind, .int .i64 y3.num, .str y3.text, .hd 3003 w3, .hd 3004 w4], [(3003, _), (3004, _)], .agg (.cons (.refl _) (.cons (.refl _) (.cons (.refl _) (.cons (.hd _ _ _) (.cons (.hd _ _ _) (.nil)))))), rfl, rfl, rfl, (fun x hx => has_minus (hfr x hx)), .inl rfl, ?_⟩
          exact lp_mm (hN := [(3003, _), (3004, _)]) hS rfl rfl (fun _ => rfl) ⟨rfl, ⟨rfl, trivial⟩⟩
        · refine local_mk (fun ν2 => [(68, .hd 61 w2), (69, .int .i64 x3)]) (fun ν2 => [(61, (w2, .osl 30 5 (x2.map encOVal)))]) (fun _ => rfl) (fun _ => ⟨⟨_, rfl, .refl _, .refl _⟩, ⟨⟨_, rfl, .refl _, .refl _⟩, trivial⟩⟩) (fun _ => rfl) (fun _ => ⟨rfl, trivial⟩) ?_
          intro ν2 S H hS hfr
          refine st_op rfl (ValOk.op (v_idxHM (q := 61) tabOk ⟨_, rfl⟩ rfl rfl telem28 tsize30 hb4 rfl ?_)) 
          exact lp_v hS rfl rfl (fun _ => rfl)
        · refine local_mk (fun ν2 => [(73, .rptr 61 w2 5 (Int.toNat x3) 0), (72, .agg [.int .i64 y3.kind, .int .i64 y3.num, .str y3.text, .hd 3003 (ν2 3003), .hd 3004 (ν2 3004)])]) (fun ν2 => [(61, (w2, .osl 30 5 (x2.map encOVal))), (3003, ((ν2 3003), .osl 30 5 (y3.list.map encOVal))), (3004, ((ν2 3004), .osl 9 1 (y3.names.map encS)))]) (fun _ => rfl) (fun _ => ⟨⟨_, rfl, .refl _, .refl _⟩, ⟨⟨_, rfl, .refl _, .refl _⟩, trivial⟩⟩) (fun _ => rfl) (fun _ => ⟨rfl, ⟨rfl, ⟨rfl, trivial⟩⟩⟩) ?_
          intro ν2 S H hS hfr
          refine st_op rfl (OpOk.le (o_storeR (row' := [.int .i64 y3.kind, .int .i64 y3.num, .str y3.text, .hd 3003 (ν2 3003), .hd 3004 (ν2 3004)]) tabOk rfl rfl tsize30 rfl ((get_map hb4.1 hb4.2).trans (congrArg some (encOVal_eq _))) rfl rfl (by decide) rfl rfl rfl ?_))
          refine ⟨_, (Le.trans (Le.trans (Le.trans (Le.trans (le_absorb1 (k := 61) (k2 := 3003) (rows' := (x2.map encOVal).set (Int.toNat x3) [.int .i64 y3.kind, .int .i64 y3.num, .str y3.text, .osl 30 5 (y3.list.map encOVal), .hd 3004 (ν2 3004)]) (Int.toNat x3) 3 _ rfl (by decide) (rows_set_get (by have := hb4; simp only [List.length_set, List.length_map]; omega)) rfl (rows_set_set)) (le_mm (rs := [61, 3003]) rfl)) (le_absorb1 (k := 61) (k2 := 3004) (rows' := (x2.set (Int.toNat x3) y3).map encOVal) (Int.toNat x3) 4 _ rfl (by decide) (rows_set_get (by have := hb4; simp only [List.length_set, List.length_map]; omega)) rfl (rows_set_done (f := encOVal) (z := y3) (encOVal_eq _)))) (le_mm (rs := [61, 3003, 3004]) rfl)) (le_mm0 (rs := [61, 3003, 3004]) rfl)), ?_⟩
          exact lp_m (k := 9005) hS rfl rfl (.inr (by decide)) (fun _ => rfl) rfl
        intro ν2
        refine hK16 _ ?_
        refine good_region ?_
        refine g_op rfl (ValOk.op (v_bin rfl rfl rfl rfl ?_)) 
        refine g_op rfl (ValOk.op (v_move rfl rfl ?_)) 
        refine g_nil ?_
        exact round_mk m1 (x2.set (Int.toNat x3) y3, IntKind.wrap .i64 (x3 + 1)) (Nat.lt_succ_self _) ⟨by omega, h⟩ (le_w [some 14, some 15, some 61, some 3001] rfl ⟨⟨_, rfl, .refl _⟩, ⟨⟨_, rfl, .refl _⟩, ⟨⟨_, rfl, .refl _⟩, ⟨⟨_, rfl, .refl _⟩, ⟨⟨_, rfl, .refl _⟩, ⟨⟨_, rfl, .refl _⟩, trivial⟩⟩⟩⟩⟩⟩ ⟨⟨_, rfl, .refl _⟩, ⟨⟨_, rfl, .refl _⟩, ⟨⟨_, rfl, .refl _⟩, ⟨⟨_, rfl, .refl _⟩, trivial⟩⟩⟩⟩ (by decide))
      · replace h := ifF h (dF hc2)
        refine good_exit ?_
        exact hw2 x2 (Option.some.inj h).symm _ (le_w [some 14, some 15, some 61, some 3001] rfl ⟨⟨_, rfl, .refl _⟩, ⟨⟨_, rfl, .refl _⟩, trivial⟩⟩ ⟨⟨_, rfl, .refl _⟩, ⟨⟨_, rfl, .refl _⟩, ⟨⟨_, rfl, .refl _⟩, ⟨⟨_, rfl, .refl _⟩, trivial⟩⟩⟩⟩ (by decide))
    replace h := ho1
    refine good_block ?_
    refine good_loopf (fun p : (List (List Val)) => ⟨76, [(1, (encChain a1)), (2, .ptr 12 b1 0), (4, .ptr 14 b2 0), (5, .ptr 15 (bse (ν1 15)) 0), (6, .ptr 16 b3 0), (7, (encChain p))], [(12, ((.pointer (some ⟨b1, 0, none⟩)), .optr 30 [.int .i64 a0.kind, .int .i64 a0.num, .str a0.text, .sl true (a0.list.map encVal), .sl false (a0.names.map encS)])), (14, ((.pointer (some ⟨b2, 0, none⟩)), .optr 30 [.int .i64 0, .int .i64 0, .str ([] : Bs), .nil, .nil])), (15, ((.pointer (some ⟨(bse (ν1 15)), 0, none⟩)), .optr 30 [.int .i64 a0.kind, .int .i64 a0.num, .str a0.text, .nil, .hd 3001 (ν1 3001)])), (3001, ((ν1 3001), .osl 9 1 (y1.map encS))), (16, ((.pointer (some ⟨b3, 0, none⟩)), .optr 62 [.spt (y2.map encVal), .int .i64 (y2.length : Int)]))]⟩) (fun m p => m < k + 1 ∧ m_impl_copyWithin_l1 m y2 p = some o1) k (a1) (le_w [some 12, some 14, some 15, some 3001, some 16] rfl ⟨⟨_, rfl, .refl _⟩, ⟨⟨_, rfl, .refl _⟩, ⟨⟨_, rfl, .refl _⟩, ⟨⟨_, rfl, .refl _⟩, ⟨⟨_, rfl, .refl _⟩, ⟨⟨_, rfl, .refl _⟩, trivial⟩⟩⟩⟩⟩⟩ ⟨⟨_, rfl, .refl _⟩, ⟨⟨_, rfl, .refl _⟩, ⟨⟨_, rfl, .refl _⟩, ⟨⟨_, rfl, .refl _⟩, ⟨⟨_, rfl, .refl _⟩, trivial⟩⟩⟩⟩⟩ (by decide)) ⟨by omega, h⟩ ?_
    rintro m2 x1 ⟨hm, h⟩
    replace h : m_impl_copyWithin_l1 m2 y2 x1 = some o1 := h
    refine Good.le (σ' := ⟨76, [(1, (encChain a1)), (2, .ptr 12 b1 0), (4, .ptr 14 b2 0), (5, .ptr 15 (bse (ν1 15)) 0), (6, .ptr 16 b3 0), (7, (encChain x1))], [(12, ((.pointer (some ⟨b1, 0, none⟩)), .optr 30 [.int .i64 a0.kind, .int .i64 a0.num, .str a0.text, .sl true (a0.list.map encVal), .sl false (a0.names.map encS)])), (14, ((.pointer (some ⟨b2, 0, none⟩)), .optr 30 [.int .i64 0, .int .i64 0, .str ([] : Bs), .nil, .nil])), (15, ((.pointer (some ⟨(bse (ν1 15)), 0, none⟩)), .optr 30 [.int .i64 a0.kind, .int .i64 a0.num, .str a0.text, .nil, .hd 3001 (ν1 3001)])), (3001, ((ν1 3001), .osl 9 1 (y1.map encS))), (16, ((.pointer (some ⟨b3, 0, none⟩)), .optr 62 [.spt (y2.map encVal), .int .i64 (y2.length : Int)]))]⟩) (Le.refl _) ?_
    obtain ⟨m2, rfl⟩ : ∃ m', m2 = m' + 1 := by cases m2 with | zero => (rw [m_impl_copyWithin_l1] at h; cases h) | succ m' => exact ⟨m', rfl⟩
    rw [m_impl_copyWithin_l1] at h
    refine good_seq fun K18 hK18 => ?_
    refine good_seq fun K19 hK19 => ?_
    refine good_region ?_
    refine g_op rfl (ValOk.op (v_move rfl rfl ?_)) 
    refine g_op rfl (ValOk.op (v_chainNe rfl rfl tkind121 rfl ?_)) 
    refine g_nil ?_
    refine hK19 _ ?_
    refine Good.le (σ' := ⟨76, [(1, _), (2, _), (4, _), (5, _), (6, _), (7, _), (31, _)], [(12, (_, _)), (14, (_, _)), (15, (_, _)), (3001, (_, _)), (16, (_, _))]⟩) (le_w [some 12, some 14, some 15, some 3001, some 16] rfl ⟨⟨_, rfl, .refl _⟩, ⟨⟨_, rfl, .refl _⟩, ⟨⟨_, rfl, .refl _⟩, ⟨⟨_, rfl, .refl _⟩, ⟨⟨_, rfl, .refl _⟩, ⟨⟨_, rfl, .refl _⟩, ⟨⟨_, rfl, .refl _⟩, trivial⟩⟩⟩⟩⟩⟩⟩ ⟨⟨_, rfl, .refl _⟩, ⟨⟨_, rfl, .refl _⟩, ⟨⟨_, rfl, .refl _⟩, ⟨⟨_, rfl, .refl _⟩, ⟨⟨_, rfl, .refl _⟩, trivial⟩⟩⟩⟩⟩ (by decide)) ?_
    refine good_cond rfl (fun hc3 => ?_) (fun hc3 => ?_)
    · replace h := ifF h (ndT hc3)
      refine good_skip ?_
      refine hK18 _ ?_
      refine Good.le (σ' := ⟨76, [(1, _), (2, _), (4, _), (5, _), (6, _), (7, _)], [(12, (_, _)), (14, (_, _)), (15, (_, _)), (3001, (_, _)), (16, (_, _))]⟩) (le_w [some 12, some 14, some 15, some 3001, some 16] rfl ⟨⟨_, rfl, .refl _⟩, ⟨⟨_, rfl, .refl _⟩, ⟨⟨_, rfl, .refl _⟩, ⟨⟨_, rfl, .refl _⟩, ⟨⟨_, rfl, .refl _⟩, ⟨⟨_, rfl, .refl _⟩, trivial⟩⟩⟩⟩⟩⟩ ⟨⟨_, rfl, .refl _⟩, ⟨⟨_, rfl, .refl _⟩, ⟨⟨_, rfl, .refl _⟩, ⟨⟨_, rfl, .refl _⟩, ⟨⟨_, rfl, .refl _⟩, trivial⟩⟩⟩⟩⟩ (by decide)) ?_
      refine good_seq fun K20 hK20 => ?_
      refine good_block ?_
      refine good_seq fun K21 hK21 => ?_
      refine good_draw (by kernel_rfl) (by kernel_rfl) ?_
      refine q_op rfl (v_move rfl rfl ?_) 
      obtain ⟨hb5, h⟩ := ifS h
      refine q_op rfl (v_chainNil rfl hb5 rfl ?_) 
      refine q_op rfl (v_fieldE tabOk rfl tfoff123_0 rfl rfl ?_) 
      refine q_op rfl (v_loadE tabOk rfl tsize62 tagg62 rfl rfl rfl ?_) 
      refine q_op rfl (v_loadP tabOk rfl rfl tsize62 tagg62 rfl rfl rfl rfl ?_) 
      obtain ⟨hb6, h⟩ := ifS h
      refine q_op rfl (v_spanNe rfl rfl hb6 rfl ?_) 
      refine q_nil ?_
      refine hK21 _ ?_
      refine Good.le (σ' := ⟨76, [(1, _), (2, _), (4, _), (5, _), (6, _), (7, _), (41, _)], [(12, (_, _)), (14, (_, _)), (15, (_, _)), (3001, (_, _)), (16, (_, _))]⟩) (le_w [some 12, some 14, some 15, some 3001, some 16] rfl ⟨⟨_, rfl, .refl _⟩, ⟨⟨_, rfl, .refl _⟩, ⟨⟨_, rfl, .refl _⟩, ⟨⟨_, rfl, .refl _⟩, ⟨⟨_, rfl, .refl _⟩, ⟨⟨_, rfl, .refl _⟩, ⟨⟨_, rfl, .refl _⟩, trivial⟩⟩⟩⟩⟩⟩⟩ ⟨⟨_, rfl, .refl _⟩, ⟨⟨_, rfl, .refl _⟩, ⟨⟨_, rfl, .refl _⟩, ⟨⟨_, rfl, .refl _⟩, ⟨⟨_, rfl, .refl _⟩, trivial⟩⟩⟩⟩⟩ (by decide)) ?_
      refine good_cond (b := false) rfl (fun hc => Bool.noConfusion hc) (fun hc => ?_)
      refine good_skip ?_
      refine hK20 _ ?_
      refine Good.le (σ' := ⟨76, [(1, _), (2, _), (4, _), (5, _), (6, _), (7, _)], [(12, (_, _)), (14, (_, _)), (15, (_, _)), (3001, (_, _)), (16, (_, _))]⟩) (le_w [some 12, some 14, some 15, some 3001, some 16] rfl ⟨⟨_, rfl, .refl _⟩, ⟨⟨_, rfl, .refl _⟩, ⟨⟨_, rfl, .refl _⟩, ⟨⟨_, rfl, .refl _⟩, ⟨⟨_, rfl, .refl _⟩, ⟨⟨_, rfl, .refl _⟩, trivial⟩⟩⟩⟩⟩⟩ ⟨⟨_, rfl, .refl _⟩, ⟨⟨_, rfl, .refl _⟩, ⟨⟨_, rfl, .refl _⟩, ⟨⟨_, rfl, .refl _⟩, ⟨⟨_, rfl, .refl _⟩, trivial⟩⟩⟩⟩⟩ (by decide)) ?_
      refine good_region ?_
      refine g_op rfl (ValOk.op (v_move rfl rfl ?_)) 
      obtain ⟨hb7, h⟩ := ifS h
      refine g_op rfl (ValOk.op (v_chainNil rfl hb7 rfl ?_)) 
      refine g_op rfl (ValOk.op (v_fieldE tabOk rfl tfoff123_2 rfl rfl ?_)) 
      refine g_op rfl (ValOk.op (v_loadE tabOk rfl tsize121 tagg121 rfl rfl rfl ?_)) 
      refine g_op rfl (ValOk.op (v_assign rfl rfl ?_)) 
      refine g_nil ?_
      exact round_mk m2 (x1.tail) (Nat.lt_succ_self _) ⟨by omega, h⟩ (le_w [some 12, some 14, some 15, some 3001, some 16] rfl ⟨⟨_, rfl, .refl _⟩, ⟨⟨_, rfl, .refl _⟩, ⟨⟨_, rfl, .refl _⟩, ⟨⟨_, rfl, .refl _⟩, ⟨⟨_, rfl, .refl _⟩, ⟨⟨_, rfl, .refl _⟩, trivial⟩⟩⟩⟩⟩⟩ ⟨⟨_, rfl, .refl _⟩, ⟨⟨_, rfl, .refl _⟩, ⟨⟨_, rfl, .refl _⟩, ⟨⟨_, rfl, .refl _⟩, ⟨⟨_, rfl, .refl _⟩, trivial⟩⟩⟩⟩⟩ (by decide))
    · replace h := ifT h (ndF hc3)
      refine good_exit ?_
      exact hw1 () (Option.some.inj h).symm _ (le_w [some 12, some 14, some 15, some 3001, some 16] rfl ⟨⟨_, rfl, .refl _⟩, ⟨⟨_, rfl, .refl _⟩, ⟨⟨_, rfl, .refl _⟩, ⟨⟨_, rfl, .refl _⟩, ⟨⟨_, rfl, .refl _⟩, trivial⟩⟩⟩⟩⟩ ⟨⟨_, rfl, .refl _⟩, ⟨⟨_, rfl, .refl _⟩, ⟨⟨_, rfl, .refl _⟩, ⟨⟨_, rfl, .refl _⟩, ⟨⟨_, rfl, .refl _⟩, trivial⟩⟩⟩⟩⟩ (by decide))
theorem m_impl_copyWithin_all (k : Nat) : P_m_impl_copyWithin k := by
  induction k using Nat.strongRecOn with
  | _ k ih => exact m_impl_copyWithin_step k ih
theorem m_impl_copyWithin_ok (k : Nat) : ∀ (a0 : Val) (a1 : (List (List Val))) (r : Val), m_impl_copyWithin k a0 a1 = some r → Does Try.prog 85 [.agg [.int .i64 a0.kind, .int .i64 a0.num, .str a0.text, .sl true (a0.list.map encVal), .sl false (a0.names.map encS)], (encChain a1)] [] (fun q h' => ∃ u0 : Value, ∃ u1 : Value, q = .agg [.int .i64 r.kind, .int .i64 r.num, .str r.text, .hd 100 u0, .hd 101 u1] ∧ h' = [(100, (u0, .osl 30 5 (r.list.map encOVal))), (101, (u1, .osl 9 1 (r.names.map encS)))]) := (m_impl_copyWithin_all k)
theorem m_impl_copyWithin_okF (k : Nat) : ∀ (a0 : Val) (a1 : (List (List Val))) (r : Val), m_impl_copyWithin k a0 a1 = some r → Does Try.prog 85 [.agg [.int .i64 a0.kind, .int .i64 a0.num, .str a0.text, .sl true (a0.list.map encVal), .sl false (a0.names.map encS)], (encChain a1)] [] (ret (.agg [.int .i64 r.kind, .int .i64 r.num, .str r.text, .sl true (r.list.map encVal), .sl false (r.names.map encS)])) := by
  intro a0 a1 r h
  refine does_frz (m_impl_copyWithin_ok k a0 a1 r h) ?_
  rintro q h' ⟨u0, u1, rfl, rfl⟩
  exact ⟨[100, 101], [(_, _), (_, _)], ⟨⟨_, rfl, .osl (FrzLL.map fun _ _ => encOVal_frz _)⟩, ⟨⟨_, rfl, .osl (FrzLL.map fun _ _ => encS_frz _)⟩, trivial⟩⟩, .agg (.cons (.refl _) (.cons (.refl _) (.cons (.refl _) (.cons (.frz _ _ _ (.head _)) (.cons (.frz _ _ _ (.tail _ (.head _))) (.nil))))))⟩
end Go.Proofs.Ytiaigcdckmpepaa
