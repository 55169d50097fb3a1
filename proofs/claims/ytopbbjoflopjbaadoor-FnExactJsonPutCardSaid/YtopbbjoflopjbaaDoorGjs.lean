/- What functions of this program answer, as plain functions; each theorem says that the code comes to just that. -/
import Derived.Test.YtopbbjoflopjbaaDoorDat
import Derived.Test.YtopbbjoflopjbaaDoorB13
import Derived.Test.YtopbbjoflopjbaaDoorDatO
import Derived.Test.YtopbbjoflopjbaaDoorGnm
import Derived.Test.YtopbbjoflopjbaaDoorGok
/-! Functions of the program. -/
set_option linter.unusedVariables false
set_option maxRecDepth 100000
set_option maxHeartbeats 20000000
namespace Go.Proofs.YtopbbjoflopjbaaDoor
open Go.Bb
def m_spec_l1Dec : Nat → Int → Option Bs
  | 0, _ => none
  | k + 1, a0 =>
    if a0 < (-9223372036854775807) then
      some [45, 57, 50, 50, 51, 51, 55, 50, 48, 51, 54, 56, 53, 52, 55, 55, 53, 56, 48, 56]
    else
      if a0 < 0 then
        (m_spec_l1Dec k (IntKind.wrap .i64 (0 - a0))).bind fun y1 =>
        if ([45] ++ y1).length ≤ maxLen then
          some ([45] ++ y1)
        else none
      else
        if a0 < 10 then
          some (ofI [IntKind.wrap .u8 (IntKind.wrap .i64 (48 + a0))])
        else
          (m_spec_l1Dec k (IntKind.wrap .i64 (Int.tdiv a0 10))).bind fun y2 =>
          if (y2 ++ (ofI [IntKind.wrap .u8 (IntKind.wrap .i64 (48 + (Int.tmod a0 10)))])).length ≤ maxLen then
            some (y2 ++ (ofI [IntKind.wrap .u8 (IntKind.wrap .i64 (48 + (Int.tmod a0 10)))]))
          else none
def P_m_spec_l1Dec (k : Nat) : Prop := ∀ (a0 : Int) (r : Bs), m_spec_l1Dec k a0 = some r → Does Tryd.prog 25 [.int .i64 a0] [] (ret (.str r))
theorem m_spec_l1Dec_step (k : Nat) (ih : ∀ m, m < k → P_m_spec_l1Dec m) : P_m_spec_l1Dec k := by
  intro a0 r h
  obtain ⟨k, rfl⟩ : ∃ k', k = k' + 1 := by cases k with | zero => (rw [m_spec_l1Dec] at h; cases h) | succ k' => exact ⟨k', rfl⟩
  rw [m_spec_l1Dec] at h
  refine does_of_good tabOk Tryd.func25 rfl (by decide +kernel) (Nat.le_of_ble_eq_true rfl) fun c => ?_
  refine Good.le (σ' := ⟨28, [(0, .int .i64 a0)], []⟩) (Le.refl _) ?_
  refine good_seq fun K1 hK1 => ?_
  refine good_region ?_
  refine g_op rfl (ValOk.op (v_assign rfl rfl ?_)) 
  refine g_nil ?_
  refine hK1 _ ?_
  refine good_seq fun K2 hK2 => ?_
  refine good_seq fun K3 hK3 => ?_
  refine good_region ?_
  refine g_op rfl (ValOk.op (v_move rfl rfl ?_)) 
  refine g_op rfl (ValOk.op (v_bin rfl rfl rfl rfl ?_)) 
  refine g_nil ?_
  refine hK3 _ ?_
  refine Good.le (σ' := ⟨28, [(0, _), (2, _), (4, _)], []⟩) (le_w [] rfl ⟨⟨_, rfl, .refl _⟩, ⟨⟨_, rfl, .refl _⟩, ⟨⟨_, rfl, .refl _⟩, trivial⟩⟩⟩ trivial (by decide)) ?_
  refine good_cond rfl (fun hc1 => ?_) (fun hc1 => ?_)
  · replace h := ifT h (dT hc1)
    refine good_seq fun K4 hK4 => ?_
    refine good_region ?_
    refine g_op rfl (ValOk.op (v_assign rfl rfl ?_)) 
    refine g_nil ?_
    refine hK4 _ ?_
    refine Good.le (σ' := ⟨28, [(0, _), (2, _)], []⟩) (le_w [] rfl ⟨⟨_, rfl, .refl _⟩, ⟨⟨_, rfl, .refl _⟩, trivial⟩⟩ trivial (by decide)) ?_
    refine Good.le (σ' := ⟨28, [(2, .str [45, 57, 50, 50, 51, 51, 55, 50, 48, 51, 54, 56, 53, 52, 55, 55, 53, 56, 48, 56])], []⟩) (le_w [] rfl ⟨⟨_, rfl, .refl _⟩, trivial⟩ trivial (by decide)) ?_
    refine good_ret ?_
    obtain rfl := Option.some.inj h
    refine thenQ_ret ?_
    exact endQ_ret (h' := []) [] (.tmp rfl (.nil)) trivial (by decide) ⟨rfl, rfl⟩
  · replace h := ifF h (dF hc1)
    refine good_skip ?_
    refine hK2 _ ?_
    refine Good.le (σ' := ⟨28, [(0, _), (2, _)], []⟩) (le_w [] rfl ⟨⟨_, rfl, .refl _⟩, ⟨⟨_, rfl, .refl _⟩, trivial⟩⟩ trivial (by decide)) ?_
    refine good_seq fun K5 hK5 => ?_
    refine good_seq fun K6 hK6 => ?_
    refine good_region ?_
    refine g_op rfl (ValOk.op (v_move rfl rfl ?_)) 
    refine g_op rfl (ValOk.op (v_bin rfl rfl rfl rfl ?_)) 
    refine g_nil ?_
    refine hK6 _ ?_
    refine Good.le (σ' := ⟨28, [(0, _), (2, _), (6, _)], []⟩) (le_w [] rfl ⟨⟨_, rfl, .refl _⟩, ⟨⟨_, rfl, .refl _⟩, ⟨⟨_, rfl, .refl _⟩, trivial⟩⟩⟩ trivial (by decide)) ?_
    refine good_cond rfl (fun hc2 => ?_) (fun hc2 => ?_)
    · replace h := ifT h (dT hc2)
      refine good_seq fun K7 hK7 => ?_
      refine good_region ?_
      refine g_op rfl (ValOk.op (v_move rfl rfl ?_)) 
      refine g_op rfl (ValOk.op (v_neg rfl rfl ?_)) 
      obtain ⟨y1, hy1, h⟩ := bnd h
      refine g_op rfl (o_callR [] [] (core_value rfl rfl) ((ih k (by omega)) (IntKind.wrap .i64 (0 - a0)) _ hy1) trivial (.cons (.refl _) (.nil)) (.inl rfl) rfl ?_)
      obtain ⟨hb1, h⟩ := ifS h
      refine g_op rfl (ValOk.op (v_cat rfl rfl hb1 rfl ?_)) 
      refine g_op rfl (ValOk.op (v_assign rfl rfl ?_)) 
      refine g_nil ?_
      refine hK7 _ ?_
      refine Good.le (σ' := ⟨28, [(0, _), (2, _)], []⟩) (le_w [] rfl ⟨⟨_, rfl, .refl _⟩, ⟨⟨_, rfl, .refl _⟩, trivial⟩⟩ trivial (by decide)) ?_
      refine Good.le (σ' := ⟨28, [(2, .str ([45] ++ y1))], []⟩) (le_w [] rfl ⟨⟨_, rfl, .refl _⟩, trivial⟩ trivial (by decide)) ?_
      refine good_ret ?_
      obtain rfl := Option.some.inj h
      refine thenQ_ret ?_
      exact endQ_ret (h' := []) [] (.tmp rfl (.nil)) trivial (by decide) ⟨rfl, rfl⟩
    · replace h := ifF h (dF hc2)
      refine good_skip ?_
      refine hK5 _ ?_
      refine Good.le (σ' := ⟨28, [(0, _), (2, _)], []⟩) (le_w [] rfl ⟨⟨_, rfl, .refl _⟩, ⟨⟨_, rfl, .refl _⟩, trivial⟩⟩ trivial (by decide)) ?_
      refine good_seq fun K8 hK8 => ?_
      refine good_seq fun K9 hK9 => ?_
      refine good_region ?_
      refine g_op rfl (ValOk.op (v_move rfl rfl ?_)) 
      refine g_op rfl (ValOk.op (v_bin rfl rfl rfl rfl ?_)) 
      refine g_nil ?_
      refine hK9 _ ?_
      refine Good.le (σ' := ⟨28, [(0, _), (2, _), (12, _)], []⟩) (le_w [] rfl ⟨⟨_, rfl, .refl _⟩, ⟨⟨_, rfl, .refl _⟩, ⟨⟨_, rfl, .refl _⟩, trivial⟩⟩⟩ trivial (by decide)) ?_
      refine good_cond rfl (fun hc3 => ?_) (fun hc3 => ?_)
      · replace h := ifT h (dT hc3)
        refine good_seq fun K10 hK10 => ?_
        refine good_region ?_
        refine g_op rfl (ValOk.op (v_move rfl rfl ?_)) 
        refine g_op rfl (ValOk.op (v_bin rfl rfl rfl rfl ?_)) 
        refine g_op rfl (ValOk.op (v_convI tabOk rfl tkind3 tkind5 rfl ?_)) 
        refine g_op rfl (o_buildSlice (k := 26) (rows := [IntKind.wrap .u8 (IntKind.wrap .i64 (48 + a0))].map (encI .u8)) tabOk telem30 tsize5 rfl rfl rfl rfl (by decide) (by decide) (by rw [tzero5]; rfl) rfl rfl rfl rfl rfl ?_)
        intro w1
        refine g_op rfl (ValOk.op (v_bytesHI (q := 26) tabOk ⟨_, rfl⟩ rfl telem30 tkind5 tkind9 rfl ?_)) 
        refine g_op rfl (ValOk.op (v_assign rfl rfl ?_)) 
        refine g_nil ?_
        refine hK10 _ ?_
        refine Good.le (σ' := ⟨28, [(0, _), (2, _)], []⟩) (le_w [] rfl ⟨⟨_, rfl, .refl _⟩, ⟨⟨_, rfl, .refl _⟩, trivial⟩⟩ trivial (by decide)) ?_
        refine Good.le (σ' := ⟨28, [(2, .str (ofI [IntKind.wrap .u8 (IntKind.wrap .i64 (48 + a0))]))], []⟩) (le_w [] rfl ⟨⟨_, rfl, .refl _⟩, trivial⟩ trivial (by decide)) ?_
        refine good_ret ?_
        obtain rfl := Option.some.inj h
        refine thenQ_ret ?_
        exact endQ_ret (h' := []) [] (.tmp rfl (.nil)) trivial (by decide) ⟨rfl, rfl⟩
      · replace h := ifF h (dF hc3)
        refine good_skip ?_
        refine hK8 _ ?_
        refine Good.le (σ' := ⟨28, [(0, _), (2, _)], []⟩) (le_w [] rfl ⟨⟨_, rfl, .refl _⟩, ⟨⟨_, rfl, .refl _⟩, trivial⟩⟩ trivial (by decide)) ?_
        refine good_seq fun K11 hK11 => ?_
        obtain ⟨y2, hy2, h⟩ := bnd h
        obtain ⟨hb2, h⟩ := ifS h
        refine good_anyM (by kernel_rfl) [⟨[], [0], [], [], [], []⟩, ⟨[0], [18], [], [], [], []⟩, ⟨[0, 1], [19], [], [], [], []⟩, ⟨[], [0], [], [], [], []⟩, ⟨[3], [21], [], [], [], []⟩, ⟨[3, 4], [22], [], [], [], []⟩, ⟨[3, 4, 5], [23], [], [], [], []⟩, ⟨[3, 4, 5, 6], [24], [], [], [], []⟩, ⟨[3, 4, 5, 6, 7], [25], [], [], [], []⟩, ⟨[0, 1, 2, 3, 4, 5, 6, 7, 8], [20, 26], [], [], [], []⟩, ⟨[0, 1, 2, 3, 4, 5, 6, 7, 8, 9], [27], [], [], [], []⟩] [some 18, some 19, some 20, some 21, some 22, some 23, some 24, some 25, some 26, some 27, some 2] 28 [(0, .int .i64 a0), (2, .str [])] [] (fun ν1 => [.int .i64 a0, .int .i64 (IntKind.wrap .i64 (Int.tdiv a0 10)), .str y2, .int .i64 a0, .int .i64 (Int.tmod a0 10), .int .i64 (IntKind.wrap .i64 (48 + (Int.tmod a0 10))), .int .u8 (IntKind.wrap .u8 (IntKind.wrap .i64 (48 + (Int.tmod a0 10)))), .sl false ([IntKind.wrap .u8 (IntKind.wrap .i64 (48 + (Int.tmod a0 10)))].map (encI .u8)), .str (ofI [IntKind.wrap .u8 (IntKind.wrap .i64 (48 + (Int.tmod a0 10)))]), .str (y2 ++ (ofI [IntKind.wrap .u8 (IntKind.wrap .i64 (48 + (Int.tmod a0 10)))])), .str (y2 ++ (ofI [IntKind.wrap .u8 (IntKind.wrap .i64 (48 + (Int.tmod a0 10)))]))]) (fun ν1 => []) [] [] [] (fun ν1 => [(2, .str (y2 ++ (ofI [IntKind.wrap .u8 (IntKind.wrap .i64 (48 + (Int.tmod a0 10)))])))]) (fun ν1 => []) (le_w [] rfl ⟨⟨_, rfl, .refl _⟩, ⟨⟨_, rfl, .refl _⟩, trivial⟩⟩ trivial (by decide)) (by kernel_rfl) ⟨?_, ⟨?_, ⟨?_, ⟨?_, ⟨?_, ⟨?_, ⟨?_, ⟨?_, ⟨?_, ⟨?_, ⟨?_, trivial⟩⟩⟩⟩⟩⟩⟩⟩⟩⟩⟩ ⟨fun _ _ _ => rfl, ⟨fun _ _ _ => rfl, ⟨fun _ _ _ => rfl, ⟨fun _ _ _ => rfl, ⟨fun _ _ _ => rfl, ⟨fun _ _ _ => rfl, ⟨fun _ _ _ => rfl, ⟨fun _ _ _ => rfl, ⟨fun _ _ _ => rfl, ⟨fun _ _ _ => rfl, ⟨fun _ _ _ => rfl, trivial⟩⟩⟩⟩⟩⟩⟩⟩⟩⟩⟩ trivial (fun _ => rfl) (fun _ => rfl) (by kernel_rfl) (fun _ => ⟨⟨_, rfl, .refl _⟩, trivial⟩) (fun _ => trivial) (by kernel_rfl) (by decide) ?_
        · refine local_mk (fun ν1 => [(0, .int .i64 a0)]) (fun ν1 => []) (fun _ => rfl) (fun _ => ⟨⟨_, rfl, .refl _, .refl _⟩, trivial⟩) (fun _ => rfl) (fun _ => trivial) ?_
          intro ν1 S H hS hfr
          refine st_op rfl (ValOk.op (v_move rfl rfl ?_)) 
          exact lp_v hS rfl rfl (fun _ => rfl)
        · refine local_mk (fun ν1 => [(18, .int .i64 a0)]) (fun ν1 => []) (fun _ => rfl) (fun _ => ⟨⟨_, rfl, .refl _, .refl _⟩, trivial⟩) (fun _ => rfl) (fun _ => trivial) ?_
          intro ν1 S H hS hfr
          refine st_op rfl (ValOk.op (v_quo rfl rfl (by decide) rfl ?_)) 
          exact lp_v hS rfl rfl (fun _ => rfl)
        · refine local_mk (fun ν1 => [(19, .int .i64 (IntKind.wrap .i64 (Int.tdiv a0 10)))]) (fun ν1 => []) (fun _ => rfl) (fun _ => ⟨⟨_, rfl, .refl _, .refl _⟩, trivial⟩) (fun _ => rfl) (fun _ => trivial) ?_
          intro ν1 S H hS hfr
          refine st_op rfl (o_callR [] [] (core_value rfl rfl) ((ih k (by omega)) (IntKind.wrap .i64 (Int.tdiv a0 10)) _ hy2) trivial (.cons (.refl _) (.nil)) (.inl rfl) rfl ?_)
          exact lp_v hS rfl rfl (fun _ => rfl)
        · refine local_mk (fun ν1 => [(0, .int .i64 a0)]) (fun ν1 => []) (fun _ => rfl) (fun _ => ⟨⟨_, rfl, .refl _, .refl _⟩, trivial⟩) (fun _ => rfl) (fun _ => trivial) ?_
          intro ν1 S H hS hfr
          refine st_op rfl (ValOk.op (v_move rfl rfl ?_)) 
          exact lp_v hS rfl rfl (fun _ => rfl)
        · refine local_mk (fun ν1 => [(21, .int .i64 a0)]) (fun ν1 => []) (fun _ => rfl) (fun _ => ⟨⟨_, rfl, .refl _, .refl _⟩, trivial⟩) (fun _ => rfl) (fun _ => trivial) ?_
          intro ν1 S H hS hfr
          refine st_op rfl (ValOk.op (v_rem rfl rfl (by decide) rfl ?_)) 
          exact lp_v hS rfl rfl (fun _ => rfl)
        · refine local_mk (fun ν1 => [(22, .int .i64 (Int.tmod a0 10))]) (fun ν1 => []) (fun _ => rfl) (fun _ => ⟨⟨_, rfl, .refl _, .refl _⟩, trivial⟩) (fun _ => rfl) (fun _ => trivial) ?_
          intro ν1 S H hS hfr
          refine st_op rfl (ValOk.op (v_bin rfl rfl rfl rfl ?_)) 
          exact lp_v hS rfl rfl (fun _ => rfl)
        · refine local_mk (fun ν1 => [(23, .int .i64 (IntKind.wrap .i64 (48 + (Int.tmod a0 10))))]) (fun ν1 => []) (fun _ => rfl) (fun _ => ⟨⟨_, rfl, .refl _, .refl _⟩, trivial⟩) (fun _ => rfl) (fun _ => trivial) ?_
          intro ν1 S H hS hfr
          refine st_op rfl (ValOk.op (v_convI tabOk rfl tkind3 tkind5 rfl ?_)) 
          exact lp_v hS rfl rfl (fun _ => rfl)
        · refine local_mk (fun ν1 => [(24, .int .u8 (IntKind.wrap .u8 (IntKind.wrap .i64 (48 + (Int.tmod a0 10)))))]) (fun ν1 => []) (fun _ => rfl) (fun _ => ⟨⟨_, rfl, .refl _, .refl _⟩, trivial⟩) (fun _ => rfl) (fun _ => trivial) ?_
          intro ν1 S H hS hfr
          obtain ⟨kf, hkf⟩ := exists_fresh ([] ++ H)
          refine st_op rfl (o_buildSlice (k := kf) (rows := [IntKind.wrap .u8 (IntKind.wrap .i64 (48 + (Int.tmod a0 10)))].map (encI .u8)) tabOk telem30 tsize5 rfl rfl rfl rfl (by decide) (by decide) (by rw [tzero5]; rfl) rfl rfl rfl hkf rfl ?_)
          intro w
          exact lp_fn hS rfl rfl hkf (FrzLL.map fun _ _ => encI_frz _) (fun _ => rfl)
        · refine local_mk (fun ν1 => [(25, .sl false ([IntKind.wrap .u8 (IntKind.wrap .i64 (48 + (Int.tmod a0 10)))].map (encI .u8)))]) (fun ν1 => []) (fun _ => rfl) (fun _ => ⟨⟨_, rfl, .refl _, .refl _⟩, trivial⟩) (fun _ => rfl) (fun _ => trivial) ?_
          intro ν1 S H hS hfr
          refine st_op rfl (ValOk.op (v_bytesLI (l := [IntKind.wrap .u8 (IntKind.wrap .i64 (48 + (Int.tmod a0 10)))]) tabOk rfl telem30 tkind5 tkind9 rfl ?_)) 
          exact lp_v hS rfl rfl (fun _ => rfl)
        · refine local_mk (fun ν1 => [(20, .str y2), (26, .str (ofI [IntKind.wrap .u8 (IntKind.wrap .i64 (48 + (Int.tmod a0 10)))]))]) (fun ν1 => []) (fun _ => rfl) (fun _ => ⟨⟨_, rfl, .refl _, .refl _⟩, ⟨⟨_, rfl, .refl _, .refl _⟩, trivial⟩⟩) (fun _ => rfl) (fun _ => trivial) ?_
          intro ν1 S H hS hfr
          refine st_op rfl (ValOk.op (v_cat rfl rfl hb2 rfl ?_)) 
          exact lp_v hS rfl rfl (fun _ => rfl)
        · refine local_mk (fun ν1 => [(27, .str (y2 ++ (ofI [IntKind.wrap .u8 (IntKind.wrap .i64 (48 + (Int.tmod a0 10)))])))]) (fun ν1 => []) (fun _ => rfl) (fun _ => ⟨⟨_, rfl, .refl _, .refl _⟩, trivial⟩) (fun _ => rfl) (fun _ => trivial) ?_
          intro ν1 S H hS hfr
          refine st_op rfl (ValOk.op (v_assign rfl rfl ?_)) 
          exact lp_v hS rfl rfl (fun _ => rfl)
        intro ν1
        refine hK11 _ ?_
        refine Good.le (σ' := ⟨28, [(2, .str (y2 ++ (ofI [IntKind.wrap .u8 (IntKind.wrap .i64 (48 + (Int.tmod a0 10)))])))], []⟩) (le_w [] rfl ⟨⟨_, rfl, .refl _⟩, trivial⟩ trivial (by decide)) ?_
        refine good_ret ?_
        obtain rfl := Option.some.inj h
        exact endQ_ret (h' := []) [] (.tmp rfl (.nil)) trivial (by decide) ⟨rfl, rfl⟩
theorem m_spec_l1Dec_all (k : Nat) : P_m_spec_l1Dec k := by
  induction k using Nat.strongRecOn with
  | _ k ih => exact m_spec_l1Dec_step k ih
theorem m_spec_l1Dec_ok (k : Nat) : ∀ (a0 : Int) (r : Bs), m_spec_l1Dec k a0 = some r → Does Tryd.prog 25 [.int .i64 a0] [] (ret (.str r)) := (m_spec_l1Dec_all k)
def m_spec_l1Hex (a0 : Int) : Option Bs :=
  if (0 : Int) ≤ (IntKind.wrap .u8 (Int.tdiv a0 16)) ∧ (IntKind.wrap .u8 (Int.tdiv a0 16)) < ([48, 49, 50, 51, 52, 53, 54, 55, 56, 57, 97, 98, 99, 100, 101, 102].length : Int) then
    if (0 : Int) ≤ (Int.tmod a0 16) ∧ (Int.tmod a0 16) < ([48, 49, 50, 51, 52, 53, 54, 55, 56, 57, 97, 98, 99, 100, 101, 102].length : Int) then
      if ([48, 48] ++ (ofI [byt [48, 49, 50, 51, 52, 53, 54, 55, 56, 57, 97, 98, 99, 100, 101, 102] (IntKind.wrap .u8 (Int.tdiv a0 16)), byt [48, 49, 50, 51, 52, 53, 54, 55, 56, 57, 97, 98, 99, 100, 101, 102] (Int.tmod a0 16)])).length ≤ maxLen then
        some ([48, 48] ++ (ofI [byt [48, 49, 50, 51, 52, 53, 54, 55, 56, 57, 97, 98, 99, 100, 101, 102] (IntKind.wrap .u8 (Int.tdiv a0 16)), byt [48, 49, 50, 51, 52, 53, 54, 55, 56, 57, 97, 98, 99, 100, 101, 102] (Int.tmod a0 16)]))
      else none
    else none
  else none
theorem m_spec_l1Hex_ok : ∀ (a0 : Int) (r : Bs), m_spec_l1Hex a0 = some r → Does Tryd.prog 69 [.int .u8 a0] [] (ret (.str r)) := by
  intro a0 r h
  rw [m_spec_l1Hex] at h
  refine does_of_good tabOk Tryd.func69 rfl (by decide +kernel) (Nat.le_of_ble_eq_true rfl) fun c => ?_
  refine Good.le (σ' := ⟨15, [(0, .int .u8 a0)], []⟩) (Le.refl _) ?_
  refine good_seq fun K1 hK1 => ?_
  refine good_region ?_
  refine g_op rfl (ValOk.op (v_assign rfl rfl ?_)) 
  refine g_nil ?_
  refine hK1 _ ?_
  refine good_seq fun K2 hK2 => ?_
  refine good_region ?_
  refine g_op rfl (ValOk.op (v_assign rfl rfl ?_)) 
  refine g_nil ?_
  refine hK2 _ ?_
  refine good_seq fun K3 hK3 => ?_
  obtain ⟨hb1, h⟩ := ifS h
  obtain ⟨hb2, h⟩ := ifS h
  obtain ⟨hb3, h⟩ := ifS h
  refine good_anyM (by kernel_rfl) [⟨[], [3], [], [], [], []⟩, ⟨[], [0], [], [], [], []⟩, ⟨[1], [5], [], [], [], []⟩, ⟨[0, 1, 2], [4, 6], [], [], [], []⟩, ⟨[], [3], [], [], [], []⟩, ⟨[], [0], [], [], [], []⟩, ⟨[5], [9], [], [], [], []⟩, ⟨[4, 5, 6], [8, 10], [], [], [], []⟩, ⟨[0, 1, 2, 3, 4, 5, 6, 7], [7, 11], [], [], [], []⟩, ⟨[0, 1, 2, 3, 4, 5, 6, 7, 8], [12], [], [], [], []⟩, ⟨[0, 1, 2, 3, 4, 5, 6, 7, 8, 9], [13], [], [], [], []⟩, ⟨[0, 1, 2, 3, 4, 5, 6, 7, 8, 9, 10], [14], [], [], [], []⟩] [some 4, some 5, some 6, some 7, some 8, some 9, some 10, some 11, some 12, some 13, some 14, some 2] 15 [(0, .int .u8 a0), (2, .str []), (3, .str [48, 49, 50, 51, 52, 53, 54, 55, 56, 57, 97, 98, 99, 100, 101, 102])] [] (fun ν1 => [.str [48, 49, 50, 51, 52, 53, 54, 55, 56, 57, 97, 98, 99, 100, 101, 102], .int .u8 a0, .int .u8 (IntKind.wrap .u8 (Int.tdiv a0 16)), .int .u8 (byt [48, 49, 50, 51, 52, 53, 54, 55, 56, 57, 97, 98, 99, 100, 101, 102] (IntKind.wrap .u8 (Int.tdiv a0 16))), .str [48, 49, 50, 51, 52, 53, 54, 55, 56, 57, 97, 98, 99, 100, 101, 102], .int .u8 a0, .int .u8 (Int.tmod a0 16), .int .u8 (byt [48, 49, 50, 51, 52, 53, 54, 55, 56, 57, 97, 98, 99, 100, 101, 102] (Int.tmod a0 16)), .sl false ([byt [48, 49, 50, 51, 52, 53, 54, 55, 56, 57, 97, 98, 99, 100, 101, 102] (IntKind.wrap .u8 (Int.tdiv a0 16)), byt [48, 49, 50, 51, 52, 53, 54, 55, 56, 57, 97, 98, 99, 100, 101, 102] (Int.tmod a0 16)].map (encI .u8)), .str (ofI [byt [48, 49, 50, 51, 52, 53, 54, 55, 56, 57, 97, 98, 99, 100, 101, 102] (IntKind.wrap .u8 (Int.tdiv a0 16)), byt [48, 49, 50, 51, 52, 53, 54, 55, 56, 57, 97, 98, 99, 100, 101, 102] (Int.tmod a0 16)]), .str ([48, 48] ++ (ofI [byt [48, 49, 50, 51, 52, 53, 54, 55, 56, 57, 97, 98, 99, 100, 101, 102] (IntKind.wrap .u8 (Int.tdiv a0 16)), byt [48, 49, 50, 51, 52, 53, 54, 55, 56, 57, 97, 98, 99, 100, 101, 102] (Int.tmod a0 16)])), .str ([48, 48] ++ (ofI [byt [48, 49, 50, 51, 52, 53, 54, 55, 56, 57, 97, 98, 99, 100, 101, 102] (IntKind.wrap .u8 (Int.tdiv a0 16)), byt [48, 49, 50, 51, 52, 53, 54, 55, 56, 57, 97, 98, 99, 100, 101, 102] (Int.tmod a0 16)]))]) (fun ν1 => []) [] [] [] (fun ν1 => [(2, .str ([48, 48] ++ (ofI [byt [48, 49, 50, 51, 52, 53, 54, 55, 56, 57, 97, 98, 99, 100, 101, 102] (IntKind.wrap .u8 (Int.tdiv a0 16)), byt [48, 49, 50, 51, 52, 53, 54, 55, 56, 57, 97, 98, 99, 100, 101, 102] (Int.tmod a0 16)])))]) (fun ν1 => []) (le_w [] rfl ⟨⟨_, rfl, .refl _⟩, ⟨⟨_, rfl, .refl _⟩, ⟨⟨_, rfl, .refl _⟩, trivial⟩⟩⟩ trivial (by decide)) (by kernel_rfl) ⟨?_, ⟨?_, ⟨?_, ⟨?_, ⟨?_, ⟨?_, ⟨?_, ⟨?_, ⟨?_, ⟨?_, ⟨?_, ⟨?_, trivial⟩⟩⟩⟩⟩⟩⟩⟩⟩⟩⟩⟩ ⟨fun _ _ _ => rfl, ⟨fun _ _ _ => rfl, ⟨fun _ _ _ => rfl, ⟨fun _ _ _ => rfl, ⟨fun _ _ _ => rfl, ⟨fun _ _ _ => rfl, ⟨fun _ _ _ => rfl, ⟨fun _ _ _ => rfl, ⟨fun _ _ _ => rfl, ⟨fun _ _ _ => rfl, ⟨fun _ _ _ => rfl, ⟨fun _ _ _ => rfl, trivial⟩⟩⟩⟩⟩⟩⟩⟩⟩⟩⟩⟩ trivial (fun _ => rfl) (fun _ => rfl) (by kernel_rfl) (fun _ => ⟨⟨_, rfl, .refl _⟩, trivial⟩) (fun _ => trivial) (by kernel_rfl) (by decide) ?_
  · refine local_mk (fun ν1 => [(3, .str [48, 49, 50, 51, 52, 53, 54, 55, 56, 57, 97, 98, 99, 100, 101, 102])]) (fun ν1 => []) (fun _ => rfl) (fun _ => ⟨⟨_, rfl, .refl _, .refl _⟩, trivial⟩) (fun _ => rfl) (fun _ => trivial) ?_
    intro ν1 S H hS hfr
    refine st_op rfl (ValOk.op (v_move rfl rfl ?_)) 
    exact lp_v hS rfl rfl (fun _ => rfl)
  · refine local_mk (fun ν1 => [(0, .int .u8 a0)]) (fun ν1 => []) (fun _ => rfl) (fun _ => ⟨⟨_, rfl, .refl _, .refl _⟩, trivial⟩) (fun _ => rfl) (fun _ => trivial) ?_
    intro ν1 S H hS hfr
    refine st_op rfl (ValOk.op (v_move rfl rfl ?_)) 
    exact lp_v hS rfl rfl (fun _ => rfl)
  · refine local_mk (fun ν1 => [(5, .int .u8 a0)]) (fun ν1 => []) (fun _ => rfl) (fun _ => ⟨⟨_, rfl, .refl _, .refl _⟩, trivial⟩) (fun _ => rfl) (fun _ => trivial) ?_
    intro ν1 S H hS hfr
    refine st_op rfl (ValOk.op (v_quo rfl rfl (by decide) rfl ?_)) 
    exact lp_v hS rfl rfl (fun _ => rfl)
  · refine local_mk (fun ν1 => [(4, .str [48, 49, 50, 51, 52, 53, 54, 55, 56, 57, 97, 98, 99, 100, 101, 102]), (6, .int .u8 (IntKind.wrap .u8 (Int.tdiv a0 16)))]) (fun ν1 => []) (fun _ => rfl) (fun _ => ⟨⟨_, rfl, .refl _, .refl _⟩, ⟨⟨_, rfl, .refl _, .refl _⟩, trivial⟩⟩) (fun _ => rfl) (fun _ => trivial) ?_
    intro ν1 S H hS hfr
    refine st_op rfl (ValOk.op (v_indexM tabOk rfl rfl tkind9 hb1 rfl ?_)) 
    exact lp_v hS rfl rfl (fun _ => rfl)
  · refine local_mk (fun ν1 => [(3, .str [48, 49, 50, 51, 52, 53, 54, 55, 56, 57, 97, 98, 99, 100, 101, 102])]) (fun ν1 => []) (fun _ => rfl) (fun _ => ⟨⟨_, rfl, .refl _, .refl _⟩, trivial⟩) (fun _ => rfl) (fun _ => trivial) ?_
    intro ν1 S H hS hfr
    refine st_op rfl (ValOk.op (v_move rfl rfl ?_)) 
    exact lp_v hS rfl rfl (fun _ => rfl)
  · refine local_mk (fun ν1 => [(0, .int .u8 a0)]) (fun ν1 => []) (fun _ => rfl) (fun _ => ⟨⟨_, rfl, .refl _, .refl _⟩, trivial⟩) (fun _ => rfl) (fun _ => trivial) ?_
    intro ν1 S H hS hfr
    refine st_op rfl (ValOk.op (v_move rfl rfl ?_)) 
    exact lp_v hS rfl rfl (fun _ => rfl)
  · refine local_mk (fun ν1 => [(9, .int .u8 a0)]) (fun ν1 => []) (fun _ => rfl) (fun _ => ⟨⟨_, rfl, .refl _, .refl _⟩, trivial⟩) (fun _ => rfl) (fun _ => trivial) ?_
    intro ν1 S H hS hfr
    refine st_op rfl (ValOk.op (v_rem rfl rfl (by decide) rfl ?_)) 
    exact lp_v hS rfl rfl (fun _ => rfl)
  · refine local_mk (fun ν1 => [(8, .str [48, 49, 50, 51, 52, 53, 54, 55, 56, 57, 97, 98, 99, 100, 101, 102]), (10, .int .u8 (Int.tmod a0 16))]) (fun ν1 => []) (fun _ => rfl) (fun _ => ⟨⟨_, rfl, .refl _, .refl _⟩, ⟨⟨_, rfl, .refl _, .refl _⟩, trivial⟩⟩) (fun _ => rfl) (fun _ => trivial) ?_
    intro ν1 S H hS hfr
    refine st_op rfl (ValOk.op (v_indexM tabOk rfl rfl tkind9 hb2 rfl ?_)) 
    exact lp_v hS rfl rfl (fun _ => rfl)
  · refine local_mk (fun ν1 => [(7, .int .u8 (byt [48, 49, 50, 51, 52, 53, 54, 55, 56, 57, 97, 98, 99, 100, 101, 102] (IntKind.wrap .u8 (Int.tdiv a0 16)))), (11, .int .u8 (byt [48, 49, 50, 51, 52, 53, 54, 55, 56, 57, 97, 98, 99, 100, 101, 102] (Int.tmod a0 16)))]) (fun ν1 => []) (fun _ => rfl) (fun _ => ⟨⟨_, rfl, .refl _, .refl _⟩, ⟨⟨_, rfl, .refl _, .refl _⟩, trivial⟩⟩) (fun _ => rfl) (fun _ => trivial) ?_
    intro ν1 S H hS hfr
    obtain ⟨kf, hkf⟩ := exists_fresh ([] ++ H)
    refine st_op rfl (o_buildSlice (k := kf) (rows := [byt [48, 49, 50, 51, 52, 53, 54, 55, 56, 57, 97, 98, 99, 100, 101, 102] (IntKind.wrap .u8 (Int.tdiv a0 16)), byt [48, 49, 50, 51, 52, 53, 54, 55, 56, 57, 97, 98, 99, 100, 101, 102] (Int.tmod a0 16)].map (encI .u8)) tabOk telem30 tsize5 rfl rfl rfl rfl (by decide) (by decide) (by rw [tzero5]; rfl) rfl rfl rfl hkf rfl ?_)
    intro w
    exact lp_fn hS rfl rfl hkf (FrzLL.map fun _ _ => encI_frz _) (fun _ => rfl)
  · refine local_mk (fun ν1 => [(12, .sl false ([byt [48, 49, 50, 51, 52, 53, 54, 55, 56, 57, 97, 98, 99, 100, 101, 102] (IntKind.wrap .u8 (Int.tdiv a0 16)), byt [48, 49, 50, 51, 52, 53, 54, 55, 56, 57, 97, 98, 99, 100, 101, 102] (Int.tmod a0 16)].map (encI .u8)))]) (fun ν1 => []) (fun _ => rfl) (fun _ => ⟨⟨_, rfl, .refl _, .refl _⟩, trivial⟩) (fun _ => rfl) (fun _ => trivial) ?_
    intro ν1 S H hS hfr
    refine st_op rfl (ValOk.op (v_bytesLI (l := [byt [48, 49, 50, 51, 52, 53, 54, 55, 56, 57, 97, 98, 99, 100, 101, 102] (IntKind.wrap .u8 (Int.tdiv a0 16)), byt [48, 49, 50, 51, 52, 53, 54, 55, 56, 57, 97, 98, 99, 100, 101, 102] (Int.tmod a0 16)]) tabOk rfl telem30 tkind5 tkind9 rfl ?_)) 
    exact lp_v hS rfl rfl (fun _ => rfl)
  · refine local_mk (fun ν1 => [(13, .str (ofI [byt [48, 49, 50, 51, 52, 53, 54, 55, 56, 57, 97, 98, 99, 100, 101, 102] (IntKind.wrap .u8 (Int.tdiv a0 16)), byt [48, 49, 50, 51, 52, 53, 54, 55, 56, 57, 97, 98, 99, 100, 101, 102] (Int.tmod a0 16)]))]) (fun ν1 => []) (fun _ => rfl) (fun _ => ⟨⟨_, rfl, .refl _, .refl _⟩, trivial⟩) (fun _ => rfl) (fun _ => trivial) ?_
    intro ν1 S H hS hfr
    refine st_op rfl (ValOk.op (v_cat rfl rfl hb3 rfl ?_)) 
    exact lp_v hS rfl rfl (fun _ => rfl)
  · refine local_mk (fun ν1 => [(14, .str ([48, 48] ++ (ofI [byt [48, 49, 50, 51, 52, 53, 54, 55, 56, 57, 97, 98, 99, 100, 101, 102] (IntKind.wrap .u8 (Int.tdiv a0 16)), byt [48, 49, 50, 51, 52, 53, 54, 55, 56, 57, 97, 98, 99, 100, 101, 102] (Int.tmod a0 16)])))]) (fun ν1 => []) (fun _ => rfl) (fun _ => ⟨⟨_, rfl, .refl _, .refl _⟩, trivial⟩) (fun _ => rfl) (fun _ => trivial) ?_
    intro ν1 S H hS hfr
    refine st_op rfl (ValOk.op (v_assign rfl rfl ?_)) 
    exact lp_v hS rfl rfl (fun _ => rfl)
  intro ν1
  refine hK3 _ ?_
  refine Good.le (σ' := ⟨15, [(2, .str ([48, 48] ++ (ofI [byt [48, 49, 50, 51, 52, 53, 54, 55, 56, 57, 97, 98, 99, 100, 101, 102] (IntKind.wrap .u8 (Int.tdiv a0 16)), byt [48, 49, 50, 51, 52, 53, 54, 55, 56, 57, 97, 98, 99, 100, 101, 102] (Int.tmod a0 16)])))], []⟩) (le_w [] rfl ⟨⟨_, rfl, .refl _⟩, trivial⟩ trivial (by decide)) ?_
  refine good_ret ?_
  obtain rfl := Option.some.inj h
  exact endQ_ret (h' := []) [] (.tmp rfl (.nil)) trivial (by decide) ⟨rfl, rfl⟩
def m_spec_l1Quote_l1 : Nat → Bs → Bs → Int → Option (Lp Bs Bs)
  | 0, _, _, _ => none
  | k + 1, a0, x1, x2 =>
    if x2 < (a0.length : Int) then
      if (0 : Int) ≤ x2 ∧ x2 < (a0.length : Int) then
        (if (byt a0 x2) = 34 then
            some (Lp.go true)
          else
            some (Lp.go (decide ((byt a0 x2) = 92)))).bind fun o2 =>
        o2.then fun s2 =>
    if s2 = true then
      if (x1 ++ [92]).length ≤ maxLen then
        if ((x1 ++ [92]) ++ (ofI [byt a0 x2])).length ≤ maxLen then
          m_spec_l1Quote_l1 k a0 ((x1 ++ [92]) ++ (ofI [byt a0 x2])) (IntKind.wrap .i64 (x2 + 1))
        else none
      else none
    else
      if (byt a0 x2) = 10 then
        if (x1 ++ [92, 110]).length ≤ maxLen then
          m_spec_l1Quote_l1 k a0 (x1 ++ [92, 110]) (IntKind.wrap .i64 (x2 + 1))
        else none
      else
        (if (byt a0 x2) < 32 then
            some (Lp.go true)
          else
            some (Lp.go (decide (126 < (byt a0 x2))))).bind fun o3 =>
        o3.then fun s3 =>
    if s3 = true then
      if (x1 ++ [92, 117]).length ≤ maxLen then
        (m_spec_l1Hex (byt a0 x2)).bind fun y1 =>
        if ((x1 ++ [92, 117]) ++ y1).length ≤ maxLen then
          m_spec_l1Quote_l1 k a0 ((x1 ++ [92, 117]) ++ y1) (IntKind.wrap .i64 (x2 + 1))
        else none
      else none
    else
      if (x1 ++ (ofI [byt a0 x2])).length ≤ maxLen then
        m_spec_l1Quote_l1 k a0 (x1 ++ (ofI [byt a0 x2])) (IntKind.wrap .i64 (x2 + 1))
      else none
      else none
    else
      some (Lp.go x1)
def m_spec_l1Quote (k : Nat) (a0 : Bs) : Option Bs :=
  (m_spec_l1Quote_l1 k a0 [34] 0).bind fun o1 =>
  o1.then fun s1 =>
    if (s1 ++ [34]).length ≤ maxLen then
      some (s1 ++ [34])
    else none
theorem m_spec_l1Quote_ok (k : Nat) : ∀ (a0 : Bs) (r : Bs), m_spec_l1Quote k a0 = some r → Does Tryd.prog 56 [.str a0] [] (ret (.str r)) := by
  intro a0 r h
  rw [m_spec_l1Quote] at h
  refine does_of_good tabOk Tryd.func56 rfl (by decide +kernel) (Nat.le_of_ble_eq_true rfl) fun c => ?_
  refine Good.le (σ' := ⟨52, [(0, .str a0)], []⟩) (Le.refl _) ?_
  refine good_seq fun K1 hK1 => ?_
  refine good_region ?_
  refine g_op rfl (ValOk.op (v_assign rfl rfl ?_)) 
  refine g_nil ?_
  refine hK1 _ ?_
  refine good_seq fun K2 hK2 => ?_
  refine good_region ?_
  refine g_op rfl (ValOk.op (v_assign rfl rfl ?_)) 
  refine g_nil ?_
  refine hK2 _ ?_
  refine good_seq fun K3 hK3 => ?_
  refine good_seq fun K4 hK4 => ?_
  refine good_region ?_
  refine g_op rfl (ValOk.op (v_assign rfl rfl ?_)) 
  refine g_nil ?_
  refine hK4 _ ?_
  obtain ⟨o1, ho1, hJ1⟩ := bnd h
  have hw1 : ∀ (s1 : Bs), o1 = Lp.go s1 → ∀ σ', Le σ' ⟨52, [(2, .str []), (3, .str s1)], []⟩ → K3 σ' := by
    intro s1 e1 σ' hle1
    subst e1
    refine hK3 _ (Good.le hle1 ?_)
    replace h := hJ1
    refine good_seq fun K5 hK5 => ?_
    refine good_region ?_
    refine g_op rfl (ValOk.op (v_move rfl rfl ?_)) 
    obtain ⟨hb1, h⟩ := ifS h
    refine g_op rfl (ValOk.op (v_cat rfl rfl hb1 rfl ?_)) 
    refine g_op rfl (ValOk.op (v_assign rfl rfl ?_)) 
    refine g_nil ?_
    refine hK5 _ ?_
    refine Good.le (σ' := ⟨52, [(2, _)], []⟩) (le_w [] rfl ⟨⟨_, rfl, .refl _⟩, trivial⟩ trivial (by decide)) ?_
    refine Good.le (σ' := ⟨52, [(2, .str (s1 ++ [34]))], []⟩) (le_w [] rfl ⟨⟨_, rfl, .refl _⟩, trivial⟩ trivial (by decide)) ?_
    refine good_ret ?_
    obtain rfl := Option.some.inj h
    exact endQ_ret (h' := []) [] (.tmp rfl (.nil)) trivial (by decide) ⟨rfl, rfl⟩
  replace h := ho1
  refine good_block ?_
  refine good_loopf (fun p : (Bs × Int) => ⟨52, [(0, .str a0), (2, .str []), (3, .str p.1), (4, .int .i64 p.2)], []⟩) (fun m p => m_spec_l1Quote_l1 m a0 p.1 p.2 = some o1) k ([34], 0) (le_w [] rfl ⟨⟨_, rfl, .refl _⟩, ⟨⟨_, rfl, .refl _⟩, ⟨⟨_, rfl, .refl _⟩, ⟨⟨_, rfl, .refl _⟩, trivial⟩⟩⟩⟩ trivial (by decide)) h ?_
  rintro m1 ⟨x1, x2⟩ h
  replace h : m_spec_l1Quote_l1 m1 a0 x1 x2 = some o1 := h
  refine Good.le (σ' := ⟨52, [(0, .str a0), (2, .str []), (3, .str x1), (4, .int .i64 x2)], []⟩) (Le.refl _) ?_
  obtain ⟨m1, rfl⟩ : ∃ m', m1 = m' + 1 := by cases m1 with | zero => (rw [m_spec_l1Quote_l1] at h; cases h) | succ m' => exact ⟨m', rfl⟩
  rw [m_spec_l1Quote_l1] at h
  refine good_seq fun K6 hK6 => ?_
  refine good_seq fun K7 hK7 => ?_
  refine good_region ?_
  refine g_op rfl (ValOk.op (v_move rfl rfl ?_)) 
  refine g_op rfl (ValOk.op (v_move rfl rfl ?_)) 
  refine g_op rfl (ValOk.op (v_lenS tabOk rfl rfl tkind9 rfl ?_)) 
  refine g_op rfl (ValOk.op (v_bin rfl rfl rfl rfl ?_)) 
  refine g_nil ?_
  refine hK7 _ ?_
  refine Good.le (σ' := ⟨52, [(0, _), (2, _), (3, _), (4, _), (9, _)], []⟩) (le_w [] rfl ⟨⟨_, rfl, .refl _⟩, ⟨⟨_, rfl, .refl _⟩, ⟨⟨_, rfl, .refl _⟩, ⟨⟨_, rfl, .refl _⟩, ⟨⟨_, rfl, .refl _⟩, trivial⟩⟩⟩⟩⟩ trivial (by decide)) ?_
  refine good_cond rfl (fun hc1 => ?_) (fun hc1 => ?_)
  · replace h := ifT h (dT hc1)
    refine good_skip ?_
    refine hK6 _ ?_
    refine Good.le (σ' := ⟨52, [(0, _), (2, _), (3, _), (4, _)], []⟩) (le_w [] rfl ⟨⟨_, rfl, .refl _⟩, ⟨⟨_, rfl, .refl _⟩, ⟨⟨_, rfl, .refl _⟩, ⟨⟨_, rfl, .refl _⟩, trivial⟩⟩⟩⟩ trivial (by decide)) ?_
    refine good_seq fun K8 hK8 => ?_
    refine good_block ?_
    refine good_seq fun K9 hK9 => ?_
    refine good_region ?_
    refine g_op rfl (ValOk.op (v_move rfl rfl ?_)) 
    refine g_op rfl (ValOk.op (v_move rfl rfl ?_)) 
    obtain ⟨hb2, h⟩ := ifS h
    refine g_op rfl (ValOk.op (v_indexM tabOk rfl rfl tkind9 hb2 rfl ?_)) 
    refine g_op rfl (ValOk.op (v_assign rfl rfl ?_)) 
    refine g_nil ?_
    refine hK9 _ ?_
    refine Good.le (σ' := ⟨52, [(0, _), (2, _), (3, _), (4, _), (5, _)], []⟩) (le_w [] rfl ⟨⟨_, rfl, .refl _⟩, ⟨⟨_, rfl, .refl _⟩, ⟨⟨_, rfl, .refl _⟩, ⟨⟨_, rfl, .refl _⟩, ⟨⟨_, rfl, .refl _⟩, trivial⟩⟩⟩⟩⟩ trivial (by decide)) ?_
    refine good_block ?_
    refine good_seq fun K10 hK10 => ?_
    obtain ⟨o2, ho2, hJ2⟩ := bnd h
    have hw2 : ∀ (s2 : Bool), o2 = Lp.go s2 → ∀ σ', Le σ' ⟨52, [(0, .str a0), (2, .str []), (3, .str x1), (4, .int .i64 x2), (5, .int .u8 (byt a0 x2)), (20, .bool s2)], []⟩ → K10 σ' := by
      intro s2 e2 σ' hle2
      subst e2
      refine hK10 _ (Good.le hle2 ?_)
      replace h := hJ2
      refine good_cond rfl (fun hc2 => ?_) (fun hc2 => ?_)
      · replace h := ifT h hc2
        refine good_region ?_
        refine g_op rfl (ValOk.op (v_move rfl rfl ?_)) 
        obtain ⟨hb3, h⟩ := ifS h
        refine g_op rfl (ValOk.op (v_cat rfl rfl hb3 rfl ?_)) 
        refine g_op rfl (ValOk.op (v_move rfl rfl ?_)) 
        refine g_op rfl (o_buildSlice (k := 40) (rows := [byt a0 x2].map (encI .u8)) tabOk telem30 tsize5 rfl rfl rfl rfl (by decide) (by decide) (by rw [tzero5]; rfl) rfl rfl rfl rfl rfl ?_)
        intro w1
        refine g_op rfl (ValOk.op (v_bytesHI (q := 40) tabOk ⟨_, rfl⟩ rfl telem30 tkind5 tkind9 rfl ?_)) 
        obtain ⟨hb4, h⟩ := ifS h
        refine g_op rfl (ValOk.op (v_cat rfl rfl hb4 rfl ?_)) 
        refine g_op rfl (ValOk.op (v_assign rfl rfl ?_)) 
        refine g_nil ?_
        refine hK8 _ ?_
        refine Good.le (σ' := ⟨52, [(0, _), (2, _), (3, _), (4, _)], []⟩) (le_w [] rfl ⟨⟨_, rfl, .refl _⟩, ⟨⟨_, rfl, .refl _⟩, ⟨⟨_, rfl, .refl _⟩, ⟨⟨_, rfl, .refl _⟩, trivial⟩⟩⟩⟩ trivial (by decide)) ?_
        refine good_region ?_
        refine g_op rfl (ValOk.op (v_move rfl rfl ?_)) 
        refine g_op rfl (ValOk.op (v_bin rfl rfl rfl rfl ?_)) 
        refine g_op rfl (ValOk.op (v_assign rfl rfl ?_)) 
        refine g_nil ?_
        exact round_mk m1 ((x1 ++ [92]) ++ (ofI [byt a0 x2]), IntKind.wrap .i64 (x2 + 1)) (Nat.lt_succ_self _) h (le_w [] rfl ⟨⟨_, rfl, .refl _⟩, ⟨⟨_, rfl, .refl _⟩, ⟨⟨_, rfl, .refl _⟩, ⟨⟨_, rfl, .refl _⟩, trivial⟩⟩⟩⟩ trivial (by decide))
      · replace h := bF h hc2
        refine good_seq fun K11 hK11 => ?_
        refine good_region ?_
        refine g_op rfl (ValOk.op (v_move rfl rfl ?_)) 
        refine g_op rfl (ValOk.op (v_bin rfl rfl rfl rfl ?_)) 
        refine g_op rfl (ValOk.op (v_assign rfl rfl ?_)) 
        refine g_nil ?_
        refine hK11 _ ?_
        refine Good.le (σ' := ⟨52, [(0, _), (2, _), (3, _), (4, _), (5, _), (33, _)], []⟩) (le_w [] rfl ⟨⟨_, rfl, .refl _⟩, ⟨⟨_, rfl, .refl _⟩, ⟨⟨_, rfl, .refl _⟩, ⟨⟨_, rfl, .refl _⟩, ⟨⟨_, rfl, .refl _⟩, ⟨⟨_, rfl, .refl _⟩, trivial⟩⟩⟩⟩⟩⟩ trivial (by decide)) ?_
        refine good_cond rfl (fun hc3 => ?_) (fun hc3 => ?_)
        · replace h := ifT h (dT hc3)
          refine good_region ?_
          refine g_op rfl (ValOk.op (v_move rfl rfl ?_)) 
          obtain ⟨hb5, h⟩ := ifS h
          refine g_op rfl (ValOk.op (v_cat rfl rfl hb5 rfl ?_)) 
          refine g_op rfl (ValOk.op (v_assign rfl rfl ?_)) 
          refine g_nil ?_
          refine hK8 _ ?_
          refine Good.le (σ' := ⟨52, [(0, _), (2, _), (3, _), (4, _)], []⟩) (le_w [] rfl ⟨⟨_, rfl, .refl _⟩, ⟨⟨_, rfl, .refl _⟩, ⟨⟨_, rfl, .refl _⟩, ⟨⟨_, rfl, .refl _⟩, trivial⟩⟩⟩⟩ trivial (by decide)) ?_
          refine good_region ?_
          refine g_op rfl (ValOk.op (v_move rfl rfl ?_)) 
          refine g_op rfl (ValOk.op (v_bin rfl rfl rfl rfl ?_)) 
          refine g_op rfl (ValOk.op (v_assign rfl rfl ?_)) 
          refine g_nil ?_
          exact round_mk m1 (x1 ++ [92, 110], IntKind.wrap .i64 (x2 + 1)) (Nat.lt_succ_self _) h (le_w [] rfl ⟨⟨_, rfl, .refl _⟩, ⟨⟨_, rfl, .refl _⟩, ⟨⟨_, rfl, .refl _⟩, ⟨⟨_, rfl, .refl _⟩, trivial⟩⟩⟩⟩ trivial (by decide))
        · replace h := ifF h (dF hc3)
          refine good_seq fun K12 hK12 => ?_
          obtain ⟨o3, ho3, hJ3⟩ := bnd h
          have hw3 : ∀ (s3 : Bool), o3 = Lp.go s3 → ∀ σ', Le σ' ⟨52, [(0, .str a0), (2, .str []), (3, .str x1), (4, .int .i64 x2), (5, .int .u8 (byt a0 x2)), (38, .bool s3)], []⟩ → K12 σ' := by
            intro s3 e3 σ' hle3
            subst e3
            refine hK12 _ (Good.le hle3 ?_)
            replace h := hJ3
            refine good_cond rfl (fun hc4 => ?_) (fun hc4 => ?_)
            · replace h := ifT h hc4
              refine good_region ?_
              refine g_op rfl (ValOk.op (v_move rfl rfl ?_)) 
              obtain ⟨hb6, h⟩ := ifS h
              refine g_op rfl (ValOk.op (v_cat rfl rfl hb6 rfl ?_)) 
              refine g_op rfl (ValOk.op (v_move rfl rfl ?_)) 
              obtain ⟨y1, hy1, h⟩ := bnd h
              refine g_op rfl (o_callR [] [] (core_value rfl rfl) (m_spec_l1Hex_ok (byt a0 x2) _ hy1) trivial (.cons (.refl _) (.nil)) (.inl rfl) rfl ?_)
              obtain ⟨hb7, h⟩ := ifS h
              refine g_op rfl (ValOk.op (v_cat rfl rfl hb7 rfl ?_)) 
              refine g_op rfl (ValOk.op (v_assign rfl rfl ?_)) 
              refine g_nil ?_
              refine hK8 _ ?_
              refine Good.le (σ' := ⟨52, [(0, _), (2, _), (3, _), (4, _)], []⟩) (le_w [] rfl ⟨⟨_, rfl, .refl _⟩, ⟨⟨_, rfl, .refl _⟩, ⟨⟨_, rfl, .refl _⟩, ⟨⟨_, rfl, .refl _⟩, trivial⟩⟩⟩⟩ trivial (by decide)) ?_
              refine good_region ?_
              refine g_op rfl (ValOk.op (v_move rfl rfl ?_)) 
              refine g_op rfl (ValOk.op (v_bin rfl rfl rfl rfl ?_)) 
              refine g_op rfl (ValOk.op (v_assign rfl rfl ?_)) 
              refine g_nil ?_
              exact round_mk m1 ((x1 ++ [92, 117]) ++ y1, IntKind.wrap .i64 (x2 + 1)) (Nat.lt_succ_self _) h (le_w [] rfl ⟨⟨_, rfl, .refl _⟩, ⟨⟨_, rfl, .refl _⟩, ⟨⟨_, rfl, .refl _⟩, ⟨⟨_, rfl, .refl _⟩, trivial⟩⟩⟩⟩ trivial (by decide))
            · replace h := bF h hc4
              refine good_region ?_
              refine g_op rfl (ValOk.op (v_move rfl rfl ?_)) 
              refine g_op rfl (ValOk.op (v_move rfl rfl ?_)) 
              refine g_op rfl (o_buildSlice (k := 27) (rows := [byt a0 x2].map (encI .u8)) tabOk telem30 tsize5 rfl rfl rfl rfl (by decide) (by decide) (by rw [tzero5]; rfl) rfl rfl rfl rfl rfl ?_)
              intro w2
              refine g_op rfl (ValOk.op (v_bytesHI (q := 27) tabOk ⟨_, rfl⟩ rfl telem30 tkind5 tkind9 rfl ?_)) 
              obtain ⟨hb8, h⟩ := ifS h
              refine g_op rfl (ValOk.op (v_cat rfl rfl hb8 rfl ?_)) 
              refine g_op rfl (ValOk.op (v_assign rfl rfl ?_)) 
              refine g_nil ?_
              refine hK8 _ ?_
              refine Good.le (σ' := ⟨52, [(0, _), (2, _), (3, _), (4, _)], []⟩) (le_w [] rfl ⟨⟨_, rfl, .refl _⟩, ⟨⟨_, rfl, .refl _⟩, ⟨⟨_, rfl, .refl _⟩, ⟨⟨_, rfl, .refl _⟩, trivial⟩⟩⟩⟩ trivial (by decide)) ?_
              refine good_region ?_
              refine g_op rfl (ValOk.op (v_move rfl rfl ?_)) 
              refine g_op rfl (ValOk.op (v_bin rfl rfl rfl rfl ?_)) 
              refine g_op rfl (ValOk.op (v_assign rfl rfl ?_)) 
              refine g_nil ?_
              exact round_mk m1 (x1 ++ (ofI [byt a0 x2]), IntKind.wrap .i64 (x2 + 1)) (Nat.lt_succ_self _) h (le_w [] rfl ⟨⟨_, rfl, .refl _⟩, ⟨⟨_, rfl, .refl _⟩, ⟨⟨_, rfl, .refl _⟩, ⟨⟨_, rfl, .refl _⟩, trivial⟩⟩⟩⟩ trivial (by decide))
          replace h := ho3
          refine good_region ?_
          refine g_op rfl (ValOk.op (v_move rfl rfl ?_)) 
          refine g_op rfl (ValOk.op (v_bin rfl rfl rfl rfl ?_)) 
          refine g_op rfl (ValOk.op (v_move rfl rfl ?_)) 
          rcases bsplit ((decide ((byt a0 x2) < 32))) with hg1 | hg1
          · replace h := ifT h (dT hg1)
            refine g_no rfl rfl hg1 rfl ?_
            refine g_no rfl rfl hg1 rfl ?_
            refine g_op rfl (ValOk.op (v_pickT rfl hg1 rfl rfl ?_)) 
            refine g_op rfl (ValOk.op (v_assign rfl rfl ?_)) 
            refine g_nil ?_
            exact hw3 true (Option.some.inj h).symm _ (le_w [] rfl ⟨⟨_, rfl, .refl _⟩, ⟨⟨_, rfl, .refl _⟩, ⟨⟨_, rfl, .refl _⟩, ⟨⟨_, rfl, .refl _⟩, ⟨⟨_, rfl, .refl _⟩, ⟨⟨_, rfl, .refl _⟩, trivial⟩⟩⟩⟩⟩⟩ trivial (by decide))
          · replace h := ifF h (dF hg1)
            refine g_yes rfl rfl hg1 (ValOk.op (v_move rfl rfl ?_)) 
            refine g_yes rfl rfl hg1 (ValOk.op (v_bin rfl rfl rfl rfl ?_)) 
            refine g_op rfl (ValOk.op (v_pickF rfl hg1 rfl rfl ?_)) 
            refine g_op rfl (ValOk.op (v_assign rfl rfl ?_)) 
            refine g_nil ?_
            exact hw3 (decide (126 < (byt a0 x2))) (Option.some.inj h).symm _ (le_w [] rfl ⟨⟨_, rfl, .refl _⟩, ⟨⟨_, rfl, .refl _⟩, ⟨⟨_, rfl, .refl _⟩, ⟨⟨_, rfl, .refl _⟩, ⟨⟨_, rfl, .refl _⟩, ⟨⟨_, rfl, .refl _⟩, trivial⟩⟩⟩⟩⟩⟩ trivial (by decide))
    replace h := ho2
    refine good_region ?_
    refine g_op rfl (ValOk.op (v_move rfl rfl ?_)) 
    refine g_op rfl (ValOk.op (v_bin rfl rfl rfl rfl ?_)) 
    refine g_op rfl (ValOk.op (v_move rfl rfl ?_)) 
    rcases bsplit ((decide ((byt a0 x2) = 34))) with hg2 | hg2
    · replace h := ifT h (dT hg2)
      refine g_no rfl rfl hg2 rfl ?_
      refine g_no rfl rfl hg2 rfl ?_
      refine g_op rfl (ValOk.op (v_pickT rfl hg2 rfl rfl ?_)) 
      refine g_op rfl (ValOk.op (v_assign rfl rfl ?_)) 
      refine g_nil ?_
      exact hw2 true (Option.some.inj h).symm _ (le_w [] rfl ⟨⟨_, rfl, .refl _⟩, ⟨⟨_, rfl, .refl _⟩, ⟨⟨_, rfl, .refl _⟩, ⟨⟨_, rfl, .refl _⟩, ⟨⟨_, rfl, .refl _⟩, ⟨⟨_, rfl, .refl _⟩, trivial⟩⟩⟩⟩⟩⟩ trivial (by decide))
    · replace h := ifF h (dF hg2)
      refine g_yes rfl rfl hg2 (ValOk.op (v_move rfl rfl ?_)) 
      refine g_yes rfl rfl hg2 (ValOk.op (v_bin rfl rfl rfl rfl ?_)) 
      refine g_op rfl (ValOk.op (v_pickF rfl hg2 rfl rfl ?_)) 
      refine g_op rfl (ValOk.op (v_assign rfl rfl ?_)) 
      refine g_nil ?_
      exact hw2 (decide ((byt a0 x2) = 92)) (Option.some.inj h).symm _ (le_w [] rfl ⟨⟨_, rfl, .refl _⟩, ⟨⟨_, rfl, .refl _⟩, ⟨⟨_, rfl, .refl _⟩, ⟨⟨_, rfl, .refl _⟩, ⟨⟨_, rfl, .refl _⟩, ⟨⟨_, rfl, .refl _⟩, trivial⟩⟩⟩⟩⟩⟩ trivial (by decide))
  · replace h := ifF h (dF hc1)
    refine good_exit ?_
    exact hw1 x1 (Option.some.inj h).symm _ (le_w [] rfl ⟨⟨_, rfl, .refl _⟩, ⟨⟨_, rfl, .refl _⟩, trivial⟩⟩ trivial (by decide))
def m_spec_l1Name2 (a0 : Val) (a1 : Int) : Option Bs :=
  if a1 < (a0.names.length : Int) then
    if (0 : Int) ≤ a1 ∧ a1 < (a0.names.length : Int) then
      some (ix a0.names a1)
    else none
  else
    some []
theorem m_spec_l1Name2_ok : ∀ (a0 : Val) (a1 : Int) (r : Bs), m_spec_l1Name2 a0 a1 = some r → Does Tryd.prog 57 [.agg [.int .i64 a0.kind, .int .i64 a0.num, .str a0.text, .sl true (a0.list.map encVal), .sl false (a0.names.map encS)], .int .i64 a1] [] (ret (.str r)) := by
  intro a0 a1 r h
  rw [m_spec_l1Name2] at h
  refine does_of_good tabOk Tryd.func57 rfl (by decide +kernel) (Nat.le_of_ble_eq_true rfl) fun c => ?_
  refine Good.le (σ' := ⟨15, [(0, .agg [.int .i64 a0.kind, .int .i64 a0.num, .str a0.text, .sl true (a0.list.map encVal), .sl false (a0.names.map encS)]), (1, .int .i64 a1)], []⟩) (Le.refl _) ?_
  refine good_seq fun K1 hK1 => ?_
  refine good_region ?_
  refine g_op rfl (o_box (k := 12) tabOk rfl rfl rfl rfl rfl ?_)
  intro b1
  refine g_op rfl (ValOk.op (v_assign rfl rfl ?_)) 
  refine g_nil ?_
  refine hK1 _ ?_
  refine Good.le (σ' := ⟨15, [(1, _), (2, _), (4, _)], [(12, (_, _))]⟩) (le_w [some 12] rfl ⟨⟨_, rfl, .refl _⟩, ⟨⟨_, rfl, .refl _⟩, ⟨⟨_, rfl, .refl _⟩, trivial⟩⟩⟩ ⟨⟨_, rfl, .refl _⟩, trivial⟩ (by decide)) ?_
  refine good_seq fun K2 hK2 => ?_
  refine good_seq fun K3 hK3 => ?_
  refine good_region ?_
  refine g_op rfl (ValOk.op (v_move rfl rfl ?_)) 
  refine g_op rfl (ValOk.op (v_fieldP tabOk rfl tfoff42_4 rfl ?_)) 
  refine g_op rfl (ValOk.op (v_loadP tabOk rfl rfl tsize24 tagg24 rfl rfl rfl rfl ?_)) 
  refine g_op rfl (ValOk.op (v_lenM (l := a0.names) (f := encS) tabOk rfl rfl telem24 rfl ?_)) 
  refine g_op rfl (ValOk.op (v_bin rfl rfl rfl rfl ?_)) 
  refine g_nil ?_
  refine hK3 _ ?_
  refine Good.le (σ' := ⟨15, [(1, _), (2, _), (4, _), (9, _)], [(12, (_, _))]⟩) (le_w [some 12] rfl ⟨⟨_, rfl, .refl _⟩, ⟨⟨_, rfl, .refl _⟩, ⟨⟨_, rfl, .refl _⟩, ⟨⟨_, rfl, .refl _⟩, trivial⟩⟩⟩⟩ ⟨⟨_, rfl, .refl _⟩, trivial⟩ (by decide)) ?_
  refine good_cond rfl (fun hc1 => ?_) (fun hc1 => ?_)
  · replace h := ifT h (dT hc1)
    refine good_seq fun K4 hK4 => ?_
    refine good_region ?_
    refine g_op rfl (ValOk.op (v_fieldP tabOk rfl tfoff42_4 rfl ?_)) 
    refine g_op rfl (ValOk.op (v_loadP tabOk rfl rfl tsize24 tagg24 rfl rfl rfl rfl ?_)) 
    refine g_op rfl (ValOk.op (v_move rfl rfl ?_)) 
    obtain ⟨hb1, h⟩ := ifS h
    refine g_op rfl (ValOk.op (v_idxM tabOk rfl rfl telem24 tsize9 hb1 rfl rfl rfl ?_)) 
    refine g_op rfl (ValOk.op (v_loadE tabOk rfl tsize9 tagg9 rfl rfl rfl ?_)) 
    refine g_op rfl (ValOk.op (v_assign rfl rfl ?_)) 
    refine g_nil ?_
    refine hK4 _ ?_
    refine Good.le (σ' := ⟨15, [(4, _)], []⟩) (le_w [] rfl ⟨⟨_, rfl, .refl _⟩, trivial⟩ trivial (by decide)) ?_
    refine Good.le (σ' := ⟨15, [(4, .str (ix a0.names a1))], []⟩) (le_w [] rfl ⟨⟨_, rfl, .refl _⟩, trivial⟩ trivial (by decide)) ?_
    refine good_ret ?_
    obtain rfl := Option.some.inj h
    refine thenQ_ret ?_
    exact endQ_ret (h' := []) [] (.tmp rfl (.nil)) trivial (by decide) ⟨rfl, rfl⟩
  · replace h := ifF h (dF hc1)
    refine good_skip ?_
    refine hK2 _ ?_
    refine Good.le (σ' := ⟨15, [(4, _)], []⟩) (le_w [] rfl ⟨⟨_, rfl, .refl _⟩, trivial⟩ trivial (by decide)) ?_
    refine good_seq fun K5 hK5 => ?_
    refine good_region ?_
    refine g_op rfl (ValOk.op (v_assign rfl rfl ?_)) 
    refine g_nil ?_
    refine hK5 _ ?_
    refine Good.le (σ' := ⟨15, [(4, .str [])], []⟩) (le_w [] rfl ⟨⟨_, rfl, .refl _⟩, trivial⟩ trivial (by decide)) ?_
    refine good_ret ?_
    obtain rfl := Option.some.inj h
    exact endQ_ret (h' := []) [] (.tmp rfl (.nil)) trivial (by decide) ⟨rfl, rfl⟩
mutual
def m_spec_l1Put_l1 : Nat → Val → Bs → Int → Option (Lp Bs Bs)
  | 0, _, _, _ => none
  | k + 1, a0, x1, x2 =>
    if x2 < (a0.list.length : Int) then
      (if 0 < x2 then
          if (x1 ++ [44]).length ≤ maxLen then
            some (Lp.go (x1 ++ [44]))
          else none
        else
          some (Lp.go x1)).bind fun o2 =>
      o2.then fun s2 =>
    if (0 : Int) ≤ x2 ∧ x2 < (a0.list.length : Int) then
      (m_spec_l1Put k (ix a0.list x2)).bind fun y3 =>
      if (s2 ++ y3).length ≤ maxLen then
        m_spec_l1Put_l1 k a0 (s2 ++ y3) (IntKind.wrap .i64 (x2 + 1))
      else none
    else none
    else
      some (Lp.go x1)
def m_spec_l1Put_l2 : Nat → Val → Bs → Int → Option (Lp Bs Bs)
  | 0, _, _, _ => none
  | k + 1, a0, x3, x4 =>
    if x4 < (a0.list.length : Int) then
      (if 0 < x4 then
          if (x3 ++ [44]).length ≤ maxLen then
            some (Lp.go (x3 ++ [44]))
          else none
        else
          some (Lp.go x3)).bind fun o4 =>
      o4.then fun s4 =>
    (m_spec_l1Name2 a0 x4).bind fun y4 =>
    (m_spec_l1Quote k y4).bind fun y5 =>
    if (s4 ++ y5).length ≤ maxLen then
      if ((s4 ++ y5) ++ [58]).length ≤ maxLen then
        if (0 : Int) ≤ x4 ∧ x4 < (a0.list.length : Int) then
          (m_spec_l1Put k (ix a0.list x4)).bind fun y6 =>
          if (((s4 ++ y5) ++ [58]) ++ y6).length ≤ maxLen then
            m_spec_l1Put_l2 k a0 (((s4 ++ y5) ++ [58]) ++ y6) (IntKind.wrap .i64 (x4 + 1))
          else none
        else none
      else none
    else none
    else
      some (Lp.go x3)
def m_spec_l1Put : Nat → Val → Option Bs
  | 0, _ => none
  | k + 1, a0 =>
    if a0.kind = 1 then
      if a0.num = 1 then
        some [116, 114, 117, 101]
      else
        some [102, 97, 108, 115, 101]
    else
      if a0.kind = 2 then
        (m_spec_l1Dec k a0.num).bind fun y1 =>
        some y1
      else
        if a0.kind = 3 then
          (m_spec_l1Quote k a0.text).bind fun y2 =>
          some y2
        else
          if a0.kind = 4 then
            (m_spec_l1Put_l1 k a0 [] 0).bind fun o1 =>
            o1.then fun s1 =>
    if ([91] ++ s1).length ≤ maxLen then
      if (([91] ++ s1) ++ [93]).length ≤ maxLen then
        some (([91] ++ s1) ++ [93])
      else none
    else none
          else
            if a0.kind = 5 then
              (m_spec_l1Put_l2 k a0 [] 0).bind fun o3 =>
              o3.then fun s3 =>
    if ([123] ++ s3).length ≤ maxLen then
      if (([123] ++ s3) ++ [125]).length ≤ maxLen then
        some (([123] ++ s3) ++ [125])
      else none
    else none
            else
              some [110, 117, 108, 108]
end
def P_m_spec_l1Put (k : Nat) : Prop := ∀ (a0 : Val) (r : Bs), m_spec_l1Put k a0 = some r → Does Tryd.prog 40 [.agg [.int .i64 a0.kind, .int .i64 a0.num, .str a0.text, .sl true (a0.list.map encVal), .sl false (a0.names.map encS)]] [] (ret (.str r))
theorem m_spec_l1Put_step (k : Nat) (ih : ∀ m, m < k → P_m_spec_l1Put m) : P_m_spec_l1Put k := by
  intro a0 r h
  obtain ⟨k, rfl⟩ : ∃ k', k = k' + 1 := by cases k with | zero => (rw [m_spec_l1Put] at h; cases h) | succ k' => exact ⟨k', rfl⟩
  rw [m_spec_l1Put] at h
  refine does_of_good tabOk Tryd.func40 rfl (by decide +kernel) (Nat.le_of_ble_eq_true rfl) fun c => ?_
  refine Good.le (σ' := ⟨78, [(0, .agg [.int .i64 a0.kind, .int .i64 a0.num, .str a0.text, .sl true (a0.list.map encVal), .sl false (a0.names.map encS)])], []⟩) (Le.refl _) ?_
  refine good_seq fun K1 hK1 => ?_
  refine good_region ?_
  refine g_op rfl (o_box (k := 11) tabOk rfl rfl rfl rfl rfl ?_)
  intro b1
  refine g_op rfl (ValOk.op (v_assign rfl rfl ?_)) 
  refine g_nil ?_
  refine hK1 _ ?_
  refine Good.le (σ' := ⟨78, [(1, _), (2, _)], [(11, (_, _))]⟩) (le_w [some 11] rfl ⟨⟨_, rfl, .refl _⟩, ⟨⟨_, rfl, .refl _⟩, trivial⟩⟩ ⟨⟨_, rfl, .refl _⟩, trivial⟩ (by decide)) ?_
  refine good_seq fun K2 hK2 => ?_
  refine good_seq fun K3 hK3 => ?_
  refine good_region ?_
  refine g_op rfl (ValOk.op (v_fieldP tabOk rfl tfoff42_0 rfl ?_)) 
  refine g_op rfl (ValOk.op (v_loadP tabOk rfl rfl tsize3 tagg3 rfl rfl rfl rfl ?_)) 
  refine g_nil ?_
  refine hK3 _ ?_
  refine Good.le (σ' := ⟨78, [(1, _), (2, _), (8, _)], [(11, (_, _))]⟩) (le_w [some 11] rfl ⟨⟨_, rfl, .refl _⟩, ⟨⟨_, rfl, .refl _⟩, ⟨⟨_, rfl, .refl _⟩, trivial⟩⟩⟩ ⟨⟨_, rfl, .refl _⟩, trivial⟩ (by decide)) ?_
  refine good_block ?_
  refine good_seq fun K4 hK4 => ?_
  refine good_region ?_
  refine g_op rfl (ValOk.op (v_bin rfl rfl rfl rfl ?_)) 
  refine g_op rfl (ValOk.op (v_assign rfl rfl ?_)) 
  refine g_nil ?_
  refine hK4 _ ?_
  refine Good.le (σ' := ⟨78, [(1, _), (2, _), (8, _), (9, _)], [(11, (_, _))]⟩) (le_w [some 11] rfl ⟨⟨_, rfl, .refl _⟩, ⟨⟨_, rfl, .refl _⟩, ⟨⟨_, rfl, .refl _⟩, ⟨⟨_, rfl, .refl _⟩, trivial⟩⟩⟩⟩ ⟨⟨_, rfl, .refl _⟩, trivial⟩ (by decide)) ?_
  refine good_cond rfl (fun hc1 => ?_) (fun hc1 => ?_)
  · replace h := ifT h (dT hc1)
    refine good_seq fun K5 hK5 => ?_
    refine good_seq fun K6 hK6 => ?_
    refine good_region ?_
    refine g_op rfl (ValOk.op (v_fieldP tabOk rfl tfoff42_1 rfl ?_)) 
    refine g_op rfl (ValOk.op (v_loadP tabOk rfl rfl tsize3 tagg3 rfl rfl rfl rfl ?_)) 
    refine g_op rfl (ValOk.op (v_bin rfl rfl rfl rfl ?_)) 
    refine g_nil ?_
    refine hK6 _ ?_
    refine Good.le (σ' := ⟨78, [(2, _), (13, _)], []⟩) (le_w [] rfl ⟨⟨_, rfl, .refl _⟩, ⟨⟨_, rfl, .refl _⟩, trivial⟩⟩ trivial (by decide)) ?_
    refine good_cond rfl (fun hc2 => ?_) (fun hc2 => ?_)
    · replace h := ifT h (dT hc2)
      refine good_seq fun K7 hK7 => ?_
      refine good_region ?_
      refine g_op rfl (ValOk.op (v_assign rfl rfl ?_)) 
      refine g_nil ?_
      refine hK7 _ ?_
      refine Good.le (σ' := ⟨78, [(2, _)], []⟩) (le_w [] rfl ⟨⟨_, rfl, .refl _⟩, trivial⟩ trivial (by decide)) ?_
      refine Good.le (σ' := ⟨78, [(2, .str [116, 114, 117, 101])], []⟩) (le_w [] rfl ⟨⟨_, rfl, .refl _⟩, trivial⟩ trivial (by decide)) ?_
      refine good_ret ?_
      obtain rfl := Option.some.inj h
      refine thenQ_ret ?_
      refine blockQ_ret ?_
      refine thenQ_ret ?_
      exact endQ_ret (h' := []) [] (.tmp rfl (.nil)) trivial (by decide) ⟨rfl, rfl⟩
    · replace h := ifF h (dF hc2)
      refine good_skip ?_
      refine hK5 _ ?_
      refine Good.le (σ' := ⟨78, [(2, _)], []⟩) (le_w [] rfl ⟨⟨_, rfl, .refl _⟩, trivial⟩ trivial (by decide)) ?_
      refine good_seq fun K8 hK8 => ?_
      refine good_region ?_
      refine g_op rfl (ValOk.op (v_assign rfl rfl ?_)) 
      refine g_nil ?_
      refine hK8 _ ?_
      refine Good.le (σ' := ⟨78, [(2, .str [102, 97, 108, 115, 101])], []⟩) (le_w [] rfl ⟨⟨_, rfl, .refl _⟩, trivial⟩ trivial (by decide)) ?_
      refine good_ret ?_
      obtain rfl := Option.some.inj h
      refine blockQ_ret ?_
      refine thenQ_ret ?_
      exact endQ_ret (h' := []) [] (.tmp rfl (.nil)) trivial (by decide) ⟨rfl, rfl⟩
  · replace h := ifF h (dF hc1)
    refine good_seq fun K9 hK9 => ?_
    refine good_region ?_
    refine g_op rfl (ValOk.op (v_bin rfl rfl rfl rfl ?_)) 
    refine g_op rfl (ValOk.op (v_assign rfl rfl ?_)) 
    refine g_nil ?_
    refine hK9 _ ?_
    refine Good.le (σ' := ⟨78, [(1, _), (2, _), (8, _), (14, _)], [(11, (_, _))]⟩) (le_w [some 11] rfl ⟨⟨_, rfl, .refl _⟩, ⟨⟨_, rfl, .refl _⟩, ⟨⟨_, rfl, .refl _⟩, ⟨⟨_, rfl, .refl _⟩, trivial⟩⟩⟩⟩ ⟨⟨_, rfl, .refl _⟩, trivial⟩ (by decide)) ?_
    refine good_cond rfl (fun hc3 => ?_) (fun hc3 => ?_)
    · replace h := ifT h (dT hc3)
      refine good_seq fun K10 hK10 => ?_
      refine good_region ?_
      refine g_op rfl (ValOk.op (v_fieldP tabOk rfl tfoff42_1 rfl ?_)) 
      refine g_op rfl (ValOk.op (v_loadP tabOk rfl rfl tsize3 tagg3 rfl rfl rfl rfl ?_)) 
      obtain ⟨y1, hy1, h⟩ := bnd h
      refine g_op rfl (o_callR [] [] (core_value rfl rfl) (m_spec_l1Dec_ok k a0.num _ hy1) trivial (.cons (.refl _) (.nil)) (.inl rfl) rfl ?_)
      refine g_op rfl (ValOk.op (v_assign rfl rfl ?_)) 
      refine g_nil ?_
      refine hK10 _ ?_
      refine Good.le (σ' := ⟨78, [(2, _)], []⟩) (le_w [] rfl ⟨⟨_, rfl, .refl _⟩, trivial⟩ trivial (by decide)) ?_
      refine Good.le (σ' := ⟨78, [(2, .str y1)], []⟩) (le_w [] rfl ⟨⟨_, rfl, .refl _⟩, trivial⟩ trivial (by decide)) ?_
      refine good_ret ?_
      obtain rfl := Option.some.inj h
      refine blockQ_ret ?_
      refine thenQ_ret ?_
      exact endQ_ret (h' := []) [] (.tmp rfl (.nil)) trivial (by decide) ⟨rfl, rfl⟩
    · replace h := ifF h (dF hc3)
      refine good_seq fun K11 hK11 => ?_
      refine good_region ?_
      refine g_op rfl (ValOk.op (v_bin rfl rfl rfl rfl ?_)) 
      refine g_op rfl (ValOk.op (v_assign rfl rfl ?_)) 
      refine g_nil ?_
      refine hK11 _ ?_
      refine Good.le (σ' := ⟨78, [(1, _), (2, _), (8, _), (19, _)], [(11, (_, _))]⟩) (le_w [some 11] rfl ⟨⟨_, rfl, .refl _⟩, ⟨⟨_, rfl, .refl _⟩, ⟨⟨_, rfl, .refl _⟩, ⟨⟨_, rfl, .refl _⟩, trivial⟩⟩⟩⟩ ⟨⟨_, rfl, .refl _⟩, trivial⟩ (by decide)) ?_
      refine good_cond rfl (fun hc4 => ?_) (fun hc4 => ?_)
      · replace h := ifT h (dT hc4)
        refine good_seq fun K12 hK12 => ?_
        refine good_region ?_
        refine g_op rfl (ValOk.op (v_fieldP tabOk rfl tfoff42_2 rfl ?_)) 
        refine g_op rfl (ValOk.op (v_loadP tabOk rfl rfl tsize9 tagg9 rfl rfl rfl rfl ?_)) 
        obtain ⟨y2, hy2, h⟩ := bnd h
        refine g_op rfl (o_callR [] [] (core_value rfl rfl) (m_spec_l1Quote_ok k a0.text _ hy2) trivial (.cons (.refl _) (.nil)) (.inl rfl) rfl ?_)
        refine g_op rfl (ValOk.op (v_assign rfl rfl ?_)) 
        refine g_nil ?_
        refine hK12 _ ?_
        refine Good.le (σ' := ⟨78, [(2, _)], []⟩) (le_w [] rfl ⟨⟨_, rfl, .refl _⟩, trivial⟩ trivial (by decide)) ?_
        refine Good.le (σ' := ⟨78, [(2, .str y2)], []⟩) (le_w [] rfl ⟨⟨_, rfl, .refl _⟩, trivial⟩ trivial (by decide)) ?_
        refine good_ret ?_
        obtain rfl := Option.some.inj h
        refine blockQ_ret ?_
        refine thenQ_ret ?_
        exact endQ_ret (h' := []) [] (.tmp rfl (.nil)) trivial (by decide) ⟨rfl, rfl⟩
      · replace h := ifF h (dF hc4)
        refine good_seq fun K13 hK13 => ?_
        refine good_region ?_
        refine g_op rfl (ValOk.op (v_bin rfl rfl rfl rfl ?_)) 
        refine g_op rfl (ValOk.op (v_assign rfl rfl ?_)) 
        refine g_nil ?_
        refine hK13 _ ?_
        refine Good.le (σ' := ⟨78, [(1, _), (2, _), (8, _), (24, _)], [(11, (_, _))]⟩) (le_w [some 11] rfl ⟨⟨_, rfl, .refl _⟩, ⟨⟨_, rfl, .refl _⟩, ⟨⟨_, rfl, .refl _⟩, ⟨⟨_, rfl, .refl _⟩, trivial⟩⟩⟩⟩ ⟨⟨_, rfl, .refl _⟩, trivial⟩ (by decide)) ?_
        refine good_cond rfl (fun hc5 => ?_) (fun hc5 => ?_)
        · replace h := ifT h (dT hc5)
          refine good_seq fun K14 hK14 => ?_
          refine good_region ?_
          refine g_op rfl (ValOk.op (v_assign rfl rfl ?_)) 
          refine g_nil ?_
          refine hK14 _ ?_
          refine Good.le (σ' := ⟨78, [(1, _), (2, _), (3, _)], [(11, (_, _))]⟩) (le_w [some 11] rfl ⟨⟨_, rfl, .refl _⟩, ⟨⟨_, rfl, .refl _⟩, ⟨⟨_, rfl, .refl _⟩, trivial⟩⟩⟩ ⟨⟨_, rfl, .refl _⟩, trivial⟩ (by decide)) ?_
          refine good_seq fun K15 hK15 => ?_
          refine good_seq fun K16 hK16 => ?_
          refine good_region ?_
          refine g_op rfl (ValOk.op (v_assign rfl rfl ?_)) 
          refine g_nil ?_
          refine hK16 _ ?_
          obtain ⟨o1, ho1, hJ1⟩ := bnd h
          have hw1 : ∀ (s1 : Bs), o1 = Lp.go s1 → ∀ σ', Le σ' ⟨78, [(2, .str []), (3, .str s1)], []⟩ → K15 σ' := by
            intro s1 e1 σ' hle1
            subst e1
            refine hK15 _ (Good.le hle1 ?_)
            replace h := hJ1
            refine good_seq fun K17 hK17 => ?_
            refine good_region ?_
            refine g_op rfl (ValOk.op (v_move rfl rfl ?_)) 
            obtain ⟨hb1, h⟩ := ifS h
            refine g_op rfl (ValOk.op (v_cat rfl rfl hb1 rfl ?_)) 
            obtain ⟨hb2, h⟩ := ifS h
            refine g_op rfl (ValOk.op (v_cat rfl rfl hb2 rfl ?_)) 
            refine g_op rfl (ValOk.op (v_assign rfl rfl ?_)) 
            refine g_nil ?_
            refine hK17 _ ?_
            refine Good.le (σ' := ⟨78, [(2, _)], []⟩) (le_w [] rfl ⟨⟨_, rfl, .refl _⟩, trivial⟩ trivial (by decide)) ?_
            refine Good.le (σ' := ⟨78, [(2, .str (([91] ++ s1) ++ [93]))], []⟩) (le_w [] rfl ⟨⟨_, rfl, .refl _⟩, trivial⟩ trivial (by decide)) ?_
            refine good_ret ?_
            obtain rfl := Option.some.inj h
            refine blockQ_ret ?_
            refine thenQ_ret ?_
            exact endQ_ret (h' := []) [] (.tmp rfl (.nil)) trivial (by decide) ⟨rfl, rfl⟩
          replace h := ho1
          refine good_block ?_
          refine good_loopf (fun p : (Bs × Int) => ⟨78, [(1, .ptr 11 b1 0), (2, .str []), (3, .str p.1), (4, .int .i64 p.2)], [(11, ((.pointer (some ⟨b1, 0, none⟩)), .optr 42 [.int .i64 a0.kind, .int .i64 a0.num, .str a0.text, .sl true (a0.list.map encVal), .sl false (a0.names.map encS)]))]⟩) (fun m p => m < k + 1 ∧ m_spec_l1Put_l1 m a0 p.1 p.2 = some o1) k ([], 0) (le_w [some 11] rfl ⟨⟨_, rfl, .refl _⟩, ⟨⟨_, rfl, .refl _⟩, ⟨⟨_, rfl, .refl _⟩, ⟨⟨_, rfl, .refl _⟩, trivial⟩⟩⟩⟩ ⟨⟨_, rfl, .refl _⟩, trivial⟩ (by decide)) ⟨by omega, h⟩ ?_
          rintro m1 ⟨x1, x2⟩ ⟨hm, h⟩
          replace h : m_spec_l1Put_l1 m1 a0 x1 x2 = some o1 := h
          refine Good.le (σ' := ⟨78, [(1, .ptr 11 b1 0), (2, .str []), (3, .str x1), (4, .int .i64 x2)], [(11, ((.pointer (some ⟨b1, 0, none⟩)), .optr 42 [.int .i64 a0.kind, .int .i64 a0.num, .str a0.text, .sl true (a0.list.map encVal), .sl false (a0.names.map encS)]))]⟩) (Le.refl _) ?_
          obtain ⟨m1, rfl⟩ : ∃ m', m1 = m' + 1 := by cases m1 with | zero => (rw [m_spec_l1Put_l1] at h; cases h) | succ m' => exact ⟨m', rfl⟩
          rw [m_spec_l1Put_l1] at h
          refine good_seq fun K18 hK18 => ?_
          refine good_seq fun K19 hK19 => ?_
          refine good_region ?_
          refine g_op rfl (ValOk.op (v_move rfl rfl ?_)) 
          refine g_op rfl (ValOk.op (v_fieldP tabOk rfl tfoff42_3 rfl ?_)) 
          refine g_op rfl (ValOk.op (v_loadP tabOk rfl rfl tsize40 tagg40 rfl rfl rfl rfl ?_)) 
          refine g_op rfl (ValOk.op (v_lenM (l := a0.list) (f := encVal) tabOk rfl rfl telem40 rfl ?_)) 
          refine g_op rfl (ValOk.op (v_bin rfl rfl rfl rfl ?_)) 
          refine g_nil ?_
          refine hK19 _ ?_
          refine Good.le (σ' := ⟨78, [(1, _), (2, _), (3, _), (4, _), (30, _)], [(11, (_, _))]⟩) (le_w [some 11] rfl ⟨⟨_, rfl, .refl _⟩, ⟨⟨_, rfl, .refl _⟩, ⟨⟨_, rfl, .refl _⟩, ⟨⟨_, rfl, .refl _⟩, ⟨⟨_, rfl, .refl _⟩, trivial⟩⟩⟩⟩⟩ ⟨⟨_, rfl, .refl _⟩, trivial⟩ (by decide)) ?_
          refine good_cond rfl (fun hc6 => ?_) (fun hc6 => ?_)
          · replace h := ifT h (dT hc6)
            refine good_skip ?_
            refine hK18 _ ?_
            refine Good.le (σ' := ⟨78, [(1, _), (2, _), (3, _), (4, _)], [(11, (_, _))]⟩) (le_w [some 11] rfl ⟨⟨_, rfl, .refl _⟩, ⟨⟨_, rfl, .refl _⟩, ⟨⟨_, rfl, .refl _⟩, ⟨⟨_, rfl, .refl _⟩, trivial⟩⟩⟩⟩ ⟨⟨_, rfl, .refl _⟩, trivial⟩ (by decide)) ?_
            refine good_seq fun K20 hK20 => ?_
            refine good_block ?_
            refine good_seq fun K21 hK21 => ?_
            obtain ⟨o2, ho2, hJ2⟩ := bnd h
            have hw2 : ∀ (s2 : Bs), o2 = Lp.go s2 → ∀ σ', Le σ' ⟨78, [(1, .ptr 11 b1 0), (2, .str []), (3, .str s2), (4, .int .i64 x2)], [(11, ((.pointer (some ⟨b1, 0, none⟩)), .optr 42 [.int .i64 a0.kind, .int .i64 a0.num, .str a0.text, .sl true (a0.list.map encVal), .sl false (a0.names.map encS)]))]⟩ → K21 σ' := by
              intro s2 e2 σ' hle2
              subst e2
              refine hK21 _ (Good.le hle2 ?_)
              replace h := hJ2
              refine good_region ?_
              refine g_op rfl (ValOk.op (v_move rfl rfl ?_)) 
              refine g_op rfl (ValOk.op (v_fieldP tabOk rfl tfoff42_3 rfl ?_)) 
              refine g_op rfl (ValOk.op (v_loadP tabOk rfl rfl tsize40 tagg40 rfl rfl rfl rfl ?_)) 
              refine g_op rfl (ValOk.op (v_move rfl rfl ?_)) 
              obtain ⟨hb3, h⟩ := ifS h
              refine g_op rfl (ValOk.op (v_idxM tabOk rfl rfl telem40 tsize42 hb3 (encVal_eq _) rfl rfl ?_)) 
              refine g_op rfl (ValOk.op (v_loadE tabOk rfl tsize42 tagg42 rfl rfl rfl ?_)) 
              obtain ⟨y3, hy3, h⟩ := bnd h
              refine g_op rfl (o_callR [] [] (core_value rfl rfl) ((ih m1 (by omega)) (ix a0.list x2) _ hy3) trivial (.cons (.refl _) (.nil)) (.inl rfl) rfl ?_)
              obtain ⟨hb4, h⟩ := ifS h
              refine g_op rfl (ValOk.op (v_cat rfl rfl hb4 rfl ?_)) 
              refine g_op rfl (ValOk.op (v_assign rfl rfl ?_)) 
              refine g_nil ?_
              refine hK20 _ ?_
              refine Good.le (σ' := ⟨78, [(1, _), (2, _), (3, _), (4, _)], [(11, (_, _))]⟩) (le_w [some 11] rfl ⟨⟨_, rfl, .refl _⟩, ⟨⟨_, rfl, .refl _⟩, ⟨⟨_, rfl, .refl _⟩, ⟨⟨_, rfl, .refl _⟩, trivial⟩⟩⟩⟩ ⟨⟨_, rfl, .refl _⟩, trivial⟩ (by decide)) ?_
              refine good_region ?_
              refine g_op rfl (ValOk.op (v_move rfl rfl ?_)) 
              refine g_op rfl (ValOk.op (v_bin rfl rfl rfl rfl ?_)) 
              refine g_op rfl (ValOk.op (v_assign rfl rfl ?_)) 
              refine g_nil ?_
              exact round_mk m1 (s2 ++ y3, IntKind.wrap .i64 (x2 + 1)) (Nat.lt_succ_self _) ⟨by omega, h⟩ (le_w [some 11] rfl ⟨⟨_, rfl, .refl _⟩, ⟨⟨_, rfl, .refl _⟩, ⟨⟨_, rfl, .refl _⟩, ⟨⟨_, rfl, .refl _⟩, trivial⟩⟩⟩⟩ ⟨⟨_, rfl, .refl _⟩, trivial⟩ (by decide))
            replace h := ho2
            refine good_seq fun K22 hK22 => ?_
            refine good_region ?_
            refine g_op rfl (ValOk.op (v_move rfl rfl ?_)) 
            refine g_op rfl (ValOk.op (v_bin rfl rfl rfl rfl ?_)) 
            refine g_nil ?_
            refine hK22 _ ?_
            refine Good.le (σ' := ⟨78, [(1, _), (2, _), (3, _), (4, _), (34, _)], [(11, (_, _))]⟩) (le_w [some 11] rfl ⟨⟨_, rfl, .refl _⟩, ⟨⟨_, rfl, .refl _⟩, ⟨⟨_, rfl, .refl _⟩, ⟨⟨_, rfl, .refl _⟩, ⟨⟨_, rfl, .refl _⟩, trivial⟩⟩⟩⟩⟩ ⟨⟨_, rfl, .refl _⟩, trivial⟩ (by decide)) ?_
            refine good_cond rfl (fun hc7 => ?_) (fun hc7 => ?_)
            · replace h := ifT h (dT hc7)
              refine good_region ?_
              refine g_op rfl (ValOk.op (v_move rfl rfl ?_)) 
              obtain ⟨hb5, h⟩ := ifS h
              refine g_op rfl (ValOk.op (v_cat rfl rfl hb5 rfl ?_)) 
              refine g_op rfl (ValOk.op (v_assign rfl rfl ?_)) 
              refine g_nil ?_
              exact hw2 (x1 ++ [44]) (Option.some.inj h).symm _ (le_w [some 11] rfl ⟨⟨_, rfl, .refl _⟩, ⟨⟨_, rfl, .refl _⟩, ⟨⟨_, rfl, .refl _⟩, ⟨⟨_, rfl, .refl _⟩, trivial⟩⟩⟩⟩ ⟨⟨_, rfl, .refl _⟩, trivial⟩ (by decide))
            · replace h := ifF h (dF hc7)
              refine good_skip ?_
              exact hw2 x1 (Option.some.inj h).symm _ (le_w [some 11] rfl ⟨⟨_, rfl, .refl _⟩, ⟨⟨_, rfl, .refl _⟩, ⟨⟨_, rfl, .refl _⟩, ⟨⟨_, rfl, .refl _⟩, trivial⟩⟩⟩⟩ ⟨⟨_, rfl, .refl _⟩, trivial⟩ (by decide))
          · replace h := ifF h (dF hc6)
            refine good_exit ?_
            exact hw1 x1 (Option.some.inj h).symm _ (le_w [] rfl ⟨⟨_, rfl, .refl _⟩, ⟨⟨_, rfl, .refl _⟩, trivial⟩⟩ trivial (by decide))
        · replace h := ifF h (dF hc5)
          refine good_seq fun K23 hK23 => ?_
          refine good_region ?_
          refine g_op rfl (ValOk.op (v_bin rfl rfl rfl rfl ?_)) 
          refine g_op rfl (ValOk.op (v_assign rfl rfl ?_)) 
          refine g_nil ?_
          refine hK23 _ ?_
          refine Good.le (σ' := ⟨78, [(1, _), (2, _), (48, _)], [(11, (_, _))]⟩) (le_w [some 11] rfl ⟨⟨_, rfl, .refl _⟩, ⟨⟨_, rfl, .refl _⟩, ⟨⟨_, rfl, .refl _⟩, trivial⟩⟩⟩ ⟨⟨_, rfl, .refl _⟩, trivial⟩ (by decide)) ?_
          refine good_cond rfl (fun hc8 => ?_) (fun hc8 => ?_)
          · replace h := ifT h (dT hc8)
            refine good_seq fun K24 hK24 => ?_
            refine good_region ?_
            refine g_op rfl (ValOk.op (v_assign rfl rfl ?_)) 
            refine g_nil ?_
            refine hK24 _ ?_
            refine Good.le (σ' := ⟨78, [(1, _), (2, _), (5, _)], [(11, (_, _))]⟩) (le_w [some 11] rfl ⟨⟨_, rfl, .refl _⟩, ⟨⟨_, rfl, .refl _⟩, ⟨⟨_, rfl, .refl _⟩, trivial⟩⟩⟩ ⟨⟨_, rfl, .refl _⟩, trivial⟩ (by decide)) ?_
            refine good_seq fun K25 hK25 => ?_
            refine good_seq fun K26 hK26 => ?_
            refine good_region ?_
            refine g_op rfl (ValOk.op (v_assign rfl rfl ?_)) 
            refine g_nil ?_
            refine hK26 _ ?_
            obtain ⟨o3, ho3, hJ3⟩ := bnd h
            have hw3 : ∀ (s3 : Bs), o3 = Lp.go s3 → ∀ σ', Le σ' ⟨78, [(2, .str []), (5, .str s3)], []⟩ → K25 σ' := by
              intro s3 e3 σ' hle3
              subst e3
              refine hK25 _ (Good.le hle3 ?_)
              replace h := hJ3
              refine good_seq fun K27 hK27 => ?_
              refine good_region ?_
              refine g_op rfl (ValOk.op (v_move rfl rfl ?_)) 
              obtain ⟨hb6, h⟩ := ifS h
              refine g_op rfl (ValOk.op (v_cat rfl rfl hb6 rfl ?_)) 
              obtain ⟨hb7, h⟩ := ifS h
              refine g_op rfl (ValOk.op (v_cat rfl rfl hb7 rfl ?_)) 
              refine g_op rfl (ValOk.op (v_assign rfl rfl ?_)) 
              refine g_nil ?_
              refine hK27 _ ?_
              refine Good.le (σ' := ⟨78, [(2, _)], []⟩) (le_w [] rfl ⟨⟨_, rfl, .refl _⟩, trivial⟩ trivial (by decide)) ?_
              refine Good.le (σ' := ⟨78, [(2, .str (([123] ++ s3) ++ [125]))], []⟩) (le_w [] rfl ⟨⟨_, rfl, .refl _⟩, trivial⟩ trivial (by decide)) ?_
              refine good_ret ?_
              obtain rfl := Option.some.inj h
              refine blockQ_ret ?_
              refine thenQ_ret ?_
              exact endQ_ret (h' := []) [] (.tmp rfl (.nil)) trivial (by decide) ⟨rfl, rfl⟩
            replace h := ho3
            refine good_block ?_
            refine good_loopf (fun p : (Bs × Int) => ⟨78, [(1, .ptr 11 b1 0), (2, .str []), (5, .str p.1), (6, .int .i64 p.2)], [(11, ((.pointer (some ⟨b1, 0, none⟩)), .optr 42 [.int .i64 a0.kind, .int .i64 a0.num, .str a0.text, .sl true (a0.list.map encVal), .sl false (a0.names.map encS)]))]⟩) (fun m p => m < k + 1 ∧ m_spec_l1Put_l2 m a0 p.1 p.2 = some o3) k ([], 0) (le_w [some 11] rfl ⟨⟨_, rfl, .refl _⟩, ⟨⟨_, rfl, .refl _⟩, ⟨⟨_, rfl, .refl _⟩, ⟨⟨_, rfl, .refl _⟩, trivial⟩⟩⟩⟩ ⟨⟨_, rfl, .refl _⟩, trivial⟩ (by decide)) ⟨by omega, h⟩ ?_
            rintro m2 ⟨x3, x4⟩ ⟨hm, h⟩
            replace h : m_spec_l1Put_l2 m2 a0 x3 x4 = some o3 := h
            refine Good.le (σ' := ⟨78, [(1, .ptr 11 b1 0), (2, .str []), (5, .str x3), (6, .int .i64 x4)], [(11, ((.pointer (some ⟨b1, 0, none⟩)), .optr 42 [.int .i64 a0.kind, .int .i64 a0.num, .str a0.text, .sl true (a0.list.map encVal), .sl false (a0.names.map encS)]))]⟩) (Le.refl _) ?_
            obtain ⟨m2, rfl⟩ : ∃ m', m2 = m' + 1 := by cases m2 with | zero => (rw [m_spec_l1Put_l2] at h; cases h) | succ m' => exact ⟨m', rfl⟩
            rw [m_spec_l1Put_l2] at h
            refine good_seq fun K28 hK28 => ?_
            refine good_seq fun K29 hK29 => ?_
            refine good_region ?_
            refine g_op rfl (ValOk.op (v_move rfl rfl ?_)) 
            refine g_op rfl (ValOk.op (v_fieldP tabOk rfl tfoff42_3 rfl ?_)) 
            refine g_op rfl (ValOk.op (v_loadP tabOk rfl rfl tsize40 tagg40 rfl rfl rfl rfl ?_)) 
            refine g_op rfl (ValOk.op (v_lenM (l := a0.list) (f := encVal) tabOk rfl rfl telem40 rfl ?_)) 
            refine g_op rfl (ValOk.op (v_bin rfl rfl rfl rfl ?_)) 
            refine g_nil ?_
            refine hK29 _ ?_
            refine Good.le (σ' := ⟨78, [(1, _), (2, _), (5, _), (6, _), (54, _)], [(11, (_, _))]⟩) (le_w [some 11] rfl ⟨⟨_, rfl, .refl _⟩, ⟨⟨_, rfl, .refl _⟩, ⟨⟨_, rfl, .refl _⟩, ⟨⟨_, rfl, .refl _⟩, ⟨⟨_, rfl, .refl _⟩, trivial⟩⟩⟩⟩⟩ ⟨⟨_, rfl, .refl _⟩, trivial⟩ (by decide)) ?_
            refine good_cond rfl (fun hc9 => ?_) (fun hc9 => ?_)
            · replace h := ifT h (dT hc9)
              refine good_skip ?_
              refine hK28 _ ?_
              refine Good.le (σ' := ⟨78, [(1, _), (2, _), (5, _), (6, _)], [(11, (_, _))]⟩) (le_w [some 11] rfl ⟨⟨_, rfl, .refl _⟩, ⟨⟨_, rfl, .refl _⟩, ⟨⟨_, rfl, .refl _⟩, ⟨⟨_, rfl, .refl _⟩, trivial⟩⟩⟩⟩ ⟨⟨_, rfl, .refl _⟩, trivial⟩ (by decide)) ?_
              refine good_seq fun K30 hK30 => ?_
              refine good_block ?_
              refine good_seq fun K31 hK31 => ?_
              obtain ⟨o4, ho4, hJ4⟩ := bnd h
              have hw4 : ∀ (s4 : Bs), o4 = Lp.go s4 → ∀ σ', Le σ' ⟨78, [(1, .ptr 11 b1 0), (2, .str []), (5, .str s4), (6, .int .i64 x4)], [(11, ((.pointer (some ⟨b1, 0, none⟩)), .optr 42 [.int .i64 a0.kind, .int .i64 a0.num, .str a0.text, .sl true (a0.list.map encVal), .sl false (a0.names.map encS)]))]⟩ → K31 σ' := by
                intro s4 e4 σ' hle4
                subst e4
                refine hK31 _ (Good.le hle4 ?_)
                replace h := hJ4
                refine good_draw (by kernel_rfl) (by kernel_rfl) ?_
                refine q_op rfl (v_move rfl rfl ?_) 
                refine q_op rfl (v_loadP tabOk rfl rfl tsize42 tagg42 rfl rfl rfl rfl ?_) 
                refine q_op rfl (v_move rfl rfl ?_) 
                obtain ⟨y4, hy4, h⟩ := bnd h
                refine q_call [] [] (fun _ _ _ _ _ => wanted_none rfl _) (core_value rfl rfl) (m_spec_l1Name2_ok a0 x4 _ hy4) trivial (.cons (.refl _) (.cons (.refl _) (.nil))) (.str _) rfl ?_
                obtain ⟨y5, hy5, h⟩ := bnd h
                refine q_call [] [] (fun _ _ _ _ _ => wanted_none rfl _) (core_value rfl rfl) (m_spec_l1Quote_ok m2 y4 _ hy5) trivial (.cons (.refl _) (.nil)) (.str _) rfl ?_
                obtain ⟨hb8, h⟩ := ifS h
                refine q_op rfl (v_cat rfl rfl hb8 rfl ?_) 
                obtain ⟨hb9, h⟩ := ifS h
                refine q_op rfl (v_cat rfl rfl hb9 rfl ?_) 
                refine q_op rfl (v_fieldP tabOk rfl tfoff42_3 rfl ?_) 
                refine q_op rfl (v_loadP tabOk rfl rfl tsize40 tagg40 rfl rfl rfl rfl ?_) 
                refine q_op rfl (v_move rfl rfl ?_) 
                obtain ⟨hb10, h⟩ := ifS h
                refine q_op rfl (v_idxM tabOk rfl rfl telem40 tsize42 hb10 (encVal_eq _) rfl rfl ?_) 
                refine q_op rfl (v_loadE tabOk rfl tsize42 tagg42 rfl rfl rfl ?_) 
                obtain ⟨y6, hy6, h⟩ := bnd h
                refine q_call [] [] (fun _ _ _ _ _ => wanted_none rfl _) (core_value rfl rfl) ((ih m2 (by omega)) (ix a0.list x4) _ hy6) trivial (.cons (.refl _) (.nil)) (.str _) rfl ?_
                obtain ⟨hb11, h⟩ := ifS h
                refine q_op rfl (v_cat rfl rfl hb11 rfl ?_) 
                refine q_op rfl (v_assign rfl rfl ?_) 
                refine q_nil ?_
                refine hK30 _ ?_
                refine Good.le (σ' := ⟨78, [(1, _), (2, _), (5, _), (6, _)], [(11, (_, _))]⟩) (le_w [some 11] rfl ⟨⟨_, rfl, .refl _⟩, ⟨⟨_, rfl, .refl _⟩, ⟨⟨_, rfl, .refl _⟩, ⟨⟨_, rfl, .refl _⟩, trivial⟩⟩⟩⟩ ⟨⟨_, rfl, .refl _⟩, trivial⟩ (by decide)) ?_
                refine good_region ?_
                refine g_op rfl (ValOk.op (v_move rfl rfl ?_)) 
                refine g_op rfl (ValOk.op (v_bin rfl rfl rfl rfl ?_)) 
                refine g_op rfl (ValOk.op (v_assign rfl rfl ?_)) 
                refine g_nil ?_
                exact round_mk m2 (((s4 ++ y5) ++ [58]) ++ y6, IntKind.wrap .i64 (x4 + 1)) (Nat.lt_succ_self _) ⟨by omega, h⟩ (le_w [some 11] rfl ⟨⟨_, rfl, .refl _⟩, ⟨⟨_, rfl, .refl _⟩, ⟨⟨_, rfl, .refl _⟩, ⟨⟨_, rfl, .refl _⟩, trivial⟩⟩⟩⟩ ⟨⟨_, rfl, .refl _⟩, trivial⟩ (by decide))
              replace h := ho4
              refine good_seq fun K32 hK32 => ?_
              refine good_region ?_
              refine g_op rfl (ValOk.op (v_move rfl rfl ?_)) 
              refine g_op rfl (ValOk.op (v_bin rfl rfl rfl rfl ?_)) 
              refine g_nil ?_
              refine hK32 _ ?_
              refine Good.le (σ' := ⟨78, [(1, _), (2, _), (5, _), (6, _), (58, _)], [(11, (_, _))]⟩) (le_w [some 11] rfl ⟨⟨_, rfl, .refl _⟩, ⟨⟨_, rfl, .refl _⟩, ⟨⟨_, rfl, .refl _⟩, ⟨⟨_, rfl, .refl _⟩, ⟨⟨_, rfl, .refl _⟩, trivial⟩⟩⟩⟩⟩ ⟨⟨_, rfl, .refl _⟩, trivial⟩ (by decide)) ?_
              refine good_cond rfl (fun hc10 => ?_) (fun hc10 => ?_)
              · replace h := ifT h (dT hc10)
                refine good_region ?_
                refine g_op rfl (ValOk.op (v_move rfl rfl ?_)) 
                obtain ⟨hb12, h⟩ := ifS h
                refine g_op rfl (ValOk.op (v_cat rfl rfl hb12 rfl ?_)) 
                refine g_op rfl (ValOk.op (v_assign rfl rfl ?_)) 
                refine g_nil ?_
                exact hw4 (x3 ++ [44]) (Option.some.inj h).symm _ (le_w [some 11] rfl ⟨⟨_, rfl, .refl _⟩, ⟨⟨_, rfl, .refl _⟩, ⟨⟨_, rfl, .refl _⟩, ⟨⟨_, rfl, .refl _⟩, trivial⟩⟩⟩⟩ ⟨⟨_, rfl, .refl _⟩, trivial⟩ (by decide))
              · replace h := ifF h (dF hc10)
                refine good_skip ?_
                exact hw4 x3 (Option.some.inj h).symm _ (le_w [some 11] rfl ⟨⟨_, rfl, .refl _⟩, ⟨⟨_, rfl, .refl _⟩, ⟨⟨_, rfl, .refl _⟩, ⟨⟨_, rfl, .refl _⟩, trivial⟩⟩⟩⟩ ⟨⟨_, rfl, .refl _⟩, trivial⟩ (by decide))
            · replace h := ifF h (dF hc9)
              refine good_exit ?_
              exact hw3 x3 (Option.some.inj h).symm _ (le_w [] rfl ⟨⟨_, rfl, .refl _⟩, ⟨⟨_, rfl, .refl _⟩, trivial⟩⟩ trivial (by decide))
          · replace h := ifF h (dF hc8)
            refine good_skip ?_
            refine hK2 _ ?_
            refine Good.le (σ' := ⟨78, [(2, _)], []⟩) (le_w [] rfl ⟨⟨_, rfl, .refl _⟩, trivial⟩ trivial (by decide)) ?_
            refine good_seq fun K33 hK33 => ?_
            refine good_region ?_
            refine g_op rfl (ValOk.op (v_assign rfl rfl ?_)) 
            refine g_nil ?_
            refine hK33 _ ?_
            refine Good.le (σ' := ⟨78, [(2, .str [110, 117, 108, 108])], []⟩) (le_w [] rfl ⟨⟨_, rfl, .refl _⟩, trivial⟩ trivial (by decide)) ?_
            refine good_ret ?_
            obtain rfl := Option.some.inj h
            exact endQ_ret (h' := []) [] (.tmp rfl (.nil)) trivial (by decide) ⟨rfl, rfl⟩
theorem m_spec_l1Put_all (k : Nat) : P_m_spec_l1Put k := by
  induction k using Nat.strongRecOn with
  | _ k ih => exact m_spec_l1Put_step k ih
theorem m_spec_l1Put_ok (k : Nat) : ∀ (a0 : Val) (r : Bs), m_spec_l1Put k a0 = some r → Does Tryd.prog 40 [.agg [.int .i64 a0.kind, .int .i64 a0.num, .str a0.text, .sl true (a0.list.map encVal), .sl false (a0.names.map encS)]] [] (ret (.str r)) := (m_spec_l1Put_all k)
def m_spec_JsonPut (k : Nat) (a0 : Val) : Option Bs :=
  (m_spec_ValueOk k a0).bind fun y1 =>
  if y1 = true then
    (m_spec_l1Put k a0).bind fun y2 =>
    some y2
  else
    some []
theorem m_spec_JsonPut_ok (k : Nat) : ∀ (a0 : Val) (r : Bs), m_spec_JsonPut k a0 = some r → Does Tryd.prog 20 [.agg [.int .i64 a0.kind, .int .i64 a0.num, .str a0.text, .sl true (a0.list.map encVal), .sl false (a0.names.map encS)]] [] (ret (.str r)) := by
  intro a0 r h
  rw [m_spec_JsonPut] at h
  refine does_of_good tabOk Tryd.func20 rfl (by decide +kernel) (Nat.le_of_ble_eq_true rfl) fun c => ?_
  refine Good.le (σ' := ⟨8, [(0, .agg [.int .i64 a0.kind, .int .i64 a0.num, .str a0.text, .sl true (a0.list.map encVal), .sl false (a0.names.map encS)])], []⟩) (Le.refl _) ?_
  refine good_seq fun K1 hK1 => ?_
  refine good_region ?_
  refine g_op rfl (o_box (k := 11) tabOk rfl rfl rfl rfl rfl ?_)
  intro b1
  refine g_op rfl (ValOk.op (v_assign rfl rfl ?_)) 
  refine g_nil ?_
  refine hK1 _ ?_
  refine Good.le (σ' := ⟨8, [(1, _), (2, _)], [(11, (_, _))]⟩) (le_w [some 11] rfl ⟨⟨_, rfl, .refl _⟩, ⟨⟨_, rfl, .refl _⟩, trivial⟩⟩ ⟨⟨_, rfl, .refl _⟩, trivial⟩ (by decide)) ?_
  refine good_seq fun K2 hK2 => ?_
  refine good_seq fun K3 hK3 => ?_
  refine good_region ?_
  refine g_op rfl (ValOk.op (v_loadP tabOk rfl rfl tsize42 tagg42 rfl rfl rfl rfl ?_)) 
  obtain ⟨y1, hy1, h⟩ := bnd h
  refine g_op rfl (o_callR [] [] (core_value rfl rfl) (m_spec_ValueOk_ok k a0 _ hy1) trivial (.cons (.refl _) (.nil)) (.inl rfl) rfl ?_)
  refine g_op rfl (ValOk.op (v_not rfl rfl ?_)) 
  refine g_nil ?_
  refine hK3 _ ?_
  refine Good.le (σ' := ⟨8, [(1, _), (2, _), (5, _)], [(11, (_, _))]⟩) (le_w [some 11] rfl ⟨⟨_, rfl, .refl _⟩, ⟨⟨_, rfl, .refl _⟩, ⟨⟨_, rfl, .refl _⟩, trivial⟩⟩⟩ ⟨⟨_, rfl, .refl _⟩, trivial⟩ (by decide)) ?_
  refine good_cond rfl (fun hc1 => ?_) (fun hc1 => ?_)
  · replace h := bF h (nT hc1)
    refine good_seq fun K4 hK4 => ?_
    refine good_region ?_
    refine g_op rfl (ValOk.op (v_assign rfl rfl ?_)) 
    refine g_nil ?_
    refine hK4 _ ?_
    refine Good.le (σ' := ⟨8, [(1, _), (2, _)], [(11, (_, _))]⟩) (le_w [some 11] rfl ⟨⟨_, rfl, .refl _⟩, ⟨⟨_, rfl, .refl _⟩, trivial⟩⟩ ⟨⟨_, rfl, .refl _⟩, trivial⟩ (by decide)) ?_
    refine Good.le (σ' := ⟨8, [(2, .str [])], []⟩) (le_w [] rfl ⟨⟨_, rfl, .refl _⟩, trivial⟩ trivial (by decide)) ?_
    refine good_ret ?_
    obtain rfl := Option.some.inj h
    refine thenQ_ret ?_
    exact endQ_ret (h' := []) [] (.tmp rfl (.nil)) trivial (by decide) ⟨rfl, rfl⟩
  · replace h := ifT h (nF hc1)
    refine good_skip ?_
    refine hK2 _ ?_
    refine Good.le (σ' := ⟨8, [(1, _), (2, _)], [(11, (_, _))]⟩) (le_w [some 11] rfl ⟨⟨_, rfl, .refl _⟩, ⟨⟨_, rfl, .refl _⟩, trivial⟩⟩ ⟨⟨_, rfl, .refl _⟩, trivial⟩ (by decide)) ?_
    refine good_seq fun K5 hK5 => ?_
    refine good_region ?_
    refine g_op rfl (ValOk.op (v_loadP tabOk rfl rfl tsize42 tagg42 rfl rfl rfl rfl ?_)) 
    obtain ⟨y2, hy2, h⟩ := bnd h
    refine g_op rfl (o_callR [] [] (core_value rfl rfl) (m_spec_l1Put_ok k a0 _ hy2) trivial (.cons (.refl _) (.nil)) (.inl rfl) rfl ?_)
    refine g_op rfl (ValOk.op (v_assign rfl rfl ?_)) 
    refine g_nil ?_
    refine hK5 _ ?_
    refine Good.le (σ' := ⟨8, [(2, _)], []⟩) (le_w [] rfl ⟨⟨_, rfl, .refl _⟩, trivial⟩ trivial (by decide)) ?_
    refine Good.le (σ' := ⟨8, [(2, .str y2)], []⟩) (le_w [] rfl ⟨⟨_, rfl, .refl _⟩, trivial⟩ trivial (by decide)) ?_
    refine good_ret ?_
    obtain rfl := Option.some.inj h
    exact endQ_ret (h' := []) [] (.tmp rfl (.nil)) trivial (by decide) ⟨rfl, rfl⟩
end Go.Proofs.YtopbbjoflopjbaaDoor
