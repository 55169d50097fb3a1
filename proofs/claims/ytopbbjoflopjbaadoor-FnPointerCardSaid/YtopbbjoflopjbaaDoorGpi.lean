/- What functions of this program answer, as plain functions; each theorem says that the code comes to just that. -/
import Derived.Test.YtopbbjoflopjbaaDoorDat
import Derived.Test.YtopbbjoflopjbaaDoorB13
import Derived.Test.YtopbbjoflopjbaaDoorDatO
import Derived.Test.YtopbbjoflopjbaaDoorB20
import Derived.Test.YtopbbjoflopjbaaDoorGsp
/-! Functions of the program. -/
set_option linter.unusedVariables false
set_option maxRecDepth 100000
set_option maxHeartbeats 20000000
namespace Go.Proofs.YtopbbjoflopjbaaDoor
open Go.Bb
def m_impl_stepGet_l1 : Nat → Bs → (List Int) → Int → Option (Lp (List Int) (Bs × Bool))
  | 0, _, _, _ => none
  | k + 1, a0, x1, x2 =>
    if x2 < (a0.length : Int) then
      if (0 : Int) ≤ x2 ∧ x2 < (a0.length : Int) then
        if (byt a0 x2) = 126 then
          (if (IntKind.wrap .i64 (x2 + 1)) < (a0.length : Int) then
              if (0 : Int) ≤ (IntKind.wrap .i64 (x2 + 1)) ∧ (IntKind.wrap .i64 (x2 + 1)) < (a0.length : Int) then
                some (Lp.go (decide ((byt a0 (IntKind.wrap .i64 (x2 + 1))) = 48)))
              else none
            else
              some (Lp.go false)).bind fun o2 =>
          o2.then fun s2 =>
    if s2 = true then
      if (x1 ++ [126]).length * 1 ≤ 140737488355328 then
        m_impl_stepGet_l1 k a0 (x1 ++ [126]) (IntKind.wrap .i64 ((IntKind.wrap .i64 (x2 + 1)) + 1))
      else none
    else
      (if (IntKind.wrap .i64 (x2 + 1)) < (a0.length : Int) then
          if (0 : Int) ≤ (IntKind.wrap .i64 (x2 + 1)) ∧ (IntKind.wrap .i64 (x2 + 1)) < (a0.length : Int) then
            some (Lp.go (decide ((byt a0 (IntKind.wrap .i64 (x2 + 1))) = 49)))
          else none
        else
          some (Lp.go false)).bind fun o3 =>
      o3.then fun s3 =>
    if s3 = true then
      if (x1 ++ [47]).length * 1 ≤ 140737488355328 then
        m_impl_stepGet_l1 k a0 (x1 ++ [47]) (IntKind.wrap .i64 ((IntKind.wrap .i64 (x2 + 1)) + 1))
      else none
    else
      (some ([], false)).bind fun z =>
      some (Lp.ret z)
        else
          if (0 : Int) ≤ x2 ∧ x2 < (a0.length : Int) then
            if (x1 ++ [byt a0 x2]).length * 1 ≤ 140737488355328 then
              m_impl_stepGet_l1 k a0 (x1 ++ [byt a0 x2]) (IntKind.wrap .i64 (x2 + 1))
            else none
          else none
      else none
    else
      some (Lp.go x1)
def m_impl_stepGet (k : Nat) (a0 : Bs) : Option (Bs × Bool) :=
  (m_impl_stepGet_l1 k a0 ([] : List Int) 0).bind fun o1 =>
  o1.then fun s1 =>
    some (ofI s1, true)
theorem m_impl_stepGet_ok (k : Nat) : ∀ (a0 : Bs) (r : (Bs × Bool)), m_impl_stepGet k a0 = some r → Does Tryd.prog 29 [.str a0] [] (ret (.tup [.str r.1, .bool r.2])) := by
  intro a0 r h
  rw [m_impl_stepGet] at h
  refine does_of_good tabOk Tryd.func29 rfl (by decide +kernel) (Nat.le_of_ble_eq_true rfl) fun c => ?_
  refine Good.le (σ' := ⟨55, [(0, .str a0)], []⟩) (Le.refl _) ?_
  refine good_seq fun K1 hK1 => ?_
  refine good_region ?_
  refine g_op rfl (ValOk.op (v_assign rfl rfl ?_)) 
  refine g_op rfl (ValOk.op (v_assign rfl rfl ?_)) 
  refine g_nil ?_
  refine hK1 _ ?_
  refine good_seq fun K2 hK2 => ?_
  refine good_region ?_
  refine g_op rfl (o_buildSlice (k := 16) (rows := ([] : List Int).map (encI .u8)) tabOk telem30 tsize5 rfl rfl rfl rfl (by decide) (by decide) (by rw [tzero5]; rfl) rfl rfl rfl rfl rfl ?_)
  intro w1
  refine g_op rfl (ValOk.op (v_assign rfl rfl ?_)) 
  refine g_nil ?_
  refine hK2 _ ?_
  refine Good.le (σ' := ⟨55, [(0, _), (2, _), (3, _), (4, _)], [(16, (_, _))]⟩) (le_w [some 16] rfl ⟨⟨_, rfl, .refl _⟩, ⟨⟨_, rfl, .refl _⟩, ⟨⟨_, rfl, .refl _⟩, ⟨⟨_, rfl, .refl _⟩, trivial⟩⟩⟩⟩ ⟨⟨_, rfl, .refl _⟩, trivial⟩ (by decide)) ?_
  refine good_seq fun K3 hK3 => ?_
  refine good_seq fun K4 hK4 => ?_
  refine good_region ?_
  refine g_op rfl (ValOk.op (v_assign rfl rfl ?_)) 
  refine g_nil ?_
  refine hK4 _ ?_
  obtain ⟨o1, ho1, hJ1⟩ := bnd h
  have hw1 : ∀ (s1 : (List Int)) (w3 : Value), o1 = Lp.go s1 → ∀ σ', Le σ' ⟨55, [(2, .str []), (3, .bool false), (4, .hd 5201 w3)], [(5201, (w3, .osl 5 1 (s1.map (encI .u8))))]⟩ → K3 σ' := by
    intro s1 w3 e1 σ' hle1
    subst e1
    refine hK3 _ (Good.le hle1 ?_)
    replace h := hJ1
    refine good_seq fun K5 hK5 => ?_
    refine good_region ?_
    refine g_op rfl (ValOk.op (v_move rfl rfl ?_)) 
    refine g_op rfl (ValOk.op (v_bytesHI (q := 5201) tabOk ⟨_, rfl⟩ rfl telem30 tkind5 tkind9 rfl ?_)) 
    refine g_op rfl (ValOk.op (v_assign rfl rfl ?_)) 
    refine g_op rfl (ValOk.op (v_assign rfl rfl ?_)) 
    refine g_nil ?_
    refine hK5 _ ?_
    refine Good.le (σ' := ⟨55, [(2, _), (3, _)], []⟩) (le_w [] rfl ⟨⟨_, rfl, .refl _⟩, ⟨⟨_, rfl, .refl _⟩, trivial⟩⟩ trivial (by decide)) ?_
    refine Good.le (σ' := ⟨55, [(2, .str (ofI s1)), (3, .bool true)], []⟩) (le_w [] rfl ⟨⟨_, rfl, .refl _⟩, ⟨⟨_, rfl, .refl _⟩, trivial⟩⟩ trivial (by decide)) ?_
    refine good_ret ?_
    obtain rfl := Option.some.inj h
    exact endQ_ret (h' := []) [] (.tmp rfl (.tmp rfl (.nil))) trivial (by decide) ⟨rfl, rfl⟩
  replace h := ho1
  refine good_block ?_
  refine good_loopf (fun p : ((List Int) × Int × Value) => ⟨55, [(0, .str a0), (2, .str []), (3, .bool false), (4, .hd 5302 p.2.2), (5, .int .i64 p.2.1)], [(5302, (p.2.2, .osl 5 1 (p.1.map (encI .u8))))]⟩) (fun m p => m_impl_stepGet_l1 m a0 p.1 p.2.1 = some o1) k (([] : List Int), 0, w1) (le_w [some 16] rfl ⟨⟨_, rfl, .refl _⟩, ⟨⟨_, rfl, .refl _⟩, ⟨⟨_, rfl, .refl _⟩, ⟨⟨_, rfl, .hd _ _ _⟩, ⟨⟨_, rfl, .refl _⟩, trivial⟩⟩⟩⟩⟩ ⟨⟨_, rfl, .refl _⟩, trivial⟩ (by decide)) h ?_
  rintro m1 ⟨x1, x2, w2⟩ h
  replace h : m_impl_stepGet_l1 m1 a0 x1 x2 = some o1 := h
  refine Good.le (σ' := ⟨55, [(0, .str a0), (2, .str []), (3, .bool false), (4, .hd 5302 w2), (5, .int .i64 x2)], [(5302, (w2, .osl 5 1 (x1.map (encI .u8))))]⟩) (Le.refl _) ?_
  obtain ⟨m1, rfl⟩ : ∃ m', m1 = m' + 1 := by cases m1 with | zero => (rw [m_impl_stepGet_l1] at h; cases h) | succ m' => exact ⟨m', rfl⟩
  rw [m_impl_stepGet_l1] at h
  refine good_seq fun K6 hK6 => ?_
  refine good_seq fun K7 hK7 => ?_
  refine good_region ?_
  refine g_op rfl (ValOk.op (v_move rfl rfl ?_)) 
  refine g_op rfl (ValOk.op (v_move rfl rfl ?_)) 
  refine g_op rfl (ValOk.op (v_lenS tabOk rfl rfl tkind9 rfl ?_)) 
  refine g_op rfl (ValOk.op (v_bin rfl rfl rfl rfl ?_)) 
  refine g_nil ?_
  refine hK7 _ ?_
  refine Good.le (σ' := ⟨55, [(0, _), (2, _), (3, _), (4, _), (5, _), (10, _)], [(5302, (_, _))]⟩) (le_w [some 5302] rfl ⟨⟨_, rfl, .refl _⟩, ⟨⟨_, rfl, .refl _⟩, ⟨⟨_, rfl, .refl _⟩, ⟨⟨_, rfl, .refl _⟩, ⟨⟨_, rfl, .refl _⟩, ⟨⟨_, rfl, .refl _⟩, trivial⟩⟩⟩⟩⟩⟩ ⟨⟨_, rfl, .refl _⟩, trivial⟩ (by decide)) ?_
  refine good_cond rfl (fun hc1 => ?_) (fun hc1 => ?_)
  · replace h := ifT h (dT hc1)
    refine good_skip ?_
    refine hK6 _ ?_
    refine Good.le (σ' := ⟨55, [(0, _), (2, _), (3, _), (4, _), (5, _)], [(5302, (_, _))]⟩) (le_w [some 5302] rfl ⟨⟨_, rfl, .refl _⟩, ⟨⟨_, rfl, .refl _⟩, ⟨⟨_, rfl, .refl _⟩, ⟨⟨_, rfl, .refl _⟩, ⟨⟨_, rfl, .refl _⟩, trivial⟩⟩⟩⟩⟩ ⟨⟨_, rfl, .refl _⟩, trivial⟩ (by decide)) ?_
    refine good_seq fun K8 hK8 => ?_
    refine good_block ?_
    refine good_seq fun K9 hK9 => ?_
    refine good_seq fun K10 hK10 => ?_
    refine good_region ?_
    refine g_op rfl (ValOk.op (v_move rfl rfl ?_)) 
    refine g_op rfl (ValOk.op (v_move rfl rfl ?_)) 
    obtain ⟨hb1, h⟩ := ifS h
    refine g_op rfl (ValOk.op (v_indexM tabOk rfl rfl tkind9 hb1 rfl ?_)) 
    refine g_op rfl (ValOk.op (v_bin rfl rfl rfl rfl ?_)) 
    refine g_nil ?_
    refine hK10 _ ?_
    refine Good.le (σ' := ⟨55, [(0, _), (2, _), (3, _), (4, _), (5, _), (16, _)], [(5302, (_, _))]⟩) (le_w [some 5302] rfl ⟨⟨_, rfl, .refl _⟩, ⟨⟨_, rfl, .refl _⟩, ⟨⟨_, rfl, .refl _⟩, ⟨⟨_, rfl, .refl _⟩, ⟨⟨_, rfl, .refl _⟩, ⟨⟨_, rfl, .refl _⟩, trivial⟩⟩⟩⟩⟩⟩ ⟨⟨_, rfl, .refl _⟩, trivial⟩ (by decide)) ?_
    refine good_cond rfl (fun hc2 => ?_) (fun hc2 => ?_)
    · replace h := ifF h (ndT hc2)
      refine good_seq fun K11 hK11 => ?_
      refine good_region ?_
      refine g_op rfl (ValOk.op (v_move rfl rfl ?_)) 
      refine g_op rfl (ValOk.op (v_move rfl rfl ?_)) 
      refine g_op rfl (ValOk.op (v_move rfl rfl ?_)) 
      obtain ⟨hb2, h⟩ := ifS h
      refine g_op rfl (ValOk.op (v_indexM tabOk rfl rfl tkind9 hb2 rfl ?_)) 
      refine g_op rfl (o_buildSlice (k := 31) (rows := [byt a0 x2].map (encI .u8)) tabOk telem30 tsize5 rfl rfl rfl rfl (by decide) (by decide) (by rw [tzero5]; rfl) rfl rfl rfl rfl rfl ?_)
      intro w4
      obtain ⟨hb3, h⟩ := ifS h
      refine g_op rfl (o_appendHM (q := 5302) (r := 31) (k := 32) (f := (encI .u8)) tabOk ⟨_, rfl⟩ rfl ⟨_, rfl⟩ rfl rfl telem30 tsize5 tbytes5 tzero5 rfl (by decide) (by decide) encI_ok rfl rfl rfl hb3 ?_)
      intro w5
      refine g_op rfl (ValOk.op (v_assign rfl rfl ?_)) 
      refine g_nil ?_
      refine hK11 _ ?_
      refine Good.le (σ' := ⟨55, [(0, _), (2, _), (3, _), (4, _), (5, _)], [(32, (_, _))]⟩) (le_w [some 32] rfl ⟨⟨_, rfl, .refl _⟩, ⟨⟨_, rfl, .refl _⟩, ⟨⟨_, rfl, .refl _⟩, ⟨⟨_, rfl, .refl _⟩, ⟨⟨_, rfl, .refl _⟩, trivial⟩⟩⟩⟩⟩ ⟨⟨_, rfl, .refl _⟩, trivial⟩ (by decide)) ?_
      refine good_exit ?_
      refine hK8 _ ?_
      refine good_region ?_
      refine g_op rfl (ValOk.op (v_move rfl rfl ?_)) 
      refine g_op rfl (ValOk.op (v_bin rfl rfl rfl rfl ?_)) 
      refine g_op rfl (ValOk.op (v_assign rfl rfl ?_)) 
      refine g_nil ?_
      exact round_mk m1 (x1 ++ [byt a0 x2], IntKind.wrap .i64 (x2 + 1), w5) (Nat.lt_succ_self _) h (le_w [some 32] rfl ⟨⟨_, rfl, .refl _⟩, ⟨⟨_, rfl, .refl _⟩, ⟨⟨_, rfl, .refl _⟩, ⟨⟨_, rfl, .hd _ _ _⟩, ⟨⟨_, rfl, .refl _⟩, trivial⟩⟩⟩⟩⟩ ⟨⟨_, rfl, .refl _⟩, trivial⟩ (by decide))
    · replace h := ifT h (ndF hc2)
      refine good_skip ?_
      refine hK9 _ ?_
      refine Good.le (σ' := ⟨55, [(0, _), (2, _), (3, _), (4, _), (5, _)], [(5302, (_, _))]⟩) (le_w [some 5302] rfl ⟨⟨_, rfl, .refl _⟩, ⟨⟨_, rfl, .refl _⟩, ⟨⟨_, rfl, .refl _⟩, ⟨⟨_, rfl, .refl _⟩, ⟨⟨_, rfl, .refl _⟩, trivial⟩⟩⟩⟩⟩ ⟨⟨_, rfl, .refl _⟩, trivial⟩ (by decide)) ?_
      refine good_seq fun K12 hK12 => ?_
      refine good_region ?_
      refine g_op rfl (ValOk.op (v_move rfl rfl ?_)) 
      refine g_op rfl (ValOk.op (v_bin rfl rfl rfl rfl ?_)) 
      refine g_op rfl (ValOk.op (v_assign rfl rfl ?_)) 
      refine g_nil ?_
      refine hK12 _ ?_
      refine Good.le (σ' := ⟨55, [(0, _), (2, _), (3, _), (4, _), (5, _)], [(5302, (_, _))]⟩) (le_w [some 5302] rfl ⟨⟨_, rfl, .refl _⟩, ⟨⟨_, rfl, .refl _⟩, ⟨⟨_, rfl, .refl _⟩, ⟨⟨_, rfl, .refl _⟩, ⟨⟨_, rfl, .refl _⟩, trivial⟩⟩⟩⟩⟩ ⟨⟨_, rfl, .refl _⟩, trivial⟩ (by decide)) ?_
      refine good_block ?_
      refine good_seq fun K13 hK13 => ?_
      obtain ⟨o2, ho2, hJ2⟩ := bnd h
      have hw2 : ∀ (s2 : Bool), o2 = Lp.go s2 → ∀ σ', Le σ' ⟨55, [(0, .str a0), (2, .str []), (3, .bool false), (4, .hd 5302 w2), (5, .int .i64 (IntKind.wrap .i64 (x2 + 1))), (25, .bool s2)], [(5302, (w2, .osl 5 1 (x1.map (encI .u8))))]⟩ → K13 σ' := by
        intro s2 e2 σ' hle2
        subst e2
        refine hK13 _ (Good.le hle2 ?_)
        replace h := hJ2
        refine good_cond rfl (fun hc3 => ?_) (fun hc3 => ?_)
        · replace h := ifT h hc3
          refine good_region ?_
          refine g_op rfl (ValOk.op (v_move rfl rfl ?_)) 
          refine g_op rfl (o_buildSlice (k := 47) (rows := [126].map (encI .u8)) tabOk telem30 tsize5 rfl rfl rfl rfl (by decide) (by decide) (by rw [tzero5]; rfl) rfl rfl rfl rfl rfl ?_)
          intro w6
          obtain ⟨hb4, h⟩ := ifS h
          refine g_op rfl (o_appendHM (q := 5302) (r := 47) (k := 48) (f := (encI .u8)) tabOk ⟨_, rfl⟩ rfl ⟨_, rfl⟩ rfl rfl telem30 tsize5 tbytes5 tzero5 rfl (by decide) (by decide) encI_ok rfl rfl rfl hb4 ?_)
          intro w7
          refine g_op rfl (ValOk.op (v_assign rfl rfl ?_)) 
          refine g_nil ?_
          refine hK8 _ ?_
          refine Good.le (σ' := ⟨55, [(0, _), (2, _), (3, _), (4, _), (5, _)], [(48, (_, _))]⟩) (le_w [some 48] rfl ⟨⟨_, rfl, .refl _⟩, ⟨⟨_, rfl, .refl _⟩, ⟨⟨_, rfl, .refl _⟩, ⟨⟨_, rfl, .refl _⟩, ⟨⟨_, rfl, .refl _⟩, trivial⟩⟩⟩⟩⟩ ⟨⟨_, rfl, .refl _⟩, trivial⟩ (by decide)) ?_
          refine good_region ?_
          refine g_op rfl (ValOk.op (v_move rfl rfl ?_)) 
          refine g_op rfl (ValOk.op (v_bin rfl rfl rfl rfl ?_)) 
          refine g_op rfl (ValOk.op (v_assign rfl rfl ?_)) 
          refine g_nil ?_
          exact round_mk m1 (x1 ++ [126], IntKind.wrap .i64 ((IntKind.wrap .i64 (x2 + 1)) + 1), w7) (Nat.lt_succ_self _) h (le_w [some 48] rfl ⟨⟨_, rfl, .refl _⟩, ⟨⟨_, rfl, .refl _⟩, ⟨⟨_, rfl, .refl _⟩, ⟨⟨_, rfl, .hd _ _ _⟩, ⟨⟨_, rfl, .refl _⟩, trivial⟩⟩⟩⟩⟩ ⟨⟨_, rfl, .refl _⟩, trivial⟩ (by decide))
        · replace h := bF h hc3
          refine good_seq fun K14 hK14 => ?_
          obtain ⟨o3, ho3, hJ3⟩ := bnd h
          have hw3 : ∀ (s3 : Bool), o3 = Lp.go s3 → ∀ σ', Le σ' ⟨55, [(0, .str a0), (2, .str []), (3, .bool false), (4, .hd 5302 w2), (5, .int .i64 (IntKind.wrap .i64 (x2 + 1))), (39, .bool s3)], [(5302, (w2, .osl 5 1 (x1.map (encI .u8))))]⟩ → K14 σ' := by
            intro s3 e3 σ' hle3
            subst e3
            refine hK14 _ (Good.le hle3 ?_)
            replace h := hJ3
            refine good_cond rfl (fun hc4 => ?_) (fun hc4 => ?_)
            · replace h := ifT h hc4
              refine good_region ?_
              refine g_op rfl (ValOk.op (v_move rfl rfl ?_)) 
              refine g_op rfl (o_buildSlice (k := 61) (rows := [47].map (encI .u8)) tabOk telem30 tsize5 rfl rfl rfl rfl (by decide) (by decide) (by rw [tzero5]; rfl) rfl rfl rfl rfl rfl ?_)
              intro w8
              obtain ⟨hb5, h⟩ := ifS h
              refine g_op rfl (o_appendHM (q := 5302) (r := 61) (k := 62) (f := (encI .u8)) tabOk ⟨_, rfl⟩ rfl ⟨_, rfl⟩ rfl rfl telem30 tsize5 tbytes5 tzero5 rfl (by decide) (by decide) encI_ok rfl rfl rfl hb5 ?_)
              intro w9
              refine g_op rfl (ValOk.op (v_assign rfl rfl ?_)) 
              refine g_nil ?_
              refine hK8 _ ?_
              refine Good.le (σ' := ⟨55, [(0, _), (2, _), (3, _), (4, _), (5, _)], [(62, (_, _))]⟩) (le_w [some 62] rfl ⟨⟨_, rfl, .refl _⟩, ⟨⟨_, rfl, .refl _⟩, ⟨⟨_, rfl, .refl _⟩, ⟨⟨_, rfl, .refl _⟩, ⟨⟨_, rfl, .refl _⟩, trivial⟩⟩⟩⟩⟩ ⟨⟨_, rfl, .refl _⟩, trivial⟩ (by decide)) ?_
              refine good_region ?_
              refine g_op rfl (ValOk.op (v_move rfl rfl ?_)) 
              refine g_op rfl (ValOk.op (v_bin rfl rfl rfl rfl ?_)) 
              refine g_op rfl (ValOk.op (v_assign rfl rfl ?_)) 
              refine g_nil ?_
              exact round_mk m1 (x1 ++ [47], IntKind.wrap .i64 ((IntKind.wrap .i64 (x2 + 1)) + 1), w9) (Nat.lt_succ_self _) h (le_w [some 62] rfl ⟨⟨_, rfl, .refl _⟩, ⟨⟨_, rfl, .refl _⟩, ⟨⟨_, rfl, .refl _⟩, ⟨⟨_, rfl, .hd _ _ _⟩, ⟨⟨_, rfl, .refl _⟩, trivial⟩⟩⟩⟩⟩ ⟨⟨_, rfl, .refl _⟩, trivial⟩ (by decide))
            · replace h := bF h hc4
              refine good_seq fun K15 hK15 => ?_
              refine good_region ?_
              refine g_op rfl (ValOk.op (v_assign rfl rfl ?_)) 
              refine g_op rfl (ValOk.op (v_assign rfl rfl ?_)) 
              refine g_nil ?_
              refine hK15 _ ?_
              refine Good.le (σ' := ⟨55, [(0, _), (2, _), (3, _), (4, _), (5, _)], [(5302, (_, _))]⟩) (le_w [some 5302] rfl ⟨⟨_, rfl, .refl _⟩, ⟨⟨_, rfl, .refl _⟩, ⟨⟨_, rfl, .refl _⟩, ⟨⟨_, rfl, .refl _⟩, ⟨⟨_, rfl, .refl _⟩, trivial⟩⟩⟩⟩⟩ ⟨⟨_, rfl, .refl _⟩, trivial⟩ (by decide)) ?_
              refine Good.le (σ' := ⟨55, [(2, .str []), (3, .bool false)], []⟩) (le_w [] rfl ⟨⟨_, rfl, .refl _⟩, ⟨⟨_, rfl, .refl _⟩, trivial⟩⟩ trivial (by decide)) ?_
              refine good_ret ?_
              replace h := unret h hJ1
              obtain rfl := Option.some.inj h
              refine blockQ_ret ?_
              refine blockQ_ret ?_
              refine thenQ_ret ?_
              refine thenQ_ret ?_
              refine blockQ_ret ?_
              refine thenQ_ret ?_
              exact endQ_ret (h' := []) [] (.tmp rfl (.tmp rfl (.nil))) trivial (by decide) ⟨rfl, rfl⟩
          replace h := ho3
          refine good_region ?_
          refine g_op rfl (ValOk.op (v_move rfl rfl ?_)) 
          refine g_op rfl (ValOk.op (v_move rfl rfl ?_)) 
          refine g_op rfl (ValOk.op (v_lenS tabOk rfl rfl tkind9 rfl ?_)) 
          refine g_op rfl (ValOk.op (v_bin rfl rfl rfl rfl ?_)) 
          refine g_op rfl (ValOk.op (v_move rfl rfl ?_)) 
          rcases bsplit ((decide ((IntKind.wrap .i64 (x2 + 1)) < (a0.length : Int)))) with hg1 | hg1
          · replace h := ifT h (dT hg1)
            refine g_yes rfl rfl hg1 (ValOk.op (v_move rfl rfl ?_)) 
            refine g_yes rfl rfl hg1 (ValOk.op (v_move rfl rfl ?_)) 
            obtain ⟨hb6, h⟩ := ifS h
            refine g_yes rfl rfl hg1 (ValOk.op (v_indexM tabOk rfl rfl tkind9 hb6 rfl ?_)) 
            refine g_yes rfl rfl hg1 (ValOk.op (v_bin rfl rfl rfl rfl ?_)) 
            refine g_op rfl (ValOk.op (v_pickT rfl hg1 rfl rfl ?_)) 
            refine g_op rfl (ValOk.op (v_assign rfl rfl ?_)) 
            refine g_nil ?_
            exact hw3 (decide ((byt a0 (IntKind.wrap .i64 (x2 + 1))) = 49)) (Option.some.inj h).symm _ (le_w [some 5302] rfl ⟨⟨_, rfl, .refl _⟩, ⟨⟨_, rfl, .refl _⟩, ⟨⟨_, rfl, .refl _⟩, ⟨⟨_, rfl, .refl _⟩, ⟨⟨_, rfl, .refl _⟩, ⟨⟨_, rfl, .refl _⟩, trivial⟩⟩⟩⟩⟩⟩ ⟨⟨_, rfl, .refl _⟩, trivial⟩ (by decide))
          · replace h := ifF h (dF hg1)
            refine g_no rfl rfl hg1 rfl ?_
            refine g_no rfl rfl hg1 rfl ?_
            refine g_no rfl rfl hg1 rfl ?_
            refine g_no rfl rfl hg1 rfl ?_
            refine g_op rfl (ValOk.op (v_pickF rfl hg1 rfl rfl ?_)) 
            refine g_op rfl (ValOk.op (v_assign rfl rfl ?_)) 
            refine g_nil ?_
            exact hw3 false (Option.some.inj h).symm _ (le_w [some 5302] rfl ⟨⟨_, rfl, .refl _⟩, ⟨⟨_, rfl, .refl _⟩, ⟨⟨_, rfl, .refl _⟩, ⟨⟨_, rfl, .refl _⟩, ⟨⟨_, rfl, .refl _⟩, ⟨⟨_, rfl, .refl _⟩, trivial⟩⟩⟩⟩⟩⟩ ⟨⟨_, rfl, .refl _⟩, trivial⟩ (by decide))
      replace h := ho2
      refine good_region ?_
      refine g_op rfl (ValOk.op (v_move rfl rfl ?_)) 
      refine g_op rfl (ValOk.op (v_move rfl rfl ?_)) 
      refine g_op rfl (ValOk.op (v_lenS tabOk rfl rfl tkind9 rfl ?_)) 
      refine g_op rfl (ValOk.op (v_bin rfl rfl rfl rfl ?_)) 
      refine g_op rfl (ValOk.op (v_move rfl rfl ?_)) 
      rcases bsplit ((decide ((IntKind.wrap .i64 (x2 + 1)) < (a0.length : Int)))) with hg2 | hg2
      · replace h := ifT h (dT hg2)
        refine g_yes rfl rfl hg2 (ValOk.op (v_move rfl rfl ?_)) 
        refine g_yes rfl rfl hg2 (ValOk.op (v_move rfl rfl ?_)) 
        obtain ⟨hb7, h⟩ := ifS h
        refine g_yes rfl rfl hg2 (ValOk.op (v_indexM tabOk rfl rfl tkind9 hb7 rfl ?_)) 
        refine g_yes rfl rfl hg2 (ValOk.op (v_bin rfl rfl rfl rfl ?_)) 
        refine g_op rfl (ValOk.op (v_pickT rfl hg2 rfl rfl ?_)) 
        refine g_op rfl (ValOk.op (v_assign rfl rfl ?_)) 
        refine g_nil ?_
        exact hw2 (decide ((byt a0 (IntKind.wrap .i64 (x2 + 1))) = 48)) (Option.some.inj h).symm _ (le_w [some 5302] rfl ⟨⟨_, rfl, .refl _⟩, ⟨⟨_, rfl, .refl _⟩, ⟨⟨_, rfl, .refl _⟩, ⟨⟨_, rfl, .refl _⟩, ⟨⟨_, rfl, .refl _⟩, ⟨⟨_, rfl, .refl _⟩, trivial⟩⟩⟩⟩⟩⟩ ⟨⟨_, rfl, .refl _⟩, trivial⟩ (by decide))
      · replace h := ifF h (dF hg2)
        refine g_no rfl rfl hg2 rfl ?_
        refine g_no rfl rfl hg2 rfl ?_
        refine g_no rfl rfl hg2 rfl ?_
        refine g_no rfl rfl hg2 rfl ?_
        refine g_op rfl (ValOk.op (v_pickF rfl hg2 rfl rfl ?_)) 
        refine g_op rfl (ValOk.op (v_assign rfl rfl ?_)) 
        refine g_nil ?_
        exact hw2 false (Option.some.inj h).symm _ (le_w [some 5302] rfl ⟨⟨_, rfl, .refl _⟩, ⟨⟨_, rfl, .refl _⟩, ⟨⟨_, rfl, .refl _⟩, ⟨⟨_, rfl, .refl _⟩, ⟨⟨_, rfl, .refl _⟩, ⟨⟨_, rfl, .refl _⟩, trivial⟩⟩⟩⟩⟩⟩ ⟨⟨_, rfl, .refl _⟩, trivial⟩ (by decide))
  · replace h := ifF h (dF hc1)
    refine good_exit ?_
    exact hw1 x1 w2 (Option.some.inj h).symm _ (le_w [some 5302] rfl ⟨⟨_, rfl, .refl _⟩, ⟨⟨_, rfl, .refl _⟩, ⟨⟨_, rfl, .hd _ _ _⟩, trivial⟩⟩⟩ ⟨⟨_, rfl, .refl _⟩, trivial⟩ (by decide))
def m_impl_PointerGet_l1 : Nat → (List Bs) → (List Bs) → Int → Option (Lp (List Bs) ((List Bs) × Bool))
  | 0, _, _, _ => none
  | k + 1, y1, x1, x2 =>
    if x2 < (y1.length : Int) then
      if (0 : Int) ≤ x2 ∧ x2 < (y1.length : Int) then
        (m_impl_stepGet k (ix y1 x2)).bind fun y2 =>
        if y2.2 = true then
          if (x1 ++ [y2.1]).length * 16 ≤ 140737488355328 then
            m_impl_PointerGet_l1 k y1 (x1 ++ [y2.1]) (IntKind.wrap .i64 (x2 + 1))
          else none
        else
          (some (([] : List Bs), false)).bind fun z =>
          some (Lp.ret z)
      else none
    else
      some (Lp.go x1)
def m_impl_PointerGet (k : Nat) (a0 : Bs) : Option ((List Bs) × Bool) :=
  if a0 = [] then
    some (([] : List Bs), true)
  else
    if (0 : Int) ≤ 0 ∧ 0 < (a0.length : Int) then
      if (byt a0 0) = 47 then
        if (0 : Int) ≤ 1 ∧ (1 : Int) ≤ (a0.length : Int) ∧ (a0.length : Int) ≤ (a0.length : Int) then
          (m_strings_Split k (sub a0 1 (a0.length : Int)) [47]).bind fun y1 =>
          (m_impl_PointerGet_l1 k y1 ([] : List Bs) 0).bind fun o1 =>
          o1.then fun s1 =>
    some (s1, true)
        else none
      else
        some (([] : List Bs), false)
    else none
theorem m_impl_PointerGet_ok (k : Nat) : ∀ (a0 : Bs) (r : ((List Bs) × Bool)), m_impl_PointerGet k a0 = some r → Does Tryd.prog 10 [.str a0] [] (fun q h' => ∃ u0 : Value, q = .tup [.hd 100 u0, .bool r.2] ∧ h' = [(100, (u0, .osl 9 1 (r.1.map encS)))]) := by
  intro a0 r h
  rw [m_impl_PointerGet] at h
  refine does_of_good tabOk Tryd.func10 rfl (by decide +kernel) (Nat.le_of_ble_eq_true rfl) fun c => ?_
  refine Good.le (σ' := ⟨36, [(0, .str a0)], []⟩) (Le.refl _) ?_
  refine good_seq fun K1 hK1 => ?_
  refine good_region ?_
  refine g_op rfl (ValOk.op (v_assign rfl rfl ?_)) 
  refine g_op rfl (ValOk.op (v_assign rfl rfl ?_)) 
  refine g_nil ?_
  refine hK1 _ ?_
  refine good_seq fun K2 hK2 => ?_
  refine good_seq fun K3 hK3 => ?_
  refine good_region ?_
  refine g_op rfl (ValOk.op (v_move rfl rfl ?_)) 
  refine g_op rfl (ValOk.op (v_bin rfl rfl rfl rfl ?_)) 
  refine g_nil ?_
  refine hK3 _ ?_
  refine Good.le (σ' := ⟨36, [(0, _), (2, _), (3, _), (10, _)], []⟩) (le_w [] rfl ⟨⟨_, rfl, .refl _⟩, ⟨⟨_, rfl, .refl _⟩, ⟨⟨_, rfl, .refl _⟩, ⟨⟨_, rfl, .refl _⟩, trivial⟩⟩⟩⟩ trivial (by decide)) ?_
  refine good_cond rfl (fun hc1 => ?_) (fun hc1 => ?_)
  · replace h := ifT h (dT hc1)
    refine good_seq fun K4 hK4 => ?_
    refine good_region ?_
    refine g_op rfl (ValOk.op (v_assign rfl rfl ?_)) 
    refine g_op rfl (ValOk.op (v_assign rfl rfl ?_)) 
    refine g_nil ?_
    refine hK4 _ ?_
    refine Good.le (σ' := ⟨36, [(0, _), (2, _), (3, _)], []⟩) (le_w [] rfl ⟨⟨_, rfl, .refl _⟩, ⟨⟨_, rfl, .refl _⟩, ⟨⟨_, rfl, .refl _⟩, trivial⟩⟩⟩ trivial (by decide)) ?_
    refine Good.le (σ' := ⟨36, [(2, .hd 100 nilV), (3, .bool true)], [(100, (nilV, .osl 9 1 (([] : List Bs).map encS)))]⟩) (le_w [none] rfl ⟨⟨_, rfl, .nilhd _⟩, ⟨⟨_, rfl, .refl _⟩, trivial⟩⟩ ⟨⟨rfl, _, _, rfl⟩, trivial⟩ (by decide)) ?_
    refine good_ret ?_
    obtain rfl := Option.some.inj h
    refine thenQ_ret ?_
    exact endQ_ret (h' := [(100, (_, _))]) [some 100] (.tmp rfl (.tmp rfl (.nil))) ⟨⟨_, rfl, .refl _⟩, trivial⟩ (by decide) ⟨nilV, rfl, rfl⟩
  · replace h := ifF h (dF hc1)
    refine good_skip ?_
    refine hK2 _ ?_
    refine Good.le (σ' := ⟨36, [(0, _), (2, _), (3, _)], []⟩) (le_w [] rfl ⟨⟨_, rfl, .refl _⟩, ⟨⟨_, rfl, .refl _⟩, ⟨⟨_, rfl, .refl _⟩, trivial⟩⟩⟩ trivial (by decide)) ?_
    refine good_seq fun K5 hK5 => ?_
    refine good_seq fun K6 hK6 => ?_
    refine good_region ?_
    refine g_op rfl (ValOk.op (v_move rfl rfl ?_)) 
    obtain ⟨hb1, h⟩ := ifS h
    refine g_op rfl (ValOk.op (v_indexM tabOk rfl rfl tkind9 hb1 rfl ?_)) 
    refine g_op rfl (ValOk.op (v_bin rfl rfl rfl rfl ?_)) 
    refine g_nil ?_
    refine hK6 _ ?_
    refine Good.le (σ' := ⟨36, [(0, _), (2, _), (3, _), (13, _)], []⟩) (le_w [] rfl ⟨⟨_, rfl, .refl _⟩, ⟨⟨_, rfl, .refl _⟩, ⟨⟨_, rfl, .refl _⟩, ⟨⟨_, rfl, .refl _⟩, trivial⟩⟩⟩⟩ trivial (by decide)) ?_
    refine good_cond rfl (fun hc2 => ?_) (fun hc2 => ?_)
    · replace h := ifF h (ndT hc2)
      refine good_seq fun K7 hK7 => ?_
      refine good_region ?_
      refine g_op rfl (ValOk.op (v_assign rfl rfl ?_)) 
      refine g_op rfl (ValOk.op (v_assign rfl rfl ?_)) 
      refine g_nil ?_
      refine hK7 _ ?_
      refine Good.le (σ' := ⟨36, [(0, _), (2, _), (3, _)], []⟩) (le_w [] rfl ⟨⟨_, rfl, .refl _⟩, ⟨⟨_, rfl, .refl _⟩, ⟨⟨_, rfl, .refl _⟩, trivial⟩⟩⟩ trivial (by decide)) ?_
      refine Good.le (σ' := ⟨36, [(2, .hd 100 nilV), (3, .bool false)], [(100, (nilV, .osl 9 1 (([] : List Bs).map encS)))]⟩) (le_w [none] rfl ⟨⟨_, rfl, .nilhd _⟩, ⟨⟨_, rfl, .refl _⟩, trivial⟩⟩ ⟨⟨rfl, _, _, rfl⟩, trivial⟩ (by decide)) ?_
      refine good_ret ?_
      obtain rfl := Option.some.inj h
      refine thenQ_ret ?_
      exact endQ_ret (h' := [(100, (_, _))]) [some 100] (.tmp rfl (.tmp rfl (.nil))) ⟨⟨_, rfl, .refl _⟩, trivial⟩ (by decide) ⟨nilV, rfl, rfl⟩
    · replace h := ifT h (ndF hc2)
      refine good_skip ?_
      refine hK5 _ ?_
      refine Good.le (σ' := ⟨36, [(0, _), (2, _), (3, _)], []⟩) (le_w [] rfl ⟨⟨_, rfl, .refl _⟩, ⟨⟨_, rfl, .refl _⟩, ⟨⟨_, rfl, .refl _⟩, trivial⟩⟩⟩ trivial (by decide)) ?_
      refine good_seq fun K8 hK8 => ?_
      refine good_region ?_
      refine g_op rfl (o_buildSlice (k := 24) (rows := ([] : List Bs).map encS) tabOk telem24 tsize9 rfl rfl rfl rfl (by decide) (by decide) (by rw [tzero9]; rfl) rfl rfl rfl rfl rfl ?_)
      intro w1
      refine g_op rfl (ValOk.op (v_assign rfl rfl ?_)) 
      refine g_nil ?_
      refine hK8 _ ?_
      refine Good.le (σ' := ⟨36, [(0, _), (2, _), (3, _), (4, _)], [(24, (_, _))]⟩) (le_w [some 24] rfl ⟨⟨_, rfl, .refl _⟩, ⟨⟨_, rfl, .refl _⟩, ⟨⟨_, rfl, .refl _⟩, ⟨⟨_, rfl, .refl _⟩, trivial⟩⟩⟩⟩ ⟨⟨_, rfl, .refl _⟩, trivial⟩ (by decide)) ?_
      refine good_seq fun K9 hK9 => ?_
      refine good_seq fun K10 hK10 => ?_
      refine good_region ?_
      refine g_op rfl (ValOk.op (v_move rfl rfl ?_)) 
      obtain ⟨hb2, h⟩ := ifS h
      refine g_op rfl (ValOk.op (v_sliceSM tabOk rfl rfl rfl rfl tkind9 hb2 rfl ?_)) 
      obtain ⟨y1, hy1, h⟩ := bnd h
      refine g_op rfl (o_callD [] [] [] (core_value rfl rfl) (m_strings_Split_ok k (sub a0 1 (a0.length : Int)) [47] _ hy1) trivial (.cons (.refl _) (.cons (.refl _) (.nil))) trivial rfl rfl rfl ?_)
      rintro _ _ ⟨w2, rfl, rfl⟩
      refine ⟨.hd 3001 w2, [(3001, _)], .hd _ _ _, rfl, rfl, rfl, rfl, .inl rfl, ?_⟩
      refine g_op rfl (ValOk.op (v_lenHM (q := 3001) tabOk ⟨_, rfl⟩ rfl rfl telem24 rfl ?_)) 
      refine g_op rfl (ValOk.op (v_move rfl rfl ?_)) 
      refine g_nil ?_
      refine hK10 _ ?_
      refine Good.le (σ' := ⟨36, [(2, _), (3, _), (4, _), (17, _), (18, _), (19, _)], [(24, (_, _)), (3001, (_, _))]⟩) (le_w [some 24, some 3001] rfl ⟨⟨_, rfl, .refl _⟩, ⟨⟨_, rfl, .refl _⟩, ⟨⟨_, rfl, .refl _⟩, ⟨⟨_, rfl, .refl _⟩, ⟨⟨_, rfl, .refl _⟩, ⟨⟨_, rfl, .refl _⟩, trivial⟩⟩⟩⟩⟩⟩ ⟨⟨_, rfl, .refl _⟩, ⟨⟨_, rfl, .refl _⟩, trivial⟩⟩ (by decide)) ?_
      obtain ⟨o1, ho1, hJ1⟩ := bnd h
      have hw1 : ∀ (s1 : (List Bs)) (w4 : Value), o1 = Lp.go s1 → ∀ σ', Le σ' ⟨36, [(2, .nil), (3, .bool false), (4, .hd 5702 w4)], [(5702, (w4, .osl 9 1 (s1.map encS)))]⟩ → K9 σ' := by
        intro s1 w4 e1 σ' hle1
        subst e1
        refine hK9 _ (Good.le hle1 ?_)
        replace h := hJ1
        refine good_seq fun K11 hK11 => ?_
        refine good_region ?_
        refine g_op rfl (ValOk.op (v_move rfl rfl ?_)) 
        refine g_op rfl (ValOk.op (v_assign rfl rfl ?_)) 
        refine g_op rfl (ValOk.op (v_assign rfl rfl ?_)) 
        refine g_nil ?_
        refine hK11 _ ?_
        refine Good.le (σ' := ⟨36, [(2, _), (3, _)], [(5702, (_, _))]⟩) (le_w [some 5702] rfl ⟨⟨_, rfl, .refl _⟩, ⟨⟨_, rfl, .refl _⟩, trivial⟩⟩ ⟨⟨_, rfl, .refl _⟩, trivial⟩ (by decide)) ?_
        refine Good.le (σ' := ⟨36, [(2, .hd 100 w4), (3, .bool true)], [(100, (w4, .osl 9 1 (s1.map encS)))]⟩) (le_w [some 5702] rfl ⟨⟨_, rfl, .hd _ _ _⟩, ⟨⟨_, rfl, .refl _⟩, trivial⟩⟩ ⟨⟨_, rfl, .refl _⟩, trivial⟩ (by decide)) ?_
        refine good_ret ?_
        obtain rfl := Option.some.inj h
        exact endQ_ret (h' := [(100, (_, _))]) [some 100] (.tmp rfl (.tmp rfl (.nil))) ⟨⟨_, rfl, .refl _⟩, trivial⟩ (by decide) ⟨w4, rfl, rfl⟩
      replace h := ho1
      refine good_block ?_
      refine good_loopf (fun p : ((List Bs) × Int × Value) => ⟨36, [(2, .nil), (3, .bool false), (4, .hd 5703 p.2.2), (17, .hd 3001 w2), (18, .int .i64 (y1.length : Int)), (19, .int .i64 p.2.1)], [(5703, (p.2.2, .osl 9 1 (p.1.map encS))), (3001, (w2, .osl 9 1 (y1.map encS)))]⟩) (fun m p => m_impl_PointerGet_l1 m y1 p.1 p.2.1 = some o1) k (([] : List Bs), 0, w1) (le_w [some 24, some 3001] rfl ⟨⟨_, rfl, .refl _⟩, ⟨⟨_, rfl, .refl _⟩, ⟨⟨_, rfl, .hd _ _ _⟩, ⟨⟨_, rfl, .refl _⟩, ⟨⟨_, rfl, .refl _⟩, ⟨⟨_, rfl, .refl _⟩, trivial⟩⟩⟩⟩⟩⟩ ⟨⟨_, rfl, .refl _⟩, ⟨⟨_, rfl, .refl _⟩, trivial⟩⟩ (by decide)) h ?_
      rintro m1 ⟨x1, x2, w3⟩ h
      replace h : m_impl_PointerGet_l1 m1 y1 x1 x2 = some o1 := h
      refine Good.le (σ' := ⟨36, [(2, .nil), (3, .bool false), (4, .hd 5703 w3), (17, .hd 3001 w2), (18, .int .i64 (y1.length : Int)), (19, .int .i64 x2)], [(5703, (w3, .osl 9 1 (x1.map encS))), (3001, (w2, .osl 9 1 (y1.map encS)))]⟩) (Le.refl _) ?_
      obtain ⟨m1, rfl⟩ : ∃ m', m1 = m' + 1 := by cases m1 with | zero => (rw [m_impl_PointerGet_l1] at h; cases h) | succ m' => exact ⟨m', rfl⟩
      rw [m_impl_PointerGet_l1] at h
      refine good_seq fun K12 hK12 => ?_
      refine good_region ?_
      refine g_op rfl (ValOk.op (v_bin rfl rfl rfl rfl ?_)) 
      refine g_nil ?_
      refine hK12 _ ?_
      refine good_seq fun K13 hK13 => ?_
      refine good_cond rfl (fun hc3 => ?_) (fun hc3 => ?_)
      · replace h := ifT h (dT hc3)
        refine good_skip ?_
        refine hK13 _ ?_
        refine Good.le (σ' := ⟨36, [(2, _), (3, _), (4, _), (17, _), (18, _), (19, _)], [(5703, (_, _)), (3001, (_, _))]⟩) (le_w [some 5703, some 3001] rfl ⟨⟨_, rfl, .refl _⟩, ⟨⟨_, rfl, .refl _⟩, ⟨⟨_, rfl, .refl _⟩, ⟨⟨_, rfl, .refl _⟩, ⟨⟨_, rfl, .refl _⟩, ⟨⟨_, rfl, .refl _⟩, trivial⟩⟩⟩⟩⟩⟩ ⟨⟨_, rfl, .refl _⟩, ⟨⟨_, rfl, .refl _⟩, trivial⟩⟩ (by decide)) ?_
        refine good_seq fun K14 hK14 => ?_
        refine good_block ?_
        refine good_seq fun K15 hK15 => ?_
        refine good_region ?_
        obtain ⟨hb3, h⟩ := ifS h
        refine g_op rfl (ValOk.op (v_idxHM (q := 3001) tabOk ⟨_, rfl⟩ rfl rfl telem24 tsize9 hb3 rfl ?_)) 
        refine g_op rfl (ValOk.op (v_loadRM tabOk rfl rfl hb3 rfl tsize9 tagg9 rfl rfl rfl rfl ?_)) 
        refine g_op rfl (ValOk.op (v_assign rfl rfl ?_)) 
        refine g_nil ?_
        refine hK15 _ ?_
        refine Good.le (σ' := ⟨36, [(2, _), (3, _), (4, _), (6, _), (17, _), (18, _), (19, _)], [(5703, (_, _)), (3001, (_, _))]⟩) (le_w [some 5703, some 3001] rfl ⟨⟨_, rfl, .refl _⟩, ⟨⟨_, rfl, .refl _⟩, ⟨⟨_, rfl, .refl _⟩, ⟨⟨_, rfl, .refl _⟩, ⟨⟨_, rfl, .refl _⟩, ⟨⟨_, rfl, .refl _⟩, ⟨⟨_, rfl, .refl _⟩, trivial⟩⟩⟩⟩⟩⟩⟩ ⟨⟨_, rfl, .refl _⟩, ⟨⟨_, rfl, .refl _⟩, trivial⟩⟩ (by decide)) ?_
        refine good_seq fun K16 hK16 => ?_
        refine good_region ?_
        refine g_op rfl (ValOk.op (v_move rfl rfl ?_)) 
        obtain ⟨y2, hy2, h⟩ := bnd h
        refine g_op rfl (o_callR [] [] (core_value rfl rfl) (m_impl_stepGet_ok m1 (ix y1 x2) _ hy2) trivial (.cons (.refl _) (.nil)) (.inl rfl) rfl ?_)
        refine g_op rfl (ValOk.op (v_move rfl rfl ?_)) 
        refine g_op rfl (ValOk.op (v_extract rfl rfl rfl ?_)) 
        refine g_op rfl (ValOk.op (v_extract rfl rfl rfl ?_)) 
        refine g_op rfl (ValOk.op (v_assign rfl rfl ?_)) 
        refine g_op rfl (ValOk.op (v_assign rfl rfl ?_)) 
        refine g_nil ?_
        refine hK16 _ ?_
        refine Good.le (σ' := ⟨36, [(2, _), (3, _), (4, _), (7, _), (8, _), (17, _), (18, _), (19, _)], [(5703, (_, _)), (3001, (_, _))]⟩) (le_w [some 5703, some 3001] rfl ⟨⟨_, rfl, .refl _⟩, ⟨⟨_, rfl, .refl _⟩, ⟨⟨_, rfl, .refl _⟩, ⟨⟨_, rfl, .refl _⟩, ⟨⟨_, rfl, .refl _⟩, ⟨⟨_, rfl, .refl _⟩, ⟨⟨_, rfl, .refl _⟩, ⟨⟨_, rfl, .refl _⟩, trivial⟩⟩⟩⟩⟩⟩⟩⟩ ⟨⟨_, rfl, .refl _⟩, ⟨⟨_, rfl, .refl _⟩, trivial⟩⟩ (by decide)) ?_
        refine good_seq fun K17 hK17 => ?_
        refine good_seq fun K18 hK18 => ?_
        refine good_region ?_
        refine g_op rfl (ValOk.op (v_move rfl rfl ?_)) 
        refine g_op rfl (ValOk.op (v_not rfl rfl ?_)) 
        refine g_nil ?_
        refine hK18 _ ?_
        refine Good.le (σ' := ⟨36, [(2, _), (3, _), (4, _), (7, _), (17, _), (18, _), (19, _), (29, _)], [(5703, (_, _)), (3001, (_, _))]⟩) (le_w [some 5703, some 3001] rfl ⟨⟨_, rfl, .refl _⟩, ⟨⟨_, rfl, .refl _⟩, ⟨⟨_, rfl, .refl _⟩, ⟨⟨_, rfl, .refl _⟩, ⟨⟨_, rfl, .refl _⟩, ⟨⟨_, rfl, .refl _⟩, ⟨⟨_, rfl, .refl _⟩, ⟨⟨_, rfl, .refl _⟩, trivial⟩⟩⟩⟩⟩⟩⟩⟩ ⟨⟨_, rfl, .refl _⟩, ⟨⟨_, rfl, .refl _⟩, trivial⟩⟩ (by decide)) ?_
        refine good_cond rfl (fun hc4 => ?_) (fun hc4 => ?_)
        · replace h := bF h (nT hc4)
          refine good_seq fun K19 hK19 => ?_
          refine good_region ?_
          refine g_op rfl (ValOk.op (v_assign rfl rfl ?_)) 
          refine g_op rfl (ValOk.op (v_assign rfl rfl ?_)) 
          refine g_nil ?_
          refine hK19 _ ?_
          refine Good.le (σ' := ⟨36, [(2, _), (3, _), (4, _), (7, _), (17, _), (18, _), (19, _)], [(5703, (_, _)), (3001, (_, _))]⟩) (le_w [some 5703, some 3001] rfl ⟨⟨_, rfl, .refl _⟩, ⟨⟨_, rfl, .refl _⟩, ⟨⟨_, rfl, .refl _⟩, ⟨⟨_, rfl, .refl _⟩, ⟨⟨_, rfl, .refl _⟩, ⟨⟨_, rfl, .refl _⟩, ⟨⟨_, rfl, .refl _⟩, trivial⟩⟩⟩⟩⟩⟩⟩ ⟨⟨_, rfl, .refl _⟩, ⟨⟨_, rfl, .refl _⟩, trivial⟩⟩ (by decide)) ?_
          refine Good.le (σ' := ⟨36, [(2, .hd 100 nilV), (3, .bool false)], [(100, (nilV, .osl 9 1 (([] : List Bs).map encS)))]⟩) (le_w [none] rfl ⟨⟨_, rfl, .nilhd _⟩, ⟨⟨_, rfl, .refl _⟩, trivial⟩⟩ ⟨⟨rfl, _, _, rfl⟩, trivial⟩ (by decide)) ?_
          refine good_ret ?_
          replace h := unret h hJ1
          obtain rfl := Option.some.inj h
          refine thenQ_ret ?_
          refine blockQ_ret ?_
          refine thenQ_ret ?_
          refine thenQ_ret ?_
          refine blockQ_ret ?_
          refine thenQ_ret ?_
          exact endQ_ret (h' := [(100, (_, _))]) [some 100] (.tmp rfl (.tmp rfl (.nil))) ⟨⟨_, rfl, .refl _⟩, trivial⟩ (by decide) ⟨nilV, rfl, rfl⟩
        · replace h := ifT h (nF hc4)
          refine good_skip ?_
          refine hK17 _ ?_
          refine Good.le (σ' := ⟨36, [(2, _), (3, _), (4, _), (7, _), (17, _), (18, _), (19, _)], [(5703, (_, _)), (3001, (_, _))]⟩) (le_w [some 5703, some 3001] rfl ⟨⟨_, rfl, .refl _⟩, ⟨⟨_, rfl, .refl _⟩, ⟨⟨_, rfl, .refl _⟩, ⟨⟨_, rfl, .refl _⟩, ⟨⟨_, rfl, .refl _⟩, ⟨⟨_, rfl, .refl _⟩, ⟨⟨_, rfl, .refl _⟩, trivial⟩⟩⟩⟩⟩⟩⟩ ⟨⟨_, rfl, .refl _⟩, ⟨⟨_, rfl, .refl _⟩, trivial⟩⟩ (by decide)) ?_
          refine good_region ?_
          refine g_op rfl (ValOk.op (v_move rfl rfl ?_)) 
          refine g_op rfl (ValOk.op (v_move rfl rfl ?_)) 
          refine g_op rfl (o_buildSlice (k := 42) (rows := [y2.1].map encS) tabOk telem24 tsize9 rfl rfl rfl rfl (by decide) (by decide) (by rw [tzero9]; rfl) rfl rfl rfl rfl rfl ?_)
          intro w5
          obtain ⟨hb4, h⟩ := ifS h
          refine g_op rfl (o_appendHM (q := 5703) (r := 42) (k := 43) (f := encS) tabOk ⟨_, rfl⟩ rfl ⟨_, rfl⟩ rfl rfl telem24 tsize9 tbytes9 tzero9 rfl (by decide) (by decide) encS_ok rfl rfl rfl hb4 ?_)
          intro w6
          refine g_op rfl (ValOk.op (v_assign rfl rfl ?_)) 
          refine g_nil ?_
          refine hK14 _ ?_
          refine Good.le (σ' := ⟨36, [(2, _), (3, _), (4, _), (17, _), (18, _), (19, _)], [(43, (_, _)), (3001, (_, _))]⟩) (le_w [some 43, some 3001] rfl ⟨⟨_, rfl, .refl _⟩, ⟨⟨_, rfl, .refl _⟩, ⟨⟨_, rfl, .refl _⟩, ⟨⟨_, rfl, .refl _⟩, ⟨⟨_, rfl, .refl _⟩, ⟨⟨_, rfl, .refl _⟩, trivial⟩⟩⟩⟩⟩⟩ ⟨⟨_, rfl, .refl _⟩, ⟨⟨_, rfl, .refl _⟩, trivial⟩⟩ (by decide)) ?_
          refine good_region ?_
          refine g_op rfl (ValOk.op (v_bin rfl rfl rfl rfl ?_)) 
          refine g_op rfl (ValOk.op (v_move rfl rfl ?_)) 
          refine g_nil ?_
          exact round_mk m1 (x1 ++ [y2.1], IntKind.wrap .i64 (x2 + 1), w6) (Nat.lt_succ_self _) h (le_w [some 43, some 3001] rfl ⟨⟨_, rfl, .refl _⟩, ⟨⟨_, rfl, .refl _⟩, ⟨⟨_, rfl, .hd _ _ _⟩, ⟨⟨_, rfl, .refl _⟩, ⟨⟨_, rfl, .refl _⟩, ⟨⟨_, rfl, .refl _⟩, trivial⟩⟩⟩⟩⟩⟩ ⟨⟨_, rfl, .refl _⟩, ⟨⟨_, rfl, .refl _⟩, trivial⟩⟩ (by decide))
      · replace h := ifF h (dF hc3)
        refine good_exit ?_
        exact hw1 x1 w3 (Option.some.inj h).symm _ (le_w [some 5703] rfl ⟨⟨_, rfl, .refl _⟩, ⟨⟨_, rfl, .refl _⟩, ⟨⟨_, rfl, .hd _ _ _⟩, trivial⟩⟩⟩ ⟨⟨_, rfl, .refl _⟩, trivial⟩ (by decide))
theorem m_impl_PointerGet_okF (k : Nat) : ∀ (a0 : Bs) (r : ((List Bs) × Bool)), m_impl_PointerGet k a0 = some r → Does Tryd.prog 10 [.str a0] [] (ret (.tup [.sl false (r.1.map encS), .bool r.2])) := by
  intro a0 r h
  refine does_frz (m_impl_PointerGet_ok k a0 r h) ?_
  rintro q h' ⟨u0, rfl, rfl⟩
  exact ⟨[100], [(_, _)], ⟨⟨_, rfl, .osl (FrzLL.map fun _ _ => encS_frz _)⟩, trivial⟩, .tup (.cons (.frz _ _ _ (.head _)) (.cons (.refl _) (.nil)))⟩
end Go.Proofs.YtopbbjoflopjbaaDoor
