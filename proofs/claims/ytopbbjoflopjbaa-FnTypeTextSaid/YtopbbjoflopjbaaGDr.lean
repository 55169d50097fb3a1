/- What functions of this program answer, as plain functions; each theorem says that the code comes to just that. -/
import Derived.Test.YtopbbjoflopjbaaDat
import Derived.Test.YtopbbjoflopjbaaB13
import Derived.Test.YtopbbjoflopjbaaDatO
import Derived.Test.YtopbbjoflopjbaaB18
import Derived.Test.YtopbbjoflopjbaaGnm
import Derived.Test.YtopbbjoflopjbaaGTy
/-! Functions of the program. -/
set_option linter.unusedVariables false
set_option maxRecDepth 100000
set_option maxHeartbeats 1000000
namespace Go.Proofs.Ytopbbjoflopjbaa
open Go.Bb
def m_spec_l1Rd_pick (a0 : GL1Rd) (a1 : Int) : Option (Int × GL1Rd) :=
  (if a1 < 1 then
      some (Lp.go true)
    else
      some (Lp.go (decide ((a0.b.length : Int) = 0)))).bind fun o1 =>
  o1.then fun s1 =>
    if s1 = true then
      some (0, (GL1Rd.mk a0.b (IntKind.wrap .i64 (a0.p + 1))))
    else
      if (IntKind.wrap .i64 ((IntKind.wrap .i64 (a0.p + 1)) - 1)) < (a0.b.length : Int) then
        if (0 : Int) ≤ (IntKind.wrap .i64 ((IntKind.wrap .i64 (a0.p + 1)) - 1)) ∧ (IntKind.wrap .i64 ((IntKind.wrap .i64 (a0.p + 1)) - 1)) < (a0.b.length : Int) then
          if a1 ≠ 0 then
            some (Int.tmod (IntKind.wrap .i64 (ix a0.b (IntKind.wrap .i64 ((IntKind.wrap .i64 (a0.p + 1)) - 1)))) a1, (GL1Rd.mk a0.b (IntKind.wrap .i64 (a0.p + 1))))
          else none
        else none
      else
        if (a0.b.length : Int) ≠ 0 then
          if (0 : Int) ≤ (Int.tmod (IntKind.wrap .i64 ((IntKind.wrap .i64 (a0.p + 1)) - 1)) (a0.b.length : Int)) ∧ (Int.tmod (IntKind.wrap .i64 ((IntKind.wrap .i64 (a0.p + 1)) - 1)) (a0.b.length : Int)) < (a0.b.length : Int) then
            if (a0.b.length : Int) ≠ 0 then
              if (0 : Int) ≤ (Int.tmod (IntKind.wrap .i64 ((IntKind.wrap .i64 ((IntKind.wrap .i64 ((IntKind.wrap .i64 (a0.p + 1)) - 1)) * 7)) + 3)) (a0.b.length : Int)) ∧ (Int.tmod (IntKind.wrap .i64 ((IntKind.wrap .i64 ((IntKind.wrap .i64 ((IntKind.wrap .i64 (a0.p + 1)) - 1)) * 7)) + 3)) (a0.b.length : Int)) < (a0.b.length : Int) then
                if (a0.b.length : Int) ≠ 0 then
                  if a1 ≠ 0 then
                    some (Int.tmod (bitsI .xor .i64 (IntKind.wrap .i64 ((IntKind.wrap .i64 ((IntKind.wrap .i64 ((IntKind.wrap .i64 ((IntKind.wrap .i64 (ix a0.b (Int.tmod (IntKind.wrap .i64 ((IntKind.wrap .i64 (a0.p + 1)) - 1)) (a0.b.length : Int)))) * 131)) + (IntKind.wrap .i64 ((IntKind.wrap .i64 (ix a0.b (Int.tmod (IntKind.wrap .i64 ((IntKind.wrap .i64 ((IntKind.wrap .i64 ((IntKind.wrap .i64 (a0.p + 1)) - 1)) * 7)) + 3)) (a0.b.length : Int)))) * 1117)))) + (IntKind.wrap .i64 ((IntKind.wrap .i64 ((IntKind.wrap .i64 (a0.p + 1)) - 1)) * 29)))) + (IntKind.wrap .i64 ((IntKind.wrap .i64 (Int.tdiv (IntKind.wrap .i64 ((IntKind.wrap .i64 (a0.p + 1)) - 1)) (a0.b.length : Int))) * 53)))) (IntKind.wrap .i64 (Int.tdiv (IntKind.wrap .i64 ((IntKind.wrap .i64 ((IntKind.wrap .i64 ((IntKind.wrap .i64 ((IntKind.wrap .i64 (ix a0.b (Int.tmod (IntKind.wrap .i64 ((IntKind.wrap .i64 (a0.p + 1)) - 1)) (a0.b.length : Int)))) * 131)) + (IntKind.wrap .i64 ((IntKind.wrap .i64 (ix a0.b (Int.tmod (IntKind.wrap .i64 ((IntKind.wrap .i64 ((IntKind.wrap .i64 ((IntKind.wrap .i64 (a0.p + 1)) - 1)) * 7)) + 3)) (a0.b.length : Int)))) * 1117)))) + (IntKind.wrap .i64 ((IntKind.wrap .i64 ((IntKind.wrap .i64 (a0.p + 1)) - 1)) * 29)))) + (IntKind.wrap .i64 ((IntKind.wrap .i64 (Int.tdiv (IntKind.wrap .i64 ((IntKind.wrap .i64 (a0.p + 1)) - 1)) (a0.b.length : Int))) * 53)))) 64))) a1, (GL1Rd.mk a0.b (IntKind.wrap .i64 (a0.p + 1))))
                  else none
                else none
              else none
            else none
          else none
        else none
theorem m_spec_l1Rd_pick_ok : ∀ (a0 : GL1Rd) (a1 : Int) (b0_0 : Nat) (r : (Int × GL1Rd)), m_spec_l1Rd_pick a0 a1 = some r → Does Try.prog 66 [.ptr 0 b0_0 0, .int .i64 a1] [(0, (.pointer (some ⟨b0_0, 0, none⟩), .optr 105 [.sl false (a0.b.map (encI .u8)), .int .i64 a0.p]))] (fun q h' => q = .int .i64 r.1 ∧ h' = [(0, (.pointer (some ⟨b0_0, 0, none⟩), .optr 105 [.sl false (r.2.b.map (encI .u8)), .int .i64 r.2.p]))]) := by
  intro a0 a1 b0_0 r h
  rw [m_spec_l1Rd_pick] at h
  refine does_of_good tabOk Try.func66 rfl (by decide +kernel) (Nat.le_of_ble_eq_true rfl) fun c => ?_
  refine Good.le (σ' := ⟨99, [(0, .ptr 0 b0_0 0), (1, .int .i64 a1)], [(0, ((.pointer (some ⟨b0_0, 0, none⟩)), .optr 105 [.sl false (a0.b.map (encI .u8)), .int .i64 a0.p]))]⟩) (Le.refl _) ?_
  refine good_seq fun K1 hK1 => ?_
  refine good_region ?_
  refine g_op rfl (ValOk.op (v_assign rfl rfl ?_)) 
  refine g_nil ?_
  refine hK1 _ ?_
  refine good_seq fun K2 hK2 => ?_
  refine good_region ?_
  refine g_op rfl (ValOk.op (v_move rfl rfl ?_)) 
  refine g_op rfl (ValOk.op (v_move rfl rfl ?_)) 
  refine g_op rfl (ValOk.op (v_nilP rfl rfl ?_)) 
  refine g_op rfl (ValOk.op (v_fieldP tabOk rfl tfoff105_1 rfl ?_)) 
  refine g_op rfl (ValOk.op (v_loadP tabOk rfl rfl tsize3 tagg3 rfl rfl rfl rfl ?_)) 
  refine g_op rfl (ValOk.op (v_bin rfl rfl rfl rfl ?_)) 
  refine g_op rfl (ValOk.op (v_nilP rfl rfl ?_)) 
  refine g_op rfl (ValOk.op (v_fieldP tabOk rfl tfoff105_1 rfl ?_)) 
  refine g_op rfl (o_storeP tabOk (cs' := [.sl false (a0.b.map (encI .u8)), .int .i64 (IntKind.wrap .i64 (a0.p + 1))]) rfl rfl tsize3 rfl rfl rfl (Nat.le_of_ble_eq_true rfl) rfl rfl rfl ?_)
  refine g_nil ?_
  refine hK2 _ ?_
  refine Good.le (σ' := ⟨99, [(0, _), (1, _), (4, _)], [(0, (_, _))]⟩) (le_w [some 0] rfl ⟨⟨_, rfl, .refl _⟩, ⟨⟨_, rfl, .refl _⟩, ⟨⟨_, rfl, .refl _⟩, trivial⟩⟩⟩ ⟨⟨_, rfl, .refl _⟩, trivial⟩ (by decide)) ?_
  refine good_seq fun K3 hK3 => ?_
  refine good_seq fun K4 hK4 => ?_
  obtain ⟨o1, ho1, hJ1⟩ := bnd h
  have hw1 : ∀ (s1 : Bool), o1 = Lp.go s1 → ∀ σ', Le σ' ⟨99, [(0, .ptr 0 b0_0 0), (1, .int .i64 a1), (4, .int .i64 0), (24, .bool s1)], [(0, ((.pointer (some ⟨b0_0, 0, none⟩)), .optr 105 [.sl false (a0.b.map (encI .u8)), .int .i64 (IntKind.wrap .i64 (a0.p + 1))]))]⟩ → K4 σ' := by
    intro s1 e1 σ' hle1
    subst e1
    refine hK4 _ (Good.le hle1 ?_)
    replace h := hJ1
    refine good_cond rfl (fun hc1 => ?_) (fun hc1 => ?_)
    · replace h := ifT h hc1
      refine good_seq fun K5 hK5 => ?_
      refine good_region ?_
      refine g_op rfl (ValOk.op (v_assign rfl rfl ?_)) 
      refine g_nil ?_
      refine hK5 _ ?_
      refine Good.le (σ' := ⟨99, [(0, _), (1, _), (4, _)], [(0, (_, _))]⟩) (le_w [some 0] rfl ⟨⟨_, rfl, .refl _⟩, ⟨⟨_, rfl, .refl _⟩, ⟨⟨_, rfl, .refl _⟩, trivial⟩⟩⟩ ⟨⟨_, rfl, .refl _⟩, trivial⟩ (by decide)) ?_
      refine Good.le (σ' := ⟨99, [(4, .int .i64 0)], [(0, ((.pointer (some ⟨b0_0, 0, none⟩)), .optr 105 [.sl false (a0.b.map (encI .u8)), .int .i64 (IntKind.wrap .i64 (a0.p + 1))]))]⟩) (le_w [some 0] rfl ⟨⟨_, rfl, .refl _⟩, trivial⟩ ⟨⟨_, rfl, .refl _⟩, trivial⟩ (by decide)) ?_
      refine good_ret ?_
      obtain rfl := Option.some.inj h
      refine thenQ_ret ?_
      exact endQ_ret (h' := [(0, (_, _))]) [some 0] (.tmp rfl (.nil)) ⟨⟨_, rfl, .refl _⟩, trivial⟩ (by decide) ⟨rfl, rfl⟩
    · replace h := bF h hc1
      refine good_skip ?_
      refine hK3 _ ?_
      refine Good.le (σ' := ⟨99, [(0, _), (1, _), (4, _)], [(0, (_, _))]⟩) (le_w [some 0] rfl ⟨⟨_, rfl, .refl _⟩, ⟨⟨_, rfl, .refl _⟩, ⟨⟨_, rfl, .refl _⟩, trivial⟩⟩⟩ ⟨⟨_, rfl, .refl _⟩, trivial⟩ (by decide)) ?_
      refine good_seq fun K6 hK6 => ?_
      refine good_region ?_
      refine g_op rfl (ValOk.op (v_move rfl rfl ?_)) 
      refine g_op rfl (ValOk.op (v_nilP rfl rfl ?_)) 
      refine g_op rfl (ValOk.op (v_fieldP tabOk rfl tfoff105_1 rfl ?_)) 
      refine g_op rfl (ValOk.op (v_loadP tabOk rfl rfl tsize3 tagg3 rfl rfl rfl rfl ?_)) 
      refine g_op rfl (ValOk.op (v_bin rfl rfl rfl rfl ?_)) 
      refine g_op rfl (ValOk.op (v_assign rfl rfl ?_)) 
      refine g_nil ?_
      refine hK6 _ ?_
      refine Good.le (σ' := ⟨99, [(0, _), (1, _), (4, _), (5, _)], [(0, (_, _))]⟩) (le_w [some 0] rfl ⟨⟨_, rfl, .refl _⟩, ⟨⟨_, rfl, .refl _⟩, ⟨⟨_, rfl, .refl _⟩, ⟨⟨_, rfl, .refl _⟩, trivial⟩⟩⟩⟩ ⟨⟨_, rfl, .refl _⟩, trivial⟩ (by decide)) ?_
      refine good_seq fun K7 hK7 => ?_
      refine good_seq fun K8 hK8 => ?_
      refine good_region ?_
      refine g_op rfl (ValOk.op (v_move rfl rfl ?_)) 
      refine g_op rfl (ValOk.op (v_move rfl rfl ?_)) 
      refine g_op rfl (ValOk.op (v_nilP rfl rfl ?_)) 
      refine g_op rfl (ValOk.op (v_fieldP tabOk rfl tfoff105_0 rfl ?_)) 
      refine g_op rfl (ValOk.op (v_loadP tabOk rfl rfl tsize35 tagg35 rfl rfl rfl rfl ?_)) 
      refine g_op rfl (ValOk.op (v_lenM (l := a0.b) (f := (encI .u8)) tabOk rfl rfl telem35 rfl ?_)) 
      refine g_op rfl (ValOk.op (v_bin rfl rfl rfl rfl ?_)) 
      refine g_nil ?_
      refine hK8 _ ?_
      refine Good.le (σ' := ⟨99, [(0, _), (1, _), (4, _), (5, _), (36, _)], [(0, (_, _))]⟩) (le_w [some 0] rfl ⟨⟨_, rfl, .refl _⟩, ⟨⟨_, rfl, .refl _⟩, ⟨⟨_, rfl, .refl _⟩, ⟨⟨_, rfl, .refl _⟩, ⟨⟨_, rfl, .refl _⟩, trivial⟩⟩⟩⟩⟩ ⟨⟨_, rfl, .refl _⟩, trivial⟩ (by decide)) ?_
      refine good_cond rfl (fun hc2 => ?_) (fun hc2 => ?_)
      · replace h := ifT h (dT hc2)
        refine good_seq fun K9 hK9 => ?_
        refine good_region ?_
        refine g_op rfl (ValOk.op (v_move rfl rfl ?_)) 
        refine g_op rfl (ValOk.op (v_nilP rfl rfl ?_)) 
        refine g_op rfl (ValOk.op (v_fieldP tabOk rfl tfoff105_0 rfl ?_)) 
        refine g_op rfl (ValOk.op (v_loadP tabOk rfl rfl tsize35 tagg35 rfl rfl rfl rfl ?_)) 
        refine g_op rfl (ValOk.op (v_move rfl rfl ?_)) 
        obtain ⟨hb1, h⟩ := ifS h
        refine g_op rfl (ValOk.op (v_idxM tabOk rfl rfl telem35 tsize5 hb1 rfl rfl rfl ?_)) 
        refine g_op rfl (ValOk.op (v_loadE tabOk rfl tsize5 tagg5 rfl rfl rfl ?_)) 
        refine g_op rfl (ValOk.op (v_convI tabOk rfl tkind5 tkind3 rfl ?_)) 
        refine g_op rfl (ValOk.op (v_move rfl rfl ?_)) 
        obtain ⟨hb2, h⟩ := ifS h
        refine g_op rfl (ValOk.op (v_rem rfl rfl hb2 rfl ?_)) 
        refine g_op rfl (ValOk.op (v_assign rfl rfl ?_)) 
        refine g_nil ?_
        refine hK9 _ ?_
        refine Good.le (σ' := ⟨99, [(0, _), (1, _), (4, _), (5, _)], [(0, (_, _))]⟩) (le_w [some 0] rfl ⟨⟨_, rfl, .refl _⟩, ⟨⟨_, rfl, .refl _⟩, ⟨⟨_, rfl, .refl _⟩, ⟨⟨_, rfl, .refl _⟩, trivial⟩⟩⟩⟩ ⟨⟨_, rfl, .refl _⟩, trivial⟩ (by decide)) ?_
        refine Good.le (σ' := ⟨99, [(4, .int .i64 (Int.tmod (IntKind.wrap .i64 (ix a0.b (IntKind.wrap .i64 ((IntKind.wrap .i64 (a0.p + 1)) - 1)))) a1))], [(0, ((.pointer (some ⟨b0_0, 0, none⟩)), .optr 105 [.sl false (a0.b.map (encI .u8)), .int .i64 (IntKind.wrap .i64 (a0.p + 1))]))]⟩) (le_w [some 0] rfl ⟨⟨_, rfl, .refl _⟩, trivial⟩ ⟨⟨_, rfl, .refl _⟩, trivial⟩ (by decide)) ?_
        refine good_ret ?_
        obtain rfl := Option.some.inj h
        refine thenQ_ret ?_
        exact endQ_ret (h' := [(0, (_, _))]) [some 0] (.tmp rfl (.nil)) ⟨⟨_, rfl, .refl _⟩, trivial⟩ (by decide) ⟨rfl, rfl⟩
      · replace h := ifF h (dF hc2)
        refine good_skip ?_
        refine hK7 _ ?_
        refine Good.le (σ' := ⟨99, [(0, _), (1, _), (4, _), (5, _)], [(0, (_, _))]⟩) (le_w [some 0] rfl ⟨⟨_, rfl, .refl _⟩, ⟨⟨_, rfl, .refl _⟩, ⟨⟨_, rfl, .refl _⟩, ⟨⟨_, rfl, .refl _⟩, trivial⟩⟩⟩⟩ ⟨⟨_, rfl, .refl _⟩, trivial⟩ (by decide)) ?_
        refine good_seq fun K10 hK10 => ?_
        refine good_draw (by kernel_rfl) (by kernel_rfl) ?_
        refine q_op rfl (v_move rfl rfl ?_) 
        refine q_op rfl (v_nilP rfl rfl ?_) 
        refine q_op rfl (v_fieldP tabOk rfl tfoff105_0 rfl ?_) 
        refine q_op rfl (v_loadP tabOk rfl rfl tsize35 tagg35 rfl rfl rfl rfl ?_) 
        refine q_op rfl (v_move rfl rfl ?_) 
        refine q_op rfl (v_move rfl rfl ?_) 
        refine q_op rfl (v_nilP rfl rfl ?_) 
        refine q_op rfl (v_fieldP tabOk rfl tfoff105_0 rfl ?_) 
        refine q_op rfl (v_loadP tabOk rfl rfl tsize35 tagg35 rfl rfl rfl rfl ?_) 
        refine q_op rfl (v_lenM (l := a0.b) (f := (encI .u8)) tabOk rfl rfl telem35 rfl ?_) 
        obtain ⟨hb3, h⟩ := ifS h
        refine q_op rfl (v_rem rfl rfl hb3 rfl ?_) 
        obtain ⟨hb4, h⟩ := ifS h
        refine q_op rfl (v_idxM tabOk rfl rfl telem35 tsize5 hb4 rfl rfl rfl ?_) 
        refine q_op rfl (v_loadE tabOk rfl tsize5 tagg5 rfl rfl rfl ?_) 
        refine q_op rfl (v_convI tabOk rfl tkind5 tkind3 rfl ?_) 
        refine q_op rfl (v_bin rfl rfl rfl rfl ?_) 
        refine q_op rfl (v_move rfl rfl ?_) 
        refine q_op rfl (v_nilP rfl rfl ?_) 
        refine q_op rfl (v_fieldP tabOk rfl tfoff105_0 rfl ?_) 
        refine q_op rfl (v_loadP tabOk rfl rfl tsize35 tagg35 rfl rfl rfl rfl ?_) 
        refine q_op rfl (v_move rfl rfl ?_) 
        refine q_op rfl (v_bin rfl rfl rfl rfl ?_) 
        refine q_op rfl (v_bin rfl rfl rfl rfl ?_) 
        refine q_op rfl (v_move rfl rfl ?_) 
        refine q_op rfl (v_nilP rfl rfl ?_) 
        refine q_op rfl (v_fieldP tabOk rfl tfoff105_0 rfl ?_) 
        refine q_op rfl (v_loadP tabOk rfl rfl tsize35 tagg35 rfl rfl rfl rfl ?_) 
        refine q_op rfl (v_lenM (l := a0.b) (f := (encI .u8)) tabOk rfl rfl telem35 rfl ?_) 
        obtain ⟨hb5, h⟩ := ifS h
        refine q_op rfl (v_rem rfl rfl hb5 rfl ?_) 
        obtain ⟨hb6, h⟩ := ifS h
        refine q_op rfl (v_idxM tabOk rfl rfl telem35 tsize5 hb6 rfl rfl rfl ?_) 
        refine q_op rfl (v_loadE tabOk rfl tsize5 tagg5 rfl rfl rfl ?_) 
        refine q_op rfl (v_convI tabOk rfl tkind5 tkind3 rfl ?_) 
        refine q_op rfl (v_bin rfl rfl rfl rfl ?_) 
        refine q_op rfl (v_bin rfl rfl rfl rfl ?_) 
        refine q_op rfl (v_move rfl rfl ?_) 
        refine q_op rfl (v_bin rfl rfl rfl rfl ?_) 
        refine q_op rfl (v_bin rfl rfl rfl rfl ?_) 
        refine q_op rfl (v_move rfl rfl ?_) 
        refine q_op rfl (v_move rfl rfl ?_) 
        refine q_op rfl (v_nilP rfl rfl ?_) 
        refine q_op rfl (v_fieldP tabOk rfl tfoff105_0 rfl ?_) 
        refine q_op rfl (v_loadP tabOk rfl rfl tsize35 tagg35 rfl rfl rfl rfl ?_) 
        refine q_op rfl (v_lenM (l := a0.b) (f := (encI .u8)) tabOk rfl rfl telem35 rfl ?_) 
        obtain ⟨hb7, h⟩ := ifS h
        refine q_op rfl (v_quo rfl rfl hb7 rfl ?_) 
        refine q_op rfl (v_bin rfl rfl rfl rfl ?_) 
        refine q_op rfl (v_bin rfl rfl rfl rfl ?_) 
        refine q_op rfl (v_assign rfl rfl ?_) 
        refine q_nil ?_
        refine hK10 _ ?_
        refine Good.le (σ' := ⟨99, [(1, _), (4, _), (6, _)], [(0, (_, _))]⟩) (le_w [some 0] rfl ⟨⟨_, rfl, .refl _⟩, ⟨⟨_, rfl, .refl _⟩, ⟨⟨_, rfl, .refl _⟩, trivial⟩⟩⟩ ⟨⟨_, rfl, .refl _⟩, trivial⟩ (by decide)) ?_
        refine good_seq fun K11 hK11 => ?_
        refine good_region ?_
        refine g_op rfl (ValOk.op (v_move rfl rfl ?_)) 
        refine g_op rfl (ValOk.op (v_move rfl rfl ?_)) 
        refine g_op rfl (ValOk.op (v_quo rfl rfl (by decide) rfl ?_)) 
        refine g_op rfl (ValOk.op (v_bin rfl rfl rfl rfl ?_)) 
        refine g_op rfl (ValOk.op (v_assign rfl rfl ?_)) 
        refine g_nil ?_
        refine hK11 _ ?_
        refine Good.le (σ' := ⟨99, [(1, _), (4, _), (6, _)], [(0, (_, _))]⟩) (le_w [some 0] rfl ⟨⟨_, rfl, .refl _⟩, ⟨⟨_, rfl, .refl _⟩, ⟨⟨_, rfl, .refl _⟩, trivial⟩⟩⟩ ⟨⟨_, rfl, .refl _⟩, trivial⟩ (by decide)) ?_
        refine good_seq fun K12 hK12 => ?_
        refine good_region ?_
        refine g_op rfl (ValOk.op (v_move rfl rfl ?_)) 
        refine g_op rfl (ValOk.op (v_move rfl rfl ?_)) 
        obtain ⟨hb8, h⟩ := ifS h
        refine g_op rfl (ValOk.op (v_rem rfl rfl hb8 rfl ?_)) 
        refine g_op rfl (ValOk.op (v_assign rfl rfl ?_)) 
        refine g_nil ?_
        refine hK12 _ ?_
        refine Good.le (σ' := ⟨99, [(4, _)], [(0, (_, _))]⟩) (le_w [some 0] rfl ⟨⟨_, rfl, .refl _⟩, trivial⟩ ⟨⟨_, rfl, .refl _⟩, trivial⟩ (by decide)) ?_
        refine Good.le (σ' := ⟨99, [(4, .int .i64 (Int.tmod (bitsI .xor .i64 (IntKind.wrap .i64 ((IntKind.wrap .i64 ((IntKind.wrap .i64 ((IntKind.wrap .i64 ((IntKind.wrap .i64 (ix a0.b (Int.tmod (IntKind.wrap .i64 ((IntKind.wrap .i64 (a0.p + 1)) - 1)) (a0.b.length : Int)))) * 131)) + (IntKind.wrap .i64 ((IntKind.wrap .i64 (ix a0.b (Int.tmod (IntKind.wrap .i64 ((IntKind.wrap .i64 ((IntKind.wrap .i64 ((IntKind.wrap .i64 (a0.p + 1)) - 1)) * 7)) + 3)) (a0.b.length : Int)))) * 1117)))) + (IntKind.wrap .i64 ((IntKind.wrap .i64 ((IntKind.wrap .i64 (a0.p + 1)) - 1)) * 29)))) + (IntKind.wrap .i64 ((IntKind.wrap .i64 (Int.tdiv (IntKind.wrap .i64 ((IntKind.wrap .i64 (a0.p + 1)) - 1)) (a0.b.length : Int))) * 53)))) (IntKind.wrap .i64 (Int.tdiv (IntKind.wrap .i64 ((IntKind.wrap .i64 ((IntKind.wrap .i64 ((IntKind.wrap .i64 ((IntKind.wrap .i64 (ix a0.b (Int.tmod (IntKind.wrap .i64 ((IntKind.wrap .i64 (a0.p + 1)) - 1)) (a0.b.length : Int)))) * 131)) + (IntKind.wrap .i64 ((IntKind.wrap .i64 (ix a0.b (Int.tmod (IntKind.wrap .i64 ((IntKind.wrap .i64 ((IntKind.wrap .i64 ((IntKind.wrap .i64 (a0.p + 1)) - 1)) * 7)) + 3)) (a0.b.length : Int)))) * 1117)))) + (IntKind.wrap .i64 ((IntKind.wrap .i64 ((IntKind.wrap .i64 (a0.p + 1)) - 1)) * 29)))) + (IntKind.wrap .i64 ((IntKind.wrap .i64 (Int.tdiv (IntKind.wrap .i64 ((IntKind.wrap .i64 (a0.p + 1)) - 1)) (a0.b.length : Int))) * 53)))) 64))) a1))], [(0, ((.pointer (some ⟨b0_0, 0, none⟩)), .optr 105 [.sl false (a0.b.map (encI .u8)), .int .i64 (IntKind.wrap .i64 (a0.p + 1))]))]⟩) (le_w [some 0] rfl ⟨⟨_, rfl, .refl _⟩, trivial⟩ ⟨⟨_, rfl, .refl _⟩, trivial⟩ (by decide)) ?_
        refine good_ret ?_
        obtain rfl := Option.some.inj h
        exact endQ_ret (h' := [(0, (_, _))]) [some 0] (.tmp rfl (.nil)) ⟨⟨_, rfl, .refl _⟩, trivial⟩ (by decide) ⟨rfl, rfl⟩
  replace h := ho1
  refine good_region ?_
  refine g_op rfl (ValOk.op (v_move rfl rfl ?_)) 
  refine g_op rfl (ValOk.op (v_bin rfl rfl rfl rfl ?_)) 
  refine g_op rfl (ValOk.op (v_move rfl rfl ?_)) 
  rcases bsplit ((decide (a1 < 1))) with hg1 | hg1
  · replace h := ifT h (dT hg1)
    refine g_no rfl rfl hg1 rfl ?_
    refine g_no rfl rfl hg1 rfl ?_
    refine g_no rfl rfl hg1 rfl ?_
    refine g_no rfl rfl hg1 rfl ?_
    refine g_no rfl rfl hg1 rfl ?_
    refine g_no rfl rfl hg1 rfl ?_
    refine g_op rfl (ValOk.op (v_pickT rfl hg1 rfl rfl ?_)) 
    refine g_nil ?_
    exact hw1 true (Option.some.inj h).symm _ (le_w [some 0] rfl ⟨⟨_, rfl, .refl _⟩, ⟨⟨_, rfl, .refl _⟩, ⟨⟨_, rfl, .refl _⟩, ⟨⟨_, rfl, .refl _⟩, trivial⟩⟩⟩⟩ ⟨⟨_, rfl, .refl _⟩, trivial⟩ (by decide))
  · replace h := ifF h (dF hg1)
    refine g_yes rfl rfl hg1 (ValOk.op (v_move rfl rfl ?_)) 
    refine g_yes rfl rfl hg1 (ValOk.op (v_nilP rfl rfl ?_)) 
    refine g_yes rfl rfl hg1 (ValOk.op (v_fieldP tabOk rfl tfoff105_0 rfl ?_)) 
    refine g_yes rfl rfl hg1 (ValOk.op (v_loadP tabOk rfl rfl tsize35 tagg35 rfl rfl rfl rfl ?_)) 
    refine g_yes rfl rfl hg1 (ValOk.op (v_lenM (l := a0.b) (f := (encI .u8)) tabOk rfl rfl telem35 rfl ?_)) 
    refine g_yes rfl rfl hg1 (ValOk.op (v_bin rfl rfl rfl rfl ?_)) 
    refine g_op rfl (ValOk.op (v_pickF rfl hg1 rfl rfl ?_)) 
    refine g_nil ?_
    exact hw1 (decide ((a0.b.length : Int) = 0)) (Option.some.inj h).symm _ (le_w [some 0] rfl ⟨⟨_, rfl, .refl _⟩, ⟨⟨_, rfl, .refl _⟩, ⟨⟨_, rfl, .refl _⟩, ⟨⟨_, rfl, .refl _⟩, trivial⟩⟩⟩⟩ ⟨⟨_, rfl, .refl _⟩, trivial⟩ (by decide))
def m_spec_l1Rd_of (a0 : GL1Rd) (a1 : (List Bs)) : Option (Bs × GL1Rd) :=
  (m_spec_l1Rd_pick a0 (a1.length : Int)).bind fun y1 =>
  if (0 : Int) ≤ y1.1 ∧ y1.1 < (a1.length : Int) then
    some ((ix a1 y1.1), y1.2)
  else none
theorem m_spec_l1Rd_of_ok : ∀ (a0 : GL1Rd) (a1 : (List Bs)) (b0_0 : Nat) (r : (Bs × GL1Rd)), m_spec_l1Rd_of a0 a1 = some r → Does Try.prog 67 [.ptr 0 b0_0 0, .sl false (a1.map encS)] [(0, (.pointer (some ⟨b0_0, 0, none⟩), .optr 105 [.sl false (a0.b.map (encI .u8)), .int .i64 a0.p]))] (fun q h' => q = .str r.1 ∧ h' = [(0, (.pointer (some ⟨b0_0, 0, none⟩), .optr 105 [.sl false (r.2.b.map (encI .u8)), .int .i64 r.2.p]))]) := by
  intro a0 a1 b0_0 r h
  rw [m_spec_l1Rd_of] at h
  refine does_of_good tabOk Try.func67 rfl (by decide +kernel) (Nat.le_of_ble_eq_true rfl) fun c => ?_
  refine Good.le (σ' := ⟨12, [(0, .ptr 0 b0_0 0), (1, .sl false (a1.map encS))], [(0, ((.pointer (some ⟨b0_0, 0, none⟩)), .optr 105 [.sl false (a0.b.map (encI .u8)), .int .i64 a0.p]))]⟩) (Le.refl _) ?_
  refine good_seq fun K1 hK1 => ?_
  refine good_region ?_
  refine g_op rfl (ValOk.op (v_assign rfl rfl ?_)) 
  refine g_nil ?_
  refine hK1 _ ?_
  refine good_seq fun K2 hK2 => ?_
  refine good_region ?_
  refine g_op rfl (ValOk.op (v_move rfl rfl ?_)) 
  refine g_op rfl (ValOk.op (v_move rfl rfl ?_)) 
  refine g_op rfl (ValOk.op (v_move rfl rfl ?_)) 
  refine g_op rfl (ValOk.op (v_lenM (l := a1) (f := encS) tabOk rfl rfl telem23 rfl ?_)) 
  obtain ⟨y1, hy1, h⟩ := bnd h
  refine g_op rfl (o_callP (q := 0) (core_value rfl rfl) (m_spec_l1Rd_pick_ok a0 (a1.length : Int) b0_0 _ hy1) (.cons (.ptr _ _ _ _) (.cons (.refl _) (.nil))) rfl rfl ?_)
  obtain ⟨hb1, h⟩ := ifS h
  refine g_op rfl (ValOk.op (v_idxM tabOk rfl rfl telem23 tsize9 hb1 rfl rfl rfl ?_)) 
  refine g_op rfl (ValOk.op (v_loadE tabOk rfl tsize9 tagg9 rfl rfl rfl ?_)) 
  refine g_op rfl (ValOk.op (v_assign rfl rfl ?_)) 
  refine g_nil ?_
  refine hK2 _ ?_
  refine Good.le (σ' := ⟨12, [(4, _)], [(0, (_, _))]⟩) (le_w [some 0] rfl ⟨⟨_, rfl, .refl _⟩, trivial⟩ ⟨⟨_, rfl, .refl _⟩, trivial⟩ (by decide)) ?_
  refine Good.le (σ' := ⟨12, [(4, .str (ix a1 y1.1))], [(0, ((.pointer (some ⟨b0_0, 0, none⟩)), .optr 105 [.sl false (y1.2.b.map (encI .u8)), .int .i64 y1.2.p]))]⟩) (le_w [some 0] rfl ⟨⟨_, rfl, .refl _⟩, trivial⟩ ⟨⟨_, rfl, .refl _⟩, trivial⟩ (by decide)) ?_
  refine good_ret ?_
  obtain rfl := Option.some.inj h
  exact endQ_ret (h' := [(0, (_, _))]) [some 0] (.tmp rfl (.nil)) ⟨⟨_, rfl, .refl _⟩, trivial⟩ (by decide) ⟨rfl, rfl⟩
def m_spec_l1Rd_one (a0 : GL1Rd) (a1 : (List Int)) : Option (Int × GL1Rd) :=
  (m_spec_l1Rd_pick a0 (a1.length : Int)).bind fun y1 =>
  if (0 : Int) ≤ y1.1 ∧ y1.1 < (a1.length : Int) then
    some ((ix a1 y1.1), y1.2)
  else none
theorem m_spec_l1Rd_one_ok : ∀ (a0 : GL1Rd) (a1 : (List Int)) (b0_0 : Nat) (r : (Int × GL1Rd)), m_spec_l1Rd_one a0 a1 = some r → Does Try.prog 75 [.ptr 0 b0_0 0, .sl false (a1.map (encI .i64))] [(0, (.pointer (some ⟨b0_0, 0, none⟩), .optr 105 [.sl false (a0.b.map (encI .u8)), .int .i64 a0.p]))] (fun q h' => q = .int .i64 r.1 ∧ h' = [(0, (.pointer (some ⟨b0_0, 0, none⟩), .optr 105 [.sl false (r.2.b.map (encI .u8)), .int .i64 r.2.p]))]) := by
  intro a0 a1 b0_0 r h
  rw [m_spec_l1Rd_one] at h
  refine does_of_good tabOk Try.func75 rfl (by decide +kernel) (Nat.le_of_ble_eq_true rfl) fun c => ?_
  refine Good.le (σ' := ⟨12, [(0, .ptr 0 b0_0 0), (1, .sl false (a1.map (encI .i64)))], [(0, ((.pointer (some ⟨b0_0, 0, none⟩)), .optr 105 [.sl false (a0.b.map (encI .u8)), .int .i64 a0.p]))]⟩) (Le.refl _) ?_
  refine good_seq fun K1 hK1 => ?_
  refine good_region ?_
  refine g_op rfl (ValOk.op (v_assign rfl rfl ?_)) 
  refine g_nil ?_
  refine hK1 _ ?_
  refine good_seq fun K2 hK2 => ?_
  refine good_region ?_
  refine g_op rfl (ValOk.op (v_move rfl rfl ?_)) 
  refine g_op rfl (ValOk.op (v_move rfl rfl ?_)) 
  refine g_op rfl (ValOk.op (v_move rfl rfl ?_)) 
  refine g_op rfl (ValOk.op (v_lenM (l := a1) (f := (encI .i64)) tabOk rfl rfl telem102 rfl ?_)) 
  obtain ⟨y1, hy1, h⟩ := bnd h
  refine g_op rfl (o_callP (q := 0) (core_value rfl rfl) (m_spec_l1Rd_pick_ok a0 (a1.length : Int) b0_0 _ hy1) (.cons (.ptr _ _ _ _) (.cons (.refl _) (.nil))) rfl rfl ?_)
  obtain ⟨hb1, h⟩ := ifS h
  refine g_op rfl (ValOk.op (v_idxM tabOk rfl rfl telem102 tsize3 hb1 rfl rfl rfl ?_)) 
  refine g_op rfl (ValOk.op (v_loadE tabOk rfl tsize3 tagg3 rfl rfl rfl ?_)) 
  refine g_op rfl (ValOk.op (v_assign rfl rfl ?_)) 
  refine g_nil ?_
  refine hK2 _ ?_
  refine Good.le (σ' := ⟨12, [(4, _)], [(0, (_, _))]⟩) (le_w [some 0] rfl ⟨⟨_, rfl, .refl _⟩, trivial⟩ ⟨⟨_, rfl, .refl _⟩, trivial⟩ (by decide)) ?_
  refine Good.le (σ' := ⟨12, [(4, .int .i64 (ix a1 y1.1))], [(0, ((.pointer (some ⟨b0_0, 0, none⟩)), .optr 105 [.sl false (y1.2.b.map (encI .u8)), .int .i64 y1.2.p]))]⟩) (le_w [some 0] rfl ⟨⟨_, rfl, .refl _⟩, trivial⟩ ⟨⟨_, rfl, .refl _⟩, trivial⟩ (by decide)) ?_
  refine good_ret ?_
  obtain rfl := Option.some.inj h
  exact endQ_ret (h' := [(0, (_, _))]) [some 0] (.tmp rfl (.nil)) ⟨⟨_, rfl, .refl _⟩, trivial⟩ (by decide) ⟨rfl, rfl⟩
def m_spec_l1Open (a0 : (List Int)) : Option GL1Rd :=
  if 2000 < (a0.length : Int) then
    if (0 : Int) ≤ 0 ∧ (0 : Int) ≤ (2000 : Int) ∧ (2000 : Int) ≤ (a0.length : Int) then
      some (GL1Rd.mk (sub a0 0 2000) 0)
    else none
  else
    some (GL1Rd.mk a0 0)
theorem m_spec_l1Open_ok : ∀ (a0 : (List Int)) (r : GL1Rd), m_spec_l1Open a0 = some r → Does Try.prog 49 [.sl false (a0.map (encI .u8))] [] (fun q h' => ∃ u0 : Nat, q = .ptr 100 u0 0 ∧ h' = [(100, ((.pointer (some ⟨u0, 0, none⟩)), .optr 105 [.sl false (r.b.map (encI .u8)), .int .i64 r.p]))]) := by
  intro a0 r h
  rw [m_spec_l1Open] at h
  refine does_of_good tabOk Try.func49 rfl (by decide +kernel) (Nat.le_of_ble_eq_true rfl) fun c => ?_
  refine Good.le (σ' := ⟨11, [(0, .sl false (a0.map (encI .u8)))], []⟩) (Le.refl _) ?_
  refine good_seq fun K1 hK1 => ?_
  refine good_region ?_
  refine g_op rfl (ValOk.op (v_assign rfl rfl ?_)) 
  refine g_nil ?_
  refine hK1 _ ?_
  refine good_seq fun K2 hK2 => ?_
  refine good_seq fun K3 hK3 => ?_
  refine good_region ?_
  refine g_op rfl (ValOk.op (v_move rfl rfl ?_)) 
  refine g_op rfl (ValOk.op (v_lenM (l := a0) (f := (encI .u8)) tabOk rfl rfl telem35 rfl ?_)) 
  refine g_op rfl (ValOk.op (v_bin rfl rfl rfl rfl ?_)) 
  refine g_nil ?_
  refine hK3 _ ?_
  refine Good.le (σ' := ⟨11, [(0, _), (2, _), (5, _)], []⟩) (le_w [] rfl ⟨⟨_, rfl, .refl _⟩, ⟨⟨_, rfl, .refl _⟩, ⟨⟨_, rfl, .refl _⟩, trivial⟩⟩⟩ trivial (by decide)) ?_
  refine good_cond rfl (fun hc1 => ?_) (fun hc1 => ?_)
  · replace h := ifT h (dT hc1)
    refine good_region ?_
    refine g_op rfl (ValOk.op (v_move rfl rfl ?_)) 
    obtain ⟨hb1, h⟩ := ifS h
    refine g_op rfl (ValOk.op (v_sliceM (l := a0) (f := (encI .u8)) tabOk rfl rfl rfl rfl telem35 tsize5 encI_len hb1 rfl ?_)) 
    refine g_op rfl (ValOk.op (v_assign rfl rfl ?_)) 
    refine g_nil ?_
    refine hK2 _ ?_
    refine Good.le (σ' := ⟨11, [(0, _), (2, _)], []⟩) (le_w [] rfl ⟨⟨_, rfl, .refl _⟩, ⟨⟨_, rfl, .refl _⟩, trivial⟩⟩ trivial (by decide)) ?_
    refine good_seq fun K4 hK4 => ?_
    refine good_region ?_
    refine g_op rfl (ValOk.op (v_move rfl rfl ?_)) 
    refine g_op rfl (ValOk.op (v_build tabOk (cs := [.sl false ((sub a0 0 2000).map (encI .u8)), .int .i64 0]) tzero105 tsok105 rfl rfl rfl ?_)) 
    refine g_op rfl (o_box (k := 20) tabOk rfl rfl rfl rfl rfl ?_)
    intro b1
    refine g_op rfl (ValOk.op (v_assign rfl rfl ?_)) 
    refine g_nil ?_
    refine hK4 _ ?_
    refine Good.le (σ' := ⟨11, [(2, _)], [(20, (_, _))]⟩) (le_w [some 20] rfl ⟨⟨_, rfl, .refl _⟩, trivial⟩ ⟨⟨_, rfl, .refl _⟩, trivial⟩ (by decide)) ?_
    refine Good.le (σ' := ⟨11, [(2, .ptr 100 b1 0)], [(100, ((.pointer (some ⟨b1, 0, none⟩)), .optr 105 [.sl false ((sub a0 0 2000).map (encI .u8)), .int .i64 0]))]⟩) (le_w [some 20] rfl ⟨⟨_, rfl, .ptr _ _ _ _⟩, trivial⟩ ⟨⟨_, rfl, .refl _⟩, trivial⟩ (by decide)) ?_
    refine good_ret ?_
    obtain rfl := Option.some.inj h
    exact endQ_ret (h' := [(100, (_, _))]) [some 100] (.tmp rfl (.nil)) ⟨⟨_, rfl, .refl _⟩, trivial⟩ (by decide) ⟨b1, rfl, rfl⟩
  · replace h := ifF h (dF hc1)
    refine good_skip ?_
    refine hK2 _ ?_
    refine Good.le (σ' := ⟨11, [(0, _), (2, _)], []⟩) (le_w [] rfl ⟨⟨_, rfl, .refl _⟩, ⟨⟨_, rfl, .refl _⟩, trivial⟩⟩ trivial (by decide)) ?_
    refine good_seq fun K5 hK5 => ?_
    refine good_region ?_
    refine g_op rfl (ValOk.op (v_move rfl rfl ?_)) 
    refine g_op rfl (ValOk.op (v_build tabOk (cs := [.sl false (a0.map (encI .u8)), .int .i64 0]) tzero105 tsok105 rfl rfl rfl ?_)) 
    refine g_op rfl (o_box (k := 20) tabOk rfl rfl rfl rfl rfl ?_)
    intro b2
    refine g_op rfl (ValOk.op (v_assign rfl rfl ?_)) 
    refine g_nil ?_
    refine hK5 _ ?_
    refine Good.le (σ' := ⟨11, [(2, _)], [(20, (_, _))]⟩) (le_w [some 20] rfl ⟨⟨_, rfl, .refl _⟩, trivial⟩ ⟨⟨_, rfl, .refl _⟩, trivial⟩ (by decide)) ?_
    refine Good.le (σ' := ⟨11, [(2, .ptr 100 b2 0)], [(100, ((.pointer (some ⟨b2, 0, none⟩)), .optr 105 [.sl false (a0.map (encI .u8)), .int .i64 0]))]⟩) (le_w [some 20] rfl ⟨⟨_, rfl, .ptr _ _ _ _⟩, trivial⟩ ⟨⟨_, rfl, .refl _⟩, trivial⟩ (by decide)) ?_
    refine good_ret ?_
    obtain rfl := Option.some.inj h
    exact endQ_ret (h' := [(100, (_, _))]) [some 100] (.tmp rfl (.nil)) ⟨⟨_, rfl, .refl _⟩, trivial⟩ (by decide) ⟨b2, rfl, rfl⟩
def m_spec_l13Type_l1 : Nat → (List Int) → Int → Bs → (List Typ) → Bool → Int → Option (Lp ((List Int) × Int × Bs × (List Typ) × Bool) (Typ × GL1Rd))
  | 0, _, _, _, _, _, _ => none
  | k + 1, x1, x2, x3, x4, x5, x6 =>
    if 0 < x6 then
      (m_spec_l1Rd_pick (GL1Rd.mk x1 x2) 4).bind fun y4 =>
      m_spec_l13Type_l1 k y4.2.b y4.2.p ([] : Bs) [(Typ.mk x3 x4 x5)] (decide (y4.1 = 0)) (IntKind.wrap .i64 (x6 - 1))
    else
      some (Lp.go (x1, x2, x3, x4, x5))
def m_spec_l13Type (k : Nat) (a0 : GL1Rd) (a1 : (List Bs)) : Option (Typ × GL1Rd) :=
  (m_spec_l1Rd_of a0 a1).bind fun y1 =>
  (m_spec_l1Rd_pick y1.2 3).bind fun y2 =>
  (m_spec_l1Rd_one y2.2 [0, 0, 0, 1, 1, 2]).bind fun y3 =>
  (m_spec_l13Type_l1 k y3.2.b y3.2.p y1.1 [] (decide (y2.1 = 0)) y3.1).bind fun o1 =>
  o1.then fun s1 =>
    some ((Typ.mk s1.2.2.1 s1.2.2.2.1 s1.2.2.2.2), (GL1Rd.mk s1.1 s1.2.1))
theorem m_spec_l13Type_ok (k : Nat) : ∀ (a0 : GL1Rd) (a1 : (List Bs)) (b0_0 : Nat) (r : (Typ × GL1Rd)), m_spec_l13Type k a0 a1 = some r → Does Try.prog 65 [.ptr 0 b0_0 0, .sl false (a1.map encS)] [(0, (.pointer (some ⟨b0_0, 0, none⟩), .optr 105 [.sl false (a0.b.map (encI .u8)), .int .i64 a0.p]))] (fun q h' => ∃ u0 : Value, q = .agg [.str r.1.name, .hd 100 u0, .bool r.1.must] ∧ h' = [(0, (.pointer (some ⟨b0_0, 0, none⟩), .optr 105 [.sl false (r.2.b.map (encI .u8)), .int .i64 r.2.p])), (100, (u0, .osl 48 3 (r.1.of_.map encOTyp)))]) := by
  intro a0 a1 b0_0 r h
  rw [m_spec_l13Type] at h
  refine does_of_good tabOk Try.func65 rfl (by decide +kernel) (Nat.le_of_ble_eq_true rfl) fun c => ?_
  refine Good.le (σ' := ⟨28, [(0, .ptr 0 b0_0 0), (1, .sl false (a1.map encS))], [(0, ((.pointer (some ⟨b0_0, 0, none⟩)), .optr 105 [.sl false (a0.b.map (encI .u8)), .int .i64 a0.p]))]⟩) (Le.refl _) ?_
  refine good_seq fun K1 hK1 => ?_
  refine good_region ?_
  refine g_op rfl (o_alloc (k := 14) tabOk tzero48 rfl rfl ?_)
  intro b1
  refine g_nil ?_
  refine hK1 _ ?_
  refine good_seq fun K2 hK2 => ?_
  refine good_region ?_
  refine g_op rfl (ValOk.op (v_move rfl rfl ?_)) 
  refine g_op rfl (ValOk.op (v_move rfl rfl ?_)) 
  obtain ⟨y1, hy1, h⟩ := bnd h
  refine g_op rfl (o_callP (q := 0) (core_value rfl rfl) (m_spec_l1Rd_of_ok a0 a1 b0_0 _ hy1) (.cons (.ptr _ _ _ _) (.cons (.refl _) (.nil))) rfl rfl ?_)
  refine g_op rfl (ValOk.op (v_move rfl rfl ?_)) 
  obtain ⟨y2, hy2, h⟩ := bnd h
  refine g_op rfl (o_callP (q := 0) (core_value rfl rfl) (m_spec_l1Rd_pick_ok y1.2 3 b0_0 _ hy2) (.cons (.ptr _ _ _ _) (.cons (.refl _) (.nil))) rfl rfl ?_)
  refine g_op rfl (ValOk.op (v_bin rfl rfl rfl rfl ?_)) 
  refine g_op rfl (ValOk.op (v_build tabOk (cs := [.str y1.1, .nil, .bool (decide (y2.1 = 0))]) tzero48 tsok48 rfl rfl rfl ?_)) 
  refine g_op rfl (o_alloc (k := 15) tabOk tzero48 rfl rfl ?_)
  intro b2
  refine g_op rfl (o_storeP tabOk (cs' := [.str y1.1, .nil, .bool (decide (y2.1 = 0))]) rfl rfl tsize48 rfl rfl rfl (Nat.le_of_ble_eq_true rfl) rfl rfl rfl ?_)
  refine g_nil ?_
  refine hK2 _ ?_
  refine Good.le (σ' := ⟨28, [(0, _), (4, _), (5, _)], [(0, (_, _)), (14, (_, _)), (15, (_, _))]⟩) (le_w [some 0, some 14, some 15] rfl ⟨⟨_, rfl, .refl _⟩, ⟨⟨_, rfl, .refl _⟩, ⟨⟨_, rfl, .refl _⟩, trivial⟩⟩⟩ ⟨⟨_, rfl, .refl _⟩, ⟨⟨_, rfl, .refl _⟩, ⟨⟨_, rfl, .refl _⟩, trivial⟩⟩⟩ (by decide)) ?_
  refine good_seq fun K3 hK3 => ?_
  refine good_seq fun K4 hK4 => ?_
  refine good_region ?_
  refine g_op rfl (ValOk.op (v_move rfl rfl ?_)) 
  refine g_op rfl (o_buildSlice (k := 25) (rows := [0, 0, 0, 1, 1, 2].map (encI .i64)) tabOk telem102 tsize3 rfl rfl rfl rfl (by decide) (by decide) (by rw [tzero3]; rfl) rfl rfl rfl rfl rfl ?_)
  intro w1
  refine g_le (σ1 := ⟨28, [(0, .ptr 0 b0_0 0), (4, .ptr 14 b1 0), (5, .ptr 15 b2 0), (14, .ptr 0 b0_0 0), (15, .sl false ([0, 0, 0, 1, 1, 2].map (encI .i64)))], [(0, ((.pointer (some ⟨b0_0, 0, none⟩)), .optr 105 [.sl false (y2.2.b.map (encI .u8)), .int .i64 y2.2.p])), (14, ((.pointer (some ⟨b1, 0, none⟩)), .optr 48 [.str ([] : Bs), .nil, .bool false])), (15, ((.pointer (some ⟨b2, 0, none⟩)), .optr 48 [.str y1.1, .nil, .bool (decide (y2.1 = 0))]))]⟩) (le_of [25] [(_, _)] [some 0, some 14, some 15] rfl ⟨⟨_, rfl, .osl (FrzLL.map fun _ _ => encI_frz _)⟩, trivial⟩ ⟨⟨_, rfl, .refl _⟩, ⟨⟨_, rfl, .refl _⟩, ⟨⟨_, rfl, .refl _⟩, ⟨⟨_, rfl, .refl _⟩, ⟨⟨_, rfl, .frz _ _ _ (.head _)⟩, trivial⟩⟩⟩⟩⟩ ⟨⟨_, rfl, .refl _⟩, ⟨⟨_, rfl, .refl _⟩, ⟨⟨_, rfl, .refl _⟩, trivial⟩⟩⟩ (by decide) (by decide)) ?_
  obtain ⟨y3, hy3, h⟩ := bnd h
  refine g_op rfl (o_callP (q := 0) (core_value rfl rfl) (m_spec_l1Rd_one_ok y2.2 [0, 0, 0, 1, 1, 2] b0_0 _ hy3) (.cons (.ptr _ _ _ _) (.cons (.refl _) (.nil))) rfl rfl ?_)
  refine g_op rfl (ValOk.op (v_assign rfl rfl ?_)) 
  refine g_nil ?_
  refine hK4 _ ?_
  refine Good.le (σ' := ⟨28, [(0, _), (4, _), (5, _), (6, _)], [(0, (_, _)), (14, (_, _)), (15, (_, _))]⟩) (le_w [some 0, some 14, some 15] rfl ⟨⟨_, rfl, .refl _⟩, ⟨⟨_, rfl, .refl _⟩, ⟨⟨_, rfl, .refl _⟩, ⟨⟨_, rfl, .refl _⟩, trivial⟩⟩⟩⟩ ⟨⟨_, rfl, .refl _⟩, ⟨⟨_, rfl, .refl _⟩, ⟨⟨_, rfl, .refl _⟩, trivial⟩⟩⟩ (by decide)) ?_
  obtain ⟨o1, ho1, hJ1⟩ := bnd h
  have hw1 : ∀ (s1 : ((List Int) × Int × Bs × (List Typ) × Bool)) (w3 : Value), o1 = Lp.go s1 → ∀ σ', Le σ' ⟨28, [(4, .ptr 14 b1 0), (5, .ptr 15 b2 0)], [(0, ((.pointer (some ⟨b0_0, 0, none⟩)), .optr 105 [.sl false (s1.1.map (encI .u8)), .int .i64 s1.2.1])), (14, ((.pointer (some ⟨b1, 0, none⟩)), .optr 48 [.str ([] : Bs), .nil, .bool false])), (15, ((.pointer (some ⟨b2, 0, none⟩)), .optr 48 [.str s1.2.2.1, .hd 5504 w3, .bool s1.2.2.2.2])), (5504, (w3, .osl 48 3 (s1.2.2.2.1.map encOTyp)))]⟩ → K3 σ' := by
    intro s1 w3 e1 σ' hle1
    subst e1
    refine hK3 _ (Good.le hle1 ?_)
    replace h := hJ1
    refine good_seq fun K5 hK5 => ?_
    refine good_region ?_
    refine g_op rfl (ValOk.op (v_loadP tabOk rfl rfl tsize48 tagg48 rfl rfl rfl rfl ?_)) 
    refine g_op rfl (o_storeP tabOk (cs' := [.str s1.2.2.1, .hd 5504 w3, .bool s1.2.2.2.2]) rfl rfl tsize48 rfl rfl rfl (Nat.le_of_ble_eq_true rfl) rfl rfl rfl ?_)
    refine g_nil ?_
    refine hK5 _ ?_
    refine Good.le (σ' := ⟨28, [(4, _)], [(14, (_, _)), (5504, (_, _)), (0, (_, _))]⟩) (le_w [some 14, some 5504, some 0] rfl ⟨⟨_, rfl, .refl _⟩, trivial⟩ ⟨⟨_, rfl, .refl _⟩, ⟨⟨_, rfl, .refl _⟩, ⟨⟨_, rfl, .refl _⟩, trivial⟩⟩⟩ (by decide)) ?_
    refine Good.le (σ' := ⟨28, [(4, .ptr 14 b1 0)], [(100, (w3, .osl 48 3 (s1.2.2.2.1.map encOTyp))), (14, ((.pointer (some ⟨b1, 0, none⟩)), .optr 48 [.str s1.2.2.1, .hd 100 w3, .bool s1.2.2.2.2])), (0, ((.pointer (some ⟨b0_0, 0, none⟩)), .optr 105 [.sl false (s1.1.map (encI .u8)), .int .i64 s1.2.1]))]⟩) (le_w [some 5504, some 14, some 0] rfl ⟨⟨_, rfl, .refl _⟩, trivial⟩ ⟨⟨_, rfl, .refl _⟩, ⟨⟨_, rfl, .optr (.cons (.refl _) (.cons (.hd _ _ _) (.cons (.refl _) (.nil))))⟩, ⟨⟨_, rfl, .refl _⟩, trivial⟩⟩⟩ (by decide)) ?_
    refine good_ret ?_
    obtain rfl := Option.some.inj h
    exact endQ_ret (h' := [(0, (_, _)), (100, (_, _))]) [some 0, some 100] (.cell rfl rfl tsize48 tagg48 rfl rfl rfl (.nil)) ⟨⟨_, rfl, .refl _⟩, ⟨⟨_, rfl, .refl _⟩, trivial⟩⟩ (by decide) ⟨w3, rfl, rfl⟩
  replace h := ho1
  refine good_block ?_
  refine good_loopf (fun p : ((List Int) × Int × Bs × (List Typ) × Bool × Int × Value) => ⟨28, [(0, .ptr 0 b0_0 0), (4, .ptr 14 b1 0), (5, .ptr 15 b2 0), (6, .int .i64 p.2.2.2.2.2.1)], [(0, ((.pointer (some ⟨b0_0, 0, none⟩)), .optr 105 [.sl false (p.1.map (encI .u8)), .int .i64 p.2.1])), (14, ((.pointer (some ⟨b1, 0, none⟩)), .optr 48 [.str ([] : Bs), .nil, .bool false])), (15, ((.pointer (some ⟨b2, 0, none⟩)), .optr 48 [.str p.2.2.1, .hd 5605 p.2.2.2.2.2.2, .bool p.2.2.2.2.1])), (5605, (p.2.2.2.2.2.2, .osl 48 3 (p.2.2.2.1.map encOTyp)))]⟩) (fun m p => m_spec_l13Type_l1 m p.1 p.2.1 p.2.2.1 p.2.2.2.1 p.2.2.2.2.1 p.2.2.2.2.2.1 = some o1) k (y3.2.b, y3.2.p, y1.1, [], (decide (y2.1 = 0)), y3.1, nilV) (le_w [some 0, some 14, some 15, none] rfl ⟨⟨_, rfl, .refl _⟩, ⟨⟨_, rfl, .refl _⟩, ⟨⟨_, rfl, .refl _⟩, ⟨⟨_, rfl, .refl _⟩, trivial⟩⟩⟩⟩ ⟨⟨_, rfl, .refl _⟩, ⟨⟨_, rfl, .refl _⟩, ⟨⟨_, rfl, .optr (.cons (.refl _) (.cons (.nilhd _) (.cons (.refl _) (.nil))))⟩, ⟨⟨rfl, _, _, rfl⟩, trivial⟩⟩⟩⟩ (by decide)) h ?_
  rintro m1 ⟨x1, x2, x3, x4, x5, x6, w2⟩ h
  replace h : m_spec_l13Type_l1 m1 x1 x2 x3 x4 x5 x6 = some o1 := h
  refine Good.le (σ' := ⟨28, [(0, .ptr 0 b0_0 0), (4, .ptr 14 b1 0), (5, .ptr 15 b2 0), (6, .int .i64 x6)], [(0, ((.pointer (some ⟨b0_0, 0, none⟩)), .optr 105 [.sl false (x1.map (encI .u8)), .int .i64 x2])), (14, ((.pointer (some ⟨b1, 0, none⟩)), .optr 48 [.str ([] : Bs), .nil, .bool false])), (15, ((.pointer (some ⟨b2, 0, none⟩)), .optr 48 [.str x3, .hd 5605 w2, .bool x5])), (5605, (w2, .osl 48 3 (x4.map encOTyp)))]⟩) (Le.refl _) ?_
  obtain ⟨m1, rfl⟩ : ∃ m', m1 = m' + 1 := by cases m1 with | zero => (rw [m_spec_l13Type_l1] at h; cases h) | succ m' => exact ⟨m', rfl⟩
  rw [m_spec_l13Type_l1] at h
  refine good_seq fun K6 hK6 => ?_
  refine good_seq fun K7 hK7 => ?_
  refine good_region ?_
  refine g_op rfl (ValOk.op (v_move rfl rfl ?_)) 
  refine g_op rfl (ValOk.op (v_bin rfl rfl rfl rfl ?_)) 
  refine g_nil ?_
  refine hK7 _ ?_
  refine Good.le (σ' := ⟨28, [(0, _), (4, _), (5, _), (6, _), (18, _)], [(0, (_, _)), (14, (_, _)), (15, (_, _)), (5605, (_, _))]⟩) (le_w [some 0, some 14, some 15, some 5605] rfl ⟨⟨_, rfl, .refl _⟩, ⟨⟨_, rfl, .refl _⟩, ⟨⟨_, rfl, .refl _⟩, ⟨⟨_, rfl, .refl _⟩, ⟨⟨_, rfl, .refl _⟩, trivial⟩⟩⟩⟩⟩ ⟨⟨_, rfl, .refl _⟩, ⟨⟨_, rfl, .refl _⟩, ⟨⟨_, rfl, .refl _⟩, ⟨⟨_, rfl, .refl _⟩, trivial⟩⟩⟩⟩ (by decide)) ?_
  refine good_cond rfl (fun hc1 => ?_) (fun hc1 => ?_)
  · replace h := ifT h (dT hc1)
    refine good_skip ?_
    refine hK6 _ ?_
    refine Good.le (σ' := ⟨28, [(0, _), (4, _), (5, _), (6, _)], [(0, (_, _)), (14, (_, _)), (15, (_, _)), (5605, (_, _))]⟩) (le_w [some 0, some 14, some 15, some 5605] rfl ⟨⟨_, rfl, .refl _⟩, ⟨⟨_, rfl, .refl _⟩, ⟨⟨_, rfl, .refl _⟩, ⟨⟨_, rfl, .refl _⟩, trivial⟩⟩⟩⟩ ⟨⟨_, rfl, .refl _⟩, ⟨⟨_, rfl, .refl _⟩, ⟨⟨_, rfl, .refl _⟩, ⟨⟨_, rfl, .refl _⟩, trivial⟩⟩⟩⟩ (by decide)) ?_
    refine good_seq fun K8 hK8 => ?_
    refine good_block ?_
    obtain ⟨y4, hy4, h⟩ := bnd h
    refine good_anyM (by kernel_rfl) [⟨[], [5], [15], [], [], []⟩, ⟨[0], [21], [5605], [5605], [32], [32]⟩, ⟨[], [0], [], [], [], []⟩, ⟨[2], [23], [0], [0], [9003], []⟩, ⟨[2, 3], [24], [], [], [], []⟩, ⟨[0, 1, 2, 3, 4], [22, 25], [], [], [], [32]⟩, ⟨[0, 1, 2, 3, 4, 5], [5, 26], [15], [15], [9004], []⟩] [some 21, some 22, some 23, some 24, some 25, some 26, none] 28 [(0, .ptr 0 b0_0 0), (4, .ptr 14 b1 0), (5, .ptr 15 b2 0), (6, .int .i64 x6)] [(0, ((.pointer (some ⟨b0_0, 0, none⟩)), .optr 105 [.sl false (x1.map (encI .u8)), .int .i64 x2])), (14, ((.pointer (some ⟨b1, 0, none⟩)), .optr 48 [.str ([] : Bs), .nil, .bool false])), (15, ((.pointer (some ⟨b2, 0, none⟩)), .optr 48 [.str x3, .hd 5605 w2, .bool x5])), (5605, (w2, .osl 48 3 (x4.map encOTyp)))] (fun ν1 => [.agg [.str x3, .hd 5605 w2, .bool x5], .hd 32 (ν1 32), .ptr 0 b0_0 0, .int .i64 y4.1, .bool (decide (y4.1 = 0)), .agg [.str ([] : Bs), .hd 32 (ν1 32), .bool (decide (y4.1 = 0))], .und]) (fun ν1 => [(32, ((ν1 32), .osl 48 3 ([(Typ.mk x3 x4 x5)].map encOTyp))), (9003, ((.pointer (some ⟨b0_0, 0, none⟩)), .optr 105 [.sl false (y4.2.b.map (encI .u8)), .int .i64 y4.2.p])), (9004, ((.pointer (some ⟨b2, 0, none⟩)), .optr 48 [.str ([] : Bs), .hd 32 (ν1 32), .bool (decide (y4.1 = 0))]))]) [(32, [32]), (9003, []), (9004, [32]), (0, []), (14, []), (15, []), (5605, [])] [32, 9003, 9004] [some 9003, some 14, some 9004, some 32] (fun ν1 => [(0, .ptr 0 b0_0 0), (4, .ptr 14 b1 0), (5, .ptr 15 b2 0), (6, .int .i64 x6)]) (fun ν1 => [(0, ((.pointer (some ⟨b0_0, 0, none⟩)), .optr 105 [.sl false (y4.2.b.map (encI .u8)), .int .i64 y4.2.p])), (14, ((.pointer (some ⟨b1, 0, none⟩)), .optr 48 [.str ([] : Bs), .nil, .bool false])), (15, ((.pointer (some ⟨b2, 0, none⟩)), .optr 48 [.str ([] : Bs), .hd 32 (ν1 32), .bool (decide (y4.1 = 0))])), (32, ((ν1 32), .osl 48 3 ([(Typ.mk x3 x4 x5)].map encOTyp)))]) (le_w [some 0, some 14, some 15, some 5605] rfl ⟨⟨_, rfl, .refl _⟩, ⟨⟨_, rfl, .refl _⟩, ⟨⟨_, rfl, .refl _⟩, ⟨⟨_, rfl, .refl _⟩, trivial⟩⟩⟩⟩ ⟨⟨_, rfl, .refl _⟩, ⟨⟨_, rfl, .refl _⟩, ⟨⟨_, rfl, .refl _⟩, ⟨⟨_, rfl, .refl _⟩, trivial⟩⟩⟩⟩ (by decide)) (by kernel_rfl) ⟨?_, ⟨?_, ⟨?_, ⟨?_, ⟨?_, ⟨?_, ⟨?_, trivial⟩⟩⟩⟩⟩⟩⟩ ⟨fun _ _ _ => rfl, ⟨fun _ _ h => (congrArg (fun zz0 => (some (.hd 32 zz0) : Option AV)) (h 32 (by decide))), ⟨fun _ _ _ => rfl, ⟨fun _ _ _ => rfl, ⟨fun _ _ _ => rfl, ⟨fun _ _ h => (congrArg (fun zz0 => (some (.agg [.str ([] : Bs), .hd 32 zz0, .bool (decide (y4.1 = 0))]) : Option AV)) (h 32 (by decide))), ⟨fun _ _ _ => rfl, trivial⟩⟩⟩⟩⟩⟩⟩ ⟨fun _ _ h => (congrArg (fun zz0 => (some (zz0, .osl 48 3 ([(Typ.mk x3 x4 x5)].map encOTyp)) : Option (Value × AV))) (h 32 (by decide))), ⟨fun _ _ _ => rfl, ⟨fun _ _ h => (congrArg (fun zz0 => (some ((.pointer (some ⟨b2, 0, none⟩)), .optr 48 [.str ([] : Bs), .hd 32 zz0, .bool (decide (y4.1 = 0))]) : Option (Value × AV))) (h 32 (by decide))), ⟨fun _ _ _ => rfl, ⟨fun _ _ _ => rfl, ⟨fun _ _ _ => rfl, ⟨fun _ _ _ => rfl, trivial⟩⟩⟩⟩⟩⟩⟩ (fun _ => rfl) (fun _ => rfl) (by kernel_rfl) (fun _ => ⟨⟨_, rfl, .refl _⟩, ⟨⟨_, rfl, .refl _⟩, ⟨⟨_, rfl, .refl _⟩, ⟨⟨_, rfl, .refl _⟩, trivial⟩⟩⟩⟩) (fun _ => ⟨⟨_, rfl, .refl _⟩, ⟨⟨_, rfl, .refl _⟩, ⟨⟨_, rfl, .refl _⟩, ⟨⟨_, rfl, .refl _⟩, trivial⟩⟩⟩⟩) (by kernel_rfl) (by decide) ?_
    · refine local_mk (fun ν1 => [(5, .ptr 15 b2 0)]) (fun ν1 => [(15, ((.pointer (some ⟨b2, 0, none⟩)), .optr 48 [.str x3, .hd 5605 w2, .bool x5]))]) (fun _ => rfl) (fun _ => ⟨⟨_, rfl, .refl _, .refl _⟩, trivial⟩) (fun _ => rfl) (fun _ => ⟨rfl, trivial⟩) ?_
      intro ν1 S H hS hfr
      refine st_op rfl (ValOk.op (v_loadP tabOk rfl rfl tsize48 tagg48 rfl rfl rfl rfl ?_)) 
      exact lp_v hS rfl rfl (fun _ => rfl)
    · refine local_mk (fun ν1 => [(21, .agg [.str x3, .hd 5605 w2, .bool x5])]) (fun ν1 => [(5605, (w2, .osl 48 3 (x4.map encOTyp)))]) (fun _ => rfl) (fun _ => ⟨⟨_, rfl, .refl _, .refl _⟩, trivial⟩) (fun _ => rfl) (fun _ => ⟨rfl, trivial⟩) ?_
      intro ν1 S H hS hfr
      refine st_op rfl (OpOk.le (o_buildSlice (k := 32) (rows := [[.str x3, .hd 5605 w2, .bool x5]]) tabOk telem46 tsize48 rfl rfl rfl rfl (by decide) (by decide) (by rw [tzero48]; rfl) rfl rfl rfl (hfr _ (by decide)) rfl ?_))
      intro w
      refine ⟨_, (le_absorb1 (k := 32) (k2 := 5605) (rows' := [(Typ.mk x3 x4 x5)].map encOTyp) 0 1 _ rfl (by decide) rfl rfl (cons_eq (encOTyp_eq _) rfl)), ?_⟩
      exact lp_m (k := 32) hS rfl rfl (.inl rfl) (fun _ => rfl) rfl
    · refine local_mk (fun ν1 => [(0, .ptr 0 b0_0 0)]) (fun ν1 => []) (fun _ => rfl) (fun _ => ⟨⟨_, rfl, .refl _, .refl _⟩, trivial⟩) (fun _ => rfl) (fun _ => trivial) ?_
      intro ν1 S H hS hfr
      refine st_op rfl (ValOk.op (v_move rfl rfl ?_)) 
      exact lp_v hS rfl rfl (fun _ => rfl)
    · refine local_mk (fun ν1 => [(23, .ptr 0 b0_0 0)]) (fun ν1 => [(0, ((.pointer (some ⟨b0_0, 0, none⟩)), .optr 105 [.sl false (x1.map (encI .u8)), .int .i64 x2]))]) (fun _ => rfl) (fun _ => ⟨⟨_, rfl, .refl _, .refl _⟩, trivial⟩) (fun _ => rfl) (fun _ => ⟨rfl, trivial⟩) ?_
      intro ν1 S H hS hfr
      refine st_op rfl (o_callP (q := 0) (core_value rfl rfl) (m_spec_l1Rd_pick_ok (GL1Rd.mk x1 x2) 4 b0_0 _ hy4) (.cons (.ptr _ _ _ _) (.cons (.refl _) (.nil))) rfl rfl ?_)
      exact lp_m (k := 9003) hS rfl rfl (.inr (by decide)) (fun _ => rfl) rfl
    · refine local_mk (fun ν1 => [(24, .int .i64 y4.1)]) (fun ν1 => []) (fun _ => rfl) (fun _ => ⟨⟨_, rfl, .refl _, .refl _⟩, trivial⟩) (fun _ => rfl) (fun _ => trivial) ?_
      intro ν1 S H hS hfr
      refine st_op rfl (ValOk.op (v_bin rfl rfl rfl rfl ?_)) 
      exact lp_v hS rfl rfl (fun _ => rfl)
    · refine local_mk (fun ν1 => [(22, .hd 32 (ν1 32)), (25, .bool (decide (y4.1 = 0)))]) (fun ν1 => []) (fun _ => rfl) (fun _ => ⟨⟨_, rfl, .refl _, .refl _⟩, ⟨⟨_, rfl, .refl _, .refl _⟩, trivial⟩⟩) (fun _ => rfl) (fun _ => trivial) ?_
      intro ν1 S H hS hfr
      refine st_op rfl (ValOk.op (v_build tabOk (cs := [.str ([] : Bs), .hd 32 (ν1 32), .bool (decide (y4.1 = 0))]) tzero48 tsok48 rfl rfl rfl ?_)) 
      exact lp_v hS rfl rfl (fun _ => rfl)
    · refine local_mk (fun ν1 => [(5, .ptr 15 b2 0), (26, .agg [.str ([] : Bs), .hd 32 (ν1 32), .bool (decide (y4.1 = 0))])]) (fun ν1 => [(15, ((.pointer (some ⟨b2, 0, none⟩)), .optr 48 [.str x3, .hd 5605 w2, .bool x5]))]) (fun _ => rfl) (fun _ => ⟨⟨_, rfl, .refl _, .refl _⟩, ⟨⟨_, rfl, .refl _, .refl _⟩, trivial⟩⟩) (fun _ => rfl) (fun _ => ⟨rfl, trivial⟩) ?_
      intro ν1 S H hS hfr
      refine st_op rfl (o_storeP tabOk (cs' := [.str ([] : Bs), .hd 32 (ν1 32), .bool (decide (y4.1 = 0))]) rfl rfl tsize48 rfl rfl rfl (Nat.le_of_ble_eq_true rfl) rfl rfl rfl ?_)
      exact lp_m (k := 9004) hS rfl rfl (.inr (by decide)) (fun _ => rfl) rfl
    intro ν1
    refine hK8 _ ?_
    refine good_region ?_
    refine g_op rfl (ValOk.op (v_move rfl rfl ?_)) 
    refine g_op rfl (ValOk.op (v_bin rfl rfl rfl rfl ?_)) 
    refine g_op rfl (ValOk.op (v_assign rfl rfl ?_)) 
    refine g_nil ?_
    exact round_mk m1 (y4.2.b, y4.2.p, ([] : Bs), [(Typ.mk x3 x4 x5)], (decide (y4.1 = 0)), IntKind.wrap .i64 (x6 - 1), (ν1 32)) (Nat.lt_succ_self _) h (le_w [some 0, some 14, some 15, some 32] rfl ⟨⟨_, rfl, .refl _⟩, ⟨⟨_, rfl, .refl _⟩, ⟨⟨_, rfl, .refl _⟩, ⟨⟨_, rfl, .refl _⟩, trivial⟩⟩⟩⟩ ⟨⟨_, rfl, .refl _⟩, ⟨⟨_, rfl, .refl _⟩, ⟨⟨_, rfl, .optr (.cons (.refl _) (.cons (.hd _ _ _) (.cons (.refl _) (.nil))))⟩, ⟨⟨_, rfl, .refl _⟩, trivial⟩⟩⟩⟩ (by decide))
  · replace h := ifF h (dF hc1)
    refine good_exit ?_
    exact hw1 (x1, x2, x3, x4, x5) w2 (Option.some.inj h).symm _ (le_w [some 0, some 14, some 15, some 5605] rfl ⟨⟨_, rfl, .refl _⟩, ⟨⟨_, rfl, .refl _⟩, trivial⟩⟩ ⟨⟨_, rfl, .refl _⟩, ⟨⟨_, rfl, .refl _⟩, ⟨⟨_, rfl, .optr (.cons (.refl _) (.cons (.hd _ _ _) (.cons (.refl _) (.nil))))⟩, ⟨⟨_, rfl, .refl _⟩, trivial⟩⟩⟩⟩ (by decide))
def m_spec_DrawTypePut (k : Nat) (a0 : (List Int)) : Option Typ :=
  (m_spec_l1Open a0).bind fun y1 =>
  (m_spec_l13Type k y1 [[73, 110, 116], [83, 116, 114, 105, 110, 103], [75, 105, 110, 100], [88, 95, 49]]).bind fun y2 =>
  (m_spec_l1Rd_pick y2.2 12).bind fun y3 =>
  if y3.1 = 0 then
    (m_spec_l1Rd_of y3.2 [[], [49], [97, 32, 98], [73, 110, 116]]).bind fun y4 =>
    some (Typ.mk y4.1 y2.1.of_ y2.1.must)
  else
    if y3.1 = 1 then
      some (Typ.mk ([] : Bs) [(Typ.mk ([] : Bs) [(Typ.mk ([] : Bs) [y2.1] false)] false)] false)
    else
      if y3.1 = 2 then
        if (y2.1.of_ ++ [(Typ.mk [73, 110, 116] [] false)]).length * 48 ≤ 140737488355328 then
          some (Typ.mk y2.1.name (y2.1.of_ ++ [(Typ.mk [73, 110, 116] [] false)]) y2.1.must)
        else none
      else
        some y2.1
theorem m_spec_DrawTypePut_ok (k : Nat) : ∀ (a0 : (List Int)) (r : Typ), m_spec_DrawTypePut k a0 = some r → Does Try.prog 36 [.sl false (a0.map (encI .u8))] [] (fun q h' => ∃ u0 : Value, q = .agg [.str r.name, .hd 100 u0, .bool r.must] ∧ h' = [(100, (u0, .osl 48 3 (r.of_.map encOTyp)))]) := by
  intro a0 r h
  rw [m_spec_DrawTypePut] at h
  refine does_of_good tabOk Try.func36 rfl (by decide +kernel) (Nat.le_of_ble_eq_true rfl) fun c => ?_
  refine Good.le (σ' := ⟨36, [(0, .sl false (a0.map (encI .u8)))], []⟩) (Le.refl _) ?_
  refine good_seq fun K1 hK1 => ?_
  refine good_region ?_
  refine g_op rfl (o_alloc (k := 12) tabOk tzero48 rfl rfl ?_)
  intro b1
  refine g_nil ?_
  refine hK1 _ ?_
  refine good_seq fun K2 hK2 => ?_
  refine good_region ?_
  refine g_op rfl (ValOk.op (v_move rfl rfl ?_)) 
  obtain ⟨y1, hy1, h⟩ := bnd h
  refine g_op rfl (o_callD [] [] [] (core_value rfl rfl) (m_spec_l1Open_ok a0 _ hy1) trivial (.cons (.refl _) (.nil)) trivial rfl rfl rfl ?_)
  rintro _ _ ⟨b2, rfl, rfl⟩
  refine ⟨.ptr 3001 b2 0, [(3001, _)], .ptr _ _ _ _, rfl, rfl, rfl, rfl, .inl rfl, ?_⟩
  refine g_op rfl (ValOk.op (v_assign rfl rfl ?_)) 
  refine g_nil ?_
  refine hK2 _ ?_
  refine Good.le (σ' := ⟨36, [(2, _), (3, _)], [(12, (_, _)), (3001, (_, _))]⟩) (le_w [some 12, some 3001] rfl ⟨⟨_, rfl, .refl _⟩, ⟨⟨_, rfl, .refl _⟩, trivial⟩⟩ ⟨⟨_, rfl, .refl _⟩, ⟨⟨_, rfl, .refl _⟩, trivial⟩⟩ (by decide)) ?_
  refine good_seq fun K3 hK3 => ?_
  refine good_region ?_
  refine g_op rfl (ValOk.op (v_move rfl rfl ?_)) 
  refine g_op rfl (o_buildSlice (k := 18) (rows := [[73, 110, 116], [83, 116, 114, 105, 110, 103], [75, 105, 110, 100], [88, 95, 49]].map encS) tabOk telem23 tsize9 rfl rfl rfl rfl (by decide) (by decide) (by rw [tzero9]; rfl) rfl rfl rfl rfl rfl ?_)
  intro w1
  refine g_le (σ1 := ⟨36, [(2, .ptr 12 b1 0), (3, .ptr 3001 b2 0), (7, .ptr 3001 b2 0), (8, .sl false ([[73, 110, 116], [83, 116, 114, 105, 110, 103], [75, 105, 110, 100], [88, 95, 49]].map encS))], [(12, ((.pointer (some ⟨b1, 0, none⟩)), .optr 48 [.str ([] : Bs), .nil, .bool false])), (3001, ((.pointer (some ⟨b2, 0, none⟩)), .optr 105 [.sl false (y1.b.map (encI .u8)), .int .i64 y1.p]))]⟩) (le_of [18] [(_, _)] [some 12, some 3001] rfl ⟨⟨_, rfl, .osl (FrzLL.map fun _ _ => encS_frz _)⟩, trivial⟩ ⟨⟨_, rfl, .refl _⟩, ⟨⟨_, rfl, .refl _⟩, ⟨⟨_, rfl, .refl _⟩, ⟨⟨_, rfl, .frz _ _ _ (.head _)⟩, trivial⟩⟩⟩⟩ ⟨⟨_, rfl, .refl _⟩, ⟨⟨_, rfl, .refl _⟩, trivial⟩⟩ (by decide) (by decide)) ?_
  obtain ⟨y2, hy2, h⟩ := bnd h
  refine g_op rfl (o_callD [] [] [3001] (core_value rfl rfl) (m_spec_l13Type_ok k y1 [[73, 110, 116], [83, 116, 114, 105, 110, 103], [75, 105, 110, 100], [88, 95, 49]] b2 _ hy2) trivial (.cons (.ptr _ _ _ _) (.cons (.refl _) (.nil))) ⟨rfl, trivial⟩ rfl rfl rfl ?_)
  rintro _ _ ⟨w2, rfl, rfl⟩
  refine ⟨.agg [.str y2.1.name, .hd 3002 w2, .bool y2.1.must], [(3001, _), (3002, _)], .agg (.cons (.refl _) (.cons (.hd _ _ _) (.cons (.refl _) (.nil)))), rfl, rfl, rfl, rfl, .inl rfl, ?_⟩
  refine g_op rfl (o_alloc (k := 14) tabOk tzero48 rfl rfl ?_)
  intro b3
  refine g_op rfl (o_storeP tabOk (cs' := [.str y2.1.name, .hd 3002 w2, .bool y2.1.must]) rfl rfl tsize48 rfl rfl rfl (Nat.le_of_ble_eq_true rfl) rfl rfl rfl ?_)
  refine g_nil ?_
  refine hK3 _ ?_
  refine Good.le (σ' := ⟨36, [(2, _), (3, _), (4, _)], [(12, (_, _)), (3001, (_, _)), (14, (_, _)), (3002, (_, _))]⟩) (le_w [some 12, some 3001, some 14, some 3002] rfl ⟨⟨_, rfl, .refl _⟩, ⟨⟨_, rfl, .refl _⟩, ⟨⟨_, rfl, .refl _⟩, trivial⟩⟩⟩ ⟨⟨_, rfl, .refl _⟩, ⟨⟨_, rfl, .refl _⟩, ⟨⟨_, rfl, .refl _⟩, ⟨⟨_, rfl, .refl _⟩, trivial⟩⟩⟩⟩ (by decide)) ?_
  refine good_seq fun K4 hK4 => ?_
  refine good_seq fun K5 hK5 => ?_
  refine good_region ?_
  refine g_op rfl (ValOk.op (v_move rfl rfl ?_)) 
  obtain ⟨y3, hy3, h⟩ := bnd h
  refine g_op rfl (o_callP (q := 3001) (core_value rfl rfl) (m_spec_l1Rd_pick_ok y2.2 12 b2 _ hy3) (.cons (.ptr _ _ _ _) (.cons (.refl _) (.nil))) rfl rfl ?_)
  refine g_nil ?_
  refine hK5 _ ?_
  refine Good.le (σ' := ⟨36, [(2, _), (3, _), (4, _), (11, _)], [(12, (_, _)), (3001, (_, _)), (14, (_, _)), (3002, (_, _))]⟩) (le_w [some 12, some 3001, some 14, some 3002] rfl ⟨⟨_, rfl, .refl _⟩, ⟨⟨_, rfl, .refl _⟩, ⟨⟨_, rfl, .refl _⟩, ⟨⟨_, rfl, .refl _⟩, trivial⟩⟩⟩⟩ ⟨⟨_, rfl, .refl _⟩, ⟨⟨_, rfl, .refl _⟩, ⟨⟨_, rfl, .refl _⟩, ⟨⟨_, rfl, .refl _⟩, trivial⟩⟩⟩⟩ (by decide)) ?_
  refine good_block ?_
  refine good_seq fun K6 hK6 => ?_
  refine good_region ?_
  refine g_op rfl (ValOk.op (v_bin rfl rfl rfl rfl ?_)) 
  refine g_op rfl (ValOk.op (v_assign rfl rfl ?_)) 
  refine g_nil ?_
  refine hK6 _ ?_
  refine Good.le (σ' := ⟨36, [(2, _), (3, _), (4, _), (11, _), (12, _)], [(12, (_, _)), (3001, (_, _)), (14, (_, _)), (3002, (_, _))]⟩) (le_w [some 12, some 3001, some 14, some 3002] rfl ⟨⟨_, rfl, .refl _⟩, ⟨⟨_, rfl, .refl _⟩, ⟨⟨_, rfl, .refl _⟩, ⟨⟨_, rfl, .refl _⟩, ⟨⟨_, rfl, .refl _⟩, trivial⟩⟩⟩⟩⟩ ⟨⟨_, rfl, .refl _⟩, ⟨⟨_, rfl, .refl _⟩, ⟨⟨_, rfl, .refl _⟩, ⟨⟨_, rfl, .refl _⟩, trivial⟩⟩⟩⟩ (by decide)) ?_
  refine good_cond rfl (fun hc1 => ?_) (fun hc1 => ?_)
  · replace h := ifT h (dT hc1)
    refine good_region ?_
    refine g_op rfl (ValOk.op (v_move rfl rfl ?_)) 
    refine g_op rfl (o_buildSlice (k := 25) (rows := [[], [49], [97, 32, 98], [73, 110, 116]].map encS) tabOk telem23 tsize9 rfl rfl rfl rfl (by decide) (by decide) (by rw [tzero9]; rfl) rfl rfl rfl rfl rfl ?_)
    intro w3
    refine g_le (σ1 := ⟨36, [(2, .ptr 12 b1 0), (4, .ptr 14 b3 0), (14, .ptr 3001 b2 0), (15, .sl false ([[], [49], [97, 32, 98], [73, 110, 116]].map encS))], [(12, ((.pointer (some ⟨b1, 0, none⟩)), .optr 48 [.str ([] : Bs), .nil, .bool false])), (14, ((.pointer (some ⟨b3, 0, none⟩)), .optr 48 [.str y2.1.name, .hd 3002 w2, .bool y2.1.must])), (3002, (w2, .osl 48 3 (y2.1.of_.map encOTyp))), (3001, ((.pointer (some ⟨b2, 0, none⟩)), .optr 105 [.sl false (y3.2.b.map (encI .u8)), .int .i64 y3.2.p]))]⟩) (le_of [25] [(_, _)] [some 12, some 14, some 3002, some 3001] rfl ⟨⟨_, rfl, .osl (FrzLL.map fun _ _ => encS_frz _)⟩, trivial⟩ ⟨⟨_, rfl, .refl _⟩, ⟨⟨_, rfl, .refl _⟩, ⟨⟨_, rfl, .refl _⟩, ⟨⟨_, rfl, .frz _ _ _ (.head _)⟩, trivial⟩⟩⟩⟩ ⟨⟨_, rfl, .refl _⟩, ⟨⟨_, rfl, .refl _⟩, ⟨⟨_, rfl, .refl _⟩, ⟨⟨_, rfl, .refl _⟩, trivial⟩⟩⟩⟩ (by decide) (by decide)) ?_
    obtain ⟨y4, hy4, h⟩ := bnd h
    refine g_op rfl (o_callP (q := 3001) (core_value rfl rfl) (m_spec_l1Rd_of_ok y3.2 [[], [49], [97, 32, 98], [73, 110, 116]] b2 _ hy4) (.cons (.ptr _ _ _ _) (.cons (.refl _) (.nil))) rfl rfl ?_)
    refine g_op rfl (ValOk.op (v_fieldP tabOk rfl tfoff48_0 rfl ?_)) 
    refine g_op rfl (o_storeP tabOk (cs' := [.str y4.1, .hd 3002 w2, .bool y2.1.must]) rfl rfl tsize9 rfl rfl rfl (Nat.le_of_ble_eq_true rfl) rfl rfl rfl ?_)
    refine g_nil ?_
    refine hK4 _ ?_
    refine Good.le (σ' := ⟨36, [(2, _), (4, _)], [(12, (_, _)), (14, (_, _)), (3002, (_, _))]⟩) (le_w [some 12, some 14, some 3002] rfl ⟨⟨_, rfl, .refl _⟩, ⟨⟨_, rfl, .refl _⟩, trivial⟩⟩ ⟨⟨_, rfl, .refl _⟩, ⟨⟨_, rfl, .refl _⟩, ⟨⟨_, rfl, .refl _⟩, trivial⟩⟩⟩ (by decide)) ?_
    refine good_seq fun K7 hK7 => ?_
    refine good_region ?_
    refine g_op rfl (ValOk.op (v_loadP tabOk rfl rfl tsize48 tagg48 rfl rfl rfl rfl ?_)) 
    refine g_op rfl (o_storeP tabOk (cs' := [.str y4.1, .hd 3002 w2, .bool y2.1.must]) rfl rfl tsize48 rfl rfl rfl (Nat.le_of_ble_eq_true rfl) rfl rfl rfl ?_)
    refine g_nil ?_
    refine hK7 _ ?_
    refine Good.le (σ' := ⟨36, [(2, _)], [(12, (_, _)), (3002, (_, _))]⟩) (le_w [some 12, some 3002] rfl ⟨⟨_, rfl, .refl _⟩, trivial⟩ ⟨⟨_, rfl, .refl _⟩, ⟨⟨_, rfl, .refl _⟩, trivial⟩⟩ (by decide)) ?_
    refine Good.le (σ' := ⟨36, [(2, .ptr 12 b1 0)], [(100, (w2, .osl 48 3 (y2.1.of_.map encOTyp))), (12, ((.pointer (some ⟨b1, 0, none⟩)), .optr 48 [.str y4.1, .hd 100 w2, .bool y2.1.must]))]⟩) (le_w [some 3002, some 12] rfl ⟨⟨_, rfl, .refl _⟩, trivial⟩ ⟨⟨_, rfl, .refl _⟩, ⟨⟨_, rfl, .optr (.cons (.refl _) (.cons (.hd _ _ _) (.cons (.refl _) (.nil))))⟩, trivial⟩⟩ (by decide)) ?_
    refine good_ret ?_
    obtain rfl := Option.some.inj h
    exact endQ_ret (h' := [(100, (_, _))]) [some 100] (.cell rfl rfl tsize48 tagg48 rfl rfl rfl (.nil)) ⟨⟨_, rfl, .refl _⟩, trivial⟩ (by decide) ⟨w2, rfl, rfl⟩
  · replace h := ifF h (dF hc1)
    refine good_seq fun K8 hK8 => ?_
    refine good_region ?_
    refine g_op rfl (ValOk.op (v_bin rfl rfl rfl rfl ?_)) 
    refine g_op rfl (ValOk.op (v_assign rfl rfl ?_)) 
    refine g_nil ?_
    refine hK8 _ ?_
    refine Good.le (σ' := ⟨36, [(2, _), (4, _), (11, _), (18, _)], [(12, (_, _)), (14, (_, _)), (3002, (_, _))]⟩) (le_w [some 12, some 14, some 3002] rfl ⟨⟨_, rfl, .refl _⟩, ⟨⟨_, rfl, .refl _⟩, ⟨⟨_, rfl, .refl _⟩, ⟨⟨_, rfl, .refl _⟩, trivial⟩⟩⟩⟩ ⟨⟨_, rfl, .refl _⟩, ⟨⟨_, rfl, .refl _⟩, ⟨⟨_, rfl, .refl _⟩, trivial⟩⟩⟩ (by decide)) ?_
    refine good_cond rfl (fun hc2 => ?_) (fun hc2 => ?_)
    · replace h := ifT h (dT hc2)
      refine good_region ?_
      refine g_op rfl (ValOk.op (v_loadP tabOk rfl rfl tsize48 tagg48 rfl rfl rfl rfl ?_)) 
      refine g_op rfl (OpOk.le (o_buildSlice (k := 31) (rows := [[.str y2.1.name, .hd 3002 w2, .bool y2.1.must]]) tabOk telem46 tsize48 rfl rfl rfl rfl (by decide) (by decide) (by rw [tzero48]; rfl) rfl rfl rfl rfl rfl ?_))
      intro w4
      refine ⟨_, (le_absorb1 (k := 31) (k2 := 3002) (rows' := [y2.1].map encOTyp) 0 1 _ rfl (by decide) rfl rfl (cons_eq (encOTyp_eq _) rfl)), ?_⟩
      refine g_op rfl (ValOk.op (v_build tabOk (cs := [.str ([] : Bs), .hd 31 w4, .bool false]) tzero48 tsok48 rfl rfl rfl ?_)) 
      refine g_op rfl (OpOk.le (o_buildSlice (k := 33) (rows := [[.str ([] : Bs), .hd 31 w4, .bool false]]) tabOk telem46 tsize48 rfl rfl rfl rfl (by decide) (by decide) (by rw [tzero48]; rfl) rfl rfl rfl rfl rfl ?_))
      intro w5
      refine ⟨_, (le_absorb1 (k := 33) (k2 := 31) (rows' := [(Typ.mk ([] : Bs) [y2.1] false)].map encOTyp) 0 1 _ rfl (by decide) rfl rfl (cons_eq (encOTyp_eq _) rfl)), ?_⟩
      refine g_op rfl (ValOk.op (v_build tabOk (cs := [.str ([] : Bs), .hd 33 w5, .bool false]) tzero48 tsok48 rfl rfl rfl ?_)) 
      refine g_op rfl (OpOk.le (o_buildSlice (k := 35) (rows := [[.str ([] : Bs), .hd 33 w5, .bool false]]) tabOk telem46 tsize48 rfl rfl rfl rfl (by decide) (by decide) (by rw [tzero48]; rfl) rfl rfl rfl rfl rfl ?_))
      intro w6
      refine ⟨_, (le_absorb1 (k := 35) (k2 := 33) (rows' := [(Typ.mk ([] : Bs) [(Typ.mk ([] : Bs) [y2.1] false)] false)].map encOTyp) 0 1 _ rfl (by decide) rfl rfl (cons_eq (encOTyp_eq _) rfl)), ?_⟩
      refine g_op rfl (ValOk.op (v_build tabOk (cs := [.str ([] : Bs), .hd 35 w6, .bool false]) tzero48 tsok48 rfl rfl rfl ?_)) 
      refine g_op rfl (o_storeP tabOk (cs' := [.str ([] : Bs), .hd 35 w6, .bool false]) rfl rfl tsize48 rfl rfl rfl (Nat.le_of_ble_eq_true rfl) rfl rfl rfl ?_)
      refine g_nil ?_
      refine hK4 _ ?_
      refine Good.le (σ' := ⟨36, [(2, _), (4, _)], [(12, (_, _)), (14, (_, _)), (35, (_, _))]⟩) (le_w [some 12, some 14, some 35] rfl ⟨⟨_, rfl, .refl _⟩, ⟨⟨_, rfl, .refl _⟩, trivial⟩⟩ ⟨⟨_, rfl, .refl _⟩, ⟨⟨_, rfl, .refl _⟩, ⟨⟨_, rfl, .refl _⟩, trivial⟩⟩⟩ (by decide)) ?_
      refine good_seq fun K9 hK9 => ?_
      refine good_region ?_
      refine g_op rfl (ValOk.op (v_loadP tabOk rfl rfl tsize48 tagg48 rfl rfl rfl rfl ?_)) 
      refine g_op rfl (o_storeP tabOk (cs' := [.str ([] : Bs), .hd 35 w6, .bool false]) rfl rfl tsize48 rfl rfl rfl (Nat.le_of_ble_eq_true rfl) rfl rfl rfl ?_)
      refine g_nil ?_
      refine hK9 _ ?_
      refine Good.le (σ' := ⟨36, [(2, _)], [(12, (_, _)), (35, (_, _))]⟩) (le_w [some 12, some 35] rfl ⟨⟨_, rfl, .refl _⟩, trivial⟩ ⟨⟨_, rfl, .refl _⟩, ⟨⟨_, rfl, .refl _⟩, trivial⟩⟩ (by decide)) ?_
      refine Good.le (σ' := ⟨36, [(2, .ptr 12 b1 0)], [(100, (w6, .osl 48 3 ([(Typ.mk ([] : Bs) [(Typ.mk ([] : Bs) [y2.1] false)] false)].map encOTyp))), (12, ((.pointer (some ⟨b1, 0, none⟩)), .optr 48 [.str ([] : Bs), .hd 100 w6, .bool false]))]⟩) (le_w [some 35, some 12] rfl ⟨⟨_, rfl, .refl _⟩, trivial⟩ ⟨⟨_, rfl, .refl _⟩, ⟨⟨_, rfl, .optr (.cons (.refl _) (.cons (.hd _ _ _) (.cons (.refl _) (.nil))))⟩, trivial⟩⟩ (by decide)) ?_
      refine good_ret ?_
      obtain rfl := Option.some.inj h
      exact endQ_ret (h' := [(100, (_, _))]) [some 100] (.cell rfl rfl tsize48 tagg48 rfl rfl rfl (.nil)) ⟨⟨_, rfl, .refl _⟩, trivial⟩ (by decide) ⟨w6, rfl, rfl⟩
    · replace h := ifF h (dF hc2)
      refine good_seq fun K10 hK10 => ?_
      refine good_region ?_
      refine g_op rfl (ValOk.op (v_bin rfl rfl rfl rfl ?_)) 
      refine g_op rfl (ValOk.op (v_assign rfl rfl ?_)) 
      refine g_nil ?_
      refine hK10 _ ?_
      refine Good.le (σ' := ⟨36, [(2, _), (4, _), (27, _)], [(12, (_, _)), (14, (_, _)), (3002, (_, _))]⟩) (le_w [some 12, some 14, some 3002] rfl ⟨⟨_, rfl, .refl _⟩, ⟨⟨_, rfl, .refl _⟩, ⟨⟨_, rfl, .refl _⟩, trivial⟩⟩⟩ ⟨⟨_, rfl, .refl _⟩, ⟨⟨_, rfl, .refl _⟩, ⟨⟨_, rfl, .refl _⟩, trivial⟩⟩⟩ (by decide)) ?_
      refine good_cond rfl (fun hc3 => ?_) (fun hc3 => ?_)
      · replace h := ifT h (dT hc3)
        refine good_region ?_
        refine g_op rfl (ValOk.op (v_fieldP tabOk rfl tfoff48_1 rfl ?_)) 
        refine g_op rfl (ValOk.op (v_loadP tabOk rfl rfl tsize46 tagg46 rfl rfl rfl rfl ?_)) 
        refine g_op rfl (ValOk.op (v_build tabOk (cs := [.str [73, 110, 116], .nil, .bool false]) tzero48 tsok48 rfl rfl rfl ?_)) 
        refine g_op rfl (OpOk.le (o_buildSlice (k := 42) (rows := [[.str [73, 110, 116], .nil, .bool false]]) tabOk telem46 tsize48 rfl rfl rfl rfl (by decide) (by decide) (by rw [tzero48]; rfl) rfl rfl rfl rfl rfl ?_))
        intro w7
        refine ⟨_, (le_nils1 (k := 42) (rows' := [(Typ.mk [73, 110, 116] [] false)].map encOTyp) (.cons (.cons (.refl _) (.cons (.nil _ _) (.cons (.refl _) (.nil)))) (.nil)) (cons_eq (encOTyp_eq _) rfl)), ?_⟩
        obtain ⟨hb1, h⟩ := ifS h
        refine g_op rfl (o_appendHM (q := 3002) (r := 42) (k := 43) (f := encOTyp) tabOk ⟨_, rfl⟩ rfl ⟨_, rfl⟩ rfl rfl telem46 tsize48 tbytes48 tzero48 rfl (by decide) (by decide) encOTyp_ok rfl rfl rfl hb1 ?_)
        intro w8
        refine g_op rfl (ValOk.op (v_fieldP tabOk rfl tfoff48_1 rfl ?_)) 
        refine g_op rfl (o_storeP tabOk (cs' := [.str y2.1.name, .hd 43 w8, .bool y2.1.must]) rfl rfl tsize46 rfl rfl rfl (Nat.le_of_ble_eq_true rfl) rfl rfl rfl ?_)
        refine g_nil ?_
        refine hK4 _ ?_
        refine Good.le (σ' := ⟨36, [(2, _), (4, _)], [(12, (_, _)), (14, (_, _)), (43, (_, _))]⟩) (le_w [some 12, some 14, some 43] rfl ⟨⟨_, rfl, .refl _⟩, ⟨⟨_, rfl, .refl _⟩, trivial⟩⟩ ⟨⟨_, rfl, .refl _⟩, ⟨⟨_, rfl, .refl _⟩, ⟨⟨_, rfl, .refl _⟩, trivial⟩⟩⟩ (by decide)) ?_
        refine good_seq fun K11 hK11 => ?_
        refine good_region ?_
        refine g_op rfl (ValOk.op (v_loadP tabOk rfl rfl tsize48 tagg48 rfl rfl rfl rfl ?_)) 
        refine g_op rfl (o_storeP tabOk (cs' := [.str y2.1.name, .hd 43 w8, .bool y2.1.must]) rfl rfl tsize48 rfl rfl rfl (Nat.le_of_ble_eq_true rfl) rfl rfl rfl ?_)
        refine g_nil ?_
        refine hK11 _ ?_
        refine Good.le (σ' := ⟨36, [(2, _)], [(12, (_, _)), (43, (_, _))]⟩) (le_w [some 12, some 43] rfl ⟨⟨_, rfl, .refl _⟩, trivial⟩ ⟨⟨_, rfl, .refl _⟩, ⟨⟨_, rfl, .refl _⟩, trivial⟩⟩ (by decide)) ?_
        refine Good.le (σ' := ⟨36, [(2, .ptr 12 b1 0)], [(100, (w8, .osl 48 3 ((y2.1.of_ ++ [(Typ.mk [73, 110, 116] [] false)]).map encOTyp))), (12, ((.pointer (some ⟨b1, 0, none⟩)), .optr 48 [.str y2.1.name, .hd 100 w8, .bool y2.1.must]))]⟩) (le_w [some 43, some 12] rfl ⟨⟨_, rfl, .refl _⟩, trivial⟩ ⟨⟨_, rfl, .refl _⟩, ⟨⟨_, rfl, .optr (.cons (.refl _) (.cons (.hd _ _ _) (.cons (.refl _) (.nil))))⟩, trivial⟩⟩ (by decide)) ?_
        refine good_ret ?_
        obtain rfl := Option.some.inj h
        exact endQ_ret (h' := [(100, (_, _))]) [some 100] (.cell rfl rfl tsize48 tagg48 rfl rfl rfl (.nil)) ⟨⟨_, rfl, .refl _⟩, trivial⟩ (by decide) ⟨w8, rfl, rfl⟩
      · replace h := ifF h (dF hc3)
        refine good_skip ?_
        refine hK4 _ ?_
        refine Good.le (σ' := ⟨36, [(2, _), (4, _)], [(12, (_, _)), (14, (_, _)), (3002, (_, _))]⟩) (le_w [some 12, some 14, some 3002] rfl ⟨⟨_, rfl, .refl _⟩, ⟨⟨_, rfl, .refl _⟩, trivial⟩⟩ ⟨⟨_, rfl, .refl _⟩, ⟨⟨_, rfl, .refl _⟩, ⟨⟨_, rfl, .refl _⟩, trivial⟩⟩⟩ (by decide)) ?_
        refine good_seq fun K12 hK12 => ?_
        refine good_region ?_
        refine g_op rfl (ValOk.op (v_loadP tabOk rfl rfl tsize48 tagg48 rfl rfl rfl rfl ?_)) 
        refine g_op rfl (o_storeP tabOk (cs' := [.str y2.1.name, .hd 3002 w2, .bool y2.1.must]) rfl rfl tsize48 rfl rfl rfl (Nat.le_of_ble_eq_true rfl) rfl rfl rfl ?_)
        refine g_nil ?_
        refine hK12 _ ?_
        refine Good.le (σ' := ⟨36, [(2, _)], [(12, (_, _)), (3002, (_, _))]⟩) (le_w [some 12, some 3002] rfl ⟨⟨_, rfl, .refl _⟩, trivial⟩ ⟨⟨_, rfl, .refl _⟩, ⟨⟨_, rfl, .refl _⟩, trivial⟩⟩ (by decide)) ?_
        refine Good.le (σ' := ⟨36, [(2, .ptr 12 b1 0)], [(100, (w2, .osl 48 3 (y2.1.of_.map encOTyp))), (12, ((.pointer (some ⟨b1, 0, none⟩)), .optr 48 [.str y2.1.name, .hd 100 w2, .bool y2.1.must]))]⟩) (le_w [some 3002, some 12] rfl ⟨⟨_, rfl, .refl _⟩, trivial⟩ ⟨⟨_, rfl, .refl _⟩, ⟨⟨_, rfl, .optr (.cons (.refl _) (.cons (.hd _ _ _) (.cons (.refl _) (.nil))))⟩, trivial⟩⟩ (by decide)) ?_
        refine good_ret ?_
        obtain rfl := Option.some.inj h
        exact endQ_ret (h' := [(100, (_, _))]) [some 100] (.cell rfl rfl tsize48 tagg48 rfl rfl rfl (.nil)) ⟨⟨_, rfl, .refl _⟩, trivial⟩ (by decide) ⟨w2, rfl, rfl⟩
theorem m_spec_DrawTypePut_okF (k : Nat) : ∀ (a0 : (List Int)) (r : Typ), m_spec_DrawTypePut k a0 = some r → Does Try.prog 36 [.sl false (a0.map (encI .u8))] [] (ret (.agg [.str r.name, .sl false (r.of_.map encTyp), .bool r.must])) := by
  intro a0 r h
  refine does_frz (m_spec_DrawTypePut_ok k a0 r h) ?_
  rintro q h' ⟨u0, rfl, rfl⟩
  exact ⟨[100], [(_, _)], ⟨⟨_, rfl, .osl (FrzLL.map fun _ _ => encOTyp_frz _)⟩, trivial⟩, .agg (.cons (.refl _) (.cons (.frz _ _ _ (.head _)) (.cons (.refl _) (.nil))))⟩
def m_impl_typeFormIn : Nat → Typ → Int → Option Bool
  | 0, _, _ => none
  | k + 1, a0, a1 =>
    if a1 < 1 then
      some false
    else
      if a0.name = [] then
        if (a0.of_.length : Int) = 1 then
          if (0 : Int) ≤ 0 ∧ 0 < (a0.of_.length : Int) then
            (m_impl_typeFormIn k (Typ.mk ((ix a0.of_ 0).name) ((ix a0.of_ 0).of_) ((ix a0.of_ 0).must)) (IntKind.wrap .i64 (a1 - 1))).bind fun y2 =>
            some y2
          else none
        else
          some false
      else
        (m_impl_isName k a0.name).bind fun y1 =>
        if y1 = true then
          some (decide ((a0.of_.length : Int) = 0))
        else
          some false
def P_m_impl_typeFormIn (k : Nat) : Prop := ∀ (a0 : Typ) (a1 : Int) (r : Bool), m_impl_typeFormIn k a0 a1 = some r → Does Try.prog 84 [.agg [.str a0.name, .sl false (a0.of_.map encTyp), .bool a0.must], .int .i64 a1] [] (ret (.bool r))
theorem m_impl_typeFormIn_step (k : Nat) (ih : ∀ m, m < k → P_m_impl_typeFormIn m) : P_m_impl_typeFormIn k := by
  intro a0 a1 r h
  obtain ⟨k, rfl⟩ : ∃ k', k = k' + 1 := by cases k with | zero => (rw [m_impl_typeFormIn] at h; cases h) | succ k' => exact ⟨k', rfl⟩
  rw [m_impl_typeFormIn] at h
  refine does_of_good tabOk Try.func84 rfl (by decide +kernel) (Nat.le_of_ble_eq_true rfl) fun c => ?_
  refine Good.le (σ' := ⟨32, [(0, .agg [.str a0.name, .sl false (a0.of_.map encTyp), .bool a0.must]), (1, .int .i64 a1)], []⟩) (Le.refl _) ?_
  refine good_seq fun K1 hK1 => ?_
  refine good_region ?_
  refine g_op rfl (o_box (k := 12) tabOk rfl rfl rfl rfl rfl ?_)
  intro b1
  refine g_op rfl (ValOk.op (v_assign rfl rfl ?_)) 
  refine g_nil ?_
  refine hK1 _ ?_
  refine Good.le (σ' := ⟨32, [(1, _), (2, _), (4, _)], [(12, (_, _))]⟩) (le_w [some 12] rfl ⟨⟨_, rfl, .refl _⟩, ⟨⟨_, rfl, .refl _⟩, ⟨⟨_, rfl, .refl _⟩, trivial⟩⟩⟩ ⟨⟨_, rfl, .refl _⟩, trivial⟩ (by decide)) ?_
  refine good_seq fun K2 hK2 => ?_
  refine good_seq fun K3 hK3 => ?_
  refine good_region ?_
  refine g_op rfl (ValOk.op (v_move rfl rfl ?_)) 
  refine g_op rfl (ValOk.op (v_bin rfl rfl rfl rfl ?_)) 
  refine g_nil ?_
  refine hK3 _ ?_
  refine Good.le (σ' := ⟨32, [(1, _), (2, _), (4, _), (6, _)], [(12, (_, _))]⟩) (le_w [some 12] rfl ⟨⟨_, rfl, .refl _⟩, ⟨⟨_, rfl, .refl _⟩, ⟨⟨_, rfl, .refl _⟩, ⟨⟨_, rfl, .refl _⟩, trivial⟩⟩⟩⟩ ⟨⟨_, rfl, .refl _⟩, trivial⟩ (by decide)) ?_
  refine good_cond rfl (fun hc1 => ?_) (fun hc1 => ?_)
  · replace h := ifT h (dT hc1)
    refine good_seq fun K4 hK4 => ?_
    refine good_region ?_
    refine g_op rfl (ValOk.op (v_assign rfl rfl ?_)) 
    refine g_nil ?_
    refine hK4 _ ?_
    refine Good.le (σ' := ⟨32, [(1, _), (2, _), (4, _)], [(12, (_, _))]⟩) (le_w [some 12] rfl ⟨⟨_, rfl, .refl _⟩, ⟨⟨_, rfl, .refl _⟩, ⟨⟨_, rfl, .refl _⟩, trivial⟩⟩⟩ ⟨⟨_, rfl, .refl _⟩, trivial⟩ (by decide)) ?_
    refine Good.le (σ' := ⟨32, [(4, .bool false)], []⟩) (le_w [] rfl ⟨⟨_, rfl, .refl _⟩, trivial⟩ trivial (by decide)) ?_
    refine good_ret ?_
    obtain rfl := Option.some.inj h
    refine thenQ_ret ?_
    exact endQ_ret (h' := []) [] (.tmp rfl (.nil)) trivial (by decide) ⟨rfl, rfl⟩
  · replace h := ifF h (dF hc1)
    refine good_skip ?_
    refine hK2 _ ?_
    refine Good.le (σ' := ⟨32, [(1, _), (2, _), (4, _)], [(12, (_, _))]⟩) (le_w [some 12] rfl ⟨⟨_, rfl, .refl _⟩, ⟨⟨_, rfl, .refl _⟩, ⟨⟨_, rfl, .refl _⟩, trivial⟩⟩⟩ ⟨⟨_, rfl, .refl _⟩, trivial⟩ (by decide)) ?_
    refine good_seq fun K5 hK5 => ?_
    refine good_seq fun K6 hK6 => ?_
    refine good_region ?_
    refine g_op rfl (ValOk.op (v_fieldP tabOk rfl tfoff48_0 rfl ?_)) 
    refine g_op rfl (ValOk.op (v_loadP tabOk rfl rfl tsize9 tagg9 rfl rfl rfl rfl ?_)) 
    refine g_op rfl (ValOk.op (v_bin rfl rfl rfl rfl ?_)) 
    refine g_nil ?_
    refine hK6 _ ?_
    refine Good.le (σ' := ⟨32, [(1, _), (2, _), (4, _), (9, _)], [(12, (_, _))]⟩) (le_w [some 12] rfl ⟨⟨_, rfl, .refl _⟩, ⟨⟨_, rfl, .refl _⟩, ⟨⟨_, rfl, .refl _⟩, ⟨⟨_, rfl, .refl _⟩, trivial⟩⟩⟩⟩ ⟨⟨_, rfl, .refl _⟩, trivial⟩ (by decide)) ?_
    refine good_cond rfl (fun hc2 => ?_) (fun hc2 => ?_)
    · replace h := ifF h (ndT hc2)
      refine good_seq fun K7 hK7 => ?_
      refine good_region ?_
      refine g_op rfl (ValOk.op (v_fieldP tabOk rfl tfoff48_0 rfl ?_)) 
      refine g_op rfl (ValOk.op (v_loadP tabOk rfl rfl tsize9 tagg9 rfl rfl rfl rfl ?_)) 
      obtain ⟨y1, hy1, h⟩ := bnd h
      refine g_op rfl (o_callR [] [] (core_value rfl rfl) (m_impl_isName_ok k a0.name _ hy1) trivial (.cons (.refl _) (.nil)) (.inl rfl) rfl ?_)
      refine g_op rfl (ValOk.op (v_move rfl rfl ?_)) 
      rcases bsplit (y1) with hg1 | hg1
      · replace h := ifT h hg1
        refine g_yes rfl rfl hg1 (ValOk.op (v_fieldP tabOk rfl tfoff48_1 rfl ?_)) 
        refine g_yes rfl rfl hg1 (ValOk.op (v_loadP tabOk rfl rfl tsize46 tagg46 rfl rfl rfl rfl ?_)) 
        refine g_yes rfl rfl hg1 (ValOk.op (v_lenM (l := a0.of_) (f := encTyp) tabOk rfl rfl telem46 rfl ?_)) 
        refine g_yes rfl rfl hg1 (ValOk.op (v_bin rfl rfl rfl rfl ?_)) 
        refine g_op rfl (ValOk.op (v_pickT rfl hg1 rfl rfl ?_)) 
        refine g_op rfl (ValOk.op (v_assign rfl rfl ?_)) 
        refine g_nil ?_
        refine hK7 _ ?_
        refine Good.le (σ' := ⟨32, [(1, _), (2, _), (4, _)], [(12, (_, _))]⟩) (le_w [some 12] rfl ⟨⟨_, rfl, .refl _⟩, ⟨⟨_, rfl, .refl _⟩, ⟨⟨_, rfl, .refl _⟩, trivial⟩⟩⟩ ⟨⟨_, rfl, .refl _⟩, trivial⟩ (by decide)) ?_
        refine Good.le (σ' := ⟨32, [(4, .bool (decide ((a0.of_.length : Int) = 0)))], []⟩) (le_w [] rfl ⟨⟨_, rfl, .refl _⟩, trivial⟩ trivial (by decide)) ?_
        refine good_ret ?_
        obtain rfl := Option.some.inj h
        refine thenQ_ret ?_
        exact endQ_ret (h' := []) [] (.tmp rfl (.nil)) trivial (by decide) ⟨rfl, rfl⟩
      · replace h := bF h hg1
        refine g_no rfl rfl hg1 rfl ?_
        refine g_no rfl rfl hg1 rfl ?_
        refine g_no rfl rfl hg1 rfl ?_
        refine g_no rfl rfl hg1 rfl ?_
        refine g_op rfl (ValOk.op (v_pickF rfl hg1 rfl rfl ?_)) 
        refine g_op rfl (ValOk.op (v_assign rfl rfl ?_)) 
        refine g_nil ?_
        refine hK7 _ ?_
        refine Good.le (σ' := ⟨32, [(1, _), (2, _), (4, _)], [(12, (_, _))]⟩) (le_w [some 12] rfl ⟨⟨_, rfl, .refl _⟩, ⟨⟨_, rfl, .refl _⟩, ⟨⟨_, rfl, .refl _⟩, trivial⟩⟩⟩ ⟨⟨_, rfl, .refl _⟩, trivial⟩ (by decide)) ?_
        refine Good.le (σ' := ⟨32, [(4, .bool false)], []⟩) (le_w [] rfl ⟨⟨_, rfl, .refl _⟩, trivial⟩ trivial (by decide)) ?_
        refine good_ret ?_
        obtain rfl := Option.some.inj h
        refine thenQ_ret ?_
        exact endQ_ret (h' := []) [] (.tmp rfl (.nil)) trivial (by decide) ⟨rfl, rfl⟩
    · replace h := ifT h (ndF hc2)
      refine good_skip ?_
      refine hK5 _ ?_
      refine Good.le (σ' := ⟨32, [(1, _), (2, _), (4, _)], [(12, (_, _))]⟩) (le_w [some 12] rfl ⟨⟨_, rfl, .refl _⟩, ⟨⟨_, rfl, .refl _⟩, ⟨⟨_, rfl, .refl _⟩, trivial⟩⟩⟩ ⟨⟨_, rfl, .refl _⟩, trivial⟩ (by decide)) ?_
      refine good_seq fun K8 hK8 => ?_
      refine good_region ?_
      refine g_op rfl (ValOk.op (v_fieldP tabOk rfl tfoff48_1 rfl ?_)) 
      refine g_op rfl (ValOk.op (v_loadP tabOk rfl rfl tsize46 tagg46 rfl rfl rfl rfl ?_)) 
      refine g_op rfl (ValOk.op (v_lenM (l := a0.of_) (f := encTyp) tabOk rfl rfl telem46 rfl ?_)) 
      refine g_op rfl (ValOk.op (v_bin rfl rfl rfl rfl ?_)) 
      refine g_op rfl (ValOk.op (v_move rfl rfl ?_)) 
      rcases bsplit ((decide ((a0.of_.length : Int) = 1))) with hg2 | hg2
      · replace h := ifT h (dT hg2)
        refine g_yes rfl rfl hg2 (ValOk.op (v_fieldP tabOk rfl tfoff48_1 rfl ?_)) 
        refine g_yes rfl rfl hg2 (ValOk.op (v_loadP tabOk rfl rfl tsize46 tagg46 rfl rfl rfl rfl ?_)) 
        obtain ⟨hb1, h⟩ := ifS h
        refine g_yes rfl rfl hg2 (ValOk.op (v_idxM tabOk rfl rfl telem46 tsize48 hb1 (encTyp_eq _) rfl rfl ?_)) 
        refine g_yes rfl rfl hg2 (ValOk.op (v_loadE tabOk rfl tsize48 tagg48 rfl rfl rfl ?_)) 
        refine g_yes rfl rfl hg2 (ValOk.op (v_move rfl rfl ?_)) 
        refine g_yes rfl rfl hg2 (ValOk.op (v_bin rfl rfl rfl rfl ?_)) 
        obtain ⟨y2, hy2, h⟩ := bnd h
        refine g_yes rfl rfl hg2 (o_callR [] [] (core_value rfl rfl) ((ih k (by omega)) (Typ.mk ((ix a0.of_ 0).name) ((ix a0.of_ 0).of_) ((ix a0.of_ 0).must)) (IntKind.wrap .i64 (a1 - 1)) _ hy2) trivial (.cons (.refl _) (.cons (.refl _) (.nil))) (.inl rfl) rfl ?_)
        refine g_op rfl (ValOk.op (v_pickT rfl hg2 rfl rfl ?_)) 
        refine g_op rfl (ValOk.op (v_assign rfl rfl ?_)) 
        refine g_nil ?_
        refine hK8 _ ?_
        refine Good.le (σ' := ⟨32, [(4, _)], []⟩) (le_w [] rfl ⟨⟨_, rfl, .refl _⟩, trivial⟩ trivial (by decide)) ?_
        refine Good.le (σ' := ⟨32, [(4, .bool y2)], []⟩) (le_w [] rfl ⟨⟨_, rfl, .refl _⟩, trivial⟩ trivial (by decide)) ?_
        refine good_ret ?_
        obtain rfl := Option.some.inj h
        exact endQ_ret (h' := []) [] (.tmp rfl (.nil)) trivial (by decide) ⟨rfl, rfl⟩
      · replace h := ifF h (dF hg2)
        refine g_no rfl rfl hg2 rfl ?_
        refine g_no rfl rfl hg2 rfl ?_
        refine g_no rfl rfl hg2 rfl ?_
        refine g_no rfl rfl hg2 rfl ?_
        refine g_no rfl rfl hg2 rfl ?_
        refine g_no rfl rfl hg2 rfl ?_
        refine g_no rfl rfl hg2 rfl ?_
        refine g_op rfl (ValOk.op (v_pickF rfl hg2 rfl rfl ?_)) 
        refine g_op rfl (ValOk.op (v_assign rfl rfl ?_)) 
        refine g_nil ?_
        refine hK8 _ ?_
        refine Good.le (σ' := ⟨32, [(4, _)], []⟩) (le_w [] rfl ⟨⟨_, rfl, .refl _⟩, trivial⟩ trivial (by decide)) ?_
        refine Good.le (σ' := ⟨32, [(4, .bool false)], []⟩) (le_w [] rfl ⟨⟨_, rfl, .refl _⟩, trivial⟩ trivial (by decide)) ?_
        refine good_ret ?_
        obtain rfl := Option.some.inj h
        exact endQ_ret (h' := []) [] (.tmp rfl (.nil)) trivial (by decide) ⟨rfl, rfl⟩
theorem m_impl_typeFormIn_all (k : Nat) : P_m_impl_typeFormIn k := by
  induction k using Nat.strongRecOn with
  | _ k ih => exact m_impl_typeFormIn_step k ih
theorem m_impl_typeFormIn_ok (k : Nat) : ∀ (a0 : Typ) (a1 : Int) (r : Bool), m_impl_typeFormIn k a0 a1 = some r → Does Try.prog 84 [.agg [.str a0.name, .sl false (a0.of_.map encTyp), .bool a0.must], .int .i64 a1] [] (ret (.bool r)) := (m_impl_typeFormIn_all k)
def m_impl_typeForm (k : Nat) (a0 : Typ) : Option Bool :=
  (m_impl_typeFormIn k a0 3).bind fun y1 =>
  some y1
theorem m_impl_typeForm_ok (k : Nat) : ∀ (a0 : Typ) (r : Bool), m_impl_typeForm k a0 = some r → Does Try.prog 68 [.agg [.str a0.name, .sl false (a0.of_.map encTyp), .bool a0.must]] [] (ret (.bool r)) := by
  intro a0 r h
  rw [m_impl_typeForm] at h
  refine does_of_good tabOk Try.func68 rfl (by decide +kernel) (Nat.le_of_ble_eq_true rfl) fun c => ?_
  refine Good.le (σ' := ⟨5, [(0, .agg [.str a0.name, .sl false (a0.of_.map encTyp), .bool a0.must])], []⟩) (Le.refl _) ?_
  refine good_seq fun K1 hK1 => ?_
  refine good_region ?_
  refine g_op rfl (o_box (k := 11) tabOk rfl rfl rfl rfl rfl ?_)
  intro b1
  refine g_op rfl (ValOk.op (v_assign rfl rfl ?_)) 
  refine g_nil ?_
  refine hK1 _ ?_
  refine Good.le (σ' := ⟨5, [(1, _), (2, _)], [(11, (_, _))]⟩) (le_w [some 11] rfl ⟨⟨_, rfl, .refl _⟩, ⟨⟨_, rfl, .refl _⟩, trivial⟩⟩ ⟨⟨_, rfl, .refl _⟩, trivial⟩ (by decide)) ?_
  refine good_seq fun K2 hK2 => ?_
  refine good_region ?_
  refine g_op rfl (ValOk.op (v_loadP tabOk rfl rfl tsize48 tagg48 rfl rfl rfl rfl ?_)) 
  obtain ⟨y1, hy1, h⟩ := bnd h
  refine g_op rfl (o_callR [] [] (core_value rfl rfl) (m_impl_typeFormIn_ok k a0 3 _ hy1) trivial (.cons (.refl _) (.cons (.refl _) (.nil))) (.inl rfl) rfl ?_)
  refine g_op rfl (ValOk.op (v_assign rfl rfl ?_)) 
  refine g_nil ?_
  refine hK2 _ ?_
  refine Good.le (σ' := ⟨5, [(2, _)], []⟩) (le_w [] rfl ⟨⟨_, rfl, .refl _⟩, trivial⟩ trivial (by decide)) ?_
  refine Good.le (σ' := ⟨5, [(2, .bool y1)], []⟩) (le_w [] rfl ⟨⟨_, rfl, .refl _⟩, trivial⟩ trivial (by decide)) ?_
  refine good_ret ?_
  obtain rfl := Option.some.inj h
  exact endQ_ret (h' := []) [] (.tmp rfl (.nil)) trivial (by decide) ⟨rfl, rfl⟩
def m_impl_TypePut : Nat → Typ → Option Bs
  | 0, _ => none
  | k + 1, a0 =>
    (m_impl_typeForm k a0).bind fun y1 =>
    if y1 = true then
      (if a0.name = [] then
          if (0 : Int) ≤ 0 ∧ 0 < (a0.of_.length : Int) then
            (m_impl_TypePut k (Typ.mk ((ix a0.of_ 0).name) ((ix a0.of_ 0).of_) ((ix a0.of_ 0).must))).bind fun y2 =>
            if ([91] ++ y2).length ≤ maxLen then
              if (([91] ++ y2) ++ [93]).length ≤ maxLen then
                some (Lp.go (([91] ++ y2) ++ [93]))
              else none
            else none
          else none
        else
          some (Lp.go a0.name)).bind fun o1 =>
      o1.then fun s1 =>
    if a0.must = true then
      if (s1 ++ [33]).length ≤ maxLen then
        some (s1 ++ [33])
      else none
    else
      some s1
    else
      some []
def P_m_impl_TypePut (k : Nat) : Prop := ∀ (a0 : Typ) (r : Bs), m_impl_TypePut k a0 = some r → Does Try.prog 37 [.agg [.str a0.name, .sl false (a0.of_.map encTyp), .bool a0.must]] [] (ret (.str r))
theorem m_impl_TypePut_step (k : Nat) (ih : ∀ m, m < k → P_m_impl_TypePut m) : P_m_impl_TypePut k := by
  intro a0 r h
  obtain ⟨k, rfl⟩ : ∃ k', k = k' + 1 := by cases k with | zero => (rw [m_impl_TypePut] at h; cases h) | succ k' => exact ⟨k', rfl⟩
  rw [m_impl_TypePut] at h
  refine does_of_good tabOk Try.func37 rfl (by decide +kernel) (Nat.le_of_ble_eq_true rfl) fun c => ?_
  refine Good.le (σ' := ⟨23, [(0, .agg [.str a0.name, .sl false (a0.of_.map encTyp), .bool a0.must])], []⟩) (Le.refl _) ?_
  refine good_seq fun K1 hK1 => ?_
  refine good_region ?_
  refine g_op rfl (o_box (k := 11) tabOk rfl rfl rfl rfl rfl ?_)
  intro b1
  refine g_op rfl (ValOk.op (v_assign rfl rfl ?_)) 
  refine g_nil ?_
  refine hK1 _ ?_
  refine Good.le (σ' := ⟨23, [(1, _), (2, _)], [(11, (_, _))]⟩) (le_w [some 11] rfl ⟨⟨_, rfl, .refl _⟩, ⟨⟨_, rfl, .refl _⟩, trivial⟩⟩ ⟨⟨_, rfl, .refl _⟩, trivial⟩ (by decide)) ?_
  refine good_seq fun K2 hK2 => ?_
  refine good_seq fun K3 hK3 => ?_
  refine good_region ?_
  refine g_op rfl (ValOk.op (v_loadP tabOk rfl rfl tsize48 tagg48 rfl rfl rfl rfl ?_)) 
  obtain ⟨y1, hy1, h⟩ := bnd h
  refine g_op rfl (o_callR [] [] (core_value rfl rfl) (m_impl_typeForm_ok k a0 _ hy1) trivial (.cons (.refl _) (.nil)) (.inl rfl) rfl ?_)
  refine g_op rfl (ValOk.op (v_not rfl rfl ?_)) 
  refine g_nil ?_
  refine hK3 _ ?_
  refine Good.le (σ' := ⟨23, [(1, _), (2, _), (6, _)], [(11, (_, _))]⟩) (le_w [some 11] rfl ⟨⟨_, rfl, .refl _⟩, ⟨⟨_, rfl, .refl _⟩, ⟨⟨_, rfl, .refl _⟩, trivial⟩⟩⟩ ⟨⟨_, rfl, .refl _⟩, trivial⟩ (by decide)) ?_
  refine good_cond rfl (fun hc1 => ?_) (fun hc1 => ?_)
  · replace h := bF h (nT hc1)
    refine good_seq fun K4 hK4 => ?_
    refine good_region ?_
    refine g_op rfl (ValOk.op (v_assign rfl rfl ?_)) 
    refine g_nil ?_
    refine hK4 _ ?_
    refine Good.le (σ' := ⟨23, [(1, _), (2, _)], [(11, (_, _))]⟩) (le_w [some 11] rfl ⟨⟨_, rfl, .refl _⟩, ⟨⟨_, rfl, .refl _⟩, trivial⟩⟩ ⟨⟨_, rfl, .refl _⟩, trivial⟩ (by decide)) ?_
    refine Good.le (σ' := ⟨23, [(2, .str [])], []⟩) (le_w [] rfl ⟨⟨_, rfl, .refl _⟩, trivial⟩ trivial (by decide)) ?_
    refine good_ret ?_
    obtain rfl := Option.some.inj h
    refine thenQ_ret ?_
    exact endQ_ret (h' := []) [] (.tmp rfl (.nil)) trivial (by decide) ⟨rfl, rfl⟩
  · replace h := ifT h (nF hc1)
    refine good_skip ?_
    refine hK2 _ ?_
    refine Good.le (σ' := ⟨23, [(1, _), (2, _)], [(11, (_, _))]⟩) (le_w [some 11] rfl ⟨⟨_, rfl, .refl _⟩, ⟨⟨_, rfl, .refl _⟩, trivial⟩⟩ ⟨⟨_, rfl, .refl _⟩, trivial⟩ (by decide)) ?_
    refine good_seq fun K5 hK5 => ?_
    refine good_region ?_
    refine g_op rfl (ValOk.op (v_fieldP tabOk rfl tfoff48_0 rfl ?_)) 
    refine g_op rfl (ValOk.op (v_loadP tabOk rfl rfl tsize9 tagg9 rfl rfl rfl rfl ?_)) 
    refine g_op rfl (ValOk.op (v_assign rfl rfl ?_)) 
    refine g_nil ?_
    refine hK5 _ ?_
    refine Good.le (σ' := ⟨23, [(1, _), (2, _), (3, _)], [(11, (_, _))]⟩) (le_w [some 11] rfl ⟨⟨_, rfl, .refl _⟩, ⟨⟨_, rfl, .refl _⟩, ⟨⟨_, rfl, .refl _⟩, trivial⟩⟩⟩ ⟨⟨_, rfl, .refl _⟩, trivial⟩ (by decide)) ?_
    refine good_seq fun K6 hK6 => ?_
    obtain ⟨o1, ho1, hJ1⟩ := bnd h
    have hw1 : ∀ (s1 : Bs), o1 = Lp.go s1 → ∀ σ', Le σ' ⟨23, [(1, .ptr 11 b1 0), (2, .str []), (3, .str s1)], [(11, ((.pointer (some ⟨b1, 0, none⟩)), .optr 48 [.str a0.name, .sl false (a0.of_.map encTyp), .bool a0.must]))]⟩ → K6 σ' := by
      intro s1 e1 σ' hle1
      subst e1
      refine hK6 _ (Good.le hle1 ?_)
      replace h := hJ1
      refine good_seq fun K7 hK7 => ?_
      refine good_seq fun K8 hK8 => ?_
      refine good_region ?_
      refine g_op rfl (ValOk.op (v_fieldP tabOk rfl tfoff48_2 rfl ?_)) 
      refine g_op rfl (ValOk.op (v_loadP tabOk rfl rfl tsize4 tagg4 rfl rfl rfl rfl ?_)) 
      refine g_nil ?_
      refine hK8 _ ?_
      refine Good.le (σ' := ⟨23, [(2, _), (3, _), (19, _)], []⟩) (le_w [] rfl ⟨⟨_, rfl, .refl _⟩, ⟨⟨_, rfl, .refl _⟩, ⟨⟨_, rfl, .refl _⟩, trivial⟩⟩⟩ trivial (by decide)) ?_
      refine good_cond rfl (fun hc2 => ?_) (fun hc2 => ?_)
      · replace h := ifT h hc2
        refine good_region ?_
        refine g_op rfl (ValOk.op (v_move rfl rfl ?_)) 
        obtain ⟨hb1, h⟩ := ifS h
        refine g_op rfl (ValOk.op (v_cat rfl rfl hb1 rfl ?_)) 
        refine g_op rfl (ValOk.op (v_assign rfl rfl ?_)) 
        refine g_nil ?_
        refine hK7 _ ?_
        refine Good.le (σ' := ⟨23, [(2, _), (3, _)], []⟩) (le_w [] rfl ⟨⟨_, rfl, .refl _⟩, ⟨⟨_, rfl, .refl _⟩, trivial⟩⟩ trivial (by decide)) ?_
        refine good_seq fun K9 hK9 => ?_
        refine good_region ?_
        refine g_op rfl (ValOk.op (v_move rfl rfl ?_)) 
        refine g_op rfl (ValOk.op (v_assign rfl rfl ?_)) 
        refine g_nil ?_
        refine hK9 _ ?_
        refine Good.le (σ' := ⟨23, [(2, _)], []⟩) (le_w [] rfl ⟨⟨_, rfl, .refl _⟩, trivial⟩ trivial (by decide)) ?_
        refine Good.le (σ' := ⟨23, [(2, .str (s1 ++ [33]))], []⟩) (le_w [] rfl ⟨⟨_, rfl, .refl _⟩, trivial⟩ trivial (by decide)) ?_
        refine good_ret ?_
        obtain rfl := Option.some.inj h
        exact endQ_ret (h' := []) [] (.tmp rfl (.nil)) trivial (by decide) ⟨rfl, rfl⟩
      · replace h := bF h hc2
        refine good_skip ?_
        refine hK7 _ ?_
        refine Good.le (σ' := ⟨23, [(2, _), (3, _)], []⟩) (le_w [] rfl ⟨⟨_, rfl, .refl _⟩, ⟨⟨_, rfl, .refl _⟩, trivial⟩⟩ trivial (by decide)) ?_
        refine good_seq fun K10 hK10 => ?_
        refine good_region ?_
        refine g_op rfl (ValOk.op (v_move rfl rfl ?_)) 
        refine g_op rfl (ValOk.op (v_assign rfl rfl ?_)) 
        refine g_nil ?_
        refine hK10 _ ?_
        refine Good.le (σ' := ⟨23, [(2, _)], []⟩) (le_w [] rfl ⟨⟨_, rfl, .refl _⟩, trivial⟩ trivial (by decide)) ?_
        refine Good.le (σ' := ⟨23, [(2, .str s1)], []⟩) (le_w [] rfl ⟨⟨_, rfl, .refl _⟩, trivial⟩ trivial (by decide)) ?_
        refine good_ret ?_
        obtain rfl := Option.some.inj h
        exact endQ_ret (h' := []) [] (.tmp rfl (.nil)) trivial (by decide) ⟨rfl, rfl⟩
    replace h := ho1
    refine good_seq fun K11 hK11 => ?_
    refine good_region ?_
    refine g_op rfl (ValOk.op (v_move rfl rfl ?_)) 
    refine g_op rfl (ValOk.op (v_bin rfl rfl rfl rfl ?_)) 
    refine g_nil ?_
    refine hK11 _ ?_
    refine Good.le (σ' := ⟨23, [(1, _), (2, _), (3, _), (10, _)], [(11, (_, _))]⟩) (le_w [some 11] rfl ⟨⟨_, rfl, .refl _⟩, ⟨⟨_, rfl, .refl _⟩, ⟨⟨_, rfl, .refl _⟩, ⟨⟨_, rfl, .refl _⟩, trivial⟩⟩⟩⟩ ⟨⟨_, rfl, .refl _⟩, trivial⟩ (by decide)) ?_
    refine good_cond rfl (fun hc3 => ?_) (fun hc3 => ?_)
    · replace h := ifT h (dT hc3)
      refine good_region ?_
      refine g_op rfl (ValOk.op (v_fieldP tabOk rfl tfoff48_1 rfl ?_)) 
      refine g_op rfl (ValOk.op (v_loadP tabOk rfl rfl tsize46 tagg46 rfl rfl rfl rfl ?_)) 
      obtain ⟨hb2, h⟩ := ifS h
      refine g_op rfl (ValOk.op (v_idxM tabOk rfl rfl telem46 tsize48 hb2 (encTyp_eq _) rfl rfl ?_)) 
      refine g_op rfl (ValOk.op (v_loadE tabOk rfl tsize48 tagg48 rfl rfl rfl ?_)) 
      obtain ⟨y2, hy2, h⟩ := bnd h
      refine g_op rfl (o_callR [] [] (core_value rfl rfl) ((ih k (by omega)) (Typ.mk ((ix a0.of_ 0).name) ((ix a0.of_ 0).of_) ((ix a0.of_ 0).must)) _ hy2) trivial (.cons (.refl _) (.nil)) (.inl rfl) rfl ?_)
      obtain ⟨hb3, h⟩ := ifS h
      refine g_op rfl (ValOk.op (v_cat rfl rfl hb3 rfl ?_)) 
      obtain ⟨hb4, h⟩ := ifS h
      refine g_op rfl (ValOk.op (v_cat rfl rfl hb4 rfl ?_)) 
      refine g_op rfl (ValOk.op (v_assign rfl rfl ?_)) 
      refine g_nil ?_
      exact hw1 (([91] ++ y2) ++ [93]) (Option.some.inj h).symm _ (le_w [some 11] rfl ⟨⟨_, rfl, .refl _⟩, ⟨⟨_, rfl, .refl _⟩, ⟨⟨_, rfl, .refl _⟩, trivial⟩⟩⟩ ⟨⟨_, rfl, .refl _⟩, trivial⟩ (by decide))
    · replace h := ifF h (dF hc3)
      refine good_skip ?_
      exact hw1 a0.name (Option.some.inj h).symm _ (le_w [some 11] rfl ⟨⟨_, rfl, .refl _⟩, ⟨⟨_, rfl, .refl _⟩, ⟨⟨_, rfl, .refl _⟩, trivial⟩⟩⟩ ⟨⟨_, rfl, .refl _⟩, trivial⟩ (by decide))
theorem m_impl_TypePut_all (k : Nat) : P_m_impl_TypePut k := by
  induction k using Nat.strongRecOn with
  | _ k ih => exact m_impl_TypePut_step k ih
theorem m_impl_TypePut_ok (k : Nat) : ∀ (a0 : Typ) (r : Bs), m_impl_TypePut k a0 = some r → Does Try.prog 37 [.agg [.str a0.name, .sl false (a0.of_.map encTyp), .bool a0.must]] [] (ret (.str r)) := (m_impl_TypePut_all k)
def m_spec_l2Put : Nat → Typ → Option Bs
  | 0, _ => none
  | k + 1, a0 =>
    (if 0 < (a0.of_.length : Int) then
        if (0 : Int) ≤ 0 ∧ 0 < (a0.of_.length : Int) then
          (m_spec_l2Put k (Typ.mk ((ix a0.of_ 0).name) ((ix a0.of_ 0).of_) ((ix a0.of_ 0).must))).bind fun y1 =>
          if ([91] ++ y1).length ≤ maxLen then
            if (([91] ++ y1) ++ [93]).length ≤ maxLen then
              some (Lp.go (([91] ++ y1) ++ [93]))
            else none
          else none
        else none
      else
        some (Lp.go a0.name)).bind fun o1 =>
    o1.then fun s1 =>
    if a0.must = true then
      if (s1 ++ [33]).length ≤ maxLen then
        some (s1 ++ [33])
      else none
    else
      some s1
def P_m_spec_l2Put (k : Nat) : Prop := ∀ (a0 : Typ) (r : Bs), m_spec_l2Put k a0 = some r → Does Try.prog 69 [.agg [.str a0.name, .sl false (a0.of_.map encTyp), .bool a0.must]] [] (ret (.str r))
theorem m_spec_l2Put_step (k : Nat) (ih : ∀ m, m < k → P_m_spec_l2Put m) : P_m_spec_l2Put k := by
  intro a0 r h
  obtain ⟨k, rfl⟩ : ∃ k', k = k' + 1 := by cases k with | zero => (rw [m_spec_l2Put] at h; cases h) | succ k' => exact ⟨k', rfl⟩
  rw [m_spec_l2Put] at h
  refine does_of_good tabOk Try.func69 rfl (by decide +kernel) (Nat.le_of_ble_eq_true rfl) fun c => ?_
  refine Good.le (σ' := ⟨22, [(0, .agg [.str a0.name, .sl false (a0.of_.map encTyp), .bool a0.must])], []⟩) (Le.refl _) ?_
  refine good_seq fun K1 hK1 => ?_
  refine good_region ?_
  refine g_op rfl (o_box (k := 11) tabOk rfl rfl rfl rfl rfl ?_)
  intro b1
  refine g_op rfl (ValOk.op (v_assign rfl rfl ?_)) 
  refine g_nil ?_
  refine hK1 _ ?_
  refine Good.le (σ' := ⟨22, [(1, _), (2, _)], [(11, (_, _))]⟩) (le_w [some 11] rfl ⟨⟨_, rfl, .refl _⟩, ⟨⟨_, rfl, .refl _⟩, trivial⟩⟩ ⟨⟨_, rfl, .refl _⟩, trivial⟩ (by decide)) ?_
  refine good_seq fun K2 hK2 => ?_
  refine good_region ?_
  refine g_op rfl (ValOk.op (v_fieldP tabOk rfl tfoff48_0 rfl ?_)) 
  refine g_op rfl (ValOk.op (v_loadP tabOk rfl rfl tsize9 tagg9 rfl rfl rfl rfl ?_)) 
  refine g_op rfl (ValOk.op (v_assign rfl rfl ?_)) 
  refine g_nil ?_
  refine hK2 _ ?_
  refine Good.le (σ' := ⟨22, [(1, _), (2, _), (3, _)], [(11, (_, _))]⟩) (le_w [some 11] rfl ⟨⟨_, rfl, .refl _⟩, ⟨⟨_, rfl, .refl _⟩, ⟨⟨_, rfl, .refl _⟩, trivial⟩⟩⟩ ⟨⟨_, rfl, .refl _⟩, trivial⟩ (by decide)) ?_
  refine good_seq fun K3 hK3 => ?_
  obtain ⟨o1, ho1, hJ1⟩ := bnd h
  have hw1 : ∀ (s1 : Bs), o1 = Lp.go s1 → ∀ σ', Le σ' ⟨22, [(1, .ptr 11 b1 0), (2, .str []), (3, .str s1)], [(11, ((.pointer (some ⟨b1, 0, none⟩)), .optr 48 [.str a0.name, .sl false (a0.of_.map encTyp), .bool a0.must]))]⟩ → K3 σ' := by
    intro s1 e1 σ' hle1
    subst e1
    refine hK3 _ (Good.le hle1 ?_)
    replace h := hJ1
    refine good_seq fun K4 hK4 => ?_
    refine good_seq fun K5 hK5 => ?_
    refine good_region ?_
    refine g_op rfl (ValOk.op (v_fieldP tabOk rfl tfoff48_2 rfl ?_)) 
    refine g_op rfl (ValOk.op (v_loadP tabOk rfl rfl tsize4 tagg4 rfl rfl rfl rfl ?_)) 
    refine g_nil ?_
    refine hK5 _ ?_
    refine Good.le (σ' := ⟨22, [(2, _), (3, _), (18, _)], []⟩) (le_w [] rfl ⟨⟨_, rfl, .refl _⟩, ⟨⟨_, rfl, .refl _⟩, ⟨⟨_, rfl, .refl _⟩, trivial⟩⟩⟩ trivial (by decide)) ?_
    refine good_cond rfl (fun hc1 => ?_) (fun hc1 => ?_)
    · replace h := ifT h hc1
      refine good_region ?_
      refine g_op rfl (ValOk.op (v_move rfl rfl ?_)) 
      obtain ⟨hb1, h⟩ := ifS h
      refine g_op rfl (ValOk.op (v_cat rfl rfl hb1 rfl ?_)) 
      refine g_op rfl (ValOk.op (v_assign rfl rfl ?_)) 
      refine g_nil ?_
      refine hK4 _ ?_
      refine Good.le (σ' := ⟨22, [(2, _), (3, _)], []⟩) (le_w [] rfl ⟨⟨_, rfl, .refl _⟩, ⟨⟨_, rfl, .refl _⟩, trivial⟩⟩ trivial (by decide)) ?_
      refine good_seq fun K6 hK6 => ?_
      refine good_region ?_
      refine g_op rfl (ValOk.op (v_move rfl rfl ?_)) 
      refine g_op rfl (ValOk.op (v_assign rfl rfl ?_)) 
      refine g_nil ?_
      refine hK6 _ ?_
      refine Good.le (σ' := ⟨22, [(2, _)], []⟩) (le_w [] rfl ⟨⟨_, rfl, .refl _⟩, trivial⟩ trivial (by decide)) ?_
      refine Good.le (σ' := ⟨22, [(2, .str (s1 ++ [33]))], []⟩) (le_w [] rfl ⟨⟨_, rfl, .refl _⟩, trivial⟩ trivial (by decide)) ?_
      refine good_ret ?_
      obtain rfl := Option.some.inj h
      exact endQ_ret (h' := []) [] (.tmp rfl (.nil)) trivial (by decide) ⟨rfl, rfl⟩
    · replace h := bF h hc1
      refine good_skip ?_
      refine hK4 _ ?_
      refine Good.le (σ' := ⟨22, [(2, _), (3, _)], []⟩) (le_w [] rfl ⟨⟨_, rfl, .refl _⟩, ⟨⟨_, rfl, .refl _⟩, trivial⟩⟩ trivial (by decide)) ?_
      refine good_seq fun K7 hK7 => ?_
      refine good_region ?_
      refine g_op rfl (ValOk.op (v_move rfl rfl ?_)) 
      refine g_op rfl (ValOk.op (v_assign rfl rfl ?_)) 
      refine g_nil ?_
      refine hK7 _ ?_
      refine Good.le (σ' := ⟨22, [(2, _)], []⟩) (le_w [] rfl ⟨⟨_, rfl, .refl _⟩, trivial⟩ trivial (by decide)) ?_
      refine Good.le (σ' := ⟨22, [(2, .str s1)], []⟩) (le_w [] rfl ⟨⟨_, rfl, .refl _⟩, trivial⟩ trivial (by decide)) ?_
      refine good_ret ?_
      obtain rfl := Option.some.inj h
      exact endQ_ret (h' := []) [] (.tmp rfl (.nil)) trivial (by decide) ⟨rfl, rfl⟩
  replace h := ho1
  refine good_seq fun K8 hK8 => ?_
  refine good_region ?_
  refine g_op rfl (ValOk.op (v_fieldP tabOk rfl tfoff48_1 rfl ?_)) 
  refine g_op rfl (ValOk.op (v_loadP tabOk rfl rfl tsize46 tagg46 rfl rfl rfl rfl ?_)) 
  refine g_op rfl (ValOk.op (v_lenM (l := a0.of_) (f := encTyp) tabOk rfl rfl telem46 rfl ?_)) 
  refine g_op rfl (ValOk.op (v_bin rfl rfl rfl rfl ?_)) 
  refine g_nil ?_
  refine hK8 _ ?_
  refine Good.le (σ' := ⟨22, [(1, _), (2, _), (3, _), (9, _)], [(11, (_, _))]⟩) (le_w [some 11] rfl ⟨⟨_, rfl, .refl _⟩, ⟨⟨_, rfl, .refl _⟩, ⟨⟨_, rfl, .refl _⟩, ⟨⟨_, rfl, .refl _⟩, trivial⟩⟩⟩⟩ ⟨⟨_, rfl, .refl _⟩, trivial⟩ (by decide)) ?_
  refine good_cond rfl (fun hc2 => ?_) (fun hc2 => ?_)
  · replace h := ifT h (dT hc2)
    refine good_region ?_
    refine g_op rfl (ValOk.op (v_fieldP tabOk rfl tfoff48_1 rfl ?_)) 
    refine g_op rfl (ValOk.op (v_loadP tabOk rfl rfl tsize46 tagg46 rfl rfl rfl rfl ?_)) 
    obtain ⟨hb2, h⟩ := ifS h
    refine g_op rfl (ValOk.op (v_idxM tabOk rfl rfl telem46 tsize48 hb2 (encTyp_eq _) rfl rfl ?_)) 
    refine g_op rfl (ValOk.op (v_loadE tabOk rfl tsize48 tagg48 rfl rfl rfl ?_)) 
    obtain ⟨y1, hy1, h⟩ := bnd h
    refine g_op rfl (o_callR [] [] (core_value rfl rfl) ((ih k (by omega)) (Typ.mk ((ix a0.of_ 0).name) ((ix a0.of_ 0).of_) ((ix a0.of_ 0).must)) _ hy1) trivial (.cons (.refl _) (.nil)) (.inl rfl) rfl ?_)
    obtain ⟨hb3, h⟩ := ifS h
    refine g_op rfl (ValOk.op (v_cat rfl rfl hb3 rfl ?_)) 
    obtain ⟨hb4, h⟩ := ifS h
    refine g_op rfl (ValOk.op (v_cat rfl rfl hb4 rfl ?_)) 
    refine g_op rfl (ValOk.op (v_assign rfl rfl ?_)) 
    refine g_nil ?_
    exact hw1 (([91] ++ y1) ++ [93]) (Option.some.inj h).symm _ (le_w [some 11] rfl ⟨⟨_, rfl, .refl _⟩, ⟨⟨_, rfl, .refl _⟩, ⟨⟨_, rfl, .refl _⟩, trivial⟩⟩⟩ ⟨⟨_, rfl, .refl _⟩, trivial⟩ (by decide))
  · replace h := ifF h (dF hc2)
    refine good_skip ?_
    exact hw1 a0.name (Option.some.inj h).symm _ (le_w [some 11] rfl ⟨⟨_, rfl, .refl _⟩, ⟨⟨_, rfl, .refl _⟩, ⟨⟨_, rfl, .refl _⟩, trivial⟩⟩⟩ ⟨⟨_, rfl, .refl _⟩, trivial⟩ (by decide))
theorem m_spec_l2Put_all (k : Nat) : P_m_spec_l2Put k := by
  induction k using Nat.strongRecOn with
  | _ k ih => exact m_spec_l2Put_step k ih
theorem m_spec_l2Put_ok (k : Nat) : ∀ (a0 : Typ) (r : Bs), m_spec_l2Put k a0 = some r → Does Try.prog 69 [.agg [.str a0.name, .sl false (a0.of_.map encTyp), .bool a0.must]] [] (ret (.str r)) := (m_spec_l2Put_all k)
def m_spec_TypePut (k : Nat) (a0 : Typ) : Option Bs :=
  (m_spec_l2Type k a0 3).bind fun y1 =>
  if y1 = true then
    (m_spec_l2Put k a0).bind fun y2 =>
    some y2
  else
    some []
theorem m_spec_TypePut_ok (k : Nat) : ∀ (a0 : Typ) (r : Bs), m_spec_TypePut k a0 = some r → Does Try.prog 38 [.agg [.str a0.name, .sl false (a0.of_.map encTyp), .bool a0.must]] [] (ret (.str r)) := by
  intro a0 r h
  rw [m_spec_TypePut] at h
  refine does_of_good tabOk Try.func38 rfl (by decide +kernel) (Nat.le_of_ble_eq_true rfl) fun c => ?_
  refine Good.le (σ' := ⟨8, [(0, .agg [.str a0.name, .sl false (a0.of_.map encTyp), .bool a0.must])], []⟩) (Le.refl _) ?_
  refine good_seq fun K1 hK1 => ?_
  refine good_region ?_
  refine g_op rfl (o_box (k := 11) tabOk rfl rfl rfl rfl rfl ?_)
  intro b1
  refine g_op rfl (ValOk.op (v_assign rfl rfl ?_)) 
  refine g_nil ?_
  refine hK1 _ ?_
  refine Good.le (σ' := ⟨8, [(1, _), (2, _)], [(11, (_, _))]⟩) (le_w [some 11] rfl ⟨⟨_, rfl, .refl _⟩, ⟨⟨_, rfl, .refl _⟩, trivial⟩⟩ ⟨⟨_, rfl, .refl _⟩, trivial⟩ (by decide)) ?_
  refine good_seq fun K2 hK2 => ?_
  refine good_seq fun K3 hK3 => ?_
  refine good_region ?_
  refine g_op rfl (ValOk.op (v_loadP tabOk rfl rfl tsize48 tagg48 rfl rfl rfl rfl ?_)) 
  obtain ⟨y1, hy1, h⟩ := bnd h
  refine g_op rfl (o_callR [] [] (core_value rfl rfl) (m_spec_l2Type_ok k a0 3 _ hy1) trivial (.cons (.refl _) (.cons (.refl _) (.nil))) (.inl rfl) rfl ?_)
  refine g_op rfl (ValOk.op (v_not rfl rfl ?_)) 
  refine g_nil ?_
  refine hK3 _ ?_
  refine Good.le (σ' := ⟨8, [(1, _), (2, _), (5, _)], [(11, (_, _))]⟩) (le_w [some 11] rfl ⟨⟨_, rfl, .refl _⟩, ⟨⟨_, rfl, .refl _⟩, ⟨⟨_, rfl, .refl _⟩, trivial⟩⟩⟩ ⟨⟨_, rfl, .refl _⟩, trivial⟩ (by decide)) ?_
  refine good_cond rfl (fun hc1 => ?_) (fun hc1 => ?_)
  · replace h := bF h (nT hc1)
    refine good_seq fun K4 hK4 => ?_
    refine good_region ?_
    refine g_op rfl (ValOk.op (v_assign rfl rfl ?_)) 
    refine g_nil ?_
    refine hK4 _ ?_
    refine Good.le (σ' := ⟨8, [(1, _), (2, _)], [(11, (_, _))]⟩) (le_w [some 11] rfl ⟨⟨_, rfl, .refl _⟩, ⟨⟨_, rfl, .refl _⟩, trivial⟩⟩ ⟨⟨_, rfl, .refl _⟩, trivial⟩ (by decide)) ?_
    refine Good.le (σ' := ⟨8, [(2, .str [])], []⟩) (le_w [] rfl ⟨⟨_, rfl, .refl _⟩, trivial⟩ trivial (by decide)) ?_
    refine good_ret ?_
    obtain rfl := Option.some.inj h
    refine thenQ_ret ?_
    exact endQ_ret (h' := []) [] (.tmp rfl (.nil)) trivial (by decide) ⟨rfl, rfl⟩
  · replace h := ifT h (nF hc1)
    refine good_skip ?_
    refine hK2 _ ?_
    refine Good.le (σ' := ⟨8, [(1, _), (2, _)], [(11, (_, _))]⟩) (le_w [some 11] rfl ⟨⟨_, rfl, .refl _⟩, ⟨⟨_, rfl, .refl _⟩, trivial⟩⟩ ⟨⟨_, rfl, .refl _⟩, trivial⟩ (by decide)) ?_
    refine good_seq fun K5 hK5 => ?_
    refine good_region ?_
    refine g_op rfl (ValOk.op (v_loadP tabOk rfl rfl tsize48 tagg48 rfl rfl rfl rfl ?_)) 
    obtain ⟨y2, hy2, h⟩ := bnd h
    refine g_op rfl (o_callR [] [] (core_value rfl rfl) (m_spec_l2Put_ok k a0 _ hy2) trivial (.cons (.refl _) (.nil)) (.inl rfl) rfl ?_)
    refine g_op rfl (ValOk.op (v_assign rfl rfl ?_)) 
    refine g_nil ?_
    refine hK5 _ ?_
    refine Good.le (σ' := ⟨8, [(2, _)], []⟩) (le_w [] rfl ⟨⟨_, rfl, .refl _⟩, trivial⟩ trivial (by decide)) ?_
    refine Good.le (σ' := ⟨8, [(2, .str y2)], []⟩) (le_w [] rfl ⟨⟨_, rfl, .refl _⟩, trivial⟩ trivial (by decide)) ?_
    refine good_ret ?_
    obtain rfl := Option.some.inj h
    exact endQ_ret (h' := []) [] (.tmp rfl (.nil)) trivial (by decide) ⟨rfl, rfl⟩
mutual
def m_laws_pgType_l1 : Nat → Typ → Typ → Int → Option (Lp Unit Bool)
  | 0, _, _, _ => none
  | k + 1, a0, a1, x1 =>
    if x1 < (a0.of_.length : Int) then
      if (0 : Int) ≤ x1 ∧ x1 < (a0.of_.length : Int) then
        if (0 : Int) ≤ x1 ∧ x1 < (a1.of_.length : Int) then
          (m_laws_pgType k (Typ.mk ((ix a0.of_ x1).name) ((ix a0.of_ x1).of_) ((ix a0.of_ x1).must)) (Typ.mk ((ix a1.of_ x1).name) ((ix a1.of_ x1).of_) ((ix a1.of_ x1).must))).bind fun y1 =>
          if y1 = true then
            m_laws_pgType_l1 k a0 a1 (IntKind.wrap .i64 (x1 + 1))
          else
            (some false).bind fun z =>
            some (Lp.ret z)
        else none
      else none
    else
      some (Lp.go ())
def m_laws_pgType : Nat → Typ → Typ → Option Bool
  | 0, _, _ => none
  | k + 1, a0, a1 =>
    (if a0.name = a1.name then
        if a0.must = a1.must then
          some (Lp.go (!(decide ((a0.of_.length : Int) = (a1.of_.length : Int)))))
        else
          some (Lp.go true)
      else
        some (Lp.go true)).bind fun o1 =>
    o1.then fun s1 =>
    if s1 = true then
      some false
    else
      (m_laws_pgType_l1 k a0 a1 0).bind fun o2 =>
      o2.then fun s2 =>
    some true
end
def P_m_laws_pgType (k : Nat) : Prop := ∀ (a0 : Typ) (a1 : Typ) (r : Bool), m_laws_pgType k a0 a1 = some r → Does Try.prog 39 [.agg [.str a0.name, .sl false (a0.of_.map encTyp), .bool a0.must], .agg [.str a1.name, .sl false (a1.of_.map encTyp), .bool a1.must]] [] (ret (.bool r))
theorem m_laws_pgType_step (k : Nat) (ih : ∀ m, m < k → P_m_laws_pgType m) : P_m_laws_pgType k := by
  intro a0 a1 r h
  obtain ⟨k, rfl⟩ : ∃ k', k = k' + 1 := by cases k with | zero => (rw [m_laws_pgType] at h; cases h) | succ k' => exact ⟨k', rfl⟩
  rw [m_laws_pgType] at h
  refine does_of_good tabOk Try.func39 rfl (by decide +kernel) (Nat.le_of_ble_eq_true rfl) fun c => ?_
  refine Good.le (σ' := ⟨46, [(0, .agg [.str a0.name, .sl false (a0.of_.map encTyp), .bool a0.must]), (1, .agg [.str a1.name, .sl false (a1.of_.map encTyp), .bool a1.must])], []⟩) (Le.refl _) ?_
  refine good_seq fun K1 hK1 => ?_
  refine good_region ?_
  refine g_op rfl (o_box (k := 12) tabOk rfl rfl rfl rfl rfl ?_)
  intro b1
  refine g_op rfl (o_box (k := 13) tabOk rfl rfl rfl rfl rfl ?_)
  intro b2
  refine g_op rfl (ValOk.op (v_assign rfl rfl ?_)) 
  refine g_nil ?_
  refine hK1 _ ?_
  refine Good.le (σ' := ⟨46, [(2, _), (3, _), (4, _)], [(12, (_, _)), (13, (_, _))]⟩) (le_w [some 12, some 13] rfl ⟨⟨_, rfl, .refl _⟩, ⟨⟨_, rfl, .refl _⟩, ⟨⟨_, rfl, .refl _⟩, trivial⟩⟩⟩ ⟨⟨_, rfl, .refl _⟩, ⟨⟨_, rfl, .refl _⟩, trivial⟩⟩ (by decide)) ?_
  refine good_seq fun K2 hK2 => ?_
  refine good_seq fun K3 hK3 => ?_
  obtain ⟨o1, ho1, hJ1⟩ := bnd h
  have hw1 : ∀ (s1 : Bool), o1 = Lp.go s1 → ∀ σ', Le σ' ⟨46, [(2, .ptr 12 b1 0), (3, .ptr 13 b2 0), (4, .bool false), (26, .bool s1)], [(12, ((.pointer (some ⟨b1, 0, none⟩)), .optr 48 [.str a0.name, .sl false (a0.of_.map encTyp), .bool a0.must])), (13, ((.pointer (some ⟨b2, 0, none⟩)), .optr 48 [.str a1.name, .sl false (a1.of_.map encTyp), .bool a1.must]))]⟩ → K3 σ' := by
    intro s1 e1 σ' hle1
    subst e1
    refine hK3 _ (Good.le hle1 ?_)
    replace h := hJ1
    refine good_cond rfl (fun hc1 => ?_) (fun hc1 => ?_)
    · replace h := ifT h hc1
      refine good_seq fun K4 hK4 => ?_
      refine good_region ?_
      refine g_op rfl (ValOk.op (v_assign rfl rfl ?_)) 
      refine g_nil ?_
      refine hK4 _ ?_
      refine Good.le (σ' := ⟨46, [(2, _), (3, _), (4, _)], [(12, (_, _)), (13, (_, _))]⟩) (le_w [some 12, some 13] rfl ⟨⟨_, rfl, .refl _⟩, ⟨⟨_, rfl, .refl _⟩, ⟨⟨_, rfl, .refl _⟩, trivial⟩⟩⟩ ⟨⟨_, rfl, .refl _⟩, ⟨⟨_, rfl, .refl _⟩, trivial⟩⟩ (by decide)) ?_
      refine Good.le (σ' := ⟨46, [(4, .bool false)], []⟩) (le_w [] rfl ⟨⟨_, rfl, .refl _⟩, trivial⟩ trivial (by decide)) ?_
      refine good_ret ?_
      obtain rfl := Option.some.inj h
      refine thenQ_ret ?_
      exact endQ_ret (h' := []) [] (.tmp rfl (.nil)) trivial (by decide) ⟨rfl, rfl⟩
    · replace h := bF h hc1
      refine good_skip ?_
      refine hK2 _ ?_
      refine Good.le (σ' := ⟨46, [(2, _), (3, _), (4, _)], [(12, (_, _)), (13, (_, _))]⟩) (le_w [some 12, some 13] rfl ⟨⟨_, rfl, .refl _⟩, ⟨⟨_, rfl, .refl _⟩, ⟨⟨_, rfl, .refl _⟩, trivial⟩⟩⟩ ⟨⟨_, rfl, .refl _⟩, ⟨⟨_, rfl, .refl _⟩, trivial⟩⟩ (by decide)) ?_
      refine good_seq fun K5 hK5 => ?_
      refine good_seq fun K6 hK6 => ?_
      refine good_region ?_
      refine g_op rfl (ValOk.op (v_assign rfl rfl ?_)) 
      refine g_nil ?_
      refine hK6 _ ?_
      obtain ⟨o2, ho2, hJ2⟩ := bnd h
      have hw2 : ∀ (s2 : Unit), o2 = Lp.go s2 → ∀ σ', Le σ' ⟨46, [(4, .bool false)], []⟩ → K5 σ' := by
        intro s2 e2 σ' hle2
        subst e2
        refine hK5 _ (Good.le hle2 ?_)
        replace h := hJ2
        refine good_seq fun K7 hK7 => ?_
        refine good_region ?_
        refine g_op rfl (ValOk.op (v_assign rfl rfl ?_)) 
        refine g_nil ?_
        refine hK7 _ ?_
        refine Good.le (σ' := ⟨46, [(4, .bool true)], []⟩) (le_w [] rfl ⟨⟨_, rfl, .refl _⟩, trivial⟩ trivial (by decide)) ?_
        refine good_ret ?_
        obtain rfl := Option.some.inj h
        exact endQ_ret (h' := []) [] (.tmp rfl (.nil)) trivial (by decide) ⟨rfl, rfl⟩
      replace h := ho2
      refine good_block ?_
      refine good_loopf (fun p : Int => ⟨46, [(2, .ptr 12 b1 0), (3, .ptr 13 b2 0), (4, .bool false), (5, .int .i64 p)], [(12, ((.pointer (some ⟨b1, 0, none⟩)), .optr 48 [.str a0.name, .sl false (a0.of_.map encTyp), .bool a0.must])), (13, ((.pointer (some ⟨b2, 0, none⟩)), .optr 48 [.str a1.name, .sl false (a1.of_.map encTyp), .bool a1.must]))]⟩) (fun m p => m < k + 1 ∧ m_laws_pgType_l1 m a0 a1 p = some o2) k (0) (le_w [some 12, some 13] rfl ⟨⟨_, rfl, .refl _⟩, ⟨⟨_, rfl, .refl _⟩, ⟨⟨_, rfl, .refl _⟩, ⟨⟨_, rfl, .refl _⟩, trivial⟩⟩⟩⟩ ⟨⟨_, rfl, .refl _⟩, ⟨⟨_, rfl, .refl _⟩, trivial⟩⟩ (by decide)) ⟨by omega, h⟩ ?_
      rintro m1 x1 ⟨hm, h⟩
      replace h : m_laws_pgType_l1 m1 a0 a1 x1 = some o2 := h
      refine Good.le (σ' := ⟨46, [(2, .ptr 12 b1 0), (3, .ptr 13 b2 0), (4, .bool false), (5, .int .i64 x1)], [(12, ((.pointer (some ⟨b1, 0, none⟩)), .optr 48 [.str a0.name, .sl false (a0.of_.map encTyp), .bool a0.must])), (13, ((.pointer (some ⟨b2, 0, none⟩)), .optr 48 [.str a1.name, .sl false (a1.of_.map encTyp), .bool a1.must]))]⟩) (Le.refl _) ?_
      obtain ⟨m1, rfl⟩ : ∃ m', m1 = m' + 1 := by cases m1 with | zero => (rw [m_laws_pgType_l1] at h; cases h) | succ m' => exact ⟨m', rfl⟩
      rw [m_laws_pgType_l1] at h
      refine good_seq fun K8 hK8 => ?_
      refine good_seq fun K9 hK9 => ?_
      refine good_region ?_
      refine g_op rfl (ValOk.op (v_move rfl rfl ?_)) 
      refine g_op rfl (ValOk.op (v_fieldP tabOk rfl tfoff48_1 rfl ?_)) 
      refine g_op rfl (ValOk.op (v_loadP tabOk rfl rfl tsize46 tagg46 rfl rfl rfl rfl ?_)) 
      refine g_op rfl (ValOk.op (v_lenM (l := a0.of_) (f := encTyp) tabOk rfl rfl telem46 rfl ?_)) 
      refine g_op rfl (ValOk.op (v_bin rfl rfl rfl rfl ?_)) 
      refine g_nil ?_
      refine hK9 _ ?_
      refine Good.le (σ' := ⟨46, [(2, _), (3, _), (4, _), (5, _), (31, _)], [(12, (_, _)), (13, (_, _))]⟩) (le_w [some 12, some 13] rfl ⟨⟨_, rfl, .refl _⟩, ⟨⟨_, rfl, .refl _⟩, ⟨⟨_, rfl, .refl _⟩, ⟨⟨_, rfl, .refl _⟩, ⟨⟨_, rfl, .refl _⟩, trivial⟩⟩⟩⟩⟩ ⟨⟨_, rfl, .refl _⟩, ⟨⟨_, rfl, .refl _⟩, trivial⟩⟩ (by decide)) ?_
      refine good_cond rfl (fun hc2 => ?_) (fun hc2 => ?_)
      · replace h := ifT h (dT hc2)
        refine good_skip ?_
        refine hK8 _ ?_
        refine Good.le (σ' := ⟨46, [(2, _), (3, _), (4, _), (5, _)], [(12, (_, _)), (13, (_, _))]⟩) (le_w [some 12, some 13] rfl ⟨⟨_, rfl, .refl _⟩, ⟨⟨_, rfl, .refl _⟩, ⟨⟨_, rfl, .refl _⟩, ⟨⟨_, rfl, .refl _⟩, trivial⟩⟩⟩⟩ ⟨⟨_, rfl, .refl _⟩, ⟨⟨_, rfl, .refl _⟩, trivial⟩⟩ (by decide)) ?_
        refine good_seq fun K10 hK10 => ?_
        refine good_block ?_
        refine good_seq fun K11 hK11 => ?_
        refine good_draw (by kernel_rfl) (by kernel_rfl) ?_
        refine q_op rfl (v_fieldP tabOk rfl tfoff48_1 rfl ?_) 
        refine q_op rfl (v_loadP tabOk rfl rfl tsize46 tagg46 rfl rfl rfl rfl ?_) 
        refine q_op rfl (v_move rfl rfl ?_) 
        obtain ⟨hb1, h⟩ := ifS h
        refine q_op rfl (v_idxM tabOk rfl rfl telem46 tsize48 hb1 (encTyp_eq _) rfl rfl ?_) 
        refine q_op rfl (v_loadE tabOk rfl tsize48 tagg48 rfl rfl rfl ?_) 
        refine q_op rfl (v_fieldP tabOk rfl tfoff48_1 rfl ?_) 
        refine q_op rfl (v_loadP tabOk rfl rfl tsize46 tagg46 rfl rfl rfl rfl ?_) 
        refine q_op rfl (v_move rfl rfl ?_) 
        obtain ⟨hb2, h⟩ := ifS h
        refine q_op rfl (v_idxM tabOk rfl rfl telem46 tsize48 hb2 (encTyp_eq _) rfl rfl ?_) 
        refine q_op rfl (v_loadE tabOk rfl tsize48 tagg48 rfl rfl rfl ?_) 
        obtain ⟨y1, hy1, h⟩ := bnd h
        refine q_call [] [] (fun _ _ _ _ _ => wanted_none rfl _) (core_value rfl rfl) ((ih m1 (by omega)) (Typ.mk ((ix a0.of_ x1).name) ((ix a0.of_ x1).of_) ((ix a0.of_ x1).must)) (Typ.mk ((ix a1.of_ x1).name) ((ix a1.of_ x1).of_) ((ix a1.of_ x1).must)) _ hy1) trivial (.cons (.refl _) (.cons (.refl _) (.nil))) (.bool _) rfl ?_
        refine q_op rfl (v_not rfl rfl ?_) 
        refine q_nil ?_
        refine hK11 _ ?_
        refine Good.le (σ' := ⟨46, [(2, _), (3, _), (4, _), (5, _), (45, _)], [(12, (_, _)), (13, (_, _))]⟩) (le_w [some 12, some 13] rfl ⟨⟨_, rfl, .refl _⟩, ⟨⟨_, rfl, .refl _⟩, ⟨⟨_, rfl, .refl _⟩, ⟨⟨_, rfl, .refl _⟩, ⟨⟨_, rfl, .refl _⟩, trivial⟩⟩⟩⟩⟩ ⟨⟨_, rfl, .refl _⟩, ⟨⟨_, rfl, .refl _⟩, trivial⟩⟩ (by decide)) ?_
        refine good_cond rfl (fun hc3 => ?_) (fun hc3 => ?_)
        · replace h := bF h (nT hc3)
          refine good_seq fun K12 hK12 => ?_
          refine good_region ?_
          refine g_op rfl (ValOk.op (v_assign rfl rfl ?_)) 
          refine g_nil ?_
          refine hK12 _ ?_
          refine Good.le (σ' := ⟨46, [(2, _), (3, _), (4, _), (5, _)], [(12, (_, _)), (13, (_, _))]⟩) (le_w [some 12, some 13] rfl ⟨⟨_, rfl, .refl _⟩, ⟨⟨_, rfl, .refl _⟩, ⟨⟨_, rfl, .refl _⟩, ⟨⟨_, rfl, .refl _⟩, trivial⟩⟩⟩⟩ ⟨⟨_, rfl, .refl _⟩, ⟨⟨_, rfl, .refl _⟩, trivial⟩⟩ (by decide)) ?_
          refine Good.le (σ' := ⟨46, [(4, .bool false)], []⟩) (le_w [] rfl ⟨⟨_, rfl, .refl _⟩, trivial⟩ trivial (by decide)) ?_
          refine good_ret ?_
          replace h := unret h hJ2
          obtain rfl := Option.some.inj h
          refine blockQ_ret ?_
          refine thenQ_ret ?_
          refine thenQ_ret ?_
          refine blockQ_ret ?_
          refine thenQ_ret ?_
          exact endQ_ret (h' := []) [] (.tmp rfl (.nil)) trivial (by decide) ⟨rfl, rfl⟩
        · replace h := ifT h (nF hc3)
          refine good_skip ?_
          refine hK10 _ ?_
          refine Good.le (σ' := ⟨46, [(2, _), (3, _), (4, _), (5, _)], [(12, (_, _)), (13, (_, _))]⟩) (le_w [some 12, some 13] rfl ⟨⟨_, rfl, .refl _⟩, ⟨⟨_, rfl, .refl _⟩, ⟨⟨_, rfl, .refl _⟩, ⟨⟨_, rfl, .refl _⟩, trivial⟩⟩⟩⟩ ⟨⟨_, rfl, .refl _⟩, ⟨⟨_, rfl, .refl _⟩, trivial⟩⟩ (by decide)) ?_
          refine good_region ?_
          refine g_op rfl (ValOk.op (v_move rfl rfl ?_)) 
          refine g_op rfl (ValOk.op (v_bin rfl rfl rfl rfl ?_)) 
          refine g_op rfl (ValOk.op (v_assign rfl rfl ?_)) 
          refine g_nil ?_
          exact round_mk m1 (IntKind.wrap .i64 (x1 + 1)) (Nat.lt_succ_self _) ⟨by omega, h⟩ (le_w [some 12, some 13] rfl ⟨⟨_, rfl, .refl _⟩, ⟨⟨_, rfl, .refl _⟩, ⟨⟨_, rfl, .refl _⟩, ⟨⟨_, rfl, .refl _⟩, trivial⟩⟩⟩⟩ ⟨⟨_, rfl, .refl _⟩, ⟨⟨_, rfl, .refl _⟩, trivial⟩⟩ (by decide))
      · replace h := ifF h (dF hc2)
        refine good_exit ?_
        exact hw2 () (Option.some.inj h).symm _ (le_w [] rfl ⟨⟨_, rfl, .refl _⟩, trivial⟩ trivial (by decide))
  replace h := ho1
  refine good_region ?_
  refine g_op rfl (ValOk.op (v_fieldP tabOk rfl tfoff48_0 rfl ?_)) 
  refine g_op rfl (ValOk.op (v_loadP tabOk rfl rfl tsize9 tagg9 rfl rfl rfl rfl ?_)) 
  refine g_op rfl (ValOk.op (v_fieldP tabOk rfl tfoff48_0 rfl ?_)) 
  refine g_op rfl (ValOk.op (v_loadP tabOk rfl rfl tsize9 tagg9 rfl rfl rfl rfl ?_)) 
  refine g_op rfl (ValOk.op (v_bin rfl rfl rfl rfl ?_)) 
  refine g_op rfl (ValOk.op (v_move rfl rfl ?_)) 
  rcases bsplit ((!(decide (a0.name = a1.name)))) with hg1 | hg1
  · replace h := ifF h (ndT hg1)
    refine g_no rfl rfl hg1 rfl ?_
    refine g_no rfl rfl hg1 rfl ?_
    refine g_no rfl rfl hg1 rfl ?_
    refine g_no rfl rfl hg1 rfl ?_
    refine g_no rfl rfl hg1 rfl ?_
    refine g_op rfl (ValOk.op (v_pickT rfl hg1 rfl rfl ?_)) 
    refine g_op rfl (ValOk.op (v_move rfl rfl ?_)) 
    refine g_no rfl rfl rfl rfl ?_
    refine g_no rfl rfl rfl rfl ?_
    refine g_no rfl rfl rfl rfl ?_
    refine g_no rfl rfl rfl rfl ?_
    refine g_no rfl rfl rfl rfl ?_
    refine g_no rfl rfl rfl rfl ?_
    refine g_no rfl rfl rfl rfl ?_
    refine g_op rfl (ValOk.op (v_pickT rfl rfl rfl rfl ?_)) 
    refine g_nil ?_
    exact hw1 true (Option.some.inj h).symm _ (le_w [some 12, some 13] rfl ⟨⟨_, rfl, .refl _⟩, ⟨⟨_, rfl, .refl _⟩, ⟨⟨_, rfl, .refl _⟩, ⟨⟨_, rfl, .refl _⟩, trivial⟩⟩⟩⟩ ⟨⟨_, rfl, .refl _⟩, ⟨⟨_, rfl, .refl _⟩, trivial⟩⟩ (by decide))
  · replace h := ifT h (ndF hg1)
    refine g_yes rfl rfl hg1 (ValOk.op (v_fieldP tabOk rfl tfoff48_2 rfl ?_)) 
    refine g_yes rfl rfl hg1 (ValOk.op (v_loadP tabOk rfl rfl tsize4 tagg4 rfl rfl rfl rfl ?_)) 
    refine g_yes rfl rfl hg1 (ValOk.op (v_fieldP tabOk rfl tfoff48_2 rfl ?_)) 
    refine g_yes rfl rfl hg1 (ValOk.op (v_loadP tabOk rfl rfl tsize4 tagg4 rfl rfl rfl rfl ?_)) 
    refine g_yes rfl rfl hg1 (ValOk.op (v_binT tabOk (r := .bool (!decide (a0.must = a1.must))) rfl rfl (by simp [binT, eqr]) rfl ?_)) 
    refine g_op rfl (ValOk.op (v_pickF rfl hg1 rfl rfl ?_)) 
    refine g_op rfl (ValOk.op (v_move rfl rfl ?_)) 
    rcases bsplit ((!(decide (a0.must = a1.must)))) with hg2 | hg2
    · replace h := ifF h (ndT hg2)
      refine g_no rfl rfl hg2 rfl ?_
      refine g_no rfl rfl hg2 rfl ?_
      refine g_no rfl rfl hg2 rfl ?_
      refine g_no rfl rfl hg2 rfl ?_
      refine g_no rfl rfl hg2 rfl ?_
      refine g_no rfl rfl hg2 rfl ?_
      refine g_no rfl rfl hg2 rfl ?_
      refine g_op rfl (ValOk.op (v_pickT rfl hg2 rfl rfl ?_)) 
      refine g_nil ?_
      exact hw1 true (Option.some.inj h).symm _ (le_w [some 12, some 13] rfl ⟨⟨_, rfl, .refl _⟩, ⟨⟨_, rfl, .refl _⟩, ⟨⟨_, rfl, .refl _⟩, ⟨⟨_, rfl, .refl _⟩, trivial⟩⟩⟩⟩ ⟨⟨_, rfl, .refl _⟩, ⟨⟨_, rfl, .refl _⟩, trivial⟩⟩ (by decide))
    · replace h := ifT h (ndF hg2)
      refine g_yes rfl rfl hg2 (ValOk.op (v_fieldP tabOk rfl tfoff48_1 rfl ?_)) 
      refine g_yes rfl rfl hg2 (ValOk.op (v_loadP tabOk rfl rfl tsize46 tagg46 rfl rfl rfl rfl ?_)) 
      refine g_yes rfl rfl hg2 (ValOk.op (v_lenM (l := a0.of_) (f := encTyp) tabOk rfl rfl telem46 rfl ?_)) 
      refine g_yes rfl rfl hg2 (ValOk.op (v_fieldP tabOk rfl tfoff48_1 rfl ?_)) 
      refine g_yes rfl rfl hg2 (ValOk.op (v_loadP tabOk rfl rfl tsize46 tagg46 rfl rfl rfl rfl ?_)) 
      refine g_yes rfl rfl hg2 (ValOk.op (v_lenM (l := a1.of_) (f := encTyp) tabOk rfl rfl telem46 rfl ?_)) 
      refine g_yes rfl rfl hg2 (ValOk.op (v_bin rfl rfl rfl rfl ?_)) 
      refine g_op rfl (ValOk.op (v_pickF rfl hg2 rfl rfl ?_)) 
      refine g_nil ?_
      exact hw1 (!(decide ((a0.of_.length : Int) = (a1.of_.length : Int)))) (Option.some.inj h).symm _ (le_w [some 12, some 13] rfl ⟨⟨_, rfl, .refl _⟩, ⟨⟨_, rfl, .refl _⟩, ⟨⟨_, rfl, .refl _⟩, ⟨⟨_, rfl, .refl _⟩, trivial⟩⟩⟩⟩ ⟨⟨_, rfl, .refl _⟩, ⟨⟨_, rfl, .refl _⟩, trivial⟩⟩ (by decide))
theorem m_laws_pgType_all (k : Nat) : P_m_laws_pgType k := by
  induction k using Nat.strongRecOn with
  | _ k ih => exact m_laws_pgType_step k ih
theorem m_laws_pgType_ok (k : Nat) : ∀ (a0 : Typ) (a1 : Typ) (r : Bool), m_laws_pgType k a0 a1 = some r → Does Try.prog 39 [.agg [.str a0.name, .sl false (a0.of_.map encTyp), .bool a0.must], .agg [.str a1.name, .sl false (a1.of_.map encTyp), .bool a1.must]] [] (ret (.bool r)) := (m_laws_pgType_all k)
def m_spec_l13Cut (a0 : GL1Rd) (a1 : Bs) : Option (Bs × GL1Rd) :=
  (m_spec_l1Rd_pick a0 (IntKind.wrap .i64 ((a1.length : Int) + 1))).bind fun y1 =>
  (m_spec_l1Rd_pick y1.2 5).bind fun y2 =>
  if y2.1 = 0 then
    if (0 : Int) ≤ 0 ∧ (0 : Int) ≤ y1.1 ∧ y1.1 ≤ (a1.length : Int) then
      (m_spec_l1Rd_of y2.2 [[32], [44], [34], [123], [125], [48], [92], [120], [58], [36], [33], [10]]).bind fun y3 =>
      if ((sub a1 0 y1.1) ++ y3.1).length ≤ maxLen then
        if (0 : Int) ≤ y1.1 ∧ y1.1 ≤ (a1.length : Int) ∧ (a1.length : Int) ≤ (a1.length : Int) then
          if (((sub a1 0 y1.1) ++ y3.1) ++ (sub a1 y1.1 (a1.length : Int))).length ≤ maxLen then
            some (((sub a1 0 y1.1) ++ y3.1) ++ (sub a1 y1.1 (a1.length : Int)), y3.2)
          else none
        else none
      else none
    else none
  else
    if y2.1 = 1 then
      if (0 : Int) ≤ 0 ∧ (0 : Int) ≤ y1.1 ∧ y1.1 ≤ (a1.length : Int) then
        some (sub a1 0 y1.1, y2.2)
      else none
    else
      some (a1, y2.2)
theorem m_spec_l13Cut_ok : ∀ (a0 : GL1Rd) (a1 : Bs) (b0_0 : Nat) (r : (Bs × GL1Rd)), m_spec_l13Cut a0 a1 = some r → Does Try.prog 70 [.ptr 0 b0_0 0, .str a1] [(0, (.pointer (some ⟨b0_0, 0, none⟩), .optr 105 [.sl false (a0.b.map (encI .u8)), .int .i64 a0.p]))] (fun q h' => q = .str r.1 ∧ h' = [(0, (.pointer (some ⟨b0_0, 0, none⟩), .optr 105 [.sl false (r.2.b.map (encI .u8)), .int .i64 r.2.p]))]) := by
  intro a0 a1 b0_0 r h
  rw [m_spec_l13Cut] at h
  refine does_of_good tabOk Try.func70 rfl (by decide +kernel) (Nat.le_of_ble_eq_true rfl) fun c => ?_
  refine Good.le (σ' := ⟨32, [(0, .ptr 0 b0_0 0), (1, .str a1)], [(0, ((.pointer (some ⟨b0_0, 0, none⟩)), .optr 105 [.sl false (a0.b.map (encI .u8)), .int .i64 a0.p]))]⟩) (Le.refl _) ?_
  refine good_seq fun K1 hK1 => ?_
  refine good_region ?_
  refine g_op rfl (ValOk.op (v_assign rfl rfl ?_)) 
  refine g_nil ?_
  refine hK1 _ ?_
  refine good_seq fun K2 hK2 => ?_
  refine good_region ?_
  refine g_op rfl (ValOk.op (v_move rfl rfl ?_)) 
  refine g_op rfl (ValOk.op (v_move rfl rfl ?_)) 
  refine g_op rfl (ValOk.op (v_lenS tabOk rfl rfl tkind9 rfl ?_)) 
  refine g_op rfl (ValOk.op (v_bin rfl rfl rfl rfl ?_)) 
  obtain ⟨y1, hy1, h⟩ := bnd h
  refine g_op rfl (o_callP (q := 0) (core_value rfl rfl) (m_spec_l1Rd_pick_ok a0 (IntKind.wrap .i64 ((a1.length : Int) + 1)) b0_0 _ hy1) (.cons (.ptr _ _ _ _) (.cons (.refl _) (.nil))) rfl rfl ?_)
  refine g_op rfl (ValOk.op (v_assign rfl rfl ?_)) 
  refine g_nil ?_
  refine hK2 _ ?_
  refine Good.le (σ' := ⟨32, [(0, _), (1, _), (4, _), (5, _)], [(0, (_, _))]⟩) (le_w [some 0] rfl ⟨⟨_, rfl, .refl _⟩, ⟨⟨_, rfl, .refl _⟩, ⟨⟨_, rfl, .refl _⟩, ⟨⟨_, rfl, .refl _⟩, trivial⟩⟩⟩⟩ ⟨⟨_, rfl, .refl _⟩, trivial⟩ (by decide)) ?_
  refine good_seq fun K3 hK3 => ?_
  refine good_seq fun K4 hK4 => ?_
  refine good_region ?_
  refine g_op rfl (ValOk.op (v_move rfl rfl ?_)) 
  obtain ⟨y2, hy2, h⟩ := bnd h
  refine g_op rfl (o_callP (q := 0) (core_value rfl rfl) (m_spec_l1Rd_pick_ok y1.2 5 b0_0 _ hy2) (.cons (.ptr _ _ _ _) (.cons (.refl _) (.nil))) rfl rfl ?_)
  refine g_nil ?_
  refine hK4 _ ?_
  refine Good.le (σ' := ⟨32, [(0, _), (1, _), (4, _), (5, _), (12, _)], [(0, (_, _))]⟩) (le_w [some 0] rfl ⟨⟨_, rfl, .refl _⟩, ⟨⟨_, rfl, .refl _⟩, ⟨⟨_, rfl, .refl _⟩, ⟨⟨_, rfl, .refl _⟩, ⟨⟨_, rfl, .refl _⟩, trivial⟩⟩⟩⟩⟩ ⟨⟨_, rfl, .refl _⟩, trivial⟩ (by decide)) ?_
  refine good_block ?_
  refine good_seq fun K5 hK5 => ?_
  refine good_region ?_
  refine g_op rfl (ValOk.op (v_bin rfl rfl rfl rfl ?_)) 
  refine g_op rfl (ValOk.op (v_assign rfl rfl ?_)) 
  refine g_nil ?_
  refine hK5 _ ?_
  refine Good.le (σ' := ⟨32, [(0, _), (1, _), (4, _), (5, _), (12, _), (13, _)], [(0, (_, _))]⟩) (le_w [some 0] rfl ⟨⟨_, rfl, .refl _⟩, ⟨⟨_, rfl, .refl _⟩, ⟨⟨_, rfl, .refl _⟩, ⟨⟨_, rfl, .refl _⟩, ⟨⟨_, rfl, .refl _⟩, ⟨⟨_, rfl, .refl _⟩, trivial⟩⟩⟩⟩⟩⟩ ⟨⟨_, rfl, .refl _⟩, trivial⟩ (by decide)) ?_
  refine good_cond rfl (fun hc1 => ?_) (fun hc1 => ?_)
  · replace h := ifT h (dT hc1)
    refine good_seq fun K6 hK6 => ?_
    obtain ⟨hb1, h⟩ := ifS h
    obtain ⟨y3, hy3, h⟩ := bnd h
    obtain ⟨hb2, h⟩ := ifS h
    obtain ⟨hb3, h⟩ := ifS h
    obtain ⟨hb4, h⟩ := ifS h
    refine good_anyM (by kernel_rfl) [⟨[], [1], [], [], [], []⟩, ⟨[], [5], [], [], [], []⟩, ⟨[0, 1], [15, 16], [], [], [], []⟩, ⟨[], [0], [], [], [], []⟩, ⟨[], [], [], [], [], []⟩, ⟨[3, 4], [18, 19], [0], [0], [9001], []⟩, ⟨[0, 1, 2, 3, 4, 5], [17, 20], [], [], [], []⟩, ⟨[], [1], [], [], [], []⟩, ⟨[], [5], [], [], [], []⟩, ⟨[7, 8], [22, 23], [], [], [], []⟩, ⟨[0, 1, 2, 3, 4, 5, 6, 7, 8, 9], [21, 24], [], [], [], []⟩, ⟨[0, 1, 2, 3, 4, 5, 6, 7, 8, 9, 10], [25], [], [], [], []⟩] [some 15, some 16, some 17, some 18, some 19, some 20, some 21, some 22, some 23, some 24, some 25, some 4] 32 [(0, .ptr 0 b0_0 0), (1, .str a1), (4, .str []), (5, .int .i64 y1.1)] [(0, ((.pointer (some ⟨b0_0, 0, none⟩)), .optr 105 [.sl false (y2.2.b.map (encI .u8)), .int .i64 y2.2.p]))] (fun ν1 => [.str a1, .int .i64 y1.1, .str (sub a1 0 y1.1), .ptr 0 b0_0 0, .sl false ([[32], [44], [34], [123], [125], [48], [92], [120], [58], [36], [33], [10]].map encS), .str y3.1, .str ((sub a1 0 y1.1) ++ y3.1), .str a1, .int .i64 y1.1, .str (sub a1 y1.1 (a1.length : Int)), .str (((sub a1 0 y1.1) ++ y3.1) ++ (sub a1 y1.1 (a1.length : Int))), .str (((sub a1 0 y1.1) ++ y3.1) ++ (sub a1 y1.1 (a1.length : Int)))]) (fun ν1 => [(9001, ((.pointer (some ⟨b0_0, 0, none⟩)), .optr 105 [.sl false (y3.2.b.map (encI .u8)), .int .i64 y3.2.p]))]) [(9001, []), (0, [])] [9001] [some 9001] (fun ν1 => [(1, .str a1), (4, .str (((sub a1 0 y1.1) ++ y3.1) ++ (sub a1 y1.1 (a1.length : Int))))]) (fun ν1 => [(0, ((.pointer (some ⟨b0_0, 0, none⟩)), .optr 105 [.sl false (y3.2.b.map (encI .u8)), .int .i64 y3.2.p]))]) (le_w [some 0] rfl ⟨⟨_, rfl, .refl _⟩, ⟨⟨_, rfl, .refl _⟩, ⟨⟨_, rfl, .refl _⟩, ⟨⟨_, rfl, .refl _⟩, trivial⟩⟩⟩⟩ ⟨⟨_, rfl, .refl _⟩, trivial⟩ (by decide)) (by kernel_rfl) ⟨?_, ⟨?_, ⟨?_, ⟨?_, ⟨?_, ⟨?_, ⟨?_, ⟨?_, ⟨?_, ⟨?_, ⟨?_, ⟨?_, trivial⟩⟩⟩⟩⟩⟩⟩⟩⟩⟩⟩⟩ ⟨fun _ _ _ => rfl, ⟨fun _ _ _ => rfl, ⟨fun _ _ _ => rfl, ⟨fun _ _ _ => rfl, ⟨fun _ _ _ => rfl, ⟨fun _ _ _ => rfl, ⟨fun _ _ _ => rfl, ⟨fun _ _ _ => rfl, ⟨fun _ _ _ => rfl, ⟨fun _ _ _ => rfl, ⟨fun _ _ _ => rfl, ⟨fun _ _ _ => rfl, trivial⟩⟩⟩⟩⟩⟩⟩⟩⟩⟩⟩⟩ ⟨fun _ _ _ => rfl, ⟨fun _ _ _ => rfl, trivial⟩⟩ (fun _ => rfl) (fun _ => rfl) (by kernel_rfl) (fun _ => ⟨⟨_, rfl, .refl _⟩, ⟨⟨_, rfl, .refl _⟩, trivial⟩⟩) (fun _ => ⟨⟨_, rfl, .refl _⟩, trivial⟩) (by kernel_rfl) (by decide) ?_
    · refine local_mk (fun ν1 => [(1, .str a1)]) (fun ν1 => []) (fun _ => rfl) (fun _ => ⟨⟨_, rfl, .refl _, .refl _⟩, trivial⟩) (fun _ => rfl) (fun _ => trivial) ?_
      intro ν1 S H hS hfr
      refine st_op rfl (ValOk.op (v_move rfl rfl ?_)) 
      exact lp_v hS rfl rfl (fun _ => rfl)
    · refine local_mk (fun ν1 => [(5, .int .i64 y1.1)]) (fun ν1 => []) (fun _ => rfl) (fun _ => ⟨⟨_, rfl, .refl _, .refl _⟩, trivial⟩) (fun _ => rfl) (fun _ => trivial) ?_
      intro ν1 S H hS hfr
      refine st_op rfl (ValOk.op (v_move rfl rfl ?_)) 
      exact lp_v hS rfl rfl (fun _ => rfl)
    · refine local_mk (fun ν1 => [(15, .str a1), (16, .int .i64 y1.1)]) (fun ν1 => []) (fun _ => rfl) (fun _ => ⟨⟨_, rfl, .refl _, .refl _⟩, ⟨⟨_, rfl, .refl _, .refl _⟩, trivial⟩⟩) (fun _ => rfl) (fun _ => trivial) ?_
      intro ν1 S H hS hfr
      refine st_op rfl (ValOk.op (v_sliceSM tabOk rfl rfl rfl rfl tkind9 hb1 rfl ?_)) 
      exact lp_v hS rfl rfl (fun _ => rfl)
    · refine local_mk (fun ν1 => [(0, .ptr 0 b0_0 0)]) (fun ν1 => []) (fun _ => rfl) (fun _ => ⟨⟨_, rfl, .refl _, .refl _⟩, trivial⟩) (fun _ => rfl) (fun _ => trivial) ?_
      intro ν1 S H hS hfr
      refine st_op rfl (ValOk.op (v_move rfl rfl ?_)) 
      exact lp_v hS rfl rfl (fun _ => rfl)
    · refine local_mk (fun ν1 => []) (fun ν1 => []) (fun _ => rfl) (fun _ => trivial) (fun _ => rfl) (fun _ => trivial) ?_
      intro ν1 S H hS hfr
      obtain ⟨kf, hkf⟩ := exists_fresh ([] ++ H)
      refine st_op rfl (o_buildSlice (k := kf) (rows := [[32], [44], [34], [123], [125], [48], [92], [120], [58], [36], [33], [10]].map encS) tabOk telem23 tsize9 rfl rfl rfl rfl (by decide) (by decide) (by rw [tzero9]; rfl) rfl rfl rfl hkf rfl ?_)
      intro w
      exact lp_fn hS rfl rfl hkf (FrzLL.map fun _ _ => encS_frz _) (fun _ => rfl)
    · refine local_mk (fun ν1 => [(18, .ptr 0 b0_0 0), (19, .sl false ([[32], [44], [34], [123], [125], [48], [92], [120], [58], [36], [33], [10]].map encS))]) (fun ν1 => [(0, ((.pointer (some ⟨b0_0, 0, none⟩)), .optr 105 [.sl false (y2.2.b.map (encI .u8)), .int .i64 y2.2.p]))]) (fun _ => rfl) (fun _ => ⟨⟨_, rfl, .refl _, .refl _⟩, ⟨⟨_, rfl, .refl _, .refl _⟩, trivial⟩⟩) (fun _ => rfl) (fun _ => ⟨rfl, trivial⟩) ?_
      intro ν1 S H hS hfr
      refine st_op rfl (o_callP (q := 0) (core_value rfl rfl) (m_spec_l1Rd_of_ok y2.2 [[32], [44], [34], [123], [125], [48], [92], [120], [58], [36], [33], [10]] b0_0 _ hy3) (.cons (.ptr _ _ _ _) (.cons (.refl _) (.nil))) rfl rfl ?_)
      exact lp_m (k := 9001) hS rfl rfl (.inr (by decide)) (fun _ => rfl) rfl
    · refine local_mk (fun ν1 => [(17, .str (sub a1 0 y1.1)), (20, .str y3.1)]) (fun ν1 => []) (fun _ => rfl) (fun _ => ⟨⟨_, rfl, .refl _, .refl _⟩, ⟨⟨_, rfl, .refl _, .refl _⟩, trivial⟩⟩) (fun _ => rfl) (fun _ => trivial) ?_
      intro ν1 S H hS hfr
      refine st_op rfl (ValOk.op (v_cat rfl rfl hb2 rfl ?_)) 
      exact lp_v hS rfl rfl (fun _ => rfl)
    · refine local_mk (fun ν1 => [(1, .str a1)]) (fun ν1 => []) (fun _ => rfl) (fun _ => ⟨⟨_, rfl, .refl _, .refl _⟩, trivial⟩) (fun _ => rfl) (fun _ => trivial) ?_
      intro ν1 S H hS hfr
      refine st_op rfl (ValOk.op (v_move rfl rfl ?_)) 
      exact lp_v hS rfl rfl (fun _ => rfl)
    · refine local_mk (fun ν1 => [(5, .int .i64 y1.1)]) (fun ν1 => []) (fun _ => rfl) (fun _ => ⟨⟨_, rfl, .refl _, .refl _⟩, trivial⟩) (fun _ => rfl) (fun _ => trivial) ?_
      intro ν1 S H hS hfr
      refine st_op rfl (ValOk.op (v_move rfl rfl ?_)) 
      exact lp_v hS rfl rfl (fun _ => rfl)
    · refine local_mk (fun ν1 => [(22, .str a1), (23, .int .i64 y1.1)]) (fun ν1 => []) (fun _ => rfl) (fun _ => ⟨⟨_, rfl, .refl _, .refl _⟩, ⟨⟨_, rfl, .refl _, .refl _⟩, trivial⟩⟩) (fun _ => rfl) (fun _ => trivial) ?_
      intro ν1 S H hS hfr
      refine st_op rfl (ValOk.op (v_sliceSM tabOk rfl rfl rfl rfl tkind9 hb3 rfl ?_)) 
      exact lp_v hS rfl rfl (fun _ => rfl)
    · refine local_mk (fun ν1 => [(21, .str ((sub a1 0 y1.1) ++ y3.1)), (24, .str (sub a1 y1.1 (a1.length : Int)))]) (fun ν1 => []) (fun _ => rfl) (fun _ => ⟨⟨_, rfl, .refl _, .refl _⟩, ⟨⟨_, rfl, .refl _, .refl _⟩, trivial⟩⟩) (fun _ => rfl) (fun _ => trivial) ?_
      intro ν1 S H hS hfr
      refine st_op rfl (ValOk.op (v_cat rfl rfl hb4 rfl ?_)) 
      exact lp_v hS rfl rfl (fun _ => rfl)
    · refine local_mk (fun ν1 => [(25, .str (((sub a1 0 y1.1) ++ y3.1) ++ (sub a1 y1.1 (a1.length : Int))))]) (fun ν1 => []) (fun _ => rfl) (fun _ => ⟨⟨_, rfl, .refl _, .refl _⟩, trivial⟩) (fun _ => rfl) (fun _ => trivial) ?_
      intro ν1 S H hS hfr
      refine st_op rfl (ValOk.op (v_assign rfl rfl ?_)) 
      exact lp_v hS rfl rfl (fun _ => rfl)
    intro ν1
    refine hK6 _ ?_
    refine Good.le (σ' := ⟨32, [(4, .str (((sub a1 0 y1.1) ++ y3.1) ++ (sub a1 y1.1 (a1.length : Int))))], [(0, ((.pointer (some ⟨b0_0, 0, none⟩)), .optr 105 [.sl false (y3.2.b.map (encI .u8)), .int .i64 y3.2.p]))]⟩) (le_w [some 0] rfl ⟨⟨_, rfl, .refl _⟩, trivial⟩ ⟨⟨_, rfl, .refl _⟩, trivial⟩ (by decide)) ?_
    refine good_ret ?_
    obtain rfl := Option.some.inj h
    refine blockQ_ret ?_
    refine thenQ_ret ?_
    exact endQ_ret (h' := [(0, (_, _))]) [some 0] (.tmp rfl (.nil)) ⟨⟨_, rfl, .refl _⟩, trivial⟩ (by decide) ⟨rfl, rfl⟩
  · replace h := ifF h (dF hc1)
    refine good_seq fun K7 hK7 => ?_
    refine good_region ?_
    refine g_op rfl (ValOk.op (v_bin rfl rfl rfl rfl ?_)) 
    refine g_op rfl (ValOk.op (v_assign rfl rfl ?_)) 
    refine g_nil ?_
    refine hK7 _ ?_
    refine Good.le (σ' := ⟨32, [(1, _), (4, _), (5, _), (26, _)], [(0, (_, _))]⟩) (le_w [some 0] rfl ⟨⟨_, rfl, .refl _⟩, ⟨⟨_, rfl, .refl _⟩, ⟨⟨_, rfl, .refl _⟩, ⟨⟨_, rfl, .refl _⟩, trivial⟩⟩⟩⟩ ⟨⟨_, rfl, .refl _⟩, trivial⟩ (by decide)) ?_
    refine good_cond rfl (fun hc2 => ?_) (fun hc2 => ?_)
    · replace h := ifT h (dT hc2)
      refine good_seq fun K8 hK8 => ?_
      refine good_region ?_
      refine g_op rfl (ValOk.op (v_move rfl rfl ?_)) 
      refine g_op rfl (ValOk.op (v_move rfl rfl ?_)) 
      obtain ⟨hb5, h⟩ := ifS h
      refine g_op rfl (ValOk.op (v_sliceSM tabOk rfl rfl rfl rfl tkind9 hb5 rfl ?_)) 
      refine g_op rfl (ValOk.op (v_assign rfl rfl ?_)) 
      refine g_nil ?_
      refine hK8 _ ?_
      refine Good.le (σ' := ⟨32, [(1, _), (4, _)], [(0, (_, _))]⟩) (le_w [some 0] rfl ⟨⟨_, rfl, .refl _⟩, ⟨⟨_, rfl, .refl _⟩, trivial⟩⟩ ⟨⟨_, rfl, .refl _⟩, trivial⟩ (by decide)) ?_
      refine Good.le (σ' := ⟨32, [(4, .str (sub a1 0 y1.1))], [(0, ((.pointer (some ⟨b0_0, 0, none⟩)), .optr 105 [.sl false (y2.2.b.map (encI .u8)), .int .i64 y2.2.p]))]⟩) (le_w [some 0] rfl ⟨⟨_, rfl, .refl _⟩, trivial⟩ ⟨⟨_, rfl, .refl _⟩, trivial⟩ (by decide)) ?_
      refine good_ret ?_
      obtain rfl := Option.some.inj h
      refine blockQ_ret ?_
      refine thenQ_ret ?_
      exact endQ_ret (h' := [(0, (_, _))]) [some 0] (.tmp rfl (.nil)) ⟨⟨_, rfl, .refl _⟩, trivial⟩ (by decide) ⟨rfl, rfl⟩
    · replace h := ifF h (dF hc2)
      refine good_skip ?_
      refine hK3 _ ?_
      refine Good.le (σ' := ⟨32, [(1, _), (4, _)], [(0, (_, _))]⟩) (le_w [some 0] rfl ⟨⟨_, rfl, .refl _⟩, ⟨⟨_, rfl, .refl _⟩, trivial⟩⟩ ⟨⟨_, rfl, .refl _⟩, trivial⟩ (by decide)) ?_
      refine good_seq fun K9 hK9 => ?_
      refine good_region ?_
      refine g_op rfl (ValOk.op (v_move rfl rfl ?_)) 
      refine g_op rfl (ValOk.op (v_assign rfl rfl ?_)) 
      refine g_nil ?_
      refine hK9 _ ?_
      refine Good.le (σ' := ⟨32, [(4, _)], [(0, (_, _))]⟩) (le_w [some 0] rfl ⟨⟨_, rfl, .refl _⟩, trivial⟩ ⟨⟨_, rfl, .refl _⟩, trivial⟩ (by decide)) ?_
      refine Good.le (σ' := ⟨32, [(4, .str a1)], [(0, ((.pointer (some ⟨b0_0, 0, none⟩)), .optr 105 [.sl false (y2.2.b.map (encI .u8)), .int .i64 y2.2.p]))]⟩) (le_w [some 0] rfl ⟨⟨_, rfl, .refl _⟩, trivial⟩ ⟨⟨_, rfl, .refl _⟩, trivial⟩ (by decide)) ?_
      refine good_ret ?_
      obtain rfl := Option.some.inj h
      exact endQ_ret (h' := [(0, (_, _))]) [some 0] (.tmp rfl (.nil)) ⟨⟨_, rfl, .refl _⟩, trivial⟩ (by decide) ⟨rfl, rfl⟩
def m_spec_DrawTypeGet (k : Nat) (a0 : (List Int)) : Option Bs :=
  (m_spec_l1Open a0).bind fun y1 =>
  (m_spec_l13Type k y1 [[73, 110, 116], [65], [84, 104, 105, 110, 103]]).bind fun y2 =>
  (m_spec_l2Put k y2.1).bind fun y3 =>
  (m_spec_l13Cut y2.2 y3).bind fun y4 =>
  some y4.1
theorem m_spec_DrawTypeGet_ok (k : Nat) : ∀ (a0 : (List Int)) (r : Bs), m_spec_DrawTypeGet k a0 = some r → Does Try.prog 40 [.sl false (a0.map (encI .u8))] [] (ret (.str r)) := by
  intro a0 r h
  rw [m_spec_DrawTypeGet] at h
  refine does_of_good tabOk Try.func40 rfl (by decide +kernel) (Nat.le_of_ble_eq_true rfl) fun c => ?_
  refine Good.le (σ' := ⟨12, [(0, .sl false (a0.map (encI .u8)))], []⟩) (Le.refl _) ?_
  refine good_seq fun K1 hK1 => ?_
  refine good_region ?_
  refine g_op rfl (ValOk.op (v_assign rfl rfl ?_)) 
  refine g_nil ?_
  refine hK1 _ ?_
  refine good_seq fun K2 hK2 => ?_
  refine good_region ?_
  refine g_op rfl (ValOk.op (v_move rfl rfl ?_)) 
  obtain ⟨y1, hy1, h⟩ := bnd h
  refine g_op rfl (o_callD [] [] [] (core_value rfl rfl) (m_spec_l1Open_ok a0 _ hy1) trivial (.cons (.refl _) (.nil)) trivial rfl rfl rfl ?_)
  rintro _ _ ⟨b1, rfl, rfl⟩
  refine ⟨.ptr 3001 b1 0, [(3001, _)], .ptr _ _ _ _, rfl, rfl, rfl, rfl, .inl rfl, ?_⟩
  refine g_op rfl (ValOk.op (v_assign rfl rfl ?_)) 
  refine g_nil ?_
  refine hK2 _ ?_
  refine Good.le (σ' := ⟨12, [(2, _), (3, _)], [(3001, (_, _))]⟩) (le_w [some 3001] rfl ⟨⟨_, rfl, .refl _⟩, ⟨⟨_, rfl, .refl _⟩, trivial⟩⟩ ⟨⟨_, rfl, .refl _⟩, trivial⟩ (by decide)) ?_
  refine good_seq fun K3 hK3 => ?_
  refine good_region ?_
  refine g_op rfl (ValOk.op (v_move rfl rfl ?_)) 
  refine g_op rfl (ValOk.op (v_move rfl rfl ?_)) 
  refine g_op rfl (o_buildSlice (k := 18) (rows := [[73, 110, 116], [65], [84, 104, 105, 110, 103]].map encS) tabOk telem23 tsize9 rfl rfl rfl rfl (by decide) (by decide) (by rw [tzero9]; rfl) rfl rfl rfl rfl rfl ?_)
  intro w1
  refine g_le (σ1 := ⟨12, [(2, .str []), (6, .ptr 3001 b1 0), (7, .ptr 3001 b1 0), (8, .sl false ([[73, 110, 116], [65], [84, 104, 105, 110, 103]].map encS))], [(3001, ((.pointer (some ⟨b1, 0, none⟩)), .optr 105 [.sl false (y1.b.map (encI .u8)), .int .i64 y1.p]))]⟩) (le_of [18] [(_, _)] [some 3001] rfl ⟨⟨_, rfl, .osl (FrzLL.map fun _ _ => encS_frz _)⟩, trivial⟩ ⟨⟨_, rfl, .refl _⟩, ⟨⟨_, rfl, .refl _⟩, ⟨⟨_, rfl, .refl _⟩, ⟨⟨_, rfl, .frz _ _ _ (.head _)⟩, trivial⟩⟩⟩⟩ ⟨⟨_, rfl, .refl _⟩, trivial⟩ (by decide) (by decide)) ?_
  obtain ⟨y2, hy2, h⟩ := bnd h
  refine g_op rfl (o_callD [] [] [3001] (core_value rfl rfl) (m_spec_l13Type_ok k y1 [[73, 110, 116], [65], [84, 104, 105, 110, 103]] b1 _ hy2) trivial (.cons (.ptr _ _ _ _) (.cons (.refl _) (.nil))) ⟨rfl, trivial⟩ rfl rfl rfl ?_)
  rintro _ _ ⟨w2, rfl, rfl⟩
  refine ⟨.agg [.str y2.1.name, .hd 3002 w2, .bool y2.1.must], [(3001, _), (3002, _)], .agg (.cons (.refl _) (.cons (.hd _ _ _) (.cons (.refl _) (.nil)))), rfl, rfl, rfl, rfl, .inl rfl, ?_⟩
  obtain ⟨y3, hy3, h⟩ := bnd h
  refine g_op rfl (o_callR [3002] [(_, _)] (core_value rfl rfl) (m_spec_l2Put_ok k y2.1 _ hy3) ⟨⟨_, rfl, .osl (FrzLL.map fun _ _ => encOTyp_frz _)⟩, trivial⟩ (.cons (.agg (.cons (.refl _) (.cons (.frz _ _ _ (.head _)) (.cons (.refl _) (.nil))))) (.nil)) (.inr (.str _)) rfl ?_)
  obtain ⟨y4, hy4, h⟩ := bnd h
  refine g_op rfl (o_callP (q := 3001) (core_value rfl rfl) (m_spec_l13Cut_ok y2.2 y3 b1 _ hy4) (.cons (.ptr _ _ _ _) (.cons (.refl _) (.nil))) rfl rfl ?_)
  refine g_op rfl (ValOk.op (v_assign rfl rfl ?_)) 
  refine g_nil ?_
  refine hK3 _ ?_
  refine Good.le (σ' := ⟨12, [(2, _)], []⟩) (le_w [] rfl ⟨⟨_, rfl, .refl _⟩, trivial⟩ trivial (by decide)) ?_
  refine Good.le (σ' := ⟨12, [(2, .str y4.1)], []⟩) (le_w [] rfl ⟨⟨_, rfl, .refl _⟩, trivial⟩ trivial (by decide)) ?_
  refine good_ret ?_
  obtain rfl := Option.some.inj h
  exact endQ_ret (h' := []) [] (.tmp rfl (.nil)) trivial (by decide) ⟨rfl, rfl⟩
end Go.Proofs.Ytopbbjoflopjbaa
