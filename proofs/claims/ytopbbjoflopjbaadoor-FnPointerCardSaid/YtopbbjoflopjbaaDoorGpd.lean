/- What functions of this program answer, as plain functions; each theorem says that the code comes to just that. -/
import Derived.Test.YtopbbjoflopjbaaDoorDat
import Derived.Test.YtopbbjoflopjbaaDoorB13
import Derived.Test.YtopbbjoflopjbaaDoorDatO
import Derived.Test.YtopbbjoflopjbaaDoorB18
import Derived.Test.YtopbbjoflopjbaaDoorB20
import Derived.Test.YtopbbjoflopjbaaDoorGsp
import Derived.Test.YtopbbjoflopjbaaDoorGpi
import Derived.Test.YtopbbjoflopjbaaDoorGpg
/-! Functions of the program. -/
set_option linter.unusedVariables false
set_option maxRecDepth 100000
set_option maxHeartbeats 20000000
namespace Go.Proofs.YtopbbjoflopjbaaDoor
open Go.Bb
def m_spec_l1Rd_pick (a0 : GL1Rd) (a1 : Int) : Option (Int × GL1Rd) :=
  (if a1 < 1 then
      some (Lp.go true)
    else
      some (Lp.go (decide ((a0.b.length : Int) = 0)))).bind fun o1 =>
  o1.then fun s1 =>
    if s1 = true then
      some (0, (GL1Rd.mk a0.b (IntKind.wrap .i64 (a0.p + 1))))
    else
      if (IntKind.wrap .i64 ((IntKind.wrap .i64 (a0.p + 1)) - 1)) < (a0.b.length : Int) then
        if (0 : Int) ≤ (IntKind.wrap .i64 ((IntKind.wrap .i64 (a0.p + 1)) - 1)) ∧ (IntKind.wrap .i64 ((IntKind.wrap .i64 (a0.p + 1)) - 1)) < (a0.b.length : Int) then
          if a1 ≠ 0 then
            some (Int.tmod (IntKind.wrap .i64 (ix a0.b (IntKind.wrap .i64 ((IntKind.wrap .i64 (a0.p + 1)) - 1)))) a1, (GL1Rd.mk a0.b (IntKind.wrap .i64 (a0.p + 1))))
          else none
        else none
      else
        if (a0.b.length : Int) ≠ 0 then
          if (0 : Int) ≤ (Int.tmod (IntKind.wrap .i64 ((IntKind.wrap .i64 (a0.p + 1)) - 1)) (a0.b.length : Int)) ∧ (Int.tmod (IntKind.wrap .i64 ((IntKind.wrap .i64 (a0.p + 1)) - 1)) (a0.b.length : Int)) < (a0.b.length : Int) then
            if (a0.b.length : Int) ≠ 0 then
              if (0 : Int) ≤ (Int.tmod (IntKind.wrap .i64 ((IntKind.wrap .i64 ((IntKind.wrap .i64 ((IntKind.wrap .i64 (a0.p + 1)) - 1)) * 7)) + 3)) (a0.b.length : Int)) ∧ (Int.tmod (IntKind.wrap .i64 ((IntKind.wrap .i64 ((IntKind.wrap .i64 ((IntKind.wrap .i64 (a0.p + 1)) - 1)) * 7)) + 3)) (a0.b.length : Int)) < (a0.b.length : Int) then
                if (a0.b.length : Int) ≠ 0 then
                  if a1 ≠ 0 then
                    some (Int.tmod (bitsI .xor .i64 (IntKind.wrap .i64 ((IntKind.wrap .i64 ((IntKind.wrap .i64 ((IntKind.wrap .i64 ((IntKind.wrap .i64 (ix a0.b (Int.tmod (IntKind.wrap .i64 ((IntKind.wrap .i64 (a0.p + 1)) - 1)) (a0.b.length : Int)))) * 131)) + (IntKind.wrap .i64 ((IntKind.wrap .i64 (ix a0.b (Int.tmod (IntKind.wrap .i64 ((IntKind.wrap .i64 ((IntKind.wrap .i64 ((IntKind.wrap .i64 (a0.p + 1)) - 1)) * 7)) + 3)) (a0.b.length : Int)))) * 1117)))) + (IntKind.wrap .i64 ((IntKind.wrap .i64 ((IntKind.wrap .i64 (a0.p + 1)) - 1)) * 29)))) + (IntKind.wrap .i64 ((IntKind.wrap .i64 (Int.tdiv (IntKind.wrap .i64 ((IntKind.wrap .i64 (a0.p + 1)) - 1)) (a0.b.length : Int))) * 53)))) (IntKind.wrap .i64 (Int.tdiv (IntKind.wrap .i64 ((IntKind.wrap .i64 ((IntKind.wrap .i64 ((IntKind.wrap .i64 ((IntKind.wrap .i64 (ix a0.b (Int.tmod (IntKind.wrap .i64 ((IntKind.wrap .i64 (a0.p + 1)) - 1)) (a0.b.length : Int)))) * 131)) + (IntKind.wrap .i64 ((IntKind.wrap .i64 (ix a0.b (Int.tmod (IntKind.wrap .i64 ((IntKind.wrap .i64 ((IntKind.wrap .i64 ((IntKind.wrap .i64 (a0.p + 1)) - 1)) * 7)) + 3)) (a0.b.length : Int)))) * 1117)))) + (IntKind.wrap .i64 ((IntKind.wrap .i64 ((IntKind.wrap .i64 (a0.p + 1)) - 1)) * 29)))) + (IntKind.wrap .i64 ((IntKind.wrap .i64 (Int.tdiv (IntKind.wrap .i64 ((IntKind.wrap .i64 (a0.p + 1)) - 1)) (a0.b.length : Int))) * 53)))) 64))) a1, (GL1Rd.mk a0.b (IntKind.wrap .i64 (a0.p + 1))))
                  else none
                else none
              else none
            else none
          else none
        else none
theorem m_spec_l1Rd_pick_ok : ∀ (a0 : GL1Rd) (a1 : Int) (b0_0 : Nat) (r : (Int × GL1Rd)), m_spec_l1Rd_pick a0 a1 = some r → Does Tryd.prog 32 [.ptr 0 b0_0 0, .int .i64 a1] [(0, (.pointer (some ⟨b0_0, 0, none⟩), .optr 73 [.sl false (a0.b.map (encI .u8)), .int .i64 a0.p]))] (fun q h' => q = .int .i64 r.1 ∧ h' = [(0, (.pointer (some ⟨b0_0, 0, none⟩), .optr 73 [.sl false (r.2.b.map (encI .u8)), .int .i64 r.2.p]))]) := by
  intro a0 a1 b0_0 r h
  rw [m_spec_l1Rd_pick] at h
  refine does_of_good tabOk Tryd.func32 rfl (by decide +kernel) (Nat.le_of_ble_eq_true rfl) fun c => ?_
  refine Good.le (σ' := ⟨99, [(0, .ptr 0 b0_0 0), (1, .int .i64 a1)], [(0, ((.pointer (some ⟨b0_0, 0, none⟩)), .optr 73 [.sl false (a0.b.map (encI .u8)), .int .i64 a0.p]))]⟩) (Le.refl _) ?_
  refine good_seq fun K1 hK1 => ?_
  refine good_region ?_
  refine g_op rfl (ValOk.op (v_assign rfl rfl ?_)) 
  refine g_nil ?_
  refine hK1 _ ?_
  refine good_seq fun K2 hK2 => ?_
  refine good_region ?_
  refine g_op rfl (ValOk.op (v_move rfl rfl ?_)) 
  refine g_op rfl (ValOk.op (v_move rfl rfl ?_)) 
  refine g_op rfl (ValOk.op (v_nilP rfl rfl ?_)) 
  refine g_op rfl (ValOk.op (v_fieldP tabOk rfl tfoff73_1 rfl ?_)) 
  refine g_op rfl (ValOk.op (v_loadP tabOk rfl rfl tsize3 tagg3 rfl rfl rfl rfl ?_)) 
  refine g_op rfl (ValOk.op (v_bin rfl rfl rfl rfl ?_)) 
  refine g_op rfl (ValOk.op (v_nilP rfl rfl ?_)) 
  refine g_op rfl (ValOk.op (v_fieldP tabOk rfl tfoff73_1 rfl ?_)) 
  refine g_op rfl (o_storeP tabOk (cs' := [.sl false (a0.b.map (encI .u8)), .int .i64 (IntKind.wrap .i64 (a0.p + 1))]) rfl rfl tsize3 rfl rfl rfl (Nat.le_of_ble_eq_true rfl) rfl rfl rfl ?_)
  refine g_nil ?_
  refine hK2 _ ?_
  refine Good.le (σ' := ⟨99, [(0, _), (1, _), (4, _)], [(0, (_, _))]⟩) (le_w [some 0] rfl ⟨⟨_, rfl, .refl _⟩, ⟨⟨_, rfl, .refl _⟩, ⟨⟨_, rfl, .refl _⟩, trivial⟩⟩⟩ ⟨⟨_, rfl, .refl _⟩, trivial⟩ (by decide)) ?_
  refine good_seq fun K3 hK3 => ?_
  refine good_seq fun K4 hK4 => ?_
  obtain ⟨o1, ho1, hJ1⟩ := bnd h
  have hw1 : ∀ (s1 : Bool), o1 = Lp.go s1 → ∀ σ', Le σ' ⟨99, [(0, .ptr 0 b0_0 0), (1, .int .i64 a1), (4, .int .i64 0), (24, .bool s1)], [(0, ((.pointer (some ⟨b0_0, 0, none⟩)), .optr 73 [.sl false (a0.b.map (encI .u8)), .int .i64 (IntKind.wrap .i64 (a0.p + 1))]))]⟩ → K4 σ' := by
    intro s1 e1 σ' hle1
    subst e1
    refine hK4 _ (Good.le hle1 ?_)
    replace h := hJ1
    refine good_cond rfl (fun hc1 => ?_) (fun hc1 => ?_)
    · replace h := ifT h hc1
      refine good_seq fun K5 hK5 => ?_
      refine good_region ?_
      refine g_op rfl (ValOk.op (v_assign rfl rfl ?_)) 
      refine g_nil ?_
      refine hK5 _ ?_
      refine Good.le (σ' := ⟨99, [(0, _), (1, _), (4, _)], [(0, (_, _))]⟩) (le_w [some 0] rfl ⟨⟨_, rfl, .refl _⟩, ⟨⟨_, rfl, .refl _⟩, ⟨⟨_, rfl, .refl _⟩, trivial⟩⟩⟩ ⟨⟨_, rfl, .refl _⟩, trivial⟩ (by decide)) ?_
      refine Good.le (σ' := ⟨99, [(4, .int .i64 0)], [(0, ((.pointer (some ⟨b0_0, 0, none⟩)), .optr 73 [.sl false (a0.b.map (encI .u8)), .int .i64 (IntKind.wrap .i64 (a0.p + 1))]))]⟩) (le_w [some 0] rfl ⟨⟨_, rfl, .refl _⟩, trivial⟩ ⟨⟨_, rfl, .refl _⟩, trivial⟩ (by decide)) ?_
      refine good_ret ?_
      obtain rfl := Option.some.inj h
      refine thenQ_ret ?_
      exact endQ_ret (h' := [(0, (_, _))]) [some 0] (.tmp rfl (.nil)) ⟨⟨_, rfl, .refl _⟩, trivial⟩ (by decide) ⟨rfl, rfl⟩
    · replace h := bF h hc1
      refine good_skip ?_
      refine hK3 _ ?_
      refine Good.le (σ' := ⟨99, [(0, _), (1, _), (4, _)], [(0, (_, _))]⟩) (le_w [some 0] rfl ⟨⟨_, rfl, .refl _⟩, ⟨⟨_, rfl, .refl _⟩, ⟨⟨_, rfl, .refl _⟩, trivial⟩⟩⟩ ⟨⟨_, rfl, .refl _⟩, trivial⟩ (by decide)) ?_
      refine good_seq fun K6 hK6 => ?_
      refine good_region ?_
      refine g_op rfl (ValOk.op (v_move rfl rfl ?_)) 
      refine g_op rfl (ValOk.op (v_nilP rfl rfl ?_)) 
      refine g_op rfl (ValOk.op (v_fieldP tabOk rfl tfoff73_1 rfl ?_)) 
      refine g_op rfl (ValOk.op (v_loadP tabOk rfl rfl tsize3 tagg3 rfl rfl rfl rfl ?_)) 
      refine g_op rfl (ValOk.op (v_bin rfl rfl rfl rfl ?_)) 
      refine g_op rfl (ValOk.op (v_assign rfl rfl ?_)) 
      refine g_nil ?_
      refine hK6 _ ?_
      refine Good.le (σ' := ⟨99, [(0, _), (1, _), (4, _), (5, _)], [(0, (_, _))]⟩) (le_w [some 0] rfl ⟨⟨_, rfl, .refl _⟩, ⟨⟨_, rfl, .refl _⟩, ⟨⟨_, rfl, .refl _⟩, ⟨⟨_, rfl, .refl _⟩, trivial⟩⟩⟩⟩ ⟨⟨_, rfl, .refl _⟩, trivial⟩ (by decide)) ?_
      refine good_seq fun K7 hK7 => ?_
      refine good_seq fun K8 hK8 => ?_
      refine good_region ?_
      refine g_op rfl (ValOk.op (v_move rfl rfl ?_)) 
      refine g_op rfl (ValOk.op (v_move rfl rfl ?_)) 
      refine g_op rfl (ValOk.op (v_nilP rfl rfl ?_)) 
      refine g_op rfl (ValOk.op (v_fieldP tabOk rfl tfoff73_0 rfl ?_)) 
      refine g_op rfl (ValOk.op (v_loadP tabOk rfl rfl tsize30 tagg30 rfl rfl rfl rfl ?_)) 
      refine g_op rfl (ValOk.op (v_lenM (l := a0.b) (f := (encI .u8)) tabOk rfl rfl telem30 rfl ?_)) 
      refine g_op rfl (ValOk.op (v_bin rfl rfl rfl rfl ?_)) 
      refine g_nil ?_
      refine hK8 _ ?_
      refine Good.le (σ' := ⟨99, [(0, _), (1, _), (4, _), (5, _), (36, _)], [(0, (_, _))]⟩) (le_w [some 0] rfl ⟨⟨_, rfl, .refl _⟩, ⟨⟨_, rfl, .refl _⟩, ⟨⟨_, rfl, .refl _⟩, ⟨⟨_, rfl, .refl _⟩, ⟨⟨_, rfl, .refl _⟩, trivial⟩⟩⟩⟩⟩ ⟨⟨_, rfl, .refl _⟩, trivial⟩ (by decide)) ?_
      refine good_cond rfl (fun hc2 => ?_) (fun hc2 => ?_)
      · replace h := ifT h (dT hc2)
        refine good_seq fun K9 hK9 => ?_
        refine good_region ?_
        refine g_op rfl (ValOk.op (v_move rfl rfl ?_)) 
        refine g_op rfl (ValOk.op (v_nilP rfl rfl ?_)) 
        refine g_op rfl (ValOk.op (v_fieldP tabOk rfl tfoff73_0 rfl ?_)) 
        refine g_op rfl (ValOk.op (v_loadP tabOk rfl rfl tsize30 tagg30 rfl rfl rfl rfl ?_)) 
        refine g_op rfl (ValOk.op (v_move rfl rfl ?_)) 
        obtain ⟨hb1, h⟩ := ifS h
        refine g_op rfl (ValOk.op (v_idxM tabOk rfl rfl telem30 tsize5 hb1 rfl rfl rfl ?_)) 
        refine g_op rfl (ValOk.op (v_loadE tabOk rfl tsize5 tagg5 rfl rfl rfl ?_)) 
        refine g_op rfl (ValOk.op (v_convI tabOk rfl tkind5 tkind3 rfl ?_)) 
        refine g_op rfl (ValOk.op (v_move rfl rfl ?_)) 
        obtain ⟨hb2, h⟩ := ifS h
        refine g_op rfl (ValOk.op (v_rem rfl rfl hb2 rfl ?_)) 
        refine g_op rfl (ValOk.op (v_assign rfl rfl ?_)) 
        refine g_nil ?_
        refine hK9 _ ?_
        refine Good.le (σ' := ⟨99, [(0, _), (1, _), (4, _), (5, _)], [(0, (_, _))]⟩) (le_w [some 0] rfl ⟨⟨_, rfl, .refl _⟩, ⟨⟨_, rfl, .refl _⟩, ⟨⟨_, rfl, .refl _⟩, ⟨⟨_, rfl, .refl _⟩, trivial⟩⟩⟩⟩ ⟨⟨_, rfl, .refl _⟩, trivial⟩ (by decide)) ?_
        refine Good.le (σ' := ⟨99, [(4, .int .i64 (Int.tmod (IntKind.wrap .i64 (ix a0.b (IntKind.wrap .i64 ((IntKind.wrap .i64 (a0.p + 1)) - 1)))) a1))], [(0, ((.pointer (some ⟨b0_0, 0, none⟩)), .optr 73 [.sl false (a0.b.map (encI .u8)), .int .i64 (IntKind.wrap .i64 (a0.p + 1))]))]⟩) (le_w [some 0] rfl ⟨⟨_, rfl, .refl _⟩, trivial⟩ ⟨⟨_, rfl, .refl _⟩, trivial⟩ (by decide)) ?_
        refine good_ret ?_
        obtain rfl := Option.some.inj h
        refine thenQ_ret ?_
        exact endQ_ret (h' := [(0, (_, _))]) [some 0] (.tmp rfl (.nil)) ⟨⟨_, rfl, .refl _⟩, trivial⟩ (by decide) ⟨rfl, rfl⟩
      · replace h := ifF h (dF hc2)
        refine good_skip ?_
        refine hK7 _ ?_
        refine Good.le (σ' := ⟨99, [(0, _), (1, _), (4, _), (5, _)], [(0, (_, _))]⟩) (le_w [some 0] rfl ⟨⟨_, rfl, .refl _⟩, ⟨⟨_, rfl, .refl _⟩, ⟨⟨_, rfl, .refl _⟩, ⟨⟨_, rfl, .refl _⟩, trivial⟩⟩⟩⟩ ⟨⟨_, rfl, .refl _⟩, trivial⟩ (by decide)) ?_
        refine good_seq fun K10 hK10 => ?_
        refine good_draw (by kernel_rfl) (by kernel_rfl) ?_
        refine q_op rfl (v_move rfl rfl ?_) 
        refine q_op rfl (v_nilP rfl rfl ?_) 
        refine q_op rfl (v_fieldP tabOk rfl tfoff73_0 rfl ?_) 
        refine q_op rfl (v_loadP tabOk rfl rfl tsize30 tagg30 rfl rfl rfl rfl ?_) 
        refine q_op rfl (v_move rfl rfl ?_) 
        refine q_op rfl (v_move rfl rfl ?_) 
        refine q_op rfl (v_nilP rfl rfl ?_) 
        refine q_op rfl (v_fieldP tabOk rfl tfoff73_0 rfl ?_) 
        refine q_op rfl (v_loadP tabOk rfl rfl tsize30 tagg30 rfl rfl rfl rfl ?_) 
        refine q_op rfl (v_lenM (l := a0.b) (f := (encI .u8)) tabOk rfl rfl telem30 rfl ?_) 
        obtain ⟨hb3, h⟩ := ifS h
        refine q_op rfl (v_rem rfl rfl hb3 rfl ?_) 
        obtain ⟨hb4, h⟩ := ifS h
        refine q_op rfl (v_idxM tabOk rfl rfl telem30 tsize5 hb4 rfl rfl rfl ?_) 
        refine q_op rfl (v_loadE tabOk rfl tsize5 tagg5 rfl rfl rfl ?_) 
        refine q_op rfl (v_convI tabOk rfl tkind5 tkind3 rfl ?_) 
        refine q_op rfl (v_bin rfl rfl rfl rfl ?_) 
        refine q_op rfl (v_move rfl rfl ?_) 
        refine q_op rfl (v_nilP rfl rfl ?_) 
        refine q_op rfl (v_fieldP tabOk rfl tfoff73_0 rfl ?_) 
        refine q_op rfl (v_loadP tabOk rfl rfl tsize30 tagg30 rfl rfl rfl rfl ?_) 
        refine q_op rfl (v_move rfl rfl ?_) 
        refine q_op rfl (v_bin rfl rfl rfl rfl ?_) 
        refine q_op rfl (v_bin rfl rfl rfl rfl ?_) 
        refine q_op rfl (v_move rfl rfl ?_) 
        refine q_op rfl (v_nilP rfl rfl ?_) 
        refine q_op rfl (v_fieldP tabOk rfl tfoff73_0 rfl ?_) 
        refine q_op rfl (v_loadP tabOk rfl rfl tsize30 tagg30 rfl rfl rfl rfl ?_) 
        refine q_op rfl (v_lenM (l := a0.b) (f := (encI .u8)) tabOk rfl rfl telem30 rfl ?_) 
        obtain ⟨hb5, h⟩ := ifS h
        refine q_op rfl (v_rem rfl rfl hb5 rfl ?_) 
        obtain ⟨hb6, h⟩ := ifS h
        refine q_op rfl (v_idxM tabOk rfl rfl telem30 tsize5 hb6 rfl rfl rfl ?_) 
        refine q_op rfl (v_loadE tabOk rfl tsize5 tagg5 rfl rfl rfl ?_) 
        refine q_op rfl (v_convI tabOk rfl tkind5 tkind3 rfl ?_) 
        refine q_op rfl (v_bin rfl rfl rfl rfl ?_) 
        refine q_op rfl (v_bin rfl rfl rfl rfl ?_) 
        refine q_op rfl (v_move rfl rfl ?_) 
        refine q_op rfl (v_bin rfl rfl rfl rfl ?_) 
        refine q_op rfl (v_bin rfl rfl rfl rfl ?_) 
        refine q_op rfl (v_move rfl rfl ?_) 
        refine q_op rfl (v_move rfl rfl ?_) 
        refine q_op rfl (v_nilP rfl rfl ?_) 
        refine q_op rfl (v_fieldP tabOk rfl tfoff73_0 rfl ?_) 
        refine q_op rfl (v_loadP tabOk rfl rfl tsize30 tagg30 rfl rfl rfl rfl ?_) 
        refine q_op rfl (v_lenM (l := a0.b) (f := (encI .u8)) tabOk rfl rfl telem30 rfl ?_) 
        obtain ⟨hb7, h⟩ := ifS h
        refine q_op rfl (v_quo rfl rfl hb7 rfl ?_) 
        refine q_op rfl (v_bin rfl rfl rfl rfl ?_) 
        refine q_op rfl (v_bin rfl rfl rfl rfl ?_) 
        refine q_op rfl (v_assign rfl rfl ?_) 
        refine q_nil ?_
        refine hK10 _ ?_
        refine Good.le (σ' := ⟨99, [(1, _), (4, _), (6, _)], [(0, (_, _))]⟩) (le_w [some 0] rfl ⟨⟨_, rfl, .refl _⟩, ⟨⟨_, rfl, .refl _⟩, ⟨⟨_, rfl, .refl _⟩, trivial⟩⟩⟩ ⟨⟨_, rfl, .refl _⟩, trivial⟩ (by decide)) ?_
        refine good_seq fun K11 hK11 => ?_
        refine good_region ?_
        refine g_op rfl (ValOk.op (v_move rfl rfl ?_)) 
        refine g_op rfl (ValOk.op (v_move rfl rfl ?_)) 
        refine g_op rfl (ValOk.op (v_quo rfl rfl (by decide) rfl ?_)) 
        refine g_op rfl (ValOk.op (v_bin rfl rfl rfl rfl ?_)) 
        refine g_op rfl (ValOk.op (v_assign rfl rfl ?_)) 
        refine g_nil ?_
        refine hK11 _ ?_
        refine Good.le (σ' := ⟨99, [(1, _), (4, _), (6, _)], [(0, (_, _))]⟩) (le_w [some 0] rfl ⟨⟨_, rfl, .refl _⟩, ⟨⟨_, rfl, .refl _⟩, ⟨⟨_, rfl, .refl _⟩, trivial⟩⟩⟩ ⟨⟨_, rfl, .refl _⟩, trivial⟩ (by decide)) ?_
        refine good_seq fun K12 hK12 => ?_
        refine good_region ?_
        refine g_op rfl (ValOk.op (v_move rfl rfl ?_)) 
        refine g_op rfl (ValOk.op (v_move rfl rfl ?_)) 
        obtain ⟨hb8, h⟩ := ifS h
        refine g_op rfl (ValOk.op (v_rem rfl rfl hb8 rfl ?_)) 
        refine g_op rfl (ValOk.op (v_assign rfl rfl ?_)) 
        refine g_nil ?_
        refine hK12 _ ?_
        refine Good.le (σ' := ⟨99, [(4, _)], [(0, (_, _))]⟩) (le_w [some 0] rfl ⟨⟨_, rfl, .refl _⟩, trivial⟩ ⟨⟨_, rfl, .refl _⟩, trivial⟩ (by decide)) ?_
        refine Good.le (σ' := ⟨99, [(4, .int .i64 (Int.tmod (bitsI .xor .i64 (IntKind.wrap .i64 ((IntKind.wrap .i64 ((IntKind.wrap .i64 ((IntKind.wrap .i64 ((IntKind.wrap .i64 (ix a0.b (Int.tmod (IntKind.wrap .i64 ((IntKind.wrap .i64 (a0.p + 1)) - 1)) (a0.b.length : Int)))) * 131)) + (IntKind.wrap .i64 ((IntKind.wrap .i64 (ix a0.b (Int.tmod (IntKind.wrap .i64 ((IntKind.wrap .i64 ((IntKind.wrap .i64 ((IntKind.wrap .i64 (a0.p + 1)) - 1)) * 7)) + 3)) (a0.b.length : Int)))) * 1117)))) + (IntKind.wrap .i64 ((IntKind.wrap .i64 ((IntKind.wrap .i64 (a0.p + 1)) - 1)) * 29)))) + (IntKind.wrap .i64 ((IntKind.wrap .i64 (Int.tdiv (IntKind.wrap .i64 ((IntKind.wrap .i64 (a0.p + 1)) - 1)) (a0.b.length : Int))) * 53)))) (IntKind.wrap .i64 (Int.tdiv (IntKind.wrap .i64 ((IntKind.wrap .i64 ((IntKind.wrap .i64 ((IntKind.wrap .i64 ((IntKind.wrap .i64 (ix a0.b (Int.tmod (IntKind.wrap .i64 ((IntKind.wrap .i64 (a0.p + 1)) - 1)) (a0.b.length : Int)))) * 131)) + (IntKind.wrap .i64 ((IntKind.wrap .i64 (ix a0.b (Int.tmod (IntKind.wrap .i64 ((IntKind.wrap .i64 ((IntKind.wrap .i64 ((IntKind.wrap .i64 (a0.p + 1)) - 1)) * 7)) + 3)) (a0.b.length : Int)))) * 1117)))) + (IntKind.wrap .i64 ((IntKind.wrap .i64 ((IntKind.wrap .i64 (a0.p + 1)) - 1)) * 29)))) + (IntKind.wrap .i64 ((IntKind.wrap .i64 (Int.tdiv (IntKind.wrap .i64 ((IntKind.wrap .i64 (a0.p + 1)) - 1)) (a0.b.length : Int))) * 53)))) 64))) a1))], [(0, ((.pointer (some ⟨b0_0, 0, none⟩)), .optr 73 [.sl false (a0.b.map (encI .u8)), .int .i64 (IntKind.wrap .i64 (a0.p + 1))]))]⟩) (le_w [some 0] rfl ⟨⟨_, rfl, .refl _⟩, trivial⟩ ⟨⟨_, rfl, .refl _⟩, trivial⟩ (by decide)) ?_
        refine good_ret ?_
        obtain rfl := Option.some.inj h
        exact endQ_ret (h' := [(0, (_, _))]) [some 0] (.tmp rfl (.nil)) ⟨⟨_, rfl, .refl _⟩, trivial⟩ (by decide) ⟨rfl, rfl⟩
  replace h := ho1
  refine good_region ?_
  refine g_op rfl (ValOk.op (v_move rfl rfl ?_)) 
  refine g_op rfl (ValOk.op (v_bin rfl rfl rfl rfl ?_)) 
  refine g_op rfl (ValOk.op (v_move rfl rfl ?_)) 
  rcases bsplit ((decide (a1 < 1))) with hg1 | hg1
  · replace h := ifT h (dT hg1)
    refine g_no rfl rfl hg1 rfl ?_
    refine g_no rfl rfl hg1 rfl ?_
    refine g_no rfl rfl hg1 rfl ?_
    refine g_no rfl rfl hg1 rfl ?_
    refine g_no rfl rfl hg1 rfl ?_
    refine g_no rfl rfl hg1 rfl ?_
    refine g_op rfl (ValOk.op (v_pickT rfl hg1 rfl rfl ?_)) 
    refine g_nil ?_
    exact hw1 true (Option.some.inj h).symm _ (le_w [some 0] rfl ⟨⟨_, rfl, .refl _⟩, ⟨⟨_, rfl, .refl _⟩, ⟨⟨_, rfl, .refl _⟩, ⟨⟨_, rfl, .refl _⟩, trivial⟩⟩⟩⟩ ⟨⟨_, rfl, .refl _⟩, trivial⟩ (by decide))
  · replace h := ifF h (dF hg1)
    refine g_yes rfl rfl hg1 (ValOk.op (v_move rfl rfl ?_)) 
    refine g_yes rfl rfl hg1 (ValOk.op (v_nilP rfl rfl ?_)) 
    refine g_yes rfl rfl hg1 (ValOk.op (v_fieldP tabOk rfl tfoff73_0 rfl ?_)) 
    refine g_yes rfl rfl hg1 (ValOk.op (v_loadP tabOk rfl rfl tsize30 tagg30 rfl rfl rfl rfl ?_)) 
    refine g_yes rfl rfl hg1 (ValOk.op (v_lenM (l := a0.b) (f := (encI .u8)) tabOk rfl rfl telem30 rfl ?_)) 
    refine g_yes rfl rfl hg1 (ValOk.op (v_bin rfl rfl rfl rfl ?_)) 
    refine g_op rfl (ValOk.op (v_pickF rfl hg1 rfl rfl ?_)) 
    refine g_nil ?_
    exact hw1 (decide ((a0.b.length : Int) = 0)) (Option.some.inj h).symm _ (le_w [some 0] rfl ⟨⟨_, rfl, .refl _⟩, ⟨⟨_, rfl, .refl _⟩, ⟨⟨_, rfl, .refl _⟩, ⟨⟨_, rfl, .refl _⟩, trivial⟩⟩⟩⟩ ⟨⟨_, rfl, .refl _⟩, trivial⟩ (by decide))
def m_spec_l1Rd_of (a0 : GL1Rd) (a1 : (List Bs)) : Option (Bs × GL1Rd) :=
  (m_spec_l1Rd_pick a0 (a1.length : Int)).bind fun y1 =>
  if (0 : Int) ≤ y1.1 ∧ y1.1 < (a1.length : Int) then
    some ((ix a1 y1.1), y1.2)
  else none
theorem m_spec_l1Rd_of_ok : ∀ (a0 : GL1Rd) (a1 : (List Bs)) (b0_0 : Nat) (r : (Bs × GL1Rd)), m_spec_l1Rd_of a0 a1 = some r → Does Tryd.prog 33 [.ptr 0 b0_0 0, .sl false (a1.map encS)] [(0, (.pointer (some ⟨b0_0, 0, none⟩), .optr 73 [.sl false (a0.b.map (encI .u8)), .int .i64 a0.p]))] (fun q h' => q = .str r.1 ∧ h' = [(0, (.pointer (some ⟨b0_0, 0, none⟩), .optr 73 [.sl false (r.2.b.map (encI .u8)), .int .i64 r.2.p]))]) := by
  intro a0 a1 b0_0 r h
  rw [m_spec_l1Rd_of] at h
  refine does_of_good tabOk Tryd.func33 rfl (by decide +kernel) (Nat.le_of_ble_eq_true rfl) fun c => ?_
  refine Good.le (σ' := ⟨12, [(0, .ptr 0 b0_0 0), (1, .sl false (a1.map encS))], [(0, ((.pointer (some ⟨b0_0, 0, none⟩)), .optr 73 [.sl false (a0.b.map (encI .u8)), .int .i64 a0.p]))]⟩) (Le.refl _) ?_
  refine good_seq fun K1 hK1 => ?_
  refine good_region ?_
  refine g_op rfl (ValOk.op (v_assign rfl rfl ?_)) 
  refine g_nil ?_
  refine hK1 _ ?_
  refine good_seq fun K2 hK2 => ?_
  refine good_region ?_
  refine g_op rfl (ValOk.op (v_move rfl rfl ?_)) 
  refine g_op rfl (ValOk.op (v_move rfl rfl ?_)) 
  refine g_op rfl (ValOk.op (v_move rfl rfl ?_)) 
  refine g_op rfl (ValOk.op (v_lenM (l := a1) (f := encS) tabOk rfl rfl telem24 rfl ?_)) 
  obtain ⟨y1, hy1, h⟩ := bnd h
  refine g_op rfl (o_callP (q := 0) (core_value rfl rfl) (m_spec_l1Rd_pick_ok a0 (a1.length : Int) b0_0 _ hy1) (.cons (.ptr _ _ _ _) (.cons (.refl _) (.nil))) rfl rfl ?_)
  obtain ⟨hb1, h⟩ := ifS h
  refine g_op rfl (ValOk.op (v_idxM tabOk rfl rfl telem24 tsize9 hb1 rfl rfl rfl ?_)) 
  refine g_op rfl (ValOk.op (v_loadE tabOk rfl tsize9 tagg9 rfl rfl rfl ?_)) 
  refine g_op rfl (ValOk.op (v_assign rfl rfl ?_)) 
  refine g_nil ?_
  refine hK2 _ ?_
  refine Good.le (σ' := ⟨12, [(4, _)], [(0, (_, _))]⟩) (le_w [some 0] rfl ⟨⟨_, rfl, .refl _⟩, trivial⟩ ⟨⟨_, rfl, .refl _⟩, trivial⟩ (by decide)) ?_
  refine Good.le (σ' := ⟨12, [(4, .str (ix a1 y1.1))], [(0, ((.pointer (some ⟨b0_0, 0, none⟩)), .optr 73 [.sl false (y1.2.b.map (encI .u8)), .int .i64 y1.2.p]))]⟩) (le_w [some 0] rfl ⟨⟨_, rfl, .refl _⟩, trivial⟩ ⟨⟨_, rfl, .refl _⟩, trivial⟩ (by decide)) ?_
  refine good_ret ?_
  obtain rfl := Option.some.inj h
  exact endQ_ret (h' := [(0, (_, _))]) [some 0] (.tmp rfl (.nil)) ⟨⟨_, rfl, .refl _⟩, trivial⟩ (by decide) ⟨rfl, rfl⟩
def m_spec_l1Open (a0 : (List Int)) : Option GL1Rd :=
  if 2000 < (a0.length : Int) then
    if (0 : Int) ≤ 0 ∧ (0 : Int) ≤ (2000 : Int) ∧ (2000 : Int) ≤ (a0.length : Int) then
      some (GL1Rd.mk (sub a0 0 2000) 0)
    else none
  else
    some (GL1Rd.mk a0 0)
theorem m_spec_l1Open_ok : ∀ (a0 : (List Int)) (r : GL1Rd), m_spec_l1Open a0 = some r → Does Tryd.prog 31 [.sl false (a0.map (encI .u8))] [] (fun q h' => ∃ u0 : Nat, q = .ptr 100 u0 0 ∧ h' = [(100, ((.pointer (some ⟨u0, 0, none⟩)), .optr 73 [.sl false (r.b.map (encI .u8)), .int .i64 r.p]))]) := by
  intro a0 r h
  rw [m_spec_l1Open] at h
  refine does_of_good tabOk Tryd.func31 rfl (by decide +kernel) (Nat.le_of_ble_eq_true rfl) fun c => ?_
  refine Good.le (σ' := ⟨11, [(0, .sl false (a0.map (encI .u8)))], []⟩) (Le.refl _) ?_
  refine good_seq fun K1 hK1 => ?_
  refine good_region ?_
  refine g_op rfl (ValOk.op (v_assign rfl rfl ?_)) 
  refine g_nil ?_
  refine hK1 _ ?_
  refine good_seq fun K2 hK2 => ?_
  refine good_seq fun K3 hK3 => ?_
  refine good_region ?_
  refine g_op rfl (ValOk.op (v_move rfl rfl ?_)) 
  refine g_op rfl (ValOk.op (v_lenM (l := a0) (f := (encI .u8)) tabOk rfl rfl telem30 rfl ?_)) 
  refine g_op rfl (ValOk.op (v_bin rfl rfl rfl rfl ?_)) 
  refine g_nil ?_
  refine hK3 _ ?_
  refine Good.le (σ' := ⟨11, [(0, _), (2, _), (5, _)], []⟩) (le_w [] rfl ⟨⟨_, rfl, .refl _⟩, ⟨⟨_, rfl, .refl _⟩, ⟨⟨_, rfl, .refl _⟩, trivial⟩⟩⟩ trivial (by decide)) ?_
  refine good_cond rfl (fun hc1 => ?_) (fun hc1 => ?_)
  · replace h := ifT h (dT hc1)
    refine good_region ?_
    refine g_op rfl (ValOk.op (v_move rfl rfl ?_)) 
    obtain ⟨hb1, h⟩ := ifS h
    refine g_op rfl (ValOk.op (v_sliceM (l := a0) (f := (encI .u8)) tabOk rfl rfl rfl rfl telem30 tsize5 encI_len hb1 rfl ?_)) 
    refine g_op rfl (ValOk.op (v_assign rfl rfl ?_)) 
    refine g_nil ?_
    refine hK2 _ ?_
    refine Good.le (σ' := ⟨11, [(0, _), (2, _)], []⟩) (le_w [] rfl ⟨⟨_, rfl, .refl _⟩, ⟨⟨_, rfl, .refl _⟩, trivial⟩⟩ trivial (by decide)) ?_
    refine good_seq fun K4 hK4 => ?_
    refine good_region ?_
    refine g_op rfl (ValOk.op (v_move rfl rfl ?_)) 
    refine g_op rfl (ValOk.op (v_build tabOk (cs := [.sl false ((sub a0 0 2000).map (encI .u8)), .int .i64 0]) tzero73 tsok73 rfl rfl rfl ?_)) 
    refine g_op rfl (o_box (k := 20) tabOk rfl rfl rfl rfl rfl ?_)
    intro b1
    refine g_op rfl (ValOk.op (v_assign rfl rfl ?_)) 
    refine g_nil ?_
    refine hK4 _ ?_
    refine Good.le (σ' := ⟨11, [(2, _)], [(20, (_, _))]⟩) (le_w [some 20] rfl ⟨⟨_, rfl, .refl _⟩, trivial⟩ ⟨⟨_, rfl, .refl _⟩, trivial⟩ (by decide)) ?_
    refine Good.le (σ' := ⟨11, [(2, .ptr 100 b1 0)], [(100, ((.pointer (some ⟨b1, 0, none⟩)), .optr 73 [.sl false ((sub a0 0 2000).map (encI .u8)), .int .i64 0]))]⟩) (le_w [some 20] rfl ⟨⟨_, rfl, .ptr _ _ _ _⟩, trivial⟩ ⟨⟨_, rfl, .refl _⟩, trivial⟩ (by decide)) ?_
    refine good_ret ?_
    obtain rfl := Option.some.inj h
    exact endQ_ret (h' := [(100, (_, _))]) [some 100] (.tmp rfl (.nil)) ⟨⟨_, rfl, .refl _⟩, trivial⟩ (by decide) ⟨b1, rfl, rfl⟩
  · replace h := ifF h (dF hc1)
    refine good_skip ?_
    refine hK2 _ ?_
    refine Good.le (σ' := ⟨11, [(0, _), (2, _)], []⟩) (le_w [] rfl ⟨⟨_, rfl, .refl _⟩, ⟨⟨_, rfl, .refl _⟩, trivial⟩⟩ trivial (by decide)) ?_
    refine good_seq fun K5 hK5 => ?_
    refine good_region ?_
    refine g_op rfl (ValOk.op (v_move rfl rfl ?_)) 
    refine g_op rfl (ValOk.op (v_build tabOk (cs := [.sl false (a0.map (encI .u8)), .int .i64 0]) tzero73 tsok73 rfl rfl rfl ?_)) 
    refine g_op rfl (o_box (k := 20) tabOk rfl rfl rfl rfl rfl ?_)
    intro b2
    refine g_op rfl (ValOk.op (v_assign rfl rfl ?_)) 
    refine g_nil ?_
    refine hK5 _ ?_
    refine Good.le (σ' := ⟨11, [(2, _)], [(20, (_, _))]⟩) (le_w [some 20] rfl ⟨⟨_, rfl, .refl _⟩, trivial⟩ ⟨⟨_, rfl, .refl _⟩, trivial⟩ (by decide)) ?_
    refine Good.le (σ' := ⟨11, [(2, .ptr 100 b2 0)], [(100, ((.pointer (some ⟨b2, 0, none⟩)), .optr 73 [.sl false (a0.map (encI .u8)), .int .i64 0]))]⟩) (le_w [some 20] rfl ⟨⟨_, rfl, .ptr _ _ _ _⟩, trivial⟩ ⟨⟨_, rfl, .refl _⟩, trivial⟩ (by decide)) ?_
    refine good_ret ?_
    obtain rfl := Option.some.inj h
    exact endQ_ret (h' := [(100, (_, _))]) [some 100] (.tmp rfl (.nil)) ⟨⟨_, rfl, .refl _⟩, trivial⟩ (by decide) ⟨b2, rfl, rfl⟩
def m_spec_DrawPointerText_l1 : Nat → (List Int) → Int → (List Bs) → Int → Option (Lp (List Bs) (List Bs))
  | 0, _, _, _, _ => none
  | k + 1, x1, x2, x3, x4 =>
    if 0 < x4 then
      (m_spec_l1Rd_of (GL1Rd.mk x1 x2) [[], [97], [97, 47, 98], [126], [126, 49], [48], [108, 111, 110, 103, 32, 110, 97, 109, 101]]).bind fun y3 =>
      if (x3 ++ [y3.1]).length * 16 ≤ 140737488355328 then
        m_spec_DrawPointerText_l1 k y3.2.b y3.2.p (x3 ++ [y3.1]) (IntKind.wrap .i64 (x4 - 1))
      else none
    else
      some (Lp.go x3)
def m_spec_DrawPointerText (k : Nat) (a0 : (List Int)) : Option (List Bs) :=
  (m_spec_l1Open a0).bind fun y1 =>
  (m_spec_l1Rd_pick y1 4).bind fun y2 =>
  (m_spec_DrawPointerText_l1 k y2.2.b y2.2.p ([] : List Bs) y2.1).bind fun o1 =>
  o1.then fun s1 =>
    some s1
theorem m_spec_DrawPointerText_ok (k : Nat) : ∀ (a0 : (List Int)) (r : (List Bs)), m_spec_DrawPointerText k a0 = some r → Does Tryd.prog 14 [.sl false (a0.map (encI .u8))] [] (fun q h' => ∃ u0 : Value, q = .hd 100 u0 ∧ h' = [(100, (u0, .osl 9 1 (r.map encS)))]) := by
  intro a0 r h
  rw [m_spec_DrawPointerText] at h
  refine does_of_good tabOk Tryd.func14 rfl (by decide +kernel) (Nat.le_of_ble_eq_true rfl) fun c => ?_
  refine Good.le (σ' := ⟨22, [(0, .sl false (a0.map (encI .u8)))], []⟩) (Le.refl _) ?_
  refine good_seq fun K1 hK1 => ?_
  refine good_region ?_
  refine g_op rfl (ValOk.op (v_assign rfl rfl ?_)) 
  refine g_nil ?_
  refine hK1 _ ?_
  refine good_seq fun K2 hK2 => ?_
  refine good_region ?_
  refine g_op rfl (ValOk.op (v_move rfl rfl ?_)) 
  obtain ⟨y1, hy1, h⟩ := bnd h
  refine g_op rfl (o_callD [] [] [] (core_value rfl rfl) (m_spec_l1Open_ok a0 _ hy1) trivial (.cons (.refl _) (.nil)) trivial rfl rfl rfl ?_)
  rintro _ _ ⟨b1, rfl, rfl⟩
  refine ⟨.ptr 3001 b1 0, [(3001, _)], .ptr _ _ _ _, rfl, rfl, rfl, rfl, .inl rfl, ?_⟩
  refine g_op rfl (ValOk.op (v_assign rfl rfl ?_)) 
  refine g_nil ?_
  refine hK2 _ ?_
  refine Good.le (σ' := ⟨22, [(2, _), (3, _)], [(3001, (_, _))]⟩) (le_w [some 3001] rfl ⟨⟨_, rfl, .refl _⟩, ⟨⟨_, rfl, .refl _⟩, trivial⟩⟩ ⟨⟨_, rfl, .refl _⟩, trivial⟩ (by decide)) ?_
  refine good_seq fun K3 hK3 => ?_
  refine good_region ?_
  refine g_op rfl (o_buildSlice (k := 18) (rows := ([] : List Bs).map encS) tabOk telem24 tsize9 rfl rfl rfl rfl (by decide) (by decide) (by rw [tzero9]; rfl) rfl rfl rfl rfl rfl ?_)
  intro w1
  refine g_op rfl (ValOk.op (v_assign rfl rfl ?_)) 
  refine g_nil ?_
  refine hK3 _ ?_
  refine Good.le (σ' := ⟨22, [(2, _), (3, _), (4, _)], [(3001, (_, _)), (18, (_, _))]⟩) (le_w [some 3001, some 18] rfl ⟨⟨_, rfl, .refl _⟩, ⟨⟨_, rfl, .refl _⟩, ⟨⟨_, rfl, .refl _⟩, trivial⟩⟩⟩ ⟨⟨_, rfl, .refl _⟩, ⟨⟨_, rfl, .refl _⟩, trivial⟩⟩ (by decide)) ?_
  refine good_seq fun K4 hK4 => ?_
  refine good_seq fun K5 hK5 => ?_
  refine good_region ?_
  refine g_op rfl (ValOk.op (v_move rfl rfl ?_)) 
  obtain ⟨y2, hy2, h⟩ := bnd h
  refine g_op rfl (o_callP (q := 3001) (core_value rfl rfl) (m_spec_l1Rd_pick_ok y1 4 b1 _ hy2) (.cons (.ptr _ _ _ _) (.cons (.refl _) (.nil))) rfl rfl ?_)
  refine g_op rfl (ValOk.op (v_assign rfl rfl ?_)) 
  refine g_nil ?_
  refine hK5 _ ?_
  refine Good.le (σ' := ⟨22, [(2, _), (3, _), (4, _), (5, _)], [(3001, (_, _)), (18, (_, _))]⟩) (le_w [some 3001, some 18] rfl ⟨⟨_, rfl, .refl _⟩, ⟨⟨_, rfl, .refl _⟩, ⟨⟨_, rfl, .refl _⟩, ⟨⟨_, rfl, .refl _⟩, trivial⟩⟩⟩⟩ ⟨⟨_, rfl, .refl _⟩, ⟨⟨_, rfl, .refl _⟩, trivial⟩⟩ (by decide)) ?_
  obtain ⟨o1, ho1, hJ1⟩ := bnd h
  have hw1 : ∀ (s1 : (List Bs)) (w3 : Value), o1 = Lp.go s1 → ∀ σ', Le σ' ⟨22, [(2, .nil), (4, .hd 5603 w3)], [(5603, (w3, .osl 9 1 (s1.map encS)))]⟩ → K4 σ' := by
    intro s1 w3 e1 σ' hle1
    subst e1
    refine hK4 _ (Good.le hle1 ?_)
    replace h := hJ1
    refine good_seq fun K6 hK6 => ?_
    refine good_region ?_
    refine g_op rfl (ValOk.op (v_move rfl rfl ?_)) 
    refine g_op rfl (ValOk.op (v_assign rfl rfl ?_)) 
    refine g_nil ?_
    refine hK6 _ ?_
    refine Good.le (σ' := ⟨22, [(2, _)], [(5603, (_, _))]⟩) (le_w [some 5603] rfl ⟨⟨_, rfl, .refl _⟩, trivial⟩ ⟨⟨_, rfl, .refl _⟩, trivial⟩ (by decide)) ?_
    refine Good.le (σ' := ⟨22, [(2, .hd 100 w3)], [(100, (w3, .osl 9 1 (s1.map encS)))]⟩) (le_w [some 5603] rfl ⟨⟨_, rfl, .hd _ _ _⟩, trivial⟩ ⟨⟨_, rfl, .refl _⟩, trivial⟩ (by decide)) ?_
    refine good_ret ?_
    obtain rfl := Option.some.inj h
    exact endQ_ret (h' := [(100, (_, _))]) [some 100] (.tmp rfl (.nil)) ⟨⟨_, rfl, .refl _⟩, trivial⟩ (by decide) ⟨w3, rfl, rfl⟩
  replace h := ho1
  refine good_block ?_
  refine good_loopf (fun p : ((List Int) × Int × (List Bs) × Int × Value) => ⟨22, [(2, .nil), (3, .ptr 3001 b1 0), (4, .hd 5604 p.2.2.2.2), (5, .int .i64 p.2.2.2.1)], [(3001, ((.pointer (some ⟨b1, 0, none⟩)), .optr 73 [.sl false (p.1.map (encI .u8)), .int .i64 p.2.1])), (5604, (p.2.2.2.2, .osl 9 1 (p.2.2.1.map encS)))]⟩) (fun m p => m_spec_DrawPointerText_l1 m p.1 p.2.1 p.2.2.1 p.2.2.2.1 = some o1) k (y2.2.b, y2.2.p, ([] : List Bs), y2.1, w1) (le_w [some 3001, some 18] rfl ⟨⟨_, rfl, .refl _⟩, ⟨⟨_, rfl, .refl _⟩, ⟨⟨_, rfl, .hd _ _ _⟩, ⟨⟨_, rfl, .refl _⟩, trivial⟩⟩⟩⟩ ⟨⟨_, rfl, .refl _⟩, ⟨⟨_, rfl, .refl _⟩, trivial⟩⟩ (by decide)) h ?_
  rintro m1 ⟨x1, x2, x3, x4, w2⟩ h
  replace h : m_spec_DrawPointerText_l1 m1 x1 x2 x3 x4 = some o1 := h
  refine Good.le (σ' := ⟨22, [(2, .nil), (3, .ptr 3001 b1 0), (4, .hd 5604 w2), (5, .int .i64 x4)], [(3001, ((.pointer (some ⟨b1, 0, none⟩)), .optr 73 [.sl false (x1.map (encI .u8)), .int .i64 x2])), (5604, (w2, .osl 9 1 (x3.map encS)))]⟩) (Le.refl _) ?_
  obtain ⟨m1, rfl⟩ : ∃ m', m1 = m' + 1 := by cases m1 with | zero => (rw [m_spec_DrawPointerText_l1] at h; cases h) | succ m' => exact ⟨m', rfl⟩
  rw [m_spec_DrawPointerText_l1] at h
  refine good_seq fun K7 hK7 => ?_
  refine good_seq fun K8 hK8 => ?_
  refine good_region ?_
  refine g_op rfl (ValOk.op (v_move rfl rfl ?_)) 
  refine g_op rfl (ValOk.op (v_bin rfl rfl rfl rfl ?_)) 
  refine g_nil ?_
  refine hK8 _ ?_
  refine Good.le (σ' := ⟨22, [(2, _), (3, _), (4, _), (5, _), (12, _)], [(3001, (_, _)), (5604, (_, _))]⟩) (le_w [some 3001, some 5604] rfl ⟨⟨_, rfl, .refl _⟩, ⟨⟨_, rfl, .refl _⟩, ⟨⟨_, rfl, .refl _⟩, ⟨⟨_, rfl, .refl _⟩, ⟨⟨_, rfl, .refl _⟩, trivial⟩⟩⟩⟩⟩ ⟨⟨_, rfl, .refl _⟩, ⟨⟨_, rfl, .refl _⟩, trivial⟩⟩ (by decide)) ?_
  refine good_cond rfl (fun hc1 => ?_) (fun hc1 => ?_)
  · replace h := ifT h (dT hc1)
    refine good_skip ?_
    refine hK7 _ ?_
    refine Good.le (σ' := ⟨22, [(2, _), (3, _), (4, _), (5, _)], [(3001, (_, _)), (5604, (_, _))]⟩) (le_w [some 3001, some 5604] rfl ⟨⟨_, rfl, .refl _⟩, ⟨⟨_, rfl, .refl _⟩, ⟨⟨_, rfl, .refl _⟩, ⟨⟨_, rfl, .refl _⟩, trivial⟩⟩⟩⟩ ⟨⟨_, rfl, .refl _⟩, ⟨⟨_, rfl, .refl _⟩, trivial⟩⟩ (by decide)) ?_
    refine good_seq fun K9 hK9 => ?_
    refine good_block ?_
    refine good_region ?_
    refine g_op rfl (ValOk.op (v_move rfl rfl ?_)) 
    refine g_op rfl (ValOk.op (v_move rfl rfl ?_)) 
    refine g_op rfl (o_buildSlice (k := 27) (rows := [[], [97], [97, 47, 98], [126], [126, 49], [48], [108, 111, 110, 103, 32, 110, 97, 109, 101]].map encS) tabOk telem24 tsize9 rfl rfl rfl rfl (by decide) (by decide) (by rw [tzero9]; rfl) rfl rfl rfl rfl rfl ?_)
    intro w4
    refine g_le (σ1 := ⟨22, [(2, .nil), (3, .ptr 3001 b1 0), (4, .hd 5604 w2), (5, .int .i64 x4), (15, .hd 5604 w2), (16, .ptr 3001 b1 0), (17, .sl false ([[], [97], [97, 47, 98], [126], [126, 49], [48], [108, 111, 110, 103, 32, 110, 97, 109, 101]].map encS))], [(3001, ((.pointer (some ⟨b1, 0, none⟩)), .optr 73 [.sl false (x1.map (encI .u8)), .int .i64 x2])), (5604, (w2, .osl 9 1 (x3.map encS)))]⟩) (le_of [27] [(_, _)] [some 3001, some 5604] rfl ⟨⟨_, rfl, .osl (FrzLL.map fun _ _ => encS_frz _)⟩, trivial⟩ ⟨⟨_, rfl, .refl _⟩, ⟨⟨_, rfl, .refl _⟩, ⟨⟨_, rfl, .refl _⟩, ⟨⟨_, rfl, .refl _⟩, ⟨⟨_, rfl, .refl _⟩, ⟨⟨_, rfl, .refl _⟩, ⟨⟨_, rfl, .frz _ _ _ (.head _)⟩, trivial⟩⟩⟩⟩⟩⟩⟩ ⟨⟨_, rfl, .refl _⟩, ⟨⟨_, rfl, .refl _⟩, trivial⟩⟩ (by decide) (by decide)) ?_
    obtain ⟨y3, hy3, h⟩ := bnd h
    refine g_op rfl (o_callP (q := 3001) (core_value rfl rfl) (m_spec_l1Rd_of_ok (GL1Rd.mk x1 x2) [[], [97], [97, 47, 98], [126], [126, 49], [48], [108, 111, 110, 103, 32, 110, 97, 109, 101]] b1 _ hy3) (.cons (.ptr _ _ _ _) (.cons (.refl _) (.nil))) rfl rfl ?_)
    refine g_op rfl (o_buildSlice (k := 29) (rows := [y3.1].map encS) tabOk telem24 tsize9 rfl rfl rfl rfl (by decide) (by decide) (by rw [tzero9]; rfl) rfl rfl rfl rfl rfl ?_)
    intro w5
    obtain ⟨hb1, h⟩ := ifS h
    refine g_op rfl (o_appendHM (q := 5604) (r := 29) (k := 30) (f := encS) tabOk ⟨_, rfl⟩ rfl ⟨_, rfl⟩ rfl rfl telem24 tsize9 tbytes9 tzero9 rfl (by decide) (by decide) encS_ok rfl rfl rfl hb1 ?_)
    intro w6
    refine g_op rfl (ValOk.op (v_assign rfl rfl ?_)) 
    refine g_nil ?_
    refine hK9 _ ?_
    refine Good.le (σ' := ⟨22, [(2, _), (3, _), (4, _), (5, _)], [(3001, (_, _)), (30, (_, _))]⟩) (le_w [some 3001, some 30] rfl ⟨⟨_, rfl, .refl _⟩, ⟨⟨_, rfl, .refl _⟩, ⟨⟨_, rfl, .refl _⟩, ⟨⟨_, rfl, .refl _⟩, trivial⟩⟩⟩⟩ ⟨⟨_, rfl, .refl _⟩, ⟨⟨_, rfl, .refl _⟩, trivial⟩⟩ (by decide)) ?_
    refine good_region ?_
    refine g_op rfl (ValOk.op (v_move rfl rfl ?_)) 
    refine g_op rfl (ValOk.op (v_bin rfl rfl rfl rfl ?_)) 
    refine g_op rfl (ValOk.op (v_assign rfl rfl ?_)) 
    refine g_nil ?_
    exact round_mk m1 (y3.2.b, y3.2.p, x3 ++ [y3.1], IntKind.wrap .i64 (x4 - 1), w6) (Nat.lt_succ_self _) h (le_w [some 3001, some 30] rfl ⟨⟨_, rfl, .refl _⟩, ⟨⟨_, rfl, .refl _⟩, ⟨⟨_, rfl, .hd _ _ _⟩, ⟨⟨_, rfl, .refl _⟩, trivial⟩⟩⟩⟩ ⟨⟨_, rfl, .refl _⟩, ⟨⟨_, rfl, .refl _⟩, trivial⟩⟩ (by decide))
  · replace h := ifF h (dF hc1)
    refine good_exit ?_
    exact hw1 x3 w2 (Option.some.inj h).symm _ (le_w [some 5604] rfl ⟨⟨_, rfl, .refl _⟩, ⟨⟨_, rfl, .hd _ _ _⟩, trivial⟩⟩ ⟨⟨_, rfl, .refl _⟩, trivial⟩ (by decide))
theorem m_spec_DrawPointerText_okF (k : Nat) : ∀ (a0 : (List Int)) (r : (List Bs)), m_spec_DrawPointerText k a0 = some r → Does Tryd.prog 14 [.sl false (a0.map (encI .u8))] [] (ret (.sl false (r.map encS))) := by
  intro a0 r h
  refine does_frz (m_spec_DrawPointerText_ok k a0 r h) ?_
  rintro q h' ⟨u0, rfl, rfl⟩
  exact ⟨[100], [(_, _)], ⟨⟨_, rfl, .osl (FrzLL.map fun _ _ => encS_frz _)⟩, trivial⟩, .frz _ _ _ (.head _)⟩
def m_impl_PointerText_l2 : Nat → (List Bs) → Int → (List Int) → Int → Option (Lp (List Int) (Lp (List Int) Bs))
  | 0, _, _, _, _ => none
  | k + 1, a0, x2, x3, x4 =>
    if x4 < ((ix a0 x2).length : Int) then
      if (0 : Int) ≤ x4 ∧ x4 < ((ix a0 x2).length : Int) then
        if (byt (ix a0 x2) x4) = 126 then
          if (x3 ++ toI [126, 48]).length * 1 ≤ 140737488355328 then
            m_impl_PointerText_l2 k a0 x2 (x3 ++ toI [126, 48]) (IntKind.wrap .i64 (x4 + 1))
          else none
        else
          if (byt (ix a0 x2) x4) = 47 then
            if (x3 ++ toI [126, 49]).length * 1 ≤ 140737488355328 then
              m_impl_PointerText_l2 k a0 x2 (x3 ++ toI [126, 49]) (IntKind.wrap .i64 (x4 + 1))
            else none
          else
            if (0 : Int) ≤ x4 ∧ x4 < ((ix a0 x2).length : Int) then
              if (x3 ++ [byt (ix a0 x2) x4]).length * 1 ≤ 140737488355328 then
                m_impl_PointerText_l2 k a0 x2 (x3 ++ [byt (ix a0 x2) x4]) (IntKind.wrap .i64 (x4 + 1))
              else none
            else none
      else none
    else
      some (Lp.go x3)
def m_impl_PointerText_l1 : Nat → (List Bs) → (List Int) → Int → Option (Lp (List Int) Bs)
  | 0, _, _, _ => none
  | k + 1, a0, x1, x2 =>
    if x2 < (a0.length : Int) then
      if (0 : Int) ≤ x2 ∧ x2 < (a0.length : Int) then
        if (x1 ++ [47]).length * 1 ≤ 140737488355328 then
          (m_impl_PointerText_l2 k a0 x2 (x1 ++ [47]) 0).bind fun o2 =>
          o2.then fun s2 =>
    m_impl_PointerText_l1 k a0 s2 (IntKind.wrap .i64 (x2 + 1))
        else none
      else none
    else
      some (Lp.go x1)
def m_impl_PointerText (k : Nat) (a0 : (List Bs)) : Option Bs :=
  (m_impl_PointerText_l1 k a0 ([] : List Int) 0).bind fun o1 =>
  o1.then fun s1 =>
    if inB s1 = true then
      some (ofI s1)
    else none
theorem m_impl_PointerText_ok (k : Nat) : ∀ (a0 : (List Bs)) (r : Bs), m_impl_PointerText k a0 = some r → Does Tryd.prog 15 [.sl false (a0.map encS)] [] (ret (.str r)) := by
  intro a0 r h
  rw [m_impl_PointerText] at h
  refine does_of_good tabOk Tryd.func15 rfl (by decide +kernel) (Nat.le_of_ble_eq_true rfl) fun c => ?_
  refine Good.le (σ' := ⟨35, [(0, .sl false (a0.map encS))], []⟩) (Le.refl _) ?_
  refine good_seq fun K1 hK1 => ?_
  refine good_region ?_
  refine g_op rfl (ValOk.op (v_assign rfl rfl ?_)) 
  refine g_nil ?_
  refine hK1 _ ?_
  refine good_seq fun K2 hK2 => ?_
  refine good_region ?_
  refine g_op rfl (o_alloc (k := 13) tabOk tzero55 rfl rfl ?_)
  intro b1
  refine g_le (σ1 := ⟨35, [(0, .sl false (a0.map encS)), (3, .ptr 13 b1 0)], [(13, ((.pointer (some ⟨b1, 0, none⟩)), .optr 55 [.adr b1, .hd 7001 nilV])), (7001, (nilV, .osl 5 1 (([] : List Int).map (encI .u8))))]⟩) (le_w [some 13, none] rfl ⟨⟨_, rfl, .refl _⟩, ⟨⟨_, rfl, .refl _⟩, trivial⟩⟩ ⟨⟨_, rfl, .optr (.cons (.adr0 _) (.cons (.nilhd _) (.nil)))⟩, ⟨⟨rfl, _, _, rfl⟩, trivial⟩⟩ (by decide)) ?_
  refine g_nil ?_
  refine hK2 _ ?_
  refine good_seq fun K3 hK3 => ?_
  refine good_seq fun K4 hK4 => ?_
  refine good_region ?_
  refine g_op rfl (ValOk.op (v_move rfl rfl ?_)) 
  refine g_op rfl (ValOk.op (v_lenM (l := a0) (f := encS) tabOk rfl rfl telem24 rfl ?_)) 
  refine g_op rfl (ValOk.op (v_move rfl rfl ?_)) 
  refine g_nil ?_
  refine hK4 _ ?_
  refine Good.le (σ' := ⟨35, [(3, _), (7, _), (8, _), (9, _)], [(13, (_, _)), (7001, (_, _))]⟩) (le_w [some 13, some 7001] rfl ⟨⟨_, rfl, .refl _⟩, ⟨⟨_, rfl, .refl _⟩, ⟨⟨_, rfl, .refl _⟩, ⟨⟨_, rfl, .refl _⟩, trivial⟩⟩⟩⟩ ⟨⟨_, rfl, .refl _⟩, ⟨⟨_, rfl, .refl _⟩, trivial⟩⟩ (by decide)) ?_
  obtain ⟨o1, ho1, hJ1⟩ := bnd h
  have hw1 : ∀ (s1 : (List Int)) (w2 : Value), o1 = Lp.go s1 → ∀ σ', Le σ' ⟨35, [(3, .ptr 13 b1 0)], [(13, ((.pointer (some ⟨b1, 0, none⟩)), .optr 55 [.adr b1, .hd 7001 w2])), (7001, (w2, .osl 5 1 (s1.map (encI .u8))))]⟩ → K3 σ' := by
    intro s1 w2 e1 σ' hle1
    subst e1
    refine hK3 _ (Good.le hle1 ?_)
    replace h := hJ1
    refine good_seq fun K5 hK5 => ?_
    refine good_region ?_
    obtain ⟨hb1, h⟩ := ifS h
    refine g_op rfl (o_callE (q := 13) (y := 7001) (core_value rfl rfl) (string_does b1 7001 _ _ hb1) (.cons (.ptr _ _ _ _) .nil) rfl rfl rfl rfl ?_)
    refine g_op rfl (ValOk.op (v_assign rfl rfl ?_)) 
    refine g_nil ?_
    refine hK5 _ ?_
    refine Good.le (σ' := ⟨35, [(2, _)], []⟩) (le_w [] rfl ⟨⟨_, rfl, .refl _⟩, trivial⟩ trivial (by decide)) ?_
    refine Good.le (σ' := ⟨35, [(2, .str (ofI s1))], []⟩) (le_w [] rfl ⟨⟨_, rfl, .refl _⟩, trivial⟩ trivial (by decide)) ?_
    refine good_ret ?_
    obtain rfl := Option.some.inj h
    exact endQ_ret (h' := []) [] (.tmp rfl (.nil)) trivial (by decide) ⟨rfl, rfl⟩
  replace h := ho1
  refine good_block ?_
  refine good_loopf (fun p : ((List Int) × Int × Value) => ⟨35, [(3, .ptr 13 b1 0), (7, .sl false (a0.map encS)), (8, .int .i64 (a0.length : Int)), (9, .int .i64 p.2.1)], [(13, ((.pointer (some ⟨b1, 0, none⟩)), .optr 55 [.adr b1, .hd 7001 p.2.2])), (7001, (p.2.2, .osl 5 1 (p.1.map (encI .u8))))]⟩) (fun m p => m_impl_PointerText_l1 m a0 p.1 p.2.1 = some o1) k (([] : List Int), 0, nilV) (le_w [some 13, some 7001] rfl ⟨⟨_, rfl, .refl _⟩, ⟨⟨_, rfl, .refl _⟩, ⟨⟨_, rfl, .refl _⟩, ⟨⟨_, rfl, .refl _⟩, trivial⟩⟩⟩⟩ ⟨⟨_, rfl, .refl _⟩, ⟨⟨_, rfl, .refl _⟩, trivial⟩⟩ (by decide)) h ?_
  rintro m1 ⟨x1, x2, w1⟩ h
  replace h : m_impl_PointerText_l1 m1 a0 x1 x2 = some o1 := h
  refine Good.le (σ' := ⟨35, [(3, .ptr 13 b1 0), (7, .sl false (a0.map encS)), (8, .int .i64 (a0.length : Int)), (9, .int .i64 x2)], [(13, ((.pointer (some ⟨b1, 0, none⟩)), .optr 55 [.adr b1, .hd 7001 w1])), (7001, (w1, .osl 5 1 (x1.map (encI .u8))))]⟩) (Le.refl _) ?_
  obtain ⟨m1, rfl⟩ : ∃ m', m1 = m' + 1 := by cases m1 with | zero => (rw [m_impl_PointerText_l1] at h; cases h) | succ m' => exact ⟨m', rfl⟩
  rw [m_impl_PointerText_l1] at h
  refine good_seq fun K6 hK6 => ?_
  refine good_region ?_
  refine g_op rfl (ValOk.op (v_bin rfl rfl rfl rfl ?_)) 
  refine g_nil ?_
  refine hK6 _ ?_
  refine good_seq fun K7 hK7 => ?_
  refine good_cond rfl (fun hc1 => ?_) (fun hc1 => ?_)
  · replace h := ifT h (dT hc1)
    refine good_skip ?_
    refine hK7 _ ?_
    refine Good.le (σ' := ⟨35, [(3, _), (7, _), (8, _), (9, _)], [(13, (_, _)), (7001, (_, _))]⟩) (le_w [some 13, some 7001] rfl ⟨⟨_, rfl, .refl _⟩, ⟨⟨_, rfl, .refl _⟩, ⟨⟨_, rfl, .refl _⟩, ⟨⟨_, rfl, .refl _⟩, trivial⟩⟩⟩⟩ ⟨⟨_, rfl, .refl _⟩, ⟨⟨_, rfl, .refl _⟩, trivial⟩⟩ (by decide)) ?_
    refine good_seq fun K8 hK8 => ?_
    refine good_block ?_
    refine good_seq fun K9 hK9 => ?_
    refine good_region ?_
    obtain ⟨hb2, h⟩ := ifS h
    refine g_op rfl (ValOk.op (v_idxM tabOk rfl rfl telem24 tsize9 hb2 rfl rfl rfl ?_)) 
    refine g_op rfl (ValOk.op (v_loadE tabOk rfl tsize9 tagg9 rfl rfl rfl ?_)) 
    refine g_op rfl (ValOk.op (v_assign rfl rfl ?_)) 
    refine g_nil ?_
    refine hK9 _ ?_
    refine Good.le (σ' := ⟨35, [(3, _), (5, _), (7, _), (8, _), (9, _)], [(13, (_, _)), (7001, (_, _))]⟩) (le_w [some 13, some 7001] rfl ⟨⟨_, rfl, .refl _⟩, ⟨⟨_, rfl, .refl _⟩, ⟨⟨_, rfl, .refl _⟩, ⟨⟨_, rfl, .refl _⟩, ⟨⟨_, rfl, .refl _⟩, trivial⟩⟩⟩⟩⟩ ⟨⟨_, rfl, .refl _⟩, ⟨⟨_, rfl, .refl _⟩, trivial⟩⟩ (by decide)) ?_
    refine good_seq fun K10 hK10 => ?_
    refine good_region ?_
    obtain ⟨hb3, h⟩ := ifS h
    refine g_op rfl (o_callB (q := 13) (y := 7001) (core_value rfl rfl) (writeByte_does b1 7001 _ _ 47 (by decide) hb3) (.cons (.ptr _ _ _ _) (.cons (.refl _) .nil)) rfl rfl rfl rfl ?_)
    intro w3
    refine g_nil ?_
    refine hK10 _ ?_
    refine Good.le (σ' := ⟨35, [(3, _), (5, _), (7, _), (8, _), (9, _)], [(13, (_, _)), (7001, (_, _))]⟩) (le_w [some 13, some 7001] rfl ⟨⟨_, rfl, .refl _⟩, ⟨⟨_, rfl, .refl _⟩, ⟨⟨_, rfl, .refl _⟩, ⟨⟨_, rfl, .refl _⟩, ⟨⟨_, rfl, .refl _⟩, trivial⟩⟩⟩⟩⟩ ⟨⟨_, rfl, .refl _⟩, ⟨⟨_, rfl, .refl _⟩, trivial⟩⟩ (by decide)) ?_
    refine good_seq fun K11 hK11 => ?_
    refine good_region ?_
    refine g_op rfl (ValOk.op (v_move rfl rfl ?_)) 
    refine g_op rfl (ValOk.op (v_lenS tabOk rfl rfl tkind9 rfl ?_)) 
    refine g_op rfl (ValOk.op (v_move rfl rfl ?_)) 
    refine g_nil ?_
    refine hK11 _ ?_
    refine Good.le (σ' := ⟨35, [(3, _), (5, _), (7, _), (8, _), (9, _), (15, _), (16, _)], [(13, (_, _)), (7001, (_, _))]⟩) (le_w [some 13, some 7001] rfl ⟨⟨_, rfl, .refl _⟩, ⟨⟨_, rfl, .refl _⟩, ⟨⟨_, rfl, .refl _⟩, ⟨⟨_, rfl, .refl _⟩, ⟨⟨_, rfl, .refl _⟩, ⟨⟨_, rfl, .refl _⟩, ⟨⟨_, rfl, .refl _⟩, trivial⟩⟩⟩⟩⟩⟩⟩ ⟨⟨_, rfl, .refl _⟩, ⟨⟨_, rfl, .refl _⟩, trivial⟩⟩ (by decide)) ?_
    obtain ⟨o2, ho2, hJ2⟩ := bnd h
    have hw2 : ∀ (s2 : (List Int)) (w5 : Value), o2 = Lp.go s2 → ∀ σ', Le σ' ⟨35, [(3, .ptr 13 b1 0), (7, .sl false (a0.map encS)), (8, .int .i64 (a0.length : Int)), (9, .int .i64 x2)], [(13, ((.pointer (some ⟨b1, 0, none⟩)), .optr 55 [.adr b1, .hd 7001 w5])), (7001, (w5, .osl 5 1 (s2.map (encI .u8))))]⟩ → K8 σ' := by
      intro s2 w5 e2 σ' hle2
      subst e2
      refine hK8 _ (Good.le hle2 ?_)
      replace h := hJ2
      refine good_region ?_
      refine g_op rfl (ValOk.op (v_bin rfl rfl rfl rfl ?_)) 
      refine g_op rfl (ValOk.op (v_move rfl rfl ?_)) 
      refine g_nil ?_
      exact round_mk m1 (s2, IntKind.wrap .i64 (x2 + 1), w5) (Nat.lt_succ_self _) h (le_w [some 13, some 7001] rfl ⟨⟨_, rfl, .refl _⟩, ⟨⟨_, rfl, .refl _⟩, ⟨⟨_, rfl, .refl _⟩, ⟨⟨_, rfl, .refl _⟩, trivial⟩⟩⟩⟩ ⟨⟨_, rfl, .refl _⟩, ⟨⟨_, rfl, .refl _⟩, trivial⟩⟩ (by decide))
    replace h := ho2
    refine good_block ?_
    refine good_loopf (fun p : ((List Int) × Int × Value) => ⟨35, [(3, .ptr 13 b1 0), (5, .str (ix a0 x2)), (7, .sl false (a0.map encS)), (8, .int .i64 (a0.length : Int)), (9, .int .i64 x2), (15, .int .i64 ((ix a0 x2).length : Int)), (16, .int .i64 p.2.1)], [(13, ((.pointer (some ⟨b1, 0, none⟩)), .optr 55 [.adr b1, .hd 7001 p.2.2])), (7001, (p.2.2, .osl 5 1 (p.1.map (encI .u8))))]⟩) (fun m p => m_impl_PointerText_l2 m a0 x2 p.1 p.2.1 = some o2) m1 (x1 ++ [47], 0, w3) (le_w [some 13, some 7001] rfl ⟨⟨_, rfl, .refl _⟩, ⟨⟨_, rfl, .refl _⟩, ⟨⟨_, rfl, .refl _⟩, ⟨⟨_, rfl, .refl _⟩, ⟨⟨_, rfl, .refl _⟩, ⟨⟨_, rfl, .refl _⟩, ⟨⟨_, rfl, .refl _⟩, trivial⟩⟩⟩⟩⟩⟩⟩ ⟨⟨_, rfl, .refl _⟩, ⟨⟨_, rfl, .refl _⟩, trivial⟩⟩ (by decide)) h ?_
    rintro m2 ⟨x3, x4, w4⟩ h
    replace h : m_impl_PointerText_l2 m2 a0 x2 x3 x4 = some o2 := h
    refine Good.le (σ' := ⟨35, [(3, .ptr 13 b1 0), (5, .str (ix a0 x2)), (7, .sl false (a0.map encS)), (8, .int .i64 (a0.length : Int)), (9, .int .i64 x2), (15, .int .i64 ((ix a0 x2).length : Int)), (16, .int .i64 x4)], [(13, ((.pointer (some ⟨b1, 0, none⟩)), .optr 55 [.adr b1, .hd 7001 w4])), (7001, (w4, .osl 5 1 (x3.map (encI .u8))))]⟩) (Le.refl _) ?_
    obtain ⟨m2, rfl⟩ : ∃ m', m2 = m' + 1 := by cases m2 with | zero => (rw [m_impl_PointerText_l2] at h; cases h) | succ m' => exact ⟨m', rfl⟩
    rw [m_impl_PointerText_l2] at h
    refine good_seq fun K12 hK12 => ?_
    refine good_region ?_
    refine g_op rfl (ValOk.op (v_bin rfl rfl rfl rfl ?_)) 
    refine g_nil ?_
    refine hK12 _ ?_
    refine good_seq fun K13 hK13 => ?_
    refine good_cond rfl (fun hc2 => ?_) (fun hc2 => ?_)
    · replace h := ifT h (dT hc2)
      refine good_skip ?_
      refine hK13 _ ?_
      refine Good.le (σ' := ⟨35, [(3, _), (5, _), (7, _), (8, _), (9, _), (15, _), (16, _)], [(13, (_, _)), (7001, (_, _))]⟩) (le_w [some 13, some 7001] rfl ⟨⟨_, rfl, .refl _⟩, ⟨⟨_, rfl, .refl _⟩, ⟨⟨_, rfl, .refl _⟩, ⟨⟨_, rfl, .refl _⟩, ⟨⟨_, rfl, .refl _⟩, ⟨⟨_, rfl, .refl _⟩, ⟨⟨_, rfl, .refl _⟩, trivial⟩⟩⟩⟩⟩⟩⟩ ⟨⟨_, rfl, .refl _⟩, ⟨⟨_, rfl, .refl _⟩, trivial⟩⟩ (by decide)) ?_
      refine good_seq fun K14 hK14 => ?_
      refine good_block ?_
      refine good_seq fun K15 hK15 => ?_
      refine good_region ?_
      refine g_op rfl (ValOk.op (v_move rfl rfl ?_)) 
      refine g_op rfl (ValOk.op (v_assign rfl rfl ?_)) 
      refine g_nil ?_
      refine hK15 _ ?_
      refine Good.le (σ' := ⟨35, [(3, _), (5, _), (6, _), (7, _), (8, _), (9, _), (15, _), (16, _)], [(13, (_, _)), (7001, (_, _))]⟩) (le_w [some 13, some 7001] rfl ⟨⟨_, rfl, .refl _⟩, ⟨⟨_, rfl, .refl _⟩, ⟨⟨_, rfl, .refl _⟩, ⟨⟨_, rfl, .refl _⟩, ⟨⟨_, rfl, .refl _⟩, ⟨⟨_, rfl, .refl _⟩, ⟨⟨_, rfl, .refl _⟩, ⟨⟨_, rfl, .refl _⟩, trivial⟩⟩⟩⟩⟩⟩⟩⟩ ⟨⟨_, rfl, .refl _⟩, ⟨⟨_, rfl, .refl _⟩, trivial⟩⟩ (by decide)) ?_
      refine good_seq fun K16 hK16 => ?_
      refine good_region ?_
      refine g_op rfl (ValOk.op (v_move rfl rfl ?_)) 
      refine g_op rfl (ValOk.op (v_move rfl rfl ?_)) 
      obtain ⟨hb4, h⟩ := ifS h
      refine g_op rfl (ValOk.op (v_indexM tabOk rfl rfl tkind9 hb4 rfl ?_)) 
      refine g_nil ?_
      refine hK16 _ ?_
      refine Good.le (σ' := ⟨35, [(3, _), (5, _), (6, _), (7, _), (8, _), (9, _), (15, _), (16, _), (21, _)], [(13, (_, _)), (7001, (_, _))]⟩) (le_w [some 13, some 7001] rfl ⟨⟨_, rfl, .refl _⟩, ⟨⟨_, rfl, .refl _⟩, ⟨⟨_, rfl, .refl _⟩, ⟨⟨_, rfl, .refl _⟩, ⟨⟨_, rfl, .refl _⟩, ⟨⟨_, rfl, .refl _⟩, ⟨⟨_, rfl, .refl _⟩, ⟨⟨_, rfl, .refl _⟩, ⟨⟨_, rfl, .refl _⟩, trivial⟩⟩⟩⟩⟩⟩⟩⟩⟩ ⟨⟨_, rfl, .refl _⟩, ⟨⟨_, rfl, .refl _⟩, trivial⟩⟩ (by decide)) ?_
      refine good_block ?_
      refine good_seq fun K17 hK17 => ?_
      refine good_region ?_
      refine g_op rfl (ValOk.op (v_bin rfl rfl rfl rfl ?_)) 
      refine g_op rfl (ValOk.op (v_assign rfl rfl ?_)) 
      refine g_nil ?_
      refine hK17 _ ?_
      refine Good.le (σ' := ⟨35, [(3, _), (5, _), (6, _), (7, _), (8, _), (9, _), (15, _), (16, _), (21, _), (26, _)], [(13, (_, _)), (7001, (_, _))]⟩) (le_w [some 13, some 7001] rfl ⟨⟨_, rfl, .refl _⟩, ⟨⟨_, rfl, .refl _⟩, ⟨⟨_, rfl, .refl _⟩, ⟨⟨_, rfl, .refl _⟩, ⟨⟨_, rfl, .refl _⟩, ⟨⟨_, rfl, .refl _⟩, ⟨⟨_, rfl, .refl _⟩, ⟨⟨_, rfl, .refl _⟩, ⟨⟨_, rfl, .refl _⟩, ⟨⟨_, rfl, .refl _⟩, trivial⟩⟩⟩⟩⟩⟩⟩⟩⟩⟩ ⟨⟨_, rfl, .refl _⟩, ⟨⟨_, rfl, .refl _⟩, trivial⟩⟩ (by decide)) ?_
      refine good_cond rfl (fun hc3 => ?_) (fun hc3 => ?_)
      · replace h := ifT h (dT hc3)
        refine good_region ?_
        obtain ⟨hb5, h⟩ := ifS h
        refine g_op rfl (o_callB (q := 13) (y := 7001) (core_value rfl rfl) (writeString_does b1 7001 _ _ [126, 48] hb5) (.cons (.ptr _ _ _ _) (.cons (.refl _) .nil)) rfl rfl rfl rfl ?_)
        intro w6
        refine g_nil ?_
        refine hK14 _ ?_
        refine Good.le (σ' := ⟨35, [(3, _), (5, _), (7, _), (8, _), (9, _), (15, _), (16, _)], [(13, (_, _)), (7001, (_, _))]⟩) (le_w [some 13, some 7001] rfl ⟨⟨_, rfl, .refl _⟩, ⟨⟨_, rfl, .refl _⟩, ⟨⟨_, rfl, .refl _⟩, ⟨⟨_, rfl, .refl _⟩, ⟨⟨_, rfl, .refl _⟩, ⟨⟨_, rfl, .refl _⟩, ⟨⟨_, rfl, .refl _⟩, trivial⟩⟩⟩⟩⟩⟩⟩ ⟨⟨_, rfl, .refl _⟩, ⟨⟨_, rfl, .refl _⟩, trivial⟩⟩ (by decide)) ?_
        refine good_region ?_
        refine g_op rfl (ValOk.op (v_bin rfl rfl rfl rfl ?_)) 
        refine g_op rfl (ValOk.op (v_move rfl rfl ?_)) 
        refine g_nil ?_
        exact round_mk m2 (x3 ++ toI [126, 48], IntKind.wrap .i64 (x4 + 1), w6) (Nat.lt_succ_self _) h (le_w [some 13, some 7001] rfl ⟨⟨_, rfl, .refl _⟩, ⟨⟨_, rfl, .refl _⟩, ⟨⟨_, rfl, .refl _⟩, ⟨⟨_, rfl, .refl _⟩, ⟨⟨_, rfl, .refl _⟩, ⟨⟨_, rfl, .refl _⟩, ⟨⟨_, rfl, .refl _⟩, trivial⟩⟩⟩⟩⟩⟩⟩ ⟨⟨_, rfl, .refl _⟩, ⟨⟨_, rfl, .refl _⟩, trivial⟩⟩ (by decide))
      · replace h := ifF h (dF hc3)
        refine good_seq fun K18 hK18 => ?_
        refine good_region ?_
        refine g_op rfl (ValOk.op (v_bin rfl rfl rfl rfl ?_)) 
        refine g_op rfl (ValOk.op (v_assign rfl rfl ?_)) 
        refine g_nil ?_
        refine hK18 _ ?_
        refine Good.le (σ' := ⟨35, [(3, _), (5, _), (6, _), (7, _), (8, _), (9, _), (15, _), (16, _), (29, _)], [(13, (_, _)), (7001, (_, _))]⟩) (le_w [some 13, some 7001] rfl ⟨⟨_, rfl, .refl _⟩, ⟨⟨_, rfl, .refl _⟩, ⟨⟨_, rfl, .refl _⟩, ⟨⟨_, rfl, .refl _⟩, ⟨⟨_, rfl, .refl _⟩, ⟨⟨_, rfl, .refl _⟩, ⟨⟨_, rfl, .refl _⟩, ⟨⟨_, rfl, .refl _⟩, ⟨⟨_, rfl, .refl _⟩, trivial⟩⟩⟩⟩⟩⟩⟩⟩⟩ ⟨⟨_, rfl, .refl _⟩, ⟨⟨_, rfl, .refl _⟩, trivial⟩⟩ (by decide)) ?_
        refine good_cond rfl (fun hc4 => ?_) (fun hc4 => ?_)
        · replace h := ifT h (dT hc4)
          refine good_region ?_
          obtain ⟨hb6, h⟩ := ifS h
          refine g_op rfl (o_callB (q := 13) (y := 7001) (core_value rfl rfl) (writeString_does b1 7001 _ _ [126, 49] hb6) (.cons (.ptr _ _ _ _) (.cons (.refl _) .nil)) rfl rfl rfl rfl ?_)
          intro w7
          refine g_nil ?_
          refine hK14 _ ?_
          refine Good.le (σ' := ⟨35, [(3, _), (5, _), (7, _), (8, _), (9, _), (15, _), (16, _)], [(13, (_, _)), (7001, (_, _))]⟩) (le_w [some 13, some 7001] rfl ⟨⟨_, rfl, .refl _⟩, ⟨⟨_, rfl, .refl _⟩, ⟨⟨_, rfl, .refl _⟩, ⟨⟨_, rfl, .refl _⟩, ⟨⟨_, rfl, .refl _⟩, ⟨⟨_, rfl, .refl _⟩, ⟨⟨_, rfl, .refl _⟩, trivial⟩⟩⟩⟩⟩⟩⟩ ⟨⟨_, rfl, .refl _⟩, ⟨⟨_, rfl, .refl _⟩, trivial⟩⟩ (by decide)) ?_
          refine good_region ?_
          refine g_op rfl (ValOk.op (v_bin rfl rfl rfl rfl ?_)) 
          refine g_op rfl (ValOk.op (v_move rfl rfl ?_)) 
          refine g_nil ?_
          exact round_mk m2 (x3 ++ toI [126, 49], IntKind.wrap .i64 (x4 + 1), w7) (Nat.lt_succ_self _) h (le_w [some 13, some 7001] rfl ⟨⟨_, rfl, .refl _⟩, ⟨⟨_, rfl, .refl _⟩, ⟨⟨_, rfl, .refl _⟩, ⟨⟨_, rfl, .refl _⟩, ⟨⟨_, rfl, .refl _⟩, ⟨⟨_, rfl, .refl _⟩, ⟨⟨_, rfl, .refl _⟩, trivial⟩⟩⟩⟩⟩⟩⟩ ⟨⟨_, rfl, .refl _⟩, ⟨⟨_, rfl, .refl _⟩, trivial⟩⟩ (by decide))
        · replace h := ifF h (dF hc4)
          refine good_region ?_
          refine g_op rfl (ValOk.op (v_move rfl rfl ?_)) 
          refine g_op rfl (ValOk.op (v_move rfl rfl ?_)) 
          obtain ⟨hb7, h⟩ := ifS h
          refine g_op rfl (ValOk.op (v_indexM tabOk rfl rfl tkind9 hb7 rfl ?_)) 
          obtain ⟨hb8, h⟩ := ifS h
          refine g_op rfl (o_callB (q := 13) (y := 7001) (core_value rfl rfl) (writeByte_does b1 7001 _ _ (byt (ix a0 x2) x4) (by decide) hb8) (.cons (.ptr _ _ _ _) (.cons (.refl _) .nil)) rfl rfl rfl rfl ?_)
          intro w8
          refine g_nil ?_
          refine hK14 _ ?_
          refine Good.le (σ' := ⟨35, [(3, _), (5, _), (7, _), (8, _), (9, _), (15, _), (16, _)], [(13, (_, _)), (7001, (_, _))]⟩) (le_w [some 13, some 7001] rfl ⟨⟨_, rfl, .refl _⟩, ⟨⟨_, rfl, .refl _⟩, ⟨⟨_, rfl, .refl _⟩, ⟨⟨_, rfl, .refl _⟩, ⟨⟨_, rfl, .refl _⟩, ⟨⟨_, rfl, .refl _⟩, ⟨⟨_, rfl, .refl _⟩, trivial⟩⟩⟩⟩⟩⟩⟩ ⟨⟨_, rfl, .refl _⟩, ⟨⟨_, rfl, .refl _⟩, trivial⟩⟩ (by decide)) ?_
          refine good_region ?_
          refine g_op rfl (ValOk.op (v_bin rfl rfl rfl rfl ?_)) 
          refine g_op rfl (ValOk.op (v_move rfl rfl ?_)) 
          refine g_nil ?_
          exact round_mk m2 (x3 ++ [byt (ix a0 x2) x4], IntKind.wrap .i64 (x4 + 1), w8) (Nat.lt_succ_self _) h (le_w [some 13, some 7001] rfl ⟨⟨_, rfl, .refl _⟩, ⟨⟨_, rfl, .refl _⟩, ⟨⟨_, rfl, .refl _⟩, ⟨⟨_, rfl, .refl _⟩, ⟨⟨_, rfl, .refl _⟩, ⟨⟨_, rfl, .refl _⟩, ⟨⟨_, rfl, .refl _⟩, trivial⟩⟩⟩⟩⟩⟩⟩ ⟨⟨_, rfl, .refl _⟩, ⟨⟨_, rfl, .refl _⟩, trivial⟩⟩ (by decide))
    · replace h := ifF h (dF hc2)
      refine good_exit ?_
      exact hw2 x3 w4 (Option.some.inj h).symm _ (le_w [some 13, some 7001] rfl ⟨⟨_, rfl, .refl _⟩, ⟨⟨_, rfl, .refl _⟩, ⟨⟨_, rfl, .refl _⟩, ⟨⟨_, rfl, .refl _⟩, trivial⟩⟩⟩⟩ ⟨⟨_, rfl, .refl _⟩, ⟨⟨_, rfl, .refl _⟩, trivial⟩⟩ (by decide))
  · replace h := ifF h (dF hc1)
    refine good_exit ?_
    exact hw1 x1 w1 (Option.some.inj h).symm _ (le_w [some 13, some 7001] rfl ⟨⟨_, rfl, .refl _⟩, trivial⟩ ⟨⟨_, rfl, .refl _⟩, ⟨⟨_, rfl, .refl _⟩, trivial⟩⟩ (by decide))
def m_laws_pgTexts_l1 : Nat → (List Bs) → (List Bs) → Int → Option (Lp Unit Bool)
  | 0, _, _, _ => none
  | k + 1, a0, a1, x1 =>
    if x1 < (a0.length : Int) then
      if (0 : Int) ≤ x1 ∧ x1 < (a0.length : Int) then
        if (0 : Int) ≤ x1 ∧ x1 < (a1.length : Int) then
          if (ix a0 x1) = (ix a1 x1) then
            m_laws_pgTexts_l1 k a0 a1 (IntKind.wrap .i64 (x1 + 1))
          else
            (some false).bind fun z =>
            some (Lp.ret z)
        else none
      else none
    else
      some (Lp.go ())
def m_laws_pgTexts (k : Nat) (a0 : (List Bs)) (a1 : (List Bs)) : Option Bool :=
  if (a0.length : Int) = (a1.length : Int) then
    (m_laws_pgTexts_l1 k a0 a1 0).bind fun o1 =>
    o1.then fun s1 =>
    some true
  else
    some false
theorem m_laws_pgTexts_ok (k : Nat) : ∀ (a0 : (List Bs)) (a1 : (List Bs)) (r : Bool), m_laws_pgTexts k a0 a1 = some r → Does Tryd.prog 17 [.sl false (a0.map encS), .sl false (a1.map encS)] [] (ret (.bool r)) := by
  intro a0 a1 r h
  rw [m_laws_pgTexts] at h
  refine does_of_good tabOk Tryd.func17 rfl (by decide +kernel) (Nat.le_of_ble_eq_true rfl) fun c => ?_
  refine Good.le (σ' := ⟨26, [(0, .sl false (a0.map encS)), (1, .sl false (a1.map encS))], []⟩) (Le.refl _) ?_
  refine good_seq fun K1 hK1 => ?_
  refine good_region ?_
  refine g_op rfl (ValOk.op (v_assign rfl rfl ?_)) 
  refine g_nil ?_
  refine hK1 _ ?_
  refine good_seq fun K2 hK2 => ?_
  refine good_seq fun K3 hK3 => ?_
  refine good_region ?_
  refine g_op rfl (ValOk.op (v_move rfl rfl ?_)) 
  refine g_op rfl (ValOk.op (v_lenM (l := a0) (f := encS) tabOk rfl rfl telem24 rfl ?_)) 
  refine g_op rfl (ValOk.op (v_move rfl rfl ?_)) 
  refine g_op rfl (ValOk.op (v_lenM (l := a1) (f := encS) tabOk rfl rfl telem24 rfl ?_)) 
  refine g_op rfl (ValOk.op (v_bin rfl rfl rfl rfl ?_)) 
  refine g_nil ?_
  refine hK3 _ ?_
  refine Good.le (σ' := ⟨26, [(0, _), (1, _), (4, _), (10, _)], []⟩) (le_w [] rfl ⟨⟨_, rfl, .refl _⟩, ⟨⟨_, rfl, .refl _⟩, ⟨⟨_, rfl, .refl _⟩, ⟨⟨_, rfl, .refl _⟩, trivial⟩⟩⟩⟩ trivial (by decide)) ?_
  refine good_cond rfl (fun hc1 => ?_) (fun hc1 => ?_)
  · replace h := ifF h (ndT hc1)
    refine good_seq fun K4 hK4 => ?_
    refine good_region ?_
    refine g_op rfl (ValOk.op (v_assign rfl rfl ?_)) 
    refine g_nil ?_
    refine hK4 _ ?_
    refine Good.le (σ' := ⟨26, [(0, _), (1, _), (4, _)], []⟩) (le_w [] rfl ⟨⟨_, rfl, .refl _⟩, ⟨⟨_, rfl, .refl _⟩, ⟨⟨_, rfl, .refl _⟩, trivial⟩⟩⟩ trivial (by decide)) ?_
    refine Good.le (σ' := ⟨26, [(4, .bool false)], []⟩) (le_w [] rfl ⟨⟨_, rfl, .refl _⟩, trivial⟩ trivial (by decide)) ?_
    refine good_ret ?_
    obtain rfl := Option.some.inj h
    refine thenQ_ret ?_
    exact endQ_ret (h' := []) [] (.tmp rfl (.nil)) trivial (by decide) ⟨rfl, rfl⟩
  · replace h := ifT h (ndF hc1)
    refine good_skip ?_
    refine hK2 _ ?_
    refine Good.le (σ' := ⟨26, [(0, _), (1, _), (4, _)], []⟩) (le_w [] rfl ⟨⟨_, rfl, .refl _⟩, ⟨⟨_, rfl, .refl _⟩, ⟨⟨_, rfl, .refl _⟩, trivial⟩⟩⟩ trivial (by decide)) ?_
    refine good_seq fun K5 hK5 => ?_
    refine good_seq fun K6 hK6 => ?_
    refine good_region ?_
    refine g_op rfl (ValOk.op (v_assign rfl rfl ?_)) 
    refine g_nil ?_
    refine hK6 _ ?_
    obtain ⟨o1, ho1, hJ1⟩ := bnd h
    have hw1 : ∀ (s1 : Unit), o1 = Lp.go s1 → ∀ σ', Le σ' ⟨26, [(4, .bool false)], []⟩ → K5 σ' := by
      intro s1 e1 σ' hle1
      subst e1
      refine hK5 _ (Good.le hle1 ?_)
      replace h := hJ1
      refine good_seq fun K7 hK7 => ?_
      refine good_region ?_
      refine g_op rfl (ValOk.op (v_assign rfl rfl ?_)) 
      refine g_nil ?_
      refine hK7 _ ?_
      refine Good.le (σ' := ⟨26, [(4, .bool true)], []⟩) (le_w [] rfl ⟨⟨_, rfl, .refl _⟩, trivial⟩ trivial (by decide)) ?_
      refine good_ret ?_
      obtain rfl := Option.some.inj h
      exact endQ_ret (h' := []) [] (.tmp rfl (.nil)) trivial (by decide) ⟨rfl, rfl⟩
    replace h := ho1
    refine good_block ?_
    refine good_loopf (fun p : Int => ⟨26, [(0, .sl false (a0.map encS)), (1, .sl false (a1.map encS)), (4, .bool false), (5, .int .i64 p)], []⟩) (fun m p => m_laws_pgTexts_l1 m a0 a1 p = some o1) k (0) (le_w [] rfl ⟨⟨_, rfl, .refl _⟩, ⟨⟨_, rfl, .refl _⟩, ⟨⟨_, rfl, .refl _⟩, ⟨⟨_, rfl, .refl _⟩, trivial⟩⟩⟩⟩ trivial (by decide)) h ?_
    rintro m1 x1 h
    replace h : m_laws_pgTexts_l1 m1 a0 a1 x1 = some o1 := h
    refine Good.le (σ' := ⟨26, [(0, .sl false (a0.map encS)), (1, .sl false (a1.map encS)), (4, .bool false), (5, .int .i64 x1)], []⟩) (Le.refl _) ?_
    obtain ⟨m1, rfl⟩ : ∃ m', m1 = m' + 1 := by cases m1 with | zero => (rw [m_laws_pgTexts_l1] at h; cases h) | succ m' => exact ⟨m', rfl⟩
    rw [m_laws_pgTexts_l1] at h
    refine good_seq fun K8 hK8 => ?_
    refine good_seq fun K9 hK9 => ?_
    refine good_region ?_
    refine g_op rfl (ValOk.op (v_move rfl rfl ?_)) 
    refine g_op rfl (ValOk.op (v_move rfl rfl ?_)) 
    refine g_op rfl (ValOk.op (v_lenM (l := a0) (f := encS) tabOk rfl rfl telem24 rfl ?_)) 
    refine g_op rfl (ValOk.op (v_bin rfl rfl rfl rfl ?_)) 
    refine g_nil ?_
    refine hK9 _ ?_
    refine Good.le (σ' := ⟨26, [(0, _), (1, _), (4, _), (5, _), (14, _)], []⟩) (le_w [] rfl ⟨⟨_, rfl, .refl _⟩, ⟨⟨_, rfl, .refl _⟩, ⟨⟨_, rfl, .refl _⟩, ⟨⟨_, rfl, .refl _⟩, ⟨⟨_, rfl, .refl _⟩, trivial⟩⟩⟩⟩⟩ trivial (by decide)) ?_
    refine good_cond rfl (fun hc2 => ?_) (fun hc2 => ?_)
    · replace h := ifT h (dT hc2)
      refine good_skip ?_
      refine hK8 _ ?_
      refine Good.le (σ' := ⟨26, [(0, _), (1, _), (4, _), (5, _)], []⟩) (le_w [] rfl ⟨⟨_, rfl, .refl _⟩, ⟨⟨_, rfl, .refl _⟩, ⟨⟨_, rfl, .refl _⟩, ⟨⟨_, rfl, .refl _⟩, trivial⟩⟩⟩⟩ trivial (by decide)) ?_
      refine good_seq fun K10 hK10 => ?_
      refine good_block ?_
      refine good_seq fun K11 hK11 => ?_
      refine good_draw (by kernel_rfl) (by kernel_rfl) ?_
      refine q_op rfl (v_move rfl rfl ?_) 
      refine q_op rfl (v_move rfl rfl ?_) 
      obtain ⟨hb1, h⟩ := ifS h
      refine q_op rfl (v_idxM tabOk rfl rfl telem24 tsize9 hb1 rfl rfl rfl ?_) 
      refine q_op rfl (v_loadE tabOk rfl tsize9 tagg9 rfl rfl rfl ?_) 
      refine q_op rfl (v_move rfl rfl ?_) 
      refine q_op rfl (v_move rfl rfl ?_) 
      obtain ⟨hb2, h⟩ := ifS h
      refine q_op rfl (v_idxM tabOk rfl rfl telem24 tsize9 hb2 rfl rfl rfl ?_) 
      refine q_op rfl (v_loadE tabOk rfl tsize9 tagg9 rfl rfl rfl ?_) 
      refine q_op rfl (v_bin rfl rfl rfl rfl ?_) 
      refine q_nil ?_
      refine hK11 _ ?_
      refine Good.le (σ' := ⟨26, [(0, _), (1, _), (4, _), (5, _), (25, _)], []⟩) (le_w [] rfl ⟨⟨_, rfl, .refl _⟩, ⟨⟨_, rfl, .refl _⟩, ⟨⟨_, rfl, .refl _⟩, ⟨⟨_, rfl, .refl _⟩, ⟨⟨_, rfl, .refl _⟩, trivial⟩⟩⟩⟩⟩ trivial (by decide)) ?_
      refine good_cond rfl (fun hc3 => ?_) (fun hc3 => ?_)
      · replace h := ifF h (ndT hc3)
        refine good_seq fun K12 hK12 => ?_
        refine good_region ?_
        refine g_op rfl (ValOk.op (v_assign rfl rfl ?_)) 
        refine g_nil ?_
        refine hK12 _ ?_
        refine Good.le (σ' := ⟨26, [(0, _), (1, _), (4, _), (5, _)], []⟩) (le_w [] rfl ⟨⟨_, rfl, .refl _⟩, ⟨⟨_, rfl, .refl _⟩, ⟨⟨_, rfl, .refl _⟩, ⟨⟨_, rfl, .refl _⟩, trivial⟩⟩⟩⟩ trivial (by decide)) ?_
        refine Good.le (σ' := ⟨26, [(4, .bool false)], []⟩) (le_w [] rfl ⟨⟨_, rfl, .refl _⟩, trivial⟩ trivial (by decide)) ?_
        refine good_ret ?_
        replace h := unret h hJ1
        obtain rfl := Option.some.inj h
        refine blockQ_ret ?_
        refine thenQ_ret ?_
        refine thenQ_ret ?_
        refine blockQ_ret ?_
        refine thenQ_ret ?_
        exact endQ_ret (h' := []) [] (.tmp rfl (.nil)) trivial (by decide) ⟨rfl, rfl⟩
      · replace h := ifT h (ndF hc3)
        refine good_skip ?_
        refine hK10 _ ?_
        refine Good.le (σ' := ⟨26, [(0, _), (1, _), (4, _), (5, _)], []⟩) (le_w [] rfl ⟨⟨_, rfl, .refl _⟩, ⟨⟨_, rfl, .refl _⟩, ⟨⟨_, rfl, .refl _⟩, ⟨⟨_, rfl, .refl _⟩, trivial⟩⟩⟩⟩ trivial (by decide)) ?_
        refine good_region ?_
        refine g_op rfl (ValOk.op (v_move rfl rfl ?_)) 
        refine g_op rfl (ValOk.op (v_bin rfl rfl rfl rfl ?_)) 
        refine g_op rfl (ValOk.op (v_assign rfl rfl ?_)) 
        refine g_nil ?_
        exact round_mk m1 (IntKind.wrap .i64 (x1 + 1)) (Nat.lt_succ_self _) h (le_w [] rfl ⟨⟨_, rfl, .refl _⟩, ⟨⟨_, rfl, .refl _⟩, ⟨⟨_, rfl, .refl _⟩, ⟨⟨_, rfl, .refl _⟩, trivial⟩⟩⟩⟩ trivial (by decide))
    · replace h := ifF h (dF hc2)
      refine good_exit ?_
      exact hw1 () (Option.some.inj h).symm _ (le_w [] rfl ⟨⟨_, rfl, .refl _⟩, trivial⟩ trivial (by decide))
def m_spec_DrawPointerGet (a0 : (List Int)) : Option Bs :=
  (m_spec_l1Open a0).bind fun y1 =>
  (m_spec_l1Rd_of y1 [[], [47], [47, 97, 47, 48], [47, 126, 48, 126, 49], [47, 126], [47, 126, 50], [97], [47, 47], [47, 97, 126, 49, 98, 47, 126, 48, 49]]).bind fun y2 =>
  some y2.1
theorem m_spec_DrawPointerGet_ok : ∀ (a0 : (List Int)) (r : Bs), m_spec_DrawPointerGet a0 = some r → Does Tryd.prog 18 [.sl false (a0.map (encI .u8))] [] (ret (.str r)) := by
  intro a0 r h
  rw [m_spec_DrawPointerGet] at h
  refine does_of_good tabOk Tryd.func18 rfl (by decide +kernel) (Nat.le_of_ble_eq_true rfl) fun c => ?_
  refine Good.le (σ' := ⟨9, [(0, .sl false (a0.map (encI .u8)))], []⟩) (Le.refl _) ?_
  refine good_seq fun K1 hK1 => ?_
  refine good_region ?_
  refine g_op rfl (ValOk.op (v_assign rfl rfl ?_)) 
  refine g_nil ?_
  refine hK1 _ ?_
  refine good_seq fun K2 hK2 => ?_
  refine good_region ?_
  refine g_op rfl (ValOk.op (v_move rfl rfl ?_)) 
  obtain ⟨y1, hy1, h⟩ := bnd h
  refine g_op rfl (o_callD [] [] [] (core_value rfl rfl) (m_spec_l1Open_ok a0 _ hy1) trivial (.cons (.refl _) (.nil)) trivial rfl rfl rfl ?_)
  rintro _ _ ⟨b1, rfl, rfl⟩
  refine ⟨.ptr 3001 b1 0, [(3001, _)], .ptr _ _ _ _, rfl, rfl, rfl, rfl, .inl rfl, ?_⟩
  refine g_op rfl (ValOk.op (v_assign rfl rfl ?_)) 
  refine g_nil ?_
  refine hK2 _ ?_
  refine Good.le (σ' := ⟨9, [(2, _), (3, _)], [(3001, (_, _))]⟩) (le_w [some 3001] rfl ⟨⟨_, rfl, .refl _⟩, ⟨⟨_, rfl, .refl _⟩, trivial⟩⟩ ⟨⟨_, rfl, .refl _⟩, trivial⟩ (by decide)) ?_
  refine good_seq fun K3 hK3 => ?_
  refine good_region ?_
  refine g_op rfl (ValOk.op (v_move rfl rfl ?_)) 
  refine g_op rfl (o_buildSlice (k := 17) (rows := [[], [47], [47, 97, 47, 48], [47, 126, 48, 126, 49], [47, 126], [47, 126, 50], [97], [47, 47], [47, 97, 126, 49, 98, 47, 126, 48, 49]].map encS) tabOk telem24 tsize9 rfl rfl rfl rfl (by decide) (by decide) (by rw [tzero9]; rfl) rfl rfl rfl rfl rfl ?_)
  intro w1
  refine g_le (σ1 := ⟨9, [(2, .str []), (6, .ptr 3001 b1 0), (7, .sl false ([[], [47], [47, 97, 47, 48], [47, 126, 48, 126, 49], [47, 126], [47, 126, 50], [97], [47, 47], [47, 97, 126, 49, 98, 47, 126, 48, 49]].map encS))], [(3001, ((.pointer (some ⟨b1, 0, none⟩)), .optr 73 [.sl false (y1.b.map (encI .u8)), .int .i64 y1.p]))]⟩) (le_of [17] [(_, _)] [some 3001] rfl ⟨⟨_, rfl, .osl (FrzLL.map fun _ _ => encS_frz _)⟩, trivial⟩ ⟨⟨_, rfl, .refl _⟩, ⟨⟨_, rfl, .refl _⟩, ⟨⟨_, rfl, .frz _ _ _ (.head _)⟩, trivial⟩⟩⟩ ⟨⟨_, rfl, .refl _⟩, trivial⟩ (by decide) (by decide)) ?_
  obtain ⟨y2, hy2, h⟩ := bnd h
  refine g_op rfl (o_callP (q := 3001) (core_value rfl rfl) (m_spec_l1Rd_of_ok y1 [[], [47], [47, 97, 47, 48], [47, 126, 48, 126, 49], [47, 126], [47, 126, 50], [97], [47, 47], [47, 97, 126, 49, 98, 47, 126, 48, 49]] b1 _ hy2) (.cons (.ptr _ _ _ _) (.cons (.refl _) (.nil))) rfl rfl ?_)
  refine g_op rfl (ValOk.op (v_assign rfl rfl ?_)) 
  refine g_nil ?_
  refine hK3 _ ?_
  refine Good.le (σ' := ⟨9, [(2, _)], []⟩) (le_w [] rfl ⟨⟨_, rfl, .refl _⟩, trivial⟩ trivial (by decide)) ?_
  refine Good.le (σ' := ⟨9, [(2, .str y2.1)], []⟩) (le_w [] rfl ⟨⟨_, rfl, .refl _⟩, trivial⟩ trivial (by decide)) ?_
  refine good_ret ?_
  obtain rfl := Option.some.inj h
  exact endQ_ret (h' := []) [] (.tmp rfl (.nil)) trivial (by decide) ⟨rfl, rfl⟩
end Go.Proofs.YtopbbjoflopjbaaDoor
