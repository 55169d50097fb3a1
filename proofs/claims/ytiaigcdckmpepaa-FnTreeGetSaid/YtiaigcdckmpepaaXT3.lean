/- Parts of a proof, put together; the conditions stand in each theorem. -/
import Derived.Test.YtiaigcdckmpepaaXT2
section
/-! Outcomes, with enough fuel. -/
set_option linter.unusedVariables false
set_option linter.unusedSimpArgs false
namespace Go.Bb
/-- With enough fuel each outcome is r. -/
def WEv {R : Type} (m : Nat → W R) (r : R) : Prop := ∃ K, ∀ k, K ≤ k → ∀ q : R → Prop, q r → m k q
section
variable {R S Y : Type}
theorem WEv.get {m : Nat → W R} {r : R} (h : WEv m r) : ∃ K, ∀ k, K ≤ k → m k (fun x => x = r) := let ⟨K, h⟩ := h; ⟨K, fun k hk => h k hk _ rfl⟩
theorem we_pw (r : R) : WEv (fun _ => pw r) r := ⟨0, fun _ _ _ h => h⟩
theorem we_eq {m : Nat → W R} {r r' : R} (h : WEv m r) (e : r = r') : WEv m r' := e ▸ h
theorem we_shift {m : Nat → W R} {r : R} : WEv m r ↔ WEv (fun k => m (k + 1)) r :=
  ⟨fun ⟨K, h⟩ => ⟨K, fun k hk => h (k + 1) (by omega)⟩, fun ⟨K, h⟩ => ⟨K + 1, fun k hk => by obtain ⟨j, rfl⟩ : ∃ j, k = j + 1 := ⟨k - 1, by omega⟩; exact h j (by omega)⟩⟩
theorem weT {c : Prop} [Decidable c] {f g : Nat → W R} {r : R} (hc : c) : WEv (fun k => if c then f k else g k) r ↔ WEv f r := by simp only [if_pos hc]
theorem weF {c : Prop} [Decidable c] {f g : Nat → W R} {r : R} (hc : ¬ c) : WEv (fun k => if c then f k else g k) r ↔ WEv g r := by simp only [if_neg hc]
theorem we_cw {c : Nat → Option Y} {f : Nat → Y → W R} {y : Y} {r : R} (h : Ev c y) (h2 : WEv (fun k => f k y) r) : WEv (fun k => cw (c k) (f k)) r := by
  obtain ⟨K, h⟩ := h
  obtain ⟨K2, h2⟩ := h2
  exact ⟨max K K2, fun k hk q hq => ⟨y, h k (by omega), h2 k (by omega) q hq⟩⟩
theorem we_lk {c : Prop} {a b : Nat → W R} {r : R} (hb : WEv b r) (ha : c → WEv a r) : WEv (fun k => lk c (a k) (b k)) r := by
  obtain ⟨K, hb⟩ := hb
  by_cases hc : c
  · obtain ⟨K2, ha⟩ := ha hc
    exact ⟨max K K2, fun k hk q hq => ⟨hb k (by omega) q hq, fun _ => ha k (by omega) q hq⟩⟩
  · exact ⟨K, fun k hk q hq => ⟨hb k hk q hq, fun h => absurd h hc⟩⟩
theorem we_go {m : Nat → W (Lp S R)} {f : Nat → S → W R} {s : S} {r : R} (h : WEv m (.go s)) (h2 : WEv (fun k => f k s) r) : WEv (fun k => tw (m k) (f k)) r := by
  obtain ⟨K, h⟩ := h
  obtain ⟨K2, h2⟩ := h2
  exact ⟨max K K2, fun k hk q hq => h k (by omega) _ (h2 k (by omega) q hq)⟩
theorem we_ret {m : Nat → W (Lp S R)} {f : Nat → S → W R} {r : R} (h : WEv m (.ret r)) : WEv (fun k => tw (m k) (f k)) r := by
  obtain ⟨K, h⟩ := h
  exact ⟨K, fun k hk q hq => h k hk _ hq⟩
theorem we_rtw {m : Nat → W R} {r : R} (h : WEv m r) : WEv (fun k => (rtw (m k) : W (Lp S R))) (.ret r) := by
  obtain ⟨K, h⟩ := h
  exact ⟨K, fun k hk q hq => h k hk _ hq⟩
end
end Go.Bb
end
section
/-! Functions of the program. -/
set_option linter.unusedVariables false
set_option linter.unnecessarySimpa false
set_option maxRecDepth 100000
set_option maxHeartbeats 20000000
noncomputable section
namespace Go.Proofs.Ytiaigcdckmpepaa
open Go.Bb
def m_laws_markText_l1 : Nat → Int → Bs → Option (Lp Bs Bs)
 | 0, _, _ => none
 | k + 1, x1, x2 =>
  if 0 < x1 then
   if ((ofI [IntKind.wrap .u8 (IntKind.wrap .i64 (48 + (Int.tmod x1 10)))]) ++ x2).length ≤ maxLen then
    m_laws_markText_l1 k (IntKind.wrap .i64 (Int.tdiv x1 10)) ((ofI [IntKind.wrap .u8 (IntKind.wrap .i64 (48 + (Int.tmod x1 10)))]) ++ x2)
   else none
  else
   some (Lp.go x2)
def m_laws_markText (k : Nat) (a0 : Int) : Option Bs :=
 if a0 ≤ 0 then
  some [109, 48]
 else
  (m_laws_markText_l1 k a0 []).bind fun o1 =>
  o1.then fun s1 =>
  if ([109] ++ s1).length ≤ maxLen then
   some ([109] ++ s1)
  else none
theorem m_laws_markText_ok (k : Nat) : ∀ (a0 : Int) (r : Bs), m_laws_markText k a0 = some r → Does Try.prog 86 [.int .i64 a0] [] (ret (.str r)) := by
 intro a0 r h
 rw [m_laws_markText] at h
 refine does_of_good tabOk Try.func86 rfl (by decide +kernel) (Nat.le_of_ble_eq_true rfl) fun c => ?_
 refine Good.le (σ' := ⟨20, [(0, .int .i64 a0)], []⟩) (Le.refl _) ?_
 refine good_seq fun K1 hK1 => ?_
 refine rg 1 ?_
 refine g_nil (hK1 _ ?_)
 refine good_seq fun K2 hK2 => ?_
 refine good_seq fun K3 hK3 => ?_
 refine rg 2 ?_
 refine gk hK3 20 [0, 2, 5] [] ?_
 refine good_cond rfl (fun hc1 => ?_) (fun hc1 => ?_)
 ·replace h := ifT h (dT hc1)
  refine good_seq fun K4 hK4 => ?_
  refine rg 1 ?_
  refine gk hK4 20 [0, 2] [] ?_
  obtain rfl := Option.some.inj h
  exact rt
 ·replace h := ifF h (dF hc1)
  refine good_skip ?_
  refine hK2 _ (kp 20 [0, 2] [] ?_)
  refine good_seq fun K5 hK5 => ?_
  refine rg 1 ?_
  refine g_nil (hK5 _ ?_)
  refine good_seq fun K6 hK6 => ?_
  obtain ⟨o1, ho1, hJ1⟩ := bnd h
  have hw1 : ∀ (s1 : Bs), o1 = Lp.go s1 → ∀ σ', Le σ' ⟨20, [(2, .str []), (3, .str s1)], []⟩ → K6 σ' := by
   intro s1 e1 σ' hle1
   subst e1
   refine hK6 _ (Good.le hle1 ?_)
   replace h := hJ1
   refine good_seq fun K7 hK7 => ?_
   refine rg 1 ?_
   obtain ⟨hb1, h⟩ := ifS h
   refine g_op rfl (ValOk.op (v_cat rfl rfl hb1 rfl ?_))
   refine gs 1 ?_
   refine gk hK7 20 [2] [] ?_
   obtain rfl := Option.some.inj h
   exact rt
  replace h := ho1
  refine good_block ?_
  refine good_loopf (fun p : (Int × Bs) => ⟨20, [(0, .int .i64 p.1), (2, .str []), (3, .str p.2)], []⟩) (fun m p => m_laws_markText_l1 m p.1 p.2 = some o1) k (a0, []) (lw []) h ?_
  rintro m1 ⟨x1, x2⟩ h
  replace h : m_laws_markText_l1 m1 x1 x2 = some o1 := h
  refine Good.le (σ' := ⟨20, [(0, .int .i64 x1), (2, .str []), (3, .str x2)], []⟩) (Le.refl _) ?_
  obtain ⟨m1, rfl⟩ : ∃ m', m1 = m' + 1 := by cases m1 with | zero => (rw [m_laws_markText_l1] at h; cases h) | succ m' => exact ⟨m', rfl⟩
  rw [m_laws_markText_l1] at h
  refine good_seq fun K8 hK8 => ?_
  refine good_seq fun K9 hK9 => ?_
  refine rg 2 ?_
  refine gk hK9 20 [0, 2, 3, 7] [] ?_
  refine good_cond rfl (fun hc2 => ?_) (fun hc2 => ?_)
  ·replace h := ifT h (dT hc2)
   refine good_skip ?_
   refine hK8 _ (kp 20 [0, 2, 3] [] ?_)
   refine good_block ?_
   refine good_seq fun K10 hK10 => ?_
   refine rg 1 ?_
   refine g_op rfl (ValOk.op (v_rem rfl rfl (by decide) rfl ?_))
   refine gs 1 ?_
   refine g_op rfl (ValOk.op (v_convI tabOk rfl tkind3 tkind5 rfl ?_))
   refine g_op rfl (o_buildSlice (k := 22) (rows := [IntKind.wrap .u8 (IntKind.wrap .i64 (48 + (Int.tmod x1 10)))].map (encI .u8)) tabOk telem42 tsize5 rfl rfl rfl rfl (by decide) (by decide) (by rw [tzero5]; rfl) rfl rfl rfl rfl rfl ?_)
   intro w1
   refine g_op rfl (ValOk.op (v_bytesHI (q := 22) tabOk ⟨_, rfl⟩ rfl telem42 tkind5 tkind9 rfl ?_))
   refine gs 1 ?_
   obtain ⟨hb2, h⟩ := ifS h
   refine g_op rfl (ValOk.op (v_cat rfl rfl hb2 rfl ?_))
   refine gs 1 ?_
   refine gk hK10 20 [0, 2, 3] [] ?_
   refine rg 1 ?_
   refine g_op rfl (ValOk.op (v_quo rfl rfl (by decide) rfl ?_))
   refine gs 1 ?_
   refine g_nil ?_
   exact round_mk m1 (IntKind.wrap .i64 (Int.tdiv x1 10), (ofI [IntKind.wrap .u8 (IntKind.wrap .i64 (48 + (Int.tmod x1 10)))]) ++ x2) (Nat.lt_succ_self _) h (lw [])
  ·replace h := ifF h (dF hc2)
   refine good_exit ?_
   exact hw1 x2 (Option.some.inj h).symm _ (lw [])
def m_laws_markStringS_l1 : Nat → (List Bs) → Int → Int → Option (Lp ((List Bs) × Int) (Int × (List Bs)))
 | 0, _, _, _ => none
 | k + 1, x1, x2, x3 =>
  if x3 < (x1.length : Int) then
   (m_laws_markText k x2).bind fun y1 =>
   if (0 : Int) ≤ x3 ∧ x3 < (x1.length : Int) then
    m_laws_markStringS_l1 k (x1.set (Int.toNat x3) y1) (IntKind.wrap .i64 (x2 + 1)) (IntKind.wrap .i64 (x3 + 1))
   else none
  else
   some (Lp.go (x1, x2))
def m_laws_markStringS (k : Nat) (a0 : (List Bs)) (a1 : Int) : Option (Int × (List Bs)) :=
 (m_laws_markStringS_l1 k a0 a1 0).bind fun o1 =>
 o1.then fun s1 =>
  some (s1.2, s1.1)
theorem m_laws_markStringS_ok (k : Nat) : ∀ (a0 : (List Bs)) (a1 : Int) (v0_0 : Value) (r : (Int × (List Bs))), m_laws_markStringS k a0 a1 = some r → Does Try.prog 58 [.hd 0 v0_0, .int .i64 a1] [(0, (v0_0, .osl 9 1 (a0.map encS)))] (fun q h' => q = .int .i64 r.1 ∧ h' = [(0, (v0_0, .osl 9 1 (r.2.map encS)))]) := by
 intro a0 a1 v0_0 r h
 rw [m_laws_markStringS] at h
 refine does_of_good tabOk Try.func58 rfl (by decide +kernel) (Nat.le_of_ble_eq_true rfl) fun c => ?_
 refine Good.le (σ' := ⟨20, [(0, .hd 0 v0_0), (1, .int .i64 a1)], [(0, (v0_0, .osl 9 1 (a0.map encS)))]⟩) (Le.refl _) ?_
 refine good_seq fun K1 hK1 => ?_
 refine rg 1 ?_
 refine g_nil (hK1 _ ?_)
 refine good_seq fun K2 hK2 => ?_
 refine good_seq fun K3 hK3 => ?_
 refine rg 1 ?_
 refine g_nil (hK3 _ ?_)
 obtain ⟨o1, ho1, hJ1⟩ := bnd h
 have hw1 : ∀ (s1 : ((List Bs) × Int)), o1 = Lp.go s1 → ∀ σ', Le σ' ⟨20, [(1, .int .i64 s1.2), (4, .int .i64 0)], [(0, (v0_0, .osl 9 1 (s1.1.map encS)))]⟩ → K2 σ' := by
  intro s1 e1 σ' hle1
  subst e1
  refine hK2 _ (Good.le hle1 ?_)
  replace h := hJ1
  refine good_seq fun K4 hK4 => ?_
  refine rg 2 ?_
  refine gk hK4 20 [4] [0] ?_
  refine Good.le (σ' := ⟨20, [(4, .int .i64 s1.2)], [(0, (v0_0, .osl 9 1 (s1.1.map encS)))]⟩) (lw [some 0]) ?_
  refine good_ret ?_
  obtain rfl := Option.some.inj h
  exact endQ_ret (h' := [(0, (_, _))]) [some 0] (.tmp rfl (.nil)) ⟨⟨_, rfl, .refl _⟩, trivial⟩ (by decide) ⟨rfl, rfl⟩
 replace h := ho1
 refine good_block ?_
 refine good_loopf (fun p : ((List Bs) × Int × Int) => ⟨20, [(0, .hd 0 v0_0), (1, .int .i64 p.2.1), (4, .int .i64 0), (5, .int .i64 p.2.2)], [(0, (v0_0, .osl 9 1 (p.1.map encS)))]⟩) (fun m p => m_laws_markStringS_l1 m p.1 p.2.1 p.2.2 = some o1) k (a0, a1, 0) (lw [some 0]) h ?_
 rintro m1 ⟨x1, x2, x3⟩ h
 replace h : m_laws_markStringS_l1 m1 x1 x2 x3 = some o1 := h
 refine Good.le (σ' := ⟨20, [(0, .hd 0 v0_0), (1, .int .i64 x2), (4, .int .i64 0), (5, .int .i64 x3)], [(0, (v0_0, .osl 9 1 (x1.map encS)))]⟩) (Le.refl _) ?_
 obtain ⟨m1, rfl⟩ : ∃ m', m1 = m' + 1 := by cases m1 with | zero => (rw [m_laws_markStringS_l1] at h; cases h) | succ m' => exact ⟨m', rfl⟩
 rw [m_laws_markStringS_l1] at h
 refine good_seq fun K5 hK5 => ?_
 refine good_seq fun K6 hK6 => ?_
 refine rg 2 ?_
 refine g_op rfl (ValOk.op (v_lenHM (q := 0) tabOk ⟨_, rfl⟩ rfl rfl telem23 rfl ?_))
 refine gs 1 ?_
 refine gk hK6 20 [0, 1, 4, 5, 9] [0] ?_
 refine good_cond rfl (fun hc1 => ?_) (fun hc1 => ?_)
 ·replace h := ifT h (dT hc1)
  refine good_skip ?_
  refine hK5 _ (kp 20 [0, 1, 4, 5] [0] ?_)
  refine good_seq fun K7 hK7 => ?_
  refine good_block ?_
  refine good_seq fun K8 hK8 => ?_
  refine rg 3 ?_
  obtain ⟨y1, hy1, h⟩ := bnd h
  refine g_op rfl (o_callR [] [] (core_value rfl rfl) (m_laws_markText_ok m1 x2 _ hy1) trivial (.cons (.refl _) (.nil)) (.inl rfl) rfl ?_)
  obtain ⟨hb1, h⟩ := ifS h
  refine g_op rfl (ValOk.op (v_idxHM (q := 0) tabOk ⟨_, rfl⟩ rfl rfl telem23 tsize9 hb1 rfl ?_))
  refine g_op rfl (o_storeRM tabOk (z := y1) rfl rfl tsize9 rfl hb1 rfl rfl rfl (by decide) rfl rfl rfl rfl ?_)
  refine gk hK8 20 [0, 1, 4, 5] [0] ?_
  refine rg 3 ?_
  refine gk hK7 20 [0, 1, 4, 5] [0] ?_
  refine rg 3 ?_
  refine g_nil ?_
  exact round_mk m1 (x1.set (Int.toNat x3) y1, IntKind.wrap .i64 (x2 + 1), IntKind.wrap .i64 (x3 + 1)) (Nat.lt_succ_self _) h (lw [some 0])
 ·replace h := ifF h (dF hc1)
  refine good_exit ?_
  exact hw1 (x1, x2) (Option.some.inj h).symm _ (lw [some 0])
mutual
def m_laws_markValueS_l1 : Nat → (List Val) → Int → Int → Option (Lp ((List Val) × Int) (Int × (List Val)))
 | 0, _, _, _ => none
 | k + 1, x1, x2, x3 =>
  if x3 < (x1.length : Int) then
   if (0 : Int) ≤ x3 ∧ x3 < (x1.length : Int) then
    (m_laws_markText k (IntKind.wrap .i64 ((IntKind.wrap .i64 (x2 + 1)) + 1))).bind fun y1 =>
    (m_laws_markValueS k ((ix x1 x3).list) (IntKind.wrap .i64 ((IntKind.wrap .i64 ((IntKind.wrap .i64 (x2 + 1)) + 1)) + 1))).bind fun y2 =>
    (m_laws_markStringS k ((ix x1 x3).names) y2.1).bind fun y3 =>
    m_laws_markValueS_l1 k (x1.set (Int.toNat x3) (Val.mk x2 (IntKind.wrap .i64 (x2 + 1)) y1 y2.2 y3.2)) y3.1 (IntKind.wrap .i64 (x3 + 1))
   else none
  else
   some (Lp.go (x1, x2))
def m_laws_markValueS : Nat → (List Val) → Int → Option (Int × (List Val))
 | 0, _, _ => none
 | k + 1, a0, a1 =>
  (m_laws_markValueS_l1 k a0 a1 0).bind fun o1 =>
  o1.then fun s1 =>
  some (s1.2, s1.1)
end
def P_m_laws_markValueS (k : Nat) : Prop := ∀ (a0 : (List Val)) (a1 : Int) (v0_0 : Value) (r : (Int × (List Val))), m_laws_markValueS k a0 a1 = some r → Does Try.prog 57 [.hd 0 v0_0, .int .i64 a1] [(0, (v0_0, .osl 30 5 (a0.map encOVal)))] (fun q h' => q = .int .i64 r.1 ∧ h' = [(0, (v0_0, .osl 30 5 (r.2.map encOVal)))])
theorem m_laws_markValueS_step (k : Nat) (ih : ∀ m, m < k → P_m_laws_markValueS m) : P_m_laws_markValueS k := by
 intro a0 a1 v0_0 r h
 obtain ⟨k, rfl⟩ : ∃ k', k = k' + 1 := by cases k with | zero => (rw [m_laws_markValueS] at h; cases h) | succ k' => exact ⟨k', rfl⟩
 rw [m_laws_markValueS] at h
 refine does_of_good tabOk Try.func57 rfl (by decide +kernel) (Nat.le_of_ble_eq_true rfl) fun c => ?_
 refine Good.le (σ' := ⟨49, [(0, .hd 0 v0_0), (1, .int .i64 a1)], [(0, (v0_0, .osl 30 5 (a0.map encOVal)))]⟩) (Le.refl _) ?_
 refine good_seq fun K1 hK1 => ?_
 refine rg 1 ?_
 refine g_nil (hK1 _ ?_)
 refine good_seq fun K2 hK2 => ?_
 refine good_seq fun K3 hK3 => ?_
 refine rg 1 ?_
 refine g_nil (hK3 _ ?_)
 obtain ⟨o1, ho1, hJ1⟩ := bnd h
 have hw1 : ∀ (s1 : ((List Val) × Int)), o1 = Lp.go s1 → ∀ σ', Le σ' ⟨49, [(1, .int .i64 s1.2), (4, .int .i64 0)], [(0, (v0_0, .osl 30 5 (s1.1.map encOVal)))]⟩ → K2 σ' := by
  intro s1 e1 σ' hle1
  subst e1
  refine hK2 _ (Good.le hle1 ?_)
  replace h := hJ1
  refine good_seq fun K4 hK4 => ?_
  refine rg 2 ?_
  refine gk hK4 49 [4] [0] ?_
  refine Good.le (σ' := ⟨49, [(4, .int .i64 s1.2)], [(0, (v0_0, .osl 30 5 (s1.1.map encOVal)))]⟩) (lw [some 0]) ?_
  refine good_ret ?_
  obtain rfl := Option.some.inj h
  exact endQ_ret (h' := [(0, (_, _))]) [some 0] (.tmp rfl (.nil)) ⟨⟨_, rfl, .refl _⟩, trivial⟩ (by decide) ⟨rfl, rfl⟩
 replace h := ho1
 refine good_block ?_
 refine good_loopf (fun p : ((List Val) × Int × Int) => ⟨49, [(0, .hd 0 v0_0), (1, .int .i64 p.2.1), (4, .int .i64 0), (5, .int .i64 p.2.2)], [(0, (v0_0, .osl 30 5 (p.1.map encOVal)))]⟩) (fun m p => m < k + 1 ∧ m_laws_markValueS_l1 m p.1 p.2.1 p.2.2 = some o1) k (a0, a1, 0) (lw [some 0]) ⟨by omega, h⟩ ?_
 rintro m1 ⟨x1, x2, x3⟩ ⟨hm, h⟩
 replace h : m_laws_markValueS_l1 m1 x1 x2 x3 = some o1 := h
 refine Good.le (σ' := ⟨49, [(0, .hd 0 v0_0), (1, .int .i64 x2), (4, .int .i64 0), (5, .int .i64 x3)], [(0, (v0_0, .osl 30 5 (x1.map encOVal)))]⟩) (Le.refl _) ?_
 obtain ⟨m1, rfl⟩ : ∃ m', m1 = m' + 1 := by cases m1 with | zero => (rw [m_laws_markValueS_l1] at h; cases h) | succ m' => exact ⟨m', rfl⟩
 rw [m_laws_markValueS_l1] at h
 refine good_seq fun K5 hK5 => ?_
 refine good_seq fun K6 hK6 => ?_
 refine rg 2 ?_
 refine g_op rfl (ValOk.op (v_lenHM (q := 0) tabOk ⟨_, rfl⟩ rfl rfl telem28 rfl ?_))
 refine gs 1 ?_
 refine gk hK6 49 [0, 1, 4, 5, 9] [0] ?_
 refine good_cond rfl (fun hc1 => ?_) (fun hc1 => ?_)
 ·replace h := ifT h (dT hc1)
  refine good_skip ?_
  refine hK5 _ (kp 49 [0, 1, 4, 5] [0] ?_)
  refine good_seq fun K7 hK7 => ?_
  refine good_block ?_
  refine good_seq fun K8 hK8 => ?_
  refine rg 3 ?_
  obtain ⟨hb1, h⟩ := ifS h
  refine g_op rfl (ValOk.op (v_idxHM (q := 0) tabOk ⟨_, rfl⟩ rfl rfl telem28 tsize30 hb1 rfl ?_))
  refine g_op rfl (ValOk.op (v_fieldR tabOk rfl tfoff30_0 rfl ?_))
  refine g_op rfl (o_storeRM tabOk (z := (Val.mk x2 ((ix x1 x3).num) ((ix x1 x3).text) ((ix x1 x3).list) ((ix x1 x3).names))) rfl rfl tsize3 rfl hb1 (encOVal_eq _) rfl rfl (by decide) rfl rfl (encOVal_eq _) rfl ?_)
  refine gk hK8 49 [0, 1, 4, 5] [0] ?_
  refine good_seq fun K9 hK9 => ?_
  refine rg 3 ?_
  refine gk hK9 49 [0, 1, 4, 5] [0] ?_
  refine good_seq fun K10 hK10 => ?_
  refine rg 3 ?_
  have hb2 : (0 : Int) ≤ x3 ∧ x3 < ((x1.set (Int.toNat x3) (Val.mk x2 ((ix x1 x3).num) ((ix x1 x3).text) ((ix x1 x3).list) ((ix x1 x3).names))).length : Int) := len_setI hb1
  refine g_op rfl (ValOk.op (v_idxHM (q := 0) tabOk ⟨_, rfl⟩ rfl rfl telem28 tsize30 hb2 rfl ?_))
  refine g_op rfl (ValOk.op (v_fieldR tabOk rfl tfoff30_1 rfl ?_))
  refine g_op rfl (o_storeRU tabOk (z := (Val.mk x2 (IntKind.wrap .i64 (x2 + 1)) ((ix x1 x3).text) ((ix x1 x3).list) ((ix x1 x3).names))) rfl rfl tsize3 rfl hb2 ((congrArg encOVal (ix_setI hb1)).trans (encOVal_eq _)) rfl rfl (by decide) rfl rfl (encOVal_eq _) rfl ?_)
  refine gk hK10 49 [0, 1, 4, 5] [0] ?_
  refine good_seq fun K11 hK11 => ?_
  refine rg 3 ?_
  refine gk hK11 49 [0, 1, 4, 5] [0] ?_
  refine good_seq fun K12 hK12 => ?_
  refine rg 3 ?_
  obtain ⟨y1, hy1, h⟩ := bnd h
  refine g_op rfl (o_callR [] [] (core_value rfl rfl) (m_laws_markText_ok m1 (IntKind.wrap .i64 ((IntKind.wrap .i64 (x2 + 1)) + 1)) _ hy1) trivial (.cons (.refl _) (.nil)) (.inl rfl) rfl ?_)
  have hb3 : (0 : Int) ≤ x3 ∧ x3 < ((x1.set (Int.toNat x3) (Val.mk x2 (IntKind.wrap .i64 (x2 + 1)) ((ix x1 x3).text) ((ix x1 x3).list) ((ix x1 x3).names))).length : Int) := len_setI hb1
  refine g_op rfl (ValOk.op (v_idxHM (q := 0) tabOk ⟨_, rfl⟩ rfl rfl telem28 tsize30 hb3 rfl ?_))
  refine g_op rfl (ValOk.op (v_fieldR tabOk rfl tfoff30_2 rfl ?_))
  refine g_op rfl (o_storeRU tabOk (z := (Val.mk x2 (IntKind.wrap .i64 (x2 + 1)) y1 ((ix x1 x3).list) ((ix x1 x3).names))) rfl rfl tsize9 rfl hb3 ((congrArg encOVal (ix_setI hb1)).trans (encOVal_eq _)) rfl rfl (by decide) rfl rfl (encOVal_eq _) rfl ?_)
  refine gk hK12 49 [0, 1, 4, 5] [0] ?_
  refine good_seq fun K13 hK13 => ?_
  refine rg 3 ?_
  refine gk hK13 49 [0, 1, 4, 5] [0] ?_
  refine good_seq fun K14 hK14 => ?_
  refine rg 2 ?_
  have hb4 : (0 : Int) ≤ x3 ∧ x3 < ((x1.set (Int.toNat x3) (Val.mk x2 (IntKind.wrap .i64 (x2 + 1)) y1 ((ix x1 x3).list) ((ix x1 x3).names))).length : Int) := len_setI hb1
  refine g_op rfl (ValOk.op (v_idxHM (q := 0) tabOk ⟨_, rfl⟩ rfl rfl telem28 tsize30 hb4 rfl ?_))
  refine g_op rfl (ValOk.op (v_fieldR tabOk rfl tfoff30_3 rfl ?_))
  refine g_leE (le_focus (k := 0) (row := [.int .i64 x2, .int .i64 (IntKind.wrap .i64 (x2 + 1)), .str y1, .osl 30 5 (((ix x1 x3).list).map encOVal), .osl 9 1 (((ix x1 x3).names).map encS)]) (Int.toNat x3) 3 8001 rfl rfl ((get_map hb4.1 hb4.2).trans (congrArg some ((congrArg encOVal (ix_setI hb1)).trans (encOVal_eq _)))) rfl) ?_
  intro w1
  refine g_op rfl (ValOk.op (v_loadR tabOk rfl rfl (rows_set_get (by have := hb4; simp only [List.length_map]; omega)) tsize28 tagg28 rfl rfl rfl rfl ?_))
  refine gs 1 ?_
  obtain ⟨y2, hy2, h⟩ := bnd h
  refine g_op rfl (o_callD [] [] [8001] (core_value rfl rfl) ((ih m1 (by omega)) ((ix x1 x3).list) (IntKind.wrap .i64 ((IntKind.wrap .i64 ((IntKind.wrap .i64 (x2 + 1)) + 1)) + 1)) _ _ hy2) trivial (.cons (.hd _ _ _) (.cons (.refl _) (.nil))) ⟨rfl, trivial⟩ rfl rfl rfl ?_)
  rintro _ _ ⟨rfl, rfl⟩
  refine ⟨_, [(8001, _)], .refl _, rfl, rfl, rfl, rfl, .inl rfl, ?_⟩
  refine gs 1 ?_
  refine g_le (le_absorb (k := 0) (k2 := 8001) (rows' := (x1.set (Int.toNat x3) (Val.mk x2 (IntKind.wrap .i64 (x2 + 1)) y1 y2.2 ((ix x1 x3).names))).map encOVal) (Int.toNat x3) 3 _ rfl rfl (by decide) (rows_set_get (by have := hb4; simp only [List.length_map]; omega)) rfl (rows_set_done2 (f := encOVal) (z := (Val.mk x2 (IntKind.wrap .i64 (x2 + 1)) y1 y2.2 ((ix x1 x3).names))) (encOVal_eq _))) ?_
  refine gk hK14 49 [0, 1, 4, 5] [0] ?_
  refine rg 2 ?_
  have hb5 : (0 : Int) ≤ x3 ∧ x3 < ((x1.set (Int.toNat x3) (Val.mk x2 (IntKind.wrap .i64 (x2 + 1)) y1 y2.2 ((ix x1 x3).names))).length : Int) := len_setI hb1
  refine g_op rfl (ValOk.op (v_idxHM (q := 0) tabOk ⟨_, rfl⟩ rfl rfl telem28 tsize30 hb5 rfl ?_))
  refine g_op rfl (ValOk.op (v_fieldR tabOk rfl tfoff30_4 rfl ?_))
  refine g_leE (le_focus (k := 0) (row := [.int .i64 x2, .int .i64 (IntKind.wrap .i64 (x2 + 1)), .str y1, .osl 30 5 (y2.2.map encOVal), .osl 9 1 (((ix x1 x3).names).map encS)]) (Int.toNat x3) 4 8002 rfl rfl ((get_map hb5.1 hb5.2).trans (congrArg some ((congrArg encOVal (ix_setI hb1)).trans (encOVal_eq _)))) rfl) ?_
  intro w2
  refine g_op rfl (ValOk.op (v_loadR tabOk rfl rfl (rows_set_get (by have := hb5; simp only [List.length_map]; omega)) tsize23 tagg23 rfl rfl rfl rfl ?_))
  refine gs 1 ?_
  obtain ⟨y3, hy3, h⟩ := bnd h
  refine g_op rfl (o_callD [] [] [8002] (core_value rfl rfl) (m_laws_markStringS_ok m1 ((ix x1 x3).names) y2.1 _ _ hy3) trivial (.cons (.hd _ _ _) (.cons (.refl _) (.nil))) ⟨rfl, trivial⟩ rfl rfl rfl ?_)
  rintro _ _ ⟨rfl, rfl⟩
  refine ⟨_, [(8002, _)], .refl _, rfl, rfl, rfl, rfl, .inl rfl, ?_⟩
  refine gs 1 ?_
  refine g_le (le_absorb (k := 0) (k2 := 8002) (rows' := (x1.set (Int.toNat x3) (Val.mk x2 (IntKind.wrap .i64 (x2 + 1)) y1 y2.2 y3.2)).map encOVal) (Int.toNat x3) 4 _ rfl rfl (by decide) (rows_set_get (by have := hb5; simp only [List.length_map]; omega)) rfl (rows_set_done2 (f := encOVal) (z := (Val.mk x2 (IntKind.wrap .i64 (x2 + 1)) y1 y2.2 y3.2)) (encOVal_eq _))) ?_
  refine gk hK7 49 [0, 1, 4, 5] [0] ?_
  refine rg 3 ?_
  refine g_nil ?_
  exact round_mk m1 (x1.set (Int.toNat x3) (Val.mk x2 (IntKind.wrap .i64 (x2 + 1)) y1 y2.2 y3.2), y3.1, IntKind.wrap .i64 (x3 + 1)) (Nat.lt_succ_self _) ⟨by omega, h⟩ (lw [some 0])
 ·replace h := ifF h (dF hc1)
  refine good_exit ?_
  exact hw1 (x1, x2) (Option.some.inj h).symm _ (lw [some 0])
theorem m_laws_markValueS_all (k : Nat) : P_m_laws_markValueS k := by
 induction k using Nat.strongRecOn with
 | _ k ih => exact m_laws_markValueS_step k ih
theorem m_laws_markValueS_ok (k : Nat) : ∀ (a0 : (List Val)) (a1 : Int) (v0_0 : Value) (r : (Int × (List Val))), m_laws_markValueS k a0 a1 = some r → Does Try.prog 57 [.hd 0 v0_0, .int .i64 a1] [(0, (v0_0, .osl 30 5 (a0.map encOVal)))] (fun q h' => q = .int .i64 r.1 ∧ h' = [(0, (v0_0, .osl 30 5 (r.2.map encOVal)))]) := (m_laws_markValueS_all k)
def m_laws_markValue (k : Nat) (a0 : Val) (a1 : Int) : Option (Int × (List Val) × (List Bs)) :=
 (m_laws_markValueS k a0.list a1).bind fun y1 =>
 (m_laws_markStringS k a0.names y1.1).bind fun y2 =>
 some (y2.1, y1.2, y2.2)
theorem m_laws_markValue_ok (k : Nat) : ∀ (a0 : Val) (a1 : Int) (v0_0 : Value) (v0_1 : Value) (r : (Int × (List Val) × (List Bs))), m_laws_markValue k a0 a1 = some r → Does Try.prog 24 [.agg [.int .i64 a0.kind, .int .i64 a0.num, .str a0.text, .hd 0 v0_0, .hd 1 v0_1], .int .i64 a1] [(0, (v0_0, .osl 30 5 (a0.list.map encOVal))), (1, (v0_1, .osl 9 1 (a0.names.map encS)))] (fun q h' => q = .int .i64 r.1 ∧ h' = [(0, (v0_0, .osl 30 5 (r.2.1.map encOVal))), (1, (v0_1, .osl 9 1 (r.2.2.map encS)))]) := by
 intro a0 a1 v0_0 v0_1 r h
 rw [m_laws_markValue] at h
 refine does_of_good tabOk Try.func24 rfl (by decide +kernel) (Nat.le_of_ble_eq_true rfl) fun c => ?_
 refine Good.le (σ' := ⟨14, [(0, .agg [.int .i64 a0.kind, .int .i64 a0.num, .str a0.text, .hd 0 v0_0, .hd 1 v0_1]), (1, .int .i64 a1)], [(0, (v0_0, .osl 30 5 (a0.list.map encOVal))), (1, (v0_1, .osl 9 1 (a0.names.map encS)))]⟩) (Le.refl _) ?_
 refine good_seq fun K1 hK1 => ?_
 refine good_region ?_
 refine g_op rfl (o_box (k := 12) tabOk rfl rfl rfl rfl rfl ?_)
 intro b1
 refine gs 1 ?_
 refine gk hK1 14 [1, 2, 4] [12, 0, 1] ?_
 refine good_seq fun K2 hK2 => ?_
 refine rg 3 ?_
 obtain ⟨y1, hy1, h⟩ := bnd h
 refine g_op rfl (o_callD [] [] [0] (core_value rfl rfl) (m_laws_markValueS_ok k a0.list a1 _ _ hy1) trivial (.cons (.hd _ _ _) (.cons (.refl _) (.nil))) ⟨rfl, trivial⟩ rfl rfl rfl ?_)
 rintro _ _ ⟨rfl, rfl⟩
 refine ⟨_, [(0, _)], .refl _, rfl, rfl, rfl, rfl, .inl rfl, ?_⟩
 refine gs 1 ?_
 refine gk hK2 14 [1, 2, 4] [12, 0, 1] ?_
 refine good_seq fun K3 hK3 => ?_
 refine rg 3 ?_
 obtain ⟨y2, hy2, h⟩ := bnd h
 refine g_op rfl (o_callD [] [] [1] (core_value rfl rfl) (m_laws_markStringS_ok k a0.names y1.1 _ _ hy2) trivial (.cons (.hd _ _ _) (.cons (.refl _) (.nil))) ⟨rfl, trivial⟩ rfl rfl rfl ?_)
 rintro _ _ ⟨rfl, rfl⟩
 refine ⟨_, [(1, _)], .refl _, rfl, rfl, rfl, rfl, .inl rfl, ?_⟩
 refine gs 1 ?_
 refine gk hK3 14 [1, 4] [0, 1] ?_
 refine good_seq fun K4 hK4 => ?_
 refine rg 2 ?_
 refine gk hK4 14 [4] [0, 1] ?_
 refine Good.le (σ' := ⟨14, [(4, .int .i64 y2.1)], [(0, (v0_0, .osl 30 5 (y1.2.map encOVal))), (1, (v0_1, .osl 9 1 (y2.2.map encS)))]⟩) (lw [some 0, some 1]) ?_
 refine good_ret ?_
 obtain rfl := Option.some.inj h
 exact endQ_ret (h' := [(0, (_, _)), (1, (_, _))]) [some 0, some 1] (.tmp rfl (.nil)) ⟨⟨_, rfl, .refl _⟩, ⟨⟨_, rfl, .refl _⟩, trivial⟩⟩ (by decide) ⟨rfl, rfl⟩
def m_laws_heldStringS_l1 : Nat → (List Bs) → Int → Int → Option (Lp Int Int)
 | 0, _, _, _ => none
 | k + 1, a0, x1, x2 =>
  if x2 < (a0.length : Int) then
   if (0 : Int) ≤ x2 ∧ x2 < (a0.length : Int) then
    (m_laws_markText k x1).bind fun y1 =>
    if (ix a0 x2) = y1 then
     m_laws_heldStringS_l1 k a0 (IntKind.wrap .i64 (x1 + 1)) (IntKind.wrap .i64 (x2 + 1))
    else
     (some (-1)).bind fun z =>
     some (Lp.ret z)
   else none
  else
   some (Lp.go x1)
def m_laws_heldStringS (k : Nat) (a0 : (List Bs)) (a1 : Int) : Option Int :=
 (m_laws_heldStringS_l1 k a0 a1 0).bind fun o1 =>
 o1.then fun s1 =>
  some s1
theorem m_laws_heldStringS_ok (k : Nat) : ∀ (a0 : (List Bs)) (a1 : Int) (r : Int), m_laws_heldStringS k a0 a1 = some r → Does Try.prog 60 [.sl false (a0.map encS), .int .i64 a1] [] (ret (.int .i64 r)) := by
 intro a0 a1 r h
 rw [m_laws_heldStringS] at h
 refine does_of_good tabOk Try.func60 rfl (by decide +kernel) (Nat.le_of_ble_eq_true rfl) fun c => ?_
 refine Good.le (σ' := ⟨22, [(0, .sl false (a0.map encS)), (1, .int .i64 a1)], []⟩) (Le.refl _) ?_
 refine good_seq fun K1 hK1 => ?_
 refine rg 1 ?_
 refine g_nil (hK1 _ ?_)
 refine good_seq fun K2 hK2 => ?_
 refine good_seq fun K3 hK3 => ?_
 refine rg 1 ?_
 refine g_nil (hK3 _ ?_)
 obtain ⟨o1, ho1, hJ1⟩ := bnd h
 have hw1 : ∀ (s1 : Int), o1 = Lp.go s1 → ∀ σ', Le σ' ⟨22, [(1, .int .i64 s1), (4, .int .i64 0)], []⟩ → K2 σ' := by
  intro s1 e1 σ' hle1
  subst e1
  refine hK2 _ (Good.le hle1 ?_)
  replace h := hJ1
  refine good_seq fun K4 hK4 => ?_
  refine rg 2 ?_
  refine gk hK4 22 [4] [] ?_
  obtain rfl := Option.some.inj h
  exact rt
 replace h := ho1
 refine good_block ?_
 refine good_loopf (fun p : (Int × Int) => ⟨22, [(0, .sl false (a0.map encS)), (1, .int .i64 p.1), (4, .int .i64 0), (5, .int .i64 p.2)], []⟩) (fun m p => m_laws_heldStringS_l1 m a0 p.1 p.2 = some o1) k (a1, 0) (lw []) h ?_
 rintro m1 ⟨x1, x2⟩ h
 replace h : m_laws_heldStringS_l1 m1 a0 x1 x2 = some o1 := h
 refine Good.le (σ' := ⟨22, [(0, .sl false (a0.map encS)), (1, .int .i64 x1), (4, .int .i64 0), (5, .int .i64 x2)], []⟩) (Le.refl _) ?_
 obtain ⟨m1, rfl⟩ : ∃ m', m1 = m' + 1 := by cases m1 with | zero => (rw [m_laws_heldStringS_l1] at h; cases h) | succ m' => exact ⟨m', rfl⟩
 rw [m_laws_heldStringS_l1] at h
 refine good_seq fun K5 hK5 => ?_
 refine good_seq fun K6 hK6 => ?_
 refine rg 2 ?_
 refine g_op rfl (ValOk.op (v_lenM (l := a0) (f := encS) tabOk rfl rfl telem23 rfl ?_))
 refine gs 1 ?_
 refine gk hK6 22 [0, 1, 4, 5, 9] [] ?_
 refine good_cond rfl (fun hc1 => ?_) (fun hc1 => ?_)
 ·replace h := ifT h (dT hc1)
  refine good_skip ?_
  refine hK5 _ (kp 22 [0, 1, 4, 5] [] ?_)
  refine good_seq fun K7 hK7 => ?_
  refine good_block ?_
  refine good_seq fun K8 hK8 => ?_
  refine good_seq fun K9 hK9 => ?_
  refine good_draw (by kernel_rfl) (by kernel_rfl) ?_
  refine q_op rfl (v_move rfl rfl ?_)
  refine q_op rfl (v_move rfl rfl ?_)
  obtain ⟨hb1, h⟩ := ifS h
  refine q_op rfl (v_idxM tabOk rfl rfl telem23 tsize9 hb1 rfl rfl rfl ?_)
  refine q_op rfl (v_loadE tabOk rfl tsize9 tagg9 rfl rfl rfl ?_)
  refine q_op rfl (v_move rfl rfl ?_)
  obtain ⟨y1, hy1, h⟩ := bnd h
  refine q_call [] [] (fun _ _ _ _ _ => wanted_none rfl _) (core_value rfl rfl) (m_laws_markText_ok m1 x1 _ hy1) trivial (.cons (.refl _) (.nil)) (.str _) rfl ?_
  refine q_op rfl (v_bin rfl rfl rfl rfl ?_)
  refine q_nil ?_
  refine hK9 _ (kp 22 [0, 1, 4, 5, 18] [] ?_)
  refine good_cond rfl (fun hc2 => ?_) (fun hc2 => ?_)
  ·replace h := ifF h (ndT hc2)
   refine good_seq fun K10 hK10 => ?_
   refine rg 1 ?_
   refine gk hK10 22 [0, 1, 4, 5] [] ?_
   replace h := unret h hJ1
   obtain rfl := Option.some.inj h
   exact rt
  ·replace h := ifT h (ndF hc2)
   refine good_skip ?_
   refine hK8 _ (kp 22 [0, 1, 4, 5] [] ?_)
   refine rg 3 ?_
   refine gk hK7 22 [0, 1, 4, 5] [] ?_
   refine rg 3 ?_
   refine g_nil ?_
   exact round_mk m1 (IntKind.wrap .i64 (x1 + 1), IntKind.wrap .i64 (x2 + 1)) (Nat.lt_succ_self _) h (lw [])
 ·replace h := ifF h (dF hc1)
  refine good_exit ?_
  exact hw1 x1 (Option.some.inj h).symm _ (lw [])
mutual
def m_laws_heldValueS_l1 : Nat → (List Val) → Int → Int → Option (Lp Int Int)
 | 0, _, _, _ => none
 | k + 1, a0, x1, x2 =>
  if x2 < (a0.length : Int) then
   if (0 : Int) ≤ x2 ∧ x2 < (a0.length : Int) then
    if ((ix a0 x2).kind) = x1 then
     if (0 : Int) ≤ x2 ∧ x2 < (a0.length : Int) then
      if ((ix a0 x2).num) = (IntKind.wrap .i64 (x1 + 1)) then
       if (0 : Int) ≤ x2 ∧ x2 < (a0.length : Int) then
        (m_laws_markText k (IntKind.wrap .i64 ((IntKind.wrap .i64 (x1 + 1)) + 1))).bind fun y1 =>
        if ((ix a0 x2).text) = y1 then
         if (0 : Int) ≤ x2 ∧ x2 < (a0.length : Int) then
          (m_laws_heldValueS k ((ix a0 x2).list) (IntKind.wrap .i64 ((IntKind.wrap .i64 ((IntKind.wrap .i64 (x1 + 1)) + 1)) + 1))).bind fun y2 =>
          if y2 < 0 then
           (some (-1)).bind fun z =>
           some (Lp.ret z)
          else
           if (0 : Int) ≤ x2 ∧ x2 < (a0.length : Int) then
            (m_laws_heldStringS k ((ix a0 x2).names) y2).bind fun y3 =>
            if y3 < 0 then
             (some (-1)).bind fun z =>
             some (Lp.ret z)
            else
             m_laws_heldValueS_l1 k a0 y3 (IntKind.wrap .i64 (x2 + 1))
           else none
         else none
        else
         (some (-1)).bind fun z =>
         some (Lp.ret z)
       else none
      else
       (some (-1)).bind fun z =>
       some (Lp.ret z)
     else none
    else
     (some (-1)).bind fun z =>
     some (Lp.ret z)
   else none
  else
   some (Lp.go x1)
def m_laws_heldValueS : Nat → (List Val) → Int → Option Int
 | 0, _, _ => none
 | k + 1, a0, a1 =>
  (m_laws_heldValueS_l1 k a0 a1 0).bind fun o1 =>
  o1.then fun s1 =>
  some s1
end
def P_m_laws_heldValueS (k : Nat) : Prop := ∀ (a0 : (List Val)) (a1 : Int) (r : Int), m_laws_heldValueS k a0 a1 = some r → Does Try.prog 59 [.sl true (a0.map encVal), .int .i64 a1] [] (ret (.int .i64 r))
theorem m_laws_heldValueS_step (k : Nat) (ih : ∀ m, m < k → P_m_laws_heldValueS m) : P_m_laws_heldValueS k := by
 intro a0 a1 r h
 obtain ⟨k, rfl⟩ : ∃ k', k = k' + 1 := by cases k with | zero => (rw [m_laws_heldValueS] at h; cases h) | succ k' => exact ⟨k', rfl⟩
 rw [m_laws_heldValueS] at h
 refine does_of_good tabOk Try.func59 rfl (by decide +kernel) (Nat.le_of_ble_eq_true rfl) fun c => ?_
 refine Good.le (σ' := ⟨59, [(0, .sl true (a0.map encVal)), (1, .int .i64 a1)], []⟩) (Le.refl _) ?_
 refine good_seq fun K1 hK1 => ?_
 refine rg 1 ?_
 refine g_nil (hK1 _ ?_)
 refine good_seq fun K2 hK2 => ?_
 refine good_seq fun K3 hK3 => ?_
 refine rg 1 ?_
 refine g_nil (hK3 _ ?_)
 obtain ⟨o1, ho1, hJ1⟩ := bnd h
 have hw1 : ∀ (s1 : Int), o1 = Lp.go s1 → ∀ σ', Le σ' ⟨59, [(1, .int .i64 s1), (4, .int .i64 0)], []⟩ → K2 σ' := by
  intro s1 e1 σ' hle1
  subst e1
  refine hK2 _ (Good.le hle1 ?_)
  replace h := hJ1
  refine good_seq fun K4 hK4 => ?_
  refine rg 2 ?_
  refine gk hK4 59 [4] [] ?_
  obtain rfl := Option.some.inj h
  exact rt
 replace h := ho1
 refine good_block ?_
 refine good_loopf (fun p : (Int × Int) => ⟨59, [(0, .sl true (a0.map encVal)), (1, .int .i64 p.1), (4, .int .i64 0), (5, .int .i64 p.2)], []⟩) (fun m p => m < k + 1 ∧ m_laws_heldValueS_l1 m a0 p.1 p.2 = some o1) k (a1, 0) (lw []) ⟨by omega, h⟩ ?_
 rintro m1 ⟨x1, x2⟩ ⟨hm, h⟩
 replace h : m_laws_heldValueS_l1 m1 a0 x1 x2 = some o1 := h
 refine Good.le (σ' := ⟨59, [(0, .sl true (a0.map encVal)), (1, .int .i64 x1), (4, .int .i64 0), (5, .int .i64 x2)], []⟩) (Le.refl _) ?_
 obtain ⟨m1, rfl⟩ : ∃ m', m1 = m' + 1 := by cases m1 with | zero => (rw [m_laws_heldValueS_l1] at h; cases h) | succ m' => exact ⟨m', rfl⟩
 rw [m_laws_heldValueS_l1] at h
 refine good_seq fun K5 hK5 => ?_
 refine good_seq fun K6 hK6 => ?_
 refine rg 2 ?_
 refine g_op rfl (ValOk.op (v_lenM (l := a0) (f := encVal) tabOk rfl rfl telem28 rfl ?_))
 refine gs 1 ?_
 refine gk hK6 59 [0, 1, 4, 5, 9] [] ?_
 refine good_cond rfl (fun hc1 => ?_) (fun hc1 => ?_)
 ·replace h := ifT h (dT hc1)
  refine good_skip ?_
  refine hK5 _ (kp 59 [0, 1, 4, 5] [] ?_)
  refine good_seq fun K7 hK7 => ?_
  refine good_block ?_
  refine good_seq fun K8 hK8 => ?_
  refine good_seq fun K9 hK9 => ?_
  refine rg 2 ?_
  obtain ⟨hb1, h⟩ := ifS h
  refine g_op rfl (ValOk.op (v_idxM tabOk rfl rfl telem28 tsize30 hb1 (encVal_eq _) rfl rfl ?_))
  refine gs 4 ?_
  refine gk hK9 59 [0, 1, 4, 5, 18] [] ?_
  refine good_cond rfl (fun hc2 => ?_) (fun hc2 => ?_)
  ·replace h := ifF h (ndT hc2)
   refine good_seq fun K10 hK10 => ?_
   refine rg 1 ?_
   refine gk hK10 59 [0, 1, 4, 5] [] ?_
   replace h := unret h hJ1
   obtain rfl := Option.some.inj h
   exact rt
  ·replace h := ifT h (ndF hc2)
   refine good_skip ?_
   refine hK8 _ (kp 59 [0, 1, 4, 5] [] ?_)
   refine good_seq fun K11 hK11 => ?_
   refine rg 3 ?_
   refine gk hK11 59 [0, 1, 4, 5] [] ?_
   refine good_seq fun K12 hK12 => ?_
   refine good_seq fun K13 hK13 => ?_
   refine rg 2 ?_
   obtain ⟨hb2, h⟩ := ifS h
   refine g_op rfl (ValOk.op (v_idxM tabOk rfl rfl telem28 tsize30 hb2 (encVal_eq _) rfl rfl ?_))
   refine gs 4 ?_
   refine gk hK13 59 [0, 1, 4, 5, 27] [] ?_
   refine good_cond rfl (fun hc3 => ?_) (fun hc3 => ?_)
   ·replace h := ifF h (ndT hc3)
    refine good_seq fun K14 hK14 => ?_
    refine rg 1 ?_
    refine gk hK14 59 [0, 1, 4, 5] [] ?_
    replace h := unret h hJ1
    obtain rfl := Option.some.inj h
    exact rt
   ·replace h := ifT h (ndF hc3)
    refine good_skip ?_
    refine hK12 _ (kp 59 [0, 1, 4, 5] [] ?_)
    refine good_seq fun K15 hK15 => ?_
    refine rg 3 ?_
    refine gk hK15 59 [0, 1, 4, 5] [] ?_
    refine good_seq fun K16 hK16 => ?_
    refine good_seq fun K17 hK17 => ?_
    refine good_draw (by kernel_rfl) (by kernel_rfl) ?_
    refine q_op rfl (v_move rfl rfl ?_)
    refine q_op rfl (v_move rfl rfl ?_)
    obtain ⟨hb3, h⟩ := ifS h
    refine q_op rfl (v_idxM tabOk rfl rfl telem28 tsize30 hb3 (encVal_eq _) rfl rfl ?_)
    refine q_op rfl (v_fieldE tabOk rfl tfoff30_2 rfl rfl ?_)
    refine q_op rfl (v_loadE tabOk rfl tsize9 tagg9 rfl rfl rfl ?_)
    refine q_op rfl (v_move rfl rfl ?_)
    obtain ⟨y1, hy1, h⟩ := bnd h
    refine q_call [] [] (fun _ _ _ _ _ => wanted_none rfl _) (core_value rfl rfl) (m_laws_markText_ok m1 (IntKind.wrap .i64 ((IntKind.wrap .i64 (x1 + 1)) + 1)) _ hy1) trivial (.cons (.refl _) (.nil)) (.str _) rfl ?_
    refine q_op rfl (v_bin rfl rfl rfl rfl ?_)
    refine q_nil ?_
    refine hK17 _ (kp 59 [0, 1, 4, 5, 37] [] ?_)
    refine good_cond rfl (fun hc4 => ?_) (fun hc4 => ?_)
    ·replace h := ifF h (ndT hc4)
     refine good_seq fun K18 hK18 => ?_
     refine rg 1 ?_
     refine gk hK18 59 [0, 1, 4, 5] [] ?_
     replace h := unret h hJ1
     obtain rfl := Option.some.inj h
     exact rt
    ·replace h := ifT h (ndF hc4)
     refine good_skip ?_
     refine hK16 _ (kp 59 [0, 1, 4, 5] [] ?_)
     refine good_seq fun K19 hK19 => ?_
     refine rg 3 ?_
     refine gk hK19 59 [0, 1, 4, 5] [] ?_
     refine good_seq fun K20 hK20 => ?_
     refine rg 2 ?_
     obtain ⟨hb4, h⟩ := ifS h
     refine g_op rfl (ValOk.op (v_idxM tabOk rfl rfl telem28 tsize30 hb4 (encVal_eq _) rfl rfl ?_))
     refine gs 3 ?_
     obtain ⟨y2, hy2, h⟩ := bnd h
     refine g_op rfl (o_callR [] [] (core_value rfl rfl) ((ih m1 (by omega)) ((ix a0 x2).list) (IntKind.wrap .i64 ((IntKind.wrap .i64 ((IntKind.wrap .i64 (x1 + 1)) + 1)) + 1)) _ hy2) trivial (.cons (.refl _) (.cons (.refl _) (.nil))) (.inl rfl) rfl ?_)
     refine gs 1 ?_
     refine gk hK20 59 [0, 1, 4, 5] [] ?_
     refine good_seq fun K21 hK21 => ?_
     refine good_seq fun K22 hK22 => ?_
     refine rg 2 ?_
     refine gk hK22 59 [0, 1, 4, 5, 48] [] ?_
     refine good_cond rfl (fun hc5 => ?_) (fun hc5 => ?_)
     ·replace h := ifT h (dT hc5)
      refine good_seq fun K23 hK23 => ?_
      refine rg 1 ?_
      refine gk hK23 59 [0, 1, 4, 5] [] ?_
      replace h := unret h hJ1
      obtain rfl := Option.some.inj h
      exact rt
     ·replace h := ifF h (dF hc5)
      refine good_skip ?_
      refine hK21 _ (kp 59 [0, 1, 4, 5] [] ?_)
      refine good_seq fun K24 hK24 => ?_
      refine rg 2 ?_
      obtain ⟨hb5, h⟩ := ifS h
      refine g_op rfl (ValOk.op (v_idxM tabOk rfl rfl telem28 tsize30 hb5 (encVal_eq _) rfl rfl ?_))
      refine gs 3 ?_
      obtain ⟨y3, hy3, h⟩ := bnd h
      refine g_op rfl (o_callR [] [] (core_value rfl rfl) (m_laws_heldStringS_ok m1 ((ix a0 x2).names) y2 _ hy3) trivial (.cons (.refl _) (.cons (.refl _) (.nil))) (.inl rfl) rfl ?_)
      refine gs 1 ?_
      refine gk hK24 59 [0, 1, 4, 5] [] ?_
      refine good_seq fun K25 hK25 => ?_
      refine rg 2 ?_
      refine gk hK25 59 [0, 1, 4, 5, 57] [] ?_
      refine good_cond rfl (fun hc6 => ?_) (fun hc6 => ?_)
      ·replace h := ifT h (dT hc6)
       refine good_seq fun K26 hK26 => ?_
       refine rg 1 ?_
       refine gk hK26 59 [0, 1, 4, 5] [] ?_
       replace h := unret h hJ1
       obtain rfl := Option.some.inj h
       exact rt
      ·replace h := ifF h (dF hc6)
       refine good_skip ?_
       refine hK7 _ (kp 59 [0, 1, 4, 5] [] ?_)
       refine rg 3 ?_
       refine g_nil ?_
       exact round_mk m1 (y3, IntKind.wrap .i64 (x2 + 1)) (Nat.lt_succ_self _) ⟨by omega, h⟩ (lw [])
 ·replace h := ifF h (dF hc1)
  refine good_exit ?_
  exact hw1 x1 (Option.some.inj h).symm _ (lw [])
theorem m_laws_heldValueS_all (k : Nat) : P_m_laws_heldValueS k := by
 induction k using Nat.strongRecOn with
 | _ k ih => exact m_laws_heldValueS_step k ih
theorem m_laws_heldValueS_ok (k : Nat) : ∀ (a0 : (List Val)) (a1 : Int) (r : Int), m_laws_heldValueS k a0 a1 = some r → Does Try.prog 59 [.sl true (a0.map encVal), .int .i64 a1] [] (ret (.int .i64 r)) := (m_laws_heldValueS_all k)
def m_laws_heldValue (k : Nat) (a0 : Val) (a1 : Int) : Option Int :=
 (m_laws_heldValueS k a0.list a1).bind fun y1 =>
 if y1 < 0 then
  some (-1)
 else
  (m_laws_heldStringS k a0.names y1).bind fun y2 =>
  if y2 < 0 then
   some (-1)
  else
   some y2
theorem m_laws_heldValue_ok (k : Nat) : ∀ (a0 : Val) (a1 : Int) (r : Int), m_laws_heldValue k a0 a1 = some r → Does Try.prog 25 [.agg [.int .i64 a0.kind, .int .i64 a0.num, .str a0.text, .sl true (a0.list.map encVal), .sl false (a0.names.map encS)], .int .i64 a1] [] (ret (.int .i64 r)) := by
 intro a0 a1 r h
 rw [m_laws_heldValue] at h
 refine does_of_good tabOk Try.func25 rfl (by decide +kernel) (Nat.le_of_ble_eq_true rfl) fun c => ?_
 refine Good.le (σ' := ⟨18, [(0, .agg [.int .i64 a0.kind, .int .i64 a0.num, .str a0.text, .sl true (a0.list.map encVal), .sl false (a0.names.map encS)]), (1, .int .i64 a1)], []⟩) (Le.refl _) ?_
 refine good_seq fun K1 hK1 => ?_
 refine good_region ?_
 refine g_op rfl (o_box (k := 12) tabOk rfl rfl rfl rfl rfl ?_)
 intro b1
 refine gs 1 ?_
 refine gk hK1 18 [1, 2, 4] [12] ?_
 refine good_seq fun K2 hK2 => ?_
 refine rg 3 ?_
 obtain ⟨y1, hy1, h⟩ := bnd h
 refine g_op rfl (o_callR [] [] (core_value rfl rfl) (m_laws_heldValueS_ok k a0.list a1 _ hy1) trivial (.cons (.refl _) (.cons (.refl _) (.nil))) (.inl rfl) rfl ?_)
 refine gs 1 ?_
 refine gk hK2 18 [1, 2, 4] [12] ?_
 refine good_seq fun K3 hK3 => ?_
 refine good_seq fun K4 hK4 => ?_
 refine rg 2 ?_
 refine gk hK4 18 [1, 2, 4, 10] [12] ?_
 refine good_cond rfl (fun hc1 => ?_) (fun hc1 => ?_)
 ·replace h := ifT h (dT hc1)
  refine good_seq fun K5 hK5 => ?_
  refine rg 1 ?_
  refine gk hK5 18 [1, 2, 4] [12] ?_
  obtain rfl := Option.some.inj h
  exact rt
 ·replace h := ifF h (dF hc1)
  refine good_skip ?_
  refine hK3 _ (kp 18 [1, 2, 4] [12] ?_)
  refine good_seq fun K6 hK6 => ?_
  refine rg 3 ?_
  obtain ⟨y2, hy2, h⟩ := bnd h
  refine g_op rfl (o_callR [] [] (core_value rfl rfl) (m_laws_heldStringS_ok k a0.names y1 _ hy2) trivial (.cons (.refl _) (.cons (.refl _) (.nil))) (.inl rfl) rfl ?_)
  refine gs 1 ?_
  refine gk hK6 18 [1, 4] [] ?_
  refine good_seq fun K7 hK7 => ?_
  refine good_seq fun K8 hK8 => ?_
  refine rg 2 ?_
  refine gk hK8 18 [1, 4, 16] [] ?_
  refine good_cond rfl (fun hc2 => ?_) (fun hc2 => ?_)
  ·replace h := ifT h (dT hc2)
   refine good_seq fun K9 hK9 => ?_
   refine rg 1 ?_
   refine gk hK9 18 [1, 4] [] ?_
   obtain rfl := Option.some.inj h
   exact rt
  ·replace h := ifF h (dF hc2)
   refine good_skip ?_
   refine hK7 _ (kp 18 [1, 4] [] ?_)
   refine good_seq fun K10 hK10 => ?_
   refine rg 2 ?_
   refine gk hK10 18 [4] [] ?_
   obtain rfl := Option.some.inj h
   exact rt
end Go.Proofs.Ytiaigcdckmpepaa
end
end
section
/-! Functions of the program. -/
set_option linter.unusedVariables false
set_option linter.unnecessarySimpa false
set_option maxRecDepth 100000
set_option maxHeartbeats 20000000
noncomputable section
namespace Go.Proofs.Ytiaigcdckmpepaa
open Go.Bb
def m_impl_spanOf (a0 : (List Val)) : Option (List Val) :=
 if (a0.length : Int) = 0 then
  some ([] : List Val)
 else
  if a0 ≠ [] then
   some a0
  else none
theorem m_impl_spanOf_ok : ∀ (a0 : (List Val)) (r : (List Val)), m_impl_spanOf a0 = some r → Does Try.prog 50 [.sl true (a0.map encVal)] [] (ret (.agg [.spt (r.map encVal), .int .i64 (r.length : Int)])) := by
 intro a0 r h
 rw [m_impl_spanOf] at h
 refine does_of_good tabOk Try.func50 rfl (by decide +kernel) (Nat.le_of_ble_eq_true rfl) fun c => ?_
 refine Good.le (σ' := ⟨12, [(0, .sl true (a0.map encVal))], []⟩) (Le.refl _) ?_
 refine good_seq fun K1 hK1 => ?_
 refine good_region ?_
 refine g_op rfl (o_alloc (k := 12) tabOk tzero62 rfl rfl ?_)
 intro b1
 refine g_nil (hK1 _ ?_)
 refine good_seq fun K2 hK2 => ?_
 refine good_seq fun K3 hK3 => ?_
 refine rg 1 ?_
 refine g_op rfl (ValOk.op (v_lenM (l := a0) (f := encVal) tabOk rfl rfl telem28 rfl ?_))
 refine gs 1 ?_
 refine gk hK3 12 [0, 2, 5] [12] ?_
 refine good_cond rfl (fun hc1 => ?_) (fun hc1 => ?_)
 ·replace h := ifT h (dT hc1)
  refine good_seq fun K4 hK4 => ?_
  refine good_region ?_
  refine g_op rfl (ValOk.op (v_buildW tabOk (cs := [.raw (.pointer none), .int .i64 0]) tzero62 tsok62 rfl rfl (.agg (.cons .sptnil (.cons (.refl _) .nil))) rfl ?_))
  refine g_op rfl (o_storeP tabOk (cs' := [.spt (([] : List Val).map encVal), .int .i64 0]) rfl rfl tsize62 rfl rfl rfl (Nat.le_of_ble_eq_true rfl) rfl rfl rfl ?_)
  refine gk hK4 12 [0, 2] [12] ?_
  refine Good.le (σ' := ⟨12, [(2, .ptr 12 b1 0)], [(12, ((.pointer (some ⟨b1, 0, none⟩)), .optr 62 [.spt (([] : List Val).map encVal), .int .i64 0]))]⟩) (lw [some 12]) ?_
  refine good_ret ?_
  obtain rfl := Option.some.inj h
  refine thenQ_ret ?_
  exact endQ_ret (h' := []) [] (.cell rfl rfl tsize62 tagg62 rfl rfl rfl (.nil)) trivial (by decide) ⟨rfl, rfl⟩
 ·replace h := ifF h (dF hc1)
  refine good_skip ?_
  refine hK2 _ (kp 12 [0, 2] [12] ?_)
  refine good_seq fun K5 hK5 => ?_
  refine rg 1 ?_
  obtain ⟨hb1, h⟩ := ifS h
  refine g_op rfl (ValOk.op (v_idx0 tabOk rfl rfl telem28 tsize30 (by simpa using hb1) rfl ?_))
  refine gs 1 ?_
  refine g_op rfl (ValOk.op (v_lenM (l := a0) (f := encVal) tabOk rfl rfl telem28 rfl ?_))
  refine g_op rfl (ValOk.op (v_build tabOk (cs := [.spt (a0.map encVal), .int .i64 (a0.length : Int)]) tzero62 tsok62 rfl rfl rfl ?_))
  refine g_op rfl (o_storeP tabOk (cs' := [.spt (a0.map encVal), .int .i64 (a0.length : Int)]) rfl rfl tsize62 rfl rfl rfl (Nat.le_of_ble_eq_true rfl) rfl rfl rfl ?_)
  refine gk hK5 12 [2] [12] ?_
  refine Good.le (σ' := ⟨12, [(2, .ptr 12 b1 0)], [(12, ((.pointer (some ⟨b1, 0, none⟩)), .optr 62 [.spt (a0.map encVal), .int .i64 (a0.length : Int)]))]⟩) (lw [some 12]) ?_
  refine good_ret ?_
  obtain rfl := Option.some.inj h
  exact endQ_ret (h' := []) [] (.cell rfl rfl tsize62 tagg62 rfl rfl rfl (.nil)) trivial (by decide) ⟨rfl, rfl⟩
def m_impl_copyTexts (a0 : (List Bs)) : Option (List Bs) :=
 if (a0.length : Int) = 0 then
  some ([] : List Bs)
 else
  if (0 : Int) ≤ (a0.length : Int) ∧ 16 * (a0.length : Int) ≤ (281474976710656 : Int) then
   if (a0.length : Int) ≤ (9223372036854775807 : Int) then
    if (List.replicate (Int.toNat (a0.length : Int)) ([] : Bs)).length = a0.length ∧ a0 ≠ [] then
     some a0
    else none
   else none
  else none
theorem m_impl_copyTexts_ok : ∀ (a0 : (List Bs)) (r : (List Bs)), m_impl_copyTexts a0 = some r → Does Try.prog 99 [.sl false (a0.map encS)] [] (fun q h' => ∃ u0 : Value, q = .hd 100 u0 ∧ h' = [(100, (u0, .osl 9 1 (r.map encS)))]) := by
 intro a0 r h
 rw [m_impl_copyTexts] at h
 refine does_of_good tabOk Try.func99 rfl (by decide +kernel) (Nat.le_of_ble_eq_true rfl) fun c => ?_
 refine Good.le (σ' := ⟨14, [(0, .sl false (a0.map encS))], []⟩) (Le.refl _) ?_
 refine good_seq fun K1 hK1 => ?_
 refine rg 1 ?_
 refine g_nil (hK1 _ ?_)
 refine good_seq fun K2 hK2 => ?_
 refine good_seq fun K3 hK3 => ?_
 refine rg 1 ?_
 refine g_op rfl (ValOk.op (v_lenM (l := a0) (f := encS) tabOk rfl rfl telem23 rfl ?_))
 refine gs 1 ?_
 refine gk hK3 14 [0, 2, 6] [] ?_
 refine good_cond rfl (fun hc1 => ?_) (fun hc1 => ?_)
 ·replace h := ifT h (dT hc1)
  refine good_seq fun K4 hK4 => ?_
  refine rg 1 ?_
  refine gk hK4 14 [0, 2] [] ?_
  refine Good.le (σ' := ⟨14, [(2, .hd 100 nilV)], [(100, (nilV, .osl 9 1 (([] : List Bs).map encS)))]⟩) (lw [none]) ?_
  refine good_ret ?_
  obtain rfl := Option.some.inj h
  refine thenQ_ret ?_
  exact endQ_ret (h' := [(100, (_, _))]) [some 100] (.tmp rfl (.nil)) ⟨⟨_, rfl, .refl _⟩, trivial⟩ (by decide) ⟨nilV, rfl, rfl⟩
 ·replace h := ifF h (dF hc1)
  refine good_skip ?_
  refine hK2 _ (kp 14 [0, 2] [] ?_)
  refine good_seq fun K5 hK5 => ?_
  refine rg 1 ?_
  refine g_op rfl (ValOk.op (v_lenM (l := a0) (f := encS) tabOk rfl rfl telem23 rfl ?_))
  obtain ⟨hb1, h⟩ := ifS h
  obtain ⟨hb2, h⟩ := ifS h
  refine g_op rfl (o_makeM (k := 19) (zz := (([] : Bs))) (f := encS) tabOk telem23 tsize9 tbytes9 tzero9 rfl rfl rfl (by decide) (WkL.refl _) rfl rfl hb1 hb2 ?_)
  intro w1
  refine gs 1 ?_
  refine gk hK5 14 [0, 2, 3] [19] ?_
  refine good_seq fun K6 hK6 => ?_
  refine rg 2 ?_
  obtain ⟨hb3, h⟩ := ifS h
  refine g_op rfl (o_copyS (q := 19) (l := a0) tabOk ⟨_, rfl⟩ rfl rfl telem23 tsize9 (by simpa using hb3.1) hb3.2 rfl ?_)
  refine gk hK6 14 [2, 3] [19] ?_
  refine good_seq fun K7 hK7 => ?_
  refine rg 2 ?_
  refine gk hK7 14 [2] [19] ?_
  refine Good.le (σ' := ⟨14, [(2, .hd 100 w1)], [(100, (w1, .osl 9 1 (a0.map encS)))]⟩) (lw [some 19]) ?_
  refine good_ret ?_
  obtain rfl := Option.some.inj h
  exact endQ_ret (h' := [(100, (_, _))]) [some 100] (.tmp rfl (.nil)) ⟨⟨_, rfl, .refl _⟩, trivial⟩ (by decide) ⟨w1, rfl, rfl⟩
theorem m_impl_copyTexts_okF : ∀ (a0 : (List Bs)) (r : (List Bs)), m_impl_copyTexts a0 = some r → Does Try.prog 99 [.sl false (a0.map encS)] [] (ret (.sl false (r.map encS))) := by
 intro a0 r h
 refine does_frz (m_impl_copyTexts_ok a0 r h) ?_
 rintro q h' ⟨u0, rfl, rfl⟩
 exact ⟨[100], [(_, _)], ⟨⟨_, rfl, .osl (FrzLL.map fun _ _ => encS_frz _)⟩, trivial⟩, .frz _ _ _ (.head _)⟩
mutual
def m_impl_copyWithin_l2 : Nat → Val → (List (List Val)) → (List Val) → (List Val) → Int → Option (Lp (List Val) Val)
 | 0, _, _, _, _, _ => none
 | k + 1, a0, a1, y2, x2, x3 =>
  if x3 < (a0.list.length : Int) then
   if (0 : Int) ≤ x3 ∧ x3 < (a0.list.length : Int) then
    (m_impl_copyWithin k (ix a0.list x3) (y2 :: a1)).bind fun y3 =>
    if (0 : Int) ≤ x3 ∧ x3 < (x2.length : Int) then
     m_impl_copyWithin_l2 k a0 a1 y2 (x2.set (Int.toNat x3) y3) (IntKind.wrap .i64 (x3 + 1))
    else none
   else none
  else
   some (Lp.go x2)
def m_impl_copyWithin_l1 : Nat → (List Val) → (List (List Val)) → Option (Lp Unit Val)
 | 0, _, _ => none
 | k + 1, y2, x1 =>
  if x1 = [] then
   some (Lp.go ())
  else
   if x1 ≠ [] then
    if (x1.headD []) ≠ y2 then
     if x1 ≠ [] then
      m_impl_copyWithin_l1 k y2 x1.tail
     else none
    else none
   else none
def m_impl_copyWithin : Nat → Val → (List (List Val)) → Option Val
 | 0, _, _ => none
 | k + 1, a0, a1 =>
  (m_impl_copyTexts a0.names).bind fun y1 =>
  if (a0.list.length : Int) = 0 then
   some (Val.mk a0.kind a0.num a0.text ([] : List Val) y1)
  else
   (m_impl_spanOf a0.list).bind fun y2 =>
   (m_impl_copyWithin_l1 k y2 a1).bind fun o1 =>
   o1.then fun s1 =>
  if (0 : Int) ≤ (a0.list.length : Int) ∧ 80 * (a0.list.length : Int) ≤ (281474976710656 : Int) then
   if (a0.list.length : Int) ≤ (9223372036854775807 : Int) then
    (m_impl_copyWithin_l2 k a0 a1 y2 (List.replicate (Int.toNat (a0.list.length : Int)) (Val.mk 0 0 ([] : Bs) [] [])) 0).bind fun o2 =>
    o2.then fun s2 =>
  some (Val.mk a0.kind a0.num a0.text s2 y1)
   else none
  else none
end
def P_m_impl_copyWithin (k : Nat) : Prop := ∀ (a0 : Val) (a1 : (List (List Val))) (r : Val), m_impl_copyWithin k a0 a1 = some r → Does Try.prog 85 [.agg [.int .i64 a0.kind, .int .i64 a0.num, .str a0.text, .sl true (a0.list.map encVal), .sl false (a0.names.map encS)], (encChain a1)] [] (fun q h' => ∃ u0 : Value, ∃ u1 : Value, q = .agg [.int .i64 r.kind, .int .i64 r.num, .str r.text, .hd 100 u0, .hd 101 u1] ∧ h' = [(100, (u0, .osl 30 5 (r.list.map encOVal))), (101, (u1, .osl 9 1 (r.names.map encS)))])
theorem m_impl_copyWithin_step (k : Nat) (ih : ∀ m, m < k → P_m_impl_copyWithin m) : P_m_impl_copyWithin k := by
 intro a0 a1 r h
 obtain ⟨k, rfl⟩ : ∃ k', k = k' + 1 := by cases k with | zero => (rw [m_impl_copyWithin] at h; cases h) | succ k' => exact ⟨k', rfl⟩
 rw [m_impl_copyWithin] at h
 refine does_of_good tabOk Try.func85 rfl (by decide +kernel) (Nat.le_of_ble_eq_true rfl) fun c => ?_
 refine Good.le (σ' := ⟨76, [(0, .agg [.int .i64 a0.kind, .int .i64 a0.num, .str a0.text, .sl true (a0.list.map encVal), .sl false (a0.names.map encS)]), (1, (encChain a1))], []⟩) (Le.refl _) ?_
 refine good_seq fun K1 hK1 => ?_
 refine good_region ?_
 refine g_op rfl (o_box (k := 12) tabOk rfl rfl rfl rfl rfl ?_)
 intro b1
 refine g_op rfl (o_alloc (k := 14) tabOk tzero30 rfl rfl ?_)
 intro b2
 refine gk hK1 76 [1, 2, 4] [12, 14] ?_
 refine good_seq fun K2 hK2 => ?_
 obtain ⟨y1, hy1, h⟩ := bnd h
 refine good_anyM (by kernel_rfl) [⟨[], [2], [], [], [], []⟩, ⟨[0], [11], [12], [], [], []⟩, ⟨[], [2], [], [], [], []⟩, ⟨[2], [13], [12], [], [], []⟩, ⟨[], [2], [], [], [], []⟩, ⟨[4], [15], [12], [], [], []⟩, ⟨[], [2], [], [], [], []⟩, ⟨[6], [17], [12], [], [], []⟩, ⟨[6, 7], [18], [], [], [3001], [3001]⟩, ⟨[0, 1, 2, 3, 4, 5, 6, 7, 8], [12, 14, 16, 19], [], [], [], [3001]⟩, ⟨[], [], [], [], [15], [15]⟩, ⟨[0, 1, 2, 3, 4, 5, 6, 7, 8, 9, 10], [5, 20], [15], [15], [9002], []⟩] [some 11, some 12, some 13, some 14, some 15, some 16, some 17, some 18, some 19, some 20, some 5, none] 76 [(1, (encChain a1)), (2, .ptr 12 b1 0), (4, .ptr 14 b2 0)] [(12, ((.pointer (some ⟨b1, 0, none⟩)), .optr 30 [.int .i64 a0.kind, .int .i64 a0.num, .str a0.text, .sl true (a0.list.map encVal), .sl false (a0.names.map encS)])), (14, ((.pointer (some ⟨b2, 0, none⟩)), .optr 30 [.int .i64 0, .int .i64 0, .str ([] : Bs), .nil, .nil]))] (fun ν1 => [.ptr 12 b1 0, .int .i64 a0.kind, .ptr 12 b1 1, .int .i64 a0.num, .ptr 12 b1 2, .str a0.text, .ptr 12 b1 4, .sl false (a0.names.map encS), .hd 3001 (ν1 3001), .agg [.int .i64 a0.kind, .int .i64 a0.num, .str a0.text, .nil, .hd 3001 (ν1 3001)], .ptr 15 (bse (ν1 15)) 0, .und]) (fun ν1 => [(3001, ((ν1 3001), .osl 9 1 (y1.map encS))), (15, ((.pointer (some ⟨(bse (ν1 15)), 0, none⟩)), .optr 30 [.int .i64 0, .int .i64 0, .str ([] : Bs), .nil, .nil])), (9002, ((.pointer (some ⟨(bse (ν1 15)), 0, none⟩)), .optr 30 [.int .i64 a0.kind, .int .i64 a0.num, .str a0.text, .nil, .hd 3001 (ν1 3001)]))]) [(3001, [3001]), (15, [15]), (9002, [15, 3001]), (12, []), (14, [])] [3001, 15, 9002] [some 12, some 14, some 9002, some 3001] (fun ν1 => [(1, (encChain a1)), (2, .ptr 12 b1 0), (4, .ptr 14 b2 0), (5, .ptr 15 (bse (ν1 15)) 0)]) (fun ν1 => [(12, ((.pointer (some ⟨b1, 0, none⟩)), .optr 30 [.int .i64 a0.kind, .int .i64 a0.num, .str a0.text, .sl true (a0.list.map encVal), .sl false (a0.names.map encS)])), (14, ((.pointer (some ⟨b2, 0, none⟩)), .optr 30 [.int .i64 0, .int .i64 0, .str ([] : Bs), .nil, .nil])), (15, ((.pointer (some ⟨(bse (ν1 15)), 0, none⟩)), .optr 30 [.int .i64 a0.kind, .int .i64 a0.num, .str a0.text, .nil, .hd 3001 (ν1 3001)])), (3001, ((ν1 3001), .osl 9 1 (y1.map encS)))]) (lw [some 12, some 14]) (by kernel_rfl) ⟨?_, ⟨?_, ⟨?_, ⟨?_, ⟨?_, ⟨?_, ⟨?_, ⟨?_, ⟨?_, ⟨?_, ⟨?_, ⟨?_, trivial⟩⟩⟩⟩⟩⟩⟩⟩⟩⟩⟩⟩ ⟨fun _ _ _ => rfl, ⟨fun _ _ _ => rfl, ⟨fun _ _ _ => rfl, ⟨fun _ _ _ => rfl, ⟨fun _ _ _ => rfl, ⟨fun _ _ _ => rfl, ⟨fun _ _ _ => rfl, ⟨fun _ _ _ => rfl, ⟨fun _ _ h => (congrArg (fun zz0 => (some (.hd 3001 zz0) : Option AV)) (h 3001 (by decide))), ⟨fun _ _ h => (congrArg (fun zz0 => (some (.agg [.int .i64 a0.kind, .int .i64 a0.num, .str a0.text, .nil, .hd 3001 zz0]) : Option AV)) (h 3001 (by decide))), ⟨fun _ _ h => (congrArg (fun zz0 => (some (.ptr 15 (bse zz0) 0) : Option AV)) (h 15 (by decide))), ⟨fun _ _ _ => rfl, trivial⟩⟩⟩⟩⟩⟩⟩⟩⟩⟩⟩⟩ ⟨fun _ _ h => (congrArg (fun zz0 => (some (zz0, .osl 9 1 (y1.map encS)) : Option (Value × AV))) (h 3001 (by decide))), ⟨fun _ _ h => (congrArg (fun zz0 => (some ((.pointer (some ⟨(bse zz0), 0, none⟩)), .optr 30 [.int .i64 0, .int .i64 0, .str ([] : Bs), .nil, .nil]) : Option (Value × AV))) (h 15 (by decide))), ⟨fun _ _ h => (cong2 (fun zz0 zz1 => (some ((.pointer (some ⟨(bse zz0), 0, none⟩)), .optr 30 [.int .i64 a0.kind, .int .i64 a0.num, .str a0.text, .nil, .hd 3001 zz1]) : Option (Value × AV))) (h 15 (by decide)) (h 3001 (by decide))), ⟨fun _ _ _ => rfl, ⟨fun _ _ _ => rfl, trivial⟩⟩⟩⟩⟩ (fun _ => rfl) (fun _ => rfl) (by kernel_rfl) (fun _ => ⟨⟨_, rfl, .refl _⟩, ⟨⟨_, rfl, .refl _⟩, ⟨⟨_, rfl, .refl _⟩, ⟨⟨_, rfl, .refl _⟩, trivial⟩⟩⟩⟩) (fun _ => ⟨⟨_, rfl, .refl _⟩, ⟨⟨_, rfl, .refl _⟩, ⟨⟨_, rfl, .refl _⟩, ⟨⟨_, rfl, .refl _⟩, trivial⟩⟩⟩⟩) (by kernel_rfl) (by decide) ?_
 ·refine local_mk (fun ν1 => [(2, .ptr 12 b1 0)]) (fun ν1 => []) (fun _ => rfl) (fun _ => ⟨⟨_, rfl, .refl _, .refl _⟩, trivial⟩) (fun _ => rfl) (fun _ => trivial) ?_
  intro ν1 S H hS hfr
  refine st_op rfl (ValOk.op (v_fieldP tabOk rfl tfoff30_0 rfl ?_))
  exact lp_v hS rfl rfl (fun _ => rfl)
 ·refine local_mk (fun ν1 => [(11, .ptr 12 b1 0)]) (fun ν1 => [(12, ((.pointer (some ⟨b1, 0, none⟩)), .optr 30 [.int .i64 a0.kind, .int .i64 a0.num, .str a0.text, .sl true (a0.list.map encVal), .sl false (a0.names.map encS)]))]) (fun _ => rfl) (fun _ => ⟨⟨_, rfl, .refl _, .refl _⟩, trivial⟩) (fun _ => rfl) (fun _ => ⟨rfl, trivial⟩) ?_
  intro ν1 S H hS hfr
  refine st_op rfl (ValOk.op (v_loadP tabOk rfl rfl tsize3 tagg3 rfl rfl rfl rfl ?_))
  exact lp_v hS rfl rfl (fun _ => rfl)
 ·refine local_mk (fun ν1 => [(2, .ptr 12 b1 0)]) (fun ν1 => []) (fun _ => rfl) (fun _ => ⟨⟨_, rfl, .refl _, .refl _⟩, trivial⟩) (fun _ => rfl) (fun _ => trivial) ?_
  intro ν1 S H hS hfr
  refine st_op rfl (ValOk.op (v_fieldP tabOk rfl tfoff30_1 rfl ?_))
  exact lp_v hS rfl rfl (fun _ => rfl)
 ·refine local_mk (fun ν1 => [(13, .ptr 12 b1 1)]) (fun ν1 => [(12, ((.pointer (some ⟨b1, 0, none⟩)), .optr 30 [.int .i64 a0.kind, .int .i64 a0.num, .str a0.text, .sl true (a0.list.map encVal), .sl false (a0.names.map encS)]))]) (fun _ => rfl) (fun _ => ⟨⟨_, rfl, .refl _, .refl _⟩, trivial⟩) (fun _ => rfl) (fun _ => ⟨rfl, trivial⟩) ?_
  intro ν1 S H hS hfr
  refine st_op rfl (ValOk.op (v_loadP tabOk rfl rfl tsize3 tagg3 rfl rfl rfl rfl ?_))
  exact lp_v hS rfl rfl (fun _ => rfl)
 ·refine local_mk (fun ν1 => [(2, .ptr 12 b1 0)]) (fun ν1 => []) (fun _ => rfl) (fun _ => ⟨⟨_, rfl, .refl _, .refl _⟩, trivial⟩) (fun _ => rfl) (fun _ => trivial) ?_
  intro ν1 S H hS hfr
  refine st_op rfl (ValOk.op (v_fieldP tabOk rfl tfoff30_2 rfl ?_))
  exact lp_v hS rfl rfl (fun _ => rfl)
 ·refine local_mk (fun ν1 => [(15, .ptr 12 b1 2)]) (fun ν1 => [(12, ((.pointer (some ⟨b1, 0, none⟩)), .optr 30 [.int .i64 a0.kind, .int .i64 a0.num, .str a0.text, .sl true (a0.list.map encVal), .sl false (a0.names.map encS)]))]) (fun _ => rfl) (fun _ => ⟨⟨_, rfl, .refl _, .refl _⟩, trivial⟩) (fun _ => rfl) (fun _ => ⟨rfl, trivial⟩) ?_
  intro ν1 S H hS hfr
  refine st_op rfl (ValOk.op (v_loadP tabOk rfl rfl tsize9 tagg9 rfl rfl rfl rfl ?_))
  exact lp_v hS rfl rfl (fun _ => rfl)
 ·refine local_mk (fun ν1 => [(2, .ptr 12 b1 0)]) (fun ν1 => []) (fun _ => rfl) (fun _ => ⟨⟨_, rfl, .refl _, .refl _⟩, trivial⟩) (fun _ => rfl) (fun _ => trivial) ?_
  intro ν1 S H hS hfr
  refine st_op rfl (ValOk.op (v_fieldP tabOk rfl tfoff30_4 rfl ?_))
  exact lp_v hS rfl rfl (fun _ => rfl)
 ·refine local_mk (fun ν1 => [(17, .ptr 12 b1 4)]) (fun ν1 => [(12, ((.pointer (some ⟨b1, 0, none⟩)), .optr 30 [.int .i64 a0.kind, .int .i64 a0.num, .str a0.text, .sl true (a0.list.map encVal), .sl false (a0.names.map encS)]))]) (fun _ => rfl) (fun _ => ⟨⟨_, rfl, .refl _, .refl _⟩, trivial⟩) (fun _ => rfl) (fun _ => ⟨rfl, trivial⟩) ?_
  intro ν1 S H hS hfr
  refine st_op rfl (ValOk.op (v_loadP tabOk rfl rfl tsize23 tagg23 rfl rfl rfl rfl ?_))
  exact lp_v hS rfl rfl (fun _ => rfl)
 ·refine local_mk (fun ν1 => [(18, .sl false (a0.names.map encS))]) (fun ν1 => []) (fun _ => rfl) (fun _ => ⟨⟨_, rfl, .refl _, .refl _⟩, trivial⟩) (fun _ => rfl) (fun _ => trivial) ?_
  intro ν1 S H hS hfr
  refine st_op rfl (o_callDa [] [] [] (core_value rfl rfl) (m_impl_copyTexts_ok a0.names _ hy1) trivial (.cons (.refl _) (.nil)) trivial rfl rfl rfl ?_)
  rintro _ _ ⟨w1, rfl, rfl⟩
  refine ⟨.hd 3001 w1, [(3001, _)], .hd _ _ _, rfl, rfl, rfl, (fun x hx => has_minus (hfr x hx)), .inl rfl, ?_⟩
  exact lp_mm (hN := [(3001, _)]) hS rfl rfl (fun _ => rfl) ⟨rfl, trivial⟩
 ·refine local_mk (fun ν1 => [(12, .int .i64 a0.kind), (14, .int .i64 a0.num), (16, .str a0.text), (19, .hd 3001 (ν1 3001))]) (fun ν1 => []) (fun _ => rfl) (fun _ => ⟨⟨_, rfl, .refl _, .refl _⟩, ⟨⟨_, rfl, .refl _, .refl _⟩, ⟨⟨_, rfl, .refl _, .refl _⟩, ⟨⟨_, rfl, .refl _, .refl _⟩, trivial⟩⟩⟩⟩) (fun _ => rfl) (fun _ => trivial) ?_
  intro ν1 S H hS hfr
  refine st_op rfl (ValOk.op (v_build tabOk (cs := [.int .i64 a0.kind, .int .i64 a0.num, .str a0.text, .nil, .hd 3001 (ν1 3001)]) tzero30 tsok30 rfl rfl rfl ?_))
  exact lp_v hS rfl rfl (fun _ => rfl)
 ·refine local_mk (fun ν1 => []) (fun ν1 => []) (fun _ => rfl) (fun _ => trivial) (fun _ => rfl) (fun _ => trivial) ?_
  intro ν1 S H hS hfr
  refine st_op rfl (o_alloc (k := 15) tabOk tzero30 (hfr _ (by decide)) rfl ?_)
  intro w
  exact lp_n (k := 15) hS rfl rfl (fun _ => rfl) rfl
 ·refine local_mk (fun ν1 => [(5, .ptr 15 (bse (ν1 15)) 0), (20, .agg [.int .i64 a0.kind, .int .i64 a0.num, .str a0.text, .nil, .hd 3001 (ν1 3001)])]) (fun ν1 => [(15, ((.pointer (some ⟨(bse (ν1 15)), 0, none⟩)), .optr 30 [.int .i64 0, .int .i64 0, .str ([] : Bs), .nil, .nil]))]) (fun _ => rfl) (fun _ => ⟨⟨_, rfl, .refl _, .refl _⟩, ⟨⟨_, rfl, .refl _, .refl _⟩, trivial⟩⟩) (fun _ => rfl) (fun _ => ⟨rfl, trivial⟩) ?_
  intro ν1 S H hS hfr
  refine st_op rfl (o_storeP tabOk (cs' := [.int .i64 a0.kind, .int .i64 a0.num, .str a0.text, .nil, .hd 3001 (ν1 3001)]) rfl rfl tsize30 rfl rfl rfl (Nat.le_of_ble_eq_true rfl) rfl rfl rfl ?_)
  exact lp_m (k := 9002) hS rfl rfl (.inr (by decide)) (fun _ => rfl) rfl
 intro ν1
 refine hK2 _ ?_
 refine good_seq fun K3 hK3 => ?_
 refine good_seq fun K4 hK4 => ?_
 refine rg 2 ?_
 refine g_op rfl (ValOk.op (v_lenM (l := a0.list) (f := encVal) tabOk rfl rfl telem28 rfl ?_))
 refine gs 1 ?_
 refine gk hK4 76 [1, 2, 4, 5, 24] [12, 14, 15, 3001] ?_
 refine good_cond rfl (fun hc1 => ?_) (fun hc1 => ?_)
 ·replace h := ifT h (dT hc1)
  refine good_seq fun K5 hK5 => ?_
  refine rg 1 ?_
  refine g_op rfl (o_storeP tabOk (cs' := [.int .i64 a0.kind, .int .i64 a0.num, .str a0.text, .nil, .hd 3001 (ν1 3001)]) rfl rfl tsize30 rfl rfl rfl (Nat.le_of_ble_eq_true rfl) rfl rfl rfl ?_)
  refine gk hK5 76 [1, 2, 4, 5] [12, 14, 3001, 15] ?_
  refine Good.le (σ' := ⟨76, [(4, .ptr 14 b2 0)], [(100, (nilV, .osl 30 5 (([] : List Val).map encOVal))), (101, ((ν1 3001), .osl 9 1 (y1.map encS))), (14, ((.pointer (some ⟨b2, 0, none⟩)), .optr 30 [.int .i64 a0.kind, .int .i64 a0.num, .str a0.text, .hd 100 nilV, .hd 101 (ν1 3001)]))]⟩) (lw [none, some 3001, some 14]) ?_
  refine good_ret ?_
  obtain rfl := Option.some.inj h
  refine thenQ_ret ?_
  exact endQ_ret (h' := [(100, (_, _)), (101, (_, _))]) [some 100, some 101] (.cell rfl rfl tsize30 tagg30 rfl rfl rfl (.nil)) ⟨⟨_, rfl, .refl _⟩, ⟨⟨_, rfl, .refl _⟩, trivial⟩⟩ (by decide) ⟨nilV, (ν1 3001), rfl, rfl⟩
 ·replace h := ifF h (dF hc1)
  refine good_skip ?_
  refine hK3 _ (kp 76 [1, 2, 4, 5] [12, 14, 15, 3001] ?_)
  refine good_seq fun K6 hK6 => ?_
  refine rg 2 ?_
  obtain ⟨y2, hy2, h⟩ := bnd h
  refine g_op rfl (o_callR [] [] (core_value rfl rfl) (m_impl_spanOf_ok a0.list _ hy2) trivial (.cons (.refl _) (.nil)) (.inl rfl) rfl ?_)
  refine g_op rfl (o_alloc (k := 16) tabOk tzero62 rfl rfl ?_)
  intro b3
  refine g_op rfl (o_storeP tabOk (cs' := [.spt (y2.map encVal), .int .i64 (y2.length : Int)]) rfl rfl tsize62 rfl rfl rfl (Nat.le_of_ble_eq_true rfl) rfl rfl rfl ?_)
  refine gk hK6 76 [1, 2, 4, 5, 6] [12, 14, 15, 3001, 16] ?_
  refine good_seq fun K7 hK7 => ?_
  refine good_seq fun K8 hK8 => ?_
  refine rg 2 ?_
  refine gk hK8 76 [1, 2, 4, 5, 6, 7] [12, 14, 15, 3001, 16] ?_
  obtain ⟨o1, ho1, hJ1⟩ := bnd h
  have hw1 : ∀ (s1 : Unit), o1 = Lp.go s1 → ∀ σ', Le σ' ⟨76, [(1, (encChain a1)), (2, .ptr 12 b1 0), (4, .ptr 14 b2 0), (5, .ptr 15 (bse (ν1 15)) 0), (6, .ptr 16 b3 0)], [(12, ((.pointer (some ⟨b1, 0, none⟩)), .optr 30 [.int .i64 a0.kind, .int .i64 a0.num, .str a0.text, .sl true (a0.list.map encVal), .sl false (a0.names.map encS)])), (14, ((.pointer (some ⟨b2, 0, none⟩)), .optr 30 [.int .i64 0, .int .i64 0, .str ([] : Bs), .nil, .nil])), (15, ((.pointer (some ⟨(bse (ν1 15)), 0, none⟩)), .optr 30 [.int .i64 a0.kind, .int .i64 a0.num, .str a0.text, .nil, .hd 3001 (ν1 3001)])), (3001, ((ν1 3001), .osl 9 1 (y1.map encS))), (16, ((.pointer (some ⟨b3, 0, none⟩)), .optr 62 [.spt (y2.map encVal), .int .i64 (y2.length : Int)]))]⟩ → K7 σ' := by
   intro s1 e1 σ' hle1
   subst e1
   refine hK7 _ (Good.le hle1 ?_)
   replace h := hJ1
   refine good_seq fun K9 hK9 => ?_
   refine rg 2 ?_
   refine g_op rfl (ValOk.op (v_lenM (l := a0.list) (f := encVal) tabOk rfl rfl telem28 rfl ?_))
   obtain ⟨hb1, h⟩ := ifS h
   obtain ⟨hb2, h⟩ := ifS h
   refine g_op rfl (OpOk.le (o_makeM (k := 61) (zz := ((Val.mk 0 0 ([] : Bs) [] []))) (f := fun _ : Val => ([.int .i64 0, .int .i64 0, .str ([] : Bs), .nil, .nil] : List AV)) tabOk telem28 tsize30 tbytes30 tzero30 rfl rfl rfl (by decide) (WkL.refl _) rfl rfl hb1 hb2 ?_))
   intro w2
   refine ⟨_, le_nilsR (k := 61) (rows' := (List.replicate (Int.toNat (a0.list.length : Int)) (Val.mk 0 0 ([] : Bs) [] [])).map encOVal) (RowsTo.repl (by simp only [encOVal_eq]; exact .cons (.refl _) (.cons (.refl _) (.cons (.refl _) (.cons (.nil _ _) (.cons (.nil _ _) (.nil))))))), ?_⟩
   refine gs 1 ?_
   refine g_op rfl (o_storeP tabOk (cs' := [.int .i64 a0.kind, .int .i64 a0.num, .str a0.text, .hd 61 w2, .hd 3001 (ν1 3001)]) rfl rfl tsize28 rfl rfl rfl (Nat.le_of_ble_eq_true rfl) rfl rfl rfl ?_)
   refine gk hK9 76 [1, 2, 4, 5, 6] [12, 14, 15, 61, 3001, 16] ?_
   refine good_seq fun K10 hK10 => ?_
   refine rg 4 ?_
   refine g_op rfl (ValOk.op (v_buildW tabOk (cs := [.spt (y2.map encVal), .int .i64 (y2.length : Int), .hd 61 w2, (encChain a1)]) tzero123 tsok123 rfl (fill_made _ _ _ _ _ _) (.agg (.cons (.refl _) (.cons (.refl _) (.cons (.onehd _ _) (.cons (.refl _) (.nil)))))) rfl ?_))
   refine g_op rfl (o_box (k := 68) tabOk rfl rfl (cells_made _ _ _ _) rfl rfl ?_)
   intro b4
   refine g_le (σ1 := ⟨76, [(1, (encChain a1)), (2, .ptr 12 b1 0), (4, .ptr 14 b2 0), (5, .ptr 15 (bse (ν1 15)) 0), (6, .ptr 16 b3 0), (53, .agg [.spt (y2.map encVal), .int .i64 (y2.length : Int)]), (54, .ptr 15 (bse (ν1 15)) 3), (55, .hd 61 w2), (56, (encChain a1)), (57, .agg [.spt (y2.map encVal), .int .i64 (y2.length : Int), .one, (encChain a1)]), (58, (encChain (y2 :: a1)))], [(12, ((.pointer (some ⟨b1, 0, none⟩)), .optr 30 [.int .i64 a0.kind, .int .i64 a0.num, .str a0.text, .sl true (a0.list.map encVal), .sl false (a0.names.map encS)])), (14, ((.pointer (some ⟨b2, 0, none⟩)), .optr 30 [.int .i64 0, .int .i64 0, .str ([] : Bs), .nil, .nil])), (15, ((.pointer (some ⟨(bse (ν1 15)), 0, none⟩)), .optr 30 [.int .i64 a0.kind, .int .i64 a0.num, .str a0.text, .hd 61 w2, .hd 3001 (ν1 3001)])), (61, (w2, .osl 30 5 ((List.replicate (Int.toNat (a0.list.length : Int)) (Val.mk 0 0 ([] : Bs) [] [])).map encOVal))), (3001, ((ν1 3001), .osl 9 1 (y1.map encS))), (16, ((.pointer (some ⟨b3, 0, none⟩)), .optr 62 [.spt (y2.map encVal), .int .i64 (y2.length : Int)]))]⟩) (le_of [68] [(_, _)] [some 12, some 14, some 15, some 61, some 3001, some 16] rfl ⟨⟨_, rfl, .optr (.cons (.refl _ rfl) (.cons (.refl _ rfl) (.cons (.refl _ rfl) (.cons (frz_chain _) (.nil)))))⟩, trivial⟩ ⟨⟨_, rfl, .refl _⟩, ⟨⟨_, rfl, .refl _⟩, ⟨⟨_, rfl, .refl _⟩, ⟨⟨_, rfl, .refl _⟩, ⟨⟨_, rfl, .refl _⟩, ⟨⟨_, rfl, .refl _⟩, ⟨⟨_, rfl, .refl _⟩, ⟨⟨_, rfl, .refl _⟩, ⟨⟨_, rfl, .refl _⟩, ⟨⟨_, rfl, .refl _⟩, ⟨⟨_, rfl, .frzp _ _ _ _ _ (.head _) rfl (Nat.le_of_ble_eq_true rfl)⟩, trivial⟩⟩⟩⟩⟩⟩⟩⟩⟩⟩⟩ ⟨⟨_, rfl, .refl _⟩, ⟨⟨_, rfl, .refl _⟩, ⟨⟨_, rfl, .refl _⟩, ⟨⟨_, rfl, .refl _⟩, ⟨⟨_, rfl, .refl _⟩, ⟨⟨_, rfl, .refl _⟩, trivial⟩⟩⟩⟩⟩⟩ (by decide) (by decide)) ?_
   refine gs 1 ?_
   refine gk hK10 76 [2, 4, 5, 8] [12, 14, 15, 61, 3001] ?_
   refine good_seq fun K11 hK11 => ?_
   refine good_seq fun K12 hK12 => ?_
   refine rg 2 ?_
   refine g_op rfl (ValOk.op (v_lenM (l := a0.list) (f := encVal) tabOk rfl rfl telem28 rfl ?_))
   refine gs 1 ?_
   refine gk hK12 76 [4, 5, 8, 60, 61, 62] [14, 15, 61, 3001] ?_
   obtain ⟨o2, ho2, hJ2⟩ := bnd h
   have hw2 : ∀ (s2 : (List Val)), o2 = Lp.go s2 → ∀ σ', Le σ' ⟨76, [(4, .ptr 14 b2 0), (5, .ptr 15 (bse (ν1 15)) 0)], [(14, ((.pointer (some ⟨b2, 0, none⟩)), .optr 30 [.int .i64 0, .int .i64 0, .str ([] : Bs), .nil, .nil])), (15, ((.pointer (some ⟨(bse (ν1 15)), 0, none⟩)), .optr 30 [.int .i64 a0.kind, .int .i64 a0.num, .str a0.text, .hd 61 w2, .hd 3001 (ν1 3001)])), (61, (w2, .osl 30 5 (s2.map encOVal))), (3001, ((ν1 3001), .osl 9 1 (y1.map encS)))]⟩ → K11 σ' := by
    intro s2 e2 σ' hle2
    subst e2
    refine hK11 _ (Good.le hle2 ?_)
    replace h := hJ2
    refine good_seq fun K13 hK13 => ?_
    refine rg 1 ?_
    refine g_op rfl (o_storeP tabOk (cs' := [.int .i64 a0.kind, .int .i64 a0.num, .str a0.text, .hd 61 w2, .hd 3001 (ν1 3001)]) rfl rfl tsize30 rfl rfl rfl (Nat.le_of_ble_eq_true rfl) rfl rfl rfl ?_)
    refine gk hK13 76 [4] [14, 61, 3001] ?_
    refine Good.le (σ' := ⟨76, [(4, .ptr 14 b2 0)], [(100, (w2, .osl 30 5 (s2.map encOVal))), (101, ((ν1 3001), .osl 9 1 (y1.map encS))), (14, ((.pointer (some ⟨b2, 0, none⟩)), .optr 30 [.int .i64 a0.kind, .int .i64 a0.num, .str a0.text, .hd 100 w2, .hd 101 (ν1 3001)]))]⟩) (lw [some 61, some 3001, some 14]) ?_
    refine good_ret ?_
    obtain rfl := Option.some.inj h
    exact endQ_ret (h' := [(100, (_, _)), (101, (_, _))]) [some 100, some 101] (.cell rfl rfl tsize30 tagg30 rfl rfl rfl (.nil)) ⟨⟨_, rfl, .refl _⟩, ⟨⟨_, rfl, .refl _⟩, trivial⟩⟩ (by decide) ⟨w2, (ν1 3001), rfl, rfl⟩
   replace h := ho2
   refine good_block ?_
   refine good_loopf (fun p : ((List Val) × Int) => ⟨76, [(4, .ptr 14 b2 0), (5, .ptr 15 (bse (ν1 15)) 0), (8, (encChain (y2 :: a1))), (60, .sl true (a0.list.map encVal)), (61, .int .i64 (a0.list.length : Int)), (62, .int .i64 p.2)], [(14, ((.pointer (some ⟨b2, 0, none⟩)), .optr 30 [.int .i64 0, .int .i64 0, .str ([] : Bs), .nil, .nil])), (15, ((.pointer (some ⟨(bse (ν1 15)), 0, none⟩)), .optr 30 [.int .i64 a0.kind, .int .i64 a0.num, .str a0.text, .hd 61 w2, .hd 3001 (ν1 3001)])), (61, (w2, .osl 30 5 (p.1.map encOVal))), (3001, ((ν1 3001), .osl 9 1 (y1.map encS)))]⟩) (fun m p => m < k + 1 ∧ m_impl_copyWithin_l2 m a0 a1 y2 p.1 p.2 = some o2) k (List.replicate (Int.toNat (a0.list.length : Int)) (Val.mk 0 0 ([] : Bs) [] []), 0) (lw [some 14, some 15, some 61, some 3001]) ⟨by omega, h⟩ ?_
   rintro m1 ⟨x2, x3⟩ ⟨hm, h⟩
   replace h : m_impl_copyWithin_l2 m1 a0 a1 y2 x2 x3 = some o2 := h
   refine Good.le (σ' := ⟨76, [(4, .ptr 14 b2 0), (5, .ptr 15 (bse (ν1 15)) 0), (8, (encChain (y2 :: a1))), (60, .sl true (a0.list.map encVal)), (61, .int .i64 (a0.list.length : Int)), (62, .int .i64 x3)], [(14, ((.pointer (some ⟨b2, 0, none⟩)), .optr 30 [.int .i64 0, .int .i64 0, .str ([] : Bs), .nil, .nil])), (15, ((.pointer (some ⟨(bse (ν1 15)), 0, none⟩)), .optr 30 [.int .i64 a0.kind, .int .i64 a0.num, .str a0.text, .hd 61 w2, .hd 3001 (ν1 3001)])), (61, (w2, .osl 30 5 (x2.map encOVal))), (3001, ((ν1 3001), .osl 9 1 (y1.map encS)))]⟩) (Le.refl _) ?_
   obtain ⟨m1, rfl⟩ : ∃ m', m1 = m' + 1 := by cases m1 with | zero => (rw [m_impl_copyWithin_l2] at h; cases h) | succ m' => exact ⟨m', rfl⟩
   rw [m_impl_copyWithin_l2] at h
   refine good_seq fun K14 hK14 => ?_
   refine rg 1 ?_
   refine g_nil (hK14 _ ?_)
   refine good_seq fun K15 hK15 => ?_
   refine good_cond rfl (fun hc2 => ?_) (fun hc2 => ?_)
   ·replace h := ifT h (dT hc2)
    refine good_skip ?_
    refine hK15 _ (kp 76 [4, 5, 8, 60, 61, 62] [14, 15, 61, 3001] ?_)
    refine good_seq fun K16 hK16 => ?_
    refine good_block ?_
    refine good_seq fun K17 hK17 => ?_
    refine rg 1 ?_
    obtain ⟨hb3, h⟩ := ifS h
    refine g_op rfl (ValOk.op (v_idxM tabOk rfl rfl telem28 tsize30 hb3 (encVal_eq _) rfl rfl ?_))
    refine gs 1 ?_
    refine g_op rfl (o_alloc (k := 20) tabOk tzero30 rfl rfl ?_)
    intro b5
    refine gs 1 ?_
    refine g_op rfl (o_storeP tabOk (cs' := [.int .i64 ((ix a0.list x3).kind), .int .i64 ((ix a0.list x3).num), .str ((ix a0.list x3).text), .sl true (((ix a0.list x3).list).map encVal), .sl false (((ix a0.list x3).names).map encS)]) rfl rfl tsize30 rfl rfl rfl (Nat.le_of_ble_eq_true rfl) rfl rfl rfl ?_)
    refine gk hK17 76 [4, 5, 8, 9, 10, 60, 61, 62] [14, 15, 61, 3001, 20] ?_
    obtain ⟨y3, hy3, h⟩ := bnd h
    obtain ⟨hb4, h⟩ := ifS h
    refine good_anyM (by kernel_rfl) [⟨[], [5], [], [], [], []⟩, ⟨[0], [67], [15], [], [], []⟩, ⟨[], [9], [], [], [], []⟩, ⟨[], [10], [20], [], [], []⟩, ⟨[], [8], [], [], [], []⟩, ⟨[3, 4], [70, 71], [], [], [3003, 3004], [3003, 3004]⟩, ⟨[0, 1, 2, 3, 4, 5], [68, 69], [61], [], [], []⟩, ⟨[0, 1, 2, 3, 4, 5, 6], [73, 72], [61, 3003, 3004], [61, 3003, 3004], [9005], []⟩] [some 67, some 68, some 69, some 70, some 71, some 72, some 73, none] 76 [(4, .ptr 14 b2 0), (5, .ptr 15 (bse (ν1 15)) 0), (8, (encChain (y2 :: a1))), (9, .int .i64 x3), (10, .ptr 20 b5 0), (60, .sl true (a0.list.map encVal)), (61, .int .i64 (a0.list.length : Int)), (62, .int .i64 x3)] [(14, ((.pointer (some ⟨b2, 0, none⟩)), .optr 30 [.int .i64 0, .int .i64 0, .str ([] : Bs), .nil, .nil])), (15, ((.pointer (some ⟨(bse (ν1 15)), 0, none⟩)), .optr 30 [.int .i64 a0.kind, .int .i64 a0.num, .str a0.text, .hd 61 w2, .hd 3001 (ν1 3001)])), (61, (w2, .osl 30 5 (x2.map encOVal))), (3001, ((ν1 3001), .osl 9 1 (y1.map encS))), (20, ((.pointer (some ⟨b5, 0, none⟩)), .optr 30 [.int .i64 ((ix a0.list x3).kind), .int .i64 ((ix a0.list x3).num), .str ((ix a0.list x3).text), .sl true (((ix a0.list x3).list).map encVal), .sl false (((ix a0.list x3).names).map encS)]))] (fun ν2 => [.ptr 15 (bse (ν1 15)) 3, .hd 61 w2, .int .i64 x3, .agg [.int .i64 ((ix a0.list x3).kind), .int .i64 ((ix a0.list x3).num), .str ((ix a0.list x3).text), .sl true (((ix a0.list x3).list).map encVal), .sl false (((ix a0.list x3).names).map encS)], (encChain (y2 :: a1)), .agg [.int .i64 y3.kind, .int .i64 y3.num, .str y3.text, .hd 3003 (ν2 3003), .hd 3004 (ν2 3004)], .rptr 61 w2 5 (Int.toNat x3) 0, .und]) (fun ν2 => [(3003, ((ν2 3003), .osl 30 5 (y3.list.map encOVal))), (3004, ((ν2 3004), .osl 9 1 (y3.names.map encS))), (9005, (w2, .osl 30 5 ((x2.set (Int.toNat x3) y3).map encOVal)))]) [(3003, [3003]), (3004, [3004]), (9005, []), (14, []), (15, []), (61, []), (3001, []), (20, [])] [3003, 3004, 9005] [some 14, some 15, some 9005, some 3001] (fun ν2 => [(4, .ptr 14 b2 0), (5, .ptr 15 (bse (ν1 15)) 0), (8, (encChain (y2 :: a1))), (60, .sl true (a0.list.map encVal)), (61, .int .i64 (a0.list.length : Int)), (62, .int .i64 x3)]) (fun ν2 => [(14, ((.pointer (some ⟨b2, 0, none⟩)), .optr 30 [.int .i64 0, .int .i64 0, .str ([] : Bs), .nil, .nil])), (15, ((.pointer (some ⟨(bse (ν1 15)), 0, none⟩)), .optr 30 [.int .i64 a0.kind, .int .i64 a0.num, .str a0.text, .hd 61 w2, .hd 3001 (ν1 3001)])), (61, (w2, .osl 30 5 ((x2.set (Int.toNat x3) y3).map encOVal))), (3001, ((ν1 3001), .osl 9 1 (y1.map encS)))]) (lw [some 14, some 15, some 61, some 3001, some 20]) (by kernel_rfl) ⟨?_, ⟨?_, ⟨?_, ⟨?_, ⟨?_, ⟨?_, ⟨?_, ⟨?_, trivial⟩⟩⟩⟩⟩⟩⟩⟩ ⟨fun _ _ _ => rfl, ⟨fun _ _ _ => rfl, ⟨fun _ _ _ => rfl, ⟨fun _ _ _ => rfl, ⟨fun _ _ _ => rfl, ⟨fun _ _ h => (cong2 (fun zz0 zz1 => (some (.agg [.int .i64 y3.kind, .int .i64 y3.num, .str y3.text, .hd 3003 zz0, .hd 3004 zz1]) : Option AV)) (h 3003 (by decide)) (h 3004 (by decide))), ⟨fun _ _ _ => rfl, ⟨fun _ _ _ => rfl, trivial⟩⟩⟩⟩⟩⟩⟩⟩ ⟨fun _ _ h => (congrArg (fun zz0 => (some (zz0, .osl 30 5 (y3.list.map encOVal)) : Option (Value × AV))) (h 3003 (by decide))), ⟨fun _ _ h => (congrArg (fun zz0 => (some (zz0, .osl 9 1 (y3.names.map encS)) : Option (Value × AV))) (h 3004 (by decide))), ⟨fun _ _ _ => rfl, ⟨fun _ _ _ => rfl, ⟨fun _ _ _ => rfl, ⟨fun _ _ _ => rfl, ⟨fun _ _ _ => rfl, ⟨fun _ _ _ => rfl, trivial⟩⟩⟩⟩⟩⟩⟩⟩ (fun _ => rfl) (fun _ => rfl) (by kernel_rfl) (fun _ => ⟨⟨_, rfl, .refl _⟩, ⟨⟨_, rfl, .refl _⟩, ⟨⟨_, rfl, .refl _⟩, ⟨⟨_, rfl, .refl _⟩, ⟨⟨_, rfl, .refl _⟩, ⟨⟨_, rfl, .refl _⟩, trivial⟩⟩⟩⟩⟩⟩) (fun _ => ⟨⟨_, rfl, .refl _⟩, ⟨⟨_, rfl, .refl _⟩, ⟨⟨_, rfl, .refl _⟩, ⟨⟨_, rfl, .refl _⟩, trivial⟩⟩⟩⟩) (by kernel_rfl) (by decide) ?_
    ·refine local_mk (fun ν2 => [(5, .ptr 15 (bse (ν1 15)) 0)]) (fun ν2 => []) (fun _ => rfl) (fun _ => ⟨⟨_, rfl, .refl _, .refl _⟩, trivial⟩) (fun _ => rfl) (fun _ => trivial) ?_
     intro ν2 S H hS hfr
     refine st_op rfl (ValOk.op (v_fieldP tabOk rfl tfoff30_3 rfl ?_))
     exact lp_v hS rfl rfl (fun _ => rfl)
    ·refine local_mk (fun ν2 => [(67, .ptr 15 (bse (ν1 15)) 3)]) (fun ν2 => [(15, ((.pointer (some ⟨(bse (ν1 15)), 0, none⟩)), .optr 30 [.int .i64 a0.kind, .int .i64 a0.num, .str a0.text, .hd 61 w2, .hd 3001 (ν1 3001)]))]) (fun _ => rfl) (fun _ => ⟨⟨_, rfl, .refl _, .refl _⟩, trivial⟩) (fun _ => rfl) (fun _ => ⟨rfl, trivial⟩) ?_
     intro ν2 S H hS hfr
     refine st_op rfl (ValOk.op (v_loadP tabOk rfl rfl tsize28 tagg28 rfl rfl rfl rfl ?_))
     exact lp_v hS rfl rfl (fun _ => rfl)
    ·refine local_mk (fun ν2 => [(9, .int .i64 x3)]) (fun ν2 => []) (fun _ => rfl) (fun _ => ⟨⟨_, rfl, .refl _, .refl _⟩, trivial⟩) (fun _ => rfl) (fun _ => trivial) ?_
     intro ν2 S H hS hfr
     refine st_op rfl (ValOk.op (v_move rfl rfl ?_))
     exact lp_v hS rfl rfl (fun _ => rfl)
    ·refine local_mk (fun ν2 => [(10, .ptr 20 b5 0)]) (fun ν2 => [(20, ((.pointer (some ⟨b5, 0, none⟩)), .optr 30 [.int .i64 ((ix a0.list x3).kind), .int .i64 ((ix a0.list x3).num), .str ((ix a0.list x3).text), .sl true (((ix a0.list x3).list).map encVal), .sl false (((ix a0.list x3).names).map encS)]))]) (fun _ => rfl) (fun _ => ⟨⟨_, rfl, .refl _, .refl _⟩, trivial⟩) (fun _ => rfl) (fun _ => ⟨rfl, trivial⟩) ?_
     intro ν2 S H hS hfr
     refine st_op rfl (ValOk.op (v_loadP tabOk rfl rfl tsize30 tagg30 rfl rfl rfl rfl ?_))
     exact lp_v hS rfl rfl (fun _ => rfl)
    ·refine local_mk (fun ν2 => [(8, (encChain (y2 :: a1)))]) (fun ν2 => []) (fun _ => rfl) (fun _ => ⟨⟨_, rfl, .refl _, .refl _⟩, trivial⟩) (fun _ => rfl) (fun _ => trivial) ?_
     intro ν2 S H hS hfr
     refine st_op rfl (ValOk.op (v_move rfl rfl ?_))
     exact lp_v hS rfl rfl (fun _ => rfl)
    ·refine local_mk (fun ν2 => [(70, .agg [.int .i64 ((ix a0.list x3).kind), .int .i64 ((ix a0.list x3).num), .str ((ix a0.list x3).text), .sl true (((ix a0.list x3).list).map encVal), .sl false (((ix a0.list x3).names).map encS)]), (71, (encChain (y2 :: a1)))]) (fun ν2 => []) (fun _ => rfl) (fun _ => ⟨⟨_, rfl, .refl _, .refl _⟩, ⟨⟨_, rfl, .refl _, .refl _⟩, trivial⟩⟩) (fun _ => rfl) (fun _ => trivial) ?_
     intro ν2 S H hS hfr
     refine st_op rfl (o_callDa [] [] [] (core_value rfl rfl) ((ih m1 (by omega)) (ix a0.list x3) (y2 :: a1) _ hy3) trivial (.cons (.refl _) (.cons (.refl _) (.nil))) trivial rfl rfl rfl ?_)
     rintro _ _ ⟨w3, w4, rfl, rfl⟩
     refine ⟨.agg [.int .i64 y3.kind, .int .i64 y3.num, .str y3.text, .hd 3003 w3, .hd 3004 w4], [(3003, _), (3004, _)], .agg (.cons (.refl _) (.cons (.refl _) (.cons (.refl _) (.cons (.hd _ _ _) (.cons (.hd _ _ _) (.nil)))))), rfl, rfl, rfl, (fun x hx => has_minus (hfr x hx)), .inl rfl, ?_⟩
     exact lp_mm (hN := [(3003, _), (3004, _)]) hS rfl rfl (fun _ => rfl) ⟨rfl, ⟨rfl, trivial⟩⟩
    ·refine local_mk (fun ν2 => [(68, .hd 61 w2), (69, .int .i64 x3)]) (fun ν2 => [(61, (w2, .osl 30 5 (x2.map encOVal)))]) (fun _ => rfl) (fun _ => ⟨⟨_, rfl, .refl _, .refl _⟩, ⟨⟨_, rfl, .refl _, .refl _⟩, trivial⟩⟩) (fun _ => rfl) (fun _ => ⟨rfl, trivial⟩) ?_
     intro ν2 S H hS hfr
     refine st_op rfl (ValOk.op (v_idxHM (q := 61) tabOk ⟨_, rfl⟩ rfl rfl telem28 tsize30 hb4 rfl ?_))
     exact lp_v hS rfl rfl (fun _ => rfl)
    ·refine local_mk (fun ν2 => [(73, .rptr 61 w2 5 (Int.toNat x3) 0), (72, .agg [.int .i64 y3.kind, .int .i64 y3.num, .str y3.text, .hd 3003 (ν2 3003), .hd 3004 (ν2 3004)])]) (fun ν2 => [(61, (w2, .osl 30 5 (x2.map encOVal))), (3003, ((ν2 3003), .osl 30 5 (y3.list.map encOVal))), (3004, ((ν2 3004), .osl 9 1 (y3.names.map encS)))]) (fun _ => rfl) (fun _ => ⟨⟨_, rfl, .refl _, .refl _⟩, ⟨⟨_, rfl, .refl _, .refl _⟩, trivial⟩⟩) (fun _ => rfl) (fun _ => ⟨rfl, ⟨rfl, ⟨rfl, trivial⟩⟩⟩) ?_
     intro ν2 S H hS hfr
     refine st_op rfl (OpOk.le (o_storeR (row' := [.int .i64 y3.kind, .int .i64 y3.num, .str y3.text, .hd 3003 (ν2 3003), .hd 3004 (ν2 3004)]) tabOk rfl rfl tsize30 rfl ((get_map hb4.1 hb4.2).trans (congrArg some (encOVal_eq _))) rfl rfl (by decide) rfl rfl rfl ?_))
     refine ⟨_, (Le.trans (Le.trans (Le.trans (Le.trans (le_absorb1 (k := 61) (k2 := 3003) (rows' := (x2.map encOVal).set (Int.toNat x3) [.int .i64 y3.kind, .int .i64 y3.num, .str y3.text, .osl 30 5 (y3.list.map encOVal), .hd 3004 (ν2 3004)]) (Int.toNat x3) 3 _ rfl (by decide) (rows_set_get (by have := hb4; simp only [List.length_set, List.length_map]; omega)) rfl (rows_set_set)) (le_mm (rs := [61, 3003]) rfl)) (le_absorb1 (k := 61) (k2 := 3004) (rows' := (x2.set (Int.toNat x3) y3).map encOVal) (Int.toNat x3) 4 _ rfl (by decide) (rows_set_get (by have := hb4; simp only [List.length_set, List.length_map]; omega)) rfl (rows_set_done (f := encOVal) (z := y3) (encOVal_eq _)))) (le_mm (rs := [61, 3003, 3004]) rfl)) (le_mm0 (rs := [61, 3003, 3004]) rfl)), ?_⟩
     exact lp_m (k := 9005) hS rfl rfl (.inr (by decide)) (fun _ => rfl) rfl
    intro ν2
    refine hK16 _ ?_
    refine rg 2 ?_
    refine g_nil ?_
    exact round_mk m1 (x2.set (Int.toNat x3) y3, IntKind.wrap .i64 (x3 + 1)) (Nat.lt_succ_self _) ⟨by omega, h⟩ (lw [some 14, some 15, some 61, some 3001])
   ·replace h := ifF h (dF hc2)
    refine good_exit ?_
    exact hw2 x2 (Option.some.inj h).symm _ (lw [some 14, some 15, some 61, some 3001])
  replace h := ho1
  refine good_block ?_
  refine good_loopf (fun p : (List (List Val)) => ⟨76, [(1, (encChain a1)), (2, .ptr 12 b1 0), (4, .ptr 14 b2 0), (5, .ptr 15 (bse (ν1 15)) 0), (6, .ptr 16 b3 0), (7, (encChain p))], [(12, ((.pointer (some ⟨b1, 0, none⟩)), .optr 30 [.int .i64 a0.kind, .int .i64 a0.num, .str a0.text, .sl true (a0.list.map encVal), .sl false (a0.names.map encS)])), (14, ((.pointer (some ⟨b2, 0, none⟩)), .optr 30 [.int .i64 0, .int .i64 0, .str ([] : Bs), .nil, .nil])), (15, ((.pointer (some ⟨(bse (ν1 15)), 0, none⟩)), .optr 30 [.int .i64 a0.kind, .int .i64 a0.num, .str a0.text, .nil, .hd 3001 (ν1 3001)])), (3001, ((ν1 3001), .osl 9 1 (y1.map encS))), (16, ((.pointer (some ⟨b3, 0, none⟩)), .optr 62 [.spt (y2.map encVal), .int .i64 (y2.length : Int)]))]⟩) (fun m p => m < k + 1 ∧ m_impl_copyWithin_l1 m y2 p = some o1) k (a1) (lw [some 12, some 14, some 15, some 3001, some 16]) ⟨by omega, h⟩ ?_
  rintro m2 x1 ⟨hm, h⟩
  replace h : m_impl_copyWithin_l1 m2 y2 x1 = some o1 := h
  refine Good.le (σ' := ⟨76, [(1, (encChain a1)), (2, .ptr 12 b1 0), (4, .ptr 14 b2 0), (5, .ptr 15 (bse (ν1 15)) 0), (6, .ptr 16 b3 0), (7, (encChain x1))], [(12, ((.pointer (some ⟨b1, 0, none⟩)), .optr 30 [.int .i64 a0.kind, .int .i64 a0.num, .str a0.text, .sl true (a0.list.map encVal), .sl false (a0.names.map encS)])), (14, ((.pointer (some ⟨b2, 0, none⟩)), .optr 30 [.int .i64 0, .int .i64 0, .str ([] : Bs), .nil, .nil])), (15, ((.pointer (some ⟨(bse (ν1 15)), 0, none⟩)), .optr 30 [.int .i64 a0.kind, .int .i64 a0.num, .str a0.text, .nil, .hd 3001 (ν1 3001)])), (3001, ((ν1 3001), .osl 9 1 (y1.map encS))), (16, ((.pointer (some ⟨b3, 0, none⟩)), .optr 62 [.spt (y2.map encVal), .int .i64 (y2.length : Int)]))]⟩) (Le.refl _) ?_
  obtain ⟨m2, rfl⟩ : ∃ m', m2 = m' + 1 := by cases m2 with | zero => (rw [m_impl_copyWithin_l1] at h; cases h) | succ m' => exact ⟨m', rfl⟩
  rw [m_impl_copyWithin_l1] at h
  refine good_seq fun K18 hK18 => ?_
  refine good_seq fun K19 hK19 => ?_
  refine rg 1 ?_
  refine g_op rfl (ValOk.op (v_chainNe rfl rfl tkind121 rfl ?_))
  refine gk hK19 76 [1, 2, 4, 5, 6, 7, 31] [12, 14, 15, 3001, 16] ?_
  refine good_cond rfl (fun hc3 => ?_) (fun hc3 => ?_)
  ·replace h := ifF h (ndT hc3)
   refine good_skip ?_
   refine hK18 _ (kp 76 [1, 2, 4, 5, 6, 7] [12, 14, 15, 3001, 16] ?_)
   refine good_seq fun K20 hK20 => ?_
   refine good_block ?_
   refine good_seq fun K21 hK21 => ?_
   refine good_draw (by kernel_rfl) (by kernel_rfl) ?_
   refine q_op rfl (v_move rfl rfl ?_)
   obtain ⟨hb5, h⟩ := ifS h
   refine q_op rfl (v_chainNil rfl hb5 rfl ?_)
   refine q_op rfl (v_fieldE tabOk rfl tfoff123_0 rfl rfl ?_)
   refine q_op rfl (v_loadE tabOk rfl tsize62 tagg62 rfl rfl rfl ?_)
   refine q_op rfl (v_loadP tabOk rfl rfl tsize62 tagg62 rfl rfl rfl rfl ?_)
   obtain ⟨hb6, h⟩ := ifS h
   refine q_op rfl (v_spanNe rfl rfl hb6 rfl ?_)
   refine q_nil ?_
   refine hK21 _ (kp 76 [1, 2, 4, 5, 6, 7, 41] [12, 14, 15, 3001, 16] ?_)
   refine good_cond (b := false) rfl (fun hc => Bool.noConfusion hc) (fun hc => ?_)
   refine good_skip ?_
   refine hK20 _ (kp 76 [1, 2, 4, 5, 6, 7] [12, 14, 15, 3001, 16] ?_)
   refine rg 1 ?_
   obtain ⟨hb7, h⟩ := ifS h
   refine g_op rfl (ValOk.op (v_chainNil rfl hb7 rfl ?_))
   refine gs 3 ?_
   refine g_nil ?_
   exact round_mk m2 (x1.tail) (Nat.lt_succ_self _) ⟨by omega, h⟩ (lw [some 12, some 14, some 15, some 3001, some 16])
  ·replace h := ifT h (ndF hc3)
   refine good_exit ?_
   exact hw1 () (Option.some.inj h).symm _ (lw [some 12, some 14, some 15, some 3001, some 16])
theorem m_impl_copyWithin_all (k : Nat) : P_m_impl_copyWithin k := by
 induction k using Nat.strongRecOn with
 | _ k ih => exact m_impl_copyWithin_step k ih
theorem m_impl_copyWithin_ok (k : Nat) : ∀ (a0 : Val) (a1 : (List (List Val))) (r : Val), m_impl_copyWithin k a0 a1 = some r → Does Try.prog 85 [.agg [.int .i64 a0.kind, .int .i64 a0.num, .str a0.text, .sl true (a0.list.map encVal), .sl false (a0.names.map encS)], (encChain a1)] [] (fun q h' => ∃ u0 : Value, ∃ u1 : Value, q = .agg [.int .i64 r.kind, .int .i64 r.num, .str r.text, .hd 100 u0, .hd 101 u1] ∧ h' = [(100, (u0, .osl 30 5 (r.list.map encOVal))), (101, (u1, .osl 9 1 (r.names.map encS)))]) := (m_impl_copyWithin_all k)
theorem m_impl_copyWithin_okF (k : Nat) : ∀ (a0 : Val) (a1 : (List (List Val))) (r : Val), m_impl_copyWithin k a0 a1 = some r → Does Try.prog 85 [.agg [.int .i64 a0.kind, .int .i64 a0.num, .str a0.text, .sl true (a0.list.map encVal), .sl false (a0.names.map encS)], (encChain a1)] [] (ret (.agg [.int .i64 r.kind, .int .i64 r.num, .str r.text, .sl true (r.list.map encVal), .sl false (r.names.map encS)])) := by
 intro a0 a1 r h
 refine does_frz (m_impl_copyWithin_ok k a0 a1 r h) ?_
 rintro q h' ⟨u0, u1, rfl, rfl⟩
 exact ⟨[100, 101], [(_, _), (_, _)], ⟨⟨_, rfl, .osl (FrzLL.map fun _ _ => encOVal_frz _)⟩, ⟨⟨_, rfl, .osl (FrzLL.map fun _ _ => encS_frz _)⟩, trivial⟩⟩, .agg (.cons (.refl _) (.cons (.refl _) (.cons (.refl _) (.cons (.frz _ _ _ (.head _)) (.cons (.frz _ _ _ (.tail _ (.head _))) (.nil))))))⟩
end Go.Proofs.Ytiaigcdckmpepaa
end
end
section
/-! Functions of the program. -/
set_option linter.unusedVariables false
set_option linter.unnecessarySimpa false
set_option maxRecDepth 100000
set_option maxHeartbeats 20000000
noncomputable section
namespace Go.Proofs.Ytiaigcdckmpepaa
open Go.Bb
def m_spec_l1In (a0 : Int) (a1 : Int) (a2 : Int) : Option Bool :=
 if a1 ≤ a0 then
  some (decide (a0 ≤ a2))
 else
  some false
theorem m_spec_l1In_ok : ∀ (a0 : Int) (a1 : Int) (a2 : Int) (r : Bool), m_spec_l1In a0 a1 a2 = some r → Does Try.prog 124 [.int .i64 a0, .int .i64 a1, .int .i64 a2] [] (ret (.bool r)) := by
 intro a0 a1 a2 r h
 rw [m_spec_l1In] at h
 refine does_of_good tabOk Try.func124 rfl (by decide +kernel) (Nat.le_of_ble_eq_true rfl) fun c => ?_
 refine Good.le (σ' := ⟨15, [(0, .int .i64 a0), (1, .int .i64 a1), (2, .int .i64 a2)], []⟩) (Le.refl _) ?_
 refine good_seq fun K1 hK1 => ?_
 refine rg 1 ?_
 refine g_nil (hK1 _ ?_)
 refine good_seq fun K2 hK2 => ?_
 refine rg 4 ?_
 rcases bsplit ((decide (a1 ≤ a0))) with hg1 | hg1
 ·replace h := ifT h (dT hg1)
  refine gs 5 ?_
  refine gk hK2 15 [6] [] ?_
  obtain rfl := Option.some.inj h
  exact rt
 ·replace h := ifF h (dF hg1)
  refine gs 5 ?_
  refine gk hK2 15 [6] [] ?_
  obtain rfl := Option.some.inj h
  exact rt
def m_spec_l1Letter (a0 : Int) : Option Bool :=
 if 97 ≤ a0 then
  if a0 ≤ 122 then
   some true
  else
   if 65 ≤ a0 then
    if a0 ≤ 90 then
     some true
    else
     some (decide (a0 = 95))
   else
    some (decide (a0 = 95))
 else
  if 65 ≤ a0 then
   if a0 ≤ 90 then
    some true
   else
    some (decide (a0 = 95))
  else
   some (decide (a0 = 95))
theorem m_spec_l1Letter_ok : ∀ (a0 : Int) (r : Bool), m_spec_l1Letter a0 = some r → Does Try.prog 116 [.int .u8 a0] [] (ret (.bool r)) := by
 intro a0 r h
 rw [m_spec_l1Letter] at h
 refine does_of_good tabOk Try.func116 rfl (by decide +kernel) (Nat.le_of_ble_eq_true rfl) fun c => ?_
 refine Good.le (σ' := ⟨21, [(0, .int .u8 a0)], []⟩) (Le.refl _) ?_
 refine good_seq fun K1 hK1 => ?_
 refine rg 1 ?_
 refine g_nil (hK1 _ ?_)
 refine good_seq fun K2 hK2 => ?_
 refine rg 3 ?_
 rcases bsplit ((decide (97 ≤ a0))) with hg1 | hg1
 ·replace h := ifT h (dT hg1)
  refine gs 4 ?_
  rcases bsplit ((decide (a0 ≤ 122))) with hg2 | hg2
  ·replace h := ifT h (dT hg2)
   refine gs 12 ?_
   refine gk hK2 21 [2] [] ?_
   obtain rfl := Option.some.inj h
   exact rt
  ·replace h := ifF h (dF hg2)
   refine gs 3 ?_
   rcases bsplit ((decide (65 ≤ a0))) with hg3 | hg3
   ·replace h := ifT h (dT hg3)
    refine gs 5 ?_
    rcases bsplit ((decide (a0 ≤ 90))) with hg4 | hg4
    ·replace h := ifT h (dT hg4)
     refine gs 4 ?_
     refine gk hK2 21 [2] [] ?_
     obtain rfl := Option.some.inj h
     exact rt
    ·replace h := ifF h (dF hg4)
     refine gs 4 ?_
     refine gk hK2 21 [2] [] ?_
     obtain rfl := Option.some.inj h
     exact rt
   ·replace h := ifF h (dF hg3)
    refine gs 9 ?_
    refine gk hK2 21 [2] [] ?_
    obtain rfl := Option.some.inj h
    exact rt
 ·replace h := ifF h (dF hg1)
  refine gs 7 ?_
  rcases bsplit ((decide (65 ≤ a0))) with hg5 | hg5
  ·replace h := ifT h (dT hg5)
   refine gs 5 ?_
   rcases bsplit ((decide (a0 ≤ 90))) with hg6 | hg6
   ·replace h := ifT h (dT hg6)
    refine gs 4 ?_
    refine gk hK2 21 [2] [] ?_
    obtain rfl := Option.some.inj h
    exact rt
   ·replace h := ifF h (dF hg6)
    refine gs 4 ?_
    refine gk hK2 21 [2] [] ?_
    obtain rfl := Option.some.inj h
    exact rt
  ·replace h := ifF h (dF hg5)
   refine gs 9 ?_
   refine gk hK2 21 [2] [] ?_
   obtain rfl := Option.some.inj h
   exact rt
def m_spec_l1Figure (a0 : Int) : Option Bool :=
 if 48 ≤ a0 then
  some (decide (a0 ≤ 57))
 else
  some false
theorem m_spec_l1Figure_ok : ∀ (a0 : Int) (r : Bool), m_spec_l1Figure a0 = some r → Does Try.prog 89 [.int .u8 a0] [] (ret (.bool r)) := by
 intro a0 r h
 rw [m_spec_l1Figure] at h
 refine does_of_good tabOk Try.func89 rfl (by decide +kernel) (Nat.le_of_ble_eq_true rfl) fun c => ?_
 refine Good.le (σ' := ⟨9, [(0, .int .u8 a0)], []⟩) (Le.refl _) ?_
 refine good_seq fun K1 hK1 => ?_
 refine rg 1 ?_
 refine g_nil (hK1 _ ?_)
 refine good_seq fun K2 hK2 => ?_
 refine rg 3 ?_
 rcases bsplit ((decide (48 ≤ a0))) with hg1 | hg1
 ·replace h := ifT h (dT hg1)
  refine gs 4 ?_
  refine gk hK2 9 [2] [] ?_
  obtain rfl := Option.some.inj h
  exact rt
 ·replace h := ifF h (dF hg1)
  refine gs 4 ?_
  refine gk hK2 9 [2] [] ?_
  obtain rfl := Option.some.inj h
  exact rt
def m_spec_l1Name_l1 : Nat → Bs → Int → Option (Lp Unit Bool)
 | 0, _, _ => none
 | k + 1, a0, x1 =>
  if x1 < (a0.length : Int) then
   (if (0 : Int) ≤ x1 ∧ x1 < (a0.length : Int) then
     (m_spec_l1Letter (byt a0 x1)).bind fun y2 =>
     if y2 = true then
      some (Lp.go false)
     else
      if x1 = 0 then
       some (Lp.go true)
      else
       if (0 : Int) ≤ x1 ∧ x1 < (a0.length : Int) then
        (m_spec_l1Figure (byt a0 x1)).bind fun y3 =>
        some (Lp.go (!y3))
       else none
    else none).bind fun o2 =>
   o2.then fun s2 =>
  if s2 = true then
   (some false).bind fun z =>
   some (Lp.ret z)
  else
   m_spec_l1Name_l1 k a0 (IntKind.wrap .i64 (x1 + 1))
  else
   some (Lp.go ())
def m_spec_l1Name (k : Nat) (a0 : Bs) : Option Bool :=
 (m_spec_l1Name_l1 k a0 0).bind fun o1 =>
 o1.then fun s1 =>
  (m_spec_l1In (a0.length : Int) 1 12).bind fun y1 =>
  some y1
theorem m_spec_l1Name_ok (k : Nat) : ∀ (a0 : Bs) (r : Bool), m_spec_l1Name k a0 = some r → Does Try.prog 125 [.str a0] [] (ret (.bool r)) := by
 intro a0 r h
 rw [m_spec_l1Name] at h
 refine does_of_good tabOk Try.func125 rfl (by decide +kernel) (Nat.le_of_ble_eq_true rfl) fun c => ?_
 refine Good.le (σ' := ⟨29, [(0, .str a0)], []⟩) (Le.refl _) ?_
 refine good_seq fun K1 hK1 => ?_
 refine rg 1 ?_
 refine g_nil (hK1 _ ?_)
 refine good_seq fun K2 hK2 => ?_
 refine good_seq fun K3 hK3 => ?_
 refine rg 1 ?_
 refine g_nil (hK3 _ ?_)
 obtain ⟨o1, ho1, hJ1⟩ := bnd h
 have hw1 : ∀ (s1 : Unit), o1 = Lp.go s1 → ∀ σ', Le σ' ⟨29, [(0, .str a0), (2, .bool false)], []⟩ → K2 σ' := by
  intro s1 e1 σ' hle1
  subst e1
  refine hK2 _ (Good.le hle1 ?_)
  replace h := hJ1
  refine good_seq fun K4 hK4 => ?_
  refine rg 2 ?_
  obtain ⟨y1, hy1, h⟩ := bnd h
  refine g_op rfl (o_callR [] [] (core_value rfl rfl) (m_spec_l1In_ok (a0.length : Int) 1 12 _ hy1) trivial (.cons (.refl _) (.cons (.refl _) (.cons (.refl _) (.nil)))) (.inl rfl) rfl ?_)
  refine gs 1 ?_
  refine gk hK4 29 [2] [] ?_
  obtain rfl := Option.some.inj h
  exact rt
 replace h := ho1
 refine good_block ?_
 refine good_loopf (fun p : Int => ⟨29, [(0, .str a0), (2, .bool false), (3, .int .i64 p)], []⟩) (fun m p => m_spec_l1Name_l1 m a0 p = some o1) k (0) (lw []) h ?_
 rintro m1 x1 h
 replace h : m_spec_l1Name_l1 m1 a0 x1 = some o1 := h
 refine Good.le (σ' := ⟨29, [(0, .str a0), (2, .bool false), (3, .int .i64 x1)], []⟩) (Le.refl _) ?_
 obtain ⟨m1, rfl⟩ : ∃ m', m1 = m' + 1 := by cases m1 with | zero => (rw [m_spec_l1Name_l1] at h; cases h) | succ m' => exact ⟨m', rfl⟩
 rw [m_spec_l1Name_l1] at h
 refine good_seq fun K5 hK5 => ?_
 refine good_seq fun K6 hK6 => ?_
 refine rg 4 ?_
 refine gk hK6 29 [0, 2, 3, 7] [] ?_
 refine good_cond rfl (fun hc1 => ?_) (fun hc1 => ?_)
 ·replace h := ifT h (dT hc1)
  refine good_skip ?_
  refine hK5 _ (kp 29 [0, 2, 3] [] ?_)
  refine good_seq fun K7 hK7 => ?_
  refine good_block ?_
  refine good_seq fun K8 hK8 => ?_
  obtain ⟨o2, ho2, hJ2⟩ := bnd h
  have hw2 : ∀ (s2 : Bool), o2 = Lp.go s2 → ∀ σ', Le σ' ⟨29, [(0, .str a0), (2, .bool false), (3, .int .i64 x1), (25, .bool s2)], []⟩ → K8 σ' := by
   intro s2 e2 σ' hle2
   subst e2
   refine hK8 _ (Good.le hle2 ?_)
   replace h := hJ2
   refine good_cond rfl (fun hc2 => ?_) (fun hc2 => ?_)
   ·replace h := ifT h hc2
    refine good_seq fun K9 hK9 => ?_
    refine rg 1 ?_
    refine gk hK9 29 [0, 2, 3] [] ?_
    replace h := unret h hJ1
    obtain rfl := Option.some.inj h
    exact rt
   ·replace h := bF h hc2
    refine good_skip ?_
    refine hK7 _ (kp 29 [0, 2, 3] [] ?_)
    refine rg 3 ?_
    refine g_nil ?_
    exact round_mk m1 (IntKind.wrap .i64 (x1 + 1)) (Nat.lt_succ_self _) h (lw [])
  replace h := ho2
  refine rg 2 ?_
  obtain ⟨hb1, h⟩ := ifS h
  refine gs 1 ?_
  obtain ⟨y2, hy2, h⟩ := bnd h
  refine g_op rfl (o_callR [] [] (core_value rfl rfl) (m_spec_l1Letter_ok (byt a0 x1) _ hy2) trivial (.cons (.refl _) (.nil)) (.inl rfl) rfl ?_)
  refine gs 2 ?_
  rcases bsplit ((!y2)) with hg1 | hg1
  ·replace h := bF h (nT hg1)
   refine gs 3 ?_
   rcases bsplit ((decide (x1 = 0))) with hg2 | hg2
   ·replace h := ifT h (dT hg2)
    refine gs 7 ?_
    refine g_nil ?_
    exact hw2 true (Option.some.inj h).symm _ (lw [])
   ·replace h := ifF h (dF hg2)
    refine gs 2 ?_
    obtain ⟨hb2, h⟩ := ifS h
    refine gs 1 ?_
    obtain ⟨y3, hy3, h⟩ := bnd h
    refine g_yes rfl rfl hg2 (o_callR [] [] (core_value rfl rfl) (m_spec_l1Figure_ok (byt a0 x1) _ hy3) trivial (.cons (.refl _) (.nil)) (.inl rfl) rfl ?_)
    refine gs 3 ?_
    refine g_nil ?_
    exact hw2 (!y3) (Option.some.inj h).symm _ (lw [])
  ·replace h := ifT h (nF hg1)
   refine gs 10 ?_
   refine g_nil ?_
   exact hw2 false (Option.some.inj h).symm _ (lw [])
 ·replace h := ifF h (dF hc1)
  refine good_exit ?_
  exact hw1 () (Option.some.inj h).symm _ (lw [])
def m_spec_l1Once_l2 : Nat → (List Bs) → Int → Int → Option (Lp Unit (Lp Unit Bool))
 | 0, _, _, _ => none
 | k + 1, a0, x1, x2 =>
  if x2 < x1 then
   if (0 : Int) ≤ x2 ∧ x2 < (a0.length : Int) then
    if (0 : Int) ≤ x1 ∧ x1 < (a0.length : Int) then
     if (ix a0 x2) = (ix a0 x1) then
      ((some false).bind fun z =>
       some (Lp.ret z)).bind fun z =>
      some (Lp.ret z)
     else
      m_spec_l1Once_l2 k a0 x1 (IntKind.wrap .i64 (x2 + 1))
    else none
   else none
  else
   some (Lp.go ())
def m_spec_l1Once_l1 : Nat → (List Bs) → Int → Option (Lp Unit Bool)
 | 0, _, _ => none
 | k + 1, a0, x1 =>
  if x1 < (a0.length : Int) then
   if (0 : Int) ≤ x1 ∧ x1 < (a0.length : Int) then
    (m_spec_l1Name k (ix a0 x1)).bind fun y1 =>
    if y1 = true then
     (m_spec_l1Once_l2 k a0 x1 0).bind fun o2 =>
     o2.then fun s2 =>
  m_spec_l1Once_l1 k a0 (IntKind.wrap .i64 (x1 + 1))
    else
     (some false).bind fun z =>
     some (Lp.ret z)
   else none
  else
   some (Lp.go ())
def m_spec_l1Once (k : Nat) (a0 : (List Bs)) : Option Bool :=
 (m_spec_l1Once_l1 k a0 0).bind fun o1 =>
 o1.then fun s1 =>
  some true
theorem m_spec_l1Once_ok (k : Nat) : ∀ (a0 : (List Bs)) (r : Bool), m_spec_l1Once k a0 = some r → Does Try.prog 104 [.sl false (a0.map encS)] [] (ret (.bool r)) := by
 intro a0 r h
 rw [m_spec_l1Once] at h
 refine does_of_good tabOk Try.func104 rfl (by decide +kernel) (Nat.le_of_ble_eq_true rfl) fun c => ?_
 refine Good.le (σ' := ⟨31, [(0, .sl false (a0.map encS))], []⟩) (Le.refl _) ?_
 refine good_seq fun K1 hK1 => ?_
 refine rg 1 ?_
 refine g_nil (hK1 _ ?_)
 refine good_seq fun K2 hK2 => ?_
 refine good_seq fun K3 hK3 => ?_
 refine rg 1 ?_
 refine g_nil (hK3 _ ?_)
 obtain ⟨o1, ho1, hJ1⟩ := bnd h
 have hw1 : ∀ (s1 : Unit), o1 = Lp.go s1 → ∀ σ', Le σ' ⟨31, [(2, .bool false)], []⟩ → K2 σ' := by
  intro s1 e1 σ' hle1
  subst e1
  refine hK2 _ (Good.le hle1 ?_)
  replace h := hJ1
  refine good_seq fun K4 hK4 => ?_
  refine rg 1 ?_
  refine g_nil (hK4 _ ?_)
  obtain rfl := Option.some.inj h
  exact rt
 replace h := ho1
 refine good_block ?_
 refine good_loopf (fun p : Int => ⟨31, [(0, .sl false (a0.map encS)), (2, .bool false), (3, .int .i64 p)], []⟩) (fun m p => m_spec_l1Once_l1 m a0 p = some o1) k (0) (lw []) h ?_
 rintro m1 x1 h
 replace h : m_spec_l1Once_l1 m1 a0 x1 = some o1 := h
 refine Good.le (σ' := ⟨31, [(0, .sl false (a0.map encS)), (2, .bool false), (3, .int .i64 x1)], []⟩) (Le.refl _) ?_
 obtain ⟨m1, rfl⟩ : ∃ m', m1 = m' + 1 := by cases m1 with | zero => (rw [m_spec_l1Once_l1] at h; cases h) | succ m' => exact ⟨m', rfl⟩
 rw [m_spec_l1Once_l1] at h
 refine good_seq fun K5 hK5 => ?_
 refine good_seq fun K6 hK6 => ?_
 refine rg 2 ?_
 refine g_op rfl (ValOk.op (v_lenM (l := a0) (f := encS) tabOk rfl rfl telem23 rfl ?_))
 refine gs 1 ?_
 refine gk hK6 31 [0, 2, 3, 8] [] ?_
 refine good_cond rfl (fun hc1 => ?_) (fun hc1 => ?_)
 ·replace h := ifT h (dT hc1)
  refine good_skip ?_
  refine hK5 _ (kp 31 [0, 2, 3] [] ?_)
  refine good_seq fun K7 hK7 => ?_
  refine good_block ?_
  refine good_seq fun K8 hK8 => ?_
  refine good_seq fun K9 hK9 => ?_
  refine rg 2 ?_
  obtain ⟨hb1, h⟩ := ifS h
  refine g_op rfl (ValOk.op (v_idxM tabOk rfl rfl telem23 tsize9 hb1 rfl rfl rfl ?_))
  refine gs 1 ?_
  obtain ⟨y1, hy1, h⟩ := bnd h
  refine g_op rfl (o_callR [] [] (core_value rfl rfl) (m_spec_l1Name_ok m1 (ix a0 x1) _ hy1) trivial (.cons (.refl _) (.nil)) (.inl rfl) rfl ?_)
  refine gs 1 ?_
  refine gk hK9 31 [0, 2, 3, 16] [] ?_
  refine good_cond rfl (fun hc2 => ?_) (fun hc2 => ?_)
  ·replace h := bF h (nT hc2)
   refine good_seq fun K10 hK10 => ?_
   refine rg 1 ?_
   refine gk hK10 31 [0, 2, 3] [] ?_
   replace h := unret h hJ1
   obtain rfl := Option.some.inj h
   exact rt
  ·replace h := ifT h (nF hc2)
   refine good_skip ?_
   refine hK8 _ (kp 31 [0, 2, 3] [] ?_)
   refine good_seq fun K11 hK11 => ?_
   refine rg 1 ?_
   refine g_nil (hK11 _ ?_)
   obtain ⟨o2, ho2, hJ2⟩ := bnd h
   have hw2 : ∀ (s2 : Unit), o2 = Lp.go s2 → ∀ σ', Le σ' ⟨31, [(0, .sl false (a0.map encS)), (2, .bool false), (3, .int .i64 x1)], []⟩ → K7 σ' := by
    intro s2 e2 σ' hle2
    subst e2
    refine hK7 _ (Good.le hle2 ?_)
    replace h := hJ2
    refine rg 3 ?_
    refine g_nil ?_
    exact round_mk m1 (IntKind.wrap .i64 (x1 + 1)) (Nat.lt_succ_self _) h (lw [])
   replace h := ho2
   refine good_block ?_
   refine good_loopf (fun p : Int => ⟨31, [(0, .sl false (a0.map encS)), (2, .bool false), (3, .int .i64 x1), (4, .int .i64 p)], []⟩) (fun m p => m_spec_l1Once_l2 m a0 x1 p = some o2) m1 (0) (lw []) h ?_
   rintro m2 x2 h
   replace h : m_spec_l1Once_l2 m2 a0 x1 x2 = some o2 := h
   refine Good.le (σ' := ⟨31, [(0, .sl false (a0.map encS)), (2, .bool false), (3, .int .i64 x1), (4, .int .i64 x2)], []⟩) (Le.refl _) ?_
   obtain ⟨m2, rfl⟩ : ∃ m', m2 = m' + 1 := by cases m2 with | zero => (rw [m_spec_l1Once_l2] at h; cases h) | succ m' => exact ⟨m', rfl⟩
   rw [m_spec_l1Once_l2] at h
   refine good_seq fun K12 hK12 => ?_
   refine good_seq fun K13 hK13 => ?_
   refine rg 3 ?_
   refine gk hK13 31 [0, 2, 3, 4, 19] [] ?_
   refine good_cond rfl (fun hc3 => ?_) (fun hc3 => ?_)
   ·replace h := ifT h (dT hc3)
    refine good_skip ?_
    refine hK12 _ (kp 31 [0, 2, 3, 4] [] ?_)
    refine good_seq fun K14 hK14 => ?_
    refine good_block ?_
    refine good_seq fun K15 hK15 => ?_
    refine good_draw (by kernel_rfl) (by kernel_rfl) ?_
    refine q_op rfl (v_move rfl rfl ?_)
    refine q_op rfl (v_move rfl rfl ?_)
    obtain ⟨hb2, h⟩ := ifS h
    refine q_op rfl (v_idxM tabOk rfl rfl telem23 tsize9 hb2 rfl rfl rfl ?_)
    refine q_op rfl (v_loadE tabOk rfl tsize9 tagg9 rfl rfl rfl ?_)
    refine q_op rfl (v_move rfl rfl ?_)
    refine q_op rfl (v_move rfl rfl ?_)
    obtain ⟨hb3, h⟩ := ifS h
    refine q_op rfl (v_idxM tabOk rfl rfl telem23 tsize9 hb3 rfl rfl rfl ?_)
    refine q_op rfl (v_loadE tabOk rfl tsize9 tagg9 rfl rfl rfl ?_)
    refine q_op rfl (v_bin rfl rfl rfl rfl ?_)
    refine q_nil ?_
    refine hK15 _ (kp 31 [0, 2, 3, 4, 30] [] ?_)
    refine good_cond rfl (fun hc4 => ?_) (fun hc4 => ?_)
    ·replace h := ifT h (dT hc4)
     refine good_seq fun K16 hK16 => ?_
     refine rg 1 ?_
     refine gk hK16 31 [0, 2, 3, 4] [] ?_
     replace h := unret h hJ2
     replace h := unret h hJ1
     obtain rfl := Option.some.inj h
     exact rt
    ·replace h := ifF h (dF hc4)
     refine good_skip ?_
     refine hK14 _ (kp 31 [0, 2, 3, 4] [] ?_)
     refine rg 3 ?_
     refine g_nil ?_
     exact round_mk m2 (IntKind.wrap .i64 (x2 + 1)) (Nat.lt_succ_self _) h (lw [])
   ·replace h := ifF h (dF hc3)
    refine good_exit ?_
    exact hw2 () (Option.some.inj h).symm _ (lw [])
 ·replace h := ifF h (dF hc1)
  refine good_exit ?_
  exact hw1 () (Option.some.inj h).symm _ (lw [])
def m_slices_Index_string_string_l1 : Nat → (List Bs) → Bs → Int → Option (Lp Unit Int)
 | 0, _, _, _ => none
 | k + 1, a0, a1, x1 =>
  if x1 < (a0.length : Int) then
   if (0 : Int) ≤ x1 ∧ x1 < (a0.length : Int) then
    if a1 = (ix a0 x1) then
     (some x1).bind fun z =>
     some (Lp.ret z)
    else
     m_slices_Index_string_string_l1 k a0 a1 (IntKind.wrap .i64 (x1 + 1))
   else none
  else
   some (Lp.go ())
def m_slices_Index_string_string (k : Nat) (a0 : (List Bs)) (a1 : Bs) : Option Int :=
 (m_slices_Index_string_string_l1 k a0 a1 0).bind fun o1 =>
 o1.then fun s1 =>
  some (-1)
theorem m_slices_Index_string_string_ok (k : Nat) : ∀ (a0 : (List Bs)) (a1 : Bs) (r : Int), m_slices_Index_string_string k a0 a1 = some r → Does Try.prog 84 [.sl false (a0.map encS), .str a1] [] (ret (.int .i64 r)) := by
 intro a0 a1 r h
 rw [m_slices_Index_string_string] at h
 refine does_of_good tabOk Try.func84 rfl (by decide +kernel) (Nat.le_of_ble_eq_true rfl) fun c => ?_
 refine Good.le (σ' := ⟨19, [(0, .sl false (a0.map encS)), (1, .str a1)], []⟩) (Le.refl _) ?_
 refine good_seq fun K1 hK1 => ?_
 refine rg 1 ?_
 refine g_nil (hK1 _ ?_)
 refine good_seq fun K2 hK2 => ?_
 refine good_seq fun K3 hK3 => ?_
 refine rg 1 ?_
 refine g_op rfl (ValOk.op (v_lenM (l := a0) (f := encS) tabOk rfl rfl telem23 rfl ?_))
 refine gs 1 ?_
 refine gk hK3 19 [0, 1, 4, 7, 8] [] ?_
 obtain ⟨o1, ho1, hJ1⟩ := bnd h
 have hw1 : ∀ (s1 : Unit), o1 = Lp.go s1 → ∀ σ', Le σ' ⟨19, [(4, .int .i64 0)], []⟩ → K2 σ' := by
  intro s1 e1 σ' hle1
  subst e1
  refine hK2 _ (Good.le hle1 ?_)
  replace h := hJ1
  refine good_seq fun K4 hK4 => ?_
  refine rg 1 ?_
  refine g_nil (hK4 _ ?_)
  obtain rfl := Option.some.inj h
  exact rt
 replace h := ho1
 refine good_block ?_
 refine good_loopf (fun p : Int => ⟨19, [(0, .sl false (a0.map encS)), (1, .str a1), (4, .int .i64 0), (7, .int .i64 (a0.length : Int)), (8, .int .i64 p)], []⟩) (fun m p => m_slices_Index_string_string_l1 m a0 a1 p = some o1) k (0) (lw []) h ?_
 rintro m1 x1 h
 replace h : m_slices_Index_string_string_l1 m1 a0 a1 x1 = some o1 := h
 refine Good.le (σ' := ⟨19, [(0, .sl false (a0.map encS)), (1, .str a1), (4, .int .i64 0), (7, .int .i64 (a0.length : Int)), (8, .int .i64 x1)], []⟩) (Le.refl _) ?_
 obtain ⟨m1, rfl⟩ : ∃ m', m1 = m' + 1 := by cases m1 with | zero => (rw [m_slices_Index_string_string_l1] at h; cases h) | succ m' => exact ⟨m', rfl⟩
 rw [m_slices_Index_string_string_l1] at h
 refine good_seq fun K5 hK5 => ?_
 refine rg 1 ?_
 refine g_nil (hK5 _ ?_)
 refine good_seq fun K6 hK6 => ?_
 refine good_cond rfl (fun hc1 => ?_) (fun hc1 => ?_)
 ·replace h := ifT h (dT hc1)
  refine good_skip ?_
  refine hK6 _ (kp 19 [0, 1, 4, 7, 8] [] ?_)
  refine good_seq fun K7 hK7 => ?_
  refine good_block ?_
  refine good_seq fun K8 hK8 => ?_
  refine rg 2 ?_
  refine gk hK8 19 [0, 1, 4, 5, 7, 8] [] ?_
  refine good_seq fun K9 hK9 => ?_
  refine rg 3 ?_
  obtain ⟨hb1, h⟩ := ifS h
  refine g_op rfl (ValOk.op (v_idxM tabOk rfl rfl telem23 tsize9 hb1 rfl rfl rfl ?_))
  refine gs 2 ?_
  refine gk hK9 19 [0, 1, 4, 5, 7, 8, 16] [] ?_
  refine good_cond rfl (fun hc2 => ?_) (fun hc2 => ?_)
  ·replace h := ifT h (dT hc2)
   refine good_seq fun K10 hK10 => ?_
   refine rg 2 ?_
   refine gk hK10 19 [0, 1, 4, 7, 8] [] ?_
   replace h := unret h hJ1
   obtain rfl := Option.some.inj h
   exact rt
  ·replace h := ifF h (dF hc2)
   refine good_skip ?_
   refine hK7 _ (kp 19 [0, 1, 4, 7, 8] [] ?_)
   refine rg 2 ?_
   refine g_nil ?_
   exact round_mk m1 (IntKind.wrap .i64 (x1 + 1)) (Nat.lt_succ_self _) h (lw [])
 ·replace h := ifF h (dF hc1)
  refine good_exit ?_
  exact hw1 () (Option.some.inj h).symm _ (lw [])
def m_slices_Contains_string_string (k : Nat) (a0 : (List Bs)) (a1 : Bs) : Option Bool :=
 (m_slices_Index_string_string k a0 a1).bind fun y1 =>
 some (decide (0 ≤ y1))
theorem m_slices_Contains_string_string_ok (k : Nat) : ∀ (a0 : (List Bs)) (a1 : Bs) (r : Bool), m_slices_Contains_string_string k a0 a1 = some r → Does Try.prog 144 [.sl false (a0.map encS), .str a1] [] (ret (.bool r)) := by
 intro a0 a1 r h
 rw [m_slices_Contains_string_string] at h
 refine does_of_good tabOk Try.func144 rfl (by decide +kernel) (Nat.le_of_ble_eq_true rfl) fun c => ?_
 refine Good.le (σ' := ⟨9, [(0, .sl false (a0.map encS)), (1, .str a1)], []⟩) (Le.refl _) ?_
 refine good_seq fun K1 hK1 => ?_
 refine rg 1 ?_
 refine g_nil (hK1 _ ?_)
 refine good_seq fun K2 hK2 => ?_
 refine rg 2 ?_
 obtain ⟨y1, hy1, h⟩ := bnd h
 refine g_op rfl (o_callR [] [] (core_value rfl rfl) (m_slices_Index_string_string_ok k a0 a1 _ hy1) trivial (.cons (.refl _) (.cons (.refl _) (.nil))) (.inl rfl) rfl ?_)
 refine gs 2 ?_
 refine gk hK2 9 [4] [] ?_
 obtain rfl := Option.some.inj h
 exact rt
def m_impl_isFigure (a0 : Int) : Option Bool :=
 if 48 ≤ a0 then
  some (decide (a0 ≤ 57))
 else
  some false
theorem m_impl_isFigure_ok : ∀ (a0 : Int) (r : Bool), m_impl_isFigure a0 = some r → Does Try.prog 120 [.int .u8 a0] [] (ret (.bool r)) := by
 intro a0 r h
 rw [m_impl_isFigure] at h
 refine does_of_good tabOk Try.func120 rfl (by decide +kernel) (Nat.le_of_ble_eq_true rfl) fun c => ?_
 refine Good.le (σ' := ⟨9, [(0, .int .u8 a0)], []⟩) (Le.refl _) ?_
 refine good_seq fun K1 hK1 => ?_
 refine rg 1 ?_
 refine g_nil (hK1 _ ?_)
 refine good_seq fun K2 hK2 => ?_
 refine rg 3 ?_
 rcases bsplit ((decide (48 ≤ a0))) with hg1 | hg1
 ·replace h := ifT h (dT hg1)
  refine gs 4 ?_
  refine gk hK2 9 [2] [] ?_
  obtain rfl := Option.some.inj h
  exact rt
 ·replace h := ifF h (dF hg1)
  refine gs 4 ?_
  refine gk hK2 9 [2] [] ?_
  obtain rfl := Option.some.inj h
  exact rt
def m_impl_isWordByte (a0 : Int) : Option Bool :=
 if 97 ≤ a0 then
  if a0 ≤ 122 then
   some true
  else
   if 65 ≤ a0 then
    if a0 ≤ 90 then
     some true
    else
     if a0 = 95 then
      some true
     else
      (m_impl_isFigure a0).bind fun y1 =>
      some y1
   else
    if a0 = 95 then
     some true
    else
     (m_impl_isFigure a0).bind fun y2 =>
     some y2
 else
  if 65 ≤ a0 then
   if a0 ≤ 90 then
    some true
   else
    if a0 = 95 then
     some true
    else
     (m_impl_isFigure a0).bind fun y3 =>
     some y3
  else
   if a0 = 95 then
    some true
   else
    (m_impl_isFigure a0).bind fun y4 =>
    some y4
theorem m_impl_isWordByte_ok : ∀ (a0 : Int) (r : Bool), m_impl_isWordByte a0 = some r → Does Try.prog 121 [.int .u8 a0] [] (ret (.bool r)) := by
 intro a0 r h
 rw [m_impl_isWordByte] at h
 refine does_of_good tabOk Try.func121 rfl (by decide +kernel) (Nat.le_of_ble_eq_true rfl) fun c => ?_
 refine Good.le (σ' := ⟨25, [(0, .int .u8 a0)], []⟩) (Le.refl _) ?_
 refine good_seq fun K1 hK1 => ?_
 refine rg 1 ?_
 refine g_nil (hK1 _ ?_)
 refine good_seq fun K2 hK2 => ?_
 refine rg 3 ?_
 rcases bsplit ((decide (97 ≤ a0))) with hg1 | hg1
 ·replace h := ifT h (dT hg1)
  refine gs 4 ?_
  rcases bsplit ((decide (a0 ≤ 122))) with hg2 | hg2
  ·replace h := ifT h (dT hg2)
   refine gs 16 ?_
   refine gk hK2 25 [2] [] ?_
   obtain rfl := Option.some.inj h
   exact rt
  ·replace h := ifF h (dF hg2)
   refine gs 3 ?_
   rcases bsplit ((decide (65 ≤ a0))) with hg3 | hg3
   ·replace h := ifT h (dT hg3)
    refine gs 5 ?_
    rcases bsplit ((decide (a0 ≤ 90))) with hg4 | hg4
    ·replace h := ifT h (dT hg4)
     refine gs 8 ?_
     refine gk hK2 25 [2] [] ?_
     obtain rfl := Option.some.inj h
     exact rt
    ·replace h := ifF h (dF hg4)
     refine gs 4 ?_
     rcases bsplit ((decide (a0 = 95))) with hg5 | hg5
     ·replace h := ifT h (dT hg5)
      refine gs 4 ?_
      refine gk hK2 25 [2] [] ?_
      obtain rfl := Option.some.inj h
      exact rt
     ·replace h := ifF h (dF hg5)
      refine gs 1 ?_
      obtain ⟨y1, hy1, h⟩ := bnd h
      refine g_yes rfl rfl hg5 (o_callR [] [] (core_value rfl rfl) (m_impl_isFigure_ok a0 _ hy1) trivial (.cons (.refl _) (.nil)) (.inl rfl) rfl ?_)
      refine gs 2 ?_
      refine gk hK2 25 [2] [] ?_
      obtain rfl := Option.some.inj h
      exact rt
   ·replace h := ifF h (dF hg3)
    refine gs 9 ?_
    rcases bsplit ((decide (a0 = 95))) with hg6 | hg6
    ·replace h := ifT h (dT hg6)
     refine gs 4 ?_
     refine gk hK2 25 [2] [] ?_
     obtain rfl := Option.some.inj h
     exact rt
    ·replace h := ifF h (dF hg6)
     refine gs 1 ?_
     obtain ⟨y2, hy2, h⟩ := bnd h
     refine g_yes rfl rfl hg6 (o_callR [] [] (core_value rfl rfl) (m_impl_isFigure_ok a0 _ hy2) trivial (.cons (.refl _) (.nil)) (.inl rfl) rfl ?_)
     refine gs 2 ?_
     refine gk hK2 25 [2] [] ?_
     obtain rfl := Option.some.inj h
     exact rt
 ·replace h := ifF h (dF hg1)
  refine gs 7 ?_
  rcases bsplit ((decide (65 ≤ a0))) with hg7 | hg7
  ·replace h := ifT h (dT hg7)
   refine gs 5 ?_
   rcases bsplit ((decide (a0 ≤ 90))) with hg8 | hg8
   ·replace h := ifT h (dT hg8)
    refine gs 8 ?_
    refine gk hK2 25 [2] [] ?_
    obtain rfl := Option.some.inj h
    exact rt
   ·replace h := ifF h (dF hg8)
    refine gs 4 ?_
    rcases bsplit ((decide (a0 = 95))) with hg9 | hg9
    ·replace h := ifT h (dT hg9)
     refine gs 4 ?_
     refine gk hK2 25 [2] [] ?_
     obtain rfl := Option.some.inj h
     exact rt
    ·replace h := ifF h (dF hg9)
     refine gs 1 ?_
     obtain ⟨y3, hy3, h⟩ := bnd h
     refine g_yes rfl rfl hg9 (o_callR [] [] (core_value rfl rfl) (m_impl_isFigure_ok a0 _ hy3) trivial (.cons (.refl _) (.nil)) (.inl rfl) rfl ?_)
     refine gs 2 ?_
     refine gk hK2 25 [2] [] ?_
     obtain rfl := Option.some.inj h
     exact rt
  ·replace h := ifF h (dF hg7)
   refine gs 9 ?_
   rcases bsplit ((decide (a0 = 95))) with hg10 | hg10
   ·replace h := ifT h (dT hg10)
    refine gs 4 ?_
    refine gk hK2 25 [2] [] ?_
    obtain rfl := Option.some.inj h
    exact rt
   ·replace h := ifF h (dF hg10)
    refine gs 1 ?_
    obtain ⟨y4, hy4, h⟩ := bnd h
    refine g_yes rfl rfl hg10 (o_callR [] [] (core_value rfl rfl) (m_impl_isFigure_ok a0 _ hy4) trivial (.cons (.refl _) (.nil)) (.inl rfl) rfl ?_)
    refine gs 2 ?_
    refine gk hK2 25 [2] [] ?_
    obtain rfl := Option.some.inj h
    exact rt
def m_impl_isName_l1 : Nat → Bs → Int → Option (Lp Unit Bool)
 | 0, _, _ => none
 | k + 1, a0, x1 =>
  if x1 < (a0.length : Int) then
   if (0 : Int) ≤ x1 ∧ x1 < (a0.length : Int) then
    (m_impl_isWordByte (byt a0 x1)).bind fun y1 =>
    if y1 = true then
     m_impl_isName_l1 k a0 (IntKind.wrap .i64 (x1 + 1))
    else
     (some false).bind fun z =>
     some (Lp.ret z)
   else none
  else
   some (Lp.go ())
def m_impl_isName (k : Nat) (a0 : Bs) : Option Bool :=
 (if (a0.length : Int) < 1 then
   some (Lp.go true)
  else
   if 12 < (a0.length : Int) then
    some (Lp.go true)
   else
    if (0 : Int) ≤ 0 ∧ 0 < (a0.length : Int) then
     (m_impl_isFigure (byt a0 0)).bind fun y2 =>
     some (Lp.go y2)
    else none).bind fun o1 =>
 o1.then fun s1 =>
  if s1 = true then
   some false
  else
   (m_impl_isName_l1 k a0 0).bind fun o2 =>
   o2.then fun s2 =>
  some true
theorem m_impl_isName_ok (k : Nat) : ∀ (a0 : Bs) (r : Bool), m_impl_isName k a0 = some r → Does Try.prog 127 [.str a0] [] (ret (.bool r)) := by
 intro a0 r h
 rw [m_impl_isName] at h
 refine does_of_good tabOk Try.func127 rfl (by decide +kernel) (Nat.le_of_ble_eq_true rfl) fun c => ?_
 refine Good.le (σ' := ⟨28, [(0, .str a0)], []⟩) (Le.refl _) ?_
 refine good_seq fun K1 hK1 => ?_
 refine rg 1 ?_
 refine g_nil (hK1 _ ?_)
 refine good_seq fun K2 hK2 => ?_
 refine good_seq fun K3 hK3 => ?_
 obtain ⟨o1, ho1, hJ1⟩ := bnd h
 have hw1 : ∀ (s1 : Bool), o1 = Lp.go s1 → ∀ σ', Le σ' ⟨28, [(0, .str a0), (2, .bool false), (16, .bool s1)], []⟩ → K3 σ' := by
  intro s1 e1 σ' hle1
  subst e1
  refine hK3 _ (Good.le hle1 ?_)
  replace h := hJ1
  refine good_cond rfl (fun hc1 => ?_) (fun hc1 => ?_)
  ·replace h := ifT h hc1
   refine good_seq fun K4 hK4 => ?_
   refine rg 1 ?_
   refine gk hK4 28 [0, 2] [] ?_
   obtain rfl := Option.some.inj h
   exact rt
  ·replace h := bF h hc1
   refine good_skip ?_
   refine hK2 _ (kp 28 [0, 2] [] ?_)
   refine good_seq fun K5 hK5 => ?_
   refine good_seq fun K6 hK6 => ?_
   refine rg 3 ?_
   refine gk hK6 28 [0, 2, 18, 19] [] ?_
   obtain ⟨o2, ho2, hJ2⟩ := bnd h
   have hw2 : ∀ (s2 : Unit), o2 = Lp.go s2 → ∀ σ', Le σ' ⟨28, [(2, .bool false)], []⟩ → K5 σ' := by
    intro s2 e2 σ' hle2
    subst e2
    refine hK5 _ (Good.le hle2 ?_)
    replace h := hJ2
    refine good_seq fun K7 hK7 => ?_
    refine rg 1 ?_
    refine g_nil (hK7 _ ?_)
    obtain rfl := Option.some.inj h
    exact rt
   replace h := ho2
   refine good_block ?_
   refine good_loopf (fun p : Int => ⟨28, [(0, .str a0), (2, .bool false), (18, .int .i64 (a0.length : Int)), (19, .int .i64 p)], []⟩) (fun m p => m_impl_isName_l1 m a0 p = some o2) k (0) (lw []) h ?_
   rintro m1 x1 h
   replace h : m_impl_isName_l1 m1 a0 x1 = some o2 := h
   refine Good.le (σ' := ⟨28, [(0, .str a0), (2, .bool false), (18, .int .i64 (a0.length : Int)), (19, .int .i64 x1)], []⟩) (Le.refl _) ?_
   obtain ⟨m1, rfl⟩ : ∃ m', m1 = m' + 1 := by cases m1 with | zero => (rw [m_impl_isName_l1] at h; cases h) | succ m' => exact ⟨m', rfl⟩
   rw [m_impl_isName_l1] at h
   refine good_seq fun K8 hK8 => ?_
   refine rg 1 ?_
   refine g_nil (hK8 _ ?_)
   refine good_seq fun K9 hK9 => ?_
   refine good_cond rfl (fun hc2 => ?_) (fun hc2 => ?_)
   ·replace h := ifT h (dT hc2)
    refine good_skip ?_
    refine hK9 _ (kp 28 [0, 2, 18, 19] [] ?_)
    refine good_seq fun K10 hK10 => ?_
    refine good_block ?_
    refine good_seq fun K11 hK11 => ?_
    refine rg 2 ?_
    refine gk hK11 28 [0, 2, 3, 18, 19] [] ?_
    refine good_seq fun K12 hK12 => ?_
    refine rg 2 ?_
    obtain ⟨hb1, h⟩ := ifS h
    refine gs 1 ?_
    obtain ⟨y1, hy1, h⟩ := bnd h
    refine g_op rfl (o_callR [] [] (core_value rfl rfl) (m_impl_isWordByte_ok (byt a0 x1) _ hy1) trivial (.cons (.refl _) (.nil)) (.inl rfl) rfl ?_)
    refine gs 1 ?_
    refine gk hK12 28 [0, 2, 18, 19, 26] [] ?_
    refine good_cond rfl (fun hc3 => ?_) (fun hc3 => ?_)
    ·replace h := bF h (nT hc3)
     refine good_seq fun K13 hK13 => ?_
     refine rg 1 ?_
     refine gk hK13 28 [0, 2, 18, 19] [] ?_
     replace h := unret h hJ2
     obtain rfl := Option.some.inj h
     exact rt
    ·replace h := ifT h (nF hc3)
     refine good_skip ?_
     refine hK10 _ (kp 28 [0, 2, 18, 19] [] ?_)
     refine rg 2 ?_
     refine g_nil ?_
     exact round_mk m1 (IntKind.wrap .i64 (x1 + 1)) (Nat.lt_succ_self _) h (lw [])
   ·replace h := ifF h (dF hc2)
    refine good_exit ?_
    exact hw2 () (Option.some.inj h).symm _ (lw [])
 replace h := ho1
 refine rg 4 ?_
 rcases bsplit ((decide ((a0.length : Int) < 1))) with hg1 | hg1
 ·replace h := ifT h (dT hg1)
  refine gs 9 ?_
  refine g_nil ?_
  exact hw1 true (Option.some.inj h).symm _ (lw [])
 ·replace h := ifF h (dF hg1)
  refine gs 5 ?_
  rcases bsplit ((decide (12 < (a0.length : Int)))) with hg2 | hg2
  ·replace h := ifT h (dT hg2)
   refine gs 4 ?_
   refine g_nil ?_
   exact hw1 true (Option.some.inj h).symm _ (lw [])
  ·replace h := ifF h (dF hg2)
   refine gs 1 ?_
   obtain ⟨hb2, h⟩ := ifS h
   refine gs 1 ?_
   obtain ⟨y2, hy2, h⟩ := bnd h
   refine g_yes rfl rfl hg2 (o_callR [] [] (core_value rfl rfl) (m_impl_isFigure_ok (byt a0 0) _ hy2) trivial (.cons (.refl _) (.nil)) (.inl rfl) rfl ?_)
   refine gs 1 ?_
   refine g_nil ?_
   exact hw1 y2 (Option.some.inj h).symm _ (lw [])
def m_impl_namesOnce_l1 : Nat → (List Bs) → Int → Option (Lp Unit Bool)
 | 0, _, _ => none
 | k + 1, a0, x1 =>
  if x1 < (a0.length : Int) then
   if (0 : Int) ≤ x1 ∧ x1 < (a0.length : Int) then
    ((m_impl_isName k (ix a0 x1)).bind fun y1 =>
     if y1 = true then
      if (0 : Int) ≤ 0 ∧ (0 : Int) ≤ x1 ∧ x1 ≤ (a0.length : Int) then
       (m_slices_Contains_string_string k (sub a0 0 x1) (ix a0 x1)).bind fun y2 =>
       some (Lp.go y2)
      else none
     else
      some (Lp.go true)).bind fun o2 =>
    o2.then fun s2 =>
  if s2 = true then
   (some false).bind fun z =>
   some (Lp.ret z)
  else
   m_impl_namesOnce_l1 k a0 (IntKind.wrap .i64 (x1 + 1))
   else none
  else
   some (Lp.go ())
def m_impl_namesOnce (k : Nat) (a0 : (List Bs)) : Option Bool :=
 (m_impl_namesOnce_l1 k a0 0).bind fun o1 =>
 o1.then fun s1 =>
  some true
theorem m_impl_namesOnce_ok (k : Nat) : ∀ (a0 : (List Bs)) (r : Bool), m_impl_namesOnce k a0 = some r → Does Try.prog 126 [.sl false (a0.map encS)] [] (ret (.bool r)) := by
 intro a0 r h
 rw [m_impl_namesOnce] at h
 refine does_of_good tabOk Try.func126 rfl (by decide +kernel) (Nat.le_of_ble_eq_true rfl) fun c => ?_
 refine Good.le (σ' := ⟨23, [(0, .sl false (a0.map encS))], []⟩) (Le.refl _) ?_
 refine good_seq fun K1 hK1 => ?_
 refine rg 1 ?_
 refine g_nil (hK1 _ ?_)
 refine good_seq fun K2 hK2 => ?_
 refine good_seq fun K3 hK3 => ?_
 refine rg 1 ?_
 refine g_op rfl (ValOk.op (v_lenM (l := a0) (f := encS) tabOk rfl rfl telem23 rfl ?_))
 refine gs 1 ?_
 refine g_nil (hK3 _ ?_)
 obtain ⟨o1, ho1, hJ1⟩ := bnd h
 have hw1 : ∀ (s1 : Unit), o1 = Lp.go s1 → ∀ σ', Le σ' ⟨23, [(2, .bool false)], []⟩ → K2 σ' := by
  intro s1 e1 σ' hle1
  subst e1
  refine hK2 _ (Good.le hle1 ?_)
  replace h := hJ1
  refine good_seq fun K4 hK4 => ?_
  refine rg 1 ?_
  refine g_nil (hK4 _ ?_)
  obtain rfl := Option.some.inj h
  exact rt
 replace h := ho1
 refine good_block ?_
 refine good_loopf (fun p : Int => ⟨23, [(0, .sl false (a0.map encS)), (2, .bool false), (5, .sl false (a0.map encS)), (6, .int .i64 (a0.length : Int)), (7, .int .i64 p)], []⟩) (fun m p => m_impl_namesOnce_l1 m a0 p = some o1) k (0) (lw []) h ?_
 rintro m1 x1 h
 replace h : m_impl_namesOnce_l1 m1 a0 x1 = some o1 := h
 refine Good.le (σ' := ⟨23, [(0, .sl false (a0.map encS)), (2, .bool false), (5, .sl false (a0.map encS)), (6, .int .i64 (a0.length : Int)), (7, .int .i64 x1)], []⟩) (Le.refl _) ?_
 obtain ⟨m1, rfl⟩ : ∃ m', m1 = m' + 1 := by cases m1 with | zero => (rw [m_impl_namesOnce_l1] at h; cases h) | succ m' => exact ⟨m', rfl⟩
 rw [m_impl_namesOnce_l1] at h
 refine good_seq fun K5 hK5 => ?_
 refine rg 1 ?_
 refine g_nil (hK5 _ ?_)
 refine good_seq fun K6 hK6 => ?_
 refine good_cond rfl (fun hc1 => ?_) (fun hc1 => ?_)
 ·replace h := ifT h (dT hc1)
  refine good_skip ?_
  refine hK6 _ (kp 23 [0, 2, 5, 6, 7] [] ?_)
  refine good_seq fun K7 hK7 => ?_
  refine good_block ?_
  refine good_seq fun K8 hK8 => ?_
  refine rg 1 ?_
  obtain ⟨hb1, h⟩ := ifS h
  refine g_op rfl (ValOk.op (v_idxM tabOk rfl rfl telem23 tsize9 hb1 rfl rfl rfl ?_))
  refine gs 3 ?_
  refine gk hK8 23 [0, 2, 3, 4, 5, 6, 7] [] ?_
  refine good_seq fun K9 hK9 => ?_
  obtain ⟨o2, ho2, hJ2⟩ := bnd h
  have hw2 : ∀ (s2 : Bool), o2 = Lp.go s2 → ∀ σ', Le σ' ⟨23, [(0, .sl false (a0.map encS)), (2, .bool false), (5, .sl false (a0.map encS)), (6, .int .i64 (a0.length : Int)), (7, .int .i64 x1), (21, .bool s2)], []⟩ → K9 σ' := by
   intro s2 e2 σ' hle2
   subst e2
   refine hK9 _ (Good.le hle2 ?_)
   replace h := hJ2
   refine good_cond rfl (fun hc2 => ?_) (fun hc2 => ?_)
   ·replace h := ifT h hc2
    refine good_seq fun K10 hK10 => ?_
    refine rg 1 ?_
    refine gk hK10 23 [0, 2, 5, 6, 7] [] ?_
    replace h := unret h hJ1
    obtain rfl := Option.some.inj h
    exact rt
   ·replace h := bF h hc2
    refine good_skip ?_
    refine hK7 _ (kp 23 [0, 2, 5, 6, 7] [] ?_)
    refine rg 2 ?_
    refine g_nil ?_
    exact round_mk m1 (IntKind.wrap .i64 (x1 + 1)) (Nat.lt_succ_self _) h (lw [])
  replace h := ho2
  refine rg 1 ?_
  obtain ⟨y1, hy1, h⟩ := bnd h
  refine g_op rfl (o_callR [] [] (core_value rfl rfl) (m_impl_isName_ok m1 (ix a0 x1) _ hy1) trivial (.cons (.refl _) (.nil)) (.inl rfl) rfl ?_)
  refine gs 2 ?_
  rcases bsplit ((!y1)) with hg1 | hg1
  ·replace h := bF h (nT hg1)
   refine gs 6 ?_
   refine g_nil ?_
   exact hw2 true (Option.some.inj h).symm _ (lw [])
  ·replace h := ifT h (nF hg1)
   refine gs 2 ?_
   obtain ⟨hb2, h⟩ := ifS h
   refine g_yes rfl rfl hg1 (ValOk.op (v_sliceM (l := a0) (f := encS) tabOk rfl rfl rfl rfl telem23 tsize9 encS_len hb2 rfl ?_))
   refine gs 1 ?_
   obtain ⟨y2, hy2, h⟩ := bnd h
   refine g_yes rfl rfl hg1 (o_callR [] [] (core_value rfl rfl) (m_slices_Contains_string_string_ok m1 (sub a0 0 x1) (ix a0 x1) _ hy2) trivial (.cons (.refl _) (.cons (.refl _) (.nil))) (.inl rfl) rfl ?_)
   refine gs 1 ?_
   refine g_nil ?_
   exact hw2 y2 (Option.some.inj h).symm _ (lw [])
 ·replace h := ifF h (dF hc1)
  refine good_exit ?_
  exact hw1 () (Option.some.inj h).symm _ (lw [])
end Go.Proofs.Ytiaigcdckmpepaa
end
end
section
/-! Functions of the program. -/
set_option linter.unusedVariables false
set_option linter.unnecessarySimpa false
set_option maxRecDepth 100000
set_option maxHeartbeats 20000000
noncomputable section
namespace Go.Proofs.Ytiaigcdckmpepaa
open Go.Bb
def m_spec_l1Open (a0 : (List Int)) : Option GL1Rd :=
 if 2000 < (a0.length : Int) then
  if (0 : Int) ≤ 0 ∧ (0 : Int) ≤ (2000 : Int) ∧ (2000 : Int) ≤ (a0.length : Int) then
   some (GL1Rd.mk (sub a0 0 2000) 0)
  else none
 else
  some (GL1Rd.mk a0 0)
theorem m_spec_l1Open_ok : ∀ (a0 : (List Int)) (r : GL1Rd), m_spec_l1Open a0 = some r → Does Try.prog 67 [.sl false (a0.map (encI .u8))] [] (fun q h' => ∃ u0 : Nat, q = .ptr 100 u0 0 ∧ h' = [(100, ((.pointer (some ⟨u0, 0, none⟩)), .optr 104 [.sl false (r.b.map (encI .u8)), .int .i64 r.p]))]) := by
 intro a0 r h
 rw [m_spec_l1Open] at h
 refine does_of_good tabOk Try.func67 rfl (by decide +kernel) (Nat.le_of_ble_eq_true rfl) fun c => ?_
 refine Good.le (σ' := ⟨11, [(0, .sl false (a0.map (encI .u8)))], []⟩) (Le.refl _) ?_
 refine good_seq fun K1 hK1 => ?_
 refine rg 1 ?_
 refine g_nil (hK1 _ ?_)
 refine good_seq fun K2 hK2 => ?_
 refine good_seq fun K3 hK3 => ?_
 refine rg 1 ?_
 refine g_op rfl (ValOk.op (v_lenM (l := a0) (f := (encI .u8)) tabOk rfl rfl telem42 rfl ?_))
 refine gs 1 ?_
 refine gk hK3 11 [0, 2, 5] [] ?_
 refine good_cond rfl (fun hc1 => ?_) (fun hc1 => ?_)
 ·replace h := ifT h (dT hc1)
  refine rg 1 ?_
  obtain ⟨hb1, h⟩ := ifS h
  refine g_op rfl (ValOk.op (v_sliceM (l := a0) (f := (encI .u8)) tabOk rfl rfl rfl rfl telem42 tsize5 encI_len hb1 rfl ?_))
  refine gs 1 ?_
  refine gk hK2 11 [0, 2] [] ?_
  refine good_seq fun K4 hK4 => ?_
  refine rg 1 ?_
  refine g_op rfl (ValOk.op (v_build tabOk (cs := [.sl false ((sub a0 0 2000).map (encI .u8)), .int .i64 0]) tzero104 tsok104 rfl rfl rfl ?_))
  refine g_op rfl (o_box (k := 20) tabOk rfl rfl rfl rfl rfl ?_)
  intro b1
  refine gs 1 ?_
  refine gk hK4 11 [2] [20] ?_
  refine Good.le (σ' := ⟨11, [(2, .ptr 100 b1 0)], [(100, ((.pointer (some ⟨b1, 0, none⟩)), .optr 104 [.sl false ((sub a0 0 2000).map (encI .u8)), .int .i64 0]))]⟩) (lw [some 20]) ?_
  refine good_ret ?_
  obtain rfl := Option.some.inj h
  exact endQ_ret (h' := [(100, (_, _))]) [some 100] (.tmp rfl (.nil)) ⟨⟨_, rfl, .refl _⟩, trivial⟩ (by decide) ⟨b1, rfl, rfl⟩
 ·replace h := ifF h (dF hc1)
  refine good_skip ?_
  refine hK2 _ (kp 11 [0, 2] [] ?_)
  refine good_seq fun K5 hK5 => ?_
  refine rg 1 ?_
  refine g_op rfl (ValOk.op (v_build tabOk (cs := [.sl false (a0.map (encI .u8)), .int .i64 0]) tzero104 tsok104 rfl rfl rfl ?_))
  refine g_op rfl (o_box (k := 20) tabOk rfl rfl rfl rfl rfl ?_)
  intro b2
  refine gs 1 ?_
  refine gk hK5 11 [2] [20] ?_
  refine Good.le (σ' := ⟨11, [(2, .ptr 100 b2 0)], [(100, ((.pointer (some ⟨b2, 0, none⟩)), .optr 104 [.sl false (a0.map (encI .u8)), .int .i64 0]))]⟩) (lw [some 20]) ?_
  refine good_ret ?_
  obtain rfl := Option.some.inj h
  exact endQ_ret (h' := [(100, (_, _))]) [some 100] (.tmp rfl (.nil)) ⟨⟨_, rfl, .refl _⟩, trivial⟩ (by decide) ⟨b2, rfl, rfl⟩
def m_spec_l1Rd_pick (a0 : GL1Rd) (a1 : Int) : Option (Int × GL1Rd) :=
 (if a1 < 1 then
   some (Lp.go true)
  else
   some (Lp.go (decide ((a0.b.length : Int) = 0)))).bind fun o1 =>
 o1.then fun s1 =>
  if s1 = true then
   some (0, (GL1Rd.mk a0.b (IntKind.wrap .i64 (a0.p + 1))))
  else
   if (IntKind.wrap .i64 ((IntKind.wrap .i64 (a0.p + 1)) - 1)) < (a0.b.length : Int) then
    if (0 : Int) ≤ (IntKind.wrap .i64 ((IntKind.wrap .i64 (a0.p + 1)) - 1)) ∧ (IntKind.wrap .i64 ((IntKind.wrap .i64 (a0.p + 1)) - 1)) < (a0.b.length : Int) then
     if a1 ≠ 0 then
      some (Int.tmod (IntKind.wrap .i64 (ix a0.b (IntKind.wrap .i64 ((IntKind.wrap .i64 (a0.p + 1)) - 1)))) a1, (GL1Rd.mk a0.b (IntKind.wrap .i64 (a0.p + 1))))
     else none
    else none
   else
    if (a0.b.length : Int) ≠ 0 then
     if (0 : Int) ≤ (Int.tmod (IntKind.wrap .i64 ((IntKind.wrap .i64 (a0.p + 1)) - 1)) (a0.b.length : Int)) ∧ (Int.tmod (IntKind.wrap .i64 ((IntKind.wrap .i64 (a0.p + 1)) - 1)) (a0.b.length : Int)) < (a0.b.length : Int) then
      if (a0.b.length : Int) ≠ 0 then
       if (0 : Int) ≤ (Int.tmod (IntKind.wrap .i64 ((IntKind.wrap .i64 ((IntKind.wrap .i64 ((IntKind.wrap .i64 (a0.p + 1)) - 1)) * 7)) + 3)) (a0.b.length : Int)) ∧ (Int.tmod (IntKind.wrap .i64 ((IntKind.wrap .i64 ((IntKind.wrap .i64 ((IntKind.wrap .i64 (a0.p + 1)) - 1)) * 7)) + 3)) (a0.b.length : Int)) < (a0.b.length : Int) then
        if (a0.b.length : Int) ≠ 0 then
         if a1 ≠ 0 then
          some (Int.tmod (bitsI .xor .i64 (IntKind.wrap .i64 ((IntKind.wrap .i64 ((IntKind.wrap .i64 ((IntKind.wrap .i64 ((IntKind.wrap .i64 (ix a0.b (Int.tmod (IntKind.wrap .i64 ((IntKind.wrap .i64 (a0.p + 1)) - 1)) (a0.b.length : Int)))) * 131)) + (IntKind.wrap .i64 ((IntKind.wrap .i64 (ix a0.b (Int.tmod (IntKind.wrap .i64 ((IntKind.wrap .i64 ((IntKind.wrap .i64 ((IntKind.wrap .i64 (a0.p + 1)) - 1)) * 7)) + 3)) (a0.b.length : Int)))) * 1117)))) + (IntKind.wrap .i64 ((IntKind.wrap .i64 ((IntKind.wrap .i64 (a0.p + 1)) - 1)) * 29)))) + (IntKind.wrap .i64 ((IntKind.wrap .i64 (Int.tdiv (IntKind.wrap .i64 ((IntKind.wrap .i64 (a0.p + 1)) - 1)) (a0.b.length : Int))) * 53)))) (IntKind.wrap .i64 (Int.tdiv (IntKind.wrap .i64 ((IntKind.wrap .i64 ((IntKind.wrap .i64 ((IntKind.wrap .i64 ((IntKind.wrap .i64 (ix a0.b (Int.tmod (IntKind.wrap .i64 ((IntKind.wrap .i64 (a0.p + 1)) - 1)) (a0.b.length : Int)))) * 131)) + (IntKind.wrap .i64 ((IntKind.wrap .i64 (ix a0.b (Int.tmod (IntKind.wrap .i64 ((IntKind.wrap .i64 ((IntKind.wrap .i64 ((IntKind.wrap .i64 (a0.p + 1)) - 1)) * 7)) + 3)) (a0.b.length : Int)))) * 1117)))) + (IntKind.wrap .i64 ((IntKind.wrap .i64 ((IntKind.wrap .i64 (a0.p + 1)) - 1)) * 29)))) + (IntKind.wrap .i64 ((IntKind.wrap .i64 (Int.tdiv (IntKind.wrap .i64 ((IntKind.wrap .i64 (a0.p + 1)) - 1)) (a0.b.length : Int))) * 53)))) 64))) a1, (GL1Rd.mk a0.b (IntKind.wrap .i64 (a0.p + 1))))
         else none
        else none
       else none
      else none
     else none
    else none
theorem m_spec_l1Rd_pick_ok : ∀ (a0 : GL1Rd) (a1 : Int) (b0_0 : Nat) (r : (Int × GL1Rd)), m_spec_l1Rd_pick a0 a1 = some r → Does Try.prog 74 [.ptr 0 b0_0 0, .int .i64 a1] [(0, (.pointer (some ⟨b0_0, 0, none⟩), .optr 104 [.sl false (a0.b.map (encI .u8)), .int .i64 a0.p]))] (fun q h' => q = .int .i64 r.1 ∧ h' = [(0, (.pointer (some ⟨b0_0, 0, none⟩), .optr 104 [.sl false (r.2.b.map (encI .u8)), .int .i64 r.2.p]))]) := by
 intro a0 a1 b0_0 r h
 rw [m_spec_l1Rd_pick] at h
 refine does_of_good tabOk Try.func74 rfl (by decide +kernel) (Nat.le_of_ble_eq_true rfl) fun c => ?_
 refine Good.le (σ' := ⟨99, [(0, .ptr 0 b0_0 0), (1, .int .i64 a1)], [(0, ((.pointer (some ⟨b0_0, 0, none⟩)), .optr 104 [.sl false (a0.b.map (encI .u8)), .int .i64 a0.p]))]⟩) (Le.refl _) ?_
 refine good_seq fun K1 hK1 => ?_
 refine rg 1 ?_
 refine g_nil (hK1 _ ?_)
 refine good_seq fun K2 hK2 => ?_
 refine rg 2 ?_
 refine g_op rfl (ValOk.op (v_nilP rfl rfl ?_))
 refine gs 3 ?_
 refine g_op rfl (ValOk.op (v_nilP rfl rfl ?_))
 refine gs 1 ?_
 refine g_op rfl (o_storeP tabOk (cs' := [.sl false (a0.b.map (encI .u8)), .int .i64 (IntKind.wrap .i64 (a0.p + 1))]) rfl rfl tsize3 rfl rfl rfl (Nat.le_of_ble_eq_true rfl) rfl rfl rfl ?_)
 refine gk hK2 99 [0, 1, 4] [0] ?_
 refine good_seq fun K3 hK3 => ?_
 refine good_seq fun K4 hK4 => ?_
 obtain ⟨o1, ho1, hJ1⟩ := bnd h
 have hw1 : ∀ (s1 : Bool), o1 = Lp.go s1 → ∀ σ', Le σ' ⟨99, [(0, .ptr 0 b0_0 0), (1, .int .i64 a1), (4, .int .i64 0), (24, .bool s1)], [(0, ((.pointer (some ⟨b0_0, 0, none⟩)), .optr 104 [.sl false (a0.b.map (encI .u8)), .int .i64 (IntKind.wrap .i64 (a0.p + 1))]))]⟩ → K4 σ' := by
  intro s1 e1 σ' hle1
  subst e1
  refine hK4 _ (Good.le hle1 ?_)
  replace h := hJ1
  refine good_cond rfl (fun hc1 => ?_) (fun hc1 => ?_)
  ·replace h := ifT h hc1
   refine good_seq fun K5 hK5 => ?_
   refine rg 1 ?_
   refine gk hK5 99 [0, 1, 4] [0] ?_
   refine Good.le (σ' := ⟨99, [(4, .int .i64 0)], [(0, ((.pointer (some ⟨b0_0, 0, none⟩)), .optr 104 [.sl false (a0.b.map (encI .u8)), .int .i64 (IntKind.wrap .i64 (a0.p + 1))]))]⟩) (lw [some 0]) ?_
   refine good_ret ?_
   obtain rfl := Option.some.inj h
   refine thenQ_ret ?_
   exact endQ_ret (h' := [(0, (_, _))]) [some 0] (.tmp rfl (.nil)) ⟨⟨_, rfl, .refl _⟩, trivial⟩ (by decide) ⟨rfl, rfl⟩
  ·replace h := bF h hc1
   refine good_skip ?_
   refine hK3 _ (kp 99 [0, 1, 4] [0] ?_)
   refine good_seq fun K6 hK6 => ?_
   refine rg 1 ?_
   refine g_op rfl (ValOk.op (v_nilP rfl rfl ?_))
   refine gs 4 ?_
   refine gk hK6 99 [0, 1, 4, 5] [0] ?_
   refine good_seq fun K7 hK7 => ?_
   refine good_seq fun K8 hK8 => ?_
   refine rg 2 ?_
   refine g_op rfl (ValOk.op (v_nilP rfl rfl ?_))
   refine gs 2 ?_
   refine g_op rfl (ValOk.op (v_lenM (l := a0.b) (f := (encI .u8)) tabOk rfl rfl telem42 rfl ?_))
   refine gs 1 ?_
   refine gk hK8 99 [0, 1, 4, 5, 36] [0] ?_
   refine good_cond rfl (fun hc2 => ?_) (fun hc2 => ?_)
   ·replace h := ifT h (dT hc2)
    refine good_seq fun K9 hK9 => ?_
    refine rg 1 ?_
    refine g_op rfl (ValOk.op (v_nilP rfl rfl ?_))
    refine gs 3 ?_
    obtain ⟨hb1, h⟩ := ifS h
    refine g_op rfl (ValOk.op (v_idxM tabOk rfl rfl telem42 tsize5 hb1 rfl rfl rfl ?_))
    refine gs 1 ?_
    refine g_op rfl (ValOk.op (v_convI tabOk rfl tkind5 tkind3 rfl ?_))
    refine gs 1 ?_
    obtain ⟨hb2, h⟩ := ifS h
    refine g_op rfl (ValOk.op (v_rem rfl rfl hb2 rfl ?_))
    refine gs 1 ?_
    refine gk hK9 99 [0, 1, 4, 5] [0] ?_
    refine Good.le (σ' := ⟨99, [(4, .int .i64 (Int.tmod (IntKind.wrap .i64 (ix a0.b (IntKind.wrap .i64 ((IntKind.wrap .i64 (a0.p + 1)) - 1)))) a1))], [(0, ((.pointer (some ⟨b0_0, 0, none⟩)), .optr 104 [.sl false (a0.b.map (encI .u8)), .int .i64 (IntKind.wrap .i64 (a0.p + 1))]))]⟩) (lw [some 0]) ?_
    refine good_ret ?_
    obtain rfl := Option.some.inj h
    refine thenQ_ret ?_
    exact endQ_ret (h' := [(0, (_, _))]) [some 0] (.tmp rfl (.nil)) ⟨⟨_, rfl, .refl _⟩, trivial⟩ (by decide) ⟨rfl, rfl⟩
   ·replace h := ifF h (dF hc2)
    refine good_skip ?_
    refine hK7 _ (kp 99 [0, 1, 4, 5] [0] ?_)
    refine good_seq fun K10 hK10 => ?_
    refine good_draw (by kernel_rfl) (by kernel_rfl) ?_
    refine q_op rfl (v_move rfl rfl ?_)
    refine q_op rfl (v_nilP rfl rfl ?_)
    refine q_op rfl (v_fieldP tabOk rfl tfoff104_0 rfl ?_)
    refine q_op rfl (v_loadP tabOk rfl rfl tsize42 tagg42 rfl rfl rfl rfl ?_)
    refine q_op rfl (v_move rfl rfl ?_)
    refine q_op rfl (v_move rfl rfl ?_)
    refine q_op rfl (v_nilP rfl rfl ?_)
    refine q_op rfl (v_fieldP tabOk rfl tfoff104_0 rfl ?_)
    refine q_op rfl (v_loadP tabOk rfl rfl tsize42 tagg42 rfl rfl rfl rfl ?_)
    refine q_op rfl (v_lenM (l := a0.b) (f := (encI .u8)) tabOk rfl rfl telem42 rfl ?_)
    obtain ⟨hb3, h⟩ := ifS h
    refine q_op rfl (v_rem rfl rfl hb3 rfl ?_)
    obtain ⟨hb4, h⟩ := ifS h
    refine q_op rfl (v_idxM tabOk rfl rfl telem42 tsize5 hb4 rfl rfl rfl ?_)
    refine q_op rfl (v_loadE tabOk rfl tsize5 tagg5 rfl rfl rfl ?_)
    refine q_op rfl (v_convI tabOk rfl tkind5 tkind3 rfl ?_)
    refine q_op rfl (v_bin rfl rfl rfl rfl ?_)
    refine q_op rfl (v_move rfl rfl ?_)
    refine q_op rfl (v_nilP rfl rfl ?_)
    refine q_op rfl (v_fieldP tabOk rfl tfoff104_0 rfl ?_)
    refine q_op rfl (v_loadP tabOk rfl rfl tsize42 tagg42 rfl rfl rfl rfl ?_)
    refine q_op rfl (v_move rfl rfl ?_)
    refine q_op rfl (v_bin rfl rfl rfl rfl ?_)
    refine q_op rfl (v_bin rfl rfl rfl rfl ?_)
    refine q_op rfl (v_move rfl rfl ?_)
    refine q_op rfl (v_nilP rfl rfl ?_)
    refine q_op rfl (v_fieldP tabOk rfl tfoff104_0 rfl ?_)
    refine q_op rfl (v_loadP tabOk rfl rfl tsize42 tagg42 rfl rfl rfl rfl ?_)
    refine q_op rfl (v_lenM (l := a0.b) (f := (encI .u8)) tabOk rfl rfl telem42 rfl ?_)
    obtain ⟨hb5, h⟩ := ifS h
    refine q_op rfl (v_rem rfl rfl hb5 rfl ?_)
    obtain ⟨hb6, h⟩ := ifS h
    refine q_op rfl (v_idxM tabOk rfl rfl telem42 tsize5 hb6 rfl rfl rfl ?_)
    refine q_op rfl (v_loadE tabOk rfl tsize5 tagg5 rfl rfl rfl ?_)
    refine q_op rfl (v_convI tabOk rfl tkind5 tkind3 rfl ?_)
    refine q_op rfl (v_bin rfl rfl rfl rfl ?_)
    refine q_op rfl (v_bin rfl rfl rfl rfl ?_)
    refine q_op rfl (v_move rfl rfl ?_)
    refine q_op rfl (v_bin rfl rfl rfl rfl ?_)
    refine q_op rfl (v_bin rfl rfl rfl rfl ?_)
    refine q_op rfl (v_move rfl rfl ?_)
    refine q_op rfl (v_move rfl rfl ?_)
    refine q_op rfl (v_nilP rfl rfl ?_)
    refine q_op rfl (v_fieldP tabOk rfl tfoff104_0 rfl ?_)
    refine q_op rfl (v_loadP tabOk rfl rfl tsize42 tagg42 rfl rfl rfl rfl ?_)
    refine q_op rfl (v_lenM (l := a0.b) (f := (encI .u8)) tabOk rfl rfl telem42 rfl ?_)
    obtain ⟨hb7, h⟩ := ifS h
    refine q_op rfl (v_quo rfl rfl hb7 rfl ?_)
    refine q_op rfl (v_bin rfl rfl rfl rfl ?_)
    refine q_op rfl (v_bin rfl rfl rfl rfl ?_)
    refine q_op rfl (v_assign rfl rfl ?_)
    refine q_nil ?_
    refine hK10 _ (kp 99 [1, 4, 6] [0] ?_)
    refine good_seq fun K11 hK11 => ?_
    refine rg 2 ?_
    refine g_op rfl (ValOk.op (v_quo rfl rfl (by decide) rfl ?_))
    refine gs 2 ?_
    refine gk hK11 99 [1, 4, 6] [0] ?_
    refine good_seq fun K12 hK12 => ?_
    refine rg 2 ?_
    obtain ⟨hb8, h⟩ := ifS h
    refine g_op rfl (ValOk.op (v_rem rfl rfl hb8 rfl ?_))
    refine gs 1 ?_
    refine gk hK12 99 [4] [0] ?_
    refine Good.le (σ' := ⟨99, [(4, .int .i64 (Int.tmod (bitsI .xor .i64 (IntKind.wrap .i64 ((IntKind.wrap .i64 ((IntKind.wrap .i64 ((IntKind.wrap .i64 ((IntKind.wrap .i64 (ix a0.b (Int.tmod (IntKind.wrap .i64 ((IntKind.wrap .i64 (a0.p + 1)) - 1)) (a0.b.length : Int)))) * 131)) + (IntKind.wrap .i64 ((IntKind.wrap .i64 (ix a0.b (Int.tmod (IntKind.wrap .i64 ((IntKind.wrap .i64 ((IntKind.wrap .i64 ((IntKind.wrap .i64 (a0.p + 1)) - 1)) * 7)) + 3)) (a0.b.length : Int)))) * 1117)))) + (IntKind.wrap .i64 ((IntKind.wrap .i64 ((IntKind.wrap .i64 (a0.p + 1)) - 1)) * 29)))) + (IntKind.wrap .i64 ((IntKind.wrap .i64 (Int.tdiv (IntKind.wrap .i64 ((IntKind.wrap .i64 (a0.p + 1)) - 1)) (a0.b.length : Int))) * 53)))) (IntKind.wrap .i64 (Int.tdiv (IntKind.wrap .i64 ((IntKind.wrap .i64 ((IntKind.wrap .i64 ((IntKind.wrap .i64 ((IntKind.wrap .i64 (ix a0.b (Int.tmod (IntKind.wrap .i64 ((IntKind.wrap .i64 (a0.p + 1)) - 1)) (a0.b.length : Int)))) * 131)) + (IntKind.wrap .i64 ((IntKind.wrap .i64 (ix a0.b (Int.tmod (IntKind.wrap .i64 ((IntKind.wrap .i64 ((IntKind.wrap .i64 ((IntKind.wrap .i64 (a0.p + 1)) - 1)) * 7)) + 3)) (a0.b.length : Int)))) * 1117)))) + (IntKind.wrap .i64 ((IntKind.wrap .i64 ((IntKind.wrap .i64 (a0.p + 1)) - 1)) * 29)))) + (IntKind.wrap .i64 ((IntKind.wrap .i64 (Int.tdiv (IntKind.wrap .i64 ((IntKind.wrap .i64 (a0.p + 1)) - 1)) (a0.b.length : Int))) * 53)))) 64))) a1))], [(0, ((.pointer (some ⟨b0_0, 0, none⟩)), .optr 104 [.sl false (a0.b.map (encI .u8)), .int .i64 (IntKind.wrap .i64 (a0.p + 1))]))]⟩) (lw [some 0]) ?_
    refine good_ret ?_
    obtain rfl := Option.some.inj h
    exact endQ_ret (h' := [(0, (_, _))]) [some 0] (.tmp rfl (.nil)) ⟨⟨_, rfl, .refl _⟩, trivial⟩ (by decide) ⟨rfl, rfl⟩
 replace h := ho1
 refine rg 3 ?_
 rcases bsplit ((decide (a1 < 1))) with hg1 | hg1
 ·replace h := ifT h (dT hg1)
  refine gs 7 ?_
  refine g_nil ?_
  exact hw1 true (Option.some.inj h).symm _ (lw [some 0])
 ·replace h := ifF h (dF hg1)
  refine gs 1 ?_
  refine g_yes rfl rfl hg1 (ValOk.op (v_nilP rfl rfl ?_))
  refine gs 2 ?_
  refine g_yes rfl rfl hg1 (ValOk.op (v_lenM (l := a0.b) (f := (encI .u8)) tabOk rfl rfl telem42 rfl ?_))
  refine gs 2 ?_
  refine g_nil ?_
  exact hw1 (decide ((a0.b.length : Int) = 0)) (Option.some.inj h).symm _ (lw [some 0])
def m_spec_l1Rd_one (a0 : GL1Rd) (a1 : (List Int)) : Option (Int × GL1Rd) :=
 (m_spec_l1Rd_pick a0 (a1.length : Int)).bind fun y1 =>
 if (0 : Int) ≤ y1.1 ∧ y1.1 < (a1.length : Int) then
  some ((ix a1 y1.1), y1.2)
 else none
theorem m_spec_l1Rd_one_ok : ∀ (a0 : GL1Rd) (a1 : (List Int)) (b0_0 : Nat) (r : (Int × GL1Rd)), m_spec_l1Rd_one a0 a1 = some r → Does Try.prog 101 [.ptr 0 b0_0 0, .sl false (a1.map (encI .i64))] [(0, (.pointer (some ⟨b0_0, 0, none⟩), .optr 104 [.sl false (a0.b.map (encI .u8)), .int .i64 a0.p]))] (fun q h' => q = .int .i64 r.1 ∧ h' = [(0, (.pointer (some ⟨b0_0, 0, none⟩), .optr 104 [.sl false (r.2.b.map (encI .u8)), .int .i64 r.2.p]))]) := by
 intro a0 a1 b0_0 r h
 rw [m_spec_l1Rd_one] at h
 refine does_of_good tabOk Try.func101 rfl (by decide +kernel) (Nat.le_of_ble_eq_true rfl) fun c => ?_
 refine Good.le (σ' := ⟨12, [(0, .ptr 0 b0_0 0), (1, .sl false (a1.map (encI .i64)))], [(0, ((.pointer (some ⟨b0_0, 0, none⟩)), .optr 104 [.sl false (a0.b.map (encI .u8)), .int .i64 a0.p]))]⟩) (Le.refl _) ?_
 refine good_seq fun K1 hK1 => ?_
 refine rg 1 ?_
 refine g_nil (hK1 _ ?_)
 refine good_seq fun K2 hK2 => ?_
 refine rg 3 ?_
 refine g_op rfl (ValOk.op (v_lenM (l := a1) (f := (encI .i64)) tabOk rfl rfl telem106 rfl ?_))
 obtain ⟨y1, hy1, h⟩ := bnd h
 refine g_op rfl (o_callP (q := 0) (core_value rfl rfl) (m_spec_l1Rd_pick_ok a0 (a1.length : Int) b0_0 _ hy1) (.cons (.ptr _ _ _ _) (.cons (.refl _) (.nil))) rfl rfl ?_)
 obtain ⟨hb1, h⟩ := ifS h
 refine g_op rfl (ValOk.op (v_idxM tabOk rfl rfl telem106 tsize3 hb1 rfl rfl rfl ?_))
 refine gs 2 ?_
 refine gk hK2 12 [4] [0] ?_
 refine Good.le (σ' := ⟨12, [(4, .int .i64 (ix a1 y1.1))], [(0, ((.pointer (some ⟨b0_0, 0, none⟩)), .optr 104 [.sl false (y1.2.b.map (encI .u8)), .int .i64 y1.2.p]))]⟩) (lw [some 0]) ?_
 refine good_ret ?_
 obtain rfl := Option.some.inj h
 exact endQ_ret (h' := [(0, (_, _))]) [some 0] (.tmp rfl (.nil)) ⟨⟨_, rfl, .refl _⟩, trivial⟩ (by decide) ⟨rfl, rfl⟩
def m_spec_l1Many_l1 : Nat → Bs → Int → Bs → Option (Lp Bs Bs)
 | 0, _, _, _ => none
 | k + 1, x1, x2, x3 =>
  if 0 < x2 then
   if (Int.tmod x2 2) = 1 then
    if (x3 ++ x1).length ≤ maxLen then
     if (x1 ++ x1).length ≤ maxLen then
      m_spec_l1Many_l1 k (x1 ++ x1) (IntKind.wrap .i64 (Int.tdiv x2 2)) (x3 ++ x1)
     else none
    else none
   else
    if (x1 ++ x1).length ≤ maxLen then
     m_spec_l1Many_l1 k (x1 ++ x1) (IntKind.wrap .i64 (Int.tdiv x2 2)) x3
    else none
  else
   some (Lp.go x3)
def m_spec_l1Many (k : Nat) (a0 : Bs) (a1 : Int) : Option Bs :=
 (m_spec_l1Many_l1 k a0 a1 []).bind fun o1 =>
 o1.then fun s1 =>
  some s1
theorem m_spec_l1Many_ok (k : Nat) : ∀ (a0 : Bs) (a1 : Int) (r : Bs), m_spec_l1Many k a0 a1 = some r → Does Try.prog 102 [.str a0, .int .i64 a1] [] (ret (.str r)) := by
 intro a0 a1 r h
 rw [m_spec_l1Many] at h
 refine does_of_good tabOk Try.func102 rfl (by decide +kernel) (Nat.le_of_ble_eq_true rfl) fun c => ?_
 refine Good.le (σ' := ⟨20, [(0, .str a0), (1, .int .i64 a1)], []⟩) (Le.refl _) ?_
 refine good_seq fun K1 hK1 => ?_
 refine rg 1 ?_
 refine g_nil (hK1 _ ?_)
 refine good_seq fun K2 hK2 => ?_
 refine rg 1 ?_
 refine g_nil (hK2 _ ?_)
 refine good_seq fun K3 hK3 => ?_
 obtain ⟨o1, ho1, hJ1⟩ := bnd h
 have hw1 : ∀ (s1 : Bs), o1 = Lp.go s1 → ∀ σ', Le σ' ⟨20, [(4, .str []), (5, .str s1)], []⟩ → K3 σ' := by
  intro s1 e1 σ' hle1
  subst e1
  refine hK3 _ (Good.le hle1 ?_)
  replace h := hJ1
  refine good_seq fun K4 hK4 => ?_
  refine rg 2 ?_
  refine gk hK4 20 [4] [] ?_
  obtain rfl := Option.some.inj h
  exact rt
 replace h := ho1
 refine good_block ?_
 refine good_loopf (fun p : (Bs × Int × Bs) => ⟨20, [(0, .str p.1), (1, .int .i64 p.2.1), (4, .str []), (5, .str p.2.2)], []⟩) (fun m p => m_spec_l1Many_l1 m p.1 p.2.1 p.2.2 = some o1) k (a0, a1, []) (lw []) h ?_
 rintro m1 ⟨x1, x2, x3⟩ h
 replace h : m_spec_l1Many_l1 m1 x1 x2 x3 = some o1 := h
 refine Good.le (σ' := ⟨20, [(0, .str x1), (1, .int .i64 x2), (4, .str []), (5, .str x3)], []⟩) (Le.refl _) ?_
 obtain ⟨m1, rfl⟩ : ∃ m', m1 = m' + 1 := by cases m1 with | zero => (rw [m_spec_l1Many_l1] at h; cases h) | succ m' => exact ⟨m', rfl⟩
 rw [m_spec_l1Many_l1] at h
 refine good_seq fun K5 hK5 => ?_
 refine good_seq fun K6 hK6 => ?_
 refine rg 2 ?_
 refine gk hK6 20 [0, 1, 4, 5, 7] [] ?_
 refine good_cond rfl (fun hc1 => ?_) (fun hc1 => ?_)
 ·replace h := ifT h (dT hc1)
  refine good_skip ?_
  refine hK5 _ (kp 20 [0, 1, 4, 5] [] ?_)
  refine good_block ?_
  refine good_seq fun K7 hK7 => ?_
  refine good_seq fun K8 hK8 => ?_
  refine rg 1 ?_
  refine g_op rfl (ValOk.op (v_rem rfl rfl (by decide) rfl ?_))
  refine gs 1 ?_
  refine gk hK8 20 [0, 1, 4, 5, 10] [] ?_
  refine good_cond rfl (fun hc2 => ?_) (fun hc2 => ?_)
  ·replace h := ifT h (dT hc2)
   refine rg 2 ?_
   obtain ⟨hb1, h⟩ := ifS h
   refine g_op rfl (ValOk.op (v_cat rfl rfl hb1 rfl ?_))
   refine gs 1 ?_
   refine gk hK7 20 [0, 1, 4, 5] [] ?_
   refine good_seq fun K9 hK9 => ?_
   refine rg 2 ?_
   obtain ⟨hb2, h⟩ := ifS h
   refine g_op rfl (ValOk.op (v_cat rfl rfl hb2 rfl ?_))
   refine gs 1 ?_
   refine gk hK9 20 [0, 1, 4, 5] [] ?_
   refine rg 1 ?_
   refine g_op rfl (ValOk.op (v_quo rfl rfl (by decide) rfl ?_))
   refine gs 1 ?_
   refine g_nil ?_
   exact round_mk m1 (x1 ++ x1, IntKind.wrap .i64 (Int.tdiv x2 2), x3 ++ x1) (Nat.lt_succ_self _) h (lw [])
  ·replace h := ifF h (dF hc2)
   refine good_skip ?_
   refine hK7 _ (kp 20 [0, 1, 4, 5] [] ?_)
   refine good_seq fun K10 hK10 => ?_
   refine rg 2 ?_
   obtain ⟨hb3, h⟩ := ifS h
   refine g_op rfl (ValOk.op (v_cat rfl rfl hb3 rfl ?_))
   refine gs 1 ?_
   refine gk hK10 20 [0, 1, 4, 5] [] ?_
   refine rg 1 ?_
   refine g_op rfl (ValOk.op (v_quo rfl rfl (by decide) rfl ?_))
   refine gs 1 ?_
   refine g_nil ?_
   exact round_mk m1 (x1 ++ x1, IntKind.wrap .i64 (Int.tdiv x2 2), x3) (Nat.lt_succ_self _) h (lw [])
 ·replace h := ifF h (dF hc1)
  refine good_exit ?_
  exact hw1 x3 (Option.some.inj h).symm _ (lw [])
def m_spec_l1Rd_of (a0 : GL1Rd) (a1 : (List Bs)) : Option (Bs × GL1Rd) :=
 (m_spec_l1Rd_pick a0 (a1.length : Int)).bind fun y1 =>
 if (0 : Int) ≤ y1.1 ∧ y1.1 < (a1.length : Int) then
  some ((ix a1 y1.1), y1.2)
 else none
theorem m_spec_l1Rd_of_ok : ∀ (a0 : GL1Rd) (a1 : (List Bs)) (b0_0 : Nat) (r : (Bs × GL1Rd)), m_spec_l1Rd_of a0 a1 = some r → Does Try.prog 69 [.ptr 0 b0_0 0, .sl false (a1.map encS)] [(0, (.pointer (some ⟨b0_0, 0, none⟩), .optr 104 [.sl false (a0.b.map (encI .u8)), .int .i64 a0.p]))] (fun q h' => q = .str r.1 ∧ h' = [(0, (.pointer (some ⟨b0_0, 0, none⟩), .optr 104 [.sl false (r.2.b.map (encI .u8)), .int .i64 r.2.p]))]) := by
 intro a0 a1 b0_0 r h
 rw [m_spec_l1Rd_of] at h
 refine does_of_good tabOk Try.func69 rfl (by decide +kernel) (Nat.le_of_ble_eq_true rfl) fun c => ?_
 refine Good.le (σ' := ⟨12, [(0, .ptr 0 b0_0 0), (1, .sl false (a1.map encS))], [(0, ((.pointer (some ⟨b0_0, 0, none⟩)), .optr 104 [.sl false (a0.b.map (encI .u8)), .int .i64 a0.p]))]⟩) (Le.refl _) ?_
 refine good_seq fun K1 hK1 => ?_
 refine rg 1 ?_
 refine g_nil (hK1 _ ?_)
 refine good_seq fun K2 hK2 => ?_
 refine rg 3 ?_
 refine g_op rfl (ValOk.op (v_lenM (l := a1) (f := encS) tabOk rfl rfl telem23 rfl ?_))
 obtain ⟨y1, hy1, h⟩ := bnd h
 refine g_op rfl (o_callP (q := 0) (core_value rfl rfl) (m_spec_l1Rd_pick_ok a0 (a1.length : Int) b0_0 _ hy1) (.cons (.ptr _ _ _ _) (.cons (.refl _) (.nil))) rfl rfl ?_)
 obtain ⟨hb1, h⟩ := ifS h
 refine g_op rfl (ValOk.op (v_idxM tabOk rfl rfl telem23 tsize9 hb1 rfl rfl rfl ?_))
 refine gs 2 ?_
 refine gk hK2 12 [4] [0] ?_
 refine Good.le (σ' := ⟨12, [(4, .str (ix a1 y1.1))], [(0, ((.pointer (some ⟨b0_0, 0, none⟩)), .optr 104 [.sl false (y1.2.b.map (encI .u8)), .int .i64 y1.2.p]))]⟩) (lw [some 0]) ?_
 refine good_ret ?_
 obtain rfl := Option.some.inj h
 exact endQ_ret (h' := [(0, (_, _))]) [some 0] (.tmp rfl (.nil)) ⟨⟨_, rfl, .refl _⟩, trivial⟩ (by decide) ⟨rfl, rfl⟩
def m_spec_l13Text (k : Nat) (a0 : GL1Rd) : Option (Bs × GL1Rd) :=
 (m_spec_l1Many k [120] 40).bind fun y1 =>
 (m_spec_l1Rd_of a0 [[], [97], [104, 101, 108, 108, 111], [34, 113, 34], [108, 105, 110, 101, 10], [0, 255], [92], y1, [67, 65, 84]]).bind fun y2 =>
 some (y2.1, y2.2)
theorem m_spec_l13Text_ok (k : Nat) : ∀ (a0 : GL1Rd) (b0_0 : Nat) (r : (Bs × GL1Rd)), m_spec_l13Text k a0 = some r → Does Try.prog 109 [.ptr 0 b0_0 0] [(0, (.pointer (some ⟨b0_0, 0, none⟩), .optr 104 [.sl false (a0.b.map (encI .u8)), .int .i64 a0.p]))] (fun q h' => q = .str r.1 ∧ h' = [(0, (.pointer (some ⟨b0_0, 0, none⟩), .optr 104 [.sl false (r.2.b.map (encI .u8)), .int .i64 r.2.p]))]) := by
 intro a0 b0_0 r h
 rw [m_spec_l13Text] at h
 refine does_of_good tabOk Try.func109 rfl (by decide +kernel) (Nat.le_of_ble_eq_true rfl) fun c => ?_
 refine Good.le (σ' := ⟨7, [(0, .ptr 0 b0_0 0)], [(0, ((.pointer (some ⟨b0_0, 0, none⟩)), .optr 104 [.sl false (a0.b.map (encI .u8)), .int .i64 a0.p]))]⟩) (Le.refl _) ?_
 refine good_seq fun K1 hK1 => ?_
 refine rg 1 ?_
 refine g_nil (hK1 _ ?_)
 refine good_seq fun K2 hK2 => ?_
 refine rg 1 ?_
 obtain ⟨y1, hy1, h⟩ := bnd h
 refine g_op rfl (o_callR [] [] (core_value rfl rfl) (m_spec_l1Many_ok k [120] 40 _ hy1) trivial (.cons (.refl _) (.cons (.refl _) (.nil))) (.inl rfl) rfl ?_)
 refine g_op rfl (o_buildSlice (k := 15) (rows := [[], [97], [104, 101, 108, 108, 111], [34, 113, 34], [108, 105, 110, 101, 10], [0, 255], [92], y1, [67, 65, 84]].map encS) tabOk telem23 tsize9 rfl rfl rfl rfl (by decide) (by decide) (by rw [tzero9]; rfl) rfl rfl rfl rfl rfl ?_)
 intro w1
 refine g_le (σ1 := ⟨7, [(2, .str []), (3, .ptr 0 b0_0 0), (5, .sl false ([[], [97], [104, 101, 108, 108, 111], [34, 113, 34], [108, 105, 110, 101, 10], [0, 255], [92], y1, [67, 65, 84]].map encS))], [(0, ((.pointer (some ⟨b0_0, 0, none⟩)), .optr 104 [.sl false (a0.b.map (encI .u8)), .int .i64 a0.p]))]⟩) (le_of [15] [(_, _)] [some 0] rfl ⟨⟨_, rfl, .osl (FrzLL.map fun _ _ => encS_frz _)⟩, trivial⟩ ⟨⟨_, rfl, .refl _⟩, ⟨⟨_, rfl, .refl _⟩, ⟨⟨_, rfl, .frz _ _ _ (.head _)⟩, trivial⟩⟩⟩ ⟨⟨_, rfl, .refl _⟩, trivial⟩ (by decide) (by decide)) ?_
 obtain ⟨y2, hy2, h⟩ := bnd h
 refine g_op rfl (o_callP (q := 0) (core_value rfl rfl) (m_spec_l1Rd_of_ok a0 [[], [97], [104, 101, 108, 108, 111], [34, 113, 34], [108, 105, 110, 101, 10], [0, 255], [92], y1, [67, 65, 84]] b0_0 _ hy2) (.cons (.ptr _ _ _ _) (.cons (.refl _) (.nil))) rfl rfl ?_)
 refine gs 1 ?_
 refine gk hK2 7 [2] [0] ?_
 refine Good.le (σ' := ⟨7, [(2, .str y2.1)], [(0, ((.pointer (some ⟨b0_0, 0, none⟩)), .optr 104 [.sl false (y2.2.b.map (encI .u8)), .int .i64 y2.2.p]))]⟩) (lw [some 0]) ?_
 refine good_ret ?_
 obtain rfl := Option.some.inj h
 exact endQ_ret (h' := [(0, (_, _))]) [some 0] (.tmp rfl (.nil)) ⟨⟨_, rfl, .refl _⟩, trivial⟩ (by decide) ⟨rfl, rfl⟩
def m_spec_l2Has_l1 : Nat → (List Bs) → Bs → Int → Option (Lp Unit Bool)
 | 0, _, _, _ => none
 | k + 1, a0, a1, x1 =>
  if x1 < (a0.length : Int) then
   if (0 : Int) ≤ x1 ∧ x1 < (a0.length : Int) then
    if (ix a0 x1) = a1 then
     (some true).bind fun z =>
     some (Lp.ret z)
    else
     m_spec_l2Has_l1 k a0 a1 (IntKind.wrap .i64 (x1 + 1))
   else none
  else
   some (Lp.go ())
def m_spec_l2Has (k : Nat) (a0 : (List Bs)) (a1 : Bs) : Option Bool :=
 (m_spec_l2Has_l1 k a0 a1 0).bind fun o1 =>
 o1.then fun s1 =>
  some false
theorem m_spec_l2Has_ok (k : Nat) : ∀ (a0 : (List Bs)) (a1 : Bs) (r : Bool), m_spec_l2Has k a0 a1 = some r → Does Try.prog 110 [.sl false (a0.map encS), .str a1] [] (ret (.bool r)) := by
 intro a0 a1 r h
 rw [m_spec_l2Has] at h
 refine does_of_good tabOk Try.func110 rfl (by decide +kernel) (Nat.le_of_ble_eq_true rfl) fun c => ?_
 refine Good.le (σ' := ⟨18, [(0, .sl false (a0.map encS)), (1, .str a1)], []⟩) (Le.refl _) ?_
 refine good_seq fun K1 hK1 => ?_
 refine rg 1 ?_
 refine g_nil (hK1 _ ?_)
 refine good_seq fun K2 hK2 => ?_
 refine good_seq fun K3 hK3 => ?_
 refine rg 1 ?_
 refine g_nil (hK3 _ ?_)
 obtain ⟨o1, ho1, hJ1⟩ := bnd h
 have hw1 : ∀ (s1 : Unit), o1 = Lp.go s1 → ∀ σ', Le σ' ⟨18, [(4, .bool false)], []⟩ → K2 σ' := by
  intro s1 e1 σ' hle1
  subst e1
  refine hK2 _ (Good.le hle1 ?_)
  replace h := hJ1
  refine good_seq fun K4 hK4 => ?_
  refine rg 1 ?_
  refine g_nil (hK4 _ ?_)
  obtain rfl := Option.some.inj h
  exact rt
 replace h := ho1
 refine good_block ?_
 refine good_loopf (fun p : Int => ⟨18, [(0, .sl false (a0.map encS)), (1, .str a1), (4, .bool false), (5, .int .i64 p)], []⟩) (fun m p => m_spec_l2Has_l1 m a0 a1 p = some o1) k (0) (lw []) h ?_
 rintro m1 x1 h
 replace h : m_spec_l2Has_l1 m1 a0 a1 x1 = some o1 := h
 refine Good.le (σ' := ⟨18, [(0, .sl false (a0.map encS)), (1, .str a1), (4, .bool false), (5, .int .i64 x1)], []⟩) (Le.refl _) ?_
 obtain ⟨m1, rfl⟩ : ∃ m', m1 = m' + 1 := by cases m1 with | zero => (rw [m_spec_l2Has_l1] at h; cases h) | succ m' => exact ⟨m', rfl⟩
 rw [m_spec_l2Has_l1] at h
 refine good_seq fun K5 hK5 => ?_
 refine good_seq fun K6 hK6 => ?_
 refine rg 2 ?_
 refine g_op rfl (ValOk.op (v_lenM (l := a0) (f := encS) tabOk rfl rfl telem23 rfl ?_))
 refine gs 1 ?_
 refine gk hK6 18 [0, 1, 4, 5, 9] [] ?_
 refine good_cond rfl (fun hc1 => ?_) (fun hc1 => ?_)
 ·replace h := ifT h (dT hc1)
  refine good_skip ?_
  refine hK5 _ (kp 18 [0, 1, 4, 5] [] ?_)
  refine good_seq fun K7 hK7 => ?_
  refine good_block ?_
  refine good_seq fun K8 hK8 => ?_
  refine rg 2 ?_
  obtain ⟨hb1, h⟩ := ifS h
  refine g_op rfl (ValOk.op (v_idxM tabOk rfl rfl telem23 tsize9 hb1 rfl rfl rfl ?_))
  refine gs 3 ?_
  refine gk hK8 18 [0, 1, 4, 5, 17] [] ?_
  refine good_cond rfl (fun hc2 => ?_) (fun hc2 => ?_)
  ·replace h := ifT h (dT hc2)
   refine good_seq fun K9 hK9 => ?_
   refine rg 1 ?_
   refine gk hK9 18 [0, 1, 4, 5] [] ?_
   replace h := unret h hJ1
   obtain rfl := Option.some.inj h
   exact rt
  ·replace h := ifF h (dF hc2)
   refine good_skip ?_
   refine hK7 _ (kp 18 [0, 1, 4, 5] [] ?_)
   refine rg 3 ?_
   refine g_nil ?_
   exact round_mk m1 (IntKind.wrap .i64 (x1 + 1)) (Nat.lt_succ_self _) h (lw [])
 ·replace h := ifF h (dF hc1)
  refine good_exit ?_
  exact hw1 () (Option.some.inj h).symm _ (lw [])
mutual
def m_spec_l13Value_l1 : Nat → Int → (List Int) → Int → (List Val) → Int → Option (Lp ((List Int) × Int × (List Val)) (Val × GL1Rd))
 | 0, _, _, _, _, _ => none
 | k + 1, a1, x1, x2, x3, x4 =>
  if 0 < x4 then
   (m_spec_l13Value k (GL1Rd.mk x1 x2) (IntKind.wrap .i64 (a1 - 1))).bind fun y6 =>
   if (x3 ++ [y6.1]).length * 80 ≤ 140737488355328 then
    m_spec_l13Value_l1 k a1 y6.2.b y6.2.p (x3 ++ [y6.1]) (IntKind.wrap .i64 (x4 - 1))
   else none
  else
   some (Lp.go (x1, x2, x3))
def m_spec_l13Value_l2 : Nat → Int → (List Int) → Int → (List Val) → (List Bs) → Int → Option (Lp ((List Int) × Int × (List Val) × (List Bs)) (Val × GL1Rd))
 | 0, _, _, _, _, _, _ => none
 | k + 1, a1, x5, x6, x7, x8, x9 =>
  if 0 < x9 then
   (m_spec_l1Rd_of (GL1Rd.mk x5 x6) [[97], [98], [99], [114, 101, 102], [120, 49]]).bind fun y8 =>
   (m_spec_l2Has k x8 y8.1).bind fun y9 =>
   if y9 = true then
    m_spec_l13Value_l2 k a1 y8.2.b y8.2.p x7 x8 (IntKind.wrap .i64 (x9 - 1))
   else
    if (x8 ++ [y8.1]).length * 16 ≤ 140737488355328 then
     (m_spec_l13Value k y8.2 (IntKind.wrap .i64 (a1 - 1))).bind fun y10 =>
     if (x7 ++ [y10.1]).length * 80 ≤ 140737488355328 then
      m_spec_l13Value_l2 k a1 y10.2.b y10.2.p (x7 ++ [y10.1]) (x8 ++ [y8.1]) (IntKind.wrap .i64 (x9 - 1))
     else none
    else none
  else
   some (Lp.go (x5, x6, x7, x8))
def m_spec_l13Value : Nat → GL1Rd → Int → Option (Val × GL1Rd)
 | 0, _, _ => none
 | k + 1, a0, a1 =>
  (m_spec_l1Rd_one a0 [0, 1, 2, 2, 3, 3, 4, 5]).bind fun y1 =>
  ((if a1 ≤ 1 then
     some (Lp.go (decide (3 < y1.1)))
    else
     some (Lp.go false)).bind fun o4 =>
   o4.then fun s4 =>
  if s4 = true then
   (m_spec_l1Rd_pick y1.2 4).bind fun y11 =>
   some (Lp.go (y11.2.b, y11.2.p, y11.1))
  else
   some (Lp.go (y1.2.b, y1.2.p, y1.1))).bind fun o1 =>
  o1.then fun s1 =>
  if s1.2.2 = 1 then
   (m_spec_l1Rd_pick (GL1Rd.mk s1.1 s1.2.1) 2).bind fun y2 =>
   some ((Val.mk s1.2.2 y2.1 ([] : Bs) ([] : List Val) ([] : List Bs)), y2.2)
  else
   if s1.2.2 = 2 then
    (m_spec_l1Rd_one (GL1Rd.mk s1.1 s1.2.1) [0, 1, (-1), 7, 42, 2147483647, (-2147483647)]).bind fun y3 =>
    some ((Val.mk s1.2.2 y3.1 ([] : Bs) ([] : List Val) ([] : List Bs)), y3.2)
   else
    if s1.2.2 = 3 then
     (m_spec_l13Text k (GL1Rd.mk s1.1 s1.2.1)).bind fun y4 =>
     some ((Val.mk s1.2.2 0 y4.1 ([] : List Val) ([] : List Bs)), y4.2)
    else
     if s1.2.2 = 4 then
      (m_spec_l1Rd_pick (GL1Rd.mk s1.1 s1.2.1) 4).bind fun y5 =>
      (m_spec_l13Value_l1 k a1 y5.2.b y5.2.p [] y5.1).bind fun o2 =>
      o2.then fun s2 =>
  some ((Val.mk s1.2.2 0 ([] : Bs) s2.2.2 ([] : List Bs)), (GL1Rd.mk s2.1 s2.2.1))
     else
      if s1.2.2 = 5 then
       (m_spec_l1Rd_pick (GL1Rd.mk s1.1 s1.2.1) 4).bind fun y7 =>
       (m_spec_l13Value_l2 k a1 y7.2.b y7.2.p [] [] y7.1).bind fun o3 =>
       o3.then fun s3 =>
  some ((Val.mk s1.2.2 0 ([] : Bs) s3.2.2.1 s3.2.2.2), (GL1Rd.mk s3.1 s3.2.1))
      else
       some ((Val.mk s1.2.2 0 ([] : Bs) ([] : List Val) ([] : List Bs)), (GL1Rd.mk s1.1 s1.2.1))
end
def P_m_spec_l13Value (k : Nat) : Prop := ∀ (a0 : GL1Rd) (a1 : Int) (b0_0 : Nat) (r : (Val × GL1Rd)), m_spec_l13Value k a0 a1 = some r → Does Try.prog 77 [.ptr 0 b0_0 0, .int .i64 a1] [(0, (.pointer (some ⟨b0_0, 0, none⟩), .optr 104 [.sl false (a0.b.map (encI .u8)), .int .i64 a0.p]))] (fun q h' => ∃ u0 : Value, ∃ u1 : Value, q = .agg [.int .i64 r.1.kind, .int .i64 r.1.num, .str r.1.text, .hd 100 u0, .hd 101 u1] ∧ h' = [(0, (.pointer (some ⟨b0_0, 0, none⟩), .optr 104 [.sl false (r.2.b.map (encI .u8)), .int .i64 r.2.p])), (100, (u0, .osl 30 5 (r.1.list.map encOVal))), (101, (u1, .osl 9 1 (r.1.names.map encS)))])
theorem m_spec_l13Value_step (k : Nat) (ih : ∀ m, m < k → P_m_spec_l13Value m) : P_m_spec_l13Value k := by
 intro a0 a1 b0_0 r h
 obtain ⟨k, rfl⟩ : ∃ k', k = k' + 1 := by cases k with | zero => (rw [m_spec_l13Value] at h; cases h) | succ k' => exact ⟨k', rfl⟩
 rw [m_spec_l13Value] at h
 refine does_of_good tabOk Try.func77 rfl (by decide +kernel) (Nat.le_of_ble_eq_true rfl) fun c => ?_
 refine Good.le (σ' := ⟨89, [(0, .ptr 0 b0_0 0), (1, .int .i64 a1)], [(0, ((.pointer (some ⟨b0_0, 0, none⟩)), .optr 104 [.sl false (a0.b.map (encI .u8)), .int .i64 a0.p]))]⟩) (Le.refl _) ?_
 refine good_seq fun K1 hK1 => ?_
 refine good_region ?_
 refine g_op rfl (o_alloc (k := 14) tabOk tzero30 rfl rfl ?_)
 intro b1
 refine g_nil (hK1 _ ?_)
 refine good_seq fun K2 hK2 => ?_
 refine rg 1 ?_
 refine g_op rfl (o_buildSlice (k := 21) (rows := [0, 1, 2, 2, 3, 3, 4, 5].map (encI .i64)) tabOk telem106 tsize3 rfl rfl rfl rfl (by decide) (by decide) (by rw [tzero3]; rfl) rfl rfl rfl rfl rfl ?_)
 intro w1
 refine g_le (σ1 := ⟨89, [(0, .ptr 0 b0_0 0), (1, .int .i64 a1), (4, .ptr 14 b1 0), (10, .ptr 0 b0_0 0), (11, .sl false ([0, 1, 2, 2, 3, 3, 4, 5].map (encI .i64)))], [(0, ((.pointer (some ⟨b0_0, 0, none⟩)), .optr 104 [.sl false (a0.b.map (encI .u8)), .int .i64 a0.p])), (14, ((.pointer (some ⟨b1, 0, none⟩)), .optr 30 [.int .i64 0, .int .i64 0, .str ([] : Bs), .nil, .nil]))]⟩) (le_of [21] [(_, _)] [some 0, some 14] rfl ⟨⟨_, rfl, .osl (FrzLL.map fun _ _ => encI_frz _)⟩, trivial⟩ ⟨⟨_, rfl, .refl _⟩, ⟨⟨_, rfl, .refl _⟩, ⟨⟨_, rfl, .refl _⟩, ⟨⟨_, rfl, .refl _⟩, ⟨⟨_, rfl, .frz _ _ _ (.head _)⟩, trivial⟩⟩⟩⟩⟩ ⟨⟨_, rfl, .refl _⟩, ⟨⟨_, rfl, .refl _⟩, trivial⟩⟩ (by decide) (by decide)) ?_
 obtain ⟨y1, hy1, h⟩ := bnd h
 refine g_op rfl (o_callP (q := 0) (core_value rfl rfl) (m_spec_l1Rd_one_ok a0 [0, 1, 2, 2, 3, 3, 4, 5] b0_0 _ hy1) (.cons (.ptr _ _ _ _) (.cons (.refl _) (.nil))) rfl rfl ?_)
 refine gs 1 ?_
 refine gk hK2 89 [0, 1, 4, 5] [0, 14] ?_
 refine good_seq fun K3 hK3 => ?_
 obtain ⟨o1, ho1, hJ1⟩ := bnd h
 have hw1 : ∀ (s1 : ((List Int) × Int × Int)), o1 = Lp.go s1 → ∀ σ', Le σ' ⟨89, [(0, .ptr 0 b0_0 0), (1, .int .i64 a1), (4, .ptr 14 b1 0), (5, .int .i64 s1.2.2)], [(0, ((.pointer (some ⟨b0_0, 0, none⟩)), .optr 104 [.sl false (s1.1.map (encI .u8)), .int .i64 s1.2.1])), (14, ((.pointer (some ⟨b1, 0, none⟩)), .optr 30 [.int .i64 0, .int .i64 0, .str ([] : Bs), .nil, .nil]))]⟩ → K3 σ' := by
  intro s1 e1 σ' hle1
  subst e1
  refine hK3 _ (Good.le hle1 ?_)
  replace h := hJ1
  refine good_seq fun K4 hK4 => ?_
  refine rg 1 ?_
  refine g_op rfl (ValOk.op (v_build tabOk (cs := [.int .i64 s1.2.2, .int .i64 0, .str ([] : Bs), .nil, .nil]) tzero30 tsok30 rfl rfl rfl ?_))
  refine g_op rfl (o_alloc (k := 16) tabOk tzero30 rfl rfl ?_)
  intro b2
  refine g_op rfl (o_storeP tabOk (cs' := [.int .i64 s1.2.2, .int .i64 0, .str ([] : Bs), .nil, .nil]) rfl rfl tsize30 rfl rfl rfl (Nat.le_of_ble_eq_true rfl) rfl rfl rfl ?_)
  refine gk hK4 89 [0, 1, 4, 5, 6] [0, 14, 16] ?_
  refine good_seq fun K5 hK5 => ?_
  refine good_seq fun K6 hK6 => ?_
  refine rg 1 ?_
  refine gk hK6 89 [0, 1, 4, 6, 23] [0, 14, 16] ?_
  refine good_block ?_
  refine good_seq fun K7 hK7 => ?_
  refine rg 2 ?_
  refine gk hK7 89 [0, 1, 4, 6, 23, 24] [0, 14, 16] ?_
  refine good_cond rfl (fun hc1 => ?_) (fun hc1 => ?_)
  ·replace h := ifT h (dT hc1)
   refine rg 1 ?_
   obtain ⟨y2, hy2, h⟩ := bnd h
   refine g_op rfl (o_callP (q := 0) (core_value rfl rfl) (m_spec_l1Rd_pick_ok (GL1Rd.mk s1.1 s1.2.1) 2 b0_0 _ hy2) (.cons (.ptr _ _ _ _) (.cons (.refl _) (.nil))) rfl rfl ?_)
   refine gs 1 ?_
   refine g_op rfl (o_storeP tabOk (cs' := [.int .i64 s1.2.2, .int .i64 y2.1, .str ([] : Bs), .nil, .nil]) rfl rfl tsize3 rfl rfl rfl (Nat.le_of_ble_eq_true rfl) rfl rfl rfl ?_)
   refine gk hK5 89 [4, 6] [14, 16, 0] ?_
   refine good_seq fun K8 hK8 => ?_
   refine rg 1 ?_
   refine g_op rfl (o_storeP tabOk (cs' := [.int .i64 s1.2.2, .int .i64 y2.1, .str ([] : Bs), .nil, .nil]) rfl rfl tsize30 rfl rfl rfl (Nat.le_of_ble_eq_true rfl) rfl rfl rfl ?_)
   refine gk hK8 89 [4] [14, 0] ?_
   refine Good.le (σ' := ⟨89, [(4, .ptr 14 b1 0)], [(100, (nilV, .osl 30 5 (([] : List Val).map encOVal))), (101, (nilV, .osl 9 1 (([] : List Bs).map encS))), (14, ((.pointer (some ⟨b1, 0, none⟩)), .optr 30 [.int .i64 s1.2.2, .int .i64 y2.1, .str ([] : Bs), .hd 100 nilV, .hd 101 nilV])), (0, ((.pointer (some ⟨b0_0, 0, none⟩)), .optr 104 [.sl false (y2.2.b.map (encI .u8)), .int .i64 y2.2.p]))]⟩) (lw [none, none, some 14, some 0]) ?_
   refine good_ret ?_
   obtain rfl := Option.some.inj h
   exact endQ_ret (h' := [(0, (_, _)), (100, (_, _)), (101, (_, _))]) [some 0, some 100, some 101] (.cell rfl rfl tsize30 tagg30 rfl rfl rfl (.nil)) ⟨⟨_, rfl, .refl _⟩, ⟨⟨_, rfl, .refl _⟩, ⟨⟨_, rfl, .refl _⟩, trivial⟩⟩⟩ (by decide) ⟨nilV, nilV, rfl, rfl⟩
  ·replace h := ifF h (dF hc1)
   refine good_seq fun K9 hK9 => ?_
   refine rg 2 ?_
   refine gk hK9 89 [0, 1, 4, 6, 23, 29] [0, 14, 16] ?_
   refine good_cond rfl (fun hc2 => ?_) (fun hc2 => ?_)
   ·replace h := ifT h (dT hc2)
    refine rg 1 ?_
    refine g_op rfl (o_buildSlice (k := 42) (rows := [0, 1, (-1), 7, 42, 2147483647, (-2147483647)].map (encI .i64)) tabOk telem106 tsize3 rfl rfl rfl rfl (by decide) (by decide) (by rw [tzero3]; rfl) rfl rfl rfl rfl rfl ?_)
    intro w2
    refine g_le (σ1 := ⟨89, [(4, .ptr 14 b1 0), (6, .ptr 16 b2 0), (31, .ptr 0 b0_0 0), (32, .sl false ([0, 1, (-1), 7, 42, 2147483647, (-2147483647)].map (encI .i64)))], [(14, ((.pointer (some ⟨b1, 0, none⟩)), .optr 30 [.int .i64 0, .int .i64 0, .str ([] : Bs), .nil, .nil])), (16, ((.pointer (some ⟨b2, 0, none⟩)), .optr 30 [.int .i64 s1.2.2, .int .i64 0, .str ([] : Bs), .nil, .nil])), (0, ((.pointer (some ⟨b0_0, 0, none⟩)), .optr 104 [.sl false (s1.1.map (encI .u8)), .int .i64 s1.2.1]))]⟩) (le_of [42] [(_, _)] [some 14, some 16, some 0] rfl ⟨⟨_, rfl, .osl (FrzLL.map fun _ _ => encI_frz _)⟩, trivial⟩ ⟨⟨_, rfl, .refl _⟩, ⟨⟨_, rfl, .refl _⟩, ⟨⟨_, rfl, .refl _⟩, ⟨⟨_, rfl, .frz _ _ _ (.head _)⟩, trivial⟩⟩⟩⟩ ⟨⟨_, rfl, .refl _⟩, ⟨⟨_, rfl, .refl _⟩, ⟨⟨_, rfl, .refl _⟩, trivial⟩⟩⟩ (by decide) (by decide)) ?_
    obtain ⟨y3, hy3, h⟩ := bnd h
    refine g_op rfl (o_callP (q := 0) (core_value rfl rfl) (m_spec_l1Rd_one_ok (GL1Rd.mk s1.1 s1.2.1) [0, 1, (-1), 7, 42, 2147483647, (-2147483647)] b0_0 _ hy3) (.cons (.ptr _ _ _ _) (.cons (.refl _) (.nil))) rfl rfl ?_)
    refine gs 1 ?_
    refine g_op rfl (o_storeP tabOk (cs' := [.int .i64 s1.2.2, .int .i64 y3.1, .str ([] : Bs), .nil, .nil]) rfl rfl tsize3 rfl rfl rfl (Nat.le_of_ble_eq_true rfl) rfl rfl rfl ?_)
    refine gk hK5 89 [4, 6] [14, 16, 0] ?_
    refine good_seq fun K10 hK10 => ?_
    refine rg 1 ?_
    refine g_op rfl (o_storeP tabOk (cs' := [.int .i64 s1.2.2, .int .i64 y3.1, .str ([] : Bs), .nil, .nil]) rfl rfl tsize30 rfl rfl rfl (Nat.le_of_ble_eq_true rfl) rfl rfl rfl ?_)
    refine gk hK10 89 [4] [14, 0] ?_
    refine Good.le (σ' := ⟨89, [(4, .ptr 14 b1 0)], [(100, (nilV, .osl 30 5 (([] : List Val).map encOVal))), (101, (nilV, .osl 9 1 (([] : List Bs).map encS))), (14, ((.pointer (some ⟨b1, 0, none⟩)), .optr 30 [.int .i64 s1.2.2, .int .i64 y3.1, .str ([] : Bs), .hd 100 nilV, .hd 101 nilV])), (0, ((.pointer (some ⟨b0_0, 0, none⟩)), .optr 104 [.sl false (y3.2.b.map (encI .u8)), .int .i64 y3.2.p]))]⟩) (lw [none, none, some 14, some 0]) ?_
    refine good_ret ?_
    obtain rfl := Option.some.inj h
    exact endQ_ret (h' := [(0, (_, _)), (100, (_, _)), (101, (_, _))]) [some 0, some 100, some 101] (.cell rfl rfl tsize30 tagg30 rfl rfl rfl (.nil)) ⟨⟨_, rfl, .refl _⟩, ⟨⟨_, rfl, .refl _⟩, ⟨⟨_, rfl, .refl _⟩, trivial⟩⟩⟩ (by decide) ⟨nilV, nilV, rfl, rfl⟩
   ·replace h := ifF h (dF hc2)
    refine good_seq fun K11 hK11 => ?_
    refine rg 2 ?_
    refine gk hK11 89 [0, 1, 4, 6, 23, 35] [0, 14, 16] ?_
    refine good_cond rfl (fun hc3 => ?_) (fun hc3 => ?_)
    ·replace h := ifT h (dT hc3)
     refine rg 1 ?_
     obtain ⟨y4, hy4, h⟩ := bnd h
     refine g_op rfl (o_callP (q := 0) (core_value rfl rfl) (m_spec_l13Text_ok k (GL1Rd.mk s1.1 s1.2.1) b0_0 _ hy4) (.cons (.ptr _ _ _ _) (.nil)) rfl rfl ?_)
     refine gs 1 ?_
     refine g_op rfl (o_storeP tabOk (cs' := [.int .i64 s1.2.2, .int .i64 0, .str y4.1, .nil, .nil]) rfl rfl tsize9 rfl rfl rfl (Nat.le_of_ble_eq_true rfl) rfl rfl rfl ?_)
     refine gk hK5 89 [4, 6] [14, 16, 0] ?_
     refine good_seq fun K12 hK12 => ?_
     refine rg 1 ?_
     refine g_op rfl (o_storeP tabOk (cs' := [.int .i64 s1.2.2, .int .i64 0, .str y4.1, .nil, .nil]) rfl rfl tsize30 rfl rfl rfl (Nat.le_of_ble_eq_true rfl) rfl rfl rfl ?_)
     refine gk hK12 89 [4] [14, 0] ?_
     refine Good.le (σ' := ⟨89, [(4, .ptr 14 b1 0)], [(100, (nilV, .osl 30 5 (([] : List Val).map encOVal))), (101, (nilV, .osl 9 1 (([] : List Bs).map encS))), (14, ((.pointer (some ⟨b1, 0, none⟩)), .optr 30 [.int .i64 s1.2.2, .int .i64 0, .str y4.1, .hd 100 nilV, .hd 101 nilV])), (0, ((.pointer (some ⟨b0_0, 0, none⟩)), .optr 104 [.sl false (y4.2.b.map (encI .u8)), .int .i64 y4.2.p]))]⟩) (lw [none, none, some 14, some 0]) ?_
     refine good_ret ?_
     obtain rfl := Option.some.inj h
     exact endQ_ret (h' := [(0, (_, _)), (100, (_, _)), (101, (_, _))]) [some 0, some 100, some 101] (.cell rfl rfl tsize30 tagg30 rfl rfl rfl (.nil)) ⟨⟨_, rfl, .refl _⟩, ⟨⟨_, rfl, .refl _⟩, ⟨⟨_, rfl, .refl _⟩, trivial⟩⟩⟩ (by decide) ⟨nilV, nilV, rfl, rfl⟩
    ·replace h := ifF h (dF hc3)
     refine good_seq fun K13 hK13 => ?_
     refine rg 2 ?_
     refine gk hK13 89 [0, 1, 4, 6, 23, 40] [0, 14, 16] ?_
     refine good_cond rfl (fun hc4 => ?_) (fun hc4 => ?_)
     ·replace h := ifT h (dT hc4)
      refine good_seq fun K14 hK14 => ?_
      refine rg 1 ?_
      obtain ⟨y5, hy5, h⟩ := bnd h
      refine g_op rfl (o_callP (q := 0) (core_value rfl rfl) (m_spec_l1Rd_pick_ok (GL1Rd.mk s1.1 s1.2.1) 4 b0_0 _ hy5) (.cons (.ptr _ _ _ _) (.cons (.refl _) (.nil))) rfl rfl ?_)
      refine gs 1 ?_
      refine gk hK14 89 [0, 1, 4, 6, 7] [0, 14, 16] ?_
      obtain ⟨o2, ho2, hJ2⟩ := bnd h
      have hw2 : ∀ (s2 : ((List Int) × Int × (List Val))) (w4 : Value), o2 = Lp.go s2 → ∀ σ', Le σ' ⟨89, [(4, .ptr 14 b1 0), (6, .ptr 16 b2 0)], [(0, ((.pointer (some ⟨b0_0, 0, none⟩)), .optr 104 [.sl false (s2.1.map (encI .u8)), .int .i64 s2.2.1])), (14, ((.pointer (some ⟨b1, 0, none⟩)), .optr 30 [.int .i64 0, .int .i64 0, .str ([] : Bs), .nil, .nil])), (16, ((.pointer (some ⟨b2, 0, none⟩)), .optr 30 [.int .i64 s1.2.2, .int .i64 0, .str ([] : Bs), .hd 6304 w4, .nil])), (6304, (w4, .osl 30 5 (s2.2.2.map encOVal)))]⟩ → K5 σ' := by
       intro s2 w4 e2 σ' hle2
       subst e2
       refine hK5 _ (Good.le hle2 ?_)
       replace h := hJ2
       refine good_seq fun K15 hK15 => ?_
       refine rg 1 ?_
       refine g_op rfl (o_storeP tabOk (cs' := [.int .i64 s1.2.2, .int .i64 0, .str ([] : Bs), .hd 6304 w4, .nil]) rfl rfl tsize30 rfl rfl rfl (Nat.le_of_ble_eq_true rfl) rfl rfl rfl ?_)
       refine gk hK15 89 [4] [14, 6304, 0] ?_
       refine Good.le (σ' := ⟨89, [(4, .ptr 14 b1 0)], [(100, (w4, .osl 30 5 (s2.2.2.map encOVal))), (101, (nilV, .osl 9 1 (([] : List Bs).map encS))), (14, ((.pointer (some ⟨b1, 0, none⟩)), .optr 30 [.int .i64 s1.2.2, .int .i64 0, .str ([] : Bs), .hd 100 w4, .hd 101 nilV])), (0, ((.pointer (some ⟨b0_0, 0, none⟩)), .optr 104 [.sl false (s2.1.map (encI .u8)), .int .i64 s2.2.1]))]⟩) (lw [some 6304, none, some 14, some 0]) ?_
       refine good_ret ?_
       obtain rfl := Option.some.inj h
       exact endQ_ret (h' := [(0, (_, _)), (100, (_, _)), (101, (_, _))]) [some 0, some 100, some 101] (.cell rfl rfl tsize30 tagg30 rfl rfl rfl (.nil)) ⟨⟨_, rfl, .refl _⟩, ⟨⟨_, rfl, .refl _⟩, ⟨⟨_, rfl, .refl _⟩, trivial⟩⟩⟩ (by decide) ⟨w4, nilV, rfl, rfl⟩
      replace h := ho2
      refine good_block ?_
      refine good_loopf (fun p : ((List Int) × Int × (List Val) × Int × Value) => ⟨89, [(0, .ptr 0 b0_0 0), (1, .int .i64 a1), (4, .ptr 14 b1 0), (6, .ptr 16 b2 0), (7, .int .i64 p.2.2.2.1)], [(0, ((.pointer (some ⟨b0_0, 0, none⟩)), .optr 104 [.sl false (p.1.map (encI .u8)), .int .i64 p.2.1])), (14, ((.pointer (some ⟨b1, 0, none⟩)), .optr 30 [.int .i64 0, .int .i64 0, .str ([] : Bs), .nil, .nil])), (16, ((.pointer (some ⟨b2, 0, none⟩)), .optr 30 [.int .i64 s1.2.2, .int .i64 0, .str ([] : Bs), .hd 6405 p.2.2.2.2, .nil])), (6405, (p.2.2.2.2, .osl 30 5 (p.2.2.1.map encOVal)))]⟩) (fun m p => m < k + 1 ∧ m_spec_l13Value_l1 m a1 p.1 p.2.1 p.2.2.1 p.2.2.2.1 = some o2) k (y5.2.b, y5.2.p, [], y5.1, nilV) (lw [some 0, some 14, some 16, none]) ⟨by omega, h⟩ ?_
      rintro m1 ⟨x1, x2, x3, x4, w3⟩ ⟨hm, h⟩
      replace h : m_spec_l13Value_l1 m1 a1 x1 x2 x3 x4 = some o2 := h
      refine Good.le (σ' := ⟨89, [(0, .ptr 0 b0_0 0), (1, .int .i64 a1), (4, .ptr 14 b1 0), (6, .ptr 16 b2 0), (7, .int .i64 x4)], [(0, ((.pointer (some ⟨b0_0, 0, none⟩)), .optr 104 [.sl false (x1.map (encI .u8)), .int .i64 x2])), (14, ((.pointer (some ⟨b1, 0, none⟩)), .optr 30 [.int .i64 0, .int .i64 0, .str ([] : Bs), .nil, .nil])), (16, ((.pointer (some ⟨b2, 0, none⟩)), .optr 30 [.int .i64 s1.2.2, .int .i64 0, .str ([] : Bs), .hd 6405 w3, .nil])), (6405, (w3, .osl 30 5 (x3.map encOVal)))]⟩) (Le.refl _) ?_
      obtain ⟨m1, rfl⟩ : ∃ m', m1 = m' + 1 := by cases m1 with | zero => (rw [m_spec_l13Value_l1] at h; cases h) | succ m' => exact ⟨m', rfl⟩
      rw [m_spec_l13Value_l1] at h
      refine good_seq fun K16 hK16 => ?_
      refine good_seq fun K17 hK17 => ?_
      refine rg 2 ?_
      refine gk hK17 89 [0, 1, 4, 6, 7, 45] [0, 14, 16, 6405] ?_
      refine good_cond rfl (fun hc5 => ?_) (fun hc5 => ?_)
      ·replace h := ifT h (dT hc5)
       refine good_skip ?_
       refine hK16 _ (kp 89 [0, 1, 4, 6, 7] [0, 14, 16, 6405] ?_)
       refine good_seq fun K18 hK18 => ?_
       refine good_block ?_
       obtain ⟨y6, hy6, h⟩ := bnd h
       obtain ⟨hb1, h⟩ := ifS h
       refine good_anyM (by kernel_rfl) [⟨[], [6], [], [], [], []⟩, ⟨[0], [48], [16], [], [], []⟩, ⟨[], [0], [], [], [], []⟩, ⟨[], [1], [], [], [], []⟩, ⟨[3], [51], [], [], [], []⟩, ⟨[2, 3, 4], [50, 52], [0], [0], [9005, 3003, 3004], [3003, 3004]⟩, ⟨[2, 3, 4, 5], [53], [3003, 3004], [3003, 3004], [64], [64]⟩, ⟨[0, 1, 2, 3, 4, 5, 6], [49, 54], [6405, 64], [6405, 64], [65], [65]⟩, ⟨[0, 1, 2, 3, 4, 5, 6, 7], [6], [], [], [], []⟩, ⟨[0, 1, 2, 3, 4, 5, 6, 7, 8], [56, 55], [16], [16], [9006], []⟩] [some 48, some 49, some 50, some 51, some 52, some 53, some 54, some 55, some 56, none] 89 [(0, .ptr 0 b0_0 0), (1, .int .i64 a1), (4, .ptr 14 b1 0), (6, .ptr 16 b2 0), (7, .int .i64 x4)] [(0, ((.pointer (some ⟨b0_0, 0, none⟩)), .optr 104 [.sl false (x1.map (encI .u8)), .int .i64 x2])), (14, ((.pointer (some ⟨b1, 0, none⟩)), .optr 30 [.int .i64 0, .int .i64 0, .str ([] : Bs), .nil, .nil])), (16, ((.pointer (some ⟨b2, 0, none⟩)), .optr 30 [.int .i64 s1.2.2, .int .i64 0, .str ([] : Bs), .hd 6405 w3, .nil])), (6405, (w3, .osl 30 5 (x3.map encOVal)))] (fun ν1 => [.ptr 16 b2 3, .hd 6405 w3, .ptr 0 b0_0 0, .int .i64 a1, .int .i64 (IntKind.wrap .i64 (a1 - 1)), .agg [.int .i64 y6.1.kind, .int .i64 y6.1.num, .str y6.1.text, .hd 3003 (ν1 3003), .hd 3004 (ν1 3004)], .hd 64 (ν1 64), .hd 65 (ν1 65), .ptr 16 b2 3, .und]) (fun ν1 => [(9005, ((.pointer (some ⟨b0_0, 0, none⟩)), .optr 104 [.sl false (y6.2.b.map (encI .u8)), .int .i64 y6.2.p])), (3003, ((ν1 3003), .osl 30 5 (y6.1.list.map encOVal))), (3004, ((ν1 3004), .osl 9 1 (y6.1.names.map encS))), (64, ((ν1 64), .osl 30 5 ([y6.1].map encOVal))), (65, ((ν1 65), .osl 30 5 ((x3 ++ [y6.1]).map encOVal))), (9006, ((.pointer (some ⟨b2, 0, none⟩)), .optr 30 [.int .i64 s1.2.2, .int .i64 0, .str ([] : Bs), .hd 65 (ν1 65), .nil]))]) [(9005, []), (3003, [3003]), (3004, [3004]), (64, [64]), (65, [65]), (9006, [65]), (0, []), (14, []), (16, []), (6405, [])] [9005, 3003, 3004, 64, 65, 9006] [some 9005, some 14, some 9006, some 65] (fun ν1 => [(0, .ptr 0 b0_0 0), (1, .int .i64 a1), (4, .ptr 14 b1 0), (6, .ptr 16 b2 0), (7, .int .i64 x4)]) (fun ν1 => [(0, ((.pointer (some ⟨b0_0, 0, none⟩)), .optr 104 [.sl false (y6.2.b.map (encI .u8)), .int .i64 y6.2.p])), (14, ((.pointer (some ⟨b1, 0, none⟩)), .optr 30 [.int .i64 0, .int .i64 0, .str ([] : Bs), .nil, .nil])), (16, ((.pointer (some ⟨b2, 0, none⟩)), .optr 30 [.int .i64 s1.2.2, .int .i64 0, .str ([] : Bs), .hd 65 (ν1 65), .nil])), (65, ((ν1 65), .osl 30 5 ((x3 ++ [y6.1]).map encOVal)))]) (lw [some 0, some 14, some 16, some 6405]) (by kernel_rfl) ⟨?_, ⟨?_, ⟨?_, ⟨?_, ⟨?_, ⟨?_, ⟨?_, ⟨?_, ⟨?_, ⟨?_, trivial⟩⟩⟩⟩⟩⟩⟩⟩⟩⟩ ⟨fun _ _ _ => rfl, ⟨fun _ _ _ => rfl, ⟨fun _ _ _ => rfl, ⟨fun _ _ _ => rfl, ⟨fun _ _ _ => rfl, ⟨fun _ _ h => (cong2 (fun zz0 zz1 => (some (.agg [.int .i64 y6.1.kind, .int .i64 y6.1.num, .str y6.1.text, .hd 3003 zz0, .hd 3004 zz1]) : Option AV)) (h 3003 (by decide)) (h 3004 (by decide))), ⟨fun _ _ h => (congrArg (fun zz0 => (some (.hd 64 zz0) : Option AV)) (h 64 (by decide))), ⟨fun _ _ h => (congrArg (fun zz0 => (some (.hd 65 zz0) : Option AV)) (h 65 (by decide))), ⟨fun _ _ _ => rfl, ⟨fun _ _ _ => rfl, trivial⟩⟩⟩⟩⟩⟩⟩⟩⟩⟩ ⟨fun _ _ _ => rfl, ⟨fun _ _ h => (congrArg (fun zz0 => (some (zz0, .osl 30 5 (y6.1.list.map encOVal)) : Option (Value × AV))) (h 3003 (by decide))), ⟨fun _ _ h => (congrArg (fun zz0 => (some (zz0, .osl 9 1 (y6.1.names.map encS)) : Option (Value × AV))) (h 3004 (by decide))), ⟨fun _ _ h => (congrArg (fun zz0 => (some (zz0, .osl 30 5 ([y6.1].map encOVal)) : Option (Value × AV))) (h 64 (by decide))), ⟨fun _ _ h => (congrArg (fun zz0 => (some (zz0, .osl 30 5 ((x3 ++ [y6.1]).map encOVal)) : Option (Value × AV))) (h 65 (by decide))), ⟨fun _ _ h => (congrArg (fun zz0 => (some ((.pointer (some ⟨b2, 0, none⟩)), .optr 30 [.int .i64 s1.2.2, .int .i64 0, .str ([] : Bs), .hd 65 zz0, .nil]) : Option (Value × AV))) (h 65 (by decide))), ⟨fun _ _ _ => rfl, ⟨fun _ _ _ => rfl, ⟨fun _ _ _ => rfl, ⟨fun _ _ _ => rfl, trivial⟩⟩⟩⟩⟩⟩⟩⟩⟩⟩ (fun _ => rfl) (fun _ => rfl) (by kernel_rfl) (fun _ => ⟨⟨_, rfl, .refl _⟩, ⟨⟨_, rfl, .refl _⟩, ⟨⟨_, rfl, .refl _⟩, ⟨⟨_, rfl, .refl _⟩, ⟨⟨_, rfl, .refl _⟩, trivial⟩⟩⟩⟩⟩) (fun _ => ⟨⟨_, rfl, .refl _⟩, ⟨⟨_, rfl, .refl _⟩, ⟨⟨_, rfl, .refl _⟩, ⟨⟨_, rfl, .refl _⟩, trivial⟩⟩⟩⟩) (by kernel_rfl) (by decide) ?_
       ·refine local_mk (fun ν1 => [(6, .ptr 16 b2 0)]) (fun ν1 => []) (fun _ => rfl) (fun _ => ⟨⟨_, rfl, .refl _, .refl _⟩, trivial⟩) (fun _ => rfl) (fun _ => trivial) ?_
        intro ν1 S H hS hfr
        refine st_op rfl (ValOk.op (v_fieldP tabOk rfl tfoff30_3 rfl ?_))
        exact lp_v hS rfl rfl (fun _ => rfl)
       ·refine local_mk (fun ν1 => [(48, .ptr 16 b2 3)]) (fun ν1 => [(16, ((.pointer (some ⟨b2, 0, none⟩)), .optr 30 [.int .i64 s1.2.2, .int .i64 0, .str ([] : Bs), .hd 6405 w3, .nil]))]) (fun _ => rfl) (fun _ => ⟨⟨_, rfl, .refl _, .refl _⟩, trivial⟩) (fun _ => rfl) (fun _ => ⟨rfl, trivial⟩) ?_
        intro ν1 S H hS hfr
        refine st_op rfl (ValOk.op (v_loadP tabOk rfl rfl tsize28 tagg28 rfl rfl rfl rfl ?_))
        exact lp_v hS rfl rfl (fun _ => rfl)
       ·refine local_mk (fun ν1 => [(0, .ptr 0 b0_0 0)]) (fun ν1 => []) (fun _ => rfl) (fun _ => ⟨⟨_, rfl, .refl _, .refl _⟩, trivial⟩) (fun _ => rfl) (fun _ => trivial) ?_
        intro ν1 S H hS hfr
        refine st_op rfl (ValOk.op (v_move rfl rfl ?_))
        exact lp_v hS rfl rfl (fun _ => rfl)
       ·refine local_mk (fun ν1 => [(1, .int .i64 a1)]) (fun ν1 => []) (fun _ => rfl) (fun _ => ⟨⟨_, rfl, .refl _, .refl _⟩, trivial⟩) (fun _ => rfl) (fun _ => trivial) ?_
        intro ν1 S H hS hfr
        refine st_op rfl (ValOk.op (v_move rfl rfl ?_))
        exact lp_v hS rfl rfl (fun _ => rfl)
       ·refine local_mk (fun ν1 => [(51, .int .i64 a1)]) (fun ν1 => []) (fun _ => rfl) (fun _ => ⟨⟨_, rfl, .refl _, .refl _⟩, trivial⟩) (fun _ => rfl) (fun _ => trivial) ?_
        intro ν1 S H hS hfr
        refine st_op rfl (ValOk.op (v_bin rfl rfl rfl rfl ?_))
        exact lp_v hS rfl rfl (fun _ => rfl)
       ·refine local_mk (fun ν1 => [(50, .ptr 0 b0_0 0), (52, .int .i64 (IntKind.wrap .i64 (a1 - 1)))]) (fun ν1 => [(0, ((.pointer (some ⟨b0_0, 0, none⟩)), .optr 104 [.sl false (x1.map (encI .u8)), .int .i64 x2]))]) (fun _ => rfl) (fun _ => ⟨⟨_, rfl, .refl _, .refl _⟩, ⟨⟨_, rfl, .refl _, .refl _⟩, trivial⟩⟩) (fun _ => rfl) (fun _ => ⟨rfl, trivial⟩) ?_
        intro ν1 S H hS hfr
        refine st_op rfl (o_callDa [] [] [0] (core_value rfl rfl) ((ih m1 (by omega)) (GL1Rd.mk x1 x2) (IntKind.wrap .i64 (a1 - 1)) b0_0 _ hy6) trivial (.cons (.ptr _ _ _ _) (.cons (.refl _) (.nil))) ⟨rfl, trivial⟩ rfl rfl rfl ?_)
        rintro _ _ ⟨w5, w6, rfl, rfl⟩
        refine ⟨.agg [.int .i64 y6.1.kind, .int .i64 y6.1.num, .str y6.1.text, .hd 3003 w5, .hd 3004 w6], [(9005, _), (3003, _), (3004, _)], .agg (.cons (.refl _) (.cons (.refl _) (.cons (.refl _) (.cons (.hd _ _ _) (.cons (.hd _ _ _) (.nil)))))), rfl, rfl, rfl, (fun x hx => has_minus (hfr x hx)), .inl rfl, ?_⟩
        exact lp_mm (hN := [(9005, _), (3003, _), (3004, _)]) hS rfl rfl (fun _ => rfl) ⟨rfl, ⟨rfl, ⟨rfl, trivial⟩⟩⟩
       ·refine local_mk (fun ν1 => [(53, .agg [.int .i64 y6.1.kind, .int .i64 y6.1.num, .str y6.1.text, .hd 3003 (ν1 3003), .hd 3004 (ν1 3004)])]) (fun ν1 => [(3003, ((ν1 3003), .osl 30 5 (y6.1.list.map encOVal))), (3004, ((ν1 3004), .osl 9 1 (y6.1.names.map encS)))]) (fun _ => rfl) (fun _ => ⟨⟨_, rfl, .refl _, .refl _⟩, trivial⟩) (fun _ => rfl) (fun _ => ⟨rfl, ⟨rfl, trivial⟩⟩) ?_
        intro ν1 S H hS hfr
        refine st_op rfl (OpOk.le (o_buildSlice (k := 64) (rows := [[.int .i64 y6.1.kind, .int .i64 y6.1.num, .str y6.1.text, .hd 3003 (ν1 3003), .hd 3004 (ν1 3004)]]) tabOk telem28 tsize30 rfl rfl rfl rfl (by decide) (by decide) (by rw [tzero30]; rfl) rfl rfl rfl (hfr _ (by decide)) rfl ?_))
        intro w
        refine ⟨_, (Le.trans (Le.trans (Le.trans (le_absorb1 (k := 64) (k2 := 3003) 0 3 _ rfl (by decide) rfl rfl rfl) (le_absorb1 (k := 64) (k2 := 3004) (rows' := [y6.1].map encOVal) 0 4 _ rfl (by decide) rfl rfl (cons_eq (encOVal_eq _) rfl))) (le_mm (rs := [3003, 3004]) rfl)) (le_mm0 (rs := [3003, 3004]) rfl)), ?_⟩
        exact lp_m (k := 64) hS rfl rfl (.inl rfl) (fun _ => rfl) rfl
       ·refine local_mk (fun ν1 => [(49, .hd 6405 w3), (54, .hd 64 (ν1 64))]) (fun ν1 => [(6405, (w3, .osl 30 5 (x3.map encOVal))), (64, ((ν1 64), .osl 30 5 ([y6.1].map encOVal)))]) (fun _ => rfl) (fun _ => ⟨⟨_, rfl, .refl _, .refl _⟩, ⟨⟨_, rfl, .refl _, .refl _⟩, trivial⟩⟩) (fun _ => rfl) (fun _ => ⟨rfl, ⟨rfl, trivial⟩⟩) ?_
        intro ν1 S H hS hfr
        refine st_op rfl (o_appendHM (q := 6405) (r := 64) (k := 65) (f := encOVal) tabOk ⟨_, rfl⟩ rfl ⟨_, rfl⟩ rfl rfl telem28 tsize30 tbytes30 tzero30 rfl (by decide) (by decide) encOVal_ok rfl (has_minus (hfr _ (by decide))) rfl hb1 ?_)
        intro w
        exact lp_m (k := 65) hS rfl rfl (.inl rfl) (fun _ => rfl) rfl
       ·refine local_mk (fun ν1 => [(6, .ptr 16 b2 0)]) (fun ν1 => []) (fun _ => rfl) (fun _ => ⟨⟨_, rfl, .refl _, .refl _⟩, trivial⟩) (fun _ => rfl) (fun _ => trivial) ?_
        intro ν1 S H hS hfr
        refine st_op rfl (ValOk.op (v_fieldP tabOk rfl tfoff30_3 rfl ?_))
        exact lp_v hS rfl rfl (fun _ => rfl)
       ·refine local_mk (fun ν1 => [(56, .ptr 16 b2 3), (55, .hd 65 (ν1 65))]) (fun ν1 => [(16, ((.pointer (some ⟨b2, 0, none⟩)), .optr 30 [.int .i64 s1.2.2, .int .i64 0, .str ([] : Bs), .hd 6405 w3, .nil]))]) (fun _ => rfl) (fun _ => ⟨⟨_, rfl, .refl _, .refl _⟩, ⟨⟨_, rfl, .refl _, .refl _⟩, trivial⟩⟩) (fun _ => rfl) (fun _ => ⟨rfl, trivial⟩) ?_
        intro ν1 S H hS hfr
        refine st_op rfl (o_storeP tabOk (cs' := [.int .i64 s1.2.2, .int .i64 0, .str ([] : Bs), .hd 65 (ν1 65), .nil]) rfl rfl tsize28 rfl rfl rfl (Nat.le_of_ble_eq_true rfl) rfl rfl rfl ?_)
        exact lp_m (k := 9006) hS rfl rfl (.inr (by decide)) (fun _ => rfl) rfl
       intro ν1
       refine hK18 _ ?_
       refine rg 3 ?_
       refine g_nil ?_
       exact round_mk m1 (y6.2.b, y6.2.p, x3 ++ [y6.1], IntKind.wrap .i64 (x4 - 1), (ν1 65)) (Nat.lt_succ_self _) ⟨by omega, h⟩ (lw [some 0, some 14, some 16, some 65])
      ·replace h := ifF h (dF hc5)
       refine good_exit ?_
       exact hw2 (x1, x2, x3) w3 (Option.some.inj h).symm _ (lw [some 0, some 14, some 16, some 6405])
     ·replace h := ifF h (dF hc4)
      refine good_seq fun K19 hK19 => ?_
      refine rg 2 ?_
      refine gk hK19 89 [0, 1, 4, 6, 57] [0, 14, 16] ?_
      refine good_cond rfl (fun hc6 => ?_) (fun hc6 => ?_)
      ·replace h := ifT h (dT hc6)
       refine good_seq fun K20 hK20 => ?_
       refine rg 1 ?_
       obtain ⟨y7, hy7, h⟩ := bnd h
       refine g_op rfl (o_callP (q := 0) (core_value rfl rfl) (m_spec_l1Rd_pick_ok (GL1Rd.mk s1.1 s1.2.1) 4 b0_0 _ hy7) (.cons (.ptr _ _ _ _) (.cons (.refl _) (.nil))) rfl rfl ?_)
       refine gs 1 ?_
       refine gk hK20 89 [0, 1, 4, 6, 8] [0, 14, 16] ?_
       obtain ⟨o3, ho3, hJ3⟩ := bnd h
       have hw3 : ∀ (s3 : ((List Int) × Int × (List Val) × (List Bs))) (w9 : Value) (w10 : Value), o3 = Lp.go s3 → ∀ σ', Le σ' ⟨89, [(4, .ptr 14 b1 0), (6, .ptr 16 b2 0)], [(0, ((.pointer (some ⟨b0_0, 0, none⟩)), .optr 104 [.sl false (s3.1.map (encI .u8)), .int .i64 s3.2.1])), (14, ((.pointer (some ⟨b1, 0, none⟩)), .optr 30 [.int .i64 0, .int .i64 0, .str ([] : Bs), .nil, .nil])), (16, ((.pointer (some ⟨b2, 0, none⟩)), .optr 30 [.int .i64 s1.2.2, .int .i64 0, .str ([] : Bs), .hd 6810 w9, .hd 6812 w10])), (6810, (w9, .osl 30 5 (s3.2.2.1.map encOVal))), (6812, (w10, .osl 9 1 (s3.2.2.2.map encS)))]⟩ → K5 σ' := by
        intro s3 w9 w10 e3 σ' hle3
        subst e3
        refine hK5 _ (Good.le hle3 ?_)
        replace h := hJ3
        refine good_seq fun K21 hK21 => ?_
        refine rg 1 ?_
        refine g_op rfl (o_storeP tabOk (cs' := [.int .i64 s1.2.2, .int .i64 0, .str ([] : Bs), .hd 6810 w9, .hd 6812 w10]) rfl rfl tsize30 rfl rfl rfl (Nat.le_of_ble_eq_true rfl) rfl rfl rfl ?_)
        refine gk hK21 89 [4] [14, 6810, 6812, 0] ?_
        refine Good.le (σ' := ⟨89, [(4, .ptr 14 b1 0)], [(100, (w9, .osl 30 5 (s3.2.2.1.map encOVal))), (101, (w10, .osl 9 1 (s3.2.2.2.map encS))), (14, ((.pointer (some ⟨b1, 0, none⟩)), .optr 30 [.int .i64 s1.2.2, .int .i64 0, .str ([] : Bs), .hd 100 w9, .hd 101 w10])), (0, ((.pointer (some ⟨b0_0, 0, none⟩)), .optr 104 [.sl false (s3.1.map (encI .u8)), .int .i64 s3.2.1]))]⟩) (lw [some 6810, some 6812, some 14, some 0]) ?_
        refine good_ret ?_
        obtain rfl := Option.some.inj h
        exact endQ_ret (h' := [(0, (_, _)), (100, (_, _)), (101, (_, _))]) [some 0, some 100, some 101] (.cell rfl rfl tsize30 tagg30 rfl rfl rfl (.nil)) ⟨⟨_, rfl, .refl _⟩, ⟨⟨_, rfl, .refl _⟩, ⟨⟨_, rfl, .refl _⟩, trivial⟩⟩⟩ (by decide) ⟨w9, w10, rfl, rfl⟩
       replace h := ho3
       refine good_block ?_
       refine good_loopf (fun p : ((List Int) × Int × (List Val) × (List Bs) × Int × Value × Value) => ⟨89, [(0, .ptr 0 b0_0 0), (1, .int .i64 a1), (4, .ptr 14 b1 0), (6, .ptr 16 b2 0), (8, .int .i64 p.2.2.2.2.1)], [(0, ((.pointer (some ⟨b0_0, 0, none⟩)), .optr 104 [.sl false (p.1.map (encI .u8)), .int .i64 p.2.1])), (14, ((.pointer (some ⟨b1, 0, none⟩)), .optr 30 [.int .i64 0, .int .i64 0, .str ([] : Bs), .nil, .nil])), (16, ((.pointer (some ⟨b2, 0, none⟩)), .optr 30 [.int .i64 s1.2.2, .int .i64 0, .str ([] : Bs), .hd 6812 p.2.2.2.2.2.1, .hd 6814 p.2.2.2.2.2.2])), (6812, (p.2.2.2.2.2.1, .osl 30 5 (p.2.2.1.map encOVal))), (6814, (p.2.2.2.2.2.2, .osl 9 1 (p.2.2.2.1.map encS)))]⟩) (fun m p => m < k + 1 ∧ m_spec_l13Value_l2 m a1 p.1 p.2.1 p.2.2.1 p.2.2.2.1 p.2.2.2.2.1 = some o3) k (y7.2.b, y7.2.p, [], [], y7.1, nilV, nilV) (lw [some 0, some 14, some 16, none, none]) ⟨by omega, h⟩ ?_
       rintro m2 ⟨x5, x6, x7, x8, x9, w7, w8⟩ ⟨hm, h⟩
       replace h : m_spec_l13Value_l2 m2 a1 x5 x6 x7 x8 x9 = some o3 := h
       refine Good.le (σ' := ⟨89, [(0, .ptr 0 b0_0 0), (1, .int .i64 a1), (4, .ptr 14 b1 0), (6, .ptr 16 b2 0), (8, .int .i64 x9)], [(0, ((.pointer (some ⟨b0_0, 0, none⟩)), .optr 104 [.sl false (x5.map (encI .u8)), .int .i64 x6])), (14, ((.pointer (some ⟨b1, 0, none⟩)), .optr 30 [.int .i64 0, .int .i64 0, .str ([] : Bs), .nil, .nil])), (16, ((.pointer (some ⟨b2, 0, none⟩)), .optr 30 [.int .i64 s1.2.2, .int .i64 0, .str ([] : Bs), .hd 6812 w7, .hd 6814 w8])), (6812, (w7, .osl 30 5 (x7.map encOVal))), (6814, (w8, .osl 9 1 (x8.map encS)))]⟩) (Le.refl _) ?_
       obtain ⟨m2, rfl⟩ : ∃ m', m2 = m' + 1 := by cases m2 with | zero => (rw [m_spec_l13Value_l2] at h; cases h) | succ m' => exact ⟨m', rfl⟩
       rw [m_spec_l13Value_l2] at h
       refine good_seq fun K22 hK22 => ?_
       refine good_seq fun K23 hK23 => ?_
       refine rg 2 ?_
       refine gk hK23 89 [0, 1, 4, 6, 8, 62] [0, 14, 16, 6812, 6814] ?_
       refine good_cond rfl (fun hc7 => ?_) (fun hc7 => ?_)
       ·replace h := ifT h (dT hc7)
        refine good_skip ?_
        refine hK22 _ (kp 89 [0, 1, 4, 6, 8] [0, 14, 16, 6812, 6814] ?_)
        refine good_seq fun K24 hK24 => ?_
        refine good_block ?_
        refine good_seq fun K25 hK25 => ?_
        refine rg 1 ?_
        refine g_op rfl (o_buildSlice (k := 76) (rows := [[97], [98], [99], [114, 101, 102], [120, 49]].map encS) tabOk telem23 tsize9 rfl rfl rfl rfl (by decide) (by decide) (by rw [tzero9]; rfl) rfl rfl rfl rfl rfl ?_)
        intro w11
        refine g_le (σ1 := ⟨89, [(0, .ptr 0 b0_0 0), (1, .int .i64 a1), (4, .ptr 14 b1 0), (6, .ptr 16 b2 0), (8, .int .i64 x9), (65, .ptr 0 b0_0 0), (66, .sl false ([[97], [98], [99], [114, 101, 102], [120, 49]].map encS))], [(0, ((.pointer (some ⟨b0_0, 0, none⟩)), .optr 104 [.sl false (x5.map (encI .u8)), .int .i64 x6])), (14, ((.pointer (some ⟨b1, 0, none⟩)), .optr 30 [.int .i64 0, .int .i64 0, .str ([] : Bs), .nil, .nil])), (16, ((.pointer (some ⟨b2, 0, none⟩)), .optr 30 [.int .i64 s1.2.2, .int .i64 0, .str ([] : Bs), .hd 6812 w7, .hd 6814 w8])), (6812, (w7, .osl 30 5 (x7.map encOVal))), (6814, (w8, .osl 9 1 (x8.map encS)))]⟩) (le_of [76] [(_, _)] [some 0, some 14, some 16, some 6812, some 6814] rfl ⟨⟨_, rfl, .osl (FrzLL.map fun _ _ => encS_frz _)⟩, trivial⟩ ⟨⟨_, rfl, .refl _⟩, ⟨⟨_, rfl, .refl _⟩, ⟨⟨_, rfl, .refl _⟩, ⟨⟨_, rfl, .refl _⟩, ⟨⟨_, rfl, .refl _⟩, ⟨⟨_, rfl, .refl _⟩, ⟨⟨_, rfl, .frz _ _ _ (.head _)⟩, trivial⟩⟩⟩⟩⟩⟩⟩ ⟨⟨_, rfl, .refl _⟩, ⟨⟨_, rfl, .refl _⟩, ⟨⟨_, rfl, .refl _⟩, ⟨⟨_, rfl, .refl _⟩, ⟨⟨_, rfl, .refl _⟩, trivial⟩⟩⟩⟩⟩ (by decide) (by decide)) ?_
        obtain ⟨y8, hy8, h⟩ := bnd h
        refine g_op rfl (o_callP (q := 0) (core_value rfl rfl) (m_spec_l1Rd_of_ok (GL1Rd.mk x5 x6) [[97], [98], [99], [114, 101, 102], [120, 49]] b0_0 _ hy8) (.cons (.ptr _ _ _ _) (.cons (.refl _) (.nil))) rfl rfl ?_)
        refine gs 1 ?_
        refine gk hK25 89 [0, 1, 4, 6, 8, 9] [0, 14, 16, 6812, 6814] ?_
        refine good_seq fun K26 hK26 => ?_
        refine rg 3 ?_
        obtain ⟨y9, hy9, h⟩ := bnd h
        refine g_op rfl (o_callR [6814] [(_, _)] (core_value rfl rfl) (m_spec_l2Has_ok m2 x8 y8.1 _ hy9) ⟨⟨_, rfl, .osl (FrzLL.map fun _ _ => encS_frz _)⟩, trivial⟩ (.cons (.frz _ _ _ (.head _)) (.cons (.refl _) (.nil))) (.inr (.bool _)) rfl ?_)
        refine gs 1 ?_
        refine gk hK26 89 [0, 1, 4, 6, 8, 9, 72] [0, 14, 16, 6812, 6814] ?_
        refine good_cond rfl (fun hc8 => ?_) (fun hc8 => ?_)
        ·replace h := bF h (nT hc8)
         refine good_seq fun K27 hK27 => ?_
         refine rg 3 ?_
         refine g_op rfl (o_buildSlice (k := 86) (rows := [y8.1].map encS) tabOk telem23 tsize9 rfl rfl rfl rfl (by decide) (by decide) (by rw [tzero9]; rfl) rfl rfl rfl rfl rfl ?_)
         intro w12
         obtain ⟨hb2, h⟩ := ifS h
         refine g_op rfl (o_appendHM (q := 6814) (r := 86) (k := 87) (f := encS) tabOk ⟨_, rfl⟩ rfl ⟨_, rfl⟩ rfl rfl telem23 tsize9 tbytes9 tzero9 rfl (by decide) (by decide) encS_ok rfl rfl rfl hb2 ?_)
         intro w13
         refine gs 1 ?_
         refine g_op rfl (o_storeP tabOk (cs' := [.int .i64 s1.2.2, .int .i64 0, .str ([] : Bs), .hd 6812 w7, .hd 87 w13]) rfl rfl tsize23 rfl rfl rfl (Nat.le_of_ble_eq_true rfl) rfl rfl rfl ?_)
         refine gk hK27 89 [0, 1, 4, 6, 8] [0, 14, 16, 6812, 87] ?_
         obtain ⟨y10, hy10, h⟩ := bnd h
         obtain ⟨hb3, h⟩ := ifS h
         refine good_anyM (by kernel_rfl) [⟨[], [6], [], [], [], []⟩, ⟨[0], [79], [16], [], [], []⟩, ⟨[], [0], [], [], [], []⟩, ⟨[], [1], [], [], [], []⟩, ⟨[3], [82], [], [], [], []⟩, ⟨[2, 3, 4], [81, 83], [0], [0], [9013, 3011, 3012], [3011, 3012]⟩, ⟨[2, 3, 4, 5], [84], [3011, 3012], [3011, 3012], [95], [95]⟩, ⟨[0, 1, 2, 3, 4, 5, 6], [80, 85], [6812, 95], [6812, 95], [96], [96]⟩, ⟨[0, 1, 2, 3, 4, 5, 6, 7], [6], [], [], [], []⟩, ⟨[0, 1, 2, 3, 4, 5, 6, 7, 8], [87, 86], [16], [16], [9014], []⟩] [some 79, some 80, some 81, some 82, some 83, some 84, some 85, some 86, some 87, none] 89 [(0, .ptr 0 b0_0 0), (1, .int .i64 a1), (4, .ptr 14 b1 0), (6, .ptr 16 b2 0), (8, .int .i64 x9)] [(0, ((.pointer (some ⟨b0_0, 0, none⟩)), .optr 104 [.sl false (y8.2.b.map (encI .u8)), .int .i64 y8.2.p])), (14, ((.pointer (some ⟨b1, 0, none⟩)), .optr 30 [.int .i64 0, .int .i64 0, .str ([] : Bs), .nil, .nil])), (16, ((.pointer (some ⟨b2, 0, none⟩)), .optr 30 [.int .i64 s1.2.2, .int .i64 0, .str ([] : Bs), .hd 6812 w7, .hd 87 w13])), (6812, (w7, .osl 30 5 (x7.map encOVal))), (87, (w13, .osl 9 1 ((x8 ++ [y8.1]).map encS)))] (fun ν2 => [.ptr 16 b2 3, .hd 6812 w7, .ptr 0 b0_0 0, .int .i64 a1, .int .i64 (IntKind.wrap .i64 (a1 - 1)), .agg [.int .i64 y10.1.kind, .int .i64 y10.1.num, .str y10.1.text, .hd 3011 (ν2 3011), .hd 3012 (ν2 3012)], .hd 95 (ν2 95), .hd 96 (ν2 96), .ptr 16 b2 3, .und]) (fun ν2 => [(9013, ((.pointer (some ⟨b0_0, 0, none⟩)), .optr 104 [.sl false (y10.2.b.map (encI .u8)), .int .i64 y10.2.p])), (3011, ((ν2 3011), .osl 30 5 (y10.1.list.map encOVal))), (3012, ((ν2 3012), .osl 9 1 (y10.1.names.map encS))), (95, ((ν2 95), .osl 30 5 ([y10.1].map encOVal))), (96, ((ν2 96), .osl 30 5 ((x7 ++ [y10.1]).map encOVal))), (9014, ((.pointer (some ⟨b2, 0, none⟩)), .optr 30 [.int .i64 s1.2.2, .int .i64 0, .str ([] : Bs), .hd 96 (ν2 96), .hd 87 w13]))]) [(9013, []), (3011, [3011]), (3012, [3012]), (95, [95]), (96, [96]), (9014, [96]), (0, []), (14, []), (16, []), (6812, []), (87, [])] [9013, 3011, 3012, 95, 96, 9014] [some 9013, some 14, some 9014, some 96, some 87] (fun ν2 => [(0, .ptr 0 b0_0 0), (1, .int .i64 a1), (4, .ptr 14 b1 0), (6, .ptr 16 b2 0), (8, .int .i64 x9)]) (fun ν2 => [(0, ((.pointer (some ⟨b0_0, 0, none⟩)), .optr 104 [.sl false (y10.2.b.map (encI .u8)), .int .i64 y10.2.p])), (14, ((.pointer (some ⟨b1, 0, none⟩)), .optr 30 [.int .i64 0, .int .i64 0, .str ([] : Bs), .nil, .nil])), (16, ((.pointer (some ⟨b2, 0, none⟩)), .optr 30 [.int .i64 s1.2.2, .int .i64 0, .str ([] : Bs), .hd 96 (ν2 96), .hd 87 w13])), (96, ((ν2 96), .osl 30 5 ((x7 ++ [y10.1]).map encOVal))), (87, (w13, .osl 9 1 ((x8 ++ [y8.1]).map encS)))]) (lw [some 0, some 14, some 16, some 6812, some 87]) (by kernel_rfl) ⟨?_, ⟨?_, ⟨?_, ⟨?_, ⟨?_, ⟨?_, ⟨?_, ⟨?_, ⟨?_, ⟨?_, trivial⟩⟩⟩⟩⟩⟩⟩⟩⟩⟩ ⟨fun _ _ _ => rfl, ⟨fun _ _ _ => rfl, ⟨fun _ _ _ => rfl, ⟨fun _ _ _ => rfl, ⟨fun _ _ _ => rfl, ⟨fun _ _ h => (cong2 (fun zz0 zz1 => (some (.agg [.int .i64 y10.1.kind, .int .i64 y10.1.num, .str y10.1.text, .hd 3011 zz0, .hd 3012 zz1]) : Option AV)) (h 3011 (by decide)) (h 3012 (by decide))), ⟨fun _ _ h => (congrArg (fun zz0 => (some (.hd 95 zz0) : Option AV)) (h 95 (by decide))), ⟨fun _ _ h => (congrArg (fun zz0 => (some (.hd 96 zz0) : Option AV)) (h 96 (by decide))), ⟨fun _ _ _ => rfl, ⟨fun _ _ _ => rfl, trivial⟩⟩⟩⟩⟩⟩⟩⟩⟩⟩ ⟨fun _ _ _ => rfl, ⟨fun _ _ h => (congrArg (fun zz0 => (some (zz0, .osl 30 5 (y10.1.list.map encOVal)) : Option (Value × AV))) (h 3011 (by decide))), ⟨fun _ _ h => (congrArg (fun zz0 => (some (zz0, .osl 9 1 (y10.1.names.map encS)) : Option (Value × AV))) (h 3012 (by decide))), ⟨fun _ _ h => (congrArg (fun zz0 => (some (zz0, .osl 30 5 ([y10.1].map encOVal)) : Option (Value × AV))) (h 95 (by decide))), ⟨fun _ _ h => (congrArg (fun zz0 => (some (zz0, .osl 30 5 ((x7 ++ [y10.1]).map encOVal)) : Option (Value × AV))) (h 96 (by decide))), ⟨fun _ _ h => (congrArg (fun zz0 => (some ((.pointer (some ⟨b2, 0, none⟩)), .optr 30 [.int .i64 s1.2.2, .int .i64 0, .str ([] : Bs), .hd 96 zz0, .hd 87 w13]) : Option (Value × AV))) (h 96 (by decide))), ⟨fun _ _ _ => rfl, ⟨fun _ _ _ => rfl, ⟨fun _ _ _ => rfl, ⟨fun _ _ _ => rfl, ⟨fun _ _ _ => rfl, trivial⟩⟩⟩⟩⟩⟩⟩⟩⟩⟩⟩ (fun _ => rfl) (fun _ => rfl) (by kernel_rfl) (fun _ => ⟨⟨_, rfl, .refl _⟩, ⟨⟨_, rfl, .refl _⟩, ⟨⟨_, rfl, .refl _⟩, ⟨⟨_, rfl, .refl _⟩, ⟨⟨_, rfl, .refl _⟩, trivial⟩⟩⟩⟩⟩) (fun _ => ⟨⟨_, rfl, .refl _⟩, ⟨⟨_, rfl, .refl _⟩, ⟨⟨_, rfl, .refl _⟩, ⟨⟨_, rfl, .refl _⟩, ⟨⟨_, rfl, .refl _⟩, trivial⟩⟩⟩⟩⟩) (by kernel_rfl) (by decide) ?_
         ·refine local_mk (fun ν2 => [(6, .ptr 16 b2 0)]) (fun ν2 => []) (fun _ => rfl) (fun _ => ⟨⟨_, rfl, .refl _, .refl _⟩, trivial⟩) (fun _ => rfl) (fun _ => trivial) ?_
          intro ν2 S H hS hfr
          refine st_op rfl (ValOk.op (v_fieldP tabOk rfl tfoff30_3 rfl ?_))
          exact lp_v hS rfl rfl (fun _ => rfl)
         ·refine local_mk (fun ν2 => [(79, .ptr 16 b2 3)]) (fun ν2 => [(16, ((.pointer (some ⟨b2, 0, none⟩)), .optr 30 [.int .i64 s1.2.2, .int .i64 0, .str ([] : Bs), .hd 6812 w7, .hd 87 w13]))]) (fun _ => rfl) (fun _ => ⟨⟨_, rfl, .refl _, .refl _⟩, trivial⟩) (fun _ => rfl) (fun _ => ⟨rfl, trivial⟩) ?_
          intro ν2 S H hS hfr
          refine st_op rfl (ValOk.op (v_loadP tabOk rfl rfl tsize28 tagg28 rfl rfl rfl rfl ?_))
          exact lp_v hS rfl rfl (fun _ => rfl)
         ·refine local_mk (fun ν2 => [(0, .ptr 0 b0_0 0)]) (fun ν2 => []) (fun _ => rfl) (fun _ => ⟨⟨_, rfl, .refl _, .refl _⟩, trivial⟩) (fun _ => rfl) (fun _ => trivial) ?_
          intro ν2 S H hS hfr
          refine st_op rfl (ValOk.op (v_move rfl rfl ?_))
          exact lp_v hS rfl rfl (fun _ => rfl)
         ·refine local_mk (fun ν2 => [(1, .int .i64 a1)]) (fun ν2 => []) (fun _ => rfl) (fun _ => ⟨⟨_, rfl, .refl _, .refl _⟩, trivial⟩) (fun _ => rfl) (fun _ => trivial) ?_
          intro ν2 S H hS hfr
          refine st_op rfl (ValOk.op (v_move rfl rfl ?_))
          exact lp_v hS rfl rfl (fun _ => rfl)
         ·refine local_mk (fun ν2 => [(82, .int .i64 a1)]) (fun ν2 => []) (fun _ => rfl) (fun _ => ⟨⟨_, rfl, .refl _, .refl _⟩, trivial⟩) (fun _ => rfl) (fun _ => trivial) ?_
          intro ν2 S H hS hfr
          refine st_op rfl (ValOk.op (v_bin rfl rfl rfl rfl ?_))
          exact lp_v hS rfl rfl (fun _ => rfl)
         ·refine local_mk (fun ν2 => [(81, .ptr 0 b0_0 0), (83, .int .i64 (IntKind.wrap .i64 (a1 - 1)))]) (fun ν2 => [(0, ((.pointer (some ⟨b0_0, 0, none⟩)), .optr 104 [.sl false (y8.2.b.map (encI .u8)), .int .i64 y8.2.p]))]) (fun _ => rfl) (fun _ => ⟨⟨_, rfl, .refl _, .refl _⟩, ⟨⟨_, rfl, .refl _, .refl _⟩, trivial⟩⟩) (fun _ => rfl) (fun _ => ⟨rfl, trivial⟩) ?_
          intro ν2 S H hS hfr
          refine st_op rfl (o_callDa [] [] [0] (core_value rfl rfl) ((ih m2 (by omega)) y8.2 (IntKind.wrap .i64 (a1 - 1)) b0_0 _ hy10) trivial (.cons (.ptr _ _ _ _) (.cons (.refl _) (.nil))) ⟨rfl, trivial⟩ rfl rfl rfl ?_)
          rintro _ _ ⟨w14, w15, rfl, rfl⟩
          refine ⟨.agg [.int .i64 y10.1.kind, .int .i64 y10.1.num, .str y10.1.text, .hd 3011 w14, .hd 3012 w15], [(9013, _), (3011, _), (3012, _)], .agg (.cons (.refl _) (.cons (.refl _) (.cons (.refl _) (.cons (.hd _ _ _) (.cons (.hd _ _ _) (.nil)))))), rfl, rfl, rfl, (fun x hx => has_minus (hfr x hx)), .inl rfl, ?_⟩
          exact lp_mm (hN := [(9013, _), (3011, _), (3012, _)]) hS rfl rfl (fun _ => rfl) ⟨rfl, ⟨rfl, ⟨rfl, trivial⟩⟩⟩
         ·refine local_mk (fun ν2 => [(84, .agg [.int .i64 y10.1.kind, .int .i64 y10.1.num, .str y10.1.text, .hd 3011 (ν2 3011), .hd 3012 (ν2 3012)])]) (fun ν2 => [(3011, ((ν2 3011), .osl 30 5 (y10.1.list.map encOVal))), (3012, ((ν2 3012), .osl 9 1 (y10.1.names.map encS)))]) (fun _ => rfl) (fun _ => ⟨⟨_, rfl, .refl _, .refl _⟩, trivial⟩) (fun _ => rfl) (fun _ => ⟨rfl, ⟨rfl, trivial⟩⟩) ?_
          intro ν2 S H hS hfr
          refine st_op rfl (OpOk.le (o_buildSlice (k := 95) (rows := [[.int .i64 y10.1.kind, .int .i64 y10.1.num, .str y10.1.text, .hd 3011 (ν2 3011), .hd 3012 (ν2 3012)]]) tabOk telem28 tsize30 rfl rfl rfl rfl (by decide) (by decide) (by rw [tzero30]; rfl) rfl rfl rfl (hfr _ (by decide)) rfl ?_))
          intro w
          refine ⟨_, (Le.trans (Le.trans (Le.trans (le_absorb1 (k := 95) (k2 := 3011) 0 3 _ rfl (by decide) rfl rfl rfl) (le_absorb1 (k := 95) (k2 := 3012) (rows' := [y10.1].map encOVal) 0 4 _ rfl (by decide) rfl rfl (cons_eq (encOVal_eq _) rfl))) (le_mm (rs := [3011, 3012]) rfl)) (le_mm0 (rs := [3011, 3012]) rfl)), ?_⟩
          exact lp_m (k := 95) hS rfl rfl (.inl rfl) (fun _ => rfl) rfl
         ·refine local_mk (fun ν2 => [(80, .hd 6812 w7), (85, .hd 95 (ν2 95))]) (fun ν2 => [(6812, (w7, .osl 30 5 (x7.map encOVal))), (95, ((ν2 95), .osl 30 5 ([y10.1].map encOVal)))]) (fun _ => rfl) (fun _ => ⟨⟨_, rfl, .refl _, .refl _⟩, ⟨⟨_, rfl, .refl _, .refl _⟩, trivial⟩⟩) (fun _ => rfl) (fun _ => ⟨rfl, ⟨rfl, trivial⟩⟩) ?_
          intro ν2 S H hS hfr
          refine st_op rfl (o_appendHM (q := 6812) (r := 95) (k := 96) (f := encOVal) tabOk ⟨_, rfl⟩ rfl ⟨_, rfl⟩ rfl rfl telem28 tsize30 tbytes30 tzero30 rfl (by decide) (by decide) encOVal_ok rfl (has_minus (hfr _ (by decide))) rfl hb3 ?_)
          intro w
          exact lp_m (k := 96) hS rfl rfl (.inl rfl) (fun _ => rfl) rfl
         ·refine local_mk (fun ν2 => [(6, .ptr 16 b2 0)]) (fun ν2 => []) (fun _ => rfl) (fun _ => ⟨⟨_, rfl, .refl _, .refl _⟩, trivial⟩) (fun _ => rfl) (fun _ => trivial) ?_
          intro ν2 S H hS hfr
          refine st_op rfl (ValOk.op (v_fieldP tabOk rfl tfoff30_3 rfl ?_))
          exact lp_v hS rfl rfl (fun _ => rfl)
         ·refine local_mk (fun ν2 => [(87, .ptr 16 b2 3), (86, .hd 96 (ν2 96))]) (fun ν2 => [(16, ((.pointer (some ⟨b2, 0, none⟩)), .optr 30 [.int .i64 s1.2.2, .int .i64 0, .str ([] : Bs), .hd 6812 w7, .hd 87 w13]))]) (fun _ => rfl) (fun _ => ⟨⟨_, rfl, .refl _, .refl _⟩, ⟨⟨_, rfl, .refl _, .refl _⟩, trivial⟩⟩) (fun _ => rfl) (fun _ => ⟨rfl, trivial⟩) ?_
          intro ν2 S H hS hfr
          refine st_op rfl (o_storeP tabOk (cs' := [.int .i64 s1.2.2, .int .i64 0, .str ([] : Bs), .hd 96 (ν2 96), .hd 87 w13]) rfl rfl tsize28 rfl rfl rfl (Nat.le_of_ble_eq_true rfl) rfl rfl rfl ?_)
          exact lp_m (k := 9014) hS rfl rfl (.inr (by decide)) (fun _ => rfl) rfl
         intro ν2
         refine hK24 _ ?_
         refine rg 3 ?_
         refine g_nil ?_
         exact round_mk m2 (y10.2.b, y10.2.p, x7 ++ [y10.1], x8 ++ [y8.1], IntKind.wrap .i64 (x9 - 1), (ν2 96), w13) (Nat.lt_succ_self _) ⟨by omega, h⟩ (lw [some 0, some 14, some 16, some 96, some 87])
        ·replace h := ifT h (nF hc8)
         refine good_skip ?_
         refine hK24 _ (kp 89 [0, 1, 4, 6, 8] [0, 14, 16, 6812, 6814] ?_)
         refine rg 3 ?_
         refine g_nil ?_
         exact round_mk m2 (y8.2.b, y8.2.p, x7, x8, IntKind.wrap .i64 (x9 - 1), w7, w8) (Nat.lt_succ_self _) ⟨by omega, h⟩ (lw [some 0, some 14, some 16, some 6812, some 6814])
       ·replace h := ifF h (dF hc7)
        refine good_exit ?_
        exact hw3 (x5, x6, x7, x8) w7 w8 (Option.some.inj h).symm _ (lw [some 0, some 14, some 16, some 6812, some 6814])
      ·replace h := ifF h (dF hc6)
       refine good_skip ?_
       refine hK5 _ (kp 89 [4, 6] [14, 16, 0] ?_)
       refine good_seq fun K28 hK28 => ?_
       refine rg 1 ?_
       refine g_op rfl (o_storeP tabOk (cs' := [.int .i64 s1.2.2, .int .i64 0, .str ([] : Bs), .nil, .nil]) rfl rfl tsize30 rfl rfl rfl (Nat.le_of_ble_eq_true rfl) rfl rfl rfl ?_)
       refine gk hK28 89 [4] [14, 0] ?_
       refine Good.le (σ' := ⟨89, [(4, .ptr 14 b1 0)], [(100, (nilV, .osl 30 5 (([] : List Val).map encOVal))), (101, (nilV, .osl 9 1 (([] : List Bs).map encS))), (14, ((.pointer (some ⟨b1, 0, none⟩)), .optr 30 [.int .i64 s1.2.2, .int .i64 0, .str ([] : Bs), .hd 100 nilV, .hd 101 nilV])), (0, ((.pointer (some ⟨b0_0, 0, none⟩)), .optr 104 [.sl false (s1.1.map (encI .u8)), .int .i64 s1.2.1]))]⟩) (lw [none, none, some 14, some 0]) ?_
       refine good_ret ?_
       obtain rfl := Option.some.inj h
       exact endQ_ret (h' := [(0, (_, _)), (100, (_, _)), (101, (_, _))]) [some 0, some 100, some 101] (.cell rfl rfl tsize30 tagg30 rfl rfl rfl (.nil)) ⟨⟨_, rfl, .refl _⟩, ⟨⟨_, rfl, .refl _⟩, ⟨⟨_, rfl, .refl _⟩, trivial⟩⟩⟩ (by decide) ⟨nilV, nilV, rfl, rfl⟩
 replace h := ho1
 refine good_seq fun K29 hK29 => ?_
 obtain ⟨o4, ho4, hJ4⟩ := bnd h
 have hw4 : ∀ (s4 : Bool), o4 = Lp.go s4 → ∀ σ', Le σ' ⟨89, [(0, .ptr 0 b0_0 0), (1, .int .i64 a1), (4, .ptr 14 b1 0), (5, .int .i64 y1.1), (18, .bool s4)], [(0, ((.pointer (some ⟨b0_0, 0, none⟩)), .optr 104 [.sl false (y1.2.b.map (encI .u8)), .int .i64 y1.2.p])), (14, ((.pointer (some ⟨b1, 0, none⟩)), .optr 30 [.int .i64 0, .int .i64 0, .str ([] : Bs), .nil, .nil]))]⟩ → K29 σ' := by
  intro s4 e4 σ' hle4
  subst e4
  refine hK29 _ (Good.le hle4 ?_)
  replace h := hJ4
  refine good_cond rfl (fun hc9 => ?_) (fun hc9 => ?_)
  ·replace h := ifT h hc9
   refine rg 1 ?_
   obtain ⟨y11, hy11, h⟩ := bnd h
   refine g_op rfl (o_callP (q := 0) (core_value rfl rfl) (m_spec_l1Rd_pick_ok y1.2 4 b0_0 _ hy11) (.cons (.ptr _ _ _ _) (.cons (.refl _) (.nil))) rfl rfl ?_)
   refine gs 1 ?_
   refine g_nil ?_
   exact hw1 (y11.2.b, y11.2.p, y11.1) (Option.some.inj h).symm _ (lw [some 0, some 14])
  ·replace h := bF h hc9
   refine good_skip ?_
   exact hw1 (y1.2.b, y1.2.p, y1.1) (Option.some.inj h).symm _ (lw [some 0, some 14])
 replace h := ho4
 refine rg 3 ?_
 rcases bsplit ((decide (a1 ≤ 1))) with hg1 | hg1
 ·replace h := ifT h (dT hg1)
  refine gs 3 ?_
  refine g_nil ?_
  exact hw4 (decide (3 < y1.1)) (Option.some.inj h).symm _ (lw [some 0, some 14])
 ·replace h := ifF h (dF hg1)
  refine gs 3 ?_
  refine g_nil ?_
  exact hw4 false (Option.some.inj h).symm _ (lw [some 0, some 14])
theorem m_spec_l13Value_all (k : Nat) : P_m_spec_l13Value k := by
 induction k using Nat.strongRecOn with
 | _ k ih => exact m_spec_l13Value_step k ih
theorem m_spec_l13Value_ok (k : Nat) : ∀ (a0 : GL1Rd) (a1 : Int) (b0_0 : Nat) (r : (Val × GL1Rd)), m_spec_l13Value k a0 a1 = some r → Does Try.prog 77 [.ptr 0 b0_0 0, .int .i64 a1] [(0, (.pointer (some ⟨b0_0, 0, none⟩), .optr 104 [.sl false (a0.b.map (encI .u8)), .int .i64 a0.p]))] (fun q h' => ∃ u0 : Value, ∃ u1 : Value, q = .agg [.int .i64 r.1.kind, .int .i64 r.1.num, .str r.1.text, .hd 100 u0, .hd 101 u1] ∧ h' = [(0, (.pointer (some ⟨b0_0, 0, none⟩), .optr 104 [.sl false (r.2.b.map (encI .u8)), .int .i64 r.2.p])), (100, (u0, .osl 30 5 (r.1.list.map encOVal))), (101, (u1, .osl 9 1 (r.1.names.map encS)))]) := (m_spec_l13Value_all k)
def m_spec_l13AnyValue_l1 : Nat → (List Int) → Int → Int → Int → Bs → (List Val) → (List Bs) → Int → Option (Lp ((List Int) × Int × Int × Int × Bs × (List Val) × (List Bs)) (Val × GL1Rd))
 | 0, _, _, _, _, _, _, _, _ => none
 | k + 1, x1, x2, x3, x4, x5, x6, x7, x8 =>
  (m_spec_l1Rd_pick (GL1Rd.mk x1 x2) 2).bind fun y8 =>
  if x8 < (IntKind.wrap .i64 (6 + y8.1)) then
   m_spec_l13AnyValue_l1 k y8.2.b y8.2.p 4 0 ([] : Bs) [(Val.mk x3 x4 x5 x6 x7)] [] (IntKind.wrap .i64 (x8 + 1))
  else
   some (Lp.go (y8.2.b, y8.2.p, x3, x4, x5, x6, x7))
def m_spec_l13AnyValue_l2 : Nat → (List Int) → Int → (List Val) → Option (Lp ((List Int) × Int × (List Val)) (Val × GL1Rd))
 | 0, _, _, _ => none
 | k + 1, x9, x10, x11 =>
  (m_spec_l1Rd_pick (GL1Rd.mk x9 x10) 2).bind fun y10 =>
  if (x11.length : Int) < (IntKind.wrap .i64 (12 + y10.1)) then
   if (x11 ++ [(Val.mk 0 0 ([] : Bs) [] [])]).length * 80 ≤ 140737488355328 then
    m_spec_l13AnyValue_l2 k y10.2.b y10.2.p (x11 ++ [(Val.mk 0 0 ([] : Bs) [] [])])
   else none
  else
   some (Lp.go (y10.2.b, y10.2.p, x11))
def m_spec_l13AnyValue (k : Nat) (a0 : GL1Rd) : Option (Val × GL1Rd) :=
 (m_spec_l1Rd_one a0 [1, 2, 3, 3, 6]).bind fun y1 =>
 (m_spec_l13Value k y1.2 y1.1).bind fun y2 =>
 (m_spec_l1Rd_pick y2.2 16).bind fun y3 =>
 if y3.1 = 0 then
  (m_spec_l1Rd_one y3.2 [(-1), 8, 6, 7, 4, 5]).bind fun y4 =>
  some ((Val.mk y4.1 y2.1.num y2.1.text y2.1.list y2.1.names), y4.2)
 else
  if y3.1 = 1 then
   (m_spec_l1Rd_one y3.2 [2, 2147483648, (-5)]).bind fun y5 =>
   some ((Val.mk y2.1.kind y5.1 y2.1.text y2.1.list y2.1.names), y5.2)
  else
   if y3.1 = 2 then
    (m_spec_l1Rd_pick y3.2 2).bind fun y6 =>
    (m_spec_l1Many k [121] (IntKind.wrap .i64 (40 + y6.1))).bind fun y7 =>
    some ((Val.mk y2.1.kind y2.1.num y7 y2.1.list y2.1.names), y6.2)
   else
    if y3.1 = 3 then
     (m_spec_l13AnyValue_l1 k y3.2.b y3.2.p y2.1.kind y2.1.num y2.1.text y2.1.list y2.1.names 0).bind fun o1 =>
     o1.then fun s1 =>
  some ((Val.mk s1.2.2.1 s1.2.2.2.1 s1.2.2.2.2.1 s1.2.2.2.2.2.1 s1.2.2.2.2.2.2), (GL1Rd.mk s1.1 s1.2.1))
    else
     if y3.1 = 4 then
      (m_spec_l1Rd_of y3.2 [[97], [98], [49]]).bind fun y9 =>
      if (y2.1.names ++ [y9.1]).length * 16 ≤ 140737488355328 then
       some ((Val.mk y2.1.kind y2.1.num y2.1.text y2.1.list (y2.1.names ++ [y9.1])), y9.2)
      else none
     else
      if y3.1 = 5 then
       (m_spec_l13AnyValue_l2 k y3.2.b y3.2.p y2.1.list).bind fun o2 =>
       o2.then fun s2 =>
  some ((Val.mk 4 0 [] s2.2.2 ([] : List Bs)), (GL1Rd.mk s2.1 s2.2.1))
      else
       some (y2.1, y3.2)
theorem m_spec_l13AnyValue_ok (k : Nat) : ∀ (a0 : GL1Rd) (b0_0 : Nat) (r : (Val × GL1Rd)), m_spec_l13AnyValue k a0 = some r → Does Try.prog 68 [.ptr 0 b0_0 0] [(0, (.pointer (some ⟨b0_0, 0, none⟩), .optr 104 [.sl false (a0.b.map (encI .u8)), .int .i64 a0.p]))] (fun q h' => ∃ u0 : Value, ∃ u1 : Value, q = .agg [.int .i64 r.1.kind, .int .i64 r.1.num, .str r.1.text, .hd 100 u0, .hd 101 u1] ∧ h' = [(0, (.pointer (some ⟨b0_0, 0, none⟩), .optr 104 [.sl false (r.2.b.map (encI .u8)), .int .i64 r.2.p])), (100, (u0, .osl 30 5 (r.1.list.map encOVal))), (101, (u1, .osl 9 1 (r.1.names.map encS)))]) := by
 intro a0 b0_0 r h
 rw [m_spec_l13AnyValue] at h
 refine does_of_good tabOk Try.func68 rfl (by decide +kernel) (Nat.le_of_ble_eq_true rfl) fun c => ?_
 refine Good.le (σ' := ⟨73, [(0, .ptr 0 b0_0 0)], [(0, ((.pointer (some ⟨b0_0, 0, none⟩)), .optr 104 [.sl false (a0.b.map (encI .u8)), .int .i64 a0.p]))]⟩) (Le.refl _) ?_
 refine good_seq fun K1 hK1 => ?_
 refine good_region ?_
 refine g_op rfl (o_alloc (k := 12) tabOk tzero30 rfl rfl ?_)
 intro b1
 refine g_nil (hK1 _ ?_)
 refine good_seq fun K2 hK2 => ?_
 refine rg 2 ?_
 refine g_op rfl (o_buildSlice (k := 17) (rows := [1, 2, 3, 3, 6].map (encI .i64)) tabOk telem106 tsize3 rfl rfl rfl rfl (by decide) (by decide) (by rw [tzero3]; rfl) rfl rfl rfl rfl rfl ?_)
 intro w1
 refine g_le (σ1 := ⟨73, [(0, .ptr 0 b0_0 0), (2, .ptr 12 b1 0), (5, .ptr 0 b0_0 0), (6, .ptr 0 b0_0 0), (7, .sl false ([1, 2, 3, 3, 6].map (encI .i64)))], [(0, ((.pointer (some ⟨b0_0, 0, none⟩)), .optr 104 [.sl false (a0.b.map (encI .u8)), .int .i64 a0.p])), (12, ((.pointer (some ⟨b1, 0, none⟩)), .optr 30 [.int .i64 0, .int .i64 0, .str ([] : Bs), .nil, .nil]))]⟩) (le_of [17] [(_, _)] [some 0, some 12] rfl ⟨⟨_, rfl, .osl (FrzLL.map fun _ _ => encI_frz _)⟩, trivial⟩ ⟨⟨_, rfl, .refl _⟩, ⟨⟨_, rfl, .refl _⟩, ⟨⟨_, rfl, .refl _⟩, ⟨⟨_, rfl, .refl _⟩, ⟨⟨_, rfl, .frz _ _ _ (.head _)⟩, trivial⟩⟩⟩⟩⟩ ⟨⟨_, rfl, .refl _⟩, ⟨⟨_, rfl, .refl _⟩, trivial⟩⟩ (by decide) (by decide)) ?_
 obtain ⟨y1, hy1, h⟩ := bnd h
 refine g_op rfl (o_callP (q := 0) (core_value rfl rfl) (m_spec_l1Rd_one_ok a0 [1, 2, 3, 3, 6] b0_0 _ hy1) (.cons (.ptr _ _ _ _) (.cons (.refl _) (.nil))) rfl rfl ?_)
 obtain ⟨y2, hy2, h⟩ := bnd h
 refine g_op rfl (o_callD [] [] [0] (core_value rfl rfl) (m_spec_l13Value_ok k y1.2 y1.1 b0_0 _ hy2) trivial (.cons (.ptr _ _ _ _) (.cons (.refl _) (.nil))) ⟨rfl, trivial⟩ rfl rfl rfl ?_)
 rintro _ _ ⟨w2, w3, rfl, rfl⟩
 refine ⟨.agg [.int .i64 y2.1.kind, .int .i64 y2.1.num, .str y2.1.text, .hd 3001 w2, .hd 3002 w3], [(0, _), (3001, _), (3002, _)], .agg (.cons (.refl _) (.cons (.refl _) (.cons (.refl _) (.cons (.hd _ _ _) (.cons (.hd _ _ _) (.nil)))))), rfl, rfl, rfl, rfl, .inl rfl, ?_⟩
 refine g_op rfl (o_alloc (k := 13) tabOk tzero30 rfl rfl ?_)
 intro b2
 refine g_op rfl (o_storeP tabOk (cs' := [.int .i64 y2.1.kind, .int .i64 y2.1.num, .str y2.1.text, .hd 3001 w2, .hd 3002 w3]) rfl rfl tsize30 rfl rfl rfl (Nat.le_of_ble_eq_true rfl) rfl rfl rfl ?_)
 refine gk hK2 73 [0, 2, 3] [0, 12, 13, 3001, 3002] ?_
 refine good_seq fun K3 hK3 => ?_
 refine good_seq fun K4 hK4 => ?_
 refine rg 1 ?_
 obtain ⟨y3, hy3, h⟩ := bnd h
 refine g_op rfl (o_callP (q := 0) (core_value rfl rfl) (m_spec_l1Rd_pick_ok y2.2 16 b0_0 _ hy3) (.cons (.ptr _ _ _ _) (.cons (.refl _) (.nil))) rfl rfl ?_)
 refine gk hK4 73 [0, 2, 3, 11] [0, 12, 13, 3001, 3002] ?_
 refine good_block ?_
 refine good_seq fun K5 hK5 => ?_
 refine rg 2 ?_
 refine gk hK5 73 [0, 2, 3, 11, 12] [0, 12, 13, 3001, 3002] ?_
 refine good_cond rfl (fun hc1 => ?_) (fun hc1 => ?_)
 ·replace h := ifT h (dT hc1)
  refine rg 1 ?_
  refine g_op rfl (o_buildSlice (k := 25) (rows := [(-1), 8, 6, 7, 4, 5].map (encI .i64)) tabOk telem106 tsize3 rfl rfl rfl rfl (by decide) (by decide) (by rw [tzero3]; rfl) rfl rfl rfl rfl rfl ?_)
  intro w4
  refine g_le (σ1 := ⟨73, [(2, .ptr 12 b1 0), (3, .ptr 13 b2 0), (14, .ptr 0 b0_0 0), (15, .sl false ([(-1), 8, 6, 7, 4, 5].map (encI .i64)))], [(12, ((.pointer (some ⟨b1, 0, none⟩)), .optr 30 [.int .i64 0, .int .i64 0, .str ([] : Bs), .nil, .nil])), (13, ((.pointer (some ⟨b2, 0, none⟩)), .optr 30 [.int .i64 y2.1.kind, .int .i64 y2.1.num, .str y2.1.text, .hd 3001 w2, .hd 3002 w3])), (3001, (w2, .osl 30 5 (y2.1.list.map encOVal))), (3002, (w3, .osl 9 1 (y2.1.names.map encS))), (0, ((.pointer (some ⟨b0_0, 0, none⟩)), .optr 104 [.sl false (y3.2.b.map (encI .u8)), .int .i64 y3.2.p]))]⟩) (le_of [25] [(_, _)] [some 12, some 13, some 3001, some 3002, some 0] rfl ⟨⟨_, rfl, .osl (FrzLL.map fun _ _ => encI_frz _)⟩, trivial⟩ ⟨⟨_, rfl, .refl _⟩, ⟨⟨_, rfl, .refl _⟩, ⟨⟨_, rfl, .refl _⟩, ⟨⟨_, rfl, .frz _ _ _ (.head _)⟩, trivial⟩⟩⟩⟩ ⟨⟨_, rfl, .refl _⟩, ⟨⟨_, rfl, .refl _⟩, ⟨⟨_, rfl, .refl _⟩, ⟨⟨_, rfl, .refl _⟩, ⟨⟨_, rfl, .refl _⟩, trivial⟩⟩⟩⟩⟩ (by decide) (by decide)) ?_
  obtain ⟨y4, hy4, h⟩ := bnd h
  refine g_op rfl (o_callP (q := 0) (core_value rfl rfl) (m_spec_l1Rd_one_ok y3.2 [(-1), 8, 6, 7, 4, 5] b0_0 _ hy4) (.cons (.ptr _ _ _ _) (.cons (.refl _) (.nil))) rfl rfl ?_)
  refine gs 1 ?_
  refine g_op rfl (o_storeP tabOk (cs' := [.int .i64 y4.1, .int .i64 y2.1.num, .str y2.1.text, .hd 3001 w2, .hd 3002 w3]) rfl rfl tsize3 rfl rfl rfl (Nat.le_of_ble_eq_true rfl) rfl rfl rfl ?_)
  refine gk hK3 73 [2, 3] [12, 13, 3001, 3002, 0] ?_
  refine good_seq fun K6 hK6 => ?_
  refine rg 1 ?_
  refine g_op rfl (o_storeP tabOk (cs' := [.int .i64 y4.1, .int .i64 y2.1.num, .str y2.1.text, .hd 3001 w2, .hd 3002 w3]) rfl rfl tsize30 rfl rfl rfl (Nat.le_of_ble_eq_true rfl) rfl rfl rfl ?_)
  refine gk hK6 73 [2] [12, 3001, 3002, 0] ?_
  refine Good.le (σ' := ⟨73, [(2, .ptr 12 b1 0)], [(100, (w2, .osl 30 5 (y2.1.list.map encOVal))), (101, (w3, .osl 9 1 (y2.1.names.map encS))), (12, ((.pointer (some ⟨b1, 0, none⟩)), .optr 30 [.int .i64 y4.1, .int .i64 y2.1.num, .str y2.1.text, .hd 100 w2, .hd 101 w3])), (0, ((.pointer (some ⟨b0_0, 0, none⟩)), .optr 104 [.sl false (y4.2.b.map (encI .u8)), .int .i64 y4.2.p]))]⟩) (lw [some 3001, some 3002, some 12, some 0]) ?_
  refine good_ret ?_
  obtain rfl := Option.some.inj h
  exact endQ_ret (h' := [(0, (_, _)), (100, (_, _)), (101, (_, _))]) [some 0, some 100, some 101] (.cell rfl rfl tsize30 tagg30 rfl rfl rfl (.nil)) ⟨⟨_, rfl, .refl _⟩, ⟨⟨_, rfl, .refl _⟩, ⟨⟨_, rfl, .refl _⟩, trivial⟩⟩⟩ (by decide) ⟨w2, w3, rfl, rfl⟩
 ·replace h := ifF h (dF hc1)
  refine good_seq fun K7 hK7 => ?_
  refine rg 2 ?_
  refine gk hK7 73 [0, 2, 3, 11, 18] [0, 12, 13, 3001, 3002] ?_
  refine good_cond rfl (fun hc2 => ?_) (fun hc2 => ?_)
  ·replace h := ifT h (dT hc2)
   refine rg 1 ?_
   refine g_op rfl (o_buildSlice (k := 31) (rows := [2, 2147483648, (-5)].map (encI .i64)) tabOk telem106 tsize3 rfl rfl rfl rfl (by decide) (by decide) (by rw [tzero3]; rfl) rfl rfl rfl rfl rfl ?_)
   intro w5
   refine g_le (σ1 := ⟨73, [(2, .ptr 12 b1 0), (3, .ptr 13 b2 0), (20, .ptr 0 b0_0 0), (21, .sl false ([2, 2147483648, (-5)].map (encI .i64)))], [(12, ((.pointer (some ⟨b1, 0, none⟩)), .optr 30 [.int .i64 0, .int .i64 0, .str ([] : Bs), .nil, .nil])), (13, ((.pointer (some ⟨b2, 0, none⟩)), .optr 30 [.int .i64 y2.1.kind, .int .i64 y2.1.num, .str y2.1.text, .hd 3001 w2, .hd 3002 w3])), (3001, (w2, .osl 30 5 (y2.1.list.map encOVal))), (3002, (w3, .osl 9 1 (y2.1.names.map encS))), (0, ((.pointer (some ⟨b0_0, 0, none⟩)), .optr 104 [.sl false (y3.2.b.map (encI .u8)), .int .i64 y3.2.p]))]⟩) (le_of [31] [(_, _)] [some 12, some 13, some 3001, some 3002, some 0] rfl ⟨⟨_, rfl, .osl (FrzLL.map fun _ _ => encI_frz _)⟩, trivial⟩ ⟨⟨_, rfl, .refl _⟩, ⟨⟨_, rfl, .refl _⟩, ⟨⟨_, rfl, .refl _⟩, ⟨⟨_, rfl, .frz _ _ _ (.head _)⟩, trivial⟩⟩⟩⟩ ⟨⟨_, rfl, .refl _⟩, ⟨⟨_, rfl, .refl _⟩, ⟨⟨_, rfl, .refl _⟩, ⟨⟨_, rfl, .refl _⟩, ⟨⟨_, rfl, .refl _⟩, trivial⟩⟩⟩⟩⟩ (by decide) (by decide)) ?_
   obtain ⟨y5, hy5, h⟩ := bnd h
   refine g_op rfl (o_callP (q := 0) (core_value rfl rfl) (m_spec_l1Rd_one_ok y3.2 [2, 2147483648, (-5)] b0_0 _ hy5) (.cons (.ptr _ _ _ _) (.cons (.refl _) (.nil))) rfl rfl ?_)
   refine gs 1 ?_
   refine g_op rfl (o_storeP tabOk (cs' := [.int .i64 y2.1.kind, .int .i64 y5.1, .str y2.1.text, .hd 3001 w2, .hd 3002 w3]) rfl rfl tsize3 rfl rfl rfl (Nat.le_of_ble_eq_true rfl) rfl rfl rfl ?_)
   refine gk hK3 73 [2, 3] [12, 13, 3001, 3002, 0] ?_
   refine good_seq fun K8 hK8 => ?_
   refine rg 1 ?_
   refine g_op rfl (o_storeP tabOk (cs' := [.int .i64 y2.1.kind, .int .i64 y5.1, .str y2.1.text, .hd 3001 w2, .hd 3002 w3]) rfl rfl tsize30 rfl rfl rfl (Nat.le_of_ble_eq_true rfl) rfl rfl rfl ?_)
   refine gk hK8 73 [2] [12, 3001, 3002, 0] ?_
   refine Good.le (σ' := ⟨73, [(2, .ptr 12 b1 0)], [(100, (w2, .osl 30 5 (y2.1.list.map encOVal))), (101, (w3, .osl 9 1 (y2.1.names.map encS))), (12, ((.pointer (some ⟨b1, 0, none⟩)), .optr 30 [.int .i64 y2.1.kind, .int .i64 y5.1, .str y2.1.text, .hd 100 w2, .hd 101 w3])), (0, ((.pointer (some ⟨b0_0, 0, none⟩)), .optr 104 [.sl false (y5.2.b.map (encI .u8)), .int .i64 y5.2.p]))]⟩) (lw [some 3001, some 3002, some 12, some 0]) ?_
   refine good_ret ?_
   obtain rfl := Option.some.inj h
   exact endQ_ret (h' := [(0, (_, _)), (100, (_, _)), (101, (_, _))]) [some 0, some 100, some 101] (.cell rfl rfl tsize30 tagg30 rfl rfl rfl (.nil)) ⟨⟨_, rfl, .refl _⟩, ⟨⟨_, rfl, .refl _⟩, ⟨⟨_, rfl, .refl _⟩, trivial⟩⟩⟩ (by decide) ⟨w2, w3, rfl, rfl⟩
  ·replace h := ifF h (dF hc2)
   refine good_seq fun K9 hK9 => ?_
   refine rg 2 ?_
   refine gk hK9 73 [0, 2, 3, 11, 24] [0, 12, 13, 3001, 3002] ?_
   refine good_cond rfl (fun hc3 => ?_) (fun hc3 => ?_)
   ·replace h := ifT h (dT hc3)
    refine rg 1 ?_
    obtain ⟨y6, hy6, h⟩ := bnd h
    refine g_op rfl (o_callP (q := 0) (core_value rfl rfl) (m_spec_l1Rd_pick_ok y3.2 2 b0_0 _ hy6) (.cons (.ptr _ _ _ _) (.cons (.refl _) (.nil))) rfl rfl ?_)
    refine gs 1 ?_
    obtain ⟨y7, hy7, h⟩ := bnd h
    refine g_op rfl (o_callR [] [] (core_value rfl rfl) (m_spec_l1Many_ok k [121] (IntKind.wrap .i64 (40 + y6.1)) _ hy7) trivial (.cons (.refl _) (.cons (.refl _) (.nil))) (.inl rfl) rfl ?_)
    refine gs 1 ?_
    refine g_op rfl (o_storeP tabOk (cs' := [.int .i64 y2.1.kind, .int .i64 y2.1.num, .str y7, .hd 3001 w2, .hd 3002 w3]) rfl rfl tsize9 rfl rfl rfl (Nat.le_of_ble_eq_true rfl) rfl rfl rfl ?_)
    refine gk hK3 73 [2, 3] [12, 13, 3001, 3002, 0] ?_
    refine good_seq fun K10 hK10 => ?_
    refine rg 1 ?_
    refine g_op rfl (o_storeP tabOk (cs' := [.int .i64 y2.1.kind, .int .i64 y2.1.num, .str y7, .hd 3001 w2, .hd 3002 w3]) rfl rfl tsize30 rfl rfl rfl (Nat.le_of_ble_eq_true rfl) rfl rfl rfl ?_)
    refine gk hK10 73 [2] [12, 3001, 3002, 0] ?_
    refine Good.le (σ' := ⟨73, [(2, .ptr 12 b1 0)], [(100, (w2, .osl 30 5 (y2.1.list.map encOVal))), (101, (w3, .osl 9 1 (y2.1.names.map encS))), (12, ((.pointer (some ⟨b1, 0, none⟩)), .optr 30 [.int .i64 y2.1.kind, .int .i64 y2.1.num, .str y7, .hd 100 w2, .hd 101 w3])), (0, ((.pointer (some ⟨b0_0, 0, none⟩)), .optr 104 [.sl false (y6.2.b.map (encI .u8)), .int .i64 y6.2.p]))]⟩) (lw [some 3001, some 3002, some 12, some 0]) ?_
    refine good_ret ?_
    obtain rfl := Option.some.inj h
    exact endQ_ret (h' := [(0, (_, _)), (100, (_, _)), (101, (_, _))]) [some 0, some 100, some 101] (.cell rfl rfl tsize30 tagg30 rfl rfl rfl (.nil)) ⟨⟨_, rfl, .refl _⟩, ⟨⟨_, rfl, .refl _⟩, ⟨⟨_, rfl, .refl _⟩, trivial⟩⟩⟩ (by decide) ⟨w2, w3, rfl, rfl⟩
   ·replace h := ifF h (dF hc3)
    refine good_seq fun K11 hK11 => ?_
    refine rg 2 ?_
    refine gk hK11 73 [0, 2, 3, 11, 31] [0, 12, 13, 3001, 3002] ?_
    refine good_cond rfl (fun hc4 => ?_) (fun hc4 => ?_)
    ·replace h := ifT h (dT hc4)
     refine good_seq fun K12 hK12 => ?_
     refine rg 1 ?_
     refine gk hK12 73 [0, 2, 3, 4] [0, 12, 13, 3001, 3002] ?_
     obtain ⟨o1, ho1, hJ1⟩ := bnd h
     have hw1 : ∀ (s1 : ((List Int) × Int × Int × Int × Bs × (List Val) × (List Bs))) (w8 : Value) (w9 : Value), o1 = Lp.go s1 → ∀ σ', Le σ' ⟨73, [(2, .ptr 12 b1 0), (3, .ptr 13 b2 0)], [(0, ((.pointer (some ⟨b0_0, 0, none⟩)), .optr 104 [.sl false (s1.1.map (encI .u8)), .int .i64 s1.2.1])), (12, ((.pointer (some ⟨b1, 0, none⟩)), .optr 30 [.int .i64 0, .int .i64 0, .str ([] : Bs), .nil, .nil])), (13, ((.pointer (some ⟨b2, 0, none⟩)), .optr 30 [.int .i64 s1.2.2.1, .int .i64 s1.2.2.2.1, .str s1.2.2.2.2.1, .hd 5706 w8, .hd 5708 w9])), (5706, (w8, .osl 30 5 (s1.2.2.2.2.2.1.map encOVal))), (5708, (w9, .osl 9 1 (s1.2.2.2.2.2.2.map encS)))]⟩ → K3 σ' := by
      intro s1 w8 w9 e1 σ' hle1
      subst e1
      refine hK3 _ (Good.le hle1 ?_)
      replace h := hJ1
      refine good_seq fun K13 hK13 => ?_
      refine rg 1 ?_
      refine g_op rfl (o_storeP tabOk (cs' := [.int .i64 s1.2.2.1, .int .i64 s1.2.2.2.1, .str s1.2.2.2.2.1, .hd 5706 w8, .hd 5708 w9]) rfl rfl tsize30 rfl rfl rfl (Nat.le_of_ble_eq_true rfl) rfl rfl rfl ?_)
      refine gk hK13 73 [2] [12, 5706, 5708, 0] ?_
      refine Good.le (σ' := ⟨73, [(2, .ptr 12 b1 0)], [(100, (w8, .osl 30 5 (s1.2.2.2.2.2.1.map encOVal))), (101, (w9, .osl 9 1 (s1.2.2.2.2.2.2.map encS))), (12, ((.pointer (some ⟨b1, 0, none⟩)), .optr 30 [.int .i64 s1.2.2.1, .int .i64 s1.2.2.2.1, .str s1.2.2.2.2.1, .hd 100 w8, .hd 101 w9])), (0, ((.pointer (some ⟨b0_0, 0, none⟩)), .optr 104 [.sl false (s1.1.map (encI .u8)), .int .i64 s1.2.1]))]⟩) (lw [some 5706, some 5708, some 12, some 0]) ?_
      refine good_ret ?_
      obtain rfl := Option.some.inj h
      exact endQ_ret (h' := [(0, (_, _)), (100, (_, _)), (101, (_, _))]) [some 0, some 100, some 101] (.cell rfl rfl tsize30 tagg30 rfl rfl rfl (.nil)) ⟨⟨_, rfl, .refl _⟩, ⟨⟨_, rfl, .refl _⟩, ⟨⟨_, rfl, .refl _⟩, trivial⟩⟩⟩ (by decide) ⟨w8, w9, rfl, rfl⟩
     replace h := ho1
     refine good_block ?_
     refine good_loopf (fun p : ((List Int) × Int × Int × Int × Bs × (List Val) × (List Bs) × Int × Value × Value) => ⟨73, [(0, .ptr 0 b0_0 0), (2, .ptr 12 b1 0), (3, .ptr 13 b2 0), (4, .int .i64 p.2.2.2.2.2.2.2.1)], [(0, ((.pointer (some ⟨b0_0, 0, none⟩)), .optr 104 [.sl false (p.1.map (encI .u8)), .int .i64 p.2.1])), (12, ((.pointer (some ⟨b1, 0, none⟩)), .optr 30 [.int .i64 0, .int .i64 0, .str ([] : Bs), .nil, .nil])), (13, ((.pointer (some ⟨b2, 0, none⟩)), .optr 30 [.int .i64 p.2.2.1, .int .i64 p.2.2.2.1, .str p.2.2.2.2.1, .hd 5708 p.2.2.2.2.2.2.2.2.1, .hd 5710 p.2.2.2.2.2.2.2.2.2])), (5708, (p.2.2.2.2.2.2.2.2.1, .osl 30 5 (p.2.2.2.2.2.1.map encOVal))), (5710, (p.2.2.2.2.2.2.2.2.2, .osl 9 1 (p.2.2.2.2.2.2.1.map encS)))]⟩) (fun m p => m_spec_l13AnyValue_l1 m p.1 p.2.1 p.2.2.1 p.2.2.2.1 p.2.2.2.2.1 p.2.2.2.2.2.1 p.2.2.2.2.2.2.1 p.2.2.2.2.2.2.2.1 = some o1) k (y3.2.b, y3.2.p, y2.1.kind, y2.1.num, y2.1.text, y2.1.list, y2.1.names, 0, w2, w3) (lw [some 0, some 12, some 13, some 3001, some 3002]) h ?_
     rintro m1 ⟨x1, x2, x3, x4, x5, x6, x7, x8, w6, w7⟩ h
     replace h : m_spec_l13AnyValue_l1 m1 x1 x2 x3 x4 x5 x6 x7 x8 = some o1 := h
     refine Good.le (σ' := ⟨73, [(0, .ptr 0 b0_0 0), (2, .ptr 12 b1 0), (3, .ptr 13 b2 0), (4, .int .i64 x8)], [(0, ((.pointer (some ⟨b0_0, 0, none⟩)), .optr 104 [.sl false (x1.map (encI .u8)), .int .i64 x2])), (12, ((.pointer (some ⟨b1, 0, none⟩)), .optr 30 [.int .i64 0, .int .i64 0, .str ([] : Bs), .nil, .nil])), (13, ((.pointer (some ⟨b2, 0, none⟩)), .optr 30 [.int .i64 x3, .int .i64 x4, .str x5, .hd 5708 w6, .hd 5710 w7])), (5708, (w6, .osl 30 5 (x6.map encOVal))), (5710, (w7, .osl 9 1 (x7.map encS)))]⟩) (Le.refl _) ?_
     obtain ⟨m1, rfl⟩ : ∃ m', m1 = m' + 1 := by cases m1 with | zero => (rw [m_spec_l13AnyValue_l1] at h; cases h) | succ m' => exact ⟨m', rfl⟩
     rw [m_spec_l13AnyValue_l1] at h
     refine good_seq fun K14 hK14 => ?_
     refine good_seq fun K15 hK15 => ?_
     refine rg 2 ?_
     obtain ⟨y8, hy8, h⟩ := bnd h
     refine g_op rfl (o_callP (q := 0) (core_value rfl rfl) (m_spec_l1Rd_pick_ok (GL1Rd.mk x1 x2) 2 b0_0 _ hy8) (.cons (.ptr _ _ _ _) (.cons (.refl _) (.nil))) rfl rfl ?_)
     refine gs 2 ?_
     refine gk hK15 73 [0, 2, 3, 4, 37] [0, 12, 13, 5708, 5710] ?_
     refine good_cond rfl (fun hc5 => ?_) (fun hc5 => ?_)
     ·replace h := ifT h (dT hc5)
      refine good_skip ?_
      refine hK14 _ (kp 73 [0, 2, 3, 4] [0, 12, 13, 5708, 5710] ?_)
      refine good_seq fun K16 hK16 => ?_
      refine good_block ?_
      refine rg 1 ?_
      refine g_op rfl (OpOk.le (o_buildSlice (k := 51) (rows := [[.int .i64 x3, .int .i64 x4, .str x5, .hd 5708 w6, .hd 5710 w7]]) tabOk telem28 tsize30 rfl rfl rfl rfl (by decide) (by decide) (by rw [tzero30]; rfl) rfl rfl rfl rfl rfl ?_))
      intro w10
      refine ⟨_, (Le.trans (Le.trans (le_absorb1 (k := 51) (k2 := 5708) 0 3 _ rfl (by decide) rfl rfl rfl) (le_absorb1 (k := 51) (k2 := 5710) (rows' := [(Val.mk x3 x4 x5 x6 x7)].map encOVal) 0 4 _ rfl (by decide) rfl rfl (cons_eq (encOVal_eq _) rfl))) (le_mm (rs := [5708, 5710]) rfl)), ?_⟩
      refine g_op rfl (ValOk.op (v_build tabOk (cs := [.int .i64 4, .int .i64 0, .str ([] : Bs), .hd 51 w10, .nil]) tzero30 tsok30 rfl rfl rfl ?_))
      refine g_op rfl (o_storeP tabOk (cs' := [.int .i64 4, .int .i64 0, .str ([] : Bs), .hd 51 w10, .nil]) rfl rfl tsize30 rfl rfl rfl (Nat.le_of_ble_eq_true rfl) rfl rfl rfl ?_)
      refine gk hK16 73 [0, 2, 3, 4] [0, 12, 13, 51] ?_
      refine rg 3 ?_
      refine g_nil ?_
      exact round_mk m1 (y8.2.b, y8.2.p, 4, 0, ([] : Bs), [(Val.mk x3 x4 x5 x6 x7)], [], IntKind.wrap .i64 (x8 + 1), w10, nilV) (Nat.lt_succ_self _) h (lw [some 0, some 12, some 13, some 51, none])
     ·replace h := ifF h (dF hc5)
      refine good_exit ?_
      exact hw1 (y8.2.b, y8.2.p, x3, x4, x5, x6, x7) w6 w7 (Option.some.inj h).symm _ (lw [some 0, some 12, some 13, some 5708, some 5710])
    ·replace h := ifF h (dF hc4)
     refine good_seq fun K17 hK17 => ?_
     refine rg 2 ?_
     refine gk hK17 73 [0, 2, 3, 11, 43] [0, 12, 13, 3001, 3002] ?_
     refine good_cond rfl (fun hc6 => ?_) (fun hc6 => ?_)
     ·replace h := ifT h (dT hc6)
      obtain ⟨y9, hy9, h⟩ := bnd h
      obtain ⟨hb1, h⟩ := ifS h
      refine good_anyM (by kernel_rfl) [⟨[], [3], [], [], [], []⟩, ⟨[0], [45], [13], [], [], []⟩, ⟨[], [0], [], [], [], []⟩, ⟨[], [], [], [], [], []⟩, ⟨[2, 3], [47, 48], [0], [0], [9007], []⟩, ⟨[2, 3, 4], [49], [], [], [], []⟩, ⟨[0, 1, 2, 3, 4, 5], [46, 50], [3002], [3002], [61], [61]⟩, ⟨[0, 1, 2, 3, 4, 5, 6], [3], [], [], [], []⟩, ⟨[0, 1, 2, 3, 4, 5, 6, 7], [52, 51], [13], [13], [9008], []⟩] [some 45, some 46, some 47, some 48, some 49, some 50, some 51, some 52, none] 73 [(0, .ptr 0 b0_0 0), (2, .ptr 12 b1 0), (3, .ptr 13 b2 0)] [(0, ((.pointer (some ⟨b0_0, 0, none⟩)), .optr 104 [.sl false (y3.2.b.map (encI .u8)), .int .i64 y3.2.p])), (12, ((.pointer (some ⟨b1, 0, none⟩)), .optr 30 [.int .i64 0, .int .i64 0, .str ([] : Bs), .nil, .nil])), (13, ((.pointer (some ⟨b2, 0, none⟩)), .optr 30 [.int .i64 y2.1.kind, .int .i64 y2.1.num, .str y2.1.text, .hd 3001 w2, .hd 3002 w3])), (3001, (w2, .osl 30 5 (y2.1.list.map encOVal))), (3002, (w3, .osl 9 1 (y2.1.names.map encS)))] (fun ν1 => [.ptr 13 b2 4, .hd 3002 w3, .ptr 0 b0_0 0, .sl false ([[97], [98], [49]].map encS), .str y9.1, .sl false ([y9.1].map encS), .hd 61 (ν1 61), .ptr 13 b2 4, .und]) (fun ν1 => [(9007, ((.pointer (some ⟨b0_0, 0, none⟩)), .optr 104 [.sl false (y9.2.b.map (encI .u8)), .int .i64 y9.2.p])), (61, ((ν1 61), .osl 9 1 ((y2.1.names ++ [y9.1]).map encS))), (9008, ((.pointer (some ⟨b2, 0, none⟩)), .optr 30 [.int .i64 y2.1.kind, .int .i64 y2.1.num, .str y2.1.text, .hd 3001 w2, .hd 61 (ν1 61)]))]) [(9007, []), (61, [61]), (9008, [61]), (0, []), (12, []), (13, []), (3001, []), (3002, [])] [9007, 61, 9008] [some 12, some 9008, some 3001, some 61, some 9007] (fun ν1 => [(2, .ptr 12 b1 0), (3, .ptr 13 b2 0)]) (fun ν1 => [(12, ((.pointer (some ⟨b1, 0, none⟩)), .optr 30 [.int .i64 0, .int .i64 0, .str ([] : Bs), .nil, .nil])), (13, ((.pointer (some ⟨b2, 0, none⟩)), .optr 30 [.int .i64 y2.1.kind, .int .i64 y2.1.num, .str y2.1.text, .hd 3001 w2, .hd 61 (ν1 61)])), (3001, (w2, .osl 30 5 (y2.1.list.map encOVal))), (61, ((ν1 61), .osl 9 1 ((y2.1.names ++ [y9.1]).map encS))), (0, ((.pointer (some ⟨b0_0, 0, none⟩)), .optr 104 [.sl false (y9.2.b.map (encI .u8)), .int .i64 y9.2.p]))]) (lw [some 0, some 12, some 13, some 3001, some 3002]) (by kernel_rfl) ⟨?_, ⟨?_, ⟨?_, ⟨?_, ⟨?_, ⟨?_, ⟨?_, ⟨?_, ⟨?_, trivial⟩⟩⟩⟩⟩⟩⟩⟩⟩ ⟨fun _ _ _ => rfl, ⟨fun _ _ _ => rfl, ⟨fun _ _ _ => rfl, ⟨fun _ _ _ => rfl, ⟨fun _ _ _ => rfl, ⟨fun _ _ _ => rfl, ⟨fun _ _ h => (congrArg (fun zz0 => (some (.hd 61 zz0) : Option AV)) (h 61 (by decide))), ⟨fun _ _ _ => rfl, ⟨fun _ _ _ => rfl, trivial⟩⟩⟩⟩⟩⟩⟩⟩⟩ ⟨fun _ _ _ => rfl, ⟨fun _ _ h => (congrArg (fun zz0 => (some (zz0, .osl 9 1 ((y2.1.names ++ [y9.1]).map encS)) : Option (Value × AV))) (h 61 (by decide))), ⟨fun _ _ h => (congrArg (fun zz0 => (some ((.pointer (some ⟨b2, 0, none⟩)), .optr 30 [.int .i64 y2.1.kind, .int .i64 y2.1.num, .str y2.1.text, .hd 3001 w2, .hd 61 zz0]) : Option (Value × AV))) (h 61 (by decide))), ⟨fun _ _ _ => rfl, ⟨fun _ _ _ => rfl, ⟨fun _ _ _ => rfl, ⟨fun _ _ _ => rfl, ⟨fun _ _ _ => rfl, trivial⟩⟩⟩⟩⟩⟩⟩⟩ (fun _ => rfl) (fun _ => rfl) (by kernel_rfl) (fun _ => ⟨⟨_, rfl, .refl _⟩, ⟨⟨_, rfl, .refl _⟩, trivial⟩⟩) (fun _ => ⟨⟨_, rfl, .refl _⟩, ⟨⟨_, rfl, .refl _⟩, ⟨⟨_, rfl, .refl _⟩, ⟨⟨_, rfl, .refl _⟩, ⟨⟨_, rfl, .refl _⟩, trivial⟩⟩⟩⟩⟩) (by kernel_rfl) (by decide) ?_
      ·refine local_mk (fun ν1 => [(3, .ptr 13 b2 0)]) (fun ν1 => []) (fun _ => rfl) (fun _ => ⟨⟨_, rfl, .refl _, .refl _⟩, trivial⟩) (fun _ => rfl) (fun _ => trivial) ?_
       intro ν1 S H hS hfr
       refine st_op rfl (ValOk.op (v_fieldP tabOk rfl tfoff30_4 rfl ?_))
       exact lp_v hS rfl rfl (fun _ => rfl)
      ·refine local_mk (fun ν1 => [(45, .ptr 13 b2 4)]) (fun ν1 => [(13, ((.pointer (some ⟨b2, 0, none⟩)), .optr 30 [.int .i64 y2.1.kind, .int .i64 y2.1.num, .str y2.1.text, .hd 3001 w2, .hd 3002 w3]))]) (fun _ => rfl) (fun _ => ⟨⟨_, rfl, .refl _, .refl _⟩, trivial⟩) (fun _ => rfl) (fun _ => ⟨rfl, trivial⟩) ?_
       intro ν1 S H hS hfr
       refine st_op rfl (ValOk.op (v_loadP tabOk rfl rfl tsize23 tagg23 rfl rfl rfl rfl ?_))
       exact lp_v hS rfl rfl (fun _ => rfl)
      ·refine local_mk (fun ν1 => [(0, .ptr 0 b0_0 0)]) (fun ν1 => []) (fun _ => rfl) (fun _ => ⟨⟨_, rfl, .refl _, .refl _⟩, trivial⟩) (fun _ => rfl) (fun _ => trivial) ?_
       intro ν1 S H hS hfr
       refine st_op rfl (ValOk.op (v_move rfl rfl ?_))
       exact lp_v hS rfl rfl (fun _ => rfl)
      ·refine local_mk (fun ν1 => []) (fun ν1 => []) (fun _ => rfl) (fun _ => trivial) (fun _ => rfl) (fun _ => trivial) ?_
       intro ν1 S H hS hfr
       obtain ⟨kf, hkf⟩ := exists_fresh ([] ++ H)
       refine st_op rfl (o_buildSlice (k := kf) (rows := [[97], [98], [49]].map encS) tabOk telem23 tsize9 rfl rfl rfl rfl (by decide) (by decide) (by rw [tzero9]; rfl) rfl rfl rfl hkf rfl ?_)
       intro w
       exact lp_fn hS rfl rfl hkf (FrzLL.map fun _ _ => encS_frz _) (fun _ => rfl)
      ·refine local_mk (fun ν1 => [(47, .ptr 0 b0_0 0), (48, .sl false ([[97], [98], [49]].map encS))]) (fun ν1 => [(0, ((.pointer (some ⟨b0_0, 0, none⟩)), .optr 104 [.sl false (y3.2.b.map (encI .u8)), .int .i64 y3.2.p]))]) (fun _ => rfl) (fun _ => ⟨⟨_, rfl, .refl _, .refl _⟩, ⟨⟨_, rfl, .refl _, .refl _⟩, trivial⟩⟩) (fun _ => rfl) (fun _ => ⟨rfl, trivial⟩) ?_
       intro ν1 S H hS hfr
       refine st_op rfl (o_callP (q := 0) (core_value rfl rfl) (m_spec_l1Rd_of_ok y3.2 [[97], [98], [49]] b0_0 _ hy9) (.cons (.ptr _ _ _ _) (.cons (.refl _) (.nil))) rfl rfl ?_)
       exact lp_m (k := 9007) hS rfl rfl (.inr (by decide)) (fun _ => rfl) rfl
      ·refine local_mk (fun ν1 => [(49, .str y9.1)]) (fun ν1 => []) (fun _ => rfl) (fun _ => ⟨⟨_, rfl, .refl _, .refl _⟩, trivial⟩) (fun _ => rfl) (fun _ => trivial) ?_
       intro ν1 S H hS hfr
       obtain ⟨kf, hkf⟩ := exists_fresh ([] ++ H)
       refine st_op rfl (o_buildSlice (k := kf) (rows := [y9.1].map encS) tabOk telem23 tsize9 rfl rfl rfl rfl (by decide) (by decide) (by rw [tzero9]; rfl) rfl rfl rfl hkf rfl ?_)
       intro w
       exact lp_fn hS rfl rfl hkf (FrzLL.map fun _ _ => encS_frz _) (fun _ => rfl)
      ·refine local_mk (fun ν1 => [(46, .hd 3002 w3), (50, .sl false ([y9.1].map encS))]) (fun ν1 => [(3002, (w3, .osl 9 1 (y2.1.names.map encS)))]) (fun _ => rfl) (fun _ => ⟨⟨_, rfl, .refl _, .refl _⟩, ⟨⟨_, rfl, .refl _, .refl _⟩, trivial⟩⟩) (fun _ => rfl) (fun _ => ⟨rfl, trivial⟩) ?_
       intro ν1 S H hS hfr
       refine st_op rfl (o_appendSM (q := 3002) (k := 61) (f := encS) (l2 := [y9.1]) tabOk ⟨_, rfl⟩ rfl rfl telem23 tsize9 tbytes9 tzero9 rfl (by decide) (by decide) encS_len encS_ok rfl (has_minus (hfr _ (by decide))) rfl hb1 ?_)
       intro w
       exact lp_m (k := 61) hS rfl rfl (.inl rfl) (fun _ => rfl) rfl
      ·refine local_mk (fun ν1 => [(3, .ptr 13 b2 0)]) (fun ν1 => []) (fun _ => rfl) (fun _ => ⟨⟨_, rfl, .refl _, .refl _⟩, trivial⟩) (fun _ => rfl) (fun _ => trivial) ?_
       intro ν1 S H hS hfr
       refine st_op rfl (ValOk.op (v_fieldP tabOk rfl tfoff30_4 rfl ?_))
       exact lp_v hS rfl rfl (fun _ => rfl)
      ·refine local_mk (fun ν1 => [(52, .ptr 13 b2 4), (51, .hd 61 (ν1 61))]) (fun ν1 => [(13, ((.pointer (some ⟨b2, 0, none⟩)), .optr 30 [.int .i64 y2.1.kind, .int .i64 y2.1.num, .str y2.1.text, .hd 3001 w2, .hd 3002 w3]))]) (fun _ => rfl) (fun _ => ⟨⟨_, rfl, .refl _, .refl _⟩, ⟨⟨_, rfl, .refl _, .refl _⟩, trivial⟩⟩) (fun _ => rfl) (fun _ => ⟨rfl, trivial⟩) ?_
       intro ν1 S H hS hfr
       refine st_op rfl (o_storeP tabOk (cs' := [.int .i64 y2.1.kind, .int .i64 y2.1.num, .str y2.1.text, .hd 3001 w2, .hd 61 (ν1 61)]) rfl rfl tsize23 rfl rfl rfl (Nat.le_of_ble_eq_true rfl) rfl rfl rfl ?_)
       exact lp_m (k := 9008) hS rfl rfl (.inr (by decide)) (fun _ => rfl) rfl
      intro ν1
      refine hK3 _ ?_
      refine good_seq fun K18 hK18 => ?_
      refine rg 1 ?_
      refine g_op rfl (o_storeP tabOk (cs' := [.int .i64 y2.1.kind, .int .i64 y2.1.num, .str y2.1.text, .hd 3001 w2, .hd 61 (ν1 61)]) rfl rfl tsize30 rfl rfl rfl (Nat.le_of_ble_eq_true rfl) rfl rfl rfl ?_)
      refine gk hK18 73 [2] [12, 3001, 61, 0] ?_
      refine Good.le (σ' := ⟨73, [(2, .ptr 12 b1 0)], [(100, (w2, .osl 30 5 (y2.1.list.map encOVal))), (101, ((ν1 61), .osl 9 1 ((y2.1.names ++ [y9.1]).map encS))), (12, ((.pointer (some ⟨b1, 0, none⟩)), .optr 30 [.int .i64 y2.1.kind, .int .i64 y2.1.num, .str y2.1.text, .hd 100 w2, .hd 101 (ν1 61)])), (0, ((.pointer (some ⟨b0_0, 0, none⟩)), .optr 104 [.sl false (y9.2.b.map (encI .u8)), .int .i64 y9.2.p]))]⟩) (lw [some 3001, some 61, some 12, some 0]) ?_
      refine good_ret ?_
      obtain rfl := Option.some.inj h
      exact endQ_ret (h' := [(0, (_, _)), (100, (_, _)), (101, (_, _))]) [some 0, some 100, some 101] (.cell rfl rfl tsize30 tagg30 rfl rfl rfl (.nil)) ⟨⟨_, rfl, .refl _⟩, ⟨⟨_, rfl, .refl _⟩, ⟨⟨_, rfl, .refl _⟩, trivial⟩⟩⟩ (by decide) ⟨w2, (ν1 61), rfl, rfl⟩
     ·replace h := ifF h (dF hc6)
      refine good_seq fun K19 hK19 => ?_
      refine rg 2 ?_
      refine gk hK19 73 [0, 2, 3, 53] [0, 12, 13, 3001, 3002] ?_
      refine good_cond rfl (fun hc7 => ?_) (fun hc7 => ?_)
      ·replace h := ifT h (dT hc7)
       refine good_seq fun K20 hK20 => ?_
       refine rg 1 ?_
       refine g_op rfl (o_storeP tabOk (cs' := [.int .i64 4, .int .i64 y2.1.num, .str y2.1.text, .hd 3001 w2, .hd 3002 w3]) rfl rfl tsize3 rfl rfl rfl (Nat.le_of_ble_eq_true rfl) rfl rfl rfl ?_)
       refine gk hK20 73 [0, 2, 3] [0, 12, 13, 3001, 3002] ?_
       refine good_seq fun K21 hK21 => ?_
       refine rg 1 ?_
       refine g_op rfl (o_storeP tabOk (cs' := [.int .i64 4, .int .i64 y2.1.num, .str y2.1.text, .hd 3001 w2, .nil]) rfl rfl tsize23 rfl rfl rfl (Nat.le_of_ble_eq_true rfl) rfl rfl rfl ?_)
       refine gk hK21 73 [0, 2, 3] [0, 12, 13, 3001] ?_
       refine good_seq fun K22 hK22 => ?_
       refine rg 1 ?_
       refine g_op rfl (o_storeP tabOk (cs' := [.int .i64 4, .int .i64 y2.1.num, .str [], .hd 3001 w2, .nil]) rfl rfl tsize9 rfl rfl rfl (Nat.le_of_ble_eq_true rfl) rfl rfl rfl ?_)
       refine gk hK22 73 [0, 2, 3] [0, 12, 13, 3001] ?_
       refine good_seq fun K23 hK23 => ?_
       refine rg 1 ?_
       refine g_op rfl (o_storeP tabOk (cs' := [.int .i64 4, .int .i64 0, .str [], .hd 3001 w2, .nil]) rfl rfl tsize3 rfl rfl rfl (Nat.le_of_ble_eq_true rfl) rfl rfl rfl ?_)
       refine gk hK23 73 [0, 2, 3] [0, 12, 13, 3001] ?_
       obtain ⟨o2, ho2, hJ2⟩ := bnd h
       have hw2 : ∀ (s2 : ((List Int) × Int × (List Val))) (w12 : Value), o2 = Lp.go s2 → ∀ σ', Le σ' ⟨73, [(2, .ptr 12 b1 0), (3, .ptr 13 b2 0)], [(0, ((.pointer (some ⟨b0_0, 0, none⟩)), .optr 104 [.sl false (s2.1.map (encI .u8)), .int .i64 s2.2.1])), (12, ((.pointer (some ⟨b1, 0, none⟩)), .optr 30 [.int .i64 0, .int .i64 0, .str ([] : Bs), .nil, .nil])), (13, ((.pointer (some ⟨b2, 0, none⟩)), .optr 30 [.int .i64 4, .int .i64 0, .str [], .hd 6812 w12, .nil])), (6812, (w12, .osl 30 5 (s2.2.2.map encOVal)))]⟩ → K3 σ' := by
        intro s2 w12 e2 σ' hle2
        subst e2
        refine hK3 _ (Good.le hle2 ?_)
        replace h := hJ2
        refine good_seq fun K24 hK24 => ?_
        refine rg 1 ?_
        refine g_op rfl (o_storeP tabOk (cs' := [.int .i64 4, .int .i64 0, .str [], .hd 6812 w12, .nil]) rfl rfl tsize30 rfl rfl rfl (Nat.le_of_ble_eq_true rfl) rfl rfl rfl ?_)
        refine gk hK24 73 [2] [12, 6812, 0] ?_
        refine Good.le (σ' := ⟨73, [(2, .ptr 12 b1 0)], [(100, (w12, .osl 30 5 (s2.2.2.map encOVal))), (101, (nilV, .osl 9 1 (([] : List Bs).map encS))), (12, ((.pointer (some ⟨b1, 0, none⟩)), .optr 30 [.int .i64 4, .int .i64 0, .str [], .hd 100 w12, .hd 101 nilV])), (0, ((.pointer (some ⟨b0_0, 0, none⟩)), .optr 104 [.sl false (s2.1.map (encI .u8)), .int .i64 s2.2.1]))]⟩) (lw [some 6812, none, some 12, some 0]) ?_
        refine good_ret ?_
        obtain rfl := Option.some.inj h
        exact endQ_ret (h' := [(0, (_, _)), (100, (_, _)), (101, (_, _))]) [some 0, some 100, some 101] (.cell rfl rfl tsize30 tagg30 rfl rfl rfl (.nil)) ⟨⟨_, rfl, .refl _⟩, ⟨⟨_, rfl, .refl _⟩, ⟨⟨_, rfl, .refl _⟩, trivial⟩⟩⟩ (by decide) ⟨w12, nilV, rfl, rfl⟩
       replace h := ho2
       refine good_block ?_
       refine good_loopf (fun p : ((List Int) × Int × (List Val) × Value) => ⟨73, [(0, .ptr 0 b0_0 0), (2, .ptr 12 b1 0), (3, .ptr 13 b2 0)], [(0, ((.pointer (some ⟨b0_0, 0, none⟩)), .optr 104 [.sl false (p.1.map (encI .u8)), .int .i64 p.2.1])), (12, ((.pointer (some ⟨b1, 0, none⟩)), .optr 30 [.int .i64 0, .int .i64 0, .str ([] : Bs), .nil, .nil])), (13, ((.pointer (some ⟨b2, 0, none⟩)), .optr 30 [.int .i64 4, .int .i64 0, .str [], .hd 6813 p.2.2.2, .nil])), (6813, (p.2.2.2, .osl 30 5 (p.2.2.1.map encOVal)))]⟩) (fun m p => m_spec_l13AnyValue_l2 m p.1 p.2.1 p.2.2.1 = some o2) k (y3.2.b, y3.2.p, y2.1.list, w2) (lw [some 0, some 12, some 13, some 3001]) h ?_
       rintro m2 ⟨x9, x10, x11, w11⟩ h
       replace h : m_spec_l13AnyValue_l2 m2 x9 x10 x11 = some o2 := h
       refine Good.le (σ' := ⟨73, [(0, .ptr 0 b0_0 0), (2, .ptr 12 b1 0), (3, .ptr 13 b2 0)], [(0, ((.pointer (some ⟨b0_0, 0, none⟩)), .optr 104 [.sl false (x9.map (encI .u8)), .int .i64 x10])), (12, ((.pointer (some ⟨b1, 0, none⟩)), .optr 30 [.int .i64 0, .int .i64 0, .str ([] : Bs), .nil, .nil])), (13, ((.pointer (some ⟨b2, 0, none⟩)), .optr 30 [.int .i64 4, .int .i64 0, .str [], .hd 6813 w11, .nil])), (6813, (w11, .osl 30 5 (x11.map encOVal)))]⟩) (Le.refl _) ?_
       obtain ⟨m2, rfl⟩ : ∃ m', m2 = m' + 1 := by cases m2 with | zero => (rw [m_spec_l13AnyValue_l2] at h; cases h) | succ m' => exact ⟨m', rfl⟩
       rw [m_spec_l13AnyValue_l2] at h
       refine good_seq fun K25 hK25 => ?_
       refine good_seq fun K26 hK26 => ?_
       obtain ⟨y10, hy10, h⟩ := bnd h
       refine good_anyM (by kernel_rfl) [⟨[], [3], [], [], [], []⟩, ⟨[0], [59], [13], [], [], []⟩, ⟨[0, 1], [60], [6813], [], [], []⟩, ⟨[], [0], [], [], [], []⟩, ⟨[3], [62], [0], [0], [9011], []⟩, ⟨[3, 4], [63], [], [], [], []⟩, ⟨[0, 1, 2, 3, 4, 5], [61, 64], [], [], [], []⟩] [some 59, some 60, some 61, some 62, some 63, some 64, some 65] 73 [(0, .ptr 0 b0_0 0), (2, .ptr 12 b1 0), (3, .ptr 13 b2 0)] [(0, ((.pointer (some ⟨b0_0, 0, none⟩)), .optr 104 [.sl false (x9.map (encI .u8)), .int .i64 x10])), (12, ((.pointer (some ⟨b1, 0, none⟩)), .optr 30 [.int .i64 0, .int .i64 0, .str ([] : Bs), .nil, .nil])), (13, ((.pointer (some ⟨b2, 0, none⟩)), .optr 30 [.int .i64 4, .int .i64 0, .str [], .hd 6813 w11, .nil])), (6813, (w11, .osl 30 5 (x11.map encOVal)))] (fun ν2 => [.ptr 13 b2 3, .hd 6813 w11, .int .i64 (x11.length : Int), .ptr 0 b0_0 0, .int .i64 y10.1, .int .i64 (IntKind.wrap .i64 (12 + y10.1)), .bool (decide ((x11.length : Int) < (IntKind.wrap .i64 (12 + y10.1))))]) (fun ν2 => [(9011, ((.pointer (some ⟨b0_0, 0, none⟩)), .optr 104 [.sl false (y10.2.b.map (encI .u8)), .int .i64 y10.2.p]))]) [(9011, []), (0, []), (12, []), (13, []), (6813, [])] [9011] [some 9011, some 12, some 13, some 6813] (fun ν2 => [(0, .ptr 0 b0_0 0), (2, .ptr 12 b1 0), (3, .ptr 13 b2 0), (65, .bool (decide ((x11.length : Int) < (IntKind.wrap .i64 (12 + y10.1)))))]) (fun ν2 => [(0, ((.pointer (some ⟨b0_0, 0, none⟩)), .optr 104 [.sl false (y10.2.b.map (encI .u8)), .int .i64 y10.2.p])), (12, ((.pointer (some ⟨b1, 0, none⟩)), .optr 30 [.int .i64 0, .int .i64 0, .str ([] : Bs), .nil, .nil])), (13, ((.pointer (some ⟨b2, 0, none⟩)), .optr 30 [.int .i64 4, .int .i64 0, .str [], .hd 6813 w11, .nil])), (6813, (w11, .osl 30 5 (x11.map encOVal)))]) (lw [some 0, some 12, some 13, some 6813]) (by kernel_rfl) ⟨?_, ⟨?_, ⟨?_, ⟨?_, ⟨?_, ⟨?_, ⟨?_, trivial⟩⟩⟩⟩⟩⟩⟩ ⟨fun _ _ _ => rfl, ⟨fun _ _ _ => rfl, ⟨fun _ _ _ => rfl, ⟨fun _ _ _ => rfl, ⟨fun _ _ _ => rfl, ⟨fun _ _ _ => rfl, ⟨fun _ _ _ => rfl, trivial⟩⟩⟩⟩⟩⟩⟩ ⟨fun _ _ _ => rfl, ⟨fun _ _ _ => rfl, ⟨fun _ _ _ => rfl, ⟨fun _ _ _ => rfl, ⟨fun _ _ _ => rfl, trivial⟩⟩⟩⟩⟩ (fun _ => rfl) (fun _ => rfl) (by kernel_rfl) (fun _ => ⟨⟨_, rfl, .refl _⟩, ⟨⟨_, rfl, .refl _⟩, ⟨⟨_, rfl, .refl _⟩, ⟨⟨_, rfl, .refl _⟩, trivial⟩⟩⟩⟩) (fun _ => ⟨⟨_, rfl, .refl _⟩, ⟨⟨_, rfl, .refl _⟩, ⟨⟨_, rfl, .refl _⟩, ⟨⟨_, rfl, .refl _⟩, trivial⟩⟩⟩⟩) (by kernel_rfl) (by decide) ?_
       ·refine local_mk (fun ν2 => [(3, .ptr 13 b2 0)]) (fun ν2 => []) (fun _ => rfl) (fun _ => ⟨⟨_, rfl, .refl _, .refl _⟩, trivial⟩) (fun _ => rfl) (fun _ => trivial) ?_
        intro ν2 S H hS hfr
        refine st_op rfl (ValOk.op (v_fieldP tabOk rfl tfoff30_3 rfl ?_))
        exact lp_v hS rfl rfl (fun _ => rfl)
       ·refine local_mk (fun ν2 => [(59, .ptr 13 b2 3)]) (fun ν2 => [(13, ((.pointer (some ⟨b2, 0, none⟩)), .optr 30 [.int .i64 4, .int .i64 0, .str [], .hd 6813 w11, .nil]))]) (fun _ => rfl) (fun _ => ⟨⟨_, rfl, .refl _, .refl _⟩, trivial⟩) (fun _ => rfl) (fun _ => ⟨rfl, trivial⟩) ?_
        intro ν2 S H hS hfr
        refine st_op rfl (ValOk.op (v_loadP tabOk rfl rfl tsize28 tagg28 rfl rfl rfl rfl ?_))
        exact lp_v hS rfl rfl (fun _ => rfl)
       ·refine local_mk (fun ν2 => [(60, .hd 6813 w11)]) (fun ν2 => [(6813, (w11, .osl 30 5 (x11.map encOVal)))]) (fun _ => rfl) (fun _ => ⟨⟨_, rfl, .refl _, .refl _⟩, trivial⟩) (fun _ => rfl) (fun _ => ⟨rfl, trivial⟩) ?_
        intro ν2 S H hS hfr
        refine st_op rfl (ValOk.op (v_lenHM (q := 6813) tabOk ⟨_, rfl⟩ rfl rfl telem28 rfl ?_))
        exact lp_v hS rfl rfl (fun _ => rfl)
       ·refine local_mk (fun ν2 => [(0, .ptr 0 b0_0 0)]) (fun ν2 => []) (fun _ => rfl) (fun _ => ⟨⟨_, rfl, .refl _, .refl _⟩, trivial⟩) (fun _ => rfl) (fun _ => trivial) ?_
        intro ν2 S H hS hfr
        refine st_op rfl (ValOk.op (v_move rfl rfl ?_))
        exact lp_v hS rfl rfl (fun _ => rfl)
       ·refine local_mk (fun ν2 => [(62, .ptr 0 b0_0 0)]) (fun ν2 => [(0, ((.pointer (some ⟨b0_0, 0, none⟩)), .optr 104 [.sl false (x9.map (encI .u8)), .int .i64 x10]))]) (fun _ => rfl) (fun _ => ⟨⟨_, rfl, .refl _, .refl _⟩, trivial⟩) (fun _ => rfl) (fun _ => ⟨rfl, trivial⟩) ?_
        intro ν2 S H hS hfr
        refine st_op rfl (o_callP (q := 0) (core_value rfl rfl) (m_spec_l1Rd_pick_ok (GL1Rd.mk x9 x10) 2 b0_0 _ hy10) (.cons (.ptr _ _ _ _) (.cons (.refl _) (.nil))) rfl rfl ?_)
        exact lp_m (k := 9011) hS rfl rfl (.inr (by decide)) (fun _ => rfl) rfl
       ·refine local_mk (fun ν2 => [(63, .int .i64 y10.1)]) (fun ν2 => []) (fun _ => rfl) (fun _ => ⟨⟨_, rfl, .refl _, .refl _⟩, trivial⟩) (fun _ => rfl) (fun _ => trivial) ?_
        intro ν2 S H hS hfr
        refine st_op rfl (ValOk.op (v_bin rfl rfl rfl rfl ?_))
        exact lp_v hS rfl rfl (fun _ => rfl)
       ·refine local_mk (fun ν2 => [(61, .int .i64 (x11.length : Int)), (64, .int .i64 (IntKind.wrap .i64 (12 + y10.1)))]) (fun ν2 => []) (fun _ => rfl) (fun _ => ⟨⟨_, rfl, .refl _, .refl _⟩, ⟨⟨_, rfl, .refl _, .refl _⟩, trivial⟩⟩) (fun _ => rfl) (fun _ => trivial) ?_
        intro ν2 S H hS hfr
        refine st_op rfl (ValOk.op (v_bin rfl rfl rfl rfl ?_))
        exact lp_v hS rfl rfl (fun _ => rfl)
       intro ν2
       refine hK26 _ ?_
       refine good_cond rfl (fun hc8 => ?_) (fun hc8 => ?_)
       ·replace h := ifT h (dT hc8)
        refine good_skip ?_
        refine hK25 _ (kp 73 [0, 2, 3] [0, 12, 13, 6813] ?_)
        refine good_block ?_
        refine rg 2 ?_
        refine g_op rfl (ValOk.op (v_build tabOk (cs := [.int .i64 0, .int .i64 0, .str ([] : Bs), .nil, .nil]) tzero30 tsok30 rfl rfl rfl ?_))
        refine g_op rfl (OpOk.le (o_buildSlice (k := 79) (rows := [[.int .i64 0, .int .i64 0, .str ([] : Bs), .nil, .nil]]) tabOk telem28 tsize30 rfl rfl rfl rfl (by decide) (by decide) (by rw [tzero30]; rfl) rfl rfl rfl rfl rfl ?_))
        intro w13
        refine ⟨_, (le_nils1 (k := 79) (rows' := [(Val.mk 0 0 ([] : Bs) [] [])].map encOVal) (.cons (.cons (.refl _) (.cons (.refl _) (.cons (.refl _) (.cons (.nil _ _) (.cons (.nil _ _) (.nil)))))) (.nil)) (cons_eq (encOVal_eq _) rfl)), ?_⟩
        obtain ⟨hb2, h⟩ := ifS h
        refine g_op rfl (o_appendHM (q := 6813) (r := 79) (k := 80) (f := encOVal) tabOk ⟨_, rfl⟩ rfl ⟨_, rfl⟩ rfl rfl telem28 tsize30 tbytes30 tzero30 rfl (by decide) (by decide) encOVal_ok rfl rfl rfl hb2 ?_)
        intro w14
        refine gs 1 ?_
        refine g_op rfl (o_storeP tabOk (cs' := [.int .i64 4, .int .i64 0, .str [], .hd 80 w14, .nil]) rfl rfl tsize28 rfl rfl rfl (Nat.le_of_ble_eq_true rfl) rfl rfl rfl ?_)
        refine g_nil ?_
        exact round_mk m2 (y10.2.b, y10.2.p, x11 ++ [(Val.mk 0 0 ([] : Bs) [] [])], w14) (Nat.lt_succ_self _) h (lw [some 0, some 12, some 13, some 80])
       ·replace h := ifF h (dF hc8)
        refine good_exit ?_
        exact hw2 (y10.2.b, y10.2.p, x11) w11 (Option.some.inj h).symm _ (lw [some 0, some 12, some 13, some 6813])
      ·replace h := ifF h (dF hc7)
       refine good_skip ?_
       refine hK3 _ (kp 73 [2, 3] [12, 13, 3001, 3002, 0] ?_)
       refine good_seq fun K27 hK27 => ?_
       refine rg 1 ?_
       refine g_op rfl (o_storeP tabOk (cs' := [.int .i64 y2.1.kind, .int .i64 y2.1.num, .str y2.1.text, .hd 3001 w2, .hd 3002 w3]) rfl rfl tsize30 rfl rfl rfl (Nat.le_of_ble_eq_true rfl) rfl rfl rfl ?_)
       refine gk hK27 73 [2] [12, 3001, 3002, 0] ?_
       refine Good.le (σ' := ⟨73, [(2, .ptr 12 b1 0)], [(100, (w2, .osl 30 5 (y2.1.list.map encOVal))), (101, (w3, .osl 9 1 (y2.1.names.map encS))), (12, ((.pointer (some ⟨b1, 0, none⟩)), .optr 30 [.int .i64 y2.1.kind, .int .i64 y2.1.num, .str y2.1.text, .hd 100 w2, .hd 101 w3])), (0, ((.pointer (some ⟨b0_0, 0, none⟩)), .optr 104 [.sl false (y3.2.b.map (encI .u8)), .int .i64 y3.2.p]))]⟩) (lw [some 3001, some 3002, some 12, some 0]) ?_
       refine good_ret ?_
       obtain rfl := Option.some.inj h
       exact endQ_ret (h' := [(0, (_, _)), (100, (_, _)), (101, (_, _))]) [some 0, some 100, some 101] (.cell rfl rfl tsize30 tagg30 rfl rfl rfl (.nil)) ⟨⟨_, rfl, .refl _⟩, ⟨⟨_, rfl, .refl _⟩, ⟨⟨_, rfl, .refl _⟩, trivial⟩⟩⟩ (by decide) ⟨w2, w3, rfl, rfl⟩
def m_spec_DrawTreeGet (k : Nat) (a0 : (List Int)) : Option (Val × Bs) :=
 (m_spec_l1Open a0).bind fun y1 =>
 (m_spec_l13AnyValue k y1).bind fun y2 =>
 (m_spec_l1Rd_of y2.2 [[97], [98], [99], [114, 101, 102]]).bind fun y3 =>
 some (y2.1, y3.1)
theorem m_spec_DrawTreeGet_ok (k : Nat) : ∀ (a0 : (List Int)) (r : (Val × Bs)), m_spec_DrawTreeGet k a0 = some r → Does Try.prog 30 [.sl false (a0.map (encI .u8))] [] (fun q h' => ∃ u0 : Value, ∃ u1 : Value, q = .tup [.agg [.int .i64 r.1.kind, .int .i64 r.1.num, .str r.1.text, .hd 100 u0, .hd 101 u1], .str r.2] ∧ h' = [(100, (u0, .osl 30 5 (r.1.list.map encOVal))), (101, (u1, .osl 9 1 (r.1.names.map encS)))]) := by
 intro a0 r h
 rw [m_spec_DrawTreeGet] at h
 refine does_of_good tabOk Try.func30 rfl (by decide +kernel) (Nat.le_of_ble_eq_true rfl) fun c => ?_
 refine Good.le (σ' := ⟨12, [(0, .sl false (a0.map (encI .u8)))], []⟩) (Le.refl _) ?_
 refine good_seq fun K1 hK1 => ?_
 refine good_region ?_
 refine g_op rfl (o_alloc (k := 12) tabOk tzero30 rfl rfl ?_)
 intro b1
 refine gs 1 ?_
 refine g_nil (hK1 _ ?_)
 refine good_seq fun K2 hK2 => ?_
 refine rg 1 ?_
 obtain ⟨y1, hy1, h⟩ := bnd h
 refine g_op rfl (o_callD [] [] [] (core_value rfl rfl) (m_spec_l1Open_ok a0 _ hy1) trivial (.cons (.refl _) (.nil)) trivial rfl rfl rfl ?_)
 rintro _ _ ⟨b2, rfl, rfl⟩
 refine ⟨.ptr 3001 b2 0, [(3001, _)], .ptr _ _ _ _, rfl, rfl, rfl, rfl, .inl rfl, ?_⟩
 refine gs 1 ?_
 refine gk hK2 12 [2, 3, 4] [12, 3001] ?_
 refine good_seq fun K3 hK3 => ?_
 refine rg 1 ?_
 obtain ⟨y2, hy2, h⟩ := bnd h
 refine g_op rfl (o_callD [] [] [3001] (core_value rfl rfl) (m_spec_l13AnyValue_ok k y1 b2 _ hy2) trivial (.cons (.ptr _ _ _ _) (.nil)) ⟨rfl, trivial⟩ rfl rfl rfl ?_)
 rintro _ _ ⟨w1, w2, rfl, rfl⟩
 refine ⟨.agg [.int .i64 y2.1.kind, .int .i64 y2.1.num, .str y2.1.text, .hd 3002 w1, .hd 3003 w2], [(3001, _), (3002, _), (3003, _)], .agg (.cons (.refl _) (.cons (.refl _) (.cons (.refl _) (.cons (.hd _ _ _) (.cons (.hd _ _ _) (.nil)))))), rfl, rfl, rfl, rfl, .inl rfl, ?_⟩
 refine gs 1 ?_
 refine g_op rfl (o_buildSlice (k := 20) (rows := [[97], [98], [99], [114, 101, 102]].map encS) tabOk telem23 tsize9 rfl rfl rfl rfl (by decide) (by decide) (by rw [tzero9]; rfl) rfl rfl rfl rfl rfl ?_)
 intro w3
 refine g_le (σ1 := ⟨12, [(2, .ptr 12 b1 0), (3, .str []), (8, .agg [.int .i64 y2.1.kind, .int .i64 y2.1.num, .str y2.1.text, .hd 3002 w1, .hd 3003 w2]), (9, .ptr 3001 b2 0), (10, .sl false ([[97], [98], [99], [114, 101, 102]].map encS))], [(12, ((.pointer (some ⟨b1, 0, none⟩)), .optr 30 [.int .i64 0, .int .i64 0, .str ([] : Bs), .nil, .nil])), (3002, (w1, .osl 30 5 (y2.1.list.map encOVal))), (3003, (w2, .osl 9 1 (y2.1.names.map encS))), (3001, ((.pointer (some ⟨b2, 0, none⟩)), .optr 104 [.sl false (y2.2.b.map (encI .u8)), .int .i64 y2.2.p]))]⟩) (le_of [20] [(_, _)] [some 12, some 3002, some 3003, some 3001] rfl ⟨⟨_, rfl, .osl (FrzLL.map fun _ _ => encS_frz _)⟩, trivial⟩ ⟨⟨_, rfl, .refl _⟩, ⟨⟨_, rfl, .refl _⟩, ⟨⟨_, rfl, .refl _⟩, ⟨⟨_, rfl, .refl _⟩, ⟨⟨_, rfl, .frz _ _ _ (.head _)⟩, trivial⟩⟩⟩⟩⟩ ⟨⟨_, rfl, .refl _⟩, ⟨⟨_, rfl, .refl _⟩, ⟨⟨_, rfl, .refl _⟩, ⟨⟨_, rfl, .refl _⟩, trivial⟩⟩⟩⟩ (by decide) (by decide)) ?_
 obtain ⟨y3, hy3, h⟩ := bnd h
 refine g_op rfl (o_callP (q := 3001) (core_value rfl rfl) (m_spec_l1Rd_of_ok y2.2 [[97], [98], [99], [114, 101, 102]] b2 _ hy3) (.cons (.ptr _ _ _ _) (.cons (.refl _) (.nil))) rfl rfl ?_)
 refine g_op rfl (o_storeP tabOk (cs' := [.int .i64 y2.1.kind, .int .i64 y2.1.num, .str y2.1.text, .hd 3002 w1, .hd 3003 w2]) rfl rfl tsize30 rfl rfl rfl (Nat.le_of_ble_eq_true rfl) rfl rfl rfl ?_)
 refine gs 1 ?_
 refine gk hK3 12 [2, 3] [12, 3002, 3003] ?_
 refine Good.le (σ' := ⟨12, [(2, .ptr 12 b1 0), (3, .str y3.1)], [(100, (w1, .osl 30 5 (y2.1.list.map encOVal))), (101, (w2, .osl 9 1 (y2.1.names.map encS))), (12, ((.pointer (some ⟨b1, 0, none⟩)), .optr 30 [.int .i64 y2.1.kind, .int .i64 y2.1.num, .str y2.1.text, .hd 100 w1, .hd 101 w2]))]⟩) (lw [some 3002, some 3003, some 12]) ?_
 refine good_ret ?_
 obtain rfl := Option.some.inj h
 exact endQ_ret (h' := [(100, (_, _)), (101, (_, _))]) [some 100, some 101] (.cell rfl rfl tsize30 tagg30 rfl rfl rfl (.tmp rfl (.nil))) ⟨⟨_, rfl, .refl _⟩, ⟨⟨_, rfl, .refl _⟩, trivial⟩⟩ (by decide) ⟨w1, w2, rfl, rfl⟩
theorem m_spec_DrawTreeGet_okF (k : Nat) : ∀ (a0 : (List Int)) (r : (Val × Bs)), m_spec_DrawTreeGet k a0 = some r → Does Try.prog 30 [.sl false (a0.map (encI .u8))] [] (ret (.tup [.agg [.int .i64 r.1.kind, .int .i64 r.1.num, .str r.1.text, .sl true (r.1.list.map encVal), .sl false (r.1.names.map encS)], .str r.2])) := by
 intro a0 r h
 refine does_frz (m_spec_DrawTreeGet_ok k a0 r h) ?_
 rintro q h' ⟨u0, u1, rfl, rfl⟩
 exact ⟨[100, 101], [(_, _), (_, _)], ⟨⟨_, rfl, .osl (FrzLL.map fun _ _ => encOVal_frz _)⟩, ⟨⟨_, rfl, .osl (FrzLL.map fun _ _ => encS_frz _)⟩, trivial⟩⟩, .tup (.cons (.agg (.cons (.refl _) (.cons (.refl _) (.cons (.refl _) (.cons (.frz _ _ _ (.head _)) (.cons (.frz _ _ _ (.tail _ (.head _))) (.nil))))))) (.cons (.refl _) (.nil)))⟩
def m_spec_DrawValueSorted (k : Nat) (a0 : (List Int)) : Option Val :=
 (m_spec_l1Open a0).bind fun y1 =>
 (m_spec_l13AnyValue k y1).bind fun y2 =>
 some y2.1
theorem m_spec_DrawValueSorted_ok (k : Nat) : ∀ (a0 : (List Int)) (r : Val), m_spec_DrawValueSorted k a0 = some r → Does Try.prog 32 [.sl false (a0.map (encI .u8))] [] (fun q h' => ∃ u0 : Value, ∃ u1 : Value, q = .agg [.int .i64 r.kind, .int .i64 r.num, .str r.text, .hd 100 u0, .hd 101 u1] ∧ h' = [(100, (u0, .osl 30 5 (r.list.map encOVal))), (101, (u1, .osl 9 1 (r.names.map encS)))]) := by
 intro a0 r h
 rw [m_spec_DrawValueSorted] at h
 refine does_of_good tabOk Try.func32 rfl (by decide +kernel) (Nat.le_of_ble_eq_true rfl) fun c => ?_
 refine Good.le (σ' := ⟨6, [(0, .sl false (a0.map (encI .u8)))], []⟩) (Le.refl _) ?_
 refine good_seq fun K1 hK1 => ?_
 refine good_region ?_
 refine g_op rfl (o_alloc (k := 12) tabOk tzero30 rfl rfl ?_)
 intro b1
 refine g_nil (hK1 _ ?_)
 refine good_seq fun K2 hK2 => ?_
 refine rg 1 ?_
 obtain ⟨y1, hy1, h⟩ := bnd h
 refine g_op rfl (o_callD [] [] [] (core_value rfl rfl) (m_spec_l1Open_ok a0 _ hy1) trivial (.cons (.refl _) (.nil)) trivial rfl rfl rfl ?_)
 rintro _ _ ⟨b2, rfl, rfl⟩
 refine ⟨.ptr 3001 b2 0, [(3001, _)], .ptr _ _ _ _, rfl, rfl, rfl, rfl, .inl rfl, ?_⟩
 obtain ⟨y2, hy2, h⟩ := bnd h
 refine g_op rfl (o_callD [] [] [3001] (core_value rfl rfl) (m_spec_l13AnyValue_ok k y1 b2 _ hy2) trivial (.cons (.ptr _ _ _ _) (.nil)) ⟨rfl, trivial⟩ rfl rfl rfl ?_)
 rintro _ _ ⟨w1, w2, rfl, rfl⟩
 refine ⟨.agg [.int .i64 y2.1.kind, .int .i64 y2.1.num, .str y2.1.text, .hd 3002 w1, .hd 3003 w2], [(3001, _), (3002, _), (3003, _)], .agg (.cons (.refl _) (.cons (.refl _) (.cons (.refl _) (.cons (.hd _ _ _) (.cons (.hd _ _ _) (.nil)))))), rfl, rfl, rfl, rfl, .inl rfl, ?_⟩
 refine g_op rfl (o_storeP tabOk (cs' := [.int .i64 y2.1.kind, .int .i64 y2.1.num, .str y2.1.text, .hd 3002 w1, .hd 3003 w2]) rfl rfl tsize30 rfl rfl rfl (Nat.le_of_ble_eq_true rfl) rfl rfl rfl ?_)
 refine gk hK2 6 [2] [12, 3002, 3003] ?_
 refine Good.le (σ' := ⟨6, [(2, .ptr 12 b1 0)], [(100, (w1, .osl 30 5 (y2.1.list.map encOVal))), (101, (w2, .osl 9 1 (y2.1.names.map encS))), (12, ((.pointer (some ⟨b1, 0, none⟩)), .optr 30 [.int .i64 y2.1.kind, .int .i64 y2.1.num, .str y2.1.text, .hd 100 w1, .hd 101 w2]))]⟩) (lw [some 3002, some 3003, some 12]) ?_
 refine good_ret ?_
 obtain rfl := Option.some.inj h
 exact endQ_ret (h' := [(100, (_, _)), (101, (_, _))]) [some 100, some 101] (.cell rfl rfl tsize30 tagg30 rfl rfl rfl (.nil)) ⟨⟨_, rfl, .refl _⟩, ⟨⟨_, rfl, .refl _⟩, trivial⟩⟩ (by decide) ⟨w1, w2, rfl, rfl⟩
theorem m_spec_DrawValueSorted_okF (k : Nat) : ∀ (a0 : (List Int)) (r : Val), m_spec_DrawValueSorted k a0 = some r → Does Try.prog 32 [.sl false (a0.map (encI .u8))] [] (ret (.agg [.int .i64 r.kind, .int .i64 r.num, .str r.text, .sl true (r.list.map encVal), .sl false (r.names.map encS)])) := by
 intro a0 r h
 refine does_frz (m_spec_DrawValueSorted_ok k a0 r h) ?_
 rintro q h' ⟨u0, u1, rfl, rfl⟩
 exact ⟨[100, 101], [(_, _), (_, _)], ⟨⟨_, rfl, .osl (FrzLL.map fun _ _ => encOVal_frz _)⟩, ⟨⟨_, rfl, .osl (FrzLL.map fun _ _ => encS_frz _)⟩, trivial⟩⟩, .agg (.cons (.refl _) (.cons (.refl _) (.cons (.refl _) (.cons (.frz _ _ _ (.head _)) (.cons (.frz _ _ _ (.tail _ (.head _))) (.nil))))))⟩
end Go.Proofs.Ytiaigcdckmpepaa
end
end
