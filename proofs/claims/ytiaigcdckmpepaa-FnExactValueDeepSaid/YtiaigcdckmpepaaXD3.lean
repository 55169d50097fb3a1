/- Parts of a proof, put together; the conditions stand in each theorem. -/
import Derived.Test.YtiaigcdckmpepaaXD2
section
/-! Outcomes, with enough fuel. -/
set_option linter.unusedVariables false
set_option linter.unusedSimpArgs false
namespace Go.Bb
/-- With enough fuel each outcome is r. -/
def WEv {R : Type} (m : Nat → W R) (r : R) : Prop := ∃ K, ∀ k, K ≤ k → ∀ q : R → Prop, q r → m k q
section
variable {R S Y : Type}
theorem WEv.get {m : Nat → W R} {r : R} (h : WEv m r) : ∃ K, ∀ k, K ≤ k → m k (fun x => x = r) := let ⟨K, h⟩ := h; ⟨K, fun k hk => h k hk _ rfl⟩
theorem we_pw (r : R) : WEv (fun _ => pw r) r := ⟨0, fun _ _ _ h => h⟩
theorem we_eq {m : Nat → W R} {r r' : R} (h : WEv m r) (e : r = r') : WEv m r' := e ▸ h
theorem we_shift {m : Nat → W R} {r : R} : WEv m r ↔ WEv (fun k => m (k + 1)) r :=
  ⟨fun ⟨K, h⟩ => ⟨K, fun k hk => h (k + 1) (by omega)⟩, fun ⟨K, h⟩ => ⟨K + 1, fun k hk => by obtain ⟨j, rfl⟩ : ∃ j, k = j + 1 := ⟨k - 1, by omega⟩; exact h j (by omega)⟩⟩
theorem weT {c : Prop} [Decidable c] {f g : Nat → W R} {r : R} (hc : c) : WEv (fun k => if c then f k else g k) r ↔ WEv f r := by simp only [if_pos hc]
theorem weF {c : Prop} [Decidable c] {f g : Nat → W R} {r : R} (hc : ¬ c) : WEv (fun k => if c then f k else g k) r ↔ WEv g r := by simp only [if_neg hc]
theorem we_cw {c : Nat → Option Y} {f : Nat → Y → W R} {y : Y} {r : R} (h : Ev c y) (h2 : WEv (fun k => f k y) r) : WEv (fun k => cw (c k) (f k)) r := by
  obtain ⟨K, h⟩ := h
  obtain ⟨K2, h2⟩ := h2
  exact ⟨max K K2, fun k hk q hq => ⟨y, h k (by omega), h2 k (by omega) q hq⟩⟩
theorem we_lk {c : Prop} {a b : Nat → W R} {r : R} (hb : WEv b r) (ha : c → WEv a r) : WEv (fun k => lk c (a k) (b k)) r := by
  obtain ⟨K, hb⟩ := hb
  by_cases hc : c
  · obtain ⟨K2, ha⟩ := ha hc
    exact ⟨max K K2, fun k hk q hq => ⟨hb k (by omega) q hq, fun _ => ha k (by omega) q hq⟩⟩
  · exact ⟨K, fun k hk q hq => ⟨hb k hk q hq, fun h => absurd h hc⟩⟩
theorem we_go {m : Nat → W (Lp S R)} {f : Nat → S → W R} {s : S} {r : R} (h : WEv m (.go s)) (h2 : WEv (fun k => f k s) r) : WEv (fun k => tw (m k) (f k)) r := by
  obtain ⟨K, h⟩ := h
  obtain ⟨K2, h2⟩ := h2
  exact ⟨max K K2, fun k hk q hq => h k (by omega) _ (h2 k (by omega) q hq)⟩
theorem we_ret {m : Nat → W (Lp S R)} {f : Nat → S → W R} {r : R} (h : WEv m (.ret r)) : WEv (fun k => tw (m k) (f k)) r := by
  obtain ⟨K, h⟩ := h
  exact ⟨K, fun k hk q hq => h k hk _ hq⟩
theorem we_rtw {m : Nat → W R} {r : R} (h : WEv m r) : WEv (fun k => (rtw (m k) : W (Lp S R))) (.ret r) := by
  obtain ⟨K, h⟩ := h
  exact ⟨K, fun k hk q hq => h k hk _ hq⟩
end
end Go.Bb
end
section
/-! Functions of the program. -/
set_option linter.unusedVariables false
set_option linter.unnecessarySimpa false
set_option maxRecDepth 100000
set_option maxHeartbeats 20000000
noncomputable section
namespace Go.Proofs.Ytiaigcdckmpepaa
open Go.Bb
def m_laws_markText_l1 : Nat → Int → Bs → Option (Lp Bs Bs)
 | 0, _, _ => none
 | k + 1, x1, x2 =>
  if 0 < x1 then
   if ((ofI [IntKind.wrap .u8 (IntKind.wrap .i64 (48 + (Int.tmod x1 10)))]) ++ x2).length ≤ maxLen then
    m_laws_markText_l1 k (IntKind.wrap .i64 (Int.tdiv x1 10)) ((ofI [IntKind.wrap .u8 (IntKind.wrap .i64 (48 + (Int.tmod x1 10)))]) ++ x2)
   else none
  else
   some (Lp.go x2)
def m_laws_markText (k : Nat) (a0 : Int) : Option Bs :=
 if a0 ≤ 0 then
  some [109, 48]
 else
  (m_laws_markText_l1 k a0 []).bind fun o1 =>
  o1.then fun s1 =>
  if ([109] ++ s1).length ≤ maxLen then
   some ([109] ++ s1)
  else none
theorem m_laws_markText_ok (k : Nat) : ∀ (a0 : Int) (r : Bs), m_laws_markText k a0 = some r → Does Try.prog 86 [.int .i64 a0] [] (ret (.str r)) := by
 intro a0 r h
 rw [m_laws_markText] at h
 refine does_of_good tabOk Try.func86 rfl (by decide +kernel) (Nat.le_of_ble_eq_true rfl) fun c => ?_
 refine Good.le (σ' := ⟨20, [(0, .int .i64 a0)], []⟩) (Le.refl _) ?_
 refine good_seq fun K1 hK1 => ?_
 refine rg 1 ?_
 refine g_nil (hK1 _ ?_)
 refine good_seq fun K2 hK2 => ?_
 refine good_seq fun K3 hK3 => ?_
 refine rg 2 ?_
 refine gk hK3 20 [0, 2, 5] [] ?_
 refine good_cond rfl (fun hc1 => ?_) (fun hc1 => ?_)
 ·replace h := ifT h (dT hc1)
  refine good_seq fun K4 hK4 => ?_
  refine rg 1 ?_
  refine gk hK4 20 [0, 2] [] ?_
  obtain rfl := Option.some.inj h
  exact rt
 ·replace h := ifF h (dF hc1)
  refine good_skip ?_
  refine hK2 _ (kp 20 [0, 2] [] ?_)
  refine good_seq fun K5 hK5 => ?_
  refine rg 1 ?_
  refine g_nil (hK5 _ ?_)
  refine good_seq fun K6 hK6 => ?_
  obtain ⟨o1, ho1, hJ1⟩ := bnd h
  have hw1 : ∀ (s1 : Bs), o1 = Lp.go s1 → ∀ σ', Le σ' ⟨20, [(2, .str []), (3, .str s1)], []⟩ → K6 σ' := by
   intro s1 e1 σ' hle1
   subst e1
   refine hK6 _ (Good.le hle1 ?_)
   replace h := hJ1
   refine good_seq fun K7 hK7 => ?_
   refine rg 1 ?_
   obtain ⟨hb1, h⟩ := ifS h
   refine g_op rfl (ValOk.op (v_cat rfl rfl hb1 rfl ?_))
   refine gs 1 ?_
   refine gk hK7 20 [2] [] ?_
   obtain rfl := Option.some.inj h
   exact rt
  replace h := ho1
  refine good_block ?_
  refine good_loopf (fun p : (Int × Bs) => ⟨20, [(0, .int .i64 p.1), (2, .str []), (3, .str p.2)], []⟩) (fun m p => m_laws_markText_l1 m p.1 p.2 = some o1) k (a0, []) (lw []) h ?_
  rintro m1 ⟨x1, x2⟩ h
  replace h : m_laws_markText_l1 m1 x1 x2 = some o1 := h
  refine Good.le (σ' := ⟨20, [(0, .int .i64 x1), (2, .str []), (3, .str x2)], []⟩) (Le.refl _) ?_
  obtain ⟨m1, rfl⟩ : ∃ m', m1 = m' + 1 := by cases m1 with | zero => (rw [m_laws_markText_l1] at h; cases h) | succ m' => exact ⟨m', rfl⟩
  rw [m_laws_markText_l1] at h
  refine good_seq fun K8 hK8 => ?_
  refine good_seq fun K9 hK9 => ?_
  refine rg 2 ?_
  refine gk hK9 20 [0, 2, 3, 7] [] ?_
  refine good_cond rfl (fun hc2 => ?_) (fun hc2 => ?_)
  ·replace h := ifT h (dT hc2)
   refine good_skip ?_
   refine hK8 _ (kp 20 [0, 2, 3] [] ?_)
   refine good_block ?_
   refine good_seq fun K10 hK10 => ?_
   refine rg 1 ?_
   refine g_op rfl (ValOk.op (v_rem rfl rfl (by decide) rfl ?_))
   refine gs 1 ?_
   refine g_op rfl (ValOk.op (v_convI tabOk rfl tkind3 tkind5 rfl ?_))
   refine g_op rfl (o_buildSlice (k := 22) (rows := [IntKind.wrap .u8 (IntKind.wrap .i64 (48 + (Int.tmod x1 10)))].map (encI .u8)) tabOk telem42 tsize5 rfl rfl rfl rfl (by decide) (by decide) (by rw [tzero5]; rfl) rfl rfl rfl rfl rfl ?_)
   intro w1
   refine g_op rfl (ValOk.op (v_bytesHI (q := 22) tabOk ⟨_, rfl⟩ rfl telem42 tkind5 tkind9 rfl ?_))
   refine gs 1 ?_
   obtain ⟨hb2, h⟩ := ifS h
   refine g_op rfl (ValOk.op (v_cat rfl rfl hb2 rfl ?_))
   refine gs 1 ?_
   refine gk hK10 20 [0, 2, 3] [] ?_
   refine rg 1 ?_
   refine g_op rfl (ValOk.op (v_quo rfl rfl (by decide) rfl ?_))
   refine gs 1 ?_
   refine g_nil ?_
   exact round_mk m1 (IntKind.wrap .i64 (Int.tdiv x1 10), (ofI [IntKind.wrap .u8 (IntKind.wrap .i64 (48 + (Int.tmod x1 10)))]) ++ x2) (Nat.lt_succ_self _) h (lw [])
  ·replace h := ifF h (dF hc2)
   refine good_exit ?_
   exact hw1 x2 (Option.some.inj h).symm _ (lw [])
def m_laws_markStringS_l1 : Nat → (List Bs) → Int → Int → Option (Lp ((List Bs) × Int) (Int × (List Bs)))
 | 0, _, _, _ => none
 | k + 1, x1, x2, x3 =>
  if x3 < (x1.length : Int) then
   (m_laws_markText k x2).bind fun y1 =>
   if (0 : Int) ≤ x3 ∧ x3 < (x1.length : Int) then
    m_laws_markStringS_l1 k (x1.set (Int.toNat x3) y1) (IntKind.wrap .i64 (x2 + 1)) (IntKind.wrap .i64 (x3 + 1))
   else none
  else
   some (Lp.go (x1, x2))
def m_laws_markStringS (k : Nat) (a0 : (List Bs)) (a1 : Int) : Option (Int × (List Bs)) :=
 (m_laws_markStringS_l1 k a0 a1 0).bind fun o1 =>
 o1.then fun s1 =>
  some (s1.2, s1.1)
theorem m_laws_markStringS_ok (k : Nat) : ∀ (a0 : (List Bs)) (a1 : Int) (v0_0 : Value) (r : (Int × (List Bs))), m_laws_markStringS k a0 a1 = some r → Does Try.prog 58 [.hd 0 v0_0, .int .i64 a1] [(0, (v0_0, .osl 9 1 (a0.map encS)))] (fun q h' => q = .int .i64 r.1 ∧ h' = [(0, (v0_0, .osl 9 1 (r.2.map encS)))]) := by
 intro a0 a1 v0_0 r h
 rw [m_laws_markStringS] at h
 refine does_of_good tabOk Try.func58 rfl (by decide +kernel) (Nat.le_of_ble_eq_true rfl) fun c => ?_
 refine Good.le (σ' := ⟨20, [(0, .hd 0 v0_0), (1, .int .i64 a1)], [(0, (v0_0, .osl 9 1 (a0.map encS)))]⟩) (Le.refl _) ?_
 refine good_seq fun K1 hK1 => ?_
 refine rg 1 ?_
 refine g_nil (hK1 _ ?_)
 refine good_seq fun K2 hK2 => ?_
 refine good_seq fun K3 hK3 => ?_
 refine rg 1 ?_
 refine g_nil (hK3 _ ?_)
 obtain ⟨o1, ho1, hJ1⟩ := bnd h
 have hw1 : ∀ (s1 : ((List Bs) × Int)), o1 = Lp.go s1 → ∀ σ', Le σ' ⟨20, [(1, .int .i64 s1.2), (4, .int .i64 0)], [(0, (v0_0, .osl 9 1 (s1.1.map encS)))]⟩ → K2 σ' := by
  intro s1 e1 σ' hle1
  subst e1
  refine hK2 _ (Good.le hle1 ?_)
  replace h := hJ1
  refine good_seq fun K4 hK4 => ?_
  refine rg 2 ?_
  refine gk hK4 20 [4] [0] ?_
  refine Good.le (σ' := ⟨20, [(4, .int .i64 s1.2)], [(0, (v0_0, .osl 9 1 (s1.1.map encS)))]⟩) (lw [some 0]) ?_
  refine good_ret ?_
  obtain rfl := Option.some.inj h
  exact endQ_ret (h' := [(0, (_, _))]) [some 0] (.tmp rfl (.nil)) ⟨⟨_, rfl, .refl _⟩, trivial⟩ (by decide) ⟨rfl, rfl⟩
 replace h := ho1
 refine good_block ?_
 refine good_loopf (fun p : ((List Bs) × Int × Int) => ⟨20, [(0, .hd 0 v0_0), (1, .int .i64 p.2.1), (4, .int .i64 0), (5, .int .i64 p.2.2)], [(0, (v0_0, .osl 9 1 (p.1.map encS)))]⟩) (fun m p => m_laws_markStringS_l1 m p.1 p.2.1 p.2.2 = some o1) k (a0, a1, 0) (lw [some 0]) h ?_
 rintro m1 ⟨x1, x2, x3⟩ h
 replace h : m_laws_markStringS_l1 m1 x1 x2 x3 = some o1 := h
 refine Good.le (σ' := ⟨20, [(0, .hd 0 v0_0), (1, .int .i64 x2), (4, .int .i64 0), (5, .int .i64 x3)], [(0, (v0_0, .osl 9 1 (x1.map encS)))]⟩) (Le.refl _) ?_
 obtain ⟨m1, rfl⟩ : ∃ m', m1 = m' + 1 := by cases m1 with | zero => (rw [m_laws_markStringS_l1] at h; cases h) | succ m' => exact ⟨m', rfl⟩
 rw [m_laws_markStringS_l1] at h
 refine good_seq fun K5 hK5 => ?_
 refine good_seq fun K6 hK6 => ?_
 refine rg 2 ?_
 refine g_op rfl (ValOk.op (v_lenHM (q := 0) tabOk ⟨_, rfl⟩ rfl rfl telem23 rfl ?_))
 refine gs 1 ?_
 refine gk hK6 20 [0, 1, 4, 5, 9] [0] ?_
 refine good_cond rfl (fun hc1 => ?_) (fun hc1 => ?_)
 ·replace h := ifT h (dT hc1)
  refine good_skip ?_
  refine hK5 _ (kp 20 [0, 1, 4, 5] [0] ?_)
  refine good_seq fun K7 hK7 => ?_
  refine good_block ?_
  refine good_seq fun K8 hK8 => ?_
  refine rg 3 ?_
  obtain ⟨y1, hy1, h⟩ := bnd h
  refine g_op rfl (o_callR [] [] (core_value rfl rfl) (m_laws_markText_ok m1 x2 _ hy1) trivial (.cons (.refl _) (.nil)) (.inl rfl) rfl ?_)
  obtain ⟨hb1, h⟩ := ifS h
  refine g_op rfl (ValOk.op (v_idxHM (q := 0) tabOk ⟨_, rfl⟩ rfl rfl telem23 tsize9 hb1 rfl ?_))
  refine g_op rfl (o_storeRM tabOk (z := y1) rfl rfl tsize9 rfl hb1 rfl rfl rfl (by decide) rfl rfl rfl rfl ?_)
  refine gk hK8 20 [0, 1, 4, 5] [0] ?_
  refine rg 3 ?_
  refine gk hK7 20 [0, 1, 4, 5] [0] ?_
  refine rg 3 ?_
  refine g_nil ?_
  exact round_mk m1 (x1.set (Int.toNat x3) y1, IntKind.wrap .i64 (x2 + 1), IntKind.wrap .i64 (x3 + 1)) (Nat.lt_succ_self _) h (lw [some 0])
 ·replace h := ifF h (dF hc1)
  refine good_exit ?_
  exact hw1 (x1, x2) (Option.some.inj h).symm _ (lw [some 0])
mutual
def m_laws_markValueS_l1 : Nat → (List Val) → Int → Int → Option (Lp ((List Val) × Int) (Int × (List Val)))
 | 0, _, _, _ => none
 | k + 1, x1, x2, x3 =>
  if x3 < (x1.length : Int) then
   if (0 : Int) ≤ x3 ∧ x3 < (x1.length : Int) then
    (m_laws_markText k (IntKind.wrap .i64 ((IntKind.wrap .i64 (x2 + 1)) + 1))).bind fun y1 =>
    (m_laws_markValueS k ((ix x1 x3).list) (IntKind.wrap .i64 ((IntKind.wrap .i64 ((IntKind.wrap .i64 (x2 + 1)) + 1)) + 1))).bind fun y2 =>
    (m_laws_markStringS k ((ix x1 x3).names) y2.1).bind fun y3 =>
    m_laws_markValueS_l1 k (x1.set (Int.toNat x3) (Val.mk x2 (IntKind.wrap .i64 (x2 + 1)) y1 y2.2 y3.2)) y3.1 (IntKind.wrap .i64 (x3 + 1))
   else none
  else
   some (Lp.go (x1, x2))
def m_laws_markValueS : Nat → (List Val) → Int → Option (Int × (List Val))
 | 0, _, _ => none
 | k + 1, a0, a1 =>
  (m_laws_markValueS_l1 k a0 a1 0).bind fun o1 =>
  o1.then fun s1 =>
  some (s1.2, s1.1)
end
def P_m_laws_markValueS (k : Nat) : Prop := ∀ (a0 : (List Val)) (a1 : Int) (v0_0 : Value) (r : (Int × (List Val))), m_laws_markValueS k a0 a1 = some r → Does Try.prog 57 [.hd 0 v0_0, .int .i64 a1] [(0, (v0_0, .osl 30 5 (a0.map encOVal)))] (fun q h' => q = .int .i64 r.1 ∧ h' = [(0, (v0_0, .osl 30 5 (r.2.map encOVal)))])
theorem m_laws_markValueS_step (k : Nat) (ih : ∀ m, m < k → P_m_laws_markValueS m) : P_m_laws_markValueS k := by
 intro a0 a1 v0_0 r h
 obtain ⟨k, rfl⟩ : ∃ k', k = k' + 1 := by cases k with | zero => (rw [m_laws_markValueS] at h; cases h) | succ k' => exact ⟨k', rfl⟩
 rw [m_laws_markValueS] at h
 refine does_of_good tabOk Try.func57 rfl (by decide +kernel) (Nat.le_of_ble_eq_true rfl) fun c => ?_
 refine Good.le (σ' := ⟨49, [(0, .hd 0 v0_0), (1, .int .i64 a1)], [(0, (v0_0, .osl 30 5 (a0.map encOVal)))]⟩) (Le.refl _) ?_
 refine good_seq fun K1 hK1 => ?_
 refine rg 1 ?_
 refine g_nil (hK1 _ ?_)
 refine good_seq fun K2 hK2 => ?_
 refine good_seq fun K3 hK3 => ?_
 refine rg 1 ?_
 refine g_nil (hK3 _ ?_)
 obtain ⟨o1, ho1, hJ1⟩ := bnd h
 have hw1 : ∀ (s1 : ((List Val) × Int)), o1 = Lp.go s1 → ∀ σ', Le σ' ⟨49, [(1, .int .i64 s1.2), (4, .int .i64 0)], [(0, (v0_0, .osl 30 5 (s1.1.map encOVal)))]⟩ → K2 σ' := by
  intro s1 e1 σ' hle1
  subst e1
  refine hK2 _ (Good.le hle1 ?_)
  replace h := hJ1
  refine good_seq fun K4 hK4 => ?_
  refine rg 2 ?_
  refine gk hK4 49 [4] [0] ?_
  refine Good.le (σ' := ⟨49, [(4, .int .i64 s1.2)], [(0, (v0_0, .osl 30 5 (s1.1.map encOVal)))]⟩) (lw [some 0]) ?_
  refine good_ret ?_
  obtain rfl := Option.some.inj h
  exact endQ_ret (h' := [(0, (_, _))]) [some 0] (.tmp rfl (.nil)) ⟨⟨_, rfl, .refl _⟩, trivial⟩ (by decide) ⟨rfl, rfl⟩
 replace h := ho1
 refine good_block ?_
 refine good_loopf (fun p : ((List Val) × Int × Int) => ⟨49, [(0, .hd 0 v0_0), (1, .int .i64 p.2.1), (4, .int .i64 0), (5, .int .i64 p.2.2)], [(0, (v0_0, .osl 30 5 (p.1.map encOVal)))]⟩) (fun m p => m < k + 1 ∧ m_laws_markValueS_l1 m p.1 p.2.1 p.2.2 = some o1) k (a0, a1, 0) (lw [some 0]) ⟨by omega, h⟩ ?_
 rintro m1 ⟨x1, x2, x3⟩ ⟨hm, h⟩
 replace h : m_laws_markValueS_l1 m1 x1 x2 x3 = some o1 := h
 refine Good.le (σ' := ⟨49, [(0, .hd 0 v0_0), (1, .int .i64 x2), (4, .int .i64 0), (5, .int .i64 x3)], [(0, (v0_0, .osl 30 5 (x1.map encOVal)))]⟩) (Le.refl _) ?_
 obtain ⟨m1, rfl⟩ : ∃ m', m1 = m' + 1 := by cases m1 with | zero => (rw [m_laws_markValueS_l1] at h; cases h) | succ m' => exact ⟨m', rfl⟩
 rw [m_laws_markValueS_l1] at h
 refine good_seq fun K5 hK5 => ?_
 refine good_seq fun K6 hK6 => ?_
 refine rg 2 ?_
 refine g_op rfl (ValOk.op (v_lenHM (q := 0) tabOk ⟨_, rfl⟩ rfl rfl telem28 rfl ?_))
 refine gs 1 ?_
 refine gk hK6 49 [0, 1, 4, 5, 9] [0] ?_
 refine good_cond rfl (fun hc1 => ?_) (fun hc1 => ?_)
 ·replace h := ifT h (dT hc1)
  refine good_skip ?_
  refine hK5 _ (kp 49 [0, 1, 4, 5] [0] ?_)
  refine good_seq fun K7 hK7 => ?_
  refine good_block ?_
  refine good_seq fun K8 hK8 => ?_
  refine rg 3 ?_
  obtain ⟨hb1, h⟩ := ifS h
  refine g_op rfl (ValOk.op (v_idxHM (q := 0) tabOk ⟨_, rfl⟩ rfl rfl telem28 tsize30 hb1 rfl ?_))
  refine g_op rfl (ValOk.op (v_fieldR tabOk rfl tfoff30_0 rfl ?_))
  refine g_op rfl (o_storeRM tabOk (z := (Val.mk x2 ((ix x1 x3).num) ((ix x1 x3).text) ((ix x1 x3).list) ((ix x1 x3).names))) rfl rfl tsize3 rfl hb1 (encOVal_eq _) rfl rfl (by decide) rfl rfl (encOVal_eq _) rfl ?_)
  refine gk hK8 49 [0, 1, 4, 5] [0] ?_
  refine good_seq fun K9 hK9 => ?_
  refine rg 3 ?_
  refine gk hK9 49 [0, 1, 4, 5] [0] ?_
  refine good_seq fun K10 hK10 => ?_
  refine rg 3 ?_
  have hb2 : (0 : Int) ≤ x3 ∧ x3 < ((x1.set (Int.toNat x3) (Val.mk x2 ((ix x1 x3).num) ((ix x1 x3).text) ((ix x1 x3).list) ((ix x1 x3).names))).length : Int) := len_setI hb1
  refine g_op rfl (ValOk.op (v_idxHM (q := 0) tabOk ⟨_, rfl⟩ rfl rfl telem28 tsize30 hb2 rfl ?_))
  refine g_op rfl (ValOk.op (v_fieldR tabOk rfl tfoff30_1 rfl ?_))
  refine g_op rfl (o_storeRU tabOk (z := (Val.mk x2 (IntKind.wrap .i64 (x2 + 1)) ((ix x1 x3).text) ((ix x1 x3).list) ((ix x1 x3).names))) rfl rfl tsize3 rfl hb2 ((congrArg encOVal (ix_setI hb1)).trans (encOVal_eq _)) rfl rfl (by decide) rfl rfl (encOVal_eq _) rfl ?_)
  refine gk hK10 49 [0, 1, 4, 5] [0] ?_
  refine good_seq fun K11 hK11 => ?_
  refine rg 3 ?_
  refine gk hK11 49 [0, 1, 4, 5] [0] ?_
  refine good_seq fun K12 hK12 => ?_
  refine rg 3 ?_
  obtain ⟨y1, hy1, h⟩ := bnd h
  refine g_op rfl (o_callR [] [] (core_value rfl rfl) (m_laws_markText_ok m1 (IntKind.wrap .i64 ((IntKind.wrap .i64 (x2 + 1)) + 1)) _ hy1) trivial (.cons (.refl _) (.nil)) (.inl rfl) rfl ?_)
  have hb3 : (0 : Int) ≤ x3 ∧ x3 < ((x1.set (Int.toNat x3) (Val.mk x2 (IntKind.wrap .i64 (x2 + 1)) ((ix x1 x3).text) ((ix x1 x3).list) ((ix x1 x3).names))).length : Int) := len_setI hb1
  refine g_op rfl (ValOk.op (v_idxHM (q := 0) tabOk ⟨_, rfl⟩ rfl rfl telem28 tsize30 hb3 rfl ?_))
  refine g_op rfl (ValOk.op (v_fieldR tabOk rfl tfoff30_2 rfl ?_))
  refine g_op rfl (o_storeRU tabOk (z := (Val.mk x2 (IntKind.wrap .i64 (x2 + 1)) y1 ((ix x1 x3).list) ((ix x1 x3).names))) rfl rfl tsize9 rfl hb3 ((congrArg encOVal (ix_setI hb1)).trans (encOVal_eq _)) rfl rfl (by decide) rfl rfl (encOVal_eq _) rfl ?_)
  refine gk hK12 49 [0, 1, 4, 5] [0] ?_
  refine good_seq fun K13 hK13 => ?_
  refine rg 3 ?_
  refine gk hK13 49 [0, 1, 4, 5] [0] ?_
  refine good_seq fun K14 hK14 => ?_
  refine rg 2 ?_
  have hb4 : (0 : Int) ≤ x3 ∧ x3 < ((x1.set (Int.toNat x3) (Val.mk x2 (IntKind.wrap .i64 (x2 + 1)) y1 ((ix x1 x3).list) ((ix x1 x3).names))).length : Int) := len_setI hb1
  refine g_op rfl (ValOk.op (v_idxHM (q := 0) tabOk ⟨_, rfl⟩ rfl rfl telem28 tsize30 hb4 rfl ?_))
  refine g_op rfl (ValOk.op (v_fieldR tabOk rfl tfoff30_3 rfl ?_))
  refine g_leE (le_focus (k := 0) (row := [.int .i64 x2, .int .i64 (IntKind.wrap .i64 (x2 + 1)), .str y1, .osl 30 5 (((ix x1 x3).list).map encOVal), .osl 9 1 (((ix x1 x3).names).map encS)]) (Int.toNat x3) 3 8001 rfl rfl ((get_map hb4.1 hb4.2).trans (congrArg some ((congrArg encOVal (ix_setI hb1)).trans (encOVal_eq _)))) rfl) ?_
  intro w1
  refine g_op rfl (ValOk.op (v_loadR tabOk rfl rfl (rows_set_get (by have := hb4; simp only [List.length_map]; omega)) tsize28 tagg28 rfl rfl rfl rfl ?_))
  refine gs 1 ?_
  obtain ⟨y2, hy2, h⟩ := bnd h
  refine g_op rfl (o_callD [] [] [8001] (core_value rfl rfl) ((ih m1 (by omega)) ((ix x1 x3).list) (IntKind.wrap .i64 ((IntKind.wrap .i64 ((IntKind.wrap .i64 (x2 + 1)) + 1)) + 1)) _ _ hy2) trivial (.cons (.hd _ _ _) (.cons (.refl _) (.nil))) ⟨rfl, trivial⟩ rfl rfl rfl ?_)
  rintro _ _ ⟨rfl, rfl⟩
  refine ⟨_, [(8001, _)], .refl _, rfl, rfl, rfl, rfl, .inl rfl, ?_⟩
  refine gs 1 ?_
  refine g_le (le_absorb (k := 0) (k2 := 8001) (rows' := (x1.set (Int.toNat x3) (Val.mk x2 (IntKind.wrap .i64 (x2 + 1)) y1 y2.2 ((ix x1 x3).names))).map encOVal) (Int.toNat x3) 3 _ rfl rfl (by decide) (rows_set_get (by have := hb4; simp only [List.length_map]; omega)) rfl (rows_set_done2 (f := encOVal) (z := (Val.mk x2 (IntKind.wrap .i64 (x2 + 1)) y1 y2.2 ((ix x1 x3).names))) (encOVal_eq _))) ?_
  refine gk hK14 49 [0, 1, 4, 5] [0] ?_
  refine rg 2 ?_
  have hb5 : (0 : Int) ≤ x3 ∧ x3 < ((x1.set (Int.toNat x3) (Val.mk x2 (IntKind.wrap .i64 (x2 + 1)) y1 y2.2 ((ix x1 x3).names))).length : Int) := len_setI hb1
  refine g_op rfl (ValOk.op (v_idxHM (q := 0) tabOk ⟨_, rfl⟩ rfl rfl telem28 tsize30 hb5 rfl ?_))
  refine g_op rfl (ValOk.op (v_fieldR tabOk rfl tfoff30_4 rfl ?_))
  refine g_leE (le_focus (k := 0) (row := [.int .i64 x2, .int .i64 (IntKind.wrap .i64 (x2 + 1)), .str y1, .osl 30 5 (y2.2.map encOVal), .osl 9 1 (((ix x1 x3).names).map encS)]) (Int.toNat x3) 4 8002 rfl rfl ((get_map hb5.1 hb5.2).trans (congrArg some ((congrArg encOVal (ix_setI hb1)).trans (encOVal_eq _)))) rfl) ?_
  intro w2
  refine g_op rfl (ValOk.op (v_loadR tabOk rfl rfl (rows_set_get (by have := hb5; simp only [List.length_map]; omega)) tsize23 tagg23 rfl rfl rfl rfl ?_))
  refine gs 1 ?_
  obtain ⟨y3, hy3, h⟩ := bnd h
  refine g_op rfl (o_callD [] [] [8002] (core_value rfl rfl) (m_laws_markStringS_ok m1 ((ix x1 x3).names) y2.1 _ _ hy3) trivial (.cons (.hd _ _ _) (.cons (.refl _) (.nil))) ⟨rfl, trivial⟩ rfl rfl rfl ?_)
  rintro _ _ ⟨rfl, rfl⟩
  refine ⟨_, [(8002, _)], .refl _, rfl, rfl, rfl, rfl, .inl rfl, ?_⟩
  refine gs 1 ?_
  refine g_le (le_absorb (k := 0) (k2 := 8002) (rows' := (x1.set (Int.toNat x3) (Val.mk x2 (IntKind.wrap .i64 (x2 + 1)) y1 y2.2 y3.2)).map encOVal) (Int.toNat x3) 4 _ rfl rfl (by decide) (rows_set_get (by have := hb5; simp only [List.length_map]; omega)) rfl (rows_set_done2 (f := encOVal) (z := (Val.mk x2 (IntKind.wrap .i64 (x2 + 1)) y1 y2.2 y3.2)) (encOVal_eq _))) ?_
  refine gk hK7 49 [0, 1, 4, 5] [0] ?_
  refine rg 3 ?_
  refine g_nil ?_
  exact round_mk m1 (x1.set (Int.toNat x3) (Val.mk x2 (IntKind.wrap .i64 (x2 + 1)) y1 y2.2 y3.2), y3.1, IntKind.wrap .i64 (x3 + 1)) (Nat.lt_succ_self _) ⟨by omega, h⟩ (lw [some 0])
 ·replace h := ifF h (dF hc1)
  refine good_exit ?_
  exact hw1 (x1, x2) (Option.some.inj h).symm _ (lw [some 0])
theorem m_laws_markValueS_all (k : Nat) : P_m_laws_markValueS k := by
 induction k using Nat.strongRecOn with
 | _ k ih => exact m_laws_markValueS_step k ih
theorem m_laws_markValueS_ok (k : Nat) : ∀ (a0 : (List Val)) (a1 : Int) (v0_0 : Value) (r : (Int × (List Val))), m_laws_markValueS k a0 a1 = some r → Does Try.prog 57 [.hd 0 v0_0, .int .i64 a1] [(0, (v0_0, .osl 30 5 (a0.map encOVal)))] (fun q h' => q = .int .i64 r.1 ∧ h' = [(0, (v0_0, .osl 30 5 (r.2.map encOVal)))]) := (m_laws_markValueS_all k)
def m_laws_markValue (k : Nat) (a0 : Val) (a1 : Int) : Option (Int × (List Val) × (List Bs)) :=
 (m_laws_markValueS k a0.list a1).bind fun y1 =>
 (m_laws_markStringS k a0.names y1.1).bind fun y2 =>
 some (y2.1, y1.2, y2.2)
theorem m_laws_markValue_ok (k : Nat) : ∀ (a0 : Val) (a1 : Int) (v0_0 : Value) (v0_1 : Value) (r : (Int × (List Val) × (List Bs))), m_laws_markValue k a0 a1 = some r → Does Try.prog 24 [.agg [.int .i64 a0.kind, .int .i64 a0.num, .str a0.text, .hd 0 v0_0, .hd 1 v0_1], .int .i64 a1] [(0, (v0_0, .osl 30 5 (a0.list.map encOVal))), (1, (v0_1, .osl 9 1 (a0.names.map encS)))] (fun q h' => q = .int .i64 r.1 ∧ h' = [(0, (v0_0, .osl 30 5 (r.2.1.map encOVal))), (1, (v0_1, .osl 9 1 (r.2.2.map encS)))]) := by
 intro a0 a1 v0_0 v0_1 r h
 rw [m_laws_markValue] at h
 refine does_of_good tabOk Try.func24 rfl (by decide +kernel) (Nat.le_of_ble_eq_true rfl) fun c => ?_
 refine Good.le (σ' := ⟨14, [(0, .agg [.int .i64 a0.kind, .int .i64 a0.num, .str a0.text, .hd 0 v0_0, .hd 1 v0_1]), (1, .int .i64 a1)], [(0, (v0_0, .osl 30 5 (a0.list.map encOVal))), (1, (v0_1, .osl 9 1 (a0.names.map encS)))]⟩) (Le.refl _) ?_
 refine good_seq fun K1 hK1 => ?_
 refine good_region ?_
 refine g_op rfl (o_box (k := 12) tabOk rfl rfl rfl rfl rfl ?_)
 intro b1
 refine gs 1 ?_
 refine gk hK1 14 [1, 2, 4] [12, 0, 1] ?_
 refine good_seq fun K2 hK2 => ?_
 refine rg 3 ?_
 obtain ⟨y1, hy1, h⟩ := bnd h
 refine g_op rfl (o_callD [] [] [0] (core_value rfl rfl) (m_laws_markValueS_ok k a0.list a1 _ _ hy1) trivial (.cons (.hd _ _ _) (.cons (.refl _) (.nil))) ⟨rfl, trivial⟩ rfl rfl rfl ?_)
 rintro _ _ ⟨rfl, rfl⟩
 refine ⟨_, [(0, _)], .refl _, rfl, rfl, rfl, rfl, .inl rfl, ?_⟩
 refine gs 1 ?_
 refine gk hK2 14 [1, 2, 4] [12, 0, 1] ?_
 refine good_seq fun K3 hK3 => ?_
 refine rg 3 ?_
 obtain ⟨y2, hy2, h⟩ := bnd h
 refine g_op rfl (o_callD [] [] [1] (core_value rfl rfl) (m_laws_markStringS_ok k a0.names y1.1 _ _ hy2) trivial (.cons (.hd _ _ _) (.cons (.refl _) (.nil))) ⟨rfl, trivial⟩ rfl rfl rfl ?_)
 rintro _ _ ⟨rfl, rfl⟩
 refine ⟨_, [(1, _)], .refl _, rfl, rfl, rfl, rfl, .inl rfl, ?_⟩
 refine gs 1 ?_
 refine gk hK3 14 [1, 4] [0, 1] ?_
 refine good_seq fun K4 hK4 => ?_
 refine rg 2 ?_
 refine gk hK4 14 [4] [0, 1] ?_
 refine Good.le (σ' := ⟨14, [(4, .int .i64 y2.1)], [(0, (v0_0, .osl 30 5 (y1.2.map encOVal))), (1, (v0_1, .osl 9 1 (y2.2.map encS)))]⟩) (lw [some 0, some 1]) ?_
 refine good_ret ?_
 obtain rfl := Option.some.inj h
 exact endQ_ret (h' := [(0, (_, _)), (1, (_, _))]) [some 0, some 1] (.tmp rfl (.nil)) ⟨⟨_, rfl, .refl _⟩, ⟨⟨_, rfl, .refl _⟩, trivial⟩⟩ (by decide) ⟨rfl, rfl⟩
def m_laws_heldStringS_l1 : Nat → (List Bs) → Int → Int → Option (Lp Int Int)
 | 0, _, _, _ => none
 | k + 1, a0, x1, x2 =>
  if x2 < (a0.length : Int) then
   if (0 : Int) ≤ x2 ∧ x2 < (a0.length : Int) then
    (m_laws_markText k x1).bind fun y1 =>
    if (ix a0 x2) = y1 then
     m_laws_heldStringS_l1 k a0 (IntKind.wrap .i64 (x1 + 1)) (IntKind.wrap .i64 (x2 + 1))
    else
     (some (-1)).bind fun z =>
     some (Lp.ret z)
   else none
  else
   some (Lp.go x1)
def m_laws_heldStringS (k : Nat) (a0 : (List Bs)) (a1 : Int) : Option Int :=
 (m_laws_heldStringS_l1 k a0 a1 0).bind fun o1 =>
 o1.then fun s1 =>
  some s1
theorem m_laws_heldStringS_ok (k : Nat) : ∀ (a0 : (List Bs)) (a1 : Int) (r : Int), m_laws_heldStringS k a0 a1 = some r → Does Try.prog 60 [.sl false (a0.map encS), .int .i64 a1] [] (ret (.int .i64 r)) := by
 intro a0 a1 r h
 rw [m_laws_heldStringS] at h
 refine does_of_good tabOk Try.func60 rfl (by decide +kernel) (Nat.le_of_ble_eq_true rfl) fun c => ?_
 refine Good.le (σ' := ⟨22, [(0, .sl false (a0.map encS)), (1, .int .i64 a1)], []⟩) (Le.refl _) ?_
 refine good_seq fun K1 hK1 => ?_
 refine rg 1 ?_
 refine g_nil (hK1 _ ?_)
 refine good_seq fun K2 hK2 => ?_
 refine good_seq fun K3 hK3 => ?_
 refine rg 1 ?_
 refine g_nil (hK3 _ ?_)
 obtain ⟨o1, ho1, hJ1⟩ := bnd h
 have hw1 : ∀ (s1 : Int), o1 = Lp.go s1 → ∀ σ', Le σ' ⟨22, [(1, .int .i64 s1), (4, .int .i64 0)], []⟩ → K2 σ' := by
  intro s1 e1 σ' hle1
  subst e1
  refine hK2 _ (Good.le hle1 ?_)
  replace h := hJ1
  refine good_seq fun K4 hK4 => ?_
  refine rg 2 ?_
  refine gk hK4 22 [4] [] ?_
  obtain rfl := Option.some.inj h
  exact rt
 replace h := ho1
 refine good_block ?_
 refine good_loopf (fun p : (Int × Int) => ⟨22, [(0, .sl false (a0.map encS)), (1, .int .i64 p.1), (4, .int .i64 0), (5, .int .i64 p.2)], []⟩) (fun m p => m_laws_heldStringS_l1 m a0 p.1 p.2 = some o1) k (a1, 0) (lw []) h ?_
 rintro m1 ⟨x1, x2⟩ h
 replace h : m_laws_heldStringS_l1 m1 a0 x1 x2 = some o1 := h
 refine Good.le (σ' := ⟨22, [(0, .sl false (a0.map encS)), (1, .int .i64 x1), (4, .int .i64 0), (5, .int .i64 x2)], []⟩) (Le.refl _) ?_
 obtain ⟨m1, rfl⟩ : ∃ m', m1 = m' + 1 := by cases m1 with | zero => (rw [m_laws_heldStringS_l1] at h; cases h) | succ m' => exact ⟨m', rfl⟩
 rw [m_laws_heldStringS_l1] at h
 refine good_seq fun K5 hK5 => ?_
 refine good_seq fun K6 hK6 => ?_
 refine rg 2 ?_
 refine g_op rfl (ValOk.op (v_lenM (l := a0) (f := encS) tabOk rfl rfl telem23 rfl ?_))
 refine gs 1 ?_
 refine gk hK6 22 [0, 1, 4, 5, 9] [] ?_
 refine good_cond rfl (fun hc1 => ?_) (fun hc1 => ?_)
 ·replace h := ifT h (dT hc1)
  refine good_skip ?_
  refine hK5 _ (kp 22 [0, 1, 4, 5] [] ?_)
  refine good_seq fun K7 hK7 => ?_
  refine good_block ?_
  refine good_seq fun K8 hK8 => ?_
  refine good_seq fun K9 hK9 => ?_
  refine good_draw (by kernel_rfl) (by kernel_rfl) ?_
  refine q_op rfl (v_move rfl rfl ?_)
  refine q_op rfl (v_move rfl rfl ?_)
  obtain ⟨hb1, h⟩ := ifS h
  refine q_op rfl (v_idxM tabOk rfl rfl telem23 tsize9 hb1 rfl rfl rfl ?_)
  refine q_op rfl (v_loadE tabOk rfl tsize9 tagg9 rfl rfl rfl ?_)
  refine q_op rfl (v_move rfl rfl ?_)
  obtain ⟨y1, hy1, h⟩ := bnd h
  refine q_call [] [] (fun _ _ _ _ _ => wanted_none rfl _) (core_value rfl rfl) (m_laws_markText_ok m1 x1 _ hy1) trivial (.cons (.refl _) (.nil)) (.str _) rfl ?_
  refine q_op rfl (v_bin rfl rfl rfl rfl ?_)
  refine q_nil ?_
  refine hK9 _ (kp 22 [0, 1, 4, 5, 18] [] ?_)
  refine good_cond rfl (fun hc2 => ?_) (fun hc2 => ?_)
  ·replace h := ifF h (ndT hc2)
   refine good_seq fun K10 hK10 => ?_
   refine rg 1 ?_
   refine gk hK10 22 [0, 1, 4, 5] [] ?_
   replace h := unret h hJ1
   obtain rfl := Option.some.inj h
   exact rt
  ·replace h := ifT h (ndF hc2)
   refine good_skip ?_
   refine hK8 _ (kp 22 [0, 1, 4, 5] [] ?_)
   refine rg 3 ?_
   refine gk hK7 22 [0, 1, 4, 5] [] ?_
   refine rg 3 ?_
   refine g_nil ?_
   exact round_mk m1 (IntKind.wrap .i64 (x1 + 1), IntKind.wrap .i64 (x2 + 1)) (Nat.lt_succ_self _) h (lw [])
 ·replace h := ifF h (dF hc1)
  refine good_exit ?_
  exact hw1 x1 (Option.some.inj h).symm _ (lw [])
mutual
def m_laws_heldValueS_l1 : Nat → (List Val) → Int → Int → Option (Lp Int Int)
 | 0, _, _, _ => none
 | k + 1, a0, x1, x2 =>
  if x2 < (a0.length : Int) then
   if (0 : Int) ≤ x2 ∧ x2 < (a0.length : Int) then
    if ((ix a0 x2).kind) = x1 then
     if (0 : Int) ≤ x2 ∧ x2 < (a0.length : Int) then
      if ((ix a0 x2).num) = (IntKind.wrap .i64 (x1 + 1)) then
       if (0 : Int) ≤ x2 ∧ x2 < (a0.length : Int) then
        (m_laws_markText k (IntKind.wrap .i64 ((IntKind.wrap .i64 (x1 + 1)) + 1))).bind fun y1 =>
        if ((ix a0 x2).text) = y1 then
         if (0 : Int) ≤ x2 ∧ x2 < (a0.length : Int) then
          (m_laws_heldValueS k ((ix a0 x2).list) (IntKind.wrap .i64 ((IntKind.wrap .i64 ((IntKind.wrap .i64 (x1 + 1)) + 1)) + 1))).bind fun y2 =>
          if y2 < 0 then
           (some (-1)).bind fun z =>
           some (Lp.ret z)
          else
           if (0 : Int) ≤ x2 ∧ x2 < (a0.length : Int) then
            (m_laws_heldStringS k ((ix a0 x2).names) y2).bind fun y3 =>
            if y3 < 0 then
             (some (-1)).bind fun z =>
             some (Lp.ret z)
            else
             m_laws_heldValueS_l1 k a0 y3 (IntKind.wrap .i64 (x2 + 1))
           else none
         else none
        else
         (some (-1)).bind fun z =>
         some (Lp.ret z)
       else none
      else
       (some (-1)).bind fun z =>
       some (Lp.ret z)
     else none
    else
     (some (-1)).bind fun z =>
     some (Lp.ret z)
   else none
  else
   some (Lp.go x1)
def m_laws_heldValueS : Nat → (List Val) → Int → Option Int
 | 0, _, _ => none
 | k + 1, a0, a1 =>
  (m_laws_heldValueS_l1 k a0 a1 0).bind fun o1 =>
  o1.then fun s1 =>
  some s1
end
def P_m_laws_heldValueS (k : Nat) : Prop := ∀ (a0 : (List Val)) (a1 : Int) (r : Int), m_laws_heldValueS k a0 a1 = some r → Does Try.prog 59 [.sl true (a0.map encVal), .int .i64 a1] [] (ret (.int .i64 r))
theorem m_laws_heldValueS_step (k : Nat) (ih : ∀ m, m < k → P_m_laws_heldValueS m) : P_m_laws_heldValueS k := by
 intro a0 a1 r h
 obtain ⟨k, rfl⟩ : ∃ k', k = k' + 1 := by cases k with | zero => (rw [m_laws_heldValueS] at h; cases h) | succ k' => exact ⟨k', rfl⟩
 rw [m_laws_heldValueS] at h
 refine does_of_good tabOk Try.func59 rfl (by decide +kernel) (Nat.le_of_ble_eq_true rfl) fun c => ?_
 refine Good.le (σ' := ⟨59, [(0, .sl true (a0.map encVal)), (1, .int .i64 a1)], []⟩) (Le.refl _) ?_
 refine good_seq fun K1 hK1 => ?_
 refine rg 1 ?_
 refine g_nil (hK1 _ ?_)
 refine good_seq fun K2 hK2 => ?_
 refine good_seq fun K3 hK3 => ?_
 refine rg 1 ?_
 refine g_nil (hK3 _ ?_)
 obtain ⟨o1, ho1, hJ1⟩ := bnd h
 have hw1 : ∀ (s1 : Int), o1 = Lp.go s1 → ∀ σ', Le σ' ⟨59, [(1, .int .i64 s1), (4, .int .i64 0)], []⟩ → K2 σ' := by
  intro s1 e1 σ' hle1
  subst e1
  refine hK2 _ (Good.le hle1 ?_)
  replace h := hJ1
  refine good_seq fun K4 hK4 => ?_
  refine rg 2 ?_
  refine gk hK4 59 [4] [] ?_
  obtain rfl := Option.some.inj h
  exact rt
 replace h := ho1
 refine good_block ?_
 refine good_loopf (fun p : (Int × Int) => ⟨59, [(0, .sl true (a0.map encVal)), (1, .int .i64 p.1), (4, .int .i64 0), (5, .int .i64 p.2)], []⟩) (fun m p => m < k + 1 ∧ m_laws_heldValueS_l1 m a0 p.1 p.2 = some o1) k (a1, 0) (lw []) ⟨by omega, h⟩ ?_
 rintro m1 ⟨x1, x2⟩ ⟨hm, h⟩
 replace h : m_laws_heldValueS_l1 m1 a0 x1 x2 = some o1 := h
 refine Good.le (σ' := ⟨59, [(0, .sl true (a0.map encVal)), (1, .int .i64 x1), (4, .int .i64 0), (5, .int .i64 x2)], []⟩) (Le.refl _) ?_
 obtain ⟨m1, rfl⟩ : ∃ m', m1 = m' + 1 := by cases m1 with | zero => (rw [m_laws_heldValueS_l1] at h; cases h) | succ m' => exact ⟨m', rfl⟩
 rw [m_laws_heldValueS_l1] at h
 refine good_seq fun K5 hK5 => ?_
 refine good_seq fun K6 hK6 => ?_
 refine rg 2 ?_
 refine g_op rfl (ValOk.op (v_lenM (l := a0) (f := encVal) tabOk rfl rfl telem28 rfl ?_))
 refine gs 1 ?_
 refine gk hK6 59 [0, 1, 4, 5, 9] [] ?_
 refine good_cond rfl (fun hc1 => ?_) (fun hc1 => ?_)
 ·replace h := ifT h (dT hc1)
  refine good_skip ?_
  refine hK5 _ (kp 59 [0, 1, 4, 5] [] ?_)
  refine good_seq fun K7 hK7 => ?_
  refine good_block ?_
  refine good_seq fun K8 hK8 => ?_
  refine good_seq fun K9 hK9 => ?_
  refine rg 2 ?_
  obtain ⟨hb1, h⟩ := ifS h
  refine g_op rfl (ValOk.op (v_idxM tabOk rfl rfl telem28 tsize30 hb1 (encVal_eq _) rfl rfl ?_))
  refine gs 4 ?_
  refine gk hK9 59 [0, 1, 4, 5, 18] [] ?_
  refine good_cond rfl (fun hc2 => ?_) (fun hc2 => ?_)
  ·replace h := ifF h (ndT hc2)
   refine good_seq fun K10 hK10 => ?_
   refine rg 1 ?_
   refine gk hK10 59 [0, 1, 4, 5] [] ?_
   replace h := unret h hJ1
   obtain rfl := Option.some.inj h
   exact rt
  ·replace h := ifT h (ndF hc2)
   refine good_skip ?_
   refine hK8 _ (kp 59 [0, 1, 4, 5] [] ?_)
   refine good_seq fun K11 hK11 => ?_
   refine rg 3 ?_
   refine gk hK11 59 [0, 1, 4, 5] [] ?_
   refine good_seq fun K12 hK12 => ?_
   refine good_seq fun K13 hK13 => ?_
   refine rg 2 ?_
   obtain ⟨hb2, h⟩ := ifS h
   refine g_op rfl (ValOk.op (v_idxM tabOk rfl rfl telem28 tsize30 hb2 (encVal_eq _) rfl rfl ?_))
   refine gs 4 ?_
   refine gk hK13 59 [0, 1, 4, 5, 27] [] ?_
   refine good_cond rfl (fun hc3 => ?_) (fun hc3 => ?_)
   ·replace h := ifF h (ndT hc3)
    refine good_seq fun K14 hK14 => ?_
    refine rg 1 ?_
    refine gk hK14 59 [0, 1, 4, 5] [] ?_
    replace h := unret h hJ1
    obtain rfl := Option.some.inj h
    exact rt
   ·replace h := ifT h (ndF hc3)
    refine good_skip ?_
    refine hK12 _ (kp 59 [0, 1, 4, 5] [] ?_)
    refine good_seq fun K15 hK15 => ?_
    refine rg 3 ?_
    refine gk hK15 59 [0, 1, 4, 5] [] ?_
    refine good_seq fun K16 hK16 => ?_
    refine good_seq fun K17 hK17 => ?_
    refine good_draw (by kernel_rfl) (by kernel_rfl) ?_
    refine q_op rfl (v_move rfl rfl ?_)
    refine q_op rfl (v_move rfl rfl ?_)
    obtain ⟨hb3, h⟩ := ifS h
    refine q_op rfl (v_idxM tabOk rfl rfl telem28 tsize30 hb3 (encVal_eq _) rfl rfl ?_)
    refine q_op rfl (v_fieldE tabOk rfl tfoff30_2 rfl rfl ?_)
    refine q_op rfl (v_loadE tabOk rfl tsize9 tagg9 rfl rfl rfl ?_)
    refine q_op rfl (v_move rfl rfl ?_)
    obtain ⟨y1, hy1, h⟩ := bnd h
    refine q_call [] [] (fun _ _ _ _ _ => wanted_none rfl _) (core_value rfl rfl) (m_laws_markText_ok m1 (IntKind.wrap .i64 ((IntKind.wrap .i64 (x1 + 1)) + 1)) _ hy1) trivial (.cons (.refl _) (.nil)) (.str _) rfl ?_
    refine q_op rfl (v_bin rfl rfl rfl rfl ?_)
    refine q_nil ?_
    refine hK17 _ (kp 59 [0, 1, 4, 5, 37] [] ?_)
    refine good_cond rfl (fun hc4 => ?_) (fun hc4 => ?_)
    ·replace h := ifF h (ndT hc4)
     refine good_seq fun K18 hK18 => ?_
     refine rg 1 ?_
     refine gk hK18 59 [0, 1, 4, 5] [] ?_
     replace h := unret h hJ1
     obtain rfl := Option.some.inj h
     exact rt
    ·replace h := ifT h (ndF hc4)
     refine good_skip ?_
     refine hK16 _ (kp 59 [0, 1, 4, 5] [] ?_)
     refine good_seq fun K19 hK19 => ?_
     refine rg 3 ?_
     refine gk hK19 59 [0, 1, 4, 5] [] ?_
     refine good_seq fun K20 hK20 => ?_
     refine rg 2 ?_
     obtain ⟨hb4, h⟩ := ifS h
     refine g_op rfl (ValOk.op (v_idxM tabOk rfl rfl telem28 tsize30 hb4 (encVal_eq _) rfl rfl ?_))
     refine gs 3 ?_
     obtain ⟨y2, hy2, h⟩ := bnd h
     refine g_op rfl (o_callR [] [] (core_value rfl rfl) ((ih m1 (by omega)) ((ix a0 x2).list) (IntKind.wrap .i64 ((IntKind.wrap .i64 ((IntKind.wrap .i64 (x1 + 1)) + 1)) + 1)) _ hy2) trivial (.cons (.refl _) (.cons (.refl _) (.nil))) (.inl rfl) rfl ?_)
     refine gs 1 ?_
     refine gk hK20 59 [0, 1, 4, 5] [] ?_
     refine good_seq fun K21 hK21 => ?_
     refine good_seq fun K22 hK22 => ?_
     refine rg 2 ?_
     refine gk hK22 59 [0, 1, 4, 5, 48] [] ?_
     refine good_cond rfl (fun hc5 => ?_) (fun hc5 => ?_)
     ·replace h := ifT h (dT hc5)
      refine good_seq fun K23 hK23 => ?_
      refine rg 1 ?_
      refine gk hK23 59 [0, 1, 4, 5] [] ?_
      replace h := unret h hJ1
      obtain rfl := Option.some.inj h
      exact rt
     ·replace h := ifF h (dF hc5)
      refine good_skip ?_
      refine hK21 _ (kp 59 [0, 1, 4, 5] [] ?_)
      refine good_seq fun K24 hK24 => ?_
      refine rg 2 ?_
      obtain ⟨hb5, h⟩ := ifS h
      refine g_op rfl (ValOk.op (v_idxM tabOk rfl rfl telem28 tsize30 hb5 (encVal_eq _) rfl rfl ?_))
      refine gs 3 ?_
      obtain ⟨y3, hy3, h⟩ := bnd h
      refine g_op rfl (o_callR [] [] (core_value rfl rfl) (m_laws_heldStringS_ok m1 ((ix a0 x2).names) y2 _ hy3) trivial (.cons (.refl _) (.cons (.refl _) (.nil))) (.inl rfl) rfl ?_)
      refine gs 1 ?_
      refine gk hK24 59 [0, 1, 4, 5] [] ?_
      refine good_seq fun K25 hK25 => ?_
      refine rg 2 ?_
      refine gk hK25 59 [0, 1, 4, 5, 57] [] ?_
      refine good_cond rfl (fun hc6 => ?_) (fun hc6 => ?_)
      ·replace h := ifT h (dT hc6)
       refine good_seq fun K26 hK26 => ?_
       refine rg 1 ?_
       refine gk hK26 59 [0, 1, 4, 5] [] ?_
       replace h := unret h hJ1
       obtain rfl := Option.some.inj h
       exact rt
      ·replace h := ifF h (dF hc6)
       refine good_skip ?_
       refine hK7 _ (kp 59 [0, 1, 4, 5] [] ?_)
       refine rg 3 ?_
       refine g_nil ?_
       exact round_mk m1 (y3, IntKind.wrap .i64 (x2 + 1)) (Nat.lt_succ_self _) ⟨by omega, h⟩ (lw [])
 ·replace h := ifF h (dF hc1)
  refine good_exit ?_
  exact hw1 x1 (Option.some.inj h).symm _ (lw [])
theorem m_laws_heldValueS_all (k : Nat) : P_m_laws_heldValueS k := by
 induction k using Nat.strongRecOn with
 | _ k ih => exact m_laws_heldValueS_step k ih
theorem m_laws_heldValueS_ok (k : Nat) : ∀ (a0 : (List Val)) (a1 : Int) (r : Int), m_laws_heldValueS k a0 a1 = some r → Does Try.prog 59 [.sl true (a0.map encVal), .int .i64 a1] [] (ret (.int .i64 r)) := (m_laws_heldValueS_all k)
def m_laws_heldValue (k : Nat) (a0 : Val) (a1 : Int) : Option Int :=
 (m_laws_heldValueS k a0.list a1).bind fun y1 =>
 if y1 < 0 then
  some (-1)
 else
  (m_laws_heldStringS k a0.names y1).bind fun y2 =>
  if y2 < 0 then
   some (-1)
  else
   some y2
theorem m_laws_heldValue_ok (k : Nat) : ∀ (a0 : Val) (a1 : Int) (r : Int), m_laws_heldValue k a0 a1 = some r → Does Try.prog 25 [.agg [.int .i64 a0.kind, .int .i64 a0.num, .str a0.text, .sl true (a0.list.map encVal), .sl false (a0.names.map encS)], .int .i64 a1] [] (ret (.int .i64 r)) := by
 intro a0 a1 r h
 rw [m_laws_heldValue] at h
 refine does_of_good tabOk Try.func25 rfl (by decide +kernel) (Nat.le_of_ble_eq_true rfl) fun c => ?_
 refine Good.le (σ' := ⟨18, [(0, .agg [.int .i64 a0.kind, .int .i64 a0.num, .str a0.text, .sl true (a0.list.map encVal), .sl false (a0.names.map encS)]), (1, .int .i64 a1)], []⟩) (Le.refl _) ?_
 refine good_seq fun K1 hK1 => ?_
 refine good_region ?_
 refine g_op rfl (o_box (k := 12) tabOk rfl rfl rfl rfl rfl ?_)
 intro b1
 refine gs 1 ?_
 refine gk hK1 18 [1, 2, 4] [12] ?_
 refine good_seq fun K2 hK2 => ?_
 refine rg 3 ?_
 obtain ⟨y1, hy1, h⟩ := bnd h
 refine g_op rfl (o_callR [] [] (core_value rfl rfl) (m_laws_heldValueS_ok k a0.list a1 _ hy1) trivial (.cons (.refl _) (.cons (.refl _) (.nil))) (.inl rfl) rfl ?_)
 refine gs 1 ?_
 refine gk hK2 18 [1, 2, 4] [12] ?_
 refine good_seq fun K3 hK3 => ?_
 refine good_seq fun K4 hK4 => ?_
 refine rg 2 ?_
 refine gk hK4 18 [1, 2, 4, 10] [12] ?_
 refine good_cond rfl (fun hc1 => ?_) (fun hc1 => ?_)
 ·replace h := ifT h (dT hc1)
  refine good_seq fun K5 hK5 => ?_
  refine rg 1 ?_
  refine gk hK5 18 [1, 2, 4] [12] ?_
  obtain rfl := Option.some.inj h
  exact rt
 ·replace h := ifF h (dF hc1)
  refine good_skip ?_
  refine hK3 _ (kp 18 [1, 2, 4] [12] ?_)
  refine good_seq fun K6 hK6 => ?_
  refine rg 3 ?_
  obtain ⟨y2, hy2, h⟩ := bnd h
  refine g_op rfl (o_callR [] [] (core_value rfl rfl) (m_laws_heldStringS_ok k a0.names y1 _ hy2) trivial (.cons (.refl _) (.cons (.refl _) (.nil))) (.inl rfl) rfl ?_)
  refine gs 1 ?_
  refine gk hK6 18 [1, 4] [] ?_
  refine good_seq fun K7 hK7 => ?_
  refine good_seq fun K8 hK8 => ?_
  refine rg 2 ?_
  refine gk hK8 18 [1, 4, 16] [] ?_
  refine good_cond rfl (fun hc2 => ?_) (fun hc2 => ?_)
  ·replace h := ifT h (dT hc2)
   refine good_seq fun K9 hK9 => ?_
   refine rg 1 ?_
   refine gk hK9 18 [1, 4] [] ?_
   obtain rfl := Option.some.inj h
   exact rt
  ·replace h := ifF h (dF hc2)
   refine good_skip ?_
   refine hK7 _ (kp 18 [1, 4] [] ?_)
   refine good_seq fun K10 hK10 => ?_
   refine rg 2 ?_
   refine gk hK10 18 [4] [] ?_
   obtain rfl := Option.some.inj h
   exact rt
end Go.Proofs.Ytiaigcdckmpepaa
end
end
section
/-! Functions of the program. -/
set_option linter.unusedVariables false
set_option linter.unnecessarySimpa false
set_option maxRecDepth 100000
set_option maxHeartbeats 20000000
noncomputable section
namespace Go.Proofs.Ytiaigcdckmpepaa
open Go.Bb
def m_impl_spanOf (a0 : (List Val)) : Option (List Val) :=
 if (a0.length : Int) = 0 then
  some ([] : List Val)
 else
  if a0 ≠ [] then
   some a0
  else none
theorem m_impl_spanOf_ok : ∀ (a0 : (List Val)) (r : (List Val)), m_impl_spanOf a0 = some r → Does Try.prog 50 [.sl true (a0.map encVal)] [] (ret (.agg [.spt (r.map encVal), .int .i64 (r.length : Int)])) := by
 intro a0 r h
 rw [m_impl_spanOf] at h
 refine does_of_good tabOk Try.func50 rfl (by decide +kernel) (Nat.le_of_ble_eq_true rfl) fun c => ?_
 refine Good.le (σ' := ⟨12, [(0, .sl true (a0.map encVal))], []⟩) (Le.refl _) ?_
 refine good_seq fun K1 hK1 => ?_
 refine good_region ?_
 refine g_op rfl (o_alloc (k := 12) tabOk tzero62 rfl rfl ?_)
 intro b1
 refine g_nil (hK1 _ ?_)
 refine good_seq fun K2 hK2 => ?_
 refine good_seq fun K3 hK3 => ?_
 refine rg 1 ?_
 refine g_op rfl (ValOk.op (v_lenM (l := a0) (f := encVal) tabOk rfl rfl telem28 rfl ?_))
 refine gs 1 ?_
 refine gk hK3 12 [0, 2, 5] [12] ?_
 refine good_cond rfl (fun hc1 => ?_) (fun hc1 => ?_)
 ·replace h := ifT h (dT hc1)
  refine good_seq fun K4 hK4 => ?_
  refine good_region ?_
  refine g_op rfl (ValOk.op (v_buildW tabOk (cs := [.raw (.pointer none), .int .i64 0]) tzero62 tsok62 rfl rfl (.agg (.cons .sptnil (.cons (.refl _) .nil))) rfl ?_))
  refine g_op rfl (o_storeP tabOk (cs' := [.spt (([] : List Val).map encVal), .int .i64 0]) rfl rfl tsize62 rfl rfl rfl (Nat.le_of_ble_eq_true rfl) rfl rfl rfl ?_)
  refine gk hK4 12 [0, 2] [12] ?_
  refine Good.le (σ' := ⟨12, [(2, .ptr 12 b1 0)], [(12, ((.pointer (some ⟨b1, 0, none⟩)), .optr 62 [.spt (([] : List Val).map encVal), .int .i64 0]))]⟩) (lw [some 12]) ?_
  refine good_ret ?_
  obtain rfl := Option.some.inj h
  refine thenQ_ret ?_
  exact endQ_ret (h' := []) [] (.cell rfl rfl tsize62 tagg62 rfl rfl rfl (.nil)) trivial (by decide) ⟨rfl, rfl⟩
 ·replace h := ifF h (dF hc1)
  refine good_skip ?_
  refine hK2 _ (kp 12 [0, 2] [12] ?_)
  refine good_seq fun K5 hK5 => ?_
  refine rg 1 ?_
  obtain ⟨hb1, h⟩ := ifS h
  refine g_op rfl (ValOk.op (v_idx0 tabOk rfl rfl telem28 tsize30 (by simpa using hb1) rfl ?_))
  refine gs 1 ?_
  refine g_op rfl (ValOk.op (v_lenM (l := a0) (f := encVal) tabOk rfl rfl telem28 rfl ?_))
  refine g_op rfl (ValOk.op (v_build tabOk (cs := [.spt (a0.map encVal), .int .i64 (a0.length : Int)]) tzero62 tsok62 rfl rfl rfl ?_))
  refine g_op rfl (o_storeP tabOk (cs' := [.spt (a0.map encVal), .int .i64 (a0.length : Int)]) rfl rfl tsize62 rfl rfl rfl (Nat.le_of_ble_eq_true rfl) rfl rfl rfl ?_)
  refine gk hK5 12 [2] [12] ?_
  refine Good.le (σ' := ⟨12, [(2, .ptr 12 b1 0)], [(12, ((.pointer (some ⟨b1, 0, none⟩)), .optr 62 [.spt (a0.map encVal), .int .i64 (a0.length : Int)]))]⟩) (lw [some 12]) ?_
  refine good_ret ?_
  obtain rfl := Option.some.inj h
  exact endQ_ret (h' := []) [] (.cell rfl rfl tsize62 tagg62 rfl rfl rfl (.nil)) trivial (by decide) ⟨rfl, rfl⟩
def m_impl_copyTexts (a0 : (List Bs)) : Option (List Bs) :=
 if (a0.length : Int) = 0 then
  some ([] : List Bs)
 else
  if (0 : Int) ≤ (a0.length : Int) ∧ 16 * (a0.length : Int) ≤ (281474976710656 : Int) then
   if (a0.length : Int) ≤ (9223372036854775807 : Int) then
    if (List.replicate (Int.toNat (a0.length : Int)) ([] : Bs)).length = a0.length ∧ a0 ≠ [] then
     some a0
    else none
   else none
  else none
theorem m_impl_copyTexts_ok : ∀ (a0 : (List Bs)) (r : (List Bs)), m_impl_copyTexts a0 = some r → Does Try.prog 99 [.sl false (a0.map encS)] [] (fun q h' => ∃ u0 : Value, q = .hd 100 u0 ∧ h' = [(100, (u0, .osl 9 1 (r.map encS)))]) := by
 intro a0 r h
 rw [m_impl_copyTexts] at h
 refine does_of_good tabOk Try.func99 rfl (by decide +kernel) (Nat.le_of_ble_eq_true rfl) fun c => ?_
 refine Good.le (σ' := ⟨14, [(0, .sl false (a0.map encS))], []⟩) (Le.refl _) ?_
 refine good_seq fun K1 hK1 => ?_
 refine rg 1 ?_
 refine g_nil (hK1 _ ?_)
 refine good_seq fun K2 hK2 => ?_
 refine good_seq fun K3 hK3 => ?_
 refine rg 1 ?_
 refine g_op rfl (ValOk.op (v_lenM (l := a0) (f := encS) tabOk rfl rfl telem23 rfl ?_))
 refine gs 1 ?_
 refine gk hK3 14 [0, 2, 6] [] ?_
 refine good_cond rfl (fun hc1 => ?_) (fun hc1 => ?_)
 ·replace h := ifT h (dT hc1)
  refine good_seq fun K4 hK4 => ?_
  refine rg 1 ?_
  refine gk hK4 14 [0, 2] [] ?_
  refine Good.le (σ' := ⟨14, [(2, .hd 100 nilV)], [(100, (nilV, .osl 9 1 (([] : List Bs).map encS)))]⟩) (lw [none]) ?_
  refine good_ret ?_
  obtain rfl := Option.some.inj h
  refine thenQ_ret ?_
  exact endQ_ret (h' := [(100, (_, _))]) [some 100] (.tmp rfl (.nil)) ⟨⟨_, rfl, .refl _⟩, trivial⟩ (by decide) ⟨nilV, rfl, rfl⟩
 ·replace h := ifF h (dF hc1)
  refine good_skip ?_
  refine hK2 _ (kp 14 [0, 2] [] ?_)
  refine good_seq fun K5 hK5 => ?_
  refine rg 1 ?_
  refine g_op rfl (ValOk.op (v_lenM (l := a0) (f := encS) tabOk rfl rfl telem23 rfl ?_))
  obtain ⟨hb1, h⟩ := ifS h
  obtain ⟨hb2, h⟩ := ifS h
  refine g_op rfl (o_makeM (k := 19) (zz := (([] : Bs))) (f := encS) tabOk telem23 tsize9 tbytes9 tzero9 rfl rfl rfl (by decide) (WkL.refl _) rfl rfl hb1 hb2 ?_)
  intro w1
  refine gs 1 ?_
  refine gk hK5 14 [0, 2, 3] [19] ?_
  refine good_seq fun K6 hK6 => ?_
  refine rg 2 ?_
  obtain ⟨hb3, h⟩ := ifS h
  refine g_op rfl (o_copyS (q := 19) (l := a0) tabOk ⟨_, rfl⟩ rfl rfl telem23 tsize9 (by simpa using hb3.1) hb3.2 rfl ?_)
  refine gk hK6 14 [2, 3] [19] ?_
  refine good_seq fun K7 hK7 => ?_
  refine rg 2 ?_
  refine gk hK7 14 [2] [19] ?_
  refine Good.le (σ' := ⟨14, [(2, .hd 100 w1)], [(100, (w1, .osl 9 1 (a0.map encS)))]⟩) (lw [some 19]) ?_
  refine good_ret ?_
  obtain rfl := Option.some.inj h
  exact endQ_ret (h' := [(100, (_, _))]) [some 100] (.tmp rfl (.nil)) ⟨⟨_, rfl, .refl _⟩, trivial⟩ (by decide) ⟨w1, rfl, rfl⟩
theorem m_impl_copyTexts_okF : ∀ (a0 : (List Bs)) (r : (List Bs)), m_impl_copyTexts a0 = some r → Does Try.prog 99 [.sl false (a0.map encS)] [] (ret (.sl false (r.map encS))) := by
 intro a0 r h
 refine does_frz (m_impl_copyTexts_ok a0 r h) ?_
 rintro q h' ⟨u0, rfl, rfl⟩
 exact ⟨[100], [(_, _)], ⟨⟨_, rfl, .osl (FrzLL.map fun _ _ => encS_frz _)⟩, trivial⟩, .frz _ _ _ (.head _)⟩
mutual
def m_impl_copyWithin_l2 : Nat → Val → (List (List Val)) → (List Val) → (List Val) → Int → Option (Lp (List Val) Val)
 | 0, _, _, _, _, _ => none
 | k + 1, a0, a1, y2, x2, x3 =>
  if x3 < (a0.list.length : Int) then
   if (0 : Int) ≤ x3 ∧ x3 < (a0.list.length : Int) then
    (m_impl_copyWithin k (ix a0.list x3) (y2 :: a1)).bind fun y3 =>
    if (0 : Int) ≤ x3 ∧ x3 < (x2.length : Int) then
     m_impl_copyWithin_l2 k a0 a1 y2 (x2.set (Int.toNat x3) y3) (IntKind.wrap .i64 (x3 + 1))
    else none
   else none
  else
   some (Lp.go x2)
def m_impl_copyWithin_l1 : Nat → (List Val) → (List (List Val)) → Option (Lp Unit Val)
 | 0, _, _ => none
 | k + 1, y2, x1 =>
  if x1 = [] then
   some (Lp.go ())
  else
   if x1 ≠ [] then
    if (x1.headD []) ≠ y2 then
     if x1 ≠ [] then
      m_impl_copyWithin_l1 k y2 x1.tail
     else none
    else none
   else none
def m_impl_copyWithin : Nat → Val → (List (List Val)) → Option Val
 | 0, _, _ => none
 | k + 1, a0, a1 =>
  (m_impl_copyTexts a0.names).bind fun y1 =>
  if (a0.list.length : Int) = 0 then
   some (Val.mk a0.kind a0.num a0.text ([] : List Val) y1)
  else
   (m_impl_spanOf a0.list).bind fun y2 =>
   (m_impl_copyWithin_l1 k y2 a1).bind fun o1 =>
   o1.then fun s1 =>
  if (0 : Int) ≤ (a0.list.length : Int) ∧ 80 * (a0.list.length : Int) ≤ (281474976710656 : Int) then
   if (a0.list.length : Int) ≤ (9223372036854775807 : Int) then
    (m_impl_copyWithin_l2 k a0 a1 y2 (List.replicate (Int.toNat (a0.list.length : Int)) (Val.mk 0 0 ([] : Bs) [] [])) 0).bind fun o2 =>
    o2.then fun s2 =>
  some (Val.mk a0.kind a0.num a0.text s2 y1)
   else none
  else none
end
def P_m_impl_copyWithin (k : Nat) : Prop := ∀ (a0 : Val) (a1 : (List (List Val))) (r : Val), m_impl_copyWithin k a0 a1 = some r → Does Try.prog 85 [.agg [.int .i64 a0.kind, .int .i64 a0.num, .str a0.text, .sl true (a0.list.map encVal), .sl false (a0.names.map encS)], (encChain a1)] [] (fun q h' => ∃ u0 : Value, ∃ u1 : Value, q = .agg [.int .i64 r.kind, .int .i64 r.num, .str r.text, .hd 100 u0, .hd 101 u1] ∧ h' = [(100, (u0, .osl 30 5 (r.list.map encOVal))), (101, (u1, .osl 9 1 (r.names.map encS)))])
theorem m_impl_copyWithin_step (k : Nat) (ih : ∀ m, m < k → P_m_impl_copyWithin m) : P_m_impl_copyWithin k := by
 intro a0 a1 r h
 obtain ⟨k, rfl⟩ : ∃ k', k = k' + 1 := by cases k with | zero => (rw [m_impl_copyWithin] at h; cases h) | succ k' => exact ⟨k', rfl⟩
 rw [m_impl_copyWithin] at h
 refine does_of_good tabOk Try.func85 rfl (by decide +kernel) (Nat.le_of_ble_eq_true rfl) fun c => ?_
 refine Good.le (σ' := ⟨76, [(0, .agg [.int .i64 a0.kind, .int .i64 a0.num, .str a0.text, .sl true (a0.list.map encVal), .sl false (a0.names.map encS)]), (1, (encChain a1))], []⟩) (Le.refl _) ?_
 refine good_seq fun K1 hK1 => ?_
 refine good_region ?_
 refine g_op rfl (o_box (k := 12) tabOk rfl rfl rfl rfl rfl ?_)
 intro b1
 refine g_op rfl (o_alloc (k := 14) tabOk tzero30 rfl rfl ?_)
 intro b2
 refine gk hK1 76 [1, 2, 4] [12, 14] ?_
 refine good_seq fun K2 hK2 => ?_
 obtain ⟨y1, hy1, h⟩ := bnd h
 refine good_anyM (by kernel_rfl) [⟨[], [2], [], [], [], []⟩, ⟨[0], [11], [12], [], [], []⟩, ⟨[], [2], [], [], [], []⟩, ⟨[2], [13], [12], [], [], []⟩, ⟨[], [2], [], [], [], []⟩, ⟨[4], [15], [12], [], [], []⟩, ⟨[], [2], [], [], [], []⟩, ⟨[6], [17], [12], [], [], []⟩, ⟨[6, 7], [18], [], [], [3001], [3001]⟩, ⟨[0, 1, 2, 3, 4, 5, 6, 7, 8], [12, 14, 16, 19], [], [], [], [3001]⟩, ⟨[], [], [], [], [15], [15]⟩, ⟨[0, 1, 2, 3, 4, 5, 6, 7, 8, 9, 10], [5, 20], [15], [15], [9002], []⟩] [some 11, some 12, some 13, some 14, some 15, some 16, some 17, some 18, some 19, some 20, some 5, none] 76 [(1, (encChain a1)), (2, .ptr 12 b1 0), (4, .ptr 14 b2 0)] [(12, ((.pointer (some ⟨b1, 0, none⟩)), .optr 30 [.int .i64 a0.kind, .int .i64 a0.num, .str a0.text, .sl true (a0.list.map encVal), .sl false (a0.names.map encS)])), (14, ((.pointer (some ⟨b2, 0, none⟩)), .optr 30 [.int .i64 0, .int .i64 0, .str ([] : Bs), .nil, .nil]))] (fun ν1 => [.ptr 12 b1 0, .int .i64 a0.kind, .ptr 12 b1 1, .int .i64 a0.num, .ptr 12 b1 2, .str a0.text, .ptr 12 b1 4, .sl false (a0.names.map encS), .hd 3001 (ν1 3001), .agg [.int .i64 a0.kind, .int .i64 a0.num, .str a0.text, .nil, .hd 3001 (ν1 3001)], .ptr 15 (bse (ν1 15)) 0, .und]) (fun ν1 => [(3001, ((ν1 3001), .osl 9 1 (y1.map encS))), (15, ((.pointer (some ⟨(bse (ν1 15)), 0, none⟩)), .optr 30 [.int .i64 0, .int .i64 0, .str ([] : Bs), .nil, .nil])), (9002, ((.pointer (some ⟨(bse (ν1 15)), 0, none⟩)), .optr 30 [.int .i64 a0.kind, .int .i64 a0.num, .str a0.text, .nil, .hd 3001 (ν1 3001)]))]) [(3001, [3001]), (15, [15]), (9002, [15, 3001]), (12, []), (14, [])] [3001, 15, 9002] [some 12, some 14, some 9002, some 3001] (fun ν1 => [(1, (encChain a1)), (2, .ptr 12 b1 0), (4, .ptr 14 b2 0), (5, .ptr 15 (bse (ν1 15)) 0)]) (fun ν1 => [(12, ((.pointer (some ⟨b1, 0, none⟩)), .optr 30 [.int .i64 a0.kind, .int .i64 a0.num, .str a0.text, .sl true (a0.list.map encVal), .sl false (a0.names.map encS)])), (14, ((.pointer (some ⟨b2, 0, none⟩)), .optr 30 [.int .i64 0, .int .i64 0, .str ([] : Bs), .nil, .nil])), (15, ((.pointer (some ⟨(bse (ν1 15)), 0, none⟩)), .optr 30 [.int .i64 a0.kind, .int .i64 a0.num, .str a0.text, .nil, .hd 3001 (ν1 3001)])), (3001, ((ν1 3001), .osl 9 1 (y1.map encS)))]) (lw [some 12, some 14]) (by kernel_rfl) ⟨?_, ⟨?_, ⟨?_, ⟨?_, ⟨?_, ⟨?_, ⟨?_, ⟨?_, ⟨?_, ⟨?_, ⟨?_, ⟨?_, trivial⟩⟩⟩⟩⟩⟩⟩⟩⟩⟩⟩⟩ ⟨fun _ _ _ => rfl, ⟨fun _ _ _ => rfl, ⟨fun _ _ _ => rfl, ⟨fun _ _ _ => rfl, ⟨fun _ _ _ => rfl, ⟨fun _ _ _ => rfl, ⟨fun _ _ _ => rfl, ⟨fun _ _ _ => rfl, ⟨fun _ _ h => (congrArg (fun zz0 => (some (.hd 3001 zz0) : Option AV)) (h 3001 (by decide))), ⟨fun _ _ h => (congrArg (fun zz0 => (some (.agg [.int .i64 a0.kind, .int .i64 a0.num, .str a0.text, .nil, .hd 3001 zz0]) : Option AV)) (h 3001 (by decide))), ⟨fun _ _ h => (congrArg (fun zz0 => (some (.ptr 15 (bse zz0) 0) : Option AV)) (h 15 (by decide))), ⟨fun _ _ _ => rfl, trivial⟩⟩⟩⟩⟩⟩⟩⟩⟩⟩⟩⟩ ⟨fun _ _ h => (congrArg (fun zz0 => (some (zz0, .osl 9 1 (y1.map encS)) : Option (Value × AV))) (h 3001 (by decide))), ⟨fun _ _ h => (congrArg (fun zz0 => (some ((.pointer (some ⟨(bse zz0), 0, none⟩)), .optr 30 [.int .i64 0, .int .i64 0, .str ([] : Bs), .nil, .nil]) : Option (Value × AV))) (h 15 (by decide))), ⟨fun _ _ h => (cong2 (fun zz0 zz1 => (some ((.pointer (some ⟨(bse zz0), 0, none⟩)), .optr 30 [.int .i64 a0.kind, .int .i64 a0.num, .str a0.text, .nil, .hd 3001 zz1]) : Option (Value × AV))) (h 15 (by decide)) (h 3001 (by decide))), ⟨fun _ _ _ => rfl, ⟨fun _ _ _ => rfl, trivial⟩⟩⟩⟩⟩ (fun _ => rfl) (fun _ => rfl) (by kernel_rfl) (fun _ => ⟨⟨_, rfl, .refl _⟩, ⟨⟨_, rfl, .refl _⟩, ⟨⟨_, rfl, .refl _⟩, ⟨⟨_, rfl, .refl _⟩, trivial⟩⟩⟩⟩) (fun _ => ⟨⟨_, rfl, .refl _⟩, ⟨⟨_, rfl, .refl _⟩, ⟨⟨_, rfl, .refl _⟩, ⟨⟨_, rfl, .refl _⟩, trivial⟩⟩⟩⟩) (by kernel_rfl) (by decide) ?_
 ·refine local_mk (fun ν1 => [(2, .ptr 12 b1 0)]) (fun ν1 => []) (fun _ => rfl) (fun _ => ⟨⟨_, rfl, .refl _, .refl _⟩, trivial⟩) (fun _ => rfl) (fun _ => trivial) ?_
  intro ν1 S H hS hfr
  refine st_op rfl (ValOk.op (v_fieldP tabOk rfl tfoff30_0 rfl ?_))
  exact lp_v hS rfl rfl (fun _ => rfl)
 ·refine local_mk (fun ν1 => [(11, .ptr 12 b1 0)]) (fun ν1 => [(12, ((.pointer (some ⟨b1, 0, none⟩)), .optr 30 [.int .i64 a0.kind, .int .i64 a0.num, .str a0.text, .sl true (a0.list.map encVal), .sl false (a0.names.map encS)]))]) (fun _ => rfl) (fun _ => ⟨⟨_, rfl, .refl _, .refl _⟩, trivial⟩) (fun _ => rfl) (fun _ => ⟨rfl, trivial⟩) ?_
  intro ν1 S H hS hfr
  refine st_op rfl (ValOk.op (v_loadP tabOk rfl rfl tsize3 tagg3 rfl rfl rfl rfl ?_))
  exact lp_v hS rfl rfl (fun _ => rfl)
 ·refine local_mk (fun ν1 => [(2, .ptr 12 b1 0)]) (fun ν1 => []) (fun _ => rfl) (fun _ => ⟨⟨_, rfl, .refl _, .refl _⟩, trivial⟩) (fun _ => rfl) (fun _ => trivial) ?_
  intro ν1 S H hS hfr
  refine st_op rfl (ValOk.op (v_fieldP tabOk rfl tfoff30_1 rfl ?_))
  exact lp_v hS rfl rfl (fun _ => rfl)
 ·refine local_mk (fun ν1 => [(13, .ptr 12 b1 1)]) (fun ν1 => [(12, ((.pointer (some ⟨b1, 0, none⟩)), .optr 30 [.int .i64 a0.kind, .int .i64 a0.num, .str a0.text, .sl true (a0.list.map encVal), .sl false (a0.names.map encS)]))]) (fun _ => rfl) (fun _ => ⟨⟨_, rfl, .refl _, .refl _⟩, trivial⟩) (fun _ => rfl) (fun _ => ⟨rfl, trivial⟩) ?_
  intro ν1 S H hS hfr
  refine st_op rfl (ValOk.op (v_loadP tabOk rfl rfl tsize3 tagg3 rfl rfl rfl rfl ?_))
  exact lp_v hS rfl rfl (fun _ => rfl)
 ·refine local_mk (fun ν1 => [(2, .ptr 12 b1 0)]) (fun ν1 => []) (fun _ => rfl) (fun _ => ⟨⟨_, rfl, .refl _, .refl _⟩, trivial⟩) (fun _ => rfl) (fun _ => trivial) ?_
  intro ν1 S H hS hfr
  refine st_op rfl (ValOk.op (v_fieldP tabOk rfl tfoff30_2 rfl ?_))
  exact lp_v hS rfl rfl (fun _ => rfl)
 ·refine local_mk (fun ν1 => [(15, .ptr 12 b1 2)]) (fun ν1 => [(12, ((.pointer (some ⟨b1, 0, none⟩)), .optr 30 [.int .i64 a0.kind, .int .i64 a0.num, .str a0.text, .sl true (a0.list.map encVal), .sl false (a0.names.map encS)]))]) (fun _ => rfl) (fun _ => ⟨⟨_, rfl, .refl _, .refl _⟩, trivial⟩) (fun _ => rfl) (fun _ => ⟨rfl, trivial⟩) ?_
  intro ν1 S H hS hfr
  refine st_op rfl (ValOk.op (v_loadP tabOk rfl rfl tsize9 tagg9 rfl rfl rfl rfl ?_))
  exact lp_v hS rfl rfl (fun _ => rfl)
 ·refine local_mk (fun ν1 => [(2, .ptr 12 b1 0)]) (fun ν1 => []) (fun _ => rfl) (fun _ => ⟨⟨_, rfl, .refl _, .refl _⟩, trivial⟩) (fun _ => rfl) (fun _ => trivial) ?_
  intro ν1 S H hS hfr
  refine st_op rfl (ValOk.op (v_fieldP tabOk rfl tfoff30_4 rfl ?_))
  exact lp_v hS rfl rfl (fun _ => rfl)
 ·refine local_mk (fun ν1 => [(17, .ptr 12 b1 4)]) (fun ν1 => [(12, ((.pointer (some ⟨b1, 0, none⟩)), .optr 30 [.int .i64 a0.kind, .int .i64 a0.num, .str a0.text, .sl true (a0.list.map encVal), .sl false (a0.names.map encS)]))]) (fun _ => rfl) (fun _ => ⟨⟨_, rfl, .refl _, .refl _⟩, trivial⟩) (fun _ => rfl) (fun _ => ⟨rfl, trivial⟩) ?_
  intro ν1 S H hS hfr
  refine st_op rfl (ValOk.op (v_loadP tabOk rfl rfl tsize23 tagg23 rfl rfl rfl rfl ?_))
  exact lp_v hS rfl rfl (fun _ => rfl)
 ·refine local_mk (fun ν1 => [(18, .sl false (a0.names.map encS))]) (fun ν1 => []) (fun _ => rfl) (fun _ => ⟨⟨_, rfl, .refl _, .refl _⟩, trivial⟩) (fun _ => rfl) (fun _ => trivial) ?_
  intro ν1 S H hS hfr
  refine st_op rfl (o_callDa [] [] [] (core_value rfl rfl) (m_impl_copyTexts_ok a0.names _ hy1) trivial (.cons (.refl _) (.nil)) trivial rfl rfl rfl ?_)
  rintro _ _ ⟨w1, rfl, rfl⟩
  refine ⟨.hd 3001 w1, [(3001, _)], .hd _ _ _, rfl, rfl, rfl, (fun x hx => has_minus (hfr x hx)), .inl rfl, ?_⟩
  exact lp_mm (hN := [(3001, _)]) hS rfl rfl (fun _ => rfl) ⟨rfl, trivial⟩
 ·refine local_mk (fun ν1 => [(12, .int .i64 a0.kind), (14, .int .i64 a0.num), (16, .str a0.text), (19, .hd 3001 (ν1 3001))]) (fun ν1 => []) (fun _ => rfl) (fun _ => ⟨⟨_, rfl, .refl _, .refl _⟩, ⟨⟨_, rfl, .refl _, .refl _⟩, ⟨⟨_, rfl, .refl _, .refl _⟩, ⟨⟨_, rfl, .refl _, .refl _⟩, trivial⟩⟩⟩⟩) (fun _ => rfl) (fun _ => trivial) ?_
  intro ν1 S H hS hfr
  refine st_op rfl (ValOk.op (v_build tabOk (cs := [.int .i64 a0.kind, .int .i64 a0.num, .str a0.text, .nil, .hd 3001 (ν1 3001)]) tzero30 tsok30 rfl rfl rfl ?_))
  exact lp_v hS rfl rfl (fun _ => rfl)
 ·refine local_mk (fun ν1 => []) (fun ν1 => []) (fun _ => rfl) (fun _ => trivial) (fun _ => rfl) (fun _ => trivial) ?_
  intro ν1 S H hS hfr
  refine st_op rfl (o_alloc (k := 15) tabOk tzero30 (hfr _ (by decide)) rfl ?_)
  intro w
  exact lp_n (k := 15) hS rfl rfl (fun _ => rfl) rfl
 ·refine local_mk (fun ν1 => [(5, .ptr 15 (bse (ν1 15)) 0), (20, .agg [.int .i64 a0.kind, .int .i64 a0.num, .str a0.text, .nil, .hd 3001 (ν1 3001)])]) (fun ν1 => [(15, ((.pointer (some ⟨(bse (ν1 15)), 0, none⟩)), .optr 30 [.int .i64 0, .int .i64 0, .str ([] : Bs), .nil, .nil]))]) (fun _ => rfl) (fun _ => ⟨⟨_, rfl, .refl _, .refl _⟩, ⟨⟨_, rfl, .refl _, .refl _⟩, trivial⟩⟩) (fun _ => rfl) (fun _ => ⟨rfl, trivial⟩) ?_
  intro ν1 S H hS hfr
  refine st_op rfl (o_storeP tabOk (cs' := [.int .i64 a0.kind, .int .i64 a0.num, .str a0.text, .nil, .hd 3001 (ν1 3001)]) rfl rfl tsize30 rfl rfl rfl (Nat.le_of_ble_eq_true rfl) rfl rfl rfl ?_)
  exact lp_m (k := 9002) hS rfl rfl (.inr (by decide)) (fun _ => rfl) rfl
 intro ν1
 refine hK2 _ ?_
 refine good_seq fun K3 hK3 => ?_
 refine good_seq fun K4 hK4 => ?_
 refine rg 2 ?_
 refine g_op rfl (ValOk.op (v_lenM (l := a0.list) (f := encVal) tabOk rfl rfl telem28 rfl ?_))
 refine gs 1 ?_
 refine gk hK4 76 [1, 2, 4, 5, 24] [12, 14, 15, 3001] ?_
 refine good_cond rfl (fun hc1 => ?_) (fun hc1 => ?_)
 ·replace h := ifT h (dT hc1)
  refine good_seq fun K5 hK5 => ?_
  refine rg 1 ?_
  refine g_op rfl (o_storeP tabOk (cs' := [.int .i64 a0.kind, .int .i64 a0.num, .str a0.text, .nil, .hd 3001 (ν1 3001)]) rfl rfl tsize30 rfl rfl rfl (Nat.le_of_ble_eq_true rfl) rfl rfl rfl ?_)
  refine gk hK5 76 [1, 2, 4, 5] [12, 14, 3001, 15] ?_
  refine Good.le (σ' := ⟨76, [(4, .ptr 14 b2 0)], [(100, (nilV, .osl 30 5 (([] : List Val).map encOVal))), (101, ((ν1 3001), .osl 9 1 (y1.map encS))), (14, ((.pointer (some ⟨b2, 0, none⟩)), .optr 30 [.int .i64 a0.kind, .int .i64 a0.num, .str a0.text, .hd 100 nilV, .hd 101 (ν1 3001)]))]⟩) (lw [none, some 3001, some 14]) ?_
  refine good_ret ?_
  obtain rfl := Option.some.inj h
  refine thenQ_ret ?_
  exact endQ_ret (h' := [(100, (_, _)), (101, (_, _))]) [some 100, some 101] (.cell rfl rfl tsize30 tagg30 rfl rfl rfl (.nil)) ⟨⟨_, rfl, .refl _⟩, ⟨⟨_, rfl, .refl _⟩, trivial⟩⟩ (by decide) ⟨nilV, (ν1 3001), rfl, rfl⟩
 ·replace h := ifF h (dF hc1)
  refine good_skip ?_
  refine hK3 _ (kp 76 [1, 2, 4, 5] [12, 14, 15, 3001] ?_)
  refine good_seq fun K6 hK6 => ?_
  refine rg 2 ?_
  obtain ⟨y2, hy2, h⟩ := bnd h
  refine g_op rfl (o_callR [] [] (core_value rfl rfl) (m_impl_spanOf_ok a0.list _ hy2) trivial (.cons (.refl _) (.nil)) (.inl rfl) rfl ?_)
  refine g_op rfl (o_alloc (k := 16) tabOk tzero62 rfl rfl ?_)
  intro b3
  refine g_op rfl (o_storeP tabOk (cs' := [.spt (y2.map encVal), .int .i64 (y2.length : Int)]) rfl rfl tsize62 rfl rfl rfl (Nat.le_of_ble_eq_true rfl) rfl rfl rfl ?_)
  refine gk hK6 76 [1, 2, 4, 5, 6] [12, 14, 15, 3001, 16] ?_
  refine good_seq fun K7 hK7 => ?_
  refine good_seq fun K8 hK8 => ?_
  refine rg 2 ?_
  refine gk hK8 76 [1, 2, 4, 5, 6, 7] [12, 14, 15, 3001, 16] ?_
  obtain ⟨o1, ho1, hJ1⟩ := bnd h
  have hw1 : ∀ (s1 : Unit), o1 = Lp.go s1 → ∀ σ', Le σ' ⟨76, [(1, (encChain a1)), (2, .ptr 12 b1 0), (4, .ptr 14 b2 0), (5, .ptr 15 (bse (ν1 15)) 0), (6, .ptr 16 b3 0)], [(12, ((.pointer (some ⟨b1, 0, none⟩)), .optr 30 [.int .i64 a0.kind, .int .i64 a0.num, .str a0.text, .sl true (a0.list.map encVal), .sl false (a0.names.map encS)])), (14, ((.pointer (some ⟨b2, 0, none⟩)), .optr 30 [.int .i64 0, .int .i64 0, .str ([] : Bs), .nil, .nil])), (15, ((.pointer (some ⟨(bse (ν1 15)), 0, none⟩)), .optr 30 [.int .i64 a0.kind, .int .i64 a0.num, .str a0.text, .nil, .hd 3001 (ν1 3001)])), (3001, ((ν1 3001), .osl 9 1 (y1.map encS))), (16, ((.pointer (some ⟨b3, 0, none⟩)), .optr 62 [.spt (y2.map encVal), .int .i64 (y2.length : Int)]))]⟩ → K7 σ' := by
   intro s1 e1 σ' hle1
   subst e1
   refine hK7 _ (Good.le hle1 ?_)
   replace h := hJ1
   refine good_seq fun K9 hK9 => ?_
   refine rg 2 ?_
   refine g_op rfl (ValOk.op (v_lenM (l := a0.list) (f := encVal) tabOk rfl rfl telem28 rfl ?_))
   obtain ⟨hb1, h⟩ := ifS h
   obtain ⟨hb2, h⟩ := ifS h
   refine g_op rfl (OpOk.le (o_makeM (k := 61) (zz := ((Val.mk 0 0 ([] : Bs) [] []))) (f := fun _ : Val => ([.int .i64 0, .int .i64 0, .str ([] : Bs), .nil, .nil] : List AV)) tabOk telem28 tsize30 tbytes30 tzero30 rfl rfl rfl (by decide) (WkL.refl _) rfl rfl hb1 hb2 ?_))
   intro w2
   refine ⟨_, le_nilsR (k := 61) (rows' := (List.replicate (Int.toNat (a0.list.length : Int)) (Val.mk 0 0 ([] : Bs) [] [])).map encOVal) (RowsTo.repl (by simp only [encOVal_eq]; exact .cons (.refl _) (.cons (.refl _) (.cons (.refl _) (.cons (.nil _ _) (.cons (.nil _ _) (.nil))))))), ?_⟩
   refine gs 1 ?_
   refine g_op rfl (o_storeP tabOk (cs' := [.int .i64 a0.kind, .int .i64 a0.num, .str a0.text, .hd 61 w2, .hd 3001 (ν1 3001)]) rfl rfl tsize28 rfl rfl rfl (Nat.le_of_ble_eq_true rfl) rfl rfl rfl ?_)
   refine gk hK9 76 [1, 2, 4, 5, 6] [12, 14, 15, 61, 3001, 16] ?_
   refine good_seq fun K10 hK10 => ?_
   refine rg 4 ?_
   refine g_op rfl (ValOk.op (v_buildW tabOk (cs := [.spt (y2.map encVal), .int .i64 (y2.length : Int), .hd 61 w2, (encChain a1)]) tzero123 tsok123 rfl (fill_made _ _ _ _ _ _) (.agg (.cons (.refl _) (.cons (.refl _) (.cons (.onehd _ _) (.cons (.refl _) (.nil)))))) rfl ?_))
   refine g_op rfl (o_box (k := 68) tabOk rfl rfl (cells_made _ _ _ _) rfl rfl ?_)
   intro b4
   refine g_le (σ1 := ⟨76, [(1, (encChain a1)), (2, .ptr 12 b1 0), (4, .ptr 14 b2 0), (5, .ptr 15 (bse (ν1 15)) 0), (6, .ptr 16 b3 0), (53, .agg [.spt (y2.map encVal), .int .i64 (y2.length : Int)]), (54, .ptr 15 (bse (ν1 15)) 3), (55, .hd 61 w2), (56, (encChain a1)), (57, .agg [.spt (y2.map encVal), .int .i64 (y2.length : Int), .one, (encChain a1)]), (58, (encChain (y2 :: a1)))], [(12, ((.pointer (some ⟨b1, 0, none⟩)), .optr 30 [.int .i64 a0.kind, .int .i64 a0.num, .str a0.text, .sl true (a0.list.map encVal), .sl false (a0.names.map encS)])), (14, ((.pointer (some ⟨b2, 0, none⟩)), .optr 30 [.int .i64 0, .int .i64 0, .str ([] : Bs), .nil, .nil])), (15, ((.pointer (some ⟨(bse (ν1 15)), 0, none⟩)), .optr 30 [.int .i64 a0.kind, .int .i64 a0.num, .str a0.text, .hd 61 w2, .hd 3001 (ν1 3001)])), (61, (w2, .osl 30 5 ((List.replicate (Int.toNat (a0.list.length : Int)) (Val.mk 0 0 ([] : Bs) [] [])).map encOVal))), (3001, ((ν1 3001), .osl 9 1 (y1.map encS))), (16, ((.pointer (some ⟨b3, 0, none⟩)), .optr 62 [.spt (y2.map encVal), .int .i64 (y2.length : Int)]))]⟩) (le_of [68] [(_, _)] [some 12, some 14, some 15, some 61, some 3001, some 16] rfl ⟨⟨_, rfl, .optr (.cons (.refl _ rfl) (.cons (.refl _ rfl) (.cons (.refl _ rfl) (.cons (frz_chain _) (.nil)))))⟩, trivial⟩ ⟨⟨_, rfl, .refl _⟩, ⟨⟨_, rfl, .refl _⟩, ⟨⟨_, rfl, .refl _⟩, ⟨⟨_, rfl, .refl _⟩, ⟨⟨_, rfl, .refl _⟩, ⟨⟨_, rfl, .refl _⟩, ⟨⟨_, rfl, .refl _⟩, ⟨⟨_, rfl, .refl _⟩, ⟨⟨_, rfl, .refl _⟩, ⟨⟨_, rfl, .refl _⟩, ⟨⟨_, rfl, .frzp _ _ _ _ _ (.head _) rfl (Nat.le_of_ble_eq_true rfl)⟩, trivial⟩⟩⟩⟩⟩⟩⟩⟩⟩⟩⟩ ⟨⟨_, rfl, .refl _⟩, ⟨⟨_, rfl, .refl _⟩, ⟨⟨_, rfl, .refl _⟩, ⟨⟨_, rfl, .refl _⟩, ⟨⟨_, rfl, .refl _⟩, ⟨⟨_, rfl, .refl _⟩, trivial⟩⟩⟩⟩⟩⟩ (by decide) (by decide)) ?_
   refine gs 1 ?_
   refine gk hK10 76 [2, 4, 5, 8] [12, 14, 15, 61, 3001] ?_
   refine good_seq fun K11 hK11 => ?_
   refine good_seq fun K12 hK12 => ?_
   refine rg 2 ?_
   refine g_op rfl (ValOk.op (v_lenM (l := a0.list) (f := encVal) tabOk rfl rfl telem28 rfl ?_))
   refine gs 1 ?_
   refine gk hK12 76 [4, 5, 8, 60, 61, 62] [14, 15, 61, 3001] ?_
   obtain ⟨o2, ho2, hJ2⟩ := bnd h
   have hw2 : ∀ (s2 : (List Val)), o2 = Lp.go s2 → ∀ σ', Le σ' ⟨76, [(4, .ptr 14 b2 0), (5, .ptr 15 (bse (ν1 15)) 0)], [(14, ((.pointer (some ⟨b2, 0, none⟩)), .optr 30 [.int .i64 0, .int .i64 0, .str ([] : Bs), .nil, .nil])), (15, ((.pointer (some ⟨(bse (ν1 15)), 0, none⟩)), .optr 30 [.int .i64 a0.kind, .int .i64 a0.num, .str a0.text, .hd 61 w2, .hd 3001 (ν1 3001)])), (61, (w2, .osl 30 5 (s2.map encOVal))), (3001, ((ν1 3001), .osl 9 1 (y1.map encS)))]⟩ → K11 σ' := by
    intro s2 e2 σ' hle2
    subst e2
    refine hK11 _ (Good.le hle2 ?_)
    replace h := hJ2
    refine good_seq fun K13 hK13 => ?_
    refine rg 1 ?_
    refine g_op rfl (o_storeP tabOk (cs' := [.int .i64 a0.kind, .int .i64 a0.num, .str a0.text, .hd 61 w2, .hd 3001 (ν1 3001)]) rfl rfl tsize30 rfl rfl rfl (Nat.le_of_ble_eq_true rfl) rfl rfl rfl ?_)
    refine gk hK13 76 [4] [14, 61, 3001] ?_
    refine Good.le (σ' := ⟨76, [(4, .ptr 14 b2 0)], [(100, (w2, .osl 30 5 (s2.map encOVal))), (101, ((ν1 3001), .osl 9 1 (y1.map encS))), (14, ((.pointer (some ⟨b2, 0, none⟩)), .optr 30 [.int .i64 a0.kind, .int .i64 a0.num, .str a0.text, .hd 100 w2, .hd 101 (ν1 3001)]))]⟩) (lw [some 61, some 3001, some 14]) ?_
    refine good_ret ?_
    obtain rfl := Option.some.inj h
    exact endQ_ret (h' := [(100, (_, _)), (101, (_, _))]) [some 100, some 101] (.cell rfl rfl tsize30 tagg30 rfl rfl rfl (.nil)) ⟨⟨_, rfl, .refl _⟩, ⟨⟨_, rfl, .refl _⟩, trivial⟩⟩ (by decide) ⟨w2, (ν1 3001), rfl, rfl⟩
   replace h := ho2
   refine good_block ?_
   refine good_loopf (fun p : ((List Val) × Int) => ⟨76, [(4, .ptr 14 b2 0), (5, .ptr 15 (bse (ν1 15)) 0), (8, (encChain (y2 :: a1))), (60, .sl true (a0.list.map encVal)), (61, .int .i64 (a0.list.length : Int)), (62, .int .i64 p.2)], [(14, ((.pointer (some ⟨b2, 0, none⟩)), .optr 30 [.int .i64 0, .int .i64 0, .str ([] : Bs), .nil, .nil])), (15, ((.pointer (some ⟨(bse (ν1 15)), 0, none⟩)), .optr 30 [.int .i64 a0.kind, .int .i64 a0.num, .str a0.text, .hd 61 w2, .hd 3001 (ν1 3001)])), (61, (w2, .osl 30 5 (p.1.map encOVal))), (3001, ((ν1 3001), .osl 9 1 (y1.map encS)))]⟩) (fun m p => m < k + 1 ∧ m_impl_copyWithin_l2 m a0 a1 y2 p.1 p.2 = some o2) k (List.replicate (Int.toNat (a0.list.length : Int)) (Val.mk 0 0 ([] : Bs) [] []), 0) (lw [some 14, some 15, some 61, some 3001]) ⟨by omega, h⟩ ?_
   rintro m1 ⟨x2, x3⟩ ⟨hm, h⟩
   replace h : m_impl_copyWithin_l2 m1 a0 a1 y2 x2 x3 = some o2 := h
   refine Good.le (σ' := ⟨76, [(4, .ptr 14 b2 0), (5, .ptr 15 (bse (ν1 15)) 0), (8, (encChain (y2 :: a1))), (60, .sl true (a0.list.map encVal)), (61, .int .i64 (a0.list.length : Int)), (62, .int .i64 x3)], [(14, ((.pointer (some ⟨b2, 0, none⟩)), .optr 30 [.int .i64 0, .int .i64 0, .str ([] : Bs), .nil, .nil])), (15, ((.pointer (some ⟨(bse (ν1 15)), 0, none⟩)), .optr 30 [.int .i64 a0.kind, .int .i64 a0.num, .str a0.text, .hd 61 w2, .hd 3001 (ν1 3001)])), (61, (w2, .osl 30 5 (x2.map encOVal))), (3001, ((ν1 3001), .osl 9 1 (y1.map encS)))]⟩) (Le.refl _) ?_
   obtain ⟨m1, rfl⟩ : ∃ m', m1 = m' + 1 := by cases m1 with | zero => (rw [m_impl_copyWithin_l2] at h; cases h) | succ m' => exact ⟨m', rfl⟩
   rw [m_impl_copyWithin_l2] at h
   refine good_seq fun K14 hK14 => ?_
   refine rg 1 ?_
   refine g_nil (hK14 _ ?_)
   refine good_seq fun K15 hK15 => ?_
   refine good_cond rfl (fun hc2 => ?_) (fun hc2 => ?_)
   ·replace h := ifT h (dT hc2)
    refine good_skip ?_
    refine hK15 _ (kp 76 [4, 5, 8, 60, 61, 62] [14, 15, 61, 3001] ?_)
    refine good_seq fun K16 hK16 => ?_
    refine good_block ?_
    refine good_seq fun K17 hK17 => ?_
    refine rg 1 ?_
    obtain ⟨hb3, h⟩ := ifS h
    refine g_op rfl (ValOk.op (v_idxM tabOk rfl rfl telem28 tsize30 hb3 (encVal_eq _) rfl rfl ?_))
    refine gs 1 ?_
    refine g_op rfl (o_alloc (k := 20) tabOk tzero30 rfl rfl ?_)
    intro b5
    refine gs 1 ?_
    refine g_op rfl (o_storeP tabOk (cs' := [.int .i64 ((ix a0.list x3).kind), .int .i64 ((ix a0.list x3).num), .str ((ix a0.list x3).text), .sl true (((ix a0.list x3).list).map encVal), .sl false (((ix a0.list x3).names).map encS)]) rfl rfl tsize30 rfl rfl rfl (Nat.le_of_ble_eq_true rfl) rfl rfl rfl ?_)
    refine gk hK17 76 [4, 5, 8, 9, 10, 60, 61, 62] [14, 15, 61, 3001, 20] ?_
    obtain ⟨y3, hy3, h⟩ := bnd h
    obtain ⟨hb4, h⟩ := ifS h
    refine good_anyM (by kernel_rfl) [⟨[], [5], [], [], [], []⟩, ⟨[0], [67], [15], [], [], []⟩, ⟨[], [9], [], [], [], []⟩, ⟨[], [10], [20], [], [], []⟩, ⟨[], [8], [], [], [], []⟩, ⟨[3, 4], [70, 71], [], [], [3003, 3004], [3003, 3004]⟩, ⟨[0, 1, 2, 3, 4, 5], [68, 69], [61], [], [], []⟩, ⟨[0, 1, 2, 3, 4, 5, 6], [73, 72], [61, 3003, 3004], [61, 3003, 3004], [9005], []⟩] [some 67, some 68, some 69, some 70, some 71, some 72, some 73, none] 76 [(4, .ptr 14 b2 0), (5, .ptr 15 (bse (ν1 15)) 0), (8, (encChain (y2 :: a1))), (9, .int .i64 x3), (10, .ptr 20 b5 0), (60, .sl true (a0.list.map encVal)), (61, .int .i64 (a0.list.length : Int)), (62, .int .i64 x3)] [(14, ((.pointer (some ⟨b2, 0, none⟩)), .optr 30 [.int .i64 0, .int .i64 0, .str ([] : Bs), .nil, .nil])), (15, ((.pointer (some ⟨(bse (ν1 15)), 0, none⟩)), .optr 30 [.int .i64 a0.kind, .int .i64 a0.num, .str a0.text, .hd 61 w2, .hd 3001 (ν1 3001)])), (61, (w2, .osl 30 5 (x2.map encOVal))), (3001, ((ν1 3001), .osl 9 1 (y1.map encS))), (20, ((.pointer (some ⟨b5, 0, none⟩)), .optr 30 [.int .i64 ((ix a0.list x3).kind), .int .i64 ((ix a0.list x3).num), .str ((ix a0.list x3).text), .sl true (((ix a0.list x3).list).map encVal), .sl false (((ix a0.list x3).names).map encS)]))] (fun ν2 => [.ptr 15 (bse (ν1 15)) 3, .hd 61 w2, .int .i64 x3, .agg [.int .i64 ((ix a0.list x3).kind), .int .i64 ((ix a0.list x3).num), .str ((ix a0.list x3).text), .sl true (((ix a0.list x3).list).map encVal), .sl false (((ix a0.list x3).names).map encS)], (encChain (y2 :: a1)), .agg [.int .i64 y3.kind, .int .i64 y3.num, .str y3.text, .hd 3003 (ν2 3003), .hd 3004 (ν2 3004)], .rptr 61 w2 5 (Int.toNat x3) 0, .und]) (fun ν2 => [(3003, ((ν2 3003), .osl 30 5 (y3.list.map encOVal))), (3004, ((ν2 3004), .osl 9 1 (y3.names.map encS))), (9005, (w2, .osl 30 5 ((x2.set (Int.toNat x3) y3).map encOVal)))]) [(3003, [3003]), (3004, [3004]), (9005, []), (14, []), (15, []), (61, []), (3001, []), (20, [])] [3003, 3004, 9005] [some 14, some 15, some 9005, some 3001] (fun ν2 => [(4, .ptr 14 b2 0), (5, .ptr 15 (bse (ν1 15)) 0), (8, (encChain (y2 :: a1))), (60, .sl true (a0.list.map encVal)), (61, .int .i64 (a0.list.length : Int)), (62, .int .i64 x3)]) (fun ν2 => [(14, ((.pointer (some ⟨b2, 0, none⟩)), .optr 30 [.int .i64 0, .int .i64 0, .str ([] : Bs), .nil, .nil])), (15, ((.pointer (some ⟨(bse (ν1 15)), 0, none⟩)), .optr 30 [.int .i64 a0.kind, .int .i64 a0.num, .str a0.text, .hd 61 w2, .hd 3001 (ν1 3001)])), (61, (w2, .osl 30 5 ((x2.set (Int.toNat x3) y3).map encOVal))), (3001, ((ν1 3001), .osl 9 1 (y1.map encS)))]) (lw [some 14, some 15, some 61, some 3001, some 20]) (by kernel_rfl) ⟨?_, ⟨?_, ⟨?_, ⟨?_, ⟨?_, ⟨?_, ⟨?_, ⟨?_, trivial⟩⟩⟩⟩⟩⟩⟩⟩ ⟨fun _ _ _ => rfl, ⟨fun _ _ _ => rfl, ⟨fun _ _ _ => rfl, ⟨fun _ _ _ => rfl, ⟨fun _ _ _ => rfl, ⟨fun _ _ h => (cong2 (fun zz0 zz1 => (some (.agg [.int .i64 y3.kind, .int .i64 y3.num, .str y3.text, .hd 3003 zz0, .hd 3004 zz1]) : Option AV)) (h 3003 (by decide)) (h 3004 (by decide))), ⟨fun _ _ _ => rfl, ⟨fun _ _ _ => rfl, trivial⟩⟩⟩⟩⟩⟩⟩⟩ ⟨fun _ _ h => (congrArg (fun zz0 => (some (zz0, .osl 30 5 (y3.list.map encOVal)) : Option (Value × AV))) (h 3003 (by decide))), ⟨fun _ _ h => (congrArg (fun zz0 => (some (zz0, .osl 9 1 (y3.names.map encS)) : Option (Value × AV))) (h 3004 (by decide))), ⟨fun _ _ _ => rfl, ⟨fun _ _ _ => rfl, ⟨fun _ _ _ => rfl, ⟨fun _ _ _ => rfl, ⟨fun _ _ _ => rfl, ⟨fun _ _ _ => rfl, trivial⟩⟩⟩⟩⟩⟩⟩⟩ (fun _ => rfl) (fun _ => rfl) (by kernel_rfl) (fun _ => ⟨⟨_, rfl, .refl _⟩, ⟨⟨_, rfl, .refl _⟩, ⟨⟨_, rfl, .refl _⟩, ⟨⟨_, rfl, .refl _⟩, ⟨⟨_, rfl, .refl _⟩, ⟨⟨_, rfl, .refl _⟩, trivial⟩⟩⟩⟩⟩⟩) (fun _ => ⟨⟨_, rfl, .refl _⟩, ⟨⟨_, rfl, .refl _⟩, ⟨⟨_, rfl, .refl _⟩, ⟨⟨_, rfl, .refl _⟩, trivial⟩⟩⟩⟩) (by kernel_rfl) (by decide) ?_
    ·refine local_mk (fun ν2 => [(5, .ptr 15 (bse (ν1 15)) 0)]) (fun ν2 => []) (fun _ => rfl) (fun _ => ⟨⟨_, rfl, .refl _, .refl _⟩, trivial⟩) (fun _ => rfl) (fun _ => trivial) ?_
     intro ν2 S H hS hfr
     refine st_op rfl (ValOk.op (v_fieldP tabOk rfl tfoff30_3 rfl ?_))
     exact lp_v hS rfl rfl (fun _ => rfl)
    ·refine local_mk (fun ν2 => [(67, .ptr 15 (bse (ν1 15)) 3)]) (fun ν2 => [(15, ((.pointer (some ⟨(bse (ν1 15)), 0, none⟩)), .optr 30 [.int .i64 a0.kind, .int .i64 a0.num, .str a0.text, .hd 61 w2, .hd 3001 (ν1 3001)]))]) (fun _ => rfl) (fun _ => ⟨⟨_, rfl, .refl _, .refl _⟩, trivial⟩) (fun _ => rfl) (fun _ => ⟨rfl, trivial⟩) ?_
     intro ν2 S H hS hfr
     refine st_op rfl (ValOk.op (v_loadP tabOk rfl rfl tsize28 tagg28 rfl rfl rfl rfl ?_))
     exact lp_v hS rfl rfl (fun _ => rfl)
    ·refine local_mk (fun ν2 => [(9, .int .i64 x3)]) (fun ν2 => []) (fun _ => rfl) (fun _ => ⟨⟨_, rfl, .refl _, .refl _⟩, trivial⟩) (fun _ => rfl) (fun _ => trivial) ?_
     intro ν2 S H hS hfr
     refine st_op rfl (ValOk.op (v_move rfl rfl ?_))
     exact lp_v hS rfl rfl (fun _ => rfl)
    ·refine local_mk (fun ν2 => [(10, .ptr 20 b5 0)]) (fun ν2 => [(20, ((.pointer (some ⟨b5, 0, none⟩)), .optr 30 [.int .i64 ((ix a0.list x3).kind), .int .i64 ((ix a0.list x3).num), .str ((ix a0.list x3).text), .sl true (((ix a0.list x3).list).map encVal), .sl false (((ix a0.list x3).names).map encS)]))]) (fun _ => rfl) (fun _ => ⟨⟨_, rfl, .refl _, .refl _⟩, trivial⟩) (fun _ => rfl) (fun _ => ⟨rfl, trivial⟩) ?_
     intro ν2 S H hS hfr
     refine st_op rfl (ValOk.op (v_loadP tabOk rfl rfl tsize30 tagg30 rfl rfl rfl rfl ?_))
     exact lp_v hS rfl rfl (fun _ => rfl)
    ·refine local_mk (fun ν2 => [(8, (encChain (y2 :: a1)))]) (fun ν2 => []) (fun _ => rfl) (fun _ => ⟨⟨_, rfl, .refl _, .refl _⟩, trivial⟩) (fun _ => rfl) (fun _ => trivial) ?_
     intro ν2 S H hS hfr
     refine st_op rfl (ValOk.op (v_move rfl rfl ?_))
     exact lp_v hS rfl rfl (fun _ => rfl)
    ·refine local_mk (fun ν2 => [(70, .agg [.int .i64 ((ix a0.list x3).kind), .int .i64 ((ix a0.list x3).num), .str ((ix a0.list x3).text), .sl true (((ix a0.list x3).list).map encVal), .sl false (((ix a0.list x3).names).map encS)]), (71, (encChain (y2 :: a1)))]) (fun ν2 => []) (fun _ => rfl) (fun _ => ⟨⟨_, rfl, .refl _, .refl _⟩, ⟨⟨_, rfl, .refl _, .refl _⟩, trivial⟩⟩) (fun _ => rfl) (fun _ => trivial) ?_
     intro ν2 S H hS hfr
     refine st_op rfl (o_callDa [] [] [] (core_value rfl rfl) ((ih m1 (by omega)) (ix a0.list x3) (y2 :: a1) _ hy3) trivial (.cons (.refl _) (.cons (.refl _) (.nil))) trivial rfl rfl rfl ?_)
     rintro _ _ ⟨w3, w4, rfl, rfl⟩
     refine ⟨.agg [.int .i64 y3.kind, .int .i64 y3.num, .str y3.text, .hd 3003 w3, .hd 3004 w4], [(3003, _), (3004, _)], .agg (.cons (.refl _) (.cons (.refl _) (.cons (.refl _) (.cons (.hd _ _ _) (.cons (.hd _ _ _) (.nil)))))), rfl, rfl, rfl, (fun x hx => has_minus (hfr x hx)), .inl rfl, ?_⟩
     exact lp_mm (hN := [(3003, _), (3004, _)]) hS rfl rfl (fun _ => rfl) ⟨rfl, ⟨rfl, trivial⟩⟩
    ·refine local_mk (fun ν2 => [(68, .hd 61 w2), (69, .int .i64 x3)]) (fun ν2 => [(61, (w2, .osl 30 5 (x2.map encOVal)))]) (fun _ => rfl) (fun _ => ⟨⟨_, rfl, .refl _, .refl _⟩, ⟨⟨_, rfl, .refl _, .refl _⟩, trivial⟩⟩) (fun _ => rfl) (fun _ => ⟨rfl, trivial⟩) ?_
     intro ν2 S H hS hfr
     refine st_op rfl (ValOk.op (v_idxHM (q := 61) tabOk ⟨_, rfl⟩ rfl rfl telem28 tsize30 hb4 rfl ?_))
     exact lp_v hS rfl rfl (fun _ => rfl)
    ·refine local_mk (fun ν2 => [(73, .rptr 61 w2 5 (Int.toNat x3) 0), (72, .agg [.int .i64 y3.kind, .int .i64 y3.num, .str y3.text, .hd 3003 (ν2 3003), .hd 3004 (ν2 3004)])]) (fun ν2 => [(61, (w2, .osl 30 5 (x2.map encOVal))), (3003, ((ν2 3003), .osl 30 5 (y3.list.map encOVal))), (3004, ((ν2 3004), .osl 9 1 (y3.names.map encS)))]) (fun _ => rfl) (fun _ => ⟨⟨_, rfl, .refl _, .refl _⟩, ⟨⟨_, rfl, .refl _, .refl _⟩, trivial⟩⟩) (fun _ => rfl) (fun _ => ⟨rfl, ⟨rfl, ⟨rfl, trivial⟩⟩⟩) ?_
     intro ν2 S H hS hfr
     refine st_op rfl (OpOk.le (o_storeR (row' := [.int .i64 y3.kind, .int .i64 y3.num, .str y3.text, .hd 3003 (ν2 3003), .hd 3004 (ν2 3004)]) tabOk rfl rfl tsize30 rfl ((get_map hb4.1 hb4.2).trans (congrArg some (encOVal_eq _))) rfl rfl (by decide) rfl rfl rfl ?_))
     refine ⟨_, (Le.trans (Le.trans (Le.trans (Le.trans (le_absorb1 (k := 61) (k2 := 3003) (rows' := (x2.map encOVal).set (Int.toNat x3) [.int .i64 y3.kind, .int .i64 y3.num, .str y3.text, .osl 30 5 (y3.list.map encOVal), .hd 3004 (ν2 3004)]) (Int.toNat x3) 3 _ rfl (by decide) (rows_set_get (by have := hb4; simp only [List.length_set, List.length_map]; omega)) rfl (rows_set_set)) (le_mm (rs := [61, 3003]) rfl)) (le_absorb1 (k := 61) (k2 := 3004) (rows' := (x2.set (Int.toNat x3) y3).map encOVal) (Int.toNat x3) 4 _ rfl (by decide) (rows_set_get (by have := hb4; simp only [List.length_set, List.length_map]; omega)) rfl (rows_set_done (f := encOVal) (z := y3) (encOVal_eq _)))) (le_mm (rs := [61, 3003, 3004]) rfl)) (le_mm0 (rs := [61, 3003, 3004]) rfl)), ?_⟩
     exact lp_m (k := 9005) hS rfl rfl (.inr (by decide)) (fun _ => rfl) rfl
    intro ν2
    refine hK16 _ ?_
    refine rg 2 ?_
    refine g_nil ?_
    exact round_mk m1 (x2.set (Int.toNat x3) y3, IntKind.wrap .i64 (x3 + 1)) (Nat.lt_succ_self _) ⟨by omega, h⟩ (lw [some 14, some 15, some 61, some 3001])
   ·replace h := ifF h (dF hc2)
    refine good_exit ?_
    exact hw2 x2 (Option.some.inj h).symm _ (lw [some 14, some 15, some 61, some 3001])
  replace h := ho1
  refine good_block ?_
  refine good_loopf (fun p : (List (List Val)) => ⟨76, [(1, (encChain a1)), (2, .ptr 12 b1 0), (4, .ptr 14 b2 0), (5, .ptr 15 (bse (ν1 15)) 0), (6, .ptr 16 b3 0), (7, (encChain p))], [(12, ((.pointer (some ⟨b1, 0, none⟩)), .optr 30 [.int .i64 a0.kind, .int .i64 a0.num, .str a0.text, .sl true (a0.list.map encVal), .sl false (a0.names.map encS)])), (14, ((.pointer (some ⟨b2, 0, none⟩)), .optr 30 [.int .i64 0, .int .i64 0, .str ([] : Bs), .nil, .nil])), (15, ((.pointer (some ⟨(bse (ν1 15)), 0, none⟩)), .optr 30 [.int .i64 a0.kind, .int .i64 a0.num, .str a0.text, .nil, .hd 3001 (ν1 3001)])), (3001, ((ν1 3001), .osl 9 1 (y1.map encS))), (16, ((.pointer (some ⟨b3, 0, none⟩)), .optr 62 [.spt (y2.map encVal), .int .i64 (y2.length : Int)]))]⟩) (fun m p => m < k + 1 ∧ m_impl_copyWithin_l1 m y2 p = some o1) k (a1) (lw [some 12, some 14, some 15, some 3001, some 16]) ⟨by omega, h⟩ ?_
  rintro m2 x1 ⟨hm, h⟩
  replace h : m_impl_copyWithin_l1 m2 y2 x1 = some o1 := h
  refine Good.le (σ' := ⟨76, [(1, (encChain a1)), (2, .ptr 12 b1 0), (4, .ptr 14 b2 0), (5, .ptr 15 (bse (ν1 15)) 0), (6, .ptr 16 b3 0), (7, (encChain x1))], [(12, ((.pointer (some ⟨b1, 0, none⟩)), .optr 30 [.int .i64 a0.kind, .int .i64 a0.num, .str a0.text, .sl true (a0.list.map encVal), .sl false (a0.names.map encS)])), (14, ((.pointer (some ⟨b2, 0, none⟩)), .optr 30 [.int .i64 0, .int .i64 0, .str ([] : Bs), .nil, .nil])), (15, ((.pointer (some ⟨(bse (ν1 15)), 0, none⟩)), .optr 30 [.int .i64 a0.kind, .int .i64 a0.num, .str a0.text, .nil, .hd 3001 (ν1 3001)])), (3001, ((ν1 3001), .osl 9 1 (y1.map encS))), (16, ((.pointer (some ⟨b3, 0, none⟩)), .optr 62 [.spt (y2.map encVal), .int .i64 (y2.length : Int)]))]⟩) (Le.refl _) ?_
  obtain ⟨m2, rfl⟩ : ∃ m', m2 = m' + 1 := by cases m2 with | zero => (rw [m_impl_copyWithin_l1] at h; cases h) | succ m' => exact ⟨m', rfl⟩
  rw [m_impl_copyWithin_l1] at h
  refine good_seq fun K18 hK18 => ?_
  refine good_seq fun K19 hK19 => ?_
  refine rg 1 ?_
  refine g_op rfl (ValOk.op (v_chainNe rfl rfl tkind121 rfl ?_))
  refine gk hK19 76 [1, 2, 4, 5, 6, 7, 31] [12, 14, 15, 3001, 16] ?_
  refine good_cond rfl (fun hc3 => ?_) (fun hc3 => ?_)
  ·replace h := ifF h (ndT hc3)
   refine good_skip ?_
   refine hK18 _ (kp 76 [1, 2, 4, 5, 6, 7] [12, 14, 15, 3001, 16] ?_)
   refine good_seq fun K20 hK20 => ?_
   refine good_block ?_
   refine good_seq fun K21 hK21 => ?_
   refine good_draw (by kernel_rfl) (by kernel_rfl) ?_
   refine q_op rfl (v_move rfl rfl ?_)
   obtain ⟨hb5, h⟩ := ifS h
   refine q_op rfl (v_chainNil rfl hb5 rfl ?_)
   refine q_op rfl (v_fieldE tabOk rfl tfoff123_0 rfl rfl ?_)
   refine q_op rfl (v_loadE tabOk rfl tsize62 tagg62 rfl rfl rfl ?_)
   refine q_op rfl (v_loadP tabOk rfl rfl tsize62 tagg62 rfl rfl rfl rfl ?_)
   obtain ⟨hb6, h⟩ := ifS h
   refine q_op rfl (v_spanNe rfl rfl hb6 rfl ?_)
   refine q_nil ?_
   refine hK21 _ (kp 76 [1, 2, 4, 5, 6, 7, 41] [12, 14, 15, 3001, 16] ?_)
   refine good_cond (b := false) rfl (fun hc => Bool.noConfusion hc) (fun hc => ?_)
   refine good_skip ?_
   refine hK20 _ (kp 76 [1, 2, 4, 5, 6, 7] [12, 14, 15, 3001, 16] ?_)
   refine rg 1 ?_
   obtain ⟨hb7, h⟩ := ifS h
   refine g_op rfl (ValOk.op (v_chainNil rfl hb7 rfl ?_))
   refine gs 3 ?_
   refine g_nil ?_
   exact round_mk m2 (x1.tail) (Nat.lt_succ_self _) ⟨by omega, h⟩ (lw [some 12, some 14, some 15, some 3001, some 16])
  ·replace h := ifT h (ndF hc3)
   refine good_exit ?_
   exact hw1 () (Option.some.inj h).symm _ (lw [some 12, some 14, some 15, some 3001, some 16])
theorem m_impl_copyWithin_all (k : Nat) : P_m_impl_copyWithin k := by
 induction k using Nat.strongRecOn with
 | _ k ih => exact m_impl_copyWithin_step k ih
theorem m_impl_copyWithin_ok (k : Nat) : ∀ (a0 : Val) (a1 : (List (List Val))) (r : Val), m_impl_copyWithin k a0 a1 = some r → Does Try.prog 85 [.agg [.int .i64 a0.kind, .int .i64 a0.num, .str a0.text, .sl true (a0.list.map encVal), .sl false (a0.names.map encS)], (encChain a1)] [] (fun q h' => ∃ u0 : Value, ∃ u1 : Value, q = .agg [.int .i64 r.kind, .int .i64 r.num, .str r.text, .hd 100 u0, .hd 101 u1] ∧ h' = [(100, (u0, .osl 30 5 (r.list.map encOVal))), (101, (u1, .osl 9 1 (r.names.map encS)))]) := (m_impl_copyWithin_all k)
theorem m_impl_copyWithin_okF (k : Nat) : ∀ (a0 : Val) (a1 : (List (List Val))) (r : Val), m_impl_copyWithin k a0 a1 = some r → Does Try.prog 85 [.agg [.int .i64 a0.kind, .int .i64 a0.num, .str a0.text, .sl true (a0.list.map encVal), .sl false (a0.names.map encS)], (encChain a1)] [] (ret (.agg [.int .i64 r.kind, .int .i64 r.num, .str r.text, .sl true (r.list.map encVal), .sl false (r.names.map encS)])) := by
 intro a0 a1 r h
 refine does_frz (m_impl_copyWithin_ok k a0 a1 r h) ?_
 rintro q h' ⟨u0, u1, rfl, rfl⟩
 exact ⟨[100, 101], [(_, _), (_, _)], ⟨⟨_, rfl, .osl (FrzLL.map fun _ _ => encOVal_frz _)⟩, ⟨⟨_, rfl, .osl (FrzLL.map fun _ _ => encS_frz _)⟩, trivial⟩⟩, .agg (.cons (.refl _) (.cons (.refl _) (.cons (.refl _) (.cons (.frz _ _ _ (.head _)) (.cons (.frz _ _ _ (.tail _ (.head _))) (.nil))))))⟩
end Go.Proofs.Ytiaigcdckmpepaa
end
end
section
/-! Functions of the program. -/
set_option linter.unusedVariables false
set_option linter.unnecessarySimpa false
set_option maxRecDepth 100000
set_option maxHeartbeats 20000000
noncomputable section
namespace Go.Proofs.Ytiaigcdckmpepaa
open Go.Bb
mutual
def m_spec_l1Same_l2 : Nat → Val → Val → Int → Option (Lp Unit Bool)
 | 0, _, _, _ => none
 | k + 1, a0, a1, x2 =>
  if x2 < (a0.list.length : Int) then
   if (0 : Int) ≤ x2 ∧ x2 < (a0.list.length : Int) then
    if (0 : Int) ≤ x2 ∧ x2 < (a1.list.length : Int) then
     (m_spec_l1Same k (ix a0.list x2) (ix a1.list x2)).bind fun y1 =>
     if y1 = true then
      m_spec_l1Same_l2 k a0 a1 (IntKind.wrap .i64 (x2 + 1))
     else
      (some false).bind fun z =>
      some (Lp.ret z)
    else none
   else none
  else
   some (Lp.go ())
def m_spec_l1Same_l1 : Nat → Val → Val → Int → Option (Lp Unit Bool)
 | 0, _, _, _ => none
 | k + 1, a0, a1, x1 =>
  if x1 < (a0.names.length : Int) then
   if (0 : Int) ≤ x1 ∧ x1 < (a0.names.length : Int) then
    if (0 : Int) ≤ x1 ∧ x1 < (a1.names.length : Int) then
     if (ix a0.names x1) = (ix a1.names x1) then
      m_spec_l1Same_l1 k a0 a1 (IntKind.wrap .i64 (x1 + 1))
     else
      (some false).bind fun z =>
      some (Lp.ret z)
    else none
   else none
  else
   some (Lp.go ())
def m_spec_l1Same : Nat → Val → Val → Option Bool
 | 0, _, _ => none
 | k + 1, a0, a1 =>
  (if a0.kind = a1.kind then
    if a0.num = a1.num then
     if a0.text = a1.text then
      if (a0.list.length : Int) = (a1.list.length : Int) then
       some (Lp.go (!(decide ((a0.names.length : Int) = (a1.names.length : Int)))))
      else
       some (Lp.go true)
     else
      some (Lp.go true)
    else
     some (Lp.go true)
   else
    some (Lp.go true)).bind fun o1 =>
  o1.then fun s1 =>
  if s1 = true then
   some false
  else
   (m_spec_l1Same_l1 k a0 a1 0).bind fun o2 =>
   o2.then fun s2 =>
  (m_spec_l1Same_l2 k a0 a1 0).bind fun o3 =>
  o3.then fun s3 =>
  some true
end
def P_m_spec_l1Same (k : Nat) : Prop := ∀ (a0 : Val) (a1 : Val) (r : Bool), m_spec_l1Same k a0 a1 = some r → Does Try.prog 46 [.agg [.int .i64 a0.kind, .int .i64 a0.num, .str a0.text, .sl true (a0.list.map encVal), .sl false (a0.names.map encS)], .agg [.int .i64 a1.kind, .int .i64 a1.num, .str a1.text, .sl true (a1.list.map encVal), .sl false (a1.names.map encS)]] [] (ret (.bool r))
theorem m_spec_l1Same_step (k : Nat) (ih : ∀ m, m < k → P_m_spec_l1Same m) : P_m_spec_l1Same k := by
 intro a0 a1 r h
 obtain ⟨k, rfl⟩ : ∃ k', k = k' + 1 := by cases k with | zero => (rw [m_spec_l1Same] at h; cases h) | succ k' => exact ⟨k', rfl⟩
 rw [m_spec_l1Same] at h
 refine does_of_good tabOk Try.func46 rfl (by decide +kernel) (Nat.le_of_ble_eq_true rfl) fun c => ?_
 refine Good.le (σ' := ⟨81, [(0, .agg [.int .i64 a0.kind, .int .i64 a0.num, .str a0.text, .sl true (a0.list.map encVal), .sl false (a0.names.map encS)]), (1, .agg [.int .i64 a1.kind, .int .i64 a1.num, .str a1.text, .sl true (a1.list.map encVal), .sl false (a1.names.map encS)])], []⟩) (Le.refl _) ?_
 refine good_seq fun K1 hK1 => ?_
 refine good_region ?_
 refine g_op rfl (o_box (k := 12) tabOk rfl rfl rfl rfl rfl ?_)
 intro b1
 refine g_op rfl (o_box (k := 13) tabOk rfl rfl rfl rfl rfl ?_)
 intro b2
 refine gs 1 ?_
 refine gk hK1 81 [2, 3, 4] [12, 13] ?_
 refine good_seq fun K2 hK2 => ?_
 refine good_seq fun K3 hK3 => ?_
 obtain ⟨o1, ho1, hJ1⟩ := bnd h
 have hw1 : ∀ (s1 : Bool), o1 = Lp.go s1 → ∀ σ', Le σ' ⟨81, [(2, .ptr 12 b1 0), (3, .ptr 13 b2 0), (4, .bool false), (43, .bool s1)], [(12, ((.pointer (some ⟨b1, 0, none⟩)), .optr 30 [.int .i64 a0.kind, .int .i64 a0.num, .str a0.text, .sl true (a0.list.map encVal), .sl false (a0.names.map encS)])), (13, ((.pointer (some ⟨b2, 0, none⟩)), .optr 30 [.int .i64 a1.kind, .int .i64 a1.num, .str a1.text, .sl true (a1.list.map encVal), .sl false (a1.names.map encS)]))]⟩ → K3 σ' := by
  intro s1 e1 σ' hle1
  subst e1
  refine hK3 _ (Good.le hle1 ?_)
  replace h := hJ1
  refine good_cond rfl (fun hc1 => ?_) (fun hc1 => ?_)
  ·replace h := ifT h hc1
   refine good_seq fun K4 hK4 => ?_
   refine rg 1 ?_
   refine gk hK4 81 [2, 3, 4] [12, 13] ?_
   obtain rfl := Option.some.inj h
   exact rt
  ·replace h := bF h hc1
   refine good_skip ?_
   refine hK2 _ (kp 81 [2, 3, 4] [12, 13] ?_)
   refine good_seq fun K5 hK5 => ?_
   refine good_seq fun K6 hK6 => ?_
   refine rg 1 ?_
   refine g_nil (hK6 _ ?_)
   obtain ⟨o2, ho2, hJ2⟩ := bnd h
   have hw2 : ∀ (s2 : Unit), o2 = Lp.go s2 → ∀ σ', Le σ' ⟨81, [(2, .ptr 12 b1 0), (3, .ptr 13 b2 0), (4, .bool false)], [(12, ((.pointer (some ⟨b1, 0, none⟩)), .optr 30 [.int .i64 a0.kind, .int .i64 a0.num, .str a0.text, .sl true (a0.list.map encVal), .sl false (a0.names.map encS)])), (13, ((.pointer (some ⟨b2, 0, none⟩)), .optr 30 [.int .i64 a1.kind, .int .i64 a1.num, .str a1.text, .sl true (a1.list.map encVal), .sl false (a1.names.map encS)]))]⟩ → K5 σ' := by
    intro s2 e2 σ' hle2
    subst e2
    refine hK5 _ (Good.le hle2 ?_)
    replace h := hJ2
    refine good_seq fun K7 hK7 => ?_
    refine good_seq fun K8 hK8 => ?_
    refine rg 1 ?_
    refine g_nil (hK8 _ ?_)
    obtain ⟨o3, ho3, hJ3⟩ := bnd h
    have hw3 : ∀ (s3 : Unit), o3 = Lp.go s3 → ∀ σ', Le σ' ⟨81, [(4, .bool false)], []⟩ → K7 σ' := by
     intro s3 e3 σ' hle3
     subst e3
     refine hK7 _ (Good.le hle3 ?_)
     replace h := hJ3
     refine good_seq fun K9 hK9 => ?_
     refine rg 1 ?_
     refine g_nil (hK9 _ ?_)
     obtain rfl := Option.some.inj h
     exact rt
    replace h := ho3
    refine good_block ?_
    refine good_loopf (fun p : Int => ⟨81, [(2, .ptr 12 b1 0), (3, .ptr 13 b2 0), (4, .bool false), (6, .int .i64 p)], [(12, ((.pointer (some ⟨b1, 0, none⟩)), .optr 30 [.int .i64 a0.kind, .int .i64 a0.num, .str a0.text, .sl true (a0.list.map encVal), .sl false (a0.names.map encS)])), (13, ((.pointer (some ⟨b2, 0, none⟩)), .optr 30 [.int .i64 a1.kind, .int .i64 a1.num, .str a1.text, .sl true (a1.list.map encVal), .sl false (a1.names.map encS)]))]⟩) (fun m p => m < k + 1 ∧ m_spec_l1Same_l2 m a0 a1 p = some o3) k (0) (lw [some 12, some 13]) ⟨by omega, h⟩ ?_
    rintro m1 x2 ⟨hm, h⟩
    replace h : m_spec_l1Same_l2 m1 a0 a1 x2 = some o3 := h
    refine Good.le (σ' := ⟨81, [(2, .ptr 12 b1 0), (3, .ptr 13 b2 0), (4, .bool false), (6, .int .i64 x2)], [(12, ((.pointer (some ⟨b1, 0, none⟩)), .optr 30 [.int .i64 a0.kind, .int .i64 a0.num, .str a0.text, .sl true (a0.list.map encVal), .sl false (a0.names.map encS)])), (13, ((.pointer (some ⟨b2, 0, none⟩)), .optr 30 [.int .i64 a1.kind, .int .i64 a1.num, .str a1.text, .sl true (a1.list.map encVal), .sl false (a1.names.map encS)]))]⟩) (Le.refl _) ?_
    obtain ⟨m1, rfl⟩ : ∃ m', m1 = m' + 1 := by cases m1 with | zero => (rw [m_spec_l1Same_l2] at h; cases h) | succ m' => exact ⟨m', rfl⟩
    rw [m_spec_l1Same_l2] at h
    refine good_seq fun K10 hK10 => ?_
    refine good_seq fun K11 hK11 => ?_
    refine rg 3 ?_
    refine g_op rfl (ValOk.op (v_lenM (l := a0.list) (f := encVal) tabOk rfl rfl telem28 rfl ?_))
    refine gs 1 ?_
    refine gk hK11 81 [2, 3, 4, 6, 66] [12, 13] ?_
    refine good_cond rfl (fun hc2 => ?_) (fun hc2 => ?_)
    ·replace h := ifT h (dT hc2)
     refine good_skip ?_
     refine hK10 _ (kp 81 [2, 3, 4, 6] [12, 13] ?_)
     refine good_seq fun K12 hK12 => ?_
     refine good_block ?_
     refine good_seq fun K13 hK13 => ?_
     refine good_draw (by kernel_rfl) (by kernel_rfl) ?_
     refine q_op rfl (v_fieldP tabOk rfl tfoff30_3 rfl ?_)
     refine q_op rfl (v_loadP tabOk rfl rfl tsize28 tagg28 rfl rfl rfl rfl ?_)
     refine q_op rfl (v_move rfl rfl ?_)
     obtain ⟨hb1, h⟩ := ifS h
     refine q_op rfl (v_idxM tabOk rfl rfl telem28 tsize30 hb1 (encVal_eq _) rfl rfl ?_)
     refine q_op rfl (v_loadE tabOk rfl tsize30 tagg30 rfl rfl rfl ?_)
     refine q_op rfl (v_fieldP tabOk rfl tfoff30_3 rfl ?_)
     refine q_op rfl (v_loadP tabOk rfl rfl tsize28 tagg28 rfl rfl rfl rfl ?_)
     refine q_op rfl (v_move rfl rfl ?_)
     obtain ⟨hb2, h⟩ := ifS h
     refine q_op rfl (v_idxM tabOk rfl rfl telem28 tsize30 hb2 (encVal_eq _) rfl rfl ?_)
     refine q_op rfl (v_loadE tabOk rfl tsize30 tagg30 rfl rfl rfl ?_)
     obtain ⟨y1, hy1, h⟩ := bnd h
     refine q_call [] [] (fun _ _ _ _ _ => wanted_none rfl _) (core_value rfl rfl) ((ih m1 (by omega)) (ix a0.list x2) (ix a1.list x2) _ hy1) trivial (.cons (.refl _) (.cons (.refl _) (.nil))) (.bool _) rfl ?_
     refine q_op rfl (v_not rfl rfl ?_)
     refine q_nil ?_
     refine hK13 _ (kp 81 [2, 3, 4, 6, 80] [12, 13] ?_)
     refine good_cond rfl (fun hc3 => ?_) (fun hc3 => ?_)
     ·replace h := bF h (nT hc3)
      refine good_seq fun K14 hK14 => ?_
      refine rg 1 ?_
      refine gk hK14 81 [2, 3, 4, 6] [12, 13] ?_
      replace h := unret h hJ3
      obtain rfl := Option.some.inj h
      exact rt
     ·replace h := ifT h (nF hc3)
      refine good_skip ?_
      refine hK12 _ (kp 81 [2, 3, 4, 6] [12, 13] ?_)
      refine rg 3 ?_
      refine g_nil ?_
      exact round_mk m1 (IntKind.wrap .i64 (x2 + 1)) (Nat.lt_succ_self _) ⟨by omega, h⟩ (lw [some 12, some 13])
    ·replace h := ifF h (dF hc2)
     refine good_exit ?_
     exact hw3 () (Option.some.inj h).symm _ (lw [])
   replace h := ho2
   refine good_block ?_
   refine good_loopf (fun p : Int => ⟨81, [(2, .ptr 12 b1 0), (3, .ptr 13 b2 0), (4, .bool false), (5, .int .i64 p)], [(12, ((.pointer (some ⟨b1, 0, none⟩)), .optr 30 [.int .i64 a0.kind, .int .i64 a0.num, .str a0.text, .sl true (a0.list.map encVal), .sl false (a0.names.map encS)])), (13, ((.pointer (some ⟨b2, 0, none⟩)), .optr 30 [.int .i64 a1.kind, .int .i64 a1.num, .str a1.text, .sl true (a1.list.map encVal), .sl false (a1.names.map encS)]))]⟩) (fun m p => m < k + 1 ∧ m_spec_l1Same_l1 m a0 a1 p = some o2) k (0) (lw [some 12, some 13]) ⟨by omega, h⟩ ?_
   rintro m2 x1 ⟨hm, h⟩
   replace h : m_spec_l1Same_l1 m2 a0 a1 x1 = some o2 := h
   refine Good.le (σ' := ⟨81, [(2, .ptr 12 b1 0), (3, .ptr 13 b2 0), (4, .bool false), (5, .int .i64 x1)], [(12, ((.pointer (some ⟨b1, 0, none⟩)), .optr 30 [.int .i64 a0.kind, .int .i64 a0.num, .str a0.text, .sl true (a0.list.map encVal), .sl false (a0.names.map encS)])), (13, ((.pointer (some ⟨b2, 0, none⟩)), .optr 30 [.int .i64 a1.kind, .int .i64 a1.num, .str a1.text, .sl true (a1.list.map encVal), .sl false (a1.names.map encS)]))]⟩) (Le.refl _) ?_
   obtain ⟨m2, rfl⟩ : ∃ m', m2 = m' + 1 := by cases m2 with | zero => (rw [m_spec_l1Same_l1] at h; cases h) | succ m' => exact ⟨m', rfl⟩
   rw [m_spec_l1Same_l1] at h
   refine good_seq fun K15 hK15 => ?_
   refine good_seq fun K16 hK16 => ?_
   refine rg 3 ?_
   refine g_op rfl (ValOk.op (v_lenM (l := a0.names) (f := encS) tabOk rfl rfl telem23 rfl ?_))
   refine gs 1 ?_
   refine gk hK16 81 [2, 3, 4, 5, 48] [12, 13] ?_
   refine good_cond rfl (fun hc4 => ?_) (fun hc4 => ?_)
   ·replace h := ifT h (dT hc4)
    refine good_skip ?_
    refine hK15 _ (kp 81 [2, 3, 4, 5] [12, 13] ?_)
    refine good_seq fun K17 hK17 => ?_
    refine good_block ?_
    refine good_seq fun K18 hK18 => ?_
    refine good_draw (by kernel_rfl) (by kernel_rfl) ?_
    refine q_op rfl (v_fieldP tabOk rfl tfoff30_4 rfl ?_)
    refine q_op rfl (v_loadP tabOk rfl rfl tsize23 tagg23 rfl rfl rfl rfl ?_)
    refine q_op rfl (v_move rfl rfl ?_)
    obtain ⟨hb3, h⟩ := ifS h
    refine q_op rfl (v_idxM tabOk rfl rfl telem23 tsize9 hb3 rfl rfl rfl ?_)
    refine q_op rfl (v_loadE tabOk rfl tsize9 tagg9 rfl rfl rfl ?_)
    refine q_op rfl (v_fieldP tabOk rfl tfoff30_4 rfl ?_)
    refine q_op rfl (v_loadP tabOk rfl rfl tsize23 tagg23 rfl rfl rfl rfl ?_)
    refine q_op rfl (v_move rfl rfl ?_)
    obtain ⟨hb4, h⟩ := ifS h
    refine q_op rfl (v_idxM tabOk rfl rfl telem23 tsize9 hb4 rfl rfl rfl ?_)
    refine q_op rfl (v_loadE tabOk rfl tsize9 tagg9 rfl rfl rfl ?_)
    refine q_op rfl (v_bin rfl rfl rfl rfl ?_)
    refine q_nil ?_
    refine hK18 _ (kp 81 [2, 3, 4, 5, 61] [12, 13] ?_)
    refine good_cond rfl (fun hc5 => ?_) (fun hc5 => ?_)
    ·replace h := ifF h (ndT hc5)
     refine good_seq fun K19 hK19 => ?_
     refine rg 1 ?_
     refine gk hK19 81 [2, 3, 4, 5] [12, 13] ?_
     replace h := unret h hJ2
     obtain rfl := Option.some.inj h
     exact rt
    ·replace h := ifT h (ndF hc5)
     refine good_skip ?_
     refine hK17 _ (kp 81 [2, 3, 4, 5] [12, 13] ?_)
     refine rg 3 ?_
     refine g_nil ?_
     exact round_mk m2 (IntKind.wrap .i64 (x1 + 1)) (Nat.lt_succ_self _) ⟨by omega, h⟩ (lw [some 12, some 13])
   ·replace h := ifF h (dF hc4)
    refine good_exit ?_
    exact hw2 () (Option.some.inj h).symm _ (lw [some 12, some 13])
 replace h := ho1
 refine rg 6 ?_
 rcases bsplit ((!(decide (a0.kind = a1.kind)))) with hg1 | hg1
 ·replace h := ifF h (ndT hg1)
  refine gs 31 ?_
  refine g_nil ?_
  exact hw1 true (Option.some.inj h).symm _ (lw [some 12, some 13])
 ·replace h := ifT h (ndF hg1)
  refine gs 7 ?_
  rcases bsplit ((!(decide (a0.num = a1.num)))) with hg2 | hg2
  ·replace h := ifF h (ndT hg2)
   refine gs 24 ?_
   refine g_nil ?_
   exact hw1 true (Option.some.inj h).symm _ (lw [some 12, some 13])
  ·replace h := ifT h (ndF hg2)
   refine gs 7 ?_
   rcases bsplit ((!(decide (a0.text = a1.text)))) with hg3 | hg3
   ·replace h := ifF h (ndT hg3)
    refine gs 17 ?_
    refine g_nil ?_
    exact hw1 true (Option.some.inj h).symm _ (lw [some 12, some 13])
   ·replace h := ifT h (ndF hg3)
    refine gs 2 ?_
    refine g_yes rfl rfl hg3 (ValOk.op (v_lenM (l := a0.list) (f := encVal) tabOk rfl rfl telem28 rfl ?_))
    refine gs 2 ?_
    refine g_yes rfl rfl hg3 (ValOk.op (v_lenM (l := a1.list) (f := encVal) tabOk rfl rfl telem28 rfl ?_))
    refine gs 3 ?_
    rcases bsplit ((!(decide ((a0.list.length : Int) = (a1.list.length : Int))))) with hg4 | hg4
    ·replace h := ifF h (ndT hg4)
     refine gs 8 ?_
     refine g_nil ?_
     exact hw1 true (Option.some.inj h).symm _ (lw [some 12, some 13])
    ·replace h := ifT h (ndF hg4)
     refine gs 2 ?_
     refine g_yes rfl rfl hg4 (ValOk.op (v_lenM (l := a0.names) (f := encS) tabOk rfl rfl telem23 rfl ?_))
     refine gs 2 ?_
     refine g_yes rfl rfl hg4 (ValOk.op (v_lenM (l := a1.names) (f := encS) tabOk rfl rfl telem23 rfl ?_))
     refine gs 2 ?_
     refine g_nil ?_
     exact hw1 (!(decide ((a0.names.length : Int) = (a1.names.length : Int)))) (Option.some.inj h).symm _ (lw [some 12, some 13])
theorem m_spec_l1Same_all (k : Nat) : P_m_spec_l1Same k := by
 induction k using Nat.strongRecOn with
 | _ k ih => exact m_spec_l1Same_step k ih
theorem m_spec_l1Same_ok (k : Nat) : ∀ (a0 : Val) (a1 : Val) (r : Bool), m_spec_l1Same k a0 a1 = some r → Does Try.prog 46 [.agg [.int .i64 a0.kind, .int .i64 a0.num, .str a0.text, .sl true (a0.list.map encVal), .sl false (a0.names.map encS)], .agg [.int .i64 a1.kind, .int .i64 a1.num, .str a1.text, .sl true (a1.list.map encVal), .sl false (a1.names.map encS)]] [] (ret (.bool r)) := (m_spec_l1Same_all k)
def m_spec_ValueSame (k : Nat) (a0 : Val) (a1 : Val) : Option Bool :=
 (m_spec_l1Same k a0 a1).bind fun y1 =>
 some y1
theorem m_spec_ValueSame_ok (k : Nat) : ∀ (a0 : Val) (a1 : Val) (r : Bool), m_spec_ValueSame k a0 a1 = some r → Does Try.prog 16 [.agg [.int .i64 a0.kind, .int .i64 a0.num, .str a0.text, .sl true (a0.list.map encVal), .sl false (a0.names.map encS)], .agg [.int .i64 a1.kind, .int .i64 a1.num, .str a1.text, .sl true (a1.list.map encVal), .sl false (a1.names.map encS)]] [] (ret (.bool r)) := by
 intro a0 a1 r h
 rw [m_spec_ValueSame] at h
 refine does_of_good tabOk Try.func16 rfl (by decide +kernel) (Nat.le_of_ble_eq_true rfl) fun c => ?_
 refine Good.le (σ' := ⟨8, [(0, .agg [.int .i64 a0.kind, .int .i64 a0.num, .str a0.text, .sl true (a0.list.map encVal), .sl false (a0.names.map encS)]), (1, .agg [.int .i64 a1.kind, .int .i64 a1.num, .str a1.text, .sl true (a1.list.map encVal), .sl false (a1.names.map encS)])], []⟩) (Le.refl _) ?_
 refine good_seq fun K1 hK1 => ?_
 refine good_region ?_
 refine g_op rfl (o_box (k := 12) tabOk rfl rfl rfl rfl rfl ?_)
 intro b1
 refine g_op rfl (o_box (k := 13) tabOk rfl rfl rfl rfl rfl ?_)
 intro b2
 refine gs 1 ?_
 refine gk hK1 8 [2, 3, 4] [12, 13] ?_
 refine good_seq fun K2 hK2 => ?_
 refine rg 2 ?_
 obtain ⟨y1, hy1, h⟩ := bnd h
 refine g_op rfl (o_callR [] [] (core_value rfl rfl) (m_spec_l1Same_ok k a0 a1 _ hy1) trivial (.cons (.refl _) (.cons (.refl _) (.nil))) (.inl rfl) rfl ?_)
 refine gs 1 ?_
 refine gk hK2 8 [4] [] ?_
 obtain rfl := Option.some.inj h
 exact rt
mutual
def m_spec_ValueDeep_l1 : Nat → Val → Int → Int → Option (Lp Int Int)
 | 0, _, _, _ => none
 | k + 1, a0, x1, x2 =>
  if x2 < (a0.list.length : Int) then
   if (0 : Int) ≤ x2 ∧ x2 < (a0.list.length : Int) then
    (m_spec_ValueDeep k (ix a0.list x2)).bind fun y1 =>
    if x1 < y1 then
     m_spec_ValueDeep_l1 k a0 y1 (IntKind.wrap .i64 (x2 + 1))
    else
     m_spec_ValueDeep_l1 k a0 x1 (IntKind.wrap .i64 (x2 + 1))
   else none
  else
   some (Lp.go x1)
def m_spec_ValueDeep : Nat → Val → Option Int
 | 0, _ => none
 | k + 1, a0 =>
  (m_spec_ValueDeep_l1 k a0 0 0).bind fun o1 =>
  o1.then fun s1 =>
  some (IntKind.wrap .i64 (s1 + 1))
end
def P_m_spec_ValueDeep (k : Nat) : Prop := ∀ (a0 : Val) (r : Int), m_spec_ValueDeep k a0 = some r → Does Try.prog 20 [.agg [.int .i64 a0.kind, .int .i64 a0.num, .str a0.text, .sl true (a0.list.map encVal), .sl false (a0.names.map encS)]] [] (ret (.int .i64 r))
theorem m_spec_ValueDeep_step (k : Nat) (ih : ∀ m, m < k → P_m_spec_ValueDeep m) : P_m_spec_ValueDeep k := by
 intro a0 r h
 obtain ⟨k, rfl⟩ : ∃ k', k = k' + 1 := by cases k with | zero => (rw [m_spec_ValueDeep] at h; cases h) | succ k' => exact ⟨k', rfl⟩
 rw [m_spec_ValueDeep] at h
 refine does_of_good tabOk Try.func20 rfl (by decide +kernel) (Nat.le_of_ble_eq_true rfl) fun c => ?_
 refine Good.le (σ' := ⟨25, [(0, .agg [.int .i64 a0.kind, .int .i64 a0.num, .str a0.text, .sl true (a0.list.map encVal), .sl false (a0.names.map encS)])], []⟩) (Le.refl _) ?_
 refine good_seq fun K1 hK1 => ?_
 refine good_region ?_
 refine g_op rfl (o_box (k := 11) tabOk rfl rfl rfl rfl rfl ?_)
 intro b1
 refine gs 1 ?_
 refine gk hK1 25 [1, 2] [11] ?_
 refine good_seq fun K2 hK2 => ?_
 refine rg 1 ?_
 refine g_nil (hK2 _ ?_)
 refine good_seq fun K3 hK3 => ?_
 refine good_seq fun K4 hK4 => ?_
 refine rg 1 ?_
 refine g_nil (hK4 _ ?_)
 obtain ⟨o1, ho1, hJ1⟩ := bnd h
 have hw1 : ∀ (s1 : Int), o1 = Lp.go s1 → ∀ σ', Le σ' ⟨25, [(2, .int .i64 0), (3, .int .i64 s1)], []⟩ → K3 σ' := by
  intro s1 e1 σ' hle1
  subst e1
  refine hK3 _ (Good.le hle1 ?_)
  replace h := hJ1
  refine good_seq fun K5 hK5 => ?_
  refine rg 3 ?_
  refine gk hK5 25 [2] [] ?_
  obtain rfl := Option.some.inj h
  exact rt
 replace h := ho1
 refine good_block ?_
 refine good_loopf (fun p : (Int × Int) => ⟨25, [(1, .ptr 11 b1 0), (2, .int .i64 0), (3, .int .i64 p.1), (4, .int .i64 p.2)], [(11, ((.pointer (some ⟨b1, 0, none⟩)), .optr 30 [.int .i64 a0.kind, .int .i64 a0.num, .str a0.text, .sl true (a0.list.map encVal), .sl false (a0.names.map encS)]))]⟩) (fun m p => m < k + 1 ∧ m_spec_ValueDeep_l1 m a0 p.1 p.2 = some o1) k (0, 0) (lw [some 11]) ⟨by omega, h⟩ ?_
 rintro m1 ⟨x1, x2⟩ ⟨hm, h⟩
 replace h : m_spec_ValueDeep_l1 m1 a0 x1 x2 = some o1 := h
 refine Good.le (σ' := ⟨25, [(1, .ptr 11 b1 0), (2, .int .i64 0), (3, .int .i64 x1), (4, .int .i64 x2)], [(11, ((.pointer (some ⟨b1, 0, none⟩)), .optr 30 [.int .i64 a0.kind, .int .i64 a0.num, .str a0.text, .sl true (a0.list.map encVal), .sl false (a0.names.map encS)]))]⟩) (Le.refl _) ?_
 obtain ⟨m1, rfl⟩ : ∃ m', m1 = m' + 1 := by cases m1 with | zero => (rw [m_spec_ValueDeep_l1] at h; cases h) | succ m' => exact ⟨m', rfl⟩
 rw [m_spec_ValueDeep_l1] at h
 refine good_seq fun K6 hK6 => ?_
 refine good_seq fun K7 hK7 => ?_
 refine rg 3 ?_
 refine g_op rfl (ValOk.op (v_lenM (l := a0.list) (f := encVal) tabOk rfl rfl telem28 rfl ?_))
 refine gs 1 ?_
 refine gk hK7 25 [1, 2, 3, 4, 10] [11] ?_
 refine good_cond rfl (fun hc1 => ?_) (fun hc1 => ?_)
 ·replace h := ifT h (dT hc1)
  refine good_skip ?_
  refine hK6 _ (kp 25 [1, 2, 3, 4] [11] ?_)
  refine good_seq fun K8 hK8 => ?_
  refine good_block ?_
  refine good_seq fun K9 hK9 => ?_
  refine rg 3 ?_
  obtain ⟨hb1, h⟩ := ifS h
  refine g_op rfl (ValOk.op (v_idxM tabOk rfl rfl telem28 tsize30 hb1 (encVal_eq _) rfl rfl ?_))
  refine gs 1 ?_
  obtain ⟨y1, hy1, h⟩ := bnd h
  refine g_op rfl (o_callR [] [] (core_value rfl rfl) ((ih m1 (by omega)) (ix a0.list x2) _ hy1) trivial (.cons (.refl _) (.nil)) (.inl rfl) rfl ?_)
  refine gs 1 ?_
  refine gk hK9 25 [1, 2, 3, 4, 5] [11] ?_
  refine good_seq fun K10 hK10 => ?_
  refine rg 3 ?_
  refine gk hK10 25 [1, 2, 3, 4, 5, 21] [11] ?_
  refine good_cond rfl (fun hc2 => ?_) (fun hc2 => ?_)
  ·replace h := ifT h (dT hc2)
   refine rg 2 ?_
   refine gk hK8 25 [1, 2, 3, 4] [11] ?_
   refine rg 3 ?_
   refine g_nil ?_
   exact round_mk m1 (y1, IntKind.wrap .i64 (x2 + 1)) (Nat.lt_succ_self _) ⟨by omega, h⟩ (lw [some 11])
  ·replace h := ifF h (dF hc2)
   refine good_skip ?_
   refine hK8 _ (kp 25 [1, 2, 3, 4] [11] ?_)
   refine rg 3 ?_
   refine g_nil ?_
   exact round_mk m1 (x1, IntKind.wrap .i64 (x2 + 1)) (Nat.lt_succ_self _) ⟨by omega, h⟩ (lw [some 11])
 ·replace h := ifF h (dF hc1)
  refine good_exit ?_
  exact hw1 x1 (Option.some.inj h).symm _ (lw [])
theorem m_spec_ValueDeep_all (k : Nat) : P_m_spec_ValueDeep k := by
 induction k using Nat.strongRecOn with
 | _ k ih => exact m_spec_ValueDeep_step k ih
theorem m_spec_ValueDeep_ok (k : Nat) : ∀ (a0 : Val) (r : Int), m_spec_ValueDeep k a0 = some r → Does Try.prog 20 [.agg [.int .i64 a0.kind, .int .i64 a0.num, .str a0.text, .sl true (a0.list.map encVal), .sl false (a0.names.map encS)]] [] (ret (.int .i64 r)) := (m_spec_ValueDeep_all k)
end Go.Proofs.Ytiaigcdckmpepaa
end
end
section
/-! Functions of the program. -/
set_option linter.unusedVariables false
set_option linter.unnecessarySimpa false
set_option maxRecDepth 100000
set_option maxHeartbeats 20000000
noncomputable section
namespace Go.Proofs.Ytiaigcdckmpepaa
open Go.Bb
def m_laws_szStringS_l1 : Nat → (List Bs) → Int → Int → Option (Lp Int Int)
 | 0, _, _, _ => none
 | k + 1, a0, x1, x2 =>
  if x2 < (a0.length : Int) then
   if (0 : Int) ≤ x2 ∧ x2 < (a0.length : Int) then
    if (IntKind.wrap .i64 (x1 - ((ix a0 x2).length : Int))) < 0 then
     (some (-1)).bind fun z =>
     some (Lp.ret z)
    else
     m_laws_szStringS_l1 k a0 (IntKind.wrap .i64 (x1 - ((ix a0 x2).length : Int))) (IntKind.wrap .i64 (x2 + 1))
   else none
  else
   some (Lp.go x1)
def m_laws_szStringS (k : Nat) (a0 : (List Bs)) (a1 : Int) : Option Int :=
 if (IntKind.wrap .i64 (a1 - (a0.length : Int))) < 0 then
  some (-1)
 else
  (m_laws_szStringS_l1 k a0 (IntKind.wrap .i64 (a1 - (a0.length : Int))) 0).bind fun o1 =>
  o1.then fun s1 =>
  some s1
theorem m_laws_szStringS_ok (k : Nat) : ∀ (a0 : (List Bs)) (a1 : Int) (r : Int), m_laws_szStringS k a0 a1 = some r → Does Try.prog 45 [.sl false (a0.map encS), .int .i64 a1] [] (ret (.int .i64 r)) := by
 intro a0 a1 r h
 rw [m_laws_szStringS] at h
 refine does_of_good tabOk Try.func45 rfl (by decide +kernel) (Nat.le_of_ble_eq_true rfl) fun c => ?_
 refine Good.le (σ' := ⟨28, [(0, .sl false (a0.map encS)), (1, .int .i64 a1)], []⟩) (Le.refl _) ?_
 refine good_seq fun K1 hK1 => ?_
 refine rg 1 ?_
 refine g_nil (hK1 _ ?_)
 refine good_seq fun K2 hK2 => ?_
 refine rg 2 ?_
 refine g_op rfl (ValOk.op (v_lenM (l := a0) (f := encS) tabOk rfl rfl telem23 rfl ?_))
 refine gs 2 ?_
 refine gk hK2 28 [0, 1, 4] [] ?_
 refine good_seq fun K3 hK3 => ?_
 refine good_seq fun K4 hK4 => ?_
 refine rg 2 ?_
 refine gk hK4 28 [0, 1, 4, 11] [] ?_
 refine good_cond rfl (fun hc1 => ?_) (fun hc1 => ?_)
 ·replace h := ifT h (dT hc1)
  refine good_seq fun K5 hK5 => ?_
  refine rg 1 ?_
  refine gk hK5 28 [0, 1, 4] [] ?_
  obtain rfl := Option.some.inj h
  exact rt
 ·replace h := ifF h (dF hc1)
  refine good_skip ?_
  refine hK3 _ (kp 28 [0, 1, 4] [] ?_)
  refine good_seq fun K6 hK6 => ?_
  refine good_seq fun K7 hK7 => ?_
  refine rg 1 ?_
  refine g_nil (hK7 _ ?_)
  obtain ⟨o1, ho1, hJ1⟩ := bnd h
  have hw1 : ∀ (s1 : Int), o1 = Lp.go s1 → ∀ σ', Le σ' ⟨28, [(1, .int .i64 s1), (4, .int .i64 0)], []⟩ → K6 σ' := by
   intro s1 e1 σ' hle1
   subst e1
   refine hK6 _ (Good.le hle1 ?_)
   replace h := hJ1
   refine good_seq fun K8 hK8 => ?_
   refine rg 2 ?_
   refine gk hK8 28 [4] [] ?_
   obtain rfl := Option.some.inj h
   exact rt
  replace h := ho1
  refine good_block ?_
  refine good_loopf (fun p : (Int × Int) => ⟨28, [(0, .sl false (a0.map encS)), (1, .int .i64 p.1), (4, .int .i64 0), (5, .int .i64 p.2)], []⟩) (fun m p => m_laws_szStringS_l1 m a0 p.1 p.2 = some o1) k (IntKind.wrap .i64 (a1 - (a0.length : Int)), 0) (lw []) h ?_
  rintro m1 ⟨x1, x2⟩ h
  replace h : m_laws_szStringS_l1 m1 a0 x1 x2 = some o1 := h
  refine Good.le (σ' := ⟨28, [(0, .sl false (a0.map encS)), (1, .int .i64 x1), (4, .int .i64 0), (5, .int .i64 x2)], []⟩) (Le.refl _) ?_
  obtain ⟨m1, rfl⟩ : ∃ m', m1 = m' + 1 := by cases m1 with | zero => (rw [m_laws_szStringS_l1] at h; cases h) | succ m' => exact ⟨m', rfl⟩
  rw [m_laws_szStringS_l1] at h
  refine good_seq fun K9 hK9 => ?_
  refine good_seq fun K10 hK10 => ?_
  refine rg 2 ?_
  refine g_op rfl (ValOk.op (v_lenM (l := a0) (f := encS) tabOk rfl rfl telem23 rfl ?_))
  refine gs 1 ?_
  refine gk hK10 28 [0, 1, 4, 5, 15] [] ?_
  refine good_cond rfl (fun hc2 => ?_) (fun hc2 => ?_)
  ·replace h := ifT h (dT hc2)
   refine good_skip ?_
   refine hK9 _ (kp 28 [0, 1, 4, 5] [] ?_)
   refine good_seq fun K11 hK11 => ?_
   refine good_block ?_
   refine good_seq fun K12 hK12 => ?_
   refine rg 3 ?_
   obtain ⟨hb1, h⟩ := ifS h
   refine g_op rfl (ValOk.op (v_idxM tabOk rfl rfl telem23 tsize9 hb1 rfl rfl rfl ?_))
   refine gs 4 ?_
   refine gk hK12 28 [0, 1, 4, 5] [] ?_
   refine good_seq fun K13 hK13 => ?_
   refine rg 2 ?_
   refine gk hK13 28 [0, 1, 4, 5, 26] [] ?_
   refine good_cond rfl (fun hc3 => ?_) (fun hc3 => ?_)
   ·replace h := ifT h (dT hc3)
    refine good_seq fun K14 hK14 => ?_
    refine rg 1 ?_
    refine gk hK14 28 [0, 1, 4, 5] [] ?_
    replace h := unret h hJ1
    obtain rfl := Option.some.inj h
    exact rt
   ·replace h := ifF h (dF hc3)
    refine good_skip ?_
    refine hK11 _ (kp 28 [0, 1, 4, 5] [] ?_)
    refine rg 3 ?_
    refine g_nil ?_
    exact round_mk m1 (IntKind.wrap .i64 (x1 - ((ix a0 x2).length : Int)), IntKind.wrap .i64 (x2 + 1)) (Nat.lt_succ_self _) h (lw [])
  ·replace h := ifF h (dF hc2)
   refine good_exit ?_
   exact hw1 x1 (Option.some.inj h).symm _ (lw [])
mutual
def m_laws_szValue : Nat → Val → Int → Option Int
 | 0, _, _ => none
 | k + 1, a0, a1 =>
  if (IntKind.wrap .i64 (a1 - (a0.text.length : Int))) < 0 then
   some (-1)
  else
   (m_laws_szValueS k a0.list (IntKind.wrap .i64 (a1 - (a0.text.length : Int)))).bind fun y1 =>
   if y1 < 0 then
    some (-1)
   else
    (m_laws_szStringS k a0.names y1).bind fun y2 =>
    if y2 < 0 then
     some (-1)
    else
     some y2
def m_laws_szValueS_l1 : Nat → (List Val) → Int → Int → Option (Lp Int Int)
 | 0, _, _, _ => none
 | k + 1, a0, x1, x2 =>
  if x2 < (a0.length : Int) then
   if (0 : Int) ≤ x2 ∧ x2 < (a0.length : Int) then
    (m_laws_szValue k (ix a0 x2) x1).bind fun y1 =>
    if y1 < 0 then
     (some (-1)).bind fun z =>
     some (Lp.ret z)
    else
     m_laws_szValueS_l1 k a0 y1 (IntKind.wrap .i64 (x2 + 1))
   else none
  else
   some (Lp.go x1)
def m_laws_szValueS : Nat → (List Val) → Int → Option Int
 | 0, _, _ => none
 | k + 1, a0, a1 =>
  if (IntKind.wrap .i64 (a1 - (a0.length : Int))) < 0 then
   some (-1)
  else
   (m_laws_szValueS_l1 k a0 (IntKind.wrap .i64 (a1 - (a0.length : Int))) 0).bind fun o1 =>
   o1.then fun s1 =>
  some s1
end
def P_m_laws_szValue (k : Nat) : Prop := ∀ (a0 : Val) (a1 : Int) (r : Int), m_laws_szValue k a0 a1 = some r → Does Try.prog 15 [.agg [.int .i64 a0.kind, .int .i64 a0.num, .str a0.text, .sl false (a0.list.map encLVal), .sl false (a0.names.map encS)], .int .i64 a1] [] (ret (.int .i64 r))
def P_m_laws_szValueS (k : Nat) : Prop := ∀ (a0 : (List Val)) (a1 : Int) (r : Int), m_laws_szValueS k a0 a1 = some r → Does Try.prog 44 [.sl false (a0.map encLVal), .int .i64 a1] [] (ret (.int .i64 r))
theorem m_laws_szValue_step (k : Nat) (ih : ∀ m, m < k → P_m_laws_szValue m ∧ P_m_laws_szValueS m) : P_m_laws_szValue k := by
 intro a0 a1 r h
 obtain ⟨k, rfl⟩ : ∃ k', k = k' + 1 := by cases k with | zero => (rw [m_laws_szValue] at h; cases h) | succ k' => exact ⟨k', rfl⟩
 rw [m_laws_szValue] at h
 refine does_of_good tabOk Try.func15 rfl (by decide +kernel) (Nat.le_of_ble_eq_true rfl) fun c => ?_
 refine Good.le (σ' := ⟨25, [(0, .agg [.int .i64 a0.kind, .int .i64 a0.num, .str a0.text, .sl false (a0.list.map encLVal), .sl false (a0.names.map encS)]), (1, .int .i64 a1)], []⟩) (Le.refl _) ?_
 refine good_seq fun K1 hK1 => ?_
 refine good_region ?_
 refine g_op rfl (o_box (k := 12) tabOk rfl rfl rfl rfl rfl ?_)
 intro b1
 refine gs 1 ?_
 refine gk hK1 25 [1, 2, 4] [12] ?_
 refine good_seq fun K2 hK2 => ?_
 refine rg 6 ?_
 refine gk hK2 25 [1, 2, 4] [12] ?_
 refine good_seq fun K3 hK3 => ?_
 refine good_seq fun K4 hK4 => ?_
 refine rg 2 ?_
 refine gk hK4 25 [1, 2, 4, 11] [12] ?_
 refine good_cond rfl (fun hc1 => ?_) (fun hc1 => ?_)
 ·replace h := ifT h (dT hc1)
  refine good_seq fun K5 hK5 => ?_
  refine rg 1 ?_
  refine gk hK5 25 [1, 2, 4] [12] ?_
  obtain rfl := Option.some.inj h
  exact rt
 ·replace h := ifF h (dF hc1)
  refine good_skip ?_
  refine hK3 _ (kp 25 [1, 2, 4] [12] ?_)
  refine good_seq fun K6 hK6 => ?_
  refine rg 3 ?_
  obtain ⟨y1, hy1, h⟩ := bnd h
  refine g_op rfl (o_callR [] [] (core_value rfl rfl) ((ih k (by omega)).2 a0.list (IntKind.wrap .i64 (a1 - (a0.text.length : Int))) _ hy1) trivial (.cons (.refl _) (.cons (.refl _) (.nil))) (.inl rfl) rfl ?_)
  refine gs 1 ?_
  refine gk hK6 25 [1, 2, 4] [12] ?_
  refine good_seq fun K7 hK7 => ?_
  refine good_seq fun K8 hK8 => ?_
  refine rg 2 ?_
  refine gk hK8 25 [1, 2, 4, 17] [12] ?_
  refine good_cond rfl (fun hc2 => ?_) (fun hc2 => ?_)
  ·replace h := ifT h (dT hc2)
   refine good_seq fun K9 hK9 => ?_
   refine rg 1 ?_
   refine gk hK9 25 [1, 2, 4] [12] ?_
   obtain rfl := Option.some.inj h
   exact rt
  ·replace h := ifF h (dF hc2)
   refine good_skip ?_
   refine hK7 _ (kp 25 [1, 2, 4] [12] ?_)
   refine good_seq fun K10 hK10 => ?_
   refine rg 3 ?_
   obtain ⟨y2, hy2, h⟩ := bnd h
   refine g_op rfl (o_callR [] [] (core_value rfl rfl) (m_laws_szStringS_ok k a0.names y1 _ hy2) trivial (.cons (.refl _) (.cons (.refl _) (.nil))) (.inl rfl) rfl ?_)
   refine gs 1 ?_
   refine gk hK10 25 [1, 4] [] ?_
   refine good_seq fun K11 hK11 => ?_
   refine good_seq fun K12 hK12 => ?_
   refine rg 2 ?_
   refine gk hK12 25 [1, 4, 23] [] ?_
   refine good_cond rfl (fun hc3 => ?_) (fun hc3 => ?_)
   ·replace h := ifT h (dT hc3)
    refine good_seq fun K13 hK13 => ?_
    refine rg 1 ?_
    refine gk hK13 25 [1, 4] [] ?_
    obtain rfl := Option.some.inj h
    exact rt
   ·replace h := ifF h (dF hc3)
    refine good_skip ?_
    refine hK11 _ (kp 25 [1, 4] [] ?_)
    refine good_seq fun K14 hK14 => ?_
    refine rg 2 ?_
    refine gk hK14 25 [4] [] ?_
    obtain rfl := Option.some.inj h
    exact rt
theorem m_laws_szValueS_step (k : Nat) (ih : ∀ m, m < k → P_m_laws_szValue m ∧ P_m_laws_szValueS m) : P_m_laws_szValueS k := by
 intro a0 a1 r h
 obtain ⟨k, rfl⟩ : ∃ k', k = k' + 1 := by cases k with | zero => (rw [m_laws_szValueS] at h; cases h) | succ k' => exact ⟨k', rfl⟩
 rw [m_laws_szValueS] at h
 refine does_of_good tabOk Try.func44 rfl (by decide +kernel) (Nat.le_of_ble_eq_true rfl) fun c => ?_
 refine Good.le (σ' := ⟨27, [(0, .sl false (a0.map encLVal)), (1, .int .i64 a1)], []⟩) (Le.refl _) ?_
 refine good_seq fun K1 hK1 => ?_
 refine rg 1 ?_
 refine g_nil (hK1 _ ?_)
 refine good_seq fun K2 hK2 => ?_
 refine rg 2 ?_
 refine g_op rfl (ValOk.op (v_lenM (l := a0) (f := encLVal) tabOk rfl rfl telem22 rfl ?_))
 refine gs 2 ?_
 refine gk hK2 27 [0, 1, 4] [] ?_
 refine good_seq fun K3 hK3 => ?_
 refine good_seq fun K4 hK4 => ?_
 refine rg 2 ?_
 refine gk hK4 27 [0, 1, 4, 11] [] ?_
 refine good_cond rfl (fun hc1 => ?_) (fun hc1 => ?_)
 ·replace h := ifT h (dT hc1)
  refine good_seq fun K5 hK5 => ?_
  refine rg 1 ?_
  refine gk hK5 27 [0, 1, 4] [] ?_
  obtain rfl := Option.some.inj h
  exact rt
 ·replace h := ifF h (dF hc1)
  refine good_skip ?_
  refine hK3 _ (kp 27 [0, 1, 4] [] ?_)
  refine good_seq fun K6 hK6 => ?_
  refine good_seq fun K7 hK7 => ?_
  refine rg 1 ?_
  refine g_nil (hK7 _ ?_)
  obtain ⟨o1, ho1, hJ1⟩ := bnd h
  have hw1 : ∀ (s1 : Int), o1 = Lp.go s1 → ∀ σ', Le σ' ⟨27, [(1, .int .i64 s1), (4, .int .i64 0)], []⟩ → K6 σ' := by
   intro s1 e1 σ' hle1
   subst e1
   refine hK6 _ (Good.le hle1 ?_)
   replace h := hJ1
   refine good_seq fun K8 hK8 => ?_
   refine rg 2 ?_
   refine gk hK8 27 [4] [] ?_
   obtain rfl := Option.some.inj h
   exact rt
  replace h := ho1
  refine good_block ?_
  refine good_loopf (fun p : (Int × Int) => ⟨27, [(0, .sl false (a0.map encLVal)), (1, .int .i64 p.1), (4, .int .i64 0), (5, .int .i64 p.2)], []⟩) (fun m p => m < k + 1 ∧ m_laws_szValueS_l1 m a0 p.1 p.2 = some o1) k (IntKind.wrap .i64 (a1 - (a0.length : Int)), 0) (lw []) ⟨by omega, h⟩ ?_
  rintro m1 ⟨x1, x2⟩ ⟨hm, h⟩
  replace h : m_laws_szValueS_l1 m1 a0 x1 x2 = some o1 := h
  refine Good.le (σ' := ⟨27, [(0, .sl false (a0.map encLVal)), (1, .int .i64 x1), (4, .int .i64 0), (5, .int .i64 x2)], []⟩) (Le.refl _) ?_
  obtain ⟨m1, rfl⟩ : ∃ m', m1 = m' + 1 := by cases m1 with | zero => (rw [m_laws_szValueS_l1] at h; cases h) | succ m' => exact ⟨m', rfl⟩
  rw [m_laws_szValueS_l1] at h
  refine good_seq fun K9 hK9 => ?_
  refine good_seq fun K10 hK10 => ?_
  refine rg 2 ?_
  refine g_op rfl (ValOk.op (v_lenM (l := a0) (f := encLVal) tabOk rfl rfl telem22 rfl ?_))
  refine gs 1 ?_
  refine gk hK10 27 [0, 1, 4, 5, 15] [] ?_
  refine good_cond rfl (fun hc2 => ?_) (fun hc2 => ?_)
  ·replace h := ifT h (dT hc2)
   refine good_skip ?_
   refine hK9 _ (kp 27 [0, 1, 4, 5] [] ?_)
   refine good_seq fun K11 hK11 => ?_
   refine good_block ?_
   refine good_seq fun K12 hK12 => ?_
   refine rg 2 ?_
   obtain ⟨hb1, h⟩ := ifS h
   refine g_op rfl (ValOk.op (v_idxM tabOk rfl rfl telem22 tsize25 hb1 (encLVal_eq _) rfl rfl ?_))
   refine gs 2 ?_
   obtain ⟨y1, hy1, h⟩ := bnd h
   refine g_op rfl (o_callR [] [] (core_value rfl rfl) ((ih m1 (by omega)).1 (ix a0 x2) x1 _ hy1) trivial (.cons (.refl _) (.cons (.refl _) (.nil))) (.inl rfl) rfl ?_)
   refine gs 1 ?_
   refine gk hK12 27 [0, 1, 4, 5] [] ?_
   refine good_seq fun K13 hK13 => ?_
   refine rg 2 ?_
   refine gk hK13 27 [0, 1, 4, 5, 25] [] ?_
   refine good_cond rfl (fun hc3 => ?_) (fun hc3 => ?_)
   ·replace h := ifT h (dT hc3)
    refine good_seq fun K14 hK14 => ?_
    refine rg 1 ?_
    refine gk hK14 27 [0, 1, 4, 5] [] ?_
    replace h := unret h hJ1
    obtain rfl := Option.some.inj h
    exact rt
   ·replace h := ifF h (dF hc3)
    refine good_skip ?_
    refine hK11 _ (kp 27 [0, 1, 4, 5] [] ?_)
    refine rg 3 ?_
    refine g_nil ?_
    exact round_mk m1 (y1, IntKind.wrap .i64 (x2 + 1)) (Nat.lt_succ_self _) ⟨by omega, h⟩ (lw [])
  ·replace h := ifF h (dF hc2)
   refine good_exit ?_
   exact hw1 x1 (Option.some.inj h).symm _ (lw [])
theorem m_laws_szValue_all (k : Nat) : P_m_laws_szValue k ∧ P_m_laws_szValueS k := by
 induction k using Nat.strongRecOn with
 | _ k ih => exact ⟨m_laws_szValue_step k ih, m_laws_szValueS_step k ih⟩
theorem m_laws_szValue_ok (k : Nat) : ∀ (a0 : Val) (a1 : Int) (r : Int), m_laws_szValue k a0 a1 = some r → Does Try.prog 15 [.agg [.int .i64 a0.kind, .int .i64 a0.num, .str a0.text, .sl false (a0.list.map encLVal), .sl false (a0.names.map encS)], .int .i64 a1] [] (ret (.int .i64 r)) := (m_laws_szValue_all k).1
theorem m_laws_szValueS_ok (k : Nat) : ∀ (a0 : (List Val)) (a1 : Int) (r : Int), m_laws_szValueS k a0 a1 = some r → Does Try.prog 44 [.sl false (a0.map encLVal), .int .i64 a1] [] (ret (.int .i64 r)) := (m_laws_szValue_all k).2
def m_laws_toStringS_l1 : Nat → (List Bs) → (List Bs) → Int → Option (Lp (List Bs) (List Bs))
 | 0, _, _, _ => none
 | k + 1, a0, x1, x2 =>
  if x2 < (a0.length : Int) then
   if (0 : Int) ≤ x2 ∧ x2 < (a0.length : Int) then
    if (0 : Int) ≤ x2 ∧ x2 < (x1.length : Int) then
     m_laws_toStringS_l1 k a0 (x1.set (Int.toNat x2) (ix a0 x2)) (IntKind.wrap .i64 (x2 + 1))
    else none
   else none
  else
   some (Lp.go x1)
def m_laws_toStringS (k : Nat) (a0 : (List Bs)) : Option (List Bs) :=
 if (0 : Int) ≤ (a0.length : Int) ∧ 16 * (a0.length : Int) ≤ (281474976710656 : Int) then
  if (a0.length : Int) ≤ (9223372036854775807 : Int) then
   (m_laws_toStringS_l1 k a0 (List.replicate (Int.toNat (a0.length : Int)) ([] : Bs)) 0).bind fun o1 =>
   o1.then fun s1 =>
  some s1
  else none
 else none
theorem m_laws_toStringS_ok (k : Nat) : ∀ (a0 : (List Bs)) (r : (List Bs)), m_laws_toStringS k a0 = some r → Does Try.prog 48 [.sl false (a0.map encS)] [] (fun q h' => ∃ u0 : Value, q = .hd 100 u0 ∧ h' = [(100, (u0, .osl 9 1 (r.map encS)))]) := by
 intro a0 r h
 rw [m_laws_toStringS] at h
 refine does_of_good tabOk Try.func48 rfl (by decide +kernel) (Nat.le_of_ble_eq_true rfl) fun c => ?_
 refine Good.le (σ' := ⟨22, [(0, .sl false (a0.map encS))], []⟩) (Le.refl _) ?_
 refine good_seq fun K1 hK1 => ?_
 refine rg 1 ?_
 refine g_nil (hK1 _ ?_)
 refine good_seq fun K2 hK2 => ?_
 refine rg 1 ?_
 refine g_op rfl (ValOk.op (v_lenM (l := a0) (f := encS) tabOk rfl rfl telem23 rfl ?_))
 obtain ⟨hb1, h⟩ := ifS h
 obtain ⟨hb2, h⟩ := ifS h
 refine g_op rfl (o_makeM (k := 17) (zz := (([] : Bs))) (f := encS) tabOk telem23 tsize9 tbytes9 tzero9 rfl rfl rfl (by decide) (WkL.refl _) rfl rfl hb1 hb2 ?_)
 intro w1
 refine gs 1 ?_
 refine gk hK2 22 [0, 2, 3] [17] ?_
 refine good_seq fun K3 hK3 => ?_
 refine good_seq fun K4 hK4 => ?_
 refine rg 1 ?_
 refine g_nil (hK4 _ ?_)
 obtain ⟨o1, ho1, hJ1⟩ := bnd h
 have hw1 : ∀ (s1 : (List Bs)), o1 = Lp.go s1 → ∀ σ', Le σ' ⟨22, [(2, .nil), (3, .hd 17 w1)], [(17, (w1, .osl 9 1 (s1.map encS)))]⟩ → K3 σ' := by
  intro s1 e1 σ' hle1
  subst e1
  refine hK3 _ (Good.le hle1 ?_)
  replace h := hJ1
  refine good_seq fun K5 hK5 => ?_
  refine rg 2 ?_
  refine gk hK5 22 [2] [17] ?_
  refine Good.le (σ' := ⟨22, [(2, .hd 100 w1)], [(100, (w1, .osl 9 1 (s1.map encS)))]⟩) (lw [some 17]) ?_
  refine good_ret ?_
  obtain rfl := Option.some.inj h
  exact endQ_ret (h' := [(100, (_, _))]) [some 100] (.tmp rfl (.nil)) ⟨⟨_, rfl, .refl _⟩, trivial⟩ (by decide) ⟨w1, rfl, rfl⟩
 replace h := ho1
 refine good_block ?_
 refine good_loopf (fun p : ((List Bs) × Int) => ⟨22, [(0, .sl false (a0.map encS)), (2, .nil), (3, .hd 17 w1), (4, .int .i64 p.2)], [(17, (w1, .osl 9 1 (p.1.map encS)))]⟩) (fun m p => m_laws_toStringS_l1 m a0 p.1 p.2 = some o1) k (List.replicate (Int.toNat (a0.length : Int)) ([] : Bs), 0) (lw [some 17]) h ?_
 rintro m1 ⟨x1, x2⟩ h
 replace h : m_laws_toStringS_l1 m1 a0 x1 x2 = some o1 := h
 refine Good.le (σ' := ⟨22, [(0, .sl false (a0.map encS)), (2, .nil), (3, .hd 17 w1), (4, .int .i64 x2)], [(17, (w1, .osl 9 1 (x1.map encS)))]⟩) (Le.refl _) ?_
 obtain ⟨m1, rfl⟩ : ∃ m', m1 = m' + 1 := by cases m1 with | zero => (rw [m_laws_toStringS_l1] at h; cases h) | succ m' => exact ⟨m', rfl⟩
 rw [m_laws_toStringS_l1] at h
 refine good_seq fun K6 hK6 => ?_
 refine good_seq fun K7 hK7 => ?_
 refine rg 2 ?_
 refine g_op rfl (ValOk.op (v_lenM (l := a0) (f := encS) tabOk rfl rfl telem23 rfl ?_))
 refine gs 1 ?_
 refine gk hK7 22 [0, 2, 3, 4, 11] [17] ?_
 refine good_cond rfl (fun hc1 => ?_) (fun hc1 => ?_)
 ·replace h := ifT h (dT hc1)
  refine good_skip ?_
  refine hK6 _ (kp 22 [0, 2, 3, 4] [17] ?_)
  refine good_seq fun K8 hK8 => ?_
  refine good_block ?_
  refine rg 4 ?_
  obtain ⟨hb3, h⟩ := ifS h
  refine g_op rfl (ValOk.op (v_idxM tabOk rfl rfl telem23 tsize9 hb3 rfl rfl rfl ?_))
  refine gs 1 ?_
  obtain ⟨hb4, h⟩ := ifS h
  refine g_op rfl (ValOk.op (v_idxHM (q := 17) tabOk ⟨_, rfl⟩ rfl rfl telem23 tsize9 hb4 rfl ?_))
  refine g_op rfl (o_storeRM tabOk (z := (ix a0 x2)) rfl rfl tsize9 rfl hb4 rfl rfl rfl (by decide) rfl rfl rfl rfl ?_)
  refine gk hK8 22 [0, 2, 3, 4] [17] ?_
  refine rg 3 ?_
  refine g_nil ?_
  exact round_mk m1 (x1.set (Int.toNat x2) (ix a0 x2), IntKind.wrap .i64 (x2 + 1)) (Nat.lt_succ_self _) h (lw [some 17])
 ·replace h := ifF h (dF hc1)
  refine good_exit ?_
  exact hw1 x1 (Option.some.inj h).symm _ (lw [some 17])
theorem m_laws_toStringS_okF (k : Nat) : ∀ (a0 : (List Bs)) (r : (List Bs)), m_laws_toStringS k a0 = some r → Does Try.prog 48 [.sl false (a0.map encS)] [] (ret (.sl false (r.map encS))) := by
 intro a0 r h
 refine does_frz (m_laws_toStringS_ok k a0 r h) ?_
 rintro q h' ⟨u0, rfl, rfl⟩
 exact ⟨[100], [(_, _)], ⟨⟨_, rfl, .osl (FrzLL.map fun _ _ => encS_frz _)⟩, trivial⟩, .frz _ _ _ (.head _)⟩
mutual
def m_laws_toValue : Nat → Val → Option Val
 | 0, _ => none
 | k + 1, a0 =>
  (m_laws_toValueS k a0.list).bind fun y1 =>
  (m_laws_toStringS k a0.names).bind fun y2 =>
  some (Val.mk a0.kind a0.num a0.text y1 y2)
def m_laws_toValueS_l1 : Nat → (List Val) → (List Val) → Int → Option (Lp (List Val) (List Val))
 | 0, _, _, _ => none
 | k + 1, a0, x1, x2 =>
  if x2 < (a0.length : Int) then
   if (0 : Int) ≤ x2 ∧ x2 < (a0.length : Int) then
    (m_laws_toValue k (ix a0 x2)).bind fun y1 =>
    if (0 : Int) ≤ x2 ∧ x2 < (x1.length : Int) then
     m_laws_toValueS_l1 k a0 (x1.set (Int.toNat x2) y1) (IntKind.wrap .i64 (x2 + 1))
    else none
   else none
  else
   some (Lp.go x1)
def m_laws_toValueS : Nat → (List Val) → Option (List Val)
 | 0, _ => none
 | k + 1, a0 =>
  if (0 : Int) ≤ (a0.length : Int) ∧ 80 * (a0.length : Int) ≤ (281474976710656 : Int) then
   if (a0.length : Int) ≤ (9223372036854775807 : Int) then
    (m_laws_toValueS_l1 k a0 (List.replicate (Int.toNat (a0.length : Int)) (Val.mk 0 0 ([] : Bs) [] [])) 0).bind fun o1 =>
    o1.then fun s1 =>
  some s1
   else none
  else none
end
def P_m_laws_toValue (k : Nat) : Prop := ∀ (a0 : Val) (r : Val), m_laws_toValue k a0 = some r → Does Try.prog 17 [.agg [.int .i64 a0.kind, .int .i64 a0.num, .str a0.text, .sl false (a0.list.map encLVal), .sl false (a0.names.map encS)]] [] (fun q h' => ∃ u0 : Value, ∃ u1 : Value, q = .agg [.int .i64 r.kind, .int .i64 r.num, .str r.text, .hd 100 u0, .hd 101 u1] ∧ h' = [(100, (u0, .osl 30 5 (r.list.map encOVal))), (101, (u1, .osl 9 1 (r.names.map encS)))])
def P_m_laws_toValueS (k : Nat) : Prop := ∀ (a0 : (List Val)) (r : (List Val)), m_laws_toValueS k a0 = some r → Does Try.prog 47 [.sl false (a0.map encLVal)] [] (fun q h' => ∃ u0 : Value, q = .hd 100 u0 ∧ h' = [(100, (u0, .osl 30 5 (r.map encOVal)))])
theorem m_laws_toValue_step (k : Nat) (ih : ∀ m, m < k → P_m_laws_toValue m ∧ P_m_laws_toValueS m) : P_m_laws_toValue k := by
 intro a0 r h
 obtain ⟨k, rfl⟩ : ∃ k', k = k' + 1 := by cases k with | zero => (rw [m_laws_toValue] at h; cases h) | succ k' => exact ⟨k', rfl⟩
 rw [m_laws_toValue] at h
 refine does_of_good tabOk Try.func17 rfl (by decide +kernel) (Nat.le_of_ble_eq_true rfl) fun c => ?_
 refine Good.le (σ' := ⟨22, [(0, .agg [.int .i64 a0.kind, .int .i64 a0.num, .str a0.text, .sl false (a0.list.map encLVal), .sl false (a0.names.map encS)])], []⟩) (Le.refl _) ?_
 refine good_seq fun K1 hK1 => ?_
 refine good_region ?_
 refine g_op rfl (o_box (k := 11) tabOk rfl rfl rfl rfl rfl ?_)
 intro b1
 refine g_op rfl (o_alloc (k := 12) tabOk tzero30 rfl rfl ?_)
 intro b2
 refine gk hK1 22 [1, 2] [11, 12] ?_
 refine good_seq fun K2 hK2 => ?_
 refine good_region ?_
 refine g_op rfl (o_alloc (k := 13) tabOk tzero30 rfl rfl ?_)
 intro b3
 refine g_nil (hK2 _ ?_)
 refine good_seq fun K3 hK3 => ?_
 refine rg 3 ?_
 refine g_op rfl (o_storeP tabOk (cs' := [.int .i64 a0.kind, .int .i64 0, .str ([] : Bs), .nil, .nil]) rfl rfl tsize3 rfl rfl rfl (Nat.le_of_ble_eq_true rfl) rfl rfl rfl ?_)
 refine gk hK3 22 [1, 2, 3] [11, 12, 13] ?_
 refine good_seq fun K4 hK4 => ?_
 refine rg 3 ?_
 refine g_op rfl (o_storeP tabOk (cs' := [.int .i64 a0.kind, .int .i64 a0.num, .str ([] : Bs), .nil, .nil]) rfl rfl tsize3 rfl rfl rfl (Nat.le_of_ble_eq_true rfl) rfl rfl rfl ?_)
 refine gk hK4 22 [1, 2, 3] [11, 12, 13] ?_
 refine good_seq fun K5 hK5 => ?_
 refine rg 3 ?_
 refine g_op rfl (o_storeP tabOk (cs' := [.int .i64 a0.kind, .int .i64 a0.num, .str a0.text, .nil, .nil]) rfl rfl tsize9 rfl rfl rfl (Nat.le_of_ble_eq_true rfl) rfl rfl rfl ?_)
 refine gk hK5 22 [1, 2, 3] [11, 12, 13] ?_
 refine good_seq fun K6 hK6 => ?_
 refine rg 2 ?_
 obtain ⟨y1, hy1, h⟩ := bnd h
 refine g_op rfl (o_callD [] [] [] (core_value rfl rfl) ((ih k (by omega)).2 a0.list _ hy1) trivial (.cons (.refl _) (.nil)) trivial rfl rfl rfl ?_)
 rintro _ _ ⟨w1, rfl, rfl⟩
 refine ⟨.hd 3001 w1, [(3001, _)], .hd _ _ _, rfl, rfl, rfl, rfl, .inl rfl, ?_⟩
 refine gs 1 ?_
 refine g_op rfl (o_storeP tabOk (cs' := [.int .i64 a0.kind, .int .i64 a0.num, .str a0.text, .hd 3001 w1, .nil]) rfl rfl tsize28 rfl rfl rfl (Nat.le_of_ble_eq_true rfl) rfl rfl rfl ?_)
 refine gk hK6 22 [1, 2, 3] [11, 12, 13, 3001] ?_
 refine good_seq fun K7 hK7 => ?_
 refine rg 2 ?_
 obtain ⟨y2, hy2, h⟩ := bnd h
 refine g_op rfl (o_callD [] [] [] (core_value rfl rfl) (m_laws_toStringS_ok k a0.names _ hy2) trivial (.cons (.refl _) (.nil)) trivial rfl rfl rfl ?_)
 rintro _ _ ⟨w2, rfl, rfl⟩
 refine ⟨.hd 3002 w2, [(3002, _)], .hd _ _ _, rfl, rfl, rfl, rfl, .inl rfl, ?_⟩
 refine gs 1 ?_
 refine g_op rfl (o_storeP tabOk (cs' := [.int .i64 a0.kind, .int .i64 a0.num, .str a0.text, .hd 3001 w1, .hd 3002 w2]) rfl rfl tsize23 rfl rfl rfl (Nat.le_of_ble_eq_true rfl) rfl rfl rfl ?_)
 refine gk hK7 22 [2, 3] [12, 13, 3001, 3002] ?_
 refine good_seq fun K8 hK8 => ?_
 refine rg 1 ?_
 refine g_op rfl (o_storeP tabOk (cs' := [.int .i64 a0.kind, .int .i64 a0.num, .str a0.text, .hd 3001 w1, .hd 3002 w2]) rfl rfl tsize30 rfl rfl rfl (Nat.le_of_ble_eq_true rfl) rfl rfl rfl ?_)
 refine gk hK8 22 [2] [12, 3001, 3002] ?_
 refine Good.le (σ' := ⟨22, [(2, .ptr 12 b2 0)], [(100, (w1, .osl 30 5 (y1.map encOVal))), (101, (w2, .osl 9 1 (y2.map encS))), (12, ((.pointer (some ⟨b2, 0, none⟩)), .optr 30 [.int .i64 a0.kind, .int .i64 a0.num, .str a0.text, .hd 100 w1, .hd 101 w2]))]⟩) (lw [some 3001, some 3002, some 12]) ?_
 refine good_ret ?_
 obtain rfl := Option.some.inj h
 exact endQ_ret (h' := [(100, (_, _)), (101, (_, _))]) [some 100, some 101] (.cell rfl rfl tsize30 tagg30 rfl rfl rfl (.nil)) ⟨⟨_, rfl, .refl _⟩, ⟨⟨_, rfl, .refl _⟩, trivial⟩⟩ (by decide) ⟨w1, w2, rfl, rfl⟩
theorem m_laws_toValueS_step (k : Nat) (ih : ∀ m, m < k → P_m_laws_toValue m ∧ P_m_laws_toValueS m) : P_m_laws_toValueS k := by
 intro a0 r h
 obtain ⟨k, rfl⟩ : ∃ k', k = k' + 1 := by cases k with | zero => (rw [m_laws_toValueS] at h; cases h) | succ k' => exact ⟨k', rfl⟩
 rw [m_laws_toValueS] at h
 refine does_of_good tabOk Try.func47 rfl (by decide +kernel) (Nat.le_of_ble_eq_true rfl) fun c => ?_
 refine Good.le (σ' := ⟨23, [(0, .sl false (a0.map encLVal))], []⟩) (Le.refl _) ?_
 refine good_seq fun K1 hK1 => ?_
 refine rg 1 ?_
 refine g_nil (hK1 _ ?_)
 refine good_seq fun K2 hK2 => ?_
 refine rg 1 ?_
 refine g_op rfl (ValOk.op (v_lenM (l := a0) (f := encLVal) tabOk rfl rfl telem22 rfl ?_))
 obtain ⟨hb1, h⟩ := ifS h
 obtain ⟨hb2, h⟩ := ifS h
 refine g_op rfl (OpOk.le (o_makeM (k := 17) (zz := ((Val.mk 0 0 ([] : Bs) [] []))) (f := fun _ : Val => ([.int .i64 0, .int .i64 0, .str ([] : Bs), .nil, .nil] : List AV)) tabOk telem28 tsize30 tbytes30 tzero30 rfl rfl rfl (by decide) (WkL.refl _) rfl rfl hb1 hb2 ?_))
 intro w1
 refine ⟨_, le_nilsR (k := 17) (rows' := (List.replicate (Int.toNat (a0.length : Int)) (Val.mk 0 0 ([] : Bs) [] [])).map encOVal) (RowsTo.repl (by simp only [encOVal_eq]; exact .cons (.refl _) (.cons (.refl _) (.cons (.refl _) (.cons (.nil _ _) (.cons (.nil _ _) (.nil))))))), ?_⟩
 refine gs 1 ?_
 refine gk hK2 23 [0, 2, 3] [17] ?_
 refine good_seq fun K3 hK3 => ?_
 refine good_seq fun K4 hK4 => ?_
 refine rg 1 ?_
 refine g_nil (hK4 _ ?_)
 obtain ⟨o1, ho1, hJ1⟩ := bnd h
 have hw1 : ∀ (s1 : (List Val)), o1 = Lp.go s1 → ∀ σ', Le σ' ⟨23, [(2, .nil), (3, .hd 17 w1)], [(17, (w1, .osl 30 5 (s1.map encOVal)))]⟩ → K3 σ' := by
  intro s1 e1 σ' hle1
  subst e1
  refine hK3 _ (Good.le hle1 ?_)
  replace h := hJ1
  refine good_seq fun K5 hK5 => ?_
  refine rg 2 ?_
  refine gk hK5 23 [2] [17] ?_
  refine Good.le (σ' := ⟨23, [(2, .hd 100 w1)], [(100, (w1, .osl 30 5 (s1.map encOVal)))]⟩) (lw [some 17]) ?_
  refine good_ret ?_
  obtain rfl := Option.some.inj h
  exact endQ_ret (h' := [(100, (_, _))]) [some 100] (.tmp rfl (.nil)) ⟨⟨_, rfl, .refl _⟩, trivial⟩ (by decide) ⟨w1, rfl, rfl⟩
 replace h := ho1
 refine good_block ?_
 refine good_loopf (fun p : ((List Val) × Int) => ⟨23, [(0, .sl false (a0.map encLVal)), (2, .nil), (3, .hd 17 w1), (4, .int .i64 p.2)], [(17, (w1, .osl 30 5 (p.1.map encOVal)))]⟩) (fun m p => m < k + 1 ∧ m_laws_toValueS_l1 m a0 p.1 p.2 = some o1) k (List.replicate (Int.toNat (a0.length : Int)) (Val.mk 0 0 ([] : Bs) [] []), 0) (lw [some 17]) ⟨by omega, h⟩ ?_
 rintro m1 ⟨x1, x2⟩ ⟨hm, h⟩
 replace h : m_laws_toValueS_l1 m1 a0 x1 x2 = some o1 := h
 refine Good.le (σ' := ⟨23, [(0, .sl false (a0.map encLVal)), (2, .nil), (3, .hd 17 w1), (4, .int .i64 x2)], [(17, (w1, .osl 30 5 (x1.map encOVal)))]⟩) (Le.refl _) ?_
 obtain ⟨m1, rfl⟩ : ∃ m', m1 = m' + 1 := by cases m1 with | zero => (rw [m_laws_toValueS_l1] at h; cases h) | succ m' => exact ⟨m', rfl⟩
 rw [m_laws_toValueS_l1] at h
 refine good_seq fun K6 hK6 => ?_
 refine good_seq fun K7 hK7 => ?_
 refine rg 2 ?_
 refine g_op rfl (ValOk.op (v_lenM (l := a0) (f := encLVal) tabOk rfl rfl telem22 rfl ?_))
 refine gs 1 ?_
 refine gk hK7 23 [0, 2, 3, 4, 11] [17] ?_
 refine good_cond rfl (fun hc1 => ?_) (fun hc1 => ?_)
 ·replace h := ifT h (dT hc1)
  refine good_skip ?_
  refine hK6 _ (kp 23 [0, 2, 3, 4] [17] ?_)
  refine good_seq fun K8 hK8 => ?_
  refine good_block ?_
  refine rg 4 ?_
  obtain ⟨hb3, h⟩ := ifS h
  refine g_op rfl (ValOk.op (v_idxM tabOk rfl rfl telem22 tsize25 hb3 (encLVal_eq _) rfl rfl ?_))
  refine gs 1 ?_
  obtain ⟨y1, hy1, h⟩ := bnd h
  refine g_op rfl (o_callD [] [] [] (core_value rfl rfl) ((ih m1 (by omega)).1 (ix a0 x2) _ hy1) trivial (.cons (.refl _) (.nil)) trivial rfl rfl rfl ?_)
  rintro _ _ ⟨w2, w3, rfl, rfl⟩
  refine ⟨.agg [.int .i64 y1.kind, .int .i64 y1.num, .str y1.text, .hd 3001 w2, .hd 3002 w3], [(3001, _), (3002, _)], .agg (.cons (.refl _) (.cons (.refl _) (.cons (.refl _) (.cons (.hd _ _ _) (.cons (.hd _ _ _) (.nil)))))), rfl, rfl, rfl, rfl, .inl rfl, ?_⟩
  obtain ⟨hb4, h⟩ := ifS h
  refine g_op rfl (ValOk.op (v_idxHM (q := 17) tabOk ⟨_, rfl⟩ rfl rfl telem28 tsize30 hb4 rfl ?_))
  refine g_op rfl (OpOk.le (o_storeR (row' := [.int .i64 y1.kind, .int .i64 y1.num, .str y1.text, .hd 3001 w2, .hd 3002 w3]) tabOk rfl rfl tsize30 rfl ((get_map hb4.1 hb4.2).trans (congrArg some (encOVal_eq _))) rfl rfl (by decide) rfl rfl rfl ?_))
  refine ⟨_, (Le.trans (Le.trans (Le.trans (le_absorb1 (k := 17) (k2 := 3001) (rows' := (x1.map encOVal).set (Int.toNat x2) [.int .i64 y1.kind, .int .i64 y1.num, .str y1.text, .osl 30 5 (y1.list.map encOVal), .hd 3002 w3]) (Int.toNat x2) 3 _ rfl (by decide) (rows_set_get (by have := hb4; simp only [List.length_set, List.length_map]; omega)) rfl (rows_set_set)) (le_mm (rs := [17, 3001]) rfl)) (le_absorb1 (k := 17) (k2 := 3002) (rows' := (x1.set (Int.toNat x2) y1).map encOVal) (Int.toNat x2) 4 _ rfl (by decide) (rows_set_get (by have := hb4; simp only [List.length_set, List.length_map]; omega)) rfl (rows_set_done (f := encOVal) (z := y1) (encOVal_eq _)))) (le_mm (rs := [17, 3001, 3002]) rfl)), ?_⟩
  refine gk hK8 23 [0, 2, 3, 4] [17] ?_
  refine rg 3 ?_
  refine g_nil ?_
  exact round_mk m1 (x1.set (Int.toNat x2) y1, IntKind.wrap .i64 (x2 + 1)) (Nat.lt_succ_self _) ⟨by omega, h⟩ (lw [some 17])
 ·replace h := ifF h (dF hc1)
  refine good_exit ?_
  exact hw1 x1 (Option.some.inj h).symm _ (lw [some 17])
theorem m_laws_toValue_all (k : Nat) : P_m_laws_toValue k ∧ P_m_laws_toValueS k := by
 induction k using Nat.strongRecOn with
 | _ k ih => exact ⟨m_laws_toValue_step k ih, m_laws_toValueS_step k ih⟩
theorem m_laws_toValue_ok (k : Nat) : ∀ (a0 : Val) (r : Val), m_laws_toValue k a0 = some r → Does Try.prog 17 [.agg [.int .i64 a0.kind, .int .i64 a0.num, .str a0.text, .sl false (a0.list.map encLVal), .sl false (a0.names.map encS)]] [] (fun q h' => ∃ u0 : Value, ∃ u1 : Value, q = .agg [.int .i64 r.kind, .int .i64 r.num, .str r.text, .hd 100 u0, .hd 101 u1] ∧ h' = [(100, (u0, .osl 30 5 (r.list.map encOVal))), (101, (u1, .osl 9 1 (r.names.map encS)))]) := (m_laws_toValue_all k).1
theorem m_laws_toValueS_ok (k : Nat) : ∀ (a0 : (List Val)) (r : (List Val)), m_laws_toValueS k a0 = some r → Does Try.prog 47 [.sl false (a0.map encLVal)] [] (fun q h' => ∃ u0 : Value, q = .hd 100 u0 ∧ h' = [(100, (u0, .osl 30 5 (r.map encOVal)))]) := (m_laws_toValue_all k).2
theorem m_laws_toValue_okF (k : Nat) : ∀ (a0 : Val) (r : Val), m_laws_toValue k a0 = some r → Does Try.prog 17 [.agg [.int .i64 a0.kind, .int .i64 a0.num, .str a0.text, .sl false (a0.list.map encLVal), .sl false (a0.names.map encS)]] [] (ret (.agg [.int .i64 r.kind, .int .i64 r.num, .str r.text, .sl true (r.list.map encVal), .sl false (r.names.map encS)])) := by
 intro a0 r h
 refine does_frz (m_laws_toValue_ok k a0 r h) ?_
 rintro q h' ⟨u0, u1, rfl, rfl⟩
 exact ⟨[100, 101], [(_, _), (_, _)], ⟨⟨_, rfl, .osl (FrzLL.map fun _ _ => encOVal_frz _)⟩, ⟨⟨_, rfl, .osl (FrzLL.map fun _ _ => encS_frz _)⟩, trivial⟩⟩, .agg (.cons (.refl _) (.cons (.refl _) (.cons (.refl _) (.cons (.frz _ _ _ (.head _)) (.cons (.frz _ _ _ (.tail _ (.head _))) (.nil))))))⟩
theorem m_laws_toValueS_okF (k : Nat) : ∀ (a0 : (List Val)) (r : (List Val)), m_laws_toValueS k a0 = some r → Does Try.prog 47 [.sl false (a0.map encLVal)] [] (ret (.sl true (r.map encVal))) := by
 intro a0 r h
 refine does_frz (m_laws_toValueS_ok k a0 r h) ?_
 rintro q h' ⟨u0, rfl, rfl⟩
 exact ⟨[100], [(_, _)], ⟨⟨_, rfl, .osl (FrzLL.map fun _ _ => encOVal_frz _)⟩, trivial⟩, .frz _ _ _ (.head _)⟩
def m_laws_eqStringS_l1 : Nat → (List Bs) → (List Bs) → Int → Option (Lp Unit Bool)
 | 0, _, _, _ => none
 | k + 1, a0, a1, x1 =>
  if x1 < (a0.length : Int) then
   if (0 : Int) ≤ x1 ∧ x1 < (a0.length : Int) then
    if (0 : Int) ≤ x1 ∧ x1 < (a1.length : Int) then
     if (ix a0 x1) = (ix a1 x1) then
      m_laws_eqStringS_l1 k a0 a1 (IntKind.wrap .i64 (x1 + 1))
     else
      (some false).bind fun z =>
      some (Lp.ret z)
    else none
   else none
  else
   some (Lp.go ())
def m_laws_eqStringS (k : Nat) (a0 : (List Bs)) (a1 : (List Bs)) : Option Bool :=
 if (a0.length : Int) = (a1.length : Int) then
  (m_laws_eqStringS_l1 k a0 a1 0).bind fun o1 =>
  o1.then fun s1 =>
  some true
 else
  some false
theorem m_laws_eqStringS_ok (k : Nat) : ∀ (a0 : (List Bs)) (a1 : (List Bs)) (r : Bool), m_laws_eqStringS k a0 a1 = some r → Does Try.prog 52 [.sl false (a0.map encS), .sl false (a1.map encS)] [] (ret (.bool r)) := by
 intro a0 a1 r h
 rw [m_laws_eqStringS] at h
 refine does_of_good tabOk Try.func52 rfl (by decide +kernel) (Nat.le_of_ble_eq_true rfl) fun c => ?_
 refine Good.le (σ' := ⟨26, [(0, .sl false (a0.map encS)), (1, .sl false (a1.map encS))], []⟩) (Le.refl _) ?_
 refine good_seq fun K1 hK1 => ?_
 refine rg 1 ?_
 refine g_nil (hK1 _ ?_)
 refine good_seq fun K2 hK2 => ?_
 refine good_seq fun K3 hK3 => ?_
 refine rg 1 ?_
 refine g_op rfl (ValOk.op (v_lenM (l := a0) (f := encS) tabOk rfl rfl telem23 rfl ?_))
 refine gs 1 ?_
 refine g_op rfl (ValOk.op (v_lenM (l := a1) (f := encS) tabOk rfl rfl telem23 rfl ?_))
 refine gs 1 ?_
 refine gk hK3 26 [0, 1, 4, 10] [] ?_
 refine good_cond rfl (fun hc1 => ?_) (fun hc1 => ?_)
 ·replace h := ifF h (ndT hc1)
  refine good_seq fun K4 hK4 => ?_
  refine rg 1 ?_
  refine gk hK4 26 [0, 1, 4] [] ?_
  obtain rfl := Option.some.inj h
  exact rt
 ·replace h := ifT h (ndF hc1)
  refine good_skip ?_
  refine hK2 _ (kp 26 [0, 1, 4] [] ?_)
  refine good_seq fun K5 hK5 => ?_
  refine good_seq fun K6 hK6 => ?_
  refine rg 1 ?_
  refine g_nil (hK6 _ ?_)
  obtain ⟨o1, ho1, hJ1⟩ := bnd h
  have hw1 : ∀ (s1 : Unit), o1 = Lp.go s1 → ∀ σ', Le σ' ⟨26, [(4, .bool false)], []⟩ → K5 σ' := by
   intro s1 e1 σ' hle1
   subst e1
   refine hK5 _ (Good.le hle1 ?_)
   replace h := hJ1
   refine good_seq fun K7 hK7 => ?_
   refine rg 1 ?_
   refine g_nil (hK7 _ ?_)
   obtain rfl := Option.some.inj h
   exact rt
  replace h := ho1
  refine good_block ?_
  refine good_loopf (fun p : Int => ⟨26, [(0, .sl false (a0.map encS)), (1, .sl false (a1.map encS)), (4, .bool false), (5, .int .i64 p)], []⟩) (fun m p => m_laws_eqStringS_l1 m a0 a1 p = some o1) k (0) (lw []) h ?_
  rintro m1 x1 h
  replace h : m_laws_eqStringS_l1 m1 a0 a1 x1 = some o1 := h
  refine Good.le (σ' := ⟨26, [(0, .sl false (a0.map encS)), (1, .sl false (a1.map encS)), (4, .bool false), (5, .int .i64 x1)], []⟩) (Le.refl _) ?_
  obtain ⟨m1, rfl⟩ : ∃ m', m1 = m' + 1 := by cases m1 with | zero => (rw [m_laws_eqStringS_l1] at h; cases h) | succ m' => exact ⟨m', rfl⟩
  rw [m_laws_eqStringS_l1] at h
  refine good_seq fun K8 hK8 => ?_
  refine good_seq fun K9 hK9 => ?_
  refine rg 2 ?_
  refine g_op rfl (ValOk.op (v_lenM (l := a0) (f := encS) tabOk rfl rfl telem23 rfl ?_))
  refine gs 1 ?_
  refine gk hK9 26 [0, 1, 4, 5, 14] [] ?_
  refine good_cond rfl (fun hc2 => ?_) (fun hc2 => ?_)
  ·replace h := ifT h (dT hc2)
   refine good_skip ?_
   refine hK8 _ (kp 26 [0, 1, 4, 5] [] ?_)
   refine good_seq fun K10 hK10 => ?_
   refine good_block ?_
   refine good_seq fun K11 hK11 => ?_
   refine good_draw (by kernel_rfl) (by kernel_rfl) ?_
   refine q_op rfl (v_move rfl rfl ?_)
   refine q_op rfl (v_move rfl rfl ?_)
   obtain ⟨hb1, h⟩ := ifS h
   refine q_op rfl (v_idxM tabOk rfl rfl telem23 tsize9 hb1 rfl rfl rfl ?_)
   refine q_op rfl (v_loadE tabOk rfl tsize9 tagg9 rfl rfl rfl ?_)
   refine q_op rfl (v_move rfl rfl ?_)
   refine q_op rfl (v_move rfl rfl ?_)
   obtain ⟨hb2, h⟩ := ifS h
   refine q_op rfl (v_idxM tabOk rfl rfl telem23 tsize9 hb2 rfl rfl rfl ?_)
   refine q_op rfl (v_loadE tabOk rfl tsize9 tagg9 rfl rfl rfl ?_)
   refine q_op rfl (v_bin rfl rfl rfl rfl ?_)
   refine q_nil ?_
   refine hK11 _ (kp 26 [0, 1, 4, 5, 25] [] ?_)
   refine good_cond rfl (fun hc3 => ?_) (fun hc3 => ?_)
   ·replace h := ifF h (ndT hc3)
    refine good_seq fun K12 hK12 => ?_
    refine rg 1 ?_
    refine gk hK12 26 [0, 1, 4, 5] [] ?_
    replace h := unret h hJ1
    obtain rfl := Option.some.inj h
    exact rt
   ·replace h := ifT h (ndF hc3)
    refine good_skip ?_
    refine hK10 _ (kp 26 [0, 1, 4, 5] [] ?_)
    refine rg 3 ?_
    refine g_nil ?_
    exact round_mk m1 (IntKind.wrap .i64 (x1 + 1)) (Nat.lt_succ_self _) h (lw [])
  ·replace h := ifF h (dF hc2)
   refine good_exit ?_
   exact hw1 () (Option.some.inj h).symm _ (lw [])
mutual
def m_laws_eqValue : Nat → Val → Val → Option Bool
 | 0, _, _ => none
 | k + 1, a0, a1 =>
  if a0.kind = a1.kind then
   if a0.num = a1.num then
    if a0.text = a1.text then
     (m_laws_eqValueS k a0.list a1.list).bind fun y1 =>
     if y1 = true then
      (m_laws_eqStringS k a0.names a1.names).bind fun y2 =>
      if y2 = true then
       some true
      else
       some false
     else
      some false
    else
     some false
   else
    some false
  else
   some false
def m_laws_eqValueS_l1 : Nat → (List Val) → (List Val) → Int → Option (Lp Unit Bool)
 | 0, _, _, _ => none
 | k + 1, a0, a1, x1 =>
  if x1 < (a0.length : Int) then
   if (0 : Int) ≤ x1 ∧ x1 < (a0.length : Int) then
    if (0 : Int) ≤ x1 ∧ x1 < (a1.length : Int) then
     (m_laws_eqValue k (ix a0 x1) (ix a1 x1)).bind fun y1 =>
     if y1 = true then
      m_laws_eqValueS_l1 k a0 a1 (IntKind.wrap .i64 (x1 + 1))
     else
      (some false).bind fun z =>
      some (Lp.ret z)
    else none
   else none
  else
   some (Lp.go ())
def m_laws_eqValueS : Nat → (List Val) → (List Val) → Option Bool
 | 0, _, _ => none
 | k + 1, a0, a1 =>
  if (a0.length : Int) = (a1.length : Int) then
   (m_laws_eqValueS_l1 k a0 a1 0).bind fun o1 =>
   o1.then fun s1 =>
  some true
  else
   some false
end
def P_m_laws_eqValue (k : Nat) : Prop := ∀ (a0 : Val) (a1 : Val) (r : Bool), m_laws_eqValue k a0 a1 = some r → Does Try.prog 19 [.agg [.int .i64 a0.kind, .int .i64 a0.num, .str a0.text, .sl true (a0.list.map encVal), .sl false (a0.names.map encS)], .agg [.int .i64 a1.kind, .int .i64 a1.num, .str a1.text, .sl true (a1.list.map encVal), .sl false (a1.names.map encS)]] [] (ret (.bool r))
def P_m_laws_eqValueS (k : Nat) : Prop := ∀ (a0 : (List Val)) (a1 : (List Val)) (r : Bool), m_laws_eqValueS k a0 a1 = some r → Does Try.prog 51 [.sl true (a0.map encVal), .sl true (a1.map encVal)] [] (ret (.bool r))
theorem m_laws_eqValue_step (k : Nat) (ih : ∀ m, m < k → P_m_laws_eqValue m ∧ P_m_laws_eqValueS m) : P_m_laws_eqValue k := by
 intro a0 a1 r h
 obtain ⟨k, rfl⟩ : ∃ k', k = k' + 1 := by cases k with | zero => (rw [m_laws_eqValue] at h; cases h) | succ k' => exact ⟨k', rfl⟩
 rw [m_laws_eqValue] at h
 refine does_of_good tabOk Try.func19 rfl (by decide +kernel) (Nat.le_of_ble_eq_true rfl) fun c => ?_
 refine Good.le (σ' := ⟨32, [(0, .agg [.int .i64 a0.kind, .int .i64 a0.num, .str a0.text, .sl true (a0.list.map encVal), .sl false (a0.names.map encS)]), (1, .agg [.int .i64 a1.kind, .int .i64 a1.num, .str a1.text, .sl true (a1.list.map encVal), .sl false (a1.names.map encS)])], []⟩) (Le.refl _) ?_
 refine good_seq fun K1 hK1 => ?_
 refine good_region ?_
 refine g_op rfl (o_box (k := 12) tabOk rfl rfl rfl rfl rfl ?_)
 intro b1
 refine g_op rfl (o_box (k := 13) tabOk rfl rfl rfl rfl rfl ?_)
 intro b2
 refine gs 1 ?_
 refine gk hK1 32 [2, 3, 4] [12, 13] ?_
 refine good_seq fun K2 hK2 => ?_
 refine good_seq fun K3 hK3 => ?_
 refine rg 5 ?_
 refine gk hK3 32 [2, 3, 4, 9] [12, 13] ?_
 refine good_cond rfl (fun hc1 => ?_) (fun hc1 => ?_)
 ·replace h := ifF h (ndT hc1)
  refine good_seq fun K4 hK4 => ?_
  refine rg 1 ?_
  refine gk hK4 32 [2, 3, 4] [12, 13] ?_
  obtain rfl := Option.some.inj h
  exact rt
 ·replace h := ifT h (ndF hc1)
  refine good_skip ?_
  refine hK2 _ (kp 32 [2, 3, 4] [12, 13] ?_)
  refine good_seq fun K5 hK5 => ?_
  refine good_seq fun K6 hK6 => ?_
  refine rg 5 ?_
  refine gk hK6 32 [2, 3, 4, 14] [12, 13] ?_
  refine good_cond rfl (fun hc2 => ?_) (fun hc2 => ?_)
  ·replace h := ifF h (ndT hc2)
   refine good_seq fun K7 hK7 => ?_
   refine rg 1 ?_
   refine gk hK7 32 [2, 3, 4] [12, 13] ?_
   obtain rfl := Option.some.inj h
   exact rt
  ·replace h := ifT h (ndF hc2)
   refine good_skip ?_
   refine hK5 _ (kp 32 [2, 3, 4] [12, 13] ?_)
   refine good_seq fun K8 hK8 => ?_
   refine good_seq fun K9 hK9 => ?_
   refine rg 5 ?_
   refine gk hK9 32 [2, 3, 4, 19] [12, 13] ?_
   refine good_cond rfl (fun hc3 => ?_) (fun hc3 => ?_)
   ·replace h := ifF h (ndT hc3)
    refine good_seq fun K10 hK10 => ?_
    refine rg 1 ?_
    refine gk hK10 32 [2, 3, 4] [12, 13] ?_
    obtain rfl := Option.some.inj h
    exact rt
   ·replace h := ifT h (ndF hc3)
    refine good_skip ?_
    refine hK8 _ (kp 32 [2, 3, 4] [12, 13] ?_)
    refine good_seq fun K11 hK11 => ?_
    refine good_seq fun K12 hK12 => ?_
    refine rg 4 ?_
    obtain ⟨y1, hy1, h⟩ := bnd h
    refine g_op rfl (o_callR [] [] (core_value rfl rfl) ((ih k (by omega)).2 a0.list a1.list _ hy1) trivial (.cons (.refl _) (.cons (.refl _) (.nil))) (.inl rfl) rfl ?_)
    refine gs 1 ?_
    refine gk hK12 32 [2, 3, 4, 25] [12, 13] ?_
    refine good_cond rfl (fun hc4 => ?_) (fun hc4 => ?_)
    ·replace h := bF h (nT hc4)
     refine good_seq fun K13 hK13 => ?_
     refine rg 1 ?_
     refine gk hK13 32 [2, 3, 4] [12, 13] ?_
     obtain rfl := Option.some.inj h
     exact rt
    ·replace h := ifT h (nF hc4)
     refine good_skip ?_
     refine hK11 _ (kp 32 [2, 3, 4] [12, 13] ?_)
     refine good_seq fun K14 hK14 => ?_
     refine good_seq fun K15 hK15 => ?_
     refine rg 4 ?_
     obtain ⟨y2, hy2, h⟩ := bnd h
     refine g_op rfl (o_callR [] [] (core_value rfl rfl) (m_laws_eqStringS_ok k a0.names a1.names _ hy2) trivial (.cons (.refl _) (.cons (.refl _) (.nil))) (.inl rfl) rfl ?_)
     refine gs 1 ?_
     refine gk hK15 32 [4, 31] [] ?_
     refine good_cond rfl (fun hc5 => ?_) (fun hc5 => ?_)
     ·replace h := bF h (nT hc5)
      refine good_seq fun K16 hK16 => ?_
      refine rg 1 ?_
      refine gk hK16 32 [4] [] ?_
      obtain rfl := Option.some.inj h
      exact rt
     ·replace h := ifT h (nF hc5)
      refine good_skip ?_
      refine hK14 _ (kp 32 [4] [] ?_)
      refine good_seq fun K17 hK17 => ?_
      refine rg 1 ?_
      refine g_nil (hK17 _ ?_)
      obtain rfl := Option.some.inj h
      exact rt
theorem m_laws_eqValueS_step (k : Nat) (ih : ∀ m, m < k → P_m_laws_eqValue m ∧ P_m_laws_eqValueS m) : P_m_laws_eqValueS k := by
 intro a0 a1 r h
 obtain ⟨k, rfl⟩ : ∃ k', k = k' + 1 := by cases k with | zero => (rw [m_laws_eqValueS] at h; cases h) | succ k' => exact ⟨k', rfl⟩
 rw [m_laws_eqValueS] at h
 refine does_of_good tabOk Try.func51 rfl (by decide +kernel) (Nat.le_of_ble_eq_true rfl) fun c => ?_
 refine Good.le (σ' := ⟨27, [(0, .sl true (a0.map encVal)), (1, .sl true (a1.map encVal))], []⟩) (Le.refl _) ?_
 refine good_seq fun K1 hK1 => ?_
 refine rg 1 ?_
 refine g_nil (hK1 _ ?_)
 refine good_seq fun K2 hK2 => ?_
 refine good_seq fun K3 hK3 => ?_
 refine rg 1 ?_
 refine g_op rfl (ValOk.op (v_lenM (l := a0) (f := encVal) tabOk rfl rfl telem28 rfl ?_))
 refine gs 1 ?_
 refine g_op rfl (ValOk.op (v_lenM (l := a1) (f := encVal) tabOk rfl rfl telem28 rfl ?_))
 refine gs 1 ?_
 refine gk hK3 27 [0, 1, 4, 10] [] ?_
 refine good_cond rfl (fun hc1 => ?_) (fun hc1 => ?_)
 ·replace h := ifF h (ndT hc1)
  refine good_seq fun K4 hK4 => ?_
  refine rg 1 ?_
  refine gk hK4 27 [0, 1, 4] [] ?_
  obtain rfl := Option.some.inj h
  exact rt
 ·replace h := ifT h (ndF hc1)
  refine good_skip ?_
  refine hK2 _ (kp 27 [0, 1, 4] [] ?_)
  refine good_seq fun K5 hK5 => ?_
  refine good_seq fun K6 hK6 => ?_
  refine rg 1 ?_
  refine g_nil (hK6 _ ?_)
  obtain ⟨o1, ho1, hJ1⟩ := bnd h
  have hw1 : ∀ (s1 : Unit), o1 = Lp.go s1 → ∀ σ', Le σ' ⟨27, [(4, .bool false)], []⟩ → K5 σ' := by
   intro s1 e1 σ' hle1
   subst e1
   refine hK5 _ (Good.le hle1 ?_)
   replace h := hJ1
   refine good_seq fun K7 hK7 => ?_
   refine rg 1 ?_
   refine g_nil (hK7 _ ?_)
   obtain rfl := Option.some.inj h
   exact rt
  replace h := ho1
  refine good_block ?_
  refine good_loopf (fun p : Int => ⟨27, [(0, .sl true (a0.map encVal)), (1, .sl true (a1.map encVal)), (4, .bool false), (5, .int .i64 p)], []⟩) (fun m p => m < k + 1 ∧ m_laws_eqValueS_l1 m a0 a1 p = some o1) k (0) (lw []) ⟨by omega, h⟩ ?_
  rintro m1 x1 ⟨hm, h⟩
  replace h : m_laws_eqValueS_l1 m1 a0 a1 x1 = some o1 := h
  refine Good.le (σ' := ⟨27, [(0, .sl true (a0.map encVal)), (1, .sl true (a1.map encVal)), (4, .bool false), (5, .int .i64 x1)], []⟩) (Le.refl _) ?_
  obtain ⟨m1, rfl⟩ : ∃ m', m1 = m' + 1 := by cases m1 with | zero => (rw [m_laws_eqValueS_l1] at h; cases h) | succ m' => exact ⟨m', rfl⟩
  rw [m_laws_eqValueS_l1] at h
  refine good_seq fun K8 hK8 => ?_
  refine good_seq fun K9 hK9 => ?_
  refine rg 2 ?_
  refine g_op rfl (ValOk.op (v_lenM (l := a0) (f := encVal) tabOk rfl rfl telem28 rfl ?_))
  refine gs 1 ?_
  refine gk hK9 27 [0, 1, 4, 5, 14] [] ?_
  refine good_cond rfl (fun hc2 => ?_) (fun hc2 => ?_)
  ·replace h := ifT h (dT hc2)
   refine good_skip ?_
   refine hK8 _ (kp 27 [0, 1, 4, 5] [] ?_)
   refine good_seq fun K10 hK10 => ?_
   refine good_block ?_
   refine good_seq fun K11 hK11 => ?_
   refine good_draw (by kernel_rfl) (by kernel_rfl) ?_
   refine q_op rfl (v_move rfl rfl ?_)
   refine q_op rfl (v_move rfl rfl ?_)
   obtain ⟨hb1, h⟩ := ifS h
   refine q_op rfl (v_idxM tabOk rfl rfl telem28 tsize30 hb1 (encVal_eq _) rfl rfl ?_)
   refine q_op rfl (v_loadE tabOk rfl tsize30 tagg30 rfl rfl rfl ?_)
   refine q_op rfl (v_move rfl rfl ?_)
   refine q_op rfl (v_move rfl rfl ?_)
   obtain ⟨hb2, h⟩ := ifS h
   refine q_op rfl (v_idxM tabOk rfl rfl telem28 tsize30 hb2 (encVal_eq _) rfl rfl ?_)
   refine q_op rfl (v_loadE tabOk rfl tsize30 tagg30 rfl rfl rfl ?_)
   obtain ⟨y1, hy1, h⟩ := bnd h
   refine q_call [] [] (fun _ _ _ _ _ => wanted_none rfl _) (core_value rfl rfl) ((ih m1 (by omega)).1 (ix a0 x1) (ix a1 x1) _ hy1) trivial (.cons (.refl _) (.cons (.refl _) (.nil))) (.bool _) rfl ?_
   refine q_op rfl (v_not rfl rfl ?_)
   refine q_nil ?_
   refine hK11 _ (kp 27 [0, 1, 4, 5, 26] [] ?_)
   refine good_cond rfl (fun hc3 => ?_) (fun hc3 => ?_)
   ·replace h := bF h (nT hc3)
    refine good_seq fun K12 hK12 => ?_
    refine rg 1 ?_
    refine gk hK12 27 [0, 1, 4, 5] [] ?_
    replace h := unret h hJ1
    obtain rfl := Option.some.inj h
    exact rt
   ·replace h := ifT h (nF hc3)
    refine good_skip ?_
    refine hK10 _ (kp 27 [0, 1, 4, 5] [] ?_)
    refine rg 3 ?_
    refine g_nil ?_
    exact round_mk m1 (IntKind.wrap .i64 (x1 + 1)) (Nat.lt_succ_self _) ⟨by omega, h⟩ (lw [])
  ·replace h := ifF h (dF hc2)
   refine good_exit ?_
   exact hw1 () (Option.some.inj h).symm _ (lw [])
theorem m_laws_eqValue_all (k : Nat) : P_m_laws_eqValue k ∧ P_m_laws_eqValueS k := by
 induction k using Nat.strongRecOn with
 | _ k ih => exact ⟨m_laws_eqValue_step k ih, m_laws_eqValueS_step k ih⟩
theorem m_laws_eqValue_ok (k : Nat) : ∀ (a0 : Val) (a1 : Val) (r : Bool), m_laws_eqValue k a0 a1 = some r → Does Try.prog 19 [.agg [.int .i64 a0.kind, .int .i64 a0.num, .str a0.text, .sl true (a0.list.map encVal), .sl false (a0.names.map encS)], .agg [.int .i64 a1.kind, .int .i64 a1.num, .str a1.text, .sl true (a1.list.map encVal), .sl false (a1.names.map encS)]] [] (ret (.bool r)) := (m_laws_eqValue_all k).1
theorem m_laws_eqValueS_ok (k : Nat) : ∀ (a0 : (List Val)) (a1 : (List Val)) (r : Bool), m_laws_eqValueS k a0 a1 = some r → Does Try.prog 51 [.sl true (a0.map encVal), .sl true (a1.map encVal)] [] (ret (.bool r)) := (m_laws_eqValue_all k).2
end Go.Proofs.Ytiaigcdckmpepaa
end
end
section
/-! Size, copies, sameness. -/
set_option linter.unusedVariables false
set_option linter.unusedSimpArgs false
namespace Go.Proofs.Ytiaigcdckmpepaa
open Go.Bb

theorem set_take {α : Type} (l : List α) (z : α) (j : Nat) (hj : j < l.length) (x : α) (hx : x = l[j]) : (l.take j ++ List.replicate (l.length - j) z).set j x = l.take (j + 1) ++ List.replicate (l.length - (j + 1)) z := by
  subst hx
  have e : l.length - j = (l.length - (j + 1)) + 1 := by omega
  rw [e, List.replicate_succ, List.set_append]
  have h1 : (l.take j).length = j := by simp; omega
  rw [h1, if_neg (by omega), Nat.sub_self, List.set_cons_zero, List.take_add_one, List.getElem?_eq_getElem hj, Option.toList_some, List.append_assoc]
  rfl

theorem ev_copy {α β : Type} {L : Nat → List α → Int → Option (Lp (List α) β)} (l : List α) (z : α) (hs : ∀ (i : Nat) (x : List α) r, (h : i < l.length) → x.length = l.length → Ev (fun k => L k (x.set i l[i]) ((i : Int) + 1)) r → Ev (fun k => L k x i) r) (he : ∀ x, Ev (fun k => L k x l.length) (.go x)) :
    Ev (fun k => L k (List.replicate l.length z) 0) (.go l) := by
  have := ev_fold (L := L) (n := l.length) (fun j => l.take j ++ List.replicate (l.length - j) z) (fun i r hi h => hs i _ r hi (by simp; omega) (by rw [set_take l z i hi _ rfl]; exact h)) (he _) l.length 0 (by omega)
  simpa using this

theorem ev_toStringS (l : List Bs) (hl : l.length ≤ 1048576) : Ev (fun k => m_laws_toStringS k l) l := by
  simp only [m_laws_toStringS]
  refine ev_ifT (by omega) (ev_ifT (by omega) ?_)
  refine Ev.go (s := l) ?_ (ev_some _)
  have := ev_copy (L := fun k x i => m_laws_toStringS_l1 k l x i) l ([] : Bs) (fun i x r hi hx h => by
    rw [ev_shift]; simp only [m_laws_toStringS_l1]
    refine ev_ifT (by omega) (ev_ifT (by omega) (ev_ifT (by omega) ?_))
    rw [wrap_id (by omega), ix_nat hi]
    exact h) (fun x => by
    rw [ev_shift]; simp only [m_laws_toStringS_l1]
    exact ev_ifF (by omega) (ev_some _))
  simpa using this

theorem ev_toValueS (l : List Val) (hl : l.length ≤ 1048576) (ih : ∀ x ∈ l, Ev (fun k => m_laws_toValue k x) x) : Ev (fun k => m_laws_toValueS k l) l := by
  rw [ev_shift]; simp only [m_laws_toValueS]
  refine ev_ifT (by omega) (ev_ifT (by omega) ?_)
  refine Ev.go (s := l) ?_ (ev_some _)
  have := ev_copy (L := fun k x i => m_laws_toValueS_l1 k l x i) l (Val.mk 0 0 ([] : Bs) [] []) (fun i x r hi hx h => by
    rw [ev_shift]; simp only [m_laws_toValueS_l1]
    refine ev_ifT (by omega) (ev_ifT (by omega) ?_)
    rw [ix_nat hi]
    refine Ev.bind (ih _ (List.getElem_mem hi)) (ev_ifT (by omega) ?_)
    rw [wrap_id (by omega)]
    exact h) (fun x => by
    rw [ev_shift]; simp only [m_laws_toValueS_l1]
    exact ev_ifF (by omega) (ev_some _))
  simpa using this

theorem ev_toValue : ∀ v : Val, Bd 1048576 v → Ev (fun k => m_laws_toValue k v) v := by
  apply Val.ind
  intro v ih h
  rw [ev_shift]; simp only [m_laws_toValue]
  refine Ev.bind (ev_toValueS _ h.list fun x hx => ih x hx (h.within x hx)) (Ev.bind (ev_toStringS _ h.names) (ev_eq (ev_some _) ?_))
  simp

theorem ev_eqStringS (a : List Bs) (ha : a.length ≤ 1048576) : Ev (fun k => m_laws_eqStringS k a a) true := by
  simp only [m_laws_eqStringS]
  refine ev_ifT trivial (Ev.go (s := ()) ?_ (ev_some _))
  have := ev_all_go (L := fun k i => m_laws_eqStringS_l1 k a a i) (n := a.length) (g := fun _ => true) (fun i r hi hg h => by
    rw [ev_shift]; simp only [m_laws_eqStringS_l1]
    refine ev_ifT (by omega) (ev_ifT (by omega) (ev_ifT (by omega) (ev_ifT trivial ?_)))
    rw [wrap_id (by omega)]; exact h) (by
    rw [ev_shift]; simp only [m_laws_eqStringS_l1]
    exact ev_ifF (by omega) (ev_some _)) a.length 0 (by omega) (fun _ _ _ => rfl)
  simpa using this

theorem ev_eqValueS (a : List Val) (ha : a.length ≤ 1048576) (ih : ∀ x ∈ a, Ev (fun k => m_laws_eqValue k x x) true) : Ev (fun k => m_laws_eqValueS k a a) true := by
  rw [ev_shift]; simp only [m_laws_eqValueS]
  refine ev_ifT trivial (Ev.go (s := ()) ?_ (ev_some _))
  have := ev_all_go (L := fun k i => m_laws_eqValueS_l1 k a a i) (n := a.length) (g := fun _ => true) (fun i r hi hg h => by
    rw [ev_shift]; simp only [m_laws_eqValueS_l1]
    refine ev_ifT (by omega) (ev_ifT (by omega) (ev_ifT (by omega) ?_))
    rw [ix_nat hi]
    refine Ev.bind (ih _ (List.getElem_mem hi)) (ev_ifT rfl ?_)
    rw [wrap_id (by omega)]; exact h) (by
    rw [ev_shift]; simp only [m_laws_eqValueS_l1]
    exact ev_ifF (by omega) (ev_some _)) a.length 0 (by omega) (fun _ _ _ => rfl)
  simpa using this

theorem ev_eqValue : ∀ a : Val, Bd 1048576 a → Ev (fun k => m_laws_eqValue k a a) true := by
  apply Val.ind
  intro a ih h
  rw [ev_shift]; simp only [m_laws_eqValue]
  refine ev_ifT trivial (ev_ifT trivial (ev_ifT trivial (Ev.bind (ev_eqValueS _ h.list fun x hx => ih x hx (h.within x hx)) (ev_ifT rfl (Ev.bind (ev_eqStringS _ h.names) (ev_ifT rfl (ev_some _)))))))

/-- What is left of a size: none, or all is within it. -/
theorem ev_szStringS (l : List Bs) (n : Int) (hn : 0 ≤ n) (hn2 : n ≤ 1048576) (hl : l.length ≤ maxLen) (hs : ∀ s ∈ l, s.length ≤ maxLen) : ∃ y, Ev (fun k => m_laws_szStringS k l n) y ∧ (y < 0 ∨ (0 ≤ y ∧ y ≤ n ∧ (l.length : Int) ≤ n ∧ ∀ s ∈ l, (s.length : Int) ≤ n)) := by
  simp only [m_laws_szStringS]
  have hm : maxLen = 9223372036854775807 := rfl
  rw [wrap_id (by omega)]
  by_cases h0 : n - (l.length : Int) < 0
  · exact ⟨-1, ev_ifT h0 (ev_some _), .inl (by omega)⟩
  · have loop : ∀ (d j : Nat) (x : Int), j + d = l.length → 0 ≤ x → x ≤ n → ∃ o, Ev (fun k => m_laws_szStringS_l1 k l x j) o ∧ (o = .ret (-1) ∨ ∃ y, o = .go y ∧ 0 ≤ y ∧ y ≤ x ∧ ∀ (i : Nat) (h : i < l.length), j ≤ i → (l[i].length : Int) ≤ x) := by
      intro d
      induction d with
      | zero =>
        intro j x hj hx hxn
        refine ⟨.go x, ?_, .inr ⟨x, rfl, hx, Int.le_refl _, fun i hi hji => by omega⟩⟩
        rw [ev_shift]; simp only [m_laws_szStringS_l1]
        exact ev_ifF (by omega) (ev_some _)
      | succ d ih =>
        intro j x hj hx hxn
        have hjl : j < l.length := by omega
        have hlen := hs _ (List.getElem_mem hjl)
        have hw : IntKind.wrap .i64 (x - ((ix l (j : Int)).length : Int)) = x - (l[j].length : Int) := by
          rw [ix_nat hjl]; exact wrap_id (by omega)
        by_cases h1 : x - (l[j].length : Int) < 0
        · refine ⟨.ret (-1), ?_, .inl rfl⟩
          rw [ev_shift]; simp only [m_laws_szStringS_l1]
          rw [hw]
          exact ev_ifT (by omega) (ev_ifT (by omega) (ev_ifT h1 (ev_some _)))
        · obtain ⟨o, h2, h3⟩ := ih (j + 1) (x - (l[j].length : Int)) (by omega) (by omega) (by omega)
          refine ⟨o, ?_, ?_⟩
          · rw [ev_shift]; simp only [m_laws_szStringS_l1]
            rw [hw, wrap_id (n := (j : Int) + 1) (by omega)]
            exact ev_ifT (by omega) (ev_ifT (by omega) (ev_ifF h1 (by simpa using h2)))
          · rcases h3 with h3 | ⟨y, h3, h4, h5, h6⟩
            · exact .inl h3
            · refine .inr ⟨y, h3, h4, by omega, fun i hi hji => ?_⟩
              rcases Nat.eq_or_lt_of_le hji with rfl | hji
              · omega
              · have := h6 i hi hji; omega
    obtain ⟨o, h1, h2⟩ := loop l.length 0 (n - l.length) (by omega) (by omega) (by omega)
    rcases h2 with rfl | ⟨y, rfl, h3, h4, h5⟩
    · exact ⟨-1, ev_ifF h0 (Ev.ret (by simpa using h1)), .inl (by omega)⟩
    · refine ⟨y, ev_ifF h0 (Ev.go (by simpa using h1) (ev_some _)), .inr ⟨h3, by omega, by omega, fun s hs => ?_⟩⟩
      obtain ⟨i, hi, rfl⟩ := List.mem_iff_getElem.1 hs
      have := h5 i hi (by omega)
      omega

theorem ev_szValueS (l : List Val) (n : Int) (hn : 0 ≤ n) (hn2 : n ≤ 1048576) (hl : l.length ≤ maxLen) (ihv : ∀ v ∈ l, ∀ n : Int, 0 ≤ n → n ≤ 1048576 → ∃ y, Ev (fun k => m_laws_szValue k v n) y ∧ (y < 0 ∨ (0 ≤ y ∧ y ≤ n ∧ Bd 1048576 v))) : ∃ y, Ev (fun k => m_laws_szValueS k l n) y ∧ (y < 0 ∨ (0 ≤ y ∧ y ≤ n ∧ (l.length : Int) ≤ n ∧ ∀ v ∈ l, Bd 1048576 v)) := by
  have hm : maxLen = 9223372036854775807 := rfl
  have hw0 : IntKind.wrap .i64 (n - (l.length : Int)) = n - (l.length : Int) := wrap_id (by omega)
  by_cases h0 : n - (l.length : Int) < 0
  · refine ⟨-1, ?_, .inl (by omega)⟩
    rw [ev_shift]; simp only [m_laws_szValueS]
    rw [hw0]
    exact ev_ifT h0 (ev_some _)
  · have loop : ∀ (d j : Nat) (x : Int), j + d = l.length → 0 ≤ x → x ≤ n → ∃ o, Ev (fun k => m_laws_szValueS_l1 k l x j) o ∧ (o = .ret (-1) ∨ ∃ y, o = .go y ∧ 0 ≤ y ∧ y ≤ x ∧ ∀ (i : Nat) (h : i < l.length), j ≤ i → Bd 1048576 l[i]) := by
      intro d
      induction d with
      | zero =>
        intro j x hj hx hxn
        refine ⟨.go x, ?_, .inr ⟨x, rfl, hx, Int.le_refl _, fun i hi hji => by omega⟩⟩
        rw [ev_shift]; simp only [m_laws_szValueS_l1]
        exact ev_ifF (by omega) (ev_some _)
      | succ d ih =>
        intro j x hj hx hxn
        have hjl : j < l.length := by omega
        obtain ⟨y, h1, h2⟩ := ihv _ (List.getElem_mem hjl) x hx (by omega)
        rcases h2 with h2 | ⟨h2, h3, h4⟩
        · refine ⟨.ret (-1), ?_, .inl rfl⟩
          rw [ev_shift]; simp only [m_laws_szValueS_l1]
          rw [ix_nat hjl]
          exact ev_ifT (by omega) (ev_ifT (by omega) (Ev.bind h1 (ev_ifT h2 (ev_some _))))
        · obtain ⟨o, h5, h6⟩ := ih (j + 1) y (by omega) (by omega) (by omega)
          refine ⟨o, ?_, ?_⟩
          · rw [ev_shift]; simp only [m_laws_szValueS_l1]
            rw [ix_nat hjl, wrap_id (n := (j : Int) + 1) (by omega)]
            exact ev_ifT (by omega) (ev_ifT (by omega) (Ev.bind h1 (ev_ifF (by omega) (by simpa using h5))))
          · rcases h6 with h6 | ⟨z, h6, h7, h8, h9⟩
            · exact .inl h6
            · refine .inr ⟨z, h6, h7, by omega, fun i hi hji => ?_⟩
              rcases Nat.eq_or_lt_of_le hji with rfl | hji
              · exact h4
              · exact h9 i hi hji
    obtain ⟨o, h1, h2⟩ := loop l.length 0 (n - l.length) (by omega) (by omega) (by omega)
    rcases h2 with rfl | ⟨y, rfl, h3, h4, h5⟩
    · refine ⟨-1, ?_, .inl (by omega)⟩
      rw [ev_shift]; simp only [m_laws_szValueS]
      rw [hw0]
      exact ev_ifF h0 (Ev.ret (by simpa using h1))
    · refine ⟨y, ?_, .inr ⟨h3, by omega, by omega, fun s hs => ?_⟩⟩
      · rw [ev_shift]; simp only [m_laws_szValueS]
        rw [hw0]
        exact ev_ifF h0 (Ev.go (by simpa using h1) (ev_some _))
      · obtain ⟨i, hi, rfl⟩ := List.mem_iff_getElem.1 hs
        exact h5 i hi (by omega)

theorem ev_szValue : ∀ v : Val, Bd maxLen v → ∀ n : Int, 0 ≤ n → n ≤ 1048576 → ∃ y, Ev (fun k => m_laws_szValue k v n) y ∧ (y < 0 ∨ (0 ≤ y ∧ y ≤ n ∧ Bd 1048576 v)) := by
  apply Val.ind
  intro v ih h n hn hn2
  have hm : maxLen = 9223372036854775807 := rfl
  have ht := h.text
  have hw : IntKind.wrap .i64 (n - (v.text.length : Int)) = n - (v.text.length : Int) := wrap_id (by omega)
  by_cases h0 : n - (v.text.length : Int) < 0
  · refine ⟨-1, ?_, .inl (by omega)⟩
    rw [ev_shift]; simp only [m_laws_szValue]
    rw [hw]
    exact ev_ifT h0 (ev_some _)
  · obtain ⟨y, h1, h2⟩ := ev_szValueS v.list (n - v.text.length) (by omega) (by omega) h.list fun x hx => ih x hx (h.within x hx)
    rcases h2 with h2 | ⟨h2, h3, h4, h5⟩
    · refine ⟨-1, ?_, .inl (by omega)⟩
      rw [ev_shift]; simp only [m_laws_szValue]
      rw [hw]
      exact ev_ifF h0 (Ev.bind h1 (ev_ifT h2 (ev_some _)))
    · obtain ⟨z, h6, h7⟩ := ev_szStringS v.names y h2 (by omega) h.names h.name
      rcases h7 with h7 | ⟨h7, h8, h9, h10⟩
      · refine ⟨-1, ?_, .inl (by omega)⟩
        rw [ev_shift]; simp only [m_laws_szValue]
        rw [hw]
        exact ev_ifF h0 (Ev.bind h1 (ev_ifF (by omega) (Ev.bind h6 (ev_ifT h7 (ev_some _)))))
      · refine ⟨z, ?_, .inr ⟨h7, by omega, .mk v (by omega) (by omega) (by omega) (fun s hs => by have := h10 s hs; omega) h5⟩⟩
        rw [ev_shift]; simp only [m_laws_szValue]
        rw [hw]
        exact ev_ifF h0 (Ev.bind h1 (ev_ifF (by omega) (Ev.bind h6 (ev_ifF (by omega) (ev_some _)))))
end Go.Proofs.Ytiaigcdckmpepaa
end
section
/-! Marks. -/
set_option linter.unusedVariables false
set_option linter.unusedSimpArgs false
namespace Go.Proofs.Ytiaigcdckmpepaa
open Go.Bb

theorem ev_det {α : Type} {m : Nat → Option α} {a b : α} (h : Ev m a) (h' : Ev m b) : a = b := by
  obtain ⟨K, h⟩ := h
  obtain ⟨K', h'⟩ := h'
  have := h (max K K') (by omega)
  rw [h' (max K K') (by omega)] at this
  exact (Option.some.inj this).symm

theorem ev_markText1 : ∀ (n : Nat) (acc : Bs), acc.length + n ≤ 4611686018427387904 → ∃ s, Ev (fun k => m_laws_markText_l1 k (n : Int) acc) (.go s) ∧ s.length ≤ acc.length + n := by
  intro n
  have hm : maxLen = 9223372036854775807 := rfl
  induction n using Nat.strongRecOn with
  | ind n ih =>
    intro acc hl
    by_cases h0 : n = 0
    · subst h0
      refine ⟨acc, ?_, by omega⟩
      rw [ev_shift]; simp only [m_laws_markText_l1]
      exact ev_ifF (by omega) (ev_some _)
    · obtain ⟨s, h1, h2⟩ := ih (n / 10) (by omega) (ofI [IntKind.wrap .u8 (IntKind.wrap .i64 (48 + Int.tmod (n : Int) 10))] ++ acc) (by simp [ofI]; omega)
      have hd : IntKind.wrap .i64 (Int.tdiv (n : Int) 10) = ((n / 10 : Nat) : Int) := by
        rw [Int.tdiv_eq_ediv_of_nonneg (by omega)]
        rw [wrap_id (by omega)]; omega
      refine ⟨s, ?_, by simp [ofI] at h2; omega⟩
      rw [ev_shift]; simp only [m_laws_markText_l1]
      rw [hd]
      exact ev_ifT (by omega) (ev_ifT (by simp [ofI]; omega) h1)

theorem ev_markText (n : Int) (h : n ≤ 2305843009213693952) : ∃ s, Ev (fun k => m_laws_markText k n) s := by
  have hm : maxLen = 9223372036854775807 := rfl
  simp only [m_laws_markText]
  by_cases h0 : n ≤ 0
  · exact ⟨_, ev_ifT h0 (ev_some _)⟩
  · obtain ⟨s, h1, h2⟩ := ev_markText1 n.toNat [] (by simp; omega)
    have e : ((n.toNat : Nat) : Int) = n := by omega
    rw [e] at h1
    exact ⟨_, ev_ifF h0 (Ev.go h1 (ev_ifT (by simp at h2 ⊢; omega) (ev_some _)))⟩

theorem set_mid {α : Type} (pre post : List α) (t t' : α) : (pre ++ t :: post).set pre.length t' = (pre ++ [t']) ++ post := by
  rw [List.set_append]; simp
theorem ix_mid {α : Type} [Inhabited α] (pre post : List α) (t : α) : ix (pre ++ t :: post) (pre.length : Int) = t := by
  rw [ix_nat (by simp)]; simp

/-- Texts. -/
theorem ev_markStrs : ∀ (post pre pre' : List Bs) (n : Int), pre.length = pre'.length → 0 ≤ n → n + post.length ≤ 2305843009213693952 → pre.length + post.length ≤ 4611686018427387904 →
    ∃ post' m, Ev (fun k => m_laws_markStringS_l1 k (pre ++ post) n pre.length) (.go (pre ++ post', m)) ∧ Ev (fun k => m_laws_heldStringS_l1 k (pre' ++ post') n pre'.length) (.go m) ∧ post'.length = post.length ∧ n ≤ m ∧ m ≤ n + post.length
  | [], pre, pre', n, hp, hn, hb, hl => by
    refine ⟨[], n, ?_, ?_, rfl, by omega, by simp⟩
    · rw [ev_shift]; simp only [m_laws_markStringS_l1]
      exact ev_ifF (by simp) (ev_some _)
    · rw [ev_shift]; simp only [m_laws_heldStringS_l1]
      exact ev_ifF (by simp) (ev_some _)
  | t :: post, pre, pre', n, hp, hn, hb, hl => by
    simp only [List.length_cons] at hb hl
    obtain ⟨s, hs⟩ := ev_markText n (by omega)
    obtain ⟨post', m, h1, h2, h3, h4, h5⟩ := ev_markStrs post (pre ++ [s]) (pre' ++ [s]) (n + 1) (by simp [hp]) (by omega) (by omega) (by simp; omega)
    refine ⟨s :: post', m, ?_, ?_, by simp [h3], by omega, by simp only [List.length_cons]; omega⟩
    · rw [ev_shift]; simp only [m_laws_markStringS_l1]
      refine ev_ifT (by simp; omega) (Ev.bind hs (ev_ifT (by simp; omega) ?_))
      rw [wrap_id (n := n + 1) (by omega), wrap_id (n := (pre.length : Int) + 1) (by omega), Int.toNat_natCast, set_mid]
      simpa using h1
    · rw [ev_shift]; simp only [m_laws_heldStringS_l1]
      refine ev_ifT (by simp; omega) (ev_ifT (by simp; omega) (Ev.bind hs (ev_ifT (ix_mid _ _ _) ?_)))
      rw [wrap_id (n := n + 1) (by omega), wrap_id (n := (pre'.length : Int) + 1) (by omega)]
      simpa using h2
theorem ev_markStringS (l : List Bs) (n : Int) (hn : 0 ≤ n) (hb : n + l.length ≤ 2305843009213693952) : ∃ l' m, Ev (fun k => m_laws_markStringS k l n) (m, l') ∧ Ev (fun k => m_laws_heldStringS k l' n) m ∧ n ≤ m ∧ m ≤ n + l.length := by
  obtain ⟨l', m, h1, h2, h3, h4, h5⟩ := ev_markStrs l [] [] n rfl hn hb (by simp; omega)
  refine ⟨l', m, ?_, ?_, h4, h5⟩
  · simp only [m_laws_markStringS]
    exact Ev.go (s := (l', m)) (by simpa using h1) (ev_some _)
  · simp only [m_laws_heldStringS]
    exact Ev.go (by simpa using h2) (ev_some _)

mutual
/-- How many marks a value takes. -/
def wtV : Val → Nat
  | .mk _ _ _ l ns => 3 + wtVs l + ns.length
def wtVs : List Val → Nat
  | [] => 0
  | v :: l => wtV v + wtVs l
end
theorem wtV_eq (v : Val) : wtV v = 3 + wtVs v.list + v.names.length := by cases v; rfl
theorem wtVs_mem {v : Val} : ∀ {l : List Val}, v ∈ l → wtV v ≤ wtVs l
  | u :: l, h => by
    simp only [wtVs]
    rcases List.mem_cons.1 h with rfl | h
    · omega
    · have := wtVs_mem h; omega

def MkV (l : List Val) : Prop := ∀ n : Int, 0 ≤ n → n + wtVs l ≤ 2305843009213693952 → ∃ l' m, Ev (fun k => m_laws_markValueS k l n) (m, l') ∧ Ev (fun k => m_laws_heldValueS k l' n) m ∧ n ≤ m ∧ m ≤ n + wtVs l

theorem ev_markVals : ∀ (post pre pre' : List Val) (n : Int), (∀ v ∈ post, MkV v.list) → pre.length = pre'.length → 0 ≤ n → n + wtVs post ≤ 2305843009213693952 → pre.length + post.length ≤ 4611686018427387904 →
    ∃ post' m, Ev (fun k => m_laws_markValueS_l1 k (pre ++ post) n pre.length) (.go (pre ++ post', m)) ∧ Ev (fun k => m_laws_heldValueS_l1 k (pre' ++ post') n pre'.length) (.go m) ∧ n ≤ m ∧ m ≤ n + wtVs post
  | [], pre, pre', n, hi, hp, hn, hb, hl => by
    refine ⟨[], n, ?_, ?_, by omega, by simp [wtVs]⟩
    · rw [ev_shift]; simp only [m_laws_markValueS_l1]
      exact ev_ifF (by simp) (ev_some _)
    · rw [ev_shift]; simp only [m_laws_heldValueS_l1]
      exact ev_ifF (by simp) (ev_some _)
  | t :: post, pre, pre', n, hi, hp, hn, hb, hl => by
    simp only [List.length_cons, wtVs, wtV_eq] at hb hl ⊢
    obtain ⟨s, hs⟩ := ev_markText (n + 1 + 1) (by omega)
    obtain ⟨of', n2, g1, g2, g3, g4⟩ := hi t List.mem_cons_self (n + 1 + 1 + 1) (by omega) (by omega)
    obtain ⟨ns', n3, g5, g6, g7, g8⟩ := ev_markStringS t.names n2 (by omega) (by omega)
    obtain ⟨post', m, h1, h2, h4, h5⟩ := ev_markVals post (pre ++ [Val.mk n (n + 1) s of' ns']) (pre' ++ [Val.mk n (n + 1) s of' ns']) n3 (fun v hv => hi v (List.mem_cons_of_mem _ hv)) (by simp [hp]) (by omega) (by omega) (by simp; omega)
    refine ⟨Val.mk n (n + 1) s of' ns' :: post', m, ?_, ?_, by omega, by omega⟩
    · rw [ev_shift]; simp only [m_laws_markValueS_l1]
      rw [wrap_id (n := n + 1) (by omega), wrap_id (n := n + 1 + 1) (by omega), wrap_id (n := n + 1 + 1 + 1) (by omega), wrap_id (n := (pre.length : Int) + 1) (by omega), ix_mid]
      refine ev_ifT (by simp; omega) (ev_ifT (by simp; omega) (Ev.bind hs (Ev.bind g1 (Ev.bind g5 ?_))))
      rw [Int.toNat_natCast, set_mid]
      simpa using h1
    · rw [ev_shift]; simp only [m_laws_heldValueS_l1]
      rw [wrap_id (n := n + 1) (by omega), wrap_id (n := n + 1 + 1) (by omega), wrap_id (n := n + 1 + 1 + 1) (by omega), wrap_id (n := (pre'.length : Int) + 1) (by omega), ix_mid]
      have hb2 : (0 : Int) ≤ (pre'.length : Int) ∧ (pre'.length : Int) < ((pre' ++ Val.mk n (n + 1) s of' ns' :: post').length : Int) := by simp; omega
      refine ev_ifT hb2.2 (ev_ifT hb2 (ev_ifT rfl (ev_ifT hb2 (ev_ifT rfl (ev_ifT hb2 (Ev.bind hs (ev_ifT rfl (ev_ifT hb2 (Ev.bind g2 (ev_ifF (by omega) (ev_ifT hb2 (Ev.bind g6 (ev_ifF (by omega) ?_)))))))))))))
      simpa using h2
theorem mkV_all : ∀ v : Val, v.list.length ≤ 4611686018427387904 → (∀ x ∈ v.list, MkV x.list) → MkV v.list := by
  intro v hv ih n hn hb
  obtain ⟨l', m, h1, h2, h4, h5⟩ := ev_markVals v.list [] [] n ih rfl hn hb (by simp; omega)
  refine ⟨l', m, ?_, ?_, h4, h5⟩
  · rw [ev_shift]; simp only [m_laws_markValueS]
    exact Ev.go (s := (l', m)) (by simpa using h1) (ev_some _)
  · rw [ev_shift]; simp only [m_laws_heldValueS]
    exact Ev.go (by simpa using h2) (ev_some _)
theorem mkV_ind : ∀ v : Val, Bd 1048576 v → MkV v.list := by
  apply Val.ind
  intro v ih h
  exact mkV_all v (by have := h.list; omega) fun x hx => ih x hx (h.within x hx)
/-- Marks on a value. -/
theorem ev_markValue (v : Val) (hv : Bd 1048576 v) (hw : wtV v ≤ 1152921504606846976) : ∃ l' ns' m, Ev (fun k => m_laws_markValue k v 1) (m, l', ns') ∧ 0 ≤ m ∧ Ev (fun k => m_laws_heldValue k (Val.mk v.kind v.num v.text l' ns') 1) m := by
  rw [wtV_eq] at hw
  obtain ⟨l', n2, g1, g2, g3, g4⟩ := mkV_ind v hv 1 (by omega) (by omega)
  obtain ⟨ns', n3, g5, g6, g7, g8⟩ := ev_markStringS v.names n2 (by omega) (by omega)
  refine ⟨l', ns', n3, ?_, by omega, ?_⟩
  · simp only [m_laws_markValue]
    exact Ev.bind g1 (Ev.bind g5 (ev_some _))
  · simp only [m_laws_heldValue]
    exact Ev.bind g2 (ev_ifF (by omega) (Ev.bind g6 (ev_ifF (by omega) (ev_some _))))
end Go.Proofs.Ytiaigcdckmpepaa
end
section
/-! Functions of the program. -/
set_option linter.unusedVariables false
set_option linter.unnecessarySimpa false
set_option maxRecDepth 100000
set_option maxHeartbeats 20000000
noncomputable section
namespace Go.Proofs.Ytiaigcdckmpepaa
open Go.Bb
def w_impl_ValueDeep_l3 : Nat → (List (List Val)) → Int → (List (List Val)) → (List (List Val)) → (List (List Val)) → Int → W (Lp ((List (List Val)) × (List (List Val)) × (List (List Val))) (Lp ((List (List Val)) × (List (List Val))) (Lp Int Int)))
 | 0, _, _, _, _, _, _ => fw
 | k + 1, x3, x7, x8, x9, x10, x11 =>
  if x11 < ((ix x3 x7).length : Int) then
   if (0 : Int) ≤ x11 ∧ x11 < ((ix x3 x7).length : Int) then
    cw (m_impl_spanOf ((ix (ix x3 x7) x11).list)) fun y1 =>
    lk (y1 ∈ x9)
     (tw (pw (Lp.go true)) fun s6 =>
     if s6 = true then
      w_impl_ValueDeep_l3 k x3 x7 x8 x9 x10 (IntKind.wrap .i64 (x11 + 1))
     else
      lk (y1 ∈ x9)
       (lk (y1 ∈ x8)
        (if (x10 ++ [(ix (ix x3 x7) x11).list]).length * 24 ≤ 140737488355328 then
         w_impl_ValueDeep_l3 k x3 x7 x8 x9 (x10 ++ [(ix (ix x3 x7) x11).list]) (IntKind.wrap .i64 (x11 + 1))
        else fw)
        (if (x10 ++ [(ix (ix x3 x7) x11).list]).length * 24 ≤ 140737488355328 then
         w_impl_ValueDeep_l3 k x3 x7 (x8 ++ [y1]) x9 (x10 ++ [(ix (ix x3 x7) x11).list]) (IntKind.wrap .i64 (x11 + 1))
        else fw))
       (lk (y1 ∈ x8)
        (if (x10 ++ [(ix (ix x3 x7) x11).list]).length * 24 ≤ 140737488355328 then
         w_impl_ValueDeep_l3 k x3 x7 x8 (x9 ++ [y1]) (x10 ++ [(ix (ix x3 x7) x11).list]) (IntKind.wrap .i64 (x11 + 1))
        else fw)
        (if (x10 ++ [(ix (ix x3 x7) x11).list]).length * 24 ≤ 140737488355328 then
         w_impl_ValueDeep_l3 k x3 x7 (x8 ++ [y1]) (x9 ++ [y1]) (x10 ++ [(ix (ix x3 x7) x11).list]) (IntKind.wrap .i64 (x11 + 1))
        else fw)))
     (tw (pw (Lp.go (decide ((y1.length : Int) = 0)))) fun s5 =>
     if s5 = true then
      w_impl_ValueDeep_l3 k x3 x7 x8 x9 x10 (IntKind.wrap .i64 (x11 + 1))
     else
      lk (y1 ∈ x9)
       (lk (y1 ∈ x8)
        (if (x10 ++ [(ix (ix x3 x7) x11).list]).length * 24 ≤ 140737488355328 then
         w_impl_ValueDeep_l3 k x3 x7 x8 x9 (x10 ++ [(ix (ix x3 x7) x11).list]) (IntKind.wrap .i64 (x11 + 1))
        else fw)
        (if (x10 ++ [(ix (ix x3 x7) x11).list]).length * 24 ≤ 140737488355328 then
         w_impl_ValueDeep_l3 k x3 x7 (x8 ++ [y1]) x9 (x10 ++ [(ix (ix x3 x7) x11).list]) (IntKind.wrap .i64 (x11 + 1))
        else fw))
       (lk (y1 ∈ x8)
        (if (x10 ++ [(ix (ix x3 x7) x11).list]).length * 24 ≤ 140737488355328 then
         w_impl_ValueDeep_l3 k x3 x7 x8 (x9 ++ [y1]) (x10 ++ [(ix (ix x3 x7) x11).list]) (IntKind.wrap .i64 (x11 + 1))
        else fw)
        (if (x10 ++ [(ix (ix x3 x7) x11).list]).length * 24 ≤ 140737488355328 then
         w_impl_ValueDeep_l3 k x3 x7 (x8 ++ [y1]) (x9 ++ [y1]) (x10 ++ [(ix (ix x3 x7) x11).list]) (IntKind.wrap .i64 (x11 + 1))
        else fw)))
   else fw
  else
   pw (Lp.go (x8, x9, x10))
def w_impl_ValueDeep_l2 : Nat → (List (List Val)) → (List (List Val)) → (List (List Val)) → (List (List Val)) → Int → W (Lp ((List (List Val)) × (List (List Val))) (Lp Int Int))
 | 0, _, _, _, _, _ => fw
 | k + 1, x3, x4, x5, x6, x7 =>
  if x7 < (x3.length : Int) then
   if (0 : Int) ≤ x7 ∧ x7 < (x3.length : Int) then
    tw (w_impl_ValueDeep_l3 k x3 x7 x4 x5 x6 0) fun s4 =>
    w_impl_ValueDeep_l2 k x3 s4.1 s4.2.1 s4.2.2 (IntKind.wrap .i64 (x7 + 1))
   else fw
  else
   pw (Lp.go (x4, x6))
def w_impl_ValueDeep_l1 : Nat → Int → (List (List Val)) → (List (List Val)) → W (Lp Int Int)
 | 0, _, _, _ => fw
 | k + 1, x1, x2, x3 =>
  if 0 < (x3.length : Int) then
   if (x2.length : Int) < x1 then
    rtw (pw 2147483647)
   else
    tw (w_impl_ValueDeep_l2 k x3 x2 ([] : List (List Val)) ([] : List (List Val)) 0) fun s3 =>
    w_impl_ValueDeep_l1 k (IntKind.wrap .i64 (x1 + 1)) s3.1 s3.2
  else
   pw (Lp.go x1)
def w_impl_ValueDeep (k : Nat) (a0 : Val) : W Int :=
 tw (if 0 < (a0.list.length : Int) then
   if (([] : List (List Val)) ++ [a0.list]).length * 24 ≤ 140737488355328 then
    cw (m_impl_spanOf a0.list) fun y2 =>
    lk (y2 ∈ ([] : List (List Val)))
     (pw (Lp.go (([] : List (List Val)), ([] : List (List Val)) ++ [a0.list])))
     (pw (Lp.go ((([] : List (List Val)) ++ [y2]), ([] : List (List Val)) ++ [a0.list])))
   else fw
  else
   pw (Lp.go (([] : List (List Val)), ([] : List (List Val))))) fun s1 =>
 tw (w_impl_ValueDeep_l1 k 1 s1.1 s1.2) fun s2 =>
 pw s2
theorem w_impl_ValueDeep_ok (k : Nat) : ∀ (a0 : Val) (r : Int), w_impl_ValueDeep k a0 (fun x => x = r) → Does Try.prog 21 [.agg [.int .i64 a0.kind, .int .i64 a0.num, .str a0.text, .sl true (a0.list.map encVal), .sl false (a0.names.map encS)]] [] (ret (.int .i64 r)) := by
 intro a0 r h
 rw [w_impl_ValueDeep] at h
 refine does_of_good tabOk Try.func21 rfl (by decide +kernel) (Nat.le_of_ble_eq_true rfl) fun c => ?_
 refine Good.le (σ' := ⟨84, [(0, .agg [.int .i64 a0.kind, .int .i64 a0.num, .str a0.text, .sl true (a0.list.map encVal), .sl false (a0.names.map encS)])], []⟩) (Le.refl _) ?_
 refine good_seq fun K1 hK1 => ?_
 refine good_region ?_
 refine g_op rfl (o_box (k := 11) tabOk rfl rfl rfl rfl rfl ?_)
 intro b1
 refine gs 1 ?_
 refine gk hK1 84 [1, 2] [11] ?_
 refine good_seq fun K2 hK2 => ?_
 refine rg 1 ?_
 refine g_nil (hK2 _ ?_)
 refine good_seq fun K3 hK3 => ?_
 refine good_region ?_
 refine g_op rfl (o_makeMap (k := 25) rfl rfl ?_)
 intro w1
 refine gs 1 ?_
 refine gk hK3 84 [1, 2, 3, 4] [11, 25] ?_
 refine good_seq fun K4 hK4 => ?_
 refine good_region ?_
 refine g_op rfl (o_buildSlice (k := 26) (rows := ([] : List (List Val)).map encVs) tabOk telem71 tsize28 rfl rfl rfl rfl (by decide) (by decide) (by rw [tzero28]; rfl) rfl rfl rfl rfl rfl ?_)
 intro w2
 refine gs 1 ?_
 refine gk hK4 84 [1, 2, 3, 4, 5] [11, 25, 26] ?_
 refine good_seq fun K5 hK5 => ?_
 obtain ⟨o1, hJ1, ho1⟩ := twE h
 have hw1 : ∀ (s1 : ((List (List Val)) × (List (List Val)))) (w3 : Value), o1 (Lp.go s1) → ∀ σ', Le σ' ⟨84, [(2, .int .i64 0), (3, .int .i64 1), (4, .hd 25 w1), (5, .hd 5302 w3)], [(25, (w1, .omp 70 (s1.1.map spanK))), (5302, (w3, .osl 28 1 (s1.2.map encVs)))]⟩ → K5 σ' := by
  intro s1 w3 e1 σ' hle1
  refine hK5 _ (Good.le hle1 ?_)
  replace h := hJ1.1 _ e1
  refine good_seq fun K6 hK6 => ?_
  obtain ⟨o2, hJ2, ho2⟩ := twE h
  have hw2 : ∀ (s2 : Int), o2 (Lp.go s2) → ∀ σ', Le σ' ⟨84, [(2, .int .i64 0), (3, .int .i64 s2)], []⟩ → K6 σ' := by
   intro s2 e2 σ' hle2
   refine hK6 _ (Good.le hle2 ?_)
   replace h := hJ2.1 _ e2
   refine good_seq fun K7 hK7 => ?_
   refine rg 2 ?_
   refine gk hK7 84 [2] [] ?_
   obtain rfl := pwE h
   exact rt
  replace h := ho2
  refine good_block ?_
  refine good_loopf (fun p : (Int × (List (List Val)) × (List (List Val)) × Value) => ⟨84, [(2, .int .i64 0), (3, .int .i64 p.1), (4, .hd 25 w1), (5, .hd 6104 p.2.2.2)], [(25, (w1, .omp 70 (p.2.1.map spanK))), (6104, (p.2.2.2, .osl 28 1 (p.2.2.1.map encVs)))]⟩) (fun m p => w_impl_ValueDeep_l1 m p.1 p.2.1 p.2.2.1 o2) k (1, s1.1, s1.2, w3) (lw [some 25, some 5302]) h ?_
  rintro m1 ⟨x1, x2, x3, w4⟩ h
  replace h : w_impl_ValueDeep_l1 m1 x1 x2 x3 o2 := h
  refine Good.le (σ' := ⟨84, [(2, .int .i64 0), (3, .int .i64 x1), (4, .hd 25 w1), (5, .hd 6104 w4)], [(25, (w1, .omp 70 (x2.map spanK))), (6104, (w4, .osl 28 1 (x3.map encVs)))]⟩) (Le.refl _) ?_
  obtain ⟨m1, rfl⟩ : ∃ m', m1 = m' + 1 := by cases m1 with | zero => (rw [w_impl_ValueDeep_l1] at h; exact fwE h) | succ m' => exact ⟨m', rfl⟩
  rw [w_impl_ValueDeep_l1] at h
  refine good_seq fun K8 hK8 => ?_
  refine good_seq fun K9 hK9 => ?_
  refine rg 1 ?_
  refine g_op rfl (ValOk.op (v_lenHM (q := 6104) tabOk ⟨_, rfl⟩ rfl rfl telem71 rfl ?_))
  refine gs 1 ?_
  refine gk hK9 84 [2, 3, 4, 5, 33] [25, 6104] ?_
  refine good_cond rfl (fun hc1 => ?_) (fun hc1 => ?_)
  ·replace h := ifTW h (dT hc1)
   refine good_skip ?_
   refine hK8 _ (kp 84 [2, 3, 4, 5] [25, 6104] ?_)
   refine good_block ?_
   refine good_seq fun K10 hK10 => ?_
   refine good_seq fun K11 hK11 => ?_
   refine rg 2 ?_
   refine g_op rfl (v_lenMapM (q := 25) (f := spanK) ⟨_, rfl⟩ rfl rfl Try.underlying70 rfl ?_)
   refine gs 1 ?_
   refine gk hK11 84 [2, 3, 4, 5, 37] [25, 6104] ?_
   refine good_cond rfl (fun hc2 => ?_) (fun hc2 => ?_)
   ·replace h := ifTW h (dT hc2)
    refine good_seq fun K12 hK12 => ?_
    refine rg 1 ?_
    refine gk hK12 84 [2, 3, 4, 5] [25, 6104] ?_
    refine Good.le (σ' := ⟨84, [(2, .int .i64 2147483647)], []⟩) (lw []) ?_
    refine good_ret ?_
    replace h := unW h hJ2
    obtain rfl := pwE h
    refine thenQ_ret ?_
    refine blockQ_ret ?_
    refine thenQ_ret ?_
    refine blockQ_ret ?_
    refine thenQ_ret ?_
    exact endQ_ret (h' := []) [] (.tmp rfl (.nil)) trivial (by decide) ⟨rfl, rfl⟩
   ·replace h := ifFW h (dF hc2)
    refine good_skip ?_
    refine hK10 _ (kp 84 [2, 3, 4, 5] [25, 6104] ?_)
    refine good_seq fun K13 hK13 => ?_
    refine rg 3 ?_
    refine gk hK13 84 [2, 3, 4, 5] [25, 6104] ?_
    refine good_seq fun K14 hK14 => ?_
    refine good_region ?_
    refine g_op rfl (o_makeMap (k := 50) rfl rfl ?_)
    intro w5
    refine gs 1 ?_
    refine gk hK14 84 [2, 3, 4, 5, 6] [25, 6104, 50] ?_
    refine good_seq fun K15 hK15 => ?_
    refine good_region ?_
    refine g_op rfl (o_buildSlice (k := 51) (rows := ([] : List (List Val)).map encVs) tabOk telem71 tsize28 rfl rfl rfl rfl (by decide) (by decide) (by rw [tzero28]; rfl) rfl rfl rfl rfl rfl ?_)
    intro w6
    refine gs 1 ?_
    refine gk hK15 84 [2, 3, 4, 5, 6, 7] [25, 6104, 50, 51] ?_
    refine good_seq fun K16 hK16 => ?_
    refine good_seq fun K17 hK17 => ?_
    refine rg 1 ?_
    refine g_op rfl (ValOk.op (v_lenHM (q := 6104) tabOk ⟨_, rfl⟩ rfl rfl telem71 rfl ?_))
    refine gs 1 ?_
    refine g_nil (hK17 _ ?_)
    obtain ⟨o3, hJ3, ho3⟩ := twE h
    have hw3 : ∀ (s3 : ((List (List Val)) × (List (List Val)))) (w8 : Value), o3 (Lp.go s3) → ∀ σ', Le σ' ⟨84, [(2, .int .i64 0), (3, .int .i64 (IntKind.wrap .i64 (x1 + 1))), (4, .hd 25 w1), (5, .hd 6104 w4), (7, .hd 6407 w8)], [(25, (w1, .omp 70 (s3.1.map spanK))), (6104, (w4, .osl 28 1 (x3.map encVs))), (6407, (w8, .osl 28 1 (s3.2.map encVs)))]⟩ → K16 σ' := by
     intro s3 w8 e3 σ' hle3
     refine hK16 _ (Good.le hle3 ?_)
     replace h := hJ3.1 _ e3
     refine rg 2 ?_
     refine g_nil ?_
     exact round_mk m1 (IntKind.wrap .i64 (x1 + 1), s3.1, s3.2, w8) (Nat.lt_succ_self _) h (lw [some 25, some 6407])
    replace h := ho3
    refine good_block ?_
    refine good_loopf (fun p : ((List (List Val)) × (List (List Val)) × (List (List Val)) × Int × Value) => ⟨84, [(2, .int .i64 0), (3, .int .i64 (IntKind.wrap .i64 (x1 + 1))), (4, .hd 25 w1), (5, .hd 6104 w4), (6, .hd 50 w5), (7, .hd 6408 p.2.2.2.2), (42, .hd 6104 w4), (43, .int .i64 (x3.length : Int)), (44, .int .i64 p.2.2.2.1)], [(25, (w1, .omp 70 (p.1.map spanK))), (6104, (w4, .osl 28 1 (x3.map encVs))), (50, (w5, .omp 70 (p.2.1.map spanK))), (6408, (p.2.2.2.2, .osl 28 1 (p.2.2.1.map encVs)))]⟩) (fun m p => w_impl_ValueDeep_l2 m x3 p.1 p.2.1 p.2.2.1 p.2.2.2.1 o3) m1 (x2, ([] : List (List Val)), ([] : List (List Val)), 0, w6) (lw [some 25, some 6104, some 50, some 51]) h ?_
    rintro m2 ⟨x4, x5, x6, x7, w7⟩ h
    replace h : w_impl_ValueDeep_l2 m2 x3 x4 x5 x6 x7 o3 := h
    refine Good.le (σ' := ⟨84, [(2, .int .i64 0), (3, .int .i64 (IntKind.wrap .i64 (x1 + 1))), (4, .hd 25 w1), (5, .hd 6104 w4), (6, .hd 50 w5), (7, .hd 6408 w7), (42, .hd 6104 w4), (43, .int .i64 (x3.length : Int)), (44, .int .i64 x7)], [(25, (w1, .omp 70 (x4.map spanK))), (6104, (w4, .osl 28 1 (x3.map encVs))), (50, (w5, .omp 70 (x5.map spanK))), (6408, (w7, .osl 28 1 (x6.map encVs)))]⟩) (Le.refl _) ?_
    obtain ⟨m2, rfl⟩ : ∃ m', m2 = m' + 1 := by cases m2 with | zero => (rw [w_impl_ValueDeep_l2] at h; exact fwE h) | succ m' => exact ⟨m', rfl⟩
    rw [w_impl_ValueDeep_l2] at h
    refine good_seq fun K18 hK18 => ?_
    refine rg 1 ?_
    refine g_nil (hK18 _ ?_)
    refine good_seq fun K19 hK19 => ?_
    refine good_cond rfl (fun hc3 => ?_) (fun hc3 => ?_)
    ·replace h := ifTW h (dT hc3)
     refine good_skip ?_
     refine hK19 _ (kp 84 [2, 3, 4, 5, 6, 7, 42, 43, 44] [25, 6104, 50, 6408] ?_)
     refine good_seq fun K20 hK20 => ?_
     refine good_block ?_
     refine good_seq fun K21 hK21 => ?_
     refine good_region ?_
     obtain ⟨hb1, h⟩ := ifSW h
     refine g_op rfl (ValOk.op (v_idxHM (q := 6104) tabOk ⟨_, rfl⟩ rfl rfl telem71 tsize28 hb1 rfl ?_))
     refine g_op rfl (ValOk.op (v_loadRM tabOk rfl rfl hb1 rfl tsize28 tagg28 rfl rfl rfl rfl ?_))
     refine gs 1 ?_
     refine gk hK21 84 [2, 3, 4, 5, 6, 7, 9, 42, 43, 44] [25, 6104, 50, 6408] ?_
     refine good_seq fun K22 hK22 => ?_
     refine rg 1 ?_
     refine g_op rfl (ValOk.op (v_lenM (l := (ix x3 x7)) (f := encVal) tabOk rfl rfl telem28 rfl ?_))
     refine gs 1 ?_
     refine gk hK22 84 [2, 3, 4, 5, 6, 7, 42, 43, 44, 48, 49, 50] [25, 6104, 50, 6408] ?_
     obtain ⟨o4, hJ4, ho4⟩ := twE h
     have hw4 : ∀ (s4 : ((List (List Val)) × (List (List Val)) × (List (List Val)))) (w10 : Value), o4 (Lp.go s4) → ∀ σ', Le σ' ⟨84, [(2, .int .i64 0), (3, .int .i64 (IntKind.wrap .i64 (x1 + 1))), (4, .hd 25 w1), (5, .hd 6104 w4), (6, .hd 50 w5), (7, .hd 6509 w10), (42, .hd 6104 w4), (43, .int .i64 (x3.length : Int)), (44, .int .i64 x7)], [(25, (w1, .omp 70 (s4.1.map spanK))), (6104, (w4, .osl 28 1 (x3.map encVs))), (50, (w5, .omp 70 (s4.2.1.map spanK))), (6509, (w10, .osl 28 1 (s4.2.2.map encVs)))]⟩ → K20 σ' := by
      intro s4 w10 e4 σ' hle4
      refine hK20 _ (Good.le hle4 ?_)
      replace h := hJ4.1 _ e4
      refine rg 2 ?_
      refine g_nil ?_
      exact round_mk m2 (s4.1, s4.2.1, s4.2.2, IntKind.wrap .i64 (x7 + 1), w10) (Nat.lt_succ_self _) h (lw [some 25, some 6104, some 50, some 6509])
     replace h := ho4
     refine good_block ?_
     refine good_loopf (fun p : ((List (List Val)) × (List (List Val)) × (List (List Val)) × Int × Value) => ⟨84, [(2, .int .i64 0), (3, .int .i64 (IntKind.wrap .i64 (x1 + 1))), (4, .hd 25 w1), (5, .hd 6104 w4), (6, .hd 50 w5), (7, .hd 6510 p.2.2.2.2), (42, .hd 6104 w4), (43, .int .i64 (x3.length : Int)), (44, .int .i64 x7), (48, .sl true ((ix x3 x7).map encVal)), (49, .int .i64 ((ix x3 x7).length : Int)), (50, .int .i64 p.2.2.2.1)], [(25, (w1, .omp 70 (p.1.map spanK))), (6104, (w4, .osl 28 1 (x3.map encVs))), (50, (w5, .omp 70 (p.2.1.map spanK))), (6510, (p.2.2.2.2, .osl 28 1 (p.2.2.1.map encVs)))]⟩) (fun m p => w_impl_ValueDeep_l3 m x3 x7 p.1 p.2.1 p.2.2.1 p.2.2.2.1 o4) m2 (x4, x5, x6, 0, w7) (lw [some 25, some 6104, some 50, some 6408]) h ?_
     rintro m3 ⟨x8, x9, x10, x11, w9⟩ h
     replace h : w_impl_ValueDeep_l3 m3 x3 x7 x8 x9 x10 x11 o4 := h
     refine Good.le (σ' := ⟨84, [(2, .int .i64 0), (3, .int .i64 (IntKind.wrap .i64 (x1 + 1))), (4, .hd 25 w1), (5, .hd 6104 w4), (6, .hd 50 w5), (7, .hd 6510 w9), (42, .hd 6104 w4), (43, .int .i64 (x3.length : Int)), (44, .int .i64 x7), (48, .sl true ((ix x3 x7).map encVal)), (49, .int .i64 ((ix x3 x7).length : Int)), (50, .int .i64 x11)], [(25, (w1, .omp 70 (x8.map spanK))), (6104, (w4, .osl 28 1 (x3.map encVs))), (50, (w5, .omp 70 (x9.map spanK))), (6510, (w9, .osl 28 1 (x10.map encVs)))]⟩) (Le.refl _) ?_
     obtain ⟨m3, rfl⟩ : ∃ m', m3 = m' + 1 := by cases m3 with | zero => (rw [w_impl_ValueDeep_l3] at h; exact fwE h) | succ m' => exact ⟨m', rfl⟩
     rw [w_impl_ValueDeep_l3] at h
     refine good_seq fun K23 hK23 => ?_
     refine rg 1 ?_
     refine g_nil (hK23 _ ?_)
     refine good_seq fun K24 hK24 => ?_
     refine good_cond rfl (fun hc4 => ?_) (fun hc4 => ?_)
     ·replace h := ifTW h (dT hc4)
      refine good_skip ?_
      refine hK24 _ (kp 84 [2, 3, 4, 5, 6, 7, 42, 43, 44, 48, 49, 50] [25, 6104, 50, 6510] ?_)
      refine good_seq fun K25 hK25 => ?_
      refine good_block ?_
      refine good_seq fun K26 hK26 => ?_
      refine good_region ?_
      obtain ⟨hb2, h⟩ := ifSW h
      refine g_op rfl (ValOk.op (v_idxM tabOk rfl rfl telem28 tsize30 hb2 (encVal_eq _) rfl rfl ?_))
      refine gs 1 ?_
      refine g_op rfl (o_alloc (k := 21) tabOk tzero30 rfl rfl ?_)
      intro b2
      refine g_op rfl (o_storeP tabOk (cs' := [.int .i64 ((ix (ix x3 x7) x11).kind), .int .i64 ((ix (ix x3 x7) x11).num), .str ((ix (ix x3 x7) x11).text), .sl true (((ix (ix x3 x7) x11).list).map encVal), .sl false (((ix (ix x3 x7) x11).names).map encS)]) rfl rfl tsize30 rfl rfl rfl (Nat.le_of_ble_eq_true rfl) rfl rfl rfl ?_)
      refine gk hK26 84 [2, 3, 4, 5, 6, 7, 11, 42, 43, 44, 48, 49, 50] [25, 6104, 50, 6510, 21] ?_
      refine good_seq fun K27 hK27 => ?_
      refine rg 2 ?_
      obtain ⟨y1, hy1, h⟩ := cwE h
      refine g_op rfl (o_callR [] [] (core_value rfl rfl) (m_impl_spanOf_ok ((ix (ix x3 x7) x11).list) _ hy1) trivial (.cons (.refl _) (.nil)) (.inl rfl) rfl ?_)
      refine g_op rfl (o_alloc (k := 22) tabOk tzero62 rfl rfl ?_)
      intro b3
      refine g_op rfl (o_storeP tabOk (cs' := [.spt (y1.map encVal), .int .i64 (y1.length : Int)]) rfl rfl tsize62 rfl rfl rfl (Nat.le_of_ble_eq_true rfl) rfl rfl rfl ?_)
      refine gk hK27 84 [2, 3, 4, 5, 6, 7, 11, 12, 42, 43, 44, 48, 49, 50] [25, 6104, 50, 6510, 21, 22] ?_
      refine good_seq fun K28 hK28 => ?_
      refine good_seq fun K29 hK29 => ?_
      refine rg 2 ?_
      obtain ⟨h, hA1⟩ := lkE h
      refine g_op rfl (o_lookup (q := 50) (ks := x9) (x := y1) (f := spanK) Try.underlying70 key_span zero_unit ⟨_, rfl⟩ rfl rfl rfl ?_ (fun hm1 => ?_))
      ·clear hA1
       refine gs 3 ?_
       refine g_op rfl (o_alloc (k := 23) tabOk tzero66 rfl rfl ?_)
       intro b4
       refine g_op rfl (o_storeP tabOk (cs' := []) rfl rfl tsize66 rfl rfl rfl (Nat.le_of_ble_eq_true rfl) rfl rfl rfl ?_)
       refine gs 1 ?_
       refine gk hK29 84 [2, 3, 4, 5, 6, 7, 11, 12, 14, 42, 43, 44, 48, 49, 50] [25, 6104, 50, 6510, 21, 22] ?_
       refine good_seq fun K30 hK30 => ?_
       obtain ⟨o5, hJ5, ho5⟩ := twE h
       have hw5 : ∀ (s5 : Bool), o5 (Lp.go s5) → ∀ σ', Le σ' ⟨84, [(2, .int .i64 0), (3, .int .i64 (IntKind.wrap .i64 (x1 + 1))), (4, .hd 25 w1), (5, .hd 6104 w4), (6, .hd 50 w5), (7, .hd 6510 w9), (11, .ptr 21 b2 0), (12, .ptr 22 b3 0), (42, .hd 6104 w4), (43, .int .i64 (x3.length : Int)), (44, .int .i64 x7), (48, .sl true ((ix x3 x7).map encVal)), (49, .int .i64 ((ix x3 x7).length : Int)), (50, .int .i64 x11), (68, .bool s5)], [(25, (w1, .omp 70 (x8.map spanK))), (6104, (w4, .osl 28 1 (x3.map encVs))), (50, (w5, .omp 70 (x9.map spanK))), (6510, (w9, .osl 28 1 (x10.map encVs))), (21, ((.pointer (some ⟨b2, 0, none⟩)), .optr 30 [.int .i64 ((ix (ix x3 x7) x11).kind), .int .i64 ((ix (ix x3 x7) x11).num), .str ((ix (ix x3 x7) x11).text), .sl true (((ix (ix x3 x7) x11).list).map encVal), .sl false (((ix (ix x3 x7) x11).names).map encS)])), (22, ((.pointer (some ⟨b3, 0, none⟩)), .optr 62 [.spt (y1.map encVal), .int .i64 (y1.length : Int)]))]⟩ → K30 σ' := by
        intro s5 e5 σ' hle5
        refine hK30 _ (Good.le hle5 ?_)
        replace h := hJ5.1 _ e5
        refine good_cond rfl (fun hc5 => ?_) (fun hc5 => ?_)
        ·replace h := ifTW h hc5
         refine good_exit ?_
         refine hK25 _ (kp 84 [2, 3, 4, 5, 6, 7, 42, 43, 44, 48, 49, 50] [25, 6104, 50, 6510] ?_)
         refine rg 2 ?_
         refine g_nil ?_
         exact round_mk m3 (x8, x9, x10, IntKind.wrap .i64 (x11 + 1), w9) (Nat.lt_succ_self _) h (lw [some 25, some 6104, some 50, some 6510])
        ·replace h := bFW h hc5
         refine good_skip ?_
         refine hK28 _ (kp 84 [2, 3, 4, 5, 6, 7, 11, 12, 42, 43, 44, 48, 49, 50] [25, 6104, 50, 6510, 21, 22] ?_)
         refine good_seq fun K31 hK31 => ?_
         refine rg 2 ?_
         refine g_op rfl (ValOk.op (v_build tabOk (cs := []) tzero66 tsok66 rfl rfl rfl ?_))
         obtain ⟨h, hA2⟩ := lkE h
         refine g_op rfl (o_mapUpdate (q := 50) (k := 50) (ks := x9) (x := y1) (f := spanK) Try.underlying70 key_span ⟨_, rfl⟩ rfl rfl rfl rfl rfl ?_ (fun hm2 => ?_))
         ·clear hA2
          refine gk hK31 84 [2, 3, 4, 5, 6, 7, 11, 12, 42, 43, 44, 48, 49, 50] [25, 6104, 50, 6510, 21, 22] ?_
          refine good_seq fun K32 hK32 => ?_
          refine rg 2 ?_
          refine g_op rfl (ValOk.op (v_build tabOk (cs := []) tzero66 tsok66 rfl rfl rfl ?_))
          obtain ⟨h, hA3⟩ := lkE h
          refine g_op rfl (o_mapUpdate (q := 25) (k := 25) (ks := x8) (x := y1) (f := spanK) Try.underlying70 key_span ⟨_, rfl⟩ rfl rfl rfl rfl rfl ?_ (fun hm3 => ?_))
          ·clear hA3
           refine gk hK32 84 [2, 3, 4, 5, 6, 7, 11, 42, 43, 44, 48, 49, 50] [25, 6104, 50, 6510, 21] ?_
           refine rg 3 ?_
           refine g_op rfl (o_buildSlice (k := 88) (rows := [(ix (ix x3 x7) x11).list].map encVs) tabOk telem71 tsize28 rfl rfl rfl rfl (by decide) (by decide) (by rw [tzero28]; rfl) rfl rfl rfl rfl rfl ?_)
           intro w11
           obtain ⟨hb3, h⟩ := ifSW h
           refine g_op rfl (o_appendHM (q := 6510) (r := 88) (k := 89) (f := encVs) tabOk ⟨_, rfl⟩ rfl ⟨_, rfl⟩ rfl rfl telem71 tsize28 tbytes28 tzero28 rfl (by decide) (by decide) encVs_ok rfl rfl rfl hb3 ?_)
           intro w12
           refine gs 1 ?_
           refine gk hK25 84 [2, 3, 4, 5, 6, 7, 42, 43, 44, 48, 49, 50] [25, 6104, 50, 89] ?_
           refine rg 2 ?_
           refine g_nil ?_
           exact round_mk m3 ((x8 ++ [y1]), (x9 ++ [y1]), x10 ++ [(ix (ix x3 x7) x11).list], IntKind.wrap .i64 (x11 + 1), w12) (Nat.lt_succ_self _) h (lw [some 25, some 6104, some 50, some 89])
          ·replace h := hA3 hm3
           refine gk hK32 84 [2, 3, 4, 5, 6, 7, 11, 42, 43, 44, 48, 49, 50] [25, 6104, 50, 6510, 21] ?_
           refine rg 3 ?_
           refine g_op rfl (o_buildSlice (k := 88) (rows := [(ix (ix x3 x7) x11).list].map encVs) tabOk telem71 tsize28 rfl rfl rfl rfl (by decide) (by decide) (by rw [tzero28]; rfl) rfl rfl rfl rfl rfl ?_)
           intro w13
           obtain ⟨hb4, h⟩ := ifSW h
           refine g_op rfl (o_appendHM (q := 6510) (r := 88) (k := 89) (f := encVs) tabOk ⟨_, rfl⟩ rfl ⟨_, rfl⟩ rfl rfl telem71 tsize28 tbytes28 tzero28 rfl (by decide) (by decide) encVs_ok rfl rfl rfl hb4 ?_)
           intro w14
           refine gs 1 ?_
           refine gk hK25 84 [2, 3, 4, 5, 6, 7, 42, 43, 44, 48, 49, 50] [25, 6104, 50, 89] ?_
           refine rg 2 ?_
           refine g_nil ?_
           exact round_mk m3 (x8, (x9 ++ [y1]), x10 ++ [(ix (ix x3 x7) x11).list], IntKind.wrap .i64 (x11 + 1), w14) (Nat.lt_succ_self _) h (lw [some 25, some 6104, some 50, some 89])
         ·replace h := hA2 hm2
          refine gk hK31 84 [2, 3, 4, 5, 6, 7, 11, 12, 42, 43, 44, 48, 49, 50] [25, 6104, 50, 6510, 21, 22] ?_
          refine good_seq fun K33 hK33 => ?_
          refine rg 2 ?_
          refine g_op rfl (ValOk.op (v_build tabOk (cs := []) tzero66 tsok66 rfl rfl rfl ?_))
          obtain ⟨h, hA4⟩ := lkE h
          refine g_op rfl (o_mapUpdate (q := 25) (k := 25) (ks := x8) (x := y1) (f := spanK) Try.underlying70 key_span ⟨_, rfl⟩ rfl rfl rfl rfl rfl ?_ (fun hm4 => ?_))
          ·clear hA4
           refine gk hK33 84 [2, 3, 4, 5, 6, 7, 11, 42, 43, 44, 48, 49, 50] [25, 6104, 50, 6510, 21] ?_
           refine rg 3 ?_
           refine g_op rfl (o_buildSlice (k := 88) (rows := [(ix (ix x3 x7) x11).list].map encVs) tabOk telem71 tsize28 rfl rfl rfl rfl (by decide) (by decide) (by rw [tzero28]; rfl) rfl rfl rfl rfl rfl ?_)
           intro w15
           obtain ⟨hb5, h⟩ := ifSW h
           refine g_op rfl (o_appendHM (q := 6510) (r := 88) (k := 89) (f := encVs) tabOk ⟨_, rfl⟩ rfl ⟨_, rfl⟩ rfl rfl telem71 tsize28 tbytes28 tzero28 rfl (by decide) (by decide) encVs_ok rfl rfl rfl hb5 ?_)
           intro w16
           refine gs 1 ?_
           refine gk hK25 84 [2, 3, 4, 5, 6, 7, 42, 43, 44, 48, 49, 50] [25, 6104, 50, 89] ?_
           refine rg 2 ?_
           refine g_nil ?_
           exact round_mk m3 ((x8 ++ [y1]), x9, x10 ++ [(ix (ix x3 x7) x11).list], IntKind.wrap .i64 (x11 + 1), w16) (Nat.lt_succ_self _) h (lw [some 25, some 6104, some 50, some 89])
          ·replace h := hA4 hm4
           refine gk hK33 84 [2, 3, 4, 5, 6, 7, 11, 42, 43, 44, 48, 49, 50] [25, 6104, 50, 6510, 21] ?_
           refine rg 3 ?_
           refine g_op rfl (o_buildSlice (k := 88) (rows := [(ix (ix x3 x7) x11).list].map encVs) tabOk telem71 tsize28 rfl rfl rfl rfl (by decide) (by decide) (by rw [tzero28]; rfl) rfl rfl rfl rfl rfl ?_)
           intro w17
           obtain ⟨hb6, h⟩ := ifSW h
           refine g_op rfl (o_appendHM (q := 6510) (r := 88) (k := 89) (f := encVs) tabOk ⟨_, rfl⟩ rfl ⟨_, rfl⟩ rfl rfl telem71 tsize28 tbytes28 tzero28 rfl (by decide) (by decide) encVs_ok rfl rfl rfl hb6 ?_)
           intro w18
           refine gs 1 ?_
           refine gk hK25 84 [2, 3, 4, 5, 6, 7, 42, 43, 44, 48, 49, 50] [25, 6104, 50, 89] ?_
           refine rg 2 ?_
           refine g_nil ?_
           exact round_mk m3 (x8, x9, x10 ++ [(ix (ix x3 x7) x11).list], IntKind.wrap .i64 (x11 + 1), w18) (Nat.lt_succ_self _) h (lw [some 25, some 6104, some 50, some 89])
       replace h := ho5
       refine rg 6 ?_
       refine g_nil ?_
       exact hw5 (decide ((y1.length : Int) = 0)) h _ (lw [some 25, some 6104, some 50, some 6510, some 21, some 22])
      ·replace h := hA1 hm1
       refine gs 3 ?_
       refine g_op rfl (o_alloc (k := 23) tabOk tzero66 rfl rfl ?_)
       intro b5
       refine g_op rfl (o_storeP tabOk (cs' := []) rfl rfl tsize66 rfl rfl rfl (Nat.le_of_ble_eq_true rfl) rfl rfl rfl ?_)
       refine gs 1 ?_
       refine gk hK29 84 [2, 3, 4, 5, 6, 7, 11, 12, 14, 42, 43, 44, 48, 49, 50] [25, 6104, 50, 6510, 21, 22] ?_
       refine good_seq fun K34 hK34 => ?_
       obtain ⟨o6, hJ6, ho6⟩ := twE h
       have hw6 : ∀ (s6 : Bool), o6 (Lp.go s6) → ∀ σ', Le σ' ⟨84, [(2, .int .i64 0), (3, .int .i64 (IntKind.wrap .i64 (x1 + 1))), (4, .hd 25 w1), (5, .hd 6104 w4), (6, .hd 50 w5), (7, .hd 6510 w9), (11, .ptr 21 b2 0), (12, .ptr 22 b3 0), (42, .hd 6104 w4), (43, .int .i64 (x3.length : Int)), (44, .int .i64 x7), (48, .sl true ((ix x3 x7).map encVal)), (49, .int .i64 ((ix x3 x7).length : Int)), (50, .int .i64 x11), (68, .bool s6)], [(25, (w1, .omp 70 (x8.map spanK))), (6104, (w4, .osl 28 1 (x3.map encVs))), (50, (w5, .omp 70 (x9.map spanK))), (6510, (w9, .osl 28 1 (x10.map encVs))), (21, ((.pointer (some ⟨b2, 0, none⟩)), .optr 30 [.int .i64 ((ix (ix x3 x7) x11).kind), .int .i64 ((ix (ix x3 x7) x11).num), .str ((ix (ix x3 x7) x11).text), .sl true (((ix (ix x3 x7) x11).list).map encVal), .sl false (((ix (ix x3 x7) x11).names).map encS)])), (22, ((.pointer (some ⟨b3, 0, none⟩)), .optr 62 [.spt (y1.map encVal), .int .i64 (y1.length : Int)]))]⟩ → K34 σ' := by
        intro s6 e6 σ' hle6
        refine hK34 _ (Good.le hle6 ?_)
        replace h := hJ6.1 _ e6
        refine good_cond rfl (fun hc6 => ?_) (fun hc6 => ?_)
        ·replace h := ifTW h hc6
         refine good_exit ?_
         refine hK25 _ (kp 84 [2, 3, 4, 5, 6, 7, 42, 43, 44, 48, 49, 50] [25, 6104, 50, 6510] ?_)
         refine rg 2 ?_
         refine g_nil ?_
         exact round_mk m3 (x8, x9, x10, IntKind.wrap .i64 (x11 + 1), w9) (Nat.lt_succ_self _) h (lw [some 25, some 6104, some 50, some 6510])
        ·replace h := bFW h hc6
         refine good_skip ?_
         refine hK28 _ (kp 84 [2, 3, 4, 5, 6, 7, 11, 12, 42, 43, 44, 48, 49, 50] [25, 6104, 50, 6510, 21, 22] ?_)
         refine good_seq fun K35 hK35 => ?_
         refine rg 2 ?_
         refine g_op rfl (ValOk.op (v_build tabOk (cs := []) tzero66 tsok66 rfl rfl rfl ?_))
         obtain ⟨h, hA5⟩ := lkE h
         refine g_op rfl (o_mapUpdate (q := 50) (k := 50) (ks := x9) (x := y1) (f := spanK) Try.underlying70 key_span ⟨_, rfl⟩ rfl rfl rfl rfl rfl ?_ (fun hm5 => ?_))
         ·clear hA5
          refine gk hK35 84 [2, 3, 4, 5, 6, 7, 11, 12, 42, 43, 44, 48, 49, 50] [25, 6104, 50, 6510, 21, 22] ?_
          refine good_seq fun K36 hK36 => ?_
          refine rg 2 ?_
          refine g_op rfl (ValOk.op (v_build tabOk (cs := []) tzero66 tsok66 rfl rfl rfl ?_))
          obtain ⟨h, hA6⟩ := lkE h
          refine g_op rfl (o_mapUpdate (q := 25) (k := 25) (ks := x8) (x := y1) (f := spanK) Try.underlying70 key_span ⟨_, rfl⟩ rfl rfl rfl rfl rfl ?_ (fun hm6 => ?_))
          ·clear hA6
           refine gk hK36 84 [2, 3, 4, 5, 6, 7, 11, 42, 43, 44, 48, 49, 50] [25, 6104, 50, 6510, 21] ?_
           refine rg 3 ?_
           refine g_op rfl (o_buildSlice (k := 88) (rows := [(ix (ix x3 x7) x11).list].map encVs) tabOk telem71 tsize28 rfl rfl rfl rfl (by decide) (by decide) (by rw [tzero28]; rfl) rfl rfl rfl rfl rfl ?_)
           intro w19
           obtain ⟨hb7, h⟩ := ifSW h
           refine g_op rfl (o_appendHM (q := 6510) (r := 88) (k := 89) (f := encVs) tabOk ⟨_, rfl⟩ rfl ⟨_, rfl⟩ rfl rfl telem71 tsize28 tbytes28 tzero28 rfl (by decide) (by decide) encVs_ok rfl rfl rfl hb7 ?_)
           intro w20
           refine gs 1 ?_
           refine gk hK25 84 [2, 3, 4, 5, 6, 7, 42, 43, 44, 48, 49, 50] [25, 6104, 50, 89] ?_
           refine rg 2 ?_
           refine g_nil ?_
           exact round_mk m3 ((x8 ++ [y1]), (x9 ++ [y1]), x10 ++ [(ix (ix x3 x7) x11).list], IntKind.wrap .i64 (x11 + 1), w20) (Nat.lt_succ_self _) h (lw [some 25, some 6104, some 50, some 89])
          ·replace h := hA6 hm6
           refine gk hK36 84 [2, 3, 4, 5, 6, 7, 11, 42, 43, 44, 48, 49, 50] [25, 6104, 50, 6510, 21] ?_
           refine rg 3 ?_
           refine g_op rfl (o_buildSlice (k := 88) (rows := [(ix (ix x3 x7) x11).list].map encVs) tabOk telem71 tsize28 rfl rfl rfl rfl (by decide) (by decide) (by rw [tzero28]; rfl) rfl rfl rfl rfl rfl ?_)
           intro w21
           obtain ⟨hb8, h⟩ := ifSW h
           refine g_op rfl (o_appendHM (q := 6510) (r := 88) (k := 89) (f := encVs) tabOk ⟨_, rfl⟩ rfl ⟨_, rfl⟩ rfl rfl telem71 tsize28 tbytes28 tzero28 rfl (by decide) (by decide) encVs_ok rfl rfl rfl hb8 ?_)
           intro w22
           refine gs 1 ?_
           refine gk hK25 84 [2, 3, 4, 5, 6, 7, 42, 43, 44, 48, 49, 50] [25, 6104, 50, 89] ?_
           refine rg 2 ?_
           refine g_nil ?_
           exact round_mk m3 (x8, (x9 ++ [y1]), x10 ++ [(ix (ix x3 x7) x11).list], IntKind.wrap .i64 (x11 + 1), w22) (Nat.lt_succ_self _) h (lw [some 25, some 6104, some 50, some 89])
         ·replace h := hA5 hm5
          refine gk hK35 84 [2, 3, 4, 5, 6, 7, 11, 12, 42, 43, 44, 48, 49, 50] [25, 6104, 50, 6510, 21, 22] ?_
          refine good_seq fun K37 hK37 => ?_
          refine rg 2 ?_
          refine g_op rfl (ValOk.op (v_build tabOk (cs := []) tzero66 tsok66 rfl rfl rfl ?_))
          obtain ⟨h, hA7⟩ := lkE h
          refine g_op rfl (o_mapUpdate (q := 25) (k := 25) (ks := x8) (x := y1) (f := spanK) Try.underlying70 key_span ⟨_, rfl⟩ rfl rfl rfl rfl rfl ?_ (fun hm7 => ?_))
          ·clear hA7
           refine gk hK37 84 [2, 3, 4, 5, 6, 7, 11, 42, 43, 44, 48, 49, 50] [25, 6104, 50, 6510, 21] ?_
           refine rg 3 ?_
           refine g_op rfl (o_buildSlice (k := 88) (rows := [(ix (ix x3 x7) x11).list].map encVs) tabOk telem71 tsize28 rfl rfl rfl rfl (by decide) (by decide) (by rw [tzero28]; rfl) rfl rfl rfl rfl rfl ?_)
           intro w23
           obtain ⟨hb9, h⟩ := ifSW h
           refine g_op rfl (o_appendHM (q := 6510) (r := 88) (k := 89) (f := encVs) tabOk ⟨_, rfl⟩ rfl ⟨_, rfl⟩ rfl rfl telem71 tsize28 tbytes28 tzero28 rfl (by decide) (by decide) encVs_ok rfl rfl rfl hb9 ?_)
           intro w24
           refine gs 1 ?_
           refine gk hK25 84 [2, 3, 4, 5, 6, 7, 42, 43, 44, 48, 49, 50] [25, 6104, 50, 89] ?_
           refine rg 2 ?_
           refine g_nil ?_
           exact round_mk m3 ((x8 ++ [y1]), x9, x10 ++ [(ix (ix x3 x7) x11).list], IntKind.wrap .i64 (x11 + 1), w24) (Nat.lt_succ_self _) h (lw [some 25, some 6104, some 50, some 89])
          ·replace h := hA7 hm7
           refine gk hK37 84 [2, 3, 4, 5, 6, 7, 11, 42, 43, 44, 48, 49, 50] [25, 6104, 50, 6510, 21] ?_
           refine rg 3 ?_
           refine g_op rfl (o_buildSlice (k := 88) (rows := [(ix (ix x3 x7) x11).list].map encVs) tabOk telem71 tsize28 rfl rfl rfl rfl (by decide) (by decide) (by rw [tzero28]; rfl) rfl rfl rfl rfl rfl ?_)
           intro w25
           obtain ⟨hb10, h⟩ := ifSW h
           refine g_op rfl (o_appendHM (q := 6510) (r := 88) (k := 89) (f := encVs) tabOk ⟨_, rfl⟩ rfl ⟨_, rfl⟩ rfl rfl telem71 tsize28 tbytes28 tzero28 rfl (by decide) (by decide) encVs_ok rfl rfl rfl hb10 ?_)
           intro w26
           refine gs 1 ?_
           refine gk hK25 84 [2, 3, 4, 5, 6, 7, 42, 43, 44, 48, 49, 50] [25, 6104, 50, 89] ?_
           refine rg 2 ?_
           refine g_nil ?_
           exact round_mk m3 (x8, x9, x10 ++ [(ix (ix x3 x7) x11).list], IntKind.wrap .i64 (x11 + 1), w26) (Nat.lt_succ_self _) h (lw [some 25, some 6104, some 50, some 89])
       replace h := ho6
       refine rg 6 ?_
       refine g_nil ?_
       exact hw6 true h _ (lw [some 25, some 6104, some 50, some 6510, some 21, some 22])
     ·replace h := ifFW h (dF hc4)
      refine good_exit ?_
      exact hw4 (x8, x9, x10) w9 h _ (lw [some 25, some 6104, some 50, some 6510])
    ·replace h := ifFW h (dF hc3)
     refine good_exit ?_
     exact hw3 (x4, x6) w7 h _ (lw [some 25, some 6104, some 6408])
  ·replace h := ifFW h (dF hc1)
   refine good_exit ?_
   exact hw2 x1 h _ (lw [])
 replace h := ho1
 refine good_seq fun K38 hK38 => ?_
 refine rg 2 ?_
 refine g_op rfl (ValOk.op (v_lenM (l := a0.list) (f := encVal) tabOk rfl rfl telem28 rfl ?_))
 refine gs 1 ?_
 refine gk hK38 84 [1, 2, 3, 4, 5, 20] [11, 25, 26] ?_
 refine good_cond rfl (fun hc7 => ?_) (fun hc7 => ?_)
 ·replace h := ifTW h (dT hc7)
  refine good_seq fun K39 hK39 => ?_
  refine rg 3 ?_
  refine g_op rfl (o_buildSlice (k := 34) (rows := [a0.list].map encVs) tabOk telem71 tsize28 rfl rfl rfl rfl (by decide) (by decide) (by rw [tzero28]; rfl) rfl rfl rfl rfl rfl ?_)
  intro w27
  obtain ⟨hb11, h⟩ := ifSW h
  refine g_op rfl (o_appendHM (q := 26) (r := 34) (k := 35) (f := encVs) tabOk ⟨_, rfl⟩ rfl ⟨_, rfl⟩ rfl rfl telem71 tsize28 tbytes28 tzero28 rfl (by decide) (by decide) encVs_ok rfl rfl rfl hb11 ?_)
  intro w28
  refine gs 1 ?_
  refine gk hK39 84 [1, 2, 3, 4, 5] [11, 25, 35] ?_
  refine rg 3 ?_
  obtain ⟨y2, hy2, h⟩ := cwE h
  refine g_op rfl (o_callR [] [] (core_value rfl rfl) (m_impl_spanOf_ok a0.list _ hy2) trivial (.cons (.refl _) (.nil)) (.inl rfl) rfl ?_)
  refine g_op rfl (ValOk.op (v_build tabOk (cs := []) tzero66 tsok66 rfl rfl rfl ?_))
  obtain ⟨h, hA8⟩ := lkE h
  refine g_op rfl (o_mapUpdate (q := 25) (k := 25) (ks := ([] : List (List Val))) (x := y2) (f := spanK) Try.underlying70 key_span ⟨_, rfl⟩ rfl rfl rfl rfl rfl ?_ (fun hm8 => ?_))
  ·clear hA8
   refine g_nil ?_
   exact hw1 ((([] : List (List Val)) ++ [y2]), ([] : List (List Val)) ++ [a0.list]) w28 h _ (lw [some 25, some 35])
  ·replace h := hA8 hm8
   refine g_nil ?_
   exact hw1 (([] : List (List Val)), ([] : List (List Val)) ++ [a0.list]) w28 h _ (lw [some 25, some 35])
 ·replace h := ifFW h (dF hc7)
  refine good_skip ?_
  exact hw1 (([] : List (List Val)), ([] : List (List Val))) w2 h _ (lw [some 25, some 26])
end Go.Proofs.Ytiaigcdckmpepaa
end
end
