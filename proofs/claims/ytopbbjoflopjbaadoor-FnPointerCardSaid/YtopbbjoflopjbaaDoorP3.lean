/- Paths read from texts: the program and the reference; the conditions stand in each theorem. -/
import Derived.Test.YtopbbjoflopjbaaDoorP2
import Derived.Test.YtopbbjoflopjbaaDoorGpi
/-! Paths read. -/
set_option linter.unusedVariables false
set_option linter.unusedSimpArgs false
set_option linter.unnecessarySimpa false
namespace Go.Proofs.YtopbbjoflopjbaaDoor
open Go.Bb

theorem byt_mid (pre r : Bs) (b : UInt8) : byt (pre ++ b :: r) (pre.length : Int) = (b.toNat : Int) := by
  rw [byt_nat (by simp)]; simp
theorem byt_mid1 (pre r : Bs) (b c : UInt8) : byt (pre ++ b :: c :: r) ((pre.length : Int) + 1) = (c.toNat : Int) := by
  have := byt_mid (pre ++ [b]) r c
  simpa using this
theorem nat_eq (b c : UInt8) : ((b.toNat : Int) = (c.toNat : Int)) ↔ b = c := by
  constructor
  · intro h; exact UInt8.toNat_inj.1 (by omega)
  · intro h; rw [h]
theorem toI_cons (b : UInt8) (w : Bs) : toI (b :: w) = (b.toNat : Int) :: toI w := rfl

/-! A step -/
def stepO (x : List Int) : Option Bs → Lp (List Int) (Bs × Bool)
  | some w => .go (x ++ toI w)
  | none => .ret ([], false)
theorem stepO_map (x : List Int) (c : UInt8) (o : Option Bs) : stepO x (o.map (c :: ·)) = stepO (x ++ [(c.toNat : Int)]) o := by
  cases o with
  | none => rfl
  | some w => simp [stepO, toI_cons]
theorem ev_step : ∀ (n : Nat) (rest pre : Bs) (x : List Int), rest.length ≤ n → pre.length + rest.length ≤ 1048576 → x.length ≤ pre.length → Ev (fun k => m_impl_stepGet_l1 k (pre ++ rest) x pre.length) (stepO x (unesc rest))
  | n, [], pre, x, hn, hl, hx => by
    rw [ev_shift]; simp only [m_impl_stepGet_l1]
    exact ev_ifF (by simp) (ev_eq (ev_some _) (by rw [unesc_nil]; simp [stepO, toI]))
  | 0, b :: r, pre, x, hn, hl, hx => by simp at hn
  | n + 1, b :: r, pre, x, hn, hl, hx => by
    simp only [List.length_cons] at hn hl
    rw [ev_shift]; simp only [m_impl_stepGet_l1]
    rw [wrap_id (n := (pre.length : Int) + 1) (by omega), wrap_id (n := (pre.length : Int) + 1 + 1) (by omega), byt_mid]
    have hlen : ((pre ++ b :: r).length : Int) = pre.length + 1 + r.length := by simp; omega
    rw [hlen]
    refine ev_ifT (by omega) (ev_ifT (by omega) ?_)
    by_cases hb : b = 126
    · subst hb
      refine ev_ifT rfl ?_
      cases r with
      | nil =>
        refine Ev.go (s := false) (ev_ifF (by simp) (ev_some _)) (ev_ifF (by simp) (Ev.go (s := false) (ev_ifF (by simp) (ev_some _)) (ev_ifF (by simp) (ev_eq (ev_some _) ?_))))
        rw [unesc_one, if_pos rfl]; rfl
      | cons c r =>
        simp only [List.length_cons] at hn hl
        simp only [byt_mid1]
        have hr : (pre.length : Int) + 1 < pre.length + 1 + ((c :: r).length : Int) := by simp only [List.length_cons]; omega
        have hr0 : (0 : Int) ≤ (pre.length : Int) + 1 := by omega
        by_cases h0 : c = 48
        · subst h0
          refine Ev.go (s := true) (ev_ifT hr (ev_ifT ⟨hr0, hr⟩ (ev_eq (ev_some _) rfl))) (ev_ifT rfl (ev_ifT (by simp; omega) ?_))
          have := ev_step n r (pre ++ [126, 48]) (x ++ [126]) (by omega) (by simp; omega) (by simp; omega)
          rw [unesc_0, stepO_map]
          simpa [Int.add_assoc] using this
        · have h0' : ¬ ((c.toNat : Int) = 48) := fun e => h0 ((nat_eq c 48).1 e)
          refine Ev.go (s := false) (ev_ifT hr (ev_ifT ⟨hr0, hr⟩ (ev_eq (ev_some _) (by simp [h0'])))) (ev_ifF (by simp) ?_)
          by_cases h1 : c = 49
          · subst h1
            refine Ev.go (s := true) (ev_ifT hr (ev_ifT ⟨hr0, hr⟩ (ev_eq (ev_some _) rfl))) (ev_ifT rfl (ev_ifT (by simp; omega) ?_))
            have := ev_step n r (pre ++ [126, 49]) (x ++ [47]) (by omega) (by simp; omega) (by simp; omega)
            rw [unesc_1, stepO_map]
            simpa [Int.add_assoc] using this
          · have h1' : ¬ ((c.toNat : Int) = 49) := fun e => h1 ((nat_eq c 49).1 e)
            refine Ev.go (s := false) (ev_ifT hr (ev_ifT ⟨hr0, hr⟩ (ev_eq (ev_some _) (by simp [h1'])))) (ev_ifF (by simp) (ev_eq (ev_some _) ?_))
            rw [unesc_x h0 h1]; rfl
    · have hb' : ¬ ((b.toNat : Int) = 126) := fun e => hb ((nat_eq b 126).1 e)
      refine ev_ifF hb' (ev_ifT (by omega) (ev_ifT (by simp; omega) ?_))
      have := ev_step n r (pre ++ [b]) (x ++ [(b.toNat : Int)]) (by omega) (by simp; omega) (by simp; omega)
      rw [unesc_ne hb, stepO_map]
      simpa using this
def okOr (o : Option Bs) : Bs × Bool := match o with | some w => (w, true) | none => ([], false)
theorem ev_stepGet (s : Bs) (hs : s.length ≤ 1048576) : Ev (fun k => m_impl_stepGet k s) (okOr (unesc s)) := by
  have := ev_step s.length s [] [] (Nat.le_refl _) (by simpa using hs) (Nat.le_refl _)
  simp only [m_impl_stepGet]
  cases h : unesc s with
  | none =>
    rw [h] at this
    exact Ev.ret (by simpa [stepO, okOr] using this)
  | some w =>
    rw [h] at this
    exact Ev.go (s := toI w) (by simpa [stepO] using this) (ev_eq (ev_some _) (by rw [ofI_toI]; rfl))

/-! The parts -/
theorem hit : ∀ (s : Bs) (c : Nat), Lib.countByte s 47 = c + 1 → ∃ m : Nat, Lib.indexByte s 47 = m ∧ m < s.length ∧ spl s = s.take m :: spl (s.drop (m + 1)) ∧ Lib.countByte (s.drop (m + 1)) 47 = c
  | [], c, h => by simp [Lib.countByte] at h
  | b :: r, c, h => by
    by_cases hb : b = 47
    · subst hb
      refine ⟨0, by simp [Lib.indexByte], by simp, by rw [spl_slash]; rfl, ?_⟩
      simp only [Lib.countByte, List.count_cons_self] at h
      simpa [Lib.countByte] using h
    · have h' : Lib.countByte r 47 = c + 1 := by
        unfold Lib.countByte at h ⊢
        rwa [List.count_cons_of_ne hb] at h
      obtain ⟨m, h1, h2, h3, h4⟩ := hit r c h'
      refine ⟨m + 1, ?_, by simp; omega, ?_, by simpa using h4⟩
      · rw [Lib.indexByte, h1]
        have e1 : (b == 47) = false := by simpa using hb
        have e2 : ((m : Int) == -1) = false := beq_eq_false_iff_ne.2 (by omega)
        rw [e1, e2]
        try rfl
      · rw [spl_other hb h3]; rfl
theorem miss : ∀ s : Bs, Lib.countByte s 47 = 0 → spl s = [s]
  | s, h => spl_one s fun x hx e => by
      subst e
      have := List.count_pos_iff.2 hx
      unfold Lib.countByte at h; omega
theorem count_le (s : Bs) : Lib.countByte s 47 ≤ s.length := List.count_le_length
theorem ev_index (s : Bs) : Ev (fun k => m_strings_Index k s [47]) (Lib.indexByte s 47) := by
  simp only [m_strings_Index, m_internal_stringslite_Index, m_internal_stringslite_IndexByte]
  refine Ev.bind (Ev.go (s := decide ([47] = s)) (ev_ifF (by simp) (ev_some _)) (ev_ite (fun h => ev_eq (ev_some _) ?_) (fun h => ev_ifT (by simp) (ev_ifT (by simp) (ev_eq (ev_some _) rfl))))) (ev_some _)
  have : s = [47] := by simpa using (of_decide_eq_true h).symm
  subst this; rfl

theorem ev_splitL (s : Bs) (c0 : Nat) (hc0 : c0 ≤ s.length) (hs : s.length ≤ 1048576) : ∀ (c : Nat) (x : Bs) (done : List Bs), Lib.countByte x 47 = c → done.length + c = c0 → x.length ≤ 1048576 →
    ∃ last done', Ev (fun k => m_strings_genSplit_l1 k s [47] 0 ((c0 : Int) + 1) x (done ++ List.replicate (c + 1) []) done.length) (.go (last, done' ++ [[]], (done'.length : Int))) ∧ done' ++ [last] = done ++ spl x ∧ done'.length ≤ c0
  | 0, x, done, hx, hd, hl => by
    refine ⟨x, done, ?_, by rw [miss x hx], by omega⟩
    rw [ev_shift]; simp only [m_strings_genSplit_l1]
    rw [wrap_id (n := (s.length : Int) + 1) (by omega), if_neg (by omega), wrap_id (n := (c0 : Int) + 1 - 1) (by omega)]
    exact ev_ifF (by omega) (ev_eq (ev_some _) rfl)
  | c + 1, x, done, hx, hd, hl => by
    obtain ⟨m, h1, h2, h3, h4⟩ := hit x c hx
    obtain ⟨last, done', k1, k2, k3⟩ := ev_splitL s c0 hc0 hs c (x.drop (m + 1)) (done ++ [x.take m]) h4 (by simp; omega) (by rw [List.length_drop]; omega)
    refine ⟨last, done', ?_, by rw [k2, h3]; simp, k3⟩
    rw [ev_shift]; simp only [m_strings_genSplit_l1]
    rw [wrap_id (n := (s.length : Int) + 1) (by omega), if_neg (by omega), wrap_id (n := (c0 : Int) + 1 - 1) (by omega)]
    refine ev_ifT (by omega) (Ev.bind (a := (m : Int)) (by rw [← h1]; exact ev_index x) ?_)
    have hm1 : IntKind.wrap .i64 ((m : Int) + ((([47] : Bs).length : Nat) : Int)) = ((m + 1 : Nat) : Int) := by simp only [List.length_singleton]; rw [wrap_id (by omega)]; omega
    have hm0 : IntKind.wrap .i64 ((m : Int) + 0) = (m : Int) := by rw [wrap_id (by omega)]; omega
    rw [hm0, hm1]
    refine ev_ifF (by omega) (ev_ifT (by omega) (ev_ifT (by simp; omega) (ev_ifT (by omega) ?_)))
    rw [wrap_id (n := (done.length : Int) + 1) (by omega)]
    have e1 : sub x 0 (m : Int) = x.take m := by unfold sub; simp
    have e2 : sub x ((m + 1 : Nat) : Int) (x.length : Int) = x.drop (m + 1) := by unfold sub; simp
    have e3 : (done ++ List.replicate (c + 1 + 1) ([] : Bs)).set (Int.toNat (done.length : Int)) (x.take m) = (done ++ [x.take m]) ++ List.replicate (c + 1) [] := by
      rw [Int.toNat_natCast, List.replicate_succ, set_mid]
    rw [e1, e2, e3]
    simpa using k1

theorem ev_split (s : Bs) (hs : s.length ≤ 1048576) : Ev (fun k => m_strings_Split k s [47]) (spl s) := by
  have hc := count_le s
  obtain ⟨last, done', k1, k2, k3⟩ := ev_splitL s (Lib.countByte s 47) hc hs (Lib.countByte s 47) s [] rfl (by simp) hs
  simp only [m_strings_Split, m_strings_genSplit]
  refine Ev.bind (a := spl s) (ev_ifF (by omega) (ev_ifF (by simp) (Ev.go (s := ((Lib.countByte s 47 : Nat) : Int) + 1) (ev_ifT (by omega) (Ev.bind (a := ((Lib.countByte s 47 : Nat) : Int)) ?_ (ev_eq (ev_some _) (by rw [wrap_id (by omega)])))) ?_))) (ev_some _)
  · simp only [m_strings_Count]
    exact ev_ifF (by simp) (ev_ifT (by simp) (ev_ifT (by simp) (ev_eq (ev_some _) rfl)))
  · rw [wrap_id (n := (s.length : Int) + 1) (by omega), if_neg (by omega)]
    refine ev_ifT (by omega) (ev_ifT (by omega) ?_)
    have e : Int.toNat (((Lib.countByte s 47 : Nat) : Int) + 1) = Lib.countByte s 47 + 1 := by omega
    refine Ev.go (s := (last, done' ++ [[]], (done'.length : Int))) (by rw [e]; simpa using k1) ?_
    simp only
    rw [wrap_id (n := (done'.length : Int) + 1) (by omega)]
    refine ev_ifT (by simp; omega) (ev_ifT (by simp; omega) (ev_eq (ev_some _) ?_))
    have e3 : (done' ++ [([] : Bs)]).set (Int.toNat (done'.length : Int)) last = done' ++ [last] := by
      rw [Int.toNat_natCast]
      have := set_mid done' [] ([] : Bs) last
      simpa using this
    rw [e3, k2, List.nil_append]
    have hl : (spl s).length = done'.length + 1 := by rw [← (show done' ++ [last] = spl s by simpa using k2)]; simp
    have e4 : Int.toNat ((done'.length : Int) + 1) = (spl s).length := by omega
    rw [e4, List.take_length]

/-! The program reads -/
def partsO (acc : List Bs) : Option (List Bs) → Lp (List Bs) (List Bs × Bool)
  | some l => .go (acc ++ l)
  | none => .ret ([], false)
theorem ev_parts : ∀ (rest pre acc : List Bs), pre.length + rest.length ≤ 1048577 → acc.length ≤ pre.length → (∀ p ∈ rest, p.length ≤ 1048576) → Ev (fun k => m_impl_PointerGet_l1 k (pre ++ rest) acc pre.length) (partsO acc (mapU rest))
  | [], pre, acc, hl, ha, hp => by
    rw [ev_shift]; simp only [m_impl_PointerGet_l1]
    exact ev_ifF (by simp) (ev_eq (ev_some _) (by simp [mapU, partsO]))
  | p :: rest, pre, acc, hl, ha, hp => by
    simp only [List.length_cons] at hl
    rw [ev_shift]; simp only [m_impl_PointerGet_l1]
    rw [wrap_id (n := (pre.length : Int) + 1) (by omega), ix_mid]
    refine ev_ifT (by simp; omega) (ev_ifT (by simp; omega) (Ev.bind (ev_stepGet p (hp p (by simp))) ?_))
    rw [mapU]
    cases h : unesc p with
    | none => exact ev_ifF (by simp [okOr]) (ev_eq (ev_some _) rfl)
    | some w =>
      refine ev_ifT rfl (ev_ifT (by simp; omega) ?_)
      have := ev_parts rest (pre ++ [p]) (acc ++ [w]) (by simp; omega) (by simp; omega) (fun q hq => hp q (by simp [hq]))
      have e : partsO acc ((some w).bind fun w => (mapU rest).map (w :: ·)) = partsO (acc ++ [w]) (mapU rest) := by
        cases h : mapU rest with
        | none => simp [h, partsO]
        | some l => simp [h, partsO]
      rw [e]
      simpa [okOr] using this
def pairOr (o : Option (List Bs)) : List Bs × Bool := match o with | some l => (l, true) | none => ([], false)
theorem spl_count : ∀ s : Bs, (spl s).length ≤ s.length + 1
  | [] => by simp [spl]
  | b :: r => by
    have ih := spl_count r
    by_cases hb : b = 47
    · subst hb; rw [spl_slash]; simp; omega
    · obtain ⟨p, l, h⟩ : ∃ p l, spl r = p :: l := by
        cases h : spl r with
        | nil => exact absurd h (spl_ne r)
        | cons p l => exact ⟨p, l, rfl⟩
      rw [spl_other hb h]; rw [h] at ih; simp at ih ⊢; omega
theorem ev_iPointerGet (s : Bs) (hs : s.length ≤ 1048576) : Ev (fun k => m_impl_PointerGet k s) (pairOr (getP s)) := by
  simp only [m_impl_PointerGet]
  cases s with
  | nil => exact ev_ifT rfl (ev_some _)
  | cons b r =>
    simp only [List.length_cons] at hs
    have hb0 : byt (b :: r) 0 = (b.toNat : Int) := by have := byt_mid [] r b; simpa using this
    refine ev_ifF (by simp) (ev_ifT (by simp only [List.length_cons]; omega) ?_)
    rw [getP, hb0]
    by_cases hb : b = 47
    · subst hb
      rw [if_pos rfl]
      have e : sub (47 :: r) 1 ((47 :: r : Bs).length : Int) = r := by unfold sub; simp
      rw [e]
      refine ev_ifT rfl (ev_ifT (by simp only [List.length_cons]; omega) (Ev.bind (ev_split r (by omega)) ?_))
      have hc := spl_count r
      have := ev_parts (spl r) [] [] (by simp; omega) (Nat.le_refl _) (fun p hp => by have := spl_len r p hp; omega)
      cases h : mapU (spl r) with
      | none =>
        rw [h] at this
        exact Ev.ret (by simpa [partsO, pairOr] using this)
      | some l =>
        rw [h] at this
        exact Ev.go (s := l) (by simpa [partsO] using this) (ev_some _)
    · rw [if_neg hb]
      exact ev_ifF (fun e => hb ((nat_eq b 47).1 e)) (ev_some _)
end Go.Proofs.YtopbbjoflopjbaaDoor
