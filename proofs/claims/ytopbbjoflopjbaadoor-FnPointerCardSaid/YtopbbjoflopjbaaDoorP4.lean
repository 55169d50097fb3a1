/- Paths read from texts by the reference, and the law; the conditions stand in each theorem. -/
import Derived.Test.YtopbbjoflopjbaaDoorP3
import Derived.Test.YtopbbjoflopjbaaDoorGLpg
/-! The law of paths read. -/
set_option linter.unusedVariables false
set_option linter.unusedSimpArgs false
set_option linter.unnecessarySimpa false
namespace Go.Proofs.YtopbbjoflopjbaaDoor
open Go.Bb

theorem sub_mid (pre r : Bs) (b : UInt8) : sub (pre ++ b :: r) (pre.length : Int) ((pre.length : Int) + 1) = [b] := by
  rw [sub_one (by simp)]; simp
theorem last_ix (i : List Bs) (l : Bs) : ix (i ++ [l]) (i.length : Int) = l := ix_mid i [] l
theorem last_set (i : List Bs) (l v : Bs) : (i ++ [l]).set (Int.toNat (i.length : Int)) v = i ++ [v] := by
  rw [Int.toNat_natCast]
  have := set_mid i [] l v
  simpa using this
theorem last_len (i : List Bs) (l : Bs) (h : i.length ≤ 1048576) : IntKind.wrap .i64 (((i ++ [l]).length : Int) - 1) = (i.length : Int) := by
  rw [wrap_id (by simp; omega)]; simp

theorem ev_rd : ∀ (n : Nat) (rest pre : Bs) (i : List Bs) (l : Bs), rest.length ≤ n → pre ≠ [] → pre.length + rest.length ≤ 1048576 → l.length ≤ pre.length → i.length ≤ pre.length → Ev (fun k => m_spec_PointerGet_l1 k (pre ++ rest) (i ++ [l]) pre.length) (.go (rdS i l rest))
  | n, [], pre, i, l, hn, h0, hl, h1, h2 => by
    rw [ev_shift]; simp only [m_spec_PointerGet_l1]
    exact ev_ifF (by simp) (ev_eq (ev_some _) (by rw [rdS_nil]))
  | 0, b :: r, pre, i, l, hn, h0, hl, h1, h2 => by simp at hn
  | n + 1, b :: r, pre, i, l, hn, h0, hl, h1, h2 => by
    simp only [List.length_cons] at hn hl
    have hp : 0 < pre.length := List.length_pos_iff.2 h0
    have hm : maxLen = 9223372036854775807 := rfl
    rw [ev_shift]; simp only [m_spec_PointerGet_l1]
    rw [wrap_id (n := (pre.length : Int) + 1) (by omega), wrap_id (n := (pre.length : Int) + 1 + 1) (by omega), byt_mid, last_len i l (by omega), last_ix, last_set, sub_mid]
    have hlen : ((pre ++ b :: r).length : Int) = pre.length + 1 + r.length := by simp; omega
    have hil : ((i ++ [l]).length : Int) = i.length + 1 := by simp
    rw [hlen, hil]
    have hbi : (0 : Int) ≤ (i.length : Int) ∧ (i.length : Int) < (i.length : Int) + 1 := by omega
    refine ev_ifT (by omega) (Ev.go (s := false) (ev_ifF (by omega) (ev_some _)) (ev_ifF (by simp) (ev_ifT (by omega) ?_)))
    by_cases hb : b = 47
    · subst hb
      refine ev_ifT rfl (ev_ifT (by simp; omega) ?_)
      have := ev_rd n r (pre ++ [47]) (i ++ [l]) [] (by omega) (by simp) (by simp; omega) (by simp) (by simp; omega)
      rw [rdS_slash]
      simpa using this
    · have hb' : ¬ ((b.toNat : Int) = 47) := fun e => hb ((nat_eq b 47).1 e)
      refine ev_ifF hb' ?_
      have hlong : ∀ x : UInt8, (l ++ [x]).length ≤ maxLen := fun x => by simp; omega
      by_cases hb2 : b = 126
      · subst hb2
        cases r with
        | nil =>
          have hfl : ¬ ((pre.length : Int) + 1 < pre.length + 1 + (([] : Bs).length : Int)) := by simp
          refine Ev.go (s := false) (ev_ifT (by omega) (ev_ifT rfl (ev_ifF hfl (ev_some _)))) (ev_ifF (by simp) ?_)
          refine Ev.go (s := false) (ev_ifT (by omega) (ev_ifT rfl (ev_ifF hfl (ev_some _)))) (ev_ifF (by simp) ?_)
          refine ev_ifT hbi (ev_ifT (by simp; omega) (ev_ifT (hlong 126) (ev_ifT hbi ?_)))
          have := ev_rd n [] (pre ++ [126]) i (l ++ [126]) (by simp) (by simp) (by simp; omega) (by simp; omega) (by simp; omega)
          rw [rdS_end]
          simpa using this
        | cons c r =>
          simp only [List.length_cons] at hn hl
          simp only [byt_mid1]
          have hr : (pre.length : Int) + 1 < pre.length + 1 + ((c :: r).length : Int) := by simp only [List.length_cons]; omega
          have hr0 : (0 : Int) ≤ (pre.length : Int) + 1 := by omega
          by_cases h0 : c = 48
          · subst h0
            refine Ev.go (s := true) (ev_ifT (by omega) (ev_ifT rfl (ev_ifT hr (ev_ifT ⟨hr0, hr⟩ (ev_eq (ev_some _) rfl))))) (ev_ifT rfl ?_)
            refine ev_ifT hbi (ev_ifT (hlong 126) (ev_ifT hbi ?_))
            have := ev_rd n r (pre ++ [126, 48]) i (l ++ [126]) (by omega) (by simp) (by simp; omega) (by simp; omega) (by simp; omega)
            rw [rdS_0]
            simpa [Int.add_assoc] using this
          · have h0' : ¬ ((c.toNat : Int) = 48) := fun e => h0 ((nat_eq c 48).1 e)
            refine Ev.go (s := false) (ev_ifT (by omega) (ev_ifT rfl (ev_ifT hr (ev_ifT ⟨hr0, hr⟩ (ev_eq (ev_some _) (by simp [h0'])))))) (ev_ifF (by simp) ?_)
            by_cases h1 : c = 49
            · subst h1
              refine Ev.go (s := true) (ev_ifT (by omega) (ev_ifT rfl (ev_ifT hr (ev_ifT ⟨hr0, hr⟩ (ev_eq (ev_some _) rfl))))) (ev_ifT rfl ?_)
              refine ev_ifT hbi (ev_ifT (hlong 47) (ev_ifT hbi ?_))
              have := ev_rd n r (pre ++ [126, 49]) i (l ++ [47]) (by omega) (by simp) (by simp; omega) (by simp; omega) (by simp; omega)
              rw [rdS_1]
              simpa [Int.add_assoc] using this
            · have h1' : ¬ ((c.toNat : Int) = 49) := fun e => h1 ((nat_eq c 49).1 e)
              refine Ev.go (s := false) (ev_ifT (by omega) (ev_ifT rfl (ev_ifT hr (ev_ifT ⟨hr0, hr⟩ (ev_eq (ev_some _) (by simp [h1'])))))) (ev_ifF (by simp) ?_)
              refine ev_ifT hbi (ev_ifT (by simp; omega) (ev_ifT (hlong 126) (ev_ifT hbi ?_)))
              have := ev_rd n (c :: r) (pre ++ [126]) i (l ++ [126]) (by simp; omega) (by simp) (by simp; omega) (by simp; omega) (by simp; omega)
              rw [rdS_x h0 h1]
              simpa using this
      · have hb2' : ¬ ((b.toNat : Int) = 126) := fun e => hb2 ((nat_eq b 126).1 e)
        refine Ev.go (s := false) (ev_ifT (by omega) (ev_ifF hb2' (ev_some _))) (ev_ifF (by simp) ?_)
        refine Ev.go (s := false) (ev_ifT (by omega) (ev_ifF hb2' (ev_some _))) (ev_ifF (by simp) ?_)
        refine ev_ifT hbi (ev_ifT (by omega) (ev_ifT (hlong b) (ev_ifT hbi ?_)))
        have := ev_rd n r (pre ++ [b]) i (l ++ [b]) (by omega) (by simp) (by simp; omega) (by simp; omega) (by simp; omega)
        rw [rdS_ne hb hb2]
        simpa using this

/-- What is gathered is no longer than what is read. -/
theorem rdS_bd : ∀ (n : Nat) (rest : Bs) (i : List Bs) (l : Bs) (M : Nat), rest.length ≤ n → (∀ s ∈ i, s.length ≤ M) → l.length + rest.length ≤ M → (rdS i l rest).length ≤ i.length + 1 + rest.length ∧ ∀ s ∈ rdS i l rest, s.length ≤ M
  | n, [], i, l, M, hn, hi, hl => by
    rw [rdS_nil]
    refine ⟨by simp, fun s hs => ?_⟩
    rcases List.mem_append.1 hs with hs | hs
    · exact hi s hs
    · simp at hs hl; subst hs; exact hl
  | 0, b :: r, i, l, M, hn, hi, hl => by simp at hn
  | n + 1, b :: r, i, l, M, hn, hi, hl => by
    simp only [List.length_cons] at hn hl ⊢
    have stay : ∀ (x : UInt8) (r' : Bs), r'.length ≤ r.length → (rdS i (l ++ [x]) r').length ≤ i.length + 1 + (r.length + 1) ∧ ∀ s ∈ rdS i (l ++ [x]) r', s.length ≤ M := fun x r' hr => by
      have := rdS_bd n r' i (l ++ [x]) M (by omega) hi (by simp; omega)
      exact ⟨by omega, this.2⟩
    by_cases hb : b = 47
    · subst hb
      rw [rdS_slash]
      have := rdS_bd n r (i ++ [l]) [] M (by omega) (fun s hs => by
        rcases List.mem_append.1 hs with hs | hs
        · exact hi s hs
        · simp at hs; subst hs; omega) (by simp; omega)
      refine ⟨?_, this.2⟩
      have h1 := this.1
      simp at h1; omega
    · by_cases hb2 : b = 126
      · subst hb2
        cases r with
        | nil => rw [rdS_end]; exact stay 126 [] (by simp)
        | cons c r =>
          by_cases h0 : c = 48
          · subst h0; rw [rdS_0]; exact stay 126 r (by simp)
          · by_cases h1 : c = 49
            · subst h1; rw [rdS_1]; exact stay 47 r (by simp)
            · rw [rdS_x h0 h1]; exact stay 126 (c :: r) (Nat.le_refl _)
      · rw [rdS_ne hb hb2]; exact stay b r (Nat.le_refl _)

theorem ev_sPointerGet (s : Bs) (hs : s.length ≤ 1048576) : Ev (fun k => m_spec_PointerGet k s) (pairOr (getP s)) := by
  simp only [m_spec_PointerGet]
  cases s with
  | nil =>
    refine Ev.go (s := []) ?_ (Ev.bind (ev_sPointerText [] (by simp) (by simp)) (ev_ifT rfl (ev_some _)))
    rw [ev_shift]; simp only [m_spec_PointerGet_l1]
    exact ev_ifF (by simp) (ev_some _)
  | cons b r =>
    simp only [List.length_cons] at hs
    have hb0 : byt (b :: r) 0 = (b.toNat : Int) := by have := byt_mid [] r b; simpa using this
    by_cases hb : b = 47
    · subst hb
      have hbd := rdS_bd r.length r [] [] 1048576 (Nat.le_refl _) (by simp) (by simp; omega)
      simp only [List.length_nil] at hbd
      refine Ev.go (s := rdS [] [] r) ?_ (Ev.bind (ev_sPointerText _ (by omega) hbd.2) ?_)
      · rw [ev_shift]; simp only [m_spec_PointerGet_l1]
        rw [hb0]
        refine ev_ifT (by simp only [List.length_cons]; omega) (Ev.go (s := false) (ev_ifT trivial (ev_ifT (by simp only [List.length_cons]; omega) (ev_eq (ev_some _) rfl))) (ev_ifF (by simp) (ev_ifT (by simp only [List.length_cons]; omega) (ev_ifT rfl (ev_ifT (by simp) ?_)))))
        have := ev_rd r.length r [47] [] [] (Nat.le_refl _) (by simp) (by simp; omega) (by simp) (by simp)
        have hw : IntKind.wrap .i64 1 = 1 := wrap_id (by omega)
        simpa [hw] using this
      · cases hg : getP (47 :: r) with
        | some l =>
          have e := getP_inv hg
          cases l with
          | nil => cases e
          | cons w ws =>
            rw [ptL_cons] at e
            have er : r = ptS w ++ ptL ws := (List.cons.inj e).2
            have eo : rdS [] [] r = w :: ws := by rw [er, rdS_path]; rfl
            refine ev_ifT ?_ (ev_eq (ev_some _) (by rw [eo]; rfl))
            rw [eo, ptL_cons, ← er]
        | none =>
          refine ev_ifF (fun e => ?_) (ev_some _)
          rw [← e, getP_ptL] at hg; cases hg
    · rw [getP, if_neg hb]
      refine Ev.ret ?_
      rw [ev_shift]; simp only [m_spec_PointerGet_l1]
      rw [hb0]
      have hb' : ¬ ((b.toNat : Int) = 47) := fun e => hb ((nat_eq b 47).1 e)
      exact ev_ifT (by simp only [List.length_cons]; omega) (Ev.go (s := true) (ev_ifT trivial (ev_ifT (by simp only [List.length_cons]; omega) (ev_eq (ev_some _) (by simp [hb'])))) (ev_ifT rfl (ev_eq (ev_some _) rfl)))

theorem ptL_bd : ∀ l : List Bs, l.length ≤ (ptL l).length
  | [] => by simp
  | w :: l => by have := ptL_bd l; rw [ptL_cons]; simp; omega
theorem pairOr_bd (s : Bs) : (pairOr (getP s)).1.length ≤ s.length := by
  cases h : getP s with
  | none => simp [pairOr]
  | some l =>
    have := ptL_bd l
    rw [← getP_inv h] at this
    exact this

theorem law_PointerGet (s : Bs) (h : s.length ≤ maxLen) : ∃ k, m_laws_FnExactPointerGet k s = some true := by
  refine Ev.get (m := fun k => m_laws_FnExactPointerGet k s) ?_
  simp only [m_laws_FnExactPointerGet]
  refine ev_ite (fun _ => ev_some _) (fun h1 => ?_)
  have hs : s.length ≤ 1048576 := by omega
  have g1 := ev_sPointerGet s hs
  have g2 := ev_iPointerGet s hs
  have hb := pairOr_bd s
  have hq := ev_eqStringS _ (by omega : (pairOr (getP s)).1.length ≤ 1048576)
  obtain ⟨l', m, m1, m2, m3, _⟩ := ev_markStringS (pairOr (getP s)).1 1 (by omega) (by omega)
  refine Ev.bind g1 (Ev.bind g2 (Ev.go (s := false) (Ev.bind hq (ev_ifT rfl (ev_eq (ev_some _) (by simp)))) (ev_ifF (by simp) (Ev.bind m1 (Ev.bind m2 (ev_ifF (by omega) (ev_ifT rfl (Ev.bind g2 (Ev.go (s := false) (Ev.bind hq (ev_ifT rfl (ev_eq (ev_some _) (by simp)))) (ev_ifF (by simp) (Ev.bind m2 (ev_ifF (by omega) (ev_ifT rfl (ev_some _)))))))))))))) 
end Go.Proofs.YtopbbjoflopjbaaDoor
