/- Reading types: the program and the reference; the conditions stand in each theorem. -/
import Derived.Test.YtopbbjoflopjbaaE11
/-! Reading types. -/
set_option linter.unusedVariables false
set_option linter.unusedSimpArgs false
namespace Go.Proofs.Ytopbbjoflopjbaa
open Go.Bb

theorem sub_drop (s : Bs) (n : Nat) : sub s (n : Int) (s.length : Int) = s.drop n := by unfold sub; simp
theorem sub_take (s : Bs) (n : Nat) : sub s 0 (n : Int) = s.take n := by unfold sub; simp
theorem sub_tail (b : UInt8) (s : Bs) : sub (b :: s) 1 ((b :: s).length : Int) = s := by
  have := sub_drop (b :: s) 1
  simpa using this

theorem cut_suf (s : Bs) (b : UInt8) (hs : s.length ≤ 1048576) : m_strings_CutSuffix s [b] = some (cutB b s) := by
  simp only [m_strings_CutSuffix, m_internal_stringslite_CutSuffix, m_internal_stringslite_HasSuffix, List.length_singleton]
  by_cases h0 : s = []
  · subst h0; simp [cutB]
  · have hl : 0 < s.length := List.length_pos_iff.2 h0
    have hw : IntKind.wrap .i64 ((s.length : Int) - ((1 : Nat) : Int)) = ((s.length - 1 : Nat) : Int) := by rw [wrap_id (by omega)]; omega
    have hd : s.drop (s.length - 1) = [s.getLast h0] := by
      conv => lhs; rw [← List.dropLast_concat_getLast h0]
      rw [List.drop_append]; simp
    simp only [hw, sub_drop, sub_take, hd]
    rw [if_pos (by omega), if_pos (by omega)]
    have hg : s.getLast? = some (s.getLast h0) := List.getLast?_eq_some_getLast h0
    unfold cutB
    by_cases hb : s.getLast h0 = b
    · have : s.getLast? = some b := by rw [hg, hb]
      rw [if_pos this]
      simp [hb, List.dropLast_eq_take]
    · have : s.getLast? ≠ some b := by rw [hg]; simpa using hb
      rw [if_neg this]
      simp [hb]
theorem cut_pre (s : Bs) (b : UInt8) (hs : s.length ≤ 1048576) : m_strings_CutPrefix s [b] = some (if s.head? = some b then (s.tail, true) else (s, false)) := by
  simp only [m_strings_CutPrefix, m_internal_stringslite_CutPrefix, m_internal_stringslite_HasPrefix, List.length_singleton]
  cases s with
  | nil => simp
  | cons a s =>
    have h1 : sub (a :: s) 0 ((1 : Nat) : Int) = [a] := by rw [sub_take]; rfl
    simp only [h1]
    rw [if_pos (by simp only [List.length_cons]; omega), if_pos (by simp only [List.length_cons]; omega)]
    by_cases hb : a = b
    · subst hb
      have h2 : sub (a :: s) ((1 : Nat) : Int) ((a :: s).length : Int) = s := by rw [sub_drop]; rfl
      simp only [decide_true, Option.bind_some, if_true, h2]
      rw [if_pos (by simp only [List.length_cons]; omega)]
      simp
    · simp [hb]

theorem ev_iWin : ∀ (d : Nat) (s : Bs), d ≤ 1000 → s.length ≤ 1048576 → Ev (fun k => m_impl_typeWithin k s (d : Int)) (winT d s)
  | 0, s, hd, hs => by
    rw [ev_shift]; simp only [m_impl_typeWithin, cut_suf s 33 hs, Option.bind_some]
    exact ev_ifT (by omega) (ev_eq (ev_some _) (by rw [winT]; rfl))
  | d + 1, s, hd, hs => by
    have hl : (cutB 33 s).1.length ≤ 1048576 := by unfold cutB; split <;> simp <;> omega
    rw [ev_shift]; simp only [m_impl_typeWithin, cut_suf s 33 hs, cut_pre _ 91 hl, Option.bind_some]
    rw [winT]
    refine ev_ifF (by omega) ?_
    generalize cutB 33 s = c at hl
    obtain ⟨c1, c2⟩ := c
    simp only at hl ⊢
    by_cases hc : c1.head? = some 91
    · cases c1 with
      | nil => cases hc
      | cons b inner =>
        simp at hc; subst hc
        simp only [List.head?_cons, if_true, List.tail_cons]
        simp only [List.length_cons] at hl
        rw [cut_suf inner 93 (by omega)]
        have hl2 : (cutB 93 inner).1.length ≤ 1048576 := by unfold cutB; split <;> simp <;> omega
        generalize cutB 93 inner = e at hl2
        obtain ⟨e1, e2⟩ := e
        simp only [Option.bind_some]
        cases e2 with
        | false => exact ev_ifF (by simp) (ev_some _)
        | true =>
          refine ev_ifT rfl ?_
          have h1 : IntKind.wrap .i64 (((d + 1 : Nat) : Int) - 1) = (d : Int) := by rw [wrap_id (by omega)]; omega
          rw [h1]
          exact Ev.bind (ev_iWin d e1 (by omega) hl2) (ev_some _)
    · rw [if_neg hc]
      simp only
      refine ev_ifF (by simp) (Ev.bind (ev_iName c1) (ev_eq (ev_some _) ?_))
      split
      · rename_i inner; simp at hc
      · rfl

theorem wd_len (s : Bs) : (wd s).length ≤ s.length := by
  have := congrArg List.length (wd_pre s)
  simp only [List.length_append, List.length_drop] at this; omega
theorem take_wd (s : Bs) : s.take (wd s).length = wd s := by
  have h := wd_pre s
  generalize wd s = W at h ⊢
  rw [h]; simp
theorem ev_sWord (s : Bs) (hs : s.length ≤ 1048576) : Ev (fun k => m_spec_l1Word k s) (wd s) := by
  simp only [m_spec_l1Word]
  have hle := wd_len
  have loop : ∀ (post pre : Bs), pre ++ post = s → Ev (fun k => m_spec_l1Word_l1 k s (pre.length : Int)) (.go ((pre.length + (wd post).length : Nat) : Int)) := by
    intro post
    induction post with
    | nil =>
      intro pre e
      simp at e; subst e
      rw [ev_shift]; simp only [m_spec_l1Word_l1]
      exact Ev.go (s := false) (ev_ifF (by omega) (ev_some _)) (ev_ifF (by simp) (ev_eq (ev_some _) (by simp [wd])))
    | cons b post ih =>
      intro pre e
      have hlen : s.length = pre.length + (post.length + 1) := by rw [← e]; simp
      have hb : byt s (pre.length : Int) = (b.toNat : Int) := by
        rw [byt_nat (by omega)]; congr 2; simp [← e]
      rw [ev_shift]; simp only [m_spec_l1Word_l1]
      rw [hb]
      refine Ev.go (s := wbt b) (ev_ifT (by omega) (ev_ifT (by omega) (Ev.bind (ev_sLetter _) (ev_ite (fun h => ev_eq (ev_some _) (by unfold wbt; rw [h]; rfl)) (fun h => ev_ifT (by omega) (Ev.bind (ev_sFigure _) (ev_eq (ev_some _) (by unfold wbt; simp only [Bool.not_eq_true] at h; rw [h]; rfl)))))))) ?_
      cases hw : wbt b with
      | true =>
        refine ev_ifT rfl ?_
        rw [wrap_id (n := (pre.length : Int) + 1) (by omega)]
        have := ih (pre ++ [b]) (by simpa using e)
        have e2 : pre.length + (wd (b :: post)).length = (pre ++ [b]).length + (wd post).length := by unfold wd; rw [List.takeWhile_cons, if_pos hw]; simp; omega
        rw [e2]
        simpa using this
      | false =>
        have e2 : (wd (b :: post)).length = 0 := by unfold wd; rw [List.takeWhile_cons, if_neg (by simp [hw])]; rfl
        exact ev_ifF (by simp) (ev_eq (ev_some _) (by rw [e2]; simp))
  have h := loop s [] rfl
  have h1 := hle s
  refine Ev.go (s := ((wd s).length : Int)) (by simpa using h) (ev_ifT (by omega) (ev_eq (ev_some _) ?_))
  rw [sub_take]; exact take_wd s

theorem ev_tailT (q nm : Bs) (of : List Typ) : Ev (fun _ => (((if 0 < (q.length : Int) then
          if (0 : Int) ≤ 0 ∧ 0 < (q.length : Int) then
            some (Lp.go (decide ((byt q 0) = 33)))
          else none
        else
          some (Lp.go false)).bind fun o3 : Lp Bool (Lp (Bs × Bool) (Typ × Bs × Bool)) =>
      o3.then fun s3 =>
    if s3 = true then
      if (0 : Int) ≤ 1 ∧ 1 ≤ (q.length : Int) ∧ (q.length : Int) ≤ (q.length : Int) then
        some (Lp.go (sub q 1 (q.length : Int), true))
      else none
    else
      some (Lp.go (q, false))).bind fun o2 =>
    o2.then fun s2 =>
    some ((Typ.mk nm of s2.2), s2.1, true))) (tailT nm of q) := by
  cases q with
  | nil => exact ev_eq (ev_some _) rfl
  | cons b q =>
    by_cases hb : b = 33
    · subst hb
      refine ⟨0, fun _ _ => ?_⟩
      have e1 : byt (33 :: q) 0 = 33 := rfl
      rw [if_pos (by simp only [List.length_cons]; omega), if_pos (by simp only [List.length_cons]; omega), e1]
      simp only [Option.bind_some, Lp.then, decide_true, if_true]
      rw [if_pos (by simp only [List.length_cons]; omega), sub_tail]
      rfl
    · refine ⟨0, fun _ _ => ?_⟩
      have e1 : ¬ byt (b :: q) 0 = 33 := fun h => hb (toNat_eq.1 (by rw [byt_zero] at h; exact h))
      rw [if_pos (by simp only [List.length_cons]; omega), if_pos (by simp only [List.length_cons]; omega)]
      simp only [Option.bind_some, Lp.then, e1, decide_false, Bool.false_eq_true, if_false]
      unfold tailT
      split
      · rename_i h; cases h; exact absurd rfl hb
      · rfl

theorem ev_sGet : ∀ (d : Nat) (s : Bs), d ≤ 1000 → s.length ≤ 1048576 → Ev (fun k => m_spec_l2Get k s (d : Int)) (getT d s)
  | d, s, hd, hs => by
    rw [ev_shift]; simp only [m_spec_l2Get]
    by_cases hc : s.head? ≠ some 91 ∨ d ≤ 1
    · rw [get_name d s hc]
      refine Ev.go (s := (s.drop (wd s).length, wd s, [])) (Ev.go (s := false) ?_ (ev_ifF (by simp) (Ev.bind (ev_sWord s hs) ?_))) (ev_tailT _ _ _)
      · cases s with
        | nil => exact ev_ifF (by simp) (ev_some _)
        | cons b r =>
          refine ev_ifT (by simp only [List.length_cons]; omega) (ev_ifT (by simp only [List.length_cons]; omega) (ev_ite (fun h => ev_eq (ev_some _) ?_) (fun h => ev_some _)))
          rcases hc with hc | hc
          · exact absurd ((toNat_eq (b := 91)).1 h) (by simpa using hc)
          · have : ¬ (1 : Int) < (d : Int) := by omega
            simp [this]
      · have hle := wd_len s
        exact ev_ifT (by omega) (ev_eq (ev_some _) (by rw [sub_drop]))
    · have h1 : s.head? = some 91 := by
        false_or_by_contra; rename_i hn; exact hc (.inl hn)
      obtain ⟨d, rfl⟩ : ∃ d', d = d' + 2 := ⟨d - 2, by have : ¬ d ≤ 1 := fun h => hc (.inr h); omega⟩
      cases s with
      | nil => cases h1
      | cons b r =>
        simp at h1; subst h1
        simp only [List.length_cons] at hs
        have ih := ev_sGet (d + 1) r (by omega) (by omega)
        have hw : IntKind.wrap .i64 (((d + 2 : Nat) : Int) - 1) = ((d + 1 : Nat) : Int) := by rw [wrap_id (by omega)]; omega
        have hdec : decide ((1 : Int) < ((d + 2 : Nat) : Int)) = true := by simp; omega
        rw [get_list]
        have first : ∀ {R : Lp (Bs × Bs × List Typ) (Typ × Bs × Bool)}, Ev (fun k => (if (getT (d + 1) r).2.2 = true then
            if (((getT (d + 1) r).2.1).length : Int) = 0 then
              some (Lp.go true)
            else
              if (0 : Int) ≤ 0 ∧ 0 < (((getT (d + 1) r).2.1).length : Int) then
                some (Lp.go (!(decide ((byt (getT (d + 1) r).2.1 0) = 93))))
              else none
          else
            some (Lp.go true)).bind fun o5 : Lp Bool (Lp (Bs × Bs × List Typ) (Typ × Bs × Bool)) =>
        o5.then fun s5 =>
    if s5 = true then
      (some ((Typ.mk ([] : Bs) ([] : List Typ) false), ([] : Bs), false)).bind fun z =>
      some (Lp.ret z)
    else
      if (0 : Int) ≤ 1 ∧ 1 ≤ (((getT (d + 1) r).2.1).length : Int) ∧ (((getT (d + 1) r).2.1).length : Int) ≤ (((getT (d + 1) r).2.1).length : Int) then
        some (Lp.go (sub (getT (d + 1) r).2.1 1 (((getT (d + 1) r).2.1).length : Int), ([] : Bs), [(getT (d + 1) r).1]))
      else none) R → _ := fun {R} h => Ev.go (m := fun k => if 0 < ((91 :: r : Bs).length : Int) then
          if (0 : Int) ≤ 0 ∧ 0 < ((91 :: r : Bs).length : Int) then
            if (byt (91 :: r) 0) = 91 then
              some (Lp.go (decide (1 < ((d + 2 : Nat) : Int))))
            else
              some (Lp.go false)
          else none
        else
          some (Lp.go false)) (f := fun k s4 => if s4 = true then
      if (0 : Int) ≤ 1 ∧ 1 ≤ ((91 :: r : Bs).length : Int) ∧ ((91 :: r : Bs).length : Int) ≤ ((91 :: r : Bs).length : Int) then
        (m_spec_l2Get k (sub (91 :: r) 1 ((91 :: r : Bs).length : Int)) (IntKind.wrap .i64 (((d + 2 : Nat) : Int) - 1))).bind fun y1 =>
        (if y1.2.2 = true then
            if (y1.2.1.length : Int) = 0 then
              some (Lp.go true)
            else
              if (0 : Int) ≤ 0 ∧ 0 < (y1.2.1.length : Int) then
                some (Lp.go (!(decide ((byt y1.2.1 0) = 93))))
              else none
          else
            some (Lp.go true)).bind fun o5 =>
        o5.then fun s5 =>
    if s5 = true then
      (some ((Typ.mk ([] : Bs) ([] : List Typ) false), [], false)).bind fun z =>
      some (Lp.ret z)
    else
      if (0 : Int) ≤ 1 ∧ 1 ≤ (y1.2.1.length : Int) ∧ (y1.2.1.length : Int) ≤ (y1.2.1.length : Int) then
        some (Lp.go (sub y1.2.1 1 (y1.2.1.length : Int), ([] : Bs), [y1.1]))
      else none
      else none
    else
      (m_spec_l1Word k (91 :: r)).bind fun y2 =>
      if (0 : Int) ≤ (y2.length : Int) ∧ (y2.length : Int) ≤ ((91 :: r : Bs).length : Int) ∧ ((91 :: r : Bs).length : Int) ≤ ((91 :: r : Bs).length : Int) then
        some (Lp.go (sub (91 :: r) (y2.length : Int) ((91 :: r : Bs).length : Int), y2, []))
      else none) (s := true) (r := R) (ev_ifT (by simp only [List.length_cons]; omega) (ev_ifT (by simp only [List.length_cons]; omega) (ev_ifT rfl (ev_eq (ev_some _) (by rw [hdec]))))) (ev_ifT rfl (ev_ifT (by simp only [List.length_cons]; omega) (by rw [sub_tail, hw]; exact Ev.bind ih h)))
        generalize getT (d + 1) r = g at first
        obtain ⟨t, rest, ok⟩ := g
        cases ok with
        | false => exact Ev.ret (first ⟨0, fun _ _ => by simp [contT, Lp.then, zT]⟩)
        | true =>
          cases rest with
          | nil => exact Ev.ret (first ⟨0, fun _ _ => by simp [contT, Lp.then, zT]⟩)
          | cons b q =>
            have hpos : ¬ (((b :: q : Bs).length : Int) = 0) := by simp only [List.length_cons]; omega
            have hb2 : (0 : Int) ≤ 0 ∧ 0 < ((b :: q : Bs).length : Int) := by simp only [List.length_cons]; omega
            by_cases hb : b = 93
            · subst hb
              have e1 : (!(decide ((byt (93 :: q) 0) = 93))) = false := rfl
              have e2 : (0 : Int) ≤ 1 ∧ 1 ≤ ((93 :: q : Bs).length : Int) ∧ ((93 :: q : Bs).length : Int) ≤ ((93 :: q : Bs).length : Int) := by simp only [List.length_cons]; omega
              have e3 : contT (t, 93 :: q, true) = tailT [] [t] q := by simp [contT]
              rw [e3]
              refine Ev.go (s := (q, [], [t])) (first ?_) (ev_tailT _ _ _)
              refine ⟨0, fun _ _ => ?_⟩
              simp only [if_true]
              rw [if_neg hpos, if_pos hb2, e1]
              simp only [Option.bind_some, Lp.then, Bool.false_eq_true, if_false]
              rw [if_pos e2, sub_tail]
            · have e1 : (!(decide ((byt (b :: q) 0) = 93))) = true := by
                have : ¬ byt (b :: q) 0 = 93 := fun h => hb (toNat_eq.1 (by rw [byt_zero] at h; exact h))
                simp [this]
              have e3 : contT (t, b :: q, true) = (zT, ([] : Bs), false) := by simp [contT, hb]
              rw [e3]
              refine Ev.ret (first ⟨0, fun _ _ => ?_⟩)
              simp only [if_true]
              rw [if_neg hpos, if_pos hb2, e1]
              rfl
termination_by d => d
end Go.Proofs.Ytopbbjoflopjbaa
