/- Names: the program and the reference; the conditions stand in each theorem. -/
import Derived.Test.YtopbbjoflopjbaaDoorE1
import Derived.Test.YtopbbjoflopjbaaDoorGask
/-! Names. -/
set_option linter.unusedVariables false
set_option linter.unusedSimpArgs false
namespace Go.Proofs.YtopbbjoflopjbaaDoor
open Go.Bb

def figB (n : Int) : Bool := decide (48 ≤ n ∧ n ≤ 57)
def letB (n : Int) : Bool := decide ((97 ≤ n ∧ n ≤ 122) ∨ (65 ≤ n ∧ n ≤ 90) ∨ n = 95)
def nameOk (s : Bs) : Bool := (List.range s.length).all (fun i => letB (byt s (i : Int)) || (decide (i ≠ 0) && figB (byt s (i : Int)))) && decide (1 ≤ s.length ∧ s.length ≤ 12)
theorem ev_sFigure (n : Int) : Ev (fun _ => m_spec_l1Figure n) (figB n) := by
  simp only [m_spec_l1Figure]
  refine ev_ite (fun h => ev_eq (ev_some _) ?_) (fun h => ev_eq (ev_some _) ?_) <;> simp [figB, h]
theorem ev_sLetter (n : Int) : Ev (fun _ => m_spec_l1Letter n) (letB n) := by
  have h : m_spec_l1Letter n = some (letB n) := by
    unfold m_spec_l1Letter letB
    repeat' split
    all_goals first | (simp; omega) | (simp_all; done) | (congr 1; symm; simp; omega) | skip
    all_goals (congr 1; rw [Bool.eq_iff_iff]; simp; omega)
  rw [h]; exact ev_some _
theorem ev_iFigure (n : Int) : m_impl_isFigure n = some (figB n) := by
  unfold m_impl_isFigure figB
  split <;> (congr 1; rw [Bool.eq_iff_iff]; simp; omega)
theorem ev_iWord (n : Int) : m_impl_isWordByte n = some (letB n || figB n) := by
  unfold m_impl_isWordByte
  rw [ev_iFigure]
  simp only [Option.bind_some]
  unfold letB figB
  repeat' split
  all_goals (congr 1; rw [Bool.eq_iff_iff]; simp; omega)
theorem ev_sName (s : Bs) (hs : s.length ≤ 1048576) : Ev (fun k => m_spec_l1Name k s) (nameOk s) := by
  simp only [m_spec_l1Name, m_spec_l1In]
  unfold nameOk
  refine ev_all (L := fun k i => m_spec_l1Name_l1 k s i) (n := s.length) _ (fun i r hi hg h => ?_) (fun i hi hg => ?_) ?_ (f := fun _ _ => _) ?_
  · rw [ev_shift]; simp only [m_spec_l1Name_l1]
    refine ev_ifT (by omega) (Ev.go (s := false) (ev_ifT (by omega) (Ev.bind (ev_sLetter _) (ev_ite (fun h1 => ev_some _) (fun h1 => ?_)))) (ev_ifF (by simp) ?_))
    · have h1' : letB (byt s (i : Int)) = false := by simpa using h1
      rw [h1'] at hg
      simp only [Bool.false_or, Bool.and_eq_true, decide_eq_true_eq] at hg
      refine ev_ifF (by omega) (ev_ifT (by omega) (Ev.bind (ev_sFigure _) ?_))
      rw [hg.2]; exact ev_some _
    · rw [wrap_id (by omega)]; exact h
  · rw [ev_shift]; simp only [m_spec_l1Name_l1]
    simp only [Bool.or_eq_false_iff, Bool.and_eq_false_iff, decide_eq_false_iff_not, Decidable.not_not] at hg
    refine ev_ifT (by omega) (Ev.go (s := true) (ev_ifT (by omega) (Ev.bind (ev_sLetter _) (ev_ifF (by simp [hg.1]) (ev_ite (fun h2 => ev_some _) (fun h2 => ev_ifT (by omega) (Ev.bind (ev_sFigure _) ?_)))))) (ev_ifT rfl (ev_some _)))
    have h3 : figB (byt s (i : Int)) = false := by
      rcases hg.2 with h | h
      · exact absurd (by omega) h2
      · exact h
    rw [h3]; exact ev_some _
  · rw [ev_shift]; simp only [m_spec_l1Name_l1]
    exact ev_ifF (by omega) (ev_some _)
  · refine Ev.bind (a := decide (1 ≤ s.length ∧ s.length ≤ 12)) (ev_ite (fun h => ev_eq (ev_some _) ?_) (fun h => ev_eq (ev_some _) ?_)) (ev_some _)
    · rw [Bool.eq_iff_iff]; simp; omega
    · rw [Bool.eq_iff_iff]; simp; omega
theorem ev_iName (s : Bs) : Ev (fun k => m_impl_isName k s) (nameOk s) := by
  simp only [m_impl_isName, ev_iFigure, Option.bind_some]
  by_cases h1 : (s.length : Int) < 1
  · refine ev_eq (Ev.go (s := true) (ev_ifT h1 (ev_some _)) (ev_ifT rfl (ev_some _))) ?_
    unfold nameOk
    rw [Bool.eq_iff_iff]; simp; omega
  · by_cases h2 : 12 < (s.length : Int)
    · refine ev_eq (Ev.go (s := true) (ev_ifF h1 (ev_ifT h2 (ev_some _))) (ev_ifT rfl (ev_some _))) ?_
      unfold nameOk
      rw [Bool.eq_iff_iff]; simp; omega
    · refine Ev.go (s := figB (byt s 0)) (ev_ifF h1 (ev_ifF h2 (ev_ifT (by omega) (ev_some _)))) ?_
      cases hf : figB (byt s 0) with
      | true =>
        refine ev_eq (ev_ifT rfl (ev_some _)) ?_
        unfold nameOk
        symm
        rw [Bool.and_eq_false_iff]
        left
        rw [List.all_eq_false]
        refine ⟨0, List.mem_range.2 (by omega), ?_⟩
        have : letB (byt s 0) = false := by
          unfold figB at hf; unfold letB
          simp at hf ⊢; omega
        simp [this]
      | false =>
        refine ev_ifF (by simp) (ev_eq (ev_all (L := fun k i => m_impl_isName_l1 k s i) (n := s.length) (fun i => letB (byt s (i : Int)) || figB (byt s (i : Int))) (fun i r hi hg h => ?_) (fun i hi hg => ?_) ?_ (f := fun _ _ => some true) (ev_some _)) ?_)
        · rw [ev_shift]; simp only [m_impl_isName_l1, ev_iWord, Option.bind_some]
          refine ev_ifT (by omega) (ev_ifT (by omega) (ev_ifT hg ?_))
          rw [wrap_id (by omega)]; exact h
        · rw [ev_shift]; simp only [m_impl_isName_l1, ev_iWord, Option.bind_some]
          exact ev_ifT (by omega) (ev_ifT (by omega) (ev_ifF (by simpa using hg) (ev_some _)))
        · rw [ev_shift]; simp only [m_impl_isName_l1]
          exact ev_ifF (by omega) (ev_some _)
        · unfold nameOk
          rw [Bool.and_true, Bool.eq_iff_iff, Bool.and_eq_true, List.all_eq_true, List.all_eq_true]
          constructor
          · intro h
            refine ⟨fun i hi => ?_, by simp; omega⟩
            have := h i hi
            by_cases h0 : i = 0
            · subst h0
              simp only [Bool.or_eq_true] at this ⊢
              rcases this with h' | h'
              · exact .inl h'
              · rw [show ((0 : Nat) : Int) = 0 from rfl, hf] at h'; cases h'
            · simpa [h0] using this
          · rintro ⟨h, _⟩ i hi
            have := h i hi
            simp only [Bool.or_eq_true, Bool.and_eq_true] at this ⊢
            exact this.imp id (·.2)

/-! Numerals -/
theorem digit_eq (d : Nat) (h : d < 10) : ofI [IntKind.wrap .u8 (IntKind.wrap .i64 (48 + (d : Int)))] = [UInt8.ofNat (48 + d)] := by
  have h1 : IntKind.wrap .i64 (48 + (d : Int)) = ((48 + d : Nat) : Int) := by rw [wrap_id (by omega)]; omega
  have h2 : IntKind.wrap .u8 ((48 + d : Nat) : Int) = ((48 + d : Nat) : Int) := by
    have : d = 0 ∨ d = 1 ∨ d = 2 ∨ d = 3 ∨ d = 4 ∨ d = 5 ∨ d = 6 ∨ d = 7 ∨ d = 8 ∨ d = 9 := by omega
    rcases this with rfl | rfl | rfl | rfl | rfl | rfl | rfl | rfl | rfl | rfl <;> decide
  rw [h1, h2]
  simp only [ofI, List.map_cons, List.map_nil, Int.toNat_natCast]
theorem dec_len (u : Nat) : ∀ m : Nat, u < 10 ^ (m + 1) → (Lib.decDigits u).length ≤ m + 1 := by
  intro m
  induction m generalizing u with
  | zero => intro hu; rw [Lib.decDigits, dif_pos (by omega)]; simp
  | succ m ih =>
    intro hu
    rw [Lib.decDigits]
    split
    · simp
    · have := ih (u / 10) (by rw [Nat.pow_succ] at hu; omega)
      simp; omega
theorem ev_dec : ∀ n : Nat, n ≤ 1048576 → Ev (fun k => m_spec_l1Dec k (n : Int)) (Lib.decDigits n) := by
  intro n
  have hm : maxLen = 9223372036854775807 := rfl
  induction n using Nat.strongRecOn with
  | ind n ih =>
    intro hn
    rw [ev_shift]; simp only [m_spec_l1Dec]
    refine ev_ifF (by omega) (ev_ifF (by omega) ?_)
    rw [Lib.decDigits]
    by_cases h : n < 10
    · rw [dif_pos h]
      exact ev_ifT (by omega) (ev_eq (ev_some _) (digit_eq n h))
    · rw [dif_neg h]
      have hd : IntKind.wrap .i64 (Int.tdiv (n : Int) 10) = ((n / 10 : Nat) : Int) := by
        rw [Int.tdiv_eq_ediv_of_nonneg (by omega), wrap_id (by omega)]; omega
      have hr : Int.tmod (n : Int) 10 = ((n % 10 : Nat) : Int) := by
        rw [Int.tmod_eq_emod_of_nonneg (by omega)]; omega
      rw [hd, hr, digit_eq (n % 10) (by omega)]
      have hl := dec_len (n / 10) 9 (by omega)
      exact ev_ifF (by omega) (Ev.bind (ih (n / 10) (by omega) (by omega)) (ev_ifT (by simp; omega) (ev_some _)))
theorem itoa_nat (n : Nat) (h : n ≤ 1048576) : m_strconv_Itoa (n : Int) = some (Lib.decDigits n) := by
  unfold m_strconv_Itoa
  rw [if_pos (by omega)]
  unfold Lib.itoa
  rw [if_neg (by omega)]; rfl

/-- Whether there is nothing to be written. -/
def badAsk (a b c : Bs) : Bool := if a = [] then (if 1500 < (b.length : Int) then true else decide (2000 < (c.length : Int))) else (if nameOk a = true then (if 1500 < (b.length : Int) then true else decide (2000 < (c.length : Int))) else true)
def askT (a b c : Bs) : Bs := if badAsk a b c = true then [] else ([97, 115, 107, 32] ++ a ++ [32] ++ Lib.decDigits b.length ++ [32] ++ Lib.decDigits c.length ++ [10] ++ b ++ c)
theorem ev_bad {m : Nat → Option Bool} {a b c : Bs} (h : Ev m (nameOk a)) : Ev (fun k => (if a = [] then
      if 1500 < (b.length : Int) then
        some (Lp.go (β := Bs) true)
      else
        some (Lp.go (decide (2000 < (c.length : Int))))
    else
      (m k).bind fun y3 =>
      if y3 = true then
        if 1500 < (b.length : Int) then
          some (Lp.go true)
        else
          some (Lp.go (decide (2000 < (c.length : Int))))
      else
        some (Lp.go true))) (.go (badAsk a b c)) := by
  unfold badAsk
  refine ev_ite (fun h1 => ?_) (fun h1 => Ev.bind h (ev_ite (fun h2 => ?_) (fun h2 => ev_eq (ev_some _) (by rw [if_neg h1, if_neg h2]))))
  · exact ev_ite (fun h2 => ev_eq (ev_some _) (by rw [if_pos h1, if_pos h2])) (fun h2 => ev_eq (ev_some _) (by rw [if_pos h1, if_neg h2]))
  · exact ev_ite (fun h3 => ev_eq (ev_some _) (by rw [if_neg h1, if_pos h2, if_pos h3])) (fun h3 => ev_eq (ev_some _) (by rw [if_neg h1, if_pos h2, if_neg h3]))
theorem ev_sAsk (a b c : Bs) (ha : a.length ≤ 1048576) (hb : b.length ≤ 1048576) (hc : c.length ≤ 1048576) : Ev (fun k => m_spec_AskPut k a b c) (askT a b c) := by
  have hm : maxLen = 9223372036854775807 := rfl
  have h1 := dec_len b.length 9 (by omega)
  have h2 := dec_len c.length 9 (by omega)
  simp only [m_spec_AskPut]
  refine Ev.go (ev_bad (ev_sName a ha)) ?_
  unfold askT
  refine ev_ite (fun h => ev_eq (ev_some _) (by rw [if_pos h])) (fun h => ?_)
  rw [if_neg h]
  refine ev_ifT (by simp; omega) (ev_ifT (by simp; omega) (Ev.bind (ev_dec b.length hb) (ev_ifT (by simp; omega) (ev_ifT (by simp; omega) (Ev.bind (ev_dec c.length hc) (ev_ifT (by simp; omega) (ev_ifT (by simp; omega) (ev_ifT (by simp; omega) (ev_ifT (by simp; omega) (ev_some _))))))))))
theorem ev_iAsk (a b c : Bs) (ha : a.length ≤ 1048576) (hb : b.length ≤ 1048576) (hc : c.length ≤ 1048576) : Ev (fun k => m_impl_AskPut k a b c) (askT a b c) := by
  have hm : maxLen = 9223372036854775807 := rfl
  have h1 := dec_len b.length 9 (by omega)
  have h2 := dec_len c.length 9 (by omega)
  simp only [m_impl_AskPut, itoa_nat b.length hb, itoa_nat c.length hc, Option.bind_some]
  refine Ev.go (ev_bad (ev_iName a)) ?_
  unfold askT
  refine ev_ite (fun h => ev_eq (ev_some _) (by rw [if_pos h])) (fun h => ?_)
  rw [if_neg h]
  exact ev_ifT (by simp; omega) (ev_ifT (by simp; omega) (ev_ifT (by simp; omega) (ev_ifT (by simp; omega) (ev_ifT (by simp; omega) (ev_ifT (by simp; omega) (ev_ifT (by simp; omega) (ev_ifT (by simp; omega) (ev_some _))))))))
theorem law_AskPut (a b c : Bs) (h1 : a.length ≤ maxLen) (h2 : b.length ≤ maxLen) (h3 : c.length ≤ maxLen) : ∃ k, m_laws_FnExactAskPut k a b c = some true := by
  refine Ev.get (m := fun k => m_laws_FnExactAskPut k a b c) ?_
  simp only [m_laws_FnExactAskPut]
  refine ev_ite (fun _ => ev_some _) (fun ha => ev_ite (fun _ => ev_some _) (fun hb => ev_ite (fun _ => ev_some _) (fun hc => ?_)))
  exact Ev.bind (ev_sAsk a b c (by omega) (by omega) (by omega)) (Ev.bind (ev_iAsk a b c (by omega) (by omega) (by omega)) (ev_ifT rfl (ev_some _)))
end Go.Proofs.YtopbbjoflopjbaaDoor
