/- Types as texts: what is read from a text, and the text that it is; the conditions stand in each theorem. -/
import Derived.Test.YtopbbjoflopjbaaE4
import Derived.Test.YtopbbjoflopjbaaGTy
/-! Types and their texts. -/
set_option linter.unusedVariables false
set_option linter.unusedSimpArgs false
namespace Go.Proofs.Ytopbbjoflopjbaa
open Go.Bb

theorem byt_nat {s : Bs} {i : Nat} (h : i < s.length) : byt s (i : Int) = (s[i].toNat : Int) := by
  unfold byt; simp [List.getD, h]
theorem byt_zero {b : UInt8} {s : Bs} : byt (b :: s) 0 = (b.toNat : Int) := rfl
theorem toNat_eq {a b : UInt8} : ((a.toNat : Int) = (b.toNat : Int)) ↔ a = b := by
  constructor
  · intro h; exact UInt8.toNat_inj.1 (by omega)
  · intro h; rw [h]

/-- The byte is one of a word. -/
def wbt (b : UInt8) : Bool := letB (b.toNat : Int) || figB (b.toNat : Int)
def wd (s : Bs) : Bs := s.takeWhile wbt

theorem nameOk_wbt {s : Bs} (h : nameOk s = true) : ∀ b ∈ s, wbt b = true := by
  intro b hb
  obtain ⟨i, hi, rfl⟩ := List.mem_iff_getElem.1 hb
  unfold nameOk at h
  simp only [Bool.and_eq_true] at h
  have := List.all_eq_true.1 h.1 i (List.mem_range.2 hi)
  rw [byt_nat hi] at this
  unfold wbt
  simp only [Bool.or_eq_true, Bool.and_eq_true] at this ⊢
  exact this.imp id (·.2)
theorem nameOk_ne {s : Bs} (h : nameOk s = true) : s ≠ [] := by
  rintro rfl; unfold nameOk at h; simp at h

/-- The end of a type's text. -/
def bang (m : Bool) : Bs := if m then [33] else []
def putT : Typ → Bs
  | .mk n of m => match of with
    | [] => n ++ bang m
    | t :: _ => 91 :: (putT t ++ 93 :: bang m)
def okT : Nat → Typ → Bool
  | d, .mk n of m => match of with
    | [] => nameOk n
    | t :: r => decide (n = []) && decide (r = []) && (match d with | d + 2 => okT (d + 1) t | _ => false)
theorem putT_nil (n : Bs) (m : Bool) : putT (.mk n [] m) = n ++ bang m := by rw [putT]
theorem putT_cons (n : Bs) (t : Typ) (r : List Typ) (m : Bool) : putT (.mk n (t :: r) m) = 91 :: (putT t ++ 93 :: bang m) := by rw [putT]
theorem okT_nil (d : Nat) (n : Bs) (m : Bool) : okT d (.mk n [] m) = nameOk n := by rw [okT]
theorem okT_cons (d : Nat) (n : Bs) (t : Typ) (r : List Typ) (m : Bool) : okT d (.mk n (t :: r) m) = (decide (n = []) && decide (r = []) && (match d with | d + 2 => okT (d + 1) t | _ => false)) := by
  rcases d with _ | _ | d
  · rw [okT]; simp
  · rw [okT]; simp
  · rw [okT]

/-! The program -/
def cutB (b : UInt8) (s : Bs) : Bs × Bool := if s.getLast? = some b then (s.dropLast, true) else (s, false)
def zT : Typ := .mk [] [] false
def winT : Nat → Bs → Typ × Bool
  | 0, _ => (zT, false)
  | d + 1, s =>
    let c := cutB 33 s
    match c.1 with
    | 91 :: inner =>
      let e := cutB 93 inner
      if e.2 then let w := winT d e.1; (.mk [] [w.1] c.2, w.2) else (zT, false)
    | n => (.mk n [] c.2, nameOk n)

theorem cutB_yes (b : UInt8) (s : Bs) : cutB b (s ++ [b]) = (s, true) := by unfold cutB; simp
theorem cutB_no {b : UInt8} {s : Bs} (h : s.getLast? ≠ some b) : cutB b s = (s, false) := by unfold cutB; rw [if_neg h]
theorem cutB_eq (b : UInt8) (s : Bs) : s = (cutB b s).1 ++ (if (cutB b s).2 then [b] else []) := by
  unfold cutB
  by_cases h : s.getLast? = some b
  · rw [if_pos h]
    simp only [if_true]
    have hne : s ≠ [] := by rintro rfl; simp at h
    rw [List.getLast?_eq_some_getLast hne] at h
    have := List.dropLast_concat_getLast hne
    rw [Option.some.inj h] at this
    exact this.symm
  · rw [if_neg h]; simp

theorem win_ok : ∀ (d : Nat) (s : Bs) (t : Typ), winT d s = (t, true) → okT d t = true ∧ s = putT t
  | 0, s, t, h => by simp [winT] at h
  | d + 1, s, t, h => by
    have hs := cutB_eq 33 s
    rw [winT] at h
    generalize hc : cutB 33 s = c at h hs
    obtain ⟨c1, c2⟩ := c
    simp only at h hs
    split at h
    · rename_i inner
      have hi := cutB_eq 93 inner
      generalize he : cutB 93 inner = e at h hi
      obtain ⟨e1, e2⟩ := e
      simp only at h hi
      cases e2 with
      | false => simp at h
      | true =>
        simp only [if_true, Prod.mk.injEq] at h hi
        obtain ⟨h1, h2⟩ := h
        obtain ⟨h3, h4⟩ := win_ok d e1 (winT d e1).1 (by rw [← h2])
        subst h1
        refine ⟨?_, ?_⟩
        · rw [okT_cons]
          cases d with
          | zero => simp [winT] at h2
          | succ d => simp [h3]
        · rw [putT_cons, hs, hi, ← h4]; cases c2 <;> simp [bang]
    · simp only [Prod.mk.injEq] at h
      obtain ⟨rfl, h2⟩ := h
      refine ⟨by rw [okT_nil]; exact h2, ?_⟩
      rw [putT_nil, hs]; cases c2 <;> simp [bang]

theorem last_word {s : Bs} (h : nameOk s = true) {b : UInt8} (hb : wbt b = false) : s.getLast? ≠ some b := by
  intro e
  have := nameOk_wbt h b (List.mem_of_getLast? e)
  rw [hb] at this; cases this

theorem win_put : ∀ (d : Nat) (t : Typ), okT (d + 1) t = true → winT (d + 1) (putT t) = (t, true)
  | d, .mk n [] m, h => by
    rw [okT_nil] at h
    have hne := nameOk_ne h
    have hc : cutB 33 (n ++ bang m) = (n, m) := by
      cases m with
      | true => exact cutB_yes 33 n
      | false => simp only [bang, Bool.false_eq_true, if_false, List.append_nil]; exact cutB_no (last_word h rfl)
    rw [putT_nil, winT, hc]
    simp only
    split
    · rename_i inner
      have := nameOk_wbt h 91 List.mem_cons_self
      cases this
    · rw [h]
  | d, .mk n (t :: r) m, h => by
    rw [okT_cons] at h
    simp only [Bool.and_eq_true, decide_eq_true_eq] at h
    obtain ⟨⟨rfl, rfl⟩, h⟩ := h
    cases d with
    | zero => cases h
    | succ d =>
      have hc : cutB 33 (91 :: (putT t ++ 93 :: bang m)) = (91 :: (putT t ++ [93]), m) := by
        cases m with
        | true =>
          have := cutB_yes 33 (91 :: (putT t ++ [93]))
          simpa [bang] using this
        | false =>
          simp only [bang, Bool.false_eq_true, if_false]
          refine cutB_no ?_
          rw [show (91 :: (putT t ++ [93]) : Bs) = (91 :: putT t) ++ [93] from rfl, List.getLast?_append]
          simp
      rw [putT_cons, winT, hc]
      simp only [cutB_yes, if_true, win_put d t h]

/-! The reference -/
def tailT (nm : Bs) (of : List Typ) : Bs → Typ × Bs × Bool
  | 33 :: q => (.mk nm of true, q, true)
  | q => (.mk nm of false, q, true)
def contT (g : Typ × Bs × Bool) : Typ × Bs × Bool := if g.2.2 = true ∧ g.2.1.head? = some 93 then tailT [] [g.1] g.2.1.tail else (zT, [], false)
def getT : Nat → Bs → Typ × Bs × Bool
  | d, s => match s, d with
    | 91 :: r, d + 2 => contT (getT (d + 1) r)
    | s, _ => tailT (wd s) [] (s.drop (wd s).length)

theorem get_list (d : Nat) (r : Bs) : getT (d + 2) (91 :: r) = contT (getT (d + 1) r) := by rw [getT]
theorem get_name (d : Nat) (s : Bs) (h : s.head? ≠ some 91 ∨ d ≤ 1) : getT d s = tailT (wd s) [] (s.drop (wd s).length) := by
  rw [getT]
  rintro r d1 rfl rfl
  rcases h with h | h
  · simp at h
  · omega
theorem tail_ok {nm q rest : Bs} {of : List Typ} {t : Typ} (h : tailT nm of q = (t, rest, true)) : ∃ m, t = .mk nm of m ∧ q = bang m ++ rest := by
  unfold tailT at h
  split at h
  · cases h; exact ⟨true, rfl, rfl⟩
  · cases h; exact ⟨false, rfl, rfl⟩
theorem tail_put (nm : Bs) (of : List Typ) (m : Bool) (rest : Bs) (hr : rest = [] ∨ rest.head? = some 93) : tailT nm of (bang m ++ rest) = (.mk nm of m, rest, true) := by
  cases m with
  | true => rfl
  | false =>
    simp only [bang, Bool.false_eq_true, if_false, List.nil_append]
    unfold tailT
    split
    · rcases hr with hr | hr
      · cases hr
      · simp at hr
    · rfl

theorem wd_append {n rest : Bs} (h : ∀ b ∈ n, wbt b = true) (hr : ∀ b, rest.head? = some b → wbt b = false) : wd (n ++ rest) = n := by
  unfold wd
  induction n with
  | nil =>
    cases rest with
    | nil => rfl
    | cons b r => simp [hr b rfl]
  | cons a n ih =>
    simp only [List.cons_append]
    rw [List.takeWhile_cons, if_pos (h a List.mem_cons_self), ih fun b hb => h b (List.mem_cons_of_mem _ hb)]

theorem get_put : ∀ (d : Nat) (t : Typ) (rest : Bs), okT (d + 1) t = true → (rest = [] ∨ rest.head? = some 93) → getT (d + 1) (putT t ++ rest) = (t, rest, true)
  | d, .mk n [] m, rest, h, hr => by
    rw [okT_nil] at h
    have hne := nameOk_ne h
    have hw : wd (n ++ (bang m ++ rest)) = n := wd_append (nameOk_wbt h) (by
      intro b hb
      cases m with
      | true => simp [bang] at hb; subst hb; rfl
      | false =>
        rcases hr with rfl | hr
        · simp [bang] at hb
        · simp only [bang, Bool.false_eq_true, if_false, List.nil_append] at hb
          rw [hr] at hb; cases hb; rfl)
    have hh : (putT (.mk n [] m) ++ rest).head? ≠ some 91 := by
      rw [putT_nil]
      cases n with
      | nil => exact absurd rfl hne
      | cons a n =>
        intro e
        simp at e
        subst e
        have := nameOk_wbt h 91 List.mem_cons_self
        cases this
    rw [get_name _ _ (.inl hh), putT_nil, List.append_assoc, hw, List.drop_left]
    exact tail_put n [] m rest hr
  | d, .mk n (t :: r) m, rest, h, hr => by
    rw [okT_cons] at h
    simp only [Bool.and_eq_true, decide_eq_true_eq] at h
    obtain ⟨⟨rfl, rfl⟩, h⟩ := h
    cases d with
    | zero => cases h
    | succ d =>
      have e : putT (.mk [] [t] m) ++ rest = 91 :: (putT t ++ (93 :: (bang m ++ rest))) := by rw [putT_cons]; simp
      rw [e, get_list, get_put d t _ h (.inr rfl)]
      unfold contT
      rw [if_pos ⟨rfl, rfl⟩]
      exact tail_put [] [t] m rest hr

theorem wd_pre : ∀ s : Bs, s = wd s ++ s.drop (wd s).length
  | [] => rfl
  | b :: s => by
    unfold wd
    rw [List.takeWhile_cons]
    by_cases h : wbt b = true
    · rw [if_pos h]
      have := wd_pre s
      unfold wd at this
      simp only [List.cons_append, List.length_cons, List.drop_succ_cons]
      rw [← this]
    · rw [if_neg h]; simp

theorem get_ok : ∀ (d : Nat) (s : Bs) (t : Typ) (rest : Bs), getT d s = (t, rest, true) → okT d t = true → s = putT t ++ rest
  | d, s, t, rest, h, hk => by
    by_cases hc : s.head? ≠ some 91 ∨ d ≤ 1
    · rw [get_name d s hc] at h
      have hp := wd_pre s
      obtain ⟨m, rfl, h2⟩ := tail_ok h
      rw [h2] at hp
      rw [putT_nil, List.append_assoc]; exact hp
    · have h1 : s.head? = some 91 := by
        false_or_by_contra; rename_i hn; exact hc (.inl hn)
      obtain ⟨d, rfl⟩ : ∃ d', d = d' + 2 := ⟨d - 2, by have : ¬ d ≤ 1 := fun h => hc (.inr h); omega⟩
      cases s with
      | nil => cases h1
      | cons b r =>
        simp at h1; subst h1
        rw [get_list] at h
        unfold contT at h
        split at h
        · rename_i hg
          obtain ⟨m, rfl, h2⟩ := tail_ok h
          rw [okT_cons] at hk
          simp at hk
          have := get_ok (d + 1) r (getT (d + 1) r).1 (getT (d + 1) r).2.1 (by rw [← hg.1]) hk
          have h3 : (getT (d + 1) r).2.1 = 93 :: (getT (d + 1) r).2.1.tail := by
            generalize (getT (d + 1) r).2.1 = q at hg
            cases q with
            | nil => cases hg.2
            | cons b q => have := hg.2; simp at this; rw [this]; rfl
          rw [h3, h2] at this
          rw [putT_cons]
          simp only [List.cons_append, List.append_assoc, List.cons.injEq, true_and]
          exact this
        · cases h

/-- What both read. -/
def readT (s : Bs) : Typ × Bool := if (winT 3 s).2 then ((winT 3 s).1, true) else (zT, false)
theorem read_spec (s : Bs) : readT s = if (getT 3 s).2.2 && decide ((getT 3 s).2.1 = []) && okT 3 (getT 3 s).1 then ((getT 3 s).1, true) else (zT, false) := by
  unfold readT
  by_cases hw : (winT 3 s).2 = true
  · rw [if_pos hw]
    obtain ⟨h1, h2⟩ := win_ok 3 s (winT 3 s).1 (by rw [← hw])
    have := get_put 2 (winT 3 s).1 [] h1 (.inl rfl)
    rw [List.append_nil, ← h2] at this
    rw [this]
    simp [h1]
  · rw [if_neg hw]
    by_cases hg : ((getT 3 s).2.2 && decide ((getT 3 s).2.1 = []) && okT 3 (getT 3 s).1) = true
    · exfalso
      simp only [Bool.and_eq_true, decide_eq_true_eq] at hg
      obtain ⟨⟨g1, g2⟩, g3⟩ := hg
      have := get_ok 3 s (getT 3 s).1 [] (by rw [← g2, ← g1]) g3
      rw [List.append_nil] at this
      have h2 := win_put 2 _ g3
      rw [← this] at h2
      rw [h2] at hw
      exact hw rfl
    · rw [if_neg hg]
end Go.Proofs.Ytopbbjoflopjbaa
