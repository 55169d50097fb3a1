/- Numerals and quoted texts: the program and the reference; the conditions stand in each theorem. -/
import Derived.Test.YtopbbjoflopjbaaDoorE6
import Derived.Test.YtopbbjoflopjbaaDoorB18
import Derived.Test.YtopbbjoflopjbaaDoorGjs
import Derived.Test.YtopbbjoflopjbaaDoorGji
/-! Numerals, quoted texts. -/
set_option linter.unusedVariables false
set_option linter.unusedSimpArgs false
set_option linter.unnecessarySimpa false
namespace Go.Proofs.YtopbbjoflopjbaaDoor
open Go.Bb

theorem byt_nat {s : Bs} {i : Nat} (h : i < s.length) : byt s (i : Int) = (s[i].toNat : Int) := by
  unfold byt; simp [List.getD, h]
theorem byt_eq {s : Bs} {i : Nat} (h : i < s.length) (c : UInt8) : byt s (i : Int) = (c.toNat : Int) ↔ s[i] = c := by
  rw [byt_nat h]
  constructor
  · intro e; exact UInt8.toNat_inj.1 (by omega)
  · intro e; rw [e]
theorem ofI_toI (s : Bs) : ofI (toI s) = s := by
  unfold ofI toI; rw [List.map_map]
  conv => rhs; rw [← List.map_id s]
  apply List.map_congr_left
  intro x _
  simp
theorem inB_toI (s : Bs) : inB (toI s) = true := by
  unfold inB toI
  rw [List.all_eq_true]
  intro n hn
  obtain ⟨x, _, rfl⟩ := List.mem_map.1 hn
  have := x.toNat_lt
  simp; omega
theorem toI_append (a b : Bs) : toI (a ++ b) = toI a ++ toI b := by simp [toI]
theorem toI_length (a : Bs) : (toI a).length = a.length := by simp [toI]
theorem digit_eq (d : Nat) (h : d < 10) : ofI [IntKind.wrap .u8 (IntKind.wrap .i64 (48 + (d : Int)))] = [UInt8.ofNat (48 + d)] := by
  have h1 : IntKind.wrap .i64 (48 + (d : Int)) = ((48 + d : Nat) : Int) := by rw [wrap_id (by omega)]; omega
  have h2 : IntKind.wrap .u8 ((48 + d : Nat) : Int) = ((48 + d : Nat) : Int) := by
    have : d = 0 ∨ d = 1 ∨ d = 2 ∨ d = 3 ∨ d = 4 ∨ d = 5 ∨ d = 6 ∨ d = 7 ∨ d = 8 ∨ d = 9 := by omega
    rcases this with rfl | rfl | rfl | rfl | rfl | rfl | rfl | rfl | rfl | rfl <;> decide
  rw [h1, h2]
  simp only [ofI, List.map_cons, List.map_nil, Int.toNat_natCast]
theorem dec_len (u : Nat) : ∀ m : Nat, u < 10 ^ (m + 1) → (Lib.decDigits u).length ≤ m + 1 := by
  intro m
  induction m generalizing u with
  | zero => intro hu; rw [Lib.decDigits, dif_pos (by omega)]; simp
  | succ m ih =>
    intro hu
    rw [Lib.decDigits]
    split
    · simp
    · have := ih (u / 10) (by rw [Nat.pow_succ] at hu; omega)
      simp; omega
theorem ev_dec : ∀ n : Nat, n ≤ 4294967296 → Ev (fun k => m_spec_l1Dec k (n : Int)) (Lib.decDigits n) := by
  intro n
  have hm : maxLen = 9223372036854775807 := rfl
  induction n using Nat.strongRecOn with
  | ind n ih =>
    intro hn
    rw [ev_shift]; simp only [m_spec_l1Dec]
    refine ev_ifF (by omega) (ev_ifF (by omega) ?_)
    rw [Lib.decDigits]
    by_cases h : n < 10
    · rw [dif_pos h]
      exact ev_ifT (by omega) (ev_eq (ev_some _) (digit_eq n h))
    · rw [dif_neg h]
      have hd : IntKind.wrap .i64 (Int.tdiv (n : Int) 10) = ((n / 10 : Nat) : Int) := by
        rw [Int.tdiv_eq_ediv_of_nonneg (by omega), wrap_id (by omega)]; omega
      have hr : Int.tmod (n : Int) 10 = ((n % 10 : Nat) : Int) := by
        rw [Int.tmod_eq_emod_of_nonneg (by omega)]; omega
      rw [hd, hr, digit_eq (n % 10) (by omega)]
      have hl := dec_len (n / 10) 9 (by omega)
      exact ev_ifF (by omega) (Ev.bind (ih (n / 10) (by omega) (by omega)) (ev_ifT (by simp; omega) (ev_some _)))
theorem itoa_bd (n : Int) (h : -2147483648 ≤ n ∧ n ≤ 2147483648) : (Lib.itoa n).length ≤ 20 := by
  unfold Lib.itoa
  split
  · have := dec_len n.natAbs 9 (by omega)
    simp only [List.length_cons]; omega
  · have := dec_len n.toNat 9 (by omega)
    omega
theorem ev_num (n : Int) (h : -2147483648 ≤ n ∧ n ≤ 2147483648) : Ev (fun k => m_spec_l1Dec k n) (Lib.itoa n) := by
  have hm : maxLen = 9223372036854775807 := rfl
  unfold Lib.itoa
  by_cases h0 : n < 0
  · rw [if_pos h0, ev_shift]; simp only [m_spec_l1Dec]
    have hw : IntKind.wrap .i64 (0 - n) = (n.natAbs : Int) := by rw [wrap_id (by omega)]; omega
    have hl := dec_len n.natAbs 9 (by omega)
    rw [hw]
    exact ev_ifF (by omega) (ev_ifT h0 (Ev.bind (ev_dec n.natAbs (by omega)) (ev_ifT (by simp; omega) (ev_some _))))
  · rw [if_neg h0]
    obtain ⟨m, rfl⟩ : ∃ m : Nat, n = m := ⟨n.toNat, by omega⟩
    exact ev_dec m (by omega)
theorem itoa_num (n : Int) (h : -2147483648 ≤ n ∧ n ≤ 2147483648) : m_strconv_Itoa n = some (Lib.itoa n) := by
  unfold m_strconv_Itoa; rw [if_pos (by omega)]

/-! Quoted texts -/
def hxs : Bs := [48, 49, 50, 51, 52, 53, 54, 55, 56, 57, 97, 98, 99, 100, 101, 102]
def hexd (n : Nat) : UInt8 := hxs.getD n 0
def qB (b : UInt8) : Bs := if b = 34 ∨ b = 92 then [92, b] else if b = 10 then [92, 110] else if b.toNat < 32 ∨ 126 < b.toNat then [92, 117, 48, 48, hexd (b.toNat / 16), hexd (b.toNat % 16)] else [b]
def qS (s : Bs) : Bs := s.flatMap qB
def quo (s : Bs) : Bs := 34 :: (qS s ++ [34])
theorem qB_len (b : UInt8) : (qB b).length ≤ 6 := by
  unfold qB; split; simp; split; simp; split <;> simp
theorem qS_len (s : Bs) : (qS s).length ≤ 6 * s.length := by
  induction s with
  | nil => simp [qS]
  | cons b s ih => have := qB_len b; simp only [qS, List.flatMap_cons, List.length_append, List.length_cons] at ih ⊢; omega
theorem quo_len (s : Bs) : (quo s).length ≤ 6 * s.length + 2 := by
  have := qS_len s
  simp only [quo, List.length_cons, List.length_append, List.length_nil]; omega
theorem qS_take {s : Bs} {i : Nat} (h : i < s.length) : qS (s.take (i + 1)) = qS (s.take i) ++ qB s[i] := by
  unfold qS; rw [List.take_add_one, List.getElem?_eq_getElem h, Option.toList_some, List.flatMap_append]; simp
theorem qS_take_len (s : Bs) (i : Nat) (h : i ≤ s.length) : (qS (s.take i)).length ≤ 6 * i := by
  have := qS_len (s.take i); rw [List.length_take, Nat.min_eq_left h] at this; exact this
theorem hex_at (n : Nat) (h : n < 16) : byt [48, 49, 50, 51, 52, 53, 54, 55, 56, 57, 97, 98, 99, 100, 101, 102] (n : Int) = ((hexd n).toNat : Int) := by
  show byt hxs (n : Int) = _
  rw [byt_nat (show n < hxs.length from h)]
  unfold hexd
  rw [List.getD, List.getElem?_eq_getElem (show n < hxs.length from h)]
  rfl
theorem arith : ∀ n : Fin 256, bitsI .and .u8 (n.val : Int) 15 = ((n.val % 16 : Nat) : Int) ∧ Int.fdiv (n.val : Int) (2 ^ (min (Int.toNat 4) (IntKind.bits .u8))) = ((n.val / 16 : Nat) : Int) ∧ IntKind.wrap .u8 (Int.tdiv (n.val : Int) 16) = ((n.val / 16 : Nat) : Int) ∧ Int.tmod (n.val : Int) 16 = ((n.val % 16 : Nat) : Int) := by decide +kernel
theorem arithB (b : UInt8) : bitsI .and .u8 (b.toNat : Int) 15 = ((b.toNat % 16 : Nat) : Int) ∧ Int.fdiv (b.toNat : Int) (2 ^ (min (Int.toNat 4) (IntKind.bits .u8))) = ((b.toNat / 16 : Nat) : Int) ∧ IntKind.wrap .u8 (Int.tdiv (b.toNat : Int) 16) = ((b.toNat / 16 : Nat) : Int) ∧ Int.tmod (b.toNat : Int) 16 = ((b.toNat % 16 : Nat) : Int) := arith ⟨b.toNat, b.toNat_lt⟩
theorem ofI_one (b : UInt8) : ofI [(b.toNat : Int)] = [b] := ofI_toI [b]
theorem hex_spec (b : UInt8) : m_spec_l1Hex (b.toNat : Int) = some [48, 48, hexd (b.toNat / 16), hexd (b.toNat % 16)] := by
  obtain ⟨_, _, h3, h4⟩ := arithB b
  have hb := b.toNat_lt
  have hm : maxLen = 9223372036854775807 := rfl
  unfold m_spec_l1Hex
  rw [h3, h4, hex_at _ (by omega), hex_at _ (by omega)]
  have e : ofI [((hexd (b.toNat / 16)).toNat : Int), ((hexd (b.toNat % 16)).toNat : Int)] = [hexd (b.toNat / 16), hexd (b.toNat % 16)] := ofI_toI [hexd (b.toNat / 16), hexd (b.toNat % 16)]
  rw [e, if_pos (by simp; omega), if_pos (by simp; omega), if_pos (by simp; omega)]
  rfl

theorem ev_sQuote (s : Bs) (hs : s.length ≤ 1048576) : Ev (fun k => m_spec_l1Quote k s) (quo s) := by
  have hm : maxLen = 9223372036854775807 := rfl
  simp only [m_spec_l1Quote]
  have := ev_fold (L := fun k x i => m_spec_l1Quote_l1 k s x i) (n := s.length) (fun j => 34 :: qS (s.take j)) (fun i r hi h => by
    have hl := qS_take_len s i (by omega)
    rw [ev_shift]; simp only [m_spec_l1Quote_l1]
    rw [wrap_id (n := (i : Int) + 1) (by omega), byt_nat hi, hex_spec, ofI_one]
    rw [qS_take hi] at h
    refine ev_ifT (by omega) (ev_ifT (by omega) ?_)
    by_cases c1 : s[i] = 34 ∨ s[i] = 92
    · rw [qB, if_pos c1] at h
      refine Ev.go (s := true) ?_ (ev_ifT rfl (ev_ifT (by simp; omega) (ev_ifT (by simp; omega) (by simpa using h))))
      rcases c1 with c1 | c1
      · rw [c1]; exact ev_ifT rfl (ev_some _)
      · rw [c1]; exact ev_ifF (by decide) (ev_eq (ev_some _) rfl)
    · rw [qB, if_neg c1] at h
      have n1 : ¬ ((s[i].toNat : Int) = 34) := fun e => c1 (.inl (UInt8.toNat_inj.1 (by show s[i].toNat = 34; omega)))
      have n2 : ¬ ((s[i].toNat : Int) = 92) := fun e => c1 (.inr (UInt8.toNat_inj.1 (by show s[i].toNat = 92; omega)))
      refine Ev.go (s := false) (ev_ifF n1 (ev_eq (ev_some _) (by simp [n2]))) (ev_ifF (by simp) ?_)
      by_cases c2 : s[i] = 10
      · rw [if_pos c2] at h
        exact ev_ifT (by rw [c2]; rfl) (ev_ifT (by simp; omega) (by simpa using h))
      · rw [if_neg c2] at h
        have n3 : ¬ ((s[i].toNat : Int) = 10) := fun e => c2 (UInt8.toNat_inj.1 (by show s[i].toNat = 10; omega))
        refine ev_ifF n3 ?_
        by_cases c3 : s[i].toNat < 32 ∨ 126 < s[i].toNat
        · rw [if_pos c3] at h
          refine Ev.go (s := true) ?_ (ev_ifT rfl (ev_ifT (by simp; omega) (Ev.bind (ev_some _) (ev_ifT (by simp; omega) (by simpa using h)))))
          by_cases c4 : s[i].toNat < 32
          · exact ev_ifT (by omega) (ev_some _)
          · exact ev_ifF (by omega) (ev_eq (ev_some _) (by simp; omega))
        · rw [if_neg c3] at h
          refine Ev.go (s := false) (ev_ifF (by omega) (ev_eq (ev_some _) (by simp; omega))) (ev_ifF (by simp) (ev_ifT (by simp; omega) (by simpa using h)))) (by
    rw [ev_shift]; simp only [m_spec_l1Quote_l1]
    exact ev_ifF (by omega) (ev_some _)) s.length 0 (by omega)
  have hl := qS_len s
  refine Ev.go (s := 34 :: qS s) (by simpa [qS] using this) (ev_ifT (by simp; omega) (ev_eq (ev_some _) (by simp [quo])))

theorem ev_iQuote (s : Bs) (hs : s.length ≤ 1048576) : Ev (fun k => m_impl_quoteText k s) (quo s) := by
  simp only [m_impl_quoteText]
  have hl := qS_len s
  refine ev_ifT (by simp) (Ev.go (s := toI (34 :: qS s)) ?_ (ev_ifT (by simp [toI_length]; omega) ?_))
  · have := ev_fold (L := fun k x i => m_impl_quoteText_l1 k s x i) (n := s.length) (fun j => toI (34 :: qS (s.take j))) (fun i r hi h => by
      have hl := qS_take_len s i (by omega)
      have hlen : (toI (34 :: qS (s.take i))).length ≤ 6 * i + 1 := by simp [toI_length]; omega
      obtain ⟨a1, a2, _, _⟩ := arithB s[i]
      have hb := s[i].toNat_lt
      have e : toI (34 :: qS (s.take (i + 1))) = toI (34 :: qS (s.take i)) ++ toI (qB s[i]) := by rw [qS_take hi, ← toI_append]; rfl
      rw [e] at h
      generalize toI (34 :: qS (s.take i)) = acc at h hlen ⊢
      rw [ev_shift]; simp only [m_impl_quoteText_l1]
      rw [wrap_id (n := (i : Int) + 1) (by omega), byt_nat hi, a1, a2, hex_at _ (by omega), hex_at _ (by omega)]
      refine ev_ifT (by omega) (ev_ifT (by omega) ?_)
      by_cases c1 : s[i] = 34 ∨ s[i] = 92
      · rw [qB, if_pos c1] at h
        refine Ev.go (s := true) ?_ (ev_ifT rfl (ev_ifT (by simp; omega) (ev_ifT (by simp; omega) (by simpa [toI] using h))))
        rcases c1 with c1 | c1
        · rw [c1]; exact ev_ifT rfl (ev_some _)
        · rw [c1]; exact ev_ifF (by decide) (ev_eq (ev_some _) rfl)
      · rw [qB, if_neg c1] at h
        have n1 : ¬ ((s[i].toNat : Int) = 34) := fun e => c1 (.inl (UInt8.toNat_inj.1 (by show s[i].toNat = 34; omega)))
        have n2 : ¬ ((s[i].toNat : Int) = 92) := fun e => c1 (.inr (UInt8.toNat_inj.1 (by show s[i].toNat = 92; omega)))
        refine Ev.go (s := false) (ev_ifF n1 (ev_eq (ev_some _) (by simp [n2]))) (ev_ifF (by simp) ?_)
        by_cases c2 : s[i] = 10
        · rw [if_pos c2] at h
          exact ev_ifT (by rw [c2]; rfl) (ev_ifT (by simp [toI]; omega) h)
        · rw [if_neg c2] at h
          have n3 : ¬ ((s[i].toNat : Int) = 10) := fun e => c2 (UInt8.toNat_inj.1 (by show s[i].toNat = 10; omega))
          refine ev_ifF n3 ?_
          by_cases c3 : s[i].toNat < 32 ∨ 126 < s[i].toNat
          · rw [if_pos c3] at h
            refine Ev.go (s := true) ?_ (ev_ifT rfl (ev_ifT (by simp [toI]; omega) (ev_ifT (by simp; omega) (ev_ifT (by simp [toI]; omega) (ev_ifT (by simp; omega) (ev_ifT (by simp [toI]; omega) (by simpa [toI] using h)))))))
            by_cases c4 : s[i].toNat < 32
            · exact ev_ifT (by omega) (ev_some _)
            · exact ev_ifF (by omega) (ev_eq (ev_some _) (by simp; omega))
          · rw [if_neg c3] at h
            refine Ev.go (s := false) (ev_ifF (by omega) (ev_eq (ev_some _) (by simp; omega))) (ev_ifF (by simp) (ev_ifT (by simp; omega) (by simpa [toI] using h)))) (by
      rw [ev_shift]; simp only [m_impl_quoteText_l1]
      exact ev_ifF (by omega) (ev_some _)) s.length 0 (by omega)
    simpa [qS, toI] using this
  · have e : toI (34 :: qS s) ++ [34] = toI (quo s) := by simp [toI, quo]
    rw [e]
    exact ev_ifT (inB_toI _) (ev_eq (ev_some _) (ofI_toI _))
end Go.Proofs.YtopbbjoflopjbaaDoor
