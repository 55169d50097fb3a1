/- Paths written by the program, and what is drawn; the conditions stand in each theorem. -/
import Derived.Test.YtopbbjoflopjbaaDoorP4
import Derived.Test.YtopbbjoflopjbaaDoorGpd
/-! Paths written; draws. -/
set_option linter.unusedVariables false
set_option linter.unusedSimpArgs false
namespace Go.Proofs.YtopbbjoflopjbaaDoor
open Go.Bb

theorem ev_ipt2 (a : List Bs) (p : Nat) (hp : p < a.length) (base : Bs) (hs : a[p].length ≤ 1048576) (hb : base.length ≤ 70368744177664) : Ev (fun k => m_impl_PointerText_l2 k a p (toI base) 0) (.go (toI (base ++ ptS a[p]))) := by
  have hm : maxLen = 9223372036854775807 := rfl
  have := ev_fold (L := fun k s i => m_impl_PointerText_l2 k a p s i) (n := a[p].length) (fun j => toI (base ++ ptS (a[p].take j))) (fun i r hi h => by
    have hl := ptS_take_len a[p] i (by omega)
    rw [ev_shift]; simp only [m_impl_PointerText_l2]
    rw [ix_nat hp, wrap_id (n := (i : Int) + 1) (by omega)]
    refine ev_ifT (by omega) (ev_ifT (by omega) ?_)
    rw [ptS_take hi, ← List.append_assoc, toI_append] at h
    refine ev_ite (fun h1 => ?_) (fun h1 => ev_ite (fun h2 => ?_) (fun h2 => ?_))
    · rw [ptB, if_pos ((byt_eq hi 126).1 h1)] at h
      exact ev_ifT (by simp only [List.length_append, List.length_cons, List.length_nil, toI_length]; omega) h
    · rw [ptB, if_neg (fun e => h1 ((byt_eq hi 126).2 e)), if_pos ((byt_eq hi 47).1 h2)] at h
      exact ev_ifT (by simp only [List.length_append, List.length_cons, List.length_nil, toI_length]; omega) h
    · rw [ptB, if_neg (fun e => h1 ((byt_eq hi 126).2 e)), if_neg (fun e => h2 ((byt_eq hi 47).2 e))] at h
      rw [byt_nat hi]
      exact ev_ifT (by omega) (ev_ifT (by simp only [List.length_append, List.length_cons, List.length_nil, toI_length]; omega) h)) (by
    rw [ev_shift]; simp only [m_impl_PointerText_l2]
    rw [ix_nat hp]
    exact ev_ifF (by omega) (ev_some _)) a[p].length 0 (by omega)
  simpa [ptS] using this
theorem ev_iPointerText (a : List Bs) (ha : a.length ≤ 1048576) (hs : ∀ s ∈ a, s.length ≤ 1048576) : Ev (fun k => m_impl_PointerText k a) (ptL a) := by
  have hm : maxLen = 9223372036854775807 := rfl
  simp only [m_impl_PointerText]
  refine Ev.go (s := toI (ptL a)) ?_ (ev_ifT (inB_toI _) (ev_eq (ev_some _) (ofI_toI _)))
  have := ev_fold (L := fun k s i => m_impl_PointerText_l1 k a s i) (n := a.length) (fun j => toI (ptL (a.take j))) (fun i r hi h => by
    have hl := ptL_len (a.take i) (fun s hs' => hs s (List.mem_of_mem_take hs'))
    rw [List.length_take, Nat.min_eq_left (by omega)] at hl
    have hl2 : i * (2 * 1048576 + 1) ≤ 1048576 * (2 * 1048576 + 1) := Nat.mul_le_mul_right _ (by omega)
    rw [ev_shift]; simp only [m_impl_PointerText_l1]
    rw [wrap_id (n := (i : Int) + 1) (by omega)]
    refine ev_ifT (by omega) (ev_ifT (by omega) (ev_ifT (by simp only [List.length_append, List.length_cons, List.length_nil, toI_length]; omega) ?_))
    refine Ev.go (s := toI ((ptL (a.take i) ++ [47]) ++ ptS a[i])) ?_ ?_
    · have := ev_ipt2 a i hi (ptL (a.take i) ++ [47]) (hs _ (List.getElem_mem hi)) (by simp only [List.length_append, List.length_cons, List.length_nil]; omega)
      rw [toI_append] at this
      exact this
    · rw [ptL_take hi] at h
      simpa using h) (by
    rw [ev_shift]; simp only [m_impl_PointerText_l1]
    exact ev_ifF (by omega) (ev_some _)) a.length 0 (by omega)
  simpa [ptL, toI] using this
def Rd (m : Int) (r : GL1Rd) : Prop := (∀ x ∈ r.b, 0 ≤ x ∧ x ≤ 255) ∧ r.b.length ≤ 2000 ∧ 0 ≤ r.p ∧ r.p ≤ m
theorem ix_range {l : List Int} (h : ∀ x ∈ l, 0 ≤ x ∧ x ≤ 255) {i : Int} (h1 : 0 ≤ i) (h2 : i < (l.length : Int)) : 0 ≤ ix l i ∧ ix l i ≤ 255 := by
  obtain ⟨n, rfl⟩ : ∃ n : Nat, i = n := ⟨i.toNat, by omega⟩
  rw [ix_nat (by omega)]
  exact h _ (List.getElem_mem _)
theorem xor_nn {x y : Int} (hx : 0 ≤ x ∧ x < 4611686018427387904) (hy : 0 ≤ y ∧ y < 4611686018427387904) : 0 ≤ bitsI .xor .i64 x y ∧ bitsI .xor .i64 x y ≤ 4611686018427387904 := by
  have key : (BitVec.ofInt (IntKind.bits .i64) x ^^^ BitVec.ofInt (IntKind.bits .i64) y).toNat < 2 ^ 62 := by
    rw [BitVec.toNat_xor]
    refine Nat.xor_lt_two_pow ?_ ?_
    · rw [BitVec.toNat_ofInt]
      have : (2 : Nat) ^ IntKind.bits .i64 = 18446744073709551616 := rfl
      rw [this]; omega
    · rw [BitVec.toNat_ofInt]
      have : (2 : Nat) ^ IntKind.bits .i64 = 18446744073709551616 := rfl
      rw [this]; omega
  unfold bitsI
  simp only
  rw [wrap_id (by omega)]
  omega
theorem pick_ok {m : Int} {r : GL1Rd} (h : Rd m r) (hm : m ≤ 100000) {n : Int} (hn : 1 ≤ n) : ∃ v r', m_spec_l1Rd_pick r n = some (v, r') ∧ Rd (m + 1) r' ∧ 0 ≤ v ∧ v < n := by
  obtain ⟨hb, hl, hp1, hp2⟩ := h
  have hr : Rd (m + 1) (GL1Rd.mk r.b (r.p + 1)) := ⟨hb, hl, by show 0 ≤ r.p + 1; omega, by show r.p + 1 ≤ m + 1; omega⟩
  unfold m_spec_l1Rd_pick
  rw [if_neg (by omega)]
  simp only [Option.bind_some, Lp.then]
  rw [wrap_id (n := r.p + 1) (by omega)]
  rw [show r.p + 1 - 1 = r.p by omega, wrap_id (n := r.p) (by omega)]
  by_cases h0 : (r.b.length : Int) = 0
  · exact ⟨0, _, by rw [if_pos (by simpa using h0)], hr, by omega, by omega⟩
  · rw [if_neg (by simpa using h0)]
    by_cases h1 : r.p < (r.b.length : Int)
    · have hi := ix_range hb hp1 h1
      rw [if_pos h1, if_pos ⟨hp1, h1⟩, if_pos (by omega), wrap_id (n := ix r.b r.p) (by omega)]
      exact ⟨_, _, rfl, hr, Int.tmod_nonneg _ hi.1, Int.tmod_lt_of_pos _ (by omega)⟩
    · have hlp : 0 < (r.b.length : Int) := by omega
      have a1 := Int.tmod_nonneg (a := r.p) (r.b.length : Int) hp1
      have a2 := Int.tmod_lt_of_pos r.p hlp
      rw [wrap_id (n := r.p * 7) (by omega), wrap_id (n := r.p * 7 + 3) (by omega)]
      have b1 := Int.tmod_nonneg (a := r.p * 7 + 3) (r.b.length : Int) (by omega)
      have b2 := Int.tmod_lt_of_pos (r.p * 7 + 3) hlp
      have hi1 := ix_range hb a1 a2
      have hi2 := ix_range hb b1 b2
      have c1 := Int.tdiv_nonneg (a := r.p) (b := (r.b.length : Int)) hp1 (by omega)
      have c2 := Int.tdiv_le_self (a := r.p) (r.b.length : Int) hp1
      generalize hX : ix r.b (Int.tmod r.p (r.b.length : Int)) = X at *
      generalize hY : ix r.b (Int.tmod (r.p * 7 + 3) (r.b.length : Int)) = Y at *
      generalize hC : Int.tdiv r.p (r.b.length : Int) = C at *
      rw [wrap_id (n := X) (by omega), wrap_id (n := Y) (by omega), wrap_id (n := C) (by omega)]
      rw [wrap_id (n := X * 131) (by omega), wrap_id (n := Y * 1117) (by omega), wrap_id (n := r.p * 29) (by omega), wrap_id (n := C * 53) (by omega)]
      rw [wrap_id (n := X * 131 + Y * 1117) (by omega), wrap_id (n := X * 131 + Y * 1117 + r.p * 29) (by omega), wrap_id (n := X * 131 + Y * 1117 + r.p * 29 + C * 53) (by omega)]
      have hz : 0 ≤ X * 131 + Y * 1117 + r.p * 29 + C * 53 ∧ X * 131 + Y * 1117 + r.p * 29 + C * 53 ≤ 1000000000 := by omega
      generalize hZ : X * 131 + Y * 1117 + r.p * 29 + C * 53 = Z at *
      have d1 := Int.tdiv_nonneg (a := Z) (b := 64) hz.1 (by omega)
      have d2 := Int.tdiv_le_self (a := Z) 64 hz.1
      rw [wrap_id (n := Int.tdiv Z 64) (by omega)]
      have e := xor_nn (x := Z) (y := Int.tdiv Z 64) (by omega) (by omega)
      rw [if_neg h1, if_pos h0, if_pos ⟨a1, a2⟩, if_pos h0, if_pos ⟨b1, b2⟩, if_pos h0, if_pos (by omega)]
      exact ⟨_, _, rfl, hr, Int.tmod_nonneg _ e.1, Int.tmod_lt_of_pos _ (by omega)⟩
theorem of_ok {m : Int} {r : GL1Rd} (h : Rd m r) (hm : m ≤ 100000) {l : List Bs} (hl : l ≠ []) : ∃ x r', m_spec_l1Rd_of r l = some (x, r') ∧ Rd (m + 1) r' ∧ x ∈ l := by
  have hn : 0 < l.length := List.length_pos_iff.2 hl
  obtain ⟨v, r', h1, h2, h3, h4⟩ := pick_ok h hm (n := (l.length : Int)) (by omega)
  unfold m_spec_l1Rd_of
  rw [h1, Option.bind_some, if_pos ⟨h3, h4⟩]
  refine ⟨_, _, rfl, h2, ?_⟩
  simp only
  obtain ⟨j, rfl⟩ : ∃ n : Nat, v = n := ⟨v.toNat, by omega⟩
  rw [ix_nat (by omega)]; exact List.getElem_mem _
theorem open_ok {a : List Int} (h : ∀ x ∈ a, 0 ≤ x ∧ x ≤ 255) : ∃ r, m_spec_l1Open a = some r ∧ Rd 0 r := by
  unfold m_spec_l1Open
  by_cases h1 : 2000 < (a.length : Int)
  · rw [if_pos h1, if_pos (by omega)]
    refine ⟨_, rfl, fun x hx => h x ?_, ?_, Int.le_refl _, Int.le_refl _⟩
    · simp only [sub] at hx
      exact List.mem_of_mem_take (List.mem_of_mem_drop hx)
    · show (sub a 0 2000).length ≤ 2000
      simp only [sub, List.length_drop, List.length_take]; omega
  · rw [if_neg h1]
    exact ⟨_, rfl, h, by show a.length ≤ 2000; omega, Int.le_refl _, Int.le_refl _⟩
end Go.Proofs.YtopbbjoflopjbaaDoor
