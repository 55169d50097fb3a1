/- What is drawn out of bytes: numbers, words, types, texts of types; the conditions stand in each theorem. -/
import Derived.Test.YtopbbjoflopjbaaE15
/-! What is drawn. -/
set_option linter.unusedVariables false
set_option linter.unusedSimpArgs false
namespace Go.Proofs.Ytopbbjoflopjbaa
open Go.Bb

/-- A reader of bytes, at a place not beyond. -/
def Rd (m : Int) (r : GL1Rd) : Prop := (∀ x ∈ r.b, 0 ≤ x ∧ x ≤ 255) ∧ r.b.length ≤ 2000 ∧ 0 ≤ r.p ∧ r.p ≤ m
theorem ix_range {l : List Int} (h : ∀ x ∈ l, 0 ≤ x ∧ x ≤ 255) {i : Int} (h1 : 0 ≤ i) (h2 : i < (l.length : Int)) : 0 ≤ ix l i ∧ ix l i ≤ 255 := by
  obtain ⟨n, rfl⟩ : ∃ n : Nat, i = n := ⟨i.toNat, by omega⟩
  rw [ix_nat (by omega)]
  exact h _ (List.getElem_mem _)
theorem xor_nn {x y : Int} (hx : 0 ≤ x ∧ x < 4611686018427387904) (hy : 0 ≤ y ∧ y < 4611686018427387904) : 0 ≤ bitsI .xor .i64 x y ∧ bitsI .xor .i64 x y ≤ 4611686018427387904 := by
  have key : (BitVec.ofInt (IntKind.bits .i64) x ^^^ BitVec.ofInt (IntKind.bits .i64) y).toNat < 2 ^ 62 := by
    rw [BitVec.toNat_xor]
    refine Nat.xor_lt_two_pow ?_ ?_
    · rw [BitVec.toNat_ofInt]
      have : (2 : Nat) ^ IntKind.bits .i64 = 18446744073709551616 := rfl
      rw [this]; omega
    · rw [BitVec.toNat_ofInt]
      have : (2 : Nat) ^ IntKind.bits .i64 = 18446744073709551616 := rfl
      rw [this]; omega
  unfold bitsI
  simp only
  rw [wrap_id (by omega)]
  omega
theorem pick_ok {m : Int} {r : GL1Rd} (h : Rd m r) (hm : m ≤ 100000) {n : Int} (hn : 1 ≤ n) : ∃ v r', m_spec_l1Rd_pick r n = some (v, r') ∧ Rd (m + 1) r' ∧ 0 ≤ v ∧ v < n := by
  obtain ⟨hb, hl, hp1, hp2⟩ := h
  have hr : Rd (m + 1) (GL1Rd.mk r.b (r.p + 1)) := ⟨hb, hl, by show 0 ≤ r.p + 1; omega, by show r.p + 1 ≤ m + 1; omega⟩
  unfold m_spec_l1Rd_pick
  rw [if_neg (by omega)]
  simp only [Option.bind_some, Lp.then]
  rw [wrap_id (n := r.p + 1) (by omega)]
  rw [show r.p + 1 - 1 = r.p by omega, wrap_id (n := r.p) (by omega)]
  by_cases h0 : (r.b.length : Int) = 0
  · exact ⟨0, _, by rw [if_pos (by simpa using h0)], hr, by omega, by omega⟩
  · rw [if_neg (by simpa using h0)]
    by_cases h1 : r.p < (r.b.length : Int)
    · have hi := ix_range hb hp1 h1
      rw [if_pos h1, if_pos ⟨hp1, h1⟩, if_pos (by omega), wrap_id (n := ix r.b r.p) (by omega)]
      exact ⟨_, _, rfl, hr, Int.tmod_nonneg _ hi.1, Int.tmod_lt_of_pos _ (by omega)⟩
    · have hlp : 0 < (r.b.length : Int) := by omega
      have a1 := Int.tmod_nonneg (a := r.p) (r.b.length : Int) hp1
      have a2 := Int.tmod_lt_of_pos r.p hlp
      rw [wrap_id (n := r.p * 7) (by omega), wrap_id (n := r.p * 7 + 3) (by omega)]
      have b1 := Int.tmod_nonneg (a := r.p * 7 + 3) (r.b.length : Int) (by omega)
      have b2 := Int.tmod_lt_of_pos (r.p * 7 + 3) hlp
      have hi1 := ix_range hb a1 a2
      have hi2 := ix_range hb b1 b2
      have c1 := Int.tdiv_nonneg (a := r.p) (b := (r.b.length : Int)) hp1 (by omega)
      have c2 := Int.tdiv_le_self (a := r.p) (r.b.length : Int) hp1
      generalize hX : ix r.b (Int.tmod r.p (r.b.length : Int)) = X at *
      generalize hY : ix r.b (Int.tmod (r.p * 7 + 3) (r.b.length : Int)) = Y at *
      generalize hC : Int.tdiv r.p (r.b.length : Int) = C at *
      rw [wrap_id (n := X) (by omega), wrap_id (n := Y) (by omega), wrap_id (n := C) (by omega)]
      rw [wrap_id (n := X * 131) (by omega), wrap_id (n := Y * 1117) (by omega), wrap_id (n := r.p * 29) (by omega), wrap_id (n := C * 53) (by omega)]
      rw [wrap_id (n := X * 131 + Y * 1117) (by omega), wrap_id (n := X * 131 + Y * 1117 + r.p * 29) (by omega), wrap_id (n := X * 131 + Y * 1117 + r.p * 29 + C * 53) (by omega)]
      have hz : 0 ≤ X * 131 + Y * 1117 + r.p * 29 + C * 53 ∧ X * 131 + Y * 1117 + r.p * 29 + C * 53 ≤ 1000000000 := by omega
      generalize hZ : X * 131 + Y * 1117 + r.p * 29 + C * 53 = Z at *
      have d1 := Int.tdiv_nonneg (a := Z) (b := 64) hz.1 (by omega)
      have d2 := Int.tdiv_le_self (a := Z) 64 hz.1
      rw [wrap_id (n := Int.tdiv Z 64) (by omega)]
      have e := xor_nn (x := Z) (y := Int.tdiv Z 64) (by omega) (by omega)
      rw [if_neg h1, if_pos h0, if_pos ⟨a1, a2⟩, if_pos h0, if_pos ⟨b1, b2⟩, if_pos h0, if_pos (by omega)]
      exact ⟨_, _, rfl, hr, Int.tmod_nonneg _ e.1, Int.tmod_lt_of_pos _ (by omega)⟩
theorem of_ok {m : Int} {r : GL1Rd} (h : Rd m r) (hm : m ≤ 100000) {l : List Bs} (hl : l ≠ []) : ∃ x r', m_spec_l1Rd_of r l = some (x, r') ∧ Rd (m + 1) r' ∧ x ∈ l := by
  have hn : 0 < l.length := List.length_pos_iff.2 hl
  obtain ⟨v, r', h1, h2, h3, h4⟩ := pick_ok h hm (n := (l.length : Int)) (by omega)
  unfold m_spec_l1Rd_of
  rw [h1, Option.bind_some, if_pos ⟨h3, h4⟩]
  refine ⟨_, _, rfl, h2, ?_⟩
  simp only
  obtain ⟨j, rfl⟩ : ∃ n : Nat, v = n := ⟨v.toNat, by omega⟩
  rw [ix_nat (by omega)]; exact List.getElem_mem _
theorem one_ok {m : Int} {r : GL1Rd} (h : Rd m r) (hm : m ≤ 100000) {l : List Int} (hl : l ≠ []) : ∃ x r', m_spec_l1Rd_one r l = some (x, r') ∧ Rd (m + 1) r' ∧ x ∈ l := by
  have hn : 0 < l.length := List.length_pos_iff.2 hl
  obtain ⟨v, r', h1, h2, h3, h4⟩ := pick_ok h hm (n := (l.length : Int)) (by omega)
  unfold m_spec_l1Rd_one
  rw [h1, Option.bind_some, if_pos ⟨h3, h4⟩]
  refine ⟨_, _, rfl, h2, ?_⟩
  simp only
  obtain ⟨j, rfl⟩ : ∃ n : Nat, v = n := ⟨v.toNat, by omega⟩
  rw [ix_nat (by omega)]; exact List.getElem_mem _
theorem open_ok {a : List Int} (h : ∀ x ∈ a, 0 ≤ x ∧ x ≤ 255) : ∃ r, m_spec_l1Open a = some r ∧ Rd 0 r := by
  unfold m_spec_l1Open
  by_cases h1 : 2000 < (a.length : Int)
  · rw [if_pos h1, if_pos (by omega)]
    refine ⟨_, rfl, fun x hx => h x ?_, ?_, Int.le_refl _, Int.le_refl _⟩
    · simp only [sub] at hx
      exact List.mem_of_mem_take (List.mem_of_mem_drop hx)
    · show (sub a 0 2000).length ≤ 2000
      simp only [sub, List.length_drop, List.length_take]; omega
  · rw [if_neg h1]
    exact ⟨_, rfl, h, by show a.length ≤ 2000; omega, Int.le_refl _, Int.le_refl _⟩

theorem type_loop : ∀ (j : Nat) (d : Nat) (m : Int) (r : GL1Rd) (t : Typ), Rd m r → m + j ≤ 1000 → j ≤ 10 → okT (d + 1) t = true → ∃ r' t', Ev (fun k => m_spec_l13Type_l1 k r.b r.p t.name t.of_ t.must (j : Int)) (.go (r'.b, r'.p, t'.name, t'.of_, t'.must)) ∧ okT (d + 1 + j) t' = true ∧ Rd (m + j) r'
  | 0, d, m, r, t, h, hm, hj, ht => by
    refine ⟨r, t, ?_, ht, by simpa using h⟩
    rw [ev_shift]; simp only [m_spec_l13Type_l1]
    exact ev_ifF (by omega) (ev_some _)
  | j + 1, d, m, r, t, h, hm, hj, ht => by
    obtain ⟨v, r1, g1, g2, g3, g4⟩ := pick_ok h (by omega) (n := 4) (by omega)
    obtain ⟨r', t', k1, k2, k3⟩ := type_loop j (d + 1) (m + 1) r1 (.mk [] [t] (decide (v = 0))) g2 (by omega) (by omega) (by rw [okT_cons]; simpa using ht)
    refine ⟨r', t', ?_, by rw [show d + 1 + (j + 1) = d + 1 + 1 + j by omega]; exact k2, by rw [show m + ((j + 1 : Nat) : Int) = m + 1 + j by omega]; exact k3⟩
    rw [ev_shift]; simp only [m_spec_l13Type_l1]
    refine ev_ifT (by omega) ?_
    have e : (GL1Rd.mk r.b r.p) = r := rfl
    rw [e, g1]
    simp only [Option.bind_some, Typ.eta]
    rw [wrap_id (by omega), show ((j + 1 : Nat) : Int) - 1 = (j : Int) by omega]
    exact k1
theorem type_ok {m : Int} {r : GL1Rd} (h : Rd m r) (hm : m ≤ 900) {l : List Bs} (hl : l ≠ []) (hk : ∀ x ∈ l, nameOk x = true) : ∃ t r', Ev (fun k => m_spec_l13Type k r l) (t, r') ∧ okT 3 t = true ∧ Rd (m + 10) r' := by
  obtain ⟨x, r1, g1, g2, g3⟩ := of_ok h (by omega) hl
  obtain ⟨v, r2, h1, h2, h3, h4⟩ := pick_ok g2 (by omega) (n := 3) (by omega)
  obtain ⟨i, r3, i1, i2, i3⟩ := one_ok h2 (by omega) (l := [0, 0, 0, 1, 1, 2]) (by simp)
  obtain ⟨j, rfl, hj⟩ : ∃ j : Nat, i = j ∧ j ≤ 2 := by
    simp only [List.mem_cons, List.not_mem_nil, or_false] at i3
    exact ⟨i.toNat, by omega, by omega⟩
  obtain ⟨r4, t, j1, j2, j3⟩ := type_loop j 0 _ r3 (.mk x [] (decide (v = 0))) i2 (by omega) (by omega) (by rw [okT_nil]; exact hk x g3)
  refine ⟨t, r4, ?_, ?_, ⟨j3.1, j3.2.1, j3.2.2.1, by have := j3.2.2.2; omega⟩⟩
  · simp only [m_spec_l13Type, g1, h1, i1, Option.bind_some]
    simp only [Typ.name_mk, Typ.of__mk, Typ.must_mk] at j1
    exact Ev.go j1 (ev_eq (ev_some _) (by simp [Typ.eta]))
  · have u : ∀ e, okT e t = true → okT (e + 1) t = true := fun e => ok_up e t
    have : j = 0 ∨ j = 1 ∨ j = 2 := by omega
    rcases this with rfl | rfl | rfl
    · exact u _ (u _ j2)
    · exact u _ j2
    · exact j2

theorem typePut_drawn {a : List Int} (h : ∀ x ∈ a, 0 ≤ x ∧ x ≤ 255) : ∃ t, Ev (fun k => m_spec_DrawTypePut k a) t ∧ BdT 1048576 t := by
  obtain ⟨r, g1, g2⟩ := open_ok h
  obtain ⟨t, r2, h1, h2, h3⟩ := type_ok g2 (by omega) (l := [[73, 110, 116], [83, 116, 114, 105, 110, 103], [75, 105, 110, 100], [88, 95, 49]]) (by simp) (by decide)
  obtain ⟨v, r3, i1, i2, i3, i4⟩ := pick_ok h3 (by omega) (n := 12) (by omega)
  have hb := ok_bd 3 t h2
  have hof : t.of_.length ≤ 1 := by
    obtain ⟨n, of, m⟩ := t
    cases of with
    | nil => simp
    | cons t l =>
      rw [okT_cons] at h2
      simp only [Bool.and_eq_true, decide_eq_true_eq] at h2
      simp [h2.1.2]
  simp only [m_spec_DrawTypePut, g1, Option.bind_some]
  obtain ⟨x, r4, j1, j2, j3⟩ := of_ok i2 (by omega) (l := [[], [49], [97, 32, 98], [73, 110, 116]]) (by simp)
  have hx : x.length ≤ 10 := by
    simp only [List.mem_cons, List.not_mem_nil, or_false] at j3
    rcases j3 with rfl | rfl | rfl | rfl <;> simp
  by_cases c0 : v = 0
  · refine ⟨.mk x t.of_ t.must, Ev.bind h1 ?_, .mk _ (by simp; omega) (by simpa using hb.of) (by simpa using hb.within)⟩
    simp only [i1, j1, Option.bind_some]
    exact ev_ifT c0 (ev_some _)
  by_cases c1 : v = 1
  · refine ⟨.mk [] [.mk [] [.mk [] [t] false] false] false, Ev.bind h1 ?_, ?_⟩
    · simp only [i1, Option.bind_some]
      exact ev_ifF c0 (ev_ifT c1 (ev_some _))
    · have w : ∀ u, BdT 1048576 u → BdT 1048576 (.mk [] [u] false) := fun u hu => .mk _ (by simp) (by simp) (by simpa using hu)
      exact w _ (w _ (w _ hb))
  by_cases c2 : v = 2
  · refine ⟨.mk t.name (t.of_ ++ [.mk [73, 110, 116] [] false]) t.must, Ev.bind h1 ?_, .mk _ (by simpa using hb.name) (by simp; omega) ?_⟩
    · simp only [i1, Option.bind_some]
      exact ev_ifF c0 (ev_ifF c1 (ev_ifT c2 (ev_ifT (by simp; omega) (ev_some _))))
    · intro y hy
      simp only [Typ.of__mk, List.mem_append, List.mem_singleton] at hy
      rcases hy with hy | rfl
      · exact hb.within y hy
      · exact .mk _ (by simp) (by simp) (by simp)
  · refine ⟨t, Ev.bind h1 ?_, hb⟩
    simp only [i1, Option.bind_some]
    exact ev_ifF c0 (ev_ifF c1 (ev_ifF c2 (ev_some _)))

theorem cut_ok {m : Int} {r : GL1Rd} (h : Rd m r) (hm : m ≤ 900) {s : Bs} (hs : s.length ≤ 1000) : ∃ x r', m_spec_l13Cut r s = some (x, r') ∧ x.length ≤ 1001 := by
  have := ml
  unfold m_spec_l13Cut
  rw [wrap_id (by omega)]
  obtain ⟨v, r2, g1, g2, g3, g4⟩ := pick_ok h (by omega) (n := (s.length : Int) + 1) (by omega)
  obtain ⟨w, r3, h1, h2, h3, h4⟩ := pick_ok g2 (by omega) (n := 5) (by omega)
  obtain ⟨x, r4, i1, i2, i3⟩ := of_ok h2 (by omega) (l := [[32], [44], [34], [123], [125], [48], [92], [120], [58], [36], [33], [10]]) (by simp)
  have hx : x.length = 1 := by
    simp only [List.mem_cons, List.not_mem_nil, or_false] at i3
    rcases i3 with rfl | rfl | rfl | rfl | rfl | rfl | rfl | rfl | rfl | rfl | rfl | rfl <;> rfl
  obtain ⟨j, rfl⟩ : ∃ n : Nat, v = n := ⟨v.toNat, by omega⟩
  have hj : j ≤ s.length := by omega
  simp only [g1, h1, Option.bind_some]
  by_cases c0 : w = 0
  · rw [if_pos c0, if_pos (by omega), i1]
    simp only [Option.bind_some]
    rw [sub_take, sub_drop]
    have e1 : (s.take j).length ≤ 1000 := by rw [List.length_take]; omega
    have e2 : (s.take j ++ x ++ s.drop j).length ≤ 1001 := by simp only [List.length_append, List.length_take, List.length_drop]; omega
    rw [if_pos (by rw [List.length_append]; omega), if_pos (by omega), if_pos (by omega)]
    exact ⟨_, _, rfl, e2⟩
  rw [if_neg c0]
  by_cases c1 : w = 1
  · rw [if_pos c1, if_pos (by omega), sub_take]
    exact ⟨_, _, rfl, by rw [List.length_take]; omega⟩
  · rw [if_neg c1]
    exact ⟨_, _, rfl, by omega⟩
theorem typeGet_drawn {a : List Int} (h : ∀ x ∈ a, 0 ≤ x ∧ x ≤ 255) : ∃ s, Ev (fun k => m_spec_DrawTypeGet k a) s ∧ s.length ≤ 1048576 := by
  obtain ⟨r, g1, g2⟩ := open_ok h
  obtain ⟨t, r2, h1, h2, h3⟩ := type_ok g2 (by omega) (l := [[73, 110, 116], [65], [84, 104, 105, 110, 103]]) (by simp) (by decide)
  have hl := ok_len 3 t h2
  obtain ⟨x, r3, i1, i2⟩ := cut_ok h3 (by omega) (s := putT t) (by omega)
  refine ⟨x, ?_, by omega⟩
  simp only [m_spec_DrawTypeGet, g1, Option.bind_some]
  refine Ev.bind h1 (Ev.bind (ev_sPut t 3 (by omega) h2) ?_)
  simp only [i1, Option.bind_some]
  exact ev_some _
end Go.Proofs.Ytopbbjoflopjbaa
