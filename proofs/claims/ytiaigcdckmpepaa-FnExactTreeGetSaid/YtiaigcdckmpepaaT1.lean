/- The size of a value bounds its weight; the conditions stand in each theorem. -/
import Derived.Test.YtiaigcdckmpepaaE9
/-! Sizes and weights. -/
set_option linter.unusedVariables false
set_option linter.unusedSimpArgs false
namespace Go.Proofs.Ytiaigcdckmpepaa
open Go.Bb
def wtW (v : Val) : Nat := wtVs v.list + v.names.length
/-- What is left of a size: none, or all is within it. -/
theorem ev_szStringSW (l : List Bs) (n : Int) (hn : 0 ≤ n) (hn2 : n ≤ 1048576) (hl : l.length ≤ maxLen) (hs : ∀ s ∈ l, s.length ≤ maxLen) : ∃ y, Ev (fun k => m_laws_szStringS k l n) y ∧ (y < 0 ∨ (0 ≤ y ∧ y ≤ n - l.length ∧ (l.length : Int) ≤ n ∧ ∀ s ∈ l, (s.length : Int) ≤ n)) := by
  simp only [m_laws_szStringS]
  have hm : maxLen = 9223372036854775807 := rfl
  rw [wrap_id (by omega)]
  by_cases h0 : n - (l.length : Int) < 0
  · exact ⟨-1, ev_ifT h0 (ev_some _), .inl (by omega)⟩
  · have loop : ∀ (d j : Nat) (x : Int), j + d = l.length → 0 ≤ x → x ≤ n → ∃ o, Ev (fun k => m_laws_szStringS_l1 k l x j) o ∧ (o = .ret (-1) ∨ ∃ y, o = .go y ∧ 0 ≤ y ∧ y ≤ x ∧ ∀ (i : Nat) (h : i < l.length), j ≤ i → (l[i].length : Int) ≤ x) := by
      intro d
      induction d with
      | zero =>
        intro j x hj hx hxn
        refine ⟨.go x, ?_, .inr ⟨x, rfl, hx, Int.le_refl _, fun i hi hji => by omega⟩⟩
        rw [ev_shift]; simp only [m_laws_szStringS_l1]
        exact ev_ifF (by omega) (ev_some _)
      | succ d ih =>
        intro j x hj hx hxn
        have hjl : j < l.length := by omega
        have hlen := hs _ (List.getElem_mem hjl)
        have hw : IntKind.wrap .i64 (x - ((ix l (j : Int)).length : Int)) = x - (l[j].length : Int) := by
          rw [ix_nat hjl]; exact wrap_id (by omega)
        by_cases h1 : x - (l[j].length : Int) < 0
        · refine ⟨.ret (-1), ?_, .inl rfl⟩
          rw [ev_shift]; simp only [m_laws_szStringS_l1]
          rw [hw]
          exact ev_ifT (by omega) (ev_ifT (by omega) (ev_ifT h1 (ev_some _)))
        · obtain ⟨o, h2, h3⟩ := ih (j + 1) (x - (l[j].length : Int)) (by omega) (by omega) (by omega)
          refine ⟨o, ?_, ?_⟩
          · rw [ev_shift]; simp only [m_laws_szStringS_l1]
            rw [hw, wrap_id (n := (j : Int) + 1) (by omega)]
            exact ev_ifT (by omega) (ev_ifT (by omega) (ev_ifF h1 (by simpa using h2)))
          · rcases h3 with h3 | ⟨y, h3, h4, h5, h6⟩
            · exact .inl h3
            · refine .inr ⟨y, h3, h4, by omega, fun i hi hji => ?_⟩
              rcases Nat.eq_or_lt_of_le hji with rfl | hji
              · omega
              · have := h6 i hi hji; omega
    obtain ⟨o, h1, h2⟩ := loop l.length 0 (n - l.length) (by omega) (by omega) (by omega)
    rcases h2 with rfl | ⟨y, rfl, h3, h4, h5⟩
    · exact ⟨-1, ev_ifF h0 (Ev.ret (by simpa using h1)), .inl (by omega)⟩
    · refine ⟨y, ev_ifF h0 (Ev.go (by simpa using h1) (ev_some _)), .inr ⟨h3, by omega, by omega, fun s hs => ?_⟩⟩
      obtain ⟨i, hi, rfl⟩ := List.mem_iff_getElem.1 hs
      have := h5 i hi (by omega)
      omega

theorem ev_szValueSW (l : List Val) (n : Int) (hn : 0 ≤ n) (hn2 : n ≤ 1048576) (hl : l.length ≤ maxLen) (ihv : ∀ v ∈ l, ∀ n : Int, 0 ≤ n → n ≤ 1048576 → ∃ y, Ev (fun k => m_laws_szValue k v n) y ∧ (y < 0 ∨ (0 ≤ y ∧ y ≤ n ∧ Bd 1048576 v ∧ (wtW v : Int) ≤ 3 * (n - y)))) : ∃ y, Ev (fun k => m_laws_szValueS k l n) y ∧ (y < 0 ∨ (0 ≤ y ∧ y ≤ n ∧ (l.length : Int) ≤ n ∧ (∀ v ∈ l, Bd 1048576 v) ∧ (wtVs l : Int) ≤ 3 * (n - y))) := by
  have hm : maxLen = 9223372036854775807 := rfl
  have hw0 : IntKind.wrap .i64 (n - (l.length : Int)) = n - (l.length : Int) := wrap_id (by omega)
  by_cases h0 : n - (l.length : Int) < 0
  · refine ⟨-1, ?_, .inl (by omega)⟩
    rw [ev_shift]; simp only [m_laws_szValueS]
    rw [hw0]
    exact ev_ifT h0 (ev_some _)
  · have loop : ∀ (d j : Nat) (x : Int), j + d = l.length → 0 ≤ x → x ≤ n → ∃ o, Ev (fun k => m_laws_szValueS_l1 k l x j) o ∧ (o = .ret (-1) ∨ ∃ y, o = .go y ∧ 0 ≤ y ∧ y ≤ x ∧ (∀ (i : Nat) (h : i < l.length), j ≤ i → Bd 1048576 l[i]) ∧ (wtVs (l.drop j) : Int) ≤ 3 * d + 3 * (x - y)) := by
      intro d
      induction d with
      | zero =>
        intro j x hj hx hxn
        refine ⟨.go x, ?_, .inr ⟨x, rfl, hx, Int.le_refl _, (fun i hi hji => by omega), by rw [List.drop_of_length_le (by omega)]; simp [wtVs]⟩⟩
        rw [ev_shift]; simp only [m_laws_szValueS_l1]
        exact ev_ifF (by omega) (ev_some _)
      | succ d ih =>
        intro j x hj hx hxn
        have hjl : j < l.length := by omega
        obtain ⟨y, h1, h2⟩ := ihv _ (List.getElem_mem hjl) x hx (by omega)
        rcases h2 with h2 | ⟨h2, h3, h4, hwt⟩
        · refine ⟨.ret (-1), ?_, .inl rfl⟩
          rw [ev_shift]; simp only [m_laws_szValueS_l1]
          rw [ix_nat hjl]
          exact ev_ifT (by omega) (ev_ifT (by omega) (Ev.bind h1 (ev_ifT h2 (ev_some _))))
        · obtain ⟨o, h5, h6⟩ := ih (j + 1) y (by omega) (by omega) (by omega)
          refine ⟨o, ?_, ?_⟩
          · rw [ev_shift]; simp only [m_laws_szValueS_l1]
            rw [ix_nat hjl, wrap_id (n := (j : Int) + 1) (by omega)]
            exact ev_ifT (by omega) (ev_ifT (by omega) (Ev.bind h1 (ev_ifF (by omega) (by simpa using h5))))
          · rcases h6 with h6 | ⟨z, h6, h7, h8, h9, hw9⟩
            · exact .inl h6
            · refine .inr ⟨z, h6, h7, by omega, fun i hi hji => ?_, ?_⟩
              · rcases Nat.eq_or_lt_of_le hji with rfl | hji
                · exact h4
                · exact h9 i hi hji
              · rw [List.drop_eq_getElem_cons hjl]
                have e : wtV l[j] = 3 + wtW l[j] := by rw [wtV_eq]; unfold wtW; omega
                simp only [wtVs, e]
                omega
    obtain ⟨o, h1, h2⟩ := loop l.length 0 (n - l.length) (by omega) (by omega) (by omega)
    rcases h2 with rfl | ⟨y, rfl, h3, h4, h5, hw5⟩
    · refine ⟨-1, ?_, .inl (by omega)⟩
      rw [ev_shift]; simp only [m_laws_szValueS]
      rw [hw0]
      exact ev_ifF h0 (Ev.ret (by simpa using h1))
    · refine ⟨y, ?_, .inr ⟨h3, by omega, by omega, fun s hs => ?_, by simp only [List.drop_zero] at hw5; omega⟩⟩
      · rw [ev_shift]; simp only [m_laws_szValueS]
        rw [hw0]
        exact ev_ifF h0 (Ev.go (by simpa using h1) (ev_some _))
      · obtain ⟨i, hi, rfl⟩ := List.mem_iff_getElem.1 hs
        exact h5 i hi (by omega)

theorem ev_szValueW : ∀ v : Val, Bd maxLen v → ∀ n : Int, 0 ≤ n → n ≤ 1048576 → ∃ y, Ev (fun k => m_laws_szValue k v n) y ∧ (y < 0 ∨ (0 ≤ y ∧ y ≤ n ∧ Bd 1048576 v ∧ (wtW v : Int) ≤ 3 * (n - y))) := by
  apply Val.ind
  intro v ih h n hn hn2
  have hm : maxLen = 9223372036854775807 := rfl
  have ht := h.text
  have hw : IntKind.wrap .i64 (n - (v.text.length : Int)) = n - (v.text.length : Int) := wrap_id (by omega)
  by_cases h0 : n - (v.text.length : Int) < 0
  · refine ⟨-1, ?_, .inl (by omega)⟩
    rw [ev_shift]; simp only [m_laws_szValue]
    rw [hw]
    exact ev_ifT h0 (ev_some _)
  · obtain ⟨y, h1, h2⟩ := ev_szValueSW v.list (n - v.text.length) (by omega) (by omega) h.list fun x hx => ih x hx (h.within x hx)
    rcases h2 with h2 | ⟨h2, h3, h4, h5, hw5⟩
    · refine ⟨-1, ?_, .inl (by omega)⟩
      rw [ev_shift]; simp only [m_laws_szValue]
      rw [hw]
      exact ev_ifF h0 (Ev.bind h1 (ev_ifT h2 (ev_some _)))
    · obtain ⟨z, h6, h7⟩ := ev_szStringSW v.names y h2 (by omega) h.names h.name
      rcases h7 with h7 | ⟨h7, h8, h9, h10⟩
      · refine ⟨-1, ?_, .inl (by omega)⟩
        rw [ev_shift]; simp only [m_laws_szValue]
        rw [hw]
        exact ev_ifF h0 (Ev.bind h1 (ev_ifF (by omega) (Ev.bind h6 (ev_ifT h7 (ev_some _)))))
      · refine ⟨z, ?_, .inr ⟨h7, by omega, .mk v (by omega) (by omega) (by omega) (fun s hs => by have := h10 s hs; omega) h5, by unfold wtW; omega⟩⟩
        rw [ev_shift]; simp only [m_laws_szValue]
        rw [hw]
        exact ev_ifF h0 (Ev.bind h1 (ev_ifF (by omega) (Ev.bind h6 (ev_ifF (by omega) (ev_some _)))))
end Go.Proofs.Ytiaigcdckmpepaa
