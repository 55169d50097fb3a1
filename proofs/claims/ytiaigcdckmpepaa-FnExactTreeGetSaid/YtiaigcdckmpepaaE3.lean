/- The laws' own functions over values: what they answer; the conditions stand in each theorem. -/
import Derived.Test.YtiaigcdckmpepaaE2
import Derived.Test.YtiaigcdckmpepaaGv
/-! Size, copies, sameness. -/
set_option linter.unusedVariables false
set_option linter.unusedSimpArgs false
namespace Go.Proofs.Ytiaigcdckmpepaa
open Go.Bb

theorem set_take {α : Type} (l : List α) (z : α) (j : Nat) (hj : j < l.length) (x : α) (hx : x = l[j]) : (l.take j ++ List.replicate (l.length - j) z).set j x = l.take (j + 1) ++ List.replicate (l.length - (j + 1)) z := by
  subst hx
  have e : l.length - j = (l.length - (j + 1)) + 1 := by omega
  rw [e, List.replicate_succ, List.set_append]
  have h1 : (l.take j).length = j := by simp; omega
  rw [h1, if_neg (by omega), Nat.sub_self, List.set_cons_zero, List.take_add_one, List.getElem?_eq_getElem hj, Option.toList_some, List.append_assoc]
  rfl

theorem ev_copy {α β : Type} {L : Nat → List α → Int → Option (Lp (List α) β)} (l : List α) (z : α) (hs : ∀ (i : Nat) (x : List α) r, (h : i < l.length) → x.length = l.length → Ev (fun k => L k (x.set i l[i]) ((i : Int) + 1)) r → Ev (fun k => L k x i) r) (he : ∀ x, Ev (fun k => L k x l.length) (.go x)) :
    Ev (fun k => L k (List.replicate l.length z) 0) (.go l) := by
  have := ev_fold (L := L) (n := l.length) (fun j => l.take j ++ List.replicate (l.length - j) z) (fun i r hi h => hs i _ r hi (by simp; omega) (by rw [set_take l z i hi _ rfl]; exact h)) (he _) l.length 0 (by omega)
  simpa using this

theorem ev_toStringS (l : List Bs) (hl : l.length ≤ 1048576) : Ev (fun k => m_laws_toStringS k l) l := by
  simp only [m_laws_toStringS]
  refine ev_ifT (by omega) (ev_ifT (by omega) ?_)
  refine Ev.go (s := l) ?_ (ev_some _)
  have := ev_copy (L := fun k x i => m_laws_toStringS_l1 k l x i) l ([] : Bs) (fun i x r hi hx h => by
    rw [ev_shift]; simp only [m_laws_toStringS_l1]
    refine ev_ifT (by omega) (ev_ifT (by omega) (ev_ifT (by omega) ?_))
    rw [wrap_id (by omega), ix_nat hi]
    exact h) (fun x => by
    rw [ev_shift]; simp only [m_laws_toStringS_l1]
    exact ev_ifF (by omega) (ev_some _))
  simpa using this

theorem ev_toValueS (l : List Val) (hl : l.length ≤ 1048576) (ih : ∀ x ∈ l, Ev (fun k => m_laws_toValue k x) x) : Ev (fun k => m_laws_toValueS k l) l := by
  rw [ev_shift]; simp only [m_laws_toValueS]
  refine ev_ifT (by omega) (ev_ifT (by omega) ?_)
  refine Ev.go (s := l) ?_ (ev_some _)
  have := ev_copy (L := fun k x i => m_laws_toValueS_l1 k l x i) l (Val.mk 0 0 ([] : Bs) [] []) (fun i x r hi hx h => by
    rw [ev_shift]; simp only [m_laws_toValueS_l1]
    refine ev_ifT (by omega) (ev_ifT (by omega) ?_)
    rw [ix_nat hi]
    refine Ev.bind (ih _ (List.getElem_mem hi)) (ev_ifT (by omega) ?_)
    rw [wrap_id (by omega)]
    exact h) (fun x => by
    rw [ev_shift]; simp only [m_laws_toValueS_l1]
    exact ev_ifF (by omega) (ev_some _))
  simpa using this

theorem ev_toValue : ∀ v : Val, Bd 1048576 v → Ev (fun k => m_laws_toValue k v) v := by
  apply Val.ind
  intro v ih h
  rw [ev_shift]; simp only [m_laws_toValue]
  refine Ev.bind (ev_toValueS _ h.list fun x hx => ih x hx (h.within x hx)) (Ev.bind (ev_toStringS _ h.names) (ev_eq (ev_some _) ?_))
  simp

theorem ev_eqStringS (a : List Bs) (ha : a.length ≤ 1048576) : Ev (fun k => m_laws_eqStringS k a a) true := by
  simp only [m_laws_eqStringS]
  refine ev_ifT trivial (Ev.go (s := ()) ?_ (ev_some _))
  have := ev_all_go (L := fun k i => m_laws_eqStringS_l1 k a a i) (n := a.length) (g := fun _ => true) (fun i r hi hg h => by
    rw [ev_shift]; simp only [m_laws_eqStringS_l1]
    refine ev_ifT (by omega) (ev_ifT (by omega) (ev_ifT (by omega) (ev_ifT trivial ?_)))
    rw [wrap_id (by omega)]; exact h) (by
    rw [ev_shift]; simp only [m_laws_eqStringS_l1]
    exact ev_ifF (by omega) (ev_some _)) a.length 0 (by omega) (fun _ _ _ => rfl)
  simpa using this

theorem ev_eqValueS (a : List Val) (ha : a.length ≤ 1048576) (ih : ∀ x ∈ a, Ev (fun k => m_laws_eqValue k x x) true) : Ev (fun k => m_laws_eqValueS k a a) true := by
  rw [ev_shift]; simp only [m_laws_eqValueS]
  refine ev_ifT trivial (Ev.go (s := ()) ?_ (ev_some _))
  have := ev_all_go (L := fun k i => m_laws_eqValueS_l1 k a a i) (n := a.length) (g := fun _ => true) (fun i r hi hg h => by
    rw [ev_shift]; simp only [m_laws_eqValueS_l1]
    refine ev_ifT (by omega) (ev_ifT (by omega) (ev_ifT (by omega) ?_))
    rw [ix_nat hi]
    refine Ev.bind (ih _ (List.getElem_mem hi)) (ev_ifT rfl ?_)
    rw [wrap_id (by omega)]; exact h) (by
    rw [ev_shift]; simp only [m_laws_eqValueS_l1]
    exact ev_ifF (by omega) (ev_some _)) a.length 0 (by omega) (fun _ _ _ => rfl)
  simpa using this

theorem ev_eqValue : ∀ a : Val, Bd 1048576 a → Ev (fun k => m_laws_eqValue k a a) true := by
  apply Val.ind
  intro a ih h
  rw [ev_shift]; simp only [m_laws_eqValue]
  refine ev_ifT trivial (ev_ifT trivial (ev_ifT trivial (Ev.bind (ev_eqValueS _ h.list fun x hx => ih x hx (h.within x hx)) (ev_ifT rfl (Ev.bind (ev_eqStringS _ h.names) (ev_ifT rfl (ev_some _)))))))

/-- What is left of a size: none, or all is within it. -/
theorem ev_szStringS (l : List Bs) (n : Int) (hn : 0 ≤ n) (hn2 : n ≤ 1048576) (hl : l.length ≤ maxLen) (hs : ∀ s ∈ l, s.length ≤ maxLen) : ∃ y, Ev (fun k => m_laws_szStringS k l n) y ∧ (y < 0 ∨ (0 ≤ y ∧ y ≤ n ∧ (l.length : Int) ≤ n ∧ ∀ s ∈ l, (s.length : Int) ≤ n)) := by
  simp only [m_laws_szStringS]
  have hm : maxLen = 9223372036854775807 := rfl
  rw [wrap_id (by omega)]
  by_cases h0 : n - (l.length : Int) < 0
  · exact ⟨-1, ev_ifT h0 (ev_some _), .inl (by omega)⟩
  · have loop : ∀ (d j : Nat) (x : Int), j + d = l.length → 0 ≤ x → x ≤ n → ∃ o, Ev (fun k => m_laws_szStringS_l1 k l x j) o ∧ (o = .ret (-1) ∨ ∃ y, o = .go y ∧ 0 ≤ y ∧ y ≤ x ∧ ∀ (i : Nat) (h : i < l.length), j ≤ i → (l[i].length : Int) ≤ x) := by
      intro d
      induction d with
      | zero =>
        intro j x hj hx hxn
        refine ⟨.go x, ?_, .inr ⟨x, rfl, hx, Int.le_refl _, fun i hi hji => by omega⟩⟩
        rw [ev_shift]; simp only [m_laws_szStringS_l1]
        exact ev_ifF (by omega) (ev_some _)
      | succ d ih =>
        intro j x hj hx hxn
        have hjl : j < l.length := by omega
        have hlen := hs _ (List.getElem_mem hjl)
        have hw : IntKind.wrap .i64 (x - ((ix l (j : Int)).length : Int)) = x - (l[j].length : Int) := by
          rw [ix_nat hjl]; exact wrap_id (by omega)
        by_cases h1 : x - (l[j].length : Int) < 0
        · refine ⟨.ret (-1), ?_, .inl rfl⟩
          rw [ev_shift]; simp only [m_laws_szStringS_l1]
          rw [hw]
          exact ev_ifT (by omega) (ev_ifT (by omega) (ev_ifT h1 (ev_some _)))
        · obtain ⟨o, h2, h3⟩ := ih (j + 1) (x - (l[j].length : Int)) (by omega) (by omega) (by omega)
          refine ⟨o, ?_, ?_⟩
          · rw [ev_shift]; simp only [m_laws_szStringS_l1]
            rw [hw, wrap_id (n := (j : Int) + 1) (by omega)]
            exact ev_ifT (by omega) (ev_ifT (by omega) (ev_ifF h1 (by simpa using h2)))
          · rcases h3 with h3 | ⟨y, h3, h4, h5, h6⟩
            · exact .inl h3
            · refine .inr ⟨y, h3, h4, by omega, fun i hi hji => ?_⟩
              rcases Nat.eq_or_lt_of_le hji with rfl | hji
              · omega
              · have := h6 i hi hji; omega
    obtain ⟨o, h1, h2⟩ := loop l.length 0 (n - l.length) (by omega) (by omega) (by omega)
    rcases h2 with rfl | ⟨y, rfl, h3, h4, h5⟩
    · exact ⟨-1, ev_ifF h0 (Ev.ret (by simpa using h1)), .inl (by omega)⟩
    · refine ⟨y, ev_ifF h0 (Ev.go (by simpa using h1) (ev_some _)), .inr ⟨h3, by omega, by omega, fun s hs => ?_⟩⟩
      obtain ⟨i, hi, rfl⟩ := List.mem_iff_getElem.1 hs
      have := h5 i hi (by omega)
      omega

theorem ev_szValueS (l : List Val) (n : Int) (hn : 0 ≤ n) (hn2 : n ≤ 1048576) (hl : l.length ≤ maxLen) (ihv : ∀ v ∈ l, ∀ n : Int, 0 ≤ n → n ≤ 1048576 → ∃ y, Ev (fun k => m_laws_szValue k v n) y ∧ (y < 0 ∨ (0 ≤ y ∧ y ≤ n ∧ Bd 1048576 v))) : ∃ y, Ev (fun k => m_laws_szValueS k l n) y ∧ (y < 0 ∨ (0 ≤ y ∧ y ≤ n ∧ (l.length : Int) ≤ n ∧ ∀ v ∈ l, Bd 1048576 v)) := by
  have hm : maxLen = 9223372036854775807 := rfl
  have hw0 : IntKind.wrap .i64 (n - (l.length : Int)) = n - (l.length : Int) := wrap_id (by omega)
  by_cases h0 : n - (l.length : Int) < 0
  · refine ⟨-1, ?_, .inl (by omega)⟩
    rw [ev_shift]; simp only [m_laws_szValueS]
    rw [hw0]
    exact ev_ifT h0 (ev_some _)
  · have loop : ∀ (d j : Nat) (x : Int), j + d = l.length → 0 ≤ x → x ≤ n → ∃ o, Ev (fun k => m_laws_szValueS_l1 k l x j) o ∧ (o = .ret (-1) ∨ ∃ y, o = .go y ∧ 0 ≤ y ∧ y ≤ x ∧ ∀ (i : Nat) (h : i < l.length), j ≤ i → Bd 1048576 l[i]) := by
      intro d
      induction d with
      | zero =>
        intro j x hj hx hxn
        refine ⟨.go x, ?_, .inr ⟨x, rfl, hx, Int.le_refl _, fun i hi hji => by omega⟩⟩
        rw [ev_shift]; simp only [m_laws_szValueS_l1]
        exact ev_ifF (by omega) (ev_some _)
      | succ d ih =>
        intro j x hj hx hxn
        have hjl : j < l.length := by omega
        obtain ⟨y, h1, h2⟩ := ihv _ (List.getElem_mem hjl) x hx (by omega)
        rcases h2 with h2 | ⟨h2, h3, h4⟩
        · refine ⟨.ret (-1), ?_, .inl rfl⟩
          rw [ev_shift]; simp only [m_laws_szValueS_l1]
          rw [ix_nat hjl]
          exact ev_ifT (by omega) (ev_ifT (by omega) (Ev.bind h1 (ev_ifT h2 (ev_some _))))
        · obtain ⟨o, h5, h6⟩ := ih (j + 1) y (by omega) (by omega) (by omega)
          refine ⟨o, ?_, ?_⟩
          · rw [ev_shift]; simp only [m_laws_szValueS_l1]
            rw [ix_nat hjl, wrap_id (n := (j : Int) + 1) (by omega)]
            exact ev_ifT (by omega) (ev_ifT (by omega) (Ev.bind h1 (ev_ifF (by omega) (by simpa using h5))))
          · rcases h6 with h6 | ⟨z, h6, h7, h8, h9⟩
            · exact .inl h6
            · refine .inr ⟨z, h6, h7, by omega, fun i hi hji => ?_⟩
              rcases Nat.eq_or_lt_of_le hji with rfl | hji
              · exact h4
              · exact h9 i hi hji
    obtain ⟨o, h1, h2⟩ := loop l.length 0 (n - l.length) (by omega) (by omega) (by omega)
    rcases h2 with rfl | ⟨y, rfl, h3, h4, h5⟩
    · refine ⟨-1, ?_, .inl (by omega)⟩
      rw [ev_shift]; simp only [m_laws_szValueS]
      rw [hw0]
      exact ev_ifF h0 (Ev.ret (by simpa using h1))
    · refine ⟨y, ?_, .inr ⟨h3, by omega, by omega, fun s hs => ?_⟩⟩
      · rw [ev_shift]; simp only [m_laws_szValueS]
        rw [hw0]
        exact ev_ifF h0 (Ev.go (by simpa using h1) (ev_some _))
      · obtain ⟨i, hi, rfl⟩ := List.mem_iff_getElem.1 hs
        exact h5 i hi (by omega)

theorem ev_szValue : ∀ v : Val, Bd maxLen v → ∀ n : Int, 0 ≤ n → n ≤ 1048576 → ∃ y, Ev (fun k => m_laws_szValue k v n) y ∧ (y < 0 ∨ (0 ≤ y ∧ y ≤ n ∧ Bd 1048576 v)) := by
  apply Val.ind
  intro v ih h n hn hn2
  have hm : maxLen = 9223372036854775807 := rfl
  have ht := h.text
  have hw : IntKind.wrap .i64 (n - (v.text.length : Int)) = n - (v.text.length : Int) := wrap_id (by omega)
  by_cases h0 : n - (v.text.length : Int) < 0
  · refine ⟨-1, ?_, .inl (by omega)⟩
    rw [ev_shift]; simp only [m_laws_szValue]
    rw [hw]
    exact ev_ifT h0 (ev_some _)
  · obtain ⟨y, h1, h2⟩ := ev_szValueS v.list (n - v.text.length) (by omega) (by omega) h.list fun x hx => ih x hx (h.within x hx)
    rcases h2 with h2 | ⟨h2, h3, h4, h5⟩
    · refine ⟨-1, ?_, .inl (by omega)⟩
      rw [ev_shift]; simp only [m_laws_szValue]
      rw [hw]
      exact ev_ifF h0 (Ev.bind h1 (ev_ifT h2 (ev_some _)))
    · obtain ⟨z, h6, h7⟩ := ev_szStringS v.names y h2 (by omega) h.names h.name
      rcases h7 with h7 | ⟨h7, h8, h9, h10⟩
      · refine ⟨-1, ?_, .inl (by omega)⟩
        rw [ev_shift]; simp only [m_laws_szValue]
        rw [hw]
        exact ev_ifF h0 (Ev.bind h1 (ev_ifF (by omega) (Ev.bind h6 (ev_ifT h7 (ev_some _)))))
      · refine ⟨z, ?_, .inr ⟨h7, by omega, .mk v (by omega) (by omega) (by omega) (fun s hs => by have := h10 s hs; omega) h5⟩⟩
        rw [ev_shift]; simp only [m_laws_szValue]
        rw [hw]
        exact ev_ifF h0 (Ev.bind h1 (ev_ifF (by omega) (Ev.bind h6 (ev_ifF (by omega) (ev_some _)))))
end Go.Proofs.Ytiaigcdckmpepaa
