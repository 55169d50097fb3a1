/- Parts of a proof, put together; the conditions stand in each theorem. -/
import Derived.Test.YtiaigcdckmpepaaXS3
section
/-! Sizes and weights. -/
set_option linter.unusedVariables false
set_option linter.unusedSimpArgs false
namespace Go.Proofs.Ytiaigcdckmpepaa
open Go.Bb
def wtW (v : Val) : Nat := wtVs v.list + v.names.length
/-- What is left of a size: none, or all is within it. -/
theorem ev_szStringSW (l : List Bs) (n : Int) (hn : 0 ≤ n) (hn2 : n ≤ 1048576) (hl : l.length ≤ maxLen) (hs : ∀ s ∈ l, s.length ≤ maxLen) : ∃ y, Ev (fun k => m_laws_szStringS k l n) y ∧ (y < 0 ∨ (0 ≤ y ∧ y ≤ n - l.length ∧ (l.length : Int) ≤ n ∧ ∀ s ∈ l, (s.length : Int) ≤ n)) := by
  simp only [m_laws_szStringS]
  have hm : maxLen = 9223372036854775807 := rfl
  rw [wrap_id (by omega)]
  by_cases h0 : n - (l.length : Int) < 0
  · exact ⟨-1, ev_ifT h0 (ev_some _), .inl (by omega)⟩
  · have loop : ∀ (d j : Nat) (x : Int), j + d = l.length → 0 ≤ x → x ≤ n → ∃ o, Ev (fun k => m_laws_szStringS_l1 k l x j) o ∧ (o = .ret (-1) ∨ ∃ y, o = .go y ∧ 0 ≤ y ∧ y ≤ x ∧ ∀ (i : Nat) (h : i < l.length), j ≤ i → (l[i].length : Int) ≤ x) := by
      intro d
      induction d with
      | zero =>
        intro j x hj hx hxn
        refine ⟨.go x, ?_, .inr ⟨x, rfl, hx, Int.le_refl _, fun i hi hji => by omega⟩⟩
        rw [ev_shift]; simp only [m_laws_szStringS_l1]
        exact ev_ifF (by omega) (ev_some _)
      | succ d ih =>
        intro j x hj hx hxn
        have hjl : j < l.length := by omega
        have hlen := hs _ (List.getElem_mem hjl)
        have hw : IntKind.wrap .i64 (x - ((ix l (j : Int)).length : Int)) = x - (l[j].length : Int) := by
          rw [ix_nat hjl]; exact wrap_id (by omega)
        by_cases h1 : x - (l[j].length : Int) < 0
        · refine ⟨.ret (-1), ?_, .inl rfl⟩
          rw [ev_shift]; simp only [m_laws_szStringS_l1]
          rw [hw]
          exact ev_ifT (by omega) (ev_ifT (by omega) (ev_ifT h1 (ev_some _)))
        · obtain ⟨o, h2, h3⟩ := ih (j + 1) (x - (l[j].length : Int)) (by omega) (by omega) (by omega)
          refine ⟨o, ?_, ?_⟩
          · rw [ev_shift]; simp only [m_laws_szStringS_l1]
            rw [hw, wrap_id (n := (j : Int) + 1) (by omega)]
            exact ev_ifT (by omega) (ev_ifT (by omega) (ev_ifF h1 (by simpa using h2)))
          · rcases h3 with h3 | ⟨y, h3, h4, h5, h6⟩
            · exact .inl h3
            · refine .inr ⟨y, h3, h4, by omega, fun i hi hji => ?_⟩
              rcases Nat.eq_or_lt_of_le hji with rfl | hji
              · omega
              · have := h6 i hi hji; omega
    obtain ⟨o, h1, h2⟩ := loop l.length 0 (n - l.length) (by omega) (by omega) (by omega)
    rcases h2 with rfl | ⟨y, rfl, h3, h4, h5⟩
    · exact ⟨-1, ev_ifF h0 (Ev.ret (by simpa using h1)), .inl (by omega)⟩
    · refine ⟨y, ev_ifF h0 (Ev.go (by simpa using h1) (ev_some _)), .inr ⟨h3, by omega, by omega, fun s hs => ?_⟩⟩
      obtain ⟨i, hi, rfl⟩ := List.mem_iff_getElem.1 hs
      have := h5 i hi (by omega)
      omega

theorem ev_szValueSW (l : List Val) (n : Int) (hn : 0 ≤ n) (hn2 : n ≤ 1048576) (hl : l.length ≤ maxLen) (ihv : ∀ v ∈ l, ∀ n : Int, 0 ≤ n → n ≤ 1048576 → ∃ y, Ev (fun k => m_laws_szValue k v n) y ∧ (y < 0 ∨ (0 ≤ y ∧ y ≤ n ∧ Bd 1048576 v ∧ (wtW v : Int) ≤ 3 * (n - y)))) : ∃ y, Ev (fun k => m_laws_szValueS k l n) y ∧ (y < 0 ∨ (0 ≤ y ∧ y ≤ n ∧ (l.length : Int) ≤ n ∧ (∀ v ∈ l, Bd 1048576 v) ∧ (wtVs l : Int) ≤ 3 * (n - y))) := by
  have hm : maxLen = 9223372036854775807 := rfl
  have hw0 : IntKind.wrap .i64 (n - (l.length : Int)) = n - (l.length : Int) := wrap_id (by omega)
  by_cases h0 : n - (l.length : Int) < 0
  · refine ⟨-1, ?_, .inl (by omega)⟩
    rw [ev_shift]; simp only [m_laws_szValueS]
    rw [hw0]
    exact ev_ifT h0 (ev_some _)
  · have loop : ∀ (d j : Nat) (x : Int), j + d = l.length → 0 ≤ x → x ≤ n → ∃ o, Ev (fun k => m_laws_szValueS_l1 k l x j) o ∧ (o = .ret (-1) ∨ ∃ y, o = .go y ∧ 0 ≤ y ∧ y ≤ x ∧ (∀ (i : Nat) (h : i < l.length), j ≤ i → Bd 1048576 l[i]) ∧ (wtVs (l.drop j) : Int) ≤ 3 * d + 3 * (x - y)) := by
      intro d
      induction d with
      | zero =>
        intro j x hj hx hxn
        refine ⟨.go x, ?_, .inr ⟨x, rfl, hx, Int.le_refl _, (fun i hi hji => by omega), by rw [List.drop_of_length_le (by omega)]; simp [wtVs]⟩⟩
        rw [ev_shift]; simp only [m_laws_szValueS_l1]
        exact ev_ifF (by omega) (ev_some _)
      | succ d ih =>
        intro j x hj hx hxn
        have hjl : j < l.length := by omega
        obtain ⟨y, h1, h2⟩ := ihv _ (List.getElem_mem hjl) x hx (by omega)
        rcases h2 with h2 | ⟨h2, h3, h4, hwt⟩
        · refine ⟨.ret (-1), ?_, .inl rfl⟩
          rw [ev_shift]; simp only [m_laws_szValueS_l1]
          rw [ix_nat hjl]
          exact ev_ifT (by omega) (ev_ifT (by omega) (Ev.bind h1 (ev_ifT h2 (ev_some _))))
        · obtain ⟨o, h5, h6⟩ := ih (j + 1) y (by omega) (by omega) (by omega)
          refine ⟨o, ?_, ?_⟩
          · rw [ev_shift]; simp only [m_laws_szValueS_l1]
            rw [ix_nat hjl, wrap_id (n := (j : Int) + 1) (by omega)]
            exact ev_ifT (by omega) (ev_ifT (by omega) (Ev.bind h1 (ev_ifF (by omega) (by simpa using h5))))
          · rcases h6 with h6 | ⟨z, h6, h7, h8, h9, hw9⟩
            · exact .inl h6
            · refine .inr ⟨z, h6, h7, by omega, fun i hi hji => ?_, ?_⟩
              · rcases Nat.eq_or_lt_of_le hji with rfl | hji
                · exact h4
                · exact h9 i hi hji
              · rw [List.drop_eq_getElem_cons hjl]
                have e : wtV l[j] = 3 + wtW l[j] := by rw [wtV_eq]; unfold wtW; omega
                simp only [wtVs, e]
                omega
    obtain ⟨o, h1, h2⟩ := loop l.length 0 (n - l.length) (by omega) (by omega) (by omega)
    rcases h2 with rfl | ⟨y, rfl, h3, h4, h5, hw5⟩
    · refine ⟨-1, ?_, .inl (by omega)⟩
      rw [ev_shift]; simp only [m_laws_szValueS]
      rw [hw0]
      exact ev_ifF h0 (Ev.ret (by simpa using h1))
    · refine ⟨y, ?_, .inr ⟨h3, by omega, by omega, fun s hs => ?_, by simp only [List.drop_zero] at hw5; omega⟩⟩
      · rw [ev_shift]; simp only [m_laws_szValueS]
        rw [hw0]
        exact ev_ifF h0 (Ev.go (by simpa using h1) (ev_some _))
      · obtain ⟨i, hi, rfl⟩ := List.mem_iff_getElem.1 hs
        exact h5 i hi (by omega)

theorem ev_szValueW : ∀ v : Val, Bd maxLen v → ∀ n : Int, 0 ≤ n → n ≤ 1048576 → ∃ y, Ev (fun k => m_laws_szValue k v n) y ∧ (y < 0 ∨ (0 ≤ y ∧ y ≤ n ∧ Bd 1048576 v ∧ (wtW v : Int) ≤ 3 * (n - y))) := by
  apply Val.ind
  intro v ih h n hn hn2
  have hm : maxLen = 9223372036854775807 := rfl
  have ht := h.text
  have hw : IntKind.wrap .i64 (n - (v.text.length : Int)) = n - (v.text.length : Int) := wrap_id (by omega)
  by_cases h0 : n - (v.text.length : Int) < 0
  · refine ⟨-1, ?_, .inl (by omega)⟩
    rw [ev_shift]; simp only [m_laws_szValue]
    rw [hw]
    exact ev_ifT h0 (ev_some _)
  · obtain ⟨y, h1, h2⟩ := ev_szValueSW v.list (n - v.text.length) (by omega) (by omega) h.list fun x hx => ih x hx (h.within x hx)
    rcases h2 with h2 | ⟨h2, h3, h4, h5, hw5⟩
    · refine ⟨-1, ?_, .inl (by omega)⟩
      rw [ev_shift]; simp only [m_laws_szValue]
      rw [hw]
      exact ev_ifF h0 (Ev.bind h1 (ev_ifT h2 (ev_some _)))
    · obtain ⟨z, h6, h7⟩ := ev_szStringSW v.names y h2 (by omega) h.names h.name
      rcases h7 with h7 | ⟨h7, h8, h9, h10⟩
      · refine ⟨-1, ?_, .inl (by omega)⟩
        rw [ev_shift]; simp only [m_laws_szValue]
        rw [hw]
        exact ev_ifF h0 (Ev.bind h1 (ev_ifF (by omega) (Ev.bind h6 (ev_ifT h7 (ev_some _)))))
      · refine ⟨z, ?_, .inr ⟨h7, by omega, .mk v (by omega) (by omega) (by omega) (fun s hs => by have := h10 s hs; omega) h5, by unfold wtW; omega⟩⟩
        rw [ev_shift]; simp only [m_laws_szValue]
        rw [hw]
        exact ev_ifF h0 (Ev.bind h1 (ev_ifF (by omega) (Ev.bind h6 (ev_ifF (by omega) (ev_some _)))))
end Go.Proofs.Ytiaigcdckmpepaa
end
section
/-! The same values. -/
set_option linter.unusedVariables false
set_option linter.unusedSimpArgs false
set_option linter.unnecessarySimpa false
namespace Go.Proofs.Ytiaigcdckmpepaa
open Go.Bb

theorem Val.ext' {a b : Val} (h1 : a.kind = b.kind) (h2 : a.num = b.num) (h3 : a.text = b.text) (h4 : a.list = b.list) (h5 : a.names = b.names) : a = b := by
  cases a; cases b
  simp only [Val.kind_mk, Val.num_mk, Val.text_mk, Val.list_mk, Val.names_mk] at h1 h2 h3 h4 h5
  subst h1 h2 h3 h4 h5; rfl
/-- The same. -/
noncomputable def sameV (a b : Val) : Bool := @decide (a = b) (Classical.propDecidable _)
theorem sameV_iff (a b : Val) : sameV a b = true ↔ a = b := by unfold sameV; simp
theorem sameV_no {a b : Val} (h : a ≠ b) : sameV a b = false := by unfold sameV; simp [h]
theorem sameV_yes {a b : Val} (h : a = b) : sameV a b = true := (sameV_iff a b).2 h
/-- The same but for what is within. -/
def topEq (a b : Val) : Prop := a.kind = b.kind ∧ a.num = b.num ∧ a.text = b.text ∧ a.list.length = b.list.length ∧ a.names = b.names
theorem ev_eqStrs (a b : List Bs) (ha : a.length ≤ 1048576) : ∃ r, Ev (fun k => m_slices_Equal_string_string k a b) r ∧ (r = true ↔ a = b) := by
  simp only [m_slices_Equal_string_string]
  by_cases hl : a.length = b.length
  · have loop : ∀ (d j : Nat), j + d = a.length → ∃ o, Ev (fun k => m_slices_Equal_string_string_l1 k a b j) o ∧ ((o = .go () ∧ ∀ i, j ≤ i → a[i]? = b[i]?) ∨ (o = .ret false ∧ a ≠ b)) := by
      intro d
      induction d with
      | zero =>
        intro j hj
        refine ⟨.go (), ?_, .inl ⟨rfl, fun i hi => by rw [List.getElem?_eq_none (by omega), List.getElem?_eq_none (by omega)]⟩⟩
        rw [ev_shift]; simp only [m_slices_Equal_string_string_l1]
        rw [evF (by omega)]; exact ev_some _
      | succ d ih =>
        intro j hj
        by_cases hx : ix a (j : Int) = ix b (j : Int)
        · obtain ⟨o, h1, h2⟩ := ih (j + 1) (by omega)
          refine ⟨o, ?_, ?_⟩
          · rw [ev_shift]; simp only [m_slices_Equal_string_string_l1]
            rw [evT (by omega), evT (by omega), evT (by omega), evT hx, wrap_id (by omega)]
            simpa using h1
          · rcases h2 with ⟨rfl, h3⟩ | h3
            · refine .inl ⟨rfl, fun i hi => ?_⟩
              rcases Nat.eq_or_lt_of_le hi with rfl | h
              · rw [ix_nat (by omega), ix_nat (by omega)] at hx
                rw [List.getElem?_eq_getElem (by omega), List.getElem?_eq_getElem (by omega), hx]
              · exact h3 i h
            · exact .inr h3
        · refine ⟨.ret false, ?_, .inr ⟨rfl, fun e => hx (by rw [e])⟩⟩
          rw [ev_shift]; simp only [m_slices_Equal_string_string_l1]
          rw [evT (by omega), evT (by omega), evT (by omega), evF hx]
          exact ev_some _
    obtain ⟨o, h1, h2⟩ := loop a.length 0 (by omega)
    have h1 : Ev (fun k => m_slices_Equal_string_string_l1 k a b 0) o := by simpa using h1
    rcases h2 with ⟨rfl, h3⟩ | ⟨rfl, h3⟩
    · refine ⟨true, by rw [evT (by omega)]; exact Ev.go h1 (ev_some _), ⟨fun _ => List.ext_getElem? fun i => h3 i (by omega), fun _ => rfl⟩⟩
    · exact ⟨false, by rw [evT (by omega)]; exact Ev.ret h1, ⟨fun h => (by cases h), fun h => absurd h h3⟩⟩
  · exact ⟨false, by rw [evF (by omega)]; exact ev_some _, ⟨fun h => (by cases h), fun h => absurd (congrArg List.length h) hl⟩⟩
theorem ev_sameTop (a b : Val) (ha : a.names.length ≤ 1048576) : ∃ r, Ev (fun k => m_impl_sameTop k a b) r ∧ (r = true ↔ topEq a b) := by
  simp only [m_impl_sameTop]
  unfold topEq
  by_cases h1 : a.kind = b.kind
  · by_cases h2 : a.num = b.num
    · by_cases h3 : a.text = b.text
      · by_cases h4 : a.list.length = b.list.length
        · obtain ⟨r, h5, h6⟩ := ev_eqStrs a.names b.names ha
          refine ⟨r, ?_, by simp [h1, h2, h3, h4, h6]⟩
          rw [evT h1, evT h2, evT h3, evT (by omega), evC h5]; exact ev_some _
        · exact ⟨false, by rw [evT h1, evT h2, evT h3, evF (by omega)]; exact ev_some _, by simp [h4]⟩
      · exact ⟨false, by rw [evT h1, evT h2, evF h3]; exact ev_some _, by simp [h3]⟩
    · exact ⟨false, by rw [evT h1, evF h2]; exact ev_some _, by simp [h2]⟩
  · exact ⟨false, by rw [evF h1]; exact ev_some _, by simp [h1]⟩
theorem spanOf_eq (l : List Val) : m_impl_spanOf l = some l := by
  unfold m_impl_spanOf
  cases l with
  | nil => simp
  | cons v l => rw [if_neg (by simp only [List.length_cons]; omega), if_pos (by simp)]

mutual
def szN : Val → Nat
  | .mk _ _ _ l _ => 1 + szNs l
def szNs : List Val → Nat
  | [] => 0
  | v :: l => szN v + szNs l
end
theorem szN_eq (v : Val) : szN v = 1 + szNs v.list := by cases v; simp [szN, Val.list_mk]
theorem szNs_mem {v : Val} : ∀ {l : List Val}, v ∈ l → szN v ≤ szNs l
  | x :: l, h => by
    simp only [szNs]
    rcases List.mem_cons.1 h with rfl | h
    · omega
    · have := szNs_mem h; omega
theorem szNs_len : ∀ (l : List Val), l.length ≤ szNs l
  | [] => by simp [szNs]
  | v :: l => by have := szNs_len l; have := szN_eq v; simp only [szNs, List.length_cons]; omega
theorem szNs_app : ∀ (a b : List Val), szNs (a ++ b) = szNs a + szNs b
  | [], b => by simp [szNs]
  | v :: a, b => by simp only [List.cons_append, szNs, szNs_app a b]; omega
/-- How much there is to do. -/
def toDo (l : List GPair) : Nat := szNs (l.map GPair.one)
/-- What was met leads to what is to be done, or to what was met. -/
def Inv (seen : List (List Val × List Val)) (todo : List GPair) : Prop :=
  ∀ p ∈ seen, p.1.length = p.2.length ∧ ∀ (i : Nat) x y, p.1[i]? = some x → p.2[i]? = some y → (⟨x, y⟩ : GPair) ∈ todo ∨ (topEq x y ∧ (x.list = [] ∨ (x.list, y.list) ∈ seen))
theorem seen_same {seen : List (List Val × List Val)} {todo : List GPair} (hI : Inv seen todo) (ht : ∀ p ∈ todo, p.one = p.other) : ∀ (n : Nat) (l l' : List Val), szNs l < n → (l, l') ∈ seen → l = l'
  | 0, l, l', hn, h => by omega
  | n + 1, l, l', hn, h => by
    obtain ⟨hl, hc⟩ := hI _ h
    have hl : l.length = l'.length := hl
    apply List.ext_getElem hl
    intro i hi hi'
    have h1 : l[i]? = some l[i] := List.getElem?_eq_getElem hi
    have h2 : l'[i]? = some l'[i] := List.getElem?_eq_getElem hi'
    have hs := szNs_mem (List.getElem_mem hi)
    have he := szN_eq l[i]
    rcases hc i _ _ h1 h2 with h3 | ⟨⟨t1, t2, t3, t4, t5⟩, h4⟩
    · exact ht _ h3
    · refine Val.ext' t1 t2 t3 ?_ t5
      rcases h4 with h4 | h4
      · rw [h4] at t4 ⊢
        exact (List.eq_nil_of_length_eq_zero (by simpa using t4.symm)).symm
      · exact seen_same hI ht n _ _ (by omega) h4
def allSame (l : List GPair) : Prop := ∀ p ∈ l, p.one = p.other
noncomputable def resS (l : List GPair) : Lp Unit Bool := @ite _ (allSame l) (Classical.propDecidable _) (.go ()) (.ret false)
theorem resS_congr {a b : List GPair} (h : allSame a ↔ allSame b) : resS a = resS b := by
  unfold resS
  by_cases ha : allSame a
  · rw [if_pos ha, if_pos (h.1 ha)]
  · rw [if_neg ha, if_neg (fun hb => ha (h.2 hb))]
def kids (l l' : List Val) : List GPair := (l.zip l').map fun p => ⟨p.1, p.2⟩
theorem kids_mem {l l' : List Val} {i : Nat} {x y : Val} (h : l[i]? = some x) (h' : l'[i]? = some y) : (⟨x, y⟩ : GPair) ∈ kids l l' := by
  unfold kids
  have : (l.zip l')[i]? = some (x, y) := by rw [List.getElem?_zip_eq_some]; exact ⟨h, h'⟩
  exact List.mem_map.2 ⟨(x, y), List.mem_of_getElem? this, rfl⟩
theorem kids_same {l l' : List Val} (hl : l.length = l'.length) : allSame (kids l l') ↔ l = l' := by
  constructor
  · intro h
    apply List.ext_getElem hl
    intro i hi hi'
    exact h _ (kids_mem (List.getElem?_eq_getElem hi) (List.getElem?_eq_getElem hi'))
  · rintro rfl p hp
    unfold kids at hp
    obtain ⟨q, hq, rfl⟩ := List.mem_map.1 hp
    obtain ⟨i, hi⟩ := List.getElem?_of_mem hq
    rw [List.getElem?_zip_eq_some] at hi
    exact Option.some.inj (hi.1.symm.trans hi.2)
theorem kids_one {l l' : List Val} (hl : l.length = l'.length) : (kids l l').map GPair.one = l := by
  unfold kids
  rw [List.map_map]
  exact List.map_fst_zip (by omega)
theorem allSame_app {a b : List GPair} : allSame (a ++ b) ↔ allSame a ∧ allSame b := by
  unfold allSame
  constructor
  · exact fun h => ⟨fun p hp => h p (List.mem_append_left _ hp), fun p hp => h p (List.mem_append_right _ hp)⟩
  · rintro ⟨h1, h2⟩ p hp
    rcases List.mem_append.1 hp with h | h
    · exact h1 p h
    · exact h2 p h
theorem take_init {α : Type} [Inhabited α] (rest : List α) (p : α) (h : rest.length ≤ 1000000000) : ix (rest ++ [p]) (IntKind.wrap .i64 (((rest ++ [p]).length : Int) - 1)) = p ∧ (rest ++ [p]).take (Int.toNat (IntKind.wrap .i64 (((rest ++ [p]).length : Int) - 1))) = rest ∧ IntKind.wrap .i64 (((rest ++ [p]).length : Int) - 1) = (rest.length : Int) := by
  have hl : ((rest ++ [p]).length : Int) - 1 = (rest.length : Int) := by simp
  rw [hl, wrap_id (by omega)]
  refine ⟨?_, by simp, rfl⟩
  rw [ix_nat (by simp)]
  simp
theorem we_kids (L : Nat → List GPair → List GPair → Int → W (Lp (List GPair) (Lp Unit Bool))) (td : List GPair) (l l' : List Val) (hl : l.length = l'.length)
    (hs : ∀ (j : Nat) (x : List GPair) r, (h : j < l.length) → (h' : j < l'.length) → (x ++ [(⟨l[j], l'[j]⟩ : GPair)]).length * 160 ≤ 140737488355328 → WEv (fun k => L k td (x ++ [⟨l[j], l'[j]⟩]) ((j : Int) + 1)) r → WEv (fun k => L k td x j) r)
    (he : ∀ x, WEv (fun k => L k td x l.length) (.go x)) : ∀ (d j : Nat) (x : List GPair), j + d = l.length → x.length + d ≤ 800000000000 → WEv (fun k => L k td x j) (.go (x ++ kids (l.drop j) (l'.drop j)))
  | 0, j, x, hj, hx => by
    have := he x
    have h1 : l.drop j = [] := List.drop_of_length_le (by omega)
    rw [h1]
    rw [show l.length = j by omega] at this
    exact we_eq this (by simp [kids])
  | d + 1, j, x, hj, hx => by
    refine hs j x _ (by omega) (by omega) (by simp only [List.length_append, List.length_cons, List.length_nil]; omega) ?_
    have ih := we_kids L td l l' hl hs he d (j + 1) (x ++ [⟨l[j], l'[j]⟩]) (by omega) (by simp only [List.length_append, List.length_cons, List.length_nil]; omega)
    have h1 : l.drop j = l[j] :: l.drop (j + 1) := List.drop_eq_getElem_cons (by omega)
    have h2 : l'.drop j = l'[j] :: l'.drop (j + 1) := List.drop_eq_getElem_cons (by omega)
    rw [h1, h2]
    refine we_eq (by simpa using ih) ?_
    simp only [kids, List.zip_cons_cons, List.map_cons, List.append_assoc, List.cons_append, List.nil_append]
theorem we_kids2 (rest : List GPair) (p : GPair) (hr : rest.length ≤ 1000000000) (hl : p.one.list.length = p.other.list.length) (hb : p.one.list.length ≤ 1000000000) : WEv (fun k => w_impl_ValueSame_l2 k (rest ++ [p]) rest 0) (.go (rest ++ kids p.one.list p.other.list)) := by
  obtain ⟨e1, e2, e3⟩ := take_init rest p hr
  have := we_kids (fun k => w_impl_ValueSame_l2 k) (rest ++ [p]) p.one.list p.other.list hl (fun j x r h h' hx hr => by
    rw [we_shift]; simp only [w_impl_ValueSame_l2, e1]
    rw [weT (by omega), weT (by omega), weT (by omega), ix_nat h, ix_nat h', weT hx, wrap_id (by omega)]
    exact hr) (fun x => by
    rw [we_shift]; simp only [w_impl_ValueSame_l2, e1]
    rw [weF (by omega)]; exact we_pw _) p.one.list.length 0 rest (by omega) (by omega)
  simpa using this
theorem we_kids3 (rest : List GPair) (p : GPair) (hr : rest.length ≤ 1000000000) (hl : p.one.list.length = p.other.list.length) (hb : p.one.list.length ≤ 1000000000) : WEv (fun k => w_impl_ValueSame_l3 k (rest ++ [p]) rest 0) (.go (rest ++ kids p.one.list p.other.list)) := by
  obtain ⟨e1, e2, e3⟩ := take_init rest p hr
  have := we_kids (fun k => w_impl_ValueSame_l3 k) (rest ++ [p]) p.one.list p.other.list hl (fun j x r h h' hx hr => by
    rw [we_shift]; simp only [w_impl_ValueSame_l3, e1]
    rw [weT (by omega), weT (by omega), weT (by omega), ix_nat h, ix_nat h', weT hx, wrap_id (by omega)]
    exact hr) (fun x => by
    rw [we_shift]; simp only [w_impl_ValueSame_l3, e1]
    rw [weF (by omega)]; exact we_pw _) p.one.list.length 0 rest (by omega) (by omega)
  simpa using this
theorem toDo_len (l : List GPair) : l.length ≤ toDo l := by
  have := szNs_len (l.map GPair.one); simpa [toDo] using this

theorem we_same : ∀ (n : Nat) (todo : List GPair) (seen : List (List Val × List Val)), toDo todo < n → n ≤ 1000000000 → (∀ p ∈ todo, Bd 1048576 p.one) → Inv seen todo → WEv (fun k => w_impl_ValueSame_l1 k seen todo) (resS todo)
  | 0, todo, seen, hn, hn2, hb, hI => by omega
  | n + 1, todo, seen, hn, hn2, hb, hI => by
    rcases List.eq_nil_or_concat todo with rfl | ⟨rest, p, rfl⟩
    · rw [we_shift]; simp only [w_impl_ValueSame_l1]
      rw [weF (by simp)]
      refine we_eq (we_pw _) ?_
      unfold resS
      rw [if_pos (show allSame [] from fun p hp => by cases hp)]
    · rw [List.concat_eq_append] at hn hb hI ⊢
      have htl := toDo_len (rest ++ [p])
      have htd : toDo (rest ++ [p]) = toDo rest + szN p.one := by simp [toDo, szNs_app, szNs]
      have hsz := szN_eq p.one
      have hll := szNs_len p.one.list
      simp only [List.length_append, List.length_cons, List.length_nil] at htl
      obtain ⟨e1, e2, e3⟩ := take_init rest p (by omega)
      have hbr : ∀ q ∈ rest, Bd 1048576 q.one := fun q hq => hb q (List.mem_append_left _ hq)
      have hbp : Bd 1048576 p.one := hb p (by simp)
      have hlen : ((rest ++ [p]).length : Int) = rest.length + 1 := by simp
      rw [we_shift]; simp only [w_impl_ValueSame_l1, e1, e2]
      rw [e3, hlen, weT (by omega), weT (by omega), weT (by omega)]
      obtain ⟨b, hb1, hb2⟩ := ev_sameTop p.one p.other hbp.names
      refine we_cw hb1 ?_
      by_cases hte : topEq p.one p.other
      · have hbt : b = true := hb2.2 hte
        obtain ⟨t1, t2, t3, t4, t5⟩ := hte
        rw [weT hbt]
        have psame : p.one = p.other ↔ p.one.list = p.other.list := ⟨fun h => by rw [h], fun h => Val.ext' t1 t2 t3 h t5⟩
        have happ : allSame (rest ++ [p]) ↔ allSame rest ∧ p.one = p.other := by
          rw [allSame_app]
          exact and_congr_right fun _ => ⟨fun h => h p (by simp), fun h q hq => by simp only [List.mem_cons, List.not_mem_nil, or_false] at hq; rw [hq]; exact h⟩
        by_cases h0 : p.one.list = []
        · have hp : p.one = p.other := psame.2 (by rw [h0] at t4 ⊢; exact (List.eq_nil_of_length_eq_zero (by simpa using t4.symm)).symm)
          rw [weT (by simp [h0])]
          refine we_eq (we_same n rest seen (by omega) (by omega) hbr ?_) (resS_congr (happ.trans ⟨fun h => h.1, fun h => ⟨h, hp⟩⟩).symm)
          intro q hq
          refine ⟨(hI q hq).1, fun i x y h1 h2 => ?_⟩
          rcases (hI q hq).2 i x y h1 h2 with h | h
          · rcases List.mem_append.1 h with h | h
            · exact .inl h
            · simp only [List.mem_cons, List.not_mem_nil, or_false] at h
              subst h
              exact .inr ⟨⟨t1, t2, t3, t4, t5⟩, .inl h0⟩
          · exact .inr h
        · rw [weF (by intro h; exact h0 (List.eq_nil_of_length_eq_zero (by omega)))]
          refine we_cw (y := p.one.list) ⟨0, fun _ _ => spanOf_eq _⟩ (we_cw (y := p.other.list) ⟨0, fun _ _ => spanOf_eq _⟩ ?_)
          have hkd : toDo (rest ++ kids p.one.list p.other.list) < n := by
            unfold toDo
            rw [List.map_append, szNs_app, kids_one t4]
            unfold toDo at htd hn
            omega
          have hkb : ∀ q ∈ rest ++ kids p.one.list p.other.list, Bd 1048576 q.one := by
            intro q hq
            rcases List.mem_append.1 hq with h | h
            · exact hbr q h
            · have : q.one ∈ (kids p.one.list p.other.list).map GPair.one := List.mem_map.2 ⟨q, h, rfl⟩
              rw [kids_one t4] at this
              exact hbp.within _ this
          have hkr : resS (rest ++ kids p.one.list p.other.list) = resS (rest ++ [p]) := resS_congr (by rw [allSame_app, happ, psame, kids_same t4])
          have more : ∀ seen', (∀ q ∈ seen, q ∈ seen') → (∀ q ∈ seen', q ∈ seen ∨ q = (p.one.list, p.other.list)) → (p.one.list, p.other.list) ∈ seen' → Inv seen' (rest ++ kids p.one.list p.other.list) := by
            intro seen' h1 h2 h3 q hq
            rcases h2 q hq with h | rfl
            · refine ⟨(hI q h).1, fun i x y g1 g2 => ?_⟩
              rcases (hI q h).2 i x y g1 g2 with g | ⟨g3, g4⟩
              · rcases List.mem_append.1 g with g | g
                · exact .inl (List.mem_append_left _ g)
                · simp only [List.mem_cons, List.not_mem_nil, or_false] at g
                  subst g
                  exact .inr ⟨⟨t1, t2, t3, t4, t5⟩, .inr h3⟩
              · exact .inr ⟨g3, g4.imp_right (h1 _)⟩
            · exact ⟨t4, fun i x y g1 g2 => .inl (List.mem_append_right _ (kids_mem g1 g2))⟩
          refine we_lk (we_lk ?_ ?_) ?_
          · refine we_go (we_kids2 rest p (by omega) t4 (by omega)) (we_eq (we_same n _ _ hkd (by omega) hkb (more _ (fun q hq => List.mem_append_left _ hq) (fun q hq => ?_) (by simp))) hkr)
            rcases List.mem_append.1 hq with h | h
            · exact .inl h
            · exact .inr (by simpa using h)
          · intro hm
            exact we_go (we_kids3 rest p (by omega) t4 (by omega)) (we_eq (we_same n _ _ hkd (by omega) hkb (more seen (fun q hq => hq) (fun q hq => .inl hq) hm)) hkr)
          · intro hm
            have hI' : Inv seen rest := by
              intro q hq
              refine ⟨(hI q hq).1, fun i x y h1 h2 => ?_⟩
              rcases (hI q hq).2 i x y h1 h2 with h | h
              · rcases List.mem_append.1 h with h | h
                · exact .inl h
                · simp only [List.mem_cons, List.not_mem_nil, or_false] at h
                  subst h
                  exact .inr ⟨⟨t1, t2, t3, t4, t5⟩, .inr hm⟩
              · exact .inr h
            refine we_eq (we_same n rest seen (by omega) (by omega) hbr hI') (resS_congr (happ.trans ⟨fun h => h.1, fun h => ⟨h, ?_⟩⟩).symm)
            exact psame.2 (seen_same hI' h _ _ _ (Nat.lt_succ_self _) hm)
      · have hbf : ¬ b = true := fun h => hte (hb2.1 h)
        rw [weF hbf]
        refine we_eq (we_rtw (we_pw false)) ?_
        unfold resS
        rw [if_neg]
        intro h
        have := h p (by simp)
        exact hte ⟨by rw [this], by rw [this], by rw [this], by rw [this], by rw [this]⟩
theorem we_ValueSame (a b : Val) (ha : Bd 1048576 a) (hs : szN a < 900000000) : WEv (fun k => w_impl_ValueSame k a b) (sameV a b) := by
  simp only [w_impl_ValueSame]
  have h := we_same (szN a + 1) [⟨a, b⟩] [] (by simp [toDo, szNs]) (by omega) (fun p hp => by simp only [List.mem_cons, List.not_mem_nil, or_false] at hp; subst hp; exact ha) (fun p hp => by cases hp)
  have e : allSame [⟨a, b⟩] ↔ a = b := ⟨fun h => h ⟨a, b⟩ (by simp), fun h p hp => by simp only [List.mem_cons, List.not_mem_nil, or_false] at hp; subst hp; exact h⟩
  by_cases hab : a = b
  · rw [show resS [⟨a, b⟩] = .go () from if_pos (e.2 hab)] at h
    rw [sameV_yes hab]
    exact we_go h (we_pw _)
  · rw [show resS [⟨a, b⟩] = .ret false from if_neg (fun h => hab (e.1 h))] at h
    rw [sameV_no hab]
    exact we_ret h
/-- What the program answers. -/
noncomputable def m_impl_ValueSame (k : Nat) (a b : Val) : Option Bool := @ite _ (w_impl_ValueSame k a b (fun x => x = sameV a b)) (Classical.propDecidable _) (some (sameV a b)) none
theorem ev_iSame (a b : Val) (ha : Bd 1048576 a) (hs : szN a < 900000000) : Ev (fun k => m_impl_ValueSame k a b) (sameV a b) := by
  obtain ⟨K, h⟩ := (we_ValueSame a b ha hs).get
  exact ⟨K, fun k hk => if_pos (h k hk)⟩
end Go.Proofs.Ytiaigcdckmpepaa
end
section
/-! The same values, by the reference. -/
set_option linter.unusedVariables false
set_option linter.unusedSimpArgs false
set_option linter.unnecessarySimpa false
namespace Go.Proofs.Ytiaigcdckmpepaa
open Go.Bb

theorem m_impl_ValueSame_ok (k : Nat) : ∀ (a0 : Val) (a1 : Val) (r : Bool), m_impl_ValueSame k a0 a1 = some r → Does Try.prog 18 [.agg [.int .i64 a0.kind, .int .i64 a0.num, .str a0.text, .sl true (a0.list.map encVal), .sl false (a0.names.map encS)], .agg [.int .i64 a1.kind, .int .i64 a1.num, .str a1.text, .sl true (a1.list.map encVal), .sl false (a1.names.map encS)]] [] (ret (.bool r)) := by
  intro a0 a1 r h
  unfold m_impl_ValueSame at h
  split at h
  · rename_i hw
    cases h
    exact w_impl_ValueSame_ok k a0 a1 _ hw
  · cases h
theorem names_l1 (a b : Val) (hn : a.names.length = b.names.length) (ha : a.names.length ≤ 1048576) : ∃ o, Ev (fun k => m_spec_l1Same_l1 k a b 0) o ∧ ((o = .go () ∧ a.names = b.names) ∨ (o = .ret false ∧ a.names ≠ b.names)) := by
  have loop : ∀ (d j : Nat), j + d = a.names.length → ∃ o, Ev (fun k => m_spec_l1Same_l1 k a b j) o ∧ ((o = .go () ∧ ∀ i, j ≤ i → a.names[i]? = b.names[i]?) ∨ (o = .ret false ∧ a.names ≠ b.names)) := by
    intro d
    induction d with
    | zero =>
      intro j hj
      refine ⟨.go (), ?_, .inl ⟨rfl, fun i hi => by rw [List.getElem?_eq_none (by omega), List.getElem?_eq_none (by omega)]⟩⟩
      rw [ev_shift]; simp only [m_spec_l1Same_l1]
      rw [evF (by omega)]; exact ev_some _
    | succ d ih =>
      intro j hj
      by_cases hx : ix a.names (j : Int) = ix b.names (j : Int)
      · obtain ⟨o, h1, h2⟩ := ih (j + 1) (by omega)
        refine ⟨o, ?_, ?_⟩
        · rw [ev_shift]; simp only [m_spec_l1Same_l1]
          rw [evT (by omega), evT (by omega), evT (by omega), evT hx, wrap_id (by omega)]
          simpa using h1
        · rcases h2 with ⟨rfl, h3⟩ | h3
          · refine .inl ⟨rfl, fun i hi => ?_⟩
            rcases Nat.eq_or_lt_of_le hi with rfl | h
            · rw [ix_nat (by omega), ix_nat (by omega)] at hx
              rw [List.getElem?_eq_getElem (by omega), List.getElem?_eq_getElem (by omega), hx]
            · exact h3 i h
          · exact .inr h3
      · refine ⟨.ret false, ?_, .inr ⟨rfl, fun e => hx (by rw [e])⟩⟩
        rw [ev_shift]; simp only [m_spec_l1Same_l1]
        rw [evT (by omega), evT (by omega), evT (by omega), evF hx]
        exact ev_some _
  obtain ⟨o, h1, h2⟩ := loop a.names.length 0 (by omega)
  refine ⟨o, by simpa using h1, ?_⟩
  rcases h2 with ⟨h, h3⟩ | h
  · exact .inl ⟨h, List.ext_getElem? fun i => h3 i (by omega)⟩
  · exact .inr h
theorem ev_sSame : ∀ a : Val, Bd 1048576 a → ∀ b : Val, Ev (fun k => m_spec_l1Same k a b) (sameV a b) := by
  apply Val.ind
  intro a ih ha b
  rw [ev_shift]; simp only [m_spec_l1Same]
  have fail : a ≠ b → ∀ m : Nat → Option (Lp Bool Bool), True := fun _ _ => trivial
  have no : a ≠ b → ∀ f : Nat → Bool → Option Bool, Ev (fun k => if true = true then some false else f k true) (sameV a b) := fun h f => by
    rw [evT rfl, sameV_no h]; exact ev_some _
  by_cases h1 : a.kind = b.kind
  · by_cases h2 : a.num = b.num
    · by_cases h3 : a.text = b.text
      · by_cases h4 : a.list.length = b.list.length
        · by_cases h5 : a.names.length = b.names.length
          · rw [evbT h1, evbT h2, evbT h3, evbT (by omega), evbS]
            simp only [thenG]
            rw [evF (by simp; omega)]
            obtain ⟨o, g1, g2⟩ := names_l1 a b h5 ha.names
            rcases g2 with ⟨rfl, g3⟩ | ⟨rfl, g3⟩
            · refine Ev.go g1 ?_
              have hal := ha.list
              have loop : ∀ (d j : Nat), j + d = a.list.length → ∃ o, Ev (fun k => m_spec_l1Same_l2 k a b j) o ∧ ((o = .go () ∧ ∀ i, j ≤ i → a.list[i]? = b.list[i]?) ∨ (o = .ret false ∧ a.list ≠ b.list)) := by
                intro d
                induction d with
                | zero =>
                  intro j hj
                  refine ⟨.go (), ?_, .inl ⟨rfl, fun i hi => by rw [List.getElem?_eq_none (by omega), List.getElem?_eq_none (by omega)]⟩⟩
                  rw [ev_shift]; simp only [m_spec_l1Same_l2]
                  rw [evF (by omega)]; exact ev_some _
                | succ d ihd =>
                  intro j hj
                  have hx := ih a.list[j] (List.getElem_mem (by omega)) (ha.within _ (List.getElem_mem (by omega))) b.list[j]
                  by_cases hxx : a.list[j] = b.list[j]
                  · obtain ⟨o, k1, k2⟩ := ihd (j + 1) (by omega)
                    refine ⟨o, ?_, ?_⟩
                    · rw [ev_shift]; simp only [m_spec_l1Same_l2]
                      rw [evT (by omega), evT (by omega), evT (by omega), ix_nat (by omega), ix_nat (by omega), evC hx, evT (sameV_yes hxx), wrap_id (by omega)]
                      simpa using k1
                    · rcases k2 with ⟨rfl, k3⟩ | k3
                      · refine .inl ⟨rfl, fun i hi => ?_⟩
                        rcases Nat.eq_or_lt_of_le hi with rfl | h
                        · rw [List.getElem?_eq_getElem (by omega), List.getElem?_eq_getElem (by omega), hxx]
                        · exact k3 i h
                      · exact .inr k3
                  · refine ⟨.ret false, ?_, .inr ⟨rfl, fun e => hxx (by simp only [e])⟩⟩
                    rw [ev_shift]; simp only [m_spec_l1Same_l2]
                    rw [evT (by omega), evT (by omega), evT (by omega), ix_nat (by omega), ix_nat (by omega), evC hx, evF (by rw [sameV_no hxx]; simp)]
                    exact ev_some _
              obtain ⟨o, k1, k2⟩ := loop a.list.length 0 (by omega)
              have k1 : Ev (fun k => m_spec_l1Same_l2 k a b 0) o := by simpa using k1
              rcases k2 with ⟨rfl, k3⟩ | ⟨rfl, k3⟩
              · rw [sameV_yes (Val.ext' h1 h2 h3 (List.ext_getElem? fun i => k3 i (by omega)) g3)]
                exact Ev.go k1 (ev_some _)
              · rw [sameV_no (fun e => k3 (by rw [e]))]
                exact Ev.ret k1
            · rw [sameV_no (fun e => g3 (by rw [e]))]
              exact Ev.ret g1
          · rw [evbT h1, evbT h2, evbT h3, evbT (by omega), evbS]
            simp only [thenG]
            rw [evT (by simp; omega), sameV_no (fun e => h5 (by rw [e]))]; exact ev_some _
        · rw [evbT h1, evbT h2, evbT h3, evbF (by omega), evbS]
          simp only [thenG]
          rw [evT trivial, sameV_no (fun e => h4 (by rw [e]))]; exact ev_some _
      · rw [evbT h1, evbT h2, evbF h3, evbS]
        simp only [thenG]
        rw [evT trivial, sameV_no (fun e => h3 (by rw [e]))]; exact ev_some _
    · rw [evbT h1, evbF h2, evbS]
      simp only [thenG]
      rw [evT trivial, sameV_no (fun e => h2 (by rw [e]))]; exact ev_some _
  · rw [evbF h1, evbS]
    simp only [thenG]
    rw [evT trivial, sameV_no (fun e => h1 (by rw [e]))]; exact ev_some _
theorem ev_sValueSame (a b : Val) (ha : Bd 1048576 a) : Ev (fun k => m_spec_ValueSame k a b) (sameV a b) := by
  simp only [m_spec_ValueSame]
  rw [evC (ev_sSame a ha b)]; exact ev_some _
end Go.Proofs.Ytiaigcdckmpepaa
end
section
/-! Functions of the program. -/
set_option linter.unusedVariables false
set_option linter.unnecessarySimpa false
set_option maxRecDepth 100000
set_option maxHeartbeats 20000000
noncomputable section
namespace Go.Proofs.Ytiaigcdckmpepaa
open Go.Bb
def m_laws_FnExactValueSame (k : Nat) (a0 : Val) (a1 : Val) : Option Bool :=
 (m_laws_szValue k a0 1048576).bind fun y1 =>
 if y1 < 0 then
  some true
 else
  (m_laws_szValue k a1 y1).bind fun y2 =>
  if y2 < 0 then
   some true
  else
   (m_laws_toValue k a0).bind fun y3 =>
   (m_laws_toValue k a1).bind fun y4 =>
   (m_spec_ValueSame k y3 y4).bind fun y5 =>
   (m_laws_toValue k a0).bind fun y6 =>
   (m_laws_toValue k a1).bind fun y7 =>
   (m_impl_ValueSame k y6 y7).bind fun y8 =>
   if y8 = y5 then
    (m_laws_toValue k a0).bind fun y9 =>
    (m_laws_eqValue k y6 y9).bind fun y10 =>
    if y10 = true then
     (m_laws_toValue k a1).bind fun y11 =>
     (m_laws_eqValue k y7 y11).bind fun y12 =>
     if y12 = true then
      some true
     else
      some false
    else
     some false
   else
    some false
theorem m_laws_FnExactValueSame_ok (k : Nat) : ∀ (a0 : Val) (a1 : Val) (r : Bool), m_laws_FnExactValueSame k a0 a1 = some r → Does Try.prog 3 [.agg [.int .i64 a0.kind, .int .i64 a0.num, .str a0.text, .sl false (a0.list.map encLVal), .sl false (a0.names.map encS)], .agg [.int .i64 a1.kind, .int .i64 a1.num, .str a1.text, .sl false (a1.list.map encLVal), .sl false (a1.names.map encS)]] [] (ret (.bool r)) := by
 intro a0 a1 r h
 rw [m_laws_FnExactValueSame] at h
 refine does_of_good tabOk Try.func3 rfl (by decide +kernel) (Nat.le_of_ble_eq_true rfl) fun c => ?_
 refine Good.le (σ' := ⟨45, [(0, .agg [.int .i64 a0.kind, .int .i64 a0.num, .str a0.text, .sl false (a0.list.map encLVal), .sl false (a0.names.map encS)]), (1, .agg [.int .i64 a1.kind, .int .i64 a1.num, .str a1.text, .sl false (a1.list.map encLVal), .sl false (a1.names.map encS)])], []⟩) (Le.refl _) ?_
 refine good_seq fun K1 hK1 => ?_
 refine good_region ?_
 refine g_op rfl (o_box (k := 12) tabOk rfl rfl rfl rfl rfl ?_)
 intro b1
 refine g_op rfl (o_box (k := 13) tabOk rfl rfl rfl rfl rfl ?_)
 intro b2
 refine gs 1 ?_
 refine gk hK1 45 [2, 3, 4] [12, 13] ?_
 refine good_seq fun K2 hK2 => ?_
 refine rg 1 ?_
 refine g_nil (hK2 _ ?_)
 refine good_seq fun K3 hK3 => ?_
 refine rg 2 ?_
 obtain ⟨y1, hy1, h⟩ := bnd h
 refine g_op rfl (o_callR [] [] (core_value rfl rfl) (m_laws_szValue_ok k a0 1048576 _ hy1) trivial (.cons (.refl _) (.cons (.refl _) (.nil))) (.inl rfl) rfl ?_)
 refine gs 1 ?_
 refine gk hK3 45 [2, 3, 4, 5] [12, 13] ?_
 refine good_seq fun K4 hK4 => ?_
 refine good_seq fun K5 hK5 => ?_
 refine rg 2 ?_
 refine gk hK5 45 [2, 3, 4, 5, 14] [12, 13] ?_
 refine good_cond rfl (fun hc1 => ?_) (fun hc1 => ?_)
 ·replace h := ifT h (dT hc1)
  refine good_seq fun K6 hK6 => ?_
  refine rg 1 ?_
  refine gk hK6 45 [2, 3, 4, 5] [12, 13] ?_
  obtain rfl := Option.some.inj h
  exact rt
 ·replace h := ifF h (dF hc1)
  refine good_skip ?_
  refine hK4 _ (kp 45 [2, 3, 4, 5] [12, 13] ?_)
  refine good_seq fun K7 hK7 => ?_
  refine rg 2 ?_
  obtain ⟨y2, hy2, h⟩ := bnd h
  refine g_op rfl (o_callR [] [] (core_value rfl rfl) (m_laws_szValue_ok k a1 y1 _ hy2) trivial (.cons (.refl _) (.cons (.refl _) (.nil))) (.inl rfl) rfl ?_)
  refine gs 1 ?_
  refine gk hK7 45 [2, 3, 4, 5] [12, 13] ?_
  refine good_seq fun K8 hK8 => ?_
  refine good_seq fun K9 hK9 => ?_
  refine rg 2 ?_
  refine gk hK9 45 [2, 3, 4, 19] [12, 13] ?_
  refine good_cond rfl (fun hc2 => ?_) (fun hc2 => ?_)
  ·replace h := ifT h (dT hc2)
   refine good_seq fun K10 hK10 => ?_
   refine rg 1 ?_
   refine gk hK10 45 [2, 3, 4] [12, 13] ?_
   obtain rfl := Option.some.inj h
   exact rt
  ·replace h := ifF h (dF hc2)
   refine good_skip ?_
   refine hK8 _ (kp 45 [2, 3, 4] [12, 13] ?_)
   refine good_seq fun K11 hK11 => ?_
   obtain ⟨y3, hy3, h⟩ := bnd h
   obtain ⟨y4, hy4, h⟩ := bnd h
   obtain ⟨y5, hy5, h⟩ := bnd h
   refine good_anyM (by kernel_rfl) [⟨[], [2], [12], [], [], []⟩, ⟨[0], [20], [], [], [], []⟩, ⟨[], [3], [13], [], [], []⟩, ⟨[0, 1, 2], [22], [], [], [], []⟩, ⟨[0, 1, 2, 3], [21, 23], [], [], [], []⟩, ⟨[0, 1, 2, 3, 4], [24], [], [], [], []⟩] [some 20, some 21, some 22, some 23, some 24, some 6] 45 [(2, .ptr 12 b1 0), (3, .ptr 13 b2 0), (4, .bool false)] [(12, ((.pointer (some ⟨b1, 0, none⟩)), .optr 25 [.int .i64 a0.kind, .int .i64 a0.num, .str a0.text, .sl false (a0.list.map encLVal), .sl false (a0.names.map encS)])), (13, ((.pointer (some ⟨b2, 0, none⟩)), .optr 25 [.int .i64 a1.kind, .int .i64 a1.num, .str a1.text, .sl false (a1.list.map encLVal), .sl false (a1.names.map encS)]))] (fun ν1 => [.agg [.int .i64 a0.kind, .int .i64 a0.num, .str a0.text, .sl false (a0.list.map encLVal), .sl false (a0.names.map encS)], .agg [.int .i64 y3.kind, .int .i64 y3.num, .str y3.text, .sl true (y3.list.map encVal), .sl false (y3.names.map encS)], .agg [.int .i64 a1.kind, .int .i64 a1.num, .str a1.text, .sl false (a1.list.map encLVal), .sl false (a1.names.map encS)], .agg [.int .i64 y4.kind, .int .i64 y4.num, .str y4.text, .sl true (y4.list.map encVal), .sl false (y4.names.map encS)], .bool y5, .bool y5]) (fun ν1 => []) [(12, []), (13, [])] [] [some 12, some 13] (fun ν1 => [(2, .ptr 12 b1 0), (3, .ptr 13 b2 0), (4, .bool false), (6, .bool y5)]) (fun ν1 => [(12, ((.pointer (some ⟨b1, 0, none⟩)), .optr 25 [.int .i64 a0.kind, .int .i64 a0.num, .str a0.text, .sl false (a0.list.map encLVal), .sl false (a0.names.map encS)])), (13, ((.pointer (some ⟨b2, 0, none⟩)), .optr 25 [.int .i64 a1.kind, .int .i64 a1.num, .str a1.text, .sl false (a1.list.map encLVal), .sl false (a1.names.map encS)]))]) (lw [some 12, some 13]) (by kernel_rfl) ⟨?_, ⟨?_, ⟨?_, ⟨?_, ⟨?_, ⟨?_, trivial⟩⟩⟩⟩⟩⟩ ⟨fun _ _ _ => rfl, ⟨fun _ _ _ => rfl, ⟨fun _ _ _ => rfl, ⟨fun _ _ _ => rfl, ⟨fun _ _ _ => rfl, ⟨fun _ _ _ => rfl, trivial⟩⟩⟩⟩⟩⟩ ⟨fun _ _ _ => rfl, ⟨fun _ _ _ => rfl, trivial⟩⟩ (fun _ => rfl) (fun _ => rfl) (by kernel_rfl) (fun _ => ⟨⟨_, rfl, .refl _⟩, ⟨⟨_, rfl, .refl _⟩, ⟨⟨_, rfl, .refl _⟩, ⟨⟨_, rfl, .refl _⟩, trivial⟩⟩⟩⟩) (fun _ => ⟨⟨_, rfl, .refl _⟩, ⟨⟨_, rfl, .refl _⟩, trivial⟩⟩) (by kernel_rfl) (by decide) ?_
   ·refine local_mk (fun ν1 => [(2, .ptr 12 b1 0)]) (fun ν1 => [(12, ((.pointer (some ⟨b1, 0, none⟩)), .optr 25 [.int .i64 a0.kind, .int .i64 a0.num, .str a0.text, .sl false (a0.list.map encLVal), .sl false (a0.names.map encS)]))]) (fun _ => rfl) (fun _ => ⟨⟨_, rfl, .refl _, .refl _⟩, trivial⟩) (fun _ => rfl) (fun _ => ⟨rfl, trivial⟩) ?_
    intro ν1 S H hS hfr
    refine st_op rfl (ValOk.op (v_loadP tabOk rfl rfl tsize25 tagg25 rfl rfl rfl rfl ?_))
    exact lp_v hS rfl rfl (fun _ => rfl)
   ·refine local_mk (fun ν1 => [(20, .agg [.int .i64 a0.kind, .int .i64 a0.num, .str a0.text, .sl false (a0.list.map encLVal), .sl false (a0.names.map encS)])]) (fun ν1 => []) (fun _ => rfl) (fun _ => ⟨⟨_, rfl, .refl _, .refl _⟩, trivial⟩) (fun _ => rfl) (fun _ => trivial) ?_
    intro ν1 S H hS hfr
    refine st_op rfl (o_callR [] [] (core_value rfl rfl) (m_laws_toValue_okF k a0 _ hy3) trivial (.cons (.refl _) (.nil)) (.inl rfl) rfl ?_)
    exact lp_v hS rfl rfl (fun _ => rfl)
   ·refine local_mk (fun ν1 => [(3, .ptr 13 b2 0)]) (fun ν1 => [(13, ((.pointer (some ⟨b2, 0, none⟩)), .optr 25 [.int .i64 a1.kind, .int .i64 a1.num, .str a1.text, .sl false (a1.list.map encLVal), .sl false (a1.names.map encS)]))]) (fun _ => rfl) (fun _ => ⟨⟨_, rfl, .refl _, .refl _⟩, trivial⟩) (fun _ => rfl) (fun _ => ⟨rfl, trivial⟩) ?_
    intro ν1 S H hS hfr
    refine st_op rfl (ValOk.op (v_loadP tabOk rfl rfl tsize25 tagg25 rfl rfl rfl rfl ?_))
    exact lp_v hS rfl rfl (fun _ => rfl)
   ·refine local_mk (fun ν1 => [(22, .agg [.int .i64 a1.kind, .int .i64 a1.num, .str a1.text, .sl false (a1.list.map encLVal), .sl false (a1.names.map encS)])]) (fun ν1 => []) (fun _ => rfl) (fun _ => ⟨⟨_, rfl, .refl _, .refl _⟩, trivial⟩) (fun _ => rfl) (fun _ => trivial) ?_
    intro ν1 S H hS hfr
    refine st_op rfl (o_callR [] [] (core_value rfl rfl) (m_laws_toValue_okF k a1 _ hy4) trivial (.cons (.refl _) (.nil)) (.inl rfl) rfl ?_)
    exact lp_v hS rfl rfl (fun _ => rfl)
   ·refine local_mk (fun ν1 => [(21, .agg [.int .i64 y3.kind, .int .i64 y3.num, .str y3.text, .sl true (y3.list.map encVal), .sl false (y3.names.map encS)]), (23, .agg [.int .i64 y4.kind, .int .i64 y4.num, .str y4.text, .sl true (y4.list.map encVal), .sl false (y4.names.map encS)])]) (fun ν1 => []) (fun _ => rfl) (fun _ => ⟨⟨_, rfl, .refl _, .refl _⟩, ⟨⟨_, rfl, .refl _, .refl _⟩, trivial⟩⟩) (fun _ => rfl) (fun _ => trivial) ?_
    intro ν1 S H hS hfr
    refine st_op rfl (o_callR [] [] (core_value rfl rfl) (m_spec_ValueSame_ok k y3 y4 _ hy5) trivial (.cons (.refl _) (.cons (.refl _) (.nil))) (.inl rfl) rfl ?_)
    exact lp_v hS rfl rfl (fun _ => rfl)
   ·refine local_mk (fun ν1 => [(24, .bool y5)]) (fun ν1 => []) (fun _ => rfl) (fun _ => ⟨⟨_, rfl, .refl _, .refl _⟩, trivial⟩) (fun _ => rfl) (fun _ => trivial) ?_
    intro ν1 S H hS hfr
    refine st_op rfl (ValOk.op (v_assign rfl rfl ?_))
    exact lp_v hS rfl rfl (fun _ => rfl)
   intro ν1
   refine hK11 _ ?_
   refine good_seq fun K12 hK12 => ?_
   refine rg 1 ?_
   obtain ⟨y6, hy6, h⟩ := bnd h
   refine g_op rfl (o_callD [] [] [] (core_value rfl rfl) (m_laws_toValue_ok k a0 _ hy6) trivial (.cons (.refl _) (.nil)) trivial rfl rfl rfl ?_)
   rintro _ _ ⟨w1, w2, rfl, rfl⟩
   refine ⟨.agg [.int .i64 y6.kind, .int .i64 y6.num, .str y6.text, .hd 3001 w1, .hd 3002 w2], [(3001, _), (3002, _)], .agg (.cons (.refl _) (.cons (.refl _) (.cons (.refl _) (.cons (.hd _ _ _) (.cons (.hd _ _ _) (.nil)))))), rfl, rfl, rfl, rfl, .inl rfl, ?_⟩
   refine g_op rfl (o_alloc (k := 17) tabOk tzero30 rfl rfl ?_)
   intro b3
   refine g_op rfl (o_storeP tabOk (cs' := [.int .i64 y6.kind, .int .i64 y6.num, .str y6.text, .hd 3001 w1, .hd 3002 w2]) rfl rfl tsize30 rfl rfl rfl (Nat.le_of_ble_eq_true rfl) rfl rfl rfl ?_)
   refine gk hK12 45 [2, 3, 4, 6, 7] [12, 13, 17, 3001, 3002] ?_
   refine good_seq fun K13 hK13 => ?_
   refine rg 1 ?_
   obtain ⟨y7, hy7, h⟩ := bnd h
   refine g_op rfl (o_callD [] [] [] (core_value rfl rfl) (m_laws_toValue_ok k a1 _ hy7) trivial (.cons (.refl _) (.nil)) trivial rfl rfl rfl ?_)
   rintro _ _ ⟨w3, w4, rfl, rfl⟩
   refine ⟨.agg [.int .i64 y7.kind, .int .i64 y7.num, .str y7.text, .hd 3003 w3, .hd 3004 w4], [(3003, _), (3004, _)], .agg (.cons (.refl _) (.cons (.refl _) (.cons (.refl _) (.cons (.hd _ _ _) (.cons (.hd _ _ _) (.nil)))))), rfl, rfl, rfl, rfl, .inl rfl, ?_⟩
   refine g_op rfl (o_alloc (k := 18) tabOk tzero30 rfl rfl ?_)
   intro b4
   refine g_op rfl (o_storeP tabOk (cs' := [.int .i64 y7.kind, .int .i64 y7.num, .str y7.text, .hd 3003 w3, .hd 3004 w4]) rfl rfl tsize30 rfl rfl rfl (Nat.le_of_ble_eq_true rfl) rfl rfl rfl ?_)
   refine gk hK13 45 [2, 3, 4, 6, 7, 8] [12, 13, 17, 3001, 3002, 18, 3003, 3004] ?_
   refine good_seq fun K14 hK14 => ?_
   refine rg 2 ?_
   obtain ⟨y8, hy8, h⟩ := bnd h
   refine g_op rfl (o_callR [3001, 3002, 3003, 3004] [(_, _), (_, _), (_, _), (_, _)] (core_value rfl rfl) (m_impl_ValueSame_ok k y6 y7 _ hy8) ⟨⟨_, rfl, .osl (FrzLL.map fun _ _ => encOVal_frz _)⟩, ⟨⟨_, rfl, .osl (FrzLL.map fun _ _ => encS_frz _)⟩, ⟨⟨_, rfl, .osl (FrzLL.map fun _ _ => encOVal_frz _)⟩, ⟨⟨_, rfl, .osl (FrzLL.map fun _ _ => encS_frz _)⟩, trivial⟩⟩⟩⟩ (.cons (.agg (.cons (.refl _) (.cons (.refl _) (.cons (.refl _) (.cons (.frz _ _ _ (.head _)) (.cons (.frz _ _ _ (.tail _ (.head _))) (.nil))))))) (.cons (.agg (.cons (.refl _) (.cons (.refl _) (.cons (.refl _) (.cons (.frz _ _ _ (.tail _ (.tail _ (.head _)))) (.cons (.frz _ _ _ (.tail _ (.tail _ (.tail _ (.head _))))) (.nil))))))) (.nil))) (.inr (.bool _)) rfl ?_)
   refine gs 1 ?_
   refine gk hK14 45 [2, 3, 4, 6, 7, 8, 9] [12, 13, 17, 3001, 3002, 18, 3003, 3004] ?_
   refine good_seq fun K15 hK15 => ?_
   refine good_seq fun K16 hK16 => ?_
   refine rg 2 ?_
   refine g_op rfl (ValOk.op (v_binT tabOk (r := .bool (!decide (y8 = y5))) rfl rfl (by simp [binT, eqr]) rfl ?_))
   refine gk hK16 45 [2, 3, 4, 7, 8, 34] [12, 13, 17, 3001, 3002, 18, 3003, 3004] ?_
   refine good_cond rfl (fun hc3 => ?_) (fun hc3 => ?_)
   ·replace h := ifF h (ndT hc3)
    refine good_seq fun K17 hK17 => ?_
    refine rg 1 ?_
    refine gk hK17 45 [2, 3, 4, 7, 8] [12, 13, 17, 3001, 3002, 18, 3003, 3004] ?_
    obtain rfl := Option.some.inj h
    exact rt
   ·replace h := ifT h (ndF hc3)
    refine good_skip ?_
    refine hK15 _ (kp 45 [2, 3, 4, 7, 8] [12, 13, 17, 3001, 3002, 18, 3003, 3004] ?_)
    refine good_seq fun K18 hK18 => ?_
    refine good_seq fun K19 hK19 => ?_
    obtain ⟨y9, hy9, h⟩ := bnd h
    obtain ⟨y10, hy10, h⟩ := bnd h
    refine good_anyM (by kernel_rfl) [⟨[], [7], [17], [], [], []⟩, ⟨[], [2], [12], [], [], []⟩, ⟨[1], [36], [], [], [], []⟩, ⟨[0, 1, 2], [35, 37], [3001, 3002], [], [], []⟩, ⟨[0, 1, 2, 3], [38], [], [], [], []⟩] [some 35, some 36, some 37, some 38, some 39] 45 [(2, .ptr 12 b1 0), (3, .ptr 13 b2 0), (4, .bool false), (7, .ptr 17 b3 0), (8, .ptr 18 b4 0)] [(12, ((.pointer (some ⟨b1, 0, none⟩)), .optr 25 [.int .i64 a0.kind, .int .i64 a0.num, .str a0.text, .sl false (a0.list.map encLVal), .sl false (a0.names.map encS)])), (13, ((.pointer (some ⟨b2, 0, none⟩)), .optr 25 [.int .i64 a1.kind, .int .i64 a1.num, .str a1.text, .sl false (a1.list.map encLVal), .sl false (a1.names.map encS)])), (17, ((.pointer (some ⟨b3, 0, none⟩)), .optr 30 [.int .i64 y6.kind, .int .i64 y6.num, .str y6.text, .hd 3001 w1, .hd 3002 w2])), (3001, (w1, .osl 30 5 (y6.list.map encOVal))), (3002, (w2, .osl 9 1 (y6.names.map encS))), (18, ((.pointer (some ⟨b4, 0, none⟩)), .optr 30 [.int .i64 y7.kind, .int .i64 y7.num, .str y7.text, .hd 3003 w3, .hd 3004 w4])), (3003, (w3, .osl 30 5 (y7.list.map encOVal))), (3004, (w4, .osl 9 1 (y7.names.map encS)))] (fun ν2 => [.agg [.int .i64 y6.kind, .int .i64 y6.num, .str y6.text, .hd 3001 w1, .hd 3002 w2], .agg [.int .i64 a0.kind, .int .i64 a0.num, .str a0.text, .sl false (a0.list.map encLVal), .sl false (a0.names.map encS)], .agg [.int .i64 y9.kind, .int .i64 y9.num, .str y9.text, .sl true (y9.list.map encVal), .sl false (y9.names.map encS)], .bool y10, .bool (!y10)]) (fun ν2 => []) [(12, []), (13, []), (17, []), (3001, []), (3002, []), (18, []), (3003, []), (3004, [])] [] [some 13, some 18, some 3003, some 3004] (fun ν2 => [(3, .ptr 13 b2 0), (4, .bool false), (8, .ptr 18 b4 0), (39, .bool (!y10))]) (fun ν2 => [(13, ((.pointer (some ⟨b2, 0, none⟩)), .optr 25 [.int .i64 a1.kind, .int .i64 a1.num, .str a1.text, .sl false (a1.list.map encLVal), .sl false (a1.names.map encS)])), (18, ((.pointer (some ⟨b4, 0, none⟩)), .optr 30 [.int .i64 y7.kind, .int .i64 y7.num, .str y7.text, .hd 3003 w3, .hd 3004 w4])), (3003, (w3, .osl 30 5 (y7.list.map encOVal))), (3004, (w4, .osl 9 1 (y7.names.map encS)))]) (lw [some 12, some 13, some 17, some 3001, some 3002, some 18, some 3003, some 3004]) (by kernel_rfl) ⟨?_, ⟨?_, ⟨?_, ⟨?_, ⟨?_, trivial⟩⟩⟩⟩⟩ ⟨fun _ _ _ => rfl, ⟨fun _ _ _ => rfl, ⟨fun _ _ _ => rfl, ⟨fun _ _ _ => rfl, ⟨fun _ _ _ => rfl, trivial⟩⟩⟩⟩⟩ ⟨fun _ _ _ => rfl, ⟨fun _ _ _ => rfl, ⟨fun _ _ _ => rfl, ⟨fun _ _ _ => rfl, ⟨fun _ _ _ => rfl, ⟨fun _ _ _ => rfl, ⟨fun _ _ _ => rfl, ⟨fun _ _ _ => rfl, trivial⟩⟩⟩⟩⟩⟩⟩⟩ (fun _ => rfl) (fun _ => rfl) (by kernel_rfl) (fun _ => ⟨⟨_, rfl, .refl _⟩, ⟨⟨_, rfl, .refl _⟩, ⟨⟨_, rfl, .refl _⟩, ⟨⟨_, rfl, .refl _⟩, trivial⟩⟩⟩⟩) (fun _ => ⟨⟨_, rfl, .refl _⟩, ⟨⟨_, rfl, .refl _⟩, ⟨⟨_, rfl, .refl _⟩, ⟨⟨_, rfl, .refl _⟩, trivial⟩⟩⟩⟩) (by kernel_rfl) (by decide) ?_
    ·refine local_mk (fun ν2 => [(7, .ptr 17 b3 0)]) (fun ν2 => [(17, ((.pointer (some ⟨b3, 0, none⟩)), .optr 30 [.int .i64 y6.kind, .int .i64 y6.num, .str y6.text, .hd 3001 w1, .hd 3002 w2]))]) (fun _ => rfl) (fun _ => ⟨⟨_, rfl, .refl _, .refl _⟩, trivial⟩) (fun _ => rfl) (fun _ => ⟨rfl, trivial⟩) ?_
     intro ν2 S H hS hfr
     refine st_op rfl (ValOk.op (v_loadP tabOk rfl rfl tsize30 tagg30 rfl rfl rfl rfl ?_))
     exact lp_v hS rfl rfl (fun _ => rfl)
    ·refine local_mk (fun ν2 => [(2, .ptr 12 b1 0)]) (fun ν2 => [(12, ((.pointer (some ⟨b1, 0, none⟩)), .optr 25 [.int .i64 a0.kind, .int .i64 a0.num, .str a0.text, .sl false (a0.list.map encLVal), .sl false (a0.names.map encS)]))]) (fun _ => rfl) (fun _ => ⟨⟨_, rfl, .refl _, .refl _⟩, trivial⟩) (fun _ => rfl) (fun _ => ⟨rfl, trivial⟩) ?_
     intro ν2 S H hS hfr
     refine st_op rfl (ValOk.op (v_loadP tabOk rfl rfl tsize25 tagg25 rfl rfl rfl rfl ?_))
     exact lp_v hS rfl rfl (fun _ => rfl)
    ·refine local_mk (fun ν2 => [(36, .agg [.int .i64 a0.kind, .int .i64 a0.num, .str a0.text, .sl false (a0.list.map encLVal), .sl false (a0.names.map encS)])]) (fun ν2 => []) (fun _ => rfl) (fun _ => ⟨⟨_, rfl, .refl _, .refl _⟩, trivial⟩) (fun _ => rfl) (fun _ => trivial) ?_
     intro ν2 S H hS hfr
     refine st_op rfl (o_callR [] [] (core_value rfl rfl) (m_laws_toValue_okF k a0 _ hy9) trivial (.cons (.refl _) (.nil)) (.inl rfl) rfl ?_)
     exact lp_v hS rfl rfl (fun _ => rfl)
    ·refine local_mk (fun ν2 => [(35, .agg [.int .i64 y6.kind, .int .i64 y6.num, .str y6.text, .hd 3001 w1, .hd 3002 w2]), (37, .agg [.int .i64 y9.kind, .int .i64 y9.num, .str y9.text, .sl true (y9.list.map encVal), .sl false (y9.names.map encS)])]) (fun ν2 => [(3001, (w1, .osl 30 5 (y6.list.map encOVal))), (3002, (w2, .osl 9 1 (y6.names.map encS)))]) (fun _ => rfl) (fun _ => ⟨⟨_, rfl, .refl _, .refl _⟩, ⟨⟨_, rfl, .refl _, .refl _⟩, trivial⟩⟩) (fun _ => rfl) (fun _ => ⟨rfl, ⟨rfl, trivial⟩⟩) ?_
     intro ν2 S H hS hfr
     refine st_op rfl (o_callR [3001, 3002] [(_, _), (_, _)] (core_value rfl rfl) (m_laws_eqValue_ok k y6 y9 _ hy10) ⟨⟨_, rfl, .osl (FrzLL.map fun _ _ => encOVal_frz _)⟩, ⟨⟨_, rfl, .osl (FrzLL.map fun _ _ => encS_frz _)⟩, trivial⟩⟩ (.cons (.agg (.cons (.refl _) (.cons (.refl _) (.cons (.refl _) (.cons (.frz _ _ _ (.head _)) (.cons (.frz _ _ _ (.tail _ (.head _))) (.nil))))))) (.cons (.refl _) (.nil))) (.inr (.bool _)) rfl ?_)
     exact lp_v hS rfl rfl (fun _ => rfl)
    ·refine local_mk (fun ν2 => [(38, .bool y10)]) (fun ν2 => []) (fun _ => rfl) (fun _ => ⟨⟨_, rfl, .refl _, .refl _⟩, trivial⟩) (fun _ => rfl) (fun _ => trivial) ?_
     intro ν2 S H hS hfr
     refine st_op rfl (ValOk.op (v_not rfl rfl ?_))
     exact lp_v hS rfl rfl (fun _ => rfl)
    intro ν2
    refine hK19 _ ?_
    refine good_cond rfl (fun hc4 => ?_) (fun hc4 => ?_)
    ·replace h := bF h (nT hc4)
     refine good_seq fun K20 hK20 => ?_
     refine rg 1 ?_
     refine gk hK20 45 [3, 4, 8] [13, 18, 3003, 3004] ?_
     obtain rfl := Option.some.inj h
     exact rt
    ·replace h := ifT h (nF hc4)
     refine good_skip ?_
     refine hK18 _ (kp 45 [3, 4, 8] [13, 18, 3003, 3004] ?_)
     refine good_seq fun K21 hK21 => ?_
     refine good_seq fun K22 hK22 => ?_
     obtain ⟨y11, hy11, h⟩ := bnd h
     obtain ⟨y12, hy12, h⟩ := bnd h
     refine good_anyM (by kernel_rfl) [⟨[], [8], [18], [], [], []⟩, ⟨[], [3], [13], [], [], []⟩, ⟨[1], [41], [], [], [], []⟩, ⟨[0, 1, 2], [40, 42], [3003, 3004], [], [], []⟩, ⟨[0, 1, 2, 3], [43], [], [], [], []⟩] [some 40, some 41, some 42, some 43, some 44] 45 [(3, .ptr 13 b2 0), (4, .bool false), (8, .ptr 18 b4 0)] [(13, ((.pointer (some ⟨b2, 0, none⟩)), .optr 25 [.int .i64 a1.kind, .int .i64 a1.num, .str a1.text, .sl false (a1.list.map encLVal), .sl false (a1.names.map encS)])), (18, ((.pointer (some ⟨b4, 0, none⟩)), .optr 30 [.int .i64 y7.kind, .int .i64 y7.num, .str y7.text, .hd 3003 w3, .hd 3004 w4])), (3003, (w3, .osl 30 5 (y7.list.map encOVal))), (3004, (w4, .osl 9 1 (y7.names.map encS)))] (fun ν3 => [.agg [.int .i64 y7.kind, .int .i64 y7.num, .str y7.text, .hd 3003 w3, .hd 3004 w4], .agg [.int .i64 a1.kind, .int .i64 a1.num, .str a1.text, .sl false (a1.list.map encLVal), .sl false (a1.names.map encS)], .agg [.int .i64 y11.kind, .int .i64 y11.num, .str y11.text, .sl true (y11.list.map encVal), .sl false (y11.names.map encS)], .bool y12, .bool (!y12)]) (fun ν3 => []) [(13, []), (18, []), (3003, []), (3004, [])] [] [] (fun ν3 => [(4, .bool false), (44, .bool (!y12))]) (fun ν3 => []) (lw [some 13, some 18, some 3003, some 3004]) (by kernel_rfl) ⟨?_, ⟨?_, ⟨?_, ⟨?_, ⟨?_, trivial⟩⟩⟩⟩⟩ ⟨fun _ _ _ => rfl, ⟨fun _ _ _ => rfl, ⟨fun _ _ _ => rfl, ⟨fun _ _ _ => rfl, ⟨fun _ _ _ => rfl, trivial⟩⟩⟩⟩⟩ ⟨fun _ _ _ => rfl, ⟨fun _ _ _ => rfl, ⟨fun _ _ _ => rfl, ⟨fun _ _ _ => rfl, trivial⟩⟩⟩⟩ (fun _ => rfl) (fun _ => rfl) (by kernel_rfl) (fun _ => ⟨⟨_, rfl, .refl _⟩, ⟨⟨_, rfl, .refl _⟩, trivial⟩⟩) (fun _ => trivial) (by kernel_rfl) (by decide) ?_
     ·refine local_mk (fun ν3 => [(8, .ptr 18 b4 0)]) (fun ν3 => [(18, ((.pointer (some ⟨b4, 0, none⟩)), .optr 30 [.int .i64 y7.kind, .int .i64 y7.num, .str y7.text, .hd 3003 w3, .hd 3004 w4]))]) (fun _ => rfl) (fun _ => ⟨⟨_, rfl, .refl _, .refl _⟩, trivial⟩) (fun _ => rfl) (fun _ => ⟨rfl, trivial⟩) ?_
      intro ν3 S H hS hfr
      refine st_op rfl (ValOk.op (v_loadP tabOk rfl rfl tsize30 tagg30 rfl rfl rfl rfl ?_))
      exact lp_v hS rfl rfl (fun _ => rfl)
     ·refine local_mk (fun ν3 => [(3, .ptr 13 b2 0)]) (fun ν3 => [(13, ((.pointer (some ⟨b2, 0, none⟩)), .optr 25 [.int .i64 a1.kind, .int .i64 a1.num, .str a1.text, .sl false (a1.list.map encLVal), .sl false (a1.names.map encS)]))]) (fun _ => rfl) (fun _ => ⟨⟨_, rfl, .refl _, .refl _⟩, trivial⟩) (fun _ => rfl) (fun _ => ⟨rfl, trivial⟩) ?_
      intro ν3 S H hS hfr
      refine st_op rfl (ValOk.op (v_loadP tabOk rfl rfl tsize25 tagg25 rfl rfl rfl rfl ?_))
      exact lp_v hS rfl rfl (fun _ => rfl)
     ·refine local_mk (fun ν3 => [(41, .agg [.int .i64 a1.kind, .int .i64 a1.num, .str a1.text, .sl false (a1.list.map encLVal), .sl false (a1.names.map encS)])]) (fun ν3 => []) (fun _ => rfl) (fun _ => ⟨⟨_, rfl, .refl _, .refl _⟩, trivial⟩) (fun _ => rfl) (fun _ => trivial) ?_
      intro ν3 S H hS hfr
      refine st_op rfl (o_callR [] [] (core_value rfl rfl) (m_laws_toValue_okF k a1 _ hy11) trivial (.cons (.refl _) (.nil)) (.inl rfl) rfl ?_)
      exact lp_v hS rfl rfl (fun _ => rfl)
     ·refine local_mk (fun ν3 => [(40, .agg [.int .i64 y7.kind, .int .i64 y7.num, .str y7.text, .hd 3003 w3, .hd 3004 w4]), (42, .agg [.int .i64 y11.kind, .int .i64 y11.num, .str y11.text, .sl true (y11.list.map encVal), .sl false (y11.names.map encS)])]) (fun ν3 => [(3003, (w3, .osl 30 5 (y7.list.map encOVal))), (3004, (w4, .osl 9 1 (y7.names.map encS)))]) (fun _ => rfl) (fun _ => ⟨⟨_, rfl, .refl _, .refl _⟩, ⟨⟨_, rfl, .refl _, .refl _⟩, trivial⟩⟩) (fun _ => rfl) (fun _ => ⟨rfl, ⟨rfl, trivial⟩⟩) ?_
      intro ν3 S H hS hfr
      refine st_op rfl (o_callR [3003, 3004] [(_, _), (_, _)] (core_value rfl rfl) (m_laws_eqValue_ok k y7 y11 _ hy12) ⟨⟨_, rfl, .osl (FrzLL.map fun _ _ => encOVal_frz _)⟩, ⟨⟨_, rfl, .osl (FrzLL.map fun _ _ => encS_frz _)⟩, trivial⟩⟩ (.cons (.agg (.cons (.refl _) (.cons (.refl _) (.cons (.refl _) (.cons (.frz _ _ _ (.head _)) (.cons (.frz _ _ _ (.tail _ (.head _))) (.nil))))))) (.cons (.refl _) (.nil))) (.inr (.bool _)) rfl ?_)
      exact lp_v hS rfl rfl (fun _ => rfl)
     ·refine local_mk (fun ν3 => [(43, .bool y12)]) (fun ν3 => []) (fun _ => rfl) (fun _ => ⟨⟨_, rfl, .refl _, .refl _⟩, trivial⟩) (fun _ => rfl) (fun _ => trivial) ?_
      intro ν3 S H hS hfr
      refine st_op rfl (ValOk.op (v_not rfl rfl ?_))
      exact lp_v hS rfl rfl (fun _ => rfl)
     intro ν3
     refine hK22 _ ?_
     refine good_cond rfl (fun hc5 => ?_) (fun hc5 => ?_)
     ·replace h := bF h (nT hc5)
      refine good_seq fun K23 hK23 => ?_
      refine rg 1 ?_
      refine gk hK23 45 [4] [] ?_
      obtain rfl := Option.some.inj h
      exact rt
     ·replace h := ifT h (nF hc5)
      refine good_skip ?_
      refine hK21 _ (kp 45 [4] [] ?_)
      refine good_seq fun K24 hK24 => ?_
      refine rg 1 ?_
      refine g_nil (hK24 _ ?_)
      obtain rfl := Option.some.inj h
      exact rt
end Go.Proofs.Ytiaigcdckmpepaa
end
end
section
/-! The law of ValueSame. -/
set_option linter.unusedVariables false
set_option linter.unusedSimpArgs false
set_option linter.unnecessarySimpa false
namespace Go.Proofs.Ytiaigcdckmpepaa
open Go.Bb

mutual
theorem szN_wt : ∀ v : Val, szN v ≤ wtV v
  | .mk _ _ _ l _ => by have := szNs_wt l; simp only [szN, wtV]; omega
theorem szNs_wt : ∀ l : List Val, szNs l ≤ wtVs l
  | [] => by simp [szNs]
  | v :: l => by have := szN_wt v; have := szNs_wt l; simp only [szNs, wtVs]; omega
end
theorem law_ValueSame (a b : Val) (ha : Bd maxLen a) (hb : Bd maxLen b) : ∃ k, m_laws_FnExactValueSame k a b = some true := by
  refine Ev.get (m := fun k => m_laws_FnExactValueSame k a b) ?_
  simp only [m_laws_FnExactValueSame]
  obtain ⟨y, h3, h4⟩ := ev_szValueW a ha 1048576 (by omega) (by omega)
  rcases h4 with h4 | ⟨h4, h5, h6, h7⟩
  · rw [evC h3, evT h4]; exact ev_some _
  obtain ⟨z, g3, g4⟩ := ev_szValueW b hb y h4 (by omega)
  rcases g4 with g4 | ⟨g4, g5, g6, g7⟩
  · rw [evC h3, evF (by omega), evC g3, evT g4]; exact ev_some _
  have hsz : szN a < 900000000 := by
    have h1 := szN_eq a
    have h2 := szNs_wt a.list
    unfold wtW at h7
    omega
  rw [evC h3, evF (by omega), evC g3, evF (by omega)]
  rw [evC (ev_toValue a h6), evC (ev_toValue b g6), evC (ev_sValueSame a b h6), evC (ev_toValue a h6), evC (ev_toValue b g6), evC (ev_iSame a b h6 hsz), evT rfl]
  rw [evC (ev_toValue a h6), evC (ev_eqValue a h6), evT rfl, evC (ev_toValue b g6), evC (ev_eqValue b g6), evT rfl]
  exact ev_some _
end Go.Proofs.Ytiaigcdckmpepaa
end
