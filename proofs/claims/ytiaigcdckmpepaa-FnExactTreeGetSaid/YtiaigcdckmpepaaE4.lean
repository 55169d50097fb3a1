/- Whether a value is ok: what the program answers and what the reference answers are one function; the conditions stand in each theorem. -/
import Derived.Test.YtiaigcdckmpepaaE3
import Derived.Test.YtiaigcdckmpepaaGnm
/-! ValueOk. -/
set_option linter.unusedVariables false
set_option linter.unusedSimpArgs false
namespace Go.Proofs.Ytiaigcdckmpepaa
open Go.Bb

def figB (n : Int) : Bool := decide (48 ≤ n ∧ n ≤ 57)
def letB (n : Int) : Bool := decide ((97 ≤ n ∧ n ≤ 122) ∨ (65 ≤ n ∧ n ≤ 90) ∨ n = 95)
def nameOk (s : Bs) : Bool := (List.range s.length).all (fun i => letB (byt s (i : Int)) || (decide (i ≠ 0) && figB (byt s (i : Int)))) && decide (1 ≤ s.length ∧ s.length ≤ 12)
def onceOk (l : List Bs) : Bool := (List.range l.length).all fun i => nameOk (ix l (i : Int)) && (List.range i).all fun j => decide (ix l (j : Int) ≠ ix l (i : Int))
def noneIn (v : Val) : Prop := v.list.length = 0 ∧ v.names.length = 0
instance (v : Val) : Decidable (noneIn v) := inferInstanceAs (Decidable (_ ∧ _))
def plainOk (v : Val) : Bool :=
  if v.kind = 0 then decide (v.num = 0 ∧ v.text = [] ∧ noneIn v)
  else if v.kind = 1 then decide ((0 ≤ v.num ∧ v.num ≤ 1) ∧ v.text = [] ∧ noneIn v)
  else if v.kind = 2 then decide ((-2147483647 ≤ v.num ∧ v.num ≤ 2147483647) ∧ v.text = [] ∧ noneIn v)
  else if v.kind = 3 then decide (v.num = 0 ∧ v.text.length ≤ 40 ∧ noneIn v)
  else if v.kind = 4 then decide (v.num = 0 ∧ v.text = [] ∧ v.names.length = 0 ∧ v.list.length ≤ 12)
  else if v.kind = 5 then decide (v.num = 0 ∧ v.text = [] ∧ v.names.length = v.list.length ∧ v.list.length ≤ 12)
  else if v.kind = 6 ∨ v.kind = 7 then decide (v.num = 0) && nameOk v.text && decide (noneIn v)
  else false

mutual
def okV : Val → Int → Bool → Bool
  | .mk a b t l ns, d, f => !(decide (d < 1)) && plainOk (.mk a b t l ns) && (f || decide (a ≤ 5)) && onceOk ns && okS l (d - 1) f
def okS : List Val → Int → Bool → Bool
  | [], _, _ => true
  | v :: l, d, f => okV v d f && okS l d f
end
theorem okS_all (l : List Val) (d : Int) (f : Bool) : okS l d f = l.all fun v => okV v d f := by
  induction l with
  | nil => rfl
  | cons v l ih => simp only [okS, List.all_cons, ih]
theorem okV_eq (v : Val) (d : Int) (f : Bool) : okV v d f = (!(decide (d < 1)) && plainOk v && (f || decide (v.kind ≤ 5)) && onceOk v.names && v.list.all fun x => okV x (d - 1) f) := by
  cases v
  simp only [okV, okS_all]
  rfl

theorem ev_sFigure (n : Int) : Ev (fun _ => m_spec_l1Figure n) (figB n) := by
  simp only [m_spec_l1Figure]
  refine ev_ite (fun h => ev_eq (ev_some _) ?_) (fun h => ev_eq (ev_some _) ?_) <;> simp [figB, h]
theorem ev_sLetter (n : Int) : Ev (fun _ => m_spec_l1Letter n) (letB n) := by
  have h : m_spec_l1Letter n = some (letB n) := by
    unfold m_spec_l1Letter letB
    repeat' split
    all_goals first | (simp; omega) | (simp_all; done) | (congr 1; symm; simp; omega) | skip
    all_goals (congr 1; rw [Bool.eq_iff_iff]; simp; omega)
  rw [h]; exact ev_some _
theorem ev_iFigure (n : Int) : m_impl_isFigure n = some (figB n) := by
  unfold m_impl_isFigure figB
  split <;> (congr 1; rw [Bool.eq_iff_iff]; simp; omega)
theorem ev_iWord (n : Int) : m_impl_isWordByte n = some (letB n || figB n) := by
  unfold m_impl_isWordByte
  rw [ev_iFigure]
  simp only [Option.bind_some]
  unfold letB figB
  repeat' split
  all_goals (congr 1; rw [Bool.eq_iff_iff]; simp; omega)

theorem ev_sName (s : Bs) (hs : s.length ≤ 1048576) : Ev (fun k => m_spec_l1Name k s) (nameOk s) := by
  simp only [m_spec_l1Name, m_spec_l1In]
  unfold nameOk
  refine ev_all (L := fun k i => m_spec_l1Name_l1 k s i) (n := s.length) _ (fun i r hi hg h => ?_) (fun i hi hg => ?_) ?_ (f := fun _ _ => _) ?_
  · rw [ev_shift]; simp only [m_spec_l1Name_l1]
    refine ev_ifT (by omega) (Ev.go (s := false) (ev_ifT (by omega) (Ev.bind (ev_sLetter _) (ev_ite (fun h1 => ev_some _) (fun h1 => ?_)))) (ev_ifF (by simp) ?_))
    · have h1' : letB (byt s (i : Int)) = false := by simpa using h1
      rw [h1'] at hg
      simp only [Bool.false_or, Bool.and_eq_true, decide_eq_true_eq] at hg
      refine ev_ifF (by omega) (ev_ifT (by omega) (Ev.bind (ev_sFigure _) ?_))
      rw [hg.2]; exact ev_some _
    · rw [wrap_id (by omega)]; exact h
  · rw [ev_shift]; simp only [m_spec_l1Name_l1]
    simp only [Bool.or_eq_false_iff, Bool.and_eq_false_iff, decide_eq_false_iff_not, Decidable.not_not] at hg
    refine ev_ifT (by omega) (Ev.go (s := true) (ev_ifT (by omega) (Ev.bind (ev_sLetter _) (ev_ifF (by simp [hg.1]) (ev_ite (fun h2 => ev_some _) (fun h2 => ev_ifT (by omega) (Ev.bind (ev_sFigure _) ?_)))))) (ev_ifT rfl (ev_some _)))
    have h3 : figB (byt s (i : Int)) = false := by
      rcases hg.2 with h | h
      · exact absurd (by omega) h2
      · exact h
    rw [h3]; exact ev_some _
  · rw [ev_shift]; simp only [m_spec_l1Name_l1]
    exact ev_ifF (by omega) (ev_some _)
  · refine Ev.bind (a := decide (1 ≤ s.length ∧ s.length ≤ 12)) (ev_ite (fun h => ev_eq (ev_some _) ?_) (fun h => ev_eq (ev_some _) ?_)) (ev_some _)
    · rw [Bool.eq_iff_iff]; simp; omega
    · rw [Bool.eq_iff_iff]; simp; omega

theorem ev_iName (s : Bs) : Ev (fun k => m_impl_isName k s) (nameOk s) := by
  simp only [m_impl_isName, ev_iFigure, Option.bind_some]
  by_cases h1 : (s.length : Int) < 1
  · refine ev_eq (Ev.go (s := true) (ev_ifT h1 (ev_some _)) (ev_ifT rfl (ev_some _))) ?_
    unfold nameOk
    rw [Bool.eq_iff_iff]; simp; omega
  · by_cases h2 : 12 < (s.length : Int)
    · refine ev_eq (Ev.go (s := true) (ev_ifF h1 (ev_ifT h2 (ev_some _))) (ev_ifT rfl (ev_some _))) ?_
      unfold nameOk
      rw [Bool.eq_iff_iff]; simp; omega
    · refine Ev.go (s := figB (byt s 0)) (ev_ifF h1 (ev_ifF h2 (ev_ifT (by omega) (ev_some _)))) ?_
      cases hf : figB (byt s 0) with
      | true =>
        refine ev_eq (ev_ifT rfl (ev_some _)) ?_
        unfold nameOk
        symm
        rw [Bool.and_eq_false_iff]
        left
        rw [List.all_eq_false]
        refine ⟨0, List.mem_range.2 (by omega), ?_⟩
        have : letB (byt s 0) = false := by
          unfold figB at hf; unfold letB
          simp at hf ⊢; omega
        simp [this]
      | false =>
        refine ev_ifF (by simp) (ev_eq (ev_all (L := fun k i => m_impl_isName_l1 k s i) (n := s.length) (fun i => letB (byt s (i : Int)) || figB (byt s (i : Int))) (fun i r hi hg h => ?_) (fun i hi hg => ?_) ?_ (f := fun _ _ => some true) (ev_some _)) ?_)
        · rw [ev_shift]; simp only [m_impl_isName_l1, ev_iWord, Option.bind_some]
          refine ev_ifT (by omega) (ev_ifT (by omega) (ev_ifT hg ?_))
          rw [wrap_id (by omega)]; exact h
        · rw [ev_shift]; simp only [m_impl_isName_l1, ev_iWord, Option.bind_some]
          exact ev_ifT (by omega) (ev_ifT (by omega) (ev_ifF (by simpa using hg) (ev_some _)))
        · rw [ev_shift]; simp only [m_impl_isName_l1]
          exact ev_ifF (by omega) (ev_some _)
        · unfold nameOk
          rw [Bool.and_true, Bool.eq_iff_iff, Bool.and_eq_true, List.all_eq_true, List.all_eq_true]
          constructor
          · intro h
            refine ⟨fun i hi => ?_, by simp; omega⟩
            have := h i hi
            by_cases h0 : i = 0
            · subst h0
              simp only [Bool.or_eq_true] at this ⊢
              rcases this with h' | h'
              · exact .inl h'
              · rw [show ((0 : Nat) : Int) = 0 from rfl, hf] at h'; cases h'
            · simpa [h0] using this
          · rintro ⟨h, _⟩ i hi
            have := h i hi
            simp only [Bool.or_eq_true, Bool.and_eq_true] at this ⊢
            exact this.imp id (·.2)

theorem ev_sOnce (l : List Bs) (hl : l.length ≤ 1048576) (hs : ∀ s ∈ l, s.length ≤ 1048576) : Ev (fun k => m_spec_l1Once k l) (onceOk l) := by
  simp only [m_spec_l1Once]
  have hb : onceOk l = (onceOk l && true) := by simp
  rw [hb]
  unfold onceOk
  have hx : ∀ i : Nat, i < l.length → (ix l (i : Int)).length ≤ 1048576 := fun i hi => by rw [ix_nat hi]; exact hs _ (List.getElem_mem hi)
  have inner : ∀ i : Nat, i < l.length → ((List.range i).all (fun j => decide (ix l (j : Int) ≠ ix l (i : Int))) = true → Ev (fun k => m_spec_l1Once_l2 k l i 0) (.go ())) ∧ ((List.range i).all (fun j => decide (ix l (j : Int) ≠ ix l (i : Int))) = false → Ev (fun k => m_spec_l1Once_l2 k l i 0) (.ret (.ret false))) := by
    intro i hi
    have s1 : ∀ (j : Nat) (r : Lp Unit (Lp Unit Bool)), j < i → decide (ix l (j : Int) ≠ ix l (i : Int)) = true → Ev (fun k => m_spec_l1Once_l2 k l i ((j : Int) + 1)) r → Ev (fun k => m_spec_l1Once_l2 k l i j) r := by
      intro j r hj hg h
      rw [ev_shift]; simp only [m_spec_l1Once_l2]
      refine ev_ifT (by omega) (ev_ifT (by omega) (ev_ifT (by omega) (ev_ifF (by simpa using hg) ?_)))
      rw [wrap_id (by omega)]; exact h
    constructor
    · intro h
      have := ev_all_go (L := fun k j => m_spec_l1Once_l2 k l i j) (n := i) (g := fun j => decide (ix l (j : Int) ≠ ix l (i : Int))) s1 (by
        rw [ev_shift]; simp only [m_spec_l1Once_l2]
        exact ev_ifF (by omega) (ev_some _)) i 0 (by omega) (fun j _ hj => List.all_eq_true.1 h j (List.mem_range.2 hj))
      simpa using this
    · intro h
      obtain ⟨j, hj, hg⟩ := List.all_eq_false.1 h
      have := ev_all_ret (L := fun k j => m_spec_l1Once_l2 k l i j) (n := i) (g := fun j => decide (ix l (j : Int) ≠ ix l (i : Int))) (rv := .ret false) s1 (fun j hj hg => by
        rw [ev_shift]; simp only [m_spec_l1Once_l2]
        refine ev_ifT (by omega) (ev_ifT (by omega) (ev_ifT (by omega) (ev_ifT (by simpa using hg) (ev_some _))))) i 0 (by omega) ⟨j, by omega, List.mem_range.1 hj, by simpa using hg⟩
      simpa using this
  refine ev_all (L := fun k i => m_spec_l1Once_l1 k l i) (n := l.length) _ (fun i r hi hg h => ?_) (fun i hi hg => ?_) ?_ (f := fun _ _ => some true) (ev_some _)
  · rw [ev_shift]; simp only [m_spec_l1Once_l1]
    simp only [Bool.and_eq_true] at hg
    refine ev_ifT (by omega) (ev_ifT (by omega) (Ev.bind (ev_sName _ (hx i hi)) (ev_ifT hg.1 (Ev.go ((inner i hi).1 hg.2) ?_))))
    rw [wrap_id (by omega)]; exact h
  · rw [ev_shift]; simp only [m_spec_l1Once_l1]
    refine ev_ifT (by omega) (ev_ifT (by omega) (Ev.bind (ev_sName _ (hx i hi)) (ev_ite (fun h1 => ?_) (fun h1 => ev_some _))))
    rw [h1, Bool.true_and] at hg
    exact Ev.ret ((inner i hi).2 hg)
  · rw [ev_shift]; simp only [m_spec_l1Once_l1]
    exact ev_ifF (by omega) (ev_some _)

theorem ev_contains (l : List Bs) (x : Bs) (hl : l.length ≤ 1048576) : Ev (fun k => m_slices_Contains_string_string k l x) (l.any fun y => decide (y = x)) := by
  simp only [m_slices_Contains_string_string, m_slices_Index_string_string]
  have s1 : ∀ (j : Nat) (r : Lp Unit Int), j < l.length → decide (ix l (j : Int) ≠ x) = true → Ev (fun k => m_slices_Index_string_string_l1 k l x ((j : Int) + 1)) r → Ev (fun k => m_slices_Index_string_string_l1 k l x j) r := by
    intro j r hj hg h
    rw [ev_shift]; simp only [m_slices_Index_string_string_l1]
    refine ev_ifT (by omega) (ev_ifT (by omega) (ev_ifF (fun e => by simp [e.symm] at hg) ?_))
    rw [wrap_id (by omega)]; exact h
  have s2 : Ev (fun k => m_slices_Index_string_string_l1 k l x l.length) (.go ()) := by
    rw [ev_shift]; simp only [m_slices_Index_string_string_l1]
    exact ev_ifF (by omega) (ev_some _)
  cases h : l.any fun y => decide (y = x) with
  | false =>
    have hn : ∀ i, 0 ≤ i → i < l.length → decide (ix l (i : Int) ≠ x) = true := fun i _ hi => by
      rw [ix_nat hi]
      have := List.any_eq_false.1 h _ (List.getElem_mem hi)
      simpa using this
    have := ev_all_go (L := fun k j => m_slices_Index_string_string_l1 k l x j) (n := l.length) (g := fun j => decide (ix l (j : Int) ≠ x)) s1 s2 l.length 0 (by omega) hn
    exact Ev.bind (a := -1) (Ev.go (s := ()) (by simpa using this) (ev_some _)) (ev_some _)
  | true =>
    -- the first place
    have key : ∀ (d j : Nat), j + d = l.length → (∃ i, j ≤ i ∧ ∃ h : i < l.length, l[i] = x) → ∃ y : Int, 0 ≤ y ∧ Ev (fun k => m_slices_Index_string_string_l1 k l x j) (.ret y) := by
      intro d
      induction d with
      | zero => rintro j hj ⟨i, h1, h2, _⟩; omega
      | succ d ih =>
        rintro j hj ⟨i, h1, h2, h3⟩
        have hjl : j < l.length := by omega
        by_cases hx : x = ix l (j : Int)
        · refine ⟨j, by omega, ?_⟩
          rw [ev_shift]; simp only [m_slices_Index_string_string_l1]
          exact ev_ifT (by omega) (ev_ifT (by omega) (ev_ifT hx (ev_some _)))
        · obtain ⟨y, hy, h⟩ := ih (j + 1) (by omega) ⟨i, by
            rcases Nat.eq_or_lt_of_le h1 with rfl | h
            · rw [ix_nat h2] at hx; exact absurd h3.symm hx
            · exact h, h2, h3⟩
          exact ⟨y, hy, s1 j _ hjl (by simpa using fun e => hx e.symm) (by simpa using h)⟩
    obtain ⟨z, hz, hzx⟩ := List.any_eq_true.1 h
    obtain ⟨i, hi, rfl⟩ := List.mem_iff_getElem.1 hz
    obtain ⟨y, hy, h2⟩ := key l.length 0 (by omega) ⟨i, by omega, hi, by simpa using hzx⟩
    exact Ev.bind (a := y) (Ev.ret (by simpa using h2)) (ev_eq (ev_some _) (by simp [hy]))

theorem ev_iOnce (l : List Bs) (hl : l.length ≤ 1048576) : Ev (fun k => m_impl_namesOnce k l) (onceOk l) := by
  simp only [m_impl_namesOnce]
  have hb : onceOk l = (onceOk l && true) := by simp
  rw [hb]
  unfold onceOk
  have hsub : ∀ i : Nat, i < l.length → ((sub l 0 (i : Int)).any fun y => decide (y = ix l (i : Int))) = !(List.range i).all fun j => decide (ix l (j : Int) ≠ ix l (i : Int)) := by
    intro i hi
    have e : sub l 0 (i : Int) = l.take i := by simp [sub]
    rw [e, Bool.eq_iff_iff, List.any_eq_true, Bool.not_eq_true', List.all_eq_false]
    constructor
    · rintro ⟨y, hy, hy2⟩
      obtain ⟨j, hj, rfl⟩ := List.mem_iff_getElem.1 hy
      simp only [List.length_take] at hj
      refine ⟨j, List.mem_range.2 (by omega), ?_⟩
      rw [List.getElem_take] at hy2
      rw [ix_nat (l := l) (i := j) (by omega)]
      simpa using hy2
    · rintro ⟨j, hj, hj2⟩
      have hj := List.mem_range.1 hj
      refine ⟨l[j], ?_, ?_⟩
      · exact List.mem_iff_getElem.2 ⟨j, by simp; omega, by simp⟩
      · rw [ix_nat (l := l) (i := j) (by omega)] at hj2
        simpa using hj2
  refine ev_all (L := fun k i => m_impl_namesOnce_l1 k l i) (n := l.length) _ (fun i r hi hg h => ?_) (fun i hi hg => ?_) ?_ (f := fun _ _ => some true) (ev_some _)
  · rw [ev_shift]; simp only [m_impl_namesOnce_l1]
    simp only [Bool.and_eq_true] at hg
    refine ev_ifT (by omega) (ev_ifT (by omega) (Ev.go (s := false) (Ev.bind (ev_iName _) (ev_ifT hg.1 (ev_ifT (by omega) (Ev.bind (ev_contains _ _ (by simp [sub]; omega)) ?_)))) (ev_ifF (by simp) ?_)))
    · rw [hsub i hi, hg.2]; exact ev_some _
    · rw [wrap_id (by omega)]; exact h
  · rw [ev_shift]; simp only [m_impl_namesOnce_l1]
    refine ev_ifT (by omega) (ev_ifT (by omega) (Ev.go (s := true) (Ev.bind (ev_iName _) (ev_ite (fun h1 => ?_) (fun h1 => ev_some _))) (ev_ifT rfl (ev_some _))))
    rw [h1, Bool.true_and] at hg
    refine ev_ifT (by omega) (Ev.bind (ev_contains _ _ (by simp [sub]; omega)) ?_)
    rw [hsub i hi, hg]; exact ev_some _
  · rw [ev_shift]; simp only [m_impl_namesOnce_l1]
    exact ev_ifF (by omega) (ev_some _)
end Go.Proofs.Ytiaigcdckmpepaa
