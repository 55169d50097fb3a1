/- Types: bounds, and what both readers answer; the conditions stand in each theorem. -/
import Derived.Test.YtopbbjoflopjbaaE12
/-! What both readers answer. -/
set_option linter.unusedVariables false
set_option linter.unusedSimpArgs false
namespace Go.Proofs.Ytopbbjoflopjbaa
open Go.Bb

mutual
theorem Typ.ind {p : Typ → Prop} (h : ∀ v, (∀ x ∈ v.of_, p x) → p v) : ∀ v, p v
  | .mk a l c => h _ (Typ.indS h l)
theorem Typ.indS {p : Typ → Prop} (h : ∀ v, (∀ x ∈ v.of_, p x) → p v) : ∀ (l : List Typ), ∀ x ∈ l, p x
  | [] => fun _ hx => nomatch hx
  | v :: l => fun x hx => (List.mem_cons.1 hx).elim (fun e => e ▸ Typ.ind h v) (Typ.indS h l x)
end
/-- No text, no list of it is longer. -/
inductive BdT (M : Nat) : Typ → Prop
  | mk (v : Typ) (h1 : v.name.length ≤ M) (h2 : v.of_.length ≤ M) (h3 : ∀ x ∈ v.of_, BdT M x) : BdT M v
theorem BdT.name {M : Nat} {v : Typ} (h : BdT M v) : v.name.length ≤ M := by cases h; assumption
theorem BdT.of {M : Nat} {v : Typ} (h : BdT M v) : v.of_.length ≤ M := by cases h; assumption
theorem BdT.within {M : Nat} {v : Typ} (h : BdT M v) : ∀ x ∈ v.of_, BdT M x := by cases h; assumption

theorem ev_sType : ∀ (t : Typ), BdT 1048576 t → ∀ d : Nat, d ≤ 1000 → Ev (fun k => m_spec_l2Type k t (d : Int)) (okT d t) := by
  apply Typ.ind
  intro t ih hb d hd
  rw [ev_shift]; simp only [m_spec_l2Type]
  obtain ⟨n, of, m⟩ := t
  simp only [Typ.name_mk, Typ.of__mk] at ih ⊢
  have hn := hb.name
  have hw := hb.within
  cases of with
  | nil =>
    rw [okT_nil]
    exact ev_ifT rfl (Ev.bind (ev_sName n hn) (ev_some _))
  | cons t r =>
    rw [okT_cons]
    refine ev_ifF (by simp only [List.length_cons]; omega) (ev_ite (fun h1 => ?_) (fun h1 => ev_eq (ev_some _) (by simp [h1])))
    refine ev_ite (fun h2 => ?_) (fun h2 => ev_eq (ev_some _) ?_)
    · have hr : r = [] := List.eq_nil_of_length_eq_zero (by simp only [List.length_cons] at h2; omega)
      subst hr
      refine ev_ite (fun h3 => ev_ifT (by simp) ?_) (fun h3 => ev_eq (ev_some _) ?_)
      · obtain ⟨d, rfl⟩ : ∃ d', d = d' + 2 := ⟨d - 2, by omega⟩
        have hw2 : IntKind.wrap .i64 (((d + 2 : Nat) : Int) - 1) = ((d + 1 : Nat) : Int) := by rw [wrap_id (by omega)]; omega
        rw [hw2]
        have e : (Typ.mk (ix [t] 0).name (ix [t] 0).of_ (ix [t] 0).must) = t := by simp [ix]
        rw [e]
        exact Ev.bind (ih t List.mem_cons_self (hw t List.mem_cons_self) (d + 1) (by omega)) (ev_eq (ev_some _) (by simp [h1]))
      · have : d = 0 ∨ d = 1 := by omega
        rcases this with rfl | rfl <;> simp
    · have hr : r ≠ [] := by rintro rfl; exact h2 rfl
      simp [hr]

theorem get_bd : ∀ (d : Nat) (s : Bs), s.length ≤ 1048576 → BdT 1048576 (getT d s).1 ∧ (getT d s).2.1.length ≤ s.length
  | d, s, hs => by
    have htail : ∀ (nm : Bs) (of : List Typ) (q : Bs), (tailT nm of q).1.name = nm ∧ (tailT nm of q).1.of_ = of ∧ (tailT nm of q).2.1.length ≤ q.length := fun nm of q => by
      unfold tailT; split <;> simp
    by_cases hc : s.head? ≠ some 91 ∨ d ≤ 1
    · rw [get_name d s hc]
      obtain ⟨h1, h2, h3⟩ := htail (wd s) [] (s.drop (wd s).length)
      have := wd_len s
      refine ⟨.mk _ (by rw [h1]; omega) (by rw [h2]; simp) (by rw [h2]; simp), ?_⟩
      rw [List.length_drop] at h3; omega
    · have h1 : s.head? = some 91 := by
        false_or_by_contra; rename_i hn; exact hc (.inl hn)
      obtain ⟨d, rfl⟩ : ∃ d', d = d' + 2 := ⟨d - 2, by have : ¬ d ≤ 1 := fun h => hc (.inr h); omega⟩
      cases s with
      | nil => cases h1
      | cons b r =>
        simp at h1; subst h1
        simp only [List.length_cons] at hs ⊢
        obtain ⟨h2, h3⟩ := get_bd (d + 1) r (by omega)
        rw [get_list]
        unfold contT
        split
        · obtain ⟨h4, h5, h6⟩ := htail [] [(getT (d + 1) r).1] (getT (d + 1) r).2.1.tail
          refine ⟨.mk _ (by rw [h4]; simp) (by rw [h5]; simp) (by rw [h5]; simpa using h2), ?_⟩
          rw [List.length_tail] at h6; omega
        · exact ⟨.mk _ (by simp [zT]) (by simp [zT]) (by simp [zT]), by simp⟩
termination_by d => d

theorem ev_sTypeGet (s : Bs) (hs : s.length ≤ 1048576) : Ev (fun k => m_spec_TypeGet k s) (readT s) := by
  simp only [m_spec_TypeGet]
  rw [read_spec]
  have hg := ev_sGet 3 s (by omega) hs
  have hb := get_bd 3 s hs
  generalize getT 3 s = g at hg hb
  obtain ⟨t, rest, ok⟩ := g
  refine Ev.bind hg (Ev.go (s := !(ok && decide (rest = []) && okT 3 t)) (ev_ite (fun h1 => ev_ite (fun h2 => Ev.bind (ev_sType t hb.1 3 (by omega)) (ev_eq (ev_some _) ?_)) (fun h2 => ev_eq (ev_some _) ?_)) (fun h1 => ev_eq (ev_some _) ?_)) ?_)
  · simp only at h1 h2; simp [h1, h2]
  · simp only at h1 h2; simp [h1, h2]
  · simp only at h1; simp [h1]
  · cases h : (ok && decide (rest = []) && okT 3 t) with
    | true => exact ev_ifF (by simp) (ev_eq (ev_some _) (by simp))
    | false => exact ev_ifT rfl (ev_eq (ev_some _) (by simp [zT]))
theorem ev_iTypeGet (s : Bs) (hs : s.length ≤ 1048576) : Ev (fun k => m_impl_TypeGet k s) (readT s) := by
  simp only [m_impl_TypeGet]
  refine Ev.bind (ev_iWin 3 s (by omega) hs) ?_
  unfold readT
  exact ev_ite (fun h => ev_eq (ev_some _) (by rw [if_pos h])) (fun h => ev_eq (ev_some _) (by rw [if_neg h]; rfl))
theorem read_bd (s : Bs) (hs : s.length ≤ 1048576) : BdT 1048576 (readT s).1 := by
  rw [read_spec]
  split
  · exact (get_bd 3 s hs).1
  · exact .mk _ (by simp [zT]) (by simp [zT]) (by simp [zT])

end Go.Proofs.Ytopbbjoflopjbaa
