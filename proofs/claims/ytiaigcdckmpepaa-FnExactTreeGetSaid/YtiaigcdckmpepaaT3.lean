/- The law of TreeGet; the conditions stand in each theorem. -/
import Derived.Test.YtiaigcdckmpepaaT2
import Derived.Test.YtiaigcdckmpepaaGLtr
/-! The law of TreeGet. -/
set_option linter.unusedVariables false
set_option linter.unusedSimpArgs false
set_option linter.unnecessarySimpa false
namespace Go.Proofs.Ytiaigcdckmpepaa
open Go.Bb

theorem find_both (v : Val) (name : Bs) (hk : v.kind = 5) (hn : v.names.length = v.list.length) (hl : v.names.length ≤ 1048576) : ∀ (d j : Nat), j + d = v.names.length →
    (Ev (fun k => m_spec_l1Tree_l1 k v name j) (.go ()) ∧ Ev (fun k => m_slices_Index_string_string_l1 k v.names name j) (.go ())) ∨
    ∃ (i : Nat) (h : i < v.list.length), Ev (fun k => m_spec_l1Tree_l1 k v name j) (.ret (v.list[i], true)) ∧ Ev (fun k => m_slices_Index_string_string_l1 k v.names name j) (.ret (i : Int))
  | 0, j, hj => by
    refine .inl ⟨?_, ?_⟩
    · rw [ev_shift]; simp only [m_spec_l1Tree_l1]
      exact Ev.go (s := false) (ev_ifF (by omega) (ev_some _)) (ev_ifF (by simp) (ev_some _))
    · rw [ev_shift]; simp only [m_slices_Index_string_string_l1]
      exact ev_ifF (by omega) (ev_some _)
  | d + 1, j, hj => by
    have hjl : j < v.names.length := by omega
    have hgo : Ev (fun _ : Nat => if (j : Int) < (v.names.length : Int) then some (Lp.go (β := Val × Bool) (decide (v.kind = 5))) else some (Lp.go false)) (.go true) := ev_ifT (by omega) (ev_eq (ev_some _) (by simp [hk]))
    by_cases hx : ix v.names (j : Int) = name
    · refine .inr ⟨j, by omega, ?_, ?_⟩
      · rw [ev_shift]; simp only [m_spec_l1Tree_l1]
        refine Ev.go (s := true) (ev_ifT (by omega) (ev_eq (ev_some _) (by simp [hk]))) (ev_ifT rfl (ev_ifT (by omega) (ev_ifT hx (ev_ifT (by omega) (ev_eq (ev_some _) ?_)))))
        rw [ix_nat (by omega)]
      · rw [ev_shift]; simp only [m_slices_Index_string_string_l1]
        exact ev_ifT (by omega) (ev_ifT (by omega) (ev_ifT hx.symm (ev_eq (ev_some _) rfl)))
    · have s1 : ∀ r, Ev (fun k => m_spec_l1Tree_l1 k v name ((j + 1 : Nat) : Int)) r → Ev (fun k => m_spec_l1Tree_l1 k v name j) r := fun r h => by
        rw [ev_shift]; simp only [m_spec_l1Tree_l1]
        rw [wrap_id (n := (j : Int) + 1) (by omega)]
        exact Ev.go (s := true) (ev_ifT (by omega) (ev_eq (ev_some _) (by simp [hk]))) (ev_ifT rfl (ev_ifT (by omega) (ev_ifF hx (by simpa using h))))
      have s2 : ∀ r, Ev (fun k => m_slices_Index_string_string_l1 k v.names name ((j + 1 : Nat) : Int)) r → Ev (fun k => m_slices_Index_string_string_l1 k v.names name j) r := fun r h => by
        rw [ev_shift]; simp only [m_slices_Index_string_string_l1]
        rw [wrap_id (n := (j : Int) + 1) (by omega)]
        exact ev_ifT (by omega) (ev_ifT (by omega) (ev_ifF (fun e => hx e.symm) (by simpa using h)))
      rcases find_both v name hk hn hl d (j + 1) (by omega) with ⟨h1, h2⟩ | ⟨i, hi, h1, h2⟩
      · exact .inl ⟨s1 _ h1, s2 _ h2⟩
      · exact .inr ⟨i, hi, s1 _ h1, s2 _ h2⟩

def zV : Val := .mk 0 0 [] [] []
theorem zV_bd : Bd 1048576 zV := .mk _ (by simp [zV]) (by simp [zV]) (by simp [zV]) (by simp [zV]) (by simp [zV])
theorem zV_wt : wtV zV = 3 := by simp [zV, wtV, wtVs]

theorem tree_both (v : Val) (name : Bs) (h : Bd 1048576 v) (hw : wtW v ≤ 3145728) : ∃ r : Val × Bool, Ev (fun k => m_spec_TreeGet k v name) r ∧ Ev (fun k => m_impl_TreeGet k v name) r ∧ Bd 1048576 r.1 ∧ wtV r.1 ≤ 3145728 := by
  have hs := ev_sValueOk v h
  have hi := ev_iValueOk v h
  have hnl := h.names
  by_cases ok : okV v 6 false = true
  · rw [ok] at hs hi
    by_cases k5 : v.kind = 5
    · have hn : v.names.length = v.list.length := by
        rw [okV_eq] at ok
        simp only [Bool.and_eq_true] at ok
        have hp := ok.1.1.1.2
        unfold plainOk at hp
        rw [if_neg (by omega), if_neg (by omega), if_neg (by omega), if_neg (by omega), if_neg (by omega), if_pos k5] at hp
        simp only [decide_eq_true_eq] at hp
        exact hp.2.2.1
      rcases find_both v name k5 hn hnl v.names.length 0 (by omega) with ⟨h1, h2⟩ | ⟨i, hil, h1, h2⟩
      · refine ⟨(zV, false), ?_, ?_, zV_bd, by rw [zV_wt]; omega⟩
        · simp only [m_spec_TreeGet, m_spec_l1Tree]
          exact Ev.bind hs (ev_ifT rfl (Ev.bind (a := (zV, false)) (Ev.go (s := ()) (by simpa using h1) (ev_some _)) (Ev.bind (ev_l1Copy zV zV_bd) (ev_some _))))
        · simp only [m_impl_TreeGet, m_impl_placeOf, m_slices_Index_string_string]
          exact Ev.go (s := false) (Ev.bind hi (ev_ifT rfl (ev_eq (ev_some _) (by simp [k5])))) (ev_ifF (by simp) (Ev.bind (a := -1) (Ev.bind (a := -1) (Ev.go (s := ()) (by simpa using h2) (ev_some _)) (ev_some _)) (ev_ifT (by omega) (ev_some _))))
      · have hb := h.within _ (List.getElem_mem hil)
        have hwt := wtVs_mem (List.getElem_mem hil)
        refine ⟨(v.list[i], true), ?_, ?_, hb, by show wtV v.list[i] ≤ 3145728; unfold wtW at hw; omega⟩
        · simp only [m_spec_TreeGet, m_spec_l1Tree]
          exact Ev.bind hs (ev_ifT rfl (Ev.bind (a := (v.list[i], true)) (Ev.ret (by simpa using h1)) (Ev.bind (ev_l1Copy _ hb) (ev_some _))))
        · simp only [m_impl_TreeGet, m_impl_placeOf, m_slices_Index_string_string, m_impl_copyValue]
          refine Ev.go (s := false) (Ev.bind hi (ev_ifT rfl (ev_eq (ev_some _) (by simp [k5])))) (ev_ifF (by simp) (Ev.bind (a := (i : Int)) (Ev.bind (a := (i : Int)) (Ev.ret (by simpa using h2)) (ev_some _)) (ev_ifF (by omega) (ev_ifT (by omega) ?_))))
          rw [ix_nat hil]
          exact Ev.bind (Ev.bind (ev_copyWithin _ hb [] (fun u hu => by cases hu)) (ev_some _)) (ev_some _)
    · refine ⟨(zV, false), ?_, ?_, zV_bd, by rw [zV_wt]; omega⟩
      · simp only [m_spec_TreeGet, m_spec_l1Tree]
        have hl0 : Ev (fun k => m_spec_l1Tree_l1 k v name 0) (.go ()) := by
          rw [ev_shift]; simp only [m_spec_l1Tree_l1]
          refine Ev.go (s := false) (ev_ite (fun _ => ev_eq (ev_some _) (by simp [k5])) (fun _ => ev_some _)) (ev_ifF (by simp) (ev_some _))
        exact Ev.bind hs (ev_ifT rfl (Ev.bind (a := (zV, false)) (Ev.go (s := ()) hl0 (ev_some _)) (Ev.bind (ev_l1Copy zV zV_bd) (ev_some _))))
      · simp only [m_impl_TreeGet]
        exact Ev.go (s := true) (Ev.bind hi (ev_ifT rfl (ev_eq (ev_some _) (by simp [k5])))) (ev_ifT rfl (ev_some _))
  · refine ⟨(zV, false), ?_, ?_, zV_bd, by rw [zV_wt]; omega⟩
    · simp only [m_spec_TreeGet]
      exact Ev.bind hs (ev_ifF ok (ev_some _))
    · simp only [m_impl_TreeGet]
      exact Ev.go (s := true) (Ev.bind hi (ev_ifF ok (ev_some _))) (ev_ifT rfl (ev_some _))

theorem law_TreeGet (v : Val) (name : Bs) (h : Bd maxLen v) (hname : name.length ≤ maxLen) : ∃ k, m_laws_FnExactTreeGet k v name = some true := by
  refine Ev.get (m := fun k => m_laws_FnExactTreeGet k v name) ?_
  simp only [m_laws_FnExactTreeGet]
  refine ev_ite (fun _ => ev_some _) (fun _ => ?_)
  obtain ⟨y, h3, h4⟩ := ev_szValueW v h 1048576 (by omega) (by omega)
  rcases h4 with h4 | ⟨h4, h5, h6, h7⟩
  · exact Ev.bind h3 (ev_ifT h4 (ev_some _))
  · have ht := ev_toValue v h6
    obtain ⟨r, g1, g2, g3, g4⟩ := tree_both v name h6 (by omega)
    have hq := ev_eqValue r.1 g3
    have hqv := ev_eqValue v h6
    obtain ⟨l0, n0, m0, a1, a2, _⟩ := ev_markValue v h6 (by rw [wtV_eq]; unfold wtW at h7; omega)
    obtain ⟨l', ns', m, b1, b2, b3⟩ := ev_markValue r.1 g3 (by omega)
    exact Ev.bind h3 (ev_ifF (by omega) (Ev.bind ht (Ev.bind g1 (Ev.bind ht (Ev.bind g2 (Ev.go (s := false) (Ev.bind hq (ev_ifT rfl (ev_eq (ev_some _) (by simp)))) (ev_ifF (by simp) (Ev.bind ht (Ev.bind hqv (ev_ifT rfl (Ev.bind a1 (Ev.go (s := false) (ev_ifF (by omega) (Ev.bind hq (ev_ifT rfl (ev_eq (ev_some _) (by simp))))) (ev_ifF (by simp) (Ev.bind b1 (Ev.bind b3 (ev_ifF (by omega) (ev_ifT rfl (Ev.bind ht (Ev.bind g2 (Ev.go (s := false) (Ev.bind hq (ev_ifT rfl (ev_eq (ev_some _) (by simp)))) (ev_ifF (by simp) (Ev.bind b3 (ev_ifF (by omega) (ev_ifT rfl (ev_some _)))))))))))))))))))))))))
end Go.Proofs.Ytiaigcdckmpepaa
