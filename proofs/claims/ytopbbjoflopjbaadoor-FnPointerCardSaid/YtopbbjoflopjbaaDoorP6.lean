/- The law that a path is read back from its text; the conditions stand in each theorem. -/
import Derived.Test.YtopbbjoflopjbaaDoorP5
import Derived.Test.YtopbbjoflopjbaaDoorGLpp
/-! The law of paths. -/
set_option linter.unusedVariables false
set_option linter.unusedSimpArgs false
namespace Go.Proofs.YtopbbjoflopjbaaDoor
open Go.Bb

theorem ev_pgTexts (a : List Bs) (ha : a.length ≤ 1048576) : Ev (fun k => m_laws_pgTexts k a a) true := by
  simp only [m_laws_pgTexts]
  refine ev_ifT trivial (Ev.go (s := ()) ?_ (ev_some _))
  have := ev_all_go (L := fun k i => m_laws_pgTexts_l1 k a a i) (n := a.length) (g := fun _ => true) (fun i r hi hg h => by
    rw [ev_shift]; simp only [m_laws_pgTexts_l1]
    refine ev_ifT (by omega) (ev_ifT (by omega) (ev_ifT (by omega) (ev_ifT trivial ?_)))
    rw [wrap_id (by omega)]; exact h) (by
    rw [ev_shift]; simp only [m_laws_pgTexts_l1]
    exact ev_ifF (by omega) (ev_some _)) a.length 0 (by omega) (fun _ _ _ => rfl)
  simpa using this

theorem path_loop : ∀ (j : Nat) (m : Int) (r : GL1Rd) (acc : List Bs), Rd m r → m + j ≤ 1000 → acc.length + j ≤ 1000 → (∀ s ∈ acc, s.length ≤ 10) →
    ∃ l, Ev (fun k => m_spec_DrawPointerText_l1 k r.b r.p acc (j : Int)) (.go l) ∧ l.length ≤ 1000 ∧ ∀ s ∈ l, s.length ≤ 10
  | 0, m, r, acc, h, hm, hl, ha => by
    refine ⟨acc, ?_, by omega, ha⟩
    rw [ev_shift]; simp only [m_spec_DrawPointerText_l1]
    exact ev_ifF (by omega) (ev_some _)
  | j + 1, m, r, acc, h, hm, hl, ha => by
    obtain ⟨x, r1, g1, g2, g3⟩ := of_ok h (by omega) (l := [[], [97], [97, 47, 98], [126], [126, 49], [48], [108, 111, 110, 103, 32, 110, 97, 109, 101]]) (by simp)
    have hx : x.length ≤ 10 := by
      simp only [List.mem_cons, List.not_mem_nil, or_false] at g3
      rcases g3 with rfl | rfl | rfl | rfl | rfl | rfl | rfl <;> simp
    obtain ⟨l, k1, k2, k3⟩ := path_loop j (m + 1) r1 (acc ++ [x]) g2 (by omega) (by simp; omega) (fun s hs => by
      rcases List.mem_append.1 hs with hs | hs
      · exact ha s hs
      · simp at hs; subst hs; exact hx)
    refine ⟨l, ?_, k2, k3⟩
    rw [ev_shift]; simp only [m_spec_DrawPointerText_l1]
    refine ev_ifT (by omega) ?_
    have e : (GL1Rd.mk r.b r.p) = r := rfl
    rw [e, g1]
    simp only [Option.bind_some]
    rw [wrap_id (by omega), show ((j + 1 : Nat) : Int) - 1 = (j : Int) by omega]
    exact ev_ifT (by simp; omega) k1
theorem path_drawn {a : List Int} (h : ∀ x ∈ a, 0 ≤ x ∧ x ≤ 255) : ∃ l, Ev (fun k => m_spec_DrawPointerText k a) l ∧ l.length ≤ 1000 ∧ ∀ s ∈ l, s.length ≤ 10 := by
  obtain ⟨r, g1, g2⟩ := open_ok h
  obtain ⟨v, r2, h1, h2, h3, h4⟩ := pick_ok g2 (by omega) (n := 4) (by omega)
  obtain ⟨j, rfl⟩ : ∃ n : Nat, v = n := ⟨v.toNat, by omega⟩
  obtain ⟨l, k1, k2, k3⟩ := path_loop j 1 r2 [] h2 (by omega) (by simp; omega) (by simp)
  refine ⟨l, ?_, k2, k3⟩
  simp only [m_spec_DrawPointerText, g1, h1, Option.bind_some]
  exact Ev.go k1 (ev_some _)
theorem text_drawn {a : List Int} (h : ∀ x ∈ a, 0 ≤ x ∧ x ≤ 255) : ∃ s, m_spec_DrawPointerGet a = some s ∧ s.length ≤ 10 := by
  obtain ⟨r, g1, g2⟩ := open_ok h
  obtain ⟨x, r1, h1, h2, h3⟩ := of_ok g2 (by omega) (l := [[], [47], [47, 97, 47, 48], [47, 126, 48, 126, 49], [47, 126], [47, 126, 50], [97], [47, 47], [47, 97, 126, 49, 98, 47, 126, 48, 49]]) (by simp)
  refine ⟨x, by simp only [m_spec_DrawPointerGet, g1, h1, Option.bind_some], ?_⟩
  simp only [List.mem_cons, List.not_mem_nil, or_false] at h3
  rcases h3 with rfl | rfl | rfl | rfl | rfl | rfl | rfl | rfl | rfl <;> simp

theorem getP_parts {s : Bs} {l : List Bs} (h : getP s = some l) : l.length ≤ s.length ∧ ∀ w ∈ l, w.length ≤ s.length := by
  have e := getP_inv h
  have key : ∀ l : List Bs, ∀ w ∈ l, w.length ≤ (ptL l).length := by
    intro l
    induction l with
    | nil => intro w hw; cases hw
    | cons v l ih =>
      intro w hw
      rw [ptL_cons]
      have hv : v.length ≤ (ptS v).length := by
        clear ih hw e h
        induction v with
        | nil => simp
        | cons b v ih =>
          rw [ptS_cons]
          have : 1 ≤ (ptB b).length := by unfold ptB; split; simp; split <;> simp
          simp only [List.length_cons, List.length_append]; omega
      simp only [List.length_cons, List.length_append]
      rcases List.mem_cons.1 hw with rfl | hw
      · omega
      · have := ih w hw; omega
  refine ⟨?_, fun w hw => by rw [e]; exact key l w hw⟩
  have := ptL_bd l
  rw [← e] at this; exact this

theorem law_Pointer (a b : List Int) (ha : a.length ≤ maxLen) (h1 : ∀ x ∈ a, 0 ≤ x ∧ x ≤ 255) (hb : b.length ≤ maxLen) (h2 : ∀ x ∈ b, 0 ≤ x ∧ x ≤ 255) : ∃ k, m_laws_FnPointer k a b = some true := by
  refine Ev.get (m := fun k => m_laws_FnPointer k a b) ?_
  obtain ⟨l, g1, g2, g3⟩ := path_drawn h1
  obtain ⟨s, k1, k2⟩ := text_drawn h2
  simp only [m_laws_FnPointer]
  have first : ∃ c, Ev (fun _ : Nat => if 1048576 < (a.length : Int) then some (Lp.go (β := Bool) true) else some (Lp.go (decide (1048576 < (b.length : Int))))) (.go c) := by
    by_cases c : 1048576 < (a.length : Int)
    · exact ⟨_, ev_ifT c (ev_some _)⟩
    · exact ⟨_, ev_ifF c (ev_some _)⟩
  obtain ⟨c, hc⟩ := first
  refine Ev.go hc (ev_ite (fun _ => ev_some _) (fun _ => ?_))
  have hlen : (ptL l).length ≤ 1048576 := by
    have := ptL_len l g3
    have h3 : l.length * (2 * 10 + 1) ≤ 1000 * (2 * 10 + 1) := Nat.mul_le_mul_right _ g2
    omega
  have hs10 : ∀ w ∈ l, w.length ≤ 1048576 := fun w hw => by have := g3 w hw; omega
  have hq := ev_pgTexts l (by omega)
  refine Ev.bind g1 (Ev.bind (ev_iPointerText l (by omega) hs10) (Ev.bind (ev_iPointerGet _ hlen) ?_))
  rw [getP_ptL]
  refine Ev.go (s := false) (Ev.bind (ev_sPointerText l (by omega) hs10) (ev_ifT rfl (ev_ifT rfl (Ev.bind hq (ev_eq (ev_some _) rfl))))) (ev_ifF (by simp) ?_)
  rw [k1]
  simp only [Option.bind_some]
  have hb2 := pairOr_bd s
  refine Ev.bind (ev_iPointerGet s (by omega)) (Ev.bind (ev_sPointerGet s (by omega)) (ev_ifT rfl (Ev.bind (ev_pgTexts _ (by omega)) (ev_ifT rfl ?_))))
  cases hg : getP s with
  | none => exact ev_ifF (by simp [pairOr]) (ev_some _)
  | some l' =>
    obtain ⟨p1, p2⟩ := getP_parts hg
    refine ev_ifT rfl (Ev.bind (ev_iPointerText l' (by omega) (fun w hw => by have := p2 w hw; omega)) (ev_eq (ev_some _) ?_))
    rw [← getP_inv hg]; simp
end Go.Proofs.YtopbbjoflopjbaaDoor
