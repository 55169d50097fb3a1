/- Marks that are laid on a tree are found on it; the conditions stand in each theorem. -/
import Derived.Test.YtiaigcdckmpepaaE3
import Derived.Test.YtiaigcdckmpepaaGMk
/-! Marks. -/
set_option linter.unusedVariables false
set_option linter.unusedSimpArgs false
namespace Go.Proofs.Ytiaigcdckmpepaa
open Go.Bb

theorem ev_det {α : Type} {m : Nat → Option α} {a b : α} (h : Ev m a) (h' : Ev m b) : a = b := by
  obtain ⟨K, h⟩ := h
  obtain ⟨K', h'⟩ := h'
  have := h (max K K') (by omega)
  rw [h' (max K K') (by omega)] at this
  exact (Option.some.inj this).symm

theorem ev_markText1 : ∀ (n : Nat) (acc : Bs), acc.length + n ≤ 4611686018427387904 → ∃ s, Ev (fun k => m_laws_markText_l1 k (n : Int) acc) (.go s) ∧ s.length ≤ acc.length + n := by
  intro n
  have hm : maxLen = 9223372036854775807 := rfl
  induction n using Nat.strongRecOn with
  | ind n ih =>
    intro acc hl
    by_cases h0 : n = 0
    · subst h0
      refine ⟨acc, ?_, by omega⟩
      rw [ev_shift]; simp only [m_laws_markText_l1]
      exact ev_ifF (by omega) (ev_some _)
    · obtain ⟨s, h1, h2⟩ := ih (n / 10) (by omega) (ofI [IntKind.wrap .u8 (IntKind.wrap .i64 (48 + Int.tmod (n : Int) 10))] ++ acc) (by simp [ofI]; omega)
      have hd : IntKind.wrap .i64 (Int.tdiv (n : Int) 10) = ((n / 10 : Nat) : Int) := by
        rw [Int.tdiv_eq_ediv_of_nonneg (by omega)]
        rw [wrap_id (by omega)]; omega
      refine ⟨s, ?_, by simp [ofI] at h2; omega⟩
      rw [ev_shift]; simp only [m_laws_markText_l1]
      rw [hd]
      exact ev_ifT (by omega) (ev_ifT (by simp [ofI]; omega) h1)

theorem ev_markText (n : Int) (h : n ≤ 2305843009213693952) : ∃ s, Ev (fun k => m_laws_markText k n) s := by
  have hm : maxLen = 9223372036854775807 := rfl
  simp only [m_laws_markText]
  by_cases h0 : n ≤ 0
  · exact ⟨_, ev_ifT h0 (ev_some _)⟩
  · obtain ⟨s, h1, h2⟩ := ev_markText1 n.toNat [] (by simp; omega)
    have e : ((n.toNat : Nat) : Int) = n := by omega
    rw [e] at h1
    exact ⟨_, ev_ifF h0 (Ev.go h1 (ev_ifT (by simp at h2 ⊢; omega) (ev_some _)))⟩

theorem set_mid {α : Type} (pre post : List α) (t t' : α) : (pre ++ t :: post).set pre.length t' = (pre ++ [t']) ++ post := by
  rw [List.set_append]; simp
theorem ix_mid {α : Type} [Inhabited α] (pre post : List α) (t : α) : ix (pre ++ t :: post) (pre.length : Int) = t := by
  rw [ix_nat (by simp)]; simp

/-- Texts. -/
theorem ev_markStrs : ∀ (post pre pre' : List Bs) (n : Int), pre.length = pre'.length → 0 ≤ n → n + post.length ≤ 2305843009213693952 → pre.length + post.length ≤ 4611686018427387904 →
    ∃ post' m, Ev (fun k => m_laws_markStringS_l1 k (pre ++ post) n pre.length) (.go (pre ++ post', m)) ∧ Ev (fun k => m_laws_heldStringS_l1 k (pre' ++ post') n pre'.length) (.go m) ∧ post'.length = post.length ∧ n ≤ m ∧ m ≤ n + post.length
  | [], pre, pre', n, hp, hn, hb, hl => by
    refine ⟨[], n, ?_, ?_, rfl, by omega, by simp⟩
    · rw [ev_shift]; simp only [m_laws_markStringS_l1]
      exact ev_ifF (by simp) (ev_some _)
    · rw [ev_shift]; simp only [m_laws_heldStringS_l1]
      exact ev_ifF (by simp) (ev_some _)
  | t :: post, pre, pre', n, hp, hn, hb, hl => by
    simp only [List.length_cons] at hb hl
    obtain ⟨s, hs⟩ := ev_markText n (by omega)
    obtain ⟨post', m, h1, h2, h3, h4, h5⟩ := ev_markStrs post (pre ++ [s]) (pre' ++ [s]) (n + 1) (by simp [hp]) (by omega) (by omega) (by simp; omega)
    refine ⟨s :: post', m, ?_, ?_, by simp [h3], by omega, by simp only [List.length_cons]; omega⟩
    · rw [ev_shift]; simp only [m_laws_markStringS_l1]
      refine ev_ifT (by simp; omega) (Ev.bind hs (ev_ifT (by simp; omega) ?_))
      rw [wrap_id (n := n + 1) (by omega), wrap_id (n := (pre.length : Int) + 1) (by omega), Int.toNat_natCast, set_mid]
      simpa using h1
    · rw [ev_shift]; simp only [m_laws_heldStringS_l1]
      refine ev_ifT (by simp; omega) (ev_ifT (by simp; omega) (Ev.bind hs (ev_ifT (ix_mid _ _ _) ?_)))
      rw [wrap_id (n := n + 1) (by omega), wrap_id (n := (pre'.length : Int) + 1) (by omega)]
      simpa using h2
theorem ev_markStringS (l : List Bs) (n : Int) (hn : 0 ≤ n) (hb : n + l.length ≤ 2305843009213693952) : ∃ l' m, Ev (fun k => m_laws_markStringS k l n) (m, l') ∧ Ev (fun k => m_laws_heldStringS k l' n) m ∧ n ≤ m ∧ m ≤ n + l.length := by
  obtain ⟨l', m, h1, h2, h3, h4, h5⟩ := ev_markStrs l [] [] n rfl hn hb (by simp; omega)
  refine ⟨l', m, ?_, ?_, h4, h5⟩
  · simp only [m_laws_markStringS]
    exact Ev.go (s := (l', m)) (by simpa using h1) (ev_some _)
  · simp only [m_laws_heldStringS]
    exact Ev.go (by simpa using h2) (ev_some _)

mutual
/-- How many marks a value takes. -/
def wtV : Val → Nat
  | .mk _ _ _ l ns => 3 + wtVs l + ns.length
def wtVs : List Val → Nat
  | [] => 0
  | v :: l => wtV v + wtVs l
end
theorem wtV_eq (v : Val) : wtV v = 3 + wtVs v.list + v.names.length := by cases v; rfl
theorem wtVs_mem {v : Val} : ∀ {l : List Val}, v ∈ l → wtV v ≤ wtVs l
  | u :: l, h => by
    simp only [wtVs]
    rcases List.mem_cons.1 h with rfl | h
    · omega
    · have := wtVs_mem h; omega

def MkV (l : List Val) : Prop := ∀ n : Int, 0 ≤ n → n + wtVs l ≤ 2305843009213693952 → ∃ l' m, Ev (fun k => m_laws_markValueS k l n) (m, l') ∧ Ev (fun k => m_laws_heldValueS k l' n) m ∧ n ≤ m ∧ m ≤ n + wtVs l

theorem ev_markVals : ∀ (post pre pre' : List Val) (n : Int), (∀ v ∈ post, MkV v.list) → pre.length = pre'.length → 0 ≤ n → n + wtVs post ≤ 2305843009213693952 → pre.length + post.length ≤ 4611686018427387904 →
    ∃ post' m, Ev (fun k => m_laws_markValueS_l1 k (pre ++ post) n pre.length) (.go (pre ++ post', m)) ∧ Ev (fun k => m_laws_heldValueS_l1 k (pre' ++ post') n pre'.length) (.go m) ∧ n ≤ m ∧ m ≤ n + wtVs post
  | [], pre, pre', n, hi, hp, hn, hb, hl => by
    refine ⟨[], n, ?_, ?_, by omega, by simp [wtVs]⟩
    · rw [ev_shift]; simp only [m_laws_markValueS_l1]
      exact ev_ifF (by simp) (ev_some _)
    · rw [ev_shift]; simp only [m_laws_heldValueS_l1]
      exact ev_ifF (by simp) (ev_some _)
  | t :: post, pre, pre', n, hi, hp, hn, hb, hl => by
    simp only [List.length_cons, wtVs, wtV_eq] at hb hl ⊢
    obtain ⟨s, hs⟩ := ev_markText (n + 1 + 1) (by omega)
    obtain ⟨of', n2, g1, g2, g3, g4⟩ := hi t List.mem_cons_self (n + 1 + 1 + 1) (by omega) (by omega)
    obtain ⟨ns', n3, g5, g6, g7, g8⟩ := ev_markStringS t.names n2 (by omega) (by omega)
    obtain ⟨post', m, h1, h2, h4, h5⟩ := ev_markVals post (pre ++ [Val.mk n (n + 1) s of' ns']) (pre' ++ [Val.mk n (n + 1) s of' ns']) n3 (fun v hv => hi v (List.mem_cons_of_mem _ hv)) (by simp [hp]) (by omega) (by omega) (by simp; omega)
    refine ⟨Val.mk n (n + 1) s of' ns' :: post', m, ?_, ?_, by omega, by omega⟩
    · rw [ev_shift]; simp only [m_laws_markValueS_l1]
      rw [wrap_id (n := n + 1) (by omega), wrap_id (n := n + 1 + 1) (by omega), wrap_id (n := n + 1 + 1 + 1) (by omega), wrap_id (n := (pre.length : Int) + 1) (by omega), ix_mid]
      refine ev_ifT (by simp; omega) (ev_ifT (by simp; omega) (Ev.bind hs (Ev.bind g1 (Ev.bind g5 ?_))))
      rw [Int.toNat_natCast, set_mid]
      simpa using h1
    · rw [ev_shift]; simp only [m_laws_heldValueS_l1]
      rw [wrap_id (n := n + 1) (by omega), wrap_id (n := n + 1 + 1) (by omega), wrap_id (n := n + 1 + 1 + 1) (by omega), wrap_id (n := (pre'.length : Int) + 1) (by omega), ix_mid]
      have hb2 : (0 : Int) ≤ (pre'.length : Int) ∧ (pre'.length : Int) < ((pre' ++ Val.mk n (n + 1) s of' ns' :: post').length : Int) := by simp; omega
      refine ev_ifT hb2.2 (ev_ifT hb2 (ev_ifT rfl (ev_ifT hb2 (ev_ifT rfl (ev_ifT hb2 (Ev.bind hs (ev_ifT rfl (ev_ifT hb2 (Ev.bind g2 (ev_ifF (by omega) (ev_ifT hb2 (Ev.bind g6 (ev_ifF (by omega) ?_)))))))))))))
      simpa using h2
theorem mkV_all : ∀ v : Val, v.list.length ≤ 4611686018427387904 → (∀ x ∈ v.list, MkV x.list) → MkV v.list := by
  intro v hv ih n hn hb
  obtain ⟨l', m, h1, h2, h4, h5⟩ := ev_markVals v.list [] [] n ih rfl hn hb (by simp; omega)
  refine ⟨l', m, ?_, ?_, h4, h5⟩
  · rw [ev_shift]; simp only [m_laws_markValueS]
    exact Ev.go (s := (l', m)) (by simpa using h1) (ev_some _)
  · rw [ev_shift]; simp only [m_laws_heldValueS]
    exact Ev.go (by simpa using h2) (ev_some _)
theorem mkV_ind : ∀ v : Val, Bd 1048576 v → MkV v.list := by
  apply Val.ind
  intro v ih h
  exact mkV_all v (by have := h.list; omega) fun x hx => ih x hx (h.within x hx)
/-- Marks on a value. -/
theorem ev_markValue (v : Val) (hv : Bd 1048576 v) (hw : wtV v ≤ 1152921504606846976) : ∃ l' ns' m, Ev (fun k => m_laws_markValue k v 1) (m, l', ns') ∧ 0 ≤ m ∧ Ev (fun k => m_laws_heldValue k (Val.mk v.kind v.num v.text l' ns') 1) m := by
  rw [wtV_eq] at hw
  obtain ⟨l', n2, g1, g2, g3, g4⟩ := mkV_ind v hv 1 (by omega) (by omega)
  obtain ⟨ns', n3, g5, g6, g7, g8⟩ := ev_markStringS v.names n2 (by omega) (by omega)
  refine ⟨l', ns', n3, ?_, by omega, ?_⟩
  · simp only [m_laws_markValue]
    exact Ev.bind g1 (Ev.bind g5 (ev_some _))
  · simp only [m_laws_heldValue]
    exact Ev.bind g2 (ev_ifF (by omega) (Ev.bind g6 (ev_ifF (by omega) (ev_some _))))
end Go.Proofs.Ytiaigcdckmpepaa
