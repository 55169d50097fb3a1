/- Paths as texts: the program and the reference write the same; the conditions stand in each theorem. -/
import Derived.Test.YtopbbjoflopjbaaE3
import Derived.Test.YtopbbjoflopjbaaGPt
/-! Paths as texts. -/
set_option linter.unusedVariables false
set_option linter.unusedSimpArgs false
namespace Go.Proofs.Ytopbbjoflopjbaa
open Go.Bb

theorem byt_nat {s : Bs} {i : Nat} (h : i < s.length) : byt s (i : Int) = (s[i].toNat : Int) := by
  unfold byt; simp [List.getD, h]
theorem byt_eq {s : Bs} {i : Nat} (h : i < s.length) (c : UInt8) : byt s (i : Int) = (c.toNat : Int) ↔ s[i] = c := by
  rw [byt_nat h]
  constructor
  · intro e; exact UInt8.toNat_inj.1 (by omega)
  · intro e; rw [e]
theorem sub_one {s : Bs} {i : Nat} (h : i < s.length) : sub s (i : Int) ((i : Int) + 1) = [s[i]] := by
  unfold sub
  have e : ((i : Int) + 1).toNat = i + 1 := by omega
  rw [e, Int.toNat_natCast, List.take_add_one, List.getElem?_eq_getElem h, Option.toList_some, List.drop_append]
  simp [Nat.min_eq_left (Nat.le_of_lt h)]
theorem ofI_toI (s : Bs) : ofI (toI s) = s := by
  unfold ofI toI; rw [List.map_map]
  conv => rhs; rw [← List.map_id s]
  apply List.map_congr_left
  intro x _
  simp
theorem inB_toI (s : Bs) : inB (toI s) = true := by
  unfold inB toI
  rw [List.all_eq_true]
  intro n hn
  obtain ⟨x, _, rfl⟩ := List.mem_map.1 hn
  have := x.toNat_lt
  simp; omega
theorem toI_append (a b : Bs) : toI (a ++ b) = toI a ++ toI b := by simp [toI]
theorem toI_length (a : Bs) : (toI a).length = a.length := by simp [toI]

def ptB (b : UInt8) : Bs := if b = 126 then [126, 48] else if b = 47 then [126, 49] else [b]
def ptS (s : Bs) : Bs := s.flatMap ptB
def ptL (l : List Bs) : Bs := l.flatMap fun s => 47 :: ptS s
theorem ptB_len (b : UInt8) : (ptB b).length ≤ 2 := by unfold ptB; split; simp; split <;> simp
theorem ptS_len (s : Bs) : (ptS s).length ≤ 2 * s.length := by
  induction s with
  | nil => simp [ptS]
  | cons b s ih => have := ptB_len b; simp only [ptS, List.flatMap_cons, List.length_append, List.length_cons] at ih ⊢; omega
theorem ptS_take {s : Bs} {i : Nat} (h : i < s.length) : ptS (s.take (i + 1)) = ptS (s.take i) ++ ptB s[i] := by
  unfold ptS; rw [List.take_add_one, List.getElem?_eq_getElem h, Option.toList_some, List.flatMap_append]; simp
theorem ptL_take {l : List Bs} {i : Nat} (h : i < l.length) : ptL (l.take (i + 1)) = ptL (l.take i) ++ 47 :: ptS l[i] := by
  unfold ptL; rw [List.take_add_one, List.getElem?_eq_getElem h, Option.toList_some, List.flatMap_append]; simp
theorem ptS_take_len (s : Bs) (i : Nat) (h : i ≤ s.length) : (ptS (s.take i)).length ≤ 2 * i := by
  have := ptS_len (s.take i); rw [List.length_take, Nat.min_eq_left h] at this; exact this
theorem ptL_len {M : Nat} (l : List Bs) (h : ∀ s ∈ l, s.length ≤ M) : (ptL l).length ≤ l.length * (2 * M + 1) := by
  induction l with
  | nil => simp [ptL]
  | cons s l ih =>
    have h1 := ih fun x hx => h x (List.mem_cons_of_mem _ hx)
    have h2 := h s List.mem_cons_self
    have h3 := ptS_len s
    simp only [ptL, List.flatMap_cons, List.length_append, List.length_cons, Nat.add_mul, Nat.one_mul] at h1 ⊢
    omega

theorem ev_spt2 (a : List Bs) (p : Nat) (hp : p < a.length) (base : Bs) (hs : a[p].length ≤ 1048576) (hb : base.length ≤ 4611686018427387904) : Ev (fun k => m_spec_PointerText_l2 k a p base 0) (.go (base ++ ptS a[p])) := by
  have hm : maxLen = 9223372036854775807 := rfl
  have := ev_fold (L := fun k s i => m_spec_PointerText_l2 k a p s i) (n := a[p].length) (fun j => base ++ ptS (a[p].take j)) (fun i r hi h => by
    have hl := ptS_take_len a[p] i (by omega)
    rw [ev_shift]; simp only [m_spec_PointerText_l2]
    rw [ix_nat hp, wrap_id (n := (i : Int) + 1) (by omega), sub_one hi]
    refine ev_ifT (by omega) (ev_ifT (by omega) (ev_ifT (by omega) (ev_ifT (by omega) ?_)))
    rw [ptS_take hi, ← List.append_assoc] at h
    refine ev_ite (fun h1 => ?_) (fun h1 => ev_ite (fun h2 => ?_) (fun h2 => ?_))
    · rw [ptB, if_pos ((byt_eq hi 126).1 h1)] at h
      exact ev_ifT (by simp only [List.length_append, List.length_cons, List.length_nil]; omega) h
    · rw [ptB, if_neg (fun e => h1 ((byt_eq hi 126).2 e)), if_pos ((byt_eq hi 47).1 h2)] at h
      exact ev_ifT (by simp only [List.length_append, List.length_cons, List.length_nil]; omega) h
    · rw [ptB, if_neg (fun e => h1 ((byt_eq hi 126).2 e)), if_neg (fun e => h2 ((byt_eq hi 47).2 e))] at h
      exact ev_ifT (by omega) (ev_ifT (by omega) (ev_ifT (by simp only [List.length_append, List.length_cons, List.length_nil]; omega) h))) (by
    rw [ev_shift]; simp only [m_spec_PointerText_l2]
    rw [ix_nat hp]
    exact ev_ifT (by omega) (ev_ifF (by omega) (ev_some _))) a[p].length 0 (by omega)
  simpa [ptS] using this

theorem ev_sPointerText (a : List Bs) (ha : a.length ≤ 1048576) (hs : ∀ s ∈ a, s.length ≤ 1048576) : Ev (fun k => m_spec_PointerText k a) (ptL a) := by
  have hm : maxLen = 9223372036854775807 := rfl
  simp only [m_spec_PointerText]
  refine Ev.go (s := ptL a) ?_ (ev_some _)
  have := ev_fold (L := fun k s i => m_spec_PointerText_l1 k a s i) (n := a.length) (fun j => ptL (a.take j)) (fun i r hi h => by
    have hl := ptL_len (a.take i) (fun s hs' => hs s (List.mem_of_mem_take hs'))
    rw [List.length_take, Nat.min_eq_left (by omega)] at hl
    have hl2 : i * (2 * 1048576 + 1) ≤ 1048576 * (2 * 1048576 + 1) := Nat.mul_le_mul_right _ (by omega)
    rw [ev_shift]; simp only [m_spec_PointerText_l1]
    rw [wrap_id (n := (i : Int) + 1) (by omega)]
    refine ev_ifT (by omega) (ev_ifT (by simp only [List.length_append, List.length_cons, List.length_nil]; omega) ?_)
    refine Ev.go (ev_spt2 a i hi _ (hs _ (List.getElem_mem hi)) (by simp only [List.length_append, List.length_cons, List.length_nil]; omega)) ?_
    rw [ptL_take hi] at h
    simpa using h) (by
    rw [ev_shift]; simp only [m_spec_PointerText_l1]
    exact ev_ifF (by omega) (ev_some _)) a.length 0 (by omega)
  simpa [ptL] using this

theorem ev_ipt2 (a : List Bs) (p : Nat) (hp : p < a.length) (base : Bs) (hs : a[p].length ≤ 1048576) (hb : base.length ≤ 70368744177664) : Ev (fun k => m_impl_PointerText_l2 k a p (toI base) 0) (.go (toI (base ++ ptS a[p]))) := by
  have hm : maxLen = 9223372036854775807 := rfl
  have := ev_fold (L := fun k s i => m_impl_PointerText_l2 k a p s i) (n := a[p].length) (fun j => toI (base ++ ptS (a[p].take j))) (fun i r hi h => by
    have hl := ptS_take_len a[p] i (by omega)
    rw [ev_shift]; simp only [m_impl_PointerText_l2]
    rw [ix_nat hp, wrap_id (n := (i : Int) + 1) (by omega)]
    refine ev_ifT (by omega) (ev_ifT (by omega) ?_)
    rw [ptS_take hi, ← List.append_assoc, toI_append] at h
    refine ev_ite (fun h1 => ?_) (fun h1 => ev_ite (fun h2 => ?_) (fun h2 => ?_))
    · rw [ptB, if_pos ((byt_eq hi 126).1 h1)] at h
      exact ev_ifT (by simp only [List.length_append, List.length_cons, List.length_nil, toI_length]; omega) h
    · rw [ptB, if_neg (fun e => h1 ((byt_eq hi 126).2 e)), if_pos ((byt_eq hi 47).1 h2)] at h
      exact ev_ifT (by simp only [List.length_append, List.length_cons, List.length_nil, toI_length]; omega) h
    · rw [ptB, if_neg (fun e => h1 ((byt_eq hi 126).2 e)), if_neg (fun e => h2 ((byt_eq hi 47).2 e))] at h
      rw [byt_nat hi]
      exact ev_ifT (by omega) (ev_ifT (by simp only [List.length_append, List.length_cons, List.length_nil, toI_length]; omega) h)) (by
    rw [ev_shift]; simp only [m_impl_PointerText_l2]
    rw [ix_nat hp]
    exact ev_ifF (by omega) (ev_some _)) a[p].length 0 (by omega)
  simpa [ptS] using this

theorem ev_iPointerText (a : List Bs) (ha : a.length ≤ 1048576) (hs : ∀ s ∈ a, s.length ≤ 1048576) : Ev (fun k => m_impl_PointerText k a) (ptL a) := by
  have hm : maxLen = 9223372036854775807 := rfl
  simp only [m_impl_PointerText]
  refine Ev.go (s := toI (ptL a)) ?_ (ev_ifT (inB_toI _) (ev_eq (ev_some _) (ofI_toI _)))
  have := ev_fold (L := fun k s i => m_impl_PointerText_l1 k a s i) (n := a.length) (fun j => toI (ptL (a.take j))) (fun i r hi h => by
    have hl := ptL_len (a.take i) (fun s hs' => hs s (List.mem_of_mem_take hs'))
    rw [List.length_take, Nat.min_eq_left (by omega)] at hl
    have hl2 : i * (2 * 1048576 + 1) ≤ 1048576 * (2 * 1048576 + 1) := Nat.mul_le_mul_right _ (by omega)
    rw [ev_shift]; simp only [m_impl_PointerText_l1]
    rw [wrap_id (n := (i : Int) + 1) (by omega)]
    refine ev_ifT (by omega) (ev_ifT (by omega) (ev_ifT (by simp only [List.length_append, List.length_cons, List.length_nil, toI_length]; omega) ?_))
    refine Ev.go (s := toI ((ptL (a.take i) ++ [47]) ++ ptS a[i])) ?_ ?_
    · have := ev_ipt2 a i hi (ptL (a.take i) ++ [47]) (hs _ (List.getElem_mem hi)) (by simp only [List.length_append, List.length_cons, List.length_nil]; omega)
      rw [toI_append] at this
      exact this
    · rw [ptL_take hi] at h
      simpa using h) (by
    rw [ev_shift]; simp only [m_impl_PointerText_l1]
    exact ev_ifF (by omega) (ev_some _)) a.length 0 (by omega)
  simpa [ptL, toI] using this

theorem law_PointerText (a : List Bs) (h1 : a.length ≤ maxLen) (h2 : ∀ s ∈ a, s.length ≤ maxLen) : ∃ k, m_laws_FnExactPointerText k a = some true := by
  refine Ev.get (m := fun k => m_laws_FnExactPointerText k a) ?_
  simp only [m_laws_FnExactPointerText]
  obtain ⟨y, h3, h4⟩ := ev_szStringS a 1048576 (by omega) (by omega) h1 h2
  rcases h4 with h4 | ⟨h4, h5, h6, h7⟩
  · exact Ev.bind h3 (ev_ifT h4 (ev_some _))
  · have hl : a.length ≤ 1048576 := by omega
    have hs : ∀ s ∈ a, s.length ≤ 1048576 := fun s hs => by have := h7 s hs; omega
    have ht := ev_toStringS a hl
    exact Ev.bind h3 (ev_ifF (by omega) (Ev.bind ht (Ev.bind (ev_sPointerText a hl hs) (Ev.bind ht (Ev.bind (ev_iPointerText a hl hs) (ev_ifT rfl (Ev.bind ht (Ev.bind (ev_eqStringS a hl) (ev_ifT rfl (ev_some _))))))))))
end Go.Proofs.Ytopbbjoflopjbaa
