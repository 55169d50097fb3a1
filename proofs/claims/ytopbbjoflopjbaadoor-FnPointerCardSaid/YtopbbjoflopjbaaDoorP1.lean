/- Paths as texts, marks on lists of texts; the conditions stand in each theorem. -/
import Derived.Test.YtopbbjoflopjbaaDoorE1
import Derived.Test.YtopbbjoflopjbaaDoorB18
import Derived.Test.YtopbbjoflopjbaaDoorGpg
/-! Paths as texts. -/
set_option linter.unusedVariables false
set_option linter.unusedSimpArgs false
namespace Go.Proofs.YtopbbjoflopjbaaDoor
open Go.Bb

theorem byt_nat {s : Bs} {i : Nat} (h : i < s.length) : byt s (i : Int) = (s[i].toNat : Int) := by
  unfold byt; simp [List.getD, h]
theorem byt_eq {s : Bs} {i : Nat} (h : i < s.length) (c : UInt8) : byt s (i : Int) = (c.toNat : Int) ↔ s[i] = c := by
  rw [byt_nat h]
  constructor
  · intro e; exact UInt8.toNat_inj.1 (by omega)
  · intro e; rw [e]
theorem sub_one {s : Bs} {i : Nat} (h : i < s.length) : sub s (i : Int) ((i : Int) + 1) = [s[i]] := by
  unfold sub
  have e : ((i : Int) + 1).toNat = i + 1 := by omega
  rw [e, Int.toNat_natCast, List.take_add_one, List.getElem?_eq_getElem h, Option.toList_some, List.drop_append]
  simp [Nat.min_eq_left (Nat.le_of_lt h)]
theorem ofI_toI (s : Bs) : ofI (toI s) = s := by
  unfold ofI toI; rw [List.map_map]
  conv => rhs; rw [← List.map_id s]
  apply List.map_congr_left
  intro x _
  simp
theorem inB_toI (s : Bs) : inB (toI s) = true := by
  unfold inB toI
  rw [List.all_eq_true]
  intro n hn
  obtain ⟨x, _, rfl⟩ := List.mem_map.1 hn
  have := x.toNat_lt
  simp; omega
theorem toI_append (a b : Bs) : toI (a ++ b) = toI a ++ toI b := by simp [toI]
theorem toI_length (a : Bs) : (toI a).length = a.length := by simp [toI]
def ptB (b : UInt8) : Bs := if b = 126 then [126, 48] else if b = 47 then [126, 49] else [b]
def ptS (s : Bs) : Bs := s.flatMap ptB
def ptL (l : List Bs) : Bs := l.flatMap fun s => 47 :: ptS s
theorem ptB_len (b : UInt8) : (ptB b).length ≤ 2 := by unfold ptB; split; simp; split <;> simp
theorem ptS_len (s : Bs) : (ptS s).length ≤ 2 * s.length := by
  induction s with
  | nil => simp [ptS]
  | cons b s ih => have := ptB_len b; simp only [ptS, List.flatMap_cons, List.length_append, List.length_cons] at ih ⊢; omega
theorem ptS_take {s : Bs} {i : Nat} (h : i < s.length) : ptS (s.take (i + 1)) = ptS (s.take i) ++ ptB s[i] := by
  unfold ptS; rw [List.take_add_one, List.getElem?_eq_getElem h, Option.toList_some, List.flatMap_append]; simp
theorem ptL_take {l : List Bs} {i : Nat} (h : i < l.length) : ptL (l.take (i + 1)) = ptL (l.take i) ++ 47 :: ptS l[i] := by
  unfold ptL; rw [List.take_add_one, List.getElem?_eq_getElem h, Option.toList_some, List.flatMap_append]; simp
theorem ptS_take_len (s : Bs) (i : Nat) (h : i ≤ s.length) : (ptS (s.take i)).length ≤ 2 * i := by
  have := ptS_len (s.take i); rw [List.length_take, Nat.min_eq_left h] at this; exact this
theorem ptL_len {M : Nat} (l : List Bs) (h : ∀ s ∈ l, s.length ≤ M) : (ptL l).length ≤ l.length * (2 * M + 1) := by
  induction l with
  | nil => simp [ptL]
  | cons s l ih =>
    have h1 := ih fun x hx => h x (List.mem_cons_of_mem _ hx)
    have h2 := h s List.mem_cons_self
    have h3 := ptS_len s
    simp only [ptL, List.flatMap_cons, List.length_append, List.length_cons, Nat.add_mul, Nat.one_mul] at h1 ⊢
    omega
theorem ev_spt2 (a : List Bs) (p : Nat) (hp : p < a.length) (base : Bs) (hs : a[p].length ≤ 1048576) (hb : base.length ≤ 4611686018427387904) : Ev (fun k => m_spec_PointerText_l2 k a p base 0) (.go (base ++ ptS a[p])) := by
  have hm : maxLen = 9223372036854775807 := rfl
  have := ev_fold (L := fun k s i => m_spec_PointerText_l2 k a p s i) (n := a[p].length) (fun j => base ++ ptS (a[p].take j)) (fun i r hi h => by
    have hl := ptS_take_len a[p] i (by omega)
    rw [ev_shift]; simp only [m_spec_PointerText_l2]
    rw [ix_nat hp, wrap_id (n := (i : Int) + 1) (by omega), sub_one hi]
    refine ev_ifT (by omega) (ev_ifT (by omega) (ev_ifT (by omega) (ev_ifT (by omega) ?_)))
    rw [ptS_take hi, ← List.append_assoc] at h
    refine ev_ite (fun h1 => ?_) (fun h1 => ev_ite (fun h2 => ?_) (fun h2 => ?_))
    · rw [ptB, if_pos ((byt_eq hi 126).1 h1)] at h
      exact ev_ifT (by simp only [List.length_append, List.length_cons, List.length_nil]; omega) h
    · rw [ptB, if_neg (fun e => h1 ((byt_eq hi 126).2 e)), if_pos ((byt_eq hi 47).1 h2)] at h
      exact ev_ifT (by simp only [List.length_append, List.length_cons, List.length_nil]; omega) h
    · rw [ptB, if_neg (fun e => h1 ((byt_eq hi 126).2 e)), if_neg (fun e => h2 ((byt_eq hi 47).2 e))] at h
      exact ev_ifT (by omega) (ev_ifT (by omega) (ev_ifT (by simp only [List.length_append, List.length_cons, List.length_nil]; omega) h))) (by
    rw [ev_shift]; simp only [m_spec_PointerText_l2]
    rw [ix_nat hp]
    exact ev_ifT (by omega) (ev_ifF (by omega) (ev_some _))) a[p].length 0 (by omega)
  simpa [ptS] using this
theorem ev_sPointerText (a : List Bs) (ha : a.length ≤ 1048576) (hs : ∀ s ∈ a, s.length ≤ 1048576) : Ev (fun k => m_spec_PointerText k a) (ptL a) := by
  have hm : maxLen = 9223372036854775807 := rfl
  simp only [m_spec_PointerText]
  refine Ev.go (s := ptL a) ?_ (ev_some _)
  have := ev_fold (L := fun k s i => m_spec_PointerText_l1 k a s i) (n := a.length) (fun j => ptL (a.take j)) (fun i r hi h => by
    have hl := ptL_len (a.take i) (fun s hs' => hs s (List.mem_of_mem_take hs'))
    rw [List.length_take, Nat.min_eq_left (by omega)] at hl
    have hl2 : i * (2 * 1048576 + 1) ≤ 1048576 * (2 * 1048576 + 1) := Nat.mul_le_mul_right _ (by omega)
    rw [ev_shift]; simp only [m_spec_PointerText_l1]
    rw [wrap_id (n := (i : Int) + 1) (by omega)]
    refine ev_ifT (by omega) (ev_ifT (by simp only [List.length_append, List.length_cons, List.length_nil]; omega) ?_)
    refine Ev.go (ev_spt2 a i hi _ (hs _ (List.getElem_mem hi)) (by simp only [List.length_append, List.length_cons, List.length_nil]; omega)) ?_
    rw [ptL_take hi] at h
    simpa using h) (by
    rw [ev_shift]; simp only [m_spec_PointerText_l1]
    exact ev_ifF (by omega) (ev_some _)) a.length 0 (by omega)
  simpa [ptL] using this
theorem ev_eqStringS (a : List Bs) (ha : a.length ≤ 1048576) : Ev (fun k => m_laws_eqStringS k a a) true := by
  simp only [m_laws_eqStringS]
  refine ev_ifT trivial (Ev.go (s := ()) ?_ (ev_some _))
  have := ev_all_go (L := fun k i => m_laws_eqStringS_l1 k a a i) (n := a.length) (g := fun _ => true) (fun i r hi hg h => by
    rw [ev_shift]; simp only [m_laws_eqStringS_l1]
    refine ev_ifT (by omega) (ev_ifT (by omega) (ev_ifT (by omega) (ev_ifT trivial ?_)))
    rw [wrap_id (by omega)]; exact h) (by
    rw [ev_shift]; simp only [m_laws_eqStringS_l1]
    exact ev_ifF (by omega) (ev_some _)) a.length 0 (by omega) (fun _ _ _ => rfl)
  simpa using this
theorem ev_det {α : Type} {m : Nat → Option α} {a b : α} (h : Ev m a) (h' : Ev m b) : a = b := by
  obtain ⟨K, h⟩ := h
  obtain ⟨K', h'⟩ := h'
  have := h (max K K') (by omega)
  rw [h' (max K K') (by omega)] at this
  exact (Option.some.inj this).symm
theorem ev_markText1 : ∀ (n : Nat) (acc : Bs), acc.length + n ≤ 4611686018427387904 → ∃ s, Ev (fun k => m_laws_markText_l1 k (n : Int) acc) (.go s) ∧ s.length ≤ acc.length + n := by
  intro n
  have hm : maxLen = 9223372036854775807 := rfl
  induction n using Nat.strongRecOn with
  | ind n ih =>
    intro acc hl
    by_cases h0 : n = 0
    · subst h0
      refine ⟨acc, ?_, by omega⟩
      rw [ev_shift]; simp only [m_laws_markText_l1]
      exact ev_ifF (by omega) (ev_some _)
    · obtain ⟨s, h1, h2⟩ := ih (n / 10) (by omega) (ofI [IntKind.wrap .u8 (IntKind.wrap .i64 (48 + Int.tmod (n : Int) 10))] ++ acc) (by simp [ofI]; omega)
      have hd : IntKind.wrap .i64 (Int.tdiv (n : Int) 10) = ((n / 10 : Nat) : Int) := by
        rw [Int.tdiv_eq_ediv_of_nonneg (by omega)]
        rw [wrap_id (by omega)]; omega
      refine ⟨s, ?_, by simp [ofI] at h2; omega⟩
      rw [ev_shift]; simp only [m_laws_markText_l1]
      rw [hd]
      exact ev_ifT (by omega) (ev_ifT (by simp [ofI]; omega) h1)
theorem ev_markText (n : Int) (h : n ≤ 2305843009213693952) : ∃ s, Ev (fun k => m_laws_markText k n) s := by
  have hm : maxLen = 9223372036854775807 := rfl
  simp only [m_laws_markText]
  by_cases h0 : n ≤ 0
  · exact ⟨_, ev_ifT h0 (ev_some _)⟩
  · obtain ⟨s, h1, h2⟩ := ev_markText1 n.toNat [] (by simp; omega)
    have e : ((n.toNat : Nat) : Int) = n := by omega
    rw [e] at h1
    exact ⟨_, ev_ifF h0 (Ev.go h1 (ev_ifT (by simp at h2 ⊢; omega) (ev_some _)))⟩
theorem set_mid {α : Type} (pre post : List α) (t t' : α) : (pre ++ t :: post).set pre.length t' = (pre ++ [t']) ++ post := by
  rw [List.set_append]; simp
theorem ix_mid {α : Type} [Inhabited α] (pre post : List α) (t : α) : ix (pre ++ t :: post) (pre.length : Int) = t := by
  rw [ix_nat (by simp)]; simp
theorem ev_markStrs : ∀ (post pre pre' : List Bs) (n : Int), pre.length = pre'.length → 0 ≤ n → n + post.length ≤ 2305843009213693952 → pre.length + post.length ≤ 4611686018427387904 →
    ∃ post' m, Ev (fun k => m_laws_markStringS_l1 k (pre ++ post) n pre.length) (.go (pre ++ post', m)) ∧ Ev (fun k => m_laws_heldStringS_l1 k (pre' ++ post') n pre'.length) (.go m) ∧ post'.length = post.length ∧ n ≤ m ∧ m ≤ n + post.length
  | [], pre, pre', n, hp, hn, hb, hl => by
    refine ⟨[], n, ?_, ?_, rfl, by omega, by simp⟩
    · rw [ev_shift]; simp only [m_laws_markStringS_l1]
      exact ev_ifF (by simp) (ev_some _)
    · rw [ev_shift]; simp only [m_laws_heldStringS_l1]
      exact ev_ifF (by simp) (ev_some _)
  | t :: post, pre, pre', n, hp, hn, hb, hl => by
    simp only [List.length_cons] at hb hl
    obtain ⟨s, hs⟩ := ev_markText n (by omega)
    obtain ⟨post', m, h1, h2, h3, h4, h5⟩ := ev_markStrs post (pre ++ [s]) (pre' ++ [s]) (n + 1) (by simp [hp]) (by omega) (by omega) (by simp; omega)
    refine ⟨s :: post', m, ?_, ?_, by simp [h3], by omega, by simp only [List.length_cons]; omega⟩
    · rw [ev_shift]; simp only [m_laws_markStringS_l1]
      refine ev_ifT (by simp; omega) (Ev.bind hs (ev_ifT (by simp; omega) ?_))
      rw [wrap_id (n := n + 1) (by omega), wrap_id (n := (pre.length : Int) + 1) (by omega), Int.toNat_natCast, set_mid]
      simpa using h1
    · rw [ev_shift]; simp only [m_laws_heldStringS_l1]
      refine ev_ifT (by simp; omega) (ev_ifT (by simp; omega) (Ev.bind hs (ev_ifT (ix_mid _ _ _) ?_)))
      rw [wrap_id (n := n + 1) (by omega), wrap_id (n := (pre'.length : Int) + 1) (by omega)]
      simpa using h2
theorem ev_markStringS (l : List Bs) (n : Int) (hn : 0 ≤ n) (hb : n + l.length ≤ 2305843009213693952) : ∃ l' m, Ev (fun k => m_laws_markStringS k l n) (m, l') ∧ Ev (fun k => m_laws_heldStringS k l' n) m ∧ n ≤ m ∧ m ≤ n + l.length := by
  obtain ⟨l', m, h1, h2, h3, h4, h5⟩ := ev_markStrs l [] [] n rfl hn hb (by simp; omega)
  refine ⟨l', m, ?_, ?_, h4, h5⟩
  · simp only [m_laws_markStringS]
    exact Ev.go (s := (l', m)) (by simpa using h1) (ev_some _)
  · simp only [m_laws_heldStringS]
    exact Ev.go (by simpa using h2) (ev_some _)
end Go.Proofs.YtopbbjoflopjbaaDoor
