/- The program's ValueOk answers what the reference's does; the conditions stand in each theorem. -/
import Derived.Test.YtiaigcdckmpepaaE5
/-! The program's ValueOk. -/
set_option linter.unusedVariables false
set_option linter.unusedSimpArgs false
namespace Go.Proofs.Ytiaigcdckmpepaa
open Go.Bb

theorem onceOk_nil : onceOk [] = true := rfl
theorem none_list {v : Val} (h : noneIn v) : v.list = [] := List.eq_nil_of_length_eq_zero h.1
theorem none_names {v : Val} (h : noneIn v) : v.names = [] := List.eq_nil_of_length_eq_zero h.2

/-- What the item of a value is, and whether the value is ok. -/
theorem itm_ok (v : Val) (f : Bool) (b : Bool) : (plainOk v && (f || decide (v.kind ≤ 5)) && onceOk v.names && (v.list.all fun _ => true)) = (plainOk v && (f || decide (v.kind ≤ 5)) && onceOk v.names) := by simp

theorem fits_val (v : Val) (d : Int) (f : Bool) (hd : ¬ d < 1) : okV v d f = (if (itm v).isNil then false else if (itm v).is112 then f else if (itm v).is113 then f else (wthn (itm v)).all fun x => okV x (d - 1) f) := by
  have e : okV v d f = (plainOk v && (f || decide (v.kind ≤ 5)) && onceOk v.names && v.list.all fun x => okV x (d - 1) f) := by
    rw [okV_eq, decide_eq_false hd]; simp
  rw [e]
  have pn : plainOk v = false → (itm v).isNil = true := by
    intro h
    unfold itm
    simp only [h]
    repeat' split
    all_goals first | rfl | (rename_i hh; simp at hh)
  cases hp : plainOk v with
  | false => rw [if_pos (pn hp)]; simp
  | true =>
    unfold itm
    simp only [hp, if_true, Bool.true_and]
    have base : v.kind < 4 → 0 ≤ v.kind → noneIn v := by
      intro h h'
      unfold plainOk at hp
      by_cases h0 : v.kind = 0
      · rw [if_pos h0] at hp; exact (of_decide_eq_true hp).2.2
      rw [if_neg h0] at hp
      by_cases h1 : v.kind = 1
      · rw [if_pos h1] at hp; exact (of_decide_eq_true hp).2.2
      rw [if_neg h1] at hp
      by_cases h2 : v.kind = 2
      · rw [if_pos h2] at hp; exact (of_decide_eq_true hp).2.2
      rw [if_neg h2] at hp
      have h3 : v.kind = 3 := by omega
      rw [if_pos h3] at hp; exact (of_decide_eq_true hp).2.2
    by_cases h0 : v.kind = 0
    · have := base (by omega) (by omega)
      simp [h0, none_list this, none_names this, onceOk_nil, GI110.isNil, GI110.is112, GI110.is113, wthn]
    by_cases h1 : v.kind = 1
    · have := base (by omega) (by omega)
      simp [h1, none_list this, none_names this, onceOk_nil, GI110.isNil, GI110.is112, GI110.is113, wthn]
    by_cases h2 : v.kind = 2
    · have := base (by omega) (by omega)
      simp [h2, none_list this, none_names this, onceOk_nil, GI110.isNil, GI110.is112, GI110.is113, wthn]
    by_cases h3 : v.kind = 3
    · have := base (by omega) (by omega)
      simp [h3, none_list this, none_names this, onceOk_nil, GI110.isNil, GI110.is112, GI110.is113, wthn]
    by_cases h4 : v.kind = 4
    · have hn : v.names = [] := by
        unfold plainOk at hp
        rw [if_neg h0, if_neg h1, if_neg h2, if_neg h3, if_pos h4] at hp
        exact List.eq_nil_of_length_eq_zero (of_decide_eq_true hp).2.2.1
      simp [h4, hn, onceOk_nil, GI110.isNil, GI110.is112, GI110.is113, wthn]
    by_cases h5 : v.kind = 5
    · cases ho : onceOk v.names <;> simp [h5, GI110.isNil, GI110.is112, GI110.is113, wthn]
    have h67 : v.kind = 6 ∨ v.kind = 7 := by
      unfold plainOk at hp
      rw [if_neg h0, if_neg h1, if_neg h2, if_neg h3, if_neg h4, if_neg h5] at hp
      split at hp
      · assumption
      · cases hp
    have hnone : noneIn v := by
      unfold plainOk at hp
      rw [if_neg h0, if_neg h1, if_neg h2, if_neg h3, if_neg h4, if_neg h5, if_pos h67] at hp
      simp only [Bool.and_eq_true, decide_eq_true_eq] at hp
      exact hp.2
    rcases h67 with h6 | h7
    · simp [h6, none_list hnone, none_names hnone, onceOk_nil, GI110.isNil, GI110.is112, GI110.is113, wthn]
    · simp [h7, none_list hnone, none_names hnone, onceOk_nil, GI110.isNil, GI110.is112, GI110.is113, wthn]

theorem wthn_sub (v : Val) : ∀ x ∈ wthn (itm v), x ∈ v.list := by
  intro x hx
  unfold itm at hx
  repeat' split at hx
  all_goals first | exact hx | (simp [wthn] at hx; done) | (simp [wthn] at hx; exact hx)

theorem wthn_len (v : Val) : (wthn (itm v)).length ≤ v.list.length := by
  unfold itm
  repeat' split
  all_goals simp [wthn]

theorem ev_fits : ∀ v : Val, Bd 1048576 v → ∀ (d : Int) (f : Bool), d ≤ 1000 → Ev (fun k => m_impl_fitsIn k v d f) (okV v d f) := by
  apply Val.ind
  intro v ih h d f hd
  rw [ev_shift]; simp only [m_impl_fitsIn]
  refine ev_ite (fun h1 => ev_eq (ev_some _) (by rw [okV_eq]; simp [h1])) (fun h1 => ?_)
  rw [fits_val v d f h1]
  refine Ev.bind (ev_itemOf v h) (ev_ite (fun h2 => ev_eq (ev_some _) (by rw [if_pos h2])) (fun h2 => ev_ite (fun h3 => ev_eq (ev_some _) (by rw [if_neg h2, if_pos h3])) (fun h3 => ev_ite (fun h4 => ev_eq (ev_some _) (by rw [if_neg h2, if_neg h3, if_pos h4])) (fun h4 => ?_))))
  rw [if_neg h2, if_neg h3, if_neg h4]
  refine Ev.bind (a := wthn (itm v)) ?_ ?_
  · cases hi : itm v with
    | nil => rw [hi] at h2; exact absurd rfl h2
    | c112 x => rw [hi] at h3; exact absurd rfl h3
    | c113 x => rw [hi] at h4; exact absurd rfl h4
    | _ => exact ev_some _
  · have hl := h.list
    have hl2 := wthn_len v
    have hwd : IntKind.wrap .i64 (d - 1) = d - 1 := wrap_id (by omega)
    have hmem : ∀ i : Nat, i < (wthn (itm v)).length → ix (wthn (itm v)) (i : Int) ∈ v.list := fun i hi => by
      rw [ix_nat hi]; exact wthn_sub v _ (List.getElem_mem hi)
    refine ev_eq (ev_all (L := fun k i => m_impl_fitsIn_l1 k d f (wthn (itm v)) i) (n := (wthn (itm v)).length) (fun i => okV (ix (wthn (itm v)) (i : Int)) (d - 1) f) (fun i r hi hg h' => ?_) (fun i hi hg => ?_) ?_ (f := fun _ _ => some true) (ev_some _)) ?_
    · rw [ev_shift]; simp only [m_impl_fitsIn_l1]
      have := ih _ (hmem i hi) (h.within _ (hmem i hi)) (d - 1) f (by omega)
      rw [hg] at this
      rw [hwd, wrap_id (n := (i : Int) + 1) (by omega)]
      exact ev_ifT (by omega) (ev_ifT (by omega) (Ev.bind this (ev_ifT rfl h')))
    · rw [ev_shift]; simp only [m_impl_fitsIn_l1]
      have := ih _ (hmem i hi) (h.within _ (hmem i hi)) (d - 1) f (by omega)
      rw [hg] at this
      rw [hwd]
      exact ev_ifT (by omega) (ev_ifT (by omega) (Ev.bind this (ev_ifF (by simp) (ev_some _))))
    · rw [ev_shift]; simp only [m_impl_fitsIn_l1]
      exact ev_ifF (by omega) (ev_some _)
    · rw [Bool.and_true]
      exact range_all (wthn (itm v)) fun x => okV x (d - 1) f

theorem ev_iValueOk (v : Val) (h : Bd 1048576 v) : Ev (fun k => m_impl_ValueOk k v) (okV v 6 false) := by
  simp only [m_impl_ValueOk]
  exact Ev.bind (ev_fits v h 6 false (by omega)) (ev_some _)
end Go.Proofs.Ytiaigcdckmpepaa
