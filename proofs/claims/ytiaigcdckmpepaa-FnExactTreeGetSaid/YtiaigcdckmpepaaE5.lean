/- Whether a value is ok, in the program and in the reference; the conditions stand in each theorem. -/
import Derived.Test.YtiaigcdckmpepaaE4
import Derived.Test.YtiaigcdckmpepaaGok
/-! ValueOk, whole. -/
set_option linter.unusedVariables false
set_option linter.unusedSimpArgs false
namespace Go.Proofs.Ytiaigcdckmpepaa
open Go.Bb

theorem ev_sPlain (v : Val) (h : Bd 1048576 v) : Ev (fun k => m_spec_l1Plain k v) (plainOk v) := by
  have hw : IntKind.wrap .i64 ((v.list.length : Int) + (v.names.length : Int)) = (v.list.length : Int) + (v.names.length : Int) := by
    have h1 := h.list; have h2 := h.names
    exact wrap_id (by omega)
  have hn : ((v.list.length : Int) + (v.names.length : Int) = 0) ↔ noneIn v := by unfold noneIn; omega
  simp only [m_spec_l1Plain, m_spec_l1In, hw, hn]
  unfold plainOk
  refine ev_ite (fun h0 => ?_) (fun h0 => ?_)
  · rw [if_pos h0]
    refine ev_ite (fun h1 => ev_ite (fun h2 => ev_eq (ev_some _) ?_) (fun h2 => ev_eq (ev_some _) ?_)) (fun h1 => ev_eq (ev_some _) ?_) <;> simp [h1] <;> simp_all
  rw [if_neg h0]
  refine ev_ite (fun h0 => ?_) (fun h0 => ?_)
  · rw [if_pos h0]
    refine Ev.bind (a := decide (0 ≤ v.num ∧ v.num ≤ 1)) (ev_ite (fun h1 => ev_eq (ev_some _) (by simp [h1])) (fun h1 => ev_eq (ev_some _) (by simp [h1]))) ?_
    refine ev_ite (fun h1 => ev_ite (fun h2 => ev_eq (ev_some _) ?_) (fun h2 => ev_eq (ev_some _) ?_)) (fun h1 => ev_eq (ev_some _) ?_) <;> simp_all <;> (intros; omega)
  rw [if_neg h0]
  refine ev_ite (fun h0 => ?_) (fun h0 => ?_)
  · rw [if_pos h0]
    refine Ev.bind (a := decide (-2147483647 ≤ v.num ∧ v.num ≤ 2147483647)) (ev_ite (fun h1 => ev_eq (ev_some _) (by simp [h1])) (fun h1 => ev_eq (ev_some _) (by simp [h1]))) ?_
    refine ev_ite (fun h1 => ev_ite (fun h2 => ev_eq (ev_some _) ?_) (fun h2 => ev_eq (ev_some _) ?_)) (fun h1 => ev_eq (ev_some _) ?_) <;> simp_all <;> (intros; omega)
  rw [if_neg h0]
  refine ev_ite (fun h0 => ?_) (fun h0 => ?_)
  · rw [if_pos h0]
    refine ev_ite (fun h1 => ev_ite (fun h2 => ev_eq (ev_some _) ?_) (fun h2 => ev_eq (ev_some _) ?_)) (fun h1 => ev_eq (ev_some _) ?_)
    · have h2' : v.text.length ≤ 40 := by omega
      simp [h1, h2']
    · have h2' : ¬ v.text.length ≤ 40 := by omega
      simp [h2']
    · simp [h1]
  rw [if_neg h0]
  refine ev_ite (fun h0 => ?_) (fun h0 => ?_)
  · rw [if_pos h0]
    refine ev_ite (fun h1 => ev_ite (fun h2 => ev_ite (fun h3 => ev_eq (ev_some _) ?_) (fun h3 => ev_eq (ev_some _) ?_)) (fun h2 => ev_eq (ev_some _) ?_)) (fun h1 => ev_eq (ev_some _) ?_)
    · have h3' : v.names.length = 0 := by omega
      rw [Bool.eq_iff_iff]; simp [h1, h2, h3']; omega
    · have h3' : ¬ v.names.length = 0 := by omega
      rw [Bool.eq_iff_iff]; simp [h1, h2]; intro e; simp [e] at h3'
    · simp [h2]
    · simp [h1]
  rw [if_neg h0]
  refine ev_ite (fun h0 => ?_) (fun h0 => ?_)
  · rw [if_pos h0]
    refine ev_ite (fun h1 => ev_ite (fun h2 => ev_ite (fun h3 => ev_eq (ev_some _) ?_) (fun h3 => ev_eq (ev_some _) ?_)) (fun h2 => ev_eq (ev_some _) ?_)) (fun h1 => ev_eq (ev_some _) ?_)
    · have h3' : v.names.length = v.list.length := by omega
      rw [Bool.eq_iff_iff]; simp [h1, h2, h3']; omega
    · have h3' : ¬ v.names.length = v.list.length := by omega
      simp [h3']
    · simp [h2]
    · simp [h1]
  rw [if_neg h0]
  refine Ev.go (s := decide (v.kind = 6 ∨ v.kind = 7)) (ev_ite (fun h1 => ev_eq (ev_some _) (by simp [h1])) (fun h1 => ev_eq (ev_some _) (by simp [h1]))) (ev_ite (fun h1 => ?_) (fun h1 => ?_))
  · rw [if_pos (by simpa using h1)]
    refine ev_ite (fun h2 => ?_) (fun h2 => ev_eq (ev_some _) (by simp [h2]))
    refine Ev.bind (ev_sName _ h.text) (ev_ite (fun h3 => ev_eq (ev_some _) ?_) (fun h3 => ev_eq (ev_some _) ?_))
    · simp [h2, h3]
    · simp at h3; simp [h3]
  · rw [if_neg (by simpa using h1)]
    exact ev_some _

theorem ev_sOk : ∀ v : Val, Bd 1048576 v → ∀ (d : Int) (f : Bool), d ≤ 1000 → Ev (fun k => m_spec_l1Ok k v d f) (okV v d f) := by
  apply Val.ind
  intro v ih h d f hd
  rw [ev_shift]; simp only [m_spec_l1Ok]
  have hl := h.list
  have hfin : ∀ bad : Bool, bad = !(!(decide (d < 1)) && plainOk v && (f || decide (v.kind ≤ 5)) && onceOk v.names) → (d < 1 → bad = true) → Ev (fun k => if bad = true then some false else (m_spec_l1Ok_l1 k v d f 0).bind fun o2 => o2.then fun s2 => some true) (okV v d f) := by
    intro bad hb hb1
    rw [okV_eq]
    refine ev_ite (fun h1 => ev_eq (ev_some _) ?_) (fun h1 => ?_)
    · rw [h1] at hb
      have : (!(decide (d < 1)) && plainOk v && (f || decide (v.kind ≤ 5)) && onceOk v.names) = false := by
        cases hx : (!(decide (d < 1)) && plainOk v && (f || decide (v.kind ≤ 5)) && onceOk v.names) with
        | false => rfl
        | true => rw [hx] at hb; cases hb
      rw [this, Bool.false_and]
    · have h1' : bad = false := by simpa using h1
      have hd1 : ¬ d < 1 := fun h2 => by rw [hb1 h2] at h1'; cases h1'
      rw [h1'] at hb
      have : (!(decide (d < 1)) && plainOk v && (f || decide (v.kind ≤ 5)) && onceOk v.names) = true := by
        cases hx : (!(decide (d < 1)) && plainOk v && (f || decide (v.kind ≤ 5)) && onceOk v.names) with
        | true => rfl
        | false => rw [hx] at hb; cases hb
      rw [this, Bool.true_and]
      have hwd : IntKind.wrap .i64 (d - 1) = d - 1 := wrap_id (by omega)
      refine ev_eq (ev_all (L := fun k i => m_spec_l1Ok_l1 k v d f i) (n := v.list.length) (fun i => okV (ix v.list (i : Int)) (d - 1) f) (fun i r hi hg h' => ?_) (fun i hi hg => ?_) ?_ (f := fun _ _ => some true) (ev_some _)) ?_
      · rw [ev_shift]; simp only [m_spec_l1Ok_l1]
        have hm : ix v.list (i : Int) ∈ v.list := by rw [ix_nat hi]; exact List.getElem_mem hi
        have := ih _ hm (h.within _ hm) (d - 1) f (by omega)
        rw [hg] at this
        rw [hwd, wrap_id (n := (i : Int) + 1) (by omega)]
        exact ev_ifT (by omega) (ev_ifT (by omega) (Ev.bind this (ev_ifT rfl h')))
      · rw [ev_shift]; simp only [m_spec_l1Ok_l1]
        have hm : ix v.list (i : Int) ∈ v.list := by rw [ix_nat hi]; exact List.getElem_mem hi
        have := ih _ hm (h.within _ hm) (d - 1) f (by omega)
        rw [hg] at this
        rw [hwd]
        exact ev_ifT (by omega) (ev_ifT (by omega) (Ev.bind this (ev_ifF (by simp) (ev_some _))))
      · rw [ev_shift]; simp only [m_spec_l1Ok_l1]
        exact ev_ifF (by omega) (ev_some _)
      · rw [Bool.and_true]
        exact range_all v.list fun x => okV x (d - 1) f
  refine Ev.go (s := !(!(decide (d < 1)) && plainOk v && (f || decide (v.kind ≤ 5)) && onceOk v.names)) (ev_ite (fun h1 => ev_eq (ev_some _) (by simp [h1])) (fun h1 => ?_)) (hfin _ rfl (fun h1 => by simp [h1]))
  refine Ev.bind (ev_sPlain v h) (ev_ite (fun h2 => ?_) (fun h2 => ev_eq (ev_some _) (by simp at h2; simp [h2])))
  refine ev_ite (fun h3 => Ev.bind (ev_sOnce _ h.names h.name) (ev_eq (ev_some _) (by simp [h1, h2, h3]))) (fun h3 => ev_ite (fun h4 => ev_eq (ev_some _) ?_) (fun h4 => Ev.bind (ev_sOnce _ h.names h.name) (ev_eq (ev_some _) ?_)))
  · have h4' : ¬ v.kind ≤ 5 := by omega
    simp at h3; simp [h3, h4']
  · have h4' : v.kind ≤ 5 := by omega
    simp [h1, h2, h4']

theorem ev_sValueOk (v : Val) (h : Bd 1048576 v) : Ev (fun k => m_spec_ValueOk k v) (okV v 6 false) := by
  simp only [m_spec_ValueOk]
  exact Ev.bind (ev_sOk v h 6 false (by omega)) (ev_some _)

def itm (v : Val) : GI110 :=
  if v.kind = 0 then (if plainOk v then .c134 else .nil)
  else if v.kind = 1 then (if plainOk v then .c135 (decide (v.num = 1)) else .nil)
  else if v.kind = 2 then (if plainOk v then .c136 v.num else .nil)
  else if v.kind = 3 then (if plainOk v then .c137 v.text else .nil)
  else if v.kind = 4 then (if plainOk v then .c138 v.list else .nil)
  else if v.kind = 5 then (if plainOk v && onceOk v.names then .c140 ⟨v.names, v.list⟩ else .nil)
  else if v.kind = 6 then (if plainOk v then .c112 v.text else .nil)
  else if v.kind = 7 then (if plainOk v then .c113 v.text else .nil)
  else .nil

theorem ev_itemOf (v : Val) (h : Bd 1048576 v) : Ev (fun k => m_impl_itemOf k v) (itm v) := by
  simp only [m_impl_itemOf]
  refine Ev.go (s := decide (noneIn v)) (ev_ite (fun h1 => ev_eq (ev_some _) ?_) (fun h1 => ev_eq (ev_some _) ?_)) ?_
  · refine congrArg Lp.go ?_
    rw [Bool.eq_iff_iff, decide_eq_true_eq, decide_eq_true_eq]
    unfold noneIn; omega
  · exact congrArg Lp.go (decide_eq_false (fun h => h1 (by have := h.1; omega))).symm
  refine Ev.go (s := decide (noneIn v ∧ v.text = [])) (ev_ite (fun h1 => ev_eq (ev_some _) ?_) (fun h1 => ev_eq (ev_some _) ?_)) ?_
  · simp at h1; simp [h1]
  · simp at h1; simp [h1]
  refine Ev.go (s := decide (v.num = 0 ∧ v.text = [])) (ev_ite (fun h1 => ev_eq (ev_some _) ?_) (fun h1 => ev_eq (ev_some _) ?_)) ?_
  · simp [h1]
  · simp [h1]
  unfold itm
  refine ev_ite (fun h0 => ?_) (fun h0 => ?_)
  · rw [if_pos h0]
    refine Ev.go (s := plainOk v) (ev_ite (fun h1 => ev_eq (ev_some _) ?_) (fun h1 => ev_eq (ev_some _) ?_)) (ev_ite (fun h1 => ev_eq (ev_some _) (by rw [if_pos h1])) (fun h1 => ev_eq (ev_some _) (by rw [if_neg h1])))
    · unfold plainOk; rw [if_pos h0]; simp at h1; simp [h1]
    · unfold plainOk; rw [if_pos h0]; simp at h1; congr 1; symm; simp; intro _ h2 h3; exact h1 h3 h2
  rw [if_neg h0]
  refine ev_ite (fun h1 => ?_) (fun h1 => ?_)
  · rw [if_pos h1]
    refine Ev.go (s := plainOk v) (ev_ite (fun h2 => ev_ite (fun h3 => ev_eq (ev_some _) ?_) (fun h3 => ev_eq (ev_some _) ?_)) (fun h2 => ev_eq (ev_some _) ?_)) (ev_ite (fun h1 => ev_eq (ev_some _) (by rw [if_pos h1])) (fun h1 => ev_eq (ev_some _) (by rw [if_neg h1])))
    · unfold plainOk; rw [if_neg h0, if_pos h1]; simp at h2; simp [h2, h3]
    · unfold plainOk; rw [if_neg h0, if_pos h1]; simp at h2; congr 1; rw [Bool.eq_iff_iff]; simp [h2]; omega
    · unfold plainOk; rw [if_neg h0, if_pos h1]; simp at h2; congr 1; symm; simp; intro _ _ h3 h4; exact h2 h4 h3
  rw [if_neg h1]
  refine ev_ite (fun h2 => ?_) (fun h2 => ?_)
  · rw [if_pos h2]
    refine Ev.go (s := plainOk v) (ev_ite (fun h3 => ev_ite (fun h4 => ev_eq (ev_some _) ?_) (fun h4 => ev_eq (ev_some _) ?_)) (fun h3 => ev_eq (ev_some _) ?_)) (ev_ite (fun h1 => ev_eq (ev_some _) (by rw [if_pos h1])) (fun h1 => ev_eq (ev_some _) (by rw [if_neg h1])))
    · unfold plainOk; rw [if_neg h0, if_neg h1, if_pos h2]; simp at h3; congr 1; rw [Bool.eq_iff_iff]; simp [h3, h4]
    · unfold plainOk; rw [if_neg h0, if_neg h1, if_pos h2]; congr 1; rw [Bool.eq_iff_iff]; simp [h4]
    · unfold plainOk; rw [if_neg h0, if_neg h1, if_pos h2]; simp at h3; congr 1; symm; simp; intro _ _ h5 h4; exact h3 h4 h5
  rw [if_neg h2]
  refine ev_ite (fun h3 => ?_) (fun h3 => ?_)
  · rw [if_pos h3]
    refine Ev.go (s := plainOk v) (ev_ite (fun h4 => ev_ite (fun h5 => ev_eq (ev_some _) ?_) (fun h5 => ev_eq (ev_some _) ?_)) (fun h4 => ev_eq (ev_some _) ?_)) (ev_ite (fun h1 => ev_eq (ev_some _) (by rw [if_pos h1])) (fun h1 => ev_eq (ev_some _) (by rw [if_neg h1])))
    · unfold plainOk; rw [if_neg h0, if_neg h1, if_neg h2, if_pos h3]; simp at h4; congr 1; rw [Bool.eq_iff_iff]; simp [h4, h5]; omega
    · unfold plainOk; rw [if_neg h0, if_neg h1, if_neg h2, if_pos h3]; congr 1; rw [Bool.eq_iff_iff]; simp [h5]
    · unfold plainOk; rw [if_neg h0, if_neg h1, if_neg h2, if_pos h3]; simp at h4; congr 1; symm; simp [h4]
  rw [if_neg h3]
  refine ev_ite (fun h4 => ?_) (fun h4 => ?_)
  · rw [if_pos h4]
    refine Ev.go (s := plainOk v) (ev_ite (fun h5 => ev_ite (fun h6 => ev_eq (ev_some _) ?_) (fun h6 => ev_eq (ev_some _) ?_)) (fun h5 => ev_eq (ev_some _) ?_)) (ev_ite (fun h1 => ev_eq (ev_some _) (by rw [if_pos h1])) (fun h1 => ev_eq (ev_some _) (by rw [if_neg h1])))
    · have h6' : v.names.length = 0 := by omega
      unfold plainOk; rw [if_neg h0, if_neg h1, if_neg h2, if_neg h3, if_pos h4]; simp at h5; congr 1; rw [Bool.eq_iff_iff]; simp [h5, h6']; omega
    · have h6' : ¬ v.names.length = 0 := by omega
      unfold plainOk; rw [if_neg h0, if_neg h1, if_neg h2, if_neg h3, if_pos h4]; congr 1; symm; simp only [decide_eq_false_iff_not]; exact fun h => h6' h.2.2.1
    · unfold plainOk; rw [if_neg h0, if_neg h1, if_neg h2, if_neg h3, if_pos h4]; simp only [decide_eq_true_eq] at h5; congr 1; symm; simp only [decide_eq_false_iff_not]; exact fun h => h5 ⟨h.1, h.2.1⟩
  rw [if_neg h4]
  refine ev_ite (fun h5 => ?_) (fun h5 => ?_)
  · rw [if_pos h5]
    have hp : plainOk v = decide (v.num = 0 ∧ v.text = [] ∧ v.names.length = v.list.length ∧ v.list.length ≤ 12) := by unfold plainOk; rw [if_neg h0, if_neg h1, if_neg h2, if_neg h3, if_neg h4, if_pos h5]
    refine Ev.go (s := plainOk v && onceOk v.names) (ev_ite (fun h6 => ev_ite (fun h7 => ev_ite (fun h8 => Ev.bind (ev_iOnce _ h.names) (ev_eq (ev_some _) ?_)) (fun h8 => ev_eq (ev_some _) ?_)) (fun h7 => ev_eq (ev_some _) ?_)) (fun h6 => ev_eq (ev_some _) ?_)) (ev_ite (fun h1 => ev_eq (ev_some _) (by rw [if_pos h1])) (fun h1 => ev_eq (ev_some _) (by rw [if_neg h1])))
    · simp only [decide_eq_true_eq] at h6
      rw [hp, decide_eq_true ⟨h6.1, h6.2, by omega, by omega⟩, Bool.true_and]
    · rw [hp, decide_eq_false (fun h => h8 (by have := h.2.2.2; omega)), Bool.false_and]
    · rw [hp, decide_eq_false (fun h => h7 (by have := h.2.2.1; omega)), Bool.false_and]
    · simp only [decide_eq_true_eq] at h6
      rw [hp, decide_eq_false (fun h => h6 ⟨h.1, h.2.1⟩), Bool.false_and]
  rw [if_neg h5]
  refine ev_ite (fun h6 => ?_) (fun h6 => ?_)
  · rw [if_pos h6]
    have hp : plainOk v = (decide (v.num = 0) && nameOk v.text && decide (noneIn v)) := by unfold plainOk; rw [if_neg h0, if_neg h1, if_neg h2, if_neg h3, if_neg h4, if_neg h5, if_pos (.inl h6)]
    refine Ev.go (s := plainOk v) (ev_ite (fun h7 => ev_ite (fun h8 => Ev.bind (ev_iName _) (ev_eq (ev_some _) ?_)) (fun h8 => ev_eq (ev_some _) ?_)) (fun h7 => ev_eq (ev_some _) ?_)) (ev_ite (fun h1 => ev_eq (ev_some _) (by rw [if_pos h1])) (fun h1 => ev_eq (ev_some _) (by rw [if_neg h1])))
    · rw [hp, h7]; simp [h8]
    · rw [hp]; simp [h8]
    · simp only [Bool.not_eq_true] at h7
      rw [hp, h7, Bool.and_false]
  rw [if_neg h6]
  refine ev_ite (fun h7 => ?_) (fun h7 => ev_eq (ev_some _) (by rw [if_neg h7]))
  · rw [if_pos h7]
    have hp : plainOk v = (decide (v.num = 0) && nameOk v.text && decide (noneIn v)) := by unfold plainOk; rw [if_neg h0, if_neg h1, if_neg h2, if_neg h3, if_neg h4, if_neg h5, if_pos (.inr h7)]
    refine Ev.go (s := plainOk v) (ev_ite (fun h7 => ev_ite (fun h8 => Ev.bind (ev_iName _) (ev_eq (ev_some _) ?_)) (fun h8 => ev_eq (ev_some _) ?_)) (fun h7 => ev_eq (ev_some _) ?_)) (ev_ite (fun h1 => ev_eq (ev_some _) (by rw [if_pos h1])) (fun h1 => ev_eq (ev_some _) (by rw [if_neg h1])))
    · rw [hp, h7]; simp [h8]
    · rw [hp]; simp [h8]
    · simp only [Bool.not_eq_true] at h7
      rw [hp, h7, Bool.and_false]

def wthn : GI110 → List Val
  | .c138 l => l
  | .c140 x => x.list
  | _ => []
end Go.Proofs.Ytiaigcdckmpepaa
