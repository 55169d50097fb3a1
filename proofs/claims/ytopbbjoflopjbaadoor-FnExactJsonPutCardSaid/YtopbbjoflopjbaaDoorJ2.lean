/- Values written: the program and the reference; the law; the conditions stand in each theorem. -/
import Derived.Test.YtopbbjoflopjbaaDoorJ1
import Derived.Test.YtopbbjoflopjbaaDoorGLjp
/-! Values written. -/
set_option linter.unusedVariables false
set_option linter.unusedSimpArgs false
set_option linter.unnecessarySimpa false
namespace Go.Proofs.YtopbbjoflopjbaaDoor
open Go.Bb

theorem joinTail_snoc (sep : Bs) (r : List Bs) (y : Bs) : Lib.joinTail sep (r ++ [y]) = Lib.joinTail sep r ++ (sep ++ y) := by simp [Lib.joinTail]
theorem join_snoc (xs : List Bs) (y sep : Bs) : Lib.join (xs ++ [y]) sep = if xs = [] then y else Lib.join xs sep ++ sep ++ y := by
  cases xs with
  | nil => simp [Lib.join_one]
  | cons x r =>
    rw [if_neg (by simp), List.cons_append, Lib.join_cons, Lib.join_cons, joinTail_snoc]; simp
theorem joinTail_len (M : Nat) : ∀ r : List Bs, (∀ p ∈ r, p.length ≤ M) → (Lib.joinTail [44] r).length ≤ r.length * (M + 1)
  | [], _ => by simp [Lib.joinTail]
  | p :: r, h => by
    have ih := joinTail_len M r fun q hq => h q (by simp [hq])
    have hp := h p (by simp)
    have e : Lib.joinTail [44] (p :: r) = ([44] ++ p) ++ Lib.joinTail [44] r := by simp [Lib.joinTail]
    rw [e]
    simp only [List.length_append, List.length_cons, List.length_nil, Nat.add_mul, Nat.one_mul] at ih ⊢
    omega
theorem join_len (M : Nat) (r : List Bs) (h : ∀ p ∈ r, p.length ≤ M) : (Lib.join r [44]).length ≤ r.length * (M + 1) := by
  cases r with
  | nil => simp [Lib.join_nil]
  | cons p r =>
    have h1 := joinTail_len M r fun q hq => h q (by simp [hq])
    have h2 := h p (by simp)
    rw [Lib.join_cons]
    simp only [List.length_append, List.length_cons, Nat.add_mul, Nat.one_mul] at h1 ⊢
    omega
theorem join_take (parts : List Bs) (i : Nat) (h : i < parts.length) : Lib.join (parts.take (i + 1)) [44] = (if 0 < i then Lib.join (parts.take i) [44] ++ [44] else Lib.join (parts.take i) [44]) ++ parts[i] := by
  rw [List.take_add_one, List.getElem?_eq_getElem h, Option.toList_some, join_snoc]
  by_cases h0 : 0 < i
  · have : parts.take i ≠ [] := by
      intro e
      have := congrArg List.length e
      rw [List.length_take, List.length_nil] at this; omega
    rw [if_neg this, if_pos h0]
  · have : i = 0 := by omega
    subst this
    simp [Lib.join_nil]

mutual
def putV : Val → Bs
  | .mk k n t l ns => if k = 1 then (if n = 1 then [116, 114, 117, 101] else [102, 97, 108, 115, 101]) else if k = 2 then Lib.itoa n else if k = 3 then quo t else if k = 4 then 91 :: (Lib.join (putS l) [44] ++ [93]) else if k = 5 then 123 :: (Lib.join (List.zipWith (fun a p => quo a ++ 58 :: p) ns (putS l)) [44] ++ [125]) else [110, 117, 108, 108]
def putS : List Val → List Bs
  | [] => []
  | v :: l => putV v :: putS l
end
theorem putS_map : ∀ l : List Val, putS l = l.map putV
  | [] => by rw [putS]; rfl
  | v :: l => by rw [putS, putS_map l]; rfl
def parts5 (v : Val) : List Bs := List.zipWith (fun a p => quo a ++ 58 :: p) v.names (v.list.map putV)
theorem putV_eq (v : Val) : putV v = if v.kind = 1 then (if v.num = 1 then [116, 114, 117, 101] else [102, 97, 108, 115, 101]) else if v.kind = 2 then Lib.itoa v.num else if v.kind = 3 then quo v.text else if v.kind = 4 then 91 :: (Lib.join (v.list.map putV) [44] ++ [93]) else if v.kind = 5 then 123 :: (Lib.join (parts5 v) [44] ++ [125]) else [110, 117, 108, 108] := by
  obtain ⟨k, n, t, l, ns⟩ := v
  rw [putV, putS_map]; rfl

theorem name_len {s : Bs} (h : nameOk s = true) : s.length ≤ 12 := by
  unfold nameOk at h
  simp only [Bool.and_eq_true, decide_eq_true_eq] at h
  exact h.2.2
theorem once_len {l : List Bs} (h : onceOk l = true) : ∀ s ∈ l, s.length ≤ 12 := by
  intro s hs
  obtain ⟨i, hi, rfl⟩ := List.mem_iff_getElem.1 hs
  unfold onceOk at h
  have := List.all_eq_true.1 h i (List.mem_range.2 hi)
  simp only [Bool.and_eq_true] at this
  rw [ix_nat hi] at this
  exact name_len this.1
structure Facts (v : Val) (d : Nat) : Prop where
  plain : plainOk v = true
  kind : v.kind ≤ 5
  once : onceOk v.names = true
  within : ∀ x ∈ v.list, okV x d false = true
theorem facts {v : Val} {d : Nat} (h : okV v ((d + 1 : Nat) : Int) false = true) : Facts v d := by
  rw [okV_eq] at h
  simp only [Bool.and_eq_true, Bool.false_or, decide_eq_true_eq, Bool.not_eq_true', decide_eq_false_iff_not] at h
  obtain ⟨⟨⟨⟨_, h1⟩, h2⟩, h3⟩, h4⟩ := h
  refine ⟨h1, h2, h3, fun x hx => ?_⟩
  have := List.all_eq_true.1 h4 x hx
  rwa [show ((d + 1 : Nat) : Int) - 1 = (d : Int) by omega] at this
theorem facts0 {v : Val} (h : okV v ((0 : Nat) : Int) false = true) : False := by
  rw [okV_eq] at h
  simp at h
theorem plain4 {v : Val} (h : plainOk v = true) (hk : v.kind = 4) : v.list.length ≤ 12 := by
  unfold plainOk at h
  rw [if_neg (by omega), if_neg (by omega), if_neg (by omega), if_neg (by omega), if_pos hk] at h
  simp only [decide_eq_true_eq] at h
  exact h.2.2.2
theorem plain5 {v : Val} (h : plainOk v = true) (hk : v.kind = 5) : v.names.length = v.list.length ∧ v.list.length ≤ 12 := by
  unfold plainOk at h
  rw [if_neg (by omega), if_neg (by omega), if_neg (by omega), if_neg (by omega), if_neg (by omega), if_pos hk] at h
  simp only [decide_eq_true_eq] at h
  exact h.2.2
theorem plain3 {v : Val} (h : plainOk v = true) (hk : v.kind = 3) : v.text.length ≤ 40 := by
  unfold plainOk at h
  rw [if_neg (by omega), if_neg (by omega), if_neg (by omega), if_pos hk] at h
  simp only [decide_eq_true_eq] at h
  exact h.2.1
theorem plain2 {v : Val} (h : plainOk v = true) (hk : v.kind = 2) : -2147483647 ≤ v.num ∧ v.num ≤ 2147483647 := by
  unfold plainOk at h
  rw [if_neg (by omega), if_neg (by omega), if_pos hk] at h
  simp only [decide_eq_true_eq] at h
  exact h.1
theorem plain0 {v : Val} (h : plainOk v = true) : 0 ≤ v.kind := by
  unfold plainOk at h
  repeat' split at h
  all_goals first | omega | cases h

theorem parts5_get {v : Val} (hn : v.names.length = v.list.length) {i : Nat} (hi : i < v.list.length) : ∃ h : i < (parts5 v).length, (parts5 v)[i] = quo (v.names[i]'(by omega)) ++ 58 :: putV v.list[i] := by
  have hl : (parts5 v).length = v.list.length := by simp [parts5, hn]
  refine ⟨by omega, ?_⟩
  simp [parts5]
theorem parts5_len {v : Val} {M : Nat} (ho : onceOk v.names = true) (hp : ∀ x ∈ v.list, (putV x).length ≤ M) : ∀ p ∈ parts5 v, p.length ≤ M + 75 := by
  intro p hp'
  obtain ⟨i, hi, rfl⟩ := List.mem_iff_getElem.1 hp'
  simp only [parts5, List.length_zipWith, List.length_map] at hi
  simp only [parts5, List.getElem_zipWith, List.getElem_map, List.length_append, List.length_cons]
  have h1 := quo_len (v.names[i]'(by omega))
  have h2 := once_len ho _ (List.getElem_mem (show i < v.names.length by omega))
  have h3 := hp _ (List.getElem_mem (show i < v.list.length by omega))
  omega
theorem pow_pos' (d : Nat) : 1 ≤ 13 ^ d := Nat.pow_pos (by omega)
theorem put_len : ∀ (d : Nat) (v : Val), okV v (d : Int) false = true → (putV v).length ≤ 1000 * 13 ^ d
  | 0, v, h => (facts0 h).elim
  | d + 1, v, h => by
    obtain ⟨h1, h2, h3, h4⟩ := facts h
    have ih := fun x hx => put_len d x (h4 x hx)
    have hp := pow_pos' d
    rw [putV_eq, Nat.pow_succ]
    by_cases k1 : v.kind = 1
    · rw [if_pos k1]; split <;> simp <;> omega
    rw [if_neg k1]
    by_cases k2 : v.kind = 2
    · rw [if_pos k2]
      have := itoa_bd v.num (by have := plain2 h1 k2; omega)
      omega
    rw [if_neg k2]
    by_cases k3 : v.kind = 3
    · rw [if_pos k3]
      have := quo_len v.text
      have := plain3 h1 k3
      omega
    rw [if_neg k3]
    by_cases k4 : v.kind = 4
    · rw [if_pos k4]
      have a := plain4 h1 k4
      have b := join_len (1000 * 13 ^ d) (v.list.map putV) (fun p hp => by
        obtain ⟨x, hx, rfl⟩ := List.mem_map.1 hp
        exact ih x hx)
      rw [List.length_map] at b
      have c := Nat.mul_le_mul_right (1000 * 13 ^ d + 1) a
      simp only [List.length_cons, List.length_append, List.length_nil]
      omega
    rw [if_neg k4]
    by_cases k5 : v.kind = 5
    · rw [if_pos k5]
      have a := plain5 h1 k5
      have b := join_len (1000 * 13 ^ d + 75) (parts5 v) (parts5_len h3 ih)
      have e : (parts5 v).length = v.list.length := by simp [parts5, a.1]
      rw [e] at b
      have c := Nat.mul_le_mul_right (1000 * 13 ^ d + 75 + 1) a.2
      simp only [List.length_cons, List.length_append, List.length_nil]
      omega
    · rw [if_neg k5]; simp; omega

theorem itm_at {v : Val} {d : Nat} (h : Facts v d) : itm v = if v.kind = 0 then .c100 else if v.kind = 1 then .c80 (decide (v.num = 1)) else if v.kind = 2 then .c82 v.num else if v.kind = 3 then .c83 v.text else if v.kind = 4 then .c84 v.list else .c87 ⟨v.names, v.list⟩ := by
  have h0 := plain0 h.plain
  have h5 := h.kind
  unfold itm
  rw [h.plain, h.once]
  simp only [if_true, Bool.and_self]
  by_cases k0 : v.kind = 0
  · rw [if_pos k0, if_pos k0]
  rw [if_neg k0, if_neg k0]
  by_cases k1 : v.kind = 1
  · rw [if_pos k1, if_pos k1]
  rw [if_neg k1, if_neg k1]
  by_cases k2 : v.kind = 2
  · rw [if_pos k2, if_pos k2]
  rw [if_neg k2, if_neg k2]
  by_cases k3 : v.kind = 3
  · rw [if_pos k3, if_pos k3]
  rw [if_neg k3, if_neg k3]
  by_cases k4 : v.kind = 4
  · rw [if_pos k4, if_pos k4]
  rw [if_neg k4, if_neg k4, if_pos (by omega)]

theorem join_ok (r : List Bs) (h1 : r.length ≤ 1048576) (h2 : (Lib.join r [44]).length ≤ 140737488355328) : m_strings_Join r [44] = some (Lib.join r [44]) := by
  unfold m_strings_Join; rw [if_pos ⟨by omega, h2⟩]

theorem ev_put : ∀ (d : Nat), d ≤ 6 → ∀ v : Val, Bd 1048576 v → okV v (d : Int) false = true → Ev (fun k => m_spec_l1Put k v) (putV v) ∧ Ev (fun k => m_impl_writeValue k v ()) (putV v)
  | 0, _, v, _, h => (facts0 h).elim
  | d + 1, hd, v, hb, h => by
    have hm : maxLen = 9223372036854775807 := rfl
    have hf := facts h
    have ih := fun x hx => ev_put d (by omega) x (hb.within x hx) (hf.within x hx)
    have il := fun x hx => put_len d x (hf.within x hx)
    have hM : 1000 * 13 ^ d ≤ 371293000 := by
      have : 13 ^ d ≤ 13 ^ 5 := Nat.pow_le_pow_right (by omega) (by omega)
      omega
    generalize 1000 * 13 ^ d = M at il hM
    have ht := hb.text
    have h0 := plain0 hf.plain
    have h5 := hf.kind
    have hi := ev_itemOf v hb
    rw [itm_at hf] at hi
    rw [putV_eq]
    refine ⟨?_, ?_⟩
    · rw [ev_shift]; simp only [m_spec_l1Put]
      by_cases k1 : v.kind = 1
      · rw [if_pos k1]
        exact ev_ifT k1 (ev_ite (fun c => ev_eq (ev_some _) (by rw [if_pos c])) (fun c => ev_eq (ev_some _) (by rw [if_neg c])))
      rw [if_neg k1]
      refine ev_ifF k1 ?_
      by_cases k2 : v.kind = 2
      · rw [if_pos k2]
        exact ev_ifT k2 (Ev.bind (ev_num v.num (by have := plain2 hf.plain k2; omega)) (ev_some _))
      rw [if_neg k2]
      refine ev_ifF k2 ?_
      by_cases k3 : v.kind = 3
      · rw [if_pos k3]
        exact ev_ifT k3 (Ev.bind (ev_sQuote v.text ht) (ev_some _))
      rw [if_neg k3]
      refine ev_ifF k3 ?_
      by_cases k4 : v.kind = 4
      · rw [if_pos k4]
        have hl := plain4 hf.plain k4
        have hps : ∀ p ∈ v.list.map putV, p.length ≤ M := fun p hp => by
          obtain ⟨x, hx, rfl⟩ := List.mem_map.1 hp
          exact il x hx
        have hjl := join_len M _ hps
        rw [List.length_map] at hjl
        have hj2 := Nat.mul_le_mul_right (M + 1) hl
        refine ev_ifT k4 (Ev.go (s := Lib.join (v.list.map putV) [44]) ?_ (ev_ifT (by simp; omega) (ev_ifT (by simp; omega) (ev_eq (ev_some _) (by simp)))))
        have := ev_fold (L := fun k x i => m_spec_l1Put_l1 k v x i) (n := v.list.length) (fun j => Lib.join ((v.list.map putV).take j) [44]) (fun i r hi' h' => by
          have hjt := join_len M ((v.list.map putV).take i) (fun p hp => hps p (List.mem_of_mem_take hp))
          have hlt : ((v.list.map putV).take i).length ≤ 12 := by simp; omega
          have hj3 := Nat.mul_le_mul_right (M + 1) hlt
          have hpi := il _ (List.getElem_mem hi')
          rw [join_take _ i (by simpa using hi')] at h'
          generalize Lib.join ((v.list.map putV).take i) [44] = acc at hjt h' ⊢
          rw [ev_shift]; simp only [m_spec_l1Put_l1]
          rw [wrap_id (n := (i : Int) + 1) (by omega), ix_nat hi']
          refine ev_ifT (by omega) (Ev.go (s := if 0 < i then acc ++ [44] else acc) ?_ (ev_ifT (by omega) (Ev.bind (ih _ (List.getElem_mem hi')).1 (ev_ifT (by split <;> simp <;> omega) (by simpa using h')))))
          by_cases c : 0 < i
          · rw [if_pos c]; exact ev_ifT (by omega) (ev_ifT (by simp; omega) (ev_some _))
          · rw [if_neg c]; exact ev_ifF (by omega) (ev_some _)) (by
          rw [ev_shift]; simp only [m_spec_l1Put_l1]
          exact ev_ifF (by omega) (ev_some _)) v.list.length 0 (by omega)
        have e : (v.list.map putV).take v.list.length = v.list.map putV := by rw [List.take_of_length_le (by simp)]
        simp only [e] at this
        simpa [Lib.join_nil] using this
      rw [if_neg k4]
      refine ev_ifF k4 ?_
      by_cases k5 : v.kind = 5
      · rw [if_pos k5]
        obtain ⟨hn, hl⟩ := plain5 hf.plain k5
        have hps := parts5_len hf.once il
        have hpl : (parts5 v).length = v.list.length := by simp [parts5, hn]
        have hjl := join_len (M + 75) _ hps
        rw [hpl] at hjl
        have hj2 := Nat.mul_le_mul_right (M + 75 + 1) hl
        refine ev_ifT k5 (Ev.go (s := Lib.join (parts5 v) [44]) ?_ (ev_ifT (by simp; omega) (ev_ifT (by simp; omega) (ev_eq (ev_some _) (by simp)))))
        have := ev_fold (L := fun k x i => m_spec_l1Put_l2 k v x i) (n := v.list.length) (fun j => Lib.join ((parts5 v).take j) [44]) (fun i r hi' h' => by
          have hjt := join_len (M + 75) ((parts5 v).take i) (fun p hp => hps p (List.mem_of_mem_take hp))
          have hlt : ((parts5 v).take i).length ≤ 12 := by simp; omega
          have hj3 := Nat.mul_le_mul_right (M + 75 + 1) hlt
          have hpi := il _ (List.getElem_mem hi')
          obtain ⟨hlt2, hget⟩ := parts5_get hn hi'
          have hni : i < v.names.length := by omega
          have hql := quo_len v.names[i]
          have hnl := once_len hf.once _ (List.getElem_mem hni)
          rw [join_take _ i hlt2, hget] at h'
          generalize Lib.join ((parts5 v).take i) [44] = acc at hjt h' ⊢
          rw [ev_shift]; simp only [m_spec_l1Put_l2]
          rw [wrap_id (n := (i : Int) + 1) (by omega), ix_nat hi']
          have hn2 : m_spec_l1Name2 v (i : Int) = some v.names[i] := by
            unfold m_spec_l1Name2
            rw [if_pos (by omega), if_pos (by omega), ix_nat hni]
          rw [hn2]
          simp only [Option.bind_some]
          refine ev_ifT (by omega) (Ev.go (s := if 0 < i then acc ++ [44] else acc) ?_ (Ev.bind (ev_sQuote v.names[i] (by omega)) (ev_ifT (by split <;> simp <;> omega) (ev_ifT (by split <;> simp <;> omega) (ev_ifT (by omega) (Ev.bind (ih _ (List.getElem_mem hi')).1 (ev_ifT (by split <;> simp <;> omega) (by simpa using h'))))))))
          by_cases c : 0 < i
          · rw [if_pos c]; exact ev_ifT (by omega) (ev_ifT (by simp; omega) (ev_some _))
          · rw [if_neg c]; exact ev_ifF (by omega) (ev_some _)) (by
          rw [ev_shift]; simp only [m_spec_l1Put_l2]
          exact ev_ifF (by omega) (ev_some _)) v.list.length 0 (by omega)
        have e : (parts5 v).take v.list.length = parts5 v := by rw [List.take_of_length_le (by omega)]
        simp only [e] at this
        simpa [Lib.join_nil] using this
      · rw [if_neg k5]
        exact ev_ifF k5 (ev_some _)
    · rw [ev_shift]; simp only [m_impl_writeValue]
      refine Ev.bind hi ?_
      by_cases k0 : v.kind = 0
      · simp only [if_pos k0]
        exact ev_eq (ev_some _) (by rw [if_neg (by omega), if_neg (by omega), if_neg (by omega), if_neg (by omega), if_neg (by omega)])
      simp only [if_neg k0]
      by_cases k1 : v.kind = 1
      · simp only [if_pos k1]
        simp only [m_strconv_FormatBool]
        by_cases c : v.num = 1
        · simp only [c]
          exact ev_some _
        · simp only [c]
          exact ev_some _
      simp only [if_neg k1]
      by_cases k2 : v.kind = 2
      · simp only [if_pos k2]
        rw [itoa_num v.num (by have := plain2 hf.plain k2; omega)]
        exact ev_some _
      simp only [if_neg k2]
      by_cases k3 : v.kind = 3
      · simp only [if_pos k3]
        exact Ev.bind (ev_iQuote v.text ht) (ev_some _)
      simp only [if_neg k3]
      by_cases k4 : v.kind = 4
      · simp only [if_pos k4]
        have hl := plain4 hf.plain k4
        have hps : ∀ p ∈ v.list.map putV, p.length ≤ M := fun p hp => by
          obtain ⟨x, hx, rfl⟩ := List.mem_map.1 hp
          exact il x hx
        have hjl := join_len M _ hps
        rw [List.length_map] at hjl
        have hj2 := Nat.mul_le_mul_right (M + 1) hl
        refine Ev.go (s := v.list.map putV) ?_ ?_
        · have := ev_fold (L := fun k x i => m_impl_writeValue_l1 k v.list x i) (n := v.list.length) (fun j => (v.list.map putV).take j) (fun i r hi' h' => by
            rw [List.take_add_one, List.getElem?_eq_getElem (by simpa using hi'), Option.toList_some] at h'
            rw [ev_shift]; simp only [m_impl_writeValue_l1]
            rw [wrap_id (n := (i : Int) + 1) (by omega), ix_nat hi']
            exact ev_ifT (by omega) (ev_ifT (by omega) (Ev.bind (ih _ (List.getElem_mem hi')).2 (ev_ifT (by simp; omega) (by simpa using h'))))) (by
            rw [ev_shift]; simp only [m_impl_writeValue_l1]
            exact ev_ifF (by omega) (ev_some _)) v.list.length 0 (by omega)
          have e : (v.list.map putV).take v.list.length = v.list.map putV := by rw [List.take_of_length_le (by simp)]
          simp only [e] at this
          simpa using this
        · rw [join_ok _ (by simp; omega) (by omega)]
          simp only [Option.bind_some]
          exact ev_ifT (by simp; omega) (ev_ifT (by simp; omega) (ev_eq (ev_some _) (by simp)))
      simp only [if_neg k4]
      have k5 : v.kind = 5 := by omega
      simp only [if_pos k5]
      obtain ⟨hn, hl⟩ := plain5 hf.plain k5
      have hps := parts5_len hf.once il
      have hpl : (parts5 v).length = v.list.length := by simp [parts5, hn]
      have hjl := join_len (M + 75) _ hps
      rw [hpl] at hjl
      have hj2 := Nat.mul_le_mul_right (M + 75 + 1) hl
      refine Ev.go (s := parts5 v) ?_ ?_
      · have := ev_fold (L := fun k x i => m_impl_writeValue_l2 k ⟨v.names, v.list⟩ x i) (n := v.list.length) (fun j => (parts5 v).take j) (fun i r hi' h' => by
          have hpi := il _ (List.getElem_mem hi')
          obtain ⟨hlt2, hget⟩ := parts5_get hn hi'
          have hni : i < v.names.length := by omega
          have hql := quo_len v.names[i]
          have hnl := once_len hf.once _ (List.getElem_mem hni)
          rw [List.take_add_one, List.getElem?_eq_getElem hlt2, Option.toList_some, hget] at h'
          rw [ev_shift]; simp only [m_impl_writeValue_l2]
          rw [wrap_id (n := (i : Int) + 1) (by omega), ix_nat hi', ix_nat hni]
          exact ev_ifT (by omega) (ev_ifT (by omega) (ev_ifT (by omega) (Ev.bind (ev_iQuote v.names[i] (by omega)) (ev_ifT (by simp; omega) (Ev.bind (ih _ (List.getElem_mem hi')).2 (ev_ifT (by simp; omega) (ev_ifT (by simp; omega) (by simpa using h')))))))))  (by
          rw [ev_shift]; simp only [m_impl_writeValue_l2]
          exact ev_ifF (by omega) (ev_some _)) v.list.length 0 (by omega)
        have e : (parts5 v).take v.list.length = parts5 v := by rw [List.take_of_length_le (by omega)]
        simp only [e] at this
        simpa using this
      · rw [join_ok _ (by omega) (by omega)]
        simp only [Option.bind_some]
        exact ev_ifT (by simp; omega) (ev_ifT (by simp; omega) (ev_eq (ev_some _) (by simp)))

/-- What is written of a value. -/
def textV (v : Val) : Bs := if okV v 6 false then putV v else []
theorem ev_sJson (v : Val) (h : Bd 1048576 v) : Ev (fun k => m_spec_JsonPut k v) (textV v) := by
  simp only [m_spec_JsonPut]
  refine Ev.bind (ev_sValueOk v h) ?_
  unfold textV
  exact ev_ite (fun c => by rw [if_pos c]; exact Ev.bind (ev_put 6 (Nat.le_refl _) v h c).1 (ev_some _)) (fun c => by rw [if_neg c]; exact ev_some _)
theorem ev_iJson (v : Val) (h : Bd 1048576 v) : Ev (fun k => m_impl_JsonPut k v) (textV v) := by
  simp only [m_impl_JsonPut]
  refine Ev.bind (ev_iValueOk v h) ?_
  unfold textV
  exact ev_ite (fun c => by rw [if_pos c]; exact Ev.bind (ev_put 6 (Nat.le_refl _) v h c).2 (ev_some _)) (fun c => by rw [if_neg c]; exact ev_some _)
theorem law_JsonPut (v : Val) (h : Bd maxLen v) : ∃ k, m_laws_FnExactJsonPut k v = some true := by
  refine Ev.get (m := fun k => m_laws_FnExactJsonPut k v) ?_
  simp only [m_laws_FnExactJsonPut]
  obtain ⟨y, h3, h4⟩ := ev_szValue v h 1048576 (by omega) (by omega)
  rcases h4 with h4 | ⟨h4, h5, h6⟩
  · exact Ev.bind h3 (ev_ifT h4 (ev_some _))
  · have ht := ev_toValue v h6
    exact Ev.bind h3 (ev_ifF (by omega) (Ev.bind ht (Ev.bind (ev_sJson v h6) (Ev.bind ht (Ev.bind (ev_iJson v h6) (ev_ifT rfl (Ev.bind ht (Ev.bind (ev_eqValue v h6) (ev_ifT rfl (ev_some _))))))))))
end Go.Proofs.YtopbbjoflopjbaaDoor
