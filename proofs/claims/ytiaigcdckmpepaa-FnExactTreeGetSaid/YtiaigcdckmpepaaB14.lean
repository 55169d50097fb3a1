/- Trees that are owned whole: what lies in a cell is taken out under a name of its own, and put back; the conditions stand in each theorem. -/
import Derived.Test.YtiaigcdckmpepaaB13
/-! Trees of the call's own. -/
set_option linter.unusedVariables false
set_option linter.unusedSimpArgs false
namespace Go.Bb

/-- The same memory, otherwise named. -/
theorem Rel.reheap {c : Cx} {F : Nat → Nat → Prop} {N : Nat → Prop} {σ : St} {a : Act} {w : World} (hr : Rel c F N σ a w) (h' : HP) (F' : Nat → Nat → Prop)
    (hown : ∀ x v o, getk x h' = some (v, o) → OwnV N w (F' x) o v ∧ v.oneCell' = true)
    (hfoot : ∀ x, x ∈ keys h' → ∀ b, F' x b → ∃ y, y ∈ keys σ.heap ∧ F y b)
    (hdisj : ∀ x y, x ∈ keys h' → y ∈ keys h' → x ≠ y → ∀ b, F' x b → ¬ F' y b) : Rel c F' N ⟨σ.nt, σ.slots, h'⟩ a w :=
  ⟨hr.defers, hr.size, hr.slots, ⟨fun x v o hx => (hown x v o hx).1, fun x hx b hb => let ⟨y, h1, h2⟩ := hfoot x hx b hb; hr.heap.foot y h1 b h2, hdisj, fun x v o hx => (hown x v o hx).2⟩,
    fun x hx b hb => let ⟨y, h1, h2⟩ := hfoot x hx b hb; hr.may y h1 b h2, hr.n0, hr.unch⟩

/-- Whatever fits σ fits one of the states f. -/
def LeE {α : Type} (σ : St) (f : α → St) : Prop := ∀ (c : Cx) (F : Nat → Nat → Prop) (N : Nat → Prop) (a : Act) (w : World), Rel c F N σ a w → ∃ x F' N', Rel c F' N' (f x) a w
theorem Good.leE {P : Program} {c : Cx} {x : Code} {σ : St} {Q : Exit → St → Prop} {α : Type} {f : α → St} (hw : LeE σ f) (h : ∀ y, Good P c x (f y) Q) : Good P c x σ Q :=
  fun F N a w hr => let ⟨y, F', N', hr'⟩ := hw c F N a w hr; h y F' N' a w hr'
theorem g_leE {P : Program} {c : Cx} {all r : List Oper} {σ : St} {K : St → Prop} {α : Type} {f : α → St} (hw : LeE σ f) (h : ∀ y, GOps P c all r (f y) K) : GOps P c all r σ K :=
  fun k hl F N a w hr Q hK => let ⟨y, F', N', hr'⟩ := hw c F N a w hr; h y k hl F' N' a w hr' Q hK

theorem set_get {rows : List (List AV)} {row : List AV} {i j : Nat} {x : AV} (hrow : rows[i]? = some row) {p : Nat} {r : List AV} {q : Nat} {av : AV} (hp : (rows.set i (row.set j x))[p]? = some r) (hq : r[q]? = some av) :
    (p = i ∧ q = j ∧ av = x) ∨ (¬ (p = i ∧ q = j) ∧ ∃ r0, rows[p]? = some r0 ∧ r0[q]? = some av) := by
  rw [List.getElem?_set] at hp
  by_cases e : i = p
  · subst e
    rw [if_pos rfl] at hp
    split at hp
    · cases hp
      rw [List.getElem?_set] at hq
      by_cases e2 : j = q
      · subst e2
        rw [if_pos rfl] at hq
        split at hq
        · cases hq; exact .inl ⟨rfl, rfl, rfl⟩
        · cases hq
      · rw [if_neg e2] at hq
        exact .inr ⟨fun h => e2 h.2.symm, row, hrow, hq⟩
    · cases hp
  · rw [if_neg e] at hp
    exact .inr ⟨fun h => e h.1.symm, r, hp, hq⟩

theorem set_row {rows : List (List AV)} {row : List AV} {i j sz : Nat} {x : AV} (hrow : rows[i]? = some row) (h : ∀ (i : Nat) (row : List AV), rows[i]? = some row → row.length = sz) (p : Nat) (r : List AV) (hp : (rows.set i (row.set j x))[p]? = some r) : r.length = sz := by
  rw [List.getElem?_set] at hp
  split at hp
  · split at hp
    · cases hp; rw [List.length_set]; exact h i row hrow
    · cases hp
  · exact h p r hp

/-- What is owned besides is put into the cell that leads to it. -/
theorem OwnV.absorb {N : Nat → Prop} {w : World} {S S2 : Nat → Prop} {v u : Value} {t sz : Nat} {rows : List (List AV)} {row : List AV} {i j x : Nat} {o2 : AV} (h : OwnV N w S (.osl t sz rows) v) (h2 : OwnV N w S2 o2 u)
    (hrow : rows[i]? = some row) (hj : row[j]? = some (.hd x u)) (hdj : ∀ k, S k → ¬ S2 k) : OwnV N w (fun k => S k ∨ S2 k) (.osl t sz (rows.set i (row.set j o2))) v := by
  cases h with
  | frz _ _ _ h => cases h
  | osl0 => simp at hrow
  | osl _ _ _ _ b cap arr G uu hb hh hsz hl hm hr hG hd hc ho =>
    have e : rows.length = (rows.set i (row.set j o2)).length := by simp
    have hui : uu i j = u := by
      have := ho i row j _ hrow hj
      generalize uu i j = z at this
      cases this with
      | frz _ _ _ h => cases h; rfl
    rw [e]
    refine .osl _ _ _ _ b cap arr (fun p q k => if p = i ∧ q = j then S2 k else G p q k) uu (.inl hb) hh hsz (by rw [← e]; exact hl) hm (set_row hrow hr) (fun p q k hk => ?_) (fun p q p' q' k hk hk' => ?_) (fun p r q av hp hq => ?_) (fun p r q av hp hq => ?_)
    · by_cases hpq : p = i ∧ q = j
      · rw [if_pos hpq] at hk; exact ⟨.inr hk, fun h => hdj k (h ▸ hb) hk⟩
      · rw [if_neg hpq] at hk; exact ⟨.inl (hG p q k hk).1, (hG p q k hk).2⟩
    · by_cases hpq : p = i ∧ q = j <;> by_cases hpq' : p' = i ∧ q' = j
      · exact ⟨hpq.1.trans hpq'.1.symm, hpq.2.trans hpq'.2.symm⟩
      · rw [if_pos hpq] at hk; rw [if_neg hpq'] at hk'; exact absurd hk (hdj k (hG p' q' k hk').1)
      · rw [if_neg hpq] at hk; rw [if_pos hpq'] at hk'; exact absurd hk' (hdj k (hG p q k hk).1)
      · rw [if_neg hpq] at hk; rw [if_neg hpq'] at hk'; exact hd p q p' q' k hk hk'
    · rcases set_get hrow hp hq with ⟨rfl, rfl, _⟩ | ⟨_, r0, h3, h4⟩
      · exact hc p row q _ hrow hj
      · exact hc p r0 q av h3 h4
    · rcases set_get hrow hp hq with ⟨rfl, rfl, rfl⟩ | ⟨hpq, r0, h3, h4⟩
      · rw [hui]; simp only [and_self, if_true]; exact h2
      · simp only [hpq, if_false]; exact ho p r0 q av h3 h4

/-- What a cell owns is taken out of it. -/
theorem OwnV.focus {N : Nat → Prop} {w : World} {S : Nat → Prop} {v : Value} {t sz t2 sz2 : Nat} {rows rows2 : List (List AV)} {row : List AV} {i j : Nat} (x : Nat) (h : OwnV N w S (.osl t sz rows) v)
    (hrow : rows[i]? = some row) (hj : row[j]? = some (.osl t2 sz2 rows2)) : ∃ u S2, u.oneCell' = true ∧ OwnV N w (fun k => S k ∧ ¬ S2 k) (.osl t sz (rows.set i (row.set j (.hd x u)))) v ∧ OwnV N w S2 (.osl t2 sz2 rows2) u ∧ ∀ k, S2 k → S k := by
  cases h with
  | frz _ _ _ h => cases h
  | osl0 => simp at hrow
  | osl _ _ _ _ b cap arr G uu hb hh hsz hl hm hr hG hd hc ho =>
    have h2 := ho i row j _ hrow hj
    have hone : (uu i j).oneCell' = true := by
      generalize uu i j = z at h2
      cases h2 with
      | frz _ _ _ h => cases h
      | osl0 => rfl
      | osl => rfl
    refine ⟨uu i j, G i j, hone, ?_, h2, fun k hk => (hG i j k hk).1⟩
    have e : rows.length = (rows.set i (row.set j (.hd x (uu i j)))).length := by simp
    rw [e]
    refine .osl _ _ _ _ b cap arr (fun p q k => ¬ (p = i ∧ q = j) ∧ G p q k) uu ⟨hb, fun hk => (hG i j b hk).2 rfl⟩ hh hsz (by rw [← e]; exact hl) hm (set_row hrow hr) (fun p q k hk => ⟨⟨(hG p q k hk.2).1, fun hk2 => hk.1 (hd p q i j k hk.2 hk2)⟩, (hG p q k hk.2).2⟩) (fun p q p' q' k hk hk' => hd p q p' q' k hk.2 hk'.2) (fun p r q av hp hq => ?_) (fun p r q av hp hq => ?_)
    · rcases set_get hrow hp hq with ⟨rfl, rfl, _⟩ | ⟨_, r0, h3, h4⟩
      · exact hc p row q _ hrow hj
      · exact hc p r0 q av h3 h4
    · rcases set_get hrow hp hq with ⟨rfl, rfl, rfl⟩ | ⟨hpq, r0, h3, h4⟩
      · exact .frz _ _ _ (.hd _ _ hone)
      · exact (ho p r0 q av h3 h4).sub fun k hk => ⟨hpq, hk⟩

theorem le_absorb {σ : St} {k k2 : Nat} {v u : Value} {t sz : Nat} {rows rows' : List (List AV)} {row : List AV} {o2 : AV} (i j x : Nat) (hk : getk k σ.heap = some (v, .osl t sz rows)) (hk2 : getk k2 σ.heap = some (u, o2)) (hne : k ≠ k2)
    (hrow : rows[i]? = some row) (hj : row[j]? = some (.hd x u)) (he : rows.set i (row.set j o2) = rows') : Le σ ⟨σ.nt, σ.slots, (k, (v, .osl t sz rows')) :: minus σ.heap [k, k2]⟩ := by
  intro c F N a w hr
  subst he
  have m1 := get_mem_keys hk
  have m2 := get_mem_keys hk2
  have hdj := hr.heap.disj k k2 m1 m2 hne
  refine ⟨fun y => if y = k then (fun b => F k b ∨ F k2 b) else F y, N, hr.reheap _ _ (fun y v' o' hy => ?_) (fun y hy b hb => ?_) (fun y z hy hz hne' b hb hb' => ?_)⟩
  · simp only [getk] at hy
    by_cases e : y = k
    · subst e
      rw [if_pos rfl] at hy; cases hy
      simp only [if_true]
      exact ⟨(hr.heap.own _ _ _ hk).absorb (hr.heap.own _ _ _ hk2) hrow hj hdj, hr.heap.one _ _ _ hk⟩
    · rw [if_neg (fun h => e h.symm)] at hy
      obtain ⟨_, h2⟩ := get_minus hy
      simp only [e, if_false]
      exact ⟨hr.heap.own _ _ _ h2, hr.heap.one _ _ _ h2⟩
  · by_cases e : y = k
    · simp only [e, if_true] at hb
      rcases hb with hb | hb
      · exact ⟨k, m1, hb⟩
      · exact ⟨k2, m2, hb⟩
    · simp only [e, if_false] at hb
      simp only [keys, List.map_cons, List.mem_cons] at hy
      exact ⟨y, (mem_minus (hy.resolve_left e)).2, hb⟩
  · have key : ∀ z, z ∈ keys (minus σ.heap [k, k2]) → (F k b ∨ F k2 b) → F z b → False := by
      intro z hz h1 h2
      obtain ⟨h3, h4⟩ := mem_minus hz
      simp only [List.mem_cons, List.not_mem_nil, or_false, not_or] at h3
      rcases h1 with h1 | h1
      · exact hr.heap.disj k z m1 h4 (fun h => h3.1 h.symm) b h1 h2
      · exact hr.heap.disj k2 z m2 h4 (fun h => h3.2 h.symm) b h1 h2
    simp only [keys, List.map_cons, List.mem_cons] at hy hz
    by_cases e : y = k <;> by_cases e' : z = k
    · exact hne' (e.trans e'.symm)
    · simp only [e, if_true] at hb; simp only [e', if_false] at hb'
      exact key z (hz.resolve_left e') hb hb'
    · simp only [e', if_true] at hb'; simp only [e, if_false] at hb
      exact key y (hy.resolve_left e) hb' hb
    · simp only [e, if_false] at hb; simp only [e', if_false] at hb'
      exact hr.heap.disj y z (mem_minus (hy.resolve_left e)).2 (mem_minus (hz.resolve_left e')).2 hne' b hb hb'

theorem le_focus {σ : St} {k : Nat} {v : Value} {t sz t2 sz2 : Nat} {rows rows2 : List (List AV)} {row : List AV} (i j k2 : Nat) (hk : getk k σ.heap = some (v, .osl t sz rows)) (hk2 : has k2 σ.heap = false)
    (hrow : rows[i]? = some row) (hj : row[j]? = some (.osl t2 sz2 rows2)) :
    LeE σ fun u => ⟨σ.nt, σ.slots, (k2, (u, .osl t2 sz2 rows2)) :: (k, (v, .osl t sz (rows.set i (row.set j (.hd k2 u))))) :: minus σ.heap [k]⟩ := by
  intro c F N a w hr
  have m1 := get_mem_keys hk
  have hn2 := has_no hk2
  have hne : k ≠ k2 := by rintro rfl; exact hn2 m1
  obtain ⟨u, S2, hone, h1, h2, h3⟩ := (hr.heap.own _ _ _ hk).focus k2 hrow hj
  refine ⟨u, fun y => if y = k2 then S2 else if y = k then (fun b => F k b ∧ ¬ S2 b) else F y, N, hr.reheap _ _ (fun y v' o' hy => ?_) (fun y hy b hb => ?_) (fun y z hy hz hne' b hb hb' => ?_)⟩
  · simp only [getk] at hy
    by_cases e2 : y = k2
    · rw [if_pos e2.symm] at hy; cases hy
      simp only [e2, if_true]; exact ⟨h2, hone⟩
    · rw [if_neg (fun h => e2 h.symm)] at hy
      by_cases e : y = k
      · rw [if_pos e.symm] at hy; cases hy
        simp only [e, hne, if_false, if_true]; exact ⟨h1, hr.heap.one _ _ _ hk⟩
      · rw [if_neg (fun h => e h.symm)] at hy
        obtain ⟨_, h4⟩ := get_minus hy
        simp only [e, e2, if_false]
        exact ⟨hr.heap.own _ _ _ h4, hr.heap.one _ _ _ h4⟩
  · by_cases e2 : y = k2
    · simp only [e2, if_true] at hb; exact ⟨k, m1, h3 b hb⟩
    · by_cases e : y = k
      · simp only [e, hne, if_false, if_true] at hb; exact ⟨k, m1, hb.1⟩
      · simp only [e, e2, if_false] at hb
        simp only [keys, List.map_cons, List.mem_cons] at hy
        exact ⟨y, (mem_minus ((hy.resolve_left e2).resolve_left e)).2, hb⟩
  · simp only [keys, List.map_cons, List.mem_cons] at hy hz
    have key : ∀ z, z ∈ keys (minus σ.heap [k]) → F k b → F z b → False := by
      intro z hz h1 h2
      obtain ⟨h3, h4⟩ := mem_minus hz
      exact hr.heap.disj k z m1 h4 (fun h => h3 (by simp [h])) b h1 h2
    have h5 : ∀ y, (y = k2 ∨ y = k ∨ y ∈ keys (minus σ.heap [k])) → (if y = k2 then S2 else if y = k then (fun b => F k b ∧ ¬ S2 b) else F y) b → (y = k2 ∧ S2 b) ∨ (y = k ∧ F k b ∧ ¬ S2 b) ∨ (y ≠ k2 ∧ y ≠ k ∧ y ∈ keys (minus σ.heap [k]) ∧ F y b) := by
      intro y hy hb
      by_cases e2 : y = k2
      · simp only [e2, if_true] at hb; exact .inl ⟨e2, hb⟩
      · by_cases e : y = k
        · simp only [e, hne, if_false, if_true] at hb; exact .inr (.inl ⟨e, hb⟩)
        · simp only [e, e2, if_false] at hb; exact .inr (.inr ⟨e2, e, (hy.resolve_left e2).resolve_left e, hb⟩)
    rcases h5 y hy hb with ⟨a1, a2⟩ | ⟨a1, a2, a3⟩ | ⟨a1, a2, a3, a4⟩ <;> rcases h5 z hz hb' with ⟨b1, b2⟩ | ⟨b1, b2, b3⟩ | ⟨b1, b2, b3, b4⟩
    · exact hne' (a1.trans b1.symm)
    · exact b3 a2
    · exact key z b3 (h3 b a2) b4
    · exact a3 b2
    · exact hne' (a1.trans b1.symm)
    · exact key z b3 a2 b4
    · exact key y a3 (h3 b b2) a4
    · exact key y a3 b2 a4
    · exact hr.heap.disj y z (mem_minus a3).2 (mem_minus b3).2 hne' b a4 b4

/-! Whole trees, read only -/
theorem FrzL.append : ∀ {a b c d : List AV}, FrzL a b → FrzL c d → FrzL (a ++ c) (b ++ d)
  | _, _, _, _, .nil, h => h
  | _, _, _, _, .cons h t, h' => .cons h (t.append h')
end Go.Bb
