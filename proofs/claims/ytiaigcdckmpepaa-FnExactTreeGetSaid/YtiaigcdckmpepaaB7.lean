/- Slices made, appended to, cut; the conditions stand in each theorem. -/
import Derived.Test.YtiaigcdckmpepaaB6
/-! Slices of the call's own. -/
set_option linter.unusedVariables false
set_option linter.unusedSimpArgs false
namespace Go.Bb

theorem rowsC_get {α : Type} {sz : Nat} : ∀ (rows : List (List α)), (∀ r ∈ rows, r.length = sz) → (rowsC rows).length = rows.length * sz ∧ ∀ (i : Nat) row (j : Nat), rows[i]? = some row → j < sz → (rowsC rows)[i * sz + j]? = row[j]?
  | [], _ => ⟨by simp [rowsC], fun i row j h => by simp at h⟩
  | r :: rows, h => by
    obtain ⟨h1, h2⟩ := rowsC_get rows (fun r hr => h r (List.mem_cons_of_mem _ hr))
    have hr := h r List.mem_cons_self
    refine ⟨by show (r ++ rowsC rows).length = _; simp [h1, hr, Nat.add_mul]; omega, fun i row j hi hj => ?_⟩
    show (r ++ rowsC rows)[i * sz + j]? = _
    cases i with
    | zero =>
      simp at hi; subst hi
      rw [List.getElem?_append_left (by omega)]; simp
    | succ i =>
      rw [Nat.add_mul, Nat.one_mul, List.getElem?_append_right (by omega), hr]
      rw [show i * sz + sz + j - sz = i * sz + j by omega]
      exact h2 i row j (by simpa using hi) hj

/-- The values of rows, one behind the other. -/
def flat (u : Nat → Nat → Value) (n sz : Nat) : List Value := (List.range (n * sz)).map fun k => u (k / sz) (k % sz)
theorem flat_length (u : Nat → Nat → Value) (n sz : Nat) : (flat u n sz).length = n * sz := by simp [flat]
theorem flat_get {u : Nat → Nat → Value} {n sz i j : Nat} (hi : i < n) (hj : j < sz) : (flat u n sz)[i * sz + j]? = some (u i j) := by
  have h1 : i * sz + j < n * sz := by
    have : (i + 1) * sz ≤ n * sz := Nat.mul_le_mul_right _ hi
    rw [Nat.add_mul, Nat.one_mul] at this; omega
  have h2 : (i * sz + j) / sz = i := by rw [Nat.mul_comm, Nat.mul_add_div (by omega), Nat.div_eq_of_lt hj]; omega
  have h3 : (i * sz + j) % sz = j := by rw [Nat.mul_comm, Nat.mul_add_mod, Nat.mod_eq_of_lt hj]
  simp [flat, h1, h2, h3]
theorem flat_idx {u : Nat → Nat → Value} {n sz k : Nat} {v : Value} (h : (flat u n sz)[k]? = some v) : ∃ i j, i < n ∧ j < sz ∧ k = i * sz + j ∧ v = u i j := by
  have hk : k < n * sz := by
    rw [← flat_length u n sz]
    rcases Nat.lt_or_ge k (flat u n sz).length with h' | h'
    · exact h'
    · rw [List.getElem?_eq_none h'] at h; cases h
  have hs : 0 < sz := by
    rcases Nat.eq_zero_or_pos sz with h0 | h0
    · subst h0; simp at hk
    · exact h0
  have h1 : k / sz < n := (Nat.div_lt_iff_lt_mul hs).2 hk
  have h2 : k % sz < sz := Nat.mod_lt _ hs
  have h3 : k = k / sz * sz + k % sz := by rw [Nat.mul_comm]; exact (Nat.div_add_mod k sz).symm
  refine ⟨k / sz, k % sz, h1, h2, h3, ?_⟩
  have h4 := flat_get (u := u) h1 h2
  rw [← h3] at h4
  rw [h4] at h; exact (Option.some.inj h).symm

section
variable {P : Program} {T : Tab} {c : Cx} {F : Nat → Nat → Prop} {o : Oper} {σ : St} {K : St → Prop} {N : Nat → Prop} {a : Act} {w : World} {all r : List Oper}

/-- What there is to be appended. -/
def AddOk (N : Nat → Prop) (w : World) (sz : Nat) (rows : List (List AV)) (v : Value) (G : Nat → Nat → Nat → Prop) : Prop :=
  (v = nilV ∧ rows = []) ∨ ∃ (ad : Addr) (cap : Nat) (u : Nat → Nat → Value), v = .slice (some ad) rows.length cap ∧ (0 < rows.length → ad.spot = none) ∧ (∀ (i : Nat) row, rows[i]? = some row → row.length = sz) ∧
    ∀ (i : Nat) row (j : Nat) av, rows[i]? = some row → row[j]? = some av → w.cell? ⟨ad.block, ad.off + (i * sz + j), none⟩ = some (u i j) ∧ OwnV N w (G i j) av (u i j)

theorem addOk_sl {z : Bool} {sz : Nat} {rows : List (List AV)} {v : Value} (h : RelV N w (.sl z rows) v) (hs : ∀ (i : Nat) row, rows[i]? = some row → row.length = sz) : AddOk N w sz rows v fun _ _ _ => False := by
  cases h with
  | slNil => exact .inl ⟨rfl, rfl⟩
  | sl _ _ ad cap sz' u hsp hc hm h1 h2 h3 h4 =>
    refine .inr ⟨ad, cap, u, rfl, hsp, hs, fun i row j av hi hj => ?_⟩
    have e : sz' = sz := by rw [← h1 i row hi, hs i row hi]
    subst e
    exact ⟨(h2 i row j av hi hj).2, .frz _ _ _ (h3 i row j av hi hj)⟩

theorem addOk_own {sz : Nat} {t : TypeId} {S : Nat → Prop} {rows : List (List AV)} {v : Value} (h : OwnV N w S (.osl t sz rows) v) : ∃ G : Nat → Nat → Nat → Prop, AddOk N w sz rows v G ∧ (∀ i j k, G i j k → S k) ∧ ∀ i j i' j' k, G i j k → G i' j' k → i = i' ∧ j = j' := by
  cases h with
  | frz _ _ _ h => cases h
  | osl0 => exact ⟨fun _ _ _ => False, .inl ⟨rfl, rfl⟩, fun _ _ _ h => h.elim, fun _ _ _ _ _ h => h.elim⟩
  | osl _ _ _ _ b cap arr G u hb hh hsz hl hm hr hG hd hc ho =>
    refine ⟨G, .inr ⟨⟨b, 0, none⟩, cap, u, rfl, fun _ => rfl, hr, fun i row j av hi hj => ⟨?_, ho i row j av hi hj⟩⟩, fun i j k h => (hG i j k h).1, hd⟩
    simp only [World.cell?, hh]
    simpa using hc i row j av hi hj

theorem addOk_nil {sz : Nat} : AddOk N w sz [] nilV fun _ _ _ => False := .inl ⟨rfl, rfl⟩

theorem AddOk.one {sz : Nat} {rows : List (List AV)} {ad : Addr} {u : Nat → Nat → Value} {G : Nat → Nat → Nat → Prop} (h2 : ∀ (i : Nat) row (j : Nat) av, rows[i]? = some row → row[j]? = some av → w.cell? ⟨ad.block, ad.off + (i * sz + j), none⟩ = some (u i j) ∧ OwnV N w (G i j) av (u i j))
    (h1 : ∀ (i : Nat) row, rows[i]? = some row → row.length = sz) (hc : ∀ row ∈ rows, cellsOk row = true) : ∀ x ∈ flat u rows.length sz, x.oneCell' = true := by
  intro x hx
  obtain ⟨k, hk, rfl⟩ := List.mem_iff_getElem.1 hx
  obtain ⟨i, j, hi, hj, _, e⟩ := flat_idx (List.getElem?_eq_getElem hk)
  rw [e]
  have hrow : rows[i]? = some rows[i] := List.getElem?_eq_getElem hi
  have hlen := h1 i _ hrow
  have hav : rows[i][j]? = some rows[i][j] := List.getElem?_eq_getElem (by omega)
  have h3 := (h2 i _ j _ hrow hav).2
  have h4 : (rows[i][j]).cell = true := List.all_eq_true.1 (hc _ (List.getElem_mem hi)) _ (List.getElem_mem _)
  generalize rows[i][j] = av at h3 h4
  generalize u i j = x at h3
  cases h3 with
  | frz _ _ _ h => exact h.one h4
  | osl0 => rfl
  | osl => rfl
  | optr => rfl

/-- What is owned, as the kit says it. -/
theorem own_row {sz : Nat} {t : TypeId} {S : Nat → Prop} {rows : List (List AV)} {v : Value} (h : OwnV N w S (.osl t sz rows) v) : ∃ (G : Nat → Nat → Nat → Prop) (u : Nat → Nat → Value), w.ownsRow 0 t sz v rows.length (flat u rows.length sz) ∧ (∀ g, v.ownBlock = some g → S g) ∧
    (∀ (i : Nat) row, rows[i]? = some row → row.length = sz) ∧ (∀ i j k, G i j k → S k ∧ some k ≠ v.ownBlock) ∧ (∀ i j i' j' k, G i j k → G i' j' k → i = i' ∧ j = j') ∧
    ∀ (i : Nat) row (j : Nat) av, rows[i]? = some row → row[j]? = some av → OwnV N w (G i j) av (u i j) := by
  cases h with
  | frz _ _ _ h => cases h
  | osl0 => exact ⟨fun _ _ _ => False, fun _ _ => undef, by have := World.ownsRow_nil w 0 t sz; simpa [flat] using this, fun g h => by simp [Value.ownBlock] at h, fun i row h => by simp at h, fun _ _ _ h => h.elim, fun _ _ _ _ _ h => h.elim, fun i row j av h => by simp at h⟩
  | osl _ _ _ _ b cap arr G u hb hh hsz hl hm hr hG hd hc ho =>
    refine ⟨G, u, ⟨flat_length _ _ _, .inr ⟨b, cap, arr, rfl, Nat.zero_le _, hh, hl, hm, hsz, ?_⟩⟩, fun g h => by simp [Value.ownBlock] at h; subst h; exact hb, hr, fun i j k h => ⟨(hG i j k h).1, by simp [Value.ownBlock]; exact (hG i j k h).2⟩, hd, ho⟩
    apply List.ext_getElem?
    intro k
    by_cases hk : k < rows.length * sz
    · rw [List.getElem?_take, if_pos hk]
      have hkl : k < (flat u rows.length sz).length := by rw [flat_length]; exact hk
      obtain ⟨i, j, hi, hj, e, e2⟩ := flat_idx (List.getElem?_eq_getElem hkl)
      have hrow : rows[i]? = some rows[i] := List.getElem?_eq_getElem hi
      have hlen := hr i _ hrow
      have := hc i _ j _ hrow (List.getElem?_eq_getElem (by omega))
      rw [List.getElem?_eq_getElem hkl, e2, e]
      simpa using this
    · rw [List.getElem?_eq_none (by simp; omega), List.getElem?_eq_none (by rw [flat_length]; omega)]

theorem own_mk {sz : Nat} {t : TypeId} {S : Nat → Prop} {rows : List (List AV)} {v : Value} {G : Nat → Nat → Nat → Prop} {u : Nat → Nat → Value} (h : w.ownsRow 0 t sz v rows.length (flat u rows.length sz)) (hb : ∀ g, v.ownBlock = some g → S g)
    (hr : ∀ (i : Nat) row, rows[i]? = some row → row.length = sz) (hG : ∀ i j k, G i j k → S k ∧ some k ≠ v.ownBlock) (hd : ∀ i j i' j' k, G i j k → G i' j' k → i = i' ∧ j = j')
    (ho : ∀ (i : Nat) row (j : Nat) av, rows[i]? = some row → row[j]? = some av → OwnV N w (G i j) av (u i j)) : OwnV N w S (.osl t sz rows) v := by
  rcases h.2 with ⟨rfl, h0⟩ | ⟨g, cap, cur, rfl, _, hh, hn, hm, hs, ht⟩
  · have : rows = [] := List.eq_nil_of_length_eq_zero h0
    subst this
    exact .osl0 _ _ _
  · refine .osl _ _ _ _ g cap cur G u (hb g rfl) hh hs hn hm hr (fun i j k h => ⟨(hG i j k h).1, fun e => (hG i j k h).2 (by simp [Value.ownBlock, e])⟩) hd (fun i row j av hi hj => ?_) ho
    have hil : i < rows.length := by
      rcases Nat.lt_or_ge i rows.length with h' | h'
      · exact h'
      · rw [List.getElem?_eq_none h'] at hi; cases hi
    have hjl : j < sz := by
      rw [← hr i row hi]
      rcases Nat.lt_or_ge j row.length with h' | h'
      · exact h'
      · rw [List.getElem?_eq_none h'] at hj; cases hj
    have h2 := flat_get (u := u) hil hjl
    rw [← ht, List.getElem?_take] at h2
    split at h2
    · simpa using h2
    · cases h2

theorem flat_append {u u2 : Nat → Nat → Value} {n m sz : Nat} : flat u n sz ++ flat u2 m sz = flat (fun i j => if i < n then u i j else u2 (i - n) j) (n + m) sz := by
  apply List.ext_getElem?
  intro k
  by_cases hk : k < (n + m) * sz
  · have hkl : k < (flat (fun i j => if i < n then u i j else u2 (i - n) j) (n + m) sz).length := by rw [flat_length]; exact hk
    obtain ⟨i, j, hi, hj, e, e2⟩ := flat_idx (List.getElem?_eq_getElem hkl)
    rw [List.getElem?_eq_getElem hkl, e2, e]
    by_cases hin : i < n
    · have h1 : i * sz + j < n * sz := by
        have : (i + 1) * sz ≤ n * sz := Nat.mul_le_mul_right _ hin
        rw [Nat.add_mul, Nat.one_mul] at this; omega
      rw [List.getElem?_append_left (by rw [flat_length]; exact h1), flat_get hin hj, if_pos hin]
    · have h1 : n * sz ≤ i * sz := Nat.mul_le_mul_right _ (by omega)
      rw [List.getElem?_append_right (by rw [flat_length]; omega), flat_length, if_neg hin]
      have : i * sz + j - n * sz = (i - n) * sz + j := by rw [Nat.sub_mul]; omega
      rw [this, flat_get (by omega) hj]
  · have hk' : n * sz + m * sz ≤ k := by rw [← Nat.add_mul]; omega
    rw [List.getElem?_eq_none (by rw [List.length_append, flat_length, flat_length]; exact hk'), List.getElem?_eq_none (by rw [flat_length]; omega)]

/-- append, whatever the base is. -/
theorem append_run (hT : TabOk P T) {t e sz by_ ty : Nat} {rows rows2 : List (List AV)} {v vx : Value} {S S2 : Nat → Prop} {G2 : Nat → Nat → Nat → Prop} (he : T.elem t = some e) (hsz : T.size e = some sz) (hby : T.bytes e = some by_) (hz : (T.zero e).map List.length = some sz)
    (hs : OwnV N w S (.osl e sz rows) v) (hx : AddOk N w sz rows2 vx G2) (hG2 : ∀ i j k, G2 i j k → S2 k ∧ k < w.heap.size) (hd2 : ∀ i j i' j' k, G2 i j k → G2 i' j' k → i = i' ∧ j = j') (hdj : ∀ k, S k → ¬ S2 k) (hSN : ∀ k, S k → N k ∧ k < w.heap.size) (h2N : ∀ k, S2 k → N k)
    (h0 : 0 < sz) (hb0 : 0 < by_) (hfit : (rows.length + rows2.length) * by_ ≤ 140737488355328) (hcell : ∀ row ∈ rows2, cellsOk row = true) :
    ∃ v' w', (Builtin.append_ #[t, t] ty #[v, vx]).run P w = .ok v' w' ∧ v'.oneCell' = true ∧ w'.os = w.os ∧ w'.tape = w.tape ∧ w'.output = w.output ∧ w.heap.size ≤ w'.heap.size ∧ (∀ k, k < w.heap.size → ¬ S k → w'.heap[k]? = w.heap[k]?) ∧
      ∃ S' : Nat → Prop, (∀ k, S' k → S k ∨ S2 k ∨ (w.heap.size ≤ k ∧ k < w'.heap.size)) ∧ ∀ N', (∀ i, i < w.heap.size → N' i → N i) → OwnV N' w' S' (.osl e sz (rows ++ rows2)) v' := by
  obtain ⟨zl, hz1, hz2⟩ := Option.map_eq_some_iff.1 hz
  obtain ⟨i, z, hi, hiz, hzs, _⟩ := hT.zero hz1
  obtain ⟨i', hi', his⟩ := hT.size hsz
  rw [hi] at hi'; cases hi'
  obtain ⟨i', hi', hib⟩ := hT.bytes hby
  rw [hi] at hi'; cases hi'
  have hu := hT.elem he
  have hnm : rows.length + rows2.length ≤ 140737488355328 := Nat.le_trans (Nat.le_mul_of_pos_right _ hb0) hfit
  obtain ⟨G, u, hown, hSb, hrl, hG, hdG, hoG⟩ := own_row hs
  rcases hx with ⟨rfl, rfl⟩ | ⟨ad, cap2, u2, rfl, hsp, hrl2, hc2⟩
  · -- nothing to append
    have hone : v.oneCell' = true := by
      rcases hown.2 with ⟨rfl, _⟩ | ⟨g, cap, cur, rfl, _⟩ <;> rfl
    refine ⟨v, w, ?_, hone, rfl, rfl, rfl, Nat.le_refl _, fun _ _ _ => rfl, S, fun k h => .inl h, fun N' hN => ?_⟩
    · rcases hown.2 with ⟨rfl, h⟩ | ⟨g, cap, cur, rfl, _, _, hc, _⟩
      · simp [Builtin.append_, run_underlying hu, sizeOf, typeInfo, hi, Builtin.lenOf, run_firstCells_none, storeCells]
      · simp [Builtin.append_, run_underlying hu, sizeOf, typeInfo, hi, Builtin.lenOf, hc, run_firstCells_none, storeCells]
    · rw [List.append_nil]
      exact hs.mono (.refl N w) hN (fun _ _ _ => rfl)
  · have hnews : ∀ (j : Nat) x, (flat u2 rows2.length sz)[j]? = some x → w.cell? (ad.add j) = some x := by
      intro k x hk
      obtain ⟨i, j, h1, h2, rfl, rfl⟩ := flat_idx hk
      have hrow : rows2[i]? = some rows2[i] := List.getElem?_eq_getElem h1
      have hlen := hrl2 i _ hrow
      rw [add_none _ _ (hsp (by omega))]
      exact (hc2 i _ j _ hrow (List.getElem?_eq_getElem (by omega))).1
    obtain ⟨v', w', hrun, hown', hgrow, hnil⟩ := run_append_own (P := P) w 0 t ty e i z sz by_ hu hi hiz his hib (by omega) h0 v rows.length _ hown ad rows2.length cap2 (flat u2 rows2.length sz) (flat_length _ _ _) hnews (AddOk.one hc2 hrl2 hcell)
      (by unfold maxLen; omega) hfit (Nat.zero_le _)
    rw [flat_append] at hown'
    have hone : v'.oneCell' = true := by
      rcases hown'.2 with ⟨rfl, _⟩ | ⟨g, cap, cur, rfl, _⟩ <;> rfl
    refine ⟨v', w', hrun, hone, hgrow.os, hgrow.tape, hgrow.output, hgrow.size, fun k hk hS => hgrow.block k hk (fun e => hS (hSb k e.symm)), ?_⟩
    have hnew : ∀ g, v'.ownBlock = some g → g < w'.heap.size := fun g hg => (hown'.lt g hg).2
    let S' : Nat → Prop := fun k => (S k ∧ some k ≠ v.ownBlock ∧ some k ≠ v'.ownBlock) ∨ (S2 k ∧ k < w.heap.size ∧ some k ≠ v'.ownBlock) ∨ some k = v'.ownBlock
    -- where the new block may lie
    by_cases hwhere : ∀ g, v'.ownBlock = some g → v.ownBlock = some g ∨ w.heap.size ≤ g
    · refine ⟨S', fun k hk => ?_, fun N' hN => ?_⟩
      · rcases hk with ⟨h, _, _⟩ | ⟨h, _, _⟩ | h
        · exact .inl h
        · exact .inr (.inl h)
        · rcases hwhere k h.symm with h1 | h1
          · exact .inl (hSb k h1)
          · exact .inr (.inr ⟨h1, hnew k h.symm⟩)
      · have hL : Later N w w' := ⟨hgrow.size, fun k hk hNk => hgrow.block k hk (fun e => hNk (hSN k (hSb k e.symm)).1)⟩
        have hkeepS : ∀ i j k, G i j k → k < w.heap.size → w'.heap[k]? = w.heap[k]? := fun i j k hg hk => hgrow.block k hk (hG i j k hg).2
        have hkeep2 : ∀ i j k, G2 i j k → k < w.heap.size → w'.heap[k]? = w.heap[k]? := fun i j k hg hk => hgrow.block k hk (fun e => hdj k (hSb k e.symm) (hG2 i j k hg).1)
        have hGb : ∀ i j k, G i j k → some k ≠ v'.ownBlock := fun i j k hg e => by
          rcases hwhere k e.symm with h1 | h1
          · exact (hG i j k hg).2 h1.symm
          · have := (hSN k (hG i j k hg).1).2; omega
        have hG2b : ∀ i j k, G2 i j k → some k ≠ v'.ownBlock := fun i j k hg e => by
          rcases hwhere k e.symm with h1 | h1
          · exact hdj k (hSb k h1) (hG2 i j k hg).1
          · have := (hG2 i j k hg).2; omega
        have hlen : (rows ++ rows2).length = rows.length + rows2.length := by simp
        refine own_mk (G := fun i j k => if i < rows.length then G i j k else G2 (i - rows.length) j k) (u := fun i j => if i < rows.length then u i j else u2 (i - rows.length) j) (by rw [hlen]; exact hown') (fun g hg => .inr (.inr hg.symm)) (fun i row hi => ?_) (fun i j k h => ?_) (fun i j i' j' k h h' => ?_) (fun i row j av hi hj => ?_)
        · rw [List.getElem?_append] at hi
          split at hi
          · exact hrl i row hi
          · exact hrl2 _ row hi
        · split at h
          · exact ⟨.inl ⟨(hG i j k h).1, (hG i j k h).2, hGb i j k h⟩, hGb i j k h⟩
          · exact ⟨.inr (.inl ⟨(hG2 _ j k h).1, (hG2 _ j k h).2, hG2b _ j k h⟩), hG2b _ j k h⟩
        · split at h <;> split at h'
          · exact hdG i j i' j' k h h'
          · exact absurd (hG2 _ j' k h').1 (hdj k (hG i j k h).1)
          · exact absurd (hG2 _ j k h).1 (hdj k (hG i' j' k h').1)
          · have := hd2 _ j _ j' k h h'; omega
        · rw [List.getElem?_append] at hi
          split at hi
          · rename_i hlt
            simp only [hlt, if_true]
            exact (hoG i row j av hi hj).mono hL hN (fun k hk hg => hkeepS i j k hg hk)
          · rename_i hlt
            simp only [hlt, if_false]
            exact (hc2 _ row j av hi hj).2.mono hL hN (fun k hk hg => hkeep2 _ j k hg hk)
    · -- it cannot lie elsewhere
      exfalso
      apply hwhere
      intro g hg
      rcases Nat.lt_or_ge g w.heap.size with hlt | hge
      · left
        rcases hown.2 with ⟨rfl, hn0⟩ | ⟨gb, cap, cur, rfl, _, hhb, hn, hm, hs', ht⟩
        · -- nil base: the block is new
          exfalso
          by_cases h00 : rows2.length = 0
          · have := hnil.2 ⟨rfl, h00⟩
            subst this
            simp [Value.ownBlock] at hg
          · have hr2 := run_append_nil (P := P) w t ty e i z hu hi hiz ad rows2.length cap2 (flat u2 rows2.length sz) (by rw [flat_length, his]) hnews (by omega) (by omega) (by rw [hib]; have : rows2.length * by_ ≤ (rows.length + rows2.length) * by_ := Nat.mul_le_mul_right _ (by omega); omega)
            rw [hrun] at hr2
            cases hr2
            simp [Value.ownBlock] at hg
            omega
        · by_cases hroom : rows.length + rows2.length ≤ cap
          · have hle : (rows.length + rows2.length) * sz ≤ cap * sz := Nat.mul_le_mul_right _ hroom
            rw [Nat.add_mul] at hle
            have hr2 := run_append_room (P := P) w t ty e i hu hi gb rows.length cap cur hhb ad rows2.length cap2 (flat u2 rows2.length sz) (by rw [flat_length, his]) hnews (AddOk.one hc2 hrl2 hcell) hroom (by rw [his, flat_length]; omega)
            rw [hrun] at hr2
            cases hr2
            exact hg
          · exfalso
            have hr2 := run_append_grow (P := P) w t ty e i z hu hi hiz ⟨gb, 0, none⟩ rows.length cap (flat u rows.length sz) (by rw [flat_length, his]) (fun j x hj => by
              rw [← ht, List.getElem?_take] at hj
              split at hj
              · rw [add_none _ _ rfl]; simp only [World.cell?, hhb]; simpa using hj
              · cases hj) ad rows2.length cap2 (flat u2 rows2.length sz) (by rw [flat_length, his]) hnews (by omega) (by omega) (growslice_fits (by omega) (by rw [hib]; exact hfit))
            rw [hrun] at hr2
            cases hr2
            simp [Value.ownBlock] at hg
            omega
      · exact .inr hge
end
end Go.Bb
