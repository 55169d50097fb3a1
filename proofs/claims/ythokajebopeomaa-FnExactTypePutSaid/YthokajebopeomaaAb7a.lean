/- What append leaves; the conditions stand in each theorem. -/
import Derived.Test.YthokajebopeomaaAb6
import Derived.Laws.AppendOwn
/-! append. -/
set_option linter.unusedVariables false
set_option linter.unusedSimpArgs false
namespace Go.Ab

section
variable {P : Program} {T : Tab} {c : Cx} {o : Oper} {σ : St} {K : St → Prop} {N : Nat → Prop} {a : Act} {w : World} {next : Act → World → Prop} {Q : Exit → Act → World → Prop}

theorem flatten_get {α : Type} {sz : Nat} : ∀ (rows : List (List α)), (∀ r ∈ rows, r.length = sz) → (rowsC rows).length = rows.length * sz ∧ ∀ k, k < rows.length * sz → ∃ row, rows[k / sz]? = some row ∧ (rowsC rows)[k]? = row[k % sz]?
  | [], _ => ⟨by simp [rowsC], fun k h => by simp at h⟩
  | r :: rows, h => by
    obtain ⟨h1, h2⟩ := flatten_get rows (fun r hr => h r (List.mem_cons_of_mem _ hr))
    have hr := h r List.mem_cons_self
    refine ⟨by show (r ++ rowsC rows).length = _; simp [h1, hr, Nat.add_mul]; omega, fun k hk => ?_⟩
    simp only [List.length_cons, Nat.add_mul, Nat.one_mul] at hk
    show ∃ row, (r :: rows)[k / sz]? = some row ∧ (r ++ rowsC rows)[k]? = row[k % sz]?
    by_cases hk' : k < sz
    · refine ⟨r, by rw [Nat.div_eq_of_lt hk']; rfl, ?_⟩
      rw [List.getElem?_append_left (by omega), Nat.mod_eq_of_lt hk']
    · obtain ⟨q, rfl⟩ : ∃ q, k = sz + q := ⟨k - sz, by omega⟩
      obtain ⟨row, h3, h4⟩ := h2 q (by omega)
      have hs : 0 < sz := by
        rcases Nat.eq_zero_or_pos sz with h0 | h0
        · subst h0; simp at hk
        · exact h0
      refine ⟨row, ?_, ?_⟩
      · rw [Nat.add_div_left _ hs]; simpa using h3
      · rw [List.getElem?_append_right (by omega), hr, Nat.add_sub_cancel_left, Nat.add_mod_left]; exact h4

/-- The cells of what is appended. -/
theorem addA_cells (hr : Rel c N σ a w) {sz m : Nat} {x : AV} {v : Value} {xs : List AV} (hsz : 0 < sz) (hx : RelV N w x v) (h : addA σ sz x = some (m, xs)) :
    xs.length = m * sz ∧ ((v = .slice none 0 0 ∧ m = 0) ∨ ∃ (ad : Addr) (cap : Nat) (us : List Value), v = .slice (some ad) m cap ∧ us.length = m * sz ∧ (∀ (j : Nat) (u : Value), us[j]? = some u → w.cell? (ad.add j) = some u) ∧ ∀ (j : Nat) av, xs[j]? = some av → ∃ u, us[j]? = some u ∧ RelV N w av u) := by
  cases hx <;> simp only [addA] at h <;> try (cases h; done)
  case slNil =>
    simp at h
    obtain ⟨rfl, rfl⟩ := h
    exact ⟨by simp [rowsC], .inl ⟨rfl, rfl⟩⟩
  case sl rows ad cap sz' u hs hc hm h1 h2 h3 =>
    split at h
    · rename_i hall
      cases h
      have hall : ∀ r ∈ rows, r.length = sz := fun r hr => by simpa using List.all_eq_true.1 hall r hr
      obtain ⟨h4, h5⟩ := flatten_get rows hall
      refine ⟨h4, .inr ⟨ad, cap, (List.range (rows.length * sz)).map fun k => u (k / sz) (k % sz), rfl, by simp, ?_, ?_⟩⟩
      · intro j v hv
        simp only [List.getElem?_map, Option.map_eq_some_iff] at hv
        obtain ⟨k, hk, rfl⟩ := hv
        have hjl : j < rows.length * sz ∧ k = j := by
          by_cases hjn : j < rows.length * sz
          · simp [hjn] at hk; exact ⟨hjn, hk.symm⟩
          · simp [hjn] at hk
        obtain ⟨hjl, rfl⟩ := hjl
        obtain ⟨row, h6, h7⟩ := h5 k hjl
        have hrl : row.length = sz := hall row (List.mem_of_getElem? h6)
        have hmod : k % sz < row.length := by rw [hrl]; exact Nat.mod_lt _ hsz
        have h8 := (h2 _ row (k % sz) _ h6 (List.getElem?_eq_getElem hmod)).2
        have hsz' : sz' = sz := by rw [← h1 _ row h6, hrl]
        rw [add_none _ _ (hs (Nat.pos_of_ne_zero fun h => by simp [h] at hjl))]
        have e : k / sz * sz' + k % sz = k := by rw [hsz', Nat.mul_comm]; exact Nat.div_add_mod k sz
        rw [e] at h8
        exact h8
      · intro j av hj
        have hjl : j < rows.length * sz := by
          rw [← h4]
          rcases Nat.lt_or_ge j (rowsC rows).length with h' | h'
          · exact h'
          · rw [List.getElem?_eq_none h'] at hj; cases hj
        obtain ⟨row, h6, h7⟩ := h5 j hjl
        rw [h7] at hj
        exact ⟨u (j / sz) (j % sz), by simp [hjl], h3 _ row _ av h6 hj⟩
    · cases h
  case ref b n cap hc hm =>
    split at h
    · rename_i t size cs hg
      split at h
      · rename_i hlen
        cases h
        obtain ⟨_, _, arr, h1, h2, h3, h4⟩ := hr.heap b _ hg
        refine ⟨hlen, .inr ⟨⟨b, 0, none⟩, cap, arr.toList.take (m * sz), rfl, by simp; omega, ?_, ?_⟩⟩
        · intro j v hv
          rw [List.getElem?_take] at hv
          split at hv
          · rw [add_none _ _ rfl]
            simp only [World.cell?, h1]
            simpa using hv
          · cases hv
        · intro j av hj
          obtain ⟨u, h5, h6⟩ := h4 j av hj
          refine ⟨u, ?_, h6⟩
          have : j < m * sz := by
            rw [← hlen]
            rcases Nat.lt_or_ge j xs.length with h' | h'
            · exact h'
            · rw [List.getElem?_eq_none h'] at hj; cases hj
          rw [List.getElem?_take, if_pos this]
          simpa using h5
      · cases h
    · cases h

theorem all_one {xs : List AV} {us : List Value} (hl : us.length = xs.length) (hx : ∀ (j : Nat) av, xs[j]? = some av → ∃ u, us[j]? = some u ∧ RelV N w av u) (hc : xs.all AV.cell = true) : ∀ u ∈ us, u.oneCell' = true := by
  intro u hu
  obtain ⟨j, hj, rfl⟩ := List.mem_iff_getElem.1 hu
  have hj' : j < xs.length := by omega
  obtain ⟨v, h1, h2⟩ := hx j _ (List.getElem?_eq_getElem hj')
  rw [List.getElem?_eq_getElem hj] at h1
  cases h1
  exact h2.one (List.all_eq_true.1 hc _ (List.getElem_mem _))

theorem cap_le {w : World} {need old : Nat} {e : TypeId} (h : need < 9223372036854775808) : need ≤ grownCap w need old e ∧ grownCap w need old e ≤ maxLen := by
  have hpos : 0 < 2 ^ 63 - need := by omega
  have := Nat.mod_lt (w.tape w.drawn (.appendCap need old e)) hpos
  have e : grownCap w need old e = need + w.tape w.drawn (.appendCap need old e) % (2 ^ 63 - need) := rfl
  rw [e]; unfold maxLen
  omega

theorem minus_weak {σ : St} {ks : List Nat} {b : Nat} {o : HO} : Weak { σ with heap := (b, o) :: σ.heap } { σ with heap := (b, o) :: minus σ.heap ks } :=
  ⟨rfl, fun _ _ h => h, fun k o' h => by
    simp only [getk] at h ⊢
    split
    · rename_i e; rw [if_pos e] at h; exact h
    · rename_i e; rw [if_neg e] at h; exact (get_minus h).2⟩

theorem append_ok (hT : TabOk P T) (hr : Rel c N σ a w) {t e sz by_ n m ty : Nat} {s x : AV} {vs vx : Value} {cs xs : List AV} {ks : List Nat} (he : T.elem t = some e) (hsz : T.size e = some sz) (hby : T.bytes e = some by_) (hz : (T.zero e).map List.length = some sz)
    (hs : RelV N w s vs) (hx : RelV N w x vx) (ho : ownA σ e sz s = some (n, cs, ks)) (ha : addA σ sz x = some (m, xs)) (h0 : 0 < sz) (hb0 : 0 < by_) (hfit : (n + m) * by_ ≤ 140737488355328) (hcell : xs.all AV.cell = true) (hnil : ks = [] → 0 < m) :
    ∃ b cap w' N', (Builtin.append_ #[t, t] ty #[vs, vx]).run P w = .ok (.slice (some ⟨b, 0, none⟩) (n + m) cap) w' ∧ fresh b (minus σ.heap ks) ∧ n + m ≤ cap ∧ cap ≤ maxLen ∧ Rel c N' { σ with heap := (b, .row e (cap * sz) (cs ++ xs)) :: minus σ.heap ks } a w' := by
  obtain ⟨hxl, hxc⟩ := addA_cells hr h0 hx ha
  obtain ⟨zl, hz1, hz2⟩ := Option.map_eq_some_iff.1 hz
  obtain ⟨i, z, hi, hiz, hzs, _⟩ := hT.zero hz1
  obtain ⟨i', hi', his⟩ := hT.size hsz
  rw [hi] at hi'; cases hi'
  obtain ⟨i', hi', hib⟩ := hT.bytes hby
  rw [hi] at hi'; cases hi'
  have hu := hT.elem he
  have hnm : n + m ≤ 140737488355328 := Nat.le_trans (Nat.le_mul_of_pos_right _ hb0) hfit
  have hU : Unch (fun _ => False) w w.drew := ⟨rfl, rfl, rfl, Nat.le_refl _, fun _ _ _ => rfl⟩
  have hrd : Rel c N σ a w.drew := hr.step hU (fun _ _ h => h) (fun _ h => h)
  have hL : Later N w w.drew := ⟨Nat.le_refl _, fun _ _ _ => rfl⟩
  have grown : ∀ (arr : Array Value), arr.size = (grownCap w (n + m) 0 e) * sz → True := fun _ _ => trivial
  -- a new block
  have newb : ∀ (old : Nat) (olds news : List Value), olds.length = n * sz → news.length = m * sz → cs.length = n * sz → (∀ (j : Nat) av, cs[j]? = some av → ∃ u, olds[j]? = some u ∧ RelV N w av u) → (∀ (j : Nat) av, xs[j]? = some av → ∃ u, news[j]? = some u ∧ RelV N w av u) →
      fresh w.heap.size (minus σ.heap ks) ∧ ∃ N', Rel c N' { σ with heap := (w.heap.size, .row e (grownCap w (n + m) old e * sz) (cs ++ xs)) :: minus σ.heap ks } a
        (w.drew.alloc (.cells (olds.toArray ++ news.toArray ++ Builtin.zeroCells z.cells (grownCap w (n + m) old e - (n + m))) e)) := by
    intro old olds news ho hn hcs hco hcn
    have hcap := cap_le (w := w) (need := n + m) (old := old) (e := e) (by omega)
    have hz3 : (Builtin.zeroCells z.cells (grownCap w (n + m) old e - (n + m))).size = (grownCap w (n + m) old e - (n + m)) * sz := by rw [size_zeroCells]; congr 1; omega
    have hsize : (olds.toArray ++ news.toArray ++ Builtin.zeroCells z.cells (grownCap w (n + m) old e - (n + m))).size = grownCap w (n + m) old e * sz := by
      simp only [Array.size_append, List.size_toArray, ho, hn, hz3]
      rw [← Nat.add_mul, ← Nat.add_mul]; congr 1; omega
    have hle : (cs ++ xs).length ≤ grownCap w (n + m) old e * sz := by
      simp only [List.length_append, hcs, hxl]
      rw [← Nat.add_mul]; exact Nat.mul_le_mul_right _ hcap.1
    obtain ⟨hf, hra⟩ := hrd.alloc (t := e) (cs := cs ++ xs) hsize hle (by
      intro j av hj
      by_cases h1 : j < cs.length
      · rw [List.getElem?_append_left h1] at hj
        obtain ⟨u, h2, h3⟩ := hco j av hj
        refine ⟨u, ?_, h3.mono hL (fun _ _ h => h)⟩
        rw [Array.getElem?_append_left (by simp; omega), Array.getElem?_append_left (by simp; omega)]
        simpa using h2
      · rw [List.getElem?_append_right (by omega)] at hj
        obtain ⟨u, h2, h3⟩ := hcn _ av hj
        have h4 : j - cs.length < news.length := by
          rcases Nat.lt_or_ge (j - cs.length) news.length with h' | h'
          · exact h'
          · rw [List.getElem?_eq_none h'] at h2; cases h2
        refine ⟨u, ?_, h3.mono hL (fun _ _ h => h)⟩
        rw [Array.getElem?_append_left (by simp; omega), Array.getElem?_append_right (by simp; omega)]
        simp only [List.size_toArray, ho, ← hcs]
        simpa using h2)
    refine ⟨fun h => hf ?_, _, hra.weak minus_weak⟩
    obtain ⟨o, ho⟩ := mem_keys_get h
    exact get_mem_keys (get_minus ho).2
  cases hs <;> simp only [ownA] at ho <;> try (cases ho; done)
  case nil =>
    cases ho
    have hm0 := hnil rfl
    rcases hxc with ⟨_, h⟩ | ⟨ad, cap, us, rfl, hul, huc, hur⟩
    · omega
    · obtain ⟨hf, N', hra⟩ := newb 0 [] us (by simp) hul (by simp) (fun j av h => by simp at h) hur
      have hrun := run_append_nil (P := P) w t ty e i z hu hi hiz ad m cap us (by rw [hul, his]) huc hm0 (by omega) (by rw [hib]; simp at hfit; omega)
      have hcap := cap_le (w := w) (need := 0 + m) (old := 0) (e := e) (by omega)
      refine ⟨w.heap.size, _, _, N', ?_, hf, hcap.1, hcap.2, hra⟩
      simp only [Nat.zero_add] at hrun ⊢
      simpa using hrun
  case ref b n' cap hc hm =>
    split at ho
    · rename_i u size cs' hg
      split at ho
      · rename_i hcond
        obtain ⟨rfl, rfl, hlen⟩ := hcond
        cases ho
        obtain ⟨hNb, hMb, arr, h1, h2, h3, h4⟩ := hr.heap b _ hg
        have hfresh : fresh b (minus σ.heap [b]) := by
          intro h
          obtain ⟨o, ho⟩ := mem_keys_get h
          exact (get_minus ho).1 (by simp)
        rcases hxc with ⟨rfl, rfl⟩ | ⟨ad, cap2, us, rfl, hul, huc, hur⟩
        · refine ⟨b, cap, w, N, ?_, hfresh, by omega, hm, ?_⟩
          · have : n ≤ cap := hc
            simp [Builtin.append_, run_underlying hu, sizeOf, typeInfo, hi, Builtin.lenOf, this, run_firstCells_none, storeCells]
          · have hxs : xs = [] := List.eq_nil_of_length_eq_zero (by simpa using hxl)
            subst hxs
            simp only [List.append_nil]
            refine hr.weak ⟨rfl, fun _ _ h => h, fun k o' h => ?_⟩
            simp only [getk] at h
            split at h
            · rename_i e; subst e; cases h; exact hg
            · exact (get_minus h).2
        · by_cases hroom : n + m ≤ cap
          · have hle : (n + m) * sz ≤ cap * sz := Nat.mul_le_mul_right _ hroom
            rw [Nat.add_mul] at hle
            have hrun := run_append_room (P := P) w t ty u i hu hi b n cap arr h1 ad m cap2 us (by rw [hul, his]) huc (all_one (by omega) hur hcell) hroom (by rw [his]; omega)
            rw [his] at hrun
            refine ⟨b, cap, _, N, hrun, hfresh, hroom, hm, ?_⟩
            have hst := hr.store hg (cs' := cs ++ xs) (arr := (arr.toList.take (n * sz) ++ us ++ arr.toList.drop (n * sz + us.length)).toArray) (by simp; omega) (by simp [hlen, hxl]; omega) (by
              intro j av hj
              simp only [List.getElem?_toArray, List.append_assoc]
              by_cases h5 : j < cs.length
              · rw [List.getElem?_append_left h5] at hj
                obtain ⟨v, h6, h7⟩ := h4 j av hj
                refine ⟨v, ?_, h7⟩
                rw [List.getElem?_append_left (by simp; omega), List.getElem?_take, if_pos (by omega)]
                simpa using h6
              · rw [List.getElem?_append_right (by omega)] at hj
                obtain ⟨v, h6, h7⟩ := hur _ av hj
                have h8 : j - cs.length < us.length := by
                  rcases Nat.lt_or_ge (j - cs.length) us.length with h' | h'
                  · exact h'
                  · rw [List.getElem?_eq_none h'] at h6; cases h6
                refine ⟨v, ?_, h7⟩
                rw [List.getElem?_append_right (by simp; omega)]
                have : min (n * sz) arr.toList.length = cs.length := by simp; omega
                simp only [List.length_take, this]
                rw [List.getElem?_append_left h8]; exact h6)
            refine hst.weak ⟨rfl, fun _ _ h => h, fun k o' h => ?_⟩
            simp only [getk] at h
            rw [get_upd]
            split at h
            · rename_i e; subst e; cases h; rw [if_pos rfl, hg]; rfl
            · rename_i e; rw [if_neg (fun h => e h.symm)]; exact (get_minus h).2
          · obtain ⟨hf, N', hra⟩ := newb cap (arr.toList.take (n * sz)) us (by simp; omega) hul hlen (by
              intro j av hj
              obtain ⟨v, h5, h6⟩ := h4 j av hj
              have : j < n * sz := by
                rw [← hlen]
                rcases Nat.lt_or_ge j cs.length with h' | h'
                · exact h'
                · rw [List.getElem?_eq_none h'] at hj; cases hj
              refine ⟨v, ?_, h6⟩
              rw [List.getElem?_take, if_pos this]
              simpa using h5) hur
            have hcap := cap_le (w := w) (need := n + m) (old := cap) (e := u) (by omega)
            have hrun := run_append_grow (P := P) w t ty u i z hu hi hiz ⟨b, 0, none⟩ n cap (arr.toList.take (n * sz)) (by rw [his]; simp; omega) (by
              intro j v hv
              rw [List.getElem?_take] at hv
              split at hv
              · rw [add_none _ _ rfl]; simp only [World.cell?, h1]; simpa using hv
              · cases hv) ad m cap2 us (by rw [hul, his]) huc (by omega) (by omega) (growslice_fits (by omega) (by rw [hib]; exact hfit))
            exact ⟨w.heap.size, _, _, N', hrun, hf, hcap.1, hcap.2, hra⟩
      · cases ho
    · cases ho

end
end Go.Ab
