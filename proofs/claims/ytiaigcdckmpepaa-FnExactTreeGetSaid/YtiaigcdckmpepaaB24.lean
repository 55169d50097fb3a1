/- Copying a list of texts into one that is owned; the conditions stand in each theorem. -/
import Derived.Test.YtiaigcdckmpepaaB14
import Derived.Test.YtiaigcdckmpepaaB11
import Derived.Laws.CopyRow
/-! Copies. -/
set_option linter.unusedVariables false
set_option linter.unusedSimpArgs false
set_option maxRecDepth 100000
namespace Go.Bb
section
variable {P : Program} {T : Tab} {c : Cx} {F : Nat → Nat → Prop} {o : Oper} {σ : St} {K : St → Prop} {N : Nat → Prop} {a : Act} {w : World} {all r : List Oper}
variable {d : Option Tmp} {ty : TypeId} {pos : String} {af : Array Edge} {g : Option (Nat × Bool)}

theorem o_copyS (hT : TabOk P T) {dT sT e q : Nat} {u : TypeId} {pv : Value} {x y : Operand} {z : Bool} {rows : List (List AV)} {l : List (List UInt8)} (hx : ∃ k, evA σ x = some (.hd k pv)) (hh : getk q σ.heap = some (pv, .osl u 1 rows)) (hy : evA σ y = some (.sl z (l.map encS)))
    (he : T.elem dT = some e) (hs : T.size e = some 1) (hl : rows.length = l.length) (hne : l ≠ []) (hd : dok d σ.nt = true)
    (hK : K ({ σ with heap := (q, (pv, .osl u 1 (l.map encS))) :: minus σ.heap [q] }.put d (.int .i64 l.length))) : OpOk P c ⟨d, .call ⟨.builtin .copy, #[x, y], #[dT, sT]⟩, ty, pos, af, g⟩ σ K := by
  intro F N a w hr next Q hn
  obtain ⟨k, hx⟩ := hx
  have hp := evA_rel hr hx
  have hp2 := evA_rel hr hy
  generalize hv : a.eval x = vx at hp
  generalize hv2 : a.eval y = vy at hp2
  have hqk := get_mem_keys hh
  have ho := hr.heap.own q _ _ hh
  have hone := hr.heap.one q _ _ hh
  have hpos : 0 < l.length := List.length_pos_iff.2 hne
  cases hp with
  | hd _ _ _ =>
    generalize hrs : List.map encS l = rs at hp2
    have hrl0 : rs.length = l.length := by rw [← hrs]; simp
    cases hp2 with
    | slNil => simp at hrl0; omega
    | sl _ _ ad scap sz uu hsp hcc hmx2 g1 g2 g3 g4 =>
      subst hrs
      have hsz1 : sz = 1 := by
        have := g1 0 (encS l[0]) (by simp [hpos])
        simpa [encS] using this.symm
      subst hsz1
      cases ho with
      | frz _ _ _ h => cases h
      | osl0 => simp at hl; omega
      | osl _ _ _ _ b cap arr G uo hb hhb hsz hlc hmx hrl hG hdj hcc2 ho =>
        have hcellv : ∀ (j : Nat) (h : j < l.length), w.cell? (ad.add j) = some (uu j 0) ∧ RelV N w (.str l[j]) (uu j 0) := by
          intro j hj
          have hrow : (l.map encS)[j]? = some (encS l[j]) := by simp [hj]
          have c1 := (g2 j _ 0 (.str l[j]) hrow rfl).2
          have c2 := g3 j _ 0 (.str l[j]) hrow rfl
          refine ⟨?_, c2⟩
          have hs0 := hsp (by rw [hrl0]; exact hpos)
          obtain ⟨bk, off, spot⟩ := ad
          simp only at hs0
          subst hs0
          rw [add_none _ _ rfl]
          simpa using c1
        have hcslen : ((List.range l.length).map fun j => uu j 0).length = l.length := by simp
        have hrun := run_copy_row (P := P) w dT sT ty e b 0 rows.length cap ad (l.map encS).length scap arr u ((List.range l.length).map fun j => uu j 0)
          (hT.elem he) (by obtain ⟨i, h1, h2⟩ := hT.size hs; rw [h1]; simp [h2]) hhb (by rw [hcslen, hrl0, hl]; simp) (fun j v hj => by
            rw [List.getElem?_map] at hj
            obtain ⟨i, hi, rfl⟩ := Option.map_eq_some_iff.1 hj
            have hlt : j < l.length := by
              rcases Nat.lt_or_ge j l.length with h | h
              · exact h
              · rw [List.getElem?_eq_none (by simpa using h)] at hi; cases hi
            rw [List.getElem?_range hlt] at hi
            cases hi
            exact (hcellv j hlt).1) (by rw [hcslen]; omega) (fun v hv => by
            obtain ⟨j, hj, rfl⟩ := List.mem_map.1 hv
            have := (hcellv j (List.mem_range.1 hj)).2
            generalize uu j 0 = q0 at this
            cases this; rfl)
        rw [hcslen] at hrun
        generalize hcs : ((List.range l.length).map fun j => uu j 0) = cs at hrun hcslen
        have hcsget : ∀ j, j < l.length → cs[j]? = some (uu j 0) := fun j hj => by
          rw [← hcs, List.getElem?_map, List.getElem?_range hj]; rfl
        unfold Oper.wp
        have hex : (execOp a.eval ⟨d, .call ⟨.builtin .copy, #[x, y], #[dT, sT]⟩, ty, pos, af, g⟩).run P w = .ok (.value (goInt l.length)) (w.setRow b (arr.toList.take 0 ++ cs ++ arr.toList.drop (0 + l.length)).toArray) := by
          simp only [execOp, resolve]
          simp [invoke, builtin, hv, hv2]
          simp at hrun
          rw [hrun]
          rfl
        rw [hex]
        have hother : ∀ j, j ≠ b → (w.setRow b (arr.toList.take 0 ++ cs ++ arr.toList.drop (0 + l.length)).toArray).heap[j]? = w.heap[j]? := fun j hj => setRow_other w b j _ hj
        refine hn _ _ _ _ _ hK ((hr.repl [q] q (v := .slice (some ⟨b, 0, none⟩) rows.length cap) (av := .osl u 1 (l.map encS)) (w' := w.setRow b (arr.toList.take 0 ++ cs ++ arr.toList.drop (0 + l.length)).toArray) (S := F q) ?_ rfl rfl rfl (by simp) (fun j hj hF => hother j (fun e => hF q (by simp) hqk (e ▸ hb))) (fun j hj => .inl ⟨q, by simp, hqk, hj⟩) rfl (fun N' hN => ?_)).put (dok_ok hd) (.int _ _))
        · unfold has; rw [List.contains_eq_mem]; simp only [decide_eq_false_iff_not]
          intro h; exact (mem_minus h).1 (by simp)
        · have hL : Later N w (w.setRow b (arr.toList.take 0 ++ cs ++ arr.toList.drop (0 + l.length)).toArray) := ⟨by simp, fun j hj hNj => hother j (fun e => hNj (e ▸ (hr.heap.foot q hqk b hb).1))⟩
          have hrow1 : ∀ (p : Nat) (row : List AV) (j : Nat) av, (l.map encS)[p]? = some row → row[j]? = some av → ∃ h : p < l.length, j = 0 ∧ av = .str l[p] := by
            intro p row j av hp hj
            rw [List.getElem?_map] at hp
            obtain ⟨t, ht, rfl⟩ := Option.map_eq_some_iff.1 hp
            obtain ⟨hlt, rfl⟩ := List.getElem?_eq_some_iff.1 ht
            refine ⟨hlt, ?_⟩
            match j, hj with
            | 0, hj => cases hj; exact ⟨rfl, rfl⟩
          have hlen2 : rows.length = (l.map encS).length := by rw [hl]; simp
          rw [hlen2]
          refine .osl _ _ _ _ b cap (arr.toList.take 0 ++ cs ++ arr.toList.drop (0 + l.length)).toArray (fun _ _ _ => False) (fun p j => uu p 0) hb (setRow_heap w b arr _ u (0, 0) hhb) ?_ (by simp; omega) hmx ?_ (fun p j k h => h.elim) (fun p j p' j' k h _ => h.elim) (fun p row j av hp hj => ?_) (fun p row j av hp hj => ?_)
          · simp only [List.size_toArray, List.length_append, List.length_take, List.length_drop, hcslen, Array.length_toList, hsz]
            omega
          · intro p row hp
            rw [List.getElem?_map] at hp
            obtain ⟨t, ht, rfl⟩ := Option.map_eq_some_iff.1 hp
            rfl
          · obtain ⟨hlt, rfl, rfl⟩ := hrow1 p row j av hp hj
            simp only [List.getElem?_toArray, List.take_zero, List.nil_append, Nat.mul_one, Nat.add_zero]
            rw [List.getElem?_append_left (by rw [hcslen]; exact hlt)]
            exact hcsget p hlt
          · obtain ⟨hlt, rfl, rfl⟩ := hrow1 p row j av hp hj
            exact .frz _ _ _ ((hcellv p hlt).2.mono hL hN)
end
end Go.Bb
