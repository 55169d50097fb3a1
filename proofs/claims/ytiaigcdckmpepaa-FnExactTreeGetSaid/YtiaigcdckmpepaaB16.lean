/- A text's bytes appended to what is owned; calls that are handed a variable and the slice in it; the conditions stand in each theorem. -/
import Derived.Test.YtiaigcdckmpepaaB14
import Derived.Lib.AppendStr
/-! Texts appended; two things handed over. -/
set_option linter.unusedVariables false
set_option linter.unusedSimpArgs false
namespace Go.Bb

/-- The bytes of a text, as whole numbers. -/
def toI (s : List UInt8) : List Int := s.map fun b => (b.toNat : Int)

section
variable {P : Program} {T : Tab} {c : Cx} {F : Nat → Nat → Prop} {o : Oper} {σ : St} {K : St → Prop} {N : Nat → Prop} {a : Act} {w : World} {all r : List Oper}
variable {d : Option Tmp} {ty : TypeId} {pos : String} {af : Array Edge} {g : Option (Nat × Bool)}

theorem strCells_flat (s : List UInt8) : Lib.strCells ⟨s.toArray⟩ = flat (fun i _ => ((toI s)[i]?.map (Value.int .u8)).getD undef) s.length 1 := by
  apply List.ext_getElem?
  intro k
  by_cases hk : k < s.length
  · have h := flat_get (u := fun i _ => ((toI s)[i]?.map (Value.int .u8)).getD undef) (n := s.length) (sz := 1) hk Nat.zero_lt_one
    rw [Nat.mul_one, Nat.add_zero] at h
    rw [h]
    simp [Lib.strCells, toI, hk]
  · rw [List.getElem?_eq_none (by rw [Lib.strCells_length]; simp [ByteArray.size]; omega), List.getElem?_eq_none (by rw [flat_length]; omega)]

theorem appendStr_run (hT : TabOk P T) {t u e ty : Nat} {l : List Int} {v : Value} {S : Nat → Prop} (he : T.elem t = some e) (hsz : T.size e = some 1) (hby : T.bytes e = some 1) (hz : T.zero e = some [.int .u8 0]) (hg : T.agg e = some false) (hu : T.kind u = some .string)
    (hs : OwnV N w S (.osl e 1 (l.map (encI .u8))) v) (s : List UInt8) (hfit : l.length + s.length ≤ 140737488355328) :
    ∃ v' w', (Builtin.append_ #[t, u] ty #[v, .string ⟨s.toArray⟩]).run P w = .ok v' w' ∧ v'.oneCell' = true ∧ w'.os = w.os ∧ w'.tape = w.tape ∧ w'.output = w.output ∧ w.heap.size ≤ w'.heap.size ∧ (∀ k, k < w.heap.size → ¬ S k → w'.heap[k]? = w.heap[k]?) ∧
      ∃ S' : Nat → Prop, (∀ k, S' k → S k ∨ (w.heap.size ≤ k ∧ k < w'.heap.size)) ∧ ∀ N', OwnV N' w' S' (.osl e 1 ((l ++ toI s).map (encI .u8))) v' := by
  obtain ⟨i, z, hi, hiz, hzv⟩ := hT.whole (av := .int .u8 0) hz hg rfl
  have hz0 : z = .int .u8 0 := by have := hzv N w; cases this; rfl
  subst hz0
  obtain ⟨i', hi', his⟩ := hT.size hsz
  rw [hi] at hi'; cases hi'
  obtain ⟨i', hi', hib⟩ := hT.bytes hby
  rw [hi] at hi'; cases hi'
  have ht := hT.elem he
  obtain ⟨d2, hu2, hu2'⟩ := hT.kind hu
  have hd2 : d2 = .string := by cases d2 <;> simp [shOf] at hu2' <;> rfl
  subst hd2
  obtain ⟨G, uu, hown, hSb, hrl, hG, hdG, hoG⟩ := own_row hs
  have hlen : (l.map (encI .u8)).length = l.length := by simp
  rw [hlen] at hown
  have hss : (⟨s.toArray⟩ : ByteArray).size = s.length := by simp [ByteArray.size]
  obtain ⟨v', w', hrun, hown', hgrow, hnil⟩ := Lib.run_append_own_string (P := P) w 0 t u ty e i ht hu2 hi hiz his hib v l.length _ hown ⟨s.toArray⟩ (by rw [hss]; unfold maxLen; omega) (by rw [hss]; exact hfit) (Nat.zero_le _)
  rw [strCells_flat, hss, flat_append] at hown'
  have hone : v'.oneCell' = true := by
    rcases hown'.2 with ⟨rfl, _⟩ | ⟨g, cap, cur, rfl, _⟩ <;> rfl
  have hwhere : ∀ g, v'.ownBlock = some g → v.ownBlock = some g ∨ w.heap.size ≤ g := by
    intro g hg
    rcases hown.2 with ⟨rfl, hn0⟩ | ⟨gb, cap, cur, rfl, _, hhb, hn, hm, hs', ht'⟩
    · by_cases h00 : s.length = 0
      · have := hnil.2 ⟨rfl, by rw [hss]; exact h00⟩
        subst this
        simp [Value.ownBlock] at hg
      · have hr2 := run_append_nil_string (P := P) w t u ty e i (.int .u8 0) ht hu2 hi hiz ⟨s.toArray⟩ (by rw [hss]; omega) (by rw [hss]; omega) (by rw [hss, hib]; omega)
        rw [hrun] at hr2
        cases hr2
        simp [Value.ownBlock] at hg
        omega
    · by_cases hroom : l.length + s.length ≤ cap
      · have hr2 := Lib.run_append_room_string (P := P) w t u ty e i ht hu2 hi his gb l.length cap cur hhb ⟨s.toArray⟩ (by rw [hss]; exact hroom) (by rw [hss]; omega)
        rw [hrun] at hr2
        cases hr2
        exact .inl hg
      · have hr2 := Lib.run_append_grow_string (P := P) w t u ty e i (.int .u8 0) ht hu2 hi hiz ⟨gb, 0, none⟩ l.length cap (flat uu l.length 1) (by rw [flat_length, his]) (fun j x hj => by
          rw [← ht', List.getElem?_take] at hj
          split at hj
          · rw [add_none _ _ rfl]; simp only [World.cell?, hhb]; simpa using hj
          · cases hj) ⟨s.toArray⟩ (by rw [hss]; omega) (by rw [hss]; omega) (by rw [hss, hib]; exact growslice_fits (by omega) (by omega))
        rw [hrun] at hr2
        cases hr2
        simp [Value.ownBlock] at hg
        omega
  refine ⟨v', w', hrun, hone, hgrow.os, hgrow.tape, hgrow.output, hgrow.size, fun k hk hS => hgrow.block k hk (fun e => hS (hSb k e.symm)), fun k => some k = v'.ownBlock, fun k hk => ?_, fun N' => ?_⟩
  · rcases hwhere k hk.symm with h1 | h1
    · exact .inl (hSb k h1)
    · exact .inr ⟨h1, (hown'.lt k hk.symm).2⟩
  · have e2 : ((l ++ toI s).map (encI .u8)).length = l.length + s.length := by simp [toI]
    refine own_mk (G := fun _ _ _ => False) (u := fun i j => if i < l.length then uu i j else ((toI s)[i - l.length]?.map (Value.int .u8)).getD undef) (by rw [e2]; exact hown') (fun g hg => hg.symm) (fun i row hi => ?_) (fun _ _ _ h => h.elim) (fun _ _ _ _ _ h => h.elim) (fun i row j av hi hj => ?_)
    · rw [List.getElem?_map] at hi
      obtain ⟨x, _, rfl⟩ := Option.map_eq_some_iff.1 hi
      rfl
    · rw [List.getElem?_map] at hi
      obtain ⟨x, hx, rfl⟩ := Option.map_eq_some_iff.1 hi
      have hj0 : j = 0 := by
        rcases Nat.eq_zero_or_pos j with h | h
        · exact h
        · rw [List.getElem?_eq_none (by simp [encI]; omega)] at hj; cases hj
      subst hj0
      simp [encI] at hj
      subst hj
      rw [List.getElem?_append] at hx
      split at hx
      · rename_i hlt
        simp only [hlt, if_true]
        have h1 := hoG i (encI .u8 x) 0 (.int .u8 x) (by rw [List.getElem?_map, hx]; rfl) rfl
        generalize uu i 0 = y at h1
        cases h1 with
        | frz _ _ _ h => cases h; exact .frz _ _ _ (.int _ _)
      · rename_i hlt
        simp only [hlt, if_false, hx, Option.map_some, Option.getD_some]
        exact .frz _ _ _ (.int _ _)

theorem append_execS {t u : TypeId} {x y : Operand} {v : Value} {w' : World} (h : (Builtin.append_ #[t, u] ty #[a.eval x, a.eval y]).run P w = .ok v w') :
    (execOp a.eval ⟨d, .call ⟨.builtin .append, #[x, y], #[t, u]⟩, ty, pos, af, g⟩).run P w = .ok (.value v) w' := by
  simp only [execOp, resolve]
  simp [invoke, builtin, h]

theorem o_appendStr (hT : TabOk P T) {t u e q k : Nat} {x y : Operand} {v : Value} {l l3 : List Int} {s : List UInt8} (hx : ∃ n, evA σ x = some (.hd n v)) (hh : getk q σ.heap = some (v, .osl e 1 (l.map (encI .u8)))) (hy : evA σ y = some (.str s))
    (he : T.elem t = some e) (hsz : T.size e = some 1) (hby : T.bytes e = some 1) (hz : T.zero e = some [.int .u8 0]) (hg : T.agg e = some false) (hu : T.kind u = some .string) (hl : l ++ toI s = l3) (hk : has k (minus σ.heap [q]) = false) (hd : dok d σ.nt = true)
    (hfit : l3.length * 1 ≤ 140737488355328)
    (hK : ∀ v', K ({ σ with heap := (k, (v', .osl e 1 (l3.map (encI .u8)))) :: minus σ.heap [q] }.put d (.hd k v'))) : OpOk P c ⟨d, .call ⟨.builtin .append, #[x, y], #[t, u]⟩, ty, pos, af, g⟩ σ K := by
  intro F N a w hr next Q hn
  subst hl
  obtain ⟨n1, hx⟩ := hx
  have h1 := evA_rel hr hx
  have h2 := evA_rel hr hy
  have e1 : a.eval x = v := by generalize a.eval x = z at h1; cases h1; rfl
  have e2 : a.eval y = .string ⟨s.toArray⟩ := by generalize a.eval y = z at h2; cases h2; rfl
  have hqk := get_mem_keys hh
  obtain ⟨v', w', hrun, hone, hos, htp, hout, hsize, hkeep, S', hS', hown⟩ := appendStr_run (ty := ty) hT he hsz hby hz hg hu (hr.heap.own q _ _ hh) s (by simp [toI] at hfit; omega)
  have := hr.repl [q] k (v := v') (av := .osl e 1 ((l ++ toI s).map (encI .u8))) (w' := w') (S := S') hk hos htp hout hsize (fun j hj hF => hkeep j hj (hF q (by simp) hqk)) (fun b hb => by
    rcases hS' b hb with h | h
    · exact .inl ⟨q, by simp, hqk, h⟩
    · exact .inr h) hone (fun N' _ => hown N')
  unfold Oper.wp
  rw [append_execS (by rw [e1, e2]; exact hrun)]
  exact hn _ _ _ _ _ (hK v') (this.put (dok_ok hd) (.hd _ _ hone))

/-- A call that is handed a variable and the slice in it, and hands both back. -/
theorem o_callB {fn : FuncId} {avs avs1 : List AV} {r0 ad ad' : AV} {q y b tB t sz : Nat} {v : Value} {rows rows' : List (List AV)} (hcore : Core P c σ o fn avs)
    (hS : Does P fn avs1 [(0, (.pointer (some ⟨b, 0, none⟩), .optr tB [ad, .hd y v])), (1, (v, .osl t sz rows))] (fun r h' => r = r0 ∧ ∃ v', h' = [(0, (.pointer (some ⟨b, 0, none⟩), .optr tB [ad', .hd y v'])), (1, (v', .osl t sz rows'))]))
    (hargs : WkL [] avs1 avs) (hq : getk q σ.heap = some (.pointer (some ⟨b, 0, none⟩), .optr tB [ad, .hd y v])) (hy : getk y σ.heap = some (v, .osl t sz rows)) (hqy : (q == y) = false) (hd : dok o.dst σ.nt = true)
    (hK : ∀ v', K ({ σ with heap := (q, (.pointer (some ⟨b, 0, none⟩), .optr tB [ad', .hd y v'])) :: (y, (v', .osl t sz rows')) :: minus σ.heap [q, y] }.put o.dst r0)) : OpOk P c o σ K := by
  have hne : q ≠ y := by simpa using hqy
  refine o_call [] [] [q, y] hcore hS trivial hargs ⟨hq, hy, trivial⟩ (by simp [hne]) (fun y h => by cases h) ?_
  rintro r h' ⟨rfl, v', rfl⟩
  refine ⟨r, [(q, _), (y, _)], .refl _, rfl, by simp [keys, hne], by simp [keys], fun x hx => ?_, .inl rfl, hd, hK v'⟩
  unfold has
  rw [List.contains_eq_mem]
  simp only [decide_eq_false_iff_not]
  intro h
  have := (mem_minus h).1
  simp [keys] at hx
  rcases hx with rfl | rfl <;> simp at this

/-- A call that is handed a variable and the slice in it, and keeps both. -/
theorem o_callE {fn : FuncId} {avs avs1 : List AV} {r0 ad : AV} {q y b tB t sz : Nat} {v : Value} {rows : List (List AV)} (hcore : Core P c σ o fn avs)
    (hS : Does P fn avs1 [(0, (.pointer (some ⟨b, 0, none⟩), .optr tB [ad, .hd y v])), (1, (v, .osl t sz rows))] (ret r0))
    (hargs : WkL [] avs1 avs) (hq : getk q σ.heap = some (.pointer (some ⟨b, 0, none⟩), .optr tB [ad, .hd y v])) (hy : getk y σ.heap = some (v, .osl t sz rows)) (hqy : (q == y) = false) (hd : dok o.dst σ.nt = true)
    (hK : K ({ σ with heap := minus σ.heap [q, y] }.put o.dst r0)) : OpOk P c o σ K := by
  have hne : q ≠ y := by simpa using hqy
  refine o_call [] [] [q, y] hcore hS trivial hargs ⟨hq, hy, trivial⟩ (by simp [hne]) (fun y h => by cases h) ?_
  rintro r h' ⟨rfl, rfl⟩
  exact ⟨r, [], .refl _, rfl, List.nodup_nil, List.nodup_nil, (fun x hx => by simp [keys] at hx), .inl rfl, hd, hK⟩
end
end Go.Bb
