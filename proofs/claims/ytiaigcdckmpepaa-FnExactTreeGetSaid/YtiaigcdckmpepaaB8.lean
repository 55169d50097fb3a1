/- Slices made, appended to, cut: the operations; the conditions stand in each theorem. -/
import Derived.Test.YtiaigcdckmpepaaB7
import Derived.Laws.BytesArg
/-! Slices of the call's own: operations. -/
set_option linter.unusedVariables false
set_option linter.unusedSimpArgs false
namespace Go.Bb

section
variable {P : Program} {T : Tab} {c : Cx} {F : Nat → Nat → Prop} {o : Oper} {σ : St} {K : St → Prop} {N : Nat → Prop} {a : Act} {w : World} {all r : List Oper}
variable {d : Option Tmp} {ty : TypeId} {pos : String} {af : Array Edge} {g : Option (Nat × Bool)}

theorem append_exec {t : TypeId} {x y : Operand} {v : Value} {w' : World} (h : (Builtin.append_ #[t, t] ty #[a.eval x, a.eval y]).run P w = .ok v w') :
    (execOp a.eval ⟨d, .call ⟨.builtin .append, #[x, y], #[t, t]⟩, ty, pos, af, g⟩).run P w = .ok (.value v) w' := by
  simp only [execOp, resolve]
  simp [invoke, builtin, h]

theorem o_appendH (hT : TabOk P T) {t e sz by_ q r k e2 : Nat} {x y : Operand} {v vz : Value} {rows rows2 rows' : List (List AV)} (hx : ∃ n, evA σ x = some (.hd n v)) (hh : getk q σ.heap = some (v, .osl e sz rows)) (hy : ∃ n, evA σ y = some (.hd n vz)) (hh2 : getk r σ.heap = some (vz, .osl e2 sz rows2)) (hqr : (q == r) = false)
    (he : T.elem t = some e) (hsz : T.size e = some sz) (hby : T.bytes e = some by_) (hz : (T.zero e).map List.length = some sz) (h0 : 0 < sz) (hb0 : 0 < by_) (hcell : ∀ row ∈ rows2, cellsOk row = true) (hrows : rows ++ rows2 = rows') (hk : has k (minus σ.heap [q, r]) = false) (hd : dok d σ.nt = true)
    (hfit : (rows.length + rows2.length) * by_ ≤ 140737488355328)
    (hK : ∀ v', K ({ σ with heap := (k, (v', .osl e sz rows')) :: minus σ.heap [q, r] }.put d (.hd k v'))) : OpOk P c ⟨d, .call ⟨.builtin .append, #[x, y], #[t, t]⟩, ty, pos, af, g⟩ σ K := by
  intro F N a w hr next Q hn
  subst hrows
  obtain ⟨n1, hx⟩ := hx
  obtain ⟨n2, hy⟩ := hy
  have h1 := evA_rel hr hx
  have h2 := evA_rel hr hy
  have e1 : a.eval x = v := by generalize a.eval x = z at h1; cases h1; rfl
  have e2 : a.eval y = vz := by generalize a.eval y = z at h2; cases h2; rfl
  have hqk := get_mem_keys hh
  have hrk := get_mem_keys hh2
  have hne : q ≠ r := by simpa using hqr
  obtain ⟨G2, hadd, hGS, hGd⟩ := addOk_own (hr.heap.own r _ _ hh2)
  obtain ⟨v', w', hrun, hone, hos, htp, hout, hsize, hkeep, S', hS', hown⟩ := append_run (ty := ty) hT he hsz hby hz (hr.heap.own q _ _ hh) hadd (S2 := F r) (fun i j k h => ⟨hGS i j k h, (hr.heap.foot r hrk k (hGS i j k h)).2⟩) hGd (fun k hk => hr.heap.disj q r hqk hrk hne k hk) (fun k hk => hr.heap.foot q hqk k hk) (fun k hk => (hr.heap.foot r hrk k hk).1) h0 hb0 hfit hcell
  have := hr.repl [q, r] k (v := v') (av := .osl e sz (rows ++ rows2)) (w' := w') (S := S') hk hos htp hout hsize (fun j hj hF => hkeep j hj (hF q (by simp) hqk)) (fun b hb => by
    rcases hS' b hb with h | h | h
    · exact .inl ⟨q, by simp, hqk, h⟩
    · exact .inl ⟨r, by simp, hrk, h⟩
    · exact .inr h) hone hown
  unfold Oper.wp
  rw [append_exec (by rw [e1, e2]; exact hrun)]
  exact hn _ _ _ _ _ (hK v') (this.put (dok_ok hd) (.hd _ _ hone))

theorem o_appendS {z : Bool} (hT : TabOk P T) {t e sz by_ q k : Nat} {x y : Operand} {v : Value} {rows rows2 rows' : List (List AV)} (hx : ∃ n, evA σ x = some (.hd n v)) (hh : getk q σ.heap = some (v, .osl e sz rows)) (hy : evA σ y = some (.sl z rows2))
    (he : T.elem t = some e) (hsz : T.size e = some sz) (hby : T.bytes e = some by_) (hz : (T.zero e).map List.length = some sz) (h0 : 0 < sz) (hb0 : 0 < by_) (hlen : ∀ row ∈ rows2, row.length = sz) (hcell : ∀ row ∈ rows2, cellsOk row = true) (hrows : rows ++ rows2 = rows') (hk : has k (minus σ.heap [q]) = false) (hd : dok d σ.nt = true)
    (hfit : (rows.length + rows2.length) * by_ ≤ 140737488355328)
    (hK : ∀ v', K ({ σ with heap := (k, (v', .osl e sz rows')) :: minus σ.heap [q] }.put d (.hd k v'))) : OpOk P c ⟨d, .call ⟨.builtin .append, #[x, y], #[t, t]⟩, ty, pos, af, g⟩ σ K := by
  intro F N a w hr next Q hn
  subst hrows
  obtain ⟨n1, hx⟩ := hx
  have h1 := evA_rel hr hx
  have h2 := evA_rel hr hy
  have e1 : a.eval x = v := by generalize a.eval x = z at h1; cases h1; rfl
  have hqk := get_mem_keys hh
  obtain ⟨v', w', hrun, hone, hos, htp, hout, hsize, hkeep, S', hS', hown⟩ := append_run (ty := ty) hT he hsz hby hz (hr.heap.own q _ _ hh) (addOk_sl h2 (fun i row hi => hlen row (List.mem_of_getElem? hi))) (S2 := fun _ => False) (fun i j k h => h.elim) (fun _ _ _ _ _ h => h.elim) (fun k hk h => h) (fun k hk => hr.heap.foot q hqk k hk) (fun k hk => hk.elim) h0 hb0 hfit hcell
  have := hr.repl [q] k (v := v') (av := .osl e sz (rows ++ rows2)) (w' := w') (S := S') hk hos htp hout hsize (fun j hj hF => hkeep j hj (hF q (by simp) hqk)) (fun b hb => by
    rcases hS' b hb with h | h | h
    · exact .inl ⟨q, by simp, hqk, h⟩
    · exact h.elim
    · exact .inr h) hone hown
  unfold Oper.wp
  rw [append_exec (by rw [e1]; exact hrun)]
  exact hn _ _ _ _ _ (hK v') (this.put (dok_ok hd) (.hd _ _ hone))

/-- A slice of the call's own in a new block. -/
theorem own_new {N' : Nat → Prop} {w' : World} {b cap : Nat} {t sz : Nat} {arr : Array Value} {rows : List (List AV)} (hh : w'.heap[b]? = some (.cells arr t (0, 0))) (hs : arr.size = cap * sz) (hl : rows.length ≤ cap) (hm : cap ≤ maxLen) (hr : ∀ (i : Nat) row, rows[i]? = some row → row.length = sz)
    (hc : ∀ (i : Nat) row (j : Nat) av, rows[i]? = some row → row[j]? = some av → ∃ u, arr[i * sz + j]? = some u ∧ RelV N' w' av u) : OwnV N' w' (fun k => k = b) (.osl t sz rows) (.slice (some ⟨b, 0, none⟩) rows.length cap) := by
  refine .osl _ t sz rows b cap arr (fun _ _ _ => False) (fun i j => (arr[i * sz + j]?).getD undef) rfl hh hs hl hm hr (fun _ _ _ h => h.elim) (fun _ _ _ _ _ h => h.elim) (fun i row j av hi hj => ?_) (fun i row j av hi hj => ?_)
  · obtain ⟨u, h1, h2⟩ := hc i row j av hi hj
    rw [h1]; rfl
  · obtain ⟨u, h1, h2⟩ := hc i row j av hi hj
    rw [h1]; exact .frz _ _ _ h2

theorem o_buildSlice (hT : TabOk P T) {t e n len k : Nat} {parts : Array (Nat × Operand)} {ps : List (Nat × AV)} {cs : List AV} {rows : List (List AV)} (he : T.elem t = some e) (hn : T.size e = some n) (hps : evParts σ parts.toList = some ps) (hcs : rowsLit n 0 ps = some cs) (h1 : ps.length = len) (h2 : cellsOk cs = true) (h3 : 0 < n) (h4 : len * n ≤ 2 ^ 24)
    (h5 : (T.zero e).map List.length = some n) (hrows : rowsC rows = cs) (hrl : rows.all (fun r => r.length == n) = true) (hlen : rows.length = len) (hk : has k σ.heap = false) (hd : dok d σ.nt = true)
    (hK : ∀ v', K ({ σ with heap := (k, (v', .osl e n rows)) :: σ.heap }.put d (.hd k v'))) : OpOk P c ⟨d, .buildSlice t len parts, ty, pos, af, g⟩ σ K := by
  intro F N a w hr next Q hnx
  obtain ⟨cells, h8, h9, h10⟩ := run_buildSlice hT hr he hn hps hcs h1 h2 h3 h4 h5
  have hrl' : ∀ r ∈ rows, r.length = n := fun r hr => by simpa using List.all_eq_true.1 hrl r hr
  obtain ⟨_, hfl⟩ := rowsC_get rows hrl'
  have hle : len ≤ maxLen := by
    have : len ≤ len * n := Nat.le_mul_of_pos_right _ h3
    unfold maxLen; omega
  subst hlen
  obtain ⟨F', N', hra⟩ := hr.alloc k (v := .slice (some ⟨w.heap.size, 0, none⟩) rows.length rows.length) (av := .osl e n rows) (ob := .cells cells e) hk rfl (fun N' hN => own_new (heap_new w _) h9.1 (Nat.le_refl _) hle (fun i row hi => hrl' row (List.mem_of_getElem? hi)) (fun i row j av hi hj => by
    have hj' : j < n := by
      rw [← hrl' row (List.mem_of_getElem? hi)]
      rcases Nat.lt_or_ge j row.length with h' | h'
      · exact h'
      · rw [List.getElem?_eq_none h'] at hj; cases hj
    have := hfl i row j hi hj'
    rw [hrows, hj] at this
    obtain ⟨u, h11, h12⟩ := h10 _ av this
    exact ⟨u, h11, h12.mono (later_alloc (N' := N) w _) hN⟩))
  unfold Oper.wp
  have hrun : (execOp a.eval ⟨d, .buildSlice t rows.length parts, ty, pos, af, g⟩).run P w = .ok (.value (.slice (some ⟨w.heap.size, 0, none⟩) rows.length rows.length)) (w.alloc (.cells cells e)) := by
    simp [execOp, h8]
  rw [hrun]
  exact hnx _ F' N' _ _ (hK _) (hra.put (dok_ok hd) (.hd _ _ rfl))

theorem o_makeSlice (hT : TabOk P T) {t e sz by_ k : Nat} {x y : Operand} {k1 k2 : IntKind} {n : Int} {z z' : List AV} (he : T.elem t = some e) (hsz : T.size e = some sz) (hby : T.bytes e = some by_) (hz : T.zero e = some z) (hx : evA σ x = some (.int k1 n)) (hy : evA σ y = some (.int k2 n)) (h4 : z.length = sz) (h5 : 0 < sz)
    (hk : has k σ.heap = false) (hd : dok d σ.nt = true) (h1 : 0 ≤ n) (h2 : by_ * n ≤ 281474976710656) (h3 : n ≤ 9223372036854775807) (hzw : WkL [] z' z)
    (hK : ∀ v', K ({ σ with heap := (k, (v', .osl e sz (List.replicate n.toNat z'))) :: σ.heap }.put d (.hd k v'))) : OpOk P c ⟨d, .makeSlice t x y, ty, pos, af, g⟩ σ K := by
  intro F N a w hr next Q hnx
  have hp := evA_rel hr hx
  have hp' := evA_rel hr hy
  generalize hv : a.eval x = vx at hp
  generalize hv' : a.eval y = vy at hp'
  cases hp; cases hp'
  obtain ⟨i, zv, hi, hiz, hzs, hzr⟩ := hT.zero hz
  obtain ⟨i', hi', hib⟩ := hT.bytes hby
  rw [hi] at hi'; cases hi'
  obtain ⟨i', hi', his⟩ := hT.size hsz
  rw [hi] at hi'; cases hi'
  let arr : Array Value := (Array.range (n.toNat * sz)).map (fun j => zv.cells[j % zv.cells.size]!)
  have hzsz : zv.cells.size = sz := by omega
  obtain ⟨F', N', hra⟩ := hr.alloc k (v := .slice (some ⟨w.heap.size, 0, none⟩) n.toNat n.toNat) (av := .osl e sz (List.replicate n.toNat z')) (ob := .cells arr e) hk rfl (fun N' hN => by
    have := own_new (N' := N') (rows := List.replicate n.toNat z') (sz := sz) (cap := n.toNat) (heap_new w (.cells arr e)) (by simp [arr]) (by simp) (by unfold maxLen; omega) (fun i row hi => by rw [(List.mem_replicate.1 (List.mem_of_getElem? hi)).2, hzw.get.1]; exact h4) (fun i row j av hi hj => by
      have hrow : row = z' := (List.mem_replicate.1 (List.mem_of_getElem? hi)).2
      subst hrow
      have hj' : j < sz := by
        rw [← h4, ← hzw.get.1]
        rcases Nat.lt_or_ge j row.length with h' | h'
        · exact h'
        · rw [List.getElem?_eq_none h'] at hj; cases hj
      have hi' : i < n.toNat := by
        rcases Nat.lt_or_ge i (List.replicate n.toNat row).length with h' | h'
        · simpa using h'
        · rw [List.getElem?_eq_none h'] at hi; cases hi
      obtain ⟨av0, hj0, hwk⟩ := hzw.get.2 j av hj
      obtain ⟨v, h10, h11⟩ := hzr N' (w.alloc (.cells arr e)) j av0 hj0
      refine ⟨v, ?_, hwk.rel (fun _ _ h => by cases h) h11⟩
      have h6 : i * sz + j < n.toNat * sz := by
        have : (i + 1) * sz ≤ n.toNat * sz := Nat.mul_le_mul_right _ hi'
        rw [Nat.add_mul, Nat.one_mul] at this; omega
      have h7 : (i * sz + j) % sz = j := by rw [Nat.mul_comm, Nat.mul_add_mod, Nat.mod_eq_of_lt hj']
      simp only [arr, Array.getElem?_map, Array.getElem?_range, h6, if_true, Option.map_some, hzsz, h7]
      simp only [getElem!_def, h10])
    simpa using this)
  have hw : IntKind.i64.wrap n = n := IntWalk.i64_in n ⟨by omega, by omega⟩
  have hb : ¬ (281474976710656 < (i.bytes : Int) * n) := by rw [hib]; omega
  have hrun : (Instr.makeSlice t (.int k1 n) (.int k2 n)).run P w = .ok (.slice (some ⟨w.heap.size, 0, none⟩) n.toNat n.toNat) (w.alloc (.cells arr e)) := by
    have hn0 : ¬ (n < 0) := by omega
    by_cases h0 : n.toNat * sz = 0
    · have hr0 : Array.range 0 = #[] := rfl
      have harr : arr = #[] := by simp only [arr, h0, hr0, Array.map_empty]
      rw [harr]
      simp [Instr.makeSlice, run_underlying (hT.elem he), asInt, asIntOf, typeInfo, sizeOf, hi, hw, hn0, hb, his, h0, newRow, zeroValue, hr0]
    · simp [Instr.makeSlice, run_underlying (hT.elem he), asInt, asIntOf, typeInfo, sizeOf, hi, hw, hn0, hb, his, h0, newRow, zeroValue, hiz, arr]
  unfold Oper.wp
  have hrun' : (execOp a.eval ⟨d, .makeSlice t x y, ty, pos, af, g⟩).run P w = .ok (.value (.slice (some ⟨w.heap.size, 0, none⟩) n.toNat n.toNat)) (w.alloc (.cells arr e)) := by
    simp only [execOp, hv, hv']
    simp [hrun]
  rw [hrun']
  exact hnx _ F' N' _ _ (hK _) (hra.put (dok_ok hd) (.hd _ _ rfl))

/-- The first elements of what is owned. -/
theorem o_sliceH (hT : TabOk P T) {t e sz q k : Nat} {x : Operand} {lo hi : Option Operand} {v : Value} {rows rows' : List (List AV)} {j : Int} {jj : Option Int} (hx : ∃ n, evA σ x = some (.hd n v)) (hh : getk q σ.heap = some (v, .osl e sz rows)) (he : T.elem t = some e) (hsz : T.size e = some sz) (hlo : loA σ lo = some 0) (hhi : hiA σ hi = some jj) (hjj : jj.getD rows.length = j)
    (hm : rows.take j.toNat = rows') (hk : has k (minus σ.heap [q]) = false) (hd : dok d σ.nt = true) (h0 : 0 ≤ j) (h1 : j ≤ rows.length)
    (hK : ∀ v', K ({ σ with heap := (k, (v', .osl e sz rows')) :: minus σ.heap [q] }.put d (.hd k v'))) : OpOk P c ⟨d, .slice t x lo hi none, ty, pos, af, g⟩ σ K := by
  intro F N a w hr next Q hnx
  obtain ⟨n1, hx⟩ := hx
  have hv := evA_rel hr hx
  have e1 : a.eval x = v := by generalize a.eval x = z at hv; cases hv; rfl
  have hqk := get_mem_keys hh
  have ho := hr.heap.own q _ _ hh
  have step : ∀ v', v'.oneCell' = true → (execOp a.eval ⟨d, .slice t x lo hi none, ty, pos, af, g⟩).run P w = .ok (.value v') w → (∀ N', (∀ i, i < w.heap.size → N' i → N i) → OwnV N' w (F q) (.osl e sz rows') v') → Oper.wp P ⟨d, .slice t x lo hi none, ty, pos, af, g⟩ a w next Q := by
    intro v' hone hrun hown
    have := hr.repl [q] k (v := v') (av := .osl e sz rows') (w' := w) (S := F q) hk rfl rfl rfl (Nat.le_refl _) (fun _ _ _ => rfl) (fun b hb => .inl ⟨q, by simp, hqk, hb⟩) hone hown
    unfold Oper.wp
    rw [hrun]
    exact hnx _ _ _ _ _ (hK v') (this.put (dok_ok hd) (.hd _ _ hone))
  cases ho with
  | frz _ _ _ h => cases h
  | osl0 =>
    have hj0 : j = 0 := by simp at h1; omega
    subst hj0
    simp only [List.length_nil] at hjj
    have hb := fun w' => run_bounds (P := P) hr hlo hhi (len := 0) (Nat.le_refl 0) (b := true) (Int.le_refl 0) (by rw [hjj]; omega) (by rw [hjj]; omega) w'
    rw [hjj] at hb
    refine step nilV rfl ?_ (fun N' hN => by subst hm; exact .osl0 _ _ _)
    simp only [execOp, e1, Instr.sliceAt]
    simp only [Sem.run_bind, run_underlying (hT.elem he), Result.andThen_ok, Instr.slice, Option.map_none, hb, run_size hT hsz, Sem.run_pure]
    rfl
  | osl _ _ _ _ b cap arr G u hb hhb hsz' hl hm' hrl hG hdj hc ho =>
    have hbd := fun w' => run_bounds (P := P) hr hlo hhi (len := rows.length) hl (b := true) (Int.le_refl 0) (by rw [hjj]; exact h0) (by rw [hjj]; exact h1) w'
    rw [hjj] at hbd
    have hlen : (rows.take j.toNat).length = j.toNat := by simp; omega
    have hrun : (execOp a.eval ⟨d, .slice t x lo hi none, ty, pos, af, g⟩).run P w = .ok (.value (.slice (some ⟨b, 0, none⟩) j.toNat cap)) w := by
      simp only [execOp, e1, Instr.sliceAt]
      simp only [Sem.run_bind, run_underlying (hT.elem he), Result.andThen_ok, Instr.slice, Option.map_none, hbd, run_size hT hsz, Sem.run_pure]
      simp
      intro _
      rw [add_none _ _ rfl]
    refine step _ rfl hrun (fun N' hN => ?_)
    subst hm
    have := OwnV.osl (N := N') (w := w) (F q) e sz (rows.take j.toNat) b cap arr G u hb hhb hsz' (by rw [hlen]; omega) hm' (fun i row hi => by rw [List.getElem?_take] at hi; split at hi; exact hrl i row hi; cases hi) hG hdj (fun i row p av hi hp => by rw [List.getElem?_take] at hi; split at hi; exact hc i row p av hi hp; cases hi)
      (fun i row p av hi hp => by rw [List.getElem?_take] at hi; split at hi; exact (ho i row p av hi hp).mono (.refl N w) hN (fun _ _ _ => rfl); cases hi)
    rw [hlen] at this
    exact this

/-- A byte, as an element. -/
def encB (b : UInt8) : List AV := [.int .u8 b.toNat]
theorem strOfNums_map (l : List UInt8) : strOfNums (l.map fun b => (b.toNat : Int)) = ⟨l.toArray⟩ := by
  apply ByteArray.ext
  apply Array.ext'
  simp [strOfNums]
  rw [List.map_congr_left (g := id) (fun b _ => by simp)]; simp
theorem bytes_run (hT : TabOk P T) {s t e : TypeId} (he : T.elem s = some e) (hk : T.kind e = some (.int .u8)) (ht : T.kind t = some .string) {l : List UInt8} {v : Value} {w : World}
    (hv : (v = nilV ∧ l = []) ∨ (∃ ad cap, v = .slice (some ad) 0 cap ∧ l = []) ∨ ∃ b off cap, v = .slice (some ⟨b, off, none⟩) l.length cap ∧ ∀ (i : Nat) x, l[i]? = some x → w.cell? ⟨b, off + i, none⟩ = some (.int .u8 x.toNat)) : (convert s t v).run P w = .ok (.string ⟨l.toArray⟩) w := by
  obtain ⟨d1, h1, h1'⟩ := hT.kind hk
  have hd1 : d1 = .int .u8 := by cases d1 <;> simp [shOf] at h1' <;> rw [h1']
  subst hd1
  obtain ⟨d2, h2, h2'⟩ := hT.kind ht
  have hd2 : d2 = .string := by cases d2 <;> simp [shOf] at h2' <;> rfl
  subst hd2
  rcases hv with ⟨rfl, rfl⟩ | ⟨ad, cap, rfl, rfl⟩ | ⟨b, off, cap, rfl, hc⟩
  · rw [run_convert_bytes_nil w s e (hT.elem he) h1 0 0 t h2]
    rfl
  · rw [run_convert_bytes_string w s t e _ 0 cap (hT.elem he) h1 h2, run_bytesToString w ad 0 cap [] (by simpa using run_loadCells_list (P := P) w ad [] (fun j v h => by simp at h))]
    rfl
  · rw [run_convert_bytes_arg w s e (hT.elem he) h1 b off l.length cap (l.map fun b => (b.toNat : Int)) (by simp) (fun i hi => by rw [hc i l[i] (List.getElem?_eq_getElem hi)]; simp [List.getD, hi]) t h2, strOfNums_map]
theorem v_bytesL {z : Bool} (hT : TabOk P T) {s t e : TypeId} {x : Operand} {l : List UInt8} (hx : evA σ x = some (.sl z (l.map encB))) (he : T.elem s = some e) (hk : T.kind e = some (.int .u8)) (ht : T.kind t = some .string) (hd : dok d σ.nt = true) (hK : K (σ.put d (.str l))) : ValOk P c ⟨d, .convert s t x, ty, pos, af, g⟩ σ K :=
  mkV hd hK fun F N a w hr => by
    have hp := evA_rel hr hx
    have hlen := hp.len
    generalize hv : a.eval x = vx at hp
    refine ⟨.string ⟨l.toArray⟩, .str _ (by simpa using hlen), fun w' hw => ?_⟩
    have : (convert s t vx).run P w' = .ok (.string ⟨l.toArray⟩) w' := bytes_run hT he hk ht (by
      generalize hrows : l.map encB = rows at hp
      cases hp with
      | slNil => exact .inl ⟨rfl, by simpa using hrows⟩
      | sl _ _ ad cap sz u hs hc hm h1 h2 h3 h4 =>
        rcases Nat.eq_zero_or_pos rows.length with h0 | h0
        · have hl0 : l = [] := by
            have : rows = [] := List.eq_nil_of_length_eq_zero h0
            rw [this] at hrows; simpa using hrows
          subst hl0
          simp at hrows
          subst hrows
          exact .inr (.inl ⟨ad, cap, rfl, rfl⟩)
        · obtain ⟨b, off, sp⟩ := ad
          have hsp := hs h0
          simp only at hsp; subst hsp
          refine .inr (.inr ⟨b, off, cap, by rw [← hrows]; simp, fun i x hi => ?_⟩)
          have hrow : rows[i]? = some (encB x) := by rw [← hrows, List.getElem?_map, hi]; rfl
          have hsz := h1 i _ hrow
          have h4 := h2 i _ 0 _ hrow rfl
          have h5 := h3 i _ 0 _ hrow rfl
          have e1 : sz = 1 := by rw [← hsz]; rfl
          subst e1
          cases h5u : u i 0 with
          | int k n =>
            rw [h5u] at h5
            cases h5
            have := hw.cell h4.2
            rw [h5u] at this
            simpa using this
          | _ => rw [h5u] at h5; cases h5)
    simp [execOp, hv, this]
theorem v_bytesH (hT : TabOk P T) {s t e q e' sz : TypeId} {x : Operand} {v : Value} {l : List UInt8} (hx : ∃ n, evA σ x = some (.hd n v)) (hh : getk q σ.heap = some (v, .osl e' sz (l.map encB))) (he : T.elem s = some e) (hk : T.kind e = some (.int .u8)) (ht : T.kind t = some .string) (hd : dok d σ.nt = true) (hK : K (σ.put d (.str l))) : ValOk P c ⟨d, .convert s t x, ty, pos, af, g⟩ σ K :=
  mkV hd hK fun F N a w hr => by
    obtain ⟨n, hx⟩ := hx
    have hv := evA_rel hr hx
    have e1 : a.eval x = v := by generalize a.eval x = z at hv; cases hv; rfl
    have ho := hr.heap.own q _ _ hh
    have hlen : l.length ≤ maxLen := by
      generalize hrows : l.map encB = rows at ho
      have hll : rows.length = l.length := by rw [← hrows]; simp
      cases ho with
      | frz _ _ _ h => cases h
      | osl0 => simp at hll; omega
      | osl _ _ _ _ b cap arr G u hb hhb hsz hl hm => omega
    refine ⟨.string ⟨l.toArray⟩, .str _ hlen, fun w' hw => ?_⟩
    have : (convert s t v).run P w' = .ok (.string ⟨l.toArray⟩) w' := bytes_run hT he hk ht (by
      generalize hrows : l.map encB = rows at ho
      cases ho with
      | frz _ _ _ h => cases h
      | osl0 => exact .inl ⟨rfl, by simpa using hrows⟩
      | osl _ _ _ _ b cap arr G u hb hhb hsz hl hm h1 hG hdj hcc hoo =>
        refine .inr (.inr ⟨b, 0, cap, by rw [← hrows]; simp, fun i x hi => ?_⟩)
        have hrow : rows[i]? = some (encB x) := by rw [← hrows, List.getElem?_map, hi]; rfl
        have hsz' := h1 i _ hrow
        have h4 := hcc i _ 0 _ hrow rfl
        have h5 := hoo i _ 0 _ hrow rfl
        have e1 : sz = 1 := by rw [← hsz']; rfl
        subst e1
        have hcell : w.cell? ⟨b, 0 + i, none⟩ = some (u i 0) := by simp only [World.cell?, hhb]; simpa using h4
        generalize u i 0 = ui at h5 hcell
        cases h5 with
        | frz _ _ _ h5 => cases h5; exact hw.cell hcell)
    simp [execOp, e1, this]
end
end Go.Bb
