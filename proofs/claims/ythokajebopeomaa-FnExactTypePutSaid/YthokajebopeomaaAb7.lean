/- What each operation does to an abstract state it does in the machine; the conditions stand in each theorem. -/
import Derived.Test.YthokajebopeomaaAb7a
import Derived.IntWalk
set_option linter.unusedVariables false
set_option linter.unusedSimpArgs false
namespace Go.Ab

section
variable {P : Program} {T : Tab} {c : Cx} {o : Oper} {σ : St} {K : St → Prop} {N : Nat → Prop} {a : Act} {w : World} {next : Act → World → Prop} {Q : Exit → Act → World → Prop}

theorem addOff_rel {p q : AV} {v : Value} {n : Nat} (hp : RelV N w p v) (h : addOff p n = some q) : ∃ ad, v = .pointer (some ad) ∧ ad.spot = none ∧ RelV N w q (.pointer (some (ad.add n))) := by
  cases hp <;> simp only [addOff] at h <;> try (cases h; done)
  case ptr b off =>
    cases h
    exact ⟨_, rfl, rfl, by rw [add_none _ _ rfl]; exact .ptr _ _⟩
  case eptr cells ad u hs h2 h3 =>
    split at h
    · rename_i hn
      cases h
      refine ⟨ad, rfl, hs, ?_⟩
      rw [add_none _ _ hs]
      refine .eptr _ _ (fun j => u (n + j)) rfl (fun j av hj => ?_) (fun j av hj => ?_)
      · rw [List.getElem?_drop] at hj
        have := h2 _ av hj
        simpa [Nat.add_assoc] using this
      · rw [List.getElem?_drop] at hj
        exact h3 _ av hj
    · cases h

theorem run_fieldAddr (hT : TabOk P T) {t f n m : Nat} (h : T.foff t f = some (n, m)) (ad : Addr) (w : World) : (Instr.fieldAt t (.pointer (some ad)) f).run P w = .ok (.pointer (some (ad.add n))) w := by
  obtain ⟨fs, fd, i, h1, h2, h3, h4, h5, h6⟩ := hT.foff h
  have hs : (sizeOf fd.type).run P w = .ok m w := by simp [sizeOf, typeInfo, h4, h5]
  subst h3
  simp [Instr.fieldAt, Sem.run_bind, run_underlying h1, h2, Instr.sureAddr, fieldPlace, hs, h6]

theorem cur_rel {arr : Array Value} {cs vs : List AV} {us : List Value} {i : Nat} (h1 : cs.length ≤ arr.size) (hi : i + vs.length ≤ cs.length) (hl : us.length = vs.length) (hc : ∀ (j : Nat) av, cs[j]? = some av → ∃ u, arr[j]? = some u ∧ RelV N w av u)
    (hv : ∀ (j : Nat) x, vs[j]? = some x → ∃ u, us[j]? = some u ∧ RelV N w x u) :
    ∀ (j : Nat) av, (splice cs i vs)[j]? = some av → ∃ u, (splice arr.toList i us)[j]? = some u ∧ RelV N w av u := by
  intro j av hj
  simp only [splice, List.append_assoc] at hj ⊢
  by_cases h2 : j < i
  · rw [List.getElem?_append_left (by simp; omega), List.getElem?_take, if_pos h2] at hj ⊢
    simpa using hc j av hj
  · rw [List.getElem?_append_right (by simp; omega)] at hj ⊢
    simp only [List.length_take] at hj ⊢
    rw [show min i cs.length = i by omega] at hj
    rw [show min i arr.toList.length = i by simp; omega]
    by_cases h3 : j - i < vs.length
    · rw [List.getElem?_append_left h3] at hj
      rw [List.getElem?_append_left (by omega)]
      exact hv _ av hj
    · rw [List.getElem?_append_right (by omega)] at hj
      rw [List.getElem?_append_right (by omega)]
      simp only [List.getElem?_drop] at hj ⊢
      rw [hl]
      simpa using hc _ av hj

theorem splice_length {α : Type} {l m : List α} {i : Nat} (h : i + m.length ≤ l.length) : (splice l i m).length = l.length := by
  simp [splice]; omega

theorem run_build (hT : TabOk P T) (hr : Rel c N σ a w) {t : TypeId} {z cs : List AV} {parts : Array (Nat × Operand)} {ps : List (Nat × AV)} (hz : T.zero t = some z) (hs : structOk T t = true) (hps : evParts σ parts.toList = some ps)
    (hf : fillA (T.foff t) z ps = some cs) : ∃ cells, (∀ w', (Instr.build t (parts.map fun (i, x) => (i, a.eval x))).run P w' = .ok (.agg cells) w') ∧ cells.size = cs.length ∧ ∀ (j : Nat) av, cs[j]? = some av → ∃ u, cells[j]? = some u ∧ RelV N w av u := by
  obtain ⟨i, zv, h5, h6, h7, h8⟩ := hT.zero hz
  unfold structOk at hs
  split at hs
  · rename_i l hk
    obtain ⟨d, hd, hd'⟩ := hT.kind hk
    cases d <;> simp [shOf] at hd'
    rename_i fs
    subst hd'
    have hall : ∀ (l : List Field), (∀ f ∈ l, (T.size f.type).isSome = true) → ∃ places, l.mapM (fun f => (P.info? f.type).map fun i => (f.offset, i.size)) = some places ∧ ∀ (f o n : Nat), (l[f]?).bind (fun fd => (T.size fd.type).map fun n => (fd.offset, n)) = some (o, n) → places[f]? = some (o, n) := by
      intro l
      induction l with
      | nil => intro _; exact ⟨[], rfl, fun f o n h => by simp at h⟩
      | cons f l ih =>
        intro hl
        obtain ⟨places, h1, h2⟩ := ih (fun f hf => hl f (List.mem_cons_of_mem _ hf))
        obtain ⟨m, hm⟩ := Option.isSome_iff_exists.1 (hl f (by simp))
        obtain ⟨i, h3, h4⟩ := hT.size hm
        refine ⟨(f.offset, i.size) :: places, by simp [h3, h1], fun k o n h => ?_⟩
        cases k with
        | zero => simp [hm] at h; simp [h4, h]
        | succ k => exact h2 k o n (by simpa using h)
    obtain ⟨places, h1, h2⟩ := hall fs.toList (fun f hf => by
      have := List.all_eq_true.1 hs (f.offset, f.type) (List.mem_map.2 ⟨f, hf, rfl⟩)
      simpa using this)
    obtain ⟨hl, hpv⟩ := evParts_rel hr _ hps
    have hp : ∀ f o n, T.foff t f = some (o, n) → (places.toArray[·]?) f = some (o, n) := by
      intro f o n hfo
      unfold Tab.foff at hfo
      rw [hk] at hfo
      simp only at hfo
      split at hfo
      · rename_i o' u hfu
        split at hfo
        · rename_i m hm
          split at hfo
          · cases hfo
          · cases hfo
            simp only [List.getElem?_map, Option.map_eq_some_iff] at hfu
            obtain ⟨fd, h9, h10⟩ := hfu
            cases h10
            simpa using h2 f _ _ (by simp [h9, hm])
        · cases hfo
      · cases hfo
    obtain ⟨cells, h9, h10, h11⟩ := fill_rel (N := N) (w := w) hp ps (parts.map fun (i, x) => (i, a.eval x)).toList z zv.cells cs hf (by simpa using hl)
      (by
        intro i p x h3 h4
        simp only [Array.toList_map, List.getElem?_map, Option.map_eq_some_iff] at h4
        obtain ⟨y, h4, rfl⟩ := h4
        exact hpv i p y h3 h4) h7 (fun j av hj => h8 N w j av hj)
    refine ⟨cells, fun w' => ?_, h10, h11⟩
    simp only [Instr.build]
    simp [run_underlying hd, typeInfo, zeroValue, h5, h6, Array.mapM_eq_mapM_toList, run_places w' _ _ h1]
    have h9' : Instr.fill (fun x => places[x]?) zv.cells (parts.toList.map fun x => (x.1, a.eval x.2)) = some cells := by simpa using h9
    simp [h9']
  · cases hs

theorem run_buildSlice (hT : TabOk P T) (hr : Rel c N σ a w) {t e len n : Nat} {cs : List AV} {parts : Array (Nat × Operand)} {ps : List (Nat × AV)} (he : T.elem t = some e) (hn : T.size e = some n) (hps : evParts σ parts.toList = some ps)
    (hcs : rowsLit n 0 ps = some cs) (h1 : ps.length = len) (h2 : cs.all AV.cell = true) (h3 : 0 < n) (h4 : len * n ≤ 2 ^ 24) (h5 : (T.zero e).map List.length = some n) :
    ∃ cells, (Instr.buildSlice t len (parts.map fun (i, x) => (i, a.eval x))).run P w = .ok (.slice (some ⟨w.heap.size, 0, none⟩) len len) (w.alloc (.cells cells e)) ∧ (cells.size = len * n ∧ cs.length = len * n) ∧ ∀ (j : Nat) av, cs[j]? = some av → ∃ u, cells[j]? = some u ∧ RelV N w av u := by
  obtain ⟨zl, hz, hzl⟩ := Option.map_eq_some_iff.1 h5
  obtain ⟨i, z, h6, h7, h8, h9⟩ := hT.zero hz
  obtain ⟨i', h6', h10⟩ := hT.size hn
  rw [h6] at h6'; cases h6'
  have hzs : z.cells.size = n := by omega
  let init : List AV := (List.range (len * n)).map fun j => zl.getD (j % n) .und
  have hil : init.length = len * n := by simp [init]
  obtain ⟨hcl, hfill⟩ := rowsLit_fill 0 ps cs init hcs (by rw [hil, Nat.zero_add, h1]; exact Nat.le_refl _) h2
  rw [h1] at hcl
  have hfill' : fillA (fun i => some (i * n, n)) init ps = some cs := by
    rw [hfill, hcl]
    simp [List.drop_of_length_le (show init.length ≤ len * n by omega)]
  obtain ⟨hl, hpv⟩ := evParts_rel hr _ hps
  obtain ⟨cells, h11, h12, h13⟩ := fill_rel (N := N) (w := w) (pl := fun i => some (i * n, n)) (places := fun i => some (i * n, n)) (fun _ _ _ h => h) ps (parts.map fun (i, x) => (i, a.eval x)).toList init
    ((Array.range (len * n)).map (z.cells[· % z.cells.size]!)) cs hfill' (by simpa using hl)
    (by
      intro i p x h3 h4
      simp only [Array.toList_map, List.getElem?_map, Option.map_eq_some_iff] at h4
      obtain ⟨y, h4, rfl⟩ := h4
      exact hpv i p y h3 h4) (by simp [hil])
    (by
      intro j av hj
      simp only [init, List.getElem?_map, Option.map_eq_some_iff] at hj
      obtain ⟨k, hk, rfl⟩ := hj
      have hjl : j < len * n ∧ k = j := by
        by_cases hjn : j < len * n
        · simp [hjn] at hk; exact ⟨hjn, hk.symm⟩
        · simp [hjn] at hk
      obtain ⟨hjl, rfl⟩ := hjl
      have hm : k % n < zl.length := by rw [hzl]; exact Nat.mod_lt _ h3
      obtain ⟨v, h14, h15⟩ := h9 N w (k % n) zl[k % n] (by simp [hm])
      refine ⟨v, ?_, by simpa [List.getD, hm] using h15⟩
      simp only [Array.getElem?_map, Array.getElem?_range, hjl, if_true, Option.map_some, hzs]
      simp only [getElem!_def, h14])
  refine ⟨cells, ?_, ⟨by rw [h12, hcl], hcl⟩, h13⟩
  by_cases h0 : len * n = 0
  · have e1 : len * i.size = 0 := by rw [h10]; exact h0
    have h11' : Instr.fill (fun k => some (k * i.size, i.size)) ((Array.range 0).map fun x => (#[] : Array Value)[x % 0]!) (parts.map fun (i, x) => (i, a.eval x)).toList = some cells := by
      rw [h10, show (Array.range 0).map (fun x => (#[] : Array Value)[x % 0]!) = (Array.range (len * n)).map (z.cells[· % z.cells.size]!) by rw [h0, show Array.range 0 = #[] from rfl, Array.map_empty, Array.map_empty]]; exact h11
    have hrun : (Instr.buildSlice t len (parts.map fun (i, x) => (i, a.eval x))).run P w = .ok (.slice (some ⟨w.heap.size, 0, none⟩) len len) (w.alloc (.cells cells e)) := by
      unfold Instr.buildSlice
      simp only [Sem.run_bind, run_underlying (hT.elem he), Result.andThen_ok, sizeOf, typeInfo, run_program, h6, Sem.run_pure, e1]
      simp only [Nat.not_lt_zero, if_false, gt_iff_lt, if_true, Sem.run_pure, Result.andThen_ok, Sem.run_bind]
      have : (#[] : Array Value).size = 0 := rfl
      simp only [this, h11']
      simp [newRow]
    exact hrun
  · exact Go.run_buildSlice w t e len _ cells i z (hT.elem he) h6 h7 (by rw [h10]; omega) (by rw [h10]; omega) (by rw [h10]; exact h11)

theorem sliceA_spec {α : Type} {l m : List α} {i j : Int} (h : sliceA l i j = some m) : 0 ≤ i ∧ i ≤ j ∧ j ≤ l.length ∧ m = (l.take j.toNat).drop i.toNat := by
  unfold sliceA at h
  split at h
  · rename_i hh; cases h; exact ⟨hh.1, hh.2.1, hh.2.2, rfl⟩
  · cases h

theorem run_bound {k : IntKind} {n : Int} {y : Nat} {code : BoundsCode} (h0 : 0 ≤ n) (h1 : n ≤ y) (w : World) : (Instr.sliceBound (.int k n) y code).run P w = .ok n.toNat w := by
  simp [Instr.sliceBound, asIntOf, h0, h1]

theorem run_bounds (hr : Rel c N σ a w) {lo hi : Option Operand} {i : Int} {j : Option Int} (hlo : loA σ lo = some i) (hhi : hiA σ hi = some j) {len cap : Nat} (hc : len ≤ cap) {b : Bool} (h0 : 0 ≤ i) (h1 : i ≤ j.getD len) (h2 : j.getD len ≤ len) (w' : World) :
    (Instr.sliceBounds b len cap (lo.map a.eval) (hi.map a.eval) none).run P w' = .ok (i.toNat, (j.getD len).toNat, cap) w' := by
  have hL : (lo = none ∧ i = 0) ∨ ∃ x k, lo = some x ∧ a.eval x = .int k i := by
    cases lo with
    | none => cases hlo; exact .inl ⟨rfl, rfl⟩
    | some x =>
      simp only [loA] at hlo
      split at hlo
      · rename_i k n hx
        cases hlo
        have hv := evA_rel hr hx
        generalize hv' : a.eval x = v at hv
        cases hv
        exact .inr ⟨x, k, rfl, hv'⟩
      · cases hlo
  have hH : (hi = none ∧ j = none) ∨ ∃ x k n, hi = some x ∧ a.eval x = .int k n ∧ j = some n := by
    cases hi with
    | none => cases hhi; exact .inl ⟨rfl, rfl⟩
    | some x =>
      simp only [hiA] at hhi
      split at hhi
      · rename_i k n hx
        cases hhi
        have hv := evA_rel hr hx
        generalize hv' : a.eval x = v at hv
        cases hv
        exact .inr ⟨x, k, n, rfl, hv', rfl⟩
      · cases hhi
  rcases hL with ⟨rfl, rfl⟩ | ⟨x, k, rfl, hx⟩ <;> rcases hH with ⟨rfl, rfl⟩ | ⟨y, k2, n, rfl, hy, rfl⟩
  · simp [Instr.sliceBounds]
  · simp only [Option.getD_some] at h1 h2
    have e1 := fun code => run_bound (P := P) (k := k2) (n := n) (y := cap) (code := code) (by omega) (by omega) w'
    simp [Instr.sliceBounds, hy, e1]
  · simp only [Option.getD_none] at h1 h2
    have e1 := fun code => run_bound (P := P) (k := k) (n := i) (y := len) (code := code) h0 h1 w'
    simp [Instr.sliceBounds, hx, e1]
  · simp only [Option.getD_some] at h1 h2
    have e1 := fun code => run_bound (P := P) (k := k2) (n := n) (y := cap) (code := code) (by omega) (by omega) w'
    have e2 := fun code => run_bound (P := P) (k := k) (n := i) (y := n.toNat) (code := code) h0 (by omega) w'
    simp [Instr.sliceBounds, hx, hy, e1, e2]

theorem slice_str {l m : List UInt8} {i j : Int} (h : sliceA l i j = some m) : (⟨l.toArray⟩ : ByteArray).extract i.toNat j.toNat = ⟨m.toArray⟩ := by
  obtain ⟨h1, h2, h3, rfl⟩ := sliceA_spec h
  apply ByteArray.ext
  simp only [ByteArray.data_extract]
  apply Array.ext'
  simp [List.extract_eq_take_drop, List.drop_take]

theorem slice_rows {rows rows' : List (List AV)} {i j : Int} {ad : Addr} {cap sz : Nat} (h : sliceA rows i j = some rows') (hv : RelV N w (.sl rows) (.slice (some ad) rows.length cap)) (hsz : rows.all (fun r => decide (r.length = sz)) = true) :
    RelV N w (.sl rows') (.slice (some (if cap = i.toNat then ad else ad.add (i.toNat * sz))) (j.toNat - i.toNat) (cap - i.toNat)) := by
  obtain ⟨h1, h2, h3, rfl⟩ := sliceA_spec h
  cases hv with
  | sl _ _ _ sz' u hs hc hm h4 h5 h6 =>
    have hl : ((rows.take j.toNat).drop i.toNat).length = j.toNat - i.toNat := by simp; omega
    have hget : ∀ (k : Nat) row, ((rows.take j.toNat).drop i.toNat)[k]? = some row → rows[i.toNat + k]? = some row ∧ i.toNat + k < j.toNat := by
      intro k row hk
      rw [List.getElem?_drop, List.getElem?_take] at hk
      split at hk
      · exact ⟨hk, by omega⟩
      · cases hk
    have hsz' : ∀ (k : Nat) row, rows[k]? = some row → row.length = sz := fun k row hk => by simpa using List.all_eq_true.1 hsz row (List.mem_of_getElem? hk)
    rw [← hl]
    by_cases hcap : cap = i.toNat
    · have he : (rows.take j.toNat).drop i.toNat = [] := List.eq_nil_of_length_eq_zero (by rw [hl]; omega)
      rw [he, if_pos hcap]
      exact .sl [] ad (cap - i.toNat) sz u (fun h => by simp at h) (by simp) (by omega) (fun i row h => by simp at h) (fun i row j av h => by simp at h) (fun i row j av h => by simp at h)
    · by_cases hempty : (rows.take j.toNat).drop i.toNat = []
      · rw [hempty]
        exact .sl [] _ (cap - i.toNat) sz u (fun h => by simp at h) (by simp) (by omega) (fun i row h => by simp at h) (fun i row j av h => by simp at h) (fun i row j av h => by simp at h)
      have hpos : 0 < rows.length := by cases rows with | nil => simp at hempty | cons x r => simp
      rw [if_neg hcap, add_none _ _ (hs hpos)]
      refine .sl _ _ _ sz (fun k => u (i.toNat + k)) (fun _ => rfl) (by omega) (by omega) (fun k row hk => hsz' _ row (hget k row hk).1) (fun k row q av hk hq => ?_) (fun k row q av hk hq => h6 _ row q av (hget k row hk).1 hq)
      obtain ⟨h7, h8⟩ := h5 _ row q av (hget k row hk).1 hq
      have e : sz' = sz := by rw [← h4 _ row (hget k row hk).1, hsz' _ row (hget k row hk).1]
      subst e
      refine ⟨h7, ?_⟩
      rw [← h8]
      congr 2
      show ad.off + i.toNat * sz' + (k * sz' + q) = ad.off + ((i.toNat + k) * sz' + q)
      rw [Nat.add_mul]; omega

def valOp : Op → Bool
  | .move _ | .assign _ | .pick .. | .fieldAddr .. | .load .. | .indexAddr .. | .index .. | .binOp .. | .unOp .not .. | .extract .. | .build .. | .slice _ _ _ _ none | .nilCheck _ | .makeInterface .. => true
  | .call cl => match cl.callee with | .builtin .len => true | _ => false
  | _ => false

theorem aop_val (hT : TabOk P T) (hq : valOp o.op = true) (h : aop P T o σ K) (hr : Rel c N σ a w) :
    ∃ av v, dok o.dst σ.nt = true ∧ K (σ.put o.dst av) ∧ RelV N w av v ∧ ∀ w', Same w w' → (execOp a.eval o).run P w' = .ok (.value v) w' := by
  unfold aop at h
  split at h
  · -- move
    rename_i x ho
    exact k1_val h fun av hav => ⟨_, evA_rel hr hav, fun w' _ => by simp [execOp, ho]⟩
  · rename_i x ho
    exact k1_val h fun av hav => ⟨_, evA_rel hr hav, fun w' _ => by simp [execOp, ho]⟩
  · -- pick
    rename_i x y z ho
    split at h <;> try exact h.elim
    rename_i t u v hx hy hz
    refine k1_val h fun av hav => ?_
    cases hav
    have h1 := evA_rel hr hx
    generalize hv : a.eval x = vx at h1
    cases h1
    exact ⟨_, pickA_rel (evA_rel hr hy) (evA_rel hr hz), fun w' _ => by simp [execOp, ho, hv, asBool]⟩
  · -- fieldAddr
    rename_i t x f ho
    split at h <;> try exact h.elim
    rename_i p n m hx hf
    refine k1_val h fun av hav => ?_
    obtain ⟨ad, h1, h2, h3⟩ := addOff_rel (evA_rel hr hx) hav
    exact ⟨_, h3, fun w' _ => by simp [execOp, ho, h1, run_fieldAddr hT hf]⟩
  · -- load
    rename_i t x ho
    split at h <;> try exact h.elim
    rename_i p n g hx hs hg
    refine k1_val h fun av hav => ?_
    obtain ⟨cs, h1, h2⟩ := Option.bind_eq_some_iff.1 hav
    obtain ⟨h3, ad, h4, h5⟩ := readA_at hr (evA_rel hr hx) h1
    obtain ⟨v, h6, h7⟩ := run_loadVar_at hT hs hg h3 h5 h2
    exact ⟨v, h6, fun w' hw => by simp [execOp, ho, h4, Instr.loadAt, Instr.sureAddr, h7 w' hw]⟩
  · first | exact h.elim | (rename_i ho; rw [ho] at hq; cases hq)
  · -- indexAddr
    rename_i t x i ho
    split at h <;> try exact h.elim
    · rename_i rows e k n hx he hi
      obtain ⟨⟨h1, h2⟩, h3, h4⟩ := h
      refine k1_val h4 fun av hav => ?_
      cases hav
      have hp := evA_rel hr hx
      have hq := evA_rel hr hi
      generalize hv : a.eval x = vx at hp
      generalize hv' : a.eval i = vi at hq
      cases hq
      have hlt : n.toNat < rows.length := by omega
      have hrow : rows[n.toNat]? = some (rows.getD n.toNat []) := by simp [List.getD, hlt]
      cases hp with
      | slNil => simp at hlt
      | sl rows ad cap sz u hs hc hm h5 h6 h7 =>
        have h8 := h5 _ _ hrow
        rw [h8] at h3
        have hz := fun w => run_size hT h3.symm w
        refine ⟨.pointer (some (ad.add (n.toNat * sz))), ?_, fun w' _ => ?_⟩
        rotate_left
        · simp only [execOp, ho, hv, hv', Instr.indexAt]
          simp [Sem.run_bind, asIntOf, run_underlying (hT.elem he), hz, h1, h2]
        · rw [add_none _ _ (hs (by omega))]
          refine .eptr _ _ (fun j => u n.toNat j) rfl (fun j av hj => ?_) (fun j av hj => h7 _ _ j av hrow hj)
          have := h6 _ _ j av hrow hj
          simpa [Nat.add_assoc] using this
    · rename_i b len cap e k n hx he hi
      obtain ⟨⟨h1, h2⟩, h4⟩ := h
      refine k1_val h4 fun av hav => ?_
      obtain ⟨sz, hz, rfl⟩ := Option.map_eq_some_iff.1 hav
      have hp := evA_rel hr hx
      have hq := evA_rel hr hi
      generalize hv : a.eval x = vx at hp
      generalize hv' : a.eval i = vi at hq
      cases hq
      cases hp
      refine ⟨.pointer (some ((⟨b, 0, none⟩ : Addr).add (n.toNat * sz))), ?_, fun w' _ => ?_⟩
      rotate_left
      · simp only [execOp, ho, hv, hv', Instr.indexAt]
        simp [Sem.run_bind, asIntOf, run_underlying (hT.elem he), run_size hT hz, h1, h2]
      · rw [add_none _ _ rfl]
        simp only [Nat.zero_add]
        exact .ptr _ _
  · -- index
    rename_i t x i ho
    split at h <;> try exact h.elim
    rename_i l k n hx hi
    obtain ⟨h0, ⟨h1, h2⟩, h4⟩ := h
    refine k1_val h4 fun av hav => ?_
    cases hav
    obtain ⟨d, hd, hd'⟩ := hT.kind h0
    have hd2 : d = .string := by cases d <;> simp [shOf] at hd' <;> rfl
    subst hd2
    have hp := evA_rel hr hx
    have hq := evA_rel hr hi
    generalize hv : a.eval x = vx at hp
    generalize hv' : a.eval i = vi at hq
    cases hq
    cases hp
    have hlt : n.toNat < l.length := by omega
    have hb : (⟨l.toArray⟩ : ByteArray)[n.toNat]? = some (l.getD n.toNat 0) := by
      rw [getElem?_pos _ _ (by simpa [ByteArray.size] using hlt)]
      simp [List.getD, hlt]
      rfl
    refine ⟨_, .int _ _, fun w' _ => ?_⟩
    simp only [execOp, ho, hv, hv', Instr.index]
    simp [Sem.run_bind, asIntOf, run_underlying hd, h1, hb]
  · -- binOp
    rename_i op t x y ty ho
    split at h <;> try exact h.elim
    rename_i u v hx hy
    refine k1_val h fun av hav => ?_
    have hz : ∃ z, RelV N w av z ∧ ∀ w', (do eqGuard op t x y (a.eval x) (a.eval y); binOp op t (a.eval x) (a.eval y) : Sem Value).run P w' = .ok z w' := by
      split at hav
      · rename_i r hb; cases hav; exact binA_run (evA_rel hr hx) (evA_rel hr hy) hb t x y
      · exact binT_run hT (evA_rel hr hx) (evA_rel hr hy) hav
    obtain ⟨z, h1, h2⟩ := hz
    refine ⟨z, h1, fun w' _ => ?_⟩
    simp only [execOp, ho]
    rw [Sem.run_bind, h2]
    rfl
  · -- not
    rename_i t x ho
    split at h <;> try exact h.elim
    rename_i b hx
    refine k1_val h fun av hav => ?_
    cases hav
    have hp := evA_rel hr hx
    generalize hv : a.eval x = vx at hp
    cases hp
    exact ⟨_, .bool _, fun w' _ => by simp [execOp, ho, hv, Op.unary]⟩
  · -- extract
    rename_i x i ho
    split at h <;> try exact h.elim
    rename_i vs hx
    refine k1_val h fun av hav => ?_
    have hp := evA_rel hr hx
    generalize hv : a.eval x = vx at hp
    cases hp with
    | tup _ us hl hh =>
      have hi : i < us.size := by
        rw [hl]
        rcases Nat.lt_or_ge i vs.length with h' | h'
        · exact h'
        · rw [List.getElem?_eq_none h'] at hav; cases hav
      have hu : us[i]? = some us[i] := by simp [hi]
      exact ⟨us[i], hh i av _ hav hu, fun w' _ => by simp [execOp, ho, hv, Instr.extract, hu]⟩
  · first | exact h.elim | (rename_i ho; rw [ho] at hq; cases hq)
  · first | exact h.elim | (rename_i ho; rw [ho] at hq; cases hq)
  · -- build
    rename_i t parts ho
    split at h <;> try exact h.elim
    rename_i z ps hz hps
    obtain ⟨h1, h2⟩ := h
    refine k1_val h2 fun av hav => ?_
    obtain ⟨cs, h3, rfl⟩ := Option.map_eq_some_iff.1 hav
    obtain ⟨cells, h4, h5, h6⟩ := run_build hT hr hz h1 hps h3
    exact ⟨.agg cells, .agg _ _ h5 (fun i av v h7 h8 => by obtain ⟨u, h9, h10⟩ := h6 i av h7; rw [h8] at h9; cases h9; exact h10), fun w' _ => by simp [execOp, ho, h4 w']⟩
  · first | exact h.elim | (rename_i ho; rw [ho] at hq; cases hq)
  · first | exact h.elim | (rename_i ho; rw [ho] at hq; cases hq)
  · -- slice
    rename_i t x lo hi ho
    split at h <;> try exact h.elim
    · rename_i l i j hx hlo hhi
      obtain ⟨h0, h1⟩ := h
      refine k1_val h1 fun av hav => ?_
      obtain ⟨m, hm, rfl⟩ := Option.map_eq_some_iff.1 hav
      obtain ⟨h2, h3, h4, h5⟩ := sliceA_spec hm
      obtain ⟨d, hd, hd'⟩ := hT.kind h0
      have hd2 : d = .string := by cases d <;> simp [shOf] at hd' <;> rfl
      subst hd2
      have hp := evA_rel hr hx
      generalize hv : a.eval x = vx at hp
      cases hp with
      | str _ hl =>
        refine ⟨.string ⟨m.toArray⟩, .str _ (by rw [h5]; simp; omega), fun w' _ => ?_⟩
        have hb := run_bounds (P := P) hr hlo hhi (Nat.le_refl l.length) (b := false) h2 h3 h4 w'
        have hs : (⟨l.toArray⟩ : ByteArray).size = l.length := rfl
        simp only [execOp, ho, hv, Instr.sliceAt]
        simp only [Sem.run_bind, run_underlying hd, Result.andThen_ok, Instr.slice, hs, Option.map_none, Option.isSome_none, Bool.false_eq_true, if_false, hb, Sem.run_pure, slice_str hm]
    · rename_i rows i j hx hlo hhi
      obtain ⟨⟨e, sz2, he, hsz, h0'⟩, h1⟩ := h
      refine k1_val h1 fun av hav => ?_
      obtain ⟨m, hm, rfl⟩ := Option.map_eq_some_iff.1 hav
      obtain ⟨h2, h3, h4, h5⟩ := sliceA_spec hm
      have hp := evA_rel hr hx
      generalize hv : a.eval x = vx at hp
      cases hp with
      | slNil =>
        have h3' : i ≤ j.getD ((0 : Nat) : Int) := h3
        have h4' : j.getD ((0 : Nat) : Int) ≤ ((0 : Nat) : Int) := h4
        have hi0 : i = 0 := by omega
        subst hi0
        have hj0 : j.getD ((0 : Nat) : Int) = 0 := by omega
        have hm0 : m = [] := by rw [h5]; simp
        subst hm0
        have hb := fun w' => run_bounds (P := P) hr hlo hhi (Nat.le_refl 0) (b := true) h2 h3' h4' w'
        rw [hj0] at hb
        refine ⟨.slice none 0 0, .slNil, fun w' _ => ?_⟩
        simp only [execOp, ho, hv, Instr.sliceAt]
        simp only [Sem.run_bind, run_underlying (hT.elem he), Result.andThen_ok, Instr.slice, Option.map_none, hb, run_size hT hsz, Sem.run_pure]
        rfl
      | sl _ ad cap sz u hs hc hmx h6 h7 h8 =>
        refine ⟨_, slice_rows hm (.sl rows ad cap sz u hs hc hmx h6 h7 h8) h0', fun w' _ => ?_⟩
        have hb := run_bounds (P := P) hr hlo hhi hc (b := true) h2 h3 h4 w'
        simp only [execOp, ho, hv, Instr.sliceAt]
        simp only [Sem.run_bind, run_underlying (hT.elem he), Result.andThen_ok, Instr.slice, Option.map_none, hb, run_size hT hsz, Sem.run_pure]
        by_cases hcap : cap = i.toNat
        · rw [if_pos hcap, if_pos hcap]
        · rw [if_neg hcap, if_neg hcap]; rfl
  · -- nilCheck
    rename_i x ho
    split at h <;> try exact h.elim
    · rename_i b i hx
      refine k1_val h fun av hav => ?_
      cases hav
      have hp := evA_rel hr hx
      generalize hv : a.eval x = vx at hp
      cases hp
      exact ⟨_, .ptr _ _, fun w' _ => by simp [execOp, ho, hv]⟩
    · rename_i cs hx
      refine k1_val h fun av hav => ?_
      cases hav
      have hp := evA_rel hr hx
      generalize hv : a.eval x = vx at hp
      cases hp with
      | eptr _ ad u h1 h2 h3 => exact ⟨_, .eptr _ ad u h1 h2 h3, fun w' _ => by simp [execOp, ho, hv]⟩
  · -- makeInterface
    rename_i t x ho
    split at h <;> try exact h.elim
    rename_i v hx
    obtain ⟨h1, h2⟩ := h
    refine k1_val h2 fun av hav => ?_
    cases hav
    have hk : ∃ s, T.kind t = some s ∧ s ≠ .iface ∧ s ≠ .other := by
      cases hk : T.kind t with
      | none => simp [hk] at h1
      | some s => exact ⟨s, rfl, by rintro rfl; simp [hk] at h1, by rintro rfl; simp [hk] at h1⟩
    obtain ⟨s, hs, hs1, hs2⟩ := hk
    obtain ⟨d, hd, hd'⟩ := hT.kind hs
    refine ⟨.iface t (a.eval x), .ifc _ _ _ (evA_rel hr hx), fun w' _ => ?_⟩
    have : (Instr.makeInterface t (a.eval x)).run P w' = .ok (.iface t (a.eval x)) w' := by
      unfold Instr.makeInterface
      rw [Sem.run_bind, run_underlying hd]
      cases d <;> first | rfl | (simp [shOf] at hd'; subst hd'; exact absurd rfl hs1)
    simp [execOp, ho, this]
  · -- call
    rename_i cl ho
    split at h
    · rename_i hcl
      split at h <;> try exact h.elim
      rename_i t v ht hv
      obtain ⟨h1, h2⟩ := h
      refine k1_val h2 fun av hav => ?_
      obtain ⟨n, hn1, rfl⟩ := Option.map_eq_some_iff.1 hav
      obtain ⟨hl, hargs⟩ := evAs_rel hr _ hv
      have hargs1 : cl.args.toList.length = 1 := by simpa using hl.symm
      obtain ⟨x, hx⟩ : ∃ x, cl.args = #[x] := by
        cases hcc : cl.args with
        | mk l =>
          rw [hcc] at hargs1
          match l, hargs1 with
          | [x], _ => exact ⟨x, rfl⟩
      have hv' := hargs 0 v x rfl (by rw [hx]; rfl)
      refine ⟨.int .i64 n, .int _ _, fun w' _ => ?_⟩
      have hrun : (Builtin.len_ cl.argTypes o.type #[a.eval x]).run P w' = .ok (.int .i64 n) w' := by
        unfold Builtin.len_
        generalize hav : a.eval x = u at hv'
        cases hk : T.kind t with
        | none => simp [hk] at h1
        | some s =>
          obtain ⟨d, hd, hd'⟩ := hT.kind hk
          simp only [hk] at h1
          have hcase : (∃ l, v = .str l ∧ s = .string) ∨ (∃ e rows, v = .sl rows ∧ s = .slice e) ∨ (∃ e b m cap, v = .ref b m cap ∧ s = .slice e) ∨ (∃ e, v = .nil ∧ s = .slice e) := by
            clear hv h2 hav hargs hv' hn1 hl
            cases v <;> cases s <;> simp at h1 ⊢
          rcases hcase with ⟨l, rfl, rfl⟩ | ⟨e, rows, rfl, rfl⟩ | ⟨e, b, m, cap, rfl, rfl⟩ | ⟨e, rfl, rfl⟩
          · have hd2 : d = .string := by cases d <;> simp [shOf] at hd' <;> rfl
            subst hd2
            cases hv'
            simp only [lenA, Option.some.injEq] at hn1
            subst hn1
            simp [ht, run_underlying hd, goInt]; rfl
          · have hd2 : d = .slice e := by cases d <;> simp [shOf] at hd'; rw [hd']
            subst hd2
            simp only [lenA, Option.some.injEq] at hn1
            subst hn1
            cases hv' <;> simp [ht, run_underlying hd, goInt]
          · have hd2 : d = .slice e := by cases d <;> simp [shOf] at hd'; rw [hd']
            subst hd2
            simp only [lenA, Option.some.injEq] at hn1
            subst hn1
            cases hv'
            simp [ht, run_underlying hd, goInt]
          · have hd2 : d = .slice e := by cases d <;> simp [shOf] at hd'; rw [hd']
            subst hd2
            simp only [lenA, Option.some.injEq] at hn1
            subst hn1
            cases hv'
            simp [ht, run_underlying hd, goInt]
      simp only [execOp, ho, resolve, hcl, hx]
      simp [invoke, builtin, hrun]
    all_goals (rename_i hcl; first | exact h.elim | (simp [valOp, *] at hq; done))
  · first | exact h.elim | (rename_i ho; rw [ho] at hq; cases hq)

theorem aop_ok (hT : TabOk P T) (h : aop P T o σ K) (hr : Rel c N σ a w) (hn : ∀ σ' N' a' w', K σ' → Rel c N' σ' a' w' → next a' w') : o.wp P a w next Q := by
  by_cases hq : valOp o.op = true
  · obtain ⟨av, v, h1, h2, h3, h4⟩ := aop_val hT hq h hr
    exact wp_val (h4 w (.refl w)) (hn _ N _ _ h2 (hr.put (dok_ok h1) h3))
  unfold aop at h
  split at h
  · rename_i ho; exact absurd (by rw [ho]; rfl) hq
  · rename_i ho; exact absurd (by rw [ho]; rfl) hq
  · rename_i ho; exact absurd (by rw [ho]; rfl) hq
  · rename_i ho; exact absurd (by rw [ho]; rfl) hq
  · rename_i ho; exact absurd (by rw [ho]; rfl) hq
  · -- store
    rename_i t x y ho
    split at h <;> try exact h.elim
    rename_i b i n v hx hs hy
    split at h <;> try exact h.elim
    rename_i u size cs hg
    obtain ⟨⟨h1, h2, h3⟩, h4, h5⟩ := h
    have hp := evA_rel hr hx
    generalize hv : a.eval x = vx at hp
    cases hp
    obtain ⟨h6, h7, h8⟩ := (evA_rel hr hy).cells h3
    obtain ⟨_, _, arr, h9, h10, h11, h12⟩ := hr.heap b _ hg
    have hst := run_storeCells_at P b i u (a.eval y).cells.toList 0 arr w h9 (by simp; omega) h8
    have hrun : (execOp a.eval o).run P w = .ok .skip (w.setRow b (splice arr.toList i (a.eval y).cells.toList).toArray) := by
      have e1 : ¬ ((a.eval y).cells.size ≠ n) := by omega
      simp only [execOp, ho, hv, Instr.storeAt, Instr.sureAddr, storeVar]
      simp [Sem.run_bind, run_size hT hs, hst, splice]
      omega
    have hstore := hr.store hg (cs' := splice cs i (cellsA v)) (arr := (splice arr.toList i (a.eval y).cells.toList).toArray)
      (by simp only [List.size_toArray]; rw [splice_length (by simp; omega)]; simpa using h10)
      (by rw [splice_length (by omega)]; exact h11)
      (by
        have := cur_rel (arr := arr) (cs := cs) (vs := cellsA v) (us := (a.eval y).cells.toList) (i := i) (by omega) (by omega) (by simpa using h6) h12 (fun j x hj => by simpa using h7 j x hj)
        intro j av hj
        obtain ⟨u, h13, h14⟩ := this j av hj
        exact ⟨u, by simpa using h13, h14⟩)
    unfold Oper.wp
    rw [hrun]
    exact hn _ _ _ _ h5 (hstore.put (dok_ok h4) .und)
  · rename_i ho; exact absurd (by rw [ho]; rfl) hq
  · rename_i ho; exact absurd (by rw [ho]; rfl) hq
  · rename_i ho; exact absurd (by rw [ho]; rfl) hq
  · rename_i ho; exact absurd (by rw [ho]; rfl) hq
  · rename_i ho; exact absurd (by rw [ho]; rfl) hq
  · -- box
    rename_i t x ho
    split at h <;> try exact h.elim
    rename_i v n hx hs
    obtain ⟨⟨h1, h2⟩, h3, h4⟩ := h
    obtain ⟨h5, h6, h7⟩ := (evA_rel hr hx).cells h2
    obtain ⟨hf, hra⟩ := hr.alloc (arr := (a.eval x).cells) (t := t) (cs := cellsA v) (size := n) (by omega) (by omega) h6
    refine wp_val (w' := w.alloc (.cells (a.eval x).cells t)) (v := .pointer (some ⟨w.heap.size, 0, none⟩)) ?_ (hn _ _ _ _ (h4 _ hf) (hra.put (dok_ok h3) (.ptr _ _)))
    simp only [execOp, ho, Instr.box, newVar, newRow]; simp [Sem.run_bind]
  · -- alloc
    rename_i t ho
    split at h <;> try exact h.elim
    rename_i l hz
    obtain ⟨h3, h4⟩ := h
    obtain ⟨i, z, h5, h6, h7, h8⟩ := hT.zero hz
    obtain ⟨hf, hra⟩ := hr.alloc (arr := z.cells) (t := t) (cs := l) (size := l.length) h7 (Nat.le_refl _) (fun j av hj => h8 N w j av hj)
    refine wp_val (w' := w.alloc (.cells z.cells t)) (v := .pointer (some ⟨w.heap.size, 0, none⟩)) ?_ (hn _ _ _ _ (h4 _ hf) (hra.put (dok_ok h3) (.ptr _ _)))
    simp only [execOp, ho, Instr.alloc, newVar, newRow]; simp [Sem.run_bind, zeroValue, typeInfo, h5, h6]
  · rename_i ho; exact absurd (by rw [ho]; rfl) hq
  · -- buildSlice
    rename_i t len parts ho
    split at h <;> try exact h.elim
    rename_i e ps he hps
    split at h <;> try exact h.elim
    rename_i n hn'
    split at h <;> try exact h.elim
    rename_i cs hcs
    obtain ⟨⟨h1, h2, h3, h4, h5⟩, h6, h7⟩ := h
    obtain ⟨cells, h8, h9, h10⟩ := run_buildSlice hT hr he hn' hps hcs h1 h2 h3 h4 h5
    obtain ⟨hf, hra⟩ := hr.alloc (arr := cells) (t := e) (cs := cs) (size := len * n) h9.1 (by omega) h10
    refine wp_val (w' := w.alloc (.cells cells e)) (v := .slice (some ⟨w.heap.size, 0, none⟩) len len) ?_ (hn _ _ _ _ (h7 _ hf) (hra.put (dok_ok h6) (.ref _ _ _ (Nat.le_refl _) ?_)))
    · simp [execOp, ho, h8]
    · have : len ≤ len * n := Nat.le_mul_of_pos_right _ h3
      unfold maxLen; omega
  · -- makeSlice
    rename_i t x y ho
    split at h <;> try exact h.elim
    rename_i e k n k' n' he hx hy
    split at h <;> try exact h.elim
    rename_i sz by_ z hsz hby hz
    obtain ⟨⟨rfl, h1, h2, h3, h4, h5⟩, h6, h7⟩ := h
    have hp := evA_rel hr hx
    have hp' := evA_rel hr hy
    generalize hv : a.eval x = vx at hp
    generalize hv' : a.eval y = vy at hp'
    cases hp; cases hp'
    obtain ⟨i, zv, hi, hiz, hzs, hzr⟩ := hT.zero hz
    obtain ⟨i', hi', hib⟩ := hT.bytes hby
    rw [hi] at hi'; cases hi'
    obtain ⟨i', hi', his⟩ := hT.size hsz
    rw [hi] at hi'; cases hi'
    let arr : Array Value := (Array.range (n'.toNat * sz)).map (fun j => zv.cells[j % zv.cells.size]!)
    have hfl := flatten_get (List.replicate n'.toNat z) (sz := sz) (fun r hr => by rw [(List.mem_replicate.1 hr).2]; exact h4)
    simp only [List.length_replicate] at hfl
    obtain ⟨hf, hra⟩ := hr.alloc (arr := arr) (t := e) (cs := (rowsC (List.replicate n'.toNat z))) (size := n'.toNat * sz) (by simp [arr]) (by rw [hfl.1]; exact Nat.le_refl _) (by
      intro j av hj
      have hjl : j < n'.toNat * sz := by
        rw [← hfl.1]
        rcases Nat.lt_or_ge j (rowsC (List.replicate n'.toNat z)).length with h' | h'
        · exact h'
        · rw [List.getElem?_eq_none h'] at hj; cases hj
      obtain ⟨row, h8, h9⟩ := hfl.2 j hjl
      have hrow : row = z := (List.mem_replicate.1 (List.mem_of_getElem? h8)).2
      subst hrow
      rw [h9] at hj
      obtain ⟨v, h10, h11⟩ := hzr N w (j % sz) av hj
      refine ⟨v, ?_, h11⟩
      have hzsz : zv.cells.size = sz := by omega
      simp only [arr, Array.getElem?_map, Array.getElem?_range, hjl, if_true, Option.map_some, hzsz]
      simp only [getElem!_def, h10])
    refine wp_val (w' := w.alloc (.cells arr e)) (v := .slice (some ⟨w.heap.size, 0, none⟩) n'.toNat n'.toNat) ?_ (hn _ _ _ _ (h7 _ hf) (hra.put (dok_ok h6) (.ref _ _ _ (Nat.le_refl _) (by unfold maxLen; omega))))
    have hw : IntKind.i64.wrap n' = n' := IntWalk.i64_in n' ⟨by omega, by omega⟩
    have hb : ¬ (281474976710656 < (i.bytes : Int) * n') := by rw [hib]; omega
    have hrun : (Instr.makeSlice t (.int k n') (.int k' n')).run P w = .ok (.slice (some ⟨w.heap.size, 0, none⟩) n'.toNat n'.toNat) (w.alloc (.cells arr e)) := by
      have hn0 : ¬ (n' < 0) := by omega
      have hrow : (do pure (if n'.toNat * sz = 0 then #[] else zv.cells) : Sem (Array Value)).run P w = .ok (if n'.toNat * sz = 0 then #[] else zv.cells) w := rfl
      by_cases h0 : n'.toNat * sz = 0
      · have hr0 : Array.range 0 = #[] := rfl
        have harr : arr = #[] := by simp only [arr, h0, hr0, Array.map_empty]
        rw [harr]
        simp [Instr.makeSlice, run_underlying (hT.elem he), asInt, asIntOf, typeInfo, sizeOf, hi, hw, hn0, hb, his, h0, newRow, zeroValue, hr0]
      · simp [Instr.makeSlice, run_underlying (hT.elem he), asInt, asIntOf, typeInfo, sizeOf, hi, hw, hn0, hb, his, h0, newRow, zeroValue, hiz, arr]
    simp only [execOp, ho, hv, hv']
    simp [hrun]
  · rename_i ho; exact absurd (by rw [ho]; rfl) hq
  · rename_i ho; exact absurd (by rw [ho]; rfl) hq
  · rename_i ho; exact absurd (by rw [ho]; rfl) hq
  · -- call
    rename_i cl ho
    split at h
    · rename_i hcl; exact absurd (by rw [ho]; simp [valOp, hcl]) hq
    · rename_i hcl
      split at h <;> try exact h.elim
      rename_i t t2 s x hty hargs
      split at h <;> try exact h.elim
      rename_i e he
      split at h <;> try exact h.elim
      rename_i sz by_ zl hsz hby hz
      split at h <;> try exact h.elim
      rename_i n cs ks m xs hown hadd
      obtain ⟨⟨rfl, rfl, h1, h2, h3, h4, h5⟩, h6, h7⟩ := h
      obtain ⟨hl, hrel⟩ := evAs_rel hr _ hargs
      have hargs2 : cl.args.toList.length = 2 := by simpa using hl.symm
      obtain ⟨p, q, hpq⟩ : ∃ p q, cl.args = #[p, q] := by
        cases hcc : cl.args with
        | mk l =>
          rw [hcc] at hargs2
          match l, hargs2 with
          | [p, q], _ => exact ⟨p, q, rfl⟩
      have hty' : cl.argTypes = #[t2, t2] := by
        cases hcc : cl.argTypes with
        | mk l => rw [hcc] at hty; simp at hty; rw [hty]
      have hs := hrel 0 s p rfl (by rw [hpq]; rfl)
      have hx := hrel 1 x q rfl (by rw [hpq]; rfl)
      obtain ⟨b, cap, w', N', hrun, hf, hc1, hc2, hra⟩ := append_ok (ty := o.type) hT hr he hsz hby hz hs hx hown hadd h1 h2 h3 h4 h5
      refine wp_val (w' := w') (v := .slice (some ⟨b, 0, none⟩) (n + m) cap) ?_ (hn _ _ _ _ (h7 b cap hf hc1) (hra.put (dok_ok h6) (.ref _ _ _ hc1 hc2)))
      simp only [execOp, ho, resolve, hcl, hpq]
      simp [invoke, builtin, hty', hrun]
    · rename_i x hcl
      split at h <;> try exact h.elim
      rename_i g caps avs hx ha
      rcases h with h | h
      · exact callN_ok ho hcl hx ha hr h hn
      · exact callV_ok ho hcl hx ha hr h hn
    · exact h.elim
  · exact h.elim

end
end Go.Ab
