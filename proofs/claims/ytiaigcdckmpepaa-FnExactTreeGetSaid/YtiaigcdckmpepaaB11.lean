/- The operations on lists of typed elements; the conditions stand in each theorem. -/
import Derived.Test.YtiaigcdckmpepaaB10
/-! Operations on lists of typed elements. -/
set_option linter.unusedVariables false
set_option linter.unusedSectionVars false
set_option linter.unusedSimpArgs false
namespace Go.Bb

/-- What stands at a place. -/
def ix {α : Type} [Inhabited α] (l : List α) (i : Int) : α := l.getD i.toNat default
/-- From one place to another one. -/
def sub {α : Type} (l : List α) (i j : Int) : List α := (l.take j.toNat).drop i.toNat
def byt (s : List UInt8) (i : Int) : Int := ((s.getD i.toNat 0).toNat : Int)

def encS (s : List UInt8) : List AV := [.str s]
def encI (k : IntKind) (n : Int) : List AV := [.int k n]
def encBo (b : Bool) : List AV := [.bool b]
theorem encS_len (s : List UInt8) : (encS s).length = 1 := rfl
theorem encI_len {k : IntKind} (n : Int) : (encI k n).length = 1 := rfl
theorem encBo_len (b : Bool) : (encBo b).length = 1 := rfl
theorem encS_ok (s : List UInt8) : cellsOk (encS s) = true := rfl
theorem encI_ok {k : IntKind} (n : Int) : cellsOk (encI k n) = true := rfl
theorem encBo_ok (b : Bool) : cellsOk (encBo b) = true := rfl
theorem encS_frz (s : List UInt8) : FrzL (encS s) (encS s) := .cons (.refl _ rfl) .nil
theorem encI_frz {k : IntKind} (n : Int) : FrzL (encI k n) (encI k n) := .cons (.refl _ rfl) .nil
theorem encBo_frz (b : Bool) : FrzL (encBo b) (encBo b) := .cons (.refl _ rfl) .nil
theorem encS_cln (s : List UInt8) : ∀ av ∈ encS s, Cln av := fun av h => by simp [encS] at h; subst h; exact .scal _ (.str _)
theorem encI_cln {k : IntKind} (n : Int) : ∀ av ∈ encI k n, Cln av := fun av h => by simp [encI] at h; subst h; exact .scal _ (.int _ _)
theorem encBo_cln (b : Bool) : ∀ av ∈ encBo b, Cln av := fun av h => by simp [encBo] at h; subst h; exact .scal _ (.bool _)

/-! Walking beside a function: what its answer says of its parts -/
section
variable {α β : Type}
theorem ifT {c : Prop} [Decidable c] {a b : Option α} {o : α} (h : (if c then a else b) = some o) (hc : c) : a = some o := by rw [if_pos hc] at h; exact h
theorem ifF {c : Prop} [Decidable c] {a b : Option α} {o : α} (h : (if c then a else b) = some o) (hc : ¬ c) : b = some o := by rw [if_neg hc] at h; exact h
theorem ifS {c : Prop} [Decidable c] {a : Option α} {o : α} (h : (if c then a else none) = some o) : c ∧ a = some o := by
  split at h
  · rename_i hc; exact ⟨hc, h⟩
  · cases h
theorem bnd {x : Option α} {f : α → Option β} {o : β} (h : x.bind f = some o) : ∃ y, x = some y ∧ f y = some o := Option.bind_eq_some_iff.1 h
theorem bT {b : Bool} {a c : Option α} {o : α} (h : (if b = true then a else c) = some o) (hb : b = true) : a = some o := ifT h hb
theorem bF {b : Bool} {a c : Option α} {o : α} (h : (if b = true then a else c) = some o) (hb : b = false) : c = some o := ifF h (by rw [hb]; simp)
theorem dT {c : Prop} [Decidable c] (h : decide c = true) : c := of_decide_eq_true h
theorem dF {c : Prop} [Decidable c] (h : decide c = false) : ¬ c := of_decide_eq_false h
theorem ndT {c : Prop} [Decidable c] (h : (!decide c) = true) : ¬ c := by simpa using h
theorem ndF {c : Prop} [Decidable c] (h : (!decide c) = false) : c := by simpa using h
theorem nT {b : Bool} (h : (!b) = true) : b = false := by simpa using h
theorem nF {b : Bool} (h : (!b) = false) : b = true := by simpa using h
end

section
variable {P : Program} {T : Tab} {c : Cx} {F : Nat → Nat → Prop} {o : Oper} {σ : St} {K : St → Prop} {N : Nat → Prop} {a : Act} {w : World} {all r : List Oper}
variable {d : Option Tmp} {ty : TypeId} {pos : String} {af : Array Edge} {g : Option (Nat × Bool)}
variable {α : Type} [Inhabited α] {f : α → List AV} {l l2 : List α}

theorem getD_map {n : Int} (h0 : 0 ≤ n) (h1 : n < l.length) : (l.map f).getD n.toNat [] = f (ix l n) := by
  have : n.toNat < l.length := by omega
  simp [ix, List.getD, this]
theorem get_map {n : Int} (h0 : 0 ≤ n) (h1 : n < l.length) : (l.map f)[n.toNat]? = some (f (ix l n)) := by
  have : n.toNat < l.length := by omega
  simp [ix, List.getD, this]

theorem v_lenM {z : Bool} (hT : TabOk P T) {x : Operand} {at_ : Array TypeId} {t e : TypeId} (hx : evA σ x = some (.sl z (l.map f))) (ht : at_[0]? = some t) (he : T.elem t = some e) (hd : dok d σ.nt = true) (hK : K (σ.put d (.int .i64 l.length))) : ValOk P c ⟨d, .call ⟨.builtin .len, #[x], at_⟩, ty, pos, af, g⟩ σ K :=
  v_lenL hT hx ht he hd (by rw [List.length_map]; exact hK)
theorem v_lenHM (hT : TabOk P T) {x : Operand} {at_ : Array TypeId} {t e q t' sz : Nat} {v : Value} (hx : ∃ y, evA σ x = some (.hd y v)) (hh : getk q σ.heap = some (v, .osl t' sz (l.map f))) (ht : at_[0]? = some t) (he : T.elem t = some e) (hd : dok d σ.nt = true) (hK : K (σ.put d (.int .i64 l.length))) : ValOk P c ⟨d, .call ⟨.builtin .len, #[x], at_⟩, ty, pos, af, g⟩ σ K :=
  v_lenH hT hx hh ht he hd (by rw [List.length_map]; exact hK)
theorem v_idxM {z : Bool} (hT : TabOk P T) {t e sz : Nat} {x i : Operand} {k : IntKind} {n : Int} {row : List AV} (hx : evA σ x = some (.sl z (l.map f))) (hi : evA σ i = some (.int k n)) (he : T.elem t = some e) (hs : T.size e = some sz)
    (hb : 0 ≤ n ∧ n < l.length) (hrow : f (ix l n) = row) (hlen : row.length = sz) (hd : dok d σ.nt = true) (hK : K (σ.put d (.eptr row))) : ValOk P c ⟨d, .indexAddr t x i, ty, pos, af, g⟩ σ K :=
  v_idxS hT hx hi he hs hb.1 (by rw [List.length_map]; exact hb.2) (by rw [getD_map hb.1 hb.2]; exact hrow) hlen hd hK
theorem v_idxHM (hT : TabOk P T) {t e sz q : Nat} {t' : TypeId} {v : Value} {x i : Operand} {k : IntKind} {n : Int} (hx : ∃ y, evA σ x = some (.hd y v)) (hh : getk q σ.heap = some (v, .osl t' sz (l.map f))) (hi : evA σ i = some (.int k n)) (he : T.elem t = some e) (hs : T.size e = some sz)
    (hb : 0 ≤ n ∧ n < l.length) (hd : dok d σ.nt = true) (hK : K (σ.put d (.rptr q v sz n.toNat 0))) : ValOk P c ⟨d, .indexAddr t x i, ty, pos, af, g⟩ σ K :=
  v_idxH hT hx hh hi he hs hb.1 (by rw [List.length_map]; exact hb.2) hd hK
theorem v_loadRM (hT : TabOk P T) {t t' k sz off n : Nat} {i : Int} {v : Value} {g' : Bool} {x : Operand} {row ls : List AV} {av : AV} (hx : evA σ x = some (.rptr k v sz i.toNat off)) (hh : getk k σ.heap = some (v, .osl t' sz (l.map f))) (hb : 0 ≤ i ∧ i < l.length) (hrow : f (ix l i) = row)
    (hs : T.size t = some n) (hg : T.agg t = some g') (hw : win row off n = some ls) (hp : plainC ls = true) (hm : mkA g' ls = some av) (hd : dok d σ.nt = true) (hK : K (σ.put d av)) : ValOk P c ⟨d, .load t x, ty, pos, af, g⟩ σ K :=
  v_loadR hT hx hh (by rw [get_map hb.1 hb.2, hrow]) hs hg hw hp hm hd hK
theorem v_indexM (hT : TabOk P T) {t : TypeId} {x i : Operand} {k : IntKind} {n : Int} {s : List UInt8} (hx : evA σ x = some (.str s)) (hi : evA σ i = some (.int k n)) (hk : T.kind t = some .string) (hb : 0 ≤ n ∧ n < s.length)
    (hd : dok d σ.nt = true) (hK : K (σ.put d (.int .u8 (byt s n)))) : ValOk P c ⟨d, .index t x i, ty, pos, af, g⟩ σ K := v_index hT hx hi hk hb.1 hb.2 hd hK
theorem v_sliceSM (hT : TabOk P T) {t : TypeId} {x : Operand} {lo hi : Option Operand} {s : List UInt8} {i j : Int} {jj : Option Int} (hx : evA σ x = some (.str s)) (hlo : loA σ lo = some i) (hhi : hiA σ hi = some jj) (hjj : jj.getD s.length = j) (hk : T.kind t = some .string)
    (hb : 0 ≤ i ∧ i ≤ j ∧ j ≤ s.length) (hd : dok d σ.nt = true) (hK : K (σ.put d (.str (sub s i j)))) : ValOk P c ⟨d, .slice t x lo hi none, ty, pos, af, g⟩ σ K :=
  v_sliceS hT hx hlo hhi hk hb.1 (by rw [hjj]; exact hb.2.1) (by rw [hjj]; exact hb.2.2) (by rw [hjj]; rfl) hd hK
theorem v_sliceM {z : Bool} (hT : TabOk P T) {t e sz : TypeId} {x : Operand} {lo hi : Option Operand} {i j : Int} {jj : Option Int} (hx : evA σ x = some (.sl z (l.map f))) (hlo : loA σ lo = some i) (hhi : hiA σ hi = some jj) (hjj : jj.getD l.length = j) (he : T.elem t = some e) (hs : T.size e = some sz)
    (hf : ∀ x, (f x).length = sz) (hb : 0 ≤ i ∧ i ≤ j ∧ j ≤ l.length) (hd : dok d σ.nt = true) (hK : K (σ.put d (.sl z ((sub l i j).map f)))) : ValOk P c ⟨d, .slice t x lo hi none, ty, pos, af, g⟩ σ K :=
  v_sliceL hT hx hlo hhi he hs (fun r hr => by obtain ⟨y, _, rfl⟩ := List.mem_map.1 hr; exact hf y) hb.1 (by rw [List.length_map, hjj]; exact hb.2.1) (by rw [List.length_map, hjj]; exact hb.2.2) (by rw [List.length_map, hjj]; unfold sub; rw [List.map_drop, List.map_take]) hd hK
theorem o_appendHM (hT : TabOk P T) {t e sz by_ q r k e2 : Nat} {x y : Operand} {v vz : Value} {l3 : List α} (hx : ∃ n, evA σ x = some (.hd n v)) (hh : getk q σ.heap = some (v, .osl e sz (l.map f))) (hy : ∃ n, evA σ y = some (.hd n vz)) (hh2 : getk r σ.heap = some (vz, .osl e2 sz (l2.map f))) (hqr : (q == r) = false)
    (he : T.elem t = some e) (hsz : T.size e = some sz) (hby : T.bytes e = some by_) {zl : List AV} (hz : T.zero e = some zl) (hzl : zl.length = sz) (h0 : 0 < sz) (hb0 : 0 < by_) (hc : ∀ x, cellsOk (f x) = true) (hl : l ++ l2 = l3) (hk : has k (minus σ.heap [q, r]) = false) (hd : dok d σ.nt = true)
    (hfit : l3.length * by_ ≤ 140737488355328)
    (hK : ∀ v', K ({ σ with heap := (k, (v', .osl e sz (l3.map f))) :: minus σ.heap [q, r] }.put d (.hd k v'))) : OpOk P c ⟨d, .call ⟨.builtin .append, #[x, y], #[t, t]⟩, ty, pos, af, g⟩ σ K :=
  o_appendH hT hx hh hy hh2 hqr he hsz hby (by rw [hz]; simp [hzl]) h0 hb0 (fun r hr => by obtain ⟨y, _, rfl⟩ := List.mem_map.1 hr; exact hc y) (by rw [← List.map_append, hl]) hk hd (by subst hl; simpa using hfit) hK
theorem o_appendSM {z : Bool} (hT : TabOk P T) {t e sz by_ q k : Nat} {x y : Operand} {v : Value} {l3 : List α} (hx : ∃ n, evA σ x = some (.hd n v)) (hh : getk q σ.heap = some (v, .osl e sz (l.map f))) (hy : evA σ y = some (.sl z (l2.map f)))
    (he : T.elem t = some e) (hsz : T.size e = some sz) (hby : T.bytes e = some by_) {zl : List AV} (hz : T.zero e = some zl) (hzl : zl.length = sz) (h0 : 0 < sz) (hb0 : 0 < by_) (hf : ∀ x, (f x).length = sz) (hc : ∀ x, cellsOk (f x) = true) (hl : l ++ l2 = l3) (hk : has k (minus σ.heap [q]) = false) (hd : dok d σ.nt = true)
    (hfit : l3.length * by_ ≤ 140737488355328)
    (hK : ∀ v', K ({ σ with heap := (k, (v', .osl e sz (l3.map f))) :: minus σ.heap [q] }.put d (.hd k v'))) : OpOk P c ⟨d, .call ⟨.builtin .append, #[x, y], #[t, t]⟩, ty, pos, af, g⟩ σ K :=
  o_appendS hT hx hh hy he hsz hby (by rw [hz]; simp [hzl]) h0 hb0 (fun r hr => by obtain ⟨y, _, rfl⟩ := List.mem_map.1 hr; exact hf y) (fun r hr => by obtain ⟨y, _, rfl⟩ := List.mem_map.1 hr; exact hc y) (by rw [← List.map_append, hl]) hk hd (by subst hl; simpa using hfit) hK
theorem o_sliceHM (hT : TabOk P T) {t e sz q k : Nat} {x : Operand} {lo hi : Option Operand} {v : Value} {j : Int} {jj : Option Int} (hx : ∃ n, evA σ x = some (.hd n v)) (hh : getk q σ.heap = some (v, .osl e sz (l.map f))) (he : T.elem t = some e) (hsz : T.size e = some sz) (hlo : loA σ lo = some 0) (hhi : hiA σ hi = some jj) (hjj : jj.getD l.length = j)
    (hk : has k (minus σ.heap [q]) = false) (hd : dok d σ.nt = true) (hb : 0 ≤ j ∧ j ≤ l.length)
    (hK : ∀ v', K ({ σ with heap := (k, (v', .osl e sz ((l.take j.toNat).map f))) :: minus σ.heap [q] }.put d (.hd k v'))) : OpOk P c ⟨d, .slice t x lo hi none, ty, pos, af, g⟩ σ K :=
  o_sliceH hT hx hh he hsz hlo hhi (by rw [List.length_map]; exact hjj) (by rw [List.map_take]) hk hd hb.1 (by rw [List.length_map]; exact hb.2) hK
theorem o_storeRM (hT : TabOk P T) {t n q sz off : Nat} {i : Int} {u : TypeId} {pv : Value} {x y : Operand} {v : AV} {row vs row' : List AV} {z : α} (hx : evA σ x = some (.rptr q pv sz i.toNat off)) (hh : getk q σ.heap = some (pv, .osl u sz (l.map f))) (hs : T.size t = some n) (hy : evA σ y = some v)
    (hb : 0 ≤ i ∧ i < l.length) (hrow : f (ix l i) = row) (hvs : cellsA v = vs) (hl : vs.length = n) (hin : off + n ≤ sz) (hc : cellsOk vs = true) (hcs : splice row off vs = row') (hz : f z = row') (hd : dok d σ.nt = true)
    (hK : K ({ σ with heap := (q, (pv, .osl u sz ((l.set i.toNat z).map f))) :: minus σ.heap [q] }.put d .und)) : OpOk P c ⟨d, .store t x y, ty, pos, af, g⟩ σ K :=
  o_storeR hT hx hh hs hy (by rw [get_map hb.1 hb.2, hrow]) hvs hl hin hc hcs hd (by rw [← hz, ← List.map_set]; exact hK)
theorem o_makeM (hT : TabOk P T) {t e sz by_ k : Nat} {x y : Operand} {k1 k2 : IntKind} {n : Int} {z : List AV} {zz : α} (he : T.elem t = some e) (hsz : T.size e = some sz) (hby : T.bytes e = some by_) (hz : T.zero e = some z) (hx : evA σ x = some (.int k1 n)) (hy : evA σ y = some (.int k2 n)) (h4 : z.length = sz) (h5 : 0 < sz) (hzz : WkL [] (f zz) z)
    (hk : has k σ.heap = false) (hd : dok d σ.nt = true) (hb : 0 ≤ n ∧ by_ * n ≤ 281474976710656)
    (h3 : n ≤ 9223372036854775807)
    (hK : ∀ v', K ({ σ with heap := (k, (v', .osl e sz ((List.replicate n.toNat zz).map f))) :: σ.heap }.put d (.hd k v'))) : OpOk P c ⟨d, .makeSlice t x y, ty, pos, af, g⟩ σ K :=
  o_makeSlice hT he hsz hby hz hx hy h4 h5 hk hd hb.1 hb.2 h3 hzz (by rw [List.map_replicate] at hK; exact hK)

/-- A call that is handed one variable to write on. -/
theorem o_callP {fn : FuncId} {avs avs1 : List AV} {r0 : AV} {q b : Nat} {t : TypeId} {cs cs' : List AV} (hcore : Core P c σ o fn avs) (hS : Does P fn avs1 [(0, (.pointer (some ⟨b, 0, none⟩), .optr t cs))] (fun r h' => r = r0 ∧ h' = [(0, (.pointer (some ⟨b, 0, none⟩), .optr t cs'))]))
    (hargs : WkL [] avs1 avs) (hh : getk q σ.heap = some (.pointer (some ⟨b, 0, none⟩), .optr t cs)) (hd : dok o.dst σ.nt = true)
    (hK : K ({ σ with heap := (q, (.pointer (some ⟨b, 0, none⟩), .optr t cs')) :: minus σ.heap [q] }.put o.dst r0)) : OpOk P c o σ K := by
  refine o_call [] [] [q] hcore hS trivial hargs ⟨hh, trivial⟩ (by simp) (fun y h => by cases h) ?_
  rintro r h' ⟨rfl, rfl⟩
  refine ⟨r, [(q, _)], .refl _, rfl, by simp [keys], by simp [keys], fun x hx => ?_, .inl rfl, hd, hK⟩
  simp [keys] at hx
  subst hx
  unfold has
  rw [List.contains_eq_mem]
  simp only [decide_eq_false_iff_not]
  intro h
  exact (mem_minus h).1 (by simp)

/-- A text of bytes, each a whole number. -/
def ofI (l : List Int) : List UInt8 := l.map fun n => UInt8.ofNat n.toNat
theorem strOfNums_eq (l : List Int) : strOfNums l = ⟨(ofI l).toArray⟩ := rfl
theorem bytesI_run (hT : TabOk P T) {s t e : TypeId} (he : T.elem s = some e) (hk : T.kind e = some (.int .u8)) (ht : T.kind t = some .string) {l : List Int} {v : Value} {w : World}
    (hv : (v = nilV ∧ l = []) ∨ (∃ ad cap, v = .slice (some ad) 0 cap ∧ l = []) ∨ ∃ b off cap, v = .slice (some ⟨b, off, none⟩) l.length cap ∧ ∀ (i : Nat) x, l[i]? = some x → w.cell? ⟨b, off + i, none⟩ = some (.int .u8 x)) : (convert s t v).run P w = .ok (.string ⟨(ofI l).toArray⟩) w := by
  obtain ⟨d1, h1, h1'⟩ := hT.kind hk
  have hd1 : d1 = .int .u8 := by cases d1 <;> simp [shOf] at h1' <;> rw [h1']
  subst hd1
  obtain ⟨d2, h2, h2'⟩ := hT.kind ht
  have hd2 : d2 = .string := by cases d2 <;> simp [shOf] at h2' <;> rfl
  subst hd2
  rcases hv with ⟨rfl, rfl⟩ | ⟨ad, cap, rfl, rfl⟩ | ⟨b, off, cap, rfl, hc⟩
  · rw [run_convert_bytes_nil w s e (hT.elem he) h1 0 0 t h2]; rfl
  · rw [run_convert_bytes_string w s t e _ 0 cap (hT.elem he) h1 h2, run_bytesToString w ad 0 cap [] (by simpa using run_loadCells_list (P := P) w ad [] (fun j v h => by simp at h))]; rfl
  · rw [run_convert_bytes_arg w s e (hT.elem he) h1 b off l.length cap l rfl (fun i hi => by rw [hc i l[i] (List.getElem?_eq_getElem hi)]; simp [List.getD, hi]) t h2, strOfNums_eq]
theorem v_bytesLI {z : Bool} (hT : TabOk P T) {s t e : TypeId} {x : Operand} {l : List Int} (hx : evA σ x = some (.sl z (l.map (encI .u8)))) (he : T.elem s = some e) (hk : T.kind e = some (.int .u8)) (ht : T.kind t = some .string) (hd : dok d σ.nt = true) (hK : K (σ.put d (.str (ofI l)))) : ValOk P c ⟨d, .convert s t x, ty, pos, af, g⟩ σ K :=
  mkV hd hK fun F N a w hr => by
    have hp := evA_rel hr hx
    have hlen := hp.len
    generalize hv : a.eval x = vx at hp
    refine ⟨.string ⟨(ofI l).toArray⟩, .str _ (by simpa [ofI] using hlen), fun w' hw => ?_⟩
    have : (convert s t vx).run P w' = .ok (.string ⟨(ofI l).toArray⟩) w' := bytesI_run hT he hk ht (by
      generalize hrows : l.map (encI .u8) = rows at hp
      cases hp with
      | slNil => exact .inl ⟨rfl, by simpa using hrows⟩
      | sl _ _ ad cap sz u hs hc hm h1 h2 h3 h4 =>
        rcases Nat.eq_zero_or_pos rows.length with h0 | h0
        · have hl0 : l = [] := by
            have : rows = [] := List.eq_nil_of_length_eq_zero h0
            rw [this] at hrows; simpa using hrows
          subst hl0
          simp at hrows
          subst hrows
          exact .inr (.inl ⟨ad, cap, rfl, rfl⟩)
        · obtain ⟨b, off, sp⟩ := ad
          have hsp := hs h0
          simp only at hsp; subst hsp
          refine .inr (.inr ⟨b, off, cap, by rw [← hrows]; simp, fun i x hi => ?_⟩)
          have hrow : rows[i]? = some (encI .u8 x) := by rw [← hrows, List.getElem?_map, hi]; rfl
          have hsz := h1 i _ hrow
          have h4 := h2 i _ 0 _ hrow rfl
          have h5 := h3 i _ 0 _ hrow rfl
          have e1 : sz = 1 := by rw [← hsz]; rfl
          subst e1
          cases h5u : u i 0 with
          | int k n =>
            rw [h5u] at h5
            cases h5
            have := hw.cell h4.2
            rw [h5u] at this
            simpa using this
          | _ => rw [h5u] at h5; cases h5)
    simp [execOp, hv, this]
theorem v_bytesHI (hT : TabOk P T) {s t e q e' sz : TypeId} {x : Operand} {v : Value} {l : List Int} (hx : ∃ n, evA σ x = some (.hd n v)) (hh : getk q σ.heap = some (v, .osl e' sz (l.map (encI .u8)))) (he : T.elem s = some e) (hk : T.kind e = some (.int .u8)) (ht : T.kind t = some .string) (hd : dok d σ.nt = true) (hK : K (σ.put d (.str (ofI l)))) : ValOk P c ⟨d, .convert s t x, ty, pos, af, g⟩ σ K :=
  mkV hd hK fun F N a w hr => by
    obtain ⟨n, hx⟩ := hx
    have hv := evA_rel hr hx
    have e1 : a.eval x = v := by generalize a.eval x = z at hv; cases hv; rfl
    have ho := hr.heap.own q _ _ hh
    have hlen : l.length ≤ maxLen := by
      generalize hrows : l.map (encI .u8) = rows at ho
      have hll : rows.length = l.length := by rw [← hrows]; simp
      cases ho with
      | frz _ _ _ h => cases h
      | osl0 => simp at hll; omega
      | osl _ _ _ _ b cap arr G u hb hhb hsz hl hm => omega
    refine ⟨.string ⟨(ofI l).toArray⟩, .str _ (by simpa [ofI] using hlen), fun w' hw => ?_⟩
    have : (convert s t v).run P w' = .ok (.string ⟨(ofI l).toArray⟩) w' := bytesI_run hT he hk ht (by
      generalize hrows : l.map (encI .u8) = rows at ho
      cases ho with
      | frz _ _ _ h => cases h
      | osl0 => exact .inl ⟨rfl, by simpa using hrows⟩
      | osl _ _ _ _ b cap arr G u hb hhb hsz hl hm h1 hG hdj hcc hoo =>
        refine .inr (.inr ⟨b, 0, cap, by rw [← hrows]; simp, fun i x hi => ?_⟩)
        have hrow : rows[i]? = some (encI .u8 x) := by rw [← hrows, List.getElem?_map, hi]; rfl
        have hsz' := h1 i _ hrow
        have h4 := hcc i _ 0 _ hrow rfl
        have h5 := hoo i _ 0 _ hrow rfl
        have e1 : sz = 1 := by rw [← hsz']; rfl
        subst e1
        have hcell : w.cell? ⟨b, 0 + i, none⟩ = some (u i 0) := by simp only [World.cell?, hhb]; simpa using h4
        generalize u i 0 = ui at h5 hcell
        cases h5 with
        | frz _ _ _ h5 => cases h5; exact hw.cell hcell)
    simp [execOp, e1, this]
end

/-- How a round, or a part, ends: it goes on, or it returns. -/
inductive Lp (α β : Type) where
  | go (a : α)
  | ret (b : β)
def Lp.then {α β : Type} (o : Lp α β) (f : α → Option β) : Option β := match o with | .go a => f a | .ret b => some b
theorem unret {α β : Type} {m : Option β} {oj : Lp α β} {f : α → Option β} {o : β} (h : (m.bind fun z => some (Lp.ret z)) = some oj) (hJ : oj.then f = some o) : m = some o := by
  obtain ⟨z, hz, h⟩ := bnd h
  cases h
  exact hz.trans hJ
theorem bsplit (b : Bool) : b = true ∨ b = false := by cases b <;> simp
theorem thenQ_ret {K : St → Prop} {Q : Exit → St → Prop} {σ : St} (h : Q .ret σ) : thenQ K Q .ret σ := h
theorem blockQ_ret {id : Nat} {Q : Exit → St → Prop} {σ : St} (h : Q .ret σ) : blockQ id Q .ret σ := h
theorem blockQ_norm {id : Nat} {Q : Exit → St → Prop} {σ : St} (h : Q .normal σ) : blockQ id Q .normal σ := h
/-- What follows gets a name. -/
theorem good_named {P : Program} {c : Cx} {x : Code} {σ : St} {Q : Exit → St → Prop} (h : ∀ K : St → Prop, (∀ σ', Q .normal σ' → K σ') → Good P c x σ (thenQ K Q)) : Good P c x σ Q :=
  (h (Q .normal) fun _ h => h).mono (by intro e σ' h; cases e <;> exact h)
end Go.Bb
