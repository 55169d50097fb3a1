/- Parts of a proof, put together; the conditions stand in each theorem. -/
import Derived.ProofKit
import Derived.SizedLaws
import Derived.Below
import Derived.Carry
import Derived.Test.YtiaigcdckmpepaaXO4
section
/-! What is handed in, read as data: the cells of plain types. -/
set_option linter.unusedVariables false
namespace Go.Bb

inductive RelL (N : Nat → Prop) (w : World) : List AV → List Value → Prop
  | nil : RelL N w [] []
  | cons {av : AV} {v : Value} {avs : List AV} {vs : List Value} (h : RelV N w av v) (hs : RelL N w avs vs) : RelL N w (av :: avs) (v :: vs)

section
variable {N : Nat → Prop} {w : World}
theorem RelL.append {a b : List AV} {c d : List Value} (h : RelL N w a c) (k : RelL N w b d) : RelL N w (a ++ b) (c ++ d) := by
  induction h with
  | nil => exact k
  | cons h _ ih => exact .cons h ih
theorem RelL.len {a : List AV} {c : List Value} (h : RelL N w a c) : a.length = c.length := by
  induction h with
  | nil => rfl
  | cons _ _ ih => simp [ih]
theorem RelL.get {a : List AV} {c : List Value} (h : RelL N w a c) : ∀ (j : Nat) av, a[j]? = some av → ∃ v, c[j]? = some v ∧ RelV N w av v := by
  induction h with
  | nil => intro j av h; simp at h
  | cons h _ ih =>
    intro j av hj
    cases j with
    | zero => simp at hj; subst hj; exact ⟨_, rfl, h⟩
    | succ j => simpa using ih j av (by simpa using hj)
theorem RelL.one {av : AV} {v : Value} (h : RelV N w av v) : RelL N w [av] [v] := .cons h .nil
end

def rd (P : Program) : Nat → TypeId → List AV → Prop
  | 0, _, _ => False
  | n + 1, t, avs => match P.underlying t with
    | some .bool => ∃ b, avs = [.bool b]
    | some (.int k) => ∃ i, avs = [.int k i] ∧ (Lit.int k i).wf = true
    | some .string => ∃ l, avs = [.str l]
    | some (.slice e) => ∃ rows, avs = [.sl false rows] ∧ ∀ r ∈ rows, rd P n e r
    | some (.struct fs) => ∃ parts : List (List AV), avs = parts.flatten ∧ parts.length = fs.toList.length ∧ ∀ (i : Nat) (f : Field) p, fs.toList[i]? = some f → parts[i]? = some p → rd P n f.type p
    | _ => False

def layB (P : Program) : Nat → List Field → Option Nat
  | o, [] => some o
  | o, f :: fs => if f.offset = o then layB P (o + P.cellsOf f.type) fs else none

def plainB (P : Program) (L : List TypeId) : Bool := L.all fun t => match P.underlying t with
  | some .bool | some (.int _) | some .string => true
  | some (.slice e) => L.contains e && decide (0 < P.cellsOf e)
  | some (.struct fs) => fs.toList.all (fun f => L.contains f.type) && decide (layB P 0 fs.toList = some (P.cellsOf t))
  | _ => false

theorem exists_list {α : Type} {p : Nat → α → Prop} : ∀ n : Nat, (∀ i, i < n → ∃ x, p i x) → ∃ l : List α, l.length = n ∧ ∀ (i : Nat) x, l[i]? = some x → p i x
  | 0, _ => ⟨[], rfl, fun i x h => by simp at h⟩
  | n + 1, h => by
    obtain ⟨l, h1, h2⟩ := exists_list n (fun i hi => h i (by omega))
    obtain ⟨x, hx⟩ := h n (by omega)
    refine ⟨l ++ [x], by simp [h1], fun i y hy => ?_⟩
    rw [List.getElem?_append] at hy
    split at hy
    · exact h2 i y hy
    · have : i - l.length = 0 := by
        rcases Nat.eq_zero_or_pos (i - l.length) with h | h
        · exact h
        · rw [List.getElem?_eq_none (by simp only [List.length_singleton]; omega)] at hy; cases hy
      rw [this] at hy
      simp at hy
      subst hy
      rw [show i = n by omega]; exact hx

theorem cell_add {w : World} {a : Addr} (hs : a.spot = none) (n : Nat) : w.cell? (a.add n) = w.cell? ⟨a.block, a.off + n, none⟩ := by
  rw [add_none _ _ hs]

section
variable {H : Type} {enc : TypeId × Value → H} {P : Program} {w : World} {L : List TypeId}

theorem lay_rel {n : Nat} {cs : List Value} (ih : ∀ (f : Field) (x : DataW H × List MemPlace), DataW.trod enc P w 0 (fun _ => true) true n f.type ((cs.drop f.offset).take (P.cellsOf f.type)) = some x → L.contains f.type = true →
      ∃ avs, RelL (fun _ => False) w avs ((cs.drop f.offset).take (P.cellsOf f.type)) ∧ rd P n f.type avs) :
    ∀ (fs : List Field) (o e : Nat) (xs : List (DataW H × List MemPlace)), layB P o fs = some e → fs.all (fun f => L.contains f.type) = true → fs.mapM (fun f => DataW.trod enc P w 0 (fun _ => true) true n f.type ((cs.drop f.offset).take (P.cellsOf f.type))) = some xs →
      o ≤ e ∧ ∃ parts : List (List AV), RelL (fun _ => False) w parts.flatten ((cs.drop o).take (e - o)) ∧ parts.length = fs.length ∧ ∀ (i : Nat) (f : Field) p, fs[i]? = some f → parts[i]? = some p → rd P n f.type p
  | [], o, e, xs, h, _, _ => by
    cases h
    refine ⟨Nat.le_refl _, [], by simp; exact .nil, rfl, fun i f p h => by simp at h⟩
  | f :: fs, o, e, xs, h, hL, hm => by
    simp only [layB] at h
    split at h
    · rename_i ho
      simp only [List.all_cons, Bool.and_eq_true] at hL
      rw [List.mapM_cons] at hm
      simp only [bind, Option.bind_eq_some_iff, pure, Option.some.injEq] at hm
      obtain ⟨x, hx, xs', hxs, rfl⟩ := hm
      obtain ⟨hle, parts, h1, h2, h3⟩ := lay_rel ih fs _ e xs' h hL.2 hxs
      obtain ⟨avs, h4, h5⟩ := ih f x hx hL.1
      rw [ho] at h4
      refine ⟨by omega, avs :: parts, ?_, by simp [h2], ?_⟩
      · have e1 : e - o = P.cellsOf f.type + (e - (o + P.cellsOf f.type)) := by omega
        rw [e1, List.take_add, List.drop_drop, List.flatten_cons]
        exact h4.append h1
      · intro i f' p hf hp
        cases i with
        | zero => simp at hf hp; subst hf; subst hp; exact h5
        | succ i => exact h3 i f' p (by simpa using hf) (by simpa using hp)
    · cases h

theorem trod_rd (hL : plainB P L = true) : ∀ (n : Nat) (t : TypeId) (cs : List Value) (x : DataW H × List MemPlace), L.contains t = true → DataW.trod enc P w 0 (fun _ => true) true n t cs = some x →
    ∃ avs, RelL (fun _ => False) w avs cs ∧ rd P n t avs
  | 0, t, cs, x, _, h => by simp [DataW.trod] at h
  | n + 1, t, cs, x, ht, h => by
    have hp := List.all_eq_true.1 hL t (by simpa using ht)
    unfold DataW.trod at h
    unfold rd
    split at hp
    · rename_i hu
      rw [hu] at h
      split at h <;> try (simp_all; done)
      rename_i b _
      exact ⟨[.bool b], .one (.bool b), b, rfl⟩
    · rename_i k hu
      rw [hu] at h
      split at h <;> try (simp_all; done)
      rename_i k1 k' i hk
      cases hk
      split at h
      · rename_i hk
        obtain ⟨rfl, hw⟩ := hk
        exact ⟨[.int k' i], .one (.int k' i), i, rfl, hw⟩
      · cases h
    · rename_i hu
      rw [hu] at h
      split at h <;> try (simp_all; done)
      rename_i s _
      split at h
      · rename_i hs
        refine ⟨[.str s.data.toList], .one ?_, _, rfl⟩
        have := RelV.str (N := fun _ => False) (w := w) s.data.toList (by simpa using hs)
        simpa using this
      · cases h
    · rename_i e hu
      rw [hu] at h
      simp only [Bool.and_eq_true, decide_eq_true_eq] at hp
      obtain ⟨hLe, hsz⟩ := hp
      split at h <;> try (simp_all; done)
      · exact ⟨[.sl false []], .one (.slNil _), [], rfl, fun r hr => by simp at hr⟩
      · rename_i e' a len cap he
        cases he
        simp only at h
        split at h
        · rename_i hc
          obtain ⟨_, hlc, hcm⟩ := hc
          simp only [Option.bind_eq_some_iff] at h
          obtain ⟨elems, hel, _⟩ := h
          have hget : ∀ i, i < len → ∃ r : List AV, (∃ c, w.cells? 0 (a.add (i * P.cellsOf e)) (P.cellsOf e) = some c ∧ RelL (fun _ => False) w r c) ∧ rd P n e r := by
            intro i hi
            have hl := mapM_some_length hel
            have h1 := mapM_some_get hel i i (by simp [hi])
            have h2 : elems[i]? = some (elems[i]'(by simp at hl; omega)) := List.getElem?_eq_getElem _
            rw [h2] at h1
            simp only [Option.bind_eq_some_iff] at h1
            obtain ⟨c, hc1, hc2⟩ := h1
            obtain ⟨avs, h3, h4⟩ := trod_rd hL n e c _ hLe hc2
            exact ⟨avs, ⟨c, hc1, h3⟩, h4⟩
          obtain ⟨rows, hrl, hrows⟩ := exists_list len hget
          have hspot : 0 < rows.length → a.spot = none := by
            intro hpos
            obtain ⟨⟨c, hc1, hc2⟩, _⟩ := hrows 0 _ (List.getElem?_eq_getElem hpos)
            obtain ⟨_, hcl, hcc⟩ := World.cells?_some hc1
            have h0 := hcc 0 hsz
            simp only [Nat.zero_mul, Addr.add, if_true] at h0
            rw [List.getElem?_eq_getElem (by omega)] at h0
            unfold World.cell? at h0
            split at h0
            · split at h0
              · cases h0
              · rename_i hsp; simpa using hsp
            · cases h0
          have hcell : ∀ (i : Nat) row (j : Nat) av, rows[i]? = some row → row[j]? = some av → ∃ v, w.cell? ⟨a.block, a.off + (i * P.cellsOf e + j), none⟩ = some v ∧ RelV (fun _ => False) w av v := by
            intro i row j av hi hj
            obtain ⟨⟨c, hc1, hc2⟩, _⟩ := hrows i row hi
            obtain ⟨_, hcl, hcc⟩ := World.cells?_some hc1
            obtain ⟨v, hv1, hv2⟩ := hc2.get j av hj
            have hjl : j < P.cellsOf e := by
              rw [← hcl]; exact (List.getElem?_eq_some_iff.1 hv1).1
            have h1 := hcc j hjl
            have hsp := hspot (by have := (List.getElem?_eq_some_iff.1 hi).1; omega)
            rw [add_none a (i * P.cellsOf e) hsp, add_none _ _ rfl, hv1] at h1
            refine ⟨v, ?_, hv2⟩
            rw [← h1, Nat.add_assoc]
          refine ⟨[.sl false rows], .one ?_, rows, rfl, fun r hr => ?_⟩
          · rw [← hrl]
            refine .sl false rows a cap (P.cellsOf e) (fun i j => (w.cell? ⟨a.block, a.off + (i * P.cellsOf e + j), none⟩).getD undef) hspot (by omega) hcm ?_ ?_ ?_ (fun h => by cases h)
            · intro i row hi
              obtain ⟨⟨c, hc1, hc2⟩, _⟩ := hrows i row hi
              rw [hc2.len, (World.cells?_some hc1).2.1]
            · intro i row j av hi hj
              obtain ⟨v, h1, _⟩ := hcell i row j av hi hj
              exact ⟨fun h => h, by rw [h1]; rfl⟩
            · intro i row j av hi hj
              obtain ⟨v, h1, h2⟩ := hcell i row j av hi hj
              simp only [h1, Option.getD_some]; exact h2
          · obtain ⟨i, hi⟩ := List.getElem?_of_mem hr
            exact (hrows i r hi).2
        · cases h
    · rename_i fs hu
      rw [hu] at h
      simp only [Bool.and_eq_true, decide_eq_true_eq] at hp
      obtain ⟨hLf, hlay⟩ := hp
      split at h <;> try (simp_all; done)
      rename_i fs' hfs
      cases hfs
      split at h
      · rename_i hlen
        simp only [Option.map_eq_some_iff] at h
        obtain ⟨xs, hxs, _⟩ := h
        obtain ⟨_, parts, h1, h2, h3⟩ := lay_rel (L := L) (fun f x hx hLx => trod_rd hL n f.type _ x hLx hx) fs.toList 0 _ xs hlay hLf hxs
        refine ⟨parts.flatten, ?_, parts, rfl, h2, h3⟩
        simp only [List.drop_zero, Nat.sub_zero] at h1
        rw [← hlen, List.take_length] at h1
        exact h1
      · cases h
    · cases hp
end

end Go.Bb

namespace Go.Bb

def argOf (P : Program) (n : Nat) (t : TypeId) (av : AV) : Prop := match P.underlying t with
  | some (.struct _) => ∃ avs, av = .agg avs ∧ rd P n t avs
  | _ => rd P n t [av]

def rdF (P : Program) (n : Nat) : List Field → List (List AV) → Prop
  | [], [] => True
  | f :: fs, p :: ps => rd P n f.type p ∧ rdF P n fs ps
  | _, _ => False
section
variable {P : Program} {n : Nat} {t : TypeId} {avs : List AV}
theorem rd_zero (h : rd P 0 t avs) : False := h
theorem rd_bool (hu : P.underlying t = some .bool) (h : rd P n t avs) : ∃ b, avs = [.bool b] := by
  cases n with | zero => exact h.elim | succ n => simp only [rd, hu] at h; exact h
theorem rd_int {k : IntKind} (hu : P.underlying t = some (.int k)) (h : rd P n t avs) : ∃ i, avs = [.int k i] ∧ (Lit.int k i).wf = true := by
  cases n with | zero => exact h.elim | succ n => simp only [rd, hu] at h; exact h
theorem rd_string (hu : P.underlying t = some .string) (h : rd P n t avs) : ∃ l, avs = [.str l] := by
  cases n with | zero => exact h.elim | succ n => simp only [rd, hu] at h; exact h
theorem rd_slice {e : TypeId} (hu : P.underlying t = some (.slice e)) (h : rd P n t avs) : ∃ rows, avs = [.sl false rows] ∧ ∀ r ∈ rows, rd P (n - 1) e r := by
  cases n with | zero => exact h.elim | succ n => simp only [rd, hu] at h; exact h
theorem rdF_of : ∀ (fs : List Field) (ps : List (List AV)), ps.length = fs.length → (∀ (i : Nat) (f : Field) p, fs[i]? = some f → ps[i]? = some p → rd P n f.type p) → rdF P n fs ps
  | [], [], _, _ => trivial
  | f :: fs, p :: ps, hl, h => ⟨h 0 f p rfl rfl, rdF_of fs ps (by simpa using hl) fun i f p h1 h2 => h (i + 1) f p (by simpa using h1) (by simpa using h2)⟩
  | [], _ :: _, hl, _ => by simp at hl
  | _ :: _, [], hl, _ => by simp at hl
theorem rd_struct {fs : Array Field} (hu : P.underlying t = some (.struct fs)) (h : rd P n t avs) : ∃ parts : List (List AV), 0 < n ∧ avs = parts.flatten ∧ rdF P (n - 1) fs.toList parts := by
  cases n with
  | zero => exact h.elim
  | succ n =>
    simp only [rd, hu] at h
    obtain ⟨parts, h1, h2, h3⟩ := h
    exact ⟨parts, by omega, h1, rdF_of _ _ h2 h3⟩
theorem rdF_cons {f : Field} {fs : List Field} {ps : List (List AV)} (h : rdF P n (f :: fs) ps) : ∃ p qs, ps = p :: qs ∧ rd P n f.type p ∧ rdF P n fs qs := by
  cases ps with
  | nil => exact h.elim
  | cons p qs => exact ⟨p, qs, rfl, h⟩
theorem rdF_nil {ps : List (List AV)} (h : rdF P n [] ps) : ps = [] := by
  cases ps with
  | nil => rfl
  | cons p qs => exact h.elim
theorem rows_of {α : Type} {f : α → List AV} {rows : List (List AV)} (h : ∀ r ∈ rows, ∃ x, r = f x) : ∃ l : List α, rows = l.map f := by
  induction rows with
  | nil => exact ⟨[], rfl⟩
  | cons r rows ih =>
    obtain ⟨x, rfl⟩ := h r (by simp)
    obtain ⟨l, rfl⟩ := ih fun r hr => h r (by simp [hr])
    exact ⟨x :: l, rfl⟩
theorem argOf_struct {fs : Array Field} {av : AV} (hu : P.underlying t = some (.struct fs)) (h : argOf P n t av) : ∃ avs, av = .agg avs ∧ rd P n t avs := by
  simp only [argOf, hu] at h; exact h
end

section
variable {H : Type} {enc : TypeId × Value → H} {P : Program} {W : World} {L : List TypeId}

theorem RelL.arr {N : Nat → Prop} {w : World} {avs : List AV} {vs : Array Value} (h : RelL N w avs vs.toList) : RelV N w (.agg avs) (.agg vs) := by
  refine .agg avs vs (by rw [h.len]; simp) (fun i av v h1 h2 => ?_)
  obtain ⟨v', h3, h4⟩ := h.get i av h1
  rw [Array.getElem?_toList, h2] at h3
  cases h3; exact h4

theorem arg_rd (hL : plainB P L = true) {base : Nat} {t : TypeId} (ht : L.contains t = true) {v : Value} (hv : Value.okWide P W .any base t v) {d : DataW H} {p : List MemPlace}
    (h : DataW.Trod enc P W 0 (fun _ => true) true t v d p) : ∃ n av, RelV (fun _ => False) W av v ∧ argOf P n t av := by
  obtain ⟨n, hn⟩ := h
  obtain ⟨avs, h1, h2⟩ := trod_rd hL n t _ _ ht hn
  have hp := List.all_eq_true.1 hL t (by simpa using ht)
  unfold Value.okWide at hv
  unfold argOf
  refine ⟨n, ?_⟩
  cases hu : P.underlying t with
  | none => rw [hu] at hp; cases hp
  | some ty =>
    rw [hu] at hv hp
    cases ty with
    | struct fs =>
      obtain ⟨cs, rfl, _, _⟩ := hv
      exact ⟨.agg avs, h1.arr, avs, rfl, h2⟩
    | bool | int k | string | slice e =>
      simp only [Cell.okWide, Cell.ok, hu] at hv
      cases v <;> simp [Value.cells] at hv h1 <;> (
        cases h1 with
        | cons h3 h4 =>
          cases h4
          exact ⟨_, h3, h2⟩)
    | _ => simp at hp


/-- A law's walk, out of its contract. -/
theorem law_walk {P : Program} {f : FuncId} {avs : List AV} {args : Array Value} {W : World} (hD : Does P f avs [] (ret (.bool true))) (hr : RelVs (fun _ => False) W avs args) :
    Calls P f args W fun e W' => e = .returned (.bool true) ∧ RowKit.Below W.heap.size W W' := by
  refine (hD.2 (fun _ _ => False) (fun _ => False) W args hr ⟨(fun x v o h => by cases h), (fun x h => by cases h), (fun x y h => by cases h), (fun x v o h => by cases h)⟩).mono ?_
  rintro e w' ⟨v, r, h', F', N', rfl, ⟨rfl, rfl⟩, hv, _, _, _, _, hu⟩
  cases hv
  exact ⟨rfl, hu.os, hu.tape, hu.output, hu.size, fun k hk => hu.block k hk (by simp [keys])⟩

theorem relVs_one {N : Nat → Prop} {w : World} {av : AV} {v : Value} (h : RelV N w av v) : RelVs N w [av] #[v] := by
  refine ⟨rfl, fun i a u h1 h2 => ?_⟩
  cases i with
  | zero => simp at h1 h2; subst h1; subst h2; exact h
  | succ i => simp at h1

end
end Go.Bb
end
section
/-! Values that are handed in. -/
set_option linter.unusedVariables false
namespace Go.Proofs.Ytiaigcdckmpepaa
open Go.Bb

def valTypes : List TypeId := [25, 3, 9, 22, 23]
theorem rd_strs {n : Nat} {avs : List AV} (h : rd Try.prog n 23 avs) : ∃ l : List Bs, avs = [.sl false (l.map encS)] := by
  obtain ⟨rows, rfl, hrs⟩ := rd_slice Try.underlying23 h
  obtain ⟨l, rfl⟩ := rows_of (f := encS) fun r hr => rd_string Try.underlying9 (hrs r hr)
  exact ⟨l, rfl⟩
theorem rd_val (n : Nat) : ∀ (avs : List AV), rd Try.prog n 25 avs → ∃ v, avs = encLVal v := by
  induction n using Nat.strongRecOn with
  | ind n ih =>
    intro avs h
    obtain ⟨parts, hn, e, h'⟩ := rd_struct Try.underlying25 h
    obtain ⟨p1, q1, rfl, h1, h'⟩ := rdF_cons h'
    obtain ⟨p2, q2, rfl, h2, h'⟩ := rdF_cons h'
    obtain ⟨p3, q3, rfl, h3, h'⟩ := rdF_cons h'
    obtain ⟨p4, q4, rfl, h4, h'⟩ := rdF_cons h'
    obtain ⟨p5, q5, rfl, h5, h'⟩ := rdF_cons h'
    obtain rfl := rdF_nil h'
    obtain ⟨a, rfl, _⟩ := rd_int Try.underlying3 h1
    obtain ⟨b, rfl, _⟩ := rd_int Try.underlying3 h2
    obtain ⟨s, rfl⟩ := rd_string Try.underlying9 h3
    obtain ⟨rows, rfl, hrs⟩ := rd_slice Try.underlying22 h4
    obtain ⟨ns, rfl⟩ := rd_strs h5
    obtain ⟨l, rfl⟩ := rows_of (f := encLVal) fun r hr => ih (n - 1 - 1) (by omega) r (hrs r hr)
    exact ⟨.mk a b s l ns, by rw [e, encLVal_eq]; simp⟩
end Go.Proofs.Ytiaigcdckmpepaa
end
section
/-! Arguments. -/
set_option linter.unusedVariables false
set_option maxRecDepth 100000
namespace Go.Bb
section
variable {P : Program} {t : TypeId} {n : Nat}
theorem argOf_slice {e : TypeId} {av : AV} (hu : P.underlying t = some (.slice e)) (h : argOf P n t av) : rd P n t [av] := by
  simp only [argOf, hu] at h; exact h
theorem argOf_string {av : AV} (hu : P.underlying t = some .string) (h : argOf P n t av) : ∃ l, av = .str l := by
  simp only [argOf, hu] at h
  obtain ⟨l, hl⟩ := rd_string hu h
  exact ⟨l, by simpa using hl⟩
theorem argOf_int {k : IntKind} {av : AV} (hu : P.underlying t = some (.int k)) (h : argOf P n t av) : ∃ i, av = .int k i ∧ (Lit.int k i).wf = true := by
  simp only [argOf, hu] at h
  obtain ⟨l, hl, h2⟩ := rd_int hu h
  exact ⟨l, by simpa using hl, h2⟩
theorem relVs_of {N : Nat → Prop} {w : World} {avs : List AV} {vs : List Value} (h : RelL N w avs vs) : RelVs N w avs vs.toArray := by
  refine ⟨by simp [h.len], fun i av v h1 h2 => ?_⟩
  obtain ⟨u, h3, h4⟩ := h.get i av h1
  simp only [List.getElem?_toArray] at h2
  rw [h3] at h2; cases h2; exact h4
end
end Go.Bb
namespace Go.Proofs.Ytiaigcdckmpepaa
open Go.Bb
theorem arg_strs {n : Nat} {av : AV} (h : argOf Try.prog n 23 av) : ∃ l : List Bs, av = .sl false (l.map encS) := by
  obtain ⟨l, hl⟩ := rd_strs (argOf_slice Try.underlying23 h)
  exact ⟨l, by simpa using hl⟩
theorem arg_bytes {n : Nat} {av : AV} (h : argOf Try.prog n 42 av) : ∃ l : List Int, av = .sl false (l.map (encI .u8)) ∧ ∀ x ∈ l, 0 ≤ x ∧ x ≤ 255 := by
  obtain ⟨rows, h1, h2⟩ := rd_slice Try.underlying42 (argOf_slice Try.underlying42 h)
  obtain ⟨l, hl⟩ := rows_of (f := fun x : { x : Int // 0 ≤ x ∧ x ≤ 255 } => encI .u8 x.1) fun r hr => by
    obtain ⟨i, h3, h4⟩ := rd_int Try.underlying5 (h2 r hr)
    refine ⟨⟨i, ?_⟩, h3⟩
    simp [Lit.wf, IntKind.min, IntKind.max, IntKind.signed, IntKind.bits] at h4
    omega
  refine ⟨l.map (·.1), ?_, fun x hx => ?_⟩
  · have : av = .sl false rows := by simpa using h1
    rw [this, hl, List.map_map]; rfl
  · obtain ⟨y, _, rfl⟩ := List.mem_map.1 hx
    exact y.2
end Go.Proofs.Ytiaigcdckmpepaa
end
