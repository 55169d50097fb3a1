/- An argument of a law reads as plain data, and a contract gives the walk of a law; the conditions stand in each theorem. -/
import Derived.Test.YthokajebopeomaaAb12
import Derived.Carry
/-! The arguments of a law, and what is left of them. -/
set_option linter.unusedVariables false
namespace Go.Ab

def argOf (P : Program) (n : Nat) (t : TypeId) (av : AV) : Prop := match P.underlying t with
  | some (.struct _) => ∃ avs, av = .agg avs ∧ rd P n t avs
  | _ => rd P n t [av]

def rdF (P : Program) (n : Nat) : List Field → List (List AV) → Prop
  | [], [] => True
  | f :: fs, p :: ps => rd P n f.type p ∧ rdF P n fs ps
  | _, _ => False
section
variable {P : Program} {n : Nat} {t : TypeId} {avs : List AV}
theorem rd_zero (h : rd P 0 t avs) : False := h
theorem rd_bool (hu : P.underlying t = some .bool) (h : rd P n t avs) : ∃ b, avs = [.bool b] := by
  cases n with | zero => exact h.elim | succ n => simp only [rd, hu] at h; exact h
theorem rd_int {k : IntKind} (hu : P.underlying t = some (.int k)) (h : rd P n t avs) : ∃ i, avs = [.int k i] ∧ (Lit.int k i).wf = true := by
  cases n with | zero => exact h.elim | succ n => simp only [rd, hu] at h; exact h
theorem rd_string (hu : P.underlying t = some .string) (h : rd P n t avs) : ∃ l, avs = [.str l] := by
  cases n with | zero => exact h.elim | succ n => simp only [rd, hu] at h; exact h
theorem rd_slice {e : TypeId} (hu : P.underlying t = some (.slice e)) (h : rd P n t avs) : ∃ rows, avs = [.sl rows] ∧ ∀ r ∈ rows, rd P (n - 1) e r := by
  cases n with | zero => exact h.elim | succ n => simp only [rd, hu] at h; exact h
theorem rdF_of : ∀ (fs : List Field) (ps : List (List AV)), ps.length = fs.length → (∀ (i : Nat) (f : Field) p, fs[i]? = some f → ps[i]? = some p → rd P n f.type p) → rdF P n fs ps
  | [], [], _, _ => trivial
  | f :: fs, p :: ps, hl, h => ⟨h 0 f p rfl rfl, rdF_of fs ps (by simpa using hl) fun i f p h1 h2 => h (i + 1) f p (by simpa using h1) (by simpa using h2)⟩
  | [], _ :: _, hl, _ => by simp at hl
  | _ :: _, [], hl, _ => by simp at hl
theorem rd_struct {fs : Array Field} (hu : P.underlying t = some (.struct fs)) (h : rd P n t avs) : ∃ parts : List (List AV), 0 < n ∧ avs = parts.flatten ∧ rdF P (n - 1) fs.toList parts := by
  cases n with
  | zero => exact h.elim
  | succ n =>
    simp only [rd, hu] at h
    obtain ⟨parts, h1, h2, h3⟩ := h
    exact ⟨parts, by omega, h1, rdF_of _ _ h2 h3⟩
theorem rdF_cons {f : Field} {fs : List Field} {ps : List (List AV)} (h : rdF P n (f :: fs) ps) : ∃ p qs, ps = p :: qs ∧ rd P n f.type p ∧ rdF P n fs qs := by
  cases ps with
  | nil => exact h.elim
  | cons p qs => exact ⟨p, qs, rfl, h⟩
theorem rdF_nil {ps : List (List AV)} (h : rdF P n [] ps) : ps = [] := by
  cases ps with
  | nil => rfl
  | cons p qs => exact h.elim
theorem rows_of {α : Type} {f : α → List AV} {rows : List (List AV)} (h : ∀ r ∈ rows, ∃ x, r = f x) : ∃ l : List α, rows = l.map f := by
  induction rows with
  | nil => exact ⟨[], rfl⟩
  | cons r rows ih =>
    obtain ⟨x, rfl⟩ := h r (by simp)
    obtain ⟨l, rfl⟩ := ih fun r hr => h r (by simp [hr])
    exact ⟨x :: l, rfl⟩
theorem argOf_struct {fs : Array Field} {av : AV} (hu : P.underlying t = some (.struct fs)) (h : argOf P n t av) : ∃ avs, av = .agg avs ∧ rd P n t avs := by
  simp only [argOf, hu] at h; exact h
end

section
variable {H : Type} {enc : TypeId × Value → H} {P : Program} {W : World} {L : List TypeId}

theorem RelL.arr {N : Nat → Prop} {w : World} {avs : List AV} {vs : Array Value} (h : RelL N w avs vs.toList) : RelV N w (.agg avs) (.agg vs) := by
  refine .agg avs vs (by rw [h.len]; simp) (fun i av v h1 h2 => ?_)
  obtain ⟨v', h3, h4⟩ := h.get i av h1
  rw [Array.getElem?_toList, h2] at h3
  cases h3; exact h4

theorem arg_rd (hL : plainB P L = true) {base : Nat} {t : TypeId} (ht : L.contains t = true) {v : Value} (hv : Value.okWide P W .any base t v) {d : DataW H} {p : List MemPlace}
    (h : DataW.Trod enc P W 0 (fun _ => true) true t v d p) : ∃ n av, RelV (fun _ => False) W av v ∧ argOf P n t av := by
  obtain ⟨n, hn⟩ := h
  obtain ⟨avs, h1, h2⟩ := trod_rd hL n t _ _ ht hn
  have hp := List.all_eq_true.1 hL t (by simpa using ht)
  unfold Value.okWide at hv
  unfold argOf
  refine ⟨n, ?_⟩
  cases hu : P.underlying t with
  | none => rw [hu] at hp; cases hp
  | some ty =>
    rw [hu] at hv hp
    cases ty with
    | struct fs =>
      obtain ⟨cs, rfl, _, _⟩ := hv
      exact ⟨.agg avs, h1.arr, avs, rfl, h2⟩
    | bool | int k | string | slice e =>
      simp only [Cell.okWide, Cell.ok, hu] at hv
      cases v <;> simp [Value.cells] at hv h1 <;> (
        cases h1 with
        | cons h3 h4 =>
          cases h4
          exact ⟨_, h3, h2⟩)
    | _ => simp at hp


/-- A law's walk, out of its contract. -/
theorem law_walk {P : Program} {f : FuncId} {avs : List AV} {args : Array Value} {W : World} (hD : Does P f avs [] (ret (.bool true))) (hr : RelVs (fun _ => False) W avs args) :
    Calls P f args W fun e W' => e = .returned (.bool true) ∧ RowKit.Below W.heap.size W W' := by
  refine (hD.2 _ W args hr (fun b o hb => by cases hb)).mono ?_
  rintro e w' ⟨v, r, h', N', rfl, ⟨rfl, rfl⟩, hv, _, _, hu⟩
  cases hv
  exact ⟨rfl, hu.os, hu.tape, hu.output, hu.size, fun k hk => hu.block k hk (by simp [keys])⟩

theorem relVs_one {N : Nat → Prop} {w : World} {av : AV} {v : Value} (h : RelV N w av v) : RelVs N w [av] #[v] := by
  refine ⟨rfl, fun i a u h1 h2 => ?_⟩
  cases i with
  | zero => simp at h1 h2; subst h1; subst h2; exact h
  | succ i => simp at h1

end
end Go.Ab
