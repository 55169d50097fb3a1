/- Types of schemas as data, and their cells; the conditions stand in each theorem. -/
import Derived.Test.YthokajebopeomaaEnc
/-! Types of schemas as data. -/
set_option linter.unusedVariables false
set_option linter.unusedSimpArgs false
namespace Go.Ab

inductive Typ where
  | mk (name : List UInt8) (of : List Typ) (must : Bool)
  deriving Inhabited
def Typ.name : Typ → List UInt8 | .mk n _ _ => n
def Typ.of : Typ → List Typ | .mk _ o _ => o
def Typ.must : Typ → Bool | .mk _ _ m => m

mutual
def encT : Typ → List AV
  | .mk n o m => [.str n, .sl (encTs o), .bool m]
def encTs : List Typ → List (List AV)
  | [] => []
  | t :: l => encT t :: encTs l
end
theorem encTs_eq (l : List Typ) : encTs l = l.map encT := by induction l <;> simp_all [encTs]
theorem encT_eq (t : Typ) : encT t = [.str t.name, .sl (t.of.map encT), .bool t.must] := by
  cases t; simp [encT, encTs_eq, Typ.name, Typ.of, Typ.must]

section
variable (t : Typ)
@[simp] theorem encT_length : (encT t).length = 3 := by rw [encT_eq]; rfl
@[simp] theorem encT_cell : cellsOk (encT t) = true := by rw [encT_eq]; rfl
@[simp] theorem encT_win0 : win (encT t) 0 1 = some [.str t.name] := by rw [encT_eq]; rfl
@[simp] theorem encT_win1 : win (encT t) 1 1 = some [.sl (t.of.map encT)] := by rw [encT_eq]; rfl
@[simp] theorem encT_win2 : win (encT t) 2 1 = some [.bool t.must] := by rw [encT_eq]; rfl
@[simp] theorem encT_win : win (encT t) 0 3 = some (encT t) := by rw [encT_eq]; rfl
@[simp] theorem encT_nil0 : (encT t).map nil0 = encT t := by rw [encT_eq]; rfl
@[simp] theorem encT_viewD (ks : List Nat) (h : List (Nat × HO)) (T : Tab) : ∀ n, (encT t).map (viewD T ks h n) = encT t
  | 0 => by simp [encT_eq, viewD]
  | n + 1 => by simp [encT_eq, viewD]
end

theorem Typ.of_lt {t x : Typ} (h : x ∈ t.of) : SizeOf.sizeOf x < SizeOf.sizeOf t := by
  cases t with
  | mk n o m =>
    simp only [Typ.of] at h
    have := List.sizeOf_lt_of_mem h
    simp only [Typ.mk.sizeOf_spec]
    omega

/-- What is left of a measure: -1 if it was too much. -/
def res (left : Int) (n : Nat) : Int := if (n : Int) ≤ left then left - n else -1

mutual
def szT : Typ → Nat
  | .mk n o _ => n.length + szTs o
def szTs : List Typ → Nat
  | [] => 0
  | t :: l => 1 + szT t + szTs l
end
def sumT (l : List Typ) : Nat := (l.map szT).sum
theorem szTs_eq (l : List Typ) : szTs l = l.length + sumT l := by
  induction l with
  | nil => rfl
  | cons t l ih => simp only [szTs, ih, sumT, List.map_cons, List.sum_cons, List.length_cons]; omega
theorem szT_eq (t : Typ) : szT t = t.name.length + (t.of.length + sumT t.of) := by
  cases t; rw [szT, szTs_eq]; rfl
theorem sumT_take_succ {l : List Typ} {i : Nat} (h : i < l.length) : sumT (l.take (i + 1)) = sumT (l.take i) + szT l[i] := by
  unfold sumT; rw [List.take_succ_eq_append_getElem h, List.map_append, List.sum_append]; rfl
theorem sumT_take_le (l : List Typ) (i : Nat) : sumT (l.take i) ≤ sumT l := by
  have := congrArg sumT (List.take_append_drop i l)
  simp only [sumT, List.map_append, List.sum_append] at this ⊢
  omega
theorem szT_le_sum {l : List Typ} {i : Nat} (h : i < l.length) : szT l[i] ≤ sumT l := by
  have := sumT_take_succ h
  have := sumT_take_le l (i + 1)
  omega

@[simp] theorem sumT_nil : sumT [] = 0 := rfl

mutual
def eqT : Typ → Typ → Bool
  | .mk n o m, .mk n' o' m' => decide (n = n') && eqTs o o' && (m == m')
def eqTs : List Typ → List Typ → Bool
  | [], [] => true
  | t :: l, t' :: l' => eqT t t' && eqTs l l'
  | _, _ => false
end
mutual
theorem eqT_iff : ∀ a b : Typ, eqT a b = true ↔ a = b
  | .mk n o m, .mk n' o' m' => by
    simp only [eqT, Bool.and_eq_true, decide_eq_true_eq, beq_iff_eq, eqTs_iff o o', Typ.mk.injEq, and_assoc]
theorem eqTs_iff : ∀ a b : List Typ, eqTs a b = true ↔ a = b
  | [], [] => by simp [eqTs]
  | t :: l, t' :: l' => by simp [eqTs, eqT_iff t t', eqTs_iff l l']
  | [], _ :: _ => by simp [eqTs]
  | _ :: _, [] => by simp [eqTs]
end
theorem eqT_eq (a b : Typ) : eqT a b = (decide (a.name = b.name) && eqTs a.of b.of && (a.must == b.must)) := by cases a; cases b; rfl
theorem eqTs_split {a b : List Typ} {i : Nat} (ha : i < a.length) (hb : i < b.length) : eqTs (a.drop i) (b.drop i) = (eqT a[i] b[i] && eqTs (a.drop (i + 1)) (b.drop (i + 1))) := by
  rw [List.drop_eq_getElem_cons ha, List.drop_eq_getElem_cons hb]; rfl

end Go.Ab
