/- What a name is; the conditions stand in each theorem. -/
import Derived.Test.YthokajebopeomaaEnc
/-! Names. -/
namespace Go.Ab

def isLet (b : UInt8) : Bool := (97 ≤ b && b ≤ 122) || (65 ≤ b && b ≤ 90) || b == 95
def isFig (b : UInt8) : Bool := 48 ≤ b && b ≤ 57
def isWrd (b : UInt8) : Bool := isLet b || isFig b

theorem isLet_int (b : UInt8) : isLet b = decide (97 ≤ (b.toNat : Int) ∧ (b.toNat : Int) ≤ 122 ∨ 65 ≤ (b.toNat : Int) ∧ (b.toNat : Int) ≤ 90 ∨ (b.toNat : Int) = 95) := by
  have e : (b == 95) = decide (b.toNat = 95) := by
    by_cases h : b = 95
    · subst h; rfl
    · have : b.toNat ≠ 95 := fun h' => h (UInt8.toNat_inj.1 h')
      simp [h, this]
  unfold isLet
  rw [e, Bool.eq_iff_iff]
  simp [UInt8.le_iff_toNat_le]
  omega
theorem isFig_int (b : UInt8) : isFig b = decide (48 ≤ (b.toNat : Int) ∧ (b.toNat : Int) ≤ 57) := by
  unfold isFig
  rw [Bool.eq_iff_iff]
  simp [UInt8.le_iff_toNat_le]
  omega
theorem isLet_not_fig (b : UInt8) (h : isLet b = true) : isFig b = false := by
  rw [isLet_int] at h; rw [isFig_int]; simp at h ⊢; omega

/-- A name, as far as its bytes go. -/
def nameB : List UInt8 → Bool
  | [] => true
  | b :: r => isLet b && r.all isWrd
def nameOk (s : List UInt8) : Bool := nameB s && decide (1 ≤ s.length) && decide (s.length ≤ 12)

theorem nameB_snoc (s : List UInt8) (b : UInt8) : nameB (s ++ [b]) = (nameB s && (isLet b || (!s.isEmpty && isFig b))) := by
  cases s with
  | nil => simp [nameB]
  | cons x r => simp [nameB, isWrd, Bool.and_assoc]
theorem nameB_take {s : List UInt8} {i : Nat} (h : i < s.length) : nameB (s.take (i + 1)) = (nameB (s.take i) && (isLet s[i] || (decide (i ≠ 0) && isFig s[i]))) := by
  rw [List.take_succ_eq_append_getElem h, nameB_snoc]
  congr 2
  cases i with
  | zero => simp
  | succ i =>
    have : (s.take (i + 1)).isEmpty = false := by
      cases s with
      | nil => simp at h
      | cons x r => rfl
    simp [this]
theorem nameB_false {s : List UInt8} {i : Nat} (h : i ≤ s.length) (hf : nameB (s.take i) = false) : nameB s = false := by
  cases s with
  | nil => simp at hf; cases hf
  | cons x r =>
    cases i with
    | zero => cases hf
    | succ i =>
      simp only [List.take_succ_cons, nameB, Bool.and_eq_false_iff] at hf ⊢
      rcases hf with h1 | h1
      · exact .inl h1
      · right
        rw [List.all_eq_false] at h1 ⊢
        obtain ⟨y, hy, h2⟩ := h1
        exact ⟨y, List.mem_of_mem_take hy, h2⟩

end Go.Ab
