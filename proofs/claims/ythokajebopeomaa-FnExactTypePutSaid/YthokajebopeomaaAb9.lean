/- The same rules, one operation at a time; equations without conditions. -/
import Derived.Test.YthokajebopeomaaAb8
/-! Regions step by step: what stands behind an operation is left alone until it is come to. -/
set_option linter.unusedVariables false
namespace Go.Ab

section
variable (P : Program) (T : Tab) (all : List Oper)
def Rest (r : List Oper) (K : St → Prop) : St → Prop := fun σ => aops P T all r σ K
def Grd (o : Oper) (r : List Oper) (σ : St) (K : St → Prop) (j : Nat) (want : Bool) : Option AV → Prop
  | some (.bool t) => (t = want → aop P T o (σ.put ((all[j]?).bind (·.dst)) (.bool want)) (Rest P T all r K)) ∧ (t = !want → dok o.dst σ.nt = true ∧ Rest P T all r K ((σ.put ((all[j]?).bind (·.dst)) (.bool !want)).put o.dst .und))
  | some .und => dok o.dst σ.nt = true ∧ Rest P T all r K (σ.put o.dst .und)
  | _ => False
def RestD (r : List Oper) (K : St → Prop) : St → Prop := fun σ => aopsd P T all r σ K
def GrdD (o : Oper) (r : List Oper) (σ : St) (K : St → Prop) (j : Nat) (want : Bool) : Option AV → Prop
  | some (.bool t) => (t = want → aopd P T o (σ.put ((all[j]?).bind (·.dst)) (.bool want)) (RestD P T all r K)) ∧ (t = !want → dok o.dst σ.nt = true ∧ RestD P T all r K ((σ.put ((all[j]?).bind (·.dst)) (.bool !want)).put o.dst .und))
  | some .und => dok o.dst σ.nt = true ∧ RestD P T all r K (σ.put o.dst .und)
  | _ => False
end

section
variable {P : Program} {T : Tab} {all : List Oper} {r : List Oper} {K : St → Prop} {σ : St} {d : Option Tmp} {op : Op} {ty : TypeId} {pos : String} {after : Array Edge} {j : Nat} {want : Bool} {o : Oper}
theorem rest_mk {n : Nat} {s : List (Nat × AV)} {h : List (Nat × HO)} : Rest P T all r K ⟨n, s, h⟩ = aops P T all r ⟨n, s, h⟩ K := rfl
theorem restD_mk {n : Nat} {s : List (Nat × AV)} {h : List (Nat × HO)} : RestD P T all r K ⟨n, s, h⟩ = aopsd P T all r ⟨n, s, h⟩ K := rfl
theorem aops_nil : aops P T all [] σ K = K σ := rfl
theorem aopsd_nil : aopsd P T all [] σ K = K σ := rfl
theorem aops_go : aops P T all (⟨d, op, ty, pos, after, none⟩ :: r) σ K = aop P T ⟨d, op, ty, pos, after, none⟩ σ (Rest P T all r K) := rfl
theorem aopsd_go : aopsd P T all (⟨d, op, ty, pos, after, none⟩ :: r) σ K = aopd P T ⟨d, op, ty, pos, after, none⟩ σ (RestD P T all r K) := rfl
theorem aops_grd : aops P T all (⟨d, op, ty, pos, after, some (j, want)⟩ :: r) σ K = Grd P T all ⟨d, op, ty, pos, after, some (j, want)⟩ r σ K j want (guardA all σ j) := rfl
theorem aopsd_grd : aopsd P T all (⟨d, op, ty, pos, after, some (j, want)⟩ :: r) σ K = GrdD P T all ⟨d, op, ty, pos, after, some (j, want)⟩ r σ K j want (guardA all σ j) := rfl
theorem grd_tt : Grd P T all o r σ K j true (some (.bool true)) = aop P T o (σ.put ((all[j]?).bind (·.dst)) (.bool true)) (Rest P T all r K) := by simp [Grd]
theorem grd_ff : Grd P T all o r σ K j false (some (.bool false)) = aop P T o (σ.put ((all[j]?).bind (·.dst)) (.bool false)) (Rest P T all r K) := by simp [Grd]
theorem grd_tf : Grd P T all o r σ K j true (some (.bool false)) = (dok o.dst σ.nt = true ∧ Rest P T all r K ((σ.put ((all[j]?).bind (·.dst)) (.bool false)).put o.dst .und)) := by simp [Grd]
theorem grd_ft : Grd P T all o r σ K j false (some (.bool true)) = (dok o.dst σ.nt = true ∧ Rest P T all r K ((σ.put ((all[j]?).bind (·.dst)) (.bool true)).put o.dst .und)) := by simp [Grd]
theorem grd_und : Grd P T all o r σ K j want (some .und) = (dok o.dst σ.nt = true ∧ Rest P T all r K (σ.put o.dst .und)) := rfl
theorem grdD_tt : GrdD P T all o r σ K j true (some (.bool true)) = aopd P T o (σ.put ((all[j]?).bind (·.dst)) (.bool true)) (RestD P T all r K) := by simp [GrdD]
theorem grdD_ff : GrdD P T all o r σ K j false (some (.bool false)) = aopd P T o (σ.put ((all[j]?).bind (·.dst)) (.bool false)) (RestD P T all r K) := by simp [GrdD]
theorem grdD_tf : GrdD P T all o r σ K j true (some (.bool false)) = (dok o.dst σ.nt = true ∧ RestD P T all r K ((σ.put ((all[j]?).bind (·.dst)) (.bool false)).put o.dst .und)) := by simp [GrdD]
theorem grdD_ft : GrdD P T all o r σ K j false (some (.bool true)) = (dok o.dst σ.nt = true ∧ RestD P T all r K ((σ.put ((all[j]?).bind (·.dst)) (.bool true)).put o.dst .und)) := by simp [GrdD]
theorem grdD_und : GrdD P T all o r σ K j want (some .und) = (dok o.dst σ.nt = true ∧ RestD P T all r K (σ.put o.dst .und)) := rfl
theorem grdT {t : Bool} (h1 : t = true → aop P T o (σ.put ((all[j]?).bind (·.dst)) (.bool true)) (Rest P T all r K)) (h2 : t = false → dok o.dst σ.nt = true ∧ Rest P T all r K ((σ.put ((all[j]?).bind (·.dst)) (.bool false)).put o.dst .und)) : Grd P T all o r σ K j true (some (.bool t)) := ⟨h1, h2⟩
theorem grdF {t : Bool} (h1 : t = false → aop P T o (σ.put ((all[j]?).bind (·.dst)) (.bool false)) (Rest P T all r K)) (h2 : t = true → dok o.dst σ.nt = true ∧ Rest P T all r K ((σ.put ((all[j]?).bind (·.dst)) (.bool true)).put o.dst .und)) : Grd P T all o r σ K j false (some (.bool t)) := ⟨h1, h2⟩
theorem grdDT {t : Bool} (h1 : t = true → aopd P T o (σ.put ((all[j]?).bind (·.dst)) (.bool true)) (RestD P T all r K)) (h2 : t = false → dok o.dst σ.nt = true ∧ RestD P T all r K ((σ.put ((all[j]?).bind (·.dst)) (.bool false)).put o.dst .und)) : GrdD P T all o r σ K j true (some (.bool t)) := ⟨h1, h2⟩
theorem grdDF {t : Bool} (h1 : t = false → aopd P T o (σ.put ((all[j]?).bind (·.dst)) (.bool false)) (RestD P T all r K)) (h2 : t = true → dok o.dst σ.nt = true ∧ RestD P T all r K ((σ.put ((all[j]?).bind (·.dst)) (.bool true)).put o.dst .und)) : GrdD P T all o r σ K j false (some (.bool t)) := ⟨h1, h2⟩
theorem kont_some {v : AV} : kont o σ K (some v) = (dok o.dst σ.nt = true ∧ K (σ.put o.dst v)) := rfl
theorem kont_none : kont o σ K none = False := rfl
theorem put_some {k : Nat} {v : AV} {n : Nat} {s : List (Nat × AV)} {h : List (Nat × HO)} : St.put ⟨n, s, h⟩ (some k) v = ⟨n, (k, v) :: s, h⟩ := rfl
theorem put_none {v : AV} : St.put σ none v = σ := rfl
theorem dok_some {k n : Nat} : dok (some k) n = decide (k < n) := rfl
theorem dok_none {n : Nat} : dok none n = true := rfl
end

end Go.Ab
