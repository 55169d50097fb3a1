/- The plain data of this program, as trees that are owned whole. -/
import Derived.Test.YtiaigcdckmpepaaDat
import Derived.Test.YtiaigcdckmpepaaB19
/-! Plain data, owned. -/
set_option linter.unusedVariables false
namespace Go.Proofs.Ytiaigcdckmpepaa
open Go.Bb
theorem encS_cln (v : Bs) : ∀ av ∈ encS v, Cln av := fun av hav => by
  rcases List.mem_cons.1 hav with rfl | hav
  · exact .scal _ (.str _)
  cases hav
theorem encI_cln {k : IntKind} (v : Int) : ∀ av ∈ encI k v, Cln av := fun av hav => by
  rcases List.mem_cons.1 hav with rfl | hav
  · exact .scal _ (.int _ _)
  cases hav
theorem encBo_cln (v : Bool) : ∀ av ∈ encBo v, Cln av := fun av hav => by
  rcases List.mem_cons.1 hav with rfl | hav
  · exact .scal _ (.bool _)
  cases hav
mutual
def encOVal : Val → List AV
  | .mk kind num text list names => [.int .i64 kind, .int .i64 num, .str text, .osl 30 5 (encOVals list), .osl 9 1 (names.map encS)]
def encOVals : List Val → List (List AV)
  | [] => []
  | v :: l => encOVal v :: encOVals l
end
theorem encOVals_eq (l : List Val) : encOVals l = l.map encOVal := by induction l <;> simp_all [encOVals]
theorem encOVal_eq (v : Val) : encOVal v = [.int .i64 v.kind, .int .i64 v.num, .str v.text, .osl 30 5 (v.list.map encOVal), .osl 9 1 (v.names.map encS)] := by
  cases v; simp [encOVal, encOVals_eq, Val.kind, Val.num, Val.text, Val.list, Val.names]
mutual
theorem encOVal_frz : ∀ v : Val, FrzL (encVal v) (encOVal v)
  | .mk kind num text list names => by
    simp only [encVal, encOVal]
    exact .cons (.refl _ rfl) (.cons (.refl _ rfl) (.cons (.refl _ rfl) (.cons (.osl (encOVals_frz list)) (.cons (.osl (FrzLL.map fun _ _ => encS_frz _)) (.nil)))))
theorem encOVals_frz : ∀ l : List Val, FrzLL (encVals l) (encOVals l)
  | [] => .nil
  | v :: l => .cons (encOVal_frz v) (encOVals_frz l)
end
mutual
theorem encOVal_cln : ∀ (v : Val), ∀ av ∈ encOVal v, Cln av
  | .mk kind num text list names, av, hav => by
    simp only [encOVal] at hav
    rcases List.mem_cons.1 hav with rfl | hav
    · exact .scal _ (.int _ _)
    rcases List.mem_cons.1 hav with rfl | hav
    · exact .scal _ (.int _ _)
    rcases List.mem_cons.1 hav with rfl | hav
    · exact .scal _ (.str _)
    rcases List.mem_cons.1 hav with rfl | hav
    · exact .osl _ _ _ (encOVals_cln list)
    rcases List.mem_cons.1 hav with rfl | hav
    · exact cln_rows fun _ => encS_cln _
    cases hav
theorem encOVals_cln : ∀ (l : List Val), ∀ row ∈ encOVals l, ∀ av ∈ row, Cln av
  | [], row, hr, _, _ => nomatch hr
  | v :: l, row, hr, av, hav => by
    rcases List.mem_cons.1 hr with rfl | hr
    · exact encOVal_cln v av hav
    · exact encOVals_cln l row hr av hav
end
theorem encOVal_len (v : Val) : (encOVal v).length = 5 := by rw [encOVal_eq]; rfl
theorem encOVal_ok (v : Val) : cellsOk (encOVal v) = true := by rw [encOVal_eq]; rfl
def encOGPair (v : GPair) : List AV := [.int .i64 v.one.kind, .int .i64 v.one.num, .str v.one.text, .osl 30 5 (v.one.list.map encOVal), .osl 9 1 (v.one.names.map encS), .int .i64 v.other.kind, .int .i64 v.other.num, .str v.other.text, .osl 30 5 (v.other.list.map encOVal), .osl 9 1 (v.other.names.map encS)]
theorem encOGPair_eq (v : GPair) : encOGPair v = [.int .i64 v.one.kind, .int .i64 v.one.num, .str v.one.text, .osl 30 5 (v.one.list.map encOVal), .osl 9 1 (v.one.names.map encS), .int .i64 v.other.kind, .int .i64 v.other.num, .str v.other.text, .osl 30 5 (v.other.list.map encOVal), .osl 9 1 (v.other.names.map encS)] := rfl
theorem encOGPair_frz (v : GPair) : FrzL (encGPair v) (encOGPair v) := .cons (.refl _ rfl) (.cons (.refl _ rfl) (.cons (.refl _ rfl) (.cons (.osl (FrzLL.map fun _ _ => encOVal_frz _)) (.cons (.osl (FrzLL.map fun _ _ => encS_frz _)) (.cons (.refl _ rfl) (.cons (.refl _ rfl) (.cons (.refl _ rfl) (.cons (.osl (FrzLL.map fun _ _ => encOVal_frz _)) (.cons (.osl (FrzLL.map fun _ _ => encS_frz _)) (.nil))))))))))
theorem encOGPair_cln (v : GPair) : ∀ av ∈ encOGPair v, Cln av := fun av hav => by
  rw [encOGPair_eq] at hav
  rcases List.mem_cons.1 hav with rfl | hav
  · exact .scal _ (.int _ _)
  rcases List.mem_cons.1 hav with rfl | hav
  · exact .scal _ (.int _ _)
  rcases List.mem_cons.1 hav with rfl | hav
  · exact .scal _ (.str _)
  rcases List.mem_cons.1 hav with rfl | hav
  · exact cln_rows fun _ => encOVal_cln _
  rcases List.mem_cons.1 hav with rfl | hav
  · exact cln_rows fun _ => encS_cln _
  rcases List.mem_cons.1 hav with rfl | hav
  · exact .scal _ (.int _ _)
  rcases List.mem_cons.1 hav with rfl | hav
  · exact .scal _ (.int _ _)
  rcases List.mem_cons.1 hav with rfl | hav
  · exact .scal _ (.str _)
  rcases List.mem_cons.1 hav with rfl | hav
  · exact cln_rows fun _ => encOVal_cln _
  rcases List.mem_cons.1 hav with rfl | hav
  · exact cln_rows fun _ => encS_cln _
  cases hav
theorem encOGPair_len (v : GPair) : (encOGPair v).length = 10 := by rw [encOGPair_eq]; rfl
theorem encOGPair_ok (v : GPair) : cellsOk (encOGPair v) = true := by rw [encOGPair_eq]; rfl
def encOGL1Rd (v : GL1Rd) : List AV := [.osl 5 1 (v.b.map (encI .u8)), .int .i64 v.p]
theorem encOGL1Rd_eq (v : GL1Rd) : encOGL1Rd v = [.osl 5 1 (v.b.map (encI .u8)), .int .i64 v.p] := rfl
theorem encOGL1Rd_frz (v : GL1Rd) : FrzL (encGL1Rd v) (encOGL1Rd v) := .cons (.osl (FrzLL.map fun _ _ => encI_frz _)) (.cons (.refl _ rfl) (.nil))
theorem encOGL1Rd_cln (v : GL1Rd) : ∀ av ∈ encOGL1Rd v, Cln av := fun av hav => by
  rw [encOGL1Rd_eq] at hav
  rcases List.mem_cons.1 hav with rfl | hav
  · exact cln_rows fun _ => encI_cln _
  rcases List.mem_cons.1 hav with rfl | hav
  · exact .scal _ (.int _ _)
  cases hav
theorem encOGL1Rd_len (v : GL1Rd) : (encOGL1Rd v).length = 2 := by rw [encOGL1Rd_eq]; rfl
theorem encOGL1Rd_ok (v : GL1Rd) : cellsOk (encOGL1Rd v) = true := by rw [encOGL1Rd_eq]; rfl
def encOGTreeItem (v : GTreeItem) : List AV := [.osl 9 1 (v.names.map encS), .osl 30 5 (v.list.map encOVal)]
theorem encOGTreeItem_eq (v : GTreeItem) : encOGTreeItem v = [.osl 9 1 (v.names.map encS), .osl 30 5 (v.list.map encOVal)] := rfl
theorem encOGTreeItem_frz (v : GTreeItem) : FrzL (encGTreeItem v) (encOGTreeItem v) := .cons (.osl (FrzLL.map fun _ _ => encS_frz _)) (.cons (.osl (FrzLL.map fun _ _ => encOVal_frz _)) (.nil))
theorem encOGTreeItem_cln (v : GTreeItem) : ∀ av ∈ encOGTreeItem v, Cln av := fun av hav => by
  rw [encOGTreeItem_eq] at hav
  rcases List.mem_cons.1 hav with rfl | hav
  · exact cln_rows fun _ => encS_cln _
  rcases List.mem_cons.1 hav with rfl | hav
  · exact cln_rows fun _ => encOVal_cln _
  cases hav
theorem encOGTreeItem_len (v : GTreeItem) : (encOGTreeItem v).length = 2 := by rw [encOGTreeItem_eq]; rfl
theorem encOGTreeItem_ok (v : GTreeItem) : cellsOk (encOGTreeItem v) = true := by rw [encOGTreeItem_eq]; rfl
end Go.Proofs.Ytiaigcdckmpepaa
