/- The plain data of this program, and its cells. -/
import Derived.Test.YtopbbjoflopjbaaTabb
/-! Plain data. -/
set_option linter.unusedVariables false
namespace Go.Proofs.Ytopbbjoflopjbaa
open Go.Bb
abbrev Bs := List UInt8
@[ext] structure XBoundsError where
  x : Int
  y : Int
  signed : Bool
  code : Int
  deriving Inhabited
def encXBoundsError (v : XBoundsError) : List AV := [.int .i64 v.x, .int .i64 v.y, .bool v.signed, .int .u8 v.code]
theorem encXBoundsError_eq (v : XBoundsError) : encXBoundsError v = [.int .i64 v.x, .int .i64 v.y, .bool v.signed, .int .u8 v.code] := rfl
theorem encXBoundsError_len (v : XBoundsError) : (encXBoundsError v).length = 4 := by rw [encXBoundsError_eq]; rfl
theorem encXBoundsError_ok (v : XBoundsError) : cellsOk (encXBoundsError v) = true := by rw [encXBoundsError_eq]; rfl
theorem encXBoundsError_frz (v : XBoundsError) : FrzL (encXBoundsError v) (encXBoundsError v) := by rw [encXBoundsError_eq]; exact .cons (.refl _ rfl) (.cons (.refl _ rfl) (.cons (.refl _ rfl) (.cons (.refl _ rfl) (.nil))))
@[ext] structure XErrorAddressString where
  msg : Bs
  addr : Int
  deriving Inhabited
def encXErrorAddressString (v : XErrorAddressString) : List AV := [.str v.msg, .int .u64 v.addr]
theorem encXErrorAddressString_eq (v : XErrorAddressString) : encXErrorAddressString v = [.str v.msg, .int .u64 v.addr] := rfl
theorem encXErrorAddressString_len (v : XErrorAddressString) : (encXErrorAddressString v).length = 2 := by rw [encXErrorAddressString_eq]; rfl
theorem encXErrorAddressString_ok (v : XErrorAddressString) : cellsOk (encXErrorAddressString v) = true := by rw [encXErrorAddressString_eq]; rfl
theorem encXErrorAddressString_frz (v : XErrorAddressString) : FrzL (encXErrorAddressString v) (encXErrorAddressString v) := by rw [encXErrorAddressString_eq]; exact .cons (.refl _ rfl) (.cons (.refl _ rfl) (.nil))
inductive Val where
  | mk (kind : Int) (num : Int) (text : Bs) (list : (List Val)) (names : (List Bs))
  deriving Inhabited
def Val.kind : Val → Int | .mk x _ _ _ _ => x
def Val.num : Val → Int | .mk _ x _ _ _ => x
def Val.text : Val → Bs | .mk _ _ x _ _ => x
def Val.list : Val → (List Val) | .mk _ _ _ x _ => x
def Val.names : Val → (List Bs) | .mk _ _ _ _ x => x
theorem Val.ext_ : ∀ {a b : Val}, a.kind = b.kind → a.num = b.num → a.text = b.text → a.list = b.list → a.names = b.names → a = b
  | .mk _ _ _ _ _, .mk _ _ _ _ _, h0, h1, h2, h3, h4 => by subst h0 h1 h2 h3 h4; rfl
@[simp] theorem Val.kind_mk {kind : Int} {num : Int} {text : Bs} {list : (List Val)} {names : (List Bs)} : (Val.mk kind num text list names).kind = kind := rfl
@[simp] theorem Val.num_mk {kind : Int} {num : Int} {text : Bs} {list : (List Val)} {names : (List Bs)} : (Val.mk kind num text list names).num = num := rfl
@[simp] theorem Val.text_mk {kind : Int} {num : Int} {text : Bs} {list : (List Val)} {names : (List Bs)} : (Val.mk kind num text list names).text = text := rfl
@[simp] theorem Val.list_mk {kind : Int} {num : Int} {text : Bs} {list : (List Val)} {names : (List Bs)} : (Val.mk kind num text list names).list = list := rfl
@[simp] theorem Val.names_mk {kind : Int} {num : Int} {text : Bs} {list : (List Val)} {names : (List Bs)} : (Val.mk kind num text list names).names = names := rfl
@[simp] theorem Val.eta (v : Val) : Val.mk v.kind v.num v.text v.list v.names = v := by cases v; rfl
mutual
def encLVal : Val → List AV
  | .mk kind num text list names => [.int .i64 kind, .int .i64 num, .str text, .sl false (encLVals list), .sl false (names.map encS)]
def encLVals : List Val → List (List AV)
  | [] => []
  | v :: l => encLVal v :: encLVals l
end
theorem encLVals_eq (l : List Val) : encLVals l = l.map encLVal := by induction l <;> simp_all [encLVals]
theorem encLVal_eq (v : Val) : encLVal v = [.int .i64 v.kind, .int .i64 v.num, .str v.text, .sl false (v.list.map encLVal), .sl false (v.names.map encS)] := by
  cases v; simp [encLVal, encLVals_eq, Val.kind, Val.num, Val.text, Val.list, Val.names]
theorem encLVal_len (v : Val) : (encLVal v).length = 5 := by rw [encLVal_eq]; rfl
theorem encLVal_ok (v : Val) : cellsOk (encLVal v) = true := by rw [encLVal_eq]; rfl
theorem encLVal_frz (v : Val) : FrzL (encLVal v) (encLVal v) := by rw [encLVal_eq]; exact .cons (.refl _ rfl) (.cons (.refl _ rfl) (.cons (.refl _ rfl) (.cons (.refl _ rfl) (.cons (.refl _ rfl) (.nil)))))
mutual
def encVal : Val → List AV
  | .mk kind num text list names => [.int .i64 kind, .int .i64 num, .str text, .sl true (encVals list), .sl false (names.map encS)]
def encVals : List Val → List (List AV)
  | [] => []
  | v :: l => encVal v :: encVals l
end
theorem encVals_eq (l : List Val) : encVals l = l.map encVal := by induction l <;> simp_all [encVals]
theorem encVal_eq (v : Val) : encVal v = [.int .i64 v.kind, .int .i64 v.num, .str v.text, .sl true (v.list.map encVal), .sl false (v.names.map encS)] := by
  cases v; simp [encVal, encVals_eq, Val.kind, Val.num, Val.text, Val.list, Val.names]
theorem encVal_len (v : Val) : (encVal v).length = 5 := by rw [encVal_eq]; rfl
theorem encVal_ok (v : Val) : cellsOk (encVal v) = true := by rw [encVal_eq]; rfl
theorem encVal_frz (v : Val) : FrzL (encVal v) (encVal v) := by rw [encVal_eq]; exact .cons (.refl _ rfl) (.cons (.refl _ rfl) (.cons (.refl _ rfl) (.cons (.refl _ rfl) (.cons (.refl _ rfl) (.nil)))))
inductive Typ where
  | mk (name : Bs) (of_ : (List Typ)) (must : Bool)
  deriving Inhabited
def Typ.name : Typ → Bs | .mk x _ _ => x
def Typ.of_ : Typ → (List Typ) | .mk _ x _ => x
def Typ.must : Typ → Bool | .mk _ _ x => x
theorem Typ.ext_ : ∀ {a b : Typ}, a.name = b.name → a.of_ = b.of_ → a.must = b.must → a = b
  | .mk _ _ _, .mk _ _ _, h0, h1, h2 => by subst h0 h1 h2; rfl
@[simp] theorem Typ.name_mk {name : Bs} {of_ : (List Typ)} {must : Bool} : (Typ.mk name of_ must).name = name := rfl
@[simp] theorem Typ.of__mk {name : Bs} {of_ : (List Typ)} {must : Bool} : (Typ.mk name of_ must).of_ = of_ := rfl
@[simp] theorem Typ.must_mk {name : Bs} {of_ : (List Typ)} {must : Bool} : (Typ.mk name of_ must).must = must := rfl
@[simp] theorem Typ.eta (v : Typ) : Typ.mk v.name v.of_ v.must = v := by cases v; rfl
mutual
def encTyp : Typ → List AV
  | .mk name of_ must => [.str name, .sl false (encTyps of_), .bool must]
def encTyps : List Typ → List (List AV)
  | [] => []
  | v :: l => encTyp v :: encTyps l
end
theorem encTyps_eq (l : List Typ) : encTyps l = l.map encTyp := by induction l <;> simp_all [encTyps]
theorem encTyp_eq (v : Typ) : encTyp v = [.str v.name, .sl false (v.of_.map encTyp), .bool v.must] := by
  cases v; simp [encTyp, encTyps_eq, Typ.name, Typ.of_, Typ.must]
theorem encTyp_len (v : Typ) : (encTyp v).length = 3 := by rw [encTyp_eq]; rfl
theorem encTyp_ok (v : Typ) : cellsOk (encTyp v) = true := by rw [encTyp_eq]; rfl
theorem encTyp_frz (v : Typ) : FrzL (encTyp v) (encTyp v) := by rw [encTyp_eq]; exact .cons (.refl _ rfl) (.cons (.refl _ rfl) (.cons (.refl _ rfl) (.nil)))
@[ext] structure GL1Rd where
  b : (List Int)
  p : Int
  deriving Inhabited
def encGL1Rd (v : GL1Rd) : List AV := [.sl false (v.b.map (encI .u8)), .int .i64 v.p]
theorem encGL1Rd_eq (v : GL1Rd) : encGL1Rd v = [.sl false (v.b.map (encI .u8)), .int .i64 v.p] := rfl
theorem encGL1Rd_len (v : GL1Rd) : (encGL1Rd v).length = 2 := by rw [encGL1Rd_eq]; rfl
theorem encGL1Rd_ok (v : GL1Rd) : cellsOk (encGL1Rd v) = true := by rw [encGL1Rd_eq]; rfl
theorem encGL1Rd_frz (v : GL1Rd) : FrzL (encGL1Rd v) (encGL1Rd v) := by rw [encGL1Rd_eq]; exact .cons (.refl _ rfl) (.cons (.refl _ rfl) (.nil))
@[ext] structure GTreeItem where
  names : (List Bs)
  list : (List Val)
  deriving Inhabited
def encGTreeItem (v : GTreeItem) : List AV := [.sl false (v.names.map encS), .sl true (v.list.map encVal)]
theorem encGTreeItem_eq (v : GTreeItem) : encGTreeItem v = [.sl false (v.names.map encS), .sl true (v.list.map encVal)] := rfl
theorem encGTreeItem_len (v : GTreeItem) : (encGTreeItem v).length = 2 := by rw [encGTreeItem_eq]; rfl
theorem encGTreeItem_ok (v : GTreeItem) : cellsOk (encGTreeItem v) = true := by rw [encGTreeItem_eq]; rfl
theorem encGTreeItem_frz (v : GTreeItem) : FrzL (encGTreeItem v) (encGTreeItem v) := by rw [encGTreeItem_eq]; exact .cons (.refl _ rfl) (.cons (.refl _ rfl) (.nil))
inductive GI95 where
  | nil
  | c97 (v : Bs)
  | c98 (v : Bs)
  | c111
  | c112 (v : Bool)
  | c113 (v : Int)
  | c114 (v : Bs)
  | c115 (v : (List Val))
  | c117 (v : GTreeItem)
  deriving Inhabited
def encGI95 : GI95 → AV
  | .nil => .raw .nilIface
  | .c97 v => .ifc 97 (.str v)
  | .c98 v => .ifc 98 (.str v)
  | .c111 => .ifc 111 (.agg [])
  | .c112 v => .ifc 112 (.bool v)
  | .c113 v => .ifc 113 (.int .i64 v)
  | .c114 v => .ifc 114 (.str v)
  | .c115 v => .ifc 115 (.sl true (v.map encVal))
  | .c117 v => .ifc 117 (.agg (encGTreeItem v))
def GI95.isNil : GI95 → Bool | .nil => true | _ => false
def GI95.is97 : GI95 → Bool | .c97 _ => true | _ => false
def GI95.as97 : GI95 → Bs | .c97 v => v | _ => []
def GI95.is98 : GI95 → Bool | .c98 _ => true | _ => false
def GI95.as98 : GI95 → Bs | .c98 v => v | _ => []
def GI95.is112 : GI95 → Bool | .c112 _ => true | _ => false
def GI95.is113 : GI95 → Bool | .c113 _ => true | _ => false
def GI95.is114 : GI95 → Bool | .c114 _ => true | _ => false
def GI95.as114 : GI95 → Bs | .c114 v => v | _ => []
def GI95.is115 : GI95 → Bool | .c115 _ => true | _ => false
def GI95.is117 : GI95 → Bool | .c117 _ => true | _ => false
end Go.Proofs.Ytopbbjoflopjbaa
