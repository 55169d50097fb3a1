/- The plain data of this program, and its cells. -/
import Derived.Test.YtopbbjoflopjbaaDoorTabb
/-! Plain data. -/
set_option linter.unusedVariables false
namespace Go.Proofs.YtopbbjoflopjbaaDoor
open Go.Bb
abbrev Bs := List UInt8
@[ext] structure XBoundsError where
  x : Int
  y : Int
  signed : Bool
  code : Int
  deriving Inhabited
def encXBoundsError (v : XBoundsError) : List AV := [.int .i64 v.x, .int .i64 v.y, .bool v.signed, .int .u8 v.code]
theorem encXBoundsError_eq (v : XBoundsError) : encXBoundsError v = [.int .i64 v.x, .int .i64 v.y, .bool v.signed, .int .u8 v.code] := rfl
theorem encXBoundsError_len (v : XBoundsError) : (encXBoundsError v).length = 4 := by rw [encXBoundsError_eq]; rfl
theorem encXBoundsError_ok (v : XBoundsError) : cellsOk (encXBoundsError v) = true := by rw [encXBoundsError_eq]; rfl
theorem encXBoundsError_frz (v : XBoundsError) : FrzL (encXBoundsError v) (encXBoundsError v) := by rw [encXBoundsError_eq]; exact .cons (.refl _ rfl) (.cons (.refl _ rfl) (.cons (.refl _ rfl) (.cons (.refl _ rfl) (.nil))))
@[ext] structure XErrorAddressString where
  msg : Bs
  addr : Int
  deriving Inhabited
def encXErrorAddressString (v : XErrorAddressString) : List AV := [.str v.msg, .int .u64 v.addr]
theorem encXErrorAddressString_eq (v : XErrorAddressString) : encXErrorAddressString v = [.str v.msg, .int .u64 v.addr] := rfl
theorem encXErrorAddressString_len (v : XErrorAddressString) : (encXErrorAddressString v).length = 2 := by rw [encXErrorAddressString_eq]; rfl
theorem encXErrorAddressString_ok (v : XErrorAddressString) : cellsOk (encXErrorAddressString v) = true := by rw [encXErrorAddressString_eq]; rfl
theorem encXErrorAddressString_frz (v : XErrorAddressString) : FrzL (encXErrorAddressString v) (encXErrorAddressString v) := by rw [encXErrorAddressString_eq]; exact .cons (.refl _ rfl) (.cons (.refl _ rfl) (.nil))
inductive Val where
  | mk (kind : Int) (num : Int) (text : Bs) (list : (List Val)) (names : (List Bs))
  deriving Inhabited
def Val.kind : Val → Int | .mk x _ _ _ _ => x
def Val.num : Val → Int | .mk _ x _ _ _ => x
def Val.text : Val → Bs | .mk _ _ x _ _ => x
def Val.list : Val → (List Val) | .mk _ _ _ x _ => x
def Val.names : Val → (List Bs) | .mk _ _ _ _ x => x
theorem Val.ext_ : ∀ {a b : Val}, a.kind = b.kind → a.num = b.num → a.text = b.text → a.list = b.list → a.names = b.names → a = b
  | .mk _ _ _ _ _, .mk _ _ _ _ _, h0, h1, h2, h3, h4 => by subst h0 h1 h2 h3 h4; rfl
@[simp] theorem Val.kind_mk {kind : Int} {num : Int} {text : Bs} {list : (List Val)} {names : (List Bs)} : (Val.mk kind num text list names).kind = kind := rfl
@[simp] theorem Val.num_mk {kind : Int} {num : Int} {text : Bs} {list : (List Val)} {names : (List Bs)} : (Val.mk kind num text list names).num = num := rfl
@[simp] theorem Val.text_mk {kind : Int} {num : Int} {text : Bs} {list : (List Val)} {names : (List Bs)} : (Val.mk kind num text list names).text = text := rfl
@[simp] theorem Val.list_mk {kind : Int} {num : Int} {text : Bs} {list : (List Val)} {names : (List Bs)} : (Val.mk kind num text list names).list = list := rfl
@[simp] theorem Val.names_mk {kind : Int} {num : Int} {text : Bs} {list : (List Val)} {names : (List Bs)} : (Val.mk kind num text list names).names = names := rfl
@[simp] theorem Val.eta (v : Val) : Val.mk v.kind v.num v.text v.list v.names = v := by cases v; rfl
mutual
def encLVal : Val → List AV
  | .mk kind num text list names => [.int .i64 kind, .int .i64 num, .str text, .sl false (encLVals list), .sl false (names.map encS)]
def encLVals : List Val → List (List AV)
  | [] => []
  | v :: l => encLVal v :: encLVals l
end
theorem encLVals_eq (l : List Val) : encLVals l = l.map encLVal := by induction l <;> simp_all [encLVals]
theorem encLVal_eq (v : Val) : encLVal v = [.int .i64 v.kind, .int .i64 v.num, .str v.text, .sl false (v.list.map encLVal), .sl false (v.names.map encS)] := by
  cases v; simp [encLVal, encLVals_eq, Val.kind, Val.num, Val.text, Val.list, Val.names]
theorem encLVal_len (v : Val) : (encLVal v).length = 5 := by rw [encLVal_eq]; rfl
theorem encLVal_ok (v : Val) : cellsOk (encLVal v) = true := by rw [encLVal_eq]; rfl
theorem encLVal_frz (v : Val) : FrzL (encLVal v) (encLVal v) := by rw [encLVal_eq]; exact .cons (.refl _ rfl) (.cons (.refl _ rfl) (.cons (.refl _ rfl) (.cons (.refl _ rfl) (.cons (.refl _ rfl) (.nil)))))
mutual
def encVal : Val → List AV
  | .mk kind num text list names => [.int .i64 kind, .int .i64 num, .str text, .sl true (encVals list), .sl false (names.map encS)]
def encVals : List Val → List (List AV)
  | [] => []
  | v :: l => encVal v :: encVals l
end
theorem encVals_eq (l : List Val) : encVals l = l.map encVal := by induction l <;> simp_all [encVals]
theorem encVal_eq (v : Val) : encVal v = [.int .i64 v.kind, .int .i64 v.num, .str v.text, .sl true (v.list.map encVal), .sl false (v.names.map encS)] := by
  cases v; simp [encVal, encVals_eq, Val.kind, Val.num, Val.text, Val.list, Val.names]
theorem encVal_len (v : Val) : (encVal v).length = 5 := by rw [encVal_eq]; rfl
theorem encVal_ok (v : Val) : cellsOk (encVal v) = true := by rw [encVal_eq]; rfl
theorem encVal_frz (v : Val) : FrzL (encVal v) (encVal v) := by rw [encVal_eq]; exact .cons (.refl _ rfl) (.cons (.refl _ rfl) (.cons (.refl _ rfl) (.cons (.refl _ rfl) (.cons (.refl _ rfl) (.nil)))))
@[ext] structure GL1Rd where
  b : (List Int)
  p : Int
  deriving Inhabited
def encGL1Rd (v : GL1Rd) : List AV := [.sl false (v.b.map (encI .u8)), .int .i64 v.p]
theorem encGL1Rd_eq (v : GL1Rd) : encGL1Rd v = [.sl false (v.b.map (encI .u8)), .int .i64 v.p] := rfl
theorem encGL1Rd_len (v : GL1Rd) : (encGL1Rd v).length = 2 := by rw [encGL1Rd_eq]; rfl
theorem encGL1Rd_ok (v : GL1Rd) : cellsOk (encGL1Rd v) = true := by rw [encGL1Rd_eq]; rfl
theorem encGL1Rd_frz (v : GL1Rd) : FrzL (encGL1Rd v) (encGL1Rd v) := by rw [encGL1Rd_eq]; exact .cons (.refl _ rfl) (.cons (.refl _ rfl) (.nil))
@[ext] structure GTreeItem where
  names : (List Bs)
  list : (List Val)
  deriving Inhabited
def encGTreeItem (v : GTreeItem) : List AV := [.sl false (v.names.map encS), .sl true (v.list.map encVal)]
theorem encGTreeItem_eq (v : GTreeItem) : encGTreeItem v = [.sl false (v.names.map encS), .sl true (v.list.map encVal)] := rfl
theorem encGTreeItem_len (v : GTreeItem) : (encGTreeItem v).length = 2 := by rw [encGTreeItem_eq]; rfl
theorem encGTreeItem_ok (v : GTreeItem) : cellsOk (encGTreeItem v) = true := by rw [encGTreeItem_eq]; rfl
theorem encGTreeItem_frz (v : GTreeItem) : FrzL (encGTreeItem v) (encGTreeItem v) := by rw [encGTreeItem_eq]; exact .cons (.refl _ rfl) (.cons (.refl _ rfl) (.nil))
@[ext] structure XAcceptRange where
  lo : Int
  hi : Int
  deriving Inhabited
def encXAcceptRange (v : XAcceptRange) : List AV := [.int .u8 v.lo, .int .u8 v.hi]
theorem encXAcceptRange_eq (v : XAcceptRange) : encXAcceptRange v = [.int .u8 v.lo, .int .u8 v.hi] := rfl
theorem encXAcceptRange_len (v : XAcceptRange) : (encXAcceptRange v).length = 2 := by rw [encXAcceptRange_eq]; rfl
theorem encXAcceptRange_ok (v : XAcceptRange) : cellsOk (encXAcceptRange v) = true := by rw [encXAcceptRange_eq]; rfl
theorem encXAcceptRange_frz (v : XAcceptRange) : FrzL (encXAcceptRange v) (encXAcceptRange v) := by rw [encXAcceptRange_eq]; exact .cons (.refl _ rfl) (.cons (.refl _ rfl) (.nil))
inductive GI20 where
  | nil
  | c9 (v : Bs)
  deriving Inhabited
def encGI20 : GI20 → AV
  | .nil => .raw .nilIface
  | .c9 v => .ifc 9 (.str v)
def GI20.isNil : GI20 → Bool | .nil => true | _ => false
def GI20.is9 : GI20 → Bool | .c9 _ => true | _ => false
def GI20.as9 : GI20 → Bs | .c9 v => v | _ => []
inductive GI78 where
  | nil
  | c80 (v : Bool)
  | c82 (v : Int)
  | c83 (v : Bs)
  | c84 (v : (List Val))
  | c87 (v : GTreeItem)
  | c88 (v : Bs)
  | c89 (v : Bs)
  | c100
  deriving Inhabited
def encGI78 : GI78 → AV
  | .nil => .raw .nilIface
  | .c80 v => .ifc 80 (.bool v)
  | .c82 v => .ifc 82 (.int .i64 v)
  | .c83 v => .ifc 83 (.str v)
  | .c84 v => .ifc 84 (.sl true (v.map encVal))
  | .c87 v => .ifc 87 (.agg (encGTreeItem v))
  | .c88 v => .ifc 88 (.str v)
  | .c89 v => .ifc 89 (.str v)
  | .c100 => .ifc 100 (.agg [])
def GI78.isNil : GI78 → Bool | .nil => true | _ => false
def GI78.is80 : GI78 → Bool | .c80 _ => true | _ => false
def GI78.is82 : GI78 → Bool | .c82 _ => true | _ => false
def GI78.is83 : GI78 → Bool | .c83 _ => true | _ => false
def GI78.as83 : GI78 → Bs | .c83 v => v | _ => []
def GI78.is84 : GI78 → Bool | .c84 _ => true | _ => false
def GI78.is87 : GI78 → Bool | .c87 _ => true | _ => false
def GI78.is88 : GI78 → Bool | .c88 _ => true | _ => false
def GI78.as88 : GI78 → Bs | .c88 v => v | _ => []
def GI78.is89 : GI78 → Bool | .c89 _ => true | _ => false
def GI78.as89 : GI78 → Bs | .c89 v => v | _ => []
end Go.Proofs.YtopbbjoflopjbaaDoor
