/- The plain data of this program, and its cells. -/
import Derived.Test.YtiaigcdckmpepaaTabb
/-! Plain data. -/
set_option linter.unusedVariables false
namespace Go.Proofs.Ytiaigcdckmpepaa
open Go.Bb
abbrev Bs := List UInt8
@[ext] structure XBoundsError where
  x : Int
  y : Int
  signed : Bool
  code : Int
  deriving Inhabited
def encXBoundsError (v : XBoundsError) : List AV := [.int .i64 v.x, .int .i64 v.y, .bool v.signed, .int .u8 v.code]
theorem encXBoundsError_eq (v : XBoundsError) : encXBoundsError v = [.int .i64 v.x, .int .i64 v.y, .bool v.signed, .int .u8 v.code] := rfl
theorem encXBoundsError_len (v : XBoundsError) : (encXBoundsError v).length = 4 := by rw [encXBoundsError_eq]; rfl
theorem encXBoundsError_ok (v : XBoundsError) : cellsOk (encXBoundsError v) = true := by rw [encXBoundsError_eq]; rfl
theorem encXBoundsError_frz (v : XBoundsError) : FrzL (encXBoundsError v) (encXBoundsError v) := by rw [encXBoundsError_eq]; exact .cons (.refl _ rfl) (.cons (.refl _ rfl) (.cons (.refl _ rfl) (.cons (.refl _ rfl) (.nil))))
@[ext] structure XErrorAddressString where
  msg : Bs
  addr : Int
  deriving Inhabited
def encXErrorAddressString (v : XErrorAddressString) : List AV := [.str v.msg, .int .u64 v.addr]
theorem encXErrorAddressString_eq (v : XErrorAddressString) : encXErrorAddressString v = [.str v.msg, .int .u64 v.addr] := rfl
theorem encXErrorAddressString_len (v : XErrorAddressString) : (encXErrorAddressString v).length = 2 := by rw [encXErrorAddressString_eq]; rfl
theorem encXErrorAddressString_ok (v : XErrorAddressString) : cellsOk (encXErrorAddressString v) = true := by rw [encXErrorAddressString_eq]; rfl
theorem encXErrorAddressString_frz (v : XErrorAddressString) : FrzL (encXErrorAddressString v) (encXErrorAddressString v) := by rw [encXErrorAddressString_eq]; exact .cons (.refl _ rfl) (.cons (.refl _ rfl) (.nil))
inductive Val where
  | mk (kind : Int) (num : Int) (text : Bs) (list : (List Val)) (names : (List Bs))
  deriving Inhabited
def Val.kind : Val → Int | .mk x _ _ _ _ => x
def Val.num : Val → Int | .mk _ x _ _ _ => x
def Val.text : Val → Bs | .mk _ _ x _ _ => x
def Val.list : Val → (List Val) | .mk _ _ _ x _ => x
def Val.names : Val → (List Bs) | .mk _ _ _ _ x => x
theorem Val.ext_ : ∀ {a b : Val}, a.kind = b.kind → a.num = b.num → a.text = b.text → a.list = b.list → a.names = b.names → a = b
  | .mk _ _ _ _ _, .mk _ _ _ _ _, h0, h1, h2, h3, h4 => by subst h0 h1 h2 h3 h4; rfl
@[simp] theorem Val.kind_mk {kind : Int} {num : Int} {text : Bs} {list : (List Val)} {names : (List Bs)} : (Val.mk kind num text list names).kind = kind := rfl
@[simp] theorem Val.num_mk {kind : Int} {num : Int} {text : Bs} {list : (List Val)} {names : (List Bs)} : (Val.mk kind num text list names).num = num := rfl
@[simp] theorem Val.text_mk {kind : Int} {num : Int} {text : Bs} {list : (List Val)} {names : (List Bs)} : (Val.mk kind num text list names).text = text := rfl
@[simp] theorem Val.list_mk {kind : Int} {num : Int} {text : Bs} {list : (List Val)} {names : (List Bs)} : (Val.mk kind num text list names).list = list := rfl
@[simp] theorem Val.names_mk {kind : Int} {num : Int} {text : Bs} {list : (List Val)} {names : (List Bs)} : (Val.mk kind num text list names).names = names := rfl
@[simp] theorem Val.eta (v : Val) : Val.mk v.kind v.num v.text v.list v.names = v := by cases v; rfl
mutual
def encLVal : Val → List AV
  | .mk kind num text list names => [.int .i64 kind, .int .i64 num, .str text, .sl false (encLVals list), .sl false (names.map encS)]
def encLVals : List Val → List (List AV)
  | [] => []
  | v :: l => encLVal v :: encLVals l
end
theorem encLVals_eq (l : List Val) : encLVals l = l.map encLVal := by induction l <;> simp_all [encLVals]
theorem encLVal_eq (v : Val) : encLVal v = [.int .i64 v.kind, .int .i64 v.num, .str v.text, .sl false (v.list.map encLVal), .sl false (v.names.map encS)] := by
  cases v; simp [encLVal, encLVals_eq, Val.kind, Val.num, Val.text, Val.list, Val.names]
theorem encLVal_len (v : Val) : (encLVal v).length = 5 := by rw [encLVal_eq]; rfl
theorem encLVal_ok (v : Val) : cellsOk (encLVal v) = true := by rw [encLVal_eq]; rfl
theorem encLVal_frz (v : Val) : FrzL (encLVal v) (encLVal v) := by rw [encLVal_eq]; exact .cons (.refl _ rfl) (.cons (.refl _ rfl) (.cons (.refl _ rfl) (.cons (.refl _ rfl) (.cons (.refl _ rfl) (.nil)))))
mutual
def encVal : Val → List AV
  | .mk kind num text list names => [.int .i64 kind, .int .i64 num, .str text, .sl true (encVals list), .sl false (names.map encS)]
def encVals : List Val → List (List AV)
  | [] => []
  | v :: l => encVal v :: encVals l
end
theorem encVals_eq (l : List Val) : encVals l = l.map encVal := by induction l <;> simp_all [encVals]
theorem encVal_eq (v : Val) : encVal v = [.int .i64 v.kind, .int .i64 v.num, .str v.text, .sl true (v.list.map encVal), .sl false (v.names.map encS)] := by
  cases v; simp [encVal, encVals_eq, Val.kind, Val.num, Val.text, Val.list, Val.names]
theorem encVal_len (v : Val) : (encVal v).length = 5 := by rw [encVal_eq]; rfl
theorem encVal_ok (v : Val) : cellsOk (encVal v) = true := by rw [encVal_eq]; rfl
theorem encVal_frz (v : Val) : FrzL (encVal v) (encVal v) := by rw [encVal_eq]; exact .cons (.refl _ rfl) (.cons (.refl _ rfl) (.cons (.refl _ rfl) (.cons (.refl _ rfl) (.cons (.refl _ rfl) (.nil)))))
@[ext] structure GPair where
  one : Val
  other : Val
  deriving Inhabited
def encGPair (v : GPair) : List AV := [.int .i64 v.one.kind, .int .i64 v.one.num, .str v.one.text, .sl true (v.one.list.map encVal), .sl false (v.one.names.map encS), .int .i64 v.other.kind, .int .i64 v.other.num, .str v.other.text, .sl true (v.other.list.map encVal), .sl false (v.other.names.map encS)]
theorem encGPair_eq (v : GPair) : encGPair v = [.int .i64 v.one.kind, .int .i64 v.one.num, .str v.one.text, .sl true (v.one.list.map encVal), .sl false (v.one.names.map encS), .int .i64 v.other.kind, .int .i64 v.other.num, .str v.other.text, .sl true (v.other.list.map encVal), .sl false (v.other.names.map encS)] := rfl
theorem encGPair_len (v : GPair) : (encGPair v).length = 10 := by rw [encGPair_eq]; rfl
theorem encGPair_ok (v : GPair) : cellsOk (encGPair v) = true := by rw [encGPair_eq]; rfl
theorem encGPair_frz (v : GPair) : FrzL (encGPair v) (encGPair v) := by rw [encGPair_eq]; exact .cons (.refl _ rfl) (.cons (.refl _ rfl) (.cons (.refl _ rfl) (.cons (.refl _ rfl) (.cons (.refl _ rfl) (.cons (.refl _ rfl) (.cons (.refl _ rfl) (.cons (.refl _ rfl) (.cons (.refl _ rfl) (.cons (.refl _ rfl) (.nil))))))))))
@[ext] structure GJsonReader where
  text : Bs
  at_ : Int
  deriving Inhabited
def encGJsonReader (v : GJsonReader) : List AV := [.str v.text, .int .i64 v.at_]
theorem encGJsonReader_eq (v : GJsonReader) : encGJsonReader v = [.str v.text, .int .i64 v.at_] := rfl
theorem encGJsonReader_len (v : GJsonReader) : (encGJsonReader v).length = 2 := by rw [encGJsonReader_eq]; rfl
theorem encGJsonReader_ok (v : GJsonReader) : cellsOk (encGJsonReader v) = true := by rw [encGJsonReader_eq]; rfl
theorem encGJsonReader_frz (v : GJsonReader) : FrzL (encGJsonReader v) (encGJsonReader v) := by rw [encGJsonReader_eq]; exact .cons (.refl _ rfl) (.cons (.refl _ rfl) (.nil))
@[ext] structure GL1Rd where
  b : (List Int)
  p : Int
  deriving Inhabited
def encGL1Rd (v : GL1Rd) : List AV := [.sl false (v.b.map (encI .u8)), .int .i64 v.p]
theorem encGL1Rd_eq (v : GL1Rd) : encGL1Rd v = [.sl false (v.b.map (encI .u8)), .int .i64 v.p] := rfl
theorem encGL1Rd_len (v : GL1Rd) : (encGL1Rd v).length = 2 := by rw [encGL1Rd_eq]; rfl
theorem encGL1Rd_ok (v : GL1Rd) : cellsOk (encGL1Rd v) = true := by rw [encGL1Rd_eq]; rfl
theorem encGL1Rd_frz (v : GL1Rd) : FrzL (encGL1Rd v) (encGL1Rd v) := by rw [encGL1Rd_eq]; exact .cons (.refl _ rfl) (.cons (.refl _ rfl) (.nil))
@[ext] structure GTreeItem where
  names : (List Bs)
  list : (List Val)
  deriving Inhabited
def encGTreeItem (v : GTreeItem) : List AV := [.sl false (v.names.map encS), .sl true (v.list.map encVal)]
theorem encGTreeItem_eq (v : GTreeItem) : encGTreeItem v = [.sl false (v.names.map encS), .sl true (v.list.map encVal)] := rfl
theorem encGTreeItem_len (v : GTreeItem) : (encGTreeItem v).length = 2 := by rw [encGTreeItem_eq]; rfl
theorem encGTreeItem_ok (v : GTreeItem) : cellsOk (encGTreeItem v) = true := by rw [encGTreeItem_eq]; rfl
theorem encGTreeItem_frz (v : GTreeItem) : FrzL (encGTreeItem v) (encGTreeItem v) := by rw [encGTreeItem_eq]; exact .cons (.refl _ rfl) (.cons (.refl _ rfl) (.nil))
inductive GI110 where
  | nil
  | c112 (v : Bs)
  | c113 (v : Bs)
  | c134
  | c135 (v : Bool)
  | c136 (v : Int)
  | c137 (v : Bs)
  | c138 (v : (List Val))
  | c140 (v : GTreeItem)
  deriving Inhabited
def encGI110 : GI110 → AV
  | .nil => .raw .nilIface
  | .c112 v => .ifc 112 (.str v)
  | .c113 v => .ifc 113 (.str v)
  | .c134 => .ifc 134 (.agg [])
  | .c135 v => .ifc 135 (.bool v)
  | .c136 v => .ifc 136 (.int .i64 v)
  | .c137 v => .ifc 137 (.str v)
  | .c138 v => .ifc 138 (.sl true (v.map encVal))
  | .c140 v => .ifc 140 (.agg (encGTreeItem v))
def GI110.isNil : GI110 → Bool | .nil => true | _ => false
def GI110.is112 : GI110 → Bool | .c112 _ => true | _ => false
def GI110.as112 : GI110 → Bs | .c112 v => v | _ => []
def GI110.is113 : GI110 → Bool | .c113 _ => true | _ => false
def GI110.as113 : GI110 → Bs | .c113 v => v | _ => []
def GI110.is135 : GI110 → Bool | .c135 _ => true | _ => false
def GI110.is136 : GI110 → Bool | .c136 _ => true | _ => false
def GI110.is137 : GI110 → Bool | .c137 _ => true | _ => false
def GI110.as137 : GI110 → Bs | .c137 v => v | _ => []
def GI110.is138 : GI110 → Bool | .c138 _ => true | _ => false
def GI110.is140 : GI110 → Bool | .c140 _ => true | _ => false
end Go.Proofs.Ytiaigcdckmpepaa
