/- The library's searches for one byte in a string, over abstract states; the conditions stand in each theorem. -/
import Derived.Test.YtopbbjoflopjbaaDoorB14
import Derived.Test.YtopbbjoflopjbaaDoorTabb
import Derived.Laws.Externs
import Derived.Lib.Bytealg
import Derived.Laws.Small
/-! Bytes in strings. -/
set_option linter.unusedVariables false
set_option linter.unusedSimpArgs false
set_option maxRecDepth 100000
namespace Go.Proofs.YtopbbjoflopjbaaDoor
open Go.Bb

section
variable {c : Cx} {σ : St} {K : St → Prop} {d : Option Tmp} {ty : TypeId} {pos : String} {af : Array Edge} {g : Option (Nat × Bool)}
theorem run_ixb (s : ByteArray) (n : Int) (w : World) : (callFunc 97 #[.string s, .int .u8 n]).run Tryd.prog w = .ok (.value (.int .i64 (Lib.indexByte s.data.toList n.toNat.toUInt8))) w := by
  rw [run_callFunc_extern Tryd.func97 (by kernel_rfl) (by kernel_rfl) (by kernel_rfl) (e := Extern.BytealgIndexByte.indexByte) (by kernel_rfl), Lib.run_indexByteString]
  rfl
theorem run_cnt (s : ByteArray) (n : Int) (w : World) : (callFunc 79 #[.string s, .int .u8 n]).run Tryd.prog w = .ok (.value (.int .i64 (Lib.countByte s.data.toList n.toNat.toUInt8))) w := by
  rw [run_callFunc_extern Tryd.func79 (by kernel_rfl) (by kernel_rfl) (by kernel_rfl) (e := Extern.BytealgCount.count) (by kernel_rfl), Lib.run_countString]
  rfl
theorem v_ixb {x y : Operand} {at_ : Array TypeId} {l : List UInt8} {n : Int} (hx : evA σ x = some (.str l)) (hy : evA σ y = some (.int .u8 n)) (hd : dok d σ.nt = true) (hK : K (σ.put d (.int .i64 (Lib.indexByte l n.toNat.toUInt8)))) : ValOk Tryd.prog c ⟨d, .call ⟨.value (.func 97), #[x, y], at_⟩, ty, pos, af, g⟩ σ K :=
  mkV hd hK fun F N a w hr => by
    have hp := evA_rel hr hx
    have hq := evA_rel hr hy
    generalize hv : a.eval x = vx at hp
    generalize hu : a.eval y = vy at hq
    cases hp
    cases hq
    refine ⟨_, .int _ _, fun w' _ => ?_⟩
    have := run_ixb ⟨l.toArray⟩ n w'
    have hf : a.eval (.func 97) = .func (.func 97) #[] #[] := rfl
    simp [execOp, resolve, Deferred.ofValue, invoke, hv, hu, hf, this]
theorem v_cnt {x y : Operand} {at_ : Array TypeId} {l : List UInt8} {n : Int} (hx : evA σ x = some (.str l)) (hy : evA σ y = some (.int .u8 n)) (hd : dok d σ.nt = true) (hK : K (σ.put d (.int .i64 (Lib.countByte l n.toNat.toUInt8)))) : ValOk Tryd.prog c ⟨d, .call ⟨.value (.func 79), #[x, y], at_⟩, ty, pos, af, g⟩ σ K :=
  mkV hd hK fun F N a w hr => by
    have hp := evA_rel hr hx
    have hq := evA_rel hr hy
    generalize hv : a.eval x = vx at hp
    generalize hu : a.eval y = vy at hq
    cases hp
    cases hq
    refine ⟨_, .int _ _, fun w' _ => ?_⟩
    have := run_cnt ⟨l.toArray⟩ n w'
    have hf : a.eval (.func 79) = .func (.func 79) #[] #[] := rfl
    simp [execOp, resolve, Deferred.ofValue, invoke, hv, hu, hf, this]
theorem v_min {x y : Operand} {at_ : Array TypeId} {k : IntKind} {m n : Int} (hx : evA σ x = some (.int k m)) (hy : evA σ y = some (.int k n)) (hd : dok d σ.nt = true) (hK : K (σ.put d (.int k (if n < m then n else m)))) : ValOk Tryd.prog c ⟨d, .call ⟨.builtin .min, #[x, y], at_⟩, ty, pos, af, g⟩ σ K :=
  mkV hd hK fun F N a w hr => by
    have hp := evA_rel hr hx
    have hq := evA_rel hr hy
    generalize hv : a.eval x = vx at hp
    generalize hu : a.eval y = vy at hq
    cases hp
    cases hq
    refine ⟨_, .int _ _, fun w' _ => ?_⟩
    simp [execOp, resolve, invoke, builtin, hv, hu, run_min_int2]
end
end Go.Proofs.YtopbbjoflopjbaaDoor
