/- Odds and ends for the program that prints walks; the conditions stand in each theorem. -/
import Derived.Test.YtiaigcdckmpepaaB12
/-! More for printed walks. -/
set_option linter.unusedVariables false
namespace Go.Bb

theorem v_splitI {P : Program} {c : Cx} {o : Oper} {σ : St} {K : St → Prop} {r : AV} (h : K (σ.put o.dst r) → ValOk P c o σ K) (hK : K (σ.put o.dst r)) : ValOk P c o σ K := h hK
theorem o_splitI {P : Program} {c : Cx} {o : Oper} {σ : St} {K : St → Prop} {r : AV} (h : K (σ.put o.dst r) → OpOk P c o σ K) (hK : K (σ.put o.dst r)) : OpOk P c o σ K := h hK

end Go.Bb
