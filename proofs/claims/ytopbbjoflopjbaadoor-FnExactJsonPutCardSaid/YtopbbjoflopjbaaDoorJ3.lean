/- The library's table out of the row's condition; the conditions stand in each theorem. -/
import Derived.Test.YtopbbjoflopjbaaDoorRows
import Derived.Test.YtopbbjoflopjbaaDoorJ2
import Derived.Test.YtopbbjoflopjbaaDoorB22
import Derived.Stop.LaidErr
import Derived.LaidMore
import Derived.Lay
/-! The table. -/
set_option linter.unusedVariables false
set_option maxRecDepth 100000
namespace Go.Proofs.YtopbbjoflopjbaaDoor
open Go Go.Bb
theorem pow10_laid : (Rows.laid_internal_strconv_uint64pow10 : DataW Unit) = Lib.tabData .u64 Lib.pow10Tab := by kernel_rfl
theorem tab_laid {W : World} (h : laidMetH Tryd.prog Rows.fnExactJsonPutRow.laid W) : TabW Tryd.prog W := by
  rw [MakeChecks.laidMetH_plain _ _ _ (by kernel_rfl)] at h
  have h2 : laidMet Tryd.prog [("internal/strconv.uint64pow10", Rows.laid_internal_strconv_uint64pow10)] W := laidMet.tail (laidMet.tail h)
  rw [pow10_laid] at h2
  exact Lib.tabIs_of_head (g := 0) (by kernel_rfl) (by kernel_rfl) Tryd.underlying114 Tryd.underlying103 (by kernel_rfl) (by kernel_rfl) h2
end Go.Proofs.YtopbbjoflopjbaaDoor
