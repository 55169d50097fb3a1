/- The law FnExactConstants answers true in every world: it has no argument and reads no memory, so nothing is asked beforehand. -/
import Derived.Test.YthokajebopeomaaPFnExactConstantsx1
namespace Go.Proofs.Ythokajebopeomaa.Pure
open Go.RowKit Go.Proofs.Ythokajebopeomaa.PFnExactConstants Go.Proofs.YthokajebopeomaaW.PrintWords Go.Proofs.YthokajebopeomaaW.PrintLast

/-- YOURS: laws_FnExactConstants.f  = some true
What it reaches (each with k first where it has rounds; `.mono`: more rounds tell the same; `.l0`, ..: its loops, with `.mono_l`): laws_FnExactConstants.f -/
theorem FnExactConstants : laws_FnExactConstants.Pure := by
  exact rfl

end Go.Proofs.Ythokajebopeomaa.Pure
