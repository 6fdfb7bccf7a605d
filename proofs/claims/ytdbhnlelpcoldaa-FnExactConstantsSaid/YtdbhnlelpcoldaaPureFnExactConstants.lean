/- What is proved: the law FnExactConstants returns true, with no condition: every exported constant is the one of the document. -/
import Derived.Test.YtdbhnlelpcoldaaPFnExactConstantsx1
namespace Go.Proofs.Ytdbhnlelpcoldaa.Pure
open Go.RowKit Go.Proofs.Ytdbhnlelpcoldaa.PFnExactConstants Go.Proofs.YtdbhnlelpcoldaaW.PrintWords Go.Proofs.YtdbhnlelpcoldaaW.PrintLast

/-- YOURS: laws_FnExactConstants.f  = some true
What it reaches (each with k first where it has rounds; `.mono`: more rounds tell the same; `.l0`, ..: its loops, with `.mono_l`): laws_FnExactConstants.f -/
theorem FnExactConstants : laws_FnExactConstants.Pure := by
  rfl

end Go.Proofs.Ytdbhnlelpcoldaa.Pure
