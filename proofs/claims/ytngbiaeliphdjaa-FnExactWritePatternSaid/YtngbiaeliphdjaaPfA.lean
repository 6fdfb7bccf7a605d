/- A fact on the translated program: it may be entered. No statement of the seat is proved here. -/
import Derived.Test.YtngbiaeliphdjaaRows
import Derived.ProofKit
namespace Go.Proofs.Ytngbiaeliphdjaa
open Go
theorem prog_mayEnter : Try.prog.mayEnter = true := by kernel_rfl
end Go.Proofs.Ytngbiaeliphdjaa
