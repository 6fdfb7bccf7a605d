/- A fact on the translated program. No statement of the seat is proved here. -/
import Derived.Test.YtngbiaeliphdjaaRows
import Derived.ProofKit
import Derived.JoinedOf
namespace Go.Proofs.Ytngbiaeliphdjaa
open Go
theorem prog_laid : laidOutB Try.prog = true := by kernel_rfl
theorem prog_maps : mapsRowed Try.prog = true := by kernel_rfl
theorem prog_stops : Try.prog.stopsHeard = true := by kernel_rfl
theorem prog_lifts : Try.prog.liftsFinal = false := by kernel_rfl
end Go.Proofs.Ytngbiaeliphdjaa
