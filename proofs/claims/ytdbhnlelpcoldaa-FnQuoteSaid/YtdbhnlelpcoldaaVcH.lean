/- The calculus: the words of the printed formulas. No statement of the seat is proved here. -/
import Derived.Test.YtdbhnlelpcoldaaVcG
namespace Go.Vc
set_option linter.unusedVariables false

@[reducible] def retG (F : Value → World → Prop) (Qp : List PanicEntry → World → Prop) (e : Ending) (w : World) : Prop := match e with
  | .returned v => F v w
  | .panicked c => Qp c w
  | .outgrown => False

end Go.Vc
