/- Words of this project, beside those of the print: a slice of bytes that is converted to its own type is marked, and read as before. -/
import Derived.Test.YtceompmfmceicaaWMore
import Derived.Test.YtceompmfmceicaaWNEv
import Derived.Laws.IdiomStrings
namespace Go.Proofs.YtceompmfmceicaaW.PrintMine
open Go.RowKit Go.Proofs.YtceompmfmceicaaW.PrintWords Go.Proofs.YtceompmfmceicaaW.PrintLast Go.Proofs.YtceompmfmceicaaW.PrintMore
set_option linter.unusedVariables false

section
variable {P : Program} {ops : Array Oper} {rest : List Oper} {o : Oper} {a : Act} {Q : Exit → Act → World → Prop} {Kc : Act → World → Prop}
end
/-! make([]T, 0, c): a row without elements, and a capacity. -/
section
variable {P : Program} {ops : Array Oper} {rest : List Oper} {o : Oper} {a : Act} {Q : Exit → Act → World → Prop} {Kc : Act → World → Prop} {α : Type}
end
end Go.Proofs.YtceompmfmceicaaW.PrintMine
