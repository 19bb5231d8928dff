/- Part 13 of what this claim leans on: YRegionInv. -/
import Derived.Orders
import Derived.OrdersHeld
import Derived.Tactics
/- A region that draws its order, by an invariant: what holds of the operations done so far, kept by each operation that is ready. Of no program. -/
section
set_option linter.unusedVariables false
set_option linter.unusedSimpArgs false
set_option linter.unusedSectionVars false
namespace Go
section
variable {P : Program} {ops : Array Oper} {Q : Exit → Act → World → Prop}

/-- Each operation waits for earlier ones alone. -/
def edgesDown (ops : Array Oper) : Bool := (List.range ops.size).all fun i => match ops[i]? with
  | some o => o.after.all fun e => e.on < i
  | none => true

end
end Go
end
