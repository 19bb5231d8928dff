-- written by a program of this project (print2)
import Derived.Test.YtidoapamakncgaaProg
import Derived.Below
import Derived.Deep.Draws
import Derived.Deep.AppendLies
import Derived.Maps.AppendAt
import Derived.OwnWalk
import Derived.Laws.BytesArg
import Derived.Laws.MakeOwn
import Derived.Laws.OwnMore
import Derived.Deep.OwnRows
import Derived.Tactics
import Derived.Lib.ConvBytes
import Derived.Laws.Slices
import Derived.WalkKit
import Derived.KernelRfl
import Derived.RowKit3
import Derived.Deep.LoopGhost
import Derived.Deep.QuietTactic
import Derived.BigQuiet
import Derived.WideLaws
import Derived.Deep.DeepCutAuto
import Derived.Deep.CutBlock
import Derived.Deep.RegionHeld3
import Derived.Laws.Rows
import Derived.Lib.AppendStr
import Derived.ArgAppend
import Derived.Laws.IdiomCopy
import Derived.OrdersHeld
import Derived.Laws.BitsLemmas
import Derived.RowKit
import Derived.Test.YtidoapamakncgaaWWords
import Derived.Test.YtidoapamakncgaaWLast
import Derived.Test.YtidoapamakncgaaWTab
import Derived.Test.YtidoapamakncgaaWFour
import Derived.Test.YtidoapamakncgaaWQPut
import Derived.Test.YtidoapamakncgaaWApart
import Derived.Test.YtidoapamakncgaaWArr
import Derived.Test.YtidoapamakncgaaWZeros
import Derived.Test.YtidoapamakncgaaWFoot
import Derived.Test.YtidoapamakncgaaWKept
import Derived.Test.YtidoapamakncgaaWShare
import Derived.Test.YtidoapamakncgaaWN
import Derived.Test.YtidoapamakncgaaWFootNe
import Derived.Test.YtidoapamakncgaaWAt
import Derived.Test.YtidoapamakncgaaWEqStruct
import Derived.Test.YtidoapamakncgaaWRepsOne
import Derived.Test.YtidoapamakncgaaWInv
import Derived.Test.YtidoapamakncgaaWInvWords
import Derived.Test.YtidoapamakncgaaWGuard
import Derived.Test.YtidoapamakncgaaWNEv
import Derived.Test.YtidoapamakncgaaWMore
import Derived.Test.YtidoapamakncgaaXMine
namespace Go.Proofs.Ytidoapamakncgaa.PCrcTells
open Go.RowKit Go.Proofs.YtidoapamakncgaaW.PrintMine Go.Proofs.YtidoapamakncgaaW.PrintWords Go.Proofs.YtidoapamakncgaaW.PrintLast Go.Proofs.YtidoapamakncgaaW.PrintMore
attribute [local go_sem] max2_int min2_int max_two min_two max_three min_three max_four min_four   -- for this text's walks alone
set_option linter.unusedVariables false
set_option linter.unusedSimpArgs false



def errW : Option Int → Value
  | none => .nilIface
  | some c => .iface 0 (.int .i64 c)
theorem errW_none : errW none = .nilIface := rfl
theorem errW_some (c : Int) : errW (some c) = .iface 0 (.int .i64 c) := rfl

theorem info5 : (Try.prog.info? 5).map (fun i => (i.zero, i.size, i.bytes)) = some (some (.int .u8 0), 1, 1) := by kernel_rfl
-- the values' own types

end Go.Proofs.Ytidoapamakncgaa.PCrcTells
