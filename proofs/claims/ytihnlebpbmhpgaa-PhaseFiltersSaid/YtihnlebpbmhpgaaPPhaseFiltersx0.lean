-- written by a program of this project (print2)
import Derived.Test.YtihnlebpbmhpgaaProg
import Derived.Below
import Derived.Deep.Draws
import Derived.Deep.AppendLies
import Derived.Maps.AppendAt
import Derived.OwnWalk
import Derived.Laws.BytesArg
import Derived.Laws.MakeOwn
import Derived.Laws.OwnMore
import Derived.Deep.OwnRows
import Derived.Tactics
import Derived.Lib.ConvBytes
import Derived.Laws.Slices
import Derived.WalkKit
import Derived.KernelRfl
import Derived.RowKit3
import Derived.Deep.LoopGhost
import Derived.Deep.QuietTactic
import Derived.BigQuiet
import Derived.WideLaws
import Derived.Deep.DeepCutAuto
import Derived.Deep.CutBlock
import Derived.Deep.RegionHeld3
import Derived.Laws.Rows
import Derived.Lib.AppendStr
import Derived.ArgAppend
import Derived.Laws.IdiomCopy
import Derived.OrdersHeld
import Derived.Laws.BitsLemmas
import Derived.RowKit
import Derived.Test.YtihnlebpbmhpgaaYHeads
import Derived.Test.YtihnlebpbmhpgaaWWords
import Derived.Test.YtihnlebpbmhpgaaWLast
import Derived.Test.YtihnlebpbmhpgaaWTab
import Derived.Test.YtihnlebpbmhpgaaWFour
import Derived.Test.YtihnlebpbmhpgaaWQPut
import Derived.Test.YtihnlebpbmhpgaaWApart
import Derived.Test.YtihnlebpbmhpgaaWArr
import Derived.Test.YtihnlebpbmhpgaaWZeros
import Derived.Test.YtihnlebpbmhpgaaWFoot
import Derived.Test.YtihnlebpbmhpgaaWKept
import Derived.Test.YtihnlebpbmhpgaaWShare
import Derived.Test.YtihnlebpbmhpgaaWN
import Derived.Test.YtihnlebpbmhpgaaWFootNe
import Derived.Test.YtihnlebpbmhpgaaWAt
import Derived.Test.YtihnlebpbmhpgaaWEqStruct
import Derived.Test.YtihnlebpbmhpgaaWRepsOne
import Derived.Test.YtihnlebpbmhpgaaWInv
import Derived.Test.YtihnlebpbmhpgaaWInvWords
import Derived.Test.YtihnlebpbmhpgaaWGuard
import Derived.Test.YtihnlebpbmhpgaaWNEv
import Derived.Test.YtihnlebpbmhpgaaWMore
import Derived.Test.YtihnlebpbmhpgaaXMine
namespace Go.Proofs.Ytihnlebpbmhpgaa.PPhaseFilters
open Go.RowKit Go.Proofs.YtihnlebpbmhpgaaW.PrintMine Go.Proofs.YtihnlebpbmhpgaaW.PrintWords Go.Proofs.YtihnlebpbmhpgaaW.PrintLast Go.Proofs.YtihnlebpbmhpgaaW.PrintMore
attribute [local go_sem] max2_int min2_int max_two min_two max_three min_three max_four min_four   -- for this text's walks alone
set_option linter.unusedVariables false
set_option linter.unusedSimpArgs false



def errW : Option Int → Value
  | none => .nilIface
  | some c => .iface 0 (.int .i64 c)
theorem errW_none : errW none = .nilIface := rfl
theorem errW_some (c : Int) : errW (some c) = .iface 0 (.int .i64 c) := rfl

theorem info3 : (Try.prog.info? 3).map (fun i => (i.zero, i.size, i.bytes)) = some (some (.int .i64 0), 1, 8) := by kernel_rfl
theorem info5 : (Try.prog.info? 5).map (fun i => (i.zero, i.size, i.bytes)) = some (some (.int .u8 0), 1, 1) := by kernel_rfl
-- the values' own types

end Go.Proofs.Ytihnlebpbmhpgaa.PPhaseFilters
