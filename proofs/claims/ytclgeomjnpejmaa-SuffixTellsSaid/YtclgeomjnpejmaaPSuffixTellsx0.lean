-- written by a program of this project (print2)
import Derived.Test.YtclgeomjnpejmaaProg
import Derived.Below
import Derived.Deep.Draws
import Derived.Deep.AppendLies
import Derived.Maps.AppendAt
import Derived.OwnWalk
import Derived.Laws.BytesArg
import Derived.Laws.MakeOwn
import Derived.Laws.OwnMore
import Derived.Deep.OwnRows
import Derived.Tactics
import Derived.Lib.ConvBytes
import Derived.Laws.Slices
import Derived.WalkKit
import Derived.KernelRfl
import Derived.RowKit3
import Derived.Deep.LoopGhost
import Derived.Deep.QuietTactic
import Derived.BigQuiet
import Derived.WideLaws
import Derived.Deep.DeepCutAuto
import Derived.Deep.CutBlock
import Derived.Deep.RegionHeld3
import Derived.Laws.Rows
import Derived.Lib.AppendStr
import Derived.ArgAppend
import Derived.Laws.IdiomCopy
import Derived.OrdersHeld
import Derived.Laws.BitsLemmas
import Derived.RowKit
import Derived.Test.YtclgeomjnpejmaaYSpec
import Derived.Test.YtclgeomjnpejmaaYBytesCmp
import Derived.Test.YtclgeomjnpejmaaWWords
import Derived.Test.YtclgeomjnpejmaaWLast
import Derived.Test.YtclgeomjnpejmaaWTab
import Derived.Test.YtclgeomjnpejmaaWFour
import Derived.Test.YtclgeomjnpejmaaWQPut
import Derived.Test.YtclgeomjnpejmaaWApart
import Derived.Test.YtclgeomjnpejmaaWArr
import Derived.Test.YtclgeomjnpejmaaWZeros
import Derived.Test.YtclgeomjnpejmaaWFoot
import Derived.Test.YtclgeomjnpejmaaWKept
import Derived.Test.YtclgeomjnpejmaaWShare
import Derived.Test.YtclgeomjnpejmaaWN
import Derived.Test.YtclgeomjnpejmaaWFootNe
import Derived.Test.YtclgeomjnpejmaaWAt
import Derived.Test.YtclgeomjnpejmaaWEqStruct
import Derived.Test.YtclgeomjnpejmaaWRepsOne
import Derived.Test.YtclgeomjnpejmaaWInv
import Derived.Test.YtclgeomjnpejmaaWInvWords
import Derived.Test.YtclgeomjnpejmaaWGuard
import Derived.Test.YtclgeomjnpejmaaWNEv
import Derived.Test.YtclgeomjnpejmaaWMore
import Derived.Test.YtclgeomjnpejmaaXMine
namespace Go.Proofs.Ytclgeomjnpejmaa.PSuffixTells
open Go.RowKit Go.Proofs.YtclgeomjnpejmaaW.PrintMine Go.Proofs.YtclgeomjnpejmaaW.PrintWords Go.Proofs.YtclgeomjnpejmaaW.PrintLast Go.Proofs.YtclgeomjnpejmaaW.PrintMore
attribute [local go_sem] max2_int min2_int max_two min_two max_three min_three max_four min_four   -- for this text's walks alone
set_option linter.unusedVariables false
set_option linter.unusedSimpArgs false



def errW : Option Int → Value
  | none => .nilIface
  | some c => .iface 0 (.int .i64 c)
theorem errW_none : errW none = .nilIface := rfl
theorem errW_some (c : Int) : errW (some c) = .iface 0 (.int .i64 c) := rfl

theorem info3 : (Try.prog.info? 3).map (fun i => (i.zero, i.size, i.bytes)) = some (some (.int .i64 0), 1, 8) := by kernel_rfl
theorem info4 : (Try.prog.info? 4).map (fun i => (i.zero, i.size, i.bytes)) = some (some (.bool false), 1, 1) := by kernel_rfl
theorem info5 : (Try.prog.info? 5).map (fun i => (i.zero, i.size, i.bytes)) = some (some (.int .u8 0), 1, 1) := by kernel_rfl
-- the values' own types

end Go.Proofs.Ytclgeomjnpejmaa.PSuffixTells
