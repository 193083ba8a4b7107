/- Functions of the given program as plain Lean functions, and the proofs that the calls do so: written by a program of this session (a turned copy of the print tool). -/
import Derived.Test.YtbenbabbehehnaaProg
import Derived.Below
import Derived.Deep.Draws
import Derived.Deep.AppendLies
import Derived.Maps.AppendAt
import Derived.OwnWalk
import Derived.Laws.BytesArg
import Derived.Laws.MakeOwn
import Derived.Laws.OwnMore
import Derived.Deep.OwnRows
import Derived.Tactics
import Derived.Lib.ConvBytes
import Derived.Laws.Slices
import Derived.WalkKit
import Derived.KernelRfl
import Derived.RowKit3
import Derived.Deep.LoopGhost
import Derived.Deep.QuietTactic
import Derived.BigQuiet
import Derived.WideLaws
import Derived.Deep.DeepCutAuto
import Derived.Deep.CutBlock
import Derived.Deep.RegionHeld3
import Derived.Laws.Rows
import Derived.Lib.AppendStr
import Derived.ArgAppend
import Derived.Laws.IdiomCopy
import Derived.OrdersHeld
import Derived.Laws.BitsLemmas
import Derived.RowKit
import Derived.Test.YtbenbabbehehnaaWWords
import Derived.Test.YtbenbabbehehnaaWLast
import Derived.Test.YtbenbabbehehnaaWTab
import Derived.Test.YtbenbabbehehnaaWFour
import Derived.Test.YtbenbabbehehnaaWQPut
import Derived.Test.YtbenbabbehehnaaWApart
import Derived.Test.YtbenbabbehehnaaWArr
import Derived.Test.YtbenbabbehehnaaWZeros
import Derived.Test.YtbenbabbehehnaaWFoot
import Derived.Test.YtbenbabbehehnaaWKept
import Derived.Test.YtbenbabbehehnaaWShare
import Derived.Test.YtbenbabbehehnaaWN
import Derived.Test.YtbenbabbehehnaaWFootNe
import Derived.Test.YtbenbabbehehnaaWAt
import Derived.Test.YtbenbabbehehnaaWEqStruct
import Derived.Test.YtbenbabbehehnaaWRepsOne
import Derived.Test.YtbenbabbehehnaaWInv
import Derived.Test.YtbenbabbehehnaaWInvWords
import Derived.Test.YtbenbabbehehnaaWGuard
import Derived.Test.YtbenbabbehehnaaWNEv
import Derived.Test.YtbenbabbehehnaaWMore
namespace Go.Proofs.Ytbenbabbehehnaa.PHashChains
open Go.RowKit Go.Proofs.YtbenbabbehehnaaW.PrintWords Go.Proofs.YtbenbabbehehnaaW.PrintLast Go.Proofs.YtbenbabbehehnaaW.PrintMore
attribute [local go_sem] max2_int min2_int max_two min_two max_three min_three max_four min_four   -- for this text's walks alone
set_option linter.unusedVariables false
set_option linter.unusedSimpArgs false



def errW : Option Int → Value
  | none => .nilIface
  | some c => .iface 0 (.int .i64 c)
theorem errW_none : errW none = .nilIface := rfl
theorem errW_some (c : Int) : errW (some c) = .iface 0 (.int .i64 c) := rfl

theorem info22 : (Try.prog.info? 22).map (fun i => (i.zero, i.size, i.bytes)) = some (some (.int .u64 0), 1, 8) := by kernel_rfl
-- the values' own types

end Go.Proofs.Ytbenbabbehehnaa.PHashChains
