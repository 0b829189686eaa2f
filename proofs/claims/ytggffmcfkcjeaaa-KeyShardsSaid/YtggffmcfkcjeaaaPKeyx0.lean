/- Written by a program of this session (pp.py over the kit's print.py): functions as they are printed, the walks, the rows. No condition beyond those that each theorem states. -/
import Derived.Test.YtggffmcfkcjeaaaProg
import Derived.Test.YtggffmcfkcjeaaaOwn0
import Derived.Below
import Derived.Deep.Draws
import Derived.Deep.AppendLies
import Derived.Maps.AppendAt
import Derived.OwnWalk
import Derived.Laws.BytesArg
import Derived.Laws.MakeOwn
import Derived.Laws.OwnMore
import Derived.Deep.OwnRows
import Derived.Tactics
import Derived.Lib.ConvBytes
import Derived.Laws.Slices
import Derived.WalkKit
import Derived.KernelRfl
import Derived.RowKit3
import Derived.Deep.LoopGhost
import Derived.Deep.QuietTactic
import Derived.BigQuiet
import Derived.WideLaws
import Derived.Deep.DeepCutAuto
import Derived.Deep.CutBlock
import Derived.Deep.RegionHeld3
import Derived.Laws.Rows
import Derived.Lib.AppendStr
import Derived.ArgAppend
import Derived.Laws.IdiomCopy
import Derived.OrdersHeld
import Derived.Laws.BitsLemmas
import Derived.RowKit
import Derived.Lib.SlBytesConst
import Derived.Test.YtggffmcfkcjeaaaOwn1
import Derived.Test.YtggffmcfkcjeaaaWWords
import Derived.Test.YtggffmcfkcjeaaaWLast
import Derived.Test.YtggffmcfkcjeaaaWTab
import Derived.Test.YtggffmcfkcjeaaaWFour
import Derived.Test.YtggffmcfkcjeaaaWQPut
import Derived.Test.YtggffmcfkcjeaaaWApart
import Derived.Test.YtggffmcfkcjeaaaWArr
import Derived.Test.YtggffmcfkcjeaaaWZeros
import Derived.Test.YtggffmcfkcjeaaaWFoot
import Derived.Test.YtggffmcfkcjeaaaWKept
import Derived.Test.YtggffmcfkcjeaaaWShare
import Derived.Test.YtggffmcfkcjeaaaWN
import Derived.Test.YtggffmcfkcjeaaaWFootNe
import Derived.Test.YtggffmcfkcjeaaaWAt
import Derived.Test.YtggffmcfkcjeaaaWEqStruct
import Derived.Test.YtggffmcfkcjeaaaWRepsOne
import Derived.Test.YtggffmcfkcjeaaaWInv
import Derived.Test.YtggffmcfkcjeaaaWInvWords
import Derived.Test.YtggffmcfkcjeaaaWGuard
import Derived.Test.YtggffmcfkcjeaaaWNEv
import Derived.Test.YtggffmcfkcjeaaaWMore
namespace Go.Proofs.Ytggffmcfkcjeaaa.PKey
open Go.RowKit Go.Proofs.YtggffmcfkcjeaaaW.PrintWords Go.Proofs.YtggffmcfkcjeaaaW.PrintLast Go.Proofs.YtggffmcfkcjeaaaW.PrintMore
attribute [local go_sem] max2_int min2_int max_two min_two max_three min_three max_four min_four   -- for this text's walks alone
set_option linter.unusedVariables false
set_option linter.unusedSimpArgs false



def errW : Option Int → Value
  | none => .nilIface
  | some c => .iface 0 (.int .i64 c)
theorem errW_none : errW none = .nilIface := rfl
theorem errW_some (c : Int) : errW (some c) = .iface 0 (.int .i64 c) := rfl

theorem info9 : (Try.prog.info? 9).map (fun i => (i.zero, i.size, i.bytes)) = some (some (.string ⟨#[]⟩), 1, 16) := by kernel_rfl
-- the values' own types

end Go.Proofs.Ytggffmcfkcjeaaa.PKey
