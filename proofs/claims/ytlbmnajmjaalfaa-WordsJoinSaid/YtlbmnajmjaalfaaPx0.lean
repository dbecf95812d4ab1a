-- WRITTEN BY handprint.py, this session's program round the kit's print.py
import Derived.Test.YtlbmnajmjaalfaaProg
import Derived.Below
import Derived.Deep.Draws
import Derived.Deep.AppendLies
import Derived.Maps.AppendAt
import Derived.OwnWalk
import Derived.Laws.BytesArg
import Derived.Laws.MakeOwn
import Derived.Laws.OwnMore
import Derived.Deep.OwnRows
import Derived.Tactics
import Derived.Lib.ConvBytes
import Derived.Laws.Slices
import Derived.WalkKit
import Derived.KernelRfl
import Derived.RowKit3
import Derived.Deep.LoopGhost
import Derived.Deep.QuietTactic
import Derived.BigQuiet
import Derived.WideLaws
import Derived.Deep.DeepCutAuto
import Derived.Deep.CutBlock
import Derived.Deep.RegionHeld3
import Derived.Laws.Rows
import Derived.Lib.AppendStr
import Derived.ArgAppend
import Derived.Laws.IdiomCopy
import Derived.OrdersHeld
import Derived.Laws.BitsLemmas
import Derived.RowKit
import Derived.Test.YtlbmnajmjaalfaaWWords
import Derived.Test.YtlbmnajmjaalfaaWLast
import Derived.Test.YtlbmnajmjaalfaaWTab
import Derived.Test.YtlbmnajmjaalfaaWFour
import Derived.Test.YtlbmnajmjaalfaaWQPut
import Derived.Test.YtlbmnajmjaalfaaWApart
import Derived.Test.YtlbmnajmjaalfaaWArr
import Derived.Test.YtlbmnajmjaalfaaWZeros
import Derived.Test.YtlbmnajmjaalfaaWFoot
import Derived.Test.YtlbmnajmjaalfaaWKept
import Derived.Test.YtlbmnajmjaalfaaWShare
import Derived.Test.YtlbmnajmjaalfaaWN
import Derived.Test.YtlbmnajmjaalfaaWFootNe
import Derived.Test.YtlbmnajmjaalfaaWAt
import Derived.Test.YtlbmnajmjaalfaaWEqStruct
import Derived.Test.YtlbmnajmjaalfaaWRepsOne
import Derived.Test.YtlbmnajmjaalfaaWInv
import Derived.Test.YtlbmnajmjaalfaaWInvWords
import Derived.Test.YtlbmnajmjaalfaaWGuard
import Derived.Test.YtlbmnajmjaalfaaWNEv
import Derived.Test.YtlbmnajmjaalfaaWMore
import Derived.Test.YtlbmnajmjaalfaaMine
namespace Go.Proofs.Ytlbmnajmjaalfaa.P
open Go.RowKit Go.Proofs.YtlbmnajmjaalfaaW.PrintWords Go.Proofs.YtlbmnajmjaalfaaW.PrintLast Go.Proofs.YtlbmnajmjaalfaaW.PrintMore Go.Proofs.YtlbmnajmjaalfaaW.Mine
attribute [local go_sem] max2_int min2_int max_two min_two max_three min_three max_four min_four   -- for this text's walks alone
set_option linter.unusedVariables false
set_option linter.unusedSimpArgs false



def errW : Option Int → Value
  | none => .nilIface
  | some c => .iface 0 (.int .i64 c)
theorem errW_none : errW none = .nilIface := rfl
theorem errW_some (c : Int) : errW (some c) = .iface 0 (.int .i64 c) := rfl

theorem info5 : (Try.prog.info? 5).map (fun i => (i.zero, i.size, i.bytes)) = some (some (.int .u8 0), 1, 1) := by kernel_rfl
theorem info9 : (Try.prog.info? 9).map (fun i => (i.zero, i.size, i.bytes)) = some (some (.string ⟨#[]⟩), 1, 16) := by kernel_rfl
-- the values' own types

end Go.Proofs.Ytlbmnajmjaalfaa.P
