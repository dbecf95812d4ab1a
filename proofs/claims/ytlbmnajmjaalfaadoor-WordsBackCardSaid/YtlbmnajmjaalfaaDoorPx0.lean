-- WRITTEN BY handprint.py, this session's program round the kit's print.py
import Derived.Test.YtlbmnajmjaalfaaDoorProg
import Derived.Below
import Derived.Deep.Draws
import Derived.Deep.AppendLies
import Derived.Maps.AppendAt
import Derived.OwnWalk
import Derived.Laws.BytesArg
import Derived.Laws.MakeOwn
import Derived.Laws.OwnMore
import Derived.Deep.OwnRows
import Derived.Tactics
import Derived.Lib.ConvBytes
import Derived.Laws.Slices
import Derived.WalkKit
import Derived.KernelRfl
import Derived.RowKit3
import Derived.Deep.LoopGhost
import Derived.Deep.QuietTactic
import Derived.BigQuiet
import Derived.WideLaws
import Derived.Deep.DeepCutAuto
import Derived.Deep.CutBlock
import Derived.Deep.RegionHeld3
import Derived.Laws.Rows
import Derived.Lib.AppendStr
import Derived.ArgAppend
import Derived.Laws.IdiomCopy
import Derived.OrdersHeld
import Derived.Laws.BitsLemmas
import Derived.RowKit
import Derived.Deep.DrawnRows
import Derived.Lib.AppendIntMem
import Derived.Test.YtlbmnajmjaalfaaDoorShelf
import Derived.Test.YtlbmnajmjaalfaaDoorWWords
import Derived.Test.YtlbmnajmjaalfaaDoorWLast
import Derived.Test.YtlbmnajmjaalfaaDoorWTab
import Derived.Test.YtlbmnajmjaalfaaDoorWFour
import Derived.Test.YtlbmnajmjaalfaaDoorWQPut
import Derived.Test.YtlbmnajmjaalfaaDoorWApart
import Derived.Test.YtlbmnajmjaalfaaDoorWArr
import Derived.Test.YtlbmnajmjaalfaaDoorWZeros
import Derived.Test.YtlbmnajmjaalfaaDoorWFoot
import Derived.Test.YtlbmnajmjaalfaaDoorWKept
import Derived.Test.YtlbmnajmjaalfaaDoorWShare
import Derived.Test.YtlbmnajmjaalfaaDoorWN
import Derived.Test.YtlbmnajmjaalfaaDoorWFootNe
import Derived.Test.YtlbmnajmjaalfaaDoorWAt
import Derived.Test.YtlbmnajmjaalfaaDoorWEqStruct
import Derived.Test.YtlbmnajmjaalfaaDoorWRepsOne
import Derived.Test.YtlbmnajmjaalfaaDoorWInv
import Derived.Test.YtlbmnajmjaalfaaDoorWInvWords
import Derived.Test.YtlbmnajmjaalfaaDoorWGuard
import Derived.Test.YtlbmnajmjaalfaaDoorWNEv
import Derived.Test.YtlbmnajmjaalfaaDoorWMore
import Derived.Test.YtlbmnajmjaalfaaDoorMine
namespace Go.Proofs.YtlbmnajmjaalfaaDoor.P
open Go.RowKit Go.Proofs.YtlbmnajmjaalfaaDoorW.PrintWords Go.Proofs.YtlbmnajmjaalfaaDoorW.PrintLast Go.Proofs.YtlbmnajmjaalfaaDoorW.PrintMore Go.Proofs.YtlbmnajmjaalfaaDoorW.Mine
attribute [local go_sem] max2_int min2_int max_two min_two max_three min_three max_four min_four   -- for this text's walks alone
set_option linter.unusedVariables false
set_option linter.unusedSimpArgs false



def errW : Option Int → Value
  | none => .nilIface
  | some c => .iface 0 (.int .i64 c)
theorem errW_none : errW none = .nilIface := rfl
theorem errW_some (c : Int) : errW (some c) = .iface 0 (.int .i64 c) := rfl

theorem info5 : (Tryd.prog.info? 5).map (fun i => (i.zero, i.size, i.bytes)) = some (some (.int .u8 0), 1, 1) := by kernel_rfl
theorem info9 : (Tryd.prog.info? 9).map (fun i => (i.zero, i.size, i.bytes)) = some (some (.string ⟨#[]⟩), 1, 16) := by kernel_rfl
-- the values' own types

end Go.Proofs.YtlbmnajmjaalfaaDoor.P
