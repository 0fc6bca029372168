-- printed by a program of this session (pp.sh: a turned scratch copy of the kit's print); Lean checks it
import Derived.Test.YtlflocejgffjdaaProg
import Derived.Below
import Derived.Deep.Draws
import Derived.Deep.AppendLies
import Derived.Maps.AppendAt
import Derived.OwnWalk
import Derived.Laws.BytesArg
import Derived.Laws.MakeOwn
import Derived.Laws.OwnMore
import Derived.Deep.OwnRows
import Derived.Tactics
import Derived.Lib.ConvBytes
import Derived.Laws.Slices
import Derived.WalkKit
import Derived.KernelRfl
import Derived.RowKit3
import Derived.Deep.LoopGhost
import Derived.Deep.QuietTactic
import Derived.BigQuiet
import Derived.WideLaws
import Derived.Deep.DeepCutAuto
import Derived.Deep.CutBlock
import Derived.Deep.RegionHeld3
import Derived.Laws.Rows
import Derived.Lib.AppendStr
import Derived.ArgAppend
import Derived.Laws.IdiomCopy
import Derived.OrdersHeld
import Derived.Laws.BitsLemmas
import Derived.RowKit
import Derived.Test.YtlflocejgffjdaaWWords
import Derived.Test.YtlflocejgffjdaaWLast
import Derived.Test.YtlflocejgffjdaaWTab
import Derived.Test.YtlflocejgffjdaaWFour
import Derived.Test.YtlflocejgffjdaaWQPut
import Derived.Test.YtlflocejgffjdaaWApart
import Derived.Test.YtlflocejgffjdaaWArr
import Derived.Test.YtlflocejgffjdaaWZeros
import Derived.Test.YtlflocejgffjdaaWFoot
import Derived.Test.YtlflocejgffjdaaWKept
import Derived.Test.YtlflocejgffjdaaWShare
import Derived.Test.YtlflocejgffjdaaWN
import Derived.Test.YtlflocejgffjdaaWFootNe
import Derived.Test.YtlflocejgffjdaaWAt
import Derived.Test.YtlflocejgffjdaaWEqStruct
import Derived.Test.YtlflocejgffjdaaWRepsOne
import Derived.Test.YtlflocejgffjdaaWInv
import Derived.Test.YtlflocejgffjdaaWInvWords
import Derived.Test.YtlflocejgffjdaaWGuard
import Derived.Test.YtlflocejgffjdaaWNEv
import Derived.Test.YtlflocejgffjdaaWMore
namespace Go.Proofs.Ytlflocejgffjdaa.QDT
open Go.RowKit Go.Proofs.YtlflocejgffjdaaW.PrintWords Go.Proofs.YtlflocejgffjdaaW.PrintLast Go.Proofs.YtlflocejgffjdaaW.PrintMore
attribute [local go_sem] max2_int min2_int max_two min_two max_three min_three max_four min_four   -- for this text's walks alone
set_option linter.unusedVariables false
set_option linter.unusedSimpArgs false



def errW : Option Int → Value
  | none => .nilIface
  | some c => .iface 0 (.int .i64 c)
theorem errW_none : errW none = .nilIface := rfl
theorem errW_some (c : Int) : errW (some c) = .iface 0 (.int .i64 c) := rfl

theorem info5 : (Try.prog.info? 5).map (fun i => (i.zero, i.size, i.bytes)) = some (some (.int .u8 0), 1, 1) := by kernel_rfl
-- the values' own types

end Go.Proofs.Ytlflocejgffjdaa.QDT
