-- PRINTED for this claim by a program of this session's (wip/xp); Lean checks it
import Derived.Test.YtnengolkenbhoabProg
import Derived.Below
import Derived.Deep.Draws
import Derived.Deep.AppendLies
import Derived.Maps.AppendAt
import Derived.OwnWalk
import Derived.Laws.BytesArg
import Derived.Laws.MakeOwn
import Derived.Laws.OwnMore
import Derived.Deep.OwnRows
import Derived.Tactics
import Derived.Lib.ConvBytes
import Derived.Laws.Slices
import Derived.WalkKit
import Derived.KernelRfl
import Derived.RowKit3
import Derived.Deep.LoopGhost
import Derived.Deep.QuietTactic
import Derived.BigQuiet
import Derived.WideLaws
import Derived.Deep.DeepCutAuto
import Derived.Deep.CutBlock
import Derived.Deep.RegionHeld3
import Derived.Laws.Rows
import Derived.Lib.AppendStr
import Derived.ArgAppend
import Derived.Laws.IdiomCopy
import Derived.OrdersHeld
import Derived.Laws.BitsLemmas
import Derived.RowKit
import Derived.Test.YtnengolkenbhoabWWords
import Derived.Test.YtnengolkenbhoabWLast
import Derived.Test.YtnengolkenbhoabWTab
import Derived.Test.YtnengolkenbhoabWFour
import Derived.Test.YtnengolkenbhoabWQPut
import Derived.Test.YtnengolkenbhoabWApart
import Derived.Test.YtnengolkenbhoabWArr
import Derived.Test.YtnengolkenbhoabWZeros
import Derived.Test.YtnengolkenbhoabWFoot
import Derived.Test.YtnengolkenbhoabWKept
import Derived.Test.YtnengolkenbhoabWShare
import Derived.Test.YtnengolkenbhoabWN
import Derived.Test.YtnengolkenbhoabWFootNe
import Derived.Test.YtnengolkenbhoabWAt
import Derived.Test.YtnengolkenbhoabWEqStruct
import Derived.Test.YtnengolkenbhoabWRepsOne
import Derived.Test.YtnengolkenbhoabWInv
import Derived.Test.YtnengolkenbhoabWInvWords
import Derived.Test.YtnengolkenbhoabWGuard
import Derived.Test.YtnengolkenbhoabWNEv
import Derived.Test.YtnengolkenbhoabWMore
import Derived.Test.YtnengolkenbhoabWXWords
namespace Go.Proofs.Ytnengolkenbhoab.PNumGets
open Go.RowKit Go.Proofs.YtnengolkenbhoabW.PrintWords Go.Proofs.YtnengolkenbhoabW.PrintLast Go.Proofs.YtnengolkenbhoabW.PrintMore
attribute [local go_sem] max2_int min2_int max_two min_two max_three min_three max_four min_four   -- for this text's walks alone
set_option linter.unusedVariables false
set_option linter.unusedSimpArgs false



def errW : Option Int → Value
  | none => .nilIface
  | some c => .iface 0 (.int .i64 c)
theorem errW_none : errW none = .nilIface := rfl
theorem errW_some (c : Int) : errW (some c) = .iface 0 (.int .i64 c) := rfl

theorem info5 : (Try.prog.info? 5).map (fun i => (i.zero, i.size, i.bytes)) = some (some (.int .u8 0), 1, 1) := by kernel_rfl
-- the values' own types

end Go.Proofs.Ytnengolkenbhoab.PNumGets
