-- Written by a program of this session (a scratch copy of the print, with one rule more)
import Derived.Test.YtajgngijmmkemaaProg
import Derived.Below
import Derived.Deep.Draws
import Derived.Deep.AppendLies
import Derived.Maps.AppendAt
import Derived.OwnWalk
import Derived.Laws.BytesArg
import Derived.Laws.MakeOwn
import Derived.Laws.OwnMore
import Derived.Deep.OwnRows
import Derived.Tactics
import Derived.Lib.ConvBytes
import Derived.Laws.Slices
import Derived.WalkKit
import Derived.KernelRfl
import Derived.RowKit3
import Derived.Deep.LoopGhost
import Derived.Deep.QuietTactic
import Derived.BigQuiet
import Derived.WideLaws
import Derived.Deep.DeepCutAuto
import Derived.Deep.CutBlock
import Derived.Deep.RegionHeld3
import Derived.Laws.Rows
import Derived.Lib.AppendStr
import Derived.ArgAppend
import Derived.Laws.IdiomCopy
import Derived.OrdersHeld
import Derived.Laws.BitsLemmas
import Derived.RowKit
import Derived.Test.YtajgngijmmkemaaWWords
import Derived.Test.YtajgngijmmkemaaWLast
import Derived.Test.YtajgngijmmkemaaWTab
import Derived.Test.YtajgngijmmkemaaWFour
import Derived.Test.YtajgngijmmkemaaWQPut
import Derived.Test.YtajgngijmmkemaaWApart
import Derived.Test.YtajgngijmmkemaaWArr
import Derived.Test.YtajgngijmmkemaaWZeros
import Derived.Test.YtajgngijmmkemaaWFoot
import Derived.Test.YtajgngijmmkemaaWKept
import Derived.Test.YtajgngijmmkemaaWShare
import Derived.Test.YtajgngijmmkemaaWN
import Derived.Test.YtajgngijmmkemaaWFootNe
import Derived.Test.YtajgngijmmkemaaWAt
import Derived.Test.YtajgngijmmkemaaWEqStruct
import Derived.Test.YtajgngijmmkemaaWRepsOne
import Derived.Test.YtajgngijmmkemaaWInv
import Derived.Test.YtajgngijmmkemaaWInvWords
import Derived.Test.YtajgngijmmkemaaWGuard
import Derived.Test.YtajgngijmmkemaaWNEv
import Derived.Test.YtajgngijmmkemaaWMore
namespace Go.Proofs.Ytajgngijmmkemaa.PSumParts
open Go.RowKit Go.Proofs.YtajgngijmmkemaaW.PrintWords Go.Proofs.YtajgngijmmkemaaW.PrintLast Go.Proofs.YtajgngijmmkemaaW.PrintMore
attribute [local go_sem] max2_int min2_int max_two min_two max_three min_three max_four min_four   -- for this text's walks alone
set_option linter.unusedVariables false
set_option linter.unusedSimpArgs false



def errW : Option Int → Value
  | none => .nilIface
  | some c => .iface 0 (.int .i64 c)
theorem errW_none : errW none = .nilIface := rfl
theorem errW_some (c : Int) : errW (some c) = .iface 0 (.int .i64 c) := rfl

-- the values' own types

end Go.Proofs.Ytajgngijmmkemaa.PSumParts
