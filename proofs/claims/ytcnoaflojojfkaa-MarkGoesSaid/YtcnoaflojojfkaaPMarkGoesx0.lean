-- PRINTED BY print.sh 35421559b90ae4d0a3588c463048766b98c2df88dd9212a6774a882060cdf62d: not written by this session
import Derived.Test.YtcnoaflojojfkaaProg
import Derived.Below
import Derived.Deep.Draws
import Derived.Deep.AppendLies
import Derived.Maps.AppendAt
import Derived.OwnWalk
import Derived.Laws.BytesArg
import Derived.Laws.MakeOwn
import Derived.Laws.OwnMore
import Derived.Deep.OwnRows
import Derived.Tactics
import Derived.Lib.ConvBytes
import Derived.Laws.Slices
import Derived.WalkKit
import Derived.KernelRfl
import Derived.RowKit3
import Derived.Deep.LoopGhost
import Derived.Deep.QuietTactic
import Derived.BigQuiet
import Derived.WideLaws
import Derived.Deep.DeepCutAuto
import Derived.Deep.CutBlock
import Derived.Deep.RegionHeld3
import Derived.Laws.Rows
import Derived.Lib.AppendStr
import Derived.ArgAppend
import Derived.Laws.IdiomCopy
import Derived.OrdersHeld
import Derived.Laws.BitsLemmas
import Derived.RowKit
import Derived.Test.YtcnoaflojojfkaaWWords
import Derived.Test.YtcnoaflojojfkaaWLast
import Derived.Test.YtcnoaflojojfkaaWTab
import Derived.Test.YtcnoaflojojfkaaWFour
import Derived.Test.YtcnoaflojojfkaaWQPut
import Derived.Test.YtcnoaflojojfkaaWApart
import Derived.Test.YtcnoaflojojfkaaWArr
import Derived.Test.YtcnoaflojojfkaaWZeros
import Derived.Test.YtcnoaflojojfkaaWFoot
import Derived.Test.YtcnoaflojojfkaaWKept
import Derived.Test.YtcnoaflojojfkaaWShare
import Derived.Test.YtcnoaflojojfkaaWN
import Derived.Test.YtcnoaflojojfkaaWFootNe
import Derived.Test.YtcnoaflojojfkaaWAt
import Derived.Test.YtcnoaflojojfkaaWEqStruct
import Derived.Test.YtcnoaflojojfkaaWRepsOne
import Derived.Test.YtcnoaflojojfkaaWInv
import Derived.Test.YtcnoaflojojfkaaWInvWords
import Derived.Test.YtcnoaflojojfkaaWGuard
import Derived.Test.YtcnoaflojojfkaaWNEv
import Derived.Test.YtcnoaflojojfkaaWMore
namespace Go.Proofs.Ytcnoaflojojfkaa.PMarkGoes
open Go.RowKit Go.Proofs.YtcnoaflojojfkaaW.PrintWords Go.Proofs.YtcnoaflojojfkaaW.PrintLast Go.Proofs.YtcnoaflojojfkaaW.PrintMore
attribute [local go_sem] max2_int min2_int max_two min_two max_three min_three max_four min_four   -- for this text's walks alone
set_option linter.unusedVariables false
set_option linter.unusedSimpArgs false



def errW : Option Int → Value
  | none => .nilIface
  | some c => .iface 0 (.int .i64 c)
theorem errW_none : errW none = .nilIface := rfl
theorem errW_some (c : Int) : errW (some c) = .iface 0 (.int .i64 c) := rfl

-- the values' own types

end Go.Proofs.Ytcnoaflojojfkaa.PMarkGoes
