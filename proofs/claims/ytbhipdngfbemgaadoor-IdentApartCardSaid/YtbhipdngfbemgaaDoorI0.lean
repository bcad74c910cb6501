/- For each Go function that is named below: the plain Lean function that it computes, and a proof that the machine's call comes to just that wherever that function has a value. Written by this session's program (wip/print2.py) over the kit's print. -/
import Derived.Test.YtbhipdngfbemgaaDoorProg
import Derived.Below
import Derived.Deep.Draws
import Derived.Deep.AppendLies
import Derived.Maps.AppendAt
import Derived.OwnWalk
import Derived.Laws.BytesArg
import Derived.Laws.MakeOwn
import Derived.Laws.OwnMore
import Derived.Deep.OwnRows
import Derived.Tactics
import Derived.Lib.ConvBytes
import Derived.Laws.Slices
import Derived.WalkKit
import Derived.KernelRfl
import Derived.RowKit3
import Derived.Deep.LoopGhost
import Derived.Deep.QuietTactic
import Derived.BigQuiet
import Derived.WideLaws
import Derived.Deep.DeepCutAuto
import Derived.Deep.CutBlock
import Derived.Deep.RegionHeld3
import Derived.Laws.Rows
import Derived.Lib.AppendStr
import Derived.ArgAppend
import Derived.Laws.IdiomCopy
import Derived.OrdersHeld
import Derived.Laws.BitsLemmas
import Derived.RowKit
import Derived.WalkMore
import Derived.Test.YtbhipdngfbemgaaDoorXSlot
import Derived.Test.YtbhipdngfbemgaaDoorXUniq
import Derived.Test.YtbhipdngfbemgaaDoorXClean
import Derived.Test.YtbhipdngfbemgaaDoorIdShelf
import Derived.WalkSpells
import Derived.Test.YtbhipdngfbemgaaDoorVWords
import Derived.Test.YtbhipdngfbemgaaDoorVLast
import Derived.Test.YtbhipdngfbemgaaDoorVTab
import Derived.Test.YtbhipdngfbemgaaDoorVFour
import Derived.Test.YtbhipdngfbemgaaDoorVQPut
import Derived.Test.YtbhipdngfbemgaaDoorVApart
import Derived.Test.YtbhipdngfbemgaaDoorVArr
import Derived.Test.YtbhipdngfbemgaaDoorVZeros
import Derived.Test.YtbhipdngfbemgaaDoorVFoot
import Derived.Test.YtbhipdngfbemgaaDoorVKept
import Derived.Test.YtbhipdngfbemgaaDoorVShare
import Derived.Test.YtbhipdngfbemgaaDoorVN
import Derived.Test.YtbhipdngfbemgaaDoorVFootNe
import Derived.Test.YtbhipdngfbemgaaDoorVAt
import Derived.Test.YtbhipdngfbemgaaDoorVEqStruct
import Derived.Test.YtbhipdngfbemgaaDoorVRepsOne
import Derived.Test.YtbhipdngfbemgaaDoorVInv
import Derived.Test.YtbhipdngfbemgaaDoorVInvWords
import Derived.Test.YtbhipdngfbemgaaDoorVGuard
import Derived.Test.YtbhipdngfbemgaaDoorVNEv
import Derived.Test.YtbhipdngfbemgaaDoorVMore
namespace Go.Proofs.YtbhipdngfbemgaaDoor.I
open Go.RowKit Go.Proofs.YtbhipdngfbemgaaDoorW.PrintWords Go.Proofs.YtbhipdngfbemgaaDoorW.PrintLast Go.Proofs.YtbhipdngfbemgaaDoorW.PrintMore
attribute [local go_sem] max2_int min2_int max_two min_two max_three min_three max_four min_four   -- for this text's walks alone
set_option linter.unusedVariables false
set_option linter.unusedSimpArgs false



def errW : Option Int → Value
  | none => .nilIface
  | some c => .iface 0 (.int .i64 c)
theorem errW_none : errW none = .nilIface := rfl
theorem errW_some (c : Int) : errW (some c) = .iface 0 (.int .i64 c) := rfl

theorem info5 : (Tryd.prog.info? 5).map (fun i => (i.zero, i.size, i.bytes)) = some (some (.int .u8 0), 1, 1) := by kernel_rfl
theorem info9 : (Tryd.prog.info? 9).map (fun i => (i.zero, i.size, i.bytes)) = some (some (.string ⟨#[]⟩), 1, 16) := by kernel_rfl
-- the values' own types

end Go.Proofs.YtbhipdngfbemgaaDoor.I
