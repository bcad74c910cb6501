/- What the arguments of ladderbacklaw05_IdentRight read as, and the statement over numbers and lists alone that is left to prove of it. -/
import Derived.Test.YtbhipdngfbemgaaDoorI3
import Derived.Test.YtbhipdngfbemgaaDoorXOpen
namespace Go.Proofs.YtbhipdngfbemgaaDoor.SayIdentRight
open Go.RowKit Go.Proofs.YtbhipdngfbemgaaDoor Go.Proofs.YtbhipdngfbemgaaDoor.I Go.Proofs.YtbhipdngfbemgaaDoorW.PrintWords Go.Proofs.YtbhipdngfbemgaaDoorW.PrintLast
set_option linter.unusedVariables false
def Pure : Prop := ∀ (a0 : ByteArray), a0.size ≤ 140737488351232 → ∃ k, ladderbacklaw05_IdentRight.f k a0 = some true
end Go.Proofs.YtbhipdngfbemgaaDoor.SayIdentRight
