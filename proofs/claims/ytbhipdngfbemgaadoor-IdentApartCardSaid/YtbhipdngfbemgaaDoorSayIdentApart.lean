/- What the arguments of ladderbacklaw05_IdentApart read as, and the statement over numbers and lists alone that is left to prove of it. -/
import Derived.Test.YtbhipdngfbemgaaDoorI5
import Derived.Test.YtbhipdngfbemgaaDoorXOpen
namespace Go.Proofs.YtbhipdngfbemgaaDoor.SayIdentApart
open Go.RowKit Go.Proofs.YtbhipdngfbemgaaDoor Go.Proofs.YtbhipdngfbemgaaDoor.I Go.Proofs.YtbhipdngfbemgaaDoorW.PrintWords Go.Proofs.YtbhipdngfbemgaaDoorW.PrintLast
set_option linter.unusedVariables false
def Pure : Prop := ∀ (l0 : List ByteArray), (l0.length * 16 ≤ 140737488351232 ∧ ∀ y ∈ l0, y.size ≤ 140737488351232) → ∃ k, ladderbacklaw05_IdentApart.f k l0 = some true
end Go.Proofs.YtbhipdngfbemgaaDoor.SayIdentApart
