/- What the arguments of ladderbacklaw34_InterOnce read as, and the statement over numbers and lists alone that is left to prove of it. -/
import Derived.Test.YtgldhfpcdgbhhaaZ5
import Derived.Test.YtgldhfpcdgbhhaaXOpen
namespace Go.Proofs.Ytgldhfpcdgbhhaa.SayInterOnce
open Go.RowKit Go.Proofs.Ytgldhfpcdgbhhaa Go.Proofs.Ytgldhfpcdgbhhaa.Z Go.Proofs.YtgldhfpcdgbhhaaW.PrintWords Go.Proofs.YtgldhfpcdgbhhaaW.PrintLast
set_option linter.unusedVariables false
def Pure : Prop := ∀ (l0 : List (List Int)), (l0.length * 24 ≤ 140737488351232 ∧ ∀ y ∈ l0, (y.length * 8 ≤ 140737488351232 ∧ ∀ yy ∈ y, (Lit.int .i64 yy).wf = true)) → ∃ k, ladderbacklaw34_InterOnce.f k l0 = some true
end Go.Proofs.Ytgldhfpcdgbhhaa.SayInterOnce
