/- Words that the printed proofs of this seat use: those of the kit's print that are needed here. -/
import Derived.Test.YtgldhfpcdgbhhaaVInv
import Derived.Test.YtgldhfpcdgbhhaaVFootNe
namespace Go.Proofs.YtgldhfpcdgbhhaaW.PrintWords
open Go.RowKit
end Go.Proofs.YtgldhfpcdgbhhaaW.PrintWords
namespace Go.Proofs.YtgldhfpcdgbhhaaW.PrintLast
section
variable {ops : Array Oper} {a : Act} {o og : Oper} {g : Nat} {t : Tmp} {u : Bool}
end
end Go.Proofs.YtgldhfpcdgbhhaaW.PrintLast
