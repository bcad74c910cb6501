/- Words that the printed proofs of this seat use: those of the kit's print that are needed here. -/
import Derived.SizedLaws
import Derived.ChangeSlices
namespace Go.Proofs.YtgldhfpcdgbhhaaW.PrintWords
open Go.ChangeShapes Go.WideShapes
end Go.Proofs.YtgldhfpcdgbhhaaW.PrintWords
