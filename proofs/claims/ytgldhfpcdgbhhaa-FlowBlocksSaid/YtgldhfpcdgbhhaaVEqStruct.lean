/- Words that the printed proofs of this seat use: those of the kit's print that are needed here. -/
import Derived.Test.YtgldhfpcdgbhhaaVWords
import Derived.Laws.StructEq
namespace Go.Proofs.YtgldhfpcdgbhhaaW.PrintWords
open Go.RowKit
section
variable {P : Program} {d : Nat} {xs ys : Array Value} {f : Field} {fs : List Field} {a b : Value} {r s : Bool} {w : World}
end
end Go.Proofs.YtgldhfpcdgbhhaaW.PrintWords
