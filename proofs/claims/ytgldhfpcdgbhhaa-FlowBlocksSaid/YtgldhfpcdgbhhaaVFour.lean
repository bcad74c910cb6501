/- Words that the printed proofs of this seat use: those of the kit's print that are needed here. -/
import Derived.Test.YtgldhfpcdgbhhaaVTab
namespace Go.Proofs.YtgldhfpcdgbhhaaW.PrintLast
section
variable {P : Program} {ops : Array Oper} {Q : Exit → Act → World → Prop} {md : Region.Mode} {S : World → Prop} {ds : List Nat} {T : Bool × List (List Nat × List Nat)}
end
end Go.Proofs.YtgldhfpcdgbhhaaW.PrintLast
