/- Words that the printed proofs of this seat use: those of the kit's print that are needed here. -/
import Derived.Test.YtgldhfpcdgbhhaaVN
namespace Go.Proofs.YtgldhfpcdgbhhaaW.PrintWords
open Go.RowKit
namespace Kd
section
variable {α : Type} {d : Kd α} {W : World} {g n : Nat} {S ok : Nat → Prop} {A : Option Addr} {ad : Addr} {xs : List α}
end
end Kd
end Go.Proofs.YtgldhfpcdgbhhaaW.PrintWords
