/- For each Go function that is named below: the plain Lean function that it computes, and a proof that the machine's call comes to just that wherever that function has a value. Written by this session's program (wip/print2.py) over the kit's print. -/
import Derived.Test.YtbhipdngfbemgaaDoorI0
import Derived.Test.YtbhipdngfbemgaaDoorI1
import Derived.Test.YtbhipdngfbemgaaDoorI2
import Derived.Test.YtbhipdngfbemgaaDoorI3
import Derived.Test.YtbhipdngfbemgaaDoorI4
import Derived.Test.YtbhipdngfbemgaaDoorI5
namespace Go.Proofs.YtbhipdngfbemgaaDoor.I
open Go.RowKit Go.Proofs.YtbhipdngfbemgaaDoorW.PrintWords Go.Proofs.YtbhipdngfbemgaaDoorW.PrintLast Go.Proofs.YtbhipdngfbemgaaDoorW.PrintMore
attribute [local go_sem] max2_int min2_int max_two min_two max_three min_three max_four min_four   -- for this text's walks alone
set_option linter.unusedVariables false
set_option linter.unusedSimpArgs false

end Go.Proofs.YtbhipdngfbemgaaDoor.I
