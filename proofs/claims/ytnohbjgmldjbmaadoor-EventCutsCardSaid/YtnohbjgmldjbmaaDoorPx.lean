/- Functions with the same answers as the Go code, and the walks that show it. Printed by xprint.py. -/
import Derived.Test.YtnohbjgmldjbmaaDoorPx0
import Derived.Test.YtnohbjgmldjbmaaDoorPx1
import Derived.Test.YtnohbjgmldjbmaaDoorPx2
import Derived.Test.YtnohbjgmldjbmaaDoorPx3
import Derived.Test.YtnohbjgmldjbmaaDoorPx4
namespace Go.Proofs.YtnohbjgmldjbmaaDoor.P
open Go.RowKit Go.Proofs.YtnohbjgmldjbmaaDoorW.PrintWords Go.Proofs.YtnohbjgmldjbmaaDoorW.PrintLast Go.Proofs.YtnohbjgmldjbmaaDoorW.PrintMore
attribute [local go_sem] max2_int min2_int max_two min_two max_three min_three max_four min_four   -- for this text's walks alone
set_option linter.unusedVariables false
set_option linter.unusedSimpArgs false

end Go.Proofs.YtnohbjgmldjbmaaDoor.P
