/- What functions answer, in plain Lean. -/
import Derived.Test.YtdadkiofenhnbaaGreatS1
set_option linter.all false
set_option maxRecDepth 100000
set_option maxHeartbeats 4000000
namespace Go.Proofs.YtdadkiofenhnbaaGreat
open Go.RowKit
noncomputable section
def yrN:=yX9 112 [none] [.t 4] Tryz.func254
end
end Go.Proofs.YtdadkiofenhnbaaGreat
