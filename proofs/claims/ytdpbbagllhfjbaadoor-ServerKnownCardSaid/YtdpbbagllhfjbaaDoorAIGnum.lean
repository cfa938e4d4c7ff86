import Derived.Test.YtdpbbagllhfjbaaDoorAIGextD
namespace Go.Proofs.YtdpbbagllhfjbaaDoorW.AI.G
open Go Go.Proofs.YtdpbbagllhfjbaaDoorW.AI Go.Proofs.YtdpbbagllhfjbaaDoorW.AI.Oct
set_option maxRecDepth 100000
set_option linter.unusedSimpArgs false
set_option linter.unusedVariables false
set_option linter.unusedSectionVars false
set_option maxHeartbeats 1000000
end Go.Proofs.YtdpbbagllhfjbaaDoorW.AI.G
