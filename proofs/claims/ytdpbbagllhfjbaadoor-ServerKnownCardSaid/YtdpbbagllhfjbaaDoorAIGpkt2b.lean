import Derived.Test.YtdpbbagllhfjbaaDoorAIGpkt2
namespace Go.Proofs.YtdpbbagllhfjbaaDoorW.AI.G
open Go Go.Proofs.YtdpbbagllhfjbaaDoorW.AI Go.Proofs.YtdpbbagllhfjbaaDoorW.AI.Oct
set_option maxRecDepth 100000
set_option linter.unusedSimpArgs false
set_option linter.unusedVariables false
set_option linter.unusedSectionVars false
section
variable {P Q : Pk} {x y : AV} {F G : List (Int × List Int)} {h : AHeap}
end
end Go.Proofs.YtdpbbagllhfjbaaDoorW.AI.G
