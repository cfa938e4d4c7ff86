import Derived.Test.YtdpbbagllhfjbaaDoorAIFbase
import Derived.Test.YtdpbbagllhfjbaaDoorAIWO
namespace Go.Proofs.YtdpbbagllhfjbaaDoorW.AI.F
open Go Go.Proofs.YtdpbbagllhfjbaaDoorW.AI
set_option maxRecDepth 100000
set_option linter.unusedVariables false
theorem al28 (h : AHeap) : W CP 9 [] h = some (.bool true, h, []) := W_known (n := 100) (fun _ => rfl) (by kernel_rfl) h
end Go.Proofs.YtdpbbagllhfjbaaDoorW.AI.F
