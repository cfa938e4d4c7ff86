import Derived.Test.YtpmibaeajmfdpaaAIAbaseO
namespace Go.Proofs.YtpmibaeajmfdpaaW.AI.A
open Go Go.Proofs.YtpmibaeajmfdpaaW.AI Go.RowKit
set_option maxRecDepth 100000
theorem ext_true : isTrue (acall CP 80 5 [] CP.gl) = true := by kernel_rfl
theorem ext_walk (w : World) : Calls Go.Proofs.Try.prog 5 #[] w fun e w' => e = .returned (.bool true) ∧ Below w.heap.size w w' := calls_closed (X := X) CP follows rfl rfl mp_chk primOk ext_true w
end Go.Proofs.YtpmibaeajmfdpaaW.AI.A
