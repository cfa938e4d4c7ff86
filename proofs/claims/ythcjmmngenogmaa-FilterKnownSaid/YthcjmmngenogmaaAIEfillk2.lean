import Derived.Test.YthcjmmngenogmaaAIEfillk
namespace Go.Proofs.YthcjmmngenogmaaW.AI.E
open Go Go.Proofs.YthcjmmngenogmaaW.AI Go.RowKit
set_option maxRecDepth 100000
set_option linter.unusedVariables false
theorem fknown_true : isTrue (acall CK 80 12 [] CK.gl) = true := by kernel_rfl
theorem fknown_walk (w : World) : Calls Go.Proofs.Try.prog 12 #[] w fun e w' => e = .returned (.bool true) ∧ Below w.heap.size w w' := calls_closedX (X := X) CK follows rfl rfl mp_chk primOkK rfl fknown_true w
end Go.Proofs.YthcjmmngenogmaaW.AI.E
