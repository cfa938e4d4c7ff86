import Derived.Test.YtpmibaeajmfdpaaDoorAIHbaseK
namespace Go.Proofs.YtpmibaeajmfdpaaDoorW.AI.H
open Go Go.Proofs.YtpmibaeajmfdpaaDoorW.AI Go.RowKit
set_option maxRecDepth 100000
theorem head_true : isTrue (acall CP 80 7 [] CP.gl) = true := by kernel_rfl
theorem head_walk (w : World) (hl : Laid CP.gl X.gid w) : Calls Go.Proofs.Tryd.prog 7 #[] w fun e w' => e = .returned (.bool true) ∧ Below w.heap.size w w' := closed_laid (X := X) CP follows rfl mp_chk primOk head_true w hl
end Go.Proofs.YtpmibaeajmfdpaaDoorW.AI.H
