import Derived.Test.YtdbdmnhnijpdcaaDoorAICbase
namespace Go.Proofs.YtdbdmnhnijpdcaaDoorW.AI.C
open Go Go.Proofs.YtdbdmnhnijpdcaaDoorW.AI Go.RowKit
set_option maxRecDepth 100000
theorem packet_true : isTrue (acall CP 80 11 [] CP.gl) = true := by kernel_rfl
theorem packet_walk (w : World) (hl : Laid CP.gl X.gid w) : Calls Go.Proofs.Tryd.prog 11 #[] w fun e w' => e = .returned (.bool true) ∧ Below w.heap.size w w' := closed_laid (X := X) CP follows rfl mp_chk primOk packet_true w hl
end Go.Proofs.YtdbdmnhnijpdcaaDoorW.AI.C
