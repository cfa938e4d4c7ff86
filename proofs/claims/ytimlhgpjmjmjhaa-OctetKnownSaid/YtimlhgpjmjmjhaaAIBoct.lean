import Derived.Test.YtimlhgpjmjmjhaaAIPsound
import Derived.Test.YtimlhgpjmjmjhaaAIBknown
namespace Go.Proofs.YtimlhgpjmjmjhaaW.AI.B
open Go Go.Proofs.YtimlhgpjmjmjhaaW.AI Go.RowKit
set_option maxRecDepth 100000
def CP : Cfg := { mp := MP, gl := [], prim := prim }
theorem octet_true : isTrue (acall CP 60 12 [] []) = true := by kernel_rfl
theorem octet_walk (w : World) : Calls Go.Proofs.Try.prog 12 #[] w fun e w' => e = .returned (.bool true) ∧ Below w.heap.size w w' := calls_closed (X := X) CP follows rfl rfl mp_chk ⟨prim_steady, fun _ _ => prim_sound⟩ octet_true w
end Go.Proofs.YtimlhgpjmjmjhaaW.AI.B
