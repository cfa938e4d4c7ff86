import Derived.Test.YtimlhgpjmjmjhaaAISem18
import Derived.Test.YtimlhgpjmjmjhaaAIB
namespace Go.Proofs.YtimlhgpjmjmjhaaW.AI.B
open Go Go.Proofs.YtimlhgpjmjmjhaaW.AI Go.RowKit
set_option maxRecDepth 100000
def C : Cfg := { mp := MP, gl := [], prim := fun _ _ _ => none }
theorem follows : X.P.follows .mixedOrders = true := by decide +kernel
theorem all_chk : (MPL.all fun p => chkFunc X p.1 p.2) = true := by decide +kernel
theorem mp_chk (f : Nat) (m : MFunc) (h : MP f = some m) : chkFunc X f m = true := List.all_eq_true.1 all_chk (f, m) (lookup_mem h)
theorem known_true : isTrue (acall C 60 7 [] []) = true := by kernel_rfl
theorem known_walk (w : World) : Calls Go.Proofs.Try.prog 7 #[] w fun e w' => e = .returned (.bool true) ∧ Below w.heap.size w w' := calls_closed (X := X) C follows rfl rfl mp_chk (noPrim rfl) known_true w
end Go.Proofs.YtimlhgpjmjmjhaaW.AI.B
