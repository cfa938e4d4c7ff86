import Derived.Test.YtcpiohklljppaaaAISem18
import Derived.Test.YtcpiohklljppaaaAID
namespace Go.Proofs.YtcpiohklljppaaaW.AI.D
open Go Go.Proofs.YtcpiohklljppaaaW.AI Go.RowKit
set_option maxRecDepth 100000
def MPU : List (Nat × MFunc) := MPL.filter fun p => p.1 != 6 && p.1 != 8
def C : Cfg := { mp := fun f => MPU.lookup f, gl := [⟨.dead, .vals []⟩, ⟨.dead, .vals []⟩], prim := fun _ _ _ => none }
theorem follows : X.P.follows .mixedOrders = true := by decide +kernel
theorem all_chk : (MPU.all fun p => chkFunc X p.1 p.2) = true := by decide +kernel
theorem mp_chk (f : Nat) (m : MFunc) (h : MPU.lookup f = some m) : chkFunc X f m = true := List.all_eq_true.1 all_chk (f, m) (lookup_mem h)
theorem known_true : isTrue (acall C 60 7 [] C.gl) = true := by kernel_rfl
theorem known_walk (w : World) : Calls Go.Proofs.Try.prog 7 #[] w fun e w' => e = .returned (.bool true) ∧ Below w.heap.size w w' := calls_closed (X := X) C follows rfl rfl mp_chk rfl known_true w
end Go.Proofs.YtcpiohklljppaaaW.AI.D
