import Derived.Test.YtdpbbagllhfjbaaDoorAISem18
import Derived.Test.YtdpbbagllhfjbaaDoorAIG
namespace Go.Proofs.YtdpbbagllhfjbaaDoorW.AI.G
open Go Go.Proofs.YtdpbbagllhfjbaaDoorW.AI
set_option maxRecDepth 100000
theorem follows : X.P.follows .mixedOrders = true := by decide +kernel
theorem all_chk : (MPL.all fun p => chkFunc X p.1 p.2) = true := by decide +kernel
theorem mp_chk (f : Nat) (m : MFunc) (h : MP f = some m) : chkFunc X f m = true := List.all_eq_true.1 all_chk (f, m) (lookup_mem h)
end Go.Proofs.YtdpbbagllhfjbaaDoorW.AI.G
