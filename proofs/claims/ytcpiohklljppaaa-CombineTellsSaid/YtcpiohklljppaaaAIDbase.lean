import Derived.Test.YtcpiohklljppaaaAIWO
import Derived.Test.YtcpiohklljppaaaAIDchk
namespace Go.Proofs.YtcpiohklljppaaaW.AI.D
open Go Go.Proofs.YtcpiohklljppaaaW.AI Go.RowKit
set_option maxRecDepth 100000
def CP : Cfg := { mp := MP, gl := [⟨.dead, .vals []⟩, ⟨.dead, .vals []⟩], prim := fun _ _ _ => none }
/-- A law of this seat. -/
theorem law_walk {f n : Nat} {aks : List AK} (hlaw : ∀ (js : AHeap) (avs : List AV), Ext js → TyA (CP.gl ++ js) aks avs → ∃ h' ws, W CP f avs (CP.gl ++ js) = some (.bool true, h', ws)) {ts : List TypeId} (hk : aksOf X.P n ts = some aks)
    {H : Type} {enc : TypeId × Value → H} {w : World} {base : Nat} {args : Array Value} {ds : List (DataW H)} {ps : List MemPlace}
    (ht : DataW.TrodAll enc Go.Proofs.Try.prog w 0 (fun _ => true) true ts args.toList ds ps) (hw : ∀ (j : Nat) t v, ts[j]? = some t → args.toList[j]? = some v → Value.okWide Go.Proofs.Try.prog w .any base t v) :
    Calls Go.Proofs.Try.prog f args w fun e w' => e = .returned (.bool true) ∧ Below w.heap.size w w' :=
  calls_law (X := X) CP follows rfl rfl mp_chk (noPrim rfl) hlaw hk ht hw
end Go.Proofs.YtcpiohklljppaaaW.AI.D
