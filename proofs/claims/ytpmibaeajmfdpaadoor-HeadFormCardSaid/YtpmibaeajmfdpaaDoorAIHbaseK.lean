import Derived.Test.YtpmibaeajmfdpaaDoorAICards
import Derived.Test.YtpmibaeajmfdpaaDoorAIHchk
import Derived.Test.YtpmibaeajmfdpaaDoorAIHP
import Derived.MakeChecks
namespace Go.Proofs.YtpmibaeajmfdpaaDoorW.AI.H
open Go Go.Proofs.YtpmibaeajmfdpaaDoorW.AI Go.RowKit
set_option maxRecDepth 100000
def sizesL : List Int := [1, 1, 1, 1, 4, 4, 4, 8, 8, 8, 8]
def CP : Cfg := { mp := MP, gl := [⟨.ext, .ints .i64 sizesL⟩], prim := prim }
theorem primOk : PrimOk X CP := ⟨prim_steady, fun _ _ => prim_sound⟩
theorem laid_sizes {W : World} (h : laidMetH Go.Proofs.Tryd.prog [("ephemeris/head.sizes", .agg (sizesL.map fun n => .lit (.int .i64 n)))] W) : Laid CP.gl X.gid W := by
  rw [MakeChecks.laidMetH_plain _ _ _ (by kernel_rfl)] at h
  obtain ⟨ps, ⟨g0, t0, cs0, f0, p0, q0, hg0, ht0, hv0, hd0, _, _⟩, _, _⟩ := h
  have eg : Go.Proofs.Tryd.prog.globalNamed "ephemeris/head.sizes" = some 0 := by kernel_rfl
  have et : (Go.Proofs.Tryd.prog.globals[0]?).map (·.type) = some 51 := by kernel_rfl
  obtain rfl := Option.some.inj (eg.symm.trans hg0)
  obtain rfl := Option.some.inj (et.symm.trans ht0)
  intro i x hi
  have hi0 : i = 0 ∧ x = ⟨.ext, .ints .i64 sizesL⟩ := by
    cases i with
    | zero => simp [CP] at hi; exact ⟨rfl, hi.symm⟩
    | succ i => simp [CP] at hi
  obtain ⟨rfl, rfl⟩ := hi0
  exact Or.inr ⟨rfl, rfl, laid_ints (l := sizesL) (k := .i64) (e := 3) eg hv0 (by kernel_rfl) (by kernel_rfl) (by kernel_rfl) (by kernel_rfl) hd0⟩
end Go.Proofs.YtpmibaeajmfdpaaDoorW.AI.H
