import Derived.Test.YtdpbbagllhfjbaaDoorAICards
import Derived.Test.YtdpbbagllhfjbaaDoorAIFchk
import Derived.Test.YtdpbbagllhfjbaaDoorAIFP
import Derived.MakeChecks
namespace Go.Proofs.YtdpbbagllhfjbaaDoorW.AI.F
open Go Go.Proofs.YtdpbbagllhfjbaaDoorW.AI Go.RowKit Go.Proofs
set_option maxRecDepth 100000
def sizesL : List Int := [1, 1, 1, 1, 4, 4, 4, 8, 8, 8, 8]
def CP : Cfg := { mp := MP, gl := [⟨.dead, .vals []⟩, ⟨.ext, .ints .i64 sizesL⟩, ⟨.dead, .vals []⟩, ⟨.dead, .vals []⟩, ⟨.dead, .vals []⟩, ⟨.dead, .vals []⟩], prim := prim }
theorem primOk : PrimOk X CP := ⟨prim_steady, fun _ _ => prim_sound⟩
theorem sizes_block {W : World} {L : List (String × DataW Unit)} (h : laidMet Go.Proofs.Tryd.prog (("ephemeris/head.sizes", .agg (sizesL.map fun n => .lit (.int .i64 n))) :: L) W) :
    ∃ arr T fz, W.heap[1]? = some (.cells arr T fz) ∧ (ACells.ints .i64 sizesL).len ≤ arr.size ∧ ∀ j v, (ACells.ints .i64 sizesL).get? j = some v → ∃ y, arr[j]? = some y ∧ ∀ ρ, R ρ v y := by
  obtain ⟨ps, ⟨g0, t0, cs0, f0, p0, q0, hg0, ht0, hv0, hd0, _, _⟩, _, _⟩ := h
  have eg : Go.Proofs.Tryd.prog.globalNamed "ephemeris/head.sizes" = some 1 := by kernel_rfl
  have et : (Go.Proofs.Tryd.prog.globals[1]?).map (·.type) = some 122 := by kernel_rfl
  obtain rfl := Option.some.inj (eg.symm.trans hg0)
  obtain rfl := Option.some.inj (et.symm.trans ht0)
  exact laid_ints (l := sizesL) (k := .i64) (e := 3) eg hv0 (by kernel_rfl) (by kernel_rfl) (by kernel_rfl) (by kernel_rfl) hd0
theorem laid_sizes {W : World} (h : laidMetH Go.Proofs.Tryd.prog [("ephemeris/head.sizes", .agg (sizesL.map fun n => .lit (.int .i64 n)))] W) : Laid CP.gl X.gid W := by
  rw [MakeChecks.laidMetH_plain _ _ _ (by kernel_rfl)] at h
  have hz := sizes_block h
  intro i x hi
  have hi0 : x.st = .dead ∨ (i = 1 ∧ x = ⟨.ext, .ints .i64 sizesL⟩) := by
    match i, hi with
    | 0, hi => simp [CP] at hi; rw [← hi]; exact Or.inl rfl
    | 1, hi => simp [CP] at hi; exact Or.inr ⟨rfl, hi.symm⟩
    | 2, hi => simp [CP] at hi; rw [← hi]; exact Or.inl rfl
    | 3, hi => simp [CP] at hi; rw [← hi]; exact Or.inl rfl
    | 4, hi => simp [CP] at hi; rw [← hi]; exact Or.inl rfl
    | 5, hi => simp [CP] at hi; rw [← hi]; exact Or.inl rfl
    | i + 6, hi => simp [CP] at hi
  rcases hi0 with hi0 | ⟨rfl, rfl⟩
  · exact Or.inl hi0
  · exact Or.inr ⟨rfl, rfl, hz⟩
end Go.Proofs.YtdpbbagllhfjbaaDoorW.AI.F
