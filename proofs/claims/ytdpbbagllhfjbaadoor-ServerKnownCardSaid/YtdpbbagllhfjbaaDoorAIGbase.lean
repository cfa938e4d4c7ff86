import Derived.Test.YtdpbbagllhfjbaaDoorAICards
import Derived.Test.YtdpbbagllhfjbaaDoorAIGchk
import Derived.Test.YtdpbbagllhfjbaaDoorAIGP
import Derived.MakeChecks
import Derived.LaidSub
namespace Go.Proofs.YtdpbbagllhfjbaaDoorW.AI.G
open Go Go.Proofs.YtdpbbagllhfjbaaDoorW.AI Go.RowKit Go.Proofs
set_option maxRecDepth 100000
def sizesL : List Int := [1, 1, 1, 1, 4, 4, 4, 8, 8, 8, 8]
def testsD : List (Int × List UInt8) := [(22, [101, 112, 104, 101, 109, 101, 114, 105, 115, 47, 115, 97, 110, 101, 46, 116, 101, 115, 116, 115, 36, 49]), (23, [101, 112, 104, 101, 109, 101, 114, 105, 115, 47, 115, 97, 110, 101, 46, 116, 101, 115, 116, 115, 36, 50]), (24, [101, 112, 104, 101, 109, 101, 114, 105, 115, 47, 115, 97, 110, 101, 46, 116, 101, 115, 116, 115, 36, 51]), (24, [101, 112, 104, 101, 109, 101, 114, 105, 115, 47, 115, 97, 110, 101, 46, 116, 101, 115, 116, 115, 36, 52]), (24, [101, 112, 104, 101, 109, 101, 114, 105, 115, 47, 115, 97, 110, 101, 46, 116, 101, 115, 116, 115, 36, 53])]
def testsL : List AV := [.int .i64 22, .fn 150 [], .int .i64 23, .fn 151 [], .int .i64 24, .fn 152 [], .int .i64 24, .fn 153 [], .int .i64 24, .fn 154 []]
def CP : Cfg := { mp := MP, gl := [⟨.ext, .vals testsL⟩, ⟨.ext, .ints .i64 sizesL⟩, ⟨.dead, .vals []⟩, ⟨.dead, .vals []⟩, ⟨.dead, .vals []⟩, ⟨.dead, .vals []⟩], prim := prim }
theorem primOk : PrimOk X CP := ⟨prim_steady, fun _ _ => prim_sound⟩
def tests1 (p : Int × List UInt8) : DataW Unit := .agg [.lit (.int .i64 p.1), .iface "func" (.lit (.string p.2))]
theorem tests_block {W : World} {L : List (String × DataW Unit)} (h : laidMetH Go.Proofs.Tryd.prog L W) (hm : ("ephemeris/sane.tests", DataW.iface "func table" (.agg (testsD.map tests1))) ∈ L) :
    ∃ arr T fz, W.heap[0]? = some (.cells arr T fz) ∧ (ACells.vals testsL).len ≤ arr.size ∧ ∀ j v, (ACells.vals testsL).get? j = some v → ∃ y, arr[j]? = some y ∧ ∀ ρ, R ρ v y := by
  obtain ⟨g, t, cs, fuel, p, hg, ht, hv, hd⟩ := h.funcs hm
  have eg : Go.Proofs.Tryd.prog.globalNamed "ephemeris/sane.tests" = some 0 := by kernel_rfl
  have et : (Go.Proofs.Tryd.prog.globals[0]?).map (·.type) = some 95 := by kernel_rfl
  obtain rfl := Option.some.inj (eg.symm.trans hg)
  obtain rfl := Option.some.inj (et.symm.trans ht)
  obtain ⟨T, fz, hb⟩ := var_block hg hv
  have hs : ∃ f0 f1 : Field, Go.Proofs.Tryd.prog.underlying 94 = some (.struct #[f0, f1]) ∧ (f0.type = 30 ∧ f0.offset = 0) ∧ (f1.type = 92 ∧ f1.offset = 1) := ⟨_, _, Tryd.underlying94, ⟨rfl, rfl⟩, ⟨rfl, rfl⟩⟩
  obtain ⟨f0, f1, hs, h0, h1⟩ := hs
  have hF : ∃ ps rs va, Go.Proofs.Tryd.prog.underlying 92 = some (.func ps rs va) := ⟨_, _, _, Tryd.underlying92⟩
  obtain ⟨ps, rs, va, hF⟩ := hF
  have hcs : cs.toList = [[Value.int .i64 22, .func (.func 150) #[] #[]], [.int .i64 23, .func (.func 151) #[] #[]], [.int .i64 24, .func (.func 152) #[] #[]], [.int .i64 24, .func (.func 153) #[] #[]], [.int .i64 24, .func (.func 154) #[] #[]]].flatten := by
    refine tests_of_trod (l := testsD) (tS := 94) (g := fun _ _ _ => True) (by kernel_rfl) (by kernel_rfl) (by kernel_rfl) hd _ rfl ?_
    intro i hi m c q hc
    have cE : Go.Proofs.Tryd.prog.cellsOf 30 = 1 := by kernel_rfl
    have cF : Go.Proofs.Tryd.prog.cellsOf 92 = 1 := by kernel_rfl
    have cS : Go.Proofs.Tryd.prog.cellsOf 94 = 2 := by kernel_rfl
    have hE : Go.Proofs.Tryd.prog.underlying 30 = some (.int .i64) := by kernel_rfl
    match i, hi, hc with
    | 0, _, hc => rw [test_cell (F := 150) hs h0 h1 hE hF cS cE cF (by kernel_rfl) hc]; rfl
    | 1, _, hc => rw [test_cell (F := 151) hs h0 h1 hE hF cS cE cF (by kernel_rfl) hc]; rfl
    | 2, _, hc => rw [test_cell (F := 152) hs h0 h1 hE hF cS cE cF (by kernel_rfl) hc]; rfl
    | 3, _, hc => rw [test_cell (F := 153) hs h0 h1 hE hF cS cE cF (by kernel_rfl) hc]; rfl
    | 4, _, hc => rw [test_cell (F := 154) hs h0 h1 hE hF cS cE cF (by kernel_rfl) hc]; rfl
  have hrs : Rs ⟨fun _ => 0, fun _ => 0, fun _ => 0⟩ testsL cs.toList ∧ ∀ ρ, Rs ρ testsL cs.toList := by
    have : ∀ ρ, Rs ρ testsL cs.toList := by
      intro ρ
      rw [hcs]
      simp only [testsL, List.flatten_cons, List.flatten_nil, List.cons_append, List.nil_append, Rs, R]
      refine ⟨_, _, rfl, rfl, _, _, rfl, ⟨#[], rfl, rfl⟩, _, _, rfl, rfl, _, _, rfl, ⟨#[], rfl, rfl⟩, _, _, rfl, rfl, _, _, rfl, ⟨#[], rfl, rfl⟩, _, _, rfl, rfl, _, _, rfl, ⟨#[], rfl, rfl⟩, _, _, rfl, rfl, _, _, rfl, ⟨#[], rfl, rfl⟩, rfl⟩
    exact ⟨this _, this⟩
  have hlen := Rs_length hrs.1
  refine ⟨cs, T, fz, hb, by show testsL.length ≤ _; rw [hlen]; simp, fun j v hj => ?_⟩
  obtain ⟨y, hy, _⟩ := Rs_get hrs.1 (show testsL[j]? = some v from hj)
  refine ⟨y, by simpa using hy, fun ρ => ?_⟩
  obtain ⟨y', hy', hr'⟩ := Rs_get (hrs.2 ρ) (show testsL[j]? = some v from hj)
  rw [hy] at hy'; cases hy'
  exact hr'
theorem sizes_block {W : World} {L : List (String × DataW Unit)} (h : laidMet Go.Proofs.Tryd.prog (("ephemeris/head.sizes", .agg (sizesL.map fun n => .lit (.int .i64 n))) :: L) W) :
    ∃ arr T fz, W.heap[1]? = some (.cells arr T fz) ∧ (ACells.ints .i64 sizesL).len ≤ arr.size ∧ ∀ j v, (ACells.ints .i64 sizesL).get? j = some v → ∃ y, arr[j]? = some y ∧ ∀ ρ, R ρ v y := by
  obtain ⟨ps, ⟨g0, t0, cs0, f0, p0, q0, hg0, ht0, hv0, hd0, _, _⟩, _, _⟩ := h
  have eg : Go.Proofs.Tryd.prog.globalNamed "ephemeris/head.sizes" = some 1 := by kernel_rfl
  have et : (Go.Proofs.Tryd.prog.globals[1]?).map (·.type) = some 122 := by kernel_rfl
  obtain rfl := Option.some.inj (eg.symm.trans hg0)
  obtain rfl := Option.some.inj (et.symm.trans ht0)
  exact laid_ints (l := sizesL) (k := .i64) (e := 3) eg hv0 (by kernel_rfl) (by kernel_rfl) (by kernel_rfl) (by kernel_rfl) hd0
theorem laid_any {W : World} {L : List (String × DataW Unit)} (h : laidMetH Go.Proofs.Tryd.prog L W) (hm : ("ephemeris/sane.tests", DataW.iface "func table" (.agg (testsD.map tests1))) ∈ L)
    (hf : L.filter (fun x => x.1 == "ephemeris/head.sizes") = [("ephemeris/head.sizes", .agg (sizesL.map fun n => .lit (.int .i64 n)))]) : Laid CP.gl X.gid W := by
  have ht := tests_block h hm
  have h2 := h.filter (fun x => x.1 == "ephemeris/head.sizes")
  rw [hf, MakeChecks.laidMetH_plain _ _ _ (by kernel_rfl)] at h2
  have hz := sizes_block h2
  intro i x hi
  have hi0 : x.st = .dead ∨ (i = 0 ∧ x = ⟨.ext, .vals testsL⟩) ∨ (i = 1 ∧ x = ⟨.ext, .ints .i64 sizesL⟩) := by
    match i, hi with
    | 0, hi => simp [CP] at hi; exact Or.inr (Or.inl ⟨rfl, hi.symm⟩)
    | 1, hi => simp [CP] at hi; exact Or.inr (Or.inr ⟨rfl, hi.symm⟩)
    | 2, hi => simp [CP] at hi; rw [← hi]; exact Or.inl rfl
    | 3, hi => simp [CP] at hi; rw [← hi]; exact Or.inl rfl
    | 4, hi => simp [CP] at hi; rw [← hi]; exact Or.inl rfl
    | 5, hi => simp [CP] at hi; rw [← hi]; exact Or.inl rfl
    | i + 6, hi => simp [CP] at hi
  rcases hi0 with hi0 | ⟨rfl, rfl⟩ | ⟨rfl, rfl⟩
  · exact Or.inl hi0
  · exact Or.inr ⟨rfl, rfl, ht⟩
  · exact Or.inr ⟨rfl, rfl, hz⟩
theorem laid_both {W : World} (h : laidMetH Go.Proofs.Tryd.prog [("ephemeris/head.sizes", .agg (sizesL.map fun n => .lit (.int .i64 n))), ("ephemeris/sane.tests", DataW.iface "func table" (.agg (testsD.map tests1)))] W) : Laid CP.gl X.gid W :=
  laid_any h (by simp) (by kernel_rfl)
theorem laid_four {W : World} {a b : String × DataW Unit} (h : laidMetH Go.Proofs.Tryd.prog [a, ("ephemeris/head.sizes", .agg (sizesL.map fun n => .lit (.int .i64 n))), ("ephemeris/sane.tests", DataW.iface "func table" (.agg (testsD.map tests1))), b] W)
    (hf : [a, ("ephemeris/head.sizes", .agg (sizesL.map fun n => .lit (.int .i64 n))), ("ephemeris/sane.tests", DataW.iface "func table" (.agg (testsD.map tests1))), b].filter (fun x => x.1 == "ephemeris/head.sizes") = [("ephemeris/head.sizes", .agg (sizesL.map fun n => .lit (.int .i64 n)))] := by kernel_rfl) : Laid CP.gl X.gid W :=
  laid_any h (by simp) hf
end Go.Proofs.YtdpbbagllhfjbaaDoorW.AI.G
