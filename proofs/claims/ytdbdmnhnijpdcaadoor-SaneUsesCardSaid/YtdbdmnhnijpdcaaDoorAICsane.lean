import Derived.Test.YtdbdmnhnijpdcaaDoorAICardT
import Derived.Test.YtdbdmnhnijpdcaaDoorAICchk
import Derived.Test.YtdbdmnhnijpdcaaDoorAICPsound
namespace Go.Proofs.YtdbdmnhnijpdcaaDoorW.AI.C
open Go Go.Proofs.YtdbdmnhnijpdcaaDoorW.AI Go.RowKit Go.Proofs
set_option maxRecDepth 100000
def testsD : List (Int × List UInt8) := [(22, [101, 112, 104, 101, 109, 101, 114, 105, 115, 47, 115, 97, 110, 101, 46, 116, 101, 115, 116, 115, 36, 49]), (23, [101, 112, 104, 101, 109, 101, 114, 105, 115, 47, 115, 97, 110, 101, 46, 116, 101, 115, 116, 115, 36, 50]), (24, [101, 112, 104, 101, 109, 101, 114, 105, 115, 47, 115, 97, 110, 101, 46, 116, 101, 115, 116, 115, 36, 51]), (24, [101, 112, 104, 101, 109, 101, 114, 105, 115, 47, 115, 97, 110, 101, 46, 116, 101, 115, 116, 115, 36, 52]), (24, [101, 112, 104, 101, 109, 101, 114, 105, 115, 47, 115, 97, 110, 101, 46, 116, 101, 115, 116, 115, 36, 53])]
def testsL : List AV := [.int .i64 22, .fn 145 [], .int .i64 23, .fn 146 [], .int .i64 24, .fn 147 [], .int .i64 24, .fn 148 [], .int .i64 24, .fn 149 []]
def CS : Cfg := { mp := MP, gl := [⟨.ext, .vals testsL⟩, ⟨.dead, .vals []⟩, ⟨.dead, .vals []⟩, ⟨.dead, .vals []⟩], prim := prim }
theorem primOkS : PrimOk X CS := ⟨prim_steady, fun _ _ => prim_sound⟩
def tests1 (p : Int × List UInt8) : DataW Unit := .agg [.lit (.int .i64 p.1), .iface "func" (.lit (.string p.2))]
theorem laid_tests {W : World} {L : List (String × DataW Unit)} (h : laidMetH Go.Proofs.Tryd.prog L W) (hm : ("ephemeris/sane.tests", DataW.iface "func table" (.agg (testsD.map tests1))) ∈ L) : Laid CS.gl X.gid W := by
  obtain ⟨g, t, cs, fuel, p, hg, ht, hv, hd⟩ := h.funcs hm
  have eg : Go.Proofs.Tryd.prog.globalNamed "ephemeris/sane.tests" = some 0 := by kernel_rfl
  have et : (Go.Proofs.Tryd.prog.globals[0]?).map (·.type) = some 89 := by kernel_rfl
  obtain rfl := Option.some.inj (eg.symm.trans hg)
  obtain rfl := Option.some.inj (et.symm.trans ht)
  obtain ⟨T, fz, hb⟩ := var_block hg hv
  have hs : ∃ f0 f1 : Field, Go.Proofs.Tryd.prog.underlying 88 = some (.struct #[f0, f1]) ∧ (f0.type = 30 ∧ f0.offset = 0) ∧ (f1.type = 48 ∧ f1.offset = 1) := ⟨_, _, Tryd.underlying88, ⟨rfl, rfl⟩, ⟨rfl, rfl⟩⟩
  obtain ⟨f0, f1, hs, h0, h1⟩ := hs
  have hF : ∃ ps rs va, Go.Proofs.Tryd.prog.underlying 48 = some (.func ps rs va) := ⟨_, _, _, Tryd.underlying48⟩
  obtain ⟨ps, rs, va, hF⟩ := hF
  have hcs : cs.toList = [[Value.int .i64 22, .func (.func 145) #[] #[]], [.int .i64 23, .func (.func 146) #[] #[]], [.int .i64 24, .func (.func 147) #[] #[]], [.int .i64 24, .func (.func 148) #[] #[]], [.int .i64 24, .func (.func 149) #[] #[]]].flatten := by
    refine tests_of_trod (l := testsD) (tS := 88) (g := fun _ _ _ => True) (by kernel_rfl) (by kernel_rfl) (by kernel_rfl) hd _ rfl ?_
    intro i hi m c q hc
    have cE : Go.Proofs.Tryd.prog.cellsOf 30 = 1 := by kernel_rfl
    have cF : Go.Proofs.Tryd.prog.cellsOf 48 = 1 := by kernel_rfl
    have cS : Go.Proofs.Tryd.prog.cellsOf 88 = 2 := by kernel_rfl
    have hE : Go.Proofs.Tryd.prog.underlying 30 = some (.int .i64) := by kernel_rfl
    match i, hi, hc with
    | 0, _, hc => rw [test_cell (F := 145) hs h0 h1 hE hF cS cE cF (by kernel_rfl) hc]; rfl
    | 1, _, hc => rw [test_cell (F := 146) hs h0 h1 hE hF cS cE cF (by kernel_rfl) hc]; rfl
    | 2, _, hc => rw [test_cell (F := 147) hs h0 h1 hE hF cS cE cF (by kernel_rfl) hc]; rfl
    | 3, _, hc => rw [test_cell (F := 148) hs h0 h1 hE hF cS cE cF (by kernel_rfl) hc]; rfl
    | 4, _, hc => rw [test_cell (F := 149) hs h0 h1 hE hF cS cE cF (by kernel_rfl) hc]; rfl
  have hrs : Rs ⟨fun _ => 0, fun _ => 0, fun _ => 0⟩ testsL cs.toList ∧ ∀ ρ, Rs ρ testsL cs.toList := by
    have : ∀ ρ, Rs ρ testsL cs.toList := by
      intro ρ
      rw [hcs]
      simp only [testsL, List.flatten_cons, List.flatten_nil, List.cons_append, List.nil_append, Rs, R]
      refine ⟨_, _, rfl, rfl, _, _, rfl, ⟨#[], rfl, rfl⟩, _, _, rfl, rfl, _, _, rfl, ⟨#[], rfl, rfl⟩, _, _, rfl, rfl, _, _, rfl, ⟨#[], rfl, rfl⟩, _, _, rfl, rfl, _, _, rfl, ⟨#[], rfl, rfl⟩, _, _, rfl, rfl, _, _, rfl, ⟨#[], rfl, rfl⟩, rfl⟩
    exact ⟨this _, this⟩
  intro i x hi
  have hi0 : x.st = .dead ∨ (i = 0 ∧ x = ⟨.ext, .vals testsL⟩) := by
    match i, hi with
    | 0, hi => simp [CS] at hi; exact Or.inr ⟨rfl, hi.symm⟩
    | 1, hi => simp [CS] at hi; rw [← hi]; exact Or.inl rfl
    | 2, hi => simp [CS] at hi; rw [← hi]; exact Or.inl rfl
    | 3, hi => simp [CS] at hi; rw [← hi]; exact Or.inl rfl
    | i + 4, hi => simp [CS] at hi
  rcases hi0 with hi0 | ⟨rfl, rfl⟩
  · exact Or.inl hi0
  · have hlen := Rs_length hrs.1
    refine Or.inr ⟨rfl, rfl, cs, T, fz, hb, by show testsL.length ≤ _; rw [hlen]; simp, fun j v hj => ?_⟩
    obtain ⟨y, hy, _⟩ := Rs_get hrs.1 (show testsL[j]? = some v from hj)
    refine ⟨y, by simpa using hy, fun ρ => ?_⟩
    obtain ⟨y', hy', hr'⟩ := Rs_get (hrs.2 ρ) (show testsL[j]? = some v from hj)
    rw [hy] at hy'; cases hy'
    exact hr'
theorem laid_sane {W : World} {a b : String × DataW Unit} (h : laidMetH Go.Proofs.Tryd.prog [a, ("ephemeris/sane.tests", DataW.iface "func table" (.agg (testsD.map tests1))), b] W) : Laid CS.gl X.gid W := laid_tests h (by simp)
theorem sane_true : isTrue (acall CS 80 8 [] CS.gl) = true := by kernel_rfl
theorem sane_walk (w : World) (hl : Laid CS.gl X.gid w) : Calls Go.Proofs.Tryd.prog 8 #[] w fun e w' => e = .returned (.bool true) ∧ Below w.heap.size w w' := closed_laid (X := X) CS follows rfl mp_chk primOkS sane_true w hl
end Go.Proofs.YtdbdmnhnijpdcaaDoorW.AI.C
