import Derived.Test.YtdbdmnhnijpdcaaDoorAICsane
import Derived.Test.YtdbdmnhnijpdcaaDoorAITool2
namespace Go.Proofs.YtdbdmnhnijpdcaaDoorW.AI.C
open Go Go.Proofs.YtdbdmnhnijpdcaaDoorW.AI
set_option maxRecDepth 100000
set_option linter.unusedVariables false
set_option linter.unusedSimpArgs false
/-- The table of tests lies where it is laid. -/
def At0 (h : AHeap) : Prop := h[0]? = some ⟨.ext, .vals testsL⟩ ∧ 0 < h.length
theorem At0.app {h : AHeap} (a : At0 h) (js : AHeap) : At0 (h ++ js) := ⟨by rw [List.getElem?_append_left a.2]; exact a.1, by simp; have := a.2; omega⟩
theorem at0_gl : At0 CS.gl := ⟨rfl, by decide⟩
theorem good_glS : Good CS.gl := rfl
def sN (u : Int) : Int := (u * 1000000000 + 65535) / 65536
theorem short_c {u : Int} (u0 : 0 ≤ u) (u1 : u < 4294967296) (h : AHeap) : W CS 54 [.int .u32 u] h = some (.int .i64 (sN u), h, []) := by
  have w0 : IntKind.i64.wrap u = u := wr_i64 _ (by omega) (by omega)
  have w1 : IntKind.i64.wrap (u * 1000000000) = u * 1000000000 := wr_i64 _ (by omega) (by omega)
  have w2 : IntKind.i64.wrap (u * 1000000000 + 65535) = u * 1000000000 + 65535 := wr_i64 _ (by omega) (by omega)
  have d : (u * 1000000000 + 65535).fdiv (2 ^ 16) = sN u := by rw [Int.fdiv_eq_ediv_of_nonneg _ (by decide)]; rfl
  have d' : (u * 1000000000 + 65535).fdiv 65536 = sN u := d
  have w3 : IntKind.i64.wrap (sN u) = sN u := wr_i64 _ (by unfold sN; omega) (by unfold sN; omega)
  refine W_val (m := M54) (fun _ => rfl) rfl rfl rfl ?_ h
  simp (maxDischargeDepth := 9) -implicitDefEqProofs only [push_cast, reduceIte, Nat.reduceEqDiff, Nat.reduceAdd, Nat.reduceSub, Nat.reduceMul, Nat.reduceDiv, Nat.reduceMod, Nat.reduceLT, Nat.reduceLeDiff, Nat.reduceBEq, Nat.reduceBNe, reduceCtorEq, Int.reduceEq, Int.reduceNe, Int.reduceLT, Int.reduceLE, Int.reduceToNat, Int.reduceNeg, Int.reduceAdd, Int.reduceSub, Int.reduceMul, Int.reducePow, Nat.reducePow, Int.reduceBEq, M54, w0, w1, w2, d, d', w3]
def rhoV (a b : Int) : Int := (sN a + 1) / 2 + sN b
theorem rho_c {p0 p1 p2 p3 p4 p5 p6 p7 p8 p9 p10 p11 p12 p15 p16 : Int} {x : AV} {s : Bool} (hx : x.isCell = true) (a0 : 0 ≤ p6) (a1 : p6 < 4294967296) (b0 : 0 ≤ p7) (b1 : p7 < 4294967296) {h : AHeap} (hg : Good h) :
    W CS 24 [.agg [.int .u8 p0, .int .u8 p1, .int .u8 p2, .int .u8 p3, .int .i8 p4, .int .i8 p5, .int .u32 p6, .int .u32 p7, .int .u32 p8, .int .u64 p9, .int .u64 p10, .int .u64 p11, .int .u64 p12, x, .bool s, .int .u32 p15, .int .u64 p16]] h = some (.int .i64 (rhoV p6 p7), h, []) := by
  have e1 := fun h => short_c a0 a1 h
  have e2 := fun h => short_c b0 b1 h
  have r1 : 0 ≤ sN p6 ∧ sN p6 < 70000000000000 := by unfold sN; omega
  have r2 : 0 ≤ sN p7 ∧ sN p7 < 70000000000000 := by unfold sN; omega
  unfold rhoV
  obtain ⟨A, hA⟩ : ∃ A, sN p6 = A := ⟨_, rfl⟩
  obtain ⟨B, hB⟩ : ∃ B, sN p7 = B := ⟨_, rfl⟩
  rw [hA] at e1 r1 ⊢
  rw [hB] at e2 r2 ⊢
  have w1 : IntKind.i64.wrap (A + 1) = A + 1 := wr_i64 _ (by omega) (by omega)
  obtain ⟨D, hD⟩ : ∃ D, (A + 1) / 2 = D := ⟨_, rfl⟩
  have d : (A + 1).tdiv 2 = D := by rw [Int.tdiv_eq_ediv_of_nonneg (by omega)]; exact hD
  rw [hD]
  have w2 : IntKind.i64.wrap D = D := wr_i64 _ (by omega) (by omega)
  have w3 : IntKind.i64.wrap (D + B) = D + B := wr_i64 _ (by omega) (by omega)
  refine W_both (m := M24) (fun _ => True) (fun _ => rfl) rfl rfl rfl good_glS trivial (fun g hg _ => ?_) hg trivial
  simp (maxDischargeDepth := 9) -implicitDefEqProofs only [push_cast, reduceIte, Nat.reduceEqDiff, Nat.reduceAdd, Nat.reduceSub, Nat.reduceMul, Nat.reduceDiv, Nat.reduceMod, Nat.reduceLT, Nat.reduceLeDiff, Nat.reduceBEq, Nat.reduceBNe, reduceCtorEq, Int.reduceEq, Int.reduceNe, Int.reduceLT, Int.reduceLE, Int.reduceToNat, Int.reduceNeg, Int.reduceAdd, Int.reduceSub, Int.reduceMul, Int.reducePow, Nat.reducePow, Int.reduceBEq, M24, hx, e1, e2, w1, d, w2, w3]
  exact quiet_i
/-- Which test of a packet fails first. -/
def testV (b0 b1 b2 b3 b4 : Bool) : Int := if b0 then 22 else if b1 then 23 else if b2 then 24 else if b3 then 24 else if b4 then 24 else 0
theorem test1_c {p0 p1 p2 p3 p4 p5 p6 p7 p8 p9 p10 p11 p12 p15 p16 : Int} {x : AV} {s : Bool} (hx : x.isCell = true) {h : AHeap} (hg : Good h) : W CS 145 [.agg [.int .u8 p0, .int .u8 p1, .int .u8 p2, .int .u8 p3, .int .i8 p4, .int .i8 p5, .int .u32 p6, .int .u32 p7, .int .u32 p8, .int .u64 p9, .int .u64 p10, .int .u64 p11, .int .u64 p12, x, .bool s, .int .u32 p15, .int .u64 p16]] h = some (.bool (!decide (p2 = 4)), h, []) := by
  refine W_both (m := M145) (fun _ => True) (fun _ => rfl) rfl rfl rfl good_glS trivial (fun g hg _ => ?_) hg trivial
  by_cases c : p2 = 4
  all_goals simp (maxDischargeDepth := 9) -implicitDefEqProofs only [push_cast, reduceIte, Nat.reduceEqDiff, Nat.reduceAdd, Nat.reduceSub, Nat.reduceMul, Nat.reduceDiv, Nat.reduceMod, Nat.reduceLT, Nat.reduceLeDiff, Nat.reduceBEq, Nat.reduceBNe, reduceCtorEq, Int.reduceEq, Int.reduceNe, Int.reduceLT, Int.reduceLE, Int.reduceToNat, Int.reduceNeg, Int.reduceAdd, Int.reduceSub, Int.reduceMul, Int.reducePow, Nat.reducePow, Int.reduceBEq, M145, hx, c, decide_true, decide_false, Bool.not_true, Bool.not_false]
  all_goals exact quiet_i
theorem test2_c {p0 p1 p2 p3 p4 p5 p6 p7 p8 p9 p10 p11 p12 p15 p16 : Int} {x : AV} {s : Bool} (hx : x.isCell = true) {h : AHeap} (hg : Good h) : W CS 146 [.agg [.int .u8 p0, .int .u8 p1, .int .u8 p2, .int .u8 p3, .int .i8 p4, .int .i8 p5, .int .u32 p6, .int .u32 p7, .int .u32 p8, .int .u64 p9, .int .u64 p10, .int .u64 p11, .int .u64 p12, x, .bool s, .int .u32 p15, .int .u64 p16]] h = some (.bool (decide (p3 = 0)), h, []) := by
  refine W_both (m := M146) (fun _ => True) (fun _ => rfl) rfl rfl rfl good_glS trivial (fun g hg _ => ?_) hg trivial
  by_cases c : p3 = 0
  all_goals simp (maxDischargeDepth := 9) -implicitDefEqProofs only [push_cast, reduceIte, Nat.reduceEqDiff, Nat.reduceAdd, Nat.reduceSub, Nat.reduceMul, Nat.reduceDiv, Nat.reduceMod, Nat.reduceLT, Nat.reduceLeDiff, Nat.reduceBEq, Nat.reduceBNe, reduceCtorEq, Int.reduceEq, Int.reduceNe, Int.reduceLT, Int.reduceLE, Int.reduceToNat, Int.reduceNeg, Int.reduceAdd, Int.reduceSub, Int.reduceMul, Int.reducePow, Nat.reducePow, Int.reduceBEq, M146, hx, c, decide_true, decide_false, Bool.not_true, Bool.not_false]
  all_goals exact quiet_i
theorem test3_c {p0 p1 p2 p3 p4 p5 p6 p7 p8 p9 p10 p11 p12 p15 p16 : Int} {x : AV} {s : Bool} (hx : x.isCell = true) {h : AHeap} (hg : Good h) : W CS 147 [.agg [.int .u8 p0, .int .u8 p1, .int .u8 p2, .int .u8 p3, .int .i8 p4, .int .i8 p5, .int .u32 p6, .int .u32 p7, .int .u32 p8, .int .u64 p9, .int .u64 p10, .int .u64 p11, .int .u64 p12, x, .bool s, .int .u32 p15, .int .u64 p16]] h = some (.bool (decide (p0 = 3) || decide (15 < p3)), h, []) := by
  refine W_both (m := M147) (fun _ => True) (fun _ => rfl) rfl rfl rfl good_glS trivial (fun g hg _ => ?_) hg trivial
  by_cases c : p0 = 3 <;> by_cases d : 15 < p3
  all_goals simp (maxDischargeDepth := 9) -implicitDefEqProofs only [push_cast, reduceIte, Nat.reduceEqDiff, Nat.reduceAdd, Nat.reduceSub, Nat.reduceMul, Nat.reduceDiv, Nat.reduceMod, Nat.reduceLT, Nat.reduceLeDiff, Nat.reduceBEq, Nat.reduceBNe, reduceCtorEq, Int.reduceEq, Int.reduceNe, Int.reduceLT, Int.reduceLE, Int.reduceToNat, Int.reduceNeg, Int.reduceAdd, Int.reduceSub, Int.reduceMul, Int.reducePow, Nat.reducePow, Int.reduceBEq, M147, hx, c, d, decide_true, decide_false, Bool.not_true, Bool.not_false, Bool.true_or, Bool.false_or, Bool.or_true, Bool.or_false]
  all_goals exact quiet_i
theorem test4_c {p0 p1 p2 p3 p4 p5 p6 p7 p8 p9 p10 p11 p12 p15 p16 : Int} {x : AV} {s : Bool} (hx : x.isCell = true) {h : AHeap} (hg : Good h) : W CS 148 [.agg [.int .u8 p0, .int .u8 p1, .int .u8 p2, .int .u8 p3, .int .i8 p4, .int .i8 p5, .int .u32 p6, .int .u32 p7, .int .u32 p8, .int .u64 p9, .int .u64 p10, .int .u64 p11, .int .u64 p12, x, .bool s, .int .u32 p15, .int .u64 p16]] h = some (.bool (decide (p11 = 0) || decide (p12 = 0)), h, []) := by
  refine W_both (m := M148) (fun _ => True) (fun _ => rfl) rfl rfl rfl good_glS trivial (fun g hg _ => ?_) hg trivial
  by_cases c : p11 = 0 <;> by_cases d : p12 = 0
  all_goals simp (maxDischargeDepth := 9) -implicitDefEqProofs only [push_cast, reduceIte, Nat.reduceEqDiff, Nat.reduceAdd, Nat.reduceSub, Nat.reduceMul, Nat.reduceDiv, Nat.reduceMod, Nat.reduceLT, Nat.reduceLeDiff, Nat.reduceBEq, Nat.reduceBNe, reduceCtorEq, Int.reduceEq, Int.reduceNe, Int.reduceLT, Int.reduceLE, Int.reduceToNat, Int.reduceNeg, Int.reduceAdd, Int.reduceSub, Int.reduceMul, Int.reducePow, Nat.reducePow, Int.reduceBEq, M148, hx, c, d, decide_true, decide_false, Bool.not_true, Bool.not_false, Bool.true_or, Bool.false_or, Bool.or_true, Bool.or_false]
  all_goals exact quiet_i
theorem test5_c {p0 p1 p2 p3 p4 p5 p6 p7 p8 p9 p10 p11 p12 p15 p16 : Int} {x : AV} {s : Bool} (hx : x.isCell = true) (a0 : 0 ≤ p6) (a1 : p6 < 4294967296) (b0 : 0 ≤ p7) (b1 : p7 < 4294967296) {h : AHeap} (hg : Good h) : W CS 149 [.agg [.int .u8 p0, .int .u8 p1, .int .u8 p2, .int .u8 p3, .int .i8 p4, .int .i8 p5, .int .u32 p6, .int .u32 p7, .int .u32 p8, .int .u64 p9, .int .u64 p10, .int .u64 p11, .int .u64 p12, x, .bool s, .int .u32 p15, .int .u64 p16]] h = some (.bool (decide (16000000000 < rhoV p6 p7)), h, []) := by
  refine W_both (m := M149) (fun _ => True) (fun _ => rfl) rfl rfl rfl good_glS trivial (fun g hg _ => ?_) hg trivial
  have er := rho_c (p0 := p0) (p1 := p1) (p2 := p2) (p3 := p3) (p4 := p4) (p5 := p5) (p8 := p8) (p9 := p9) (p10 := p10) (p11 := p11) (p12 := p12) (p15 := p15) (p16 := p16) (s := s) hx a0 a1 b0 b1 (good_app (js := [⟨.tip false, .vals [.int .u8 p0, .int .u8 p1, .int .u8 p2, .int .u8 p3, .int .i8 p4, .int .i8 p5, .int .u32 p6, .int .u32 p7, .int .u32 p8, .int .u64 p9, .int .u64 p10, .int .u64 p11, .int .u64 p12, x, .bool s, .int .u32 p15, .int .u64 p16]⟩]) hg rfl)
  by_cases c : 16000000000 < rhoV p6 p7
  all_goals simp (maxDischargeDepth := 9) -implicitDefEqProofs only [push_cast, reduceIte, Nat.reduceEqDiff, Nat.reduceAdd, Nat.reduceSub, Nat.reduceMul, Nat.reduceDiv, Nat.reduceMod, Nat.reduceLT, Nat.reduceLeDiff, Nat.reduceBEq, Nat.reduceBNe, reduceCtorEq, Int.reduceEq, Int.reduceNe, Int.reduceLT, Int.reduceLE, Int.reduceToNat, Int.reduceNeg, Int.reduceAdd, Int.reduceSub, Int.reduceMul, Int.reducePow, Nat.reducePow, Int.reduceBEq, M149, hx, er, c, decide_true, decide_false]
  all_goals exact quiet_i
end Go.Proofs.YtdbdmnhnijpdcaaDoorW.AI.C
