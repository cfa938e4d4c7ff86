import Derived.Test.YtdbdmnhnijpdcaaDoorAICsane2
namespace Go.Proofs.YtdbdmnhnijpdcaaDoorW.AI.C
open Go Go.Proofs.YtdbdmnhnijpdcaaDoorW.AI
set_option maxRecDepth 100000
set_option linter.unusedVariables false
set_option linter.unusedSimpArgs false
def tB (e : Int) (f : Nat) : ABlk := ⟨.tip false, .vals [.int .i64 e, .fn f []]⟩
def tjs : Nat → List ABlk
  | 0 => []
  | 1 => [⟨.tip false, .vals [.int .i64 22, .fn 145 []]⟩]
  | 2 => [⟨.tip false, .vals [.int .i64 22, .fn 145 []]⟩, ⟨.tip false, .vals [.int .i64 23, .fn 146 []]⟩]
  | 3 => [⟨.tip false, .vals [.int .i64 22, .fn 145 []]⟩, ⟨.tip false, .vals [.int .i64 23, .fn 146 []]⟩, ⟨.tip false, .vals [.int .i64 24, .fn 147 []]⟩]
  | 4 => [⟨.tip false, .vals [.int .i64 22, .fn 145 []]⟩, ⟨.tip false, .vals [.int .i64 23, .fn 146 []]⟩, ⟨.tip false, .vals [.int .i64 24, .fn 147 []]⟩, ⟨.tip false, .vals [.int .i64 24, .fn 148 []]⟩]
  | _ => [⟨.tip false, .vals [.int .i64 22, .fn 145 []]⟩, ⟨.tip false, .vals [.int .i64 23, .fn 146 []]⟩, ⟨.tip false, .vals [.int .i64 24, .fn 147 []]⟩, ⟨.tip false, .vals [.int .i64 24, .fn 148 []]⟩, ⟨.tip false, .vals [.int .i64 24, .fn 149 []]⟩]
set_option maxHeartbeats 2000000 in
theorem test_body {p0 p1 p2 p3 p4 p5 p6 p7 p8 p9 p10 p11 p12 p15 p16 : Int} {x : AV} {s : Bool} (hx : x.isCell = true) {b1 b2 b3 b4 b5 : Bool} (g : AHeap) (hg : Good g) (ha : At0 g)
    (e1 : ∀ h, Good h → W CS 145 [.agg [.int .u8 p0, .int .u8 p1, .int .u8 p2, .int .u8 p3, .int .i8 p4, .int .i8 p5, .int .u32 p6, .int .u32 p7, .int .u32 p8, .int .u64 p9, .int .u64 p10, .int .u64 p11, .int .u64 p12, x, .bool s, .int .u32 p15, .int .u64 p16]] h = some (.bool b1, h, []))
    (e2 : ∀ h, Good h → W CS 146 [.agg [.int .u8 p0, .int .u8 p1, .int .u8 p2, .int .u8 p3, .int .i8 p4, .int .i8 p5, .int .u32 p6, .int .u32 p7, .int .u32 p8, .int .u64 p9, .int .u64 p10, .int .u64 p11, .int .u64 p12, x, .bool s, .int .u32 p15, .int .u64 p16]] h = some (.bool b2, h, []))
    (e3 : ∀ h, Good h → W CS 147 [.agg [.int .u8 p0, .int .u8 p1, .int .u8 p2, .int .u8 p3, .int .i8 p4, .int .i8 p5, .int .u32 p6, .int .u32 p7, .int .u32 p8, .int .u64 p9, .int .u64 p10, .int .u64 p11, .int .u64 p12, x, .bool s, .int .u32 p15, .int .u64 p16]] h = some (.bool b3, h, []))
    (e4 : ∀ h, Good h → W CS 148 [.agg [.int .u8 p0, .int .u8 p1, .int .u8 p2, .int .u8 p3, .int .i8 p4, .int .i8 p5, .int .u32 p6, .int .u32 p7, .int .u32 p8, .int .u64 p9, .int .u64 p10, .int .u64 p11, .int .u64 p12, x, .bool s, .int .u32 p15, .int .u64 p16]] h = some (.bool b4, h, []))
    (e5 : ∀ h, Good h → W CS 149 [.agg [.int .u8 p0, .int .u8 p1, .int .u8 p2, .int .u8 p3, .int .i8 p4, .int .i8 p5, .int .u32 p6, .int .u32 p7, .int .u32 p8, .int .u64 p9, .int .u64 p10, .int .u64 p11, .int .u64 p12, x, .bool s, .int .u32 p15, .int .u64 p16]] h = some (.bool b5, h, [])) :
    Wp (xbody (W CS) M26 [.agg [.int .u8 p0, .int .u8 p1, .int .u8 p2, .int .u8 p3, .int .i8 p4, .int .i8 p5, .int .u32 p6, .int .u32 p7, .int .u32 p8, .int .u64 p9, .int .u64 p10, .int .u64 p11, .int .u64 p12, x, .bool s, .int .u32 p15, .int .u64 p16]] g) (Quiet g (.int .i64 (testV b1 b2 b3 b4 b5))) := by
  have h0 := ha.1
  have h1 := ha.2
  have h2 : ¬ g.length ≤ 0 := by omega
  have hG := fun js (hj : js.all notOld = true) => good_app (js := ⟨.tip false, .vals [.int .u8 p0, .int .u8 p1, .int .u8 p2, .int .u8 p3, .int .i8 p4, .int .i8 p5, .int .u32 p6, .int .u32 p7, .int .u32 p8, .int .u64 p9, .int .u64 p10, .int .u64 p11, .int .u64 p12, x, .bool s, .int .u32 p15, .int .u64 p16]⟩ :: js) hg (by simpa [notOld] using hj)
  have m0 : tjs 0 = [] := rfl
  have m1 : tjs 1 = [⟨.tip false, .vals [.int .i64 22, .fn 145 []]⟩] := rfl
  have m2 : tjs 2 = [⟨.tip false, .vals [.int .i64 22, .fn 145 []]⟩, ⟨.tip false, .vals [.int .i64 23, .fn 146 []]⟩] := rfl
  have m3 : tjs 3 = [⟨.tip false, .vals [.int .i64 22, .fn 145 []]⟩, ⟨.tip false, .vals [.int .i64 23, .fn 146 []]⟩, ⟨.tip false, .vals [.int .i64 24, .fn 147 []]⟩] := rfl
  have m4 : tjs 4 = [⟨.tip false, .vals [.int .i64 22, .fn 145 []]⟩, ⟨.tip false, .vals [.int .i64 23, .fn 146 []]⟩, ⟨.tip false, .vals [.int .i64 24, .fn 147 []]⟩, ⟨.tip false, .vals [.int .i64 24, .fn 148 []]⟩] := rfl
  have m5 : tjs 5 = [⟨.tip false, .vals [.int .i64 22, .fn 145 []]⟩, ⟨.tip false, .vals [.int .i64 23, .fn 146 []]⟩, ⟨.tip false, .vals [.int .i64 24, .fn 147 []]⟩, ⟨.tip false, .vals [.int .i64 24, .fn 148 []]⟩, ⟨.tip false, .vals [.int .i64 24, .fn 149 []]⟩] := rfl
  have f1 := e1 _ (hG (tjs 1) rfl)
  have f2 := e2 _ (hG (tjs 2) rfl)
  have f3 := e3 _ (hG (tjs 3) rfl)
  have f4 := e4 _ (hG (tjs 4) rfl)
  have f5 := e5 _ (hG (tjs 5) rfl)
  rw [m1] at f1
  rw [m2] at f2
  rw [m3] at f3
  rw [m4] at f4
  rw [m5] at f5
  simp (maxDischargeDepth := 9) -implicitDefEqProofs only [push_cast, reduceIte, Nat.reduceEqDiff, Nat.reduceAdd, Nat.reduceSub, Nat.reduceMul, Nat.reduceDiv, Nat.reduceMod, Nat.reduceLT, Nat.reduceLeDiff, Nat.reduceBEq, Nat.reduceBNe, reduceCtorEq, Int.reduceEq, Int.reduceNe, Int.reduceLT, Int.reduceLE, Int.reduceToNat, Int.reduceNeg, Int.reduceAdd, Int.reduceSub, Int.reduceMul, Int.reducePow, Nat.reducePow, Int.reduceBEq, M26, hx, h0, h1, h2, testsL]
  refine wp_kRes (wp_kSeq (wp_kBlock ?_))
  refine wp_loop (fun k a h' ws => ∃ i : Nat, k = 5 - i ∧ i ≤ 5 ∧ (1 ≤ i → b1 = false) ∧ (2 ≤ i → b2 = false) ∧ (3 ≤ i → b3 = false) ∧ (4 ≤ i → b4 = false) ∧ (5 ≤ i → b5 = false) ∧ a = [(1, .ptr g.length 0), (5, .agg [.int .i64 22, .fn 145 [], .int .i64 23, .fn 146 [], .int .i64 24, .fn 147 [], .int .i64 24, .fn 148 [], .int .i64 24, .fn 149 []]), (6, .int .i64 (i : Int))] ∧ h' = g ++ (⟨.tip false, .vals [.int .u8 p0, .int .u8 p1, .int .u8 p2, .int .u8 p3, .int .i8 p4, .int .i8 p5, .int .u32 p6, .int .u32 p7, .int .u32 p8, .int .u64 p9, .int .u64 p10, .int .u64 p11, .int .u64 p12, x, .bool s, .int .u32 p15, .int .u64 p16]⟩ :: tjs i) ∧ ws = []) 5 ?_ ?_
  · refine ⟨0, by omega, by omega, by omega, by omega, by omega, by omega, by omega, ?_, rfl, rfl⟩
    simp (maxDischargeDepth := 9) -implicitDefEqProofs only [push_cast, reduceIte, Nat.reduceEqDiff, Nat.reduceAdd, Nat.reduceSub, Nat.reduceMul, Nat.reduceDiv, Nat.reduceMod, Nat.reduceLT, Nat.reduceLeDiff, Nat.reduceBEq, Nat.reduceBNe, reduceCtorEq, Int.reduceEq, Int.reduceNe, Int.reduceLT, Int.reduceLE, Int.reduceToNat, Int.reduceNeg, Int.reduceAdd, Int.reduceSub, Int.reduceMul, Int.reducePow, Nat.reducePow, Int.reduceBEq]; try rfl
  · rintro k aa h' ws ⟨i, rfl, hi, q1, q2, q3, q4, q5, rfl, rfl, rfl⟩
    rcases (by omega : i = 0 ∨ i = 1 ∨ i = 2 ∨ i = 3 ∨ i = 4 ∨ i = 5) with rfl | rfl | rfl | rfl | rfl | rfl
    · cases hb : b1 <;> rw [hb] at f1
      · simp (maxDischargeDepth := 9) -implicitDefEqProofs only [push_cast, reduceIte, Nat.reduceEqDiff, Nat.reduceAdd, Nat.reduceSub, Nat.reduceMul, Nat.reduceDiv, Nat.reduceMod, Nat.reduceLT, Nat.reduceLeDiff, Nat.reduceBEq, Nat.reduceBNe, reduceCtorEq, Int.reduceEq, Int.reduceNe, Int.reduceLT, Int.reduceLE, Int.reduceToNat, Int.reduceNeg, Int.reduceAdd, Int.reduceSub, Int.reduceMul, Int.reducePow, Nat.reducePow, Int.reduceBEq, m0, hx, f1]
        refine loop_next (5 - 1) (by omega) ⟨1, rfl, by omega, by simp, by omega, by omega, by omega, by omega, ?_, by rw [m1], rfl⟩
        simp (maxDischargeDepth := 9) -implicitDefEqProofs only [push_cast, reduceIte, Nat.reduceEqDiff, Nat.reduceAdd, Nat.reduceSub, Nat.reduceMul, Nat.reduceDiv, Nat.reduceMod, Nat.reduceLT, Nat.reduceLeDiff, Nat.reduceBEq, Nat.reduceBNe, reduceCtorEq, Int.reduceEq, Int.reduceNe, Int.reduceLT, Int.reduceLE, Int.reduceToNat, Int.reduceNeg, Int.reduceAdd, Int.reduceSub, Int.reduceMul, Int.reducePow, Nat.reducePow, Int.reduceBEq]; try rfl
      · skip
        simp (maxDischargeDepth := 9) -implicitDefEqProofs only [push_cast, reduceIte, Nat.reduceEqDiff, Nat.reduceAdd, Nat.reduceSub, Nat.reduceMul, Nat.reduceDiv, Nat.reduceMod, Nat.reduceLT, Nat.reduceLeDiff, Nat.reduceBEq, Nat.reduceBNe, reduceCtorEq, Int.reduceEq, Int.reduceNe, Int.reduceLT, Int.reduceLE, Int.reduceToNat, Int.reduceNeg, Int.reduceAdd, Int.reduceSub, Int.reduceMul, Int.reducePow, Nat.reducePow, Int.reduceBEq, m0, hx, f1]
        exact quiet_i
    · cases hb : b2 <;> rw [hb] at f2
      · simp (maxDischargeDepth := 9) -implicitDefEqProofs only [push_cast, reduceIte, Nat.reduceEqDiff, Nat.reduceAdd, Nat.reduceSub, Nat.reduceMul, Nat.reduceDiv, Nat.reduceMod, Nat.reduceLT, Nat.reduceLeDiff, Nat.reduceBEq, Nat.reduceBNe, reduceCtorEq, Int.reduceEq, Int.reduceNe, Int.reduceLT, Int.reduceLE, Int.reduceToNat, Int.reduceNeg, Int.reduceAdd, Int.reduceSub, Int.reduceMul, Int.reducePow, Nat.reducePow, Int.reduceBEq, m1, hx, f2]
        refine loop_next (5 - 2) (by omega) ⟨2, rfl, by omega, fun _ => q1 (by omega), by simp, by omega, by omega, by omega, ?_, by rw [m2], rfl⟩
        simp (maxDischargeDepth := 9) -implicitDefEqProofs only [push_cast, reduceIte, Nat.reduceEqDiff, Nat.reduceAdd, Nat.reduceSub, Nat.reduceMul, Nat.reduceDiv, Nat.reduceMod, Nat.reduceLT, Nat.reduceLeDiff, Nat.reduceBEq, Nat.reduceBNe, reduceCtorEq, Int.reduceEq, Int.reduceNe, Int.reduceLT, Int.reduceLE, Int.reduceToNat, Int.reduceNeg, Int.reduceAdd, Int.reduceSub, Int.reduceMul, Int.reducePow, Nat.reducePow, Int.reduceBEq]; try rfl
      · rw [q1 (by omega)]; skip
        simp (maxDischargeDepth := 9) -implicitDefEqProofs only [push_cast, reduceIte, Nat.reduceEqDiff, Nat.reduceAdd, Nat.reduceSub, Nat.reduceMul, Nat.reduceDiv, Nat.reduceMod, Nat.reduceLT, Nat.reduceLeDiff, Nat.reduceBEq, Nat.reduceBNe, reduceCtorEq, Int.reduceEq, Int.reduceNe, Int.reduceLT, Int.reduceLE, Int.reduceToNat, Int.reduceNeg, Int.reduceAdd, Int.reduceSub, Int.reduceMul, Int.reducePow, Nat.reducePow, Int.reduceBEq, m1, hx, f2]
        exact quiet_i
    · cases hb : b3 <;> rw [hb] at f3
      · simp (maxDischargeDepth := 9) -implicitDefEqProofs only [push_cast, reduceIte, Nat.reduceEqDiff, Nat.reduceAdd, Nat.reduceSub, Nat.reduceMul, Nat.reduceDiv, Nat.reduceMod, Nat.reduceLT, Nat.reduceLeDiff, Nat.reduceBEq, Nat.reduceBNe, reduceCtorEq, Int.reduceEq, Int.reduceNe, Int.reduceLT, Int.reduceLE, Int.reduceToNat, Int.reduceNeg, Int.reduceAdd, Int.reduceSub, Int.reduceMul, Int.reducePow, Nat.reducePow, Int.reduceBEq, m2, hx, f3]
        refine loop_next (5 - 3) (by omega) ⟨3, rfl, by omega, fun _ => q1 (by omega), fun _ => q2 (by omega), by simp, by omega, by omega, ?_, by rw [m3], rfl⟩
        simp (maxDischargeDepth := 9) -implicitDefEqProofs only [push_cast, reduceIte, Nat.reduceEqDiff, Nat.reduceAdd, Nat.reduceSub, Nat.reduceMul, Nat.reduceDiv, Nat.reduceMod, Nat.reduceLT, Nat.reduceLeDiff, Nat.reduceBEq, Nat.reduceBNe, reduceCtorEq, Int.reduceEq, Int.reduceNe, Int.reduceLT, Int.reduceLE, Int.reduceToNat, Int.reduceNeg, Int.reduceAdd, Int.reduceSub, Int.reduceMul, Int.reducePow, Nat.reducePow, Int.reduceBEq]; try rfl
      · rw [q1 (by omega)]; rw [q2 (by omega)]; skip
        simp (maxDischargeDepth := 9) -implicitDefEqProofs only [push_cast, reduceIte, Nat.reduceEqDiff, Nat.reduceAdd, Nat.reduceSub, Nat.reduceMul, Nat.reduceDiv, Nat.reduceMod, Nat.reduceLT, Nat.reduceLeDiff, Nat.reduceBEq, Nat.reduceBNe, reduceCtorEq, Int.reduceEq, Int.reduceNe, Int.reduceLT, Int.reduceLE, Int.reduceToNat, Int.reduceNeg, Int.reduceAdd, Int.reduceSub, Int.reduceMul, Int.reducePow, Nat.reducePow, Int.reduceBEq, m2, hx, f3]
        exact quiet_i
    · cases hb : b4 <;> rw [hb] at f4
      · simp (maxDischargeDepth := 9) -implicitDefEqProofs only [push_cast, reduceIte, Nat.reduceEqDiff, Nat.reduceAdd, Nat.reduceSub, Nat.reduceMul, Nat.reduceDiv, Nat.reduceMod, Nat.reduceLT, Nat.reduceLeDiff, Nat.reduceBEq, Nat.reduceBNe, reduceCtorEq, Int.reduceEq, Int.reduceNe, Int.reduceLT, Int.reduceLE, Int.reduceToNat, Int.reduceNeg, Int.reduceAdd, Int.reduceSub, Int.reduceMul, Int.reducePow, Nat.reducePow, Int.reduceBEq, m3, hx, f4]
        refine loop_next (5 - 4) (by omega) ⟨4, rfl, by omega, fun _ => q1 (by omega), fun _ => q2 (by omega), fun _ => q3 (by omega), by simp, by omega, ?_, by rw [m4], rfl⟩
        simp (maxDischargeDepth := 9) -implicitDefEqProofs only [push_cast, reduceIte, Nat.reduceEqDiff, Nat.reduceAdd, Nat.reduceSub, Nat.reduceMul, Nat.reduceDiv, Nat.reduceMod, Nat.reduceLT, Nat.reduceLeDiff, Nat.reduceBEq, Nat.reduceBNe, reduceCtorEq, Int.reduceEq, Int.reduceNe, Int.reduceLT, Int.reduceLE, Int.reduceToNat, Int.reduceNeg, Int.reduceAdd, Int.reduceSub, Int.reduceMul, Int.reducePow, Nat.reducePow, Int.reduceBEq]; try rfl
      · rw [q1 (by omega)]; rw [q2 (by omega)]; rw [q3 (by omega)]; skip
        simp (maxDischargeDepth := 9) -implicitDefEqProofs only [push_cast, reduceIte, Nat.reduceEqDiff, Nat.reduceAdd, Nat.reduceSub, Nat.reduceMul, Nat.reduceDiv, Nat.reduceMod, Nat.reduceLT, Nat.reduceLeDiff, Nat.reduceBEq, Nat.reduceBNe, reduceCtorEq, Int.reduceEq, Int.reduceNe, Int.reduceLT, Int.reduceLE, Int.reduceToNat, Int.reduceNeg, Int.reduceAdd, Int.reduceSub, Int.reduceMul, Int.reducePow, Nat.reducePow, Int.reduceBEq, m3, hx, f4]
        exact quiet_i
    · cases hb : b5 <;> rw [hb] at f5
      · simp (maxDischargeDepth := 9) -implicitDefEqProofs only [push_cast, reduceIte, Nat.reduceEqDiff, Nat.reduceAdd, Nat.reduceSub, Nat.reduceMul, Nat.reduceDiv, Nat.reduceMod, Nat.reduceLT, Nat.reduceLeDiff, Nat.reduceBEq, Nat.reduceBNe, reduceCtorEq, Int.reduceEq, Int.reduceNe, Int.reduceLT, Int.reduceLE, Int.reduceToNat, Int.reduceNeg, Int.reduceAdd, Int.reduceSub, Int.reduceMul, Int.reducePow, Nat.reducePow, Int.reduceBEq, m4, hx, f5]
        refine loop_next (5 - 5) (by omega) ⟨5, rfl, by omega, fun _ => q1 (by omega), fun _ => q2 (by omega), fun _ => q3 (by omega), fun _ => q4 (by omega), by simp, ?_, by rw [m5], rfl⟩
        simp (maxDischargeDepth := 9) -implicitDefEqProofs only [push_cast, reduceIte, Nat.reduceEqDiff, Nat.reduceAdd, Nat.reduceSub, Nat.reduceMul, Nat.reduceDiv, Nat.reduceMod, Nat.reduceLT, Nat.reduceLeDiff, Nat.reduceBEq, Nat.reduceBNe, reduceCtorEq, Int.reduceEq, Int.reduceNe, Int.reduceLT, Int.reduceLE, Int.reduceToNat, Int.reduceNeg, Int.reduceAdd, Int.reduceSub, Int.reduceMul, Int.reducePow, Nat.reducePow, Int.reduceBEq]; try rfl
      · rw [q1 (by omega)]; rw [q2 (by omega)]; rw [q3 (by omega)]; rw [q4 (by omega)]; skip
        simp (maxDischargeDepth := 9) -implicitDefEqProofs only [push_cast, reduceIte, Nat.reduceEqDiff, Nat.reduceAdd, Nat.reduceSub, Nat.reduceMul, Nat.reduceDiv, Nat.reduceMod, Nat.reduceLT, Nat.reduceLeDiff, Nat.reduceBEq, Nat.reduceBNe, reduceCtorEq, Int.reduceEq, Int.reduceNe, Int.reduceLT, Int.reduceLE, Int.reduceToNat, Int.reduceNeg, Int.reduceAdd, Int.reduceSub, Int.reduceMul, Int.reducePow, Nat.reducePow, Int.reduceBEq, m4, hx, f5]
        exact quiet_i
    · rw [q1 (by omega), q2 (by omega), q3 (by omega), q4 (by omega), q5 (by omega)]
      simp (maxDischargeDepth := 9) -implicitDefEqProofs only [push_cast, reduceIte, Nat.reduceEqDiff, Nat.reduceAdd, Nat.reduceSub, Nat.reduceMul, Nat.reduceDiv, Nat.reduceMod, Nat.reduceLT, Nat.reduceLeDiff, Nat.reduceBEq, Nat.reduceBNe, reduceCtorEq, Int.reduceEq, Int.reduceNe, Int.reduceLT, Int.reduceLE, Int.reduceToNat, Int.reduceNeg, Int.reduceAdd, Int.reduceSub, Int.reduceMul, Int.reducePow, Nat.reducePow, Int.reduceBEq, m5]
      exact quiet_i
theorem test_c {p0 p1 p2 p3 p4 p5 p6 p7 p8 p9 p10 p11 p12 p15 p16 : Int} {x : AV} {s : Bool} (hx : x.isCell = true) (a0 : 0 ≤ p6) (a1 : p6 < 4294967296) (b0 : 0 ≤ p7) (b1 : p7 < 4294967296) {h : AHeap} (hg : Good h) (ha : At0 h) :
    W CS 26 [.agg [.int .u8 p0, .int .u8 p1, .int .u8 p2, .int .u8 p3, .int .i8 p4, .int .i8 p5, .int .u32 p6, .int .u32 p7, .int .u32 p8, .int .u64 p9, .int .u64 p10, .int .u64 p11, .int .u64 p12, x, .bool s, .int .u32 p15, .int .u64 p16]] h = some (.int .i64 (testV (!decide (p2 = 4)) (decide (p3 = 0)) (decide (p0 = 3) || decide (15 < p3)) (decide (p11 = 0) || decide (p12 = 0)) (decide (16000000000 < rhoV p6 p7))), h, []) :=
  W_both (m := M26) At0 (fun _ => rfl) rfl rfl rfl good_glS at0_gl (fun g hg ha => test_body hx g hg ha (fun h hg => test1_c hx hg) (fun h hg => test2_c hx hg) (fun h hg => test3_c hx hg) (fun h hg => test4_c hx hg) (fun h hg => test5_c hx a0 a1 b0 b1 hg)) hg ha
end Go.Proofs.YtdbdmnhnijpdcaaDoorW.AI.C
