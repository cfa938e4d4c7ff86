import Derived.Test.YtdbdmnhnijpdcaaDoorAICsane4
namespace Go.Proofs.YtdbdmnhnijpdcaaDoorW.AI.C
open Go Go.Proofs.YtdbdmnhnijpdcaaDoorW.AI
set_option maxRecDepth 100000
set_option linter.unusedVariables false
set_option linter.unusedSimpArgs false
theorem refShort_c {u : Int} (u0 : 0 ≤ u) (u1 : u < 4294967296) (h : AHeap) : W CS 55 [.int .u32 u] h = some (.int .i64 (sN u), h, []) := by
  have w0 : IntKind.i64.wrap u = u := wr_i64 _ (by omega) (by omega)
  have w1 : IntKind.i64.wrap (u * 1000000000) = u * 1000000000 := wr_i64 _ (by omega) (by omega)
  obtain ⟨q, hq⟩ : ∃ q, u * 1000000000 / 65536 = q := ⟨_, rfl⟩
  obtain ⟨r, hr⟩ : ∃ r, u * 1000000000 % 65536 = r := ⟨_, rfl⟩
  have d1 : (u * 1000000000).tdiv 65536 = q := by rw [Int.tdiv_eq_ediv_of_nonneg (by omega)]; exact hq
  have d2 : (u * 1000000000).tmod 65536 = r := by rw [Int.tmod_eq_emod_of_nonneg (by omega)]; exact hr
  have w2 : IntKind.i64.wrap q = q := wr_i64 _ (by omega) (by omega)
  have w3 : IntKind.i64.wrap (q + 1) = q + 1 := wr_i64 _ (by omega) (by omega)
  have w4 : IntKind.i64.wrap r = r := wr_i64 _ (by omega) (by omega)
  refine W_val (m := M55) (fun _ => rfl) rfl rfl rfl ?_ h
  by_cases c : 0 < r
  · have e : sN u = q + 1 := by unfold sN; omega
    simp (maxDischargeDepth := 9) -implicitDefEqProofs only [push_cast, reduceIte, Nat.reduceEqDiff, Nat.reduceAdd, Nat.reduceSub, Nat.reduceMul, Nat.reduceDiv, Nat.reduceMod, Nat.reduceLT, Nat.reduceLeDiff, Nat.reduceBEq, Nat.reduceBNe, reduceCtorEq, Int.reduceEq, Int.reduceNe, Int.reduceLT, Int.reduceLE, Int.reduceToNat, Int.reduceNeg, Int.reduceAdd, Int.reduceSub, Int.reduceMul, Int.reducePow, Nat.reducePow, Int.reduceBEq, M55, w0, w1, d1, d2, w2, w3, w4, c]
    rw [e]
  · have e : sN u = q := by unfold sN; omega
    simp (maxDischargeDepth := 9) -implicitDefEqProofs only [push_cast, reduceIte, Nat.reduceEqDiff, Nat.reduceAdd, Nat.reduceSub, Nat.reduceMul, Nat.reduceDiv, Nat.reduceMod, Nat.reduceLT, Nat.reduceLeDiff, Nat.reduceBEq, Nat.reduceBNe, reduceCtorEq, Int.reduceEq, Int.reduceNe, Int.reduceLT, Int.reduceLE, Int.reduceToNat, Int.reduceNeg, Int.reduceAdd, Int.reduceSub, Int.reduceMul, Int.reducePow, Nat.reducePow, Int.reduceBEq, M55, w0, w1, d1, d2, w2, w3, w4, c]
    rw [e]
theorem refRho_c {p0 p1 p2 p3 p4 p5 p6 p7 p8 p9 p10 p11 p12 p15 p16 : Int} {x : AV} {s : Bool} (hx : x.isCell = true) (a0 : 0 ≤ p6) (a1 : p6 < 4294967296) (b0 : 0 ≤ p7) (b1 : p7 < 4294967296) {h : AHeap} (hg : Good h) :
    W CS 25 [.agg [.int .u8 p0, .int .u8 p1, .int .u8 p2, .int .u8 p3, .int .i8 p4, .int .i8 p5, .int .u32 p6, .int .u32 p7, .int .u32 p8, .int .u64 p9, .int .u64 p10, .int .u64 p11, .int .u64 p12, x, .bool s, .int .u32 p15, .int .u64 p16]] h = some (.int .i64 (rhoV p6 p7), h, []) := by
  have e1 := fun h => refShort_c a0 a1 h
  have e2 := fun h => refShort_c b0 b1 h
  have r1 : 0 ≤ sN p6 ∧ sN p6 < 70000000000000 := by unfold sN; omega
  have r2 : 0 ≤ sN p7 ∧ sN p7 < 70000000000000 := by unfold sN; omega
  unfold rhoV
  obtain ⟨A, hA⟩ : ∃ A, sN p6 = A := ⟨_, rfl⟩
  obtain ⟨B, hB⟩ : ∃ B, sN p7 = B := ⟨_, rfl⟩
  rw [hA] at e1 r1 ⊢
  rw [hB] at e2 r2 ⊢
  obtain ⟨q, hq⟩ : ∃ q, A / 2 = q := ⟨_, rfl⟩
  obtain ⟨r, hr⟩ : ∃ r, A % 2 = r := ⟨_, rfl⟩
  have d1 : A.tdiv 2 = q := by rw [Int.tdiv_eq_ediv_of_nonneg (by omega)]; exact hq
  have d2 : A.tmod 2 = r := by rw [Int.tmod_eq_emod_of_nonneg (by omega)]; exact hr
  have w1 : IntKind.i64.wrap q = q := wr_i64 _ (by omega) (by omega)
  have w4 : IntKind.i64.wrap r = r := wr_i64 _ (by omega) (by omega)
  have w2 : IntKind.i64.wrap (q + 1) = q + 1 := wr_i64 _ (by omega) (by omega)
  have w3 : IntKind.i64.wrap (q + B) = q + B := wr_i64 _ (by omega) (by omega)
  have w5 : IntKind.i64.wrap (q + 1 + B) = q + 1 + B := wr_i64 _ (by omega) (by omega)
  refine W_both (m := M25) (fun _ => True) (fun _ => rfl) rfl rfl rfl good_glS trivial (fun g hg _ => ?_) hg trivial
  by_cases c : r = 1
  · have e : (A + 1) / 2 = q + 1 := by omega
    rw [e]
    simp (maxDischargeDepth := 9) -implicitDefEqProofs only [push_cast, reduceIte, Nat.reduceEqDiff, Nat.reduceAdd, Nat.reduceSub, Nat.reduceMul, Nat.reduceDiv, Nat.reduceMod, Nat.reduceLT, Nat.reduceLeDiff, Nat.reduceBEq, Nat.reduceBNe, reduceCtorEq, Int.reduceEq, Int.reduceNe, Int.reduceLT, Int.reduceLE, Int.reduceToNat, Int.reduceNeg, Int.reduceAdd, Int.reduceSub, Int.reduceMul, Int.reducePow, Nat.reducePow, Int.reduceBEq, M25, hx, e1, e2, w1, w2, w3, w4, w5, d1, d2, c]
    exact quiet_i
  · have e : (A + 1) / 2 = q := by omega
    rw [e]
    simp (maxDischargeDepth := 9) -implicitDefEqProofs only [push_cast, reduceIte, Nat.reduceEqDiff, Nat.reduceAdd, Nat.reduceSub, Nat.reduceMul, Nat.reduceDiv, Nat.reduceMod, Nat.reduceLT, Nat.reduceLeDiff, Nat.reduceBEq, Nat.reduceBNe, reduceCtorEq, Int.reduceEq, Int.reduceNe, Int.reduceLT, Int.reduceLE, Int.reduceToNat, Int.reduceNeg, Int.reduceAdd, Int.reduceSub, Int.reduceMul, Int.reducePow, Nat.reducePow, Int.reduceBEq, M25, hx, e1, e2, w1, w2, w3, w4, w5, d1, d2, c]
    exact quiet_i
theorem refTest_c {p0 p1 p2 p3 p4 p5 p6 p7 p8 p9 p10 p11 p12 p15 p16 : Int} {x : AV} {s : Bool} (hx : x.isCell = true) (a0 : 0 ≤ p6) (a1 : p6 < 4294967296) (b0 : 0 ≤ p7) (b1 : p7 < 4294967296) {h : AHeap} (hg : Good h) :
    W CS 27 [.agg [.int .u8 p0, .int .u8 p1, .int .u8 p2, .int .u8 p3, .int .i8 p4, .int .i8 p5, .int .u32 p6, .int .u32 p7, .int .u32 p8, .int .u64 p9, .int .u64 p10, .int .u64 p11, .int .u64 p12, x, .bool s, .int .u32 p15, .int .u64 p16]] h = some (.int .i64 (testV (!decide (p2 = 4)) (decide (p3 = 0)) (decide (p0 = 3) || decide (15 < p3)) (decide (p11 = 0) || decide (p12 = 0)) (decide (16000000000 < rhoV p6 p7))), h, []) := by
  refine W_both (m := M27) (fun _ => True) (fun _ => rfl) rfl rfl rfl good_glS trivial (fun g hg _ => ?_) hg trivial
  have er := refRho_c (p0 := p0) (p1 := p1) (p2 := p2) (p3 := p3) (p4 := p4) (p5 := p5) (p6 := p6) (p7 := p7) (p8 := p8) (p9 := p9) (p10 := p10) (p11 := p11) (p12 := p12) (p15 := p15) (p16 := p16) (s := s) hx a0 a1 b0 b1 (good_app (js := [⟨.tip false, .vals [.int .u8 p0, .int .u8 p1, .int .u8 p2, .int .u8 p3, .int .i8 p4, .int .i8 p5, .int .u32 p6, .int .u32 p7, .int .u32 p8, .int .u64 p9, .int .u64 p10, .int .u64 p11, .int .u64 p12, x, .bool s, .int .u32 p15, .int .u64 p16]⟩]) hg rfl)
  obtain ⟨ρ, hρ⟩ : ∃ z, rhoV p6 p7 = z := ⟨_, rfl⟩
  rw [hρ] at er ⊢
  unfold testV
  by_cases c1 : p2 = 4
  · by_cases c2 : p3 = 0
    · simp (maxDischargeDepth := 9) -implicitDefEqProofs only [push_cast, reduceIte, Nat.reduceEqDiff, Nat.reduceAdd, Nat.reduceSub, Nat.reduceMul, Nat.reduceDiv, Nat.reduceMod, Nat.reduceLT, Nat.reduceLeDiff, Nat.reduceBEq, Nat.reduceBNe, reduceCtorEq, Int.reduceEq, Int.reduceNe, Int.reduceLT, Int.reduceLE, Int.reduceToNat, Int.reduceNeg, Int.reduceAdd, Int.reduceSub, Int.reduceMul, Int.reducePow, Nat.reducePow, Int.reduceBEq, M27, hx, c1, c2, decide_true, decide_false, Bool.not_true, Bool.not_false]
      exact quiet_i
    · by_cases c3 : p0 = 3
      · simp (maxDischargeDepth := 9) -implicitDefEqProofs only [push_cast, reduceIte, Nat.reduceEqDiff, Nat.reduceAdd, Nat.reduceSub, Nat.reduceMul, Nat.reduceDiv, Nat.reduceMod, Nat.reduceLT, Nat.reduceLeDiff, Nat.reduceBEq, Nat.reduceBNe, reduceCtorEq, Int.reduceEq, Int.reduceNe, Int.reduceLT, Int.reduceLE, Int.reduceToNat, Int.reduceNeg, Int.reduceAdd, Int.reduceSub, Int.reduceMul, Int.reducePow, Nat.reducePow, Int.reduceBEq, M27, hx, c1, c2, c3, decide_true, decide_false, Bool.not_true, Bool.not_false, Bool.true_or]
        exact quiet_i
      · by_cases c4 : 15 < p3
        · have c4' : 16 ≤ p3 := by omega
          simp (maxDischargeDepth := 9) -implicitDefEqProofs only [push_cast, reduceIte, Nat.reduceEqDiff, Nat.reduceAdd, Nat.reduceSub, Nat.reduceMul, Nat.reduceDiv, Nat.reduceMod, Nat.reduceLT, Nat.reduceLeDiff, Nat.reduceBEq, Nat.reduceBNe, reduceCtorEq, Int.reduceEq, Int.reduceNe, Int.reduceLT, Int.reduceLE, Int.reduceToNat, Int.reduceNeg, Int.reduceAdd, Int.reduceSub, Int.reduceMul, Int.reducePow, Nat.reducePow, Int.reduceBEq, M27, hx, c1, c2, c3, c4, c4', decide_true, decide_false, Bool.not_true, Bool.not_false, Bool.or_true]
          exact quiet_i
        · have c4' : ¬ 16 ≤ p3 := by omega
          by_cases c5 : p11 = 0
          · simp (maxDischargeDepth := 9) -implicitDefEqProofs only [push_cast, reduceIte, Nat.reduceEqDiff, Nat.reduceAdd, Nat.reduceSub, Nat.reduceMul, Nat.reduceDiv, Nat.reduceMod, Nat.reduceLT, Nat.reduceLeDiff, Nat.reduceBEq, Nat.reduceBNe, reduceCtorEq, Int.reduceEq, Int.reduceNe, Int.reduceLT, Int.reduceLE, Int.reduceToNat, Int.reduceNeg, Int.reduceAdd, Int.reduceSub, Int.reduceMul, Int.reducePow, Nat.reducePow, Int.reduceBEq, M27, hx, c1, c2, c3, c4, c4', c5, decide_true, decide_false, Bool.not_true, Bool.not_false, Bool.or_true, Bool.true_or, Bool.or_false, Bool.false_or]
            exact quiet_i
          · by_cases c6 : p12 = 0
            · simp (maxDischargeDepth := 9) -implicitDefEqProofs only [push_cast, reduceIte, Nat.reduceEqDiff, Nat.reduceAdd, Nat.reduceSub, Nat.reduceMul, Nat.reduceDiv, Nat.reduceMod, Nat.reduceLT, Nat.reduceLeDiff, Nat.reduceBEq, Nat.reduceBNe, reduceCtorEq, Int.reduceEq, Int.reduceNe, Int.reduceLT, Int.reduceLE, Int.reduceToNat, Int.reduceNeg, Int.reduceAdd, Int.reduceSub, Int.reduceMul, Int.reducePow, Nat.reducePow, Int.reduceBEq, M27, hx, c1, c2, c3, c4, c4', c5, c6, decide_true, decide_false, Bool.not_true, Bool.not_false, Bool.or_true, Bool.true_or, Bool.or_false, Bool.false_or]
              exact quiet_i
            · subst c1
              by_cases c7 : 16000000000 < ρ
              all_goals simp (maxDischargeDepth := 9) -implicitDefEqProofs only [push_cast, reduceIte, Nat.reduceEqDiff, Nat.reduceAdd, Nat.reduceSub, Nat.reduceMul, Nat.reduceDiv, Nat.reduceMod, Nat.reduceLT, Nat.reduceLeDiff, Nat.reduceBEq, Nat.reduceBNe, reduceCtorEq, Int.reduceEq, Int.reduceNe, Int.reduceLT, Int.reduceLE, Int.reduceToNat, Int.reduceNeg, Int.reduceAdd, Int.reduceSub, Int.reduceMul, Int.reducePow, Nat.reducePow, Int.reduceBEq, M27, hx, er, c2, c3, c4, c4', c5, c6, c7, decide_true, decide_false, Bool.not_true, Bool.not_false, Bool.or_true, Bool.true_or, Bool.or_false, Bool.false_or]
              all_goals exact quiet_i
  · simp (maxDischargeDepth := 9) -implicitDefEqProofs only [push_cast, reduceIte, Nat.reduceEqDiff, Nat.reduceAdd, Nat.reduceSub, Nat.reduceMul, Nat.reduceDiv, Nat.reduceMod, Nat.reduceLT, Nat.reduceLeDiff, Nat.reduceBEq, Nat.reduceBNe, reduceCtorEq, Int.reduceEq, Int.reduceNe, Int.reduceLT, Int.reduceLE, Int.reduceToNat, Int.reduceNeg, Int.reduceAdd, Int.reduceSub, Int.reduceMul, Int.reducePow, Nat.reducePow, Int.reduceBEq, M27, hx, c1, decide_true, decide_false, Bool.not_true, Bool.not_false]
    exact quiet_i
def actV (l : List UInt8) : Int := if l = [82, 65, 84, 69] then 1 else if l = [68, 69, 78, 89] then 2 else if l = [82, 83, 84, 82] then 2 else 0
theorem sb_rate : (⟨#[82, 65, 84, 69]⟩ : ByteArray) = sb [82, 65, 84, 69] := rfl
theorem sb_deny : (⟨#[68, 69, 78, 89]⟩ : ByteArray) = sb [68, 69, 78, 89] := rfl
theorem sb_rstr : (⟨#[82, 83, 84, 82]⟩ : ByteArray) = sb [82, 83, 84, 82] := rfl
theorem act_c (l : List UInt8) (h : AHeap) : W CS 22 [.str (sb l)] h = some (.int .i64 (actV l), h, []) := by
  refine W_val (m := M22) (fun _ => rfl) rfl rfl rfl ?_ h
  unfold actV
  by_cases c1 : l = [82, 65, 84, 69]
  · have k1 := eq_true c1
    simp (maxDischargeDepth := 9) -implicitDefEqProofs only [push_cast, reduceIte, Nat.reduceEqDiff, Nat.reduceAdd, Nat.reduceSub, Nat.reduceMul, Nat.reduceDiv, Nat.reduceMod, Nat.reduceLT, Nat.reduceLeDiff, Nat.reduceBEq, Nat.reduceBNe, reduceCtorEq, Int.reduceEq, Int.reduceNe, Int.reduceLT, Int.reduceLE, Int.reduceToNat, Int.reduceNeg, Int.reduceAdd, Int.reduceSub, Int.reduceMul, Int.reducePow, Nat.reducePow, Int.reduceBEq, M22, sb_rate, sb_deny, sb_rstr, sb_toList, list_beq, k1, decide_true, decide_false]
  · have k1 := eq_false c1
    by_cases c2 : l = [68, 69, 78, 89]
    · have k2 := eq_true c2
      simp (maxDischargeDepth := 9) -implicitDefEqProofs only [push_cast, reduceIte, Nat.reduceEqDiff, Nat.reduceAdd, Nat.reduceSub, Nat.reduceMul, Nat.reduceDiv, Nat.reduceMod, Nat.reduceLT, Nat.reduceLeDiff, Nat.reduceBEq, Nat.reduceBNe, reduceCtorEq, Int.reduceEq, Int.reduceNe, Int.reduceLT, Int.reduceLE, Int.reduceToNat, Int.reduceNeg, Int.reduceAdd, Int.reduceSub, Int.reduceMul, Int.reducePow, Nat.reducePow, Int.reduceBEq, M22, sb_rate, sb_deny, sb_rstr, sb_toList, list_beq, k1, k2, decide_true, decide_false]
    · have k2 := eq_false c2
      by_cases c3 : l = [82, 83, 84, 82]
      · have k3 := eq_true c3
        simp (maxDischargeDepth := 9) -implicitDefEqProofs only [push_cast, reduceIte, Nat.reduceEqDiff, Nat.reduceAdd, Nat.reduceSub, Nat.reduceMul, Nat.reduceDiv, Nat.reduceMod, Nat.reduceLT, Nat.reduceLeDiff, Nat.reduceBEq, Nat.reduceBNe, reduceCtorEq, Int.reduceEq, Int.reduceNe, Int.reduceLT, Int.reduceLE, Int.reduceToNat, Int.reduceNeg, Int.reduceAdd, Int.reduceSub, Int.reduceMul, Int.reducePow, Nat.reducePow, Int.reduceBEq, M22, sb_rate, sb_deny, sb_rstr, sb_toList, list_beq, k1, k2, k3, decide_true, decide_false]
      · have k3 := eq_false c3
        simp (maxDischargeDepth := 9) -implicitDefEqProofs only [push_cast, reduceIte, Nat.reduceEqDiff, Nat.reduceAdd, Nat.reduceSub, Nat.reduceMul, Nat.reduceDiv, Nat.reduceMod, Nat.reduceLT, Nat.reduceLeDiff, Nat.reduceBEq, Nat.reduceBNe, reduceCtorEq, Int.reduceEq, Int.reduceNe, Int.reduceLT, Int.reduceLE, Int.reduceToNat, Int.reduceNeg, Int.reduceAdd, Int.reduceSub, Int.reduceMul, Int.reducePow, Nat.reducePow, Int.reduceBEq, M22, sb_rate, sb_deny, sb_rstr, sb_toList, list_beq, k1, k2, k3, decide_true, decide_false]
theorem refAct_c (l : List UInt8) (h : AHeap) : W CS 23 [.str (sb l)] h = some (.int .i64 (actV l), h, []) := by
  refine W_val (m := M23) (fun _ => rfl) rfl rfl rfl ?_ h
  unfold actV
  by_cases c1 : l = [82, 65, 84, 69]
  · have k1 := eq_true c1
    simp (maxDischargeDepth := 9) -implicitDefEqProofs only [push_cast, reduceIte, Nat.reduceEqDiff, Nat.reduceAdd, Nat.reduceSub, Nat.reduceMul, Nat.reduceDiv, Nat.reduceMod, Nat.reduceLT, Nat.reduceLeDiff, Nat.reduceBEq, Nat.reduceBNe, reduceCtorEq, Int.reduceEq, Int.reduceNe, Int.reduceLT, Int.reduceLE, Int.reduceToNat, Int.reduceNeg, Int.reduceAdd, Int.reduceSub, Int.reduceMul, Int.reducePow, Nat.reducePow, Int.reduceBEq, M23, sb_rate, sb_deny, sb_rstr, sb_toList, list_beq, k1, decide_true, decide_false]
  · have k1 := eq_false c1
    by_cases c2 : l = [68, 69, 78, 89]
    · have k2 := eq_true c2
      simp (maxDischargeDepth := 9) -implicitDefEqProofs only [push_cast, reduceIte, Nat.reduceEqDiff, Nat.reduceAdd, Nat.reduceSub, Nat.reduceMul, Nat.reduceDiv, Nat.reduceMod, Nat.reduceLT, Nat.reduceLeDiff, Nat.reduceBEq, Nat.reduceBNe, reduceCtorEq, Int.reduceEq, Int.reduceNe, Int.reduceLT, Int.reduceLE, Int.reduceToNat, Int.reduceNeg, Int.reduceAdd, Int.reduceSub, Int.reduceMul, Int.reducePow, Nat.reducePow, Int.reduceBEq, M23, sb_rate, sb_deny, sb_rstr, sb_toList, list_beq, k1, k2, decide_true, decide_false]
    · have k2 := eq_false c2
      by_cases c3 : l = [82, 83, 84, 82]
      · have k3 := eq_true c3
        simp (maxDischargeDepth := 9) -implicitDefEqProofs only [push_cast, reduceIte, Nat.reduceEqDiff, Nat.reduceAdd, Nat.reduceSub, Nat.reduceMul, Nat.reduceDiv, Nat.reduceMod, Nat.reduceLT, Nat.reduceLeDiff, Nat.reduceBEq, Nat.reduceBNe, reduceCtorEq, Int.reduceEq, Int.reduceNe, Int.reduceLT, Int.reduceLE, Int.reduceToNat, Int.reduceNeg, Int.reduceAdd, Int.reduceSub, Int.reduceMul, Int.reducePow, Nat.reducePow, Int.reduceBEq, M23, sb_rate, sb_deny, sb_rstr, sb_toList, list_beq, k1, k2, k3, decide_true, decide_false]
      · have k3 := eq_false c3
        simp (maxDischargeDepth := 9) -implicitDefEqProofs only [push_cast, reduceIte, Nat.reduceEqDiff, Nat.reduceAdd, Nat.reduceSub, Nat.reduceMul, Nat.reduceDiv, Nat.reduceMod, Nat.reduceLT, Nat.reduceLeDiff, Nat.reduceBEq, Nat.reduceBNe, reduceCtorEq, Int.reduceEq, Int.reduceNe, Int.reduceLT, Int.reduceLE, Int.reduceToNat, Int.reduceNeg, Int.reduceAdd, Int.reduceSub, Int.reduceMul, Int.reducePow, Nat.reducePow, Int.reduceBEq, M23, sb_rate, sb_deny, sb_rstr, sb_toList, list_beq, k1, k2, k3, decide_true, decide_false]
end Go.Proofs.YtdbdmnhnijpdcaaDoorW.AI.C
