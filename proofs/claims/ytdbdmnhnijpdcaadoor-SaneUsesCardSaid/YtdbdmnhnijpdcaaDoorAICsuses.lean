import Derived.Test.YtdbdmnhnijpdcaaDoorAICsane4
import Derived.Test.YtdbdmnhnijpdcaaDoorAICsfar
namespace Go.Proofs.YtdbdmnhnijpdcaaDoorW.AI.C
open Go Go.Proofs.YtdbdmnhnijpdcaaDoorW.AI Go.RowKit
set_option maxRecDepth 100000
set_option linter.unusedVariables false
set_option linter.unusedSimpArgs false
theorem testV_zero {b1 b2 b3 b4 b5 : Bool} (h : testV b1 b2 b3 b4 b5 = 0) : b1 = false ∧ b2 = false ∧ b3 = false ∧ b4 = false ∧ b5 = false := by
  revert h; cases b1 <;> cases b2 <;> cases b3 <;> cases b4 <;> cases b5 <;> simp [testV]
theorem testV_23 {b1 b2 b3 b4 b5 : Bool} (h : testV b1 b2 b3 b4 b5 = 23) : b2 = true := by
  revert h; cases b1 <;> cases b2 <;> cases b3 <;> cases b4 <;> cases b5 <;> simp [testV]
theorem or_one (n : Int) : ¬ abits .or .u64 n 1 = 0 := by
  unfold abits
  simp only
  intro h
  have hb : (BitVec.ofInt 64 n ||| BitVec.ofInt 64 1).toNat < 18446744073709551616 := BitVec.isLt _
  have h2 : IntKind.u64.wrap ((BitVec.ofInt 64 n ||| BitVec.ofInt 64 1).toNat : Int) = ((BitVec.ofInt 64 n ||| BitVec.ofInt 64 1).toNat : Int) := wr_u64 _ (by omega) (by omega)
  have h3 : ((BitVec.ofInt 64 n ||| BitVec.ofInt 64 1).toNat : Int) = 0 := h2.symm.trans h
  simp at h3
set_option maxHeartbeats 16000000 in
theorem uses_body (g : AHeap) (hg : Good g) (ha : At0 g) (p0 p1 p2 p3 p4 p5 p6 p7 p8 p9 p10 p11 p12 : Int) (x : AV) (s : Bool) (p15 p16 o0 o1 o2 o3 o4 o5 o6 o7 o8 o9 o10 o11 o12 : Int) (y : AV) (t : Bool) (o15 o16 : Int) (hx : x.isCell = true) (hy : y.isCell = true)
    (a6 : 0 ≤ p6) (b6 : p6 < 4294967296) (a7 : 0 ≤ p7) (b7 : p7 < 4294967296) (a8 : 0 ≤ p8) (b8 : p8 < 4294967296) :
    Wp (xbody (W CS) M6 [.agg [.int .u8 p0, .int .u8 p1, .int .u8 p2, .int .u8 p3, .int .i8 p4, .int .i8 p5, .int .u32 p6, .int .u32 p7, .int .u32 p8, .int .u64 p9, .int .u64 p10, .int .u64 p11, .int .u64 p12, x, .bool s, .int .u32 p15, .int .u64 p16], .agg [.int .u8 o0, .int .u8 o1, .int .u8 o2, .int .u8 o3, .int .i8 o4, .int .i8 o5, .int .u32 o6, .int .u32 o7, .int .u32 o8, .int .u64 o9, .int .u64 o10, .int .u64 o11, .int .u64 o12, y, .bool t, .int .u32 o15, .int .u64 o16]] g) fun r => r.1 = .bool true := by
  have hG := fun js (hj : js.all notOld = true) => good_app (js := ⟨.tip false, .vals [.int .u8 p0, .int .u8 p1, .int .u8 p2, .int .u8 p3, .int .i8 p4, .int .i8 p5, .int .u32 p6, .int .u32 p7, .int .u32 p8, .int .u64 p9, .int .u64 p10, .int .u64 p11, .int .u64 p12, x, .bool s, .int .u32 p15, .int .u64 p16]⟩ :: ⟨.tip false, .vals [.int .u8 o0, .int .u8 o1, .int .u8 o2, .int .u8 o3, .int .i8 o4, .int .i8 o5, .int .u32 o6, .int .u32 o7, .int .u32 o8, .int .u64 o9, .int .u64 o10, .int .u64 o11, .int .u64 o12, y, .bool t, .int .u32 o15, .int .u64 o16]⟩ :: js) hg (by simpa [notOld] using hj)
  have hA := fun js => At0.app ha (⟨.tip false, .vals [.int .u8 p0, .int .u8 p1, .int .u8 p2, .int .u8 p3, .int .i8 p4, .int .i8 p5, .int .u32 p6, .int .u32 p7, .int .u32 p8, .int .u64 p9, .int .u64 p10, .int .u64 p11, .int .u64 p12, x, .bool s, .int .u32 p15, .int .u64 p16]⟩ :: ⟨.tip false, .vals [.int .u8 o0, .int .u8 o1, .int .u8 o2, .int .u8 o3, .int .i8 o4, .int .i8 o5, .int .u32 o6, .int .u32 o7, .int .u32 o8, .int .u64 o9, .int .u64 o10, .int .u64 o11, .int .u64 o12, y, .bool t, .int .u32 o15, .int .u64 o16]⟩ :: js)
  have f1 := test_c (p0 := p0) (p1 := p1) (p2 := p2) (p3 := p3) (p4 := p4) (p5 := p5) (p6 := p6) (p7 := p7) (p8 := p8) (p9 := p9) (p10 := p10) (p11 := p11) (p12 := p12) (p15 := p15) (p16 := p16) (s := s) hx a6 b6 a7 b7 (hG [] rfl) (hA _)
  have f2 := kiss_c (p0 := p0) (p1 := p1) (p2 := p2) (p3 := p3) (p4 := p4) (p5 := p5) (p6 := p6) (p7 := p7) (p8 := p8) (p9 := p9) (p10 := p10) (p11 := p11) (p12 := p12) (p15 := p15) (p16 := p16) (s := s) hx a8 b8 (hG [] rfl)
  have f3 := rho_c (p0 := p0) (p1 := p1) (p2 := p2) (p3 := p3) (p4 := p4) (p5 := p5) (p6 := p6) (p7 := p7) (p8 := p8) (p9 := p9) (p10 := p10) (p11 := p11) (p12 := p12) (p15 := p15) (p16 := p16) (s := s) hx a6 b6 a7 b7 (hG [] rfl)
  have g1 := fun R X => test_c (p0 := p0) (p1 := o1) (p2 := p2) (p3 := p3) (p4 := o4) (p5 := o5) (p6 := p6) (p7 := p7) (p8 := o8) (p9 := o9) (p10 := o10) (p11 := R) (p12 := X) (p15 := o15) (p16 := o16) (s := t) hy a6 b6 a7 b7 (hG [⟨.tip false, .vals [.int .u8 p0, .int .u8 o1, .int .u8 p2, .int .u8 p3, .int .i8 o4, .int .i8 o5, .int .u32 p6, .int .u32 p7, .int .u32 o8, .int .u64 o9, .int .u64 o10, .int .u64 R, .int .u64 X, y, .bool t, .int .u32 o15, .int .u64 o16]⟩] rfl) (hA _)
  have g3 := fun R X => rho_c (p0 := p0) (p1 := o1) (p2 := p2) (p3 := p3) (p4 := o4) (p5 := o5) (p6 := p6) (p7 := p7) (p8 := o8) (p9 := o9) (p10 := o10) (p11 := R) (p12 := X) (p15 := o15) (p16 := o16) (s := t) hy a6 b6 a7 b7 (hG [⟨.tip false, .vals [.int .u8 p0, .int .u8 o1, .int .u8 p2, .int .u8 p3, .int .i8 o4, .int .i8 o5, .int .u32 p6, .int .u32 p7, .int .u32 o8, .int .u64 o9, .int .u64 o10, .int .u64 R, .int .u64 X, y, .bool t, .int .u32 o15, .int .u64 o16]⟩] rfl)
  have aw := fun h => law08_alive h
  have r0 : 0 ≤ rhoV p6 p7 := by unfold rhoV sN; omega
  have z1 : testV (!decide (p2 = 4)) (decide (p3 = 0)) (decide (p0 = 3) || decide (15 < p3)) (decide (p11 = 0) || decide (p12 = 0)) (decide (16000000000 < rhoV p6 p7)) = 0 → p2 = 4 ∧ ¬ p3 = 0 ∧ ¬ p0 = 3 ∧ ¬ 15 < p3 ∧ ¬ p11 = 0 ∧ ¬ p12 = 0 ∧ ¬ 16000000000 < rhoV p6 p7 := by
    intro h
    obtain ⟨c1, c2, c3, c4, c5⟩ := testV_zero h
    simp only [Bool.not_eq_false', decide_eq_true_eq, decide_eq_false_iff_not, Bool.or_eq_false_iff] at c1 c2 c3 c4 c5
    exact ⟨c1, c2, c3.1, c3.2, c4.1, c4.2, c5⟩
  have z2 : testV (!decide (p2 = 4)) (decide (p3 = 0)) (decide (p0 = 3) || decide (15 < p3)) (decide (p11 = 0) || decide (p12 = 0)) (decide (16000000000 < rhoV p6 p7)) = 23 → p3 = 0 := fun h => by simpa using testV_23 h
  have gA : ∀ R X : Int, (R = 0 ↔ p11 = 0) → (X = 0 ↔ p12 = 0) → testV (!decide (p2 = 4)) (decide (p3 = 0)) (decide (p0 = 3) || decide (15 < p3)) (decide (R = 0) || decide (X = 0)) (decide (16000000000 < rhoV p6 p7)) = testV (!decide (p2 = 4)) (decide (p3 = 0)) (decide (p0 = 3) || decide (15 < p3)) (decide (p11 = 0) || decide (p12 = 0)) (decide (16000000000 < rhoV p6 p7)) := by
    intro R X h1 h2
    rw [decide_eq_decide.2 h1, decide_eq_decide.2 h2]
  obtain ⟨E, hE⟩ : ∃ E, testV (!decide (p2 = 4)) (decide (p3 = 0)) (decide (p0 = 3) || decide (15 < p3)) (decide (p11 = 0) || decide (p12 = 0)) (decide (16000000000 < rhoV p6 p7)) = E := ⟨_, rfl⟩
  rw [hE] at f1 z1 z2
  rw [hE] at gA
  obtain ⟨ρ, hρ⟩ : ∃ z, rhoV p6 p7 = z := ⟨_, rfl⟩
  rw [hρ] at f3 z1 r0
  have r0' : ¬ ρ < 0 := by omega
  obtain ⟨R1, hR1⟩ : ∃ z, abits .or .u64 o11 1 = z := ⟨_, rfl⟩
  obtain ⟨X1, hX1⟩ : ∃ z, abits .or .u64 o12 1 = z := ⟨_, rfl⟩
  have nR : ¬ R1 = 0 := by rw [← hR1]; exact or_one _
  have nX : ¬ X1 = 0 := by rw [← hX1]; exact or_one _
  have q1 : ∃ R : Int, (R = 0 ↔ p11 = 0) ∧ ((p11 = 0 ∧ R = 0) ∨ (¬ p11 = 0 ∧ R = R1)) := by
    by_cases c : p11 = 0
    · exact ⟨0, by simp [c], Or.inl ⟨c, rfl⟩⟩
    · exact ⟨R1, by simp [c, nR], Or.inr ⟨c, rfl⟩⟩
  have q2 : ∃ X : Int, (X = 0 ↔ p12 = 0) ∧ ((p12 = 0 ∧ X = 0) ∨ (¬ p12 = 0 ∧ X = X1)) := by
    by_cases c : p12 = 0
    · exact ⟨0, by simp [c], Or.inl ⟨c, rfl⟩⟩
    · exact ⟨X1, by simp [c, nX], Or.inr ⟨c, rfl⟩⟩
  obtain ⟨R, hR, cR⟩ := q1
  obtain ⟨X, hX, cX⟩ := q2
  have k1 := g1 R X
  have k3 := g3 R X
  rw [gA R X hR hX] at k1
  rw [hρ] at k3
  clear g1 g3 gA
  by_cases c3 : p3 = 0
  · have nE : ¬ E = 0 := fun h => (z1 h).2.1 c3
    rw [if_pos c3] at f2
    subst c3
    have hl := codeV_len p8
    rcases List.eq_nil_or_concat (codeV p8) with hc | ⟨m, v, hc⟩
    · rw [hc] at f2
      by_cases c23 : E = 23
      · subst c23
        simp (maxDischargeDepth := 9) -implicitDefEqProofs only [push_cast, reduceIte, Nat.reduceEqDiff, Nat.reduceAdd, Nat.reduceSub, Nat.reduceMul, Nat.reduceDiv, Nat.reduceMod, Nat.reduceLT, Nat.reduceLeDiff, Nat.reduceBEq, Nat.reduceBNe, reduceCtorEq, Int.reduceEq, Int.reduceNe, Int.reduceLT, Int.reduceLE, Int.reduceToNat, Int.reduceNeg, Int.reduceAdd, Int.reduceSub, Int.reduceMul, Int.reducePow, Nat.reducePow, Int.reduceBEq, M6, nadd1, nadd2, nadd3, nadd4, nadd5, nadd6, nadd7, nadd8, nadd9, nadd10, nadd11, nadd12, hx, hy, f1, f2, f3, r0', sb_size, List.length_nil, hR1, hX1]
        rcases cR with ⟨rfl, rfl⟩ | ⟨d1, rfl⟩ <;> rcases cX with ⟨rfl, rfl⟩ | ⟨d3, rfl⟩
        · simp (maxDischargeDepth := 9) -implicitDefEqProofs only [push_cast, reduceIte, Nat.reduceEqDiff, Nat.reduceAdd, Nat.reduceSub, Nat.reduceMul, Nat.reduceDiv, Nat.reduceMod, Nat.reduceLT, Nat.reduceLeDiff, Nat.reduceBEq, Nat.reduceBNe, reduceCtorEq, Int.reduceEq, Int.reduceNe, Int.reduceLT, Int.reduceLE, Int.reduceToNat, Int.reduceNeg, Int.reduceAdd, Int.reduceSub, Int.reduceMul, Int.reducePow, Nat.reducePow, Int.reduceBEq, nadd1, nadd2, nadd3, nadd4, nadd5, nadd6, nadd7, nadd8, nadd9, nadd10, nadd11, nadd12, hy, k1, k3, aw]
        · simp (maxDischargeDepth := 9) -implicitDefEqProofs only [push_cast, reduceIte, Nat.reduceEqDiff, Nat.reduceAdd, Nat.reduceSub, Nat.reduceMul, Nat.reduceDiv, Nat.reduceMod, Nat.reduceLT, Nat.reduceLeDiff, Nat.reduceBEq, Nat.reduceBNe, reduceCtorEq, Int.reduceEq, Int.reduceNe, Int.reduceLT, Int.reduceLE, Int.reduceToNat, Int.reduceNeg, Int.reduceAdd, Int.reduceSub, Int.reduceMul, Int.reducePow, Nat.reducePow, Int.reduceBEq, nadd1, nadd2, nadd3, nadd4, nadd5, nadd6, nadd7, nadd8, nadd9, nadd10, nadd11, nadd12, hy, k1, k3, aw, d3]
        · simp (maxDischargeDepth := 9) -implicitDefEqProofs only [push_cast, reduceIte, Nat.reduceEqDiff, Nat.reduceAdd, Nat.reduceSub, Nat.reduceMul, Nat.reduceDiv, Nat.reduceMod, Nat.reduceLT, Nat.reduceLeDiff, Nat.reduceBEq, Nat.reduceBNe, reduceCtorEq, Int.reduceEq, Int.reduceNe, Int.reduceLT, Int.reduceLE, Int.reduceToNat, Int.reduceNeg, Int.reduceAdd, Int.reduceSub, Int.reduceMul, Int.reducePow, Nat.reducePow, Int.reduceBEq, nadd1, nadd2, nadd3, nadd4, nadd5, nadd6, nadd7, nadd8, nadd9, nadd10, nadd11, nadd12, hy, k1, k3, aw, d1]
        · simp (maxDischargeDepth := 9) -implicitDefEqProofs only [push_cast, reduceIte, Nat.reduceEqDiff, Nat.reduceAdd, Nat.reduceSub, Nat.reduceMul, Nat.reduceDiv, Nat.reduceMod, Nat.reduceLT, Nat.reduceLeDiff, Nat.reduceBEq, Nat.reduceBNe, reduceCtorEq, Int.reduceEq, Int.reduceNe, Int.reduceLT, Int.reduceLE, Int.reduceToNat, Int.reduceNeg, Int.reduceAdd, Int.reduceSub, Int.reduceMul, Int.reducePow, Nat.reducePow, Int.reduceBEq, nadd1, nadd2, nadd3, nadd4, nadd5, nadd6, nadd7, nadd8, nadd9, nadd10, nadd11, nadd12, hy, k1, k3, aw, d1, d3]
      · skip
        simp (maxDischargeDepth := 9) -implicitDefEqProofs only [push_cast, reduceIte, Nat.reduceEqDiff, Nat.reduceAdd, Nat.reduceSub, Nat.reduceMul, Nat.reduceDiv, Nat.reduceMod, Nat.reduceLT, Nat.reduceLeDiff, Nat.reduceBEq, Nat.reduceBNe, reduceCtorEq, Int.reduceEq, Int.reduceNe, Int.reduceLT, Int.reduceLE, Int.reduceToNat, Int.reduceNeg, Int.reduceAdd, Int.reduceSub, Int.reduceMul, Int.reducePow, Nat.reducePow, Int.reduceBEq, M6, nadd1, nadd2, nadd3, nadd4, nadd5, nadd6, nadd7, nadd8, nadd9, nadd10, nadd11, nadd12, hx, hy, f1, f2, f3, r0', nE, c23, sb_size, List.length_nil, hR1, hX1]
        rcases cR with ⟨rfl, rfl⟩ | ⟨d1, rfl⟩ <;> rcases cX with ⟨rfl, rfl⟩ | ⟨d3, rfl⟩
        · simp (maxDischargeDepth := 9) -implicitDefEqProofs only [push_cast, reduceIte, Nat.reduceEqDiff, Nat.reduceAdd, Nat.reduceSub, Nat.reduceMul, Nat.reduceDiv, Nat.reduceMod, Nat.reduceLT, Nat.reduceLeDiff, Nat.reduceBEq, Nat.reduceBNe, reduceCtorEq, Int.reduceEq, Int.reduceNe, Int.reduceLT, Int.reduceLE, Int.reduceToNat, Int.reduceNeg, Int.reduceAdd, Int.reduceSub, Int.reduceMul, Int.reducePow, Nat.reducePow, Int.reduceBEq, nadd1, nadd2, nadd3, nadd4, nadd5, nadd6, nadd7, nadd8, nadd9, nadd10, nadd11, nadd12, hy, k1, k3, aw]
        · simp (maxDischargeDepth := 9) -implicitDefEqProofs only [push_cast, reduceIte, Nat.reduceEqDiff, Nat.reduceAdd, Nat.reduceSub, Nat.reduceMul, Nat.reduceDiv, Nat.reduceMod, Nat.reduceLT, Nat.reduceLeDiff, Nat.reduceBEq, Nat.reduceBNe, reduceCtorEq, Int.reduceEq, Int.reduceNe, Int.reduceLT, Int.reduceLE, Int.reduceToNat, Int.reduceNeg, Int.reduceAdd, Int.reduceSub, Int.reduceMul, Int.reducePow, Nat.reducePow, Int.reduceBEq, nadd1, nadd2, nadd3, nadd4, nadd5, nadd6, nadd7, nadd8, nadd9, nadd10, nadd11, nadd12, hy, k1, k3, aw, d3]
        · simp (maxDischargeDepth := 9) -implicitDefEqProofs only [push_cast, reduceIte, Nat.reduceEqDiff, Nat.reduceAdd, Nat.reduceSub, Nat.reduceMul, Nat.reduceDiv, Nat.reduceMod, Nat.reduceLT, Nat.reduceLeDiff, Nat.reduceBEq, Nat.reduceBNe, reduceCtorEq, Int.reduceEq, Int.reduceNe, Int.reduceLT, Int.reduceLE, Int.reduceToNat, Int.reduceNeg, Int.reduceAdd, Int.reduceSub, Int.reduceMul, Int.reducePow, Nat.reducePow, Int.reduceBEq, nadd1, nadd2, nadd3, nadd4, nadd5, nadd6, nadd7, nadd8, nadd9, nadd10, nadd11, nadd12, hy, k1, k3, aw, d1]
        · simp (maxDischargeDepth := 9) -implicitDefEqProofs only [push_cast, reduceIte, Nat.reduceEqDiff, Nat.reduceAdd, Nat.reduceSub, Nat.reduceMul, Nat.reduceDiv, Nat.reduceMod, Nat.reduceLT, Nat.reduceLeDiff, Nat.reduceBEq, Nat.reduceBNe, reduceCtorEq, Int.reduceEq, Int.reduceNe, Int.reduceLT, Int.reduceLE, Int.reduceToNat, Int.reduceNeg, Int.reduceAdd, Int.reduceSub, Int.reduceMul, Int.reducePow, Nat.reducePow, Int.reduceBEq, nadd1, nadd2, nadd3, nadd4, nadd5, nadd6, nadd7, nadd8, nadd9, nadd10, nadd11, nadd12, hy, k1, k3, aw, d1, d3]
    · rw [List.concat_eq_append] at hc
      have hv := trimz_last (codeL p8) hc
      rw [hc] at f2 hl
      obtain ⟨n, hn⟩ : ∃ n, m.length = n := ⟨_, rfl⟩
      have hs : (sb (m ++ [v])).size = n + 1 := by rw [sb_size]; simp [hn]
      have hn4 : n ≤ 3 := by simp only [List.length_append, List.length_cons, List.length_nil] at hl; omega
      have w1 : IntKind.i64.wrap ((n : Int) + 1 - 1) = (n : Int) := by rw [wr_i64 _ (by omega) (by omega)]; omega
      have g0 : (0 : Int) < (n : Int) + 1 := by omega
      have g4 : ¬ (4 : Int) < (n : Int) + 1 := by omega
      have hxv : (m ++ [v])[n]? = some v := by rw [List.getElem?_append_right (by omega)]; simp [hn]
      have z : ¬ ((v.toNat : Nat) : Int) = 0 := fun e => hv (u8_zero.1 e)
      by_cases c23 : E = 23
      · subst c23
        simp (maxDischargeDepth := 9) -implicitDefEqProofs only [push_cast, reduceIte, Nat.reduceEqDiff, Nat.reduceAdd, Nat.reduceSub, Nat.reduceMul, Nat.reduceDiv, Nat.reduceMod, Nat.reduceLT, Nat.reduceLeDiff, Nat.reduceBEq, Nat.reduceBNe, reduceCtorEq, Int.reduceEq, Int.reduceNe, Int.reduceLT, Int.reduceLE, Int.reduceToNat, Int.reduceNeg, Int.reduceAdd, Int.reduceSub, Int.reduceMul, Int.reducePow, Nat.reducePow, Int.reduceBEq, M6, nadd1, nadd2, nadd3, nadd4, nadd5, nadd6, nadd7, nadd8, nadd9, nadd10, nadd11, nadd12, hx, hy, f1, f2, f3, r0', hs, w1, g0, g4, sb_list, hxv, z, hR1, hX1]
        rcases cR with ⟨rfl, rfl⟩ | ⟨d1, rfl⟩ <;> rcases cX with ⟨rfl, rfl⟩ | ⟨d3, rfl⟩
        · simp (maxDischargeDepth := 9) -implicitDefEqProofs only [push_cast, reduceIte, Nat.reduceEqDiff, Nat.reduceAdd, Nat.reduceSub, Nat.reduceMul, Nat.reduceDiv, Nat.reduceMod, Nat.reduceLT, Nat.reduceLeDiff, Nat.reduceBEq, Nat.reduceBNe, reduceCtorEq, Int.reduceEq, Int.reduceNe, Int.reduceLT, Int.reduceLE, Int.reduceToNat, Int.reduceNeg, Int.reduceAdd, Int.reduceSub, Int.reduceMul, Int.reducePow, Nat.reducePow, Int.reduceBEq, nadd1, nadd2, nadd3, nadd4, nadd5, nadd6, nadd7, nadd8, nadd9, nadd10, nadd11, nadd12, hy, k1, k3, aw]
        · simp (maxDischargeDepth := 9) -implicitDefEqProofs only [push_cast, reduceIte, Nat.reduceEqDiff, Nat.reduceAdd, Nat.reduceSub, Nat.reduceMul, Nat.reduceDiv, Nat.reduceMod, Nat.reduceLT, Nat.reduceLeDiff, Nat.reduceBEq, Nat.reduceBNe, reduceCtorEq, Int.reduceEq, Int.reduceNe, Int.reduceLT, Int.reduceLE, Int.reduceToNat, Int.reduceNeg, Int.reduceAdd, Int.reduceSub, Int.reduceMul, Int.reducePow, Nat.reducePow, Int.reduceBEq, nadd1, nadd2, nadd3, nadd4, nadd5, nadd6, nadd7, nadd8, nadd9, nadd10, nadd11, nadd12, hy, k1, k3, aw, d3]
        · simp (maxDischargeDepth := 9) -implicitDefEqProofs only [push_cast, reduceIte, Nat.reduceEqDiff, Nat.reduceAdd, Nat.reduceSub, Nat.reduceMul, Nat.reduceDiv, Nat.reduceMod, Nat.reduceLT, Nat.reduceLeDiff, Nat.reduceBEq, Nat.reduceBNe, reduceCtorEq, Int.reduceEq, Int.reduceNe, Int.reduceLT, Int.reduceLE, Int.reduceToNat, Int.reduceNeg, Int.reduceAdd, Int.reduceSub, Int.reduceMul, Int.reducePow, Nat.reducePow, Int.reduceBEq, nadd1, nadd2, nadd3, nadd4, nadd5, nadd6, nadd7, nadd8, nadd9, nadd10, nadd11, nadd12, hy, k1, k3, aw, d1]
        · simp (maxDischargeDepth := 9) -implicitDefEqProofs only [push_cast, reduceIte, Nat.reduceEqDiff, Nat.reduceAdd, Nat.reduceSub, Nat.reduceMul, Nat.reduceDiv, Nat.reduceMod, Nat.reduceLT, Nat.reduceLeDiff, Nat.reduceBEq, Nat.reduceBNe, reduceCtorEq, Int.reduceEq, Int.reduceNe, Int.reduceLT, Int.reduceLE, Int.reduceToNat, Int.reduceNeg, Int.reduceAdd, Int.reduceSub, Int.reduceMul, Int.reducePow, Nat.reducePow, Int.reduceBEq, nadd1, nadd2, nadd3, nadd4, nadd5, nadd6, nadd7, nadd8, nadd9, nadd10, nadd11, nadd12, hy, k1, k3, aw, d1, d3]
      · skip
        simp (maxDischargeDepth := 9) -implicitDefEqProofs only [push_cast, reduceIte, Nat.reduceEqDiff, Nat.reduceAdd, Nat.reduceSub, Nat.reduceMul, Nat.reduceDiv, Nat.reduceMod, Nat.reduceLT, Nat.reduceLeDiff, Nat.reduceBEq, Nat.reduceBNe, reduceCtorEq, Int.reduceEq, Int.reduceNe, Int.reduceLT, Int.reduceLE, Int.reduceToNat, Int.reduceNeg, Int.reduceAdd, Int.reduceSub, Int.reduceMul, Int.reducePow, Nat.reducePow, Int.reduceBEq, M6, nadd1, nadd2, nadd3, nadd4, nadd5, nadd6, nadd7, nadd8, nadd9, nadd10, nadd11, nadd12, hx, hy, f1, f2, f3, r0', nE, c23, hs, w1, g0, g4, sb_list, hxv, z, hR1, hX1]
        rcases cR with ⟨rfl, rfl⟩ | ⟨d1, rfl⟩ <;> rcases cX with ⟨rfl, rfl⟩ | ⟨d3, rfl⟩
        · simp (maxDischargeDepth := 9) -implicitDefEqProofs only [push_cast, reduceIte, Nat.reduceEqDiff, Nat.reduceAdd, Nat.reduceSub, Nat.reduceMul, Nat.reduceDiv, Nat.reduceMod, Nat.reduceLT, Nat.reduceLeDiff, Nat.reduceBEq, Nat.reduceBNe, reduceCtorEq, Int.reduceEq, Int.reduceNe, Int.reduceLT, Int.reduceLE, Int.reduceToNat, Int.reduceNeg, Int.reduceAdd, Int.reduceSub, Int.reduceMul, Int.reducePow, Nat.reducePow, Int.reduceBEq, nadd1, nadd2, nadd3, nadd4, nadd5, nadd6, nadd7, nadd8, nadd9, nadd10, nadd11, nadd12, hy, k1, k3, aw]
        · simp (maxDischargeDepth := 9) -implicitDefEqProofs only [push_cast, reduceIte, Nat.reduceEqDiff, Nat.reduceAdd, Nat.reduceSub, Nat.reduceMul, Nat.reduceDiv, Nat.reduceMod, Nat.reduceLT, Nat.reduceLeDiff, Nat.reduceBEq, Nat.reduceBNe, reduceCtorEq, Int.reduceEq, Int.reduceNe, Int.reduceLT, Int.reduceLE, Int.reduceToNat, Int.reduceNeg, Int.reduceAdd, Int.reduceSub, Int.reduceMul, Int.reducePow, Nat.reducePow, Int.reduceBEq, nadd1, nadd2, nadd3, nadd4, nadd5, nadd6, nadd7, nadd8, nadd9, nadd10, nadd11, nadd12, hy, k1, k3, aw, d3]
        · simp (maxDischargeDepth := 9) -implicitDefEqProofs only [push_cast, reduceIte, Nat.reduceEqDiff, Nat.reduceAdd, Nat.reduceSub, Nat.reduceMul, Nat.reduceDiv, Nat.reduceMod, Nat.reduceLT, Nat.reduceLeDiff, Nat.reduceBEq, Nat.reduceBNe, reduceCtorEq, Int.reduceEq, Int.reduceNe, Int.reduceLT, Int.reduceLE, Int.reduceToNat, Int.reduceNeg, Int.reduceAdd, Int.reduceSub, Int.reduceMul, Int.reducePow, Nat.reducePow, Int.reduceBEq, nadd1, nadd2, nadd3, nadd4, nadd5, nadd6, nadd7, nadd8, nadd9, nadd10, nadd11, nadd12, hy, k1, k3, aw, d1]
        · simp (maxDischargeDepth := 9) -implicitDefEqProofs only [push_cast, reduceIte, Nat.reduceEqDiff, Nat.reduceAdd, Nat.reduceSub, Nat.reduceMul, Nat.reduceDiv, Nat.reduceMod, Nat.reduceLT, Nat.reduceLeDiff, Nat.reduceBEq, Nat.reduceBNe, reduceCtorEq, Int.reduceEq, Int.reduceNe, Int.reduceLT, Int.reduceLE, Int.reduceToNat, Int.reduceNeg, Int.reduceAdd, Int.reduceSub, Int.reduceMul, Int.reducePow, Nat.reducePow, Int.reduceBEq, nadd1, nadd2, nadd3, nadd4, nadd5, nadd6, nadd7, nadd8, nadd9, nadd10, nadd11, nadd12, hy, k1, k3, aw, d1, d3]
  · rw [if_neg c3] at f2
    have n23 : ¬ E = 23 := fun h => c3 (z2 h)
    by_cases cE : E = 0
    · obtain ⟨i1, i2, i3, i4, i5, i6, i7⟩ := z1 cE
      rcases cR with ⟨d1, d2⟩ | ⟨d1, d2⟩
      · exact absurd d1 i5
      rcases cX with ⟨d3, d4⟩ | ⟨d3, d4⟩
      · exact absurd d3 i6
      subst d2 d4
      subst i1
      subst cE
      simp (maxDischargeDepth := 9) -implicitDefEqProofs only [push_cast, reduceIte, Nat.reduceEqDiff, Nat.reduceAdd, Nat.reduceSub, Nat.reduceMul, Nat.reduceDiv, Nat.reduceMod, Nat.reduceLT, Nat.reduceLeDiff, Nat.reduceBEq, Nat.reduceBNe, reduceCtorEq, Int.reduceEq, Int.reduceNe, Int.reduceLT, Int.reduceLE, Int.reduceToNat, Int.reduceNeg, Int.reduceAdd, Int.reduceSub, Int.reduceMul, Int.reducePow, Nat.reducePow, Int.reduceBEq, M6, nadd1, nadd2, nadd3, nadd4, nadd5, nadd6, nadd7, nadd8, nadd9, nadd10, nadd11, nadd12, hx, hy, f1, f2, f3, k1, k3, aw, r0', c3, i3, i4, i7, hR1, hX1, d1, d3, sb_size, List.length_nil]
    · skip
      simp (maxDischargeDepth := 9) -implicitDefEqProofs only [push_cast, reduceIte, Nat.reduceEqDiff, Nat.reduceAdd, Nat.reduceSub, Nat.reduceMul, Nat.reduceDiv, Nat.reduceMod, Nat.reduceLT, Nat.reduceLeDiff, Nat.reduceBEq, Nat.reduceBNe, reduceCtorEq, Int.reduceEq, Int.reduceNe, Int.reduceLT, Int.reduceLE, Int.reduceToNat, Int.reduceNeg, Int.reduceAdd, Int.reduceSub, Int.reduceMul, Int.reducePow, Nat.reducePow, Int.reduceBEq, M6, nadd1, nadd2, nadd3, nadd4, nadd5, nadd6, nadd7, nadd8, nadd9, nadd10, nadd11, nadd12, hx, hy, f1, f2, f3, r0', c3, cE, n23, sb_size, List.length_nil, hR1, hX1]
      rcases cR with ⟨rfl, rfl⟩ | ⟨d1, rfl⟩ <;> rcases cX with ⟨rfl, rfl⟩ | ⟨d3, rfl⟩
      · simp (maxDischargeDepth := 9) -implicitDefEqProofs only [push_cast, reduceIte, Nat.reduceEqDiff, Nat.reduceAdd, Nat.reduceSub, Nat.reduceMul, Nat.reduceDiv, Nat.reduceMod, Nat.reduceLT, Nat.reduceLeDiff, Nat.reduceBEq, Nat.reduceBNe, reduceCtorEq, Int.reduceEq, Int.reduceNe, Int.reduceLT, Int.reduceLE, Int.reduceToNat, Int.reduceNeg, Int.reduceAdd, Int.reduceSub, Int.reduceMul, Int.reducePow, Nat.reducePow, Int.reduceBEq, nadd1, nadd2, nadd3, nadd4, nadd5, nadd6, nadd7, nadd8, nadd9, nadd10, nadd11, nadd12, hy, k1, k3, aw]
      · simp (maxDischargeDepth := 9) -implicitDefEqProofs only [push_cast, reduceIte, Nat.reduceEqDiff, Nat.reduceAdd, Nat.reduceSub, Nat.reduceMul, Nat.reduceDiv, Nat.reduceMod, Nat.reduceLT, Nat.reduceLeDiff, Nat.reduceBEq, Nat.reduceBNe, reduceCtorEq, Int.reduceEq, Int.reduceNe, Int.reduceLT, Int.reduceLE, Int.reduceToNat, Int.reduceNeg, Int.reduceAdd, Int.reduceSub, Int.reduceMul, Int.reducePow, Nat.reducePow, Int.reduceBEq, nadd1, nadd2, nadd3, nadd4, nadd5, nadd6, nadd7, nadd8, nadd9, nadd10, nadd11, nadd12, hy, k1, k3, aw, d3]
      · simp (maxDischargeDepth := 9) -implicitDefEqProofs only [push_cast, reduceIte, Nat.reduceEqDiff, Nat.reduceAdd, Nat.reduceSub, Nat.reduceMul, Nat.reduceDiv, Nat.reduceMod, Nat.reduceLT, Nat.reduceLeDiff, Nat.reduceBEq, Nat.reduceBNe, reduceCtorEq, Int.reduceEq, Int.reduceNe, Int.reduceLT, Int.reduceLE, Int.reduceToNat, Int.reduceNeg, Int.reduceAdd, Int.reduceSub, Int.reduceMul, Int.reducePow, Nat.reducePow, Int.reduceBEq, nadd1, nadd2, nadd3, nadd4, nadd5, nadd6, nadd7, nadd8, nadd9, nadd10, nadd11, nadd12, hy, k1, k3, aw, d1]
      · simp (maxDischargeDepth := 9) -implicitDefEqProofs only [push_cast, reduceIte, Nat.reduceEqDiff, Nat.reduceAdd, Nat.reduceSub, Nat.reduceMul, Nat.reduceDiv, Nat.reduceMod, Nat.reduceLT, Nat.reduceLeDiff, Nat.reduceBEq, Nat.reduceBNe, reduceCtorEq, Int.reduceEq, Int.reduceNe, Int.reduceLT, Int.reduceLE, Int.reduceToNat, Int.reduceNeg, Int.reduceAdd, Int.reduceSub, Int.reduceMul, Int.reducePow, Nat.reducePow, Int.reduceBEq, nadd1, nadd2, nadd3, nadd4, nadd5, nadd6, nadd7, nadd8, nadd9, nadd10, nadd11, nadd12, hy, k1, k3, aw, d1, d3]
theorem uses_all (g : AHeap) (hg : Good g) (ha : At0 g) (n0 : Int) (n1 : Int) (n2 : Int) (n3 : Int) (n4 : Int) (n5 : Int) (n6 : Int) (n7 : Int) (n8 : Int) (n9 : Int) (n10 : Int) (n11 : Int) (n12 : Int) (n13 : AV) (n14 : Bool) (n15 : Int) (n16 : Int) (n17 : Int) (n18 : Int) (n19 : Int) (n20 : Int) (n21 : Int) (n22 : Int) (n23 : Int) (n24 : Int) (n25 : Int) (n26 : Int) (n27 : Int) (n28 : Int) (n29 : Int) (n30 : AV) (n31 : Bool) (n32 : Int) (n33 : Int) (a0 : 0 ≤ n0) (b0 : n0 ≤ 255) (a1 : 0 ≤ n1) (b1 : n1 ≤ 255) (a2 : 0 ≤ n2) (b2 : n2 ≤ 255) (a3 : 0 ≤ n3) (b3 : n3 ≤ 255) (a4 : -128 ≤ n4) (b4 : n4 ≤ 127) (a5 : -128 ≤ n5) (b5 : n5 ≤ 127) (a6 : 0 ≤ n6) (b6 : n6 ≤ 4294967295) (a7 : 0 ≤ n7) (b7 : n7 ≤ 4294967295) (a8 : 0 ≤ n8) (b8 : n8 ≤ 4294967295) (a9 : 0 ≤ n9) (b9 : n9 ≤ 18446744073709551615) (a10 : 0 ≤ n10) (b10 : n10 ≤ 18446744073709551615) (a11 : 0 ≤ n11) (b11 : n11 ≤ 18446744073709551615) (a12 : 0 ≤ n12) (b12 : n12 ≤ 18446744073709551615) (a13 : n13.isCell = true) (a15 : 0 ≤ n15) (b15 : n15 ≤ 4294967295) (a16 : 0 ≤ n16) (b16 : n16 ≤ 18446744073709551615) (a17 : 0 ≤ n17) (b17 : n17 ≤ 255) (a18 : 0 ≤ n18) (b18 : n18 ≤ 255) (a19 : 0 ≤ n19) (b19 : n19 ≤ 255) (a20 : 0 ≤ n20) (b20 : n20 ≤ 255) (a21 : -128 ≤ n21) (b21 : n21 ≤ 127) (a22 : -128 ≤ n22) (b22 : n22 ≤ 127) (a23 : 0 ≤ n23) (b23 : n23 ≤ 4294967295) (a24 : 0 ≤ n24) (b24 : n24 ≤ 4294967295) (a25 : 0 ≤ n25) (b25 : n25 ≤ 4294967295) (a26 : 0 ≤ n26) (b26 : n26 ≤ 18446744073709551615) (a27 : 0 ≤ n27) (b27 : n27 ≤ 18446744073709551615) (a28 : 0 ≤ n28) (b28 : n28 ≤ 18446744073709551615) (a29 : 0 ≤ n29) (b29 : n29 ≤ 18446744073709551615) (a30 : n30.isCell = true) (a32 : 0 ≤ n32) (b32 : n32 ≤ 4294967295) (a33 : 0 ≤ n33) (b33 : n33 ≤ 18446744073709551615) :
    Wp (xbody (W CS) M6 [.agg [.int .u8 n0, .int .u8 n1, .int .u8 n2, .int .u8 n3, .int .i8 n4, .int .i8 n5, .int .u32 n6, .int .u32 n7, .int .u32 n8, .int .u64 n9, .int .u64 n10, .int .u64 n11, .int .u64 n12, n13, .bool n14, .int .u32 n15, .int .u64 n16], .agg [.int .u8 n17, .int .u8 n18, .int .u8 n19, .int .u8 n20, .int .i8 n21, .int .i8 n22, .int .u32 n23, .int .u32 n24, .int .u32 n25, .int .u64 n26, .int .u64 n27, .int .u64 n28, .int .u64 n29, n30, .bool n31, .int .u32 n32, .int .u64 n33]] g) fun r => r.1 = .bool true := uses_body g hg ha n0 n1 n2 n3 n4 n5 n6 n7 n8 n9 n10 n11 n12 n13 n14 n15 n16 n17 n18 n19 n20 n21 n22 n23 n24 n25 n26 n27 n28 n29 n30 n31 n32 n33 a13 a30 a6 (by omega) a7 (by omega) a8 (by omega)
theorem uses_law (js : AHeap) (avs : List AV) (hx : Ext js) (ht : TyA (CS.gl ++ js) [.agg [.i .u8, .i .u8, .i .u8, .i .u8, .i .i8, .i .i8, .i .u32, .i .u32, .i .u32, .i .u64, .i .u64, .i .u64, .i .u64, .sl [.i .u16, .sl [.i .u8]], .b, .i .u32, .i .u64], .agg [.i .u8, .i .u8, .i .u8, .i .u8, .i .i8, .i .i8, .i .u32, .i .u32, .i .u32, .i .u64, .i .u64, .i .u64, .i .u64, .sl [.i .u16, .sl [.i .u8]], .b, .i .u32, .i .u64]] avs) : ∃ h' ws, W CS 6 avs (CS.gl ++ js) = some (.bool true, h', ws) := by
  simp only [TyA] at ht
  obtain ⟨cs0, _, rfl, k0, cs1, _, rfl, k1, rfl⟩ := ht
  simp only [TyL, Ty] at k0 k1
  obtain ⟨_, _, rfl, ⟨n0, rfl, a0, b0⟩, _, _, rfl, ⟨n1, rfl, a1, b1⟩, _, _, rfl, ⟨n2, rfl, a2, b2⟩, _, _, rfl, ⟨n3, rfl, a3, b3⟩, _, _, rfl, ⟨n4, rfl, a4, b4⟩, _, _, rfl, ⟨n5, rfl, a5, b5⟩, _, _, rfl, ⟨n6, rfl, a6, b6⟩, _, _, rfl, ⟨n7, rfl, a7, b7⟩, _, _, rfl, ⟨n8, rfl, a8, b8⟩, _, _, rfl, ⟨n9, rfl, a9, b9⟩, _, _, rfl, ⟨n10, rfl, a10, b10⟩, _, _, rfl, ⟨n11, rfl, a11, b11⟩, _, _, rfl, ⟨n12, rfl, a12, b12⟩, n13, _, rfl, y13, _, _, rfl, ⟨n14, rfl⟩, _, _, rfl, ⟨n15, rfl, a15, b15⟩, _, _, rfl, ⟨n16, rfl, a16, b16⟩, rfl⟩ := k0
  obtain ⟨_, _, rfl, ⟨n17, rfl, a17, b17⟩, _, _, rfl, ⟨n18, rfl, a18, b18⟩, _, _, rfl, ⟨n19, rfl, a19, b19⟩, _, _, rfl, ⟨n20, rfl, a20, b20⟩, _, _, rfl, ⟨n21, rfl, a21, b21⟩, _, _, rfl, ⟨n22, rfl, a22, b22⟩, _, _, rfl, ⟨n23, rfl, a23, b23⟩, _, _, rfl, ⟨n24, rfl, a24, b24⟩, _, _, rfl, ⟨n25, rfl, a25, b25⟩, _, _, rfl, ⟨n26, rfl, a26, b26⟩, _, _, rfl, ⟨n27, rfl, a27, b27⟩, _, _, rfl, ⟨n28, rfl, a28, b28⟩, _, _, rfl, ⟨n29, rfl, a29, b29⟩, n30, _, rfl, y30, _, _, rfl, ⟨n31, rfl⟩, _, _, rfl, ⟨n32, rfl, a32, b32⟩, _, _, rfl, ⟨n33, rfl, a33, b33⟩, rfl⟩ := k1
  have a0' : 0 ≤ n0 := a0
  have b0' : n0 ≤ 255 := b0
  have a1' : 0 ≤ n1 := a1
  have b1' : n1 ≤ 255 := b1
  have a2' : 0 ≤ n2 := a2
  have b2' : n2 ≤ 255 := b2
  have a3' : 0 ≤ n3 := a3
  have b3' : n3 ≤ 255 := b3
  have a4' : -128 ≤ n4 := a4
  have b4' : n4 ≤ 127 := b4
  have a5' : -128 ≤ n5 := a5
  have b5' : n5 ≤ 127 := b5
  have a6' : 0 ≤ n6 := a6
  have b6' : n6 ≤ 4294967295 := b6
  have a7' : 0 ≤ n7 := a7
  have b7' : n7 ≤ 4294967295 := b7
  have a8' : 0 ≤ n8 := a8
  have b8' : n8 ≤ 4294967295 := b8
  have a9' : 0 ≤ n9 := a9
  have b9' : n9 ≤ 18446744073709551615 := b9
  have a10' : 0 ≤ n10 := a10
  have b10' : n10 ≤ 18446744073709551615 := b10
  have a11' : 0 ≤ n11 := a11
  have b11' : n11 ≤ 18446744073709551615 := b11
  have a12' : 0 ≤ n12 := a12
  have b12' : n12 ≤ 18446744073709551615 := b12
  have a13 : Ty (CS.gl ++ js) (.sl [.i .u16, .sl [.i .u8]]) n13 := by simp only [Ty]; exact y13
  have a15' : 0 ≤ n15 := a15
  have b15' : n15 ≤ 4294967295 := b15
  have a16' : 0 ≤ n16 := a16
  have b16' : n16 ≤ 18446744073709551615 := b16
  have a17' : 0 ≤ n17 := a17
  have b17' : n17 ≤ 255 := b17
  have a18' : 0 ≤ n18 := a18
  have b18' : n18 ≤ 255 := b18
  have a19' : 0 ≤ n19 := a19
  have b19' : n19 ≤ 255 := b19
  have a20' : 0 ≤ n20 := a20
  have b20' : n20 ≤ 255 := b20
  have a21' : -128 ≤ n21 := a21
  have b21' : n21 ≤ 127 := b21
  have a22' : -128 ≤ n22 := a22
  have b22' : n22 ≤ 127 := b22
  have a23' : 0 ≤ n23 := a23
  have b23' : n23 ≤ 4294967295 := b23
  have a24' : 0 ≤ n24 := a24
  have b24' : n24 ≤ 4294967295 := b24
  have a25' : 0 ≤ n25 := a25
  have b25' : n25 ≤ 4294967295 := b25
  have a26' : 0 ≤ n26 := a26
  have b26' : n26 ≤ 18446744073709551615 := b26
  have a27' : 0 ≤ n27 := a27
  have b27' : n27 ≤ 18446744073709551615 := b27
  have a28' : 0 ≤ n28 := a28
  have b28' : n28 ≤ 18446744073709551615 := b28
  have a29' : 0 ≤ n29 := a29
  have b29' : n29 ≤ 18446744073709551615 := b29
  have a30 : Ty (CS.gl ++ js) (.sl [.i .u16, .sl [.i .u8]]) n30 := by simp only [Ty]; exact y30
  have a32' : 0 ≤ n32 := a32
  have b32' : n32 ≤ 4294967295 := b32
  have a33' : 0 ≤ n33 := a33
  have b33' : n33 ≤ 18446744073709551615 := b33
  exact W_law (m := M6) (fun _ => rfl) rfl (uses_all _ (good_ext hx) (At0_ext hx) n0 n1 n2 n3 n4 n5 n6 n7 n8 n9 n10 n11 n12 n13 n14 n15 n16 n17 n18 n19 n20 n21 n22 n23 n24 n25 n26 n27 n28 n29 n30 n31 n32 n33 a0' b0' a1' b1' a2' b2' a3' b3' a4' b4' a5' b5' a6' b6' a7' b7' a8' b8' a9' b9' a10' b10' a11' b11' a12' b12' (Ty_cell a13) a15' b15' a16' b16' a17' b17' a18' b18' a19' b19' a20' b20' a21' b21' a22' b22' a23' b23' a24' b24' a25' b25' a26' b26' a27' b27' a28' b28' a29' b29' (Ty_cell a30) a32' b32' a33' b33') fun _ => uses_all _ good_gl At0_gl n0 n1 n2 n3 n4 n5 n6 n7 n8 n9 n10 n11 n12 n13 n14 n15 n16 n17 n18 n19 n20 n21 n22 n23 n24 n25 n26 n27 n28 n29 n30 n31 n32 n33 a0' b0' a1' b1' a2' b2' a3' b3' a4' b4' a5' b5' a6' b6' a7' b7' a8' b8' a9' b9' a10' b10' a11' b11' a12' b12' (Ty_cell a13) a15' b15' a16' b16' a17' b17' a18' b18' a19' b19' a20' b20' a21' b21' a22' b22' a23' b23' a24' b24' a25' b25' a26' b26' a27' b27' a28' b28' a29' b29' (Ty_cell a30) a32' b32' a33' b33'
theorem uses_kinds : aksOf X.P 20 [29, 29] = some [.agg [.i .u8, .i .u8, .i .u8, .i .u8, .i .i8, .i .i8, .i .u32, .i .u32, .i .u32, .i .u64, .i .u64, .i .u64, .i .u64, .sl [.i .u16, .sl [.i .u8]], .b, .i .u32, .i .u64], .agg [.i .u8, .i .u8, .i .u8, .i .u8, .i .i8, .i .i8, .i .u32, .i .u32, .i .u32, .i .u64, .i .u64, .i .u64, .i .u64, .sl [.i .u16, .sl [.i .u8]], .b, .i .u32, .i .u64]] := by kernel_rfl
end Go.Proofs.YtdbdmnhnijpdcaaDoorW.AI.C
