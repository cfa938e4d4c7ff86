import Derived.Test.YtimlhgpjmjmjhaaAIBsigned
namespace Go.Proofs.YtimlhgpjmjmjhaaW.AI.B
open Go Go.Proofs.YtimlhgpjmjmjhaaW.AI
set_option maxRecDepth 100000
set_option linter.unusedSimpArgs false
set_option linter.unusedVariables false

set_option maxHeartbeats 4000000 in
theorem twos_1 (n z y : Int) (hn : 0 ≤ n ∧ n < 18446744073709551616) (hz : z.tmod 8 = 0) (hy : n / 72057594037927936 = y) : Wp (xbody (W CP) M10 [.int .u64 n, .int .u8 z] []) fun r => r.1 = .bool true := by
  have hz2 : IntKind.i64.wrap 0 = 0 := by decide
  have hz3 : True := trivial
  have b0 : 0 ≤ y := by omega
  have b1 : y < 256 := by omega
  have q1 : -9223372036854775808 ≤ (128 : Int) := by decide
  by_cases c : y < 128
  · have c1 : ¬ 128 ≤ y := by omega
    have c2 : ¬ y < 0 := by omega
    have c3 : IntKind.i64.wrap y = y := wr_i64 _ (by omega) (by omega)
    simp (maxDischargeDepth := 9) -implicitDefEqProofs only [push_cast, reduceIte, Nat.reduceEqDiff, Nat.reduceAdd, Nat.reduceSub, Nat.reduceMul, Nat.reduceDiv, Nat.reduceMod, Nat.reduceLT, Nat.reduceLeDiff, Nat.reduceBEq, Nat.reduceBNe, reduceCtorEq, Int.reduceEq, Int.reduceNe, Int.reduceLT, Int.reduceLE, Int.reduceToNat, Int.reduceNeg, Int.reduceAdd, Int.reduceSub, Int.reduceMul, Int.reducePow, Nat.reducePow, Int.reduceBEq, M10, hz, hz2, hz3, Int.fdiv_eq_ediv_of_nonneg, Int.ediv_one, hy, p43, p48_1_lo, p50_1_lo, p50_1_neg, p50_1_bad, p48_1_bad, b0, b1, c, c1, c2, c3]
  · have c1 : 128 ≤ y := by omega
    have c2 : y - 256 < 0 := by omega
    have c3 : -128 ≤ y - 256 := by omega
    have c5 : y - 256 + 256 = y := by omega

    have c4 : IntKind.i64.wrap y = y := wr_i64 _ (by omega) (by omega)
    have c6 : ¬ y - 256 = y := by omega
    have c7 : IntKind.i64.wrap (y - 256) = y - 256 := wr_i64 _ (by omega) (by omega)
    have c8 : IntKind.u64.wrap (IntKind.i64.wrap (0 - (y - 256))) = 256 - y := by rw [wr_i64 _ (by omega) (by omega), wr_u64 _ (by omega) (by omega)]; omega
    have c9 : IntKind.u64.wrap (256 - y) = 256 - y := wr_u64 _ (by omega) (by omega)
    simp (maxDischargeDepth := 9) -implicitDefEqProofs only [push_cast, reduceIte, Nat.reduceEqDiff, Nat.reduceAdd, Nat.reduceSub, Nat.reduceMul, Nat.reduceDiv, Nat.reduceMod, Nat.reduceLT, Nat.reduceLeDiff, Nat.reduceBEq, Nat.reduceBNe, reduceCtorEq, Int.reduceEq, Int.reduceNe, Int.reduceLT, Int.reduceLE, Int.reduceToNat, Int.reduceNeg, Int.reduceAdd, Int.reduceSub, Int.reduceMul, Int.reducePow, Nat.reducePow, Int.reduceBEq, M10, hz, hz2, hz3, Int.fdiv_eq_ediv_of_nonneg, Int.ediv_one, hy, p43, p48_1_hi, p50_1_lo, p50_1_neg, p50_1_bad, p48_1_bad, b0, b1, c, c1, c2, c3, c4, c5, c6, c7, c8, c9]
set_option maxHeartbeats 4000000 in
theorem twos_2 (n z y : Int) (hn : 0 ≤ n ∧ n < 18446744073709551616) (hz : z.tmod 8 = 1) (hy : n / 281474976710656 = y) : Wp (xbody (W CP) M10 [.int .u64 n, .int .u8 z] []) fun r => r.1 = .bool true := by
  have hz2 : IntKind.i64.wrap 1 = 1 := by decide
  have hz3 : True := trivial
  have b0 : 0 ≤ y := by omega
  have b1 : y < 65536 := by omega
  have q1 : -9223372036854775808 ≤ (32768 : Int) := by decide
  by_cases c : y < 32768
  · have c1 : ¬ 32768 ≤ y := by omega
    have c2 : ¬ y < 0 := by omega
    have c3 : IntKind.i64.wrap y = y := wr_i64 _ (by omega) (by omega)
    simp (maxDischargeDepth := 9) -implicitDefEqProofs only [push_cast, reduceIte, Nat.reduceEqDiff, Nat.reduceAdd, Nat.reduceSub, Nat.reduceMul, Nat.reduceDiv, Nat.reduceMod, Nat.reduceLT, Nat.reduceLeDiff, Nat.reduceBEq, Nat.reduceBNe, reduceCtorEq, Int.reduceEq, Int.reduceNe, Int.reduceLT, Int.reduceLE, Int.reduceToNat, Int.reduceNeg, Int.reduceAdd, Int.reduceSub, Int.reduceMul, Int.reducePow, Nat.reducePow, Int.reduceBEq, M10, hz, hz2, hz3, Int.fdiv_eq_ediv_of_nonneg, Int.ediv_one, hy, p43, p48_2_lo, p50_2_lo, p50_2_neg, p50_2_bad, p48_2_bad, b0, b1, c, c1, c2, c3]
  · have c1 : 32768 ≤ y := by omega
    have c2 : y - 65536 < 0 := by omega
    have c3 : -32768 ≤ y - 65536 := by omega
    have c5 : y - 65536 + 65536 = y := by omega

    have c4 : IntKind.i64.wrap y = y := wr_i64 _ (by omega) (by omega)
    have c6 : ¬ y - 65536 = y := by omega
    have c7 : IntKind.i64.wrap (y - 65536) = y - 65536 := wr_i64 _ (by omega) (by omega)
    have c8 : IntKind.u64.wrap (IntKind.i64.wrap (0 - (y - 65536))) = 65536 - y := by rw [wr_i64 _ (by omega) (by omega), wr_u64 _ (by omega) (by omega)]; omega
    have c9 : IntKind.u64.wrap (65536 - y) = 65536 - y := wr_u64 _ (by omega) (by omega)
    simp (maxDischargeDepth := 9) -implicitDefEqProofs only [push_cast, reduceIte, Nat.reduceEqDiff, Nat.reduceAdd, Nat.reduceSub, Nat.reduceMul, Nat.reduceDiv, Nat.reduceMod, Nat.reduceLT, Nat.reduceLeDiff, Nat.reduceBEq, Nat.reduceBNe, reduceCtorEq, Int.reduceEq, Int.reduceNe, Int.reduceLT, Int.reduceLE, Int.reduceToNat, Int.reduceNeg, Int.reduceAdd, Int.reduceSub, Int.reduceMul, Int.reducePow, Nat.reducePow, Int.reduceBEq, M10, hz, hz2, hz3, Int.fdiv_eq_ediv_of_nonneg, Int.ediv_one, hy, p43, p48_2_hi, p50_2_lo, p50_2_neg, p50_2_bad, p48_2_bad, b0, b1, c, c1, c2, c3, c4, c5, c6, c7, c8, c9]
set_option maxHeartbeats 4000000 in
theorem twos_3 (n z y : Int) (hn : 0 ≤ n ∧ n < 18446744073709551616) (hz : z.tmod 8 = 2) (hy : n / 1099511627776 = y) : Wp (xbody (W CP) M10 [.int .u64 n, .int .u8 z] []) fun r => r.1 = .bool true := by
  have hz2 : IntKind.i64.wrap 2 = 2 := by decide
  have hz3 : True := trivial
  have b0 : 0 ≤ y := by omega
  have b1 : y < 16777216 := by omega
  have q1 : -9223372036854775808 ≤ (8388608 : Int) := by decide
  by_cases c : y < 8388608
  · have c1 : ¬ 8388608 ≤ y := by omega
    have c2 : ¬ y < 0 := by omega
    have c3 : IntKind.i64.wrap y = y := wr_i64 _ (by omega) (by omega)
    simp (maxDischargeDepth := 9) -implicitDefEqProofs only [push_cast, reduceIte, Nat.reduceEqDiff, Nat.reduceAdd, Nat.reduceSub, Nat.reduceMul, Nat.reduceDiv, Nat.reduceMod, Nat.reduceLT, Nat.reduceLeDiff, Nat.reduceBEq, Nat.reduceBNe, reduceCtorEq, Int.reduceEq, Int.reduceNe, Int.reduceLT, Int.reduceLE, Int.reduceToNat, Int.reduceNeg, Int.reduceAdd, Int.reduceSub, Int.reduceMul, Int.reducePow, Nat.reducePow, Int.reduceBEq, M10, hz, hz2, hz3, Int.fdiv_eq_ediv_of_nonneg, Int.ediv_one, hy, p43, p48_3_lo, p50_3_lo, p50_3_neg, p50_3_bad, p48_3_bad, b0, b1, c, c1, c2, c3]
  · have c1 : 8388608 ≤ y := by omega
    have c2 : y - 16777216 < 0 := by omega
    have c3 : -8388608 ≤ y - 16777216 := by omega
    have c5 : y - 16777216 + 16777216 = y := by omega

    have c4 : IntKind.i64.wrap y = y := wr_i64 _ (by omega) (by omega)
    have c6 : ¬ y - 16777216 = y := by omega
    have c7 : IntKind.i64.wrap (y - 16777216) = y - 16777216 := wr_i64 _ (by omega) (by omega)
    have c8 : IntKind.u64.wrap (IntKind.i64.wrap (0 - (y - 16777216))) = 16777216 - y := by rw [wr_i64 _ (by omega) (by omega), wr_u64 _ (by omega) (by omega)]; omega
    have c9 : IntKind.u64.wrap (16777216 - y) = 16777216 - y := wr_u64 _ (by omega) (by omega)
    simp (maxDischargeDepth := 9) -implicitDefEqProofs only [push_cast, reduceIte, Nat.reduceEqDiff, Nat.reduceAdd, Nat.reduceSub, Nat.reduceMul, Nat.reduceDiv, Nat.reduceMod, Nat.reduceLT, Nat.reduceLeDiff, Nat.reduceBEq, Nat.reduceBNe, reduceCtorEq, Int.reduceEq, Int.reduceNe, Int.reduceLT, Int.reduceLE, Int.reduceToNat, Int.reduceNeg, Int.reduceAdd, Int.reduceSub, Int.reduceMul, Int.reducePow, Nat.reducePow, Int.reduceBEq, M10, hz, hz2, hz3, Int.fdiv_eq_ediv_of_nonneg, Int.ediv_one, hy, p43, p48_3_hi, p50_3_lo, p50_3_neg, p50_3_bad, p48_3_bad, b0, b1, c, c1, c2, c3, c4, c5, c6, c7, c8, c9]
set_option maxHeartbeats 4000000 in
theorem twos_4 (n z y : Int) (hn : 0 ≤ n ∧ n < 18446744073709551616) (hz : z.tmod 8 = 3) (hy : n / 4294967296 = y) : Wp (xbody (W CP) M10 [.int .u64 n, .int .u8 z] []) fun r => r.1 = .bool true := by
  have hz2 : IntKind.i64.wrap 3 = 3 := by decide
  have hz3 : True := trivial
  have b0 : 0 ≤ y := by omega
  have b1 : y < 4294967296 := by omega
  have q1 : -9223372036854775808 ≤ (2147483648 : Int) := by decide
  by_cases c : y < 2147483648
  · have c1 : ¬ 2147483648 ≤ y := by omega
    have c2 : ¬ y < 0 := by omega
    have c3 : IntKind.i64.wrap y = y := wr_i64 _ (by omega) (by omega)
    simp (maxDischargeDepth := 9) -implicitDefEqProofs only [push_cast, reduceIte, Nat.reduceEqDiff, Nat.reduceAdd, Nat.reduceSub, Nat.reduceMul, Nat.reduceDiv, Nat.reduceMod, Nat.reduceLT, Nat.reduceLeDiff, Nat.reduceBEq, Nat.reduceBNe, reduceCtorEq, Int.reduceEq, Int.reduceNe, Int.reduceLT, Int.reduceLE, Int.reduceToNat, Int.reduceNeg, Int.reduceAdd, Int.reduceSub, Int.reduceMul, Int.reducePow, Nat.reducePow, Int.reduceBEq, M10, hz, hz2, hz3, Int.fdiv_eq_ediv_of_nonneg, Int.ediv_one, hy, p43, p48_4_lo, p50_4_lo, p50_4_neg, p50_4_bad, p48_4_bad, b0, b1, c, c1, c2, c3]
  · have c1 : 2147483648 ≤ y := by omega
    have c2 : y - 4294967296 < 0 := by omega
    have c3 : -2147483648 ≤ y - 4294967296 := by omega
    have c5 : y - 4294967296 + 4294967296 = y := by omega

    have c4 : IntKind.i64.wrap y = y := wr_i64 _ (by omega) (by omega)
    have c6 : ¬ y - 4294967296 = y := by omega
    have c7 : IntKind.i64.wrap (y - 4294967296) = y - 4294967296 := wr_i64 _ (by omega) (by omega)
    have c8 : IntKind.u64.wrap (IntKind.i64.wrap (0 - (y - 4294967296))) = 4294967296 - y := by rw [wr_i64 _ (by omega) (by omega), wr_u64 _ (by omega) (by omega)]; omega
    have c9 : IntKind.u64.wrap (4294967296 - y) = 4294967296 - y := wr_u64 _ (by omega) (by omega)
    simp (maxDischargeDepth := 9) -implicitDefEqProofs only [push_cast, reduceIte, Nat.reduceEqDiff, Nat.reduceAdd, Nat.reduceSub, Nat.reduceMul, Nat.reduceDiv, Nat.reduceMod, Nat.reduceLT, Nat.reduceLeDiff, Nat.reduceBEq, Nat.reduceBNe, reduceCtorEq, Int.reduceEq, Int.reduceNe, Int.reduceLT, Int.reduceLE, Int.reduceToNat, Int.reduceNeg, Int.reduceAdd, Int.reduceSub, Int.reduceMul, Int.reducePow, Nat.reducePow, Int.reduceBEq, M10, hz, hz2, hz3, Int.fdiv_eq_ediv_of_nonneg, Int.ediv_one, hy, p43, p48_4_hi, p50_4_lo, p50_4_neg, p50_4_bad, p48_4_bad, b0, b1, c, c1, c2, c3, c4, c5, c6, c7, c8, c9]
set_option maxHeartbeats 4000000 in
theorem twos_5 (n z y : Int) (hn : 0 ≤ n ∧ n < 18446744073709551616) (hz : z.tmod 8 = 4) (hy : n / 16777216 = y) : Wp (xbody (W CP) M10 [.int .u64 n, .int .u8 z] []) fun r => r.1 = .bool true := by
  have hz2 : IntKind.i64.wrap 4 = 4 := by decide
  have hz3 : True := trivial
  have b0 : 0 ≤ y := by omega
  have b1 : y < 1099511627776 := by omega
  have q1 : -9223372036854775808 ≤ (549755813888 : Int) := by decide
  by_cases c : y < 549755813888
  · have c1 : ¬ 549755813888 ≤ y := by omega
    have c2 : ¬ y < 0 := by omega
    have c3 : IntKind.i64.wrap y = y := wr_i64 _ (by omega) (by omega)
    simp (maxDischargeDepth := 9) -implicitDefEqProofs only [push_cast, reduceIte, Nat.reduceEqDiff, Nat.reduceAdd, Nat.reduceSub, Nat.reduceMul, Nat.reduceDiv, Nat.reduceMod, Nat.reduceLT, Nat.reduceLeDiff, Nat.reduceBEq, Nat.reduceBNe, reduceCtorEq, Int.reduceEq, Int.reduceNe, Int.reduceLT, Int.reduceLE, Int.reduceToNat, Int.reduceNeg, Int.reduceAdd, Int.reduceSub, Int.reduceMul, Int.reducePow, Nat.reducePow, Int.reduceBEq, M10, hz, hz2, hz3, Int.fdiv_eq_ediv_of_nonneg, Int.ediv_one, hy, p43, p48_5_lo, p50_5_lo, p50_5_neg, p50_5_bad, p48_5_bad, b0, b1, c, c1, c2, c3]
  · have c1 : 549755813888 ≤ y := by omega
    have c2 : y - 1099511627776 < 0 := by omega
    have c3 : -549755813888 ≤ y - 1099511627776 := by omega
    have c5 : y - 1099511627776 + 1099511627776 = y := by omega

    have c4 : IntKind.i64.wrap y = y := wr_i64 _ (by omega) (by omega)
    have c6 : ¬ y - 1099511627776 = y := by omega
    have c7 : IntKind.i64.wrap (y - 1099511627776) = y - 1099511627776 := wr_i64 _ (by omega) (by omega)
    have c8 : IntKind.u64.wrap (IntKind.i64.wrap (0 - (y - 1099511627776))) = 1099511627776 - y := by rw [wr_i64 _ (by omega) (by omega), wr_u64 _ (by omega) (by omega)]; omega
    have c9 : IntKind.u64.wrap (1099511627776 - y) = 1099511627776 - y := wr_u64 _ (by omega) (by omega)
    simp (maxDischargeDepth := 9) -implicitDefEqProofs only [push_cast, reduceIte, Nat.reduceEqDiff, Nat.reduceAdd, Nat.reduceSub, Nat.reduceMul, Nat.reduceDiv, Nat.reduceMod, Nat.reduceLT, Nat.reduceLeDiff, Nat.reduceBEq, Nat.reduceBNe, reduceCtorEq, Int.reduceEq, Int.reduceNe, Int.reduceLT, Int.reduceLE, Int.reduceToNat, Int.reduceNeg, Int.reduceAdd, Int.reduceSub, Int.reduceMul, Int.reducePow, Nat.reducePow, Int.reduceBEq, M10, hz, hz2, hz3, Int.fdiv_eq_ediv_of_nonneg, Int.ediv_one, hy, p43, p48_5_hi, p50_5_lo, p50_5_neg, p50_5_bad, p48_5_bad, b0, b1, c, c1, c2, c3, c4, c5, c6, c7, c8, c9]
set_option maxHeartbeats 4000000 in
theorem twos_6 (n z y : Int) (hn : 0 ≤ n ∧ n < 18446744073709551616) (hz : z.tmod 8 = 5) (hy : n / 65536 = y) : Wp (xbody (W CP) M10 [.int .u64 n, .int .u8 z] []) fun r => r.1 = .bool true := by
  have hz2 : IntKind.i64.wrap 5 = 5 := by decide
  have hz3 : True := trivial
  have b0 : 0 ≤ y := by omega
  have b1 : y < 281474976710656 := by omega
  have q1 : -9223372036854775808 ≤ (140737488355328 : Int) := by decide
  by_cases c : y < 140737488355328
  · have c1 : ¬ 140737488355328 ≤ y := by omega
    have c2 : ¬ y < 0 := by omega
    have c3 : IntKind.i64.wrap y = y := wr_i64 _ (by omega) (by omega)
    simp (maxDischargeDepth := 9) -implicitDefEqProofs only [push_cast, reduceIte, Nat.reduceEqDiff, Nat.reduceAdd, Nat.reduceSub, Nat.reduceMul, Nat.reduceDiv, Nat.reduceMod, Nat.reduceLT, Nat.reduceLeDiff, Nat.reduceBEq, Nat.reduceBNe, reduceCtorEq, Int.reduceEq, Int.reduceNe, Int.reduceLT, Int.reduceLE, Int.reduceToNat, Int.reduceNeg, Int.reduceAdd, Int.reduceSub, Int.reduceMul, Int.reducePow, Nat.reducePow, Int.reduceBEq, M10, hz, hz2, hz3, Int.fdiv_eq_ediv_of_nonneg, Int.ediv_one, hy, p43, p48_6_lo, p50_6_lo, p50_6_neg, p50_6_bad, p48_6_bad, b0, b1, c, c1, c2, c3]
  · have c1 : 140737488355328 ≤ y := by omega
    have c2 : y - 281474976710656 < 0 := by omega
    have c3 : -140737488355328 ≤ y - 281474976710656 := by omega
    have c5 : y - 281474976710656 + 281474976710656 = y := by omega

    have c4 : IntKind.i64.wrap y = y := wr_i64 _ (by omega) (by omega)
    have c6 : ¬ y - 281474976710656 = y := by omega
    have c7 : IntKind.i64.wrap (y - 281474976710656) = y - 281474976710656 := wr_i64 _ (by omega) (by omega)
    have c8 : IntKind.u64.wrap (IntKind.i64.wrap (0 - (y - 281474976710656))) = 281474976710656 - y := by rw [wr_i64 _ (by omega) (by omega), wr_u64 _ (by omega) (by omega)]; omega
    have c9 : IntKind.u64.wrap (281474976710656 - y) = 281474976710656 - y := wr_u64 _ (by omega) (by omega)
    simp (maxDischargeDepth := 9) -implicitDefEqProofs only [push_cast, reduceIte, Nat.reduceEqDiff, Nat.reduceAdd, Nat.reduceSub, Nat.reduceMul, Nat.reduceDiv, Nat.reduceMod, Nat.reduceLT, Nat.reduceLeDiff, Nat.reduceBEq, Nat.reduceBNe, reduceCtorEq, Int.reduceEq, Int.reduceNe, Int.reduceLT, Int.reduceLE, Int.reduceToNat, Int.reduceNeg, Int.reduceAdd, Int.reduceSub, Int.reduceMul, Int.reducePow, Nat.reducePow, Int.reduceBEq, M10, hz, hz2, hz3, Int.fdiv_eq_ediv_of_nonneg, Int.ediv_one, hy, p43, p48_6_hi, p50_6_lo, p50_6_neg, p50_6_bad, p48_6_bad, b0, b1, c, c1, c2, c3, c4, c5, c6, c7, c8, c9]
set_option maxHeartbeats 4000000 in
theorem twos_7 (n z y : Int) (hn : 0 ≤ n ∧ n < 18446744073709551616) (hz : z.tmod 8 = 6) (hy : n / 256 = y) : Wp (xbody (W CP) M10 [.int .u64 n, .int .u8 z] []) fun r => r.1 = .bool true := by
  have hz2 : IntKind.i64.wrap 6 = 6 := by decide
  have hz3 : True := trivial
  have b0 : 0 ≤ y := by omega
  have b1 : y < 72057594037927936 := by omega
  have q1 : -9223372036854775808 ≤ (36028797018963968 : Int) := by decide
  by_cases c : y < 36028797018963968
  · have c1 : ¬ 36028797018963968 ≤ y := by omega
    have c2 : ¬ y < 0 := by omega
    have c3 : IntKind.i64.wrap y = y := wr_i64 _ (by omega) (by omega)
    simp (maxDischargeDepth := 9) -implicitDefEqProofs only [push_cast, reduceIte, Nat.reduceEqDiff, Nat.reduceAdd, Nat.reduceSub, Nat.reduceMul, Nat.reduceDiv, Nat.reduceMod, Nat.reduceLT, Nat.reduceLeDiff, Nat.reduceBEq, Nat.reduceBNe, reduceCtorEq, Int.reduceEq, Int.reduceNe, Int.reduceLT, Int.reduceLE, Int.reduceToNat, Int.reduceNeg, Int.reduceAdd, Int.reduceSub, Int.reduceMul, Int.reducePow, Nat.reducePow, Int.reduceBEq, M10, hz, hz2, hz3, Int.fdiv_eq_ediv_of_nonneg, Int.ediv_one, hy, p43, p48_7_lo, p50_7_lo, p50_7_neg, p50_7_bad, p48_7_bad, b0, b1, c, c1, c2, c3]
  · have c1 : 36028797018963968 ≤ y := by omega
    have c2 : y - 72057594037927936 < 0 := by omega
    have c3 : -36028797018963968 ≤ y - 72057594037927936 := by omega
    have c5 : y - 72057594037927936 + 72057594037927936 = y := by omega

    have c4 : IntKind.i64.wrap y = y := wr_i64 _ (by omega) (by omega)
    have c6 : ¬ y - 72057594037927936 = y := by omega
    have c7 : IntKind.i64.wrap (y - 72057594037927936) = y - 72057594037927936 := wr_i64 _ (by omega) (by omega)
    have c8 : IntKind.u64.wrap (IntKind.i64.wrap (0 - (y - 72057594037927936))) = 72057594037927936 - y := by rw [wr_i64 _ (by omega) (by omega), wr_u64 _ (by omega) (by omega)]; omega
    have c9 : IntKind.u64.wrap (72057594037927936 - y) = 72057594037927936 - y := wr_u64 _ (by omega) (by omega)
    simp (maxDischargeDepth := 9) -implicitDefEqProofs only [push_cast, reduceIte, Nat.reduceEqDiff, Nat.reduceAdd, Nat.reduceSub, Nat.reduceMul, Nat.reduceDiv, Nat.reduceMod, Nat.reduceLT, Nat.reduceLeDiff, Nat.reduceBEq, Nat.reduceBNe, reduceCtorEq, Int.reduceEq, Int.reduceNe, Int.reduceLT, Int.reduceLE, Int.reduceToNat, Int.reduceNeg, Int.reduceAdd, Int.reduceSub, Int.reduceMul, Int.reducePow, Nat.reducePow, Int.reduceBEq, M10, hz, hz2, hz3, Int.fdiv_eq_ediv_of_nonneg, Int.ediv_one, hy, p43, p48_7_hi, p50_7_lo, p50_7_neg, p50_7_bad, p48_7_bad, b0, b1, c, c1, c2, c3, c4, c5, c6, c7, c8, c9]
set_option maxHeartbeats 4000000 in
theorem twos_8 (n z y : Int) (hn : 0 ≤ n ∧ n < 18446744073709551616) (hz : z.tmod 8 = 7) (hy : n / 1 = y) : Wp (xbody (W CP) M10 [.int .u64 n, .int .u8 z] []) fun r => r.1 = .bool true := by
  have hz2 : IntKind.i64.wrap 7 = 7 := by decide
  have hz3 : True := trivial
  have b0 : 0 ≤ y := by omega
  have b1 : y < 18446744073709551616 := by omega
  have q1 : -9223372036854775808 ≤ (9223372036854775808 : Int) := by decide
  by_cases c : y < 9223372036854775808
  · have c1 : ¬ 9223372036854775808 ≤ y := by omega
    have c2 : ¬ y < 0 := by omega
    have c3 : IntKind.i64.wrap y = y := wr_i64 _ (by omega) (by omega)
    simp (maxDischargeDepth := 9) -implicitDefEqProofs only [push_cast, reduceIte, Nat.reduceEqDiff, Nat.reduceAdd, Nat.reduceSub, Nat.reduceMul, Nat.reduceDiv, Nat.reduceMod, Nat.reduceLT, Nat.reduceLeDiff, Nat.reduceBEq, Nat.reduceBNe, reduceCtorEq, Int.reduceEq, Int.reduceNe, Int.reduceLT, Int.reduceLE, Int.reduceToNat, Int.reduceNeg, Int.reduceAdd, Int.reduceSub, Int.reduceMul, Int.reducePow, Nat.reducePow, Int.reduceBEq, M10, hz, hz2, hz3, Int.fdiv_eq_ediv_of_nonneg, Int.ediv_one, hy, p43, p48_8_lo, p50_8_lo, p50_8_neg, b0, b1, c, c1, c2, c3]
  · have c1 : 9223372036854775808 ≤ y := by omega
    have c2 : y - 18446744073709551616 < 0 := by omega
    have c3 : -9223372036854775808 ≤ y - 18446744073709551616 := by omega
    have c5 : y - 18446744073709551616 + 18446744073709551616 = y := by omega

    have c7 : IntKind.u64.wrap 18446744073709551616 = 0 := by decide
    have c8 : IntKind.u64.wrap (IntKind.i64.wrap (0 - (y - 18446744073709551616))) = 18446744073709551616 - y := by rw [IntKind.wrap_i64, IntKind.wrap_u64]; omega
    have c9 : IntKind.u64.wrap (0 - y) = 18446744073709551616 - y := by rw [IntKind.wrap_u64]; omega
    simp (maxDischargeDepth := 9) -implicitDefEqProofs only [push_cast, reduceIte, Nat.reduceEqDiff, Nat.reduceAdd, Nat.reduceSub, Nat.reduceMul, Nat.reduceDiv, Nat.reduceMod, Nat.reduceLT, Nat.reduceLeDiff, Nat.reduceBEq, Nat.reduceBNe, reduceCtorEq, Int.reduceEq, Int.reduceNe, Int.reduceLT, Int.reduceLE, Int.reduceToNat, Int.reduceNeg, Int.reduceAdd, Int.reduceSub, Int.reduceMul, Int.reducePow, Nat.reducePow, Int.reduceBEq, M10, hz, hz2, hz3, Int.fdiv_eq_ediv_of_nonneg, Int.ediv_one, hy, p43, p48_8_hi, p50_8_lo, p50_8_neg, b0, b1, c, c1, c2, c3, c5, c7, c8, c9]

set_option maxHeartbeats 4000000 in
theorem twos_all (n z : Int) (hn : 0 ≤ n ∧ n < 18446744073709551616) (hz : 0 ≤ z ∧ z ≤ 255) : Wp (xbody (W CP) M10 [.int .u64 n, .int .u8 z] []) fun r => r.1 = .bool true := by
  have e : z.tmod 8 = z % 8 := Int.tmod_eq_emod_of_nonneg hz.1
  have : z.tmod 8 = 0 ∨ z.tmod 8 = 1 ∨ z.tmod 8 = 2 ∨ z.tmod 8 = 3 ∨ z.tmod 8 = 4 ∨ z.tmod 8 = 5 ∨ z.tmod 8 = 6 ∨ z.tmod 8 = 7 := by omega
  rcases this with h | h | h | h | h | h | h | h
  · exact twos_1 n z _ hn h rfl
  · exact twos_2 n z _ hn h rfl
  · exact twos_3 n z _ hn h rfl
  · exact twos_4 n z _ hn h rfl
  · exact twos_5 n z _ hn h rfl
  · exact twos_6 n z _ hn h rfl
  · exact twos_7 n z _ hn h rfl
  · exact twos_8 n z _ hn h rfl
set_option maxHeartbeats 4000000 in
theorem twos_law (js : AHeap) (avs : List AV) (hx : Ext js) (ht : TyA (CP.gl ++ js) [.one (.i .u64), .one (.i .u8)] avs) : ∃ h' ws, W CP 10 avs (CP.gl ++ js) = some (.bool true, h', ws) := by
  simp only [TyA, Ty] at ht
  obtain ⟨_, _, rfl, ⟨n, rfl, h1, h2⟩, _, _, rfl, ⟨z, rfl, h3, h4⟩, rfl⟩ := ht
  have h2' : n ≤ 18446744073709551615 := h2
  have h1' : 0 ≤ n := h1
  have h3' : 0 ≤ z := h3
  have h4' : z ≤ 255 := h4
  obtain ⟨⟨v, h', ws⟩, e, rfl⟩ := twos_all n z ⟨h1', by omega⟩ ⟨h3', h4'⟩
  exact ⟨_, _, W_pure (m := M10) (fun _ => rfl) rfl rfl rfl e _⟩
set_option maxHeartbeats 4000000 in
theorem twos_kinds : aksOf X.P 20 [74, 5] = some [.one (.i .u64), .one (.i .u8)] := by kernel_rfl
end Go.Proofs.YtimlhgpjmjmjhaaW.AI.B
