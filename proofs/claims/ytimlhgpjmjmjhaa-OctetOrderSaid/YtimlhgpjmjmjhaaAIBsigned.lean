import Derived.Test.YtimlhgpjmjmjhaaAIBnum
namespace Go.Proofs.YtimlhgpjmjmjhaaW.AI.B
open Go Go.Proofs.YtimlhgpjmjmjhaaW.AI Go.Proofs.YtimlhgpjmjmjhaaW.AI.Oct Go.RowKit
set_option maxRecDepth 100000
set_option linter.unusedSimpArgs false
set_option linter.unusedVariables false
theorem p43 (h : AHeap) : W CP 43 [] h = some (.bool true, h, []) := W_known (n := 60) (fun _ => rfl) (by kernel_rfl) h
theorem p73 (k : Int) (h0 : 0 < k) (h1 : k ≤ 8) (h : AHeap) : W CP 73 [.int .i64 k] h = some (.bool true, h, []) := by
  refine W_pure (m := M73) (h' := []) (ws := []) (fun _ => rfl) rfl rfl rfl ?_ h
  show xbody (W CP) M73 _ [] = _
  simp (maxDischargeDepth := 9) -implicitDefEqProofs only [push_cast, simprocAttr, M73, h0, h1]

theorem p64_1 (n : Int) (h0 : 0 ≤ n) (h1 : n < 256) (h : AHeap) : W CP 64 [.int .u64 n, .int .i64 1] h = some (.bool true, h, []) := by
  refine W_pure (m := M64) (h' := []) (ws := []) (fun _ => rfl) rfl rfl rfl ?_ h
  show xbody (W CP) M64 _ [] = _
  have e : n / 256 = 0 := Int.ediv_eq_zero_of_lt h0 h1
  simp (maxDischargeDepth := 9) -implicitDefEqProofs only [push_cast, simprocAttr, M64, Int.fdiv_eq_ediv_of_nonneg, e]
theorem p48_1_lo (n : Int) (h0 : 0 ≤ n) (h1 : n < 128) (h : AHeap) : W CP 48 [.int .u64 n, .int .i64 1] h = some (.tup [.int .i64 n, .int .i64 0], h, []) := by
  refine W_pure (m := M48) (h' := []) (ws := []) (fun _ => rfl) rfl rfl rfl ?_ h
  show xbody (W CP) M48 _ [] = _
  have e0 : n < 256 := by omega
  have e1 : IntKind.u64.wrap (n * 72057594037927936) = n * 72057594037927936 := wr_u64 _ (by omega) (by omega)
  have e2 : IntKind.i64.wrap (n * 72057594037927936) = n * 72057594037927936 := wr_i64 _ (by omega) (by omega)
  have e3 : n * 72057594037927936 / 72057594037927936 = n := Int.mul_ediv_cancel _ (by omega)
  simp (maxDischargeDepth := 9) -implicitDefEqProofs only [push_cast, simprocAttr, M48, p73, p64_1, h0, e0, e1, e2, e3, Int.fdiv_eq_ediv_of_nonneg, Int.mul_one, Int.ediv_one]
theorem p48_1_hi (n : Int) (h0 : 128 ≤ n) (h1 : n < 256) (h : AHeap) : W CP 48 [.int .u64 n, .int .i64 1] h = some (.tup [.int .i64 (n - 256), .int .i64 0], h, []) := by
  refine W_pure (m := M48) (h' := []) (ws := []) (fun _ => rfl) rfl rfl rfl ?_ h
  show xbody (W CP) M48 _ [] = _
  have e0 : 0 ≤ n := by omega
  have e1 : IntKind.u64.wrap (n * 72057594037927936) = n * 72057594037927936 := wr_u64 _ (by omega) (by omega)
  have e2 : IntKind.i64.wrap (n * 72057594037927936) = (n - 256) * 72057594037927936 := by rw [IntKind.wrap_i64]; omega
  have e3 : (n - 256) * 72057594037927936 / 72057594037927936 = n - 256 := Int.mul_ediv_cancel _ (by omega)
  simp (maxDischargeDepth := 9) -implicitDefEqProofs only [push_cast, simprocAttr, M48, p73, p64_1, h1, e0, e1, e2, e3, Int.fdiv_eq_ediv_of_nonneg, Int.mul_one, Int.ediv_one]
theorem p48_1_bad (n : Int) (h0 : 256 ≤ n) (h1 : n < 18446744073709551616) (h : AHeap) : W CP 48 [.int .u64 n, .int .i64 1] h = some (.tup [.int .i64 0, .int .i64 20], h, []) := by
  refine W_pure (m := M48) (h' := []) (ws := []) (fun _ => rfl) rfl rfl rfl ?_ h
  show xbody (W CP) M48 _ [] = _
  have a : W CP 64 [.int .u64 n, .int .i64 1] [] = some (.bool false, [], []) := by
    refine W_pure (m := M64) (h' := []) (ws := []) (fun _ => rfl) rfl rfl rfl ?_ []
    show xbody (W CP) M64 _ [] = _
    have e : ¬ n / 256 = 0 := by omega
    simp (maxDischargeDepth := 9) -implicitDefEqProofs only [push_cast, simprocAttr, M64, Int.fdiv_eq_ediv_of_nonneg, e]
  simp (maxDischargeDepth := 9) -implicitDefEqProofs only [push_cast, simprocAttr, M48, p73, a]
theorem p50_1_lo (n : Int) (h0 : 0 ≤ n) (h1 : n < 128) (h : AHeap) : W CP 50 [.int .i64 n, .int .i64 1] h = some (.tup [.int .u64 n, .int .i64 0], h, []) := by
  refine W_pure (m := M50) (h' := []) (ws := []) (fun _ => rfl) rfl rfl rfl ?_ h
  show xbody (W CP) M50 _ [] = _
  have e0 : IntKind.u64.wrap n = n := wr_u64 _ (by omega) (by omega)
  have e1 : IntKind.u64.wrap (n * 72057594037927936) = n * 72057594037927936 := wr_u64 _ (by omega) (by omega)
  have e2 : IntKind.i64.wrap (n * 72057594037927936) = n * 72057594037927936 := wr_i64 _ (by omega) (by omega)
  have e3 : n * 72057594037927936 / 72057594037927936 = n := Int.mul_ediv_cancel _ (by omega)
  simp (maxDischargeDepth := 9) -implicitDefEqProofs only [push_cast, simprocAttr, M50, p73, e0, e1, e2, e3, Int.fdiv_eq_ediv_of_nonneg, Int.mul_one, Int.ediv_one]
theorem p50_1_neg (n : Int) (h0 : -128 ≤ n) (h1 : n < 0) (h : AHeap) : W CP 50 [.int .i64 n, .int .i64 1] h = some (.tup [.int .u64 (n + 256), .int .i64 0], h, []) := by
  refine W_pure (m := M50) (h' := []) (ws := []) (fun _ => rfl) rfl rfl rfl ?_ h
  show xbody (W CP) M50 _ [] = _
  have e0 : IntKind.u64.wrap n = n + 18446744073709551616 := by rw [IntKind.wrap_u64]; omega
  have e1 : IntKind.u64.wrap ((n + 18446744073709551616) * 72057594037927936) = (n + 256) * 72057594037927936 := by rw [IntKind.wrap_u64]; omega
  have e2 : IntKind.i64.wrap (n * 72057594037927936) = n * 72057594037927936 := wr_i64 _ (by omega) (by omega)
  have e3 : n * 72057594037927936 / 72057594037927936 = n := Int.mul_ediv_cancel _ (by omega)
  have e4 : (n + 256) * 72057594037927936 / 72057594037927936 = n + 256 := Int.mul_ediv_cancel _ (by omega)
  simp (maxDischargeDepth := 9) -implicitDefEqProofs only [push_cast, simprocAttr, M50, p73, e0, e1, e2, e3, e4, Int.fdiv_eq_ediv_of_nonneg, Int.mul_one, Int.ediv_one]
theorem p50_1_bad (n : Int) (h0 : n < -128 ∨ 128 ≤ n) (h1 : -9223372036854775808 ≤ n) (h2 : n ≤ 9223372036854775807) (h : AHeap) : W CP 50 [.int .i64 n, .int .i64 1] h = some (.tup [.int .u64 0, .int .i64 20], h, []) := by
  refine W_pure (m := M50) (h' := []) (ws := []) (fun _ => rfl) rfl rfl rfl ?_ h
  show xbody (W CP) M50 _ [] = _
  have e3 : ¬ IntKind.i64.wrap (n * 72057594037927936) / 72057594037927936 = n := by rw [IntKind.wrap_i64]; omega
  simp (maxDischargeDepth := 9) -implicitDefEqProofs only [push_cast, simprocAttr, M50, p73, e3, Int.fdiv_eq_ediv_of_nonneg]
theorem p64_2 (n : Int) (h0 : 0 ≤ n) (h1 : n < 65536) (h : AHeap) : W CP 64 [.int .u64 n, .int .i64 2] h = some (.bool true, h, []) := by
  refine W_pure (m := M64) (h' := []) (ws := []) (fun _ => rfl) rfl rfl rfl ?_ h
  show xbody (W CP) M64 _ [] = _
  have e : n / 65536 = 0 := Int.ediv_eq_zero_of_lt h0 h1
  simp (maxDischargeDepth := 9) -implicitDefEqProofs only [push_cast, simprocAttr, M64, Int.fdiv_eq_ediv_of_nonneg, e]
theorem p48_2_lo (n : Int) (h0 : 0 ≤ n) (h1 : n < 32768) (h : AHeap) : W CP 48 [.int .u64 n, .int .i64 2] h = some (.tup [.int .i64 n, .int .i64 0], h, []) := by
  refine W_pure (m := M48) (h' := []) (ws := []) (fun _ => rfl) rfl rfl rfl ?_ h
  show xbody (W CP) M48 _ [] = _
  have e0 : n < 65536 := by omega
  have e1 : IntKind.u64.wrap (n * 281474976710656) = n * 281474976710656 := wr_u64 _ (by omega) (by omega)
  have e2 : IntKind.i64.wrap (n * 281474976710656) = n * 281474976710656 := wr_i64 _ (by omega) (by omega)
  have e3 : n * 281474976710656 / 281474976710656 = n := Int.mul_ediv_cancel _ (by omega)
  simp (maxDischargeDepth := 9) -implicitDefEqProofs only [push_cast, simprocAttr, M48, p73, p64_2, h0, e0, e1, e2, e3, Int.fdiv_eq_ediv_of_nonneg, Int.mul_one, Int.ediv_one]
theorem p48_2_hi (n : Int) (h0 : 32768 ≤ n) (h1 : n < 65536) (h : AHeap) : W CP 48 [.int .u64 n, .int .i64 2] h = some (.tup [.int .i64 (n - 65536), .int .i64 0], h, []) := by
  refine W_pure (m := M48) (h' := []) (ws := []) (fun _ => rfl) rfl rfl rfl ?_ h
  show xbody (W CP) M48 _ [] = _
  have e0 : 0 ≤ n := by omega
  have e1 : IntKind.u64.wrap (n * 281474976710656) = n * 281474976710656 := wr_u64 _ (by omega) (by omega)
  have e2 : IntKind.i64.wrap (n * 281474976710656) = (n - 65536) * 281474976710656 := by rw [IntKind.wrap_i64]; omega
  have e3 : (n - 65536) * 281474976710656 / 281474976710656 = n - 65536 := Int.mul_ediv_cancel _ (by omega)
  simp (maxDischargeDepth := 9) -implicitDefEqProofs only [push_cast, simprocAttr, M48, p73, p64_2, h1, e0, e1, e2, e3, Int.fdiv_eq_ediv_of_nonneg, Int.mul_one, Int.ediv_one]
theorem p48_2_bad (n : Int) (h0 : 65536 ≤ n) (h1 : n < 18446744073709551616) (h : AHeap) : W CP 48 [.int .u64 n, .int .i64 2] h = some (.tup [.int .i64 0, .int .i64 20], h, []) := by
  refine W_pure (m := M48) (h' := []) (ws := []) (fun _ => rfl) rfl rfl rfl ?_ h
  show xbody (W CP) M48 _ [] = _
  have a : W CP 64 [.int .u64 n, .int .i64 2] [] = some (.bool false, [], []) := by
    refine W_pure (m := M64) (h' := []) (ws := []) (fun _ => rfl) rfl rfl rfl ?_ []
    show xbody (W CP) M64 _ [] = _
    have e : ¬ n / 65536 = 0 := by omega
    simp (maxDischargeDepth := 9) -implicitDefEqProofs only [push_cast, simprocAttr, M64, Int.fdiv_eq_ediv_of_nonneg, e]
  simp (maxDischargeDepth := 9) -implicitDefEqProofs only [push_cast, simprocAttr, M48, p73, a]
theorem p50_2_lo (n : Int) (h0 : 0 ≤ n) (h1 : n < 32768) (h : AHeap) : W CP 50 [.int .i64 n, .int .i64 2] h = some (.tup [.int .u64 n, .int .i64 0], h, []) := by
  refine W_pure (m := M50) (h' := []) (ws := []) (fun _ => rfl) rfl rfl rfl ?_ h
  show xbody (W CP) M50 _ [] = _
  have e0 : IntKind.u64.wrap n = n := wr_u64 _ (by omega) (by omega)
  have e1 : IntKind.u64.wrap (n * 281474976710656) = n * 281474976710656 := wr_u64 _ (by omega) (by omega)
  have e2 : IntKind.i64.wrap (n * 281474976710656) = n * 281474976710656 := wr_i64 _ (by omega) (by omega)
  have e3 : n * 281474976710656 / 281474976710656 = n := Int.mul_ediv_cancel _ (by omega)
  simp (maxDischargeDepth := 9) -implicitDefEqProofs only [push_cast, simprocAttr, M50, p73, e0, e1, e2, e3, Int.fdiv_eq_ediv_of_nonneg, Int.mul_one, Int.ediv_one]
theorem p50_2_neg (n : Int) (h0 : -32768 ≤ n) (h1 : n < 0) (h : AHeap) : W CP 50 [.int .i64 n, .int .i64 2] h = some (.tup [.int .u64 (n + 65536), .int .i64 0], h, []) := by
  refine W_pure (m := M50) (h' := []) (ws := []) (fun _ => rfl) rfl rfl rfl ?_ h
  show xbody (W CP) M50 _ [] = _
  have e0 : IntKind.u64.wrap n = n + 18446744073709551616 := by rw [IntKind.wrap_u64]; omega
  have e1 : IntKind.u64.wrap ((n + 18446744073709551616) * 281474976710656) = (n + 65536) * 281474976710656 := by rw [IntKind.wrap_u64]; omega
  have e2 : IntKind.i64.wrap (n * 281474976710656) = n * 281474976710656 := wr_i64 _ (by omega) (by omega)
  have e3 : n * 281474976710656 / 281474976710656 = n := Int.mul_ediv_cancel _ (by omega)
  have e4 : (n + 65536) * 281474976710656 / 281474976710656 = n + 65536 := Int.mul_ediv_cancel _ (by omega)
  simp (maxDischargeDepth := 9) -implicitDefEqProofs only [push_cast, simprocAttr, M50, p73, e0, e1, e2, e3, e4, Int.fdiv_eq_ediv_of_nonneg, Int.mul_one, Int.ediv_one]
theorem p50_2_bad (n : Int) (h0 : n < -32768 ∨ 32768 ≤ n) (h1 : -9223372036854775808 ≤ n) (h2 : n ≤ 9223372036854775807) (h : AHeap) : W CP 50 [.int .i64 n, .int .i64 2] h = some (.tup [.int .u64 0, .int .i64 20], h, []) := by
  refine W_pure (m := M50) (h' := []) (ws := []) (fun _ => rfl) rfl rfl rfl ?_ h
  show xbody (W CP) M50 _ [] = _
  have e3 : ¬ IntKind.i64.wrap (n * 281474976710656) / 281474976710656 = n := by rw [IntKind.wrap_i64]; omega
  simp (maxDischargeDepth := 9) -implicitDefEqProofs only [push_cast, simprocAttr, M50, p73, e3, Int.fdiv_eq_ediv_of_nonneg]
theorem p64_3 (n : Int) (h0 : 0 ≤ n) (h1 : n < 16777216) (h : AHeap) : W CP 64 [.int .u64 n, .int .i64 3] h = some (.bool true, h, []) := by
  refine W_pure (m := M64) (h' := []) (ws := []) (fun _ => rfl) rfl rfl rfl ?_ h
  show xbody (W CP) M64 _ [] = _
  have e : n / 16777216 = 0 := Int.ediv_eq_zero_of_lt h0 h1
  simp (maxDischargeDepth := 9) -implicitDefEqProofs only [push_cast, simprocAttr, M64, Int.fdiv_eq_ediv_of_nonneg, e]
theorem p48_3_lo (n : Int) (h0 : 0 ≤ n) (h1 : n < 8388608) (h : AHeap) : W CP 48 [.int .u64 n, .int .i64 3] h = some (.tup [.int .i64 n, .int .i64 0], h, []) := by
  refine W_pure (m := M48) (h' := []) (ws := []) (fun _ => rfl) rfl rfl rfl ?_ h
  show xbody (W CP) M48 _ [] = _
  have e0 : n < 16777216 := by omega
  have e1 : IntKind.u64.wrap (n * 1099511627776) = n * 1099511627776 := wr_u64 _ (by omega) (by omega)
  have e2 : IntKind.i64.wrap (n * 1099511627776) = n * 1099511627776 := wr_i64 _ (by omega) (by omega)
  have e3 : n * 1099511627776 / 1099511627776 = n := Int.mul_ediv_cancel _ (by omega)
  simp (maxDischargeDepth := 9) -implicitDefEqProofs only [push_cast, simprocAttr, M48, p73, p64_3, h0, e0, e1, e2, e3, Int.fdiv_eq_ediv_of_nonneg, Int.mul_one, Int.ediv_one]
theorem p48_3_hi (n : Int) (h0 : 8388608 ≤ n) (h1 : n < 16777216) (h : AHeap) : W CP 48 [.int .u64 n, .int .i64 3] h = some (.tup [.int .i64 (n - 16777216), .int .i64 0], h, []) := by
  refine W_pure (m := M48) (h' := []) (ws := []) (fun _ => rfl) rfl rfl rfl ?_ h
  show xbody (W CP) M48 _ [] = _
  have e0 : 0 ≤ n := by omega
  have e1 : IntKind.u64.wrap (n * 1099511627776) = n * 1099511627776 := wr_u64 _ (by omega) (by omega)
  have e2 : IntKind.i64.wrap (n * 1099511627776) = (n - 16777216) * 1099511627776 := by rw [IntKind.wrap_i64]; omega
  have e3 : (n - 16777216) * 1099511627776 / 1099511627776 = n - 16777216 := Int.mul_ediv_cancel _ (by omega)
  simp (maxDischargeDepth := 9) -implicitDefEqProofs only [push_cast, simprocAttr, M48, p73, p64_3, h1, e0, e1, e2, e3, Int.fdiv_eq_ediv_of_nonneg, Int.mul_one, Int.ediv_one]
theorem p48_3_bad (n : Int) (h0 : 16777216 ≤ n) (h1 : n < 18446744073709551616) (h : AHeap) : W CP 48 [.int .u64 n, .int .i64 3] h = some (.tup [.int .i64 0, .int .i64 20], h, []) := by
  refine W_pure (m := M48) (h' := []) (ws := []) (fun _ => rfl) rfl rfl rfl ?_ h
  show xbody (W CP) M48 _ [] = _
  have a : W CP 64 [.int .u64 n, .int .i64 3] [] = some (.bool false, [], []) := by
    refine W_pure (m := M64) (h' := []) (ws := []) (fun _ => rfl) rfl rfl rfl ?_ []
    show xbody (W CP) M64 _ [] = _
    have e : ¬ n / 16777216 = 0 := by omega
    simp (maxDischargeDepth := 9) -implicitDefEqProofs only [push_cast, simprocAttr, M64, Int.fdiv_eq_ediv_of_nonneg, e]
  simp (maxDischargeDepth := 9) -implicitDefEqProofs only [push_cast, simprocAttr, M48, p73, a]
theorem p50_3_lo (n : Int) (h0 : 0 ≤ n) (h1 : n < 8388608) (h : AHeap) : W CP 50 [.int .i64 n, .int .i64 3] h = some (.tup [.int .u64 n, .int .i64 0], h, []) := by
  refine W_pure (m := M50) (h' := []) (ws := []) (fun _ => rfl) rfl rfl rfl ?_ h
  show xbody (W CP) M50 _ [] = _
  have e0 : IntKind.u64.wrap n = n := wr_u64 _ (by omega) (by omega)
  have e1 : IntKind.u64.wrap (n * 1099511627776) = n * 1099511627776 := wr_u64 _ (by omega) (by omega)
  have e2 : IntKind.i64.wrap (n * 1099511627776) = n * 1099511627776 := wr_i64 _ (by omega) (by omega)
  have e3 : n * 1099511627776 / 1099511627776 = n := Int.mul_ediv_cancel _ (by omega)
  simp (maxDischargeDepth := 9) -implicitDefEqProofs only [push_cast, simprocAttr, M50, p73, e0, e1, e2, e3, Int.fdiv_eq_ediv_of_nonneg, Int.mul_one, Int.ediv_one]
theorem p50_3_neg (n : Int) (h0 : -8388608 ≤ n) (h1 : n < 0) (h : AHeap) : W CP 50 [.int .i64 n, .int .i64 3] h = some (.tup [.int .u64 (n + 16777216), .int .i64 0], h, []) := by
  refine W_pure (m := M50) (h' := []) (ws := []) (fun _ => rfl) rfl rfl rfl ?_ h
  show xbody (W CP) M50 _ [] = _
  have e0 : IntKind.u64.wrap n = n + 18446744073709551616 := by rw [IntKind.wrap_u64]; omega
  have e1 : IntKind.u64.wrap ((n + 18446744073709551616) * 1099511627776) = (n + 16777216) * 1099511627776 := by rw [IntKind.wrap_u64]; omega
  have e2 : IntKind.i64.wrap (n * 1099511627776) = n * 1099511627776 := wr_i64 _ (by omega) (by omega)
  have e3 : n * 1099511627776 / 1099511627776 = n := Int.mul_ediv_cancel _ (by omega)
  have e4 : (n + 16777216) * 1099511627776 / 1099511627776 = n + 16777216 := Int.mul_ediv_cancel _ (by omega)
  simp (maxDischargeDepth := 9) -implicitDefEqProofs only [push_cast, simprocAttr, M50, p73, e0, e1, e2, e3, e4, Int.fdiv_eq_ediv_of_nonneg, Int.mul_one, Int.ediv_one]
theorem p50_3_bad (n : Int) (h0 : n < -8388608 ∨ 8388608 ≤ n) (h1 : -9223372036854775808 ≤ n) (h2 : n ≤ 9223372036854775807) (h : AHeap) : W CP 50 [.int .i64 n, .int .i64 3] h = some (.tup [.int .u64 0, .int .i64 20], h, []) := by
  refine W_pure (m := M50) (h' := []) (ws := []) (fun _ => rfl) rfl rfl rfl ?_ h
  show xbody (W CP) M50 _ [] = _
  have e3 : ¬ IntKind.i64.wrap (n * 1099511627776) / 1099511627776 = n := by rw [IntKind.wrap_i64]; omega
  simp (maxDischargeDepth := 9) -implicitDefEqProofs only [push_cast, simprocAttr, M50, p73, e3, Int.fdiv_eq_ediv_of_nonneg]
theorem p64_4 (n : Int) (h0 : 0 ≤ n) (h1 : n < 4294967296) (h : AHeap) : W CP 64 [.int .u64 n, .int .i64 4] h = some (.bool true, h, []) := by
  refine W_pure (m := M64) (h' := []) (ws := []) (fun _ => rfl) rfl rfl rfl ?_ h
  show xbody (W CP) M64 _ [] = _
  have e : n / 4294967296 = 0 := Int.ediv_eq_zero_of_lt h0 h1
  simp (maxDischargeDepth := 9) -implicitDefEqProofs only [push_cast, simprocAttr, M64, Int.fdiv_eq_ediv_of_nonneg, e]
theorem p48_4_lo (n : Int) (h0 : 0 ≤ n) (h1 : n < 2147483648) (h : AHeap) : W CP 48 [.int .u64 n, .int .i64 4] h = some (.tup [.int .i64 n, .int .i64 0], h, []) := by
  refine W_pure (m := M48) (h' := []) (ws := []) (fun _ => rfl) rfl rfl rfl ?_ h
  show xbody (W CP) M48 _ [] = _
  have e0 : n < 4294967296 := by omega
  have e1 : IntKind.u64.wrap (n * 4294967296) = n * 4294967296 := wr_u64 _ (by omega) (by omega)
  have e2 : IntKind.i64.wrap (n * 4294967296) = n * 4294967296 := wr_i64 _ (by omega) (by omega)
  have e3 : n * 4294967296 / 4294967296 = n := Int.mul_ediv_cancel _ (by omega)
  simp (maxDischargeDepth := 9) -implicitDefEqProofs only [push_cast, simprocAttr, M48, p73, p64_4, h0, e0, e1, e2, e3, Int.fdiv_eq_ediv_of_nonneg, Int.mul_one, Int.ediv_one]
theorem p48_4_hi (n : Int) (h0 : 2147483648 ≤ n) (h1 : n < 4294967296) (h : AHeap) : W CP 48 [.int .u64 n, .int .i64 4] h = some (.tup [.int .i64 (n - 4294967296), .int .i64 0], h, []) := by
  refine W_pure (m := M48) (h' := []) (ws := []) (fun _ => rfl) rfl rfl rfl ?_ h
  show xbody (W CP) M48 _ [] = _
  have e0 : 0 ≤ n := by omega
  have e1 : IntKind.u64.wrap (n * 4294967296) = n * 4294967296 := wr_u64 _ (by omega) (by omega)
  have e2 : IntKind.i64.wrap (n * 4294967296) = (n - 4294967296) * 4294967296 := by rw [IntKind.wrap_i64]; omega
  have e3 : (n - 4294967296) * 4294967296 / 4294967296 = n - 4294967296 := Int.mul_ediv_cancel _ (by omega)
  simp (maxDischargeDepth := 9) -implicitDefEqProofs only [push_cast, simprocAttr, M48, p73, p64_4, h1, e0, e1, e2, e3, Int.fdiv_eq_ediv_of_nonneg, Int.mul_one, Int.ediv_one]
theorem p48_4_bad (n : Int) (h0 : 4294967296 ≤ n) (h1 : n < 18446744073709551616) (h : AHeap) : W CP 48 [.int .u64 n, .int .i64 4] h = some (.tup [.int .i64 0, .int .i64 20], h, []) := by
  refine W_pure (m := M48) (h' := []) (ws := []) (fun _ => rfl) rfl rfl rfl ?_ h
  show xbody (W CP) M48 _ [] = _
  have a : W CP 64 [.int .u64 n, .int .i64 4] [] = some (.bool false, [], []) := by
    refine W_pure (m := M64) (h' := []) (ws := []) (fun _ => rfl) rfl rfl rfl ?_ []
    show xbody (W CP) M64 _ [] = _
    have e : ¬ n / 4294967296 = 0 := by omega
    simp (maxDischargeDepth := 9) -implicitDefEqProofs only [push_cast, simprocAttr, M64, Int.fdiv_eq_ediv_of_nonneg, e]
  simp (maxDischargeDepth := 9) -implicitDefEqProofs only [push_cast, simprocAttr, M48, p73, a]
theorem p50_4_lo (n : Int) (h0 : 0 ≤ n) (h1 : n < 2147483648) (h : AHeap) : W CP 50 [.int .i64 n, .int .i64 4] h = some (.tup [.int .u64 n, .int .i64 0], h, []) := by
  refine W_pure (m := M50) (h' := []) (ws := []) (fun _ => rfl) rfl rfl rfl ?_ h
  show xbody (W CP) M50 _ [] = _
  have e0 : IntKind.u64.wrap n = n := wr_u64 _ (by omega) (by omega)
  have e1 : IntKind.u64.wrap (n * 4294967296) = n * 4294967296 := wr_u64 _ (by omega) (by omega)
  have e2 : IntKind.i64.wrap (n * 4294967296) = n * 4294967296 := wr_i64 _ (by omega) (by omega)
  have e3 : n * 4294967296 / 4294967296 = n := Int.mul_ediv_cancel _ (by omega)
  simp (maxDischargeDepth := 9) -implicitDefEqProofs only [push_cast, simprocAttr, M50, p73, e0, e1, e2, e3, Int.fdiv_eq_ediv_of_nonneg, Int.mul_one, Int.ediv_one]
theorem p50_4_neg (n : Int) (h0 : -2147483648 ≤ n) (h1 : n < 0) (h : AHeap) : W CP 50 [.int .i64 n, .int .i64 4] h = some (.tup [.int .u64 (n + 4294967296), .int .i64 0], h, []) := by
  refine W_pure (m := M50) (h' := []) (ws := []) (fun _ => rfl) rfl rfl rfl ?_ h
  show xbody (W CP) M50 _ [] = _
  have e0 : IntKind.u64.wrap n = n + 18446744073709551616 := by rw [IntKind.wrap_u64]; omega
  have e1 : IntKind.u64.wrap ((n + 18446744073709551616) * 4294967296) = (n + 4294967296) * 4294967296 := by rw [IntKind.wrap_u64]; omega
  have e2 : IntKind.i64.wrap (n * 4294967296) = n * 4294967296 := wr_i64 _ (by omega) (by omega)
  have e3 : n * 4294967296 / 4294967296 = n := Int.mul_ediv_cancel _ (by omega)
  have e4 : (n + 4294967296) * 4294967296 / 4294967296 = n + 4294967296 := Int.mul_ediv_cancel _ (by omega)
  simp (maxDischargeDepth := 9) -implicitDefEqProofs only [push_cast, simprocAttr, M50, p73, e0, e1, e2, e3, e4, Int.fdiv_eq_ediv_of_nonneg, Int.mul_one, Int.ediv_one]
theorem p50_4_bad (n : Int) (h0 : n < -2147483648 ∨ 2147483648 ≤ n) (h1 : -9223372036854775808 ≤ n) (h2 : n ≤ 9223372036854775807) (h : AHeap) : W CP 50 [.int .i64 n, .int .i64 4] h = some (.tup [.int .u64 0, .int .i64 20], h, []) := by
  refine W_pure (m := M50) (h' := []) (ws := []) (fun _ => rfl) rfl rfl rfl ?_ h
  show xbody (W CP) M50 _ [] = _
  have e3 : ¬ IntKind.i64.wrap (n * 4294967296) / 4294967296 = n := by rw [IntKind.wrap_i64]; omega
  simp (maxDischargeDepth := 9) -implicitDefEqProofs only [push_cast, simprocAttr, M50, p73, e3, Int.fdiv_eq_ediv_of_nonneg]
theorem p64_5 (n : Int) (h0 : 0 ≤ n) (h1 : n < 1099511627776) (h : AHeap) : W CP 64 [.int .u64 n, .int .i64 5] h = some (.bool true, h, []) := by
  refine W_pure (m := M64) (h' := []) (ws := []) (fun _ => rfl) rfl rfl rfl ?_ h
  show xbody (W CP) M64 _ [] = _
  have e : n / 1099511627776 = 0 := Int.ediv_eq_zero_of_lt h0 h1
  simp (maxDischargeDepth := 9) -implicitDefEqProofs only [push_cast, simprocAttr, M64, Int.fdiv_eq_ediv_of_nonneg, e]
theorem p48_5_lo (n : Int) (h0 : 0 ≤ n) (h1 : n < 549755813888) (h : AHeap) : W CP 48 [.int .u64 n, .int .i64 5] h = some (.tup [.int .i64 n, .int .i64 0], h, []) := by
  refine W_pure (m := M48) (h' := []) (ws := []) (fun _ => rfl) rfl rfl rfl ?_ h
  show xbody (W CP) M48 _ [] = _
  have e0 : n < 1099511627776 := by omega
  have e1 : IntKind.u64.wrap (n * 16777216) = n * 16777216 := wr_u64 _ (by omega) (by omega)
  have e2 : IntKind.i64.wrap (n * 16777216) = n * 16777216 := wr_i64 _ (by omega) (by omega)
  have e3 : n * 16777216 / 16777216 = n := Int.mul_ediv_cancel _ (by omega)
  simp (maxDischargeDepth := 9) -implicitDefEqProofs only [push_cast, simprocAttr, M48, p73, p64_5, h0, e0, e1, e2, e3, Int.fdiv_eq_ediv_of_nonneg, Int.mul_one, Int.ediv_one]
theorem p48_5_hi (n : Int) (h0 : 549755813888 ≤ n) (h1 : n < 1099511627776) (h : AHeap) : W CP 48 [.int .u64 n, .int .i64 5] h = some (.tup [.int .i64 (n - 1099511627776), .int .i64 0], h, []) := by
  refine W_pure (m := M48) (h' := []) (ws := []) (fun _ => rfl) rfl rfl rfl ?_ h
  show xbody (W CP) M48 _ [] = _
  have e0 : 0 ≤ n := by omega
  have e1 : IntKind.u64.wrap (n * 16777216) = n * 16777216 := wr_u64 _ (by omega) (by omega)
  have e2 : IntKind.i64.wrap (n * 16777216) = (n - 1099511627776) * 16777216 := by rw [IntKind.wrap_i64]; omega
  have e3 : (n - 1099511627776) * 16777216 / 16777216 = n - 1099511627776 := Int.mul_ediv_cancel _ (by omega)
  simp (maxDischargeDepth := 9) -implicitDefEqProofs only [push_cast, simprocAttr, M48, p73, p64_5, h1, e0, e1, e2, e3, Int.fdiv_eq_ediv_of_nonneg, Int.mul_one, Int.ediv_one]
theorem p48_5_bad (n : Int) (h0 : 1099511627776 ≤ n) (h1 : n < 18446744073709551616) (h : AHeap) : W CP 48 [.int .u64 n, .int .i64 5] h = some (.tup [.int .i64 0, .int .i64 20], h, []) := by
  refine W_pure (m := M48) (h' := []) (ws := []) (fun _ => rfl) rfl rfl rfl ?_ h
  show xbody (W CP) M48 _ [] = _
  have a : W CP 64 [.int .u64 n, .int .i64 5] [] = some (.bool false, [], []) := by
    refine W_pure (m := M64) (h' := []) (ws := []) (fun _ => rfl) rfl rfl rfl ?_ []
    show xbody (W CP) M64 _ [] = _
    have e : ¬ n / 1099511627776 = 0 := by omega
    simp (maxDischargeDepth := 9) -implicitDefEqProofs only [push_cast, simprocAttr, M64, Int.fdiv_eq_ediv_of_nonneg, e]
  simp (maxDischargeDepth := 9) -implicitDefEqProofs only [push_cast, simprocAttr, M48, p73, a]
theorem p50_5_lo (n : Int) (h0 : 0 ≤ n) (h1 : n < 549755813888) (h : AHeap) : W CP 50 [.int .i64 n, .int .i64 5] h = some (.tup [.int .u64 n, .int .i64 0], h, []) := by
  refine W_pure (m := M50) (h' := []) (ws := []) (fun _ => rfl) rfl rfl rfl ?_ h
  show xbody (W CP) M50 _ [] = _
  have e0 : IntKind.u64.wrap n = n := wr_u64 _ (by omega) (by omega)
  have e1 : IntKind.u64.wrap (n * 16777216) = n * 16777216 := wr_u64 _ (by omega) (by omega)
  have e2 : IntKind.i64.wrap (n * 16777216) = n * 16777216 := wr_i64 _ (by omega) (by omega)
  have e3 : n * 16777216 / 16777216 = n := Int.mul_ediv_cancel _ (by omega)
  simp (maxDischargeDepth := 9) -implicitDefEqProofs only [push_cast, simprocAttr, M50, p73, e0, e1, e2, e3, Int.fdiv_eq_ediv_of_nonneg, Int.mul_one, Int.ediv_one]
theorem p50_5_neg (n : Int) (h0 : -549755813888 ≤ n) (h1 : n < 0) (h : AHeap) : W CP 50 [.int .i64 n, .int .i64 5] h = some (.tup [.int .u64 (n + 1099511627776), .int .i64 0], h, []) := by
  refine W_pure (m := M50) (h' := []) (ws := []) (fun _ => rfl) rfl rfl rfl ?_ h
  show xbody (W CP) M50 _ [] = _
  have e0 : IntKind.u64.wrap n = n + 18446744073709551616 := by rw [IntKind.wrap_u64]; omega
  have e1 : IntKind.u64.wrap ((n + 18446744073709551616) * 16777216) = (n + 1099511627776) * 16777216 := by rw [IntKind.wrap_u64]; omega
  have e2 : IntKind.i64.wrap (n * 16777216) = n * 16777216 := wr_i64 _ (by omega) (by omega)
  have e3 : n * 16777216 / 16777216 = n := Int.mul_ediv_cancel _ (by omega)
  have e4 : (n + 1099511627776) * 16777216 / 16777216 = n + 1099511627776 := Int.mul_ediv_cancel _ (by omega)
  simp (maxDischargeDepth := 9) -implicitDefEqProofs only [push_cast, simprocAttr, M50, p73, e0, e1, e2, e3, e4, Int.fdiv_eq_ediv_of_nonneg, Int.mul_one, Int.ediv_one]
theorem p50_5_bad (n : Int) (h0 : n < -549755813888 ∨ 549755813888 ≤ n) (h1 : -9223372036854775808 ≤ n) (h2 : n ≤ 9223372036854775807) (h : AHeap) : W CP 50 [.int .i64 n, .int .i64 5] h = some (.tup [.int .u64 0, .int .i64 20], h, []) := by
  refine W_pure (m := M50) (h' := []) (ws := []) (fun _ => rfl) rfl rfl rfl ?_ h
  show xbody (W CP) M50 _ [] = _
  have e3 : ¬ IntKind.i64.wrap (n * 16777216) / 16777216 = n := by rw [IntKind.wrap_i64]; omega
  simp (maxDischargeDepth := 9) -implicitDefEqProofs only [push_cast, simprocAttr, M50, p73, e3, Int.fdiv_eq_ediv_of_nonneg]
theorem p64_6 (n : Int) (h0 : 0 ≤ n) (h1 : n < 281474976710656) (h : AHeap) : W CP 64 [.int .u64 n, .int .i64 6] h = some (.bool true, h, []) := by
  refine W_pure (m := M64) (h' := []) (ws := []) (fun _ => rfl) rfl rfl rfl ?_ h
  show xbody (W CP) M64 _ [] = _
  have e : n / 281474976710656 = 0 := Int.ediv_eq_zero_of_lt h0 h1
  simp (maxDischargeDepth := 9) -implicitDefEqProofs only [push_cast, simprocAttr, M64, Int.fdiv_eq_ediv_of_nonneg, e]
theorem p48_6_lo (n : Int) (h0 : 0 ≤ n) (h1 : n < 140737488355328) (h : AHeap) : W CP 48 [.int .u64 n, .int .i64 6] h = some (.tup [.int .i64 n, .int .i64 0], h, []) := by
  refine W_pure (m := M48) (h' := []) (ws := []) (fun _ => rfl) rfl rfl rfl ?_ h
  show xbody (W CP) M48 _ [] = _
  have e0 : n < 281474976710656 := by omega
  have e1 : IntKind.u64.wrap (n * 65536) = n * 65536 := wr_u64 _ (by omega) (by omega)
  have e2 : IntKind.i64.wrap (n * 65536) = n * 65536 := wr_i64 _ (by omega) (by omega)
  have e3 : n * 65536 / 65536 = n := Int.mul_ediv_cancel _ (by omega)
  simp (maxDischargeDepth := 9) -implicitDefEqProofs only [push_cast, simprocAttr, M48, p73, p64_6, h0, e0, e1, e2, e3, Int.fdiv_eq_ediv_of_nonneg, Int.mul_one, Int.ediv_one]
theorem p48_6_hi (n : Int) (h0 : 140737488355328 ≤ n) (h1 : n < 281474976710656) (h : AHeap) : W CP 48 [.int .u64 n, .int .i64 6] h = some (.tup [.int .i64 (n - 281474976710656), .int .i64 0], h, []) := by
  refine W_pure (m := M48) (h' := []) (ws := []) (fun _ => rfl) rfl rfl rfl ?_ h
  show xbody (W CP) M48 _ [] = _
  have e0 : 0 ≤ n := by omega
  have e1 : IntKind.u64.wrap (n * 65536) = n * 65536 := wr_u64 _ (by omega) (by omega)
  have e2 : IntKind.i64.wrap (n * 65536) = (n - 281474976710656) * 65536 := by rw [IntKind.wrap_i64]; omega
  have e3 : (n - 281474976710656) * 65536 / 65536 = n - 281474976710656 := Int.mul_ediv_cancel _ (by omega)
  simp (maxDischargeDepth := 9) -implicitDefEqProofs only [push_cast, simprocAttr, M48, p73, p64_6, h1, e0, e1, e2, e3, Int.fdiv_eq_ediv_of_nonneg, Int.mul_one, Int.ediv_one]
theorem p48_6_bad (n : Int) (h0 : 281474976710656 ≤ n) (h1 : n < 18446744073709551616) (h : AHeap) : W CP 48 [.int .u64 n, .int .i64 6] h = some (.tup [.int .i64 0, .int .i64 20], h, []) := by
  refine W_pure (m := M48) (h' := []) (ws := []) (fun _ => rfl) rfl rfl rfl ?_ h
  show xbody (W CP) M48 _ [] = _
  have a : W CP 64 [.int .u64 n, .int .i64 6] [] = some (.bool false, [], []) := by
    refine W_pure (m := M64) (h' := []) (ws := []) (fun _ => rfl) rfl rfl rfl ?_ []
    show xbody (W CP) M64 _ [] = _
    have e : ¬ n / 281474976710656 = 0 := by omega
    simp (maxDischargeDepth := 9) -implicitDefEqProofs only [push_cast, simprocAttr, M64, Int.fdiv_eq_ediv_of_nonneg, e]
  simp (maxDischargeDepth := 9) -implicitDefEqProofs only [push_cast, simprocAttr, M48, p73, a]
theorem p50_6_lo (n : Int) (h0 : 0 ≤ n) (h1 : n < 140737488355328) (h : AHeap) : W CP 50 [.int .i64 n, .int .i64 6] h = some (.tup [.int .u64 n, .int .i64 0], h, []) := by
  refine W_pure (m := M50) (h' := []) (ws := []) (fun _ => rfl) rfl rfl rfl ?_ h
  show xbody (W CP) M50 _ [] = _
  have e0 : IntKind.u64.wrap n = n := wr_u64 _ (by omega) (by omega)
  have e1 : IntKind.u64.wrap (n * 65536) = n * 65536 := wr_u64 _ (by omega) (by omega)
  have e2 : IntKind.i64.wrap (n * 65536) = n * 65536 := wr_i64 _ (by omega) (by omega)
  have e3 : n * 65536 / 65536 = n := Int.mul_ediv_cancel _ (by omega)
  simp (maxDischargeDepth := 9) -implicitDefEqProofs only [push_cast, simprocAttr, M50, p73, e0, e1, e2, e3, Int.fdiv_eq_ediv_of_nonneg, Int.mul_one, Int.ediv_one]
theorem p50_6_neg (n : Int) (h0 : -140737488355328 ≤ n) (h1 : n < 0) (h : AHeap) : W CP 50 [.int .i64 n, .int .i64 6] h = some (.tup [.int .u64 (n + 281474976710656), .int .i64 0], h, []) := by
  refine W_pure (m := M50) (h' := []) (ws := []) (fun _ => rfl) rfl rfl rfl ?_ h
  show xbody (W CP) M50 _ [] = _
  have e0 : IntKind.u64.wrap n = n + 18446744073709551616 := by rw [IntKind.wrap_u64]; omega
  have e1 : IntKind.u64.wrap ((n + 18446744073709551616) * 65536) = (n + 281474976710656) * 65536 := by rw [IntKind.wrap_u64]; omega
  have e2 : IntKind.i64.wrap (n * 65536) = n * 65536 := wr_i64 _ (by omega) (by omega)
  have e3 : n * 65536 / 65536 = n := Int.mul_ediv_cancel _ (by omega)
  have e4 : (n + 281474976710656) * 65536 / 65536 = n + 281474976710656 := Int.mul_ediv_cancel _ (by omega)
  simp (maxDischargeDepth := 9) -implicitDefEqProofs only [push_cast, simprocAttr, M50, p73, e0, e1, e2, e3, e4, Int.fdiv_eq_ediv_of_nonneg, Int.mul_one, Int.ediv_one]
theorem p50_6_bad (n : Int) (h0 : n < -140737488355328 ∨ 140737488355328 ≤ n) (h1 : -9223372036854775808 ≤ n) (h2 : n ≤ 9223372036854775807) (h : AHeap) : W CP 50 [.int .i64 n, .int .i64 6] h = some (.tup [.int .u64 0, .int .i64 20], h, []) := by
  refine W_pure (m := M50) (h' := []) (ws := []) (fun _ => rfl) rfl rfl rfl ?_ h
  show xbody (W CP) M50 _ [] = _
  have e3 : ¬ IntKind.i64.wrap (n * 65536) / 65536 = n := by rw [IntKind.wrap_i64]; omega
  simp (maxDischargeDepth := 9) -implicitDefEqProofs only [push_cast, simprocAttr, M50, p73, e3, Int.fdiv_eq_ediv_of_nonneg]
theorem p64_7 (n : Int) (h0 : 0 ≤ n) (h1 : n < 72057594037927936) (h : AHeap) : W CP 64 [.int .u64 n, .int .i64 7] h = some (.bool true, h, []) := by
  refine W_pure (m := M64) (h' := []) (ws := []) (fun _ => rfl) rfl rfl rfl ?_ h
  show xbody (W CP) M64 _ [] = _
  have e : n / 72057594037927936 = 0 := Int.ediv_eq_zero_of_lt h0 h1
  simp (maxDischargeDepth := 9) -implicitDefEqProofs only [push_cast, simprocAttr, M64, Int.fdiv_eq_ediv_of_nonneg, e]
theorem p48_7_lo (n : Int) (h0 : 0 ≤ n) (h1 : n < 36028797018963968) (h : AHeap) : W CP 48 [.int .u64 n, .int .i64 7] h = some (.tup [.int .i64 n, .int .i64 0], h, []) := by
  refine W_pure (m := M48) (h' := []) (ws := []) (fun _ => rfl) rfl rfl rfl ?_ h
  show xbody (W CP) M48 _ [] = _
  have e0 : n < 72057594037927936 := by omega
  have e1 : IntKind.u64.wrap (n * 256) = n * 256 := wr_u64 _ (by omega) (by omega)
  have e2 : IntKind.i64.wrap (n * 256) = n * 256 := wr_i64 _ (by omega) (by omega)
  have e3 : n * 256 / 256 = n := Int.mul_ediv_cancel _ (by omega)
  simp (maxDischargeDepth := 9) -implicitDefEqProofs only [push_cast, simprocAttr, M48, p73, p64_7, h0, e0, e1, e2, e3, Int.fdiv_eq_ediv_of_nonneg, Int.mul_one, Int.ediv_one]
theorem p48_7_hi (n : Int) (h0 : 36028797018963968 ≤ n) (h1 : n < 72057594037927936) (h : AHeap) : W CP 48 [.int .u64 n, .int .i64 7] h = some (.tup [.int .i64 (n - 72057594037927936), .int .i64 0], h, []) := by
  refine W_pure (m := M48) (h' := []) (ws := []) (fun _ => rfl) rfl rfl rfl ?_ h
  show xbody (W CP) M48 _ [] = _
  have e0 : 0 ≤ n := by omega
  have e1 : IntKind.u64.wrap (n * 256) = n * 256 := wr_u64 _ (by omega) (by omega)
  have e2 : IntKind.i64.wrap (n * 256) = (n - 72057594037927936) * 256 := by rw [IntKind.wrap_i64]; omega
  have e3 : (n - 72057594037927936) * 256 / 256 = n - 72057594037927936 := Int.mul_ediv_cancel _ (by omega)
  simp (maxDischargeDepth := 9) -implicitDefEqProofs only [push_cast, simprocAttr, M48, p73, p64_7, h1, e0, e1, e2, e3, Int.fdiv_eq_ediv_of_nonneg, Int.mul_one, Int.ediv_one]
theorem p48_7_bad (n : Int) (h0 : 72057594037927936 ≤ n) (h1 : n < 18446744073709551616) (h : AHeap) : W CP 48 [.int .u64 n, .int .i64 7] h = some (.tup [.int .i64 0, .int .i64 20], h, []) := by
  refine W_pure (m := M48) (h' := []) (ws := []) (fun _ => rfl) rfl rfl rfl ?_ h
  show xbody (W CP) M48 _ [] = _
  have a : W CP 64 [.int .u64 n, .int .i64 7] [] = some (.bool false, [], []) := by
    refine W_pure (m := M64) (h' := []) (ws := []) (fun _ => rfl) rfl rfl rfl ?_ []
    show xbody (W CP) M64 _ [] = _
    have e : ¬ n / 72057594037927936 = 0 := by omega
    simp (maxDischargeDepth := 9) -implicitDefEqProofs only [push_cast, simprocAttr, M64, Int.fdiv_eq_ediv_of_nonneg, e]
  simp (maxDischargeDepth := 9) -implicitDefEqProofs only [push_cast, simprocAttr, M48, p73, a]
theorem p50_7_lo (n : Int) (h0 : 0 ≤ n) (h1 : n < 36028797018963968) (h : AHeap) : W CP 50 [.int .i64 n, .int .i64 7] h = some (.tup [.int .u64 n, .int .i64 0], h, []) := by
  refine W_pure (m := M50) (h' := []) (ws := []) (fun _ => rfl) rfl rfl rfl ?_ h
  show xbody (W CP) M50 _ [] = _
  have e0 : IntKind.u64.wrap n = n := wr_u64 _ (by omega) (by omega)
  have e1 : IntKind.u64.wrap (n * 256) = n * 256 := wr_u64 _ (by omega) (by omega)
  have e2 : IntKind.i64.wrap (n * 256) = n * 256 := wr_i64 _ (by omega) (by omega)
  have e3 : n * 256 / 256 = n := Int.mul_ediv_cancel _ (by omega)
  simp (maxDischargeDepth := 9) -implicitDefEqProofs only [push_cast, simprocAttr, M50, p73, e0, e1, e2, e3, Int.fdiv_eq_ediv_of_nonneg, Int.mul_one, Int.ediv_one]
theorem p50_7_neg (n : Int) (h0 : -36028797018963968 ≤ n) (h1 : n < 0) (h : AHeap) : W CP 50 [.int .i64 n, .int .i64 7] h = some (.tup [.int .u64 (n + 72057594037927936), .int .i64 0], h, []) := by
  refine W_pure (m := M50) (h' := []) (ws := []) (fun _ => rfl) rfl rfl rfl ?_ h
  show xbody (W CP) M50 _ [] = _
  have e0 : IntKind.u64.wrap n = n + 18446744073709551616 := by rw [IntKind.wrap_u64]; omega
  have e1 : IntKind.u64.wrap ((n + 18446744073709551616) * 256) = (n + 72057594037927936) * 256 := by rw [IntKind.wrap_u64]; omega
  have e2 : IntKind.i64.wrap (n * 256) = n * 256 := wr_i64 _ (by omega) (by omega)
  have e3 : n * 256 / 256 = n := Int.mul_ediv_cancel _ (by omega)
  have e4 : (n + 72057594037927936) * 256 / 256 = n + 72057594037927936 := Int.mul_ediv_cancel _ (by omega)
  simp (maxDischargeDepth := 9) -implicitDefEqProofs only [push_cast, simprocAttr, M50, p73, e0, e1, e2, e3, e4, Int.fdiv_eq_ediv_of_nonneg, Int.mul_one, Int.ediv_one]
theorem p50_7_bad (n : Int) (h0 : n < -36028797018963968 ∨ 36028797018963968 ≤ n) (h1 : -9223372036854775808 ≤ n) (h2 : n ≤ 9223372036854775807) (h : AHeap) : W CP 50 [.int .i64 n, .int .i64 7] h = some (.tup [.int .u64 0, .int .i64 20], h, []) := by
  refine W_pure (m := M50) (h' := []) (ws := []) (fun _ => rfl) rfl rfl rfl ?_ h
  show xbody (W CP) M50 _ [] = _
  have e3 : ¬ IntKind.i64.wrap (n * 256) / 256 = n := by rw [IntKind.wrap_i64]; omega
  simp (maxDischargeDepth := 9) -implicitDefEqProofs only [push_cast, simprocAttr, M50, p73, e3, Int.fdiv_eq_ediv_of_nonneg]
theorem p64_8 (n : Int) (h0 : 0 ≤ n) (h1 : n < 18446744073709551616) (h : AHeap) : W CP 64 [.int .u64 n, .int .i64 8] h = some (.bool true, h, []) := by
  refine W_pure (m := M64) (h' := []) (ws := []) (fun _ => rfl) rfl rfl rfl ?_ h
  show xbody (W CP) M64 _ [] = _
  have e : n / 18446744073709551616 = 0 := Int.ediv_eq_zero_of_lt h0 h1
  simp (maxDischargeDepth := 9) -implicitDefEqProofs only [push_cast, simprocAttr, M64, Int.fdiv_eq_ediv_of_nonneg, e]
theorem p48_8_lo (n : Int) (h0 : 0 ≤ n) (h1 : n < 9223372036854775808) (h : AHeap) : W CP 48 [.int .u64 n, .int .i64 8] h = some (.tup [.int .i64 n, .int .i64 0], h, []) := by
  refine W_pure (m := M48) (h' := []) (ws := []) (fun _ => rfl) rfl rfl rfl ?_ h
  show xbody (W CP) M48 _ [] = _
  have e0 : n < 18446744073709551616 := by omega
  have e1 : IntKind.u64.wrap n = n := wr_u64 _ (by omega) (by omega)
  have e2 : IntKind.i64.wrap n = n := wr_i64 _ (by omega) (by omega)
  simp (maxDischargeDepth := 9) -implicitDefEqProofs only [push_cast, simprocAttr, M48, p73, p64_8, h0, e0, e1, e2, Int.fdiv_eq_ediv_of_nonneg, Int.mul_one, Int.ediv_one]
theorem p48_8_hi (n : Int) (h0 : 9223372036854775808 ≤ n) (h1 : n < 18446744073709551616) (h : AHeap) : W CP 48 [.int .u64 n, .int .i64 8] h = some (.tup [.int .i64 (n - 18446744073709551616), .int .i64 0], h, []) := by
  refine W_pure (m := M48) (h' := []) (ws := []) (fun _ => rfl) rfl rfl rfl ?_ h
  show xbody (W CP) M48 _ [] = _
  have e0 : 0 ≤ n := by omega
  have e1 : IntKind.u64.wrap n = n := wr_u64 _ (by omega) (by omega)
  have e2 : IntKind.i64.wrap n = (n - 18446744073709551616) := by rw [IntKind.wrap_i64]; omega
  simp (maxDischargeDepth := 9) -implicitDefEqProofs only [push_cast, simprocAttr, M48, p73, p64_8, h1, e0, e1, e2, Int.fdiv_eq_ediv_of_nonneg, Int.mul_one, Int.ediv_one]
theorem p50_8_lo (n : Int) (h0 : 0 ≤ n) (h1 : n < 9223372036854775808) (h : AHeap) : W CP 50 [.int .i64 n, .int .i64 8] h = some (.tup [.int .u64 n, .int .i64 0], h, []) := by
  refine W_pure (m := M50) (h' := []) (ws := []) (fun _ => rfl) rfl rfl rfl ?_ h
  show xbody (W CP) M50 _ [] = _
  have e0 : IntKind.u64.wrap n = n := wr_u64 _ (by omega) (by omega)
  have e1 : IntKind.u64.wrap n = n := wr_u64 _ (by omega) (by omega)
  have e2 : IntKind.i64.wrap n = n := wr_i64 _ (by omega) (by omega)
  simp (maxDischargeDepth := 9) -implicitDefEqProofs only [push_cast, simprocAttr, M50, p73, e0, e1, e2, Int.fdiv_eq_ediv_of_nonneg, Int.mul_one, Int.ediv_one]
theorem p50_8_neg (n : Int) (h0 : -9223372036854775808 ≤ n) (h1 : n < 0) (h : AHeap) : W CP 50 [.int .i64 n, .int .i64 8] h = some (.tup [.int .u64 (n + 18446744073709551616), .int .i64 0], h, []) := by
  refine W_pure (m := M50) (h' := []) (ws := []) (fun _ => rfl) rfl rfl rfl ?_ h
  show xbody (W CP) M50 _ [] = _
  have e0 : IntKind.u64.wrap n = n + 18446744073709551616 := by rw [IntKind.wrap_u64]; omega
  have e1 : IntKind.u64.wrap (n + 18446744073709551616) = (n + 18446744073709551616) := by rw [IntKind.wrap_u64]; omega
  have e2 : IntKind.i64.wrap n = n := wr_i64 _ (by omega) (by omega)
  simp (maxDischargeDepth := 9) -implicitDefEqProofs only [push_cast, simprocAttr, M50, p73, e0, e1, e2, Int.fdiv_eq_ediv_of_nonneg, Int.mul_one, Int.ediv_one]
end Go.Proofs.YtimlhgpjmjmjhaaW.AI.B
