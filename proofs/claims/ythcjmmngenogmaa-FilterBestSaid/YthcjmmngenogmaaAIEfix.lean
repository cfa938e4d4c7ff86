import Derived.Test.YthcjmmngenogmaaAIEbase
import Derived.Test.YthcjmmngenogmaaAIFixP
import Derived.Test.YthcjmmngenogmaaAITools
namespace Go.Proofs.YthcjmmngenogmaaW.AI.E
open Go Go.Proofs.YthcjmmngenogmaaW.AI
set_option maxRecDepth 100000
set_option linter.unusedSimpArgs false
set_option linter.unusedVariables false
set_option linter.unusedSectionVars false

theorem fix_Clamp {a lo hi : Int} (h : AHeap) : W CP 88 [.int .i64 a, .int .i64 lo, .int .i64 hi] h = some (.int .i64 (clamp a lo hi), h, []) := by
  refine W_val (m := M88) (fun _ => rfl) rfl rfl rfl ?_ h
  unfold clamp
  by_cases c1 : a < lo
  · simp (maxDischargeDepth := 9) -implicitDefEqProofs only [push_cast, simprocAttr, M88, c1]
    try rfl
  · by_cases c2 : hi < a
    · simp (maxDischargeDepth := 9) -implicitDefEqProofs only [push_cast, simprocAttr, M88, c1, c2]
      try rfl
    · simp (maxDischargeDepth := 9) -implicitDefEqProofs only [push_cast, simprocAttr, M88, c1, c2]
      try rfl
theorem fix_size {a : Int} (ha : I64 a) (h : AHeap) : W CP 112 [.int .i64 a] h = some (.int .u64 (a.natAbs : Int), h, []) := by
  obtain ⟨a1, a2⟩ := ha
  refine W_val (m := M112) (fun _ => rfl) rfl rfl rfl ?_ h
  by_cases c1 : a < 0
  · have e1 : IntKind.u64.wrap (0 - IntKind.u64.wrap a) = (a.natAbs : Int) := by rw [IntKind.wrap_u64, IntKind.wrap_u64]; omega
    simp (maxDischargeDepth := 9) -implicitDefEqProofs only [push_cast, simprocAttr, M112, c1, e1]
    try rfl
  · have e1 : IntKind.u64.wrap a = (a.natAbs : Int) := by rw [IntKind.wrap_u64]; omega
    simp (maxDischargeDepth := 9) -implicitDefEqProofs only [push_cast, simprocAttr, M112, c1, e1]
    try rfl
theorem fix_signed {n : Int} {b : Bool} (hn : U64 n) (h : AHeap) : W CP 113 [.int .u64 n, .bool b] h = some (.tup [.int .i64 (IntKind.i64.wrap (if b then -n else n)), .bool (decide (if b then n ≤ 9223372036854775808 else n < 9223372036854775808))], h, []) := by
  obtain ⟨a1, a2⟩ := hn
  refine W_val (m := M113) (fun _ => rfl) rfl rfl rfl ?_ h
  cases b
  · simp only [Bool.false_eq_true, if_false]
    simp (maxDischargeDepth := 9) -implicitDefEqProofs only [push_cast, simprocAttr, M113]
    try rfl
  · have e1 : IntKind.i64.wrap (IntKind.u64.wrap (0 - n)) = IntKind.i64.wrap (-n) := by rw [IntKind.wrap_u64, IntKind.wrap_i64, IntKind.wrap_i64]; omega
    simp only [if_true]
    simp (maxDischargeDepth := 9) -implicitDefEqProofs only [push_cast, simprocAttr, M113, e1]
    try rfl
theorem bits_Mul64 {x y : Int} (hx : U64 x) (hy : U64 y) (h : AHeap) : W CP 54 [.int .u64 x, .int .u64 y] h = some (.tup [.int .u64 (x * y / 18446744073709551616), .int .u64 (x * y % 18446744073709551616)], h, []) := by
  refine W_val (m := M54) (fun _ => rfl) rfl rfl rfl ?_ h
  obtain ⟨x0, hx0⟩ : ∃ x0, x0 = x % 4294967296 := ⟨_, rfl⟩
  obtain ⟨x1, hx1⟩ : ∃ x1, x1 = x / 4294967296 := ⟨_, rfl⟩
  obtain ⟨y0, hy0⟩ : ∃ x0, x0 = y % 4294967296 := ⟨_, rfl⟩
  obtain ⟨y1, hy1⟩ : ∃ x1, x1 = y / 4294967296 := ⟨_, rfl⟩
  obtain ⟨b00, b10, b01, b11, hxy⟩ := mul64_hi hx0 hx1 hy0 hy1 hx hy
  have fx := abits_and32 hx
  have fy := abits_and32 hy
  have gx : x.fdiv 4294967296 = x1 := by rw [Int.fdiv_eq_ediv_of_nonneg _ (by omega), hx1]
  have gy : y.fdiv 4294967296 = y1 := by rw [Int.fdiv_eq_ediv_of_nonneg _ (by omega), hy1]
  rw [← hx0] at fx
  rw [← hy0] at fy
  obtain ⟨x2, x3⟩ := hx
  obtain ⟨y2, y3⟩ := hy
  have w1 : IntKind.u64.wrap (x0 * y0) = x0 * y0 := wr_u64 _ (by omega) (by omega)
  have w2 : IntKind.u64.wrap (x1 * y0) = x1 * y0 := wr_u64 _ (by omega) (by omega)
  have w3 : IntKind.u64.wrap (x0 * y1) = x0 * y1 := wr_u64 _ (by omega) (by omega)
  have w4 : IntKind.u64.wrap (x1 * y1) = x1 * y1 := wr_u64 _ (by omega) (by omega)
  obtain ⟨P, hP⟩ : ∃ P, x1 * y1 = P := ⟨_, rfl⟩
  obtain ⟨Q, hQ⟩ : ∃ P, x1 * y0 = P := ⟨_, rfl⟩
  obtain ⟨R, hR⟩ : ∃ P, x0 * y1 = P := ⟨_, rfl⟩
  obtain ⟨T, hT⟩ : ∃ P, x0 * y0 = P := ⟨_, rfl⟩
  rw [hP, hQ, hR, hT] at hxy
  rw [hP] at b11 w4
  rw [hQ] at b10 w2
  rw [hR] at b01 w3
  rw [hT] at b00 w1
  have g1 : T.fdiv 4294967296 = T / 4294967296 := Int.fdiv_eq_ediv_of_nonneg _ (by omega)
  obtain ⟨t, ht⟩ : ∃ t, Q + T / 4294967296 = t := ⟨_, rfl⟩
  have v1 : IntKind.u64.wrap (Q + T / 4294967296) = t := by rw [← ht]; exact wr_u64 _ (by omega) (by omega)
  have f1 : abits .and .u64 t 4294967295 = t % 4294967296 := abits_and32 ⟨by omega, by omega⟩
  have g2 : t.fdiv 4294967296 = t / 4294967296 := Int.fdiv_eq_ediv_of_nonneg _ (by omega)
  obtain ⟨u, hu⟩ : ∃ u, t % 4294967296 + R = u := ⟨_, rfl⟩
  have v2 : IntKind.u64.wrap (t % 4294967296 + R) = u := by rw [← hu]; exact wr_u64 _ (by omega) (by omega)
  have g3 : u.fdiv 4294967296 = u / 4294967296 := Int.fdiv_eq_ediv_of_nonneg _ (by omega)
  have hb : 0 ≤ x * y ∧ x * y ≤ 18446744073709551615 * 18446744073709551615 := mul_bound x2 y2 (by omega) (by omega)
  have v3 : IntKind.u64.wrap (P + t / 4294967296) = P + t / 4294967296 := wr_u64 _ (by omega) (by omega)
  have v4 : IntKind.u64.wrap (P + t / 4294967296 + u / 4294967296) = x * y / 18446744073709551616 := by rw [wr_u64 _ (by omega) (by omega)]; omega
  have v5 : IntKind.u64.wrap (x * y) = x * y % 18446744073709551616 := by rw [IntKind.wrap_u64]
  have c64 : min 32 64 = 32 := rfl
  simp (maxDischargeDepth := 9) -implicitDefEqProofs only [push_cast, simprocAttr, M54, fx, fy, gx, gy, hP, hQ, hR, hT, w1, w2, w3, w4, g1, v1, f1, g2, v2, g3, v3, v4, v5, c64]
  try rfl
end Go.Proofs.YthcjmmngenogmaaW.AI.E
