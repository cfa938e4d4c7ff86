import Derived.Test.YtdpbbagllhfjbaaDoorAIGbase
import Derived.Test.YtdpbbagllhfjbaaDoorAIFixP
import Derived.Test.YtdpbbagllhfjbaaDoorAITools
namespace Go.Proofs.YtdpbbagllhfjbaaDoorW.AI.G
open Go Go.Proofs.YtdpbbagllhfjbaaDoorW.AI
set_option maxRecDepth 100000
set_option linter.unusedSimpArgs false
set_option linter.unusedVariables false
set_option linter.unusedSectionVars false

theorem bits_Mul64 {x y : Int} (hx : U64 x) (hy : U64 y) (h : AHeap) : W CP 53 [.int .u64 x, .int .u64 y] h = some (.tup [.int .u64 (x * y / 18446744073709551616), .int .u64 (x * y % 18446744073709551616)], h, []) := by
  refine W_val (m := M53) (fun _ => rfl) rfl rfl rfl ?_ h
  obtain ⟨x0, hx0⟩ : ∃ x0, x0 = x % 4294967296 := ⟨_, rfl⟩
  obtain ⟨x1, hx1⟩ : ∃ x1, x1 = x / 4294967296 := ⟨_, rfl⟩
  obtain ⟨y0, hy0⟩ : ∃ x0, x0 = y % 4294967296 := ⟨_, rfl⟩
  obtain ⟨y1, hy1⟩ : ∃ x1, x1 = y / 4294967296 := ⟨_, rfl⟩
  obtain ⟨b00, b10, b01, b11, hxy⟩ := mul64_hi hx0 hx1 hy0 hy1 hx hy
  have fx := abits_and32 hx
  have fy := abits_and32 hy
  have gx : x.fdiv 4294967296 = x1 := by rw [Int.fdiv_eq_ediv_of_nonneg _ (by omega), hx1]
  have gy : y.fdiv 4294967296 = y1 := by rw [Int.fdiv_eq_ediv_of_nonneg _ (by omega), hy1]
  rw [← hx0] at fx
  rw [← hy0] at fy
  obtain ⟨x2, x3⟩ := hx
  obtain ⟨y2, y3⟩ := hy
  have w1 : IntKind.u64.wrap (x0 * y0) = x0 * y0 := wr_u64 _ (by omega) (by omega)
  have w2 : IntKind.u64.wrap (x1 * y0) = x1 * y0 := wr_u64 _ (by omega) (by omega)
  have w3 : IntKind.u64.wrap (x0 * y1) = x0 * y1 := wr_u64 _ (by omega) (by omega)
  have w4 : IntKind.u64.wrap (x1 * y1) = x1 * y1 := wr_u64 _ (by omega) (by omega)
  obtain ⟨P, hP⟩ : ∃ P, x1 * y1 = P := ⟨_, rfl⟩
  obtain ⟨Q, hQ⟩ : ∃ P, x1 * y0 = P := ⟨_, rfl⟩
  obtain ⟨R, hR⟩ : ∃ P, x0 * y1 = P := ⟨_, rfl⟩
  obtain ⟨T, hT⟩ : ∃ P, x0 * y0 = P := ⟨_, rfl⟩
  rw [hP, hQ, hR, hT] at hxy
  rw [hP] at b11 w4
  rw [hQ] at b10 w2
  rw [hR] at b01 w3
  rw [hT] at b00 w1
  have g1 : T.fdiv 4294967296 = T / 4294967296 := Int.fdiv_eq_ediv_of_nonneg _ (by omega)
  obtain ⟨t, ht⟩ : ∃ t, Q + T / 4294967296 = t := ⟨_, rfl⟩
  have v1 : IntKind.u64.wrap (Q + T / 4294967296) = t := by rw [← ht]; exact wr_u64 _ (by omega) (by omega)
  have f1 : abits .and .u64 t 4294967295 = t % 4294967296 := abits_and32 ⟨by omega, by omega⟩
  have g2 : t.fdiv 4294967296 = t / 4294967296 := Int.fdiv_eq_ediv_of_nonneg _ (by omega)
  obtain ⟨u, hu⟩ : ∃ u, t % 4294967296 + R = u := ⟨_, rfl⟩
  have v2 : IntKind.u64.wrap (t % 4294967296 + R) = u := by rw [← hu]; exact wr_u64 _ (by omega) (by omega)
  have g3 : u.fdiv 4294967296 = u / 4294967296 := Int.fdiv_eq_ediv_of_nonneg _ (by omega)
  have hb : 0 ≤ x * y ∧ x * y ≤ 18446744073709551615 * 18446744073709551615 := mul_bound x2 y2 (by omega) (by omega)
  have v3 : IntKind.u64.wrap (P + t / 4294967296) = P + t / 4294967296 := wr_u64 _ (by omega) (by omega)
  have v4 : IntKind.u64.wrap (P + t / 4294967296 + u / 4294967296) = x * y / 18446744073709551616 := by rw [wr_u64 _ (by omega) (by omega)]; omega
  have v5 : IntKind.u64.wrap (x * y) = x * y % 18446744073709551616 := by rw [IntKind.wrap_u64]
  have c64 : min 32 64 = 32 := rfl
  simp (maxDischargeDepth := 9) -implicitDefEqProofs only [push_cast, simprocAttr, M53, fx, fy, gx, gy, hP, hQ, hR, hT, w1, w2, w3, w4, g1, v1, f1, g2, v2, g3, v3, v4, v5, c64]
  try rfl
end Go.Proofs.YtdpbbagllhfjbaaDoorW.AI.G
namespace Go.Proofs.YtdpbbagllhfjbaaDoorW.AI.G
open Go Go.Proofs.YtdpbbagllhfjbaaDoorW.AI
set_option maxRecDepth 100000
set_option linter.unusedSimpArgs false
set_option linter.unusedVariables false
set_option linter.unusedSectionVars false

def lenTab : List UInt8 := [0, 1, 2, 2, 3, 3, 3, 3, 4, 4, 4, 4, 4, 4, 4, 4, 5, 5, 5, 5, 5, 5, 5, 5, 5, 5, 5, 5, 5, 5, 5, 5, 6, 6, 6, 6, 6, 6, 6, 6, 6, 6, 6, 6, 6, 6, 6, 6, 6, 6, 6, 6, 6, 6, 6, 6, 6, 6, 6, 6, 6, 6, 6, 6, 7, 7, 7, 7, 7, 7, 7, 7, 7, 7, 7, 7, 7, 7, 7, 7, 7, 7, 7, 7, 7, 7, 7, 7, 7, 7, 7, 7, 7, 7, 7, 7, 7, 7, 7, 7, 7, 7, 7, 7, 7, 7, 7, 7, 7, 7, 7, 7, 7, 7, 7, 7, 7, 7, 7, 7, 7, 7, 7, 7, 7, 7, 7, 7, 8, 8, 8, 8, 8, 8, 8, 8, 8, 8, 8, 8, 8, 8, 8, 8, 8, 8, 8, 8, 8, 8, 8, 8, 8, 8, 8, 8, 8, 8, 8, 8, 8, 8, 8, 8, 8, 8, 8, 8, 8, 8, 8, 8, 8, 8, 8, 8, 8, 8, 8, 8, 8, 8, 8, 8, 8, 8, 8, 8, 8, 8, 8, 8, 8, 8, 8, 8, 8, 8, 8, 8, 8, 8, 8, 8, 8, 8, 8, 8, 8, 8, 8, 8, 8, 8, 8, 8, 8, 8, 8, 8, 8, 8, 8, 8, 8, 8, 8, 8, 8, 8, 8, 8, 8, 8, 8, 8, 8, 8, 8, 8, 8, 8, 8, 8, 8, 8, 8, 8, 8, 8, 8, 8, 8, 8, 8, 8]
theorem len8 {z : Int} (h0 : 0 ≤ z) (h1 : z < 256) : ([0, 1, 2, 2, 3, 3, 3, 3, 4, 4, 4, 4, 4, 4, 4, 4, 5, 5, 5, 5, 5, 5, 5, 5, 5, 5, 5, 5, 5, 5, 5, 5, 6, 6, 6, 6, 6, 6, 6, 6, 6, 6, 6, 6, 6, 6, 6, 6, 6, 6, 6, 6, 6, 6, 6, 6, 6, 6, 6, 6, 6, 6, 6, 6, 7, 7, 7, 7, 7, 7, 7, 7, 7, 7, 7, 7, 7, 7, 7, 7, 7, 7, 7, 7, 7, 7, 7, 7, 7, 7, 7, 7, 7, 7, 7, 7, 7, 7, 7, 7, 7, 7, 7, 7, 7, 7, 7, 7, 7, 7, 7, 7, 7, 7, 7, 7, 7, 7, 7, 7, 7, 7, 7, 7, 7, 7, 7, 7, 8, 8, 8, 8, 8, 8, 8, 8, 8, 8, 8, 8, 8, 8, 8, 8, 8, 8, 8, 8, 8, 8, 8, 8, 8, 8, 8, 8, 8, 8, 8, 8, 8, 8, 8, 8, 8, 8, 8, 8, 8, 8, 8, 8, 8, 8, 8, 8, 8, 8, 8, 8, 8, 8, 8, 8, 8, 8, 8, 8, 8, 8, 8, 8, 8, 8, 8, 8, 8, 8, 8, 8, 8, 8, 8, 8, 8, 8, 8, 8, 8, 8, 8, 8, 8, 8, 8, 8, 8, 8, 8, 8, 8, 8, 8, 8, 8, 8, 8, 8, 8, 8, 8, 8, 8, 8, 8, 8, 8, 8, 8, 8, 8, 8, 8, 8, 8, 8, 8, 8, 8, 8, 8, 8, 8, 8, 8, 8] : List UInt8)[z.toNat]? = some (UInt8.ofNat (bitlen z)) := by
  have : ∀ i : Fin 256, lenTab[i.1]? = some (UInt8.ofNat (bitlen (i.1 : Int))) := by decide +kernel
  have h2 := this ⟨z.toNat, by omega⟩
  have h3 : ((z.toNat : Nat) : Int) = z := by omega
  simp only [h3] at h2
  exact h2
theorem bits_Len64 {x : Int} (hx : U64 x) (h : AHeap) : W CP 113 [.int .u64 x] h = some (.int .i64 (bitlen x : Int), h, []) := by
  obtain ⟨x0, x1⟩ := hx
  refine W_val (m := M113) (fun _ => rfl) rfl rfl rfl ?_ h
  by_cases c1 : 4294967296 ≤ x
  · obtain ⟨x1, hx1⟩ : ∃ y, x / 4294967296 = y := ⟨_, rfl⟩
    have e1 : x.fdiv 4294967296 = x1 := by rw [Int.fdiv_eq_ediv_of_nonneg _ (by omega), hx1]
    have s1 : bitlen x = bitlen x1 + 32 := by rw [bitlen_shift (j := 32) (n := x) (by omega), ← hx1]; rfl
    by_cases c2 : 65536 ≤ x1
    · obtain ⟨x2, hx2⟩ : ∃ y, x1 / 65536 = y := ⟨_, rfl⟩
      have e2 : x1.fdiv 65536 = x2 := by rw [Int.fdiv_eq_ediv_of_nonneg _ (by omega), hx2]
      have s2 : bitlen x1 = bitlen x2 + 16 := by rw [bitlen_shift (j := 16) (n := x1) (by omega), ← hx2]; rfl
      by_cases c3 : 256 ≤ x2
      · obtain ⟨x3, hx3⟩ : ∃ y, x2 / 256 = y := ⟨_, rfl⟩
        have e3 : x2.fdiv 256 = x3 := by rw [Int.fdiv_eq_ediv_of_nonneg _ (by omega), hx3]
        have s3 : bitlen x2 = bitlen x3 + 8 := by rw [bitlen_shift (j := 8) (n := x2) (by omega), ← hx3]; rfl
        have z0 : 0 ≤ x3 := by omega
        have z1 : x3 < 256 := by omega
        have v8 : IntKind.u8.wrap x3 = x3 := wr_u8 _ z0 (by omega)
        have ht := len8 z0 z1
        have hb : bitlen x3 ≤ 8 := bitlen_le z0 (by omega)
        obtain ⟨m, hm⟩ : ∃ m, bitlen x3 = m := ⟨_, rfl⟩
        rw [hm] at ht hb
        have hx : bitlen x = m + 8 + 16 + 32 := by rw [s1, s2, s3, hm]
        have u1 : ((UInt8.ofNat m).toNat : Int) = (m : Int) := by rw [UInt8.toNat_ofNat']; omega
        have w1 : IntKind.i64.wrap (m : Int) = (m : Int) := wr_i64 _ (by omega) (by omega)
        have w2 : IntKind.i64.wrap (56 + (m : Int)) = (m : Int) + 56 := by rw [wr_i64 _ (by omega) (by omega)]; omega
        have wl32_16 : IntKind.i64.wrap 48 = 48 := wr_i64 _ (by omega) (by omega)
        have wl48_8 : IntKind.i64.wrap 56 = 56 := wr_i64 _ (by omega) (by omega)
        rw [hx]
        simp (maxDischargeDepth := 9) -implicitDefEqProofs only [push_cast, simprocAttr, M113, c1, e1, c2, e2, c3, e3, v8, z0, ht, u1, w1, w2, wl32_16, wl48_8]
        try (first | rfl | (simp; done) | (simp; omega))
      · have z0 : 0 ≤ x2 := by omega
        have z1 : x2 < 256 := by omega
        have v8 : IntKind.u8.wrap x2 = x2 := wr_u8 _ z0 (by omega)
        have ht := len8 z0 z1
        have hb : bitlen x2 ≤ 8 := bitlen_le z0 (by omega)
        obtain ⟨m, hm⟩ : ∃ m, bitlen x2 = m := ⟨_, rfl⟩
        rw [hm] at ht hb
        have hx : bitlen x = m + 16 + 32 := by rw [s1, s2, hm]
        have u1 : ((UInt8.ofNat m).toNat : Int) = (m : Int) := by rw [UInt8.toNat_ofNat']; omega
        have w1 : IntKind.i64.wrap (m : Int) = (m : Int) := wr_i64 _ (by omega) (by omega)
        have w2 : IntKind.i64.wrap (48 + (m : Int)) = (m : Int) + 48 := by rw [wr_i64 _ (by omega) (by omega)]; omega
        have wl32_16 : IntKind.i64.wrap 48 = 48 := wr_i64 _ (by omega) (by omega)
        rw [hx]
        simp (maxDischargeDepth := 9) -implicitDefEqProofs only [push_cast, simprocAttr, M113, c1, e1, c2, e2, c3, v8, z0, ht, u1, w1, w2, wl32_16]
        try (first | rfl | (simp; done) | (simp; omega))
    · by_cases c3 : 256 ≤ x1
      · obtain ⟨x3, hx3⟩ : ∃ y, x1 / 256 = y := ⟨_, rfl⟩
        have e3 : x1.fdiv 256 = x3 := by rw [Int.fdiv_eq_ediv_of_nonneg _ (by omega), hx3]
        have s3 : bitlen x1 = bitlen x3 + 8 := by rw [bitlen_shift (j := 8) (n := x1) (by omega), ← hx3]; rfl
        have z0 : 0 ≤ x3 := by omega
        have z1 : x3 < 256 := by omega
        have v8 : IntKind.u8.wrap x3 = x3 := wr_u8 _ z0 (by omega)
        have ht := len8 z0 z1
        have hb : bitlen x3 ≤ 8 := bitlen_le z0 (by omega)
        obtain ⟨m, hm⟩ : ∃ m, bitlen x3 = m := ⟨_, rfl⟩
        rw [hm] at ht hb
        have hx : bitlen x = m + 8 + 32 := by rw [s1, s3, hm]
        have u1 : ((UInt8.ofNat m).toNat : Int) = (m : Int) := by rw [UInt8.toNat_ofNat']; omega
        have w1 : IntKind.i64.wrap (m : Int) = (m : Int) := wr_i64 _ (by omega) (by omega)
        have w2 : IntKind.i64.wrap (40 + (m : Int)) = (m : Int) + 40 := by rw [wr_i64 _ (by omega) (by omega)]; omega
        have wl32_8 : IntKind.i64.wrap 40 = 40 := wr_i64 _ (by omega) (by omega)
        rw [hx]
        simp (maxDischargeDepth := 9) -implicitDefEqProofs only [push_cast, simprocAttr, M113, c1, e1, c2, c3, e3, v8, z0, ht, u1, w1, w2, wl32_8]
        try (first | rfl | (simp; done) | (simp; omega))
      · have z0 : 0 ≤ x1 := by omega
        have z1 : x1 < 256 := by omega
        have v8 : IntKind.u8.wrap x1 = x1 := wr_u8 _ z0 (by omega)
        have ht := len8 z0 z1
        have hb : bitlen x1 ≤ 8 := bitlen_le z0 (by omega)
        obtain ⟨m, hm⟩ : ∃ m, bitlen x1 = m := ⟨_, rfl⟩
        rw [hm] at ht hb
        have hx : bitlen x = m + 32 := by rw [s1, hm]
        have u1 : ((UInt8.ofNat m).toNat : Int) = (m : Int) := by rw [UInt8.toNat_ofNat']; omega
        have w1 : IntKind.i64.wrap (m : Int) = (m : Int) := wr_i64 _ (by omega) (by omega)
        have w2 : IntKind.i64.wrap (32 + (m : Int)) = (m : Int) + 32 := by rw [wr_i64 _ (by omega) (by omega)]; omega
        rw [hx]
        simp (maxDischargeDepth := 9) -implicitDefEqProofs only [push_cast, simprocAttr, M113, c1, e1, c2, c3, v8, z0, ht, u1, w1, w2]
        try (first | rfl | (simp; done) | (simp; omega))
  · by_cases c2 : 65536 ≤ x
    · obtain ⟨x2, hx2⟩ : ∃ y, x / 65536 = y := ⟨_, rfl⟩
      have e2 : x.fdiv 65536 = x2 := by rw [Int.fdiv_eq_ediv_of_nonneg _ (by omega), hx2]
      have s2 : bitlen x = bitlen x2 + 16 := by rw [bitlen_shift (j := 16) (n := x) (by omega), ← hx2]; rfl
      by_cases c3 : 256 ≤ x2
      · obtain ⟨x3, hx3⟩ : ∃ y, x2 / 256 = y := ⟨_, rfl⟩
        have e3 : x2.fdiv 256 = x3 := by rw [Int.fdiv_eq_ediv_of_nonneg _ (by omega), hx3]
        have s3 : bitlen x2 = bitlen x3 + 8 := by rw [bitlen_shift (j := 8) (n := x2) (by omega), ← hx3]; rfl
        have z0 : 0 ≤ x3 := by omega
        have z1 : x3 < 256 := by omega
        have v8 : IntKind.u8.wrap x3 = x3 := wr_u8 _ z0 (by omega)
        have ht := len8 z0 z1
        have hb : bitlen x3 ≤ 8 := bitlen_le z0 (by omega)
        obtain ⟨m, hm⟩ : ∃ m, bitlen x3 = m := ⟨_, rfl⟩
        rw [hm] at ht hb
        have hx : bitlen x = m + 8 + 16 := by rw [s2, s3, hm]
        have u1 : ((UInt8.ofNat m).toNat : Int) = (m : Int) := by rw [UInt8.toNat_ofNat']; omega
        have w1 : IntKind.i64.wrap (m : Int) = (m : Int) := wr_i64 _ (by omega) (by omega)
        have w2 : IntKind.i64.wrap (24 + (m : Int)) = (m : Int) + 24 := by rw [wr_i64 _ (by omega) (by omega)]; omega
        have wl0_16 : IntKind.i64.wrap 16 = 16 := wr_i64 _ (by omega) (by omega)
        have wl16_8 : IntKind.i64.wrap 24 = 24 := wr_i64 _ (by omega) (by omega)
        rw [hx]
        simp (maxDischargeDepth := 9) -implicitDefEqProofs only [push_cast, simprocAttr, M113, c1, c2, e2, c3, e3, v8, z0, ht, u1, w1, w2, wl0_16, wl16_8]
        try (first | rfl | (simp; done) | (simp; omega))
      · have z0 : 0 ≤ x2 := by omega
        have z1 : x2 < 256 := by omega
        have v8 : IntKind.u8.wrap x2 = x2 := wr_u8 _ z0 (by omega)
        have ht := len8 z0 z1
        have hb : bitlen x2 ≤ 8 := bitlen_le z0 (by omega)
        obtain ⟨m, hm⟩ : ∃ m, bitlen x2 = m := ⟨_, rfl⟩
        rw [hm] at ht hb
        have hx : bitlen x = m + 16 := by rw [s2, hm]
        have u1 : ((UInt8.ofNat m).toNat : Int) = (m : Int) := by rw [UInt8.toNat_ofNat']; omega
        have w1 : IntKind.i64.wrap (m : Int) = (m : Int) := wr_i64 _ (by omega) (by omega)
        have w2 : IntKind.i64.wrap (16 + (m : Int)) = (m : Int) + 16 := by rw [wr_i64 _ (by omega) (by omega)]; omega
        have wl0_16 : IntKind.i64.wrap 16 = 16 := wr_i64 _ (by omega) (by omega)
        rw [hx]
        simp (maxDischargeDepth := 9) -implicitDefEqProofs only [push_cast, simprocAttr, M113, c1, c2, e2, c3, v8, z0, ht, u1, w1, w2, wl0_16]
        try (first | rfl | (simp; done) | (simp; omega))
    · by_cases c3 : 256 ≤ x
      · obtain ⟨x3, hx3⟩ : ∃ y, x / 256 = y := ⟨_, rfl⟩
        have e3 : x.fdiv 256 = x3 := by rw [Int.fdiv_eq_ediv_of_nonneg _ (by omega), hx3]
        have s3 : bitlen x = bitlen x3 + 8 := by rw [bitlen_shift (j := 8) (n := x) (by omega), ← hx3]; rfl
        have z0 : 0 ≤ x3 := by omega
        have z1 : x3 < 256 := by omega
        have v8 : IntKind.u8.wrap x3 = x3 := wr_u8 _ z0 (by omega)
        have ht := len8 z0 z1
        have hb : bitlen x3 ≤ 8 := bitlen_le z0 (by omega)
        obtain ⟨m, hm⟩ : ∃ m, bitlen x3 = m := ⟨_, rfl⟩
        rw [hm] at ht hb
        have hx : bitlen x = m + 8 := by rw [s3, hm]
        have u1 : ((UInt8.ofNat m).toNat : Int) = (m : Int) := by rw [UInt8.toNat_ofNat']; omega
        have w1 : IntKind.i64.wrap (m : Int) = (m : Int) := wr_i64 _ (by omega) (by omega)
        have w2 : IntKind.i64.wrap (8 + (m : Int)) = (m : Int) + 8 := by rw [wr_i64 _ (by omega) (by omega)]; omega
        have wl0_8 : IntKind.i64.wrap 8 = 8 := wr_i64 _ (by omega) (by omega)
        rw [hx]
        simp (maxDischargeDepth := 9) -implicitDefEqProofs only [push_cast, simprocAttr, M113, c1, c2, c3, e3, v8, z0, ht, u1, w1, w2, wl0_8]
        try (first | rfl | (simp; done) | (simp; omega))
      · have z0 : 0 ≤ x := by omega
        have z1 : x < 256 := by omega
        have v8 : IntKind.u8.wrap x = x := wr_u8 _ z0 (by omega)
        have ht := len8 z0 z1
        have hb : bitlen x ≤ 8 := bitlen_le z0 (by omega)
        obtain ⟨m, hm⟩ : ∃ m, bitlen x = m := ⟨_, rfl⟩
        rw [hm] at ht hb
        have hx : bitlen x = m := by rw [hm]
        have u1 : ((UInt8.ofNat m).toNat : Int) = (m : Int) := by rw [UInt8.toNat_ofNat']; omega
        have w1 : IntKind.i64.wrap (m : Int) = (m : Int) := wr_i64 _ (by omega) (by omega)
        have w2 : IntKind.i64.wrap (0 + (m : Int)) = (m : Int) + 0 := by rw [wr_i64 _ (by omega) (by omega)]; omega
        rw [hx]
        simp (maxDischargeDepth := 9) -implicitDefEqProofs only [push_cast, simprocAttr, M113, c1, c2, c3, v8, z0, ht, u1, w1, w2]
        try (first | rfl | (simp; done) | (simp; omega))
theorem bits_LeadingZeros64 {x : Int} {s : Nat} (hx : U64 x) (hs : bitlen x + s = 64) (h : AHeap) : W CP 93 [.int .u64 x] h = some (.int .i64 (s : Int), h, []) := by
  have e := fun g => bits_Len64 hx g
  have w1 : IntKind.i64.wrap (64 - (bitlen x : Int)) = (s : Int) := by rw [wr_i64 _ (by omega) (by omega)]; omega
  refine W_val (m := M93) (fun _ => rfl) rfl rfl rfl ?_ h
  simp (maxDischargeDepth := 9) -implicitDefEqProofs only [push_cast, simprocAttr, M93, e, w1]
theorem div_first {u u1 y y1 y0 q : Int} (hy : y = y1 * 4294967296 + y0) (hy0 : 0 ≤ y0 ∧ y0 < 4294967296) (hy1 : 2147483648 ≤ y1 ∧ y1 < 4294967296) (hu : 0 ≤ u ∧ u < y) (hu1 : 0 ≤ u1 ∧ u1 < 4294967296) (hq : q = u / y1) :
    (u * 4294967296 + u1) / y ≤ q ∧ 0 ≤ u - q * y1 ∧ u - q * y1 < y1 ∧ 0 ≤ q ∧ q * y1 ≤ u ∧ 0 ≤ q * y1 ∧ q < 8589934592 := by
  have e := Int.mul_ediv_add_emod u y1
  have m0 := Int.emod_nonneg u (show y1 ≠ 0 by omega)
  have m1 := Int.emod_lt_of_pos u (show 0 < y1 by omega)
  have q0 : 0 ≤ q := by rw [hq]; exact Int.ediv_nonneg hu.1 (by omega)
  have e2 : q * y1 = u - u % y1 := by rw [hq, Int.mul_comm]; omega
  have q1 : q < 8589934592 := by
    rw [hq]; exact Int.ediv_lt_of_lt_mul (by omega) (by omega)
  refine ⟨?_, by omega, by omega, q0, by omega, Int.mul_nonneg q0 (by omega), q1⟩
  have : u * 4294967296 + u1 < (q + 1) * y := by
    rw [hy, Int.mul_add, ← Int.mul_assoc, Int.add_mul q 1 y1, e2]
    have := Int.mul_nonneg (show 0 ≤ q + 1 by omega) hy0.1
    omega
  have := Int.ediv_lt_of_lt_mul (show 0 < y by omega) this
  omega
theorem div_quo_lt {u u1 y : Int} (hu : 0 ≤ u ∧ u < y) (hu1 : 0 ≤ u1 ∧ u1 < 4294967296) : 0 ≤ (u * 4294967296 + u1) / y ∧ (u * 4294967296 + u1) / y < 4294967296 := by
  constructor
  · exact Int.ediv_nonneg (by omega) (by omega)
  · refine Int.ediv_lt_of_lt_mul (by omega) ?_
    have := Int.mul_le_mul_of_nonneg_left (show u + 1 ≤ y by omega) (show (0 : Int) ≤ 4294967296 by omega)
    omega
set_option maxHeartbeats 4000000 in
theorem bits_Div64 {hi lo y : Int} (hhi : U64 hi) (hlo : U64 lo) (hy : U64 y) (hlt : hi < y) (h : AHeap) :
    W CP 54 [.int .u64 hi, .int .u64 lo, .int .u64 y] h = some (.tup [.int .u64 ((hi * 18446744073709551616 + lo) / y), .int .u64 ((hi * 18446744073709551616 + lo) % y)], h, []) := by
  have y0 : ¬ y = 0 := by have := hhi.1; omega
  have y1 : ¬ y ≤ hi := by omega
  refine W_val (m := M54) (fun _ => rfl) rfl rfl rfl ?_ h
  by_cases hz : hi = 0
  · subst hz
    have e1 : IntKind.u64.wrap (lo.tdiv y) = lo / y := by rw [Int.tdiv_eq_ediv_of_nonneg hlo.1]; exact wr_u64 _ (Int.ediv_nonneg hlo.1 hy.1) (by have := Int.ediv_le_self y hlo.1; have := hlo.2; omega)
    have e2 : lo.tmod y = lo % y := Int.tmod_eq_emod_of_nonneg hlo.1
    simp (maxDischargeDepth := 9) -implicitDefEqProofs only [push_cast, simprocAttr, M54, y0, y1, e1, e2, Int.zero_mul]
  · obtain ⟨s, hs, s63, n0, n1⟩ := norm_top hy (by have := hy.1; omega)
    have elz := fun g => bits_LeadingZeros64 hy hs g
    have hp : (0 : Int) < 2 ^ s := Int.pow_pos (by omega)
    have hg : (0 : Int) < 2 ^ (64 - s) := Int.pow_pos (by omega)
    obtain ⟨hN, hU, hU0, l0, l1⟩ := div64_norm hp hg (pow64 (by omega)) hlo hhi.1 hlt
    have a1 : IntKind.u64.wrap (s : Int) = (s : Int) := wr_u64 _ (by omega) (by omega)
    have a2 : ¬ (s : Int) < 0 := by omega
    have a3 : min s 64 = s := by omega
    have a4 : IntKind.u64.wrap (64 - (s : Int)) = ((64 - s : Nat) : Int) := by rw [wr_u64 _ (by omega) (by omega)]; omega
    have a5 : ¬ ((64 - s : Nat) : Int) < 0 := by omega
    have a6 : min (64 - s) 64 = 64 - s := by omega
    obtain ⟨y', hy'⟩ : ∃ y', y * 2 ^ s = y' := ⟨_, rfl⟩
    rw [hy'] at n0 n1 hU
    have b1 : IntKind.u64.wrap y' = y' := wr_u64 _ (by omega) (by omega)
    have b2 : y'.fdiv 4294967296 = y' / 4294967296 := Int.fdiv_eq_ediv_of_nonneg _ (by omega)
    have b3 := abits_and32 (x := y') ⟨by omega, n1⟩
    have b4 : IntKind.u64.wrap (hi * 2 ^ s) = hi * 2 ^ s := wr_u64 _ (Int.mul_nonneg hhi.1 (by omega)) (by omega)
    have b5 : lo.fdiv (2 ^ (64 - s)) = lo / 2 ^ (64 - s) := Int.fdiv_eq_ediv_of_nonneg _ (by omega)
    have b6 : abits .or .u64 (hi * 2 ^ s) (lo / 2 ^ (64 - s)) = hi * 2 ^ s + lo / 2 ^ (64 - s) :=
      abits_or (i := s) (Int.mul_nonneg hhi.1 (by omega)) l0 l1 ⟨hi.toNat, by rw [Int.toNat_of_nonneg hhi.1, Int.mul_comm]⟩ (by omega)
    obtain ⟨U, hUe⟩ : ∃ U, hi * 2 ^ s + lo / 2 ^ (64 - s) = U := ⟨_, rfl⟩
    rw [hUe] at b6 hU hU0 hN
    obtain ⟨L, hL⟩ : ∃ L, lo * 2 ^ s % 18446744073709551616 = L := ⟨_, rfl⟩
    rw [hL] at hN
    have b7 : IntKind.u64.wrap (lo * 2 ^ s) = L := by rw [IntKind.wrap_u64]; exact hL
    have L0 : 0 ≤ L ∧ L < 18446744073709551616 := by omega
    have b8 : L.fdiv 4294967296 = L / 4294967296 := Int.fdiv_eq_ediv_of_nonneg _ (by omega)
    have b9 := abits_and32 (x := L) L0
    obtain ⟨yn1, hyn1⟩ : ∃ a, y' / 4294967296 = a := ⟨_, rfl⟩
    obtain ⟨yn0, hyn0⟩ : ∃ a, y' % 4294967296 = a := ⟨_, rfl⟩
    obtain ⟨un1, hun1⟩ : ∃ a, L / 4294967296 = a := ⟨_, rfl⟩
    obtain ⟨un0, hun0⟩ : ∃ a, L % 4294967296 = a := ⟨_, rfl⟩
    rw [hyn1] at b2
    rw [hyn0] at b3
    rw [hun1] at b8
    rw [hun0] at b9
    have ey : y' = yn1 * 4294967296 + yn0 := by omega
    have ry1 : 2147483648 ≤ yn1 ∧ yn1 < 4294967296 := by omega
    have ry0 : 0 ≤ yn0 ∧ yn0 < 4294967296 := by omega
    have ru1 : 0 ≤ un1 ∧ un1 < 4294967296 := by omega
    have ru0 : 0 ≤ un0 ∧ un0 < 4294967296 := by omega
    have yz : ¬ yn1 = 0 := by omega
    -- the first digit
    obtain ⟨q, hq⟩ : ∃ q, U / yn1 = q := ⟨_, rfl⟩
    obtain ⟨f1, f2, f3, f4, f5, f6, f7⟩ := div_first (u1 := un1) ey ry0 ry1 ⟨hU0, hU⟩ ru1 hq.symm
    have c1 : IntKind.u64.wrap (U.tdiv yn1) = q := by rw [Int.tdiv_eq_ediv_of_nonneg hU0, hq]; exact wr_u64 _ f4 (by omega)
    have c2 : IntKind.u64.wrap (q * yn1) = q * yn1 := wr_u64 _ f6 (by omega)
    have c3 : IntKind.u64.wrap (U - q * yn1) = U - q * yn1 := wr_u64 _ f2 (by omega)
    obtain ⟨Q1, hQ1⟩ : ∃ Q, (U * 4294967296 + un1) / y' = Q := ⟨_, rfl⟩
    obtain ⟨p1, p2⟩ := div_quo_lt ⟨hU0, hU⟩ ru1
    rw [hQ1] at f1 p1 p2
    obtain ⟨d1, d2⟩ : U * 4294967296 + un1 = Q1 * y' + (U * 4294967296 + un1) % y' ∧ 0 ≤ (U * 4294967296 + un1) % y' ∧ (U * 4294967296 + un1) % y' < y' := by
      refine ⟨?_, Int.emod_nonneg _ (by omega), Int.emod_lt_of_pos _ (by omega)⟩
      have := Int.mul_ediv_add_emod (U * 4294967296 + un1) y'
      rw [hQ1, Int.mul_comm] at this; omega
    obtain ⟨R1, hR1⟩ : ∃ R, (U * 4294967296 + un1) % y' = R := ⟨_, rfl⟩
    rw [hR1] at d1 d2
    obtain ⟨Z1, hZ1⟩ : ∃ Z, Q1 * y' = Z := ⟨_, rfl⟩
    have g1 : IntKind.u64.wrap (IntKind.u64.wrap (IntKind.u64.wrap (U * 4294967296) + un1) - IntKind.u64.wrap Z1) = R1 := by
      rw [hZ1] at d1
      simp only [IntKind.wrap_u64]
      omega
    -- the second digit
    obtain ⟨q', hq'⟩ : ∃ q, R1 / yn1 = q := ⟨_, rfl⟩
    obtain ⟨k1, k2, k3, k4, k5, k6, k7⟩ := div_first (u1 := un0) ey ry0 ry1 d2 ru0 hq'.symm
    have c4 : IntKind.u64.wrap (R1.tdiv yn1) = q' := by rw [Int.tdiv_eq_ediv_of_nonneg d2.1, hq']; exact wr_u64 _ k4 (by omega)
    have c5 : IntKind.u64.wrap (q' * yn1) = q' * yn1 := wr_u64 _ k6 (by omega)
    have c6 : IntKind.u64.wrap (R1 - q' * yn1) = R1 - q' * yn1 := wr_u64 _ k2 (by omega)
    obtain ⟨Q0, hQ0⟩ : ∃ Q, (R1 * 4294967296 + un0) / y' = Q := ⟨_, rfl⟩
    obtain ⟨p3, p4⟩ := div_quo_lt d2 ru0
    rw [hQ0] at k1 p3 p4
    obtain ⟨d3, d4⟩ : R1 * 4294967296 + un0 = Q0 * y' + (R1 * 4294967296 + un0) % y' ∧ 0 ≤ (R1 * 4294967296 + un0) % y' ∧ (R1 * 4294967296 + un0) % y' < y' := by
      refine ⟨?_, Int.emod_nonneg _ (by omega), Int.emod_lt_of_pos _ (by omega)⟩
      have := Int.mul_ediv_add_emod (R1 * 4294967296 + un0) y'
      rw [hQ0, Int.mul_comm] at this; omega
    obtain ⟨R0, hR0⟩ : ∃ R, (R1 * 4294967296 + un0) % y' = R := ⟨_, rfl⟩
    rw [hR0] at d3 d4
    obtain ⟨Z0, hZ0⟩ : ∃ Z, Q0 * y' = Z := ⟨_, rfl⟩
    have g2 : IntKind.u64.wrap (IntKind.u64.wrap (IntKind.u64.wrap (R1 * 4294967296) + un0) - IntKind.u64.wrap Z0) = R0 := by
      rw [hZ0] at d3
      simp only [IntKind.wrap_u64]
      omega
    have hN2 : (hi * 18446744073709551616 + lo) * 2 ^ s = U * 18446744073709551616 + un1 * 4294967296 + un0 := by rw [hN]; omega
    obtain ⟨E1, E2⟩ := div64_end hp hy'.symm (by have := hy.1; omega) hN2 d1 d3 d4
    have g3 : IntKind.u64.wrap (IntKind.u64.wrap (Q1 * 4294967296) + Q0) = Q1 * 4294967296 + Q0 := by simp only [IntKind.wrap_u64]; omega
    have g4 : R0.fdiv (2 ^ s) = R0 / 2 ^ s := Int.fdiv_eq_ediv_of_nonneg _ (by omega)
    -- a round of a loop
    have round : ∀ (u w Q x r : Int), (0 ≤ u ∧ u < y') → (0 ≤ w ∧ w < 4294967296) → (u * 4294967296 + w) / y' = Q → Q < 4294967296 → Q ≤ x → 0 ≤ x → x < 8589934592 → r = u - x * yn1 → 0 ≤ r → r < 4294967296 →
        (IntKind.u64.wrap (x * yn0) = x * yn0 ∨ 4294967296 ≤ x) ∧ IntKind.u64.wrap (4294967296 * r) = 4294967296 * r ∧ IntKind.u64.wrap (4294967296 * r + w) = 4294967296 * r + w ∧
        ((4294967296 ≤ x ∨ 4294967296 * r + w < x * yn0) → Q ≤ x - 1 ∧ 0 ≤ x - 1 ∧ IntKind.u64.wrap (x - 1) = x - 1 ∧ IntKind.u64.wrap (r + yn1) = r + yn1 ∧ r + yn1 = u - (x - 1) * yn1 ∧ (4294967296 ≤ r + yn1 → x - 1 = Q)) ∧
        (¬ 4294967296 ≤ x → ¬ 4294967296 * r + w < x * yn0 → x = Q) := by
      intro u w Q x r hu hw hQ hQ2 hQx x0 x1 hr r0 r1
      have m := mul_bound x0 ry0.1 (show x ≤ 8589934591 by omega) (show yn0 ≤ 4294967295 by omega)
      refine ⟨?_, wr_u64 _ (by omega) (by omega), wr_u64 _ (by omega) (by omega), fun ht => ?_, fun t1 t2 => ?_⟩
      · rcases Int.lt_or_le x 4294967296 with h1 | h1
        · have m := mul_bound x0 ry0.1 (show x ≤ 4294967295 by omega) (show yn0 ≤ 4294967295 by omega)
          exact Or.inl (wr_u64 _ m.1 (by omega))
        · exact Or.inr h1
      · have hdec : Q ≤ x - 1 := by
          rcases ht with ht | ht
          · omega
          · rw [← hQ]; exact digit_gt ey hr (by omega) (by omega)
        have e : (x - 1) * yn1 = x * yn1 - yn1 := by rw [Int.sub_mul, Int.one_mul]
        have hQ0' : 0 ≤ Q := by rw [← hQ]; exact (div_quo_lt hu hw).1
        refine ⟨hdec, by omega, wr_u64 _ (by omega) (by omega), wr_u64 _ (by omega) (by omega), by omega, fun hb => ?_⟩
        have hx2 : x - 1 < 4294967296 := by
          have h1 : (x - 1) * yn1 < 4294967296 * yn1 := by omega
          exact Int.lt_of_mul_lt_mul_right h1 (by omega)
        have m := mul_bound (show 0 ≤ x - 1 by omega) ry0.1 (show x - 1 ≤ 4294967295 by omega) (show yn0 ≤ 4294967295 by omega)
        rw [← hQ]
        exact digit_le ey ry0 hw rfl (by omega) (by omega) (by omega) (by omega)
      · rw [← hQ]
        exact digit_le ey ry0 hw hr (by omega) (by omega) x0 (by omega)
    simp (maxDischargeDepth := 9) -implicitDefEqProofs only [push_cast, simprocAttr, M54, y0, y1, hz, elz, a1, a2, a3, a4, a5, a6, hy', b1, b2, b3, b4, b5, b6, b7, b8, b9, yz, c1, c2, c3]
    refine wp_kRes (wp_kSeq (wp_kBlock ?_))
    refine Wp.mono (Q := fun o => ∃ a, o = (.exit 0, a, CP.gl, []) ∧ keepA [2, 8, 9, 10, 11, 13, 14, 15] a = [(2, .int .u64 y'), (8, .int .u64 (s : Int)), (9, .int .u64 yn1), (10, .int .u64 yn0), (11, .int .u64 U), (13, .int .u64 un1), (14, .int .u64 un0), (15, .int .u64 Q1)]) ?_ ?_
    · refine wp_loop (fun n a h' ws => ∃ x r : Int, n = x.toNat ∧ Q1 ≤ x ∧ 0 ≤ x ∧ x < 8589934592 ∧ r = U - x * yn1 ∧ 0 ≤ r ∧ r < 4294967296 ∧ a = [(2, .int .u64 y'), (8, .int .u64 (s : Int)), (9, .int .u64 yn1), (10, .int .u64 yn0), (11, .int .u64 U), (13, .int .u64 un1), (14, .int .u64 un0), (15, .int .u64 x), (16, .int .u64 r)] ∧ h' = CP.gl ∧ ws = []) q.toNat ?_ ?_
      · refine ⟨q, U - q * yn1, rfl, f1, f4, by omega, rfl, f2, by omega, ?_, rfl, rfl⟩
        simp (maxDischargeDepth := 9) -implicitDefEqProofs only [push_cast, simprocAttr]
      · rintro n aa h' ws ⟨x, r, rfl, x1, x2, x3, hr, r0, r1, rfl, rfl, rfl⟩
        obtain ⟨o1, o2, o3, o4, o5⟩ := round U un1 Q1 x r ⟨hU0, hU⟩ ru1 hQ1 p2 x1 x2 x3 hr r0 r1
        by_cases t1 : 4294967296 ≤ x
        · obtain ⟨v1, v2, v3, v4, v5, v6⟩ := o4 (Or.inl t1)
          by_cases t3 : 4294967296 ≤ r + yn1
          · have v7 := v6 t3
            simp (maxDischargeDepth := 9) -implicitDefEqProofs only [push_cast, simprocAttr, t1, t3, v3, v4]
            exact ⟨_, rfl, by simp (maxDischargeDepth := 9) -implicitDefEqProofs only [push_cast, simprocAttr, v7]⟩
          · simp (maxDischargeDepth := 9) -implicitDefEqProofs only [push_cast, simprocAttr, t1, t3, v3, v4]
            refine loop_next (x - 1).toNat (by omega) ⟨x - 1, r + yn1, rfl, v1, v2, by omega, v5, by omega, by omega, ?_, rfl, rfl⟩
            simp (maxDischargeDepth := 9) -implicitDefEqProofs only [push_cast, simprocAttr]
        · have o1' := o1.resolve_right t1
          by_cases t2 : 4294967296 * r + un1 < x * yn0
          · obtain ⟨v1, v2, v3, v4, v5, v6⟩ := o4 (Or.inr t2)
            by_cases t3 : 4294967296 ≤ r + yn1
            · have v7 := v6 t3
              simp (maxDischargeDepth := 9) -implicitDefEqProofs only [push_cast, simprocAttr, t1, t2, t3, o1', o2, o3, v3, v4]
              exact ⟨_, rfl, by simp (maxDischargeDepth := 9) -implicitDefEqProofs only [push_cast, simprocAttr, v7]⟩
            · simp (maxDischargeDepth := 9) -implicitDefEqProofs only [push_cast, simprocAttr, t1, t2, t3, o1', o2, o3, v3, v4]
              refine loop_next (x - 1).toNat (by omega) ⟨x - 1, r + yn1, rfl, v1, v2, by omega, v5, by omega, by omega, ?_, rfl, rfl⟩
              simp (maxDischargeDepth := 9) -implicitDefEqProofs only [push_cast, simprocAttr]
          · have v7 := o5 t1 t2
            subst v7
            simp (maxDischargeDepth := 9) -implicitDefEqProofs only [push_cast, simprocAttr, t1, t2, o1', o2, o3]
            exact ⟨_, rfl, by simp (maxDischargeDepth := 9) -implicitDefEqProofs only [push_cast, simprocAttr]⟩
    · rintro o ⟨a, rfl, ha⟩
      rw [kBlock_keep ha]
      simp (maxDischargeDepth := 9) -implicitDefEqProofs only [push_cast, simprocAttr, hZ1, g1, yz, c4, c5, c6]
      refine wp_kSeq (wp_kBlock ?_)
      refine Wp.mono (Q := fun o => ∃ a, o = (.exit 2, a, CP.gl, []) ∧ keepA [2, 8, 14, 15, 17, 18] a = [(2, .int .u64 y'), (8, .int .u64 (s : Int)), (14, .int .u64 un0), (15, .int .u64 Q1), (17, .int .u64 R1), (18, .int .u64 Q0)]) ?_ ?_
      · refine wp_loop (fun n a h' ws => ∃ x r : Int, n = x.toNat ∧ Q0 ≤ x ∧ 0 ≤ x ∧ x < 8589934592 ∧ r = R1 - x * yn1 ∧ 0 ≤ r ∧ r < 4294967296 ∧ a = [(2, .int .u64 y'), (8, .int .u64 (s : Int)), (9, .int .u64 yn1), (10, .int .u64 yn0), (14, .int .u64 un0), (15, .int .u64 Q1), (16, .int .u64 r), (17, .int .u64 R1), (18, .int .u64 x)] ∧ h' = CP.gl ∧ ws = []) q'.toNat ?_ ?_
        · refine ⟨q', R1 - q' * yn1, rfl, k1, k4, by omega, rfl, k2, by omega, ?_, rfl, rfl⟩
          simp (maxDischargeDepth := 9) -implicitDefEqProofs only [push_cast, simprocAttr]
        · rintro n aa h' ws ⟨x, r, rfl, x1, x2, x3, hr, r0, r1, rfl, rfl, rfl⟩
          obtain ⟨o1, o2, o3, o4, o5⟩ := round R1 un0 Q0 x r d2 ru0 hQ0 p4 x1 x2 x3 hr r0 r1
          by_cases t1 : 4294967296 ≤ x
          · obtain ⟨v1, v2, v3, v4, v5, v6⟩ := o4 (Or.inl t1)
            by_cases t3 : 4294967296 ≤ r + yn1
            · have v7 := v6 t3
              simp (maxDischargeDepth := 9) -implicitDefEqProofs only [push_cast, simprocAttr, t1, t3, v3, v4]
              exact ⟨_, rfl, by simp (maxDischargeDepth := 9) -implicitDefEqProofs only [push_cast, simprocAttr, v7]⟩
            · simp (maxDischargeDepth := 9) -implicitDefEqProofs only [push_cast, simprocAttr, t1, t3, v3, v4]
              refine loop_next (x - 1).toNat (by omega) ⟨x - 1, r + yn1, rfl, v1, v2, by omega, v5, by omega, by omega, ?_, rfl, rfl⟩
              simp (maxDischargeDepth := 9) -implicitDefEqProofs only [push_cast, simprocAttr]
          · have o1' := o1.resolve_right t1
            by_cases t2 : 4294967296 * r + un0 < x * yn0
            · obtain ⟨v1, v2, v3, v4, v5, v6⟩ := o4 (Or.inr t2)
              by_cases t3 : 4294967296 ≤ r + yn1
              · have v7 := v6 t3
                simp (maxDischargeDepth := 9) -implicitDefEqProofs only [push_cast, simprocAttr, t1, t2, t3, o1', o2, o3, v3, v4]
                exact ⟨_, rfl, by simp (maxDischargeDepth := 9) -implicitDefEqProofs only [push_cast, simprocAttr, v7]⟩
              · simp (maxDischargeDepth := 9) -implicitDefEqProofs only [push_cast, simprocAttr, t1, t2, t3, o1', o2, o3, v3, v4]
                refine loop_next (x - 1).toNat (by omega) ⟨x - 1, r + yn1, rfl, v1, v2, by omega, v5, by omega, by omega, ?_, rfl, rfl⟩
                simp (maxDischargeDepth := 9) -implicitDefEqProofs only [push_cast, simprocAttr]
            · have v7 := o5 t1 t2
              subst v7
              simp (maxDischargeDepth := 9) -implicitDefEqProofs only [push_cast, simprocAttr, t1, t2, o1', o2, o3]
              exact ⟨_, rfl, by simp (maxDischargeDepth := 9) -implicitDefEqProofs only [push_cast, simprocAttr]⟩
      · rintro o ⟨a', rfl, ha'⟩
        rw [kBlock_keep ha']
        simp (maxDischargeDepth := 9) -implicitDefEqProofs only [push_cast, simprocAttr, hZ0, g2, g3, g4, a2, a3, E1, E2]
end Go.Proofs.YtdpbbagllhfjbaaDoorW.AI.G
namespace Go.Proofs.YtdpbbagllhfjbaaDoorW.AI.G
open Go Go.Proofs.YtdpbbagllhfjbaaDoorW.AI
set_option maxRecDepth 100000
set_option linter.unusedSimpArgs false
set_option linter.unusedVariables false
set_option linter.unusedSectionVars false
-- ------------------------------------------------------------------ times as stamps
/-- A time's stamp. -/
def stV (ns : Int) : Int := ns / 1000000000 % 4294967296 * 4294967296 + (ns % 1000000000 * 4294967296 + 999999999) / 1000000000
theorem stV_in {ns : Int} (h : 0 ≤ ns) : 0 ≤ stV ns ∧ stV ns ≤ 18446744073709551615 ∧ 0 ≤ (ns % 1000000000 * 4294967296 + 999999999) / 1000000000 ∧ (ns % 1000000000 * 4294967296 + 999999999) / 1000000000 < 4294967296 := by
  unfold stV
  have h1 := Int.emod_nonneg ns (show (1000000000 : Int) ≠ 0 by decide)
  have h2 := Int.emod_lt_of_pos ns (show (0 : Int) < 1000000000 by decide)
  omega
theorem quo_e {a c : Int} (ha : 0 ≤ a) : a.tdiv c = a / c := Int.tdiv_eq_ediv_of_nonneg ha
theorem rem_e {a c : Int} (ha : 0 ≤ a) : a.tmod c = a % c := Int.tmod_eq_emod_of_nonneg ha
theorem parts_c {ns : Int} (h0 : 0 ≤ ns) (h1 : ns ≤ 4611686018427387904) (h : AHeap) : W CP 52 [.int .i64 ns] h = some (.tup [.int .i64 (ns / 1000000000 / 4294967296), .int .u32 (ns / 1000000000 % 4294967296), .int .u64 (ns % 1000000000)], h, []) := by
  refine W_val (m := M52) (fun _ => rfl) rfl rfl rfl ?_ h
  have e1 := quo_e (c := 1000000000) h0
  have e2 := rem_e (c := 1000000000) h0
  have m0 := Int.emod_nonneg ns (show (1000000000 : Int) ≠ 0 by decide)
  have m1 := Int.emod_lt_of_pos ns (show (0 : Int) < 1000000000 by decide)
  have n1 : ¬ ns % 1000000000 < 0 := by omega
  have w1 : IntKind.i64.wrap (ns / 1000000000) = ns / 1000000000 := wr_i64 _ (by omega) (by omega)
  have w2 : IntKind.u32.wrap (ns / 1000000000) = ns / 1000000000 % 4294967296 := rfl
  have w3 : IntKind.u64.wrap (ns % 1000000000) = ns % 1000000000 := wr_u64 _ (by omega) (by omega)
  have w4 : IntKind.i64.wrap (ns / 1000000000 / 4294967296) = ns / 1000000000 / 4294967296 := wr_i64 _ (by omega) (by omega)
  obtain ⟨s, hs⟩ : ∃ z, ns / 1000000000 = z := ⟨_, rfl⟩
  obtain ⟨r, hr⟩ : ∃ z, ns % 1000000000 = z := ⟨_, rfl⟩
  rw [hs] at e1 w1 w2 w4 ⊢
  rw [hr] at e2 n1 w3 ⊢
  have hfd : s.fdiv 4294967296 = s / 4294967296 := Int.fdiv_eq_ediv_of_nonneg _ (by decide)
  simp (maxDischargeDepth := 9) -implicitDefEqProofs only [push_cast, simprocAttr, M52, e1, e2, n1, w1, w2, w3, w4, hfd]
theorem stamp_c {ns : Int} (h0 : 0 ≤ ns) (h1 : ns ≤ 4611686018427387904) (h : AHeap) : W CP 27 [.int .i64 ns] h = some (.int .u64 (stV ns), h, []) := by
  refine W_val (m := M27) (fun _ => rfl) rfl rfl rfl ?_ h
  have ep := fun g => parts_c h0 h1 g
  have m0 := Int.emod_nonneg ns (show (1000000000 : Int) ≠ 0 by decide)
  have m1 := Int.emod_lt_of_pos ns (show (0 : Int) < 1000000000 by decide)
  obtain ⟨_, _, f0, f1⟩ := stV_in h0
  have hst : stV ns = ns / 1000000000 % 4294967296 * 4294967296 + (ns % 1000000000 * 4294967296 + 999999999) / 1000000000 := rfl
  have s0 := Int.emod_nonneg (ns / 1000000000) (show (4294967296 : Int) ≠ 0 by decide)
  have s1 := Int.emod_lt_of_pos (ns / 1000000000) (show (0 : Int) < 4294967296 by decide)
  rw [hst]
  obtain ⟨e, he⟩ : ∃ z, ns / 1000000000 / 4294967296 = z := ⟨_, rfl⟩
  obtain ⟨s, hs⟩ : ∃ z, ns / 1000000000 % 4294967296 = z := ⟨_, rfl⟩
  obtain ⟨r, hr⟩ : ∃ z, ns % 1000000000 = z := ⟨_, rfl⟩
  rw [he, hs, hr] at ep
  rw [hs] at s0 s1 ⊢
  rw [hr] at m0 m1 f0 f1 ⊢
  have w1 : IntKind.u64.wrap s = s := wr_u64 _ (by omega) (by omega)
  have w2 : IntKind.u64.wrap (s * 4294967296) = s * 4294967296 := wr_u64 _ (by omega) (by omega)
  have w3 : IntKind.u64.wrap (r * 4294967296) = r * 4294967296 := wr_u64 _ (by omega) (by omega)
  have w4 : IntKind.u64.wrap (r * 4294967296 + 1000000000) = r * 4294967296 + 1000000000 := wr_u64 _ (by omega) (by omega)
  have w5 : IntKind.u64.wrap (r * 4294967296 + 1000000000 - 1) = r * 4294967296 + 999999999 := by rw [wr_u64 _ (by omega) (by omega)]; omega
  have e1 := quo_e (a := r * 4294967296 + 999999999) (c := 1000000000) (by omega)
  obtain ⟨f, hf⟩ : ∃ z, (r * 4294967296 + 999999999) / 1000000000 = z := ⟨_, rfl⟩
  rw [hf] at e1 f0 f1 ⊢
  simp (maxDischargeDepth := 9) -implicitDefEqProofs only [push_cast, simprocAttr, M27, ep, w1, w2, w3, w4, w5, e1]
  have w6 : IntKind.u64.wrap f = f := wr_u64 _ (by omega) (by omega)
  have p32 : (2 : Int) ^ 32 = 4294967296 := by decide
  rw [w6, abits_or (i := 32) (by omega) (by omega) (by rw [p32]; omega) ⟨s.toNat, by rw [p32]; omega⟩ (by omega)]
-- ------------------------------------------------------------------ short times
def shV (ns : Int) : Int := if ns ≤ 0 then 0 else (ns - 1) * 65536 / 1000000000 + 1
theorem shV_in {ns : Int} (h1 : ns ≤ 16000000000) : 0 ≤ shV ns ∧ shV ns ≤ 1048576 := by
  unfold shV
  split <;> omega
theorem short_c {ns : Int} (h0 : 0 ≤ ns) (h1 : ns ≤ 16000000000) (h : AHeap) : W CP 28 [.int .i64 ns] h = some (.int .u32 (shV ns), h, []) := by
  refine W_val (m := M28) (fun _ => rfl) rfl rfl rfl ?_ h
  unfold shV
  by_cases c : ns ≤ 0
  · rw [if_pos c]
    simp (maxDischargeDepth := 9) -implicitDefEqProofs only [push_cast, simprocAttr, M28, c]
  rw [if_neg c]
  have w1 : IntKind.i64.wrap (ns - 1) = ns - 1 := wr_i64 _ (by omega) (by omega)
  have w2 : IntKind.u64.wrap (ns - 1) = ns - 1 := wr_u64 _ (by omega) (by omega)
  have eM := fun g => bits_Mul64 (x := ns - 1) (y := 65536) ⟨by omega, by omega⟩ ⟨by omega, by omega⟩ g
  have eD := fun g => bits_Div64 (hi := 0) (lo := (ns - 1) * 65536) (y := 1000000000) ⟨by omega, by omega⟩ ⟨by omega, by omega⟩ ⟨by omega, by omega⟩ (by omega) g
  have d1 : (ns - 1) * 65536 / 18446744073709551616 = 0 := by omega
  have d2 : (ns - 1) * 65536 % 18446744073709551616 = (ns - 1) * 65536 := by omega
  have d3 : (0 * 18446744073709551616 + (ns - 1) * 65536) / 1000000000 = (ns - 1) * 65536 / 1000000000 := by rw [Int.zero_mul, Int.zero_add]
  have b1 : (ns - 1) * 65536 / 1000000000 ≤ 1048576 := by omega
  have b0 : 0 ≤ (ns - 1) * 65536 / 1000000000 := by omega
  rw [d1, d2] at eM
  rw [d3] at eD
  obtain ⟨n1, hn1⟩ : ∃ z, ns - 1 = z := ⟨_, rfl⟩
  rw [hn1] at w1 w2 eM eD b1 b0 ⊢
  obtain ⟨lo, hlo⟩ : ∃ z, n1 * 65536 = z := ⟨_, rfl⟩
  rw [hlo] at eM eD b1 b0 ⊢
  obtain ⟨q, hq⟩ : ∃ z, lo / 1000000000 = z := ⟨_, rfl⟩
  rw [hq] at eD b1 b0 ⊢
  obtain ⟨r, hr⟩ : ∃ z, (0 * 18446744073709551616 + lo) % 1000000000 = z := ⟨_, rfl⟩
  rw [hr] at eD
  have w1' : IntKind.i64.wrap (ns - 1) = n1 := by rw [hn1]; exact w1
  have w3 : IntKind.u64.wrap (q + 1) = q + 1 := wr_u64 _ (by omega) (by omega)
  have w4 : IntKind.u32.wrap (q + 1) = q + 1 := wr_u32 _ (by omega) (by omega)
  have c3 : ¬ (4294967295 : Int) < q + 1 := by omega
  simp (maxDischargeDepth := 9) -implicitDefEqProofs only [push_cast, simprocAttr, M28, c, w1', w2, eM, eD, w3, w4, c3]
end Go.Proofs.YtdpbbagllhfjbaaDoorW.AI.G
namespace Go.Proofs.YtdpbbagllhfjbaaDoorW.AI.G
open Go Go.Proofs.YtdpbbagllhfjbaaDoorW.AI
set_option maxRecDepth 100000
set_option linter.unusedSimpArgs false
set_option linter.unusedVariables false
set_option linter.unusedSectionVars false
-- ------------------------------------------------------------------ what can be said
/-- May it be said at two times? -/
def sayB (lie leap : Int) (n : Nat) (took gave : Int) : Bool := decide ((0 ≤ took ∧ took ≤ 4611686018427387904) ∧ (0 ≤ gave ∧ gave ≤ 4611686018427387904) ∧ (0 ≤ took + lie ∧ took + lie ≤ 4611686018427387904) ∧ (0 ≤ gave + lie ∧ gave + lie ≤ 4611686018427387904) ∧ took ≤ gave ∧ leap ≤ 3 ∧ n ≤ 4)
theorem time_c (t : Int) (h : AHeap) : W CP 51 [.int .i64 t] h = some (.bool (decide (0 ≤ t ∧ t ≤ 4611686018427387904)), h, []) := by
  refine W_val (m := M51) (fun _ => rfl) rfl rfl rfl ?_ h
  by_cases c1 : 0 ≤ t
  · by_cases c2 : t ≤ 4611686018427387904
    · rw [decide_eq_true ⟨c1, c2⟩]
      simp (maxDischargeDepth := 9) -implicitDefEqProofs only [push_cast, simprocAttr, M51, c1, c2]
    · rw [decide_eq_false (by omega)]
      simp (maxDischargeDepth := 9) -implicitDefEqProofs only [push_cast, simprocAttr, M51, c1, c2]
  · rw [decide_eq_false (by omega)]
    simp (maxDischargeDepth := 9) -implicitDefEqProofs only [push_cast, simprocAttr, M51, c1]
end Go.Proofs.YtdpbbagllhfjbaaDoorW.AI.G
namespace Go.Proofs.YtdpbbagllhfjbaaDoorW.AI.G
open Go Go.Proofs.YtdpbbagllhfjbaaDoorW.AI
set_option maxRecDepth 100000
set_option linter.unusedSimpArgs false
set_option linter.unusedVariables false
set_option linter.unusedSectionVars false
theorem wrap_time {t b z : Int} (hz : IntKind.i64.wrap (t + b) = z) (ht : 0 ≤ t ∧ t ≤ 4611686018427387904) (hb : -4611686018427387904 ≤ b ∧ b ≤ 4611686018427387904) : (0 ≤ t + b ∧ t + b ≤ 4611686018427387904) = (0 ≤ z ∧ z ≤ 4611686018427387904) := by
  by_cases c : t + b ≤ 9223372036854775807
  · rw [wr_i64 _ (by omega) c] at hz
    rw [hz]
  · have e : t + b = 9223372036854775808 := by omega
    rw [e] at hz
    have : IntKind.i64.wrap 9223372036854775808 = -9223372036854775808 := by decide
    rw [this] at hz
    apply propext
    omega
theorem say_c {lie leap took gave : Int} {s : ByteArray} (l0 : -9223372036854775808 ≤ lie) (l1 : lie ≤ 9223372036854775807) (t0 : -9223372036854775808 ≤ took) (t1 : took ≤ 9223372036854775807) (g0 : -9223372036854775808 ≤ gave) (g1 : gave ≤ 9223372036854775807) (h : AHeap) :
    W CP 26 [.agg [.int .i64 lie, .int .u8 leap, .str s], .int .i64 took, .int .i64 gave] h = some (.bool (sayB lie leap s.size took gave), h, []) := by
  refine W_val (m := M26) (fun _ => rfl) rfl rfl rfl ?_ h
  have eT : ∀ t h, W CP 51 [.int .i64 t] h = some (.bool (decide (0 ≤ t ∧ t ≤ 4611686018427387904)), h, []) := time_c
  unfold sayB
  by_cases a1 : 0 ≤ took ∧ took ≤ 4611686018427387904
  case neg =>
    have e1 : decide (0 ≤ took ∧ took ≤ 4611686018427387904) = false := decide_eq_false a1
    rw [decide_eq_false (fun h => a1 h.1)]
    by_cases c1 : -4611686018427387904 ≤ lie <;> by_cases c2 : lie ≤ 4611686018427387904 <;> simp (maxDischargeDepth := 9) -implicitDefEqProofs only [push_cast, simprocAttr, M26, eT, e1, c1, c2]
  have e1 : decide (0 ≤ took ∧ took ≤ 4611686018427387904) = true := decide_eq_true a1
  by_cases a2 : 0 ≤ gave ∧ gave ≤ 4611686018427387904
  case neg =>
    have e2 : decide (0 ≤ gave ∧ gave ≤ 4611686018427387904) = false := decide_eq_false a2
    rw [decide_eq_false (fun h => a2 h.2.1)]
    by_cases c1 : -4611686018427387904 ≤ lie <;> by_cases c2 : lie ≤ 4611686018427387904 <;> simp (maxDischargeDepth := 9) -implicitDefEqProofs only [push_cast, simprocAttr, M26, eT, e1, e2, c1, c2]
  have e2 : decide (0 ≤ gave ∧ gave ≤ 4611686018427387904) = true := decide_eq_true a2
  by_cases c1 : -4611686018427387904 ≤ lie
  case neg =>
    rw [decide_eq_false (by omega)]
    simp (maxDischargeDepth := 9) -implicitDefEqProofs only [push_cast, simprocAttr, M26, eT, e1, e2, c1]
  by_cases c2 : lie ≤ 4611686018427387904
  case neg =>
    rw [decide_eq_false (by omega)]
    simp (maxDischargeDepth := 9) -implicitDefEqProofs only [push_cast, simprocAttr, M26, eT, e1, e2, c1, c2]
  obtain ⟨tl, htl⟩ : ∃ z, IntKind.i64.wrap (took + lie) = z := ⟨_, rfl⟩
  obtain ⟨gl', hgl⟩ : ∃ z, IntKind.i64.wrap (gave + lie) = z := ⟨_, rfl⟩
  have k1 := wrap_time htl a1 ⟨c1, c2⟩
  have k2 := wrap_time hgl a2 ⟨c1, c2⟩
  have w1' := htl
  have w2' := hgl
  have hd : decide ((0 ≤ took ∧ took ≤ 4611686018427387904) ∧ (0 ≤ gave ∧ gave ≤ 4611686018427387904) ∧ (0 ≤ took + lie ∧ took + lie ≤ 4611686018427387904) ∧ (0 ≤ gave + lie ∧ gave + lie ≤ 4611686018427387904) ∧ took ≤ gave ∧ leap ≤ 3 ∧ s.size ≤ 4) = decide ((0 ≤ took ∧ took ≤ 4611686018427387904) ∧ (0 ≤ gave ∧ gave ≤ 4611686018427387904) ∧ (0 ≤ tl ∧ tl ≤ 4611686018427387904) ∧ (0 ≤ gl' ∧ gl' ≤ 4611686018427387904) ∧ took ≤ gave ∧ leap ≤ 3 ∧ s.size ≤ 4) := decide_eq_decide.2 (by rw [k1, k2])
  rw [hd]
  by_cases a3 : 0 ≤ tl ∧ tl ≤ 4611686018427387904
  case neg =>
    have e3 : decide (0 ≤ tl ∧ tl ≤ 4611686018427387904) = false := decide_eq_false a3
    rw [decide_eq_false (fun h => a3 h.2.2.1)]
    simp (maxDischargeDepth := 9) -implicitDefEqProofs only [push_cast, simprocAttr, M26, eT, e1, e2, e3, c1, c2, w1']
  have e3 : decide (0 ≤ tl ∧ tl ≤ 4611686018427387904) = true := decide_eq_true a3
  by_cases a4 : 0 ≤ gl' ∧ gl' ≤ 4611686018427387904
  case neg =>
    have e4 : decide (0 ≤ gl' ∧ gl' ≤ 4611686018427387904) = false := decide_eq_false a4
    rw [decide_eq_false (fun h => a4 h.2.2.2.1)]
    simp (maxDischargeDepth := 9) -implicitDefEqProofs only [push_cast, simprocAttr, M26, eT, e1, e2, e3, e4, c1, c2, w1', w2']
  have e4 : decide (0 ≤ gl' ∧ gl' ≤ 4611686018427387904) = true := decide_eq_true a4
  by_cases a5 : took ≤ gave
  case neg =>
    rw [decide_eq_false (fun h => a5 h.2.2.2.2.1)]
    simp (maxDischargeDepth := 9) -implicitDefEqProofs only [push_cast, simprocAttr, M26, eT, e1, e2, e3, e4, c1, c2, w1', w2', a5]
  by_cases a6 : leap ≤ 3
  case neg =>
    rw [decide_eq_false (fun h => a6 h.2.2.2.2.2.1)]
    simp (maxDischargeDepth := 9) -implicitDefEqProofs only [push_cast, simprocAttr, M26, eT, e1, e2, e3, e4, c1, c2, w1', w2', a5, a6]
  by_cases a7 : s.size ≤ 4
  case neg =>
    have a7' : ¬ (s.size : Int) ≤ 4 := by omega
    rw [decide_eq_false (fun h => a7 h.2.2.2.2.2.2)]
    simp (maxDischargeDepth := 9) -implicitDefEqProofs only [push_cast, simprocAttr, M26, eT, e1, e2, e3, e4, c1, c2, w1', w2', a5, a6, a7']
  have a7' : (s.size : Int) ≤ 4 := by omega
  rw [decide_eq_true ⟨a1, a2, a3, a4, a5, a6, a7⟩]
  simp (maxDischargeDepth := 9) -implicitDefEqProofs only [push_cast, simprocAttr, M26, eT, e1, e2, e3, e4, c1, c2, w1', w2', a5, a6, a7']
-- ------------------------------------------------------------------ a code as a number
/-- Byte i of a code; 0 behind its end. -/
def cb (l : List UInt8) (i : Nat) : Int := match l[i]? with
  | some b => (b.toNat : Int)
  | none => 0
def codeV (l : List UInt8) : Int := ((cb l 0 * 256 + cb l 1) * 256 + cb l 2) * 256 + cb l 3
theorem cb_in (l : List UInt8) (i : Nat) : 0 ≤ cb l i ∧ cb l i ≤ 255 := by
  unfold cb
  split
  · rename_i b _
    have := b.toNat_lt
    omega
  · omega
theorem codeV_in (l : List UInt8) : 0 ≤ codeV l ∧ codeV l ≤ 4294967295 := by
  have h0 := cb_in l 0
  have h1 := cb_in l 1
  have h2 := cb_in l 2
  have h3 := cb_in l 3
  unfold codeV
  omega
end Go.Proofs.YtdpbbagllhfjbaaDoorW.AI.G
namespace Go.Proofs.YtdpbbagllhfjbaaDoorW.AI.G
open Go Go.Proofs.YtdpbbagllhfjbaaDoorW.AI
set_option maxRecDepth 100000
set_option linter.unusedSimpArgs false
set_option linter.unusedVariables false
set_option linter.unusedSectionVars false
theorem or32_ {s x : Int} {i : Nat} (h0 : 0 ≤ s) (hx : 0 ≤ x) (hi : x < 2 ^ i) (hd : ∃ a : Nat, s = 2 ^ i * (a : Int)) (hs : s + x < 4294967296) : abits .or .u32 s x = s + x := by
  obtain ⟨a, rfl⟩ := hd
  obtain ⟨y, rfl⟩ : ∃ y : Nat, x = (y : Int) := ⟨x.toNat, by omega⟩
  have e1 : (2 : Int) ^ i * (a : Int) = ((2 ^ i * a : Nat) : Int) := by rw [Int.natCast_mul, Int.natCast_pow]; rfl
  have hy : y < 2 ^ i := by
    have : ((y : Nat) : Int) < ((2 ^ i : Nat) : Int) := by rw [Int.natCast_pow]; exact hi
    omega
  rw [e1] at hs ⊢
  have hn : 2 ^ i * a + y < 4294967296 := by omega
  have e2 : (2 ^ i * a) ||| y = 2 ^ i * a + y := (Nat.two_pow_add_eq_or_of_lt hy a).symm
  have e3 : (BitVec.ofInt 32 ((2 ^ i * a : Nat) : Int) ||| BitVec.ofInt 32 (y : Int)).toNat = 2 ^ i * a + y := by
    rw [BitVec.toNat_or, BitVec.ofInt_natCast, BitVec.ofInt_natCast, BitVec.toNat_ofNat, BitVec.toNat_ofNat, Nat.mod_eq_of_lt (by omega), Nat.mod_eq_of_lt (by omega), e2]
  show IntKind.u32.wrap (((BitVec.ofInt 32 ((2 ^ i * a : Nat) : Int) ||| BitVec.ofInt 32 (y : Int)).toNat : Nat) : Int) = _
  rw [e3, wr_u32 _ (by omega) (by omega)]
  omega

theorem or4 {a b c d : Int} (a0 : 0 ≤ a) (a1 : a ≤ 255) (b0 : 0 ≤ b) (b1 : b ≤ 255) (c0 : 0 ≤ c) (c1 : c ≤ 255) (d0 : 0 ≤ d) (d1 : d ≤ 255) :
    abits .or .u32 (abits .or .u32 (abits .or .u32 (a * 16777216) (b * 65536)) (c * 256)) d = ((a * 256 + b) * 256 + c) * 256 + d := by
  have p24 : (2 : Int) ^ 24 = 16777216 := by decide
  have p16 : (2 : Int) ^ 16 = 65536 := by decide
  have p8 : (2 : Int) ^ 8 = 256 := by decide
  rw [or32_ (s := a * 16777216) (x := b * 65536) (i := 24) (by omega) (by omega) (by rw [p24]; omega) ⟨a.toNat, by rw [p24]; omega⟩ (by omega)]
  rw [or32_ (s := a * 16777216 + b * 65536) (x := c * 256) (i := 16) (by omega) (by omega) (by rw [p16]; omega) ⟨(a * 256 + b).toNat, by rw [p16]; omega⟩ (by omega)]
  rw [or32_ (s := a * 16777216 + b * 65536 + c * 256) (x := d) (i := 8) (by omega) (by omega) (by rw [p8]; omega) ⟨(a * 65536 + b * 256 + c).toNat, by rw [p8]; omega⟩ (by omega)]
  omega
theorem coded_c {l : List UInt8} (hl : l.length ≤ 4) (h : AHeap) : W CP 29 [.str (sb l)] h = some (.int .u32 (codeV l), h, []) := by
  refine W_val (m := M29) (fun _ => rfl) rfl rfl rfl ?_ h
  match l, hl with
  | [a, b, c, d], _ =>
    have hst : strCells (sb [a, b, c, d]) = .ints .u8 [(a.toNat : Int), (b.toNat : Int), (c.toNat : Int), (d.toNat : Int)] := rfl
    have a1 := a.toNat_lt
    have b1 := b.toNat_lt
    have c1 := c.toNat_lt
    have d1 := d.toNat_lt
    have hv : codeV [a, b, c, d] = (((a.toNat : Int) * 256 + (b.toNat : Int)) * 256 + (c.toNat : Int)) * 256 + (d.toNat : Int) := rfl
    rw [hv]
    obtain ⟨a0, ha⟩ : ∃ z, (a.toNat : Int) = z := ⟨_, rfl⟩
    obtain ⟨b0, hb⟩ : ∃ z, (b.toNat : Int) = z := ⟨_, rfl⟩
    obtain ⟨c0, hc⟩ : ∃ z, (c.toNat : Int) = z := ⟨_, rfl⟩
    obtain ⟨d0, hd⟩ : ∃ z, (d.toNat : Int) = z := ⟨_, rfl⟩
    rw [ha, hb, hc, hd] at hst ⊢
    have u0 : IntKind.u32.wrap a0 = a0 := wr_u32 _ (by omega) (by omega)
    have u1 : IntKind.u32.wrap b0 = b0 := wr_u32 _ (by omega) (by omega)
    have u2 : IntKind.u32.wrap c0 = c0 := wr_u32 _ (by omega) (by omega)
    have u3 : IntKind.u32.wrap d0 = d0 := wr_u32 _ (by omega) (by omega)
    have s0 : IntKind.u32.wrap (a0 * 16777216) = a0 * 16777216 := wr_u32 _ (by omega) (by omega)
    have s1 : IntKind.u32.wrap (b0 * 65536) = b0 * 65536 := wr_u32 _ (by omega) (by omega)
    have s2 : IntKind.u32.wrap (c0 * 256) = c0 * 256 := wr_u32 _ (by omega) (by omega)
    simp (maxDischargeDepth := 9) -implicitDefEqProofs only [push_cast, simprocAttr, M29, hst, sb_size, sb_list, sb_extract, u0, u1, u2, u3, s0, s1, s2]
    rw [or4 (by omega) (by omega) (by omega) (by omega) (by omega) (by omega) (by omega) (by omega)]
  | [a, b, c], _ =>
    have hst : strCells (sb [a, b, c]) = .ints .u8 [(a.toNat : Int), (b.toNat : Int), (c.toNat : Int)] := rfl
    have a1 := a.toNat_lt
    have b1 := b.toNat_lt
    have c1 := c.toNat_lt
    have hv : codeV [a, b, c] = (((a.toNat : Int) * 256 + (b.toNat : Int)) * 256 + (c.toNat : Int)) * 256 + 0 := rfl
    rw [hv]
    obtain ⟨a0, ha⟩ : ∃ z, (a.toNat : Int) = z := ⟨_, rfl⟩
    obtain ⟨b0, hb⟩ : ∃ z, (b.toNat : Int) = z := ⟨_, rfl⟩
    obtain ⟨c0, hc⟩ : ∃ z, (c.toNat : Int) = z := ⟨_, rfl⟩
    rw [ha, hb, hc] at hst ⊢
    have u0 : IntKind.u32.wrap a0 = a0 := wr_u32 _ (by omega) (by omega)
    have u1 : IntKind.u32.wrap b0 = b0 := wr_u32 _ (by omega) (by omega)
    have u2 : IntKind.u32.wrap c0 = c0 := wr_u32 _ (by omega) (by omega)
    have s0 : IntKind.u32.wrap (a0 * 16777216) = a0 * 16777216 := wr_u32 _ (by omega) (by omega)
    have s1 : IntKind.u32.wrap (b0 * 65536) = b0 * 65536 := wr_u32 _ (by omega) (by omega)
    have s2 : IntKind.u32.wrap (c0 * 256) = c0 * 256 := wr_u32 _ (by omega) (by omega)
    simp (maxDischargeDepth := 9) -implicitDefEqProofs only [push_cast, simprocAttr, M29, hst, sb_size, sb_list, sb_extract, u0, u1, u2, s0, s1, s2]
    have k := or4 (a := a0) (b := b0) (c := c0) (d := 0) (by omega) (by omega) (by omega) (by omega) (by omega) (by omega) (by omega) (by omega)
    rw [k, Int.add_zero]
  | [a, b], _ =>
    have hst : strCells (sb [a, b]) = .ints .u8 [(a.toNat : Int), (b.toNat : Int)] := rfl
    have a1 := a.toNat_lt
    have b1 := b.toNat_lt
    have hv : codeV [a, b] = (((a.toNat : Int) * 256 + (b.toNat : Int)) * 256 + 0) * 256 + 0 := rfl
    rw [hv]
    obtain ⟨a0, ha⟩ : ∃ z, (a.toNat : Int) = z := ⟨_, rfl⟩
    obtain ⟨b0, hb⟩ : ∃ z, (b.toNat : Int) = z := ⟨_, rfl⟩
    rw [ha, hb] at hst ⊢
    have u0 : IntKind.u32.wrap a0 = a0 := wr_u32 _ (by omega) (by omega)
    have u1 : IntKind.u32.wrap b0 = b0 := wr_u32 _ (by omega) (by omega)
    have s0 : IntKind.u32.wrap (a0 * 16777216) = a0 * 16777216 := wr_u32 _ (by omega) (by omega)
    have s1 : IntKind.u32.wrap (b0 * 65536) = b0 * 65536 := wr_u32 _ (by omega) (by omega)
    simp (maxDischargeDepth := 9) -implicitDefEqProofs only [push_cast, simprocAttr, M29, hst, sb_size, sb_list, sb_extract, u0, u1, s0, s1]
    have k := or4 (a := a0) (b := b0) (c := 0) (d := 0) (by omega) (by omega) (by omega) (by omega) (by omega) (by omega) (by omega) (by omega)
    simp only [Int.zero_mul, Int.add_zero] at k
    rw [k]
  | [a], _ =>
    have hst : strCells (sb [a]) = .ints .u8 [(a.toNat : Int)] := rfl
    have a1 := a.toNat_lt
    have hv : codeV [a] = (((a.toNat : Int) * 256 + 0) * 256 + 0) * 256 + 0 := rfl
    rw [hv]
    obtain ⟨a0, ha⟩ : ∃ z, (a.toNat : Int) = z := ⟨_, rfl⟩
    rw [ha] at hst ⊢
    have u0 : IntKind.u32.wrap a0 = a0 := wr_u32 _ (by omega) (by omega)
    have s0 : IntKind.u32.wrap (a0 * 16777216) = a0 * 16777216 := wr_u32 _ (by omega) (by omega)
    simp (maxDischargeDepth := 9) -implicitDefEqProofs only [push_cast, simprocAttr, M29, hst, sb_size, sb_list, sb_extract, u0, s0]
    have k := or4 (a := a0) (b := 0) (c := 0) (d := 0) (by omega) (by omega) (by omega) (by omega) (by omega) (by omega) (by omega) (by omega)
    simp only [Int.zero_mul, Int.add_zero] at k
    rw [k]
  | [], _ =>
    have hst : strCells (sb []) = .ints .u8 [] := rfl
    have hv : codeV [] = ((0 * 256 + 0) * 256 + 0) * 256 + 0 := rfl
    rw [hv]
    simp (maxDischargeDepth := 9) -implicitDefEqProofs only [push_cast, simprocAttr, M29, hst, sb_size, sb_list, sb_extract]
    rfl
end Go.Proofs.YtdpbbagllhfjbaaDoorW.AI.G
