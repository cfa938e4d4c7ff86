import Derived.Test.YtdpbbagllhfjbaaDoorAIWO
/-! Plain laws of 64-bit numbers. -/
namespace Go.Proofs.YtdpbbagllhfjbaaDoorW.AI
open Go
set_option linter.unusedVariables false

/-- A number of 64 bits, with a sign. -/
def I64 (n : Int) : Prop := -9223372036854775808 ≤ n ∧ n ≤ 9223372036854775807
def U64 (n : Int) : Prop := 0 ≤ n ∧ n < 18446744073709551616

theorem abits_and32 {x : Int} (h : U64 x) : abits .and .u64 x 4294967295 = x % 4294967296 := by
  obtain ⟨h0, h1⟩ := h
  obtain ⟨n, rfl⟩ : ∃ n : Nat, x = (n : Int) := ⟨x.toNat, by omega⟩
  have hn : n < 18446744073709551616 := by omega
  have e : (BitVec.ofInt 64 (n : Int) &&& BitVec.ofInt 64 4294967295).toNat = n % 4294967296 := by
    rw [BitVec.toNat_and, BitVec.ofInt_natCast, BitVec.toNat_ofNat, Nat.mod_eq_of_lt (by omega)]
    show n &&& 4294967295 = _
    have : (4294967295 : Nat) = 2 ^ 32 - 1 := rfl
    rw [this, Nat.and_two_pow_sub_one_eq_mod]
  show IntKind.u64.wrap (((BitVec.ofInt 64 (n : Int) &&& BitVec.ofInt 64 4294967295).toNat : Nat) : Int) = _
  rw [e, wr_u64 _ (by omega) (by omega)]
  omega

theorem abits_or {s x : Int} {i : Nat} (h0 : 0 ≤ s) (hx : 0 ≤ x) (hi : x < 2 ^ i) (hd : ∃ a : Nat, s = 2 ^ i * (a : Int)) (hs : s + x < 18446744073709551616) : abits .or .u64 s x = s + x := by
  obtain ⟨a, rfl⟩ := hd
  obtain ⟨y, rfl⟩ : ∃ y : Nat, x = (y : Int) := ⟨x.toNat, by omega⟩
  have e1 : (2 : Int) ^ i * (a : Int) = ((2 ^ i * a : Nat) : Int) := by rw [Int.natCast_mul, Int.natCast_pow]; rfl
  have hy : y < 2 ^ i := by
    have : ((y : Nat) : Int) < ((2 ^ i : Nat) : Int) := by rw [Int.natCast_pow]; exact hi
    omega
  rw [e1] at hs ⊢
  have hn : 2 ^ i * a + y < 18446744073709551616 := by omega
  have e2 : (2 ^ i * a) ||| y = 2 ^ i * a + y := (Nat.two_pow_add_eq_or_of_lt hy a).symm
  have e3 : (BitVec.ofInt 64 ((2 ^ i * a : Nat) : Int) ||| BitVec.ofInt 64 (y : Int)).toNat = 2 ^ i * a + y := by
    rw [BitVec.toNat_or, BitVec.ofInt_natCast, BitVec.ofInt_natCast, BitVec.toNat_ofNat, BitVec.toNat_ofNat, Nat.mod_eq_of_lt (by omega), Nat.mod_eq_of_lt (by omega), e2]
  show IntKind.u64.wrap (((BitVec.ofInt 64 ((2 ^ i * a : Nat) : Int) ||| BitVec.ofInt 64 (y : Int)).toNat : Nat) : Int) = _
  rw [e3, wr_u64 _ (by omega) (by omega)]
  omega

theorem mul_bound {a b : Int} {m n : Int} (ha : 0 ≤ a) (hb : 0 ≤ b) (ham : a ≤ m) (hbn : b ≤ n) : 0 ≤ a * b ∧ a * b ≤ m * n :=
  ⟨Int.mul_nonneg ha hb, Int.mul_le_mul ham hbn hb (by omega)⟩

/-- A product by halves. -/
theorem mul64_hi {x y x0 x1 y0 y1 : Int} (hx0 : x0 = x % 4294967296) (hx1 : x1 = x / 4294967296) (hy0 : y0 = y % 4294967296) (hy1 : y1 = y / 4294967296) (hx : U64 x) (hy : U64 y) :
    (0 ≤ x0 * y0 ∧ x0 * y0 ≤ 18446744065119617025) ∧ (0 ≤ x1 * y0 ∧ x1 * y0 ≤ 18446744065119617025) ∧ (0 ≤ x0 * y1 ∧ x0 * y1 ≤ 18446744065119617025) ∧ (0 ≤ x1 * y1 ∧ x1 * y1 ≤ 18446744065119617025) ∧
    x * y = x1 * y1 * 18446744073709551616 + (x1 * y0 + x0 * y1) * 4294967296 + x0 * y0 := by
  obtain ⟨h1, h2⟩ := hx
  obtain ⟨h3, h4⟩ := hy
  have a0 : 0 ≤ x0 ∧ x0 ≤ 4294967295 := by omega
  have a1 : 0 ≤ x1 ∧ x1 ≤ 4294967295 := by omega
  have b0 : 0 ≤ y0 ∧ y0 ≤ 4294967295 := by omega
  have b1 : 0 ≤ y1 ∧ y1 ≤ 4294967295 := by omega
  refine ⟨mul_bound a0.1 b0.1 a0.2 b0.2, mul_bound a1.1 b0.1 a1.2 b0.2, mul_bound a0.1 b1.1 a0.2 b1.2, mul_bound a1.1 b1.1 a1.2 b1.2, ?_⟩
  have ex : x = x1 * 4294967296 + x0 := by omega
  have ey : y = y1 * 4294967296 + y0 := by omega
  rw [ex, ey, Int.add_mul, Int.mul_add, Int.mul_add]
  have e1 : x1 * 4294967296 * (y1 * 4294967296) = x1 * y1 * 18446744073709551616 := by
    rw [Int.mul_assoc, Int.mul_left_comm 4294967296 y1, ← Int.mul_assoc]; rfl
  have e2 : x1 * 4294967296 * y0 = x1 * y0 * 4294967296 := by rw [Int.mul_assoc, Int.mul_comm 4294967296 y0, ← Int.mul_assoc]
  have e3 : x0 * (y1 * 4294967296) = x0 * y1 * 4294967296 := by rw [Int.mul_assoc]
  rw [e1, e2, e3]
  omega

/-- How many bits a number has. -/
def bitlen (n : Int) : Nat := if n = 0 then 0 else n.toNat.log2 + 1
theorem bitlen_spec {n : Int} (h : 0 < n) : (2 : Int) ^ (bitlen n - 1) ≤ n ∧ n < 2 ^ (bitlen n) ∧ 1 ≤ bitlen n := by
  obtain ⟨m, rfl⟩ : ∃ m : Nat, n = (m : Int) := ⟨n.toNat, by omega⟩
  have hm : m ≠ 0 := by omega
  unfold bitlen
  rw [if_neg (by omega), Int.toNat_natCast, Nat.add_sub_cancel]
  have h1 := Nat.log2_self_le hm
  have h2 := Nat.lt_log2_self (n := m)
  refine ⟨?_, ?_, by omega⟩
  · have : ((2 ^ m.log2 : Nat) : Int) ≤ (m : Int) := Int.ofNat_le.2 h1
    rwa [Int.natCast_pow] at this
  · have : (m : Int) < ((2 ^ (m.log2 + 1) : Nat) : Int) := Int.ofNat_lt.2 h2
    rwa [Int.natCast_pow] at this
theorem bitlen_unique {n : Int} {k : Nat} (h1 : (2 : Int) ^ k ≤ n) (h2 : n < 2 ^ (k + 1)) : bitlen n = k + 1 := by
  have hp : (0 : Int) < 2 ^ k := Int.pow_pos (by omega)
  obtain ⟨m, rfl⟩ : ∃ m : Nat, n = (m : Int) := ⟨n.toNat, by omega⟩
  unfold bitlen
  rw [if_neg (by omega), Int.toNat_natCast]
  have h3 : 2 ^ k ≤ m := by have : ((2 ^ k : Nat) : Int) ≤ (m : Int) := by rw [Int.natCast_pow]; exact h1
                            omega
  have h4 : m < 2 ^ (k + 1) := by have : (m : Int) < ((2 ^ (k + 1) : Nat) : Int) := by rw [Int.natCast_pow]; exact h2
                                  omega
  rw [(Nat.log2_eq_iff (by omega)).2 ⟨h3, h4⟩]
theorem bitlen_shift {n : Int} {j : Nat} (h : (2 : Int) ^ j ≤ n) : bitlen n = bitlen (n / 2 ^ j) + j := by
  have hp : (0 : Int) < 2 ^ j := Int.pow_pos (by omega)
  have h0 : 0 < n / 2 ^ j := by
    have := Int.le_ediv_of_mul_le hp (show 1 * 2 ^ j ≤ n by omega)
    omega
  obtain ⟨a, b, c⟩ := bitlen_spec h0
  obtain ⟨k, hk⟩ : ∃ k, bitlen (n / 2 ^ j) = k + 1 := ⟨bitlen (n / 2 ^ j) - 1, by omega⟩
  rw [hk, Nat.add_sub_cancel] at a
  rw [hk] at b
  rw [hk]
  have e : k + 1 + j = (k + j) + 1 := by omega
  rw [e]
  apply bitlen_unique
  · rw [Int.pow_add]
    have := Int.mul_le_of_le_ediv hp a
    exact this
  · have e2 : (2 : Int) ^ (k + j + 1) = 2 ^ (k + 1) * 2 ^ j := by rw [← Int.pow_add]; congr 1; omega
    rw [e2]
    exact Int.lt_mul_of_ediv_lt hp b
theorem bitlen_le {n : Int} (h : 0 ≤ n) {k : Nat} (h2 : n < 2 ^ k) : bitlen n ≤ k := by
  rcases Int.lt_or_eq_of_le h with h0 | h0
  · obtain ⟨a, b, c⟩ := bitlen_spec h0
    rcases Nat.lt_or_ge k (bitlen n) with h3 | h3
    · have h4 : (2 : Int) ^ k ≤ 2 ^ (bitlen n - 1) := by
        have h1 : (2 : Nat) ^ k ≤ 2 ^ (bitlen n - 1) := Nat.pow_le_pow_right (by omega) (by omega)
        have h2 : ((2 ^ k : Nat) : Int) ≤ ((2 ^ (bitlen n - 1) : Nat) : Int) := Int.ofNat_le.2 h1
        rwa [Int.natCast_pow, Int.natCast_pow] at h2
      omega
    · exact h3
  · rw [← h0]; simp [bitlen]

/-- A digit of a quotient: the last guess is right. -/
theorem digit_le {u u1 q r y1 y0 y : Int} (hy : y = y1 * 4294967296 + y0) (hy0 : 0 ≤ y0 ∧ y0 < 4294967296) (hu1 : 0 ≤ u1 ∧ u1 < 4294967296) (hr : r = u - q * y1) (hyp : 0 < y) (hq : (u * 4294967296 + u1) / y ≤ q) (hq0 : 0 ≤ q) (h : q * y0 ≤ r * 4294967296 + u1) :
    q = (u * 4294967296 + u1) / y := by
  have h1 : q * y ≤ u * 4294967296 + u1 := by
    rw [hy, Int.mul_add, ← Int.mul_assoc]
    have e : u * 4294967296 = (r + q * y1) * 4294967296 := by rw [hr]; congr 1; omega
    rw [e, Int.add_mul]
    omega
  have h2 := Int.le_ediv_of_mul_le hyp h1
  omega
theorem digit_gt {u u1 q r y1 y0 y : Int} (hy : y = y1 * 4294967296 + y0) (hr : r = u - q * y1) (hyp : 0 < y) (h : r * 4294967296 + u1 < q * y0) : (u * 4294967296 + u1) / y ≤ q - 1 := by
  have h1 : u * 4294967296 + u1 < q * y := by
    rw [hy, Int.mul_add, ← Int.mul_assoc]
    have e : u * 4294967296 = (r + q * y1) * 4294967296 := by rw [hr]; congr 1; omega
    rw [e, Int.add_mul]
    omega
  have h2 := Int.ediv_lt_of_lt_mul hyp h1
  omega
theorem pow64 {s : Nat} (h : s ≤ 64) : (2 : Int) ^ s * 2 ^ (64 - s) = 18446744073709551616 := by
  rw [← Int.pow_add, show s + (64 - s) = 64 by omega]; rfl
/-- A division, made ready. -/
theorem div64_norm {hi lo y p g : Int} (hp : 0 < p) (hg : 0 < g) (hpg : p * g = 18446744073709551616) (hlo : U64 lo) (hhi : 0 ≤ hi) (hy : hi < y) :
    (hi * 18446744073709551616 + lo) * p = (hi * p + lo / g) * 18446744073709551616 + lo * p % 18446744073709551616 ∧ hi * p + lo / g < y * p ∧ 0 ≤ hi * p + lo / g ∧ 0 ≤ lo / g ∧ lo / g < p := by
  have e1 : lo = g * (lo / g) + lo % g := (Int.mul_ediv_add_emod lo g).symm
  have m0 := Int.emod_nonneg lo (show g ≠ 0 by omega)
  have m1 := Int.emod_lt_of_pos lo hg
  have d0 : 0 ≤ lo / g := Int.ediv_nonneg hlo.1 (by omega)
  have d1 : lo / g < p := Int.ediv_lt_of_lt_mul hg (by rw [hpg]; exact hlo.2)
  have e2 : lo * p = (lo / g) * 18446744073709551616 + lo % g * p := by
    conv => lhs; rw [e1]
    rw [Int.add_mul, Int.mul_comm g, Int.mul_assoc, Int.mul_comm g p, hpg]
  have r0 : 0 ≤ lo % g * p := Int.mul_nonneg m0 (by omega)
  have r1 : lo % g * p < 18446744073709551616 := by
    have := Int.mul_lt_mul_of_pos_right m1 hp
    rw [Int.mul_comm g p, hpg] at this; exact this
  have hip : 0 ≤ hi * p := Int.mul_nonneg hhi (by omega)
  have hyp : hi * p + p ≤ y * p := by
    have := Int.mul_le_mul_of_nonneg_right (show hi + 1 ≤ y by omega) (show 0 ≤ p by omega)
    rw [Int.add_mul, Int.one_mul] at this; exact this
  refine ⟨?_, by omega, by omega, d0, d1⟩
  rw [Int.add_mul, Int.add_mul, Int.mul_right_comm, e2]
  omega
/-- The end of a division. -/
theorem div64_end {N y p y' u1 u0 U q1 r1 q0 r0 : Int} (hp : 0 < p) (hy : y' = y * p) (hy0 : 0 < y) (hN : N * p = U * 18446744073709551616 + u1 * 4294967296 + u0) (h1 : U * 4294967296 + u1 = q1 * y' + r1) (h0 : r1 * 4294967296 + u0 = q0 * y' + r0) (hr0 : 0 ≤ r0 ∧ r0 < y') :
    q1 * 4294967296 + q0 = N / y ∧ r0 / p = N % y := by
  have e : N * p = (q1 * 4294967296 + q0) * y' + r0 := by
    rw [hN, Int.add_mul, Int.mul_right_comm]
    omega
  have e2 : r0 = (N - (q1 * 4294967296 + q0) * y) * p := by
    rw [Int.sub_mul, Int.mul_assoc, ← hy, e]; omega
  obtain ⟨z, hz⟩ : ∃ z, N - (q1 * 4294967296 + q0) * y = z := ⟨_, rfl⟩
  rw [hz] at e2
  have z0 : 0 ≤ z := by
    rcases Int.lt_or_le z 0 with h | h
    · have := Int.mul_neg_of_neg_of_pos h hp; omega
    · exact h
  have z1 : z < y := by
    rcases Int.lt_or_le z y with h | h
    · exact h
    · have := Int.mul_le_mul_of_nonneg_right h (show 0 ≤ p by omega); omega
  have hNz : N = z + y * (q1 * 4294967296 + q0) := by rw [Int.mul_comm y]; omega
  constructor
  · rw [hNz, Int.add_mul_ediv_left _ _ (by omega), Int.ediv_eq_zero_of_lt z0 z1]; omega
  · rw [e2, Int.mul_ediv_cancel _ (by omega), hNz, Int.add_mul_emod_self_left, Int.emod_eq_of_lt z0 z1]
theorem norm_top {y : Int} (h : U64 y) (h0 : 0 < y) : ∃ s : Nat, bitlen y + s = 64 ∧ s ≤ 63 ∧ 9223372036854775808 ≤ y * 2 ^ s ∧ y * 2 ^ s < 18446744073709551616 := by
  obtain ⟨a, b, c⟩ := bitlen_spec h0
  have d : bitlen y ≤ 64 := bitlen_le (by omega) (by have := h.2; exact this)
  refine ⟨64 - bitlen y, by omega, by omega, ?_, ?_⟩
  · have h1 := Int.mul_le_mul_of_nonneg_right a (show (0 : Int) ≤ 2 ^ (64 - bitlen y) from Int.le_of_lt (Int.pow_pos (by omega)))
    rw [← Int.pow_add, show bitlen y - 1 + (64 - bitlen y) = 63 by omega] at h1
    exact h1
  · have h1 := Int.mul_lt_mul_of_pos_right b (show (0 : Int) < 2 ^ (64 - bitlen y) from Int.pow_pos (by omega))
    rw [← Int.pow_add, show bitlen y + (64 - bitlen y) = 64 by omega] at h1
    exact h1
instance (n : Int) : Decidable (I64 n) := by unfold I64; exact inferInstance
end Go.Proofs.YtdpbbagllhfjbaaDoorW.AI
