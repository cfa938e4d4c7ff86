import Derived.Test.YtimlhgpjmjmjhaaAIBplaceA
namespace Go.Proofs.YtimlhgpjmjmjhaaW.AI.B
open Go Go.Proofs.YtimlhgpjmjmjhaaW.AI Go.Proofs.YtimlhgpjmjmjhaaW.AI.Oct Go.RowKit
set_option maxRecDepth 100000
set_option linter.unusedSimpArgs false
set_option linter.unusedVariables false
set_option linter.unusedSectionVars false
theorem sg_1 {v : Int} (v0 : 0 ≤ v) (v1 : v < 18446744073709551616) : ∃ s e, (∀ h, W CP 48 [.int .u64 v, .int .i64 1] h = some (.tup [.int .i64 s, .int .i64 e], h, [])) ∧ (∀ h, W CP 49 [.int .u64 v, .int .i64 1] h = some (.tup [.int .i64 s, .int .i64 e], h, [])) := by
  have eF : (256 : Int) ^ 1 = 256 := by decide
  have eP : (256 : Int) ^ (1 - 1) = 1 := by decide
  by_cases h1 : v < 128
  · exact ⟨v, 0, fun h => p48_1_lo v v0 h1 h, fun h => r49_lo (k := 1) v0 (by omega) (by rw [eF]; omega) (by rw [eP]; omega) (by decide) (by decide) h⟩
  · by_cases h2 : v < 256
    · refine ⟨v - 256, 0, fun h => p48_1_hi v (by omega) h2 h, fun h => ?_⟩
      have := r49_hi (k := 1) v0 v1 (by rw [eF]; omega) (by rw [eP]; omega) (by rw [eF]; omega) (by decide) (by decide) h
      rw [eF] at this
      exact this
    · exact ⟨0, 20, fun h => p48_1_bad v (by omega) v1 h, fun h => r49_bad (k := 1) v0 v1 (by rw [eF]; omega) (by decide) (by decide) h⟩
theorem ug_1 {n : Int} (n0 : -9223372036854775808 ≤ n) (n1 : n < 9223372036854775808) : ∃ s e, (∀ h, W CP 50 [.int .i64 n, .int .i64 1] h = some (.tup [.int .u64 s, .int .i64 e], h, [])) ∧ (∀ h, W CP 51 [.int .i64 n, .int .i64 1] h = some (.tup [.int .u64 s, .int .i64 e], h, [])) := by
  have eF : (256 : Int) ^ 1 = 256 := by decide
  have eP : (256 : Int) ^ (1 - 1) = 1 := by decide
  by_cases h0 : 0 ≤ n
  · by_cases h1 : n < 128
    · exact ⟨n, 0, fun h => p50_1_lo n h0 h1 h, fun h => r51_lo (k := 1) h0 n1 (by rw [eF]; omega) (by rw [eP]; omega) (by decide) (by decide) h⟩
    · exact ⟨0, 20, fun h => p50_1_bad n (by omega) n0 (by omega) h, fun h => r51_bad (k := 1) (w := n) ⟨n0, n1⟩ (by rw [if_neg (by omega)]) (by rw [eF, eP]; omega) (by decide) (by decide) h⟩
  · by_cases h1 : -128 ≤ n
    · refine ⟨n + 256, 0, fun h => p50_1_neg n h1 (by omega) h, fun h => ?_⟩
      have := r51_neg (k := 1) (w := -1 - n) (by omega) n0 rfl (by rw [eF]; omega) (by rw [eP]; omega) (by rw [eF]; omega) (by decide) (by decide) h
      rw [eF] at this
      exact this
    · exact ⟨0, 20, fun h => p50_1_bad n (by omega) n0 (by omega) h, fun h => r51_bad (k := 1) (w := -1 - n) ⟨n0, n1⟩ (by rw [if_pos (by omega)]) (by rw [eF, eP]; omega) (by decide) (by decide) h⟩
theorem sg_2 {v : Int} (v0 : 0 ≤ v) (v1 : v < 18446744073709551616) : ∃ s e, (∀ h, W CP 48 [.int .u64 v, .int .i64 2] h = some (.tup [.int .i64 s, .int .i64 e], h, [])) ∧ (∀ h, W CP 49 [.int .u64 v, .int .i64 2] h = some (.tup [.int .i64 s, .int .i64 e], h, [])) := by
  have eF : (256 : Int) ^ 2 = 65536 := by decide
  have eP : (256 : Int) ^ (2 - 1) = 256 := by decide
  by_cases h1 : v < 32768
  · exact ⟨v, 0, fun h => p48_2_lo v v0 h1 h, fun h => r49_lo (k := 2) v0 (by omega) (by rw [eF]; omega) (by rw [eP]; omega) (by decide) (by decide) h⟩
  · by_cases h2 : v < 65536
    · refine ⟨v - 65536, 0, fun h => p48_2_hi v (by omega) h2 h, fun h => ?_⟩
      have := r49_hi (k := 2) v0 v1 (by rw [eF]; omega) (by rw [eP]; omega) (by rw [eF]; omega) (by decide) (by decide) h
      rw [eF] at this
      exact this
    · exact ⟨0, 20, fun h => p48_2_bad v (by omega) v1 h, fun h => r49_bad (k := 2) v0 v1 (by rw [eF]; omega) (by decide) (by decide) h⟩
theorem ug_2 {n : Int} (n0 : -9223372036854775808 ≤ n) (n1 : n < 9223372036854775808) : ∃ s e, (∀ h, W CP 50 [.int .i64 n, .int .i64 2] h = some (.tup [.int .u64 s, .int .i64 e], h, [])) ∧ (∀ h, W CP 51 [.int .i64 n, .int .i64 2] h = some (.tup [.int .u64 s, .int .i64 e], h, [])) := by
  have eF : (256 : Int) ^ 2 = 65536 := by decide
  have eP : (256 : Int) ^ (2 - 1) = 256 := by decide
  by_cases h0 : 0 ≤ n
  · by_cases h1 : n < 32768
    · exact ⟨n, 0, fun h => p50_2_lo n h0 h1 h, fun h => r51_lo (k := 2) h0 n1 (by rw [eF]; omega) (by rw [eP]; omega) (by decide) (by decide) h⟩
    · exact ⟨0, 20, fun h => p50_2_bad n (by omega) n0 (by omega) h, fun h => r51_bad (k := 2) (w := n) ⟨n0, n1⟩ (by rw [if_neg (by omega)]) (by rw [eF, eP]; omega) (by decide) (by decide) h⟩
  · by_cases h1 : -32768 ≤ n
    · refine ⟨n + 65536, 0, fun h => p50_2_neg n h1 (by omega) h, fun h => ?_⟩
      have := r51_neg (k := 2) (w := -1 - n) (by omega) n0 rfl (by rw [eF]; omega) (by rw [eP]; omega) (by rw [eF]; omega) (by decide) (by decide) h
      rw [eF] at this
      exact this
    · exact ⟨0, 20, fun h => p50_2_bad n (by omega) n0 (by omega) h, fun h => r51_bad (k := 2) (w := -1 - n) ⟨n0, n1⟩ (by rw [if_pos (by omega)]) (by rw [eF, eP]; omega) (by decide) (by decide) h⟩
theorem sg_3 {v : Int} (v0 : 0 ≤ v) (v1 : v < 18446744073709551616) : ∃ s e, (∀ h, W CP 48 [.int .u64 v, .int .i64 3] h = some (.tup [.int .i64 s, .int .i64 e], h, [])) ∧ (∀ h, W CP 49 [.int .u64 v, .int .i64 3] h = some (.tup [.int .i64 s, .int .i64 e], h, [])) := by
  have eF : (256 : Int) ^ 3 = 16777216 := by decide
  have eP : (256 : Int) ^ (3 - 1) = 65536 := by decide
  by_cases h1 : v < 8388608
  · exact ⟨v, 0, fun h => p48_3_lo v v0 h1 h, fun h => r49_lo (k := 3) v0 (by omega) (by rw [eF]; omega) (by rw [eP]; omega) (by decide) (by decide) h⟩
  · by_cases h2 : v < 16777216
    · refine ⟨v - 16777216, 0, fun h => p48_3_hi v (by omega) h2 h, fun h => ?_⟩
      have := r49_hi (k := 3) v0 v1 (by rw [eF]; omega) (by rw [eP]; omega) (by rw [eF]; omega) (by decide) (by decide) h
      rw [eF] at this
      exact this
    · exact ⟨0, 20, fun h => p48_3_bad v (by omega) v1 h, fun h => r49_bad (k := 3) v0 v1 (by rw [eF]; omega) (by decide) (by decide) h⟩
theorem ug_3 {n : Int} (n0 : -9223372036854775808 ≤ n) (n1 : n < 9223372036854775808) : ∃ s e, (∀ h, W CP 50 [.int .i64 n, .int .i64 3] h = some (.tup [.int .u64 s, .int .i64 e], h, [])) ∧ (∀ h, W CP 51 [.int .i64 n, .int .i64 3] h = some (.tup [.int .u64 s, .int .i64 e], h, [])) := by
  have eF : (256 : Int) ^ 3 = 16777216 := by decide
  have eP : (256 : Int) ^ (3 - 1) = 65536 := by decide
  by_cases h0 : 0 ≤ n
  · by_cases h1 : n < 8388608
    · exact ⟨n, 0, fun h => p50_3_lo n h0 h1 h, fun h => r51_lo (k := 3) h0 n1 (by rw [eF]; omega) (by rw [eP]; omega) (by decide) (by decide) h⟩
    · exact ⟨0, 20, fun h => p50_3_bad n (by omega) n0 (by omega) h, fun h => r51_bad (k := 3) (w := n) ⟨n0, n1⟩ (by rw [if_neg (by omega)]) (by rw [eF, eP]; omega) (by decide) (by decide) h⟩
  · by_cases h1 : -8388608 ≤ n
    · refine ⟨n + 16777216, 0, fun h => p50_3_neg n h1 (by omega) h, fun h => ?_⟩
      have := r51_neg (k := 3) (w := -1 - n) (by omega) n0 rfl (by rw [eF]; omega) (by rw [eP]; omega) (by rw [eF]; omega) (by decide) (by decide) h
      rw [eF] at this
      exact this
    · exact ⟨0, 20, fun h => p50_3_bad n (by omega) n0 (by omega) h, fun h => r51_bad (k := 3) (w := -1 - n) ⟨n0, n1⟩ (by rw [if_pos (by omega)]) (by rw [eF, eP]; omega) (by decide) (by decide) h⟩
theorem sg_4 {v : Int} (v0 : 0 ≤ v) (v1 : v < 18446744073709551616) : ∃ s e, (∀ h, W CP 48 [.int .u64 v, .int .i64 4] h = some (.tup [.int .i64 s, .int .i64 e], h, [])) ∧ (∀ h, W CP 49 [.int .u64 v, .int .i64 4] h = some (.tup [.int .i64 s, .int .i64 e], h, [])) := by
  have eF : (256 : Int) ^ 4 = 4294967296 := by decide
  have eP : (256 : Int) ^ (4 - 1) = 16777216 := by decide
  by_cases h1 : v < 2147483648
  · exact ⟨v, 0, fun h => p48_4_lo v v0 h1 h, fun h => r49_lo (k := 4) v0 (by omega) (by rw [eF]; omega) (by rw [eP]; omega) (by decide) (by decide) h⟩
  · by_cases h2 : v < 4294967296
    · refine ⟨v - 4294967296, 0, fun h => p48_4_hi v (by omega) h2 h, fun h => ?_⟩
      have := r49_hi (k := 4) v0 v1 (by rw [eF]; omega) (by rw [eP]; omega) (by rw [eF]; omega) (by decide) (by decide) h
      rw [eF] at this
      exact this
    · exact ⟨0, 20, fun h => p48_4_bad v (by omega) v1 h, fun h => r49_bad (k := 4) v0 v1 (by rw [eF]; omega) (by decide) (by decide) h⟩
theorem ug_4 {n : Int} (n0 : -9223372036854775808 ≤ n) (n1 : n < 9223372036854775808) : ∃ s e, (∀ h, W CP 50 [.int .i64 n, .int .i64 4] h = some (.tup [.int .u64 s, .int .i64 e], h, [])) ∧ (∀ h, W CP 51 [.int .i64 n, .int .i64 4] h = some (.tup [.int .u64 s, .int .i64 e], h, [])) := by
  have eF : (256 : Int) ^ 4 = 4294967296 := by decide
  have eP : (256 : Int) ^ (4 - 1) = 16777216 := by decide
  by_cases h0 : 0 ≤ n
  · by_cases h1 : n < 2147483648
    · exact ⟨n, 0, fun h => p50_4_lo n h0 h1 h, fun h => r51_lo (k := 4) h0 n1 (by rw [eF]; omega) (by rw [eP]; omega) (by decide) (by decide) h⟩
    · exact ⟨0, 20, fun h => p50_4_bad n (by omega) n0 (by omega) h, fun h => r51_bad (k := 4) (w := n) ⟨n0, n1⟩ (by rw [if_neg (by omega)]) (by rw [eF, eP]; omega) (by decide) (by decide) h⟩
  · by_cases h1 : -2147483648 ≤ n
    · refine ⟨n + 4294967296, 0, fun h => p50_4_neg n h1 (by omega) h, fun h => ?_⟩
      have := r51_neg (k := 4) (w := -1 - n) (by omega) n0 rfl (by rw [eF]; omega) (by rw [eP]; omega) (by rw [eF]; omega) (by decide) (by decide) h
      rw [eF] at this
      exact this
    · exact ⟨0, 20, fun h => p50_4_bad n (by omega) n0 (by omega) h, fun h => r51_bad (k := 4) (w := -1 - n) ⟨n0, n1⟩ (by rw [if_pos (by omega)]) (by rw [eF, eP]; omega) (by decide) (by decide) h⟩
theorem sg_5 {v : Int} (v0 : 0 ≤ v) (v1 : v < 18446744073709551616) : ∃ s e, (∀ h, W CP 48 [.int .u64 v, .int .i64 5] h = some (.tup [.int .i64 s, .int .i64 e], h, [])) ∧ (∀ h, W CP 49 [.int .u64 v, .int .i64 5] h = some (.tup [.int .i64 s, .int .i64 e], h, [])) := by
  have eF : (256 : Int) ^ 5 = 1099511627776 := by decide
  have eP : (256 : Int) ^ (5 - 1) = 4294967296 := by decide
  by_cases h1 : v < 549755813888
  · exact ⟨v, 0, fun h => p48_5_lo v v0 h1 h, fun h => r49_lo (k := 5) v0 (by omega) (by rw [eF]; omega) (by rw [eP]; omega) (by decide) (by decide) h⟩
  · by_cases h2 : v < 1099511627776
    · refine ⟨v - 1099511627776, 0, fun h => p48_5_hi v (by omega) h2 h, fun h => ?_⟩
      have := r49_hi (k := 5) v0 v1 (by rw [eF]; omega) (by rw [eP]; omega) (by rw [eF]; omega) (by decide) (by decide) h
      rw [eF] at this
      exact this
    · exact ⟨0, 20, fun h => p48_5_bad v (by omega) v1 h, fun h => r49_bad (k := 5) v0 v1 (by rw [eF]; omega) (by decide) (by decide) h⟩
theorem ug_5 {n : Int} (n0 : -9223372036854775808 ≤ n) (n1 : n < 9223372036854775808) : ∃ s e, (∀ h, W CP 50 [.int .i64 n, .int .i64 5] h = some (.tup [.int .u64 s, .int .i64 e], h, [])) ∧ (∀ h, W CP 51 [.int .i64 n, .int .i64 5] h = some (.tup [.int .u64 s, .int .i64 e], h, [])) := by
  have eF : (256 : Int) ^ 5 = 1099511627776 := by decide
  have eP : (256 : Int) ^ (5 - 1) = 4294967296 := by decide
  by_cases h0 : 0 ≤ n
  · by_cases h1 : n < 549755813888
    · exact ⟨n, 0, fun h => p50_5_lo n h0 h1 h, fun h => r51_lo (k := 5) h0 n1 (by rw [eF]; omega) (by rw [eP]; omega) (by decide) (by decide) h⟩
    · exact ⟨0, 20, fun h => p50_5_bad n (by omega) n0 (by omega) h, fun h => r51_bad (k := 5) (w := n) ⟨n0, n1⟩ (by rw [if_neg (by omega)]) (by rw [eF, eP]; omega) (by decide) (by decide) h⟩
  · by_cases h1 : -549755813888 ≤ n
    · refine ⟨n + 1099511627776, 0, fun h => p50_5_neg n h1 (by omega) h, fun h => ?_⟩
      have := r51_neg (k := 5) (w := -1 - n) (by omega) n0 rfl (by rw [eF]; omega) (by rw [eP]; omega) (by rw [eF]; omega) (by decide) (by decide) h
      rw [eF] at this
      exact this
    · exact ⟨0, 20, fun h => p50_5_bad n (by omega) n0 (by omega) h, fun h => r51_bad (k := 5) (w := -1 - n) ⟨n0, n1⟩ (by rw [if_pos (by omega)]) (by rw [eF, eP]; omega) (by decide) (by decide) h⟩
theorem sg_6 {v : Int} (v0 : 0 ≤ v) (v1 : v < 18446744073709551616) : ∃ s e, (∀ h, W CP 48 [.int .u64 v, .int .i64 6] h = some (.tup [.int .i64 s, .int .i64 e], h, [])) ∧ (∀ h, W CP 49 [.int .u64 v, .int .i64 6] h = some (.tup [.int .i64 s, .int .i64 e], h, [])) := by
  have eF : (256 : Int) ^ 6 = 281474976710656 := by decide
  have eP : (256 : Int) ^ (6 - 1) = 1099511627776 := by decide
  by_cases h1 : v < 140737488355328
  · exact ⟨v, 0, fun h => p48_6_lo v v0 h1 h, fun h => r49_lo (k := 6) v0 (by omega) (by rw [eF]; omega) (by rw [eP]; omega) (by decide) (by decide) h⟩
  · by_cases h2 : v < 281474976710656
    · refine ⟨v - 281474976710656, 0, fun h => p48_6_hi v (by omega) h2 h, fun h => ?_⟩
      have := r49_hi (k := 6) v0 v1 (by rw [eF]; omega) (by rw [eP]; omega) (by rw [eF]; omega) (by decide) (by decide) h
      rw [eF] at this
      exact this
    · exact ⟨0, 20, fun h => p48_6_bad v (by omega) v1 h, fun h => r49_bad (k := 6) v0 v1 (by rw [eF]; omega) (by decide) (by decide) h⟩
theorem ug_6 {n : Int} (n0 : -9223372036854775808 ≤ n) (n1 : n < 9223372036854775808) : ∃ s e, (∀ h, W CP 50 [.int .i64 n, .int .i64 6] h = some (.tup [.int .u64 s, .int .i64 e], h, [])) ∧ (∀ h, W CP 51 [.int .i64 n, .int .i64 6] h = some (.tup [.int .u64 s, .int .i64 e], h, [])) := by
  have eF : (256 : Int) ^ 6 = 281474976710656 := by decide
  have eP : (256 : Int) ^ (6 - 1) = 1099511627776 := by decide
  by_cases h0 : 0 ≤ n
  · by_cases h1 : n < 140737488355328
    · exact ⟨n, 0, fun h => p50_6_lo n h0 h1 h, fun h => r51_lo (k := 6) h0 n1 (by rw [eF]; omega) (by rw [eP]; omega) (by decide) (by decide) h⟩
    · exact ⟨0, 20, fun h => p50_6_bad n (by omega) n0 (by omega) h, fun h => r51_bad (k := 6) (w := n) ⟨n0, n1⟩ (by rw [if_neg (by omega)]) (by rw [eF, eP]; omega) (by decide) (by decide) h⟩
  · by_cases h1 : -140737488355328 ≤ n
    · refine ⟨n + 281474976710656, 0, fun h => p50_6_neg n h1 (by omega) h, fun h => ?_⟩
      have := r51_neg (k := 6) (w := -1 - n) (by omega) n0 rfl (by rw [eF]; omega) (by rw [eP]; omega) (by rw [eF]; omega) (by decide) (by decide) h
      rw [eF] at this
      exact this
    · exact ⟨0, 20, fun h => p50_6_bad n (by omega) n0 (by omega) h, fun h => r51_bad (k := 6) (w := -1 - n) ⟨n0, n1⟩ (by rw [if_pos (by omega)]) (by rw [eF, eP]; omega) (by decide) (by decide) h⟩
theorem sg_7 {v : Int} (v0 : 0 ≤ v) (v1 : v < 18446744073709551616) : ∃ s e, (∀ h, W CP 48 [.int .u64 v, .int .i64 7] h = some (.tup [.int .i64 s, .int .i64 e], h, [])) ∧ (∀ h, W CP 49 [.int .u64 v, .int .i64 7] h = some (.tup [.int .i64 s, .int .i64 e], h, [])) := by
  have eF : (256 : Int) ^ 7 = 72057594037927936 := by decide
  have eP : (256 : Int) ^ (7 - 1) = 281474976710656 := by decide
  by_cases h1 : v < 36028797018963968
  · exact ⟨v, 0, fun h => p48_7_lo v v0 h1 h, fun h => r49_lo (k := 7) v0 (by omega) (by rw [eF]; omega) (by rw [eP]; omega) (by decide) (by decide) h⟩
  · by_cases h2 : v < 72057594037927936
    · refine ⟨v - 72057594037927936, 0, fun h => p48_7_hi v (by omega) h2 h, fun h => ?_⟩
      have := r49_hi (k := 7) v0 v1 (by rw [eF]; omega) (by rw [eP]; omega) (by rw [eF]; omega) (by decide) (by decide) h
      rw [eF] at this
      exact this
    · exact ⟨0, 20, fun h => p48_7_bad v (by omega) v1 h, fun h => r49_bad (k := 7) v0 v1 (by rw [eF]; omega) (by decide) (by decide) h⟩
theorem ug_7 {n : Int} (n0 : -9223372036854775808 ≤ n) (n1 : n < 9223372036854775808) : ∃ s e, (∀ h, W CP 50 [.int .i64 n, .int .i64 7] h = some (.tup [.int .u64 s, .int .i64 e], h, [])) ∧ (∀ h, W CP 51 [.int .i64 n, .int .i64 7] h = some (.tup [.int .u64 s, .int .i64 e], h, [])) := by
  have eF : (256 : Int) ^ 7 = 72057594037927936 := by decide
  have eP : (256 : Int) ^ (7 - 1) = 281474976710656 := by decide
  by_cases h0 : 0 ≤ n
  · by_cases h1 : n < 36028797018963968
    · exact ⟨n, 0, fun h => p50_7_lo n h0 h1 h, fun h => r51_lo (k := 7) h0 n1 (by rw [eF]; omega) (by rw [eP]; omega) (by decide) (by decide) h⟩
    · exact ⟨0, 20, fun h => p50_7_bad n (by omega) n0 (by omega) h, fun h => r51_bad (k := 7) (w := n) ⟨n0, n1⟩ (by rw [if_neg (by omega)]) (by rw [eF, eP]; omega) (by decide) (by decide) h⟩
  · by_cases h1 : -36028797018963968 ≤ n
    · refine ⟨n + 72057594037927936, 0, fun h => p50_7_neg n h1 (by omega) h, fun h => ?_⟩
      have := r51_neg (k := 7) (w := -1 - n) (by omega) n0 rfl (by rw [eF]; omega) (by rw [eP]; omega) (by rw [eF]; omega) (by decide) (by decide) h
      rw [eF] at this
      exact this
    · exact ⟨0, 20, fun h => p50_7_bad n (by omega) n0 (by omega) h, fun h => r51_bad (k := 7) (w := -1 - n) ⟨n0, n1⟩ (by rw [if_pos (by omega)]) (by rw [eF, eP]; omega) (by decide) (by decide) h⟩
theorem sg_8 {v : Int} (v0 : 0 ≤ v) (v1 : v < 18446744073709551616) : ∃ s e, (∀ h, W CP 48 [.int .u64 v, .int .i64 8] h = some (.tup [.int .i64 s, .int .i64 e], h, [])) ∧ (∀ h, W CP 49 [.int .u64 v, .int .i64 8] h = some (.tup [.int .i64 s, .int .i64 e], h, [])) := by
  have eF : (256 : Int) ^ 8 = 18446744073709551616 := by decide
  have eP : (256 : Int) ^ (8 - 1) = 72057594037927936 := by decide
  by_cases h1 : v < 9223372036854775808
  · exact ⟨v, 0, fun h => p48_8_lo v v0 h1 h, fun h => r49_lo (k := 8) v0 (by omega) (by rw [eF]; omega) (by rw [eP]; omega) (by decide) (by decide) h⟩
  · refine ⟨v - 18446744073709551616, 0, fun h => p48_8_hi v (by omega) v1 h, fun h => ?_⟩
    have := r49_hi (k := 8) v0 v1 (by rw [eF]; omega) (by rw [eP]; omega) (by rw [eF]; omega) (by decide) (by decide) h
    rw [eF] at this
    exact this
theorem ug_8 {n : Int} (n0 : -9223372036854775808 ≤ n) (n1 : n < 9223372036854775808) : ∃ s e, (∀ h, W CP 50 [.int .i64 n, .int .i64 8] h = some (.tup [.int .u64 s, .int .i64 e], h, [])) ∧ (∀ h, W CP 51 [.int .i64 n, .int .i64 8] h = some (.tup [.int .u64 s, .int .i64 e], h, [])) := by
  have eF : (256 : Int) ^ 8 = 18446744073709551616 := by decide
  have eP : (256 : Int) ^ (8 - 1) = 72057594037927936 := by decide
  by_cases h0 : 0 ≤ n
  · exact ⟨n, 0, fun h => p50_8_lo n h0 n1 h, fun h => r51_lo (k := 8) h0 n1 (by rw [eF]; omega) (by rw [eP]; omega) (by decide) (by decide) h⟩
  · refine ⟨n + 18446744073709551616, 0, fun h => p50_8_neg n n0 (by omega) h, fun h => ?_⟩
    have := r51_neg (k := 8) (w := -1 - n) (by omega) n0 rfl (by rw [eF]; omega) (by rw [eP]; omega) (by rw [eF]; omega) (by decide) (by decide) h
    rw [eF] at this
    exact this
theorem okS_cases {k : Int} (h : okS k = true) : k = 1 ∨ k = 2 ∨ k = 3 ∨ k = 4 ∨ k = 5 ∨ k = 6 ∨ k = 7 ∨ k = 8 := by
  unfold okS at h
  simp only [decide_eq_true_eq] at h
  omega
theorem okS_bad {k : Int} (h : okS k = false) : k < 1 ∨ 8 < k := by
  unfold okS at h
  simp only [decide_eq_false_iff_not] at h
  omega
theorem sg_u {v k : Int} (v0 : 0 ≤ v) (v1 : v < 18446744073709551616) : ∃ s e, (∀ h, W CP 48 [.int .u64 v, .int .i64 k] h = some (.tup [.int .i64 s, .int .i64 e], h, [])) ∧ (∀ h, W CP 49 [.int .u64 v, .int .i64 k] h = some (.tup [.int .i64 s, .int .i64 e], h, [])) := by
  cases hk : okS k with
  | false => exact ⟨0, 1, p48_arg (okS_bad hk), r49_arg (okS_bad hk)⟩
  | true => rcases okS_cases hk with h | h | h | h | h | h | h | h <;> subst k <;> first | exact sg_1 v0 v1 | exact sg_2 v0 v1 | exact sg_3 v0 v1 | exact sg_4 v0 v1 | exact sg_5 v0 v1 | exact sg_6 v0 v1 | exact sg_7 v0 v1 | exact sg_8 v0 v1
theorem ug_u {n k : Int} (n0 : -9223372036854775808 ≤ n) (n1 : n < 9223372036854775808) : ∃ s e, (∀ h, W CP 50 [.int .i64 n, .int .i64 k] h = some (.tup [.int .u64 s, .int .i64 e], h, [])) ∧ (∀ h, W CP 51 [.int .i64 n, .int .i64 k] h = some (.tup [.int .u64 s, .int .i64 e], h, [])) := by
  cases hk : okS k with
  | false => exact ⟨0, 1, p50_arg (okS_bad hk), r51_arg (okS_bad hk)⟩
  | true => rcases okS_cases hk with h | h | h | h | h | h | h | h <;> subst k <;> first | exact ug_1 n0 n1 | exact ug_2 n0 n1 | exact ug_3 n0 n1 | exact ug_4 n0 n1 | exact ug_5 n0 n1 | exact ug_6 n0 n1 | exact ug_7 n0 n1 | exact ug_8 n0 n1
end Go.Proofs.YtimlhgpjmjmjhaaW.AI.B
