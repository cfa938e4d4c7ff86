import Derived.Test.YtcpiohklljppaaaAIDcmba
namespace Go.Proofs.YtcpiohklljppaaaW.AI.D
open Go Go.Proofs.YtcpiohklljppaaaW.AI
set_option maxRecDepth 100000
set_option linter.unusedSimpArgs false
set_option linter.unusedVariables false
set_option linter.unusedSectionVars false
-- ------------------------------------------------------------------ plain laws
theorem wt1_min {L : List Sp} {s : Sp} (hs : s ∈ L) : wt1 (wid L) s = if 1048576 < wid L * 1024 / (wS s + 1) then 1048576 else wid L * 1024 / (wS s + 1) := by
  have h1 := wid_in L
  have h2 := wS_in s
  have h3 : 0 ≤ wid L * 1024 / (wS s + 1) := Int.ediv_nonneg (by omega) (by omega)
  unfold wt1
  simp only [mdv, Bool.false_eq_true, if_false]
  by_cases c : I64 (wid L * 1024 / (wS s + 1))
  · rw [if_pos c]
  · rw [if_neg c, if_neg (by decide), if_pos (by unfold I64 at c; omega)]
theorem div_anti {a c c' : Int} (ha : 0 ≤ a) (hc : 0 < c) (h : c ≤ c') : a / c' ≤ a / c := by
  rw [Int.le_ediv_iff_mul_le hc]
  have h0 : 0 ≤ a / c' := Int.ediv_nonneg ha (by omega)
  have h1 : a / c' * c' ≤ a := Int.ediv_mul_le _ (by omega)
  have h2 := Int.mul_le_mul_of_nonneg_left h h0
  omega
theorem wt1_anti {L : List Sp} {s t : Sp} (hs : s ∈ L) (ht : t ∈ L) (h : wS s ≤ wS t) : wt1 (wid L) t ≤ wt1 (wid L) s := by
  have h1 := wid_in L
  have h2 := wS_in s
  have h3 := div_anti (a := wid L * 1024) (c := wS s + 1) (c' := wS t + 1) (by omega) (by omega) (by omega)
  rw [wt1_min hs, wt1_min ht]
  split <;> split <;> omega
theorem cmS_mid {lo hi : Int} {s : Sp} (h1 : lo ≤ mS s) (h2 : mS s ≤ hi) : cmS lo hi s = mS s := by
  unfold cmS clamp
  rw [if_neg (by omega), if_neg (by omega)]
theorem mS_of {s : Sp} (h : mayB s = true) : mS s = s.2.1 + (s.2.2 - s.2.1) / 2 := by
  have : mayS s.1 s.2.1 s.2.2 = true := h
  unfold mS midS
  rw [if_pos this]
theorem wS_of {s : Sp} (h : mayB s = true) : wS s = s.2.2 - s.2.1 := by
  have : mayS s.1 s.2.1 s.2.2 = true := h
  unfold wS widS
  rw [if_pos this]
theorem nearer_plain {s t : Sp} {lo hi : Int} (ms : mayB s = true) (mt : mayB t = true) (h : wS s ≤ wS t) (h1 : lo ≤ mS s) (h2 : mS s ≤ hi) (h3 : lo ≤ mS t) (h4 : mS t ≤ hi) :
    max (meanP [s, t] lo hi - mS s) (-(meanP [s, t] lo hi - mS s)) ≤ max (meanP [s, t] lo hi - mS t) (-(meanP [s, t] lo hi - mS t)) + 4 := by
  have hs : s ∈ [s, t] := by simp
  have ht : t ∈ [s, t] := by simp
  have w1 := wt1_in hs
  have w2 := wt1_in ht
  have w3 := wt1_anti hs ht h
  have e : meanP [s, t] lo hi = lo + ((mS s - lo) * wt1 (wid [s, t]) s / (wt1 (wid [s, t]) s + wt1 (wid [s, t]) t) + (mS t - lo) * wt1 (wid [s, t]) t / (wt1 (wid [s, t]) s + wt1 (wid [s, t]) t)) := by
    simp only [meanP, q2S, allP, List.map_cons, List.map_nil, List.sum_cons, List.sum_nil, mdv, Bool.false_eq_true, if_false, Int.add_zero, cmS_mid h1 h2, cmS_mid h3 h4]
  rw [e]
  obtain ⟨m0, hm0⟩ : ∃ z, mS s = z := ⟨_, rfl⟩
  obtain ⟨m1, hm1⟩ : ∃ z, mS t = z := ⟨_, rfl⟩
  obtain ⟨u, hu⟩ : ∃ z, wt1 (wid [s, t]) s = z := ⟨_, rfl⟩
  obtain ⟨v, hv⟩ : ∃ z, wt1 (wid [s, t]) t = z := ⟨_, rfl⟩
  rw [hm0, hm1, hu, hv]
  rw [hu, hv] at w3
  rw [hu] at w1
  rw [hv] at w2
  have a0 : 0 < u + v := by omega
  have p1 : (m0 - lo) * u / (u + v) * (u + v) ≤ (m0 - lo) * u := Int.ediv_mul_le _ (by omega)
  have p2 : (m0 - lo) * u < ((m0 - lo) * u / (u + v) + 1) * (u + v) := Int.lt_ediv_add_one_mul_self _ a0
  have p3 : (m1 - lo) * v / (u + v) * (u + v) ≤ (m1 - lo) * v := Int.ediv_mul_le _ (by omega)
  have p4 : (m1 - lo) * v < ((m1 - lo) * v / (u + v) + 1) * (u + v) := Int.lt_ediv_add_one_mul_self _ a0
  obtain ⟨q, hq⟩ : ∃ z, (m0 - lo) * u / (u + v) = z := ⟨_, rfl⟩
  obtain ⟨r, hr⟩ : ∃ z, (m1 - lo) * v / (u + v) = z := ⟨_, rfl⟩
  rw [hq] at p1 p2 ⊢
  rw [hr] at p3 p4 ⊢
  -- x and y, times the sum of the weights
  obtain ⟨x, hx⟩ : ∃ z, lo + (q + r) - m0 = z := ⟨_, rfl⟩
  obtain ⟨y, hy⟩ : ∃ z, lo + (q + r) - m1 = z := ⟨_, rfl⟩
  obtain ⟨D, hD⟩ : ∃ z, m1 - m0 = z := ⟨_, rfl⟩
  have hm1' : m1 = m0 + D := by omega
  have hx' : m0 = lo + (q + r) - x := by omega
  have hyx : y = x - D := by omega
  subst hm1'
  have k1 : x * (u + v) ≤ D * v := by
    have : x = q + r - (m0 - lo) := by omega
    rw [this]
    simp only [Int.sub_mul, Int.add_mul, Int.mul_add] at p1 p3 ⊢
    omega
  have k2 : D * v - 2 * (u + v) < x * (u + v) := by
    have : x = q + r - (m0 - lo) := by omega
    rw [this]
    simp only [Int.sub_mul, Int.add_mul, Int.mul_add] at p2 p4 ⊢
    omega
  rw [hx, hy]
  have k3 : y * (u + v) = x * (u + v) - D * u - D * v := by rw [hyx]; simp only [Int.sub_mul, Int.mul_add]; omega
  have nn : ∀ z : Int, max z (-z) = if 0 ≤ z then z else -z := fun z => by omega
  rw [nn x, nn y]
  by_cases dD : 0 ≤ D
  · have t1 : D * v ≤ D * u := Int.mul_le_mul_of_nonneg_left w3 dD
    have t0 : 0 ≤ D * v := Int.mul_nonneg dD (by omega)
    have ty : y ≤ 0 := by
      refine Int.le_of_mul_le_mul_right (a := u + v) ?_ a0
      omega
    by_cases c : 0 ≤ x
    · have tx : x ≤ -y := by
        refine Int.le_of_mul_le_mul_right (a := u + v) ?_ a0
        rw [Int.neg_mul]
        omega
      split <;> split <;> omega
    · have tx : -2 < x := by
        refine Int.lt_of_mul_lt_mul_right (a := u + v) ?_ (Int.le_of_lt a0)
        omega
      split <;> split <;> omega
  · have t1 : D * u ≤ D * v := Int.mul_le_mul_of_nonpos_left (by omega) w3
    have t0 : D * v ≤ 0 := Int.mul_nonpos_of_nonpos_of_nonneg (by omega) (by omega)
    have tx : x ≤ 0 := by
      refine Int.le_of_mul_le_mul_right (a := u + v) ?_ a0
      omega
    have ty : -x < y + 4 := by
      refine Int.lt_of_mul_lt_mul_right (a := u + v) ?_ (Int.le_of_lt a0)
      rw [Int.neg_mul, Int.add_mul]
      omega
    split <;> split <;> omega
end Go.Proofs.YtcpiohklljppaaaW.AI.D
