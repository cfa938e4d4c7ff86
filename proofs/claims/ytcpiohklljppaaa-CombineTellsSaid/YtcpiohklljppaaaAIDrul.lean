import Derived.Test.YtcpiohklljppaaaAIDspanA
namespace Go.Proofs.YtcpiohklljppaaaW.AI.D
open Go Go.Proofs.YtcpiohklljppaaaW.AI
set_option maxRecDepth 100000
set_option linter.unusedVariables false
/-- What Up answers at a distance that is not great, by its inequalities. -/
theorem upV_char {t f x : Int} (t1 : 1 ≤ t) (t2 : t ≤ 1000000000) (f1 : 0 ≤ f) (f2 : f ≤ 500000) (x1 : 0 ≤ x) (x2 : x ≤ 4000000000000000000) :
    ∃ u, upV t f x = u ∧ x + t + 1 ≤ u ∧ u ≤ 4611686018427387904 ∧ (x + t + 1) * 1000000000 ≤ u * (1000000000 - f) ∧ (u - 1) * (1000000000 - f) < (x + t + 1) * 1000000000 := by
  refine ⟨_, rfl, ?_⟩
  unfold upV
  rw [bro_id (t := x) (by omega) (by omega)]
  obtain ⟨n, hn⟩ : ∃ n, x + t + 1 = n := ⟨_, rfl⟩
  obtain ⟨c, hc⟩ : ∃ c, 1000000000 - f = c := ⟨_, rfl⟩
  rw [hn, hc]
  unfold mdv
  simp only [if_true]
  obtain ⟨q, hq⟩ : ∃ q, -(n * 1000000000) / c = q := ⟨_, rfl⟩
  rw [hq]
  have hc0 : 0 < c := by omega
  have q1 : q * c ≤ -(n * 1000000000) := by rw [← hq]; exact Int.ediv_mul_le _ (by omega)
  have q2 : -(n * 1000000000) < (q + 1) * c := by rw [← hq]; exact Int.lt_ediv_add_one_mul_self _ hc0
  have a1 : q ≤ -n := by
    rw [← hq]
    have h1 : -(n * 1000000000) ≤ (-n) * c := by
      rw [← Int.neg_mul, Int.neg_mul, Int.neg_mul]
      exact Int.neg_le_neg (Int.mul_le_mul_of_nonneg_left (by omega) (by omega))
    have h2 := Int.ediv_le_ediv hc0 h1
    rwa [Int.mul_ediv_cancel _ (by omega)] at h2
  have a2 : -4611686018427387904 ≤ q := by
    rw [← hq]
    apply Int.le_ediv_of_mul_le hc0
    have : 4611686018427387904 * c ≥ 4611686018427387904 * 999500000 := Int.mul_le_mul_of_nonneg_left (by omega) (by omega)
    rw [Int.neg_mul]
    omega
  rw [if_pos ⟨by omega, by omega⟩, bro_id (by omega) (by omega)]
  have e1 : -q * c = -(q * c) := Int.neg_mul _ _
  have e2 : (-q - 1) * c = -((q + 1) * c) := by rw [← Int.neg_mul]; congr 1; omega
  rw [e1, e2]
  refine ⟨by omega, by omega, by omega, by omega⟩
theorem downV_char {t f x : Int} (t1 : 1 ≤ t) (t2 : t ≤ 1000000000) (f1 : 0 ≤ f) (f2 : f ≤ 500000) (x1 : 0 ≤ x) (x2 : x ≤ 4611686018427387904) :
    ∃ d, downV t f x = d ∧ 0 ≤ d ∧ d ≤ x ∧ (d = 0 ∨ (t + 1 ≤ x ∧ d * (1000000000 + f) ≤ (x - t - 1) * 1000000000)) ∧ (x - t - 1) * 1000000000 < (d + 1) * (1000000000 + f) := by
  refine ⟨_, rfl, ?_⟩
  unfold downV
  rw [bro_id (t := x) (by omega) (by omega)]
  obtain ⟨n, hn⟩ : ∃ n, x - t - 1 = n := ⟨_, rfl⟩
  obtain ⟨c, hc⟩ : ∃ c, 1000000000 + f = c := ⟨_, rfl⟩
  rw [hn, hc]
  unfold mdv
  simp only [Bool.false_eq_true, if_false]
  obtain ⟨q, hq⟩ : ∃ q, n * 1000000000 / c = q := ⟨_, rfl⟩
  rw [hq]
  have hc0 : 0 < c := by omega
  have q1 : q * c ≤ n * 1000000000 := by rw [← hq]; exact Int.ediv_mul_le _ (by omega)
  have q2 : n * 1000000000 < (q + 1) * c := by rw [← hq]; exact Int.lt_ediv_add_one_mul_self _ hc0
  by_cases h0 : 0 ≤ n
  · have a0 : 0 ≤ q := by rw [← hq]; exact Int.ediv_nonneg (by omega) (by omega)
    have a1 : q ≤ n := by
      rw [← hq]
      have h1 : n * 1000000000 ≤ n * c := Int.mul_le_mul_of_nonneg_left (by omega) h0
      have h2 := Int.ediv_le_ediv hc0 h1
      rwa [Int.mul_ediv_cancel _ (by omega)] at h2
    rw [bro_id (by omega) (by omega)]
    exact ⟨a0, by omega, Or.inr ⟨by omega, q1⟩, q2⟩
  · have a1 : q < 0 := by rw [← hq]; exact Int.ediv_neg_of_neg_of_pos (by omega) hc0
    have b0 : bro q = 0 := by unfold bro clamp; rw [if_pos (by omega)]
    rw [b0]
    refine ⟨by omega, by omega, Or.inl rfl, ?_⟩
    have : (0 + 1) * c = c := by omega
    omega
/-- Below its neighbour. -/
theorem lt_of_scaled {a b c x y : Int} (hc : 0 < c) (h1 : a * c < x) (h2 : x ≤ y) (h3 : y ≤ b * c) : a < b := Int.lt_of_mul_lt_mul_right (a := c) (by omega) (Int.le_of_lt hc)
theorem upV_mono {t f x y : Int} (t1 : 1 ≤ t) (t2 : t ≤ 1000000000) (f1 : 0 ≤ f) (f2 : f ≤ 500000) (x1 : 0 ≤ x) (h : x ≤ y) (y2 : y ≤ 4000000000000000000) : upV t f x ≤ upV t f y := by
  obtain ⟨u, eu, _, _, u3, u4⟩ := upV_char t1 t2 f1 f2 x1 (by omega : x ≤ 4000000000000000000)
  obtain ⟨v, ev, _, _, v3, v4⟩ := upV_char t1 t2 f1 f2 (by omega : 0 ≤ y) y2
  rw [eu, ev]
  have := lt_of_scaled (a := u - 1) (b := v) (c := 1000000000 - f) (by omega) u4 (by omega) v3
  omega
theorem downV_mono {t f x y : Int} (t1 : 1 ≤ t) (t2 : t ≤ 1000000000) (f1 : 0 ≤ f) (f2 : f ≤ 500000) (x1 : 0 ≤ x) (h : x ≤ y) (y2 : y ≤ 4611686018427387904) : downV t f x ≤ downV t f y := by
  obtain ⟨u, eu, _, _, u3, u4⟩ := downV_char t1 t2 f1 f2 x1 (by omega : x ≤ 4611686018427387904)
  obtain ⟨v, ev, v1, _, v3, v4⟩ := downV_char t1 t2 f1 f2 (by omega : 0 ≤ y) y2
  rw [eu, ev]
  rcases u3 with u3 | ⟨_, u3⟩
  · omega
  · have : u < v + 1 := by
      apply Int.lt_of_mul_lt_mul_right (a := 1000000000 + f) _ (by omega)
      omega
    omega
theorem upV_add {t f x y : Int} (t1 : 1 ≤ t) (t2 : t ≤ 1000000000) (f1 : 0 ≤ f) (f2 : f ≤ 500000) (x1 : 0 ≤ x) (y1 : 0 ≤ y) (h : x + y ≤ 4000000000000000000) : upV t f (x + y) ≤ upV t f x + upV t f y := by
  obtain ⟨u, eu, _, _, u3, u4⟩ := upV_char t1 t2 f1 f2 x1 (by omega : x ≤ 4000000000000000000)
  obtain ⟨v, ev, _, _, v3, v4⟩ := upV_char t1 t2 f1 f2 y1 (by omega : y ≤ 4000000000000000000)
  obtain ⟨w, ew, _, _, w3, w4⟩ := upV_char t1 t2 f1 f2 (by omega : 0 ≤ x + y) h
  rw [eu, ev, ew]
  have e : (u + v) * (1000000000 - f) = u * (1000000000 - f) + v * (1000000000 - f) := Int.add_mul _ _ _
  have := lt_of_scaled (a := w - 1) (b := u + v) (c := 1000000000 - f) (by omega) w4 (Int.le_refl _) (by omega)
  omega
theorem downV_add {t f x y : Int} (t1 : 1 ≤ t) (t2 : t ≤ 1000000000) (f1 : 0 ≤ f) (f2 : f ≤ 500000) (x1 : 0 ≤ x) (y1 : 0 ≤ y) (h : x + y ≤ 4611686018427387904) : downV t f x + downV t f y ≤ downV t f (x + y) := by
  have m1 := downV_mono t1 t2 f1 f2 x1 (by omega : x ≤ x + y) h
  have m2 := downV_mono t1 t2 f1 f2 y1 (by omega : y ≤ x + y) h
  obtain ⟨u, eu, _, _, u3, u4⟩ := downV_char t1 t2 f1 f2 x1 (by omega : x ≤ 4611686018427387904)
  obtain ⟨v, ev, v1, _, v3, v4⟩ := downV_char t1 t2 f1 f2 y1 (by omega : y ≤ 4611686018427387904)
  obtain ⟨w, ew, w1, _, w3, w4⟩ := downV_char t1 t2 f1 f2 (by omega : 0 ≤ x + y) h
  rw [eu, ew] at m1
  rw [ev, ew] at m2
  rw [eu, ev, ew]
  rcases u3 with u3 | ⟨_, u3⟩
  · omega
  · rcases v3 with v3 | ⟨_, v3⟩
    · omega
    · have e : (u + v) * (1000000000 + f) = u * (1000000000 + f) + v * (1000000000 + f) := Int.add_mul _ _ _
      have : u + v < w + 1 := by
        apply Int.lt_of_mul_lt_mul_right (a := 1000000000 + f) _ (by omega)
        omega
      omega
/-- The distance grows by no less. -/
theorem upV_gap {t f x y : Int} (t1 : 1 ≤ t) (t2 : t ≤ 1000000000) (f1 : 0 ≤ f) (f2 : f ≤ 500000) (x1 : 0 ≤ x) (h : x ≤ y) (y2 : y ≤ 4000000000000000000) : upV t f x + (y - x) ≤ upV t f y := by
  obtain ⟨u, eu, _, _, u3, u4⟩ := upV_char t1 t2 f1 f2 x1 (by omega : x ≤ 4000000000000000000)
  obtain ⟨v, ev, _, _, v3, v4⟩ := upV_char t1 t2 f1 f2 (by omega : 0 ≤ y) y2
  rw [eu, ev]
  have e : (u - 1 + (y - x)) * (1000000000 - f) = (u - 1) * (1000000000 - f) + (y - x) * (1000000000 - f) := Int.add_mul _ _ _
  have e2 : (y - x) * (1000000000 - f) ≤ (y - x) * 1000000000 := Int.mul_le_mul_of_nonneg_left (by omega) (by omega)
  have := lt_of_scaled (a := u - 1 + (y - x)) (b := v) (c := 1000000000 - f) (y := (y + t + 1) * 1000000000) (x := (y + t + 1) * 1000000000) (by omega) (by omega) (Int.le_refl _) v3
  omega
theorem upV_neg {t f x : Int} (h : x < 0) : upV t f x = upV t f 0 := by
  have : bro x = bro 0 := by unfold bro clamp; rw [if_pos h]; rfl
  unfold upV
  rw [this]
theorem downV_neg {t f x : Int} (t1 : 1 ≤ t) (f1 : 0 ≤ f) (f2 : f ≤ 500000) (h : x ≤ 0) : downV t f x = 0 := by
  have b : bro x = 0 := by unfold bro clamp; split <;> (try split) <;> omega
  unfold downV
  rw [b]
  unfold mdv
  simp only [Bool.false_eq_true, if_false]
  have : (0 - t - 1) * 1000000000 / (1000000000 + f) < 0 := Int.ediv_neg_of_neg_of_pos (by omega) (by omega)
  unfold bro clamp
  rw [if_pos this]
end Go.Proofs.YtcpiohklljppaaaW.AI.D
