import Derived.Test.YthcjmmngenogmaaAIEsky1
namespace Go.Proofs.YthcjmmngenogmaaW.AI.E
open Go Go.Proofs.YthcjmmngenogmaaW.AI
set_option maxRecDepth 100000
set_option linter.unusedSimpArgs false
set_option linter.unusedVariables false
set_option linter.unusedSectionVars false
/-- How long of a piece there was. -/
def lenP (P : List (Int × Int)) (t : Int) (j : Nat) : Int :=
  match P[j]? with
  | some (f, o) => let e := (match P[j + 1]? with | some (f', _) => mnS t f' | none => t)
    if f < e then e - f else 0
  | none => 0
def lenN (P : List (Int × Int)) (t : Int) : Nat → Int
  | 0 => 0
  | i + 1 => lenN P t i + lenP P t i
theorem mn_le {x y z : Int} (h : x ≤ y) : mnS x z ≤ mnS y z := by unfold mnS; split <;> split <;> omega
theorem lenP_mono (P : List (Int × Int)) {a b : Int} (h : a ≤ b) (j : Nat) : lenP P a j ≤ lenP P b j := by
  unfold lenP
  cases P[j]? with
  | none => exact Int.le_refl _
  | some p =>
    obtain ⟨f, o⟩ := p
    simp only
    have he : (match P[j + 1]? with | some (f', _) => mnS a f' | none => a) ≤ (match P[j + 1]? with | some (f', _) => mnS b f' | none => b) := by
      cases P[j + 1]? with
      | none => exact h
      | some q => obtain ⟨f', o'⟩ := q; exact mn_le h
    generalize (match P[j + 1]? with | some (f', _) => mnS a f' | none => a) = x at he
    generalize (match P[j + 1]? with | some (f', _) => mnS b f' | none => b) = y at he
    split <;> split <;> omega
theorem lenN_at {P : List (Int × Int)} (hP : Pcs P) {t : Int} (t0 : 0 ≤ t) : ∀ i : Nat, i ≤ P.length → lenN P t i = (match P[i]? with | some (f, _) => mnS t f | none => t)
  | 0, h => by
    obtain ⟨⟨f, o⟩, hp⟩ : ∃ p, P[0]? = some p := ⟨_, List.getElem?_eq_getElem hP.ne⟩
    have := hP.head _ hp
    simp only at this
    subst this
    rw [hp]
    simp only [lenN, mnS]
    split <;> omega
  | i + 1, h => by
    have ih := lenN_at hP t0 i (by omega)
    obtain ⟨⟨f, o⟩, hp⟩ : ∃ p, P[i]? = some p := ⟨_, List.getElem?_eq_getElem (by omega)⟩
    rw [hp] at ih
    simp only at ih
    rw [lenN, ih]
    unfold lenP
    rw [hp]
    simp only
    cases hq : P[i + 1]? with
    | none => simp only [mnS]; repeat' split
              all_goals omega
    | some q =>
      obtain ⟨f', o'⟩ := q
      have := hP.inc i _ _ hp hq
      simp only at this
      simp only [mnS]
      repeat' split
      all_goals omega
theorem term_len (P : List (Int × Int)) (t : Int) (j : Nat) {f o : Int} (h : P[j]? = some (f, o)) : term P t j = lenP P t j * (1000000000 + o) := by
  unfold term lenP
  rw [h]
  simp only
  cases P[j + 1]? with
  | none =>
    simp only
    by_cases c : f < t
    · rw [if_pos c, if_pos c]
    · rw [if_neg c, if_neg c, Int.zero_mul]
  | some q =>
    obtain ⟨f', o'⟩ := q
    simp only
    by_cases c : f < mnS t f'
    · rw [if_pos c, if_pos c]
    · rw [if_neg c, if_neg c, Int.zero_mul]
theorem pacN_slope {P : List (Int × Int)} (hP : Pcs P) {a b : Int} (h : a ≤ b) : ∀ i : Nat, i ≤ P.length → (lenN P b i - lenN P a i) * 999500000 ≤ pacN P b i - pacN P a i ∧ pacN P b i - pacN P a i ≤ (lenN P b i - lenN P a i) * 1000500000
  | 0, _ => by simp [lenN, pacN]
  | i + 1, hi => by
    have ih := pacN_slope hP h i (by omega)
    obtain ⟨⟨f, o⟩, hp⟩ : ∃ p, P[i]? = some p := ⟨_, List.getElem?_eq_getElem (by omega)⟩
    obtain ⟨_, _, o1, o2⟩ := hP.rng _ (List.mem_of_getElem? hp)
    simp only at o1 o2
    have hm := lenP_mono P h i
    simp only [lenN, pacN, term_len P _ i hp]
    obtain ⟨x, hx⟩ : ∃ x, lenP P a i = x := ⟨_, rfl⟩
    obtain ⟨y, hy⟩ : ∃ x, lenP P b i = x := ⟨_, rfl⟩
    rw [hx, hy] at hm ⊢
    have e : y * (1000000000 + o) - x * (1000000000 + o) = (y - x) * (1000000000 + o) := by rw [Int.sub_mul]
    have l1 : (y - x) * 999500000 ≤ (y - x) * (1000000000 + o) := Int.mul_le_mul_of_nonneg_left (by omega) (by omega)
    have l2 : (y - x) * (1000000000 + o) ≤ (y - x) * 1000500000 := Int.mul_le_mul_of_nonneg_left (by omega) (by omega)
    omega
theorem pac_slope {P : List (Int × Int)} (hP : Pcs P) {a b : Int} (a0 : 0 ≤ a) (h : a ≤ b) : (b - a) * 999500000 ≤ pac P b - pac P a ∧ pac P b - pac P a ≤ (b - a) * 1000500000 := by
  have := pacN_slope hP h P.length (Nat.le_refl _)
  rw [lenN_at hP a0 _ (Nat.le_refl _), lenN_at hP (by omega) _ (Nat.le_refl _), List.getElem?_eq_none (Nat.le_refl _)] at this
  exact this
theorem pac_0 {P : List (Int × Int)} (hP : Pcs P) : pac P 0 = 0 := by
  have h1 : ∀ i : Nat, i ≤ P.length → pacN P 0 i = 0 := by
    intro i
    induction i with
    | zero => intro _; rfl
    | succ i ih =>
      intro hi
      rw [pacN, ih (by omega)]
      obtain ⟨⟨f, o⟩, hp⟩ : ∃ p, P[i]? = some p := ⟨_, List.getElem?_eq_getElem (by omega)⟩
      have hf := (hP.rng _ (List.mem_of_getElem? hp)).1
      simp only at hf
      unfold term
      rw [hp]
      simp only
      rw [if_neg]
      · rfl
      · cases P[i + 1]? with
        | none => simp only; omega
        | some q => obtain ⟨f', o'⟩ := q; simp only [mnS]; split <;> omega
  exact h1 _ (Nat.le_refl _)
theorem pac_in {P : List (Int × Int)} (hP : Pcs P) {t : Int} (t0 : 0 ≤ t) : t * 999500000 ≤ pac P t ∧ pac P t ≤ t * 1000500000 := by
  have := pac_slope hP (Int.le_refl 0) t0
  rw [pac_0 hP] at this
  omega
theorem tm_id {t : Int} (h0 : 0 ≤ t) (h1 : t ≤ 4503599627370496) : tm t = t := by unfold tm clamp; rw [if_neg (by omega), if_neg (by omega)]
section
variable {P : List (Int × Int)} {hz : Int}
theorem tks_in (hP : Pcs P) (z0 : 1 ≤ hz) (z1 : hz ≤ 1000000000) (t : Int) : 0 ≤ tks hz P t ∧ tks hz P t * 1000000000000000000 ≤ tm t * 1000500000 * hz ∧ tks hz P t ≤ 4505851427184182 := by
  obtain ⟨t0, t1⟩ := tm_in t
  obtain ⟨p0, p1⟩ := pac_in hP t0
  unfold tks
  have a1 : 0 ≤ pac P (tm t) * hz := Int.mul_nonneg (by omega) (by omega)
  have a2 : pac P (tm t) * hz ≤ tm t * 1000500000 * hz := Int.mul_le_mul_of_nonneg_right p1 (by omega)
  have a3 : tm t * 1000500000 * hz ≤ 4503599627370496 * 1000500000 * 1000000000 := Int.mul_le_mul (by omega) z1 (by omega) (by omega)
  omega
theorem tks_mono (hP : Pcs P) (z0 : 1 ≤ hz) {a b : Int} (a0 : 0 ≤ a) (h : a ≤ b) (b1 : b ≤ 4503599627370496) : tks hz P a ≤ tks hz P b := by
  unfold tks
  rw [tm_id a0 (by omega), tm_id (by omega) b1]
  have h1 := (pac_slope hP a0 h).1
  refine Int.ediv_le_ediv (by omega) (Int.mul_le_mul_of_nonneg_right (by omega) (by omega))
theorem tks_lip (hP : Pcs P) (z0 : 1 ≤ hz) (z1 : hz ≤ 1000000000) {a b : Int} (a0 : 0 ≤ a) (h : a ≤ b) (b1 : b ≤ 4503599627370496) : tks hz P b - tks hz P a ≤ 2 * (b - a) := by
  unfold tks
  rw [tm_id a0 (by omega), tm_id (by omega) b1]
  have h1 := (pac_slope hP a0 h).2
  obtain ⟨d, hd⟩ : ∃ d, b - a = d := ⟨_, rfl⟩
  rw [hd] at h1 ⊢
  have h2 : (pac P b - pac P a) * hz ≤ d * 1000500000 * hz := Int.mul_le_mul_of_nonneg_right h1 (by omega)
  have h3 : d * 1000500000 * hz ≤ d * 1000500000 * 1000000000 := Int.mul_le_mul_of_nonneg_left z1 (by omega)
  rw [Int.sub_mul] at h2
  omega
/-- Raw time. -/
def rawV (hz : Int) (P : List (Int × Int)) (t : Int) : Int := tks hz P t * 1000000000 / hz
theorem raw_mono (hP : Pcs P) (z0 : 1 ≤ hz) {a b : Int} (a0 : 0 ≤ a) (h : a ≤ b) (b1 : b ≤ 4503599627370496) : rawV hz P a ≤ rawV hz P b := by
  have := tks_mono hP z0 a0 h b1
  unfold rawV
  exact Int.ediv_le_ediv (by omega) (by omega)
theorem tks_bound (hP : Pcs P) (z0 : 1 ≤ hz) (z1 : hz ≤ 1000000000) (t : Int) : tks hz P t * 1000000000 ≤ 4505851427184182 * hz := by
  obtain ⟨t0, t1⟩ := tm_in t
  obtain ⟨h0, h1, h2⟩ := tks_in hP z0 z1 t
  have a3 : tm t * 1000500000 * hz ≤ 4503599627370496 * 1000500000 * hz := Int.mul_le_mul_of_nonneg_right (by omega) (by omega)
  omega
theorem raw_in (hP : Pcs P) (z0 : 1 ≤ hz) (z1 : hz ≤ 1000000000) (t : Int) : 0 ≤ rawV hz P t ∧ rawV hz P t ≤ 4505851427184182 := by
  obtain ⟨h0, _⟩ := tks_in hP z0 z1 t
  have hb := tks_bound hP z0 z1 t
  unfold rawV
  exact ⟨Int.ediv_nonneg (by omega) (by omega), Int.ediv_le_of_le_mul (by omega) hb⟩
end
end Go.Proofs.YthcjmmngenogmaaW.AI.E
namespace Go.Proofs.YthcjmmngenogmaaW.AI.E
open Go Go.Proofs.YthcjmmngenogmaaW.AI
set_option maxRecDepth 100000
set_option linter.unusedSimpArgs false
set_option linter.unusedVariables false
set_option linter.unusedSectionVars false
def rdV (fs mk n : Int) : Int := abits .and .u64 (IntKind.u64.wrap (fs + n)) mk
section
variable {h : AHeap} {p : Nat} {hz mk fs : Int} {P : List (Int × Int)}
theorem read_c {t : Int} (hg : Good h) (s : SkAt h p hz mk fs P) : W CP 15 [.ptr p 0, .int .i64 t] h = some (.int .u64 (rdV fs mk (tks hz P t)), h, []) := by
  have eN := none_c hg s
  have eT := ticks_c (t := t) hg s
  obtain ⟨q, _, b1, b2⟩ := s.at'
  have l1 := (List.getElem?_eq_some_iff.1 b1).1
  have hlo : ¬ h.length ≤ p := by omega
  unfold rdV
  refine W_quiet0 (m := M15) rfl rfl (by simp [AV.lts, AV.lt]) rfl rfl hg ?_
  simp (maxDischargeDepth := 9) -implicitDefEqProofs only [push_cast, simprocAttr, M15, eN, eT, b1, l1, hlo, decide_false, Bool.not_false, Bool.and_true]
theorem raw_c {t : Int} (hg : Good h) (s : SkAt h p hz mk fs P) : W CP 16 [.ptr p 0, .int .i64 t] h = some (.int .i64 (rawV hz P t), h, []) := by
  have eN := none_c hg s
  have eT := ticks_c (t := t) hg s
  obtain ⟨q, _, b1, b2⟩ := s.at'
  have l1 := (List.getElem?_eq_some_iff.1 b1).1
  have z0 := s.hz0
  have z1 := s.hz1
  obtain ⟨n0, _, n2⟩ := tks_in s.ok z0 z1 t
  have hb := tks_bound s.ok z0 z1 t
  obtain ⟨r0, r1⟩ := raw_in s.ok z0 z1 t
  unfold rawV at r0 r1 ⊢
  obtain ⟨N, hN⟩ : ∃ N, tks hz P t = N := ⟨_, rfl⟩
  rw [hN] at eT n0 n2 hb r0 r1 ⊢
  have em := fun h => bits_Mul64 (x := N) (y := 1000000000) ⟨n0, by omega⟩ ⟨by decide, by decide⟩ h
  obtain ⟨Q, hQ⟩ : ∃ Q, N * 1000000000 = Q := ⟨_, rfl⟩
  rw [hQ] at em hb r0 r1 ⊢
  have ed := fun g => bits_Div64 (hi := Q / 18446744073709551616) (lo := Q % 18446744073709551616) (y := hz) ⟨by omega, by omega⟩ ⟨by omega, by omega⟩ ⟨by omega, by omega⟩ (by omega) g
  rw [show Q / 18446744073709551616 * 18446744073709551616 + Q % 18446744073709551616 = Q by omega] at ed
  obtain ⟨u1, hu1⟩ : ∃ x, Q / 18446744073709551616 = x := ⟨_, rfl⟩
  obtain ⟨u0, hu0⟩ : ∃ x, Q % 18446744073709551616 = x := ⟨_, rfl⟩
  rw [hu1, hu0] at em ed
  obtain ⟨Z, hZ⟩ : ∃ Z, Q / hz = Z := ⟨_, rfl⟩
  obtain ⟨Z2, hZ2⟩ : ∃ Z, Q % hz = Z := ⟨_, rfl⟩
  rw [hZ, hZ2] at ed
  rw [hZ] at r0 r1 ⊢
  have w1 : IntKind.i64.wrap Z = Z := wr_i64 _ (by omega) (by omega)
  refine W_quiet0 (m := M16) rfl rfl (by simp [AV.lts, AV.lt]) rfl rfl hg ?_
  simp (maxDischargeDepth := 9) -implicitDefEqProofs only [push_cast, simprocAttr, M16, eN, eT, b1, l1, em, ed, w1]
end
/-- sort.Search. -/
theorem search_c {h : AHeap} {F N r a b : Nat} {pd : Nat → Bool} (hg : Good h) (hN : N < 4611686018427387904) (hF : ∀ i : Nat, i < N → W CP F [.int .i64 (i : Int), .ptr a 0, .ptr b 0] h = some (.bool (pd i), h, []))
    (hr : r ≤ N) (h0 : ∀ k, k < r → pd k = false) (h1 : ∀ k, r ≤ k → k < N → pd k = true) : W CP 56 [.int .i64 (N : Int), .fn F [.ptr a 0, .ptr b 0]] h = some (.int .i64 (r : Int), h, []) := by
  refine W_quietP (m := M56) rfl rfl (by simp [AV.lts, AV.lt]) rfl rfl hg ?_
  simp (maxDischargeDepth := 9) -implicitDefEqProofs only [push_cast, simprocAttr, M56]
  refine wp_kRes (wp_kSeq (wp_kBlock ?_))
  refine wp_loop (fun k x h' ws => ∃ i j : Nat, k = j - i ∧ i ≤ r ∧ r ≤ j ∧ j ≤ N ∧ x = [(1, .fn F [.ptr a 0, .ptr b 0]), (5, .int .i64 (i : Int)), (6, .int .i64 (j : Int))] ∧ h' = h ∧ ws = []) N ?_ ?_
  · refine ⟨0, N, by omega, by omega, hr, Nat.le_refl _, ?_, rfl, rfl⟩
    simp (maxDischargeDepth := 9) -implicitDefEqProofs only [push_cast, simprocAttr]; try rfl
  · rintro k xx h' ws ⟨i, j, rfl, hi, hj, hjN, rfl, hh, rfl⟩
    obtain rfl : h = h' := hh.symm
    by_cases hlt : i < j
    · have hlt' : (i : Int) < (j : Int) := by omega
      obtain ⟨m, hm⟩ : ∃ m, (i + j) / 2 = m := ⟨_, rfl⟩
      obtain ⟨s, hs⟩ : ∃ s, i + j = s := ⟨_, rfl⟩
      rw [hs] at hm
      have w1 : IntKind.i64.wrap ((i : Int) + (j : Int)) = (s : Int) := by rw [wr_i64 _ (by omega) (by omega)]; omega
      have w2 : IntKind.u64.wrap (s : Int) = (s : Int) := wr_u64 _ (by omega) (by omega)
      have f1 : (s : Int).fdiv (2 ^ 1) = (m : Int) := by rw [Int.fdiv_eq_ediv_of_nonneg _ (by decide)]; omega
      have f2 : (s : Int).fdiv 2 = (m : Int) := by rw [Int.fdiv_eq_ediv_of_nonneg _ (by decide)]; omega
      have w3 : IntKind.i64.wrap (m : Int) = (m : Int) := wr_i64 _ (by omega) (by omega)
      have eF := hF m (by omega)
      cases hp : pd m with
      | true =>
        have hrm : r ≤ m := by
          rcases Nat.lt_or_ge m r with c | c
          · rw [h0 m c] at hp; cases hp
          · exact c
        rw [hp] at eF
        simp (maxDischargeDepth := 9) -implicitDefEqProofs only [push_cast, simprocAttr, nadd1, nadd2, nadd3, nadd4, nadd5, nadd6, nadd7, nadd8, nadd9, nadd10, nadd11, nadd12, hlt', w1, w2, f1, f2, w3, eF]
        refine loop_next (m - i) (by omega) ⟨i, m, rfl, hi, hrm, by omega, ?_, rfl, rfl⟩
        simp (maxDischargeDepth := 9) -implicitDefEqProofs only [push_cast, simprocAttr]; try simp
      | false =>
        have hrm : m < r := by
          rcases Nat.lt_or_ge m r with c | c
          · exact c
          · rw [h1 m c (by omega)] at hp; cases hp
        rw [hp] at eF
        have w4 : IntKind.i64.wrap ((m : Int) + 1) = ((m + 1 : Nat) : Int) := by rw [wr_i64 _ (by omega) (by omega)]; omega
        obtain ⟨m1, hm1⟩ : ∃ m1, m + 1 = m1 := ⟨_, rfl⟩
        rw [hm1] at w4
        simp (maxDischargeDepth := 9) -implicitDefEqProofs only [push_cast, simprocAttr, nadd1, nadd2, nadd3, nadd4, nadd5, nadd6, nadd7, nadd8, nadd9, nadd10, nadd11, nadd12, hlt', w1, w2, f1, f2, w3, eF, w4]
        refine loop_next (j - m1) (by omega) ⟨m1, j, rfl, by omega, hj, hjN, ?_, rfl, rfl⟩
        simp (maxDischargeDepth := 9) -implicitDefEqProofs only [push_cast, simprocAttr]; try simp
    · have hi2 : i = r := by omega
      subst hi2
      have hnl : ¬ (i : Int) < (j : Int) := by omega
      simp (maxDischargeDepth := 9) -implicitDefEqProofs only [push_cast, simprocAttr, nadd1, nadd2, nadd3, nadd4, nadd5, nadd6, nadd7, nadd8, nadd9, nadd10, nadd11, nadd12, hnl]
      exact quietB
theorem first_ex (pd : Nat → Bool) : ∀ N : Nat, (∀ i j, i ≤ j → j < N → pd i = true → pd j = true) → ∃ r, r ≤ N ∧ (∀ k, k < r → pd k = false) ∧ (∀ k, r ≤ k → k < N → pd k = true)
  | 0, _ => ⟨0, Nat.le_refl _, by omega, by omega⟩
  | N + 1, hm => by
    obtain ⟨r, r1, r2, r3⟩ := first_ex pd N fun i j a b => hm i j a (by omega)
    by_cases hr : r < N
    · refine ⟨r, by omega, r2, fun k h1 h2 => ?_⟩
      by_cases hk : k < N
      · exact r3 k h1 hk
      · exact hm r k h1 h2 (r3 r (Nat.le_refl _) hr)
    · have hrN : r = N := by omega
      subst hrN
      cases hp : pd r with
      | true => exact ⟨r, by omega, r2, fun k h1 h2 => by rw [show k = r by omega]; exact hp⟩
      | false =>
        refine ⟨r + 1, Nat.le_refl _, fun k hk => ?_, by omega⟩
        by_cases h : k < r
        · exact r2 k h
        · rw [show k = r by omega]; exact hp
section
variable {h : AHeap} {p : Nat} {hz mk fs : Int} {P : List (Int × Int)}
theorem when1_c {c2 c3 : Nat} {t n : Int} (hg : Good h) (s : SkAt h p hz mk fs P) (b2 : h[c2]? = some ⟨.tip false, .vals [.ptr p 0]⟩) (b3 : h[c3]? = some ⟨.tip false, .ints .u64 [n]⟩) : W CP 57 [.int .i64 t, .ptr c2 0, .ptr c3 0] h = some (.bool (decide (n ≤ tks hz P t)), h, []) := by
  have eT := ticks_c (t := t) hg s
  have l2 := (List.getElem?_eq_some_iff.1 b2).1
  have l3 := (List.getElem?_eq_some_iff.1 b3).1
  have hlo : ¬ h.length ≤ c3 := by omega
  refine W_quiet0 (m := M57) rfl rfl (by simp [AV.lts, AV.lt]) rfl rfl hg ?_
  simp (maxDischargeDepth := 9) -implicitDefEqProofs only [push_cast, simprocAttr, M57, eT, b2, b3, l2, l3, hlo, decide_false, Bool.not_false, Bool.and_true]
/-- When: none. -/
theorem when_no {n : Int} (hg : Good h) (s : SkAt h p hz mk fs P) (hn : tks hz P 4503599627370496 < n) : W CP 18 [.ptr p 0, .int .u64 n] h = some (.tup [.int .i64 0, .bool false], h, []) := by
  have hG : Good (h ++ [⟨.tip false, .vals [.ptr p 0]⟩, ⟨.tip false, .ints .u64 [n]⟩]) := good_app hg rfl
  have eN := none_c hG (s.app _)
  have eT := ticks_c (t := 4503599627370496) hG (s.app _)
  refine W_quietP (m := M18) rfl rfl (by simp [AV.lts, AV.lt]) rfl rfl hg ?_
  have hlo : ¬ h.length + 2 ≤ h.length + 1 := by omega
  simp (maxDischargeDepth := 9) -implicitDefEqProofs only [push_cast, simprocAttr, M18, eN, eT, hn, hlo, decide_false, Bool.not_false, Bool.and_true]
  exact quiet_i
/-- When: the first. -/
theorem when_is {n : Int} (hg : Good h) (s : SkAt h p hz mk fs P) (hn : ¬ tks hz P 4503599627370496 < n) : ∃ r : Nat, (r : Int) ≤ 4503599627370496 ∧ (∀ k : Int, 0 ≤ k → k < r → tks hz P k < n) ∧ n ≤ tks hz P (r : Int) ∧
    W CP 18 [.ptr p 0, .int .u64 n] h = some (.tup [.int .i64 (r : Int), .bool true], h, []) := by
  have hG : Good (h ++ [⟨.tip false, .vals [.ptr p 0]⟩, ⟨.tip false, .ints .u64 [n]⟩]) := good_app hg rfl
  have sG := s.app [⟨.tip false, .vals [.ptr p 0]⟩, ⟨.tip false, .ints .u64 [n]⟩]
  have eN := none_c hG sG
  have eT := ticks_c (t := 4503599627370496) hG sG
  obtain ⟨r, r1, r2, r3⟩ := first_ex (fun k : Nat => decide (n ≤ tks hz P (k : Int))) 4503599627370496 fun i j hij hj hi => by
    simp only [decide_eq_true_eq] at hi ⊢
    exact Int.le_trans hi (tks_mono s.ok s.hz0 (by omega) (by omega) (by omega))
  have eS := search_c (F := 57) (a := h.length) (b := h.length + 1) (pd := fun k : Nat => decide (n ≤ tks hz P (k : Int))) hG (by decide) (fun i _ => when1_c (c2 := h.length) (c3 := h.length + 1) hG sG (by simp) (by rw [List.getElem?_append_right (by omega)]; simp)) r1 r2 r3
  refine ⟨r, by omega, fun k k0 k1 => ?_, ?_, ?_⟩
  · have := r2 k.toNat (by omega)
    simp only [decide_eq_false_iff_not] at this
    rw [Int.toNat_of_nonneg k0] at this
    omega
  · by_cases c : r < 4503599627370496
    · simpa using r3 r (Nat.le_refl _) c
    · obtain rfl : r = 4503599627370496 := by omega
      have : ((4503599627370496 : Nat) : Int) = 4503599627370496 := rfl
      rw [this]; omega
  · refine W_quietP (m := M18) rfl rfl (by simp [AV.lts, AV.lt]) rfl rfl hg ?_
    have hlo : ¬ h.length + 2 ≤ h.length + 1 := by omega
    have eS' : W CP 56 [.int .i64 4503599627370496, .fn 57 [.ptr h.length 0, .ptr (h.length + 1) 0]] (h ++ [⟨.tip false, .vals [.ptr p 0]⟩, ⟨.tip false, .ints .u64 [n]⟩]) = some (.int .i64 (r : Int), h ++ [⟨.tip false, .vals [.ptr p 0]⟩, ⟨.tip false, .ints .u64 [n]⟩], []) := eS
    simp (maxDischargeDepth := 9) -implicitDefEqProofs only [push_cast, simprocAttr, M18, eN, eT, hn, hlo, eS', decide_false, Bool.not_false, Bool.and_true]
    exact quiet_i
end
end Go.Proofs.YthcjmmngenogmaaW.AI.E
namespace Go.Proofs.YthcjmmngenogmaaW.AI.E
open Go Go.Proofs.YthcjmmngenogmaaW.AI
set_option maxRecDepth 100000
set_option linter.unusedSimpArgs false
set_option linter.unusedVariables false
set_option linter.unusedSectionVars false
/-- A slice of pieces. -/
def PV (h : AHeap) (v : AV) (P : List (Int × Int)) : Prop := ∃ b st, h[b]? = some ⟨st, .ints .i64 (flatP P)⟩ ∧ BLiv st ∧ ((∃ c, v = .sl b 0 P.length c ∧ P.length ≤ c) ∨ v = .gsl b 0 P.length 2 false)
theorem PV.len {h : AHeap} {v : AV} {P : List (Int × Int)} (u : PV h v P) : slen v = some P.length := by
  obtain ⟨b, st, _, _, ⟨c, rfl, _⟩ | rfl⟩ := u <;> rfl
theorem PV.keep {h h' : AHeap} {v : AV} {P : List (Int × Int)} (u : PV h v P) (hm : ∀ (q : Nat) (z : ABlk), h[q]? = some z → z.c = .ints .i64 (flatP P) → h'[q]? = some z) : PV h' v P := by
  obtain ⟨b, st, e, r⟩ := u
  exact ⟨b, st, hm _ _ e rfl, r⟩
theorem PV.app {h : AHeap} {v : AV} {P : List (Int × Int)} (u : PV h v P) (js : AHeap) : PV (h ++ js) v P := u.keep fun q z e _ => by rw [List.getElem?_append_left (List.getElem?_eq_some_iff.1 e).1]; exact e
theorem PV.at {h : AHeap} {v : AV} {P : List (Int × Int)} (u : PV h v P) {i : Nat} {f o : Int} (hp : P[i]? = some (f, o)) : ∃ b, (∀ g, uia 2 g i (some v) = some (.ptr b (i * 2), g, [])) ∧ uld (some 2) h (some (.ptr b (i * 2))) = some (.agg [.int .i64 f, .int .i64 o], h, []) := by
  obtain ⟨b, st, e, hs, k⟩ := u
  have hi := (List.getElem?_eq_some_iff.1 hp).1
  obtain ⟨g1, g2⟩ := flatP_get hp
  refine ⟨b, fun g => ?_, ?_⟩
  · rcases k with ⟨c, rfl, _⟩ | rfl <;> simp [uia, hi]
  · have hc : cellsAt h b = some (.ints .i64 (flatP P)) := by rcases hs with rfl | ⟨o, rfl⟩ <;> simp [cellsAt, e]
    simp [uld, hc, loadA, loadN, ACells.get?, g1, g2]
theorem PV.new {h : AHeap} {v : AV} {P : List (Int × Int)} (u : PV h v P) : newCells h (.ints .i64 [0, 0]) v = some (.ints .i64 (flatP P)) := by
  obtain ⟨b, st, e, hs, k⟩ := u
  have hc : cellsAt h b = some (.ints .i64 (flatP P)) := by rcases hs with rfl | ⟨o, rfl⟩ <;> simp [cellsAt, e]
  have hl := flatP_len P
  rcases k with ⟨c, rfl, _⟩ | rfl
  · simp [newCells, sliceCells, hc, ACells.len, ACells.sub, hl]
    rw [← hl, List.take_length]
  · simp [newCells, sliceCells, hc, ACells.len, ACells.sub, hl]
    rw [← hl, List.take_length]
theorem PV.na {h : AHeap} {v : AV} {P : List (Int × Int)} (u : PV h v P) : noAny (some v) = some v := na_slen u.len
theorem PV.lt0 {h : AHeap} {v : AV} {P : List (Int × Int)} (u : PV h v P) : v.lt 0 = false := by
  obtain ⟨b, st, _, _, ⟨c, rfl, _⟩ | rfl⟩ := u <;> simp [AV.lt]
theorem PV.set {h : AHeap} {v : AV} {P : List (Int × Int)} (u : PV h v P) {c : Nat} {x : Int} {z : ABlk} (bc : h[c]? = some ⟨.tip false, .ints .i64 [x]⟩) : PV (h.set c z) v P := by
  refine u.keep fun q y e hy => ?_
  rw [List.getElem?_set_ne]
  · exact e
  · rintro rfl
    rw [bc] at e
    cases e
    have h1 : [x] = flatP P := by simpa using hy
    have h2 := flatP_len P
    rw [← h1] at h2
    simp at h2
    omega
theorem abs_s {o : Int} (h0 : -500000 ≤ o) (h1 : o ≤ 500000) (h : AHeap) : W CP 59 [.int .i64 o] h = some (.int .i64 (o.natAbs : Int), h, []) := by
  refine W_val (m := M59) (fun _ => rfl) rfl rfl rfl ?_ h
  have c1 : ¬ o = -9223372036854775808 := by omega
  by_cases c2 : o < 0
  · have w : IntKind.i64.wrap (0 - o) = (o.natAbs : Int) := by rw [wr_i64 _ (by omega) (by omega)]; omega
    simp (maxDischargeDepth := 9) -implicitDefEqProofs only [push_cast, simprocAttr, M59, c1, c2, w]
  · have w : (o.natAbs : Int) = o := by omega
    rw [w]
    simp (maxDischargeDepth := 9) -implicitDefEqProofs only [push_cast, simprocAttr, M59, c1, c2]
theorem bad_c {H : AHeap} {c : Nat} {x f o : Int} (hg : Good H) (bc : H[c]? = some ⟨.tip false, .ints .i64 [x]⟩) (h1 : x < f) (h2 : x < 0 → f = 0) (h3 : f ≤ 4503599627370496) (h4 : -500000 ≤ o) (h5 : o ≤ 500000) :
    W CP 58 [.agg [.int .i64 f, .int .i64 o], .ptr c 0] H = some (.bool false, H.set c ⟨.tip false, .ints .i64 [f]⟩, [c]) := by
  have lc := (List.getElem?_eq_some_iff.1 bc).1
  have ea := fun h => abs_s h4 h5 h
  obtain ⟨a, ha⟩ : ∃ a, (o.natAbs : Int) = a := ⟨_, rfl⟩
  have ha5 : ¬ 500000 < a := by omega
  rw [ha] at ea
  have c1 : ¬ f ≤ x := by omega
  have c3 : ¬ 4503599627370496 < f := by omega
  have hne : ¬ c = H.length := by omega
  have hset : (H ++ [ABlk.new (.ints .i64 [f, o])]).set c ⟨.tip false, .ints .i64 [f]⟩ = H.set c ⟨.tip false, .ints .i64 [f]⟩ ++ [ABlk.new (.ints .i64 [f, o])] := by rw [List.set_append_left _ _ lc]
  refine W_set (m := M58) (js := [ABlk.new (.ints .i64 [f, o])]) rfl rfl (by simp [AV.lts, AV.lt]) rfl rfl hg lc (by simp [oldIn]) (by simp [ACells.lt]) ?_
  by_cases c2 : x < 0
  · have hf0 := h2 c2
    simp (maxDischargeDepth := 9) -implicitDefEqProofs only [push_cast, simprocAttr, M58, bc, lc, c1, c2, hf0, c3, ea, ha5, hset]
    subst hf0
    simp (maxDischargeDepth := 9) -implicitDefEqProofs only [push_cast, simprocAttr, M58, bc, lc, c1, c2, c3, ea, ha5, hset]
  · simp (maxDischargeDepth := 9) -implicitDefEqProofs only [push_cast, simprocAttr, M58, bc, lc, c1, c2, c3, ea, ha5, hset]
theorem W_setsS {C : Cfg} {f : Nat} {m : MFunc} {args : List AV} {h X : AHeap} {v : AV} (P : List Nat → Prop) (hp : C.prim f args h = none) (hm : C.mp f = some m) (h0 : AV.lts 0 args = false) (ht : m.trim = true) (hv : v.lt h.length = true)
    (hX : X.length = h.length) (hg : Good X) (hw : ∀ ws, P ws → ∀ b ∈ ws, ∃ x : ABlk, X[b]? = some x ∧ x.c.lt h.length = true)
    (e : Wp (xbody (W C) m args h) fun r => r.1 = v ∧ r.2.1 = X ∧ P r.2.2) : ∃ ws, P ws ∧ W C f args h = some (v, X, ws) := by
  obtain ⟨⟨v', X', ws⟩, e, rfl, rfl, hP⟩ := e
  refine ⟨ws, hP, ?_⟩
  exact W_sets (js := []) hp hm h0 ht hv hX hg (hw ws hP) (by rw [e, List.append_nil])
theorem set_sameS {h : AHeap} {b : Nat} {x : ABlk} (e : h[b]? = some x) : h.set b x = h := by
  apply List.ext_getElem?
  intro i
  rw [List.getElem?_set]
  by_cases hi : b = i
  · subst hi
    rw [if_pos rfl, if_pos (List.getElem?_eq_some_iff.1 e).1, e]
  · rw [if_neg hi]
theorem wadd_memS {base : Nat} : ∀ {new ws : List Nat} {b : Nat}, b ∈ wadd base ws new → b ∈ ws ∨ (b ∈ new ∧ b < base)
  | [], ws, b, h => Or.inl h
  | a :: new, ws, b, h => by
    rw [wadd_cons] at h
    rcases wadd_memS h with h | h
    · split at h
      · rename_i hc
        rcases List.mem_append.1 h with h | h
        · exact Or.inl h
        · simp only [List.mem_singleton] at h
          subst h
          exact Or.inr ⟨List.mem_cons_self, hc.1⟩
      · exact Or.inl h
    · exact Or.inr ⟨List.mem_cons_of_mem _ h.1, h.2⟩
/-- The From ahead. -/
def prevF (P : List (Int × Int)) (i : Nat) : Int := if i = 0 then -1 else match P[i - 1]? with | some p => p.1 | none => -1
theorem pidx_c {H : AHeap} {c : Nat} {v : AV} {P : List (Int × Int)} (hg : Good H) (u : PV H v P) (hP : Pcs P) (bc : H[c]? = some ⟨.tip false, .ints .i64 [-1]⟩) :
    ∃ ws, (∀ b ∈ ws, b = c) ∧ W CP 91 [v, .fn 58 [.ptr c 0]] H = some (.int .i64 (-1), H.set c ⟨.tip false, .ints .i64 [prevF P P.length]⟩, ws) := by
  have lc := (List.getElem?_eq_some_iff.1 bc).1
  have nv := u.na
  have lv := u.len
  have p64 := hP.le
  obtain ⟨n, hn⟩ : ∃ n, P.length = n := ⟨_, rfl⟩
  rw [hn] at lv p64 ⊢
  refine W_setsS (m := M91) (fun ws => ∀ b ∈ ws, b = c) rfl rfl (by simp [AV.lts, AV.lt]) rfl rfl (by simp) (good_set hg rfl) (fun ws hw b hb => by obtain rfl := hw b hb; exact ⟨_, List.getElem?_set_self lc, by simp [ACells.lt]⟩) ?_
  simp (maxDischargeDepth := 9) -implicitDefEqProofs only [push_cast, simprocAttr, M91, nv, lv]
  refine wp_kRes (wp_kSeq (wp_kBlock ?_))
  refine wp_loop (fun k a h' ws => ∃ i : Nat, k = n - i ∧ i ≤ n ∧ a = [(0, v), (1, .fn 58 [.ptr c 0]), (7, .int .i64 (n : Int)), (8, .int .i64 (i : Int))] ∧ h' = H.set c ⟨.tip false, .ints .i64 [prevF P i]⟩ ∧ ∀ b ∈ ws, b = c) n ?_ ?_
  · refine ⟨0, by omega, by omega, ?_, (set_sameS bc).symm, by simp⟩
    simp (maxDischargeDepth := 9) -implicitDefEqProofs only [push_cast, simprocAttr, nv]; try rfl
  · rintro k aa h' ws ⟨i, rfl, hi, rfl, hh, hws⟩
    have v1 : IntKind.i64.wrap ((i : Int) + 1) = (i : Int) + 1 := wr_i64 _ (by omega) (by omega)
    by_cases hlt : i < n
    · have hlt' : (i : Int) < (n : Int) := by omega
      obtain ⟨⟨f, o⟩, hfo⟩ : ∃ z, P[i]? = some z := ⟨_, List.getElem?_eq_getElem (by omega)⟩
      obtain ⟨a1, a2, a3, a4⟩ := hP.rng _ (List.mem_of_getElem? hfo)
      simp only at a1 a2 a3 a4
      have bc' : h'[c]? = some ⟨.tip false, .ints .i64 [prevF P i]⟩ := by rw [hh]; exact List.getElem?_set_self lc
      have hgh : Good h' := by rw [hh]; exact good_set hg rfl
      have u' : PV h' v P := by rw [hh]; exact u.set bc
      obtain ⟨b, ea1, ea2⟩ := u'.at hfo
      have hpr : prevF P i < f ∧ (prevF P i < 0 → f = 0) := by
        unfold prevF
        by_cases c0 : i = 0
        · subst c0
          have := hP.head _ hfo
          simp only at this
          rw [if_pos rfl]
          omega
        · rw [if_neg c0]
          obtain ⟨⟨f', o'⟩, hf'⟩ : ∃ z, P[i - 1]? = some z := ⟨_, List.getElem?_eq_getElem (by omega)⟩
          have h1 := hP.inc (i - 1) _ _ hf' (by rw [show i - 1 + 1 = i by omega]; exact hfo)
          have h2 := (hP.rng _ (List.mem_of_getElem? hf')).1
          simp only at h1 h2
          rw [hf']
          simp only
          omega
      have eB := bad_c hgh bc' hpr.1 hpr.2 a2 a3 a4
      have hp1 : prevF P (i + 1) = f := by
        unfold prevF
        rw [if_neg (by omega), Nat.add_sub_cancel, hfo]
      simp (maxDischargeDepth := 9) -implicitDefEqProofs only [push_cast, simprocAttr, nadd1, nadd2, nadd3, nadd4, nadd5, nadd6, nadd7, nadd8, nadd9, nadd10, nadd11, nadd12, hlt', v1, nv, ↓uia_eq, ea1, ↓uld_eq 14, ea2, eB]
      refine loop_next (n - (i + 1)) (by omega) ⟨i + 1, rfl, by omega, ?_, ?_, ?_⟩
      · simp (maxDischargeDepth := 9) -implicitDefEqProofs only [push_cast, simprocAttr, nv]; try simp
      · rw [hh, List.set_set, hp1]
      · intro b hb
        split at hb
        · rcases List.mem_append.1 hb with hb | hb
          · exact hws b hb
          · simpa using hb
        · exact hws b hb
    · have hi2 : i = n := by omega
      subst hi2
      have hnl : ¬ (i : Int) < (i : Int) := by omega
      simp (maxDischargeDepth := 9) -implicitDefEqProofs only [push_cast, simprocAttr, nadd1, nadd2, nadd3, nadd4, nadd5, nadd6, nadd7, nadd8, nadd9, nadd10, nadd11, nadd12, hnl, hh]
      exact hws
theorem pcon_c {H : AHeap} {c : Nat} {v : AV} {P : List (Int × Int)} (hg : Good H) (u : PV H v P) (hP : Pcs P) (bc : H[c]? = some ⟨.tip false, .ints .i64 [-1]⟩) :
    ∃ ws, (∀ b ∈ ws, b = c) ∧ W CP 60 [v, .fn 58 [.ptr c 0]] H = some (.bool false, H.set c ⟨.tip false, .ints .i64 [prevF P P.length]⟩, ws) := by
  have lc := (List.getElem?_eq_some_iff.1 bc).1
  have nv := u.na
  obtain ⟨ws, hws, e⟩ := pidx_c hg u hP bc
  refine W_setsS (m := M60) (fun ws => ∀ b ∈ ws, b = c) rfl rfl (by simp [AV.lts, AV.lt]) rfl rfl (by simp) (good_set hg rfl) (fun ws hw b hb => by obtain rfl := hw b hb; exact ⟨_, List.getElem?_set_self lc, by simp [ACells.lt]⟩) ?_
  simp (maxDischargeDepth := 9) -implicitDefEqProofs only [push_cast, simprocAttr, M60, nv, e]
  intro b hb
  rcases wadd_memS hb with hb | hb
  · simp at hb
  · exact hws b hb.1
theorem papp {h : AHeap} {P : List (Int × Int)} (hP : Pcs P) : aappend (h ++ [⟨.tip false, .ints .i64 []⟩]) (.ints .i64 [0, 0]) 16 (.sl h.length 0 0 0) (.ints .i64 (flatP P)) P.length = some (.gsl (h.length + 1) 0 P.length 2 false, h ++ [⟨.tip false, .ints .i64 []⟩, ⟨.tip false, .ints .i64 (flatP P)⟩], []) := by
  have e0 : (h ++ [(⟨.tip false, .ints .i64 []⟩ : ABlk)])[h.length]? = some ⟨.tip false, .ints .i64 []⟩ := by simp
  have hp : ¬ 0 + P.length ≤ 0 := by have := hP.ne; omega
  simp only [aappend, if_neg hp]
  have e1 : sliceCells (h ++ [(⟨.tip false, .ints .i64 []⟩ : ABlk)]) (ACells.ints .i64 [0, 0]).len (.sl h.length 0 0 0) = some (.ints .i64 []) := by
    simp [sliceCells, cellsAt, e0, ACells.len, ACells.sub]
  have hr : room P.length 16 = true := by
    have := hP.le
    simp only [room, decide_eq_true_eq]
    omega
  rw [e1]
  simp [ACells.app, hr, ACells.len]
theorem pclone_c {h : AHeap} {v : AV} {P : List (Int × Int)} (hg : Good h) (u : PV h v P) (hP : Pcs P) : W CP 61 [v] h = some (.gsl (h.length + 1) 0 P.length 2 false, h ++ [⟨.tip false, .ints .i64 []⟩, ⟨.tip false, .ints .i64 (flatP P)⟩], []) := by
  have ea := papp (h := h) hP
  have hn := (u.app [⟨.tip false, .ints .i64 []⟩]).new
  have lv := u.len
  have h0 : AV.lts 0 [v] = false := by simp [AV.lts, u.lt0]
  have hne := hP.ne
  have key : xbody (W CP) M61 [v] h = some (.gsl (h.length + 1) 0 P.length 2 false, h ++ [⟨.tip false, .ints .i64 []⟩, ⟨.tip false, .ints .i64 (flatP P)⟩], []) := by
    obtain ⟨b, st, _, _, ⟨c, rfl, _⟩ | rfl⟩ := u
    all_goals simp (maxDischargeDepth := 9) -implicitDefEqProofs only [push_cast, simprocAttr, M61, nadd1, nadd2, nadd3, nadd4, nadd5, nadd6, nadd7, nadd8, nadd9, nadd10, nadd11, nadd12, hn, ea]
  rw [W_body (m := M61) rfl rfl h0 key, show (M61).trim = true from rfl, if_pos rfl, trim_addr (by simp [AV.lt])]
end Go.Proofs.YthcjmmngenogmaaW.AI.E
namespace Go.Proofs.YthcjmmngenogmaaW.AI.E
open Go Go.Proofs.YthcjmmngenogmaaW.AI
set_option maxRecDepth 100000
set_option linter.unusedSimpArgs false
set_option linter.unusedVariables false
set_option linter.unusedSectionVars false
def mkOf (k : Nat) : Int := 18446744073709551615 / 2 ^ (64 - k)
theorem mkOf_in (k : Nat) : 0 ≤ mkOf k ∧ mkOf k < 18446744073709551616 := by
  unfold mkOf
  have h0 : (0 : Int) < 2 ^ (64 - k) := Int.pow_pos (by decide)
  refine ⟨Int.ediv_nonneg (by decide) (Int.le_of_lt h0), ?_⟩
  have := Int.ediv_le_self (a := 18446744073709551615) (2 ^ (64 - k)) (by decide)
  omega
theorem new_c {h : AHeap} {v : AV} {P : List (Int × Int)} {hz fs : Int} {k : Nat} (hg : Good h) (u : PV h v P) (hP : Pcs P) (z0 : 1 ≤ hz) (z1 : hz ≤ 1000000000) (b0 : 8 ≤ k) (b1 : k ≤ 64) (f0 : 0 ≤ fs) (f1 : fs ≤ mkOf k) :
    ∃ js, W CP 19 [.int .u64 hz, .int .i64 (k : Int), .int .u64 fs, v] h = some (.tup [.ptr (h.length + 3) 0, .int .i64 0], h ++ js, []) ∧ SkAt (h ++ js) (h.length + 3) hz (mkOf k) fs P ∧ Good (h ++ js) := by
  have nv := u.na
  have lv := u.len
  have p1 := hP.ne
  have p64 := hP.le
  obtain ⟨m0, m1⟩ := mkOf_in k
  obtain ⟨n, hn⟩ : ∃ n, P.length = n := ⟨_, rfl⟩
  rw [hn] at lv p1 p64
  -- the blocks
  have hG1 : Good (h ++ [⟨.tip false, .ints .i64 [-1]⟩]) := good_app hg rfl
  obtain ⟨ws, hws, eC⟩ := pcon_c (c := h.length) hG1 (u.app _) hP (by simp)
  have hs2 : (h ++ [(⟨.tip false, .ints .i64 [-1]⟩ : ABlk)]).set h.length ⟨.tip false, .ints .i64 [prevF P P.length]⟩ = h ++ [⟨.tip false, .ints .i64 [prevF P P.length]⟩] := by
    rw [List.set_append_right _ _ (Nat.le_refl _), Nat.sub_self]; rfl
  rw [hs2] at eC
  obtain ⟨L, hL⟩ : ∃ L, prevF P P.length = L := ⟨_, rfl⟩
  rw [hL] at eC
  have hG2 : Good (h ++ [⟨.tip false, .ints .i64 [L]⟩]) := good_app hg rfl
  have eN := pclone_c hG2 (u.app _) hP
  rw [hn, List.append_assoc, show (h ++ [(⟨.tip false, .ints .i64 [L]⟩ : ABlk)]).length + 1 = h.length + 2 by simp] at eN
  simp only [List.cons_append, List.nil_append] at eN
  have hs1 : (h ++ [ABlk.new (.ints .i64 [0])]).set h.length ⟨.tip false, .ints .i64 [-1]⟩ = h ++ [⟨.tip false, .ints .i64 [-1]⟩] := by
    rw [List.set_append_right _ _ (Nat.le_refl _), Nat.sub_self]; rfl
  have hwd : wadd h.length [] ws = [] := wadd_ge fun b hb => by have := hws b hb; omega
  obtain ⟨m, hm⟩ : ∃ m, 64 - k = m := ⟨_, rfl⟩
  have w1 : IntKind.i64.wrap (64 - (k : Int)) = (m : Int) := by rw [wr_i64 _ (by omega) (by omega)]; omega
  have hm0 : ¬ (m : Int) < 0 := by omega
  have hm1 : min m 64 = m := by omega
  unfold mkOf at f1 m0 m1
  rw [hm] at f1 m0 m1
  have hfd : (18446744073709551615 : Int).fdiv (2 ^ m) = 18446744073709551615 / 2 ^ m := Int.fdiv_eq_ediv_of_nonneg _ (Int.le_of_lt (Int.pow_pos (by decide)))
  obtain ⟨K, hK⟩ : ∃ K, (18446744073709551615 : Int) / 2 ^ m = K := ⟨_, rfl⟩
  rw [hK] at hfd f1 m0 m1
  have hmk : mkOf k = K := by unfold mkOf; rw [hm]; exact hK
  have q1 : ¬ hz < 1 := by omega
  have q2 : ¬ 1000000000 < hz := by omega
  have q3 : ¬ (k : Int) < 8 := by omega
  have q4 : ¬ (64 : Int) < (k : Int) := by omega
  have q5 : ¬ (n : Int) < 1 := by omega
  have q6 : ¬ (64 : Int) < (n : Int) := by omega
  have q7 : ¬ K < fs := by omega
  have h0 : AV.lts 0 [.int .u64 hz, .int .i64 (k : Int), .int .u64 fs, v] = false := by simp [AV.lts, u.lt0]
  have key : xbody (W CP) M19 [.int .u64 hz, .int .i64 (k : Int), .int .u64 fs, v] h = some (.tup [.ptr (h.length + 3) 0, .int .i64 0], h ++ [⟨.tip false, .ints .i64 [L]⟩, ⟨.tip false, .ints .i64 []⟩, ⟨.tip false, .ints .i64 (flatP P)⟩, ⟨.tip false, .vals [.int .u64 hz, .int .u64 K, .int .u64 fs, .gsl (h.length + 2) 0 n 2 false]⟩], []) := by
    simp (maxDischargeDepth := 9) -implicitDefEqProofs only [push_cast, simprocAttr, M19, nadd1, nadd2, nadd3, nadd4, nadd5, nadd6, nadd7, nadd8, nadd9, nadd10, nadd11, nadd12, nv, lv, q1, q2, q3, q4, q5, q6, q7, w1, hm0, hm1, hfd, hs1, eC, hwd, eN]
    try rfl
  refine ⟨_, by rw [W_body (m := M19) rfl rfl h0 key, show (M19).trim = true from rfl, if_pos rfl, trim_addr (by simp [AV.lt, AV.lts])], ?_, good_app hg rfl⟩
  rw [hmk]
  refine ⟨⟨h.length + 2, by omega, ?_, ?_⟩, z0, z1, m0, m1, f0, f1, hP⟩
  · rw [List.getElem?_append_right (by omega), show h.length + 3 - h.length = 3 by omega, hn]; rfl
  · rw [List.getElem?_append_right (by omega), show h.length + 2 - h.length = 2 by omega]; rfl
end Go.Proofs.YthcjmmngenogmaaW.AI.E
