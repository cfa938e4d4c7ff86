import Derived.Test.YtcpiohklljppaaaAIDsooner
namespace Go.Proofs.YtcpiohklljppaaaW.AI.D
open Go Go.Proofs.YtcpiohklljppaaaW.AI
set_option maxRecDepth 100000
set_option linter.unusedVariables false
set_option linter.unusedSimpArgs false
/-- What a counter has counted. -/
def cnt (p t : Int) : Int := t * (1000000000 + p) / 1000000000
theorem cnt_char (p t : Int) : cnt p t * 1000000000 ≤ t * (1000000000 + p) ∧ t * (1000000000 + p) < (cnt p t + 1) * 1000000000 :=
  ⟨Int.ediv_mul_le _ (by omega), Int.lt_ediv_add_one_mul_self _ (by omega)⟩
theorem cnt_in {p t : Int} (p1 : -500000 ≤ p) (p2 : p ≤ 500000) (t1 : 2251799813685248 ≤ t) (t2 : t ≤ 500000000000000000) : 2000000000 ≤ cnt p t ∧ cnt p t ≤ 600000000000000000 := by
  obtain ⟨c1, c2⟩ := cnt_char p t
  have h1 : t * 999500000 ≤ t * (1000000000 + p) := Int.mul_le_mul_of_nonneg_left (by omega) (by omega)
  have h2 : t * (1000000000 + p) ≤ t * 1000500000 := Int.mul_le_mul_of_nonneg_left (by omega) (by omega)
  omega
theorem sound_up {T f p t t' l l' d : Int} (a1 : 1 ≤ T) (a2 : T ≤ 1000000000) (f1 : 0 ≤ f) (f2 : f ≤ 500000) (p1 : -f ≤ p) (ht : t ≤ t') (l0 : 0 ≤ l) (l1 : l' < T) (d0 : 0 ≤ d) (d1 : d ≤ 4000000000000000000)
    (h : cnt p t' - l' - (cnt p t - l) ≤ d) : t' - t ≤ upV T f d := by
  obtain ⟨u, eu, _, _, u3, _⟩ := upV_char a1 a2 f1 f2 d0 d1
  rw [eu]
  have c1 := (cnt_char p t).1
  have c2 := (cnt_char p t').2
  have e : (t' - t) * (1000000000 + p) = t' * (1000000000 + p) - t * (1000000000 + p) := Int.sub_mul _ _ _
  have e2 : (t' - t) * (1000000000 - f) ≤ (t' - t) * (1000000000 + p) := Int.mul_le_mul_of_nonneg_left (by omega) (by omega)
  have : t' - t < u + 1 := by
    apply Int.lt_of_mul_lt_mul_right (a := 1000000000 - f) _ (by omega)
    have e3 : (u + 1) * (1000000000 - f) = u * (1000000000 - f) + (1000000000 - f) := by rw [Int.add_mul, Int.one_mul]
    omega
  omega
theorem sound_down {T f p t t' l l' d : Int} (a1 : 1 ≤ T) (a2 : T ≤ 1000000000) (f1 : 0 ≤ f) (f2 : f ≤ 500000) (p1 : p ≤ f) (ht : t ≤ t') (l0 : 0 ≤ l') (l1 : l < T) (d0 : 0 ≤ d) (d1 : d ≤ 4000000000000000000)
    (h : d ≤ cnt p t' - l' - (cnt p t - l)) : downV T f d ≤ t' - t := by
  obtain ⟨u, eu, u0, _, u3, _⟩ := downV_char a1 a2 f1 f2 d0 (by omega : d ≤ 4611686018427387904)
  rw [eu]
  rcases u3 with u3 | ⟨_, u3⟩
  · omega
  have c1 := (cnt_char p t').1
  have c2 := (cnt_char p t).2
  have e : (t' - t) * (1000000000 + p) = t' * (1000000000 + p) - t * (1000000000 + p) := Int.sub_mul _ _ _
  have e2 : (t' - t) * (1000000000 + p) ≤ (t' - t) * (1000000000 + f) := Int.mul_le_mul_of_nonneg_left (by omega) (by omega)
  have : u < (t' - t) + 1 := by
    apply Int.lt_of_mul_lt_mul_right (a := 1000000000 + f) _ (by omega)
    have e3 : (t' - t + 1) * (1000000000 + f) = (t' - t) * (1000000000 + f) + (1000000000 + f) := by rw [Int.add_mul, Int.one_mul]
    omega
  omega
theorem within_c {n m : Int} (hn : I64 n) (m0 : 0 ≤ m) (m1 : m ≤ 4611686018427387904) : ∃ r, -m ≤ r ∧ r ≤ m ∧ ∀ h, W CP 25 [.int .i64 n, .int .i64 m] h = some (.int .i64 r, h, []) := by
  have w1 : IntKind.i64.wrap (m + 1) = m + 1 := wr_i64 _ (by omega) (by omega)
  have n1 : ¬ m + 1 = 0 := by omega
  have b1 : -m ≤ n.tmod (m + 1) ∧ n.tmod (m + 1) ≤ m := by
    rcases Int.le_total 0 n with h | h
    · have := Int.tmod_nonneg (m + 1) h
      have := Int.tmod_lt_of_pos n (by omega : 0 < m + 1)
      omega
    · have a1 := Int.tmod_nonneg (m + 1) (show 0 ≤ -n by omega)
      have a2 := Int.tmod_lt_of_pos (-n) (by omega : 0 < m + 1)
      rw [Int.neg_tmod] at a1 a2
      omega
  obtain ⟨r, hr⟩ : ∃ r, n.tmod (m + 1) = r := ⟨_, rfl⟩
  rw [hr] at b1
  have w2 : IntKind.i64.wrap r = r := wr_i64 _ (by omega) (by omega)
  refine ⟨r, b1.1, b1.2, fun h => W_val (m := M25) (fun _ => rfl) rfl rfl rfl ?_ h⟩
  simp (maxDischargeDepth := 9) -implicitDefEqProofs only [push_cast, reduceIte, Nat.reduceEqDiff, Nat.reduceAdd, Nat.reduceSub, Nat.reduceMul, Nat.reduceDiv, Nat.reduceMod, Nat.reduceLT, Nat.reduceLeDiff, Nat.reduceBEq, Nat.reduceBNe, reduceCtorEq, Int.reduceEq, Int.reduceNe, Int.reduceLT, Int.reduceLE, Int.reduceToNat, Int.reduceNeg, Int.reduceAdd, Int.reduceSub, Int.reduceMul, Int.reducePow, Nat.reducePow, Int.reduceBEq, M25, w1, n1, hr, w2]
theorem counted_c {t p : Int} (p1 : -500000 ≤ p) (p2 : p ≤ 500000) (t1 : 2251799813685248 ≤ t) (t2 : t ≤ 500000000000000000) (h : AHeap) : W CP 27 [.int .i64 t, .int .i64 p] h = some (.int .i64 (cnt p t), h, []) := by
  have w1 : IntKind.u64.wrap t = t := wr_u64 _ (by omega) (by omega)
  have w2 : IntKind.i64.wrap (1000000000 + p) = 1000000000 + p := wr_i64 _ (by omega) (by omega)
  have w3 : IntKind.u64.wrap (1000000000 + p) = 1000000000 + p := wr_u64 _ (by omega) (by omega)
  have hc := cnt_in p1 p2 t1 t2
  have w4 : IntKind.i64.wrap (cnt p t) = cnt p t := wr_i64 _ (by omega) (by omega)
  have eM := fun g => bits_Mul64 (x := t) (y := 1000000000 + p) ⟨by omega, by omega⟩ ⟨by omega, by omega⟩ g
  have h2 : t * (1000000000 + p) ≤ t * 1000500000 := Int.mul_le_mul_of_nonneg_left (by omega) (by omega)
  have h1 : 0 ≤ t * (1000000000 + p) := Int.mul_nonneg (by omega) (by omega)
  obtain ⟨z, hz⟩ : ∃ z, t * (1000000000 + p) = z := ⟨_, rfl⟩
  rw [hz] at eM h1 h2
  obtain ⟨hi, hhi⟩ : ∃ hi, z / 18446744073709551616 = hi := ⟨_, rfl⟩
  obtain ⟨lo, hlo⟩ : ∃ lo, z % 18446744073709551616 = lo := ⟨_, rfl⟩
  rw [hhi, hlo] at eM
  have eD := fun g => bits_Div64 (hi := hi) (lo := lo) (y := 1000000000) ⟨by omega, by omega⟩ ⟨by omega, by omega⟩ ⟨by omega, by omega⟩ (by omega) g
  have e3 : hi * 18446744073709551616 + lo = z := by omega
  rw [e3] at eD
  have e4 : z / 1000000000 = cnt p t := by rw [← hz]; rfl
  rw [e4] at eD
  obtain ⟨m, hm⟩ : ∃ m, z % 1000000000 = m := ⟨_, rfl⟩
  rw [hm] at eD
  refine W_val (m := M27) (fun _ => rfl) rfl rfl rfl ?_ h
  simp (maxDischargeDepth := 9) -implicitDefEqProofs only [push_cast, reduceIte, Nat.reduceEqDiff, Nat.reduceAdd, Nat.reduceSub, Nat.reduceMul, Nat.reduceDiv, Nat.reduceMod, Nat.reduceLT, Nat.reduceLeDiff, Nat.reduceBEq, Nat.reduceBNe, reduceCtorEq, Int.reduceEq, Int.reduceNe, Int.reduceLT, Int.reduceLE, Int.reduceToNat, Int.reduceNeg, Int.reduceAdd, Int.reduceSub, Int.reduceMul, Int.reducePow, Nat.reducePow, Int.reduceBEq, M27, w1, w2, w3, w4, eM, eD]
theorem reads_c {h : AHeap} {P T : Nat} {t p tick lag : Int} (hg : Good h) (hP : h[P]? = some ⟨.tip false, .ints .i64 [p]⟩) (hT : h[T]? = some ⟨.tip false, .ints .i64 [tick]⟩) (p1 : -500000 ≤ p) (p2 : p ≤ 500000) (t1 : 2251799813685248 ≤ t) (t2 : t ≤ 500000000000000000)
    (k1 : 1 ≤ tick) (k2 : tick ≤ 1000000000) (l0 : 0 ≤ lag) : ∃ l, 0 ≤ l ∧ l < tick ∧ lag.tmod tick = l ∧ W CP 26 [.int .i64 t, .int .u64 lag, .ptr P 0, .ptr T 0] h = some (.int .i64 (cnt p t - l), h, []) := by
  obtain ⟨l, hl, l1, l2⟩ := tmod_to tick l0 (by omega)
  have hPl := (List.getElem?_eq_some_iff.1 hP).1
  have hTl := (List.getElem?_eq_some_iff.1 hT).1
  have nP : ¬ h.length ≤ P := by omega
  have nT : ¬ h.length ≤ T := by omega
  have w1 : IntKind.u64.wrap tick = tick := wr_u64 _ (by omega) (by omega)
  have n1 : ¬ tick = 0 := by omega
  have w2 : IntKind.i64.wrap l = l := wr_i64 _ (by omega) (by omega)
  have hc := cnt_in p1 p2 t1 t2
  have w3 : IntKind.i64.wrap (cnt p t - l) = cnt p t - l := wr_i64 _ (by omega) (by omega)
  have n2 : ¬ cnt p t - l < 0 := by omega
  have eC := fun g => counted_c p1 p2 t1 t2 g
  refine ⟨l, l1, l2, hl, W_quiet0 (m := M26) rfl rfl (by simp [AV.lts, AV.lt]) rfl rfl hg ?_⟩
  simp (maxDischargeDepth := 9) -implicitDefEqProofs only [push_cast, reduceIte, Nat.reduceEqDiff, Nat.reduceAdd, Nat.reduceSub, Nat.reduceMul, Nat.reduceDiv, Nat.reduceMod, Nat.reduceLT, Nat.reduceLeDiff, Nat.reduceBEq, Nat.reduceBNe, reduceCtorEq, Int.reduceEq, Int.reduceNe, Int.reduceLT, Int.reduceLE, Int.reduceToNat, Int.reduceNeg, Int.reduceAdd, Int.reduceSub, Int.reduceMul, Int.reducePow, Nat.reducePow, Int.reduceBEq, M26, hP, hT, hPl, hTl, nP, nT, w1, n1, hl, w2, w3, n2, eC]
theorem Age_ok {h : AHeap} {p : Nat} {t f a l u raw l' u' : Int} (hg : Good h) (r : Rul h p t f) (a0 : 0 ≤ a) (ar : a ≤ raw) (r2 : raw ≤ 4611686018427387904) (l0 : 0 ≤ l) (lu : l ≤ u) (u2 : u ≤ 4611686018427387904)
    (el : l + downV t f (raw - a) = l') (eu : u + upV t f (raw - a) = u') (l1 : l' ≤ 4611686018427387904) (u1 : u' ≤ 4611686018427387904) :
    W CP 30 [.ptr p 0, .agg [.int .i64 a, .int .i64 l, .int .i64 u], .int .i64 raw] h = some (.tup [.agg [.int .i64 raw, .int .i64 l', .int .i64 u'], .int .i64 0], h, []) := by
  rw [Ruler_Age hg r, if_pos ⟨mayS_iff.2 ⟨⟨a0, by omega⟩, l0, lu, u2⟩, ar, r2⟩, el, eu]
  have d1 := downV_in t f (raw - a)
  have d2 := upV_in t f (raw - a)
  rw [bro_id (by omega) (by omega), bro_id (by omega) (by omega)]
end Go.Proofs.YtcpiohklljppaaaW.AI.D
