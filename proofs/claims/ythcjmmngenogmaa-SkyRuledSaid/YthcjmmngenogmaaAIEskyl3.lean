import Derived.Test.YthcjmmngenogmaaAIEsky7
namespace Go.Proofs.YthcjmmngenogmaaW.AI.E
open Go Go.Proofs.YthcjmmngenogmaaW.AI
set_option maxRecDepth 100000
set_option linter.unusedSimpArgs false
set_option linter.unusedVariables false
set_option linter.unusedSectionVars false
theorem tick_c {hz : Int} (z0 : 1000 ≤ hz) (z1 : hz ≤ 1000000000) (h : AHeap) : W CP 29 [.int .u64 hz] h = some (.int .i64 ((1000000000 + hz - 1) / hz), h, []) := by
  have hq : (1000000000 + hz - 1).tdiv hz = (1000000000 + hz - 1) / hz := Int.tdiv_eq_ediv_of_nonneg (by omega)
  have q0 : 0 ≤ (1000000000 + hz - 1) / hz := Int.ediv_nonneg (by omega) (by omega)
  have q1 : (1000000000 + hz - 1) / hz ≤ 2000000000 := Int.ediv_le_of_le_mul (by omega) (by omega)
  obtain ⟨T, hT⟩ : ∃ T, (1000000000 + hz - 1) / hz = T := ⟨_, rfl⟩
  rw [hT] at hq q0 q1 ⊢
  have c1 : ¬ hz = 0 := by omega
  have c2 : ¬ 1000000000000 < hz := by omega
  have w1 : IntKind.u64.wrap (1000000000 + hz) = 1000000000 + hz := wr_u64 _ (by omega) (by omega)
  have w2 : IntKind.u64.wrap (1000000000 + hz - 1) = 1000000000 + hz - 1 := wr_u64 _ (by omega) (by omega)
  have w3 : IntKind.u64.wrap T = T := wr_u64 _ (by omega) (by omega)
  have w4 : IntKind.i64.wrap T = T := wr_i64 _ (by omega) (by omega)
  refine W_val (m := M29) (fun _ => rfl) rfl rfl rfl ?_ h
  simp (maxDischargeDepth := 9) -implicitDefEqProofs only [push_cast, simprocAttr, M29, c1, c2, w1, w2, hq, w3, w4]
set_option maxHeartbeats 16000000 in
theorem ruled_body {g : AHeap} (hg : Good g) {z a b m : Int} {lv ov : AV} (z0 : 0 ≤ z) (z1 : z < 4294967296) (hL : Ty g (.sl [.i .u64]) lv) (hO : Ty g (.sl [.i .i32]) ov) (m0 : 0 ≤ m) (m1 : m < 4294967296) :
    Wp (xbody (W CP) M7 [.int .u32 z, lv, ov, .int .i64 a, .int .i64 b, .int .u32 m] g) fun r => r.1 = .bool true := by
  obtain ⟨L, uL, lL, rL⟩ := arg_iv hL
  obtain ⟨O, uO, lO, rO⟩ := arg_iv hO
  have h1 : IntKind.u64.min = 0 := rfl
  have h2 : IntKind.u64.max = 18446744073709551615 := rfl
  have h3 : IntKind.i32.min = -2147483648 := rfl
  have h4 : IntKind.i32.max = 2147483647 := rfl
  obtain ⟨P, _, js, eM, ⟨p, rfl, hp, sk⟩, hG⟩ := made_c hg uL uO z0 z1 (fun x hx => by have := rL x hx; omega) (fun x hx => by have := rO x hx; omega) lL lO
  have nL := uL.na
  have nO := uO.na
  obtain ⟨H, hH⟩ : ∃ H, g ++ js = H := ⟨_, rfl⟩
  rw [hH] at eM sk hG
  have hP := sk.ok
  have y0 := sk.hz0
  have y1 := sk.hz1
  have zt : z.tmod 999999001 = z % 999999001 := Int.tmod_eq_emod_of_nonneg z0
  obtain ⟨Z, hZ⟩ : ∃ Z, z % 999999001 = Z := ⟨_, rfl⟩
  rw [hZ] at zt sk y0 y1
  have u1 : IntKind.u64.wrap z = z := wr_u64 _ (by omega) (by omega)
  have u2 : IntKind.u64.wrap Z = Z := wr_u64 _ (by omega) (by omega)
  obtain ⟨hz, hhz⟩ : ∃ hz, 1000 + Z = hz := ⟨_, rfl⟩
  have u3 : IntKind.u64.wrap (1000 + Z) = hz := by rw [hhz]; exact wr_u64 _ (by omega) (by omega)
  rw [hhz] at sk y0 y1
  have eT := fun h => tick_c (hz := hz) (by omega) y1 h
  have hT2 := Int.lt_ediv_add_one_mul_self (1000000000 + hz - 1) (show 0 < hz by omega)
  have hT3 : 0 ≤ (1000000000 + hz - 1) / hz := Int.ediv_nonneg (by omega) (by omega)
  have hT4 : (1000000000 + hz - 1) / hz ≤ 1000000000 := Int.ediv_le_of_le_mul (by omega) (by omega)
  obtain ⟨T, hT⟩ : ∃ T, (1000000000 + hz - 1) / hz = T := ⟨_, rfl⟩
  rw [hT] at eT hT2 hT3 hT4
  rw [Int.add_mul, Int.one_mul] at hT2
  have hTz : 1000000000 ≤ T * hz := by omega
  have hT1 : 1 ≤ T := by
    rcases Int.lt_or_le 0 T with c | c
    · omega
    · have : T = 0 := by omega
      rw [this] at hTz; omega
  obtain ⟨A, hA⟩ : ∃ y, abits .and .i64 a 4503599627370495 = y := ⟨_, rfl⟩
  obtain ⟨B, hB⟩ : ∃ y, abits .and .i64 b 4503599627370495 = y := ⟨_, rfl⟩
  have kA : 0 ≤ abits .and .i64 a 4503599627370495 ∧ abits .and .i64 a 4503599627370495 ≤ 4503599627370495 := andM (m := 4503599627370495) (by decide) a
  have kB : 0 ≤ abits .and .i64 b 4503599627370495 ∧ abits .and .i64 b 4503599627370495 ≤ 4503599627370495 := andM (m := 4503599627370495) (by decide) b
  rw [hA] at kA
  rw [hB] at kB
  have al := fun h => alive30 h
  -- the paces
  have eW := worst_c hG sk
  obtain ⟨w0, w1, _⟩ := wst_in (P := P) fun p hp => ⟨(hP.rng p hp).2.2.1, (hP.rng p hp).2.2.2⟩
  have um : IntKind.i64.wrap m = m := wr_i64 _ (by omega) (by omega)
  have slope := fun (lo hi : Int) (l0 : 0 ≤ lo) (l1 : lo ≤ hi) => pac_slopeW hP l0 l1
  obtain ⟨w, hw⟩ : ∃ w, wst P = w := ⟨_, rfl⟩
  rw [hw] at eW w0 w1
  simp only [hw] at slope
  have us : IntKind.i64.wrap (w + m) = w + m := wr_i64 _ (by omega) (by omega)
  obtain ⟨v, hv, v0, v1⟩ : ∃ v, (if 500000 < w + m then 500000 else w + m) = v ∧ w ≤ v ∧ v ≤ 500000 := ⟨_, rfl, by split <;> omega, by split <;> omega⟩
  -- one round
  have rnd : ∀ (lo hi f : Int) (h : AHeap), Good h → 0 ≤ lo → lo ≤ hi → hi ≤ 4503599627370495 → w ≤ f → f ≤ 500000 → ∃ (u d : Int) (h2 : AHeap), W CP 30 [.int .i64 T, .int .i64 f] h = some (.tup [.ptr h.length 0, .int .i64 0], h2, []) ∧ Keeps h h2 none ∧
      W CP 31 [.ptr h.length 0, .int .i64 (rawV hz P hi - rawV hz P lo)] h2 = some (.int .i64 u, h2, []) ∧ W CP 32 [.ptr h.length 0, .int .i64 (rawV hz P hi - rawV hz P lo)] h2 = some (.int .i64 d, h2, []) ∧ ¬ u < hi - lo ∧ ¬ hi - lo < d := by
    intro lo hi f h hgh l0 l1 l2 f0 f1
    have hr : Rul (h ++ [⟨.tip false, .vals [.int .i64 T, .int .i64 f, .bool true]⟩]) h.length T f := ⟨by simp, by simp, hT1, hT4, by omega, f1⟩
    have hgr : Good (h ++ [⟨.tip false, .vals [.int .i64 T, .int .i64 f, .bool true]⟩]) := good_app hgh rfl
    obtain ⟨x0, x1⟩ := raw_true (T := T) hP y0 l0 l1 (by omega) hTz
    obtain ⟨s0, s1⟩ := slope lo hi l0 l1
    have r0 := raw_mono hP y0 l0 l1 (by omega)
    have r1 := raw_in hP y0 y1 lo
    have r2 := raw_in hP y0 y1 hi
    obtain ⟨X, hX⟩ : ∃ X, rawV hz P hi - rawV hz P lo = X := ⟨_, rfl⟩
    rw [hX] at x0 x1 ⊢
    obtain ⟨u, eu, _, _, u3, _⟩ := upV_char hT1 hT4 (by omega : 0 ≤ f) f1 (by omega : 0 ≤ X) (by omega)
    obtain ⟨d, edv, d0, _, d3, _⟩ := downV_char hT1 hT4 (by omega : 0 ≤ f) f1 (by omega : 0 ≤ X) (by omega)
    obtain ⟨D, hD⟩ : ∃ D, hi - lo = D := ⟨_, rfl⟩
    rw [hD] at s0 s1
    have eU := Ruler_Up (x := X) hgr hr
    have eD := Ruler_Down (x := X) hgr hr
    rw [eu] at eU
    rw [edv] at eD
    rw [hD]
    refine ⟨u, d, _, span_New hT1 hT4 (by omega) f1 h, keepsG hgr, eU, eD, ?_, ?_⟩
    · have a1 : D * (1000000000 - f) ≤ D * (1000000000 - w) := Int.mul_le_mul_of_nonneg_left (by omega) (by omega)
      have a2 : D * (1000000000 - f) ≤ u * (1000000000 - f) := by omega
      have := Int.le_of_mul_le_mul_right a2 (show 0 < 1000000000 - f by omega)
      omega
    · rcases d3 with d3 | ⟨_, d3⟩
      · omega
      · have a1 : D * (1000000000 + w) ≤ D * (1000000000 + f) := Int.mul_le_mul_of_nonneg_left (by omega) (by omega)
        have a2 : d * (1000000000 + f) ≤ D * (1000000000 + f) := by omega
        have := Int.le_of_mul_le_mul_right a2 (show 0 < 1000000000 + f by omega)
        omega
  -- both orders
  have core : ∀ lo hi : Int, 0 ≤ lo → lo ≤ hi → hi ≤ 4503599627370495 → (B < A ∧ lo = B ∧ hi = A ∨ ¬ B < A ∧ lo = A ∧ hi = B) → Wp (xbody (W CP) M7 [.int .u32 z, lv, ov, .int .i64 a, .int .i64 b, .int .u32 m] g) fun r => r.1 = .bool true := by
    intro lo hi l0 l1 l2 hor
    have rnd := fun f h hgh f0 f1 => rnd lo hi f h hgh l0 l1 l2 f0 f1
    have eA := raw_c (t := lo) hG sk
    have eB := raw_c (t := hi) hG sk
    have r0 := raw_mono hP y0 l0 l1 (by omega)
    have r1 := raw_in hP y0 y1 lo
    have r2 := raw_in hP y0 y1 hi
    obtain ⟨ra, hra⟩ : ∃ x, rawV hz P lo = x := ⟨_, rfl⟩
    obtain ⟨rb, hrb⟩ : ∃ x, rawV hz P hi = x := ⟨_, rfl⟩
    rw [hra] at eA r0 r1
    rw [hrb] at eB r0 r2
    simp only [hra, hrb] at rnd
    have wx : IntKind.i64.wrap (rb - ra) = rb - ra := wr_i64 _ (by omega) (by omega)
    obtain ⟨X, hX⟩ : ∃ X, rb - ra = X := ⟨_, rfl⟩
    rw [hX] at wx
    have wx' : IntKind.i64.wrap (rb - ra) = X := by rw [hX]; exact wx
    simp only [hX] at rnd
    have hX0 : ¬ X < 0 := by omega
    have wd : IntKind.i64.wrap (hi - lo) = hi - lo := wr_i64 _ (by omega) (by omega)
    have loop : ∀ (h' : AHeap) (j : Nat), Keeps H h' none → j ≤ 2 → Good h' := fun h' j k _ => k.2.2 hG
    rcases hor with ⟨hAB, rfl, rfl⟩ | ⟨hAB, rfl, rfl⟩
    all_goals
      simp (maxDischargeDepth := 9) -implicitDefEqProofs only [push_cast, simprocAttr, M7, nadd1, nadd2, nadd3, nadd4, nadd5, nadd6, nadd7, nadd8, nadd9, nadd10, nadd11, nadd12, nL, nO, eM, hA, hB, hAB, u1, zt, u2, u3, eT, eA, eB, wx', eW, um, us, hv]
      refine wp_kRes (wp_kSeq (wp_kBlock ?_))
      refine wp_loop (fun k x h' ws => ∃ j : Nat, k = 2 - j ∧ j ≤ 2 ∧ x = [(3, .int .i64 lo), (4, .int .i64 hi), (14, .int .i64 T), (15, .int .i64 X), (55, .agg [.int .i64 w, .int .i64 v]), (56, .int .i64 (j : Int))] ∧ Keeps H h' none ∧ ws = []) 2 ?_ ?_
      · refine ⟨0, by omega, by omega, ?_, Keeps.refl _ _, rfl⟩
        simp (maxDischargeDepth := 9) -implicitDefEqProofs only [push_cast, simprocAttr]; try rfl
      · rintro k xx h' ws ⟨j, rfl, hj, rfl, kh, rfl⟩
        have hgh := kh.2.2 hG
        obtain rfl | rfl | rfl : j = 0 ∨ j = 1 ∨ j = 2 := by omega
        · obtain ⟨u, d, h2, q1, q2, q3, q4, q5, q6⟩ := rnd w h' hgh (Int.le_refl _) (by omega)
          simp (maxDischargeDepth := 9) -implicitDefEqProofs only [push_cast, simprocAttr, nadd1, nadd2, nadd3, nadd4, nadd5, nadd6, nadd7, nadd8, nadd9, nadd10, nadd11, nadd12, q1, hX0, wd, q3, q4, q5, q6]
          refine loop_next 1 (by omega) ⟨1, rfl, by omega, ?_, keepsT kh q2, rfl⟩
          simp (maxDischargeDepth := 9) -implicitDefEqProofs only [push_cast, simprocAttr]; try simp
        · obtain ⟨u, d, h2, q1, q2, q3, q4, q5, q6⟩ := rnd v h' hgh v0 v1
          simp (maxDischargeDepth := 9) -implicitDefEqProofs only [push_cast, simprocAttr, nadd1, nadd2, nadd3, nadd4, nadd5, nadd6, nadd7, nadd8, nadd9, nadd10, nadd11, nadd12, q1, hX0, wd, q3, q4, q5, q6]
          refine loop_next 0 (by omega) ⟨2, rfl, by omega, ?_, keepsT kh q2, rfl⟩
          simp (maxDischargeDepth := 9) -implicitDefEqProofs only [push_cast, simprocAttr]; try simp
        · simp (maxDischargeDepth := 9) -implicitDefEqProofs only [push_cast, simprocAttr, nadd1, nadd2, nadd3, nadd4, nadd5, nadd6, nadd7, nadd8, nadd9, nadd10, nadd11, nadd12, al]
  by_cases hAB : B < A
  · exact core B A (by omega) (by omega) (by omega) (Or.inl ⟨hAB, rfl, rfl⟩)
  · exact core A B (by omega) (by omega) (by omega) (Or.inr ⟨hAB, rfl, rfl⟩)
theorem ruled_law (js : AHeap) (avs : List AV) (hx : Ext js) (ht : TyA (CP.gl ++ js) [.one (.i .u32), .one (.sl [.i .u64]), .one (.sl [.i .i32]), .one (.i .i64), .one (.i .i64), .one (.i .u32)] avs) : ∃ h' ws, W CP 7 avs (CP.gl ++ js) = some (.bool true, h', ws) := by
  simp only [TyA] at ht
  obtain ⟨c, _, rfl, hc, v, _, rfl, hv, u, _, rfl, hu, a, _, rfl, ha, b, _, rfl, hb, m, _, rfl, hm, rfl⟩ := ht
  simp only [Ty] at hc ha hb hm
  obtain ⟨z, rfl, z0, z1⟩ := hc
  obtain ⟨a, rfl, _, _⟩ := ha
  obtain ⟨b, rfl, _, _⟩ := hb
  obtain ⟨m, rfl, m0, m1⟩ := hm
  have e1 : IntKind.u32.min = 0 := rfl
  have e2 : IntKind.u32.max = 4294967295 := rfl
  refine W_law (m := M7) (fun _ => rfl) rfl (ruled_body (good_ext hx) (by omega) (by omega) hv hu (by omega) (by omega)) fun h0 => ?_
  simp only [AV.lts, Bool.and_eq_true] at h0
  exact ruled_body glG (by omega) (by omega) (ty_nil hv h0.2.1) (ty_nil hu h0.2.2.1) (by omega) (by omega)
theorem ruled_kinds : aksOf X.P 20 [22, 23, 24, 2, 2, 22] = some [.one (.i .u32), .one (.sl [.i .u64]), .one (.sl [.i .i32]), .one (.i .i64), .one (.i .i64), .one (.i .u32)] := by kernel_rfl
end Go.Proofs.YthcjmmngenogmaaW.AI.E
