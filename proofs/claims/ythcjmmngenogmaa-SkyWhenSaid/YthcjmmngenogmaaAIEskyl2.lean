import Derived.Test.YthcjmmngenogmaaAIEskyl1
namespace Go.Proofs.YthcjmmngenogmaaW.AI.E
open Go Go.Proofs.YthcjmmngenogmaaW.AI
set_option maxRecDepth 100000
set_option linter.unusedSimpArgs false
set_option linter.unusedVariables false
set_option linter.unusedSectionVars false
set_option maxHeartbeats 16000000 in
theorem when_body {g : AHeap} (hg : Good g) {z a n : Int} {lv ov : AV} (z0 : 0 ≤ z) (z1 : z < 4294967296) (hL : Ty g (.sl [.i .u64]) lv) (hO : Ty g (.sl [.i .i32]) ov) (n0 : 0 ≤ n) (n1 : n < 18446744073709551616) :
    Wp (xbody (W CP) M4 [.int .u32 z, lv, ov, .int .i64 a, .int .u64 n] g) fun r => r.1 = .bool true := by
  obtain ⟨L, uL, lL, rL⟩ := arg_iv hL
  obtain ⟨O, uO, lO, rO⟩ := arg_iv hO
  have h1 : IntKind.u64.min = 0 := rfl
  have h2 : IntKind.u64.max = 18446744073709551615 := rfl
  have h3 : IntKind.i32.min = -2147483648 := rfl
  have h4 : IntKind.i32.max = 2147483647 := rfl
  obtain ⟨P, _, js, eM, ⟨p, rfl, hp, sk⟩, hG⟩ := made_c hg uL uO z0 z1 (fun x hx => by have := rL x hx; omega) (fun x hx => by have := rO x hx; omega) lL lO
  have nL := uL.na
  have nO := uO.na
  obtain ⟨H, hH⟩ : ∃ H, g ++ js = H := ⟨_, rfl⟩
  rw [hH] at eM sk hG
  have hP := sk.ok
  have y0 := sk.hz0
  have y1 := sk.hz1
  obtain ⟨hz, hhz⟩ : ∃ hz, 1000 + z % 999999001 = hz := ⟨_, rfl⟩
  rw [hhz] at sk y0 y1
  obtain ⟨T, hT⟩ : ∃ y, abits .and .i64 a 4503599627370495 = y := ⟨_, rfl⟩
  have kT : 0 ≤ abits .and .i64 a 4503599627370495 ∧ abits .and .i64 a 4503599627370495 ≤ 4503599627370495 := andM (m := 4503599627370495) (by decide) a
  rw [hT] at kT
  have al := fun h => alive30 h
  have eT := ticks_c (t := T) hG sk
  have eX := ticks_c (t := 4503599627370496) hG sk
  have iT := tks_in hP y0 y1 T
  have mT := tks_mono hP y0 kT.1 (show T ≤ 4503599627370496 by omega) (Int.le_refl _)
  -- one number
  have rnd : ∀ m : Int, (W CP 18 [.ptr p 0, .int .u64 m] H = some (.tup [.int .i64 0, .bool false], H, []) ∧ ¬ m ≤ tks hz P 4503599627370496) ∨
      ∃ (r w v : Int), W CP 18 [.ptr p 0, .int .u64 m] H = some (.tup [.int .i64 r, .bool true], H, []) ∧ m ≤ tks hz P 4503599627370496 ∧ W CP 14 [.ptr p 0, .int .i64 r] H = some (.int .u64 w, H, []) ∧ ¬ w < m ∧
        ((¬ 0 < r) ∨ (0 < r ∧ IntKind.i64.wrap (r - 1) = r - 1 ∧ W CP 14 [.ptr p 0, .int .i64 (r - 1)] H = some (.int .u64 v, H, []) ∧ ¬ m ≤ v)) ∧ ¬ r < 0 ∧ ¬ 4503599627370496 < r ∧ (m = tks hz P T → r ≤ T) := by
    intro m
    by_cases hm : tks hz P 4503599627370496 < m
    · exact Or.inl ⟨when_no hG sk hm, by omega⟩
    · obtain ⟨r, r1, r2, r3, e⟩ := when_is hG sk hm
      refine Or.inr ⟨(r : Int), _, tks hz P ((r : Int) - 1), e, by omega, ticks_c hG sk, by omega, ?_, by omega, by omega, fun hmT => ?_⟩
      · by_cases h0 : (0 : Int) < (r : Int)
        · exact Or.inr ⟨h0, wr_i64 _ (by omega) (by omega), ticks_c hG sk, by have := r2 ((r : Int) - 1) (by omega) (by omega); omega⟩
        · exact Or.inl h0
      · rcases Int.lt_or_le T (r : Int) with c | c
        · have := r2 T kT.1 c
          omega
        · exact c
  obtain ⟨X, hX⟩ : ∃ X, tks hz P 4503599627370496 = X := ⟨_, rfl⟩
  obtain ⟨Y, hY⟩ : ∃ X, tks hz P T = X := ⟨_, rfl⟩
  rw [hX] at eX mT
  rw [hY] at eT iT mT
  simp only [hX, hY] at rnd
  have w1 : IntKind.u64.wrap (Y + 1) = Y + 1 := wr_u64 _ (by omega) (by omega)
  simp (maxDischargeDepth := 9) -implicitDefEqProofs only [push_cast, simprocAttr, M4, nadd1, nadd2, nadd3, nadd4, nadd5, nadd6, nadd7, nadd8, nadd9, nadd10, nadd11, nadd12, nL, nO, eM, hT, eT, w1]
  refine wp_kRes (wp_kSeq (wp_kBlock ?_))
  refine wp_loop (fun k x h' ws => ∃ j : Nat, k = 3 - j ∧ j ≤ 3 ∧ x = [(3, .int .i64 T), (11, .ptr p 0), (34, .agg [.int .u64 n, .int .u64 Y, .int .u64 (Y + 1)]), (35, .int .i64 (j : Int))] ∧ h' = H ∧ ws = []) 3 ?_ ?_
  · refine ⟨0, by omega, by omega, ?_, rfl, rfl⟩
    simp (maxDischargeDepth := 9) -implicitDefEqProofs only [push_cast, simprocAttr]; try rfl
  · rintro k xx h' ws ⟨j, rfl, hj, rfl, hh, rfl⟩
    obtain rfl : H = h' := hh.symm
    obtain rfl | rfl | rfl | rfl : j = 0 ∨ j = 1 ∨ j = 2 ∨ j = 3 := by omega
    · rcases rnd n with ⟨e1, e2⟩ | ⟨r, w, v, e1, e2, e3, e4, e5 | ⟨e5, e6, e7, e8⟩, e9, e10, _⟩
      · simp (maxDischargeDepth := 9) -implicitDefEqProofs only [push_cast, simprocAttr, nadd1, nadd2, nadd3, nadd4, nadd5, nadd6, nadd7, nadd8, nadd9, nadd10, nadd11, nadd12, e1, eX, e2]
        refine loop_next 2 (by omega) ⟨1, rfl, by omega, ?_, rfl, rfl⟩
        simp (maxDischargeDepth := 9) -implicitDefEqProofs only [push_cast, simprocAttr]; try simp
      · simp (maxDischargeDepth := 9) -implicitDefEqProofs only [push_cast, simprocAttr, nadd1, nadd2, nadd3, nadd4, nadd5, nadd6, nadd7, nadd8, nadd9, nadd10, nadd11, nadd12, e1, eX, e2, e3, e4, e5, e9, e10]
        refine loop_next 2 (by omega) ⟨1, rfl, by omega, ?_, rfl, rfl⟩
        simp (maxDischargeDepth := 9) -implicitDefEqProofs only [push_cast, simprocAttr]; try simp
      · simp (maxDischargeDepth := 9) -implicitDefEqProofs only [push_cast, simprocAttr, nadd1, nadd2, nadd3, nadd4, nadd5, nadd6, nadd7, nadd8, nadd9, nadd10, nadd11, nadd12, e1, eX, e2, e3, e4, e5, e6, e7, e8, e9, e10]
        refine loop_next 2 (by omega) ⟨1, rfl, by omega, ?_, rfl, rfl⟩
        simp (maxDischargeDepth := 9) -implicitDefEqProofs only [push_cast, simprocAttr]; try simp
    · rcases rnd Y with ⟨e1, e2⟩ | ⟨r, w, v, e1, e2, e3, e4, e5 | ⟨e5, e6, e7, e8⟩, e9, e10, _⟩
      · simp (maxDischargeDepth := 9) -implicitDefEqProofs only [push_cast, simprocAttr, nadd1, nadd2, nadd3, nadd4, nadd5, nadd6, nadd7, nadd8, nadd9, nadd10, nadd11, nadd12, e1, eX, e2]
        refine loop_next 1 (by omega) ⟨2, rfl, by omega, ?_, rfl, rfl⟩
        simp (maxDischargeDepth := 9) -implicitDefEqProofs only [push_cast, simprocAttr]; try simp
      · simp (maxDischargeDepth := 9) -implicitDefEqProofs only [push_cast, simprocAttr, nadd1, nadd2, nadd3, nadd4, nadd5, nadd6, nadd7, nadd8, nadd9, nadd10, nadd11, nadd12, e1, eX, e2, e3, e4, e5, e9, e10]
        refine loop_next 1 (by omega) ⟨2, rfl, by omega, ?_, rfl, rfl⟩
        simp (maxDischargeDepth := 9) -implicitDefEqProofs only [push_cast, simprocAttr]; try simp
      · simp (maxDischargeDepth := 9) -implicitDefEqProofs only [push_cast, simprocAttr, nadd1, nadd2, nadd3, nadd4, nadd5, nadd6, nadd7, nadd8, nadd9, nadd10, nadd11, nadd12, e1, eX, e2, e3, e4, e5, e6, e7, e8, e9, e10]
        refine loop_next 1 (by omega) ⟨2, rfl, by omega, ?_, rfl, rfl⟩
        simp (maxDischargeDepth := 9) -implicitDefEqProofs only [push_cast, simprocAttr]; try simp
    · rcases rnd (Y + 1) with ⟨e1, e2⟩ | ⟨r, w, v, e1, e2, e3, e4, e5 | ⟨e5, e6, e7, e8⟩, e9, e10, _⟩
      · simp (maxDischargeDepth := 9) -implicitDefEqProofs only [push_cast, simprocAttr, nadd1, nadd2, nadd3, nadd4, nadd5, nadd6, nadd7, nadd8, nadd9, nadd10, nadd11, nadd12, e1, eX, e2]
        refine loop_next 0 (by omega) ⟨3, rfl, by omega, ?_, rfl, rfl⟩
        simp (maxDischargeDepth := 9) -implicitDefEqProofs only [push_cast, simprocAttr]; try simp
      · simp (maxDischargeDepth := 9) -implicitDefEqProofs only [push_cast, simprocAttr, nadd1, nadd2, nadd3, nadd4, nadd5, nadd6, nadd7, nadd8, nadd9, nadd10, nadd11, nadd12, e1, eX, e2, e3, e4, e5, e9, e10]
        refine loop_next 0 (by omega) ⟨3, rfl, by omega, ?_, rfl, rfl⟩
        simp (maxDischargeDepth := 9) -implicitDefEqProofs only [push_cast, simprocAttr]; try simp
      · simp (maxDischargeDepth := 9) -implicitDefEqProofs only [push_cast, simprocAttr, nadd1, nadd2, nadd3, nadd4, nadd5, nadd6, nadd7, nadd8, nadd9, nadd10, nadd11, nadd12, e1, eX, e2, e3, e4, e5, e6, e7, e8, e9, e10]
        refine loop_next 0 (by omega) ⟨3, rfl, by omega, ?_, rfl, rfl⟩
        simp (maxDischargeDepth := 9) -implicitDefEqProofs only [push_cast, simprocAttr]; try simp
    · rcases rnd Y with ⟨e1, e2⟩ | ⟨r, w, v, e1, e2, e3, e4, _, e9, e10, e11⟩
      · omega
      · have e11 := e11 rfl
        simp (maxDischargeDepth := 9) -implicitDefEqProofs only [push_cast, simprocAttr, nadd1, nadd2, nadd3, nadd4, nadd5, nadd6, nadd7, nadd8, nadd9, nadd10, nadd11, nadd12, eT, e1, e11, al]
theorem when_law (js : AHeap) (avs : List AV) (hx : Ext js) (ht : TyA (CP.gl ++ js) [.one (.i .u32), .one (.sl [.i .u64]), .one (.sl [.i .i32]), .one (.i .i64), .one (.i .u64)] avs) : ∃ h' ws, W CP 4 avs (CP.gl ++ js) = some (.bool true, h', ws) := by
  simp only [TyA] at ht
  obtain ⟨c, _, rfl, hc, v, _, rfl, hv, u, _, rfl, hu, a, _, rfl, ha, b, _, rfl, hb, rfl⟩ := ht
  simp only [Ty] at hc ha hb
  obtain ⟨z, rfl, z0, z1⟩ := hc
  obtain ⟨a, rfl, _, _⟩ := ha
  obtain ⟨n, rfl, n0, n1⟩ := hb
  have e1 : IntKind.u32.min = 0 := rfl
  have e2 : IntKind.u32.max = 4294967295 := rfl
  have e3 : IntKind.u64.min = 0 := rfl
  have e4 : IntKind.u64.max = 18446744073709551615 := rfl
  refine W_law (m := M4) (fun _ => rfl) rfl (when_body (good_ext hx) (by omega) (by omega) hv hu (by omega) (by omega)) fun h0 => ?_
  simp only [AV.lts, Bool.and_eq_true] at h0
  exact when_body glG (by omega) (by omega) (ty_nil hv h0.2.1) (ty_nil hu h0.2.2.1) (by omega) (by omega)
theorem when_kinds : aksOf X.P 20 [22, 23, 24, 2, 27] = some [.one (.i .u32), .one (.sl [.i .u64]), .one (.sl [.i .i32]), .one (.i .i64), .one (.i .u64)] := by kernel_rfl
end Go.Proofs.YthcjmmngenogmaaW.AI.E
