import Derived.Test.YtdpbbagllhfjbaaDoorAIFparse
namespace Go.Proofs.YtdpbbagllhfjbaaDoorW.AI.F
open Go Go.Proofs.YtdpbbagllhfjbaaDoorW.AI Go.Proofs.YtdpbbagllhfjbaaDoorW.AI.Oct
set_option maxRecDepth 100000
set_option linter.unusedSimpArgs false
set_option linter.unusedVariables false
set_option linter.unusedSectionVars false
theorem app_nils {H : AHeap} {X : List Int} {n : Nat} (h0 : n ≠ 0) (hn : n < 1000000000) : aappend H (.ints .u8 [0]) 1 .nils (.ints .u8 X) n = some (.gsl H.length 0 n 1 false, H ++ [.new (.ints .u8 X)], []) := by
  simp only [aappend, roomy hn, if_true, if_neg h0]
  rfl
theorem app_none (H : AHeap) (X : List Int) : aappend H (.ints .u8 [0]) 1 .nils (.ints .u8 X) 0 = some (.nils, H, []) := rfl
set_option maxHeartbeats 8000000 in
theorem refParse_ok {h : AHeap} {x : AV} {D : List Int} {v0 v1 v2 v3 v4 v5 v6 v7 v8 v9 v10 : Int} (hg : Good h) (hx : Src h x D) (hv : HV D v0 v1 v2 v3 v4 v5 v6 v7 v8 v9 v10) (hD : D.length < 1000000000) (c1 : 1 ≤ v0 / 8 % 8) (c2 : v0 / 8 % 8 ≤ 4) :
    ∃ rv js, W CP 55 [x] h = some (.tup [.agg [.int .u8 (v0 / 64), .int .u8 (v0 / 8 % 8), .int .u8 (v0 % 8), .int .u8 v1, .int .i8 (IntKind.i8.wrap v2), .int .i8 (IntKind.i8.wrap v3), .int .u32 v4, .int .u32 v5, .int .u32 v6, .int .u64 v7, .int .u64 v8, .int .u64 v9, .int .u64 v10, .nils, .bool false, .int .u32 0, .int .u64 0], rv, .int .i64 0], h ++ js, []) ∧ GsAt (h ++ js) rv (D.drop 48) ∧ Good (h ++ js) ∧ (∀ r, blkOf rv = some r → h.length ≤ r) ∧ (rv = .nils ∨ ∃ r, rv = .gsl r 0 (D.length - 48) 1 false) := by
  have hgt := hv.bounds
  obtain ⟨⟨p0, q0⟩, ⟨p1, q1⟩, ⟨p2, q2⟩, ⟨p3, q3⟩, ⟨p4, q4⟩, ⟨p5, q5⟩, ⟨p6, q6⟩, ⟨p7, q7⟩, ⟨p8, q8⟩, ⟨p9, q9⟩, ⟨p10, q10⟩⟩ := hgt
  have f0 : Int.tdiv v0 64 = v0 / 64 := Int.tdiv_eq_ediv_of_nonneg (by omega)
  have f1 : Int.tdiv v0 8 = v0 / 8 := Int.tdiv_eq_ediv_of_nonneg (by omega)
  have f2 : Int.tmod (v0 / 8) 8 = v0 / 8 % 8 := Int.tmod_eq_emod_of_nonneg (by omega)
  have f3 : Int.tmod v0 8 = v0 % 8 := Int.tmod_eq_emod_of_nonneg (by omega)
  have g0 : IntKind.u8.wrap (v0 / 64) = v0 / 64 := wr_u8 _ (by omega) (by omega)
  have g1 : IntKind.u8.wrap (v0 / 8) = v0 / 8 := wr_u8 _ (by omega) (by omega)
  have g4 : IntKind.u32.wrap v4 = v4 := wr_u32 _ (by omega) (by omega)
  have g5 : IntKind.u32.wrap v5 = v5 := wr_u32 _ (by omega) (by omega)
  have g6 : IntKind.u32.wrap v6 = v6 := wr_u32 _ (by omega) (by omega)
  have hlx : ¬ (D.length : Int) < 48 := by have := hv.l; omega
  have hl48 := hv.l
  obtain ⟨d0, d1, d2, d3⟩ := hv.at
  have r4 : ∀ js : AHeap, js.all notOld = true → W CP 94 [x, .int .i64 4, .int .i64 4] (h ++ js) = some (.int .u64 v4, h ++ js, []) := fun js hj => by rw [← hv.e4]; exact read_c (a := 4) (s := 4) rfl rfl (good_app hg hj) (hx.app js) (by omega) (by omega) hD
  have r5 : ∀ js : AHeap, js.all notOld = true → W CP 94 [x, .int .i64 8, .int .i64 4] (h ++ js) = some (.int .u64 v5, h ++ js, []) := fun js hj => by rw [← hv.e5]; exact read_c (a := 8) (s := 4) rfl rfl (good_app hg hj) (hx.app js) (by omega) (by omega) hD
  have r6 : ∀ js : AHeap, js.all notOld = true → W CP 94 [x, .int .i64 12, .int .i64 4] (h ++ js) = some (.int .u64 v6, h ++ js, []) := fun js hj => by rw [← hv.e6]; exact read_c (a := 12) (s := 4) rfl rfl (good_app hg hj) (hx.app js) (by omega) (by omega) hD
  have r7 : ∀ js : AHeap, js.all notOld = true → W CP 94 [x, .int .i64 16, .int .i64 8] (h ++ js) = some (.int .u64 v7, h ++ js, []) := fun js hj => by rw [← hv.e7]; exact read_c (a := 16) (s := 8) rfl rfl (good_app hg hj) (hx.app js) (by omega) (by omega) hD
  have r8 : ∀ js : AHeap, js.all notOld = true → W CP 94 [x, .int .i64 24, .int .i64 8] (h ++ js) = some (.int .u64 v8, h ++ js, []) := fun js hj => by rw [← hv.e8]; exact read_c (a := 24) (s := 8) rfl rfl (good_app hg hj) (hx.app js) (by omega) (by omega) hD
  have r9 : ∀ js : AHeap, js.all notOld = true → W CP 94 [x, .int .i64 32, .int .i64 8] (h ++ js) = some (.int .u64 v9, h ++ js, []) := fun js hj => by rw [← hv.e9]; exact read_c (a := 32) (s := 8) rfl rfl (good_app hg hj) (hx.app js) (by omega) (by omega) hD
  have r10 : ∀ js : AHeap, js.all notOld = true → W CP 94 [x, .int .i64 40, .int .i64 8] (h ++ js) = some (.int .u64 v10, h ++ js, []) := fun js hj => by rw [← hv.e10]; exact read_c (a := 40) (s := 8) rfl rfl (good_app hg hj) (hx.app js) (by omega) (by omega) hD
  have hso := fun js => ((hx.off hl48).app js).bytAt.2.1
  have hsl := (hx.off hl48).len
  rw [List.length_drop] at hsl
  have hx0 : AV.lts 0 [x] = false := by
    obtain ⟨_, b, o, c, st, l, _, _, _, _, ⟨rfl, _⟩ | rfl⟩ := hx <;> simp [AV.lts, AV.lt]
  have w1 : ¬ v0 / 8 % 8 = 0 := by omega
  have w2 : ¬ 4 < v0 / 8 % 8 := by omega
  have hcc := hl48

  by_cases hz : D.length - 48 = 0
  · have ea := fun H => app_none H (D.drop 48)
    have hd0 : D.drop 48 = [] := List.drop_eq_nil_of_le (by omega)
    refine ⟨.nils, [], ?_, Or.inl ⟨rfl, hd0⟩, by rw [List.append_nil]; exact hg, by simp [blkOf], Or.inl rfl⟩
    rw [List.append_nil]
    refine W_quietP (m := M55) rfl rfl hx0 rfl rfl hg ?_
    rw [hz] at hsl
    obtain ⟨hB, b, o, c, st, l, he, hst, hol, hdl, hk⟩ := hx
    have m0 : l[o]? = some v0 := by have := sub_at hdl (k := 0) (by omega); rw [Nat.add_zero] at this; rw [this]; exact d0
    have m1 : l[o + 1]? = some v1 := by rw [sub_at hdl (by omega)]; exact d1
    have m2 : l[o + 2]? = some v2 := by rw [sub_at hdl (by omega)]; exact d2
    have m3 : l[o + 3]? = some v3 := by rw [sub_at hdl (by omega)]; exact d3
    have hbl := (List.getElem?_eq_some_iff.1 he).1
    have i0 : 0 < D.length := by omega
    have i1 : 1 < D.length := by omega
    have i2 : 2 < D.length := by omega
    have i3 : 3 < D.length := by omega
    rcases hst with rfl | ⟨oo, rfl⟩ <;> rcases hk with ⟨rfl, hcc⟩ | rfl
    all_goals
      simp only [offX] at hso hsl
      simp (maxDischargeDepth := 9) -implicitDefEqProofs only [push_cast, simprocAttr, M55, nadd1, nadd2, nadd3, nadd4, nadd5, nadd6, nadd7, nadd8, nadd9, nadd10, nadd11, nadd12, hlx, f0, f1, f2, f3, g0, g1, g4, g5, g6, m0, m1, m2, m3, hbl, he, i0, i1, i2, i3, w1, w2, r4, r5, r6, r7, r8, r9, r10, hl48, hcc, hso, hsl, ea, newCells]
      exact quiet_i
  · have ea := fun H => app_nils (H := H) (X := D.drop 48) hz (by omega)
    have key : xbody (W CP) M55 [x] h = some (.tup [.agg [.int .u8 (v0 / 64), .int .u8 (v0 / 8 % 8), .int .u8 (v0 % 8), .int .u8 v1, .int .i8 (IntKind.i8.wrap v2), .int .i8 (IntKind.i8.wrap v3), .int .u32 v4, .int .u32 v5, .int .u32 v6, .int .u64 v7, .int .u64 v8, .int .u64 v9, .int .u64 v10, .nils, .bool false, .int .u32 0, .int .u64 0], .gsl (h.length + 2) 0 (D.length - 48) 1 false, .int .i64 0], h ++ [⟨.tip false, .vals [.int .u8 (v0 / 64), .int .u8 (v0 / 8 % 8), .int .u8 (v0 % 8), .int .u8 v1, .int .i8 (IntKind.i8.wrap v2), .int .i8 (IntKind.i8.wrap v3), .int .u32 v4, .int .u32 v5, .int .u32 v6, .int .u64 v7, .int .u64 v8, .int .u64 v9, .int .u64 v10, .nils, .bool false, .int .u32 0, .int .u64 0]⟩, ⟨.tip false, .vals [.int .u8 (v0 / 64), .int .u8 (v0 / 8 % 8), .int .u8 (v0 % 8), .int .u8 v1, .int .i8 (IntKind.i8.wrap v2), .int .i8 (IntKind.i8.wrap v3), .int .u32 v4, .int .u32 v5, .int .u32 v6, .int .u64 v7, .int .u64 v8, .int .u64 v9, .int .u64 v10, .nils, .bool false, .int .u32 0, .int .u64 0]⟩, ⟨.tip false, .ints .u8 (D.drop 48)⟩], []) := by
      obtain ⟨hB, b, o, c, st, l, he, hst, hol, hdl, hk⟩ := hx
      have m0 : l[o]? = some v0 := by have := sub_at hdl (k := 0) (by omega); rw [Nat.add_zero] at this; rw [this]; exact d0
      have m1 : l[o + 1]? = some v1 := by rw [sub_at hdl (by omega)]; exact d1
      have m2 : l[o + 2]? = some v2 := by rw [sub_at hdl (by omega)]; exact d2
      have m3 : l[o + 3]? = some v3 := by rw [sub_at hdl (by omega)]; exact d3
      have hbl := (List.getElem?_eq_some_iff.1 he).1
      have i0 : 0 < D.length := by omega
      have i1 : 1 < D.length := by omega
      have i2 : 2 < D.length := by omega
      have i3 : 3 < D.length := by omega
      rcases hst with rfl | ⟨oo, rfl⟩ <;> rcases hk with ⟨rfl, hcc⟩ | rfl
      all_goals
        simp only [offX] at hso hsl
        simp (maxDischargeDepth := 9) -implicitDefEqProofs only [push_cast, simprocAttr, M55, nadd1, nadd2, nadd3, nadd4, nadd5, nadd6, nadd7, nadd8, nadd9, nadd10, nadd11, nadd12, hlx, f0, f1, f2, f3, g0, g1, g4, g5, g6, m0, m1, m2, m3, hbl, he, i0, i1, i2, i3, w1, w2, r4, r5, r6, r7, r8, r9, r10, hl48, hcc, hso, hsl, ea, newCells]
    refine ⟨.gsl (h.length + 2) 0 (D.length - 48) 1 false, [⟨.tip false, .vals [.int .u8 (v0 / 64), .int .u8 (v0 / 8 % 8), .int .u8 (v0 % 8), .int .u8 v1, .int .i8 (IntKind.i8.wrap v2), .int .i8 (IntKind.i8.wrap v3), .int .u32 v4, .int .u32 v5, .int .u32 v6, .int .u64 v7, .int .u64 v8, .int .u64 v9, .int .u64 v10, .nils, .bool false, .int .u32 0, .int .u64 0]⟩, ⟨.tip false, .vals [.int .u8 (v0 / 64), .int .u8 (v0 / 8 % 8), .int .u8 (v0 % 8), .int .u8 v1, .int .i8 (IntKind.i8.wrap v2), .int .i8 (IntKind.i8.wrap v3), .int .u32 v4, .int .u32 v5, .int .u32 v6, .int .u64 v7, .int .u64 v8, .int .u64 v9, .int .u64 v10, .nils, .bool false, .int .u32 0, .int .u64 0]⟩, ⟨.tip false, .ints .u8 (D.drop 48)⟩], ?_, Or.inr ⟨h.length + 2, false, false, by rw [List.length_drop], ?_⟩, good_app hg rfl, fun r e => by cases e; omega, Or.inr ⟨_, rfl⟩⟩
    · rw [W_body (m := M55) rfl rfl hx0 key, show (M55).trim = true from rfl, if_pos rfl, trim_addr (by simp [AV.lt, AV.lts])]
    · rw [List.getElem?_append_right (by omega)]; simp
set_option maxHeartbeats 8000000 in
theorem refParse_bad {h : AHeap} {x : AV} {D : List Int} {v0 v1 v2 v3 v4 v5 v6 v7 v8 v9 v10 : Int} (hg : Good h) (hx : Src h x D) (hv : HV D v0 v1 v2 v3 v4 v5 v6 v7 v8 v9 v10) (hD : D.length < 1000000000) (c : ¬ (1 ≤ v0 / 8 % 8 ∧ v0 / 8 % 8 ≤ 4)) : W CP 55 [x] h = some (.tup [.agg [.int .u8 0, .int .u8 0, .int .u8 0, .int .u8 0, .int .i8 0, .int .i8 0, .int .u32 0, .int .u32 0, .int .u32 0, .int .u64 0, .int .u64 0, .int .u64 0, .int .u64 0, .nils, .bool false, .int .u32 0, .int .u64 0], .nils, .int .i64 5], h, []) := by
  have hgt := hv.bounds
  obtain ⟨⟨p0, q0⟩, ⟨p1, q1⟩, ⟨p2, q2⟩, ⟨p3, q3⟩, ⟨p4, q4⟩, ⟨p5, q5⟩, ⟨p6, q6⟩, ⟨p7, q7⟩, ⟨p8, q8⟩, ⟨p9, q9⟩, ⟨p10, q10⟩⟩ := hgt
  have f0 : Int.tdiv v0 64 = v0 / 64 := Int.tdiv_eq_ediv_of_nonneg (by omega)
  have f1 : Int.tdiv v0 8 = v0 / 8 := Int.tdiv_eq_ediv_of_nonneg (by omega)
  have f2 : Int.tmod (v0 / 8) 8 = v0 / 8 % 8 := Int.tmod_eq_emod_of_nonneg (by omega)
  have f3 : Int.tmod v0 8 = v0 % 8 := Int.tmod_eq_emod_of_nonneg (by omega)
  have g0 : IntKind.u8.wrap (v0 / 64) = v0 / 64 := wr_u8 _ (by omega) (by omega)
  have g1 : IntKind.u8.wrap (v0 / 8) = v0 / 8 := wr_u8 _ (by omega) (by omega)
  have g4 : IntKind.u32.wrap v4 = v4 := wr_u32 _ (by omega) (by omega)
  have g5 : IntKind.u32.wrap v5 = v5 := wr_u32 _ (by omega) (by omega)
  have g6 : IntKind.u32.wrap v6 = v6 := wr_u32 _ (by omega) (by omega)
  have hlx : ¬ (D.length : Int) < 48 := by have := hv.l; omega
  have hl48 := hv.l
  obtain ⟨d0, d1, d2, d3⟩ := hv.at
  have hx0 : AV.lts 0 [x] = false := by
    obtain ⟨_, b, o, c, st, l, _, _, _, _, ⟨rfl, _⟩ | rfl⟩ := hx <;> simp [AV.lts, AV.lt]
  refine W_quietP (m := M55) rfl rfl hx0 rfl rfl hg ?_
  obtain ⟨hB, b, o, c, st, l, he, hst, hol, hdl, hk⟩ := hx
  have m0 : l[o]? = some v0 := by have := sub_at hdl (k := 0) (by omega); rw [Nat.add_zero] at this; rw [this]; exact d0
  have m1 : l[o + 1]? = some v1 := by rw [sub_at hdl (by omega)]; exact d1
  have m2 : l[o + 2]? = some v2 := by rw [sub_at hdl (by omega)]; exact d2
  have m3 : l[o + 3]? = some v3 := by rw [sub_at hdl (by omega)]; exact d3
  have hbl := (List.getElem?_eq_some_iff.1 he).1
  have i0 : 0 < D.length := by omega
  have i1 : 1 < D.length := by omega
  have i2 : 2 < D.length := by omega
  have i3 : 3 < D.length := by omega
  rcases hst with rfl | ⟨oo, rfl⟩ <;> rcases hk with ⟨rfl, hcc⟩ | rfl
  all_goals
    by_cases w1 : v0 / 8 % 8 = 0
    · simp (maxDischargeDepth := 9) -implicitDefEqProofs only [push_cast, simprocAttr, M55, nadd1, nadd2, nadd3, nadd4, nadd5, nadd6, nadd7, nadd8, nadd9, nadd10, nadd11, nadd12, hlx, f0, f1, f2, f3, g0, g1, g4, g5, g6, m0, m1, m2, m3, hbl, he, i0, i1, i2, i3, w1]
      exact quiet_i
    · have w2 : 4 < v0 / 8 % 8 := by omega
      simp (maxDischargeDepth := 9) -implicitDefEqProofs only [push_cast, simprocAttr, M55, nadd1, nadd2, nadd3, nadd4, nadd5, nadd6, nadd7, nadd8, nadd9, nadd10, nadd11, nadd12, hlx, f0, f1, f2, f3, g0, g1, g4, g5, g6, m0, m1, m2, m3, hbl, he, i0, i1, i2, i3, w1, w2]
      exact quiet_i
theorem refParse_short {h : AHeap} {x : AV} {n : Nat} (hg : Good h) (hx : slen x = some n) (hn : n < 48) : W CP 55 [x] h = some (.tup [.agg [.int .u8 0, .int .u8 0, .int .u8 0, .int .u8 0, .int .i8 0, .int .i8 0, .int .u32 0, .int .u32 0, .int .u32 0, .int .u64 0, .int .u64 0, .int .u64 0, .int .u64 0, .nils, .bool false, .int .u32 0, .int .u64 0], .nils, .int .i64 4], h, []) := by
  refine W_both (m := M55) (fun _ => True) (fun _ => rfl) rfl rfl rfl gl_good trivial (fun g hg _ => ?_) hg trivial
  have hnx := na_slen hx
  have hl : (n : Int) < 48 := by omega
  simp (maxDischargeDepth := 9) -implicitDefEqProofs only [push_cast, simprocAttr, M55, nadd1, nadd2, nadd3, nadd4, nadd5, nadd6, nadd7, nadd8, nadd9, nadd10, nadd11, nadd12, hnx, hx, hl]
  exact quiet_i
end Go.Proofs.YtdpbbagllhfjbaaDoorW.AI.F
