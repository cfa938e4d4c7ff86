import Derived.Test.YthcjmmngenogmaaAIEskyp
import Derived.Test.YthcjmmngenogmaaAIEsky7
import Derived.Test.YthcjmmngenogmaaAIEspr
import Derived.Test.YthcjmmngenogmaaAIEskyl4
namespace Go.Proofs.YthcjmmngenogmaaW.AI.E
open Go Go.Proofs.YthcjmmngenogmaaW.AI
set_option maxRecDepth 100000
set_option linter.unusedSimpArgs false
set_option linter.unusedVariables false
set_option linter.unusedSectionVars false
theorem rtime_c (t : Int) (h : AHeap) : W CP 62 [.int .i64 t] h = some (.int .i64 (tm t), h, []) := by
  refine W_val (m := M62) (fun _ => rfl) rfl rfl rfl ?_ h
  unfold tm clamp
  by_cases c1 : t < 0
  · rw [if_pos c1]
    simp (maxDischargeDepth := 9) -implicitDefEqProofs only [push_cast, simprocAttr, M62, c1]
  · by_cases c2 : 4503599627370496 < t
    · rw [if_neg c1, if_pos c2]
      simp (maxDischargeDepth := 9) -implicitDefEqProofs only [push_cast, simprocAttr, M62, c1, c2]
    · rw [if_neg c1, if_neg c2]
      simp (maxDischargeDepth := 9) -implicitDefEqProofs only [push_cast, simprocAttr, M62, c1, c2]
/-- The document's sky. -/
structure RfAt (h : AHeap) (p : Nat) (hz fs : Int) (k : Nat) (P : List (Int × Int)) : Prop where
  at' : ∃ q, h[p]? = some ⟨.tip false, .vals [.int .u64 hz, .int .u64 fs, .int .i64 (k : Int), .gsl q 0 P.length 2 false]⟩ ∧ h[q]? = some ⟨.tip false, .ints .i64 (flatP P)⟩
  hz0 : 1 ≤ hz
  hz1 : hz ≤ 1000000000
  fs0 : 0 ≤ fs
  fs1 : fs < 2 ^ k
  k0 : 8 ≤ k
  k1 : k ≤ 64
  ok : Pcs P
theorem BigS.pos {S : Int} {n : Nat} {H : AHeap} {r : AV} (b : BigS S n H r) (h : 0 ≤ S) : ∃ v L, r = .agg [.bool false, v] ∧ UV H v L ∧ val L = S ∧ Can L ∧ L.length ≤ n := by
  obtain ⟨v, L, e, u, q1, q2, q3⟩ := b
  have hn : ¬ S < 0 := by omega
  exact ⟨v, L, by rw [e, decide_eq_false hn], u, by rw [q1]; unfold aN; rw [if_neg hn], q2, q3⟩
theorem BigS.mk' {S : Int} {n : Nat} {H : AHeap} {v : AV} {L : List Int} (h : 0 ≤ S) (u : UV H v L) (q1 : val L = S) (q2 : Can L) (q3 : L.length ≤ n) : BigS S n H (.agg [.bool false, v]) := by
  have hn : ¬ S < 0 := by omega
  exact ⟨v, L, by rw [decide_eq_false hn], u, by rw [q1]; unfold aN; rw [if_neg hn], q2, q3⟩
section
variable {h : AHeap} {p k : Nat} {hz fs : Int} {P : List (Int × Int)}
set_option maxHeartbeats 16000000 in
theorem rticks_c {t : Int} (hg : Good h) (s : RfAt h p hz fs k P) : W CP 21 [.ptr p 0, .int .i64 t] h = some (.int .u64 (tks hz P t), h, []) := by
  have ti := tks_in s.ok s.hz0 s.hz1 t
  obtain ⟨q, b1, b2⟩ := s.at'
  have hz0 := s.hz0
  have hz1 := s.hz1
  have hP := s.ok
  have p64 := hP.le
  have eT := fun g => rtime_c t g
  obtain ⟨t0, t1⟩ := tm_in t
  unfold tks pac at ti ⊢
  obtain ⟨T, hT⟩ : ∃ T, tm t = T := ⟨_, rfl⟩
  rw [hT] at eT t0 t1 ti ⊢
  obtain ⟨n, hn⟩ : ∃ n, P.length = n := ⟨_, rfl⟩
  rw [hn] at b1 p64 ti ⊢
  refine W_quietP (m := M21) rfl rfl (by simp [AV.lts, AV.lt]) rfl rfl hg ?_
  obtain ⟨_, j0, e0, bb0, hG0, _⟩ := Of_c (z := 0) (by decide) (by decide) hg
  obtain ⟨v0, L0, rfl, u0, w0, C0, l0⟩ := BigS.pos (S := 0) bb0 (Int.le_refl _)
  have k0 : Keeps h (h ++ j0) none := keepsG hG0
  obtain ⟨H0, hH0⟩ : ∃ H, h ++ j0 = H := ⟨_, rfl⟩
  rw [hH0] at e0 u0 hG0 k0
  clear hH0 bb0
  have n0 := u0.na
  have i0 := u0.cell
  obtain ⟨Y, hY⟩ : ∃ Y, H0 ++ [ABlk.new (.vals [.bool false, .nils])] = Y := ⟨_, rfl⟩
  have kY : Keeps H0 Y none := by rw [← hY]; exact Keeps.app H0 [⟨.tip false, .vals [.bool false, .nils]⟩] none rfl
  have bY : Y[H0.length]? = some ⟨.tip false, .vals [.bool false, .nils]⟩ := by rw [← hY]; exact end_get4 _ _ _
  have lY := (List.getElem?_eq_some_iff.1 bY).1
  obtain ⟨Z, hZ⟩ : ∃ Z, Y.set H0.length ⟨.tip false, .vals [.bool false, v0]⟩ = Z := ⟨_, rfl⟩
  have kZ : Keeps H0 Z none := by rw [← hZ]; exact keepsS kY (Nat.le_refl _) rfl
  have bZ : Z[H0.length]? = some ⟨.tip false, .vals [.bool false, v0]⟩ := by rw [← hZ]; exact List.getElem?_set_self lY
  have uZ : UV Z v0 L0 := by rw [← hZ]; exact UV.setv bY (u0.keep (keepsN kY))
  have hlo : ¬ H0.length < h.length := by have := k0.2.1; omega
  simp (maxDischargeDepth := 9) -implicitDefEqProofs only [push_cast, simprocAttr, M21, nadd1, nadd2, nadd3, nadd4, nadd5, nadd6, nadd7, nadd8, nadd9, nadd10, nadd11, nadd12, eT, e0, n0, i0, hY, bY, lY, hZ, hlo]
  refine wp_kRes (wp_kSeq (wp_kBlock ?_))
  refine wp_loop (fun kk a h' ws => ∃ (i : Nat) (v : AV) (L : List Int), kk = n - i ∧ i ≤ n ∧ a = [(0, .ptr p 0), (1, .int .i64 T), (5, .ptr H0.length 0), (6, .int .i64 (i : Int))] ∧
      h'[H0.length]? = some ⟨.tip false, .vals [.bool false, v]⟩ ∧ UV h' v L ∧ val L = pacN P T i * hz ∧ Can L ∧ L.length ≤ 8 ∧ Keeps H0 h' none ∧ ws = []) n ?_ ?_
  · refine ⟨0, v0, L0, by omega, by omega, ?_, bZ, uZ, by rw [w0]; simp [pacN], C0, by omega, kZ, rfl⟩
    simp (maxDischargeDepth := 9) -implicitDefEqProofs only [push_cast, simprocAttr]; try rfl
  · rintro kk aa h' ws ⟨i, v, L, rfl, hi, rfl, bS, uv, vL, cL, lL, kh, rfl⟩
    have hgh := kh.2.2 hG0
    have kk0 := keepsT k0 kh
    have d1 := keepsN kk0 _ _ b1
    have d2 := keepsN kk0 _ _ b2
    have d1l := (List.getElem?_eq_some_iff.1 d1).1
    have d2l := (List.getElem?_eq_some_iff.1 d2).1
    have bSl := (List.getElem?_eq_some_iff.1 bS).1
    have nv := uv.na
    have cv := uv.cell
    obtain ⟨s0, s1⟩ := pacN_in hP t0 t1 i
    obtain ⟨R, hR⟩ : ∃ R, pacN P T i = R := ⟨_, rfl⟩
    rw [hR] at vL s0 s1
    have s2 : 0 ≤ R * hz := Int.mul_nonneg s0 (by omega)
    by_cases hlt : i < n
    · have hlt' : (i : Int) < (n : Int) := by omega
      obtain ⟨⟨f, o⟩, hfo⟩ : ∃ z, P[i]? = some z := ⟨_, List.getElem?_eq_getElem (by omega)⟩
      obtain ⟨g1, g2⟩ := flatP_get hfo
      obtain ⟨a1, a2, a3, a4⟩ := hP.rng _ (List.mem_of_getElem? hfo)
      simp only at a1 a2 a3 a4
      obtain ⟨i1, hi1⟩ : ∃ i1, i + 1 = i1 := ⟨_, rfl⟩
      have v1 : IntKind.i64.wrap ((i : Int) + 1) = (i1 : Int) := by rw [wr_i64 _ (by omega) (by omega)]; omega
      obtain ⟨e, he, e2⟩ : ∃ e, (match P[i + 1]? with | some (f', _) => mnS T f' | none => T) = e ∧ e ≤ T := by
        cases P[i + 1]? with
        | none => exact ⟨T, rfl, Int.le_refl _⟩
        | some z => obtain ⟨f', o'⟩ := z; exact ⟨mnS T f', rfl, by unfold mnS; split <;> omega⟩
      have hterm : term P T i = if f < e then (e - f) * (1000000000 + o) else 0 := by
        unfold term
        rw [hfo]
        exact congrArg (fun e : Int => if f < e then (e - f) * (1000000000 + o) else 0) he
      have hnext : pacN P T i1 = R + if f < e then (e - f) * (1000000000 + o) else 0 := by rw [← hi1, pacN, hR, hterm]
      have same : ¬ f < e → val L = pacN P T i1 * hz := fun hfe => by rw [hnext, if_neg hfe, Int.add_zero, vL]
      -- one sum
      have add : f < e → ∃ (x1 x2 x3 x4 x5 x6 : AV) (H1 H2 H3 Y3 H4 H5 H6 H7 H8 : AHeap) (L' : List Int),
          IntKind.i64.wrap (e - f) = e - f ∧ W CP 63 [.int .i64 (e - f)] h' = some (.agg [.bool false, x1], H1, []) ∧ H1[p]? = some ⟨.tip false, .vals [.int .u64 hz, .int .u64 fs, .int .i64 (k : Int), .gsl q 0 n 2 false]⟩ ∧ H1[q]? = some ⟨.tip false, .ints .i64 (flatP P)⟩ ∧ p < H1.length ∧ q < H1.length ∧
          IntKind.i64.wrap (1000000000 + o) = 1000000000 + o ∧ W CP 63 [.int .i64 (1000000000 + o)] H1 = some (.agg [.bool false, x2], H2, []) ∧
          W CP 64 [.agg [.bool false, x1], .agg [.bool false, x2]] H2 = some (.agg [.bool false, x3], H3, []) ∧
          H3 ++ [ABlk.new (.vals [.bool false, .nils])] = Y3 ∧ Y3[H3.length]? = some ⟨.tip false, .vals [.bool false, .nils]⟩ ∧ H3.length < Y3.length ∧ Y3.set H3.length ⟨.tip false, .vals [.bool false, x3]⟩ = H4 ∧
          x1.isCell = true ∧ x2.isCell = true ∧ x3.isCell = true ∧ ¬ H3.length < h.length ∧
          H4[H0.length]? = some ⟨.tip false, .vals [.bool false, v]⟩ ∧ H0.length < H4.length ∧ H4[H3.length]? = some ⟨.tip false, .vals [.bool false, x3]⟩ ∧ H3.length < H4.length ∧ H4[p]? = some ⟨.tip false, .vals [.int .u64 hz, .int .u64 fs, .int .i64 (k : Int), .gsl q 0 n 2 false]⟩ ∧ p < H4.length ∧
          W CP 63 [.int .i64 hz] H4 = some (.agg [.bool false, x4], H5, []) ∧ W CP 64 [.agg [.bool false, x3], .agg [.bool false, x4]] H5 = some (.agg [.bool false, x5], H6, []) ∧
          W CP 65 [.agg [.bool false, v], .agg [.bool false, x5]] H6 = some (.agg [.bool false, x6], H7, []) ∧ x4.isCell = true ∧ x5.isCell = true ∧ x6.isCell = true ∧
          H7[H0.length]? = some ⟨.tip false, .vals [.bool false, v]⟩ ∧ H0.length < H7.length ∧ H7.set H0.length ⟨.tip false, .vals [.bool false, x6]⟩ = H8 ∧
          H8[H0.length]? = some ⟨.tip false, .vals [.bool false, x6]⟩ ∧ UV H8 x6 L' ∧ val L' = pacN P T i1 * hz ∧ Can L' ∧ L'.length ≤ 8 ∧ Keeps H0 H8 none ∧ ¬ H4.length ≤ H0.length ∧ ¬ H4.length ≤ H3.length ∧ ¬ H5.length ≤ H0.length ∧ ¬ H5.length ≤ H3.length := by
        intro hfe
        have hm : (e - f) * (1000000000 + o) ≤ 4503599627370496 * 1000500000 := Int.mul_le_mul (by omega) (by omega) (by omega) (by omega)
        have hm0 : 0 ≤ (e - f) * (1000000000 + o) := Int.mul_nonneg (by omega) (by omega)
        obtain ⟨_, j1, q1, bb1, hG1, _⟩ := Of_c (z := e - f) (by omega) (by omega) hgh
        obtain ⟨x1, L1, rfl, u1, w1, c1, l1⟩ := BigS.pos (S := e - f) bb1 (by omega)
        have k1 : Keeps h' (h' ++ j1) none := keepsG hG1
        obtain ⟨H1, hH1⟩ : ∃ H, h' ++ j1 = H := ⟨_, rfl⟩
        rw [hH1] at q1 u1 hG1 k1
        obtain ⟨_, j2, q2, bb2, hG2, _⟩ := Of_c (z := 1000000000 + o) (by omega) (by omega) hG1
        obtain ⟨x2, L2, rfl, u2, w2, c2, l2⟩ := BigS.pos (S := 1000000000 + o) bb2 (by omega)
        have k2 : Keeps H1 (H1 ++ j2) none := keepsG hG2
        obtain ⟨H2, hH2⟩ : ∃ H, H1 ++ j2 = H := ⟨_, rfl⟩
        rw [hH2] at q2 u2 hG2 k2
        have u1' := u1.keep (keepsN k2)
        obtain ⟨_, j3, q3, bb3, hG3, _⟩ := Times_c hG2 (BigS.mk' (by omega) u1' w1 c1 l1) (BigS.mk' (by omega) u2 w2 c2 l2) (by decide) (by decide)
        obtain ⟨x3, L3, rfl, u3, w3, c3, l3⟩ := BigS.pos bb3 hm0
        have k3 : Keeps H2 (H2 ++ j3) none := keepsG hG3
        obtain ⟨H3, hH3⟩ : ∃ H, H2 ++ j3 = H := ⟨_, rfl⟩
        rw [hH3] at q3 u3 hG3 k3
        obtain ⟨Y3, hY3⟩ : ∃ Y, H3 ++ [ABlk.new (.vals [.bool false, .nils])] = Y := ⟨_, rfl⟩
        have kY3 : Keeps H3 Y3 none := by rw [← hY3]; exact Keeps.app H3 [⟨.tip false, .vals [.bool false, .nils]⟩] none rfl
        have bY3 : Y3[H3.length]? = some ⟨.tip false, .vals [.bool false, .nils]⟩ := by rw [← hY3]; exact end_get4 _ _ _
        have lY3 := (List.getElem?_eq_some_iff.1 bY3).1
        obtain ⟨H4, hH4⟩ : ∃ Z, Y3.set H3.length ⟨.tip false, .vals [.bool false, x3]⟩ = Z := ⟨_, rfl⟩
        have k4 : Keeps H3 H4 none := by rw [← hH4]; exact keepsS kY3 (Nat.le_refl _) rfl
        have b4 : H4[H3.length]? = some ⟨.tip false, .vals [.bool false, x3]⟩ := by rw [← hH4]; exact List.getElem?_set_self lY3
        have u4 : UV H4 x3 L3 := by rw [← hH4]; exact UV.setv bY3 (u3.keep (keepsN kY3))
        have hG4 := k4.2.2 hG3
        have k14 := keepsT k1 (keepsT k2 (keepsT k3 k4))
        obtain ⟨_, j5, q5, bb5, hG5, _⟩ := Of_c (z := hz) (by omega) (by omega) hG4
        obtain ⟨x4, L5, rfl, u5, w5, c5, l5⟩ := BigS.pos (S := hz) bb5 (by omega)
        have k5 : Keeps H4 (H4 ++ j5) none := keepsG hG5
        obtain ⟨H5, hH5⟩ : ∃ H, H4 ++ j5 = H := ⟨_, rfl⟩
        rw [hH5] at q5 u5 hG5 k5
        obtain ⟨_, j6, q6, bb6, hG6, _⟩ := Times_c hG5 (BigS.mk' hm0 (u4.keep (keepsN k5)) w3 c3 l3) (BigS.mk' (by omega) u5 w5 c5 l5) (by decide) (by decide)
        have hmz : 0 ≤ (e - f) * (1000000000 + o) * hz := Int.mul_nonneg hm0 (by omega)
        obtain ⟨x5, L6, rfl, u6, w6, c6, l6⟩ := BigS.pos bb6 hmz
        have k6 : Keeps H5 (H5 ++ j6) none := keepsG hG6
        obtain ⟨H6, hH6⟩ : ∃ H, H5 ++ j6 = H := ⟨_, rfl⟩
        rw [hH6] at q6 u6 hG6 k6
        have k16 := keepsT k14 (keepsT k5 k6)
        obtain ⟨_, j7, q7, bb7, hG7, _⟩ := Plus_c hG6 (BigS.mk' s2 (uv.keep (keepsN k16)) vL cL lL) (BigS.mk' hmz u6 w6 c6 l6) (by decide) (by decide)
        have hsum : pacN P T i1 * hz = R * hz + (e - f) * (1000000000 + o) * hz := by rw [hnext, if_pos hfe, Int.add_mul]
        have hfit : aN (R * hz + (e - f) * (1000000000 + o) * hz) < 65536 ^ 8 := by
          unfold aN
          rw [if_neg (by omega)]
          have m1 : R * hz ≤ 64 * (4503599627370496 * 1000500000) * 1000000000 := Int.mul_le_mul (by omega) hz1 (by omega) (by omega)
          have m2 : (e - f) * (1000000000 + o) * hz ≤ 4503599627370496 * 1000500000 * 1000000000 := Int.mul_le_mul hm hz1 (by omega) (by omega)
          have e8 : (65536 : Int) ^ 8 = 340282366920938463463374607431768211456 := by decide
          rw [e8]
          omega
        obtain ⟨x6, L7, rfl, u7, w7, c7, l7⟩ := BigS.pos (bb7.fit hfit) (by omega)
        have k7 : Keeps H6 (H6 ++ j7) none := keepsG hG7
        obtain ⟨H7, hH7⟩ : ∃ H, H6 ++ j7 = H := ⟨_, rfl⟩
        rw [hH7] at q7 u7 hG7 k7
        have k17 := keepsT k16 k7
        have b7 := keepsN k17 _ _ bS
        have l7' := (List.getElem?_eq_some_iff.1 b7).1
        have m1 := k1.2.1
        have m4 := k14.2.1
        have m5 := k5.2.1
        have m4' := (List.getElem?_eq_some_iff.1 b4).1
        have m0 := k0.2.1
        have m0' := (keepsT k1 (keepsT k2 k3)).2.1
        refine ⟨x1, x2, x3, x4, x5, x6, H1, H2, H3, Y3, H4, H5, H6, H7, _, L7, wr_i64 _ (by omega) (by omega), q1, keepsN k1 _ _ d1, keepsN k1 _ _ d2, by omega, by omega, wr_i64 _ (by omega) (by omega), q2, q3, hY3, bY3, lY3, hH4, u1.cell, u2.cell, u3.cell, by omega,
          keepsN k14 _ _ bS, by omega, b4, by omega, keepsN k14 _ _ d1, by omega, q5, q6, q7, u5.cell, u6.cell, u7.cell, b7, l7', rfl, List.getElem?_set_self l7', UV.setv b7 u7, by rw [hsum]; exact w7, c7, l7, keepsS (keepsT kh k17) (Nat.le_refl _) rfl, by omega, by omega, by omega, by omega⟩
      have hn1 : ¬ h'.length ≤ p := by omega
      have hn2 : ¬ h'.length ≤ q := by omega
      have hh0 : ¬ H0.length < h.length := hlo
      have w4 : IntKind.i64.wrap hz = hz := wr_i64 _ (by omega) (by omega)
      by_cases hnx : i1 < n
      · have hnx' : (i1 : Int) < (n : Int) := by omega
        obtain ⟨⟨f', o'⟩, hfo'⟩ : ∃ z, P[i1]? = some z := ⟨_, List.getElem?_eq_getElem (by omega)⟩
        obtain ⟨g3, g4⟩ := flatP_get hfo'
        rw [hi1, hfo'] at he
        have he : (if f' < T then f' else T) = e := he
        by_cases hmin : f' < T
        · rw [if_pos hmin] at he
          subst he
          by_cases hfe : f < f'
          · have hfe' : ¬ f' ≤ f := by omega
            obtain ⟨x1, x2, x3, x4, x5, x6, H1, H2, H3, Y3, H4, H5, H6, H7, H8, L', A1, A2, A3, A4, A5, A6, A7, A8, A9, B1, B2, B3, B4, B5, B6, B7, B8, B9, C1, C2, C3, C4, C5, C6, C7, C8, C9, D1, D2, D3, D4, D5, D6, D7, D8, D9, E1, E2, E3, E4, E5, E6⟩ := add hfe
            simp (maxDischargeDepth := 9) -implicitDefEqProofs only [push_cast, simprocAttr, nadd1, nadd2, nadd3, nadd4, nadd5, nadd6, nadd7, nadd8, nadd9, nadd10, nadd11, nadd12, hlt, hlt', v1, d1, d2, d1l, d2l, g1, g2, hnx', hnx, g3, hmin, hfe', A1, A2, A3, A4, A5, A6, A7, A8, A9, B1, B2, B3, B4, B5, B6, B7, B8, B9, C1, C2, C3, C4, C5, C6, C7, C8, C9, D1, D2, D3, D4, D5, E3, E4, E5, E6, hn1, hn2, hh0, w4, bS, bSl, decide_false, Bool.not_false, Bool.and_true, Nat.zero_add]
            refine loop_next (n - i1) (by omega) ⟨i1, x6, L', rfl, by omega, ?_, D6, D7, D8, D9, E1, E2, rfl⟩
            simp (maxDischargeDepth := 9) -implicitDefEqProofs only [push_cast, simprocAttr]; try simp
          · have hfe' : f' ≤ f := by omega
            have := same hfe
            simp (maxDischargeDepth := 9) -implicitDefEqProofs only [push_cast, simprocAttr, nadd1, nadd2, nadd3, nadd4, nadd5, nadd6, nadd7, nadd8, nadd9, nadd10, nadd11, nadd12, hlt, hlt', v1, d1, d2, d1l, d2l, g1, g2, hnx', hnx, g3, hmin, hfe', Nat.zero_add]
            refine loop_next (n - i1) (by omega) ⟨i1, v, L, rfl, by omega, ?_, bS, uv, this, cL, lL, kh, rfl⟩
            simp (maxDischargeDepth := 9) -implicitDefEqProofs only [push_cast, simprocAttr]; try simp
        · rw [if_neg hmin] at he
          subst he
          by_cases hfe : f < T
          · have hfe' : ¬ T ≤ f := by omega
            obtain ⟨x1, x2, x3, x4, x5, x6, H1, H2, H3, Y3, H4, H5, H6, H7, H8, L', A1, A2, A3, A4, A5, A6, A7, A8, A9, B1, B2, B3, B4, B5, B6, B7, B8, B9, C1, C2, C3, C4, C5, C6, C7, C8, C9, D1, D2, D3, D4, D5, D6, D7, D8, D9, E1, E2, E3, E4, E5, E6⟩ := add hfe
            simp (maxDischargeDepth := 9) -implicitDefEqProofs only [push_cast, simprocAttr, nadd1, nadd2, nadd3, nadd4, nadd5, nadd6, nadd7, nadd8, nadd9, nadd10, nadd11, nadd12, hlt, hlt', v1, d1, d2, d1l, d2l, g1, g2, hnx', hnx, g3, hmin, hfe', A1, A2, A3, A4, A5, A6, A7, A8, A9, B1, B2, B3, B4, B5, B6, B7, B8, B9, C1, C2, C3, C4, C5, C6, C7, C8, C9, D1, D2, D3, D4, D5, E3, E4, E5, E6, hn1, hn2, hh0, w4, bS, bSl, decide_false, Bool.not_false, Bool.and_true, Nat.zero_add]
            refine loop_next (n - i1) (by omega) ⟨i1, x6, L', rfl, by omega, ?_, D6, D7, D8, D9, E1, E2, rfl⟩
            simp (maxDischargeDepth := 9) -implicitDefEqProofs only [push_cast, simprocAttr]; try simp
          · have hfe' : T ≤ f := by omega
            have := same hfe
            simp (maxDischargeDepth := 9) -implicitDefEqProofs only [push_cast, simprocAttr, nadd1, nadd2, nadd3, nadd4, nadd5, nadd6, nadd7, nadd8, nadd9, nadd10, nadd11, nadd12, hlt, hlt', v1, d1, d2, d1l, d2l, g1, g2, hnx', hnx, g3, hmin, hfe', Nat.zero_add]
            refine loop_next (n - i1) (by omega) ⟨i1, v, L, rfl, by omega, ?_, bS, uv, this, cL, lL, kh, rfl⟩
            simp (maxDischargeDepth := 9) -implicitDefEqProofs only [push_cast, simprocAttr]; try simp
      · have hnx' : ¬ (i1 : Int) < (n : Int) := by omega
        rw [List.getElem?_eq_none (by omega)] at he
        have he : T = e := he
        subst he
        by_cases hfe : f < T
        · have hfe' : ¬ T ≤ f := by omega
          obtain ⟨x1, x2, x3, x4, x5, x6, H1, H2, H3, Y3, H4, H5, H6, H7, H8, L', A1, A2, A3, A4, A5, A6, A7, A8, A9, B1, B2, B3, B4, B5, B6, B7, B8, B9, C1, C2, C3, C4, C5, C6, C7, C8, C9, D1, D2, D3, D4, D5, D6, D7, D8, D9, E1, E2, E3, E4, E5, E6⟩ := add hfe
          simp (maxDischargeDepth := 9) -implicitDefEqProofs only [push_cast, simprocAttr, nadd1, nadd2, nadd3, nadd4, nadd5, nadd6, nadd7, nadd8, nadd9, nadd10, nadd11, nadd12, hlt, hlt', v1, d1, d2, d1l, d2l, g1, g2, hnx', hfe', A1, A2, A3, A4, A5, A6, A7, A8, A9, B1, B2, B3, B4, B5, B6, B7, B8, B9, C1, C2, C3, C4, C5, C6, C7, C8, C9, D1, D2, D3, D4, D5, E3, E4, E5, E6, hn1, hn2, hh0, w4, bS, bSl, decide_false, Bool.not_false, Bool.and_true, Nat.zero_add]
          refine loop_next (n - i1) (by omega) ⟨i1, x6, L', rfl, by omega, ?_, D6, D7, D8, D9, E1, E2, rfl⟩
          simp (maxDischargeDepth := 9) -implicitDefEqProofs only [push_cast, simprocAttr]; try simp
        · have hfe' : T ≤ f := by omega
          have := same hfe
          simp (maxDischargeDepth := 9) -implicitDefEqProofs only [push_cast, simprocAttr, nadd1, nadd2, nadd3, nadd4, nadd5, nadd6, nadd7, nadd8, nadd9, nadd10, nadd11, nadd12, hlt, hlt', v1, d1, d2, d1l, d2l, g1, g2, hnx', hfe', Nat.zero_add]
          refine loop_next (n - i1) (by omega) ⟨i1, v, L, rfl, by omega, ?_, bS, uv, this, cL, lL, kh, rfl⟩
          simp (maxDischargeDepth := 9) -implicitDefEqProofs only [push_cast, simprocAttr]; try simp
    · have hi2 : i = n := by omega
      subst hi2
      have hnl : ¬ (i : Int) < (i : Int) := by omega
      rw [hR] at ti ⊢
      obtain ⟨_, j1, q1, bb1, hG1, _⟩ := Of_c (z := 1000000000000000000) (by decide) (by decide) hgh
      obtain ⟨x1, L1, rfl, u1, w1, c1, l1⟩ := BigS.pos (S := 1000000000000000000) bb1 (by decide)
      have k1 : Keeps h' (h' ++ j1) none := keepsG hG1
      obtain ⟨H1, hH1⟩ : ∃ H, h' ++ j1 = H := ⟨_, rfl⟩
      rw [hH1] at q1 u1 hG1 k1
      obtain ⟨_, j2, q2, ⟨Qv, Q, tv, Tt, rfl, uq, ut, wq, wt, CQ, CT, lQ, lT⟩, hG2, _⟩ := Over_c hG1 (uv.keep (keepsN k1)) u1 c1 (by rw [w1]; decide) (by omega) (by omega)
      rw [vL, w1] at wq
      have k2 : Keeps H1 (H1 ++ j2) none := keepsG hG2
      obtain ⟨H2, hH2⟩ : ∃ H, H1 ++ j2 = H := ⟨_, rfl⟩
      rw [hH2] at q2 uq ut hG2 k2
      have eI := Int_c (s := false) hG2 uq (by omega)
      rw [wq] at eI
      obtain ⟨V, hV⟩ : ∃ V, R * hz / 1000000000000000000 = V := ⟨_, rfl⟩
      rw [hV] at eI ti ⊢
      have eR : intR false V = true := by simp [intR]; omega
      have eZ : intZ false V = V := intZ_ok ti.1 eR
      rw [eR, eZ] at eI
      have wV : IntKind.u64.wrap V = V := wr_u64 _ (by omega) (by omega)
      have n1 := u1.na
      have i1 := u1.cell
      have nq := uq.na
      have nt := ut.na
      have hn3 : ¬ h'.length ≤ H0.length := by omega
      obtain ⟨js, hj⟩ := (keepsT kk0 (keepsT k1 k2)).behind
      rcases uq.shape with rfl | ⟨_, _, _, rfl⟩ | ⟨_, _, _, rfl⟩
      all_goals
        simp (maxDischargeDepth := 9) -implicitDefEqProofs only [push_cast, simprocAttr, nadd1, nadd2, nadd3, nadd4, nadd5, nadd6, nadd7, nadd8, nadd9, nadd10, nadd11, nadd12, d1, d1l, hnl, bS, bSl, nv, cv, q1, n1, i1, q2, nq, nt, eI, wV, hn3, decide_false, Bool.not_false, Bool.and_true]
        exact ⟨rfl, ⟨js, hj⟩, rfl⟩
end
end Go.Proofs.YthcjmmngenogmaaW.AI.E
namespace Go.Proofs.YthcjmmngenogmaaW.AI.E
open Go Go.Proofs.YthcjmmngenogmaaW.AI
set_option maxRecDepth 100000
set_option linter.unusedSimpArgs false
set_option linter.unusedVariables false
set_option linter.unusedSectionVars false
-- ------------------------------------------------------------------ numbers
theorem mkOf_eq : ∀ k : Nat, k ≤ 64 → mkOf k = 2 ^ k - 1 := by
  have : ∀ k : Fin 65, mkOf k.1 = 2 ^ k.1 - 1 := by decide
  exact fun k hk => this ⟨k, by omega⟩
theorem and_mod {x : Int} {k : Nat} (hk : k ≤ 64) (h0 : 0 ≤ x) (h1 : x < 18446744073709551616) : abits .and .u64 x (mkOf k) = x % 2 ^ k := by
  obtain ⟨n, rfl⟩ : ∃ n : Nat, x = (n : Int) := ⟨x.toNat, by omega⟩
  have hn : n < 2 ^ 64 := by omega
  have hp : 1 ≤ 2 ^ k := Nat.one_le_two_pow
  have hm : mkOf k = ((2 ^ k - 1 : Nat) : Int) := by rw [mkOf_eq k hk]; push_cast [hp]; try rfl
  have hle : (2 : Nat) ^ k ≤ 2 ^ 64 := Nat.pow_le_pow_right (by decide) hk
  have e : abits .and .u64 (n : Int) (mkOf k) = IntKind.u64.wrap ((BitVec.ofInt 64 (n : Int) &&& BitVec.ofInt 64 (mkOf k)).toNat : Int) := rfl
  rw [e, hm, BitVec.ofInt_natCast, BitVec.ofInt_natCast, BitVec.toNat_and, BitVec.toNat_ofNat, BitVec.toNat_ofNat, Nat.mod_eq_of_lt hn, Nat.mod_eq_of_lt (show 2 ^ k - 1 < 2 ^ 64 by omega), Nat.and_two_pow_sub_one_eq_mod]
  have hlt := Nat.mod_lt n (show 2 ^ k > 0 by omega)
  rw [wr_u64 _ (by omega) (by omega)]
  try push_cast
  try rfl
section
variable {h : AHeap} {p k : Nat} {hz fs : Int} {P : List (Int × Int)}
theorem rread_c {t : Int} (hg : Good h) (s : RfAt h p hz fs k P) : W CP 23 [.ptr p 0, .int .i64 t] h = some (.int .u64 (rdV fs (mkOf k) (tks hz P t)), h, []) := by
  have eT := rticks_c (t := t) hg s
  obtain ⟨q, b1, b2⟩ := s.at'
  have l1 := (List.getElem?_eq_some_iff.1 b1).1
  have k0 := s.k0
  have k1 := s.k1
  have hn : ¬ h.length ≤ p := by omega
  unfold rdV
  rw [and_mod k1 (by have := IntKind.u64.wrap (fs + tks hz P t); rw [wrapu64]; omega) (by rw [wrapu64]; omega)]
  obtain ⟨N, hN⟩ : ∃ N, IntKind.u64.wrap (fs + tks hz P t) = N := ⟨_, rfl⟩
  have hN0 : 0 ≤ N ∧ N < 18446744073709551616 := by rw [← hN, wrapu64]; omega
  rw [hN]
  refine W_quietP (m := M23) rfl rfl (by simp [AV.lts, AV.lt]) rfl rfl hg ?_
  by_cases h64 : k = 64
  · subst h64
    have e64 : (2 : Int) ^ 64 = 18446744073709551616 := by decide
    have e : N % 2 ^ 64 = N := Int.emod_eq_of_lt hN0.1 (by rw [e64]; exact hN0.2)
    rw [e]
    simp (maxDischargeDepth := 9) -implicitDefEqProofs only [push_cast, simprocAttr, M23, b1, l1, eT, hN, hn, decide_false, Bool.not_false, Bool.and_true]
    exact quietB
  · have c64 : ¬ (k : Int) = 64 := by omega
    simp (maxDischargeDepth := 9) -implicitDefEqProofs only [push_cast, simprocAttr, M23, b1, l1, eT, hN, c64, hn, decide_false, Bool.not_false, Bool.and_true]
    refine wp_kRes (wp_kSeq (wp_kBlock ?_))
    refine wp_loop (fun kk x h' ws => ∃ (i : Nat) (S : Int), kk = k - i ∧ i ≤ k ∧ x = [(0, .ptr p 0), (5, .int .u64 N), (6, .int .u64 S), (7, .int .i64 (i : Int))] ∧ S = 2 ^ i ∧ h' = h ∧ ws = []) k ?_ ?_
    · refine ⟨0, 1, by omega, by omega, ?_, rfl, rfl, rfl⟩
      simp (maxDischargeDepth := 9) -implicitDefEqProofs only [push_cast, simprocAttr]; try rfl
    · rintro kk aa h' ws ⟨i, S, rfl, hi, rfl, hS, hh, rfl⟩
      obtain rfl : h = h' := hh.symm
      have v1 : IntKind.i64.wrap ((i : Int) + 1) = (i : Int) + 1 := wr_i64 _ (by omega) (by omega)
      have hS0 : 0 < S := by rw [hS]; exact Int.pow_pos (by decide)
      by_cases hlt : i < k
      · have hlt' : (i : Int) < (k : Int) := by omega
        have hS2 : S * 2 = 2 ^ (i + 1) := by rw [hS, Int.pow_succ]
        have hb : S * 2 ≤ 2 ^ 63 := by
          rw [hS2]
          exact_mod_cast Nat.pow_le_pow_right (n := 2) (by decide) (show i + 1 ≤ 63 by omega)
        have e63 : (2 : Int) ^ 63 = 9223372036854775808 := by decide
        have w2 : IntKind.u64.wrap (S * 2) = S * 2 := wr_u64 _ (by omega) (by omega)
        simp (maxDischargeDepth := 9) -implicitDefEqProofs only [push_cast, simprocAttr, b1, l1, hlt', v1, w2]
        refine loop_next (k - (i + 1)) (by omega) ⟨i + 1, S * 2, rfl, by omega, ?_, hS2, rfl, rfl⟩
        simp (maxDischargeDepth := 9) -implicitDefEqProofs only [push_cast, simprocAttr]; try simp
      · have hi2 : i = k := by omega
        subst hi2
        have hnl : ¬ (i : Int) < (i : Int) := by omega
        have hne : ¬ S = 0 := by omega
        have hmd : N.tmod S = N % S := Int.tmod_eq_emod_of_nonneg hN0.1
        rw [← hS]
        simp (maxDischargeDepth := 9) -implicitDefEqProofs only [push_cast, simprocAttr, b1, l1, hnl, hne, hmd]
        exact quietB
theorem rraw_c {t : Int} (hg : Good h) (s : RfAt h p hz fs k P) : W CP 24 [.ptr p 0, .int .i64 t] h = some (.int .i64 (rawV hz P t), h, []) := by
  have eT := rticks_c (t := t) hg s
  obtain ⟨q, b1, b2⟩ := s.at'
  have l1 := (List.getElem?_eq_some_iff.1 b1).1
  have z0 := s.hz0
  have z1 := s.hz1
  obtain ⟨n0, _, n2⟩ := tks_in s.ok z0 z1 t
  obtain ⟨r0, r1⟩ := raw_in s.ok z0 z1 t
  unfold rawV at r0 r1 ⊢
  obtain ⟨N, hN⟩ : ∃ N, tks hz P t = N := ⟨_, rfl⟩
  rw [hN] at eT n0 n2 r0 r1 ⊢
  have w1 : IntKind.i64.wrap N = N := wr_i64 _ (by omega) (by omega)
  have w2 : IntKind.i64.wrap hz = hz := wr_i64 _ (by omega) (by omega)
  have em := ref_MulDiv (a := N) (b := 1000000000) (c := hz) (up := false) hg ⟨by omega, by omega⟩ ⟨by decide, by decide⟩ ⟨by omega, by omega⟩
  have hq : qres (mdv false N 1000000000 hz) = .tup [.int .i64 (N * 1000000000 / hz), .int .i64 0] := by
    have e : mdv false N 1000000000 hz = N * 1000000000 / hz := rfl
    rw [e]
    unfold qres
    rw [if_pos ⟨by omega, by omega⟩]
  rw [hq] at em
  obtain ⟨V, hV⟩ : ∃ V, N * 1000000000 / hz = V := ⟨_, rfl⟩
  rw [hV] at em ⊢
  have hn : ¬ h.length ≤ p := by omega
  refine W_quiet0 (m := M24) rfl rfl (by simp [AV.lts, AV.lt]) rfl rfl hg ?_
  simp (maxDischargeDepth := 9) -implicitDefEqProofs only [push_cast, simprocAttr, M24, eT, b1, l1, w1, w2, em, hn, decide_false, Bool.not_false, Bool.and_true]
/-- The last piece's that is not behind T. -/
def lastO (T : Int) (P : List (Int × Int)) (d : Int) : Int := P.foldl (fun d p => if p.1 ≤ T then p.2 else d) d
theorem lastO_late {T : Int} : ∀ {P : List (Int × Int)} {x d : Int}, IncL P → (∀ f, hd P = some f → x < f) → T < x → lastO T P d = d
  | [], _, _, _, _, _ => rfl
  | (f, o) :: P, x, d, hI, hx, hT => by
    have hf := hx f rfl
    unfold lastO
    rw [List.foldl_cons, if_neg (by simp only; omega)]
    exact lastO_late (x := f) hI.2 hI.1 (by omega)
theorem lastO_off {T : Int} : ∀ {P : List (Int × Int)} {d : Int}, IncL P → lastO T P d = offF T P d
  | [], _, _ => rfl
  | (f, o) :: P, d, hI => by
    by_cases hf : T < f
    · have e : offF T ((f, o) :: P) d = d := by simp only [offF]; rw [if_pos hf]
      rw [e]
      unfold lastO
      rw [List.foldl_cons, if_neg (by simp only; omega)]
      exact lastO_late hI.2 hI.1 hf
    · have e : offF T ((f, o) :: P) d = offF T P o := by simp only [offF]; rw [if_neg hf]
      rw [e]
      unfold lastO
      rw [List.foldl_cons, if_pos (by simp only; omega)]
      exact lastO_off hI.2
theorem roff_c {t : Int} (hg : Good h) (s : RfAt h p hz fs k P) : W CP 26 [.ptr p 0, .int .i64 t] h = some (.int .i64 (offF (tm t) P 0), h, []) := by
  rw [← lastO_off (incL_of s.ok.inc)]
  obtain ⟨q, b1, b2⟩ := s.at'
  have l1 := (List.getElem?_eq_some_iff.1 b1).1
  have l2 := (List.getElem?_eq_some_iff.1 b2).1
  have p64 := s.ok.le
  have eT := fun g => rtime_c t g
  obtain ⟨T, hT⟩ : ∃ T, tm t = T := ⟨_, rfl⟩
  rw [hT] at eT ⊢
  obtain ⟨n, hn⟩ : ∃ n, P.length = n := ⟨_, rfl⟩
  rw [hn] at b1 p64
  have hn1 : ¬ h.length ≤ p := by omega
  have hn2 : ¬ h.length ≤ q := by omega
  refine W_quietP (m := M26) rfl rfl (by simp [AV.lts, AV.lt]) rfl rfl hg ?_
  simp (maxDischargeDepth := 9) -implicitDefEqProofs only [push_cast, simprocAttr, M26]
  refine wp_kRes (wp_kSeq (wp_kBlock ?_))
  refine wp_loop (fun kk x h' ws => ∃ (i : Nat) (S : Int), kk = n - i ∧ i ≤ n ∧ x = [(0, .ptr p 0), (1, .int .i64 t), (5, .int .i64 S), (6, .int .i64 (i : Int))] ∧ S = lastO T (P.take i) 0 ∧ h' = h ∧ ws = []) n ?_ ?_
  · refine ⟨0, 0, by omega, by omega, ?_, rfl, rfl, rfl⟩
    simp (maxDischargeDepth := 9) -implicitDefEqProofs only [push_cast, simprocAttr]; try rfl
  · rintro kk aa h' ws ⟨i, S, rfl, hi, rfl, hS, hh, rfl⟩
    obtain rfl : h = h' := hh.symm
    have v1 : IntKind.i64.wrap ((i : Int) + 1) = (i : Int) + 1 := wr_i64 _ (by omega) (by omega)
    by_cases hlt : i < n
    · have hlt' : (i : Int) < (n : Int) := by omega
      obtain ⟨⟨f, o⟩, hfo⟩ : ∃ z, P[i]? = some z := ⟨_, List.getElem?_eq_getElem (by omega)⟩
      obtain ⟨g1, g2⟩ := flatP_get hfo
      have hnx : lastO T (P.take (i + 1)) 0 = if f ≤ T then o else S := by
        unfold lastO at hS ⊢
        rw [List.take_add_one, hfo, List.foldl_append, ← hS]
        rfl
      by_cases c : f ≤ T
      · rw [if_pos c] at hnx
        simp (maxDischargeDepth := 9) -implicitDefEqProofs only [push_cast, simprocAttr, b1, l1, b2, l2, hlt, hlt', v1, eT, g1, g2, c, hn1, hn2, decide_false, Bool.not_false, Bool.and_true, Nat.zero_add]
        refine loop_next (n - (i + 1)) (by omega) ⟨i + 1, o, rfl, by omega, ?_, hnx.symm, rfl, rfl⟩
        simp (maxDischargeDepth := 9) -implicitDefEqProofs only [push_cast, simprocAttr]; try simp
      · rw [if_neg c] at hnx
        simp (maxDischargeDepth := 9) -implicitDefEqProofs only [push_cast, simprocAttr, b1, l1, b2, l2, hlt, hlt', v1, eT, g1, g2, c, hn1, hn2, decide_false, Bool.not_false, Bool.and_true, Nat.zero_add]
        refine loop_next (n - (i + 1)) (by omega) ⟨i + 1, S, rfl, by omega, ?_, hnx.symm, rfl, rfl⟩
        simp (maxDischargeDepth := 9) -implicitDefEqProofs only [push_cast, simprocAttr]; try simp
    · have hi2 : i = n := by omega
      subst hi2
      have hnl : ¬ (i : Int) < (i : Int) := by omega
      rw [← hn, List.take_length] at hS
      rw [← hS]
      simp (maxDischargeDepth := 9) -implicitDefEqProofs only [push_cast, simprocAttr, b1, l1, hnl]
      exact quietB
theorem rabs_c {o : Int} (h0 : -500000 ≤ o) (h1 : o ≤ 500000) (h : AHeap) : W CP 70 [.int .i64 o] h = some (.int .i64 (o.natAbs : Int), h, []) := by
  refine W_val (m := M70) (fun _ => rfl) rfl rfl rfl ?_ h
  have c1 : ¬ o = -9223372036854775808 := by omega
  by_cases c2 : o < 0
  · have w : IntKind.i64.wrap (0 - o) = (o.natAbs : Int) := by rw [wr_i64 _ (by omega) (by omega)]; omega
    simp (maxDischargeDepth := 9) -implicitDefEqProofs only [push_cast, simprocAttr, M70, c1, c2, w]
  · have w : (o.natAbs : Int) = o := by omega
    rw [w]
    simp (maxDischargeDepth := 9) -implicitDefEqProofs only [push_cast, simprocAttr, M70, c1, c2]
theorem rworst_c (hg : Good h) (s : RfAt h p hz fs k P) : W CP 28 [.ptr p 0] h = some (.int .i64 (wst P), h, []) := by
  obtain ⟨q, b1, b2⟩ := s.at'
  have hP := s.ok
  have l1 := (List.getElem?_eq_some_iff.1 b1).1
  have l2 := (List.getElem?_eq_some_iff.1 b2).1
  have p64 := s.ok.le
  obtain ⟨n, hn⟩ : ∃ n, P.length = n := ⟨_, rfl⟩
  rw [hn] at b1 p64
  refine W_quietP (m := M28) rfl rfl (by simp [AV.lts, AV.lt]) rfl rfl hg ?_
  simp (maxDischargeDepth := 9) -implicitDefEqProofs only [push_cast, simprocAttr, M28]
  refine wp_kRes (wp_kSeq (wp_kBlock ?_))
  refine wp_loop (fun kk x h' ws => ∃ (i : Nat) (S : Int), kk = n - i ∧ i ≤ n ∧ x = [(0, .ptr p 0), (3, .int .i64 S), (4, .int .i64 (i : Int))] ∧ S = wst (P.take i) ∧ h' = h ∧ ws = []) n ?_ ?_
  · refine ⟨0, 0, by omega, by omega, ?_, rfl, rfl, rfl⟩
    simp (maxDischargeDepth := 9) -implicitDefEqProofs only [push_cast, simprocAttr]; try rfl
  · rintro kk aa h' ws ⟨i, S, rfl, hi, rfl, hS, hh, rfl⟩
    obtain rfl : h = h' := hh.symm
    have v1 : IntKind.i64.wrap ((i : Int) + 1) = (i : Int) + 1 := wr_i64 _ (by omega) (by omega)
    by_cases hlt : i < n
    · have hlt' : (i : Int) < (n : Int) := by omega
      obtain ⟨⟨f, o⟩, hfo⟩ : ∃ z, P[i]? = some z := ⟨_, List.getElem?_eq_getElem (by omega)⟩
      obtain ⟨g1, g2⟩ := flatP_get hfo
      have hr := hP.rng _ (List.mem_of_getElem? hfo)
      simp only at hr
      have eA := fun g => rabs_c (o := o) (by omega) (by omega) g
      obtain ⟨A, hA⟩ : ∃ A, (o.natAbs : Int) = A := ⟨_, rfl⟩
      have hnx : wst (P.take (i + 1)) = if S < A then A else S := by
        rw [List.take_add_one, hfo]
        simp only [Option.toList]
        rw [wst_snoc, ← hS, hA]
      rw [hA] at eA
      by_cases c : S < A
      · rw [if_pos c] at hnx
        simp (maxDischargeDepth := 9) -implicitDefEqProofs only [push_cast, simprocAttr, b1, l1, b2, l2, hlt, hlt', v1, eA, g1, g2, c]
        refine loop_next (n - (i + 1)) (by omega) ⟨i + 1, A, rfl, by omega, ?_, hnx.symm, rfl, rfl⟩
        simp (maxDischargeDepth := 9) -implicitDefEqProofs only [push_cast, simprocAttr]; try simp
      · rw [if_neg c] at hnx
        simp (maxDischargeDepth := 9) -implicitDefEqProofs only [push_cast, simprocAttr, b1, l1, b2, l2, hlt, hlt', v1, eA, g1, g2, c]
        refine loop_next (n - (i + 1)) (by omega) ⟨i + 1, S, rfl, by omega, ?_, hnx.symm, rfl, rfl⟩
        simp (maxDischargeDepth := 9) -implicitDefEqProofs only [push_cast, simprocAttr]; try simp
    · have hi2 : i = n := by omega
      subst hi2
      have hnl : ¬ (i : Int) < (i : Int) := by omega
      rw [← hn, List.take_length] at hS
      rw [← hS]
      simp (maxDischargeDepth := 9) -implicitDefEqProofs only [push_cast, simprocAttr, b1, l1, hnl]
      exact quietB
theorem rwhen_no {n : Int} (hg : Good h) (s : RfAt h p hz fs k P) (hn : tks hz P 4503599627370496 < n) : W CP 22 [.ptr p 0, .int .u64 n] h = some (.tup [.int .i64 0, .bool false], h, []) := by
  have eT := rticks_c (t := 4503599627370496) hg s
  refine W_quietP (m := M22) rfl rfl (by simp [AV.lts, AV.lt]) rfl rfl hg ?_
  simp (maxDischargeDepth := 9) -implicitDefEqProofs only [push_cast, simprocAttr, M22, eT, hn]
  exact quietB
theorem rwhen_is {n : Int} {r : Nat} (hg : Good h) (s : RfAt h p hz fs k P) (hn : ¬ tks hz P 4503599627370496 < n) (r0 : (r : Int) ≤ 4503599627370496) (r1 : ∀ k : Int, 0 ≤ k → k < r → tks hz P k < n) (r2 : n ≤ tks hz P (r : Int)) :
    W CP 22 [.ptr p 0, .int .u64 n] h = some (.tup [.int .i64 (r : Int), .bool true], h, []) := by
  have eT := fun t => rticks_c (t := t) hg s
  have hP := s.ok
  have z0 := s.hz0
  refine W_quietP (m := M22) rfl rfl (by simp [AV.lts, AV.lt]) rfl rfl hg ?_
  simp (maxDischargeDepth := 9) -implicitDefEqProofs only [push_cast, simprocAttr, M22, eT, hn]
  refine wp_kRes (wp_kSeq (wp_kBlock ?_))
  refine wp_loop (fun kk x h' ws => ∃ lo hi : Int, kk = (hi - lo).toNat ∧ -1 ≤ lo ∧ lo < (r : Int) ∧ (r : Int) ≤ hi ∧ hi ≤ 4503599627370496 ∧ x = [(0, .ptr p 0), (1, .int .u64 n), (6, .int .i64 lo), (7, .int .i64 hi)] ∧ h' = h ∧ ws = []) (4503599627370496 - (-1) : Int).toNat ?_ ?_
  · refine ⟨-1, 4503599627370496, rfl, by omega, by omega, by omega, by omega, ?_, rfl, rfl⟩
    simp (maxDischargeDepth := 9) -implicitDefEqProofs only [push_cast, simprocAttr]; try rfl
  · rintro kk aa h' ws ⟨lo, hi, rfl, q1, q2, q3, q4, rfl, hh, rfl⟩
    obtain rfl : h = h' := hh.symm
    have w1 : IntKind.i64.wrap (hi - lo) = hi - lo := wr_i64 _ (by omega) (by omega)
    by_cases c : 1 < hi - lo
    · have w2 : IntKind.i64.wrap (lo + hi) = lo + hi := wr_i64 _ (by omega) (by omega)
      have hq : (lo + hi).tdiv 2 = (lo + hi) / 2 := Int.tdiv_eq_ediv_of_nonneg (by omega)
      obtain ⟨m, hm⟩ : ∃ m, (lo + hi) / 2 = m := ⟨_, rfl⟩
      rw [hm] at hq
      have m1 : lo < m := by omega
      have m2 : m < hi := by omega
      have w3 : IntKind.i64.wrap m = m := wr_i64 _ (by omega) (by omega)
      by_cases c2 : tks hz P m < n
      · have hmr : m < r := by
          rcases Int.lt_or_le m (r : Int) with d | d
          · exact d
          · have := tks_mono hP z0 (show 0 ≤ (r : Int) by omega) d (by omega)
            omega
        have c2' : ¬ n ≤ tks hz P m := by omega
        simp (maxDischargeDepth := 9) -implicitDefEqProofs only [push_cast, simprocAttr, w1, c, w2, hq, w3, eT, c2, c2']
        refine loop_next (hi - m).toNat (by omega) ⟨m, hi, rfl, by omega, by omega, by omega, by omega, ?_, rfl, rfl⟩
        simp (maxDischargeDepth := 9) -implicitDefEqProofs only [push_cast, simprocAttr]; try simp
      · have hmr : (r : Int) ≤ m := by
          rcases Int.lt_or_le m (r : Int) with d | d
          · have := r1 m (by omega) d
            omega
          · exact d
        have c2' : n ≤ tks hz P m := by omega
        simp (maxDischargeDepth := 9) -implicitDefEqProofs only [push_cast, simprocAttr, w1, c, w2, hq, w3, eT, c2, c2']
        refine loop_next (m - lo).toNat (by omega) ⟨lo, m, rfl, by omega, by omega, by omega, by omega, ?_, rfl, rfl⟩
        simp (maxDischargeDepth := 9) -implicitDefEqProofs only [push_cast, simprocAttr]; try simp
    · have hh2 : hi = (r : Int) := by omega
      subst hh2
      simp (maxDischargeDepth := 9) -implicitDefEqProofs only [push_cast, simprocAttr, w1, c]
      exact quietB
end
end Go.Proofs.YthcjmmngenogmaaW.AI.E
namespace Go.Proofs.YthcjmmngenogmaaW.AI.E
open Go Go.Proofs.YthcjmmngenogmaaW.AI
set_option maxRecDepth 100000
set_option linter.unusedSimpArgs false
set_option linter.unusedVariables false
set_option linter.unusedSectionVars false
/-- A piece that may stand behind x. -/
def okP (x f o : Int) : Prop := x < f ∧ (x < 0 → f = 0) ∧ f ≤ 4503599627370496 ∧ -500000 ≤ o ∧ o ≤ 500000
theorem prevF_s (P : List (Int × Int)) (i : Nat) {f o : Int} (h : P[i]? = some (f, o)) : prevF P (i + 1) = f := by
  unfold prevF
  rw [if_neg (by omega), Nat.add_sub_cancel, h]
theorem prevF_0 (P : List (Int × Int)) : prevF P 0 = -1 := rfl
/-- All may be, or there is a first one that may not. -/
theorem first_bad (P : List (Int × Int)) : ∀ m : Nat, (∀ j, j < m → ∀ f o, P[j]? = some (f, o) → okP (prevF P j) f o) ∨ ∃ b f o, b < m ∧ P[b]? = some (f, o) ∧ ¬ okP (prevF P b) f o ∧ ∀ j, j < b → ∀ f o, P[j]? = some (f, o) → okP (prevF P j) f o
  | 0 => Or.inl fun j h => by omega
  | m + 1 => by
    rcases first_bad P m with h | ⟨b, f, o, h1, h2⟩
    · cases hm : P[m]? with
      | none =>
        refine Or.inl fun j hj f o hfo => ?_
        rcases Nat.lt_or_ge j m with c | c
        · exact h j c f o hfo
        · obtain rfl : j = m := by omega
          rw [hm] at hfo; cases hfo
      | some x =>
        obtain ⟨f, o⟩ := x
        by_cases hk : okP (prevF P m) f o
        · refine Or.inl fun j hj f' o' hfo => ?_
          rcases Nat.lt_or_ge j m with c | c
          · exact h j c f' o' hfo
          · obtain rfl : j = m := by omega
            rw [hm] at hfo
            cases hfo
            exact hk
        · exact Or.inr ⟨m, f, o, by omega, hm, hk, h⟩
    · exact Or.inr ⟨b, f, o, by omega, h2⟩
theorem prev_pos {P : List (Int × Int)} {m : Nat} (hm : m ≤ P.length) (h : ∀ j, j < m → ∀ f o, P[j]? = some (f, o) → okP (prevF P j) f o) : ∀ j, j ≤ m → -1 ≤ prevF P j ∧ (0 < j → 0 ≤ prevF P j)
  | 0, _ => by rw [prevF_0]; omega
  | j + 1, hj => by
    have ih := prev_pos hm h j (by omega)
    obtain ⟨⟨f, o⟩, hfo⟩ : ∃ x, P[j]? = some x := ⟨_, List.getElem?_eq_getElem (by omega)⟩
    have hk := h j (by omega) f o hfo
    rw [prevF_s P j hfo]
    unfold okP at hk
    omega
theorem pcs_of {P : List (Int × Int)} (h1 : 1 ≤ P.length) (h2 : P.length ≤ 64) (h : ∀ j, j < P.length → ∀ f o, P[j]? = some (f, o) → okP (prevF P j) f o) : Pcs P := by
  have hp := prev_pos (Nat.le_refl _) h
  refine ⟨h1, h2, fun p hp' => ?_, fun p hp' => ?_, fun i p q hi hq => ?_⟩
  · obtain ⟨i, hi⟩ := List.mem_iff_getElem?.1 hp'
    obtain ⟨f, o⟩ := p
    have il := (List.getElem?_eq_some_iff.1 hi).1
    have k := h i il f o hi
    have := hp i (by omega)
    unfold okP at k
    simp only
    omega
  · obtain ⟨f, o⟩ := p
    have k := h 0 (by omega) f o hp'
    rw [prevF_0] at k
    exact k.2.1 (by decide)
  · obtain ⟨f, o⟩ := p
    obtain ⟨f', o'⟩ := q
    have il := (List.getElem?_eq_some_iff.1 hq).1
    have k := h (i + 1) il f' o' hq
    rw [prevF_s P i hi] at k
    exact k.1
-- ------------------------------------------------------------------ the code's, bad
theorem abs_big {o : Int} (hI : I64 o) : ∃ a : Int, (∀ h : AHeap, W CP 59 [.int .i64 o] h = some (.int .i64 a, h, [])) ∧ (500000 < a ↔ o < -500000 ∨ 500000 < o) := by
  obtain ⟨i0, i1⟩ := hI
  by_cases c1 : o = -9223372036854775808
  · refine ⟨9223372036854775807, fun h => ?_, by omega⟩
    refine W_val (m := M59) (fun _ => rfl) rfl rfl rfl ?_ h
    subst c1
    simp (maxDischargeDepth := 9) -implicitDefEqProofs only [push_cast, simprocAttr, M59]
  · by_cases c2 : o < 0
    · refine ⟨-o, fun h => ?_, by omega⟩
      have w : IntKind.i64.wrap (0 - o) = -o := by rw [wr_i64 _ (by omega) (by omega)]; omega
      refine W_val (m := M59) (fun _ => rfl) rfl rfl rfl ?_ h
      simp (maxDischargeDepth := 9) -implicitDefEqProofs only [push_cast, simprocAttr, M59, c1, c2, w]
    · refine ⟨o, fun h => ?_, by omega⟩
      refine W_val (m := M59) (fun _ => rfl) rfl rfl rfl ?_ h
      simp (maxDischargeDepth := 9) -implicitDefEqProofs only [push_cast, simprocAttr, M59, c1, c2]
theorem wrong_c {H : AHeap} {c : Nat} {x f o : Int} (hg : Good H) (bc : H[c]? = some ⟨.tip false, .ints .i64 [x]⟩) (hk : ¬ okP x f o) (ho : I64 o) :
    W CP 58 [.agg [.int .i64 f, .int .i64 o], .ptr c 0] H = some (.bool true, H.set c ⟨.tip false, .ints .i64 [f]⟩, [c]) := by
  have lc := (List.getElem?_eq_some_iff.1 bc).1
  obtain ⟨a, ea, ha⟩ := abs_big ho
  have hne : ¬ c = H.length := by omega
  have hset : (H ++ [ABlk.new (.ints .i64 [f, o])]).set c ⟨.tip false, .ints .i64 [f]⟩ = H.set c ⟨.tip false, .ints .i64 [f]⟩ ++ [ABlk.new (.ints .i64 [f, o])] := by rw [List.set_append_left _ _ lc]
  refine W_set (m := M58) (js := [ABlk.new (.ints .i64 [f, o])]) rfl rfl (by simp [AV.lts, AV.lt]) rfl rfl hg lc (by simp [oldIn]) (by simp [ACells.lt]) ?_
  unfold okP at hk
  by_cases c1 : f ≤ x
  · simp (maxDischargeDepth := 9) -implicitDefEqProofs only [push_cast, simprocAttr, M58, bc, lc, c1, hset]
  · by_cases c2 : x < 0
    · by_cases c3 : f = 0
      · subst c3
        have c5 : 500000 < a := by omega
        simp (maxDischargeDepth := 9) -implicitDefEqProofs only [push_cast, simprocAttr, M58, bc, lc, c1, c2, ea, c5, hset]
      · simp (maxDischargeDepth := 9) -implicitDefEqProofs only [push_cast, simprocAttr, M58, bc, lc, c1, c2, c3, hset]
    · by_cases c4 : 4503599627370496 < f
      · simp (maxDischargeDepth := 9) -implicitDefEqProofs only [push_cast, simprocAttr, M58, bc, lc, c1, c2, c4, hset]
      · have c5 : 500000 < a := by omega
        simp (maxDischargeDepth := 9) -implicitDefEqProofs only [push_cast, simprocAttr, M58, bc, lc, c1, c2, c4, ea, c5, hset]
theorem pidx_bad {H : AHeap} {c b : Nat} {v : AV} {P : List (Int × Int)} {f o : Int} (hg : Good H) (u : PV H v P) (hl : P.length ≤ 64) (hb : P[b]? = some (f, o)) (hk : ¬ okP (prevF P b) f o) (hj : ∀ j, j < b → ∀ f o, P[j]? = some (f, o) → okP (prevF P j) f o) (hI : ∀ p ∈ P, I64 p.2) (bc : H[c]? = some ⟨.tip false, .ints .i64 [-1]⟩) :
    ∃ ws, (∀ b ∈ ws, b = c) ∧ W CP 91 [v, .fn 58 [.ptr c 0]] H = some (.int .i64 (b : Int), H.set c ⟨.tip false, .ints .i64 [f]⟩, ws) := by
  have lc := (List.getElem?_eq_some_iff.1 bc).1
  have nv := u.na
  have lv := u.len
  have hbl := (List.getElem?_eq_some_iff.1 hb).1
  obtain ⟨n, hn⟩ : ∃ n, P.length = n := ⟨_, rfl⟩
  rw [hn] at lv hl hbl
  refine W_setsS (m := M91) (fun ws => ∀ b ∈ ws, b = c) rfl rfl (by simp [AV.lts, AV.lt]) rfl rfl (by simp) (good_set hg rfl) (fun ws hw b hb => by obtain rfl := hw b hb; exact ⟨_, List.getElem?_set_self lc, by simp [ACells.lt]⟩) ?_
  simp (maxDischargeDepth := 9) -implicitDefEqProofs only [push_cast, simprocAttr, M91, nv, lv]
  refine wp_kRes (wp_kSeq (wp_kBlock ?_))
  refine wp_loop (fun k a h' ws => ∃ i : Nat, k = n - i ∧ i ≤ b ∧ a = [(0, v), (1, .fn 58 [.ptr c 0]), (7, .int .i64 (n : Int)), (8, .int .i64 (i : Int))] ∧ h' = H.set c ⟨.tip false, .ints .i64 [prevF P i]⟩ ∧ ∀ b ∈ ws, b = c) n ?_ ?_
  · refine ⟨0, by omega, by omega, ?_, (set_sameS bc).symm, by simp⟩
    simp (maxDischargeDepth := 9) -implicitDefEqProofs only [push_cast, simprocAttr, nv]; try rfl
  · rintro k aa h' ws ⟨i, rfl, hi, rfl, hh, hws⟩
    have v1 : IntKind.i64.wrap ((i : Int) + 1) = (i : Int) + 1 := wr_i64 _ (by omega) (by omega)
    have hlt' : (i : Int) < (n : Int) := by omega
    have bc' : h'[c]? = some ⟨.tip false, .ints .i64 [prevF P i]⟩ := by rw [hh]; exact List.getElem?_set_self lc
    have hgh : Good h' := by rw [hh]; exact good_set hg rfl
    have u' : PV h' v P := by rw [hh]; exact u.set bc
    by_cases hlt : i < b
    · obtain ⟨⟨f', o'⟩, hfo⟩ : ∃ z, P[i]? = some z := ⟨_, List.getElem?_eq_getElem (by omega)⟩
      have a1 := hj i hlt f' o' hfo
      obtain ⟨b', ea1, ea2⟩ := u'.at hfo
      have eB := bad_c hgh bc' a1.1 a1.2.1 a1.2.2.1 a1.2.2.2.1 a1.2.2.2.2
      have hp1 := prevF_s P i hfo
      simp (maxDischargeDepth := 9) -implicitDefEqProofs only [push_cast, simprocAttr, nadd1, nadd2, nadd3, nadd4, nadd5, nadd6, nadd7, nadd8, nadd9, nadd10, nadd11, nadd12, hlt', v1, nv, ↓uia_eq, ea1, ↓uld_eq 14, ea2, eB]
      refine loop_next (n - (i + 1)) (by omega) ⟨i + 1, rfl, by omega, ?_, ?_, ?_⟩
      · simp (maxDischargeDepth := 9) -implicitDefEqProofs only [push_cast, simprocAttr, nv]; try simp
      · rw [hh, List.set_set, hp1]
      · intro b hb
        split at hb
        · rcases List.mem_append.1 hb with hb | hb
          · exact hws b hb
          · simpa using hb
        · exact hws b hb
    · obtain rfl : i = b := by omega
      obtain ⟨b', ea1, ea2⟩ := u'.at hb
      have eB := wrong_c hgh bc' hk (hI _ (List.mem_of_getElem? hb))
      have hfin : h'.set c ⟨.tip false, .ints .i64 [f]⟩ = H.set c ⟨.tip false, .ints .i64 [f]⟩ := by rw [hh, List.set_set]
      simp (maxDischargeDepth := 9) -implicitDefEqProofs only [push_cast, simprocAttr, nadd1, nadd2, nadd3, nadd4, nadd5, nadd6, nadd7, nadd8, nadd9, nadd10, nadd11, nadd12, hlt', v1, nv, ↓uia_eq, ea1, ↓uld_eq 14, ea2, eB, hfin]
      intro b hb
      split at hb
      · rcases List.mem_append.1 hb with hb | hb
        · exact hws b hb
        · simpa using hb
      · exact hws b hb
theorem pcon_bad {H : AHeap} {c b : Nat} {v : AV} {P : List (Int × Int)} {f o : Int} (hg : Good H) (u : PV H v P) (hl : P.length ≤ 64) (hb : P[b]? = some (f, o)) (hk : ¬ okP (prevF P b) f o) (hj : ∀ j, j < b → ∀ f o, P[j]? = some (f, o) → okP (prevF P j) f o) (hI : ∀ p ∈ P, I64 p.2) (bc : H[c]? = some ⟨.tip false, .ints .i64 [-1]⟩) :
    ∃ ws, (∀ b ∈ ws, b = c) ∧ W CP 60 [v, .fn 58 [.ptr c 0]] H = some (.bool true, H.set c ⟨.tip false, .ints .i64 [f]⟩, ws) := by
  have lc := (List.getElem?_eq_some_iff.1 bc).1
  have nv := u.na
  obtain ⟨ws, hws, e⟩ := pidx_bad hg u hl hb hk hj hI bc
  have hb0 : (0 : Int) ≤ (b : Int) := by omega
  refine W_setsS (m := M60) (fun ws => ∀ b ∈ ws, b = c) rfl rfl (by simp [AV.lts, AV.lt]) rfl rfl (by simp) (good_set hg rfl) (fun ws hw b hb => by obtain rfl := hw b hb; exact ⟨_, List.getElem?_set_self lc, by simp [ACells.lt]⟩) ?_
  simp (maxDischargeDepth := 9) -implicitDefEqProofs only [push_cast, simprocAttr, M60, nv, e, hb0]
  intro b hb
  rcases wadd_memS hb with hb | hb
  · simp at hb
  · exact hws b hb.1
/-- What New asks first. -/
def askN (hz bits : Int) (n : Nat) : Prop := 1 ≤ hz ∧ hz ≤ 1000000000 ∧ 8 ≤ bits ∧ bits ≤ 64 ∧ 1 ≤ n ∧ n ≤ 64
theorem ask_case {hz bits : Int} {n : Nat} (ha : ¬ askN hz bits n) : hz < 1 ∨ ¬ hz < 1 ∧ 1000000000 < hz ∨ ¬ hz < 1 ∧ ¬ 1000000000 < hz ∧ bits < 8 ∨ ¬ hz < 1 ∧ ¬ 1000000000 < hz ∧ ¬ bits < 8 ∧ 64 < bits ∨ ¬ hz < 1 ∧ ¬ 1000000000 < hz ∧ ¬ bits < 8 ∧ ¬ 64 < bits ∧ (n : Int) < 1 ∨ ¬ hz < 1 ∧ ¬ 1000000000 < hz ∧ ¬ bits < 8 ∧ ¬ 64 < bits ∧ ¬ (n : Int) < 1 ∧ (64 : Int) < (n : Int) := by unfold askN at ha; omega
theorem new_q {h : AHeap} {v : AV} {n : Nat} {hz bits fs : Int} (hg : Good h) (lv : slen v = some n) (ha : ¬ askN hz bits n) : W CP 19 [.int .u64 hz, .int .i64 bits, .int .u64 fs, v] h = some (.tup [.nilp, .int .i64 1], h, []) := by
  have nv := na_slen lv
  refine W_bothB (m := M19) (fun _ => True) (fun _ => rfl) rfl rfl rfl glG (fun _ => trivial) (fun g hg _ => ?_) hg trivial
  rcases ask_case ha with c1 | ⟨c1, c2⟩ | ⟨c1, c2, c3⟩ | ⟨c1, c2, c3, c4⟩ | ⟨c1, c2, c3, c4, c5⟩ | ⟨c1, c2, c3, c4, c5, c6⟩
  · simp (maxDischargeDepth := 9) -implicitDefEqProofs only [push_cast, simprocAttr, M19, nv, lv, c1]; exact quietB
  · simp (maxDischargeDepth := 9) -implicitDefEqProofs only [push_cast, simprocAttr, M19, nv, lv, c1, c2]; exact quietB
  · simp (maxDischargeDepth := 9) -implicitDefEqProofs only [push_cast, simprocAttr, M19, nv, lv, c1, c2, c3]; exact quietB
  · simp (maxDischargeDepth := 9) -implicitDefEqProofs only [push_cast, simprocAttr, M19, nv, lv, c1, c2, c3, c4]; exact quietB
  · simp (maxDischargeDepth := 9) -implicitDefEqProofs only [push_cast, simprocAttr, M19, nv, lv, c1, c2, c3, c4, c5]; exact quietB
  · simp (maxDischargeDepth := 9) -implicitDefEqProofs only [push_cast, simprocAttr, M19, nv, lv, c1, c2, c3, c4, c5, c6]; exact quietB
theorem rnew_q {h : AHeap} {v : AV} {n : Nat} {hz bits fs : Int} (hg : Good h) (lv : slen v = some n) (ha : ¬ askN hz bits n) : W CP 20 [.int .u64 hz, .int .i64 bits, .int .u64 fs, v] h = some (.tup [.nilp, .int .i64 1], h, []) := by
  have nv := na_slen lv
  refine W_bothB (m := M20) (fun _ => True) (fun _ => rfl) rfl rfl rfl glG (fun _ => trivial) (fun g hg _ => ?_) hg trivial
  rcases ask_case ha with c1 | ⟨c1, c2⟩ | ⟨c1, c2, c3⟩ | ⟨c1, c2, c3, c4⟩ | ⟨c1, c2, c3, c4, c5⟩ | ⟨c1, c2, c3, c4, c5, c6⟩
  · simp (maxDischargeDepth := 9) -implicitDefEqProofs only [push_cast, simprocAttr, M20, nv, lv, c1]; exact quietB
  · simp (maxDischargeDepth := 9) -implicitDefEqProofs only [push_cast, simprocAttr, M20, nv, lv, c1, c2]; exact quietB
  · simp (maxDischargeDepth := 9) -implicitDefEqProofs only [push_cast, simprocAttr, M20, nv, lv, c1, c2, c3]; exact quietB
  · simp (maxDischargeDepth := 9) -implicitDefEqProofs only [push_cast, simprocAttr, M20, nv, lv, c1, c2, c3, c4]; exact quietB
  · simp (maxDischargeDepth := 9) -implicitDefEqProofs only [push_cast, simprocAttr, M20, nv, lv, c1, c2, c3, c4, c5]; exact quietB
  · simp (maxDischargeDepth := 9) -implicitDefEqProofs only [push_cast, simprocAttr, M20, nv, lv, c1, c2, c3, c4, c5, c6]; exact quietB
theorem new_bad {h : AHeap} {v : AV} {P : List (Int × Int)} {hz fs : Int} {k : Nat} (hg : Good h) (u : PV h v P) (ha : askN hz k P.length) (hI : ∀ p ∈ P, I64 p.2) (hb : mkOf k < fs ∨ ∃ b f o, P[b]? = some (f, o) ∧ ¬ okP (prevF P b) f o ∧ ∀ j, j < b → ∀ f o, P[j]? = some (f, o) → okP (prevF P j) f o) :
    W CP 19 [.int .u64 hz, .int .i64 (k : Int), .int .u64 fs, v] h = some (.tup [.nilp, .int .i64 1], h, []) := by
  obtain ⟨z0, z1, b0, b1, p1, p64⟩ := ha
  have nv := u.na
  have lv := u.len
  have m01 := mkOf_in k
  obtain ⟨m0, m1⟩ := m01
  obtain ⟨n, hn⟩ : ∃ n, P.length = n := ⟨_, rfl⟩
  have hlen : P.length ≤ 64 := p64
  rw [hn] at lv p1 p64
  have hG1 : Good (h ++ [⟨.tip false, .ints .i64 [-1]⟩]) := good_app hg rfl
  have hs1 : (h ++ [ABlk.new (.ints .i64 [0])]).set h.length ⟨.tip false, .ints .i64 [-1]⟩ = h ++ [⟨.tip false, .ints .i64 [-1]⟩] := by
    rw [List.set_append_right _ _ (Nat.le_refl _), Nat.sub_self]; rfl
  obtain ⟨m, hm⟩ : ∃ m, 64 - k = m := ⟨_, rfl⟩
  have w1 : IntKind.i64.wrap (64 - (k : Int)) = (m : Int) := by rw [wr_i64 _ (by omega) (by omega)]; omega
  have hm0 : ¬ (m : Int) < 0 := by omega
  have hm1 : min m 64 = m := by omega
  unfold mkOf at hb m0 m1
  rw [hm] at hb m0 m1
  have hfd : (18446744073709551615 : Int).fdiv (2 ^ m) = 18446744073709551615 / 2 ^ m := Int.fdiv_eq_ediv_of_nonneg _ (Int.le_of_lt (Int.pow_pos (by decide)))
  obtain ⟨K, hK⟩ : ∃ K, (18446744073709551615 : Int) / 2 ^ m = K := ⟨_, rfl⟩
  rw [hK] at hfd hb m0 m1
  have q1 : ¬ hz < 1 := by omega
  have q2 : ¬ 1000000000 < hz := by omega
  have q3 : ¬ (k : Int) < 8 := by omega
  have q4 : ¬ (64 : Int) < (k : Int) := by omega
  have q5 : ¬ (n : Int) < 1 := by omega
  have q6 : ¬ (64 : Int) < (n : Int) := by omega
  refine W_quietP (m := M19) rfl rfl (by simp [AV.lts, u.lt0]) rfl rfl hg ?_
  by_cases c : K < fs
  · simp (maxDischargeDepth := 9) -implicitDefEqProofs only [push_cast, simprocAttr, M19, nadd1, nadd2, nadd3, nadd4, nadd5, nadd6, nadd7, nadd8, nadd9, nadd10, nadd11, nadd12, nv, lv, q1, q2, q3, q4, q5, q6, c, w1, hm0, hm1, hfd, hs1]
    exact quiet_i
  · rcases hb with hb | ⟨b, f, o, h1, h2, h3⟩
    · exact absurd hb c
    · obtain ⟨ws, hws, eC⟩ := pcon_bad (c := h.length) hG1 (u.app _) hlen h1 h2 h3 hI (by simp)
      have hs2 : (h ++ [(⟨.tip false, .ints .i64 [-1]⟩ : ABlk)]).set h.length ⟨.tip false, .ints .i64 [f]⟩ = h ++ [⟨.tip false, .ints .i64 [f]⟩] := by
        rw [List.set_append_right _ _ (Nat.le_refl _), Nat.sub_self]; rfl
      rw [hs2] at eC
      have hwd : wadd h.length [] ws = [] := wadd_ge fun b hb => by have := hws b hb; omega
      simp (maxDischargeDepth := 9) -implicitDefEqProofs only [push_cast, simprocAttr, M19, nadd1, nadd2, nadd3, nadd4, nadd5, nadd6, nadd7, nadd8, nadd9, nadd10, nadd11, nadd12, nv, lv, q1, q2, q3, q4, q5, q6, c, w1, hm0, hm1, hfd, hs1, eC, hwd]
      exact quiet_i
/-- New, and what it lays. -/
theorem new_e {h : AHeap} {v : AV} {P : List (Int × Int)} {hz fs : Int} {k : Nat} (hg : Good h) (u : PV h v P) (hP : Pcs P) (z0 : 1 ≤ hz) (z1 : hz ≤ 1000000000) (b0 : 8 ≤ k) (b1 : k ≤ 64) (f0 : 0 ≤ fs) (f1 : fs ≤ mkOf k) :
    ∃ L, W CP 19 [.int .u64 hz, .int .i64 (k : Int), .int .u64 fs, v] h = some (.tup [.ptr (h.length + 3) 0, .int .i64 0], h ++ [⟨.tip false, .ints .i64 [L]⟩, ⟨.tip false, .ints .i64 []⟩, ⟨.tip false, .ints .i64 (flatP P)⟩, ⟨.tip false, .vals [.int .u64 hz, .int .u64 (mkOf k), .int .u64 fs, .gsl (h.length + 2) 0 P.length 2 false]⟩], []) := by
  have nv := u.na
  have lv := u.len
  have p1 := hP.ne
  have p64 := hP.le
  obtain ⟨m0, m1⟩ := mkOf_in k
  obtain ⟨n, hn⟩ : ∃ n, P.length = n := ⟨_, rfl⟩
  rw [hn] at lv p1 p64
  have hG1 : Good (h ++ [⟨.tip false, .ints .i64 [-1]⟩]) := good_app hg rfl
  obtain ⟨ws, hws, eC⟩ := pcon_c (c := h.length) hG1 (u.app _) hP (by simp)
  have hs2 : (h ++ [(⟨.tip false, .ints .i64 [-1]⟩ : ABlk)]).set h.length ⟨.tip false, .ints .i64 [prevF P P.length]⟩ = h ++ [⟨.tip false, .ints .i64 [prevF P P.length]⟩] := by
    rw [List.set_append_right _ _ (Nat.le_refl _), Nat.sub_self]; rfl
  rw [hs2] at eC
  obtain ⟨L, hL⟩ : ∃ L, prevF P P.length = L := ⟨_, rfl⟩
  rw [hL] at eC
  have hG2 : Good (h ++ [⟨.tip false, .ints .i64 [L]⟩]) := good_app hg rfl
  have eN := pclone_c hG2 (u.app _) hP
  rw [hn, List.append_assoc, show (h ++ [(⟨.tip false, .ints .i64 [L]⟩ : ABlk)]).length + 1 = h.length + 2 by simp] at eN
  simp only [List.cons_append, List.nil_append] at eN
  have hs1 : (h ++ [ABlk.new (.ints .i64 [0])]).set h.length ⟨.tip false, .ints .i64 [-1]⟩ = h ++ [⟨.tip false, .ints .i64 [-1]⟩] := by
    rw [List.set_append_right _ _ (Nat.le_refl _), Nat.sub_self]; rfl
  have hwd : wadd h.length [] ws = [] := wadd_ge fun b hb => by have := hws b hb; omega
  obtain ⟨m, hm⟩ : ∃ m, 64 - k = m := ⟨_, rfl⟩
  have w1 : IntKind.i64.wrap (64 - (k : Int)) = (m : Int) := by rw [wr_i64 _ (by omega) (by omega)]; omega
  have hm0 : ¬ (m : Int) < 0 := by omega
  have hm1 : min m 64 = m := by omega
  unfold mkOf at f1 m0 m1 ⊢
  rw [hm] at f1 m0 m1 ⊢
  have hfd : (18446744073709551615 : Int).fdiv (2 ^ m) = 18446744073709551615 / 2 ^ m := Int.fdiv_eq_ediv_of_nonneg _ (Int.le_of_lt (Int.pow_pos (by decide)))
  obtain ⟨K, hK⟩ : ∃ K, (18446744073709551615 : Int) / 2 ^ m = K := ⟨_, rfl⟩
  rw [hK] at hfd f1 m0 m1 ⊢
  have q1 : ¬ hz < 1 := by omega
  have q2 : ¬ 1000000000 < hz := by omega
  have q3 : ¬ (k : Int) < 8 := by omega
  have q4 : ¬ (64 : Int) < (k : Int) := by omega
  have q5 : ¬ (n : Int) < 1 := by omega
  have q6 : ¬ (64 : Int) < (n : Int) := by omega
  have q7 : ¬ K < fs := by omega
  have h0 : AV.lts 0 [.int .u64 hz, .int .i64 (k : Int), .int .u64 fs, v] = false := by simp [AV.lts, u.lt0]
  rw [hn]
  have key : xbody (W CP) M19 [.int .u64 hz, .int .i64 (k : Int), .int .u64 fs, v] h = some (.tup [.ptr (h.length + 3) 0, .int .i64 0], h ++ [⟨.tip false, .ints .i64 [L]⟩, ⟨.tip false, .ints .i64 []⟩, ⟨.tip false, .ints .i64 (flatP P)⟩, ⟨.tip false, .vals [.int .u64 hz, .int .u64 K, .int .u64 fs, .gsl (h.length + 2) 0 n 2 false]⟩], []) := by
    simp (maxDischargeDepth := 9) -implicitDefEqProofs only [push_cast, simprocAttr, M19, nadd1, nadd2, nadd3, nadd4, nadd5, nadd6, nadd7, nadd8, nadd9, nadd10, nadd11, nadd12, nv, lv, q1, q2, q3, q4, q5, q6, q7, w1, hm0, hm1, hfd, hs1, eC, hwd, eN]
    try rfl
  exact ⟨L, by rw [W_body (m := M19) rfl rfl h0 key, show (M19).trim = true from rfl, if_pos rfl, trim_addr (by simp [AV.lt, AV.lts])]⟩
-- ------------------------------------------------------------------ the document's
/-- What the document's New answers to pieces that New asks about. -/
def RnR (h : AHeap) (hz fs : Int) (k : Nat) (P : List (Int × Int)) (ok : Prop) [Decidable ok] : AV × AHeap × List Nat :=
  if ok then (.tup [.ptr h.length 0, .int .i64 0], h ++ [⟨.tip false, .vals [.int .u64 hz, .int .u64 fs, .int .i64 (k : Int), .gsl (h.length + 1) 0 P.length 2 false]⟩, ⟨.tip false, .ints .i64 (flatP P)⟩], []) else (.tup [.nilp, .int .i64 1], h, [])
theorem rnew_body {h : AHeap} {v : AV} {P : List (Int × Int)} {hz fs : Int} {k b : Nat} (hg : Good h) (u : PV h v P) (ha : askN hz k P.length) (hf : 0 ≤ fs ∧ fs < 18446744073709551616) (hb : b ≤ P.length) (hj : ∀ j, j < b → ∀ f o, P[j]? = some (f, o) → okP (prevF P j) f o)
    (hbad : b < P.length → ∃ f o, P[b]? = some (f, o) ∧ ¬ okP (prevF P b) f o) :
    xbody (W CP) M20 [.int .u64 hz, .int .i64 (k : Int), .int .u64 fs, v] h = some (RnR h hz fs k P (fs < 2 ^ k ∧ b = P.length)) := by
  obtain ⟨z0, z1, b0, b1, p1, p64⟩ := ha
  have nv := u.na
  have lv := u.len
  have nw := u.new
  have hpp := prev_pos hb hj
  unfold RnR
  obtain ⟨n, hn⟩ : ∃ n, P.length = n := ⟨_, rfl⟩
  rw [hn] at lv p1 p64 hb hbad ⊢
  have q1 : ¬ hz < 1 := by omega
  have q2 : ¬ 1000000000 < hz := by omega
  have q3 : ¬ (k : Int) < 8 := by omega
  have q4 : ¬ (64 : Int) < (k : Int) := by omega
  have q5 : ¬ (n : Int) < 1 := by omega
  have q6 : ¬ (64 : Int) < (n : Int) := by omega
  obtain ⟨⟨fz, oz⟩, h0⟩ : ∃ x, P[0]? = some x := ⟨_, List.getElem?_eq_getElem (by omega)⟩
  obtain ⟨pb, y1, _, y2, y3⟩ := pv_at u h0
  have heq : ∀ R, Wp (xbody (W CP) M20 [.int .u64 hz, .int .i64 (k : Int), .int .u64 fs, v] h) (fun r => r = R) → xbody (W CP) M20 [.int .u64 hz, .int .i64 (k : Int), .int .u64 fs, v] h = some R := by
    rintro R ⟨r, e, rfl⟩
    exact e
  obtain ⟨R, hR⟩ : ∃ R : AV × AHeap × List Nat, (if fs < 2 ^ k ∧ b = n then (.tup [.ptr h.length 0, .int .i64 0], h ++ [⟨.tip false, .vals [.int .u64 hz, .int .u64 fs, .int .i64 (k : Int), .gsl (h.length + 1) 0 n 2 false]⟩, ⟨.tip false, .ints .i64 (flatP P)⟩], []) else (.tup [.nilp, .int .i64 1], h, [])) = R := ⟨_, rfl⟩
  rw [hR]
  have no : ¬ (fs < 2 ^ k ∧ b = n) → R = (.tup [.nilp, .int .i64 1], h, []) := fun hno => by rw [← hR, if_neg hno]
  have yes : fs < 2 ^ k → b = n → R = (.tup [.ptr h.length 0, .int .i64 0], h ++ [⟨.tip false, .vals [.int .u64 hz, .int .u64 fs, .int .i64 (k : Int), .gsl (h.length + 1) 0 n 2 false]⟩, ⟨.tip false, .ints .i64 (flatP P)⟩], []) := fun h1 h2 => by rw [← hR, if_pos ⟨h1, h2⟩]
  clear hR
  refine heq _ ?_
  simp (maxDischargeDepth := 9) -implicitDefEqProofs only [push_cast, simprocAttr, M20, nadd1, nadd2, nadd3, nadd4, nadd5, nadd6, nadd7, nadd8, nadd9, nadd10, nadd11, nadd12, nv, lv, q1, q2, q3, q4, q5, q6]
  refine wp_kRes (wp_kSeq (wp_kBlock ?_))
  refine wp_loop (fun kk x h' ws => ∃ (i : Nat) (S : Int), kk = k - i ∧ i ≤ k ∧ x = [(0, .int .u64 hz), (1, .int .i64 (k : Int)), (2, .int .u64 fs), (3, v), (10, .int .u64 S), (11, .int .i64 (i : Int))] ∧ S = fs / 2 ^ i ∧ h' = h ∧ ws = []) k ?_ ?_
  · refine ⟨0, fs, by omega, by omega, ?_, by simp, rfl, rfl⟩
    simp (maxDischargeDepth := 9) -implicitDefEqProofs only [push_cast, simprocAttr, nv]; try rfl
  · rintro kk aa h' ws ⟨i, S, rfl, hi, rfl, hS, hh, rfl⟩
    obtain rfl : h = h' := hh.symm
    have v1 : IntKind.i64.wrap ((i : Int) + 1) = (i : Int) + 1 := wr_i64 _ (by omega) (by omega)
    have hpw : (0 : Int) < 2 ^ i := Int.pow_pos (by decide)
    have hS0 : 0 ≤ S := by rw [hS]; exact Int.ediv_nonneg hf.1 (Int.le_of_lt hpw)
    have hS1 : S ≤ fs := by rw [hS]; exact Int.ediv_le_self _ hf.1
    by_cases hlt : i < k
    · have hlt' : (i : Int) < (k : Int) := by omega
      have hq : S.tdiv 2 = S / 2 := Int.tdiv_eq_ediv_of_nonneg hS0
      have w2 : IntKind.u64.wrap (S / 2) = S / 2 := wr_u64 _ (by omega) (by omega)
      have hS2 : S / 2 = fs / 2 ^ (i + 1) := by rw [hS, Int.pow_succ, Int.ediv_ediv_of_nonneg (Int.le_of_lt hpw)]
      obtain ⟨S', hS'⟩ : ∃ S', S / 2 = S' := ⟨_, rfl⟩
      rw [hS'] at hq w2 hS2
      simp (maxDischargeDepth := 9) -implicitDefEqProofs only [push_cast, simprocAttr, nv, hlt', v1, hq, w2]
      refine loop_next (k - (i + 1)) (by omega) ⟨i + 1, S', rfl, by omega, ?_, hS2, rfl, rfl⟩
      simp (maxDischargeDepth := 9) -implicitDefEqProofs only [push_cast, simprocAttr, nv]; try simp
    · have hi2 : i = k := by omega
      subst hi2
      have hnl : ¬ (i : Int) < (i : Int) := by omega
      have hfit : 0 < S ↔ ¬ fs < 2 ^ i := by
        rw [hS]
        constructor
        · intro h1 h2
          rw [Int.ediv_eq_zero_of_lt hf.1 h2] at h1
          omega
        · intro h1
          have : 1 ≤ fs / 2 ^ i := (Int.le_ediv_iff_mul_le hpw).2 (by omega)
          omega
      by_cases c1 : 0 < S
      · have hR := no fun ⟨e, _⟩ => hfit.1 c1 e
        simp (maxDischargeDepth := 9) -implicitDefEqProofs only [push_cast, simprocAttr, nv, hnl, c1, hR]
      have hfs : fs < 2 ^ i := Classical.byContradiction fun e => c1 (hfit.2 e)
      by_cases c2 : fz = 0
      case neg =>
        have hR := no fun ⟨_, e⟩ => by
          have := hj 0 (by omega) fz oz h0
          rw [prevF_0] at this
          exact c2 (this.2.1 (by decide))
        simp (maxDischargeDepth := 9) -implicitDefEqProofs only [push_cast, simprocAttr, nadd1, nadd2, nadd3, nadd4, nadd5, nadd6, nadd7, nadd8, nadd9, nadd10, nadd11, nadd12, nv, hnl, c1, ↓uia_eq, y1, Nat.zero_mul, ↓uld_eq 51, y2, c2, hR]
      subst c2
      simp (maxDischargeDepth := 9) -implicitDefEqProofs only [push_cast, simprocAttr, nadd1, nadd2, nadd3, nadd4, nadd5, nadd6, nadd7, nadd8, nadd9, nadd10, nadd11, nadd12, nv, hnl, c1, ↓uia_eq, y1, Nat.zero_mul, ↓uld_eq 51, y2]
      refine wp_kSeq (wp_kBlock ?_)
      refine wp_loop (fun kk x h' ws => ∃ j : Nat, kk = n - j ∧ j ≤ b ∧ x = [(0, .int .u64 hz), (1, .int .i64 (i : Int)), (2, .int .u64 fs), (3, v), (12, .int .i64 (j : Int))] ∧ h' = h ∧ ws = []) n ?_ ?_
      · refine ⟨0, by omega, by omega, ?_, rfl, rfl⟩
        simp (maxDischargeDepth := 9) -implicitDefEqProofs only [push_cast, simprocAttr, nv]; try rfl
      · rintro kk aa h' ws ⟨j, rfl, hjb, rfl, hh, rfl⟩
        obtain rfl : h = h' := hh.symm
        have v2 : IntKind.i64.wrap ((j : Int) + 1) = (j : Int) + 1 := wr_i64 _ (by omega) (by omega)
        by_cases hlt : j < n
        · have hlt' : (j : Int) < (n : Int) := by omega
          obtain ⟨⟨f, o⟩, hfo⟩ : ∃ x, P[j]? = some x := ⟨_, List.getElem?_eq_getElem (by omega)⟩
          obtain ⟨pj, t1, _, t2, t3⟩ := pv_at u hfo
          have hprev : 0 < j → ∃ K : Nat, ∃ f' : Int, j - 1 = K ∧ IntKind.i64.wrap ((j : Int) - 1) = (K : Int) ∧ prevF P j = f' ∧ ∃ pb', (∀ g, uia 2 g K (some v) = some (.ptr pb' (K * 2), g, [])) ∧ uld none h (some (.ptr pb' (K * 2))) = some (.int .i64 f', h, []) := by
            intro h0'
            obtain ⟨K, hK⟩ : ∃ K, j - 1 = K := ⟨_, rfl⟩
            obtain ⟨⟨f', o'⟩, hfo'⟩ : ∃ x, P[K]? = some x := ⟨_, List.getElem?_eq_getElem (by omega)⟩
            obtain ⟨pb', s1, _, s2, _⟩ := pv_at u hfo'
            refine ⟨K, f', hK, by rw [wr_i64 _ (by omega) (by omega)]; omega, ?_, pb', s1, s2⟩
            have := prevF_s P K hfo'
            rwa [show K + 1 = j by omega] at this
          by_cases hb2 : j < b
          · obtain ⟨k1, k2, k3, k4, k5⟩ := hj j hb2 f o hfo
            have d1 : ¬ 500000 < o := by omega
            have d2 : ¬ o < -500000 := by omega
            have d3 : ¬ 4503599627370496 < f := by omega
            by_cases hj0 : 0 < j
            · have hj0' : (0 : Int) < (j : Int) := by omega
              obtain ⟨K, f', hK, w3, hf', pb', s1, s2⟩ := hprev hj0
              rw [hf'] at k1
              have d4 : ¬ f ≤ f' := by omega
              simp (maxDischargeDepth := 9) -implicitDefEqProofs only [push_cast, simprocAttr, nadd1, nadd2, nadd3, nadd4, nadd5, nadd6, nadd7, nadd8, nadd9, nadd10, nadd11, nadd12, nv, lv, hlt', v2, ↓uia_eq, t1, ↓uld_eq 64, t3, d1, ↓uld_eq 71, d2, ↓uld_eq 79, t2, d3, hj0', ↓uld_eq 89, w3, s1, ↓uld_eq 95, s2, d4]
              refine loop_next (n - (j + 1)) (by omega) ⟨j + 1, rfl, by omega, ?_, rfl, rfl⟩
              simp (maxDischargeDepth := 9) -implicitDefEqProofs only [push_cast, simprocAttr, nv]; try simp
            · have hj0' : ¬ (0 : Int) < (j : Int) := by omega
              simp (maxDischargeDepth := 9) -implicitDefEqProofs only [push_cast, simprocAttr, nadd1, nadd2, nadd3, nadd4, nadd5, nadd6, nadd7, nadd8, nadd9, nadd10, nadd11, nadd12, nv, lv, hlt', v2, ↓uia_eq, t1, ↓uld_eq 64, t3, d1, ↓uld_eq 71, d2, ↓uld_eq 79, t2, d3, hj0']
              refine loop_next (n - (j + 1)) (by omega) ⟨j + 1, rfl, by omega, ?_, rfl, rfl⟩
              simp (maxDischargeDepth := 9) -implicitDefEqProofs only [push_cast, simprocAttr, nv]; try simp
          · obtain rfl : j = b := by omega
            obtain ⟨f2, o2, hfo2, hk2⟩ := hbad hlt
            rw [hfo] at hfo2
            cases hfo2
            have hR := no fun ⟨_, e⟩ => by omega
            unfold okP at hk2
            by_cases d1 : 500000 < o
            · simp (maxDischargeDepth := 9) -implicitDefEqProofs only [push_cast, simprocAttr, nadd1, nadd2, nadd3, nadd4, nadd5, nadd6, nadd7, nadd8, nadd9, nadd10, nadd11, nadd12, nv, lv, hlt', v2, ↓uia_eq, t1, ↓uld_eq 64, t3, d1, hR]
            by_cases d2 : o < -500000
            · simp (maxDischargeDepth := 9) -implicitDefEqProofs only [push_cast, simprocAttr, nadd1, nadd2, nadd3, nadd4, nadd5, nadd6, nadd7, nadd8, nadd9, nadd10, nadd11, nadd12, nv, lv, hlt', v2, ↓uia_eq, t1, ↓uld_eq 64, t3, d1, ↓uld_eq 71, d2, hR]
            by_cases d3 : 4503599627370496 < f
            · simp (maxDischargeDepth := 9) -implicitDefEqProofs only [push_cast, simprocAttr, nadd1, nadd2, nadd3, nadd4, nadd5, nadd6, nadd7, nadd8, nadd9, nadd10, nadd11, nadd12, nv, lv, hlt', v2, ↓uia_eq, t1, ↓uld_eq 64, t3, d1, ↓uld_eq 71, d2, ↓uld_eq 79, t2, d3, hR]
            have hj0 : 0 < j := by
              rcases Nat.eq_zero_or_pos j with e | e
              · subst e
                rw [h0] at hfo
                cases hfo
                rw [prevF_0] at hk2
                omega
              · exact e
            have hj0' : (0 : Int) < (j : Int) := by omega
            obtain ⟨K, f', hK, w3, hf', pb', s1, s2⟩ := hprev hj0
            have hp2 := (hpp j (Nat.le_refl _)).2 hj0
            rw [hf'] at hk2 hp2
            have d4 : f ≤ f' := by omega
            simp (maxDischargeDepth := 9) -implicitDefEqProofs only [push_cast, simprocAttr, nadd1, nadd2, nadd3, nadd4, nadd5, nadd6, nadd7, nadd8, nadd9, nadd10, nadd11, nadd12, nv, lv, hlt', v2, ↓uia_eq, t1, ↓uld_eq 64, t3, d1, ↓uld_eq 71, d2, ↓uld_eq 79, t2, d3, hj0', ↓uld_eq 89, w3, s1, ↓uld_eq 95, s2, d4, hR]
        · have hjn : j = n := by omega
          have hbn : b = n := by omega
          have hnl2 : ¬ (j : Int) < (n : Int) := by omega
          have hR := yes hfs hbn
          have hr : room n 16 = true := by simp only [room, decide_eq_true_eq]; omega
          have hn0 : ¬ n = 0 := by omega
          have eX := (u.app [⟨.tip false, .vals [.int .u64 hz, .int .u64 fs, .int .i64 (i : Int), .nils]⟩]).new
          have eA : aappend (h ++ [⟨.tip false, .vals [.int .u64 hz, .int .u64 fs, .int .i64 (i : Int), .nils]⟩]) (.ints .i64 [0, 0]) 16 .nils (.ints .i64 (flatP P)) n = some (.gsl (h.length + 1) 0 n 2 false, h ++ [⟨.tip false, .vals [.int .u64 hz, .int .u64 fs, .int .i64 (i : Int), .nils]⟩, ⟨.tip false, .ints .i64 (flatP P)⟩], []) := by
            simp [aappend, hn0, hr, ACells.len]
          simp (maxDischargeDepth := 9) -implicitDefEqProofs only [push_cast, simprocAttr, nadd1, nadd2, nadd3, nadd4, nadd5, nadd6, nadd7, nadd8, nadd9, nadd10, nadd11, nadd12, nv, lv, hnl2, eX, eA, hR]
          try rfl
end Go.Proofs.YthcjmmngenogmaaW.AI.E
