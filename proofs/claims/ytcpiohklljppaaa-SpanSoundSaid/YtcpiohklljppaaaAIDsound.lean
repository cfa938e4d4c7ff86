import Derived.Test.YtcpiohklljppaaaAIDsound1
namespace Go.Proofs.YtcpiohklljppaaaW.AI.D
open Go Go.Proofs.YtcpiohklljppaaaW.AI
set_option maxRecDepth 100000
set_option linter.unusedVariables false
set_option linter.unusedSimpArgs false
theorem upV_le {t f x : Int} (t1 : 1 ≤ t) (t2 : t ≤ 1000000000) (f1 : 0 ≤ f) (f2 : f ≤ 500000) (x1 : 0 ≤ x) (x2 : x ≤ 1000000000000000000) : upV t f x ≤ 1100000000000000000 := by
  obtain ⟨u, eu, u1, u2, _, u4⟩ := upV_char t1 t2 f1 f2 x1 (by omega : x ≤ 4000000000000000000)
  have h1 : (u - 1) * 999500000 ≤ (u - 1) * (1000000000 - f) := Int.mul_le_mul_of_nonneg_left (by omega) (by omega)
  omega
theorem upV_down {t f x : Int} (t1 : 1 ≤ t) (t2 : t ≤ 1000000000) (f1 : 0 ≤ f) (f2 : f ≤ 500000) (x1 : 0 ≤ x) (x2 : x ≤ 1000000000000000000) : 0 ≤ downV t f x ∧ downV t f x ≤ x ∧ x < upV t f x := by
  obtain ⟨u, eu, u1, u2, _, u4⟩ := upV_char t1 t2 f1 f2 x1 (by omega : x ≤ 4000000000000000000)
  obtain ⟨d, ed, d1, d2, _, _⟩ := downV_char t1 t2 f1 f2 x1 (by omega : x ≤ 4611686018427387904)
  omega
def tim (t0 t1 t2 t3 t4 : Int) : Nat → Int × List Int
  | 0 => (t0, [0, 0, 0, 0, 0])
  | 1 => (t1, [t0, 0, 0, 0, 0])
  | 2 => (t2, [t0, t1, 0, 0, 0])
  | 3 => (t3, [t0, t1, t2, 0, 0])
  | 4 => (t4, [t0, t1, t2, t3, 0])
  | _ => (t4, [t0, t1, t2, t3, t4])
set_option maxHeartbeats 16000000 in
theorem sound_body (g : AHeap) (hg : Good g) (n0 n1 n2 n3 n4 n5 n6 n7 n8 n9 n10 n11 n12 n13 n14 : Int)
    (a0 : 0 ≤ n0) (_ : n0 ≤ 18446744073709551615) (a1 : 0 ≤ n1) (_ : n1 ≤ 18446744073709551615) (a2 : 0 ≤ n2) (_ : n2 ≤ 18446744073709551615) (a3 : 0 ≤ n3) (_ : n3 ≤ 18446744073709551615) (a4 : 0 ≤ n4) (_ : n4 ≤ 18446744073709551615)
    (a5 : 0 ≤ n5) (_ : n5 ≤ 18446744073709551615) (a6 : 0 ≤ n6) (_ : n6 ≤ 18446744073709551615) (a7 : 0 ≤ n7) (_ : n7 ≤ 18446744073709551615) (a8 : -9223372036854775808 ≤ n8) (b8 : n8 ≤ 9223372036854775807) (a9 : 0 ≤ n9) (_ : n9 ≤ 18446744073709551615)
    (a10 : 0 ≤ n10) (_ : n10 ≤ 18446744073709551615) (a11 : 0 ≤ n11) (_ : n11 ≤ 18446744073709551615) (a12 : -9223372036854775808 ≤ n12) (b12 : n12 ≤ 9223372036854775807) (a13 : -9223372036854775808 ≤ n13) (b13 : n13 ≤ 9223372036854775807) (a14 : 0 ≤ n14) (b14 : n14 ≤ 255) :
    Wp (xbody (W CP) M6 [.agg [.int .u64 n0, .int .u64 n1, .int .u64 n2], .agg [.int .u64 n3, .int .u64 n4, .int .u64 n5, .int .u64 n6, .int .u64 n7, .int .i64 n8, .int .u64 n9, .int .u64 n10, .int .u64 n11, .int .i64 n12, .int .i64 n13], .int .u8 n14] g) fun r => r.1 = .bool true := by
  obtain ⟨t, ht, t1, t2⟩ := tmod_to 1000000000 a0 (by omega)
  obtain ⟨f, hf, f1, f2⟩ := tmod_to 500001 a1 (by omega)
  obtain ⟨ρ, hρ, ρ1, ρ2⟩ := tmod_to 1125899906842624 a2 (by omega)
  obtain ⟨x0, hx0, x01, x02⟩ := tmod_to 72057594037927936 a3 (by omega)
  obtain ⟨y0, hy0, y01, y02⟩ := tmod_to 72057594037927936 a4 (by omega)
  obtain ⟨y1, hy1, y11, y12⟩ := tmod_to 72057594037927936 a5 (by omega)
  obtain ⟨y2, hy2, y21, y22⟩ := tmod_to 72057594037927936 a6 (by omega)
  obtain ⟨y3, hy3, y31, y32⟩ := tmod_to 72057594037927936 a7 (by omega)
  have w1 : IntKind.i64.wrap t = t := wr_i64 _ (by omega) (by omega)
  have w2 : IntKind.i64.wrap f = f := wr_i64 _ (by omega) (by omega)
  obtain ⟨T, hT⟩ : ∃ T, 1 + t = T := ⟨_, rfl⟩
  have w3 : IntKind.i64.wrap (1 + t) = T := by rw [wr_i64 _ (by omega) (by omega)]; exact hT
  have w4 : IntKind.i64.wrap ρ = ρ := wr_i64 _ (by omega) (by omega)
  have T1 : 1 ≤ T := by omega
  have T2 : T ≤ 1000000000 := by omega
  have k3 : f ≤ 500000 := by omega
  have eN := fun h => span_New (t := T) (f := f) T1 T2 f1 k3 h
  have aw := fun h => law19_awake h
  obtain ⟨p, p1, p2, eP⟩ := within_c (n := n8) (m := f) ⟨a8, b8⟩ f1 (by omega)
  obtain ⟨v0, v01, v02, eV0⟩ := within_c (n := n12) (m := ρ) ⟨a12, b12⟩ ρ1 (by omega)
  obtain ⟨v1, v11, v12, eV1⟩ := within_c (n := n13) (m := ρ) ⟨a13, b13⟩ ρ1 (by omega)
  have w5 : IntKind.i64.wrap x0 = x0 := wr_i64 _ (by omega) (by omega)
  obtain ⟨τ0, hτ0⟩ : ∃ z, x0 + 2251799813685248 = z := ⟨_, rfl⟩
  have w6 : IntKind.i64.wrap (x0 + 2251799813685248) = τ0 := by rw [wr_i64 _ (by omega) (by omega)]; exact hτ0
  obtain ⟨τ1, hτ1⟩ : ∃ z, τ0 + y0 = z := ⟨_, rfl⟩
  obtain ⟨τ2, hτ2⟩ : ∃ z, τ1 + y1 = z := ⟨_, rfl⟩
  obtain ⟨τ3, hτ3⟩ : ∃ z, τ2 + y2 = z := ⟨_, rfl⟩
  obtain ⟨τ4, hτ4⟩ : ∃ z, τ3 + y3 = z := ⟨_, rfl⟩
  have w7 : IntKind.i64.wrap (τ0 + y0) = τ1 := by rw [wr_i64 _ (by omega) (by omega)]; exact hτ1
  have w8 : IntKind.i64.wrap (τ1 + y1) = τ2 := by rw [wr_i64 _ (by omega) (by omega)]; exact hτ2
  have w9 : IntKind.i64.wrap (τ2 + y2) = τ3 := by rw [wr_i64 _ (by omega) (by omega)]; exact hτ3
  have w10 : IntKind.i64.wrap (τ3 + y3) = τ4 := by rw [wr_i64 _ (by omega) (by omega)]; exact hτ4
  have z0 : IntKind.i64.wrap y0 = y0 := wr_i64 _ (by omega) (by omega)
  have z1 : IntKind.i64.wrap y1 = y1 := wr_i64 _ (by omega) (by omega)
  have z2 : IntKind.i64.wrap y2 = y2 := wr_i64 _ (by omega) (by omega)
  have z3 : IntKind.i64.wrap y3 = y3 := wr_i64 _ (by omega) (by omega)
  have tm0 : tim τ0 τ1 τ2 τ3 τ4 0 = (τ0, [0, 0, 0, 0, 0]) := rfl
  have tm1 : tim τ0 τ1 τ2 τ3 τ4 1 = (τ1, [τ0, 0, 0, 0, 0]) := rfl
  have tm2 : tim τ0 τ1 τ2 τ3 τ4 2 = (τ2, [τ0, τ1, 0, 0, 0]) := rfl
  have tm3 : tim τ0 τ1 τ2 τ3 τ4 3 = (τ3, [τ0, τ1, τ2, 0, 0]) := rfl
  have tm4 : tim τ0 τ1 τ2 τ3 τ4 4 = (τ4, [τ0, τ1, τ2, τ3, 0]) := rfl
  have tm5 : tim τ0 τ1 τ2 τ3 τ4 5 = (τ4, [τ0, τ1, τ2, τ3, τ4]) := rfl
  obtain ⟨B1, hB1⟩ : ∃ B, B = (⟨.tip false, .vals [.int .u64 n3, .int .u64 n4, .int .u64 n5, .int .u64 n6, .int .u64 n7, .int .i64 n8, .int .u64 n9, .int .u64 n10, .int .u64 n11, .int .i64 n12, .int .i64 n13]⟩ : ABlk) := ⟨_, rfl⟩
  have hG := fun js (hj : js.all notOld = true) => good_app (js := ⟨.tip false, .ints .u64 [n0, n1, n2]⟩ :: ⟨.tip false, .vals [.int .u64 n3, .int .u64 n4, .int .u64 n5, .int .u64 n6, .int .u64 n7, .int .i64 n8, .int .u64 n9, .int .u64 n10, .int .u64 n11, .int .i64 n12, .int .i64 n13]⟩ :: ⟨.tip false, .ints .i64 [T]⟩ :: ⟨.tip false, .vals [.int .i64 T, .int .i64 f, .bool true]⟩ :: ⟨.tip false, .ints .i64 [p]⟩ :: ⟨.tip false, .ints .i64 [τ0, τ1, τ2, τ3, τ4]⟩ :: js) hg (by simpa [notOld] using hj)
  have hP := fun js => show (g ++ ((⟨.tip false, .ints .u64 [n0, n1, n2]⟩ : ABlk) :: ⟨.tip false, .vals [.int .u64 n3, .int .u64 n4, .int .u64 n5, .int .u64 n6, .int .u64 n7, .int .i64 n8, .int .u64 n9, .int .u64 n10, .int .u64 n11, .int .i64 n12, .int .i64 n13]⟩ :: ⟨.tip false, .ints .i64 [T]⟩ :: ⟨.tip false, .vals [.int .i64 T, .int .i64 f, .bool true]⟩ :: ⟨.tip false, .ints .i64 [p]⟩ :: ⟨.tip false, .ints .i64 [τ0, τ1, τ2, τ3, τ4]⟩ :: js))[g.length + 4]? = some ⟨.tip false, .ints .i64 [p]⟩ from by rw [List.getElem?_append_right (by omega)]; simp
  have hTk := fun js => show (g ++ ((⟨.tip false, .ints .u64 [n0, n1, n2]⟩ : ABlk) :: ⟨.tip false, .vals [.int .u64 n3, .int .u64 n4, .int .u64 n5, .int .u64 n6, .int .u64 n7, .int .i64 n8, .int .u64 n9, .int .u64 n10, .int .u64 n11, .int .i64 n12, .int .i64 n13]⟩ :: ⟨.tip false, .ints .i64 [T]⟩ :: ⟨.tip false, .vals [.int .i64 T, .int .i64 f, .bool true]⟩ :: ⟨.tip false, .ints .i64 [p]⟩ :: ⟨.tip false, .ints .i64 [τ0, τ1, τ2, τ3, τ4]⟩ :: js))[g.length + 2]? = some ⟨.tip false, .ints .i64 [T]⟩ from by rw [List.getElem?_append_right (by omega)]; simp
  have hR := fun js => show Rul (g ++ ((⟨.tip false, .ints .u64 [n0, n1, n2]⟩ : ABlk) :: ⟨.tip false, .vals [.int .u64 n3, .int .u64 n4, .int .u64 n5, .int .u64 n6, .int .u64 n7, .int .i64 n8, .int .u64 n9, .int .u64 n10, .int .u64 n11, .int .i64 n12, .int .i64 n13]⟩ :: ⟨.tip false, .ints .i64 [T]⟩ :: ⟨.tip false, .vals [.int .i64 T, .int .i64 f, .bool true]⟩ :: ⟨.tip false, .ints .i64 [p]⟩ :: ⟨.tip false, .ints .i64 [τ0, τ1, τ2, τ3, τ4]⟩ :: js)) (g.length + 3) T f from
    ⟨by rw [List.getElem?_append_right (by omega)]; simp, by simp, T1, T2, f1, k3⟩
  obtain ⟨l0, l01, l02, _, eR0⟩ := reads_c (P := g.length + 4) (T := g.length + 2) (t := τ0) (p := p) (tick := T) (lag := n9) (hG [] rfl) (hP _) (hTk _) (by omega) (by omega) (by omega) (by omega) T1 T2 a9
  obtain ⟨l1, l11, l12, _, eR3⟩ := reads_c (P := g.length + 4) (T := g.length + 2) (t := τ3) (p := p) (tick := T) (lag := n10) (hG [] rfl) (hP _) (hTk _) (by omega) (by omega) (by omega) (by omega) T1 T2 a10
  have j0 := cnt_in (p := p) (t := τ0) (by omega) (by omega) (by omega) (by omega)
  have j3 := cnt_in (p := p) (t := τ3) (by omega) (by omega) (by omega) (by omega)
  have j4 := cnt_in (p := p) (t := τ4) (by omega) (by omega) (by omega) (by omega)
  obtain ⟨Lf, hLf⟩ : ∃ z, cnt p τ0 - l0 = z := ⟨_, rfl⟩
  obtain ⟨R3, hR3⟩ : ∃ z, cnt p τ3 - l1 = z := ⟨_, rfl⟩
  rw [hLf] at eR0
  rw [hR3] at eR3
  obtain ⟨tk, htk⟩ : ∃ z, τ1 + v0 = z := ⟨_, rfl⟩
  obtain ⟨gv, hgv⟩ : ∃ z, τ2 + v1 = z := ⟨_, rfl⟩
  have w11 : IntKind.i64.wrap (τ1 + v0) = tk := by rw [wr_i64 _ (by omega) (by omega)]; exact htk
  have w12 : IntKind.i64.wrap (τ2 + v1) = gv := by rw [wr_i64 _ (by omega) (by omega)]; exact hgv
  have h02 : ¬ g.length = g.length + 2 := by omega
  simp (maxDischargeDepth := 9) -implicitDefEqProofs only [push_cast, reduceIte, Nat.reduceEqDiff, Nat.reduceAdd, Nat.reduceSub, Nat.reduceMul, Nat.reduceDiv, Nat.reduceMod, Nat.reduceLT, Nat.reduceLeDiff, Nat.reduceBEq, Nat.reduceBNe, reduceCtorEq, Int.reduceEq, Int.reduceNe, Int.reduceLT, Int.reduceLE, Int.reduceToNat, Int.reduceNeg, Int.reduceAdd, Int.reduceSub, Int.reduceMul, Int.reducePow, Nat.reducePow, Int.reduceBEq, M6, h02, ht, hf, hρ, w1, w2, w3, w4, eN, aw, eP, hx0, w5, w6]
  refine wp_kRes (wp_kSeq (wp_kBlock ?_))
  refine wp_loop (fun k a h' ws => ∃ i : Nat, k = 5 - i ∧ i ≤ 5 ∧ a = [(2, .int .u8 n14), (4, .ptr (g.length + 1) 0), (7, .ptr (g.length + 2) 0), (9, .int .i64 ρ), (10, .ptr (g.length + 3) 0), (12, .ptr (g.length + 4) 0), (13, .int .i64 (tim τ0 τ1 τ2 τ3 τ4 i).1), (14, .ptr (g.length + 5) 0), (63, .int .i64 (i : Int))] ∧ h' = g ++ [⟨.tip false, .ints .u64 [n0, n1, n2]⟩, ⟨.tip false, .vals [.int .u64 n3, .int .u64 n4, .int .u64 n5, .int .u64 n6, .int .u64 n7, .int .i64 n8, .int .u64 n9, .int .u64 n10, .int .u64 n11, .int .i64 n12, .int .i64 n13]⟩, ⟨.tip false, .ints .i64 [T]⟩, ⟨.tip false, .vals [.int .i64 T, .int .i64 f, .bool true]⟩, ⟨.tip false, .ints .i64 [p]⟩, ⟨.tip false, .ints .i64 (tim τ0 τ1 τ2 τ3 τ4 i).2⟩] ∧ ws = []) 5 ?_ ?_
  · refine ⟨0, by omega, by omega, ?_, rfl, rfl⟩
    simp (maxDischargeDepth := 9) -implicitDefEqProofs only [push_cast, reduceIte, Nat.reduceEqDiff, Nat.reduceAdd, Nat.reduceSub, Nat.reduceMul, Nat.reduceDiv, Nat.reduceMod, Nat.reduceLT, Nat.reduceLeDiff, Nat.reduceBEq, Nat.reduceBNe, reduceCtorEq, Int.reduceEq, Int.reduceNe, Int.reduceLT, Int.reduceLE, Int.reduceToNat, Int.reduceNeg, Int.reduceAdd, Int.reduceSub, Int.reduceMul, Int.reducePow, Nat.reducePow, Int.reduceBEq]; try rfl
  · rintro k aa h' ws ⟨i, rfl, hi, rfl, rfl, rfl⟩
    rcases (by omega : i = 0 ∨ i = 1 ∨ i = 2 ∨ i = 3 ∨ i = 4 ∨ i = 5) with rfl | rfl | rfl | rfl | rfl | rfl
    · simp (maxDischargeDepth := 9) -implicitDefEqProofs only [push_cast, reduceIte, Nat.reduceEqDiff, Nat.reduceAdd, Nat.reduceSub, Nat.reduceMul, Nat.reduceDiv, Nat.reduceMod, Nat.reduceLT, Nat.reduceLeDiff, Nat.reduceBEq, Nat.reduceBNe, reduceCtorEq, Int.reduceEq, Int.reduceNe, Int.reduceLT, Int.reduceLE, Int.reduceToNat, Int.reduceNeg, Int.reduceAdd, Int.reduceSub, Int.reduceMul, Int.reducePow, Nat.reducePow, Int.reduceBEq, tm0, hy0, z0, w7]
      refine loop_next (5 - 1) (by omega) ⟨1, rfl, by omega, ?_, by rw [tm1], rfl⟩
      simp (maxDischargeDepth := 9) -implicitDefEqProofs only [push_cast, reduceIte, Nat.reduceEqDiff, Nat.reduceAdd, Nat.reduceSub, Nat.reduceMul, Nat.reduceDiv, Nat.reduceMod, Nat.reduceLT, Nat.reduceLeDiff, Nat.reduceBEq, Nat.reduceBNe, reduceCtorEq, Int.reduceEq, Int.reduceNe, Int.reduceLT, Int.reduceLE, Int.reduceToNat, Int.reduceNeg, Int.reduceAdd, Int.reduceSub, Int.reduceMul, Int.reducePow, Nat.reducePow, Int.reduceBEq, tm1]; try rfl
    · simp (maxDischargeDepth := 9) -implicitDefEqProofs only [push_cast, reduceIte, Nat.reduceEqDiff, Nat.reduceAdd, Nat.reduceSub, Nat.reduceMul, Nat.reduceDiv, Nat.reduceMod, Nat.reduceLT, Nat.reduceLeDiff, Nat.reduceBEq, Nat.reduceBNe, reduceCtorEq, Int.reduceEq, Int.reduceNe, Int.reduceLT, Int.reduceLE, Int.reduceToNat, Int.reduceNeg, Int.reduceAdd, Int.reduceSub, Int.reduceMul, Int.reducePow, Nat.reducePow, Int.reduceBEq, tm1, hy1, z1, w8]
      refine loop_next (5 - 2) (by omega) ⟨2, rfl, by omega, ?_, by rw [tm2], rfl⟩
      simp (maxDischargeDepth := 9) -implicitDefEqProofs only [push_cast, reduceIte, Nat.reduceEqDiff, Nat.reduceAdd, Nat.reduceSub, Nat.reduceMul, Nat.reduceDiv, Nat.reduceMod, Nat.reduceLT, Nat.reduceLeDiff, Nat.reduceBEq, Nat.reduceBNe, reduceCtorEq, Int.reduceEq, Int.reduceNe, Int.reduceLT, Int.reduceLE, Int.reduceToNat, Int.reduceNeg, Int.reduceAdd, Int.reduceSub, Int.reduceMul, Int.reducePow, Nat.reducePow, Int.reduceBEq, tm2]; try rfl
    · simp (maxDischargeDepth := 9) -implicitDefEqProofs only [push_cast, reduceIte, Nat.reduceEqDiff, Nat.reduceAdd, Nat.reduceSub, Nat.reduceMul, Nat.reduceDiv, Nat.reduceMod, Nat.reduceLT, Nat.reduceLeDiff, Nat.reduceBEq, Nat.reduceBNe, reduceCtorEq, Int.reduceEq, Int.reduceNe, Int.reduceLT, Int.reduceLE, Int.reduceToNat, Int.reduceNeg, Int.reduceAdd, Int.reduceSub, Int.reduceMul, Int.reducePow, Nat.reducePow, Int.reduceBEq, tm2, hy2, z2, w9]
      refine loop_next (5 - 3) (by omega) ⟨3, rfl, by omega, ?_, by rw [tm3], rfl⟩
      simp (maxDischargeDepth := 9) -implicitDefEqProofs only [push_cast, reduceIte, Nat.reduceEqDiff, Nat.reduceAdd, Nat.reduceSub, Nat.reduceMul, Nat.reduceDiv, Nat.reduceMod, Nat.reduceLT, Nat.reduceLeDiff, Nat.reduceBEq, Nat.reduceBNe, reduceCtorEq, Int.reduceEq, Int.reduceNe, Int.reduceLT, Int.reduceLE, Int.reduceToNat, Int.reduceNeg, Int.reduceAdd, Int.reduceSub, Int.reduceMul, Int.reducePow, Nat.reducePow, Int.reduceBEq, tm3]; try rfl
    · simp (maxDischargeDepth := 9) -implicitDefEqProofs only [push_cast, reduceIte, Nat.reduceEqDiff, Nat.reduceAdd, Nat.reduceSub, Nat.reduceMul, Nat.reduceDiv, Nat.reduceMod, Nat.reduceLT, Nat.reduceLeDiff, Nat.reduceBEq, Nat.reduceBNe, reduceCtorEq, Int.reduceEq, Int.reduceNe, Int.reduceLT, Int.reduceLE, Int.reduceToNat, Int.reduceNeg, Int.reduceAdd, Int.reduceSub, Int.reduceMul, Int.reducePow, Nat.reducePow, Int.reduceBEq, tm3, hy3, z3, w10]
      refine loop_next (5 - 4) (by omega) ⟨4, rfl, by omega, ?_, by rw [tm4], rfl⟩
      simp (maxDischargeDepth := 9) -implicitDefEqProofs only [push_cast, reduceIte, Nat.reduceEqDiff, Nat.reduceAdd, Nat.reduceSub, Nat.reduceMul, Nat.reduceDiv, Nat.reduceMod, Nat.reduceLT, Nat.reduceLeDiff, Nat.reduceBEq, Nat.reduceBNe, reduceCtorEq, Int.reduceEq, Int.reduceNe, Int.reduceLT, Int.reduceLE, Int.reduceToNat, Int.reduceNeg, Int.reduceAdd, Int.reduceSub, Int.reduceMul, Int.reducePow, Nat.reducePow, Int.reduceBEq, tm4]; try rfl
    · simp (maxDischargeDepth := 9) -implicitDefEqProofs only [push_cast, reduceIte, Nat.reduceEqDiff, Nat.reduceAdd, Nat.reduceSub, Nat.reduceMul, Nat.reduceDiv, Nat.reduceMod, Nat.reduceLT, Nat.reduceLeDiff, Nat.reduceBEq, Nat.reduceBNe, reduceCtorEq, Int.reduceEq, Int.reduceNe, Int.reduceLT, Int.reduceLE, Int.reduceToNat, Int.reduceNeg, Int.reduceAdd, Int.reduceSub, Int.reduceMul, Int.reducePow, Nat.reducePow, Int.reduceBEq, tm4]
      refine loop_next (5 - 5) (by omega) ⟨5, rfl, by omega, ?_, by rw [tm5], rfl⟩
      simp (maxDischargeDepth := 9) -implicitDefEqProofs only [push_cast, reduceIte, Nat.reduceEqDiff, Nat.reduceAdd, Nat.reduceSub, Nat.reduceMul, Nat.reduceDiv, Nat.reduceMod, Nat.reduceLT, Nat.reduceLeDiff, Nat.reduceBEq, Nat.reduceBNe, reduceCtorEq, Int.reduceEq, Int.reduceNe, Int.reduceLT, Int.reduceLE, Int.reduceToNat, Int.reduceNeg, Int.reduceAdd, Int.reduceSub, Int.reduceMul, Int.reducePow, Nat.reducePow, Int.reduceBEq, tm5]; try rfl
    · by_cases hcm : R3 < Lf
      · clear w7
        obtain ⟨d, hd⟩ : ∃ z, Lf - Lf = z := ⟨_, rfl⟩
        have c0 := sound_up (T := T) (f := f) (p := p) (t := τ0) (t' := τ3) (l := l0) (l' := l1) (d := d) T1 T2 f1 k3 (by omega) (by omega) l01 l12 (by omega) (by omega) (by omega)
        have c1 := upV_le (t := T) (f := f) (x := d) T1 T2 f1 k3 (by omega) (by omega)
        obtain ⟨lo, hlo⟩ : ∃ z, gv - ρ = z := ⟨_, rfl⟩
        obtain ⟨hi', hhi⟩ : ∃ z, tk + ρ + 1 + upV T f d = z := ⟨_, rfl⟩
        have eO := Of_ok (lo := lo) (hi := hi') (left := Lf) (came := Lf) (took := tk) (gave := gv) (rho := ρ) (hG [] rfl) (hR _) (by omega) (by omega) (by omega) (by omega) (by omega) (by omega) ρ1 (by omega) hlo (by rw [hd, hhi]) (by omega) (by omega)
        have m1 : mayS Lf lo hi' = true := mayS_iff.2 ⟨⟨by omega, by omega⟩, by omega, by omega, by omega⟩
        have eM := fun h => span_May (a := Lf) (l := lo) (u := hi') h
        rw [m1] at eM
        have eH := fun h => span_Has (a := Lf) (l := lo) (u := hi') (t := τ3) h
        have m2 : hasS Lf lo hi' τ3 = true := by unfold hasS; rw [m1]; simp only [Bool.true_and, Bool.and_eq_true, decide_eq_true_eq]; omega
        rw [m2] at eH
        obtain ⟨l2, l21, l22, _, eR4⟩ := reads_c (P := g.length + 4) (T := g.length + 2) (t := τ4) (p := p) (tick := T) (lag := n11) (hG [⟨.tip false, .ints .i64 [Lf, lo, hi']⟩] rfl) (hP _) (hTk _) (by omega) (by omega) (by omega) (by omega) T1 T2 a11
        obtain ⟨R4, hR4⟩ : ∃ z, cnt p τ4 - l2 = z := ⟨_, rfl⟩
        rw [hR4] at eR4
        obtain ⟨lt, hlt2, lt1, lt2, lt3⟩ : ∃ z, (if R4 < Lf then Lf else R4) = z ∧ Lf ≤ z ∧ R4 ≤ z ∧ (z = Lf ∨ z = R4) := by
          by_cases hh : R4 < Lf
          · exact ⟨Lf, if_pos hh, by omega, by omega, Or.inl rfl⟩
          · exact ⟨R4, if_neg hh, by omega, by omega, Or.inr rfl⟩
        obtain ⟨e, he⟩ : ∃ z, lt - Lf = z := ⟨_, rfl⟩
        have e0 : 0 ≤ e ∧ e ≤ 700000000000000000 := by omega
        have c2 := upV_le (t := T) (f := f) (x := e) T1 T2 f1 k3 (by omega) (by omega)
        have c3 := upV_down (t := T) (f := f) (x := e) T1 T2 f1 k3 (by omega) (by omega)
        have c4 : lo + downV T f e ≤ τ4 := by
          rcases lt3 with h | h
          · have : downV T f e = 0 := downV_neg T1 f1 k3 (by omega)
            omega
          · have := sound_down (T := T) (f := f) (p := p) (t := τ3) (t' := τ4) (l := l1) (l' := l2) (d := e) T1 T2 f1 k3 (by omega) (by omega) l21 l12 (by omega) (by omega) (by omega)
            omega
        have c5 : τ4 ≤ hi' + upV T f e := by
          have := sound_up (T := T) (f := f) (p := p) (t := τ0) (t' := τ4) (l := l0) (l' := l2) (d := e) T1 T2 f1 k3 (by omega) (by omega) l01 l22 (by omega) (by omega) (by omega)
          omega
        obtain ⟨la, hla⟩ : ∃ z, lo + downV T f e = z := ⟨_, rfl⟩
        obtain ⟨ua, hua⟩ : ∃ z, hi' + upV T f e = z := ⟨_, rfl⟩
        have eA := Age_ok (a := Lf) (l := lo) (u := hi') (raw := lt) (l' := la) (u' := ua) (hG [⟨.tip false, .ints .i64 [Lf, lo, hi']⟩] rfl) (hR _) (by omega) lt1 (by omega) (by omega) (by omega) (by omega) (by rw [he, hla]) (by rw [he, hua]) (by omega) (by omega)
        have m3 : mayS lt la ua = true := mayS_iff.2 ⟨⟨by omega, by omega⟩, by omega, by omega, by omega⟩
        have eHa := fun h => span_Has (a := lt) (l := la) (u := ua) (t := τ4) h
        have m4 : hasS lt la ua τ4 = true := by unfold hasS; rw [m3]; simp only [Bool.true_and, Bool.and_eq_true, decide_eq_true_eq]; omega
        rw [m4] at eHa
        have eWs := fun h => span_Width (a := Lf) (l := lo) (u := hi') h
        have eWa := fun h => span_Width (a := lt) (l := la) (u := ua) h
        have m5 : widS Lf lo hi' = hi' - lo := by unfold widS; rw [m1, if_pos rfl]
        have m6 : widS lt la ua = ua - la := by unfold widS; rw [m3, if_pos rfl]
        rw [m5] at eWs
        rw [m6] at eWa
        have m7 : ¬ ua - la < hi' - lo := by omega
        have w13 : IntKind.i64.wrap (lt - Lf) = e := by rw [wr_i64 _ (by omega) (by omega)]; exact he
        obtain ⟨q, hq⟩ : ∃ q, e / 256 = q := ⟨_, rfl⟩
        have q1 : 0 ≤ q ∧ q * 256 ≤ e := by omega
        have w14 : e.tdiv 256 = q := by rw [Int.tdiv_eq_ediv_of_nonneg (by omega)]; exact hq
        have w15 : IntKind.i64.wrap q = q := wr_i64 _ (by omega) (by omega)
        have w16 : IntKind.i64.wrap n14 = n14 := wr_i64 _ (by omega) (by omega)
        have q2 : 0 ≤ q * n14 := Int.mul_nonneg q1.1 a14
        have q3 : q * n14 ≤ q * 256 := Int.mul_le_mul_of_nonneg_left (by omega) q1.1
        obtain ⟨x, hx⟩ : ∃ z, q * n14 = z := ⟨_, rfl⟩
        rw [hx] at q2 q3
        have w17 : IntKind.i64.wrap (q * n14) = x := by rw [hx]; exact wr_i64 _ (by omega) (by omega)
        obtain ⟨md, hmd⟩ : ∃ z, Lf + x = z := ⟨_, rfl⟩
        have w18 : IntKind.i64.wrap (Lf + x) = md := by rw [wr_i64 _ (by omega) (by omega)]; exact hmd
        obtain ⟨e2, he2⟩ : ∃ z, md - Lf = z := ⟨_, rfl⟩
        obtain ⟨e3, he3⟩ : ∃ z, lt - md = z := ⟨_, rfl⟩
        have s0 : e2 + e3 = e := by omega
        have s1 := upV_add (x := e2) (y := e3) T1 T2 f1 k3 (by omega) (by omega) (by omega)
        have s2 := downV_add (x := e2) (y := e3) T1 T2 f1 k3 (by omega) (by omega) (by omega)
        rw [s0] at s1 s2
        have s3 := upV_le (t := T) (f := f) (x := e2) T1 T2 f1 k3 (by omega) (by omega)
        have s4 := upV_down (t := T) (f := f) (x := e2) T1 T2 f1 k3 (by omega) (by omega)
        have s5 := upV_le (t := T) (f := f) (x := e3) T1 T2 f1 k3 (by omega) (by omega)
        have s6 := upV_down (t := T) (f := f) (x := e3) T1 T2 f1 k3 (by omega) (by omega)
        obtain ⟨lb, hlb⟩ : ∃ z, lo + downV T f e2 = z := ⟨_, rfl⟩
        obtain ⟨ub, hub⟩ : ∃ z, hi' + upV T f e2 = z := ⟨_, rfl⟩
        obtain ⟨lc, hlc⟩ : ∃ z, lb + downV T f e3 = z := ⟨_, rfl⟩
        obtain ⟨uc, huc⟩ : ∃ z, ub + upV T f e3 = z := ⟨_, rfl⟩
        have eB := Age_ok (a := Lf) (l := lo) (u := hi') (raw := md) (l' := lb) (u' := ub) (hG [⟨.tip false, .ints .i64 [Lf, lo, hi']⟩, ⟨.tip false, .ints .i64 [lt, la, ua]⟩] rfl) (hR _) (by omega) (by omega) (by omega) (by omega) (by omega) (by omega) (by rw [he2, hlb]) (by rw [he2, hub]) (by omega) (by omega)
        have eC := Age_ok (a := md) (l := lb) (u := ub) (raw := lt) (l' := lc) (u' := uc) (hG [⟨.tip false, .ints .i64 [Lf, lo, hi']⟩, ⟨.tip false, .ints .i64 [lt, la, ua]⟩, ⟨.tip false, .ints .i64 [md, lb, ub]⟩] rfl) (hR _) (by omega) (by omega) (by omega) (by omega) (by omega) (by omega) (by rw [he3, hlc]) (by rw [he3, huc]) (by omega) (by omega)
        have m8 : mayS lt lc uc = true := mayS_iff.2 ⟨⟨by omega, by omega⟩, by omega, by omega, by omega⟩
        have eHc := fun h => span_Has (a := lt) (l := lc) (u := uc) (t := τ4) h
        have m9 : hasS lt lc uc τ4 = true := by unfold hasS; rw [m8]; simp only [Bool.true_and, Bool.and_eq_true, decide_eq_true_eq]; omega
        rw [m9] at eHc
        have u1 : lc ≤ la := by omega
        have u2 : ua ≤ uc := by omega
        simp (maxDischargeDepth := 9) -implicitDefEqProofs only [push_cast, reduceIte, Nat.reduceEqDiff, Nat.reduceAdd, Nat.reduceSub, Nat.reduceMul, Nat.reduceDiv, Nat.reduceMod, Nat.reduceLT, Nat.reduceLeDiff, Nat.reduceBEq, Nat.reduceBNe, reduceCtorEq, Int.reduceEq, Int.reduceNe, Int.reduceLT, Int.reduceLE, Int.reduceToNat, Int.reduceNeg, Int.reduceAdd, Int.reduceSub, Int.reduceMul, Int.reducePow, Nat.reducePow, Int.reduceBEq, tm5, eR0, eR3, hcm, eV0, eV1, w11, w12, eO, eM, eH, eR4, hlt2, eA, eHa, eWs, eWa, m7, w13, w14, w15, w16, w17, w18, eB, eC, u1, u2, eHc]
      · clear w7
        obtain ⟨d, hd⟩ : ∃ z, R3 - Lf = z := ⟨_, rfl⟩
        have c0 := sound_up (T := T) (f := f) (p := p) (t := τ0) (t' := τ3) (l := l0) (l' := l1) (d := d) T1 T2 f1 k3 (by omega) (by omega) l01 l12 (by omega) (by omega) (by omega)
        have c1 := upV_le (t := T) (f := f) (x := d) T1 T2 f1 k3 (by omega) (by omega)
        obtain ⟨lo, hlo⟩ : ∃ z, gv - ρ = z := ⟨_, rfl⟩
        obtain ⟨hi', hhi⟩ : ∃ z, tk + ρ + 1 + upV T f d = z := ⟨_, rfl⟩
        have eO := Of_ok (lo := lo) (hi := hi') (left := Lf) (came := R3) (took := tk) (gave := gv) (rho := ρ) (hG [] rfl) (hR _) (by omega) (by omega) (by omega) (by omega) (by omega) (by omega) ρ1 (by omega) hlo (by rw [hd, hhi]) (by omega) (by omega)
        have m1 : mayS R3 lo hi' = true := mayS_iff.2 ⟨⟨by omega, by omega⟩, by omega, by omega, by omega⟩
        have eM := fun h => span_May (a := R3) (l := lo) (u := hi') h
        rw [m1] at eM
        have eH := fun h => span_Has (a := R3) (l := lo) (u := hi') (t := τ3) h
        have m2 : hasS R3 lo hi' τ3 = true := by unfold hasS; rw [m1]; simp only [Bool.true_and, Bool.and_eq_true, decide_eq_true_eq]; omega
        rw [m2] at eH
        obtain ⟨l2, l21, l22, _, eR4⟩ := reads_c (P := g.length + 4) (T := g.length + 2) (t := τ4) (p := p) (tick := T) (lag := n11) (hG [⟨.tip false, .ints .i64 [R3, lo, hi']⟩] rfl) (hP _) (hTk _) (by omega) (by omega) (by omega) (by omega) T1 T2 a11
        obtain ⟨R4, hR4⟩ : ∃ z, cnt p τ4 - l2 = z := ⟨_, rfl⟩
        rw [hR4] at eR4
        obtain ⟨lt, hlt2, lt1, lt2, lt3⟩ : ∃ z, (if R4 < R3 then R3 else R4) = z ∧ R3 ≤ z ∧ R4 ≤ z ∧ (z = R3 ∨ z = R4) := by
          by_cases hh : R4 < R3
          · exact ⟨R3, if_pos hh, by omega, by omega, Or.inl rfl⟩
          · exact ⟨R4, if_neg hh, by omega, by omega, Or.inr rfl⟩
        obtain ⟨e, he⟩ : ∃ z, lt - R3 = z := ⟨_, rfl⟩
        have e0 : 0 ≤ e ∧ e ≤ 700000000000000000 := by omega
        have c2 := upV_le (t := T) (f := f) (x := e) T1 T2 f1 k3 (by omega) (by omega)
        have c3 := upV_down (t := T) (f := f) (x := e) T1 T2 f1 k3 (by omega) (by omega)
        have c4 : lo + downV T f e ≤ τ4 := by
          rcases lt3 with h | h
          · have : downV T f e = 0 := downV_neg T1 f1 k3 (by omega)
            omega
          · have := sound_down (T := T) (f := f) (p := p) (t := τ3) (t' := τ4) (l := l1) (l' := l2) (d := e) T1 T2 f1 k3 (by omega) (by omega) l21 l12 (by omega) (by omega) (by omega)
            omega
        have c5 : τ4 ≤ hi' + upV T f e := by
          have := sound_up (T := T) (f := f) (p := p) (t := τ3) (t' := τ4) (l := l1) (l' := l2) (d := e) T1 T2 f1 k3 (by omega) (by omega) l11 l22 (by omega) (by omega) (by omega)
          omega
        obtain ⟨la, hla⟩ : ∃ z, lo + downV T f e = z := ⟨_, rfl⟩
        obtain ⟨ua, hua⟩ : ∃ z, hi' + upV T f e = z := ⟨_, rfl⟩
        have eA := Age_ok (a := R3) (l := lo) (u := hi') (raw := lt) (l' := la) (u' := ua) (hG [⟨.tip false, .ints .i64 [R3, lo, hi']⟩] rfl) (hR _) (by omega) lt1 (by omega) (by omega) (by omega) (by omega) (by rw [he, hla]) (by rw [he, hua]) (by omega) (by omega)
        have m3 : mayS lt la ua = true := mayS_iff.2 ⟨⟨by omega, by omega⟩, by omega, by omega, by omega⟩
        have eHa := fun h => span_Has (a := lt) (l := la) (u := ua) (t := τ4) h
        have m4 : hasS lt la ua τ4 = true := by unfold hasS; rw [m3]; simp only [Bool.true_and, Bool.and_eq_true, decide_eq_true_eq]; omega
        rw [m4] at eHa
        have eWs := fun h => span_Width (a := R3) (l := lo) (u := hi') h
        have eWa := fun h => span_Width (a := lt) (l := la) (u := ua) h
        have m5 : widS R3 lo hi' = hi' - lo := by unfold widS; rw [m1, if_pos rfl]
        have m6 : widS lt la ua = ua - la := by unfold widS; rw [m3, if_pos rfl]
        rw [m5] at eWs
        rw [m6] at eWa
        have m7 : ¬ ua - la < hi' - lo := by omega
        have w13 : IntKind.i64.wrap (lt - R3) = e := by rw [wr_i64 _ (by omega) (by omega)]; exact he
        obtain ⟨q, hq⟩ : ∃ q, e / 256 = q := ⟨_, rfl⟩
        have q1 : 0 ≤ q ∧ q * 256 ≤ e := by omega
        have w14 : e.tdiv 256 = q := by rw [Int.tdiv_eq_ediv_of_nonneg (by omega)]; exact hq
        have w15 : IntKind.i64.wrap q = q := wr_i64 _ (by omega) (by omega)
        have w16 : IntKind.i64.wrap n14 = n14 := wr_i64 _ (by omega) (by omega)
        have q2 : 0 ≤ q * n14 := Int.mul_nonneg q1.1 a14
        have q3 : q * n14 ≤ q * 256 := Int.mul_le_mul_of_nonneg_left (by omega) q1.1
        obtain ⟨x, hx⟩ : ∃ z, q * n14 = z := ⟨_, rfl⟩
        rw [hx] at q2 q3
        have w17 : IntKind.i64.wrap (q * n14) = x := by rw [hx]; exact wr_i64 _ (by omega) (by omega)
        obtain ⟨md, hmd⟩ : ∃ z, R3 + x = z := ⟨_, rfl⟩
        have w18 : IntKind.i64.wrap (R3 + x) = md := by rw [wr_i64 _ (by omega) (by omega)]; exact hmd
        obtain ⟨e2, he2⟩ : ∃ z, md - R3 = z := ⟨_, rfl⟩
        obtain ⟨e3, he3⟩ : ∃ z, lt - md = z := ⟨_, rfl⟩
        have s0 : e2 + e3 = e := by omega
        have s1 := upV_add (x := e2) (y := e3) T1 T2 f1 k3 (by omega) (by omega) (by omega)
        have s2 := downV_add (x := e2) (y := e3) T1 T2 f1 k3 (by omega) (by omega) (by omega)
        rw [s0] at s1 s2
        have s3 := upV_le (t := T) (f := f) (x := e2) T1 T2 f1 k3 (by omega) (by omega)
        have s4 := upV_down (t := T) (f := f) (x := e2) T1 T2 f1 k3 (by omega) (by omega)
        have s5 := upV_le (t := T) (f := f) (x := e3) T1 T2 f1 k3 (by omega) (by omega)
        have s6 := upV_down (t := T) (f := f) (x := e3) T1 T2 f1 k3 (by omega) (by omega)
        obtain ⟨lb, hlb⟩ : ∃ z, lo + downV T f e2 = z := ⟨_, rfl⟩
        obtain ⟨ub, hub⟩ : ∃ z, hi' + upV T f e2 = z := ⟨_, rfl⟩
        obtain ⟨lc, hlc⟩ : ∃ z, lb + downV T f e3 = z := ⟨_, rfl⟩
        obtain ⟨uc, huc⟩ : ∃ z, ub + upV T f e3 = z := ⟨_, rfl⟩
        have eB := Age_ok (a := R3) (l := lo) (u := hi') (raw := md) (l' := lb) (u' := ub) (hG [⟨.tip false, .ints .i64 [R3, lo, hi']⟩, ⟨.tip false, .ints .i64 [lt, la, ua]⟩] rfl) (hR _) (by omega) (by omega) (by omega) (by omega) (by omega) (by omega) (by rw [he2, hlb]) (by rw [he2, hub]) (by omega) (by omega)
        have eC := Age_ok (a := md) (l := lb) (u := ub) (raw := lt) (l' := lc) (u' := uc) (hG [⟨.tip false, .ints .i64 [R3, lo, hi']⟩, ⟨.tip false, .ints .i64 [lt, la, ua]⟩, ⟨.tip false, .ints .i64 [md, lb, ub]⟩] rfl) (hR _) (by omega) (by omega) (by omega) (by omega) (by omega) (by omega) (by rw [he3, hlc]) (by rw [he3, huc]) (by omega) (by omega)
        have m8 : mayS lt lc uc = true := mayS_iff.2 ⟨⟨by omega, by omega⟩, by omega, by omega, by omega⟩
        have eHc := fun h => span_Has (a := lt) (l := lc) (u := uc) (t := τ4) h
        have m9 : hasS lt lc uc τ4 = true := by unfold hasS; rw [m8]; simp only [Bool.true_and, Bool.and_eq_true, decide_eq_true_eq]; omega
        rw [m9] at eHc
        have u1 : lc ≤ la := by omega
        have u2 : ua ≤ uc := by omega
        simp (maxDischargeDepth := 9) -implicitDefEqProofs only [push_cast, reduceIte, Nat.reduceEqDiff, Nat.reduceAdd, Nat.reduceSub, Nat.reduceMul, Nat.reduceDiv, Nat.reduceMod, Nat.reduceLT, Nat.reduceLeDiff, Nat.reduceBEq, Nat.reduceBNe, reduceCtorEq, Int.reduceEq, Int.reduceNe, Int.reduceLT, Int.reduceLE, Int.reduceToNat, Int.reduceNeg, Int.reduceAdd, Int.reduceSub, Int.reduceMul, Int.reducePow, Nat.reducePow, Int.reduceBEq, tm5, eR0, eR3, hcm, eV0, eV1, w11, w12, eO, eM, eH, eR4, hlt2, eA, eHa, eWs, eWa, m7, w13, w14, w15, w16, w17, w18, eB, eC, u1, u2, eHc]
theorem sound_law (js : AHeap) (avs : List AV) (hx : Ext js) (ht : TyA (CP.gl ++ js) [.agg [.i .u64, .i .u64, .i .u64], .agg [.i .u64, .i .u64, .i .u64, .i .u64, .i .u64, .i .i64, .i .u64, .i .u64, .i .u64, .i .i64, .i .i64], .one (.i .u8)] avs) : ∃ h' ws, W CP 6 avs (CP.gl ++ js) = some (.bool true, h', ws) := by
  simp only [TyA] at ht
  obtain ⟨cs0, _, rfl, k0, cs1, _, rfl, k1, cs2, _, rfl, k2, rfl⟩ := ht
  simp only [TyL, Ty] at k0 k1 k2
  obtain ⟨_, _, rfl, ⟨n0, rfl, a0, b0⟩, _, _, rfl, ⟨n1, rfl, a1, b1⟩, _, _, rfl, ⟨n2, rfl, a2, b2⟩, rfl⟩ := k0
  obtain ⟨_, _, rfl, ⟨n3, rfl, a3, b3⟩, _, _, rfl, ⟨n4, rfl, a4, b4⟩, _, _, rfl, ⟨n5, rfl, a5, b5⟩, _, _, rfl, ⟨n6, rfl, a6, b6⟩, _, _, rfl, ⟨n7, rfl, a7, b7⟩, _, _, rfl, ⟨n8, rfl, a8, b8⟩, _, _, rfl, ⟨n9, rfl, a9, b9⟩, _, _, rfl, ⟨n10, rfl, a10, b10⟩, _, _, rfl, ⟨n11, rfl, a11, b11⟩, _, _, rfl, ⟨n12, rfl, a12, b12⟩, _, _, rfl, ⟨n13, rfl, a13, b13⟩, rfl⟩ := k1
  obtain ⟨n14, rfl, a14, b14⟩ := k2
  have a0' : 0 ≤ n0 := a0
  have b0' : n0 ≤ 18446744073709551615 := b0
  have a1' : 0 ≤ n1 := a1
  have b1' : n1 ≤ 18446744073709551615 := b1
  have a2' : 0 ≤ n2 := a2
  have b2' : n2 ≤ 18446744073709551615 := b2
  have a3' : 0 ≤ n3 := a3
  have b3' : n3 ≤ 18446744073709551615 := b3
  have a4' : 0 ≤ n4 := a4
  have b4' : n4 ≤ 18446744073709551615 := b4
  have a5' : 0 ≤ n5 := a5
  have b5' : n5 ≤ 18446744073709551615 := b5
  have a6' : 0 ≤ n6 := a6
  have b6' : n6 ≤ 18446744073709551615 := b6
  have a7' : 0 ≤ n7 := a7
  have b7' : n7 ≤ 18446744073709551615 := b7
  have a8' : -9223372036854775808 ≤ n8 := a8
  have b8' : n8 ≤ 9223372036854775807 := b8
  have a9' : 0 ≤ n9 := a9
  have b9' : n9 ≤ 18446744073709551615 := b9
  have a10' : 0 ≤ n10 := a10
  have b10' : n10 ≤ 18446744073709551615 := b10
  have a11' : 0 ≤ n11 := a11
  have b11' : n11 ≤ 18446744073709551615 := b11
  have a12' : -9223372036854775808 ≤ n12 := a12
  have b12' : n12 ≤ 9223372036854775807 := b12
  have a13' : -9223372036854775808 ≤ n13 := a13
  have b13' : n13 ≤ 9223372036854775807 := b13
  have a14' : 0 ≤ n14 := a14
  have b14' : n14 ≤ 255 := b14
  exact W_law (m := M6) (fun _ => rfl) rfl (sound_body _ (good_ext hx) n0 n1 n2 n3 n4 n5 n6 n7 n8 n9 n10 n11 n12 n13 n14 a0' b0' a1' b1' a2' b2' a3' b3' a4' b4' a5' b5' a6' b6' a7' b7' a8' b8' a9' b9' a10' b10' a11' b11' a12' b12' a13' b13' a14' b14') fun _ => sound_body _ good_gl n0 n1 n2 n3 n4 n5 n6 n7 n8 n9 n10 n11 n12 n13 n14 a0' b0' a1' b1' a2' b2' a3' b3' a4' b4' a5' b5' a6' b6' a7' b7' a8' b8' a9' b9' a10' b10' a11' b11' a12' b12' a13' b13' a14' b14'
theorem sound_kinds : aksOf X.P 20 [42, 50, 5] = some [.agg [.i .u64, .i .u64, .i .u64], .agg [.i .u64, .i .u64, .i .u64, .i .u64, .i .u64, .i .i64, .i .u64, .i .u64, .i .u64, .i .i64, .i .i64], .one (.i .u8)] := by kernel_rfl
end Go.Proofs.YtcpiohklljppaaaW.AI.D
