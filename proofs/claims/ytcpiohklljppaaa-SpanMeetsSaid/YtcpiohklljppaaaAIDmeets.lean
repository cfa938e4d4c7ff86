import Derived.Test.YtcpiohklljppaaaAIDgrows
namespace Go.Proofs.YtcpiohklljppaaaW.AI.D
open Go Go.Proofs.YtcpiohklljppaaaW.AI
set_option maxRecDepth 100000
set_option linter.unusedVariables false
set_option linter.unusedSimpArgs false
theorem meets_made (p q : Int) (h1 : 0 ≤ p) (h2 : 0 ≤ q) : ∃ l u : Int, 0 ≤ l ∧ l ≤ u ∧ u < 2305843009213693952 ∧ ∀ h, W CP 32 [.agg [.int .u64 p, .int .u64 q]] h = some (spA 7 l u, h, []) := by
  obtain ⟨x, hx, x1, x2⟩ := tmod_to 2305843009213693952 h1 (by omega)
  obtain ⟨y, hy, y1, y2⟩ := tmod_to 2305843009213693952 h2 (by omega)
  have w1 : IntKind.i64.wrap x = x := wr_i64 _ (by omega) (by omega)
  have w2 : IntKind.i64.wrap y = y := wr_i64 _ (by omega) (by omega)
  obtain ⟨m, n, hm, hn, m0, mn, n2⟩ : ∃ m n : Int, (if y < x then y else x) = m ∧ (if x < y then y else x) = n ∧ 0 ≤ m ∧ m ≤ n ∧ n < 2305843009213693952 := by
    by_cases h : x < y
    · exact ⟨x, y, by rw [if_neg (by omega)], by rw [if_pos h], by omega, by omega, by omega⟩
    · by_cases h' : y < x
      · exact ⟨y, x, by rw [if_pos h'], by rw [if_neg h], by omega, by omega, by omega⟩
      · exact ⟨x, x, by rw [if_neg h'], by rw [if_neg h], by omega, by omega, by omega⟩
  refine ⟨m, n, m0, mn, n2, fun h => W_val (m := M32) (fun _ => rfl) rfl rfl rfl ?_ h⟩
  simp (maxDischargeDepth := 9) -implicitDefEqProofs only [push_cast, reduceIte, Nat.reduceEqDiff, Nat.reduceAdd, Nat.reduceSub, Nat.reduceMul, Nat.reduceDiv, Nat.reduceMod, Nat.reduceLT, Nat.reduceLeDiff, Nat.reduceBEq, Nat.reduceBNe, reduceCtorEq, Int.reduceEq, Int.reduceNe, Int.reduceLT, Int.reduceLE, Int.reduceToNat, Int.reduceNeg, Int.reduceAdd, Int.reduceSub, Int.reduceMul, Int.reducePow, Nat.reducePow, Int.reduceBEq, M32, hx, hy, w1, w2, hm, hn]
set_option maxHeartbeats 8000000 in
theorem meets_body (g : AHeap) (hg : Good g) (p q r s t l u l' u' A B M0 M1 M2 mx my wx wy wm wn : Int) (is : Bool)
    (e1 : ∀ h, W CP 32 [.agg [.int .u64 p, .int .u64 q]] h = some (spA 7 l u, h, []))
    (e2 : ∀ h, W CP 32 [.agg [.int .u64 r, .int .u64 s]] h = some (spA 7 l' u', h, []))
    (eM : ∀ h, W CP 33 [spA 7 l u, spA 7 l' u'] h = some (.tup [spA M0 M1 M2, .bool is], h, []))
    (eN : ∀ h, W CP 33 [spA 7 l' u', spA 7 l u] h = some (.tup [spA M0 M1 M2, .bool is], h, []))
    (eS : ∀ h, W CP 33 [spA 7 l u, spA 7 l u] h = some (.tup [spA 7 l u, .bool true], h, []))
    (eZ : ∀ h, W CP 33 [spA 7 l u, spA 8 l' u'] h = some (.tup [spA 0 0 0, .bool false], h, []))
    (hA : (if l < l' then l' else l) = A) (hB : (if u' < u then u' else u) = B) (hAB : decide (A ≤ B) = is)
    (hH : ∀ k, (hasS 7 l u k && hasS 7 l' u' k) = (is && hasS M0 M1 M2 k))
    (hmx : midS 7 l u = mx) (hmy : midS 7 l' u' = my) (hhm : hasS 7 l u mx = true)
    (hwx : widS 7 l u = wx) (hwy : widS 7 l' u' = wy) (hwm : widS M0 M1 M2 = wm) (hwn : (if wy < wx then wy else wx) = wn) (hw : is = true → wm ≤ wn) (ht : 0 ≤ t) :
    Wp (xbody (W CP) M8 [.agg [.int .u64 p, .int .u64 q], .agg [.int .u64 r, .int .u64 s], .int .u64 t] g) fun r => r.1 = .bool true := by
  obtain ⟨x, hx, x1, x2⟩ := tmod_to 2305843009213693952 ht (by omega)
  have w1 : IntKind.i64.wrap x = x := wr_i64 _ (by omega) (by omega)
  have eX := fun h => span_Mid (a := 7) (l := l) (u := u) h
  have eY := fun h => span_Mid (a := 7) (l := l') (u := u') h
  rw [hmx] at eX
  rw [hmy] at eY
  have aw := fun h => law19_awake h
  have eHx := fun k h => span_Has (a := 7) (l := l) (u := u) (t := k) h
  have eHy := fun k h => span_Has (a := 7) (l := l') (u := u') (t := k) h
  have eHm := fun k h => span_Has (a := M0) (l := M1) (u := M2) (t := k) h
  have eWx := fun h => span_Width (a := 7) (l := l) (u := u) h
  have eWy := fun h => span_Width (a := 7) (l := l') (u := u') h
  have eWm := fun h => span_Width (a := M0) (l := M1) (u := M2) h
  rw [hwx] at eWx
  rw [hwy] at eWy
  rw [hwm] at eWm
  have eHX := eHx mx
  rw [hhm] at eHX
  have w8 : IntKind.i64.wrap (7 + 1) = 8 := rfl
  cases is with
  | true =>
    have hw' := hw rfl
    simp only [decide_eq_true_eq] at hAB
    simp only [Bool.true_and] at hH
    simp (maxDischargeDepth := 9) -implicitDefEqProofs only [push_cast, reduceIte, Nat.reduceEqDiff, Nat.reduceAdd, Nat.reduceSub, Nat.reduceMul, Nat.reduceDiv, Nat.reduceMod, Nat.reduceLT, Nat.reduceLeDiff, Nat.reduceBEq, Nat.reduceBNe, reduceCtorEq, Int.reduceEq, Int.reduceNe, Int.reduceLT, Int.reduceLE, Int.reduceToNat, Int.reduceNeg, Int.reduceAdd, Int.reduceSub, Int.reduceMul, Int.reducePow, Nat.reducePow, Int.reduceBEq, M8, hx, w1, e1, e2, eM, eN, eS, hA, hB, hAB, eX, eY, scEqs3_same]
    refine wp_kRes (wp_kSeq (wp_kBlock ?_))
    refine wp_loop (fun k a h' ws => ∃ i : Nat, k = 7 - i ∧ i ≤ 7 ∧ a = [(8, .ptr (g.length + 2) 0), (9, .ptr (g.length + 3) 0), (10, .ptr (g.length + 4) 0), (11, .bool true), (93, .sl (g.length + 7) 0 7 7), (94, .int .i64 7), (95, .int .i64 (i : Int))] ∧ h' = g ++ [⟨.tip false, .ints .u64 [p, q]⟩, ⟨.tip false, .ints .u64 [r, s]⟩, ⟨.tip false, .ints .i64 [7, l, u]⟩, ⟨.tip false, .ints .i64 [7, l', u']⟩, ⟨.tip false, .ints .i64 [M0, M1, M2]⟩, ⟨.tip false, .ints .i64 [M0, M1, M2]⟩, ⟨.tip false, .ints .i64 [7, l, u]⟩, ⟨.tip false, .ints .i64 [x, l, u, l', u', mx, my]⟩] ∧ ws = []) 7 ?_ ?_
    · refine ⟨0, by omega, by omega, ?_, rfl, rfl⟩
      simp (maxDischargeDepth := 9) -implicitDefEqProofs only [push_cast, reduceIte, Nat.reduceEqDiff, Nat.reduceAdd, Nat.reduceSub, Nat.reduceMul, Nat.reduceDiv, Nat.reduceMod, Nat.reduceLT, Nat.reduceLeDiff, Nat.reduceBEq, Nat.reduceBNe, reduceCtorEq, Int.reduceEq, Int.reduceNe, Int.reduceLT, Int.reduceLE, Int.reduceToNat, Int.reduceNeg, Int.reduceAdd, Int.reduceSub, Int.reduceMul, Int.reducePow, Nat.reducePow, Int.reduceBEq]; try rfl
    · rintro k aa h' ws ⟨i, rfl, hi, rfl, rfl, rfl⟩
      have v1 : IntKind.i64.wrap ((i : Int) + 1) = (i : Int) + 1 := wr_i64 _ (by omega) (by omega)
      by_cases hlt : i < 7
      · have hlt' : (i : Int) < 7 := by omega
        obtain ⟨k, hk⟩ : ∃ k, [x, l, u, l', u', mx, my][i]? = some k := ⟨_, List.getElem?_eq_getElem (by simpa using hlt)⟩
        have f1 := eHx k
        have f2 := eHy k
        have f3 := eHm k
        rw [← hH k] at f3
        cases b1 : hasS 7 l u k <;> cases b2 : hasS 7 l' u' k <;> rw [b1] at f1 f3 <;> rw [b2] at f2 f3 <;> simp only [Bool.and_true, Bool.and_false, Bool.true_and, Bool.false_and] at f3
        all_goals simp (maxDischargeDepth := 9) -implicitDefEqProofs only [push_cast, reduceIte, Nat.reduceEqDiff, Nat.reduceAdd, Nat.reduceSub, Nat.reduceMul, Nat.reduceDiv, Nat.reduceMod, Nat.reduceLT, Nat.reduceLeDiff, Nat.reduceBEq, Nat.reduceBNe, reduceCtorEq, Int.reduceEq, Int.reduceNe, Int.reduceLT, Int.reduceLE, Int.reduceToNat, Int.reduceNeg, Int.reduceAdd, Int.reduceSub, Int.reduceMul, Int.reducePow, Nat.reducePow, Int.reduceBEq, hlt, hlt', v1, hk, f1, f2, f3]
        all_goals refine loop_next (7 - (i + 1)) (by omega) ⟨i + 1, rfl, by omega, ?_, rfl, rfl⟩
        all_goals simp (maxDischargeDepth := 9) -implicitDefEqProofs only [push_cast, reduceIte, Nat.reduceEqDiff, Nat.reduceAdd, Nat.reduceSub, Nat.reduceMul, Nat.reduceDiv, Nat.reduceMod, Nat.reduceLT, Nat.reduceLeDiff, Nat.reduceBEq, Nat.reduceBNe, reduceCtorEq, Int.reduceEq, Int.reduceNe, Int.reduceLT, Int.reduceLE, Int.reduceToNat, Int.reduceNeg, Int.reduceAdd, Int.reduceSub, Int.reduceMul, Int.reducePow, Nat.reducePow, Int.reduceBEq]
        all_goals try simp
      · have hi2 : i = 7 := by omega
        subst hi2
        simp (maxDischargeDepth := 9) -implicitDefEqProofs only [push_cast, reduceIte, Nat.reduceEqDiff, Nat.reduceAdd, Nat.reduceSub, Nat.reduceMul, Nat.reduceDiv, Nat.reduceMod, Nat.reduceLT, Nat.reduceLeDiff, Nat.reduceBEq, Nat.reduceBNe, reduceCtorEq, Int.reduceEq, Int.reduceNe, Int.reduceLT, Int.reduceLE, Int.reduceToNat, Int.reduceNeg, Int.reduceAdd, Int.reduceSub, Int.reduceMul, Int.reducePow, Nat.reducePow, Int.reduceBEq, w8, eZ, aw, eX, eHX, eWx, eWy, eWm, hwn, hw']
  | false =>
    have hAB : ¬ A ≤ B := by simpa using hAB
    simp only [Bool.false_and] at hH
    simp (maxDischargeDepth := 9) -implicitDefEqProofs only [push_cast, reduceIte, Nat.reduceEqDiff, Nat.reduceAdd, Nat.reduceSub, Nat.reduceMul, Nat.reduceDiv, Nat.reduceMod, Nat.reduceLT, Nat.reduceLeDiff, Nat.reduceBEq, Nat.reduceBNe, reduceCtorEq, Int.reduceEq, Int.reduceNe, Int.reduceLT, Int.reduceLE, Int.reduceToNat, Int.reduceNeg, Int.reduceAdd, Int.reduceSub, Int.reduceMul, Int.reducePow, Nat.reducePow, Int.reduceBEq, M8, hx, w1, e1, e2, eM, eN, eS, hA, hB, hAB, eX, eY, scEqs3_same]
    refine wp_kRes (wp_kSeq (wp_kBlock ?_))
    refine wp_loop (fun k a h' ws => ∃ i : Nat, k = 7 - i ∧ i ≤ 7 ∧ a = [(8, .ptr (g.length + 2) 0), (9, .ptr (g.length + 3) 0), (10, .ptr (g.length + 4) 0), (11, .bool false), (93, .sl (g.length + 7) 0 7 7), (94, .int .i64 7), (95, .int .i64 (i : Int))] ∧ h' = g ++ [⟨.tip false, .ints .u64 [p, q]⟩, ⟨.tip false, .ints .u64 [r, s]⟩, ⟨.tip false, .ints .i64 [7, l, u]⟩, ⟨.tip false, .ints .i64 [7, l', u']⟩, ⟨.tip false, .ints .i64 [M0, M1, M2]⟩, ⟨.tip false, .ints .i64 [M0, M1, M2]⟩, ⟨.tip false, .ints .i64 [7, l, u]⟩, ⟨.tip false, .ints .i64 [x, l, u, l', u', mx, my]⟩] ∧ ws = []) 7 ?_ ?_
    · refine ⟨0, by omega, by omega, ?_, rfl, rfl⟩
      simp (maxDischargeDepth := 9) -implicitDefEqProofs only [push_cast, reduceIte, Nat.reduceEqDiff, Nat.reduceAdd, Nat.reduceSub, Nat.reduceMul, Nat.reduceDiv, Nat.reduceMod, Nat.reduceLT, Nat.reduceLeDiff, Nat.reduceBEq, Nat.reduceBNe, reduceCtorEq, Int.reduceEq, Int.reduceNe, Int.reduceLT, Int.reduceLE, Int.reduceToNat, Int.reduceNeg, Int.reduceAdd, Int.reduceSub, Int.reduceMul, Int.reducePow, Nat.reducePow, Int.reduceBEq]; try rfl
    · rintro k aa h' ws ⟨i, rfl, hi, rfl, rfl, rfl⟩
      have v1 : IntKind.i64.wrap ((i : Int) + 1) = (i : Int) + 1 := wr_i64 _ (by omega) (by omega)
      by_cases hlt : i < 7
      · have hlt' : (i : Int) < 7 := by omega
        obtain ⟨k, hk⟩ : ∃ k, [x, l, u, l', u', mx, my][i]? = some k := ⟨_, List.getElem?_eq_getElem (by simpa using hlt)⟩
        have f1 := eHx k
        have f2 := eHy k
        have f3 := hH k
        cases b1 : hasS 7 l u k <;> cases b2 : hasS 7 l' u' k <;> rw [b1] at f1 f3 <;> rw [b2] at f2 f3 <;> simp only [Bool.and_true, Bool.and_false, Bool.true_and, Bool.false_and, Bool.true_eq_false, reduceCtorEq] at f3
        all_goals simp (maxDischargeDepth := 9) -implicitDefEqProofs only [push_cast, reduceIte, Nat.reduceEqDiff, Nat.reduceAdd, Nat.reduceSub, Nat.reduceMul, Nat.reduceDiv, Nat.reduceMod, Nat.reduceLT, Nat.reduceLeDiff, Nat.reduceBEq, Nat.reduceBNe, reduceCtorEq, Int.reduceEq, Int.reduceNe, Int.reduceLT, Int.reduceLE, Int.reduceToNat, Int.reduceNeg, Int.reduceAdd, Int.reduceSub, Int.reduceMul, Int.reducePow, Nat.reducePow, Int.reduceBEq, hlt, hlt', v1, hk, f1, f2, f3]
        all_goals refine loop_next (7 - (i + 1)) (by omega) ⟨i + 1, rfl, by omega, ?_, rfl, rfl⟩
        all_goals simp (maxDischargeDepth := 9) -implicitDefEqProofs only [push_cast, reduceIte, Nat.reduceEqDiff, Nat.reduceAdd, Nat.reduceSub, Nat.reduceMul, Nat.reduceDiv, Nat.reduceMod, Nat.reduceLT, Nat.reduceLeDiff, Nat.reduceBEq, Nat.reduceBNe, reduceCtorEq, Int.reduceEq, Int.reduceNe, Int.reduceLT, Int.reduceLE, Int.reduceToNat, Int.reduceNeg, Int.reduceAdd, Int.reduceSub, Int.reduceMul, Int.reducePow, Nat.reducePow, Int.reduceBEq]
        all_goals try simp
      · have hi2 : i = 7 := by omega
        subst hi2
        simp (maxDischargeDepth := 9) -implicitDefEqProofs only [push_cast, reduceIte, Nat.reduceEqDiff, Nat.reduceAdd, Nat.reduceSub, Nat.reduceMul, Nat.reduceDiv, Nat.reduceMod, Nat.reduceLT, Nat.reduceLeDiff, Nat.reduceBEq, Nat.reduceBNe, reduceCtorEq, Int.reduceEq, Int.reduceNe, Int.reduceLT, Int.reduceLE, Int.reduceToNat, Int.reduceNeg, Int.reduceAdd, Int.reduceSub, Int.reduceMul, Int.reducePow, Nat.reducePow, Int.reduceBEq, w8, eZ, aw, eX, eHX, eWx, eWy, eWm]
theorem mayS_mk {a l u : Int} (a1 : 0 ≤ a) (a2 : a ≤ 100) (h1 : 0 ≤ l) (h2 : l ≤ u) (h3 : u < 2305843009213693952) : mayS a l u = true := mayS_iff.2 ⟨⟨a1, by omega⟩, h1, h2, by omega⟩
theorem meets_any (g : AHeap) (hg : Good g) (p q r s t : Int) (hp : 0 ≤ p) (hq : 0 ≤ q) (hr : 0 ≤ r) (hs : 0 ≤ s) (ht : 0 ≤ t) :
    Wp (xbody (W CP) M8 [.agg [.int .u64 p, .int .u64 q], .agg [.int .u64 r, .int .u64 s], .int .u64 t] g) fun r => r.1 = .bool true := by
  obtain ⟨l, u, a1, a2, a3, e1⟩ := meets_made p q hp hq
  obtain ⟨l', u', b1, b2, b3, e2⟩ := meets_made r s hr hs
  have m1 := mayS_mk (a := 7) (by omega) (by omega) a1 a2 a3
  have m2 := mayS_mk (a := 7) (by omega) (by omega) b1 b2 b3
  have eS : ∀ h, W CP 33 [spA 7 l u, spA 7 l u] h = some (.tup [spA 7 l u, .bool true], h, []) := by
    intro h
    rw [span_Meet]
    have x1 : mx l l = l := by unfold mx; split <;> rfl
    have x2 : mn u u = u := by unfold mn; split <;> rfl
    have x3 : meetB 7 l u 7 l u = true := by unfold meetB; rw [m1, x1, x2]; simp [a2]
    rw [x3, x1, x2, if_pos rfl]
  have eZ : ∀ h, W CP 33 [spA 7 l u, spA 8 l' u'] h = some (.tup [spA 0 0 0, .bool false], h, []) := by
    intro h
    rw [span_Meet]
    have x3 : meetB 7 l u 8 l' u' = false := by unfold meetB; simp
    rw [x3, if_neg (by simp)]
  have hhm : hasS 7 l u (midS 7 l u) = true := by
    unfold hasS midS
    rw [m1]
    simp only [if_true, Bool.true_and, Bool.and_eq_true, decide_eq_true_eq]
    omega
  have xc : mx l' l = mx l l' := by unfold mx; repeat' split
                                    all_goals omega
  have yc : mn u' u = mn u u' := by unfold mn; repeat' split
                                    all_goals omega
  have hAx : l ≤ mx l l' ∧ l' ≤ mx l l' ∧ (mx l l' = l ∨ mx l l' = l') := by unfold mx; split <;> omega
  have hBx : mn u u' ≤ u ∧ mn u u' ≤ u' ∧ (mn u u' = u ∨ mn u u' = u') := by unfold mn; split <;> omega
  obtain ⟨A, hA⟩ : ∃ A, mx l l' = A := ⟨_, rfl⟩
  obtain ⟨B, hB⟩ : ∃ B, mn u u' = B := ⟨_, rfl⟩
  have eM0 := fun h => span_Meet (a := 7) (l := l) (u := u) (a' := 7) (l' := l') (u' := u') h
  have eN0 := fun h => span_Meet (a := 7) (l := l') (u := u') (a' := 7) (l' := l) (u' := u) h
  unfold meetB at eM0 eN0
  rw [xc, yc] at eN0
  rw [hA] at hAx
  rw [hB] at hBx
  rw [hA, hB, m1, m2] at eM0 eN0
  have wx : widS 7 l u = u - l := by unfold widS; rw [m1, if_pos rfl]
  have wy : widS 7 l' u' = u' - l' := by unfold widS; rw [m2, if_pos rfl]
  by_cases hAB : A ≤ B
  · have m3 := mayS_mk (a := 7) (l := A) (u := B) (by omega) (by omega) (by omega) hAB (by omega)
    simp only [Bool.and_self, decide_true, Bool.true_and, hAB, if_true] at eM0 eN0
    have wm : widS 7 A B = B - A := by unfold widS; rw [m3, if_pos rfl]
    refine meets_body g hg p q r s t l u l' u' A B 7 A B _ _ _ _ _ _ true e1 e2 eM0 eN0 eS eZ hA hB (by simpa using hAB) (fun k => ?_) rfl rfl hhm wx wy wm rfl (fun _ => ?_) ht
    · unfold hasS
      rw [m1, m2, m3]
      simp only [Bool.true_and]
      rw [Bool.eq_iff_iff]
      simp only [Bool.and_eq_true, decide_eq_true_eq]
      omega
    · split <;> omega
  · simp only [Bool.and_self, decide_true, Bool.true_and, hAB, decide_false, Bool.false_eq_true, if_false] at eM0 eN0
    refine meets_body g hg p q r s t l u l' u' A B 0 0 0 _ _ _ _ _ _ false e1 e2 eM0 eN0 eS eZ hA hB (by simpa using hAB) (fun k => ?_) rfl rfl hhm wx wy rfl rfl (fun h => by cases h) ht
    unfold hasS
    rw [m1, m2]
    simp only [Bool.true_and, Bool.false_and]
    rw [Bool.eq_false_iff]
    simp only [ne_eq, Bool.and_eq_true, decide_eq_true_eq]
    omega
theorem meets_all (g : AHeap) (hg : Good g) (p q r s t : Int) (hp : 0 ≤ p) (_ : p ≤ 18446744073709551615) (hq : 0 ≤ q) (_ : q ≤ 18446744073709551615) (hr : 0 ≤ r) (_ : r ≤ 18446744073709551615) (hs : 0 ≤ s) (_ : s ≤ 18446744073709551615) (ht : 0 ≤ t) (_ : t ≤ 18446744073709551615) :
    Wp (xbody (W CP) M8 [.agg [.int .u64 p, .int .u64 q], .agg [.int .u64 r, .int .u64 s], .int .u64 t] g) fun r => r.1 = .bool true := meets_any g hg p q r s t hp hq hr hs ht
theorem meets_law (js : AHeap) (avs : List AV) (hx : Ext js) (ht : TyA (CP.gl ++ js) [.agg [.i .u64, .i .u64], .agg [.i .u64, .i .u64], .one (.i .u64)] avs) : ∃ h' ws, W CP 8 avs (CP.gl ++ js) = some (.bool true, h', ws) := by
  simp only [TyA] at ht
  obtain ⟨cs0, _, rfl, k0, cs1, _, rfl, k1, cs2, _, rfl, k2, rfl⟩ := ht
  simp only [TyL, Ty] at k0 k1 k2
  obtain ⟨_, _, rfl, ⟨n0, rfl, a0, b0⟩, _, _, rfl, ⟨n1, rfl, a1, b1⟩, rfl⟩ := k0
  obtain ⟨_, _, rfl, ⟨n2, rfl, a2, b2⟩, _, _, rfl, ⟨n3, rfl, a3, b3⟩, rfl⟩ := k1
  obtain ⟨n4, rfl, a4, b4⟩ := k2
  have a0' : 0 ≤ n0 := a0
  have b0' : n0 ≤ 18446744073709551615 := b0
  have a1' : 0 ≤ n1 := a1
  have b1' : n1 ≤ 18446744073709551615 := b1
  have a2' : 0 ≤ n2 := a2
  have b2' : n2 ≤ 18446744073709551615 := b2
  have a3' : 0 ≤ n3 := a3
  have b3' : n3 ≤ 18446744073709551615 := b3
  have a4' : 0 ≤ n4 := a4
  have b4' : n4 ≤ 18446744073709551615 := b4
  exact W_law (m := M8) (fun _ => rfl) rfl (meets_all _ (good_ext hx) n0 n1 n2 n3 n4 a0' b0' a1' b1' a2' b2' a3' b3' a4' b4') fun _ => meets_all _ good_gl n0 n1 n2 n3 n4 a0' b0' a1' b1' a2' b2' a3' b3' a4' b4'
theorem meets_kinds : aksOf X.P 20 [58, 58, 40] = some [.agg [.i .u64, .i .u64], .agg [.i .u64, .i .u64], .one (.i .u64)] := by kernel_rfl
end Go.Proofs.YtcpiohklljppaaaW.AI.D
