import Derived.Test.YtcpiohklljppaaaAIDspan2
namespace Go.Proofs.YtcpiohklljppaaaW.AI.D
open Go Go.Proofs.YtcpiohklljppaaaW.AI
set_option maxRecDepth 100000
set_option linter.unusedSimpArgs false
set_option linter.unusedVariables false
set_option linter.unusedSectionVars false

/-- A span as a value. -/
abbrev spA (a l u : Int) : AV := .agg [.int .i64 a, .int .i64 l, .int .i64 u]
abbrev mx (x y : Int) : Int := if x < y then y else x
abbrev mn (x y : Int) : Int := if y < x then y else x
def meetB (a l u a' l' u' : Int) : Bool := mayS a l u && mayS a' l' u' && decide (a = a') && decide (mx l l' ≤ mn u u')
theorem span_Meet {a l u a' l' u' : Int} (h : AHeap) : W CP 33 [spA a l u, spA a' l' u'] h = some (if meetB a l u a' l' u' then .tup [spA a (mx l l') (mn u u'), .bool true] else .tup [spA 0 0 0, .bool false], h, []) := by
  have em := fun g => span_May (a := a) (l := l) (u := u) g
  have en := fun g => span_May (a := a') (l := l') (u := u') g
  refine W_val (m := M33) (fun _ => rfl) rfl rfl (by split <;> rfl) ?_ h
  unfold meetB
  obtain ⟨X, hX⟩ : ∃ X, mx l l' = X := ⟨_, rfl⟩
  obtain ⟨Y, hY⟩ : ∃ Y, mn u u' = Y := ⟨_, rfl⟩
  rw [hX, hY]
  unfold mx at hX
  unfold mn at hY
  cases h1 : mayS a l u with
  | false =>
    rw [h1] at em
    simp (maxDischargeDepth := 9) -implicitDefEqProofs only [push_cast, reduceIte, Nat.reduceEqDiff, Nat.reduceAdd, Nat.reduceSub, Nat.reduceMul, Nat.reduceDiv, Nat.reduceMod, Nat.reduceLT, Nat.reduceLeDiff, Nat.reduceBEq, Nat.reduceBNe, reduceCtorEq, Int.reduceEq, Int.reduceNe, Int.reduceLT, Int.reduceLE, Int.reduceToNat, Int.reduceNeg, Int.reduceAdd, Int.reduceSub, Int.reduceMul, Int.reducePow, Nat.reducePow, Int.reduceBEq, M33, em]
  | true =>
    rw [h1] at em
    cases h2 : mayS a' l' u' with
    | false =>
      rw [h2] at en
      simp (maxDischargeDepth := 9) -implicitDefEqProofs only [push_cast, reduceIte, Nat.reduceEqDiff, Nat.reduceAdd, Nat.reduceSub, Nat.reduceMul, Nat.reduceDiv, Nat.reduceMod, Nat.reduceLT, Nat.reduceLeDiff, Nat.reduceBEq, Nat.reduceBNe, reduceCtorEq, Int.reduceEq, Int.reduceNe, Int.reduceLT, Int.reduceLE, Int.reduceToNat, Int.reduceNeg, Int.reduceAdd, Int.reduceSub, Int.reduceMul, Int.reducePow, Nat.reducePow, Int.reduceBEq, M33, em, en]
    | true =>
      rw [h2] at en
      by_cases h3 : a = a'
      · subst h3
        by_cases h4 : X ≤ Y
        · have h4' : ¬ Y < X := by omega
          simp (maxDischargeDepth := 9) -implicitDefEqProofs only [push_cast, reduceIte, Nat.reduceEqDiff, Nat.reduceAdd, Nat.reduceSub, Nat.reduceMul, Nat.reduceDiv, Nat.reduceMod, Nat.reduceLT, Nat.reduceLeDiff, Nat.reduceBEq, Nat.reduceBNe, reduceCtorEq, Int.reduceEq, Int.reduceNe, Int.reduceLT, Int.reduceLE, Int.reduceToNat, Int.reduceNeg, Int.reduceAdd, Int.reduceSub, Int.reduceMul, Int.reducePow, Nat.reducePow, Int.reduceBEq, M33, em, en, hX, hY, h4, h4']
        · have h4' : Y < X := by omega
          simp (maxDischargeDepth := 9) -implicitDefEqProofs only [push_cast, reduceIte, Nat.reduceEqDiff, Nat.reduceAdd, Nat.reduceSub, Nat.reduceMul, Nat.reduceDiv, Nat.reduceMod, Nat.reduceLT, Nat.reduceLeDiff, Nat.reduceBEq, Nat.reduceBNe, reduceCtorEq, Int.reduceEq, Int.reduceNe, Int.reduceLT, Int.reduceLE, Int.reduceToNat, Int.reduceNeg, Int.reduceAdd, Int.reduceSub, Int.reduceMul, Int.reducePow, Nat.reducePow, Int.reduceBEq, M33, em, en, hX, hY, h4, h4']
      · simp (maxDischargeDepth := 9) -implicitDefEqProofs only [push_cast, reduceIte, Nat.reduceEqDiff, Nat.reduceAdd, Nat.reduceSub, Nat.reduceMul, Nat.reduceDiv, Nat.reduceMod, Nat.reduceLT, Nat.reduceLeDiff, Nat.reduceBEq, Nat.reduceBNe, reduceCtorEq, Int.reduceEq, Int.reduceNe, Int.reduceLT, Int.reduceLE, Int.reduceToNat, Int.reduceNeg, Int.reduceAdd, Int.reduceSub, Int.reduceMul, Int.reducePow, Nat.reducePow, Int.reduceBEq, M33, em, en, h3]
theorem span_ends1 {h : AHeap} {q : Nat} {a b c d : Int} (hg : Good h) (hq : h[q]? = some ⟨.tip false, .ints .i64 [a, b, c, d]⟩) (k : Nat) (hk : k < 2) (x y : Int) (hx : [a, b, c, d][2 * k]? = some x) (hy : [a, b, c, d][2 * k + 1]? = some y) (ix : I64 x) (iy : I64 y) :
    W CP 68 [.int .i64 (k : Int), .ptr q 0] h = some (.int .i64 (bro (x + y)), h, []) := by
  have e1 := fun g => fix_AddSat ix iy g
  have e2 := fun g => span_brought (t := sat (x + y)) g
  rw [bro_sat] at e2
  refine W_quietP (m := M68) rfl rfl (by simp [AV.lts, AV.lt]) rfl rfl hg ?_
  have hk2 : k = 0 ∨ k = 1 := by omega
  rcases hk2 with rfl | rfl
  · simp only [Nat.mul_zero, Nat.zero_add, List.getElem?_cons_zero, List.getElem?_cons_succ, Option.some.injEq] at hx hy
    subst hx; subst hy
    simp (maxDischargeDepth := 9) -implicitDefEqProofs only [push_cast, reduceIte, Nat.reduceEqDiff, Nat.reduceAdd, Nat.reduceSub, Nat.reduceMul, Nat.reduceDiv, Nat.reduceMod, Nat.reduceLT, Nat.reduceLeDiff, Nat.reduceBEq, Nat.reduceBNe, reduceCtorEq, Int.reduceEq, Int.reduceNe, Int.reduceLT, Int.reduceLE, Int.reduceToNat, Int.reduceNeg, Int.reduceAdd, Int.reduceSub, Int.reduceMul, Int.reducePow, Nat.reducePow, Int.reduceBEq, M68, hq, e1, e2, Int.natCast_zero]
    first | exact quiet_0 | skip
  · simp only [Nat.mul_one, Nat.reduceAdd, List.getElem?_cons_zero, List.getElem?_cons_succ, Option.some.injEq] at hx hy
    subst hx; subst hy
    simp (maxDischargeDepth := 9) -implicitDefEqProofs only [push_cast, reduceIte, Nat.reduceEqDiff, Nat.reduceAdd, Nat.reduceSub, Nat.reduceMul, Nat.reduceDiv, Nat.reduceMod, Nat.reduceLT, Nat.reduceLeDiff, Nat.reduceBEq, Nat.reduceBNe, reduceCtorEq, Int.reduceEq, Int.reduceNe, Int.reduceLT, Int.reduceLE, Int.reduceToNat, Int.reduceNeg, Int.reduceAdd, Int.reduceSub, Int.reduceMul, Int.reducePow, Nat.reducePow, Int.reduceBEq, M68, hq, e1, e2, Int.natCast_one]
    first | exact quiet_0 | skip
theorem span_ends {t a b c d : Int} (ha : I64 a) (hb : I64 b) (hc : I64 c) (hd : I64 d) (h : AHeap) : W CP 46 [.int .i64 t, .agg [.int .i64 a, .int .i64 b, .int .i64 c, .int .i64 d]] h = some (spA t (bro (a + b)) (bro (c + d)), h, []) := by
  have e0 := span_ends1 (h := CP.gl ++ [⟨.tip false, .ints .i64 [a, b, c, d]⟩, ⟨.tip false, .ints .i64 [0, 0, 0]⟩]) (q := CP.gl.length) (a := a) (b := b) (c := c) (d := d) (by rfl) (by rfl) 0 (by omega) a b rfl rfl ha hb
  have e1 := span_ends1 (h := CP.gl ++ [⟨.tip false, .ints .i64 [a, b, c, d]⟩, ⟨.tip false, .ints .i64 [0, 0, 0]⟩]) (q := CP.gl.length) (a := a) (b := b) (c := c) (d := d) (by rfl) (by rfl) 1 (by omega) c d rfl rfl hc hd
  simp only [Int.natCast_zero, Int.natCast_one] at e0 e1
  refine W_val (m := M46) (fun _ => rfl) rfl rfl rfl ?_ h
  simp (maxDischargeDepth := 9) -implicitDefEqProofs only [push_cast, reduceIte, Nat.reduceEqDiff, Nat.reduceAdd, Nat.reduceSub, Nat.reduceMul, Nat.reduceDiv, Nat.reduceMod, Nat.reduceLT, Nat.reduceLeDiff, Nat.reduceBEq, Nat.reduceBNe, reduceCtorEq, Int.reduceEq, Int.reduceNe, Int.reduceLT, Int.reduceLE, Int.reduceToNat, Int.reduceNeg, Int.reduceAdd, Int.reduceSub, Int.reduceMul, Int.reducePow, Nat.reducePow, Int.reduceBEq, M46, e0, e1]
/-- The least and the greatest that an exchange tells. -/
def ofLo (gave rho : Int) : Int := bro (gave - rho)
def ofHi (t f left came took rho : Int) : Int := bro (took + rho + 1 + upV t f (came - left))
theorem upV_in (t f x : Int) : 0 ≤ upV t f x ∧ upV t f x ≤ 4611686018427387904 := by
  unfold upV
  simp only
  split
  · exact bro_in _
  · omega
theorem downV_in (t f x : Int) : 0 ≤ downV t f x ∧ downV t f x ≤ 4611686018427387904 := bro_in _
theorem Ruler_Age {h : AHeap} {p : Nat} {t f a l u raw : Int} (hg : Good h) (r : Rul h p t f) :
    W CP 30 [.ptr p 0, spA a l u, .int .i64 raw] h = some (if mayS a l u = true ∧ a ≤ raw ∧ raw ≤ 4611686018427387904 then .tup [spA raw (bro (l + downV t f (raw - a))) (bro (u + upV t f (raw - a))), .int .i64 0] else .tup [spA 0 0 0, .int .i64 1], h, []) := by
  have em := fun g => span_May (a := a) (l := l) (u := u) g
  have hr := r
  obtain ⟨h1, h2, h3, h4, h5, h6⟩ := r
  have hG : ∀ (b1 b2 : ABlk), notOld b1 = true → notOld b2 = true → Good (h ++ [b1, b2]) := fun b1 b2 n1 n2 => good_app hg (by simp [n1, n2])
  obtain ⟨H, hH⟩ : ∃ H : AHeap, H = h ++ [⟨.tip false, .ints .i64 [a, l, u]⟩, ⟨.tip false, .ints .i64 [0, 0, 0]⟩] := ⟨_, rfl⟩
  have hGH : Good H := by rw [hH]; exact hG _ _ rfl rfl
  have en := Ruler_none hGH (by rw [hH]; exact hr.app _)
  rw [hH] at en
  refine W_quietP (m := M30) rfl rfl (by simp [AV.lts, AV.lt]) rfl (by split <;> rfl) hg ?_
  cases hm : mayS a l u with
  | false =>
    rw [hm] at em
    simp only [Bool.false_eq_true, false_and, if_false]
    simp (maxDischargeDepth := 9) -implicitDefEqProofs only [push_cast, reduceIte, Nat.reduceEqDiff, Nat.reduceAdd, Nat.reduceSub, Nat.reduceMul, Nat.reduceDiv, Nat.reduceMod, Nat.reduceLT, Nat.reduceLeDiff, Nat.reduceBEq, Nat.reduceBNe, reduceCtorEq, Int.reduceEq, Int.reduceNe, Int.reduceLT, Int.reduceLE, Int.reduceToNat, Int.reduceNeg, Int.reduceAdd, Int.reduceSub, Int.reduceMul, Int.reducePow, Nat.reducePow, Int.reduceBEq, M30, en, em]
    exact quiet_i
  | true =>
    rw [hm] at em
    simp only [true_and]
    by_cases c1 : a ≤ raw
    · have c1' : ¬ raw < a := by omega
      by_cases c2 : raw ≤ 4611686018427387904
      · have c2' : ¬ 4611686018427387904 < raw := by omega
        have hmm := mayS_iff.1 hm
        rw [if_pos ⟨c1, c2⟩]
        obtain ⟨d, hd⟩ : ∃ d, raw - a = d := ⟨_, rfl⟩
        have w1 : IntKind.i64.wrap (raw - a) = d := by rw [wr_i64 _ (by omega) (by omega)]; exact hd
        rw [hd]
        have eU := Ruler_Up (x := d) hGH (by rw [hH]; exact hr.app _)
        have eD := Ruler_Down (x := d) hGH (by rw [hH]; exact hr.app _)
        rw [hH] at eU eD
        obtain ⟨U, hU⟩ : ∃ U, upV t f d = U := ⟨_, rfl⟩
        obtain ⟨D, hD⟩ : ∃ U, downV t f d = U := ⟨_, rfl⟩
        have rU := upV_in t f d
        have rD := downV_in t f d
        rw [hU] at eU rU ⊢
        rw [hD] at eD rD ⊢
        have ee := fun g => span_ends (t := raw) (a := l) (b := D) (c := u) (d := U) ⟨by omega, by omega⟩ ⟨by omega, by omega⟩ ⟨by omega, by omega⟩ ⟨by omega, by omega⟩ g
        simp (maxDischargeDepth := 9) -implicitDefEqProofs only [push_cast, reduceIte, Nat.reduceEqDiff, Nat.reduceAdd, Nat.reduceSub, Nat.reduceMul, Nat.reduceDiv, Nat.reduceMod, Nat.reduceLT, Nat.reduceLeDiff, Nat.reduceBEq, Nat.reduceBNe, reduceCtorEq, Int.reduceEq, Int.reduceNe, Int.reduceLT, Int.reduceLE, Int.reduceToNat, Int.reduceNeg, Int.reduceAdd, Int.reduceSub, Int.reduceMul, Int.reducePow, Nat.reducePow, Int.reduceBEq, M30, en, em, c1', c2', w1, eU, eD, ee]
        exact quiet_i
      · have c2' : 4611686018427387904 < raw := by omega
        rw [if_neg (fun e => c2 e.2)]
        simp (maxDischargeDepth := 9) -implicitDefEqProofs only [push_cast, reduceIte, Nat.reduceEqDiff, Nat.reduceAdd, Nat.reduceSub, Nat.reduceMul, Nat.reduceDiv, Nat.reduceMod, Nat.reduceLT, Nat.reduceLeDiff, Nat.reduceBEq, Nat.reduceBNe, reduceCtorEq, Int.reduceEq, Int.reduceNe, Int.reduceLT, Int.reduceLE, Int.reduceToNat, Int.reduceNeg, Int.reduceAdd, Int.reduceSub, Int.reduceMul, Int.reducePow, Nat.reducePow, Int.reduceBEq, M30, en, em, c1', c2']
        exact quiet_i
    · have c1' : raw < a := by omega
      rw [if_neg (fun e => c1 e.1)]
      simp (maxDischargeDepth := 9) -implicitDefEqProofs only [push_cast, reduceIte, Nat.reduceEqDiff, Nat.reduceAdd, Nat.reduceSub, Nat.reduceMul, Nat.reduceDiv, Nat.reduceMod, Nat.reduceLT, Nat.reduceLeDiff, Nat.reduceBEq, Nat.reduceBNe, reduceCtorEq, Int.reduceEq, Int.reduceNe, Int.reduceLT, Int.reduceLE, Int.reduceToNat, Int.reduceNeg, Int.reduceAdd, Int.reduceSub, Int.reduceMul, Int.reducePow, Nat.reducePow, Int.reduceBEq, M30, en, em, c1']
      exact quiet_i
theorem Ruler_Of {h : AHeap} {p : Nat} {t f left came took gave rho : Int} (hg : Good h) (r : Rul h p t f) :
    W CP 18 [.ptr p 0, .int .i64 left, .int .i64 came, .int .i64 took, .int .i64 gave, .int .i64 rho] h =
      some (if ([left, came, took, gave, rho].all okT) = true ∧ left ≤ came then (if ofLo gave rho ≤ ofHi t f left came took rho then .tup [spA came (ofLo gave rho) (ofHi t f left came took rho), .int .i64 0] else .tup [spA 0 0 0, .int .i64 30]) else .tup [spA 0 0 0, .int .i64 1], h, []) := by
  have hr := r
  obtain ⟨h1, h2, h3, h4, h5, h6⟩ := r
  have hG1 : Good (h ++ [⟨.tip false, .ints .i64 [0, 0, 0]⟩]) := good_app hg rfl
  have hG2 : Good (h ++ [⟨.tip false, .ints .i64 [0, 0, 0]⟩, ⟨.tip false, .ints .i64 [left, came, took, gave, rho]⟩]) := good_app hg rfl
  have en := Ruler_none hG1 (hr.app _)
  have et := span_times (q := h.length + 1) (l := [left, came, took, gave, rho]) hG2 (by rw [List.getElem?_append_right (by omega)]; simp) (by simp)
  simp only [List.length_cons, List.length_nil, Nat.reduceAdd] at et
  refine W_quietP (m := M18) rfl rfl (by simp [AV.lts, AV.lt]) rfl (by split <;> (try split) <;> rfl) hg ?_
  cases hall : [left, came, took, gave, rho].all okT with
  | false =>
    rw [hall] at et
    simp only [Bool.false_eq_true, false_and, if_false]
    simp (maxDischargeDepth := 9) -implicitDefEqProofs only [push_cast, reduceIte, Nat.reduceEqDiff, Nat.reduceAdd, Nat.reduceSub, Nat.reduceMul, Nat.reduceDiv, Nat.reduceMod, Nat.reduceLT, Nat.reduceLeDiff, Nat.reduceBEq, Nat.reduceBNe, reduceCtorEq, Int.reduceEq, Int.reduceNe, Int.reduceLT, Int.reduceLE, Int.reduceToNat, Int.reduceNeg, Int.reduceAdd, Int.reduceSub, Int.reduceMul, Int.reducePow, Nat.reducePow, Int.reduceBEq, M18, en, et]
    exact quiet_i
  | true =>
    rw [hall] at et
    simp only [true_and]
    simp only [List.all_cons, List.all_nil, Bool.and_true, Bool.and_eq_true, okT, decide_eq_true_eq] at hall
    obtain ⟨r1, r2, r3, r4, r5⟩ := hall
    by_cases c1 : left ≤ came
    · have c1' : ¬ came < left := by omega
      rw [if_pos c1]
      have w1 : IntKind.i64.wrap (0 - rho) = -rho := by rw [wr_i64 _ (by omega) (by omega)]; omega
      have ea := fun g => fix_AddSat (a := took) (b := rho) ⟨by omega, by omega⟩ ⟨by omega, by omega⟩ g
      obtain ⟨S, hS⟩ : ∃ S, sat (took + rho) = S := ⟨_, rfl⟩
      rw [hS] at ea
      have rS : 0 ≤ S ∧ S ≤ 9223372036854775807 ∧ (S = took + rho ∨ (S = 9223372036854775807 ∧ took + rho = 9223372036854775808)) := by
        unfold sat clamp at hS
        split at hS <;> (try split at hS) <;> omega
      obtain ⟨d, hd⟩ : ∃ d, came - left = d := ⟨_, rfl⟩
      have w2 : IntKind.i64.wrap (came - left) = d := by rw [wr_i64 _ (by omega) (by omega)]; exact hd
      have eU := Ruler_Up (x := d) hG2 (hr.app _)
      have rU := upV_in t f d
      unfold ofHi ofLo
      rw [hd]
      obtain ⟨U, hU⟩ : ∃ U, upV t f d = U := ⟨_, rfl⟩
      rw [hU] at eU rU ⊢
      have w3 : IntKind.i64.wrap (1 + U) = 1 + U := wr_i64 _ (by omega) (by omega)
      have ee := fun g => span_ends (t := came) (a := gave) (b := -rho) (c := S) (d := 1 + U) ⟨by omega, by omega⟩ ⟨by omega, by omega⟩ ⟨by omega, by omega⟩ ⟨by omega, by omega⟩ g
      have el : bro (gave + -rho) = bro (gave - rho) := by rw [Int.sub_eq_add_neg]
      have eh : bro (S + (1 + U)) = bro (took + rho + 1 + U) := by
        unfold bro clamp
        repeat' split
        all_goals omega
      rw [el, eh] at ee
      obtain ⟨L, hL⟩ : ∃ L, bro (gave - rho) = L := ⟨_, rfl⟩
      obtain ⟨E, hE⟩ : ∃ E, bro (took + rho + 1 + U) = E := ⟨_, rfl⟩
      rw [hL, hE] at ee ⊢
      by_cases c2 : L ≤ E
      · have c2' : ¬ E < L := by omega
        rw [if_pos c2]
        simp (maxDischargeDepth := 9) -implicitDefEqProofs only [push_cast, reduceIte, Nat.reduceEqDiff, Nat.reduceAdd, Nat.reduceSub, Nat.reduceMul, Nat.reduceDiv, Nat.reduceMod, Nat.reduceLT, Nat.reduceLeDiff, Nat.reduceBEq, Nat.reduceBNe, reduceCtorEq, Int.reduceEq, Int.reduceNe, Int.reduceLT, Int.reduceLE, Int.reduceToNat, Int.reduceNeg, Int.reduceAdd, Int.reduceSub, Int.reduceMul, Int.reducePow, Nat.reducePow, Int.reduceBEq, M18, en, et, c1', w1, ea, w2, eU, w3, ee, c2']
        exact quiet_i
      · have c2' : E < L := by omega
        rw [if_neg c2]
        simp (maxDischargeDepth := 9) -implicitDefEqProofs only [push_cast, reduceIte, Nat.reduceEqDiff, Nat.reduceAdd, Nat.reduceSub, Nat.reduceMul, Nat.reduceDiv, Nat.reduceMod, Nat.reduceLT, Nat.reduceLeDiff, Nat.reduceBEq, Nat.reduceBNe, reduceCtorEq, Int.reduceEq, Int.reduceNe, Int.reduceLT, Int.reduceLE, Int.reduceToNat, Int.reduceNeg, Int.reduceAdd, Int.reduceSub, Int.reduceMul, Int.reducePow, Nat.reducePow, Int.reduceBEq, M18, en, et, c1', w1, ea, w2, eU, w3, ee, c2']
        exact quiet_i
    · have c1' : came < left := by omega
      rw [if_neg c1]
      simp (maxDischargeDepth := 9) -implicitDefEqProofs only [push_cast, reduceIte, Nat.reduceEqDiff, Nat.reduceAdd, Nat.reduceSub, Nat.reduceMul, Nat.reduceDiv, Nat.reduceMod, Nat.reduceLT, Nat.reduceLeDiff, Nat.reduceBEq, Nat.reduceBNe, reduceCtorEq, Int.reduceEq, Int.reduceNe, Int.reduceLT, Int.reduceLE, Int.reduceToNat, Int.reduceNeg, Int.reduceAdd, Int.reduceSub, Int.reduceMul, Int.reducePow, Nat.reducePow, Int.reduceBEq, M18, en, et, c1']
      exact quiet_i
end Go.Proofs.YtcpiohklljppaaaW.AI.D
