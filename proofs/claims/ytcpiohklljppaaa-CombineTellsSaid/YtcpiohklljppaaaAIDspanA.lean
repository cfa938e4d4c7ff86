import Derived.Test.YtcpiohklljppaaaAIDquo
namespace Go.Proofs.YtcpiohklljppaaaW.AI.D
open Go Go.Proofs.YtcpiohklljppaaaW.AI
set_option maxRecDepth 100000
set_option linter.unusedSimpArgs false
set_option linter.unusedVariables false
set_option linter.unusedSectionVars false

theorem clamp_in {a lo hi : Int} (h : lo ≤ hi) : lo ≤ clamp a lo hi ∧ clamp a lo hi ≤ hi := by unfold clamp; split <;> (try split) <;> omega
abbrev bro (t : Int) : Int := clamp t 0 4611686018427387904
theorem bro_in (t : Int) : 0 ≤ bro t ∧ bro t ≤ 4611686018427387904 := clamp_in (by omega)
theorem span_brought {t : Int} (h : AHeap) : W CP 49 [.int .i64 t] h = some (.int .i64 (bro t), h, []) := by
  have e := fun g => fix_Clamp (a := t) (lo := 0) (hi := 4611686018427387904) g
  refine W_val (m := M49) (fun _ => rfl) rfl rfl rfl ?_ h
  simp (maxDischargeDepth := 9) -implicitDefEqProofs only [push_cast, reduceIte, Nat.reduceEqDiff, Nat.reduceAdd, Nat.reduceSub, Nat.reduceMul, Nat.reduceDiv, Nat.reduceMod, Nat.reduceLT, Nat.reduceLeDiff, Nat.reduceBEq, Nat.reduceBNe, reduceCtorEq, Int.reduceEq, Int.reduceNe, Int.reduceLT, Int.reduceLE, Int.reduceToNat, Int.reduceNeg, Int.reduceAdd, Int.reduceSub, Int.reduceMul, Int.reducePow, Nat.reducePow, Int.reduceBEq, M49, e]
abbrev sat (a : Int) : Int := clamp a (-9223372036854775808) 9223372036854775807
theorem fix_AddSat {a b : Int} (ha : I64 a) (hb : I64 b) (h : AHeap) : W CP 47 [.int .i64 a, .int .i64 b] h = some (.int .i64 (sat (a + b)), h, []) := by
  obtain ⟨a1, a2⟩ := ha
  obtain ⟨b1, b2⟩ := hb
  have add : ∀ g, W CP 69 [.int .i64 a, .int .i64 b] g = some (if I64 (a + b) then .tup [.int .i64 (a + b), .int .i64 0] else .tup [.int .i64 0, .int .i64 20], g, []) := by
    intro g
    refine W_val (m := M69) (fun _ => rfl) rfl rfl (by split <;> rfl) ?_ g
    by_cases hi : I64 (a + b)
    · rw [if_pos hi]
      obtain ⟨i1, i2⟩ := hi
      have w : IntKind.i64.wrap (a + b) = a + b := wr_i64 _ i1 i2
      by_cases b0 : b = 0
      · subst b0
        rw [Int.add_zero] at w ⊢
        simp (maxDischargeDepth := 9) -implicitDefEqProofs only [push_cast, reduceIte, Nat.reduceEqDiff, Nat.reduceAdd, Nat.reduceSub, Nat.reduceMul, Nat.reduceDiv, Nat.reduceMod, Nat.reduceLT, Nat.reduceLeDiff, Nat.reduceBEq, Nat.reduceBNe, reduceCtorEq, Int.reduceEq, Int.reduceNe, Int.reduceLT, Int.reduceLE, Int.reduceToNat, Int.reduceNeg, Int.reduceAdd, Int.reduceSub, Int.reduceMul, Int.reducePow, Nat.reducePow, Int.reduceBEq, M69, w]
      · have bd : decide (a < a + b) = decide (0 < b) := by rw [decide_eq_decide]; omega
        simp (maxDischargeDepth := 9) -implicitDefEqProofs only [push_cast, reduceIte, Nat.reduceEqDiff, Nat.reduceAdd, Nat.reduceSub, Nat.reduceMul, Nat.reduceDiv, Nat.reduceMod, Nat.reduceLT, Nat.reduceLeDiff, Nat.reduceBEq, Nat.reduceBNe, reduceCtorEq, Int.reduceEq, Int.reduceNe, Int.reduceLT, Int.reduceLE, Int.reduceToNat, Int.reduceNeg, Int.reduceAdd, Int.reduceSub, Int.reduceMul, Int.reducePow, Nat.reducePow, Int.reduceBEq, M69, w, b0, bd]
    · rw [if_neg hi]
      unfold I64 at hi
      have b0 : ¬ b = 0 := by omega
      obtain ⟨v, hv⟩ : ∃ v, IntKind.i64.wrap (a + b) = v := ⟨_, rfl⟩
      have w := hv
      rw [IntKind.wrap_i64] at w
      by_cases hb : 0 < b
      · have n1 : ¬ a < v := by omega
        simp (maxDischargeDepth := 9) -implicitDefEqProofs only [push_cast, reduceIte, Nat.reduceEqDiff, Nat.reduceAdd, Nat.reduceSub, Nat.reduceMul, Nat.reduceDiv, Nat.reduceMod, Nat.reduceLT, Nat.reduceLeDiff, Nat.reduceBEq, Nat.reduceBNe, reduceCtorEq, Int.reduceEq, Int.reduceNe, Int.reduceLT, Int.reduceLE, Int.reduceToNat, Int.reduceNeg, Int.reduceAdd, Int.reduceSub, Int.reduceMul, Int.reducePow, Nat.reducePow, Int.reduceBEq, M69, hv, b0, hb, n1]
      · have n1 : a < v := by omega
        simp (maxDischargeDepth := 9) -implicitDefEqProofs only [push_cast, reduceIte, Nat.reduceEqDiff, Nat.reduceAdd, Nat.reduceSub, Nat.reduceMul, Nat.reduceDiv, Nat.reduceMod, Nat.reduceLT, Nat.reduceLeDiff, Nat.reduceBEq, Nat.reduceBNe, reduceCtorEq, Int.reduceEq, Int.reduceNe, Int.reduceLT, Int.reduceLE, Int.reduceToNat, Int.reduceNeg, Int.reduceAdd, Int.reduceSub, Int.reduceMul, Int.reducePow, Nat.reducePow, Int.reduceBEq, M69, hv, b0, hb, n1]
  have near : ∀ (n e : Int) (x : Bool) (g : AHeap), W CP 70 [.int .i64 n, .int .i64 e, .bool x] g = some (.int .i64 (if e = 0 then n else if x then -9223372036854775808 else 9223372036854775807), g, []) := by
    intro n e x g
    refine W_val (m := M70) (fun _ => rfl) rfl rfl (by split <;> rfl) ?_ g
    by_cases e0 : e = 0
    · simp (maxDischargeDepth := 9) -implicitDefEqProofs only [push_cast, reduceIte, Nat.reduceEqDiff, Nat.reduceAdd, Nat.reduceSub, Nat.reduceMul, Nat.reduceDiv, Nat.reduceMod, Nat.reduceLT, Nat.reduceLeDiff, Nat.reduceBEq, Nat.reduceBNe, reduceCtorEq, Int.reduceEq, Int.reduceNe, Int.reduceLT, Int.reduceLE, Int.reduceToNat, Int.reduceNeg, Int.reduceAdd, Int.reduceSub, Int.reduceMul, Int.reducePow, Nat.reducePow, Int.reduceBEq, M70, e0]
    · cases x
      · simp (maxDischargeDepth := 9) -implicitDefEqProofs only [push_cast, reduceIte, Nat.reduceEqDiff, Nat.reduceAdd, Nat.reduceSub, Nat.reduceMul, Nat.reduceDiv, Nat.reduceMod, Nat.reduceLT, Nat.reduceLeDiff, Nat.reduceBEq, Nat.reduceBNe, reduceCtorEq, Int.reduceEq, Int.reduceNe, Int.reduceLT, Int.reduceLE, Int.reduceToNat, Int.reduceNeg, Int.reduceAdd, Int.reduceSub, Int.reduceMul, Int.reducePow, Nat.reducePow, Int.reduceBEq, M70, e0]
      · simp (maxDischargeDepth := 9) -implicitDefEqProofs only [push_cast, reduceIte, Nat.reduceEqDiff, Nat.reduceAdd, Nat.reduceSub, Nat.reduceMul, Nat.reduceDiv, Nat.reduceMod, Nat.reduceLT, Nat.reduceLeDiff, Nat.reduceBEq, Nat.reduceBNe, reduceCtorEq, Int.reduceEq, Int.reduceNe, Int.reduceLT, Int.reduceLE, Int.reduceToNat, Int.reduceNeg, Int.reduceAdd, Int.reduceSub, Int.reduceMul, Int.reducePow, Nat.reducePow, Int.reduceBEq, M70, e0]
  refine W_val (m := M47) (fun _ => rfl) rfl rfl rfl ?_ h
  unfold sat clamp
  by_cases hi : I64 (a + b)
  · have h1 : ¬ a + b < -9223372036854775808 := by have := hi.1; omega
    have h2 : ¬ 9223372036854775807 < a + b := by have := hi.2; omega
    rw [if_neg h1, if_neg h2]
    simp only [if_pos hi] at add
    simp (maxDischargeDepth := 9) -implicitDefEqProofs only [push_cast, reduceIte, Nat.reduceEqDiff, Nat.reduceAdd, Nat.reduceSub, Nat.reduceMul, Nat.reduceDiv, Nat.reduceMod, Nat.reduceLT, Nat.reduceLeDiff, Nat.reduceBEq, Nat.reduceBNe, reduceCtorEq, Int.reduceEq, Int.reduceNe, Int.reduceLT, Int.reduceLE, Int.reduceToNat, Int.reduceNeg, Int.reduceAdd, Int.reduceSub, Int.reduceMul, Int.reducePow, Nat.reducePow, Int.reduceBEq, M47, add, near]
  · simp only [if_neg hi] at add
    unfold I64 at hi
    by_cases a0 : a < 0
    · rw [if_pos (by omega)]
      simp (maxDischargeDepth := 9) -implicitDefEqProofs only [push_cast, reduceIte, Nat.reduceEqDiff, Nat.reduceAdd, Nat.reduceSub, Nat.reduceMul, Nat.reduceDiv, Nat.reduceMod, Nat.reduceLT, Nat.reduceLeDiff, Nat.reduceBEq, Nat.reduceBNe, reduceCtorEq, Int.reduceEq, Int.reduceNe, Int.reduceLT, Int.reduceLE, Int.reduceToNat, Int.reduceNeg, Int.reduceAdd, Int.reduceSub, Int.reduceMul, Int.reducePow, Nat.reducePow, Int.reduceBEq, M47, add, near, a0]
    · rw [if_neg (by omega), if_pos (by omega)]
      simp (maxDischargeDepth := 9) -implicitDefEqProofs only [push_cast, reduceIte, Nat.reduceEqDiff, Nat.reduceAdd, Nat.reduceSub, Nat.reduceMul, Nat.reduceDiv, Nat.reduceMod, Nat.reduceLT, Nat.reduceLeDiff, Nat.reduceBEq, Nat.reduceBNe, reduceCtorEq, Int.reduceEq, Int.reduceNe, Int.reduceLT, Int.reduceLE, Int.reduceToNat, Int.reduceNeg, Int.reduceAdd, Int.reduceSub, Int.reduceMul, Int.reducePow, Nat.reducePow, Int.reduceBEq, M47, add, near, a0]
theorem fix_Abs {a : Int} (ha : I64 a) (h : AHeap) : W CP 62 [.int .i64 a] h = some (.int .i64 (if a = -9223372036854775808 then 9223372036854775807 else a.natAbs), h, []) := by
  obtain ⟨a1, a2⟩ := ha
  refine W_val (m := M62) (fun _ => rfl) rfl rfl rfl ?_ h
  by_cases c1 : a = -9223372036854775808
  · subst c1
    simp (maxDischargeDepth := 9) -implicitDefEqProofs only [push_cast, reduceIte, Nat.reduceEqDiff, Nat.reduceAdd, Nat.reduceSub, Nat.reduceMul, Nat.reduceDiv, Nat.reduceMod, Nat.reduceLT, Nat.reduceLeDiff, Nat.reduceBEq, Nat.reduceBNe, reduceCtorEq, Int.reduceEq, Int.reduceNe, Int.reduceLT, Int.reduceLE, Int.reduceToNat, Int.reduceNeg, Int.reduceAdd, Int.reduceSub, Int.reduceMul, Int.reducePow, Nat.reducePow, Int.reduceBEq, M62]
  · rw [if_neg c1]
    by_cases c2 : a < 0
    · have w : IntKind.i64.wrap (0 - a) = (a.natAbs : Int) := by rw [wr_i64 _ (by omega) (by omega)]; omega
      simp (maxDischargeDepth := 9) -implicitDefEqProofs only [push_cast, reduceIte, Nat.reduceEqDiff, Nat.reduceAdd, Nat.reduceSub, Nat.reduceMul, Nat.reduceDiv, Nat.reduceMod, Nat.reduceLT, Nat.reduceLeDiff, Nat.reduceBEq, Nat.reduceBNe, reduceCtorEq, Int.reduceEq, Int.reduceNe, Int.reduceLT, Int.reduceLE, Int.reduceToNat, Int.reduceNeg, Int.reduceAdd, Int.reduceSub, Int.reduceMul, Int.reducePow, Nat.reducePow, Int.reduceBEq, M62, c1, c2, w]
    · have w : (a.natAbs : Int) = a := by omega
      simp (maxDischargeDepth := 9) -implicitDefEqProofs only [push_cast, reduceIte, Nat.reduceEqDiff, Nat.reduceAdd, Nat.reduceSub, Nat.reduceMul, Nat.reduceDiv, Nat.reduceMod, Nat.reduceLT, Nat.reduceLeDiff, Nat.reduceBEq, Nat.reduceBNe, reduceCtorEq, Int.reduceEq, Int.reduceNe, Int.reduceLT, Int.reduceLE, Int.reduceToNat, Int.reduceNeg, Int.reduceAdd, Int.reduceSub, Int.reduceMul, Int.reducePow, Nat.reducePow, Int.reduceBEq, M62, c1, c2, w]
/-- A ruler in memory. -/
def Rul (h : AHeap) (p : Nat) (t f : Int) : Prop := h[p]? = some ⟨.tip false, .vals [.int .i64 t, .int .i64 f, .bool true]⟩ ∧ p < h.length ∧ 1 ≤ t ∧ t ≤ 1000000000 ∧ 0 ≤ f ∧ f ≤ 500000
theorem Rul.app {h : AHeap} {p : Nat} {t f : Int} (r : Rul h p t f) (js : AHeap) : Rul (h ++ js) p t f := by
  obtain ⟨h1, h2, h3⟩ := r
  exact ⟨by rw [List.getElem?_append_left h2]; exact h1, by simp; omega, h3⟩
theorem Ruler_none {h : AHeap} {p : Nat} {t f : Int} (hg : Good h) (r : Rul h p t f) : W CP 44 [.ptr p 0] h = some (.bool false, h, []) := by
  obtain ⟨h1, h2, h3⟩ := r
  refine W_quiet0 (m := M44) rfl rfl (by simp [AV.lts, AV.lt]) rfl rfl hg ?_
  simp (maxDischargeDepth := 9) -implicitDefEqProofs only [push_cast, reduceIte, Nat.reduceEqDiff, Nat.reduceAdd, Nat.reduceSub, Nat.reduceMul, Nat.reduceDiv, Nat.reduceMod, Nat.reduceLT, Nat.reduceLeDiff, Nat.reduceBEq, Nat.reduceBNe, reduceCtorEq, Int.reduceEq, Int.reduceNe, Int.reduceLT, Int.reduceLE, Int.reduceToNat, Int.reduceNeg, Int.reduceAdd, Int.reduceSub, Int.reduceMul, Int.reducePow, Nat.reducePow, Int.reduceBEq, M44, h1]
/-- By how much true time goes on, at most. -/
def upV (t f x : Int) : Int := let v := mdv true (bro x + t + 1) 1000000000 (1000000000 - f); if I64 v then bro v else 4611686018427387904
def downV (t f x : Int) : Int := bro (mdv false (bro x - t - 1) 1000000000 (1000000000 + f))
theorem Ruler_Up {h : AHeap} {p : Nat} {t f x : Int} (hg : Good h) (r : Rul h p t f) : W CP 19 [.ptr p 0, .int .i64 x] h = some (.int .i64 (upV t f x), h, []) := by
  have en := Ruler_none hg r
  obtain ⟨h1, h2, h3, h4, h5, h6⟩ := r
  have h2' : ¬ h.length ≤ p := by omega
  have eb := fun y g => span_brought (t := y) g
  obtain ⟨b1, b2⟩ := bro_in x
  unfold upV
  obtain ⟨y, hy⟩ : ∃ y, bro x = y := ⟨_, rfl⟩
  have ebx := fun g => span_brought (t := x) g
  rw [hy] at ebx b1 b2 ⊢
  have w1 : IntKind.i64.wrap (y + t) = y + t := wr_i64 _ (by omega) (by omega)
  have w2 : IntKind.i64.wrap (y + t + 1) = y + t + 1 := wr_i64 _ (by omega) (by omega)
  have w3 : IntKind.i64.wrap (1000000000 - f) = 1000000000 - f := wr_i64 _ (by omega) (by omega)
  have em := fun g => fix_MulDivUp (a := y + t + 1) (b := 1000000000) (c := 1000000000 - f) ⟨by omega, by omega⟩ ⟨by omega, by omega⟩ ⟨by omega, by omega⟩ g
  obtain ⟨v, hv⟩ : ∃ v, mdv true (y + t + 1) 1000000000 (1000000000 - f) = v := ⟨_, rfl⟩
  rw [hv] at em ⊢
  simp only
  unfold qres at em
  refine W_quiet0 (m := M19) rfl rfl (by simp [AV.lts, AV.lt]) rfl rfl hg ?_
  by_cases hi : I64 v
  · rw [if_pos hi]
    simp only [if_pos hi] at em
    have ev := fun g => span_brought (t := v) g
    simp (maxDischargeDepth := 9) -implicitDefEqProofs only [push_cast, reduceIte, Nat.reduceEqDiff, Nat.reduceAdd, Nat.reduceSub, Nat.reduceMul, Nat.reduceDiv, Nat.reduceMod, Nat.reduceLT, Nat.reduceLeDiff, Nat.reduceBEq, Nat.reduceBNe, reduceCtorEq, Int.reduceEq, Int.reduceNe, Int.reduceLT, Int.reduceLE, Int.reduceToNat, Int.reduceNeg, Int.reduceAdd, Int.reduceSub, Int.reduceMul, Int.reducePow, Nat.reducePow, Int.reduceBEq, M19, en, h1, h2, h2', ebx, w1, w2, w3, em, ev]
  · rw [if_neg hi]
    simp only [if_neg hi] at em
    simp (maxDischargeDepth := 9) -implicitDefEqProofs only [push_cast, reduceIte, Nat.reduceEqDiff, Nat.reduceAdd, Nat.reduceSub, Nat.reduceMul, Nat.reduceDiv, Nat.reduceMod, Nat.reduceLT, Nat.reduceLeDiff, Nat.reduceBEq, Nat.reduceBNe, reduceCtorEq, Int.reduceEq, Int.reduceNe, Int.reduceLT, Int.reduceLE, Int.reduceToNat, Int.reduceNeg, Int.reduceAdd, Int.reduceSub, Int.reduceMul, Int.reducePow, Nat.reducePow, Int.reduceBEq, M19, en, h1, h2, h2', ebx, w1, w2, w3, em]
theorem Ruler_Down {h : AHeap} {p : Nat} {t f x : Int} (hg : Good h) (r : Rul h p t f) : W CP 20 [.ptr p 0, .int .i64 x] h = some (.int .i64 (downV t f x), h, []) := by
  have en := Ruler_none hg r
  obtain ⟨h1, h2, h3, h4, h5, h6⟩ := r
  have h2' : ¬ h.length ≤ p := by omega
  obtain ⟨b1, b2⟩ := bro_in x
  unfold downV
  obtain ⟨y, hy⟩ : ∃ y, bro x = y := ⟨_, rfl⟩
  have ebx := fun g => span_brought (t := x) g
  rw [hy] at ebx b1 b2 ⊢
  have w1 : IntKind.i64.wrap (y - t) = y - t := wr_i64 _ (by omega) (by omega)
  have w2 : IntKind.i64.wrap (y - t - 1) = y - t - 1 := wr_i64 _ (by omega) (by omega)
  have w3 : IntKind.i64.wrap (1000000000 + f) = 1000000000 + f := wr_i64 _ (by omega) (by omega)
  have em := fun g => fix_MulDiv (a := y - t - 1) (b := 1000000000) (c := 1000000000 + f) ⟨by omega, by omega⟩ ⟨by omega, by omega⟩ ⟨by omega, by omega⟩ g
  obtain ⟨v, hv⟩ : ∃ v, mdv false (y - t - 1) 1000000000 (1000000000 + f) = v := ⟨_, rfl⟩
  have hi : I64 v := by
    rw [← hv]
    unfold mdv
    simp only [Bool.false_eq_true, if_false]
    constructor
    · exact Int.le_ediv_of_mul_le (by omega) (by omega)
    · have := Int.ediv_lt_of_lt_mul (a := (y - t - 1) * 1000000000) (b := 9223372036854775808) (c := 1000000000 + f) (by omega) (by omega)
      omega
  rw [hv] at em ⊢
  unfold qres at em
  simp only [if_pos hi] at em
  have ev := fun g => span_brought (t := v) g
  refine W_quiet0 (m := M20) rfl rfl (by simp [AV.lts, AV.lt]) rfl rfl hg ?_
  simp (maxDischargeDepth := 9) -implicitDefEqProofs only [push_cast, reduceIte, Nat.reduceEqDiff, Nat.reduceAdd, Nat.reduceSub, Nat.reduceMul, Nat.reduceDiv, Nat.reduceMod, Nat.reduceLT, Nat.reduceLeDiff, Nat.reduceBEq, Nat.reduceBNe, reduceCtorEq, Int.reduceEq, Int.reduceNe, Int.reduceLT, Int.reduceLE, Int.reduceToNat, Int.reduceNeg, Int.reduceAdd, Int.reduceSub, Int.reduceMul, Int.reducePow, Nat.reducePow, Int.reduceBEq, M20, en, h1, h2, h2', ebx, w1, w2, w3, em, ev]
theorem span_New {t f : Int} (h1 : 1 ≤ t) (h2 : t ≤ 1000000000) (h3 : 0 ≤ f) (h4 : f ≤ 500000) (h : AHeap) :
    W CP 15 [.int .i64 t, .int .i64 f] h = some (.tup [.ptr h.length 0, .int .i64 0], h ++ [⟨.tip false, .vals [.int .i64 t, .int .i64 f, .bool true]⟩], []) := by
  have c1 : ¬ t < 1 := by omega
  have c2 : ¬ 1000000000 < t := by omega
  have c3 : ¬ f < 0 := by omega
  have c4 : ¬ 500000 < f := by omega
  have hb : ∀ h : AHeap, xbody (W CP) M15 [.int .i64 t, .int .i64 f] h = some (.tup [.ptr h.length 0, .int .i64 0], h ++ [⟨.tip false, .vals [.int .i64 t, .int .i64 f, .bool true]⟩], []) := by
    intro h
    simp (maxDischargeDepth := 9) -implicitDefEqProofs only [push_cast, reduceIte, Nat.reduceEqDiff, Nat.reduceAdd, Nat.reduceSub, Nat.reduceMul, Nat.reduceDiv, Nat.reduceMod, Nat.reduceLT, Nat.reduceLeDiff, Nat.reduceBEq, Nat.reduceBNe, reduceCtorEq, Int.reduceEq, Int.reduceNe, Int.reduceLT, Int.reduceLE, Int.reduceToNat, Int.reduceNeg, Int.reduceAdd, Int.reduceSub, Int.reduceMul, Int.reducePow, Nat.reducePow, Int.reduceBEq, M15, c1, c2, c3, c4]
    try rfl
  rw [W_made (m := M15) rfl rfl rfl (hb _) rfl (hb h)]
  have : M15.trim = true := rfl
  rw [this, if_pos rfl, trim_addr (by simp [AV.lt, AV.lts])]
theorem span_New_bad {t f : Int} (hb : t < 1 ∨ 1000000000 < t ∨ f < 0 ∨ 500000 < f) (h : AHeap) : W CP 15 [.int .i64 t, .int .i64 f] h = some (.tup [.nilp, .int .i64 1], h, []) := by
  refine W_val (m := M15) (fun _ => rfl) rfl rfl rfl ?_ h
  by_cases c1 : t < 1
  · simp (maxDischargeDepth := 9) -implicitDefEqProofs only [push_cast, reduceIte, Nat.reduceEqDiff, Nat.reduceAdd, Nat.reduceSub, Nat.reduceMul, Nat.reduceDiv, Nat.reduceMod, Nat.reduceLT, Nat.reduceLeDiff, Nat.reduceBEq, Nat.reduceBNe, reduceCtorEq, Int.reduceEq, Int.reduceNe, Int.reduceLT, Int.reduceLE, Int.reduceToNat, Int.reduceNeg, Int.reduceAdd, Int.reduceSub, Int.reduceMul, Int.reducePow, Nat.reducePow, Int.reduceBEq, M15, c1]
  · by_cases c2 : 1000000000 < t
    · simp (maxDischargeDepth := 9) -implicitDefEqProofs only [push_cast, reduceIte, Nat.reduceEqDiff, Nat.reduceAdd, Nat.reduceSub, Nat.reduceMul, Nat.reduceDiv, Nat.reduceMod, Nat.reduceLT, Nat.reduceLeDiff, Nat.reduceBEq, Nat.reduceBNe, reduceCtorEq, Int.reduceEq, Int.reduceNe, Int.reduceLT, Int.reduceLE, Int.reduceToNat, Int.reduceNeg, Int.reduceAdd, Int.reduceSub, Int.reduceMul, Int.reducePow, Nat.reducePow, Int.reduceBEq, M15, c1, c2]
    · by_cases c3 : f < 0
      · simp (maxDischargeDepth := 9) -implicitDefEqProofs only [push_cast, reduceIte, Nat.reduceEqDiff, Nat.reduceAdd, Nat.reduceSub, Nat.reduceMul, Nat.reduceDiv, Nat.reduceMod, Nat.reduceLT, Nat.reduceLeDiff, Nat.reduceBEq, Nat.reduceBNe, reduceCtorEq, Int.reduceEq, Int.reduceNe, Int.reduceLT, Int.reduceLE, Int.reduceToNat, Int.reduceNeg, Int.reduceAdd, Int.reduceSub, Int.reduceMul, Int.reducePow, Nat.reducePow, Int.reduceBEq, M15, c1, c2, c3]
      · have c4 : 500000 < f := by omega
        simp (maxDischargeDepth := 9) -implicitDefEqProofs only [push_cast, reduceIte, Nat.reduceEqDiff, Nat.reduceAdd, Nat.reduceSub, Nat.reduceMul, Nat.reduceDiv, Nat.reduceMod, Nat.reduceLT, Nat.reduceLeDiff, Nat.reduceBEq, Nat.reduceBNe, reduceCtorEq, Int.reduceEq, Int.reduceNe, Int.reduceLT, Int.reduceLE, Int.reduceToNat, Int.reduceNeg, Int.reduceAdd, Int.reduceSub, Int.reduceMul, Int.reducePow, Nat.reducePow, Int.reduceBEq, M15, c1, c2, c3, c4]
end Go.Proofs.YtcpiohklljppaaaW.AI.D
namespace Go.Proofs.YtcpiohklljppaaaW.AI.D
open Go Go.Proofs.YtcpiohklljppaaaW.AI
set_option maxRecDepth 100000
set_option linter.unusedSimpArgs false
set_option linter.unusedVariables false
set_option linter.unusedSectionVars false

def okT (t : Int) : Bool := decide (0 ≤ t ∧ t ≤ 4611686018427387904)
theorem bro_id {t : Int} (h : 0 ≤ t) (h' : t ≤ 4611686018427387904) : bro t = t := by unfold bro clamp; rw [if_neg (by omega), if_neg (by omega)]
theorem bro_ne {t : Int} (h : ¬ (0 ≤ t ∧ t ≤ 4611686018427387904)) : ¬ t = bro t := by unfold bro clamp; split <;> (try split) <;> omega
theorem bro_sat (t : Int) : bro (sat t) = bro t := by unfold bro sat clamp; split <;> (try split) <;> split <;> (try split) <;> omega
theorem span_times {h : AHeap} {q : Nat} {l : List Int} (hg : Good h) (hq : h[q]? = some ⟨.tip false, .ints .i64 l⟩) (hl : l.length < 1000) : W CP 45 [.sl q 0 l.length l.length] h = some (.bool (l.all okT), h, []) := by
  have hql := (List.getElem?_eq_some_iff.1 hq).1
  refine W_quietP (m := M45) rfl rfl (by simp [AV.lts, AV.lt]) rfl rfl hg ?_
  simp (maxDischargeDepth := 9) -implicitDefEqProofs only [push_cast, reduceIte, Nat.reduceEqDiff, Nat.reduceAdd, Nat.reduceSub, Nat.reduceMul, Nat.reduceDiv, Nat.reduceMod, Nat.reduceLT, Nat.reduceLeDiff, Nat.reduceBEq, Nat.reduceBNe, reduceCtorEq, Int.reduceEq, Int.reduceNe, Int.reduceLT, Int.reduceLE, Int.reduceToNat, Int.reduceNeg, Int.reduceAdd, Int.reduceSub, Int.reduceMul, Int.reducePow, Nat.reducePow, Int.reduceBEq, M45]
  refine wp_kRes (wp_kSeq (wp_kBlock ?_))
  refine wp_loop (fun k a h' ws => ∃ i : Nat, k = l.length - i ∧ i ≤ l.length ∧ (l.take i).all okT = true ∧ a = [(5, .sl q 0 l.length l.length), (6, .int .i64 (l.length : Int)), (7, .int .i64 (i : Int))] ∧ h' = h ∧ ws = []) l.length ?_ ?_
  · refine ⟨0, by omega, by omega, rfl, ?_, rfl, rfl⟩
    simp (maxDischargeDepth := 9) -implicitDefEqProofs only [push_cast, reduceIte, Nat.reduceEqDiff, Nat.reduceAdd, Nat.reduceSub, Nat.reduceMul, Nat.reduceDiv, Nat.reduceMod, Nat.reduceLT, Nat.reduceLeDiff, Nat.reduceBEq, Nat.reduceBNe, reduceCtorEq, Int.reduceEq, Int.reduceNe, Int.reduceLT, Int.reduceLE, Int.reduceToNat, Int.reduceNeg, Int.reduceAdd, Int.reduceSub, Int.reduceMul, Int.reducePow, Nat.reducePow, Int.reduceBEq]; try rfl
  · rintro k aa h' ws ⟨i, rfl, hi, hall, rfl, rfl, rfl⟩
    have v1 : IntKind.i64.wrap ((i : Int) + 1) = (i : Int) + 1 := wr_i64 _ (by omega) (by omega)
    by_cases hlt : i < l.length
    · have hlt' : (i : Int) < (l.length : Int) := by omega
      obtain ⟨x, hx⟩ : ∃ x, l[i]? = some x := ⟨_, List.getElem?_eq_getElem hlt⟩
      have eb := fun g => span_brought (t := x) g
      have htk : l.take (i + 1) = l.take i ++ [x] := by rw [List.take_add_one, hx]; rfl
      by_cases hok : 0 ≤ x ∧ x ≤ 4611686018427387904
      · rw [bro_id hok.1 hok.2] at eb
        simp (maxDischargeDepth := 9) -implicitDefEqProofs only [push_cast, reduceIte, Nat.reduceEqDiff, Nat.reduceAdd, Nat.reduceSub, Nat.reduceMul, Nat.reduceDiv, Nat.reduceMod, Nat.reduceLT, Nat.reduceLeDiff, Nat.reduceBEq, Nat.reduceBNe, reduceCtorEq, Int.reduceEq, Int.reduceNe, Int.reduceLT, Int.reduceLE, Int.reduceToNat, Int.reduceNeg, Int.reduceAdd, Int.reduceSub, Int.reduceMul, Int.reducePow, Nat.reducePow, Int.reduceBEq, hlt, hlt', v1, hq, hx, eb]
        refine loop_next (l.length - (i + 1)) (by omega) ⟨i + 1, rfl, by omega, ?_, ?_, rfl, rfl⟩
        · rw [htk, List.all_append, hall]
          simp [okT, hok.1, hok.2]
        · simp (maxDischargeDepth := 9) -implicitDefEqProofs only [push_cast, reduceIte, Nat.reduceEqDiff, Nat.reduceAdd, Nat.reduceSub, Nat.reduceMul, Nat.reduceDiv, Nat.reduceMod, Nat.reduceLT, Nat.reduceLeDiff, Nat.reduceBEq, Nat.reduceBNe, reduceCtorEq, Int.reduceEq, Int.reduceNe, Int.reduceLT, Int.reduceLE, Int.reduceToNat, Int.reduceNeg, Int.reduceAdd, Int.reduceSub, Int.reduceMul, Int.reducePow, Nat.reducePow, Int.reduceBEq]; try simp
      · have hne := bro_ne hok
        have hf : l.all okT = false := by
          rw [← Bool.not_eq_true, List.all_eq_true]
          intro hh
          have := hh x (List.mem_of_getElem? hx)
          simp only [okT, decide_eq_true_eq] at this
          exact hok this
        rw [hf]
        obtain ⟨y, hy⟩ : ∃ y, bro x = y := ⟨_, rfl⟩
        rw [hy] at eb hne
        simp (maxDischargeDepth := 9) -implicitDefEqProofs only [push_cast, reduceIte, Nat.reduceEqDiff, Nat.reduceAdd, Nat.reduceSub, Nat.reduceMul, Nat.reduceDiv, Nat.reduceMod, Nat.reduceLT, Nat.reduceLeDiff, Nat.reduceBEq, Nat.reduceBNe, reduceCtorEq, Int.reduceEq, Int.reduceNe, Int.reduceLT, Int.reduceLE, Int.reduceToNat, Int.reduceNeg, Int.reduceAdd, Int.reduceSub, Int.reduceMul, Int.reducePow, Nat.reducePow, Int.reduceBEq, hlt, hlt', v1, hq, hx, eb, hne]
        exact quiet_0
    · have hi2 : i = l.length := by omega
      subst hi2
      rw [List.take_length] at hall
      have hnl : ¬ (l.length : Int) < (l.length : Int) := by omega
      simp (maxDischargeDepth := 9) -implicitDefEqProofs only [push_cast, reduceIte, Nat.reduceEqDiff, Nat.reduceAdd, Nat.reduceSub, Nat.reduceMul, Nat.reduceDiv, Nat.reduceMod, Nat.reduceLT, Nat.reduceLeDiff, Nat.reduceBEq, Nat.reduceBNe, reduceCtorEq, Int.reduceEq, Int.reduceNe, Int.reduceLT, Int.reduceLE, Int.reduceToNat, Int.reduceNeg, Int.reduceAdd, Int.reduceSub, Int.reduceMul, Int.reducePow, Nat.reducePow, Int.reduceBEq, hall]
      exact quiet_0
/-- May a span be? -/
def mayS (a l u : Int) : Bool := okT a && okT l && okT u && decide (l ≤ u)
theorem span_May {a l u : Int} (h : AHeap) : W CP 28 [.agg [.int .i64 a, .int .i64 l, .int .i64 u]] h = some (.bool (mayS a l u), h, []) := by
  have et := span_times (h := CP.gl ++ [⟨.tip false, .ints .i64 [a, l, u]⟩, ⟨.tip false, .ints .i64 [a, l, u]⟩]) (q := CP.gl.length + 1) (l := [a, l, u]) (by rfl) (by rfl) (by simp)
  simp only [List.length_cons, List.length_nil, Nat.reduceAdd] at et
  have e3 : ([a, l, u].all okT) = (okT a && okT l && okT u) := by simp [Bool.and_assoc]
  rw [e3] at et
  refine W_val (m := M28) (fun _ => rfl) rfl rfl rfl ?_ h
  unfold mayS
  cases hb : (okT a && okT l && okT u) with
  | false =>
    rw [hb] at et
    simp (maxDischargeDepth := 9) -implicitDefEqProofs only [push_cast, reduceIte, Nat.reduceEqDiff, Nat.reduceAdd, Nat.reduceSub, Nat.reduceMul, Nat.reduceDiv, Nat.reduceMod, Nat.reduceLT, Nat.reduceLeDiff, Nat.reduceBEq, Nat.reduceBNe, reduceCtorEq, Int.reduceEq, Int.reduceNe, Int.reduceLT, Int.reduceLE, Int.reduceToNat, Int.reduceNeg, Int.reduceAdd, Int.reduceSub, Int.reduceMul, Int.reducePow, Nat.reducePow, Int.reduceBEq, M28, et]
  | true =>
    rw [hb] at et
    simp (maxDischargeDepth := 9) -implicitDefEqProofs only [push_cast, reduceIte, Nat.reduceEqDiff, Nat.reduceAdd, Nat.reduceSub, Nat.reduceMul, Nat.reduceDiv, Nat.reduceMod, Nat.reduceLT, Nat.reduceLeDiff, Nat.reduceBEq, Nat.reduceBNe, reduceCtorEq, Int.reduceEq, Int.reduceNe, Int.reduceLT, Int.reduceLE, Int.reduceToNat, Int.reduceNeg, Int.reduceAdd, Int.reduceSub, Int.reduceMul, Int.reducePow, Nat.reducePow, Int.reduceBEq, M28, et]
theorem mayS_iff {a l u : Int} : mayS a l u = true ↔ (0 ≤ a ∧ a ≤ 4611686018427387904) ∧ (0 ≤ l ∧ l ≤ u ∧ u ≤ 4611686018427387904) := by
  unfold mayS okT
  simp only [Bool.and_eq_true, decide_eq_true_eq]
  omega
def widS (a l u : Int) : Int := if mayS a l u then u - l else 0
def midS (a l u : Int) : Int := if mayS a l u then l + (u - l) / 2 else 0
def hasS (a l u t : Int) : Bool := mayS a l u && decide (l ≤ t) && decide (t ≤ u)
theorem span_Width {a l u : Int} (h : AHeap) : W CP 24 [.agg [.int .i64 a, .int .i64 l, .int .i64 u]] h = some (.int .i64 (widS a l u), h, []) := by
  have em := fun g => span_May (a := a) (l := l) (u := u) g
  refine W_val (m := M24) (fun _ => rfl) rfl rfl rfl ?_ h
  unfold widS
  cases hb : mayS a l u with
  | false =>
    rw [hb] at em
    simp (maxDischargeDepth := 9) -implicitDefEqProofs only [push_cast, reduceIte, Nat.reduceEqDiff, Nat.reduceAdd, Nat.reduceSub, Nat.reduceMul, Nat.reduceDiv, Nat.reduceMod, Nat.reduceLT, Nat.reduceLeDiff, Nat.reduceBEq, Nat.reduceBNe, reduceCtorEq, Int.reduceEq, Int.reduceNe, Int.reduceLT, Int.reduceLE, Int.reduceToNat, Int.reduceNeg, Int.reduceAdd, Int.reduceSub, Int.reduceMul, Int.reducePow, Nat.reducePow, Int.reduceBEq, M24, em]
  | true =>
    rw [hb] at em
    have := mayS_iff.1 hb
    have w1 : IntKind.i64.wrap (u - l) = u - l := wr_i64 _ (by omega) (by omega)
    simp (maxDischargeDepth := 9) -implicitDefEqProofs only [push_cast, reduceIte, Nat.reduceEqDiff, Nat.reduceAdd, Nat.reduceSub, Nat.reduceMul, Nat.reduceDiv, Nat.reduceMod, Nat.reduceLT, Nat.reduceLeDiff, Nat.reduceBEq, Nat.reduceBNe, reduceCtorEq, Int.reduceEq, Int.reduceNe, Int.reduceLT, Int.reduceLE, Int.reduceToNat, Int.reduceNeg, Int.reduceAdd, Int.reduceSub, Int.reduceMul, Int.reducePow, Nat.reducePow, Int.reduceBEq, M24, em, w1]
theorem span_Mid {a l u : Int} (h : AHeap) : W CP 31 [.agg [.int .i64 a, .int .i64 l, .int .i64 u]] h = some (.int .i64 (midS a l u), h, []) := by
  have em := fun g => span_May (a := a) (l := l) (u := u) g
  have ew := fun g => span_Width (a := a) (l := l) (u := u) g
  refine W_val (m := M31) (fun _ => rfl) rfl rfl rfl ?_ h
  unfold midS
  unfold widS at ew
  cases hb : mayS a l u with
  | false =>
    rw [hb] at em
    simp (maxDischargeDepth := 9) -implicitDefEqProofs only [push_cast, reduceIte, Nat.reduceEqDiff, Nat.reduceAdd, Nat.reduceSub, Nat.reduceMul, Nat.reduceDiv, Nat.reduceMod, Nat.reduceLT, Nat.reduceLeDiff, Nat.reduceBEq, Nat.reduceBNe, reduceCtorEq, Int.reduceEq, Int.reduceNe, Int.reduceLT, Int.reduceLE, Int.reduceToNat, Int.reduceNeg, Int.reduceAdd, Int.reduceSub, Int.reduceMul, Int.reducePow, Nat.reducePow, Int.reduceBEq, M31, em]
  | true =>
    rw [hb] at em ew
    rw [if_pos rfl] at ew
    have := mayS_iff.1 hb
    have w1 : IntKind.i64.wrap ((u - l).tdiv 2) = (u - l) / 2 := by rw [Int.tdiv_eq_ediv_of_nonneg (by omega)]; exact wr_i64 _ (by omega) (by omega)
    have w2 : IntKind.i64.wrap (l + (u - l) / 2) = l + (u - l) / 2 := wr_i64 _ (by omega) (by omega)
    have hlen : CP.gl.length = 2 := rfl
    simp (maxDischargeDepth := 9) -implicitDefEqProofs only [push_cast, reduceIte, Nat.reduceEqDiff, Nat.reduceAdd, Nat.reduceSub, Nat.reduceMul, Nat.reduceDiv, Nat.reduceMod, Nat.reduceLT, Nat.reduceLeDiff, Nat.reduceBEq, Nat.reduceBNe, reduceCtorEq, Int.reduceEq, Int.reduceNe, Int.reduceLT, Int.reduceLE, Int.reduceToNat, Int.reduceNeg, Int.reduceAdd, Int.reduceSub, Int.reduceMul, Int.reducePow, Nat.reducePow, Int.reduceBEq, M31, em, ew, w1, w2]
theorem span_Has {a l u t : Int} (h : AHeap) : W CP 29 [.agg [.int .i64 a, .int .i64 l, .int .i64 u], .int .i64 t] h = some (.bool (hasS a l u t), h, []) := by
  have em := fun g => span_May (a := a) (l := l) (u := u) g
  refine W_val (m := M29) (fun _ => rfl) rfl rfl rfl ?_ h
  unfold hasS
  cases hb : mayS a l u with
  | false =>
    rw [hb] at em
    simp (maxDischargeDepth := 9) -implicitDefEqProofs only [push_cast, reduceIte, Nat.reduceEqDiff, Nat.reduceAdd, Nat.reduceSub, Nat.reduceMul, Nat.reduceDiv, Nat.reduceMod, Nat.reduceLT, Nat.reduceLeDiff, Nat.reduceBEq, Nat.reduceBNe, reduceCtorEq, Int.reduceEq, Int.reduceNe, Int.reduceLT, Int.reduceLE, Int.reduceToNat, Int.reduceNeg, Int.reduceAdd, Int.reduceSub, Int.reduceMul, Int.reducePow, Nat.reducePow, Int.reduceBEq, M29, em]
  | true =>
    rw [hb] at em
    by_cases c1 : l ≤ t
    · simp (maxDischargeDepth := 9) -implicitDefEqProofs only [push_cast, reduceIte, Nat.reduceEqDiff, Nat.reduceAdd, Nat.reduceSub, Nat.reduceMul, Nat.reduceDiv, Nat.reduceMod, Nat.reduceLT, Nat.reduceLeDiff, Nat.reduceBEq, Nat.reduceBNe, reduceCtorEq, Int.reduceEq, Int.reduceNe, Int.reduceLT, Int.reduceLE, Int.reduceToNat, Int.reduceNeg, Int.reduceAdd, Int.reduceSub, Int.reduceMul, Int.reducePow, Nat.reducePow, Int.reduceBEq, M29, em, c1]
    · simp (maxDischargeDepth := 9) -implicitDefEqProofs only [push_cast, reduceIte, Nat.reduceEqDiff, Nat.reduceAdd, Nat.reduceSub, Nat.reduceMul, Nat.reduceDiv, Nat.reduceMod, Nat.reduceLT, Nat.reduceLeDiff, Nat.reduceBEq, Nat.reduceBNe, reduceCtorEq, Int.reduceEq, Int.reduceNe, Int.reduceLT, Int.reduceLE, Int.reduceToNat, Int.reduceNeg, Int.reduceAdd, Int.reduceSub, Int.reduceMul, Int.reducePow, Nat.reducePow, Int.reduceBEq, M29, em, c1]
end Go.Proofs.YtcpiohklljppaaaW.AI.D
namespace Go.Proofs.YtcpiohklljppaaaW.AI.D
open Go Go.Proofs.YtcpiohklljppaaaW.AI
set_option maxRecDepth 100000
set_option linter.unusedSimpArgs false
set_option linter.unusedVariables false
set_option linter.unusedSectionVars false

/-- A span as a value. -/
abbrev spA (a l u : Int) : AV := .agg [.int .i64 a, .int .i64 l, .int .i64 u]
abbrev mx (x y : Int) : Int := if x < y then y else x
abbrev mn (x y : Int) : Int := if y < x then y else x
def meetB (a l u a' l' u' : Int) : Bool := mayS a l u && mayS a' l' u' && decide (a = a') && decide (mx l l' ≤ mn u u')
theorem span_Meet {a l u a' l' u' : Int} (h : AHeap) : W CP 33 [spA a l u, spA a' l' u'] h = some (if meetB a l u a' l' u' then .tup [spA a (mx l l') (mn u u'), .bool true] else .tup [spA 0 0 0, .bool false], h, []) := by
  have em := fun g => span_May (a := a) (l := l) (u := u) g
  have en := fun g => span_May (a := a') (l := l') (u := u') g
  refine W_val (m := M33) (fun _ => rfl) rfl rfl (by split <;> rfl) ?_ h
  unfold meetB
  obtain ⟨X, hX⟩ : ∃ X, mx l l' = X := ⟨_, rfl⟩
  obtain ⟨Y, hY⟩ : ∃ Y, mn u u' = Y := ⟨_, rfl⟩
  rw [hX, hY]
  unfold mx at hX
  unfold mn at hY
  cases h1 : mayS a l u with
  | false =>
    rw [h1] at em
    simp (maxDischargeDepth := 9) -implicitDefEqProofs only [push_cast, reduceIte, Nat.reduceEqDiff, Nat.reduceAdd, Nat.reduceSub, Nat.reduceMul, Nat.reduceDiv, Nat.reduceMod, Nat.reduceLT, Nat.reduceLeDiff, Nat.reduceBEq, Nat.reduceBNe, reduceCtorEq, Int.reduceEq, Int.reduceNe, Int.reduceLT, Int.reduceLE, Int.reduceToNat, Int.reduceNeg, Int.reduceAdd, Int.reduceSub, Int.reduceMul, Int.reducePow, Nat.reducePow, Int.reduceBEq, M33, em]
  | true =>
    rw [h1] at em
    cases h2 : mayS a' l' u' with
    | false =>
      rw [h2] at en
      simp (maxDischargeDepth := 9) -implicitDefEqProofs only [push_cast, reduceIte, Nat.reduceEqDiff, Nat.reduceAdd, Nat.reduceSub, Nat.reduceMul, Nat.reduceDiv, Nat.reduceMod, Nat.reduceLT, Nat.reduceLeDiff, Nat.reduceBEq, Nat.reduceBNe, reduceCtorEq, Int.reduceEq, Int.reduceNe, Int.reduceLT, Int.reduceLE, Int.reduceToNat, Int.reduceNeg, Int.reduceAdd, Int.reduceSub, Int.reduceMul, Int.reducePow, Nat.reducePow, Int.reduceBEq, M33, em, en]
    | true =>
      rw [h2] at en
      by_cases h3 : a = a'
      · subst h3
        by_cases h4 : X ≤ Y
        · have h4' : ¬ Y < X := by omega
          simp (maxDischargeDepth := 9) -implicitDefEqProofs only [push_cast, reduceIte, Nat.reduceEqDiff, Nat.reduceAdd, Nat.reduceSub, Nat.reduceMul, Nat.reduceDiv, Nat.reduceMod, Nat.reduceLT, Nat.reduceLeDiff, Nat.reduceBEq, Nat.reduceBNe, reduceCtorEq, Int.reduceEq, Int.reduceNe, Int.reduceLT, Int.reduceLE, Int.reduceToNat, Int.reduceNeg, Int.reduceAdd, Int.reduceSub, Int.reduceMul, Int.reducePow, Nat.reducePow, Int.reduceBEq, M33, em, en, hX, hY, h4, h4']
        · have h4' : Y < X := by omega
          simp (maxDischargeDepth := 9) -implicitDefEqProofs only [push_cast, reduceIte, Nat.reduceEqDiff, Nat.reduceAdd, Nat.reduceSub, Nat.reduceMul, Nat.reduceDiv, Nat.reduceMod, Nat.reduceLT, Nat.reduceLeDiff, Nat.reduceBEq, Nat.reduceBNe, reduceCtorEq, Int.reduceEq, Int.reduceNe, Int.reduceLT, Int.reduceLE, Int.reduceToNat, Int.reduceNeg, Int.reduceAdd, Int.reduceSub, Int.reduceMul, Int.reducePow, Nat.reducePow, Int.reduceBEq, M33, em, en, hX, hY, h4, h4']
      · simp (maxDischargeDepth := 9) -implicitDefEqProofs only [push_cast, reduceIte, Nat.reduceEqDiff, Nat.reduceAdd, Nat.reduceSub, Nat.reduceMul, Nat.reduceDiv, Nat.reduceMod, Nat.reduceLT, Nat.reduceLeDiff, Nat.reduceBEq, Nat.reduceBNe, reduceCtorEq, Int.reduceEq, Int.reduceNe, Int.reduceLT, Int.reduceLE, Int.reduceToNat, Int.reduceNeg, Int.reduceAdd, Int.reduceSub, Int.reduceMul, Int.reducePow, Nat.reducePow, Int.reduceBEq, M33, em, en, h3]
theorem span_ends1 {h : AHeap} {q : Nat} {a b c d : Int} (hg : Good h) (hq : h[q]? = some ⟨.tip false, .ints .i64 [a, b, c, d]⟩) (k : Nat) (hk : k < 2) (x y : Int) (hx : [a, b, c, d][2 * k]? = some x) (hy : [a, b, c, d][2 * k + 1]? = some y) (ix : I64 x) (iy : I64 y) :
    W CP 68 [.int .i64 (k : Int), .ptr q 0] h = some (.int .i64 (bro (x + y)), h, []) := by
  have e1 := fun g => fix_AddSat ix iy g
  have e2 := fun g => span_brought (t := sat (x + y)) g
  rw [bro_sat] at e2
  refine W_quietP (m := M68) rfl rfl (by simp [AV.lts, AV.lt]) rfl rfl hg ?_
  have hk2 : k = 0 ∨ k = 1 := by omega
  rcases hk2 with rfl | rfl
  · simp only [Nat.mul_zero, Nat.zero_add, List.getElem?_cons_zero, List.getElem?_cons_succ, Option.some.injEq] at hx hy
    subst hx; subst hy
    simp (maxDischargeDepth := 9) -implicitDefEqProofs only [push_cast, reduceIte, Nat.reduceEqDiff, Nat.reduceAdd, Nat.reduceSub, Nat.reduceMul, Nat.reduceDiv, Nat.reduceMod, Nat.reduceLT, Nat.reduceLeDiff, Nat.reduceBEq, Nat.reduceBNe, reduceCtorEq, Int.reduceEq, Int.reduceNe, Int.reduceLT, Int.reduceLE, Int.reduceToNat, Int.reduceNeg, Int.reduceAdd, Int.reduceSub, Int.reduceMul, Int.reducePow, Nat.reducePow, Int.reduceBEq, M68, hq, e1, e2, Int.natCast_zero]
    first | exact quiet_0 | skip
  · simp only [Nat.mul_one, Nat.reduceAdd, List.getElem?_cons_zero, List.getElem?_cons_succ, Option.some.injEq] at hx hy
    subst hx; subst hy
    simp (maxDischargeDepth := 9) -implicitDefEqProofs only [push_cast, reduceIte, Nat.reduceEqDiff, Nat.reduceAdd, Nat.reduceSub, Nat.reduceMul, Nat.reduceDiv, Nat.reduceMod, Nat.reduceLT, Nat.reduceLeDiff, Nat.reduceBEq, Nat.reduceBNe, reduceCtorEq, Int.reduceEq, Int.reduceNe, Int.reduceLT, Int.reduceLE, Int.reduceToNat, Int.reduceNeg, Int.reduceAdd, Int.reduceSub, Int.reduceMul, Int.reducePow, Nat.reducePow, Int.reduceBEq, M68, hq, e1, e2, Int.natCast_one]
    first | exact quiet_0 | skip
theorem span_ends {t a b c d : Int} (ha : I64 a) (hb : I64 b) (hc : I64 c) (hd : I64 d) (h : AHeap) : W CP 46 [.int .i64 t, .agg [.int .i64 a, .int .i64 b, .int .i64 c, .int .i64 d]] h = some (spA t (bro (a + b)) (bro (c + d)), h, []) := by
  have e0 := span_ends1 (h := CP.gl ++ [⟨.tip false, .ints .i64 [a, b, c, d]⟩, ⟨.tip false, .ints .i64 [0, 0, 0]⟩]) (q := CP.gl.length) (a := a) (b := b) (c := c) (d := d) (by rfl) (by rfl) 0 (by omega) a b rfl rfl ha hb
  have e1 := span_ends1 (h := CP.gl ++ [⟨.tip false, .ints .i64 [a, b, c, d]⟩, ⟨.tip false, .ints .i64 [0, 0, 0]⟩]) (q := CP.gl.length) (a := a) (b := b) (c := c) (d := d) (by rfl) (by rfl) 1 (by omega) c d rfl rfl hc hd
  simp only [Int.natCast_zero, Int.natCast_one] at e0 e1
  refine W_val (m := M46) (fun _ => rfl) rfl rfl rfl ?_ h
  simp (maxDischargeDepth := 9) -implicitDefEqProofs only [push_cast, reduceIte, Nat.reduceEqDiff, Nat.reduceAdd, Nat.reduceSub, Nat.reduceMul, Nat.reduceDiv, Nat.reduceMod, Nat.reduceLT, Nat.reduceLeDiff, Nat.reduceBEq, Nat.reduceBNe, reduceCtorEq, Int.reduceEq, Int.reduceNe, Int.reduceLT, Int.reduceLE, Int.reduceToNat, Int.reduceNeg, Int.reduceAdd, Int.reduceSub, Int.reduceMul, Int.reducePow, Nat.reducePow, Int.reduceBEq, M46, e0, e1]
/-- The least and the greatest that an exchange tells. -/
def ofLo (gave rho : Int) : Int := bro (gave - rho)
def ofHi (t f left came took rho : Int) : Int := bro (took + rho + 1 + upV t f (came - left))
theorem upV_in (t f x : Int) : 0 ≤ upV t f x ∧ upV t f x ≤ 4611686018427387904 := by
  unfold upV
  simp only
  split
  · exact bro_in _
  · omega
theorem downV_in (t f x : Int) : 0 ≤ downV t f x ∧ downV t f x ≤ 4611686018427387904 := bro_in _
theorem Ruler_Age {h : AHeap} {p : Nat} {t f a l u raw : Int} (hg : Good h) (r : Rul h p t f) :
    W CP 30 [.ptr p 0, spA a l u, .int .i64 raw] h = some (if mayS a l u = true ∧ a ≤ raw ∧ raw ≤ 4611686018427387904 then .tup [spA raw (bro (l + downV t f (raw - a))) (bro (u + upV t f (raw - a))), .int .i64 0] else .tup [spA 0 0 0, .int .i64 1], h, []) := by
  have em := fun g => span_May (a := a) (l := l) (u := u) g
  have hr := r
  obtain ⟨h1, h2, h3, h4, h5, h6⟩ := r
  have hG : ∀ (b1 b2 : ABlk), notOld b1 = true → notOld b2 = true → Good (h ++ [b1, b2]) := fun b1 b2 n1 n2 => good_app hg (by simp [n1, n2])
  obtain ⟨H, hH⟩ : ∃ H : AHeap, H = h ++ [⟨.tip false, .ints .i64 [a, l, u]⟩, ⟨.tip false, .ints .i64 [0, 0, 0]⟩] := ⟨_, rfl⟩
  have hGH : Good H := by rw [hH]; exact hG _ _ rfl rfl
  have en := Ruler_none hGH (by rw [hH]; exact hr.app _)
  rw [hH] at en
  refine W_quietP (m := M30) rfl rfl (by simp [AV.lts, AV.lt]) rfl (by split <;> rfl) hg ?_
  cases hm : mayS a l u with
  | false =>
    rw [hm] at em
    simp only [Bool.false_eq_true, false_and, if_false]
    simp (maxDischargeDepth := 9) -implicitDefEqProofs only [push_cast, reduceIte, Nat.reduceEqDiff, Nat.reduceAdd, Nat.reduceSub, Nat.reduceMul, Nat.reduceDiv, Nat.reduceMod, Nat.reduceLT, Nat.reduceLeDiff, Nat.reduceBEq, Nat.reduceBNe, reduceCtorEq, Int.reduceEq, Int.reduceNe, Int.reduceLT, Int.reduceLE, Int.reduceToNat, Int.reduceNeg, Int.reduceAdd, Int.reduceSub, Int.reduceMul, Int.reducePow, Nat.reducePow, Int.reduceBEq, M30, en, em]
    exact quiet_i
  | true =>
    rw [hm] at em
    simp only [true_and]
    by_cases c1 : a ≤ raw
    · have c1' : ¬ raw < a := by omega
      by_cases c2 : raw ≤ 4611686018427387904
      · have c2' : ¬ 4611686018427387904 < raw := by omega
        have hmm := mayS_iff.1 hm
        rw [if_pos ⟨c1, c2⟩]
        obtain ⟨d, hd⟩ : ∃ d, raw - a = d := ⟨_, rfl⟩
        have w1 : IntKind.i64.wrap (raw - a) = d := by rw [wr_i64 _ (by omega) (by omega)]; exact hd
        rw [hd]
        have eU := Ruler_Up (x := d) hGH (by rw [hH]; exact hr.app _)
        have eD := Ruler_Down (x := d) hGH (by rw [hH]; exact hr.app _)
        rw [hH] at eU eD
        obtain ⟨U, hU⟩ : ∃ U, upV t f d = U := ⟨_, rfl⟩
        obtain ⟨D, hD⟩ : ∃ U, downV t f d = U := ⟨_, rfl⟩
        have rU := upV_in t f d
        have rD := downV_in t f d
        rw [hU] at eU rU ⊢
        rw [hD] at eD rD ⊢
        have ee := fun g => span_ends (t := raw) (a := l) (b := D) (c := u) (d := U) ⟨by omega, by omega⟩ ⟨by omega, by omega⟩ ⟨by omega, by omega⟩ ⟨by omega, by omega⟩ g
        simp (maxDischargeDepth := 9) -implicitDefEqProofs only [push_cast, reduceIte, Nat.reduceEqDiff, Nat.reduceAdd, Nat.reduceSub, Nat.reduceMul, Nat.reduceDiv, Nat.reduceMod, Nat.reduceLT, Nat.reduceLeDiff, Nat.reduceBEq, Nat.reduceBNe, reduceCtorEq, Int.reduceEq, Int.reduceNe, Int.reduceLT, Int.reduceLE, Int.reduceToNat, Int.reduceNeg, Int.reduceAdd, Int.reduceSub, Int.reduceMul, Int.reducePow, Nat.reducePow, Int.reduceBEq, M30, en, em, c1', c2', w1, eU, eD, ee]
        exact quiet_i
      · have c2' : 4611686018427387904 < raw := by omega
        rw [if_neg (fun e => c2 e.2)]
        simp (maxDischargeDepth := 9) -implicitDefEqProofs only [push_cast, reduceIte, Nat.reduceEqDiff, Nat.reduceAdd, Nat.reduceSub, Nat.reduceMul, Nat.reduceDiv, Nat.reduceMod, Nat.reduceLT, Nat.reduceLeDiff, Nat.reduceBEq, Nat.reduceBNe, reduceCtorEq, Int.reduceEq, Int.reduceNe, Int.reduceLT, Int.reduceLE, Int.reduceToNat, Int.reduceNeg, Int.reduceAdd, Int.reduceSub, Int.reduceMul, Int.reducePow, Nat.reducePow, Int.reduceBEq, M30, en, em, c1', c2']
        exact quiet_i
    · have c1' : raw < a := by omega
      rw [if_neg (fun e => c1 e.1)]
      simp (maxDischargeDepth := 9) -implicitDefEqProofs only [push_cast, reduceIte, Nat.reduceEqDiff, Nat.reduceAdd, Nat.reduceSub, Nat.reduceMul, Nat.reduceDiv, Nat.reduceMod, Nat.reduceLT, Nat.reduceLeDiff, Nat.reduceBEq, Nat.reduceBNe, reduceCtorEq, Int.reduceEq, Int.reduceNe, Int.reduceLT, Int.reduceLE, Int.reduceToNat, Int.reduceNeg, Int.reduceAdd, Int.reduceSub, Int.reduceMul, Int.reducePow, Nat.reducePow, Int.reduceBEq, M30, en, em, c1']
      exact quiet_i
theorem Ruler_Of {h : AHeap} {p : Nat} {t f left came took gave rho : Int} (hg : Good h) (r : Rul h p t f) :
    W CP 18 [.ptr p 0, .int .i64 left, .int .i64 came, .int .i64 took, .int .i64 gave, .int .i64 rho] h =
      some (if ([left, came, took, gave, rho].all okT) = true ∧ left ≤ came then (if ofLo gave rho ≤ ofHi t f left came took rho then .tup [spA came (ofLo gave rho) (ofHi t f left came took rho), .int .i64 0] else .tup [spA 0 0 0, .int .i64 30]) else .tup [spA 0 0 0, .int .i64 1], h, []) := by
  have hr := r
  obtain ⟨h1, h2, h3, h4, h5, h6⟩ := r
  have hG1 : Good (h ++ [⟨.tip false, .ints .i64 [0, 0, 0]⟩]) := good_app hg rfl
  have hG2 : Good (h ++ [⟨.tip false, .ints .i64 [0, 0, 0]⟩, ⟨.tip false, .ints .i64 [left, came, took, gave, rho]⟩]) := good_app hg rfl
  have en := Ruler_none hG1 (hr.app _)
  have et := span_times (q := h.length + 1) (l := [left, came, took, gave, rho]) hG2 (by rw [List.getElem?_append_right (by omega)]; simp) (by simp)
  simp only [List.length_cons, List.length_nil, Nat.reduceAdd] at et
  refine W_quietP (m := M18) rfl rfl (by simp [AV.lts, AV.lt]) rfl (by split <;> (try split) <;> rfl) hg ?_
  cases hall : [left, came, took, gave, rho].all okT with
  | false =>
    rw [hall] at et
    simp only [Bool.false_eq_true, false_and, if_false]
    simp (maxDischargeDepth := 9) -implicitDefEqProofs only [push_cast, reduceIte, Nat.reduceEqDiff, Nat.reduceAdd, Nat.reduceSub, Nat.reduceMul, Nat.reduceDiv, Nat.reduceMod, Nat.reduceLT, Nat.reduceLeDiff, Nat.reduceBEq, Nat.reduceBNe, reduceCtorEq, Int.reduceEq, Int.reduceNe, Int.reduceLT, Int.reduceLE, Int.reduceToNat, Int.reduceNeg, Int.reduceAdd, Int.reduceSub, Int.reduceMul, Int.reducePow, Nat.reducePow, Int.reduceBEq, M18, en, et]
    exact quiet_i
  | true =>
    rw [hall] at et
    simp only [true_and]
    simp only [List.all_cons, List.all_nil, Bool.and_true, Bool.and_eq_true, okT, decide_eq_true_eq] at hall
    obtain ⟨r1, r2, r3, r4, r5⟩ := hall
    by_cases c1 : left ≤ came
    · have c1' : ¬ came < left := by omega
      rw [if_pos c1]
      have w1 : IntKind.i64.wrap (0 - rho) = -rho := by rw [wr_i64 _ (by omega) (by omega)]; omega
      have ea := fun g => fix_AddSat (a := took) (b := rho) ⟨by omega, by omega⟩ ⟨by omega, by omega⟩ g
      obtain ⟨S, hS⟩ : ∃ S, sat (took + rho) = S := ⟨_, rfl⟩
      rw [hS] at ea
      have rS : 0 ≤ S ∧ S ≤ 9223372036854775807 ∧ (S = took + rho ∨ (S = 9223372036854775807 ∧ took + rho = 9223372036854775808)) := by
        unfold sat clamp at hS
        split at hS <;> (try split at hS) <;> omega
      obtain ⟨d, hd⟩ : ∃ d, came - left = d := ⟨_, rfl⟩
      have w2 : IntKind.i64.wrap (came - left) = d := by rw [wr_i64 _ (by omega) (by omega)]; exact hd
      have eU := Ruler_Up (x := d) hG2 (hr.app _)
      have rU := upV_in t f d
      unfold ofHi ofLo
      rw [hd]
      obtain ⟨U, hU⟩ : ∃ U, upV t f d = U := ⟨_, rfl⟩
      rw [hU] at eU rU ⊢
      have w3 : IntKind.i64.wrap (1 + U) = 1 + U := wr_i64 _ (by omega) (by omega)
      have ee := fun g => span_ends (t := came) (a := gave) (b := -rho) (c := S) (d := 1 + U) ⟨by omega, by omega⟩ ⟨by omega, by omega⟩ ⟨by omega, by omega⟩ ⟨by omega, by omega⟩ g
      have el : bro (gave + -rho) = bro (gave - rho) := by rw [Int.sub_eq_add_neg]
      have eh : bro (S + (1 + U)) = bro (took + rho + 1 + U) := by
        unfold bro clamp
        repeat' split
        all_goals omega
      rw [el, eh] at ee
      obtain ⟨L, hL⟩ : ∃ L, bro (gave - rho) = L := ⟨_, rfl⟩
      obtain ⟨E, hE⟩ : ∃ E, bro (took + rho + 1 + U) = E := ⟨_, rfl⟩
      rw [hL, hE] at ee ⊢
      by_cases c2 : L ≤ E
      · have c2' : ¬ E < L := by omega
        rw [if_pos c2]
        simp (maxDischargeDepth := 9) -implicitDefEqProofs only [push_cast, reduceIte, Nat.reduceEqDiff, Nat.reduceAdd, Nat.reduceSub, Nat.reduceMul, Nat.reduceDiv, Nat.reduceMod, Nat.reduceLT, Nat.reduceLeDiff, Nat.reduceBEq, Nat.reduceBNe, reduceCtorEq, Int.reduceEq, Int.reduceNe, Int.reduceLT, Int.reduceLE, Int.reduceToNat, Int.reduceNeg, Int.reduceAdd, Int.reduceSub, Int.reduceMul, Int.reducePow, Nat.reducePow, Int.reduceBEq, M18, en, et, c1', w1, ea, w2, eU, w3, ee, c2']
        exact quiet_i
      · have c2' : E < L := by omega
        rw [if_neg c2]
        simp (maxDischargeDepth := 9) -implicitDefEqProofs only [push_cast, reduceIte, Nat.reduceEqDiff, Nat.reduceAdd, Nat.reduceSub, Nat.reduceMul, Nat.reduceDiv, Nat.reduceMod, Nat.reduceLT, Nat.reduceLeDiff, Nat.reduceBEq, Nat.reduceBNe, reduceCtorEq, Int.reduceEq, Int.reduceNe, Int.reduceLT, Int.reduceLE, Int.reduceToNat, Int.reduceNeg, Int.reduceAdd, Int.reduceSub, Int.reduceMul, Int.reducePow, Nat.reducePow, Int.reduceBEq, M18, en, et, c1', w1, ea, w2, eU, w3, ee, c2']
        exact quiet_i
    · have c1' : came < left := by omega
      rw [if_neg c1]
      simp (maxDischargeDepth := 9) -implicitDefEqProofs only [push_cast, reduceIte, Nat.reduceEqDiff, Nat.reduceAdd, Nat.reduceSub, Nat.reduceMul, Nat.reduceDiv, Nat.reduceMod, Nat.reduceLT, Nat.reduceLeDiff, Nat.reduceBEq, Nat.reduceBNe, reduceCtorEq, Int.reduceEq, Int.reduceNe, Int.reduceLT, Int.reduceLE, Int.reduceToNat, Int.reduceNeg, Int.reduceAdd, Int.reduceSub, Int.reduceMul, Int.reducePow, Nat.reducePow, Int.reduceBEq, M18, en, et, c1']
      exact quiet_i
end Go.Proofs.YtcpiohklljppaaaW.AI.D
