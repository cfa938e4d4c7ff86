import Derived.Test.YtcpiohklljppaaaAIDquo
namespace Go.Proofs.YtcpiohklljppaaaW.AI.D
open Go Go.Proofs.YtcpiohklljppaaaW.AI
set_option maxRecDepth 100000
set_option linter.unusedSimpArgs false
set_option linter.unusedVariables false
set_option linter.unusedSectionVars false

theorem clamp_in {a lo hi : Int} (h : lo ≤ hi) : lo ≤ clamp a lo hi ∧ clamp a lo hi ≤ hi := by unfold clamp; split <;> (try split) <;> omega
abbrev bro (t : Int) : Int := clamp t 0 4611686018427387904
theorem bro_in (t : Int) : 0 ≤ bro t ∧ bro t ≤ 4611686018427387904 := clamp_in (by omega)
theorem span_brought {t : Int} (h : AHeap) : W CP 49 [.int .i64 t] h = some (.int .i64 (bro t), h, []) := by
  have e := fun g => fix_Clamp (a := t) (lo := 0) (hi := 4611686018427387904) g
  refine W_val (m := M49) (fun _ => rfl) rfl rfl rfl ?_ h
  simp (maxDischargeDepth := 9) -implicitDefEqProofs only [push_cast, reduceIte, Nat.reduceEqDiff, Nat.reduceAdd, Nat.reduceSub, Nat.reduceMul, Nat.reduceDiv, Nat.reduceMod, Nat.reduceLT, Nat.reduceLeDiff, Nat.reduceBEq, Nat.reduceBNe, reduceCtorEq, Int.reduceEq, Int.reduceNe, Int.reduceLT, Int.reduceLE, Int.reduceToNat, Int.reduceNeg, Int.reduceAdd, Int.reduceSub, Int.reduceMul, Int.reducePow, Nat.reducePow, Int.reduceBEq, M49, e]
abbrev sat (a : Int) : Int := clamp a (-9223372036854775808) 9223372036854775807
theorem fix_AddSat {a b : Int} (ha : I64 a) (hb : I64 b) (h : AHeap) : W CP 47 [.int .i64 a, .int .i64 b] h = some (.int .i64 (sat (a + b)), h, []) := by
  obtain ⟨a1, a2⟩ := ha
  obtain ⟨b1, b2⟩ := hb
  have add : ∀ g, W CP 69 [.int .i64 a, .int .i64 b] g = some (if I64 (a + b) then .tup [.int .i64 (a + b), .int .i64 0] else .tup [.int .i64 0, .int .i64 20], g, []) := by
    intro g
    refine W_val (m := M69) (fun _ => rfl) rfl rfl (by split <;> rfl) ?_ g
    by_cases hi : I64 (a + b)
    · rw [if_pos hi]
      obtain ⟨i1, i2⟩ := hi
      have w : IntKind.i64.wrap (a + b) = a + b := wr_i64 _ i1 i2
      by_cases b0 : b = 0
      · subst b0
        rw [Int.add_zero] at w ⊢
        simp (maxDischargeDepth := 9) -implicitDefEqProofs only [push_cast, reduceIte, Nat.reduceEqDiff, Nat.reduceAdd, Nat.reduceSub, Nat.reduceMul, Nat.reduceDiv, Nat.reduceMod, Nat.reduceLT, Nat.reduceLeDiff, Nat.reduceBEq, Nat.reduceBNe, reduceCtorEq, Int.reduceEq, Int.reduceNe, Int.reduceLT, Int.reduceLE, Int.reduceToNat, Int.reduceNeg, Int.reduceAdd, Int.reduceSub, Int.reduceMul, Int.reducePow, Nat.reducePow, Int.reduceBEq, M69, w]
      · have bd : decide (a < a + b) = decide (0 < b) := by rw [decide_eq_decide]; omega
        simp (maxDischargeDepth := 9) -implicitDefEqProofs only [push_cast, reduceIte, Nat.reduceEqDiff, Nat.reduceAdd, Nat.reduceSub, Nat.reduceMul, Nat.reduceDiv, Nat.reduceMod, Nat.reduceLT, Nat.reduceLeDiff, Nat.reduceBEq, Nat.reduceBNe, reduceCtorEq, Int.reduceEq, Int.reduceNe, Int.reduceLT, Int.reduceLE, Int.reduceToNat, Int.reduceNeg, Int.reduceAdd, Int.reduceSub, Int.reduceMul, Int.reducePow, Nat.reducePow, Int.reduceBEq, M69, w, b0, bd]
    · rw [if_neg hi]
      unfold I64 at hi
      have b0 : ¬ b = 0 := by omega
      obtain ⟨v, hv⟩ : ∃ v, IntKind.i64.wrap (a + b) = v := ⟨_, rfl⟩
      have w := hv
      rw [IntKind.wrap_i64] at w
      by_cases hb : 0 < b
      · have n1 : ¬ a < v := by omega
        simp (maxDischargeDepth := 9) -implicitDefEqProofs only [push_cast, reduceIte, Nat.reduceEqDiff, Nat.reduceAdd, Nat.reduceSub, Nat.reduceMul, Nat.reduceDiv, Nat.reduceMod, Nat.reduceLT, Nat.reduceLeDiff, Nat.reduceBEq, Nat.reduceBNe, reduceCtorEq, Int.reduceEq, Int.reduceNe, Int.reduceLT, Int.reduceLE, Int.reduceToNat, Int.reduceNeg, Int.reduceAdd, Int.reduceSub, Int.reduceMul, Int.reducePow, Nat.reducePow, Int.reduceBEq, M69, hv, b0, hb, n1]
      · have n1 : a < v := by omega
        simp (maxDischargeDepth := 9) -implicitDefEqProofs only [push_cast, reduceIte, Nat.reduceEqDiff, Nat.reduceAdd, Nat.reduceSub, Nat.reduceMul, Nat.reduceDiv, Nat.reduceMod, Nat.reduceLT, Nat.reduceLeDiff, Nat.reduceBEq, Nat.reduceBNe, reduceCtorEq, Int.reduceEq, Int.reduceNe, Int.reduceLT, Int.reduceLE, Int.reduceToNat, Int.reduceNeg, Int.reduceAdd, Int.reduceSub, Int.reduceMul, Int.reducePow, Nat.reducePow, Int.reduceBEq, M69, hv, b0, hb, n1]
  have near : ∀ (n e : Int) (x : Bool) (g : AHeap), W CP 70 [.int .i64 n, .int .i64 e, .bool x] g = some (.int .i64 (if e = 0 then n else if x then -9223372036854775808 else 9223372036854775807), g, []) := by
    intro n e x g
    refine W_val (m := M70) (fun _ => rfl) rfl rfl (by split <;> rfl) ?_ g
    by_cases e0 : e = 0
    · simp (maxDischargeDepth := 9) -implicitDefEqProofs only [push_cast, reduceIte, Nat.reduceEqDiff, Nat.reduceAdd, Nat.reduceSub, Nat.reduceMul, Nat.reduceDiv, Nat.reduceMod, Nat.reduceLT, Nat.reduceLeDiff, Nat.reduceBEq, Nat.reduceBNe, reduceCtorEq, Int.reduceEq, Int.reduceNe, Int.reduceLT, Int.reduceLE, Int.reduceToNat, Int.reduceNeg, Int.reduceAdd, Int.reduceSub, Int.reduceMul, Int.reducePow, Nat.reducePow, Int.reduceBEq, M70, e0]
    · cases x
      · simp (maxDischargeDepth := 9) -implicitDefEqProofs only [push_cast, reduceIte, Nat.reduceEqDiff, Nat.reduceAdd, Nat.reduceSub, Nat.reduceMul, Nat.reduceDiv, Nat.reduceMod, Nat.reduceLT, Nat.reduceLeDiff, Nat.reduceBEq, Nat.reduceBNe, reduceCtorEq, Int.reduceEq, Int.reduceNe, Int.reduceLT, Int.reduceLE, Int.reduceToNat, Int.reduceNeg, Int.reduceAdd, Int.reduceSub, Int.reduceMul, Int.reducePow, Nat.reducePow, Int.reduceBEq, M70, e0]
      · simp (maxDischargeDepth := 9) -implicitDefEqProofs only [push_cast, reduceIte, Nat.reduceEqDiff, Nat.reduceAdd, Nat.reduceSub, Nat.reduceMul, Nat.reduceDiv, Nat.reduceMod, Nat.reduceLT, Nat.reduceLeDiff, Nat.reduceBEq, Nat.reduceBNe, reduceCtorEq, Int.reduceEq, Int.reduceNe, Int.reduceLT, Int.reduceLE, Int.reduceToNat, Int.reduceNeg, Int.reduceAdd, Int.reduceSub, Int.reduceMul, Int.reducePow, Nat.reducePow, Int.reduceBEq, M70, e0]
  refine W_val (m := M47) (fun _ => rfl) rfl rfl rfl ?_ h
  unfold sat clamp
  by_cases hi : I64 (a + b)
  · have h1 : ¬ a + b < -9223372036854775808 := by have := hi.1; omega
    have h2 : ¬ 9223372036854775807 < a + b := by have := hi.2; omega
    rw [if_neg h1, if_neg h2]
    simp only [if_pos hi] at add
    simp (maxDischargeDepth := 9) -implicitDefEqProofs only [push_cast, reduceIte, Nat.reduceEqDiff, Nat.reduceAdd, Nat.reduceSub, Nat.reduceMul, Nat.reduceDiv, Nat.reduceMod, Nat.reduceLT, Nat.reduceLeDiff, Nat.reduceBEq, Nat.reduceBNe, reduceCtorEq, Int.reduceEq, Int.reduceNe, Int.reduceLT, Int.reduceLE, Int.reduceToNat, Int.reduceNeg, Int.reduceAdd, Int.reduceSub, Int.reduceMul, Int.reducePow, Nat.reducePow, Int.reduceBEq, M47, add, near]
  · simp only [if_neg hi] at add
    unfold I64 at hi
    by_cases a0 : a < 0
    · rw [if_pos (by omega)]
      simp (maxDischargeDepth := 9) -implicitDefEqProofs only [push_cast, reduceIte, Nat.reduceEqDiff, Nat.reduceAdd, Nat.reduceSub, Nat.reduceMul, Nat.reduceDiv, Nat.reduceMod, Nat.reduceLT, Nat.reduceLeDiff, Nat.reduceBEq, Nat.reduceBNe, reduceCtorEq, Int.reduceEq, Int.reduceNe, Int.reduceLT, Int.reduceLE, Int.reduceToNat, Int.reduceNeg, Int.reduceAdd, Int.reduceSub, Int.reduceMul, Int.reducePow, Nat.reducePow, Int.reduceBEq, M47, add, near, a0]
    · rw [if_neg (by omega), if_pos (by omega)]
      simp (maxDischargeDepth := 9) -implicitDefEqProofs only [push_cast, reduceIte, Nat.reduceEqDiff, Nat.reduceAdd, Nat.reduceSub, Nat.reduceMul, Nat.reduceDiv, Nat.reduceMod, Nat.reduceLT, Nat.reduceLeDiff, Nat.reduceBEq, Nat.reduceBNe, reduceCtorEq, Int.reduceEq, Int.reduceNe, Int.reduceLT, Int.reduceLE, Int.reduceToNat, Int.reduceNeg, Int.reduceAdd, Int.reduceSub, Int.reduceMul, Int.reducePow, Nat.reducePow, Int.reduceBEq, M47, add, near, a0]
theorem fix_Abs {a : Int} (ha : I64 a) (h : AHeap) : W CP 62 [.int .i64 a] h = some (.int .i64 (if a = -9223372036854775808 then 9223372036854775807 else a.natAbs), h, []) := by
  obtain ⟨a1, a2⟩ := ha
  refine W_val (m := M62) (fun _ => rfl) rfl rfl rfl ?_ h
  by_cases c1 : a = -9223372036854775808
  · subst c1
    simp (maxDischargeDepth := 9) -implicitDefEqProofs only [push_cast, reduceIte, Nat.reduceEqDiff, Nat.reduceAdd, Nat.reduceSub, Nat.reduceMul, Nat.reduceDiv, Nat.reduceMod, Nat.reduceLT, Nat.reduceLeDiff, Nat.reduceBEq, Nat.reduceBNe, reduceCtorEq, Int.reduceEq, Int.reduceNe, Int.reduceLT, Int.reduceLE, Int.reduceToNat, Int.reduceNeg, Int.reduceAdd, Int.reduceSub, Int.reduceMul, Int.reducePow, Nat.reducePow, Int.reduceBEq, M62]
  · rw [if_neg c1]
    by_cases c2 : a < 0
    · have w : IntKind.i64.wrap (0 - a) = (a.natAbs : Int) := by rw [wr_i64 _ (by omega) (by omega)]; omega
      simp (maxDischargeDepth := 9) -implicitDefEqProofs only [push_cast, reduceIte, Nat.reduceEqDiff, Nat.reduceAdd, Nat.reduceSub, Nat.reduceMul, Nat.reduceDiv, Nat.reduceMod, Nat.reduceLT, Nat.reduceLeDiff, Nat.reduceBEq, Nat.reduceBNe, reduceCtorEq, Int.reduceEq, Int.reduceNe, Int.reduceLT, Int.reduceLE, Int.reduceToNat, Int.reduceNeg, Int.reduceAdd, Int.reduceSub, Int.reduceMul, Int.reducePow, Nat.reducePow, Int.reduceBEq, M62, c1, c2, w]
    · have w : (a.natAbs : Int) = a := by omega
      simp (maxDischargeDepth := 9) -implicitDefEqProofs only [push_cast, reduceIte, Nat.reduceEqDiff, Nat.reduceAdd, Nat.reduceSub, Nat.reduceMul, Nat.reduceDiv, Nat.reduceMod, Nat.reduceLT, Nat.reduceLeDiff, Nat.reduceBEq, Nat.reduceBNe, reduceCtorEq, Int.reduceEq, Int.reduceNe, Int.reduceLT, Int.reduceLE, Int.reduceToNat, Int.reduceNeg, Int.reduceAdd, Int.reduceSub, Int.reduceMul, Int.reducePow, Nat.reducePow, Int.reduceBEq, M62, c1, c2, w]
/-- A ruler in memory. -/
def Rul (h : AHeap) (p : Nat) (t f : Int) : Prop := h[p]? = some ⟨.tip false, .vals [.int .i64 t, .int .i64 f, .bool true]⟩ ∧ p < h.length ∧ 1 ≤ t ∧ t ≤ 1000000000 ∧ 0 ≤ f ∧ f ≤ 500000
theorem Rul.app {h : AHeap} {p : Nat} {t f : Int} (r : Rul h p t f) (js : AHeap) : Rul (h ++ js) p t f := by
  obtain ⟨h1, h2, h3⟩ := r
  exact ⟨by rw [List.getElem?_append_left h2]; exact h1, by simp; omega, h3⟩
theorem Ruler_none {h : AHeap} {p : Nat} {t f : Int} (hg : Good h) (r : Rul h p t f) : W CP 44 [.ptr p 0] h = some (.bool false, h, []) := by
  obtain ⟨h1, h2, h3⟩ := r
  refine W_quiet0 (m := M44) rfl rfl (by simp [AV.lts, AV.lt]) rfl rfl hg ?_
  simp (maxDischargeDepth := 9) -implicitDefEqProofs only [push_cast, reduceIte, Nat.reduceEqDiff, Nat.reduceAdd, Nat.reduceSub, Nat.reduceMul, Nat.reduceDiv, Nat.reduceMod, Nat.reduceLT, Nat.reduceLeDiff, Nat.reduceBEq, Nat.reduceBNe, reduceCtorEq, Int.reduceEq, Int.reduceNe, Int.reduceLT, Int.reduceLE, Int.reduceToNat, Int.reduceNeg, Int.reduceAdd, Int.reduceSub, Int.reduceMul, Int.reducePow, Nat.reducePow, Int.reduceBEq, M44, h1]
/-- By how much true time goes on, at most. -/
def upV (t f x : Int) : Int := let v := mdv true (bro x + t + 1) 1000000000 (1000000000 - f); if I64 v then bro v else 4611686018427387904
def downV (t f x : Int) : Int := bro (mdv false (bro x - t - 1) 1000000000 (1000000000 + f))
theorem Ruler_Up {h : AHeap} {p : Nat} {t f x : Int} (hg : Good h) (r : Rul h p t f) : W CP 19 [.ptr p 0, .int .i64 x] h = some (.int .i64 (upV t f x), h, []) := by
  have en := Ruler_none hg r
  obtain ⟨h1, h2, h3, h4, h5, h6⟩ := r
  have h2' : ¬ h.length ≤ p := by omega
  have eb := fun y g => span_brought (t := y) g
  obtain ⟨b1, b2⟩ := bro_in x
  unfold upV
  obtain ⟨y, hy⟩ : ∃ y, bro x = y := ⟨_, rfl⟩
  have ebx := fun g => span_brought (t := x) g
  rw [hy] at ebx b1 b2 ⊢
  have w1 : IntKind.i64.wrap (y + t) = y + t := wr_i64 _ (by omega) (by omega)
  have w2 : IntKind.i64.wrap (y + t + 1) = y + t + 1 := wr_i64 _ (by omega) (by omega)
  have w3 : IntKind.i64.wrap (1000000000 - f) = 1000000000 - f := wr_i64 _ (by omega) (by omega)
  have em := fun g => fix_MulDivUp (a := y + t + 1) (b := 1000000000) (c := 1000000000 - f) ⟨by omega, by omega⟩ ⟨by omega, by omega⟩ ⟨by omega, by omega⟩ g
  obtain ⟨v, hv⟩ : ∃ v, mdv true (y + t + 1) 1000000000 (1000000000 - f) = v := ⟨_, rfl⟩
  rw [hv] at em ⊢
  simp only
  unfold qres at em
  refine W_quiet0 (m := M19) rfl rfl (by simp [AV.lts, AV.lt]) rfl rfl hg ?_
  by_cases hi : I64 v
  · rw [if_pos hi]
    simp only [if_pos hi] at em
    have ev := fun g => span_brought (t := v) g
    simp (maxDischargeDepth := 9) -implicitDefEqProofs only [push_cast, reduceIte, Nat.reduceEqDiff, Nat.reduceAdd, Nat.reduceSub, Nat.reduceMul, Nat.reduceDiv, Nat.reduceMod, Nat.reduceLT, Nat.reduceLeDiff, Nat.reduceBEq, Nat.reduceBNe, reduceCtorEq, Int.reduceEq, Int.reduceNe, Int.reduceLT, Int.reduceLE, Int.reduceToNat, Int.reduceNeg, Int.reduceAdd, Int.reduceSub, Int.reduceMul, Int.reducePow, Nat.reducePow, Int.reduceBEq, M19, en, h1, h2, h2', ebx, w1, w2, w3, em, ev]
  · rw [if_neg hi]
    simp only [if_neg hi] at em
    simp (maxDischargeDepth := 9) -implicitDefEqProofs only [push_cast, reduceIte, Nat.reduceEqDiff, Nat.reduceAdd, Nat.reduceSub, Nat.reduceMul, Nat.reduceDiv, Nat.reduceMod, Nat.reduceLT, Nat.reduceLeDiff, Nat.reduceBEq, Nat.reduceBNe, reduceCtorEq, Int.reduceEq, Int.reduceNe, Int.reduceLT, Int.reduceLE, Int.reduceToNat, Int.reduceNeg, Int.reduceAdd, Int.reduceSub, Int.reduceMul, Int.reducePow, Nat.reducePow, Int.reduceBEq, M19, en, h1, h2, h2', ebx, w1, w2, w3, em]
theorem Ruler_Down {h : AHeap} {p : Nat} {t f x : Int} (hg : Good h) (r : Rul h p t f) : W CP 20 [.ptr p 0, .int .i64 x] h = some (.int .i64 (downV t f x), h, []) := by
  have en := Ruler_none hg r
  obtain ⟨h1, h2, h3, h4, h5, h6⟩ := r
  have h2' : ¬ h.length ≤ p := by omega
  obtain ⟨b1, b2⟩ := bro_in x
  unfold downV
  obtain ⟨y, hy⟩ : ∃ y, bro x = y := ⟨_, rfl⟩
  have ebx := fun g => span_brought (t := x) g
  rw [hy] at ebx b1 b2 ⊢
  have w1 : IntKind.i64.wrap (y - t) = y - t := wr_i64 _ (by omega) (by omega)
  have w2 : IntKind.i64.wrap (y - t - 1) = y - t - 1 := wr_i64 _ (by omega) (by omega)
  have w3 : IntKind.i64.wrap (1000000000 + f) = 1000000000 + f := wr_i64 _ (by omega) (by omega)
  have em := fun g => fix_MulDiv (a := y - t - 1) (b := 1000000000) (c := 1000000000 + f) ⟨by omega, by omega⟩ ⟨by omega, by omega⟩ ⟨by omega, by omega⟩ g
  obtain ⟨v, hv⟩ : ∃ v, mdv false (y - t - 1) 1000000000 (1000000000 + f) = v := ⟨_, rfl⟩
  have hi : I64 v := by
    rw [← hv]
    unfold mdv
    simp only [Bool.false_eq_true, if_false]
    constructor
    · exact Int.le_ediv_of_mul_le (by omega) (by omega)
    · have := Int.ediv_lt_of_lt_mul (a := (y - t - 1) * 1000000000) (b := 9223372036854775808) (c := 1000000000 + f) (by omega) (by omega)
      omega
  rw [hv] at em ⊢
  unfold qres at em
  simp only [if_pos hi] at em
  have ev := fun g => span_brought (t := v) g
  refine W_quiet0 (m := M20) rfl rfl (by simp [AV.lts, AV.lt]) rfl rfl hg ?_
  simp (maxDischargeDepth := 9) -implicitDefEqProofs only [push_cast, reduceIte, Nat.reduceEqDiff, Nat.reduceAdd, Nat.reduceSub, Nat.reduceMul, Nat.reduceDiv, Nat.reduceMod, Nat.reduceLT, Nat.reduceLeDiff, Nat.reduceBEq, Nat.reduceBNe, reduceCtorEq, Int.reduceEq, Int.reduceNe, Int.reduceLT, Int.reduceLE, Int.reduceToNat, Int.reduceNeg, Int.reduceAdd, Int.reduceSub, Int.reduceMul, Int.reducePow, Nat.reducePow, Int.reduceBEq, M20, en, h1, h2, h2', ebx, w1, w2, w3, em, ev]
theorem span_New {t f : Int} (h1 : 1 ≤ t) (h2 : t ≤ 1000000000) (h3 : 0 ≤ f) (h4 : f ≤ 500000) (h : AHeap) :
    W CP 15 [.int .i64 t, .int .i64 f] h = some (.tup [.ptr h.length 0, .int .i64 0], h ++ [⟨.tip false, .vals [.int .i64 t, .int .i64 f, .bool true]⟩], []) := by
  have c1 : ¬ t < 1 := by omega
  have c2 : ¬ 1000000000 < t := by omega
  have c3 : ¬ f < 0 := by omega
  have c4 : ¬ 500000 < f := by omega
  have hb : ∀ h : AHeap, xbody (W CP) M15 [.int .i64 t, .int .i64 f] h = some (.tup [.ptr h.length 0, .int .i64 0], h ++ [⟨.tip false, .vals [.int .i64 t, .int .i64 f, .bool true]⟩], []) := by
    intro h
    simp (maxDischargeDepth := 9) -implicitDefEqProofs only [push_cast, reduceIte, Nat.reduceEqDiff, Nat.reduceAdd, Nat.reduceSub, Nat.reduceMul, Nat.reduceDiv, Nat.reduceMod, Nat.reduceLT, Nat.reduceLeDiff, Nat.reduceBEq, Nat.reduceBNe, reduceCtorEq, Int.reduceEq, Int.reduceNe, Int.reduceLT, Int.reduceLE, Int.reduceToNat, Int.reduceNeg, Int.reduceAdd, Int.reduceSub, Int.reduceMul, Int.reducePow, Nat.reducePow, Int.reduceBEq, M15, c1, c2, c3, c4]
    try rfl
  rw [W_made (m := M15) rfl rfl rfl (hb _) rfl (hb h)]
  have : M15.trim = true := rfl
  rw [this, if_pos rfl, trim_addr (by simp [AV.lt, AV.lts])]
theorem span_New_bad {t f : Int} (hb : t < 1 ∨ 1000000000 < t ∨ f < 0 ∨ 500000 < f) (h : AHeap) : W CP 15 [.int .i64 t, .int .i64 f] h = some (.tup [.nilp, .int .i64 1], h, []) := by
  refine W_val (m := M15) (fun _ => rfl) rfl rfl rfl ?_ h
  by_cases c1 : t < 1
  · simp (maxDischargeDepth := 9) -implicitDefEqProofs only [push_cast, reduceIte, Nat.reduceEqDiff, Nat.reduceAdd, Nat.reduceSub, Nat.reduceMul, Nat.reduceDiv, Nat.reduceMod, Nat.reduceLT, Nat.reduceLeDiff, Nat.reduceBEq, Nat.reduceBNe, reduceCtorEq, Int.reduceEq, Int.reduceNe, Int.reduceLT, Int.reduceLE, Int.reduceToNat, Int.reduceNeg, Int.reduceAdd, Int.reduceSub, Int.reduceMul, Int.reducePow, Nat.reducePow, Int.reduceBEq, M15, c1]
  · by_cases c2 : 1000000000 < t
    · simp (maxDischargeDepth := 9) -implicitDefEqProofs only [push_cast, reduceIte, Nat.reduceEqDiff, Nat.reduceAdd, Nat.reduceSub, Nat.reduceMul, Nat.reduceDiv, Nat.reduceMod, Nat.reduceLT, Nat.reduceLeDiff, Nat.reduceBEq, Nat.reduceBNe, reduceCtorEq, Int.reduceEq, Int.reduceNe, Int.reduceLT, Int.reduceLE, Int.reduceToNat, Int.reduceNeg, Int.reduceAdd, Int.reduceSub, Int.reduceMul, Int.reducePow, Nat.reducePow, Int.reduceBEq, M15, c1, c2]
    · by_cases c3 : f < 0
      · simp (maxDischargeDepth := 9) -implicitDefEqProofs only [push_cast, reduceIte, Nat.reduceEqDiff, Nat.reduceAdd, Nat.reduceSub, Nat.reduceMul, Nat.reduceDiv, Nat.reduceMod, Nat.reduceLT, Nat.reduceLeDiff, Nat.reduceBEq, Nat.reduceBNe, reduceCtorEq, Int.reduceEq, Int.reduceNe, Int.reduceLT, Int.reduceLE, Int.reduceToNat, Int.reduceNeg, Int.reduceAdd, Int.reduceSub, Int.reduceMul, Int.reducePow, Nat.reducePow, Int.reduceBEq, M15, c1, c2, c3]
      · have c4 : 500000 < f := by omega
        simp (maxDischargeDepth := 9) -implicitDefEqProofs only [push_cast, reduceIte, Nat.reduceEqDiff, Nat.reduceAdd, Nat.reduceSub, Nat.reduceMul, Nat.reduceDiv, Nat.reduceMod, Nat.reduceLT, Nat.reduceLeDiff, Nat.reduceBEq, Nat.reduceBNe, reduceCtorEq, Int.reduceEq, Int.reduceNe, Int.reduceLT, Int.reduceLE, Int.reduceToNat, Int.reduceNeg, Int.reduceAdd, Int.reduceSub, Int.reduceMul, Int.reducePow, Nat.reducePow, Int.reduceBEq, M15, c1, c2, c3, c4]
end Go.Proofs.YtcpiohklljppaaaW.AI.D
