import Derived.Test.YtcpiohklljppaaaAIDfixA
namespace Go.Proofs.YtcpiohklljppaaaW.AI.D
open Go Go.Proofs.YtcpiohklljppaaaW.AI
set_option maxRecDepth 100000
set_option linter.unusedSimpArgs false
set_option linter.unusedVariables false
set_option linter.unusedSectionVars false

def qres (v : Int) : AV := if I64 v then .tup [.int .i64 v, .int .i64 0] else .tup [.int .i64 0, .int .i64 20]
theorem qres_lt (v : Int) : AV.lt 0 (qres v) = true := by unfold qres; split <;> rfl
set_option maxHeartbeats 4000000 in
theorem fix_quotient {a b c : Int} {F : Nat} {up : Bool} (ha : I64 a) (hb : I64 b) (hc : 0 < c ∧ c ≤ 9223372036854775807) (hF : ∀ x g, W CP F [.bool x] g = some (.bool (if up then !x else x), g, [])) (h : AHeap) :
    W CP 71 [.int .i64 a, .int .i64 b, .int .i64 c, .fn F []] h = some (qres (mdv up a b c), h, []) := by
  refine W_val (m := M71) (fun _ => rfl) rfl rfl (qres_lt _) ?_ h
  obtain ⟨m, hm, m0, hv⟩ := mdv_abs (a := a) (b := b) hc.1 up
  have ea := fun g => fix_size ha g
  have eb := fun g => fix_size hb g
  obtain ⟨a1, a2⟩ := ha
  obtain ⟨b1, b2⟩ := hb
  have em := fun g => bits_Mul64 (x := (a.natAbs : Int)) (y := (b.natAbs : Int)) ⟨by omega, by omega⟩ ⟨by omega, by omega⟩ g
  have mb := mul_bound (a := (a.natAbs : Int)) (b := (b.natAbs : Int)) (m := 9223372036854775808) (n := 9223372036854775808) (by omega) (by omega) (by omega) (by omega)
  rw [hm] at em mb
  obtain ⟨H, hH⟩ : ∃ x, m / 18446744073709551616 = x := ⟨_, rfl⟩
  obtain ⟨L, hL⟩ : ∃ x, m % 18446744073709551616 = x := ⟨_, rfl⟩
  rw [hH, hL] at em
  have c0 : ¬ c ≤ 0 := by omega
  have wc : IntKind.u64.wrap c = c := wr_u64 _ (by omega) (by omega)
  obtain ⟨v, hv'⟩ : ∃ v, mdv up a b c = v := ⟨_, rfl⟩
  rw [hv'] at hv ⊢
  have hmc : m = c * (m / c) + m % c := (Int.mul_ediv_add_emod m c).symm
  have mc0 := Int.emod_nonneg m (show c ≠ 0 by omega)
  have mc1 := Int.emod_lt_of_pos m hc.1
  obtain ⟨q, hq⟩ : ∃ x, m / c = x := ⟨_, rfl⟩
  obtain ⟨r, hr⟩ : ∃ x, m % c = x := ⟨_, rfl⟩
  rw [hq, hr] at hmc hv
  rw [hr] at mc0 mc1
  have q0 : 0 ≤ q := by rw [← hq]; exact Int.ediv_nonneg m0 (by omega)
  by_cases hbig : c ≤ H
  · have hq2 : 18446744073709551616 ≤ q := by
      rw [← hq]
      refine Int.le_ediv_of_mul_le hc.1 ?_
      omega
    have hnv : ¬ I64 v := by
      unfold I64
      rw [hv]
      split
      · split <;> omega
      · split <;> omega
    unfold qres
    rw [if_neg hnv]
    simp (maxDischargeDepth := 9) -implicitDefEqProofs only [push_cast, reduceIte, Nat.reduceEqDiff, Nat.reduceAdd, Nat.reduceSub, Nat.reduceMul, Nat.reduceDiv, Nat.reduceMod, Nat.reduceLT, Nat.reduceLeDiff, Nat.reduceBEq, Nat.reduceBNe, reduceCtorEq, Int.reduceEq, Int.reduceNe, Int.reduceLT, Int.reduceLE, Int.reduceToNat, Int.reduceNeg, Int.reduceAdd, Int.reduceSub, Int.reduceMul, Int.reducePow, Nat.reducePow, Int.reduceBEq, M71, ea, eb, em, c0, wc, hbig]
  · have ed := fun g => bits_Div64 (hi := H) (lo := L) (y := c) ⟨by omega, by omega⟩ ⟨by omega, by omega⟩ ⟨by omega, by omega⟩ (by omega) g
    have eN : H * 18446744073709551616 + L = m := by omega
    rw [eN, hq, hr] at ed
    have q1 : q < 18446744073709551616 := by
      rw [← hq]
      refine Int.ediv_lt_of_lt_mul hc.1 ?_
      omega
    -- the last sign
    have fin : ∀ (w : Int) (mi : Bool), U64 w → v = (if mi then -w else w) → (if I64 v then AV.tup [AV.int .i64 v, AV.int .i64 0] else AV.tup [AV.int .i64 0, AV.int .i64 20]) = (if (decide (if mi then w ≤ 9223372036854775808 else w < 9223372036854775808)) = true then AV.tup [AV.int .i64 (IntKind.i64.wrap (if mi then -w else w)), AV.int .i64 0] else AV.tup [AV.int .i64 0, AV.int .i64 20]) := by
      intro w mi hw e
      obtain ⟨w0, w1⟩ := hw
      rw [← e]
      by_cases hi : I64 v
      · rw [if_pos hi, if_pos ?_, wr_i64 _ hi.1 hi.2]
        obtain ⟨h1, h2⟩ := hi
        rw [decide_eq_true_eq]
        cases mi
        · simp only [Bool.false_eq_true, if_false] at e ⊢; omega
        · simp only [if_true] at e ⊢; omega
      · rw [if_neg hi, if_neg ?_]
        unfold I64 at hi
        rw [decide_eq_true_eq]
        cases mi
        · simp only [Bool.false_eq_true, if_false] at e ⊢; omega
        · simp only [if_true] at e ⊢; omega
    unfold qres
    have sg : ∀ (w : Int) (mi : Bool), U64 w → ∀ g, W CP 87 [.int .u64 w, .bool mi] g = some (.tup [.int .i64 (IntKind.i64.wrap (if mi then -w else w)), .bool (decide (if mi then w ≤ 9223372036854775808 else w < 9223372036854775808))], g, []) := fun w mi hw g => fix_signed hw g
    have tail : ∀ (w : Int) (mi : Bool), U64 w → v = (if mi then -w else w) → ∃ x y, (∀ g, W CP 87 [.int .u64 w, .bool mi] g = some (.tup [.int .i64 x, .bool y], g, [])) ∧ (if I64 v then AV.tup [AV.int .i64 v, AV.int .i64 0] else AV.tup [AV.int .i64 0, AV.int .i64 20]) = (if y = true then AV.tup [AV.int .i64 x, AV.int .i64 0] else AV.tup [AV.int .i64 0, AV.int .i64 20]) := fun w mi hw e => ⟨_, _, sg w mi hw, fin w mi hw e⟩
    obtain ⟨mi, hmi⟩ : ∃ mi : Bool, (!(decide (a < 0) == decide (b < 0))) = mi := ⟨_, rfl⟩
    have hmi' : ((a < 0) ≠ (b < 0)) ↔ mi = true := by
      rw [← hmi]
      by_cases h1 : a < 0 <;> by_cases h2 : b < 0 <;> simp [h1, h2]
    obtain ⟨aw, haw⟩ : ∃ aw : Bool, (if up then !mi else mi) = aw := ⟨_, rfl⟩
    have hv2 : v = if mi = true then -(q + if 0 < r ∧ aw = true then 1 else 0) else q + if 0 < r ∧ aw = true then 1 else 0 := by
      rw [hv]
      cases hm2 : mi
      · rw [if_neg (fun e => by have := hmi'.1 e; rw [hm2] at this; cases this)]
        rw [hm2] at haw
        cases up <;> simp at haw <;> subst haw <;> simp
      · rw [if_pos (hmi'.2 hm2)]
        rw [hm2] at haw
        cases up <;> simp at haw <;> subst haw <;> simp
    obtain ⟨z, hz⟩ : ∃ z : Int, (if 0 < r ∧ aw = true then (1 : Int) else 0) = z := ⟨_, rfl⟩
    rw [hz] at hv2
    have eF := fun g => hF mi g
    rw [haw] at eF
    by_cases hr0 : 0 < r
    · cases aw with
      | true =>
        rw [if_pos ⟨hr0, rfl⟩] at hz
        subst hz
        by_cases ho : q + 1 = 18446744073709551616
        · have w1 : IntKind.u64.wrap (q + 1) = 0 := by rw [IntKind.wrap_u64, ho]; rfl
          have hnv : ¬ I64 v := by unfold I64; rw [hv2]; split <;> omega
          rw [if_neg hnv]
          simp (maxDischargeDepth := 9) -implicitDefEqProofs only [push_cast, reduceIte, Nat.reduceEqDiff, Nat.reduceAdd, Nat.reduceSub, Nat.reduceMul, Nat.reduceDiv, Nat.reduceMod, Nat.reduceLT, Nat.reduceLeDiff, Nat.reduceBEq, Nat.reduceBNe, reduceCtorEq, Int.reduceEq, Int.reduceNe, Int.reduceLT, Int.reduceLE, Int.reduceToNat, Int.reduceNeg, Int.reduceAdd, Int.reduceSub, Int.reduceMul, Int.reducePow, Nat.reducePow, Int.reduceBEq, M71, ea, eb, em, c0, wc, hbig, ed, hmi, hr0, eF, w1]
        · have w1 : IntKind.u64.wrap (q + 1) = q + 1 := wr_u64 _ (by omega) (by omega)
          have w2 : ¬ q + 1 = 0 := by omega
          obtain ⟨x, y, e1, e2⟩ := tail (q + 1) mi ⟨by omega, by omega⟩ hv2
          rw [e2]
          cases y
          · simp (maxDischargeDepth := 9) -implicitDefEqProofs only [push_cast, reduceIte, Nat.reduceEqDiff, Nat.reduceAdd, Nat.reduceSub, Nat.reduceMul, Nat.reduceDiv, Nat.reduceMod, Nat.reduceLT, Nat.reduceLeDiff, Nat.reduceBEq, Nat.reduceBNe, reduceCtorEq, Int.reduceEq, Int.reduceNe, Int.reduceLT, Int.reduceLE, Int.reduceToNat, Int.reduceNeg, Int.reduceAdd, Int.reduceSub, Int.reduceMul, Int.reducePow, Nat.reducePow, Int.reduceBEq, M71, ea, eb, em, c0, wc, hbig, ed, hmi, hr0, eF, w1, w2, e1]
          · simp (maxDischargeDepth := 9) -implicitDefEqProofs only [push_cast, reduceIte, Nat.reduceEqDiff, Nat.reduceAdd, Nat.reduceSub, Nat.reduceMul, Nat.reduceDiv, Nat.reduceMod, Nat.reduceLT, Nat.reduceLeDiff, Nat.reduceBEq, Nat.reduceBNe, reduceCtorEq, Int.reduceEq, Int.reduceNe, Int.reduceLT, Int.reduceLE, Int.reduceToNat, Int.reduceNeg, Int.reduceAdd, Int.reduceSub, Int.reduceMul, Int.reducePow, Nat.reducePow, Int.reduceBEq, M71, ea, eb, em, c0, wc, hbig, ed, hmi, hr0, eF, w1, w2, e1]
      | false =>
        rw [if_neg (fun e => by cases e.2)] at hz
        subst hz
        rw [Int.add_zero] at hv2
        obtain ⟨x, y, e1, e2⟩ := tail q mi ⟨by omega, by omega⟩ hv2
        rw [e2]
        cases y
        · simp (maxDischargeDepth := 9) -implicitDefEqProofs only [push_cast, reduceIte, Nat.reduceEqDiff, Nat.reduceAdd, Nat.reduceSub, Nat.reduceMul, Nat.reduceDiv, Nat.reduceMod, Nat.reduceLT, Nat.reduceLeDiff, Nat.reduceBEq, Nat.reduceBNe, reduceCtorEq, Int.reduceEq, Int.reduceNe, Int.reduceLT, Int.reduceLE, Int.reduceToNat, Int.reduceNeg, Int.reduceAdd, Int.reduceSub, Int.reduceMul, Int.reducePow, Nat.reducePow, Int.reduceBEq, M71, ea, eb, em, c0, wc, hbig, ed, hmi, hr0, eF, e1]
        · simp (maxDischargeDepth := 9) -implicitDefEqProofs only [push_cast, reduceIte, Nat.reduceEqDiff, Nat.reduceAdd, Nat.reduceSub, Nat.reduceMul, Nat.reduceDiv, Nat.reduceMod, Nat.reduceLT, Nat.reduceLeDiff, Nat.reduceBEq, Nat.reduceBNe, reduceCtorEq, Int.reduceEq, Int.reduceNe, Int.reduceLT, Int.reduceLE, Int.reduceToNat, Int.reduceNeg, Int.reduceAdd, Int.reduceSub, Int.reduceMul, Int.reducePow, Nat.reducePow, Int.reduceBEq, M71, ea, eb, em, c0, wc, hbig, ed, hmi, hr0, eF, e1]
    · rw [if_neg (fun e => hr0 e.1)] at hz
      subst hz
      rw [Int.add_zero] at hv2
      obtain ⟨x, y, e1, e2⟩ := tail q mi ⟨by omega, by omega⟩ hv2
      rw [e2]
      cases y
      · simp (maxDischargeDepth := 9) -implicitDefEqProofs only [push_cast, reduceIte, Nat.reduceEqDiff, Nat.reduceAdd, Nat.reduceSub, Nat.reduceMul, Nat.reduceDiv, Nat.reduceMod, Nat.reduceLT, Nat.reduceLeDiff, Nat.reduceBEq, Nat.reduceBNe, reduceCtorEq, Int.reduceEq, Int.reduceNe, Int.reduceLT, Int.reduceLE, Int.reduceToNat, Int.reduceNeg, Int.reduceAdd, Int.reduceSub, Int.reduceMul, Int.reducePow, Nat.reducePow, Int.reduceBEq, M71, ea, eb, em, c0, wc, hbig, ed, hmi, hr0, e1]
      · simp (maxDischargeDepth := 9) -implicitDefEqProofs only [push_cast, reduceIte, Nat.reduceEqDiff, Nat.reduceAdd, Nat.reduceSub, Nat.reduceMul, Nat.reduceDiv, Nat.reduceMod, Nat.reduceLT, Nat.reduceLeDiff, Nat.reduceBEq, Nat.reduceBNe, reduceCtorEq, Int.reduceEq, Int.reduceNe, Int.reduceLT, Int.reduceLE, Int.reduceToNat, Int.reduceNeg, Int.reduceAdd, Int.reduceSub, Int.reduceMul, Int.reducePow, Nat.reducePow, Int.reduceBEq, M71, ea, eb, em, c0, wc, hbig, ed, hmi, hr0, e1]
theorem fix_quotient_arg {a b c : Int} {f : AV} (hf : AV.lt 0 f = true) (hna : noAny (some f) = some f) (hc : c ≤ 0) (h : AHeap) :
    W CP 71 [.int .i64 a, .int .i64 b, .int .i64 c, f] h = some (.tup [.int .i64 0, .int .i64 1], h, []) := by
  refine W_val (m := M71) (fun _ => rfl) rfl (by simp [AV.lts, AV.lt, hf]) rfl ?_ h
  simp (maxDischargeDepth := 9) -implicitDefEqProofs only [push_cast, reduceIte, Nat.reduceEqDiff, Nat.reduceAdd, Nat.reduceSub, Nat.reduceMul, Nat.reduceDiv, Nat.reduceMod, Nat.reduceLT, Nat.reduceLeDiff, Nat.reduceBEq, Nat.reduceBNe, reduceCtorEq, Int.reduceEq, Int.reduceNe, Int.reduceLT, Int.reduceLE, Int.reduceToNat, Int.reduceNeg, Int.reduceAdd, Int.reduceSub, Int.reduceMul, Int.reducePow, Nat.reducePow, Int.reduceBEq, M71, hna, hc]
theorem qres_cases (v : Int) : ∃ x e : Int, qres v = .tup [.int .i64 x, .int .i64 e] := by unfold qres; split <;> exact ⟨_, _, rfl⟩
theorem fix_MulDiv {a b c : Int} (ha : I64 a) (hb : I64 b) (hc : 0 < c ∧ c ≤ 9223372036854775807) (h : AHeap) : W CP 50 [.int .i64 a, .int .i64 b, .int .i64 c] h = some (qres (mdv false a b c), h, []) := by
  have eq := fun g => fix_quotient (F := 74) (up := false) ha hb hc (fun x g => by
    refine W_val (m := M74) (fun _ => rfl) rfl rfl rfl ?_ g
    simp (maxDischargeDepth := 9) -implicitDefEqProofs only [push_cast, reduceIte, Nat.reduceEqDiff, Nat.reduceAdd, Nat.reduceSub, Nat.reduceMul, Nat.reduceDiv, Nat.reduceMod, Nat.reduceLT, Nat.reduceLeDiff, Nat.reduceBEq, Nat.reduceBNe, reduceCtorEq, Int.reduceEq, Int.reduceNe, Int.reduceLT, Int.reduceLE, Int.reduceToNat, Int.reduceNeg, Int.reduceAdd, Int.reduceSub, Int.reduceMul, Int.reducePow, Nat.reducePow, Int.reduceBEq, M74]) g
  refine W_val (m := M50) (fun _ => rfl) rfl rfl (qres_lt _) ?_ h
  obtain ⟨x, e, he⟩ := qres_cases (mdv false a b c)
  rw [he] at eq ⊢
  simp (maxDischargeDepth := 9) -implicitDefEqProofs only [push_cast, reduceIte, Nat.reduceEqDiff, Nat.reduceAdd, Nat.reduceSub, Nat.reduceMul, Nat.reduceDiv, Nat.reduceMod, Nat.reduceLT, Nat.reduceLeDiff, Nat.reduceBEq, Nat.reduceBNe, reduceCtorEq, Int.reduceEq, Int.reduceNe, Int.reduceLT, Int.reduceLE, Int.reduceToNat, Int.reduceNeg, Int.reduceAdd, Int.reduceSub, Int.reduceMul, Int.reducePow, Nat.reducePow, Int.reduceBEq, M50, eq]
theorem fix_MulDivUp {a b c : Int} (ha : I64 a) (hb : I64 b) (hc : 0 < c ∧ c ≤ 9223372036854775807) (h : AHeap) : W CP 48 [.int .i64 a, .int .i64 b, .int .i64 c] h = some (qres (mdv true a b c), h, []) := by
  have eq := fun g => fix_quotient (F := 72) (up := true) ha hb hc (fun x g => by
    refine W_val (m := M72) (fun _ => rfl) rfl rfl rfl ?_ g
    simp (maxDischargeDepth := 9) -implicitDefEqProofs only [push_cast, reduceIte, Nat.reduceEqDiff, Nat.reduceAdd, Nat.reduceSub, Nat.reduceMul, Nat.reduceDiv, Nat.reduceMod, Nat.reduceLT, Nat.reduceLeDiff, Nat.reduceBEq, Nat.reduceBNe, reduceCtorEq, Int.reduceEq, Int.reduceNe, Int.reduceLT, Int.reduceLE, Int.reduceToNat, Int.reduceNeg, Int.reduceAdd, Int.reduceSub, Int.reduceMul, Int.reducePow, Nat.reducePow, Int.reduceBEq, M72]) g
  refine W_val (m := M48) (fun _ => rfl) rfl rfl (qres_lt _) ?_ h
  obtain ⟨x, e, he⟩ := qres_cases (mdv true a b c)
  rw [he] at eq ⊢
  simp (maxDischargeDepth := 9) -implicitDefEqProofs only [push_cast, reduceIte, Nat.reduceEqDiff, Nat.reduceAdd, Nat.reduceSub, Nat.reduceMul, Nat.reduceDiv, Nat.reduceMod, Nat.reduceLT, Nat.reduceLeDiff, Nat.reduceBEq, Nat.reduceBNe, reduceCtorEq, Int.reduceEq, Int.reduceNe, Int.reduceLT, Int.reduceLE, Int.reduceToNat, Int.reduceNeg, Int.reduceAdd, Int.reduceSub, Int.reduceMul, Int.reducePow, Nat.reducePow, Int.reduceBEq, M48, eq]
end Go.Proofs.YtcpiohklljppaaaW.AI.D
