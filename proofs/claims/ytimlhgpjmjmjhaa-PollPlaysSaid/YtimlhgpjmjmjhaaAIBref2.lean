import Derived.Test.YtimlhgpjmjmjhaaAIBref
namespace Go.Proofs.YtimlhgpjmjmjhaaW.AI.B
open Go Go.Proofs.YtimlhgpjmjmjhaaW.AI
set_option maxRecDepth 100000
set_option linter.unusedSimpArgs false
set_option linter.unusedVariables false
set_option linter.unusedSectionVars false

theorem wp_eq {α : Type} {o : Option α} {x : α} (h : Wp o fun r => r = x) : o = some x := by obtain ⟨r, rfl, rfl⟩ := h; rfl

theorem c26 (h : AHeap) {least most first : Int} (h1 : 4 ≤ least) (h2 : least ≤ most) (h3 : most ≤ 10) (h4 : 0 ≤ first) (h5 : first ≤ 4611686018427387904) :
    W C 26 [.int .i64 least, .int .i64 most, .int .i64 first] h = some (.tup [.ptr h.length 0, .int .i64 0], h ++ [(Re.mk least most least [] .nils 0 0 first false false).blk], []) := by
  have key : ∀ g : AHeap, xbody (W C) M26 [.int .i64 least, .int .i64 most, .int .i64 first] g = some (.tup [.ptr g.length 0, .int .i64 0], g ++ [(Re.mk least most least [] .nils 0 0 first false false).blk], []) := by
    intro g
    have n1 : ¬ least < 4 := by omega
    have n2 : ¬ most < least := by omega
    have n3 : ¬ 10 < most := by omega
    have n4 : ¬ first < 0 := by omega
    have n5 : ¬ 4611686018427387904 < first := by omega
    simp (maxDischargeDepth := 9) -implicitDefEqProofs only [push_cast, reduceIte, Nat.reduceEqDiff, Nat.reduceAdd, Nat.reduceSub, Nat.reduceMul, Nat.reduceDiv, Nat.reduceMod, Nat.reduceLT, Nat.reduceLeDiff, Nat.reduceBEq, Nat.reduceBNe, reduceCtorEq, Int.reduceEq, Int.reduceNe, Int.reduceLT, Int.reduceLE, Int.reduceToNat, Int.reduceNeg, Int.reduceAdd, Int.reduceSub, Int.reduceMul, Int.reducePow, Nat.reducePow, Int.reduceBEq, M26, n1, n2, n3, n4, n5, Re.blk, Re.cells]
  rw [W_made (m := M26) rfl rfl rfl (key _) rfl (key h)]
  have : trimR h.length (.tup [.ptr h.length 0, .int .i64 0], h ++ [(Re.mk least most least [] .nils 0 0 first false false).blk], []) = (.tup [.ptr h.length 0, .int .i64 0], h ++ [(Re.mk least most least [] .nils 0 0 first false false).blk], []) := by
    unfold trimR
    rw [if_neg]
    simp (maxDischargeDepth := 9) -implicitDefEqProofs only [push_cast, reduceIte, Nat.reduceEqDiff, Nat.reduceAdd, Nat.reduceSub, Nat.reduceMul, Nat.reduceDiv, Nat.reduceMod, Nat.reduceLT, Nat.reduceLeDiff, Nat.reduceBEq, Nat.reduceBNe, reduceCtorEq, Int.reduceEq, Int.reduceNe, Int.reduceLT, Int.reduceLE, Int.reduceToNat, Int.reduceNeg, Int.reduceAdd, Int.reduceSub, Int.reduceMul, Int.reducePow, Nat.reducePow, Int.reduceBEq, AV.lt, AV.lts]
  rw [this]; rfl

theorem c15_bad (h : AHeap) {least most first : Int} (hb : ¬ (4 ≤ least ∧ least ≤ most ∧ most ≤ 10 ∧ 0 ≤ first ∧ first ≤ 4611686018427387904)) :
    W C 15 [.int .i64 least, .int .i64 most, .int .i64 first] h = some (.tup [.nilp, .int .i64 1], h, []) := by
  refine W_pure (m := M15) (h' := []) (ws := []) (fun _ => rfl) rfl rfl rfl ?_ h
  show xbody (W C) M15 _ [] = _
  by_cases n1 : least < 4
  · simp (maxDischargeDepth := 9) -implicitDefEqProofs only [push_cast, reduceIte, Nat.reduceEqDiff, Nat.reduceAdd, Nat.reduceSub, Nat.reduceMul, Nat.reduceDiv, Nat.reduceMod, Nat.reduceLT, Nat.reduceLeDiff, Nat.reduceBEq, Nat.reduceBNe, reduceCtorEq, Int.reduceEq, Int.reduceNe, Int.reduceLT, Int.reduceLE, Int.reduceToNat, Int.reduceNeg, Int.reduceAdd, Int.reduceSub, Int.reduceMul, Int.reducePow, Nat.reducePow, Int.reduceBEq, M15, n1]
  · by_cases n2 : most < least
    · simp (maxDischargeDepth := 9) -implicitDefEqProofs only [push_cast, reduceIte, Nat.reduceEqDiff, Nat.reduceAdd, Nat.reduceSub, Nat.reduceMul, Nat.reduceDiv, Nat.reduceMod, Nat.reduceLT, Nat.reduceLeDiff, Nat.reduceBEq, Nat.reduceBNe, reduceCtorEq, Int.reduceEq, Int.reduceNe, Int.reduceLT, Int.reduceLE, Int.reduceToNat, Int.reduceNeg, Int.reduceAdd, Int.reduceSub, Int.reduceMul, Int.reducePow, Nat.reducePow, Int.reduceBEq, M15, n1, n2]
    · by_cases n3 : 10 < most
      · simp (maxDischargeDepth := 9) -implicitDefEqProofs only [push_cast, reduceIte, Nat.reduceEqDiff, Nat.reduceAdd, Nat.reduceSub, Nat.reduceMul, Nat.reduceDiv, Nat.reduceMod, Nat.reduceLT, Nat.reduceLeDiff, Nat.reduceBEq, Nat.reduceBNe, reduceCtorEq, Int.reduceEq, Int.reduceNe, Int.reduceLT, Int.reduceLE, Int.reduceToNat, Int.reduceNeg, Int.reduceAdd, Int.reduceSub, Int.reduceMul, Int.reducePow, Nat.reducePow, Int.reduceBEq, M15, n1, n2, n3]
      · by_cases n4 : first < 0
        · simp (maxDischargeDepth := 9) -implicitDefEqProofs only [push_cast, reduceIte, Nat.reduceEqDiff, Nat.reduceAdd, Nat.reduceSub, Nat.reduceMul, Nat.reduceDiv, Nat.reduceMod, Nat.reduceLT, Nat.reduceLeDiff, Nat.reduceBEq, Nat.reduceBNe, reduceCtorEq, Int.reduceEq, Int.reduceNe, Int.reduceLT, Int.reduceLE, Int.reduceToNat, Int.reduceNeg, Int.reduceAdd, Int.reduceSub, Int.reduceMul, Int.reducePow, Nat.reducePow, Int.reduceBEq, M15, n1, n2, n3, n4]
        · have n5 : 4611686018427387904 < first := by omega
          simp (maxDischargeDepth := 9) -implicitDefEqProofs only [push_cast, reduceIte, Nat.reduceEqDiff, Nat.reduceAdd, Nat.reduceSub, Nat.reduceMul, Nat.reduceDiv, Nat.reduceMod, Nat.reduceLT, Nat.reduceLeDiff, Nat.reduceBEq, Nat.reduceBNe, reduceCtorEq, Int.reduceEq, Int.reduceNe, Int.reduceLT, Int.reduceLE, Int.reduceToNat, Int.reduceNeg, Int.reduceAdd, Int.reduceSub, Int.reduceMul, Int.reducePow, Nat.reducePow, Int.reduceBEq, M15, n1, n2, n3, n4, n5]
theorem c26_bad (h : AHeap) {least most first : Int} (hb : ¬ (4 ≤ least ∧ least ≤ most ∧ most ≤ 10 ∧ 0 ≤ first ∧ first ≤ 4611686018427387904)) :
    W C 26 [.int .i64 least, .int .i64 most, .int .i64 first] h = some (.tup [.nilp, .int .i64 1], h, []) := by
  refine W_pure (m := M26) (h' := []) (ws := []) (fun _ => rfl) rfl rfl rfl ?_ h
  show xbody (W C) M26 _ [] = _
  by_cases n1 : least < 4
  · simp (maxDischargeDepth := 9) -implicitDefEqProofs only [push_cast, reduceIte, Nat.reduceEqDiff, Nat.reduceAdd, Nat.reduceSub, Nat.reduceMul, Nat.reduceDiv, Nat.reduceMod, Nat.reduceLT, Nat.reduceLeDiff, Nat.reduceBEq, Nat.reduceBNe, reduceCtorEq, Int.reduceEq, Int.reduceNe, Int.reduceLT, Int.reduceLE, Int.reduceToNat, Int.reduceNeg, Int.reduceAdd, Int.reduceSub, Int.reduceMul, Int.reducePow, Nat.reducePow, Int.reduceBEq, M26, n1]
  · by_cases n2 : most < least
    · simp (maxDischargeDepth := 9) -implicitDefEqProofs only [push_cast, reduceIte, Nat.reduceEqDiff, Nat.reduceAdd, Nat.reduceSub, Nat.reduceMul, Nat.reduceDiv, Nat.reduceMod, Nat.reduceLT, Nat.reduceLeDiff, Nat.reduceBEq, Nat.reduceBNe, reduceCtorEq, Int.reduceEq, Int.reduceNe, Int.reduceLT, Int.reduceLE, Int.reduceToNat, Int.reduceNeg, Int.reduceAdd, Int.reduceSub, Int.reduceMul, Int.reducePow, Nat.reducePow, Int.reduceBEq, M26, n1, n2]
    · by_cases n3 : 10 < most
      · simp (maxDischargeDepth := 9) -implicitDefEqProofs only [push_cast, reduceIte, Nat.reduceEqDiff, Nat.reduceAdd, Nat.reduceSub, Nat.reduceMul, Nat.reduceDiv, Nat.reduceMod, Nat.reduceLT, Nat.reduceLeDiff, Nat.reduceBEq, Nat.reduceBNe, reduceCtorEq, Int.reduceEq, Int.reduceNe, Int.reduceLT, Int.reduceLE, Int.reduceToNat, Int.reduceNeg, Int.reduceAdd, Int.reduceSub, Int.reduceMul, Int.reducePow, Nat.reducePow, Int.reduceBEq, M26, n1, n2, n3]
      · by_cases n4 : first < 0
        · simp (maxDischargeDepth := 9) -implicitDefEqProofs only [push_cast, reduceIte, Nat.reduceEqDiff, Nat.reduceAdd, Nat.reduceSub, Nat.reduceMul, Nat.reduceDiv, Nat.reduceMod, Nat.reduceLT, Nat.reduceLeDiff, Nat.reduceBEq, Nat.reduceBNe, reduceCtorEq, Int.reduceEq, Int.reduceNe, Int.reduceLT, Int.reduceLE, Int.reduceToNat, Int.reduceNeg, Int.reduceAdd, Int.reduceSub, Int.reduceMul, Int.reducePow, Nat.reducePow, Int.reduceBEq, M26, n1, n2, n3, n4]
        · have n5 : 4611686018427387904 < first := by omega
          simp (maxDischargeDepth := 9) -implicitDefEqProofs only [push_cast, reduceIte, Nat.reduceEqDiff, Nat.reduceAdd, Nat.reduceSub, Nat.reduceMul, Nat.reduceDiv, Nat.reduceMod, Nat.reduceLT, Nat.reduceLeDiff, Nat.reduceBEq, Nat.reduceBNe, reduceCtorEq, Int.reduceEq, Int.reduceNe, Int.reduceLT, Int.reduceLE, Int.reduceToNat, Int.reduceNeg, Int.reduceAdd, Int.reduceSub, Int.reduceMul, Int.reducePow, Nat.reducePow, Int.reduceBEq, M26, n1, n2, n3, n4, n5]
theorem c18_nil (h : AHeap) : W C 18 [.nilp, .bool true] h = some (.int .i64 2, h, []) := W_known (n := 60) (fun _ => rfl) (by kernel_rfl) h
theorem c20_nil (h : AHeap) : W C 20 [.nilp, .int .i64 4611686018427387904] h = some (.bool false, h, []) := W_known (n := 60) (fun _ => rfl) (by kernel_rfl) h

section
variable {h : AHeap} {p : Nat} (hg : Good h)
include hg

theorem c21_no {now : Int} (hi : isPo h[p]? = true) (hm : (rdPo h[p]?).made = true) (hs : ¬ ((rdPo h[p]?).stopped = false ∧ 0 ≤ now ∧ now ≤ 4611686018427387904)) :
    W C 21 [.ptr p 0, .int .i64 now] h = some (.int .i64 (if now < 0 ∨ 4611686018427387904 < now then 1 else 35), h, []) := by
  have a := a56 (now := now) hg 58 hi hm (fun h' hg' hq => c58 hg' hq)
  obtain ⟨P, hp, hr⟩ := isPo_elim hi
  rw [hr] at hm hs a
  refine W_quiet (m := M21) (js := [⟨.tip false, .ints .i64 [now]⟩, ⟨.tip false, .vals [.fn 58 [.ptr h.length 0]]⟩]) rfl rfl rfl rfl rfl hg ?_
  by_cases n1 : now < 0
  · simp (maxDischargeDepth := 9) -implicitDefEqProofs only [push_cast, reduceIte, Nat.reduceEqDiff, Nat.reduceAdd, Nat.reduceSub, Nat.reduceMul, Nat.reduceDiv, Nat.reduceMod, Nat.reduceLT, Nat.reduceLeDiff, Nat.reduceBEq, Nat.reduceBNe, reduceCtorEq, Int.reduceEq, Int.reduceNe, Int.reduceLT, Int.reduceLE, Int.reduceToNat, Int.reduceNeg, Int.reduceAdd, Int.reduceSub, Int.reduceMul, Int.reducePow, Nat.reducePow, Int.reduceBEq, M21, a, Po.asks, n1]
  · by_cases n2 : 4611686018427387904 < now
    · simp (maxDischargeDepth := 9) -implicitDefEqProofs only [push_cast, reduceIte, Nat.reduceEqDiff, Nat.reduceAdd, Nat.reduceSub, Nat.reduceMul, Nat.reduceDiv, Nat.reduceMod, Nat.reduceLT, Nat.reduceLeDiff, Nat.reduceBEq, Nat.reduceBNe, reduceCtorEq, Int.reduceEq, Int.reduceNe, Int.reduceLT, Int.reduceLE, Int.reduceToNat, Int.reduceNeg, Int.reduceAdd, Int.reduceSub, Int.reduceMul, Int.reducePow, Nat.reducePow, Int.reduceBEq, M21, a, Po.asks, n1, n2]
    · have hst : P.stopped = true := by cases h : P.stopped with
        | true => rfl
        | false => exact absurd ⟨h, by omega, by omega⟩ hs
      simp (maxDischargeDepth := 9) -implicitDefEqProofs only [push_cast, reduceIte, Nat.reduceEqDiff, Nat.reduceAdd, Nat.reduceSub, Nat.reduceMul, Nat.reduceDiv, Nat.reduceMod, Nat.reduceLT, Nat.reduceLeDiff, Nat.reduceBEq, Nat.reduceBNe, reduceCtorEq, Int.reduceEq, Int.reduceNe, Int.reduceLT, Int.reduceLE, Int.reduceToNat, Int.reduceNeg, Int.reduceAdd, Int.reduceSub, Int.reduceMul, Int.reducePow, Nat.reducePow, Int.reduceBEq, M21, a, Po.asks, n1, n2, hst]
theorem c24_no {n : Int} (hi : isPo h[p]? = true) (hm : (rdPo h[p]?).made = true) (hs : ¬ ((rdPo h[p]?).stopped = false ∧ 4 ≤ n ∧ n ≤ 10)) :
    W C 24 [.ptr p 0, .int .i64 n] h = some (.int .i64 (if n < 4 ∨ 10 < n then 1 else 35), h, []) := by
  have a := a56 (now := n) hg 60 hi hm (fun h' hg' hq => c60 hg' hq)
  obtain ⟨P, hp, hr⟩ := isPo_elim hi
  rw [hr] at hm hs a
  refine W_quiet (m := M24) (js := [⟨.tip false, .ints .i64 [n]⟩, ⟨.tip false, .vals [.fn 60 [.ptr h.length 0]]⟩]) rfl rfl rfl rfl rfl hg ?_
  by_cases n1 : n < 4
  · simp (maxDischargeDepth := 9) -implicitDefEqProofs only [push_cast, reduceIte, Nat.reduceEqDiff, Nat.reduceAdd, Nat.reduceSub, Nat.reduceMul, Nat.reduceDiv, Nat.reduceMod, Nat.reduceLT, Nat.reduceLeDiff, Nat.reduceBEq, Nat.reduceBNe, reduceCtorEq, Int.reduceEq, Int.reduceNe, Int.reduceLT, Int.reduceLE, Int.reduceToNat, Int.reduceNeg, Int.reduceAdd, Int.reduceSub, Int.reduceMul, Int.reducePow, Nat.reducePow, Int.reduceBEq, M24, a, Po.asks, n1]
  · by_cases n2 : 10 < n
    · simp (maxDischargeDepth := 9) -implicitDefEqProofs only [push_cast, reduceIte, Nat.reduceEqDiff, Nat.reduceAdd, Nat.reduceSub, Nat.reduceMul, Nat.reduceDiv, Nat.reduceMod, Nat.reduceLT, Nat.reduceLeDiff, Nat.reduceBEq, Nat.reduceBNe, reduceCtorEq, Int.reduceEq, Int.reduceNe, Int.reduceLT, Int.reduceLE, Int.reduceToNat, Int.reduceNeg, Int.reduceAdd, Int.reduceSub, Int.reduceMul, Int.reducePow, Nat.reducePow, Int.reduceBEq, M24, a, Po.asks, n1, n2]
    · have hst : P.stopped = true := by cases h : P.stopped with
        | true => rfl
        | false => exact absurd ⟨h, by omega, by omega⟩ hs
      simp (maxDischargeDepth := 9) -implicitDefEqProofs only [push_cast, reduceIte, Nat.reduceEqDiff, Nat.reduceAdd, Nat.reduceSub, Nat.reduceMul, Nat.reduceDiv, Nat.reduceMod, Nat.reduceLT, Nat.reduceLeDiff, Nat.reduceBEq, Nat.reduceBNe, reduceCtorEq, Int.reduceEq, Int.reduceNe, Int.reduceLT, Int.reduceLE, Int.reduceToNat, Int.reduceNeg, Int.reduceAdd, Int.reduceSub, Int.reduceMul, Int.reducePow, Nat.reducePow, Int.reduceBEq, M24, a, Po.asks, n1, n2, hst]
theorem c18_no {g : Bool} (hi : isPo h[p]? = true) (hm : (rdPo h[p]?).made = true) (hs : (rdPo h[p]?).stopped = true) :
    W C 18 [.ptr p 0, .bool g] h = some (.int .i64 35, h, []) := by
  have a := c56 hg hi hm
  obtain ⟨P, hp, hr⟩ := isPo_elim hi
  rw [hr] at hm hs a
  refine W_quiet0 (m := M18) rfl rfl rfl rfl rfl hg ?_
  simp (maxDischargeDepth := 9) -implicitDefEqProofs only [push_cast, reduceIte, Nat.reduceEqDiff, Nat.reduceAdd, Nat.reduceSub, Nat.reduceMul, Nat.reduceDiv, Nat.reduceMod, Nat.reduceLT, Nat.reduceLeDiff, Nat.reduceBEq, Nat.reduceBNe, reduceCtorEq, Int.reduceEq, Int.reduceNe, Int.reduceLT, Int.reduceLE, Int.reduceToNat, Int.reduceNeg, Int.reduceAdd, Int.reduceSub, Int.reduceMul, Int.reducePow, Nat.reducePow, Int.reduceBEq, M18, a, Po.asks, hs]
theorem c30_no (hi : isPo h[p]? = true) (hm : (rdPo h[p]?).made = true) (hs : (rdPo h[p]?).stopped = true) :
    W C 30 [.ptr p 0] h = some (.int .i64 35, h, []) := by
  have a := c56 hg hi hm
  obtain ⟨P, hp, hr⟩ := isPo_elim hi
  rw [hr] at hm hs a
  refine W_quiet0 (m := M30) rfl rfl rfl rfl rfl hg ?_
  simp (maxDischargeDepth := 9) -implicitDefEqProofs only [push_cast, reduceIte, Nat.reduceEqDiff, Nat.reduceAdd, Nat.reduceSub, Nat.reduceMul, Nat.reduceDiv, Nat.reduceMod, Nat.reduceLT, Nat.reduceLeDiff, Nat.reduceBEq, Nat.reduceBNe, reduceCtorEq, Int.reduceEq, Int.reduceNe, Int.reduceLT, Int.reduceLE, Int.reduceToNat, Int.reduceNeg, Int.reduceAdd, Int.reduceSub, Int.reduceMul, Int.reducePow, Nat.reducePow, Int.reduceBEq, M30, a, Po.asks, hs]
theorem c30 (hi : isPo h[p]? = true) (hm : (rdPo h[p]?).made = true) (hs : (rdPo h[p]?).stopped = false) :
    W C 30 [.ptr p 0] h = some (.int .i64 0, h.set p (rdPo h[p]?).stop.blk, [p]) := by
  have a := c56 hg hi hm
  obtain ⟨P, hp, hr⟩ := isPo_elim hi
  rw [hr] at hm hs a ⊢
  have hlt : p < h.length := (List.getElem?_eq_some_iff.1 hp).1
  refine W_set0 (m := M30) rfl rfl rfl rfl rfl hg hlt rfl rfl ?_
  simp (maxDischargeDepth := 9) -implicitDefEqProofs only [push_cast, reduceIte, Nat.reduceEqDiff, Nat.reduceAdd, Nat.reduceSub, Nat.reduceMul, Nat.reduceDiv, Nat.reduceMod, Nat.reduceLT, Nat.reduceLeDiff, Nat.reduceBEq, Nat.reduceBNe, reduceCtorEq, Int.reduceEq, Int.reduceNe, Int.reduceLT, Int.reduceLE, Int.reduceToNat, Int.reduceNeg, Int.reduceAdd, Int.reduceSub, Int.reduceMul, Int.reducePow, Nat.reducePow, Int.reduceBEq, M30, a, Po.asks, hs, hp, hlt, Po.blk, Po.cells, Po.stop]
theorem c31 (hi : isPo h[p]? = true) (hm : (rdPo h[p]?).made = true) :
    W C 31 [.ptr p 0] h = some (.ptr h.length 0, h ++ [(rdPo h[p]?).blk], []) := by
  have a := c57 hg hi
  obtain ⟨P, hp, hr⟩ := isPo_elim hi
  rw [hr] at hm a ⊢
  have hlt : p < h.length := (List.getElem?_eq_some_iff.1 hp).1
  have hbody : xbody (W C) M31 [.ptr p 0] h = some (.ptr h.length 0, h ++ [P.blk], []) := by
    simp (maxDischargeDepth := 9) -implicitDefEqProofs only [push_cast, reduceIte, Nat.reduceEqDiff, Nat.reduceAdd, Nat.reduceSub, Nat.reduceMul, Nat.reduceDiv, Nat.reduceMod, Nat.reduceLT, Nat.reduceLeDiff, Nat.reduceBEq, Nat.reduceBNe, reduceCtorEq, Int.reduceEq, Int.reduceNe, Int.reduceLT, Int.reduceLE, Int.reduceToNat, Int.reduceNeg, Int.reduceAdd, Int.reduceSub, Int.reduceMul, Int.reducePow, Nat.reducePow, Int.reduceBEq, M31, a, hm, hp, hlt, Po.blk, Po.cells]
  rw [W_body (m := M31) rfl rfl rfl hbody]
  have : trimR h.length (.ptr h.length 0, h ++ [P.blk], []) = (.ptr h.length 0, h ++ [P.blk], []) := by
    unfold trimR
    rw [if_neg]
    simp [AV.lt]
  rw [this]; rfl
end

-- Reach
theorem take_drop_snoc (l : List Bool) (i m : Nat) (hi : i < l.length) (hm : m ≤ i) : (l.take (i + 1)).drop m = (l.take i).drop m ++ [l[i]] := by
  rw [List.take_succ_eq_append_getElem hi, List.drop_append_of_le_length (by simp; omega)]
theorem take_drop_nil (l : List Bool) (i m : Nat) (hm : i ≤ m) : (l.take i).drop m = [] := List.drop_eq_nil_of_le (by simp; omega)

theorem reach_end (R : Re) (e0 : Int) (he : (R.ans.length < 8 ∧ e0 = if R.early then 1 else 0) ∨ (8 ≤ R.ans.length ∧ e0 = 0)) : bitsOf e0 ((R.ans.take R.ans.length).drop (R.ans.length - 8)) % 256 = R.reach := by
  rw [List.take_length]
  unfold Re.reach
  rcases he with ⟨h, rfl⟩ | ⟨h, rfl⟩
  · have : R.ans.length - 8 = 0 := by omega
    rw [this]; rfl
  · have e : R.ans = R.ans.take (R.ans.length - 8) ++ R.ans.drop (R.ans.length - 8) := (List.take_append_drop _ _).symm
    have hl : (R.ans.drop (R.ans.length - 8)).length = 8 := by simp; omega
    conv => rhs; rw [e, bitsOf_app, bitsOf_add, hl]
    rw [show (2 : Int) ^ 8 = 256 from rfl]
    omega


set_option maxHeartbeats 4000000 in
theorem c32 {h : AHeap} {r : Nat} {R : Re} (hg : Good h) (a : RefAt h r R) (hn : R.ans.length < 1000000) : W C 32 [.ptr r 0] h = some (.int .u8 R.reach, h, []) := by
  have hb := a.blk
  have hslen := a.ans.len
  have hna := na_slen hslen
  refine W_quiet0 (m := M32) rfl rfl rfl rfl rfl hg ?_
  by_cases h8 : R.ans.length < 8
  · have hn8 : (R.ans.length : Int) < 8 := by omega
    cases hearly : R.early

    · skip
      refine wp_eq ?_
      simp (maxDischargeDepth := 9) -implicitDefEqProofs only [push_cast, reduceIte, Nat.reduceEqDiff, Nat.reduceAdd, Nat.reduceSub, Nat.reduceMul, Nat.reduceDiv, Nat.reduceMod, Nat.reduceLT, Nat.reduceLeDiff, Nat.reduceBEq, Nat.reduceBNe, reduceCtorEq, Int.reduceEq, Int.reduceNe, Int.reduceLT, Int.reduceLE, Int.reduceToNat, Int.reduceNeg, Int.reduceAdd, Int.reduceSub, Int.reduceMul, Int.reducePow, Nat.reducePow, Int.reduceBEq, M32, hb, hslen, hna, hn8, hearly, Re.blk, Re.cells]
      refine wp_kRes (wp_kSeq (wp_kBlock ?_))
      refine wp_loop (fun k a h' ws => ∃ i : Nat, k = R.ans.length - i ∧ i ≤ R.ans.length ∧ a = [(0, .ptr r 0), (3, .int .u8 (bitsOf (0 : Int) ((R.ans.take i).drop (R.ans.length - 8)) % 256)), (4, .int .i64 (R.ans.length : Int)), (5, .int .i64 (i : Int))] ∧ h' = h ∧ ws = []) R.ans.length ?_ ?_
      · refine ⟨0, by omega, by omega, ?_, rfl, rfl⟩
        simp (maxDischargeDepth := 9) -implicitDefEqProofs only [push_cast, reduceIte, Nat.reduceEqDiff, Nat.reduceAdd, Nat.reduceSub, Nat.reduceMul, Nat.reduceDiv, Nat.reduceMod, Nat.reduceLT, Nat.reduceLeDiff, Nat.reduceBEq, Nat.reduceBNe, reduceCtorEq, Int.reduceEq, Int.reduceNe, Int.reduceLT, Int.reduceLE, Int.reduceToNat, Int.reduceNeg, Int.reduceAdd, Int.reduceSub, Int.reduceMul, Int.reducePow, Nat.reducePow, Int.reduceBEq, List.take_zero, List.drop_nil, bitsOf]; rfl
      · rintro k aa h' ws ⟨i, rfl, hi, rfl, rfl, rfl⟩
        have v1 : IntKind.i64.wrap ((i : Int) + 1) = (i : Int) + 1 := wr_i64 _ (by omega) (by omega)
        have v2 : IntKind.i64.wrap ((R.ans.length : Int) - 8) = (R.ans.length : Int) - 8 := wr_i64 _ (by omega) (by omega)
        by_cases hlt : i < R.ans.length
        · have hlt' : (i : Int) < (R.ans.length : Int) := by omega
          obtain ⟨b, o, mn, e1, e3, e4⟩ : ∃ b o mn, R.sl = .gsl b 0 R.ans.length 1 mn ∧ b < h'.length ∧ h'[b]? = some ⟨.tip o, .vals (R.ans.map AV.bool)⟩ := by
            rcases a.ans with ⟨_, e2⟩ | ⟨b, o, mn, e1, _, e3, e4⟩
            · rw [e2] at hlt; simp at hlt
            · exact ⟨b, o, mn, e1, e3, e4⟩
          by_cases hm : i < R.ans.length - 8
          · have hm' : (i : Int) < (R.ans.length : Int) - 8 := by omega
            simp (maxDischargeDepth := 9) -implicitDefEqProofs only [push_cast, reduceIte, Nat.reduceEqDiff, Nat.reduceAdd, Nat.reduceSub, Nat.reduceMul, Nat.reduceDiv, Nat.reduceMod, Nat.reduceLT, Nat.reduceLeDiff, Nat.reduceBEq, Nat.reduceBNe, reduceCtorEq, Int.reduceEq, Int.reduceNe, Int.reduceLT, Int.reduceLE, Int.reduceToNat, Int.reduceNeg, Int.reduceAdd, Int.reduceSub, Int.reduceMul, Int.reducePow, Nat.reducePow, Int.reduceBEq, hlt, hlt', v1, v2, hm']
            refine loop_next (R.ans.length - (i + 1)) (by omega) ⟨i + 1, rfl, by omega, ?_, rfl, rfl⟩
            rw [take_drop_nil _ _ _ (by omega), take_drop_nil _ _ _ (by omega)]
            simp (maxDischargeDepth := 9) -implicitDefEqProofs only [push_cast, reduceIte, Nat.reduceEqDiff, Nat.reduceAdd, Nat.reduceSub, Nat.reduceMul, Nat.reduceDiv, Nat.reduceMod, Nat.reduceLT, Nat.reduceLeDiff, Nat.reduceBEq, Nat.reduceBNe, reduceCtorEq, Int.reduceEq, Int.reduceNe, Int.reduceLT, Int.reduceLE, Int.reduceToNat, Int.reduceNeg, Int.reduceAdd, Int.reduceSub, Int.reduceMul, Int.reducePow, Nat.reducePow, Int.reduceBEq]
          · have hm' : ¬ (i : Int) < (R.ans.length : Int) - 8 := by omega
            have hs := take_drop_snoc R.ans i (R.ans.length - 8) hlt (by omega)
            have hbi : R.ans[i]? = some R.ans[i] := List.getElem?_eq_getElem hlt
            obtain ⟨x, hx⟩ : ∃ x, bitsOf (0 : Int) ((R.ans.take i).drop (R.ans.length - 8)) = x := ⟨_, rfl⟩
            have hx2 : bitsOf (0 : Int) ((R.ans.take (i + 1)).drop (R.ans.length - 8)) = x * 2 + (if R.ans[i] then 1 else 0) := by rw [hs, bitsOf_snoc, hx]
            have v3 : IntKind.u8.wrap (x % 256 * 2) = x % 256 * 2 % 256 := IntKind.wrap_u8 _
            cases hbv : R.ans[i] with
            | true =>
              rw [hbv] at hbi
              have v4 : IntKind.u8.wrap (x % 256 * 2 % 256 + 1) = (x * 2 + 1) % 256 := by rw [IntKind.wrap_u8]; omega
              simp (maxDischargeDepth := 9) -implicitDefEqProofs only [push_cast, reduceIte, Nat.reduceEqDiff, Nat.reduceAdd, Nat.reduceSub, Nat.reduceMul, Nat.reduceDiv, Nat.reduceMod, Nat.reduceLT, Nat.reduceLeDiff, Nat.reduceBEq, Nat.reduceBNe, reduceCtorEq, Int.reduceEq, Int.reduceNe, Int.reduceLT, Int.reduceLE, Int.reduceToNat, Int.reduceNeg, Int.reduceAdd, Int.reduceSub, Int.reduceMul, Int.reducePow, Nat.reducePow, Int.reduceBEq, hlt, hlt', v1, v2, hm', hx, v3, v4, hb, e1, e3, e4, hbi, Re.blk, Re.cells]
              refine loop_next (R.ans.length - (i + 1)) (by omega) ⟨i + 1, rfl, by omega, ?_, rfl, rfl⟩
              rw [hx2, hbv]
              simp (maxDischargeDepth := 9) -implicitDefEqProofs only [push_cast, reduceIte, Nat.reduceEqDiff, Nat.reduceAdd, Nat.reduceSub, Nat.reduceMul, Nat.reduceDiv, Nat.reduceMod, Nat.reduceLT, Nat.reduceLeDiff, Nat.reduceBEq, Nat.reduceBNe, reduceCtorEq, Int.reduceEq, Int.reduceNe, Int.reduceLT, Int.reduceLE, Int.reduceToNat, Int.reduceNeg, Int.reduceAdd, Int.reduceSub, Int.reduceMul, Int.reducePow, Nat.reducePow, Int.reduceBEq]
            | false =>
              rw [hbv] at hbi
              have v4 : x % 256 * 2 % 256 = (x * 2 + 0) % 256 := by omega
              simp (maxDischargeDepth := 9) -implicitDefEqProofs only [push_cast, reduceIte, Nat.reduceEqDiff, Nat.reduceAdd, Nat.reduceSub, Nat.reduceMul, Nat.reduceDiv, Nat.reduceMod, Nat.reduceLT, Nat.reduceLeDiff, Nat.reduceBEq, Nat.reduceBNe, reduceCtorEq, Int.reduceEq, Int.reduceNe, Int.reduceLT, Int.reduceLE, Int.reduceToNat, Int.reduceNeg, Int.reduceAdd, Int.reduceSub, Int.reduceMul, Int.reducePow, Nat.reducePow, Int.reduceBEq, hlt, hlt', v1, v2, hm', hx, v3, hb, e1, e3, e4, hbi, Re.blk, Re.cells]
              refine loop_next (R.ans.length - (i + 1)) (by omega) ⟨i + 1, rfl, by omega, ?_, rfl, rfl⟩
              rw [hx2, hbv]
              simp (maxDischargeDepth := 9) -implicitDefEqProofs only [push_cast, reduceIte, Nat.reduceEqDiff, Nat.reduceAdd, Nat.reduceSub, Nat.reduceMul, Nat.reduceDiv, Nat.reduceMod, Nat.reduceLT, Nat.reduceLeDiff, Nat.reduceBEq, Nat.reduceBNe, reduceCtorEq, Int.reduceEq, Int.reduceNe, Int.reduceLT, Int.reduceLE, Int.reduceToNat, Int.reduceNeg, Int.reduceAdd, Int.reduceSub, Int.reduceMul, Int.reducePow, Nat.reducePow, Int.reduceBEq]
              rw [v4]; simp
        · have hi2 : i = R.ans.length := by omega
          have he := reach_end R (0 : Int) (Or.inl ⟨h8, by rw [hearly]; rfl⟩)
          rw [← hi2] at he
          have hnl : ¬ (i : Int) < (R.ans.length : Int) := by omega
          simp (maxDischargeDepth := 9) -implicitDefEqProofs only [push_cast, reduceIte, Nat.reduceEqDiff, Nat.reduceAdd, Nat.reduceSub, Nat.reduceMul, Nat.reduceDiv, Nat.reduceMod, Nat.reduceLT, Nat.reduceLeDiff, Nat.reduceBEq, Nat.reduceBNe, reduceCtorEq, Int.reduceEq, Int.reduceNe, Int.reduceLT, Int.reduceLE, Int.reduceToNat, Int.reduceNeg, Int.reduceAdd, Int.reduceSub, Int.reduceMul, Int.reducePow, Nat.reducePow, Int.reduceBEq, hnl]
          rw [← hi2, he]

    · skip
      refine wp_eq ?_
      simp (maxDischargeDepth := 9) -implicitDefEqProofs only [push_cast, reduceIte, Nat.reduceEqDiff, Nat.reduceAdd, Nat.reduceSub, Nat.reduceMul, Nat.reduceDiv, Nat.reduceMod, Nat.reduceLT, Nat.reduceLeDiff, Nat.reduceBEq, Nat.reduceBNe, reduceCtorEq, Int.reduceEq, Int.reduceNe, Int.reduceLT, Int.reduceLE, Int.reduceToNat, Int.reduceNeg, Int.reduceAdd, Int.reduceSub, Int.reduceMul, Int.reducePow, Nat.reducePow, Int.reduceBEq, M32, hb, hslen, hna, hn8, hearly, Re.blk, Re.cells]
      refine wp_kRes (wp_kSeq (wp_kBlock ?_))
      refine wp_loop (fun k a h' ws => ∃ i : Nat, k = R.ans.length - i ∧ i ≤ R.ans.length ∧ a = [(0, .ptr r 0), (3, .int .u8 (bitsOf (1 : Int) ((R.ans.take i).drop (R.ans.length - 8)) % 256)), (4, .int .i64 (R.ans.length : Int)), (5, .int .i64 (i : Int))] ∧ h' = h ∧ ws = []) R.ans.length ?_ ?_
      · refine ⟨0, by omega, by omega, ?_, rfl, rfl⟩
        simp (maxDischargeDepth := 9) -implicitDefEqProofs only [push_cast, reduceIte, Nat.reduceEqDiff, Nat.reduceAdd, Nat.reduceSub, Nat.reduceMul, Nat.reduceDiv, Nat.reduceMod, Nat.reduceLT, Nat.reduceLeDiff, Nat.reduceBEq, Nat.reduceBNe, reduceCtorEq, Int.reduceEq, Int.reduceNe, Int.reduceLT, Int.reduceLE, Int.reduceToNat, Int.reduceNeg, Int.reduceAdd, Int.reduceSub, Int.reduceMul, Int.reducePow, Nat.reducePow, Int.reduceBEq, List.take_zero, List.drop_nil, bitsOf]; rfl
      · rintro k aa h' ws ⟨i, rfl, hi, rfl, rfl, rfl⟩
        have v1 : IntKind.i64.wrap ((i : Int) + 1) = (i : Int) + 1 := wr_i64 _ (by omega) (by omega)
        have v2 : IntKind.i64.wrap ((R.ans.length : Int) - 8) = (R.ans.length : Int) - 8 := wr_i64 _ (by omega) (by omega)
        by_cases hlt : i < R.ans.length
        · have hlt' : (i : Int) < (R.ans.length : Int) := by omega
          obtain ⟨b, o, mn, e1, e3, e4⟩ : ∃ b o mn, R.sl = .gsl b 0 R.ans.length 1 mn ∧ b < h'.length ∧ h'[b]? = some ⟨.tip o, .vals (R.ans.map AV.bool)⟩ := by
            rcases a.ans with ⟨_, e2⟩ | ⟨b, o, mn, e1, _, e3, e4⟩
            · rw [e2] at hlt; simp at hlt
            · exact ⟨b, o, mn, e1, e3, e4⟩
          by_cases hm : i < R.ans.length - 8
          · have hm' : (i : Int) < (R.ans.length : Int) - 8 := by omega
            simp (maxDischargeDepth := 9) -implicitDefEqProofs only [push_cast, reduceIte, Nat.reduceEqDiff, Nat.reduceAdd, Nat.reduceSub, Nat.reduceMul, Nat.reduceDiv, Nat.reduceMod, Nat.reduceLT, Nat.reduceLeDiff, Nat.reduceBEq, Nat.reduceBNe, reduceCtorEq, Int.reduceEq, Int.reduceNe, Int.reduceLT, Int.reduceLE, Int.reduceToNat, Int.reduceNeg, Int.reduceAdd, Int.reduceSub, Int.reduceMul, Int.reducePow, Nat.reducePow, Int.reduceBEq, hlt, hlt', v1, v2, hm']
            refine loop_next (R.ans.length - (i + 1)) (by omega) ⟨i + 1, rfl, by omega, ?_, rfl, rfl⟩
            rw [take_drop_nil _ _ _ (by omega), take_drop_nil _ _ _ (by omega)]
            simp (maxDischargeDepth := 9) -implicitDefEqProofs only [push_cast, reduceIte, Nat.reduceEqDiff, Nat.reduceAdd, Nat.reduceSub, Nat.reduceMul, Nat.reduceDiv, Nat.reduceMod, Nat.reduceLT, Nat.reduceLeDiff, Nat.reduceBEq, Nat.reduceBNe, reduceCtorEq, Int.reduceEq, Int.reduceNe, Int.reduceLT, Int.reduceLE, Int.reduceToNat, Int.reduceNeg, Int.reduceAdd, Int.reduceSub, Int.reduceMul, Int.reducePow, Nat.reducePow, Int.reduceBEq]
          · have hm' : ¬ (i : Int) < (R.ans.length : Int) - 8 := by omega
            have hs := take_drop_snoc R.ans i (R.ans.length - 8) hlt (by omega)
            have hbi : R.ans[i]? = some R.ans[i] := List.getElem?_eq_getElem hlt
            obtain ⟨x, hx⟩ : ∃ x, bitsOf (1 : Int) ((R.ans.take i).drop (R.ans.length - 8)) = x := ⟨_, rfl⟩
            have hx2 : bitsOf (1 : Int) ((R.ans.take (i + 1)).drop (R.ans.length - 8)) = x * 2 + (if R.ans[i] then 1 else 0) := by rw [hs, bitsOf_snoc, hx]
            have v3 : IntKind.u8.wrap (x % 256 * 2) = x % 256 * 2 % 256 := IntKind.wrap_u8 _
            cases hbv : R.ans[i] with
            | true =>
              rw [hbv] at hbi
              have v4 : IntKind.u8.wrap (x % 256 * 2 % 256 + 1) = (x * 2 + 1) % 256 := by rw [IntKind.wrap_u8]; omega
              simp (maxDischargeDepth := 9) -implicitDefEqProofs only [push_cast, reduceIte, Nat.reduceEqDiff, Nat.reduceAdd, Nat.reduceSub, Nat.reduceMul, Nat.reduceDiv, Nat.reduceMod, Nat.reduceLT, Nat.reduceLeDiff, Nat.reduceBEq, Nat.reduceBNe, reduceCtorEq, Int.reduceEq, Int.reduceNe, Int.reduceLT, Int.reduceLE, Int.reduceToNat, Int.reduceNeg, Int.reduceAdd, Int.reduceSub, Int.reduceMul, Int.reducePow, Nat.reducePow, Int.reduceBEq, hlt, hlt', v1, v2, hm', hx, v3, v4, hb, e1, e3, e4, hbi, Re.blk, Re.cells]
              refine loop_next (R.ans.length - (i + 1)) (by omega) ⟨i + 1, rfl, by omega, ?_, rfl, rfl⟩
              rw [hx2, hbv]
              simp (maxDischargeDepth := 9) -implicitDefEqProofs only [push_cast, reduceIte, Nat.reduceEqDiff, Nat.reduceAdd, Nat.reduceSub, Nat.reduceMul, Nat.reduceDiv, Nat.reduceMod, Nat.reduceLT, Nat.reduceLeDiff, Nat.reduceBEq, Nat.reduceBNe, reduceCtorEq, Int.reduceEq, Int.reduceNe, Int.reduceLT, Int.reduceLE, Int.reduceToNat, Int.reduceNeg, Int.reduceAdd, Int.reduceSub, Int.reduceMul, Int.reducePow, Nat.reducePow, Int.reduceBEq]
            | false =>
              rw [hbv] at hbi
              have v4 : x % 256 * 2 % 256 = (x * 2 + 0) % 256 := by omega
              simp (maxDischargeDepth := 9) -implicitDefEqProofs only [push_cast, reduceIte, Nat.reduceEqDiff, Nat.reduceAdd, Nat.reduceSub, Nat.reduceMul, Nat.reduceDiv, Nat.reduceMod, Nat.reduceLT, Nat.reduceLeDiff, Nat.reduceBEq, Nat.reduceBNe, reduceCtorEq, Int.reduceEq, Int.reduceNe, Int.reduceLT, Int.reduceLE, Int.reduceToNat, Int.reduceNeg, Int.reduceAdd, Int.reduceSub, Int.reduceMul, Int.reducePow, Nat.reducePow, Int.reduceBEq, hlt, hlt', v1, v2, hm', hx, v3, hb, e1, e3, e4, hbi, Re.blk, Re.cells]
              refine loop_next (R.ans.length - (i + 1)) (by omega) ⟨i + 1, rfl, by omega, ?_, rfl, rfl⟩
              rw [hx2, hbv]
              simp (maxDischargeDepth := 9) -implicitDefEqProofs only [push_cast, reduceIte, Nat.reduceEqDiff, Nat.reduceAdd, Nat.reduceSub, Nat.reduceMul, Nat.reduceDiv, Nat.reduceMod, Nat.reduceLT, Nat.reduceLeDiff, Nat.reduceBEq, Nat.reduceBNe, reduceCtorEq, Int.reduceEq, Int.reduceNe, Int.reduceLT, Int.reduceLE, Int.reduceToNat, Int.reduceNeg, Int.reduceAdd, Int.reduceSub, Int.reduceMul, Int.reducePow, Nat.reducePow, Int.reduceBEq]
              rw [v4]; simp
        · have hi2 : i = R.ans.length := by omega
          have he := reach_end R (1 : Int) (Or.inl ⟨h8, by rw [hearly]; rfl⟩)
          rw [← hi2] at he
          have hnl : ¬ (i : Int) < (R.ans.length : Int) := by omega
          simp (maxDischargeDepth := 9) -implicitDefEqProofs only [push_cast, reduceIte, Nat.reduceEqDiff, Nat.reduceAdd, Nat.reduceSub, Nat.reduceMul, Nat.reduceDiv, Nat.reduceMod, Nat.reduceLT, Nat.reduceLeDiff, Nat.reduceBEq, Nat.reduceBNe, reduceCtorEq, Int.reduceEq, Int.reduceNe, Int.reduceLT, Int.reduceLE, Int.reduceToNat, Int.reduceNeg, Int.reduceAdd, Int.reduceSub, Int.reduceMul, Int.reducePow, Nat.reducePow, Int.reduceBEq, hnl]
          rw [← hi2, he]

  · have hn8 : ¬ (R.ans.length : Int) < 8 := by omega
    have hearly : True := trivial
    refine wp_eq ?_
    simp (maxDischargeDepth := 9) -implicitDefEqProofs only [push_cast, reduceIte, Nat.reduceEqDiff, Nat.reduceAdd, Nat.reduceSub, Nat.reduceMul, Nat.reduceDiv, Nat.reduceMod, Nat.reduceLT, Nat.reduceLeDiff, Nat.reduceBEq, Nat.reduceBNe, reduceCtorEq, Int.reduceEq, Int.reduceNe, Int.reduceLT, Int.reduceLE, Int.reduceToNat, Int.reduceNeg, Int.reduceAdd, Int.reduceSub, Int.reduceMul, Int.reducePow, Nat.reducePow, Int.reduceBEq, M32, hb, hslen, hna, hn8, hearly, Re.blk, Re.cells]
    refine wp_kRes (wp_kSeq (wp_kBlock ?_))
    refine wp_loop (fun k a h' ws => ∃ i : Nat, k = R.ans.length - i ∧ i ≤ R.ans.length ∧ a = [(0, .ptr r 0), (3, .int .u8 (bitsOf (0 : Int) ((R.ans.take i).drop (R.ans.length - 8)) % 256)), (4, .int .i64 (R.ans.length : Int)), (5, .int .i64 (i : Int))] ∧ h' = h ∧ ws = []) R.ans.length ?_ ?_
    · refine ⟨0, by omega, by omega, ?_, rfl, rfl⟩
      simp (maxDischargeDepth := 9) -implicitDefEqProofs only [push_cast, reduceIte, Nat.reduceEqDiff, Nat.reduceAdd, Nat.reduceSub, Nat.reduceMul, Nat.reduceDiv, Nat.reduceMod, Nat.reduceLT, Nat.reduceLeDiff, Nat.reduceBEq, Nat.reduceBNe, reduceCtorEq, Int.reduceEq, Int.reduceNe, Int.reduceLT, Int.reduceLE, Int.reduceToNat, Int.reduceNeg, Int.reduceAdd, Int.reduceSub, Int.reduceMul, Int.reducePow, Nat.reducePow, Int.reduceBEq, List.take_zero, List.drop_nil, bitsOf]; rfl
    · rintro k aa h' ws ⟨i, rfl, hi, rfl, rfl, rfl⟩
      have v1 : IntKind.i64.wrap ((i : Int) + 1) = (i : Int) + 1 := wr_i64 _ (by omega) (by omega)
      have v2 : IntKind.i64.wrap ((R.ans.length : Int) - 8) = (R.ans.length : Int) - 8 := wr_i64 _ (by omega) (by omega)
      by_cases hlt : i < R.ans.length
      · have hlt' : (i : Int) < (R.ans.length : Int) := by omega
        obtain ⟨b, o, mn, e1, e3, e4⟩ : ∃ b o mn, R.sl = .gsl b 0 R.ans.length 1 mn ∧ b < h'.length ∧ h'[b]? = some ⟨.tip o, .vals (R.ans.map AV.bool)⟩ := by
          rcases a.ans with ⟨_, e2⟩ | ⟨b, o, mn, e1, _, e3, e4⟩
          · rw [e2] at hlt; simp at hlt
          · exact ⟨b, o, mn, e1, e3, e4⟩
        by_cases hm : i < R.ans.length - 8
        · have hm' : (i : Int) < (R.ans.length : Int) - 8 := by omega
          simp (maxDischargeDepth := 9) -implicitDefEqProofs only [push_cast, reduceIte, Nat.reduceEqDiff, Nat.reduceAdd, Nat.reduceSub, Nat.reduceMul, Nat.reduceDiv, Nat.reduceMod, Nat.reduceLT, Nat.reduceLeDiff, Nat.reduceBEq, Nat.reduceBNe, reduceCtorEq, Int.reduceEq, Int.reduceNe, Int.reduceLT, Int.reduceLE, Int.reduceToNat, Int.reduceNeg, Int.reduceAdd, Int.reduceSub, Int.reduceMul, Int.reducePow, Nat.reducePow, Int.reduceBEq, hlt, hlt', v1, v2, hm']
          refine loop_next (R.ans.length - (i + 1)) (by omega) ⟨i + 1, rfl, by omega, ?_, rfl, rfl⟩
          rw [take_drop_nil _ _ _ (by omega), take_drop_nil _ _ _ (by omega)]
          simp (maxDischargeDepth := 9) -implicitDefEqProofs only [push_cast, reduceIte, Nat.reduceEqDiff, Nat.reduceAdd, Nat.reduceSub, Nat.reduceMul, Nat.reduceDiv, Nat.reduceMod, Nat.reduceLT, Nat.reduceLeDiff, Nat.reduceBEq, Nat.reduceBNe, reduceCtorEq, Int.reduceEq, Int.reduceNe, Int.reduceLT, Int.reduceLE, Int.reduceToNat, Int.reduceNeg, Int.reduceAdd, Int.reduceSub, Int.reduceMul, Int.reducePow, Nat.reducePow, Int.reduceBEq]
        · have hm' : ¬ (i : Int) < (R.ans.length : Int) - 8 := by omega
          have hs := take_drop_snoc R.ans i (R.ans.length - 8) hlt (by omega)
          have hbi : R.ans[i]? = some R.ans[i] := List.getElem?_eq_getElem hlt
          obtain ⟨x, hx⟩ : ∃ x, bitsOf (0 : Int) ((R.ans.take i).drop (R.ans.length - 8)) = x := ⟨_, rfl⟩
          have hx2 : bitsOf (0 : Int) ((R.ans.take (i + 1)).drop (R.ans.length - 8)) = x * 2 + (if R.ans[i] then 1 else 0) := by rw [hs, bitsOf_snoc, hx]
          have v3 : IntKind.u8.wrap (x % 256 * 2) = x % 256 * 2 % 256 := IntKind.wrap_u8 _
          cases hbv : R.ans[i] with
          | true =>
            rw [hbv] at hbi
            have v4 : IntKind.u8.wrap (x % 256 * 2 % 256 + 1) = (x * 2 + 1) % 256 := by rw [IntKind.wrap_u8]; omega
            simp (maxDischargeDepth := 9) -implicitDefEqProofs only [push_cast, reduceIte, Nat.reduceEqDiff, Nat.reduceAdd, Nat.reduceSub, Nat.reduceMul, Nat.reduceDiv, Nat.reduceMod, Nat.reduceLT, Nat.reduceLeDiff, Nat.reduceBEq, Nat.reduceBNe, reduceCtorEq, Int.reduceEq, Int.reduceNe, Int.reduceLT, Int.reduceLE, Int.reduceToNat, Int.reduceNeg, Int.reduceAdd, Int.reduceSub, Int.reduceMul, Int.reducePow, Nat.reducePow, Int.reduceBEq, hlt, hlt', v1, v2, hm', hx, v3, v4, hb, e1, e3, e4, hbi, Re.blk, Re.cells]
            refine loop_next (R.ans.length - (i + 1)) (by omega) ⟨i + 1, rfl, by omega, ?_, rfl, rfl⟩
            rw [hx2, hbv]
            simp (maxDischargeDepth := 9) -implicitDefEqProofs only [push_cast, reduceIte, Nat.reduceEqDiff, Nat.reduceAdd, Nat.reduceSub, Nat.reduceMul, Nat.reduceDiv, Nat.reduceMod, Nat.reduceLT, Nat.reduceLeDiff, Nat.reduceBEq, Nat.reduceBNe, reduceCtorEq, Int.reduceEq, Int.reduceNe, Int.reduceLT, Int.reduceLE, Int.reduceToNat, Int.reduceNeg, Int.reduceAdd, Int.reduceSub, Int.reduceMul, Int.reducePow, Nat.reducePow, Int.reduceBEq]
          | false =>
            rw [hbv] at hbi
            have v4 : x % 256 * 2 % 256 = (x * 2 + 0) % 256 := by omega
            simp (maxDischargeDepth := 9) -implicitDefEqProofs only [push_cast, reduceIte, Nat.reduceEqDiff, Nat.reduceAdd, Nat.reduceSub, Nat.reduceMul, Nat.reduceDiv, Nat.reduceMod, Nat.reduceLT, Nat.reduceLeDiff, Nat.reduceBEq, Nat.reduceBNe, reduceCtorEq, Int.reduceEq, Int.reduceNe, Int.reduceLT, Int.reduceLE, Int.reduceToNat, Int.reduceNeg, Int.reduceAdd, Int.reduceSub, Int.reduceMul, Int.reducePow, Nat.reducePow, Int.reduceBEq, hlt, hlt', v1, v2, hm', hx, v3, hb, e1, e3, e4, hbi, Re.blk, Re.cells]
            refine loop_next (R.ans.length - (i + 1)) (by omega) ⟨i + 1, rfl, by omega, ?_, rfl, rfl⟩
            rw [hx2, hbv]
            simp (maxDischargeDepth := 9) -implicitDefEqProofs only [push_cast, reduceIte, Nat.reduceEqDiff, Nat.reduceAdd, Nat.reduceSub, Nat.reduceMul, Nat.reduceDiv, Nat.reduceMod, Nat.reduceLT, Nat.reduceLeDiff, Nat.reduceBEq, Nat.reduceBNe, reduceCtorEq, Int.reduceEq, Int.reduceNe, Int.reduceLT, Int.reduceLE, Int.reduceToNat, Int.reduceNeg, Int.reduceAdd, Int.reduceSub, Int.reduceMul, Int.reducePow, Nat.reducePow, Int.reduceBEq]
            rw [v4]; simp
      · have hi2 : i = R.ans.length := by omega
        have he := reach_end R (0 : Int) (Or.inr ⟨by omega, rfl⟩)
        rw [← hi2] at he
        have hnl : ¬ (i : Int) < (R.ans.length : Int) := by omega
        simp (maxDischargeDepth := 9) -implicitDefEqProofs only [push_cast, reduceIte, Nat.reduceEqDiff, Nat.reduceAdd, Nat.reduceSub, Nat.reduceMul, Nat.reduceDiv, Nat.reduceMod, Nat.reduceLT, Nat.reduceLeDiff, Nat.reduceBEq, Nat.reduceBNe, reduceCtorEq, Int.reduceEq, Int.reduceNe, Int.reduceLT, Int.reduceLE, Int.reduceToNat, Int.reduceNeg, Int.reduceAdd, Int.reduceSub, Int.reduceMul, Int.reducePow, Nat.reducePow, Int.reduceBEq, hnl]
        rw [← hi2, he]

end Go.Proofs.YtimlhgpjmjmjhaaW.AI.B
