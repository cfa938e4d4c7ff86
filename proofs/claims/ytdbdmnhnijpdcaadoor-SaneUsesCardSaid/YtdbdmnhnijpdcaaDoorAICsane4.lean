import Derived.Test.YtdbdmnhnijpdcaaDoorAICsane3
import Derived.Test.YtdbdmnhnijpdcaaDoorAIStr
namespace Go.Proofs.YtdbdmnhnijpdcaaDoorW.AI.C
open Go Go.Proofs.YtdbdmnhnijpdcaaDoorW.AI
set_option maxRecDepth 100000
set_option linter.unusedVariables false
set_option linter.unusedSimpArgs false
theorem trimByte_c (l : List UInt8) (hl : l.length < 1000000) (h : AHeap) : W CS 83 [.str (sb l), .int .u8 0] h = some (.str (sb (trimz l)), h, []) := by
  refine W_val (m := M83) (fun _ => rfl) rfl rfl rfl ?_ h
  simp (maxDischargeDepth := 9) -implicitDefEqProofs only [push_cast, reduceIte, Nat.reduceEqDiff, Nat.reduceAdd, Nat.reduceSub, Nat.reduceMul, Nat.reduceDiv, Nat.reduceMod, Nat.reduceLT, Nat.reduceLeDiff, Nat.reduceBEq, Nat.reduceBNe, reduceCtorEq, Int.reduceEq, Int.reduceNe, Int.reduceLT, Int.reduceLE, Int.reduceToNat, Int.reduceNeg, Int.reduceAdd, Int.reduceSub, Int.reduceMul, Int.reducePow, Nat.reducePow, Int.reduceBEq, M83]
  refine wp_kRes (wp_kSeq (wp_kBlock ?_))
  refine wp_loop (fun k a h' ws => ∃ m : List UInt8, k = m.length ∧ m.length ≤ l.length ∧ trimz m = trimz l ∧ a = [(0, .str (sb m)), (1, .int .u8 0)] ∧ h' = CS.gl ∧ ws = []) l.length ?_ ?_
  · refine ⟨l, rfl, Nat.le_refl _, rfl, ?_, rfl, rfl⟩
    simp (maxDischargeDepth := 9) -implicitDefEqProofs only [push_cast, reduceIte, Nat.reduceEqDiff, Nat.reduceAdd, Nat.reduceSub, Nat.reduceMul, Nat.reduceDiv, Nat.reduceMod, Nat.reduceLT, Nat.reduceLeDiff, Nat.reduceBEq, Nat.reduceBNe, reduceCtorEq, Int.reduceEq, Int.reduceNe, Int.reduceLT, Int.reduceLE, Int.reduceToNat, Int.reduceNeg, Int.reduceAdd, Int.reduceSub, Int.reduceMul, Int.reducePow, Nat.reducePow, Int.reduceBEq]; try rfl
  · rintro k aa h' ws ⟨m, rfl, hm, ht, rfl, rfl, rfl⟩
    rcases List.eq_nil_or_concat m with rfl | ⟨n, x, rfl⟩
    · simp (maxDischargeDepth := 9) -implicitDefEqProofs only [push_cast, reduceIte, Nat.reduceEqDiff, Nat.reduceAdd, Nat.reduceSub, Nat.reduceMul, Nat.reduceDiv, Nat.reduceMod, Nat.reduceLT, Nat.reduceLeDiff, Nat.reduceBEq, Nat.reduceBNe, reduceCtorEq, Int.reduceEq, Int.reduceNe, Int.reduceLT, Int.reduceLE, Int.reduceToNat, Int.reduceNeg, Int.reduceAdd, Int.reduceSub, Int.reduceMul, Int.reducePow, Nat.reducePow, Int.reduceBEq, sb_size, List.length_nil]
      rw [← ht, trimz_nil]
    · simp only [List.concat_eq_append] at *
      obtain ⟨q, hq⟩ : ∃ q, n.length = q := ⟨_, rfl⟩
      have hs : (sb (n ++ [x])).size = q + 1 := by rw [sb_size]; simp [hq]
      have hc : (((q + 1 : Nat)) : Int) = (q : Int) + 1 := by omega
      have hlt : q < 1000000 := by simp only [List.length_append, List.length_cons, List.length_nil] at hm; omega
      have w1 : IntKind.i64.wrap ((q : Int) + 1 - 1) = (q : Int) := by rw [wr_i64 _ (by omega) (by omega)]; omega
      have g0 : (0 : Int) < (q : Int) + 1 := by omega
      have hx : (n ++ [x])[q]? = some x := by rw [List.getElem?_append_right (by omega)]; simp [hq]
      have he : (n ++ [x]).take q = n := by rw [List.take_append_of_le_length (by omega), ← hq, List.take_length]
      have hle : q ≤ q + 1 := by omega
      by_cases hz : x = 0
      · subst hz
        have z : (((0 : UInt8).toNat : Nat) : Int) = 0 := rfl
        simp (maxDischargeDepth := 9) -implicitDefEqProofs only [push_cast, reduceIte, Nat.reduceEqDiff, Nat.reduceAdd, Nat.reduceSub, Nat.reduceMul, Nat.reduceDiv, Nat.reduceMod, Nat.reduceLT, Nat.reduceLeDiff, Nat.reduceBEq, Nat.reduceBNe, reduceCtorEq, Int.reduceEq, Int.reduceNe, Int.reduceLT, Int.reduceLE, Int.reduceToNat, Int.reduceNeg, Int.reduceAdd, Int.reduceSub, Int.reduceMul, Int.reducePow, Nat.reducePow, Int.reduceBEq, sb_list, sb_extract, hs, g0, w1, hx, z, he, hle]
        refine loop_next q (by simp [hq]) ⟨n, hq.symm, by simp only [List.length_append, List.length_cons, List.length_nil] at hm; omega, by rw [← ht, trimz_zero], ?_, rfl, rfl⟩
        simp (maxDischargeDepth := 9) -implicitDefEqProofs only [push_cast, reduceIte, Nat.reduceEqDiff, Nat.reduceAdd, Nat.reduceSub, Nat.reduceMul, Nat.reduceDiv, Nat.reduceMod, Nat.reduceLT, Nat.reduceLeDiff, Nat.reduceBEq, Nat.reduceBNe, reduceCtorEq, Int.reduceEq, Int.reduceNe, Int.reduceLT, Int.reduceLE, Int.reduceToNat, Int.reduceNeg, Int.reduceAdd, Int.reduceSub, Int.reduceMul, Int.reducePow, Nat.reducePow, Int.reduceBEq]; try rfl
      · have z : ¬ ((x.toNat : Nat) : Int) = 0 := fun e => hz (u8_zero.1 e)
        simp (maxDischargeDepth := 9) -implicitDefEqProofs only [push_cast, reduceIte, Nat.reduceEqDiff, Nat.reduceAdd, Nat.reduceSub, Nat.reduceMul, Nat.reduceDiv, Nat.reduceMod, Nat.reduceLT, Nat.reduceLeDiff, Nat.reduceBEq, Nat.reduceBNe, reduceCtorEq, Int.reduceEq, Int.reduceNe, Int.reduceLT, Int.reduceLE, Int.reduceToNat, Int.reduceNeg, Int.reduceAdd, Int.reduceSub, Int.reduceMul, Int.reducePow, Nat.reducePow, Int.reduceBEq, sb_list, sb_extract, hs, g0, w1, hx, z]
        rw [← ht, trimz_snoc _ hz]
theorem sb_zero : (⟨#[0]⟩ : ByteArray) = sb [0] := rfl
theorem sb_none : (⟨#[]⟩ : ByteArray) = sb [] := rfl
theorem list_beq (a b : List UInt8) : (a == b) = decide (a = b) := by
  rw [Bool.eq_iff_iff]; simp
theorem trimRight_c (l : List UInt8) (hl : l.length < 1000000) (h : AHeap) : W CS 52 [.str (sb l), .str (sb [0])] h = some (.str (sb (trimz l)), h, []) := by
  have e := fun h => trimByte_c l hl h
  refine W_val (m := M52) (fun _ => rfl) rfl rfl rfl ?_ h
  have z : (((0 : UInt8).toNat : Nat) : Int) = 0 := rfl
  by_cases hn : l = []
  · subst hn
    simp (maxDischargeDepth := 9) -implicitDefEqProofs only [push_cast, reduceIte, Nat.reduceEqDiff, Nat.reduceAdd, Nat.reduceSub, Nat.reduceMul, Nat.reduceDiv, Nat.reduceMod, Nat.reduceLT, Nat.reduceLeDiff, Nat.reduceBEq, Nat.reduceBNe, reduceCtorEq, Int.reduceEq, Int.reduceNe, Int.reduceLT, Int.reduceLE, Int.reduceToNat, Int.reduceNeg, Int.reduceAdd, Int.reduceSub, Int.reduceMul, Int.reducePow, Nat.reducePow, Int.reduceBEq, M52, sb_none, sb_toList, list_beq, decide_true, decide_false, List.length_cons, List.length_nil, sb_size, sb_list, List.getElem?_cons_zero, z]
    rw [trimz_nil]
  · simp (maxDischargeDepth := 9) -implicitDefEqProofs only [push_cast, reduceIte, Nat.reduceEqDiff, Nat.reduceAdd, Nat.reduceSub, Nat.reduceMul, Nat.reduceDiv, Nat.reduceMod, Nat.reduceLT, Nat.reduceLeDiff, Nat.reduceBEq, Nat.reduceBNe, reduceCtorEq, Int.reduceEq, Int.reduceNe, Int.reduceLT, Int.reduceLE, Int.reduceToNat, Int.reduceNeg, Int.reduceAdd, Int.reduceSub, Int.reduceMul, Int.reducePow, Nat.reducePow, Int.reduceBEq, M52, sb_none, sb_toList, list_beq, hn, decide_true, decide_false, reduceCtorEq, List.length_cons, List.length_nil, sb_size, sb_list, List.getElem?_cons_zero, z, e]
/-- The code of a kiss. -/
def by8 (n : Int) : UInt8 := UInt8.ofNat n.toNat
def codeL (p : Int) : List UInt8 := [by8 (p / 16777216), by8 (p / 65536 % 256), by8 (p / 256 % 256), by8 (p % 256)]
def codeV (p : Int) : List UInt8 := trimz (codeL p)
theorem codeV_len (p : Int) : (codeV p).length ≤ 4 := trimz_len _
theorem kiss_c {p0 p1 p2 p3 p4 p5 p6 p7 p8 p9 p10 p11 p12 p15 p16 : Int} {x : AV} {s : Bool} (hx : x.isCell = true) (a0 : 0 ≤ p8) (a1 : p8 < 4294967296) {h : AHeap} (hg : Good h) :
    W CS 20 [.agg [.int .u8 p0, .int .u8 p1, .int .u8 p2, .int .u8 p3, .int .i8 p4, .int .i8 p5, .int .u32 p6, .int .u32 p7, .int .u32 p8, .int .u64 p9, .int .u64 p10, .int .u64 p11, .int .u64 p12, x, .bool s, .int .u32 p15, .int .u64 p16]] h = some (if p3 = 0 then .tup [.str (sb (codeV p8)), .bool true] else .tup [.str (sb []), .bool false], h, []) := by
  have e := fun h => trimRight_c (codeL p8) (by unfold codeL; simp) h
  unfold codeL at e
  have d1 : p8.fdiv (2 ^ 24) = p8 / 16777216 := by rw [Int.fdiv_eq_ediv_of_nonneg _ (by decide)]; rfl
  have d2 : p8.fdiv (2 ^ 16) = p8 / 65536 := by rw [Int.fdiv_eq_ediv_of_nonneg _ (by decide)]; rfl
  have d3 : p8.fdiv (2 ^ 8) = p8 / 256 := by rw [Int.fdiv_eq_ediv_of_nonneg _ (by decide)]; rfl
  have d1' : p8.fdiv 16777216 = p8 / 16777216 := d1
  have d2' : p8.fdiv 65536 = p8 / 65536 := d2
  have d3' : p8.fdiv 256 = p8 / 256 := d3
  obtain ⟨A, hA⟩ : ∃ A, p8 / 16777216 = A := ⟨_, rfl⟩
  obtain ⟨B, hB⟩ : ∃ A, p8 / 65536 = A := ⟨_, rfl⟩
  obtain ⟨C, hC⟩ : ∃ A, p8 / 256 = A := ⟨_, rfl⟩
  obtain ⟨B', hB'⟩ : ∃ A, B % 256 = A := ⟨_, rfl⟩
  obtain ⟨C', hC'⟩ : ∃ A, C % 256 = A := ⟨_, rfl⟩
  obtain ⟨D', hD'⟩ : ∃ A, p8 % 256 = A := ⟨_, rfl⟩
  have x1 : IntKind.u32.wrap A = A := wr_u32 _ (by omega) (by omega)
  have x2 : IntKind.u32.wrap B = B := wr_u32 _ (by omega) (by omega)
  have x3 : IntKind.u32.wrap C = C := wr_u32 _ (by omega) (by omega)
  have y1 : IntKind.u8.wrap A = A := wr_u8 _ (by omega) (by omega)
  have y2 : IntKind.u8.wrap B = B' := hB'
  have y3 : IntKind.u8.wrap C = C' := hC'
  have y4 : IntKind.u8.wrap p8 = D' := hD'
  rw [hA, hB, hC, hB', hC', hD'] at e
  have b4 : bytesOf (.ints .u8 [A, B', C', D']) = some (sb [by8 A, by8 B', by8 C', by8 D']) := rfl
  have hcv : codeV p8 = trimz [by8 A, by8 B', by8 C', by8 D'] := by unfold codeV codeL; rw [hA, hB, hC, hB', hC', hD']
  rw [hcv]
  refine W_both (m := M20) (fun _ => True) (fun _ => rfl) rfl rfl (by split <;> rfl) good_glS trivial (fun g hg _ => ?_) hg trivial
  have hs : ∀ a : ABlk, sliceCells (g ++ [a, ⟨.tip false, .ints .u8 [A, B', C', D']⟩]) 1 (.sl (g.length + 1) 0 4 4) = some (.ints .u8 [A, B', C', D']) := by
    intro a
    have hq : (g ++ [a, ⟨.tip false, .ints .u8 [A, B', C', D']⟩])[g.length + 1]? = some ⟨.tip false, .ints .u8 [A, B', C', D']⟩ := by rw [List.getElem?_append_right (by omega)]; simp
    simp [sliceCells, cellsAt, hq, ACells.len, ACells.sub]
  by_cases c : p3 = 0
  · subst c
    rw [if_pos rfl]
    simp (maxDischargeDepth := 9) -implicitDefEqProofs only [push_cast, reduceIte, Nat.reduceEqDiff, Nat.reduceAdd, Nat.reduceSub, Nat.reduceMul, Nat.reduceDiv, Nat.reduceMod, Nat.reduceLT, Nat.reduceLeDiff, Nat.reduceBEq, Nat.reduceBNe, reduceCtorEq, Int.reduceEq, Int.reduceNe, Int.reduceLT, Int.reduceLE, Int.reduceToNat, Int.reduceNeg, Int.reduceAdd, Int.reduceSub, Int.reduceMul, Int.reducePow, Nat.reducePow, Int.reduceBEq, M20, nadd1, nadd2, nadd3, nadd4, nadd5, nadd6, nadd7, nadd8, nadd9, nadd10, nadd11, nadd12, hx, d1, d2, d3, d1', d2', d3', hA, hB, hC, x1, x2, x3, y1, y2, y3, y4, b4, hs, sb_zero, sb_none, e]
    exact quiet_i
  · rw [if_neg c]
    simp (maxDischargeDepth := 9) -implicitDefEqProofs only [push_cast, reduceIte, Nat.reduceEqDiff, Nat.reduceAdd, Nat.reduceSub, Nat.reduceMul, Nat.reduceDiv, Nat.reduceMod, Nat.reduceLT, Nat.reduceLeDiff, Nat.reduceBEq, Nat.reduceBNe, reduceCtorEq, Int.reduceEq, Int.reduceNe, Int.reduceLT, Int.reduceLE, Int.reduceToNat, Int.reduceNeg, Int.reduceAdd, Int.reduceSub, Int.reduceMul, Int.reducePow, Nat.reducePow, Int.reduceBEq, M20, hx, c, sb_none]
    exact quiet_i
end Go.Proofs.YtdbdmnhnijpdcaaDoorW.AI.C
