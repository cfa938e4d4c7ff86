import Derived.Test.YtcpiohklljppaaaAIDspan
namespace Go.Proofs.YtcpiohklljppaaaW.AI.D
open Go Go.Proofs.YtcpiohklljppaaaW.AI
set_option maxRecDepth 100000
set_option linter.unusedSimpArgs false
set_option linter.unusedVariables false
set_option linter.unusedSectionVars false

def okT (t : Int) : Bool := decide (0 ≤ t ∧ t ≤ 4611686018427387904)
theorem bro_id {t : Int} (h : 0 ≤ t) (h' : t ≤ 4611686018427387904) : bro t = t := by unfold bro clamp; rw [if_neg (by omega), if_neg (by omega)]
theorem bro_ne {t : Int} (h : ¬ (0 ≤ t ∧ t ≤ 4611686018427387904)) : ¬ t = bro t := by unfold bro clamp; split <;> (try split) <;> omega
theorem bro_sat (t : Int) : bro (sat t) = bro t := by unfold bro sat clamp; split <;> (try split) <;> split <;> (try split) <;> omega
theorem span_times {h : AHeap} {q : Nat} {l : List Int} (hg : Good h) (hq : h[q]? = some ⟨.tip false, .ints .i64 l⟩) (hl : l.length < 1000) : W CP 45 [.sl q 0 l.length l.length] h = some (.bool (l.all okT), h, []) := by
  have hql := (List.getElem?_eq_some_iff.1 hq).1
  refine W_quietP (m := M45) rfl rfl (by simp [AV.lts, AV.lt]) rfl rfl hg ?_
  simp (maxDischargeDepth := 9) -implicitDefEqProofs only [push_cast, reduceIte, Nat.reduceEqDiff, Nat.reduceAdd, Nat.reduceSub, Nat.reduceMul, Nat.reduceDiv, Nat.reduceMod, Nat.reduceLT, Nat.reduceLeDiff, Nat.reduceBEq, Nat.reduceBNe, reduceCtorEq, Int.reduceEq, Int.reduceNe, Int.reduceLT, Int.reduceLE, Int.reduceToNat, Int.reduceNeg, Int.reduceAdd, Int.reduceSub, Int.reduceMul, Int.reducePow, Nat.reducePow, Int.reduceBEq, M45]
  refine wp_kRes (wp_kSeq (wp_kBlock ?_))
  refine wp_loop (fun k a h' ws => ∃ i : Nat, k = l.length - i ∧ i ≤ l.length ∧ (l.take i).all okT = true ∧ a = [(5, .sl q 0 l.length l.length), (6, .int .i64 (l.length : Int)), (7, .int .i64 (i : Int))] ∧ h' = h ∧ ws = []) l.length ?_ ?_
  · refine ⟨0, by omega, by omega, rfl, ?_, rfl, rfl⟩
    simp (maxDischargeDepth := 9) -implicitDefEqProofs only [push_cast, reduceIte, Nat.reduceEqDiff, Nat.reduceAdd, Nat.reduceSub, Nat.reduceMul, Nat.reduceDiv, Nat.reduceMod, Nat.reduceLT, Nat.reduceLeDiff, Nat.reduceBEq, Nat.reduceBNe, reduceCtorEq, Int.reduceEq, Int.reduceNe, Int.reduceLT, Int.reduceLE, Int.reduceToNat, Int.reduceNeg, Int.reduceAdd, Int.reduceSub, Int.reduceMul, Int.reducePow, Nat.reducePow, Int.reduceBEq]; try rfl
  · rintro k aa h' ws ⟨i, rfl, hi, hall, rfl, rfl, rfl⟩
    have v1 : IntKind.i64.wrap ((i : Int) + 1) = (i : Int) + 1 := wr_i64 _ (by omega) (by omega)
    by_cases hlt : i < l.length
    · have hlt' : (i : Int) < (l.length : Int) := by omega
      obtain ⟨x, hx⟩ : ∃ x, l[i]? = some x := ⟨_, List.getElem?_eq_getElem hlt⟩
      have eb := fun g => span_brought (t := x) g
      have htk : l.take (i + 1) = l.take i ++ [x] := by rw [List.take_add_one, hx]; rfl
      by_cases hok : 0 ≤ x ∧ x ≤ 4611686018427387904
      · rw [bro_id hok.1 hok.2] at eb
        simp (maxDischargeDepth := 9) -implicitDefEqProofs only [push_cast, reduceIte, Nat.reduceEqDiff, Nat.reduceAdd, Nat.reduceSub, Nat.reduceMul, Nat.reduceDiv, Nat.reduceMod, Nat.reduceLT, Nat.reduceLeDiff, Nat.reduceBEq, Nat.reduceBNe, reduceCtorEq, Int.reduceEq, Int.reduceNe, Int.reduceLT, Int.reduceLE, Int.reduceToNat, Int.reduceNeg, Int.reduceAdd, Int.reduceSub, Int.reduceMul, Int.reducePow, Nat.reducePow, Int.reduceBEq, hlt, hlt', v1, hq, hx, eb]
        refine loop_next (l.length - (i + 1)) (by omega) ⟨i + 1, rfl, by omega, ?_, ?_, rfl, rfl⟩
        · rw [htk, List.all_append, hall]
          simp [okT, hok.1, hok.2]
        · simp (maxDischargeDepth := 9) -implicitDefEqProofs only [push_cast, reduceIte, Nat.reduceEqDiff, Nat.reduceAdd, Nat.reduceSub, Nat.reduceMul, Nat.reduceDiv, Nat.reduceMod, Nat.reduceLT, Nat.reduceLeDiff, Nat.reduceBEq, Nat.reduceBNe, reduceCtorEq, Int.reduceEq, Int.reduceNe, Int.reduceLT, Int.reduceLE, Int.reduceToNat, Int.reduceNeg, Int.reduceAdd, Int.reduceSub, Int.reduceMul, Int.reducePow, Nat.reducePow, Int.reduceBEq]; try simp
      · have hne := bro_ne hok
        have hf : l.all okT = false := by
          rw [← Bool.not_eq_true, List.all_eq_true]
          intro hh
          have := hh x (List.mem_of_getElem? hx)
          simp only [okT, decide_eq_true_eq] at this
          exact hok this
        rw [hf]
        obtain ⟨y, hy⟩ : ∃ y, bro x = y := ⟨_, rfl⟩
        rw [hy] at eb hne
        simp (maxDischargeDepth := 9) -implicitDefEqProofs only [push_cast, reduceIte, Nat.reduceEqDiff, Nat.reduceAdd, Nat.reduceSub, Nat.reduceMul, Nat.reduceDiv, Nat.reduceMod, Nat.reduceLT, Nat.reduceLeDiff, Nat.reduceBEq, Nat.reduceBNe, reduceCtorEq, Int.reduceEq, Int.reduceNe, Int.reduceLT, Int.reduceLE, Int.reduceToNat, Int.reduceNeg, Int.reduceAdd, Int.reduceSub, Int.reduceMul, Int.reducePow, Nat.reducePow, Int.reduceBEq, hlt, hlt', v1, hq, hx, eb, hne]
        exact quiet_0
    · have hi2 : i = l.length := by omega
      subst hi2
      rw [List.take_length] at hall
      have hnl : ¬ (l.length : Int) < (l.length : Int) := by omega
      simp (maxDischargeDepth := 9) -implicitDefEqProofs only [push_cast, reduceIte, Nat.reduceEqDiff, Nat.reduceAdd, Nat.reduceSub, Nat.reduceMul, Nat.reduceDiv, Nat.reduceMod, Nat.reduceLT, Nat.reduceLeDiff, Nat.reduceBEq, Nat.reduceBNe, reduceCtorEq, Int.reduceEq, Int.reduceNe, Int.reduceLT, Int.reduceLE, Int.reduceToNat, Int.reduceNeg, Int.reduceAdd, Int.reduceSub, Int.reduceMul, Int.reducePow, Nat.reducePow, Int.reduceBEq, hall]
      exact quiet_0
/-- May a span be? -/
def mayS (a l u : Int) : Bool := okT a && okT l && okT u && decide (l ≤ u)
theorem span_May {a l u : Int} (h : AHeap) : W CP 28 [.agg [.int .i64 a, .int .i64 l, .int .i64 u]] h = some (.bool (mayS a l u), h, []) := by
  have et := span_times (h := CP.gl ++ [⟨.tip false, .ints .i64 [a, l, u]⟩, ⟨.tip false, .ints .i64 [a, l, u]⟩]) (q := CP.gl.length + 1) (l := [a, l, u]) (by rfl) (by rfl) (by simp)
  simp only [List.length_cons, List.length_nil, Nat.reduceAdd] at et
  have e3 : ([a, l, u].all okT) = (okT a && okT l && okT u) := by simp [Bool.and_assoc]
  rw [e3] at et
  refine W_val (m := M28) (fun _ => rfl) rfl rfl rfl ?_ h
  unfold mayS
  cases hb : (okT a && okT l && okT u) with
  | false =>
    rw [hb] at et
    simp (maxDischargeDepth := 9) -implicitDefEqProofs only [push_cast, reduceIte, Nat.reduceEqDiff, Nat.reduceAdd, Nat.reduceSub, Nat.reduceMul, Nat.reduceDiv, Nat.reduceMod, Nat.reduceLT, Nat.reduceLeDiff, Nat.reduceBEq, Nat.reduceBNe, reduceCtorEq, Int.reduceEq, Int.reduceNe, Int.reduceLT, Int.reduceLE, Int.reduceToNat, Int.reduceNeg, Int.reduceAdd, Int.reduceSub, Int.reduceMul, Int.reducePow, Nat.reducePow, Int.reduceBEq, M28, et]
  | true =>
    rw [hb] at et
    simp (maxDischargeDepth := 9) -implicitDefEqProofs only [push_cast, reduceIte, Nat.reduceEqDiff, Nat.reduceAdd, Nat.reduceSub, Nat.reduceMul, Nat.reduceDiv, Nat.reduceMod, Nat.reduceLT, Nat.reduceLeDiff, Nat.reduceBEq, Nat.reduceBNe, reduceCtorEq, Int.reduceEq, Int.reduceNe, Int.reduceLT, Int.reduceLE, Int.reduceToNat, Int.reduceNeg, Int.reduceAdd, Int.reduceSub, Int.reduceMul, Int.reducePow, Nat.reducePow, Int.reduceBEq, M28, et]
theorem mayS_iff {a l u : Int} : mayS a l u = true ↔ (0 ≤ a ∧ a ≤ 4611686018427387904) ∧ (0 ≤ l ∧ l ≤ u ∧ u ≤ 4611686018427387904) := by
  unfold mayS okT
  simp only [Bool.and_eq_true, decide_eq_true_eq]
  omega
def widS (a l u : Int) : Int := if mayS a l u then u - l else 0
def midS (a l u : Int) : Int := if mayS a l u then l + (u - l) / 2 else 0
def hasS (a l u t : Int) : Bool := mayS a l u && decide (l ≤ t) && decide (t ≤ u)
theorem span_Width {a l u : Int} (h : AHeap) : W CP 24 [.agg [.int .i64 a, .int .i64 l, .int .i64 u]] h = some (.int .i64 (widS a l u), h, []) := by
  have em := fun g => span_May (a := a) (l := l) (u := u) g
  refine W_val (m := M24) (fun _ => rfl) rfl rfl rfl ?_ h
  unfold widS
  cases hb : mayS a l u with
  | false =>
    rw [hb] at em
    simp (maxDischargeDepth := 9) -implicitDefEqProofs only [push_cast, reduceIte, Nat.reduceEqDiff, Nat.reduceAdd, Nat.reduceSub, Nat.reduceMul, Nat.reduceDiv, Nat.reduceMod, Nat.reduceLT, Nat.reduceLeDiff, Nat.reduceBEq, Nat.reduceBNe, reduceCtorEq, Int.reduceEq, Int.reduceNe, Int.reduceLT, Int.reduceLE, Int.reduceToNat, Int.reduceNeg, Int.reduceAdd, Int.reduceSub, Int.reduceMul, Int.reducePow, Nat.reducePow, Int.reduceBEq, M24, em]
  | true =>
    rw [hb] at em
    have := mayS_iff.1 hb
    have w1 : IntKind.i64.wrap (u - l) = u - l := wr_i64 _ (by omega) (by omega)
    simp (maxDischargeDepth := 9) -implicitDefEqProofs only [push_cast, reduceIte, Nat.reduceEqDiff, Nat.reduceAdd, Nat.reduceSub, Nat.reduceMul, Nat.reduceDiv, Nat.reduceMod, Nat.reduceLT, Nat.reduceLeDiff, Nat.reduceBEq, Nat.reduceBNe, reduceCtorEq, Int.reduceEq, Int.reduceNe, Int.reduceLT, Int.reduceLE, Int.reduceToNat, Int.reduceNeg, Int.reduceAdd, Int.reduceSub, Int.reduceMul, Int.reducePow, Nat.reducePow, Int.reduceBEq, M24, em, w1]
theorem span_Mid {a l u : Int} (h : AHeap) : W CP 31 [.agg [.int .i64 a, .int .i64 l, .int .i64 u]] h = some (.int .i64 (midS a l u), h, []) := by
  have em := fun g => span_May (a := a) (l := l) (u := u) g
  have ew := fun g => span_Width (a := a) (l := l) (u := u) g
  refine W_val (m := M31) (fun _ => rfl) rfl rfl rfl ?_ h
  unfold midS
  unfold widS at ew
  cases hb : mayS a l u with
  | false =>
    rw [hb] at em
    simp (maxDischargeDepth := 9) -implicitDefEqProofs only [push_cast, reduceIte, Nat.reduceEqDiff, Nat.reduceAdd, Nat.reduceSub, Nat.reduceMul, Nat.reduceDiv, Nat.reduceMod, Nat.reduceLT, Nat.reduceLeDiff, Nat.reduceBEq, Nat.reduceBNe, reduceCtorEq, Int.reduceEq, Int.reduceNe, Int.reduceLT, Int.reduceLE, Int.reduceToNat, Int.reduceNeg, Int.reduceAdd, Int.reduceSub, Int.reduceMul, Int.reducePow, Nat.reducePow, Int.reduceBEq, M31, em]
  | true =>
    rw [hb] at em ew
    rw [if_pos rfl] at ew
    have := mayS_iff.1 hb
    have w1 : IntKind.i64.wrap ((u - l).tdiv 2) = (u - l) / 2 := by rw [Int.tdiv_eq_ediv_of_nonneg (by omega)]; exact wr_i64 _ (by omega) (by omega)
    have w2 : IntKind.i64.wrap (l + (u - l) / 2) = l + (u - l) / 2 := wr_i64 _ (by omega) (by omega)
    have hlen : CP.gl.length = 2 := rfl
    simp (maxDischargeDepth := 9) -implicitDefEqProofs only [push_cast, reduceIte, Nat.reduceEqDiff, Nat.reduceAdd, Nat.reduceSub, Nat.reduceMul, Nat.reduceDiv, Nat.reduceMod, Nat.reduceLT, Nat.reduceLeDiff, Nat.reduceBEq, Nat.reduceBNe, reduceCtorEq, Int.reduceEq, Int.reduceNe, Int.reduceLT, Int.reduceLE, Int.reduceToNat, Int.reduceNeg, Int.reduceAdd, Int.reduceSub, Int.reduceMul, Int.reducePow, Nat.reducePow, Int.reduceBEq, M31, em, ew, w1, w2]
theorem span_Has {a l u t : Int} (h : AHeap) : W CP 29 [.agg [.int .i64 a, .int .i64 l, .int .i64 u], .int .i64 t] h = some (.bool (hasS a l u t), h, []) := by
  have em := fun g => span_May (a := a) (l := l) (u := u) g
  refine W_val (m := M29) (fun _ => rfl) rfl rfl rfl ?_ h
  unfold hasS
  cases hb : mayS a l u with
  | false =>
    rw [hb] at em
    simp (maxDischargeDepth := 9) -implicitDefEqProofs only [push_cast, reduceIte, Nat.reduceEqDiff, Nat.reduceAdd, Nat.reduceSub, Nat.reduceMul, Nat.reduceDiv, Nat.reduceMod, Nat.reduceLT, Nat.reduceLeDiff, Nat.reduceBEq, Nat.reduceBNe, reduceCtorEq, Int.reduceEq, Int.reduceNe, Int.reduceLT, Int.reduceLE, Int.reduceToNat, Int.reduceNeg, Int.reduceAdd, Int.reduceSub, Int.reduceMul, Int.reducePow, Nat.reducePow, Int.reduceBEq, M29, em]
  | true =>
    rw [hb] at em
    by_cases c1 : l ≤ t
    · simp (maxDischargeDepth := 9) -implicitDefEqProofs only [push_cast, reduceIte, Nat.reduceEqDiff, Nat.reduceAdd, Nat.reduceSub, Nat.reduceMul, Nat.reduceDiv, Nat.reduceMod, Nat.reduceLT, Nat.reduceLeDiff, Nat.reduceBEq, Nat.reduceBNe, reduceCtorEq, Int.reduceEq, Int.reduceNe, Int.reduceLT, Int.reduceLE, Int.reduceToNat, Int.reduceNeg, Int.reduceAdd, Int.reduceSub, Int.reduceMul, Int.reducePow, Nat.reducePow, Int.reduceBEq, M29, em, c1]
    · simp (maxDischargeDepth := 9) -implicitDefEqProofs only [push_cast, reduceIte, Nat.reduceEqDiff, Nat.reduceAdd, Nat.reduceSub, Nat.reduceMul, Nat.reduceDiv, Nat.reduceMod, Nat.reduceLT, Nat.reduceLeDiff, Nat.reduceBEq, Nat.reduceBNe, reduceCtorEq, Int.reduceEq, Int.reduceNe, Int.reduceLT, Int.reduceLE, Int.reduceToNat, Int.reduceNeg, Int.reduceAdd, Int.reduceSub, Int.reduceMul, Int.reducePow, Nat.reducePow, Int.reduceBEq, M29, em, c1]
end Go.Proofs.YtcpiohklljppaaaW.AI.D
