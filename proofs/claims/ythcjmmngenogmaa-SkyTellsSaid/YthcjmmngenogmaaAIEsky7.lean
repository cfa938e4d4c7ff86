import Derived.Test.YthcjmmngenogmaaAIEskyl1
import Derived.Test.YthcjmmngenogmaaAIErul
namespace Go.Proofs.YthcjmmngenogmaaW.AI.E
open Go Go.Proofs.YthcjmmngenogmaaW.AI
set_option maxRecDepth 100000
set_option linter.unusedSimpArgs false
set_option linter.unusedVariables false
set_option linter.unusedSectionVars false
/-- The worst pace. -/
def wst : List (Int × Int) → Int
  | P => P.foldl (fun w p => if w < (p.2.natAbs : Int) then (p.2.natAbs : Int) else w) 0
theorem wst_snoc (P : List (Int × Int)) (p : Int × Int) : wst (P ++ [p]) = if wst P < (p.2.natAbs : Int) then (p.2.natAbs : Int) else wst P := by unfold wst; rw [List.foldl_append]; rfl
theorem wst_from : ∀ (P : List (Int × Int)) (w : Int), 0 ≤ w → w ≤ 500000 → (∀ p ∈ P, -500000 ≤ p.2 ∧ p.2 ≤ 500000) → w ≤ P.foldl (fun w p => if w < (p.2.natAbs : Int) then (p.2.natAbs : Int) else w) w ∧ P.foldl (fun w p => if w < (p.2.natAbs : Int) then (p.2.natAbs : Int) else w) w ≤ 500000 ∧
    ∀ p ∈ P, -P.foldl (fun w p => if w < (p.2.natAbs : Int) then (p.2.natAbs : Int) else w) w ≤ p.2 ∧ p.2 ≤ P.foldl (fun w p => if w < (p.2.natAbs : Int) then (p.2.natAbs : Int) else w) w
  | [], w, h0, h1, _ => ⟨Int.le_refl _, h1, by simp⟩
  | p :: P, w, h0, h1, h => by
    have hp := h p List.mem_cons_self
    obtain ⟨v, hv, v0, v1, v2⟩ : ∃ v, (if w < (p.2.natAbs : Int) then (p.2.natAbs : Int) else w) = v ∧ w ≤ v ∧ v ≤ 500000 ∧ (p.2.natAbs : Int) ≤ v := ⟨_, rfl, by split <;> omega, by split <;> omega, by split <;> omega⟩
    obtain ⟨i1, i2, i3⟩ := wst_from P v (by omega) v1 fun q hq => h q (List.mem_cons_of_mem _ hq)
    rw [List.foldl_cons, hv]
    refine ⟨by omega, i2, fun q hq => ?_⟩
    rcases List.mem_cons.1 hq with rfl | hq
    · omega
    · exact i3 q hq
theorem wst_in {P : List (Int × Int)} (h : ∀ p ∈ P, -500000 ≤ p.2 ∧ p.2 ≤ 500000) : 0 ≤ wst P ∧ wst P ≤ 500000 ∧ ∀ p ∈ P, -wst P ≤ p.2 ∧ p.2 ≤ wst P := wst_from P 0 (by decide) (by decide) h
section
variable {h : AHeap} {p : Nat} {hz mk fs : Int} {P : List (Int × Int)}
theorem worst_c (hg : Good h) (s : SkAt h p hz mk fs P) : W CP 27 [.ptr p 0] h = some (.int .i64 (wst P), h, []) := by
  have eN := none_c hg s
  obtain ⟨q, _, b1, b2⟩ := s.at'
  have l1 := (List.getElem?_eq_some_iff.1 b1).1
  have l2 := (List.getElem?_eq_some_iff.1 b2).1
  have hP := s.ok
  have p64 := hP.le
  obtain ⟨n, hn⟩ : ∃ n, P.length = n := ⟨_, rfl⟩
  rw [hn] at b1 p64
  refine W_quietP (m := M27) rfl rfl (by simp [AV.lts, AV.lt]) rfl rfl hg ?_
  simp (maxDischargeDepth := 9) -implicitDefEqProofs only [push_cast, simprocAttr, M27, eN, b1, l1]
  refine wp_kRes (wp_kSeq (wp_kBlock ?_))
  refine wp_loop (fun k a h' ws => ∃ i : Nat, k = n - i ∧ i ≤ n ∧ a = [(3, .int .i64 (wst (P.take i))), (11, .gsl q 0 n 2 false), (12, .int .i64 (n : Int)), (13, .int .i64 (i : Int))] ∧ Keeps h h' none ∧ ws = []) n ?_ ?_
  · refine ⟨0, by omega, by omega, ?_, Keeps.refl _ _, rfl⟩
    simp (maxDischargeDepth := 9) -implicitDefEqProofs only [push_cast, simprocAttr, List.take_zero]; try rfl
  · rintro k aa h' ws ⟨i, rfl, hi, rfl, kh, rfl⟩
    have v1 : IntKind.i64.wrap ((i : Int) + 1) = (i : Int) + 1 := wr_i64 _ (by omega) (by omega)
    by_cases hlt : i < n
    · have hlt' : (i : Int) < (n : Int) := by omega
      obtain ⟨⟨f, o⟩, hfo⟩ : ∃ z, P[i]? = some z := ⟨_, List.getElem?_eq_getElem (by omega)⟩
      obtain ⟨g1, g2⟩ := flatP_get hfo
      obtain ⟨a1, a2, a3, a4⟩ := hP.rng _ (List.mem_of_getElem? hfo)
      simp only at a1 a2 a3 a4
      have d2 := keepsN kh _ _ b2
      have d2l := (List.getElem?_eq_some_iff.1 d2).1
      have ea := fun h => abs_s a3 a4 h
      obtain ⟨Y, hY⟩ : ∃ Y, h' ++ [ABlk.new (.ints .i64 [0, 0])] = Y := ⟨_, rfl⟩
      have kY : Keeps h' Y none := by rw [← hY]; exact Keeps.app h' [⟨.tip false, .ints .i64 [0, 0]⟩] none rfl
      have bY : Y[h'.length]? = some ⟨.tip false, .ints .i64 [0, 0]⟩ := by rw [← hY]; exact end_getS _ _ _
      have lY := (List.getElem?_eq_some_iff.1 bY).1
      obtain ⟨H1, hH1⟩ : ∃ H, Y.set h'.length ⟨.tip false, .ints .i64 [f, o]⟩ = H := ⟨_, rfl⟩
      have k1 : Keeps h' H1 none := by rw [← hH1]; exact keepsS kY (Nat.le_refl _) rfl
      have e1 : H1[h'.length]? = some ⟨.tip false, .ints .i64 [f, o]⟩ := by rw [← hH1]; exact List.getElem?_set_self lY
      have e1l := (List.getElem?_eq_some_iff.1 e1).1
      have hlo : ¬ h'.length < h.length := by have := kh.2.1; omega
      have htk : wst (P.take (i + 1)) = if wst (P.take i) < (o.natAbs : Int) then (o.natAbs : Int) else wst (P.take i) := by
        rw [List.take_add_one, hfo]
        exact wst_snoc _ _
      obtain ⟨A, hA⟩ : ∃ A, (o.natAbs : Int) = A := ⟨_, rfl⟩
      rw [hA] at ea htk
      obtain ⟨w, hw⟩ : ∃ w, wst (P.take i) = w := ⟨_, rfl⟩
      rw [hw] at htk ⊢
      simp (maxDischargeDepth := 9) -implicitDefEqProofs only [push_cast, simprocAttr, nadd1, nadd2, nadd3, nadd4, nadd5, nadd6, nadd7, nadd8, nadd9, nadd10, nadd11, nadd12, hlt, hlt', v1, d2, d2l, g1, g2, hY, bY, lY, hH1, e1, e1l, ea, hlo]
      refine loop_next (n - (i + 1)) (by omega) ⟨i + 1, rfl, by omega, ?_, keepsT kh k1, rfl⟩
      rw [htk]
      simp (maxDischargeDepth := 9) -implicitDefEqProofs only [push_cast, simprocAttr]; try simp
    · have hi2 : i = n := by omega
      subst hi2
      have hnl : ¬ (i : Int) < (i : Int) := by omega
      rw [List.take_of_length_le (by omega)]
      obtain ⟨js, hj⟩ := kh.behind
      subst hj
      simp (maxDischargeDepth := 9) -implicitDefEqProofs only [push_cast, simprocAttr, nadd1, nadd2, nadd3, nadd4, nadd5, nadd6, nadd7, nadd8, nadd9, nadd10, nadd11, nadd12, hnl]
      exact quiet_i
end
theorem pacN_slopeW {P : List (Int × Int)} (hP : Pcs P) {w : Int} (w1 : w ≤ 500000) (hw : ∀ p ∈ P, -w ≤ p.2 ∧ p.2 ≤ w) {a b : Int} (h : a ≤ b) : ∀ i : Nat, i ≤ P.length → (lenN P b i - lenN P a i) * (1000000000 - w) ≤ pacN P b i - pacN P a i ∧ pacN P b i - pacN P a i ≤ (lenN P b i - lenN P a i) * (1000000000 + w)
  | 0, _ => by simp [lenN, pacN]
  | i + 1, hi => by
    have ih := pacN_slopeW hP w1 hw h i (by omega)
    obtain ⟨⟨f, o⟩, hp⟩ : ∃ p, P[i]? = some p := ⟨_, List.getElem?_eq_getElem (by omega)⟩
    obtain ⟨o1, o2⟩ := hw _ (List.mem_of_getElem? hp)
    simp only at o1 o2
    have hm := lenP_mono P h i
    simp only [lenN, pacN, term_len P _ i hp]
    obtain ⟨x, hx⟩ : ∃ x, lenP P a i = x := ⟨_, rfl⟩
    obtain ⟨y, hy⟩ : ∃ x, lenP P b i = x := ⟨_, rfl⟩
    rw [hx, hy] at hm ⊢
    have e : y * (1000000000 + o) - x * (1000000000 + o) = (y - x) * (1000000000 + o) := by rw [Int.sub_mul]
    have l1 : (y - x) * (1000000000 - w) ≤ (y - x) * (1000000000 + o) := Int.mul_le_mul_of_nonneg_left (by omega) (by omega)
    have l2 : (y - x) * (1000000000 + o) ≤ (y - x) * (1000000000 + w) := Int.mul_le_mul_of_nonneg_left (by omega) (by omega)
    have e1 : (lenN P b i + y - (lenN P a i + x)) * (1000000000 - w) = (lenN P b i - lenN P a i) * (1000000000 - w) + (y - x) * (1000000000 - w) := by rw [← Int.add_mul]; congr 1; omega
    have e2 : (lenN P b i + y - (lenN P a i + x)) * (1000000000 + w) = (lenN P b i - lenN P a i) * (1000000000 + w) + (y - x) * (1000000000 + w) := by rw [← Int.add_mul]; congr 1; omega
    rw [e1, e2]
    omega
theorem pac_slopeW {P : List (Int × Int)} (hP : Pcs P) {a b : Int} (a0 : 0 ≤ a) (h : a ≤ b) : (b - a) * (1000000000 - wst P) ≤ pac P b - pac P a ∧ pac P b - pac P a ≤ (b - a) * (1000000000 + wst P) := by
  obtain ⟨w0, w1, w2⟩ := wst_in (P := P) fun p hp => ⟨(hP.rng p hp).2.2.1, (hP.rng p hp).2.2.2⟩
  have := pacN_slopeW hP w1 w2 h P.length (Nat.le_refl _)
  rw [lenN_at hP a0 _ (Nat.le_refl _), lenN_at hP (by omega) _ (Nat.le_refl _), List.getElem?_eq_none (Nat.le_refl _)] at this
  exact this
/-- Raw time and true time. -/
theorem raw_true {P : List (Int × Int)} {hz a b T : Int} (hP : Pcs P) (z0 : 1 ≤ hz) (a0 : 0 ≤ a) (h : a ≤ b) (b1 : b ≤ 4503599627370496) (hT : 1000000000 ≤ T * hz) :
    pac P b - pac P a ≤ (rawV hz P b - rawV hz P a + T + 1) * 1000000000 ∧ (rawV hz P b - rawV hz P a - T - 1) * 1000000000 ≤ pac P b - pac P a := by
  have p1 := tks_mono (hz := hz) hP z0 a0 h b1
  unfold rawV tks at *
  rw [tm_id a0 (by omega), tm_id (by omega) b1] at *
  obtain ⟨A, hA⟩ : ∃ A, pac P a = A := ⟨_, rfl⟩
  obtain ⟨B, hB⟩ : ∃ A, pac P b = A := ⟨_, rfl⟩
  rw [hA, hB] at *
  obtain ⟨U, hU⟩ : ∃ A, A * hz = A := ⟨0, Int.zero_mul _⟩
  have hz0 : 0 < hz := by omega
  obtain ⟨M, hM⟩ : ∃ N, A * hz / 1000000000000000000 = N := ⟨_, rfl⟩
  obtain ⟨N, hN⟩ : ∃ N, B * hz / 1000000000000000000 = N := ⟨_, rfl⟩
  have m1 : M * 1000000000000000000 ≤ A * hz ∧ A * hz < (M + 1) * 1000000000000000000 := by omega
  have n1 : N * 1000000000000000000 ≤ B * hz ∧ B * hz < (N + 1) * 1000000000000000000 := by omega
  rw [hM, hN]
  have r1 := Int.ediv_mul_le (M * 1000000000) (show hz ≠ 0 by omega)
  have r2 := Int.lt_ediv_add_one_mul_self (M * 1000000000) hz0
  have s1 := Int.ediv_mul_le (N * 1000000000) (show hz ≠ 0 by omega)
  have s2 := Int.lt_ediv_add_one_mul_self (N * 1000000000) hz0
  obtain ⟨x, hx⟩ : ∃ x, M * 1000000000 / hz = x := ⟨_, rfl⟩
  obtain ⟨y, hy⟩ : ∃ x, N * 1000000000 / hz = x := ⟨_, rfl⟩
  rw [hx] at r1 r2
  rw [hy] at s1 s2
  rw [hx, hy]
  rw [Int.add_mul, Int.one_mul] at r2 s2
  have e1 : (B - A) * hz = B * hz - A * hz := Int.sub_mul _ _ _
  have e2 : (y - x + T + 1) * 1000000000 * hz = (y * hz - x * hz + T * hz + hz) * 1000000000 := by
    rw [Int.mul_right_comm]; congr 1; rw [Int.add_mul, Int.add_mul, Int.sub_mul, Int.one_mul]
  have e3 : (y - x - T - 1) * 1000000000 * hz = (y * hz - x * hz - T * hz - hz) * 1000000000 := by
    rw [Int.mul_right_comm]; congr 1; rw [Int.sub_mul, Int.sub_mul, Int.sub_mul, Int.one_mul]
  constructor
  · refine Int.le_of_mul_le_mul_right (a := hz) ?_ hz0
    rw [e1, e2]
    omega
  · refine Int.le_of_mul_le_mul_right (a := hz) ?_ hz0
    rw [e1, e3]
    omega
end Go.Proofs.YthcjmmngenogmaaW.AI.E
