import Derived.Test.YtcpiohklljppaaaAIDcmbh
import Derived.Test.YtcpiohklljppaaaAIDcmb8
namespace Go.Proofs.YtcpiohklljppaaaW.AI.D
open Go Go.Proofs.YtcpiohklljppaaaW.AI
set_option maxRecDepth 100000
set_option linter.unusedSimpArgs false
set_option linter.unusedVariables false
set_option linter.unusedSectionVars false
-- ------------------------------------------------------------------ sums of the first ones
def pre (f : Sp → Int) (L : List Sp) (i : Nat) : Int := ((L.take i).map f).sum
theorem pre_succ {f : Sp → Int} {L : List Sp} {i : Nat} {s : Sp} (h : L[i]? = some s) : pre f L (i + 1) = pre f L i + f s := by
  unfold pre
  rw [List.take_add_one, h]
  simp
theorem pre_in {f : Sp → Int} {L : List Sp} (h : ∀ s ∈ L, 0 ≤ f s) (i : Nat) : 0 ≤ pre f L i ∧ pre f L i ≤ (L.map f).sum := by
  have h1 : 0 ≤ ((L.take i).map f).sum := sum_nn fun s hs => h s (List.mem_of_mem_take hs)
  have h2 : 0 ≤ ((L.drop i).map f).sum := sum_nn fun s hs => h s (List.mem_of_mem_drop hs)
  have h3 : (L.map f).sum = ((L.take i).map f).sum + ((L.drop i).map f).sum := by rw [← List.sum_append, ← List.map_append, List.take_append_drop]
  unfold pre
  omega
theorem pre_full (f : Sp → Int) {L : List Sp} {i : Nat} (h : L.length ≤ i) : pre f L i = (L.map f).sum := by unfold pre; rw [List.take_of_length_le h]
theorem TI.atb {h : AHeap} {v : AV} {L : List Int} {n : Nat} (t : TI .i64 h v L n) {i : Nat} {d : Int} (hd : L[i]? = some d) : ∃ b o c, (∀ g, uia 1 g i (some v) = some (.ptr b i, g, [])) ∧ uld none h (some (.ptr b i)) = some (.int .i64 d, h, []) ∧ h[b]? = some ⟨.tip o, c⟩ ∧ b < h.length := by
  obtain ⟨b, e1, e2, e3⟩ := t.iv.at hd
  obtain ⟨hi, _⟩ := List.getElem?_eq_some_iff.1 hd
  rcases t with ⟨_, rfl⟩ | ⟨p, _, ⟨rfl, e⟩ | ⟨o, mn, rfl, e⟩⟩
  · simp at hd
  · have := e1 []
    simp only [uia, hi, if_true, Option.some.injEq, Prod.mk.injEq, AV.ptr.injEq] at this
    obtain rfl : p = b := this.1.1
    exact ⟨p, _, _, e1, e2, e, e3⟩
  · have := e1 []
    simp only [uia, hi, and_self, if_true, Option.some.injEq, Prod.mk.injEq, AV.ptr.injEq] at this
    obtain rfl : p = b := this.1.1
    exact ⟨p, o, _, e1, e2, e, e3⟩
set_option maxHeartbeats 16000000 in
theorem rmean_c {h : AHeap} {v : AV} {L : List Sp} (H : Sp) (hg : Good h) (u : SV h v L) (hl : L.length ≤ 9223372036854775806) : W CP 35 [v, spV H] h = some (mnA L H, h, []) := by
  refine W_bothB (m := M35) (fun g => SV g v L) (fun _ => rfl) rfl rfl rfl cgl (fun h0 => ?_) (fun g hg u => ?_) hg u
  · simp only [AV.lts, Bool.and_eq_true] at h0
    exact u.gl h0.1
  have nv := u.na
  have lv := u.len
  obtain ⟨x0, lo, hi⟩ := H
  obtain ⟨Y0, hY0⟩ : ∃ Y, g ++ [(⟨.tip false, .ints .i64 [x0, lo, hi]⟩ : ABlk)] = Y := ⟨_, rfl⟩
  have b0 : Y0[g.length]? = some ⟨.tip false, .ints .i64 [x0, lo, hi]⟩ := by rw [← hY0]; exact fend _ _ _
  have l0 := (List.getElem?_eq_some_iff.1 b0).1
  have hG0 : Good Y0 := by rw [← hY0]; exact good_app hg rfl
  have u0 : SV Y0 v L := by rw [← hY0]; exact u.app _
  have eM := rmay_c hG0 u0 hl
  have eH : ∀ g, W CP 42 [spV (x0, lo, hi)] g = some (.bool (mayB (x0, lo, hi)), g, []) := fun g => ref_May g
  by_cases cM : L.all mayB = true ∧ L.length ≤ 16
  case neg =>
    have : (L.all mayB && decide (L.length ≤ 16)) = false := by
      cases c : L.all mayB with
      | false => rfl
      | true => rw [Bool.true_and]; exact decide_eq_false fun h => cM ⟨c, h⟩
    rw [this] at eM
    have eV : mnA L (x0, lo, hi) = .tup [.int .i64 0, .int .i64 0, .int .i64 1] := by
      unfold mnA mnV
      rw [if_pos]
      rcases Bool.eq_false_or_eq_true (L.all mayB) with c | c
      · exact Or.inl (Nat.lt_of_not_le fun h => cM ⟨c, h⟩)
      · exact Or.inr (Or.inl c)
    rw [eV]
    simp (maxDischargeDepth := 9) -implicitDefEqProofs only [push_cast, simprocAttr, nadd1, nadd2, nadd3, nadd4, nadd5, nadd6, nadd7, nadd8, nadd9, nadd10, nadd11, nadd12, M35, ABlk.new, nv, hY0, eM]
    rw [← hY0]
    exact quiet_i
  obtain ⟨hm, h16⟩ := cM
  rw [hm, decide_eq_true h16, Bool.true_and] at eM
  by_cases cH : mayB (x0, lo, hi) = true
  case neg =>
    rw [Bool.not_eq_true] at cH
    rw [cH] at eH
    have eV : mnA L (x0, lo, hi) = .tup [.int .i64 0, .int .i64 0, .int .i64 1] := by unfold mnA mnV; rw [if_pos (Or.inr (Or.inr cH))]
    rw [eV]
    simp (maxDischargeDepth := 9) -implicitDefEqProofs only [push_cast, simprocAttr, nadd1, nadd2, nadd3, nadd4, nadd5, nadd6, nadd7, nadd8, nadd9, nadd10, nadd11, nadd12, M35, ABlk.new, nv, hY0, eM, b0, l0, eH]
    rw [← hY0]
    exact quiet_i
  rw [cH] at eH
  by_cases hL0 : L = []
  · have eV : mnA L (x0, lo, hi) = .tup [.int .i64 0, .int .i64 0, .int .i64 33] := by unfold mnA mnV; rw [if_neg (by simp [hL0, cH]), if_pos hL0]
    rw [eV]
    rw [hL0] at lv
    simp only [List.length_nil] at lv
    simp (maxDischargeDepth := 9) -implicitDefEqProofs only [push_cast, simprocAttr, nadd1, nadd2, nadd3, nadd4, nadd5, nadd6, nadd7, nadd8, nadd9, nadd10, nadd11, nadd12, M35, ABlk.new, nv, lv, hY0, eM, b0, l0, eH]
    rw [← hY0]
    exact quiet_i
  have eV : mnA L (x0, lo, hi) = .tup [.int .i64 (meanP L lo hi), .int .i64 (jitP L lo hi), .int .i64 0] := by
    unfold mnA mnV
    rw [if_neg (by rw [hm, cH]; simp; omega), if_neg hL0]
  rw [eV]
  have hH : (0 ≤ x0 ∧ x0 ≤ 4611686018427387904) ∧ (0 ≤ lo ∧ lo ≤ hi ∧ hi ≤ 4611686018427387904) := mayS_iff.1 cH
  obtain ⟨m, hml⟩ : ∃ m, L.length = m := ⟨_, rfl⟩
  have m0 : 0 < m := by have := List.length_pos_iff.2 hL0; omega
  have m0' : ¬ (m : Int) = 0 := by omega
  obtain ⟨p1, p2⟩ := allP_in hL0 h16
  obtain ⟨n1, n2, n3⟩ := mean_in hL0 h16 hH.2.2.1 (fun s _ => cmS_in hH.2.2.1 s)
  obtain ⟨j1, j2⟩ := jit_in hL0 h16 hH.2.2.1 (b := hi - lo) (fun s _ => by have := cmS_in hH.2.2.1 s; omega)
  have hq2 : ∀ s ∈ L, 0 ≤ q2S L lo hi s := fun s hs => by
    have := wt1_in hs
    have := cmS_in hH.2.2.1 s
    exact Int.ediv_nonneg (Int.mul_nonneg (by omega) (by omega)) (by omega)
  have hq3 : ∀ s ∈ L, 0 ≤ q3S L lo hi s := fun s hs => by
    have := wt1_in hs
    exact mdvu_nn (by omega) (by omega) (by omega)
  obtain ⟨w, js, eW, tw, hG7, _⟩ := rweights_ok hG0 u0 hL0 h16 hm
  obtain ⟨H7, hH7⟩ : ∃ H, Y0 ++ js = H := ⟨_, rfl⟩
  rw [hH7] at eW tw hG7
  have u7 : SV H7 v L := by rw [← hH7]; exact u0.app js
  have b7 : H7[g.length]? = some ⟨.tip false, .ints .i64 [x0, lo, hi]⟩ := by rw [← hH7, List.getElem?_append_left l0]; exact b0
  have l7 := (List.getElem?_eq_some_iff.1 b7).1
  have n7 : ¬ H7.length ≤ g.length := by omega
  have nw := tw.iv.na
  have lw := tw.iv.len
  have hq : Quiet g (.tup [.int .i64 (meanP L lo hi), .int .i64 (jitP L lo hi), .int .i64 0]) (.tup [.int .i64 (meanP L lo hi), .int .i64 (jitP L lo hi), .int .i64 0], H7, []) := ⟨rfl, ⟨⟨.tip false, .ints .i64 [x0, lo, hi]⟩ :: js, by rw [← hH7, ← hY0]; simp⟩, rfl⟩
  rw [wts_len, hml] at lw
  rw [hml] at lv
  simp (maxDischargeDepth := 9) -implicitDefEqProofs only [push_cast, simprocAttr, nadd1, nadd2, nadd3, nadd4, nadd5, nadd6, nadd7, nadd8, nadd9, nadd10, nadd11, nadd12, M35, ABlk.new, nv, lv, hY0, eM, b0, l0, eH, m0', eW, nw]
  refine wp_kRes (wp_kSeq (wp_kBlock ?_))
  refine wp_loop (fun k x h' ws => ∃ i : Nat, k = m - i ∧ i ≤ m ∧ x = [(0, v), (3, .ptr g.length 0), (7, w), (8, .int .i64 (pre (wt1 (wid L)) L i)), (9, .int .i64 (i : Int))] ∧ h' = H7 ∧ ws = []) m ?_ ?_
  · refine ⟨0, by omega, by omega, ?_, rfl, rfl⟩
    simp (maxDischargeDepth := 9) -implicitDefEqProofs only [push_cast, simprocAttr, nv, nw]; try rfl
  rintro k xx h' ws ⟨i, rfl, hi', rfl, hh, rfl⟩
  obtain rfl : H7 = h' := hh.symm
  have v1 : IntKind.i64.wrap ((i : Int) + 1) = (i : Int) + 1 := wr_i64 _ (by omega) (by omega)
  by_cases hlt : i < m
  · have hlt' : (i : Int) < (m : Int) := by omega
    obtain ⟨s, hs⟩ : ∃ s, L[i]? = some s := ⟨_, List.getElem?_eq_getElem (by omega)⟩
    obtain ⟨qb, o, c, y1, y2, _⟩ := TI.atb tw (show (wts L)[i]? = some (wt1 (wid L) s) by simp [wts, hs])
    have e1 := pre_succ (f := wt1 (wid L)) hs
    have e2 := pre_in (f := wt1 (wid L)) (L := L) (fun s hs => by have := wt1_in hs; omega) (i + 1)
    have e3 := pre_in (f := wt1 (wid L)) (L := L) (fun s hs => by have := wt1_in hs; omega) i
    have p2' : (L.map (wt1 (wid L))).sum ≤ 16777216 := p2
    have w2 : IntKind.i64.wrap (pre (wt1 (wid L)) L i + wt1 (wid L) s) = pre (wt1 (wid L)) L (i + 1) := by rw [← e1]; exact wr_i64 _ (by omega) (by omega)
    simp (maxDischargeDepth := 9) -implicitDefEqProofs only [push_cast, simprocAttr, nadd1, nadd2, nadd3, nadd4, nadd5, nadd6, nadd7, nadd8, nadd9, nadd10, nadd11, nadd12, hlt', v1, nv, lv, nw, lw, ↓uia_eq, y1, ↓uld_eq 40, y2, w2]
    refine loop_next (m - (i + 1)) (by omega) ⟨i + 1, rfl, by omega, ?_, rfl, rfl⟩
    simp (maxDischargeDepth := 9) -implicitDefEqProofs only [push_cast, simprocAttr, nv, nw]; try simp
  have hnl : ¬ (i : Int) < (m : Int) := by omega
  rw [pre_full (wt1 (wid L)) (show L.length ≤ i by omega)]
  have hA : (L.map (wt1 (wid L))).sum = allP L := rfl
  rw [hA]
  obtain ⟨A, hAA⟩ : ∃ z, allP L = z := ⟨_, rfl⟩
  rw [hAA] at p1 p2 ⊢
  clear hA
  simp (maxDischargeDepth := 9) -implicitDefEqProofs only [push_cast, simprocAttr, nadd1, nadd2, nadd3, nadd4, nadd5, nadd6, nadd7, nadd8, nadd9, nadd10, nadd11, nadd12, hnl, nv, lv, nw, lw, b7, l7]
  refine wp_kSeq (wp_kBlock ?_)
  have hA0 : 0 < A ∧ A ≤ 9223372036854775807 := by omega
  refine wp_loop (fun k x h' ws => ∃ i : Nat, k = m - i ∧ i ≤ m ∧ x = [(0, v), (3, .ptr g.length 0), (7, w), (8, .int .i64 A), (10, .int .i64 (lo + pre (q2S L lo hi) L i)), (11, .int .i64 (i : Int))] ∧ h' = H7 ∧ ws = []) m ?_ ?_
  · refine ⟨0, by omega, by omega, ?_, rfl, rfl⟩
    simp (maxDischargeDepth := 9) -implicitDefEqProofs only [push_cast, simprocAttr, nv, nw]; try simp [pre]
  rintro k xx h' ws ⟨i, rfl, hi', rfl, hh, rfl⟩
  obtain rfl : H7 = h' := hh.symm
  have v1 : IntKind.i64.wrap ((i : Int) + 1) = (i : Int) + 1 := wr_i64 _ (by omega) (by omega)
  have hmean : lo + (L.map (q2S L lo hi)).sum = meanP L lo hi := rfl
  by_cases hlt : i < m
  · have hlt' : (i : Int) < (m : Int) := by omega
    obtain ⟨s, hs⟩ : ∃ s, L[i]? = some s := ⟨_, List.getElem?_eq_getElem (by omega)⟩
    have hms := List.mem_of_getElem? hs
    obtain ⟨qb, o, c, y1, y2, y3, y4⟩ := TI.atb tw (show (wts L)[i]? = some (wt1 (wid L) s) by simp [wts, hs])
    have y4' : ¬ H7.length ≤ qb := by omega
    obtain ⟨qs, y5, y6, y7⟩ := u7.at hs
    have eD := rmid_c s (x0, lo, hi) H7
    have cs := cmS_in hH.2.2.1 s
    have ws1 := wt1_in hms
    have e1 := pre_succ (f := q2S L lo hi) hs
    have e2 := pre_in hq2 (i + 1)
    have e3 := pre_in hq2 i
    have e4 := hq2 s hms
    have eQ := ref_MulDiv (a := cmS lo hi s - lo) (b := wt1 (wid L) s) (c := A) (up := false) hG7 ⟨by omega, by omega⟩ ⟨by omega, by omega⟩ hA0
    have hqs : mdv false (cmS lo hi s - lo) (wt1 (wid L) s) A = q2S L lo hi s := by unfold q2S; rw [hAA]
    rw [hqs] at eQ
    have h64 : I64 (q2S L lo hi s) := by unfold I64; omega
    unfold qres at eQ
    rw [if_pos h64] at eQ
    have w2 : IntKind.i64.wrap (lo + pre (q2S L lo hi) L i + q2S L lo hi s) = lo + pre (q2S L lo hi) L (i + 1) := by rw [e1, wr_i64 _ (by omega) (by omega)]; omega
    have w3 : IntKind.i64.wrap (cmS lo hi s - lo) = cmS lo hi s - lo := wr_i64 _ (by omega) (by omega)
    obtain ⟨cd, hcd⟩ : ∃ z, cmS lo hi s - lo = z := ⟨_, rfl⟩
    have w3' : IntKind.i64.wrap (cmS lo hi s - lo) = cd := w3.trans hcd
    rw [hcd] at eQ
    simp only at eD
    simp (maxDischargeDepth := 9) -implicitDefEqProofs only [push_cast, simprocAttr, nadd1, nadd2, nadd3, nadd4, nadd5, nadd6, nadd7, nadd8, nadd9, nadd10, nadd11, nadd12, hlt', v1, nv, lv, nw, lw, ↓uia_eq, y1, ↓uld_eq 63, y2, y3, y4, y4', y5, ↓uld_eq 54, y6, b7, l7, n7, eD, w3', eQ, w2, decide_false, Bool.not_false, Bool.and_true]
    refine loop_next (m - (i + 1)) (by omega) ⟨i + 1, rfl, by omega, ?_, rfl, rfl⟩
    simp (maxDischargeDepth := 9) -implicitDefEqProofs only [push_cast, simprocAttr, nv, nw]; try simp
  have hnl : ¬ (i : Int) < (m : Int) := by omega
  rw [pre_full (q2S L lo hi) (show L.length ≤ i by omega), hmean]
  obtain ⟨M, hM⟩ : ∃ z, meanP L lo hi = z := ⟨_, rfl⟩
  rw [hM] at n1 n2 n3 hq ⊢
  simp (maxDischargeDepth := 9) -implicitDefEqProofs only [push_cast, simprocAttr, nadd1, nadd2, nadd3, nadd4, nadd5, nadd6, nadd7, nadd8, nadd9, nadd10, nadd11, nadd12, hnl, nv, lv, nw, lw, b7, l7]
  refine wp_kSeq (wp_kBlock ?_)
  refine wp_loop (fun k x h' ws => ∃ i : Nat, k = m - i ∧ i ≤ m ∧ x = [(0, v), (3, .ptr g.length 0), (7, w), (8, .int .i64 A), (10, .int .i64 M), (14, .int .i64 (pre (q3S L lo hi) L i)), (15, .int .i64 (i : Int))] ∧ h' = H7 ∧ ws = []) m ?_ ?_
  · refine ⟨0, by omega, by omega, ?_, rfl, rfl⟩
    simp (maxDischargeDepth := 9) -implicitDefEqProofs only [push_cast, simprocAttr, nv, nw]; try simp [pre]
  rintro k xx h' ws ⟨i, rfl, hi', rfl, hh, rfl⟩
  obtain rfl : H7 = h' := hh.symm
  have v1 : IntKind.i64.wrap ((i : Int) + 1) = (i : Int) + 1 := wr_i64 _ (by omega) (by omega)
  have hjit : (L.map (q3S L lo hi)).sum = jitP L lo hi := rfl
  by_cases hlt : i < m
  · have hlt' : (i : Int) < (m : Int) := by omega
    obtain ⟨s, hs⟩ : ∃ s, L[i]? = some s := ⟨_, List.getElem?_eq_getElem (by omega)⟩
    have hms := List.mem_of_getElem? hs
    obtain ⟨qb, o, c, y1, y2, y3, y4⟩ := TI.atb tw (show (wts L)[i]? = some (wt1 (wid L) s) by simp [wts, hs])
    have y4' : ¬ H7.length ≤ qb := by omega
    obtain ⟨qs, y5, y6, y7⟩ := u7.at hs
    have eD := rmid_c s (x0, lo, hi) H7
    have cs := cmS_in hH.2.2.1 s
    have ws1 := wt1_in hms
    have e1 := pre_succ (f := q3S L lo hi) hs
    have e2 := pre_in hq3 (i + 1)
    have e3 := pre_in hq3 i
    have e4 := hq3 s hms
    have eA := rabs_c (a := cmS lo hi s - M) (by omega) (by omega) H7
    have eQ := ref_MulDiv (a := ((cmS lo hi s - M).natAbs : Int)) (b := wt1 (wid L) s) (c := A) (up := true) hG7 ⟨by omega, by omega⟩ ⟨by omega, by omega⟩ hA0
    have hqs : mdv true ((cmS lo hi s - M).natAbs : Int) (wt1 (wid L) s) A = q3S L lo hi s := by unfold q3S; rw [hAA, hM]
    rw [hqs] at eQ
    have h64 : I64 (q3S L lo hi s) := by unfold I64; omega
    unfold qres at eQ
    rw [if_pos h64] at eQ
    have w2 : IntKind.i64.wrap (pre (q3S L lo hi) L i + q3S L lo hi s) = pre (q3S L lo hi) L (i + 1) := by rw [e1, wr_i64 _ (by omega) (by omega)]
    have w3 : IntKind.i64.wrap (cmS lo hi s - M) = cmS lo hi s - M := wr_i64 _ (by omega) (by omega)
    obtain ⟨cd, hcd⟩ : ∃ z, cmS lo hi s - M = z := ⟨_, rfl⟩
    have w3' : IntKind.i64.wrap (cmS lo hi s - M) = cd := w3.trans hcd
    rw [hcd] at eQ eA
    obtain ⟨ad, had⟩ : ∃ z, (cd.natAbs : Int) = z := ⟨_, rfl⟩
    rw [had] at eQ eA
    simp only at eD
    simp (maxDischargeDepth := 9) -implicitDefEqProofs only [push_cast, simprocAttr, nadd1, nadd2, nadd3, nadd4, nadd5, nadd6, nadd7, nadd8, nadd9, nadd10, nadd11, nadd12, hlt', v1, nv, lv, nw, lw, ↓uia_eq, y1, ↓uld_eq 90, y2, y3, y4, y4', y5, ↓uld_eq 81, y6, b7, l7, n7, eD, w3', eA, eQ, w2, decide_false, Bool.not_false, Bool.and_true]
    refine loop_next (m - (i + 1)) (by omega) ⟨i + 1, rfl, by omega, ?_, rfl, rfl⟩
    simp (maxDischargeDepth := 9) -implicitDefEqProofs only [push_cast, simprocAttr, nv, nw]; try simp
  have hnl : ¬ (i : Int) < (m : Int) := by omega
  rw [pre_full (q3S L lo hi) (show L.length ≤ i by omega), hjit]
  simp (maxDischargeDepth := 9) -implicitDefEqProofs only [push_cast, simprocAttr, nadd1, nadd2, nadd3, nadd4, nadd5, nadd6, nadd7, nadd8, nadd9, nadd10, nadd11, nadd12, hnl, nv, lv, nw, lw, b7, l7]
  exact hq
end Go.Proofs.YtcpiohklljppaaaW.AI.D
