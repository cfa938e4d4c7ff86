import Derived.Test.YtcpiohklljppaaaAIDcmbd
namespace Go.Proofs.YtcpiohklljppaaaW.AI.D
open Go Go.Proofs.YtcpiohklljppaaaW.AI
set_option maxRecDepth 100000
set_option linter.unusedSimpArgs false
set_option linter.unusedVariables false
set_option linter.unusedSectionVars false
theorem W_fit_c {h : AHeap} {v : AV} {L : List Sp} (hg : Good h) (u : SV h v L) : ∃ r H', W CM 39 [v] h = some (r, H', []) ∧ RW H' r (fitL L) h.length ∧ Good H' ∧ Keeps h H' none ∧ h.length ≤ H'.length := by
  obtain ⟨r, js, e, h1, h2⟩ := fit_c hg u
  exact ⟨r, h ++ js, up e, h1, h2, ⟨fun q x hq _ _ => by rw [List.getElem?_append_left (List.getElem?_eq_some_iff.1 hq).1]; exact hq, by simp, fun _ => h2⟩, by simp⟩
set_option maxHeartbeats 16000000 in
theorem cmean_body (g : AHeap) (hg : Good g) (v : AV) (L0 : List Sp) (x0 x1 x2 : Int) (u : SV g v L0) :
    Wp (xbody (W CM) M10 [v, .agg [.int .i64 x0, .int .i64 x1, .int .i64 x2]] g) fun r => r.1 = .bool true := by
  have aw := fun h => al24 h
  have nv := u.na
  obtain ⟨H1, hH1⟩ : ∃ H, g ++ [(⟨.tip false, .ints .i64 [x0, x1, x2]⟩ : ABlk)] = H := ⟨_, rfl⟩
  have hG1 : Good H1 := by rw [← hH1]; exact good_app hg rfl
  have b1 : H1[g.length]? = some ⟨.tip false, .ints .i64 [x0, x1, x2]⟩ := by rw [← hH1]; exact fend _ _ _
  have l1 := (List.getElem?_eq_some_iff.1 b1).1
  have u1 : SV H1 v L0 := by rw [← hH1]; exact u.app _
  obtain ⟨r, H2, e2, r2, hG2, k2, n2⟩ := W_fit_c hG1 u1
  obtain ⟨L, hL⟩ : ∃ L, fitL L0 = L := ⟨_, rfl⟩
  have h16 : L.length ≤ 16 := by rw [← hL, fitL_len]; omega
  have hmay : L.all mayB = true := by rw [← hL]; exact fitL_may L0
  rw [hL] at r2
  have nr := r2.na
  have b2 := keepsN k2 _ _ b1
  have l2 := (List.getElem?_eq_some_iff.1 b2).1
  obtain ⟨H3, hH3⟩ : ∃ H, H2 ++ [(⟨.tip false, .ints .i64 [x0, x1, x2]⟩ : ABlk)] = H := ⟨_, rfl⟩
  have hG3 : Good H3 := by rw [← hH3]; exact good_app hG2 rfl
  have k3 : Keeps H2 H3 none := by rw [← hH3]; exact Keeps.app H2 [⟨.tip false, .ints .i64 [x0, x1, x2]⟩] none rfl
  have b3 : H3[H2.length]? = some ⟨.tip false, .ints .i64 [x0, x1, x2]⟩ := by rw [← hH3]; exact fend _ _ _
  have u3 : SV H3 (.sl H2.length 0 1 1) [(x0, x1, x2)] := Or.inr ⟨H2.length, 1, .tip false, [x0, x1, x2], false, b3, Or.inr ⟨false, rfl⟩, rfl, Or.inl ⟨rfl, Nat.le_refl _⟩⟩
  obtain ⟨r', H4, e4, r4, hG4, k4, n4⟩ := W_fit_c hG3 u3
  have hf : fitL [(x0, x1, x2)] = [fitS (x0, x1, x2)] := rfl
  rw [hf] at r4
  have i0 := fitS_in (x0, x1, x2)
  obtain ⟨z, hz⟩ : ∃ z, fitS (x0, x1, x2) = z := ⟨_, rfl⟩
  rw [hz] at r4 i0
  obtain ⟨z0, lo, hi⟩ := z
  obtain ⟨rfl, i0⟩ := i0
  simp only at i0
  obtain ⟨_, h⟩ | ⟨p, o, hp, ep, rfl⟩ := r4
  · cases h
  change H4[p]? = some ⟨.tip o, .ints .i64 [0, lo, hi]⟩ at ep
  change W CM 39 [.sl H2.length 0 1 1] H3 = some (.gsl p 0 1 3 false, H4, []) at e4
  have lp := (List.getElem?_eq_some_iff.1 ep).1
  have b4 := keepsN (keepsT k3 k4) _ _ b2
  have l4 := (List.getElem?_eq_some_iff.1 b4).1
  have r4 := r2.kept (keepsT k3 k4)
  obtain ⟨H5, hH5⟩ : ∃ H, H4.set g.length ⟨.tip false, .ints .i64 [0, lo, hi]⟩ = H := ⟨_, rfl⟩
  have b5 : H5[g.length]? = some ⟨.tip false, .ints .i64 [0, lo, hi]⟩ := by rw [← hH5]; simp [l4]
  have l5 := (List.getElem?_eq_some_iff.1 b5).1
  have r5 : RW H5 r L H1.length := r4.keep fun q x hq hx => by rw [← hH5, List.getElem?_set_ne (by omega)]; exact hx
  have lr := r5.len
  have eM := mean_c (0, lo, hi) r5.sv (by omega)
  have hmH : mayB (0, lo, hi) = true := fit_may ⟨rfl, i0⟩
  clear hf hz hL
  by_cases h0 : L = []
  · have eV : mnA L (0, lo, hi) = .tup [.int .i64 0, .int .i64 0, .int .i64 33] := by unfold mnA mnV; rw [if_neg (by simp [h0, hmH]), if_pos h0]
    rw [eV] at eM
    rw [h0] at lr
    simp only [List.length_nil] at lr
    simp (maxDischargeDepth := 9) -implicitDefEqProofs only [push_cast, simprocAttr, nadd1, nadd2, nadd3, nadd4, nadd5, nadd6, nadd7, nadd8, nadd9, nadd10, nadd11, nadd12, M10, ABlk.new, nv, hH1, e2, nr, b2, l2, hH3, e4, ep, lp, b4, l4, hH5, b5, l5, lr, eM, aw]
  have eV : mnA L (0, lo, hi) = .tup [.int .i64 (meanP L lo hi), .int .i64 (jitP L lo hi), .int .i64 0] := by
    unfold mnA mnV
    rw [if_neg (by rw [hmay, hmH]; simp; omega), if_neg h0]
  rw [eV] at eM
  obtain ⟨f1, f2, f3, f4, f5, f6, f7, f8⟩ := mean_plain (L := L) (lo := lo) (hi := hi) h0 h16 i0.2.1
  obtain ⟨M, hM⟩ : ∃ z, meanP L lo hi = z := ⟨_, rfl⟩
  obtain ⟨J, hJ⟩ : ∃ z, jitP L lo hi = z := ⟨_, rfl⟩
  rw [hM, hJ] at eM
  rw [hM] at f1 f2 f3 f4 f6 f8
  rw [hJ] at f5 f6 f7 f8
  obtain ⟨m, hm⟩ : ∃ m, L.length = m := ⟨_, rfl⟩
  have m0 : 0 < m := by have := List.length_pos_iff.2 h0; omega
  rw [hm] at lr h16 f4 f6 f7 f8
  have m0' : ¬ (m : Int) = 0 := by omega
  simp (maxDischargeDepth := 9) -implicitDefEqProofs only [push_cast, simprocAttr, nadd1, nadd2, nadd3, nadd4, nadd5, nadd6, nadd7, nadd8, nadd9, nadd10, nadd11, nadd12, M10, ABlk.new, nv, hH1, e2, nr, b2, l2, hH3, e4, ep, lp, b4, l4, hH5, b5, l5, lr, eM, aw, m0']
  refine wp_kRes (wp_kSeq (wp_kBlock ?_))
  refine wp_loop (fun k x h' ws => ∃ i : Nat, k = m - i ∧ i ≤ m ∧ x = [(0, r), (3, .ptr g.length 0), (5, .int .i64 M), (6, .int .i64 J), (7, .int .i64 0), (8, .int .i64 (aF lo hi (L.take i))), (9, .int .i64 (bF lo hi (L.take i))), (10, .int .i64 (i : Int))] ∧ h' = H5 ∧ ws = []) m ?_ ?_
  · refine ⟨0, by omega, by omega, ?_, rfl, rfl⟩
    simp (maxDischargeDepth := 9) -implicitDefEqProofs only [push_cast, simprocAttr, nr]; try rfl
  have n5 : ¬ H5.length ≤ g.length := by omega
  rintro k xx h' ws ⟨i, rfl, hi', rfl, rfl, rfl⟩
  have v1 : IntKind.i64.wrap ((i : Int) + 1) = (i : Int) + 1 := wr_i64 _ (by omega) (by omega)
  by_cases hlt : i < m
  · have hlt' : (i : Int) < (m : Int) := by omega
    obtain ⟨s, hs⟩ : ∃ s, L[i]? = some s := ⟨_, List.getElem?_eq_getElem (by omega)⟩
    obtain ⟨q, y1, y2, y3⟩ := r5.sv.at hs
    have eD : W CM 31 [spV s] h' = some (.int .i64 (mS s), h', []) := up (span_Mid (a := s.1) (l := s.2.1) (u := s.2.2) h')
    have hcl : (if hi < (if mS s < lo then lo else mS s) then hi else (if mS s < lo then lo else mS s)) = cmS lo hi s := by
      unfold cmS clamp
      by_cases c1 : mS s < lo
      · rw [if_pos c1, if_pos c1, if_neg (by omega)]
      · rw [if_neg c1, if_neg c1]
    have ha : aF lo hi (L.take (i + 1)) = if cmS lo hi s < aF lo hi (L.take i) then cmS lo hi s else aF lo hi (L.take i) := by rw [List.take_add_one, hs]; exact aF_snoc _ _ _ _
    have hb : bF lo hi (L.take (i + 1)) = if bF lo hi (L.take i) < cmS lo hi s then cmS lo hi s else bF lo hi (L.take i) := by rw [List.take_add_one, hs]; exact bF_snoc _ _ _ _
    simp (maxDischargeDepth := 9) -implicitDefEqProofs only [push_cast, simprocAttr, nadd1, nadd2, nadd3, nadd4, nadd5, nadd6, nadd7, nadd8, nadd9, nadd10, nadd11, nadd12, hlt', v1, nr, lr, ↓uia_eq, y1, ↓uld_eq 48, y2, y3, eD, b5, l5, n5, hcl, decide_false, Bool.not_false, Bool.and_true]
    refine loop_next (m - (i + 1)) (by omega) ⟨i + 1, rfl, by omega, ?_, rfl, rfl⟩
    rw [ha, hb]
    simp (maxDischargeDepth := 9) -implicitDefEqProofs only [push_cast, simprocAttr, nr]; try simp
  · have hnl : ¬ (i : Int) < (m : Int) := by omega
    have him : L.take i = L := List.take_of_length_le (by omega)
    rw [him]
    obtain ⟨a1, a2, _⟩ := aF_in (lo := lo) (hi := hi) i0.2.1 L
    obtain ⟨b1', b2', _⟩ := bF_in (lo := lo) (hi := hi) i0.2.1 L
    obtain ⟨A, hA⟩ : ∃ z, aF lo hi L = z := ⟨_, rfl⟩
    obtain ⟨B, hB⟩ : ∃ z, bF lo hi L = z := ⟨_, rfl⟩
    rw [hA] at f4 f6 f8 a1 a2
    rw [hB] at f3 f6 b1' b2'
    rw [hA, hB]
    clear eM eV hM hJ hA hB e4 e2 him
    have w1 : IntKind.i64.wrap (B - M) = B - M := wr_i64 _ (by omega) (by omega)
    have w2 : IntKind.i64.wrap (M - A) = M - A := wr_i64 _ (by omega) (by omega)
    have w4 : IntKind.i64.wrap (hi - lo) = hi - lo := wr_i64 _ (by omega) (by omega)
    have w6 : IntKind.i64.wrap (A - (m : Int)) = A - (m : Int) := wr_i64 _ (by omega) (by omega)
    obtain ⟨d1, e1⟩ : ∃ z, B - M = z := ⟨_, rfl⟩
    obtain ⟨d2, e2⟩ : ∃ z, M - A = z := ⟨_, rfl⟩
    have w1' : IntKind.i64.wrap (B - M) = d1 := w1.trans e1
    have w2' : IntKind.i64.wrap (M - A) = d2 := w2.trans e2
    rw [e1, e2] at f6
    obtain ⟨F, hF⟩ : ∃ z, (if d1 < d2 then d2 else d1) = z := ⟨_, rfl⟩
    rw [hF] at f6
    have hF2 : 0 ≤ F + 16 ∧ F ≤ 1152921504606846975 := by rw [← hF]; split <;> omega
    have w3 : IntKind.i64.wrap (F + (m : Int)) = F + (m : Int) := wr_i64 _ (by omega) (by omega)
    obtain ⟨Fm, e3⟩ : ∃ z, F + (m : Int) = z := ⟨_, rfl⟩
    have w3' : IntKind.i64.wrap (F + (m : Int)) = Fm := w3.trans e3
    rw [e3] at f6
    obtain ⟨w, e4⟩ : ∃ z, hi - lo = z := ⟨_, rfl⟩
    have w4' : IntKind.i64.wrap (hi - lo) = w := w4.trans e4
    rw [e4] at f7
    have w5 : IntKind.i64.wrap (w + (m : Int)) = w + (m : Int) := wr_i64 _ (by omega) (by omega)
    obtain ⟨wm, e5⟩ : ∃ z, w + (m : Int) = z := ⟨_, rfl⟩
    have w5' : IntKind.i64.wrap (w + (m : Int)) = wm := w5.trans e5
    rw [e5] at f7
    obtain ⟨Am, e6⟩ : ∃ z, A - (m : Int) = z := ⟨_, rfl⟩
    have w6' : IntKind.i64.wrap (A - (m : Int)) = Am := w6.trans e6
    rw [e6] at f4
    clear w1 w2 w3 w4 w5 w6
    by_cases c1 : 1 < m
    · have c1' : (1 : Int) < (m : Int) := by omega
      simp (maxDischargeDepth := 9) -implicitDefEqProofs only [push_cast, simprocAttr, nadd1, nadd2, nadd3, nadd4, nadd5, nadd6, nadd7, nadd8, nadd9, nadd10, nadd11, nadd12, hnl, nr, lr, b5, l5, w1', w2', w3', w4', w5', w6', hF, f1, f2, f3, f4, f5, f6, f7, c1', aw]
    · have c1' : ¬ (1 : Int) < (m : Int) := by omega
      obtain ⟨q1, q2⟩ := f8.resolve_left c1
      subst q1
      subst q2
      simp (maxDischargeDepth := 9) -implicitDefEqProofs only [push_cast, simprocAttr, nadd1, nadd2, nadd3, nadd4, nadd5, nadd6, nadd7, nadd8, nadd9, nadd10, nadd11, nadd12, hnl, nr, lr, b5, l5, w1', w2', w3', w4', w5', w6', hF, f1, f2, f3, f4, f5, f6, f7, c1', aw]
theorem cmean_law (js : AHeap) (avs : List AV) (hx : Ext js) (ht : TyA (CM.gl ++ js) [.one (.sl [.i .i64, .i .i64, .i .i64]), .agg [.i .i64, .i .i64, .i .i64]] avs) : ∃ h' ws, W CM 10 avs (CM.gl ++ js) = some (.bool true, h', ws) := by
  simp only [TyA] at ht
  obtain ⟨v, _, rfl, k0, cs1, _, rfl, k1, rfl⟩ := ht
  simp only [TyL, Ty] at k1
  obtain ⟨_, _, rfl, ⟨n1, rfl, _, _⟩, _, _, rfl, ⟨n2, rfl, _, _⟩, _, _, rfl, ⟨n3, rfl, _, _⟩, rfl⟩ := k1
  refine W_law (m := M10) (fun _ => rfl) rfl ?_ fun h0 => ?_
  · obtain ⟨L, u, _⟩ := arg_sv k0
    exact cmean_body _ (extM hx) v L n1 n2 n3 u
  · simp only [AV.lts, Bool.and_eq_true] at h0
    obtain ⟨L, u, _⟩ := arg_sv (ty_nil3 (g' := CM.gl) k0 h0.1)
    exact cmean_body _ glM v L n1 n2 n3 u
theorem cmean_kinds : aksOf X.P 20 [64, 33] = some [.one (.sl [.i .i64, .i .i64, .i .i64]), .agg [.i .i64, .i .i64, .i .i64]] := by kernel_rfl
end Go.Proofs.YtcpiohklljppaaaW.AI.D
