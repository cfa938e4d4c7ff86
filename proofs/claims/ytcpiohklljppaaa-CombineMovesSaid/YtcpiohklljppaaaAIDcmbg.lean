import Derived.Test.YtcpiohklljppaaaAIDcmbe
import Derived.Test.YtcpiohklljppaaaAIDcmbf
namespace Go.Proofs.YtcpiohklljppaaaW.AI.D
open Go Go.Proofs.YtcpiohklljppaaaW.AI
set_option maxRecDepth 100000
set_option linter.unusedSimpArgs false
set_option linter.unusedVariables false
set_option linter.unusedSectionVars false
theorem tmod_nat (a m : Nat) : ((a : Int)).tmod (m : Int) = ((a % m : Nat) : Int) := by
  rw [Int.tmod_eq_emod_of_nonneg (by omega), Int.natCast_emod]
theorem W_weights {h : AHeap} {v : AV} {L : List Sp} (hg : Good h) (u : SV h v L) (h16 : L.length ≤ 16) (hm : L.all mayB = true) : ∃ r H', W CM 36 [v] h = some (r, H', []) ∧ IV .i64 H' r (wts L) ∧ Good H' ∧ Keeps h H' none ∧ h.length ≤ H'.length := by
  obtain ⟨r, js, e, h1, h2, _⟩ := weights_ok hg u h16 hm
  exact ⟨r, h ++ js, up e, h1.iv, h2, ⟨fun q x hq _ _ => by rw [List.getElem?_append_left (List.getElem?_eq_some_iff.1 hq).1]; exact hq, by simp, fun _ => h2⟩, by simp⟩
theorem RW.atb {h : AHeap} {v : AV} {L : List Sp} {n : Nat} (u : RW h v L n) {i : Nat} {s : Sp} (hs : L[i]? = some s) : ∃ b o c, (∀ g, uia 3 g i (some v) = some (.ptr b (i * 3), g, [])) ∧ uld (some 3) h (some (.ptr b (i * 3))) = some (spV s, h, []) ∧ h[b]? = some ⟨.tip o, c⟩ := by
  obtain ⟨b, e1, e2, e3⟩ := u.sv.at hs
  obtain ⟨hi, _⟩ := List.getElem?_eq_some_iff.1 hs
  obtain ⟨_, rfl⟩ | ⟨b', o, _, e, rfl⟩ := u
  · simp at hs
  · have := e1 []
    simp only [uia, hi, and_self, if_true, Option.some.injEq, Prod.mk.injEq, AV.ptr.injEq] at this
    obtain rfl : b' = b := this.1.1
    exact ⟨b', o, _, e1, e2, e⟩
theorem mnA_ok {L : List Sp} {H : Sp} (h16 : L.length ≤ 16) (h1 : L.all mayB = true) (h2 : mayB H = true) (h0 : L ≠ []) : mnA L H = .tup [.int .i64 (meanP L H.2.1 H.2.2), .int .i64 (jitP L H.2.1 H.2.2), .int .i64 0] := by
  unfold mnA mnV
  rw [if_neg (by rw [h1, h2]; simp; omega), if_neg h0]
set_option maxHeartbeats 16000000 in
theorem moves_body (g : AHeap) (hg : Good g) (v : AV) (L0 : List Sp) (x0 x1 x2 : Int) (bb : Int) (a : Nat) (hb0 : 0 ≤ bb) (hb1 : bb ≤ 18446744073709551615) (ha : a ≤ 255) (u : SV g v L0) :
    Wp (xbody (W CM) M11 [v, .agg [.int .i64 x0, .int .i64 x1, .int .i64 x2], .int .u64 bb, .int .u8 (a : Int)] g) fun r => r.1 = .bool true := by
  have aw := fun h => al24 h
  have nv := u.na
  obtain ⟨H1, hH1⟩ : ∃ H, g ++ [(⟨.tip false, .ints .i64 [x0, x1, x2]⟩ : ABlk)] = H := ⟨_, rfl⟩
  have hG1 : Good H1 := by rw [← hH1]; exact good_app hg rfl
  have b1 : H1[g.length]? = some ⟨.tip false, .ints .i64 [x0, x1, x2]⟩ := by rw [← hH1]; exact fend _ _ _
  have l1 := (List.getElem?_eq_some_iff.1 b1).1
  have u1 : SV H1 v L0 := by rw [← hH1]; exact u.app _
  obtain ⟨r, H2, e2, r2, hG2, k2, n2⟩ := W_fit_c hG1 u1
  obtain ⟨L, hL⟩ : ∃ L, fitL L0 = L := ⟨_, rfl⟩
  have h16 : L.length ≤ 16 := by rw [← hL, fitL_len]; omega
  have hmay : L.all mayB = true := by rw [← hL]; exact fitL_may L0
  rw [hL] at r2
  have nr := r2.na
  have b2 := keepsN k2 _ _ b1
  have l2 := (List.getElem?_eq_some_iff.1 b2).1
  obtain ⟨H3, hH3⟩ : ∃ H, H2 ++ [(⟨.tip false, .ints .i64 [x0, x1, x2]⟩ : ABlk)] = H := ⟨_, rfl⟩
  have hG3 : Good H3 := by rw [← hH3]; exact good_app hG2 rfl
  have k3 : Keeps H2 H3 none := by rw [← hH3]; exact Keeps.app H2 [⟨.tip false, .ints .i64 [x0, x1, x2]⟩] none rfl
  have b3 : H3[H2.length]? = some ⟨.tip false, .ints .i64 [x0, x1, x2]⟩ := by rw [← hH3]; exact fend _ _ _
  have u3 : SV H3 (.sl H2.length 0 1 1) [(x0, x1, x2)] := Or.inr ⟨H2.length, 1, .tip false, [x0, x1, x2], false, b3, Or.inr ⟨false, rfl⟩, rfl, Or.inl ⟨rfl, Nat.le_refl _⟩⟩
  obtain ⟨r', H4, e4, r4, hG4, k4, n4⟩ := W_fit_c hG3 u3
  have hf : fitL [(x0, x1, x2)] = [fitS (x0, x1, x2)] := rfl
  rw [hf] at r4
  have i0 := fitS_in (x0, x1, x2)
  obtain ⟨z, hz⟩ : ∃ z, fitS (x0, x1, x2) = z := ⟨_, rfl⟩
  rw [hz] at r4 i0
  obtain ⟨z0, lo, hi⟩ := z
  obtain ⟨rfl, i0⟩ := i0
  simp only at i0
  obtain ⟨_, h⟩ | ⟨p, o, hp, ep, rfl⟩ := r4
  · cases h
  change H4[p]? = some ⟨.tip o, .ints .i64 [0, lo, hi]⟩ at ep
  change W CM 39 [.sl H2.length 0 1 1] H3 = some (.gsl p 0 1 3 false, H4, []) at e4
  have lp := (List.getElem?_eq_some_iff.1 ep).1
  have b4 := keepsN (keepsT k3 k4) _ _ b2
  have l4 := (List.getElem?_eq_some_iff.1 b4).1
  have r4 := r2.kept (keepsT k3 k4)
  obtain ⟨H5, hH5⟩ : ∃ H, H4.set g.length ⟨.tip false, .ints .i64 [0, lo, hi]⟩ = H := ⟨_, rfl⟩
  have b5 : H5[g.length]? = some ⟨.tip false, .ints .i64 [0, lo, hi]⟩ := by rw [← hH5]; simp [l4]
  have l5 := (List.getElem?_eq_some_iff.1 b5).1
  have r5 : RW H5 r L H1.length := r4.keep fun q x hq hx => by rw [← hH5, List.getElem?_set_ne (by omega)]; exact hx
  have lr := r5.len
  have hF : ∀ s ∈ L, Fit s := fun s hs => by rw [← hL] at hs; exact fitL_in hs
  have hmH : mayB (0, lo, hi) = true := fit_may ⟨rfl, i0⟩
  clear hf hz hL
  by_cases h0 : L = []
  · rw [h0] at lr
    simp only [List.length_nil] at lr
    simp (maxDischargeDepth := 9) -implicitDefEqProofs only [push_cast, simprocAttr, nadd1, nadd2, nadd3, nadd4, nadd5, nadd6, nadd7, nadd8, nadd9, nadd10, nadd11, nadd12, M11, ABlk.new, nv, hH1, e2, nr, b2, l2, hH3, e4, ep, lp, b4, l4, hH5, b5, l5, lr, aw]
  obtain ⟨m, hm⟩ : ∃ m, L.length = m := ⟨_, rfl⟩
  have m0 : 0 < m := by have := List.length_pos_iff.2 h0; omega
  rw [hm] at lr h16
  have m0' : ¬ (m : Int) = 0 := by omega
  have c8 : IntKind.i64.wrap (a : Int) = (a : Int) := wr_i64 _ (by omega) (by omega)
  have t1 := tmod_nat a m
  have hk := Nat.mod_lt a m0
  obtain ⟨k, hkk⟩ : ∃ k, a % m = k := ⟨_, rfl⟩
  rw [hkk] at t1 hk
  have t2 : 0 ≤ bb.tmod 1152921504606846976 ∧ bb.tmod 1152921504606846976 ≤ 1152921504606846975 := by rw [Int.tmod_eq_emod_of_nonneg hb0]; omega
  obtain ⟨d, hd⟩ : ∃ d, bb.tmod 1152921504606846976 = d := ⟨_, rfl⟩
  rw [hd] at t2
  have cd : IntKind.i64.wrap d = d := wr_i64 _ (by omega) (by omega)
  have hkL : k < L.length := by omega
  simp (maxDischargeDepth := 9) -implicitDefEqProofs only [push_cast, simprocAttr, nadd1, nadd2, nadd3, nadd4, nadd5, nadd6, nadd7, nadd8, nadd9, nadd10, nadd11, nadd12, M11, ABlk.new, nv, hH1, e2, nr, b2, l2, hH3, e4, ep, lp, b4, l4, hH5, b5, l5, lr, aw, m0', c8, t1, hd, cd]
  have n5 : ¬ H5.length < g.length := by omega
  have hG5 : Good H5 := by rw [← hH5]; exact good_set hG4 rfl
  refine wp_kRes (wp_kSeq (wp_kBlock ?_))
  refine wp_loop (fun n x h' ws => ∃ (i : Nat) (t : AV), n = m - i ∧ i ≤ m ∧ x = [(0, r), (5, .ptr g.length 0), (9, .int .i64 (k : Int)), (10, .int .i64 d), (11, t), (12, .int .i64 (i : Int))] ∧ RW h' t ((mvL L k d).take i) H5.length ∧ Keeps H5 h' none ∧ ws = []) m ?_ ?_
  · refine ⟨0, .nils, by omega, by omega, ?_, Or.inl ⟨rfl, rfl⟩, Keeps.refl _ _, rfl⟩
    simp (maxDischargeDepth := 9) -implicitDefEqProofs only [push_cast, simprocAttr, nr]; try rfl
  rintro n xx h' ws ⟨i, t, rfl, hi', rfl, rt, kh, rfl⟩
  have hg' := kh.2.2 hG5
  have nt := rt.na
  have v1 : IntKind.i64.wrap ((i : Int) + 1) = (i : Int) + 1 := wr_i64 _ (by omega) (by omega)
  by_cases hlt : i < m
  · have hlt' : (i : Int) < (m : Int) := by omega
    have g1 : ¬ h'.length < g.length := by have := kh.2.1; omega
    obtain ⟨q, y1, y2, y3⟩ := (r5.sv.kept kh).at (nx_get h0 k i)
    rw [hm] at y1 y2
    have hFs := hF _ (nx_mem h0 k i)
    have v2 : IntKind.i64.wrap ((k : Int) + (i : Int)) = ((k + i : Nat) : Int) := by rw [wr_i64 _ (by omega) (by omega)]; omega
    have t3 := tmod_nat (k + i) m
    obtain ⟨j, hj⟩ : ∃ j, (k + i) % m = j := ⟨_, rfl⟩
    rw [hj] at t3 y1 y2
    obtain ⟨ki, hki⟩ : ∃ z : Int, ((k + i : Nat) : Int) = z := ⟨_, rfl⟩
    rw [hki] at v2 t3
    have hnx : (mvL L k d).take (i + 1) = (mvL L k d).take i ++ [mv d i (nx L k i)] := by rw [List.take_add_one, mvL_get (by omega)]; rfl
    obtain ⟨s, hs⟩ : ∃ s, nx L k i = s := ⟨_, rfl⟩
    rw [hs] at y2 hFs hnx
    obtain ⟨z0, sl, sh⟩ := s
    obtain ⟨rfl, f1, f2, f3⟩ := hFs
    simp only at f1 f2 f3
    have v3 : IntKind.i64.wrap (sl + d) = sl + d := wr_i64 _ (by omega) (by omega)
    have v4 : IntKind.i64.wrap (sh + d) = sh + d := wr_i64 _ (by omega) (by omega)
    have hmv : mv d i (0, sl, sh) = ((i : Int), sl + d, sh + d) := rfl
    obtain ⟨sl', e3'⟩ : ∃ z, sl + d = z := ⟨_, rfl⟩
    obtain ⟨sh', e4'⟩ : ∃ z, sh + d = z := ⟨_, rfl⟩
    rw [e3', e4'] at hmv
    rw [hmv] at hnx
    have v3' : IntKind.i64.wrap (sl + d) = sl' := v3.trans e3'
    have v4' : IntKind.i64.wrap (sh + d) = sh' := v4.trans e4'
    clear v3 v4 e2 e4
    obtain ⟨Y1, hY1⟩ : ∃ Y, h' ++ [(⟨.tip false, .ints .i64 [0, sl, sh]⟩ : ABlk)] = Y := ⟨_, rfl⟩
    have kY1 : Keeps h' Y1 none := by rw [← hY1]; exact Keeps.app h' [⟨.tip false, .ints .i64 [0, sl, sh]⟩] none rfl
    have bY1 : Y1[h'.length]? = some ⟨.tip false, .ints .i64 [0, sl, sh]⟩ := by rw [← hY1]; exact fend _ _ _
    have lY1 := (List.getElem?_eq_some_iff.1 bY1).1
    obtain ⟨Y2, hY2⟩ : ∃ Y, Y1 ++ [(⟨.tip false, .ints .i64 [(i : Int), sl', sh']⟩ : ABlk)] = Y := ⟨_, rfl⟩
    have kY2 : Keeps Y1 Y2 none := by rw [← hY2]; exact Keeps.app Y1 [⟨.tip false, .ints .i64 [(i : Int), sl', sh']⟩] none rfl
    have eN : newCells Y2 (.ints .i64 [0, 0, 0]) (.sl Y1.length 0 1 1) = some (.ints .i64 [(i : Int), sl', sh']) := newS (s := ((i : Int), sl', sh')) (by rw [← hY2]; exact fend _ _ _)
    have k2' := keepsT kh (keepsT kY1 kY2)
    obtain ⟨t', H', ws', eA, rt', hws', kA, _⟩ := appW (s := ((i : Int), sl', sh')) (rt.kept (keepsT kY1 kY2)) (by rw [List.length_take]; omega) k2'.2.1
    rw [← hnx] at rt'
    have kF : Keeps H5 H' none := keepsO hG5 k2' kA rt.blk
    have hww : ∀ l, wadd g.length l ws' = l := fun l => wadd_ge fun b hb => by have := hws' b hb; omega
    have nt' := rt'.na
    simp (maxDischargeDepth := 9) -implicitDefEqProofs only [push_cast, simprocAttr, nadd1, nadd2, nadd3, nadd4, nadd5, nadd6, nadd7, nadd8, nadd9, nadd10, nadd11, nadd12, ABlk.new, hlt', v1, v2, t3, nr, lr, m0', nt, ↓uia_eq, y1, ↓uld_eq 61, y2, v3', v4', hY1, bY1, lY1, hY2, eN, eA, hww, nt', g1]
    refine loop_next (m - (i + 1)) (by omega) ⟨i + 1, t', rfl, by omega, ?_, rt', kF, rfl⟩
    simp (maxDischargeDepth := 9) -implicitDefEqProofs only [push_cast, simprocAttr, nr, nt']; try simp
  have hnl : ¬ (i : Int) < (m : Int) := by omega
  have him : (mvL L k d).take i = mvL L k d := List.take_of_length_le (by rw [mvL_len]; omega)
  rw [him] at rt
  have hlm := mvL_len L k d
  have rL := r5.sv.kept kh
  have rM := rt.sv
  have lt := rt.len
  rw [hlm, hm] at lt
  have hMm := mvL_may hkL hF ⟨t2.1, t2.2⟩ (by omega)
  have eM1 := mean_c (0, lo, hi) rL (by omega)
  rw [mnA_ok (by omega) hmay hmH h0] at eM1
  have hmH2 : mayB (0, lo + d, hi + d) = true := mv_may (s := (0, lo, hi)) (i := 0) ⟨rfl, i0⟩ ⟨t2.1, t2.2⟩ (by omega)
  have eM2 := mean_c (0, lo + d, hi + d) rM (by omega)
  rw [mnA_ok (by omega) hMm hmH2 (by intro e; rw [e] at hlm; simp at hlm; omega)] at eM2
  simp only at eM1 eM2
  rw [mv_mean hkL hF ⟨t2.1, t2.2⟩ (by omega), mv_jit hkL hF ⟨t2.1, t2.2⟩ (by omega)] at eM2
  obtain ⟨p1, p2, p3⟩ := mean_in h0 (by omega) i0.2.1 (fun s _ => cmS_in i0.2.1 s)
  obtain ⟨M, hM⟩ : ∃ z, meanP L lo hi = z := ⟨_, rfl⟩
  obtain ⟨J, hJ⟩ : ∃ z, jitP L lo hi = z := ⟨_, rfl⟩
  rw [hM, hJ] at eM1 eM2
  rw [hM] at p2 p3
  have w1 : IntKind.i64.wrap (lo + d) = lo + d := wr_i64 _ (by omega) (by omega)
  have w2 : IntKind.i64.wrap (hi + d) = hi + d := wr_i64 _ (by omega) (by omega)
  have w3 : IntKind.i64.wrap (M + d) = M + d := wr_i64 _ (by omega) (by omega)
  obtain ⟨lo', q1⟩ : ∃ z, lo + d = z := ⟨_, rfl⟩
  obtain ⟨hi2, q2⟩ : ∃ z, hi + d = z := ⟨_, rfl⟩
  obtain ⟨Md, q3⟩ : ∃ z, M + d = z := ⟨_, rfl⟩
  have w1' : IntKind.i64.wrap (lo + d) = lo' := w1.trans q1
  have w2' : IntKind.i64.wrap (hi + d) = hi2 := w2.trans q2
  have w3' : IntKind.i64.wrap (M + d) = Md := w3.trans q3
  rw [q1, q2, q3] at eM2
  clear w1 w2 w3
  have hg6 := kh.2.2 hG5
  obtain ⟨w, H7, e7, i7, hG7, k7, n7⟩ := W_weights hg6 rL (by omega) hmay
  obtain ⟨w', H8, e8, i8, hG8, k8, n8⟩ := W_weights hG7 (rM.kept k7) (by omega) hMm
  have i7' := i7.kept k8
  have nw := i7.na
  have nw' := i8.na
  have lw := i7'.len
  have lw' := i8.len
  rw [wts_len, hm] at lw
  rw [wts_len, hlm, hm] at lw'
  have bb6 := keepsN kh _ _ b5
  have lb6 := (List.getElem?_eq_some_iff.1 bb6).1
  simp (maxDischargeDepth := 9) -implicitDefEqProofs only [push_cast, simprocAttr, nadd1, nadd2, nadd3, nadd4, nadd5, nadd6, nadd7, nadd8, nadd9, nadd10, nadd11, nadd12, ABlk.new, hnl, nr, lr, nt, lt, bb6, lb6, eM1, eM2, w1', w2', w3', e7, e8, nw, nw', lw, lw']
  have kk8 : Keeps H5 H8 none := keepsT kh (keepsT k7 k8)
  have rR8 := r5.kept kk8
  have rL8 := rR8.sv
  have b8 := keepsN kk8 _ _ b5
  have l8 := (List.getElem?_eq_some_iff.1 b8).1
  have n8' : ¬ H8.length ≤ g.length := by omega
  obtain ⟨sk, hsk⟩ : ∃ s, L[k]? = some s := ⟨_, List.getElem?_eq_getElem hkL⟩
  have msk := List.mem_of_getElem? hsk
  have gk := wts_get hsk
  obtain ⟨zk, hzk⟩ : ∃ z, wt1 (wid L) sk = z := ⟨_, rfl⟩
  rw [hzk] at gk
  obtain ⟨qk, ok, ck, y4, y5, y6'⟩ := rR8.atb hsk
  have y7' := (List.getElem?_eq_some_iff.1 y6').1
  have y8' : ¬ H8.length ≤ qk := by omega
  obtain ⟨qw, y6, y7, _⟩ := i7'.at gk
  have eWk : ∀ h, W CM 24 [spV sk] h = some (.int .i64 (wS sk), h, []) := fun h => up (span_Width (a := sk.1) (l := sk.2.1) (u := sk.2.2) h)
  obtain ⟨wk, hwk⟩ : ∃ z, wS sk = z := ⟨_, rfl⟩
  rw [hwk] at eWk
  clear e2 e4 e7 e8 eM1 eM2 hG1 hG3 hG4 him hnl hi' kh
  refine wp_kSeq (wp_kBlock ?_)
  refine wp_loop (fun n x h' ws => ∃ i : Nat, n = m - i ∧ i ≤ m ∧ x = [(0, r), (5, .ptr g.length 0), (9, .int .i64 (k : Int)), (20, w), (21, w'), (22, .int .i64 (i : Int))] ∧ h' = H8 ∧ ws = []) m ?_ ?_
  · refine ⟨0, by omega, by omega, ?_, rfl, rfl⟩
    simp (maxDischargeDepth := 9) -implicitDefEqProofs only [push_cast, simprocAttr, nr, nw, nw']; try rfl
  rintro n xx h2 ws ⟨i, rfl, hi', rfl, hh2, rfl⟩
  obtain rfl : H8 = h2 := hh2.symm
  have v1 : IntKind.i64.wrap ((i : Int) + 1) = (i : Int) + 1 := wr_i64 _ (by omega) (by omega)
  by_cases hlt : i < m
  · have hlt' : (i : Int) < (m : Int) := by omega
    have v2 : IntKind.i64.wrap ((k : Int) + (i : Int)) = ((k + i : Nat) : Int) := by rw [wr_i64 _ (by omega) (by omega)]; omega
    have t3 := tmod_nat (k + i) m
    have hjm := Nat.mod_lt (k + i) m0
    have hnj := nx_get h0 k i
    rw [hm] at hnj
    obtain ⟨j, hj⟩ : ∃ j, (k + i) % m = j := ⟨_, rfl⟩
    rw [hj] at t3 hjm hnj
    obtain ⟨ki, hki⟩ : ∃ z : Int, ((k + i : Nat) : Int) = z := ⟨_, rfl⟩
    rw [hki] at v2 t3
    have gi' := mv_wts hkL hF ⟨t2.1, t2.2⟩ (by omega) (show i < L.length by omega)
    have gj := wts_get hnj
    obtain ⟨zj, hzj⟩ : ∃ z, wt1 (wid L) (nx L k i) = z := ⟨_, rfl⟩
    rw [hzj] at gi' gj
    obtain ⟨si, hsi⟩ : ∃ s, L[i]? = some s := ⟨_, List.getElem?_eq_getElem (by omega)⟩
    have msi := List.mem_of_getElem? hsi
    have gi := wts_get hsi
    obtain ⟨z1, z2⟩ := wt1_in msi
    have zan := wt1_anti msk msi
    rw [hzk] at zan
    obtain ⟨zi, hzi⟩ : ∃ z, wt1 (wid L) si = z := ⟨_, rfl⟩
    rw [hzi] at gi z1 z2 zan
    have z1' : ¬ zi < 1024 := by omega
    have z2' : ¬ 1048576 < zi := by omega
    obtain ⟨qa, u1, u2, _⟩ := i8.at gi'
    obtain ⟨qb, u3, u4, _⟩ := i7'.at gj
    obtain ⟨qc, u5, u6, _⟩ := i7'.at gi
    obtain ⟨qd, u7, u8, _⟩ := rL8.at hsi
    have eWi : ∀ h, W CM 24 [spV si] h = some (.int .i64 (wS si), h, []) := fun h => up (span_Width (a := si.1) (l := si.2.1) (u := si.2.2) h)
    rw [hwk] at zan
    obtain ⟨wi, hwi⟩ : ∃ z, wS si = z := ⟨_, rfl⟩
    rw [hwi] at eWi zan
    by_cases c : wk ≤ wi
    · have zz : ¬ zk < zi := by have := zan c; omega
      simp (maxDischargeDepth := 9) -implicitDefEqProofs only [push_cast, simprocAttr, nadd1, nadd2, nadd3, nadd4, nadd5, nadd6, nadd7, nadd8, nadd9, nadd10, nadd11, nadd12, hlt', v1, v2, t3, m0', nr, lr, nw, nw', ↓uia_eq, u1, u3, u5, u7, y4, y6, ↓uld_eq 142, u2, ↓uld_eq 151, u4, ↓uld_eq 157, u6, ↓uld_eq 164, ↓uld_eq 170, u8, ↓uld_eq 175, y5, eWi, eWk, ↓uld_eq 182, ↓uld_eq 186, y7, y6', y7', y8', z1', z2', c, zz, decide_false, Bool.not_false, Bool.and_true]
      refine loop_next (m - (i + 1)) (by omega) ⟨i + 1, rfl, by omega, ?_, rfl, rfl⟩
      simp (maxDischargeDepth := 9) -implicitDefEqProofs only [push_cast, simprocAttr, nr, nw, nw']; try simp
    · simp (maxDischargeDepth := 9) -implicitDefEqProofs only [push_cast, simprocAttr, nadd1, nadd2, nadd3, nadd4, nadd5, nadd6, nadd7, nadd8, nadd9, nadd10, nadd11, nadd12, hlt', v1, v2, t3, m0', nr, lr, nw, nw', ↓uia_eq, u1, u3, u5, u7, y4, y6, ↓uld_eq 142, u2, ↓uld_eq 151, u4, ↓uld_eq 157, u6, ↓uld_eq 164, ↓uld_eq 170, u8, ↓uld_eq 175, y5, eWi, eWk, ↓uld_eq 182, ↓uld_eq 186, y7, y6', y7', y8', z1', z2', c, decide_false, Bool.not_false, Bool.and_true]
      refine loop_next (m - (i + 1)) (by omega) ⟨i + 1, rfl, by omega, ?_, rfl, rfl⟩
      simp (maxDischargeDepth := 9) -implicitDefEqProofs only [push_cast, simprocAttr, nr, nw, nw']; try simp
  have hnl : ¬ (i : Int) < (m : Int) := by omega
  have mk : mayB sk = true := List.all_eq_true.1 hmay _ msk
  obtain ⟨s0, s1, s2⟩ := sk
  obtain ⟨H9, hH9⟩ : ∃ H, H8 ++ [(⟨.tip false, .ints .i64 [s0, s1, s2]⟩ : ABlk)] = H := ⟨_, rfl⟩
  have b9 : H9[H8.length]? = some ⟨.tip false, .ints .i64 [s0, s1, s2]⟩ := by rw [← hH9]; exact fend _ _ _
  have eP := mean_c (v := .sl H8.length 0 1 1) (L := [(s0, s1, s2)]) (0, lo, hi) (Or.inr ⟨H8.length, 1, .tip false, [s0, s1, s2], false, b9, Or.inr ⟨false, rfl⟩, rfl, Or.inl ⟨rfl, Nat.le_refl _⟩⟩) (by show 1 ≤ 9223372036854775806; omega)
  rw [mnA_ok (by show 1 ≤ 16; omega) (by simp [mk]) hmH (by simp)] at eP
  obtain ⟨H10, hH10⟩ : ∃ H, H9 ++ [(⟨.tip false, .ints .i64 [s0, s1, s2, s0, s1, s2]⟩ : ABlk)] = H := ⟨_, rfl⟩
  have b10 : H10[H9.length]? = some ⟨.tip false, .ints .i64 [s0, s1, s2, s0, s1, s2]⟩ := by rw [← hH10]; exact fend _ _ _
  have eQ := mean_c (v := .sl H9.length 0 2 2) (L := [(s0, s1, s2), (s0, s1, s2)]) (0, lo, hi) (Or.inr ⟨H9.length, 2, .tip false, [s0, s1, s2, s0, s1, s2], false, b10, Or.inr ⟨false, rfl⟩, rfl, Or.inl ⟨rfl, Nat.le_refl _⟩⟩) (by show 2 ≤ 9223372036854775806; omega)
  rw [mnA_ok (by show 2 ≤ 16; omega) (by simp [mk]) hmH (by simp)] at eQ
  obtain ⟨d1, d2⟩ := double (s := (s0, s1, s2)) (lo := lo) (hi := hi) i0.2.1
  obtain ⟨_, p4, p5⟩ := mean_in (L := [(s0, s1, s2)]) (lo := lo) (hi := hi) (by simp) (by show 1 ≤ 16; omega) i0.2.1 (fun s _ => cmS_in i0.2.1 s)
  simp only at eP eQ
  obtain ⟨P, hP⟩ : ∃ z, meanP [(s0, s1, s2)] lo hi = z := ⟨_, rfl⟩
  obtain ⟨Q, hQ⟩ : ∃ z, meanP [(s0, s1, s2), (s0, s1, s2)] lo hi = z := ⟨_, rfl⟩
  rw [hP] at eP d1 d2 p4 p5
  rw [hQ] at eQ d1 d2
  have x1 : IntKind.i64.wrap (P - Q) = P - Q := wr_i64 _ (by omega) (by omega)
  obtain ⟨PQ, hPQ⟩ : ∃ z, P - Q = z := ⟨_, rfl⟩
  rw [hPQ] at d1 d2
  have x1' : IntKind.i64.wrap (P - Q) = PQ := x1.trans hPQ
  have k9 : Keeps H8 H9 none := by rw [← hH9]; exact Keeps.app H8 [⟨.tip false, .ints .i64 [s0, s1, s2]⟩] none rfl
  have bb9 := keepsN k9 _ _ b8
  have lb9 := (List.getElem?_eq_some_iff.1 bb9).1
  have n9' : ¬ H9.length ≤ g.length := by omega
  have y9' := keepsN k9 _ _ y6'
  obtain ⟨qk2, y4', y5', _⟩ := (rL8.kept k9).at hsk
  obtain rfl : qk = qk2 := by
    have := (y4 []).symm.trans (y4' [])
    simp only [Option.some.injEq, Prod.mk.injEq, AV.ptr.injEq] at this
    exact this.1.1
  simp (maxDischargeDepth := 9) -implicitDefEqProofs only [push_cast, simprocAttr, nadd1, nadd2, nadd3, nadd4, nadd5, nadd6, nadd7, nadd8, nadd9, nadd10, nadd11, nadd12, ABlk.new, hnl, nr, lr, nw, nw', ↓uia_eq, y4, ↓uld_eq 193, y5, b8, l8, n8', hH9, eP, ↓uld_eq 204, ↓uld_eq 208, y5', y6', y7', y8', y9', bb9, lb9, n9', hH10, eQ, x1', d1, d2, aw, decide_false, Bool.not_false, Bool.and_true]
theorem moves_law (js : AHeap) (avs : List AV) (hx : Ext js) (ht : TyA (CM.gl ++ js) [.one (.sl [.i .i64, .i .i64, .i .i64]), .agg [.i .i64, .i .i64, .i .i64], .one (.i .u64), .one (.i .u8)] avs) : ∃ h' ws, W CM 11 avs (CM.gl ++ js) = some (.bool true, h', ws) := by
  simp only [TyA] at ht
  obtain ⟨v, _, rfl, k0, cs1, _, rfl, k1, x, _, rfl, k2, y, _, rfl, k3, rfl⟩ := ht
  simp only [TyL, Ty] at k1 k2 k3
  obtain ⟨_, _, rfl, ⟨n1, rfl, _, _⟩, _, _, rfl, ⟨n2, rfl, _, _⟩, _, _, rfl, ⟨n3, rfl, _, _⟩, rfl⟩ := k1
  obtain ⟨bb, rfl, a0, a1⟩ := k2
  obtain ⟨z, rfl, a2, a3⟩ := k3
  have e0 : IntKind.u64.min = 0 := rfl
  have e1 : IntKind.u64.max = 18446744073709551615 := rfl
  have e2 : IntKind.u8.min = 0 := rfl
  have e3 : IntKind.u8.max = 255 := rfl
  obtain ⟨a, rfl⟩ := Int.eq_ofNat_of_zero_le (a := z) (by omega)
  refine W_law (m := M11) (fun _ => rfl) rfl ?_ fun h0 => ?_
  · obtain ⟨L, u, _⟩ := arg_sv k0
    exact moves_body _ (extM hx) v L n1 n2 n3 bb a (by omega) (by omega) (by omega) u
  · simp only [AV.lts, Bool.and_eq_true] at h0
    obtain ⟨L, u, _⟩ := arg_sv (ty_nil3 (g' := CM.gl) k0 h0.1)
    exact moves_body _ glM v L n1 n2 n3 bb a (by omega) (by omega) (by omega) u
theorem moves_kinds : aksOf X.P 20 [64, 33, 40, 5] = some [.one (.sl [.i .i64, .i .i64, .i .i64]), .agg [.i .i64, .i .i64, .i .i64], .one (.i .u64), .one (.i .u8)] := by kernel_rfl
end Go.Proofs.YtcpiohklljppaaaW.AI.D
