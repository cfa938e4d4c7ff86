import Derived.Test.YtcpiohklljppaaaAIDcmbb
namespace Go.Proofs.YtcpiohklljppaaaW.AI.D
open Go Go.Proofs.YtcpiohklljppaaaW.AI
set_option maxRecDepth 100000
set_option linter.unusedSimpArgs false
set_option linter.unusedVariables false
set_option linter.unusedSectionVars false
set_option maxHeartbeats 8000000 in
theorem nearer_body (g : AHeap) (hg : Good g) (x0 x1 x2 y0 y1 y2 : Int) :
    Wp (xbody (W CM) M12 [.agg [.int .i64 x0, .int .i64 x1, .int .i64 x2], .agg [.int .i64 y0, .int .i64 y1, .int .i64 y2]] g) fun r => r.1 = .bool true := by
  have aw := fun h => al24 h
  obtain ⟨H1, hH1⟩ : ∃ H, g ++ [⟨.tip false, .ints .i64 [x0, x1, x2]⟩, ⟨.tip false, .ints .i64 [y0, y1, y2]⟩, ⟨.tip false, .ints .i64 [x0, x1, x2, y0, y1, y2]⟩] = H := ⟨_, rfl⟩
  have hG1 : Good H1 := by rw [← hH1]; exact good_app hg rfl
  have b2 : H1[g.length + 2]? = some ⟨.tip false, .ints .i64 [x0, x1, x2, y0, y1, y2]⟩ := by rw [← hH1, List.getElem?_append_right (by omega)]; simp
  obtain ⟨r, js, eF, rw', hG2⟩ := fit_c (v := .sl (g.length + 2) 0 2 2) (L := [(x0, x1, x2), (y0, y1, y2)]) hG1 (Or.inr ⟨g.length + 2, 2, .tip false, [x0, x1, x2, y0, y1, y2], false, b2, Or.inr ⟨false, rfl⟩, rfl, Or.inl ⟨rfl, Nat.le_refl _⟩⟩)
  obtain ⟨s0, hs0⟩ : ∃ s, fitS (x0, x1, x2) = s := ⟨_, rfl⟩
  obtain ⟨s1, hs1⟩ : ∃ s, fitS (y0, y1, y2) = s := ⟨_, rfl⟩
  have i0 := fitS_in (x0, x1, x2)
  have i1 := fitS_in (y0, y1, y2)
  have hL : fitL [(x0, x1, x2), (y0, y1, y2)] = [s0, s1] := by simp [fitL, hs0, hs1]
  rw [hL] at rw'
  rw [hs0] at i0
  rw [hs1] at i1
  have eF' := up eF
  obtain ⟨_, h⟩ | ⟨p, o, _, ep, rfl⟩ := rw'
  · cases h
  obtain ⟨H2, hH2⟩ : ∃ H, H1 ++ js = H := ⟨_, rfl⟩
  rw [hH2] at eF' hG2 ep
  have eW0 := fun h => up (span_Width (a := s0.1) (l := s0.2.1) (u := s0.2.2) h)
  have eW1 := fun h => up (span_Width (a := s1.1) (l := s1.2.1) (u := s1.2.2) h)
  have eW0' : ∀ h, W CM 24 [spV s0] h = some (.int .i64 (s0.2.2 - s0.2.1), h, []) := fun h => by rw [← wS_of (fit_may i0)]; exact eW0 h
  have eW1' : ∀ h, W CM 24 [spV s1] h = some (.int .i64 (s1.2.2 - s1.2.1), h, []) := fun h => by rw [← wS_of (fit_may i1)]; exact eW1 h
  have eD0 : ∀ h, W CM 31 [spV s0] h = some (.int .i64 (s0.2.1 + (s0.2.2 - s0.2.1) / 2), h, []) := fun h => by rw [← mS_of (fit_may i0)]; exact up (span_Mid (a := s0.1) (l := s0.2.1) (u := s0.2.2) h)
  have eD1 : ∀ h, W CM 31 [spV s1] h = some (.int .i64 (s1.2.1 + (s1.2.2 - s1.2.1) / 2), h, []) := fun h => by rw [← mS_of (fit_may i1)]; exact up (span_Mid (a := s1.1) (l := s1.2.1) (u := s1.2.2) h)
  clear eW0 eW1 hs0 hs1 hL eF
  obtain ⟨z0, l0, h0⟩ := s0
  obtain ⟨z1, l1, h1⟩ := s1
  obtain ⟨rfl, i0⟩ := i0
  obtain ⟨rfl, i1⟩ := i1
  simp only at i0 i1
  have lp := (List.getElem?_eq_some_iff.1 ep).1
  change H2[p]? = some ⟨.tip o, .ints .i64 [0, l0, h0, 0, l1, h1]⟩ at ep
  change W CM 39 [.sl (g.length + 2) 0 2 2] H1 = some (.gsl p 0 2 3 false, H2, []) at eF'
  change ∀ h, W CM 24 [.agg [.int .i64 0, .int .i64 l0, .int .i64 h0]] h = some (.int .i64 (h0 - l0), h, []) at eW0'
  change ∀ h, W CM 24 [.agg [.int .i64 0, .int .i64 l1, .int .i64 h1]] h = some (.int .i64 (h1 - l1), h, []) at eW1'
  change ∀ h, W CM 31 [.agg [.int .i64 0, .int .i64 l0, .int .i64 h0]] h = some (.int .i64 (l0 + (h0 - l0) / 2), h, []) at eD0
  change ∀ h, W CM 31 [.agg [.int .i64 0, .int .i64 l1, .int .i64 h1]] h = some (.int .i64 (l1 + (h1 - l1) / 2), h, []) at eD1
  obtain ⟨w0, hw0⟩ : ∃ z, h0 - l0 = z := ⟨_, rfl⟩
  obtain ⟨w1, hw1⟩ : ∃ z, h1 - l1 = z := ⟨_, rfl⟩
  rw [hw0] at eW0' eD0
  rw [hw1] at eW1' eD1
  obtain ⟨m0, hm0⟩ : ∃ z, l0 + w0 / 2 = z := ⟨_, rfl⟩
  obtain ⟨m1, hm1⟩ : ∃ z, l1 + w1 / 2 = z := ⟨_, rfl⟩
  rw [hm0] at eD0
  rw [hm1] at eD1
  have np : ¬ H2.length ≤ p := by omega
  by_cases c : w1 < w0
  · have kK : ∀ (H : AHeap) (z : ABlk), ((if o = true then kill p H else H).set p z).length = H.length := fun H z => by cases o <;> simp [kill]
    obtain ⟨K2, hK2⟩ : ∃ H, (if o = true then kill p H2 else H2) = H := ⟨_, rfl⟩
    obtain ⟨H3, hH3⟩ : ∃ H, K2.set p ⟨.tip o, .ints .i64 [0, l1, h1, 0, l1, h1]⟩ = H := ⟨_, rfl⟩
    have lp3' : H3.length = H2.length := by rw [← hH3, ← hK2]; exact kK _ _
    have lp3 : p < H3.length := by omega
    have np3 : ¬ H3.length ≤ p := by omega
    have e3 : H3[p]? = some ⟨.tip o, .ints .i64 [0, l1, h1, 0, l1, h1]⟩ := by rw [← hH3, List.getElem?_set_self (by rw [← hH3] at lp3; simpa using lp3)]
    obtain ⟨K3, hK3⟩ : ∃ H, (if o = true then kill p H3 else H3) = H := ⟨_, rfl⟩
    obtain ⟨H4, hH4⟩ : ∃ H, K3.set p ⟨.tip o, .ints .i64 [0, l1, h1, 0, l0, h0]⟩ = H := ⟨_, rfl⟩
    have lp4' : H4.length = H3.length := by rw [← hH4, ← hK3]; exact kK _ _
    have lp4 : p < H4.length := by omega
    have np4 : ¬ H4.length ≤ p := by omega
    have e4 : H4[p]? = some ⟨.tip o, .ints .i64 [0, l1, h1, 0, l0, h0]⟩ := by rw [← hH4, List.getElem?_set_self (by rw [← hH4] at lp4; simpa using lp4)]
    have u : SV H4 (.gsl p 0 2 3 false) [(0, l1, h1), (0, l0, h0)] := Or.inr ⟨p, 0, .tip o, [0, l1, h1, 0, l0, h0], false, e4, Or.inr ⟨o, rfl⟩, rfl, Or.inr rfl⟩
    have eM := mean_c (0, (if l0 < l1 then l0 else l1), (if h1 < h0 then h0 else h1)) u (by show 2 ≤ 9223372036854775806; omega)
    obtain ⟨M, hM⟩ : ∃ z, meanP [(0, l1, h1), (0, l0, h0)] (if l0 < l1 then l0 else l1) (if h1 < h0 then h0 else h1) = z := ⟨_, rfl⟩
    obtain ⟨J, hJ⟩ : ∃ z, jitP [(0, l1, h1), (0, l0, h0)] (if l0 < l1 then l0 else l1) (if h1 < h0 then h0 else h1) = z := ⟨_, rfl⟩
    have k1 := fit_may (s := (0, l1, h1)) ⟨rfl, i1⟩
    have k2 := fit_may (s := (0, l0, h0)) ⟨rfl, i0⟩
    have q1 : mS (0, l1, h1) = m1 := by rw [mS_of k1]; show l1 + (h1 - l1) / 2 = m1; rw [hw1, hm1]
    have q2 : mS (0, l0, h0) = m0 := by rw [mS_of k2]; show l0 + (h0 - l0) / 2 = m0; rw [hw0, hm0]
    have q3 : wS (0, l1, h1) = w1 := by rw [wS_of k1]; exact hw1
    have q4 : wS (0, l0, h0) = w0 := by rw [wS_of k2]; exact hw0
    have eV : mnA [(0, l1, h1), (0, l0, h0)] (0, (if l0 < l1 then l0 else l1), (if h1 < h0 then h0 else h1)) = .tup [.int .i64 M, .int .i64 J, .int .i64 0] := by
      have k3 : mayB (0, (if l0 < l1 then l0 else l1), (if h1 < h0 then h0 else h1)) = true := fit_may (by refine ⟨rfl, ?_⟩; simp only; split <;> split <;> omega)
      unfold mnA mnV
      rw [if_neg (by simp [k1, k2, k3]), if_neg (by simp)]
      simp only [hM, hJ]
    rw [eV] at eM
    have pl := nearer_plain (s := (0, l1, h1)) (t := (0, l0, h0)) (lo := if l0 < l1 then l0 else l1) (hi := if h1 < h0 then h0 else h1) k1 k2 (by rw [q3, q4]; omega) (by rw [q1]; split <;> omega) (by rw [q1]; split <;> omega) (by rw [q2]; split <;> omega) (by rw [q2]; split <;> omega)
    obtain ⟨_, r2, r3⟩ := mean_in (L := [(0, l1, h1), (0, l0, h0)]) (lo := if l0 < l1 then l0 else l1) (hi := if h1 < h0 then h0 else h1) (by simp) (by show 2 ≤ 16; omega) (by split <;> split <;> omega) (fun s _ => cmS_in (by split <;> split <;> omega) s)
    rw [hM] at pl r2 r3
    rw [q1, q2] at pl
    clear eV hM hJ
    have v1 : IntKind.i64.wrap (M - m1) = M - m1 := wr_i64 _ (by split at r3 <;> split at r2 <;> omega) (by split at r3 <;> split at r2 <;> omega)
    have v2 : IntKind.i64.wrap (M - m0) = M - m0 := wr_i64 _ (by split at r3 <;> split at r2 <;> omega) (by split at r3 <;> split at r2 <;> omega)
    have bnd : -1152921504606846976 ≤ M - m1 ∧ M - m1 ≤ 1152921504606846976 ∧ -1152921504606846976 ≤ M - m0 ∧ M - m0 ≤ 1152921504606846976 := by split at r3 <;> split at r2 <;> omega
    clear r2 r3
    obtain ⟨x, hx⟩ : ∃ z, M - m1 = z := ⟨_, rfl⟩
    obtain ⟨y, hy⟩ : ∃ z, M - m0 = z := ⟨_, rfl⟩
    rw [hx] at pl bnd
    rw [hy] at pl bnd
    have v1' : IntKind.i64.wrap (M - m1) = x := v1.trans hx
    have v2' : IntKind.i64.wrap (M - m0) = y := v2.trans hy
    clear v1 v2
    have v3 : IntKind.i64.wrap (0 - x) = -x := by rw [wr_i64 _ (by omega) (by omega)]; omega
    have v4 : IntKind.i64.wrap (0 - y) = -y := by rw [wr_i64 _ (by omega) (by omega)]; omega
    obtain ⟨x', hx'⟩ : ∃ z, -x = z := ⟨_, rfl⟩
    obtain ⟨y', hy'⟩ : ∃ z, -y = z := ⟨_, rfl⟩
    rw [hx'] at v3 pl
    rw [hy'] at v4 pl
    obtain ⟨P, hP⟩ : ∃ z, (if x < x' then x' else x) = z := ⟨_, rfl⟩
    obtain ⟨Q, hQ⟩ : ∃ z, (if y < y' then y' else y) = z := ⟨_, rfl⟩
    have hP' : P = max x x' := by rw [← hP]; split <;> omega
    have hQ' : Q = max y y' := by rw [← hQ]; split <;> omega
    have v5 : IntKind.i64.wrap (Q + 4) = Q + 4 := wr_i64 _ (by omega) (by omega)
    rw [← hP', ← hQ'] at pl
    obtain ⟨Q4, hQ4⟩ : ∃ z, Q + 4 = z := ⟨_, rfl⟩
    rw [hQ4] at v5 pl
    have v5' : IntKind.i64.wrap (Q + 4) = Q4 := by rw [hQ4]; exact v5
    clear hP' hQ' v5
    simp (maxDischargeDepth := 9) -implicitDefEqProofs only [push_cast, simprocAttr, nadd1, nadd2, nadd3, nadd4, nadd5, nadd6, nadd7, nadd8, nadd9, nadd10, nadd11, nadd12, M12, ABlk.new, hH1, b2, eF', ep, lp, np, eW0', eW1', c, decide_false, Bool.not_false, Bool.and_true, hK2, hH3, e3, lp3, np3, hK3, hH4, e4, lp4, np4, eM, eD0, eD1, v1', v2', v3, v4, hP, hQ, v5', pl, aw]
  · skip
    have u : SV H2 (.gsl p 0 2 3 false) [(0, l0, h0), (0, l1, h1)] := Or.inr ⟨p, 0, .tip o, [0, l0, h0, 0, l1, h1], false, ep, Or.inr ⟨o, rfl⟩, rfl, Or.inr rfl⟩
    have eM := mean_c (0, (if l1 < l0 then l1 else l0), (if h0 < h1 then h1 else h0)) u (by show 2 ≤ 9223372036854775806; omega)
    obtain ⟨M, hM⟩ : ∃ z, meanP [(0, l0, h0), (0, l1, h1)] (if l1 < l0 then l1 else l0) (if h0 < h1 then h1 else h0) = z := ⟨_, rfl⟩
    obtain ⟨J, hJ⟩ : ∃ z, jitP [(0, l0, h0), (0, l1, h1)] (if l1 < l0 then l1 else l0) (if h0 < h1 then h1 else h0) = z := ⟨_, rfl⟩
    have k1 := fit_may (s := (0, l0, h0)) ⟨rfl, i0⟩
    have k2 := fit_may (s := (0, l1, h1)) ⟨rfl, i1⟩
    have q1 : mS (0, l0, h0) = m0 := by rw [mS_of k1]; show l0 + (h0 - l0) / 2 = m0; rw [hw0, hm0]
    have q2 : mS (0, l1, h1) = m1 := by rw [mS_of k2]; show l1 + (h1 - l1) / 2 = m1; rw [hw1, hm1]
    have q3 : wS (0, l0, h0) = w0 := by rw [wS_of k1]; exact hw0
    have q4 : wS (0, l1, h1) = w1 := by rw [wS_of k2]; exact hw1
    have eV : mnA [(0, l0, h0), (0, l1, h1)] (0, (if l1 < l0 then l1 else l0), (if h0 < h1 then h1 else h0)) = .tup [.int .i64 M, .int .i64 J, .int .i64 0] := by
      have k3 : mayB (0, (if l1 < l0 then l1 else l0), (if h0 < h1 then h1 else h0)) = true := fit_may (by refine ⟨rfl, ?_⟩; simp only; split <;> split <;> omega)
      unfold mnA mnV
      rw [if_neg (by simp [k1, k2, k3]), if_neg (by simp)]
      simp only [hM, hJ]
    rw [eV] at eM
    have pl := nearer_plain (s := (0, l0, h0)) (t := (0, l1, h1)) (lo := if l1 < l0 then l1 else l0) (hi := if h0 < h1 then h1 else h0) k1 k2 (by rw [q3, q4]; omega) (by rw [q1]; split <;> omega) (by rw [q1]; split <;> omega) (by rw [q2]; split <;> omega) (by rw [q2]; split <;> omega)
    obtain ⟨_, r2, r3⟩ := mean_in (L := [(0, l0, h0), (0, l1, h1)]) (lo := if l1 < l0 then l1 else l0) (hi := if h0 < h1 then h1 else h0) (by simp) (by show 2 ≤ 16; omega) (by split <;> split <;> omega) (fun s _ => cmS_in (by split <;> split <;> omega) s)
    rw [hM] at pl r2 r3
    rw [q1, q2] at pl
    clear eV hM hJ
    have v1 : IntKind.i64.wrap (M - m0) = M - m0 := wr_i64 _ (by split at r3 <;> split at r2 <;> omega) (by split at r3 <;> split at r2 <;> omega)
    have v2 : IntKind.i64.wrap (M - m1) = M - m1 := wr_i64 _ (by split at r3 <;> split at r2 <;> omega) (by split at r3 <;> split at r2 <;> omega)
    have bnd : -1152921504606846976 ≤ M - m0 ∧ M - m0 ≤ 1152921504606846976 ∧ -1152921504606846976 ≤ M - m1 ∧ M - m1 ≤ 1152921504606846976 := by split at r3 <;> split at r2 <;> omega
    clear r2 r3
    obtain ⟨x, hx⟩ : ∃ z, M - m0 = z := ⟨_, rfl⟩
    obtain ⟨y, hy⟩ : ∃ z, M - m1 = z := ⟨_, rfl⟩
    rw [hx] at pl bnd
    rw [hy] at pl bnd
    have v1' : IntKind.i64.wrap (M - m0) = x := v1.trans hx
    have v2' : IntKind.i64.wrap (M - m1) = y := v2.trans hy
    clear v1 v2
    have v3 : IntKind.i64.wrap (0 - x) = -x := by rw [wr_i64 _ (by omega) (by omega)]; omega
    have v4 : IntKind.i64.wrap (0 - y) = -y := by rw [wr_i64 _ (by omega) (by omega)]; omega
    obtain ⟨x', hx'⟩ : ∃ z, -x = z := ⟨_, rfl⟩
    obtain ⟨y', hy'⟩ : ∃ z, -y = z := ⟨_, rfl⟩
    rw [hx'] at v3 pl
    rw [hy'] at v4 pl
    obtain ⟨P, hP⟩ : ∃ z, (if x < x' then x' else x) = z := ⟨_, rfl⟩
    obtain ⟨Q, hQ⟩ : ∃ z, (if y < y' then y' else y) = z := ⟨_, rfl⟩
    have hP' : P = max x x' := by rw [← hP]; split <;> omega
    have hQ' : Q = max y y' := by rw [← hQ]; split <;> omega
    have v5 : IntKind.i64.wrap (Q + 4) = Q + 4 := wr_i64 _ (by omega) (by omega)
    rw [← hP', ← hQ'] at pl
    obtain ⟨Q4, hQ4⟩ : ∃ z, Q + 4 = z := ⟨_, rfl⟩
    rw [hQ4] at v5 pl
    have v5' : IntKind.i64.wrap (Q + 4) = Q4 := by rw [hQ4]; exact v5
    clear hP' hQ' v5
    simp (maxDischargeDepth := 9) -implicitDefEqProofs only [push_cast, simprocAttr, nadd1, nadd2, nadd3, nadd4, nadd5, nadd6, nadd7, nadd8, nadd9, nadd10, nadd11, nadd12, M12, ABlk.new, hH1, b2, eF', ep, lp, np, eW0', eW1', c, decide_false, Bool.not_false, Bool.and_true, eM, eD0, eD1, v1', v2', v3, v4, hP, hQ, v5', pl, aw]
theorem nearer_bodyH (g : AHeap) (hg : Good g) (x0 x1 x2 y0 y1 y2 : Int) (a0 : -9223372036854775808 ≤ x0) (b0 : x0 ≤ 9223372036854775807) (a1 : -9223372036854775808 ≤ x1) (b1 : x1 ≤ 9223372036854775807) (a2 : -9223372036854775808 ≤ x2) (b2 : x2 ≤ 9223372036854775807) (a3 : -9223372036854775808 ≤ y0) (b3 : y0 ≤ 9223372036854775807) (a4 : -9223372036854775808 ≤ y1) (b4 : y1 ≤ 9223372036854775807) (a5 : -9223372036854775808 ≤ y2) (b5 : y2 ≤ 9223372036854775807) :
    Wp (xbody (W CM) M12 [.agg [.int .i64 x0, .int .i64 x1, .int .i64 x2], .agg [.int .i64 y0, .int .i64 y1, .int .i64 y2]] g) fun r => r.1 = .bool true := nearer_body g hg x0 x1 x2 y0 y1 y2
theorem nearer_law (js : AHeap) (avs : List AV) (hx : Ext js) (ht : TyA (CM.gl ++ js) [.agg [.i .i64, .i .i64, .i .i64], .agg [.i .i64, .i .i64, .i .i64]] avs) : ∃ h' ws, W CM 12 avs (CM.gl ++ js) = some (.bool true, h', ws) := by
  simp only [TyA] at ht
  obtain ⟨cs0, _, rfl, k0, cs1, _, rfl, k1, rfl⟩ := ht
  simp only [TyL, Ty] at k0 k1
  obtain ⟨_, _, rfl, ⟨n0, rfl, a0, b0⟩, _, _, rfl, ⟨n1, rfl, a1, b1⟩, _, _, rfl, ⟨n2, rfl, a2, b2⟩, rfl⟩ := k0
  obtain ⟨_, _, rfl, ⟨n3, rfl, a3, b3⟩, _, _, rfl, ⟨n4, rfl, a4, b4⟩, _, _, rfl, ⟨n5, rfl, a5, b5⟩, rfl⟩ := k1
  have a0' : -9223372036854775808 ≤ n0 := a0
  have b0' : n0 ≤ 9223372036854775807 := b0
  have a1' : -9223372036854775808 ≤ n1 := a1
  have b1' : n1 ≤ 9223372036854775807 := b1
  have a2' : -9223372036854775808 ≤ n2 := a2
  have b2' : n2 ≤ 9223372036854775807 := b2
  have a3' : -9223372036854775808 ≤ n3 := a3
  have b3' : n3 ≤ 9223372036854775807 := b3
  have a4' : -9223372036854775808 ≤ n4 := a4
  have b4' : n4 ≤ 9223372036854775807 := b4
  have a5' : -9223372036854775808 ≤ n5 := a5
  have b5' : n5 ≤ 9223372036854775807 := b5
  exact W_law (m := M12) (fun _ => rfl) rfl (nearer_bodyH _ (extM hx) n0 n1 n2 n3 n4 n5 a0' b0' a1' b1' a2' b2' a3' b3' a4' b4' a5' b5') fun _ => nearer_bodyH _ glM n0 n1 n2 n3 n4 n5 a0' b0' a1' b1' a2' b2' a3' b3' a4' b4' a5' b5'
theorem nearer_kinds : aksOf X.P 20 [33, 33] = some [.agg [.i .i64, .i .i64, .i .i64], .agg [.i .i64, .i .i64, .i .i64]] := by kernel_rfl
end Go.Proofs.YtcpiohklljppaaaW.AI.D
