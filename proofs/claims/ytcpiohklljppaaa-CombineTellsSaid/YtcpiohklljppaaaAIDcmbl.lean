import Derived.Test.YtcpiohklljppaaaAIDcmbj
namespace Go.Proofs.YtcpiohklljppaaaW.AI.D
open Go Go.Proofs.YtcpiohklljppaaaW.AI
set_option maxRecDepth 100000
set_option linter.unusedSimpArgs false
set_option linter.unusedVariables false
set_option linter.unusedSectionVars false
theorem sc5 (k : IntKind) (a b c : Int) : scEqs [0, 0, 0] [.int k a, .int k b, .int k c] [.int k a, .int k b, .int k c] = some true := by simp [scEqs, scEq]
set_option maxHeartbeats 16000000 in
theorem tells_body (g : AHeap) (hg : Good g) (v : AV) (L0 : List Sp) (x0 x1 x2 : Int) (u : SV g v L0) (hln : L0.length ≤ 9223372036854775807) :
    Wp (xbody (W CM) M9 [v, .agg [.int .i64 x0, .int .i64 x1, .int .i64 x2]] g) fun r => r.1 = .bool true := by
  have aw := fun h => al24 h
  have nv := u.na
  have lv := u.len
  obtain ⟨H1, hH1⟩ : ∃ H, g ++ [(⟨.tip false, .ints .i64 [x0, x1, x2]⟩ : ABlk)] = H := ⟨_, rfl⟩
  have hG1 : Good H1 := by rw [← hH1]; exact good_app hg rfl
  have b1 : H1[g.length]? = some ⟨.tip false, .ints .i64 [x0, x1, x2]⟩ := by rw [← hH1]; exact fend _ _ _
  have l1 := (List.getElem?_eq_some_iff.1 b1).1
  have u1 : SV H1 v L0 := by rw [← hH1]; exact u.app _
  obtain ⟨n, hn⟩ : ∃ n, L0.length = n := ⟨_, rfl⟩
  rw [hn] at lv
  obtain ⟨j, hj, hj20, hjn⟩ : ∃ j : Nat, (if (20 : Int) < (n : Int) then (20 : Int) else (n : Int)) = (j : Int) ∧ j ≤ 20 ∧ j ≤ n := by
    by_cases c : 20 < n
    · exact ⟨20, by rw [if_pos (by omega)]; rfl, Nat.le_refl _, by omega⟩
    · exact ⟨n, by rw [if_neg (by omega)], by omega, Nat.le_refl _⟩
  obtain ⟨l, eC, ul⟩ := u1.cut (show j ≤ L0.length by omega)
  obtain ⟨L, hL⟩ : ∃ L, L0.take j = L := ⟨_, rfl⟩
  have hLl : L.length ≤ 20 := by rw [← hL, List.length_take]; omega
  rw [hL] at ul
  have nl := ul.na
  have ll := ul.len
  have eN := ul.new
  obtain ⟨t, H2, eA, rt, k2⟩ := app_own (H := H1) L hLl
  have nt := rt.na
  have hG2 := k2.2.2 hG1
  have ul2 := ul.kept k2
  have b2 := keepsN k2 _ _ b1
  have l2 := (List.getElem?_eq_some_iff.1 b2).1
  have eM := mean_c (x0, x1, x2) rt.sv (by omega)
  have eR := up (rmean_c (x0, x1, x2) hG2 ul2 (by omega))
  have hmn : ∃ a b c : Int, mnA L (x0, x1, x2) = .tup [.int .i64 a, .int .i64 b, .int .i64 c] := ⟨_, _, _, rfl⟩
  obtain ⟨ma, mb, mc, hmn⟩ := hmn
  rw [hmn] at eM eR
  obtain ⟨a, b, H3, H4, K, eW, eX, ia, ib, k4, hK⟩ := both_weights hG2 rt.sv ul2 hLl
  have na' := ia.na
  have nb := ib.na
  have la := ia.len
  have lb := ib.len
  have ut4 := rt.sv.kept k4
  have ul4 := ul2.kept k4
  obtain ⟨kn, hkn⟩ : ∃ kn, K.length = kn := ⟨_, rfl⟩
  rw [hkn] at la lb hK
  obtain ⟨m, hm⟩ : ∃ m, L.length = m := ⟨_, rfl⟩
  rw [hm] at ll eA hLl
  simp (maxDischargeDepth := 9) -implicitDefEqProofs only [push_cast, simprocAttr, nadd1, nadd2, nadd3, nadd4, nadd5, nadd6, nadd7, nadd8, nadd9, nadd10, nadd11, nadd12, M9, ABlk.new, nv, lv, hH1, hj, ↓ucut3_eq, eC, nl, ll, eN, eA, nt, b2, l2, eM, eR, eW, eX, na', nb, la, lb]
  refine wp_kRes (wp_kSeq (wp_kBlock ?_))
  refine wp_loop (fun k x h' ws => ∃ i : Nat, k = kn - i ∧ i ≤ kn ∧ x = [(0, l), (5, t), (12, a), (13, b), (14, .int .i64 (i : Int))] ∧ h' = H4 ∧ ws = []) kn ?_ ?_
  · refine ⟨0, by omega, by omega, ?_, rfl, rfl⟩
    simp (maxDischargeDepth := 9) -implicitDefEqProofs only [push_cast, simprocAttr, nl, nt, na', nb]; try rfl
  rintro k xx h' ws ⟨i, rfl, hi', rfl, hh, rfl⟩
  obtain rfl : H4 = h' := hh.symm
  have v1 : IntKind.i64.wrap ((i : Int) + 1) = (i : Int) + 1 := wr_i64 _ (by omega) (by omega)
  by_cases hlt : i < kn
  · have hlt' : (i : Int) < (kn : Int) := by omega
    obtain ⟨d, hd⟩ : ∃ d, K[i]? = some d := ⟨_, List.getElem?_eq_getElem (by omega)⟩
    obtain ⟨q1, y1, y2, _⟩ := ia.at hd
    obtain ⟨q2, y3, y4, _⟩ := ib.at hd
    simp (maxDischargeDepth := 9) -implicitDefEqProofs only [push_cast, simprocAttr, nadd1, nadd2, nadd3, nadd4, nadd5, nadd6, nadd7, nadd8, nadd9, nadd10, nadd11, nadd12, hlt', v1, nl, nt, na', nb, la, lb, ↓uia_eq, y1, y3, ↓uld_eq 69, y2, ↓uld_eq 73, y4]
    refine loop_next (kn - (i + 1)) (by omega) ⟨i + 1, rfl, by omega, ?_, rfl, rfl⟩
    simp (maxDischargeDepth := 9) -implicitDefEqProofs only [push_cast, simprocAttr, nl, nt, na', nb]; try simp
  have hnl : ¬ (i : Int) < (kn : Int) := by omega
  simp (maxDischargeDepth := 9) -implicitDefEqProofs only [push_cast, simprocAttr, nadd1, nadd2, nadd3, nadd4, nadd5, nadd6, nadd7, nadd8, nadd9, nadd10, nadd11, nadd12, hnl, nl, nt, na', nb, la, lb]
  refine wp_kSeq (wp_kBlock ?_)
  refine wp_loop (fun k x h' ws => ∃ i : Nat, k = m - i ∧ i ≤ m ∧ x = [(0, l), (5, t), (15, .int .i64 (i : Int))] ∧ h' = H4 ∧ ws = []) m ?_ ?_
  · refine ⟨0, by omega, by omega, ?_, rfl, rfl⟩
    simp (maxDischargeDepth := 9) -implicitDefEqProofs only [push_cast, simprocAttr, nl, nt]; try rfl
  rintro k xx h' ws ⟨i, rfl, hi', rfl, hh, rfl⟩
  obtain rfl : H4 = h' := hh.symm
  have v1 : IntKind.i64.wrap ((i : Int) + 1) = (i : Int) + 1 := wr_i64 _ (by omega) (by omega)
  by_cases hlt : i < m
  · have hlt' : (i : Int) < (m : Int) := by omega
    obtain ⟨s, hs⟩ : ∃ s, L[i]? = some s := ⟨_, List.getElem?_eq_getElem (by omega)⟩
    obtain ⟨q1, y1, y2, _⟩ := ut4.at hs
    obtain ⟨q2, y3, y4, _⟩ := ul4.at hs
    obtain ⟨sx, sy, sz⟩ := s
    change _ = some (AV.agg [.int .i64 sx, .int .i64 sy, .int .i64 sz], _, _) at y2 y4
    simp (maxDischargeDepth := 9) -implicitDefEqProofs only [push_cast, simprocAttr, nadd1, nadd2, nadd3, nadd4, nadd5, nadd6, nadd7, nadd8, nadd9, nadd10, nadd11, nadd12, hlt', v1, nl, nt, ll, ↓uia_eq, y1, y3, ↓uld_eq 84, y2, ↓uld_eq 88, y4, sc5]
    refine loop_next (m - (i + 1)) (by omega) ⟨i + 1, rfl, by omega, ?_, rfl, rfl⟩
    simp (maxDischargeDepth := 9) -implicitDefEqProofs only [push_cast, simprocAttr, nl, nt]; try simp
  have hnl : ¬ (i : Int) < (m : Int) := by omega
  simp (maxDischargeDepth := 9) -implicitDefEqProofs only [push_cast, simprocAttr, nadd1, nadd2, nadd3, nadd4, nadd5, nadd6, nadd7, nadd8, nadd9, nadd10, nadd11, nadd12, hnl, nl, nt, ll, aw]
theorem tells_law (js : AHeap) (avs : List AV) (hx : Ext js) (ht : TyA (CM.gl ++ js) [.one (.sl [.i .i64, .i .i64, .i .i64]), .agg [.i .i64, .i .i64, .i .i64]] avs) : ∃ h' ws, W CM 9 avs (CM.gl ++ js) = some (.bool true, h', ws) := by
  simp only [TyA] at ht
  obtain ⟨v, _, rfl, k0, cs1, _, rfl, k1, rfl⟩ := ht
  simp only [TyL, Ty] at k1
  obtain ⟨_, _, rfl, ⟨n1, rfl, _, _⟩, _, _, rfl, ⟨n2, rfl, _, _⟩, _, _, rfl, ⟨n3, rfl, _, _⟩, rfl⟩ := k1
  have hmx : maxLen = 9223372036854775807 := rfl
  refine W_law (m := M9) (fun _ => rfl) rfl ?_ fun h0 => ?_
  · obtain ⟨L, u, hl⟩ := arg_sv k0
    exact tells_body _ (extM hx) v L n1 n2 n3 u (by omega)
  · simp only [AV.lts, Bool.and_eq_true] at h0
    obtain ⟨L, u, hl⟩ := arg_sv (ty_nil3 (g' := CM.gl) k0 h0.1)
    exact tells_body _ glM v L n1 n2 n3 u (by omega)
theorem tells_kinds : aksOf X.P 20 [64, 33] = some [.one (.sl [.i .i64, .i .i64, .i .i64]), .agg [.i .i64, .i .i64, .i .i64]] := by kernel_rfl
end Go.Proofs.YtcpiohklljppaaaW.AI.D
