import Derived.Test.YthcjmmngenogmaaAIEfillA
namespace Go.Proofs.YthcjmmngenogmaaW.AI.E
open Go Go.Proofs.YthcjmmngenogmaaW.AI
set_option maxRecDepth 100000
set_option linter.unusedSimpArgs false
set_option linter.unusedVariables false
set_option linter.unusedSectionVars false
def hi1 (s : Sp) : Sp := (s.1, s.2.1, -1)
theorem atO_ge (F : FS) (raw : Int) : decide (0 ≤ atO F raw) = (bestO F raw).2 := by
  unfold atO bestO
  by_cases c : canL F raw
  · rw [if_pos c, if_pos c]
    exact decide_eq_true (by unfold atR; omega)
  · rw [if_neg c, if_neg c]
    rfl
theorem flat3_set2 : ∀ {L : List Sp} {i : Nat} {s : Sp}, L[i]? = some s → (flat3 L).set (i * 3 + 2) (-1) = flat3 (L.set i (hi1 s))
  | [], i, s, h => by simp at h
  | u :: L, 0, s, h => by simp at h; subst h; simp [flat3_cons, hi1]
  | u :: L, i + 1, s, h => by
    have := flat3_set2 (L := L) (i := i) (s := s) (by simpa using h)
    rw [List.set_cons_succ, flat3_cons, flat3_cons, ← this, show (i + 1) * 3 + 2 = i * 3 + 2 + 1 + 1 + 1 by omega]
    simp
set_option maxHeartbeats 16000000 in
theorem ftells_body {g : AHeap} (hg : Good g) {t f : Int} {sv : AV} {n : Nat} (hn : n ≤ 9223372036854775807) (hs : CallsAt g sv n) :
    Wp (xbody (W CP) M11 [.int .i64 t, .int .i64 f, sv] g) fun r => r.1 = .bool true := by
  have al := fun h => alive20 h
  have hsl := hs.len
  have hna := na_slen hsl
  by_cases ok : 1 ≤ t ∧ t ≤ 1000000000 ∧ 0 ≤ f ∧ f ≤ 500000
  case neg =>
    have eN := fun g => FNew_bad (t := t) (f := f) (by omega) g
    have eR := fun g => RefNew_bad (t := t) (f := f) (by omega) g
    simp (maxDischargeDepth := 9) -implicitDefEqProofs only [push_cast, simprocAttr, M11, eN, eR, al]
  obtain ⟨t1, t2, f1, f2⟩ := ok
  have eN := FNew_ok t1 t2 f1 f2 g
  have fn := fil_new t1 t2 f1 f2 g
  obtain ⟨Y1, hY1⟩ : ∃ Y, g ++ [(⟨.tip false, .vals [.int .i64 t, .int .i64 f, .bool true]⟩ : ABlk), ⟨.tip false, .vals (fX g.length C0 0 (-1) false)⟩] = Y := ⟨_, rfl⟩
  have k1 : Keeps g Y1 none := by rw [← hY1]; exact Keeps.app g [⟨.tip false, .vals [.int .i64 t, .int .i64 f, .bool true]⟩, ⟨.tip false, .vals (fX g.length C0 0 (-1) false)⟩] none rfl
  rw [hY1] at eN fn
  have eR := RefNew_ok t1 t2 f1 f2 Y1
  obtain ⟨Y2, hY2⟩ : ∃ Y, Y1 ++ [(⟨.tip false, .ints .i64 [t, f]⟩ : ABlk), ⟨.tip false, .vals [.ptr Y1.length 0, .nils, .int .i64 (-1), .bool false]⟩] = Y := ⟨_, rfl⟩
  have k2 : Keeps Y1 Y2 none := by rw [← hY2]; exact Keeps.app Y1 [⟨.tip false, .ints .i64 [t, f]⟩, ⟨.tip false, .vals [.ptr Y1.length 0, .nils, .int .i64 (-1), .bool false]⟩] none rfl
  rw [hY2] at eR
  have hl1 := k1.2.1
  have hl2 := k2.2.1
  have rb1 : Y2[Y1.length + 1]? = some ⟨.tip false, .vals [.ptr Y1.length 0, .nils, .int .i64 (-1), .bool false]⟩ := by rw [← hY2]; exact fend1 _ _ _ _
  have rb0 : Y2[Y1.length]? = some ⟨.tip false, .ints .i64 [t, f]⟩ := by rw [← hY2]; exact fend _ _ _
  have ft0 : FT g Y2 (g.length + 1) g.length (Y1.length + 1) Y1.length ⟨t, f, [], -1, false⟩ C0 .nils :=
    ⟨k2.2.2 (k1.2.2 hg), fn.kept k2, ⟨rb1, RW.nil _ _, Nat.zero_le _, rb0, (List.getElem?_eq_some_iff.1 rb0).1, t1, t2, f1, f2⟩, by omega, by omega, fun j x e => keepsN k2 _ _ (keepsN k1 _ _ e), by omega⟩
  simp (maxDischargeDepth := 9) -implicitDefEqProofs only [push_cast, simprocAttr, M11, nadd1, nadd2, nadd3, nadd4, nadd5, nadd6, nadd7, nadd8, nadd9, nadd10, nadd11, nadd12, eN, eR]
  refine wp_kRes (wp_kSeq (wp_kBlock ?_))
  refine wp_loop (fun k x h ws => ∃ (i p : Nat) (F : FS) (C : List Int) (v : AV), k = n - i ∧ i ≤ n ∧ i ≤ 60 ∧ x = [(2, sv), (7, .ptr p 0), (9, .ptr (Y1.length + 1) 0), (11, .int .i64 (i : Int))] ∧ ws = [] ∧ FT g h p g.length (Y1.length + 1) Y1.length F C v) n ?_ ?_
  · refine ⟨0, g.length + 1, _, _, _, by omega, by omega, by omega, ?_, rfl, ft0⟩
    simp (maxDischargeDepth := 9) -implicitDefEqProofs only [push_cast, simprocAttr, hna]; try rfl
  clear ft0 rb0 rb1 fn eN eR k1 k2 hY1 hY2 hl2
  obtain ⟨p2, hp2⟩ : ∃ p2, Y1.length + 1 = p2 := ⟨_, rfl⟩
  obtain ⟨q, hq⟩ : ∃ q, Y1.length = q := ⟨_, rfl⟩
  rw [hp2, hq]
  clear hp2 hq hl1
  rintro k xx h ws ⟨i, p, F, C, v, rfl, hi, hi', rfl, rfl, ft⟩
  by_cases hlt : i < n
  case neg =>
    have hnl : ¬ (i : Int) < (n : Int) := by omega
    simp (maxDischargeDepth := 9) -implicitDefEqProofs only [push_cast, simprocAttr, nadd1, nadd2, nadd3, nadd4, nadd5, nadd6, nadd7, nadd8, nadd9, nadd10, nadd11, nadd12, hna, hsl, hnl, al]
  have hlt' : (i : Int) < (n : Int) := by omega
  by_cases h60 : i = 60
  · subst h60
    have hlt2 : (60 : Int) < (n : Int) := by omega
    simp (maxDischargeDepth := 9) -implicitDefEqProofs only [push_cast, simprocAttr, nadd1, nadd2, nadd3, nadd4, nadd5, nadd6, nadd7, nadd8, nadd9, nadd10, nadd11, nadd12, hna, hsl, hlt2, al]
  have h60' : (i : Int) < 60 := by omega
  have v1 : IntKind.i64.wrap ((i : Int) + 1) = (i : Int) + 1 := wr_i64 _ (by omega) (by omega)
  obtain ⟨b, c, zs, rfl, hnc, hbl, hb, hz⟩ : ∃ b c zs, sv = .sl b 0 n c ∧ n ≤ c ∧ b < g.length ∧ g[b]? = some ⟨.ext, .ints .i64 zs⟩ ∧ 5 * n ≤ zs.length := by
    rcases hs with ⟨_, h0⟩ | h0
    · omega
    · exact h0
  have bnd : ∀ i, i < zs.length → ∃ z, zs[i]? = some z := fun i hi => ⟨_, List.getElem?_eq_getElem hi⟩
  obtain ⟨z0, e0⟩ := bnd (i * 5) (by omega)
  obtain ⟨z1, e1⟩ := bnd (i * 5 + 1) (by omega)
  obtain ⟨z2, e2⟩ := bnd (i * 5 + 2) (by omega)
  obtain ⟨z3, e3⟩ := bnd (i * 5 + 3) (by omega)
  obtain ⟨z4, e4⟩ := bnd (i * 5 + 4) (by omega)
  have hbh := ft.gh _ _ hb
  have hbhl := (List.getElem?_eq_some_iff.1 hbh).1
  obtain ⟨h0, hh0⟩ : ∃ H, h ++ [(⟨.tip false, .ints .i64 [z0, z1, z2, z3, z4]⟩ : ABlk)] = H := ⟨_, rfl⟩
  have kh0 : Keeps h h0 none := by rw [← hh0]; exact Keeps.app h [⟨.tip false, .ints .i64 [z0, z1, z2, z3, z4]⟩] none rfl
  have ft0 := ft.kept kh0
  have c0 : h0[h.length]? = some ⟨.tip false, .ints .i64 [z0, z1, z2, z3, z4]⟩ := by rw [← hh0]; exact fend _ _ _
  have c0l := (List.getElem?_eq_some_iff.1 c0).1
  have glh := ft.gl
  have hself : ¬ h.length < g.length := by omega
  have lp := (List.getElem?_eq_some_iff.1 ft.fil.blk).1
  have lp2 := (List.getElem?_eq_some_iff.1 ft.ref.blk).1
  have hpc : p ≠ h.length := by omega
  have hpc2 : p2 ≠ h.length := by omega
  have gp := ft.gp
  have gp2 := ft.gp2
  simp (maxDischargeDepth := 9) -implicitDefEqProofs only [push_cast, simprocAttr, nadd1, nadd2, nadd3, nadd4, nadd5, nadd6, nadd7, nadd8, nadd9, nadd10, nadd11, nadd12, ABlk.new, hlt, hlt', h60', hna, hsl, hbh, hbhl, e0, e1, e2, e3, e4, hself, hh0, c0, c0l]
  refine wp_kSeq (wp_kBlock (wp_kSeq (Wp.mono (Q := AftF g h.length g.length p2 q (.sl b 0 n c) i ⟨.tip false, .ints .i64 [z0, z1, z2, z3, z4]⟩) ?_ ?_)))
  · have hcl : ¬ h0.length ≤ h.length := by omega
    by_cases what : z0 = 0 ∨ z0 = 1 ∨ z0 = 2
    · -- a span is put
      obtain ⟨H1, ws1, C', v', H2, ws2, eP, hw1, hl1, kk1, eQ, hw2, ftn, kk2⟩ := ft0.put (z1, z2, z3)
      obtain ⟨cd, hcd⟩ : ∃ cd, (putF F (z1, z2, z3)).1 = cd := ⟨_, rfl⟩
      rw [hcd] at eP eQ
      have ww1 := wadd_p gp hw1
      have ww2 := wadd_p gp2 hw2
      have c1 := kk1 _ _ (Ne.symm hpc) c0
      have c1l := (List.getElem?_eq_some_iff.1 c1).1
      have hct := contF hw1 hpc
      have hcl1 : ¬ H1.length ≤ h.length := by omega
      have c2 := kk2 _ _ (Ne.symm hpc) (Ne.symm hpc2) c0
      rcases what with rfl | rfl | rfl
      all_goals
        simp (maxDischargeDepth := 9) -implicitDefEqProofs only [push_cast, simprocAttr, nadd1, nadd2, nadd3, nadd4, nadd5, nadd6, nadd7, nadd8, nadd9, nadd10, nadd11, nadd12, c0, c0l, eP, ww1, c1, c1l, eQ, ww2, hct, hcl, hcl1, decide_false, Bool.not_false, Bool.and_true]
        exact ⟨p, _, C', v', H2, rfl, ftn, c2⟩
    have n0 : ¬ z0 = 0 := fun e => what (Or.inl e)
    have n1 : ¬ z0 = 1 := fun e => what (Or.inr (Or.inl e))
    have n2 : ¬ z0 = 2 := fun e => what (Or.inr (Or.inr e))
    by_cases what3 : z0 = 3
    · -- the best is used
      subst what3
      obtain ⟨u, hu⟩ : ∃ u, (useO F z4).1 = u := ⟨_, rfl⟩
      obtain ⟨bo, hbo⟩ : ∃ u, (useO F z4).2.1 = u := ⟨_, rfl⟩
      obtain ⟨H1, ws1, eU, hw1, hl1, kk1, H2, ws2, eV, hw2, hl2, ftn, kk2⟩ := ft0.use z4 [⟨.tip false, .ints .i64 [u.1, u.2.1, u.2.2]⟩] rfl
      rw [hu, hbo] at eU eV
      obtain ⟨u1, u2, u3⟩ := u
      simp only at eV hl2 kk2
      have ww1 := wadd_p gp hw1
      have ww2 := wadd_p gp2 hw2
      have hl1' : H1.length = h.length + 1 := by rw [hl1, ← hh0]; simp
      obtain ⟨K1, hK1⟩ : ∃ K, H1 ++ [(⟨.tip false, .ints .i64 [u1, u2, u3]⟩ : ABlk)] = K := ⟨_, rfl⟩
      rw [hK1] at eV hl2 kk2
      have lK1 : K1.length = h.length + 2 := by rw [← hK1]; simp; omega
      have c1 : K1[h.length]? = some ⟨.tip false, .ints .i64 [3, z1, z2, z3, z4]⟩ := by rw [← hK1, List.getElem?_append_left (by omega)]; exact kk1 _ _ (Ne.symm hpc) c0
      have c1l := (List.getElem?_eq_some_iff.1 c1).1
      have c2 := kk2 _ _ (Ne.symm hpc2) c1
      have d1 : K1[H1.length]? = some ⟨.tip false, .ints .i64 [u1, u2, u3]⟩ := by rw [← hK1]; exact fend _ _ _
      have d2 := kk2 _ _ (by omega) d1
      obtain ⟨K2, hK2⟩ : ∃ K, H2 ++ [(⟨.tip false, .ints .i64 [u1, u2, u3]⟩ : ABlk)] = K := ⟨_, rfl⟩
      have kK2 : Keeps H2 K2 none := by rw [← hK2]; exact Keeps.app H2 [⟨.tip false, .ints .i64 [u1, u2, u3]⟩] none rfl
      have c3 := keepsN kK2 _ _ c2
      have d3 := keepsN kK2 _ _ d2
      have d3l := (List.getElem?_eq_some_iff.1 d3).1
      have f3 : K2[H2.length]? = some ⟨.tip false, .ints .i64 [u1, u2, u3]⟩ := by rw [← hK2]; exact fend _ _ _
      have f3l := (List.getElem?_eq_some_iff.1 f3).1
      have hx1 : ¬ H1.length < g.length := by omega
      have hx2 : ¬ H2.length < g.length := by omega
      simp (maxDischargeDepth := 9) -implicitDefEqProofs only [push_cast, simprocAttr, nadd1, nadd2, nadd3, nadd4, nadd5, nadd6, nadd7, nadd8, nadd9, nadd10, nadd11, nadd12, ABlk.new, c0, c0l, eU, ww1, hK1, c1, c1l, eV, ww2, hK2, d3, d3l, f3, f3l, hx1, hx2, sc3s]
      exact ⟨p, _, C, v, K2, rfl, ftn.kept kK2, c3⟩
    by_cases what4 : z0 = 4 ∨ z0 = 5
    · -- a copy goes on, or is changed
      have eC := FCopy ft0.good ft0.fil
      obtain ⟨Yc, hYc⟩ : ∃ Y : ABlk, (⟨.tip false, .vals (fX g.length C F.L.length F.used F.held)⟩ : ABlk) = Y := ⟨_, rfl⟩
      rw [hYc] at eC
      have nY : notOld Yc = true := by rw [← hYc]; rfl
      have hl0 : h0.length = h.length + 1 := by rw [← hh0]; simp
      have nr := ft0.nr
      have lp0 := (List.getElem?_eq_some_iff.1 ft0.fil.blk).1
      obtain ⟨K, hK⟩ : ∃ K, h0 ++ [Yc] = K := ⟨_, rfl⟩
      have gK : Good K := by rw [← hK]; exact good_app ft0.good (by simp [nY])
      rw [hK] at eC
      rcases what4 with rfl | rfl
      · obtain ⟨c1, H1, ws1, v2, H2, ws2, eP, hw1, eU, hw2, X, hX, nX⟩ := other_c (z := p) (F' := F) (C' := C) (r' := g.length) gK (by rw [← hK]; exact ft0.fil.app _) nr (4611686018427387904, 0, 1) 4611686018427387904
        have ww1 := wadd_p gp hw1
        have ww2 := wadd_p gp hw2
        have ftn := (ft0.copy X Yc nX hYc.symm).1
        have e : H2 = h0.set p X ++ [Yc] := by rw [hX, ← hK, List.set_append_left _ _ lp0]
        rw [← e] at ftn
        have c2 : H2[h.length]? = some ⟨.tip false, .ints .i64 [4, z1, z2, z3, z4]⟩ := by rw [e, List.getElem?_append_left (by rw [List.length_set]; omega), List.getElem?_set_ne hpc]; exact c0
        have cK : K[h.length]? = some ⟨.tip false, .ints .i64 [4, z1, z2, z3, z4]⟩ := by rw [← hK, List.getElem?_append_left c0l]; exact c0
        simp (maxDischargeDepth := 9) -implicitDefEqProofs only [push_cast, simprocAttr, nadd1, nadd2, nadd3, nadd4, nadd5, nadd6, nadd7, nadd8, nadd9, nadd10, nadd11, nadd12, c0, c0l, eC, eP, ww1, eU, ww2]
        exact ⟨h0.length, _, C, v, H2, rfl, ftn, c2⟩
      · have fK : FilAt K h0.length F g.length C := by
          obtain ⟨q1, q2, q3⟩ := ft0.fil.rul
          refine ⟨by rw [← hK, ← hYc]; exact fend _ _ _, ft0.fil.len, ft0.fil.tk, ft0.fil.le, ?_, by rw [← hK]; simp; omega, q3⟩
          rw [← hK, List.getElem?_append_left q2]; exact q1
        obtain ⟨c1, H1, ws1, v2, H2, ws2, eP, hw1, eU, hw2, X, hX, nX⟩ := other_c (z := h0.length) gK fK (by have := ft0.fil.rul.2.1; omega) (4611686018427387904, 0, 1) 4611686018427387904
        have ww1 := wadd_p (show g.length ≤ h0.length by omega) hw1
        have ww2 := wadd_p (show g.length ≤ h0.length by omega) hw2
        have ftn := (ft0.copy X Yc nX hYc.symm).2
        have e : H2 = h0 ++ [X] := by rw [hX, ← hK, List.set_append_right _ _ (Nat.le_refl _), Nat.sub_self]; rfl
        rw [← e] at ftn
        have c2 : H2[h.length]? = some ⟨.tip false, .ints .i64 [5, z1, z2, z3, z4]⟩ := by rw [e, List.getElem?_append_left c0l]; exact c0
        simp (maxDischargeDepth := 9) -implicitDefEqProofs only [push_cast, simprocAttr, nadd1, nadd2, nadd3, nadd4, nadd5, nadd6, nadd7, nadd8, nadd9, nadd10, nadd11, nadd12, c0, c0l, eC, eP, ww1, eU, ww2]
        exact ⟨p, _, C, v, H2, rfl, ftn, c2⟩
    · have n4 : ¬ z0 = 4 := fun e => what4 (Or.inl e)
      have n5 : ¬ z0 = 5 := fun e => what4 (Or.inr e)
      simp (maxDischargeDepth := 9) -implicitDefEqProofs only [push_cast, simprocAttr, nadd1, nadd2, nadd3, nadd4, nadd5, nadd6, nadd7, nadd8, nadd9, nadd10, nadd11, nadd12, c0, c0l, n0, n1, n2, what3, n4, n5]
      exact ⟨p, _, C, v, h0, rfl, ft0, c0⟩
  · rintro o ⟨p', F', C', v', h3, rfl, ftn, hc⟩
    obtain ⟨m, hm⟩ : ∃ m, F'.L.length = m := ⟨_, rfl⟩
    have hm8 := ftn.fil.le
    rw [hm] at hm8
    have eB := bestO_c (raw := z4) ftn.good ftn.fil
    have hge := atO_ge F' z4
    obtain ⟨at_, hat⟩ : ∃ a, atO F' z4 = a := ⟨_, rfl⟩
    obtain ⟨is_, his⟩ : ∃ a, (bestO F' z4).2 = a := ⟨_, rfl⟩
    obtain ⟨B, hB⟩ : ∃ a, (bestO F' z4).1 = a := ⟨_, rfl⟩
    rw [hat, his] at hge
    rw [hB, his] at eB
    obtain ⟨b1, b2, b3⟩ := B
    have hcl := (List.getElem?_eq_some_iff.1 hc).1
    obtain ⟨H1, hH1⟩ : ∃ K, h3 ++ [(⟨.tip false, .ints .i64 [b1, b2, b3]⟩ : ABlk)] = K := ⟨_, rfl⟩
    have q1 : Keeps h3 H1 none := by rw [← hH1]; exact Keeps.app h3 [⟨.tip false, .ints .i64 [b1, b2, b3]⟩] none rfl
    have f1' := ftn.kept q1
    have eR := refBest_c (raw := z4) f1'.good f1'.ref
    rw [hB, hat] at eR
    have hc1 := keepsN q1 _ _ hc
    have hc1l := (List.getElem?_eq_some_iff.1 hc1).1
    have d1 : H1[h3.length]? = some ⟨.tip false, .ints .i64 [b1, b2, b3]⟩ := by rw [← hH1]; exact fend _ _ _
    obtain ⟨H2, hH2⟩ : ∃ K, H1 ++ [(⟨.tip false, .ints .i64 [b1, b2, b3]⟩ : ABlk)] = K := ⟨_, rfl⟩
    have q2 : Keeps H1 H2 none := by rw [← hH2]; exact Keeps.app H1 [⟨.tip false, .ints .i64 [b1, b2, b3]⟩] none rfl
    have d2 := keepsN q2 _ _ d1
    have d2' : H2[H1.length]? = some ⟨.tip false, .ints .i64 [b1, b2, b3]⟩ := by rw [← hH2]; exact fend _ _ _
    have f2' := f1'.kept q2
    have eW := frow_c f2'.good f2'.fil
    have hG3 := row_good f2'.good F'.L
    have q3 : Keeps H2 (H2 ++ rowJ F'.L) none := keepsG hG3
    have rv := row_rv H2 F'.L
    have hrow : F'.L ≠ [] → rowV H2.length F'.L = .gsl (H2.length + 1) 0 m 3 false ∧ (H2 ++ rowJ F'.L)[H2.length + 1]? = some ⟨.tip false, .ints .i64 (flat3 F'.L)⟩ := fun c => by
      refine ⟨by unfold rowV; rw [if_neg c, hm], ?_⟩
      unfold rowJ
      rw [if_neg c]
      exact fend1 _ _ _ _
    obtain ⟨w, hw⟩ : ∃ w, rowV H2.length F'.L = w := ⟨_, rfl⟩
    obtain ⟨H3, hH3⟩ : ∃ K, H2 ++ rowJ F'.L = K := ⟨_, rfl⟩
    rw [hw, hH3] at eW rv hrow
    rw [hH3] at q3
    have nw := rv.na
    have lw := rv.len
    rw [hm] at lw
    have f3' := f2'.kept q3
    have hc3 := keepsN q3 _ _ (keepsN q2 _ _ hc1)
    have hc3l := (List.getElem?_eq_some_iff.1 hc3).1
    have d3 := keepsN q3 _ _ d2
    have d3l := (List.getElem?_eq_some_iff.1 d3).1
    have d3' := keepsN q3 _ _ d2'
    have d3l' := (List.getElem?_eq_some_iff.1 d3').1
    have eJ := jitO_c (raw := z4) f3'.good f3'.fil
    have eK := refJit_c (raw := z4) f3'.good f3'.ref
    obtain ⟨J, hJ⟩ : ∃ J, jitO F' z4 = J := ⟨_, rfl⟩
    rw [hJ] at eJ eK
    have eH := held_c f3'.good f3'.fil
    have bR := f3'.ref.blk
    have bRl := (List.getElem?_eq_some_iff.1 bR).1
    obtain ⟨hd, hhd⟩ : ∃ d, F'.held = d := ⟨_, rfl⟩
    rw [hhd] at eH bR
    have lv := f3'.ref.row.len
    have nv := f3'.ref.row.na
    rw [List.length_reverse, hm] at lv
    have x1 : ¬ h3.length < g.length := by have := ftn.gl; omega
    have x2 : ¬ H1.length < g.length := by have := f1'.gl; omega
    have x3 : ¬ H3.length ≤ h.length := by omega
    have x4 : ¬ H3.length ≤ p2 := by omega
    simp (maxDischargeDepth := 9) -implicitDefEqProofs only [push_cast, simprocAttr, nadd1, nadd2, nadd3, nadd4, nadd5, nadd6, nadd7, nadd8, nadd9, nadd10, nadd11, nadd12, ABlk.new, hc, hcl, eB, hH1, hc1, hc1l, eR, hH2, eW, nw, hge, hc3, hc3l, d3, d3l, d3', d3l', sc3s, eJ, eK, eH, bR, bRl, lv, nv, lw, x1, x2, x3, x4, decide_false, Bool.not_false, Bool.and_true]
    refine wp_kBlock ?_
    refine wp_loop (fun kk x hh ws => ∃ j : Nat, kk = m - j ∧ j ≤ m ∧ x = [(2, .sl b 0 n c), (7, .ptr p' 0), (9, .ptr p2 0), (11, .int .i64 (i : Int)), (23, w), (24, .int .i64 (j : Int))] ∧ Keeps h3 hh none ∧
      (F'.L ≠ [] → hh[H2.length + 1]? = some ⟨.tip false, .ints .i64 (flat3 ((F'.L.take j).map hi1 ++ F'.L.drop j))⟩) ∧ ws = []) m ?_ ?_
    · refine ⟨0, by omega, by omega, ?_, keepsT q1 (keepsT q2 q3), fun c => by simpa using (hrow c).2, rfl⟩
      simp (maxDischargeDepth := 9) -implicitDefEqProofs only [push_cast, simprocAttr, nw]; try rfl
    · rintro kk xx hh ws ⟨j, rfl, hj, rfl, kh, hblk, rfl⟩
      have u1 : IntKind.i64.wrap ((j : Int) + 1) = (j : Int) + 1 := wr_i64 _ (by omega) (by omega)
      by_cases hjl : j < m
      · have hjl' : (j : Int) < (m : Int) := by omega
        have hne : F'.L ≠ [] := by rintro e; rw [e] at hm; simp at hm; omega
        obtain ⟨rfl, _⟩ := hrow hne
        have bb := hblk hne
        obtain ⟨s, hs⟩ : ∃ s, F'.L[j]? = some s := ⟨_, List.getElem?_eq_getElem (by omega)⟩
        have htj : ((F'.L.take j).map hi1).length = j := by rw [List.length_map, List.length_take]; omega
        have hgj : ((F'.L.take j).map hi1 ++ F'.L.drop j)[j]? = some s := by
          rw [List.getElem?_append_right (by omega), htj, Nat.sub_self, List.getElem?_drop, Nat.add_zero, hs]
        obtain ⟨g1, g2, g3⟩ := flat3_get hgj
        have hset := flat3_set2 hgj
        have hnext : ((F'.L.take j).map hi1 ++ F'.L.drop j).set j (hi1 s) = (F'.L.take (j + 1)).map hi1 ++ F'.L.drop (j + 1) := by
          rw [List.set_append_right _ _ (by omega), htj, Nat.sub_self, List.take_add_one, hs, List.map_append, List.append_assoc]
          congr 1
          rw [List.drop_eq_getElem_cons (show j < F'.L.length by omega), List.set_cons_zero]
          rfl
        rw [hnext] at hset
        obtain ⟨R, hR⟩ : ∃ R, flat3 ((F'.L.take j).map hi1 ++ F'.L.drop j) = R := ⟨_, rfl⟩
        rw [hR] at bb g1 g2 g3 hset
        have bbl := (List.getElem?_eq_some_iff.1 bb).1
        have r3 : j * 3 + 2 < R.length := (List.getElem?_eq_some_iff.1 g3).1
        have hu : ∀ g, uia 3 g j (some (.gsl (H2.length + 1) 0 m 3 false)) = some (.ptr (H2.length + 1) (j * 3), g, []) := fun g => by simp [uia, hjl]
        obtain ⟨k1, hk1⟩ : ∃ k, m - 1 - j = k := ⟨_, rfl⟩
        obtain ⟨M1, hM1⟩ : ∃ k, (m : Int) - 1 = k := ⟨_, rfl⟩
        have y1 : IntKind.i64.wrap ((m : Int) - 1) = M1 := by rw [wr_i64 _ (by omega) (by omega)]; exact hM1
        have y2 : IntKind.i64.wrap (M1 - (j : Int)) = (k1 : Int) := by rw [wr_i64 _ (by omega) (by omega)]; omega
        have fh := ftn.kept kh
        have hrs : F'.L.reverse[k1]? = some s := by rw [List.getElem?_reverse (by omega), hm, show m - 1 - k1 = j by omega]; exact hs
        obtain ⟨ba, a1, a2, a3, a4, _⟩ := fh.ref.row.at hrs
        have bR' := fh.ref.blk
        have bRl' := (List.getElem?_eq_some_iff.1 bR').1
        have lv' := fh.ref.row.len
        have nv' := fh.ref.row.na
        rw [List.length_reverse, hm] at lv'
        have hb1 : ¬ H2.length + 1 < g.length := by have := f2'.gl; omega
        obtain ⟨sx, sy, sz⟩ := s
        simp only at g1 g2 g3
        simp (maxDischargeDepth := 9) -implicitDefEqProofs only [push_cast, simprocAttr, nadd1, nadd2, nadd3, nadd4, nadd5, nadd6, nadd7, nadd8, nadd9, nadd10, nadd11, nadd12, hjl', u1, lw, ↓uia_eq, hu, bb, bbl, g1, g2, g3, bR', bRl', lv', nv', y1, y2, a1, ↓uld_eq 200, a2, sc3s, r3, hset, hb1]
        refine loop_next (m - (j + 1)) (by omega) ⟨j + 1, rfl, by omega, ?_, keepsS kh (by have := q1.2.1; have := q2.2.1; omega) rfl, fun _ => List.getElem?_set_self bbl, rfl⟩
        simp (maxDischargeDepth := 9) -implicitDefEqProofs only [push_cast, simprocAttr]; try simp
      · have hjn : ¬ (j : Int) < (m : Int) := by omega
        simp (maxDischargeDepth := 9) -implicitDefEqProofs only [push_cast, simprocAttr, nadd1, nadd2, nadd3, nadd4, nadd5, nadd6, nadd7, nadd8, nadd9, nadd10, nadd11, nadd12, hjn, nw, lw, v1]
        refine loop_next (n - (i + 1)) (by omega) ⟨i + 1, p', F', C', v', rfl, by omega, by omega, ?_, rfl, ftn.kept kh⟩
        simp (maxDischargeDepth := 9) -implicitDefEqProofs only [push_cast, simprocAttr]; try simp
theorem ftells_law (js : AHeap) (avs : List AV) (hx : Ext js) (ht : TyA (CP.gl ++ js) [.one (.i .i64), .one (.i .i64), .one (.sl [.i .i64, .i .i64, .i .i64, .i .i64, .i .i64])] avs) : ∃ h' ws, W CP 11 avs (CP.gl ++ js) = some (.bool true, h', ws) := by
  simp only [TyA] at ht
  obtain ⟨a, _, rfl, ha, b, _, rfl, hb, v, _, rfl, hv, rfl⟩ := ht
  obtain ⟨es, h4, h5⟩ := Ty_sl hv
  simp only [Ty] at ha hb
  obtain ⟨a, rfl, _⟩ := ha
  obtain ⟨b, rfl, _⟩ := hb
  rcases h4 with ⟨rfl, rfl⟩ | ⟨q, cap, rfl, g1, g2, g3, g4⟩
  · exact W_law (m := M11) (fun _ => rfl) rfl (ftells_body (good_ext hx) (n := 0) (by omega) (Or.inl ⟨rfl, rfl⟩)) fun _ => ftells_body glG (n := 0) (by omega) (Or.inl ⟨rfl, rfl⟩)
  · refine W_law (m := M11) (fun _ => rfl) rfl ?_ fun h0 => by simp [AV.lts, AV.lt] at h0
    have hl := flat_len (l := [CK.i .i64, .i .i64, .i .i64, .i .i64, .i .i64]) fun e he => (TyL_lt (h5 e he)).2.2
    refine ftells_body (good_ext hx) (n := es.length) (by unfold maxLen at g2; omega) (Or.inr ⟨q, cap, es.flatten.map toI, rfl, g1, g3, g4, ?_⟩)
    rw [List.length_map, hl]; simp; omega
theorem ftells_kinds : aksOf X.P 20 [2, 2, 75] = some [.one (.i .i64), .one (.i .i64), .one (.sl [.i .i64, .i .i64, .i .i64, .i .i64, .i .i64])] := by kernel_rfl
end Go.Proofs.YthcjmmngenogmaaW.AI.E
