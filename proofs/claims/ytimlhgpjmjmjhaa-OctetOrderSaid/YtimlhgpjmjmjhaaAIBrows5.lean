import Derived.Test.YtimlhgpjmjmjhaaAIBrowsA
namespace Go.Proofs.YtimlhgpjmjmjhaaW.AI.B
open Go Go.Proofs.YtimlhgpjmjmjhaaW.AI Go.Proofs.YtimlhgpjmjmjhaaW.AI.Oct Go.RowKit
set_option maxRecDepth 100000
set_option linter.unusedSimpArgs false
set_option linter.unusedVariables false
set_option linter.unusedSectionVars false
theorem slcV_ucut (g : AHeap) (k : Nat) (v : AV) : slcV g none (some k) (some v) = ucut g k (some v) := by cases v <;> rfl
/-- A cut, as the bytes' walks do it. -/
theorem IV.slcH {k : IntKind} {h : AHeap} {v : AV} {L : List Int} (u : IV k h v L) {j : Nat} (hk : j ≤ L.length) : ∃ w, (∀ g, slcV g none (some j) (some v) = some (w, g, [])) ∧ IV k h w (L.take j) ∧ ∀ n, v.lt n = true → w.lt n = true := by
  obtain ⟨w, e, r⟩ := u.cut hk
  exact ⟨w, fun g => by rw [slcV_ucut]; exact e g, r⟩
theorem arg_iv {k : IntKind} {g : AHeap} {v : AV} (hv : Ty g (.sl [.i k]) v) : ∃ L, IV k g v L ∧ L.length ≤ 9223372036854775807 ∧ ∀ x ∈ L, k.min ≤ x ∧ x ≤ k.max := by
  obtain ⟨es, hs, he⟩ := Ty_sl hv
  have hle := hs.le
  rcases hs with ⟨rfl, rfl⟩ | ⟨b, c, rfl, g1, g2, g3, g4⟩
  · exact ⟨[], IV.nil k g, by simp, by simp⟩
  · have hl := flat_len (l := [CK.i k]) fun e h' => (TyL_lt (he e h')).2.2
    have hl1 : (es.flatten.map toI).length = es.length := by rw [List.length_map, hl]; simp
    refine ⟨es.flatten.map toI, Or.inr ⟨b, c, .ext, es.flatten.map toI, false, ?_, Or.inl rfl, Nat.le_refl _, List.take_length, Or.inl ⟨by rw [hl1], by omega⟩⟩, by omega, ?_⟩
    · exact g4
    · intro x hx
      obtain ⟨a, ha, rfl⟩ := List.mem_map.1 hx
      obtain ⟨e, h1, h2⟩ := List.mem_flatten.1 ha
      have := he e h1
      simp only [TyL, Ty] at this
      obtain ⟨v, vs, rfl, ⟨n, rfl, n1, n2⟩, rfl⟩ := this
      simp only [List.mem_singleton] at h2
      subst h2
      exact ⟨n1, n2⟩
theorem cut60 (N M : Nat) : ∃ m : Nat, m ≤ N ∧ m ≤ M ∧ (if (M : Int) < (N : Int) then (M : Int) else (N : Int)) = (m : Int) := by
  by_cases hc : M < N
  · exact ⟨M, by omega, by omega, by rw [if_pos (by omega)]⟩
  · exact ⟨N, by omega, by omega, by rw [if_neg (by omega)]⟩
/-- What Take told to be left. -/
def PL (H0 h : AHeap) (v : AV) (N : Nat) : Prop := (slen v = some 0 ∧ N = 0) ∨ ∃ q l, v = .gsl q 0 N 1 false ∧ h[q]? = some ⟨.tip false, .ints .u8 l⟩ ∧ l.length = N ∧ H0.length ≤ q
structure LI (H0 h : AHeap) (v : AV) (N : Nat) : Prop where
  g : Good h
  low : ∀ (q : Nat) (z : ABlk), H0[q]? = some z → h[q]? = some z
  px : PL H0 h v N
theorem take_all {h : AHeap} {sv x : AV} {L D : List Int} (hg : Good h) (hS : IV .i64 h sv L) (hx : BV h x D) (hnm : NM x) (hll : L.length < 100000) (hD : D.length < 100000) :
    ∃ lv rv js, W CP 37 [sv, x] h = some (.tup [lv, rv, .int .i64 (takeE L D)], h ++ js, []) ∧ IV .u64 (h ++ js) lv (takeN L D) ∧ RowN (h ++ js) rv (takeL L D) h.length ∧ Good (h ++ js) := by
  by_cases he : takeE L D = 0
  · unfold takeN takeL
    rw [he, if_pos rfl, if_pos rfl]
    unfold takeE at he
    by_cases hok : L.all okS = true
    · rw [if_pos hok] at he
      by_cases hs : sumS L ≤ (D.length : Int)
      · obtain ⟨eL, hb⟩ := okS_szI hok
        obtain ⟨Ls, hLs⟩ : ∃ Ls, L.map Int.toNat = Ls := ⟨_, rfl⟩
        rw [hLs] at eL hb ⊢
        have hsum : sumS L = (Ls.sum : Int) := by rw [eL, sumS_szI]
        rw [hsum] at hs
        rw [hsum, Int.toNat_natCast]
        have hlen : L.length = Ls.length := by rw [eL, len_szI]
        rw [eL] at hS
        exact take_good hg hS hx hnm hb (by omega) (by omega) (by omega)
      · rw [if_neg hs] at he; exact absurd he (by decide)
    · rw [if_neg hok] at he; exact absurd he (by decide)
  · refine ⟨.nils, .nils, [], by rw [List.append_nil]; exact take_bad hg hS hx (by omega) he, ?_, ?_, by rw [List.append_nil]; exact hg⟩
    · unfold takeN; rw [if_neg he]; exact IV.nil _ _
    · unfold takeL; rw [if_neg he]; exact Or.inl ⟨rfl, rfl⟩
theorem layD_byt (L V : List Int) : Byt (layD L V) := by
  unfold layD; split
  · exact layB_byt _ _
  · intro x hx; simp at hx
set_option maxHeartbeats 32000000 in
theorem rows_body {g : AHeap} (hg : Good g) {sv nv bv : AV} (hsv : Ty g (.sl [.i .i64]) sv) (hnv : Ty g (.sl [.i .u64]) nv) (hbv : Ty g (.sl [.i .u8]) bv) :
    Wp (xbody (W CP) M8 [sv, nv, bv] g) fun r => r.1 = .bool true := by
  obtain ⟨Lf, uSf, lSf, _⟩ := arg_iv hsv
  obtain ⟨Vf, uVf, lVf, rVf⟩ := arg_iv hnv
  obtain ⟨Df, bDf, _, lDf⟩ := arg_bv hbv
  obtain ⟨N1, hN1⟩ : ∃ N, Lf.length = N := ⟨_, rfl⟩
  obtain ⟨N2, hN2⟩ : ∃ N, Vf.length = N := ⟨_, rfl⟩
  obtain ⟨N3, hN3⟩ : ∃ N, Df.length = N := ⟨_, rfl⟩
  have nSf := uSf.na
  have nVf := uVf.na
  have nDf := bDf.na
  have kSf := uSf.len
  have kVf := uVf.len
  have kDf := bDf.len
  rw [hN1] at kSf
  rw [hN2] at kVf
  rw [hN3] at kDf
  obtain ⟨m1, a1, a2, q1⟩ := cut60 N1 60
  obtain ⟨m2, b1, b2, q2⟩ := cut60 N2 60
  obtain ⟨m3, c1, c2, q3⟩ := cut60 N3 600
  have q1 : (if (60 : Int) < (N1 : Int) then (60 : Int) else (N1 : Int)) = (m1 : Int) := q1
  have q2 : (if (60 : Int) < (N2 : Int) then (60 : Int) else (N2 : Int)) = (m2 : Int) := q2
  have q3 : (if (600 : Int) < (N3 : Int) then (600 : Int) else (N3 : Int)) = (m3 : Int) := q3
  obtain ⟨s, es, uS, _⟩ := IV.slcH uSf (show m1 ≤ Lf.length by omega)
  obtain ⟨n, en, uV, _⟩ := IV.slcH uVf (show m2 ≤ Vf.length by omega)
  have eb := fun h => slcV_hi (h := h) bDf (show m3 ≤ Df.length by omega)
  have bD := bDf.take (show m3 ≤ Df.length by omega)
  have hL : (Lf.take m1).length = m1 := by rw [List.length_take]; omega
  have hV : (Vf.take m2).length = m2 := by rw [List.length_take]; omega
  have hD : (Df.take m3).length = m3 := by rw [List.length_take]; omega
  have rV : ∀ v ∈ Vf.take m2, 0 ≤ v ∧ v < 18446744073709551616 := fun v hv => by
    have := rVf v (List.mem_of_mem_take hv)
    have h1 : IntKind.u64.min = 0 := rfl
    have h2 : IntKind.u64.max = 18446744073709551615 := rfl
    omega
  obtain ⟨L, eL⟩ : ∃ L, Lf.take m1 = L := ⟨_, rfl⟩
  obtain ⟨V, eV⟩ : ∃ L, Vf.take m2 = L := ⟨_, rfl⟩
  obtain ⟨D, eD⟩ : ∃ L, Df.take m3 = L := ⟨_, rfl⟩
  rw [eL] at uS hL
  rw [eV] at uV hV rV
  rw [eD] at bD hD
  obtain ⟨b, hb⟩ : ∃ b, cutX bv m3 = b := ⟨_, rfl⟩
  rw [hb] at eb bD
  clear hb eL eV eD rVf
  have hB := bD.1
  -- Own
  have eO := own_c hg bD (by omega)
  have bo := own_bv hB g
  have nmo : NM (ownV g.length D) := by unfold ownV; split <;> (intro b o n e h; cases h)
  obtain ⟨o, ho⟩ : ∃ o, ownV g.length D = o := ⟨_, rfl⟩
  have hG0 := good_app hg (ownH_notOld D)
  have kg0 : Keeps g (g ++ ownH D) none := keepsG hG0
  obtain ⟨H0, hH0⟩ : ∃ H, g ++ ownH D = H := ⟨_, rfl⟩
  rw [ho] at nmo
  rw [ho, hH0] at eO bo
  rw [hH0] at hG0 kg0
  clear ho hH0
  have uS0 := uS.kept kg0
  have uV0 := uV.kept kg0
  have bD0 := bD.keep (keepsN kg0)
  -- Lay
  obtain ⟨v1, j1, e1, w1, hG1⟩ := lay_g hG0 uS0 uV0 (by omega) (by omega) rV
  have k1 : Keeps H0 (H0 ++ j1) none := keepsG hG1
  obtain ⟨H1, hH1⟩ : ∃ H, H0 ++ j1 = H := ⟨_, rfl⟩
  rw [hH1] at e1 w1 hG1 k1
  clear hH1
  obtain ⟨_, j2, e2, ⟨v2, rfl, w2⟩, hG2, _⟩ := rlay_c hG1 (uS0.kept k1) (uV0.kept k1) (by omega) (by omega) rV
  have k2 : Keeps H1 (H1 ++ j2) none := keepsG hG2
  obtain ⟨H2, hH2⟩ : ∃ H, H1 ++ j2 = H := ⟨_, rfl⟩
  rw [hH2] at e2 w2 hG2 k2
  clear hH2
  have k02 := keepsT k1 k2
  -- Take
  obtain ⟨lv, rv, j3, e3, u3, w3, hG3⟩ := take_all hG2 (uS0.kept k02) (bo.keep (keepsN k02)) nmo (by omega) (by omega)
  have k3 : Keeps H2 (H2 ++ j3) none := keepsG hG3
  obtain ⟨H3, hH3⟩ : ∃ H, H2 ++ j3 = H := ⟨_, rfl⟩
  rw [hH3] at e3 u3 w3 hG3 k3
  clear hH3
  have k03 := keepsT k02 k3
  obtain ⟨_, j4, e4, ⟨lw, rw', rfl, u4, w4⟩, hG4, _⟩ := rtake_c hG3 (uS0.kept k03) (bD0.keep (keepsN k03)) (by omega) (by omega)
  have k4 : Keeps H3 (H3 ++ j4) none := keepsG hG4
  obtain ⟨H4, hH4⟩ : ∃ H, H3 ++ j4 = H := ⟨_, rfl⟩
  rw [hH4] at e4 u4 w4 hG4 k4
  clear hH4
  have k24 := keepsT k3 k4
  have k04 := keepsT k03 k4
  have ew := width_g hG4 (uS0.kept k04) (by omega)
  have er := rwidth_c hG4 (uS0.kept k04) (by omega)
  have w3' := w3.keep (keepsN k4)
  have hBL : Byt (takeL L D) := w4.1
  have p1 : W CP 41 [v1, v2] H4 = some (.bool true, H4, []) := by
    have := equal_c hG4 ((w1.keep (keepsN k2)).keep (keepsN k24)) (w2.keep (keepsN k24))
    rw [decide_eq_true rfl] at this; exact this
  have lT : (takeN L D).length < 1000000 := by
    unfold takeN; split
    · rw [takeV_len, List.length_map]; omega
    · simp
  have q2' : W CP 42 [lv, lw] H4 = some (.bool true, H4, []) := by
    have := sequal_c hG4 (u3.kept k4) u4 lT lT
    rw [decide_eq_true rfl] at this; exact this
  have q3' : W CP 41 [rv, rw'] H4 = some (.bool true, H4, []) := by
    have := equal_c hG4 (w3'.bv hBL) w4
    rw [decide_eq_true rfl] at this; exact this
  obtain ⟨M, hM⟩ : ∃ M, (takeL L D).length = M := ⟨_, rfl⟩
  have lM : M ≤ 600 := by
    rw [← hM]; unfold takeL; split
    · rw [List.length_drop]; omega
    · simp
  have lrv := w3.len
  rw [hM] at lrv
  have pi : LI H2 H4 rv M := by
    refine ⟨hG4, keepsN k24, ?_⟩
    rcases w3' with ⟨rfl, e⟩ | ⟨p, hp, hz, ⟨rfl, e⟩ | e⟩
    · exact Or.inl ⟨rfl, by rw [← hM, e]; rfl⟩
    · exact Or.inl ⟨rfl, by rw [← hM, e]; rfl⟩
    · exact Or.inr ⟨p, _, by rw [e, hM], hz, hM, hp⟩
  have nS := uS.na
  have nV := uV.na
  have nb := bD.na
  have no := bo.na
  have n1 := w1.na
  have n2 := w2.na
  have nl := u3.na
  have nr := na_slen lrv
  have nlw := u4.na
  have nrw := w4.na
  have aw := fun h => awake_c h
  obtain ⟨le, hle⟩ : ∃ z, layE L V = z := ⟨_, rfl⟩
  obtain ⟨te, hte⟩ : ∃ z, takeE L D = z := ⟨_, rfl⟩
  rw [hle] at e1 e2
  rw [hte] at e3 e4
  have hpos : L.all okS = true → 0 ≤ sumS L := fun h => (sumS_bound h).1
  have hgl : g.length ≤ H2.length := Nat.le_trans kg0.2.1 k02.2.1
  obtain ⟨a, i, w, ew, er, hcase⟩ : ∃ a i w : Int, W CP 39 [s] H4 = some (.tup [.int .i64 a, .int .i64 i], H4, []) ∧ W CP 40 [s] H4 = some (.int .i64 w, H4, []) ∧ ((a = 0 ∧ i = 1 ∧ w = -1) ∨ (i = 0 ∧ a = w ∧ 0 ≤ w)) := by
    cases hok : L.all okS with
    | false =>
      rw [hok] at ew er
      exact ⟨0, 1, -1, ew, er, Or.inl ⟨rfl, rfl, rfl⟩⟩
    | true =>
      rw [hok] at ew er
      exact ⟨sumS L, 0, sumS L, ew, er, Or.inr ⟨rfl, rfl, hpos hok⟩⟩
  have fin : ∀ (h' : AHeap), LI H2 h' rv M → W CP 41 [o, b] h' = some (.bool true, h', []) := fun h' pi => by
    have := equal_c pi.g ((bo.keep (keepsN k02)).keep pi.low) ((bD0.keep (keepsN k02)).keep pi.low)
    rw [decide_eq_true rfl] at this; exact this
  have loop : ∀ (h' : AHeap) (i : Nat), i < M → LI H2 h' rv M → ∃ q l d, rv = .gsl q 0 M 1 false ∧ h'[q]? = some ⟨.tip false, .ints .u8 l⟩ ∧ l[i]? = some d ∧ l.length = M ∧ H2.length ≤ q ∧ LI H2 (h'.set q ⟨.tip false, .ints .u8 (l.set i (abits .xor .u8 d 255))⟩) rv M := fun h' i hi pi => by
    rcases pi.px with ⟨_, h0⟩ | ⟨q, l, hr, hq, hl, hql⟩
    · omega
    obtain ⟨d, hd⟩ : ∃ d, l[i]? = some d := ⟨_, List.getElem?_eq_getElem (by omega)⟩
    refine ⟨q, l, d, hr, hq, hd, hl, hql, good_set pi.g rfl, fun r z e => ?_, Or.inr ⟨q, _, hr, List.getElem?_set_self (List.getElem?_eq_some_iff.1 hq).1, by rw [List.length_set]; exact hl, hql⟩⟩
    have := (List.getElem?_eq_some_iff.1 e).1
    rw [List.getElem?_set_ne (by omega)]
    exact pi.low r z e
  have walk : ∀ (_ : True), Wp (xbody (W CP) M8 [sv, nv, bv] g) fun r => r.1 = .bool true := by
    intro _
    rcases hcase with ⟨rfl, rfl, rfl⟩ | ⟨rfl, rfl, h0⟩
    · simp (maxDischargeDepth := 9) -implicitDefEqProofs only [push_cast, simprocAttr, M8, nadd1, nadd2, nadd3, nadd4, nadd5, nadd6, nadd7, nadd8, nadd9, nadd10, nadd11, nadd12, nSf, nVf, nDf, kSf, kVf, kDf, q1, q2, q3, ↓slc_eqH, es, en, eb, nS, nV, nb, eO, no, e1, e2, n1, n2, e3, e4, nl, nr, nlw, nrw, ew, er, p1, q2', q3', lrv, beq_self_eq_true]
      refine wp_kRes (wp_kSeq (wp_kBlock ?_))
      refine wp_loop (fun j a h' ws => ∃ i : Nat, j = M - i ∧ i ≤ M ∧ a = [(2, b), (7, o), (13, rv), (21, .bool true), (125, .int .i64 (M : Int)), (126, .int .i64 (i : Int))] ∧ LI H2 h' rv M ∧ ws = []) M ?_ ?_
      · refine ⟨0, by omega, by omega, ?_, pi, rfl⟩
        simp (maxDischargeDepth := 9) -implicitDefEqProofs only [push_cast, simprocAttr, nb, no, nr]; try rfl
      · rintro j aa h' ws ⟨i, rfl, hi, rfl, pi, rfl⟩
        have v2 : IntKind.i64.wrap ((i : Int) + 1) = (i : Int) + 1 := wr_i64 _ (by omega) (by omega)
        by_cases hlt : i < M
        · have hlt' : (i : Int) < (M : Int) := by omega
          obtain ⟨q, l, d, hr, hq, hd, hl, hql, pi2⟩ := loop h' i hlt pi
          have hqh := (List.getElem?_eq_some_iff.1 hq).1
          have hil : i < l.length := by omega
          have hlo : ¬ q < g.length := by omega
          rw [hr]
          simp (maxDischargeDepth := 9) -implicitDefEqProofs only [push_cast, simprocAttr, nadd1, nadd2, nadd3, nadd4, nadd5, nadd6, nadd7, nadd8, nadd9, nadd10, nadd11, nadd12, hlt, hlt', v2, hq, hqh, hd, hil, hlo, Nat.mul_one]
          refine loop_next (M - (i + 1)) (by omega) ⟨i + 1, rfl, by omega, ?_, by rw [← hr]; exact pi2, rfl⟩
          simp (maxDischargeDepth := 9) -implicitDefEqProofs only [push_cast, simprocAttr, nb, no]; try simp
        · have hnl : ¬ (i : Int) < (M : Int) := by omega
          have eF := fin h' pi
          simp (maxDischargeDepth := 9) -implicitDefEqProofs only [push_cast, simprocAttr, nadd1, nadd2, nadd3, nadd4, nadd5, nadd6, nadd7, nadd8, nadd9, nadd10, nadd11, nadd12, hnl, nb, no, aw, eF]
    · have hB : ¬ a < 0 := by omega
      simp (maxDischargeDepth := 9) -implicitDefEqProofs only [push_cast, simprocAttr, M8, nadd1, nadd2, nadd3, nadd4, nadd5, nadd6, nadd7, nadd8, nadd9, nadd10, nadd11, nadd12, nSf, nVf, nDf, kSf, kVf, kDf, q1, q2, q3, ↓slc_eqH, es, en, eb, nS, nV, nb, eO, no, e1, e2, n1, n2, e3, e4, nl, nr, nlw, nrw, ew, er, p1, q2', q3', lrv, beq_self_eq_true, h0, hB]
      refine wp_kRes (wp_kSeq (wp_kBlock ?_))
      refine wp_loop (fun j a h' ws => ∃ i : Nat, j = M - i ∧ i ≤ M ∧ a = [(2, b), (7, o), (13, rv), (21, .bool true), (125, .int .i64 (M : Int)), (126, .int .i64 (i : Int))] ∧ LI H2 h' rv M ∧ ws = []) M ?_ ?_
      · refine ⟨0, by omega, by omega, ?_, pi, rfl⟩
        simp (maxDischargeDepth := 9) -implicitDefEqProofs only [push_cast, simprocAttr, nb, no, nr]; try rfl
      · rintro j aa h' ws ⟨i, rfl, hi, rfl, pi, rfl⟩
        have v2 : IntKind.i64.wrap ((i : Int) + 1) = (i : Int) + 1 := wr_i64 _ (by omega) (by omega)
        by_cases hlt : i < M
        · have hlt' : (i : Int) < (M : Int) := by omega
          obtain ⟨q, l, d, hr, hq, hd, hl, hql, pi2⟩ := loop h' i hlt pi
          have hqh := (List.getElem?_eq_some_iff.1 hq).1
          have hil : i < l.length := by omega
          have hlo : ¬ q < g.length := by omega
          rw [hr]
          simp (maxDischargeDepth := 9) -implicitDefEqProofs only [push_cast, simprocAttr, nadd1, nadd2, nadd3, nadd4, nadd5, nadd6, nadd7, nadd8, nadd9, nadd10, nadd11, nadd12, hlt, hlt', v2, hq, hqh, hd, hil, hlo, Nat.mul_one]
          refine loop_next (M - (i + 1)) (by omega) ⟨i + 1, rfl, by omega, ?_, by rw [← hr]; exact pi2, rfl⟩
          simp (maxDischargeDepth := 9) -implicitDefEqProofs only [push_cast, simprocAttr, nb, no]; try simp
        · have hnl : ¬ (i : Int) < (M : Int) := by omega
          have eF := fin h' pi
          simp (maxDischargeDepth := 9) -implicitDefEqProofs only [push_cast, simprocAttr, nadd1, nadd2, nadd3, nadd4, nadd5, nadd6, nadd7, nadd8, nadd9, nadd10, nadd11, nadd12, hnl, nb, no, aw, eF]
  exact walk trivial
theorem rows_law (js : AHeap) (avs : List AV) (hx : Ext js) (ht : TyA (CP.gl ++ js) [.one (.sl [.i .i64]), .one (.sl [.i .u64]), .one (.sl [.i .u8])] avs) : ∃ h' ws, W CP 8 avs (CP.gl ++ js) = some (.bool true, h', ws) := by
  simp only [TyA] at ht
  obtain ⟨v, _, rfl, hv, u, _, rfl, hu, w, _, rfl, hw, rfl⟩ := ht
  refine W_law (m := M8) (fun _ => rfl) rfl (rows_body (good_ext hx) hv hu hw) fun h0 => ?_
  simp only [AV.lts, Bool.and_eq_true] at h0
  exact rows_body good_gl (ty_nil hv h0.1) (ty_nil hu h0.2.1) (ty_nil hw h0.2.2.1)
theorem rows_kinds : aksOf X.P 20 [57, 58, 59] = some [.one (.sl [.i .i64]), .one (.sl [.i .u64]), .one (.sl [.i .u8])] := by kernel_rfl
end Go.Proofs.YtimlhgpjmjmjhaaW.AI.B
