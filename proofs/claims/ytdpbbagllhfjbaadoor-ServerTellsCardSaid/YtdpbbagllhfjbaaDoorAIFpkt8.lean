import Derived.Test.YtdpbbagllhfjbaaDoorAIFpkt7
namespace Go.Proofs.YtdpbbagllhfjbaaDoorW.AI.F
open Go Go.Proofs.YtdpbbagllhfjbaaDoorW.AI Go.Proofs.YtdpbbagllhfjbaaDoorW.AI.Oct
set_option maxRecDepth 100000
set_option linter.unusedSimpArgs false
set_option linter.unusedVariables false
set_option linter.unusedSectionVars false
theorem BV.set_vals {h : AHeap} {v : AV} {L : List Int} {q : Nat} {A B : List AV} (s : BV h v L) (hq : h[q]? = some ⟨.tip false, .vals A⟩) : BV (h.set q ⟨.tip false, .vals B⟩) v L := by
  obtain ⟨hB, k | ⟨b, o, c, st, l, mn, e, r⟩⟩ := s
  · exact ⟨hB, Or.inl k⟩
  · refine ⟨hB, Or.inr ⟨b, o, c, st, l, mn, ?_, r⟩⟩
    rw [List.getElem?_set_ne (by rintro rfl; rw [hq] at e; cases e)]
    exact e
section
variable {x : AV} {D : List Int}
set_option maxHeartbeats 8000000 in
theorem refpparse_key {g : AHeap} (hg : Good g) (hx : Src g x D) (hD : D.length < 1000000000) : Wp (xbody (W CP) M30 [x] g) (ParPost g (parseP D)) := by
  have hn := hx.bv.na
  have hlx := hx.bv.len
  obtain ⟨n, hnl⟩ : ∃ n, D.length = n := ⟨_, rfl⟩
  rw [hnl] at hlx
  obtain ⟨Z, hZ⟩ : ∃ Z : ABlk, (⟨.tip false, .vals (pk0.l .nils)⟩ : ABlk) = Z := ⟨_, rfl⟩
  have kz : Keeps g (g ++ [⟨.tip false, .vals (pk0.l .nils)⟩]) none := Keeps.app g _ none rfl
  by_cases c : 512 < D.length
  · have c' : (512 : Int) < (n : Int) := by omega
    unfold parseP
    rw [if_pos c]
    simp (maxDischargeDepth := 9) -implicitDefEqProofs only [push_cast, simprocAttr, M30, nadd1, nadd2, nadd3, nadd4, nadd5, nadd6, nadd7, nadd8, nadd9, nadd10, nadd11, nadd12, hn, hlx, c']
    exact ⟨kz, rfl, rfl⟩
  have c' : ¬ (512 : Int) < (n : Int) := by omega
  have hG0 : Good (g ++ [⟨.tip false, .vals (pk0.l .nils)⟩]) := good_app hg rfl
  by_cases c1 : D.length < 48
  · have e := refParse_short hG0 (hx.bv.len) c1
    unfold parseP
    rw [if_neg c, if_pos c1]
    simp only [pk0, Pk.l] at e
    simp (maxDischargeDepth := 9) -implicitDefEqProofs only [push_cast, simprocAttr, M30, nadd1, nadd2, nadd3, nadd4, nadd5, nadd6, nadd7, nadd8, nadd9, nadd10, nadd11, nadd12, hn, hlx, c', e]
    exact ⟨Keeps.app g _ none rfl, rfl, rfl⟩
  obtain ⟨v0, v1, v2, v3, v4, v5, v6, v7, v8, v9, v10, hv⟩ := HV.mk' hx.1 (show 48 ≤ D.length by omega)
  have hP : parseP D = if 1 ≤ v0 / 8 % 8 ∧ v0 / 8 % 8 ≤ 4 then parseQ (pkV v0 v1 v2 v3 v4 v5 v6 v7 v8 v9 v10) (parseX 9 [] (D.drop 48)) else .err 5 := by
    unfold parseP
    rw [if_neg c, if_neg c1, hv.takeV]
  rw [hP]
  clear hP
  have hx0 := hx.app [⟨.tip false, .vals (pk0.l .nils)⟩]
  by_cases cv : 1 ≤ v0 / 8 % 8 ∧ v0 / 8 % 8 ≤ 4
  case neg =>
    have e := refParse_bad hG0 hx0 hv hD cv
    rw [if_neg cv]
    simp only [pk0, Pk.l] at e
    simp (maxDischargeDepth := 9) -implicitDefEqProofs only [push_cast, simprocAttr, M30, nadd1, nadd2, nadd3, nadd4, nadd5, nadd6, nadd7, nadd8, nadd9, nadd10, nadd11, nadd12, hn, hlx, c', e]
    exact ⟨Keeps.app g _ none rfl, rfl, rfl⟩
  rw [if_pos cv]
  obtain ⟨rv, js, eH, rR, hG1, rb, _⟩ := refParse_ok hG0 hx0 hv hD cv.1 cv.2
  obtain ⟨P, hPv⟩ : ∃ P, pkV v0 v1 v2 v3 v4 v5 v6 v7 v8 v9 v10 = P := ⟨_, rfl⟩
  have eH1 : W CP 55 [x] (g ++ [⟨.tip false, .vals (pk0.l .nils)⟩]) = some (.tup [.agg ((pkV v0 v1 v2 v3 v4 v5 v6 v7 v8 v9 v10).l .nils), rv, .int .i64 0], (g ++ [⟨.tip false, .vals (pk0.l .nils)⟩]) ++ js, []) := eH
  have hPs : P.s = false ∧ P.p15 = 0 ∧ P.p16 = 0 := by rw [← hPv]; exact ⟨rfl, rfl, rfl⟩
  rw [hPv] at eH1 ⊢
  clear eH hPv
  have k1 : Keeps g ((g ++ [⟨.tip false, .vals (pk0.l .nils)⟩]) ++ js) none := ⟨fun q z e _ _ => by rw [List.append_assoc, List.getElem?_append_left (List.getElem?_eq_some_iff.1 e).1]; exact e, by simp, fun _ => hG1⟩
  have hb1 : ((g ++ [⟨.tip false, .vals (pk0.l .nils)⟩]) ++ js)[g.length]? = some ⟨.tip false, .vals (pk0.l .nils)⟩ := by rw [List.append_assoc]; exact end_get _ _ _
  obtain ⟨H1, hH1⟩ : ∃ H1, (g ++ [(⟨.tip false, .vals (pk0.l .nils)⟩ : ABlk)]) ++ js = H1 := ⟨_, rfl⟩
  rw [hH1] at eH1 rR hG1 k1 hb1
  clear hH1
  have l1 : g.length < H1.length := (List.getElem?_eq_some_iff.1 hb1).1
  have l2 : ¬ H1.length < g.length := by omega
  have bB : Byt (D.drop 48) := fun z hz => hx.1 z (List.mem_of_mem_drop hz)
  have sR := (gsAt_bv rR bB).app [⟨.tip false, .vals (P.l .nils)⟩]
  have nR := sR.na
  have hG2 : Good (H1 ++ [⟨.tip false, .vals (P.l .nils)⟩]) := good_app hG1 rfl
  have hTl : (D.drop 48).length < 1000000000 := by rw [List.length_drop]; omega
  obtain ⟨h15, h16, hs⟩ : P.p15 = 0 ∧ P.p16 = 0 ∧ P.s = false := ⟨hPs.2.1, hPs.2.2, hPs.1⟩
  cases hpx : parseX 9 [] (D.drop 48) with
  | err z =>
    have eX := xrefparse_err hG2 sR hTl hpx
    have hz : ¬ z = 0 := parseX_ne _ _ _ _ hpx
    have k3 := keeps_js k1 [(⟨.tip false, .vals (P.l .nils)⟩ : ABlk)] rfl
    simp only [pk0, Pk.l] at eH1 hb1 eX
    simp (maxDischargeDepth := 9) -implicitDefEqProofs only [push_cast, simprocAttr, M30, nadd1, nadd2, nadd3, nadd4, nadd5, nadd6, nadd7, nadd8, nadd9, nadd10, nadd11, nadd12, hn, hlx, c', eH1, hb1, l1, l2, nR, eX, hz]
    exact ⟨keeps_js (keeps_set k1 (Nat.le_refl _) rfl) _ rfl, rfl, rfl⟩
  | ok F T =>
    obtain ⟨xv, sv, js2, eX, rok, _⟩ := xrefparse_ok hG2 sR hTl hpx
    obtain ⟨l, gx, en, ow, gp, bsv, _, hG3⟩ := rok
    have xo : XO ((H1 ++ [⟨.tip false, .vals (P.l .nils)⟩]) ++ js2) (H1 ++ [(⟨.tip false, .vals (P.l .nils)⟩ : ABlk)]).length F xv l := ⟨gx, en, ow, gp⟩
    have xo1 := xo.mono (m := H1.length + 1) (by simp)
    have k3 : Keeps g ((H1 ++ [⟨.tip false, .vals (P.l .nils)⟩]) ++ js2) none := ⟨fun q z e _ _ => by
      have h1 := (List.getElem?_eq_some_iff.1 e).1
      rw [List.append_assoc, List.getElem?_append_left (by omega)]
      exact k1.1 q z e (by simp) (by simp), by have := k1.2.1; simp; omega, fun _ => hG3⟩
    have hb3 : ((H1 ++ [⟨.tip false, .vals (P.l .nils)⟩]) ++ js2)[g.length]? = some ⟨.tip false, .vals (pk0.l .nils)⟩ := by rw [List.append_assoc, List.getElem?_append_left l1]; exact hb1
    have hc3 : ((H1 ++ [⟨.tip false, .vals (P.l .nils)⟩]) ++ js2)[H1.length]? = some ⟨.tip false, .vals (P.l .nils)⟩ := by rw [List.append_assoc]; exact end_get _ _ _
    obtain ⟨H3, hH3⟩ : ∃ H3, (H1 ++ [(⟨.tip false, .vals (P.l .nils)⟩ : ABlk)]) ++ js2 = H3 := ⟨_, rfl⟩
    rw [hH3] at eX xo1 k3 hb3 hc3 hG3 bsv
    clear hH3 xo gx en ow gp
    have l3 : H1.length < H3.length := (List.getElem?_eq_some_iff.1 hc3).1
    have l4 : g.length < H3.length := by omega
    have nX := na_slen xo1.gx.slen
    have nS := bsv.na
    have lS := bsv.len
    have nq : ¬ H1.length = g.length := by omega
    have nq2 : ¬ g.length = H1.length := by omega
    obtain ⟨t, ht⟩ : ∃ t, T.length = t := ⟨_, rfl⟩
    rw [ht] at lS
    simp only [pk0, Pk.l] at eH1 hb1 hb3 hc3 eX
    have hcx : xv.isCell = true := by
      rcases xo1.gx.2 with ⟨rfl, _⟩ | ⟨_, _, _, rfl, _⟩ <;> rfl
    by_cases t0 : t = 0
    · have t0' : ((t : Int) = 12) = False := eq_false (by omega)
      have hQ : parseQ P (.ok F T) = .ok P F := by simp only [parseQ]; rw [if_pos (by omega)]
      rw [hQ]
      have fin := fun Z1 Z2 : ABlk => (xo1.set (q := H1.length) (z := Z1) (by omega)).set (q := g.length) (z := Z2) (by omega)
      rcases xo1.gx.2 with ⟨e0, _⟩ | ⟨pp, mn, oo, e0, _⟩ <;> subst e0
      all_goals
        simp (maxDischargeDepth := 9) -implicitDefEqProofs only [push_cast, simprocAttr, M30, nadd1, nadd2, nadd3, nadd4, nadd5, nadd6, nadd7, nadd8, nadd9, nadd10, nadd11, nadd12, hn, hlx, c', eH1, hb1, l1, l2, nR, eX, nX, nS, lS, hb3, hc3, l3, l4, nq, nq2, t0', hcx]
        exact ⟨keeps_set (keeps_set k3 (by omega) rfl) (by omega) rfl, rfl, _, l, rfl, (fin _ _).mono (by omega)⟩
    · obtain ⟨_, _, _, _, _, q5⟩ := put_parse 9 [] F (D.drop 48) T bB (by simp) hpx
      have t12 : T.length = 12 := by rcases q5 with h | h <;> omega
      obtain rfl : t = 12 := by omega
      have hTne : T ≠ [] := by rintro rfl; simp at t12
      obtain ⟨ka, hka⟩ : ∃ ka, be (T.take 4) = ka := ⟨_, rfl⟩
      obtain ⟨tg, htg⟩ : ∃ tg, be (T.drop 4) = tg := ⟨_, rfl⟩
      have kb := be_bound (l := T.take 4) fun z hz => bsv.1 z (List.mem_of_mem_take hz)
      rw [List.length_take, t12, hka] at kb
      have hQ : parseQ P (.ok F T) = if ka = 0 then .err 5 else .ok { P with s := true, p15 := ka, p16 := tg } F := by
        simp only [parseQ]
        rw [if_neg (by omega), hka, htg]
      rw [hQ]
      clear hQ
      have bc1 := bsv.take (show 4 ≤ T.length by omega)
      have bc2 := bsv.off (show 4 ≤ T.length by omega)
      have ac1 := bc1.na
      have ac2 := bc2.na
      have e1 := fun h => slcV_hi (h := h) bsv (show 4 ≤ T.length by omega)
      have e2 := fun h => slcV_lo (h := h) bsv (show 4 ≤ T.length by omega)
      have eN1 := fun B => number_c (h := H3.set H1.length ⟨.tip false, .vals B⟩) (good_set hG3 rfl) (bc1.set_vals hc3) (by rw [List.length_take]; omega)
      have eN2 := fun B => number_c (h := H3.set H1.length ⟨.tip false, .vals B⟩) (good_set hG3 rfl) (bc2.set_vals hc3) (by rw [List.length_drop]; omega)
      rw [hka] at eN1
      rw [htg] at eN2
      have w32 : IntKind.u32.wrap ka = ka := wr_u32 _ (by omega) (by have := kb.2; simp at this; omega)
      rcases Classical.propComplete (ka = 0) with c5 | c5 <;> rcases xo1.gx.2 with ⟨e0, _⟩ | ⟨pp, mn, oo, e0, _⟩ <;> subst e0
      all_goals
        simp (maxDischargeDepth := 9) -implicitDefEqProofs only [push_cast, simprocAttr, M30, nadd1, nadd2, nadd3, nadd4, nadd5, nadd6, nadd7, nadd8, nadd9, nadd10, nadd11, nadd12, hn, hlx, c', eH1, hb1, l1, l2, nR, eX, nX, nS, lS, hb3, hc3, l3, l4, nq, nq2, hcx, ↓slc_eqH, ↓slc_eqL, e1, e2, ac1, ac2, eN1, eN2, w32, c5]
        first
        | exact ⟨keeps_set (keeps_set k3 (by omega) rfl) (by omega) rfl, rfl, rfl⟩
        | exact ⟨keeps_set (keeps_set k3 (by omega) rfl) (by omega) rfl, rfl, _, l, rfl, ((xo1.set (by omega)).set (by omega)).mono (by omega)⟩
/-- What Parse answers: its heap. -/
def ParOk (h : AHeap) (R : PP) (o : Option (AV × AHeap × List Nat)) : Prop := match R with
  | .err e => o = some (.tup [.agg (pk0.l .nils), .int .i64 e], h, [])
  | .ok P F => ∃ xv l js, o = some (.tup [.agg (P.l xv), .int .i64 0], h ++ js, []) ∧ XO (h ++ js) h.length F xv l ∧ Good (h ++ js)
theorem par_from {f : Nat} {m : MFunc} {h : AHeap} (hp : ∀ h, CP.prim f [x] h = none) (hm : CP.mp f = some m) (ht : m.trim = true) (hg : Good h) (hx0 : AV.lts 0 [x] = false) {R : PP} (key : Wp (xbody (W CP) m [x] h) (ParPost h R)) : ParOk h R (W CP f [x] h) := by
  cases R with
  | err e =>
    refine W_quietP (m := m) (hp h) hm hx0 ht rfl hg (key.mono fun r hr => ?_)
    obtain ⟨k, e1, e2⟩ := hr
    exact ⟨e2, k.behind, e1⟩
  | ok P F =>
    obtain ⟨⟨r1, h', ws⟩, e, k, rfl, xv, l, rfl, xo⟩ := key
    simp only at k xo
    obtain ⟨js, rfl⟩ := k.behind
    cases hl : xv.lt h.length with
    | false =>
      refine ⟨xv, l, js, ?_, xo, k.2.2 hg⟩
      rw [W_body (m := m) (hp h) hm hx0 e, ht, if_pos rfl, trim_addr (by simp [AV.lt, AV.lts, hl])]
    | true =>
      have hv : xv = .nils := lt_blkOf xo.gx.slen xo.gp hl (by
        rintro b o m c rfl
        rcases xo.gx.2 with ⟨e, _⟩ | ⟨_, _, _, e, _⟩ <;> cases e)
      subst hv
      have hF : F = [] := by
        rcases xo.gx.2 with ⟨_, e⟩ | ⟨_, _, _, e, _⟩
        · exact List.length_eq_zero_iff.1 e
        · cases e
      subst hF
      refine ⟨.nils, [], [], ?_, ⟨⟨rfl, Or.inl ⟨rfl, rfl⟩⟩, fun i t D hi => by simp at hi, fun i t D hi => by simp at hi, by simp [blkOf]⟩, by rw [List.append_nil]; exact hg⟩
      rw [List.append_nil]
      exact W_quiet (m := m) (hp h) hm hx0 ht (by simp [AV.lt, AV.lts]) hg e
theorem pparse_c {h : AHeap} (hg : Good h) (ha : At0 h) (hx : SV h x D) (hD : D.length < 1000000000) : ParOk h (parseP D) (W CP 15 [x] h) := by
  rcases hx with ⟨rfl, rfl⟩ | hs
  · show W CP 15 [.nils] h = some (.tup [.agg (pk0.l .nils), .int .i64 4], h, [])
    refine W_val (m := M15) (fun _ => rfl) rfl rfl rfl ?_ h
    have e := parse_short (h := CP.gl ++ [⟨.tip false, .vals (pk0.l .nils)⟩]) (x := .nils) (n := 0) (good_app glG rfl) rfl (by decide)
    simp only [pk0, Pk.l] at e
    simp (maxDischargeDepth := 9) -implicitDefEqProofs only [push_cast, simprocAttr, M15, nadd1, nadd2, nadd3, nadd4, nadd5, nadd6, nadd7, nadd8, nadd9, nadd10, nadd11, nadd12, e, pk0, Pk.l]
  · exact par_from (fun _ => rfl) rfl rfl hg (by obtain ⟨_, b, o, c, st, l, _, _, _, _, ⟨rfl, _⟩ | rfl⟩ := hs <;> simp [AV.lts, AV.lt]) (pparse_key hg ha hs hD)
theorem refpparse_c {h : AHeap} (hg : Good h) (hx : SV h x D) (hD : D.length < 1000000000) : ParOk h (parseP D) (W CP 30 [x] h) := by
  rcases hx with ⟨rfl, rfl⟩ | hs
  · show W CP 30 [.nils] h = some (.tup [.agg (pk0.l .nils), .int .i64 4], h, [])
    refine W_val (m := M30) (fun _ => rfl) rfl rfl rfl ?_ h
    have e := refParse_short (h := CP.gl ++ [⟨.tip false, .vals (pk0.l .nils)⟩]) (x := .nils) (n := 0) (good_app glG rfl) rfl (by decide)
    simp only [pk0, Pk.l] at e
    simp (maxDischargeDepth := 9) -implicitDefEqProofs only [push_cast, simprocAttr, M30, nadd1, nadd2, nadd3, nadd4, nadd5, nadd6, nadd7, nadd8, nadd9, nadd10, nadd11, nadd12, e, pk0, Pk.l]
  · exact par_from (fun _ => rfl) rfl rfl hg (by obtain ⟨_, b, o, c, st, l, _, _, _, _, ⟨rfl, _⟩ | rfl⟩ := hs <;> simp [AV.lts, AV.lt]) (refpparse_key hg hs hD)
end
end Go.Proofs.YtdpbbagllhfjbaaDoorW.AI.F
