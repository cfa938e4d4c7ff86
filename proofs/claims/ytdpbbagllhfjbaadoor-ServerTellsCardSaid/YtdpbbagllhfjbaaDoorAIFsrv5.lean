import Derived.Test.YtdpbbagllhfjbaaDoorAIFsrv4
namespace Go.Proofs.YtdpbbagllhfjbaaDoorW.AI.F
open Go Go.Proofs.YtdpbbagllhfjbaaDoorW.AI Go.Proofs.YtdpbbagllhfjbaaDoorW.AI.Oct
set_option maxRecDepth 100000
set_option linter.unusedSimpArgs false
set_option linter.unusedVariables false
set_option linter.unusedSectionVars false
/-- The first i bytes of a code, as the document adds them. -/
def codeK (l : List UInt8) : Nat → Int
  | 0 => 0
  | i + 1 => codeK l i * 256 + cb l i
theorem codeK_in (l : List UInt8) {i : Nat} (h : i ≤ 3) : 0 ≤ codeK l i ∧ codeK l i ≤ 16777215 := by
  have h0 := cb_in l 0
  have h1 := cb_in l 1
  have h2 := cb_in l 2
  match i, h with
  | 0, _ => simp [codeK]
  | 1, _ => simp only [codeK]; omega
  | 2, _ => simp only [codeK]; omega
  | 3, _ => simp only [codeK]; omega
theorem codeK_4 (l : List UInt8) : codeK l 4 = codeV l := by simp [codeK, codeV]
set_option maxHeartbeats 16000000 in
theorem rans_key {g : AHeap} {S : Srv} (ok : S.Ok) {p : Nat} {n : Int} {b : AV} {D : List Int} {took gave lie leap : Int} {l : List UInt8} (hg : Good g) (ha : At0 g) (hp : g[p]? = some ⟨.tip false, .vals (S.b n)⟩) (n0 : 0 ≤ n) (n1 : n ≤ 1000000) (hb : SV g b D) (hD : D.length < 1000000000)
    (l0 : -9223372036854775808 ≤ lie) (l1 : lie ≤ 9223372036854775807) (t0 : -9223372036854775808 ≤ took) (t1 : took ≤ 9223372036854775807) (g0 : -9223372036854775808 ≤ gave) (g1 : gave ≤ 9223372036854775807) (q0 : 0 ≤ leap) (q1 : leap ≤ 255) :
    Wp (xbody (W CP) M11 [.ptr p 0, b, .int .i64 took, .int .i64 gave, .agg [.int .i64 lie, .int .u8 leap, .str (sb l)]] g) (AnsPost g S p n (ansP S D took gave lie leap l)) := by
  have nb : noAny (some b) = some b := na_slen hb.bv.1.len
  have lp := (List.getElem?_eq_some_iff.1 hp).1
  obtain ⟨H1, hH1⟩ : ∃ H, g ++ [(⟨.tip false, .vals [.int .i64 lie, .int .u8 leap, .str (sb l)]⟩ : ABlk)] = H := ⟨_, rfl⟩
  have hG1 : Good H1 := by rw [← hH1]; exact good_app hg rfl
  have k1 : Keeps g H1 none := by rw [← hH1]; exact Keeps.app g [⟨.tip false, .vals [.int .i64 lie, .int .u8 leap, .str (sb l)]⟩] none rfl
  have hp1 := kN k1 _ _ hp
  have lp1 := (List.getElem?_eq_some_iff.1 hp1).1
  have ha1 : At0 H1 := by rw [← hH1]; exact ha.app _
  have hb1 : SV H1 b D := by rw [← hH1]; exact sv_app hb _
  have par := refpparse_c hG1 hb1 hD
  unfold ansP
  cases hR : parseP D with
  | err e =>
    rw [hR] at par
    have eP : W CP 30 [b] H1 = some (.tup [.agg (pk0.l .nils), .int .i64 e], H1, []) := par
    have e0 : ¬ e = 0 := parseP_ne hR
    simp only [pk0, Pk.l] at eP
    have lo1 : ¬ H1.length < g.length := by have := k1.2.1; omega
    simp (maxDischargeDepth := 9) -implicitDefEqProofs only [push_cast, simprocAttr, M11, nadd1, nadd2, nadd3, nadd4, nadd5, nadd6, nadd7, nadd8, nadd9, nadd10, nadd11, nadd12, ABlk.new, nb, hH1, eP, e0, lo1]
    exact ⟨kT k1 (Keeps.app _ _ _ rfl), rfl, rfl⟩
  | ok P F =>
    show Wp _ (AnsPost g S p n (ansR S P F took gave lie leap l))
    rw [hR] at par
    obtain ⟨xv, lx, js, eP, xo, hG2⟩ := par
    obtain ⟨H2, hH2⟩ : ∃ H, H1 ++ js = H := ⟨_, rfl⟩
    have k2 : Keeps H1 H2 none := by rw [← hH2]; exact kG hG2
    rw [hH2] at eP xo hG2
    obtain ⟨okP, hF8, hFm⟩ := parseP_fine hb.bv.1.1 hR
    obtain ⟨mP, _, _⟩ := put_parseP hb.bv.1.1 hR
    have hFl : ∀ z ∈ F, z.2.length < 1000000000 := fun z hz => by
      have := hFm z hz
      unfold mayN at this
      simp only [Bool.and_eq_true, decide_eq_true_eq] at this
      omega
    obtain ⟨p0, p1, p2, p3, p4, p5, p6, p7, p8, p9, p10, p11, p12, s, p15, p16⟩ := P
    have kall := kT k1 k2
    have lo1 : ¬ H2.length < g.length := by have := kall.2.1; omega
    obtain ⟨H3, hH3⟩ : ∃ H, H2 ++ [(⟨.tip false, .vals (Pk.l ⟨p0, p1, p2, p3, p4, p5, p6, p7, p8, p9, p10, p11, p12, s, p15, p16⟩ xv)⟩ : ABlk)] = H := ⟨_, rfl⟩
    have k3 : Keeps H2 H3 none := by rw [← hH3]; exact Keeps.app _ _ _ rfl
    have hG3 := k3.2.2 hG2
    have b3 : H3[H2.length]? = some ⟨.tip false, .vals (Pk.l ⟨p0, p1, p2, p3, p4, p5, p6, p7, p8, p9, p10, p11, p12, s, p15, p16⟩ xv)⟩ := by rw [← hH3, List.getElem?_append_right (Nat.le_refl _)]; simp
    have l3 := (List.getElem?_eq_some_iff.1 b3).1
    have k13 := kT k2 k3
    have hp3 := kN k13 _ _ hp1
    have lp3 := (List.getElem?_eq_some_iff.1 hp3).1
    have hs1 : H1[g.length]? = some ⟨.tip false, .vals [.int .i64 lie, .int .u8 leap, .str (sb l)]⟩ := by rw [← hH1, List.getElem?_append_right (Nat.le_refl _)]; simp
    have hs3 := kN k13 _ _ hs1
    have ls3 := (List.getElem?_eq_some_iff.1 hs3).1
    have ha3 : At0 H3 := by
      have : ∃ js, H3 = H1 ++ js := k13.behind
      obtain ⟨js, hj⟩ := this
      rw [hj]; exact ha1.app js
    have xo3 : ExtAt H3 xv F := by rw [← hH3]; exact (xo.app _).ext
    have hxc : xv.isCell = true := by rcases xo.gx.2 with ⟨e0, _⟩ | ⟨pp, mn, oo, e0, _⟩ <;> subst e0 <;> rfl
    have nx : noAny (some xv) = some xv := na_slen xo3.len
    have hxl : xv.lt H3.length = true := by
      rcases xo.gx.2 with ⟨e0, _⟩ | ⟨pp, mn, oo, e0, e1⟩
      · rw [e0]; rfl
      · rw [e0]
        have := (List.getElem?_eq_some_iff.1 e1).1
        have := k3.2.1
        simp only [AV.lt, decide_eq_true_eq]
        omega
    have eR := refright_c (id := S.kid) (A := S.ka) (B := S.kb) okP ok.k0 ok.k1 (by omega) hFl hxc hG3 xo3 hxl
    obtain ⟨rb, hrb⟩ : ∃ r, rightP ⟨p0, p1, p2, p3, p4, p5, p6, p7, p8, p9, p10, p11, p12, s, p15, p16⟩ F S.kid S.ka S.kb = r := ⟨_, rfl⟩
    rw [hrb] at eR
    have eO1 := rout_c (t := took) (b := lie) t0 t1 l0 l1 H3
    have eO2 := rout_c (t := gave) (b := lie) g0 g1 l0 l1 H3
    have kid0 : s = true → rb = true → ¬ S.kid = 0 := by
      rintro rfl rfl
      have h1 := hrb
      unfold rightP at h1
      simp only [Bool.and_eq_true, decide_eq_true_eq] at h1
      have h2 := mP
      unfold mayP mayS at h2
      simp only [Bool.and_eq_true, beq_iff_eq] at h2
      obtain ⟨_, _, _, h3, _⟩ := h1
      obtain ⟨_, _, h4, _⟩ := h2
      have h5 : ¬ p15 = 0 := by simpa using h4
      rw [← h3]; exact h5
    have kgood : Keeps g H3 none := kT kall k3
    simp only [Pk.l, Srv.b] at eP hH3 b3 hp3 eR
    by_cases c1 : p2 = 3
    case neg =>
      have eA : ansR S ⟨p0, p1, p2, p3, p4, p5, p6, p7, p8, p9, p10, p11, p12, s, p15, p16⟩ F took gave lie leap l = .err 22 := by unfold ansR; exact if_pos c1
      rw [eA]
      simp (maxDischargeDepth := 9) -implicitDefEqProofs only [push_cast, simprocAttr, M11, nadd1, nadd2, nadd3, nadd4, nadd5, nadd6, nadd7, nadd8, nadd9, nadd10, nadd11, nadd12, ABlk.new, nb, hH1, eP, nx, hxc, hH3, b3, l3, hs3, ls3, hp3, lp3, lo1, c1]
      exact ⟨kgood, rfl, rfl⟩
    subst c1
    by_cases c2 : s = true ∧ rb = false
    · obtain ⟨rfl, rfl⟩ := c2
      have eA : ansR S ⟨p0, p1, 3, p3, p4, p5, p6, p7, p8, p9, p10, p11, p12, true, p15, p16⟩ F took gave lie leap l = .err 21 := by unfold ansR; rw [if_neg (by simp), hrb, if_pos ⟨rfl, rfl⟩]
      rw [eA]
      rcases Classical.propComplete (S.kid = 0) with ck | ck
      · simp (maxDischargeDepth := 9) -implicitDefEqProofs only [push_cast, simprocAttr, M11, nadd1, nadd2, nadd3, nadd4, nadd5, nadd6, nadd7, nadd8, nadd9, nadd10, nadd11, nadd12, ABlk.new, nb, hH1, eP, nx, hxc, hH3, b3, l3, hs3, ls3, hp3, lp3, lo1, ck]
        exact ⟨kgood, rfl, rfl⟩
      · simp (maxDischargeDepth := 9) -implicitDefEqProofs only [push_cast, simprocAttr, M11, nadd1, nadd2, nadd3, nadd4, nadd5, nadd6, nadd7, nadd8, nadd9, nadd10, nadd11, nadd12, ABlk.new, nb, hH1, eP, nx, hxc, hH3, b3, l3, hs3, ls3, hp3, lp3, lo1, eR, ck]
        exact ⟨kgood, rfl, rfl⟩
    have hsay : sayB lie leap l.length took gave = (decide ((0 ≤ took ∧ took ≤ 4611686018427387904) ∧ (0 ≤ took + lie ∧ took + lie ≤ 4611686018427387904)) && (decide ((0 ≤ gave ∧ gave ≤ 4611686018427387904) ∧ (0 ≤ gave + lie ∧ gave + lie ≤ 4611686018427387904)) && (decide (took ≤ gave) && (decide (leap ≤ 3) && decide (l.length ≤ 4))))) := by
      unfold sayB
      rw [Bool.eq_iff_iff]
      simp only [Bool.and_eq_true, decide_eq_true_eq]
      constructor <;> (intro h; omega)
    obtain ⟨o1, ho1⟩ : ∃ z, decide ((0 ≤ took ∧ took ≤ 4611686018427387904) ∧ (0 ≤ took + lie ∧ took + lie ≤ 4611686018427387904)) = z := ⟨_, rfl⟩
    obtain ⟨o2, ho2⟩ : ∃ z, decide ((0 ≤ gave ∧ gave ≤ 4611686018427387904) ∧ (0 ≤ gave + lie ∧ gave + lie ≤ 4611686018427387904)) = z := ⟨_, rfl⟩
    rw [ho1] at eO1 hsay
    rw [ho2] at eO2 hsay
    have ebad : sayB lie leap l.length took gave = false → ansR S ⟨p0, p1, 3, p3, p4, p5, p6, p7, p8, p9, p10, p11, p12, s, p15, p16⟩ F took gave lie leap l = .err 1 := fun h => by unfold ansR; rw [if_neg (by simp), hrb, if_neg c2, if_pos h]
    have nxs : s = true → rb = true := fun h => by
      cases rb with
      | true => rfl
      | false => exact absurd ⟨h, rfl⟩ c2
    have hln : (sb l).size = l.length := sb_size l
    cases o1 with
    | false =>
      rw [ebad (by rw [hsay]; rfl)]
      cases s with
      | false =>
        simp (maxDischargeDepth := 9) -implicitDefEqProofs only [push_cast, simprocAttr, M11, nadd1, nadd2, nadd3, nadd4, nadd5, nadd6, nadd7, nadd8, nadd9, nadd10, nadd11, nadd12, ABlk.new, nb, hH1, eP, nx, hxc, hH3, b3, l3, hs3, ls3, hp3, lp3, lo1, eO1]
        exact ⟨kgood, rfl, rfl⟩
      | true =>
        obtain rfl := nxs rfl
        have ck := kid0 rfl rfl
        simp (maxDischargeDepth := 9) -implicitDefEqProofs only [push_cast, simprocAttr, M11, nadd1, nadd2, nadd3, nadd4, nadd5, nadd6, nadd7, nadd8, nadd9, nadd10, nadd11, nadd12, ABlk.new, nb, hH1, eP, nx, hxc, hH3, b3, l3, hs3, ls3, hp3, lp3, lo1, eR, ck, eO1]
        exact ⟨kgood, rfl, rfl⟩
    | true =>
    cases o2 with
    | false =>
      rw [ebad (by rw [hsay]; rfl)]
      cases s with
      | false =>
        simp (maxDischargeDepth := 9) -implicitDefEqProofs only [push_cast, simprocAttr, M11, nadd1, nadd2, nadd3, nadd4, nadd5, nadd6, nadd7, nadd8, nadd9, nadd10, nadd11, nadd12, ABlk.new, nb, hH1, eP, nx, hxc, hH3, b3, l3, hs3, ls3, hp3, lp3, lo1, eO1, eO2]
        exact ⟨kgood, rfl, rfl⟩
      | true =>
        obtain rfl := nxs rfl
        have ck := kid0 rfl rfl
        simp (maxDischargeDepth := 9) -implicitDefEqProofs only [push_cast, simprocAttr, M11, nadd1, nadd2, nadd3, nadd4, nadd5, nadd6, nadd7, nadd8, nadd9, nadd10, nadd11, nadd12, ABlk.new, nb, hH1, eP, nx, hxc, hH3, b3, l3, hs3, ls3, hp3, lp3, lo1, eR, ck, eO1, eO2]
        exact ⟨kgood, rfl, rfl⟩
    | true =>
    by_cases d1 : took ≤ gave
    case neg =>
      have d1' : gave < took := by omega
      rw [ebad (by rw [hsay, decide_eq_false d1]; rfl)]
      cases s with
      | false =>
        simp (maxDischargeDepth := 9) -implicitDefEqProofs only [push_cast, simprocAttr, M11, nadd1, nadd2, nadd3, nadd4, nadd5, nadd6, nadd7, nadd8, nadd9, nadd10, nadd11, nadd12, ABlk.new, nb, hH1, eP, nx, hxc, hH3, b3, l3, hs3, ls3, hp3, lp3, lo1, eO1, eO2, d1']
        exact ⟨kgood, rfl, rfl⟩
      | true =>
        obtain rfl := nxs rfl
        have ck := kid0 rfl rfl
        simp (maxDischargeDepth := 9) -implicitDefEqProofs only [push_cast, simprocAttr, M11, nadd1, nadd2, nadd3, nadd4, nadd5, nadd6, nadd7, nadd8, nadd9, nadd10, nadd11, nadd12, ABlk.new, nb, hH1, eP, nx, hxc, hH3, b3, l3, hs3, ls3, hp3, lp3, lo1, eR, ck, eO1, eO2, d1']
        exact ⟨kgood, rfl, rfl⟩
    have d1' : ¬ gave < took := by omega
    by_cases d2 : leap ≤ 3
    case neg =>
      have d2' : 3 < leap := by omega
      rw [ebad (by rw [hsay, decide_eq_true d1, decide_eq_false d2]; rfl)]
      cases s with
      | false =>
        simp (maxDischargeDepth := 9) -implicitDefEqProofs only [push_cast, simprocAttr, M11, nadd1, nadd2, nadd3, nadd4, nadd5, nadd6, nadd7, nadd8, nadd9, nadd10, nadd11, nadd12, ABlk.new, nb, hH1, eP, nx, hxc, hH3, b3, l3, hs3, ls3, hp3, lp3, lo1, eO1, eO2, d1', d2']
        exact ⟨kgood, rfl, rfl⟩
      | true =>
        obtain rfl := nxs rfl
        have ck := kid0 rfl rfl
        simp (maxDischargeDepth := 9) -implicitDefEqProofs only [push_cast, simprocAttr, M11, nadd1, nadd2, nadd3, nadd4, nadd5, nadd6, nadd7, nadd8, nadd9, nadd10, nadd11, nadd12, ABlk.new, nb, hH1, eP, nx, hxc, hH3, b3, l3, hs3, ls3, hp3, lp3, lo1, eR, ck, eO1, eO2, d1', d2']
        exact ⟨kgood, rfl, rfl⟩
    have d2' : ¬ 3 < leap := by omega
    by_cases d3 : l.length ≤ 4
    case neg =>
      have d3' : (4 : Int) < (l.length : Int) := by omega
      rw [ebad (by rw [hsay, decide_eq_true d1, decide_eq_true d2, decide_eq_false d3]; rfl)]
      cases s with
      | false =>
        simp (maxDischargeDepth := 9) -implicitDefEqProofs only [push_cast, simprocAttr, M11, nadd1, nadd2, nadd3, nadd4, nadd5, nadd6, nadd7, nadd8, nadd9, nadd10, nadd11, nadd12, ABlk.new, nb, hH1, eP, nx, hxc, hH3, b3, l3, hs3, ls3, hp3, lp3, lo1, eO1, eO2, d1', d2', hln, d3']
        exact ⟨kgood, rfl, rfl⟩
      | true =>
        obtain rfl := nxs rfl
        have ck := kid0 rfl rfl
        simp (maxDischargeDepth := 9) -implicitDefEqProofs only [push_cast, simprocAttr, M11, nadd1, nadd2, nadd3, nadd4, nadd5, nadd6, nadd7, nadd8, nadd9, nadd10, nadd11, nadd12, ABlk.new, nb, hH1, eP, nx, hxc, hH3, b3, l3, hs3, ls3, hp3, lp3, lo1, eR, ck, eO1, eO2, d1', d2', hln, d3']
        exact ⟨kgood, rfl, rfl⟩
    have d3' : ¬ (4 : Int) < (l.length : Int) := by omega
    have hsb : sayB lie leap l.length took gave = true := by rw [hsay, decide_eq_true d1, decide_eq_true d2, decide_eq_true d3]; rfl
    have eA : ansR S ⟨p0, p1, 3, p3, p4, p5, p6, p7, p8, p9, p10, p11, p12, s, p15, p16⟩ F took gave lie leap l = .ok (ansQ S ⟨p0, p1, 3, p3, p4, p5, p6, p7, p8, p9, p10, p11, p12, s, p15, p16⟩ lie leap l took gave) := by unfold ansR; rw [if_neg (by simp), hrb, if_neg c2, if_neg (by rw [hsb]; decide)]
    rw [eA]
    have r1 := of_decide_eq_true ho1
    have r2 := of_decide_eq_true ho2
    have w1 : IntKind.i64.wrap (took + lie) = took + lie := wr_i64 _ (by omega) (by omega)
    have w2 : IntKind.i64.wrap (gave + lie) = gave + lie := wr_i64 _ (by omega) (by omega)
    obtain ⟨tl, htl⟩ : ∃ z, took + lie = z := ⟨_, rfl⟩
    obtain ⟨gl', hgl⟩ : ∃ z, gave + lie = z := ⟨_, rfl⟩
    have w1' : IntKind.i64.wrap (took + lie) = tl := w1.trans htl
    have w2' : IntKind.i64.wrap (gave + lie) = gl' := w2.trans hgl
    have eT := fun g => rstamp_c (ns := tl) (by omega) (by omega) g
    have eG := fun g => rstamp_c (ns := gl') (by omega) (by omega) g
    have eH := fun g => rshort_c (ns := S.rho) ok.o0 ok.o1 g
    obtain ⟨hd, hhd⟩ : ∃ z, stV tl = z := ⟨_, rfl⟩
    obtain ⟨xm, hxm⟩ : ∃ z, stV gl' = z := ⟨_, rfl⟩
    obtain ⟨sh, hsh⟩ : ∃ z, shV S.rho = z := ⟨_, rfl⟩
    have hd0 := stV_in (ns := tl) (by omega)
    have xm0 := stV_in (ns := gl') (by omega)
    have sh0 := shV_in ok.o1
    rw [hhd] at eT hd0
    rw [hxm] at eG xm0
    rw [hsh] at eH sh0
    have lo3 : ¬ H3.length < g.length := by omega
    have np3 : ¬ p = H3.length := by omega
    by_cases cl : l = []
    · subst cl
      cases s with
      | false =>
        have mH : mayH leap p1 4 = true := by
          have := mP
          unfold mayP mayH at this
          simp only [Bool.and_eq_true, decide_eq_true_eq] at this
          unfold mayH
          simp only [Bool.and_eq_true, decide_eq_true_eq]
          omega
        have okB : Pk.Ok ⟨leap, p1, 4, S.st, p4, -20, 0, sh, S.rid, hd, p12, hd, xm, false, 0, 0⟩ := by
          have z1 : 0 ≤ p1 := okP.a1
          have z2 : p1 ≤ 255 := okP.b1
          have z3 : -128 ≤ p4 := okP.a4
          have z4 : p4 ≤ 127 := okP.b4
          have z5 : 0 ≤ p12 := okP.a12
          have z6 : p12 ≤ 18446744073709551615 := okP.b12
          have z7 := ok.s1
          have z8 := ok.s2
          have z9 := ok.r0
          have z10 := ok.r1
          constructor <;> (dsimp only; omega)
        obtain ⟨H4, hH4⟩ : ∃ H, H3 ++ [(⟨.tip false, .vals (Pk.l ⟨leap, p1, 4, S.st, p4, -20, 0, sh, S.rid, hd, p12, hd, xm, false, 0, 0⟩ .nils)⟩ : ABlk)] = H := ⟨_, rfl⟩
        have k4 : Keeps H3 H4 none := by rw [← hH4]; exact Keeps.app _ _ _ rfl
        have b4 : H4[H3.length]? = some ⟨.tip false, .vals (Pk.l ⟨leap, p1, 4, S.st, p4, -20, 0, sh, S.rid, hd, p12, hd, xm, false, 0, 0⟩ .nils)⟩ := by rw [← hH4, List.getElem?_append_right (Nat.le_refl _)]; simp
        have l4 := (List.getElem?_eq_some_iff.1 b4).1
        have hp4 := kN k4 _ _ hp3
        have b34 := kN k4 _ _ b3
        have hs4 := kN k4 _ _ hs3
        have ls4 := (List.getElem?_eq_some_iff.1 hs4).1
        have lp4 := (List.getElem?_eq_some_iff.1 hp4).1
        have l34 := (List.getElem?_eq_some_iff.1 b34).1
        have hG4 := k4.2.2 hG3
        obtain ⟨f1, f2, f3, f4⟩ := fit_put (Q := ⟨leap, p1, 4, S.st, p4, -20, 0, sh, S.rid, hd, p12, hd, xm, false, 0, 0⟩) mH rfl rfl
        obtain ⟨H6, hH6⟩ : ∃ H, H4.set p ⟨.tip false, .vals (S.b (n + 1))⟩ = H := ⟨_, rfl⟩
        have kc := kT kgood k4
        have lpc : p < H4.length := Nat.lt_of_lt_of_le lp kc.2.1
        have k6 : Keeps g H6 (some p) := by rw [← hH6]; exact kSet kc rfl
        have hG6 := k6.2.2 hg
        have b6 : H6[H3.length]? = some ⟨.tip false, .vals (Pk.l ⟨leap, p1, 4, S.st, p4, -20, 0, sh, S.rid, hd, p12, hd, xm, false, 0, 0⟩ .nils)⟩ := by rw [← hH6, List.getElem?_set_ne (by omega)]; exact b4
        have l6 := (List.getElem?_eq_some_iff.1 b6).1
        have hp6 : H6[p]? = some ⟨.tip false, .vals (S.b (n + 1))⟩ := by rw [← hH6]; simp [lpc]
        have lp6 := (List.getElem?_eq_some_iff.1 hp6).1
        obtain ⟨v, js2, eU, bv, hGu⟩ := refput_u (P := ⟨leap, p1, 4, S.st, p4, -20, 0, sh, S.rid, hd, p12, hd, xm, false, 0, 0⟩) (x := .nils) (F := []) okB (by simp) (by simp) rfl hG6 (ExtAt.nil _)
        rw [f3] at eU
        rw [f4] at bv
        obtain ⟨H7, hH7⟩ : ∃ H, H6 ++ js2 = H := ⟨_, rfl⟩
        have k7 : Keeps H6 H7 none := by rw [← hH7]; exact kG hGu
        rw [hH7] at eU bv hGu
        have hp7 := kN k7 _ _ hp6
        have kF : Keeps g H7 (some p) := ⟨fun q x e h1 h2 => kN k7 _ _ (k6.1 q x e h1 h2), Nat.le_trans k6.2.1 k7.2.1, fun hg => k7.2.2 (k6.2.2 hg)⟩
        have nv : noAny (some v) = some v := na_slen bv.len
        have hvc : v.isCell = true := bv_cell bv
        have w5 : IntKind.i64.wrap (n + 1) = n + 1 := wr_i64 _ (by omega) (by omega)
        have hQ : ansQ S ⟨p0, p1, 3, p3, p4, p5, p6, p7, p8, p9, p10, p11, p12, false, p15, p16⟩ lie leap [] took gave = ⟨leap, p1, 4, S.st, p4, -20, 0, sh, S.rid, hd, p12, hd, xm, false, 0, 0⟩ := by
          unfold ansQ ansB
          rw [if_neg (by simp), if_pos rfl, if_pos rfl, if_pos rfl, htl, hgl, hhd, hxm, hsh]
        rw [hQ]
        simp only [Pk.l] at eU hH4 b4 b6 
        simp only [Srv.b] at hH6 
        simp (maxDischargeDepth := 9) -implicitDefEqProofs only [push_cast, simprocAttr, M11, nadd1, nadd2, nadd3, nadd4, nadd5, nadd6, nadd7, nadd8, nadd9, nadd10, nadd11, nadd12, ABlk.new, nb, hH1, eP, nx, hxc, hH3, b3, l3, hs3, ls3, hp3, lp3, lo1, eO1, eO2, d1', d2', hln, d3', w1', w2', eT, eG, eH, hs4, ls4, hH4, b4, l4, hp4, b34, lp4, l34, lo3, w5, hH6, b6, l6, lp, eU, nv, hvc]
        exact ⟨v, rfl, bv, kF, hp7, rfl⟩
      | true =>
        have mH : mayH leap p1 4 = true := by
          have := mP
          unfold mayP mayH at this
          simp only [Bool.and_eq_true, decide_eq_true_eq] at this
          unfold mayH
          simp only [Bool.and_eq_true, decide_eq_true_eq]
          omega
        obtain rfl := nxs rfl
        have ck := kid0 rfl rfl
        have okB : Pk.Ok ⟨leap, p1, 4, S.st, p4, -20, 0, sh, S.rid, hd, p12, hd, xm, false, 0, 0⟩ := by
          have z1 : 0 ≤ p1 := okP.a1
          have z2 : p1 ≤ 255 := okP.b1
          have z3 : -128 ≤ p4 := okP.a4
          have z4 : p4 ≤ 127 := okP.b4
          have z5 : 0 ≤ p12 := okP.a12
          have z6 : p12 ≤ 18446744073709551615 := okP.b12
          have z7 := ok.s1
          have z8 := ok.s2
          have z9 := ok.r0
          have z10 := ok.r1
          constructor <;> (dsimp only; omega)
        obtain ⟨H4, hH4⟩ : ∃ H, H3 ++ [(⟨.tip false, .vals (Pk.l ⟨leap, p1, 4, S.st, p4, -20, 0, sh, S.rid, hd, p12, hd, xm, false, 0, 0⟩ .nils)⟩ : ABlk)] = H := ⟨_, rfl⟩
        have k4 : Keeps H3 H4 none := by rw [← hH4]; exact Keeps.app _ _ _ rfl
        have b4 : H4[H3.length]? = some ⟨.tip false, .vals (Pk.l ⟨leap, p1, 4, S.st, p4, -20, 0, sh, S.rid, hd, p12, hd, xm, false, 0, 0⟩ .nils)⟩ := by rw [← hH4, List.getElem?_append_right (Nat.le_refl _)]; simp
        have l4 := (List.getElem?_eq_some_iff.1 b4).1
        have hp4 := kN k4 _ _ hp3
        have b34 := kN k4 _ _ b3
        have hs4 := kN k4 _ _ hs3
        have ls4 := (List.getElem?_eq_some_iff.1 hs4).1
        have lp4 := (List.getElem?_eq_some_iff.1 hp4).1
        have l34 := (List.getElem?_eq_some_iff.1 b34).1
        have hG4 := k4.2.2 hG3
        have mS0 : mayS (sgP ⟨leap, p1, 4, S.st, p4, -20, 0, sh, S.rid, hd, p12, hd, xm, false, 0, 0⟩ S.kid 0) = true := by
          unfold mayS sgP
          simp [ck]
        obtain ⟨_, _, fe, _⟩ := fit_put (Q := sgP ⟨leap, p1, 4, S.st, p4, -20, 0, sh, S.rid, hd, p12, hd, xm, false, 0, 0⟩ S.kid 0) mH mS0 rfl
        have eS := refsign_u (P := ⟨leap, p1, 4, S.st, p4, -20, 0, sh, S.rid, hd, p12, hd, xm, false, 0, 0⟩) (x := .nils) (F := []) (id := S.kid) (A := S.ka) (B := S.kb) okB ok.k0 ok.k1 (by simp) (by simp) rfl hG4 (ExtAt.nil _) rfl
        obtain ⟨tg, htg⟩ : ∃ z, tagI S.ka S.kb (bodyP ⟨leap, p1, 4, S.st, p4, -20, 0, sh, S.rid, hd, p12, hd, xm, false, 0, 0⟩ []) = z := ⟨_, rfl⟩
        have hSg : signS ⟨leap, p1, 4, S.st, p4, -20, 0, sh, S.rid, hd, p12, hd, xm, false, 0, 0⟩ [] S.kid S.ka S.kb = ⟨leap, p1, 4, S.st, p4, -20, 0, sh, S.rid, hd, p12, hd, xm, true, S.kid, tg⟩ := by unfold signS; rw [if_pos fe, htg]; rfl
        have hSx : signX ⟨leap, p1, 4, S.st, p4, -20, 0, sh, S.rid, hd, p12, hd, xm, false, 0, 0⟩ [] S.kid .nils = .nils := by unfold signX; rw [if_pos fe]
        have okS := signS_ok (F := []) (A := S.ka) (B := S.kb) okB ok.k0 ok.k1
        rw [hSg] at okS
        rw [hSg, hSx, fe] at eS
        have mS2 : mayS ⟨leap, p1, 4, S.st, p4, -20, 0, sh, S.rid, hd, p12, hd, xm, true, S.kid, tg⟩ = true := by
          unfold mayS
          simp [ck]
        obtain ⟨H5, hH5⟩ : ∃ H, H4.set H3.length ⟨.tip false, .vals (Pk.l ⟨leap, p1, 4, S.st, p4, -20, 0, sh, S.rid, hd, p12, hd, xm, true, S.kid, tg⟩ .nils)⟩ = H := ⟨_, rfl⟩
        have b5 : H5[H3.length]? = some ⟨.tip false, .vals (Pk.l ⟨leap, p1, 4, S.st, p4, -20, 0, sh, S.rid, hd, p12, hd, xm, true, S.kid, tg⟩ .nils)⟩ := by rw [← hH5]; simp [l4]
        have l5 := (List.getElem?_eq_some_iff.1 b5).1
        have k5 : Keeps g H5 none := by rw [← hH5]; exact keeps_set (kT kgood k4) (by omega) rfl
        have hp5 := kN k5 _ _ hp
        have lp5 := (List.getElem?_eq_some_iff.1 hp5).1
        simp only [Pk.l] at eS hH5
        obtain ⟨f1, f2, f3, f4⟩ := fit_put (Q := ⟨leap, p1, 4, S.st, p4, -20, 0, sh, S.rid, hd, p12, hd, xm, true, S.kid, tg⟩) mH mS2 rfl
        obtain ⟨H6, hH6⟩ : ∃ H, H5.set p ⟨.tip false, .vals (S.b (n + 1))⟩ = H := ⟨_, rfl⟩
        have kc := k5
        have lpc : p < H5.length := Nat.lt_of_lt_of_le lp kc.2.1
        have k6 : Keeps g H6 (some p) := by rw [← hH6]; exact kSet kc rfl
        have hG6 := k6.2.2 hg
        have b6 : H6[H3.length]? = some ⟨.tip false, .vals (Pk.l ⟨leap, p1, 4, S.st, p4, -20, 0, sh, S.rid, hd, p12, hd, xm, true, S.kid, tg⟩ .nils)⟩ := by rw [← hH6, List.getElem?_set_ne (by omega)]; exact b5
        have l6 := (List.getElem?_eq_some_iff.1 b6).1
        have hp6 : H6[p]? = some ⟨.tip false, .vals (S.b (n + 1))⟩ := by rw [← hH6]; simp [lpc]
        have lp6 := (List.getElem?_eq_some_iff.1 hp6).1
        obtain ⟨v, js2, eU, bv, hGu⟩ := refput_u (P := ⟨leap, p1, 4, S.st, p4, -20, 0, sh, S.rid, hd, p12, hd, xm, true, S.kid, tg⟩) (x := .nils) (F := []) okS (by simp) (by simp) rfl hG6 (ExtAt.nil _)
        rw [f3] at eU
        rw [f4] at bv
        obtain ⟨H7, hH7⟩ : ∃ H, H6 ++ js2 = H := ⟨_, rfl⟩
        have k7 : Keeps H6 H7 none := by rw [← hH7]; exact kG hGu
        rw [hH7] at eU bv hGu
        have hp7 := kN k7 _ _ hp6
        have kF : Keeps g H7 (some p) := ⟨fun q x e h1 h2 => kN k7 _ _ (k6.1 q x e h1 h2), Nat.le_trans k6.2.1 k7.2.1, fun hg => k7.2.2 (k6.2.2 hg)⟩
        have nv : noAny (some v) = some v := na_slen bv.len
        have hvc : v.isCell = true := bv_cell bv
        have w5 : IntKind.i64.wrap (n + 1) = n + 1 := wr_i64 _ (by omega) (by omega)
        have hQ : ansQ S ⟨p0, p1, 3, p3, p4, p5, p6, p7, p8, p9, p10, p11, p12, true, p15, p16⟩ lie leap [] took gave = ⟨leap, p1, 4, S.st, p4, -20, 0, sh, S.rid, hd, p12, hd, xm, true, S.kid, tg⟩ := by
          unfold ansQ ansB
          rw [if_pos rfl, if_pos rfl, if_pos rfl, if_pos rfl, htl, hgl, hhd, hxm, hsh]
          exact hSg
        rw [hQ]
        simp only [Pk.l] at eU hH4 b4 b6 b5
        simp only [Srv.b] at hH6 hp5
        simp (maxDischargeDepth := 9) -implicitDefEqProofs only [push_cast, simprocAttr, M11, nadd1, nadd2, nadd3, nadd4, nadd5, nadd6, nadd7, nadd8, nadd9, nadd10, nadd11, nadd12, ABlk.new, nb, hH1, eP, nx, hxc, hH3, b3, l3, hs3, ls3, hp3, lp3, lo1, eO1, eO2, d1', d2', hln, d3', w1', w2', eT, eG, eH, hs4, ls4, hH4, b4, l4, hp4, b34, lp4, l34, lo3, eS, hH5, hp5, lp5, eR, ck, b5, l5, w5, hH6, b6, l6, lp, eU, nv, hvc]
        exact ⟨v, rfl, bv, kF, hp7, rfl⟩
    · cases s with
      | false =>
        have mH : mayH 3 p1 4 = true := by
          have := mP
          unfold mayP mayH at this
          simp only [Bool.and_eq_true, decide_eq_true_eq] at this
          unfold mayH
          simp only [Bool.and_eq_true, decide_eq_true_eq]
          omega
        have cv0 := codeV_in l
        obtain ⟨cv, hcv⟩ : ∃ z, codeV l = z := ⟨_, rfl⟩
        rw [hcv] at cv0
        have okB : Pk.Ok ⟨3, p1, 4, 0, p4, -20, 0, sh, cv, hd, p12, hd, xm, false, 0, 0⟩ := by
          have z1 : 0 ≤ p1 := okP.a1
          have z2 : p1 ≤ 255 := okP.b1
          have z3 : -128 ≤ p4 := okP.a4
          have z4 : p4 ≤ 127 := okP.b4
          have z5 : 0 ≤ p12 := okP.a12
          have z6 : p12 ≤ 18446744073709551615 := okP.b12
          have z7 := ok.s1
          have z8 := ok.s2
          have z9 := ok.r0
          have z10 := ok.r1
          constructor <;> (dsimp only; omega)
        obtain ⟨H4, hH4⟩ : ∃ H, H3 ++ [(⟨.tip false, .vals (Pk.l ⟨3, p1, 4, 0, p4, -20, 0, sh, cv, hd, p12, hd, xm, false, 0, 0⟩ .nils)⟩ : ABlk)] = H := ⟨_, rfl⟩
        have k4 : Keeps H3 H4 none := by rw [← hH4]; exact Keeps.app _ _ _ rfl
        have b4 : H4[H3.length]? = some ⟨.tip false, .vals (Pk.l ⟨3, p1, 4, 0, p4, -20, 0, sh, cv, hd, p12, hd, xm, false, 0, 0⟩ .nils)⟩ := by rw [← hH4, List.getElem?_append_right (Nat.le_refl _)]; simp
        have l4 := (List.getElem?_eq_some_iff.1 b4).1
        have hp4 := kN k4 _ _ hp3
        have b34 := kN k4 _ _ b3
        have hs4 := kN k4 _ _ hs3
        have ls4 := (List.getElem?_eq_some_iff.1 hs4).1
        have lp4 := (List.getElem?_eq_some_iff.1 hp4).1
        have l34 := (List.getElem?_eq_some_iff.1 b34).1
        have hG4 := k4.2.2 hG3
        obtain ⟨f1, f2, f3, f4⟩ := fit_put (Q := ⟨3, p1, 4, 0, p4, -20, 0, sh, cv, hd, p12, hd, xm, false, 0, 0⟩) mH rfl rfl
        obtain ⟨H6, hH6⟩ : ∃ H, H4.set p ⟨.tip false, .vals (S.b (n + 1))⟩ = H := ⟨_, rfl⟩
        have kc := kT kgood k4
        have lpc : p < H4.length := Nat.lt_of_lt_of_le lp kc.2.1
        have k6 : Keeps g H6 (some p) := by rw [← hH6]; exact kSet kc rfl
        have hG6 := k6.2.2 hg
        have b6 : H6[H3.length]? = some ⟨.tip false, .vals (Pk.l ⟨3, p1, 4, 0, p4, -20, 0, sh, cv, hd, p12, hd, xm, false, 0, 0⟩ .nils)⟩ := by rw [← hH6, List.getElem?_set_ne (by omega)]; exact b4
        have l6 := (List.getElem?_eq_some_iff.1 b6).1
        have hp6 : H6[p]? = some ⟨.tip false, .vals (S.b (n + 1))⟩ := by rw [← hH6]; simp [lpc]
        have lp6 := (List.getElem?_eq_some_iff.1 hp6).1
        obtain ⟨v, js2, eU, bv, hGu⟩ := refput_u (P := ⟨3, p1, 4, 0, p4, -20, 0, sh, cv, hd, p12, hd, xm, false, 0, 0⟩) (x := .nils) (F := []) okB (by simp) (by simp) rfl hG6 (ExtAt.nil _)
        rw [f3] at eU
        rw [f4] at bv
        obtain ⟨H7, hH7⟩ : ∃ H, H6 ++ js2 = H := ⟨_, rfl⟩
        have k7 : Keeps H6 H7 none := by rw [← hH7]; exact kG hGu
        rw [hH7] at eU bv hGu
        have hp7 := kN k7 _ _ hp6
        have kF : Keeps g H7 (some p) := ⟨fun q x e h1 h2 => kN k7 _ _ (k6.1 q x e h1 h2), Nat.le_trans k6.2.1 k7.2.1, fun hg => k7.2.2 (k6.2.2 hg)⟩
        have nv : noAny (some v) = some v := na_slen bv.len
        have hvc : v.isCell = true := bv_cell bv
        have w5 : IntKind.i64.wrap (n + 1) = n + 1 := wr_i64 _ (by omega) (by omega)
        have hQ : ansQ S ⟨p0, p1, 3, p3, p4, p5, p6, p7, p8, p9, p10, p11, p12, false, p15, p16⟩ lie leap l took gave = ⟨3, p1, 4, 0, p4, -20, 0, sh, cv, hd, p12, hd, xm, false, 0, 0⟩ := by
          unfold ansQ ansB
          rw [if_neg (by simp), if_neg cl, if_neg cl, if_neg cl, htl, hgl, hhd, hxm, hsh, hcv]
        rw [hQ]
        simp only [Pk.l] at eU hH4 b4 b6 
        simp only [Srv.b] at hH6 
        have hl0 : (0 : Int) < (l.length : Int) := by have := List.length_pos_iff.2 cl; omega
        obtain ⟨m, hml⟩ : ∃ m, l.length = m := ⟨_, rfl⟩
        rw [hml] at hln d3' hl0
        have m4 : m ≤ 4 := by omega
        simp (maxDischargeDepth := 9) -implicitDefEqProofs only [push_cast, simprocAttr, M11, nadd1, nadd2, nadd3, nadd4, nadd5, nadd6, nadd7, nadd8, nadd9, nadd10, nadd11, nadd12, ABlk.new, nb, hH1, eP, nx, hxc, hH3, b3, l3, hs3, ls3, hp3, lp3, lo1, eO1, eO2, d1', d2', hln, d3', w1', w2', eT, eG, eH, hl0, lo3]
        refine wp_kRes (wp_kSeq (wp_kBlock ?_))
        refine wp_loop (fun k x h' ws => ∃ i : Nat, k = 4 - i ∧ i ≤ 4 ∧ x = [(0, .ptr p 0), (9, .ptr g.length 0), (12, .ptr H2.length 0), (14, .ptr H3.length 0), (15, .int .i64 (i : Int))] ∧ h' = H3 ++ [(⟨.tip false, .vals [.int .u8 3, .int .u8 p1, .int .u8 4, .int .u8 0, .int .i8 p4, .int .i8 (-20), .int .u32 0, .int .u32 sh, .int .u32 (codeK l i), .int .u64 hd, .int .u64 p12, .int .u64 hd, .int .u64 xm, .nils, .bool false, .int .u32 0, .int .u64 0]⟩ : ABlk)] ∧ ws = []) 4 ?_ ?_
        · refine ⟨0, by omega, by omega, ?_, rfl, rfl⟩
          simp (maxDischargeDepth := 9) -implicitDefEqProofs only [push_cast, simprocAttr]; try rfl
        rintro k xx h' ws ⟨i, rfl, hi, rfl, hh, rfl⟩
        subst hh
        have v1 : IntKind.i64.wrap ((i : Int) + 1) = (i : Int) + 1 := wr_i64 _ (by omega) (by omega)
        by_cases hlt : i < 4
        · have hlt' : (i : Int) < 4 := by omega
          obtain ⟨ck0, ck1⟩ := codeK_in l (show i ≤ 3 by omega)
          have cbi := cb_in l i
          have x1 : IntKind.u32.wrap (codeK l i * 256) = codeK l i * 256 := wr_u32 _ (by omega) (by omega)
          have hnx : codeK l (i + 1) = codeK l i * 256 + cb l i := rfl
          by_cases hlm : i < m
          · have hlm' : (i : Int) < (m : Int) := by omega
            obtain ⟨by', hby⟩ : ∃ z, l[i]? = some z := ⟨_, List.getElem?_eq_getElem (by omega)⟩
            have hcb : cb l i = (by'.toNat : Int) := by unfold cb; rw [hby]
            have x2 : IntKind.u32.wrap (by'.toNat : Int) = cb l i := by rw [← hcb]; exact wr_u32 _ (by omega) (by omega)
            have x3 : IntKind.u32.wrap (codeK l i * 256 + cb l i) = codeK l (i + 1) := by rw [hnx]; exact wr_u32 _ (by omega) (by omega)
            have hsl : (sb l).data.toList[i]? = some by' := hby
            simp (maxDischargeDepth := 9) -implicitDefEqProofs only [push_cast, simprocAttr, nadd1, nadd2, nadd3, nadd4, nadd5, nadd6, nadd7, nadd8, nadd9, nadd10, nadd11, nadd12, hlt', v1, x1, hln, hlm', hs3, ls3, hsl, x2, x3, lo3]
            refine loop_next (4 - (i + 1)) (by omega) ⟨i + 1, rfl, by omega, ?_, rfl, rfl⟩
            simp (maxDischargeDepth := 9) -implicitDefEqProofs only [push_cast, simprocAttr]; try simp
          · have hlm' : ¬ (i : Int) < (m : Int) := by omega
            have hcb : cb l i = 0 := by unfold cb; rw [List.getElem?_eq_none (by omega)]
            have x3 : codeK l i * 256 = codeK l (i + 1) := by rw [hnx, hcb]; omega
            have x1' : IntKind.u32.wrap (codeK l i * 256) = codeK l (i + 1) := x1.trans x3
            simp (maxDischargeDepth := 9) -implicitDefEqProofs only [push_cast, simprocAttr, nadd1, nadd2, nadd3, nadd4, nadd5, nadd6, nadd7, nadd8, nadd9, nadd10, nadd11, nadd12, hlt', v1, x1', hln, hlm', hs3, ls3, lo3]
            refine loop_next (4 - (i + 1)) (by omega) ⟨i + 1, rfl, by omega, ?_, rfl, rfl⟩
            simp (maxDischargeDepth := 9) -implicitDefEqProofs only [push_cast, simprocAttr]; try simp
        have hnl : ¬ (i : Int) < 4 := by omega
        obtain rfl : i = 4 := by omega
        have hcv' : codeK l 4 = cv := (codeK_4 l).trans hcv
        rw [hcv']
        simp (maxDischargeDepth := 9) -implicitDefEqProofs only [push_cast, simprocAttr, nadd1, nadd2, nadd3, nadd4, nadd5, nadd6, nadd7, nadd8, nadd9, nadd10, nadd11, nadd12, hnl, nx, hxc, b3, l3, hp3, lp3, hs4, ls4, hH4, b4, l4, hp4, b34, lp4, l34, lo3, w5, hH6, b6, l6, lp, eU, nv, hvc]
        exact ⟨v, rfl, bv, kF, hp7, rfl⟩
      | true =>
        have mH : mayH 3 p1 4 = true := by
          have := mP
          unfold mayP mayH at this
          simp only [Bool.and_eq_true, decide_eq_true_eq] at this
          unfold mayH
          simp only [Bool.and_eq_true, decide_eq_true_eq]
          omega
        obtain rfl := nxs rfl
        have ck := kid0 rfl rfl
        have cv0 := codeV_in l
        obtain ⟨cv, hcv⟩ : ∃ z, codeV l = z := ⟨_, rfl⟩
        rw [hcv] at cv0
        have okB : Pk.Ok ⟨3, p1, 4, 0, p4, -20, 0, sh, cv, hd, p12, hd, xm, false, 0, 0⟩ := by
          have z1 : 0 ≤ p1 := okP.a1
          have z2 : p1 ≤ 255 := okP.b1
          have z3 : -128 ≤ p4 := okP.a4
          have z4 : p4 ≤ 127 := okP.b4
          have z5 : 0 ≤ p12 := okP.a12
          have z6 : p12 ≤ 18446744073709551615 := okP.b12
          have z7 := ok.s1
          have z8 := ok.s2
          have z9 := ok.r0
          have z10 := ok.r1
          constructor <;> (dsimp only; omega)
        obtain ⟨H4, hH4⟩ : ∃ H, H3 ++ [(⟨.tip false, .vals (Pk.l ⟨3, p1, 4, 0, p4, -20, 0, sh, cv, hd, p12, hd, xm, false, 0, 0⟩ .nils)⟩ : ABlk)] = H := ⟨_, rfl⟩
        have k4 : Keeps H3 H4 none := by rw [← hH4]; exact Keeps.app _ _ _ rfl
        have b4 : H4[H3.length]? = some ⟨.tip false, .vals (Pk.l ⟨3, p1, 4, 0, p4, -20, 0, sh, cv, hd, p12, hd, xm, false, 0, 0⟩ .nils)⟩ := by rw [← hH4, List.getElem?_append_right (Nat.le_refl _)]; simp
        have l4 := (List.getElem?_eq_some_iff.1 b4).1
        have hp4 := kN k4 _ _ hp3
        have b34 := kN k4 _ _ b3
        have hs4 := kN k4 _ _ hs3
        have ls4 := (List.getElem?_eq_some_iff.1 hs4).1
        have lp4 := (List.getElem?_eq_some_iff.1 hp4).1
        have l34 := (List.getElem?_eq_some_iff.1 b34).1
        have hG4 := k4.2.2 hG3
        have mS0 : mayS (sgP ⟨3, p1, 4, 0, p4, -20, 0, sh, cv, hd, p12, hd, xm, false, 0, 0⟩ S.kid 0) = true := by
          unfold mayS sgP
          simp [ck]
        obtain ⟨_, _, fe, _⟩ := fit_put (Q := sgP ⟨3, p1, 4, 0, p4, -20, 0, sh, cv, hd, p12, hd, xm, false, 0, 0⟩ S.kid 0) mH mS0 rfl
        have eS := refsign_u (P := ⟨3, p1, 4, 0, p4, -20, 0, sh, cv, hd, p12, hd, xm, false, 0, 0⟩) (x := .nils) (F := []) (id := S.kid) (A := S.ka) (B := S.kb) okB ok.k0 ok.k1 (by simp) (by simp) rfl hG4 (ExtAt.nil _) rfl
        obtain ⟨tg, htg⟩ : ∃ z, tagI S.ka S.kb (bodyP ⟨3, p1, 4, 0, p4, -20, 0, sh, cv, hd, p12, hd, xm, false, 0, 0⟩ []) = z := ⟨_, rfl⟩
        have hSg : signS ⟨3, p1, 4, 0, p4, -20, 0, sh, cv, hd, p12, hd, xm, false, 0, 0⟩ [] S.kid S.ka S.kb = ⟨3, p1, 4, 0, p4, -20, 0, sh, cv, hd, p12, hd, xm, true, S.kid, tg⟩ := by unfold signS; rw [if_pos fe, htg]; rfl
        have hSx : signX ⟨3, p1, 4, 0, p4, -20, 0, sh, cv, hd, p12, hd, xm, false, 0, 0⟩ [] S.kid .nils = .nils := by unfold signX; rw [if_pos fe]
        have okS := signS_ok (F := []) (A := S.ka) (B := S.kb) okB ok.k0 ok.k1
        rw [hSg] at okS
        rw [hSg, hSx, fe] at eS
        have mS2 : mayS ⟨3, p1, 4, 0, p4, -20, 0, sh, cv, hd, p12, hd, xm, true, S.kid, tg⟩ = true := by
          unfold mayS
          simp [ck]
        obtain ⟨H5, hH5⟩ : ∃ H, H4.set H3.length ⟨.tip false, .vals (Pk.l ⟨3, p1, 4, 0, p4, -20, 0, sh, cv, hd, p12, hd, xm, true, S.kid, tg⟩ .nils)⟩ = H := ⟨_, rfl⟩
        have b5 : H5[H3.length]? = some ⟨.tip false, .vals (Pk.l ⟨3, p1, 4, 0, p4, -20, 0, sh, cv, hd, p12, hd, xm, true, S.kid, tg⟩ .nils)⟩ := by rw [← hH5]; simp [l4]
        have l5 := (List.getElem?_eq_some_iff.1 b5).1
        have k5 : Keeps g H5 none := by rw [← hH5]; exact keeps_set (kT kgood k4) (by omega) rfl
        have hp5 := kN k5 _ _ hp
        have lp5 := (List.getElem?_eq_some_iff.1 hp5).1
        simp only [Pk.l] at eS hH5
        obtain ⟨f1, f2, f3, f4⟩ := fit_put (Q := ⟨3, p1, 4, 0, p4, -20, 0, sh, cv, hd, p12, hd, xm, true, S.kid, tg⟩) mH mS2 rfl
        obtain ⟨H6, hH6⟩ : ∃ H, H5.set p ⟨.tip false, .vals (S.b (n + 1))⟩ = H := ⟨_, rfl⟩
        have kc := k5
        have lpc : p < H5.length := Nat.lt_of_lt_of_le lp kc.2.1
        have k6 : Keeps g H6 (some p) := by rw [← hH6]; exact kSet kc rfl
        have hG6 := k6.2.2 hg
        have b6 : H6[H3.length]? = some ⟨.tip false, .vals (Pk.l ⟨3, p1, 4, 0, p4, -20, 0, sh, cv, hd, p12, hd, xm, true, S.kid, tg⟩ .nils)⟩ := by rw [← hH6, List.getElem?_set_ne (by omega)]; exact b5
        have l6 := (List.getElem?_eq_some_iff.1 b6).1
        have hp6 : H6[p]? = some ⟨.tip false, .vals (S.b (n + 1))⟩ := by rw [← hH6]; simp [lpc]
        have lp6 := (List.getElem?_eq_some_iff.1 hp6).1
        obtain ⟨v, js2, eU, bv, hGu⟩ := refput_u (P := ⟨3, p1, 4, 0, p4, -20, 0, sh, cv, hd, p12, hd, xm, true, S.kid, tg⟩) (x := .nils) (F := []) okS (by simp) (by simp) rfl hG6 (ExtAt.nil _)
        rw [f3] at eU
        rw [f4] at bv
        obtain ⟨H7, hH7⟩ : ∃ H, H6 ++ js2 = H := ⟨_, rfl⟩
        have k7 : Keeps H6 H7 none := by rw [← hH7]; exact kG hGu
        rw [hH7] at eU bv hGu
        have hp7 := kN k7 _ _ hp6
        have kF : Keeps g H7 (some p) := ⟨fun q x e h1 h2 => kN k7 _ _ (k6.1 q x e h1 h2), Nat.le_trans k6.2.1 k7.2.1, fun hg => k7.2.2 (k6.2.2 hg)⟩
        have nv : noAny (some v) = some v := na_slen bv.len
        have hvc : v.isCell = true := bv_cell bv
        have w5 : IntKind.i64.wrap (n + 1) = n + 1 := wr_i64 _ (by omega) (by omega)
        have hQ : ansQ S ⟨p0, p1, 3, p3, p4, p5, p6, p7, p8, p9, p10, p11, p12, true, p15, p16⟩ lie leap l took gave = ⟨3, p1, 4, 0, p4, -20, 0, sh, cv, hd, p12, hd, xm, true, S.kid, tg⟩ := by
          unfold ansQ ansB
          rw [if_pos rfl, if_neg cl, if_neg cl, if_neg cl, htl, hgl, hhd, hxm, hsh, hcv]
          exact hSg
        rw [hQ]
        simp only [Pk.l] at eU hH4 b4 b6 b5
        simp only [Srv.b] at hH6 hp5
        have hl0 : (0 : Int) < (l.length : Int) := by have := List.length_pos_iff.2 cl; omega
        obtain ⟨m, hml⟩ : ∃ m, l.length = m := ⟨_, rfl⟩
        rw [hml] at hln d3' hl0
        have m4 : m ≤ 4 := by omega
        simp (maxDischargeDepth := 9) -implicitDefEqProofs only [push_cast, simprocAttr, M11, nadd1, nadd2, nadd3, nadd4, nadd5, nadd6, nadd7, nadd8, nadd9, nadd10, nadd11, nadd12, ABlk.new, nb, hH1, eP, nx, hxc, hH3, b3, l3, hs3, ls3, hp3, lp3, lo1, eO1, eO2, d1', d2', hln, d3', w1', w2', eT, eG, eH, eR, ck, hl0, lo3]
        refine wp_kRes (wp_kSeq (wp_kBlock ?_))
        refine wp_loop (fun k x h' ws => ∃ i : Nat, k = 4 - i ∧ i ≤ 4 ∧ x = [(0, .ptr p 0), (9, .ptr g.length 0), (12, .ptr H2.length 0), (14, .ptr H3.length 0), (15, .int .i64 (i : Int))] ∧ h' = H3 ++ [(⟨.tip false, .vals [.int .u8 3, .int .u8 p1, .int .u8 4, .int .u8 0, .int .i8 p4, .int .i8 (-20), .int .u32 0, .int .u32 sh, .int .u32 (codeK l i), .int .u64 hd, .int .u64 p12, .int .u64 hd, .int .u64 xm, .nils, .bool false, .int .u32 0, .int .u64 0]⟩ : ABlk)] ∧ ws = []) 4 ?_ ?_
        · refine ⟨0, by omega, by omega, ?_, rfl, rfl⟩
          simp (maxDischargeDepth := 9) -implicitDefEqProofs only [push_cast, simprocAttr]; try rfl
        rintro k xx h' ws ⟨i, rfl, hi, rfl, hh, rfl⟩
        subst hh
        have v1 : IntKind.i64.wrap ((i : Int) + 1) = (i : Int) + 1 := wr_i64 _ (by omega) (by omega)
        by_cases hlt : i < 4
        · have hlt' : (i : Int) < 4 := by omega
          obtain ⟨ck0, ck1⟩ := codeK_in l (show i ≤ 3 by omega)
          have cbi := cb_in l i
          have x1 : IntKind.u32.wrap (codeK l i * 256) = codeK l i * 256 := wr_u32 _ (by omega) (by omega)
          have hnx : codeK l (i + 1) = codeK l i * 256 + cb l i := rfl
          by_cases hlm : i < m
          · have hlm' : (i : Int) < (m : Int) := by omega
            obtain ⟨by', hby⟩ : ∃ z, l[i]? = some z := ⟨_, List.getElem?_eq_getElem (by omega)⟩
            have hcb : cb l i = (by'.toNat : Int) := by unfold cb; rw [hby]
            have x2 : IntKind.u32.wrap (by'.toNat : Int) = cb l i := by rw [← hcb]; exact wr_u32 _ (by omega) (by omega)
            have x3 : IntKind.u32.wrap (codeK l i * 256 + cb l i) = codeK l (i + 1) := by rw [hnx]; exact wr_u32 _ (by omega) (by omega)
            have hsl : (sb l).data.toList[i]? = some by' := hby
            simp (maxDischargeDepth := 9) -implicitDefEqProofs only [push_cast, simprocAttr, nadd1, nadd2, nadd3, nadd4, nadd5, nadd6, nadd7, nadd8, nadd9, nadd10, nadd11, nadd12, hlt', v1, x1, hln, hlm', hs3, ls3, hsl, x2, x3, lo3]
            refine loop_next (4 - (i + 1)) (by omega) ⟨i + 1, rfl, by omega, ?_, rfl, rfl⟩
            simp (maxDischargeDepth := 9) -implicitDefEqProofs only [push_cast, simprocAttr]; try simp
          · have hlm' : ¬ (i : Int) < (m : Int) := by omega
            have hcb : cb l i = 0 := by unfold cb; rw [List.getElem?_eq_none (by omega)]
            have x3 : codeK l i * 256 = codeK l (i + 1) := by rw [hnx, hcb]; omega
            have x1' : IntKind.u32.wrap (codeK l i * 256) = codeK l (i + 1) := x1.trans x3
            simp (maxDischargeDepth := 9) -implicitDefEqProofs only [push_cast, simprocAttr, nadd1, nadd2, nadd3, nadd4, nadd5, nadd6, nadd7, nadd8, nadd9, nadd10, nadd11, nadd12, hlt', v1, x1', hln, hlm', hs3, ls3, lo3]
            refine loop_next (4 - (i + 1)) (by omega) ⟨i + 1, rfl, by omega, ?_, rfl, rfl⟩
            simp (maxDischargeDepth := 9) -implicitDefEqProofs only [push_cast, simprocAttr]; try simp
        have hnl : ¬ (i : Int) < 4 := by omega
        obtain rfl : i = 4 := by omega
        have hcv' : codeK l 4 = cv := (codeK_4 l).trans hcv
        rw [hcv']
        simp (maxDischargeDepth := 9) -implicitDefEqProofs only [push_cast, simprocAttr, nadd1, nadd2, nadd3, nadd4, nadd5, nadd6, nadd7, nadd8, nadd9, nadd10, nadd11, nadd12, hnl, nx, hxc, b3, l3, hp3, lp3, hs4, ls4, hH4, b4, l4, hp4, b34, lp4, l34, lo3, eS, hH5, hp5, lp5, eR, ck, b5, l5, w5, hH6, b6, l6, lp, eU, nv, hvc]
        exact ⟨v, rfl, bv, kF, hp7, rfl⟩

end Go.Proofs.YtdpbbagllhfjbaaDoorW.AI.F
