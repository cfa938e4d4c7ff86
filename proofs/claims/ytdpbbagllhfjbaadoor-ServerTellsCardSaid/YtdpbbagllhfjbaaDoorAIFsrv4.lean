import Derived.Test.YtdpbbagllhfjbaaDoorAIFsrv3
import Derived.Test.YtdpbbagllhfjbaaDoorAIFpktl0
namespace Go.Proofs.YtdpbbagllhfjbaaDoorW.AI.F
open Go Go.Proofs.YtdpbbagllhfjbaaDoorW.AI Go.Proofs.YtdpbbagllhfjbaaDoorW.AI.Oct
set_option maxRecDepth 100000
set_option linter.unusedSimpArgs false
set_option linter.unusedVariables false
set_option linter.unusedSectionVars false
-- ------------------------------------------------------------------ what is answered
/-- The packet before it is signed. -/
def ansB (S : Srv) (P : Pk) (lie leap : Int) (l : List UInt8) (took gave : Int) : Pk :=
  ⟨if l = [] then leap else 3, P.p1, 4, if l = [] then S.st else 0, P.p4, -20, 0, shV S.rho, if l = [] then S.rid else codeV l, stV (took + lie), P.p12, stV (took + lie), stV (gave + lie), false, 0, 0⟩
def ansQ (S : Srv) (P : Pk) (lie leap : Int) (l : List UInt8) (took gave : Int) : Pk := if P.s = true then signS (ansB S P lie leap l took gave) [] S.kid S.ka S.kb else ansB S P lie leap l took gave
inductive Ans where
  | err (e : Int)
  | ok (Q : Pk)
def ansR (S : Srv) (P : Pk) (F : List (Int × List Int)) (took gave lie leap : Int) (l : List UInt8) : Ans :=
  if ¬ P.p2 = 3 then .err 22 else if P.s = true ∧ rightP P F S.kid S.ka S.kb = false then .err 21 else if sayB lie leap l.length took gave = false then .err 1 else .ok (ansQ S P lie leap l took gave)
def ansP (S : Srv) (D : List Int) (took gave lie leap : Int) (l : List UInt8) : Ans := match parseP D with
  | .err e => .err e
  | .ok P F => ansR S P F took gave lie leap l
def AnsPost (g : AHeap) (S : Srv) (p : Nat) (n : Int) (R : Ans) (r : AV × AHeap × List Nat) : Prop := match R with
  | .err e => Keeps g r.2.1 none ∧ r.2.2 = [] ∧ r.1 = .tup [.nils, .int .i64 e]
  | .ok Q => ∃ v, r.1 = .tup [v, .int .i64 0] ∧ BV r.2.1 v (putP Q []) ∧ Keeps g r.2.1 (some p) ∧ r.2.1[p]? = some ⟨.tip false, .vals (S.b (n + 1))⟩ ∧ r.2.2 = [p]
theorem parseP_ne {D : List Int} {z : Int} (h : parseP D = .err z) : z ≠ 0 := by
  unfold parseP at h
  split at h
  · cases h; decide
  split at h
  · cases h; decide
  split at h
  · split at h
    · cases hp : parseX 9 [] (D.drop 48) with
      | err y => rw [hp] at h; cases h; exact parseX_ne _ _ _ _ hp
      | ok F T =>
        rw [hp] at h
        simp only [parseQ] at h
        split at h
        · cases h
        · split at h
          · cases h; decide
          · cases h
    · cases h; decide
  · cases h; decide
theorem kN {g h : AHeap} (k : Keeps g h none) : ∀ (q : Nat) (z : ABlk), g[q]? = some z → h[q]? = some z := fun q z e => k.1 q z e (by simp) (by simp)
theorem kT {g h h' : AHeap} (k : Keeps g h none) (k2 : Keeps h h' none) : Keeps g h' none := ⟨fun q z e _ _ => kN k2 q z (kN k q z e), Nat.le_trans k.2.1 k2.2.1, fun hg => k2.2.2 (k.2.2 hg)⟩
theorem kG {h : AHeap} {js : AHeap} (hg : Good (h ++ js)) : Keeps h (h ++ js) none := ⟨fun q x e _ _ => by rw [List.getElem?_append_left (List.getElem?_eq_some_iff.1 e).1]; exact e, by simp, fun _ => hg⟩
theorem sv_app {h : AHeap} {x : AV} {D : List Int} (s : SV h x D) (js : AHeap) : SV (h ++ js) x D := s.imp id fun s => s.app js
theorem fit_put {Q : Pk} (h0 : mayH Q.p0 Q.p1 Q.p2 = true) (hS : mayS Q = true) (hT : mayT Q = true) : mayP Q [] = true ∧ (putP Q []).length ≤ 512 ∧ putE Q [] = 0 ∧ putD Q [] = putP Q [] := by
  have hm : mayP Q [] = true := by
    unfold mayP
    rw [h0, hS, hT]
    rfl
  have hl : (putP Q []).length ≤ 512 := by
    unfold putP bodyP
    rw [List.length_append, List.length_append, headP_len]
    have : (putX []).length = 0 := rfl
    split
    · rw [signB_len]; omega
    · simp; omega
  exact ⟨hm, hl, putE_0 hm hl, by unfold putD; rw [if_pos ⟨hm, hl⟩]⟩
theorem bv_cell {h : AHeap} {v : AV} {D : List Int} (b : BV h v D) : v.isCell = true := by
  obtain ⟨_, ⟨rfl, _⟩ | ⟨b, o, c, st, l, mn, _, _, _, _, ⟨rfl, _⟩ | rfl⟩⟩ := b <;> rfl
theorem kSet {g H : AHeap} {p : Nat} {z : ABlk} (k : Keeps g H none) (hz : notOld z = true) : Keeps g (H.set p z) (some p) :=
  ⟨fun q x e _ h2 => by rw [List.getElem?_set_ne (fun e => h2 (by rw [e]))]; exact kN k q x e, by rw [List.length_set]; exact k.2.1, fun hg => good_set (k.2.2 hg) hz⟩
theorem at0_keep {g H : AHeap} (a : At0 g) (k : Keeps g H none) : At0 H := ⟨kN k _ _ a.1, by have := k.2.1; have := a.2; omega⟩
theorem str_e : ((sb []).toList == (⟨#[]⟩ : ByteArray).toList) = true := by show ((sb []).toList == (sb []).toList) = true; rw [sb_toList]; rfl
theorem str_n {l : List UInt8} (h : ¬ l = []) : ((sb l).toList == (⟨#[]⟩ : ByteArray).toList) = false := by
  have e : (⟨#[]⟩ : ByteArray).toList = [] := by
    have := sb_toList []
    exact this
  rw [sb_toList, e]
  cases l with
  | nil => exact absurd rfl h
  | cons a l => rfl
set_option maxHeartbeats 16000000 in
theorem ans_key {g : AHeap} {S : Srv} (ok : S.Ok) {p : Nat} {n : Int} {b : AV} {D : List Int} {took gave lie leap : Int} {l : List UInt8} (hg : Good g) (ha : At0 g) (hp : g[p]? = some ⟨.tip false, .vals (S.b n)⟩) (n0 : 0 ≤ n) (n1 : n ≤ 1000000) (hb : SV g b D) (hD : D.length < 1000000000)
    (l0 : -9223372036854775808 ≤ lie) (l1 : lie ≤ 9223372036854775807) (t0 : -9223372036854775808 ≤ took) (t1 : took ≤ 9223372036854775807) (g0 : -9223372036854775808 ≤ gave) (g1 : gave ≤ 9223372036854775807) (q0 : 0 ≤ leap) (q1 : leap ≤ 255) :
    Wp (xbody (W CP) M10 [.ptr p 0, b, .int .i64 took, .int .i64 gave, .agg [.int .i64 lie, .int .u8 leap, .str (sb l)]] g) (AnsPost g S p n (ansP S D took gave lie leap l)) := by
  have nb : noAny (some b) = some b := na_slen hb.bv.1.len
  have lp := (List.getElem?_eq_some_iff.1 hp).1
  obtain ⟨H1, hH1⟩ : ∃ H, g ++ [(⟨.tip false, .vals [.int .i64 lie, .int .u8 leap, .str (sb l)]⟩ : ABlk)] = H := ⟨_, rfl⟩
  have hG1 : Good H1 := by rw [← hH1]; exact good_app hg rfl
  have k1 : Keeps g H1 none := by rw [← hH1]; exact Keeps.app g [⟨.tip false, .vals [.int .i64 lie, .int .u8 leap, .str (sb l)]⟩] none rfl
  have hp1 := kN k1 _ _ hp
  have lp1 := (List.getElem?_eq_some_iff.1 hp1).1
  have eN := snone_c hG1 hp1 ok.s1
  have ha1 : At0 H1 := by rw [← hH1]; exact ha.app _
  have hb1 : SV H1 b D := by rw [← hH1]; exact sv_app hb _
  have par := pparse_c hG1 ha1 hb1 hD
  unfold ansP
  cases hR : parseP D with
  | err e =>
    rw [hR] at par
    have eP : W CP 15 [b] H1 = some (.tup [.agg (pk0.l .nils), .int .i64 e], H1, []) := par
    have e0 : ¬ e = 0 := parseP_ne hR
    simp only [pk0, Pk.l] at eP
    have lo1 : ¬ H1.length < g.length := by have := k1.2.1; omega
    simp (maxDischargeDepth := 9) -implicitDefEqProofs only [push_cast, simprocAttr, M10, nadd1, nadd2, nadd3, nadd4, nadd5, nadd6, nadd7, nadd8, nadd9, nadd10, nadd11, nadd12, ABlk.new, nb, hH1, eN, eP, e0, lo1]
    exact ⟨kT k1 (Keeps.app _ _ _ rfl), rfl, rfl⟩
  | ok P F =>
    show Wp _ (AnsPost g S p n (ansR S P F took gave lie leap l))
    rw [hR] at par
    obtain ⟨xv, lx, js, eP, xo, hG2⟩ := par
    obtain ⟨H2, hH2⟩ : ∃ H, H1 ++ js = H := ⟨_, rfl⟩
    have k2 : Keeps H1 H2 none := by rw [← hH2]; exact kG hG2
    rw [hH2] at eP xo hG2
    obtain ⟨okP, hF8, hFm⟩ := parseP_fine hb.bv.1.1 hR
    obtain ⟨mP, _, _⟩ := put_parseP hb.bv.1.1 hR
    have hFl : ∀ z ∈ F, z.2.length < 1000000000 := fun z hz => by
      have := hFm z hz
      unfold mayN at this
      simp only [Bool.and_eq_true, decide_eq_true_eq] at this
      omega
    obtain ⟨p0, p1, p2, p3, p4, p5, p6, p7, p8, p9, p10, p11, p12, s, p15, p16⟩ := P
    have kall := kT k1 k2
    have lo1 : ¬ H2.length < g.length := by have := kall.2.1; omega
    obtain ⟨H3, hH3⟩ : ∃ H, H2 ++ [(⟨.tip false, .vals (Pk.l ⟨p0, p1, p2, p3, p4, p5, p6, p7, p8, p9, p10, p11, p12, s, p15, p16⟩ xv)⟩ : ABlk)] = H := ⟨_, rfl⟩
    have k3 : Keeps H2 H3 none := by rw [← hH3]; exact Keeps.app _ _ _ rfl
    have hG3 := k3.2.2 hG2
    have b3 : H3[H2.length]? = some ⟨.tip false, .vals (Pk.l ⟨p0, p1, p2, p3, p4, p5, p6, p7, p8, p9, p10, p11, p12, s, p15, p16⟩ xv)⟩ := by rw [← hH3, List.getElem?_append_right (Nat.le_refl _)]; simp
    have l3 := (List.getElem?_eq_some_iff.1 b3).1
    have k13 := kT k2 k3
    have hp3 := kN k13 _ _ hp1
    have lp3 := (List.getElem?_eq_some_iff.1 hp3).1
    have hs1 : H1[g.length]? = some ⟨.tip false, .vals [.int .i64 lie, .int .u8 leap, .str (sb l)]⟩ := by rw [← hH1, List.getElem?_append_right (Nat.le_refl _)]; simp
    have hs3 := kN k13 _ _ hs1
    have ls3 := (List.getElem?_eq_some_iff.1 hs3).1
    have ha3 : At0 H3 := by
      have : ∃ js, H3 = H1 ++ js := k13.behind
      obtain ⟨js, hj⟩ := this
      rw [hj]; exact ha1.app js
    have xo3 : ExtAt H3 xv F := by rw [← hH3]; exact (xo.app _).ext
    have hxc : xv.isCell = true := by rcases xo.gx.2 with ⟨e0, _⟩ | ⟨pp, mn, oo, e0, _⟩ <;> subst e0 <;> rfl
    have nx : noAny (some xv) = some xv := na_slen xo3.len
    have eR := pright_c (id := S.kid) (A := S.ka) (B := S.kb) okP (by omega) hFl hxc hG3 ha3 xo3
    obtain ⟨rb, hrb⟩ : ∃ r, rightP ⟨p0, p1, p2, p3, p4, p5, p6, p7, p8, p9, p10, p11, p12, s, p15, p16⟩ F S.kid S.ka S.kb = r := ⟨_, rfl⟩
    rw [hrb] at eR
    have eSay := say_c (lie := lie) (leap := leap) (took := took) (gave := gave) (s := sb l) l0 l1 t0 t1 g0 g1 H3
    rw [sb_size] at eSay
    have kgood : Keeps g H3 none := kT kall k3
    simp only [Pk.l, Srv.b] at eP hH3 b3 hp3 eR
    by_cases c1 : p2 = 3
    case neg =>
      have eA : ansR S ⟨p0, p1, p2, p3, p4, p5, p6, p7, p8, p9, p10, p11, p12, s, p15, p16⟩ F took gave lie leap l = .err 22 := by unfold ansR; exact if_pos c1
      rw [eA]
      simp (maxDischargeDepth := 9) -implicitDefEqProofs only [push_cast, simprocAttr, M10, nadd1, nadd2, nadd3, nadd4, nadd5, nadd6, nadd7, nadd8, nadd9, nadd10, nadd11, nadd12, ABlk.new, nb, hH1, eN, eP, nx, hxc, hH3, b3, l3, hs3, ls3, hp3, lp3, lo1, c1]
      exact ⟨kgood, rfl, rfl⟩
    subst c1
    by_cases c2 : s = true ∧ rb = false
    · obtain ⟨rfl, rfl⟩ := c2
      have eA : ansR S ⟨p0, p1, 3, p3, p4, p5, p6, p7, p8, p9, p10, p11, p12, true, p15, p16⟩ F took gave lie leap l = .err 21 := by unfold ansR; rw [if_neg (by simp), hrb, if_pos ⟨rfl, rfl⟩]
      rw [eA]
      simp (maxDischargeDepth := 9) -implicitDefEqProofs only [push_cast, simprocAttr, M10, nadd1, nadd2, nadd3, nadd4, nadd5, nadd6, nadd7, nadd8, nadd9, nadd10, nadd11, nadd12, ABlk.new, nb, hH1, eN, eP, nx, hxc, hH3, b3, l3, hs3, ls3, hp3, lp3, lo1, eR]
      exact ⟨kgood, rfl, rfl⟩
    obtain ⟨sb', hsb⟩ : ∃ z, sayB lie leap l.length took gave = z := ⟨_, rfl⟩
    rw [hsb] at eSay
    cases sb' with
    | false =>
      have eA : ansR S ⟨p0, p1, 3, p3, p4, p5, p6, p7, p8, p9, p10, p11, p12, s, p15, p16⟩ F took gave lie leap l = .err 1 := by unfold ansR; rw [if_neg (by simp), hrb, if_neg c2, if_pos hsb]
      rw [eA]
      cases s with
      | false =>
        simp (maxDischargeDepth := 9) -implicitDefEqProofs only [push_cast, simprocAttr, M10, nadd1, nadd2, nadd3, nadd4, nadd5, nadd6, nadd7, nadd8, nadd9, nadd10, nadd11, nadd12, ABlk.new, nb, hH1, eN, eP, nx, hxc, hH3, b3, l3, hs3, ls3, hp3, lp3, lo1, eSay]
        exact ⟨kgood, rfl, rfl⟩
      | true =>
        obtain rfl : rb = true := by cases rb with
          | true => rfl
          | false => exact absurd ⟨rfl, rfl⟩ c2
        simp (maxDischargeDepth := 9) -implicitDefEqProofs only [push_cast, simprocAttr, M10, nadd1, nadd2, nadd3, nadd4, nadd5, nadd6, nadd7, nadd8, nadd9, nadd10, nadd11, nadd12, ABlk.new, nb, hH1, eN, eP, nx, hxc, hH3, b3, l3, hs3, ls3, hp3, lp3, lo1, eR, eSay]
        exact ⟨kgood, rfl, rfl⟩
    | true =>
      have eA : ansR S ⟨p0, p1, 3, p3, p4, p5, p6, p7, p8, p9, p10, p11, p12, s, p15, p16⟩ F took gave lie leap l = .ok (ansQ S ⟨p0, p1, 3, p3, p4, p5, p6, p7, p8, p9, p10, p11, p12, s, p15, p16⟩ lie leap l took gave) := by unfold ansR; rw [if_neg (by simp), hrb, if_neg c2, if_neg (by rw [hsb]; decide)]
      rw [eA]
      have bnd := hsb
      simp only [sayB, decide_eq_true_eq] at bnd
      obtain ⟨r1, r2, r3, r4, r5, r6, r7⟩ := bnd
      have w1 : IntKind.i64.wrap (took + lie) = took + lie := wr_i64 _ (by omega) (by omega)
      have w2 : IntKind.i64.wrap (gave + lie) = gave + lie := wr_i64 _ (by omega) (by omega)
      obtain ⟨tl, htl⟩ : ∃ z, took + lie = z := ⟨_, rfl⟩
      obtain ⟨gl', hgl⟩ : ∃ z, gave + lie = z := ⟨_, rfl⟩
      have w1' : IntKind.i64.wrap (took + lie) = tl := w1.trans htl
      have w2' : IntKind.i64.wrap (gave + lie) = gl' := w2.trans hgl
      have eT := fun g => stamp_c (ns := tl) (by omega) (by omega) g
      have eG := fun g => stamp_c (ns := gl') (by omega) (by omega) g
      have eH := fun g => short_c (ns := S.rho) ok.o0 ok.o1 g
      obtain ⟨hd, hhd⟩ : ∃ z, stV tl = z := ⟨_, rfl⟩
      obtain ⟨xm, hxm⟩ : ∃ z, stV gl' = z := ⟨_, rfl⟩
      obtain ⟨sh, hsh⟩ : ∃ z, shV S.rho = z := ⟨_, rfl⟩
      have hd0 := stV_in (ns := tl) (by omega)
      have xm0 := stV_in (ns := gl') (by omega)
      have sh0 := shV_in ok.o1
      rw [hhd] at eT hd0
      rw [hxm] at eG xm0
      rw [hsh] at eH sh0
      have np3 : ¬ H3.length ≤ p := by omega
      have ns3 : ¬ H3.length ≤ g.length := by omega
      have nq3 : ¬ H3.length ≤ H2.length := by omega
      by_cases cl : l = []
      · subst cl
        cases s with
        | false =>
          have mH : mayH leap p1 4 = true := by
            have := mP
            unfold mayP mayH at this
            simp only [Bool.and_eq_true, decide_eq_true_eq] at this
            unfold mayH
            simp only [Bool.and_eq_true, decide_eq_true_eq]
            omega
          have estr := str_e
          have okB : Pk.Ok ⟨leap, p1, 4, S.st, p4, -20, 0, sh, S.rid, hd, p12, hd, xm, false, 0, 0⟩ := by
            have z1 : 0 ≤ p1 := okP.a1
            have z2 : p1 ≤ 255 := okP.b1
            have z3 : -128 ≤ p4 := okP.a4
            have z4 : p4 ≤ 127 := okP.b4
            have z5 : 0 ≤ p12 := okP.a12
            have z6 : p12 ≤ 18446744073709551615 := okP.b12
            have z7 := ok.s1
            have z8 := ok.s2
            have z9 := ok.r0
            have z10 := ok.r1
            constructor <;> (dsimp only; omega)
          obtain ⟨H4, hH4⟩ : ∃ H, H3 ++ [(⟨.tip false, .vals (Pk.l ⟨leap, p1, 4, S.st, p4, -20, 0, sh, S.rid, hd, p12, hd, xm, false, 0, 0⟩ .nils)⟩ : ABlk)] = H := ⟨_, rfl⟩
          have k4 : Keeps H3 H4 none := by rw [← hH4]; exact Keeps.app _ _ _ rfl
          have b4 : H4[H3.length]? = some ⟨.tip false, .vals (Pk.l ⟨leap, p1, 4, S.st, p4, -20, 0, sh, S.rid, hd, p12, hd, xm, false, 0, 0⟩ .nils)⟩ := by rw [← hH4, List.getElem?_append_right (Nat.le_refl _)]; simp
          have l4 := (List.getElem?_eq_some_iff.1 b4).1
          have hp4 := kN k4 _ _ hp3
          have b34 := kN k4 _ _ b3
          have hs4 := kN k4 _ _ hs3
          have ls4 := (List.getElem?_eq_some_iff.1 hs4).1
          have lp4 := (List.getElem?_eq_some_iff.1 hp4).1
          have l34 := (List.getElem?_eq_some_iff.1 b34).1
          have lo3 : ¬ H3.length < g.length := by omega
          have hG4 := k4.2.2 hG3
          have ha4 : At0 H4 := by rw [← hH4]; exact ha3.app _
          obtain ⟨f1, f2, f3, f4⟩ := fit_put (Q := ⟨leap, p1, 4, S.st, p4, -20, 0, sh, S.rid, hd, p12, hd, xm, false, 0, 0⟩) mH rfl rfl
          obtain ⟨v, js2, eU, bv, hGu⟩ := put_u (P := ⟨leap, p1, 4, S.st, p4, -20, 0, sh, S.rid, hd, p12, hd, xm, false, 0, 0⟩) (x := .nils) (F := []) okB (by simp) (by simp) rfl hG4 ha4 (ExtAt.nil _)
          rw [f3] at eU
          rw [f4] at bv
          obtain ⟨H7, hH7⟩ : ∃ H, H4 ++ js2 = H := ⟨_, rfl⟩
          have k7 : Keeps H4 H7 none := by rw [← hH7]; exact kG hGu
          rw [hH7] at eU bv hGu
          have kf := kT (kT kgood k4) k7
          have hp7 := kN kf _ _ hp
          have lp7 := (List.getElem?_eq_some_iff.1 hp7).1
          have nv : noAny (some v) = some v := na_slen bv.len
          have hvc : v.isCell = true := bv_cell bv
          have w5 : IntKind.i64.wrap (n + 1) = n + 1 := wr_i64 _ (by omega) (by omega)
          have hQ : ansQ S ⟨p0, p1, 3, p3, p4, p5, p6, p7, p8, p9, p10, p11, p12, false, p15, p16⟩ lie leap [] took gave = ⟨leap, p1, 4, S.st, p4, -20, 0, sh, S.rid, hd, p12, hd, xm, false, 0, 0⟩ := by
            unfold ansQ ansB
            rw [if_neg (by simp), if_pos rfl, if_pos rfl, if_pos rfl, htl, hgl, hhd, hxm, hsh]
          rw [hQ]
          simp only [Pk.l] at eU hH4 b4
          obtain ⟨H8, hH8⟩ : ∃ H, H7.set p ⟨.tip false, .vals (S.b (n + 1))⟩ = H := ⟨_, rfl⟩
          have kF : Keeps g H8 (some p) := by rw [← hH8]; exact kSet kf rfl
          have b8 : H8[p]? = some ⟨.tip false, .vals (S.b (n + 1))⟩ := by rw [← hH8]; simp [lp7]
          have bv8 : BV H8 v (putP ⟨leap, p1, 4, S.st, p4, -20, 0, sh, S.rid, hd, p12, hd, xm, false, 0, 0⟩ []) := by rw [← hH8]; exact bv.set_vals hp7
          simp only [Srv.b] at hH8 hp7 
          simp (maxDischargeDepth := 9) -implicitDefEqProofs only [push_cast, simprocAttr, M10, nadd1, nadd2, nadd3, nadd4, nadd5, nadd6, nadd7, nadd8, nadd9, nadd10, nadd11, nadd12, ABlk.new, nb, hH1, eN, eP, nx, hxc, hH3, b3, l3, hs3, ls3, hp3, lp3, lo1, eSay, w1', w2', eT, eG, eH, np3, ns3, nq3, decide_false, Bool.not_false, Bool.and_true, estr, hs4, ls4, hH4, b4, l4, hp4, b34, lp4, l34, lo3, eU, hp7, lp7, lp, nv, hvc, w5, hH8]
          exact ⟨v, rfl, bv8, kF, b8, rfl⟩
        | true =>
          obtain rfl : rb = true := by cases rb with
            | true => rfl
            | false => exact absurd ⟨rfl, rfl⟩ c2
          have mH : mayH leap p1 4 = true := by
            have := mP
            unfold mayP mayH at this
            simp only [Bool.and_eq_true, decide_eq_true_eq] at this
            unfold mayH
            simp only [Bool.and_eq_true, decide_eq_true_eq]
            omega
          have estr := str_e
          have okB : Pk.Ok ⟨leap, p1, 4, S.st, p4, -20, 0, sh, S.rid, hd, p12, hd, xm, false, 0, 0⟩ := by
            have z1 : 0 ≤ p1 := okP.a1
            have z2 : p1 ≤ 255 := okP.b1
            have z3 : -128 ≤ p4 := okP.a4
            have z4 : p4 ≤ 127 := okP.b4
            have z5 : 0 ≤ p12 := okP.a12
            have z6 : p12 ≤ 18446744073709551615 := okP.b12
            have z7 := ok.s1
            have z8 := ok.s2
            have z9 := ok.r0
            have z10 := ok.r1
            constructor <;> (dsimp only; omega)
          obtain ⟨H4, hH4⟩ : ∃ H, H3 ++ [(⟨.tip false, .vals (Pk.l ⟨leap, p1, 4, S.st, p4, -20, 0, sh, S.rid, hd, p12, hd, xm, false, 0, 0⟩ .nils)⟩ : ABlk)] = H := ⟨_, rfl⟩
          have k4 : Keeps H3 H4 none := by rw [← hH4]; exact Keeps.app _ _ _ rfl
          have b4 : H4[H3.length]? = some ⟨.tip false, .vals (Pk.l ⟨leap, p1, 4, S.st, p4, -20, 0, sh, S.rid, hd, p12, hd, xm, false, 0, 0⟩ .nils)⟩ := by rw [← hH4, List.getElem?_append_right (Nat.le_refl _)]; simp
          have l4 := (List.getElem?_eq_some_iff.1 b4).1
          have hp4 := kN k4 _ _ hp3
          have b34 := kN k4 _ _ b3
          have hs4 := kN k4 _ _ hs3
          have ls4 := (List.getElem?_eq_some_iff.1 hs4).1
          have lp4 := (List.getElem?_eq_some_iff.1 hp4).1
          have l34 := (List.getElem?_eq_some_iff.1 b34).1
          have lo3 : ¬ H3.length < g.length := by omega
          have hG4 := k4.2.2 hG3
          have ha4 : At0 H4 := by rw [← hH4]; exact ha3.app _
          have kid0 : ¬ S.kid = 0 ∧ p15 = S.kid := by
            have h1 := hrb
            unfold rightP at h1
            simp only [Bool.and_eq_true, decide_eq_true_eq] at h1
            have h2 := mP
            unfold mayP mayS at h2
            simp only [Bool.and_eq_true, beq_iff_eq] at h2
            obtain ⟨_, _, _, h3, _⟩ := h1
            obtain ⟨_, _, h4, _⟩ := h2
            have h5 : ¬ p15 = 0 := by simpa using h4
            exact ⟨by rw [← h3]; exact h5, h3⟩
          have mS0 : mayS (sgP ⟨leap, p1, 4, S.st, p4, -20, 0, sh, S.rid, hd, p12, hd, xm, false, 0, 0⟩ S.kid 0) = true := by
            unfold mayS sgP
            simp [kid0.1]
          obtain ⟨_, _, fe, _⟩ := fit_put (Q := sgP ⟨leap, p1, 4, S.st, p4, -20, 0, sh, S.rid, hd, p12, hd, xm, false, 0, 0⟩ S.kid 0) mH mS0 rfl
          have eS := sign_u (P := ⟨leap, p1, 4, S.st, p4, -20, 0, sh, S.rid, hd, p12, hd, xm, false, 0, 0⟩) (x := .nils) (F := []) (id := S.kid) (A := S.ka) (B := S.kb) okB ok.k0 ok.k1 (by simp) (by simp) rfl hG4 ha4 (ExtAt.nil _) rfl
          obtain ⟨tg, htg⟩ : ∃ z, tagI S.ka S.kb (bodyP ⟨leap, p1, 4, S.st, p4, -20, 0, sh, S.rid, hd, p12, hd, xm, false, 0, 0⟩ []) = z := ⟨_, rfl⟩
          have hSg : signS ⟨leap, p1, 4, S.st, p4, -20, 0, sh, S.rid, hd, p12, hd, xm, false, 0, 0⟩ [] S.kid S.ka S.kb = ⟨leap, p1, 4, S.st, p4, -20, 0, sh, S.rid, hd, p12, hd, xm, true, S.kid, tg⟩ := by unfold signS; rw [if_pos fe, htg]; rfl
          have hSx : signX ⟨leap, p1, 4, S.st, p4, -20, 0, sh, S.rid, hd, p12, hd, xm, false, 0, 0⟩ [] S.kid .nils = .nils := by unfold signX; rw [if_pos fe]
          have okS := signS_ok (F := []) (A := S.ka) (B := S.kb) okB ok.k0 ok.k1
          rw [hSg] at okS
          rw [hSg, hSx, fe] at eS
          have mS2 : mayS ⟨leap, p1, 4, S.st, p4, -20, 0, sh, S.rid, hd, p12, hd, xm, true, S.kid, tg⟩ = true := by
            unfold mayS
            simp [kid0.1]
          obtain ⟨H5, hH5⟩ : ∃ H, H4.set H3.length ⟨.tip false, .vals (Pk.l ⟨leap, p1, 4, S.st, p4, -20, 0, sh, S.rid, hd, p12, hd, xm, true, S.kid, tg⟩ .nils)⟩ = H := ⟨_, rfl⟩
          have b5 : H5[H3.length]? = some ⟨.tip false, .vals (Pk.l ⟨leap, p1, 4, S.st, p4, -20, 0, sh, S.rid, hd, p12, hd, xm, true, S.kid, tg⟩ .nils)⟩ := by rw [← hH5]; simp [l4]
          have l5 := (List.getElem?_eq_some_iff.1 b5).1
          have k5 : Keeps g H5 none := by rw [← hH5]; exact keeps_set (kT kgood k4) (by omega) rfl
          have hG5 := k5.2.2 hg
          have hp5 := kN k5 _ _ hp
          have lp5 := (List.getElem?_eq_some_iff.1 hp5).1
          have ha5 : At0 H5 := at0_keep ha k5
          simp only [Pk.l] at eS hH5 b5
          obtain ⟨f1, f2, f3, f4⟩ := fit_put (Q := ⟨leap, p1, 4, S.st, p4, -20, 0, sh, S.rid, hd, p12, hd, xm, true, S.kid, tg⟩) mH mS2 rfl
          obtain ⟨v, js2, eU, bv, hGu⟩ := put_u (P := ⟨leap, p1, 4, S.st, p4, -20, 0, sh, S.rid, hd, p12, hd, xm, true, S.kid, tg⟩) (x := .nils) (F := []) okS (by simp) (by simp) rfl hG5 ha5 (ExtAt.nil _)
          rw [f3] at eU
          rw [f4] at bv
          obtain ⟨H7, hH7⟩ : ∃ H, H5 ++ js2 = H := ⟨_, rfl⟩
          have k7 : Keeps H5 H7 none := by rw [← hH7]; exact kG hGu
          rw [hH7] at eU bv hGu
          have kf := kT (k5) k7
          have hp7 := kN kf _ _ hp
          have lp7 := (List.getElem?_eq_some_iff.1 hp7).1
          have nv : noAny (some v) = some v := na_slen bv.len
          have hvc : v.isCell = true := bv_cell bv
          have w5 : IntKind.i64.wrap (n + 1) = n + 1 := wr_i64 _ (by omega) (by omega)
          have hQ : ansQ S ⟨p0, p1, 3, p3, p4, p5, p6, p7, p8, p9, p10, p11, p12, true, p15, p16⟩ lie leap [] took gave = ⟨leap, p1, 4, S.st, p4, -20, 0, sh, S.rid, hd, p12, hd, xm, true, S.kid, tg⟩ := by
            unfold ansQ ansB
            rw [if_pos rfl, if_pos rfl, if_pos rfl, if_pos rfl, htl, hgl, hhd, hxm, hsh]
            exact hSg
          rw [hQ]
          simp only [Pk.l] at eU hH4 b4
          obtain ⟨H8, hH8⟩ : ∃ H, H7.set p ⟨.tip false, .vals (S.b (n + 1))⟩ = H := ⟨_, rfl⟩
          have kF : Keeps g H8 (some p) := by rw [← hH8]; exact kSet kf rfl
          have b8 : H8[p]? = some ⟨.tip false, .vals (S.b (n + 1))⟩ := by rw [← hH8]; simp [lp7]
          have bv8 : BV H8 v (putP ⟨leap, p1, 4, S.st, p4, -20, 0, sh, S.rid, hd, p12, hd, xm, true, S.kid, tg⟩ []) := by rw [← hH8]; exact bv.set_vals hp7
          simp only [Srv.b] at hH8 hp7 hp5
          simp (maxDischargeDepth := 9) -implicitDefEqProofs only [push_cast, simprocAttr, M10, nadd1, nadd2, nadd3, nadd4, nadd5, nadd6, nadd7, nadd8, nadd9, nadd10, nadd11, nadd12, ABlk.new, nb, hH1, eN, eP, nx, hxc, hH3, b3, l3, hs3, ls3, hp3, lp3, lo1, eSay, w1', w2', eT, eG, eH, np3, ns3, nq3, decide_false, Bool.not_false, Bool.and_true, estr, hs4, ls4, hH4, b4, l4, hp4, b34, lp4, l34, lo3, eS, hH5, b5, l5, hp5, lp5, eR, eU, hp7, lp7, lp, nv, hvc, w5, hH8]
          exact ⟨v, rfl, bv8, kF, b8, rfl⟩
      · cases s with
        | false =>
          have mH : mayH 3 p1 4 = true := by
            have := mP
            unfold mayP mayH at this
            simp only [Bool.and_eq_true, decide_eq_true_eq] at this
            unfold mayH
            simp only [Bool.and_eq_true, decide_eq_true_eq]
            omega
          have cv0 := codeV_in l
          have eC := fun g => coded_c (l := l) r7 g
          obtain ⟨cv, hcv⟩ : ∃ z, codeV l = z := ⟨_, rfl⟩
          rw [hcv] at cv0 eC
          have estr := str_n cl
          have okB : Pk.Ok ⟨3, p1, 4, 0, p4, -20, 0, sh, cv, hd, p12, hd, xm, false, 0, 0⟩ := by
            have z1 : 0 ≤ p1 := okP.a1
            have z2 : p1 ≤ 255 := okP.b1
            have z3 : -128 ≤ p4 := okP.a4
            have z4 : p4 ≤ 127 := okP.b4
            have z5 : 0 ≤ p12 := okP.a12
            have z6 : p12 ≤ 18446744073709551615 := okP.b12
            have z7 := ok.s1
            have z8 := ok.s2
            have z9 := ok.r0
            have z10 := ok.r1
            constructor <;> (dsimp only; omega)
          obtain ⟨H4, hH4⟩ : ∃ H, H3 ++ [(⟨.tip false, .vals (Pk.l ⟨3, p1, 4, 0, p4, -20, 0, sh, cv, hd, p12, hd, xm, false, 0, 0⟩ .nils)⟩ : ABlk)] = H := ⟨_, rfl⟩
          have k4 : Keeps H3 H4 none := by rw [← hH4]; exact Keeps.app _ _ _ rfl
          have b4 : H4[H3.length]? = some ⟨.tip false, .vals (Pk.l ⟨3, p1, 4, 0, p4, -20, 0, sh, cv, hd, p12, hd, xm, false, 0, 0⟩ .nils)⟩ := by rw [← hH4, List.getElem?_append_right (Nat.le_refl _)]; simp
          have l4 := (List.getElem?_eq_some_iff.1 b4).1
          have hp4 := kN k4 _ _ hp3
          have b34 := kN k4 _ _ b3
          have hs4 := kN k4 _ _ hs3
          have ls4 := (List.getElem?_eq_some_iff.1 hs4).1
          have lp4 := (List.getElem?_eq_some_iff.1 hp4).1
          have l34 := (List.getElem?_eq_some_iff.1 b34).1
          have lo3 : ¬ H3.length < g.length := by omega
          have hG4 := k4.2.2 hG3
          have ha4 : At0 H4 := by rw [← hH4]; exact ha3.app _
          obtain ⟨f1, f2, f3, f4⟩ := fit_put (Q := ⟨3, p1, 4, 0, p4, -20, 0, sh, cv, hd, p12, hd, xm, false, 0, 0⟩) mH rfl rfl
          obtain ⟨v, js2, eU, bv, hGu⟩ := put_u (P := ⟨3, p1, 4, 0, p4, -20, 0, sh, cv, hd, p12, hd, xm, false, 0, 0⟩) (x := .nils) (F := []) okB (by simp) (by simp) rfl hG4 ha4 (ExtAt.nil _)
          rw [f3] at eU
          rw [f4] at bv
          obtain ⟨H7, hH7⟩ : ∃ H, H4 ++ js2 = H := ⟨_, rfl⟩
          have k7 : Keeps H4 H7 none := by rw [← hH7]; exact kG hGu
          rw [hH7] at eU bv hGu
          have kf := kT (kT kgood k4) k7
          have hp7 := kN kf _ _ hp
          have lp7 := (List.getElem?_eq_some_iff.1 hp7).1
          have nv : noAny (some v) = some v := na_slen bv.len
          have hvc : v.isCell = true := bv_cell bv
          have w5 : IntKind.i64.wrap (n + 1) = n + 1 := wr_i64 _ (by omega) (by omega)
          have hQ : ansQ S ⟨p0, p1, 3, p3, p4, p5, p6, p7, p8, p9, p10, p11, p12, false, p15, p16⟩ lie leap l took gave = ⟨3, p1, 4, 0, p4, -20, 0, sh, cv, hd, p12, hd, xm, false, 0, 0⟩ := by
            unfold ansQ ansB
            rw [if_neg (by simp), if_neg cl, if_neg cl, if_neg cl, htl, hgl, hhd, hxm, hsh, hcv]
          rw [hQ]
          simp only [Pk.l] at eU hH4 b4
          obtain ⟨H8, hH8⟩ : ∃ H, H7.set p ⟨.tip false, .vals (S.b (n + 1))⟩ = H := ⟨_, rfl⟩
          have kF : Keeps g H8 (some p) := by rw [← hH8]; exact kSet kf rfl
          have b8 : H8[p]? = some ⟨.tip false, .vals (S.b (n + 1))⟩ := by rw [← hH8]; simp [lp7]
          have bv8 : BV H8 v (putP ⟨3, p1, 4, 0, p4, -20, 0, sh, cv, hd, p12, hd, xm, false, 0, 0⟩ []) := by rw [← hH8]; exact bv.set_vals hp7
          simp only [Srv.b] at hH8 hp7 
          simp (maxDischargeDepth := 9) -implicitDefEqProofs only [push_cast, simprocAttr, M10, nadd1, nadd2, nadd3, nadd4, nadd5, nadd6, nadd7, nadd8, nadd9, nadd10, nadd11, nadd12, ABlk.new, nb, hH1, eN, eP, nx, hxc, hH3, b3, l3, hs3, ls3, hp3, lp3, lo1, eSay, w1', w2', eT, eG, eH, np3, ns3, nq3, decide_false, Bool.not_false, Bool.and_true, estr, hs4, ls4, hH4, b4, l4, hp4, b34, lp4, l34, lo3, eC, eU, hp7, lp7, lp, nv, hvc, w5, hH8]
          exact ⟨v, rfl, bv8, kF, b8, rfl⟩
        | true =>
          obtain rfl : rb = true := by cases rb with
            | true => rfl
            | false => exact absurd ⟨rfl, rfl⟩ c2
          have mH : mayH 3 p1 4 = true := by
            have := mP
            unfold mayP mayH at this
            simp only [Bool.and_eq_true, decide_eq_true_eq] at this
            unfold mayH
            simp only [Bool.and_eq_true, decide_eq_true_eq]
            omega
          have cv0 := codeV_in l
          have eC := fun g => coded_c (l := l) r7 g
          obtain ⟨cv, hcv⟩ : ∃ z, codeV l = z := ⟨_, rfl⟩
          rw [hcv] at cv0 eC
          have estr := str_n cl
          have okB : Pk.Ok ⟨3, p1, 4, 0, p4, -20, 0, sh, cv, hd, p12, hd, xm, false, 0, 0⟩ := by
            have z1 : 0 ≤ p1 := okP.a1
            have z2 : p1 ≤ 255 := okP.b1
            have z3 : -128 ≤ p4 := okP.a4
            have z4 : p4 ≤ 127 := okP.b4
            have z5 : 0 ≤ p12 := okP.a12
            have z6 : p12 ≤ 18446744073709551615 := okP.b12
            have z7 := ok.s1
            have z8 := ok.s2
            have z9 := ok.r0
            have z10 := ok.r1
            constructor <;> (dsimp only; omega)
          obtain ⟨H4, hH4⟩ : ∃ H, H3 ++ [(⟨.tip false, .vals (Pk.l ⟨3, p1, 4, 0, p4, -20, 0, sh, cv, hd, p12, hd, xm, false, 0, 0⟩ .nils)⟩ : ABlk)] = H := ⟨_, rfl⟩
          have k4 : Keeps H3 H4 none := by rw [← hH4]; exact Keeps.app _ _ _ rfl
          have b4 : H4[H3.length]? = some ⟨.tip false, .vals (Pk.l ⟨3, p1, 4, 0, p4, -20, 0, sh, cv, hd, p12, hd, xm, false, 0, 0⟩ .nils)⟩ := by rw [← hH4, List.getElem?_append_right (Nat.le_refl _)]; simp
          have l4 := (List.getElem?_eq_some_iff.1 b4).1
          have hp4 := kN k4 _ _ hp3
          have b34 := kN k4 _ _ b3
          have hs4 := kN k4 _ _ hs3
          have ls4 := (List.getElem?_eq_some_iff.1 hs4).1
          have lp4 := (List.getElem?_eq_some_iff.1 hp4).1
          have l34 := (List.getElem?_eq_some_iff.1 b34).1
          have lo3 : ¬ H3.length < g.length := by omega
          have hG4 := k4.2.2 hG3
          have ha4 : At0 H4 := by rw [← hH4]; exact ha3.app _
          have kid0 : ¬ S.kid = 0 ∧ p15 = S.kid := by
            have h1 := hrb
            unfold rightP at h1
            simp only [Bool.and_eq_true, decide_eq_true_eq] at h1
            have h2 := mP
            unfold mayP mayS at h2
            simp only [Bool.and_eq_true, beq_iff_eq] at h2
            obtain ⟨_, _, _, h3, _⟩ := h1
            obtain ⟨_, _, h4, _⟩ := h2
            have h5 : ¬ p15 = 0 := by simpa using h4
            exact ⟨by rw [← h3]; exact h5, h3⟩
          have mS0 : mayS (sgP ⟨3, p1, 4, 0, p4, -20, 0, sh, cv, hd, p12, hd, xm, false, 0, 0⟩ S.kid 0) = true := by
            unfold mayS sgP
            simp [kid0.1]
          obtain ⟨_, _, fe, _⟩ := fit_put (Q := sgP ⟨3, p1, 4, 0, p4, -20, 0, sh, cv, hd, p12, hd, xm, false, 0, 0⟩ S.kid 0) mH mS0 rfl
          have eS := sign_u (P := ⟨3, p1, 4, 0, p4, -20, 0, sh, cv, hd, p12, hd, xm, false, 0, 0⟩) (x := .nils) (F := []) (id := S.kid) (A := S.ka) (B := S.kb) okB ok.k0 ok.k1 (by simp) (by simp) rfl hG4 ha4 (ExtAt.nil _) rfl
          obtain ⟨tg, htg⟩ : ∃ z, tagI S.ka S.kb (bodyP ⟨3, p1, 4, 0, p4, -20, 0, sh, cv, hd, p12, hd, xm, false, 0, 0⟩ []) = z := ⟨_, rfl⟩
          have hSg : signS ⟨3, p1, 4, 0, p4, -20, 0, sh, cv, hd, p12, hd, xm, false, 0, 0⟩ [] S.kid S.ka S.kb = ⟨3, p1, 4, 0, p4, -20, 0, sh, cv, hd, p12, hd, xm, true, S.kid, tg⟩ := by unfold signS; rw [if_pos fe, htg]; rfl
          have hSx : signX ⟨3, p1, 4, 0, p4, -20, 0, sh, cv, hd, p12, hd, xm, false, 0, 0⟩ [] S.kid .nils = .nils := by unfold signX; rw [if_pos fe]
          have okS := signS_ok (F := []) (A := S.ka) (B := S.kb) okB ok.k0 ok.k1
          rw [hSg] at okS
          rw [hSg, hSx, fe] at eS
          have mS2 : mayS ⟨3, p1, 4, 0, p4, -20, 0, sh, cv, hd, p12, hd, xm, true, S.kid, tg⟩ = true := by
            unfold mayS
            simp [kid0.1]
          obtain ⟨H5, hH5⟩ : ∃ H, H4.set H3.length ⟨.tip false, .vals (Pk.l ⟨3, p1, 4, 0, p4, -20, 0, sh, cv, hd, p12, hd, xm, true, S.kid, tg⟩ .nils)⟩ = H := ⟨_, rfl⟩
          have b5 : H5[H3.length]? = some ⟨.tip false, .vals (Pk.l ⟨3, p1, 4, 0, p4, -20, 0, sh, cv, hd, p12, hd, xm, true, S.kid, tg⟩ .nils)⟩ := by rw [← hH5]; simp [l4]
          have l5 := (List.getElem?_eq_some_iff.1 b5).1
          have k5 : Keeps g H5 none := by rw [← hH5]; exact keeps_set (kT kgood k4) (by omega) rfl
          have hG5 := k5.2.2 hg
          have hp5 := kN k5 _ _ hp
          have lp5 := (List.getElem?_eq_some_iff.1 hp5).1
          have ha5 : At0 H5 := at0_keep ha k5
          simp only [Pk.l] at eS hH5 b5
          obtain ⟨f1, f2, f3, f4⟩ := fit_put (Q := ⟨3, p1, 4, 0, p4, -20, 0, sh, cv, hd, p12, hd, xm, true, S.kid, tg⟩) mH mS2 rfl
          obtain ⟨v, js2, eU, bv, hGu⟩ := put_u (P := ⟨3, p1, 4, 0, p4, -20, 0, sh, cv, hd, p12, hd, xm, true, S.kid, tg⟩) (x := .nils) (F := []) okS (by simp) (by simp) rfl hG5 ha5 (ExtAt.nil _)
          rw [f3] at eU
          rw [f4] at bv
          obtain ⟨H7, hH7⟩ : ∃ H, H5 ++ js2 = H := ⟨_, rfl⟩
          have k7 : Keeps H5 H7 none := by rw [← hH7]; exact kG hGu
          rw [hH7] at eU bv hGu
          have kf := kT (k5) k7
          have hp7 := kN kf _ _ hp
          have lp7 := (List.getElem?_eq_some_iff.1 hp7).1
          have nv : noAny (some v) = some v := na_slen bv.len
          have hvc : v.isCell = true := bv_cell bv
          have w5 : IntKind.i64.wrap (n + 1) = n + 1 := wr_i64 _ (by omega) (by omega)
          have hQ : ansQ S ⟨p0, p1, 3, p3, p4, p5, p6, p7, p8, p9, p10, p11, p12, true, p15, p16⟩ lie leap l took gave = ⟨3, p1, 4, 0, p4, -20, 0, sh, cv, hd, p12, hd, xm, true, S.kid, tg⟩ := by
            unfold ansQ ansB
            rw [if_pos rfl, if_neg cl, if_neg cl, if_neg cl, htl, hgl, hhd, hxm, hsh, hcv]
            exact hSg
          rw [hQ]
          simp only [Pk.l] at eU hH4 b4
          obtain ⟨H8, hH8⟩ : ∃ H, H7.set p ⟨.tip false, .vals (S.b (n + 1))⟩ = H := ⟨_, rfl⟩
          have kF : Keeps g H8 (some p) := by rw [← hH8]; exact kSet kf rfl
          have b8 : H8[p]? = some ⟨.tip false, .vals (S.b (n + 1))⟩ := by rw [← hH8]; simp [lp7]
          have bv8 : BV H8 v (putP ⟨3, p1, 4, 0, p4, -20, 0, sh, cv, hd, p12, hd, xm, true, S.kid, tg⟩ []) := by rw [← hH8]; exact bv.set_vals hp7
          simp only [Srv.b] at hH8 hp7 hp5
          simp (maxDischargeDepth := 9) -implicitDefEqProofs only [push_cast, simprocAttr, M10, nadd1, nadd2, nadd3, nadd4, nadd5, nadd6, nadd7, nadd8, nadd9, nadd10, nadd11, nadd12, ABlk.new, nb, hH1, eN, eP, nx, hxc, hH3, b3, l3, hs3, ls3, hp3, lp3, lo1, eSay, w1', w2', eT, eG, eH, np3, ns3, nq3, decide_false, Bool.not_false, Bool.and_true, estr, hs4, ls4, hH4, b4, l4, hp4, b34, lp4, l34, lo3, eC, eS, hH5, b5, l5, hp5, lp5, eR, eU, hp7, lp7, lp, nv, hvc, w5, hH8]
          exact ⟨v, rfl, bv8, kF, b8, rfl⟩
end Go.Proofs.YtdpbbagllhfjbaaDoorW.AI.F
