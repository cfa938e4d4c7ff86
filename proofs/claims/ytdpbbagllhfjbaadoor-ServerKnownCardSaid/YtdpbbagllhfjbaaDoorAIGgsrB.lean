import Derived.Test.YtdpbbagllhfjbaaDoorAIGgsrA
import Derived.Test.YtdpbbagllhfjbaaDoorAIGgsanA
import Derived.Test.YtdpbbagllhfjbaaDoorAIGbase
import Derived.Test.YtdpbbagllhfjbaaDoorAIWO
namespace Go.Proofs.YtdpbbagllhfjbaaDoorW.AI.G
open Go Go.Proofs.YtdpbbagllhfjbaaDoorW.AI Go.Proofs.YtdpbbagllhfjbaaDoorW.AI.Oct
set_option maxRecDepth 100000
set_option linter.unusedVariables false
set_option linter.unusedSimpArgs false
set_option linter.unusedSectionVars false
-- ------------------------------------------------------------------ bits
theorem and_in {x m : Int} (m0 : 0 ≤ m) (m1 : m ≤ 9223372036854775807) : 0 ≤ abits .and .i64 x m ∧ abits .and .i64 x m ≤ m := by
  obtain ⟨n, rfl⟩ : ∃ n : Nat, m = (n : Int) := ⟨m.toNat, by omega⟩
  have e : (BitVec.ofInt 64 x &&& BitVec.ofInt 64 (n : Int)).toNat ≤ n := by
    rw [BitVec.toNat_and]
    refine Nat.le_trans Nat.and_le_right ?_
    rw [BitVec.ofInt_natCast, BitVec.toNat_ofNat]
    exact Nat.mod_le _ _
  obtain ⟨a, hA⟩ : ∃ a, (BitVec.ofInt 64 x &&& BitVec.ofInt 64 (n : Int)).toNat = a := ⟨_, rfl⟩
  have e2 : abits .and .i64 x (n : Int) = IntKind.i64.wrap (a : Int) := by rw [← hA]; rfl
  rw [hA] at e
  rw [e2, wr_i64 _ (by omega) (by omega)]
  omega
theorem or1_in {x : Int} : 1 ≤ abits .or .u32 x 1 ∧ abits .or .u32 x 1 ≤ 4294967295 := by
  have h1 : 1 ≤ (BitVec.ofInt 32 x ||| BitVec.ofInt 32 1).toNat := by
    rw [BitVec.toNat_or]
    exact Nat.right_le_or
  have h2 : (BitVec.ofInt 32 x ||| BitVec.ofInt 32 1).toNat < 2 ^ 32 := BitVec.isLt _
  obtain ⟨a, hA⟩ : ∃ a, (BitVec.ofInt 32 x ||| BitVec.ofInt 32 1).toNat = a := ⟨_, rfl⟩
  have e2 : abits .or .u32 x 1 = IntKind.u32.wrap (a : Int) := by rw [← hA]; rfl
  rw [hA] at h1 h2
  rw [e2, wr_u32 _ (by omega) (by omega)]
  omega
-- ------------------------------------------------------------------ a server that may be
def mkR (rho : Int) : Int := IntKind.u64.wrap rho % 15999980000
def mkS (S : Srv) : Srv := ⟨1 + S.st % 15, S.rid, abits .or .u32 S.kid 1, S.ka, S.kb, mkR S.rho⟩
theorem mkR_in (r : Int) : 0 ≤ mkR r ∧ mkR r < 15999980000 := by unfold mkR; omega
theorem mkS_ok {S : Srv} (r0 : 0 ≤ S.rid) (r1 : S.rid ≤ 4294967295) : (mkS S).Ok := by
  have h1 := or1_in (x := S.kid)
  have h2 := mkR_in S.rho
  unfold mkS
  constructor <;> (dsimp only; omega)
theorem made_c {S : Srv} (s0 : 0 ≤ S.st) (s1 : S.st ≤ 255) (r0 : 0 ≤ S.rid) (r1 : S.rid ≤ 4294967295) (h : AHeap) : W CP 17 [.agg S.l] h = some (.tup [.ptr (h.length + 3) 0, .agg (mkS S).l], h ++ [⟨.tip false, .vals (mkS S).l⟩, ⟨.tip false, .vals (mkS S).l⟩, ⟨.tip false, .vals (mkS S).l⟩, ⟨.tip false, .vals ((mkS S).b 0)⟩], []) := by
  have ok := mkS_ok (S := S) r0 r1
  have en := fun h => snew_ok ok h
  have ho := or1_in (x := S.kid)
  have hm := mkR_in S.rho
  obtain ⟨o, hO⟩ : ∃ o, abits .or .u32 S.kid 1 = o := ⟨_, rfl⟩
  obtain ⟨a, hA⟩ : ∃ a, S.st % 15 = a := ⟨_, rfl⟩
  have q1 : S.st.tmod 15 = a := by rw [rem_e s0]; exact hA
  have w1 : IntKind.u8.wrap a = a := wr_u8 _ (by omega) (by omega)
  have w2 : IntKind.u8.wrap (1 + a) = 1 + a := wr_u8 _ (by omega) (by omega)
  obtain ⟨u, hU⟩ : ∃ u, IntKind.u64.wrap S.rho = u := ⟨_, rfl⟩
  have u0 : 0 ≤ u ∧ u ≤ 18446744073709551615 := by rw [← hU]; exact u64_le _
  obtain ⟨b, hB⟩ : ∃ b, u % 15999980000 = b := ⟨_, rfl⟩
  have hm2 : mkR S.rho = b := by unfold mkR; rw [hU, hB]
  rw [hm2] at hm
  have q2 : u.tmod 15999980000 = b := by rw [rem_e u0.1]; exact hB
  have w3 : IntKind.u64.wrap b = b := wr_u64 _ (by omega) (by omega)
  have w4 : IntKind.i64.wrap b = b := wr_i64 _ (by omega) (by omega)
  have hS : mkS S = ⟨1 + a, S.rid, o, S.ka, S.kb, b⟩ := by unfold mkS; rw [hO, hA, hm2]
  rw [hS] at en ⊢
  simp only [Srv.l, Srv.b] at en
  have hb : ∀ h : AHeap, xbody (W CP) M17 [.agg S.l] h = some (.tup [.ptr (h.length + 3) 0, .agg (Srv.l ⟨1 + a, S.rid, o, S.ka, S.kb, b⟩)], h ++ [⟨.tip false, .vals (Srv.l ⟨1 + a, S.rid, o, S.ka, S.kb, b⟩)⟩, ⟨.tip false, .vals (Srv.l ⟨1 + a, S.rid, o, S.ka, S.kb, b⟩)⟩, ⟨.tip false, .vals (Srv.l ⟨1 + a, S.rid, o, S.ka, S.kb, b⟩)⟩, ⟨.tip false, .vals (Srv.b ⟨1 + a, S.rid, o, S.ka, S.kb, b⟩ 0)⟩], []) := by
    intro h
    simp (maxDischargeDepth := 9) -implicitDefEqProofs only [push_cast, simprocAttr, M17, nadd1, nadd2, nadd3, nadd4, nadd5, nadd6, nadd7, nadd8, nadd9, nadd10, nadd11, nadd12, Srv.l, Srv.b, ABlk.new, q1, w1, w2, hU, q2, w3, w4, hO, en]
    try rfl
  rw [W_made (m := M17) rfl rfl rfl (hb _) (by simp [AV.lt, AV.lts]) (hb h)]
  have : M17.trim = true := rfl
  rw [this, if_pos rfl, trim_addr (by simp [AV.lt, AV.lts])]
-- ------------------------------------------------------------------ a request, and what is parsed
theorem putP_ne {P : Pk} {F : List (Int × List Int)} : putP P F ≠ [] := by
  intro e
  have := congrArg List.length e
  unfold putP bodyP at this
  rw [List.length_append, List.length_append, headP_len] at this
  simp at this
theorem sv_of {h : AHeap} {v : AV} {P : Pk} (b : BV h v (putP P [])) (m : Mn v) : SV h v (putP P []) := Or.inr (bv_src b m putP_ne)
theorem ext_any {h g : AHeap} {x : AV} (e : ExtAt h x []) : ExtAt g x [] := by
  obtain ⟨b, o, l, r⟩ := e
  exact ⟨b, o, l, r.len, r.ia, fun hF => absurd rfl hF, fun i t D hi => by simp at hi⟩
section
variable {xmt id A B : Int} {h : AHeap}
theorem req_c (x0 : 0 ≤ xmt) (x1 : xmt ≤ 18446744073709551615) (i0 : 0 ≤ id) (i1 : id ≤ 4294967295) (hg : Good h) (ha : At0 h) :
    ∃ v H, W CP 14 [.int .u64 xmt, .agg [.int .u32 id, .int .u64 A, .int .u64 B]] h = some (v, H, []) ∧ BV H v (putP (rqP xmt id A B) []) ∧ Mn v ∧ Keeps h H none := by
  obtain ⟨⟨v, H, ws⟩, e, t, m, k, hw⟩ := W_addrH (C := CP) (f := 14) (args := [.int .u64 xmt, .agg [.int .u32 id, .int .u64 A, .int .u64 B]]) (m := M14) (fun g => Good g ∧ At0 g) (fun g r => TailAt r.2.1 r.1 (putP (rqP xmt id A B) []) g.length ∧ Mn r.1 ∧ Keeps g r.2.1 none ∧ r.2.2 = []) (fun _ => rfl) rfl rfl (fun _ => ⟨glG, at0_gl⟩) (fun g hi => req_k x0 x1 i0 i1 hi.1 hi.2) ⟨hg, ha⟩
  simp only at hw
  subst hw
  exact ⟨v, H, e, t.bv (putP_byt (ext_byt (ExtAt.nil CP.gl)).1), m, k⟩
/-- What is put is parsed. -/
theorem par0_c {Q : Pk} {v : AV} (ok : Q.Ok) (f : mayP Q [] = true ∧ (putP Q []).length ≤ 512 ∧ putE Q [] = 0 ∧ putD Q [] = putP Q []) (hg : Good h) (ha : At0 h) (b : BV h v (putP Q [])) (m : Mn v) :
    ∃ xv H, W CP 15 [v] h = some (.tup [.agg (Q.l xv), .int .i64 0], H, []) ∧ (∀ g, ExtAt g xv []) ∧ xv.isCell = true ∧ noAny (some xv) = some xv ∧ xv.lt H.length = true ∧ Keeps h H none := by
  have par := pparse_c hg ha (sv_of b m) (by have := f.2.1; omega)
  rw [parse_putP ok f.1 (by simp) (by simp) f.2.1] at par
  obtain ⟨xv, lx, js, e, xo, hG⟩ := par
  have hs := xo.ext.len
  have hx : xv = .nils ∨ ∃ p mn, xv = .gsl p 0 0 2 mn ∧ p < (h ++ js).length := by
    rcases xo.gx.2 with ⟨e0, _⟩ | ⟨p, mn, o, e0, e1⟩
    · exact Or.inl e0
    · exact Or.inr ⟨p, mn, e0, (List.getElem?_eq_some_iff.1 e1).1⟩
  refine ⟨xv, h ++ js, e, fun g => ext_any xo.ext, ?_, na_slen hs, ?_, kG hG⟩
  · rcases hx with rfl | ⟨p, mn, rfl, _⟩ <;> rfl
  · rcases hx with rfl | ⟨p, mn, rfl, hp⟩
    · rfl
    · simpa [AV.lt] using hp
-- ------------------------------------------------------------------ answers
variable {S : Srv} {p : Nat} {n : Int} {v : AV} {P : Pk} {took gave lie leap : Int} {l : List UInt8}
theorem ansP_put (ok : P.Ok) (f : mayP P [] = true ∧ (putP P []).length ≤ 512 ∧ putE P [] = 0 ∧ putD P [] = putP P []) : ansP S (putP P []) took gave lie leap l = ansR S P [] took gave lie leap l := by
  unfold ansP
  rw [parse_putP ok f.1 (by simp) (by simp) f.2.1]
theorem ansok_c {Q : Pk} {D : List Int} (ok : S.Ok) (hg : Good h) (ha : At0 h) (hp : h[p]? = some ⟨.tip false, .vals (S.b n)⟩) (n0 : 0 ≤ n) (n1 : n ≤ 1000000) (hb : SV h v D) (hD : D.length < 1000000000)
    (l0 : -9223372036854775808 ≤ lie) (l1 : lie ≤ 9223372036854775807) (t0 : -9223372036854775808 ≤ took) (t1 : took ≤ 9223372036854775807) (g0 : -9223372036854775808 ≤ gave) (g1 : gave ≤ 9223372036854775807) (q0 : 0 ≤ leap) (q1 : leap ≤ 255) (hR : ansP S D took gave lie leap l = .ok Q) :
    ∃ w H, W CP 10 [.ptr p 0, v, .int .i64 took, .int .i64 gave, .agg [.int .i64 lie, .int .u8 leap, .str (sb l)]] h = some (.tup [w, .int .i64 0], H, [p]) ∧ BV H w (putP Q []) ∧ Mn w ∧ Keeps h H (some p) ∧ H[p]? = some ⟨.tip false, .vals (S.b (n + 1))⟩ := by
  obtain ⟨⟨r1, H, ws⟩, e, k⟩ := ans_c (l := l) ok hg ha hp n0 n1 hb hD l0 l1 t0 t1 g0 g1 q0 q1
  rw [hR] at k
  obtain ⟨w, h1, h2, h3, h4, h5, h6⟩ := k
  simp only at h1 h2 h4 h5 h6
  subst h1 h6
  exact ⟨w, H, e, h2, h3, h4, h5⟩
theorem anser_c {z : Int} {D : List Int} (ok : S.Ok) (hg : Good h) (ha : At0 h) (hp : h[p]? = some ⟨.tip false, .vals (S.b n)⟩) (n0 : 0 ≤ n) (n1 : n ≤ 1000000) (hb : SV h v D) (hD : D.length < 1000000000)
    (l0 : -9223372036854775808 ≤ lie) (l1 : lie ≤ 9223372036854775807) (t0 : -9223372036854775808 ≤ took) (t1 : took ≤ 9223372036854775807) (g0 : -9223372036854775808 ≤ gave) (g1 : gave ≤ 9223372036854775807) (q0 : 0 ≤ leap) (q1 : leap ≤ 255) (hR : ansP S D took gave lie leap l = .err z) :
    ∃ H, W CP 10 [.ptr p 0, v, .int .i64 took, .int .i64 gave, .agg [.int .i64 lie, .int .u8 leap, .str (sb l)]] h = some (.tup [.nils, .int .i64 z], H, []) ∧ Keeps h H none := by
  obtain ⟨⟨r1, H, ws⟩, e, k⟩ := ans_c (l := l) ok hg ha hp n0 n1 hb hD l0 l1 t0 t1 g0 g1 q0 q1
  rw [hR] at k
  obtain ⟨h1, h2, h3⟩ := k
  simp only at h1 h2 h3
  subst h2 h3
  exact ⟨H, e, h1⟩
end
theorem kB {H : AHeap} {v : AV} {L : List Int} {H' : AHeap} {p : Nat} {A : List AV} (b : BV H v L) (k : Keeps H H' (some p)) (e : H[p]? = some ⟨.tip false, .vals A⟩) : BV H' v L := by
  refine b.mono fun q z e' hz hl => k.1 q z e' (fun j _ => ?_) fun hq => ?_
  · rcases hl with hl | ⟨o', hl⟩ <;> rw [hl] <;> simp
  · cases hq
    rw [e] at e'
    cases e'
    obtain ⟨l', hz⟩ := hz
    cases hz
theorem kV {H H' : AHeap} {p q : Nat} {A : List AV} (k : Keeps H H' (some p)) (hq : p ≠ q) (e : H[q]? = some ⟨.tip false, .vals A⟩) : H'[q]? = some ⟨.tip false, .vals A⟩ :=
  k.1 q _ e (fun j _ => by simp) (fun h => hq (by cases h; rfl))
-- ------------------------------------------------------------------ what is right
theorem right_sg {B : Pk} {id a b : Int} (f : mayP (sgP B id (tagI a b (bodyP B []))) [] = true) (g : (putP (sgP B id (tagI a b (bodyP B []))) []).length ≤ 512) : rightP (sgP B id (tagI a b (bodyP B []))) [] id a b = true := by
  unfold rightP
  rw [f, decide_eq_true g]
  have e : tagI a b (bodyP (sgP B id (tagI a b (bodyP B []))) []) = (sgP B id (tagI a b (bodyP B []))).p16 := rfl
  have e2 : (sgP B id (tagI a b (bodyP B []))).p15 = id := rfl
  rw [decide_eq_true e, decide_eq_true e2]
  rfl
theorem rqP_sg {xmt id A B : Int} (h : id ≠ 0) : rqP xmt id A B = sgP (rq0 xmt) id (tagI A B (bodyP (rq0 xmt) [])) := if_neg h
theorem rqP_right {xmt id A B : Int} (h : id ≠ 0) : rightP (rqP xmt id A B) [] id A B = true := by
  have f := rqP_fit (xmt := xmt) (id := id) (A := A) (B := B)
  rw [rqP_sg h] at f ⊢
  exact right_sg f.1 f.2.1
-- ------------------------------------------------------------------ tests of a packet
section
variable {P : Pk} {x : AV} {h : AHeap}
theorem tst_q (ok : P.Ok) (hx : x.isCell = true) (hg : Good h) (ha : AtT h) : W CP 16 [.agg (P.l x)] h = some (.int .i64 (testV (!decide (P.p2 = 4)) (decide (P.p3 = 0)) (decide (P.p0 = 3) || decide (15 < P.p3)) (decide (P.p11 = 0) || decide (P.p12 = 0)) (decide (16000000000 < rhoV P.p6 P.p7))), h, []) :=
  test_c (p0 := P.p0) (p1 := P.p1) (p2 := P.p2) (p3 := P.p3) (p4 := P.p4) (p5 := P.p5) (p6 := P.p6) (p7 := P.p7) (p8 := P.p8) (p9 := P.p9) (p10 := P.p10) (p11 := P.p11) (p12 := P.p12) (p15 := P.p15) (p16 := P.p16) (s := P.s) hx ok.a6 (by have := ok.b6; omega) ok.a7 (by have := ok.b7; omega) hg ha
theorem tst_ok (ok : P.Ok) (hx : x.isCell = true) (hg : Good h) (ha : AtT h) (h2 : P.p2 = 4) (h3 : 1 ≤ P.p3) (h4 : P.p3 ≤ 15) (h0 : P.p0 ≠ 3) (h5 : P.p11 ≠ 0) (h6 : P.p12 ≠ 0) (hr : rhoV P.p6 P.p7 ≤ 16000000000) : W CP 16 [.agg (P.l x)] h = some (.int .i64 0, h, []) := by
  rw [tst_q ok hx hg ha, decide_eq_true h2, decide_eq_false (show ¬ P.p3 = 0 by omega), decide_eq_false h0, decide_eq_false (show ¬ 15 < P.p3 by omega), decide_eq_false h5, decide_eq_false h6, decide_eq_false (show ¬ 16000000000 < rhoV P.p6 P.p7 by omega)]
  rfl
theorem rho_q (ok : P.Ok) (hx : x.isCell = true) (hg : Good h) : W CP 20 [.agg (P.l x)] h = some (.int .i64 (rhoV P.p6 P.p7), h, []) :=
  rho_c (p0 := P.p0) (p1 := P.p1) (p2 := P.p2) (p3 := P.p3) (p4 := P.p4) (p5 := P.p5) (p6 := P.p6) (p7 := P.p7) (p8 := P.p8) (p9 := P.p9) (p10 := P.p10) (p11 := P.p11) (p12 := P.p12) (p15 := P.p15) (p16 := P.p16) (s := P.s) hx ok.a6 (by have := ok.b6; omega) ok.a7 (by have := ok.b7; omega) hg
theorem kiss_q (ok : P.Ok) (hx : x.isCell = true) (hg : Good h) : W CP 23 [.agg (P.l x)] h = some (if P.p3 = 0 then .tup [.str (sb (kissV P.p8)), .bool true] else .tup [.str (sb []), .bool false], h, []) :=
  kiss_c (p0 := P.p0) (p1 := P.p1) (p2 := P.p2) (p3 := P.p3) (p4 := P.p4) (p5 := P.p5) (p6 := P.p6) (p7 := P.p7) (p8 := P.p8) (p9 := P.p9) (p10 := P.p10) (p11 := P.p11) (p12 := P.p12) (p15 := P.p15) (p16 := P.p16) (s := P.s) hx ok.a8 (by have := ok.b8; omega) hg
end
theorem rho_sh {r : Int} (r0 : 0 ≤ r) (r1 : r < 15999980000) : r ≤ rhoV 0 (shV r) ∧ rhoV 0 (shV r) - r < 15259 ∧ rhoV 0 (shV r) ≤ 16000000000 := by
  unfold rhoV sN shV
  split <;> omega
theorem at0_keepP {g H : AHeap} {p : Nat} (a : At0 g) (k : Keeps g H (some p)) (hp : 1 < p) : At0 H :=
  ⟨k.1 _ _ a.1 (fun j _ => by simp) (fun h => by cases h; omega), by have := k.2.1; have := a.2; omega⟩
theorem att_keep {g H : AHeap} (a : AtT g) (k : Keeps g H none) : AtT H := ⟨kN k _ _ a.1, by have := k.2.1; have := a.2; omega⟩
theorem att_keepP {g H : AHeap} {p : Nat} (a : AtT g) (k : Keeps g H (some p)) (hp : 0 < p) : AtT H :=
  ⟨k.1 _ _ a.1 (fun j _ => by simp) (fun h => by cases h; omega), by have := k.2.1; have := a.2; omega⟩
end Go.Proofs.YtdpbbagllhfjbaaDoorW.AI.G
namespace Go.Proofs.YtdpbbagllhfjbaaDoorW.AI.G
open Go Go.Proofs.YtdpbbagllhfjbaaDoorW.AI Go.Proofs.YtdpbbagllhfjbaaDoorW.AI.Oct
set_option maxRecDepth 100000
set_option linter.unusedVariables false
set_option linter.unusedSimpArgs false
set_option linter.unusedSectionVars false
-- ------------------------------------------------------------------ what an honest server answers
/-- An answer before it is signed: how it stands with the leap, the stratum, the root, the times. -/
def aP (lp st xmt sh rid a b : Int) : Pk := ⟨lp, 4, 4, st, 6, -20, 0, sh, rid, a, xmt, a, b, false, 0, 0⟩
def aS (lp st xmt sh rid a b id t : Int) : Pk := ⟨lp, 4, 4, st, 6, -20, 0, sh, rid, a, xmt, a, b, true, id, t⟩
section
variable {lp st xmt sh rid a b id t : Int}
theorem aS_sg : sgP (aP lp st xmt sh rid a b) id t = aS lp st xmt sh rid a b id t := rfl
theorem aP_fit (h0 : 0 ≤ lp) (h1 : lp ≤ 3) : mayP (aP lp st xmt sh rid a b) [] = true ∧ (putP (aP lp st xmt sh rid a b) []).length ≤ 512 ∧ putE (aP lp st xmt sh rid a b) [] = 0 ∧ putD (aP lp st xmt sh rid a b) [] = putP (aP lp st xmt sh rid a b) [] := by
  refine fit_put ?_ rfl rfl
  unfold mayH aP
  simp [h0, h1]
theorem aS_fit (h0 : 0 ≤ lp) (h1 : lp ≤ 3) (hi : id ≠ 0) : mayP (aS lp st xmt sh rid a b id t) [] = true ∧ (putP (aS lp st xmt sh rid a b id t) []).length ≤ 512 ∧ putE (aS lp st xmt sh rid a b id t) [] = 0 ∧ putD (aS lp st xmt sh rid a b id t) [] = putP (aS lp st xmt sh rid a b id t) [] := by
  refine fit_put ?_ (by simp [mayS, aS, hi]) rfl
  unfold mayH aS
  simp [h0, h1]
structure AOk (lp st xmt sh rid a b : Int) : Prop where
  l0 : 0 ≤ lp
  l1 : lp ≤ 3
  s0 : 0 ≤ st
  s1 : st ≤ 255
  x0 : 0 ≤ xmt
  x1 : xmt ≤ 18446744073709551615
  h0 : 0 ≤ sh
  h1 : sh ≤ 4294967295
  r0 : 0 ≤ rid
  r1 : rid ≤ 4294967295
  a0 : 0 ≤ a
  a1 : a ≤ 18446744073709551615
  b0 : 0 ≤ b
  b1 : b ≤ 18446744073709551615
theorem aP_ok (k : AOk lp st xmt sh rid a b) : (aP lp st xmt sh rid a b).Ok := by
  obtain ⟨_, _, _, _, _, _, _, _, _, _, _, _, _, _⟩ := k
  unfold aP
  constructor <;> (dsimp only; omega)
theorem aS_ok (k : AOk lp st xmt sh rid a b) (i0 : 0 ≤ id) (i1 : id ≤ 4294967295) (t0 : 0 ≤ t) (t1 : t ≤ 18446744073709551615) : (aS lp st xmt sh rid a b id t).Ok := by
  obtain ⟨_, _, _, _, _, _, _, _, _, _, _, _, _, _⟩ := k
  unfold aS
  constructor <;> (dsimp only; omega)
end
section
variable {S : Srv} {xmt took gave lie leap : Int} {l : List UInt8}
theorem rq_f {id A B : Int} : (rqP xmt id A B).p1 = 4 ∧ (rqP xmt id A B).p2 = 3 ∧ (rqP xmt id A B).p4 = 6 ∧ (rqP xmt id A B).p12 = xmt := by
  unfold rqP
  split <;> exact ⟨rfl, rfl, rfl, rfl⟩
theorem rq_s {id A B : Int} (h : id ≠ 0) : (rqP xmt id A B).s = true := by rw [rqP_sg h]; rfl
/-- A signed request, without a kiss. -/
theorem ans_sg (hid : S.kid ≠ 0) (q0 : 0 ≤ leap) (hs : sayB lie leap 0 took gave = true) : ansR S (rqP xmt S.kid S.ka S.kb) [] took gave lie leap [] = .ok (aS leap S.st xmt (shV S.rho) S.rid (stV (took + lie)) (stV (gave + lie)) S.kid (tagI S.ka S.kb (bodyP (aP leap S.st xmt (shV S.rho) S.rid (stV (took + lie)) (stV (gave + lie))) []))) := by
  have h3 : leap ≤ 3 := by
    simp only [sayB, decide_eq_true_eq] at hs
    omega
  obtain ⟨f1, f2, f4, f12⟩ := rq_f (xmt := xmt) (id := S.kid) (A := S.ka) (B := S.kb)
  have fs := rq_s (xmt := xmt) (A := S.ka) (B := S.kb) hid
  have hB : ansB S (rqP xmt S.kid S.ka S.kb) lie leap [] took gave = aP leap S.st xmt (shV S.rho) S.rid (stV (took + lie)) (stV (gave + lie)) := by
    unfold ansB aP
    rw [f1, f4, f12]
    rfl
  unfold ansR
  rw [if_neg (by rw [f2]; simp), if_neg (by rw [rqP_right hid]; simp), if_neg (by rw [List.length_nil, hs]; simp)]
  unfold ansQ
  rw [if_pos fs, hB]
  unfold signS
  rw [if_pos (by rw [aS_sg]; exact (aS_fit q0 h3 hid).2.2.1)]
  rfl
/-- A request that is not signed, with a kiss or none. -/
theorem ans_un (hs : sayB lie leap l.length took gave = true) : ansR S (rqP xmt 0 0 0) [] took gave lie leap l = .ok (aP (if l = [] then leap else 3) (if l = [] then S.st else 0) xmt (shV S.rho) (if l = [] then S.rid else codeV l) (stV (took + lie)) (stV (gave + lie))) := by
  unfold ansR
  have e : rqP xmt 0 0 0 = rq0 xmt := if_pos rfl
  rw [e, if_neg (by simp [rq0]), if_neg (by simp [rq0]), if_neg (by rw [hs]; simp)]
  rfl
/-- What cannot be said. -/
theorem ans_arg (hid : S.kid ≠ 0) (hs : sayB lie leap l.length took gave = false) : ansR S (rqP xmt S.kid S.ka S.kb) [] took gave lie leap l = .err 1 := by
  obtain ⟨f1, f2, f4, f12⟩ := rq_f (xmt := xmt) (id := S.kid) (A := S.ka) (B := S.kb)
  unfold ansR
  rw [if_neg (by rw [f2]; simp), if_neg (by rw [rqP_right hid]; simp), if_pos hs]
theorem ans_arg0 (hs : sayB lie leap l.length took gave = false) : ansR S (rqP xmt 0 0 0) [] took gave lie leap l = .err 1 := by
  unfold ansR
  have e : rqP xmt 0 0 0 = rq0 xmt := if_pos rfl
  rw [e, if_neg (by simp [rq0]), if_neg (by simp [rq0]), if_pos hs]
end
theorem same_refl (P : Pk) : sameP P P [] [] = true := by
  unfold sameP sameH
  simp
theorem stV_ne {ns : Int} (h0 : 1000000000 ≤ ns) (h1 : ns < 4294967296000000000) : stV ns ≠ 0 := by unfold stV; omega
theorem tmod_in {x c : Int} (hc : 0 < c) : -c < x.tmod c ∧ x.tmod c < c := ⟨Int.lt_tmod_of_pos x hc, Int.tmod_lt_of_pos x hc⟩
theorem len_put {P : Pk} (h : (putP P []).length ≤ 512) : (putP P []).length < 1000000000 := by omega
end Go.Proofs.YtdpbbagllhfjbaaDoorW.AI.G
namespace Go.Proofs.YtdpbbagllhfjbaaDoorW.AI.G
open Go Go.Proofs.YtdpbbagllhfjbaaDoorW.AI
set_option maxRecDepth 100000
set_option linter.unusedVariables false
theorem al28 (h : AHeap) : W CP 9 [] h = some (.bool true, h, []) := W_known (n := 100) (fun _ => rfl) (by kernel_rfl) h
end Go.Proofs.YtdpbbagllhfjbaaDoorW.AI.G
namespace Go.Proofs.YtdpbbagllhfjbaaDoorW.AI.G
open Go Go.Proofs.YtdpbbagllhfjbaaDoorW.AI Go.Proofs.YtdpbbagllhfjbaaDoorW.AI.Oct
set_option maxRecDepth 100000
set_option linter.unusedVariables false
set_option linter.unusedSimpArgs false
set_option linter.unusedSectionVars false
-- ------------------------------------------------------------------ codes
theorem by8_nat (a : UInt8) : by8 ((a.toNat : Nat) : Int) = a := by simp [by8]
theorem kissL_code (l : List UInt8) : kissL (codeV l) = [by8 (cb l 0), by8 (cb l 1), by8 (cb l 2), by8 (cb l 3)] := by
  have h0 := cb_in l 0
  have h1 := cb_in l 1
  have h2 := cb_in l 2
  have h3 := cb_in l 3
  unfold kissL codeV
  obtain ⟨a, ha⟩ : ∃ z, cb l 0 = z := ⟨_, rfl⟩
  obtain ⟨b, hb⟩ : ∃ z, cb l 1 = z := ⟨_, rfl⟩
  obtain ⟨c, hc⟩ : ∃ z, cb l 2 = z := ⟨_, rfl⟩
  obtain ⟨d, hd⟩ : ∃ z, cb l 3 = z := ⟨_, rfl⟩
  rw [ha] at h0 ⊢
  rw [hb] at h1 ⊢
  rw [hc] at h2 ⊢
  rw [hd] at h3 ⊢
  rw [show (((a * 256 + b) * 256 + c) * 256 + d) / 16777216 = a by omega, show (((a * 256 + b) * 256 + c) * 256 + d) / 65536 % 256 = b by omega, show (((a * 256 + b) * 256 + c) * 256 + d) / 256 % 256 = c by omega, show (((a * 256 + b) * 256 + c) * 256 + d) % 256 = d by omega]
theorem kiss_code {l : List UInt8} (hl : l.length ≤ 4) : kissV (codeV l) = trimz l := by
  unfold kissV
  rw [kissL_code]
  have z : by8 0 = 0 := rfl
  match l, hl with
  | [], _ => rfl
  | [a], _ =>
    have e : [by8 (cb [a] 0), by8 (cb [a] 1), by8 (cb [a] 2), by8 (cb [a] 3)] = (([a] ++ [0]) ++ [0]) ++ [0] := by
      show [by8 ((a.toNat : Nat) : Int), by8 0, by8 0, by8 0] = _
      rw [by8_nat, z]; rfl
    rw [e, trimz_zero, trimz_zero, trimz_zero]
  | [a, b], _ =>
    have e : [by8 (cb [a, b] 0), by8 (cb [a, b] 1), by8 (cb [a, b] 2), by8 (cb [a, b] 3)] = ([a, b] ++ [0]) ++ [0] := by
      show [by8 ((a.toNat : Nat) : Int), by8 ((b.toNat : Nat) : Int), by8 0, by8 0] = _
      rw [by8_nat, by8_nat, z]; rfl
    rw [e, trimz_zero, trimz_zero]
  | [a, b, c], _ =>
    have e : [by8 (cb [a, b, c] 0), by8 (cb [a, b, c] 1), by8 (cb [a, b, c] 2), by8 (cb [a, b, c] 3)] = [a, b, c] ++ [0] := by
      show [by8 ((a.toNat : Nat) : Int), by8 ((b.toNat : Nat) : Int), by8 ((c.toNat : Nat) : Int), by8 0] = _
      rw [by8_nat, by8_nat, by8_nat, z]; rfl
    rw [e, trimz_zero]
  | [a, b, c, d], _ =>
    have e : [by8 (cb [a, b, c, d] 0), by8 (cb [a, b, c, d] 1), by8 (cb [a, b, c, d] 2), by8 (cb [a, b, c, d] 3)] = [a, b, c, d] := by
      show [by8 ((a.toNat : Nat) : Int), by8 ((b.toNat : Nat) : Int), by8 ((c.toNat : Nat) : Int), by8 ((d.toNat : Nat) : Int)] = _
      rw [by8_nat, by8_nat, by8_nat, by8_nat]
    rw [e]
  | _ :: _ :: _ :: _ :: _ :: _, h => simp at h
theorem take_end {l : List UInt8} {m : Nat} {x : UInt8} (hx : l[m]? = some x) : l.take (m + 1) = l.take m ++ [x] := by
  rw [List.take_add_one, hx]; rfl
-- ------------------------------------------------------------------ requests as packets
def qS (xmt id t : Int) : Pk := ⟨0, 4, 3, 0, 6, 0, 0, 0, 0, 0, 0, 0, xmt, true, id, t⟩
section
variable {xmt id A B t : Int}
theorem rqP_q (h : id ≠ 0) : rqP xmt id A B = qS xmt id (tagI A B (bodyP (rq0 xmt) [])) := rqP_sg h
theorem qS_fit (h : id ≠ 0) : mayP (qS xmt id t) [] = true ∧ (putP (qS xmt id t) []).length ≤ 512 ∧ putE (qS xmt id t) [] = 0 ∧ putD (qS xmt id t) [] = putP (qS xmt id t) [] := rqs_fit (xmt := xmt) (t := t) h
theorem qS_ok (x0 : 0 ≤ xmt) (x1 : xmt ≤ 18446744073709551615) (i0 : 0 ≤ id) (i1 : id ≤ 4294967295) (t0 : 0 ≤ t) (t1 : t ≤ 18446744073709551615) : (qS xmt id t).Ok := sgP_ok (rq0_ok x0 x1) i0 i1 t0 t1
theorem qS_wrong (h : tagI A B (bodyP (rq0 xmt) []) ≠ t) : rightP (qS xmt id t) [] id A B = false := by
  unfold rightP
  have e : ¬ tagI A B (bodyP (qS xmt id t) []) = (qS xmt id t).p16 := h
  rw [decide_eq_false e]
  simp
theorem wrap1_ne {t : Int} (t0 : 0 ≤ t) (t1 : t ≤ 18446744073709551615) : t ≠ IntKind.u64.wrap (t + 1) := by
  rcases (by omega : t = 18446744073709551615 ∨ t + 1 ≤ 18446744073709551615) with rfl | h
  · decide
  · rw [wr_u64 _ (by omega) (by omega)]
    omega
theorem parse40 {P : Pk} (f : (putP P []).length ≤ 512) : parseP ((putP P []).take 40) = .err 4 := by
  have : ((putP P []).take 40).length = 40 := by
    rw [List.length_take]
    unfold putP bodyP
    rw [List.length_append, List.length_append, headP_len]
    omega
  unfold parseP
  rw [this, if_neg (by omega), if_pos (by omega)]
theorem put_40 {P : Pk} : 40 ≤ (putP P []).length := by
  unfold putP bodyP
  rw [List.length_append, List.length_append, headP_len]
  omega
theorem mn_cut {v : AV} {k : Nat} (h : Mn v) : Mn (cutX v k) := by
  intro b o n e
  cases v <;> simp only [cutX] <;> try (intro hh; cases hh)
  exact h _ _ _ _ rfl
end
section
variable {S : Srv} {xmt took gave lie leap id A B t : Int} {l : List UInt8} {P : Pk}
theorem ans_mac (h2 : P.p2 = 3) (hs : P.s = true) (hr : rightP P [] S.kid S.ka S.kb = false) : ansR S P [] took gave lie leap l = .err 21 := by
  unfold ansR
  rw [if_neg (by rw [h2]; simp), if_pos ⟨hs, hr⟩]
theorem ans_mode (h2 : P.p2 ≠ 3) : ansR S P [] took gave lie leap l = .err 22 := by
  unfold ansR
  rw [if_pos h2]
theorem ans_rt (h2 : P.p2 = 3) (hr : rightP P [] S.kid S.ka S.kb = true) (hs : sayB lie leap l.length took gave = true) : ansR S P [] took gave lie leap l = .ok (ansQ S P lie leap l took gave) := by
  unfold ansR
  rw [if_neg (by rw [h2]; simp), if_neg (by rw [hr]; simp), if_neg (by rw [hs]; simp)]
end
theorem tst_kiss {P : Pk} {x : AV} {h : AHeap} (ok : P.Ok) (hx : x.isCell = true) (hg : Good h) (ha : AtT h) (h2 : P.p2 = 4) (h3 : P.p3 = 0) : W CP 16 [.agg (P.l x)] h = some (.int .i64 23, h, []) := by
  rw [tst_q ok hx hg ha, decide_eq_true h2, decide_eq_true h3]
  rfl
end Go.Proofs.YtdpbbagllhfjbaaDoorW.AI.G
