import Derived.Test.YtdpbbagllhfjbaaDoorAIGstA
import Derived.Test.YtdpbbagllhfjbaaDoorAIGpktB
import Derived.Test.YtdpbbagllhfjbaaDoorAIGpktf1
import Derived.Test.YtdpbbagllhfjbaaDoorAIGpktl0
import Derived.Test.YtdpbbagllhfjbaaDoorAITools
namespace Go.Proofs.YtdpbbagllhfjbaaDoorW.AI.G
open Go Go.Proofs.YtdpbbagllhfjbaaDoorW.AI Go.Proofs.YtdpbbagllhfjbaaDoorW.AI.Oct
set_option maxRecDepth 100000
set_option linter.unusedSimpArgs false
set_option linter.unusedVariables false
set_option linter.unusedSectionVars false
-- ------------------------------------------------------------------ a server
structure Srv where
  st : Int
  rid : Int
  kid : Int
  ka : Int
  kb : Int
  rho : Int
structure Srv.Ok (S : Srv) : Prop where
  s1 : 1 ≤ S.st
  s2 : S.st ≤ 15
  r0 : 0 ≤ S.rid
  r1 : S.rid ≤ 4294967295
  k0 : 0 ≤ S.kid
  k1 : S.kid ≤ 4294967295
  o0 : 0 ≤ S.rho
  o1 : S.rho ≤ 16000000000
abbrev Srv.l (S : Srv) : List AV := [.int .u8 S.st, .int .u32 S.rid, .int .u32 S.kid, .int .u64 S.ka, .int .u64 S.kb, .int .i64 S.rho]
abbrev Srv.b (S : Srv) (n : Int) : List AV := [.int .u8 S.st, .int .u32 S.rid, .int .u32 S.kid, .int .u64 S.ka, .int .u64 S.kb, .int .i64 S.rho, .int .i64 n]
theorem snew_bad {S : Srv} (hb : S.st < 1 ∨ 15 < S.st ∨ S.rho < 0 ∨ 16000000000 < S.rho) (h : AHeap) : W CP 7 [.agg S.l] h = some (.tup [.nilp, .int .i64 1], h, []) := by
  refine W_val (m := M7) (fun _ => rfl) rfl rfl rfl ?_ h
  by_cases c1 : S.st < 1
  · simp (maxDischargeDepth := 9) -implicitDefEqProofs only [push_cast, simprocAttr, M7, nadd1, nadd2, nadd3, nadd4, nadd5, nadd6, nadd7, nadd8, nadd9, nadd10, nadd11, nadd12, Srv.l, c1]
  by_cases c2 : 15 < S.st
  · simp (maxDischargeDepth := 9) -implicitDefEqProofs only [push_cast, simprocAttr, M7, nadd1, nadd2, nadd3, nadd4, nadd5, nadd6, nadd7, nadd8, nadd9, nadd10, nadd11, nadd12, Srv.l, c1, c2]
  by_cases c3 : S.rho < 0
  · simp (maxDischargeDepth := 9) -implicitDefEqProofs only [push_cast, simprocAttr, M7, nadd1, nadd2, nadd3, nadd4, nadd5, nadd6, nadd7, nadd8, nadd9, nadd10, nadd11, nadd12, Srv.l, c1, c2, c3]
  have c4 : 16000000000 < S.rho := by omega
  simp (maxDischargeDepth := 9) -implicitDefEqProofs only [push_cast, simprocAttr, M7, nadd1, nadd2, nadd3, nadd4, nadd5, nadd6, nadd7, nadd8, nadd9, nadd10, nadd11, nadd12, Srv.l, c1, c2, c3, c4]
theorem snew_ok {S : Srv} (ok : S.Ok) (h : AHeap) : W CP 7 [.agg S.l] h = some (.tup [.ptr (h.length + 1) 0, .int .i64 0], h ++ [⟨.tip false, .vals S.l⟩, ⟨.tip false, .vals (S.b 0)⟩], []) := by
  have c1 : ¬ S.st < 1 := by have := ok.s1; omega
  have c2 : ¬ 15 < S.st := by have := ok.s2; omega
  have c3 : ¬ S.rho < 0 := by have := ok.o0; omega
  have c4 : ¬ 16000000000 < S.rho := by have := ok.o1; omega
  have hb : ∀ h : AHeap, xbody (W CP) M7 [.agg S.l] h = some (.tup [.ptr (h.length + 1) 0, .int .i64 0], h ++ [⟨.tip false, .vals S.l⟩, ⟨.tip false, .vals (S.b 0)⟩], []) := by
    intro h
    simp (maxDischargeDepth := 9) -implicitDefEqProofs only [push_cast, simprocAttr, M7, nadd1, nadd2, nadd3, nadd4, nadd5, nadd6, nadd7, nadd8, nadd9, nadd10, nadd11, nadd12, Srv.l, Srv.b, ABlk.new, c1, c2, c3, c4]
    try rfl
  rw [W_made (m := M7) rfl rfl rfl (hb _) (by simp [AV.lt, AV.lts]) (hb h)]
  have : M7.trim = true := rfl
  rw [this, if_pos rfl, trim_addr (by simp [AV.lt, AV.lts])]
section
variable {S : Srv} {h : AHeap} {p : Nat} {n : Int}
theorem snone_c (hg : Good h) (hp : h[p]? = some ⟨.tip false, .vals (S.b n)⟩) (hs : 1 ≤ S.st) : W CP 25 [.ptr p 0] h = some (.bool false, h, []) := by
  have lp := (List.getElem?_eq_some_iff.1 hp).1
  have c : ¬ S.st = 0 := by omega
  refine W_quiet0 (m := M25) rfl rfl (by simp [AV.lts, AV.lt]) rfl rfl hg ?_
  simp only [Srv.b] at hp
  simp (maxDischargeDepth := 9) -implicitDefEqProofs only [push_cast, simprocAttr, M25, nadd1, nadd2, nadd3, nadd4, nadd5, nadd6, nadd7, nadd8, nadd9, nadd10, nadd11, nadd12, hp, lp, c]
theorem served_c (hg : Good h) (hp : h[p]? = some ⟨.tip false, .vals (S.b n)⟩) (hs : 1 ≤ S.st) : W CP 12 [.ptr p 0] h = some (.int .i64 n, h, []) := by
  have lp := (List.getElem?_eq_some_iff.1 hp).1
  have eN := snone_c hg hp hs
  refine W_quiet0 (m := M12) rfl rfl (by simp [AV.lts, AV.lt]) rfl rfl hg ?_
  simp only [Srv.b] at hp
  simp (maxDischargeDepth := 9) -implicitDefEqProofs only [push_cast, simprocAttr, M12, nadd1, nadd2, nadd3, nadd4, nadd5, nadd6, nadd7, nadd8, nadd9, nadd10, nadd11, nadd12, hp, lp, eN]
end
end Go.Proofs.YtdpbbagllhfjbaaDoorW.AI.G
namespace Go.Proofs.YtdpbbagllhfjbaaDoorW.AI.G
open Go Go.Proofs.YtdpbbagllhfjbaaDoorW.AI Go.Proofs.YtdpbbagllhfjbaaDoorW.AI.Oct
set_option maxRecDepth 100000
set_option linter.unusedSimpArgs false
set_option linter.unusedVariables false
set_option linter.unusedSectionVars false
-- ------------------------------------------------------------------ what is answered
/-- The packet before it is signed. -/
def ansB (S : Srv) (P : Pk) (lie leap : Int) (l : List UInt8) (took gave : Int) : Pk :=
  ⟨if l = [] then leap else 3, P.p1, 4, if l = [] then S.st else 0, P.p4, -20, 0, shV S.rho, if l = [] then S.rid else codeV l, stV (took + lie), P.p12, stV (took + lie), stV (gave + lie), false, 0, 0⟩
def ansQ (S : Srv) (P : Pk) (lie leap : Int) (l : List UInt8) (took gave : Int) : Pk := if P.s = true then signS (ansB S P lie leap l took gave) [] S.kid S.ka S.kb else ansB S P lie leap l took gave
inductive Ans where
  | err (e : Int)
  | ok (Q : Pk)
def ansR (S : Srv) (P : Pk) (F : List (Int × List Int)) (took gave lie leap : Int) (l : List UInt8) : Ans :=
  if ¬ P.p2 = 3 then .err 22 else if P.s = true ∧ rightP P F S.kid S.ka S.kb = false then .err 21 else if sayB lie leap l.length took gave = false then .err 1 else .ok (ansQ S P lie leap l took gave)
def ansP (S : Srv) (D : List Int) (took gave lie leap : Int) (l : List UInt8) : Ans := match parseP D with
  | .err e => .err e
  | .ok P F => ansR S P F took gave lie leap l
def AnsPost (g : AHeap) (S : Srv) (p : Nat) (n : Int) (R : Ans) (r : AV × AHeap × List Nat) : Prop := match R with
  | .err e => Keeps g r.2.1 none ∧ r.2.2 = [] ∧ r.1 = .tup [.nils, .int .i64 e]
  | .ok Q => ∃ v, r.1 = .tup [v, .int .i64 0] ∧ BV r.2.1 v (putP Q []) ∧ Mn v ∧ Keeps g r.2.1 (some p) ∧ r.2.1[p]? = some ⟨.tip false, .vals (S.b (n + 1))⟩ ∧ r.2.2 = [p]
theorem parseP_ne {D : List Int} {z : Int} (h : parseP D = .err z) : z ≠ 0 := by
  unfold parseP at h
  split at h
  · cases h; decide
  split at h
  · cases h; decide
  split at h
  · split at h
    · cases hp : parseX 9 [] (D.drop 48) with
      | err y => rw [hp] at h; cases h; exact parseX_ne _ _ _ _ hp
      | ok F T =>
        rw [hp] at h
        simp only [parseQ] at h
        split at h
        · cases h
        · split at h
          · cases h; decide
          · cases h
    · cases h; decide
  · cases h; decide
theorem kN {g h : AHeap} (k : Keeps g h none) : ∀ (q : Nat) (z : ABlk), g[q]? = some z → h[q]? = some z := fun q z e => k.1 q z e (by simp) (by simp)
theorem kT {g h h' : AHeap} (k : Keeps g h none) (k2 : Keeps h h' none) : Keeps g h' none := ⟨fun q z e _ _ => kN k2 q z (kN k q z e), Nat.le_trans k.2.1 k2.2.1, fun hg => k2.2.2 (k.2.2 hg)⟩
theorem kG {h : AHeap} {js : AHeap} (hg : Good (h ++ js)) : Keeps h (h ++ js) none := ⟨fun q x e _ _ => by rw [List.getElem?_append_left (List.getElem?_eq_some_iff.1 e).1]; exact e, by simp, fun _ => hg⟩
theorem sv_app {h : AHeap} {x : AV} {D : List Int} (s : SV h x D) (js : AHeap) : SV (h ++ js) x D := s.imp id fun s => s.app js
theorem fit_put {Q : Pk} (h0 : mayH Q.p0 Q.p1 Q.p2 = true) (hS : mayS Q = true) (hT : mayT Q = true) : mayP Q [] = true ∧ (putP Q []).length ≤ 512 ∧ putE Q [] = 0 ∧ putD Q [] = putP Q [] := by
  have hm : mayP Q [] = true := by
    unfold mayP
    rw [h0, hS, hT]
    rfl
  have hl : (putP Q []).length ≤ 512 := by
    unfold putP bodyP
    rw [List.length_append, List.length_append, headP_len]
    have : (putX []).length = 0 := rfl
    split
    · rw [signB_len]; omega
    · simp; omega
  exact ⟨hm, hl, putE_0 hm hl, by unfold putD; rw [if_pos ⟨hm, hl⟩]⟩
theorem bv_cell {h : AHeap} {v : AV} {D : List Int} (b : BV h v D) : v.isCell = true := by
  obtain ⟨_, ⟨rfl, _⟩ | ⟨b, o, c, st, l, mn, _, _, _, _, ⟨rfl, _⟩ | rfl⟩⟩ := b <;> rfl
theorem kSet {g H : AHeap} {p : Nat} {z : ABlk} (k : Keeps g H none) (hz : notOld z = true) : Keeps g (H.set p z) (some p) :=
  ⟨fun q x e _ h2 => by rw [List.getElem?_set_ne (fun e => h2 (by rw [e]))]; exact kN k q x e, by rw [List.length_set]; exact k.2.1, fun hg => good_set (k.2.2 hg) hz⟩
theorem at0_keep {g H : AHeap} (a : At0 g) (k : Keeps g H none) : At0 H := ⟨kN k _ _ a.1, by have := k.2.1; have := a.2; omega⟩
theorem str_e : ((sb []).toList == (⟨#[]⟩ : ByteArray).toList) = true := by show ((sb []).toList == (sb []).toList) = true; rw [sb_toList]; rfl
theorem str_n {l : List UInt8} (h : ¬ l = []) : ((sb l).toList == (⟨#[]⟩ : ByteArray).toList) = false := by
  have e : (⟨#[]⟩ : ByteArray).toList = [] := by
    have := sb_toList []
    exact this
  rw [sb_toList, e]
  cases l with
  | nil => exact absurd rfl h
  | cons a l => rfl
set_option maxHeartbeats 16000000 in
theorem ans_key {g : AHeap} {S : Srv} (ok : S.Ok) {p : Nat} {n : Int} {b : AV} {D : List Int} {took gave lie leap : Int} {l : List UInt8} (hg : Good g) (ha : At0 g) (hp : g[p]? = some ⟨.tip false, .vals (S.b n)⟩) (n0 : 0 ≤ n) (n1 : n ≤ 1000000) (hb : SV g b D) (hD : D.length < 1000000000)
    (l0 : -9223372036854775808 ≤ lie) (l1 : lie ≤ 9223372036854775807) (t0 : -9223372036854775808 ≤ took) (t1 : took ≤ 9223372036854775807) (g0 : -9223372036854775808 ≤ gave) (g1 : gave ≤ 9223372036854775807) (q0 : 0 ≤ leap) (q1 : leap ≤ 255) :
    Wp (xbody (W CP) M10 [.ptr p 0, b, .int .i64 took, .int .i64 gave, .agg [.int .i64 lie, .int .u8 leap, .str (sb l)]] g) (AnsPost g S p n (ansP S D took gave lie leap l)) := by
  have nb : noAny (some b) = some b := na_slen hb.bv.1.len
  have lp := (List.getElem?_eq_some_iff.1 hp).1
  obtain ⟨H1, hH1⟩ : ∃ H, g ++ [(⟨.tip false, .vals [.int .i64 lie, .int .u8 leap, .str (sb l)]⟩ : ABlk)] = H := ⟨_, rfl⟩
  have hG1 : Good H1 := by rw [← hH1]; exact good_app hg rfl
  have k1 : Keeps g H1 none := by rw [← hH1]; exact Keeps.app g [⟨.tip false, .vals [.int .i64 lie, .int .u8 leap, .str (sb l)]⟩] none rfl
  have hp1 := kN k1 _ _ hp
  have lp1 := (List.getElem?_eq_some_iff.1 hp1).1
  have eN := snone_c hG1 hp1 ok.s1
  have ha1 : At0 H1 := by rw [← hH1]; exact ha.app _
  have hb1 : SV H1 b D := by rw [← hH1]; exact sv_app hb _
  have par := pparse_c hG1 ha1 hb1 hD
  unfold ansP
  cases hR : parseP D with
  | err e =>
    rw [hR] at par
    have eP : W CP 15 [b] H1 = some (.tup [.agg (pk0.l .nils), .int .i64 e], H1, []) := par
    have e0 : ¬ e = 0 := parseP_ne hR
    simp only [pk0, Pk.l] at eP
    have lo1 : ¬ H1.length < g.length := by have := k1.2.1; omega
    simp (maxDischargeDepth := 9) -implicitDefEqProofs only [push_cast, simprocAttr, M10, nadd1, nadd2, nadd3, nadd4, nadd5, nadd6, nadd7, nadd8, nadd9, nadd10, nadd11, nadd12, ABlk.new, nb, hH1, eN, eP, e0, lo1]
    exact ⟨kT k1 (Keeps.app _ _ _ rfl), rfl, rfl⟩
  | ok P F =>
    show Wp _ (AnsPost g S p n (ansR S P F took gave lie leap l))
    rw [hR] at par
    obtain ⟨xv, lx, js, eP, xo, hG2⟩ := par
    obtain ⟨H2, hH2⟩ : ∃ H, H1 ++ js = H := ⟨_, rfl⟩
    have k2 : Keeps H1 H2 none := by rw [← hH2]; exact kG hG2
    rw [hH2] at eP xo hG2
    obtain ⟨okP, hF8, hFm⟩ := parseP_fine hb.bv.1.1 hR
    obtain ⟨mP, _, _⟩ := put_parseP hb.bv.1.1 hR
    have hFl : ∀ z ∈ F, z.2.length < 1000000000 := fun z hz => by
      have := hFm z hz
      unfold mayN at this
      simp only [Bool.and_eq_true, decide_eq_true_eq] at this
      omega
    obtain ⟨p0, p1, p2, p3, p4, p5, p6, p7, p8, p9, p10, p11, p12, s, p15, p16⟩ := P
    have kall := kT k1 k2
    have lo1 : ¬ H2.length < g.length := by have := kall.2.1; omega
    obtain ⟨H3, hH3⟩ : ∃ H, H2 ++ [(⟨.tip false, .vals (Pk.l ⟨p0, p1, p2, p3, p4, p5, p6, p7, p8, p9, p10, p11, p12, s, p15, p16⟩ xv)⟩ : ABlk)] = H := ⟨_, rfl⟩
    have k3 : Keeps H2 H3 none := by rw [← hH3]; exact Keeps.app _ _ _ rfl
    have hG3 := k3.2.2 hG2
    have b3 : H3[H2.length]? = some ⟨.tip false, .vals (Pk.l ⟨p0, p1, p2, p3, p4, p5, p6, p7, p8, p9, p10, p11, p12, s, p15, p16⟩ xv)⟩ := by rw [← hH3, List.getElem?_append_right (Nat.le_refl _)]; simp
    have l3 := (List.getElem?_eq_some_iff.1 b3).1
    have k13 := kT k2 k3
    have hp3 := kN k13 _ _ hp1
    have lp3 := (List.getElem?_eq_some_iff.1 hp3).1
    have hs1 : H1[g.length]? = some ⟨.tip false, .vals [.int .i64 lie, .int .u8 leap, .str (sb l)]⟩ := by rw [← hH1, List.getElem?_append_right (Nat.le_refl _)]; simp
    have hs3 := kN k13 _ _ hs1
    have ls3 := (List.getElem?_eq_some_iff.1 hs3).1
    have ha3 : At0 H3 := by
      have : ∃ js, H3 = H1 ++ js := k13.behind
      obtain ⟨js, hj⟩ := this
      rw [hj]; exact ha1.app js
    have xo3 : ExtAt H3 xv F := by rw [← hH3]; exact (xo.app _).ext
    have hxc : xv.isCell = true := by rcases xo.gx.2 with ⟨e0, _⟩ | ⟨pp, mn, oo, e0, _⟩ <;> subst e0 <;> rfl
    have nx : noAny (some xv) = some xv := na_slen xo3.len
    have eR := pright_c (id := S.kid) (A := S.ka) (B := S.kb) okP (by omega) hFl hxc hG3 ha3 xo3
    obtain ⟨rb, hrb⟩ : ∃ r, rightP ⟨p0, p1, p2, p3, p4, p5, p6, p7, p8, p9, p10, p11, p12, s, p15, p16⟩ F S.kid S.ka S.kb = r := ⟨_, rfl⟩
    rw [hrb] at eR
    have eSay := say_c (lie := lie) (leap := leap) (took := took) (gave := gave) (s := sb l) l0 l1 t0 t1 g0 g1 H3
    rw [sb_size] at eSay
    have kgood : Keeps g H3 none := kT kall k3
    simp only [Pk.l, Srv.b] at eP hH3 b3 hp3 eR
    by_cases c1 : p2 = 3
    case neg =>
      have eA : ansR S ⟨p0, p1, p2, p3, p4, p5, p6, p7, p8, p9, p10, p11, p12, s, p15, p16⟩ F took gave lie leap l = .err 22 := by unfold ansR; exact if_pos c1
      rw [eA]
      simp (maxDischargeDepth := 9) -implicitDefEqProofs only [push_cast, simprocAttr, M10, nadd1, nadd2, nadd3, nadd4, nadd5, nadd6, nadd7, nadd8, nadd9, nadd10, nadd11, nadd12, ABlk.new, nb, hH1, eN, eP, nx, hxc, hH3, b3, l3, hs3, ls3, hp3, lp3, lo1, c1]
      exact ⟨kgood, rfl, rfl⟩
    subst c1
    by_cases c2 : s = true ∧ rb = false
    · obtain ⟨rfl, rfl⟩ := c2
      have eA : ansR S ⟨p0, p1, 3, p3, p4, p5, p6, p7, p8, p9, p10, p11, p12, true, p15, p16⟩ F took gave lie leap l = .err 21 := by unfold ansR; rw [if_neg (by simp), hrb, if_pos ⟨rfl, rfl⟩]
      rw [eA]
      simp (maxDischargeDepth := 9) -implicitDefEqProofs only [push_cast, simprocAttr, M10, nadd1, nadd2, nadd3, nadd4, nadd5, nadd6, nadd7, nadd8, nadd9, nadd10, nadd11, nadd12, ABlk.new, nb, hH1, eN, eP, nx, hxc, hH3, b3, l3, hs3, ls3, hp3, lp3, lo1, eR]
      exact ⟨kgood, rfl, rfl⟩
    obtain ⟨sb', hsb⟩ : ∃ z, sayB lie leap l.length took gave = z := ⟨_, rfl⟩
    rw [hsb] at eSay
    cases sb' with
    | false =>
      have eA : ansR S ⟨p0, p1, 3, p3, p4, p5, p6, p7, p8, p9, p10, p11, p12, s, p15, p16⟩ F took gave lie leap l = .err 1 := by unfold ansR; rw [if_neg (by simp), hrb, if_neg c2, if_pos hsb]
      rw [eA]
      cases s with
      | false =>
        simp (maxDischargeDepth := 9) -implicitDefEqProofs only [push_cast, simprocAttr, M10, nadd1, nadd2, nadd3, nadd4, nadd5, nadd6, nadd7, nadd8, nadd9, nadd10, nadd11, nadd12, ABlk.new, nb, hH1, eN, eP, nx, hxc, hH3, b3, l3, hs3, ls3, hp3, lp3, lo1, eSay]
        exact ⟨kgood, rfl, rfl⟩
      | true =>
        obtain rfl : rb = true := by cases rb with
          | true => rfl
          | false => exact absurd ⟨rfl, rfl⟩ c2
        simp (maxDischargeDepth := 9) -implicitDefEqProofs only [push_cast, simprocAttr, M10, nadd1, nadd2, nadd3, nadd4, nadd5, nadd6, nadd7, nadd8, nadd9, nadd10, nadd11, nadd12, ABlk.new, nb, hH1, eN, eP, nx, hxc, hH3, b3, l3, hs3, ls3, hp3, lp3, lo1, eR, eSay]
        exact ⟨kgood, rfl, rfl⟩
    | true =>
      have eA : ansR S ⟨p0, p1, 3, p3, p4, p5, p6, p7, p8, p9, p10, p11, p12, s, p15, p16⟩ F took gave lie leap l = .ok (ansQ S ⟨p0, p1, 3, p3, p4, p5, p6, p7, p8, p9, p10, p11, p12, s, p15, p16⟩ lie leap l took gave) := by unfold ansR; rw [if_neg (by simp), hrb, if_neg c2, if_neg (by rw [hsb]; decide)]
      rw [eA]
      have bnd := hsb
      simp only [sayB, decide_eq_true_eq] at bnd
      obtain ⟨r1, r2, r3, r4, r5, r6, r7⟩ := bnd
      have w1 : IntKind.i64.wrap (took + lie) = took + lie := wr_i64 _ (by omega) (by omega)
      have w2 : IntKind.i64.wrap (gave + lie) = gave + lie := wr_i64 _ (by omega) (by omega)
      obtain ⟨tl, htl⟩ : ∃ z, took + lie = z := ⟨_, rfl⟩
      obtain ⟨gl', hgl⟩ : ∃ z, gave + lie = z := ⟨_, rfl⟩
      have w1' : IntKind.i64.wrap (took + lie) = tl := w1.trans htl
      have w2' : IntKind.i64.wrap (gave + lie) = gl' := w2.trans hgl
      have eT := fun g => stamp_c (ns := tl) (by omega) (by omega) g
      have eG := fun g => stamp_c (ns := gl') (by omega) (by omega) g
      have eH := fun g => short_c (ns := S.rho) ok.o0 ok.o1 g
      obtain ⟨hd, hhd⟩ : ∃ z, stV tl = z := ⟨_, rfl⟩
      obtain ⟨xm, hxm⟩ : ∃ z, stV gl' = z := ⟨_, rfl⟩
      obtain ⟨sh, hsh⟩ : ∃ z, shV S.rho = z := ⟨_, rfl⟩
      have hd0 := stV_in (ns := tl) (by omega)
      have xm0 := stV_in (ns := gl') (by omega)
      have sh0 := shV_in ok.o1
      rw [hhd] at eT hd0
      rw [hxm] at eG xm0
      rw [hsh] at eH sh0
      have np3 : ¬ H3.length ≤ p := by omega
      have ns3 : ¬ H3.length ≤ g.length := by omega
      have nq3 : ¬ H3.length ≤ H2.length := by omega
      by_cases cl : l = []
      · subst cl
        cases s with
        | false =>
          have mH : mayH leap p1 4 = true := by
            have := mP
            unfold mayP mayH at this
            simp only [Bool.and_eq_true, decide_eq_true_eq] at this
            unfold mayH
            simp only [Bool.and_eq_true, decide_eq_true_eq]
            omega
          have estr := str_e
          have okB : Pk.Ok ⟨leap, p1, 4, S.st, p4, -20, 0, sh, S.rid, hd, p12, hd, xm, false, 0, 0⟩ := by
            have z1 : 0 ≤ p1 := okP.a1
            have z2 : p1 ≤ 255 := okP.b1
            have z3 : -128 ≤ p4 := okP.a4
            have z4 : p4 ≤ 127 := okP.b4
            have z5 : 0 ≤ p12 := okP.a12
            have z6 : p12 ≤ 18446744073709551615 := okP.b12
            have z7 := ok.s1
            have z8 := ok.s2
            have z9 := ok.r0
            have z10 := ok.r1
            constructor <;> (dsimp only; omega)
          obtain ⟨H4, hH4⟩ : ∃ H, H3 ++ [(⟨.tip false, .vals (Pk.l ⟨leap, p1, 4, S.st, p4, -20, 0, sh, S.rid, hd, p12, hd, xm, false, 0, 0⟩ .nils)⟩ : ABlk)] = H := ⟨_, rfl⟩
          have k4 : Keeps H3 H4 none := by rw [← hH4]; exact Keeps.app _ _ _ rfl
          have b4 : H4[H3.length]? = some ⟨.tip false, .vals (Pk.l ⟨leap, p1, 4, S.st, p4, -20, 0, sh, S.rid, hd, p12, hd, xm, false, 0, 0⟩ .nils)⟩ := by rw [← hH4, List.getElem?_append_right (Nat.le_refl _)]; simp
          have l4 := (List.getElem?_eq_some_iff.1 b4).1
          have hp4 := kN k4 _ _ hp3
          have b34 := kN k4 _ _ b3
          have hs4 := kN k4 _ _ hs3
          have ls4 := (List.getElem?_eq_some_iff.1 hs4).1
          have lp4 := (List.getElem?_eq_some_iff.1 hp4).1
          have l34 := (List.getElem?_eq_some_iff.1 b34).1
          have lo3 : ¬ H3.length < g.length := by omega
          have hG4 := k4.2.2 hG3
          have ha4 : At0 H4 := by rw [← hH4]; exact ha3.app _
          obtain ⟨f1, f2, f3, f4⟩ := fit_put (Q := ⟨leap, p1, 4, S.st, p4, -20, 0, sh, S.rid, hd, p12, hd, xm, false, 0, 0⟩) mH rfl rfl
          obtain ⟨v, js2, eU, tv, mnv, hGu⟩ := pput_ok (P := ⟨leap, p1, 4, S.st, p4, -20, 0, sh, S.rid, hd, p12, hd, xm, false, 0, 0⟩) (F := []) okB f1 f2 (x := .nils) rfl hG4 ha4 (ExtAt.nil _)
          have bv := tv.bv (putP_byt (ext_byt (ExtAt.nil CP.gl)).1)
          obtain ⟨H7, hH7⟩ : ∃ H, H4 ++ js2 = H := ⟨_, rfl⟩
          have k7 : Keeps H4 H7 none := by rw [← hH7]; exact kG hGu
          rw [hH7] at eU bv hGu
          have kf := kT (kT kgood k4) k7
          have hp7 := kN kf _ _ hp
          have lp7 := (List.getElem?_eq_some_iff.1 hp7).1
          have nv : noAny (some v) = some v := na_slen bv.len
          have hvc : v.isCell = true := bv_cell bv
          have w5 : IntKind.i64.wrap (n + 1) = n + 1 := wr_i64 _ (by omega) (by omega)
          have hQ : ansQ S ⟨p0, p1, 3, p3, p4, p5, p6, p7, p8, p9, p10, p11, p12, false, p15, p16⟩ lie leap [] took gave = ⟨leap, p1, 4, S.st, p4, -20, 0, sh, S.rid, hd, p12, hd, xm, false, 0, 0⟩ := by
            unfold ansQ ansB
            rw [if_neg (by simp), if_pos rfl, if_pos rfl, if_pos rfl, htl, hgl, hhd, hxm, hsh]
          rw [hQ]
          simp only [Pk.l] at eU hH4 b4
          obtain ⟨H8, hH8⟩ : ∃ H, H7.set p ⟨.tip false, .vals (S.b (n + 1))⟩ = H := ⟨_, rfl⟩
          have kF : Keeps g H8 (some p) := by rw [← hH8]; exact kSet kf rfl
          have b8 : H8[p]? = some ⟨.tip false, .vals (S.b (n + 1))⟩ := by rw [← hH8]; simp [lp7]
          have bv8 : BV H8 v (putP ⟨leap, p1, 4, S.st, p4, -20, 0, sh, S.rid, hd, p12, hd, xm, false, 0, 0⟩ []) := by rw [← hH8]; exact bv.set_vals hp7
          simp only [Srv.b] at hH8 hp7 
          simp (maxDischargeDepth := 9) -implicitDefEqProofs only [push_cast, simprocAttr, M10, nadd1, nadd2, nadd3, nadd4, nadd5, nadd6, nadd7, nadd8, nadd9, nadd10, nadd11, nadd12, ABlk.new, nb, hH1, eN, eP, nx, hxc, hH3, b3, l3, hs3, ls3, hp3, lp3, lo1, eSay, w1', w2', eT, eG, eH, np3, ns3, nq3, decide_false, Bool.not_false, Bool.and_true, estr, hs4, ls4, hH4, b4, l4, hp4, b34, lp4, l34, lo3, eU, hp7, lp7, lp, nv, hvc, w5, hH8]
          exact ⟨v, rfl, bv8, mnv, kF, b8, rfl⟩
        | true =>
          obtain rfl : rb = true := by cases rb with
            | true => rfl
            | false => exact absurd ⟨rfl, rfl⟩ c2
          have mH : mayH leap p1 4 = true := by
            have := mP
            unfold mayP mayH at this
            simp only [Bool.and_eq_true, decide_eq_true_eq] at this
            unfold mayH
            simp only [Bool.and_eq_true, decide_eq_true_eq]
            omega
          have estr := str_e
          have okB : Pk.Ok ⟨leap, p1, 4, S.st, p4, -20, 0, sh, S.rid, hd, p12, hd, xm, false, 0, 0⟩ := by
            have z1 : 0 ≤ p1 := okP.a1
            have z2 : p1 ≤ 255 := okP.b1
            have z3 : -128 ≤ p4 := okP.a4
            have z4 : p4 ≤ 127 := okP.b4
            have z5 : 0 ≤ p12 := okP.a12
            have z6 : p12 ≤ 18446744073709551615 := okP.b12
            have z7 := ok.s1
            have z8 := ok.s2
            have z9 := ok.r0
            have z10 := ok.r1
            constructor <;> (dsimp only; omega)
          obtain ⟨H4, hH4⟩ : ∃ H, H3 ++ [(⟨.tip false, .vals (Pk.l ⟨leap, p1, 4, S.st, p4, -20, 0, sh, S.rid, hd, p12, hd, xm, false, 0, 0⟩ .nils)⟩ : ABlk)] = H := ⟨_, rfl⟩
          have k4 : Keeps H3 H4 none := by rw [← hH4]; exact Keeps.app _ _ _ rfl
          have b4 : H4[H3.length]? = some ⟨.tip false, .vals (Pk.l ⟨leap, p1, 4, S.st, p4, -20, 0, sh, S.rid, hd, p12, hd, xm, false, 0, 0⟩ .nils)⟩ := by rw [← hH4, List.getElem?_append_right (Nat.le_refl _)]; simp
          have l4 := (List.getElem?_eq_some_iff.1 b4).1
          have hp4 := kN k4 _ _ hp3
          have b34 := kN k4 _ _ b3
          have hs4 := kN k4 _ _ hs3
          have ls4 := (List.getElem?_eq_some_iff.1 hs4).1
          have lp4 := (List.getElem?_eq_some_iff.1 hp4).1
          have l34 := (List.getElem?_eq_some_iff.1 b34).1
          have lo3 : ¬ H3.length < g.length := by omega
          have hG4 := k4.2.2 hG3
          have ha4 : At0 H4 := by rw [← hH4]; exact ha3.app _
          have kid0 : ¬ S.kid = 0 ∧ p15 = S.kid := by
            have h1 := hrb
            unfold rightP at h1
            simp only [Bool.and_eq_true, decide_eq_true_eq] at h1
            have h2 := mP
            unfold mayP mayS at h2
            simp only [Bool.and_eq_true, beq_iff_eq] at h2
            obtain ⟨_, _, _, h3, _⟩ := h1
            obtain ⟨_, _, h4, _⟩ := h2
            have h5 : ¬ p15 = 0 := by simpa using h4
            exact ⟨by rw [← h3]; exact h5, h3⟩
          have mS0 : mayS (sgP ⟨leap, p1, 4, S.st, p4, -20, 0, sh, S.rid, hd, p12, hd, xm, false, 0, 0⟩ S.kid 0) = true := by
            unfold mayS sgP
            simp [kid0.1]
          obtain ⟨_, _, fe, _⟩ := fit_put (Q := sgP ⟨leap, p1, 4, S.st, p4, -20, 0, sh, S.rid, hd, p12, hd, xm, false, 0, 0⟩ S.kid 0) mH mS0 rfl
          have eS := sign_u (P := ⟨leap, p1, 4, S.st, p4, -20, 0, sh, S.rid, hd, p12, hd, xm, false, 0, 0⟩) (x := .nils) (F := []) (id := S.kid) (A := S.ka) (B := S.kb) okB ok.k0 ok.k1 (by simp) (by simp) rfl hG4 ha4 (ExtAt.nil _) rfl
          obtain ⟨tg, htg⟩ : ∃ z, tagI S.ka S.kb (bodyP ⟨leap, p1, 4, S.st, p4, -20, 0, sh, S.rid, hd, p12, hd, xm, false, 0, 0⟩ []) = z := ⟨_, rfl⟩
          have hSg : signS ⟨leap, p1, 4, S.st, p4, -20, 0, sh, S.rid, hd, p12, hd, xm, false, 0, 0⟩ [] S.kid S.ka S.kb = ⟨leap, p1, 4, S.st, p4, -20, 0, sh, S.rid, hd, p12, hd, xm, true, S.kid, tg⟩ := by unfold signS; rw [if_pos fe, htg]; rfl
          have hSx : signX ⟨leap, p1, 4, S.st, p4, -20, 0, sh, S.rid, hd, p12, hd, xm, false, 0, 0⟩ [] S.kid .nils = .nils := by unfold signX; rw [if_pos fe]
          have okS := signS_ok (F := []) (A := S.ka) (B := S.kb) okB ok.k0 ok.k1
          rw [hSg] at okS
          rw [hSg, hSx, fe] at eS
          have mS2 : mayS ⟨leap, p1, 4, S.st, p4, -20, 0, sh, S.rid, hd, p12, hd, xm, true, S.kid, tg⟩ = true := by
            unfold mayS
            simp [kid0.1]
          obtain ⟨H5, hH5⟩ : ∃ H, H4.set H3.length ⟨.tip false, .vals (Pk.l ⟨leap, p1, 4, S.st, p4, -20, 0, sh, S.rid, hd, p12, hd, xm, true, S.kid, tg⟩ .nils)⟩ = H := ⟨_, rfl⟩
          have b5 : H5[H3.length]? = some ⟨.tip false, .vals (Pk.l ⟨leap, p1, 4, S.st, p4, -20, 0, sh, S.rid, hd, p12, hd, xm, true, S.kid, tg⟩ .nils)⟩ := by rw [← hH5]; simp [l4]
          have l5 := (List.getElem?_eq_some_iff.1 b5).1
          have k5 : Keeps g H5 none := by rw [← hH5]; exact keeps_set (kT kgood k4) (by omega) rfl
          have hG5 := k5.2.2 hg
          have hp5 := kN k5 _ _ hp
          have lp5 := (List.getElem?_eq_some_iff.1 hp5).1
          have ha5 : At0 H5 := at0_keep ha k5
          simp only [Pk.l] at eS hH5 b5
          obtain ⟨f1, f2, f3, f4⟩ := fit_put (Q := ⟨leap, p1, 4, S.st, p4, -20, 0, sh, S.rid, hd, p12, hd, xm, true, S.kid, tg⟩) mH mS2 rfl
          obtain ⟨v, js2, eU, tv, mnv, hGu⟩ := pput_ok (P := ⟨leap, p1, 4, S.st, p4, -20, 0, sh, S.rid, hd, p12, hd, xm, true, S.kid, tg⟩) (F := []) okS f1 f2 (x := .nils) rfl hG5 ha5 (ExtAt.nil _)
          have bv := tv.bv (putP_byt (ext_byt (ExtAt.nil CP.gl)).1)
          obtain ⟨H7, hH7⟩ : ∃ H, H5 ++ js2 = H := ⟨_, rfl⟩
          have k7 : Keeps H5 H7 none := by rw [← hH7]; exact kG hGu
          rw [hH7] at eU bv hGu
          have kf := kT (k5) k7
          have hp7 := kN kf _ _ hp
          have lp7 := (List.getElem?_eq_some_iff.1 hp7).1
          have nv : noAny (some v) = some v := na_slen bv.len
          have hvc : v.isCell = true := bv_cell bv
          have w5 : IntKind.i64.wrap (n + 1) = n + 1 := wr_i64 _ (by omega) (by omega)
          have hQ : ansQ S ⟨p0, p1, 3, p3, p4, p5, p6, p7, p8, p9, p10, p11, p12, true, p15, p16⟩ lie leap [] took gave = ⟨leap, p1, 4, S.st, p4, -20, 0, sh, S.rid, hd, p12, hd, xm, true, S.kid, tg⟩ := by
            unfold ansQ ansB
            rw [if_pos rfl, if_pos rfl, if_pos rfl, if_pos rfl, htl, hgl, hhd, hxm, hsh]
            exact hSg
          rw [hQ]
          simp only [Pk.l] at eU hH4 b4
          obtain ⟨H8, hH8⟩ : ∃ H, H7.set p ⟨.tip false, .vals (S.b (n + 1))⟩ = H := ⟨_, rfl⟩
          have kF : Keeps g H8 (some p) := by rw [← hH8]; exact kSet kf rfl
          have b8 : H8[p]? = some ⟨.tip false, .vals (S.b (n + 1))⟩ := by rw [← hH8]; simp [lp7]
          have bv8 : BV H8 v (putP ⟨leap, p1, 4, S.st, p4, -20, 0, sh, S.rid, hd, p12, hd, xm, true, S.kid, tg⟩ []) := by rw [← hH8]; exact bv.set_vals hp7
          simp only [Srv.b] at hH8 hp7 hp5
          simp (maxDischargeDepth := 9) -implicitDefEqProofs only [push_cast, simprocAttr, M10, nadd1, nadd2, nadd3, nadd4, nadd5, nadd6, nadd7, nadd8, nadd9, nadd10, nadd11, nadd12, ABlk.new, nb, hH1, eN, eP, nx, hxc, hH3, b3, l3, hs3, ls3, hp3, lp3, lo1, eSay, w1', w2', eT, eG, eH, np3, ns3, nq3, decide_false, Bool.not_false, Bool.and_true, estr, hs4, ls4, hH4, b4, l4, hp4, b34, lp4, l34, lo3, eS, hH5, b5, l5, hp5, lp5, eR, eU, hp7, lp7, lp, nv, hvc, w5, hH8]
          exact ⟨v, rfl, bv8, mnv, kF, b8, rfl⟩
      · cases s with
        | false =>
          have mH : mayH 3 p1 4 = true := by
            have := mP
            unfold mayP mayH at this
            simp only [Bool.and_eq_true, decide_eq_true_eq] at this
            unfold mayH
            simp only [Bool.and_eq_true, decide_eq_true_eq]
            omega
          have cv0 := codeV_in l
          have eC := fun g => coded_c (l := l) r7 g
          obtain ⟨cv, hcv⟩ : ∃ z, codeV l = z := ⟨_, rfl⟩
          rw [hcv] at cv0 eC
          have estr := str_n cl
          have okB : Pk.Ok ⟨3, p1, 4, 0, p4, -20, 0, sh, cv, hd, p12, hd, xm, false, 0, 0⟩ := by
            have z1 : 0 ≤ p1 := okP.a1
            have z2 : p1 ≤ 255 := okP.b1
            have z3 : -128 ≤ p4 := okP.a4
            have z4 : p4 ≤ 127 := okP.b4
            have z5 : 0 ≤ p12 := okP.a12
            have z6 : p12 ≤ 18446744073709551615 := okP.b12
            have z7 := ok.s1
            have z8 := ok.s2
            have z9 := ok.r0
            have z10 := ok.r1
            constructor <;> (dsimp only; omega)
          obtain ⟨H4, hH4⟩ : ∃ H, H3 ++ [(⟨.tip false, .vals (Pk.l ⟨3, p1, 4, 0, p4, -20, 0, sh, cv, hd, p12, hd, xm, false, 0, 0⟩ .nils)⟩ : ABlk)] = H := ⟨_, rfl⟩
          have k4 : Keeps H3 H4 none := by rw [← hH4]; exact Keeps.app _ _ _ rfl
          have b4 : H4[H3.length]? = some ⟨.tip false, .vals (Pk.l ⟨3, p1, 4, 0, p4, -20, 0, sh, cv, hd, p12, hd, xm, false, 0, 0⟩ .nils)⟩ := by rw [← hH4, List.getElem?_append_right (Nat.le_refl _)]; simp
          have l4 := (List.getElem?_eq_some_iff.1 b4).1
          have hp4 := kN k4 _ _ hp3
          have b34 := kN k4 _ _ b3
          have hs4 := kN k4 _ _ hs3
          have ls4 := (List.getElem?_eq_some_iff.1 hs4).1
          have lp4 := (List.getElem?_eq_some_iff.1 hp4).1
          have l34 := (List.getElem?_eq_some_iff.1 b34).1
          have lo3 : ¬ H3.length < g.length := by omega
          have hG4 := k4.2.2 hG3
          have ha4 : At0 H4 := by rw [← hH4]; exact ha3.app _
          obtain ⟨f1, f2, f3, f4⟩ := fit_put (Q := ⟨3, p1, 4, 0, p4, -20, 0, sh, cv, hd, p12, hd, xm, false, 0, 0⟩) mH rfl rfl
          obtain ⟨v, js2, eU, tv, mnv, hGu⟩ := pput_ok (P := ⟨3, p1, 4, 0, p4, -20, 0, sh, cv, hd, p12, hd, xm, false, 0, 0⟩) (F := []) okB f1 f2 (x := .nils) rfl hG4 ha4 (ExtAt.nil _)
          have bv := tv.bv (putP_byt (ext_byt (ExtAt.nil CP.gl)).1)
          obtain ⟨H7, hH7⟩ : ∃ H, H4 ++ js2 = H := ⟨_, rfl⟩
          have k7 : Keeps H4 H7 none := by rw [← hH7]; exact kG hGu
          rw [hH7] at eU bv hGu
          have kf := kT (kT kgood k4) k7
          have hp7 := kN kf _ _ hp
          have lp7 := (List.getElem?_eq_some_iff.1 hp7).1
          have nv : noAny (some v) = some v := na_slen bv.len
          have hvc : v.isCell = true := bv_cell bv
          have w5 : IntKind.i64.wrap (n + 1) = n + 1 := wr_i64 _ (by omega) (by omega)
          have hQ : ansQ S ⟨p0, p1, 3, p3, p4, p5, p6, p7, p8, p9, p10, p11, p12, false, p15, p16⟩ lie leap l took gave = ⟨3, p1, 4, 0, p4, -20, 0, sh, cv, hd, p12, hd, xm, false, 0, 0⟩ := by
            unfold ansQ ansB
            rw [if_neg (by simp), if_neg cl, if_neg cl, if_neg cl, htl, hgl, hhd, hxm, hsh, hcv]
          rw [hQ]
          simp only [Pk.l] at eU hH4 b4
          obtain ⟨H8, hH8⟩ : ∃ H, H7.set p ⟨.tip false, .vals (S.b (n + 1))⟩ = H := ⟨_, rfl⟩
          have kF : Keeps g H8 (some p) := by rw [← hH8]; exact kSet kf rfl
          have b8 : H8[p]? = some ⟨.tip false, .vals (S.b (n + 1))⟩ := by rw [← hH8]; simp [lp7]
          have bv8 : BV H8 v (putP ⟨3, p1, 4, 0, p4, -20, 0, sh, cv, hd, p12, hd, xm, false, 0, 0⟩ []) := by rw [← hH8]; exact bv.set_vals hp7
          simp only [Srv.b] at hH8 hp7 
          simp (maxDischargeDepth := 9) -implicitDefEqProofs only [push_cast, simprocAttr, M10, nadd1, nadd2, nadd3, nadd4, nadd5, nadd6, nadd7, nadd8, nadd9, nadd10, nadd11, nadd12, ABlk.new, nb, hH1, eN, eP, nx, hxc, hH3, b3, l3, hs3, ls3, hp3, lp3, lo1, eSay, w1', w2', eT, eG, eH, np3, ns3, nq3, decide_false, Bool.not_false, Bool.and_true, estr, hs4, ls4, hH4, b4, l4, hp4, b34, lp4, l34, lo3, eC, eU, hp7, lp7, lp, nv, hvc, w5, hH8]
          exact ⟨v, rfl, bv8, mnv, kF, b8, rfl⟩
        | true =>
          obtain rfl : rb = true := by cases rb with
            | true => rfl
            | false => exact absurd ⟨rfl, rfl⟩ c2
          have mH : mayH 3 p1 4 = true := by
            have := mP
            unfold mayP mayH at this
            simp only [Bool.and_eq_true, decide_eq_true_eq] at this
            unfold mayH
            simp only [Bool.and_eq_true, decide_eq_true_eq]
            omega
          have cv0 := codeV_in l
          have eC := fun g => coded_c (l := l) r7 g
          obtain ⟨cv, hcv⟩ : ∃ z, codeV l = z := ⟨_, rfl⟩
          rw [hcv] at cv0 eC
          have estr := str_n cl
          have okB : Pk.Ok ⟨3, p1, 4, 0, p4, -20, 0, sh, cv, hd, p12, hd, xm, false, 0, 0⟩ := by
            have z1 : 0 ≤ p1 := okP.a1
            have z2 : p1 ≤ 255 := okP.b1
            have z3 : -128 ≤ p4 := okP.a4
            have z4 : p4 ≤ 127 := okP.b4
            have z5 : 0 ≤ p12 := okP.a12
            have z6 : p12 ≤ 18446744073709551615 := okP.b12
            have z7 := ok.s1
            have z8 := ok.s2
            have z9 := ok.r0
            have z10 := ok.r1
            constructor <;> (dsimp only; omega)
          obtain ⟨H4, hH4⟩ : ∃ H, H3 ++ [(⟨.tip false, .vals (Pk.l ⟨3, p1, 4, 0, p4, -20, 0, sh, cv, hd, p12, hd, xm, false, 0, 0⟩ .nils)⟩ : ABlk)] = H := ⟨_, rfl⟩
          have k4 : Keeps H3 H4 none := by rw [← hH4]; exact Keeps.app _ _ _ rfl
          have b4 : H4[H3.length]? = some ⟨.tip false, .vals (Pk.l ⟨3, p1, 4, 0, p4, -20, 0, sh, cv, hd, p12, hd, xm, false, 0, 0⟩ .nils)⟩ := by rw [← hH4, List.getElem?_append_right (Nat.le_refl _)]; simp
          have l4 := (List.getElem?_eq_some_iff.1 b4).1
          have hp4 := kN k4 _ _ hp3
          have b34 := kN k4 _ _ b3
          have hs4 := kN k4 _ _ hs3
          have ls4 := (List.getElem?_eq_some_iff.1 hs4).1
          have lp4 := (List.getElem?_eq_some_iff.1 hp4).1
          have l34 := (List.getElem?_eq_some_iff.1 b34).1
          have lo3 : ¬ H3.length < g.length := by omega
          have hG4 := k4.2.2 hG3
          have ha4 : At0 H4 := by rw [← hH4]; exact ha3.app _
          have kid0 : ¬ S.kid = 0 ∧ p15 = S.kid := by
            have h1 := hrb
            unfold rightP at h1
            simp only [Bool.and_eq_true, decide_eq_true_eq] at h1
            have h2 := mP
            unfold mayP mayS at h2
            simp only [Bool.and_eq_true, beq_iff_eq] at h2
            obtain ⟨_, _, _, h3, _⟩ := h1
            obtain ⟨_, _, h4, _⟩ := h2
            have h5 : ¬ p15 = 0 := by simpa using h4
            exact ⟨by rw [← h3]; exact h5, h3⟩
          have mS0 : mayS (sgP ⟨3, p1, 4, 0, p4, -20, 0, sh, cv, hd, p12, hd, xm, false, 0, 0⟩ S.kid 0) = true := by
            unfold mayS sgP
            simp [kid0.1]
          obtain ⟨_, _, fe, _⟩ := fit_put (Q := sgP ⟨3, p1, 4, 0, p4, -20, 0, sh, cv, hd, p12, hd, xm, false, 0, 0⟩ S.kid 0) mH mS0 rfl
          have eS := sign_u (P := ⟨3, p1, 4, 0, p4, -20, 0, sh, cv, hd, p12, hd, xm, false, 0, 0⟩) (x := .nils) (F := []) (id := S.kid) (A := S.ka) (B := S.kb) okB ok.k0 ok.k1 (by simp) (by simp) rfl hG4 ha4 (ExtAt.nil _) rfl
          obtain ⟨tg, htg⟩ : ∃ z, tagI S.ka S.kb (bodyP ⟨3, p1, 4, 0, p4, -20, 0, sh, cv, hd, p12, hd, xm, false, 0, 0⟩ []) = z := ⟨_, rfl⟩
          have hSg : signS ⟨3, p1, 4, 0, p4, -20, 0, sh, cv, hd, p12, hd, xm, false, 0, 0⟩ [] S.kid S.ka S.kb = ⟨3, p1, 4, 0, p4, -20, 0, sh, cv, hd, p12, hd, xm, true, S.kid, tg⟩ := by unfold signS; rw [if_pos fe, htg]; rfl
          have hSx : signX ⟨3, p1, 4, 0, p4, -20, 0, sh, cv, hd, p12, hd, xm, false, 0, 0⟩ [] S.kid .nils = .nils := by unfold signX; rw [if_pos fe]
          have okS := signS_ok (F := []) (A := S.ka) (B := S.kb) okB ok.k0 ok.k1
          rw [hSg] at okS
          rw [hSg, hSx, fe] at eS
          have mS2 : mayS ⟨3, p1, 4, 0, p4, -20, 0, sh, cv, hd, p12, hd, xm, true, S.kid, tg⟩ = true := by
            unfold mayS
            simp [kid0.1]
          obtain ⟨H5, hH5⟩ : ∃ H, H4.set H3.length ⟨.tip false, .vals (Pk.l ⟨3, p1, 4, 0, p4, -20, 0, sh, cv, hd, p12, hd, xm, true, S.kid, tg⟩ .nils)⟩ = H := ⟨_, rfl⟩
          have b5 : H5[H3.length]? = some ⟨.tip false, .vals (Pk.l ⟨3, p1, 4, 0, p4, -20, 0, sh, cv, hd, p12, hd, xm, true, S.kid, tg⟩ .nils)⟩ := by rw [← hH5]; simp [l4]
          have l5 := (List.getElem?_eq_some_iff.1 b5).1
          have k5 : Keeps g H5 none := by rw [← hH5]; exact keeps_set (kT kgood k4) (by omega) rfl
          have hG5 := k5.2.2 hg
          have hp5 := kN k5 _ _ hp
          have lp5 := (List.getElem?_eq_some_iff.1 hp5).1
          have ha5 : At0 H5 := at0_keep ha k5
          simp only [Pk.l] at eS hH5 b5
          obtain ⟨f1, f2, f3, f4⟩ := fit_put (Q := ⟨3, p1, 4, 0, p4, -20, 0, sh, cv, hd, p12, hd, xm, true, S.kid, tg⟩) mH mS2 rfl
          obtain ⟨v, js2, eU, tv, mnv, hGu⟩ := pput_ok (P := ⟨3, p1, 4, 0, p4, -20, 0, sh, cv, hd, p12, hd, xm, true, S.kid, tg⟩) (F := []) okS f1 f2 (x := .nils) rfl hG5 ha5 (ExtAt.nil _)
          have bv := tv.bv (putP_byt (ext_byt (ExtAt.nil CP.gl)).1)
          obtain ⟨H7, hH7⟩ : ∃ H, H5 ++ js2 = H := ⟨_, rfl⟩
          have k7 : Keeps H5 H7 none := by rw [← hH7]; exact kG hGu
          rw [hH7] at eU bv hGu
          have kf := kT (k5) k7
          have hp7 := kN kf _ _ hp
          have lp7 := (List.getElem?_eq_some_iff.1 hp7).1
          have nv : noAny (some v) = some v := na_slen bv.len
          have hvc : v.isCell = true := bv_cell bv
          have w5 : IntKind.i64.wrap (n + 1) = n + 1 := wr_i64 _ (by omega) (by omega)
          have hQ : ansQ S ⟨p0, p1, 3, p3, p4, p5, p6, p7, p8, p9, p10, p11, p12, true, p15, p16⟩ lie leap l took gave = ⟨3, p1, 4, 0, p4, -20, 0, sh, cv, hd, p12, hd, xm, true, S.kid, tg⟩ := by
            unfold ansQ ansB
            rw [if_pos rfl, if_neg cl, if_neg cl, if_neg cl, htl, hgl, hhd, hxm, hsh, hcv]
            exact hSg
          rw [hQ]
          simp only [Pk.l] at eU hH4 b4
          obtain ⟨H8, hH8⟩ : ∃ H, H7.set p ⟨.tip false, .vals (S.b (n + 1))⟩ = H := ⟨_, rfl⟩
          have kF : Keeps g H8 (some p) := by rw [← hH8]; exact kSet kf rfl
          have b8 : H8[p]? = some ⟨.tip false, .vals (S.b (n + 1))⟩ := by rw [← hH8]; simp [lp7]
          have bv8 : BV H8 v (putP ⟨3, p1, 4, 0, p4, -20, 0, sh, cv, hd, p12, hd, xm, true, S.kid, tg⟩ []) := by rw [← hH8]; exact bv.set_vals hp7
          simp only [Srv.b] at hH8 hp7 hp5
          simp (maxDischargeDepth := 9) -implicitDefEqProofs only [push_cast, simprocAttr, M10, nadd1, nadd2, nadd3, nadd4, nadd5, nadd6, nadd7, nadd8, nadd9, nadd10, nadd11, nadd12, ABlk.new, nb, hH1, eN, eP, nx, hxc, hH3, b3, l3, hs3, ls3, hp3, lp3, lo1, eSay, w1', w2', eT, eG, eH, np3, ns3, nq3, decide_false, Bool.not_false, Bool.and_true, estr, hs4, ls4, hH4, b4, l4, hp4, b34, lp4, l34, lo3, eC, eS, hH5, b5, l5, hp5, lp5, eR, eU, hp7, lp7, lp, nv, hvc, w5, hH8]
          exact ⟨v, rfl, bv8, mnv, kF, b8, rfl⟩
end Go.Proofs.YtdpbbagllhfjbaaDoorW.AI.G
namespace Go.Proofs.YtdpbbagllhfjbaaDoorW.AI.G
open Go Go.Proofs.YtdpbbagllhfjbaaDoorW.AI Go.Proofs.YtdpbbagllhfjbaaDoorW.AI.Oct
set_option maxRecDepth 100000
set_option linter.unusedSimpArgs false
set_option linter.unusedVariables false
set_option linter.unusedSectionVars false
theorem bv_take {h : AHeap} {v : AV} {D : List Int} {n : Nat} (b : BV h v D) (hv : v.lt n = true) : BV (h.take n) v D := by
  obtain ⟨hB, k | ⟨q, o, c, st, l, mn, e, r1, r2, r3, r4⟩⟩ := b
  · exact ⟨hB, Or.inl k⟩
  · have hq : q < n := by
      rcases r4 with ⟨rfl, _⟩ | rfl <;> simpa [AV.lt] using hv
    exact ⟨hB, Or.inr ⟨q, o, c, st, l, mn, by rw [List.getElem?_take_of_lt hq]; exact e, r1, r2, r3, r4⟩⟩
theorem keeps_take {g H : AHeap} {p : Option Nat} (k : Keeps g H p) (ho : (H.take g.length).all (oldIn g.length) = true) : Keeps g (H.take g.length) p := by
  have hl : (H.take g.length).length = g.length := by rw [List.length_take]; have := k.2.1; omega
  refine ⟨fun q x e h1 h2 => ?_, by omega, fun hg => ?_⟩
  · rw [List.getElem?_take_of_lt (List.getElem?_eq_some_iff.1 e).1]
    exact k.1 q x e h1 h2
  · unfold Good
    rw [hl]
    exact ho
theorem trim_post {g : AHeap} {S : Srv} {p : Nat} {n : Int} {R : Ans} {r : AV × AHeap × List Nat} (hp : p < g.length) (h : AnsPost g S p n R r) : AnsPost g S p n R (trimR g.length r) := by
  unfold trimR
  split
  case isFalse => exact h
  rename_i hc
  simp only [Bool.and_eq_true] at hc
  obtain ⟨⟨hv, _⟩, ho⟩ := hc
  cases R with
  | err e =>
    obtain ⟨h1, h2, h3⟩ := h
    exact ⟨keeps_take h1 ho, h2, h3⟩
  | ok Q =>
    obtain ⟨v, h1, h2, hm, h3, h4, h5⟩ := h
    rw [h1] at hv
    simp only [AV.lt, AV.lts, Bool.and_eq_true] at hv
    exact ⟨v, h1, bv_take h2 hv.1, hm, keeps_take h3 ho, by rw [List.getElem?_take_of_lt hp]; exact h4, h5⟩
section
variable {h : AHeap} {S : Srv} {p : Nat} {n : Int} {b : AV} {D : List Int} {took gave lie leap : Int} {l : List UInt8}
theorem ans_c (ok : S.Ok) (hg : Good h) (ha : At0 h) (hp : h[p]? = some ⟨.tip false, .vals (S.b n)⟩) (n0 : 0 ≤ n) (n1 : n ≤ 1000000) (hb : SV h b D) (hD : D.length < 1000000000)
    (l0 : -9223372036854775808 ≤ lie) (l1 : lie ≤ 9223372036854775807) (t0 : -9223372036854775808 ≤ took) (t1 : took ≤ 9223372036854775807) (g0 : -9223372036854775808 ≤ gave) (g1 : gave ≤ 9223372036854775807) (q0 : 0 ≤ leap) (q1 : leap ≤ 255) :
    ∃ r, W CP 10 [.ptr p 0, b, .int .i64 took, .int .i64 gave, .agg [.int .i64 lie, .int .u8 leap, .str (sb l)]] h = some r ∧ AnsPost h S p n (ansP S D took gave lie leap l) r := by
  obtain ⟨r, e, k⟩ := ans_key ok hg ha hp n0 n1 hb hD l0 l1 t0 t1 g0 g1 q0 q1 (l := l)
  have lp := (List.getElem?_eq_some_iff.1 hp).1
  refine ⟨_, W_body (m := M10) rfl rfl (by simp [AV.lts, AV.lt]) e, ?_⟩
  have ht : M10.trim = true := rfl
  rw [ht, if_pos rfl]
  exact trim_post lp k
end
end Go.Proofs.YtdpbbagllhfjbaaDoorW.AI.G
namespace Go.Proofs.YtdpbbagllhfjbaaDoorW.AI.G
open Go Go.Proofs.YtdpbbagllhfjbaaDoorW.AI
set_option maxRecDepth 100000
set_option linter.unusedVariables false
set_option linter.unusedSimpArgs false
set_option linter.unusedSectionVars false
/-- How far two times lie apart. -/
def farV (x n : Int) : Int := if x < n then n - x else x - n
def clampV (n : Int) : Int := min (max n 0) 4611686018427387904
def baseV (t : Int) : Int := t / 4294967296 * 1000000000 + t % 4294967296 * 1000000000 / 4294967296
def bet (b x n : Int) : Int := if farV x n < farV b n then x else b
def nsV (t n : Int) : Int := bet (bet (baseV t - 4294967296000000000) (baseV t) (clampV n)) (baseV t + 4294967296000000000) (clampV n)
/-- A time's stamp, read near the time, is the time. -/
theorem nsV_stV {ns near : Int} (h0 : 0 ≤ ns) (h1 : ns ≤ 4611686018427387904) (n0 : 0 ≤ near) (n1 : near ≤ 4611686018427387904) (d0 : ns - near < 2147483648000000000) (d1 : near - ns < 2147483648000000000) : nsV (stV ns) near = ns := by
  have hb : baseV (stV ns) = ns % 4294967296000000000 := by
    have hf : 0 ≤ (ns % 1000000000 * 4294967296 + 999999999) / 1000000000 ∧ (ns % 1000000000 * 4294967296 + 999999999) / 1000000000 < 4294967296 := by omega
    have hg : (ns % 1000000000 * 4294967296 + 999999999) / 1000000000 * 1000000000 / 4294967296 = ns % 1000000000 := by omega
    unfold baseV stV
    obtain ⟨f, hF⟩ : ∃ f, (ns % 1000000000 * 4294967296 + 999999999) / 1000000000 = f := ⟨_, rfl⟩
    rw [hF] at hf hg ⊢
    have e1 : (ns / 1000000000 % 4294967296 * 4294967296 + f) / 4294967296 = ns / 1000000000 % 4294967296 := by omega
    have e2 : (ns / 1000000000 % 4294967296 * 4294967296 + f) % 4294967296 = f := by omega
    rw [e1, e2, hg]
    omega
  have hc : clampV near = near := by unfold clampV; omega
  unfold nsV
  rw [hb, hc]
  obtain ⟨b, hB⟩ : ∃ b, ns % 4294967296000000000 = b := ⟨_, rfl⟩
  have hk : ns = b ∨ ns = b + 4294967296000000000 := by omega
  have hb0 : 0 ≤ b ∧ b < 4294967296000000000 := by omega
  rw [hB]
  unfold bet farV
  rcases hk with rfl | rfl <;> (repeat' split) <;> omega
theorem stns1_c {h : AHeap} {q : Nat} {x n : Int} (hg : Good h) (hq : h[q]? = some ⟨.tip false, .ints .i64 [n]⟩) (n0 : 0 ≤ n) (n1 : n ≤ 4611686018427387904) (x0 : -4294967296000000000 ≤ x) (x1 : x ≤ 8589934592000000000) :
    W CP 43 [.int .i64 x, .ptr q 0] h = some (.int .u64 (farV x n), h, []) := by
  refine W_quietP (m := M43) rfl rfl rfl rfl rfl hg ?_
  have hl := (List.getElem?_eq_some_iff.1 hq).1
  unfold farV
  by_cases c : x < n
  · have w1 : IntKind.i64.wrap (n - x) = n - x := wr_i64 _ (by omega) (by omega)
    have w2 : IntKind.u64.wrap (n - x) = n - x := wr_u64 _ (by omega) (by omega)
    rw [if_pos c]
    simp (maxDischargeDepth := 9) -implicitDefEqProofs only [push_cast, simprocAttr, M43, nadd1, nadd2, nadd3, nadd4, nadd5, nadd6, nadd7, nadd8, nadd9, nadd10, nadd11, nadd12, hq, hl, c, w1, w2]
    exact quiet_0
  · have w1 : IntKind.i64.wrap (x - n) = x - n := wr_i64 _ (by omega) (by omega)
    have w2 : IntKind.u64.wrap (x - n) = x - n := wr_u64 _ (by omega) (by omega)
    rw [if_neg c]
    simp (maxDischargeDepth := 9) -implicitDefEqProofs only [push_cast, simprocAttr, M43, nadd1, nadd2, nadd3, nadd4, nadd5, nadd6, nadd7, nadd8, nadd9, nadd10, nadd11, nadd12, hq, hl, c, w1, w2]
    exact quiet_0
theorem bet_in {b x n : Int} {l u : Int} (b0 : l ≤ b) (b1 : b ≤ u) (x0 : l ≤ x) (x1 : x ≤ u) : l ≤ bet b x n ∧ bet b x n ≤ u := by
  unfold bet
  split <;> omega
set_option maxHeartbeats 4000000 in
theorem stampNs_c {t near : Int} (t0 : 0 ≤ t) (t1 : t ≤ 18446744073709551615) {h : AHeap} (hg : Good h) : W CP 19 [.int .u64 t, .int .i64 near] h = some (.int .i64 (nsV t near), h, []) := by
  refine W_both (m := M19) (fun _ => True) (fun _ => rfl) rfl rfl rfl (show Good CP.gl from rfl) trivial (fun g hg _ => ?_) hg trivial
  have f1 : abits .and .u64 t 4294967295 = t % 4294967296 := abits_and32 ⟨by omega, by omega⟩
  have hd : t.fdiv 4294967296 = t / 4294967296 := Int.fdiv_eq_ediv_of_nonneg _ (by decide)
  have w1 : IntKind.i64.wrap (t / 4294967296) = t / 4294967296 := wr_i64 _ (by omega) (by omega)
  have w2 : IntKind.i64.wrap (t / 4294967296 * 1000000000) = t / 4294967296 * 1000000000 := wr_i64 _ (by omega) (by omega)
  have w3 : IntKind.u64.wrap (t % 4294967296 * 1000000000) = t % 4294967296 * 1000000000 := wr_u64 _ (by omega) (by omega)
  have hd2 : (t % 4294967296 * 1000000000).fdiv 4294967296 = t % 4294967296 * 1000000000 / 4294967296 := Int.fdiv_eq_ediv_of_nonneg _ (by decide)
  have w4 : IntKind.i64.wrap (t % 4294967296 * 1000000000 / 4294967296) = t % 4294967296 * 1000000000 / 4294967296 := wr_i64 _ (by omega) (by omega)
  have hb : t / 4294967296 * 1000000000 + t % 4294967296 * 1000000000 / 4294967296 = baseV t := rfl
  have b0 : 0 ≤ baseV t ∧ baseV t < 4294967296000000000 := by unfold baseV; omega
  unfold nsV
  obtain ⟨B, hB⟩ : ∃ z, baseV t = z := ⟨_, rfl⟩
  rw [hB] at hb b0 ⊢
  have w5 : IntKind.i64.wrap B = B := wr_i64 _ (by omega) (by omega)
  have w6 : IntKind.i64.wrap (B - 4294967296000000000) = B - 4294967296000000000 := wr_i64 _ (by omega) (by omega)
  have w7 : IntKind.i64.wrap (B + 4294967296000000000) = B + 4294967296000000000 := wr_i64 _ (by omega) (by omega)
  have hc : (if 4611686018427387904 < (if near < 0 then 0 else near) then 4611686018427387904 else if near < 0 then 0 else near) = clampV near := by
    unfold clampV
    repeat' split
    all_goals omega
  have c0 : 0 ≤ clampV near ∧ clampV near ≤ 4611686018427387904 := by unfold clampV; omega
  obtain ⟨c, hC⟩ : ∃ z, clampV near = z := ⟨_, rfl⟩
  rw [hC] at hc c0 ⊢
  have hG : Good (g ++ [⟨.tip false, .ints .i64 [c]⟩]) := good_app hg rfl
  have hq : (g ++ [(⟨.tip false, .ints .i64 [c]⟩ : ABlk)])[g.length]? = some ⟨.tip false, .ints .i64 [c]⟩ := by simp
  have e := fun x a b => stns1_c (x := x) hG hq c0.1 c0.2 a b
  have e1 := e B (by omega) (by omega)
  have e2 := e (B - 4294967296000000000) (by omega) (by omega)
  have e3 := e (B + 4294967296000000000) (by omega) (by omega)
  obtain ⟨b2, hb2⟩ : ∃ z, bet (B - 4294967296000000000) B c = z := ⟨_, rfl⟩
  have i2 := bet_in (n := c) (show -4294967296000000000 ≤ B - 4294967296000000000 by omega) (show B - 4294967296000000000 ≤ 8589934592000000000 by omega) (show -4294967296000000000 ≤ B by omega) (show B ≤ 8589934592000000000 by omega)
  rw [hb2] at i2 ⊢
  have e4 := e b2 i2.1 i2.2
  simp (maxDischargeDepth := 9) -implicitDefEqProofs only [push_cast, simprocAttr, M19, f1, hd, w1, w2, w3, hd2, w4, hb, w5, w6, w7, hc]
  refine wp_kRes (wp_kSeq (wp_kBlock ?_))
  refine wp_loop (fun k a h' ws => ∃ i : Nat, k = 2 - i ∧ i ≤ 2 ∧ a = [(7, .fn 43 [.ptr g.length 0]), (8, .int .i64 (if i = 0 then B - 4294967296000000000 else if i = 1 then b2 else bet b2 (B + 4294967296000000000) c)), (31, .agg [.int .i64 B, .int .i64 (B + 4294967296000000000)]), (32, .int .i64 (i : Int))] ∧ h' = g ++ [⟨.tip false, .ints .i64 [c]⟩] ∧ ws = []) 2 ?_ ?_
  · refine ⟨0, by omega, by omega, ?_, rfl, rfl⟩
    simp (maxDischargeDepth := 9) -implicitDefEqProofs only [push_cast, simprocAttr]; try simp
  · rintro k aa h' ws ⟨i, rfl, hi, rfl, rfl, rfl⟩
    rcases (by omega : i = 0 ∨ i = 1 ∨ i = 2) with rfl | rfl | rfl
    · by_cases q : farV B c < farV (B - 4294967296000000000) c
      · have hz : bet (B - 4294967296000000000) B c = B := if_pos q
        simp (maxDischargeDepth := 9) -implicitDefEqProofs only [push_cast, simprocAttr, e1, e2, q]
        refine loop_next (2 - 1) (by omega) ⟨1, rfl, by omega, ?_, rfl, rfl⟩
        rw [← hb2, hz]
        simp (maxDischargeDepth := 9) -implicitDefEqProofs only [push_cast, simprocAttr]; try simp
      · have hz : bet (B - 4294967296000000000) B c = B - 4294967296000000000 := if_neg q
        simp (maxDischargeDepth := 9) -implicitDefEqProofs only [push_cast, simprocAttr, e1, e2, q]
        refine loop_next (2 - 1) (by omega) ⟨1, rfl, by omega, ?_, rfl, rfl⟩
        rw [← hb2, hz]
        simp (maxDischargeDepth := 9) -implicitDefEqProofs only [push_cast, simprocAttr]; try simp
    · by_cases q : farV (B + 4294967296000000000) c < farV b2 c
      · have hz : bet b2 (B + 4294967296000000000) c = B + 4294967296000000000 := if_pos q
        simp (maxDischargeDepth := 9) -implicitDefEqProofs only [push_cast, simprocAttr, e3, e4, q]
        refine loop_next (2 - 2) (by omega) ⟨2, rfl, by omega, ?_, rfl, rfl⟩
        rw [hz]
        simp (maxDischargeDepth := 9) -implicitDefEqProofs only [push_cast, simprocAttr]; try simp
      · have hz : bet b2 (B + 4294967296000000000) c = b2 := if_neg q
        simp (maxDischargeDepth := 9) -implicitDefEqProofs only [push_cast, simprocAttr, e3, e4, q]
        refine loop_next (2 - 2) (by omega) ⟨2, rfl, by omega, ?_, rfl, rfl⟩
        rw [hz]
        simp (maxDischargeDepth := 9) -implicitDefEqProofs only [push_cast, simprocAttr]; try simp
    · simp (maxDischargeDepth := 9) -implicitDefEqProofs only [push_cast, simprocAttr]
      exact quiet_i
end Go.Proofs.YtdpbbagllhfjbaaDoorW.AI.G
namespace Go.Proofs.YtdpbbagllhfjbaaDoorW.AI.G
open Go Go.Proofs.YtdpbbagllhfjbaaDoorW.AI Go.Proofs.YtdpbbagllhfjbaaDoorW.AI.Oct
set_option maxRecDepth 100000
set_option linter.unusedVariables false
set_option linter.unusedSimpArgs false
set_option linter.unusedSectionVars false
/-- A request. -/
def rq0 (xmt : Int) : Pk := ⟨0, 4, 3, 0, 6, 0, 0, 0, 0, 0, 0, 0, xmt, false, 0, 0⟩
def rqP (xmt id A B : Int) : Pk := if id = 0 then rq0 xmt else sgP (rq0 xmt) id (tagI A B (bodyP (rq0 xmt) []))
section
variable {xmt id A B : Int}
theorem rq0_ok (x0 : 0 ≤ xmt) (x1 : xmt ≤ 18446744073709551615) : (rq0 xmt).Ok := by constructor <;> simp only [rq0] <;> omega
theorem rq0_fit : mayP (rq0 xmt) [] = true ∧ (putP (rq0 xmt) []).length ≤ 512 ∧ putE (rq0 xmt) [] = 0 ∧ putD (rq0 xmt) [] = putP (rq0 xmt) [] := fit_put rfl rfl rfl
theorem rqs_fit {t : Int} (h : id ≠ 0) : mayP (sgP (rq0 xmt) id t) [] = true ∧ (putP (sgP (rq0 xmt) id t) []).length ≤ 512 ∧ putE (sgP (rq0 xmt) id t) [] = 0 ∧ putD (sgP (rq0 xmt) id t) [] = putP (sgP (rq0 xmt) id t) [] := fit_put rfl (by simp [mayS, sgP, h]) rfl
theorem rqP_ok (x0 : 0 ≤ xmt) (x1 : xmt ≤ 18446744073709551615) (i0 : 0 ≤ id) (i1 : id ≤ 4294967295) : (rqP xmt id A B).Ok := by
  unfold rqP
  split
  · exact rq0_ok x0 x1
  · exact sgP_ok (rq0_ok x0 x1) i0 i1 (tag_le _ _ _).1 (tag_le _ _ _).2
theorem rqP_fit : mayP (rqP xmt id A B) [] = true ∧ (putP (rqP xmt id A B) []).length ≤ 512 ∧ putE (rqP xmt id A B) [] = 0 ∧ putD (rqP xmt id A B) [] = putP (rqP xmt id A B) [] := by
  unfold rqP
  split
  · exact rq0_fit
  · exact rqs_fit (by assumption)
set_option maxHeartbeats 4000000 in
theorem req_k (x0 : 0 ≤ xmt) (x1 : xmt ≤ 18446744073709551615) (i0 : 0 ≤ id) (i1 : id ≤ 4294967295) {g : AHeap} (hg : Good g) (ha : At0 g) :
    Wp (xbody (W CP) M14 [.int .u64 xmt, .agg [.int .u32 id, .int .u64 A, .int .u64 B]] g) fun r => r.1.lt g.length = false ∧ (TailAt r.2.1 r.1 (putP (rqP xmt id A B) []) g.length ∧ Mn r.1 ∧ Keeps g r.2.1 none ∧ r.2.2 = []) := by
  have fq := rqP_fit (xmt := xmt) (id := id) (A := A) (B := B)
  have okq := rqP_ok (A := A) (B := B) x0 x1 i0 i1
  unfold rqP at fq okq ⊢
  by_cases hi : id = 0
  · subst hi
    simp only [if_true] at fq okq ⊢
    obtain ⟨H0, hH0⟩ : ∃ H, g ++ [(⟨.tip false, .vals [.int .u32 0, .int .u64 A, .int .u64 B]⟩ : ABlk), ⟨.tip false, .vals ((rq0 xmt).l .nils)⟩] = H := ⟨_, rfl⟩
    have hG0 : Good H0 := by rw [← hH0]; exact good_app hg rfl
    have ha0 : At0 H0 := by rw [← hH0]; exact ha.app _
    have c1 : H0[g.length]? = some ⟨.tip false, .vals [.int .u32 0, .int .u64 A, .int .u64 B]⟩ := by rw [← hH0, List.getElem?_append_right (Nat.le_refl _)]; simp
    have c2 : H0[g.length + 1]? = some ⟨.tip false, .vals ((rq0 xmt).l .nils)⟩ := by rw [← hH0, List.getElem?_append_right (by omega)]; simp
    have d1 := (List.getElem?_eq_some_iff.1 c1).1
    have d2 := (List.getElem?_eq_some_iff.1 c2).1
    have k0 : Keeps g H0 none := by rw [← hH0]; exact Keeps.app _ _ _ rfl
    obtain ⟨v, js, e, t, m, hGo⟩ := pput_ok okq fq.1 fq.2.1 (x := .nils) rfl hG0 ha0 (ExtAt.nil _)
    simp only [Pk.l, rq0] at e hH0 c2
    have nv := t.na
    simp (maxDischargeDepth := 9) -implicitDefEqProofs only [push_cast, simprocAttr, M14, nadd1, nadd2, nadd3, nadd4, nadd5, nadd6, nadd7, nadd8, nadd9, nadd10, nadd11, nadd12, hH0, c1, d1, c2, d2, e, nv]
    exact ⟨(t.mono k0.2.1).lt, ⟨t.mono k0.2.1, m, kT k0 (kG hGo)⟩⟩
  · rw [if_neg hi] at fq okq ⊢
    obtain ⟨H0, hH0⟩ : ∃ H, g ++ [(⟨.tip false, .vals [.int .u32 id, .int .u64 A, .int .u64 B]⟩ : ABlk), ⟨.tip false, .vals ((rq0 xmt).l .nils)⟩] = H := ⟨_, rfl⟩
    have hG0 : Good H0 := by rw [← hH0]; exact good_app hg rfl
    have ha0 : At0 H0 := by rw [← hH0]; exact ha.app _
    have c1 : H0[g.length]? = some ⟨.tip false, .vals [.int .u32 id, .int .u64 A, .int .u64 B]⟩ := by rw [← hH0, List.getElem?_append_right (Nat.le_refl _)]; simp
    have c2 : H0[g.length + 1]? = some ⟨.tip false, .vals ((rq0 xmt).l .nils)⟩ := by rw [← hH0, List.getElem?_append_right (by omega)]; simp
    have d1 := (List.getElem?_eq_some_iff.1 c1).1
    have d2 := (List.getElem?_eq_some_iff.1 c2).1
    have k0 : Keeps g H0 none := by rw [← hH0]; exact Keeps.app _ _ _ rfl
    have f0 := rqs_fit (xmt := xmt) (t := 0) hi
    have es := psign_ok (A := A) (B := B) (rq0_ok x0 x1) i0 i1 f0.1 f0.2.1 (x := .nils) rfl hG0 ha0 (ExtAt.nil _) rfl
    obtain ⟨T, hT⟩ : ∃ z, tagI A B (bodyP (rq0 xmt) []) = z := ⟨_, rfl⟩
    rw [hT] at es fq okq ⊢
    obtain ⟨H1, hH1⟩ : ∃ z, H0.set (g.length + 1) ⟨.tip false, .vals ((sgP (rq0 xmt) id T).l .nils)⟩ = z := ⟨_, rfl⟩
    have k1 : Keeps g H1 none := by rw [← hH1]; exact keeps_set k0 (by omega) rfl
    have hG1 := k1.2.2 hg
    have ha1 := at0_keep ha k1
    have c3 : H1[g.length + 1]? = some ⟨.tip false, .vals ((sgP (rq0 xmt) id T).l .nils)⟩ := by rw [← hH1, List.getElem?_set_self d2]
    have d3 := (List.getElem?_eq_some_iff.1 c3).1
    obtain ⟨v, js, e, t, m, hGo⟩ := pput_ok okq fq.1 fq.2.1 (x := .nils) rfl hG1 ha1 (ExtAt.nil _)
    simp only [Pk.l, rq0, sgP] at e es hH0 hH1 c2 c3
    have nv := t.na
    simp (maxDischargeDepth := 9) -implicitDefEqProofs only [push_cast, simprocAttr, M14, nadd1, nadd2, nadd3, nadd4, nadd5, nadd6, nadd7, nadd8, nadd9, nadd10, nadd11, nadd12, hH0, c1, d1, c2, d2, hi, es, hH1, c3, d3, e, nv]
    exact ⟨(t.mono k1.2.1).lt, ⟨t.mono k1.2.1, m, kT k1 (kG hGo)⟩⟩
end
end Go.Proofs.YtdpbbagllhfjbaaDoorW.AI.G
