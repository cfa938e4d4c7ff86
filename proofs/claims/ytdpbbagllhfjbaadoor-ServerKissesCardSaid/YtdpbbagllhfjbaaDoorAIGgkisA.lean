import Derived.Test.YtdpbbagllhfjbaaDoorAIGgsrB
namespace Go.Proofs.YtdpbbagllhfjbaaDoorW.AI.G
open Go Go.Proofs.YtdpbbagllhfjbaaDoorW.AI Go.Proofs.YtdpbbagllhfjbaaDoorW.AI.Oct
set_option maxRecDepth 100000
set_option linter.unusedVariables false
set_option linter.unusedSimpArgs false
set_option linter.unusedSectionVars false
set_option maxHeartbeats 64000000 in
theorem kisses_body (g : AHeap) (hg : Good g) (ha : At0 g) (hT : AtT g) (S0 : Srv) (s0 : 0 ≤ S0.st) (s1 : S0.st ≤ 255) (r0 : 0 ≤ S0.rid) (r1 : S0.rid ≤ 4294967295) {xmt oid oa ob : Int} (x0 : 0 ≤ xmt) (x1 : xmt ≤ 18446744073709551615) (l0 : List UInt8) :
    Wp (xbody (W CP) M6 [.agg S0.l, .int .u64 xmt, .str (sb l0), .agg [.int .u32 oid, .int .u64 oa, .int .u64 ob]] g) fun r => r.1 = .bool true := by
  -- the code
  obtain ⟨M, hM⟩ : ∃ M, l0.length = M := ⟨_, rfl⟩
  have hs : (sb l0).size = M := hM
  obtain ⟨m0, hm0, hm4, hmin⟩ : ∃ m : Nat, m ≤ M ∧ m ≤ 4 ∧ (if (4 : Int) < (M : Int) then (4 : Int) else (M : Int)) = (m : Int) := by
    by_cases hc : 4 < M
    · exact ⟨4, by omega, by omega, by rw [if_pos (by omega)]; rfl⟩
    · exact ⟨M, by omega, by omega, by rw [if_neg (by omega)]⟩
  have hln : (l0.take m0).length = m0 := by rw [List.length_take]; omega
  obtain ⟨l, hl⟩ : ∃ l, l0.take m0 = l := ⟨_, rfl⟩
  rw [hl] at hln
  have hl4 : l.length ≤ 4 := by omega
  have hsl : (sb l).size = m0 := hln
  -- the server
  have ok := mkS_ok (S := S0) r0 r1
  have kid0 := or1_in (x := S0.kid)
  have rho0 := mkR_in S0.rho
  have eM := fun h => made_c s0 s1 r0 r1 h
  obtain ⟨⟨st, rid, kid, ka, kb, rho⟩, hS⟩ : ∃ z, mkS S0 = z := ⟨_, rfl⟩
  have hk : abits .or .u32 S0.kid 1 = kid := congrArg Srv.kid hS
  have hr : mkR S0.rho = rho := congrArg Srv.rho hS
  rw [hS] at ok eM
  rw [hk] at kid0
  rw [hr] at rho0
  have st1 : 1 ≤ st := ok.s1
  have st2 : st ≤ 15 := ok.s2
  have rid0 : 0 ≤ rid := ok.r0
  have rid1 : rid ≤ 4294967295 := ok.r1
  have hid : kid ≠ 0 := by omega
  clear hk hr hS
  have sh0 := shV_in (ns := rho) (by omega)
  have shr := rho_sh rho0.1 rho0.2
  have tA := stV_in (ns := 1000000000) (by omega)
  have nA := stV_ne (ns := 1000000000) (by omega) (by omega)
  have cv := codeV_in l
  -- the first answer
  have fitR := rqP_fit (xmt := xmt) (id := 0) (A := 0) (B := 0)
  have okR := rqP_ok (xmt := xmt) (id := 0) (A := 0) (B := 0) x0 x1 (by omega) (by omega)
  have hs1 : sayB 0 0 l.length 1000000000 1000000000 = true := by simp only [sayB, decide_eq_true_eq]; omega
  have eR1 := (ansP_put (S := ⟨st, rid, kid, ka, kb, rho⟩) (took := 1000000000) (gave := 1000000000) (lie := 0) (leap := 0) (l := l) okR fitR).trans (ans_un (S := ⟨st, rid, kid, ka, kb, rho⟩) hs1)
  simp only [Int.add_zero] at eR1
  obtain ⟨lp, hlp⟩ : ∃ z, (if l = [] then (0 : Int) else 3) = z := ⟨_, rfl⟩
  obtain ⟨sp, hsp⟩ : ∃ z, (if l = [] then st else 0) = z := ⟨_, rfl⟩
  obtain ⟨rp, hrp⟩ : ∃ z, (if l = [] then rid else codeV l) = z := ⟨_, rfl⟩
  obtain ⟨sh, hsh⟩ : ∃ z, shV rho = z := ⟨_, rfl⟩
  obtain ⟨ta, hta⟩ : ∃ z, stV 1000000000 = z := ⟨_, rfl⟩
  rw [hta] at tA nA eR1
  rw [hsh] at sh0 shr eR1
  rw [hlp, hsp, hrp] at eR1
  have kA : AOk lp sp xmt sh rp ta ta := by
    by_cases c : l = []
    · rw [if_pos c] at hlp hsp hrp
      constructor <;> omega
    · rw [if_neg c] at hlp hsp hrp
      constructor <;> omega
  have okA := aP_ok kA
  have fA := aP_fit (lp := lp) (st := sp) (xmt := xmt) (sh := sh) (rid := rp) (a := ta) (b := ta) kA.l0 kA.l1
  -- the heaps
  obtain ⟨H1, hH1⟩ : ∃ H, g ++ [(⟨.tip false, .vals S0.l⟩ : ABlk), ⟨.tip false, .vals [.int .u32 oid, .int .u64 oa, .int .u64 ob]⟩] = H := ⟨_, rfl⟩
  have k1 : Keeps g H1 none := by rw [← hH1]; exact Keeps.app _ _ _ rfl
  have b1 : H1[g.length]? = some ⟨.tip false, .vals S0.l⟩ := by rw [← hH1, List.getElem?_append_right (Nat.le_refl _)]; simp
  have c1 : H1[g.length + 1]? = some ⟨.tip false, .vals [.int .u32 oid, .int .u64 oa, .int .u64 ob]⟩ := by rw [← hH1, List.getElem?_append_right (by omega)]; simp
  have l1' := (List.getElem?_eq_some_iff.1 b1).1
  have lc1 := (List.getElem?_eq_some_iff.1 c1).1
  have e1 := eM H1
  obtain ⟨H2, hH2⟩ : ∃ H, H1 ++ [(⟨.tip false, .vals (Srv.l ⟨st, rid, kid, ka, kb, rho⟩)⟩ : ABlk), ⟨.tip false, .vals (Srv.l ⟨st, rid, kid, ka, kb, rho⟩)⟩, ⟨.tip false, .vals (Srv.l ⟨st, rid, kid, ka, kb, rho⟩)⟩, ⟨.tip false, .vals (Srv.b ⟨st, rid, kid, ka, kb, rho⟩ 0)⟩] = H := ⟨_, rfl⟩
  have k2 : Keeps H1 H2 none := by rw [← hH2]; exact Keeps.app _ _ _ rfl
  have x2 : H2[H1.length + 3]? = some ⟨.tip false, .vals (Srv.b ⟨st, rid, kid, ka, kb, rho⟩ 0)⟩ := by rw [← hH2, List.getElem?_append_right (by omega)]; simp
  rw [hH2] at e1
  have hqg : g.length + 1 < H1.length + 3 := by omega
  obtain ⟨q, hq⟩ : ∃ z, H1.length + 3 = z := ⟨_, rfl⟩
  rw [hq] at e1 x2 hqg
  have qg : q ≠ g.length := by omega
  have qg1 : q ≠ g.length + 1 := by omega
  have q1 : 1 < q := by have := ha.2; omega
  have npg : ¬ q < g.length := by omega
  have b2 := kN k2 _ _ b1
  have l2 := (List.getElem?_eq_some_iff.1 b2).1
  have c2 := kN k2 _ _ c1
  obtain ⟨H3, hH3⟩ : ∃ H, H2.set g.length ⟨.tip false, .vals (Srv.l ⟨st, rid, kid, ka, kb, rho⟩)⟩ = H := ⟨_, rfl⟩
  have k3 : Keeps g H3 none := by rw [← hH3]; exact keeps_set (kT k1 k2) (Nat.le_refl _) rfl
  have b3 : H3[g.length]? = some ⟨.tip false, .vals (Srv.l ⟨st, rid, kid, ka, kb, rho⟩)⟩ := by rw [← hH3, List.getElem?_set_self l2]
  have x3 : H3[q]? = some ⟨.tip false, .vals (Srv.b ⟨st, rid, kid, ka, kb, rho⟩ 0)⟩ := by rw [← hH3, List.getElem?_set_ne (by omega)]; exact x2
  have c3 : H3[g.length + 1]? = some ⟨.tip false, .vals [.int .u32 oid, .int .u64 oa, .int .u64 ob]⟩ := by rw [← hH3, List.getElem?_set_ne (by omega)]; exact c2
  have g3 := k3.2.2 hg
  have a3 := at0_keep ha k3
  have t3 := att_keep hT k3
  obtain ⟨v4, H4, e4, bv4, mv4, k4⟩ := req_c (xmt := xmt) (id := 0) (A := 0) (B := 0) x0 x1 (by omega) (by omega) g3 a3
  have g4 := k4.2.2 g3
  have a4 := at0_keep a3 k4
  have t4 := att_keep t3 k4
  have n4 := bv4.na
  obtain ⟨v5, H5, e5, bv5, mv5, k5, x5⟩ := ansok_c (l := l) (leap := 0) (lie := 0) (took := 1000000000) (gave := 1000000000) ok g4 a4 (kN k4 _ _ x3) (by omega) (by omega) (sv_of bv4 mv4) (len_put fitR.2.1) (by omega) (by omega) (by omega) (by omega) (by omega) (by omega) (by omega) (by omega) eR1
  have x5' : H5[q]? = some ⟨.tip false, .vals (Srv.b ⟨st, rid, kid, ka, kb, rho⟩ 1)⟩ := x5
  have g5 := k5.2.2 g4
  have a5 := at0_keepP a4 k5 q1
  have t5 := att_keepP t4 k5 (by omega)
  have b5 := kV k5 qg (kN k4 _ _ b3)
  have c5 := kV k5 qg1 (kN k4 _ _ c3)
  have n5 := bv5.na
  obtain ⟨y6, H6, e6, ex6, yc6, yn6, yl6, k6⟩ := par0_c okA fA g5 a5 bv5 mv5
  have g6 := k6.2.2 g5
  have x6 := kN k6 _ _ x5'
  have l6 := (List.getElem?_eq_some_iff.1 x6).1
  obtain ⟨H7, hH7⟩ : ∃ H, H6 ++ [(⟨.tip false, .vals (Pk.l (aP lp sp xmt sh rp ta ta) y6)⟩ : ABlk)] = H := ⟨_, rfl⟩
  have k7 : Keeps H6 H7 none := by rw [← hH7]; exact Keeps.app _ _ _ rfl
  have p7 : H7[H6.length]? = some ⟨.tip false, .vals (Pk.l (aP lp sp xmt sh rp ta ta) y6)⟩ := by rw [← hH7, List.getElem?_append_right (Nat.le_refl _)]; simp
  have k57 := kT k6 k7
  have g7 := k57.2.2 g5
  have a7 := at0_keep a5 k57
  have t7 := att_keep t5 k57
  have b7 := kN k57 _ _ b5
  have c7 := kN k57 _ _ c5
  have x7 := kN k7 _ _ x6
  have bv7 := bv5.keep (kN k57)
  have l7 := (List.getElem?_eq_some_iff.1 b7).1
  have lc7 := (List.getElem?_eq_some_iff.1 c7).1
  have m7 := (List.getElem?_eq_some_iff.1 p7).1
  have eSv := served_c g7 x7 st1
  have eK0 := kiss_q (x := y6) okA yc6 g7
  obtain ⟨tl, isK, tv, hc, eK, eTs⟩ : ∃ (tl : List UInt8) (isK : Bool) (tv : Int), (l = [] ∧ tl = [] ∧ isK = false ∧ tv = 0 ∨ l ≠ [] ∧ tl = trimz l ∧ isK = true ∧ tv = 23) ∧ W CP 23 [.agg (Pk.l (aP lp sp xmt sh rp ta ta) y6)] H7 = some (.tup [.str (sb tl), .bool isK], H7, []) ∧ W CP 16 [.agg (Pk.l (aP lp sp xmt sh rp ta ta) y6)] H7 = some (.int .i64 tv, H7, []) := by
    by_cases c : l = []
    · rw [if_pos c] at hlp hsp hrp
      subst hlp hsp hrp
      refine ⟨[], false, 0, Or.inl ⟨c, rfl, rfl, rfl⟩, ?_, tst_ok okA yc6 g7 t7 rfl st1 st2 (by show (0 : Int) ≠ 3; decide) nA nA shr.2.2⟩
      rw [eK0, if_neg (by show ¬ st = 0; omega)]
    · rw [if_neg c] at hlp hsp hrp
      subst hlp hsp hrp
      refine ⟨trimz l, true, 23, Or.inr ⟨c, rfl, rfl, rfl⟩, ?_, tst_kiss okA yc6 g7 t7 rfl rfl⟩
      rw [eK0, if_pos (by rfl)]
      show some (AV.tup [.str (sb (kissV (codeV l))), .bool true], H7, ([] : List Nat)) = _
      rw [kiss_code hl4]
  clear eK0
  simp only [Srv.l, Srv.b, Pk.l, aP] at hH1 hH2 hH3 hH7 e1 b1 b2 b3 b5 b7 e6 p7 eK eTs
  have np6 : ¬ H6.length < g.length := by have := k57.2.1; have := k5.2.1; have := k4.2.1; have := k3.2.1; omega
  simp (maxDischargeDepth := 9) -implicitDefEqProofs only [push_cast, simprocAttr, M6, nadd1, nadd2, nadd3, nadd4, nadd5, nadd6, nadd7, nadd8, nadd9, nadd10, nadd11, nadd12, hH1, b1, l1', e1, b2, l2, hH3, sb_size, sb_list, sb_extract, hM, hmin, hm0, hl, e4, n4, e5, n5, e6, yn6, yc6, hH7, p7, m7, eK, hln, npg, np6]
  refine wp_kRes (wp_kSeq (wp_kBlock (Wp.mono (Q := fun o => ∃ (a : Acts) (m : Nat), o = (.exit 0, a, H7, []) ∧ keepA [1, 2, 4, 7, 9, 10, 11, 12, 13, 14, 15, 16] a = [(1, .int .u64 xmt), (2, .str (sb l)), (4, .ptr g.length 0), (7, .ptr (g.length + 1) 0), (9, .ptr q 0), (10, v5), (11, .int .i64 0), (12, .ptr H6.length 0), (13, .int .i64 0), (14, .str (sb tl)), (15, .bool isK), (16, .int .i64 (m : Int))] ∧ m ≤ m0 ∧ l.take m = trimz l) ?_ ?_)))
  · refine wp_loop (fun k a h' ws => ∃ m : Nat, k = m ∧ m ≤ m0 ∧ trimz (l.take m) = trimz l ∧ a = [(1, .int .u64 xmt), (2, .str (sb l)), (4, .ptr g.length 0), (7, .ptr (g.length + 1) 0), (9, .ptr q 0), (10, v5), (11, .int .i64 0), (12, .ptr H6.length 0), (13, .int .i64 0), (14, .str (sb tl)), (15, .bool isK), (16, .int .i64 (m : Int))] ∧ h' = H7 ∧ ws = []) m0 ?_ ?_
    · refine ⟨m0, rfl, Nat.le_refl _, by rw [← hln, List.take_length], ?_, rfl, rfl⟩
      simp (maxDischargeDepth := 9) -implicitDefEqProofs only [push_cast, simprocAttr, n5]; try rfl
    · rintro m aa h' ws ⟨_, rfl, hm, ht, rfl, hh, rfl⟩
      obtain rfl : H7 = h' := hh.symm
      cases m with
      | zero =>
        simp (maxDischargeDepth := 9) -implicitDefEqProofs only [push_cast, simprocAttr, n5]
        refine ⟨_, 0, rfl, ?_, by omega, ht⟩
        simp (maxDischargeDepth := 9) -implicitDefEqProofs only [push_cast, simprocAttr, n5]
      | succ m =>
        obtain ⟨x, hx⟩ : ∃ x, l[m]? = some x := ⟨_, List.getElem?_eq_getElem (by omega)⟩
        have w1 : IntKind.i64.wrap ((m : Int) + 1 - 1) = (m : Int) := by rw [wr_i64 _ (by omega) (by omega)]; omega
        have g0 : (0 : Int) < (m : Int) + 1 := by omega
        by_cases hz : x = 0
        · subst hz
          have z : (((0 : UInt8).toNat : Nat) : Int) = 0 := rfl
          simp (maxDischargeDepth := 9) -implicitDefEqProofs only [push_cast, simprocAttr, n5, sb_list, w1, hx, z, g0]
          refine loop_next m (by omega) ⟨m, rfl, by omega, by rw [← ht, take_end hx, trimz_zero], ?_, rfl, rfl⟩
          simp (maxDischargeDepth := 9) -implicitDefEqProofs only [push_cast, simprocAttr, n5]; try rfl
        · have z : ¬ ((x.toNat : Nat) : Int) = 0 := fun e => hz (u8_zero.1 e)
          simp (maxDischargeDepth := 9) -implicitDefEqProofs only [push_cast, simprocAttr, n5, sb_list, w1, hx, z, g0]
          refine ⟨_, m + 1, rfl, ?_, hm, by rw [← ht, take_end hx, trimz_snoc _ hz]⟩
          simp (maxDischargeDepth := 9) -implicitDefEqProofs only [push_cast, simprocAttr, n5]
  rintro o ⟨a, m, rfl, hk, hm, hte⟩
  have hml : m ≤ l.length := by omega
  have hkb : kBlock 0 [1, 2, 4, 7, 9, 10, 11, 12, 13, 14, 15, 16] (some (.exit 0, a, H7, [])) = some (.normal, [(1, .int .u64 xmt), (2, .str (sb l)), (4, .ptr g.length 0), (7, .ptr (g.length + 1) 0), (9, .ptr q 0), (10, v5), (11, .int .i64 0), (12, .ptr H6.length 0), (13, .int .i64 0), (14, .str (sb tl)), (15, .bool isK), (16, .int .i64 (m : Int))], H7, []) := by rw [← hk]; rfl
  rw [hkb]
  clear hkb hk
  -- the other key
  have wo := or1_in (x := oid)
  obtain ⟨o1, ho1⟩ : ∃ z, abits .or .u32 oid 1 = z := ⟨_, rfl⟩
  rw [ho1] at wo
  obtain ⟨kw, hkw⟩ : ∃ z, IntKind.u32.wrap (kid + 1) = z := ⟨_, rfl⟩
  have wo2 := or1_in (x := kw)
  obtain ⟨o2, ho2⟩ : ∃ z, abits .or .u32 kw 1 = z := ⟨_, rfl⟩
  rw [ho2] at wo2
  have g1l : 1 < g.length + 1 := by have := ha.2; omega
  have dp6 : g.length + 1 ≠ H6.length := by have := k6.2.1; have := (List.getElem?_eq_some_iff.1 c5).1; omega
  obtain ⟨H8, hH8⟩ : ∃ H, H7.set (g.length + 1) ⟨.tip false, .vals [.int .u32 o1, .int .u64 oa, .int .u64 ob]⟩ = H := ⟨_, rfl⟩
  have k8 : Keeps H7 H8 (some (g.length + 1)) := by rw [← hH8]; exact kSet (Keeps.refl H7 none) rfl
  have c8 : H8[g.length + 1]? = some ⟨.tip false, .vals [.int .u32 o1, .int .u64 oa, .int .u64 ob]⟩ := by rw [← hH8, List.getElem?_set_self lc7]
  have b8 := kV k8 (by omega) b7
  have x8 := kV k8 (by omega) x7
  have lc8 := (List.getElem?_eq_some_iff.1 c8).1
  have lb8 := (List.getElem?_eq_some_iff.1 b8).1
  obtain ⟨H9, o', hcase, wo', k9, c9⟩ : ∃ (H9 : AHeap) (o' : Int), ((oa = ka ∧ ob = kb) ∧ H8.set (g.length + 1) ⟨.tip false, .vals [.int .u32 o2, .int .u64 oa, .int .u64 ob]⟩ = H9 ∨ ¬ (oa = ka ∧ ob = kb) ∧ H8 = H9) ∧ (1 ≤ o' ∧ o' ≤ 4294967295) ∧ Keeps H8 H9 (some (g.length + 1)) ∧ H9[g.length + 1]? = some ⟨.tip false, .vals [.int .u32 o', .int .u64 oa, .int .u64 ob]⟩ := by
    by_cases c : oa = ka ∧ ob = kb
    · exact ⟨_, o2, Or.inl ⟨c, rfl⟩, wo2, kSet (Keeps.refl H8 none) rfl, List.getElem?_set_self lc8⟩
    · exact ⟨H8, o1, Or.inr ⟨c, rfl⟩, wo, Keeps.refl _ _, c8⟩
  have b9 := kV k9 (by omega) b8
  have x9 := kV k9 (by omega) x8
  have bv9 := kB (kB bv7 k8 c7) k9 c8
  have g9 := k9.2.2 (k8.2.2 g7)
  have a9 := at0_keepP (at0_keepP a7 k8 g1l) k9 g1l
  have lb9 := (List.getElem?_eq_some_iff.1 b9).1
  have lc9 := (List.getElem?_eq_some_iff.1 c9).1
  -- a signed request
  obtain ⟨v10, H10, e10, bv10, mv10, k10⟩ := req_c (xmt := xmt) (id := kid) (A := ka) (B := kb) x0 x1 (by omega) (by omega) g9 a9
  have g10 := k10.2.2 g9
  have a10 := at0_keep a9 k10
  have n10 := bv10.na
  have tr0 := tag_le ka kb (bodyP (rq0 xmt) [])
  have eRq := rqP_q (xmt := xmt) (A := ka) (B := kb) hid
  have fitS := rqP_fit (xmt := xmt) (id := kid) (A := ka) (B := kb)
  have okS := rqP_ok (xmt := xmt) (id := kid) (A := ka) (B := kb) x0 x1 (by omega) (by omega)
  have argS := fun (took gave lie leap : Int) (h : sayB lie leap ([] : List UInt8).length took gave = false) => (ansP_put (S := ⟨st, rid, kid, ka, kb, rho⟩) (took := took) (gave := gave) (lie := lie) (leap := leap) (l := []) okS fitS).trans (ans_arg (S := ⟨st, rid, kid, ka, kb, rho⟩) (xmt := xmt) hid h)
  rw [eRq] at bv10 fitS okS argS
  have hwr := fun (t : Int) => qS_wrong (xmt := xmt) (id := kid) (A := ka) (B := kb) (t := t)
  obtain ⟨tr, htr⟩ : ∃ z, tagI ka kb (bodyP (rq0 xmt) []) = z := ⟨_, rfl⟩
  rw [htr] at tr0 bv10 fitS okS argS hwr
  have htw := wrap1_ne tr0.1 tr0.2
  have tw0 := u64_le (tr + 1)
  obtain ⟨tw, hw⟩ : ∃ z, IntKind.u64.wrap (tr + 1) = z := ⟨_, rfl⟩
  rw [hw] at htw tw0
  have okW := qS_ok (id := kid) (t := tw) x0 x1 (by omega) (by omega) tw0.1 tw0.2
  have fitW := qS_fit (xmt := xmt) (t := tw) hid
  obtain ⟨y11, H11, e11, ex11, yc11, yn11, yl11, k11⟩ := par0_c okS fitS g10 a10 bv10 mv10
  have g11 := k11.2.2 g10
  have a11 := at0_keep a10 k11
  obtain ⟨H12, hH12⟩ : ∃ H, H11 ++ [(⟨.tip false, .vals (Pk.l (qS xmt kid tr) y11)⟩ : ABlk)] = H := ⟨_, rfl⟩
  have k12 : Keeps H11 H12 none := by rw [← hH12]; exact Keeps.app _ _ _ rfl
  have r12 : H12[H11.length]? = some ⟨.tip false, .vals (Pk.l (qS xmt kid tr) y11)⟩ := by rw [← hH12, List.getElem?_append_right (Nat.le_refl _)]; simp
  have o12 := (List.getElem?_eq_some_iff.1 r12).1
  obtain ⟨H13, hH13⟩ : ∃ H, H12.set H11.length ⟨.tip false, .vals (Pk.l (qS xmt kid tw) y11)⟩ = H := ⟨_, rfl⟩
  have k13 : Keeps H11 H13 none := by rw [← hH13]; exact keeps_set k12 (Nat.le_refl _) rfl
  have r13 : H13[H11.length]? = some ⟨.tip false, .vals (Pk.l (qS xmt kid tw) y11)⟩ := by rw [← hH13, List.getElem?_set_self o12]
  have o13 := (List.getElem?_eq_some_iff.1 r13).1
  have g13 := k13.2.2 g11
  have a13 := at0_keep a11 k13
  obtain ⟨v14, js, e14, ta14, mv14, gg14⟩ := pput_ok okW fitW.1 fitW.2.1 (x := y11) yc11 g13 a13 (ex11 H13)
  obtain ⟨H14, hH14⟩ : ∃ H, H13 ++ js = H := ⟨_, rfl⟩
  have k14 : Keeps H13 H14 none := by rw [← hH14]; exact kG gg14
  rw [hH14] at e14 ta14 gg14
  have bv14 := ta14.bv (putP_byt (ext_byt (ExtAt.nil CP.gl)).1)
  have n14 := bv14.na
  have k914 := kT k10 (kT k11 (kT k13 k14))
  have a14 := at0_keep a9 k914
  have np11 : ¬ H11.length < g.length := by have := k10.2.1; have := k11.2.1; omega
  -- what is refused
  obtain ⟨H15, e15, k15⟩ := anser_c (l := []) (leap := 0) (lie := 0) (took := 0) (gave := 0) ok gg14 a14 (kN k914 _ _ x9) (by omega) (by omega) (sv_of bv14 mv14) (len_put fitW.2.1) (by omega) (by omega) (by omega) (by omega) (by omega) (by omega) (by omega) (by omega) ((ansP_put okW fitW).trans (ans_mac rfl rfl (hwr tw htw)))
  have k915 := kT k914 k15
  obtain ⟨H16, e16, k16⟩ := anser_c (l := []) (leap := 0) (lie := 0) (took := 0) (gave := 0) ok (k915.2.2 g9) (at0_keep a9 k915) (kN k915 _ _ x9) (by omega) (by omega) (sv_of (bv9.keep (kN k915)) mv5) (len_put fA.2.1) (by omega) (by omega) (by omega) (by omega) (by omega) (by omega) (by omega) (by omega) ((ansP_put okA fA).trans (ans_mode (by show (4 : Int) ≠ 3; decide)))
  have k916 := kT k915 k16
  have k1016 := kT k11 (kT k13 (kT k14 (kT k15 k16)))
  have bv16 := bv10.keep (kN k1016)
  have eC := fun h => slcV_hi (h := h) bv16 (put_40 (P := qS xmt kid tr))
  have bvc := bv16.take (put_40 (P := qS xmt kid tr))
  have ac := bvc.na
  have lcc := bvc.len
  have hcl : ((putP (qS xmt kid tr) []).take 40).length = 40 := by rw [List.length_take]; have := put_40 (P := qS xmt kid tr); omega
  rw [hcl] at lcc
  have ln10 := bv10.len
  obtain ⟨H17, e17, k17⟩ := anser_c (l := []) (leap := 0) (lie := 0) (took := 0) (gave := 0) ok (k916.2.2 g9) (at0_keep a9 k916) (kN k916 _ _ x9) (by omega) (by omega) (Or.inr (bv_src bvc (mn_cut mv10) (fun e => by rw [e] at hcl; simp at hcl))) (by omega) (by omega) (by omega) (by omega) (by omega) (by omega) (by omega) (by omega) (by omega) (show ansP ⟨st, rid, kid, ka, kb, rho⟩ _ _ _ _ _ _ = .err 4 by unfold ansP; rw [parse40 fitS.2.1])
  obtain ⟨vc, hvc⟩ : ∃ z, cutX v10 40 = z := ⟨_, rfl⟩
  rw [hvc] at eC ac lcc e17
  have k917 := kT k916 k17
  have k1017 := kT k1016 k17
  obtain ⟨H18, e18, k18⟩ := anser_c (l := []) (leap := 0) (lie := 0) (took := 5) (gave := 4) ok (k917.2.2 g9) (at0_keep a9 k917) (kN k917 _ _ x9) (by omega) (by omega) (sv_of (bv10.keep (kN k1017)) mv10) (len_put fitS.2.1) (by omega) (by omega) (by omega) (by omega) (by omega) (by omega) (by omega) (by omega) (argS 5 4 0 0 rfl)
  have k918 := kT k917 k18
  have k1018 := kT k1017 k18
  obtain ⟨H19, e19, k19⟩ := anser_c (l := []) (leap := 0) (lie := -6) (took := 5) (gave := 5) ok (k918.2.2 g9) (at0_keep a9 k918) (kN k918 _ _ x9) (by omega) (by omega) (sv_of (bv10.keep (kN k1018)) mv10) (len_put fitS.2.1) (by omega) (by omega) (by omega) (by omega) (by omega) (by omega) (by omega) (by omega) (argS 5 5 (-6) 0 rfl)
  have k919 := kT k918 k19
  have k1019 := kT k1018 k19
  obtain ⟨H20, e20, k20⟩ := anser_c (l := []) (leap := 4) (lie := 0) (took := 5) (gave := 5) ok (k919.2.2 g9) (at0_keep a9 k919) (kN k919 _ _ x9) (by omega) (by omega) (sv_of (bv10.keep (kN k1019)) mv10) (len_put fitS.2.1) (by omega) (by omega) (by omega) (by omega) (by omega) (by omega) (by omega) (by omega) (argS 5 5 0 4 rfl)
  have k920 := kT k919 k20
  have g20 := k920.2.2 g9
  have a20 := at0_keep a9 k920
  have b20 := kN k920 _ _ b9
  have c20 := kN k920 _ _ c9
  have x20 := kN k920 _ _ x9
  have lc20 := (List.getElem?_eq_some_iff.1 c20).1
  rw [← sb_none] at e15 e16 e17 e18 e19 e20
  -- another's request
  obtain ⟨v21, H21, e21, bv21, mv21, k21⟩ := req_c (xmt := xmt) (id := o') (A := oa) (B := ob) x0 x1 (by omega) (by omega) g20 a20
  have g21 := k21.2.2 g20
  have a21 := at0_keep a20 k21
  have n21 := bv21.na
  have tf0 := tag_le oa ob (bodyP (rq0 xmt) [])
  have eRf := rqP_q (xmt := xmt) (id := o') (A := oa) (B := ob) (by omega)
  have fitF := rqP_fit (xmt := xmt) (id := o') (A := oa) (B := ob)
  have okF := rqP_ok (xmt := xmt) (id := o') (A := oa) (B := ob) x0 x1 (by omega) (by omega)
  rw [eRf] at bv21 fitF okF
  obtain ⟨tf, htf⟩ : ∃ z, tagI oa ob (bodyP (rq0 xmt) []) = z := ⟨_, rfl⟩
  rw [htf] at tf0 bv21 fitF okF
  obtain ⟨y22, H22, e22, ex22, yc22, yn22, yl22, k22⟩ := par0_c okF fitF g21 a21 bv21 mv21
  obtain ⟨H23, hH23⟩ : ∃ H, H22 ++ [(⟨.tip false, .vals (Pk.l (qS xmt o' tf) y22)⟩ : ABlk)] = H := ⟨_, rfl⟩
  have k23 : Keeps H22 H23 none := by rw [← hH23]; exact Keeps.app _ _ _ rfl
  have f23 : H23[H22.length]? = some ⟨.tip false, .vals (Pk.l (qS xmt o' tf) y22)⟩ := by rw [← hH23, List.getElem?_append_right (Nat.le_refl _)]; simp
  have k2023 := kT k21 (kT k22 k23)
  have g23 := k2023.2.2 g20
  have a23 := at0_keep a20 k2023
  have b23 := kN k2023 _ _ b20
  have x23 := kN k2023 _ _ x20
  have bv23 := bv21.keep (kN (kT k22 k23))
  have np22 : ¬ H22.length < g.length := by have := k22.2.1; have := k21.2.1; have := k920.2.1; omega
  have q22 : q ≠ H22.length := by have := (List.getElem?_eq_some_iff.1 x20).1; have := k22.2.1; have := k21.2.1; omega
  obtain ⟨rb, hrb⟩ : ∃ z, rightP (qS xmt o' tf) [] kid ka kb = z := ⟨_, rfl⟩
  obtain ⟨H24, w24, z24, n24, ws24, hc24, e24, nw24, k24, x24, b24, f24, a24⟩ : ∃ (H24 : AHeap) (w24 : AV) (z24 n24 : Int) (ws24 : List Nat), (rb = true ∧ z24 = 0 ∧ n24 = 2 ∧ ws24 = [q] ∨ rb = false ∧ z24 = 21 ∧ n24 = 1 ∧ ws24 = []) ∧ W CP 10 [.ptr q 0, v21, .int .i64 5, .int .i64 5, .agg [.int .i64 0, .int .u8 0, .str ⟨#[]⟩]] H23 = some (.tup [w24, .int .i64 z24], H24, ws24) ∧ noAny (some w24) = some w24 ∧ Good H24 ∧ H24[q]? = some ⟨.tip false, .vals (Srv.b ⟨st, rid, kid, ka, kb, rho⟩ n24)⟩ ∧ H24[g.length]? = some ⟨.tip false, .vals (Srv.l ⟨st, rid, kid, ka, kb, rho⟩)⟩ ∧ H24[H22.length]? = some ⟨.tip false, .vals (Pk.l (qS xmt o' tf) y22)⟩ ∧ At0 H24 := by
    cases rb with
    | true =>
      obtain ⟨w, H, e, bw, _, kk, xx⟩ := ansok_c (l := []) (leap := 0) (lie := 0) (took := 5) (gave := 5) ok g23 a23 x23 (by omega) (by omega) (sv_of bv23 mv21) (len_put fitF.2.1) (by omega) (by omega) (by omega) (by omega) (by omega) (by omega) (by omega) (by omega) ((ansP_put okF fitF).trans (ans_rt rfl hrb rfl))
      exact ⟨H, w, 0, 2, [q], Or.inl ⟨rfl, rfl, rfl, rfl⟩, e, bw.na, kk.2.2 g23, xx, kV kk qg b23, kV kk q22 f23, at0_keepP a23 kk q1⟩
    | false =>
      obtain ⟨H, e, kk⟩ := anser_c (l := []) (leap := 0) (lie := 0) (took := 5) (gave := 5) ok g23 a23 x23 (by omega) (by omega) (sv_of bv23 mv21) (len_put fitF.2.1) (by omega) (by omega) (by omega) (by omega) (by omega) (by omega) (by omega) (by omega) ((ansP_put okF fitF).trans (ans_mac rfl rfl hrb))
      exact ⟨H, .nils, 21, 1, [], Or.inr ⟨rfl, rfl, rfl, rfl⟩, e, rfl, kk.2.2 g23, kN kk _ _ x23, kN kk _ _ b23, kN kk _ _ f23, at0_keep a23 kk⟩
  have lb24 := (List.getElem?_eq_some_iff.1 b24).1
  have lf24 := (List.getElem?_eq_some_iff.1 f24).1
  have eRt := pright_c (id := kid) (A := ka) (B := kb) okF (by simp) (by simp) yc22 k24 a24 (ex22 H24)
  rw [hrb] at eRt
  have eSv2 := served_c k24 x24 st1
  have eAl := fun h => al28 h
  have np1 : ¬ g.length + 1 < g.length := by omega
  have es0 := str_e
  simp only [Srv.l, Srv.b, Pk.l, qS] at hH12 hH13 hH23 b8 b9 r12 r13 e11 e14 e22 f23 b24 f24 eRt
  rcases hc24 with ⟨rfl, rfl, rfl, rfl⟩ | ⟨rfl, rfl, rfl, rfl⟩ <;> rcases hcase with ⟨⟨ca, cb⟩, hH9⟩ | ⟨cn, rfl⟩
  case inl.inl | inr.inl =>
    replace ca : (oa = ka) = True := eq_true ca
    replace cb : (ob = kb) = True := eq_true cb
    rcases hc with ⟨rfl, rfl, rfl, rfl⟩ | ⟨cl, rfl, rfl, rfl⟩
    · simp (maxDischargeDepth := 9) -implicitDefEqProofs only [push_cast, simprocAttr, nadd1, nadd2, nadd3, nadd4, nadd5, nadd6, nadd7, nadd8, nadd9, nadd10, nadd11, nadd12, yc6, yn6, p7, m7, eTs, n5, sb_size, sb_list, sb_extract, hml, hte, eSv, c7, lc7, ho1, hH8, b8, lb8, c8, lc8, b9, lb9, e10, n10, e11, yn11, yc11, hH12, r12, o12, hw, hH13, r13, o13, e14, n14, e15, e16, ↓slc_eqH, eC, ac, lcc, ln10, e17, e18, e19, e20, c20, lc20, e21, n21, e22, yn22, yc22, hH23, e24, nw24, f24, lf24, b24, lb24, eRt, eSv2, eAl, npg, np1, np6, np11, np22, decide_false, decide_true, Bool.not_false, Bool.not_true, Bool.and_true, ca, cb, hkw, ho2, hH9, es0]
    · have es1 := str_n cl
      simp (maxDischargeDepth := 9) -implicitDefEqProofs only [push_cast, simprocAttr, nadd1, nadd2, nadd3, nadd4, nadd5, nadd6, nadd7, nadd8, nadd9, nadd10, nadd11, nadd12, yc6, yn6, p7, m7, eTs, n5, sb_size, sb_list, sb_extract, hml, hte, eSv, c7, lc7, ho1, hH8, b8, lb8, c8, lc8, b9, lb9, e10, n10, e11, yn11, yc11, hH12, r12, o12, hw, hH13, r13, o13, e14, n14, e15, e16, ↓slc_eqH, eC, ac, lcc, ln10, e17, e18, e19, e20, c20, lc20, e21, n21, e22, yn22, yc22, hH23, e24, nw24, f24, lf24, b24, lb24, eRt, eSv2, eAl, npg, np1, np6, np11, np22, decide_false, decide_true, Bool.not_false, Bool.not_true, Bool.and_true, ca, cb, hkw, ho2, hH9, es1]
  case inl.inr | inr.inr =>
    rcases Classical.propComplete (oa = ka) with ca | ca
    · have cb : ¬ ob = kb := fun e => cn ⟨of_eq_true ca, e⟩
      rcases hc with ⟨rfl, rfl, rfl, rfl⟩ | ⟨cl, rfl, rfl, rfl⟩
      · simp (maxDischargeDepth := 9) -implicitDefEqProofs only [push_cast, simprocAttr, nadd1, nadd2, nadd3, nadd4, nadd5, nadd6, nadd7, nadd8, nadd9, nadd10, nadd11, nadd12, yc6, yn6, p7, m7, eTs, n5, sb_size, sb_list, sb_extract, hml, hte, eSv, c7, lc7, ho1, hH8, b8, lb8, c8, lc8, b9, lb9, e10, n10, e11, yn11, yc11, hH12, r12, o12, hw, hH13, r13, o13, e14, n14, e15, e16, ↓slc_eqH, eC, ac, lcc, ln10, e17, e18, e19, e20, c20, lc20, e21, n21, e22, yn22, yc22, hH23, e24, nw24, f24, lf24, b24, lb24, eRt, eSv2, eAl, npg, np1, np6, np11, np22, decide_false, decide_true, Bool.not_false, Bool.not_true, Bool.and_true, ca, cb, es0]
      · have es1 := str_n cl
        simp (maxDischargeDepth := 9) -implicitDefEqProofs only [push_cast, simprocAttr, nadd1, nadd2, nadd3, nadd4, nadd5, nadd6, nadd7, nadd8, nadd9, nadd10, nadd11, nadd12, yc6, yn6, p7, m7, eTs, n5, sb_size, sb_list, sb_extract, hml, hte, eSv, c7, lc7, ho1, hH8, b8, lb8, c8, lc8, b9, lb9, e10, n10, e11, yn11, yc11, hH12, r12, o12, hw, hH13, r13, o13, e14, n14, e15, e16, ↓slc_eqH, eC, ac, lcc, ln10, e17, e18, e19, e20, c20, lc20, e21, n21, e22, yn22, yc22, hH23, e24, nw24, f24, lf24, b24, lb24, eRt, eSv2, eAl, npg, np1, np6, np11, np22, decide_false, decide_true, Bool.not_false, Bool.not_true, Bool.and_true, ca, cb, es1]
    · rcases hc with ⟨rfl, rfl, rfl, rfl⟩ | ⟨cl, rfl, rfl, rfl⟩
      · simp (maxDischargeDepth := 9) -implicitDefEqProofs only [push_cast, simprocAttr, nadd1, nadd2, nadd3, nadd4, nadd5, nadd6, nadd7, nadd8, nadd9, nadd10, nadd11, nadd12, yc6, yn6, p7, m7, eTs, n5, sb_size, sb_list, sb_extract, hml, hte, eSv, c7, lc7, ho1, hH8, b8, lb8, c8, lc8, b9, lb9, e10, n10, e11, yn11, yc11, hH12, r12, o12, hw, hH13, r13, o13, e14, n14, e15, e16, ↓slc_eqH, eC, ac, lcc, ln10, e17, e18, e19, e20, c20, lc20, e21, n21, e22, yn22, yc22, hH23, e24, nw24, f24, lf24, b24, lb24, eRt, eSv2, eAl, npg, np1, np6, np11, np22, decide_false, decide_true, Bool.not_false, Bool.not_true, Bool.and_true, ca, es0]
      · have es1 := str_n cl
        simp (maxDischargeDepth := 9) -implicitDefEqProofs only [push_cast, simprocAttr, nadd1, nadd2, nadd3, nadd4, nadd5, nadd6, nadd7, nadd8, nadd9, nadd10, nadd11, nadd12, yc6, yn6, p7, m7, eTs, n5, sb_size, sb_list, sb_extract, hml, hte, eSv, c7, lc7, ho1, hH8, b8, lb8, c8, lc8, b9, lb9, e10, n10, e11, yn11, yc11, hH12, r12, o12, hw, hH13, r13, o13, e14, n14, e15, e16, ↓slc_eqH, eC, ac, lcc, ln10, e17, e18, e19, e20, c20, lc20, e21, n21, e22, yn22, yc22, hH23, e24, nw24, f24, lf24, b24, lb24, eRt, eSv2, eAl, npg, np1, np6, np11, np22, decide_false, decide_true, Bool.not_false, Bool.not_true, Bool.and_true, ca, es1]
end Go.Proofs.YtdpbbagllhfjbaaDoorW.AI.G
namespace Go.Proofs.YtdpbbagllhfjbaaDoorW.AI.G
open Go Go.Proofs.YtdpbbagllhfjbaaDoorW.AI Go.Proofs.YtdpbbagllhfjbaaDoorW.AI.Oct Go.RowKit
set_option maxRecDepth 100000
set_option linter.unusedSimpArgs false
set_option linter.unusedVariables false
set_option linter.unusedSectionVars false
theorem kisses_law (js : AHeap) (avs : List AV) (hx : Ext js) (ht : TyA (CP.gl ++ js) [.agg [.i .u8, .i .u32, .i .u32, .i .u64, .i .u64, .i .i64], .one (.i .u64), .one .s, .agg [.i .u32, .i .u64, .i .u64]] avs) : ∃ h' ws, W CP 6 avs (CP.gl ++ js) = some (.bool true, h', ws) := by
  simp only [TyA] at ht
  obtain ⟨cs1, _, rfl, k1, _, _, rfl, y2, _, _, rfl, y3, cs4, _, rfl, k4, rfl⟩ := ht
  simp only [Ty] at y2 y3
  obtain ⟨xmt, rfl, x0, x1⟩ := y2
  obtain ⟨s, rfl, _⟩ := y3
  simp only [TyL, Ty] at k1 k4
  obtain ⟨_, _, rfl, ⟨n1, rfl, a1, b1⟩, _, _, rfl, ⟨n2, rfl, a2, b2⟩, _, _, rfl, ⟨n3, rfl, a3, b3⟩, _, _, rfl, ⟨n4, rfl, a4, b4⟩, _, _, rfl, ⟨n5, rfl, a5, b5⟩, _, _, rfl, ⟨n6, rfl, a6, b6⟩, rfl⟩ := k1
  obtain ⟨_, _, rfl, ⟨o1, rfl, _, _⟩, _, _, rfl, ⟨o2, rfl, _, _⟩, _, _, rfl, ⟨o3, rfl, _, _⟩, rfl⟩ := k4
  have m1 : IntKind.u8.min = 0 := rfl
  have m2 : IntKind.u32.min = 0 := rfl
  have m3 : IntKind.u32.max = 4294967295 := rfl
  have m4 : IntKind.u8.max = 255 := rfl
  have m5 : IntKind.u64.min = 0 := rfl
  have m6 : IntKind.u64.max = 18446744073709551615 := rfl
  rw [m1] at a1
  rw [m4] at b1
  rw [m2] at a2
  rw [m3] at b2
  rw [m5] at x0
  rw [m6] at x1
  refine W_law (m := M6) (fun _ => rfl) rfl ?_ fun h0 => ?_
  · exact kisses_body _ (pgood_ext hx) (at0_ext hx) (att_gl.app js) ⟨n1, n2, n3, n4, n5, n6⟩ a1 b1 a2 b2 x0 x1 s.data.toList
  · exact kisses_body _ pgood_gl at0_gl att_gl ⟨n1, n2, n3, n4, n5, n6⟩ a1 b1 a2 b2 x0 x1 s.data.toList
theorem kisses_kinds : aksOf X.P 20 [27, 23, 9, 25] = some [.agg [.i .u8, .i .u32, .i .u32, .i .u64, .i .u64, .i .i64], .one (.i .u64), .one .s, .agg [.i .u32, .i .u64, .i .u64]] := by kernel_rfl
end Go.Proofs.YtdpbbagllhfjbaaDoorW.AI.G
