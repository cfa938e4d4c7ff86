import Derived.Test.YtdpbbagllhfjbaaDoorAIGgsrB
namespace Go.Proofs.YtdpbbagllhfjbaaDoorW.AI.G
open Go Go.Proofs.YtdpbbagllhfjbaaDoorW.AI Go.Proofs.YtdpbbagllhfjbaaDoorW.AI.Oct
set_option maxRecDepth 100000
set_option linter.unusedVariables false
set_option linter.unusedSimpArgs false
set_option linter.unusedSectionVars false
set_option maxHeartbeats 32000000 in
theorem honest_body (g : AHeap) (hg : Good g) (ha : At0 g) (hT : AtT g) (S0 : Srv) (s0 : 0 ≤ S0.st) (s1 : S0.st ≤ 255) (r0 : 0 ≤ S0.rid) (r1 : S0.rid ≤ 4294967295) {xmt took takes lie away : Int} (x0 : 0 ≤ xmt) (x1 : xmt ≤ 18446744073709551615) :
    Wp (xbody (W CP) M5 [.agg S0.l, .int .u64 xmt, .int .i64 took, .int .i64 takes, .int .i64 lie, .int .i64 away] g) fun r => r.1 = .bool true := by
  -- the numbers
  have a0 := and_in (x := took) (m := 2305843009213693951) (by omega) (by omega)
  obtain ⟨a, hA⟩ : ∃ z, abits .and .i64 took 2305843009213693951 = z := ⟨_, rfl⟩
  rw [hA] at a0
  have c0 := and_in (x := takes) (m := 4294967295) (by omega) (by omega)
  obtain ⟨c, hC⟩ : ∃ z, abits .and .i64 takes 4294967295 = z := ⟨_, rfl⟩
  rw [hC] at c0
  have wT := wr_i64 (1000000000 + a) (by omega) (by omega)
  obtain ⟨T, hT'⟩ : ∃ z, 1000000000 + a = z := ⟨_, rfl⟩
  have wT' : IntKind.i64.wrap (1000000000 + a) = T := wT.trans hT'
  have wG := wr_i64 (T + c) (by omega) (by omega)
  obtain ⟨G, hG'⟩ : ∃ z, T + c = z := ⟨_, rfl⟩
  have wG' : IntKind.i64.wrap (T + c) = G := wG.trans hG'
  have d0 := tmod_in (x := away) (c := 1073741824000000000) (by omega)
  obtain ⟨d, hD⟩ : ∃ z, away.tmod 1073741824000000000 = z := ⟨_, rfl⟩
  rw [hD] at d0
  have wd : IntKind.i64.wrap d = d := wr_i64 _ (by omega) (by omega)
  have wN := wr_i64 (T + d) (by omega) (by omega)
  obtain ⟨N, hN⟩ : ∃ z, T + d = z := ⟨_, rfl⟩
  have wN' : IntKind.i64.wrap (T + d) = N := wN.trans hN
  have l0 := tmod_in (x := lie) (c := 1000000000) (by omega)
  have l1 := and_in (x := lie) (m := 1152921504606846975) (by omega) (by omega)
  obtain ⟨m1, hm1⟩ : ∃ z, lie.tmod 1000000000 = z := ⟨_, rfl⟩
  obtain ⟨m2, hm2⟩ : ∃ z, abits .and .i64 lie 1152921504606846975 = z := ⟨_, rfl⟩
  rw [hm1] at l0
  rw [hm2] at l1
  have wm1 : IntKind.i64.wrap m1 = m1 := wr_i64 _ (by omega) (by omega)
  obtain ⟨L, hL, hLin⟩ : ∃ L, (lie < 0 ∧ m1 = L ∨ ¬ lie < 0 ∧ m2 = L) ∧ -1000000000 < L ∧ L ≤ 1152921504606846975 := by
    by_cases hl : lie < 0
    · exact ⟨m1, Or.inl ⟨hl, rfl⟩, by omega, by omega⟩
    · exact ⟨m2, Or.inr ⟨hl, rfl⟩, by omega, by omega⟩
  have wTL := wr_i64 (T + L) (by omega) (by omega)
  have wGL := wr_i64 (G + L) (by omega) (by omega)
  obtain ⟨TL, hTL⟩ : ∃ z, T + L = z := ⟨_, rfl⟩
  obtain ⟨GL, hGL⟩ : ∃ z, G + L = z := ⟨_, rfl⟩
  have wTL' : IntKind.i64.wrap (T + L) = TL := wTL.trans hTL
  have wGL' : IntKind.i64.wrap (G + L) = GL := wGL.trans hGL
  clear wT wG wN wTL wGL
  have bT : 1000000000 ≤ T ∧ T ≤ 2305843010213693951 := by omega
  have bG : T ≤ G ∧ G ≤ 2305843014508661246 := by omega
  have bN : T - N < 1073741824000000000 ∧ N - T < 1073741824000000000 := by omega
  have bTL : 0 ≤ TL ∧ TL ≤ 4611686018427387904 ∧ TL ≤ GL ∧ GL ≤ 4611686018427387904 := by omega
  -- the server
  have ok := mkS_ok (S := S0) r0 r1
  have kid0 := or1_in (x := S0.kid)
  have rho0 := mkR_in S0.rho
  have eM := fun h => made_c s0 s1 r0 r1 h
  obtain ⟨⟨st, rid, kid, ka, kb, rho⟩, hS⟩ : ∃ z, mkS S0 = z := ⟨_, rfl⟩
  have hk : abits .or .u32 S0.kid 1 = kid := congrArg Srv.kid hS
  have hr : mkR S0.rho = rho := congrArg Srv.rho hS
  rw [hS] at ok eM
  rw [hk] at kid0
  rw [hr] at rho0
  have st1 : 1 ≤ st := ok.s1
  have st2 : st ≤ 15 := ok.s2
  have rid0 : 0 ≤ rid := ok.r0
  have rid1 : rid ≤ 4294967295 := ok.r1
  have hid : kid ≠ 0 := by omega
  clear hk hr hS
  -- what is answered
  have sh0 := shV_in (ns := rho) (by omega)
  have shr := rho_sh rho0.1 rho0.2
  have tA := stV_in (ns := T) (by omega)
  have tB := stV_in (ns := G) (by omega)
  have tC := stV_in (ns := TL) (by omega)
  have tD := stV_in (ns := GL) (by omega)
  have nA := stV_ne (ns := T) (by omega) (by omega)
  have nB := stV_ne (ns := G) (by omega) (by omega)
  have sA : 0 ≤ N → N ≤ 4611686018427387904 → nsV (stV T) N = T := fun h1 h2 => nsV_stV (by omega) (by omega) h1 h2 (by omega) (by omega)
  have sB : nsV (stV G) G = G := nsV_stV (by omega) (by omega) (by omega) (by omega) (by omega) (by omega)
  have sC : nsV (stV TL) TL = TL := nsV_stV (by omega) (by omega) (by omega) (by omega) (by omega) (by omega)
  have sD : nsV (stV GL) GL = GL := nsV_stV (by omega) (by omega) (by omega) (by omega) (by omega) (by omega)
  have hs1 : sayB 0 0 0 T G = true := by simp only [sayB, decide_eq_true_eq]; omega
  have hs2 : sayB L 0 0 T G = true := by simp only [sayB, decide_eq_true_eq]; omega
  have okR := rqP_ok (xmt := xmt) (id := kid) (A := ka) (B := kb) x0 x1 (by omega) (by omega)
  have fitR := rqP_fit (xmt := xmt) (id := kid) (A := ka) (B := kb)
  have eR1 := (ansP_put (S := ⟨st, rid, kid, ka, kb, rho⟩) (took := T) (gave := G) (lie := 0) (leap := 0) (l := []) okR fitR).trans (ans_sg (S := ⟨st, rid, kid, ka, kb, rho⟩) hid (by omega) hs1)
  have eR2 := (ansP_put (S := ⟨st, rid, kid, ka, kb, rho⟩) (took := T) (gave := G) (lie := L) (leap := 0) (l := []) okR fitR).trans (ans_sg (S := ⟨st, rid, kid, ka, kb, rho⟩) hid (by omega) hs2)
  simp only [Int.add_zero] at eR1
  simp only [hTL, hGL] at eR2
  obtain ⟨sh, hsh⟩ : ∃ z, shV rho = z := ⟨_, rfl⟩
  obtain ⟨ta, hta⟩ : ∃ z, stV T = z := ⟨_, rfl⟩
  obtain ⟨tb, htb⟩ : ∃ z, stV G = z := ⟨_, rfl⟩
  obtain ⟨tc, htc⟩ : ∃ z, stV TL = z := ⟨_, rfl⟩
  obtain ⟨td, htd⟩ : ∃ z, stV GL = z := ⟨_, rfl⟩
  rw [hsh] at sh0 shr eR1 eR2
  rw [hta] at tA nA sA eR1
  rw [htb] at tB nB sB eR1
  rw [htc] at tC sC eR2
  rw [htd] at tD sD eR2
  obtain ⟨rh, hrh⟩ : ∃ z, rhoV 0 sh = z := ⟨_, rfl⟩
  have kA : AOk 0 st xmt sh rid ta tb := by constructor <;> omega
  have kC : AOk 0 st xmt sh rid tc td := by constructor <;> omega
  have tg0 := tag_le ka kb (bodyP (aP 0 st xmt sh rid ta tb) [])
  have tg1 := tag_le ka kb (bodyP (aP 0 st xmt sh rid tc td) [])
  have rA := right_sg (B := aP 0 st xmt sh rid ta tb) (id := kid) (a := ka) (b := kb) (by rw [aS_sg]; exact (aS_fit (by omega) (by omega) hid).1) (by rw [aS_sg]; exact (aS_fit (by omega) (by omega) hid).2.1)
  have rC := right_sg (B := aP 0 st xmt sh rid tc td) (id := kid) (a := ka) (b := kb) (by rw [aS_sg]; exact (aS_fit (by omega) (by omega) hid).1) (by rw [aS_sg]; exact (aS_fit (by omega) (by omega) hid).2.1)
  have tgA : ∀ t u, tagI ka kb (bodyP (aS 0 st xmt sh rid ta tb t u) []) = tagI ka kb (bodyP (aP 0 st xmt sh rid ta tb) []) := fun _ _ => rfl
  obtain ⟨tg, htg⟩ : ∃ z, tagI ka kb (bodyP (aP 0 st xmt sh rid ta tb) []) = z := ⟨_, rfl⟩
  obtain ⟨th, hth⟩ : ∃ z, tagI ka kb (bodyP (aP 0 st xmt sh rid tc td) []) = z := ⟨_, rfl⟩
  rw [htg] at tg0 rA eR1 tgA
  rw [hth] at tg1 rC eR2
  rw [aS_sg] at rA rC
  have okA := aS_ok (id := kid) (t := tg) kA (by omega) (by omega) tg0.1 tg0.2
  have okC := aS_ok (id := kid) (t := th) kC (by omega) (by omega) tg1.1 tg1.2
  have okE := aS_ok (id := kid) (t := th) kA (by omega) (by omega) tg1.1 tg1.2
  have fA := fun t => aS_fit (lp := 0) (st := st) (xmt := xmt) (sh := sh) (rid := rid) (a := ta) (b := tb) (id := kid) (t := t) (by omega) (by omega) hid
  have fC := fun t => aS_fit (lp := 0) (st := st) (xmt := xmt) (sh := sh) (rid := rid) (a := tc) (b := td) (id := kid) (t := t) (by omega) (by omega) hid
  -- the heaps
  obtain ⟨H1, hH1⟩ : ∃ H, g ++ [(⟨.tip false, .vals S0.l⟩ : ABlk)] = H := ⟨_, rfl⟩
  have k1 : Keeps g H1 none := by rw [← hH1]; exact Keeps.app _ _ _ rfl
  have b1 : H1[g.length]? = some ⟨.tip false, .vals S0.l⟩ := by rw [← hH1, List.getElem?_append_right (Nat.le_refl _)]; simp
  have l1' := (List.getElem?_eq_some_iff.1 b1).1
  have e1 := eM H1
  obtain ⟨H2, hH2⟩ : ∃ H, H1 ++ [(⟨.tip false, .vals (Srv.l ⟨st, rid, kid, ka, kb, rho⟩)⟩ : ABlk), ⟨.tip false, .vals (Srv.l ⟨st, rid, kid, ka, kb, rho⟩)⟩, ⟨.tip false, .vals (Srv.l ⟨st, rid, kid, ka, kb, rho⟩)⟩, ⟨.tip false, .vals (Srv.b ⟨st, rid, kid, ka, kb, rho⟩ 0)⟩] = H := ⟨_, rfl⟩
  have k2 : Keeps H1 H2 none := by rw [← hH2]; exact Keeps.app _ _ _ rfl
  have x2 : H2[H1.length + 3]? = some ⟨.tip false, .vals (Srv.b ⟨st, rid, kid, ka, kb, rho⟩ 0)⟩ := by rw [← hH2, List.getElem?_append_right (by omega)]; simp
  rw [hH2] at e1
  have hqg : g.length < H1.length + 3 := by omega
  obtain ⟨q, hq⟩ : ∃ z, H1.length + 3 = z := ⟨_, rfl⟩
  rw [hq] at e1 x2 hqg
  have qg : q ≠ g.length := by omega
  have q1 : 1 < q := by have := ha.2; omega
  have b2 := kN k2 _ _ b1
  have l2 := (List.getElem?_eq_some_iff.1 b2).1
  obtain ⟨H3, hH3⟩ : ∃ H, H2.set g.length ⟨.tip false, .vals (Srv.l ⟨st, rid, kid, ka, kb, rho⟩)⟩ = H := ⟨_, rfl⟩
  have k3 : Keeps g H3 none := by rw [← hH3]; exact keeps_set (kT k1 k2) (Nat.le_refl _) rfl
  have b3 : H3[g.length]? = some ⟨.tip false, .vals (Srv.l ⟨st, rid, kid, ka, kb, rho⟩)⟩ := by rw [← hH3, List.getElem?_set_self l2]
  have x3 : H3[q]? = some ⟨.tip false, .vals (Srv.b ⟨st, rid, kid, ka, kb, rho⟩ 0)⟩ := by rw [← hH3, List.getElem?_set_ne (by omega)]; exact x2
  have l3 := (List.getElem?_eq_some_iff.1 b3).1
  have g3 := k3.2.2 hg
  have a3 := at0_keep ha k3
  have t3 := att_keep hT k3
  obtain ⟨v4, H4, e4, bv4, mv4, k4⟩ := req_c (xmt := xmt) (id := kid) (A := ka) (B := kb) x0 x1 (by omega) (by omega) g3 a3
  have g4 := k4.2.2 g3
  have a4 := at0_keep a3 k4
  have t4 := att_keep t3 k4
  have b4 := kN k4 _ _ b3
  have x4 := kN k4 _ _ x3
  have n4 := bv4.na
  obtain ⟨v5, H5, e5, bv5, mv5, k5, x5⟩ := ansok_c (l := []) (leap := 0) (lie := 0) (took := T) (gave := G) ok g4 a4 x4 (by omega) (by omega) (sv_of bv4 mv4) (len_put fitR.2.1) (by omega) (by omega) (by omega) (by omega) (by omega) (by omega) (by omega) (by omega) eR1
  rw [← sb_none] at e5
  have x5' : H5[q]? = some ⟨.tip false, .vals (Srv.b ⟨st, rid, kid, ka, kb, rho⟩ 1)⟩ := x5
  have g5 := k5.2.2 g4
  have a5 := at0_keepP a4 k5 q1
  have t5 := att_keepP t4 k5 (by omega)
  have b5 := kV k5 qg b4
  have n5 := bv5.na
  obtain ⟨y6, H6, e6, ex6, yc6, yn6, yl6, k6⟩ := par0_c okA (fA tg) g5 a5 bv5 mv5
  have g6 := k6.2.2 g5
  have a6 := at0_keep a5 k6
  have t6 := att_keep t5 k6
  have b6 := kN k6 _ _ b5
  have x6 := kN k6 _ _ x5'
  have l6 := (List.getElem?_eq_some_iff.1 b6).1
  obtain ⟨H7, hH7⟩ : ∃ H, H6 ++ [(⟨.tip false, .vals (Pk.l (aS 0 st xmt sh rid ta tb kid tg) y6)⟩ : ABlk)] = H := ⟨_, rfl⟩
  have k7 : Keeps H6 H7 none := by rw [← hH7]; exact Keeps.app _ _ _ rfl
  have p7 : H7[H6.length]? = some ⟨.tip false, .vals (Pk.l (aS 0 st xmt sh rid ta tb kid tg) y6)⟩ := by rw [← hH7, List.getElem?_append_right (Nat.le_refl _)]; simp
  have g7 := k7.2.2 g6
  have a7 := at0_keep a6 k7
  have t7 := att_keep t6 k7
  have b7 := kN k7 _ _ b6
  have x7 := kN k7 _ _ x6
  have l7 := (List.getElem?_eq_some_iff.1 b7).1
  have m7 := (List.getElem?_eq_some_iff.1 p7).1
  have eRt := pright_c (id := kid) (A := ka) (B := kb) okA (by simp) (by simp) yc6 g7 a7 (ex6 H7)
  rw [rA] at eRt
  have eSv := served_c g7 x7 st1
  have eTs := tst_ok (x := y6) okA yc6 g7 t7 rfl st1 st2 (by show (0 : Int) ≠ 3; decide) nA nB shr.2.2
  have eRh := rho_q (x := y6) okA yc6 g7
  have hrh' : rhoV (aS 0 st xmt sh rid ta tb kid tg).p6 (aS 0 st xmt sh rid ta tb kid tg).p7 = rh := hrh
  rw [hrh'] at eRh
  rw [hrh] at shr
  have eS1 := stampNs_c (near := N) tA.1 tA.2.1 g7
  have eS2 := stampNs_c (near := G) tB.1 tB.2.1 g7
  rw [sB] at eS2
  have rw1 : ¬ rh < rho := by omega
  have rw2 : IntKind.i64.wrap (rh - rho) = rh - rho := wr_i64 _ (by omega) (by omega)
  obtain ⟨rd, hrd⟩ : ∃ z, rh - rho = z := ⟨_, rfl⟩
  rw [hrd] at rw2
  have rw3 : rd < 15259 := by omega
  have rw4 : ¬ 15259 ≤ rd := by omega
  obtain ⟨v8, H8, e8, bv8, mv8, k8⟩ := req_c (xmt := xmt) (id := kid) (A := ka) (B := kb) x0 x1 (by omega) (by omega) g7 a7
  have g8 := k8.2.2 g7
  have a8 := at0_keep a7 k8
  have b8 := kN k8 _ _ b7
  have x8 := kN k8 _ _ x7
  have p8 := kN k8 _ _ p7
  have n8 := bv8.na
  have q6 : q ≠ H6.length := by have := (List.getElem?_eq_some_iff.1 x6).1; omega
  obtain ⟨v9, H9, e9, bv9, mv9, k9, x9⟩ := ansok_c (l := []) (leap := 0) (lie := L) (took := T) (gave := G) ok g8 a8 x8 (by omega) (by omega) (sv_of bv8 mv8) (len_put fitR.2.1) (by omega) (by omega) (by omega) (by omega) (by omega) (by omega) (by omega) (by omega) eR2
  rw [← sb_none] at e9
  have g9 := k9.2.2 g8
  have a9 := at0_keepP a8 k9 q1
  have b9 := kV k9 qg b8
  have p9 := kV k9 q6 p8
  have n9 := bv9.na
  obtain ⟨y10, H10, e10, ex10, yc10, yn10, yl10, k10⟩ := par0_c okC (fC th) g9 a9 bv9 mv9
  have g10 := k10.2.2 g9
  have a10 := at0_keep a9 k10
  have b10 := kN k10 _ _ b9
  have p10 := kN k10 _ _ p9
  obtain ⟨H11, hH11⟩ : ∃ H, H10 ++ [(⟨.tip false, .vals (Pk.l (aS 0 st xmt sh rid tc td kid th) y10)⟩ : ABlk)] = H := ⟨_, rfl⟩
  have k11 : Keeps H10 H11 none := by rw [← hH11]; exact Keeps.app _ _ _ rfl
  have r11 : H11[H10.length]? = some ⟨.tip false, .vals (Pk.l (aS 0 st xmt sh rid tc td kid th) y10)⟩ := by rw [← hH11, List.getElem?_append_right (Nat.le_refl _)]; simp
  have g11 := k11.2.2 g10
  have a11 := at0_keep a10 k11
  have b11 := kN k11 _ _ b10
  have p11 := kN k11 _ _ p10
  have l11 := (List.getElem?_eq_some_iff.1 b11).1
  have m11 := (List.getElem?_eq_some_iff.1 p11).1
  have o11 := (List.getElem?_eq_some_iff.1 r11).1
  have m10 := (List.getElem?_eq_some_iff.1 p10).1
  have l10 := (List.getElem?_eq_some_iff.1 b10).1
  have d1 : H6.length ≠ H10.length := by omega
  have d2 : H10.length ≠ H6.length := by omega
  have d3 : g.length ≠ H10.length := by omega
  have d4 : H10.length ≠ g.length := by omega
  have eRt2 := pright_c (id := kid) (A := ka) (B := kb) okC (by simp) (by simp) yc10 g11 a11 (ex10 H11)
  rw [rC] at eRt2
  have eS3 := stampNs_c (near := TL) tC.1 tC.2.1 g11
  have eS4 := stampNs_c (near := GL) tD.1 tD.2.1 g11
  rw [sC] at eS3
  rw [sD] at eS4
  obtain ⟨H12, hH12⟩ : ∃ H, H11.set H10.length ⟨.tip false, .vals (Pk.l (aS 0 st xmt sh rid ta tb kid th) y10)⟩ = H := ⟨_, rfl⟩
  have k12 : Keeps H10 H12 none := by rw [← hH12]; exact keeps_set k11 (Nat.le_refl _) rfl
  have r12 : H12[H10.length]? = some ⟨.tip false, .vals (Pk.l (aS 0 st xmt sh rid ta tb kid th) y10)⟩ := by rw [← hH12, List.getElem?_set_self o11]
  have g12 := k12.2.2 g10
  have a12 := at0_keep a10 k12
  have b12 := kN k12 _ _ b10
  have p12 := kN k12 _ _ p10
  have l12 := (List.getElem?_eq_some_iff.1 b12).1
  have m12 := (List.getElem?_eq_some_iff.1 p12).1
  have o12 := (List.getElem?_eq_some_iff.1 r12).1
  have yl12 : y10.lt H12.length = true := AV.lt_mono k12.2.1 _ yl10
  have eSg := psign_ok (id := kid) (A := ka) (B := kb) okE (by omega) (by omega) (fA 0).1 (fA 0).2.1 yc10 g12 a12 (ex10 H12) yl12
  rw [tgA kid th] at eSg
  have eSg' : W CP 21 [.agg (Pk.l (aS 0 st xmt sh rid ta tb kid th) y10), .agg [.int .u32 kid, .int .u64 ka, .int .u64 kb]] H12 = some (.tup [.agg (Pk.l (aS 0 st xmt sh rid ta tb kid tg) y10), .int .i64 0], H12, []) := eSg
  obtain ⟨H13, hH13⟩ : ∃ H, H12.set H10.length ⟨.tip false, .vals (Pk.l (aS 0 st xmt sh rid ta tb kid tg) y10)⟩ = H := ⟨_, rfl⟩
  have k13 : Keeps H10 H13 none := by rw [← hH13]; exact keeps_set k12 (Nat.le_refl _) rfl
  have r13 : H13[H10.length]? = some ⟨.tip false, .vals (Pk.l (aS 0 st xmt sh rid ta tb kid tg) y10)⟩ := by rw [← hH13, List.getElem?_set_self o12]
  have g13 := k13.2.2 g10
  have p13 := kN k13 _ _ p10
  have m13 := (List.getElem?_eq_some_iff.1 p13).1
  have o13 := (List.getElem?_eq_some_iff.1 r13).1
  have eSm := psame_c (P := aS 0 st xmt sh rid ta tb kid tg) (Q := aS 0 st xmt sh rid ta tb kid tg) (ex6 H13) yc6 (ex10 H13) yc10 g13 (by simp)
  rw [same_refl] at eSm
  have eAl := fun h => al28 h
  have npg : ¬ q < g.length := by omega
  have f10 : ¬ H11.length ≤ H10.length := by omega
  have f6 : ¬ H11.length ≤ H6.length := by omega
  simp only [Srv.l, Srv.b, Pk.l, aS] at hH1 hH2 hH3 hH7 hH11 hH12 hH13 e1 b1 b2 b3 b4 b5 b6 b7 b8 b9 b10 b11 b12 p7 p8 p9 p10 p11 p12 p13 r11 r12 r13 e6 e10 eRt eRt2 eTs eRh eSg' eSm
  rcases hL with ⟨hl, rfl⟩ | ⟨hl, rfl⟩
  all_goals
    by_cases n1 : 0 ≤ N
    case neg =>
      simp (maxDischargeDepth := 9) -implicitDefEqProofs only [push_cast, simprocAttr, M5, nadd1, nadd2, nadd3, nadd4, nadd5, nadd6, nadd7, nadd8, nadd9, nadd10, nadd11, nadd12, hA, wT', hC, wG', hl, hm1, wm1, hm2, hD, wd, wN', wTL', wGL', hH1, b1, l1', e1, b2, l2, hH3, b3, l3, e4, n4, e5, n5, e6, yn6, yc6, hH7, p7, m7, b7, l7, eRt, eSv, eTs, eRh, nA, nB, rw1, hrd, rw2, rw4, e8, n8, e9, n9, e10, yn10, yc10, hH11, r11, o11, b11, l11, p11, m11, eRt2, eS3, eS4, hH12, b12, l12, r12, o12, p12, m12, eSg', hH13, p13, m13, r13, o13, eSm, eAl, d1, d2, d3, d4, f6, f10, npg, decide_false, decide_true, Bool.not_false, Bool.not_true, Bool.and_true, n1]
    by_cases n2 : N ≤ 4611686018427387904
    case neg =>
      simp (maxDischargeDepth := 9) -implicitDefEqProofs only [push_cast, simprocAttr, M5, nadd1, nadd2, nadd3, nadd4, nadd5, nadd6, nadd7, nadd8, nadd9, nadd10, nadd11, nadd12, hA, wT', hC, wG', hl, hm1, wm1, hm2, hD, wd, wN', wTL', wGL', hH1, b1, l1', e1, b2, l2, hH3, b3, l3, e4, n4, e5, n5, e6, yn6, yc6, hH7, p7, m7, b7, l7, eRt, eSv, eTs, eRh, nA, nB, rw1, hrd, rw2, rw4, e8, n8, e9, n9, e10, yn10, yc10, hH11, r11, o11, b11, l11, p11, m11, eRt2, eS3, eS4, hH12, b12, l12, r12, o12, p12, m12, eSg', hH13, p13, m13, r13, o13, eSm, eAl, d1, d2, d3, d4, f6, f10, npg, decide_false, decide_true, Bool.not_false, Bool.not_true, Bool.and_true, n1, n2]
    rw [sA n1 n2] at eS1
    simp (maxDischargeDepth := 9) -implicitDefEqProofs only [push_cast, simprocAttr, M5, nadd1, nadd2, nadd3, nadd4, nadd5, nadd6, nadd7, nadd8, nadd9, nadd10, nadd11, nadd12, hA, wT', hC, wG', hl, hm1, wm1, hm2, hD, wd, wN', wTL', wGL', hH1, b1, l1', e1, b2, l2, hH3, b3, l3, e4, n4, e5, n5, e6, yn6, yc6, hH7, p7, m7, b7, l7, eRt, eSv, eTs, eRh, nA, nB, rw1, hrd, rw2, rw4, e8, n8, e9, n9, e10, yn10, yc10, hH11, r11, o11, b11, l11, p11, m11, eRt2, eS3, eS4, hH12, b12, l12, r12, o12, p12, m12, eSg', hH13, p13, m13, r13, o13, eSm, eAl, d1, d2, d3, d4, f6, f10, npg, decide_false, decide_true, Bool.not_false, Bool.not_true, Bool.and_true, n1, n2, eS1, eS2]
end Go.Proofs.YtdpbbagllhfjbaaDoorW.AI.G
namespace Go.Proofs.YtdpbbagllhfjbaaDoorW.AI.G
open Go Go.Proofs.YtdpbbagllhfjbaaDoorW.AI Go.Proofs.YtdpbbagllhfjbaaDoorW.AI.Oct Go.RowKit
set_option maxRecDepth 100000
set_option linter.unusedSimpArgs false
set_option linter.unusedVariables false
set_option linter.unusedSectionVars false
theorem honest_law (js : AHeap) (avs : List AV) (hx : Ext js) (ht : TyA (CP.gl ++ js) [.agg [.i .u8, .i .u32, .i .u32, .i .u64, .i .u64, .i .i64], .one (.i .u64), .one (.i .i64), .one (.i .i64), .one (.i .i64), .one (.i .i64)] avs) : ∃ h' ws, W CP 5 avs (CP.gl ++ js) = some (.bool true, h', ws) := by
  simp only [TyA] at ht
  obtain ⟨cs1, _, rfl, k1, _, _, rfl, y2, _, _, rfl, y3, _, _, rfl, y4, _, _, rfl, y5, _, _, rfl, y6, rfl⟩ := ht
  simp only [Ty] at y2 y3 y4 y5 y6
  obtain ⟨xmt, rfl, x0, x1⟩ := y2
  obtain ⟨took, rfl, _, _⟩ := y3
  obtain ⟨takes, rfl, _, _⟩ := y4
  obtain ⟨lie, rfl, _, _⟩ := y5
  obtain ⟨away, rfl, _, _⟩ := y6
  simp only [TyL, Ty] at k1
  obtain ⟨_, _, rfl, ⟨n1, rfl, a1, b1⟩, _, _, rfl, ⟨n2, rfl, a2, b2⟩, _, _, rfl, ⟨n3, rfl, a3, b3⟩, _, _, rfl, ⟨n4, rfl, a4, b4⟩, _, _, rfl, ⟨n5, rfl, a5, b5⟩, _, _, rfl, ⟨n6, rfl, a6, b6⟩, rfl⟩ := k1
  have m1 : IntKind.u8.min = 0 := rfl
  have m2 : IntKind.u32.min = 0 := rfl
  have m3 : IntKind.u32.max = 4294967295 := rfl
  have m4 : IntKind.u8.max = 255 := rfl
  have m5 : IntKind.u64.min = 0 := rfl
  have m6 : IntKind.u64.max = 18446744073709551615 := rfl
  rw [m1] at a1
  rw [m4] at b1
  rw [m2] at a2
  rw [m3] at b2
  rw [m5] at x0
  rw [m6] at x1
  refine W_law (m := M5) (fun _ => rfl) rfl ?_ fun h0 => ?_
  · exact honest_body _ (pgood_ext hx) (at0_ext hx) (att_gl.app js) ⟨n1, n2, n3, n4, n5, n6⟩ a1 b1 a2 b2 x0 x1
  · exact honest_body _ pgood_gl at0_gl att_gl ⟨n1, n2, n3, n4, n5, n6⟩ a1 b1 a2 b2 x0 x1
theorem honest_kinds : aksOf X.P 20 [27, 23, 2, 2, 2, 2] = some [.agg [.i .u8, .i .u32, .i .u32, .i .u64, .i .u64, .i .i64], .one (.i .u64), .one (.i .i64), .one (.i .i64), .one (.i .i64), .one (.i .i64)] := by kernel_rfl
end Go.Proofs.YtdpbbagllhfjbaaDoorW.AI.G
