import Derived.Test.YtdpbbagllhfjbaaDoorAIGgsrB
namespace Go.Proofs.YtdpbbagllhfjbaaDoorW.AI.G
open Go Go.Proofs.YtdpbbagllhfjbaaDoorW.AI Go.Proofs.YtdpbbagllhfjbaaDoorW.AI.Oct Go.RowKit
set_option maxRecDepth 100000
set_option linter.unusedVariables false
set_option linter.unusedSimpArgs false
set_option linter.unusedSectionVars false
theorem ans_nil (h : AHeap) : W CP 10 [.nilp, .nils, .int .i64 0, .int .i64 0, .agg [.int .i64 0, .int .u8 0, .str ⟨#[]⟩]] h = some (.tup [.nils, .int .i64 2], h, []) := W_known (n := 10) (fun _ => rfl) (by kernel_rfl) h
theorem setup_nil (h : AHeap) : W CP 13 [.nilp] h = some (.agg [.int .u8 0, .int .u32 0, .int .u32 0, .int .u64 0, .int .u64 0, .int .i64 0], h, []) := W_known (n := 10) (fun _ => rfl) (by kernel_rfl) h
theorem sc0 : scEqs [0, 0, 0, 0, 0, 0] [.int .u8 0, .int .u32 0, .int .u32 0, .int .u64 0, .int .u64 0, .int .i64 0] [.int .u8 0, .int .u32 0, .int .u32 0, .int .u64 0, .int .u64 0, .int .i64 0] = some true := by simp [scEqs, scEq]
section
variable {S : Srv} {h : AHeap} {p : Nat} {n : Int}
theorem snone0_c (hg : Good h) (hp : h[p]? = some ⟨.tip false, .vals (S.b n)⟩) (hs : S.st = 0) : W CP 25 [.ptr p 0] h = some (.bool true, h, []) := by
  have lp := (List.getElem?_eq_some_iff.1 hp).1
  refine W_quiet0 (m := M25) rfl rfl (by simp [AV.lts, AV.lt]) rfl rfl hg ?_
  simp only [Srv.b] at hp
  simp (maxDischargeDepth := 9) -implicitDefEqProofs only [push_cast, simprocAttr, M25, nadd1, nadd2, nadd3, nadd4, nadd5, nadd6, nadd7, nadd8, nadd9, nadd10, nadd11, nadd12, hp, lp, hs]
theorem served0_c (hg : Good h) (hp : h[p]? = some ⟨.tip false, .vals (S.b n)⟩) (hs : S.st = 0) : W CP 12 [.ptr p 0] h = some (.int .i64 0, h, []) := by
  have lp := (List.getElem?_eq_some_iff.1 hp).1
  have eN := snone0_c hg hp hs
  refine W_quiet0 (m := M12) rfl rfl (by simp [AV.lts, AV.lt]) rfl rfl hg ?_
  simp only [Srv.b] at hp
  simp (maxDischargeDepth := 9) -implicitDefEqProofs only [push_cast, simprocAttr, M12, nadd1, nadd2, nadd3, nadd4, nadd5, nadd6, nadd7, nadd8, nadd9, nadd10, nadd11, nadd12, hp, lp, eN]
end
set_option maxHeartbeats 32000000 in
theorem known_body (g : AHeap) (hg : Good g) (ha : At0 g) (hT : AtT g) : Wp (xbody (W CP) M4 [] g) fun r => r.1 = .bool true := by
  have eb := fun h => snew_bad (S := ⟨0, 0, 0, 0, 0, 0⟩) (by simp) h
  have ec := fun h => snew_bad (S := ⟨16, 0, 0, 0, 0, 0⟩) (by simp) h
  have ed := fun h => snew_bad (S := ⟨1, 0, 0, 0, 0, -1⟩) (by simp) h
  have ee := fun h => snew_bad (S := ⟨1, 0, 0, 0, 0, 16000000001⟩) (by simp) h
  obtain ⟨st, hst⟩ : ∃ z : Int, (15 : Int) = z := ⟨_, rfl⟩
  obtain ⟨rho, hrho⟩ : ∃ z : Int, (16000000000 : Int) = z := ⟨_, rfl⟩
  have ok : Srv.Ok ⟨st, 0, 0, 0, 0, rho⟩ := by constructor <;> (dsimp only; omega)
  -- the answers
  have fit4 := rqP_fit (xmt := 1) (id := 4) (A := 0) (B := 0)
  have ok4 := rqP_ok (xmt := 1) (id := 4) (A := 0) (B := 0) (by omega) (by omega) (by omega) (by omega)
  have fit0 := rqP_fit (xmt := 1) (id := 0) (A := 0) (B := 0)
  have ok0 := rqP_ok (xmt := 1) (id := 0) (A := 0) (B := 0) (by omega) (by omega) (by omega) (by omega)
  have hR4 : ansR ⟨st, 0, 0, 0, 0, rho⟩ (rqP 1 4 0 0) [] 0 0 0 0 [] = .err 21 := by
    rw [rqP_q (by decide)]
    refine ans_mac rfl rfl ?_
    unfold rightP
    have e : ¬ (qS 1 4 (tagI 0 0 (bodyP (rq0 1) []))).p15 = 0 := by show ¬ (4 : Int) = 0; decide
    show (_ && (_ && (_ && (decide ((qS 1 4 (tagI 0 0 (bodyP (rq0 1) []))).p15 = 0) && _)))) = false
    rw [decide_eq_false e]
    simp
  have e4 := (ansP_put (S := ⟨st, 0, 0, 0, 0, rho⟩) (took := 0) (gave := 0) (lie := 0) (leap := 0) (l := []) ok4 fit4).trans hR4
  have arg0 := fun (took gave lie : Int) (l : List UInt8) (h : sayB lie 0 l.length took gave = false) => (ansP_put (S := ⟨st, 0, 0, 0, 0, rho⟩) (took := took) (gave := gave) (lie := lie) (leap := 0) (l := l) ok0 fit0).trans (ans_arg0 (S := ⟨st, 0, 0, 0, 0, rho⟩) (xmt := 1) h)
  have eY := (ansP_put (S := ⟨st, 0, 0, 0, 0, rho⟩) (took := 0) (gave := 4611686018427387904) (lie := 0) (leap := 0) (l := []) ok0 fit0).trans (ans_un (S := ⟨st, 0, 0, 0, 0, rho⟩) (xmt := 1) rfl)
  simp only [Int.add_zero, if_true] at eY
  have hz : stV 0 = 0 := rfl
  have hsh : shV rho = 1048576 := by rw [← hrho]; rfl
  have tm := stV_in (ns := 4611686018427387904) (by omega)
  rw [hz, hsh] at eY
  obtain ⟨tx, htx⟩ : ∃ z, stV 4611686018427387904 = z := ⟨_, rfl⟩
  rw [htx] at eY tm
  have kA : AOk 0 st 1 1048576 0 0 tx := by constructor <;> omega
  have okA := aP_ok kA
  have fA := aP_fit (lp := 0) (st := st) (xmt := 1) (sh := 1048576) (rid := 0) (a := 0) (b := tx) (by omega) (by omega)
  -- the heaps
  obtain ⟨H1, hH1⟩ : ∃ H, g ++ [(⟨.tip false, .vals (Srv.b ⟨0, 0, 0, 0, 0, 0⟩ 0)⟩ : ABlk)] = H := ⟨_, rfl⟩
  have k1 : Keeps g H1 none := by rw [← hH1]; exact Keeps.app _ _ _ rfl
  have z1 : H1[g.length]? = some ⟨.tip false, .vals (Srv.b ⟨0, 0, 0, 0, 0, 0⟩ 0)⟩ := by rw [← hH1, List.getElem?_append_right (Nat.le_refl _)]; simp
  have g1 := k1.2.2 hg
  have eZ := served0_c g1 z1 rfl
  have eX := snew_ok ok H1
  obtain ⟨H2, hH2⟩ : ∃ H, H1 ++ [(⟨.tip false, .vals (Srv.l ⟨st, 0, 0, 0, 0, rho⟩)⟩ : ABlk), ⟨.tip false, .vals (Srv.b ⟨st, 0, 0, 0, 0, rho⟩ 0)⟩] = H := ⟨_, rfl⟩
  have k2 : Keeps H1 H2 none := by rw [← hH2]; exact Keeps.app _ _ _ rfl
  have x2 : H2[H1.length + 1]? = some ⟨.tip false, .vals (Srv.b ⟨st, 0, 0, 0, 0, rho⟩ 0)⟩ := by rw [← hH2, List.getElem?_append_right (by omega)]; simp
  have q1 : 1 < H1.length + 1 := by have := ha.2; have := k1.2.1; omega
  have npg : ¬ H1.length + 1 < g.length := by have := k1.2.1; omega
  rw [hH2] at eX
  obtain ⟨q, hq⟩ : ∃ z, H1.length + 1 = z := ⟨_, rfl⟩
  rw [hq] at eX x2 q1 npg
  have g2 := k2.2.2 g1
  have a2 := at0_keep ha (kT k1 k2)
  have t2 := att_keep hT (kT k1 k2)
  have x0 : (0 : Int) ≤ 1 := by omega
  have x1 : (1 : Int) ≤ 18446744073709551615 := by omega
  obtain ⟨v3, H3, e3, bv3, mv3, k3⟩ := req_c (xmt := 1) (id := 4) (A := 0) (B := 0) x0 x1 (by omega) (by omega) g2 a2
  obtain ⟨H4, f4, k4⟩ := anser_c (l := []) (leap := 0) (lie := 0) (took := 0) (gave := 0) ok (k3.2.2 g2) (at0_keep a2 k3) (kN k3 _ _ x2) (by omega) (by omega) (sv_of bv3 mv3) (len_put fit4.2.1) (by omega) (by omega) (by omega) (by omega) (by omega) (by omega) (by omega) (by omega) e4
  have k24 := kT k3 k4
  obtain ⟨v5, H5, e5, bv5, mv5, k5⟩ := req_c (xmt := 1) (id := 0) (A := 0) (B := 0) x0 x1 (by omega) (by omega) (k24.2.2 g2) (at0_keep a2 k24)
  have k25 := kT k24 k5
  obtain ⟨H6, f6, k6⟩ := anser_c (l := [82, 65, 84, 69, 83]) (leap := 0) (lie := 0) (took := 0) (gave := 0) ok (k25.2.2 g2) (at0_keep a2 k25) (kN k25 _ _ x2) (by omega) (by omega) (sv_of bv5 mv5) (len_put fit0.2.1) (by omega) (by omega) (by omega) (by omega) (by omega) (by omega) (by omega) (by omega) (arg0 0 0 0 _ rfl)
  have k26 := kT k25 k6
  obtain ⟨v7, H7, e7, bv7, mv7, k7⟩ := req_c (xmt := 1) (id := 0) (A := 0) (B := 0) x0 x1 (by omega) (by omega) (k26.2.2 g2) (at0_keep a2 k26)
  have k27 := kT k26 k7
  obtain ⟨v8, H8, e8, bv8, mv8, k8, x8⟩ := ansok_c (l := []) (leap := 0) (lie := 0) (took := 0) (gave := 4611686018427387904) ok (k27.2.2 g2) (at0_keep a2 k27) (kN k27 _ _ x2) (by omega) (by omega) (sv_of bv7 mv7) (len_put fit0.2.1) (by omega) (by omega) (by omega) (by omega) (by omega) (by omega) (by omega) (by omega) eY
  have x8' : H8[q]? = some ⟨.tip false, .vals (Srv.b ⟨st, 0, 0, 0, 0, rho⟩ 1)⟩ := x8
  have g8 := k8.2.2 (k27.2.2 g2)
  have a8 := at0_keepP (at0_keep a2 k27) k8 q1
  have t8 := att_keepP (att_keep t2 k27) k8 (by omega)
  obtain ⟨y9, H9, e9, ex9, yc9, yn9, yl9, k9⟩ := par0_c okA fA g8 a8 bv8 mv8
  obtain ⟨H10, hH10⟩ : ∃ H, H9 ++ [(⟨.tip false, .vals (Pk.l (aP 0 st 1 1048576 0 0 tx) y9)⟩ : ABlk)] = H := ⟨_, rfl⟩
  have k10 : Keeps H9 H10 none := by rw [← hH10]; exact Keeps.app _ _ _ rfl
  have p10 : H10[H9.length]? = some ⟨.tip false, .vals (Pk.l (aP 0 st 1 1048576 0 0 tx) y9)⟩ := by rw [← hH10, List.getElem?_append_right (Nat.le_refl _)]; simp
  have np9 : ¬ H9.length < g.length := by have := k9.2.1; have := k8.2.1; have := k27.2.1; have := k2.2.1; have := k1.2.1; omega
  have k810 := kT k9 k10
  have g10 := k810.2.2 g8
  have a10 := at0_keep a8 k810
  have x10 := kN k810 _ _ x8'
  have n3 := bv3.na
  have n5 := bv5.na
  have n7 := bv7.na
  have n8 := bv8.na
  obtain ⟨v11, H11, e11, bv11, mv11, k11⟩ := req_c (xmt := 1) (id := 0) (A := 0) (B := 0) x0 x1 (by omega) (by omega) g10 a10
  obtain ⟨H12, f12, k12⟩ := anser_c (l := []) (leap := 0) (lie := 1) (took := 0) (gave := 4611686018427387904) ok (k11.2.2 g10) (at0_keep a10 k11) (kN k11 _ _ x10) (by omega) (by omega) (sv_of bv11 mv11) (len_put fit0.2.1) (by omega) (by omega) (by omega) (by omega) (by omega) (by omega) (by omega) (by omega) (arg0 0 4611686018427387904 1 [] rfl)
  have j12 := kT k11 k12
  obtain ⟨v13, H13, e13, bv13, mv13, k13⟩ := req_c (xmt := 1) (id := 0) (A := 0) (B := 0) x0 x1 (by omega) (by omega) (j12.2.2 g10) (at0_keep a10 j12)
  have j13 := kT j12 k13
  obtain ⟨H14, f14, k14⟩ := anser_c (l := []) (leap := 0) (lie := 1) (took := -1) (gave := 0) ok (j13.2.2 g10) (at0_keep a10 j13) (kN j13 _ _ x10) (by omega) (by omega) (sv_of bv13 mv13) (len_put fit0.2.1) (by omega) (by omega) (by omega) (by omega) (by omega) (by omega) (by omega) (by omega) (arg0 (-1) 0 1 [] rfl)
  have j14 := kT j13 k14
  obtain ⟨v15, H15, e15, bv15, mv15, k15⟩ := req_c (xmt := 1) (id := 0) (A := 0) (B := 0) x0 x1 (by omega) (by omega) (j14.2.2 g10) (at0_keep a10 j14)
  have j15 := kT j14 k15
  obtain ⟨H16, f16, k16⟩ := anser_c (l := []) (leap := 0) (lie := -9223372036854775808) (took := 0) (gave := 0) ok (j15.2.2 g10) (at0_keep a10 j15) (kN j15 _ _ x10) (by omega) (by omega) (sv_of bv15 mv15) (len_put fit0.2.1) (by omega) (by omega) (by omega) (by omega) (by omega) (by omega) (by omega) (by omega) (arg0 0 0 (-9223372036854775808) [] rfl)
  have j16 := kT j15 k16
  have n11 := bv11.na
  have n13 := bv13.na
  have n15 := bv15.na
  have g16 := j16.2.2 g10
  have t16 := att_keep (att_keep t8 k810) j16
  have p16 := kN j16 _ _ p10
  have m16 := (List.getElem?_eq_some_iff.1 p16).1
  have eTs0 := tst_q (x := y9) okA yc9 g16 t16
  have eTs : W CP 16 [.agg (Pk.l (aP 0 st 1 1048576 0 0 tx) y9)] H16 = some (.int .i64 24, H16, []) := by
    rw [eTs0]
    have w1 : ¬ st = 0 := by omega
    have w2 : ¬ 15 < st := by omega
    show some (AV.int .i64 (testV (!decide ((4 : Int) = 4)) (decide (st = 0)) (decide ((0 : Int) = 3) || decide (15 < st)) (decide ((0 : Int) = 0) || decide (tx = 0)) (decide (16000000000 < rhoV 0 1048576))), H16, ([] : List Nat)) = _
    rw [decide_eq_false w1, decide_eq_false w2]
    rfl
  have eSv := served_c g16 (kN j16 _ _ x10) ok.s1
  have eAl := fun h => al28 h
  rw [← sb_none] at f4 e8 f12 f14 f16
  have f6' : W CP 10 [.ptr q 0, v5, .int .i64 0, .int .i64 0, .agg [.int .i64 0, .int .u8 0, .str ⟨#[82, 65, 84, 69, 83]⟩]] H5 = some (.tup [.nils, .int .i64 1], H6, []) := f6
  have eAn := fun h => ans_nil h
  have eSn := fun h => setup_nil h
  have c0 := sc0
  subst hst hrho
  simp only [Srv.l, Srv.b, Pk.l, aP] at hH1 hH2 hH10 eb ec ed ee eX e9 p16 eTs
  simp (maxDischargeDepth := 9) -implicitDefEqProofs only [push_cast, simprocAttr, M4, nadd1, nadd2, nadd3, nadd4, nadd5, nadd6, nadd7, nadd8, nadd9, nadd10, nadd11, nadd12, hH1, eAn, eZ, eSn, c0, eb, ec, ed, ee, eX, hq, e3, n3, f4, e5, n5, f6', e7, n7, e8, n8, e9, yn9, yc9, hH10, e11, n11, f12, e13, n13, f14, e15, n15, f16, p16, m16, eTs, eSv, eAl, npg, np9, decide_false, decide_true, Bool.not_false, Bool.not_true, Bool.and_true]
theorem known_law : ∃ h' ws, W CP 4 [] CP.gl = some (.bool true, h', ws) :=
  W_law (m := M4) (fun _ => rfl) rfl (known_body _ pgood_gl at0_gl att_gl) fun _ => known_body _ pgood_gl at0_gl att_gl
theorem known_walk (w : World) (hl : Laid CP.gl X.gid w) : Calls Go.Proofs.Tryd.prog 4 #[] w fun e w' => e = .returned (.bool true) ∧ Below w.heap.size w w' := by
  obtain ⟨h', ws, e⟩ := known_law
  obtain ⟨n, e⟩ := W_eq.1 e
  exact closed_laid (X := X) (n := n) CP follows rfl mp_chk primOk (by rw [e]; rfl) w hl
end Go.Proofs.YtdpbbagllhfjbaaDoorW.AI.G
