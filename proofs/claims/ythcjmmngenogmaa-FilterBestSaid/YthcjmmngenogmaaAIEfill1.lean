import Derived.Test.YthcjmmngenogmaaAIEfilB
import Derived.Test.YthcjmmngenogmaaAIEargs
namespace Go.Proofs.YthcjmmngenogmaaW.AI.E
open Go Go.Proofs.YthcjmmngenogmaaW.AI
set_option maxRecDepth 100000
set_option linter.unusedSimpArgs false
set_option linter.unusedVariables false
set_option linter.unusedSectionVars false
theorem wadd_p {g : AHeap} {p : Nat} (hp : g.length ≤ p) {ws : List Nat} (h : ∀ q ∈ ws, q = p) : wadd g.length [] ws = [] := wadd_ge fun b hb => by rw [h b hb]; exact hp
theorem fnew_at {t f : Int} (h1 : 1 ≤ t) (h2 : t ≤ 1000000000) (h3 : 0 ≤ f) (h4 : f ≤ 500000) {h : AHeap} (hg : Good h) : ∃ p H, W CP 33 [.int .i64 t, .int .i64 f] h = some (.tup [.ptr p 0, .int .i64 0], H, []) ∧ p = h.length + 1 ∧ H.length = h.length + 2 ∧ Good H ∧ Keeps h H none ∧ FilAt H p ⟨t, f, [], -1, false⟩ h.length C0 := by
  have hG : Good (h ++ [⟨.tip false, .vals [.int .i64 t, .int .i64 f, .bool true]⟩, ⟨.tip false, .vals (fX h.length C0 0 (-1) false)⟩]) := good_app hg rfl
  exact ⟨_, _, FNew_ok h1 h2 h3 h4 h, rfl, by simp, hG, keepsG hG, fil_new h1 h2 h3 h4 h⟩
set_option maxHeartbeats 32000000 in
theorem moves_body {g : AHeap} (hg : Good g) {by' : Int} {lv bv wv : AV} (b0 : 0 ≤ by') (b1 : by' < 18446744073709551616) (hL : Ty g (.sl [.i .u32]) lv) (hB : Ty g (.sl [.i .u32]) bv) (hW : Ty g (.sl [.i .u32]) wv) :
    Wp (xbody (W CP) M10 [lv, bv, wv, .int .u64 by'] g) fun r => r.1 = .bool true := by
  obtain ⟨A, uA, lA, rA⟩ := arg_iv hL
  obtain ⟨B, uB, lB, rB⟩ := arg_iv hB
  obtain ⟨D, uD, lD, rD⟩ := arg_iv hW
  have h1 : IntKind.u32.min = 0 := rfl
  have h2 : IntKind.u32.max = 4294967295 := rfl
  have rA : ∀ x ∈ A, 0 ≤ x ∧ x < 4294967296 := fun x hx => by have := rA x hx; omega
  have rB : ∀ x ∈ B, 0 ≤ x ∧ x < 4294967296 := fun x hx => by have := rB x hx; omega
  have rD : ∀ x ∈ D, 0 ≤ x ∧ x < 4294967296 := fun x hx => by have := rD x hx; omega
  have nA := uA.na
  have nB := uB.na
  have nD := uD.na
  have kA := uA.len
  have kB := uB.len
  have kD := uD.len
  obtain ⟨N1, hN1⟩ : ∃ N, A.length = N := ⟨_, rfl⟩
  obtain ⟨N2, hN2⟩ : ∃ N, B.length = N := ⟨_, rfl⟩
  obtain ⟨N3, hN3⟩ : ∃ N, D.length = N := ⟨_, rfl⟩
  rw [hN1] at kA lA
  rw [hN2] at kB lB
  rw [hN3] at kD lD
  have al := fun h => alive20 h
  obtain ⟨p, H1, e1, hp, l1, hG1, k1, f1⟩ := fnew_at (t := 1000) (f := 15000) (by decide) (by decide) (by decide) (by decide) hg
  obtain ⟨q, H2, e2, hq, l2, hG2, k2, f2⟩ := fnew_at (t := 1000) (f := 15000) (by decide) (by decide) (by decide) (by decide) hG1
  have f1 := f1.kept k2
  have kg2 := keepsT k1 k2
  obtain ⟨r, hr⟩ : ∃ r, g.length = r := ⟨_, rfl⟩
  obtain ⟨r', hr'⟩ : ∃ r, H1.length = r := ⟨_, rfl⟩
  have hpr : p = r + 1 := by omega
  have hqr : q = r + 3 := by omega
  have hrr : r' = r + 2 := by omega
  rw [hr'] at f2
  have hdm : by'.tmod 1125899906842624 = by' % 1125899906842624 := Int.tmod_eq_emod_of_nonneg b0
  obtain ⟨d, hd⟩ : ∃ d, by' % 1125899906842624 = d := ⟨_, rfl⟩
  have hd0 : 0 ≤ d ∧ d < 1125899906842624 := by omega
  rw [hd] at hdm
  have wd : IntKind.u64.wrap d = d := wr_u64 _ (by omega) (by omega)
  have wd2 : IntKind.i64.wrap d = d := wr_i64 _ (by omega) (by omega)
  have hp0 : g.length ≤ p := by omega
  have hq0 : g.length ≤ q := by omega
  rw [hr] at f1
  simp (maxDischargeDepth := 9) -implicitDefEqProofs only [push_cast, simprocAttr, M10, nadd1, nadd2, nadd3, nadd4, nadd5, nadd6, nadd7, nadd8, nadd9, nadd10, nadd11, nadd12, nA, nB, nD, e1, e2, hdm, wd, wd2]
  refine wp_kRes (wp_kSeq (wp_kBlock ?_))
  refine wp_loop (fun kk x h' ws => ∃ (i : Nat) (now : Int) (F G : FS) (C E : List Int), kk = 30 - i ∧ i ≤ 30 ∧ x = [(0, lv), (1, bv), (2, wv), (9, .ptr p 0), (11, .ptr q 0), (13, .int .i64 now), (14, .int .i64 d), (15, .int .i64 (i : Int))] ∧
    FilAt h' p F r C ∧ FilAt h' q G r' E ∧ Moved d now F G ∧ 0 ≤ now ∧ now ≤ i * 4294967296 ∧ Keeps g h' none ∧ q < h'.length ∧ ws = []) 30 ?_ ?_
  · refine ⟨0, 0, _, _, _, _, by omega, by omega, ?_, f1, f2, ⟨rfl, rfl, rfl, rfl, rfl, by simp, by decide, by decide, by decide, by decide, hd0.1, by omega⟩, by omega, by omega, kg2, by omega, rfl⟩
    simp (maxDischargeDepth := 9) -implicitDefEqProofs only [push_cast, simprocAttr, nA, nB, nD]; try rfl
  · rintro kk xx h' ws ⟨i, now, F, G, C, E, rfl, hi, rfl, fa, fb, mv, n0, n1, kh, hql, rfl⟩
    have hgh := kh.2.2 hg
    have v1 : IntKind.i64.wrap ((i : Int) + 1) = (i : Int) + 1 := wr_i64 _ (by omega) (by omega)
    by_cases c1 : (i : Int) < (N1 : Int)
    case neg =>
      simp (maxDischargeDepth := 9) -implicitDefEqProofs only [push_cast, simprocAttr, nadd1, nadd2, nadd3, nadd4, nadd5, nadd6, nadd7, nadd8, nadd9, nadd10, nadd11, nadd12, nA, nB, nD, kA, kB, kD, c1, al]
    by_cases c2 : (i : Int) < (N2 : Int)
    case neg =>
      simp (maxDischargeDepth := 9) -implicitDefEqProofs only [push_cast, simprocAttr, nadd1, nadd2, nadd3, nadd4, nadd5, nadd6, nadd7, nadd8, nadd9, nadd10, nadd11, nadd12, nA, nB, nD, kA, kB, kD, c1, c2, al]
    by_cases c3 : (i : Int) < (N3 : Int)
    case neg =>
      simp (maxDischargeDepth := 9) -implicitDefEqProofs only [push_cast, simprocAttr, nadd1, nadd2, nadd3, nadd4, nadd5, nadd6, nadd7, nadd8, nadd9, nadd10, nadd11, nadd12, nA, nB, nD, kA, kB, kD, c1, c2, c3, al]
    by_cases c4 : (i : Int) < 30
    case neg =>
      simp (maxDischargeDepth := 9) -implicitDefEqProofs only [push_cast, simprocAttr, nadd1, nadd2, nadd3, nadd4, nadd5, nadd6, nadd7, nadd8, nadd9, nadd10, nadd11, nadd12, nA, nB, nD, kA, kB, kD, c1, c2, c3, c4, al]
    obtain ⟨x, hx⟩ : ∃ x, A[i]? = some x := ⟨_, List.getElem?_eq_getElem (by omega)⟩
    obtain ⟨y, hy⟩ : ∃ x, B[i]? = some x := ⟨_, List.getElem?_eq_getElem (by omega)⟩
    obtain ⟨w, hw⟩ : ∃ x, D[i]? = some x := ⟨_, List.getElem?_eq_getElem (by omega)⟩
    obtain ⟨x0, x1⟩ := rA x (List.mem_of_getElem? hx)
    obtain ⟨y0, y1⟩ := rB y (List.mem_of_getElem? hy)
    obtain ⟨w0, w1⟩ := rD w (List.mem_of_getElem? hw)
    have hin : now + 4294967296 ≤ 30 * 4294967296 := by omega
    have wx : IntKind.i64.wrap x = x := wr_i64 _ (by omega) (by omega)
    have wy : IntKind.i64.wrap y = y := wr_i64 _ (by omega) (by omega)
    have wm : w.tmod 1048576 = w % 1048576 := Int.tmod_eq_emod_of_nonneg w0
    obtain ⟨v, hv⟩ : ∃ v, w % 1048576 = v := ⟨_, rfl⟩
    have v0 : 0 ≤ v ∧ v < 1048576 := by omega
    rw [hv] at wm
    have wv1 : IntKind.u32.wrap v = v := wr_u32 _ (by omega) (by omega)
    have wv2 : IntKind.i64.wrap v = v := wr_i64 _ (by omega) (by omega)
    obtain ⟨n', hn'⟩ : ∃ n', now + x = n' := ⟨_, rfl⟩
    have s1 : IntKind.i64.wrap (now + x) = n' := by rw [hn']; exact wr_i64 _ (by omega) (by omega)
    obtain ⟨l', hl'⟩ : ∃ l', n' + y = l' := ⟨_, rfl⟩
    have s2 : IntKind.i64.wrap (n' + y) = l' := by rw [hl']; exact wr_i64 _ (by omega) (by omega)
    obtain ⟨u', hu'⟩ : ∃ u', l' + v = u' := ⟨_, rfl⟩
    have s3 : IntKind.i64.wrap (l' + v) = u' := by rw [hu']; exact wr_i64 _ (by omega) (by omega)
    have s4 : IntKind.i64.wrap (l' + d) = l' + d := wr_i64 _ (by omega) (by omega)
    have s5 : IntKind.i64.wrap (u' + d) = u' + d := wr_i64 _ (by omega) (by omega)
    obtain ⟨pA, a1, a2, _⟩ := (uA.kept kh).at hx
    obtain ⟨pB, b1, b2, _⟩ := (uB.kept kh).at hy
    have m1 := mv.later (show now ≤ n' by omega)
    have hRg : Rg 1000000000000 (n', l', u') := by unfold Rg; simp only; omega
    obtain ⟨mp1, mp2⟩ := m1.put hRg rfl
    obtain ⟨mu1, mu2, mu3⟩ := mp2.use (raw := n') (Int.le_refl _) (by omega)
    have mj := mu3.jitO (raw := n') (Int.le_refl _) (by omega)
    -- the blocks
    obtain ⟨Y1, hY1⟩ : ∃ Y, h' ++ [ABlk.new (.ints .i64 [0, 0, 0])] = Y := ⟨_, rfl⟩
    have kY1 : Keeps h' Y1 none := by rw [← hY1]; exact Keeps.app h' [⟨.tip false, .ints .i64 [0, 0, 0]⟩] none rfl
    have bY1 : Y1[h'.length]? = some ⟨.tip false, .ints .i64 [0, 0, 0]⟩ := by rw [← hY1]; exact fend _ _ _
    have lY1 := (List.getElem?_eq_some_iff.1 bY1).1
    obtain ⟨Z1, hZ1⟩ : ∃ H, Y1.set h'.length ⟨.tip false, .ints .i64 [n', l', 0]⟩ = H := ⟨_, rfl⟩
    have kZ1 : Keeps h' Z1 none := by rw [← hZ1]; exact keepsS kY1 (Nat.le_refl _) rfl
    have bZ1 : Z1[h'.length]? = some ⟨.tip false, .ints .i64 [n', l', 0]⟩ := by rw [← hZ1]; exact List.getElem?_set_self lY1
    have lZ1 := (List.getElem?_eq_some_iff.1 bZ1).1
    obtain ⟨pD, d1, d2, _⟩ := (uD.kept (keepsT kh kZ1)).at hw
    obtain ⟨Z2, hZ2⟩ : ∃ H, Z1.set h'.length ⟨.tip false, .ints .i64 [n', l', u']⟩ = H := ⟨_, rfl⟩
    have kZ2 : Keeps h' Z2 none := by rw [← hZ2]; exact keepsS kZ1 (Nat.le_refl _) rfl
    have bZ2 : Z2[h'.length]? = some ⟨.tip false, .ints .i64 [n', l', u']⟩ := by rw [← hZ2]; exact List.getElem?_set_self lZ1
    have lZ2 := (List.getElem?_eq_some_iff.1 bZ2).1
    obtain ⟨Y3, hY3⟩ : ∃ Y, Z2 ++ [ABlk.new (.ints .i64 [0, 0, 0])] = Y := ⟨_, rfl⟩
    have kY3 : Keeps Z2 Y3 none := by rw [← hY3]; exact Keeps.app Z2 [⟨.tip false, .ints .i64 [0, 0, 0]⟩] none rfl
    have bY3 : Y3[Z2.length]? = some ⟨.tip false, .ints .i64 [0, 0, 0]⟩ := by rw [← hY3]; exact fend _ _ _
    have lY3 := (List.getElem?_eq_some_iff.1 bY3).1
    obtain ⟨Z3, hZ3⟩ : ∃ H, Y3.set Z2.length ⟨.tip false, .ints .i64 [n', l' + d, u' + d]⟩ = H := ⟨_, rfl⟩
    have kZ3 : Keeps Z2 Z3 none := by rw [← hZ3]; exact keepsS kY3 (Nat.le_refl _) rfl
    have bZ3 : Z3[Z2.length]? = some ⟨.tip false, .ints .i64 [n', l' + d, u' + d]⟩ := by rw [← hZ3]; exact List.getElem?_set_self lY3
    have k3 := keepsT kZ2 kZ3
    have lZ3 := (List.getElem?_eq_some_iff.1 bZ3).1
    have cZ3 := keepsN kZ3 _ _ bZ2
    have cZ3l := (List.getElem?_eq_some_iff.1 cZ3).1
    have hGZ3 := k3.2.2 hgh
    have hZl : h'.length ≤ Z2.length := kZ2.2.1
    -- Put
    obtain ⟨C4, X4, ws4, hw4, eP, nX4, fa4⟩ := put_c (s := (n', l', u')) hGZ3 (fa.kept k3) (by omega)
    have fb4 := (fb.kept k3).other (q := p) (by omega) (by omega) X4
    have hGZ4 : Good (Z3.set p X4) := good_set hGZ3 nX4
    have bZ4 : (Z3.set p X4)[Z2.length]? = some ⟨.tip false, .ints .i64 [n', l' + d, u' + d]⟩ := by rw [List.getElem?_set_ne (by omega)]; exact bZ3
    have kg4 : Keeps g (Z3.set p X4) none := keepsS (keepsT kh k3) hp0 nX4
    have lZ4 : (Z3.set p X4).length = Z3.length := List.length_set ..
    obtain ⟨Z4, hZ4⟩ : ∃ Z, Z3.set p X4 = Z := ⟨_, rfl⟩
    rw [hZ4] at eP fa4 fb4 hGZ4 bZ4 kg4 lZ4
    have lb4 := (List.getElem?_eq_some_iff.1 bZ4).1
    obtain ⟨E5, X5, ws5, hw5, eQ, nX5, fb5⟩ := put_c (s := (n', l' + d, u' + d)) hGZ4 fb4 (by omega)
    have fa5 := fa4.other (q := q) (by omega) (by omega) X5
    have hGZ5 : Good (Z4.set q X5) := good_set hGZ4 nX5
    have kg5 : Keeps g (Z4.set q X5) none := keepsS kg4 hq0 nX5
    have lZ5 : (Z4.set q X5).length = Z4.length := List.length_set ..
    obtain ⟨Z5, hZ5⟩ : ∃ Z, Z4.set q X5 = Z := ⟨_, rfl⟩
    rw [hZ5] at eQ fb5 fa5 hGZ5 kg5 lZ5
    have hsh : putF G (n', l' + d, u' + d) = putF G (sh d (n', l', u')) := rfl
    rw [hsh] at eQ fb5
    rw [mp1] at eQ
    have hw4' := wadd_p hp0 hw4
    have hw5' := wadd_p hq0 hw5
    obtain ⟨F5, hF5⟩ : ∃ F', (putF F (n', l', u')).2 = F' := ⟨_, rfl⟩
    obtain ⟨G5, hG5⟩ : ∃ F', (putF G (sh d (n', l', u'))).2 = F' := ⟨_, rfl⟩
    obtain ⟨cd, hcd⟩ : ∃ c, (putF F (n', l', u')).1 = c := ⟨_, rfl⟩
    rw [hF5] at fa5 mp2 mu1 mu2 mu3 mj
    rw [hG5] at fb5 mp2 mu1 mu2 mu3 mj
    rw [hcd] at eP eQ
    have eH := held_c hGZ5 fa5
    have eI := held_c hGZ5 fb5
    rw [mp2.held] at eI
    obtain ⟨hb, hhb⟩ : ∃ b, F5.held = b := ⟨_, rfl⟩
    rw [hhb] at eH eI
    -- Use
    obtain ⟨X6, ws6, hw6, eU, nX6, fa6⟩ := use_c (raw := n') hGZ5 fa5 (by omega)
    have fb6 := fb5.other (q := p) (by omega) (by omega) X6
    have hGZ6 : Good (Z5.set p X6) := good_set hGZ5 nX6
    have kg6 : Keeps g (Z5.set p X6) none := keepsS kg5 hp0 nX6
    have lZ6 : (Z5.set p X6).length = Z5.length := List.length_set ..
    obtain ⟨Z6, hZ6⟩ : ∃ Z, Z5.set p X6 = Z := ⟨_, rfl⟩
    rw [hZ6] at eU fb6 fa6 hGZ6 kg6 lZ6
    obtain ⟨ua, hua⟩ : ∃ a, (useO F5 n').1 = a := ⟨_, rfl⟩
    obtain ⟨ub, hub⟩ : ∃ a, (useO G5 n').1 = a := ⟨_, rfl⟩
    obtain ⟨us, hus⟩ : ∃ a, (useO F5 n').2.1 = a := ⟨_, rfl⟩
    rw [hua, hub, hus] at mu2
    rw [hus] at mu1
    rw [hua, hus] at eU
    obtain ⟨ax, ay, az⟩ := ua
    obtain ⟨Y7, hY7⟩ : ∃ Y, Z6 ++ [ABlk.new (.ints .i64 [0, 0, 0])] = Y := ⟨_, rfl⟩
    have kY7 : Keeps Z6 Y7 none := by rw [← hY7]; exact Keeps.app Z6 [⟨.tip false, .ints .i64 [0, 0, 0]⟩] none rfl
    have bY7 : Y7[Z6.length]? = some ⟨.tip false, .ints .i64 [0, 0, 0]⟩ := by rw [← hY7]; exact fend _ _ _
    have lY7 := (List.getElem?_eq_some_iff.1 bY7).1
    obtain ⟨Z7, hZ7⟩ : ∃ H, Y7.set Z6.length ⟨.tip false, .ints .i64 [ax, ay, az]⟩ = H := ⟨_, rfl⟩
    have kZ7 : Keeps Z6 Z7 none := by rw [← hZ7]; exact keepsS kY7 (Nat.le_refl _) rfl
    have bZ7 : Z7[Z6.length]? = some ⟨.tip false, .ints .i64 [ax, ay, az]⟩ := by rw [← hZ7]; exact List.getElem?_set_self lY7
    have lb7 := (List.getElem?_eq_some_iff.1 bZ7).1
    have hGZ7 := kZ7.2.2 hGZ6
    obtain ⟨X8, ws8, hw8, eV, nX8, fb8⟩ := use_c (raw := n') hGZ7 (fb6.kept kZ7) (by omega)
    have fa8 := (fa6.kept kZ7).other (q := q) (by omega) (by omega) X8
    have hGZ8 : Good (Z7.set q X8) := good_set hGZ7 nX8
    have kg8 : Keeps g (Z7.set q X8) none := keepsS (keepsT kg6 kZ7) hq0 nX8
    have lZ8 : (Z7.set q X8).length = Z7.length := List.length_set ..
    have bZ8 : (Z7.set q X8)[Z6.length]? = some ⟨.tip false, .ints .i64 [ax, ay, az]⟩ := by rw [List.getElem?_set_ne (by omega)]; exact bZ7
    obtain ⟨Z8, hZ8⟩ : ∃ Z, Z7.set q X8 = Z := ⟨_, rfl⟩
    rw [hZ8] at eV fb8 fa8 hGZ8 kg8 lZ8 bZ8
    rw [hub, mu1] at eV
    obtain ⟨bx, bY, bz⟩ := ub
    obtain ⟨Y9, hY9⟩ : ∃ Y, Z8 ++ [ABlk.new (.ints .i64 [0, 0, 0])] = Y := ⟨_, rfl⟩
    have kY9 : Keeps Z8 Y9 none := by rw [← hY9]; exact Keeps.app Z8 [⟨.tip false, .ints .i64 [0, 0, 0]⟩] none rfl
    have bY9 : Y9[Z8.length]? = some ⟨.tip false, .ints .i64 [0, 0, 0]⟩ := by rw [← hY9]; exact fend _ _ _
    have lY9 := (List.getElem?_eq_some_iff.1 bY9).1
    obtain ⟨Z9, hZ9⟩ : ∃ H, Y9.set Z8.length ⟨.tip false, .ints .i64 [bx, bY, bz]⟩ = H := ⟨_, rfl⟩
    have kZ9 : Keeps Z8 Z9 none := by rw [← hZ9]; exact keepsS kY9 (Nat.le_refl _) rfl
    have bZ9 : Z9[Z8.length]? = some ⟨.tip false, .ints .i64 [bx, bY, bz]⟩ := by rw [← hZ9]; exact List.getElem?_set_self lY9
    have lb9 := (List.getElem?_eq_some_iff.1 bZ9).1
    have cZ9 := keepsN kZ9 _ _ bZ8
    have cZ9l := (List.getElem?_eq_some_iff.1 cZ9).1
    have hGZ9 := kZ9.2.2 hGZ8
    have eJ := jitO_c (raw := n') hGZ9 (fa8.kept kZ9)
    have eK := jitO_c (raw := n') hGZ9 (fb8.kept kZ9)
    rw [mj] at eK
    obtain ⟨jj, hjj⟩ : ∃ j, jitO (useO F5 n').2.2 n' = j := ⟨_, rfl⟩
    rw [hjj] at eJ eK
    have hw6' := wadd_p hp0 hw6
    have hw8' := wadd_p hq0 hw8
    have hk9 := kZ9.2.1
    have hk7 := kZ7.2.1
    have hk3 := kZ3.2.1
    have g1 : ¬ h'.length < g.length := by have := kh.2.1; omega
    have g2 : ¬ Z2.length < g.length := by omega
    have g3 : ¬ Z6.length < g.length := by omega
    have g4 : ¬ Z8.length < g.length := by omega
    have g5 : ¬ Z3.length ≤ Z2.length := by omega
    have g6 : ws4.contains Z2.length = false := by
      cases hcc : ws4.contains Z2.length with
      | false => rfl
      | true =>
        have := hw4 _ (by simpa using hcc)
        omega
    cases us with
    | false =>
      simp (maxDischargeDepth := 9) -implicitDefEqProofs only [push_cast, simprocAttr, nadd1, nadd2, nadd3, nadd4, nadd5, nadd6, nadd7, nadd8, nadd9, nadd10, nadd11, nadd12, nA, nB, nD, kA, kB, kD, c1, c2, c3, c4, v1, ↓uia_eq, a1, ↓uld_eq 64, a2, wx, s1, b1, ↓uld_eq 72, b2, wy, s2, hY1, bY1, lY1, hZ1, bZ1, lZ1, d1, ↓uld_eq 81, d2, wm, wv1, wv2, s3, hZ2, bZ2, lZ2, s4, s5, hY3, bY3, lY3, hZ3, cZ3, cZ3l, eP, hw4', bZ4, lb4, eQ, hw5', eH, eI, eU, hw6', hY7, bY7, lY7, hZ7, eV, hw8', hY9, bY9, lY9, hZ9, eJ, eK, g1, g2, g3, g4, g5, g6, hZ4, hZ5, hZ6, hZ8, beq_self_eq_true, decide_false, Bool.not_false, Bool.and_true]
      refine loop_next (30 - (i + 1)) (by omega) ⟨i + 1, n', _, _, C4, E5, rfl, by omega, ?_, fa8.kept kZ9, fb8.kept kZ9, mu3, by omega, by omega, keepsT kg8 kZ9, by omega, rfl⟩
      simp (maxDischargeDepth := 9) -implicitDefEqProofs only [push_cast, simprocAttr, nA, nB, nD]; try simp
    | true =>
      have hsh2 := mu2 rfl
      simp only [sh, Prod.mk.injEq] at hsh2
      obtain ⟨t1, t2, t3⟩ := hsh2
      have ma : -2305843009213693952 ≤ ay ∧ ay ≤ 2305843009213693952 ∧ -2305843009213693952 ≤ az ∧ az ≤ 2305843009213693952 := by
        have hc : canL F5 n' := by
          unfold useO at hus
          split at hus
          · rename_i h; exact h.1
          · cases hus
        have hua2 : bestS (ageL F5 n') = (ax, ay, az) := by
          rw [← hua]
          unfold useO
          split
          · rfl
          · rename_i h
            unfold useO at hus
            rw [if_neg h] at hus
            cases hus
        have := (mp2.age (raw := n') (Int.le_refl _) (by omega)).2 _ (List.mem_of_getElem? (bestS_at (ageL_ne hc)))
        rw [hua2] at this
        unfold Rg at this
        simp only at this
        omega
      have s6 : IntKind.i64.wrap (ay + d) = ay + d := wr_i64 _ (by omega) (by omega)
      have s7 : IntKind.i64.wrap (az + d) = az + d := wr_i64 _ (by omega) (by omega)
      subst t1 t2 t3
      simp (maxDischargeDepth := 9) -implicitDefEqProofs only [push_cast, simprocAttr, nadd1, nadd2, nadd3, nadd4, nadd5, nadd6, nadd7, nadd8, nadd9, nadd10, nadd11, nadd12, nA, nB, nD, kA, kB, kD, c1, c2, c3, c4, v1, ↓uia_eq, a1, ↓uld_eq 64, a2, wx, s1, b1, ↓uld_eq 72, b2, wy, s2, hY1, bY1, lY1, hZ1, bZ1, lZ1, d1, ↓uld_eq 81, d2, wm, wv1, wv2, s3, hZ2, bZ2, lZ2, s4, s5, hY3, bY3, lY3, hZ3, cZ3, cZ3l, eP, hw4', bZ4, lb4, eQ, hw5', eH, eI, eU, hw6', hY7, bY7, lY7, hZ7, eV, hw8', hY9, bY9, lY9, hZ9, bZ9, lb9, cZ9, cZ9l, s6, s7, eJ, eK, g1, g2, g3, g4, g5, g6, hZ4, hZ5, hZ6, hZ8, beq_self_eq_true, decide_false, Bool.not_false, Bool.and_true]
      refine loop_next (30 - (i + 1)) (by omega) ⟨i + 1, n', _, _, C4, E5, rfl, by omega, ?_, fa8.kept kZ9, fb8.kept kZ9, mu3, by omega, by omega, keepsT kg8 kZ9, by omega, rfl⟩
      simp (maxDischargeDepth := 9) -implicitDefEqProofs only [push_cast, simprocAttr, nA, nB, nD]; try simp
theorem moves_law (js : AHeap) (avs : List AV) (hx : Ext js) (ht : TyA (CP.gl ++ js) [.one (.sl [.i .u32]), .one (.sl [.i .u32]), .one (.sl [.i .u32]), .one (.i .u64)] avs) : ∃ h' ws, W CP 10 avs (CP.gl ++ js) = some (.bool true, h', ws) := by
  simp only [TyA] at ht
  obtain ⟨v, _, rfl, hv, u, _, rfl, hu, w, _, rfl, hw, a, _, rfl, ha, rfl⟩ := ht
  simp only [Ty] at ha
  obtain ⟨a, rfl, a0, a1⟩ := ha
  have e1 : IntKind.u64.min = 0 := rfl
  have e2 : IntKind.u64.max = 18446744073709551615 := rfl
  refine W_law (m := M10) (fun _ => rfl) rfl (moves_body (good_ext hx) (by omega) (by omega) hv hu hw) fun h0 => ?_
  simp only [AV.lts, Bool.and_eq_true] at h0
  exact moves_body glG (by omega) (by omega) (ty_nil hv h0.1) (ty_nil hu h0.2.1) (ty_nil hw h0.2.2.1)
theorem moves_kinds : aksOf X.P 20 [57, 57, 57, 27] = some [.one (.sl [.i .u32]), .one (.sl [.i .u32]), .one (.sl [.i .u32]), .one (.i .u64)] := by kernel_rfl
end Go.Proofs.YthcjmmngenogmaaW.AI.E
