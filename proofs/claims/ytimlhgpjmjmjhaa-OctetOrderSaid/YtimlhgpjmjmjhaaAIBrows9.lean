import Derived.Test.YtimlhgpjmjmjhaaAIBrows8
namespace Go.Proofs.YtimlhgpjmjmjhaaW.AI.B
open Go Go.Proofs.YtimlhgpjmjmjhaaW.AI Go.Proofs.YtimlhgpjmjmjhaaW.AI.Oct Go.RowKit
set_option maxRecDepth 100000
set_option linter.unusedSimpArgs false
set_option linter.unusedVariables false
set_option linter.unusedSectionVars false
theorem good_glQ : Good CQ.gl := rfl
theorem compare_c {h : AHeap} {x y : AV} {D E : List Int} (hg : Good h) (hx : BV h x D) (hy : BV h y E) (hx0 : x.lt 0 = false) : W CQ 54 [x, y] h = some (.int .i64 (cmpV D E), h, []) := by
  have nx := hx.na
  have ny := hy.na
  have e : W CQ 76 [x, y] h = some (.int .i64 (cmpV D E), h, []) := by
    refine W_prim ?_
    show primQ 76 [x, y] h = some (some (.int .i64 (cmpV D E), h, []))
    unfold primQ
    rw [if_pos rfl]
    simp only [hx.byteL, hy.byteL]
  refine W_quietP (m := M54) rfl rfl (by simp [AV.lts, hx0]) rfl rfl hg ?_
  simp (maxDischargeDepth := 9) -implicitDefEqProofs only [push_cast, simprocAttr, M54, nx, ny, e]
  exact quietB
theorem nclone_c {h : AHeap} {x : AV} {V : List Int} (hg : Good h) (u : IV .u64 h x V) (h0 : V ≠ []) (hl : V.length < 100000) : W CP 53 [x] h = some (.gsl (h.length + 1) 0 V.length 1 false, h ++ [⟨.tip false, .ints .u64 []⟩, ⟨.tip false, .ints .u64 V⟩], []) := by
  have hpos : ¬ V.length = 0 := fun e => h0 (List.length_eq_zero_iff.1 e)
  have hn := (u.app [⟨.tip false, .ints .u64 []⟩]).new
  have ea : aappend (h ++ [⟨.tip false, .ints .u64 []⟩]) (.ints .u64 [0]) 8 (.sl h.length 0 0 0) (.ints .u64 V) V.length = some (.gsl (h.length + 1) 0 V.length 1 false, h ++ [⟨.tip false, .ints .u64 []⟩, ⟨.tip false, .ints .u64 V⟩], []) := by
    have e0 : (h ++ [(⟨.tip false, .ints .u64 []⟩ : ABlk)])[h.length]? = some ⟨.tip false, .ints .u64 []⟩ := by simp
    have hp : ¬ 0 + V.length ≤ 0 := by omega
    simp only [aappend, if_neg hp]
    have e1 : sliceCells (h ++ [(⟨.tip false, .ints .u64 []⟩ : ABlk)]) (ACells.ints .u64 [0]).len (.sl h.length 0 0 0) = some (.ints .u64 []) := by
      simp [sliceCells, cellsAt, e0, ACells.len, ACells.sub]
    rw [e1]
    have hr : room V.length 8 = true := by simp only [room, decide_eq_true_eq]; omega
    simp [ACells.app, hr, ACells.len]
  have lx := u.len
  have hx0 : AV.lts 0 [x] = false := by
    rcases u with ⟨_, e⟩ | ⟨b, c, st, l, mn, _, _, _, _, ⟨rfl, _⟩ | rfl⟩
    · exact absurd e h0
    · simp [AV.lts, AV.lt]
    · simp [AV.lts, AV.lt]
  have key : xbody (W CP) M53 [x] h = some (.gsl (h.length + 1) 0 V.length 1 false, h ++ [⟨.tip false, .ints .u64 []⟩, ⟨.tip false, .ints .u64 V⟩], []) := by
    rcases u with ⟨_, e⟩ | ⟨b, c, st, l, mn, _, _, _, _, ⟨rfl, _⟩ | rfl⟩
    · exact absurd e h0
    · simp (maxDischargeDepth := 9) -implicitDefEqProofs only [push_cast, simprocAttr, M53, nadd1, nadd2, nadd3, nadd4, nadd5, nadd6, nadd7, nadd8, nadd9, nadd10, nadd11, nadd12, hn, ea]
    · simp (maxDischargeDepth := 9) -implicitDefEqProofs only [push_cast, simprocAttr, M53, nadd1, nadd2, nadd3, nadd4, nadd5, nadd6, nadd7, nadd8, nadd9, nadd10, nadd11, nadd12, hn, ea, hpos, decide_false, Bool.and_false]
  rw [W_body (m := M53) rfl rfl hx0 key, show (M53).trim = true from rfl, if_pos rfl, trim_addr (by simp [AV.lt])]
set_option maxHeartbeats 32000000 in
theorem order_body {g : AHeap} (hg : Good g) {lv : AV} (hlv : Ty g (.sl [.i .u8, .i .u64]) lv) {q n : Int} (q0 : 0 ≤ q) (q1 : q ≤ 255) (n0 : 0 ≤ n) (n1 : n < 18446744073709551616) :
    Wp (xbody (W CQ) M13 [lv, .int .u8 q, .int .u64 n] g) fun r => r.1 = .bool true := by
  obtain ⟨E0, uE, rE0, lE⟩ := arg_ce hlv
  have nE := na_slen uE.na
  obtain ⟨Q, rfl⟩ : ∃ Q : Nat, q = (Q : Int) := ⟨q.toNat, by omega⟩
  have wQ : IntKind.i64.wrap (Q : Int) = (Q : Int) := wr_i64 _ (by omega) (by omega)
  obtain ⟨_, j1, eC, ⟨sv, nv, rfl, uS, uV⟩, hG1, _⟩ := cells_c hg uE rE0 lE
  have eC := lift eC
  have aw := fun h => lift (awake_c h)
  have k01 : Keeps g (g ++ j1) none := keepsG hG1
  obtain ⟨H1, hH1⟩ : ∃ H, g ++ j1 = H := ⟨_, rfl⟩
  rw [hH1] at eC uS uV hG1 k01
  clear hH1
  have rE : ∀ p ∈ E0.take 30, 0 ≤ p.1 ∧ p.1 ≤ 255 ∧ 0 ≤ p.2 ∧ p.2 < 18446744073709551616 := fun p hp => rE0 p (List.mem_of_mem_take hp)
  have hok := ceS_ok (E := E0.take 30)
  have hll := ce_len (E0.take 30)
  have hfit := ce_fit rE
  have hrng := ce_rng rE
  have l30 : (ceS (E0.take 30)).length ≤ 30 := by simp [ceS]; omega
  obtain ⟨Ls, hLs⟩ : ∃ Ls, ceS (E0.take 30) = Ls := ⟨_, rfl⟩
  obtain ⟨V, hV⟩ : ∃ V, ceN (E0.take 30) = V := ⟨_, rfl⟩
  rw [hLs] at uS hok hll hfit l30
  rw [hV] at uV hll hfit hrng
  clear hLs hV rE rE0 uE
  have nS := uS.na
  have nV := uV.na
  have lV := uV.len
  obtain ⟨N, hN⟩ : ∃ N, V.length = N := ⟨_, rfl⟩
  rw [hN] at lV
  by_cases hN0 : N = 0
  · subst hN0
    simp (maxDischargeDepth := 9) -implicitDefEqProofs only [push_cast, simprocAttr, M13, nadd1, nadd2, nadd3, nadd4, nadd5, nadd6, nadd7, nadd8, nadd9, nadd10, nadd11, nadd12, nE, eC, nS, nV, lV, aw]
  have hNz : ¬ (N : Int) = 0 := by omega
  -- the place
  obtain ⟨k, hk⟩ : ∃ k, Q % N = k := ⟨_, rfl⟩
  have hkN : k < N := by rw [← hk]; exact Nat.mod_lt _ (by omega)
  have hkm : (Q : Int).tmod (N : Int) = (k : Int) := by rw [Int.tmod_eq_emod_of_nonneg (by omega), ← hk]; rfl
  obtain ⟨s, hs⟩ : ∃ s, Ls[k]? = some s := ⟨_, List.getElem?_eq_getElem (by omega)⟩
  obtain ⟨a, ha⟩ : ∃ a, V[k]? = some a := ⟨_, List.getElem?_eq_getElem (by omega)⟩
  obtain ⟨a0, a1⟩ := hfit k s a hs ha
  obtain ⟨s1, s8⟩ := hok s (List.mem_of_getElem? hs)
  -- the clone
  have eN := lift (nclone_c hG1 uV (by rintro rfl; simp at hN; omega) (by omega))
  rw [hN] at eN
  have hG2 : Good (H1 ++ [⟨.tip false, .ints .u64 []⟩, ⟨.tip false, .ints .u64 V⟩]) := good_app hG1 rfl
  have k12 : Keeps H1 (H1 ++ [⟨.tip false, .ints .u64 []⟩, ⟨.tip false, .ints .u64 V⟩]) none := keepsG hG2
  have b2 : (H1 ++ [(⟨.tip false, .ints .u64 []⟩ : ABlk), ⟨.tip false, .ints .u64 V⟩])[H1.length + 1]? = some ⟨.tip false, .ints .u64 V⟩ := by rw [List.getElem?_append_right (by omega)]; simp
  obtain ⟨H2, hH2⟩ : ∃ H, H1 ++ [(⟨.tip false, .ints .u64 []⟩ : ABlk), ⟨.tip false, .ints .u64 V⟩] = H := ⟨_, rfl⟩
  rw [hH2] at eN hG2 k12 b2
  clear hH2
  have l2 := (List.getElem?_eq_some_iff.1 b2).1
  -- the number
  obtain ⟨S, hS⟩ : ∃ S, 64 - 8 * s = S := ⟨_, rfl⟩
  have w4 : IntKind.i64.wrap (8 * (s : Int)) = 8 * (s : Int) := wr_i64 _ (by omega) (by omega)
  have w5 : IntKind.i64.wrap (64 - 8 * (s : Int)) = (S : Int) := by rw [wr_i64 _ (by omega) (by omega)]; omega
  have hS0 : ¬ (S : Int) < 0 := by omega
  have hS6 : min S 64 = S := by omega
  have hp0 : (0 : Int) < 2 ^ S := Int.pow_pos (by decide)
  have hfd : n.fdiv (2 ^ S) = n / 2 ^ S := Int.fdiv_eq_ediv_of_nonneg _ (Int.le_of_lt hp0)
  have y0 : 0 ≤ n / 2 ^ S := Int.ediv_nonneg n0 (Int.le_of_lt hp0)
  have y1 : n / 2 ^ S < 256 ^ s := by
    refine Int.ediv_lt_of_lt_mul hp0 ?_
    rw [← pow256, ← Int.pow_add, show 8 * s + S = 64 by omega]
    have : (2 : Int) ^ 64 = 18446744073709551616 := by decide
    omega
  obtain ⟨y, hy⟩ : ∃ y, n / 2 ^ S = y := ⟨_, rfl⟩
  rw [hy] at hfd y0 y1
  -- the row that is other
  obtain ⟨H3, hH3⟩ : ∃ H, H2.set (H1.length + 1) ⟨.tip false, .ints .u64 (V.set k y)⟩ = H := ⟨_, rfl⟩
  have k13 : Keeps H1 H3 none := by rw [← hH3]; exact keepsS k12 (by omega) rfl
  have hG3 := k13.2.2 hG1
  have b3 : H3[H1.length + 1]? = some ⟨.tip false, .ints .u64 (V.set k y)⟩ := by rw [← hH3]; exact List.getElem?_set_self l2
  have uB : IV .u64 H3 (.gsl (H1.length + 1) 0 N 1 false) (V.set k y) := Or.inr ⟨H1.length + 1, 0, .tip false, V.set k y, false, b3, Or.inr ⟨_, rfl⟩, Nat.le_refl _, List.take_length, Or.inr (by rw [List.length_set, hN])⟩
  have hyk : (V.set k y)[k]? = some y := List.getElem?_set_self (by omega)
  have hsI : (szI Ls)[k]? = some (s : Int) := by simp [hs]
  obtain ⟨p1, ea1, ea2, _⟩ := (uS.kept k12).at hsI
  have hep : ∀ g : AHeap, uia 1 g k (some (.gsl (H1.length + 1) 0 N 1 false)) = some (.ptr (H1.length + 1) k, g, []) := fun g => by simp [uia, hkN]
  have hkV : k < V.length := by omega
  -- the two rows as bytes
  have hlV : Ls.length = V.length := hll
  have e4 := lift (layg_ok hG3 (uS.kept k13) (uV.kept k13) (by omega) hlV hok hrng (fun i s v h1 h2 => (hfit i s v h1 h2).2))
  have hG4 : Good (H3 ++ [⟨.tip false, .vals [nv]⟩, ⟨.tip false, .ints .i64 [0]⟩, ⟨.tip false, .ints .u8 (layB Ls V)⟩]) := good_app hG3 rfl
  have k34 : Keeps H3 (H3 ++ [⟨.tip false, .vals [nv]⟩, ⟨.tip false, .ints .i64 [0]⟩, ⟨.tip false, .ints .u8 (layB Ls V)⟩]) none := keepsG hG4
  have b4 : (H3 ++ [(⟨.tip false, .vals [nv]⟩ : ABlk), ⟨.tip false, .ints .i64 [0]⟩, ⟨.tip false, .ints .u8 (layB Ls V)⟩])[H3.length + 2]? = some ⟨.tip false, .ints .u8 (layB Ls V)⟩ := by rw [List.getElem?_append_right (by omega)]; simp
  obtain ⟨H4, hH4⟩ : ∃ H, H3 ++ [(⟨.tip false, .vals [nv]⟩ : ABlk), ⟨.tip false, .ints .i64 [0]⟩, ⟨.tip false, .ints .u8 (layB Ls V)⟩] = H := ⟨_, rfl⟩
  rw [hH4] at e4 hG4 k34 b4
  clear hH4
  have hrng2 : ∀ v ∈ V.set k y, 0 ≤ v ∧ v < 18446744073709551616 := fun v hv => by
    rcases List.mem_or_eq_of_mem_set hv with h | rfl
    · exact hrng v h
    · have : (256 : Int) ^ s ≤ 256 ^ 8 := pow256_le' s8
      have e8 : (256 : Int) ^ 8 = 18446744073709551616 := by decide
      omega
  have hfit2 : ∀ (i s : Nat) (v : Int), Ls[i]? = some s → (V.set k y)[i]? = some v → v < 256 ^ s := fun i s' v h1 h2 => by
    by_cases c : k = i
    · subst c
      rw [hyk] at h2
      rw [hs] at h1
      have e1 := Option.some.inj h2
      have e2 := Option.some.inj h1
      rw [← e1, ← e2]
      exact y1
    · rw [List.getElem?_set, if_neg c] at h2
      exact (hfit i s' v h1 h2).2
  have e5 := lift (layg_ok hG4 ((uS.kept k13).kept k34) (uB.kept k34) (by omega) (by rw [List.length_set]; exact hlV) hok hrng2 hfit2)
  have hG5 : Good (H4 ++ [⟨.tip false, .vals [.gsl (H1.length + 1) 0 N 1 false]⟩, ⟨.tip false, .ints .i64 [0]⟩, ⟨.tip false, .ints .u8 (layB Ls (V.set k y))⟩]) := good_app hG4 rfl
  have k45 : Keeps H4 (H4 ++ [⟨.tip false, .vals [.gsl (H1.length + 1) 0 N 1 false]⟩, ⟨.tip false, .ints .i64 [0]⟩, ⟨.tip false, .ints .u8 (layB Ls (V.set k y))⟩]) none := keepsG hG5
  have b5 : (H4 ++ [(⟨.tip false, .vals [.gsl (H1.length + 1) 0 N 1 false]⟩ : ABlk), ⟨.tip false, .ints .i64 [0]⟩, ⟨.tip false, .ints .u8 (layB Ls (V.set k y))⟩])[H4.length + 2]? = some ⟨.tip false, .ints .u8 (layB Ls (V.set k y))⟩ := by rw [List.getElem?_append_right (by omega)]; simp
  obtain ⟨H5, hH5⟩ : ∃ H, H4 ++ [(⟨.tip false, .vals [.gsl (H1.length + 1) 0 N 1 false]⟩ : ABlk), ⟨.tip false, .ints .i64 [0]⟩, ⟨.tip false, .ints .u8 (layB Ls (V.set k y))⟩] = H := ⟨_, rfl⟩
  rw [hH5] at e5 hG5 k45 b5
  clear hH5
  have lX := layB_len Ls V hlV
  have lY := layB_len Ls (V.set k y) (by rw [List.length_set]; exact hlV)
  obtain ⟨M, hM⟩ : ∃ M, Ls.sum = M := ⟨_, rfl⟩
  rw [hM] at e4 e5 lX lY
  have bX : BV H5 (.sl (H3.length + 2) 0 M M) (layB Ls V) := ⟨layB_byt _ _, Or.inr ⟨H3.length + 2, 0, M, .tip false, layB Ls V, false, keepsN k45 _ _ b4, Or.inr ⟨_, rfl⟩, by omega, by rw [List.drop_zero, List.take_length], Or.inl ⟨by rw [lX], by omega⟩⟩⟩
  have bY : BV H5 (.sl (H4.length + 2) 0 M M) (layB Ls (V.set k y)) := ⟨layB_byt _ _, Or.inr ⟨H4.length + 2, 0, M, .tip false, layB Ls (V.set k y), false, b5, Or.inr ⟨_, rfl⟩, by omega, by rw [List.drop_zero, List.take_length], Or.inl ⟨by rw [lY], by omega⟩⟩⟩
  have eQ := compare_c hG5 bX bY (by simp [AV.lt])
  obtain ⟨c1, c2⟩ := lay_cmp hs ha a0 a1 y0 y1
  obtain ⟨C, hC⟩ : ∃ C, cmpV (layB Ls V) (layB Ls (V.set k y)) = C := ⟨_, rfl⟩
  rw [hC] at eQ c1 c2
  have k35 := keepsT k34 k45
  obtain ⟨p2, eb1, eb2, _⟩ := ((uV.kept k13).kept k35).at ha
  obtain ⟨p3, ec1, ec2, _⟩ := (uB.kept k35).at hyk
  have hp3 : p3 = H1.length + 1 := by
    have := (ec1 []).symm.trans (hep [])
    simp only [Option.some.injEq, Prod.mk.injEq, AV.ptr.injEq, and_true] at this
    exact this
  subst hp3
  have hlo : ¬ H1.length + 1 < g.length := by have := k01.2.1; omega
  have hcase : (C < 0 ∧ a < y ∧ ¬ C = 0 ∧ ¬ a = y) ∨ (¬ C < 0 ∧ ¬ a < y ∧ C = 0 ∧ a = y) ∨ (¬ C < 0 ∧ ¬ a < y ∧ ¬ C = 0 ∧ ¬ a = y) := by omega
  rcases hcase with ⟨f1, f2, f3, f4⟩ | ⟨f1, f2, f3, f4⟩ | ⟨f1, f2, f3, f4⟩
  · simp (maxDischargeDepth := 9) -implicitDefEqProofs only [push_cast, simprocAttr, M13, nadd1, nadd2, nadd3, nadd4, nadd5, nadd6, nadd7, nadd8, nadd9, nadd10, nadd11, nadd12, nE, eC, nS, nV, lV, hNz, wQ, hkm, eN, ↓uia_eq, ea1, ↓uld_eq 37, ea2, hep, w4, w5, hS0, hS6, hfd, b2, l2, hkV, hH3, e4, e5, eQ, aw, eb1, ↓uld_eq 72, ↓uld_eq 76, ↓uld_eq 86, ↓uld_eq 90, eb2, ec1, ec2, f1, f2, f3, f4, hlo, Int.toNat_natCast]
  · simp (maxDischargeDepth := 9) -implicitDefEqProofs only [push_cast, simprocAttr, M13, nadd1, nadd2, nadd3, nadd4, nadd5, nadd6, nadd7, nadd8, nadd9, nadd10, nadd11, nadd12, nE, eC, nS, nV, lV, hNz, wQ, hkm, eN, ↓uia_eq, ea1, ↓uld_eq 37, ea2, hep, w4, w5, hS0, hS6, hfd, b2, l2, hkV, hH3, e4, e5, eQ, aw, eb1, ↓uld_eq 72, ↓uld_eq 76, ↓uld_eq 86, ↓uld_eq 90, eb2, ec1, ec2, f1, f2, f3, f4, hlo, Int.toNat_natCast]
  · simp (maxDischargeDepth := 9) -implicitDefEqProofs only [push_cast, simprocAttr, M13, nadd1, nadd2, nadd3, nadd4, nadd5, nadd6, nadd7, nadd8, nadd9, nadd10, nadd11, nadd12, nE, eC, nS, nV, lV, hNz, wQ, hkm, eN, ↓uia_eq, ea1, ↓uld_eq 37, ea2, hep, w4, w5, hS0, hS6, hfd, b2, l2, hkV, hH3, e4, e5, eQ, aw, eb1, ↓uld_eq 72, ↓uld_eq 76, ↓uld_eq 86, ↓uld_eq 90, eb2, ec1, ec2, f1, f2, f3, f4, hlo, Int.toNat_natCast]
theorem order_law (js : AHeap) (avs : List AV) (hx : Ext js) (ht : TyA (CQ.gl ++ js) [.one (.sl [.i .u8, .i .u64]), .one (.i .u8), .one (.i .u64)] avs) : ∃ h' ws, W CQ 13 avs (CQ.gl ++ js) = some (.bool true, h', ws) := by
  simp only [TyA] at ht
  obtain ⟨v, _, rfl, hv, u, _, rfl, hu, w, _, rfl, hw, rfl⟩ := ht
  simp only [Ty] at hu hw
  obtain ⟨q, rfl, q0, q1⟩ := hu
  obtain ⟨n, rfl, n0, n1⟩ := hw
  have e1 : IntKind.u8.min = 0 := rfl
  have e2 : IntKind.u8.max = 255 := rfl
  have e3 : IntKind.u64.min = 0 := rfl
  have e4 : IntKind.u64.max = 18446744073709551615 := rfl
  refine W_law (m := M13) (fun _ => rfl) rfl (order_body (good_ext hx) hv (by omega) (by omega) (by omega) (by omega)) fun h0 => ?_
  simp only [AV.lts, Bool.and_eq_true] at h0
  exact order_body good_glQ (ty_nil hv h0.1) (by omega) (by omega) (by omega) (by omega)
theorem order_kinds : aksOf X.P 20 [95, 5, 74] = some [.one (.sl [.i .u8, .i .u64]), .one (.i .u8), .one (.i .u64)] := by kernel_rfl
end Go.Proofs.YtimlhgpjmjmjhaaW.AI.B
