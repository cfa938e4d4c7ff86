import Derived.Test.YtimlhgpjmjmjhaaAIBrows6
import Derived.Test.YtimlhgpjmjmjhaaAIBoctl
namespace Go.Proofs.YtimlhgpjmjmjhaaW.AI.B
open Go Go.Proofs.YtimlhgpjmjmjhaaW.AI Go.Proofs.YtimlhgpjmjmjhaaW.AI.Oct Go.RowKit
set_option maxRecDepth 100000
set_option linter.unusedSimpArgs false
set_option linter.unusedVariables false
set_option linter.unusedSectionVars false
theorem app_nm {H : AHeap} {z : ACells} {e m : Nat} {v v' : AV} {xs : ACells} {H' : AHeap} {ws : List Nat} (ea : aappend H z e v xs m = some (v', H', ws)) (h : NM v) : NM v' := by
  unfold aappend at ea
  split at ea
  · split at ea
    · cases ea; intro b o n e h; cases h
    · split at ea
      · cases ea; intro b o n e h; cases h
      · cases ea
  · split at ea
    · simp only [Option.map_eq_some_iff, Prod.mk.injEq] at ea
      obtain ⟨_, _, rfl, _⟩ := ea
      intro b o n e h; cases h
    · simp only [Option.bind_eq_some_iff] at ea
      obtain ⟨_, _, _, _, ea⟩ := ea
      split at ea
      · cases ea; intro b o n e h; cases h
      · cases ea
  · split at ea
    · split at ea
      · split at ea
        · simp only [Option.bind_eq_some_iff] at ea
          obtain ⟨_, _, ea⟩ := ea
          split at ea
          · rename_i mn _ _ _ _ _ _ _ _ _
            simp only [Option.some.injEq, Prod.mk.injEq] at ea
            obtain ⟨rfl, _⟩ := ea
            intro b o n e he
            simp only [AV.gsl.injEq] at he
            exact h _ _ _ _ (by rw [he.2.2.2.2])
          · cases ea
        · cases ea
      · cases ea
    · cases ea
  · cases ea
theorem NM.cut {x : AV} (h : NM x) (k : Nat) : NM (cutX x k) := by
  cases x with
  | gsl b o n e mn =>
    intro b' o' n' e' he
    simp only [cutX, AV.gsl.injEq] at he
    exact h b o n e (by rw [he.2.2.2.2])
  | _ => intro b' o' n' e' he; simp [cutX] at he
theorem RowN.t1 {H : AHeap} {v : AV} {D : List Int} {n : Nat} (r : RowN H v D n) : T1 H v D n ∧ NM v := by
  rcases r with ⟨rfl, rfl⟩ | ⟨p, hn, hp, ⟨rfl, rfl⟩ | rfl⟩
  · exact ⟨Or.inl ⟨rfl, rfl⟩, fun b o n e h => by cases h⟩
  · exact ⟨Or.inr ⟨p, hn, Or.inl ⟨rfl, hp⟩⟩, fun b o n e h => by cases h⟩
  · exact ⟨Or.inr ⟨p, hn, Or.inr ⟨false, false, rfl, hp⟩⟩, fun b o n e h => by cases h⟩
theorem bclone_g {h : AHeap} {x : AV} {D : List Int} (hg : Good h) (hx : BV h x D) (hnm : NM x) (hl : D.length < 1000000000) : ∃ v js, W CP 55 [x] h = some (v, h ++ js, []) ∧ RowN (h ++ js) v D h.length ∧ js.all notOld = true := by
  have ea := app_fresh (h := h) hl
  have hn := (hx.app [⟨.tip false, .ints .u8 []⟩]).new
  rcases hx.2 with ⟨rfl, rfl⟩ | ⟨b, o, c, st, l, mn, e, hs, hol, hdl, hk⟩
  · refine ⟨.nils, [], ?_, Or.inl ⟨rfl, rfl⟩, rfl⟩
    rw [List.append_nil]
    refine W_val (m := M55) (fun _ => rfl) rfl rfl rfl ?_ h
    simp (maxDischargeDepth := 9) -implicitDefEqProofs only [push_cast, simprocAttr, M55, nadd1, nadd2, nadd3, nadd4, nadd5, nadd6, nadd7, nadd8, nadd9, nadd10, nadd11, nadd12]
  · have hx0 : AV.lts 0 [x] = false := by
      rcases hk with ⟨rfl, _⟩ | rfl <;> simp [AV.lts, AV.lt]
    have hk : (x = .sl b o D.length c ∧ D.length ≤ c) ∨ x = .gsl b o D.length 1 false := by
      rcases hk with k | rfl
      · exact Or.inl k
      · cases mn with
        | false => exact Or.inr rfl
        | true => exact absurd rfl (hnm _ _ _ _)
    by_cases hD : D = []
    · rw [if_pos hD] at ea
      have key : xbody (W CP) M55 [x] h = some (.sl h.length 0 0 0, h ++ [⟨.tip false, .ints .u8 []⟩], []) := by
        rcases hk with ⟨rfl, _⟩ | rfl
        all_goals simp (maxDischargeDepth := 9) -implicitDefEqProofs only [push_cast, simprocAttr, M55, nadd1, nadd2, nadd3, nadd4, nadd5, nadd6, nadd7, nadd8, nadd9, nadd10, nadd11, nadd12, hn, ea]
      refine ⟨_, [⟨.tip false, .ints .u8 []⟩], ?_, Or.inr ⟨h.length, Nat.le_refl _, by simp [hD], Or.inl ⟨rfl, hD⟩⟩, rfl⟩
      rw [W_body (m := M55) rfl rfl hx0 key, show (M55).trim = true from rfl, if_pos rfl, trim_addr (by simp [AV.lt])]
    · rw [if_neg hD] at ea
      have key : xbody (W CP) M55 [x] h = some (.gsl (h.length + 1) 0 D.length 1 false, h ++ [⟨.tip false, .ints .u8 []⟩, ⟨.tip false, .ints .u8 D⟩], []) := by
        rcases hk with ⟨rfl, _⟩ | rfl
        all_goals simp (maxDischargeDepth := 9) -implicitDefEqProofs only [push_cast, simprocAttr, M55, nadd1, nadd2, nadd3, nadd4, nadd5, nadd6, nadd7, nadd8, nadd9, nadd10, nadd11, nadd12, hn, ea]
      refine ⟨_, [⟨.tip false, .ints .u8 []⟩, ⟨.tip false, .ints .u8 D⟩], ?_, Or.inr ⟨h.length + 1, by omega, ?_, Or.inr rfl⟩, rfl⟩
      · rw [W_body (m := M55) rfl rfl hx0 key, show (M55).trim = true from rfl, if_pos rfl, trim_addr (by simp [AV.lt])]
      · rw [List.getElem?_append_right (by omega)]; simp
theorem takeV_get : ∀ {Ls : List Nat} {D : List Int} {i s : Nat}, Ls[i]? = some s → (takeV Ls D)[i]? = some (be ((D.drop (Ls.take i).sum).take s))
  | [], D, i, s, h => by simp at h
  | a :: Ls, D, 0, s, h => by
    simp at h; subst h
    simp [takeV]
  | a :: Ls, D, i + 1, s, h => by
    have := takeV_get (Ls := Ls) (D := D.drop a) (i := i) (s := s) (by simpa using h)
    simp only [takeV, List.getElem?_cons_succ, this, List.take_succ_cons, List.sum_cons, List.drop_drop]
theorem ty_nm {g : AHeap} {l : List CK} {v : AV} (h : Ty g (.sl l) v) : NM v := by
  simp only [Ty] at h
  rcases h with rfl | ⟨b, n, c, es, rfl, _⟩ <;> (intro b o n e h; cases h)
set_option maxHeartbeats 64000000 in
theorem back_body {g : AHeap} (hg : Good g) {lv bv : AV} (hlv : Ty g (.sl [.i .u8, .i .u64]) lv) (hbv : Ty g (.sl [.i .u8]) bv) {q : Int} (q0 : 0 ≤ q) (q1 : q ≤ 255) :
    Wp (xbody (W CP) M14 [lv, bv, .int .u8 q] g) fun r => r.1 = .bool true := by
  obtain ⟨E0, uE, rE0, lE⟩ := arg_ce hlv
  obtain ⟨Df, bDf, _, lDf⟩ := arg_bv hbv
  have nmb := ty_nm hbv
  obtain ⟨N3, hN3⟩ : ∃ N, Df.length = N := ⟨_, rfl⟩
  have nE := na_slen uE.na
  have nDf := bDf.na
  have kDf := bDf.len
  rw [hN3] at kDf
  obtain ⟨Q, rfl⟩ : ∃ Q : Nat, q = (Q : Int) := ⟨q.toNat, by omega⟩
  have wQ : IntKind.i64.wrap (Q : Int) = (Q : Int) := wr_i64 _ (by omega) (by omega)
  -- behind
  obtain ⟨m1, a1, a2, e1⟩ := cut60 N3 Q
  have eb := fun h => slcV_hi (h := h) bDf (show m1 ≤ Df.length by omega)
  have bR := bDf.take (show m1 ≤ Df.length by omega)
  have hR : (Df.take m1).length = m1 := by rw [List.length_take]; omega
  obtain ⟨R, eR⟩ : ∃ L, Df.take m1 = L := ⟨_, rfl⟩
  rw [eR] at bR hR
  obtain ⟨bh, hbh⟩ : ∃ b, cutX bv m1 = b := ⟨_, rfl⟩
  rw [hbh] at eb bR
  clear hbh eR
  -- the bytes
  obtain ⟨m3, c1, c2, e3⟩ := cut60 N3 300
  have e3 : (if (300 : Int) < (N3 : Int) then (300 : Int) else (N3 : Int)) = (m3 : Int) := e3
  have ed := fun h => slcV_hi (h := h) bDf (show m3 ≤ Df.length by omega)
  have bD := bDf.take (show m3 ≤ Df.length by omega)
  have nmd := nmb.cut m3
  have hD : (Df.take m3).length = m3 := by rw [List.length_take]; omega
  obtain ⟨D, eD⟩ : ∃ L, Df.take m3 = L := ⟨_, rfl⟩
  rw [eD] at bD hD
  obtain ⟨b, hb⟩ : ∃ b, cutX bv m3 = b := ⟨_, rfl⟩
  rw [hb] at ed bD nmd
  clear hb eD
  -- cells
  obtain ⟨_, j1, eC, ⟨sv, nv, rfl, uS, uV⟩, hG1, _⟩ := cells_c hg uE rE0 lE
  have k01 : Keeps g (g ++ j1) none := keepsG hG1
  obtain ⟨H1, hH1⟩ : ∃ H, g ++ j1 = H := ⟨_, rfl⟩
  rw [hH1] at eC uS uV hG1 k01
  clear hH1
  have rE : ∀ p ∈ E0.take 30, 0 ≤ p.1 ∧ p.1 ≤ 255 ∧ 0 ≤ p.2 ∧ p.2 < 18446744073709551616 := fun p hp => rE0 p (List.mem_of_mem_take hp)
  have hok := ceS_ok (E := E0.take 30)
  have hll := ce_len (E0.take 30)
  have hfit := ce_fit rE
  have hrng := ce_rng rE
  have l30 : (ceS (E0.take 30)).length ≤ 30 := by simp [ceS]; omega
  obtain ⟨Ls, hLs⟩ : ∃ Ls, ceS (E0.take 30) = Ls := ⟨_, rfl⟩
  obtain ⟨V, hV⟩ : ∃ V, ceN (E0.take 30) = V := ⟨_, rfl⟩
  rw [hLs] at uS hok hll hfit l30
  rw [hV] at uV hll hfit hrng
  clear hLs hV rE rE0 uE
  have h8 := sum_le8 hok
  -- Lay
  have eL := layg_ok hG1 uS uV (by omega) hll hok hrng (fun i s v h1 h2 => (hfit i s v h1 h2).2)
  have hG2 : Good (H1 ++ [⟨.tip false, .vals [nv]⟩, ⟨.tip false, .ints .i64 [0]⟩, ⟨.tip false, .ints .u8 (layB Ls V)⟩]) := good_app hG1 rfl
  have k12 : Keeps H1 (H1 ++ [⟨.tip false, .vals [nv]⟩, ⟨.tip false, .ints .i64 [0]⟩, ⟨.tip false, .ints .u8 (layB Ls V)⟩]) none := keepsG hG2
  have hX : (H1 ++ [(⟨.tip false, .vals [nv]⟩ : ABlk), ⟨.tip false, .ints .i64 [0]⟩, ⟨.tip false, .ints .u8 (layB Ls V)⟩])[H1.length + 2]? = some ⟨.tip false, .ints .u8 (layB Ls V)⟩ := by rw [List.getElem?_append_right (by omega)]; simp
  have lX := layB_len Ls V hll
  have BX := layB_byt Ls V
  obtain ⟨X, hXX⟩ : ∃ X, layB Ls V = X := ⟨_, rfl⟩
  rw [hXX] at eL hG2 k12 hX lX BX
  obtain ⟨H2, hH2⟩ : ∃ H, H1 ++ [(⟨.tip false, .vals [nv]⟩ : ABlk), ⟨.tip false, .ints .i64 [0]⟩, ⟨.tip false, .ints .u8 X⟩] = H := ⟨_, rfl⟩
  rw [hH2] at eL hG2 k12 hX
  clear hH2
  obtain ⟨N, hN⟩ : ∃ N, Ls.sum = N := ⟨_, rfl⟩
  rw [hN] at eL lX h8
  have bX : BV H2 (.sl (H1.length + 2) 0 N N) X := ⟨BX, Or.inr ⟨H1.length + 2, 0, N, .tip false, X, false, hX, Or.inr ⟨_, rfl⟩, by omega, by rw [List.drop_zero, List.take_length], Or.inl ⟨by rw [lX], by omega⟩⟩⟩
  have nmX : NM (.sl (H1.length + 2) 0 N N) := fun b o n e h => by cases h
  obtain ⟨xv, hxv⟩ : ∃ x, AV.sl (H1.length + 2) 0 N N = x := ⟨_, rfl⟩
  rw [hxv] at eL bX nmX
  clear hxv
  have uS2 := uS.kept k12
  have uV2 := uV.kept k12
  have lSz : (szI Ls).length < 1000000 := by rw [len_szI]; omega
  have ew := width_g hG2 uS2 lSz
  rw [all_okS hok, if_pos rfl, sumS_szI, hN] at ew
  -- Clone
  obtain ⟨w, j3, eW, rW, nW⟩ := bclone_g hG2 bX nmX (by omega)
  obtain ⟨tW, mW⟩ := rW.t1
  have hG3 := good_app hG2 nW
  have k23 : Keeps H2 (H2 ++ j3) none := keepsG hG3
  obtain ⟨H3, hH3⟩ : ∃ H, H2 ++ j3 = H := ⟨_, rfl⟩
  rw [hH3] at eW tW hG3 k23
  clear hH3 rW
  have k13 := keepsT k12 k23
  have k03 := keepsT k01 k13
  have bR3 := bR.keep (keepsN k03)
  have nR3 := bR3.new
  have nR := bR.na
  have lR := bR.len
  rw [hR] at lR
  obtain ⟨av, H4, ws4, eA, tA, hw4, kA, _⟩ : ∃ v' H' ws, aappend H3 (.ints .u8 [0]) 1 w (.ints .u8 R) m1 = some (v', H', ws) ∧ T1 H' v' (X ++ R) H2.length ∧ (∀ b ∈ ws, H2.length ≤ b) ∧ Keeps H3 H' (blkU w) ∧ True := by
    obtain ⟨v', H', ws, q⟩ := app1 tW hR (by omega) k23.2.1
    exact ⟨v', H', ws, q.1, q.2.1, q.2.2.1, q.2.2.2, trivial⟩
  have mA := app_nm eA mW
  have k24 : Keeps H2 H4 none := keepsO hG2 k23 kA tW.blk
  have k14 := keepsT k12 k24
  have k04 := keepsT k01 k14
  have hG4 := k24.2.2 hG2
  have hgl : g.length ≤ H2.length := Nat.le_trans k01.2.1 k12.2.1
  have hwa4 : wadd g.length [] ws4 = [] := wadd_ge fun b hb => by have := hw4 b hb; omega
  have bA : BV H4 av (X ++ R) := T1_bv tA (BX.app bR.1)
  have nA := bA.na
  have nw := na_slen (T1_len tW)
  -- Take
  obtain ⟨lv4, rv4, j5, eT, uT, rT, hG5⟩ := take_good hG4 (uS2.kept k24) bA mA hok (by rw [List.length_append, lX, hN]; omega) (by rw [List.length_append]; omega) (by omega)
  rw [← hXX, takeV_layB hll hfit] at uT
  rw [hN, List.drop_left' lX] at rT
  have k45 : Keeps H4 (H4 ++ j5) none := keepsG hG5
  obtain ⟨H5, hH5⟩ : ∃ H, H4 ++ j5 = H := ⟨_, rfl⟩
  rw [hH5] at eT uT rT hG5 k45
  clear hH5
  have k25 := keepsT k24 k45
  have k15 := keepsT k12 k25
  have k05 := keepsT k01 k15
  have eS1 : W CP 42 [lv4, nv] H5 = some (.bool true, H5, []) := by
    have := sequal_c hG5 uT (uV.kept k15) (by omega) (by omega)
    rw [decide_eq_true rfl] at this; exact this
  have bRH := rT.bv bR.1
  have eE1 : W CP 41 [rv4, bh] H5 = some (.bool true, H5, []) := by
    have := equal_c hG5 bRH (bR.keep (keepsN k05))
    rw [decide_eq_true rfl] at this; exact this
  have nl4 := uT.na
  have nr4 := bRH.na
  have nS := uS.na
  have lS := uS.len
  rw [len_szI] at lS
  have nV := uV.na
  have nX := bX.na
  have lXl := bX.len
  rw [lX] at lXl
  obtain ⟨n, hn⟩ : ∃ n, Ls.length = n := ⟨_, rfl⟩
  rw [hn] at lS l30 h8
  have nD := bD.na
  have lD := bD.len
  rw [hD] at lD
  have aw := fun h => awake_c h
  have uS5 := uS.kept k15
  have uV5 := uV.kept k15
  have bX5 := bX.keep (keepsN k25)
  have bD5 := bD.keep (keepsN k05)
  have e1 : (if (Q : Int) < (N3 : Int) then (Q : Int) else (N3 : Int)) = (m1 : Int) := e1
  simp (maxDischargeDepth := 9) -implicitDefEqProofs only [push_cast, simprocAttr, M14, nadd1, nadd2, nadd3, nadd4, nadd5, nadd6, nadd7, nadd8, nadd9, nadd10, nadd11, nadd12, nE, nDf, kDf, wQ, e1, ↓slc_eqH, eb, nR, eC, nS, nV, eL, nX, lXl, ew, eW, nw, lR, nR3, eA, hwa4, nA, eT, nl4, nr4, eS1, eE1, lS]
  refine wp_kRes (wp_kSeq (wp_kBlock ?_))
  refine wp_loop (fun j a h' ws => ∃ i : Nat, j = n - i ∧ i ≤ n ∧ a = [(1, bv), (2, .int .u8 (Q : Int)), (8, sv), (9, nv), (10, xv), (12, .int .i64 (N : Int)), (17, .int .i64 ((Ls.take i).sum : Int)), (89, sv), (90, .int .i64 (n : Int)), (91, .int .i64 (i : Int))] ∧ h' = H5 ∧ ws = []) n ?_ ?_
  · refine ⟨0, by omega, by omega, ?_, rfl, rfl⟩
    simp (maxDischargeDepth := 9) -implicitDefEqProofs only [push_cast, simprocAttr, nDf, nS, nV, nX, List.take_zero, List.sum_nil]; try rfl
  · rintro j aa h' ws ⟨i, rfl, hi, rfl, hh, rfl⟩
    obtain rfl : H5 = h' := hh.symm
    have v2 : IntKind.i64.wrap ((i : Int) + 1) = (i : Int) + 1 := wr_i64 _ (by omega) (by omega)
    by_cases hlt : i < n
    · have hlt' : (i : Int) < (n : Int) := by omega
      obtain ⟨s, hs⟩ : ∃ s, Ls[i]? = some s := ⟨_, List.getElem?_eq_getElem (by omega)⟩
      obtain ⟨v, hv⟩ : ∃ v, V[i]? = some v := ⟨_, List.getElem?_eq_getElem (by omega)⟩
      have hsI : (szI Ls)[i]? = some (s : Int) := by simp [hs]
      obtain ⟨p, ea1, ea2, _⟩ := uS5.at hsI
      obtain ⟨p', eb1, eb2, _⟩ := uV5.at hv
      obtain ⟨s1, s8⟩ := hok s (List.mem_of_getElem? hs)
      have t1 := sum_take_succ hs
      have t2 := sum_take_le Ls (i + 1)
      rw [hN] at t2
      have tg : (takeV Ls (X ++ []))[i]? = some (be (((X ++ []).drop (Ls.take i).sum).take s)) := takeV_get hs
      rw [← hXX, takeV_layB hll hfit, hXX, List.append_nil, hv] at tg
      obtain ⟨o, ho⟩ : ∃ o, (Ls.take i).sum = o := ⟨_, rfl⟩
      rw [ho] at t1 tg ⊢
      have eAt := at_c (p := (o : Int)) (k := (s : Int)) hG5 bX5 (by omega) (by omega) (by omega)
      have hB : atB X (o : Int) (s : Int) = true := by
        unfold atB okS
        rw [decide_eq_true (by omega), decide_eq_true (by omega)]; rfl
      have hVv : atV X (o : Int) (s : Int) = v := by
        unfold atV
        rw [if_pos hB, Int.toNat_natCast, Int.toNat_natCast]
        exact (Option.some.inj tg).symm
      rw [hB, hVv] at eAt
      have w2 : IntKind.i64.wrap ((o : Int) + (s : Int)) = (o : Int) + (s : Int) := wr_i64 _ (by omega) (by omega)
      simp (maxDischargeDepth := 9) -implicitDefEqProofs only [push_cast, simprocAttr, nadd1, nadd2, nadd3, nadd4, nadd5, nadd6, nadd7, nadd8, nadd9, nadd10, nadd11, nadd12, hlt, hlt', v2, nDf, nS, nV, nX, ↓uia_eq, ea1, ↓uld_eq 94, ea2, eAt, eb1, ↓uld_eq 109, eb2, w2]
      refine loop_next (n - (i + 1)) (by omega) ⟨i + 1, rfl, by omega, ?_, rfl, rfl⟩
      rw [t1]
      simp (maxDischargeDepth := 9) -implicitDefEqProofs only [push_cast, simprocAttr, nDf, nS, nV, nX]; try simp
    · have hnl : ¬ (i : Int) < (n : Int) := by omega
      -- fewer bytes
      have few : 0 < N → ∃ r : Nat, r < N ∧ (Q : Int).tmod (N : Int) = (r : Int) ∧ W CP 37 [sv, cutX xv r] H5 = some (.tup [.nils, .nils, .int .i64 4], H5, []) ∧ (∀ h, slcV h none (some r) (some xv) = some (cutX xv r, h, [])) ∧ noAny (some (cutX xv r)) = some (cutX xv r) := fun hp => by
        have hr : (Q : Int).tmod (N : Int) = ((Q % N : Nat) : Int) := by rw [Int.tmod_eq_emod_of_nonneg (by omega)]; rfl
        have hrl : Q % N < N := Nat.mod_lt _ hp
        refine ⟨Q % N, hrl, hr, ?_, fun h => slcV_hi bX5 (by omega), (bX5.take (by omega)).na⟩
        have hE : takeE (szI Ls) (X.take (Q % N)) = 4 := by
          unfold takeE
          rw [if_pos (all_okS hok), sumS_szI, hN, if_neg (by rw [List.length_take]; omega)]
        have := take_bad hG5 uS5 (bX5.take (k := Q % N) (by omega)) lSz (by rw [hE]; decide)
        rw [hE] at this
        exact this
      by_cases hc : N ≤ m3
      · obtain ⟨lo, ro, j6, eO, uO, rO, hG6⟩ := take_good hG5 uS5 bD5 nmd hok (by omega) (by omega) (by omega)
        have fo := takeV_fits (Ls := Ls) (D := D) bD.1 (by omega)
        have ro' : ∀ v ∈ takeV Ls D, 0 ≤ v ∧ v < 18446744073709551616 := fun v hv => by
          obtain ⟨i, hi⟩ := List.mem_iff_getElem?.1 hv
          have hi2 := (List.getElem?_eq_some_iff.1 hi).1
          rw [takeV_len] at hi2
          obtain ⟨s, hs⟩ : ∃ s, Ls[i]? = some s := ⟨_, List.getElem?_eq_getElem (by omega)⟩
          obtain ⟨h1, h2⟩ := fo i s v hs hi
          have : (256 : Int) ^ s ≤ 256 ^ 8 := pow256_le' (hok s (List.mem_of_getElem? hs)).2
          have e8 : (256 : Int) ^ 8 = 18446744073709551616 := by decide
          omega
        have k56 : Keeps H5 (H5 ++ j6) none := keepsG hG6
        obtain ⟨H6, hH6⟩ : ∃ H, H5 ++ j6 = H := ⟨_, rfl⟩
        rw [hH6] at eO uO rO hG6 k56
        clear hH6
        have hlV : Ls.length = (takeV Ls D).length := (takeV_len _ _).symm
        have eY := layg_ok hG6 (uS5.kept k56) uO (by omega) hlV hok ro' (fun i s v h1 h2 => (fo i s v h1 h2).2)
        rw [layB_takeV bD.1 (by omega), hN] at eY
        have hG7 : Good (H6 ++ [⟨.tip false, .vals [lo]⟩, ⟨.tip false, .ints .i64 [0]⟩, ⟨.tip false, .ints .u8 (D.take N)⟩]) := good_app hG6 rfl
        have k67 : Keeps H6 (H6 ++ [⟨.tip false, .vals [lo]⟩, ⟨.tip false, .ints .i64 [0]⟩, ⟨.tip false, .ints .u8 (D.take N)⟩]) none := keepsG hG7
        have hYb : (H6 ++ [(⟨.tip false, .vals [lo]⟩ : ABlk), ⟨.tip false, .ints .i64 [0]⟩, ⟨.tip false, .ints .u8 (D.take N)⟩])[H6.length + 2]? = some ⟨.tip false, .ints .u8 (D.take N)⟩ := by rw [List.getElem?_append_right (by omega)]; simp
        have lT : (D.take N).length = N := by rw [List.length_take]; omega
        have tY : T1 (H6 ++ [⟨.tip false, .vals [lo]⟩, ⟨.tip false, .ints .i64 [0]⟩, ⟨.tip false, .ints .u8 (D.take N)⟩]) (.sl (H6.length + 2) 0 N N) (D.take N) H6.length := Or.inr ⟨H6.length + 2, by omega, Or.inl ⟨by rw [lT], hYb⟩⟩
        have rO7 := rO.keep (keepsN k67)
        obtain ⟨H7, hH7⟩ : ∃ H, H6 ++ [(⟨.tip false, .vals [lo]⟩ : ABlk), ⟨.tip false, .ints .i64 [0]⟩, ⟨.tip false, .ints .u8 (D.take N)⟩] = H := ⟨_, rfl⟩
        rw [hH7] at eY k67 tY rO7
        clear hH7
        rw [hN] at rO rO7
        have bO7 := rO7.bv (fun z hz => bD.1 z (List.mem_of_mem_drop hz))
        have nO7 := bO7.new
        have nO := bO7.na
        have lO := bO7.len
        obtain ⟨d, hd⟩ : ∃ d, (D.drop N).length = d := ⟨_, rfl⟩
        rw [hd] at lO
        obtain ⟨zv, H8, ws8, eZ, tZ, hw8, kZ⟩ := app1 tY hd (by rw [lT, ← hd, List.length_drop]; omega) k67.2.1
        have k68 : Keeps H6 H8 none := keepsO hG6 k67 kZ tY.blk
        have hG8 := k68.2.2 hG6
        have hgl6 : g.length ≤ H6.length := Nat.le_trans k05.2.1 k56.2.1
        have hwa8 : wadd g.length [] ws8 = [] := wadd_ge fun b hb => by have := hw8 b hb; omega
        rw [List.take_append_drop] at tZ
        have bZ : BV H8 zv D := T1_bv tZ bD.1
        have nZ := bZ.na
        have eF : W CP 41 [zv, b] H8 = some (.bool true, H8, []) := by
          have := equal_c hG8 bZ (bD5.keep (keepsN (keepsT k56 k68)))
          rw [decide_eq_true rfl] at this; exact this
        have nlo := uO.na
        by_cases hp : 0 < N
        · obtain ⟨r, hrl, er, eB, es, nc⟩ := few hp
          have hp' : (0 : Int) < (N : Int) := by omega
          have hnz : ¬ (N : Int) = 0 := by omega
          have hrr : ¬ (r : Int) < 0 := by omega
          simp (maxDischargeDepth := 9) -implicitDefEqProofs only [push_cast, simprocAttr, nadd1, nadd2, nadd3, nadd4, nadd5, nadd6, nadd7, nadd8, nadd9, nadd10, nadd11, nadd12, hnl, nDf, nS, nV, nX, hp', wQ, er, hnz, ↓slc_eqH, es, nc, eB, kDf, e3, ed, nD, lD, eO, nlo, nO, eY, aw, lO, nO7, eZ, hwa8, nZ, eF, Int.toNat_natCast]
        · have hp' : ¬ (0 : Int) < (N : Int) := by omega
          simp (maxDischargeDepth := 9) -implicitDefEqProofs only [push_cast, simprocAttr, nadd1, nadd2, nadd3, nadd4, nadd5, nadd6, nadd7, nadd8, nadd9, nadd10, nadd11, nadd12, hnl, nDf, nS, nV, nX, hp', wQ, ↓slc_eqH, kDf, e3, ed, nD, lD, eO, nlo, nO, eY, aw, lO, nO7, eZ, hwa8, nZ, eF]
      · have hE : takeE (szI Ls) D = 4 := by
          unfold takeE
          rw [if_pos (all_okS hok), sumS_szI, hN, if_neg (by omega)]
        have eO := take_bad hG5 uS5 bD5 lSz (by rw [hE]; decide)
        rw [hE] at eO
        have hlt3 : (m3 : Int) < (N : Int) := by omega
        obtain ⟨r, hrl, er, eB, es, nc⟩ := few (by omega)
        have hp' : (0 : Int) < (N : Int) := by omega
        have hnz : ¬ (N : Int) = 0 := by omega
        simp (maxDischargeDepth := 9) -implicitDefEqProofs only [push_cast, simprocAttr, nadd1, nadd2, nadd3, nadd4, nadd5, nadd6, nadd7, nadd8, nadd9, nadd10, nadd11, nadd12, hnl, nDf, nS, nV, nX, hp', wQ, er, hnz, ↓slc_eqH, es, nc, eB, kDf, e3, ed, nD, lD, eO, aw, hlt3, Int.toNat_natCast]
theorem back_law (js : AHeap) (avs : List AV) (hx : Ext js) (ht : TyA (CP.gl ++ js) [.one (.sl [.i .u8, .i .u64]), .one (.sl [.i .u8]), .one (.i .u8)] avs) : ∃ h' ws, W CP 14 avs (CP.gl ++ js) = some (.bool true, h', ws) := by
  simp only [TyA] at ht
  obtain ⟨v, _, rfl, hv, u, _, rfl, hu, w, _, rfl, hw, rfl⟩ := ht
  have hw' := hw
  simp only [Ty] at hw'
  obtain ⟨q, rfl, q0, q1⟩ := hw'
  have e1 : IntKind.u8.min = 0 := rfl
  have e2 : IntKind.u8.max = 255 := rfl
  refine W_law (m := M14) (fun _ => rfl) rfl (back_body (good_ext hx) hv hu (by omega) (by omega)) fun h0 => ?_
  simp only [AV.lts, Bool.and_eq_true] at h0
  exact back_body good_gl (ty_nil hv h0.1) (ty_nil hu h0.2.1) (by omega) (by omega)
theorem back_kinds : aksOf X.P 20 [95, 59, 5] = some [.one (.sl [.i .u8, .i .u64]), .one (.sl [.i .u8]), .one (.i .u8)] := by kernel_rfl
end Go.Proofs.YtimlhgpjmjmjhaaW.AI.B
