import Derived.Test.YtpmibaeajmfdpaaAIAextD
namespace Go.Proofs.YtpmibaeajmfdpaaW.AI.A
open Go Go.Proofs.YtpmibaeajmfdpaaW.AI Go.Proofs.YtpmibaeajmfdpaaW.AI.Oct Go.RowKit
set_option maxRecDepth 100000
set_option linter.unusedSimpArgs false
set_option linter.unusedVariables false
set_option linter.unusedSectionVars false
theorem good_gl : Good CP.gl := rfl
theorem good_ext {js : AHeap} (h : Ext js) : Good (CP.gl ++ js) := good_app good_gl (List.all_eq_true.2 fun x hx => by unfold notOld; rcases h x hx with e | e <;> rw [e])
theorem awake_c (h : AHeap) : W CP 11 [] h = some (.bool true, h, []) := W_known (n := 200) (fun _ => rfl) (by kernel_rfl) h
theorem ty_nil {g g' : AHeap} {l : List CK} {y : AV} (h : Ty g (.sl l) y) (h0 : y.lt 0 = true) : Ty g' (.sl l) y := by
  simp only [Ty] at h ⊢
  rcases h with rfl | ⟨b, n, c, es, rfl, _⟩
  · exact Or.inl rfl
  · simp [AV.lt] at h0
theorem gx_ext {h : AHeap} {v : AV} {F : List (Int × List Int)} {l : List AV} (g : GxAt h v F.length l) (e : Ents h v l F) : ExtAt h v F := g.ext e
theorem properX_len (F : List (Int × List Int)) : (properX F).length ≤ 8 := by simp [properX]; omega
theorem properX_lens (F : List (Int × List Int)) : ∀ z ∈ properX F, z.2.length < 1000000000 := fun z hz => by
  have := (mayX_all (properX_may F)).2 z hz
  omega
set_option maxHeartbeats 8000000 in
theorem finds_body {g : AHeap} (hg : Good g) {x : AV} (hx : Ty g (.sl [.i .u16, .sl [.i .u8]]) x) {u : Int} : Wp (xbody (W CP) M3 [x, .int .u16 u] g) fun r => r.1 = .bool true := by
  obtain ⟨F, A, ax⟩ := arg_ext hx
  have hnx := na_slen ax.xr.len
  obtain ⟨v, l, js, eP, gx, en, hG1, gp⟩ := proper_c hg ax.xr (fun z hz => by
    obtain ⟨i, hi⟩ := List.getElem?_of_mem hz
    obtain ⟨_, _, _, _, _, _, h⟩ := ax.el i z.1 z.2 hi
    exact h) ax.fl
  obtain ⟨P, hP⟩ : ∃ P, properX F = P := ⟨_, rfl⟩
  have hP8 := properX_len F
  have hPl := properX_lens F
  rw [hP] at gx en hP8 hPl
  have ex := gx.ext en
  obtain ⟨H1, hH1⟩ : ∃ H1, g ++ js = H1 := ⟨_, rfl⟩
  rw [hH1] at eP hG1 ex
  obtain ⟨v2, js2, eF, bF, nF, _⟩ := find_c (u := u) hG1 ex (by omega) hPl
  have ex2 := ex.app js2
  have hG2 := good_app hG1 nF
  obtain ⟨H2, hH2⟩ : ∃ H2, H1 ++ js2 = H2 := ⟨_, rfl⟩
  have hgl : g.length ≤ H2.length := by rw [← hH2, ← hH1]; simp
  rw [hH2] at eF bF ex2 hG2
  obtain ⟨b, o, L, r⟩ := ex2
  have h1 := r.len
  have h2 := na_slen r.len
  have hia := r.ia
  have hn2 := bF.na
  have aw := fun h => awake_c h
  simp (maxDischargeDepth := 9) -implicitDefEqProofs only [push_cast, reduceIte, Nat.reduceEqDiff, Nat.reduceAdd, Nat.reduceSub, Nat.reduceMul, Nat.reduceDiv, Nat.reduceMod, Nat.reduceLT, Nat.reduceLeDiff, Nat.reduceBEq, Nat.reduceBNe, reduceCtorEq, Int.reduceEq, Int.reduceNe, Int.reduceLT, Int.reduceLE, Int.reduceToNat, Int.reduceNeg, Int.reduceAdd, Int.reduceSub, Int.reduceMul, Int.reducePow, Nat.reducePow, Int.reduceBEq, M3, nadd1, nadd2, nadd3, nadd4, nadd5, nadd6, nadd7, nadd8, nadd9, nadd10, nadd11, nadd12, hnx, eP, eF, h1, h2, hn2]
  refine wp_kRes (wp_kSeq (wp_kBlock ?_))
  refine wp_loop (fun k a h' ws => ∃ i : Nat, k = P.length - i ∧ i ≤ P.length ∧ a = [(1, .int .u16 u), (5, v2), (6, .bool (findX P u).isSome), (17, v), (18, .int .i64 (P.length : Int)), (19, .int .i64 (i : Int))] ∧ (∀ (j : Nat) (z : Int × List Int), j < i → P[j]? = some z → z.1 ≠ u) ∧ (∃ ks : AHeap, h' = H2 ++ ks ∧ ks.all notOld = true) ∧ ws = []) P.length ?_ ?_
  · refine ⟨0, by omega, by omega, ?_, by omega, ⟨[], by simp, rfl⟩, rfl⟩
    simp (maxDischargeDepth := 9) -implicitDefEqProofs only [push_cast, reduceIte, Nat.reduceEqDiff, Nat.reduceAdd, Nat.reduceSub, Nat.reduceMul, Nat.reduceDiv, Nat.reduceMod, Nat.reduceLT, Nat.reduceLeDiff, Nat.reduceBEq, Nat.reduceBNe, reduceCtorEq, Int.reduceEq, Int.reduceNe, Int.reduceLT, Int.reduceLE, Int.reduceToNat, Int.reduceNeg, Int.reduceAdd, Int.reduceSub, Int.reduceMul, Int.reducePow, Nat.reducePow, Int.reduceBEq, h2, hn2]
  · rintro k aa h' ws ⟨i, rfl, hi, rfl, hno, ⟨ks, rfl, hks⟩, rfl⟩
    have v1 : IntKind.i64.wrap ((i : Int) + 1) = (i : Int) + 1 := wr_i64 _ (by omega) (by omega)
    have hG3 : Good (H2 ++ ks) := good_app hG2 hks
    have r3 := r.app ks
    have bF3 := bF.app ks
    obtain ⟨H3, hH3⟩ : ∃ H3, H2 ++ ks = H3 := ⟨_, rfl⟩
    have hl3 : H2.length ≤ H3.length := by rw [← hH3]; simp
    have hnl : ¬ H3.length < g.length := by omega
    rw [hH3] at hG3 r3 bF3 ⊢
    by_cases hlt : i < P.length
    · have hlt' : (i : Int) < (P.length : Int) := by omega
      obtain ⟨⟨t, D⟩, hz⟩ : ∃ z, P[i]? = some z := ⟨_, List.getElem?_eq_getElem hlt⟩
      obtain ⟨ht, l1, d, l2, hd, hnn⟩ := r3.elt i t D hz
      obtain ⟨q1, q2, q3⟩ := r3.ldA hlt l1 l2
      have hdc := hd.cell
      have hdn := hd.na
      by_cases htu : t = u
      · have hf := findX_first (u := u) hz htu fun k y hk hy => hno k y hk hy
        rw [hf] at bF3 ⊢
        simp only [Option.getD_some] at bF3
        have eE := equal_c (h := H3 ++ [⟨.tip false, .vals [.int .u16 t, d]⟩]) (good_app hG3 rfl) (bF3.app _) (hd.app _)
        simp only [decide_true] at eE
        simp (maxDischargeDepth := 9) -implicitDefEqProofs only [push_cast, reduceIte, Nat.reduceEqDiff, Nat.reduceAdd, Nat.reduceSub, Nat.reduceMul, Nat.reduceDiv, Nat.reduceMod, Nat.reduceLT, Nat.reduceLeDiff, Nat.reduceBEq, Nat.reduceBNe, reduceCtorEq, Int.reduceEq, Int.reduceNe, Int.reduceLT, Int.reduceLE, Int.reduceToNat, Int.reduceNeg, Int.reduceAdd, Int.reduceSub, Int.reduceMul, Int.reducePow, Nat.reducePow, Int.reduceBEq, nadd1, nadd2, nadd3, nadd4, nadd5, nadd6, nadd7, nadd8, nadd9, nadd10, nadd11, nadd12, hlt', ↓ia_eq, hia, hlt, ↓ldv_eq 21, q1, hdc, hdn, hnl, htu, aw, hn2, Option.isSome_some]
        subst htu
        simp (maxDischargeDepth := 9) -implicitDefEqProofs only [push_cast, reduceIte, Nat.reduceEqDiff, Nat.reduceAdd, Nat.reduceSub, Nat.reduceMul, Nat.reduceDiv, Nat.reduceMod, Nat.reduceLT, Nat.reduceLeDiff, Nat.reduceBEq, Nat.reduceBNe, reduceCtorEq, Int.reduceEq, Int.reduceNe, Int.reduceLT, Int.reduceLE, Int.reduceToNat, Int.reduceNeg, Int.reduceAdd, Int.reduceSub, Int.reduceMul, Int.reducePow, Nat.reducePow, Int.reduceBEq, nadd1, nadd2, nadd3, nadd4, nadd5, nadd6, nadd7, nadd8, nadd9, nadd10, nadd11, nadd12, eE]
      · simp (maxDischargeDepth := 9) -implicitDefEqProofs only [push_cast, reduceIte, Nat.reduceEqDiff, Nat.reduceAdd, Nat.reduceSub, Nat.reduceMul, Nat.reduceDiv, Nat.reduceMod, Nat.reduceLT, Nat.reduceLeDiff, Nat.reduceBEq, Nat.reduceBNe, reduceCtorEq, Int.reduceEq, Int.reduceNe, Int.reduceLT, Int.reduceLE, Int.reduceToNat, Int.reduceNeg, Int.reduceAdd, Int.reduceSub, Int.reduceMul, Int.reducePow, Nat.reducePow, Int.reduceBEq, nadd1, nadd2, nadd3, nadd4, nadd5, nadd6, nadd7, nadd8, nadd9, nadd10, nadd11, nadd12, hlt', v1, ↓ia_eq, hia, hlt, ↓ldv_eq 21, q1, hdc, hdn, hnl, htu]
        refine loop_next (P.length - (i + 1)) (by omega) ⟨i + 1, rfl, by omega, ?_, fun j z hj hz' => ?_, ⟨ks ++ [⟨.tip false, .vals [.int .u16 t, d]⟩], by rw [← hH3, List.append_assoc], by rw [List.all_append, hks]; rfl⟩, rfl⟩
        · simp (maxDischargeDepth := 9) -implicitDefEqProofs only [push_cast, reduceIte, Nat.reduceEqDiff, Nat.reduceAdd, Nat.reduceSub, Nat.reduceMul, Nat.reduceDiv, Nat.reduceMod, Nat.reduceLT, Nat.reduceLeDiff, Nat.reduceBEq, Nat.reduceBNe, reduceCtorEq, Int.reduceEq, Int.reduceNe, Int.reduceLT, Int.reduceLE, Int.reduceToNat, Int.reduceNeg, Int.reduceAdd, Int.reduceSub, Int.reduceMul, Int.reducePow, Nat.reducePow, Int.reduceBEq, h2, hn2]; try simp
        · by_cases hji : j < i
          · exact hno j z hji hz'
          · obtain rfl : j = i := by omega
            rw [hz] at hz'; cases hz'; exact htu
    · have hi2 : i = P.length := by omega
      have hnl2 : ¬ (i : Int) < (P.length : Int) := by omega
      have hf := findX_none (F := P) (u := u) fun k y hy => hno k y (by have := (List.getElem?_eq_some_iff.1 hy).1; omega) hy
      rw [hf] at bF3 ⊢
      have hl2 := bF3.len
      simp only [Option.getD_none, List.length_nil] at hl2
      simp (maxDischargeDepth := 9) -implicitDefEqProofs only [push_cast, reduceIte, Nat.reduceEqDiff, Nat.reduceAdd, Nat.reduceSub, Nat.reduceMul, Nat.reduceDiv, Nat.reduceMod, Nat.reduceLT, Nat.reduceLeDiff, Nat.reduceBEq, Nat.reduceBNe, reduceCtorEq, Int.reduceEq, Int.reduceNe, Int.reduceLT, Int.reduceLE, Int.reduceToNat, Int.reduceNeg, Int.reduceAdd, Int.reduceSub, Int.reduceMul, Int.reducePow, Nat.reducePow, Int.reduceBEq, hnl2, aw, hn2, hl2, Option.isSome_none]
theorem finds_law (js : AHeap) (avs : List AV) (hx : Ext js) (ht : TyA (CP.gl ++ js) [.one (.sl [.i .u16, .sl [.i .u8]]), .one (.i .u16)] avs) : ∃ h' ws, W CP 3 avs (CP.gl ++ js) = some (.bool true, h', ws) := by
  simp only [TyA] at ht
  obtain ⟨v, _, rfl, hv, _, _, rfl, hu, rfl⟩ := ht
  simp only [Ty] at hu
  obtain ⟨u, rfl, u0, u1⟩ := hu
  refine W_law (m := M3) (fun _ => rfl) rfl (finds_body (good_ext hx) hv) fun h0 => finds_body good_gl (ty_nil hv ?_)
  simp only [AV.lts, Bool.and_eq_true] at h0
  exact h0.1
theorem finds_kinds : aksOf X.P 20 [22, 23] = some [.one (.sl [.i .u16, .sl [.i .u8]]), .one (.i .u16)] := by kernel_rfl
end Go.Proofs.YtpmibaeajmfdpaaW.AI.A
