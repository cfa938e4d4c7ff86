import Derived.Test.YtpmibaeajmfdpaaAIAextl3
namespace Go.Proofs.YtpmibaeajmfdpaaW.AI.A
open Go Go.Proofs.YtpmibaeajmfdpaaW.AI Go.Proofs.YtpmibaeajmfdpaaW.AI.Oct Go.RowKit
set_option maxRecDepth 100000
set_option linter.unusedSimpArgs false
set_option linter.unusedVariables false
set_option linter.unusedSectionVars false
def parses2 : MCode := .seq (.seq (.reg [⟨some 46, .mv (.t 4), none⟩,
  ⟨some 47, .len none (.t 46), none⟩,
  ⟨some 48, .mv (.c (.int .i64 0)), none⟩])
 (.block 0 [0, 3, 6, 9, 10]
 (.loop [0, 3, 6, 9, 10, 46, 47, 48]
 (.seq (.reg [⟨some 49, .bin .lss [] (.t 48) (.t 47), none⟩])
 (.seq (.cond (.t 49)
 (.skip)
 (.exit 0))
 (.seq (.block 1 [0, 3, 6, 9, 10, 46, 47, 48]
 (.seq (.reg [⟨some 50, .ia none 2 (.t 46) (.t 48), none⟩,
  ⟨some 51, .ld (some 2) (.t 50), none⟩,
  ⟨some 12, .al (.vals [(.int .u16 0), .nils]), none⟩,
  ⟨none, .st 2 (.t 12) (.t 51), none⟩])
 (.seq (.reg [⟨some 52, .fa 1 (.t 12), none⟩,
  ⟨some 53, .ld none (.t 52), none⟩,
  ⟨some 54, .len none (.t 53), none⟩,
  ⟨some 55, .mv (.c (.int .i64 0)), none⟩])
 (.block 2 [0, 3, 6, 9, 10, 46, 47, 48]
 (.loop [0, 3, 6, 9, 10, 12, 46, 47, 48, 54, 55]
 (.seq (.reg [⟨some 56, .bin .lss [] (.t 55) (.t 54), none⟩])
 (.seq (.cond (.t 56)
 (.skip)
 (.exit 2))
 (.seq (.block 3 [0, 3, 6, 9, 10, 12, 46, 47, 48, 54, 55]
 (.seq (.reg [⟨some 57, .mv (.t 55), none⟩,
  ⟨some 13, .mv (.t 57), none⟩])
 (.reg [⟨some 58, .fa 1 (.t 12), none⟩,
  ⟨some 59, .ld none (.t 58), none⟩,
  ⟨some 60, .mv (.t 13), none⟩,
  ⟨some 61, .ia none 1 (.t 59) (.t 60), none⟩,
  ⟨some 62, .ld none (.t 61), none⟩,
  ⟨some 63, .bin .xor [] (.t 62) (.c (.int .u8 255)), none⟩,
  ⟨some 64, .ia none 1 (.t 59) (.t 60), none⟩,
  ⟨none, .st 1 (.t 64) (.t 63), none⟩])))
 (.reg [⟨some 65, .bin .add [] (.t 55) (.c (.int .i64 1)), none⟩,
  ⟨some 55, .mv (.t 65), none⟩])))))))))
 (.reg [⟨some 66, .bin .add [] (.t 48) (.c (.int .i64 1)), none⟩,
  ⟨some 48, .mv (.t 66), none⟩])))))))
 (.seq (.reg [⟨some 67, .call 11 [], none⟩,
  ⟨some 68, .mv (.t 67), none⟩,
  ⟨some 69, .mv (.t 10), some (68, true)⟩,
  ⟨some 70, .pick (.t 68) (.t 69) (.c (.bool false)), none⟩,
  ⟨some 71, .mv (.t 70), none⟩,
  ⟨some 72, .mv (.t 6), some (71, true)⟩,
  ⟨some 73, .mv (.t 9), some (71, true)⟩,
  ⟨some 74, .bin .eql [] (.t 72) (.t 73), some (71, true)⟩,
  ⟨some 75, .pick (.t 71) (.t 74) (.c (.bool false)), none⟩,
  ⟨some 76, .mv (.t 75), none⟩,
  ⟨some 77, .mv (.t 3), some (76, true)⟩,
  ⟨some 78, .mv (.t 0), some (76, true)⟩,
  ⟨some 79, .call 12 [(.t 77), (.t 78)], some (76, true)⟩,
  ⟨some 80, .pick (.t 76) (.t 79) (.c (.bool false)), none⟩,
  ⟨some 2, .mv (.t 80), none⟩])
 (.ret))
theorem parses_parts : M4 = ⟨.seq (.reg [⟨some 2, .mv (.c (.bool false)), none⟩])
 (.seq (.reg [⟨some 14, .mv (.t 0), none⟩,
  ⟨some 15, .mv (.t 0), none⟩,
  ⟨some 16, .len none (.t 15), none⟩,
  ⟨some 17, .mnx false [(.t 16), (.c (.int .i64 2000))], none⟩,
  ⟨some 18, .slc none 1 (.t 14) none (some (.t 17)) none, none⟩,
  ⟨some 0, .mv (.t 18), none⟩])
 (.seq (.reg [⟨some 19, .mv (.t 0), none⟩,
  ⟨some 20, .call 13 [(.t 19)], none⟩,
  ⟨some 3, .mv (.t 20), none⟩])
 (.seq (.reg [⟨some 22, .mv (.t 3), none⟩,
  ⟨some 23, .call 14 [(.t 22)], none⟩,
  ⟨some 21, .mv (.t 23), none⟩,
  ⟨some 24, .ex 0 (.t 21), none⟩,
  ⟨some 25, .ex 1 (.t 21), none⟩,
  ⟨some 26, .ex 2 (.t 21), none⟩,
  ⟨some 4, .mv (.t 24), none⟩,
  ⟨some 5, .mv (.t 25), none⟩,
  ⟨some 6, .mv (.t 26), none⟩])
 (.seq (.reg [⟨some 28, .mv (.t 0), none⟩,
  ⟨some 29, .call 15 [(.t 28)], none⟩,
  ⟨some 27, .mv (.t 29), none⟩,
  ⟨some 30, .ex 0 (.t 27), none⟩,
  ⟨some 31, .ex 1 (.t 27), none⟩,
  ⟨some 32, .ex 2 (.t 27), none⟩,
  ⟨some 7, .mv (.t 30), none⟩,
  ⟨some 8, .mv (.t 31), none⟩,
  ⟨some 9, .mv (.t 32), none⟩])
 (.seq (.reg [⟨some 33, .mv (.t 4), none⟩,
  ⟨some 34, .mv (.t 7), none⟩,
  ⟨some 35, .call 16 [(.t 33), (.t 34)], none⟩,
  ⟨some 36, .mv (.t 35), none⟩,
  ⟨some 37, .mv (.t 4), some (36, true)⟩,
  ⟨some 38, .mv (.t 7), some (36, true)⟩,
  ⟨some 39, .call 17 [(.t 37), (.t 38)], some (36, true)⟩,
  ⟨some 40, .pick (.t 36) (.t 39) (.c (.bool false)), none⟩,
  ⟨some 41, .mv (.t 40), none⟩,
  ⟨some 42, .mv (.t 5), some (41, true)⟩,
  ⟨some 43, .mv (.t 8), some (41, true)⟩,
  ⟨some 44, .call 12 [(.t 42), (.t 43)], some (41, true)⟩,
  ⟨some 45, .pick (.t 41) (.t 44) (.c (.bool false)), none⟩,
  ⟨some 10, .mv (.t 45), none⟩])
 parses2))))),
 [.tmp 2], true⟩ := rfl
theorem mayN_le {n : Nat} (h : mayN n = true) : n ≤ 464 := by
  simp only [mayN, Bool.and_eq_true, decide_eq_true_eq] at h
  omega
def EndsC (o : AOut) : Prop := ∃ a h ws, o = (.ret, a, h, ws) ∧ look a 2 = some (.bool true)
theorem wp_endsC {x : Option AOut} (h : Wp x EndsC) : Wp (kRes [.tmp 2] x) fun r => r.1 = .bool true := by
  obtain ⟨o, rfl, a, h, ws, rfl, e⟩ := h
  refine ⟨(.bool true, h, ws), ?_, rfl⟩
  simp only [kRes, ares, aresL, ares1, aeval, e, Option.bind_some, Option.map_some]
/-- What the rounds leave as it is: what lay there before; the row of fields; where their bytes lie. -/
structure BI (H0 h : AHeap) (v : AV) (F : List (Int × List Int)) (l : List AV) : Prop where
  g : Good h
  low : ∀ (q : Nat) (z : ABlk), H0[q]? = some z → h[q]? = some z
  bl : H0.length ≤ h.length
  row : GxAt h v F.length l
  el : ∀ (i : Nat) (t : Int) (D : List Int), F[i]? = some (t, D) → l[i * 2]? = some (.int .u16 t) ∧ ∃ p l', l[i * 2 + 1]? = some (.gsl p 0 D.length 1 false) ∧ h[p]? = some ⟨.tip false, .ints .u8 l'⟩ ∧ l'.length = D.length ∧ H0.length ≤ p
theorem BI.app {H0 h : AHeap} {v : AV} {F : List (Int × List Int)} {l : List AV} (b : BI H0 h v F l) (js : AHeap) (hj : js.all notOld = true) : BI H0 (h ++ js) v F l := by
  have k : Keeps h (h ++ js) none := Keeps.app _ _ _ hj
  refine ⟨good_app b.g hj, fun q z e => keepsAll k q z (b.low q z e), by have := b.bl; simp; omega, b.row.keeps k (by simp), fun i t D hi => ?_⟩
  obtain ⟨h1, p, l', h2, h3, h4, h5⟩ := b.el i t D hi
  exact ⟨h1, p, l', h2, keepsAll k _ _ h3, h4, h5⟩
theorem BI.set {H0 h : AHeap} {v : AV} {F : List (Int × List Int)} {l : List AV} (b : BI H0 h v F l) {p : Nat} {l' l'' : List Int} (hp : h[p]? = some ⟨.tip false, .ints .u8 l'⟩) (hl : l''.length = l'.length) (hb : H0.length ≤ p) : BI H0 (h.set p ⟨.tip false, .ints .u8 l''⟩) v F l := by
  have hpl := (List.getElem?_eq_some_iff.1 hp).1
  refine ⟨good_set b.g rfl, fun q z e => ?_, by rw [List.length_set]; exact b.bl, ⟨b.row.1, ?_⟩, fun i t D hi => ?_⟩
  · have := (List.getElem?_eq_some_iff.1 e).1
    rw [List.getElem?_set_ne (by omega)]
    exact b.low q z e
  · rcases b.row.2 with e | ⟨q, mn, o, e, e2⟩
    · exact Or.inl e
    · refine Or.inr ⟨q, mn, o, e, ?_⟩
      rw [List.getElem?_set_ne (by rintro rfl; rw [hp] at e2; cases e2)]
      exact e2
  · obtain ⟨h1, q, m, h2, h3, h4, h5⟩ := b.el i t D hi
    by_cases hq : p = q
    · subst hq
      rw [hp] at h3
      cases h3
      exact ⟨h1, p, l'', h2, by rw [List.getElem?_set_self hpl], by omega, h5⟩
    · exact ⟨h1, q, m, h2, by rw [List.getElem?_set_ne hq]; exact h3, h4, h5⟩
set_option maxHeartbeats 16000000 in
theorem parses2_w {H0 H : AHeap} {a : Acts} {x oV v : AV} {e : Int} {F : List (Int × List Int)} {l : List AV} {D : List Int} {bb : Nat} (k0 : look a 0 = some x) (k3 : look a 3 = some oV) (k4 : look a 4 = some v) (k6 : look a 6 = some (.int .i64 e)) (k9 : look a 9 = some (.int .i64 e)) (k10 : look a 10 = some (.bool true))
    (bx : BV H0 x D) (bo : BV H0 oV D) (hbb : bb ≤ H0.length) (hF : F.length < 1000000) (hFl : ∀ z ∈ F, z.2.length < 1000000) (bi : BI H0 H v F l) : Wp (xexec (W CP) bb parses2 a H []) EndsC := by
  have n1 := bx.na
  have n2 := bo.na
  have hlv := bi.row.slen
  have n3 := na_slen hlv
  obtain ⟨n, hn⟩ : ∃ n, F.length = n := ⟨_, rfl⟩
  rw [hn] at hlv hF
  simp (maxDischargeDepth := 9) -implicitDefEqProofs only [push_cast, reduceIte, Nat.reduceEqDiff, Nat.reduceAdd, Nat.reduceSub, Nat.reduceMul, Nat.reduceDiv, Nat.reduceMod, Nat.reduceLT, Nat.reduceLeDiff, Nat.reduceBEq, Nat.reduceBNe, reduceCtorEq, Int.reduceEq, Int.reduceNe, Int.reduceLT, Int.reduceLE, Int.reduceToNat, Int.reduceNeg, Int.reduceAdd, Int.reduceSub, Int.reduceMul, Int.reducePow, Nat.reducePow, Int.reduceBEq, parses2, nadd1, nadd2, nadd3, nadd4, nadd5, nadd6, nadd7, nadd8, nadd9, nadd10, nadd11, nadd12, k0, k3, k4, k6, k9, k10, n1, n2, n3, hlv]
  refine wp_kSeq (wp_kBlock ?_)
  refine wp_loop (fun k a h' ws => ∃ i : Nat, k = n - i ∧ i ≤ n ∧ a = [(0, x), (3, oV), (6, .int .i64 e), (9, .int .i64 e), (10, .bool true), (46, v), (47, .int .i64 (n : Int)), (48, .int .i64 (i : Int))] ∧ BI H0 h' v F l ∧ ws = []) n ?_ ?_
  · refine ⟨0, by omega, by omega, ?_, bi, rfl⟩
    simp (maxDischargeDepth := 9) -implicitDefEqProofs only [push_cast, reduceIte, Nat.reduceEqDiff, Nat.reduceAdd, Nat.reduceSub, Nat.reduceMul, Nat.reduceDiv, Nat.reduceMod, Nat.reduceLT, Nat.reduceLeDiff, Nat.reduceBEq, Nat.reduceBNe, reduceCtorEq, Int.reduceEq, Int.reduceNe, Int.reduceLT, Int.reduceLE, Int.reduceToNat, Int.reduceNeg, Int.reduceAdd, Int.reduceSub, Int.reduceMul, Int.reducePow, Nat.reducePow, Int.reduceBEq, k0, k3, k6, k9, k10, n1, n2, n3]
  · clear bi
    rintro k aa H ws ⟨i, rfl, hi, rfl, bi, rfl⟩
    have v1 : IntKind.i64.wrap ((i : Int) + 1) = (i : Int) + 1 := wr_i64 _ (by omega) (by omega)
    by_cases hlt : i < n
    · have hlt' : (i : Int) < (n : Int) := by omega
      obtain ⟨⟨t, E⟩, hz⟩ : ∃ z, F[i]? = some z := ⟨_, List.getElem?_eq_getElem (by omega)⟩
      have hE := hFl _ (List.mem_of_getElem? hz)
      obtain ⟨l1, p, l', l2, hp, hl', hbp⟩ := bi.el i t E hz
      obtain ⟨m, hm⟩ : ∃ m, E.length = m := ⟨_, rfl⟩
      rw [hm] at l2 hl'
      simp only [hm] at hE
      rcases bi.row.2 with ⟨_, e2⟩ | ⟨P, mn, o, e1, hP⟩
      · omega
      rw [hn] at e1
      subst e1
      have hpl := (List.getElem?_eq_some_iff.1 hp).1
      have hPl := (List.getElem?_eq_some_iff.1 hP).1
      have hia : iaV 2 H i (some (.gsl P 0 n 2 mn)) = some (.ptr P (i * 2), H, []) := by
        simp only [iaV]; rw [if_pos ⟨trivial, hlt⟩, Nat.zero_add]
      have hld : ldV (some 2) H (some (.ptr P (i * 2))) = some (.agg [.int .u16 t, .gsl p 0 m 1 false], H, []) := by
        simp only [ldV, cellsAt_of hP (by simp), Option.bind_some, loadA, loadN, ACells.get?, l1, l2, Option.map_some]
      have hbl := bi.bl
      have hlo : ¬ H.length < bb := by omega
      have hlo2 : ¬ p < bb := by omega
      have bi1 := bi.app [⟨.tip false, .vals [.int .u16 t, .gsl p 0 m 1 false]⟩] rfl
      have hPP : (H ++ [(⟨.tip false, .vals [.int .u16 t, .gsl p 0 m 1 false]⟩ : ABlk)])[H.length]? = some ⟨.tip false, .vals [.int .u16 t, .gsl p 0 m 1 false]⟩ := end_get _ _ _
      have hp1 : (H ++ [(⟨.tip false, .vals [.int .u16 t, .gsl p 0 m 1 false]⟩ : ABlk)])[p]? = some ⟨.tip false, .ints .u8 l'⟩ := by rw [List.getElem?_append_left hpl]; exact hp
      simp (maxDischargeDepth := 9) -implicitDefEqProofs only [push_cast, reduceIte, Nat.reduceEqDiff, Nat.reduceAdd, Nat.reduceSub, Nat.reduceMul, Nat.reduceDiv, Nat.reduceMod, Nat.reduceLT, Nat.reduceLeDiff, Nat.reduceBEq, Nat.reduceBNe, reduceCtorEq, Int.reduceEq, Int.reduceNe, Int.reduceLT, Int.reduceLE, Int.reduceToNat, Int.reduceNeg, Int.reduceAdd, Int.reduceSub, Int.reduceMul, Int.reducePow, Nat.reducePow, Int.reduceBEq, nadd1, nadd2, nadd3, nadd4, nadd5, nadd6, nadd7, nadd8, nadd9, nadd10, nadd11, nadd12, hlt', hlv, v1, ↓ia_eq, hia, hlt, ↓ldv_eq 50, hld, hlo]
      refine wp_kSeq (wp_kBlock (wp_kBlock ?_))
      refine wp_loop (fun k a h' ws => ∃ j : Nat, k = m - j ∧ j ≤ m ∧ a = [(0, x), (3, oV), (6, .int .i64 e), (9, .int .i64 e), (10, .bool true), (12, .ptr H.length 0), (46, .gsl P 0 n 2 mn), (47, .int .i64 (n : Int)), (48, .int .i64 (i : Int)), (54, .int .i64 (m : Int)), (55, .int .i64 (j : Int))] ∧ BI H0 h' (.gsl P 0 n 2 mn) F l ∧ h'[H.length]? = some ⟨.tip false, .vals [.int .u16 t, .gsl p 0 m 1 false]⟩ ∧ (∃ l' : List Int, h'[p]? = some ⟨.tip false, .ints .u8 l'⟩ ∧ l'.length = m) ∧ ws = []) m ?_ ?_
      · refine ⟨0, by omega, by omega, ?_, bi1, hPP, ⟨l', hp1, hl'⟩, rfl⟩
        simp (maxDischargeDepth := 9) -implicitDefEqProofs only [push_cast, reduceIte, Nat.reduceEqDiff, Nat.reduceAdd, Nat.reduceSub, Nat.reduceMul, Nat.reduceDiv, Nat.reduceMod, Nat.reduceLT, Nat.reduceLeDiff, Nat.reduceBEq, Nat.reduceBNe, reduceCtorEq, Int.reduceEq, Int.reduceNe, Int.reduceLT, Int.reduceLE, Int.reduceToNat, Int.reduceNeg, Int.reduceAdd, Int.reduceSub, Int.reduceMul, Int.reducePow, Nat.reducePow, Int.reduceBEq, n1, n2, n3]
      · clear bi bi1 hPP hp1 hp hl' hpl hld hia hP hPl
        rintro k aa G ws ⟨j, rfl, hj, rfl, bi, hPP, ⟨l', hp, hl'⟩, rfl⟩
        have v2 : IntKind.i64.wrap ((j : Int) + 1) = (j : Int) + 1 := wr_i64 _ (by omega) (by omega)
        have hpl := (List.getElem?_eq_some_iff.1 hp).1
        have hPl := (List.getElem?_eq_some_iff.1 hPP).1
        by_cases hltj : j < m
        · have hltj' : (j : Int) < (m : Int) := by omega
          obtain ⟨d, hd⟩ : ∃ d, l'[j]? = some d := ⟨_, List.getElem?_eq_getElem (by omega)⟩
          have hil : j < l'.length := by omega
          simp (maxDischargeDepth := 9) -implicitDefEqProofs only [push_cast, reduceIte, Nat.reduceEqDiff, Nat.reduceAdd, Nat.reduceSub, Nat.reduceMul, Nat.reduceDiv, Nat.reduceMod, Nat.reduceLT, Nat.reduceLeDiff, Nat.reduceBEq, Nat.reduceBNe, reduceCtorEq, Int.reduceEq, Int.reduceNe, Int.reduceLT, Int.reduceLE, Int.reduceToNat, Int.reduceNeg, Int.reduceAdd, Int.reduceSub, Int.reduceMul, Int.reducePow, Nat.reducePow, Int.reduceBEq, nadd1, nadd2, nadd3, nadd4, nadd5, nadd6, nadd7, nadd8, nadd9, nadd10, nadd11, nadd12, hltj, hltj', v2, hPP, hPl, hp, hpl, hd, hil, hlo2, Nat.mul_one]
          refine loop_next (m - (j + 1)) (by omega) ⟨j + 1, rfl, by omega, ?_, bi.set hp (by rw [List.length_set]) hbp, ?_, ⟨l'.set j (abits .xor .u8 d 255), by rw [List.getElem?_set_self hpl], by rw [List.length_set]; exact hl'⟩, rfl⟩
          · simp (maxDischargeDepth := 9) -implicitDefEqProofs only [push_cast, reduceIte, Nat.reduceEqDiff, Nat.reduceAdd, Nat.reduceSub, Nat.reduceMul, Nat.reduceDiv, Nat.reduceMod, Nat.reduceLT, Nat.reduceLeDiff, Nat.reduceBEq, Nat.reduceBNe, reduceCtorEq, Int.reduceEq, Int.reduceNe, Int.reduceLT, Int.reduceLE, Int.reduceToNat, Int.reduceNeg, Int.reduceAdd, Int.reduceSub, Int.reduceMul, Int.reducePow, Nat.reducePow, Int.reduceBEq, n1, n2, n3]; try simp
          · rw [List.getElem?_set_ne (by rintro rfl; rw [hp] at hPP; cases hPP)]; exact hPP
        · have hnlj : ¬ (j : Int) < (m : Int) := by omega
          simp (maxDischargeDepth := 9) -implicitDefEqProofs only [push_cast, reduceIte, Nat.reduceEqDiff, Nat.reduceAdd, Nat.reduceSub, Nat.reduceMul, Nat.reduceDiv, Nat.reduceMod, Nat.reduceLT, Nat.reduceLeDiff, Nat.reduceBEq, Nat.reduceBNe, reduceCtorEq, Int.reduceEq, Int.reduceNe, Int.reduceLT, Int.reduceLE, Int.reduceToNat, Int.reduceNeg, Int.reduceAdd, Int.reduceSub, Int.reduceMul, Int.reducePow, Nat.reducePow, Int.reduceBEq, hnlj, n1, n2, n3, v1]
          refine loop_next (n - (i + 1)) (by omega) ⟨i + 1, rfl, by omega, ?_, bi, rfl⟩
          simp (maxDischargeDepth := 9) -implicitDefEqProofs only [push_cast, reduceIte, Nat.reduceEqDiff, Nat.reduceAdd, Nat.reduceSub, Nat.reduceMul, Nat.reduceDiv, Nat.reduceMod, Nat.reduceLT, Nat.reduceLeDiff, Nat.reduceBEq, Nat.reduceBNe, reduceCtorEq, Int.reduceEq, Int.reduceNe, Int.reduceLT, Int.reduceLE, Int.reduceToNat, Int.reduceNeg, Int.reduceAdd, Int.reduceSub, Int.reduceMul, Int.reducePow, Nat.reducePow, Int.reduceBEq, n1, n2, n3]; try simp
    · have hnl : ¬ (i : Int) < (n : Int) := by omega
      have aw := fun h => awake_c h
      have eE := equal_c bi.g (bo.keep bi.low) (bx.keep bi.low)
      rw [decide_eq_true rfl] at eE
      simp (maxDischargeDepth := 9) -implicitDefEqProofs only [push_cast, reduceIte, Nat.reduceEqDiff, Nat.reduceAdd, Nat.reduceSub, Nat.reduceMul, Nat.reduceDiv, Nat.reduceMod, Nat.reduceLT, Nat.reduceLeDiff, Nat.reduceBEq, Nat.reduceBNe, reduceCtorEq, Int.reduceEq, Int.reduceNe, Int.reduceLT, Int.reduceLE, Int.reduceToNat, Int.reduceNeg, Int.reduceAdd, Int.reduceSub, Int.reduceMul, Int.reducePow, Nat.reducePow, Int.reduceBEq, hnl, n1, n2, aw, eE]
      exact ⟨_, _, _, rfl, by simp (maxDischargeDepth := 9) -implicitDefEqProofs only [push_cast, reduceIte, Nat.reduceEqDiff, Nat.reduceAdd, Nat.reduceSub, Nat.reduceMul, Nat.reduceDiv, Nat.reduceMod, Nat.reduceLT, Nat.reduceLeDiff, Nat.reduceBEq, Nat.reduceBNe, reduceCtorEq, Int.reduceEq, Int.reduceNe, Int.reduceLT, Int.reduceLE, Int.reduceToNat, Int.reduceNeg, Int.reduceAdd, Int.reduceSub, Int.reduceMul, Int.reducePow, Nat.reducePow, Int.reduceBEq]⟩
theorem own_sv {D : List Int} (hB : Byt D) (H : AHeap) : SV (H ++ ownH D) (ownV H.length D) D := by
  by_cases h0 : D = []
  · subst h0; exact Or.inl ⟨rfl, rfl⟩
  · rw [ownV_ne h0, ownH_ne h0]
    exact Or.inr ⟨hB, H.length, 0, 0, .tip false, D, end_get _ _ _, Or.inr ⟨false, rfl⟩, by omega, by rw [List.drop_zero, List.take_length], Or.inr rfl⟩
theorem keeps_good {h : AHeap} {js : AHeap} (hg : Good (h ++ js)) : Keeps h (h ++ js) none :=
  ⟨fun q x e _ _ => by rw [List.getElem?_append_left (List.getElem?_eq_some_iff.1 e).1]; exact e, by simp, fun _ => hg⟩
set_option maxHeartbeats 16000000 in
theorem parses_body {g : AHeap} (hg : Good g) {bv : AV} (hbv : Ty g (.sl [.i .u8]) bv) : Wp (xbody (W CP) M4 [bv] g) fun r => r.1 = .bool true := by
  obtain ⟨Df, bD, lD, sD⟩ := arg_cut hbv
  obtain ⟨N, hN⟩ : ∃ N, Df.length = N := ⟨_, rfl⟩
  have hnb := bD.na
  have hlb := bD.len
  rw [hN] at hlb lD
  obtain ⟨m, hm, hm2, hmin⟩ : ∃ m : Nat, m ≤ N ∧ m ≤ 2000 ∧ (if (2000 : Int) < (N : Int) then (2000 : Int) else (N : Int)) = (m : Int) := by
    by_cases hc : 2000 < N
    · exact ⟨2000, by omega, by omega, by rw [if_pos (by omega)]; rfl⟩
    · exact ⟨N, by omega, by omega, by rw [if_neg (by omega)]⟩
  have e1 := fun h => slcV_hi (h := h) bD (show m ≤ Df.length by omega)
  have bcut := bD.take (show m ≤ Df.length by omega)
  have acut := bcut.na
  have sv := sD m (by omega)
  have hcl : (Df.take m).length = m := by rw [List.length_take]; omega
  have hB := bcut.1
  obtain ⟨D, hD⟩ : ∃ D, Df.take m = D := ⟨_, rfl⟩
  rw [hD] at bcut sv hcl hB
  obtain ⟨x, hx⟩ : ∃ x, cutX bv m = x := ⟨_, rfl⟩
  rw [hx] at e1 bcut acut sv
  clear hx
  have eO := own_c hg bcut (by omega)
  have bo := own_bv hB g
  have hno := ownH_notOld D
  have svx := own_sv hB g
  have bx := bcut.app (ownH D)
  have hG0 := good_app hg hno
  obtain ⟨oV, hoV⟩ : ∃ z, ownV g.length D = z := ⟨_, rfl⟩
  obtain ⟨H0, hH0⟩ : ∃ H0, g ++ ownH D = H0 := ⟨_, rfl⟩
  have hgl : g.length ≤ H0.length := by rw [← hH0]; simp
  rw [hoV, hH0] at eO bo
  rw [hoV, hH0] at svx
  rw [hH0] at bx hG0
  clear hoV hH0 hno
  have ao := bo.na
  have aw := fun h => awake_c h
  rw [parses_parts]
  cases hp : parseX 9 [] D with
  | err z =>
    have eP := xparse_err hG0 svx (by omega) hp
    have eR := xrefparse_err hG0 bx (by omega) hp
    have eS := sameX_c hG0 (ExtAt.nil H0) (ExtAt.nil H0) (by simp)
    have eS2 := refSameX_c hG0 (ExtAt.nil H0) (ExtAt.nil H0) (by simp)
    have eE := equal_c hG0 (BV.nil H0) (BV.nil H0)
    rw [decide_eq_true rfl] at eS eS2 eE
    simp (maxDischargeDepth := 9) -implicitDefEqProofs only [push_cast, reduceIte, Nat.reduceEqDiff, Nat.reduceAdd, Nat.reduceSub, Nat.reduceMul, Nat.reduceDiv, Nat.reduceMod, Nat.reduceLT, Nat.reduceLeDiff, Nat.reduceBEq, Nat.reduceBNe, reduceCtorEq, Int.reduceEq, Int.reduceNe, Int.reduceLT, Int.reduceLE, Int.reduceToNat, Int.reduceNeg, Int.reduceAdd, Int.reduceSub, Int.reduceMul, Int.reducePow, Nat.reducePow, Int.reduceBEq, hnb, hlb, hmin, ↓slc_eqH, e1, acut, eO, ao, eP, eR, eS, eS2, eE]
    refine wp_endsC (parses2_w (H0 := H0) (x := x) (oV := oV) (v := .nils) (e := z) (F := []) (l := []) (D := D) ?_ ?_ ?_ ?_ ?_ ?_ bx bo hgl (by simp) (by simp) ⟨hG0, fun q z e => e, Nat.le_refl _, ⟨rfl, Or.inl ⟨rfl, rfl⟩⟩, fun i t D hi => by simp at hi⟩)
    all_goals simp (maxDischargeDepth := 9) -implicitDefEqProofs only [push_cast, reduceIte, Nat.reduceEqDiff, Nat.reduceAdd, Nat.reduceSub, Nat.reduceMul, Nat.reduceDiv, Nat.reduceMod, Nat.reduceLT, Nat.reduceLeDiff, Nat.reduceBEq, Nat.reduceBNe, reduceCtorEq, Int.reduceEq, Int.reduceNe, Int.reduceLT, Int.reduceLE, Int.reduceToNat, Int.reduceNeg, Int.reduceAdd, Int.reduceSub, Int.reduceMul, Int.reducePow, Nat.reducePow, Int.reduceBEq, acut, ao]
  | ok F D' =>
    obtain ⟨F2, q1, q2, q3, q4, q5⟩ := put_parse 9 [] F D D' hB (by simp) hp
    rw [List.nil_append] at q1
    subst q1
    obtain ⟨v, rv, js, eP, rok, _⟩ := xparse_ok hG0 svx (by omega) hp
    have ex := rok.ext
    obtain ⟨l, gx, en, ow, gp, brv, _, hG1⟩ := rok
    have k1 := keeps_good hG1
    have bx1 := bx.app js
    obtain ⟨H1, hH1⟩ : ∃ H1, H0 ++ js = H1 := ⟨_, rfl⟩
    rw [hH1] at eP ex gx en ow brv hG1 k1 bx1
    obtain ⟨v2, rv2, js2, eR, rok2, _⟩ := xrefparse_ok hG1 bx1 (by omega) hp
    have ex2 := rok2.ext
    obtain ⟨_, gx2, _, _, _, brv2, _, hG2⟩ := rok2
    have k2 := keeps_good hG2
    have ex1 := ex.app js2
    have gx1 := gx.app js2
    have brv1 := brv.app js2
    obtain ⟨H2, hH2⟩ : ∃ H2, H1 ++ js2 = H2 := ⟨_, rfl⟩
    rw [hH2] at eR ex2 gx2 brv2 hG2 k2 ex1 gx1 brv1
    have en1 := en.keeps k2
    have ow1 := ow.keeps k2
    have eS := sameX_c hG2 ex1 ex2 (by omega)
    have eS2 := refSameX_c hG2 ex1 ex2 (by omega)
    have eE := equal_c hG2 brv1 brv2
    rw [decide_eq_true rfl] at eS eS2 eE
    have nv := na_slen gx.slen
    have nv2 := na_slen gx2.slen
    have nr := brv.na
    have nr2 := brv2.na
    simp (maxDischargeDepth := 9) -implicitDefEqProofs only [push_cast, reduceIte, Nat.reduceEqDiff, Nat.reduceAdd, Nat.reduceSub, Nat.reduceMul, Nat.reduceDiv, Nat.reduceMod, Nat.reduceLT, Nat.reduceLeDiff, Nat.reduceBEq, Nat.reduceBNe, reduceCtorEq, Int.reduceEq, Int.reduceNe, Int.reduceLT, Int.reduceLE, Int.reduceToNat, Int.reduceNeg, Int.reduceAdd, Int.reduceSub, Int.reduceMul, Int.reducePow, Nat.reducePow, Int.reduceBEq, hnb, hlb, hmin, ↓slc_eqH, e1, acut, eO, ao, eP, eR, nv, nv2, nr, nr2, eS, eS2, eE]
    refine wp_endsC (parses2_w (H0 := H0) (x := x) (oV := oV) (v := v) (e := 0) (F := F) (l := l) (D := D) ?_ ?_ ?_ ?_ ?_ ?_ bx bo hgl (by omega) (fun z hz => by have := mayN_le (q3 z hz).2; omega) ⟨hG2, fun q z e => keepsAll k2 q z (keepsAll k1 q z e), by have := k1.2.1; have := k2.2.1; omega, gx1, fun i t E hi => ?_⟩)
    all_goals try simp (maxDischargeDepth := 9) -implicitDefEqProofs only [push_cast, reduceIte, Nat.reduceEqDiff, Nat.reduceAdd, Nat.reduceSub, Nat.reduceMul, Nat.reduceDiv, Nat.reduceMod, Nat.reduceLT, Nat.reduceLeDiff, Nat.reduceBEq, Nat.reduceBNe, reduceCtorEq, Int.reduceEq, Int.reduceNe, Int.reduceLT, Int.reduceLE, Int.reduceToNat, Int.reduceNeg, Int.reduceAdd, Int.reduceSub, Int.reduceMul, Int.reducePow, Nat.reducePow, Int.reduceBEq, acut, ao, nv, nv2, nr, nr2]
    obtain ⟨_, h1, _⟩ := en1 i t E hi
    obtain ⟨p, h2, h3, h4, _⟩ := ow1 i t E hi
    exact ⟨h1, p, E, h2, h3, rfl, h4⟩
theorem parses_law (js : AHeap) (avs : List AV) (hx : Ext js) (ht : TyA (CP.gl ++ js) [.one (.sl [.i .u8])] avs) : ∃ h' ws, W CP 4 avs (CP.gl ++ js) = some (.bool true, h', ws) := by
  simp only [TyA] at ht
  obtain ⟨bv, _, rfl, hb, rfl⟩ := ht
  refine W_law (m := M4) (fun _ => rfl) rfl (parses_body (good_ext hx) hb) fun h0 => ?_
  simp only [AV.lts, Bool.and_eq_true] at h0
  exact parses_body good_gl (ty_nil hb h0.1)
theorem parses_kinds : aksOf X.P 20 [25] = some [.one (.sl [.i .u8])] := by kernel_rfl
end Go.Proofs.YtpmibaeajmfdpaaW.AI.A
