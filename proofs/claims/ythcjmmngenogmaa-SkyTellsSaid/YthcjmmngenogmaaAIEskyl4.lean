import Derived.Test.YthcjmmngenogmaaAIEskyp
namespace Go.Proofs.YthcjmmngenogmaaW.AI.E
open Go Go.Proofs.YthcjmmngenogmaaW.AI
set_option maxRecDepth 100000
set_option linter.unusedSimpArgs false
set_option linter.unusedVariables false
set_option linter.unusedSectionVars false
/-- The end of the first loop; of the second one. -/
def Ex1 (g : AHeap) (z a b : Int) (P : List (Int × Int)) (o : AOut) : Prop := ∃ s v h', o = (.exit 0, s, h', []) ∧ keepA [0, 3, 4, 11] s = [(0, .int .u32 z), (3, .int .i64 a), (4, .int .i64 b), (11, v)] ∧ TP h' v P g.length ∧ Keeps g h' none
def Ex2 (g : AHeap) (z a b : Int) (v : AV) (P : List (Int × Int)) (o : AOut) : Prop := ∃ s u h', o = (.exit 2, s, h', []) ∧ keepA [0, 3, 4, 11, 14] s = [(0, .int .u32 z), (3, .int .i64 a), (4, .int .i64 b), (11, v), (14, u)] ∧ TP h' u P g.length ∧ Keeps g h' none
theorem pv_at {h : AHeap} {v : AV} {P : List (Int × Int)} (u : PV h v P) {i : Nat} {f o : Int} (hp : P[i]? = some (f, o)) : ∃ b, (∀ g, uia 2 g i (some v) = some (.ptr b (i * 2), g, [])) ∧ uld (some 2) h (some (.ptr b (i * 2))) = some (.agg [.int .i64 f, .int .i64 o], h, []) ∧ uld none h (some (.ptr b (i * 2))) = some (.int .i64 f, h, []) ∧ uld none h (some (.ptr b (i * 2 + 1))) = some (.int .i64 o, h, []) := by
  obtain ⟨hi, _⟩ := List.getElem?_eq_some_iff.1 hp
  obtain ⟨g1, g2⟩ := flatP_get hp
  obtain ⟨b, st, e, hs, hv⟩ := u
  have hc : cellsAt h b = some (.ints .i64 (flatP P)) := by
    rcases hs with rfl | ⟨o, rfl⟩ <;> simp [cellsAt, e]
  refine ⟨b, fun g => ?_, ?_, ?_, ?_⟩
  · rcases hv with ⟨c, rfl, _⟩ | rfl <;> simp [uia, hi]
  · simp [uld, hc, loadA, loadN, ACells.get?, g1, g2]
  · simp [uld, hc, loadA, ACells.get?, g1]
  · simp [uld, hc, loadA, ACells.get?, g2]
/-- A row of pieces, or nil. -/
def TN (h : AHeap) (u : AV) (Q : List (Int × Int)) (n : Nat) : Prop := (u = .nils ∧ Q = []) ∨ TP h u Q n
theorem TN.na {h : AHeap} {u : AV} {Q : List (Int × Int)} {n : Nat} (t : TN h u Q n) : noAny (some u) = some u := by
  rcases t with ⟨rfl, _⟩ | t
  · rfl
  · exact t.pv.na
theorem push {g Hb H : AHeap} {u : AV} {Q : List (Int × Int)} {f o : Int} (hg : g.length ≤ Hb.length) (hb : Good Hb) (k : Keeps Hb H none) (t : TN H u Q Hb.length) (hl : Q.length < 1000) :
    ∃ u' H3 ws3, newCells (H ++ [⟨.tip false, .ints .i64 [f, o]⟩]) (.ints .i64 [0, 0]) (.sl H.length 0 1 1) = some (.ints .i64 [f, o]) ∧ aappend (H ++ [⟨.tip false, .ints .i64 [f, o]⟩]) (.ints .i64 [0, 0]) 16 u (.ints .i64 [f, o]) 1 = some (u', H3, ws3) ∧ wadd g.length [] ws3 = [] ∧ TP H3 u' (Q ++ [(f, o)]) Hb.length ∧ Keeps Hb H3 none ∧ noAny (some u') = some u' := by
  have hn : newCells (H ++ [⟨.tip false, .ints .i64 [f, o]⟩]) (.ints .i64 [0, 0]) (.sl H.length 0 1 1) = some (.ints .i64 [f, o]) := by
    have hq : (H ++ [(⟨.tip false, .ints .i64 [f, o]⟩ : ABlk)])[H.length]? = some ⟨.tip false, .ints .i64 [f, o]⟩ := by simp
    simp [newCells, sliceCells, cellsAt, hq, ACells.len, ACells.sub]
  have kb := keepsJ k [⟨.tip false, .ints .i64 [f, o]⟩] rfl
  rcases t with ⟨rfl, rfl⟩ | t
  · refine ⟨.gsl (H.length + 1) 0 1 2 false, H ++ [⟨.tip false, .ints .i64 [f, o]⟩] ++ [⟨.tip false, .ints .i64 [f, o]⟩], [], hn, ?_, rfl, ⟨H.length + 1, by have := k.2.1; omega, Or.inr ⟨false, by simp, ?_⟩⟩, keepsJ kb _ rfl, rfl⟩
    · simp [aappend, room, ACells.len]
      try rfl
    · rw [List.getElem?_append_right (by simp)]
      simp [flatP]
  · have t1 : TP (H ++ [⟨.tip false, .ints .i64 [f, o]⟩]) u Q Hb.length := by
      obtain ⟨b, hb, h⟩ := t
      refine ⟨b, hb, ?_⟩
      rcases h with ⟨rfl, e⟩ | ⟨q, rfl, e⟩
      · exact Or.inl ⟨rfl, by rw [List.getElem?_append_left (List.getElem?_eq_some_iff.1 e).1]; exact e⟩
      · exact Or.inr ⟨q, rfl, by rw [List.getElem?_append_left (List.getElem?_eq_some_iff.1 e).1]; exact e⟩
    obtain ⟨u', H3, ws3, ea, t3, hw, k3⟩ := appP (f := f) (o := o) t1 hl kb.2.1
    exact ⟨u', H3, ws3, hn, ea, wadd_ge fun b h => Nat.le_trans hg (hw b h), t3, keepsO hb kb k3 t1.blk, t3.pv.na⟩
theorem parN_len (a : Int) (P : List (Int × Int)) : ∀ i : Nat, (parN a P i).length ≤ 2 * i
  | 0 => by simp [parN]
  | i + 1 => by
    have := parN_len a P i
    rw [parN, List.length_append]
    have : (seg a P i).length ≤ 2 := by
      unfold seg
      repeat' split
      all_goals simp
    omega
theorem tks_par (hz a t : Int) (P : List (Int × Int)) : tks hz (par a P) t = tks hz P t := by unfold tks; rw [pac_par]
set_option maxHeartbeats 16000000 in
theorem parts_body {g : AHeap} (hg : Good g) {z a b : Int} {lv ov : AV} (z0 : 0 ≤ z) (z1 : z < 4294967296) (hL : Ty g (.sl [.i .u64]) lv) (hO : Ty g (.sl [.i .i32]) ov) :
    Wp (xbody (W CP) M6 [.int .u32 z, lv, ov, .int .i64 a, .int .i64 b] g) fun r => r.1 = .bool true := by
  obtain ⟨L, uL, lL, rL⟩ := arg_iv hL
  obtain ⟨O, uO, lO, rO⟩ := arg_iv hO
  have h1 : IntKind.u64.min = 0 := rfl
  have h2 : IntKind.u64.max = 18446744073709551615 := rfl
  have h3 : IntKind.i32.min = -2147483648 := rfl
  have h4 : IntKind.i32.max = 2147483647 := rfl
  have rL : ∀ x ∈ L, 0 ≤ x ∧ x < 18446744073709551616 := fun x hx => by have := rL x hx; omega
  have rO : ∀ x ∈ O, -2147483648 ≤ x ∧ x ≤ 2147483647 := fun x hx => by have := rO x hx; omega
  obtain ⟨M, hM1, hM2, hM3, hM4⟩ : ∃ M : Nat, M ≤ 10 ∧ M ≤ L.length ∧ M ≤ O.length ∧ (M < L.length → M < O.length → M = 10) := by
    refine ⟨min 10 (min L.length O.length), by omega, by omega, by omega, by omega⟩
  have nL := uL.na
  have nO := uO.na
  have kL := uL.len
  have kO := uO.len
  obtain ⟨N1, hN1⟩ : ∃ N, L.length = N := ⟨_, rfl⟩
  obtain ⟨N2, hN2⟩ : ∃ N, O.length = N := ⟨_, rfl⟩
  rw [hN1] at kL lL hM2 hM4
  rw [hN2] at kO lO hM3 hM4
  have hL0 : ∀ x ∈ L, 0 ≤ x := fun x hx => (rL x hx).1
  simp (maxDischargeDepth := 9) -implicitDefEqProofs only [push_cast, simprocAttr, M6, nadd1, nadd2, nadd3, nadd4, nadd5, nadd6, nadd7, nadd8, nadd9, nadd10, nadd11, nadd12, nL, nO]
  refine wp_kRes (wp_kSeq (wp_kBlock (Wp.mono (Q := Ex1 g z a b (mkP L O M)) ?_ ?_)))
  · refine wp_loop (fun k aa h' ws => ∃ (i : Nat) (v : AV), k = M - i ∧ i ≤ M ∧ aa = [(0, .int .u32 z), (1, lv), (2, ov), (3, .int .i64 a), (4, .int .i64 b), (11, v), (12, .int .i64 (i : Int))] ∧ TP h' v (mkP L O i) g.length ∧ Keeps g h' none ∧ ws = []) M ?_ ?_
    · refine ⟨0, .sl g.length 0 1 1, by omega, by omega, ?_, ⟨g.length, Nat.le_refl _, Or.inl ⟨rfl, ?_⟩⟩, ?_, rfl⟩
      · simp (maxDischargeDepth := 9) -implicitDefEqProofs only [push_cast, simprocAttr, nL, nO]; try rfl
      · exact end_getS _ _ _
      · exact Keeps.app _ _ _ rfl
    · rintro k aa h' ws ⟨i, v, rfl, hi, rfl, tv, kh, rfl⟩
      have v1 : IntKind.i64.wrap ((i : Int) + 1) = (i : Int) + 1 := wr_i64 _ (by omega) (by omega)
      have nv := tv.pv.na
      have ln := tv.pv.len
      rw [mkP_len] at ln
      have hgh := kh.2.2 hg
      by_cases hlt : i < M
      · have c1 : (i : Int) < (N1 : Int) := by omega
        have c2 : (i : Int) < (N2 : Int) := by omega
        have c3 : (i : Int) < 10 := by omega
        obtain ⟨x, hx⟩ : ∃ x, L[i]? = some x := ⟨_, List.getElem?_eq_getElem (by omega)⟩
        obtain ⟨o, ho⟩ : ∃ x, O[i]? = some x := ⟨_, List.getElem?_eq_getElem (by omega)⟩
        obtain ⟨x0, x1⟩ := rL x (List.mem_of_getElem? hx)
        obtain ⟨o0, o1⟩ := rO o (List.mem_of_getElem? ho)
        obtain ⟨f0, f1⟩ := mkF_in hL0 i
        have fN : mkF L (i + 1) = mkF L i + 1 + x.tmod 70368744177664 := by simp only [mkF, hx]
        have oN : mkO O i = o.tmod 500001 := by simp only [mkO, ho]
        have oI := mkO_in O i
        have xI : 0 ≤ x.tmod 70368744177664 ∧ x.tmod 70368744177664 < 70368744177664 := by
          rw [Int.tmod_eq_emod_of_nonneg x0]; omega
        obtain ⟨F, hF⟩ : ∃ F, mkF L i = F := ⟨_, rfl⟩
        obtain ⟨G, hG⟩ : ∃ F, mkF L (i + 1) = F := ⟨_, rfl⟩
        obtain ⟨R, hR⟩ : ∃ F, mkO O i = F := ⟨_, rfl⟩
        obtain ⟨X, hX⟩ : ∃ F, x.tmod 70368744177664 = F := ⟨_, rfl⟩
        rw [hF, hG, hX] at fN
        rw [hR] at oN oI
        rw [hF] at f0 f1
        rw [hX] at xI
        have i10 : (i : Int) * 70368744177664 ≤ 703687441776640 := by omega
        have r1 : o.tmod 500001 = R := oN.symm
        have r2 : IntKind.i32.wrap R = R := wr_i32 _ (by omega) (by omega)
        have r3 : IntKind.i64.wrap R = R := wr_i64 _ (by omega) (by omega)
        have r4 : IntKind.u64.wrap X = X := wr_u64 _ (by omega) (by omega)
        have r5 : IntKind.i64.wrap X = X := wr_i64 _ (by omega) (by omega)
        have r6 : IntKind.i64.wrap (F + 1) = F + 1 := wr_i64 _ (by omega) (by omega)
        have r7 : IntKind.i64.wrap (F + 1 + X) = G := by rw [wr_i64 _ (by omega) (by omega)]; omega
        have r8 : IntKind.i64.wrap (((i + 1 : Nat) : Int) - 1) = (i : Int) := by rw [wr_i64 _ (by omega) (by omega)]; omega
        have r9 : IntKind.i64.wrap ((i : Int) + 1 - 1) = (i : Int) := by rw [wr_i64 _ (by omega) (by omega)]; omega
        obtain ⟨pO, eO1, eO2, _⟩ := (uO.kept kh).at ho
        have hlast := mkP_last L O i
        rw [hF] at hlast
        have hnext := mkP_next L O i
        rw [hF, hR, hG] at hnext
        have hfs := flatP_set (v := R) hlast
        have hii : i < i + 1 := by omega
        -- both shapes at once
        have step : ∀ (b : Nat) (q : Bool), g.length ≤ b → h'[b]? = some ⟨.tip q, .ints .i64 (flatP (mkP L O i))⟩ → (v = .sl b 0 (mkP L O i).length (mkP L O i).length ∧ q = false ∨ v = .gsl b 0 (mkP L O i).length 2 false) →
            ∃ H1 v' H3 ws3, (if q then kill b h' else h').set b ⟨.tip q, .ints .i64 ((flatP (mkP L O i)).set (i * 2 + 1) R)⟩ = H1 ∧ H1[b]? = some ⟨.tip q, .ints .i64 ((flatP (mkP L O i)).set (i * 2 + 1) R)⟩ ∧ ((flatP (mkP L O i)).set (i * 2 + 1) R)[i * 2]? = some F ∧ Keeps g H1 none ∧
              newCells (H1 ++ [⟨.tip false, .ints .i64 [G, 0]⟩]) (.ints .i64 [0, 0]) (.sl H1.length 0 1 1) = some (.ints .i64 [G, 0]) ∧ aappend (H1 ++ [⟨.tip false, .ints .i64 [G, 0]⟩]) (.ints .i64 [0, 0]) 16 v (.ints .i64 [G, 0]) 1 = some (v', H3, ws3) ∧ wadd g.length [] ws3 = [] ∧ TP H3 v' (mkP L O (i + 1)) g.length ∧ Keeps g H3 none ∧ noAny (some v') = some v' := by
          intro b q hb eb sh
          obtain ⟨kS, e1⟩ := setP (z := ⟨.tip q, .ints .i64 ((flatP (mkP L O i)).set (i * 2 + 1) R)⟩) eb (by rfl)
          have k1 := keepsO hg kh kS (fun j hj => by cases hj; exact hb)
          obtain ⟨H1, hH1⟩ : ∃ H, (if q then kill b h' else h').set b ⟨.tip q, .ints .i64 ((flatP (mkP L O i)).set (i * 2 + 1) R)⟩ = H := ⟨_, rfl⟩
          rw [hH1] at k1 e1
          have l1 := (List.getElem?_eq_some_iff.1 e1).1
          have e2 : ((flatP (mkP L O i)).set (i * 2 + 1) R)[i * 2]? = some F := by
            rw [hfs]
            have hg2 : ((mkP L O i).set i (F, R))[i]? = some (F, R) := List.getElem?_set_self (by rw [mkP_len]; omega)
            exact (flatP_get hg2).1
          have kb := keepsJ k1 [⟨.tip false, .ints .i64 [G, 0]⟩] rfl
          have hn : newCells (H1 ++ [⟨.tip false, .ints .i64 [G, 0]⟩]) (.ints .i64 [0, 0]) (.sl H1.length 0 1 1) = some (.ints .i64 [G, 0]) := by
            have hq : (H1 ++ [(⟨.tip false, .ints .i64 [G, 0]⟩ : ABlk)])[H1.length]? = some ⟨.tip false, .ints .i64 [G, 0]⟩ := by simp
            simp [newCells, sliceCells, cellsAt, hq, ACells.len, ACells.sub]
          have t1 : TP (H1 ++ [⟨.tip false, .ints .i64 [G, 0]⟩]) v ((mkP L O i).set i (F, R)) g.length := by
            refine ⟨b, hb, ?_⟩
            rw [List.length_set, List.getElem?_append_left l1, e1, hfs]
            rcases sh with ⟨rfl, rfl⟩ | rfl
            · exact Or.inl ⟨rfl, rfl⟩
            · exact Or.inr ⟨q, rfl, rfl⟩
          obtain ⟨v', H3, ws3, ea, t3, hw, k3⟩ := appP (f := G) (o := 0) t1 (by rw [List.length_set, mkP_len]; omega) kb.2.1
          rw [hnext] at t3
          exact ⟨H1, v', H3, ws3, hH1, e1, e2, k1, hn, ea, wadd_ge hw, t3, keepsO hg kb k3 t1.blk, t3.pv.na⟩
        obtain ⟨b, hb, ⟨rfl, eb⟩ | ⟨q, rfl, eb⟩⟩ := tv
        · obtain ⟨H1, v', H3, ws3, s1, s2, s3, s4, s5, s6, s7, s8, s9, s10⟩ := step b false hb eb (Or.inl ⟨rfl, rfl⟩)
          rw [if_neg (by decide)] at s1
          obtain ⟨pL, eL1, eL2, _⟩ := (uL.kept s4).at hx
          have lb := (List.getElem?_eq_some_iff.1 eb).1
          have lb1 := (List.getElem?_eq_some_iff.1 s2).1
          have ll : i * 2 + 1 < (flatP (mkP L O i)).length := by rw [flatP_len, mkP_len]; omega
          have hlo : ¬ b < g.length := by omega
          rw [mkP_len] at nv s6
          have ep : ∀ g : AHeap, uia 2 g i (some (.sl b 0 (i + 1) (i + 1))) = some (.ptr b (i * 2), g, []) := fun g => by simp [uia]
          simp (maxDischargeDepth := 9) -implicitDefEqProofs only [push_cast, simprocAttr, nadd1, nadd2, nadd3, nadd4, nadd5, nadd6, nadd7, nadd8, nadd9, nadd10, nadd11, nadd12, c1, c2, c3, v1, nL, nO, nv, ln, kL, kO, mkP_len, ep, r8, r9, ↓uia_eq, eO1, ↓uld_eq 48, ↓uld_eq 63, eO2, r1, r2, r3, r4, r5, r6, r7, hii, eb, lb, ll, s1, s2, s3, lb1, eL1, eL2, hX, s5, s6, s7, s10, hlo]
          refine loop_next (M - (i + 1)) (by omega) ⟨i + 1, v', rfl, by omega, ?_, s8, s9, rfl⟩
          simp (maxDischargeDepth := 9) -implicitDefEqProofs only [push_cast, simprocAttr, nL, nO, s10]; try simp
        · obtain ⟨H1, v', H3, ws3, s1, s2, s3, s4, s5, s6, s7, s8, s9, s10⟩ := step b q hb eb (Or.inr rfl)
          obtain ⟨pL, eL1, eL2, _⟩ := (uL.kept s4).at hx
          have lb := (List.getElem?_eq_some_iff.1 eb).1
          have lb1 := (List.getElem?_eq_some_iff.1 s2).1
          have ll : i * 2 + 1 < (flatP (mkP L O i)).length := by rw [flatP_len, mkP_len]; omega
          have hlo : ¬ b < g.length := by omega
          rw [mkP_len] at nv s6
          have ep : ∀ g : AHeap, uia 2 g i (some (.gsl b 0 (i + 1) 2 false)) = some (.ptr b (i * 2), g, []) := fun g => by simp [uia]
          cases q
          · rw [if_neg (by decide)] at s1
            simp (maxDischargeDepth := 9) -implicitDefEqProofs only [push_cast, simprocAttr, nadd1, nadd2, nadd3, nadd4, nadd5, nadd6, nadd7, nadd8, nadd9, nadd10, nadd11, nadd12, c1, c2, c3, v1, nL, nO, nv, ln, kL, kO, mkP_len, ep, r8, r9, ↓uia_eq, eO1, ↓uld_eq 48, ↓uld_eq 63, eO2, r1, r2, r3, r4, r5, r6, r7, hii, eb, lb, ll, s1, s2, s3, lb1, eL1, eL2, hX, s5, s6, s7, s10, hlo]
            refine loop_next (M - (i + 1)) (by omega) ⟨i + 1, v', rfl, by omega, ?_, s8, s9, rfl⟩
            simp (maxDischargeDepth := 9) -implicitDefEqProofs only [push_cast, simprocAttr, nL, nO, s10]; try simp
          · rw [if_pos rfl] at s1
            simp (maxDischargeDepth := 9) -implicitDefEqProofs only [push_cast, simprocAttr, nadd1, nadd2, nadd3, nadd4, nadd5, nadd6, nadd7, nadd8, nadd9, nadd10, nadd11, nadd12, c1, c2, c3, v1, nL, nO, nv, ln, kL, kO, mkP_len, ep, r8, r9, ↓uia_eq, eO1, ↓uld_eq 48, ↓uld_eq 63, eO2, r1, r2, r3, r4, r5, r6, r7, hii, eb, lb, ll, s1, s2, s3, lb1, eL1, eL2, hX, s5, s6, s7, s10, hlo]
            refine loop_next (M - (i + 1)) (by omega) ⟨i + 1, v', rfl, by omega, ?_, s8, s9, rfl⟩
            simp (maxDischargeDepth := 9) -implicitDefEqProofs only [push_cast, simprocAttr, nL, nO, s10]; try simp
      · have hi2 : i = M := by omega
        subst hi2
        have fin : ∀ s : Acts, keepA [0, 3, 4, 11] s = [(0, .int .u32 z), (3, .int .i64 a), (4, .int .i64 b), (11, v)] → Ex1 g z a b (mkP L O i) (.exit 0, s, h', []) := fun s e => ⟨s, v, h', rfl, e, tv, kh⟩
        by_cases c1 : (i : Int) < (N1 : Int)
        · by_cases c2 : (i : Int) < (N2 : Int)
          · have : i = 10 := hM4 (by omega) (by omega)
            have c3 : ¬ (i : Int) < 10 := by omega
            simp (maxDischargeDepth := 9) -implicitDefEqProofs only [push_cast, simprocAttr, nadd1, nadd2, nadd3, nadd4, nadd5, nadd6, nadd7, nadd8, nadd9, nadd10, nadd11, nadd12, c1, c2, c3, nL, nO, nv, kL, kO]
            refine fin _ ?_
            simp (maxDischargeDepth := 9) -implicitDefEqProofs only [push_cast, simprocAttr, nv]; try rfl
          · simp (maxDischargeDepth := 9) -implicitDefEqProofs only [push_cast, simprocAttr, nadd1, nadd2, nadd3, nadd4, nadd5, nadd6, nadd7, nadd8, nadd9, nadd10, nadd11, nadd12, c1, c2, nL, nO, nv, kL, kO]
            refine fin _ ?_
            simp (maxDischargeDepth := 9) -implicitDefEqProofs only [push_cast, simprocAttr, nv]; try rfl
        · simp (maxDischargeDepth := 9) -implicitDefEqProofs only [push_cast, simprocAttr, nadd1, nadd2, nadd3, nadd4, nadd5, nadd6, nadd7, nadd8, nadd9, nadd10, nadd11, nadd12, c1, nL, nO, nv, kL, kO]
          refine fin _ ?_
          simp (maxDischargeDepth := 9) -implicitDefEqProofs only [push_cast, simprocAttr, nv]; try rfl
  rintro _ ⟨s, v, h0, rfl, hks, tv, k0⟩
  have hP : Pcs (mkP L O M) := mkP_ok hL0 hM1
  have hP10 : (mkP L O M).length ≤ 11 := by rw [mkP_len]; omega
  obtain ⟨P, hPe⟩ : ∃ P, mkP L O M = P := ⟨_, rfl⟩
  rw [hPe] at hP tv hP10
  clear hPe hL0 rL rO uL uO nL nO kL kO
  have hG0 := k0.2.2 hg
  have nv := tv.pv.na
  have ln := tv.pv.len
  have p1 := hP.ne
  obtain ⟨A, hA⟩ : ∃ y, abits .and .i64 a 4503599627370495 = y := ⟨_, rfl⟩
  obtain ⟨B, hB⟩ : ∃ y, abits .and .i64 b 4503599627370495 = y := ⟨_, rfl⟩
  have kA : 0 ≤ abits .and .i64 a 4503599627370495 ∧ abits .and .i64 a 4503599627370495 ≤ 4503599627370495 := andM (m := 4503599627370495) (by decide) a
  rw [hA] at kA
  have wA : IntKind.i64.wrap (1 + A) = 1 + A := wr_i64 _ (by omega) (by omega)
  obtain ⟨T, hT⟩ : ∃ T, 1 + A = T := ⟨_, rfl⟩
  rw [hT] at wA
  have wA' : IntKind.i64.wrap (1 + A) = T := by rw [hT]; exact wA
  obtain ⟨n, hn⟩ : ∃ n, P.length = n := ⟨_, rfl⟩
  rw [hn] at ln
  simp (maxDischargeDepth := 9) -implicitDefEqProofs only [push_cast, simprocAttr, nadd1, nadd2, nadd3, nadd4, nadd5, nadd6, nadd7, nadd8, nadd9, nadd10, nadd11, nadd12, ↓hks, hA, hB, wA', nv]
  refine wp_kSeq (wp_kBlock (Wp.mono (Q := Ex2 h0 z T B v (par T P)) ?_ ?_))
  · refine wp_loop (fun k aa h' ws => ∃ (i : Nat) (u : AV), k = n - i ∧ i ≤ n ∧ aa = [(0, .int .u32 z), (3, .int .i64 T), (4, .int .i64 B), (11, v), (14, u), (15, .int .i64 (i : Int))] ∧ TN h' u (parN T P i) h0.length ∧ Keeps h0 h' none ∧ ws = []) n ?_ ?_
    · refine ⟨0, .nils, by omega, by omega, ?_, Or.inl ⟨rfl, rfl⟩, Keeps.refl _ _, rfl⟩
      simp (maxDischargeDepth := 9) -implicitDefEqProofs only [push_cast, simprocAttr, nv]; try rfl
    · rintro k aa h' ws ⟨i, u, rfl, hi, rfl, tu, kh, rfl⟩
      have nu := tu.na
      have pvh : ∀ {H}, Keeps h0 H none → PV H v P := fun kk => tv.pv.keep fun q z e _ => keepsN kk q z e
      have kg : ∀ {H}, Keeps h0 H none → g.length ≤ H.length := fun kk => Nat.le_trans k0.2.1 kk.2.1
      have lN := parN_len T P i
      by_cases hlt : i < n
      · have c1 : (i : Int) < (n : Int) := by omega
        obtain ⟨⟨f, o⟩, hfo⟩ : ∃ x, P[i]? = some x := ⟨_, List.getElem?_eq_getElem (by omega)⟩
        obtain ⟨p1, x1, x2, _, _⟩ := pv_at (pvh kh) hfo
        obtain ⟨u1, H1, ws1, a1, a2, a3, t1, k1, n1⟩ := push (g := g) (f := f) (o := o) (kg (Keeps.refl _ _)) hG0 kh tu (by omega)
        obtain ⟨q1, y1, _, y2, y3⟩ := pv_at (pvh k1) hfo
        obtain ⟨u2, H2, ws2, b1, b2, b3, t2, k2, n2⟩ := push (g := g) (f := T) (o := o) (kg (Keeps.refl _ _)) hG0 k1 (Or.inr t1) (by simp; omega)
        have hpq : p1 = q1 := by
          have := (x1 []).symm.trans (y1 [])
          simp only [Option.some.injEq, Prod.mk.injEq, AV.ptr.injEq, and_true] at this
          exact this
        subst hpq
        obtain ⟨K, hK⟩ : ∃ K, i + 1 = K := ⟨_, rfl⟩
        have v1 : IntKind.i64.wrap ((i : Int) + 1) = (K : Int) := by rw [wr_i64 _ (by omega) (by omega)]; omega
        have one : seg T P i = [(f, o)] → TN H1 u1 (parN T P K) h0.length := fun e => Or.inr (by rw [← hK, parN, e]; exact t1)
        have two : seg T P i = [(f, o), (T, o)] → TN H2 u2 (parN T P K) h0.length := fun e => Or.inr (by
          rw [← hK, parN, e, show parN T P i ++ [(f, o), (T, o)] = parN T P i ++ [(f, o)] ++ [(T, o)] by simp]; exact t2)
        by_cases c2 : f < T
        · by_cases c3 : K = n
          · have c3' : (K : Int) = (n : Int) := by omega
            have e : seg T P i = [(f, o), (T, o)] := by
              unfold seg
              rw [hfo, hK, List.getElem?_eq_none (by omega)]
              simp [c2]
            simp (maxDischargeDepth := 9) -implicitDefEqProofs only [push_cast, simprocAttr, nadd1, nadd2, nadd3, nadd4, nadd5, nadd6, nadd7, nadd8, nadd9, nadd10, nadd11, nadd12, c1, ln, nv, nu, ↓uia_eq, x1, ↓uld_eq 85, x2, a1, a2, a3, n1, ↓uld_eq 93, y2, c2, v1, c3', ↓uld_eq 118, y3, b1, b2, b3, n2]
            refine loop_next (n - K) (by omega) ⟨K, u2, rfl, by omega, ?_, two e, k2, rfl⟩
            simp (maxDischargeDepth := 9) -implicitDefEqProofs only [push_cast, simprocAttr, nv, n2]; try simp
            omega
          · have c3' : ¬ (K : Int) = (n : Int) := by omega
            obtain ⟨⟨f', o'⟩, hfo'⟩ : ∃ x, P[K]? = some x := ⟨_, List.getElem?_eq_getElem (by omega)⟩
            obtain ⟨r1, z1, _, z2, _⟩ := pv_at (pvh k1) hfo'
            by_cases c4 : T < f'
            · have e : seg T P i = [(f, o), (T, o)] := by
                unfold seg
                rw [hfo, hK, hfo']
                simp [c2, c4]
              simp (maxDischargeDepth := 9) -implicitDefEqProofs only [push_cast, simprocAttr, nadd1, nadd2, nadd3, nadd4, nadd5, nadd6, nadd7, nadd8, nadd9, nadd10, nadd11, nadd12, c1, ln, nv, nu, ↓uia_eq, x1, ↓uld_eq 85, x2, a1, a2, a3, n1, ↓uld_eq 93, y2, c2, v1, c3', z1, ↓uld_eq 108, z2, c4, ↓uld_eq 118, y3, b1, b2, b3, n2]
              refine loop_next (n - K) (by omega) ⟨K, u2, rfl, by omega, ?_, two e, k2, rfl⟩
              simp (maxDischargeDepth := 9) -implicitDefEqProofs only [push_cast, simprocAttr, nv, n2]; try simp
            · have e : seg T P i = [(f, o)] := by
                unfold seg
                rw [hfo, hK, hfo']
                simp [c4]
              simp (maxDischargeDepth := 9) -implicitDefEqProofs only [push_cast, simprocAttr, nadd1, nadd2, nadd3, nadd4, nadd5, nadd6, nadd7, nadd8, nadd9, nadd10, nadd11, nadd12, c1, ln, nv, nu, ↓uia_eq, x1, ↓uld_eq 85, x2, a1, a2, a3, n1, ↓uld_eq 93, y2, c2, v1, c3', z1, ↓uld_eq 108, z2, c4]
              refine loop_next (n - K) (by omega) ⟨K, u1, rfl, by omega, ?_, one e, k1, rfl⟩
              simp (maxDischargeDepth := 9) -implicitDefEqProofs only [push_cast, simprocAttr, nv, n1]; try simp
        · have e : seg T P i = [(f, o)] := by
            unfold seg
            rw [hfo]
            cases P[i + 1]? <;> simp [c2]
          simp (maxDischargeDepth := 9) -implicitDefEqProofs only [push_cast, simprocAttr, nadd1, nadd2, nadd3, nadd4, nadd5, nadd6, nadd7, nadd8, nadd9, nadd10, nadd11, nadd12, c1, ln, nv, nu, ↓uia_eq, x1, ↓uld_eq 85, x2, a1, a2, a3, n1, ↓uld_eq 93, y2, c2, v1]
          refine loop_next (n - K) (by omega) ⟨K, u1, rfl, by omega, ?_, one e, k1, rfl⟩
          simp (maxDischargeDepth := 9) -implicitDefEqProofs only [push_cast, simprocAttr, nv, n1]; try simp
      · have hi2 : i = n := by omega
        have c1 : ¬ (i : Int) < (n : Int) := by omega
        have tp : TP h' u (par T P) h0.length := by
          unfold par
          rw [hn, ← hi2]
          rcases tu with ⟨_, e⟩ | t
          · exfalso
            have := (par_len T P).1
            unfold par at this
            rw [hn, ← hi2, e] at this
            simp at this
            omega
          · exact t
        have fin : ∀ s : Acts, keepA [0, 3, 4, 11, 14] s = [(0, .int .u32 z), (3, .int .i64 T), (4, .int .i64 B), (11, v), (14, u)] → Ex2 h0 z T B v (par T P) (.exit 2, s, h', []) := fun s e => ⟨s, u, h', rfl, e, tp, kh⟩
        simp (maxDischargeDepth := 9) -implicitDefEqProofs only [push_cast, simprocAttr, nadd1, nadd2, nadd3, nadd4, nadd5, nadd6, nadd7, nadd8, nadd9, nadd10, nadd11, nadd12, c1, ln, nv, nu]
        refine fin _ ?_
        simp (maxDischargeDepth := 9) -implicitDefEqProofs only [push_cast, simprocAttr, nv, nu]; try rfl
  rintro _ ⟨s2, u, h2, rfl, hk2, tu, k2⟩
  have nu := tu.pv.na
  have hG2 := k2.2.2 hG0
  have hQ : Pcs (par T P) := par_ok hP (by omega) (by omega) (by omega)
  have zt : z.tmod 999999001 = z % 999999001 := Int.tmod_eq_emod_of_nonneg z0
  obtain ⟨Z, hZ⟩ : ∃ Z, z % 999999001 = Z := ⟨_, rfl⟩
  have hZ2 : 0 ≤ Z ∧ Z < 999999001 := by omega
  rw [hZ] at zt
  have u1 : IntKind.u64.wrap z = z := wr_u64 _ (by omega) (by omega)
  have u2 : IntKind.u64.wrap Z = Z := wr_u64 _ (by omega) (by omega)
  obtain ⟨hz, hhz⟩ : ∃ hz, 1000 + Z = hz := ⟨_, rfl⟩
  have u3 : IntKind.u64.wrap (1000 + Z) = hz := by rw [hhz]; exact wr_u64 _ (by omega) (by omega)
  have pvv : PV h2 v P := tv.pv.keep fun q z e _ => keepsN k2 q z e
  obtain ⟨js, eN, sk, hG3⟩ := new_c (hz := hz) (fs := 5) (k := 32) hG2 pvv hP (by omega) (by omega) (by decide) (by decide) (by decide) (by decide)
  have eN' : W CP 19 [.int .u64 hz, .int .i64 32, .int .u64 5, v] h2 = some (.tup [.ptr (h2.length + 3) 0, .int .i64 0], h2 ++ js, []) := eN
  have k3 := keepsG hG3
  obtain ⟨p, hp⟩ : ∃ p, h2.length + 3 = p := ⟨_, rfl⟩
  obtain ⟨h3, hh3⟩ : ∃ h3, h2 ++ js = h3 := ⟨_, rfl⟩
  rw [hp] at eN' sk
  rw [hh3] at eN' sk hG3 k3
  clear hh3 hp eN
  have pvu : PV h3 u (par T P) := tu.pv.keep fun q z e _ => keepsN k3 q z e
  obtain ⟨js, eF, sk2, hG4⟩ := new_c (hz := hz) (fs := 5) (k := 32) hG3 pvu hQ (by omega) (by omega) (by decide) (by decide) (by decide) (by decide)
  have eF' : W CP 19 [.int .u64 hz, .int .i64 32, .int .u64 5, u] h3 = some (.tup [.ptr (h3.length + 3) 0, .int .i64 0], h3 ++ js, []) := eF
  have sk1 := sk.app js
  obtain ⟨q, hq⟩ : ∃ p, h3.length + 3 = p := ⟨_, rfl⟩
  obtain ⟨H, hH⟩ : ∃ h, h3 ++ js = h := ⟨_, rfl⟩
  rw [hq] at eF' sk2
  rw [hH] at eF' sk2 sk1 hG4
  clear hH hq eF
  have al := fun h => alive30 h
  have f1 := fun t => ticks_c (t := t) hG4 sk1
  have f2 := fun t => ticks_c (t := t) hG4 sk2
  have f3 := fun t => read_c (t := t) hG4 sk1
  have f4 := fun t => read_c (t := t) hG4 sk2
  have f5 := fun t => raw_c (t := t) hG4 sk1
  have f6 := fun t => raw_c (t := t) hG4 sk2
  have f7 := fun t => off_c (t := t) hG4 sk1
  have f8 := fun t => off_c (t := t) hG4 sk2
  have f9 := worst_c hG4 sk1
  have fA := worst_c hG4 sk2
  have r1 : ∀ t, rawV hz (par T P) t = rawV hz P t := fun t => by unfold rawV; rw [tks_par]
  simp only [tks_par, r1, off_par, show wst (par T P) = wst P from wst_par T P 0] at f2 f4 f6 f8 fA
  obtain ⟨tk, htk⟩ : ∃ x : Int → Int, (fun t => tks hz P t) = x := ⟨_, rfl⟩
  have wT : IntKind.i64.wrap (T - 1) = T - 1 := wr_i64 _ (by omega) (by omega)
  simp (maxDischargeDepth := 9) -implicitDefEqProofs only [push_cast, simprocAttr, nadd1, nadd2, nadd3, nadd4, nadd5, nadd6, nadd7, nadd8, nadd9, nadd10, nadd11, nadd12, ↓hk2, nv, nu, u1, zt, u2, u3, eN', eF', wT]
  refine wp_kSeq (wp_kBlock ?_)
  refine wp_loop (fun k x h' ws => ∃ j : Nat, k = 4 - j ∧ j ≤ 4 ∧ x = [(17, .ptr p 0), (19, .ptr q 0), (149, .agg [.int .i64 B, .int .i64 T, .int .i64 (T - 1), .int .i64 4503599627370496]), (150, .int .i64 (j : Int))] ∧ h' = H ∧ ws = []) 4 ?_ ?_
  · refine ⟨0, by omega, by omega, ?_, rfl, rfl⟩
    simp (maxDischargeDepth := 9) -implicitDefEqProofs only [push_cast, simprocAttr]; try rfl
  · rintro k xx h' ws ⟨j, rfl, hj, rfl, hh, rfl⟩
    obtain rfl : H = h' := hh.symm
    obtain rfl | rfl | rfl | rfl | rfl : j = 0 ∨ j = 1 ∨ j = 2 ∨ j = 3 ∨ j = 4 := by omega
    · simp (maxDischargeDepth := 9) -implicitDefEqProofs only [push_cast, simprocAttr, nadd1, nadd2, nadd3, nadd4, nadd5, nadd6, nadd7, nadd8, nadd9, nadd10, nadd11, nadd12, f1, f2, f3, f4, f5, f6, f7, f8]
      refine loop_next 3 (by omega) ⟨1, rfl, by omega, ?_, rfl, rfl⟩
      simp (maxDischargeDepth := 9) -implicitDefEqProofs only [push_cast, simprocAttr]; try simp
    · simp (maxDischargeDepth := 9) -implicitDefEqProofs only [push_cast, simprocAttr, nadd1, nadd2, nadd3, nadd4, nadd5, nadd6, nadd7, nadd8, nadd9, nadd10, nadd11, nadd12, f1, f2, f3, f4, f5, f6, f7, f8]
      refine loop_next 2 (by omega) ⟨2, rfl, by omega, ?_, rfl, rfl⟩
      simp (maxDischargeDepth := 9) -implicitDefEqProofs only [push_cast, simprocAttr]; try simp
    · simp (maxDischargeDepth := 9) -implicitDefEqProofs only [push_cast, simprocAttr, nadd1, nadd2, nadd3, nadd4, nadd5, nadd6, nadd7, nadd8, nadd9, nadd10, nadd11, nadd12, f1, f2, f3, f4, f5, f6, f7, f8]
      refine loop_next 1 (by omega) ⟨3, rfl, by omega, ?_, rfl, rfl⟩
      simp (maxDischargeDepth := 9) -implicitDefEqProofs only [push_cast, simprocAttr]; try simp
    · simp (maxDischargeDepth := 9) -implicitDefEqProofs only [push_cast, simprocAttr, nadd1, nadd2, nadd3, nadd4, nadd5, nadd6, nadd7, nadd8, nadd9, nadd10, nadd11, nadd12, f1, f2, f3, f4, f5, f6, f7, f8]
      refine loop_next 0 (by omega) ⟨4, rfl, by omega, ?_, rfl, rfl⟩
      simp (maxDischargeDepth := 9) -implicitDefEqProofs only [push_cast, simprocAttr]; try simp
    · simp (maxDischargeDepth := 9) -implicitDefEqProofs only [push_cast, simprocAttr, nadd1, nadd2, nadd3, nadd4, nadd5, nadd6, nadd7, nadd8, nadd9, nadd10, nadd11, nadd12, f9, fA, al]
theorem parts_law (js : AHeap) (avs : List AV) (hx : Ext js) (ht : TyA (CP.gl ++ js) [.one (.i .u32), .one (.sl [.i .u64]), .one (.sl [.i .i32]), .one (.i .i64), .one (.i .i64)] avs) : ∃ h' ws, W CP 6 avs (CP.gl ++ js) = some (.bool true, h', ws) := by
  simp only [TyA] at ht
  obtain ⟨c, _, rfl, hc, v, _, rfl, hv, u, _, rfl, hu, a, _, rfl, ha, b, _, rfl, hb, rfl⟩ := ht
  simp only [Ty] at hc ha hb
  obtain ⟨z, rfl, z0, z1⟩ := hc
  obtain ⟨a, rfl, _, _⟩ := ha
  obtain ⟨b, rfl, _, _⟩ := hb
  have e1 : IntKind.u32.min = 0 := rfl
  have e2 : IntKind.u32.max = 4294967295 := rfl
  refine W_law (m := M6) (fun _ => rfl) rfl (parts_body (good_ext hx) (by omega) (by omega) hv hu) fun h0 => ?_
  simp only [AV.lts, Bool.and_eq_true] at h0
  exact parts_body glG (by omega) (by omega) (ty_nil hv h0.2.1) (ty_nil hu h0.2.2.1)
theorem parts_kinds : aksOf X.P 20 [22, 23, 24, 2, 2] = some [.one (.i .u32), .one (.sl [.i .u64]), .one (.sl [.i .i32]), .one (.i .i64), .one (.i .i64)] := by kernel_rfl
end Go.Proofs.YthcjmmngenogmaaW.AI.E
