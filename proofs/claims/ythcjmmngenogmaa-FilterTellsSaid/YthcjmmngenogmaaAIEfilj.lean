import Derived.Test.YthcjmmngenogmaaAIEfilC
namespace Go.Proofs.YthcjmmngenogmaaW.AI.E
open Go Go.Proofs.YthcjmmngenogmaaW.AI
set_option maxRecDepth 100000
set_option linter.unusedSimpArgs false
set_option linter.unusedVariables false
set_option linter.unusedSectionVars false
section
variable {h : AHeap} {p q : Nat} {F : FS} {v : AV} {n : Nat}
theorem refJumps_no {s : Sp} (hg : Good h) (a : RefAt h p F q v n) (hc : ¬ canL F s.1 ∨ F.L.length < 3) : W CP 85 [.ptr p 0, spV s] h = some (.bool false, h, []) := by
  obtain ⟨x, y, z⟩ := s
  simp only at hc
  have hg1 : Good (h ++ [⟨.tip false, .ints .i64 [x, y, z]⟩]) := good_app hg rfl
  have a1 := a.app [⟨.tip false, .ints .i64 [x, y, z]⟩]
  have eB := refBest_c (raw := x) hg1 a1
  have lv := a.row.len
  have nv := a.row.na
  rw [List.length_reverse] at lv
  obtain ⟨B, hB⟩ : ∃ B, (bestO F x).1 = B := ⟨_, rfl⟩
  rw [hB] at eB
  obtain ⟨bx, by', bz⟩ := B
  have b1 := a1.blk
  obtain ⟨G1, hG1⟩ : ∃ G, h ++ [(⟨.tip false, .ints .i64 [x, y, z]⟩ : ABlk)] = G := ⟨_, rfl⟩
  rw [hG1] at eB b1
  have c1 : G1[h.length]? = some ⟨.tip false, .ints .i64 [x, y, z]⟩ := by rw [← hG1]; exact fend _ _ _
  have c1l := (List.getElem?_eq_some_iff.1 c1).1
  have hlen : G1.length = h.length + 1 := by rw [← hG1]; simp
  obtain ⟨G2, hG2⟩ : ∃ G, G1 ++ [(⟨.tip false, .ints .i64 [bx, by', bz]⟩ : ABlk)] = G := ⟨_, rfl⟩
  have hG2' : G2 = h ++ [(⟨.tip false, .ints .i64 [x, y, z]⟩ : ABlk), ⟨.tip false, .ints .i64 [bx, by', bz]⟩] := by rw [← hG2, ← hG1]; simp
  have b2 : G2[p]? = some ⟨.tip false, .vals [.ptr q 0, v, .int .i64 F.used, .bool F.held]⟩ := by rw [← hG2, List.getElem?_append_left (List.getElem?_eq_some_iff.1 b1).1]; exact b1
  have b2l := (List.getElem?_eq_some_iff.1 b2).1
  have hlo : ¬ G1.length < h.length := by omega
  refine W_quietP (m := M85) rfl rfl (by simp [AV.lts, AV.lt]) rfl rfl hg ?_
  by_cases c : canL F x
  · have h2 : F.L.length < 3 := by rcases hc with h | h; exact absurd c h; exact h
    have hat : atO F x = atR F x := if_pos c
    have hn0 : ¬ atR F x < 0 := by unfold atR; omega
    rw [hat] at eB
    have h2' : (F.L.length : Int) < 3 := by omega
    simp (maxDischargeDepth := 9) -implicitDefEqProofs only [push_cast, simprocAttr, M85, nadd1, nadd2, nadd3, nadd4, nadd5, nadd6, nadd7, nadd8, nadd9, nadd10, nadd11, nadd12, ABlk.new, hG1, c1, c1l, eB, hn0, hlo, hG2, b2, b2l, nv, lv, h2']
    exact ⟨rfl, ⟨_, hG2'⟩, rfl⟩
  · have hat : atO F x = -1 := if_neg c
    rw [hat] at eB
    simp (maxDischargeDepth := 9) -implicitDefEqProofs only [push_cast, simprocAttr, M85, nadd1, nadd2, nadd3, nadd4, nadd5, nadd6, nadd7, nadd8, nadd9, nadd10, nadd11, nadd12, ABlk.new, hG1, c1, c1l, eB, hlo, hG2]
    exact ⟨rfl, ⟨_, hG2'⟩, rfl⟩
theorem decF {S : Int} (h : 0 ≤ S) : decide (S < 0) = false := decide_eq_false (by omega)
theorem aNp {S : Int} (h : 0 ≤ S) : aN S = S := if_neg (by omega)
/-- Of a number that is none of the negative ones. -/
theorem OfP {z : Int} {H : AHeap} (hg : Good H) (z0 : 0 ≤ z) (z1 : z ≤ 9223372036854775807) : ∃ y js, W CP 63 [.int .i64 z] H = some (.agg [.bool false, y], H ++ js, []) ∧ BigS z 4 (H ++ js) (.agg [.bool false, y]) ∧ Good (H ++ js) := by
  obtain ⟨r, js, e, b, hG, _⟩ := Of_c (z := z) (by omega) z1 hg
  obtain ⟨y, L, rfl, u⟩ := id b
  rw [decF z0] at e b
  exact ⟨y, js, e, by rw [BigS, decF z0]; exact b, hG⟩
theorem bigP {S : Int} {k : Nat} {H : AHeap} {r : AV} (b : BigS S k H r) (h0 : 0 ≤ S) : ∃ y L, r = .agg [.bool false, y] ∧ UV H y L ∧ val L = S ∧ Can L ∧ L.length ≤ k := by
  obtain ⟨y, L, e, u, w, c, l⟩ := b
  rw [decF h0] at e
  rw [aNp h0] at w
  exact ⟨y, L, e, u, w, c, l⟩
theorem mkP_ {S : Int} {k : Nat} {H : AHeap} {y : AV} {L : List Int} (h0 : 0 ≤ S) (u : UV H y L) (w : val L = S) (c : Can L) (l : L.length ≤ k) : BigS S k H (.agg [.bool false, y]) := ⟨y, L, by rw [decF h0], u, by rw [aNp h0]; exact w, c, l⟩
set_option maxHeartbeats 32000000 in
theorem refJumps_ok {s : Sp} (hg : Good h) (a : RefAt h p F q v n) (hm : mayS s.1 s.2.1 s.2.2 = true) (hc : canL F s.1) (h3 : 3 ≤ F.L.length) : W CP 85 [.ptr p 0, spV s] h = some (.bool (jmpB F s), h, []) := by
  obtain ⟨x, y, z⟩ := s
  simp only at hc hm
  have hmm := mayS_iff.1 hm
  have hat : atO F x = atR F x := if_pos hc
  have hbo : bestO F x = (bestS (ageL F x), true) := if_pos hc
  have hjo : jitO F x = jitF F x := if_pos hc
  have hn0 : ¬ atR F x < 0 := by unfold atR; omega
  have h3' : ¬ (F.L.length : Int) < 3 := by omega
  have lv := a.row.len
  have nv := a.row.na
  rw [List.length_reverse] at lv
  have hg1 : Good (h ++ [⟨.tip false, .ints .i64 [x, y, z]⟩]) := good_app hg rfl
  have a1 := a.app [⟨.tip false, .ints .i64 [x, y, z]⟩]
  have eB := refBest_c (raw := x) hg1 a1
  rw [hat, hbo] at eB
  obtain ⟨_, _, r3, r4, r5, r6⟩ := a.rul
  have hne : ageL F x ≠ [] := ageL_ne hc
  have hbm : bestS (ageL F x) ∈ ageL F x := List.mem_of_getElem? (bestS_at hne)
  have hwb := ageL_wS r3 r4 r5 r6 hc.2 _ hbm
  obtain ⟨u0, hu0, hu1⟩ := List.mem_map.1 hbm
  have hbk := age_ok r3 r4 r5 r6 (hc.2 u0 hu0)
  rw [hu1] at hbk
  have hbi := mayS_iff.1 hbk.1
  have hws : wS (x, y, z) = z - y := by unfold wS widS; rw [if_pos hm]
  have hj := jitF_in F x
  have hap := apS_in (x, y, z) (bestS (ageL F x))
  have eP := fun g => refApart_c (x, y, z) (bestS (ageL F x)) g
  unfold jmpB
  simp only
  rw [hws, hwb]
  clear hu1 hbm hne hwb hbo hat
  obtain ⟨B, hB⟩ : ∃ B, bestS (ageL F x) = B := ⟨_, rfl⟩
  rw [hB] at eB hbk hbi hap eP ⊢
  obtain ⟨b1, b2, b3⟩ := B
  simp only at hbi hbk
  obtain ⟨D, hD⟩ : ∃ D, apS (x, y, z) (b1, b2, b3) = D := ⟨_, rfl⟩
  rw [hD] at eP hap ⊢
  have w1 : IntKind.i64.wrap (z - y) = z - y := wr_i64 _ (by omega) (by omega)
  have w2 : IntKind.i64.wrap (b3 - b2) = b3 - b2 := wr_i64 _ (by omega) (by omega)
  have hp1 : 0 ≤ z - y ∧ z - y ≤ 4611686018427387904 := by omega
  have hp2 : 0 ≤ b3 - b2 ∧ b3 - b2 ≤ 4611686018427387904 := by omega
  obtain ⟨P1, hP1⟩ : ∃ D, z - y = D := ⟨_, rfl⟩
  obtain ⟨P2, hP2⟩ : ∃ D, b3 - b2 = D := ⟨_, rfl⟩
  have w1' : IntKind.i64.wrap (z - y) = P1 := by rw [w1, hP1]
  have w2' : IntKind.i64.wrap (b3 - b2) = P2 := by rw [w2, hP2]
  rw [hP1] at hp1 ⊢
  rw [hP2] at hp2 ⊢
  clear w1 w2
  have eJ0 := fun (g : AHeap) (hG : Good g) (k : Keeps h g none) => refJit_c (raw := x) hG (a.kept k)
  simp only [hjo] at eJ0
  obtain ⟨J, hJ⟩ : ∃ J, jitF F x = J := ⟨_, rfl⟩
  rw [hJ] at hj ⊢
  simp only [hJ] at eJ0
  -- the heaps
  have bp := a1.blk
  obtain ⟨G1, hG1⟩ : ∃ G, h ++ [(⟨.tip false, .ints .i64 [x, y, z]⟩ : ABlk)] = G := ⟨_, rfl⟩
  have k1 : Keeps h G1 none := by rw [← hG1]; exact Keeps.app h [⟨.tip false, .ints .i64 [x, y, z]⟩] none rfl
  rw [hG1] at eB bp
  have c1 : G1[h.length]? = some ⟨.tip false, .ints .i64 [x, y, z]⟩ := by rw [← hG1]; exact fend _ _ _
  have c1l := (List.getElem?_eq_some_iff.1 c1).1
  have hlen : G1.length = h.length + 1 := by rw [← hG1]; simp
  have hlo : ¬ G1.length < h.length := by omega
  obtain ⟨G2, hG2⟩ : ∃ G, G1 ++ [(⟨.tip false, .ints .i64 [b1, b2, b3]⟩ : ABlk)] = G := ⟨_, rfl⟩
  have k12 : Keeps G1 G2 none := by rw [← hG2]; exact Keeps.app G1 [⟨.tip false, .ints .i64 [b1, b2, b3]⟩] none rfl
  have k2 := keepsT k1 k12
  have bp2 := keepsN k12 _ _ bp
  have bp2l := (List.getElem?_eq_some_iff.1 bp2).1
  have s2 := keepsN k12 _ _ c1
  have t2 : G2[G1.length]? = some ⟨.tip false, .ints .i64 [b1, b2, b3]⟩ := by rw [← hG2]; exact fend _ _ _
  have t2l := (List.getElem?_eq_some_iff.1 t2).1
  obtain ⟨y3, j3, e3, B3, hg3⟩ := OfP (z := 3) (k2.2.2 hg) (by omega) (by omega)
  have k23 : Keeps G2 (G2 ++ j3) none := keepsG hg3
  obtain ⟨G3, hG3⟩ : ∃ G, G2 ++ j3 = G := ⟨_, rfl⟩
  rw [hG3] at e3 B3 hg3 k23
  have k3 := keepsT k2 k23
  have s3 := keepsN k23 _ _ s2
  have s3l := (List.getElem?_eq_some_iff.1 s3).1
  have t3 := keepsN k23 _ _ t2
  have eJ := eJ0 G3 hg3 k3
  obtain ⟨y4, j4, e4, B4, hg4⟩ := OfP (z := J) hg3 hj.1 (by omega)
  have k34 : Keeps G3 (G3 ++ j4) none := keepsG hg4
  obtain ⟨G4, hG4⟩ : ∃ G, G3 ++ j4 = G := ⟨_, rfl⟩
  rw [hG4] at e4 B4 hg4 k34
  obtain ⟨_, L3, E3, u3, w3, cn3, l3⟩ := bigP B3 (by omega)
  cases E3
  obtain ⟨_, L4, E4, u4, w4, cn4, l4⟩ := bigP B4 hj.1
  cases E4
  have n3 := u3.na
  have i3 := u3.cell
  have n4 := u4.na
  have i4 := u4.cell
  obtain ⟨r5, j5, e5, B5, hg5, _⟩ := Times_c hg4 (mkP_ (S := 3) (by omega) (u3.keep (keepsN k34)) w3 cn3 l3) B4 (by decide) (by decide)
  have k45 : Keeps G4 (G4 ++ j5) none := keepsG hg5
  obtain ⟨G5, hG5⟩ : ∃ G, G4 ++ j5 = G := ⟨_, rfl⟩
  rw [hG5] at e5 B5 hg5 k45
  obtain ⟨y5, L5, rfl, u5, w5, cn5, l5⟩ := bigP B5 (by omega)
  have n5 := u5.na
  have i5 := u5.cell
  have k5 := keepsT k3 (keepsT k34 k45)
  have s5 := keepsN k45 _ _ (keepsN k34 _ _ s3)
  have t5 := keepsN k45 _ _ (keepsN k34 _ _ t3)
  obtain ⟨G6, hG6⟩ : ∃ G, G5 ++ [(⟨.tip false, .vals [.bool false, y5]⟩ : ABlk)] = G := ⟨_, rfl⟩
  have k56 : Keeps G5 G6 none := by rw [← hG6]; exact Keeps.app G5 [⟨.tip false, .vals [.bool false, y5]⟩] none rfl
  have k6 := keepsT k5 k56
  have hg6 := k6.2.2 hg
  have m6 : G6[G5.length]? = some ⟨.tip false, .vals [.bool false, y5]⟩ := by rw [← hG6]; exact fend _ _ _
  have m6l := (List.getElem?_eq_some_iff.1 m6).1
  have s6 := keepsN k56 _ _ s5
  have t6 := keepsN k56 _ _ t5
  have s6l := (List.getElem?_eq_some_iff.1 s6).1
  have t6l := (List.getElem?_eq_some_iff.1 t6).1
  have hT : ¬ G5.length < h.length := by have := k5.2.1; omega
  have hTs : G5.length ≠ h.length := by have := (List.getElem?_eq_some_iff.1 s5).1; omega
  have hTt : G5.length ≠ G1.length := by have := (List.getElem?_eq_some_iff.1 t5).1; omega
  have hr2 : ¬ G2.length ≤ h.length := by omega
  have u6 := u5.keep (keepsN k56)
  -- and the width of the one
  obtain ⟨y7, j7, e7, B7, hg7⟩ := OfP (z := P1) hg6 hp1.1 (by omega)
  have k67 : Keeps G6 (G6 ++ j7) none := keepsG hg7
  obtain ⟨G7, hG7⟩ : ∃ G, G6 ++ j7 = G := ⟨_, rfl⟩
  rw [hG7] at e7 B7 hg7 k67
  obtain ⟨_, L7, E7, u7, w7, cn7, l7⟩ := bigP B7 hp1.1
  cases E7
  have n7 := u7.na
  have i7 := u7.cell
  obtain ⟨r8, j8, e8, B8, hg8, _⟩ := Plus_c hg7 (mkP_ (S := 3 * J) (by omega) (u6.keep (keepsN k67)) w5 cn5 l5) B7 (by decide) (by decide)
  have k78 : Keeps G7 (G7 ++ j8) none := keepsG hg8
  obtain ⟨G8, hG8⟩ : ∃ G, G7 ++ j8 = G := ⟨_, rfl⟩
  rw [hG8] at e8 B8 hg8 k78
  obtain ⟨y8, L8, rfl, u8, w8, cn8, l8⟩ := bigP B8 (by omega)
  have n8 := u8.na
  have i8 := u8.cell
  have m8 := keepsN k78 _ _ (keepsN k67 _ _ m6)
  have m8l := (List.getElem?_eq_some_iff.1 m8).1
  have k8 := keepsT k6 (keepsT k67 k78)
  obtain ⟨G9, hG9⟩ : ∃ G, G8.set G5.length ⟨.tip false, .vals [.bool false, y8]⟩ = G := ⟨_, rfl⟩
  have k9 : Keeps h G9 none := by rw [← hG9]; exact keepsS k8 (by omega) rfl
  have hg9 := k9.2.2 hg
  have m9 : G9[G5.length]? = some ⟨.tip false, .vals [.bool false, y8]⟩ := by rw [← hG9]; exact List.getElem?_set_self m8l
  have m9l := (List.getElem?_eq_some_iff.1 m9).1
  have s9 : G9[h.length]? = some ⟨.tip false, .ints .i64 [x, y, z]⟩ := by rw [← hG9, List.getElem?_set_ne hTs]; exact keepsN k78 _ _ (keepsN k67 _ _ s6)
  have s9l := (List.getElem?_eq_some_iff.1 s9).1
  have t9 : G9[G1.length]? = some ⟨.tip false, .ints .i64 [b1, b2, b3]⟩ := by rw [← hG9, List.getElem?_set_ne hTt]; exact keepsN k78 _ _ (keepsN k67 _ _ t6)
  have t9l := (List.getElem?_eq_some_iff.1 t9).1
  have u9 : UV G9 y8 L8 := by rw [← hG9]; exact UV.setv m8 u8
  have hr6 : ¬ G6.length ≤ G5.length := by omega
  have hr9 : ¬ G9.length ≤ G5.length := by omega
  -- and of the other
  obtain ⟨yA, jA, eA, BA, hgA⟩ := OfP (z := P2) hg9 hp2.1 (by omega)
  have k9A : Keeps G9 (G9 ++ jA) none := keepsG hgA
  obtain ⟨GA, hGA⟩ : ∃ G, G9 ++ jA = G := ⟨_, rfl⟩
  rw [hGA] at eA BA hgA k9A
  obtain ⟨_, LA, EA, uA, wA, cnA, lA⟩ := bigP BA hp2.1
  cases EA
  have nA := uA.na
  have iA := uA.cell
  obtain ⟨rB, jB, eBB, BB, hgB, _⟩ := Plus_c hgA (mkP_ (S := 3 * J + P1) (by omega) (u9.keep (keepsN k9A)) w8 cn8 l8) BA (by decide) (by decide)
  have kAB : Keeps GA (GA ++ jB) none := keepsG hgB
  obtain ⟨GB, hGB⟩ : ∃ G, GA ++ jB = G := ⟨_, rfl⟩
  rw [hGB] at eBB BB hgB kAB
  obtain ⟨yB, LB, rfl, uB, wB, cnB, lB⟩ := bigP BB (by omega)
  have nB := uB.na
  have iB := uB.cell
  have mB := keepsN kAB _ _ (keepsN k9A _ _ m9)
  have mBl := (List.getElem?_eq_some_iff.1 mB).1
  obtain ⟨GC, hGC⟩ : ∃ G, GB.set G5.length ⟨.tip false, .vals [.bool false, yB]⟩ = G := ⟨_, rfl⟩
  have kC : Keeps h GC none := by rw [← hGC]; exact keepsS (keepsT k9 (keepsT k9A kAB)) (by omega) rfl
  have hgC := kC.2.2 hg
  have mC : GC[G5.length]? = some ⟨.tip false, .vals [.bool false, yB]⟩ := by rw [← hGC]; exact List.getElem?_set_self mBl
  have mCl := (List.getElem?_eq_some_iff.1 mC).1
  have sC : GC[h.length]? = some ⟨.tip false, .ints .i64 [x, y, z]⟩ := by rw [← hGC, List.getElem?_set_ne hTs]; exact keepsN kAB _ _ (keepsN k9A _ _ s9)
  have sCl := (List.getElem?_eq_some_iff.1 sC).1
  have tC : GC[G1.length]? = some ⟨.tip false, .ints .i64 [b1, b2, b3]⟩ := by rw [← hGC, List.getElem?_set_ne hTt]; exact keepsN kAB _ _ (keepsN k9A _ _ t9)
  have tCl := (List.getElem?_eq_some_iff.1 tC).1
  have uC : UV GC yB LB := by rw [← hGC]; exact UV.setv mB uB
  have hrC : ¬ GC.length ≤ G5.length := by omega
  -- and how far they are apart
  obtain ⟨yD, jD, eD, BD, hgD⟩ := OfP (z := D) hgC hap.1 (by omega)
  have kCD : Keeps GC (GC ++ jD) none := keepsG hgD
  obtain ⟨GD, hGD⟩ : ∃ G, GC ++ jD = G := ⟨_, rfl⟩
  rw [hGD] at eD BD hgD kCD
  obtain ⟨_, LD, ED, uD, wD, cnD, lD⟩ := bigP BD hap.1
  cases ED
  have nD := uD.na
  have iD := uD.cell
  have eL := Less_c hgD (uC.keep (keepsN kCD)) uD cnB cnD (by omega) (by omega)
  rw [wB, wD] at eL
  rw [show P1 + P2 + 3 * J = 3 * J + P1 + P2 by omega]
  obtain ⟨R, hR⟩ : ∃ R, decide (3 * J + P1 + P2 < D) = R := ⟨_, rfl⟩
  rw [hR] at eL ⊢
  obtain ⟨js, hj⟩ := (keepsT kC kCD).behind
  refine W_quietP (m := M85) rfl rfl (by simp [AV.lts, AV.lt]) rfl rfl hg ?_
  have hset : ∀ X : ABlk, (G5 ++ [X]).set G5.length ⟨.tip false, .vals [.bool false, y5]⟩ = G6 := fun X => by
    rw [List.set_append_right _ _ (Nat.le_refl _), Nat.sub_self]; exact hG6
  have hset1 : ∀ X : ABlk, (G1 ++ [X]).set G1.length ⟨.tip false, .ints .i64 [b1, b2, b3]⟩ = G2 := fun X => by
    rw [List.set_append_right _ _ (Nat.le_refl _), Nat.sub_self]; exact hG2
  simp (maxDischargeDepth := 9) -implicitDefEqProofs only [push_cast, simprocAttr, M85, nadd1, nadd2, nadd3, nadd4, nadd5, nadd6, nadd7, nadd8, nadd9, nadd10, nadd11, nadd12, ABlk.new, hG1, c1, c1l, eB, hn0, hlo, hset1, hG2, bp2, bp2l, nv, lv, h3', e3, n3, i3, s3, s3l, eJ, e4, n4, i4, e5, n5, i5, hset, hG6, hT, m6, m6l, s6, s6l, w1', e7, n7, i7, e8, n8, i8, m8, m8l, hG9, m9, m9l, t9, t9l, w2', eA, nA, iA, eBB, nB, iB, mB, mBl, hGC, mC, mCl, sC, sCl, tC, tCl, eP, eD, nD, iD, eL, hr2, hr6, hr9, hrC, decide_false, Bool.not_false, Bool.and_true]
  exact ⟨rfl, ⟨js, hj⟩, rfl⟩
theorem refJumps_any {s : Sp} (hg : Good h) (a : RefAt h p F q v n) (hm : mayS s.1 s.2.1 s.2.2 = true) : ∃ b : Bool, (b = true ↔ jmpF F s) ∧ W CP 85 [.ptr p 0, spV s] h = some (.bool b, h, []) := by
  by_cases c : canL F s.1 ∧ 3 ≤ F.L.length
  · exact ⟨jmpB F s, ⟨fun e => ⟨c.1, c.2, e⟩, fun e => e.2.2⟩, refJumps_ok hg a hm c.1 c.2⟩
  · exact ⟨false, ⟨(fun e => by cases e), (fun e => absurd ⟨e.1, e.2.1⟩ c)⟩, refJumps_no hg a (by
      by_cases c1 : canL F s.1
      · exact Or.inr (by have : ¬ 3 ≤ F.L.length := fun e => c ⟨c1, e⟩; omega)
      · exact Or.inl c1)⟩
end
end Go.Proofs.YthcjmmngenogmaaW.AI.E
