import Derived.Test.YtpmibaeajmfdpaaDoorAIHparse
import Derived.Test.YtpmibaeajmfdpaaDoorAIHhputs
namespace Go.Proofs.YtpmibaeajmfdpaaDoorW.AI.H
open Go Go.Proofs.YtpmibaeajmfdpaaDoorW.AI Go.Proofs.YtpmibaeajmfdpaaDoorW.AI.Oct
set_option maxRecDepth 100000
set_option linter.unusedSimpArgs false
set_option linter.unusedVariables false
set_option linter.unusedSectionVars false
theorem arg_bytes {g : AHeap} {v : AV} (hv : Ty g (.sl [.i .u8]) v) : v = .nils ∨ ∃ b c L, v = .sl b 0 L.length c ∧ L.length ≤ c ∧ L.length ≤ 9223372036854775807 ∧ g[b]? = some ⟨.ext, .ints .u8 L⟩ ∧ Byt L := by
  obtain ⟨es, hs, he⟩ := Ty_sl hv
  have hle := hs.le
  rcases hs with ⟨rfl, _⟩ | ⟨b, c, rfl, g1, g2, g3, g4⟩
  · exact Or.inl rfl
  · have hl := flat_len (l := [CK.i .u8]) fun e h' => (TyL_lt (he e h')).2.2
    have hl1 : (es.flatten.map toI).length = es.length := by rw [List.length_map, hl]; simp
    refine Or.inr ⟨b, c, es.flatten.map toI, by rw [hl1], by omega, by omega, g4, ?_⟩
    intro x hx
    obtain ⟨a, ha, rfl⟩ := List.mem_map.1 hx
    obtain ⟨e, h1, h2⟩ := List.mem_flatten.1 ha
    have := he e h1
    simp only [TyL, Ty] at this
    obtain ⟨v, vs, rfl, ⟨n, rfl, n1, n2⟩, rfl⟩ := this
    simp only [List.mem_singleton] at h2
    subst h2
    have a : 0 ≤ n := n1
    have b : n ≤ 255 := n2
    exact ⟨a, by show n < 256; omega⟩
theorem src_take {g : AHeap} {b c : Nat} {L : List Int} (h : g[b]? = some ⟨.ext, .ints .u8 L⟩) (hB : Byt L) (hc : L.length ≤ c) {m : Nat} (hm : m ≤ L.length) : Src g (.sl b 0 m c) (L.take m) ∧ (L.take m).length = m := by
  have hl : (L.take m).length = m := by rw [List.length_take]; omega
  exact ⟨⟨fun z hz => hB z (List.mem_of_mem_take hz), b, 0, c, .ext, L, h, Or.inl rfl, by omega, by simp, Or.inl ⟨by rw [hl], by omega⟩⟩, hl⟩
theorem zero_same {h : AHeap} (hg : Good h) : W CP 13 [.agg [.int .u8 0, .int .u8 0, .int .u8 0, .int .u8 0, .int .i8 0, .int .i8 0, .int .u32 0, .int .u32 0, .int .u32 0, .int .u64 0, .int .u64 0, .int .u64 0, .int .u64 0, .nils, .bool false, .int .u32 0, .int .u64 0], .agg [.int .u8 0, .int .u8 0, .int .u8 0, .int .u8 0, .int .i8 0, .int .i8 0, .int .u32 0, .int .u32 0, .int .u32 0, .int .u64 0, .int .u64 0, .int .u64 0, .int .u64 0, .nils, .bool false, .int .u32 0, .int .u64 0]] h = some (.bool true, h, []) := by
  rw [refSame_c rfl rfl (by omega) (by omega) (by omega) (by omega) (by omega) (by omega) (by omega) (by omega) (by omega) (by omega) (by omega) (by omega) (by omega) (by omega) (by omega) (by omega) (by omega) (by omega) (by omega) (by omega) (by omega) (by omega) (by omega) (by omega) (by omega) (by omega) (by omega) (by omega) (by omega) (by omega) (by omega) (by omega) (by omega) (by omega) (by omega) (by omega) (by omega) (by omega) (by omega) (by omega) (by omega) (by omega) (by omega) (by omega) (by omega) (by omega) (by omega) (by omega) (by omega) (by omega) (by omega) (by omega) hg]
  rfl
set_option maxHeartbeats 4000000 in
theorem parses_quick {g : AHeap} (hg : Good g) (ha : At0 g) {b c m : Nat} {L : List Int} {E : Int} {z0 : Bool} (hz : (m == 0) = z0) (hL : g[b]? = some ⟨.ext, .ints .u8 L⟩) (hB : Byt L) (hc : L.length ≤ c) (hm : m ≤ L.length) (h2 : m ≤ 200) (hmin : (if (200 : Int) < (L.length : Int) then (200 : Int) else (L.length : Int)) = (m : Int))
    (eP : W CP 15 [.gsl g.length 0 m 1 z0] (g ++ [⟨.tip false, .ints .u8 (L.take m)⟩]) = some (.tup [.agg [.int .u8 0, .int .u8 0, .int .u8 0, .int .u8 0, .int .i8 0, .int .i8 0, .int .u32 0, .int .u32 0, .int .u32 0, .int .u64 0, .int .u64 0, .int .u64 0, .int .u64 0, .nils, .bool false, .int .u32 0, .int .u64 0], .nils, .int .i64 E], g ++ [⟨.tip false, .ints .u8 (L.take m)⟩], []))
    (eR : W CP 16 [.sl b 0 m c] (g ++ [⟨.tip false, .ints .u8 (L.take m)⟩, ⟨.tip false, .vals [.int .u8 0, .int .u8 0, .int .u8 0, .int .u8 0, .int .i8 0, .int .i8 0, .int .u32 0, .int .u32 0, .int .u32 0, .int .u64 0, .int .u64 0, .int .u64 0, .int .u64 0, .nils, .bool false, .int .u32 0, .int .u64 0]⟩]) = some (.tup [.agg [.int .u8 0, .int .u8 0, .int .u8 0, .int .u8 0, .int .i8 0, .int .i8 0, .int .u32 0, .int .u32 0, .int .u32 0, .int .u64 0, .int .u64 0, .int .u64 0, .int .u64 0, .nils, .bool false, .int .u32 0, .int .u64 0], .nils, .int .i64 E], g ++ [⟨.tip false, .ints .u8 (L.take m)⟩, ⟨.tip false, .vals [.int .u8 0, .int .u8 0, .int .u8 0, .int .u8 0, .int .i8 0, .int .i8 0, .int .u32 0, .int .u32 0, .int .u32 0, .int .u64 0, .int .u64 0, .int .u64 0, .int .u64 0, .nils, .bool false, .int .u32 0, .int .u64 0]⟩], [])) :
    Wp (xbody (W CP) M4 [.sl b 0 L.length c] g) fun r => r.1 = .bool true := by
  obtain ⟨hs, hl⟩ := src_take (c := c) hL hB hc hm
  have hmc : m ≤ c := by omega
  have hn : newCells g (.ints .u8 [0]) (.sl b 0 m c) = some (.ints .u8 (L.take m)) := hs.bytAt.2.1
  have ea := app_nils (H := g) (X := L.take m) (n := m) (by omega)
  rw [hz] at ea
  have eS := zero_same (good_app (js := [⟨.tip false, .ints .u8 (L.take m)⟩, ⟨.tip false, .vals [.int .u8 0, .int .u8 0, .int .u8 0, .int .u8 0, .int .i8 0, .int .i8 0, .int .u32 0, .int .u32 0, .int .u32 0, .int .u64 0, .int .u64 0, .int .u64 0, .int .u64 0, .nils, .bool false, .int .u32 0, .int .u64 0]⟩, ⟨.tip false, .vals [.int .u8 0, .int .u8 0, .int .u8 0, .int .u8 0, .int .i8 0, .int .i8 0, .int .u32 0, .int .u32 0, .int .u32 0, .int .u64 0, .int .u64 0, .int .u64 0, .int .u64 0, .nils, .bool false, .int .u32 0, .int .u64 0]⟩]) hg rfl)
  have aw := fun h => law04_alive h
  have hbl := (List.getElem?_eq_some_iff.1 hL).1
  have hm1 : m * 1 ≤ L.length := by omega
  have hm2 : ¬ L.length < m := by omega
  simp (maxDischargeDepth := 9) -implicitDefEqProofs only [push_cast, reduceIte, Nat.reduceEqDiff, Nat.reduceAdd, Nat.reduceSub, Nat.reduceMul, Nat.reduceDiv, Nat.reduceMod, Nat.reduceLT, Nat.reduceLeDiff, Nat.reduceBEq, Nat.reduceBNe, reduceCtorEq, Int.reduceEq, Int.reduceNe, Int.reduceLT, Int.reduceLE, Int.reduceToNat, Int.reduceNeg, Int.reduceAdd, Int.reduceSub, Int.reduceMul, Int.reducePow, Nat.reducePow, Int.reduceBEq, M4, nadd1, nadd2, nadd3, nadd4, nadd5, nadd6, nadd7, nadd8, nadd9, nadd10, nadd11, nadd12, hmin, hmc, hn, ea, eP, eR, hl]
  refine wp_kRes (wp_kSeq (wp_kBlock ?_))
  refine wp_loop (fun k aa h' ws => ∃ z, aa = [(0, .sl b 0 m c), (3, .gsl g.length 0 m 1 z0), (4, .ptr (g.length + 1) 0), (5, .nils), (6, .int .i64 E), (7, .ptr (g.length + 2) 0), (8, .nils), (9, .int .i64 E), (10, z)] ∧ z = .int .i64 0 ∧ h' = g ++ [⟨.tip false, .ints .u8 (L.take m)⟩, ⟨.tip false, .vals [.int .u8 0, .int .u8 0, .int .u8 0, .int .u8 0, .int .i8 0, .int .i8 0, .int .u32 0, .int .u32 0, .int .u32 0, .int .u64 0, .int .u64 0, .int .u64 0, .int .u64 0, .nils, .bool false, .int .u32 0, .int .u64 0]⟩, ⟨.tip false, .vals [.int .u8 0, .int .u8 0, .int .u8 0, .int .u8 0, .int .i8 0, .int .i8 0, .int .u32 0, .int .u32 0, .int .u32 0, .int .u64 0, .int .u64 0, .int .u64 0, .int .u64 0, .nils, .bool false, .int .u32 0, .int .u64 0]⟩] ∧ ws = []) 1 ?_ ?_
  · refine ⟨_, ?_, rfl, rfl, rfl⟩
    simp (maxDischargeDepth := 9) -implicitDefEqProofs only [push_cast, reduceIte, Nat.reduceEqDiff, Nat.reduceAdd, Nat.reduceSub, Nat.reduceMul, Nat.reduceDiv, Nat.reduceMod, Nat.reduceLT, Nat.reduceLeDiff, Nat.reduceBEq, Nat.reduceBNe, reduceCtorEq, Int.reduceEq, Int.reduceNe, Int.reduceLT, Int.reduceLE, Int.reduceToNat, Int.reduceNeg, Int.reduceAdd, Int.reduceSub, Int.reduceMul, Int.reducePow, Nat.reducePow, Int.reduceBEq]
  · rintro k aa h' ws ⟨z, rfl, rfl, rfl, rfl⟩
    have hst : sliceCells (g ++ [⟨.tip false, .ints .u8 (L.take m)⟩, ⟨.tip false, .vals [.int .u8 0, .int .u8 0, .int .u8 0, .int .u8 0, .int .i8 0, .int .i8 0, .int .u32 0, .int .u32 0, .int .u32 0, .int .u64 0, .int .u64 0, .int .u64 0, .int .u64 0, .nils, .bool false, .int .u32 0, .int .u64 0]⟩, ⟨.tip false, .vals [.int .u8 0, .int .u8 0, .int .u8 0, .int .u8 0, .int .i8 0, .int .i8 0, .int .u32 0, .int .u32 0, .int .u32 0, .int .u64 0, .int .u64 0, .int .u64 0, .int .u64 0, .nils, .bool false, .int .u32 0, .int .u64 0]⟩]) 1 (.gsl g.length 0 m 1 z0) = some (.ints .u8 (L.take m)) := by
      have := (bytAt_gsl (h := g ++ [⟨.tip false, .ints .u8 (L.take m)⟩, ⟨.tip false, .vals [.int .u8 0, .int .u8 0, .int .u8 0, .int .u8 0, .int .i8 0, .int .i8 0, .int .u32 0, .int .u32 0, .int .u32 0, .int .u64 0, .int .u64 0, .int .u64 0, .int .u64 0, .nils, .bool false, .int .u32 0, .int .u64 0]⟩, ⟨.tip false, .vals [.int .u8 0, .int .u8 0, .int .u8 0, .int .u8 0, .int .i8 0, .int .i8 0, .int .u32 0, .int .u32 0, .int .u32 0, .int .u64 0, .int .u64 0, .int .u64 0, .int .u64 0, .nils, .bool false, .int .u32 0, .int .u64 0]⟩]) (b := g.length) (o := 0) (n := m) (m := z0) (st := .tip false) (l := L.take m) (behind_get _ _ _) (by simp) (by omega) (by rw [List.drop_zero, List.take_take, Nat.min_self]; exact hs.1)).2.1
      rwa [List.drop_zero, List.take_take, Nat.min_self] at this
    have hst2 : sliceCells (g ++ [⟨.tip false, .ints .u8 (L.take m)⟩, ⟨.tip false, .vals [.int .u8 0, .int .u8 0, .int .u8 0, .int .u8 0, .int .i8 0, .int .i8 0, .int .u32 0, .int .u32 0, .int .u32 0, .int .u64 0, .int .u64 0, .int .u64 0, .int .u64 0, .nils, .bool false, .int .u32 0, .int .u64 0]⟩, ⟨.tip false, .vals [.int .u8 0, .int .u8 0, .int .u8 0, .int .u8 0, .int .i8 0, .int .i8 0, .int .u32 0, .int .u32 0, .int .u32 0, .int .u64 0, .int .u64 0, .int .u64 0, .int .u64 0, .nils, .bool false, .int .u32 0, .int .u64 0]⟩]) 1 (.sl b 0 m c) = some (.ints .u8 (L.take m)) := (hs.app _).bytAt.2.1
    simp (maxDischargeDepth := 9) -implicitDefEqProofs only [push_cast, reduceIte, Nat.reduceEqDiff, Nat.reduceAdd, Nat.reduceSub, Nat.reduceMul, Nat.reduceDiv, Nat.reduceMod, Nat.reduceLT, Nat.reduceLeDiff, Nat.reduceBEq, Nat.reduceBNe, reduceCtorEq, Int.reduceEq, Int.reduceNe, Int.reduceLT, Int.reduceLE, Int.reduceToNat, Int.reduceNeg, Int.reduceAdd, Int.reduceSub, Int.reduceMul, Int.reducePow, Nat.reducePow, Int.reduceBEq, nadd1, nadd2, nadd3, nadd4, nadd5, nadd6, nadd7, nadd8, nadd9, nadd10, nadd11, nadd12, eS, aw, hst, hst2, bytesOf_sb]
theorem i8_range (v : Int) : -128 ≤ IntKind.i8.wrap v ∧ IntKind.i8.wrap v ≤ 127 := by
  simp only [IntKind.wrap, IntKind.bits, IntKind.signed]
  simp
  split <;> omega
theorem pk_same {h : AHeap} {D : List Int} {v0 v1 v2 v3 v4 v5 v6 v7 v8 v9 v10 : Int} (hg : Good h) (hv : HV D v0 v1 v2 v3 v4 v5 v6 v7 v8 v9 v10) : W CP 13 [.agg [.int .u8 (v0 / 64), .int .u8 (v0 / 8 % 8), .int .u8 (v0 % 8), .int .u8 v1, .int .i8 (IntKind.i8.wrap v2), .int .i8 (IntKind.i8.wrap v3), .int .u32 v4, .int .u32 v5, .int .u32 v6, .int .u64 v7, .int .u64 v8, .int .u64 v9, .int .u64 v10, .nils, .bool false, .int .u32 0, .int .u64 0], .agg [.int .u8 (v0 / 64), .int .u8 (v0 / 8 % 8), .int .u8 (v0 % 8), .int .u8 v1, .int .i8 (IntKind.i8.wrap v2), .int .i8 (IntKind.i8.wrap v3), .int .u32 v4, .int .u32 v5, .int .u32 v6, .int .u64 v7, .int .u64 v8, .int .u64 v9, .int .u64 v10, .nils, .bool false, .int .u32 0, .int .u64 0]] h = some (.bool true, h, []) := by
  have hgt := hv.bounds
  obtain ⟨⟨p0, q0⟩, ⟨p1, q1⟩, ⟨p2, q2⟩, ⟨p3, q3⟩, ⟨p4, q4⟩, ⟨p5, q5⟩, ⟨p6, q6⟩, ⟨p7, q7⟩, ⟨p8, q8⟩, ⟨p9, q9⟩, ⟨p10, q10⟩⟩ := hgt
  obtain ⟨r2, r2'⟩ := i8_range v2
  obtain ⟨r3, r3'⟩ := i8_range v3
  rw [refSame_c rfl rfl (by omega) (by omega) (by omega) (by omega) (by omega) (by omega) (by omega) (by omega) (by omega) (by omega) (by omega) (by omega) (by omega) (by omega) (by omega) (by omega) (by omega) (by omega) (by omega) (by omega) (by omega) (by omega) (by omega) (by omega) (by omega) (by omega) (by omega) (by omega) (by omega) (by omega) (by omega) (by omega) (by omega) (by omega) (by omega) (by omega) (by omega) (by omega) (by omega) (by omega) (by omega) (by omega) (by omega) (by omega) (by omega) (by omega) (by omega) (by omega) (by omega) (by omega) (by omega) (by omega) hg]
  simp only [sameH, beq_self_eq_true, Bool.and_self]
set_option maxHeartbeats 8000000 in
theorem parses_long {g : AHeap} (hg : Good g) (ha : At0 g) {b c m : Nat} {L D : List Int} {v0 v1 v2 v3 v4 v5 v6 v7 v8 v9 v10 : Int} (hL : g[b]? = some ⟨.ext, .ints .u8 L⟩) (hB : Byt L) (hc : L.length ≤ c) (hm : m ≤ L.length) (h2 : m ≤ 200) (hmin : (if (200 : Int) < (L.length : Int) then (200 : Int) else (L.length : Int)) = (m : Int))
    (hD : L.take m = D) (hv : HV D v0 v1 v2 v3 v4 v5 v6 v7 v8 v9 v10) (c1 : 1 ≤ v0 / 8 % 8) (c2 : v0 / 8 % 8 ≤ 4) :
    Wp (xbody (W CP) M4 [.sl b 0 L.length c] g) fun r => r.1 = .bool true := by
  obtain ⟨hs, hl⟩ := src_take (c := c) hL hB hc hm
  rw [hD] at hs hl
  have h48 := hv.l
  have hbl := (List.getElem?_eq_some_iff.1 hL).1
  have hmc : m ≤ c := by omega
  have hn : newCells g (.ints .u8 [0]) (.sl b 0 m c) = some (.ints .u8 D) := hs.bytAt.2.1
  have ea := app_nils (H := g) (X := D) (n := m) (by omega)
  have hm0 : (m == 0) = false := by simp; omega
  rw [hm0] at ea
  have hG0 : Good (g ++ [⟨.tip false, .ints .u8 D⟩]) := good_app hg rfl
  have h00 : (g ++ [(⟨.tip false, .ints .u8 D⟩ : ABlk)])[g.length]? = some ⟨.tip false, .ints .u8 D⟩ := behind_get _ _ _
  have hown : Src (g ++ [⟨.tip false, .ints .u8 D⟩]) (.gsl g.length 0 m 1 false) D := ⟨hv.B, g.length, 0, 0, .tip false, D, h00, Or.inr ⟨false, rfl⟩, by omega, by simp, Or.inr (by rw [hl])⟩
  obtain ⟨rv, js, r, eP, rP, gP, rb, rl⟩ := parse_ok hG0 (ha.app _).1 hown hv (by omega) c1 c2
  obtain ⟨H1, hH1⟩ : ∃ H1, (g ++ [(⟨.tip false, .ints .u8 D⟩ : ABlk)]) ++ js = H1 := ⟨_, rfl⟩
  have a0 : H1[g.length]? = some ⟨.tip false, .ints .u8 D⟩ := by rw [← hH1, List.append_assoc]; exact behind_get _ _ _
  have a1 : g.length < H1.length := (List.getElem?_eq_some_iff.1 a0).1
  have a2 : H1[b]? = some ⟨.ext, .ints .u8 L⟩ := by rw [← hH1, List.append_assoc, List.getElem?_append_left hbl]; exact hL
  rw [hH1] at eP rP gP
  have hy : Src (H1 ++ [⟨.tip false, .vals [.int .u8 (v0 / 64), .int .u8 (v0 / 8 % 8), .int .u8 (v0 % 8), .int .u8 v1, .int .i8 (IntKind.i8.wrap v2), .int .i8 (IntKind.i8.wrap v3), .int .u32 v4, .int .u32 v5, .int .u32 v6, .int .u64 v7, .int .u64 v8, .int .u64 v9, .int .u64 v10, .nils, .bool false, .int .u32 0, .int .u64 0]⟩]) (.sl b 0 m c) D := (by
    obtain ⟨q1, b', o', c', st', l', q2, q3, q4, q5, q6⟩ := hs
    refine Src.app ?_ _
    rcases q6 with ⟨q6, q7⟩ | q6
    · cases q6
      rw [hL] at q2
      cases q2
      exact ⟨q1, b, 0, c, .ext, L, a2, Or.inl rfl, q4, q5, Or.inl ⟨rfl, q7⟩⟩
    · cases q6)
  obtain ⟨lv, ks, q, eR, gR, gG, qb, ql⟩ := refParse_ok (good_app (js := [⟨.tip false, .vals [.int .u8 (v0 / 64), .int .u8 (v0 / 8 % 8), .int .u8 (v0 % 8), .int .u8 v1, .int .i8 (IntKind.i8.wrap v2), .int .i8 (IntKind.i8.wrap v3), .int .u32 v4, .int .u32 v5, .int .u32 v6, .int .u64 v7, .int .u64 v8, .int .u64 v9, .int .u64 v10, .nils, .bool false, .int .u32 0, .int .u64 0]⟩]) gP rfl) hy hv (by omega) c1 c2
  obtain ⟨H3, hH3⟩ : ∃ H3, (H1 ++ [(⟨.tip false, .vals [.int .u8 (v0 / 64), .int .u8 (v0 / 8 % 8), .int .u8 (v0 % 8), .int .u8 v1, .int .i8 (IntKind.i8.wrap v2), .int .i8 (IntKind.i8.wrap v3), .int .u32 v4, .int .u32 v5, .int .u32 v6, .int .u64 v7, .int .u64 v8, .int .u64 v9, .int .u64 v10, .nils, .bool false, .int .u32 0, .int .u64 0]⟩ : ABlk)]) ++ ks = H3 := ⟨_, rfl⟩
  rw [hH3] at eR gR gG
  have low : ∀ i z, H1[i]? = some z → H3[i]? = some z := fun i z hz => by
    rw [← hH3, List.append_assoc, List.getElem?_append_left (List.getElem?_eq_some_iff.1 hz).1]; exact hz
  have b0 := low _ _ a0
  have b2 := low _ _ a2
  have b3 : H3[H1.length]? = some ⟨.tip false, .vals [.int .u8 (v0 / 64), .int .u8 (v0 / 8 % 8), .int .u8 (v0 % 8), .int .u8 v1, .int .i8 (IntKind.i8.wrap v2), .int .i8 (IntKind.i8.wrap v3), .int .u32 v4, .int .u32 v5, .int .u32 v6, .int .u64 v7, .int .u64 v8, .int .u64 v9, .int .u64 v10, .nils, .bool false, .int .u32 0, .int .u64 0]⟩ := by rw [← hH3, List.append_assoc]; exact behind_get _ _ _
  have b4 : H1.length < H3.length := (List.getElem?_eq_some_iff.1 b3).1
  obtain ⟨p, hp, hpk⟩ := rP
  have hpl := (List.getElem?_eq_some_iff.1 hp).1
  have hpg : g.length + 1 ≤ p := by
    rcases hpk with ⟨rfl, _⟩ | rfl <;> (simp only [blkS, Option.some.injEq] at rb; subst rb; simpa using rl)
  have b5 := low _ _ hp
  obtain ⟨n, hn'⟩ : ∃ n, (D.drop 48).length = n := ⟨_, rfl⟩
  have hn2 : n + 48 = m := by rw [List.length_drop] at hn'; omega
  rw [hn'] at hpk
  obtain ⟨R, hR⟩ : ∃ R, D.drop 48 = R := ⟨_, rfl⟩
  rw [hR] at hn' b5 hp hpk gR
  have hnr0 : noAny (some rv) = some rv := by rcases hpk with ⟨rfl, _⟩ | rfl <;> rfl
  have hlr : slen rv = some n := by
    rcases hpk with ⟨rfl, e⟩ | rfl
    · rw [e] at hn'; simp at hn'; subst hn'; rfl
    · rfl
  have hnl0 := na_slen gR.slen
  have hll := gR.slen
  rw [hn'] at hll
  have hqp : ∀ q', blkOf lv = some q' → H1.length + 1 ≤ q' := fun q' e => by rw [qb] at e; cases e; simpa using ql
  have hX : ∀ l' : List Int, Good ((H3 ++ [(⟨.tip false, .vals [.int .u8 (v0 / 64), .int .u8 (v0 / 8 % 8), .int .u8 (v0 % 8), .int .u8 v1, .int .i8 (IntKind.i8.wrap v2), .int .i8 (IntKind.i8.wrap v3), .int .u32 v4, .int .u32 v5, .int .u32 v6, .int .u64 v7, .int .u64 v8, .int .u64 v9, .int .u64 v10, .nils, .bool false, .int .u32 0, .int .u64 0]⟩ : ABlk)]).set p ⟨.tip false, .ints .u8 l'⟩) := fun l' => good_set (good_app gG rfl) rfl
  have hpl3 : p < H3.length := by omega
  have hpk1 : ¬ p = g.length := by omega
  have hpk2 : p ≠ H1.length := by omega
  have hpk3 : p ≠ H3.length := by omega
  have hpb : p ≠ b := by omega
  have hgp : p ≠ g.length := by omega
  have aw := fun h => law04_alive h
  have hm1 : m * 1 ≤ L.length := by omega
  have w1 : ¬ H1.length < g.length := by omega
  have w2 : ¬ H3.length < g.length := by omega
  simp (maxDischargeDepth := 9) -implicitDefEqProofs only [push_cast, reduceIte, Nat.reduceEqDiff, Nat.reduceAdd, Nat.reduceSub, Nat.reduceMul, Nat.reduceDiv, Nat.reduceMod, Nat.reduceLT, Nat.reduceLeDiff, Nat.reduceBEq, Nat.reduceBNe, reduceCtorEq, Int.reduceEq, Int.reduceNe, Int.reduceLT, Int.reduceLE, Int.reduceToNat, Int.reduceNeg, Int.reduceAdd, Int.reduceSub, Int.reduceMul, Int.reducePow, Nat.reducePow, Int.reduceBEq, M4, nadd1, nadd2, nadd3, nadd4, nadd5, nadd6, nadd7, nadd8, nadd9, nadd10, nadd11, nadd12, w1, w2, hmin, hmc, hn, ea, hm0, eP, eR, hnr0, hnl0, a0, a1, b0, b3, b4]
  refine wp_kRes (wp_kSeq (wp_kBlock ?_))
  refine wp_loop (fun k aa h' ws => ∃ i : Nat, k = n - i ∧ i ≤ n ∧ aa = [(0, .sl b 0 m c), (3, .gsl g.length 0 m 1 false), (4, .ptr H1.length 0), (5, rv), (6, .int .i64 0), (7, .ptr H3.length 0), (8, lv), (9, .int .i64 0), (10, .int .i64 (i : Int))] ∧ (∃ l' : List Int, l'.length = n ∧ l'.drop i = R.drop i ∧ h' = (H3 ++ [(⟨.tip false, .vals [.int .u8 (v0 / 64), .int .u8 (v0 / 8 % 8), .int .u8 (v0 % 8), .int .u8 v1, .int .i8 (IntKind.i8.wrap v2), .int .i8 (IntKind.i8.wrap v3), .int .u32 v4, .int .u32 v5, .int .u32 v6, .int .u64 v7, .int .u64 v8, .int .u64 v9, .int .u64 v10, .nils, .bool false, .int .u32 0, .int .u64 0]⟩ : ABlk)]).set p ⟨.tip false, .ints .u8 l'⟩) ∧ ws = []) n ?_ ?_
  · refine ⟨0, by omega, by omega, ?_, ⟨R, hn', rfl, (set_same (by rw [List.getElem?_append_left hpl3]; exact b5)).symm⟩, rfl⟩
    simp (maxDischargeDepth := 9) -implicitDefEqProofs only [push_cast, reduceIte, Nat.reduceEqDiff, Nat.reduceAdd, Nat.reduceSub, Nat.reduceMul, Nat.reduceDiv, Nat.reduceMod, Nat.reduceLT, Nat.reduceLeDiff, Nat.reduceBEq, Nat.reduceBNe, reduceCtorEq, Int.reduceEq, Int.reduceNe, Int.reduceLT, Int.reduceLE, Int.reduceToNat, Int.reduceNeg, Int.reduceAdd, Int.reduceSub, Int.reduceMul, Int.reducePow, Nat.reducePow, Int.reduceBEq, hnr0, hnl0]
  · rintro k aa h' ws ⟨i, rfl, hi, rfl, ⟨l', hl', hdr, rfl⟩, rfl⟩
    have wv1 : IntKind.i64.wrap ((i : Int) + 1) = (i : Int) + 1 := wr_i64 _ (by omega) (by omega)
    by_cases hlt : i < n
    · have hlt' : (i : Int) < (n : Int) := by omega
      have hge : ¬ (n : Int) ≤ (i : Int) := by omega
      rcases hpk with ⟨_, e⟩ | rfl
      · rw [e] at hn'; simp at hn'; omega
      rcases gR with ⟨_, e⟩ | ⟨q', mn, oo, rfl, hq⟩
      · rw [e] at hn'; simp at hn'; omega
      have hqq := hqp q' rfl
      have hqpne : p ≠ q' := by omega
      have hq3 := (List.getElem?_eq_some_iff.1 hq).1
      obtain ⟨d, hd⟩ : ∃ d, R[i]? = some d := ⟨_, List.getElem?_eq_getElem (by omega)⟩
      have hld : l'[i]? = some d := by
        have := congrArg (fun l => l[0]?) hdr
        simp only [List.getElem?_drop, Nat.add_zero] at this
        rw [this]; exact hd
      have hil : i < l'.length := by omega
      have hiR : i < R.length := by omega
      have hpl4 : p < H3.length + 1 := by omega
      have hnpg : ¬ p < g.length := by omega
      simp (maxDischargeDepth := 9) -implicitDefEqProofs only [push_cast, reduceIte, Nat.reduceEqDiff, Nat.reduceAdd, Nat.reduceSub, Nat.reduceMul, Nat.reduceDiv, Nat.reduceMod, Nat.reduceLT, Nat.reduceLeDiff, Nat.reduceBEq, Nat.reduceBNe, reduceCtorEq, Int.reduceEq, Int.reduceNe, Int.reduceLT, Int.reduceLE, Int.reduceToNat, Int.reduceNeg, Int.reduceAdd, Int.reduceSub, Int.reduceMul, Int.reducePow, Nat.reducePow, Int.reduceBEq, nadd1, nadd2, nadd3, nadd4, nadd5, nadd6, nadd7, nadd8, nadd9, nadd10, nadd11, nadd12, hlt, hlt', hge, wv1, hpl3, hpl4, hqpne, hq3, hq, hld, hd, hil, hiR, hnpg, hn', Nat.mul_one]
      refine loop_next (n - (i + 1)) (by omega) ⟨i + 1, rfl, by omega, ?_, ⟨l'.set i (abits .xor .u8 d 255), by rw [List.length_set]; exact hl', ?_, rfl⟩, rfl⟩
      · simp (maxDischargeDepth := 9) -implicitDefEqProofs only [push_cast, reduceIte, Nat.reduceEqDiff, Nat.reduceAdd, Nat.reduceSub, Nat.reduceMul, Nat.reduceDiv, Nat.reduceMod, Nat.reduceLT, Nat.reduceLeDiff, Nat.reduceBEq, Nat.reduceBNe, reduceCtorEq, Int.reduceEq, Int.reduceNe, Int.reduceLT, Int.reduceLE, Int.reduceToNat, Int.reduceNeg, Int.reduceAdd, Int.reduceSub, Int.reduceMul, Int.reducePow, Nat.reducePow, Int.reduceBEq, hn']; try simp
      · rw [List.drop_set_of_lt (by omega)]
        have := congrArg (List.drop 1) hdr
        rw [List.drop_drop, List.drop_drop] at this
        exact this
    · have hi2 : i = n := by omega
      subst hi2
      have hnl : ¬ (i : Int) < (i : Int) := by omega
      have f0 : ((H3 ++ [(⟨.tip false, .vals [.int .u8 (v0 / 64), .int .u8 (v0 / 8 % 8), .int .u8 (v0 % 8), .int .u8 v1, .int .i8 (IntKind.i8.wrap v2), .int .i8 (IntKind.i8.wrap v3), .int .u32 v4, .int .u32 v5, .int .u32 v6, .int .u64 v7, .int .u64 v8, .int .u64 v9, .int .u64 v10, .nils, .bool false, .int .u32 0, .int .u64 0]⟩ : ABlk)]).set p ⟨.tip false, .ints .u8 l'⟩)[H1.length]? = some ⟨.tip false, .vals [.int .u8 (v0 / 64), .int .u8 (v0 / 8 % 8), .int .u8 (v0 % 8), .int .u8 v1, .int .i8 (IntKind.i8.wrap v2), .int .i8 (IntKind.i8.wrap v3), .int .u32 v4, .int .u32 v5, .int .u32 v6, .int .u64 v7, .int .u64 v8, .int .u64 v9, .int .u64 v10, .nils, .bool false, .int .u32 0, .int .u64 0]⟩ := by
        rw [List.getElem?_set_ne hpk2, List.getElem?_append_left b4]; exact b3
      have f1 : ((H3 ++ [(⟨.tip false, .vals [.int .u8 (v0 / 64), .int .u8 (v0 / 8 % 8), .int .u8 (v0 % 8), .int .u8 v1, .int .i8 (IntKind.i8.wrap v2), .int .i8 (IntKind.i8.wrap v3), .int .u32 v4, .int .u32 v5, .int .u32 v6, .int .u64 v7, .int .u64 v8, .int .u64 v9, .int .u64 v10, .nils, .bool false, .int .u32 0, .int .u64 0]⟩ : ABlk)]).set p ⟨.tip false, .ints .u8 l'⟩)[H3.length]? = some ⟨.tip false, .vals [.int .u8 (v0 / 64), .int .u8 (v0 / 8 % 8), .int .u8 (v0 % 8), .int .u8 v1, .int .i8 (IntKind.i8.wrap v2), .int .i8 (IntKind.i8.wrap v3), .int .u32 v4, .int .u32 v5, .int .u32 v6, .int .u64 v7, .int .u64 v8, .int .u64 v9, .int .u64 v10, .nils, .bool false, .int .u32 0, .int .u64 0]⟩ := by
        rw [List.getElem?_set_ne hpk3]; exact behind_get _ _ _
      have f2 : ((H3 ++ [(⟨.tip false, .vals [.int .u8 (v0 / 64), .int .u8 (v0 / 8 % 8), .int .u8 (v0 % 8), .int .u8 v1, .int .i8 (IntKind.i8.wrap v2), .int .i8 (IntKind.i8.wrap v3), .int .u32 v4, .int .u32 v5, .int .u32 v6, .int .u64 v7, .int .u64 v8, .int .u64 v9, .int .u64 v10, .nils, .bool false, .int .u32 0, .int .u64 0]⟩ : ABlk)]).set p ⟨.tip false, .ints .u8 l'⟩)[g.length]? = some ⟨.tip false, .ints .u8 D⟩ := by
        rw [List.getElem?_set_ne hgp, List.getElem?_append_left (by omega)]; exact b0
      have f3 : ((H3 ++ [(⟨.tip false, .vals [.int .u8 (v0 / 64), .int .u8 (v0 / 8 % 8), .int .u8 (v0 % 8), .int .u8 v1, .int .i8 (IntKind.i8.wrap v2), .int .i8 (IntKind.i8.wrap v3), .int .u32 v4, .int .u32 v5, .int .u32 v6, .int .u64 v7, .int .u64 v8, .int .u64 v9, .int .u64 v10, .nils, .bool false, .int .u32 0, .int .u64 0]⟩ : ABlk)]).set p ⟨.tip false, .ints .u8 l'⟩)[b]? = some ⟨.ext, .ints .u8 L⟩ := by
        rw [List.getElem?_set_ne hpb, List.getElem?_append_left (by omega)]; exact b2
      have hst : sliceCells ((H3 ++ [(⟨.tip false, .vals [.int .u8 (v0 / 64), .int .u8 (v0 / 8 % 8), .int .u8 (v0 % 8), .int .u8 v1, .int .i8 (IntKind.i8.wrap v2), .int .i8 (IntKind.i8.wrap v3), .int .u32 v4, .int .u32 v5, .int .u32 v6, .int .u64 v7, .int .u64 v8, .int .u64 v9, .int .u64 v10, .nils, .bool false, .int .u32 0, .int .u64 0]⟩ : ABlk)]).set p ⟨.tip false, .ints .u8 l'⟩) 1 (.gsl g.length 0 m 1 false) = some (.ints .u8 D) := by
        simp [sliceCells, cellsAt, f2, ACells.len, ACells.sub, ← hl]
      have hst2 : sliceCells ((H3 ++ [(⟨.tip false, .vals [.int .u8 (v0 / 64), .int .u8 (v0 / 8 % 8), .int .u8 (v0 % 8), .int .u8 v1, .int .i8 (IntKind.i8.wrap v2), .int .i8 (IntKind.i8.wrap v3), .int .u32 v4, .int .u32 v5, .int .u32 v6, .int .u64 v7, .int .u64 v8, .int .u64 v9, .int .u64 v10, .nils, .bool false, .int .u32 0, .int .u64 0]⟩ : ABlk)]).set p ⟨.tip false, .ints .u8 l'⟩) 1 (.sl b 0 m c) = some (.ints .u8 D) := by
        simp [sliceCells, cellsAt, f3, ACells.len, ACells.sub, ← hD, hm]
      have hGX := hX l'
      obtain ⟨X, hXX⟩ : ∃ X, (H3 ++ [(⟨.tip false, .vals [.int .u8 (v0 / 64), .int .u8 (v0 / 8 % 8), .int .u8 (v0 % 8), .int .u8 v1, .int .i8 (IntKind.i8.wrap v2), .int .i8 (IntKind.i8.wrap v3), .int .u32 v4, .int .u32 v5, .int .u32 v6, .int .u64 v7, .int .u64 v8, .int .u64 v9, .int .u64 v10, .nils, .bool false, .int .u32 0, .int .u64 0]⟩ : ABlk)]).set p ⟨.tip false, .ints .u8 l'⟩ = X := ⟨_, rfl⟩
      rw [hXX] at f0 f1 hst hst2 hGX ⊢
      have hgt := hv.bounds
      obtain ⟨⟨p0, q0⟩, ⟨p1, q1⟩, ⟨p2, q2⟩, ⟨p3, q3⟩, ⟨p4, q4⟩, ⟨p5, q5⟩, ⟨p6, q6⟩, ⟨p7, q7⟩, ⟨p8, q8⟩, ⟨p9, q9⟩, ⟨p10, q10⟩⟩ := hgt
      have eS := pk_same hGX hv
      simp (maxDischargeDepth := 9) -implicitDefEqProofs only [push_cast, reduceIte, Nat.reduceEqDiff, Nat.reduceAdd, Nat.reduceSub, Nat.reduceMul, Nat.reduceDiv, Nat.reduceMod, Nat.reduceLT, Nat.reduceLeDiff, Nat.reduceBEq, Nat.reduceBNe, reduceCtorEq, Int.reduceEq, Int.reduceNe, Int.reduceLT, Int.reduceLE, Int.reduceToNat, Int.reduceNeg, Int.reduceAdd, Int.reduceSub, Int.reduceMul, Int.reducePow, Nat.reducePow, Int.reduceBEq, nadd1, nadd2, nadd3, nadd4, nadd5, nadd6, nadd7, nadd8, nadd9, nadd10, nadd11, nadd12, hnr0, hnl0, hlr, hll, f0, f1, eS, hst, hst2, bytesOf_sb, aw]
set_option maxHeartbeats 4000000 in
theorem parses_nil {g : AHeap} (hg : Good g) (ha : At0 g) : Wp (xbody (W CP) M4 [.nils] g) fun r => r.1 = .bool true := by
  have ea := app_nils (H := g) (X := []) (n := 0) (by omega)
  have hz : ((0 : Nat) == 0) = true := rfl
  rw [hz] at ea
  have eP := parse_short (h := g ++ [⟨.tip false, .ints .u8 []⟩]) (x := .gsl g.length 0 0 1 true) (n := 0) (good_app hg rfl) rfl (by omega)
  have eR := refParse_short (h := g ++ [⟨.tip false, .ints .u8 []⟩, ⟨.tip false, .vals [.int .u8 0, .int .u8 0, .int .u8 0, .int .u8 0, .int .i8 0, .int .i8 0, .int .u32 0, .int .u32 0, .int .u32 0, .int .u64 0, .int .u64 0, .int .u64 0, .int .u64 0, .nils, .bool false, .int .u32 0, .int .u64 0]⟩]) (x := .nils) (n := 0) (good_app hg rfl) rfl (by omega)
  have eS := zero_same (good_app (js := [⟨.tip false, .ints .u8 []⟩, ⟨.tip false, .vals [.int .u8 0, .int .u8 0, .int .u8 0, .int .u8 0, .int .i8 0, .int .i8 0, .int .u32 0, .int .u32 0, .int .u32 0, .int .u64 0, .int .u64 0, .int .u64 0, .int .u64 0, .nils, .bool false, .int .u32 0, .int .u64 0]⟩, ⟨.tip false, .vals [.int .u8 0, .int .u8 0, .int .u8 0, .int .u8 0, .int .i8 0, .int .i8 0, .int .u32 0, .int .u32 0, .int .u32 0, .int .u64 0, .int .u64 0, .int .u64 0, .int .u64 0, .nils, .bool false, .int .u32 0, .int .u64 0]⟩]) hg rfl)
  have aw := fun h => law04_alive h
  simp (maxDischargeDepth := 9) -implicitDefEqProofs only [push_cast, reduceIte, Nat.reduceEqDiff, Nat.reduceAdd, Nat.reduceSub, Nat.reduceMul, Nat.reduceDiv, Nat.reduceMod, Nat.reduceLT, Nat.reduceLeDiff, Nat.reduceBEq, Nat.reduceBNe, reduceCtorEq, Int.reduceEq, Int.reduceNe, Int.reduceLT, Int.reduceLE, Int.reduceToNat, Int.reduceNeg, Int.reduceAdd, Int.reduceSub, Int.reduceMul, Int.reducePow, Nat.reducePow, Int.reduceBEq, M4, nadd1, nadd2, nadd3, nadd4, nadd5, nadd6, nadd7, nadd8, nadd9, nadd10, nadd11, nadd12, newCells, ea, eP, eR]
  refine wp_kRes (wp_kSeq (wp_kBlock ?_))
  refine wp_loop (fun k aa h' ws => ∃ z, aa = [(0, .nils), (3, .gsl g.length 0 0 1 true), (4, .ptr (g.length + 1) 0), (5, .nils), (6, .int .i64 4), (7, .ptr (g.length + 2) 0), (8, .nils), (9, .int .i64 4), (10, z)] ∧ z = .int .i64 0 ∧ h' = g ++ [⟨.tip false, .ints .u8 []⟩, ⟨.tip false, .vals [.int .u8 0, .int .u8 0, .int .u8 0, .int .u8 0, .int .i8 0, .int .i8 0, .int .u32 0, .int .u32 0, .int .u32 0, .int .u64 0, .int .u64 0, .int .u64 0, .int .u64 0, .nils, .bool false, .int .u32 0, .int .u64 0]⟩, ⟨.tip false, .vals [.int .u8 0, .int .u8 0, .int .u8 0, .int .u8 0, .int .i8 0, .int .i8 0, .int .u32 0, .int .u32 0, .int .u32 0, .int .u64 0, .int .u64 0, .int .u64 0, .int .u64 0, .nils, .bool false, .int .u32 0, .int .u64 0]⟩] ∧ ws = []) 1 ?_ ?_
  · refine ⟨_, ?_, rfl, rfl, rfl⟩
    simp (maxDischargeDepth := 9) -implicitDefEqProofs only [push_cast, reduceIte, Nat.reduceEqDiff, Nat.reduceAdd, Nat.reduceSub, Nat.reduceMul, Nat.reduceDiv, Nat.reduceMod, Nat.reduceLT, Nat.reduceLeDiff, Nat.reduceBEq, Nat.reduceBNe, reduceCtorEq, Int.reduceEq, Int.reduceNe, Int.reduceLT, Int.reduceLE, Int.reduceToNat, Int.reduceNeg, Int.reduceAdd, Int.reduceSub, Int.reduceMul, Int.reducePow, Nat.reducePow, Int.reduceBEq]
  · rintro k aa h' ws ⟨z, rfl, rfl, rfl, rfl⟩
    have hst : sliceCells (g ++ [⟨.tip false, .ints .u8 []⟩, ⟨.tip false, .vals [.int .u8 0, .int .u8 0, .int .u8 0, .int .u8 0, .int .i8 0, .int .i8 0, .int .u32 0, .int .u32 0, .int .u32 0, .int .u64 0, .int .u64 0, .int .u64 0, .int .u64 0, .nils, .bool false, .int .u32 0, .int .u64 0]⟩, ⟨.tip false, .vals [.int .u8 0, .int .u8 0, .int .u8 0, .int .u8 0, .int .i8 0, .int .i8 0, .int .u32 0, .int .u32 0, .int .u32 0, .int .u64 0, .int .u64 0, .int .u64 0, .int .u64 0, .nils, .bool false, .int .u32 0, .int .u64 0]⟩]) 1 (.gsl g.length 0 0 1 true) = some (.ints .u8 []) := by
      simp [sliceCells, cellsAt, ACells.len, ACells.sub, List.getElem?_append_right]
    have hbo : bytesOf (.ints .u8 []) = some ByteArray.empty := rfl
    simp (maxDischargeDepth := 9) -implicitDefEqProofs only [push_cast, reduceIte, Nat.reduceEqDiff, Nat.reduceAdd, Nat.reduceSub, Nat.reduceMul, Nat.reduceDiv, Nat.reduceMod, Nat.reduceLT, Nat.reduceLeDiff, Nat.reduceBEq, Nat.reduceBNe, reduceCtorEq, Int.reduceEq, Int.reduceNe, Int.reduceLT, Int.reduceLE, Int.reduceToNat, Int.reduceNeg, Int.reduceAdd, Int.reduceSub, Int.reduceMul, Int.reducePow, Nat.reducePow, Int.reduceBEq, nadd1, nadd2, nadd3, nadd4, nadd5, nadd6, nadd7, nadd8, nadd9, nadd10, nadd11, nadd12, eS, aw, hst, hbo]
theorem parses_law (js : AHeap) (avs : List AV) (hx : Ext js) (ht : TyA (CP.gl ++ js) [.one (.sl [.i .u8])] avs) : ∃ h' ws, W CP 4 avs (CP.gl ++ js) = some (.bool true, h', ws) := by
  simp only [TyA] at ht
  obtain ⟨v, _, rfl, hv, rfl⟩ := ht
  have hg := good_ext hx
  have ha := At0_ext hx
  rcases arg_bytes hv with rfl | ⟨b, c, L, rfl, hc, hc2, hL, hB⟩
  · exact W_law (m := M4) (fun _ => rfl) rfl (parses_nil hg ha) fun _ => parses_nil good_gl At0_gl
  · refine W_law (m := M4) (fun _ => rfl) rfl ?_ fun h0 => by simp [AV.lts, AV.lt] at h0
    obtain ⟨m, hm, h2, hmin⟩ : ∃ m : Nat, m ≤ L.length ∧ m ≤ 200 ∧ (if (200 : Int) < (L.length : Int) then (200 : Int) else (L.length : Int)) = (m : Int) := by
      by_cases hc : 200 < L.length
      · exact ⟨200, by omega, by omega, by rw [if_pos (by omega)]; rfl⟩
      · exact ⟨L.length, by omega, by omega, by rw [if_neg (by omega)]⟩
    obtain ⟨hs, hl⟩ := src_take (c := c) hL hB hc hm
    by_cases h48 : m < 48
    · exact parses_quick hg ha rfl hL hB hc hm h2 hmin (parse_short (n := m) (good_app hg rfl) rfl h48) (refParse_short (n := m) (good_app hg rfl) rfl h48)
    · obtain ⟨v0, v1, v2, v3, v4, v5, v6, v7, v8, v9, v10, hv⟩ := HV.mk' hs.1 (show 48 ≤ (L.take m).length by omega)
      by_cases hok : 1 ≤ v0 / 8 % 8 ∧ v0 / 8 % 8 ≤ 4
      · exact parses_long hg ha hL hB hc hm h2 hmin rfl hv hok.1 hok.2
      · have hm0 : (m == 0) = false := by simp; omega
        have hown : Src (CP.gl ++ js ++ [⟨.tip false, .ints .u8 (L.take m)⟩]) (.gsl (CP.gl ++ js).length 0 m 1 (m == 0)) (L.take m) := by
          rw [hm0]
          exact ⟨hs.1, (CP.gl ++ js).length, 0, 0, .tip false, L.take m, behind_get _ _ _, Or.inr ⟨false, rfl⟩, by omega, by rw [List.drop_zero, List.take_length], Or.inr (by rw [hl])⟩
        exact parses_quick hg ha rfl hL hB hc hm h2 hmin (parse_bad (good_app hg rfl) (ha.app _).1 hown hv (by omega) hok) (refParse_bad (good_app hg rfl) (hs.app _) hv (by omega) hok)
theorem parses_kinds : aksOf X.P 20 [28] = some [.one (.sl [.i .u8])] := by kernel_rfl
end Go.Proofs.YtpmibaeajmfdpaaDoorW.AI.H
