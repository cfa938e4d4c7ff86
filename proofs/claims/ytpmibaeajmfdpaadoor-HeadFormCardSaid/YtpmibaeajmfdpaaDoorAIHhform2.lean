import Derived.Test.YtpmibaeajmfdpaaDoorAIHhform
namespace Go.Proofs.YtpmibaeajmfdpaaDoorW.AI.H
open Go Go.Proofs.YtpmibaeajmfdpaaDoorW.AI Go.Proofs.YtpmibaeajmfdpaaDoorW.AI.Oct
set_option maxRecDepth 100000
set_option linter.unusedSimpArgs false
set_option linter.unusedVariables false
set_option linter.unusedSectionVars false
/-- An argument cut to so many. -/
structure Cut (g : AHeap) (y z : AV) (D : List Int) (m : Nat) : Prop where
  src : (z = .nils ∧ D = []) ∨ Src g z D
  len : D.length = m
  le : m ≤ 100
  sh : (y = .nils ∧ z = .nils ∧ m = 0) ∨ ∃ b c N, y = .sl b 0 N c ∧ z = .sl b 0 m c ∧ m ≤ c ∧ (if (100 : Int) < (N : Int) then (100 : Int) else (N : Int)) = (m : Int)
theorem cut_of {g : AHeap} {v : AV} (hv : Ty g (.sl [.i .u8]) v) : ∃ z D m, Cut g v z D m := by
  rcases arg_bytes hv with rfl | ⟨b, c, L, rfl, hc, hc2, hL, hB⟩
  · exact ⟨.nils, [], 0, Or.inl ⟨rfl, rfl⟩, rfl, by omega, Or.inl ⟨rfl, rfl, rfl⟩⟩
  · obtain ⟨m, hm, h2, hmin⟩ : ∃ m : Nat, m ≤ L.length ∧ m ≤ 100 ∧ (if (100 : Int) < (L.length : Int) then (100 : Int) else (L.length : Int)) = (m : Int) := by
      by_cases hc : 100 < L.length
      · exact ⟨100, by omega, by omega, by rw [if_pos (by omega)]; rfl⟩
      · exact ⟨L.length, by omega, by omega, by rw [if_neg (by omega)]⟩
    obtain ⟨hs, hl⟩ := src_take (c := c) hL hB hc hm
    exact ⟨.sl b 0 m c, L.take m, m, Or.inr hs, hl, h2, Or.inr ⟨b, c, L.length, rfl, rfl, by omega, hmin⟩⟩
theorem src_or {g : AHeap} {z : AV} {D : List Int} (h : (z = .nils ∧ D = []) ∨ Src g z D) (js : AHeap) : (z = .nils ∧ D = []) ∨ Src (g ++ js) z D := h.imp id fun s => s.app js
theorem Cut.app {g : AHeap} {y z : AV} {D : List Int} {m : Nat} (c : Cut g y z D m) (js : AHeap) : Cut (g ++ js) y z D m := ⟨src_or c.src js, c.len, c.le, c.sh⟩
theorem ends_res {a : Acts} {h : AHeap} {ws : List Nat} (e : look a 6 = some (.bool true)) : Wp (kRes [.tmp 6] (some (.ret, a, h, ws))) fun r => r.1 = .bool true := by
  refine ⟨(.bool true, h, ws), ?_, rfl⟩
  simp only [kRes, ares, aresL, ares1, aeval, e, Option.bind_some, Option.map_some]
theorem wp_ends {x : Option AOut} (h : Wp x Ends) : Wp (kRes [.tmp 6] x) fun r => r.1 = .bool true := by
  obtain ⟨o, rfl, a, h, ws, rfl, e⟩ := h
  exact ends_res e
set_option maxHeartbeats 8000000 in
theorem form_no {g : AHeap} (hg : Good g) (ha : At0 g) {p0 p1 p2 p3 p4 p5 p6 p7 p8 p9 p10 p11 p12 p15 p16 : Int} {px : AV} {s : Bool} (hx : px.isCell = true) (a0 : 0 ≤ p0) (b0 : p0 ≤ 255) (a1 : 0 ≤ p1) (b1 : p1 ≤ 255) (a2 : 0 ≤ p2) (b2 : p2 ≤ 255) (a3 : 0 ≤ p3) (b3 : p3 ≤ 255) (a4 : -128 ≤ p4) (b4 : p4 ≤ 127) (a5 : -128 ≤ p5) (b5 : p5 ≤ 127) (a6 : 0 ≤ p6) (b6 : p6 ≤ 4294967295) (a7 : 0 ≤ p7) (b7 : p7 ≤ 4294967295) (a8 : 0 ≤ p8) (b8 : p8 ≤ 4294967295) (a9 : 0 ≤ p9) (b9 : p9 ≤ 18446744073709551615) (a10 : 0 ≤ p10) (b10 : p10 ≤ 18446744073709551615) (a11 : 0 ≤ p11) (b11 : p11 ≤ 18446744073709551615) (a12 : 0 ≤ p12) (b12 : p12 ≤ 18446744073709551615) {y1 z1 y2 z2 : AV} {D1 D2 : List Int} {m1 m2 : Nat} (c1 : Cut g y1 z1 D1 m1) (c2 : Cut g y2 z2 D2 m2) (hm : mayH p0 p1 p2 = false) : Wp (xbody (W CP) M5 [.agg [.int .u8 p0, .int .u8 p1, .int .u8 p2, .int .u8 p3, .int .i8 p4, .int .i8 p5, .int .u32 p6, .int .u32 p7, .int .u32 p8, .int .u64 p9, .int .u64 p10, .int .u64 p11, .int .u64 p12, px, .bool s, .int .u32 p15, .int .u64 p16], y1, y2] g) fun r => r.1 = .bool true := by
  have eU := put_bad (p0 := p0) (p1 := p1) (p2 := p2) (p3 := p3) (p4 := p4) (p5 := p5) (p6 := p6) (p7 := p7) (p8 := p8) (p9 := p9) (p10 := p10) (p11 := p11) (p12 := p12) (p15 := p15) (p16 := p16) (s := s) (x := px) hx hm (good_app (js := [⟨.tip false, .vals [.int .u8 p0, .int .u8 p1, .int .u8 p2, .int .u8 p3, .int .i8 p4, .int .i8 p5, .int .u32 p6, .int .u32 p7, .int .u32 p8, .int .u64 p9, .int .u64 p10, .int .u64 p11, .int .u64 p12, px, .bool s, .int .u32 p15, .int .u64 p16]⟩]) hg rfl)
  have eM := may_c (p0 := p0) (p1 := p1) (p2 := p2) (p3 := p3) (p4 := p4) (p5 := p5) (p6 := p6) (p7 := p7) (p8 := p8) (p9 := p9) (p10 := p10) (p11 := p11) (p12 := p12) (p15 := p15) (p16 := p16) (s := s) (x := px) hx (good_app (js := [⟨.tip false, .vals [.int .u8 p0, .int .u8 p1, .int .u8 p2, .int .u8 p3, .int .i8 p4, .int .i8 p5, .int .u32 p6, .int .u32 p7, .int .u32 p8, .int .u64 p9, .int .u64 p10, .int .u64 p11, .int .u64 p12, px, .bool s, .int .u32 p15, .int .u64 p16]⟩]) hg rfl)
  rw [hm] at eM
  have hg1 : Good (g ++ [⟨.tip false, .vals [.int .u8 p0, .int .u8 p1, .int .u8 p2, .int .u8 p3, .int .i8 p4, .int .i8 p5, .int .u32 p6, .int .u32 p7, .int .u32 p8, .int .u64 p9, .int .u64 p10, .int .u64 p11, .int .u64 p12, px, .bool s, .int .u32 p15, .int .u64 p16]⟩]) := good_app hg rfl
  have ha1 := ha.app [⟨.tip false, .vals [.int .u8 p0, .int .u8 p1, .int .u8 p2, .int .u8 p3, .int .i8 p4, .int .i8 p5, .int .u32 p6, .int .u32 p7, .int .u32 p8, .int .u64 p9, .int .u64 p10, .int .u64 p11, .int .u64 p12, px, .bool s, .int .u32 p15, .int .u64 p16]⟩]
  obtain ⟨u1, l1, e1, sh1⟩ := c1
  obtain ⟨u2, l2, e2, sh2⟩ := c2
  rw [form_parts]
  have s2 := src_or u2 [⟨.tip false, .vals [.int .u8 p0, .int .u8 p1, .int .u8 p2, .int .u8 p3, .int .i8 p4, .int .i8 p5, .int .u32 p6, .int .u32 p7, .int .u32 p8, .int .u64 p9, .int .u64 p10, .int .u64 p11, .int .u64 p12, px, .bool s, .int .u32 p15, .int .u64 p16]⟩]
  rcases sh1 with ⟨rfl, rfl, rfl⟩ | ⟨b, c, N, rfl, rfl, hmc, hmin⟩ <;> rcases sh2 with ⟨rfl, rfl, rfl⟩ | ⟨b2, cc2, N2, rfl, rfl, hmc2, hmin2⟩
  · simp (maxDischargeDepth := 9) -implicitDefEqProofs only [push_cast, reduceIte, Nat.reduceEqDiff, Nat.reduceAdd, Nat.reduceSub, Nat.reduceMul, Nat.reduceDiv, Nat.reduceMod, Nat.reduceLT, Nat.reduceLeDiff, Nat.reduceBEq, Nat.reduceBNe, reduceCtorEq, Int.reduceEq, Int.reduceNe, Int.reduceLT, Int.reduceLE, Int.reduceToNat, Int.reduceNeg, Int.reduceAdd, Int.reduceSub, Int.reduceMul, Int.reducePow, Nat.reducePow, Int.reduceBEq, nadd1, nadd2, nadd3, nadd4, nadd5, nadd6, nadd7, nadd8, nadd9, nadd10, nadd11, nadd12, hx, eU, eM]
    exact wp_ends (form2_w hg1 ha1 (by simp (maxDischargeDepth := 9) -implicitDefEqProofs only [push_cast, reduceIte, Nat.reduceEqDiff, Nat.reduceAdd, Nat.reduceSub, Nat.reduceMul, Nat.reduceDiv, Nat.reduceMod, Nat.reduceLT, Nat.reduceLeDiff, Nat.reduceBEq, Nat.reduceBNe, reduceCtorEq, Int.reduceEq, Int.reduceNe, Int.reduceLT, Int.reduceLE, Int.reduceToNat, Int.reduceNeg, Int.reduceAdd, Int.reduceSub, Int.reduceMul, Int.reducePow, Nat.reducePow, Int.reduceBEq]) s2 (by omega))
  · simp (maxDischargeDepth := 9) -implicitDefEqProofs only [push_cast, reduceIte, Nat.reduceEqDiff, Nat.reduceAdd, Nat.reduceSub, Nat.reduceMul, Nat.reduceDiv, Nat.reduceMod, Nat.reduceLT, Nat.reduceLeDiff, Nat.reduceBEq, Nat.reduceBNe, reduceCtorEq, Int.reduceEq, Int.reduceNe, Int.reduceLT, Int.reduceLE, Int.reduceToNat, Int.reduceNeg, Int.reduceAdd, Int.reduceSub, Int.reduceMul, Int.reducePow, Nat.reducePow, Int.reduceBEq, nadd1, nadd2, nadd3, nadd4, nadd5, nadd6, nadd7, nadd8, nadd9, nadd10, nadd11, nadd12, hx, eU, eM, hmc2, hmin2]
    exact wp_ends (form2_w hg1 ha1 (by simp (maxDischargeDepth := 9) -implicitDefEqProofs only [push_cast, reduceIte, Nat.reduceEqDiff, Nat.reduceAdd, Nat.reduceSub, Nat.reduceMul, Nat.reduceDiv, Nat.reduceMod, Nat.reduceLT, Nat.reduceLeDiff, Nat.reduceBEq, Nat.reduceBNe, reduceCtorEq, Int.reduceEq, Int.reduceNe, Int.reduceLT, Int.reduceLE, Int.reduceToNat, Int.reduceNeg, Int.reduceAdd, Int.reduceSub, Int.reduceMul, Int.reducePow, Nat.reducePow, Int.reduceBEq]) s2 (by omega))
  · simp (maxDischargeDepth := 9) -implicitDefEqProofs only [push_cast, reduceIte, Nat.reduceEqDiff, Nat.reduceAdd, Nat.reduceSub, Nat.reduceMul, Nat.reduceDiv, Nat.reduceMod, Nat.reduceLT, Nat.reduceLeDiff, Nat.reduceBEq, Nat.reduceBNe, reduceCtorEq, Int.reduceEq, Int.reduceNe, Int.reduceLT, Int.reduceLE, Int.reduceToNat, Int.reduceNeg, Int.reduceAdd, Int.reduceSub, Int.reduceMul, Int.reducePow, Nat.reducePow, Int.reduceBEq, nadd1, nadd2, nadd3, nadd4, nadd5, nadd6, nadd7, nadd8, nadd9, nadd10, nadd11, nadd12, hx, eU, eM, hmc, hmin]
    exact wp_ends (form2_w hg1 ha1 (by simp (maxDischargeDepth := 9) -implicitDefEqProofs only [push_cast, reduceIte, Nat.reduceEqDiff, Nat.reduceAdd, Nat.reduceSub, Nat.reduceMul, Nat.reduceDiv, Nat.reduceMod, Nat.reduceLT, Nat.reduceLeDiff, Nat.reduceBEq, Nat.reduceBNe, reduceCtorEq, Int.reduceEq, Int.reduceNe, Int.reduceLT, Int.reduceLE, Int.reduceToNat, Int.reduceNeg, Int.reduceAdd, Int.reduceSub, Int.reduceMul, Int.reducePow, Nat.reducePow, Int.reduceBEq]) s2 (by omega))
  · simp (maxDischargeDepth := 9) -implicitDefEqProofs only [push_cast, reduceIte, Nat.reduceEqDiff, Nat.reduceAdd, Nat.reduceSub, Nat.reduceMul, Nat.reduceDiv, Nat.reduceMod, Nat.reduceLT, Nat.reduceLeDiff, Nat.reduceBEq, Nat.reduceBNe, reduceCtorEq, Int.reduceEq, Int.reduceNe, Int.reduceLT, Int.reduceLE, Int.reduceToNat, Int.reduceNeg, Int.reduceAdd, Int.reduceSub, Int.reduceMul, Int.reducePow, Nat.reducePow, Int.reduceBEq, nadd1, nadd2, nadd3, nadd4, nadd5, nadd6, nadd7, nadd8, nadd9, nadd10, nadd11, nadd12, hx, eU, eM, hmc, hmin, hmc2, hmin2]
    exact wp_ends (form2_w hg1 ha1 (by simp (maxDischargeDepth := 9) -implicitDefEqProofs only [push_cast, reduceIte, Nat.reduceEqDiff, Nat.reduceAdd, Nat.reduceSub, Nat.reduceMul, Nat.reduceDiv, Nat.reduceMod, Nat.reduceLT, Nat.reduceLeDiff, Nat.reduceBEq, Nat.reduceBNe, reduceCtorEq, Int.reduceEq, Int.reduceNe, Int.reduceLT, Int.reduceLE, Int.reduceToNat, Int.reduceNeg, Int.reduceAdd, Int.reduceSub, Int.reduceMul, Int.reducePow, Nat.reducePow, Int.reduceBEq]) s2 (by omega))
/-- Bytes appended to a slice of one's own that is full. -/
theorem app_full {H : AHeap} {q : Nat} {L B : List Int} {z : AV} {m : Nat} (hq : H[q]? = some ⟨.tip false, .ints .u8 L⟩) (hB : Byt L) (h48 : L.length = 48) (hz : (z = .nils ∧ B = []) ∨ Src H z B) (hm : B.length = m) (h100 : m ≤ 100) :
    ∃ xv ks ws, newCells H (.ints .u8 [0]) z = some (.ints .u8 B) ∧ aappend H (.ints .u8 [0]) 1 (.sl q 0 48 48) (.ints .u8 B) m = some (xv, H ++ ks, ws) ∧ Src (H ++ ks) xv (L ++ B) ∧ (∀ b ∈ ws, b = q) ∧ ks.all notOld = true ∧ noAny (some xv) = some xv := by
  have hn : newCells H (.ints .u8 [0]) z = some (.ints .u8 B) := by
    rcases hz with ⟨rfl, rfl⟩ | hs
    · rfl
    · have := hs.bytAt.2.1
      rcases hs with ⟨_, b, o, c, st, l, _, _, _, _, ⟨rfl, _⟩ | rfl⟩ <;> exact this
  by_cases h0 : m = 0
  · obtain rfl : B = [] := List.length_eq_zero_iff.1 (by omega)
    subst h0
    refine ⟨.sl q 0 48 48, [], [q], hn, ?_, ?_, by simp, rfl, rfl⟩
    · simp only [aappend, Nat.add_zero, Nat.le_refl, if_true, change, hq, ACells.list, List.map_nil, storeL, Option.map_some, Bool.false_eq_true, if_false, List.append_nil]
      rw [set_same hq]
    · rw [List.append_nil, List.append_nil]
      exact ⟨hB, q, 0, 48, .tip false, L, hq, Or.inr ⟨false, rfl⟩, by omega, by rw [List.drop_zero, List.take_length], Or.inl ⟨by rw [h48], by omega⟩⟩
  · refine ⟨.gsl H.length 0 (48 + m) 1 false, [⟨.tip false, .ints .u8 (L ++ B)⟩], [], hn, ?_, ?_, by simp, rfl, rfl⟩
    · have hs : sliceCells H 1 (.sl q 0 48 48) = some (.ints .u8 L) := by rw [← h48]; exact sl_cells hq
      have hle : ¬ 48 + m ≤ 48 := by omega
      simp only [aappend, if_neg hle, ACells.len, List.length_cons, List.length_nil, Nat.zero_add]
      rw [hs]
      simp only [Option.bind_some, ACells.app, if_true, roomy (show 48 + m < 1000000000 by omega)]
    · have hBB : Byt B := by
        rcases hz with ⟨_, rfl⟩ | hs
        · intro x hx; simp at hx
        · exact hs.1
      refine ⟨hB.app hBB, H.length, 0, 0, .tip false, L ++ B, behind_get _ _ _, Or.inr ⟨false, rfl⟩, by omega, by rw [List.drop_zero, List.take_length], Or.inr ?_⟩
      rw [List.length_append, h48, hm]
/-- A head's numbers, laid: its bytes' numbers. -/
theorem hv_of {p0 p1 p2 p3 p4 p5 p6 p7 p8 p9 p10 p11 p12 : Int} {B : List Int} (hm : mayH p0 p1 p2 = true) (a0 : 0 ≤ p0) (b0 : p0 ≤ 255) (a1 : 0 ≤ p1) (b1 : p1 ≤ 255) (a2 : 0 ≤ p2) (b2 : p2 ≤ 255) (a3 : 0 ≤ p3) (b3 : p3 ≤ 255) (a4 : -128 ≤ p4) (b4 : p4 ≤ 127) (a5 : -128 ≤ p5) (b5 : p5 ≤ 127) (a6 : 0 ≤ p6) (b6 : p6 ≤ 4294967295) (a7 : 0 ≤ p7) (b7 : p7 ≤ 4294967295) (a8 : 0 ≤ p8) (b8 : p8 ≤ 4294967295) (a9 : 0 ≤ p9) (b9 : p9 ≤ 18446744073709551615) (a10 : 0 ≤ p10) (b10 : p10 ≤ 18446744073709551615) (a11 : 0 ≤ p11) (b11 : p11 ≤ 18446744073709551615) (a12 : 0 ≤ p12) (b12 : p12 ≤ 18446744073709551615) (hB : Byt B) : HV (layB sizesN (headV p0 p1 p2 p3 p4 p5 p6 p7 p8 p9 p10 p11 p12) ++ B) (p0 * 64 + p1 * 8 + p2) p3 (p4 % 256) (p5 % 256) p6 p7 p8 p9 p10 p11 p12 := by
  have hl : (layB sizesN (headV p0 p1 p2 p3 p4 p5 p6 p7 p8 p9 p10 p11 p12)).length = 48 := layB_len sizesN _ rfl
  have ht := takeV_layB (Ls := sizesN) (V := headV p0 p1 p2 p3 p4 p5 p6 p7 p8 p9 p10 p11 p12) (R := B) rfl (head_fits hm a0 b0 a1 b1 a2 b2 a3 b3 a4 b4 a5 b5 a6 b6 a7 b7 a8 b8 a9 b9 a10 b10 a11 b11 a12 b12)
  obtain ⟨w0, w1, w2, w3, w4, w5, w6, w7, w8, w9, w10, hv⟩ := HV.mk' ((layB_byt sizesN (headV p0 p1 p2 p3 p4 p5 p6 p7 p8 p9 p10 p11 p12)).app hB) (show 48 ≤ _ by rw [List.length_append]; omega)
  rw [hv.takeV] at ht
  simp only [headV, List.cons.injEq, and_true] at ht
  obtain ⟨rfl, rfl, rfl, rfl, rfl, rfl, rfl, rfl, rfl, rfl, rfl⟩ := ht
  exact hv
theorem i8_back (p : Int) (h0 : -128 ≤ p) (h1 : p ≤ 127) : IntKind.i8.wrap (p % 256) = p := by
  simp only [IntKind.wrap, IntKind.bits, IntKind.signed]
  simp
  split <;> omega
set_option maxHeartbeats 16000000 in
theorem form_yes {g : AHeap} (hg : Good g) (ha : At0 g) {p0 p1 p2 p3 p4 p5 p6 p7 p8 p9 p10 p11 p12 p15 p16 : Int} {px : AV} {s : Bool} (hx : px.isCell = true) (a0 : 0 ≤ p0) (b0 : p0 ≤ 255) (a1 : 0 ≤ p1) (b1 : p1 ≤ 255) (a2 : 0 ≤ p2) (b2 : p2 ≤ 255) (a3 : 0 ≤ p3) (b3 : p3 ≤ 255) (a4 : -128 ≤ p4) (b4 : p4 ≤ 127) (a5 : -128 ≤ p5) (b5 : p5 ≤ 127) (a6 : 0 ≤ p6) (b6 : p6 ≤ 4294967295) (a7 : 0 ≤ p7) (b7 : p7 ≤ 4294967295) (a8 : 0 ≤ p8) (b8 : p8 ≤ 4294967295) (a9 : 0 ≤ p9) (b9 : p9 ≤ 18446744073709551615) (a10 : 0 ≤ p10) (b10 : p10 ≤ 18446744073709551615) (a11 : 0 ≤ p11) (b11 : p11 ≤ 18446744073709551615) (a12 : 0 ≤ p12) (b12 : p12 ≤ 18446744073709551615) {y1 z1 y2 z2 : AV} {D1 D2 : List Int} {m1 m2 : Nat} (c1 : Cut g y1 z1 D1 m1) (c2 : Cut g y2 z2 D2 m2) (hm : mayH p0 p1 p2 = true) : Wp (xbody (W CP) M5 [.agg [.int .u8 p0, .int .u8 p1, .int .u8 p2, .int .u8 p3, .int .i8 p4, .int .i8 p5, .int .u32 p6, .int .u32 p7, .int .u32 p8, .int .u64 p9, .int .u64 p10, .int .u64 p11, .int .u64 p12, px, .bool s, .int .u32 p15, .int .u64 p16], y1, y2] g) fun r => r.1 = .bool true := by
  have hG1 : Good (g ++ [⟨.tip false, .vals [.int .u8 p0, .int .u8 p1, .int .u8 p2, .int .u8 p3, .int .i8 p4, .int .i8 p5, .int .u32 p6, .int .u32 p7, .int .u32 p8, .int .u64 p9, .int .u64 p10, .int .u64 p11, .int .u64 p12, px, .bool s, .int .u32 p15, .int .u64 p16]⟩]) := good_app hg rfl
  have hA1 := ha.app [⟨.tip false, .vals [.int .u8 p0, .int .u8 p1, .int .u8 p2, .int .u8 p3, .int .i8 p4, .int .i8 p5, .int .u32 p6, .int .u32 p7, .int .u32 p8, .int .u64 p9, .int .u64 p10, .int .u64 p11, .int .u64 p12, px, .bool s, .int .u32 p15, .int .u64 p16]⟩]
  have eU := put_c (p0 := p0) (p1 := p1) (p2 := p2) (p3 := p3) (p4 := p4) (p5 := p5) (p6 := p6) (p7 := p7) (p8 := p8) (p9 := p9) (p10 := p10) (p11 := p11) (p12 := p12) (p15 := p15) (p16 := p16) (s := s) (x := px) hx hm a0 a1 a2 a3 b3 a4 b4 a5 b5 a6 b6 a7 b7 a8 b8 a9 b9 a10 b10 a11 b11 a12 b12 hG1 hA1
  obtain ⟨H0, hH0⟩ : ∃ H0, (g ++ [(⟨.tip false, .vals [.int .u8 p0, .int .u8 p1, .int .u8 p2, .int .u8 p3, .int .i8 p4, .int .i8 p5, .int .u32 p6, .int .u32 p7, .int .u32 p8, .int .u64 p9, .int .u64 p10, .int .u64 p11, .int .u64 p12, px, .bool s, .int .u32 p15, .int .u64 p16]⟩ : ABlk)]) = H0 := ⟨_, rfl⟩
  rw [hH0] at eU hG1 hA1
  have hget0 : (H0 ++ putJs ⟨.tip false, .vals [.int .u8 p0, .int .u8 p1, .int .u8 p2, .int .u8 p3, .int .i8 p4, .int .i8 p5, .int .u32 p6, .int .u32 p7, .int .u32 p8, .int .u64 p9, .int .u64 p10, .int .u64 p11, .int .u64 p12, px, .bool s, .int .u32 p15, .int .u64 p16]⟩ (headV p0 p1 p2 p3 p4 p5 p6 p7 p8 p9 p10 p11 p12) (H0.length + 1))[H0.length + 4]? = some ⟨.tip false, .ints .u8 (layB sizesN (headV p0 p1 p2 p3 p4 p5 p6 p7 p8 p9 p10 p11 p12))⟩ := by
    rw [List.getElem?_append_right (by omega), Nat.add_sub_cancel_left]; rfl
  have hb0 : H0[g.length]? = some ⟨.tip false, .vals [.int .u8 p0, .int .u8 p1, .int .u8 p2, .int .u8 p3, .int .i8 p4, .int .i8 p5, .int .u32 p6, .int .u32 p7, .int .u32 p8, .int .u64 p9, .int .u64 p10, .int .u64 p11, .int .u64 p12, px, .bool s, .int .u32 p15, .int .u64 p16]⟩ := by rw [← hH0]; exact behind_get _ _ _
  have hL0 : g.length < H0.length := (List.getElem?_eq_some_iff.1 hb0).1
  have hG2 : Good (H0 ++ putJs ⟨.tip false, .vals [.int .u8 p0, .int .u8 p1, .int .u8 p2, .int .u8 p3, .int .i8 p4, .int .i8 p5, .int .u32 p6, .int .u32 p7, .int .u32 p8, .int .u64 p9, .int .u64 p10, .int .u64 p11, .int .u64 p12, px, .bool s, .int .u32 p15, .int .u64 p16]⟩ (headV p0 p1 p2 p3 p4 p5 p6 p7 p8 p9 p10 p11 p12) (H0.length + 1)) := good_app hG1 rfl
  have hA2 := hA1.app (putJs ⟨.tip false, .vals [.int .u8 p0, .int .u8 p1, .int .u8 p2, .int .u8 p3, .int .i8 p4, .int .i8 p5, .int .u32 p6, .int .u32 p7, .int .u32 p8, .int .u64 p9, .int .u64 p10, .int .u64 p11, .int .u64 p12, px, .bool s, .int .u32 p15, .int .u64 p16]⟩ (headV p0 p1 p2 p3 p4 p5 p6 p7 p8 p9 p10 p11 p12) (H0.length + 1))
  have hb1 : (H0 ++ putJs ⟨.tip false, .vals [.int .u8 p0, .int .u8 p1, .int .u8 p2, .int .u8 p3, .int .i8 p4, .int .i8 p5, .int .u32 p6, .int .u32 p7, .int .u32 p8, .int .u64 p9, .int .u64 p10, .int .u64 p11, .int .u64 p12, px, .bool s, .int .u32 p15, .int .u64 p16]⟩ (headV p0 p1 p2 p3 p4 p5 p6 p7 p8 p9 p10 p11 p12) (H0.length + 1))[g.length]? = some ⟨.tip false, .vals [.int .u8 p0, .int .u8 p1, .int .u8 p2, .int .u8 p3, .int .i8 p4, .int .i8 p5, .int .u32 p6, .int .u32 p7, .int .u32 p8, .int .u64 p9, .int .u64 p10, .int .u64 p11, .int .u64 p12, px, .bool s, .int .u32 p15, .int .u64 p16]⟩ := by rw [List.getElem?_append_left hL0]; exact hb0
  have c1' := (c1.app [⟨.tip false, .vals [.int .u8 p0, .int .u8 p1, .int .u8 p2, .int .u8 p3, .int .i8 p4, .int .i8 p5, .int .u32 p6, .int .u32 p7, .int .u32 p8, .int .u64 p9, .int .u64 p10, .int .u64 p11, .int .u64 p12, px, .bool s, .int .u32 p15, .int .u64 p16]⟩]).app
  have c2' := (c2.app [⟨.tip false, .vals [.int .u8 p0, .int .u8 p1, .int .u8 p2, .int .u8 p3, .int .i8 p4, .int .i8 p5, .int .u32 p6, .int .u32 p7, .int .u32 p8, .int .u64 p9, .int .u64 p10, .int .u64 p11, .int .u64 p12, px, .bool s, .int .u32 p15, .int .u64 p16]⟩]).app
  rw [hH0] at c1' c2'
  have c1' := c1' (putJs ⟨.tip false, .vals [.int .u8 p0, .int .u8 p1, .int .u8 p2, .int .u8 p3, .int .i8 p4, .int .i8 p5, .int .u32 p6, .int .u32 p7, .int .u32 p8, .int .u64 p9, .int .u64 p10, .int .u64 p11, .int .u64 p12, px, .bool s, .int .u32 p15, .int .u64 p16]⟩ (headV p0 p1 p2 p3 p4 p5 p6 p7 p8 p9 p10 p11 p12) (H0.length + 1))
  have c2' := c2' (putJs ⟨.tip false, .vals [.int .u8 p0, .int .u8 p1, .int .u8 p2, .int .u8 p3, .int .i8 p4, .int .i8 p5, .int .u32 p6, .int .u32 p7, .int .u32 p8, .int .u64 p9, .int .u64 p10, .int .u64 p11, .int .u64 p12, px, .bool s, .int .u32 p15, .int .u64 p16]⟩ (headV p0 p1 p2 p3 p4 p5 p6 p7 p8 p9 p10 p11 p12) (H0.length + 1))
  obtain ⟨H1, hH1⟩ : ∃ H1, H0 ++ putJs ⟨.tip false, .vals [.int .u8 p0, .int .u8 p1, .int .u8 p2, .int .u8 p3, .int .i8 p4, .int .i8 p5, .int .u32 p6, .int .u32 p7, .int .u32 p8, .int .u64 p9, .int .u64 p10, .int .u64 p11, .int .u64 p12, px, .bool s, .int .u32 p15, .int .u64 p16]⟩ (headV p0 p1 p2 p3 p4 p5 p6 p7 p8 p9 p10 p11 p12) (H0.length + 1) = H1 := ⟨_, rfl⟩
  rw [hH1] at eU hget0 hG2 hA2 hb1 c1' c2'
  have hlB := layB_byt sizesN (headV p0 p1 p2 p3 p4 p5 p6 p7 p8 p9 p10 p11 p12)
  have hlL : (layB sizesN (headV p0 p1 p2 p3 p4 p5 p6 p7 p8 p9 p10 p11 p12)).length = 48 := layB_len sizesN _ rfl
  have hfit := hv_of (B := D1) hm a0 b0 a1 b1 a2 b2 a3 b3 a4 b4 a5 b5 a6 b6 a7 b7 a8 b8 a9 b9 a10 b10 a11 b11 a12 b12 (by
    rcases c1.src with ⟨_, rfl⟩ | hs
    · intro x hx; simp at hx
    · exact hs.1)
  have eM := may_c (p0 := p0) (p1 := p1) (p2 := p2) (p3 := p3) (p4 := p4) (p5 := p5) (p6 := p6) (p7 := p7) (p8 := p8) (p9 := p9) (p10 := p10) (p11 := p11) (p12 := p12) (p15 := p15) (p16 := p16) (s := s) (x := px) hx hG2
  rw [hm] at eM
  obtain ⟨LB, hLB⟩ : ∃ LB, layB sizesN (headV p0 p1 p2 p3 p4 p5 p6 p7 p8 p9 p10 p11 p12) = LB := ⟨_, rfl⟩
  rw [hLB] at hget0 hlB hlL hfit
  obtain ⟨xv, ks, ws, hn, ea, sX, hws, hks, hnx⟩ := app_full hget0 hlB hlL c1'.src c1.len c1.le
  have hm' := hm
  simp only [mayH, Bool.and_eq_true, decide_eq_true_eq] at hm'
  obtain ⟨⟨⟨m1', m2'⟩, m3'⟩, m4'⟩ := hm'
  have d0 : (p0 * 64 + p1 * 8 + p2) / 64 = p0 := by omega
  have d1 : (p0 * 64 + p1 * 8 + p2) / 8 % 8 = p1 := by omega
  have d2 : (p0 * 64 + p1 * 8 + p2) % 8 = p2 := by omega
  have d3 := i8_back p4 a4 b4
  have d4 := i8_back p5 a5 b5
  have hDl : (LB ++ D1).length < 1000000000 := by have := c1.len; have := c1.le; rw [List.length_append]; omega
  obtain ⟨rv, js, r, eP, rP, gP, rb, rl⟩ := parse_ok (good_app hG2 hks) (hA2.app ks).1 sX hfit hDl (by omega) (by omega)
  rw [d0, d1, d2, d3, d4] at eP
  have hdrop : (LB ++ D1).drop 48 = D1 := List.drop_left' hlL
  rw [hdrop] at rP
  have hb2 : ((H1 ++ ks) ++ js)[g.length]? = some ⟨.tip false, .vals [.int .u8 p0, .int .u8 p1, .int .u8 p2, .int .u8 p3, .int .i8 p4, .int .i8 p5, .int .u32 p6, .int .u32 p7, .int .u32 p8, .int .u64 p9, .int .u64 p10, .int .u64 p11, .int .u64 p12, px, .bool s, .int .u32 p15, .int .u64 p16]⟩ := by
    have := (List.getElem?_eq_some_iff.1 hb1).1
    rw [List.append_assoc, List.getElem?_append_left this]; exact hb1
  have c1'' := (c1'.app ks).app js
  have c2'' := (c2'.app ks).app js
  have hA3 := (hA2.app ks).app js
  have hwd : wadd g.length [] ws = [] := wadd_ge fun b hb => by have := hws b hb; omega
  obtain ⟨H2, hH2⟩ : ∃ H2, (H1 ++ ks) ++ js = H2 := ⟨_, rfl⟩
  rw [hH2] at eP rP gP hb2 c1'' c2'' hA3
  have hL2 : g.length < H2.length := (List.getElem?_eq_some_iff.1 hb2).1
  have hG3 : Good (H2 ++ [⟨.tip false, .vals [.int .u8 p0, .int .u8 p1, .int .u8 p2, .int .u8 p3, .int .i8 p4, .int .i8 p5, .int .u32 p6, .int .u32 p7, .int .u32 p8, .int .u64 p9, .int .u64 p10, .int .u64 p11, .int .u64 p12, .nils, .bool false, .int .u32 0, .int .u64 0]⟩]) := good_app gP rfl
  have hA4 := hA3.app [⟨.tip false, .vals [.int .u8 p0, .int .u8 p1, .int .u8 p2, .int .u8 p3, .int .i8 p4, .int .i8 p5, .int .u32 p6, .int .u32 p7, .int .u32 p8, .int .u64 p9, .int .u64 p10, .int .u64 p11, .int .u64 p12, .nils, .bool false, .int .u32 0, .int .u64 0]⟩]
  have eS := same_c (p0 := p0) (p1 := p1) (p2 := p2) (p3 := p3) (p4 := p4) (p5 := p5) (p6 := p6) (p7 := p7) (p8 := p8) (p9 := p9) (p10 := p10) (p11 := p11) (p12 := p12) (p15 := p15) (p16 := p16) (q0 := p0) (q1 := p1) (q2 := p2) (q3 := p3) (q4 := p4) (q5 := p5) (q6 := p6) (q7 := p7) (q8 := p8) (q9 := p9) (q10 := p10) (q11 := p11) (q12 := p12) (q15 := 0) (q16 := 0) (ps := s) (qs := false) (px := px) (qx := .nils) hx rfl hG3
  rw [same_self] at eS
  have hst : sliceCells (H2 ++ [⟨.tip false, .vals [.int .u8 p0, .int .u8 p1, .int .u8 p2, .int .u8 p3, .int .i8 p4, .int .i8 p5, .int .u32 p6, .int .u32 p7, .int .u32 p8, .int .u64 p9, .int .u64 p10, .int .u64 p11, .int .u64 p12, .nils, .bool false, .int .u32 0, .int .u64 0]⟩]) 1 rv = some (.ints .u8 D1) := ((rP.app _).src (by
    rcases c1.src with ⟨_, rfl⟩ | hs
    · intro x hx; simp at hx
    · exact hs.1)).bytAt.2.1
  have hst1 : Src (H2 ++ [⟨.tip false, .vals [.int .u8 p0, .int .u8 p1, .int .u8 p2, .int .u8 p3, .int .i8 p4, .int .i8 p5, .int .u32 p6, .int .u32 p7, .int .u32 p8, .int .u64 p9, .int .u64 p10, .int .u64 p11, .int .u64 p12, .nils, .bool false, .int .u32 0, .int .u64 0]⟩]) z1 D1 → sliceCells (H2 ++ [⟨.tip false, .vals [.int .u8 p0, .int .u8 p1, .int .u8 p2, .int .u8 p3, .int .i8 p4, .int .i8 p5, .int .u32 p6, .int .u32 p7, .int .u32 p8, .int .u64 p9, .int .u64 p10, .int .u64 p11, .int .u64 p12, .nils, .bool false, .int .u32 0, .int .u64 0]⟩]) 1 z1 = some (.ints .u8 D1) := fun h => h.bytAt.2.1
  have hem : sb (bsOf []) = ByteArray.empty := rfl
  have s1 := src_or c1''.src [⟨.tip false, .vals [.int .u8 p0, .int .u8 p1, .int .u8 p2, .int .u8 p3, .int .i8 p4, .int .i8 p5, .int .u32 p6, .int .u32 p7, .int .u32 p8, .int .u64 p9, .int .u64 p10, .int .u64 p11, .int .u64 p12, .nils, .bool false, .int .u32 0, .int .u64 0]⟩]
  have s2 := src_or c2''.src [⟨.tip false, .vals [.int .u8 p0, .int .u8 p1, .int .u8 p2, .int .u8 p3, .int .i8 p4, .int .i8 p5, .int .u32 p6, .int .u32 p7, .int .u32 p8, .int .u64 p9, .int .u64 p10, .int .u64 p11, .int .u64 p12, .nils, .bool false, .int .u32 0, .int .u64 0]⟩]
  obtain ⟨u1, l1, e1, sh1⟩ := c1
  obtain ⟨u2, l2, e2, sh2⟩ := c2
  rw [form_parts]
  have hnr : noAny (some rv) = some rv := by obtain ⟨_, _, ⟨rfl, _⟩ | rfl⟩ := rP <;> rfl
  have hwsl : wadd g.length [] [] = [] := rfl
  obtain ⟨pr, _, kr⟩ := rP
  rcases sh1 with ⟨rfl, rfl, rfl⟩ | ⟨b, c, N, rfl, rfl, hmc, hmin⟩ <;> rcases sh2 with ⟨rfl, rfl, rfl⟩ | ⟨b2, cc2, N2, rfl, rfl, hmc2, hmin2⟩
  · obtain rfl : D1 = [] := List.length_eq_zero_iff.1 l1
    rcases kr with ⟨rfl, _⟩ | rfl
    all_goals
      try simp only [List.length_nil] at hst hnr eP
      simp (maxDischargeDepth := 9) -implicitDefEqProofs only [push_cast, reduceIte, Nat.reduceEqDiff, Nat.reduceAdd, Nat.reduceSub, Nat.reduceMul, Nat.reduceDiv, Nat.reduceMod, Nat.reduceLT, Nat.reduceLeDiff, Nat.reduceBEq, Nat.reduceBNe, reduceCtorEq, Int.reduceEq, Int.reduceNe, Int.reduceLT, Int.reduceLE, Int.reduceToNat, Int.reduceNeg, Int.reduceAdd, Int.reduceSub, Int.reduceMul, Int.reducePow, Nat.reducePow, Int.reduceBEq, nadd1, nadd2, nadd3, nadd4, nadd5, nadd6, nadd7, nadd8, nadd9, nadd10, nadd11, nadd12, hx, hH0, eU, hb0, hb1, hL0, eM, hn, ea, hnx, hwd, hwsl, eP, hH2, hb2, hL2, eS, hst, hnr, hem, bytesOf_sb]
      exact wp_ends (form2_w hG3 hA4 (by simp (maxDischargeDepth := 9) -implicitDefEqProofs only [push_cast, reduceIte, Nat.reduceEqDiff, Nat.reduceAdd, Nat.reduceSub, Nat.reduceMul, Nat.reduceDiv, Nat.reduceMod, Nat.reduceLT, Nat.reduceLeDiff, Nat.reduceBEq, Nat.reduceBNe, reduceCtorEq, Int.reduceEq, Int.reduceNe, Int.reduceLT, Int.reduceLE, Int.reduceToNat, Int.reduceNeg, Int.reduceAdd, Int.reduceSub, Int.reduceMul, Int.reducePow, Nat.reducePow, Int.reduceBEq]) s2 (by omega))
  · obtain rfl : D1 = [] := List.length_eq_zero_iff.1 l1
    rcases kr with ⟨rfl, _⟩ | rfl
    all_goals
      try simp only [List.length_nil] at hst hnr eP
      simp (maxDischargeDepth := 9) -implicitDefEqProofs only [push_cast, reduceIte, Nat.reduceEqDiff, Nat.reduceAdd, Nat.reduceSub, Nat.reduceMul, Nat.reduceDiv, Nat.reduceMod, Nat.reduceLT, Nat.reduceLeDiff, Nat.reduceBEq, Nat.reduceBNe, reduceCtorEq, Int.reduceEq, Int.reduceNe, Int.reduceLT, Int.reduceLE, Int.reduceToNat, Int.reduceNeg, Int.reduceAdd, Int.reduceSub, Int.reduceMul, Int.reducePow, Nat.reducePow, Int.reduceBEq, nadd1, nadd2, nadd3, nadd4, nadd5, nadd6, nadd7, nadd8, nadd9, nadd10, nadd11, nadd12, hx, hH0, eU, hb0, hb1, hL0, eM, hn, ea, hnx, hwd, hwsl, eP, hH2, hb2, hL2, eS, hst, hnr, hem, hmc2, hmin2, bytesOf_sb]
      exact wp_ends (form2_w hG3 hA4 (by simp (maxDischargeDepth := 9) -implicitDefEqProofs only [push_cast, reduceIte, Nat.reduceEqDiff, Nat.reduceAdd, Nat.reduceSub, Nat.reduceMul, Nat.reduceDiv, Nat.reduceMod, Nat.reduceLT, Nat.reduceLeDiff, Nat.reduceBEq, Nat.reduceBNe, reduceCtorEq, Int.reduceEq, Int.reduceNe, Int.reduceLT, Int.reduceLE, Int.reduceToNat, Int.reduceNeg, Int.reduceAdd, Int.reduceSub, Int.reduceMul, Int.reducePow, Nat.reducePow, Int.reduceBEq]) s2 (by omega))
  · have hst2 := hst1 (s1.resolve_left fun h => by cases h.1)
    rcases kr with ⟨rfl, _⟩ | rfl
    all_goals
      simp (maxDischargeDepth := 9) -implicitDefEqProofs only [push_cast, reduceIte, Nat.reduceEqDiff, Nat.reduceAdd, Nat.reduceSub, Nat.reduceMul, Nat.reduceDiv, Nat.reduceMod, Nat.reduceLT, Nat.reduceLeDiff, Nat.reduceBEq, Nat.reduceBNe, reduceCtorEq, Int.reduceEq, Int.reduceNe, Int.reduceLT, Int.reduceLE, Int.reduceToNat, Int.reduceNeg, Int.reduceAdd, Int.reduceSub, Int.reduceMul, Int.reducePow, Nat.reducePow, Int.reduceBEq, nadd1, nadd2, nadd3, nadd4, nadd5, nadd6, nadd7, nadd8, nadd9, nadd10, nadd11, nadd12, hx, hH0, eU, hb0, hb1, hL0, eM, hn, ea, hnx, hwd, hwsl, eP, hH2, hb2, hL2, eS, hst, hst2, hnr, hmc, hmin, bytesOf_sb]
      exact wp_ends (form2_w hG3 hA4 (by simp (maxDischargeDepth := 9) -implicitDefEqProofs only [push_cast, reduceIte, Nat.reduceEqDiff, Nat.reduceAdd, Nat.reduceSub, Nat.reduceMul, Nat.reduceDiv, Nat.reduceMod, Nat.reduceLT, Nat.reduceLeDiff, Nat.reduceBEq, Nat.reduceBNe, reduceCtorEq, Int.reduceEq, Int.reduceNe, Int.reduceLT, Int.reduceLE, Int.reduceToNat, Int.reduceNeg, Int.reduceAdd, Int.reduceSub, Int.reduceMul, Int.reducePow, Nat.reducePow, Int.reduceBEq]) s2 (by omega))
  · have hst2 := hst1 (s1.resolve_left fun h => by cases h.1)
    rcases kr with ⟨rfl, _⟩ | rfl
    all_goals
      simp (maxDischargeDepth := 9) -implicitDefEqProofs only [push_cast, reduceIte, Nat.reduceEqDiff, Nat.reduceAdd, Nat.reduceSub, Nat.reduceMul, Nat.reduceDiv, Nat.reduceMod, Nat.reduceLT, Nat.reduceLeDiff, Nat.reduceBEq, Nat.reduceBNe, reduceCtorEq, Int.reduceEq, Int.reduceNe, Int.reduceLT, Int.reduceLE, Int.reduceToNat, Int.reduceNeg, Int.reduceAdd, Int.reduceSub, Int.reduceMul, Int.reducePow, Nat.reducePow, Int.reduceBEq, nadd1, nadd2, nadd3, nadd4, nadd5, nadd6, nadd7, nadd8, nadd9, nadd10, nadd11, nadd12, hx, hH0, eU, hb0, hb1, hL0, eM, hn, ea, hnx, hwd, hwsl, eP, hH2, hb2, hL2, eS, hst, hst2, hnr, hmc, hmin, hmc2, hmin2, bytesOf_sb]
      exact wp_ends (form2_w hG3 hA4 (by simp (maxDischargeDepth := 9) -implicitDefEqProofs only [push_cast, reduceIte, Nat.reduceEqDiff, Nat.reduceAdd, Nat.reduceSub, Nat.reduceMul, Nat.reduceDiv, Nat.reduceMod, Nat.reduceLT, Nat.reduceLeDiff, Nat.reduceBEq, Nat.reduceBNe, reduceCtorEq, Int.reduceEq, Int.reduceNe, Int.reduceLT, Int.reduceLE, Int.reduceToNat, Int.reduceNeg, Int.reduceAdd, Int.reduceSub, Int.reduceMul, Int.reducePow, Nat.reducePow, Int.reduceBEq]) s2 (by omega))
theorem form_body (g : AHeap) (hg : Good g) (ha : At0 g) (p0 p1 p2 p3 p4 p5 p6 p7 p8 p9 p10 p11 p12 : Int) (px : AV) (s : Bool) (p15 p16 : Int) (y1 y2 : AV) (hx : px.isCell = true) (a0 : 0 ≤ p0) (b0 : p0 ≤ 255) (a1 : 0 ≤ p1) (b1 : p1 ≤ 255) (a2 : 0 ≤ p2) (b2 : p2 ≤ 255) (a3 : 0 ≤ p3) (b3 : p3 ≤ 255) (a4 : -128 ≤ p4) (b4 : p4 ≤ 127) (a5 : -128 ≤ p5) (b5 : p5 ≤ 127) (a6 : 0 ≤ p6) (b6 : p6 ≤ 4294967295) (a7 : 0 ≤ p7) (b7 : p7 ≤ 4294967295) (a8 : 0 ≤ p8) (b8 : p8 ≤ 4294967295) (a9 : 0 ≤ p9) (b9 : p9 ≤ 18446744073709551615) (a10 : 0 ≤ p10) (b10 : p10 ≤ 18446744073709551615) (a11 : 0 ≤ p11) (b11 : p11 ≤ 18446744073709551615) (a12 : 0 ≤ p12) (b12 : p12 ≤ 18446744073709551615) (h1 : Ty g (.sl [.i .u8]) y1) (h2 : Ty g (.sl [.i .u8]) y2) : Wp (xbody (W CP) M5 [.agg [.int .u8 p0, .int .u8 p1, .int .u8 p2, .int .u8 p3, .int .i8 p4, .int .i8 p5, .int .u32 p6, .int .u32 p7, .int .u32 p8, .int .u64 p9, .int .u64 p10, .int .u64 p11, .int .u64 p12, px, .bool s, .int .u32 p15, .int .u64 p16], y1, y2] g) fun r => r.1 = .bool true := by
  obtain ⟨z1, D1, m1, c1⟩ := cut_of h1
  obtain ⟨z2, D2, m2, c2⟩ := cut_of h2
  cases hm : mayH p0 p1 p2 with
  | true => exact form_yes hg ha hx a0 b0 a1 b1 a2 b2 a3 b3 a4 b4 a5 b5 a6 b6 a7 b7 a8 b8 a9 b9 a10 b10 a11 b11 a12 b12 c1 c2 hm
  | false => exact form_no hg ha hx a0 b0 a1 b1 a2 b2 a3 b3 a4 b4 a5 b5 a6 b6 a7 b7 a8 b8 a9 b9 a10 b10 a11 b11 a12 b12 c1 c2 hm
theorem ty_nil {g g' : AHeap} {l : List CK} {y : AV} (h : Ty g (.sl l) y) (h0 : y.lt 0 = true) : Ty g' (.sl l) y := by
  simp only [Ty] at h ⊢
  rcases h with rfl | ⟨b, n, c, es, rfl, _⟩
  · exact Or.inl rfl
  · simp [AV.lt] at h0
theorem form_law (js : AHeap) (avs : List AV) (hx : Ext js) (ht : TyA (CP.gl ++ js) [.agg [.i .u8, .i .u8, .i .u8, .i .u8, .i .i8, .i .i8, .i .u32, .i .u32, .i .u32, .i .u64, .i .u64, .i .u64, .i .u64, .sl [.i .u16, .sl [.i .u8]], .b, .i .u32, .i .u64], .one (.sl [.i .u8]), .one (.sl [.i .u8])] avs) : ∃ h' ws, W CP 5 avs (CP.gl ++ js) = some (.bool true, h', ws) := by
  simp only [TyA] at ht
  obtain ⟨cs0, _, rfl, k0, n17, _, rfl, k1, n18, _, rfl, k2, rfl⟩ := ht
  simp only [TyL, Ty] at k0 k1 k2
  obtain ⟨_, _, rfl, ⟨n0, rfl, a0, b0⟩, _, _, rfl, ⟨n1, rfl, a1, b1⟩, _, _, rfl, ⟨n2, rfl, a2, b2⟩, _, _, rfl, ⟨n3, rfl, a3, b3⟩, _, _, rfl, ⟨n4, rfl, a4, b4⟩, _, _, rfl, ⟨n5, rfl, a5, b5⟩, _, _, rfl, ⟨n6, rfl, a6, b6⟩, _, _, rfl, ⟨n7, rfl, a7, b7⟩, _, _, rfl, ⟨n8, rfl, a8, b8⟩, _, _, rfl, ⟨n9, rfl, a9, b9⟩, _, _, rfl, ⟨n10, rfl, a10, b10⟩, _, _, rfl, ⟨n11, rfl, a11, b11⟩, _, _, rfl, ⟨n12, rfl, a12, b12⟩, n13, _, rfl, y13, _, _, rfl, ⟨n14, rfl⟩, _, _, rfl, ⟨n15, rfl, a15, b15⟩, _, _, rfl, ⟨n16, rfl, a16, b16⟩, rfl⟩ := k0
  have y17 := k1
  have y18 := k2
  have a0' : 0 ≤ n0 := a0
  have b0' : n0 ≤ 255 := b0
  have a1' : 0 ≤ n1 := a1
  have b1' : n1 ≤ 255 := b1
  have a2' : 0 ≤ n2 := a2
  have b2' : n2 ≤ 255 := b2
  have a3' : 0 ≤ n3 := a3
  have b3' : n3 ≤ 255 := b3
  have a4' : -128 ≤ n4 := a4
  have b4' : n4 ≤ 127 := b4
  have a5' : -128 ≤ n5 := a5
  have b5' : n5 ≤ 127 := b5
  have a6' : 0 ≤ n6 := a6
  have b6' : n6 ≤ 4294967295 := b6
  have a7' : 0 ≤ n7 := a7
  have b7' : n7 ≤ 4294967295 := b7
  have a8' : 0 ≤ n8 := a8
  have b8' : n8 ≤ 4294967295 := b8
  have a9' : 0 ≤ n9 := a9
  have b9' : n9 ≤ 18446744073709551615 := b9
  have a10' : 0 ≤ n10 := a10
  have b10' : n10 ≤ 18446744073709551615 := b10
  have a11' : 0 ≤ n11 := a11
  have b11' : n11 ≤ 18446744073709551615 := b11
  have a12' : 0 ≤ n12 := a12
  have b12' : n12 ≤ 18446744073709551615 := b12
  have a13 : Ty (CP.gl ++ js) (.sl [.i .u16, .sl [.i .u8]]) n13 := by simp only [Ty]; exact y13
  have a15' : 0 ≤ n15 := a15
  have b15' : n15 ≤ 4294967295 := b15
  have a16' : 0 ≤ n16 := a16
  have b16' : n16 ≤ 18446744073709551615 := b16
  have a17 : Ty (CP.gl ++ js) (.sl [.i .u8]) n17 := by simp only [Ty]; exact y17
  have a18 : Ty (CP.gl ++ js) (.sl [.i .u8]) n18 := by simp only [Ty]; exact y18
  refine W_law (m := M5) (fun _ => rfl) rfl (form_body _ (good_ext hx) (At0_ext hx) n0 n1 n2 n3 n4 n5 n6 n7 n8 n9 n10 n11 n12 n13 n14 n15 n16 n17 n18 (Ty_cell a13) a0' b0' a1' b1' a2' b2' a3' b3' a4' b4' a5' b5' a6' b6' a7' b7' a8' b8' a9' b9' a10' b10' a11' b11' a12' b12' a17 a18) fun h0 => form_body _ good_gl At0_gl n0 n1 n2 n3 n4 n5 n6 n7 n8 n9 n10 n11 n12 n13 n14 n15 n16 n17 n18 (Ty_cell a13) a0' b0' a1' b1' a2' b2' a3' b3' a4' b4' a5' b5' a6' b6' a7' b7' a8' b8' a9' b9' a10' b10' a11' b11' a12' b12' (ty_nil a17 ?_) (ty_nil a18 ?_)
  · simp only [AV.lts, Bool.and_eq_true] at h0
    exact h0.2.1
  · simp only [AV.lts, Bool.and_eq_true] at h0
    exact h0.2.2.1
theorem form_kinds : aksOf X.P 20 [27, 28, 28] = some [.agg [.i .u8, .i .u8, .i .u8, .i .u8, .i .i8, .i .i8, .i .u32, .i .u32, .i .u32, .i .u64, .i .u64, .i .u64, .i .u64, .sl [.i .u16, .sl [.i .u8]], .b, .i .u32, .i .u64], .one (.sl [.i .u8]), .one (.sl [.i .u8])] := by kernel_rfl

end Go.Proofs.YtpmibaeajmfdpaaDoorW.AI.H
