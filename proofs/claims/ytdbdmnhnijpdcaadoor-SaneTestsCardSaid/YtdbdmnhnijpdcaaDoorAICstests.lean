import Derived.Test.YtdbdmnhnijpdcaaDoorAICsane6
import Derived.Test.YtdbdmnhnijpdcaaDoorAICsfar
namespace Go.Proofs.YtdbdmnhnijpdcaaDoorW.AI.C
open Go Go.Proofs.YtdbdmnhnijpdcaaDoorW.AI Go.RowKit
set_option maxRecDepth 100000
set_option linter.unusedVariables false
set_option linter.unusedSimpArgs false
set_option maxHeartbeats 4000000 in
theorem tests_body (g : AHeap) (hg : Good g) (ha : At0 g) (p0 p1 p2 p3 p4 p5 p6 p7 p8 p9 p10 p11 p12 : Int) (x : AV) (s : Bool) (p15 p16 : Int) (hx : x.isCell = true) (q3 : 0 ≤ p3)
    (a6 : 0 ≤ p6) (b6 : p6 < 4294967296) (a7 : 0 ≤ p7) (b7 : p7 < 4294967296) (a8 : 0 ≤ p8) (b8 : p8 < 4294967296) :
    Wp (xbody (W CS) M4 [.agg [.int .u8 p0, .int .u8 p1, .int .u8 p2, .int .u8 p3, .int .i8 p4, .int .i8 p5, .int .u32 p6, .int .u32 p7, .int .u32 p8, .int .u64 p9, .int .u64 p10, .int .u64 p11, .int .u64 p12, x, .bool s, .int .u32 p15, .int .u64 p16]] g) fun r => r.1 = .bool true := by
  have hG := good_app (js := [⟨.tip false, .vals [.int .u8 p0, .int .u8 p1, .int .u8 p2, .int .u8 p3, .int .i8 p4, .int .i8 p5, .int .u32 p6, .int .u32 p7, .int .u32 p8, .int .u64 p9, .int .u64 p10, .int .u64 p11, .int .u64 p12, x, .bool s, .int .u32 p15, .int .u64 p16]⟩]) hg rfl
  have hA := At0.app ha [⟨.tip false, .vals [.int .u8 p0, .int .u8 p1, .int .u8 p2, .int .u8 p3, .int .i8 p4, .int .i8 p5, .int .u32 p6, .int .u32 p7, .int .u32 p8, .int .u64 p9, .int .u64 p10, .int .u64 p11, .int .u64 p12, x, .bool s, .int .u32 p15, .int .u64 p16]⟩]
  have f1 := test_c (p0 := p0) (p1 := p1) (p2 := p2) (p3 := p3) (p4 := p4) (p5 := p5) (p6 := p6) (p7 := p7) (p8 := p8) (p9 := p9) (p10 := p10) (p11 := p11) (p12 := p12) (p15 := p15) (p16 := p16) (s := s) hx a6 b6 a7 b7 hG hA
  have f2 := kiss_c (p0 := p0) (p1 := p1) (p2 := p2) (p3 := p3) (p4 := p4) (p5 := p5) (p6 := p6) (p7 := p7) (p8 := p8) (p9 := p9) (p10 := p10) (p11 := p11) (p12 := p12) (p15 := p15) (p16 := p16) (s := s) hx a8 b8 hG
  have f3 := rho_c (p0 := p0) (p1 := p1) (p2 := p2) (p3 := p3) (p4 := p4) (p5 := p5) (p6 := p6) (p7 := p7) (p8 := p8) (p9 := p9) (p10 := p10) (p11 := p11) (p12 := p12) (p15 := p15) (p16 := p16) (s := s) hx a6 b6 a7 b7 hG
  have g1 := refTest_c (p0 := p0) (p1 := p1) (p2 := p2) (p3 := p3) (p4 := p4) (p5 := p5) (p6 := p6) (p7 := p7) (p8 := p8) (p9 := p9) (p10 := p10) (p11 := p11) (p12 := p12) (p15 := p15) (p16 := p16) (s := s) hx a6 b6 a7 b7 hG
  have g2 := refKiss_c (p0 := p0) (p1 := p1) (p2 := p2) (p3 := p3) (p4 := p4) (p5 := p5) (p6 := p6) (p7 := p7) (p8 := p8) (p9 := p9) (p10 := p10) (p11 := p11) (p12 := p12) (p15 := p15) (p16 := p16) (s := s) hx q3 a8 b8 hG
  have g3 := refRho_c (p0 := p0) (p1 := p1) (p2 := p2) (p3 := p3) (p4 := p4) (p5 := p5) (p6 := p6) (p7 := p7) (p8 := p8) (p9 := p9) (p10 := p10) (p11 := p11) (p12 := p12) (p15 := p15) (p16 := p16) (s := s) hx a6 b6 a7 b7 hG
  have aw := fun h => law08_alive h
  have h1 := fun l h => act_c l h
  have h2 := fun l h => refAct_c l h
  generalize testV (!decide (p2 = 4)) (decide (p3 = 0)) (decide (p0 = 3) || decide (15 < p3)) (decide (p11 = 0) || decide (p12 = 0)) (decide (16000000000 < rhoV p6 p7)) = E at f1 g1
  generalize rhoV p6 p7 = ρ at f3 g3
  by_cases c3 : p3 = 0
  · rw [if_pos c3] at f2 g2
    simp (maxDischargeDepth := 9) -implicitDefEqProofs only [push_cast, reduceIte, Nat.reduceEqDiff, Nat.reduceAdd, Nat.reduceSub, Nat.reduceMul, Nat.reduceDiv, Nat.reduceMod, Nat.reduceLT, Nat.reduceLeDiff, Nat.reduceBEq, Nat.reduceBNe, reduceCtorEq, Int.reduceEq, Int.reduceNe, Int.reduceLT, Int.reduceLE, Int.reduceToNat, Int.reduceNeg, Int.reduceAdd, Int.reduceSub, Int.reduceMul, Int.reducePow, Nat.reducePow, Int.reduceBEq, M4, hx, f1, f2, f3, g1, g2, g3, h1, h2, aw, sb_toList, list_beq, decide_true]
  · rw [if_neg c3] at f2 g2
    simp (maxDischargeDepth := 9) -implicitDefEqProofs only [push_cast, reduceIte, Nat.reduceEqDiff, Nat.reduceAdd, Nat.reduceSub, Nat.reduceMul, Nat.reduceDiv, Nat.reduceMod, Nat.reduceLT, Nat.reduceLeDiff, Nat.reduceBEq, Nat.reduceBNe, reduceCtorEq, Int.reduceEq, Int.reduceNe, Int.reduceLT, Int.reduceLE, Int.reduceToNat, Int.reduceNeg, Int.reduceAdd, Int.reduceSub, Int.reduceMul, Int.reducePow, Nat.reducePow, Int.reduceBEq, M4, hx, f1, f2, f3, g1, g2, g3, h1, h2, aw, sb_toList, list_beq, decide_true]
theorem tests_all (g : AHeap) (hg : Good g) (ha : At0 g) (n0 : Int) (n1 : Int) (n2 : Int) (n3 : Int) (n4 : Int) (n5 : Int) (n6 : Int) (n7 : Int) (n8 : Int) (n9 : Int) (n10 : Int) (n11 : Int) (n12 : Int) (n13 : AV) (n14 : Bool) (n15 : Int) (n16 : Int) (a0 : 0 ≤ n0) (b0 : n0 ≤ 255) (a1 : 0 ≤ n1) (b1 : n1 ≤ 255) (a2 : 0 ≤ n2) (b2 : n2 ≤ 255) (a3 : 0 ≤ n3) (b3 : n3 ≤ 255) (a4 : -128 ≤ n4) (b4 : n4 ≤ 127) (a5 : -128 ≤ n5) (b5 : n5 ≤ 127) (a6 : 0 ≤ n6) (b6 : n6 ≤ 4294967295) (a7 : 0 ≤ n7) (b7 : n7 ≤ 4294967295) (a8 : 0 ≤ n8) (b8 : n8 ≤ 4294967295) (a9 : 0 ≤ n9) (b9 : n9 ≤ 18446744073709551615) (a10 : 0 ≤ n10) (b10 : n10 ≤ 18446744073709551615) (a11 : 0 ≤ n11) (b11 : n11 ≤ 18446744073709551615) (a12 : 0 ≤ n12) (b12 : n12 ≤ 18446744073709551615) (a13 : n13.isCell = true) (a15 : 0 ≤ n15) (b15 : n15 ≤ 4294967295) (a16 : 0 ≤ n16) (b16 : n16 ≤ 18446744073709551615) :
    Wp (xbody (W CS) M4 [.agg [.int .u8 n0, .int .u8 n1, .int .u8 n2, .int .u8 n3, .int .i8 n4, .int .i8 n5, .int .u32 n6, .int .u32 n7, .int .u32 n8, .int .u64 n9, .int .u64 n10, .int .u64 n11, .int .u64 n12, n13, .bool n14, .int .u32 n15, .int .u64 n16]] g) fun r => r.1 = .bool true := tests_body g hg ha n0 n1 n2 n3 n4 n5 n6 n7 n8 n9 n10 n11 n12 n13 n14 n15 n16 a13 a3 a6 (by omega) a7 (by omega) a8 (by omega)
theorem stests_law (js : AHeap) (avs : List AV) (hx : Ext js) (ht : TyA (CS.gl ++ js) [.agg [.i .u8, .i .u8, .i .u8, .i .u8, .i .i8, .i .i8, .i .u32, .i .u32, .i .u32, .i .u64, .i .u64, .i .u64, .i .u64, .sl [.i .u16, .sl [.i .u8]], .b, .i .u32, .i .u64]] avs) : ∃ h' ws, W CS 4 avs (CS.gl ++ js) = some (.bool true, h', ws) := by
  simp only [TyA] at ht
  obtain ⟨cs0, _, rfl, k0, rfl⟩ := ht
  simp only [TyL, Ty] at k0
  obtain ⟨_, _, rfl, ⟨n0, rfl, a0, b0⟩, _, _, rfl, ⟨n1, rfl, a1, b1⟩, _, _, rfl, ⟨n2, rfl, a2, b2⟩, _, _, rfl, ⟨n3, rfl, a3, b3⟩, _, _, rfl, ⟨n4, rfl, a4, b4⟩, _, _, rfl, ⟨n5, rfl, a5, b5⟩, _, _, rfl, ⟨n6, rfl, a6, b6⟩, _, _, rfl, ⟨n7, rfl, a7, b7⟩, _, _, rfl, ⟨n8, rfl, a8, b8⟩, _, _, rfl, ⟨n9, rfl, a9, b9⟩, _, _, rfl, ⟨n10, rfl, a10, b10⟩, _, _, rfl, ⟨n11, rfl, a11, b11⟩, _, _, rfl, ⟨n12, rfl, a12, b12⟩, n13, _, rfl, y13, _, _, rfl, ⟨n14, rfl⟩, _, _, rfl, ⟨n15, rfl, a15, b15⟩, _, _, rfl, ⟨n16, rfl, a16, b16⟩, rfl⟩ := k0
  have a0' : 0 ≤ n0 := a0
  have b0' : n0 ≤ 255 := b0
  have a1' : 0 ≤ n1 := a1
  have b1' : n1 ≤ 255 := b1
  have a2' : 0 ≤ n2 := a2
  have b2' : n2 ≤ 255 := b2
  have a3' : 0 ≤ n3 := a3
  have b3' : n3 ≤ 255 := b3
  have a4' : -128 ≤ n4 := a4
  have b4' : n4 ≤ 127 := b4
  have a5' : -128 ≤ n5 := a5
  have b5' : n5 ≤ 127 := b5
  have a6' : 0 ≤ n6 := a6
  have b6' : n6 ≤ 4294967295 := b6
  have a7' : 0 ≤ n7 := a7
  have b7' : n7 ≤ 4294967295 := b7
  have a8' : 0 ≤ n8 := a8
  have b8' : n8 ≤ 4294967295 := b8
  have a9' : 0 ≤ n9 := a9
  have b9' : n9 ≤ 18446744073709551615 := b9
  have a10' : 0 ≤ n10 := a10
  have b10' : n10 ≤ 18446744073709551615 := b10
  have a11' : 0 ≤ n11 := a11
  have b11' : n11 ≤ 18446744073709551615 := b11
  have a12' : 0 ≤ n12 := a12
  have b12' : n12 ≤ 18446744073709551615 := b12
  have a13 : Ty (CS.gl ++ js) (.sl [.i .u16, .sl [.i .u8]]) n13 := by simp only [Ty]; exact y13
  have a15' : 0 ≤ n15 := a15
  have b15' : n15 ≤ 4294967295 := b15
  have a16' : 0 ≤ n16 := a16
  have b16' : n16 ≤ 18446744073709551615 := b16
  exact W_law (m := M4) (fun _ => rfl) rfl (tests_all _ (good_ext hx) (At0_ext hx) n0 n1 n2 n3 n4 n5 n6 n7 n8 n9 n10 n11 n12 n13 n14 n15 n16 a0' b0' a1' b1' a2' b2' a3' b3' a4' b4' a5' b5' a6' b6' a7' b7' a8' b8' a9' b9' a10' b10' a11' b11' a12' b12' (Ty_cell a13) a15' b15' a16' b16') fun _ => tests_all _ good_gl At0_gl n0 n1 n2 n3 n4 n5 n6 n7 n8 n9 n10 n11 n12 n13 n14 n15 n16 a0' b0' a1' b1' a2' b2' a3' b3' a4' b4' a5' b5' a6' b6' a7' b7' a8' b8' a9' b9' a10' b10' a11' b11' a12' b12' (Ty_cell a13) a15' b15' a16' b16'
theorem stests_kinds : aksOf X.P 20 [29] = some [.agg [.i .u8, .i .u8, .i .u8, .i .u8, .i .i8, .i .i8, .i .u32, .i .u32, .i .u32, .i .u64, .i .u64, .i .u64, .i .u64, .sl [.i .u16, .sl [.i .u8]], .b, .i .u32, .i .u64]] := by kernel_rfl
end Go.Proofs.YtdbdmnhnijpdcaaDoorW.AI.C
