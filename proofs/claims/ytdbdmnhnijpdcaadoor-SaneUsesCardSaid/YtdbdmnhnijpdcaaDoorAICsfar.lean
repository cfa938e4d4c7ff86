import Derived.Test.YtdbdmnhnijpdcaaDoorAICsane3
import Derived.Test.YtdbdmnhnijpdcaaDoorAICardT
namespace Go.Proofs.YtdbdmnhnijpdcaaDoorW.AI.C
open Go Go.Proofs.YtdbdmnhnijpdcaaDoorW.AI Go.RowKit
set_option maxRecDepth 100000
set_option linter.unusedVariables false
set_option linter.unusedSimpArgs false
theorem sN_mono {a b : Int} (h : a ≤ b) : sN a ≤ sN b := by unfold sN; omega
theorem rho_mono {a b c d : Int} (h : a ≤ c) (h' : b ≤ d) : rhoV a b ≤ rhoV c d := by
  have := sN_mono h
  have := sN_mono h'
  unfold rhoV
  omega
theorem testV_mono (b1 b2 b3 b4 b5 b5' : Bool) (h : b5 = true → b5' = true) : testV b1 b2 b3 b4 b5 ≠ 0 → testV b1 b2 b3 b4 b5' ≠ 0 := by
  cases b1 <;> cases b2 <;> cases b3 <;> cases b4 <;> cases b5 <;> cases b5' <;> simp_all [testV]
theorem Ty_cell {h : AHeap} {l : List CK} {x : AV} (t : Ty h (.sl l) x) : x.isCell = true := by
  simp only [Ty] at t
  rcases t with rfl | ⟨b, n, c, es, rfl, _⟩ <;> rfl
theorem good_gl : Good CS.gl := rfl
theorem good_ext {js : AHeap} (h : Ext js) : Good (CS.gl ++ js) := good_app good_gl (List.all_eq_true.2 fun x hx => by unfold notOld; rcases h x hx with e | e <;> rw [e])
theorem At0_gl : At0 CS.gl := at0_gl
theorem At0_ext {js : AHeap} (h : Ext js) : At0 (CS.gl ++ js) := at0_gl.app js
theorem tmod_in {a c : Int} (ha : 0 ≤ a) (hc : 0 < c) : 0 ≤ a.tmod c ∧ a.tmod c < c := by rw [Int.tmod_eq_emod_of_nonneg ha]; exact ⟨Int.emod_nonneg _ (by omega), Int.emod_lt_of_pos _ hc⟩
theorem tmod_to {a : Int} (c : Int) (ha : 0 ≤ a) (hc : 0 < c) : ∃ r, a.tmod c = r ∧ 0 ≤ r ∧ r < c := ⟨_, rfl, tmod_in ha hc⟩
theorem law08_alive (h : AHeap) : W CS 28 [] h = some (.bool true, h, []) := W_known (n := 200) (fun _ => rfl) (by kernel_rfl) h
theorem law_walkS {f n : Nat} {aks : List AK} (hlaw : ∀ (js : AHeap) (avs : List AV), Ext js → TyA (CS.gl ++ js) aks avs → ∃ h' ws, W CS f avs (CS.gl ++ js) = some (.bool true, h', ws)) {ts : List TypeId} (hk : aksOf X.P n ts = some aks)
    {H : Type} {enc : TypeId × Value → H} {w : World} {base : Nat} {args : Array Value} {ds : List (DataW H)} {ps : List MemPlace} (hl : Laid CS.gl X.gid w)
    (ht : DataW.TrodAll enc Go.Proofs.Tryd.prog w 0 (fun _ => true) true ts args.toList ds ps) (hw : ∀ (j : Nat) t v, ts[j]? = some t → args.toList[j]? = some v → Value.okWide Go.Proofs.Tryd.prog w .any base t v) :
    Calls Go.Proofs.Tryd.prog f args w fun e w' => e = .returned (.bool true) ∧ Below w.heap.size w w' :=
  law_laid (X := X) CS follows rfl mp_chk primOkS hlaw hl hk ht hw
set_option maxHeartbeats 4000000 in
theorem far_body (g : AHeap) (hg : Good g) (ha : At0 g) (p0 p1 p2 p3 p4 p5 p6 p7 p8 p9 p10 p11 p12 : Int) (x : AV) (s : Bool) (p15 p16 dl ds : Int) (hx : x.isCell = true) (a6 : 0 ≤ p6) (a7 : 0 ≤ p7) (ad : 0 ≤ dl) (asd : 0 ≤ ds) :
    Wp (xbody (W CS) M7 [.agg [.int .u8 p0, .int .u8 p1, .int .u8 p2, .int .u8 p3, .int .i8 p4, .int .i8 p5, .int .u32 p6, .int .u32 p7, .int .u32 p8, .int .u64 p9, .int .u64 p10, .int .u64 p11, .int .u64 p12, x, .bool s, .int .u32 p15, .int .u64 p16], .int .u32 dl, .int .u32 ds] g) fun r => r.1 = .bool true := by
  obtain ⟨d, hd, d1, d2⟩ := tmod_to 16777216 a6 (by omega)
  obtain ⟨e, he, e1, e2⟩ := tmod_to 16777216 a7 (by omega)
  obtain ⟨u, hu, u1, u2⟩ := tmod_to 16777216 ad (by omega)
  obtain ⟨v, hv, v1, v2⟩ := tmod_to 16777216 asd (by omega)
  obtain ⟨D, hD⟩ : ∃ D, d + u = D := ⟨_, rfl⟩
  obtain ⟨E, hE⟩ : ∃ E, e + v = E := ⟨_, rfl⟩
  have w1 : IntKind.u32.wrap (d + u) = D := by rw [wr_u32 _ (by omega) (by omega)]; exact hD
  have w2 : IntKind.u32.wrap (e + v) = E := by rw [wr_u32 _ (by omega) (by omega)]; exact hE
  have w3 : IntKind.u32.wrap (e + 65536) = e + 65536 := wr_u32 _ (by omega) (by omega)
  have w4 : IntKind.u32.wrap (d + 131072) = d + 131072 := wr_u32 _ (by omega) (by omega)
  have r1 : rhoV d e ≤ rhoV D E ∧ 0 ≤ rhoV d e ∧ rhoV d e < 1000000000000 := ⟨rho_mono (by omega) (by omega), by unfold rhoV sN; omega, by unfold rhoV sN; omega⟩
  have r2 : rhoV d (e + 65536) = rhoV d e + 1000000000 := by unfold rhoV sN; omega
  have r3 : rhoV (d + 131072) e = rhoV d e + 1000000000 := by unfold rhoV sN; omega
  have hG := fun js (hj : js.all notOld = true) => good_app (js := ⟨.tip false, .vals [.int .u8 p0, .int .u8 p1, .int .u8 p2, .int .u8 p3, .int .i8 p4, .int .i8 p5, .int .u32 (d), .int .u32 (e), .int .u32 p8, .int .u64 p9, .int .u64 p10, .int .u64 p11, .int .u64 p12, x, .bool s, .int .u32 p15, .int .u64 p16]⟩ :: js) hg (by simpa [notOld] using hj)
  have hA := fun js => At0.app ha (⟨.tip false, .vals [.int .u8 p0, .int .u8 p1, .int .u8 p2, .int .u8 p3, .int .i8 p4, .int .i8 p5, .int .u32 (d), .int .u32 (e), .int .u32 p8, .int .u64 p9, .int .u64 p10, .int .u64 p11, .int .u64 p12, x, .bool s, .int .u32 p15, .int .u64 p16]⟩ :: js)
  have f1 := rho_c (p0 := p0) (p1 := p1) (p2 := p2) (p3 := p3) (p4 := p4) (p5 := p5) (p6 := d) (p7 := e) (p8 := p8) (p9 := p9) (p10 := p10) (p11 := p11) (p12 := p12) (p15 := p15) (p16 := p16) (s := s) hx d1 (by omega) e1 (by omega) (hG [⟨.tip false, .vals [.int .u8 p0, .int .u8 p1, .int .u8 p2, .int .u8 p3, .int .i8 p4, .int .i8 p5, .int .u32 (D), .int .u32 (E), .int .u32 p8, .int .u64 p9, .int .u64 p10, .int .u64 p11, .int .u64 p12, x, .bool s, .int .u32 p15, .int .u64 p16]⟩] rfl)
  have f2 := rho_c (p0 := p0) (p1 := p1) (p2 := p2) (p3 := p3) (p4 := p4) (p5 := p5) (p6 := D) (p7 := E) (p8 := p8) (p9 := p9) (p10 := p10) (p11 := p11) (p12 := p12) (p15 := p15) (p16 := p16) (s := s) hx (by omega) (by omega) (by omega) (by omega) (hG [⟨.tip false, .vals [.int .u8 p0, .int .u8 p1, .int .u8 p2, .int .u8 p3, .int .i8 p4, .int .i8 p5, .int .u32 (D), .int .u32 (E), .int .u32 p8, .int .u64 p9, .int .u64 p10, .int .u64 p11, .int .u64 p12, x, .bool s, .int .u32 p15, .int .u64 p16]⟩] rfl)
  have f3 := test_c (p0 := p0) (p1 := p1) (p2 := p2) (p3 := p3) (p4 := p4) (p5 := p5) (p6 := d) (p7 := e) (p8 := p8) (p9 := p9) (p10 := p10) (p11 := p11) (p12 := p12) (p15 := p15) (p16 := p16) (s := s) hx d1 (by omega) e1 (by omega) (hG [⟨.tip false, .vals [.int .u8 p0, .int .u8 p1, .int .u8 p2, .int .u8 p3, .int .i8 p4, .int .i8 p5, .int .u32 (D), .int .u32 (E), .int .u32 p8, .int .u64 p9, .int .u64 p10, .int .u64 p11, .int .u64 p12, x, .bool s, .int .u32 p15, .int .u64 p16]⟩] rfl) (hA _)
  have f4 := test_c (p0 := p0) (p1 := p1) (p2 := p2) (p3 := p3) (p4 := p4) (p5 := p5) (p6 := D) (p7 := E) (p8 := p8) (p9 := p9) (p10 := p10) (p11 := p11) (p12 := p12) (p15 := p15) (p16 := p16) (s := s) hx (by omega) (by omega) (by omega) (by omega) (hG [⟨.tip false, .vals [.int .u8 p0, .int .u8 p1, .int .u8 p2, .int .u8 p3, .int .i8 p4, .int .i8 p5, .int .u32 (D), .int .u32 (E), .int .u32 p8, .int .u64 p9, .int .u64 p10, .int .u64 p11, .int .u64 p12, x, .bool s, .int .u32 p15, .int .u64 p16]⟩] rfl) (hA _)
  have f5 := rho_c (p0 := p0) (p1 := p1) (p2 := p2) (p3 := p3) (p4 := p4) (p5 := p5) (p6 := d) (p7 := e + 65536) (p8 := p8) (p9 := p9) (p10 := p10) (p11 := p11) (p12 := p12) (p15 := p15) (p16 := p16) (s := s) hx d1 (by omega) (by omega) (by omega) (hG [⟨.tip false, .vals [.int .u8 p0, .int .u8 p1, .int .u8 p2, .int .u8 p3, .int .i8 p4, .int .i8 p5, .int .u32 (D), .int .u32 (E), .int .u32 p8, .int .u64 p9, .int .u64 p10, .int .u64 p11, .int .u64 p12, x, .bool s, .int .u32 p15, .int .u64 p16]⟩, ⟨.tip false, .vals [.int .u8 p0, .int .u8 p1, .int .u8 p2, .int .u8 p3, .int .i8 p4, .int .i8 p5, .int .u32 (d), .int .u32 (e + 65536), .int .u32 p8, .int .u64 p9, .int .u64 p10, .int .u64 p11, .int .u64 p12, x, .bool s, .int .u32 p15, .int .u64 p16]⟩, ⟨.tip false, .vals [.int .u8 p0, .int .u8 p1, .int .u8 p2, .int .u8 p3, .int .i8 p4, .int .i8 p5, .int .u32 (d + 131072), .int .u32 (e), .int .u32 p8, .int .u64 p9, .int .u64 p10, .int .u64 p11, .int .u64 p12, x, .bool s, .int .u32 p15, .int .u64 p16]⟩] rfl)
  have f6 := rho_c (p0 := p0) (p1 := p1) (p2 := p2) (p3 := p3) (p4 := p4) (p5 := p5) (p6 := d + 131072) (p7 := e) (p8 := p8) (p9 := p9) (p10 := p10) (p11 := p11) (p12 := p12) (p15 := p15) (p16 := p16) (s := s) hx (by omega) (by omega) e1 (by omega) (hG [⟨.tip false, .vals [.int .u8 p0, .int .u8 p1, .int .u8 p2, .int .u8 p3, .int .i8 p4, .int .i8 p5, .int .u32 (D), .int .u32 (E), .int .u32 p8, .int .u64 p9, .int .u64 p10, .int .u64 p11, .int .u64 p12, x, .bool s, .int .u32 p15, .int .u64 p16]⟩, ⟨.tip false, .vals [.int .u8 p0, .int .u8 p1, .int .u8 p2, .int .u8 p3, .int .i8 p4, .int .i8 p5, .int .u32 (d), .int .u32 (e + 65536), .int .u32 p8, .int .u64 p9, .int .u64 p10, .int .u64 p11, .int .u64 p12, x, .bool s, .int .u32 p15, .int .u64 p16]⟩, ⟨.tip false, .vals [.int .u8 p0, .int .u8 p1, .int .u8 p2, .int .u8 p3, .int .i8 p4, .int .i8 p5, .int .u32 (d + 131072), .int .u32 (e), .int .u32 p8, .int .u64 p9, .int .u64 p10, .int .u64 p11, .int .u64 p12, x, .bool s, .int .u32 p15, .int .u64 p16]⟩] rfl)
  rw [r2] at f5
  rw [r3] at f6
  have aw := fun h => law08_alive h
  have hT : testV (!decide (p2 = 4)) (decide (p3 = 0)) (decide (p0 = 3) || decide (15 < p3)) (decide (p11 = 0) || decide (p12 = 0)) (decide (16000000000 < rhoV d e)) ≠ 0 → testV (!decide (p2 = 4)) (decide (p3 = 0)) (decide (p0 = 3) || decide (15 < p3)) (decide (p11 = 0) || decide (p12 = 0)) (decide (16000000000 < rhoV D E)) ≠ 0 :=
    testV_mono _ _ _ _ _ _ fun h => by simp only [decide_eq_true_eq] at h ⊢; omega
  obtain ⟨A, hA'⟩ : ∃ A, rhoV d e = A := ⟨_, rfl⟩
  obtain ⟨B, hB'⟩ : ∃ A, rhoV D E = A := ⟨_, rfl⟩
  rw [hA'] at f1 f5 f6 r1
  rw [hB'] at f2 r1
  rw [hA', hB'] at hT
  rw [hA'] at f3
  rw [hB'] at f4
  obtain ⟨P, hP⟩ : ∃ z, testV (!decide (p2 = 4)) (decide (p3 = 0)) (decide (p0 = 3) || decide (15 < p3)) (decide (p11 = 0) || decide (p12 = 0)) (decide (16000000000 < A)) = z := ⟨_, rfl⟩
  obtain ⟨Q, hQ⟩ : ∃ A, testV (!decide (p2 = 4)) (decide (p3 = 0)) (decide (p0 = 3) || decide (15 < p3)) (decide (p11 = 0) || decide (p12 = 0)) (decide (16000000000 < B)) = A := ⟨_, rfl⟩
  rw [hP] at f3 hT
  rw [hQ] at f4 hT
  have c1 : ¬ B < A := by omega
  have w5 : IntKind.i64.wrap (A + 1000000000) = A + 1000000000 := wr_i64 _ (by omega) (by omega)
  by_cases c2 : P = 0
  · simp (maxDischargeDepth := 9) -implicitDefEqProofs only [push_cast, reduceIte, Nat.reduceEqDiff, Nat.reduceAdd, Nat.reduceSub, Nat.reduceMul, Nat.reduceDiv, Nat.reduceMod, Nat.reduceLT, Nat.reduceLeDiff, Nat.reduceBEq, Nat.reduceBNe, reduceCtorEq, Int.reduceEq, Int.reduceNe, Int.reduceLT, Int.reduceLE, Int.reduceToNat, Int.reduceNeg, Int.reduceAdd, Int.reduceSub, Int.reduceMul, Int.reducePow, Nat.reducePow, Int.reduceBEq, M7, nadd1, nadd2, nadd3, nadd4, nadd5, nadd6, nadd7, nadd8, nadd9, nadd10, nadd11, nadd12, hx, hd, he, hu, hv, w1, w2, w3, w4, f1, f2, f3, f4, f5, f6, c1, c2, w5, aw]
  · have c3 : ¬ Q = 0 := hT c2
    simp (maxDischargeDepth := 9) -implicitDefEqProofs only [push_cast, reduceIte, Nat.reduceEqDiff, Nat.reduceAdd, Nat.reduceSub, Nat.reduceMul, Nat.reduceDiv, Nat.reduceMod, Nat.reduceLT, Nat.reduceLeDiff, Nat.reduceBEq, Nat.reduceBNe, reduceCtorEq, Int.reduceEq, Int.reduceNe, Int.reduceLT, Int.reduceLE, Int.reduceToNat, Int.reduceNeg, Int.reduceAdd, Int.reduceSub, Int.reduceMul, Int.reducePow, Nat.reducePow, Int.reduceBEq, M7, nadd1, nadd2, nadd3, nadd4, nadd5, nadd6, nadd7, nadd8, nadd9, nadd10, nadd11, nadd12, hx, hd, he, hu, hv, w1, w2, w3, w4, f1, f2, f3, f4, f5, f6, c1, c2, c3, w5, aw]
theorem far_all (g : AHeap) (hg : Good g) (ha : At0 g) (n0 : Int) (n1 : Int) (n2 : Int) (n3 : Int) (n4 : Int) (n5 : Int) (n6 : Int) (n7 : Int) (n8 : Int) (n9 : Int) (n10 : Int) (n11 : Int) (n12 : Int) (n13 : AV) (n14 : Bool) (n15 : Int) (n16 : Int) (n17 : Int) (n18 : Int) (a0 : 0 ≤ n0) (b0 : n0 ≤ 255) (a1 : 0 ≤ n1) (b1 : n1 ≤ 255) (a2 : 0 ≤ n2) (b2 : n2 ≤ 255) (a3 : 0 ≤ n3) (b3 : n3 ≤ 255) (a4 : -128 ≤ n4) (b4 : n4 ≤ 127) (a5 : -128 ≤ n5) (b5 : n5 ≤ 127) (a6 : 0 ≤ n6) (b6 : n6 ≤ 4294967295) (a7 : 0 ≤ n7) (b7 : n7 ≤ 4294967295) (a8 : 0 ≤ n8) (b8 : n8 ≤ 4294967295) (a9 : 0 ≤ n9) (b9 : n9 ≤ 18446744073709551615) (a10 : 0 ≤ n10) (b10 : n10 ≤ 18446744073709551615) (a11 : 0 ≤ n11) (b11 : n11 ≤ 18446744073709551615) (a12 : 0 ≤ n12) (b12 : n12 ≤ 18446744073709551615) (a13 : n13.isCell = true) (a15 : 0 ≤ n15) (b15 : n15 ≤ 4294967295) (a16 : 0 ≤ n16) (b16 : n16 ≤ 18446744073709551615) (a17 : 0 ≤ n17) (b17 : n17 ≤ 4294967295) (a18 : 0 ≤ n18) (b18 : n18 ≤ 4294967295) :
    Wp (xbody (W CS) M7 [.agg [.int .u8 n0, .int .u8 n1, .int .u8 n2, .int .u8 n3, .int .i8 n4, .int .i8 n5, .int .u32 n6, .int .u32 n7, .int .u32 n8, .int .u64 n9, .int .u64 n10, .int .u64 n11, .int .u64 n12, n13, .bool n14, .int .u32 n15, .int .u64 n16], .int .u32 n17, .int .u32 n18] g) fun r => r.1 = .bool true := far_body g hg ha n0 n1 n2 n3 n4 n5 n6 n7 n8 n9 n10 n11 n12 n13 n14 n15 n16 n17 n18 a13 a6 a7 a17 a18
theorem far_law (js : AHeap) (avs : List AV) (hx : Ext js) (ht : TyA (CS.gl ++ js) [.agg [.i .u8, .i .u8, .i .u8, .i .u8, .i .i8, .i .i8, .i .u32, .i .u32, .i .u32, .i .u64, .i .u64, .i .u64, .i .u64, .sl [.i .u16, .sl [.i .u8]], .b, .i .u32, .i .u64], .one (.i .u32), .one (.i .u32)] avs) : ∃ h' ws, W CS 7 avs (CS.gl ++ js) = some (.bool true, h', ws) := by
  simp only [TyA] at ht
  obtain ⟨cs0, _, rfl, k0, cs1, _, rfl, k1, cs2, _, rfl, k2, rfl⟩ := ht
  simp only [TyL, Ty] at k0 k1 k2
  obtain ⟨_, _, rfl, ⟨n0, rfl, a0, b0⟩, _, _, rfl, ⟨n1, rfl, a1, b1⟩, _, _, rfl, ⟨n2, rfl, a2, b2⟩, _, _, rfl, ⟨n3, rfl, a3, b3⟩, _, _, rfl, ⟨n4, rfl, a4, b4⟩, _, _, rfl, ⟨n5, rfl, a5, b5⟩, _, _, rfl, ⟨n6, rfl, a6, b6⟩, _, _, rfl, ⟨n7, rfl, a7, b7⟩, _, _, rfl, ⟨n8, rfl, a8, b8⟩, _, _, rfl, ⟨n9, rfl, a9, b9⟩, _, _, rfl, ⟨n10, rfl, a10, b10⟩, _, _, rfl, ⟨n11, rfl, a11, b11⟩, _, _, rfl, ⟨n12, rfl, a12, b12⟩, n13, _, rfl, y13, _, _, rfl, ⟨n14, rfl⟩, _, _, rfl, ⟨n15, rfl, a15, b15⟩, _, _, rfl, ⟨n16, rfl, a16, b16⟩, rfl⟩ := k0
  obtain ⟨n17, rfl, a17, b17⟩ := k1
  obtain ⟨n18, rfl, a18, b18⟩ := k2
  have a0' : 0 ≤ n0 := a0
  have b0' : n0 ≤ 255 := b0
  have a1' : 0 ≤ n1 := a1
  have b1' : n1 ≤ 255 := b1
  have a2' : 0 ≤ n2 := a2
  have b2' : n2 ≤ 255 := b2
  have a3' : 0 ≤ n3 := a3
  have b3' : n3 ≤ 255 := b3
  have a4' : -128 ≤ n4 := a4
  have b4' : n4 ≤ 127 := b4
  have a5' : -128 ≤ n5 := a5
  have b5' : n5 ≤ 127 := b5
  have a6' : 0 ≤ n6 := a6
  have b6' : n6 ≤ 4294967295 := b6
  have a7' : 0 ≤ n7 := a7
  have b7' : n7 ≤ 4294967295 := b7
  have a8' : 0 ≤ n8 := a8
  have b8' : n8 ≤ 4294967295 := b8
  have a9' : 0 ≤ n9 := a9
  have b9' : n9 ≤ 18446744073709551615 := b9
  have a10' : 0 ≤ n10 := a10
  have b10' : n10 ≤ 18446744073709551615 := b10
  have a11' : 0 ≤ n11 := a11
  have b11' : n11 ≤ 18446744073709551615 := b11
  have a12' : 0 ≤ n12 := a12
  have b12' : n12 ≤ 18446744073709551615 := b12
  have a13 : Ty (CS.gl ++ js) (.sl [.i .u16, .sl [.i .u8]]) n13 := by simp only [Ty]; exact y13
  have a15' : 0 ≤ n15 := a15
  have b15' : n15 ≤ 4294967295 := b15
  have a16' : 0 ≤ n16 := a16
  have b16' : n16 ≤ 18446744073709551615 := b16
  have a17' : 0 ≤ n17 := a17
  have b17' : n17 ≤ 4294967295 := b17
  have a18' : 0 ≤ n18 := a18
  have b18' : n18 ≤ 4294967295 := b18
  exact W_law (m := M7) (fun _ => rfl) rfl (far_all _ (good_ext hx) (At0_ext hx) n0 n1 n2 n3 n4 n5 n6 n7 n8 n9 n10 n11 n12 n13 n14 n15 n16 n17 n18 a0' b0' a1' b1' a2' b2' a3' b3' a4' b4' a5' b5' a6' b6' a7' b7' a8' b8' a9' b9' a10' b10' a11' b11' a12' b12' (Ty_cell a13) a15' b15' a16' b16' a17' b17' a18' b18') fun _ => far_all _ good_gl At0_gl n0 n1 n2 n3 n4 n5 n6 n7 n8 n9 n10 n11 n12 n13 n14 n15 n16 n17 n18 a0' b0' a1' b1' a2' b2' a3' b3' a4' b4' a5' b5' a6' b6' a7' b7' a8' b8' a9' b9' a10' b10' a11' b11' a12' b12' (Ty_cell a13) a15' b15' a16' b16' a17' b17' a18' b18'
theorem far_kinds : aksOf X.P 20 [29, 25, 25] = some [.agg [.i .u8, .i .u8, .i .u8, .i .u8, .i .i8, .i .i8, .i .u32, .i .u32, .i .u32, .i .u64, .i .u64, .i .u64, .i .u64, .sl [.i .u16, .sl [.i .u8]], .b, .i .u32, .i .u64], .one (.i .u32), .one (.i .u32)] := by kernel_rfl
end Go.Proofs.YtdbdmnhnijpdcaaDoorW.AI.C
